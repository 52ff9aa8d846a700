/- AggNumbers: the fixed examples of the chapter: the walk. -/
import Derived.Test.YtbpnnilocbgdbaaDoorANumP
namespace Go.Proofs.YtbpnnilocbgdbaaDoor
open Go Go.Ab
set_option linter.unusedVariables false
set_option linter.unusedSimpArgs false
set_option maxRecDepth 100000
set_option maxHeartbeats 8000000

noncomputable def h_newAll (xs : List AV) (m : St) : Res :=
  match xs with
  | [.str name, .bool d] => match decide (newE name d = 0) with
    | true => h_new xs m
    | false => h_newBad xs m
  | _ => .fail
theorem h_newAll_ok (xs : List AV) (m : St) : HRok Tryd.prog GV 24 xs m (h_newAll xs m) := by
  unfold h_newAll
  split
  · split
    · exact h_new_ok _ _
    · exact h_newBad_ok _ _
  · trivial
noncomputable def EG1 : Env := EF3.addH 24 h_newAll
theorem EG1_ok : EnvOk Tryd.prog EG1 := Env.addH_ok EF3_ok (by kernel_rfl) h_newAll_ok
theorem enc_ren' (ρ θ : Nat → Nat) (l : List (List UInt8 × Int)) : ((encM l).map fun p => (ren ρ θ p.1, ren ρ θ p.2)) = encM (sO ((encM l).map fun p => (ren ρ θ p.1, ren ρ θ p.2))) := by rw [ren_enc, sO_enc]
set_option smartUnfolding false in
theorem pc_AggNumbers : PC Tryd.prog GV 8 [] (.bool true) := by
  have m1 := n1' (hx1 (Int.toNat 32768) rfl)
  have m2 := n2' (hx1 (Int.toNat 32768) rfl) (hx2 (Int.toNat 32768) (Int.toNat 1) rfl rfl) (hx3 (Int.toNat 32768) (Int.toNat 1) rfl rfl) (hx4 (Int.toNat 32768) rfl)
  have m3 := n3' (hx1 (Int.toNat 32768) rfl) (hx2 (Int.toNat 32768) (Int.toNat 1) rfl rfl) (hx3 (Int.toNat 32768) (Int.toNat 1) rfl rfl)
  have m4 : ∀ fs, (!comesS ⟨2, 0, (Lib.repeatL [120] (Int.toNat 32768) ++ [44]) ++ List.drop (Int.toNat 1) (Lib.repeatL [120] (Int.toNat 32768))⟩ sC false (lO 2 (two fs (Lib.repeatL [120] (Int.toNat 32768)) (List.drop (Int.toNat 1) (Lib.repeatL [120] (Int.toNat 32768)))))) = true := fun fs => by rw [m2 fs]; rfl
  refine pc_fin EG1_ok mixed (show Tryd.prog.funcs[8]? = some Tryd.f8 from rfl) ?_
  refine loop_unroll EG1_ok mixed 6 ?_
  repeat' (refine BR.mk (fun h => ?_) (fun h => ?_) <;> first | with_reducible exact Bool.noConfusion h | exact absurd h (by decide) | skip)
  · exact ⟨⟨by decide, by decide⟩, by decide, by decide⟩
  · exact (show newE _ false ≠ 0 by decide)
  · exact ⟨⟨by decide, by decide⟩, by decide, by decide⟩
  · exact (show newE _ false ≠ 0 by decide)
  · exact ⟨⟨by decide, by decide⟩, by decide, by decide⟩
  · exact (show newE _ false ≠ 0 by decide)
  · exact ⟨⟨by decide, by decide⟩, by decide, by decide⟩
  · exact (show newE _ false ≠ 0 by decide)
  · exact ⟨⟨by decide, by decide⟩, by decide, by decide⟩
  · exact (show newE _ false ≠ 0 by decide)
  · exact (show newE _ true ≠ 0 by decide)
  refine loop_unroll EG1_ok mixed 5 ?_
  repeat' (refine BR.mk (fun h => ?_) (fun h => ?_) <;> first | with_reducible exact Bool.noConfusion h | with_reducible exact Bool.noConfusion ((m1 _).symm.trans h) | with_reducible exact Bool.noConfusion ((m2 _).symm.trans h) | with_reducible exact Bool.noConfusion ((m3 _).symm.trans h) | with_reducible exact Bool.noConfusion ((m4 _).symm.trans h) | exact absurd h (by decide +kernel) | skip)
  · exact ⟨⟨by decide, by decide⟩, by decide, by decide⟩
  · decide +kernel
  · decide +kernel
  · exact ⟨⟨by decide, by decide⟩, by decide, by decide⟩
  · decide +kernel
  · decide +kernel
  · exact ⟨⟨by decide, by decide⟩, by decide, by decide⟩
  · decide +kernel
  · decide +kernel
  · exact ⟨⟨by decide, by decide⟩, by decide, by decide⟩
  · decide +kernel
  · decide +kernel
  · exact (show commutes _ _ = true by kernel_rfl)
  · decide +kernel
  · decide +kernel
  · decide +kernel
  · exact ⟨by decide, by decide⟩
  · exact ⟨show ([1, 2] : List Nat).Nodup by decide, rfl, fun _ _ => rfl, by first | exact enc_ren' _ _ _ | rfl, by decide, by unfold u64; decide +kernel, by unfold u64; decide +kernel, by decide, by decide +kernel⟩
  · exact ⟨show ([1, 2] : List Nat).Nodup by decide, rfl, fun _ _ => rfl, by first | exact enc_ren' _ _ _ | rfl, by decide, by unfold u64; decide +kernel, by unfold u64; decide +kernel, by decide, by decide +kernel⟩
  · exact ⟨show ([1, 2] : List Nat).Nodup by decide, rfl, fun _ _ => rfl, by first | exact enc_ren' _ _ _ | rfl, by decide, by unfold u64; decide +kernel, by decide +kernel, by decide +kernel, by decide +kernel, by decide +kernel⟩
  · exact ⟨show ([1, 2] : List Nat).Nodup by decide, rfl, fun _ _ => rfl, by first | exact enc_ren' _ _ _ | rfl, by decide, by unfold u64; decide +kernel, by unfold u64; decide +kernel, by decide, by decide +kernel⟩
  · exact ⟨show ([1, 2] : List Nat).Nodup by decide, rfl, fun _ _ => rfl, by first | exact enc_ren' _ _ _ | rfl, by decide, by unfold u64; decide +kernel, by decide +kernel, by decide +kernel, by decide +kernel, by decide +kernel⟩
  · exact ⟨show ([1, 2] : List Nat).Nodup by decide, rfl, by first | exact enc_ren' _ _ _ | rfl, by decide⟩
  · exact ⟨show ([1, 5] : List Nat).Nodup by decide, rfl, fun _ _ => rfl, by first | exact enc_ren' _ _ _ | rfl, by decide, by unfold u64; decide +kernel, by decide +kernel, by decide +kernel, by decide +kernel, by decide +kernel⟩
  · exact ⟨⟨by decide, by decide⟩, by decide⟩
  · exact (show commutes _ _ = true by kernel_rfl)
  · decide +kernel
  · decide +kernel
  · decide +kernel
  · decide +kernel
  · exact ok_two _ (by rw [(hx1 (Int.toNat 32768) rfl)]; decide) (by rw [(hx1 (Int.toNat 32768) rfl)]; decide)
  · rw [(hx1 (Int.toNat 32768) rfl)]; decide
  · exact ⟨by decide, by rw [(hx1 (Int.toNat 32768) rfl)]; decide⟩
  · rw [List.length_append, (hx1 (Int.toNat 32768) rfl), (hx2 (Int.toNat 32768) (Int.toNat 1) rfl rfl)]; decide
  · exact ⟨by decide, by rw [(hx1 (Int.toNat 32768) rfl)]; decide⟩
  · exact ok_two _ (by rw [(hx1 (Int.toNat 32768) rfl)]; decide) (by rw [(hx2 (Int.toNat 32768) (Int.toNat 1) rfl rfl)]; decide)
  · exact ⟨by decide, by rw [(hx1 (Int.toNat 32768) rfl)]; decide⟩
  · rw [(hx2 (Int.toNat 32768) (Int.toNat 1) rfl rfl)]; decide
  · rw [List.length_append, (hx1 (Int.toNat 32768) rfl), (hx2 (Int.toNat 32768) (Int.toNat 1) rfl rfl)]; decide
  · exact ⟨by decide, by rw [(hx1 (Int.toNat 32768) rfl)]; decide⟩
  · exact ok_two _ (by rw [(hx1 (Int.toNat 32768) rfl)]; decide) (by rw [(hx2 (Int.toNat 32768) (Int.toNat 1) rfl rfl)]; decide)
  · exact Fini.mk rfl

end Go.Proofs.YtbpnnilocbgdbaaDoor

/- ValueLikes: the walk. -/
import Derived.Test.YtejepcnoflahkaaGreatDoorLMb
import Derived.Test.YtejepcnoflahkaaGreatDoorVValid
namespace Go.Proofs.YtejepcnoflahkaaGreatDoor
open Go Go.Ab
set_option linter.unusedVariables false
set_option linter.unusedSimpArgs false
set_option maxRecDepth 100000
set_option maxHeartbeats 8000000
theorem called_mono {P : Program} {G G' : World → Prop} (h : ∀ w, G' w → G w) {f : FuncId} {xs : List AV} {r : AV} (k : Called P G f xs r) : Called P G' f xs r :=
  k.elim (fun x => .inl ⟨x.1, PC.mono h x.2⟩) .inr
theorem env_mono {P : Program} {E : Env} (hE : EnvOk P E) {G' : World → Prop} (hs : ∀ w w', G' w → RowKit.Below w.heap.size w w' → G' w') (hg : ∀ w, G' w → E.G w) : EnvOk P { E with G := G' } where
  g := hE.g
  s := hs
  t := fun f xs => by
    have k := hE.t f xs
    show (match E.T f xs with | .no => True | .yes r => Called P G' f xs r | @CR.need C _ r => C → Called P G' f xs r)
    revert k
    cases E.T f xs with
    | no => exact id
    | yes r => exact called_mono hg
    | need C r => exact fun k hc => called_mono hg (k hc)
  h := fun f args m hf => by
    have k := hE.h f args m hf
    show (match E.H f args m with | .fail => True | .ok v m' => callable P f = true ∧ HC P G' f args m v m' | @Res.need C _ v m' => C → callable P f = true ∧ HC P G' f args m v m')
    revert k
    cases E.H f args m with
    | fail => exact id
    | ok v m' => exact fun k => ⟨k.1, HC.mono hg k.2⟩
    | need C v m' => exact fun k hc => ⟨(k hc).1, HC.mono hg (k hc).2⟩
def EL0 : Env := { E16 with G := GU }
theorem EL0_ok : EnvOk Tryz.prog EL0 := env_mono E16_ok GU_s fun _ h => h.1
def EL1 : Env := EL0.add 41 h_map
theorem EL1_ok : EnvOk Tryz.prog EL1 := Env.add_ok EL0_ok (by kernel_rfl) h_map_ok
def EL2 : Env := EL1.add 43 h_valid
theorem EL2_ok : EnvOk Tryz.prog EL2 := Env.add_ok EL1_ok (by kernel_rfl) h_valid_ok
theorem repl_need37 {s : List UInt8} (h : s.length ≤ 60) : s.length < 4294967281 ∧ 1 ≤ ([37] : List UInt8).length ∧ s.length + Lib.countB ⟨s.toArray⟩ ⟨([37] : List UInt8).toArray⟩ * ([37, 37] : List UInt8).length ≤ 140737488355328 := by
  refine ⟨by omega, by decide, ?_⟩
  have hc : Lib.countB ⟨s.toArray⟩ ⟨([37] : List UInt8).toArray⟩ = Lib.count s [37] := rfl
  have := Lib.count_le s [37]
  rw [hc]
  simp only [List.length_cons, List.length_nil]
  omega
theorem caB_up (c : UInt8) : caB 97 c = upB c := by
  unfold caB upB
  by_cases h : 97 ≤ c.toNat ∧ c.toNat < 123
  · rw [if_pos h, if_pos (by omega)]
  · rw [if_neg h, if_neg (by omega)]
theorem caB_lo (c : UInt8) : caB 65 c = loB c := by
  unfold caB loB
  by_cases h : 65 ≤ c.toNat ∧ c.toNat < 91
  · rw [if_pos h, if_pos (by omega)]
  · rw [if_neg h, if_neg (by omega)]
@[reducible] def upN : List UInt8 := [117, 112, 112, 101, 114]
@[reducible] def loN : List UInt8 := [108, 111, 119, 101, 114]
theorem call_up {p : List UInt8} (h : p.length ≤ 65536) : (call1 upN ⟨2, 0, p⟩).v.s = p.map upB := by
  have e : call1 upN ⟨2, 0, p⟩ = textR (casedS 97 (textV ⟨2, 0, p⟩)) := rfl
  have e2 : textV ⟨2, 0, p⟩ = p := by unfold textV; rfl
  have e3 : casedS 97 p = p.map upB := List.map_congr_left fun c _ => caB_up c
  rw [e, e2, e3]
  unfold textR
  rw [if_neg (by rw [List.length_map]; omega)]
theorem call_lo {p : List UInt8} (h : p.length ≤ 65536) : (call1 loN ⟨2, 0, p⟩).v.s = p.map loB := by
  have e : call1 loN ⟨2, 0, p⟩ = textR (casedS 65 (textV ⟨2, 0, p⟩)) := rfl
  have e2 : textV ⟨2, 0, p⟩ = p := by unfold textV; rfl
  have e3 : casedS 65 p = p.map loB := List.map_congr_left fun c _ => caB_lo c
  rw [e, e2, e3]
  unfold textR
  rw [if_neg (by rw [List.length_map]; omega)]
theorem rep95 : ∀ n, Lib.repeatL [95] n = List.replicate n (95 : UInt8) := by
  intro n
  induction n with
  | zero => rfl
  | succ n ih => first | (rw [List.replicate_succ, ← ih]; rfl) | (simp [Lib.repeatL, List.replicate_succ])
theorem lv (s p : List UInt8) : likeV s p = likeR s p := by unfold likeV; rfl
theorem dbl_len : ∀ p : List UInt8, (dbl p).length ≤ 2 * p.length
  | [] => Nat.le_refl _
  | c :: p => by
    have ih := dbl_len p
    by_cases h : c = 37
    · subst h; rw [dbl_star]; simp only [List.length_cons]; omega
    · rw [dbl_lit h]; simp only [List.length_cons]; omega
@[reducible] def plV (s : List UInt8) : List UInt8 := plainS (tvS false s)
theorem plV_len {s : List UInt8} (h : s.length ≤ 60) : (plV s).length ≤ 240 := by
  have h1 := plain_len (tvS false s)
  have h2 := tvS_len false s
  show (plainS (tvS false s)).length ≤ 240
  omega
set_option smartUnfolding false in
theorem pc_likesLaw (s t p q : List UInt8) (hs : s.length ≤ 9223372036854775807) (ht : t.length ≤ 9223372036854775807) (hp : p.length ≤ 9223372036854775807) (hq : q.length ≤ 9223372036854775807) : PC Tryz.prog GU 7 [.str s, .str t, .str p, .str q] (.bool true) := by
  by_cases hB : s.length ≤ 60 ∧ t.length ≤ 60 ∧ p.length ≤ 60 ∧ q.length ≤ 60
  · obtain ⟨h1, h2, h3, h4⟩ := hB
    refine pc_fin EL2_ok mixed (show Tryz.prog.funcs[7]? = some Tryz.f7 from rfl) ?_
    have k1 : decide ((s.length : Int) > 60) = false := decide_eq_false (by omega)
    have k2 : decide ((t.length : Int) > 60) = false := decide_eq_false (by omega)
    have k3 : decide ((p.length : Int) > 60) = false := decide_eq_false (by omega)
    have k4 : decide ((q.length : Int) > 60) = false := decide_eq_false (by omega)
    have hPl : (plainS (tvS false s)).length ≤ 240 := plV_len h1
    have hTl := tvS_len false s
    have hb : bare (plainS (tvS false s)) := plain_bare _
    have hb1 : ∀ x ∈ plainS (tvS false s), x ≠ 37 := fun x hx => (hb x hx).1
    have eU : (call1 [117, 112, 112, 101, 114] { k := ({ k := 2, n := 0, s := plainS (tvS false s) } : V).k, n := ({ k := 2, n := 0, s := plainS (tvS false s) } : V).n, s := ({ k := 2, n := 0, s := plainS (tvS false s) } : V).s }).v.s = (plainS (tvS false s)).map upB := call_up (by omega)
    have eD : (call1 [108, 111, 119, 101, 114] { k := ({ k := 2, n := 0, s := plainS (tvS false s) } : V).k, n := ({ k := 2, n := 0, s := plainS (tvS false s) } : V).n, s := ({ k := 2, n := 0, s := plainS (tvS false s) } : V).s }).v.s = (plainS (tvS false s)).map loB := call_lo (by omega)
    have hU : (call1 [117, 112, 112, 101, 114] { k := ({ k := 2, n := 0, s := plainS (tvS false s) } : V).k, n := ({ k := 2, n := 0, s := plainS (tvS false s) } : V).n, s := ({ k := 2, n := 0, s := plainS (tvS false s) } : V).s }).v.s.length ≤ 9223372036854775807 := by rw [eU, List.length_map]; omega
    have hD : (call1 [108, 111, 119, 101, 114] { k := ({ k := 2, n := 0, s := plainS (tvS false s) } : V).k, n := ({ k := 2, n := 0, s := plainS (tvS false s) } : V).n, s := ({ k := 2, n := 0, s := plainS (tvS false s) } : V).s }).v.s.length ≤ 9223372036854775807 := by rw [eD, List.length_map]; omega
    have hPm : (plainS (tvS false s)).length ≤ 9223372036854775807 := by omega
    have okP : okA ⟨2, 0, plainS (tvS false s)⟩ := ⟨⟨by unfold right; simp; omega, by show (2 : Int) ≠ 0; decide⟩, by show i64 0; decide⟩
    have hT : (tvS false s).length < 35184372088832 := by omega
    have w1 : (IntKind.i64.wrap ((s.length : Int) + 1)).toNat = s.length + 1 := by rw [wrap_id (by unfold i64; omega)]; omega
    have w2 : IntKind.i64.wrap ((s.length : Int) + 1) = (s.length : Int) + 1 := wrap_id (by unfold i64; omega)
    have w0 : ((s.length : Int)).toNat = s.length := by omega
    have hR1 : (Lib.repeatL [95] ((s.length : Int)).toNat).length ≤ 9223372036854775807 := by rw [rep95, List.length_replicate]; omega
    have hR2 : (Lib.repeatL [95] (IntKind.i64.wrap ((s.length : Int) + 1)).toNat).length ≤ 9223372036854775807 := by rw [rep95, List.length_replicate]; omega
    have hDb : (Lib.replaceAll p [37] [37, 37]).length ≤ 9223372036854775807 := by rw [replaceAll_dbl]; have := dbl_len p; omega
    obtain ⟨l1, l2⟩ := like_up_down _ hb
    have kP : (!likeV (plainS (tvS false s)) (plainS (tvS false s))) = false := by rw [lv, like_self _ hb1]; rfl
    have kUD : (!likeV (call1 [117, 112, 112, 101, 114] { k := ({ k := 2, n := 0, s := plainS (tvS false s) } : V).k, n := ({ k := 2, n := 0, s := plainS (tvS false s) } : V).n, s := ({ k := 2, n := 0, s := plainS (tvS false s) } : V).s }).v.s (call1 [108, 111, 119, 101, 114] { k := ({ k := 2, n := 0, s := plainS (tvS false s) } : V).k, n := ({ k := 2, n := 0, s := plainS (tvS false s) } : V).n, s := ({ k := 2, n := 0, s := plainS (tvS false s) } : V).s }).v.s) = false := by rw [lv, eU, eD, l1]; rfl
    have kDU : (!likeV (call1 [108, 111, 119, 101, 114] { k := ({ k := 2, n := 0, s := plainS (tvS false s) } : V).k, n := ({ k := 2, n := 0, s := plainS (tvS false s) } : V).n, s := ({ k := 2, n := 0, s := plainS (tvS false s) } : V).s }).v.s (call1 [117, 112, 112, 101, 114] { k := ({ k := 2, n := 0, s := plainS (tvS false s) } : V).k, n := ({ k := 2, n := 0, s := plainS (tvS false s) } : V).n, s := ({ k := 2, n := 0, s := plainS (tvS false s) } : V).s }).v.s) = false := by rw [lv, eU, eD, l2]; rfl
    have kS : (!likeV s [37]) = false := by rw [lv, like_star]; rfl
    have kW : (!likeV ((t ++ plainS (tvS false s)) ++ s) (([37] ++ plainS (tvS false s)) ++ [37])) = false := by rw [lv, like_within _ _ _ hb1]; rfl
    have kE : (!(likeV s [] == (s == []))) = false := by rw [lv, like_none]; simp
    have kA : likeV s p = true → likeV t q = true → (!likeV (s ++ t) (p ++ q)) = true → False := fun a b c => by
      rw [lv] at a b c
      rw [like_app s p t q a b] at c
      exact Bool.noConfusion c
    have kR1 : (!likeV s (Lib.repeatL [95] ((s.length : Int)).toNat)) = false := by rw [lv, rep95, w0, like_any]; rfl
    have kR2 : likeV s (Lib.repeatL [95] (IntKind.i64.wrap ((s.length : Int) + 1)).toNat) = false := by rw [lv, rep95, w1, like_more]
    have kD : (likeV s (Lib.replaceAll p [37] [37, 37]) == likeV s p) = true := by rw [lv, lv, replaceAll_dbl, like_dbl]; simp
    have kO : (likeV (s ++ [120]) (p ++ [95]) == likeV s p) = true := by rw [lv, lv, like_one]; simp
    have hs2 : s.length < 35184372088832 := by omega
    have oU : ok1 [117, 112, 112, 101, 114] { k := ({ k := 2, n := 0, s := plainS (tvS false s) } : V).k, n := ({ k := 2, n := 0, s := plainS (tvS false s) } : V).n, s := ({ k := 2, n := 0, s := plainS (tvS false s) } : V).s } := ⟨.inr (.inl rfl), okP⟩
    have oD : ok1 [108, 111, 119, 101, 114] { k := ({ k := 2, n := 0, s := plainS (tvS false s) } : V).k, n := ({ k := 2, n := 0, s := plainS (tvS false s) } : V).n, s := ({ k := 2, n := 0, s := plainS (tvS false s) } : V).s } := ⟨.inr (.inr (.inl rfl)), okP⟩
    have oR := repl_need37 h3
    have h37 : ([37] : List UInt8).length ≤ 9223372036854775807 := by decide
    have h00 : ([] : List UInt8).length ≤ 9223372036854775807 := by decide
    have n1 : t.length + (plainS (tvS false s)).length ≤ 9223372036854775807 := by omega
    have n2 : (t ++ (plainS (tvS false s))).length + s.length ≤ 9223372036854775807 := (by simp only [List.length_append, List.length_cons, List.length_nil]; omega)
    have n3 : ([37] : List UInt8).length + (plainS (tvS false s)).length ≤ 9223372036854775807 := (by simp only [List.length_append, List.length_cons, List.length_nil]; omega)
    have n4 : ([37] ++ (plainS (tvS false s))).length + ([37] : List UInt8).length ≤ 9223372036854775807 := (by simp only [List.length_append, List.length_cons, List.length_nil]; omega)
    have n5 : ((t ++ (plainS (tvS false s))) ++ s).length ≤ 9223372036854775807 ∧ (([37] ++ (plainS (tvS false s))) ++ [37]).length ≤ 9223372036854775807 := ⟨(by simp only [List.length_append, List.length_cons, List.length_nil]; omega), (by simp only [List.length_append, List.length_cons, List.length_nil]; omega)⟩
    have n6 : s.length + t.length ≤ 9223372036854775807 := by omega
    have n7 : p.length + q.length ≤ 9223372036854775807 := by omega
    have n8 : (s ++ t).length ≤ 9223372036854775807 ∧ (p ++ q).length ≤ 9223372036854775807 := ⟨(by simp only [List.length_append, List.length_cons, List.length_nil]; omega), (by simp only [List.length_append, List.length_cons, List.length_nil]; omega)⟩
    have n9 : ((0 : Int) ≤ (s.length : Int) ∧ (s.length : Int) ≤ 9223372036854775807) ∧ ([95] : List UInt8).length * ((s.length : Int)).toNat ≤ 140737488355328 := ⟨⟨by omega, by omega⟩, by show 1 * _ ≤ _; omega⟩
    have n10 : ((0 : Int) ≤ IntKind.i64.wrap ((s.length : Int) + 1) ∧ IntKind.i64.wrap ((s.length : Int) + 1) ≤ 9223372036854775807) ∧ ([95] : List UInt8).length * (IntKind.i64.wrap ((s.length : Int) + 1)).toNat ≤ 140737488355328 := ⟨by rw [w2]; exact ⟨by omega, by omega⟩, by rw [w1]; show 1 * _ ≤ _; omega⟩
    have n11 : s.length + ([120] : List UInt8).length ≤ 9223372036854775807 := (by simp only [List.length_append, List.length_cons, List.length_nil]; omega)
    have n12 : p.length + ([95] : List UInt8).length ≤ 9223372036854775807 := (by simp only [List.length_append, List.length_cons, List.length_nil]; omega)
    have n13 : (s ++ [120]).length ≤ 9223372036854775807 ∧ (p ++ [95]).length ≤ 9223372036854775807 := ⟨(by simp only [List.length_append, List.length_cons, List.length_nil]; omega), (by simp only [List.length_append, List.length_cons, List.length_nil]; omega)⟩
    repeat' (refine BR.mk (fun h => ?_) (fun h => ?_) <;> first | with_reducible exact Bool.noConfusion h | with_reducible exact Bool.noConfusion (k1.symm.trans h) | with_reducible exact Bool.noConfusion (k2.symm.trans h) | with_reducible exact Bool.noConfusion (k3.symm.trans h) | with_reducible exact Bool.noConfusion (k4.symm.trans h) | with_reducible exact Bool.noConfusion (kP.symm.trans h) | with_reducible exact Bool.noConfusion (kUD.symm.trans h) | with_reducible exact Bool.noConfusion (kDU.symm.trans h) | with_reducible exact Bool.noConfusion (kS.symm.trans h) | with_reducible exact Bool.noConfusion (kW.symm.trans h) | with_reducible exact Bool.noConfusion (kE.symm.trans h) | with_reducible exact Bool.noConfusion (kR1.symm.trans h) | with_reducible exact Bool.noConfusion (kR2.symm.trans h) | with_reducible exact Bool.noConfusion (kD.symm.trans h) | with_reducible exact Bool.noConfusion (kO.symm.trans h) | with_reducible exact (kA (by assumption) (by assumption) h).elim | skip)
    all_goals first | with_reducible exact ⟨rfl, hs2⟩ | with_reducible exact ⟨rfl, hT⟩ | with_reducible exact oU | with_reducible exact oD | with_reducible exact oR | with_reducible exact ⟨hPm, hPm⟩ | with_reducible exact ⟨hU, hD⟩ | with_reducible exact ⟨hD, hU⟩ | with_reducible exact ⟨hs, h37⟩ | with_reducible exact ⟨hs, h00⟩ | with_reducible exact ⟨hs, hp⟩ | with_reducible exact ⟨ht, hq⟩ | with_reducible exact ⟨hs, hR1⟩ | with_reducible exact ⟨hs, hR2⟩ | with_reducible exact ⟨hs, hDb⟩ | with_reducible exact n1 | with_reducible exact n2 | with_reducible exact n3 | with_reducible exact n4 | with_reducible exact n5 | with_reducible exact n6 | with_reducible exact n7 | with_reducible exact n8 | with_reducible exact n9 | with_reducible exact n10 | with_reducible exact n11 | with_reducible exact n12 | with_reducible exact n13 | with_reducible exact Fini.mk rfl | exact Fini.mk rfl
  · refine pc_fin EL2_ok mixed (show Tryz.prog.funcs[7]? = some Tryz.f7 from rfl) ?_
    have kB : decide ((s.length : Int) > 60) = false → decide ((t.length : Int) > 60) = false → decide ((p.length : Int) > 60) = false → decide ((q.length : Int) > 60) = false → False := fun a b c d => by
      have := of_decide_eq_false a
      have := of_decide_eq_false b
      have := of_decide_eq_false c
      have := of_decide_eq_false d
      exact hB ⟨by omega, by omega, by omega, by omega⟩
    repeat' (refine BR.mk (fun h => ?_) (fun h => ?_) <;> first | with_reducible exact Bool.noConfusion h | with_reducible exact (kB (by assumption) (by assumption) (by assumption) h).elim | skip)
    all_goals exact Fini.mk rfl
end Go.Proofs.YtejepcnoflahkaaGreatDoor

/- AggAgain: Final changes nothing; behind Reset a total is as new: the walk. -/
import Derived.Test.YtbpnnilocbgdbaaDoorAReset
namespace Go.Proofs.YtbpnnilocbgdbaaDoor
open Go Go.Ab
set_option linter.unusedVariables false
set_option linter.unusedSimpArgs false
set_option maxRecDepth 100000
set_option maxHeartbeats 8000000

def bF (bs : List Bool) : Nat → AV := fun i => .bool (bs.getD i false)
theorem nameE_mem {w : Int} (hw : 0 ≤ w ∧ w ≤ 255) : nameE w ∈ names := by
  have := seven hw
  unfold nameE
  rw [List.getD_eq_getElem?_getD, List.getElem?_eq_getElem (by show _ < 7; omega)]
  show names[((IntKind.i64.wrap w).tmod 7).toNat]'_ ∈ names
  exact List.getElem_mem _
@[reducible] def fA (nm : List UInt8) (d : Bool) (l : List V) (i : Nat) : Acc := foldA nm d acc0 (l.take i)
@[reducible] def oA (a : Acc) : Acc := accO a.n a.hi a.lo ⟨a.best.k, a.best.n, a.best.s⟩ a.l.length (vF a.l) (sO (encM a.seen))
theorem oA_self (a : Acc) : oA a = a := accO_self a
theorem enc_ren (ρ θ : Nat → Nat) (l : List (List UInt8 × Int)) : ((encM l).map fun p => (ren ρ θ p.1, ren ρ θ p.2)) = encM (sO ((encM l).map fun p => (ren ρ θ p.1, ren ρ θ p.2))) := by rw [ren_enc, sO_enc]
theorem oA_ren (ρ θ : Nat → Nat) (a : Acc) : accO a.n a.hi a.lo ⟨a.best.k, a.best.n, a.best.s⟩ a.l.length (vF a.l) (sO ((encM a.seen).map fun p => (ren ρ θ p.1, ren ρ θ p.2))) = a := by
  rw [ren_enc]; exact accO_self a
theorem fA_step (nm : List UInt8) (d : Bool) (l : List V) (i : Nat) (h : i < l.length) : stepS nm d (oA (fA nm d l i)) ⟨(l.getD ((i : Int)).toNat null).k, (l.getD ((i : Int)).toNat null).n, (l.getD ((i : Int)).toNat null).s⟩ = fA nm d l (i + 1) := by
  rw [oA_self]
  unfold fA
  rw [foldA_take _ _ _ _ _ h]
  rfl
theorem fA_all (nm : List UInt8) (d : Bool) (l : List V) : fA nm d l l.length = foldA nm d acc0 l := by unfold fA; rw [List.take_length]
@[reducible] def oR (ρ θ : Nat → Nat) (a : Acc) : Acc := accO a.n a.hi a.lo ⟨a.best.k, a.best.n, a.best.s⟩ a.l.length (vF a.l) (sO ((encM a.seen).map fun p => (ren ρ θ p.1, ren ρ θ p.2)))
theorem oR_self (ρ θ : Nat → Nat) (a : Acc) : oR ρ θ a = a := oA_ren ρ θ a
theorem of_is {nm : List UInt8} {d : Bool} {l : List V} (hm : nm ∈ names) (hd : (d && nm == sStar) = false) (ho : OkL l) : ofS nm d l = finalS nm (foldA nm d acc0 l) := by
  unfold ofS
  have he : newE nm d = 0 := by unfold newE; rw [if_pos hm, if_neg (by rw [hd]; decide)]
  rw [if_neg (by omega), if_pos (List.all_eq_true.2 ho.2.1)]
theorem len_oR (l : List V) : (lO (lO l.length (vF l)).length (vF (lO l.length (vF l)))).length = l.length := by rw [lO_len, lO_len]
structure FOk (nm : List UInt8) (a : Acc) (l : List V) : Prop where
  lo : u64 a.lo
  hi : u64 a.hi
  n : nm = sConcat → a.n = 0 ∨ 0 < a.l.length
  len : a.l.length ≤ 1000
  r : ∀ x ∈ a.l, right x = true
  i : ∀ x ∈ a.l, i64 x.n
theorem fA_ok {nm : List UInt8} {d : Bool} {l : List V} (ho : OkL l) (i : Nat) (h : i ≤ l.length) : FOk nm (fA nm d l i) l := by
  have ok := accOk_take (name := nm) (d := d) (l := l) (Nat.le_trans ho.1 (by decide)) i h
  have hl := ho.1
  exact ⟨ok.lo, ok.hi, fun e => by unfold fA; have := ok.n e; omega, by unfold fA; have := ok.len; omega, fun x hx => ho.2.1 x (ok.sub x hx), fun x hx => ho.2.2 x (ok.sub x hx)⟩
theorem step_none (nm : List UInt8) (d : Bool) {l : List V} (ho : OkL l) (i : Nat) (h : i < l.length) : (stepE ⟨(l.getD ((i : Int)).toNat null).k, (l.getD ((i : Int)).toNat null).n, (l.getD ((i : Int)).toNat null).s⟩ != 0) = false := by
  have : stepE (l.getD i null) = 0 := by
    unfold stepE
    rw [ho.2.1 _ (getD_mem h)]; rfl
  show (stepE (l.getD i null) != 0) = false
  rw [this]; rfl
set_option smartUnfolding false in
theorem again_good (w : Int) (hw : 0 ≤ w ∧ w ≤ 255) (d : Bool) (hd : (d && nameE w == sStar) = false) (l : List V) (hR : rightL l = true) (h40 : l.length ≤ 40) (hi : ∀ x ∈ l, i64 x.n) (bs : List Bool) (hb : bs.length ≤ 9223372036854775807) : PC Tryd.prog GV 7 [.int .u8 w, .bool d, .sl .no l.length (vF l), .sl .no bs.length (bF bs)] (.bool true) := by
  refine pc_fin EF3_ok mixed (show Tryd.prog.funcs[7]? = some Tryd.f7 from rfl) ?_
  obtain ⟨ho, hv, hl60⟩ := right_ok hR hi
  have k1 : (!rightL (lO l.length (vF l))) = false := by rw [lO_vF, hR]; rfl
  have k2 : decide ((l.length : Int) > 40) = false := decide_eq_false (by omega)
  have hm := nameE_mem hw
  have hne : nameE w ≠ [] := fun e => absurd (e ▸ hm) (by decide)
  repeat' (refine BR.mk (fun h => ?_) (fun h => ?_) <;> first | with_reducible exact Bool.noConfusion h | with_reducible exact Bool.noConfusion (k1.symm.trans h) | with_reducible exact Bool.noConfusion (k2.symm.trans h) | exact absurd h (by decide) | skip)
  · exact ⟨fun _ _ => rfl, by omega⟩
  · exact (show (7 : Int) ≠ 0 by decide)
  · exact ⟨seven hw, rfl, rfl⟩
  · exact ⟨fun _ _ => rfl, by rw [lO_vF]; exact ho⟩
  · exact ⟨hm, hd⟩
  refine loop_unroll EF3_ok mixed 3 ?_
  repeat' (refine BR.mk (fun h => ?_) (fun h => ?_) <;> first | with_reducible exact Bool.noConfusion h | exact absurd h (by decide) | skip)
  refine loop_fam EF3_ok mixed (σ := Nat) (fun i => i ≤ l.length) (fun i => l.length - i) 0 (Nat.zero_le _) 3 1 [] (fun i => [(0, .int .u8 w), (1, .bool d), (2, .sl .no l.length (vF l)), (3, .sl .no bs.length (bF bs)), (9, .str (nameE w)), (10, .ptr 0 0), (11, .int .i64 (ofS (nameE w) d (lO l.length (vF l))).e), (12, .ptr 1 0), (14, .int .i64 0), (15, .int .i64 i)]) []
    (fun i => [(0, .cells (encV (ofS (nameE w) d (lO l.length (vF l))).v).cells), (1, .cells (accJ (nameE w) d (fA (nameE w) d l i) 0 2)), (2, .map (encM (fA (nameE w) d l i).seen))]) (fun i => [(0, (fA (nameE w) d l i).l.length, 24)]) ?_ ?_ ?_ ?_
  · rfl
  · rfl
  · refine Wk.mk' rfl rfl ⟨fun _ => rfl, fun _ => trivial⟩ ?_ ?_
    repeat' (refine BR.mk (fun _ => ?_) (fun _ => ?_))
    any_goals first | exact trivial | exact Wv.any _ | (refine Wv.int ?_; with_reducible rfl) | (refine Wv.str ?_; with_reducible rfl) | (refine Wv.bool ?_; with_reducible rfl) | refine Wv.int ?_ | refine Wv.str ?_ | refine Wv.bool ?_ | exact Wv.same rfl
    · rfl
    · exact ⟨Nat.le_of_ble_eq_true rfl, .inl ⟨rfl, _, rfl, WvL.same rfl⟩⟩
    · exact ⟨Nat.le_of_ble_eq_true rfl, .inl ⟨rfl, _, rfl, wvl_acc (θ := nam [] 0) (ρ := nam [] 1) rfl rfl rfl (Nat.le_of_ble_eq_true rfl) rfl⟩⟩
    · exact ⟨Nat.le_of_ble_eq_true rfl, .inl ⟨rfl, _, rfl, rfl, rfl, rfl⟩⟩
  · intro i hi
    have ok := fA_ok (nm := nameE w) (d := d) ho i hi
    by_cases hil : i < l.length
    · have k3 : decide ((i : Int) < (l.length : Int)) = true := decide_eq_true (by omega)
      have k5 := step_none (nameE w) d ho i hil
      have ok' := fA_ok (nm := nameE w) (d := d) ho (i + 1) hil
      have hS := fA_step (nameE w) d l i hil
      rw [← hS] at ok'
      by_cases hib : i < bs.length
      · have k4 : decide ((i : Int) < (bs.length : Int)) = true := decide_eq_true (by omega)
        cases ha : bs.getD i false with
        | true =>
          have k6 : bs.getD ((i : Int)).toNat false = true := ha
          repeat' (refine BR.mk (fun h => ?_) (fun h => ?_) <;> first | with_reducible exact Bool.noConfusion h | with_reducible exact Bool.noConfusion (k3.symm.trans h) | with_reducible exact Bool.noConfusion (k4.symm.trans h) | with_reducible exact Bool.noConfusion (k5.symm.trans h) | with_reducible exact Bool.noConfusion (k6.symm.trans h) | skip)
          · exact ⟨⟨by omega, by omega⟩, rfl, rfl⟩
          · exact ⟨by decide, rfl, fun _ _ => rfl, by rw [sO_enc], hm, ok.hi, ok.lo, ho.2.2 _ (getD_mem hil), by have := ok.len; omega⟩
          · exact ⟨⟨by omega, by omega⟩, rfl, rfl⟩
          · exact ⟨show ([1, 2] : List Nat).Nodup by decide, rfl, fun _ _ => rfl, enc_ren _ _ _, hm, ok'.lo, ok'.n, ok'.len, fun x h => ok'.r x ((lO_vF _).subst (motive := fun m => x ∈ m) h), fun x h => ok'.i x ((lO_vF _).subst (motive := fun m => x ∈ m) h)⟩
          · refine Again.fam (i + 1) hil (by show _ < _; omega) rfl rfl rfl rfl ⟨fun _ => ?_, fun _ => trivial⟩ ?_ ?_
            · exact congrArg (fun a : Acc => some (a.l.length, 24)) ((oA_ren _ _ _).trans hS).symm
            · repeat' (refine BR.mk (fun _ => ?_) (fun _ => ?_))
              any_goals first | exact trivial | exact Wv.any _ | (refine Wv.int ?_; with_reducible rfl) | (refine Wv.str ?_; with_reducible rfl) | (refine Wv.bool ?_; with_reducible rfl) | refine Wv.int ?_ | refine Wv.str ?_ | refine Wv.bool ?_ | exact Wv.same rfl
              rw [wrap_id (by unfold i64; omega)]; rfl
            · repeat' (refine BR.mk (fun _ => ?_) (fun _ => ?_))
              any_goals first | exact trivial | exact Wv.any _ | (refine Wv.int ?_; with_reducible rfl) | (refine Wv.str ?_; with_reducible rfl) | (refine Wv.bool ?_; with_reducible rfl) | refine Wv.int ?_ | refine Wv.str ?_ | refine Wv.bool ?_ | exact Wv.same rfl
              · exact ⟨Nat.le_of_ble_eq_true rfl, .inl ⟨rfl, _, rfl, WvL.same rfl⟩⟩
              · exact ⟨Nat.le_of_ble_eq_true rfl, .inl ⟨rfl, _, rfl, wvl_acc (θ := nam [0] 1) (ρ := nam [1, 2] 3) ((oA_ren _ _ _).trans hS) rfl rfl (Nat.le_of_ble_eq_true rfl) rfl⟩⟩
              · exact ⟨Nat.le_of_ble_eq_true rfl, .inl ⟨rfl, _, rfl, wvb_map (ρ := nam [1, 2] 3) (θ := nam [0] 1) (congrArg Acc.seen ((oA_ren _ _ _).trans hS))⟩⟩
        | false =>
          have k6 : bs.getD ((i : Int)).toNat false = false := ha
          repeat' (refine BR.mk (fun h => ?_) (fun h => ?_) <;> first | with_reducible exact Bool.noConfusion h | with_reducible exact Bool.noConfusion (k3.symm.trans h) | with_reducible exact Bool.noConfusion (k4.symm.trans h) | with_reducible exact Bool.noConfusion (k5.symm.trans h) | with_reducible exact Bool.noConfusion (k6.symm.trans h) | skip)
          · exact ⟨⟨by omega, by omega⟩, rfl, rfl⟩
          · exact ⟨by decide, rfl, fun _ _ => rfl, by rw [sO_enc], hm, ok.hi, ok.lo, ho.2.2 _ (getD_mem hil), by have := ok.len; omega⟩
          · exact ⟨⟨by omega, by omega⟩, rfl, rfl⟩
          · refine Again.fam (i + 1) hil (by show _ < _; omega) rfl rfl rfl rfl ⟨fun _ => ?_, fun _ => trivial⟩ ?_ ?_
            · exact congrArg (fun a : Acc => some (a.l.length, 24)) hS.symm
            · repeat' (refine BR.mk (fun _ => ?_) (fun _ => ?_))
              any_goals first | exact trivial | exact Wv.any _ | (refine Wv.int ?_; with_reducible rfl) | (refine Wv.str ?_; with_reducible rfl) | (refine Wv.bool ?_; with_reducible rfl) | refine Wv.int ?_ | refine Wv.str ?_ | refine Wv.bool ?_ | exact Wv.same rfl
              rw [wrap_id (by unfold i64; omega)]; rfl
            · repeat' (refine BR.mk (fun _ => ?_) (fun _ => ?_))
              any_goals first | exact trivial | exact Wv.any _ | (refine Wv.int ?_; with_reducible rfl) | (refine Wv.str ?_; with_reducible rfl) | (refine Wv.bool ?_; with_reducible rfl) | refine Wv.int ?_ | refine Wv.str ?_ | refine Wv.bool ?_ | exact Wv.same rfl
              · exact ⟨Nat.le_of_ble_eq_true rfl, .inl ⟨rfl, _, rfl, WvL.same rfl⟩⟩
              · exact ⟨Nat.le_of_ble_eq_true rfl, .inl ⟨rfl, _, rfl, wvl_acc (θ := nam [0] 1) (ρ := nam [1, 2] 3) hS rfl rfl (Nat.le_of_ble_eq_true rfl) rfl⟩⟩
              · exact ⟨Nat.le_of_ble_eq_true rfl, .inl ⟨rfl, _, rfl, wvb_map (ρ := nam [1, 2] 3) (θ := nam [0] 1) (congrArg Acc.seen hS)⟩⟩
      · have k4 : decide ((i : Int) < (bs.length : Int)) = false := decide_eq_false (by omega)
        repeat' (refine BR.mk (fun h => ?_) (fun h => ?_) <;> first | with_reducible exact Bool.noConfusion h | with_reducible exact Bool.noConfusion (k3.symm.trans h) | with_reducible exact Bool.noConfusion (k4.symm.trans h) | with_reducible exact Bool.noConfusion (k5.symm.trans h) | skip)
        · exact ⟨⟨by omega, by omega⟩, rfl, rfl⟩
        · exact ⟨by decide, rfl, fun _ _ => rfl, by rw [sO_enc], hm, ok.hi, ok.lo, ho.2.2 _ (getD_mem hil), by have := ok.len; omega⟩
        · refine Again.fam (i + 1) hil (by show _ < _; omega) rfl rfl rfl rfl ⟨fun _ => ?_, fun _ => trivial⟩ ?_ ?_
          · exact congrArg (fun a : Acc => some (a.l.length, 24)) hS.symm
          · repeat' (refine BR.mk (fun _ => ?_) (fun _ => ?_))
            any_goals first | exact trivial | exact Wv.any _ | (refine Wv.int ?_; with_reducible rfl) | (refine Wv.str ?_; with_reducible rfl) | (refine Wv.bool ?_; with_reducible rfl) | refine Wv.int ?_ | refine Wv.str ?_ | refine Wv.bool ?_ | exact Wv.same rfl
            rw [wrap_id (by unfold i64; omega)]; rfl
          · repeat' (refine BR.mk (fun _ => ?_) (fun _ => ?_))
            any_goals first | exact trivial | exact Wv.any _ | (refine Wv.int ?_; with_reducible rfl) | (refine Wv.str ?_; with_reducible rfl) | (refine Wv.bool ?_; with_reducible rfl) | refine Wv.int ?_ | refine Wv.str ?_ | refine Wv.bool ?_ | exact Wv.same rfl
            · exact ⟨Nat.le_of_ble_eq_true rfl, .inl ⟨rfl, _, rfl, WvL.same rfl⟩⟩
            · exact ⟨Nat.le_of_ble_eq_true rfl, .inl ⟨rfl, _, rfl, wvl_acc (θ := nam [0] 1) (ρ := nam [1, 2] 3) hS rfl rfl (Nat.le_of_ble_eq_true rfl) rfl⟩⟩
            · exact ⟨Nat.le_of_ble_eq_true rfl, .inl ⟨rfl, _, rfl, wvb_map (ρ := nam [1, 2] 3) (θ := nam [0] 1) (congrArg Acc.seen hS)⟩⟩
    · have k3 : decide ((i : Int) < (l.length : Int)) = false := decide_eq_false (by omega)
      obtain rfl : i = l.length := by omega
      repeat' (refine BR.mk (fun h => ?_) (fun h => ?_) <;> first | with_reducible exact Bool.noConfusion h | with_reducible exact Bool.noConfusion (k3.symm.trans h) | skip)
      have okO : FOk (nameE w) (oA (fA (nameE w) d l l.length)) l := by rw [oA_self]; exact ok
      have hW : finalS (nameE w) (fA (nameE w) d l l.length) = ofS (nameE w) d (lO l.length (vF l)) := by
        rw [lO_vF, fA_all]; exact (of_is hm hd ho).symm
      have kA : (!sameV (finalS (nameE w) (oA (fA (nameE w) d l l.length))).v (ofS (nameE w) d (lO l.length (vF l))).v) = false := by rw [oA_self, hW, same_v rfl]; rfl
      have kB : ((finalS (nameE w) (oA (fA (nameE w) d l l.length))).e != (ofS (nameE w) d (lO l.length (vF l))).e) = false := by rw [oA_self, hW, bne, same_e rfl]; rfl
      have kC : ∀ ρ θ, (!sameV (finalS (nameE w) (oR ρ θ (oA (fA (nameE w) d l l.length)))).v (ofS (nameE w) d (lO l.length (vF l))).v) = false := fun ρ θ => by rw [oR_self, oA_self, hW, same_v rfl]; rfl
      have kD : ∀ ρ θ, ((finalS (nameE w) (oR ρ θ (oA (fA (nameE w) d l l.length)))).e != (ofS (nameE w) d (lO l.length (vF l))).e) = false := fun ρ θ => by rw [oR_self, oA_self, hW, bne, same_e rfl]; rfl
      refine loop_unroll EF3_ok mixed 3 ?_
      repeat' (refine BR.mk (fun h => ?_) (fun h => ?_) <;> first | with_reducible exact Bool.noConfusion h | exact absurd h (by decide) | with_reducible exact Bool.noConfusion (kA.symm.trans h) | with_reducible exact Bool.noConfusion (kB.symm.trans h) | with_reducible exact Bool.noConfusion ((kC _ _).symm.trans h) | with_reducible exact Bool.noConfusion ((kD _ _).symm.trans h) | skip)
      · exact ⟨show ([1, 2] : List Nat).Nodup by decide, rfl, fun _ _ => rfl, by rw [sO_enc], hm, ok.lo, ok.n, ok.len, fun x h => ok.r x ((lO_vF _).subst (motive := fun m => x ∈ m) h), fun x h => ok.i x ((lO_vF _).subst (motive := fun m => x ∈ m) h)⟩
      · exact ⟨show ([1, 2] : List Nat).Nodup by decide, rfl, fun _ _ => rfl, enc_ren _ _ _, hm, okO.lo, okO.n, okO.len, fun x h => okO.r x ((lO_vF _).subst (motive := fun m => x ∈ m) h), fun x h => okO.i x ((lO_vF _).subst (motive := fun m => x ∈ m) h)⟩
      · exact ⟨show ([1, 2] : List Nat).Nodup by decide, rfl, enc_ren _ _ _, hne⟩
      · skip
        refine loop_fam EF3_ok mixed (σ := Nat) (fun i => i ≤ l.length) (fun i => l.length - i) 0 (Nat.zero_le _) 6 2 [] (fun i => [(0, .int .u8 w), (1, .bool d), (2, .sl .no l.length (vF l)), (3, .sl .no bs.length (bF bs)), (9, .str (nameE w)), (10, .ptr 0 0), (11, .int .i64 (ofS (nameE w) d (lO l.length (vF l))).e), (12, .ptr 1 0), (14, .int .i64 1), (15, .int .i64 i)]) []
          (fun i => [(0, .cells (encV (ofS (nameE w) d (lO l.length (vF l))).v).cells), (1, .cells (accJ (nameE w) d (fA (nameE w) d l i) 1 5)), (5, .map (encM (fA (nameE w) d l i).seen))]) (fun i => [(0, (fA (nameE w) d l l.length).l.length, 24), (1, (fA (nameE w) d l i).l.length, 24)]) ?_ ?_ ?_ ?_
        · rfl
        · rfl
        · refine Wk.mk' rfl rfl ⟨fun _ => rfl, fun _ => ⟨fun _ => ?_, fun _ => trivial⟩⟩ ?_ ?_
          · refine congrArg (fun n : Nat => some (n, 24)) ?_
            exact (len_oR _).symm
          · repeat' (refine BR.mk (fun _ => ?_) (fun _ => ?_))
            any_goals first | exact trivial | exact Wv.any _ | (refine Wv.int ?_; with_reducible rfl) | (refine Wv.str ?_; with_reducible rfl) | (refine Wv.bool ?_; with_reducible rfl) | refine Wv.int ?_ | refine Wv.str ?_ | refine Wv.bool ?_ | exact Wv.same rfl
            all_goals rfl
          · repeat' (refine BR.mk (fun _ => ?_) (fun _ => ?_))
            any_goals first | exact trivial | exact Wv.any _ | (refine Wv.int ?_; with_reducible rfl) | (refine Wv.str ?_; with_reducible rfl) | (refine Wv.bool ?_; with_reducible rfl) | refine Wv.int ?_ | refine Wv.str ?_ | refine Wv.bool ?_ | exact Wv.same rfl
            · exact ⟨Nat.le_of_ble_eq_true rfl, .inl ⟨rfl, _, rfl, WvL.same rfl⟩⟩
            · exact ⟨Nat.le_of_ble_eq_true rfl, .inl ⟨rfl, _, rfl, .cons (.same rfl) (.cons (.same rfl) (.cons (.same rfl) (.cons (.same rfl) (.cons (.same rfl) (.cons (.same rfl) (.cons (.same rfl) (.cons (.same rfl) (.cons (Wv.sl rfl (fun i hi => absurd hi (Nat.not_lt_zero _)) ⟨rfl, Nat.le_of_ble_eq_true rfl⟩) (.cons (.same rfl) .nil)))))))))⟩⟩
            · exact ⟨Nat.le_of_ble_eq_true rfl, .inl ⟨rfl, _, rfl, rfl, rfl, rfl⟩⟩
        · intro i hi
          have ok := fA_ok (nm := nameE w) (d := d) ho i hi
          by_cases hil : i < l.length
          · have k3 : decide ((i : Int) < (l.length : Int)) = true := decide_eq_true (by omega)
            have k5 := step_none (nameE w) d ho i hil
            have ok' := fA_ok (nm := nameE w) (d := d) ho (i + 1) hil
            have hS := fA_step (nameE w) d l i hil
            rw [← hS] at ok'
            by_cases hib : i < bs.length
            · have k4 : decide ((i : Int) < (bs.length : Int)) = true := decide_eq_true (by omega)
              cases ha : bs.getD i false with
              | true =>
                have k6 : bs.getD ((i : Int)).toNat false = true := ha
                repeat' (refine BR.mk (fun h => ?_) (fun h => ?_) <;> first | with_reducible exact Bool.noConfusion h | with_reducible exact Bool.noConfusion (k3.symm.trans h) | with_reducible exact Bool.noConfusion (k4.symm.trans h) | with_reducible exact Bool.noConfusion (k5.symm.trans h) | with_reducible exact Bool.noConfusion (k6.symm.trans h) | skip)
                · exact ⟨⟨by omega, by omega⟩, rfl, rfl⟩
                · exact ⟨by decide, rfl, fun _ _ => rfl, by rw [sO_enc], hm, ok.hi, ok.lo, ho.2.2 _ (getD_mem hil), by have := ok.len; omega⟩
                · exact ⟨⟨by omega, by omega⟩, rfl, rfl⟩
                · exact ⟨show ([1, 5] : List Nat).Nodup by decide, rfl, fun _ _ => rfl, enc_ren _ _ _, hm, ok'.lo, ok'.n, ok'.len, fun x h => ok'.r x ((lO_vF _).subst (motive := fun m => x ∈ m) h), fun x h => ok'.i x ((lO_vF _).subst (motive := fun m => x ∈ m) h)⟩
                · refine Again.fam (i + 1) hil (by show _ < _; omega) rfl rfl rfl rfl ⟨fun _ => ?_, fun _ => ⟨fun _ => rfl, fun _ => trivial⟩⟩ ?_ ?_
                  · exact congrArg (fun a : Acc => some (a.l.length, 24)) ((oA_ren _ _ _).trans hS).symm
                  · repeat' (refine BR.mk (fun _ => ?_) (fun _ => ?_))
                    any_goals first | exact trivial | exact Wv.any _ | (refine Wv.int ?_; with_reducible rfl) | (refine Wv.str ?_; with_reducible rfl) | (refine Wv.bool ?_; with_reducible rfl) | refine Wv.int ?_ | refine Wv.str ?_ | refine Wv.bool ?_ | exact Wv.same rfl
                    rw [wrap_id (by unfold i64; omega)]; rfl
                  · repeat' (refine BR.mk (fun _ => ?_) (fun _ => ?_))
                    any_goals first | exact trivial | exact Wv.any _ | (refine Wv.int ?_; with_reducible rfl) | (refine Wv.str ?_; with_reducible rfl) | (refine Wv.bool ?_; with_reducible rfl) | refine Wv.int ?_ | refine Wv.str ?_ | refine Wv.bool ?_ | exact Wv.same rfl
                    · exact ⟨Nat.le_of_ble_eq_true rfl, .inl ⟨rfl, _, rfl, WvL.same rfl⟩⟩
                    · exact ⟨Nat.le_of_ble_eq_true rfl, .inl ⟨rfl, _, rfl, wvl_acc (θ := nam [1] 2) (ρ := nam [1, 5] 6) ((oA_ren _ _ _).trans hS) rfl rfl (Nat.le_of_ble_eq_true rfl) rfl⟩⟩
                    · exact ⟨Nat.le_of_ble_eq_true rfl, .inl ⟨rfl, _, rfl, wvb_map (ρ := nam [1, 5] 6) (θ := nam [1] 2) (congrArg Acc.seen ((oA_ren _ _ _).trans hS))⟩⟩
              | false =>
                have k6 : bs.getD ((i : Int)).toNat false = false := ha
                repeat' (refine BR.mk (fun h => ?_) (fun h => ?_) <;> first | with_reducible exact Bool.noConfusion h | with_reducible exact Bool.noConfusion (k3.symm.trans h) | with_reducible exact Bool.noConfusion (k4.symm.trans h) | with_reducible exact Bool.noConfusion (k5.symm.trans h) | with_reducible exact Bool.noConfusion (k6.symm.trans h) | skip)
                · exact ⟨⟨by omega, by omega⟩, rfl, rfl⟩
                · exact ⟨by decide, rfl, fun _ _ => rfl, by rw [sO_enc], hm, ok.hi, ok.lo, ho.2.2 _ (getD_mem hil), by have := ok.len; omega⟩
                · exact ⟨⟨by omega, by omega⟩, rfl, rfl⟩
                · refine Again.fam (i + 1) hil (by show _ < _; omega) rfl rfl rfl rfl ⟨fun _ => ?_, fun _ => ⟨fun _ => rfl, fun _ => trivial⟩⟩ ?_ ?_
                  · exact congrArg (fun a : Acc => some (a.l.length, 24)) hS.symm
                  · repeat' (refine BR.mk (fun _ => ?_) (fun _ => ?_))
                    any_goals first | exact trivial | exact Wv.any _ | (refine Wv.int ?_; with_reducible rfl) | (refine Wv.str ?_; with_reducible rfl) | (refine Wv.bool ?_; with_reducible rfl) | refine Wv.int ?_ | refine Wv.str ?_ | refine Wv.bool ?_ | exact Wv.same rfl
                    rw [wrap_id (by unfold i64; omega)]; rfl
                  · repeat' (refine BR.mk (fun _ => ?_) (fun _ => ?_))
                    any_goals first | exact trivial | exact Wv.any _ | (refine Wv.int ?_; with_reducible rfl) | (refine Wv.str ?_; with_reducible rfl) | (refine Wv.bool ?_; with_reducible rfl) | refine Wv.int ?_ | refine Wv.str ?_ | refine Wv.bool ?_ | exact Wv.same rfl
                    · exact ⟨Nat.le_of_ble_eq_true rfl, .inl ⟨rfl, _, rfl, WvL.same rfl⟩⟩
                    · exact ⟨Nat.le_of_ble_eq_true rfl, .inl ⟨rfl, _, rfl, wvl_acc (θ := nam [1] 2) (ρ := nam [1, 5] 6) hS rfl rfl (Nat.le_of_ble_eq_true rfl) rfl⟩⟩
                    · exact ⟨Nat.le_of_ble_eq_true rfl, .inl ⟨rfl, _, rfl, wvb_map (ρ := nam [1, 5] 6) (θ := nam [1] 2) (congrArg Acc.seen hS)⟩⟩
            · have k4 : decide ((i : Int) < (bs.length : Int)) = false := decide_eq_false (by omega)
              repeat' (refine BR.mk (fun h => ?_) (fun h => ?_) <;> first | with_reducible exact Bool.noConfusion h | with_reducible exact Bool.noConfusion (k3.symm.trans h) | with_reducible exact Bool.noConfusion (k4.symm.trans h) | with_reducible exact Bool.noConfusion (k5.symm.trans h) | skip)
              · exact ⟨⟨by omega, by omega⟩, rfl, rfl⟩
              · exact ⟨by decide, rfl, fun _ _ => rfl, by rw [sO_enc], hm, ok.hi, ok.lo, ho.2.2 _ (getD_mem hil), by have := ok.len; omega⟩
              · refine Again.fam (i + 1) hil (by show _ < _; omega) rfl rfl rfl rfl ⟨fun _ => ?_, fun _ => ⟨fun _ => rfl, fun _ => trivial⟩⟩ ?_ ?_
                · exact congrArg (fun a : Acc => some (a.l.length, 24)) hS.symm
                · repeat' (refine BR.mk (fun _ => ?_) (fun _ => ?_))
                  any_goals first | exact trivial | exact Wv.any _ | (refine Wv.int ?_; with_reducible rfl) | (refine Wv.str ?_; with_reducible rfl) | (refine Wv.bool ?_; with_reducible rfl) | refine Wv.int ?_ | refine Wv.str ?_ | refine Wv.bool ?_ | exact Wv.same rfl
                  rw [wrap_id (by unfold i64; omega)]; rfl
                · repeat' (refine BR.mk (fun _ => ?_) (fun _ => ?_))
                  any_goals first | exact trivial | exact Wv.any _ | (refine Wv.int ?_; with_reducible rfl) | (refine Wv.str ?_; with_reducible rfl) | (refine Wv.bool ?_; with_reducible rfl) | refine Wv.int ?_ | refine Wv.str ?_ | refine Wv.bool ?_ | exact Wv.same rfl
                  · exact ⟨Nat.le_of_ble_eq_true rfl, .inl ⟨rfl, _, rfl, WvL.same rfl⟩⟩
                  · exact ⟨Nat.le_of_ble_eq_true rfl, .inl ⟨rfl, _, rfl, wvl_acc (θ := nam [1] 2) (ρ := nam [1, 5] 6) hS rfl rfl (Nat.le_of_ble_eq_true rfl) rfl⟩⟩
                  · exact ⟨Nat.le_of_ble_eq_true rfl, .inl ⟨rfl, _, rfl, wvb_map (ρ := nam [1, 5] 6) (θ := nam [1] 2) (congrArg Acc.seen hS)⟩⟩
          · have k3 : decide ((i : Int) < (l.length : Int)) = false := decide_eq_false (by omega)
            obtain rfl : i = l.length := by omega
            repeat' (refine BR.mk (fun h => ?_) (fun h => ?_) <;> first | with_reducible exact Bool.noConfusion h | with_reducible exact Bool.noConfusion (k3.symm.trans h) | skip)
            have okO : FOk (nameE w) (oA (fA (nameE w) d l l.length)) l := by rw [oA_self]; exact ok
            have hW : finalS (nameE w) (fA (nameE w) d l l.length) = ofS (nameE w) d (lO l.length (vF l)) := by
              rw [lO_vF, fA_all]; exact (of_is hm hd ho).symm
            have kA : (!sameV (finalS (nameE w) (oA (fA (nameE w) d l l.length))).v (ofS (nameE w) d (lO l.length (vF l))).v) = false := by rw [oA_self, hW, same_v rfl]; rfl
            have kB : ((finalS (nameE w) (oA (fA (nameE w) d l l.length))).e != (ofS (nameE w) d (lO l.length (vF l))).e) = false := by rw [oA_self, hW, bne, same_e rfl]; rfl
            have kC : ∀ ρ θ, (!sameV (finalS (nameE w) (oR ρ θ (oA (fA (nameE w) d l l.length)))).v (ofS (nameE w) d (lO l.length (vF l))).v) = false := fun ρ θ => by rw [oR_self, oA_self, hW, same_v rfl]; rfl
            have kD : ∀ ρ θ, ((finalS (nameE w) (oR ρ θ (oA (fA (nameE w) d l l.length)))).e != (ofS (nameE w) d (lO l.length (vF l))).e) = false := fun ρ θ => by rw [oR_self, oA_self, hW, bne, same_e rfl]; rfl
            refine loop_unroll EF3_ok mixed 3 ?_
            repeat' (refine BR.mk (fun h => ?_) (fun h => ?_) <;> first | with_reducible exact Bool.noConfusion h | exact absurd h (by decide) | with_reducible exact Bool.noConfusion (kA.symm.trans h) | with_reducible exact Bool.noConfusion (kB.symm.trans h) | with_reducible exact Bool.noConfusion ((kC _ _).symm.trans h) | with_reducible exact Bool.noConfusion ((kD _ _).symm.trans h) | skip)
            · exact ⟨show ([1, 5] : List Nat).Nodup by decide, rfl, fun _ _ => rfl, by rw [sO_enc], hm, ok.lo, ok.n, ok.len, fun x h => ok.r x ((lO_vF _).subst (motive := fun m => x ∈ m) h), fun x h => ok.i x ((lO_vF _).subst (motive := fun m => x ∈ m) h)⟩
            · exact ⟨show ([1, 5] : List Nat).Nodup by decide, rfl, fun _ _ => rfl, enc_ren _ _ _, hm, okO.lo, okO.n, okO.len, fun x h => okO.r x ((lO_vF _).subst (motive := fun m => x ∈ m) h), fun x h => okO.i x ((lO_vF _).subst (motive := fun m => x ∈ m) h)⟩
            · exact ⟨show ([1, 5] : List Nat).Nodup by decide, rfl, enc_ren _ _ _, hne⟩
            · exact Fini.mk rfl

end Go.Proofs.YtbpnnilocbgdbaaDoor

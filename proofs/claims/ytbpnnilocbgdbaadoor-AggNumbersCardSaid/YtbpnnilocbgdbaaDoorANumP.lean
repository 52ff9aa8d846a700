/- AggNumbers: texts that are too long, in plain Lean. -/
import Derived.Test.YtbpnnilocbgdbaaDoorAReset
namespace Go.Proofs.YtbpnnilocbgdbaaDoor
open Go Go.Ab
set_option linter.unusedVariables false
set_option linter.unusedSimpArgs false
set_option maxRecDepth 100000
set_option maxHeartbeats 8000000

theorem cb_rep (c : UInt8) : ∀ n, Lib.compareBytes (List.replicate (n + 1) c) (List.replicate n c) = 1
  | 0 => rfl
  | n + 1 => by
    rw [List.replicate_succ, List.replicate_succ (n := n)]
    simp only [Lib.compareBytes]
    rw [if_neg (by simp), if_neg (by simp)]
    exact cb_rep c n
@[reducible] def tx (s : List UInt8) : V := ⟨2, 0, s⟩
@[reducible] def sC : List UInt8 := [103, 114, 111, 117, 112, 95, 99, 111, 110, 99, 97, 116]
theorem tx_right {s : List UInt8} (h : s.length ≤ 65536) : okV' (tx s) := ⟨by unfold right; simp [h], by show i64 0; decide⟩
theorem of_two {x y : List UInt8} (hx : x.length ≤ 65536) (hy : y.length ≤ 65536) : ofS sC false [tx x, tx y] = joinS [tx x, tx y] := by
  rw [of_tot (name := sC) (d := false) (by decide) (fun v hv => ?_) (by show 2 < 1000000; omega)]
  · rfl
  · rcases List.mem_cons.1 hv with rfl | hv
    · exact tx_right hx
    · rw [List.mem_singleton.1 hv]; exact tx_right hy
theorem text_tx (s : List UInt8) : textV (tx s) = s := by unfold textV; rfl
theorem cmp_tx (x y : List UInt8) : compareV (tx x) (tx y) = Lib.compareBytes x y := by unfold compareV; rfl
theorem join_two (x y : V) : joinS [x, y] = if 1 + (textV x).length + (textV y).length > 65536 then ⟨null, 3⟩ else ⟨⟨2, 0, if compareV x y < 0 then textV x ++ 44 :: textV y else textV y ++ 44 :: textV x⟩, 0⟩ := by
  have hs : sortV [x, y] = if compareV x y < 0 then [x, y] else [y, x] := rfl
  unfold joinS
  rw [hs]
  by_cases h : compareV x y < 0
  · rw [if_pos h, if_pos h]
    have e : ∀ a b : List UInt8, Lib.join [a, b] [44] = a ++ 44 :: b := fun a b => by rw [Lib.join_cons]; simp [Lib.joinTail]
    have e2 : ([x, y].map textV) = [textV x, textV y] := rfl
    rw [e2, e]
    have e3 : [x, y].length - 1 + lenL [textV x, textV y] = 1 + (textV x).length + (textV y).length := by simp [lenL]; omega
    rw [e3]
  · rw [if_neg h, if_neg h]
    have e : ∀ a b : List UInt8, Lib.join [a, b] [44] = a ++ 44 :: b := fun a b => by rw [Lib.join_cons]; simp [Lib.joinTail]
    have e2 : ([y, x].map textV) = [textV y, textV x] := rfl
    rw [e2, e]
    have e3 : [x, y].length - 1 + lenL [textV y, textV x] = 1 + (textV x).length + (textV y).length := by simp [lenL]; omega
    rw [e3]
theorem rep_is (n : Nat) : Lib.repeatL [120] n = List.replicate n (120 : UInt8) := by
  induction n with
  | zero => rfl
  | succ n ih => first | (rw [List.replicate_succ, ← ih]; rfl) | (simp [Lib.repeatL, List.replicate_succ])
theorem of_HH {H : List UInt8} (hH : H.length = 32768) : ofS sC false [tx H, tx H] = ⟨null, 3⟩ := by
  rw [of_two (by omega) (by omega), join_two, text_tx, hH, if_pos (by omega)]
theorem of_HT {H T : List UInt8} (hH : H.length = 32768) (hT : T.length = 32767) (hc : Lib.compareBytes H T = 1) : ofS sC false [tx H, tx T] = ⟨⟨2, 0, T ++ 44 :: H⟩, 0⟩ := by
  rw [of_two (by omega) (by omega), join_two, text_tx, text_tx, hH, hT, if_neg (by omega), cmp_tx, hc, if_neg (by decide)]
theorem HT_ne {H T : List UInt8} (hT : T.length = 32767) (hH : H[32767]? = some 120) (hl : H.length = 32768) : (T ++ 44 :: H : List UInt8) ≠ (H ++ [44]) ++ T := by
  intro h
  have h1 := congrArg (fun l : List UInt8 => l[32767]?) h
  simp only [List.append_assoc] at h1
  rw [List.getElem?_append_right (by omega), List.getElem?_append_left (by omega), hT, hH] at h1
  simp at h1
@[reducible] def two (fs : List (Nat × Nat × Bool)) (x y : List UInt8) : Nat → AV := elemA (TD.struct fs).agg 3 [.int .u8 2, .int .i64 0, .str x, .int .u8 2, .int .i64 0, .str y]
theorem two_is (fs) (x y : List UInt8) : lO 2 (two fs x y) = [tx x, tx y] := rfl
theorem comes_eq {want : V} {name : List UInt8} {d : Bool} {l : List V} (h : ofS name d l = ⟨want, 0⟩) : comesS want name d l = true := by
  unfold comesS
  rw [h]
  simp
theorem n1' {H : List UInt8} (hH : H.length = 32768) (fs) : errsS 3 sC (lO 2 (two fs H H)) = true := by
  rw [two_is]
  unfold errsS
  rw [of_HH hH]; rfl
theorem n2' {H T : List UInt8} (hH : H.length = 32768) (hT : T.length = 32767) (hc : Lib.compareBytes H T = 1) (h0 : H[32767]? = some 120) (fs) : comesS ⟨2, 0, (H ++ [44]) ++ T⟩ sC false (lO 2 (two fs H T)) = false := by
  rw [two_is]
  unfold comesS
  rw [of_HT hH hT hc]
  have : ((T ++ 44 :: H : List UInt8) == (H ++ [44]) ++ T) = false := beq_false_of_ne (HT_ne hT h0 hH)
  simp only [this]
  rfl
theorem n3' {H T : List UInt8} (hH : H.length = 32768) (hT : T.length = 32767) (hc : Lib.compareBytes H T = 1) (fs) : comesS ⟨2, 0, (T ++ [44]) ++ H⟩ sC false (lO 2 (two fs H T)) = true := by
  rw [two_is]
  exact comes_eq (by rw [of_HT hH hT hc, List.append_assoc]; rfl)
theorem ok_two (fs) {x y : List UInt8} (hx : x.length ≤ 65536) (hy : y.length ≤ 65536) : (∀ i, i < 2 → isV (two fs x y i) = true) ∧ OkL (lO 2 (two fs x y)) := by
  have h1 := tx_right hx
  have h2 := tx_right hy
  refine ⟨fun i hi => ?_, ?_⟩
  · have : i = 0 ∨ i = 1 := by omega
    rcases this with rfl | rfl <;> rfl
  · rw [two_is]
    refine ⟨by show 2 ≤ 1000; omega, fun v hv => ?_, fun v hv => ?_⟩
    · rcases List.mem_cons.1 hv with rfl | hv
      · exact h1.1
      · rw [List.mem_singleton.1 hv]; exact h2.1
    · rcases List.mem_cons.1 hv with rfl | hv
      · exact h1.2
      · rw [List.mem_singleton.1 hv]; exact h2.2
theorem hx1 (n : Nat) (h : n = 32768) : (Lib.repeatL [120] n).length = 32768 := by rw [rep_is, List.length_replicate, h]
theorem hx2 (n k : Nat) (h : n = 32768) (hk : k = 1) : (List.drop k (Lib.repeatL [120] n)).length = 32767 := by rw [rep_is, List.length_drop, List.length_replicate, h, hk]
theorem hx3 (n k : Nat) (h : n = 32768) (hk : k = 1) : Lib.compareBytes (Lib.repeatL [120] n) (List.drop k (Lib.repeatL [120] n)) = 1 := by
  rw [rep_is, List.drop_replicate, h, hk]
  exact cb_rep 120 32767
theorem hx4 (n : Nat) (h : n = 32768) : (Lib.repeatL [120] n)[32767]? = some 120 := by
  rw [rep_is, h, List.getElem?_replicate, if_pos (by omega)]

end Go.Proofs.YtbpnnilocbgdbaaDoor

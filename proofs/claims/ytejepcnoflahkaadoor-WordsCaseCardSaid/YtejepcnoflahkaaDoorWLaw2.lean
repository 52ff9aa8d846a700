/- words: the token that a text begins with, by cases. -/
import Derived.Test.YtejepcnoflahkaaDoorWLaw1
import Derived.Test.YtejepcnoflahkaaDoorWWalk5
namespace Go.Proofs.YtejepcnoflahkaaDoor
open Go Go.Ab
set_option linter.unusedVariables false
set_option linter.unusedSimpArgs false
set_option maxRecDepth 100000

theorem orC_is (b : UInt8) : (orC (b.toNat : Int) == 120) = (b == 120 || b == 88) := by
  have : ∀ n : Fin 256, (orC (n.val : Int) == 120) = (UInt8.ofNat n.val == 120 || UInt8.ofNat n.val == 88) := by decide +kernel
  have := this ⟨b.toNat, b.toNat_lt⟩
  simpa using this
theorem b39_is (b : UInt8) : (((b.toNat : Nat) : Int) == 39) = (b == 39) := by
  have : ∀ n : Fin 256, ((n.val : Int) == 39) = (UInt8.ofNat n.val == 39) := by decide +kernel
  have := this ⟨b.toNat, b.toNat_lt⟩
  simpa using this
theorem isBlob_is (s : List UInt8) : isBlob s = (decide ((s.length : Int) > 1) && ((orC ((s.getD 0 0).toNat : Int) == 120) && (((s.getD 1 0).toNat : Int) == 39))) := by
  rw [orC_is, b39_is]
  match s with
  | [] => rfl
  | [b] => simp [isBlob]
  | b :: c :: l =>
    have : decide ((((b :: c :: l).length : Nat) : Int) > 1) = true := decide_eq_true (by simp only [List.length_cons]; omega)
    rw [this, Bool.true_and]
    rfl
theorem fi_hit {s x : List UInt8} {l : List (List UInt8)} (h : Lib.hasPrefix s x = true) : firstS s (x :: l) = ⟨6, x, 0, x.length⟩ := by rw [firstS, h]
theorem fi_miss {s x : List UInt8} {l : List (List UInt8)} (h : Lib.hasPrefix s x = false) : firstS s (x :: l) = firstS s l := by rw [firstS, h]
theorem sg0 {s : List UInt8}  (h : Lib.hasPrefix s [124, 124] = true) : encT ⟨6, [124, 124], 0, 2⟩ = encT (firstS s signsL) := congrArg encT ((fi_hit h)).symm
theorem sg1 {s : List UInt8} (h0 : Lib.hasPrefix s [124, 124] = false) (h : Lib.hasPrefix s [60, 62] = true) : encT ⟨6, [60, 62], 0, 2⟩ = encT (firstS s signsL) := congrArg encT ((fi_miss h0).trans ((fi_hit h))).symm
theorem sg2 {s : List UInt8} (h0 : Lib.hasPrefix s [124, 124] = false) (h1 : Lib.hasPrefix s [60, 62] = false) (h : Lib.hasPrefix s [60, 61] = true) : encT ⟨6, [60, 61], 0, 2⟩ = encT (firstS s signsL) := congrArg encT ((fi_miss h0).trans ((fi_miss h1).trans ((fi_hit h)))).symm
theorem sg3 {s : List UInt8} (h0 : Lib.hasPrefix s [124, 124] = false) (h1 : Lib.hasPrefix s [60, 62] = false) (h2 : Lib.hasPrefix s [60, 61] = false) (h : Lib.hasPrefix s [62, 61] = true) : encT ⟨6, [62, 61], 0, 2⟩ = encT (firstS s signsL) := congrArg encT ((fi_miss h0).trans ((fi_miss h1).trans ((fi_miss h2).trans ((fi_hit h))))).symm
theorem sg4 {s : List UInt8} (h0 : Lib.hasPrefix s [124, 124] = false) (h1 : Lib.hasPrefix s [60, 62] = false) (h2 : Lib.hasPrefix s [60, 61] = false) (h3 : Lib.hasPrefix s [62, 61] = false) (h : Lib.hasPrefix s [61] = true) : encT ⟨6, [61], 0, 1⟩ = encT (firstS s signsL) := congrArg encT ((fi_miss h0).trans ((fi_miss h1).trans ((fi_miss h2).trans ((fi_miss h3).trans ((fi_hit h)))))).symm
theorem sg5 {s : List UInt8} (h0 : Lib.hasPrefix s [124, 124] = false) (h1 : Lib.hasPrefix s [60, 62] = false) (h2 : Lib.hasPrefix s [60, 61] = false) (h3 : Lib.hasPrefix s [62, 61] = false) (h4 : Lib.hasPrefix s [61] = false) (h : Lib.hasPrefix s [60] = true) : encT ⟨6, [60], 0, 1⟩ = encT (firstS s signsL) := congrArg encT ((fi_miss h0).trans ((fi_miss h1).trans ((fi_miss h2).trans ((fi_miss h3).trans ((fi_miss h4).trans ((fi_hit h))))))).symm
theorem sg6 {s : List UInt8} (h0 : Lib.hasPrefix s [124, 124] = false) (h1 : Lib.hasPrefix s [60, 62] = false) (h2 : Lib.hasPrefix s [60, 61] = false) (h3 : Lib.hasPrefix s [62, 61] = false) (h4 : Lib.hasPrefix s [61] = false) (h5 : Lib.hasPrefix s [60] = false) (h : Lib.hasPrefix s [62] = true) : encT ⟨6, [62], 0, 1⟩ = encT (firstS s signsL) := congrArg encT ((fi_miss h0).trans ((fi_miss h1).trans ((fi_miss h2).trans ((fi_miss h3).trans ((fi_miss h4).trans ((fi_miss h5).trans ((fi_hit h)))))))).symm
theorem sg7 {s : List UInt8} (h0 : Lib.hasPrefix s [124, 124] = false) (h1 : Lib.hasPrefix s [60, 62] = false) (h2 : Lib.hasPrefix s [60, 61] = false) (h3 : Lib.hasPrefix s [62, 61] = false) (h4 : Lib.hasPrefix s [61] = false) (h5 : Lib.hasPrefix s [60] = false) (h6 : Lib.hasPrefix s [62] = false) (h : Lib.hasPrefix s [43] = true) : encT ⟨6, [43], 0, 1⟩ = encT (firstS s signsL) := congrArg encT ((fi_miss h0).trans ((fi_miss h1).trans ((fi_miss h2).trans ((fi_miss h3).trans ((fi_miss h4).trans ((fi_miss h5).trans ((fi_miss h6).trans ((fi_hit h))))))))).symm
theorem sg8 {s : List UInt8} (h0 : Lib.hasPrefix s [124, 124] = false) (h1 : Lib.hasPrefix s [60, 62] = false) (h2 : Lib.hasPrefix s [60, 61] = false) (h3 : Lib.hasPrefix s [62, 61] = false) (h4 : Lib.hasPrefix s [61] = false) (h5 : Lib.hasPrefix s [60] = false) (h6 : Lib.hasPrefix s [62] = false) (h7 : Lib.hasPrefix s [43] = false) (h : Lib.hasPrefix s [45] = true) : encT ⟨6, [45], 0, 1⟩ = encT (firstS s signsL) := congrArg encT ((fi_miss h0).trans ((fi_miss h1).trans ((fi_miss h2).trans ((fi_miss h3).trans ((fi_miss h4).trans ((fi_miss h5).trans ((fi_miss h6).trans ((fi_miss h7).trans ((fi_hit h)))))))))).symm
theorem sg9 {s : List UInt8} (h0 : Lib.hasPrefix s [124, 124] = false) (h1 : Lib.hasPrefix s [60, 62] = false) (h2 : Lib.hasPrefix s [60, 61] = false) (h3 : Lib.hasPrefix s [62, 61] = false) (h4 : Lib.hasPrefix s [61] = false) (h5 : Lib.hasPrefix s [60] = false) (h6 : Lib.hasPrefix s [62] = false) (h7 : Lib.hasPrefix s [43] = false) (h8 : Lib.hasPrefix s [45] = false) (h : Lib.hasPrefix s [42] = true) : encT ⟨6, [42], 0, 1⟩ = encT (firstS s signsL) := congrArg encT ((fi_miss h0).trans ((fi_miss h1).trans ((fi_miss h2).trans ((fi_miss h3).trans ((fi_miss h4).trans ((fi_miss h5).trans ((fi_miss h6).trans ((fi_miss h7).trans ((fi_miss h8).trans ((fi_hit h))))))))))).symm
theorem sg10 {s : List UInt8} (h0 : Lib.hasPrefix s [124, 124] = false) (h1 : Lib.hasPrefix s [60, 62] = false) (h2 : Lib.hasPrefix s [60, 61] = false) (h3 : Lib.hasPrefix s [62, 61] = false) (h4 : Lib.hasPrefix s [61] = false) (h5 : Lib.hasPrefix s [60] = false) (h6 : Lib.hasPrefix s [62] = false) (h7 : Lib.hasPrefix s [43] = false) (h8 : Lib.hasPrefix s [45] = false) (h9 : Lib.hasPrefix s [42] = false) (h : Lib.hasPrefix s [47] = true) : encT ⟨6, [47], 0, 1⟩ = encT (firstS s signsL) := congrArg encT ((fi_miss h0).trans ((fi_miss h1).trans ((fi_miss h2).trans ((fi_miss h3).trans ((fi_miss h4).trans ((fi_miss h5).trans ((fi_miss h6).trans ((fi_miss h7).trans ((fi_miss h8).trans ((fi_miss h9).trans ((fi_hit h)))))))))))).symm
theorem sg11 {s : List UInt8} (h0 : Lib.hasPrefix s [124, 124] = false) (h1 : Lib.hasPrefix s [60, 62] = false) (h2 : Lib.hasPrefix s [60, 61] = false) (h3 : Lib.hasPrefix s [62, 61] = false) (h4 : Lib.hasPrefix s [61] = false) (h5 : Lib.hasPrefix s [60] = false) (h6 : Lib.hasPrefix s [62] = false) (h7 : Lib.hasPrefix s [43] = false) (h8 : Lib.hasPrefix s [45] = false) (h9 : Lib.hasPrefix s [42] = false) (h10 : Lib.hasPrefix s [47] = false) (h : Lib.hasPrefix s [37] = true) : encT ⟨6, [37], 0, 1⟩ = encT (firstS s signsL) := congrArg encT ((fi_miss h0).trans ((fi_miss h1).trans ((fi_miss h2).trans ((fi_miss h3).trans ((fi_miss h4).trans ((fi_miss h5).trans ((fi_miss h6).trans ((fi_miss h7).trans ((fi_miss h8).trans ((fi_miss h9).trans ((fi_miss h10).trans ((fi_hit h))))))))))))).symm
theorem sg12 {s : List UInt8} (h0 : Lib.hasPrefix s [124, 124] = false) (h1 : Lib.hasPrefix s [60, 62] = false) (h2 : Lib.hasPrefix s [60, 61] = false) (h3 : Lib.hasPrefix s [62, 61] = false) (h4 : Lib.hasPrefix s [61] = false) (h5 : Lib.hasPrefix s [60] = false) (h6 : Lib.hasPrefix s [62] = false) (h7 : Lib.hasPrefix s [43] = false) (h8 : Lib.hasPrefix s [45] = false) (h9 : Lib.hasPrefix s [42] = false) (h10 : Lib.hasPrefix s [47] = false) (h11 : Lib.hasPrefix s [37] = false) (h : Lib.hasPrefix s [40] = true) : encT ⟨6, [40], 0, 1⟩ = encT (firstS s signsL) := congrArg encT ((fi_miss h0).trans ((fi_miss h1).trans ((fi_miss h2).trans ((fi_miss h3).trans ((fi_miss h4).trans ((fi_miss h5).trans ((fi_miss h6).trans ((fi_miss h7).trans ((fi_miss h8).trans ((fi_miss h9).trans ((fi_miss h10).trans ((fi_miss h11).trans ((fi_hit h)))))))))))))).symm
theorem sg13 {s : List UInt8} (h0 : Lib.hasPrefix s [124, 124] = false) (h1 : Lib.hasPrefix s [60, 62] = false) (h2 : Lib.hasPrefix s [60, 61] = false) (h3 : Lib.hasPrefix s [62, 61] = false) (h4 : Lib.hasPrefix s [61] = false) (h5 : Lib.hasPrefix s [60] = false) (h6 : Lib.hasPrefix s [62] = false) (h7 : Lib.hasPrefix s [43] = false) (h8 : Lib.hasPrefix s [45] = false) (h9 : Lib.hasPrefix s [42] = false) (h10 : Lib.hasPrefix s [47] = false) (h11 : Lib.hasPrefix s [37] = false) (h12 : Lib.hasPrefix s [40] = false) (h : Lib.hasPrefix s [41] = true) : encT ⟨6, [41], 0, 1⟩ = encT (firstS s signsL) := congrArg encT ((fi_miss h0).trans ((fi_miss h1).trans ((fi_miss h2).trans ((fi_miss h3).trans ((fi_miss h4).trans ((fi_miss h5).trans ((fi_miss h6).trans ((fi_miss h7).trans ((fi_miss h8).trans ((fi_miss h9).trans ((fi_miss h10).trans ((fi_miss h11).trans ((fi_miss h12).trans ((fi_hit h))))))))))))))).symm
theorem sg14 {s : List UInt8} (h0 : Lib.hasPrefix s [124, 124] = false) (h1 : Lib.hasPrefix s [60, 62] = false) (h2 : Lib.hasPrefix s [60, 61] = false) (h3 : Lib.hasPrefix s [62, 61] = false) (h4 : Lib.hasPrefix s [61] = false) (h5 : Lib.hasPrefix s [60] = false) (h6 : Lib.hasPrefix s [62] = false) (h7 : Lib.hasPrefix s [43] = false) (h8 : Lib.hasPrefix s [45] = false) (h9 : Lib.hasPrefix s [42] = false) (h10 : Lib.hasPrefix s [47] = false) (h11 : Lib.hasPrefix s [37] = false) (h12 : Lib.hasPrefix s [40] = false) (h13 : Lib.hasPrefix s [41] = false) (h : Lib.hasPrefix s [44] = true) : encT ⟨6, [44], 0, 1⟩ = encT (firstS s signsL) := congrArg encT ((fi_miss h0).trans ((fi_miss h1).trans ((fi_miss h2).trans ((fi_miss h3).trans ((fi_miss h4).trans ((fi_miss h5).trans ((fi_miss h6).trans ((fi_miss h7).trans ((fi_miss h8).trans ((fi_miss h9).trans ((fi_miss h10).trans ((fi_miss h11).trans ((fi_miss h12).trans ((fi_miss h13).trans ((fi_hit h)))))))))))))))).symm
theorem sg15 {s : List UInt8} (h0 : Lib.hasPrefix s [124, 124] = false) (h1 : Lib.hasPrefix s [60, 62] = false) (h2 : Lib.hasPrefix s [60, 61] = false) (h3 : Lib.hasPrefix s [62, 61] = false) (h4 : Lib.hasPrefix s [61] = false) (h5 : Lib.hasPrefix s [60] = false) (h6 : Lib.hasPrefix s [62] = false) (h7 : Lib.hasPrefix s [43] = false) (h8 : Lib.hasPrefix s [45] = false) (h9 : Lib.hasPrefix s [42] = false) (h10 : Lib.hasPrefix s [47] = false) (h11 : Lib.hasPrefix s [37] = false) (h12 : Lib.hasPrefix s [40] = false) (h13 : Lib.hasPrefix s [41] = false) (h14 : Lib.hasPrefix s [44] = false) (h : Lib.hasPrefix s [46] = true) : encT ⟨6, [46], 0, 1⟩ = encT (firstS s signsL) := congrArg encT ((fi_miss h0).trans ((fi_miss h1).trans ((fi_miss h2).trans ((fi_miss h3).trans ((fi_miss h4).trans ((fi_miss h5).trans ((fi_miss h6).trans ((fi_miss h7).trans ((fi_miss h8).trans ((fi_miss h9).trans ((fi_miss h10).trans ((fi_miss h11).trans ((fi_miss h12).trans ((fi_miss h13).trans ((fi_miss h14).trans ((fi_hit h))))))))))))))))).symm
theorem sg16 {s : List UInt8} (h0 : Lib.hasPrefix s [124, 124] = false) (h1 : Lib.hasPrefix s [60, 62] = false) (h2 : Lib.hasPrefix s [60, 61] = false) (h3 : Lib.hasPrefix s [62, 61] = false) (h4 : Lib.hasPrefix s [61] = false) (h5 : Lib.hasPrefix s [60] = false) (h6 : Lib.hasPrefix s [62] = false) (h7 : Lib.hasPrefix s [43] = false) (h8 : Lib.hasPrefix s [45] = false) (h9 : Lib.hasPrefix s [42] = false) (h10 : Lib.hasPrefix s [47] = false) (h11 : Lib.hasPrefix s [37] = false) (h12 : Lib.hasPrefix s [40] = false) (h13 : Lib.hasPrefix s [41] = false) (h14 : Lib.hasPrefix s [44] = false) (h15 : Lib.hasPrefix s [46] = false) (h : Lib.hasPrefix s [59] = true) : encT ⟨6, [59], 0, 1⟩ = encT (firstS s signsL) := congrArg encT ((fi_miss h0).trans ((fi_miss h1).trans ((fi_miss h2).trans ((fi_miss h3).trans ((fi_miss h4).trans ((fi_miss h5).trans ((fi_miss h6).trans ((fi_miss h7).trans ((fi_miss h8).trans ((fi_miss h9).trans ((fi_miss h10).trans ((fi_miss h11).trans ((fi_miss h12).trans ((fi_miss h13).trans ((fi_miss h14).trans ((fi_miss h15).trans ((fi_hit h)))))))))))))))))).symm
theorem sg17 {s : List UInt8} (h0 : Lib.hasPrefix s [124, 124] = false) (h1 : Lib.hasPrefix s [60, 62] = false) (h2 : Lib.hasPrefix s [60, 61] = false) (h3 : Lib.hasPrefix s [62, 61] = false) (h4 : Lib.hasPrefix s [61] = false) (h5 : Lib.hasPrefix s [60] = false) (h6 : Lib.hasPrefix s [62] = false) (h7 : Lib.hasPrefix s [43] = false) (h8 : Lib.hasPrefix s [45] = false) (h9 : Lib.hasPrefix s [42] = false) (h10 : Lib.hasPrefix s [47] = false) (h11 : Lib.hasPrefix s [37] = false) (h12 : Lib.hasPrefix s [40] = false) (h13 : Lib.hasPrefix s [41] = false) (h14 : Lib.hasPrefix s [44] = false) (h15 : Lib.hasPrefix s [46] = false) (h16 : Lib.hasPrefix s [59] = false) (h : Lib.hasPrefix s [63] = true) : encT ⟨6, [63], 0, 1⟩ = encT (firstS s signsL) := congrArg encT ((fi_miss h0).trans ((fi_miss h1).trans ((fi_miss h2).trans ((fi_miss h3).trans ((fi_miss h4).trans ((fi_miss h5).trans ((fi_miss h6).trans ((fi_miss h7).trans ((fi_miss h8).trans ((fi_miss h9).trans ((fi_miss h10).trans ((fi_miss h11).trans ((fi_miss h12).trans ((fi_miss h13).trans ((fi_miss h14).trans ((fi_miss h15).trans ((fi_miss h16).trans ((fi_hit h))))))))))))))))))).symm
theorem sg18 {s : List UInt8} (h0 : Lib.hasPrefix s [124, 124] = false) (h1 : Lib.hasPrefix s [60, 62] = false) (h2 : Lib.hasPrefix s [60, 61] = false) (h3 : Lib.hasPrefix s [62, 61] = false) (h4 : Lib.hasPrefix s [61] = false) (h5 : Lib.hasPrefix s [60] = false) (h6 : Lib.hasPrefix s [62] = false) (h7 : Lib.hasPrefix s [43] = false) (h8 : Lib.hasPrefix s [45] = false) (h9 : Lib.hasPrefix s [42] = false) (h10 : Lib.hasPrefix s [47] = false) (h11 : Lib.hasPrefix s [37] = false) (h12 : Lib.hasPrefix s [40] = false) (h13 : Lib.hasPrefix s [41] = false) (h14 : Lib.hasPrefix s [44] = false) (h15 : Lib.hasPrefix s [46] = false) (h16 : Lib.hasPrefix s [59] = false) (h17 : Lib.hasPrefix s [63] = false) : encT ⟨0, [], 0, 0⟩ = encT (firstS s signsL) := by
  have e : firstS s signsL = ⟨0, [], 0, 0⟩ := (fi_miss h0).trans <| (fi_miss h1).trans <| (fi_miss h2).trans <| (fi_miss h3).trans <| (fi_miss h4).trans <| (fi_miss h5).trans <| (fi_miss h6).trans <| (fi_miss h7).trans <| (fi_miss h8).trans <| (fi_miss h9).trans <| (fi_miss h10).trans <| (fi_miss h11).trans <| (fi_miss h12).trans <| (fi_miss h13).trans <| (fi_miss h14).trans <| (fi_miss h15).trans <| (fi_miss h16).trans <| (fi_miss h17).trans <| (rfl)
  rw [e]
variable {s : List UInt8}
theorem fs_blob (h1 : 1 ≤ s.length) (hb : isBlob s = true) : encT (foundS s) = .tup [.agg [.int .u8 5, .str (match bloS (s.drop 2) with | some p => p.1 | none => []), .int .i64 0, .int .i64 0, .int .i64 0], .int .i64 (match bloS (s.drop 2) with | some p => ((p.2 + 2 : Nat) : Int) | none => 0)] := by
  cases s with
  | nil => cases hb
  | cons b l =>
    simp only [foundS, hb]
    show encT (match bloS (l.drop 1) with | some (o, n) => (⟨5, o, 0, n + 2⟩ : Tk) | none => ⟨5, [], 0, 0⟩) = _
    rw [show (b :: l).drop 2 = l.drop 1 from rfl]
    cases bloS (l.drop 1) <;> rfl
theorem fs_quo (h1 : 1 ≤ s.length) (hb : isBlob s = false) (hq : (((s.getD 0 0).toNat : Int) == 39) = true) : encT (foundS s) = .tup [.agg [.int .u8 4, .str (match quoS (s.drop 1) with | some p => p.1 | none => []), .int .i64 0, .int .i64 0, .int .i64 0], .int .i64 (match quoS (s.drop 1) with | some p => ((p.2 + 1 : Nat) : Int) | none => 0)] := by
  rw [b39_is] at hq
  cases s with
  | nil => simp at h1
  | cons b l =>
    have hq' : (b == 39) = true := hq
    simp only [foundS, hb, hq']
    show encT (match quoS l with | some (o, n) => (⟨4, o, 0, n + 1⟩ : Tk) | none => ⟨4, [], 0, 0⟩) = _
    rw [show (b :: l).drop 1 = l from rfl]
    cases quoS l <;> rfl
theorem fs_num (h1 : 1 ≤ s.length) (hb : isBlob s = false) (hq : (((s.getD 0 0).toNat : Int) == 39) = false) (hd : digC ((s.getD 0 0).toNat : Int) = true) : foundS s = numS' s := by
  rw [b39_is] at hq
  cases s with
  | nil => simp at h1
  | cons b l =>
    have hq' : (b == 39) = false := hq
    have hd' : onB digC b = true := hd
    simp only [foundS, hb, hq', hd']
theorem fs_nam (h1 : 1 ≤ s.length) (hb : isBlob s = false) (hq : (((s.getD 0 0).toNat : Int) == 39) = false) (hd : digC ((s.getD 0 0).toNat : Int) = false) (hl : letC ((s.getD 0 0).toNat : Int) = true) : foundS s = nameS s := by
  rw [b39_is] at hq
  cases s with
  | nil => simp at h1
  | cons b l =>
    have hq' : (b == 39) = false := hq
    have hd' : onB digC b = false := hd
    have hl' : onB letC b = true := hl
    simp only [foundS, hb, hq', hd', hl']
theorem fs_sig (h1 : 1 ≤ s.length) (hb : isBlob s = false) (hq : (((s.getD 0 0).toNat : Int) == 39) = false) (hd : digC ((s.getD 0 0).toNat : Int) = false) (hl : letC ((s.getD 0 0).toNat : Int) = false) : foundS s = firstS s signsL := by
  rw [b39_is] at hq
  cases s with
  | nil => simp at h1
  | cons b l =>
    have hq' : (b == 39) = false := hq
    have hd' : onB digC b = false := hd
    have hl' : onB letC b = false := hl
    simp only [foundS, hb, hq', hd', hl']
end Go.Proofs.YtejepcnoflahkaaDoor

/- words: found, of any text. -/
import Derived.Test.YtejepcnoflahkaaDoorWWalk6
import Derived.Test.YtejepcnoflahkaaDoorWLaw3
namespace Go.Proofs.YtejepcnoflahkaaDoor
open Go Go.Ab Go.RowKit
set_option linter.unusedVariables false
set_option linter.unusedSimpArgs false
set_option maxRecDepth 100000
set_option maxHeartbeats 4000000

theorem pc_found (s : List UInt8) (hn : 1 ≤ s.length ∧ s.length ≤ 65536) : PC Tryd.prog GW 11 [.str s] (encT (foundS s)) := by
  have hbe := isBlob_is s
  cases hb : isBlob s with
  | true =>
    rw [hb] at hbe
    have h1 := hbe.symm
    simp only [Bool.and_eq_true] at h1
    exact found_blob s hn h1.1 h1.2.1 h1.2.2
  | false =>
    have nb : decide ((s.length : Int) > 1) = true → (orC ((s.getD 0 0).toNat : Int) == 120) = true → (((s.getD 1 0).toNat : Int) == 39) = true → False := fun a b c => by
      rw [hb, a, b, c] at hbe
      cases hbe
    cases hq : (((s.getD 0 0).toNat : Int) == 39) with
    | true => exact found_quo s hn nb hb hq
    | false =>
      cases hd : digC ((s.getD 0 0).toNat : Int) with
      | true =>
        rw [fs_num hn.1 hb hq hd]
        have hv := digs_ok hn.1 hd
        unfold numS'
        by_cases hm : decN 0 (s.take (runN digC s)) ≤ 9223372036854775807
        · rw [if_pos hm]
          rw [if_pos hm] at hv
          exact found_num s hn nb hq hd (by unfold piOk; rw [hv]; simp)
        · rw [if_neg hm]
          rw [if_neg hm] at hv
          exact found_big s hn nb hq hd (by unfold piR; rw [hv])
      | false =>
        cases hl : letC ((s.getD 0 0).toNat : Int) with
        | true =>
          rw [fs_nam hn.1 hb hq hd hl]
          unfold nameS
          rw [← low_all]
          have key := key_has (Lib.toLowerA (s.take (runN namC s)))
          by_cases hm : Lib.toLowerA (s.take (runN namC s)) ∈ keysL
          · rw [if_pos hm]
            exact found_nam s hn nb hq hd hl true (decide_eq_true (key.2 hm))
          · rw [if_neg hm]
            exact found_nam s hn nb hq hd hl false (decide_eq_false fun h => hm (key.1 h))
        | false =>
          rw [fs_sig hn.1 hb hq hd hl]
          exact found_sig s hn nb hq hd hl
def h_found : List AV → CR
  | [.str s] => .need (1 ≤ s.length ∧ s.length ≤ 65536) (encT (foundS s))
  | _ => .no
theorem h_found_ok (xs : List AV) : CRok Tryd.prog GW 11 xs (h_found xs) := by
  unfold h_found
  split
  · rename_i s
    exact fun hn => pc_found s hn
  · trivial
def EWF : Env := EW9.add 11 h_found
theorem EWF_ok : EnvOk Tryd.prog EWF := Env.add_ok EW9_ok (by kernel_rfl) h_found_ok
end Go.Proofs.YtejepcnoflahkaaDoor

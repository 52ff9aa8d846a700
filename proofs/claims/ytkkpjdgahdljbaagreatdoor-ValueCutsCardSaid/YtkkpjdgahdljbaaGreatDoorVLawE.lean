/- ValueCasts: the walk. WRITTEN BY A SMALL PROGRAM of this session (laws.py). -/
import Derived.Test.YtkkpjdgahdljbaaGreatDoorVLawH
import Derived.Test.YtkkpjdgahdljbaaGreatDoorVLawC
import Derived.Lib.SplitLaws
namespace Go.Proofs.YtkkpjdgahdljbaaGreatDoor
open Go Go.Ab
set_option linter.unusedVariables false
set_option linter.unusedSimpArgs false
set_option maxRecDepth 100000
set_option maxHeartbeats 8000000

def quote (s : List UInt8) : List UInt8 := s.flatMap fun b => if b = 39 then [39, 39] else [b]
theorem replaceK_other {c : UInt8} {new : List UInt8} {b : UInt8} (h : b ≠ c) (l : List UInt8) : ∀ k, Lib.replaceK [c] new k (b :: l) = b :: Lib.replaceK [c] new k l
  | 0 => rfl
  | k + 1 => by
    have hi : Lib.index (b :: l) [c] = if Lib.index l [c] == -1 then -1 else Lib.index l [c] + 1 := by
      rw [Lib.index, if_neg]
      simpa using fun e => h e.symm
    have hge := Lib.index_ge l [c]
    rw [Lib.replaceK, Lib.replaceK, hi]
    by_cases hm : Lib.index l [c] = -1
    · simp [hm]
    · have e1 : (Lib.index l [c] == -1) = false := by simpa using hm
      rw [e1]
      simp only [Bool.false_eq_true, if_false]
      rw [if_neg (by simp; omega)]
      have e2 : (Lib.index l [c] + 1).toNat = (Lib.index l [c]).toNat + 1 := by omega
      rw [e2]
      simp
theorem quote_is : ∀ s : List UInt8, Lib.replaceK [39] [39, 39] (Lib.count s [39]) s = quote s
  | [] => by rw [Lib.count_one]; rfl
  | b :: l => by
    by_cases h : b = 39
    · subst h
      rw [Lib.count_cons_eq, Nat.add_comm, Lib.replaceK, show Lib.index (39 :: l) [39] = 0 from by rw [Lib.index, if_pos (by simp)]]
      have := quote_is l
      simp [quote] at this ⊢
      exact this
    · rw [Lib.count_cons_ne _ _ _ h, replaceK_other h, quote_is l]
      simp [quote, h]
theorem replaceAll_quote (s : List UInt8) : Lib.replaceAll s [39] [39, 39] = quote s := by
  unfold Lib.replaceAll Lib.replace Lib.replaceNum
  rw [if_neg (by decide), if_pos (.inl (by decide))]
  exact quote_is s
theorem quote_inj : ∀ {s t : List UInt8}, quote s = quote t → s = t
  | [], [], _ => rfl
  | [], b :: t, h => by simp [quote] at h; split at h <;> simp at h
  | a :: s, [], h => by simp [quote] at h; split at h <;> simp at h
  | a :: s, b :: t, h => by
    have e : ∀ (c : UInt8) (l : List UInt8), quote (c :: l) = (if c = 39 then [39, 39] else [c]) ++ quote l := fun c l => rfl
    rw [e, e] at h
    by_cases h1 : a = 39 <;> by_cases h2 : b = 39
    · subst h1 h2
      rw [if_pos rfl] at h
      rw [quote_inj (List.append_cancel_left h)]
    · rw [if_pos h1, if_neg h2] at h
      simp at h
      exact absurd h.1.symm h2
    · rw [if_neg h1, if_pos h2] at h
      simp at h
      exact absurd h.1 h1
    · rw [if_neg h1, if_neg h2] at h
      simp at h
      rw [h.1, quote_inj h.2]
theorem digs_inj : ∀ a b : Fin 16, digsL.getD a.val 0 = digsL.getD b.val 0 → a = b := by decide +kernel
theorem hexS_inj : ∀ {s t : List UInt8}, hexS s = hexS t → s = t
  | [], [], _ => rfl
  | [], b :: t, h => by rw [hexS_cons] at h; cases h
  | a :: s, [], h => by rw [hexS_cons] at h; cases h
  | a :: s, b :: t, h => by
    rw [hexS_cons, hexS_cons] at h
    injection h with h1 h
    injection h with h2 h
    have ha := a.toNat_lt
    have hb := b.toNat_lt
    have e1 := congrArg Fin.val (digs_inj ⟨a.toNat / 16, by omega⟩ ⟨b.toNat / 16, by omega⟩ h1)
    have e2 := congrArg Fin.val (digs_inj ⟨a.toNat % 16, by omega⟩ ⟨b.toNat % 16, by omega⟩ h2)
    simp only at e1 e2
    rw [hexS_inj h, show a = b from UInt8.toNat_inj.1 (by omega)]
theorem dec_head (u : Nat) : ∃ c cs, Lib.decDigits u = c :: cs ∧ 48 ≤ c.toNat ∧ c.toNat ≤ 57 := by
  induction u using Nat.strongRecOn with
  | _ u ih =>
    rw [Lib.decDigits]
    split
    · rename_i h
      refine ⟨_, _, rfl, ?_⟩
      rw [UInt8.toNat_ofNat']
      omega
    · rename_i h
      obtain ⟨c, cs, e, h1⟩ := ih (u / 10) (by omega)
      exact ⟨c, cs ++ _, by rw [e]; rfl, h1⟩
theorem digs_step {n d : Nat} {cs : List UInt8} (hd : d < 10) (h : 10 * n + d ≤ 9223372036854775808) : digs n (UInt8.ofNat (48 + d) :: cs) = digs (10 * n + d) cs := by
  have e : (UInt8.ofNat (48 + d)).toNat = 48 + d := by rw [UInt8.toNat_ofNat']; omega
  rw [digs, e, if_pos (by omega), if_neg (by omega), show 48 + d - 48 = d from by omega]
theorem digs_dec (u : Nat) (t : List UInt8) (h : u ≤ 9223372036854775808) : digs 0 (Lib.decDigits u ++ t) = digs u t := by
  induction u using Nat.strongRecOn generalizing t with
  | _ u ih =>
    rw [Lib.decDigits]
    split
    · rename_i hu
      rw [List.singleton_append, digs_step hu (by omega), show 10 * 0 + u = u from by omega]
    · rename_i hu
      rw [List.append_assoc, ih (u / 10) (by omega) _ (by omega), List.singleton_append, digs_step (by omega) (by omega)]
      congr 1
      omega
theorem digs_end (n : Nat) : digs n [] = n := by rw [digs]
theorem numS_itoa {n : Int} (h : i64 n) : numS (trimL (Lib.itoa n)) = n := by
  unfold i64 at h
  have hb : ∀ c : UInt8, 45 ≤ c.toNat → blank c = false := by
    intro c hc
    unfold blank
    simp only [← UInt8.toNat_inj, Bool.or_eq_false_iff, beq_eq_false_iff_ne, ne_eq, UInt8.reduceToNat]
    omega
  unfold Lib.itoa trimL
  split
  · rename_i hn
    rw [List.dropWhile_cons_of_neg (by rw [hb 45 (by decide)]; decide)]
    unfold numS
    have e : digs 0 (signed (45 :: Lib.decDigits n.natAbs)) = n.natAbs := by
      unfold signed
      rw [if_pos (by simp [Lib.hasPrefix])]
      have := digs_dec n.natAbs [] (by omega)
      rw [List.append_nil, digs_end] at this
      exact this
    rw [e, if_pos (by simp [Lib.hasPrefix])]
    omega
  · rename_i hn
    obtain ⟨c, cs, hc, h1, h2⟩ := dec_head n.toNat
    have hp : ∀ x : UInt8, x.toNat < 48 → Lib.hasPrefix (Lib.decDigits n.toNat) [x] = false := by
      intro x hx
      rw [hc]
      simp only [Lib.hasPrefix, List.isPrefixOf, Bool.and_true, beq_eq_false_iff_ne, ne_eq, ← UInt8.toNat_inj]
      omega
    have e0 : (Lib.decDigits n.toNat).dropWhile blank = Lib.decDigits n.toNat := by
      rw [hc, List.dropWhile_cons_of_neg (by rw [hb c (by omega)]; decide)]
    rw [e0]
    unfold numS
    have e : digs 0 (signed (Lib.decDigits n.toNat)) = n.toNat := by
      unfold signed
      rw [hp 45 (by decide), hp 43 (by decide), if_neg (by decide)]
      have := digs_dec n.toNat [] (by omega)
      rw [List.append_nil, digs_end] at this
      exact this
    rw [hp 45 (by decide), if_neg (by decide), e]
    split <;> omega
theorem itoa_inj {a b : Int} (ha : i64 a) (hb : i64 b) (h : Lib.itoa a = Lib.itoa b) : a = b := by
  rw [← numS_itoa ha, ← numS_itoa hb, h]
def showV (v : V) : List UInt8 := if v.k = 1 then textV v else if v.k = 2 then [39] ++ quote v.s ++ [39] else if v.k = 3 then [88, 39] ++ hexS v.s ++ [39] else [78, 85, 76, 76]
theorem itoa_head (n : Int) : ∃ c cs, Lib.itoa n = c :: cs ∧ (c = 45 ∨ 48 ≤ c.toNat ∧ c.toNat ≤ 57) := by
  unfold Lib.itoa
  split
  · exact ⟨_, _, rfl, .inl rfl⟩
  · obtain ⟨c, cs, h, h1⟩ := dec_head n.toNat
    exact ⟨c, cs, h, .inr h1⟩
theorem showV_0 {v : V} (h : v.k = 0) : showV v = [78, 85, 76, 76] := by unfold showV; rw [if_neg (by omega), if_neg (by omega), if_neg (by omega)]
theorem showV_1 {v : V} (h : v.k = 1) : showV v = Lib.itoa v.n := by unfold showV; rw [if_pos h]; unfold textV; rw [if_pos h]
theorem showV_2 {v : V} (h : v.k = 2) : showV v = 39 :: (quote v.s ++ [39]) := by unfold showV; rw [if_neg (by omega), if_pos h]; rfl
theorem showV_3 {v : V} (h : v.k = 3) : showV v = 88 :: 39 :: (hexS v.s ++ [39]) := by unfold showV; rw [if_neg (by omega), if_neg (by omega), if_pos h]; rfl
theorem not_itoa {n : Int} {x : UInt8} {l : List UInt8} (hx : x.toNat = 39 ∨ x.toNat = 78 ∨ x.toNat = 88) : Lib.itoa n ≠ x :: l := by
  obtain ⟨c, cs, e, h⟩ := itoa_head n
  rw [e]
  intro h2
  injection h2 with h2 _
  subst h2
  rcases h with rfl | h
  · revert hx; decide
  · omega
theorem showV_inj {a b : V} (ha : right a = true) (hb : right b = true) (na : i64 a.n) (nb : i64 b.n) (h : showV a = showV b) : a = b := by
  have ra := right_cases ha
  have rb := right_cases hb
  obtain ⟨k, n, s⟩ := a
  obtain ⟨l, m, t⟩ := b
  simp only at ra rb na nb
  rcases ra with ⟨rfl, rfl, rfl⟩ | ⟨rfl, rfl⟩ | ⟨rfl, rfl⟩ | ⟨rfl, rfl⟩ <;> rcases rb with ⟨rfl, rfl, rfl⟩ | ⟨rfl, rfl⟩ | ⟨rfl, rfl⟩ | ⟨rfl, rfl⟩
  · rfl
  · rw [showV_0 rfl, showV_1 rfl] at h; exact absurd h.symm (not_itoa (by decide))
  · rw [showV_0 rfl, showV_2 rfl] at h; simp at h
  · rw [showV_0 rfl, showV_3 rfl] at h; simp at h
  · rw [showV_1 rfl, showV_0 rfl] at h; exact absurd h (not_itoa (by decide))
  · rw [showV_1 rfl, showV_1 rfl] at h
    rw [itoa_inj na nb h]
  · rw [showV_1 rfl, showV_2 rfl] at h; exact absurd h (not_itoa (by decide))
  · rw [showV_1 rfl, showV_3 rfl] at h; exact absurd h (not_itoa (by decide))
  · rw [showV_2 rfl, showV_0 rfl] at h; simp at h
  · rw [showV_2 rfl, showV_1 rfl] at h; exact absurd h.symm (not_itoa (by decide))
  · rw [showV_2 rfl, showV_2 rfl] at h
    simp at h
    rw [quote_inj h]
  · rw [showV_2 rfl, showV_3 rfl] at h; simp at h
  · rw [showV_3 rfl, showV_0 rfl] at h; simp at h
  · rw [showV_3 rfl, showV_1 rfl] at h; exact absurd h.symm (not_itoa (by decide))
  · rw [showV_3 rfl, showV_2 rfl] at h; simp at h
  · rw [showV_3 rfl, showV_3 rfl] at h
    simp at h
    rw [hexS_inj h]
def h_hex : List AV → CR
  | [.str s] => .need (s.length ≤ 65536) (.str (hexS s))
  | _ => .no
theorem h_hex_ok (xs : List AV) : CRok Tryz.prog GV 79 xs (h_hex xs) := by
  unfold h_hex
  split
  · rename_i s
    exact fun hn => pc_hex s hn
  · trivial
def EC0 : Env := E10.add 79 h_hex
theorem EC0_ok : EnvOk Tryz.prog EC0 := Env.add_ok E10_ok (by kernel_rfl) h_hex_ok
theorem repl_need {s : List UInt8} (h : s.length ≤ 65536) : s.length < 4294967281 ∧ 1 ≤ ([39] : List UInt8).length ∧ s.length + Lib.countB ⟨s.toArray⟩ ⟨([39] : List UInt8).toArray⟩ * ([39, 39] : List UInt8).length ≤ 140737488355328 := by
  refine ⟨by omega, by decide, ?_⟩
  have hc : Lib.countB ⟨s.toArray⟩ ⟨([39] : List UInt8).toArray⟩ = Lib.count s [39] := rfl
  have := Lib.count_le s [39]
  rw [hc]
  simp only [List.length_cons, List.length_nil]
  omega
theorem quote_len : ∀ s : List UInt8, (quote s).length ≤ 2 * s.length
  | [] => by decide
  | b :: l => by
    have := quote_len l
    have e : quote (b :: l) = (if b = 39 then [39, 39] else [b]) ++ quote l := rfl
    rw [e, List.length_append, List.length_cons]
    split <;> simp only [List.length_cons, List.length_nil] <;> omega
theorem pc_Show (k n : Int) (s : List UInt8) (hn : i64 n ∧ s.length ≤ 65536) : PC Tryz.prog GV 71 [.agg [.int .u8 k, .int .i64 n, .str s]] (.str (showV ⟨k, n, s⟩)) := by
  refine pc_fin EC0_ok mixed (show Tryz.prog.funcs[71]? = some Tryz.f71 from rfl) ?_
  have q := quote_len s
  repeat' (refine BR.mk (fun h => ?_) (fun h => ?_) <;> try contradiction)
  all_goals try first | exact hn.1 | exact hn.2 | exact repl_need hn.2 | (rw [replaceAll_quote]; simp only [List.length_append, List.length_cons, List.length_nil]; omega) | (simp only [List.length_append, List.length_cons, List.length_nil, hexS_len]; omega)
  all_goals refine Fini.mk (congrArg AV.str ?_)
  all_goals simp only [beq_iff_eq, beq_eq_false_iff_ne] at *
  all_goals unfold showV
  · rw [if_pos (by assumption)]
  · rw [if_neg (by assumption), if_pos (by assumption), replaceAll_quote]
  · rw [if_neg (by assumption), if_neg (by assumption), if_pos (by assumption)]
  · rw [if_neg (by assumption), if_neg (by assumption), if_neg (by assumption)]
def h_Show : List AV → CR
  | [.agg [.int .u8 k, .int .i64 n, .str s]] => .need (i64 n ∧ s.length ≤ 65536) (.str (showV ⟨k, n, s⟩))
  | _ => .no
theorem h_Show_ok (xs : List AV) : CRok Tryz.prog GV 71 xs (h_Show xs) := by
  unfold h_Show
  split
  · rename_i k n s
    exact fun hn => pc_Show k n s hn
  · trivial
def EC : Env := EC0.add 71 h_Show
theorem EC_ok : EnvOk Tryz.prog EC := Env.add_ok EC0_ok (by kernel_rfl) h_Show_ok
theorem cast_int {v : V} (h : right v = true) (hk : v.k ≠ 0) : castR [105, 110, 116] v = ⟨⟨1, intV v, []⟩, 0⟩ := by
  unfold castR
  rw [h]
  simp [hk, numV]
theorem cast_text {v : V} (h : right v = true) (hk : v.k ≠ 0) (hn : i64 v.n) : castR [116, 101, 120, 116] v = ⟨⟨2, 0, textV v⟩, 0⟩ := by
  have := textV_len h hn
  unfold castR
  rw [h]
  simp only [hk]
  unfold textR
  rw [if_neg (Nat.not_lt.2 this)]
  simp
theorem cast_null (sg : List UInt8) (h : sg = [105, 110, 116] ∨ sg = [116, 101, 120, 116]) : castR sg ⟨0, 0, []⟩ = ⟨⟨0, 0, []⟩, 0⟩ := by
  have hr : right ⟨0, 0, []⟩ = true := by unfold right; rfl
  unfold castR
  rw [hr]
  rcases h with rfl | rfl <;> simp
theorem right_text {s : List UInt8} (h : s.length ≤ 65536) : right ⟨2, 0, s⟩ = true := by unfold right; simp [h]
theorem textV_text (s : List UInt8) : textV ⟨2, 0, s⟩ = s := by unfold textV; simp
theorem intV_text (s : List UInt8) : intV ⟨2, 0, s⟩ = numS (trimL s) := by unfold intV; simp
theorem show_same {a b : V} (ha : right a = true) (hb : right b = true) (na : i64 a.n) (nb : i64 b.n) : ((showV a == showV b) == (a.k == b.k && (a.n == b.n && (a.s == b.s && true)))) = true := by
  rw [eqV, beq_iff_eq, Bool.eq_iff_iff, beq_iff_eq, decide_eq_true_iff]
  exact ⟨fun h => showV_inj ha hb na nb h, fun h => by rw [h]⟩
end Go.Proofs.YtkkpjdgahdljbaaGreatDoor

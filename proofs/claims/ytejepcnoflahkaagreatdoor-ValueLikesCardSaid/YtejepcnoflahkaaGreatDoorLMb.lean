/- Call without NULL: the whole of it: the walk. WRITTEN BY A SMALL PROGRAM of this session (laws.py). -/
import Derived.Test.YtejepcnoflahkaaGreatDoorVLawH
import Derived.Test.YtejepcnoflahkaaGreatDoorLMa
import Derived.Lib.SplitLaws
section
namespace Go.Proofs.YtejepcnoflahkaaGreatDoor
open Go Go.Ab
set_option linter.unusedVariables false
set_option linter.unusedSimpArgs false
set_option maxRecDepth 100000
set_option maxHeartbeats 8000000

def caB (fr : Int) (b : UInt8) : UInt8 := if fr ≤ (b.toNat : Int) ∧ (b.toNat : Int) < fr + 26 then b ^^^ 32 else b
def casedS (fr : Int) (s : List UInt8) : List UInt8 := s.map (caB fr)
def caF (s : List UInt8) (fr : Int) (i j : Nat) : AV := .int .u8 (if j < i then caB fr (s.getD j 0) else s.getD j 0).toNat
theorem xor_all : ∀ n : Fin 256, IntKind.u8.wrap ↑(BitVec.ofInt IntKind.u8.bits ((n.val : Nat) : Int) ^^^ BitVec.ofInt IntKind.u8.bits 32).toNat = (((UInt8.ofNat n.val) ^^^ 32).toNat : Int) := by decide +kernel
theorem xor_is (b : UInt8) : IntKind.u8.wrap ↑(BitVec.ofInt IntKind.u8.bits ((b.toNat : Nat) : Int) ^^^ BitVec.ofInt IntKind.u8.bits 32).toNat = ((b ^^^ 32).toNat : Int) := by
  have := xor_all ⟨b.toNat, b.toNat_lt⟩
  simpa using this
theorem ca_self (s : List UInt8) (fr : Int) (i : Nat) : caF s fr i i = .int .u8 ((s.getD i 0).toNat : Int) := by
  unfold caF
  rw [if_neg (by omega)]
theorem ca_next (s : List UInt8) (fr : Int) (i j : Nat) : caF s fr (i + 1) j = if j = i then .int .u8 ((caB fr (s.getD i 0)).toNat : Int) else caF s fr i j := by
  unfold caF
  by_cases h : j = i
  · subst h
    rw [if_pos (by omega), if_pos rfl]
  · rw [if_neg h]
    by_cases h2 : j < i
    · rw [if_pos (by omega), if_pos h2]
    · rw [if_neg (by omega), if_neg h2]
theorem ca_load (s : List UInt8) (fr : Int) (i : Nat) : (if 0 + (i : Int).toNat < i then caB fr (s.getD (0 + (i : Int).toNat) 0) else s.getD (0 + (i : Int).toNat) 0) = s.getD i 0 := by
  have e : 0 + (i : Int).toNat = i := by omega
  rw [e, if_neg (by omega)]
theorem txtA_congr {n : Nat} {f g : Nat → AV} (h : ∀ j, j < n → f j = g j) : txtA n f = txtA n g := by
  unfold txtA
  refine List.map_congr_left fun j hj => ?_
  rw [h j (by simpa using hj)]
def EX : Env := { E10 with hp := true }
theorem EX_ok : EnvOk Tryz.prog EX := ⟨E10_ok.g, E10_ok.s, E10_ok.t, E10_ok.h⟩
theorem pc_cased (s : List UInt8) (fr : Int) (hn : (fr = 97 ∨ fr = 65) ∧ s.length ≤ 140737488355328) : PC Tryz.prog GV 94 [.str s, .int .u8 fr] (.str (casedS fr s)) := by
  obtain ⟨hf, hn⟩ := hn
  have w : IntKind.u8.wrap (fr + 26) = fr + 26 := by rcases hf with rfl | rfl <;> decide
  refine pc_fin EX_ok mixed (show Tryz.prog.funcs[94]? = some Tryz.f94 from rfl) ?_
  refine loop_famM EX_ok mixed (σ := Nat) (fun i => i ≤ s.length) (fun i => s.length - i) 0 (Nat.zero_le _) 1 1 0 [] [0, 1, 4, 5, 10, 11] (fun i => [(12, .int .i64 i)]) [] (fun i => [(0, .arr 5 1 s.length (caF s fr i))]) (fun _ => []) ?_ ?_ ?_ ?_ ?_ ?_
  · rfl
  · rfl
  · rfl
  · rfl
  · refine Wk.mk' rfl rfl trivial ?_ (BR.mk (fun _ => ⟨Nat.le_of_ble_eq_true rfl, .inl ⟨rfl, _, rfl, rfl, rfl, Nat.le_refl _, fun j hj => .cons (.same rfl) .nil⟩⟩) (fun _ => trivial))
    repeat' (refine BR.mk (fun _ => ?_) (fun _ => ?_))
    any_goals first | exact trivial | exact Wv.any _ | (refine Wv.int ?_; with_reducible rfl) | (refine Wv.str ?_; with_reducible rfl) | (refine Wv.bool ?_; with_reducible rfl) | refine Wv.int ?_ | refine Wv.str ?_ | refine Wv.bool ?_ | exact Wv.same rfl
    rfl
  · rintro i hi
    repeat' (refine BR.mk (fun h => ?_) (fun h => ?_) <;> try contradiction)
    · rename_i h1
      simp only [decide_eq_true_eq] at h1
      exact ⟨by omega, rfl⟩
    · rename_i h1 _
      simp only [decide_eq_true_eq] at h1
      exact ⟨by omega, rfl⟩
    · rename_i h1 _ _ _ _
      simp only [decide_eq_true_eq] at h1
      exact ⟨by omega, rfl⟩
    · rename_i h1 _ _ _ _ _
      simp only [decide_eq_true_eq] at h1
      exact ⟨by omega, rfl⟩
    · rename_i h1 _ _ h2 h3 _
      simp only [decide_eq_true_eq] at h1
      have g2 : fr ≤ ((s.getD i 0).toNat : Int) := by
        have := of_decide_eq_true h2
        rwa [ca_load] at this
      have g3 : ((s.getD i 0).toNat : Int) < fr + 26 := by
        have := of_decide_eq_true h3
        rwa [ca_load, w] at this
      refine Again.famM (i + 1) [] (by show i + 1 ≤ s.length; omega) (by show s.length - (i + 1) < s.length - i; omega) rfl rfl rfl rfl trivial ?_ (BR.mk (fun _ => ⟨Nat.le_of_ble_eq_true rfl, .inl ⟨rfl, _, rfl, rfl, rfl, Nat.le_refl _, fun j hj => wv_byte' (isB _) ?_⟩⟩) (fun _ => trivial))
      · skip
        repeat' (refine BR.mk (fun _ => ?_) (fun _ => ?_))
        any_goals first | exact trivial | exact Wv.any _ | (refine Wv.int ?_; with_reducible rfl) | (refine Wv.str ?_; with_reducible rfl) | (refine Wv.bool ?_; with_reducible rfl) | refine Wv.int ?_ | refine Wv.str ?_ | refine Wv.bool ?_ | exact Wv.same rfl
        all_goals (rw [wrap_id (by unfold i64; omega)]; rfl)
      · rw [ca_load, xor_is, ca_next, show 0 + (i : Int).toNat = i from by omega]
        by_cases e : j = i
        · rw [e, upd_same, if_pos rfl, caB, if_pos ⟨g2, g3⟩]
        · rw [upd_ne _ _ e, if_neg e]
    · rename_i h1 _ _ h2
      simp only [decide_eq_true_eq] at h1
      have g3 : ¬ ((s.getD i 0).toNat : Int) < fr + 26 := by
        have := of_decide_eq_false h
        rwa [ca_load, w] at this
      refine Again.famM (i + 1) [] (by show i + 1 ≤ s.length; omega) (by show s.length - (i + 1) < s.length - i; omega) rfl rfl rfl rfl trivial ?_ (BR.mk (fun _ => ⟨Nat.le_of_ble_eq_true rfl, .inl ⟨rfl, _, rfl, rfl, rfl, Nat.le_refl _, fun j hj => wv_byte' (isB _) ?_⟩⟩) (fun _ => trivial))
      · skip
        repeat' (refine BR.mk (fun _ => ?_) (fun _ => ?_))
        any_goals first | exact trivial | exact Wv.any _ | (refine Wv.int ?_; with_reducible rfl) | (refine Wv.str ?_; with_reducible rfl) | (refine Wv.bool ?_; with_reducible rfl) | refine Wv.int ?_ | refine Wv.str ?_ | refine Wv.bool ?_ | exact Wv.same rfl
        all_goals (rw [wrap_id (by unfold i64; omega)]; rfl)
      · show caF s fr i j = caF s fr (i + 1) j
        rw [ca_next]
        split
        · rename_i e
          rw [e, ca_self, caB, if_neg (fun hh => g3 hh.2)]
        · rfl
    · rename_i h1 _ _ h2
      simp only [decide_eq_true_eq] at h1
      have g3 : ¬ fr ≤ ((s.getD i 0).toNat : Int) := by
        have := of_decide_eq_false h2
        rwa [ca_load] at this
      refine Again.famM (i + 1) [] (by show i + 1 ≤ s.length; omega) (by show s.length - (i + 1) < s.length - i; omega) rfl rfl rfl rfl trivial ?_ (BR.mk (fun _ => ⟨Nat.le_of_ble_eq_true rfl, .inl ⟨rfl, _, rfl, rfl, rfl, Nat.le_refl _, fun j hj => wv_byte' (isB _) ?_⟩⟩) (fun _ => trivial))
      · skip
        repeat' (refine BR.mk (fun _ => ?_) (fun _ => ?_))
        any_goals first | exact trivial | exact Wv.any _ | (refine Wv.int ?_; with_reducible rfl) | (refine Wv.str ?_; with_reducible rfl) | (refine Wv.bool ?_; with_reducible rfl) | refine Wv.int ?_ | refine Wv.str ?_ | refine Wv.bool ?_ | exact Wv.same rfl
        all_goals (rw [wrap_id (by unfold i64; omega)]; rfl)
      · show caF s fr i j = caF s fr (i + 1) j
        rw [ca_next]
        split
        · rename_i e
          rw [e, ca_self, caB, if_neg (fun hh => g3 hh.1)]
        · rfl
    · exact ⟨rfl, rfl, by omega, fun j hj => trivial⟩
    · rename_i h1
      simp only [decide_eq_false_iff_not] at h1
      refine Fini.mk (congrArg AV.str ?_)
      have e : i = s.length := by omega
      subst e
      refine List.ext_getElem (by simp [casedS]) fun j h1 h2 => ?_
      have h3 : j < s.length := by simpa [casedS] using h2
      simp [byteOfA, caF, casedS, h3]

end Go.Proofs.YtejepcnoflahkaaGreatDoor
end

section
namespace Go.Proofs.YtejepcnoflahkaaGreatDoor
open Go Go.Ab
set_option linter.unusedVariables false
set_option linter.unusedSimpArgs false
set_option maxRecDepth 100000
set_option maxHeartbeats 8000000

def quote (s : List UInt8) : List UInt8 := s.flatMap fun b => if b = 39 then [39, 39] else [b]
theorem replaceK_other {c : UInt8} {new : List UInt8} {b : UInt8} (h : b ≠ c) (l : List UInt8) : ∀ k, Lib.replaceK [c] new k (b :: l) = b :: Lib.replaceK [c] new k l
  | 0 => rfl
  | k + 1 => by
    have hi : Lib.index (b :: l) [c] = if Lib.index l [c] == -1 then -1 else Lib.index l [c] + 1 := by
      rw [Lib.index, if_neg]
      simpa using fun e => h e.symm
    have hge := Lib.index_ge l [c]
    rw [Lib.replaceK, Lib.replaceK, hi]
    by_cases hm : Lib.index l [c] = -1
    · simp [hm]
    · have e1 : (Lib.index l [c] == -1) = false := by simpa using hm
      rw [e1]
      simp only [Bool.false_eq_true, if_false]
      rw [if_neg (by simp; omega)]
      have e2 : (Lib.index l [c] + 1).toNat = (Lib.index l [c]).toNat + 1 := by omega
      rw [e2]
      simp
theorem quote_is : ∀ s : List UInt8, Lib.replaceK [39] [39, 39] (Lib.count s [39]) s = quote s
  | [] => by rw [Lib.count_one]; rfl
  | b :: l => by
    by_cases h : b = 39
    · subst h
      rw [Lib.count_cons_eq, Nat.add_comm, Lib.replaceK, show Lib.index (39 :: l) [39] = 0 from by rw [Lib.index, if_pos (by simp)]]
      have := quote_is l
      simp [quote] at this ⊢
      exact this
    · rw [Lib.count_cons_ne _ _ _ h, replaceK_other h, quote_is l]
      simp [quote, h]
theorem replaceAll_quote (s : List UInt8) : Lib.replaceAll s [39] [39, 39] = quote s := by
  unfold Lib.replaceAll Lib.replace Lib.replaceNum
  rw [if_neg (by decide), if_pos (.inl (by decide))]
  exact quote_is s
theorem quote_inj : ∀ {s t : List UInt8}, quote s = quote t → s = t
  | [], [], _ => rfl
  | [], b :: t, h => by simp [quote] at h; split at h <;> simp at h
  | a :: s, [], h => by simp [quote] at h; split at h <;> simp at h
  | a :: s, b :: t, h => by
    have e : ∀ (c : UInt8) (l : List UInt8), quote (c :: l) = (if c = 39 then [39, 39] else [c]) ++ quote l := fun c l => rfl
    rw [e, e] at h
    by_cases h1 : a = 39 <;> by_cases h2 : b = 39
    · subst h1 h2
      rw [if_pos rfl] at h
      rw [quote_inj (List.append_cancel_left h)]
    · rw [if_pos h1, if_neg h2] at h
      simp at h
      exact absurd h.1.symm h2
    · rw [if_neg h1, if_pos h2] at h
      simp at h
      exact absurd h.1 h1
    · rw [if_neg h1, if_neg h2] at h
      simp at h
      rw [h.1, quote_inj h.2]
theorem digs_inj : ∀ a b : Fin 16, digsL.getD a.val 0 = digsL.getD b.val 0 → a = b := by decide +kernel
theorem hexS_inj : ∀ {s t : List UInt8}, hexS s = hexS t → s = t
  | [], [], _ => rfl
  | [], b :: t, h => by rw [hexS_cons] at h; cases h
  | a :: s, [], h => by rw [hexS_cons] at h; cases h
  | a :: s, b :: t, h => by
    rw [hexS_cons, hexS_cons] at h
    injection h with h1 h
    injection h with h2 h
    have ha := a.toNat_lt
    have hb := b.toNat_lt
    have e1 := congrArg Fin.val (digs_inj ⟨a.toNat / 16, by omega⟩ ⟨b.toNat / 16, by omega⟩ h1)
    have e2 := congrArg Fin.val (digs_inj ⟨a.toNat % 16, by omega⟩ ⟨b.toNat % 16, by omega⟩ h2)
    simp only at e1 e2
    rw [hexS_inj h, show a = b from UInt8.toNat_inj.1 (by omega)]
theorem dec_head (u : Nat) : ∃ c cs, Lib.decDigits u = c :: cs ∧ 48 ≤ c.toNat ∧ c.toNat ≤ 57 := by
  induction u using Nat.strongRecOn with
  | _ u ih =>
    rw [Lib.decDigits]
    split
    · rename_i h
      refine ⟨_, _, rfl, ?_⟩
      rw [UInt8.toNat_ofNat']
      omega
    · rename_i h
      obtain ⟨c, cs, e, h1⟩ := ih (u / 10) (by omega)
      exact ⟨c, cs ++ _, by rw [e]; rfl, h1⟩
theorem digs_step {n d : Nat} {cs : List UInt8} (hd : d < 10) (h : 10 * n + d ≤ 9223372036854775808) : digs n (UInt8.ofNat (48 + d) :: cs) = digs (10 * n + d) cs := by
  have e : (UInt8.ofNat (48 + d)).toNat = 48 + d := by rw [UInt8.toNat_ofNat']; omega
  rw [digs, e, if_pos (by omega), if_neg (by omega), show 48 + d - 48 = d from by omega]
theorem digs_dec (u : Nat) (t : List UInt8) (h : u ≤ 9223372036854775808) : digs 0 (Lib.decDigits u ++ t) = digs u t := by
  induction u using Nat.strongRecOn generalizing t with
  | _ u ih =>
    rw [Lib.decDigits]
    split
    · rename_i hu
      rw [List.singleton_append, digs_step hu (by omega), show 10 * 0 + u = u from by omega]
    · rename_i hu
      rw [List.append_assoc, ih (u / 10) (by omega) _ (by omega), List.singleton_append, digs_step (by omega) (by omega)]
      congr 1
      omega
theorem digs_end (n : Nat) : digs n [] = n := by rw [digs]
theorem numS_itoa {n : Int} (h : i64 n) : numS (trimL (Lib.itoa n)) = n := by
  unfold i64 at h
  have hb : ∀ c : UInt8, 45 ≤ c.toNat → blank c = false := by
    intro c hc
    unfold blank
    simp only [← UInt8.toNat_inj, Bool.or_eq_false_iff, beq_eq_false_iff_ne, ne_eq, UInt8.reduceToNat]
    omega
  unfold Lib.itoa trimL
  split
  · rename_i hn
    rw [List.dropWhile_cons_of_neg (by rw [hb 45 (by decide)]; decide)]
    unfold numS
    have e : digs 0 (signed (45 :: Lib.decDigits n.natAbs)) = n.natAbs := by
      unfold signed
      rw [if_pos (by simp [Lib.hasPrefix])]
      have := digs_dec n.natAbs [] (by omega)
      rw [List.append_nil, digs_end] at this
      exact this
    rw [e, if_pos (by simp [Lib.hasPrefix])]
    omega
  · rename_i hn
    obtain ⟨c, cs, hc, h1, h2⟩ := dec_head n.toNat
    have hp : ∀ x : UInt8, x.toNat < 48 → Lib.hasPrefix (Lib.decDigits n.toNat) [x] = false := by
      intro x hx
      rw [hc]
      simp only [Lib.hasPrefix, List.isPrefixOf, Bool.and_true, beq_eq_false_iff_ne, ne_eq, ← UInt8.toNat_inj]
      omega
    have e0 : (Lib.decDigits n.toNat).dropWhile blank = Lib.decDigits n.toNat := by
      rw [hc, List.dropWhile_cons_of_neg (by rw [hb c (by omega)]; decide)]
    rw [e0]
    unfold numS
    have e : digs 0 (signed (Lib.decDigits n.toNat)) = n.toNat := by
      unfold signed
      rw [hp 45 (by decide), hp 43 (by decide), if_neg (by decide)]
      have := digs_dec n.toNat [] (by omega)
      rw [List.append_nil, digs_end] at this
      exact this
    rw [hp 45 (by decide), if_neg (by decide), e]
    split <;> omega
theorem itoa_inj {a b : Int} (ha : i64 a) (hb : i64 b) (h : Lib.itoa a = Lib.itoa b) : a = b := by
  rw [← numS_itoa ha, ← numS_itoa hb, h]
def showV (v : V) : List UInt8 := if v.k = 1 then textV v else if v.k = 2 then [39] ++ quote v.s ++ [39] else if v.k = 3 then [88, 39] ++ hexS v.s ++ [39] else [78, 85, 76, 76]
theorem itoa_head (n : Int) : ∃ c cs, Lib.itoa n = c :: cs ∧ (c = 45 ∨ 48 ≤ c.toNat ∧ c.toNat ≤ 57) := by
  unfold Lib.itoa
  split
  · exact ⟨_, _, rfl, .inl rfl⟩
  · obtain ⟨c, cs, h, h1⟩ := dec_head n.toNat
    exact ⟨c, cs, h, .inr h1⟩
theorem showV_0 {v : V} (h : v.k = 0) : showV v = [78, 85, 76, 76] := by unfold showV; rw [if_neg (by omega), if_neg (by omega), if_neg (by omega)]
theorem showV_1 {v : V} (h : v.k = 1) : showV v = Lib.itoa v.n := by unfold showV; rw [if_pos h]; unfold textV; rw [if_pos h]
theorem showV_2 {v : V} (h : v.k = 2) : showV v = 39 :: (quote v.s ++ [39]) := by unfold showV; rw [if_neg (by omega), if_pos h]; rfl
theorem showV_3 {v : V} (h : v.k = 3) : showV v = 88 :: 39 :: (hexS v.s ++ [39]) := by unfold showV; rw [if_neg (by omega), if_neg (by omega), if_pos h]; rfl
theorem not_itoa {n : Int} {x : UInt8} {l : List UInt8} (hx : x.toNat = 39 ∨ x.toNat = 78 ∨ x.toNat = 88) : Lib.itoa n ≠ x :: l := by
  obtain ⟨c, cs, e, h⟩ := itoa_head n
  rw [e]
  intro h2
  injection h2 with h2 _
  subst h2
  rcases h with rfl | h
  · revert hx; decide
  · omega
theorem showV_inj {a b : V} (ha : right a = true) (hb : right b = true) (na : i64 a.n) (nb : i64 b.n) (h : showV a = showV b) : a = b := by
  have ra := right_cases ha
  have rb := right_cases hb
  obtain ⟨k, n, s⟩ := a
  obtain ⟨l, m, t⟩ := b
  simp only at ra rb na nb
  rcases ra with ⟨rfl, rfl, rfl⟩ | ⟨rfl, rfl⟩ | ⟨rfl, rfl⟩ | ⟨rfl, rfl⟩ <;> rcases rb with ⟨rfl, rfl, rfl⟩ | ⟨rfl, rfl⟩ | ⟨rfl, rfl⟩ | ⟨rfl, rfl⟩
  · rfl
  · rw [showV_0 rfl, showV_1 rfl] at h; exact absurd h.symm (not_itoa (by decide))
  · rw [showV_0 rfl, showV_2 rfl] at h; simp at h
  · rw [showV_0 rfl, showV_3 rfl] at h; simp at h
  · rw [showV_1 rfl, showV_0 rfl] at h; exact absurd h (not_itoa (by decide))
  · rw [showV_1 rfl, showV_1 rfl] at h
    rw [itoa_inj na nb h]
  · rw [showV_1 rfl, showV_2 rfl] at h; exact absurd h (not_itoa (by decide))
  · rw [showV_1 rfl, showV_3 rfl] at h; exact absurd h (not_itoa (by decide))
  · rw [showV_2 rfl, showV_0 rfl] at h; simp at h
  · rw [showV_2 rfl, showV_1 rfl] at h; exact absurd h.symm (not_itoa (by decide))
  · rw [showV_2 rfl, showV_2 rfl] at h
    simp at h
    rw [quote_inj h]
  · rw [showV_2 rfl, showV_3 rfl] at h; simp at h
  · rw [showV_3 rfl, showV_0 rfl] at h; simp at h
  · rw [showV_3 rfl, showV_1 rfl] at h; exact absurd h.symm (not_itoa (by decide))
  · rw [showV_3 rfl, showV_2 rfl] at h; simp at h
  · rw [showV_3 rfl, showV_3 rfl] at h
    simp at h
    rw [hexS_inj h]
def h_hex : List AV → CR
  | [.str s] => .need (s.length ≤ 65536) (.str (hexS s))
  | _ => .no
theorem h_hex_ok (xs : List AV) : CRok Tryz.prog GV 88 xs (h_hex xs) := by
  unfold h_hex
  split
  · rename_i s
    exact fun hn => pc_hex s hn
  · trivial
def EC0 : Env := E10.add 88 h_hex
theorem EC0_ok : EnvOk Tryz.prog EC0 := Env.add_ok E10_ok (by kernel_rfl) h_hex_ok
theorem repl_need {s : List UInt8} (h : s.length ≤ 65536) : s.length < 4294967281 ∧ 1 ≤ ([39] : List UInt8).length ∧ s.length + Lib.countB ⟨s.toArray⟩ ⟨([39] : List UInt8).toArray⟩ * ([39, 39] : List UInt8).length ≤ 140737488355328 := by
  refine ⟨by omega, by decide, ?_⟩
  have hc : Lib.countB ⟨s.toArray⟩ ⟨([39] : List UInt8).toArray⟩ = Lib.count s [39] := rfl
  have := Lib.count_le s [39]
  rw [hc]
  simp only [List.length_cons, List.length_nil]
  omega
theorem quote_len : ∀ s : List UInt8, (quote s).length ≤ 2 * s.length
  | [] => by decide
  | b :: l => by
    have := quote_len l
    have e : quote (b :: l) = (if b = 39 then [39, 39] else [b]) ++ quote l := rfl
    rw [e, List.length_append, List.length_cons]
    split <;> simp only [List.length_cons, List.length_nil] <;> omega
theorem pc_Show (k n : Int) (s : List UInt8) (hn : i64 n ∧ s.length ≤ 65536) : PC Tryz.prog GV 103 [.agg [.int .u8 k, .int .i64 n, .str s]] (.str (showV ⟨k, n, s⟩)) := by
  refine pc_fin EC0_ok mixed (show Tryz.prog.funcs[103]? = some Tryz.f103 from rfl) ?_
  have q := quote_len s
  repeat' (refine BR.mk (fun h => ?_) (fun h => ?_) <;> try contradiction)
  all_goals try first | exact hn.1 | exact hn.2 | exact repl_need hn.2 | (rw [replaceAll_quote]; simp only [List.length_append, List.length_cons, List.length_nil]; omega) | (simp only [List.length_append, List.length_cons, List.length_nil, hexS_len]; omega)
  all_goals refine Fini.mk (congrArg AV.str ?_)
  all_goals simp only [beq_iff_eq, beq_eq_false_iff_ne] at *
  all_goals unfold showV
  · rw [if_pos (by assumption)]
  · rw [if_neg (by assumption), if_pos (by assumption), replaceAll_quote]
  · rw [if_neg (by assumption), if_neg (by assumption), if_pos (by assumption)]
  · rw [if_neg (by assumption), if_neg (by assumption), if_neg (by assumption)]
def h_Show : List AV → CR
  | [.agg [.int .u8 k, .int .i64 n, .str s]] => .need (i64 n ∧ s.length ≤ 65536) (.str (showV ⟨k, n, s⟩))
  | _ => .no
theorem h_Show_ok (xs : List AV) : CRok Tryz.prog GV 103 xs (h_Show xs) := by
  unfold h_Show
  split
  · rename_i k n s
    exact fun hn => pc_Show k n s hn
  · trivial
def EC : Env := EC0.add 103 h_Show
theorem EC_ok : EnvOk Tryz.prog EC := Env.add_ok EC0_ok (by kernel_rfl) h_Show_ok
theorem cast_int {v : V} (h : right v = true) (hk : v.k ≠ 0) : castR [105, 110, 116] v = ⟨⟨1, intV v, []⟩, 0⟩ := by
  unfold castR
  rw [h]
  simp [hk, numV]
theorem cast_text {v : V} (h : right v = true) (hk : v.k ≠ 0) (hn : i64 v.n) : castR [116, 101, 120, 116] v = ⟨⟨2, 0, textV v⟩, 0⟩ := by
  have := textV_len h hn
  unfold castR
  rw [h]
  simp only [hk]
  unfold textR
  rw [if_neg (Nat.not_lt.2 this)]
  simp
theorem cast_null (sg : List UInt8) (h : sg = [105, 110, 116] ∨ sg = [116, 101, 120, 116]) : castR sg ⟨0, 0, []⟩ = ⟨⟨0, 0, []⟩, 0⟩ := by
  have hr : right ⟨0, 0, []⟩ = true := by unfold right; rfl
  unfold castR
  rw [hr]
  rcases h with rfl | rfl <;> simp
theorem right_text {s : List UInt8} (h : s.length ≤ 65536) : right ⟨2, 0, s⟩ = true := by unfold right; simp [h]
theorem textV_text (s : List UInt8) : textV ⟨2, 0, s⟩ = s := by unfold textV; simp
theorem intV_text (s : List UInt8) : intV ⟨2, 0, s⟩ = numS (trimL s) := by unfold intV; simp
theorem show_same {a b : V} (ha : right a = true) (hb : right b = true) (na : i64 a.n) (nb : i64 b.n) : ((showV a == showV b) == (a.k == b.k && (a.n == b.n && (a.s == b.s && true)))) = true := by
  rw [eqV, beq_iff_eq, Bool.eq_iff_iff, beq_iff_eq, decide_eq_true_iff]
  exact ⟨fun h => showV_inj ha hb na nb h, fun h => by rw [h]⟩
end Go.Proofs.YtejepcnoflahkaaGreatDoor
end

section
namespace Go.Proofs.YtejepcnoflahkaaGreatDoor
open Go Go.Ab
set_option linter.unusedVariables false
set_option linter.unusedSimpArgs false
set_option maxRecDepth 100000
set_option maxHeartbeats 8000000

def cutF (s : List UInt8) (lo hi : Int) : List UInt8 := if lo ≥ hi then [] else (s.drop (lo - 1).toNat).take ((hi - 1).toNat - (lo - 1).toNat)
def cutP (L p0 : Int) : Int := if p0 < 0 then p0 + (L + 1) else p0
def cut2 (s : List UInt8) (p0 : Int) : List UInt8 := cutF s (if 1 > cutP s.length p0 then 1 else cutP s.length p0) ((s.length : Int) + 1)
def cut3 (s : List UInt8) (p0 n : Int) : List UInt8 :=
  cutF s (if 1 > (if n < 0 then cutP s.length p0 + n else cutP s.length p0) then 1 else (if n < 0 then cutP s.length p0 + n else cutP s.length p0))
    (if (s.length : Int) + 1 < (if n < 0 then cutP s.length p0 else cutP s.length p0 + n) then (s.length : Int) + 1 else (if n < 0 then cutP s.length p0 else cutP s.length p0 + n))
theorem cutF_no {s : List UInt8} {lo hi : Int} (h : lo ≥ hi) : cutF s lo hi = [] := if_pos h
theorem cutF_yes {s : List UInt8} {lo hi a b : Int} (h : ¬ lo ≥ hi) (ha : a = lo - 1) (hb : b = hi - 1) : (s.drop a.toNat).take (b.toNat - a.toNat) = cutF s lo hi := by
  subst ha hb
  unfold cutF
  rw [if_neg h]
def sm (x : Int) : Prop := -1048576 ≤ x ∧ x ≤ 1048576
instance (x : Int) : Decidable (sm x) := by unfold sm; infer_instance
theorem wrap_sm {x : Int} (h1 : -9223372036854775808 ≤ x) (h2 : x ≤ 9223372036854775807) : IntKind.i64.wrap x = x := wrap_id ⟨h1, h2⟩
theorem pc_cut2 (g : Nat → V) (hk : (g 0).k ≠ 1) (hl : (g 0).s.length ≤ 65536) (hp : sm (intV (g 1))) (h1 : i64 (g 1).n) (hs : (g 1).s.length ≤ 65536) : PC Tryz.prog GV 99 [.sl .no 2 (fun i => encV (g i))] (encV ⟨(g 0).k, (g 0).n, cut2 (g 0).s (intV (g 1))⟩) := by
  refine pc_fin E10_ok mixed (show Tryz.prog.funcs[99]? = some Tryz.f99 from rfl) ?_
  have hp' : -1048576 ≤ intV ⟨(g (Int.toNat 1)).k, (g (Int.toNat 1)).n, (g (Int.toNat 1)).s⟩ ∧ intV ⟨(g (Int.toNat 1)).k, (g (Int.toNat 1)).n, (g (Int.toNat 1)).s⟩ ≤ 1048576 := hp
  have hl' : (g (Int.toNat 0)).s.length ≤ 65536 := hl
  repeat' (refine BR.mk (fun h => ?_) (fun h => ?_) <;> try first | contradiction | exact absurd (of_decide_eq_true h) (by decide) | exact absurd h (by decide) | exact absurd (beq_iff_eq.1 h) hk)
  all_goals try exact And.intro (And.intro (by decide) (by decide)) (And.intro rfl rfl)
  all_goals try exact Nat.le_trans hs (by decide)
  all_goals simp only [decide_eq_true_eq, decide_eq_false_iff_not] at *
  all_goals simp (disch := omega) only [wrap_sm] at *
  all_goals try omega
  all_goals refine Fini.mk ?_
  all_goals refine congrArg (fun z => AV.agg [AV.int .u8 (g 0).k, AV.int .i64 (g 0).n, AV.str z]) (?_ : _ = cut2 (g (Int.toNat 0)).s (intV ⟨(g (Int.toNat 1)).k, (g (Int.toNat 1)).n, (g (Int.toNat 1)).s⟩))
  all_goals unfold cut2 cutP
  all_goals first | exact (cutF_no (by omega)).symm | exact cutF_yes (by omega) (by omega) (by omega)
theorem pc_cut3 (g : Nat → V) (hk : (g 0).k ≠ 1) (hl : (g 0).s.length ≤ 65536) (hp : sm (intV (g 1))) (h1 : i64 (g 1).n) (hs : (g 1).s.length ≤ 65536) (hp2 : sm (intV (g 2))) (h2 : i64 (g 2).n) (hs2 : (g 2).s.length ≤ 65536) : PC Tryz.prog GV 99 [.sl .no 3 (fun i => encV (g i))] (encV ⟨(g 0).k, (g 0).n, cut3 (g 0).s (intV (g 1)) (intV (g 2))⟩) := by
  refine pc_fin E10_ok mixed (show Tryz.prog.funcs[99]? = some Tryz.f99 from rfl) ?_
  have hp' : -1048576 ≤ intV ⟨(g (Int.toNat 1)).k, (g (Int.toNat 1)).n, (g (Int.toNat 1)).s⟩ ∧ intV ⟨(g (Int.toNat 1)).k, (g (Int.toNat 1)).n, (g (Int.toNat 1)).s⟩ ≤ 1048576 := hp
  have hq : -1048576 ≤ intV ⟨(g (Int.toNat 2)).k, (g (Int.toNat 2)).n, (g (Int.toNat 2)).s⟩ ∧ intV ⟨(g (Int.toNat 2)).k, (g (Int.toNat 2)).n, (g (Int.toNat 2)).s⟩ ≤ 1048576 := hp2
  have hl' : (g (Int.toNat 0)).s.length ≤ 65536 := hl
  repeat' (refine BR.mk (fun h => ?_) (fun h => ?_) <;> try first | contradiction | exact absurd (of_decide_eq_true h) (by decide) | exact absurd h (by decide) | exact absurd (beq_iff_eq.1 h) hk)
  all_goals try exact And.intro (And.intro (by decide) (by decide)) (And.intro rfl rfl)
  all_goals try exact Nat.le_trans hs (by decide)
  all_goals try exact Nat.le_trans hs2 (by decide)
  all_goals simp only [decide_eq_true_eq, decide_eq_false_iff_not] at *
  all_goals simp (disch := omega) only [wrap_sm] at *
  all_goals try omega
  all_goals refine Fini.mk ?_
  all_goals refine congrArg (fun z => AV.agg [AV.int .u8 (g 0).k, AV.int .i64 (g 0).n, AV.str z]) (?_ : _ = cut3 (g (Int.toNat 0)).s (intV ⟨(g (Int.toNat 1)).k, (g (Int.toNat 1)).n, (g (Int.toNat 1)).s⟩) (intV ⟨(g (Int.toNat 2)).k, (g (Int.toNat 2)).n, (g (Int.toNat 2)).s⟩))
  all_goals unfold cut3 cutP
  all_goals first | exact (cutF_no (by omega)).symm | exact cutF_yes (by omega) (by omega) (by omega)

end Go.Proofs.YtejepcnoflahkaaGreatDoor
end

section
namespace Go.Proofs.YtejepcnoflahkaaGreatDoor
open Go Go.Ab
set_option linter.unusedVariables false
set_option linter.unusedSimpArgs false
set_option maxRecDepth 100000
set_option maxHeartbeats 8000000

def h_hex2 : List AV → CR
  | [.str s] => .need (s.length ≤ 65536) (.str (hexS s))
  | _ => .no
theorem h_hex2_ok (xs : List AV) : CRok Tryz.prog GV 88 xs (h_hex2 xs) := by
  unfold h_hex2
  split
  · rename_i s
    exact fun hn => pc_hex s hn
  · trivial
def E14_0 : Env := E11.add 88 h_hex2
theorem E14_0_ok : EnvOk Tryz.prog E14_0 := Env.add_ok E11_ok (by kernel_rfl) h_hex2_ok

def h_cased : List AV → CR
  | [.str s, .int .u8 c] => .need ((c = 97 ∨ c = 65) ∧ s.length ≤ 140737488355328) (.str (casedS c s))
  | _ => .no
theorem h_cased_ok (xs : List AV) : CRok Tryz.prog GV 94 xs (h_cased xs) := by
  unfold h_cased
  split
  · rename_i s c
    exact fun hn => pc_cased s c hn
  · trivial
def E14_1 : Env := E14_0.add 94 h_cased
theorem E14_1_ok : EnvOk Tryz.prog E14_1 := Env.add_ok E14_0_ok (by kernel_rfl) h_cased_ok

theorem pc_k7 (s : List UInt8) : PC Tryz.prog GV 92 [.cptr [.str s] 0] (encR ⟨⟨1, (s.length : Int), []⟩, 0⟩) := by
  refine pc_fin E14_1_ok mixed (show Tryz.prog.funcs[92]? = some Tryz.f92 from rfl) ?_
  repeat' (refine BR.mk (fun h => ?_) (fun h => ?_) <;> try contradiction)
  all_goals try exact Fini.mk rfl
  all_goals try (show commutes _ _ = true; kernel_rfl)
  all_goals try exact And.intro (And.intro (by decide) (by decide)) (And.intro rfl rfl)

def h_k7 : List AV → CR
  | [.cptr [.str s] 0] => .yes (encR ⟨⟨1, (s.length : Int), []⟩, 0⟩)
  | _ => .no
theorem h_k7_ok (xs : List AV) : CRok Tryz.prog GV 92 xs (h_k7 xs) := by
  unfold h_k7
  split
  · rename_i s
    exact pc_k7 s
  · trivial
def E14_2 : Env := E14_1.add 92 h_k7
theorem E14_2_ok : EnvOk Tryz.prog E14_2 := Env.add_ok E14_1_ok (by kernel_rfl) h_k7_ok

theorem pc_k8 (s : List UInt8) (hn : s.length ≤ 65536) : PC Tryz.prog GV 93 [.cptr [.str s] 0] (encR (textR (casedS 97 s))) := by
  refine pc_fin E14_2_ok mixed (show Tryz.prog.funcs[93]? = some Tryz.f93 from rfl) ?_
  repeat' (refine BR.mk (fun h => ?_) (fun h => ?_) <;> try contradiction)
  all_goals try exact Fini.mk rfl
  all_goals try (show commutes _ _ = true; kernel_rfl)
  all_goals try exact And.intro (And.intro (by decide) (by decide)) (And.intro rfl rfl)
  all_goals exact And.intro (Or.inl rfl) (Nat.le_trans hn (by decide))

def h_k8 : List AV → CR
  | [.cptr [.str s] 0] => .need (s.length ≤ 65536) (encR (textR (casedS 97 s)))
  | _ => .no
theorem h_k8_ok (xs : List AV) : CRok Tryz.prog GV 93 xs (h_k8 xs) := by
  unfold h_k8
  split
  · rename_i s
    exact fun hn => pc_k8 s hn
  · trivial
def E14_3 : Env := E14_2.add 93 h_k8
theorem E14_3_ok : EnvOk Tryz.prog E14_3 := Env.add_ok E14_2_ok (by kernel_rfl) h_k8_ok

theorem pc_k9 (s : List UInt8) (hn : s.length ≤ 65536) : PC Tryz.prog GV 95 [.cptr [.str s] 0] (encR (textR (casedS 65 s))) := by
  refine pc_fin E14_3_ok mixed (show Tryz.prog.funcs[95]? = some Tryz.f95 from rfl) ?_
  repeat' (refine BR.mk (fun h => ?_) (fun h => ?_) <;> try contradiction)
  all_goals try exact Fini.mk rfl
  all_goals try (show commutes _ _ = true; kernel_rfl)
  all_goals try exact And.intro (And.intro (by decide) (by decide)) (And.intro rfl rfl)
  all_goals exact And.intro (Or.inr rfl) (Nat.le_trans hn (by decide))

def h_k9 : List AV → CR
  | [.cptr [.str s] 0] => .need (s.length ≤ 65536) (encR (textR (casedS 65 s)))
  | _ => .no
theorem h_k9_ok (xs : List AV) : CRok Tryz.prog GV 95 xs (h_k9 xs) := by
  unfold h_k9
  split
  · rename_i s
    exact fun hn => pc_k9 s hn
  · trivial
def E14_4 : Env := E14_3.add 95 h_k9
theorem E14_4_ok : EnvOk Tryz.prog E14_4 := Env.add_ok E14_3_ok (by kernel_rfl) h_k9_ok

theorem rep_row {X : Cx} {tag : Tag} {n : Nat} {f : Nat → AV} {g : Nat → V} {v : Value} (hn : ∀ i, i < n → f i = encV (g i)) (h : Rep X true (.cptr [.sl tag n f] 0) v) : Rep X true (.cptr [.sl .no n (fun i => encV (g i))] 0) v := by
  cases h with | cptr h ha => cases h with | cons h hs => exact .cptr (.cons (rep_slice hn (rep_tag h)) hs) ha
def g2 (a b : V) : Nat → V
  | 0 => a
  | _ => b
def g3 (a b c : V) : Nat → V
  | 0 => a
  | 1 => b
  | _ => c

theorem pc_kA0 (s : List UInt8) (g : Nat → V) (hn : s.length ≤ 65536 ∧ i64 (g 1).n ∧ (g 1).s.length ≤ 65536) : PC Tryz.prog GV 96 [.cptr [.str s] 0, .cptr [.sl .no 2 (fun i => encV (g i))] 0] (encR ⟨⟨1, Lib.index s (textV (g 1)) + 1, []⟩, 0⟩) := by
  refine pc_fin E14_4_ok mixed (show Tryz.prog.funcs[96]? = some Tryz.f96 from rfl) ?_
  have hi := Lib.index_le s (textV (g 1))
  have hj := Lib.index_ge s (textV (g 1))
  repeat' (refine BR.mk (fun h => ?_) (fun h => ?_) <;> try contradiction)
  all_goals try exact Fini.mk rfl
  all_goals try (show commutes _ _ = true; kernel_rfl)
  all_goals try exact And.intro (And.intro (by decide) (by decide)) (And.intro rfl rfl)
  · exact hn.2.1
  · exact Nat.lt_of_le_of_lt hn.1 (by decide)
  · refine Fini.mk ?_
    refine congrArg (fun z => AV.tup [AV.agg [AV.int .u8 1, AV.int .i64 z, AV.str []], AV.int .i64 0]) (?_ : _ = Lib.index s (textV (g 1)) + 1)
    have hw := wrap_id (show i64 (Lib.index s (textV (g 1)) + 1) by unfold i64; omega)
    exact hw

def cutH : List AV → CR
  | [.sl .no 2 f] => match f 0, f 1 with
    | .agg [.int .u8 k, .int .i64 n, .str s], .agg [.int .u8 k1, .int .i64 n1, .str s1] => .need ((k ≠ 1 ∧ s.length ≤ 65536) ∧ sm (intV ⟨k1, n1, s1⟩) ∧ i64 n1 ∧ s1.length ≤ 65536) (encV ⟨k, n, cut2 s (intV ⟨k1, n1, s1⟩)⟩)
    | _, _ => .no
  | [.sl .no 3 f] => match f 0, f 1, f 2 with
    | .agg [.int .u8 k, .int .i64 n, .str s], .agg [.int .u8 k1, .int .i64 n1, .str s1], .agg [.int .u8 k2, .int .i64 n2, .str s2] => .need ((k ≠ 1 ∧ s.length ≤ 65536) ∧ (sm (intV ⟨k1, n1, s1⟩) ∧ i64 n1 ∧ s1.length ≤ 65536) ∧ sm (intV ⟨k2, n2, s2⟩) ∧ i64 n2 ∧ s2.length ≤ 65536) (encV ⟨k, n, cut3 s (intV ⟨k1, n1, s1⟩) (intV ⟨k2, n2, s2⟩)⟩)
    | _, _, _ => .no
  | _ => .no
theorem cutH_ok (xs : List AV) : CRok Tryz.prog GV 99 xs (cutH xs) := by
  unfold cutH
  split
  · split
    · rename_i f k n s k1 n1 s1 h0 h1
      rintro ⟨⟨hk, hl⟩, hp, hn, hs⟩
      refine pc_args ?_ (pc_cut2 (g2 ⟨k, n, s⟩ ⟨k1, n1, s1⟩) hk hl hp hn hs)
      intro X vs h
      cases h with | cons h hs =>
        refine .cons (rep_slice (fun i hi => ?_) h) hs
        have : i = 0 ∨ i = 1 := by omega
        rcases this with rfl | rfl
        · exact h0
        · exact h1
    · trivial
  · split
    · rename_i f k n s k1 n1 s1 k2 n2 s2 h0 h1 h2
      rintro ⟨⟨hk, hl⟩, ⟨hp, hn, hs⟩, hp2, hn2, hs2⟩
      refine pc_args ?_ (pc_cut3 (g3 ⟨k, n, s⟩ ⟨k1, n1, s1⟩ ⟨k2, n2, s2⟩) hk hl hp hn hs hp2 hn2 hs2)
      intro X vs h
      cases h with | cons h hs =>
        refine .cons (rep_slice (fun i hi => ?_) h) hs
        have : i = 0 ∨ i = 1 ∨ i = 2 := by omega
        rcases this with rfl | rfl | rfl
        · exact h0
        · exact h1
        · exact h2
    · trivial
  · trivial
def E14_5 : Env := E14_4.add 99 cutH
theorem E14_5_ok : EnvOk Tryz.prog E14_5 := Env.add_ok E14_4_ok (by kernel_rfl) cutH_ok

def h_kA : List AV → CR
  | [.cptr [.str s] 0, .cptr [.sl .no 2 f] 0] => match f 1 with
    | .agg [.int .u8 k1, .int .i64 n1, .str s1] => .need ((s.length ≤ 65536 ∧ i64 n1 ∧ s1.length ≤ 65536) ∧ isVA (f 0) = true) (encR ⟨⟨1, Lib.index s (textV ⟨k1, n1, s1⟩) + 1, []⟩, 0⟩)
    | _ => .no
  | _ => .no
theorem h_kA_ok (xs : List AV) : CRok Tryz.prog GV 96 xs (h_kA xs) := by
  unfold h_kA
  split
  · split
    · rename_i s f _ k1 n1 s1 h1
      rintro ⟨hn, h0⟩
      refine pc_args ?_ (pc_kA0 s (g2 (vOf (f 0)) ⟨k1, n1, s1⟩) hn)
      intro X vs h
      cases h with | cons ha hs => cases hs with | cons h hs =>
        refine .cons ha (.cons (rep_row (fun i hi => ?_) h) hs)
        have : i = 0 ∨ i = 1 := by omega
        rcases this with rfl | rfl
        · exact isVA_eq h0
        · exact h1
    · trivial
  · trivial
def E14_6 : Env := E14_5.add 96 h_kA
theorem E14_6_ok : EnvOk Tryz.prog E14_6 := Env.add_ok E14_5_ok (by kernel_rfl) h_kA_ok
def cutAll : List AV → CR
  | [.cptr [.sl .no 2 f] 0] => match f 0, f 1 with
    | .agg [.int .u8 k, .int .i64 n, .str s], .agg [.int .u8 k1, .int .i64 n1, .str s1] => .need ((k ≠ 1 ∧ s.length ≤ 65536) ∧ sm (intV ⟨k1, n1, s1⟩) ∧ i64 n1 ∧ s1.length ≤ 65536) (encR ⟨⟨k, n, cut2 s (intV ⟨k1, n1, s1⟩)⟩, 0⟩)
    | _, _ => .no
  | [.cptr [.sl .no 3 f] 0] => match f 0, f 1, f 2 with
    | .agg [.int .u8 k, .int .i64 n, .str s], .agg [.int .u8 k1, .int .i64 n1, .str s1], .agg [.int .u8 k2, .int .i64 n2, .str s2] => .need ((k ≠ 1 ∧ s.length ≤ 65536) ∧ (sm (intV ⟨k1, n1, s1⟩) ∧ i64 n1 ∧ s1.length ≤ 65536) ∧ sm (intV ⟨k2, n2, s2⟩) ∧ i64 n2 ∧ s2.length ≤ 65536) (encR ⟨⟨k, n, cut3 s (intV ⟨k1, n1, s1⟩) (intV ⟨k2, n2, s2⟩)⟩, 0⟩)
    | _, _, _ => .no
  | _ => .no
theorem pc_kB2 (a b : V) (h : (a.k ≠ 1 ∧ a.s.length ≤ 65536) ∧ sm (intV b) ∧ i64 b.n ∧ b.s.length ≤ 65536) : PC Tryz.prog GV 98 [.cptr [.sl .no 2 (fun i => encV (g2 a b i))] 0] (encR ⟨⟨a.k, a.n, cut2 a.s (intV b)⟩, 0⟩) := by
  refine pc_fin E14_6_ok mixed (show Tryz.prog.funcs[98]? = some Tryz.f98 from rfl) ?_
  refine BR.mk (fun _ => h) (fun _ => ?_)
  exact Fini.mk rfl
theorem pc_kB3 (a b c : V) (h : (a.k ≠ 1 ∧ a.s.length ≤ 65536) ∧ (sm (intV b) ∧ i64 b.n ∧ b.s.length ≤ 65536) ∧ sm (intV c) ∧ i64 c.n ∧ c.s.length ≤ 65536) : PC Tryz.prog GV 98 [.cptr [.sl .no 3 (fun i => encV (g3 a b c i))] 0] (encR ⟨⟨a.k, a.n, cut3 a.s (intV b) (intV c)⟩, 0⟩) := by
  refine pc_fin E14_6_ok mixed (show Tryz.prog.funcs[98]? = some Tryz.f98 from rfl) ?_
  refine BR.mk (fun _ => h) (fun _ => ?_)
  exact Fini.mk rfl
theorem cutAll_ok (xs : List AV) : CRok Tryz.prog GV 98 xs (cutAll xs) := by
  unfold cutAll
  split
  · split
    · rename_i f k n s k1 n1 s1 h0 h1
      intro hn
      refine pc_args ?_ (pc_kB2 ⟨k, n, s⟩ ⟨k1, n1, s1⟩ hn)
      intro X vs h
      cases h with | cons h hs =>
        refine .cons (rep_row (fun i hi => ?_) h) hs
        have : i = 0 ∨ i = 1 := by omega
        rcases this with rfl | rfl
        · exact h0
        · exact h1
    · trivial
  · split
    · rename_i f k n s k1 n1 s1 k2 n2 s2 h0 h1 h2
      intro hn
      refine pc_args ?_ (pc_kB3 ⟨k, n, s⟩ ⟨k1, n1, s1⟩ ⟨k2, n2, s2⟩ hn)
      intro X vs h
      cases h with | cons h hs =>
        refine .cons (rep_row (fun i hi => ?_) h) hs
        have : i = 0 ∨ i = 1 ∨ i = 2 := by omega
        rcases this with rfl | rfl | rfl
        · exact h0
        · exact h1
        · exact h2
    · trivial
  · trivial
def E14 : Env := E14_6.add 98 cutAll
theorem E14_ok : EnvOk Tryz.prog E14 := Env.add_ok E14_6_ok (by kernel_rfl) cutAll_ok


end Go.Proofs.YtejepcnoflahkaaGreatDoor
end

section
namespace Go.Proofs.YtejepcnoflahkaaGreatDoor
open Go Go.Ab
set_option linter.unusedVariables false
set_option linter.unusedSimpArgs false
set_option maxRecDepth 100000
set_option maxHeartbeats 8000000

def g1 (a : V) : Nat → V := fun _ => a
def okA (v : V) : Prop := (right v = true ∧ v.k ≠ 0) ∧ i64 v.n
instance (v : V) : Decidable (okA v) := by unfold okA; infer_instance
theorem okA_len {v : V} (h : okA v) : v.s.length ≤ 65536 := right_len h.1.1
theorem okA_max {v : V} (h : okA v) : v.s.length ≤ 9223372036854775807 := Nat.le_trans (okA_len h) (by decide)
theorem okA_txt {v : V} (h : okA v) : (textV v).length ≤ 65536 := textV_len h.1.1 h.2
theorem okA_r {v : V} (h : okA v) : notR v = false := by simp [notR, h.1.1]
theorem okA_n {v : V} (h : okA v) : isN v = false := by simp [isN, h.1.2]

theorem pc_k4 (a : V) (h : okA a) : PC Tryz.prog GV 87 [.cptr [.sl .no 1 (fun i => encV (g1 a i))] 0] (encR (textR (hexS (textV a)))) := by
  refine pc_fin E14_ok mixed (show Tryz.prog.funcs[87]? = some Tryz.f87 from rfl) ?_
  have h0 := h.2
  have h1 := okA_len h
  have h2 := okA_max h
  have h3 := okA_txt h
  repeat' (refine BR.mk (fun h => ?_) (fun h => ?_) <;> try contradiction)
  all_goals try exact Fini.mk rfl
  all_goals try (show commutes _ _ = true; kernel_rfl)
  all_goals try exact And.intro (And.intro (by decide) (by decide)) (And.intro rfl rfl)
  all_goals try first | exact h0 | exact h1 | exact h2 | exact h3

def h_k4 : List AV → CR
  | [.cptr [.sl .no 1 f] 0] => match f 0 with
    | .agg [.int .u8 k, .int .i64 n, .str s] => .need (okA ⟨k, n, s⟩) (encR (textR (hexS (textV ⟨k, n, s⟩))))
    | _ => .no
  | _ => .no
theorem h_k4_ok (xs : List AV) : CRok Tryz.prog GV 87 xs (h_k4 xs) := by
  unfold h_k4
  split
  · split
    · rename_i f _ k n s h0
      intro hn
      refine pc_args ?_ (pc_k4 ⟨k, n, s⟩ hn)
      intro X vs h
      cases h with | cons h hs =>
        refine .cons (rep_row (fun i hi => ?_) h) hs
        obtain rfl : i = 0 := by omega
        exact h0
    · trivial
  · trivial
def E15 : Env := E14.add 87 h_k4
theorem E15_ok : EnvOk Tryz.prog E15 := Env.add_ok E14_ok (by kernel_rfl) h_k4_ok
theorem any1 {p : V → Bool} {g : Nat → V} (h : p (g 0) = false) : anyP p g 0 1 = false := by simp [anyP, h]
theorem any2 {p : V → Bool} {g : Nat → V} (h : p (g 0) = false) (h' : p (g 1) = false) : anyP p g 0 2 = false := by simp [anyP, h, h']
theorem any3 {p : V → Bool} {g : Nat → V} (h : p (g 0) = false) (h' : p (g 1) = false) (h2 : p (g 2) = false) : anyP p g 0 3 = false := by simp [anyP, h, h', h2]

theorem call1_length (a : V) (ha : okA a) : PC Tryz.prog GV 26 [.str [108, 101, 110, 103, 116, 104], .sl .no 1 (fun i => encV (g1 a i))] (encR (⟨⟨1, ((textV a).length : Int), []⟩, 0⟩)) := by
  refine pc_fin E15_ok mixed (show Tryz.prog.funcs[26]? = some Tryz.f26 from rfl) ?_
  have hk : knownF [108, 101, 110, 103, 116, 104] ((1 : Nat) : Int) = true := by unfold knownF; decide
  have hr : anyP (idxP 83) (g1 a) 0 1 = false := any1 (okA_r ha)
  have hs : anyP (idxP 84) (g1 a) 0 1 = false := any1 (okA_n ha)
  repeat' (refine BR.mk (fun h => ?_) (fun h => ?_) <;> try first | contradiction | exact absurd h (by decide) | exact Bool.noConfusion (hr.symm.trans h) | exact Bool.noConfusion (hs.symm.trans h) | (rw [hk] at h; exact absurd h (by decide)))
  all_goals try exact Fini.mk rfl
  all_goals try (show commutes _ _ = true; kernel_rfl)
  all_goals try exact And.intro (And.intro (by decide) (by decide)) (And.intro rfl rfl)
  all_goals try exact And.intro (Or.inl rfl) (And.intro (by decide) (fun i hi => rfl))
  all_goals try exact And.intro (Or.inr rfl) (And.intro (by decide) (fun i hi => rfl))
  all_goals try first | exact ha | exact ha.2 | exact okA_max ha | exact okA_txt ha

theorem call1_upper (a : V) (ha : okA a) : PC Tryz.prog GV 26 [.str [117, 112, 112, 101, 114], .sl .no 1 (fun i => encV (g1 a i))] (encR (textR (casedS 97 (textV a)))) := by
  refine pc_fin E15_ok mixed (show Tryz.prog.funcs[26]? = some Tryz.f26 from rfl) ?_
  have hk : knownF [117, 112, 112, 101, 114] ((1 : Nat) : Int) = true := by unfold knownF; decide
  have hr : anyP (idxP 83) (g1 a) 0 1 = false := any1 (okA_r ha)
  have hs : anyP (idxP 84) (g1 a) 0 1 = false := any1 (okA_n ha)
  repeat' (refine BR.mk (fun h => ?_) (fun h => ?_) <;> try first | contradiction | exact absurd h (by decide) | exact Bool.noConfusion (hr.symm.trans h) | exact Bool.noConfusion (hs.symm.trans h) | (rw [hk] at h; exact absurd h (by decide)))
  all_goals try exact Fini.mk rfl
  all_goals try (show commutes _ _ = true; kernel_rfl)
  all_goals try exact And.intro (And.intro (by decide) (by decide)) (And.intro rfl rfl)
  all_goals try exact And.intro (Or.inl rfl) (And.intro (by decide) (fun i hi => rfl))
  all_goals try exact And.intro (Or.inr rfl) (And.intro (by decide) (fun i hi => rfl))
  all_goals try first | exact ha | exact ha.2 | exact okA_max ha | exact okA_txt ha

theorem call1_lower (a : V) (ha : okA a) : PC Tryz.prog GV 26 [.str [108, 111, 119, 101, 114], .sl .no 1 (fun i => encV (g1 a i))] (encR (textR (casedS 65 (textV a)))) := by
  refine pc_fin E15_ok mixed (show Tryz.prog.funcs[26]? = some Tryz.f26 from rfl) ?_
  have hk : knownF [108, 111, 119, 101, 114] ((1 : Nat) : Int) = true := by unfold knownF; decide
  have hr : anyP (idxP 83) (g1 a) 0 1 = false := any1 (okA_r ha)
  have hs : anyP (idxP 84) (g1 a) 0 1 = false := any1 (okA_n ha)
  repeat' (refine BR.mk (fun h => ?_) (fun h => ?_) <;> try first | contradiction | exact absurd h (by decide) | exact Bool.noConfusion (hr.symm.trans h) | exact Bool.noConfusion (hs.symm.trans h) | (rw [hk] at h; exact absurd h (by decide)))
  all_goals try exact Fini.mk rfl
  all_goals try (show commutes _ _ = true; kernel_rfl)
  all_goals try exact And.intro (And.intro (by decide) (by decide)) (And.intro rfl rfl)
  all_goals try exact And.intro (Or.inl rfl) (And.intro (by decide) (fun i hi => rfl))
  all_goals try exact And.intro (Or.inr rfl) (And.intro (by decide) (fun i hi => rfl))
  all_goals try first | exact ha | exact ha.2 | exact okA_max ha | exact okA_txt ha

theorem call1_hex (a : V) (ha : okA a) : PC Tryz.prog GV 26 [.str [104, 101, 120], .sl .no 1 (fun i => encV (g1 a i))] (encR (textR (hexS (textV a)))) := by
  refine pc_fin E15_ok mixed (show Tryz.prog.funcs[26]? = some Tryz.f26 from rfl) ?_
  have hk : knownF [104, 101, 120] ((1 : Nat) : Int) = true := by unfold knownF; decide
  have hr : anyP (idxP 83) (g1 a) 0 1 = false := any1 (okA_r ha)
  have hs : anyP (idxP 84) (g1 a) 0 1 = false := any1 (okA_n ha)
  repeat' (refine BR.mk (fun h => ?_) (fun h => ?_) <;> try first | contradiction | exact absurd h (by decide) | exact Bool.noConfusion (hr.symm.trans h) | exact Bool.noConfusion (hs.symm.trans h) | (rw [hk] at h; exact absurd h (by decide)))
  all_goals try exact Fini.mk rfl
  all_goals try (show commutes _ _ = true; kernel_rfl)
  all_goals try exact And.intro (And.intro (by decide) (by decide)) (And.intro rfl rfl)
  all_goals try exact And.intro (Or.inl rfl) (And.intro (by decide) (fun i hi => rfl))
  all_goals try exact And.intro (Or.inr rfl) (And.intro (by decide) (fun i hi => rfl))
  all_goals try first | exact ha | exact ha.2 | exact okA_max ha | exact okA_txt ha

theorem call2_instr (a b : V) (ha : okA a) (hb : okA b) (hx : ((textV a).length ≤ 65536 ∧ i64 b.n ∧ b.s.length ≤ 65536) ∧ true = true) : PC Tryz.prog GV 26 [.str [105, 110, 115, 116, 114], .sl .no 2 (fun i => encV (g2 a b i))] (encR (⟨⟨1, Lib.index (textV a) (textV b) + 1, []⟩, 0⟩)) := by
  refine pc_fin E15_ok mixed (show Tryz.prog.funcs[26]? = some Tryz.f26 from rfl) ?_
  have hk : knownF [105, 110, 115, 116, 114] ((2 : Nat) : Int) = true := by unfold knownF; decide
  have hr : anyP (idxP 83) (g2 a b) 0 2 = false := any2 (okA_r ha) (okA_r hb)
  have hs : anyP (idxP 84) (g2 a b) 0 2 = false := any2 (okA_n ha) (okA_n hb)
  repeat' (refine BR.mk (fun h => ?_) (fun h => ?_) <;> try first | contradiction | exact absurd h (by decide) | exact Bool.noConfusion (hr.symm.trans h) | exact Bool.noConfusion (hs.symm.trans h) | (rw [hk] at h; exact absurd h (by decide)))
  all_goals try exact Fini.mk rfl
  all_goals try (show commutes _ _ = true; kernel_rfl)
  all_goals try exact And.intro (And.intro (by decide) (by decide)) (And.intro rfl rfl)
  all_goals try exact And.intro (Or.inl rfl) (And.intro (by decide) (fun i hi => rfl))
  all_goals try exact And.intro (Or.inr rfl) (And.intro (by decide) (fun i hi => rfl))
  all_goals try first | exact ha | exact ha.2 | exact okA_max ha | exact okA_txt ha | exact hx

theorem call2_substr (a b : V) (ha : okA a) (hb : okA b) (hx : (a.k ≠ 1 ∧ a.s.length ≤ 65536) ∧ sm (intV b) ∧ i64 b.n ∧ b.s.length ≤ 65536) : PC Tryz.prog GV 26 [.str [115, 117, 98, 115, 116, 114], .sl .no 2 (fun i => encV (g2 a b i))] (encR (⟨⟨a.k, a.n, cut2 a.s (intV b)⟩, 0⟩)) := by
  refine pc_fin E15_ok mixed (show Tryz.prog.funcs[26]? = some Tryz.f26 from rfl) ?_
  have hk : knownF [115, 117, 98, 115, 116, 114] ((2 : Nat) : Int) = true := by unfold knownF; decide
  have hr : anyP (idxP 83) (g2 a b) 0 2 = false := any2 (okA_r ha) (okA_r hb)
  have hs : anyP (idxP 84) (g2 a b) 0 2 = false := any2 (okA_n ha) (okA_n hb)
  repeat' (refine BR.mk (fun h => ?_) (fun h => ?_) <;> try first | contradiction | exact absurd h (by decide) | exact Bool.noConfusion (hr.symm.trans h) | exact Bool.noConfusion (hs.symm.trans h) | (rw [hk] at h; exact absurd h (by decide)))
  all_goals try exact Fini.mk rfl
  all_goals try (show commutes _ _ = true; kernel_rfl)
  all_goals try exact And.intro (And.intro (by decide) (by decide)) (And.intro rfl rfl)
  all_goals try exact And.intro (Or.inl rfl) (And.intro (by decide) (fun i hi => rfl))
  all_goals try exact And.intro (Or.inr rfl) (And.intro (by decide) (fun i hi => rfl))
  all_goals try first | exact ha | exact ha.2 | exact okA_max ha | exact okA_txt ha | exact hx

theorem call3_substr (a b c : V) (ha : okA a) (hb : okA b) (hc : okA c) (hx : (a.k ≠ 1 ∧ a.s.length ≤ 65536) ∧ (sm (intV b) ∧ i64 b.n ∧ b.s.length ≤ 65536) ∧ sm (intV c) ∧ i64 c.n ∧ c.s.length ≤ 65536) : PC Tryz.prog GV 26 [.str [115, 117, 98, 115, 116, 114], .sl .no 3 (fun i => encV (g3 a b c i))] (encR (⟨⟨a.k, a.n, cut3 a.s (intV b) (intV c)⟩, 0⟩)) := by
  refine pc_fin E15_ok mixed (show Tryz.prog.funcs[26]? = some Tryz.f26 from rfl) ?_
  have hk : knownF [115, 117, 98, 115, 116, 114] ((3 : Nat) : Int) = true := by unfold knownF; decide
  have hr : anyP (idxP 83) (g3 a b c) 0 3 = false := any3 (okA_r ha) (okA_r hb) (okA_r hc)
  have hs : anyP (idxP 84) (g3 a b c) 0 3 = false := any3 (okA_n ha) (okA_n hb) (okA_n hc)
  repeat' (refine BR.mk (fun h => ?_) (fun h => ?_) <;> try first | contradiction | exact absurd h (by decide) | exact Bool.noConfusion (hr.symm.trans h) | exact Bool.noConfusion (hs.symm.trans h) | (rw [hk] at h; exact absurd h (by decide)))
  all_goals try exact Fini.mk rfl
  all_goals try (show commutes _ _ = true; kernel_rfl)
  all_goals try exact And.intro (And.intro (by decide) (by decide)) (And.intro rfl rfl)
  all_goals try exact And.intro (Or.inl rfl) (And.intro (by decide) (fun i hi => rfl))
  all_goals try exact And.intro (Or.inr rfl) (And.intro (by decide) (fun i hi => rfl))
  all_goals try first | exact ha | exact ha.2 | exact okA_max ha | exact okA_txt ha | exact hx

def call1 (nm : List UInt8) (a : V) : R := if nm = [108, 101, 110, 103, 116, 104] then ⟨⟨1, ((textV a).length : Int), []⟩, 0⟩ else if nm = [117, 112, 112, 101, 114] then textR (casedS 97 (textV a)) else if nm = [108, 111, 119, 101, 114] then textR (casedS 65 (textV a)) else textR (hexS (textV a))
def call2 (nm : List UInt8) (a b : V) : R := if nm = [105, 110, 115, 116, 114] then ⟨⟨1, Lib.index (textV a) (textV b) + 1, []⟩, 0⟩ else ⟨⟨a.k, a.n, cut2 a.s (intV b)⟩, 0⟩
def call3 (a b c : V) : R := ⟨⟨a.k, a.n, cut3 a.s (intV b) (intV c)⟩, 0⟩
def ok1 (nm : List UInt8) (a : V) : Prop := (nm = [108, 101, 110, 103, 116, 104] ∨ nm = [117, 112, 112, 101, 114] ∨ nm = [108, 111, 119, 101, 114] ∨ nm = [104, 101, 120]) ∧ okA a
def ok2 (nm : List UInt8) (a b : V) : Prop := (okA a ∧ okA b) ∧ (nm = [105, 110, 115, 116, 114] ∨ nm = [115, 117, 98, 115, 116, 114] ∧ a.k ≠ 1 ∧ sm (intV b))
def ok3 (nm : List UInt8) (a b c : V) : Prop := (okA a ∧ okA b ∧ okA c) ∧ nm = [115, 117, 98, 115, 116, 114] ∧ a.k ≠ 1 ∧ sm (intV b) ∧ sm (intV c)
instance (nm a) : Decidable (ok1 nm a) := by unfold ok1; infer_instance
instance (nm a b) : Decidable (ok2 nm a b) := by unfold ok2; infer_instance
instance (nm a b c) : Decidable (ok3 nm a b c) := by unfold ok3; infer_instance
theorem pc_call1 (nm : List UInt8) (a : V) (h : ok1 nm a) : PC Tryz.prog GV 26 [.str nm, .sl .no 1 (fun i => encV (g1 a i))] (encR (call1 nm a)) := by
  obtain ⟨hm, ha⟩ := h
  rcases hm with rfl | rfl | rfl | rfl
  · exact call1_length a ha
  · exact call1_upper a ha
  · exact call1_lower a ha
  · exact call1_hex a ha
theorem pc_call2 (nm : List UInt8) (a b : V) (h : ok2 nm a b) : PC Tryz.prog GV 26 [.str nm, .sl .no 2 (fun i => encV (g2 a b i))] (encR (call2 nm a b)) := by
  obtain ⟨⟨ha, hb⟩, hm⟩ := h
  rcases hm with rfl | ⟨rfl, hk, hp⟩
  · exact call2_instr a b ha hb ⟨⟨okA_txt ha, hb.2, okA_len hb⟩, rfl⟩
  · exact call2_substr a b ha hb ⟨⟨hk, okA_len ha⟩, hp, hb.2, okA_len hb⟩
theorem pc_call3 (nm : List UInt8) (a b c : V) (h : ok3 nm a b c) : PC Tryz.prog GV 26 [.str nm, .sl .no 3 (fun i => encV (g3 a b c i))] (encR (call3 a b c)) := by
  obtain ⟨⟨ha, hb, hc⟩, rfl, hk, hp, hq⟩ := h
  exact call3_substr a b c ha hb hc ⟨⟨hk, okA_len ha⟩, ⟨hp, hb.2, okA_len hb⟩, hq, hc.2, okA_len hc⟩

def hCall : List AV → CR
  | [.str nm, .sl tag 1 f] => match f 0 with
    | .agg [.int .u8 k, .int .i64 n, .str s] => .need (ok1 nm ⟨k, n, s⟩) (encR (call1 nm ⟨k, n, s⟩))
    | _ => .no
  | [.str nm, .sl tag 2 f] => match f 0, f 1 with
    | .agg [.int .u8 k, .int .i64 n, .str s], .agg [.int .u8 k1, .int .i64 n1, .str s1] => .need (ok2 nm ⟨k, n, s⟩ ⟨k1, n1, s1⟩) (encR (call2 nm ⟨k, n, s⟩ ⟨k1, n1, s1⟩))
    | _, _ => .no
  | [.str nm, .sl tag 3 f] => match f 0, f 1, f 2 with
    | .agg [.int .u8 k, .int .i64 n, .str s], .agg [.int .u8 k1, .int .i64 n1, .str s1], .agg [.int .u8 k2, .int .i64 n2, .str s2] => .need (ok3 nm ⟨k, n, s⟩ ⟨k1, n1, s1⟩ ⟨k2, n2, s2⟩) (encR (call3 ⟨k, n, s⟩ ⟨k1, n1, s1⟩ ⟨k2, n2, s2⟩))
    | _, _, _ => .no
  | _ => .no
theorem hCall_ok (xs : List AV) : CRok Tryz.prog GV 26 xs (hCall xs) := by
  unfold hCall
  split
  · split
    · rename_i nm tag f _ k n s h0
      intro hn
      refine pc_args ?_ (pc_call1 nm ⟨k, n, s⟩ hn)
      intro X vs h
      cases h with | cons ha hs => cases hs with | cons h hs =>
        refine .cons ha (.cons (rep_slice (fun i hi => ?_) (rep_tag h)) hs)
        obtain rfl : i = 0 := by omega
        exact h0
    · trivial
  · split
    · rename_i nm tag f _ _ k n s k1 n1 s1 h0 h1
      intro hn
      refine pc_args ?_ (pc_call2 nm ⟨k, n, s⟩ ⟨k1, n1, s1⟩ hn)
      intro X vs h
      cases h with | cons ha hs => cases hs with | cons h hs =>
        refine .cons ha (.cons (rep_slice (fun i hi => ?_) (rep_tag h)) hs)
        have : i = 0 ∨ i = 1 := by omega
        rcases this with rfl | rfl
        · exact h0
        · exact h1
    · trivial
  · split
    · rename_i nm tag f _ _ _ k n s k1 n1 s1 k2 n2 s2 h0 h1 h2
      intro hn
      refine pc_args ?_ (pc_call3 nm ⟨k, n, s⟩ ⟨k1, n1, s1⟩ ⟨k2, n2, s2⟩ hn)
      intro X vs h
      cases h with | cons ha hs => cases hs with | cons h hs =>
        refine .cons ha (.cons (rep_slice (fun i hi => ?_) (rep_tag h)) hs)
        have : i = 0 ∨ i = 1 ∨ i = 2 := by omega
        rcases this with rfl | rfl | rfl
        · exact h0
        · exact h1
        · exact h2
    · trivial
  · trivial

def E16 : Env := E15.add 26 hCall
theorem E16_ok : EnvOk Tryz.prog E16 := Env.add_ok E15_ok (by kernel_rfl) hCall_ok

def hCl : List AV → CR
  | [.str nm, .sl tag 1 f] => match f 0 with
    | .agg [.int .u8 k, .int .i64 n, .str s] => .need (ok1 nm ⟨k, n, s⟩) (encV (call1 nm ⟨k, n, s⟩).v)
    | _ => .no
  | [.str nm, .sl tag 2 f] => match f 0, f 1 with
    | .agg [.int .u8 k, .int .i64 n, .str s], .agg [.int .u8 k1, .int .i64 n1, .str s1] => .need (ok2 nm ⟨k, n, s⟩ ⟨k1, n1, s1⟩) (encV (call2 nm ⟨k, n, s⟩ ⟨k1, n1, s1⟩).v)
    | _, _ => .no
  | [.str nm, .sl tag 3 f] => match f 0, f 1, f 2 with
    | .agg [.int .u8 k, .int .i64 n, .str s], .agg [.int .u8 k1, .int .i64 n1, .str s1], .agg [.int .u8 k2, .int .i64 n2, .str s2] => .need (ok3 nm ⟨k, n, s⟩ ⟨k1, n1, s1⟩ ⟨k2, n2, s2⟩) (encV (call3 ⟨k, n, s⟩ ⟨k1, n1, s1⟩ ⟨k2, n2, s2⟩).v)
    | _, _, _ => .no
  | _ => .no
def E17 : Env := E16
theorem E17_ok : EnvOk Tryz.prog E17 := E16_ok
end Go.Proofs.YtejepcnoflahkaaGreatDoor
end

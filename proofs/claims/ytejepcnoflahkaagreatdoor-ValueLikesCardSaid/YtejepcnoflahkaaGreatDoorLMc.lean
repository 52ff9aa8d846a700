/- strings.ToValidUTF8(s, "?"): what it comes to, in plain Lean. -/
import Derived.Test.YtejepcnoflahkaaGreatDoorVLike
import Derived.Lib.SplitLaws
import Derived.Lib.MapLaws
import Derived.Test.YtejepcnoflahkaaGreatDoorShelf
import Derived.Test.YtejepcnoflahkaaGreatDoorVRunEnv
import Derived.Lib.TrimAscii
section
namespace Go.Proofs.YtejepcnoflahkaaGreatDoor
open Go Go.Ab
set_option linter.unusedVariables false
/-- no sign stands in it -/
def bare (l : List UInt8) : Prop := ∀ x ∈ l, x ≠ 37 ∧ x ≠ 95
theorem like_self : ∀ l : List UInt8, (∀ x ∈ l, x ≠ 37) → likeR l l = true
  | [], _ => likeR_nil []
  | c :: l, h => by
    rw [likeR_lit _ _ _ _ (h c (by simp)), like_self l fun x hx => h x (by simp [hx])]
    simp
theorem like_small : ∀ (l m : List UInt8), l.length = m.length → (∀ i, i < l.length → small (l.getD i 0) = small (m.getD i 0)) → (∀ x ∈ m, x ≠ 37) → likeR l m = true
  | [], [], _, _, _ => likeR_nil []
  | [], _ :: _, h, _, _ => by simp at h
  | _ :: _, [], h, _, _ => by simp at h
  | c :: l, d :: m, h, hs, hm => by
    have h0 := hs 0 (by simp)
    simp only [List.getD_cons_zero] at h0
    rw [likeR_lit _ _ _ _ (hm d (by simp)), like_small l m (by simpa using h) (fun i hi => by have := hs (i + 1) (by simp; omega); simpa using this) fun x hx => hm x (by simp [hx])]
    simp [h0]
theorem like_map {f g : UInt8 → UInt8} (h : ∀ c, small (f c) = small (g c)) : ∀ l : List UInt8, (∀ x ∈ l, g x ≠ 37) → likeR (l.map f) (l.map g) = true
  | [], _ => likeR_nil []
  | c :: l, hm => by
    rw [List.map_cons, List.map_cons, likeR_lit _ _ _ _ (hm c (by simp)), like_map h l fun x hx => hm x (by simp [hx])]
    simp [h c]
theorem like_star : ∀ s : List UInt8, likeR s [37] = true
  | [] => likeR_nil [37]
  | c :: s => by rw [likeR_star, like_star s, Bool.or_true]
theorem star_zero : ∀ (s q : List UInt8), likeR s q = true → likeR s (37 :: q) = true
  | [], q, h => by
    rw [likeR_nil] at h ⊢
    simpa using h
  | c :: s, q, h => by rw [likeR_star, h, Bool.true_or]
theorem like_front : ∀ (l s : List UInt8), (∀ x ∈ l, x ≠ 37) → likeR (l ++ s) (l ++ [37]) = true
  | [], s, _ => like_star s
  | c :: l, s, h => by
    rw [List.cons_append, List.cons_append, likeR_lit _ _ _ _ (h c (by simp)), like_front l s fun x hx => h x (by simp [hx])]
    simp
theorem like_within (t l s : List UInt8) (h : ∀ x ∈ l, x ≠ 37) : likeR ((t ++ l) ++ s) (([37] ++ l) ++ [37]) = true := by
  rw [List.append_assoc]
  exact star_more t (l ++ s) (l ++ [37]) (star_zero _ _ (like_front l s h))
theorem like_none (s : List UInt8) : likeR s [] = (s == []) := by
  cases s with
  | nil => rw [likeR_nil]; rfl
  | cons c s => rw [likeR_end]; rfl
theorem all_star {p : List UInt8} (h : p.all (· == 37) = true) : ∀ (t q : List UInt8), likeR t q = true → likeR t (p ++ q) = true := by
  intro t q hq
  induction p with
  | nil => exact hq
  | cons c p ih =>
    simp only [List.all_cons, Bool.and_eq_true, beq_iff_eq] at h
    rw [h.1]
    exact star_zero _ _ (ih h.2)
theorem like_app : ∀ (s p t q : List UInt8), likeR s p = true → likeR t q = true → likeR (s ++ t) (p ++ q) = true
  | [], p, t, q, h, hq => by
    rw [likeR_nil] at h
    exact all_star h t q hq
  | c :: s, [], t, q, h, hq => by rw [likeR_end] at h; cases h
  | c :: s, d :: p, t, q, h, hq => by
    by_cases hd : d = 37
    · subst hd
      rw [likeR_star, Bool.or_eq_true] at h
      rw [List.cons_append, List.cons_append, likeR_star, Bool.or_eq_true]
      rcases h with h | h
      · exact .inl (like_app (c :: s) p t q h hq)
      · exact .inr (like_app s (37 :: p) t q h hq)
    · rw [likeR_lit _ _ _ _ hd, Bool.and_eq_true] at h
      rw [List.cons_append, List.cons_append, likeR_lit _ _ _ _ hd, h.1, like_app s p t q h.2 hq]
      rfl
termination_by s p => s.length + p.length
theorem like_any : ∀ s : List UInt8, likeR s (List.replicate s.length 95) = true
  | [] => likeR_nil []
  | c :: s => by
    rw [List.length_cons, List.replicate_succ, likeR_lit _ _ _ _ (by decide), like_any s]
    rfl
theorem like_more : ∀ s : List UInt8, likeR s (List.replicate (s.length + 1) 95) = false
  | [] => likeR_nil [95]
  | c :: s => by
    rw [List.length_cons, List.replicate_succ, likeR_lit _ _ _ _ (by decide), like_more s]
    simp
/-- each % twice -/
def dbl (p : List UInt8) : List UInt8 := p.flatMap fun b => if b = 37 then [37, 37] else [b]
theorem dbl_star (p : List UInt8) : dbl (37 :: p) = 37 :: 37 :: dbl p := rfl
theorem dbl_lit {c : UInt8} (h : c ≠ 37) (p : List UInt8) : dbl (c :: p) = c :: dbl p := by
  show (if c = 37 then [37, 37] else [c]) ++ dbl p = _
  rw [if_neg h]; rfl
theorem star_two : ∀ (s q : List UInt8), likeR s (37 :: 37 :: q) = likeR s (37 :: q)
  | [], q => by rw [likeR_nil, likeR_nil]; simp
  | c :: s, q => by
    rw [likeR_star, star_two s q]
    cases h : likeR s (37 :: q) with
    | false => rw [Bool.or_false]
    | true => rw [Bool.or_true]; exact (star_more [c] s q h).symm
theorem like_dbl : ∀ (s p : List UInt8), likeR s (dbl p) = likeR s p
  | [], p => by
    rw [likeR_nil, likeR_nil]
    induction p with
    | nil => rfl
    | cons c p ih =>
      by_cases h : c = 37
      · subst h
        rw [dbl_star]; simp [ih]
      · rw [dbl_lit h]; simp [ih]
  | c :: s, [] => rfl
  | c :: s, d :: p => by
    by_cases hd : d = 37
    · subst hd
      have h1 := like_dbl s (37 :: p)
      rw [dbl_star, star_two] at h1
      rw [dbl_star, star_two, likeR_star, likeR_star, like_dbl (c :: s) p, h1]
    · rw [dbl_lit hd, likeR_lit _ _ _ _ hd, likeR_lit _ _ _ _ hd, like_dbl s p]
termination_by s p => s.length + p.length
theorem rep_other {c : UInt8} {new : List UInt8} {b : UInt8} (h : b ≠ c) (l : List UInt8) : ∀ k, Lib.replaceK [c] new k (b :: l) = b :: Lib.replaceK [c] new k l
  | 0 => rfl
  | k + 1 => by
    have hi : Lib.index (b :: l) [c] = if Lib.index l [c] == -1 then -1 else Lib.index l [c] + 1 := by
      rw [Lib.index, if_neg]
      simpa using fun e => h e.symm
    have hge := Lib.index_ge l [c]
    rw [Lib.replaceK, Lib.replaceK, hi]
    by_cases hm : Lib.index l [c] = -1
    · simp [hm]
    · have e1 : (Lib.index l [c] == -1) = false := by simpa using hm
      rw [e1]
      simp only [Bool.false_eq_true, if_false]
      rw [if_neg (by simp; omega)]
      have e2 : (Lib.index l [c] + 1).toNat = (Lib.index l [c]).toNat + 1 := by omega
      rw [e2]
      simp
theorem dbl_is : ∀ s : List UInt8, Lib.replaceK [37] [37, 37] (Lib.count s [37]) s = dbl s
  | [] => by rw [Lib.count_one]; rfl
  | b :: l => by
    by_cases h : b = 37
    · subst h
      rw [Lib.count_cons_eq, Nat.add_comm, Lib.replaceK, show Lib.index (37 :: l) [37] = 0 from by rw [Lib.index, if_pos (by simp)]]
      have := dbl_is l
      simp [dbl] at this ⊢
      exact this
    · rw [Lib.count_cons_ne _ _ _ h, rep_other h, dbl_is l]
      simp [dbl, h]
theorem replaceAll_dbl (s : List UInt8) : Lib.replaceAll s [37] [37, 37] = dbl s := by
  unfold Lib.replaceAll Lib.replace Lib.replaceNum
  rw [if_neg (by decide), if_pos (.inl (by decide))]
  exact dbl_is s
/-- one byte more, one _ more -/
theorem like_one : ∀ (s p : List UInt8), likeR (s ++ [120]) (p ++ [95]) = likeR s p
  | [], [] => by
    rw [List.nil_append, List.nil_append, likeR_lit _ _ _ _ (by decide), likeR_nil]; rfl
  | [], d :: p => by
    by_cases hd : d = 37
    · subst hd
      rw [List.cons_append, List.nil_append, likeR_star, likeR_nil (37 :: p)]
      have h1 := like_one [] p
      rw [List.nil_append, likeR_nil] at h1
      have h2 : likeR [] (37 :: (p ++ [95])) = false := by rw [likeR_nil]; simp
      rw [h1, h2]; simp
    · rw [List.cons_append, List.nil_append, likeR_lit _ _ _ _ hd, likeR_nil, likeR_nil]
      have : ((d :: p).all fun x => x == 37) = false := by simp [hd]
      rw [this]
      simp
  | c :: s, [] => by
    rw [likeR_end, List.nil_append, List.cons_append, likeR_lit _ _ _ _ (by decide)]
    cases s with
    | nil => rw [List.nil_append, likeR_end, Bool.and_false]
    | cons e s => rw [List.cons_append, likeR_end, Bool.and_false]
  | c :: s, d :: p => by
    by_cases hd : d = 37
    · subst hd
      have h1 := like_one (c :: s) p
      have h2 := like_one s (37 :: p)
      rw [List.cons_append] at h1 h2
      rw [List.cons_append, List.cons_append, likeR_star, likeR_star, h1, h2]
    · rw [List.cons_append, List.cons_append, likeR_lit _ _ _ _ hd, likeR_lit _ _ _ _ hd, like_one s p]
termination_by s p => s.length + p.length
end Go.Proofs.YtejepcnoflahkaaGreatDoor
end

section
namespace Go.Proofs.YtejepcnoflahkaaGreatDoor
open Go Go.Ab
set_option linter.unusedVariables false
/-- ValueLikes' closure -/
def noSign (r : Int) : Int := if r = 37 ∨ r = 95 then 120 else r
theorem noSign_ne (r : Int) : noSign r ≠ 37 ∧ noSign r ≠ 95 := by
  unfold noSign
  split
  · decide
  · rename_i h; exact ⟨fun e => h (.inl e), fun e => h (.inr e)⟩
theorem byteZ_ne {x : Int} (h : 0 ≤ x ∧ x < 256) (h1 : x ≠ 37) (h2 : x ≠ 95) : x.toNat.toUInt8 ≠ 37 ∧ x.toNat.toUInt8 ≠ 95 := by
  obtain ⟨n, rfl⟩ := Int.eq_ofNat_of_zero_le h.1
  rw [Int.toNat_natCast]
  have hn : n < 256 := by omega
  have hv : n.toUInt8.toNat = n := by
    show n % 256 = n
    omega
  constructor <;> intro e
  · have := congrArg UInt8.toNat e
    rw [hv] at this
    exact h1 (by rw [this]; rfl)
  · have := congrArg UInt8.toNat e
    rw [hv] at this
    exact h2 (by rw [this]; rfl)
theorem encZ_ne {r : Int} (h1 : r ≠ 37) (h2 : r ≠ 95) : ∀ x ∈ Lib.encodeRuneZ r, x ≠ 37 ∧ x ≠ 95 := by
  intro x hx
  unfold Lib.encodeRuneZ at hx
  split at hx
  · rw [List.mem_singleton.1 hx]; exact ⟨h1, h2⟩
  · split at hx
    · simp only [List.mem_cons, List.not_mem_nil, or_false] at hx
      omega
    · split at hx
      · simp only [List.mem_cons, List.not_mem_nil, or_false] at hx
        omega
      · split at hx
        · simp only [List.mem_cons, List.not_mem_nil, or_false] at hx
          omega
        · simp only [List.mem_cons, List.not_mem_nil, or_false] at hx
          omega
theorem enc_bare (r : Int) : bare (Lib.encodeRune (noSign r)) := by
  intro x hx
  unfold Lib.encodeRune at hx
  obtain ⟨z, hz, rfl⟩ := List.mem_map.1 hx
  obtain ⟨a, b⟩ := noSign_ne r
  obtain ⟨c, d⟩ := encZ_ne a b z hz
  exact byteZ_ne (Lib.encodeRuneZ_byte _ z hz) c d
theorem enc_len (r : Int) : (Lib.encodeRune r).length ≤ 4 := by
  unfold Lib.encodeRune
  rw [List.length_map]
  exact (Lib.encodeRuneZ_length r).2
theorem mapGo_bare : ∀ (n : Nat) (l : List UInt8), bare (Lib.mapGoD noSign n l) ∧ (Lib.mapGoD noSign n l).length ≤ 4 * n
  | 0, l => ⟨fun x hx => absurd hx (by simp [Lib.mapGoD]), by simp [Lib.mapGoD]⟩
  | n + 1, l => by
    simp only [Lib.mapGoD]
    split
    · exact ⟨fun x hx => absurd hx (List.not_mem_nil), by simp⟩
    · obtain ⟨h1, h2⟩ := mapGo_bare n (l.drop (Lib.decodeL l).2)
      refine ⟨fun x hx => ?_, ?_⟩
      · rcases List.mem_append.1 hx with hx | hx
        · split at hx
          · exact enc_bare _ x hx
          · exact absurd hx (List.not_mem_nil)
        · exact h1 x hx
      · rw [List.length_append]
        have : (if 0 ≤ noSign (Lib.decodeL l).1 then Lib.encodeRune (noSign (Lib.decodeL l).1) else []).length ≤ 4 := by
          split
          · exact enc_len _
          · simp
        omega
def plainS (v : List UInt8) : List UInt8 := Lib.mapD noSign v
theorem plain_bare (v : List UInt8) : bare (plainS v) := (mapGo_bare _ v).1
theorem plain_len (v : List UInt8) : (plainS v).length ≤ 4 * v.length := (mapGo_bare _ v).2
/-! upper and lower letters -/
theorem up_small : ∀ n : Fin 256, (let c := UInt8.ofNat n.val; small (if 97 ≤ c.toNat ∧ c.toNat < 123 then c ^^^ 32 else c) = small c ∧ small (if 65 ≤ c.toNat ∧ c.toNat < 91 then c ^^^ 32 else c) = small c ∧ (c ≠ 37 → (if 97 ≤ c.toNat ∧ c.toNat < 123 then c ^^^ 32 else c) ≠ 37) ∧ (c ≠ 37 → (if 65 ≤ c.toNat ∧ c.toNat < 91 then c ^^^ 32 else c) ≠ 37)) := by decide +kernel
def upB (c : UInt8) : UInt8 := if 97 ≤ c.toNat ∧ c.toNat < 123 then c ^^^ 32 else c
def loB (c : UInt8) : UInt8 := if 65 ≤ c.toNat ∧ c.toNat < 91 then c ^^^ 32 else c
theorem byte_all (c : UInt8) : small (upB c) = small c ∧ small (loB c) = small c ∧ (c ≠ 37 → upB c ≠ 37) ∧ (c ≠ 37 → loB c ≠ 37) := by
  have h := up_small ⟨c.toNat, c.toNat_lt⟩
  have e : UInt8.ofNat c.toNat = c := UInt8.ofNat_toNat
  simp only [e] at h
  exact h
theorem like_up_down (l : List UInt8) (h : bare l) : likeR (l.map upB) (l.map loB) = true ∧ likeR (l.map loB) (l.map upB) = true :=
  ⟨like_map (fun c => ((byte_all c).1).trans ((byte_all c).2.1).symm) l fun x hx => (byte_all x).2.2.2 (h x hx).1,
   like_map (fun c => ((byte_all c).2.1).trans ((byte_all c).1).symm) l fun x hx => (byte_all x).2.2.1 (h x hx).1⟩
end Go.Proofs.YtejepcnoflahkaaGreatDoor
end

section
namespace Go.Proofs.YtejepcnoflahkaaGreatDoor
open Go Go.Ab Go.RowKit
set_option linter.unusedVariables false
set_option maxRecDepth 100000
def GU (w : World) : Prop := GV w ∧ Lib.Utf8Tabs 2 3 w
theorem GU_s : ∀ w w', GU w → RowKit.Below w.heap.size w w' → GU w' := fun w w' h hb => ⟨GV_s w w' h.1 hb, Utf8Tabs_below h.2 hb⟩
theorem GB.mono {G G' : World → Prop} (h : ∀ w, G' w → G w) {X : Cx} (k : GB G' X) : GB G X := by
  obtain ⟨w0, h1, h2, h3⟩ := k
  exact ⟨w0, h w0 h1, h2, h3⟩
theorem PC.mono {P : Program} {G G' : World → Prop} (h : ∀ w, G' w → G w) {f : FuncId} {xs : List AV} {r : AV} (k : PC P G f xs r) : PC P G' f xs r := fun w L c hg ha => k w L c (h w hg) ha
theorem HC.mono {P : Program} {G G' : World → Prop} (h : ∀ w, G' w → G w) {f : FuncId} {xs : List AV} {m m' : St} {r : AV} (k : HC P G f xs m r m') : HC P G' f xs m r m' := fun X c hg hm ha => k X c (GB.mono h hg) hm ha
theorem pc_closure (r : Int) (w : World) : Calls Tryz.prog 42 #[.int .i32 r] w fun e w' => e = .returned (.int .i32 (noSign r)) ∧ ∃ q, w' = w.drewN q := by
  go_enter Tryz.func42, Tryz.ntmps42
  go_wp2
  all_goals go_ret
  all_goals refine ⟨?_, 0, rfl⟩
  all_goals refine congrArg (fun z => Ending.returned (Value.int .i32 z)) ?_
  all_goals unfold noSign
  all_goals simp_all
theorem map_nn (x : Nat) (hx : x ≤ 1114111) : 0 ≤ noSign (x : Int) ∧ noSign (x : Int) ≤ 2147483647 := by
  unfold noSign
  split <;> omega
theorem pc_map (v : List UInt8) (hn : v.length < 35184372088832) : PC Tryz.prog GU 41 [.clo 42 [] [], .str v] (.str (plainS v)) := by
  refine pc_pure (cargs := [.func (.func 42) #[] #[], .string ⟨v.toArray⟩]) (cv := .string ⟨(plainS v).toArray⟩) (fun X vs h => ?_) (fun X => .str ..) (fun w hg => ?_)
  · cases h with | cons h1 hs => cases hs with | cons h2 hs =>
      cases hs
      cases h1 with | clo a b =>
        cases a
        cases b
        cases h2
        rfl
  · exact Tryz.strings_Map_runes 42 #[] (run_callFunc (by kernel_rfl)) noSign ⟨v.toArray⟩ w hn (fun W x _ _ => pc_closure x W) map_nn hg.2
def h_map : List AV → CR
  | [.clo c [] [], .str v] => .need (c = 42 ∧ v.length < 35184372088832) (.str (plainS v))
  | _ => .no
theorem h_map_ok (xs : List AV) : CRok Tryz.prog GU 41 xs (h_map xs) := by
  unfold h_map
  split
  · rintro ⟨rfl, hn⟩
    exact pc_map _ hn
  · trivial
end Go.Proofs.YtejepcnoflahkaaGreatDoor
end

section
namespace Go.Proofs.YtejepcnoflahkaaGreatDoor
open Go Go.Ab
set_option linter.unusedVariables false
def tvG : Nat → Bool → List UInt8 → List UInt8
  | 0, _, _ => []
  | n + 1, inv, l => if l = [] then [] else
      if (l.getD 0 0).toNat < 128 then l.take 1 ++ tvG n false (l.drop 1)
      else if (Lib.decodeL l).2 = 1 then (if inv then [] else [63]) ++ tvG n true (l.drop 1)
      else l.take (Lib.decodeL l).2 ++ tvG n false (l.drop (Lib.decodeL l).2)
def tvS (inv : Bool) (l : List UInt8) : List UInt8 := tvG l.length inv l
theorem tvG_nil (inv : Bool) : ∀ n, tvG n inv [] = []
  | 0 => rfl
  | n + 1 => by simp [tvG]
theorem tvG_fuel : ∀ (n m : Nat) (inv : Bool) (l : List UInt8), l.length ≤ n → l.length ≤ m → tvG n inv l = tvG m inv l
  | 0, m, inv, l, hn, _ => by
    have : l = [] := List.eq_nil_of_length_eq_zero (by omega)
    subst this
    rw [tvG_nil, tvG_nil]
  | n + 1, 0, inv, l, _, hm => by
    have : l = [] := List.eq_nil_of_length_eq_zero (by omega)
    subst this
    rw [tvG_nil, tvG_nil]
  | n + 1, m + 1, inv, l, hn, hm => by
    by_cases hne : l = []
    · subst hne
      rw [tvG_nil, tvG_nil]
    · have hw := Lib.decodeL_width l
      have hl : 0 < l.length := List.length_pos_iff.2 hne
      simp only [tvG, if_neg hne]
      rw [tvG_fuel n m false _ (by rw [List.length_drop]; omega) (by rw [List.length_drop]; omega), tvG_fuel n m true _ (by rw [List.length_drop]; omega) (by rw [List.length_drop]; omega), tvG_fuel n m false (l.drop (Lib.decodeL l).2) (by rw [List.length_drop]; omega) (by rw [List.length_drop]; omega)]
theorem tvS_step (inv : Bool) (l : List UInt8) (hne : l ≠ []) : tvS inv l = if (l.getD 0 0).toNat < 128 then l.take 1 ++ tvS false (l.drop 1)
      else if (Lib.decodeL l).2 = 1 then (if inv then [] else [63]) ++ tvS true (l.drop 1)
      else l.take (Lib.decodeL l).2 ++ tvS false (l.drop (Lib.decodeL l).2) := by
  have hw := Lib.decodeL_width l
  have hl : 0 < l.length := List.length_pos_iff.2 hne
  unfold tvS
  obtain ⟨n, hn⟩ : ∃ n, l.length = n + 1 := ⟨l.length - 1, by omega⟩
  rw [hn]
  simp only [tvG, if_neg hne]
  rw [tvG_fuel n (l.drop 1).length false _ (by rw [List.length_drop]; omega) (Nat.le_refl _), tvG_fuel n (l.drop 1).length true _ (by rw [List.length_drop]; omega) (Nat.le_refl _), tvG_fuel n (l.drop (Lib.decodeL l).2).length false (l.drop (Lib.decodeL l).2) (by rw [List.length_drop]; omega) (Nat.le_refl _)]
theorem tvS_nil (inv : Bool) : tvS inv [] = [] := rfl
theorem dec_low (l : List UInt8) (hne : l ≠ []) (h : (l.getD 0 0).toNat < 128) : Lib.decodeL l = ((l.getD 0 0).toNat, 1) := by
  cases l with
  | nil => exact absurd rfl hne
  | cons b t => exact Lib.decodeL_ascii b t h
theorem dec_one (l : List UInt8) (h : ¬ (l.getD 0 0).toNat < 128) (hk : (Lib.decodeL l).2 = 1) : (Lib.decodeL l).1 = 65533 := by
  rw [Lib.decodeL_N] at hk ⊢
  rcases Lib.decodeN_shape l.length (l.getD 0 0).toNat (l.getD 1 0).toNat (l.getD 2 0).toNat (l.getD 3 0).toNat with ⟨c, e⟩ | ⟨c1, c2, c3, cv, e⟩ | ⟨c1, c2, c3, c4, cv, cs, e⟩ | ⟨c1, c2, c3, c4, c5, cv, cw, e⟩ | e
  · exact absurd c h
  all_goals rw [e] at hk
  all_goals simp only at hk
  all_goals first | (exfalso; omega) | (rw [e])
/-- a rune that is right: its own bytes -/
theorem tv_same (inv : Bool) (l : List UInt8) (hne : l ≠ []) (h : ¬ ((Lib.decodeL l).1 = 65533 ∧ (Lib.decodeL l).2 = 1)) : tvS inv l = l.take (Lib.decodeL l).2 ++ tvS false (l.drop (Lib.decodeL l).2) := by
  rw [tvS_step inv l hne]
  by_cases h1 : (l.getD 0 0).toNat < 128
  · rw [if_pos h1, dec_low l hne h1]
  · rw [if_neg h1]
    by_cases h2 : (Lib.decodeL l).2 = 1
    · exact absurd ⟨dec_one l h1 h2, h2⟩ h
    · rw [if_neg h2]
theorem tv_high (inv : Bool) (l : List UInt8) (hne : l ≠ []) (h1 : ¬ (l.getD 0 0).toNat < 128) (h2 : (Lib.decodeL l).2 = 1) : tvS inv l = (if inv then [] else [63]) ++ tvS true (l.drop 1) := by
  rw [tvS_step inv l hne, if_neg h1, if_pos h2]
theorem tv_low (inv : Bool) (l : List UInt8) (hne : l ≠ []) (h1 : (l.getD 0 0).toNat < 128) : tvS inv l = l.take 1 ++ tvS false (l.drop 1) := by
  rw [tvS_step inv l hne, if_pos h1]
theorem tvG_len : ∀ (n : Nat) (inv : Bool) (l : List UInt8), (tvG n inv l).length ≤ l.length
  | 0, _, _ => Nat.zero_le _
  | n + 1, inv, l => by
    by_cases hne : l = []
    · subst hne; rw [tvG_nil]; exact Nat.le_refl _
    · have hw := Lib.decodeL_width l
      have hl : 0 < l.length := List.length_pos_iff.2 hne
      have hd := Lib.decodeL_le l hne
      have i1 := tvG_len n false (l.drop 1)
      have i2 := tvG_len n true (l.drop 1)
      have i3 := tvG_len n false (l.drop (Lib.decodeL l).2)
      rw [List.length_drop] at i1 i2 i3
      simp only [tvG, if_neg hne]
      split
      · rw [List.length_append, List.length_take]; omega
      · split
        · rw [List.length_append]
          have : (if inv = true then ([] : List UInt8) else [63]).length ≤ 1 := by cases inv <;> simp
          omega
        · rw [List.length_append, List.length_take]; omega
theorem tvS_len (inv : Bool) (l : List UInt8) : (tvS inv l).length ≤ l.length := tvG_len _ _ _
end Go.Proofs.YtejepcnoflahkaaGreatDoor
end

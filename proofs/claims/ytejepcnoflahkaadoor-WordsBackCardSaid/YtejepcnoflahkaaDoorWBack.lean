/- WordsBack: texts and blobs said are told again, tokens told are told again: the walk. -/
import Derived.Test.YtejepcnoflahkaaDoorWHex
import Derived.Lib.SplitLaws
namespace Go.Proofs.YtejepcnoflahkaaDoor
open Go Go.Ab
set_option linter.unusedVariables false
set_option linter.unusedSimpArgs false
set_option maxRecDepth 100000
set_option maxHeartbeats 8000000

@[reducible] def dupB (s : List UInt8) : List UInt8 := s.flatMap fun b => if b = 39 then [39, 39] else [b]
theorem rep_ne (k : Nat) {b : UInt8} (l : List UInt8) (h : b ≠ 39) : Lib.replaceK [39] [39, 39] k (b :: l) = b :: Lib.replaceK [39] [39, 39] k l := by
  have hp : ([39] : List UInt8).isPrefixOf (b :: l) = false := by simp [List.isPrefixOf, Ne.symm h]
  have hix : Lib.index (b :: l) [39] = if Lib.index l [39] == -1 then -1 else Lib.index l [39] + 1 := by rw [Lib.index, hp]; simp
  cases k with
  | zero => rfl
  | succ k =>
    rw [Lib.replaceK, Lib.replaceK, hix]
    by_cases hm : Lib.index l [39] = -1
    · rw [if_pos (beq_iff_eq.2 hm), if_pos (by simp), if_pos (beq_iff_eq.2 hm)]
    · have hge := Lib.index_ge l [39]
      obtain ⟨j, hj⟩ : ∃ j : Nat, Lib.index l [39] = j := ⟨(Lib.index l [39]).toNat, by omega⟩
      have h1 : ¬ (((j : Nat) : Int) == -1) = true := fun e => by have := beq_iff_eq.1 e; omega
      have h2 : ¬ (((j : Nat) : Int) + 1 == -1) = true := fun e => by have := beq_iff_eq.1 e; omega
      rw [hj, if_neg h1, if_neg h2, if_neg h1, show (((j : Nat) : Int) + 1).toNat = j + 1 from by omega, Int.toNat_natCast]
      simp only [List.take_succ_cons, List.cons_append, List.length_cons, List.length_nil, List.drop_succ_cons]
theorem rep_eq (k : Nat) (l : List UInt8) : Lib.replaceK [39] [39, 39] (k + 1) (39 :: l) = 39 :: 39 :: Lib.replaceK [39] [39, 39] k l := by
  have hix : Lib.index (39 :: l) [39] = ((0 : Nat) : Int) := by rw [Lib.index]; simp [List.isPrefixOf]
  rw [Lib.replaceK_hit _ _ _ _ _ hix]
  simp
theorem rep_all : ∀ s : List UInt8, Lib.replaceK [39] [39, 39] (s.count 39) s = dupB s
  | [] => rfl
  | b :: l => by
    by_cases h : b = 39
    · subst h
      rw [List.count_cons_self, rep_eq, rep_all l]
      simp [dupB]
    · rw [List.count_cons_of_ne (by simpa using h), rep_ne _ _ h, rep_all l]
      simp [dupB, h]
theorem rep_dup (s : List UInt8) : Lib.replaceAll s [39] [39, 39] = dupB s := by
  unfold Lib.replaceAll Lib.replace Lib.replaceNum
  rw [if_neg (by decide), if_pos (.inl (by decide)), Lib.count_one]
  exact rep_all s
theorem dupB_len (s : List UInt8) : (dupB s).length ≤ 2 * s.length := by
  have := quote_len s
  unfold quoteS at this
  simp only [List.length_append, List.length_cons, List.length_nil] at this
  show (List.flatMap _ s).length ≤ _
  omega
theorem pc_quoteS (s : List UInt8) (hn : s.length ≤ 65536) : PC Tryd.prog GW 8 [.str s] (.str (quoteS s)) := by
  have h1 := Lib.countB_le ⟨#[39]⟩ (by decide) s.length ⟨s.toArray⟩ (by simp [ByteArray.size])
  have h2 : (ByteArray.mk s.toArray).size = s.length := by simp [ByteArray.size]
  have h3 := dupB_len s
  have := pc_quote s ⟨⟨by omega, by decide, by omega⟩, by rw [rep_dup]; omega⟩
  rw [rep_dup] at this
  exact this
def h_quoteS : List AV → CR
  | [.str s] => .need (s.length ≤ 65536) (.str (quoteS s))
  | _ => .no
theorem h_quoteS_ok (xs : List AV) : CRok Tryd.prog GW 8 xs (h_quoteS xs) := by
  unfold h_quoteS
  split
  · rename_i s
    exact fun hn => pc_quoteS s hn
  · trivial
noncomputable def EBK : Env := EHX.add 8 h_quoteS
theorem EBK_ok : EnvOk Tryd.prog EBK := Env.add_ok EHX_ok (by kernel_rfl) h_quoteS_ok
/-- tokens as elements of a row -/
def wF (L : List (List UInt8 × Wd)) (i : Nat) : AV := encW (L.getD i ([], noW)).2
theorem lt1 {P : Nat → Prop} (h : P 0) : ∀ q, q < 1 → P q := fun q hq => by
  have : q = 0 := by omega
  rw [this]; exact h
theorem snoc_wF (L : List (List UInt8 × Wd)) (x : List UInt8 × Wd) (j : Nat) (hj : j < L.length + 1) : joinF L.length (wF L) (elemA true 5 [.int .u8 x.2.k, .str x.2.s, .int .i64 x.2.n, .int .i64 x.2.a, .int .i64 x.2.e]) j = wF (L ++ [x]) j := by
  unfold wF
  rw [List.getD_eq_getElem?_getD]
  by_cases h : j < L.length
  · rw [joinF_lo h, List.getElem?_append_left h, List.getD_eq_getElem?_getD]
  · rw [joinF_hi (by omega), List.getElem?_append_right (by omega), show j - L.length = 0 from by omega]
    rfl
structure Inv (T : List UInt8) (a : Nat) (L : List (List UInt8 × Wd)) : Prop where
  ln : L.length ≤ a
  le : a ≤ T.length
  good : ∀ x ∈ L, Good x.1 x.2
  len : (joinB L).length ≤ a + 9 * L.length
@[reducible] def cutT (s : List UInt8) : List UInt8 := List.take (Int.toNat 2000) s
set_option smartUnfolding false in
theorem pc_back (s : List UInt8) (hs : s.length ≤ 2000) : PC Tryd.prog GW 4 [.str s] (.bool true) := by
  have k1 : decide ((s.length : Int) > 2000) = false := decide_eq_false (by omega)
  have lq : (quoteS s).length ≤ 65536 := by have := quote_len s; omega
  have lh : (hexW s).length ≤ 65536 := by have := hexW_len s; omega
  have eq1 := next_quote s lq
  have eq2 := next_hex s lh
  have f1 : (IntKind.i64.wrap ((nextS (quoteS s) 0).e + (nextS (hexW s) 0).e) != 0) = false := by rw [eq1, eq2]; rfl
  have f2 : ((nextS (quoteS s) 0).w.k != 4) = false := by rw [eq1]; rfl
  have f3 : (!((nextS (quoteS s) 0).w.s == s)) = false := by rw [eq1]; simp
  have f4 : ((nextS (hexW s) 0).w.k != 5) = false := by rw [eq2]; rfl
  have f5 : (!((nextS (hexW s) 0).w.s == s)) = false := by rw [eq2]; simp
  have f6 : ((nextS (quoteS s) 0).w.e != ((quoteS s).length : Int)) = false := by rw [eq1]; simp
  have f7 : ((nextS (hexW s) 0).w.e != ((hexW s).length : Int)) = false := by rw [eq2]; simp
  refine pc_fin EBK_ok mixed (show Tryd.prog.funcs[4]? = some Tryd.f4 from rfl) ?_
  repeat' (refine BR.mk (fun h => ?_) (fun h => ?_) <;> first | with_reducible exact Bool.noConfusion h | with_reducible exact Bool.noConfusion (k1.symm.trans h) | with_reducible exact Bool.noConfusion (f1.symm.trans h) | with_reducible exact Bool.noConfusion (f2.symm.trans h) | with_reducible exact Bool.noConfusion (f3.symm.trans h) | with_reducible exact Bool.noConfusion (f4.symm.trans h) | with_reducible exact Bool.noConfusion (f5.symm.trans h) | with_reducible exact Bool.noConfusion (f6.symm.trans h) | with_reducible exact Bool.noConfusion (f7.symm.trans h) | skip)
  · exact (show s.length ≤ 65536 by omega)
  · exact (show s.length ≤ 65536 by omega)
  · exact (show commutes _ _ = true by kernel_rfl)
  · exact (show s.length ≤ 65536 by omega)
  · exact (show s.length ≤ 65536 by omega)
  refine loop_fam EBK_ok mixed (σ := Nat × List (List UInt8 × Wd)) (fun p => Inv s p.1 p.2) (fun p => 2100 - p.2.length) (0, []) ⟨Nat.le_refl _, Nat.zero_le _, fun _ hx => absurd hx List.not_mem_nil, Nat.zero_le _⟩ 4 1 [0] (fun p => [(7, .sl (.tok 0) p.2.length (wF p.2)), (8, .str (joinB p.2)), (9, .int .i64 p.1), (10, .int .i64 p.2.length)]) [] (fun _ => []) (fun p => [(0, p.2.length, 27)]) ?_ ?_ ?_ ?_
  · rfl
  · rfl
  · refine Wk.mk' rfl rfl trivial ?_ trivial
    repeat' (refine BR.mk (fun _ => ?_) (fun _ => ?_))
    any_goals first | exact trivial | exact Wv.any _ | (refine Wv.int ?_; with_reducible rfl) | (refine Wv.str ?_; with_reducible rfl) | (refine Wv.bool ?_; with_reducible rfl) | refine Wv.int ?_ | refine Wv.str ?_ | refine Wv.bool ?_ | exact Wv.same rfl
    all_goals first | rfl | exact Wv.sl rfl (fun i hi => absurd hi (Nat.not_lt_zero _)) ⟨Nat.le_of_ble_eq_true rfl, _, rfl⟩
  · rintro ⟨a, L⟩ hI
    obtain ⟨hLa, has, hg, hj⟩ := hI
    simp only at hLa has hg hj
    have hj6 : (joinB L).length ≤ 65536 := by omega
    have k2 : decide ((L.length : Int) < 2100) = true := decide_eq_true (by omega)
    by_cases he : (nextS s a).e = 0
    · have g1 : ((nextS s a).e != 0) = false := by simpa using he
      by_cases hk : (nextS s a).w.k = 7
      · have g2 : ((nextS s a).w.k == 7) = true := by simpa using hk
        repeat' (refine BR.mk (fun h => ?_) (fun h => ?_) <;> first | with_reducible exact Bool.noConfusion h | with_reducible exact Bool.noConfusion (k2.symm.trans h) | with_reducible exact Bool.noConfusion (g1.symm.trans h) | with_reducible exact Bool.noConfusion (g2.symm.trans h) | skip)
        refine loop_fam EBK_ok mixed (σ := Nat) (fun i => i ≤ L.length) (fun i => L.length - i) 0 (Nat.zero_le _) 6 1 [7, 8, 130, 131] (fun i => [(9, .int .i64 (endB L i : Nat)), (132, .int .i64 i)]) [] (fun _ => []) (fun _ => [(0, L.length, 27)]) ?_ ?_ ?_ ?_
        · rfl
        · rfl
        · refine Wk.mk' rfl rfl ⟨fun _ => rfl, fun _ => trivial⟩ ?_ trivial
          repeat' (refine BR.mk (fun _ => ?_) (fun _ => ?_))
          any_goals first | exact trivial | exact Wv.any _ | (refine Wv.int ?_; with_reducible rfl) | (refine Wv.str ?_; with_reducible rfl) | (refine Wv.bool ?_; with_reducible rfl) | refine Wv.int ?_ | refine Wv.str ?_ | refine Wv.bool ?_ | exact Wv.same rfl
          all_goals rfl
        · intro i hi
          by_cases hil : i < L.length
          · have k3 : decide ((i : Int) < (L.length : Int)) = true := decide_eq_true (by omega)
            obtain ⟨x, hx⟩ := again hg hj6 hil
            have eL : (L.getD ((i : Int)).toNat ([], noW)).2 = L[i].2 := by rw [Int.toNat_natCast, List.getD_eq_getElem?_getD, List.getElem?_eq_getElem hil]; rfl
            have r1 : ((nextS (joinB L) (endB L i : Nat)).e != 0) = false := by rw [hx]; rfl
            have r2 : ((nextS (joinB L) (endB L i : Nat)).w.k != (L.getD ((i : Int)).toNat ([], noW)).2.k) = false := by rw [hx, eL]; simp
            have r3 : (!((nextS (joinB L) (endB L i : Nat)).w.s == (L.getD ((i : Int)).toNat ([], noW)).2.s)) = false := by rw [hx, eL]; simp
            have r4 : ((nextS (joinB L) (endB L i : Nat)).w.n != (L.getD ((i : Int)).toNat ([], noW)).2.n) = false := by rw [hx, eL]; simp
            repeat' (refine BR.mk (fun h => ?_) (fun h => ?_) <;> first | with_reducible exact Bool.noConfusion h | with_reducible exact Bool.noConfusion (k3.symm.trans h) | with_reducible exact Bool.noConfusion (r1.symm.trans h) | with_reducible exact Bool.noConfusion (r2.symm.trans h) | with_reducible exact Bool.noConfusion (r3.symm.trans h) | with_reducible exact Bool.noConfusion (r4.symm.trans h) | skip)
            · exact (show commutes _ _ = true by kernel_rfl)
            · exact ⟨⟨by omega, by show (i : Int) < (L.length : Int); omega⟩, rfl, rfl⟩
            · exact ⟨⟨by omega, by show (i : Int) < (L.length : Int); omega⟩, rfl, rfl⟩
            · exact ⟨⟨by omega, by show (i : Int) < (L.length : Int); omega⟩, rfl, rfl⟩
            · refine Again.fam (i + 1) hil (by show L.length - (i + 1) < L.length - i; omega) rfl rfl rfl rfl ⟨fun _ => rfl, fun _ => trivial⟩ ?_ trivial
              repeat' (refine BR.mk (fun _ => ?_) (fun _ => ?_))
              any_goals first | exact trivial | exact Wv.any _ | (refine Wv.int ?_; with_reducible rfl) | (refine Wv.str ?_; with_reducible rfl) | (refine Wv.bool ?_; with_reducible rfl) | refine Wv.int ?_ | refine Wv.str ?_ | refine Wv.bool ?_ | exact Wv.same rfl
              · show (nextS (joinB L) (endB L i : Nat)).w.e = ((endB L (i + 1) : Nat) : Int)
                rw [hx]
              · rw [wrap_id (by unfold i64; omega)]; rfl
          · have k3 : decide ((i : Int) < (L.length : Int)) = false := decide_eq_false (by omega)
            obtain rfl : i = L.length := by omega
            obtain ⟨x, hx⟩ := again_end (L := L) hj6
            have r1 : ((nextS (joinB L) (endB L L.length : Nat)).e == 0) = true := by rw [hx]; rfl
            have r2 : ((nextS (joinB L) (endB L L.length : Nat)).w.k == 7) = true := by rw [hx]; rfl
            repeat' (refine BR.mk (fun h => ?_) (fun h => ?_) <;> first | with_reducible exact Bool.noConfusion h | with_reducible exact Bool.noConfusion (k3.symm.trans h) | with_reducible exact Bool.noConfusion (r1.symm.trans h) | with_reducible exact Bool.noConfusion (r2.symm.trans h) | skip)
            exact Fini.mk rfl
      · have g2 : ((nextS s a).w.k == 7) = false := by simpa using hk
        obtain ⟨i, j, ei, ej, hai, hij, hjs, hG, _⟩ := next_good hs has he hk
        have g3 : decide ((nextS s a).w.a < (a : Int)) = false := decide_eq_false (by rw [ei]; omega)
        have g4 : decide ((nextS s a).w.e ≤ (nextS s a).w.a) = false := decide_eq_false (by rw [ei, ej]; omega)
        have g5 : decide ((nextS s a).w.e > (s.length : Int)) = false := decide_eq_false (by rw [ej]; omega)
        have hP : List.take ((nextS s a).w.e.toNat - (nextS s a).w.a.toNat) (List.drop (nextS s a).w.a.toNat s) = (s.take j).drop i := by rw [ei, ej, Int.toNat_natCast, Int.toNat_natCast]; exact List.drop_take.symm
        have lP : ((s.take j).drop i).length = j - i := by rw [List.length_drop, List.length_take]; omega
        have eJ : joinB L ++ (List.take ((nextS s a).w.e.toNat - (nextS s a).w.a.toNat) (List.drop (nextS s a).w.a.toNat s) ++ sepS) = joinB (L ++ [((s.take j).drop i, (nextS s a).w)]) := by rw [hP, joinB_app, joinB_one]
        have lJ : (joinB (L ++ [((s.take j).drop i, (nextS s a).w)])).length = (joinB L).length + ((j - i) + 9) := by
          rw [joinB_app, joinB_one, List.length_append, List.length_append, lP]; rfl
        have lL : (L ++ [((s.take j).drop i, (nextS s a).w)]).length = L.length + 1 := by rw [List.length_append]; rfl
        repeat' (refine BR.mk (fun h => ?_) (fun h => ?_) <;> first | with_reducible exact Bool.noConfusion h | with_reducible exact Bool.noConfusion (k2.symm.trans h) | with_reducible exact Bool.noConfusion (g1.symm.trans h) | with_reducible exact Bool.noConfusion (g2.symm.trans h) | with_reducible exact Bool.noConfusion (g3.symm.trans h) | with_reducible exact Bool.noConfusion (g4.symm.trans h) | with_reducible exact Bool.noConfusion (g5.symm.trans h) | skip)
        · exact ⟨rfl, Nat.le_of_ble_eq_true rfl, rfl, by show (L.length + 1) * 48 ≤ _; omega, by show L.length + 1 ≤ _; omega, fun _ _ => rfl, lt1 rfl, lt1 rfl⟩
        · show (0 ≤ (nextS s a).w.e ∧ (nextS s a).w.e ≤ (s.length : Int)) ∧ 0 ≤ (nextS s a).w.a ∧ (nextS s a).w.a ≤ (nextS s a).w.e
          rw [ei, ej]; omega
        · show (List.take ((nextS s a).w.e.toNat - (nextS s a).w.a.toNat) (List.drop (nextS s a).w.a.toNat s)).length + 9 ≤ _
          rw [hP, lP]; omega
        · show (joinB L).length + (List.take ((nextS s a).w.e.toNat - (nextS s a).w.a.toNat) (List.drop (nextS s a).w.a.toNat s) ++ sepS).length ≤ _
          rw [hP, List.length_append, lP]
          show _ + (_ + 9) ≤ _
          omega
        · refine Again.fam (j, L ++ [((s.take j).drop i, (nextS s a).w)]) ⟨by show (L ++ _).length ≤ j; rw [lL]; omega, hjs, fun x hx => ?_, by show (joinB (L ++ _)).length ≤ j + 9 * (L ++ _).length; rw [lJ, lL]; omega⟩ (by show 2100 - (L ++ _).length < 2100 - L.length; rw [lL]; omega) rfl rfl rfl rfl ⟨fun _ => ?_, fun _ => trivial⟩ ?_ trivial
          · rcases List.mem_append.1 hx with h | h
            · exact hg x h
            · rw [List.mem_singleton.1 h]; exact hG
          · show some ((L ++ [((s.take j).drop i, (nextS s a).w)]).length, 27) = some (L.length + 1, 27)
            rw [lL]
          · repeat' (refine BR.mk (fun _ => ?_) (fun _ => ?_))
            any_goals first | exact trivial | exact Wv.any _ | (refine Wv.int ?_; with_reducible rfl) | (refine Wv.str ?_; with_reducible rfl) | (refine Wv.bool ?_; with_reducible rfl) | refine Wv.int ?_ | refine Wv.str ?_ | refine Wv.bool ?_ | exact Wv.same rfl
            · refine Wv.sl lL.symm (fun q hq => ?_) ⟨rfl, Nat.le_of_ble_eq_true rfl⟩
              exact snoc_wF L ((s.take j).drop i, (nextS s a).w) q (by rw [lL] at hq; exact hq)
            · exact eJ
            · exact ej
            · show IntKind.i64.wrap ((L.length : Int) + 1) = (((L ++ [((s.take j).drop i, (nextS s a).w)]).length : Nat) : Int)
              rw [lL, wrap_id (by unfold i64; omega)]; rfl
    · have g1 : ((nextS s a).e != 0) = true := by simpa using he
      repeat' (refine BR.mk (fun h => ?_) (fun h => ?_) <;> first | with_reducible exact Bool.noConfusion h | with_reducible exact Bool.noConfusion (k2.symm.trans h) | with_reducible exact Bool.noConfusion (g1.symm.trans h) | skip)
      refine loop_fam EBK_ok mixed (σ := Nat) (fun i => i ≤ L.length) (fun i => L.length - i) 0 (Nat.zero_le _) 6 1 [7, 8, 130, 131] (fun i => [(9, .int .i64 (endB L i : Nat)), (132, .int .i64 i)]) [] (fun _ => []) (fun _ => [(0, L.length, 27)]) ?_ ?_ ?_ ?_
      · rfl
      · rfl
      · refine Wk.mk' rfl rfl ⟨fun _ => rfl, fun _ => trivial⟩ ?_ trivial
        repeat' (refine BR.mk (fun _ => ?_) (fun _ => ?_))
        any_goals first | exact trivial | exact Wv.any _ | (refine Wv.int ?_; with_reducible rfl) | (refine Wv.str ?_; with_reducible rfl) | (refine Wv.bool ?_; with_reducible rfl) | refine Wv.int ?_ | refine Wv.str ?_ | refine Wv.bool ?_ | exact Wv.same rfl
        all_goals rfl
      · intro i hi
        by_cases hil : i < L.length
        · have k3 : decide ((i : Int) < (L.length : Int)) = true := decide_eq_true (by omega)
          obtain ⟨x, hx⟩ := again hg hj6 hil
          have eL : (L.getD ((i : Int)).toNat ([], noW)).2 = L[i].2 := by rw [Int.toNat_natCast, List.getD_eq_getElem?_getD, List.getElem?_eq_getElem hil]; rfl
          have r1 : ((nextS (joinB L) (endB L i : Nat)).e != 0) = false := by rw [hx]; rfl
          have r2 : ((nextS (joinB L) (endB L i : Nat)).w.k != (L.getD ((i : Int)).toNat ([], noW)).2.k) = false := by rw [hx, eL]; simp
          have r3 : (!((nextS (joinB L) (endB L i : Nat)).w.s == (L.getD ((i : Int)).toNat ([], noW)).2.s)) = false := by rw [hx, eL]; simp
          have r4 : ((nextS (joinB L) (endB L i : Nat)).w.n != (L.getD ((i : Int)).toNat ([], noW)).2.n) = false := by rw [hx, eL]; simp
          repeat' (refine BR.mk (fun h => ?_) (fun h => ?_) <;> first | with_reducible exact Bool.noConfusion h | with_reducible exact Bool.noConfusion (k3.symm.trans h) | with_reducible exact Bool.noConfusion (r1.symm.trans h) | with_reducible exact Bool.noConfusion (r2.symm.trans h) | with_reducible exact Bool.noConfusion (r3.symm.trans h) | with_reducible exact Bool.noConfusion (r4.symm.trans h) | skip)
          · exact (show commutes _ _ = true by kernel_rfl)
          · exact ⟨⟨by omega, by show (i : Int) < (L.length : Int); omega⟩, rfl, rfl⟩
          · exact ⟨⟨by omega, by show (i : Int) < (L.length : Int); omega⟩, rfl, rfl⟩
          · exact ⟨⟨by omega, by show (i : Int) < (L.length : Int); omega⟩, rfl, rfl⟩
          · refine Again.fam (i + 1) hil (by show L.length - (i + 1) < L.length - i; omega) rfl rfl rfl rfl ⟨fun _ => rfl, fun _ => trivial⟩ ?_ trivial
            repeat' (refine BR.mk (fun _ => ?_) (fun _ => ?_))
            any_goals first | exact trivial | exact Wv.any _ | (refine Wv.int ?_; with_reducible rfl) | (refine Wv.str ?_; with_reducible rfl) | (refine Wv.bool ?_; with_reducible rfl) | refine Wv.int ?_ | refine Wv.str ?_ | refine Wv.bool ?_ | exact Wv.same rfl
            · show (nextS (joinB L) (endB L i : Nat)).w.e = ((endB L (i + 1) : Nat) : Int)
              rw [hx]
            · rw [wrap_id (by unfold i64; omega)]; rfl
        · have k3 : decide ((i : Int) < (L.length : Int)) = false := decide_eq_false (by omega)
          obtain rfl : i = L.length := by omega
          obtain ⟨x, hx⟩ := again_end (L := L) hj6
          have r1 : ((nextS (joinB L) (endB L L.length : Nat)).e == 0) = true := by rw [hx]; rfl
          have r2 : ((nextS (joinB L) (endB L L.length : Nat)).w.k == 7) = true := by rw [hx]; rfl
          repeat' (refine BR.mk (fun h => ?_) (fun h => ?_) <;> first | with_reducible exact Bool.noConfusion h | with_reducible exact Bool.noConfusion (k3.symm.trans h) | with_reducible exact Bool.noConfusion (r1.symm.trans h) | with_reducible exact Bool.noConfusion (r2.symm.trans h) | skip)
          exact Fini.mk rfl
set_option smartUnfolding false in
theorem pc_backL (s : List UInt8) (hs0 : s.length > 2000) : PC Tryd.prog GW 4 [.str s] (.bool true) := by
  have k1 : decide ((s.length : Int) > 2000) = true := decide_eq_true (by omega)
  have hs : (cutT s).length ≤ 2000 := by
    show (List.take 2000 s).length ≤ 2000
    rw [List.length_take]; omega
  have lq : (quoteS (cutT s)).length ≤ 65536 := by have := quote_len (cutT s); omega
  have lh : (hexW (cutT s)).length ≤ 65536 := by have := hexW_len (cutT s); omega
  have eq1 := next_quote (cutT s) lq
  have eq2 := next_hex (cutT s) lh
  have f1 : (IntKind.i64.wrap ((nextS (quoteS (cutT s)) 0).e + (nextS (hexW (cutT s)) 0).e) != 0) = false := by rw [eq1, eq2]; rfl
  have f2 : ((nextS (quoteS (cutT s)) 0).w.k != 4) = false := by rw [eq1]; rfl
  have f3 : (!((nextS (quoteS (cutT s)) 0).w.s == (cutT s))) = false := by rw [eq1]; simp
  have f4 : ((nextS (hexW (cutT s)) 0).w.k != 5) = false := by rw [eq2]; rfl
  have f5 : (!((nextS (hexW (cutT s)) 0).w.s == (cutT s))) = false := by rw [eq2]; simp
  have f6 : ((nextS (quoteS (cutT s)) 0).w.e != ((quoteS (cutT s)).length : Int)) = false := by rw [eq1]; simp
  have f7 : ((nextS (hexW (cutT s)) 0).w.e != ((hexW (cutT s)).length : Int)) = false := by rw [eq2]; simp
  refine pc_fin EBK_ok mixed (show Tryd.prog.funcs[4]? = some Tryd.f4 from rfl) ?_
  repeat' (refine BR.mk (fun h => ?_) (fun h => ?_) <;> first | with_reducible exact Bool.noConfusion h | with_reducible exact Bool.noConfusion (k1.symm.trans h) | with_reducible exact Bool.noConfusion (f1.symm.trans h) | with_reducible exact Bool.noConfusion (f2.symm.trans h) | with_reducible exact Bool.noConfusion (f3.symm.trans h) | with_reducible exact Bool.noConfusion (f4.symm.trans h) | with_reducible exact Bool.noConfusion (f5.symm.trans h) | with_reducible exact Bool.noConfusion (f6.symm.trans h) | with_reducible exact Bool.noConfusion (f7.symm.trans h) | skip)
  · exact (show (0 : Int) ≤ 2000 ∧ (2000 : Int) ≤ (s.length : Int) from ⟨by omega, by omega⟩)
  · exact (show (cutT s).length ≤ 65536 by omega)
  · exact (show (cutT s).length ≤ 65536 by omega)
  · exact (show commutes _ _ = true by kernel_rfl)
  · exact (show (cutT s).length ≤ 65536 by omega)
  · exact (show (cutT s).length ≤ 65536 by omega)
  refine loop_fam EBK_ok mixed (σ := Nat × List (List UInt8 × Wd)) (fun p => Inv (cutT s) p.1 p.2) (fun p => 2100 - p.2.length) (0, []) ⟨Nat.le_refl _, Nat.zero_le _, fun _ hx => absurd hx List.not_mem_nil, Nat.zero_le _⟩ 4 1 [0] (fun p => [(7, .sl (.tok 0) p.2.length (wF p.2)), (8, .str (joinB p.2)), (9, .int .i64 p.1), (10, .int .i64 p.2.length)]) [] (fun _ => []) (fun p => [(0, p.2.length, 27)]) ?_ ?_ ?_ ?_
  · rfl
  · rfl
  · refine Wk.mk' rfl rfl trivial ?_ trivial
    repeat' (refine BR.mk (fun _ => ?_) (fun _ => ?_))
    any_goals first | exact trivial | exact Wv.any _ | (refine Wv.int ?_; with_reducible rfl) | (refine Wv.str ?_; with_reducible rfl) | (refine Wv.bool ?_; with_reducible rfl) | refine Wv.int ?_ | refine Wv.str ?_ | refine Wv.bool ?_ | exact Wv.same rfl
    all_goals first | rfl | exact Wv.sl rfl (fun i hi => absurd hi (Nat.not_lt_zero _)) ⟨Nat.le_of_ble_eq_true rfl, _, rfl⟩
  · rintro ⟨a, L⟩ hI
    obtain ⟨hLa, has, hg, hj⟩ := hI
    simp only at hLa has hg hj
    have hj6 : (joinB L).length ≤ 65536 := by omega
    have k2 : decide ((L.length : Int) < 2100) = true := decide_eq_true (by omega)
    by_cases he : (nextS (cutT s) a).e = 0
    · have g1 : ((nextS (cutT s) a).e != 0) = false := by simpa using he
      by_cases hk : (nextS (cutT s) a).w.k = 7
      · have g2 : ((nextS (cutT s) a).w.k == 7) = true := by simpa using hk
        repeat' (refine BR.mk (fun h => ?_) (fun h => ?_) <;> first | with_reducible exact Bool.noConfusion h | with_reducible exact Bool.noConfusion (k2.symm.trans h) | with_reducible exact Bool.noConfusion (g1.symm.trans h) | with_reducible exact Bool.noConfusion (g2.symm.trans h) | skip)
        refine loop_fam EBK_ok mixed (σ := Nat) (fun i => i ≤ L.length) (fun i => L.length - i) 0 (Nat.zero_le _) 6 1 [7, 8, 130, 131] (fun i => [(9, .int .i64 (endB L i : Nat)), (132, .int .i64 i)]) [] (fun _ => []) (fun _ => [(0, L.length, 27)]) ?_ ?_ ?_ ?_
        · rfl
        · rfl
        · refine Wk.mk' rfl rfl ⟨fun _ => rfl, fun _ => trivial⟩ ?_ trivial
          repeat' (refine BR.mk (fun _ => ?_) (fun _ => ?_))
          any_goals first | exact trivial | exact Wv.any _ | (refine Wv.int ?_; with_reducible rfl) | (refine Wv.str ?_; with_reducible rfl) | (refine Wv.bool ?_; with_reducible rfl) | refine Wv.int ?_ | refine Wv.str ?_ | refine Wv.bool ?_ | exact Wv.same rfl
          all_goals rfl
        · intro i hi
          by_cases hil : i < L.length
          · have k3 : decide ((i : Int) < (L.length : Int)) = true := decide_eq_true (by omega)
            obtain ⟨x, hx⟩ := again hg hj6 hil
            have eL : (L.getD ((i : Int)).toNat ([], noW)).2 = L[i].2 := by rw [Int.toNat_natCast, List.getD_eq_getElem?_getD, List.getElem?_eq_getElem hil]; rfl
            have r1 : ((nextS (joinB L) (endB L i : Nat)).e != 0) = false := by rw [hx]; rfl
            have r2 : ((nextS (joinB L) (endB L i : Nat)).w.k != (L.getD ((i : Int)).toNat ([], noW)).2.k) = false := by rw [hx, eL]; simp
            have r3 : (!((nextS (joinB L) (endB L i : Nat)).w.s == (L.getD ((i : Int)).toNat ([], noW)).2.s)) = false := by rw [hx, eL]; simp
            have r4 : ((nextS (joinB L) (endB L i : Nat)).w.n != (L.getD ((i : Int)).toNat ([], noW)).2.n) = false := by rw [hx, eL]; simp
            repeat' (refine BR.mk (fun h => ?_) (fun h => ?_) <;> first | with_reducible exact Bool.noConfusion h | with_reducible exact Bool.noConfusion (k3.symm.trans h) | with_reducible exact Bool.noConfusion (r1.symm.trans h) | with_reducible exact Bool.noConfusion (r2.symm.trans h) | with_reducible exact Bool.noConfusion (r3.symm.trans h) | with_reducible exact Bool.noConfusion (r4.symm.trans h) | skip)
            · exact (show commutes _ _ = true by kernel_rfl)
            · exact ⟨⟨by omega, by show (i : Int) < (L.length : Int); omega⟩, rfl, rfl⟩
            · exact ⟨⟨by omega, by show (i : Int) < (L.length : Int); omega⟩, rfl, rfl⟩
            · exact ⟨⟨by omega, by show (i : Int) < (L.length : Int); omega⟩, rfl, rfl⟩
            · refine Again.fam (i + 1) hil (by show L.length - (i + 1) < L.length - i; omega) rfl rfl rfl rfl ⟨fun _ => rfl, fun _ => trivial⟩ ?_ trivial
              repeat' (refine BR.mk (fun _ => ?_) (fun _ => ?_))
              any_goals first | exact trivial | exact Wv.any _ | (refine Wv.int ?_; with_reducible rfl) | (refine Wv.str ?_; with_reducible rfl) | (refine Wv.bool ?_; with_reducible rfl) | refine Wv.int ?_ | refine Wv.str ?_ | refine Wv.bool ?_ | exact Wv.same rfl
              · show (nextS (joinB L) (endB L i : Nat)).w.e = ((endB L (i + 1) : Nat) : Int)
                rw [hx]
              · rw [wrap_id (by unfold i64; omega)]; rfl
          · have k3 : decide ((i : Int) < (L.length : Int)) = false := decide_eq_false (by omega)
            obtain rfl : i = L.length := by omega
            obtain ⟨x, hx⟩ := again_end (L := L) hj6
            have r1 : ((nextS (joinB L) (endB L L.length : Nat)).e == 0) = true := by rw [hx]; rfl
            have r2 : ((nextS (joinB L) (endB L L.length : Nat)).w.k == 7) = true := by rw [hx]; rfl
            repeat' (refine BR.mk (fun h => ?_) (fun h => ?_) <;> first | with_reducible exact Bool.noConfusion h | with_reducible exact Bool.noConfusion (k3.symm.trans h) | with_reducible exact Bool.noConfusion (r1.symm.trans h) | with_reducible exact Bool.noConfusion (r2.symm.trans h) | skip)
            exact Fini.mk rfl
      · have g2 : ((nextS (cutT s) a).w.k == 7) = false := by simpa using hk
        obtain ⟨i, j, ei, ej, hai, hij, hjs, hG, _⟩ := next_good hs has he hk
        have g3 : decide ((nextS (cutT s) a).w.a < (a : Int)) = false := decide_eq_false (by rw [ei]; omega)
        have g4 : decide ((nextS (cutT s) a).w.e ≤ (nextS (cutT s) a).w.a) = false := decide_eq_false (by rw [ei, ej]; omega)
        have g5 : decide ((nextS (cutT s) a).w.e > ((cutT s).length : Int)) = false := decide_eq_false (by rw [ej]; omega)
        have hP : List.take ((nextS (cutT s) a).w.e.toNat - (nextS (cutT s) a).w.a.toNat) (List.drop (nextS (cutT s) a).w.a.toNat (cutT s)) = ((cutT s).take j).drop i := by rw [ei, ej, Int.toNat_natCast, Int.toNat_natCast]; exact List.drop_take.symm
        have lP : (((cutT s).take j).drop i).length = j - i := by rw [List.length_drop, List.length_take]; omega
        have eJ : joinB L ++ (List.take ((nextS (cutT s) a).w.e.toNat - (nextS (cutT s) a).w.a.toNat) (List.drop (nextS (cutT s) a).w.a.toNat (cutT s)) ++ sepS) = joinB (L ++ [(((cutT s).take j).drop i, (nextS (cutT s) a).w)]) := by rw [hP, joinB_app, joinB_one]
        have lJ : (joinB (L ++ [(((cutT s).take j).drop i, (nextS (cutT s) a).w)])).length = (joinB L).length + ((j - i) + 9) := by
          rw [joinB_app, joinB_one, List.length_append, List.length_append, lP]; rfl
        have lL : (L ++ [(((cutT s).take j).drop i, (nextS (cutT s) a).w)]).length = L.length + 1 := by rw [List.length_append]; rfl
        repeat' (refine BR.mk (fun h => ?_) (fun h => ?_) <;> first | with_reducible exact Bool.noConfusion h | with_reducible exact Bool.noConfusion (k2.symm.trans h) | with_reducible exact Bool.noConfusion (g1.symm.trans h) | with_reducible exact Bool.noConfusion (g2.symm.trans h) | with_reducible exact Bool.noConfusion (g3.symm.trans h) | with_reducible exact Bool.noConfusion (g4.symm.trans h) | with_reducible exact Bool.noConfusion (g5.symm.trans h) | skip)
        · exact ⟨rfl, Nat.le_of_ble_eq_true rfl, rfl, by show (L.length + 1) * 48 ≤ _; omega, by show L.length + 1 ≤ _; omega, fun _ _ => rfl, lt1 rfl, lt1 rfl⟩
        · show (0 ≤ (nextS (cutT s) a).w.e ∧ (nextS (cutT s) a).w.e ≤ ((cutT s).length : Int)) ∧ 0 ≤ (nextS (cutT s) a).w.a ∧ (nextS (cutT s) a).w.a ≤ (nextS (cutT s) a).w.e
          rw [ei, ej]; omega
        · show (List.take ((nextS (cutT s) a).w.e.toNat - (nextS (cutT s) a).w.a.toNat) (List.drop (nextS (cutT s) a).w.a.toNat (cutT s))).length + 9 ≤ _
          rw [hP, lP]; omega
        · show (joinB L).length + (List.take ((nextS (cutT s) a).w.e.toNat - (nextS (cutT s) a).w.a.toNat) (List.drop (nextS (cutT s) a).w.a.toNat (cutT s)) ++ sepS).length ≤ _
          rw [hP, List.length_append, lP]
          show _ + (_ + 9) ≤ _
          omega
        · refine Again.fam (j, L ++ [(((cutT s).take j).drop i, (nextS (cutT s) a).w)]) ⟨by show (L ++ _).length ≤ j; rw [lL]; omega, hjs, fun x hx => ?_, by show (joinB (L ++ _)).length ≤ j + 9 * (L ++ _).length; rw [lJ, lL]; omega⟩ (by show 2100 - (L ++ _).length < 2100 - L.length; rw [lL]; omega) rfl rfl rfl rfl ⟨fun _ => ?_, fun _ => trivial⟩ ?_ trivial
          · rcases List.mem_append.1 hx with h | h
            · exact hg x h
            · rw [List.mem_singleton.1 h]; exact hG
          · show some ((L ++ [(((cutT s).take j).drop i, (nextS (cutT s) a).w)]).length, 27) = some (L.length + 1, 27)
            rw [lL]
          · repeat' (refine BR.mk (fun _ => ?_) (fun _ => ?_))
            any_goals first | exact trivial | exact Wv.any _ | (refine Wv.int ?_; with_reducible rfl) | (refine Wv.str ?_; with_reducible rfl) | (refine Wv.bool ?_; with_reducible rfl) | refine Wv.int ?_ | refine Wv.str ?_ | refine Wv.bool ?_ | exact Wv.same rfl
            · refine Wv.sl lL.symm (fun q hq => ?_) ⟨rfl, Nat.le_of_ble_eq_true rfl⟩
              exact snoc_wF L (((cutT s).take j).drop i, (nextS (cutT s) a).w) q (by rw [lL] at hq; exact hq)
            · exact eJ
            · exact ej
            · show IntKind.i64.wrap ((L.length : Int) + 1) = (((L ++ [(((cutT s).take j).drop i, (nextS (cutT s) a).w)]).length : Nat) : Int)
              rw [lL, wrap_id (by unfold i64; omega)]; rfl
    · have g1 : ((nextS (cutT s) a).e != 0) = true := by simpa using he
      repeat' (refine BR.mk (fun h => ?_) (fun h => ?_) <;> first | with_reducible exact Bool.noConfusion h | with_reducible exact Bool.noConfusion (k2.symm.trans h) | with_reducible exact Bool.noConfusion (g1.symm.trans h) | skip)
      refine loop_fam EBK_ok mixed (σ := Nat) (fun i => i ≤ L.length) (fun i => L.length - i) 0 (Nat.zero_le _) 6 1 [7, 8, 130, 131] (fun i => [(9, .int .i64 (endB L i : Nat)), (132, .int .i64 i)]) [] (fun _ => []) (fun _ => [(0, L.length, 27)]) ?_ ?_ ?_ ?_
      · rfl
      · rfl
      · refine Wk.mk' rfl rfl ⟨fun _ => rfl, fun _ => trivial⟩ ?_ trivial
        repeat' (refine BR.mk (fun _ => ?_) (fun _ => ?_))
        any_goals first | exact trivial | exact Wv.any _ | (refine Wv.int ?_; with_reducible rfl) | (refine Wv.str ?_; with_reducible rfl) | (refine Wv.bool ?_; with_reducible rfl) | refine Wv.int ?_ | refine Wv.str ?_ | refine Wv.bool ?_ | exact Wv.same rfl
        all_goals rfl
      · intro i hi
        by_cases hil : i < L.length
        · have k3 : decide ((i : Int) < (L.length : Int)) = true := decide_eq_true (by omega)
          obtain ⟨x, hx⟩ := again hg hj6 hil
          have eL : (L.getD ((i : Int)).toNat ([], noW)).2 = L[i].2 := by rw [Int.toNat_natCast, List.getD_eq_getElem?_getD, List.getElem?_eq_getElem hil]; rfl
          have r1 : ((nextS (joinB L) (endB L i : Nat)).e != 0) = false := by rw [hx]; rfl
          have r2 : ((nextS (joinB L) (endB L i : Nat)).w.k != (L.getD ((i : Int)).toNat ([], noW)).2.k) = false := by rw [hx, eL]; simp
          have r3 : (!((nextS (joinB L) (endB L i : Nat)).w.s == (L.getD ((i : Int)).toNat ([], noW)).2.s)) = false := by rw [hx, eL]; simp
          have r4 : ((nextS (joinB L) (endB L i : Nat)).w.n != (L.getD ((i : Int)).toNat ([], noW)).2.n) = false := by rw [hx, eL]; simp
          repeat' (refine BR.mk (fun h => ?_) (fun h => ?_) <;> first | with_reducible exact Bool.noConfusion h | with_reducible exact Bool.noConfusion (k3.symm.trans h) | with_reducible exact Bool.noConfusion (r1.symm.trans h) | with_reducible exact Bool.noConfusion (r2.symm.trans h) | with_reducible exact Bool.noConfusion (r3.symm.trans h) | with_reducible exact Bool.noConfusion (r4.symm.trans h) | skip)
          · exact (show commutes _ _ = true by kernel_rfl)
          · exact ⟨⟨by omega, by show (i : Int) < (L.length : Int); omega⟩, rfl, rfl⟩
          · exact ⟨⟨by omega, by show (i : Int) < (L.length : Int); omega⟩, rfl, rfl⟩
          · exact ⟨⟨by omega, by show (i : Int) < (L.length : Int); omega⟩, rfl, rfl⟩
          · refine Again.fam (i + 1) hil (by show L.length - (i + 1) < L.length - i; omega) rfl rfl rfl rfl ⟨fun _ => rfl, fun _ => trivial⟩ ?_ trivial
            repeat' (refine BR.mk (fun _ => ?_) (fun _ => ?_))
            any_goals first | exact trivial | exact Wv.any _ | (refine Wv.int ?_; with_reducible rfl) | (refine Wv.str ?_; with_reducible rfl) | (refine Wv.bool ?_; with_reducible rfl) | refine Wv.int ?_ | refine Wv.str ?_ | refine Wv.bool ?_ | exact Wv.same rfl
            · show (nextS (joinB L) (endB L i : Nat)).w.e = ((endB L (i + 1) : Nat) : Int)
              rw [hx]
            · rw [wrap_id (by unfold i64; omega)]; rfl
        · have k3 : decide ((i : Int) < (L.length : Int)) = false := decide_eq_false (by omega)
          obtain rfl : i = L.length := by omega
          obtain ⟨x, hx⟩ := again_end (L := L) hj6
          have r1 : ((nextS (joinB L) (endB L L.length : Nat)).e == 0) = true := by rw [hx]; rfl
          have r2 : ((nextS (joinB L) (endB L L.length : Nat)).w.k == 7) = true := by rw [hx]; rfl
          repeat' (refine BR.mk (fun h => ?_) (fun h => ?_) <;> first | with_reducible exact Bool.noConfusion h | with_reducible exact Bool.noConfusion (k3.symm.trans h) | with_reducible exact Bool.noConfusion (r1.symm.trans h) | with_reducible exact Bool.noConfusion (r2.symm.trans h) | skip)
          exact Fini.mk rfl
theorem pc_WordsBack (s : List UInt8) (_ : s.length ≤ 9223372036854775807) : PC Tryd.prog GW 4 [.str s] (.bool true) := by
  by_cases h : s.length > 2000
  · exact pc_backL s h
  · exact pc_back s (by omega)

end Go.Proofs.YtejepcnoflahkaaDoor

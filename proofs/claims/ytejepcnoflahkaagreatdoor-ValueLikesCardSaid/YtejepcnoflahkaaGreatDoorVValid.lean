/- strings.ToValidUTF8(s, "?"), walked with the library's tactics (after the library's own proof of strings.Map). -/
import Derived.Test.YtejepcnoflahkaaGreatDoorLMc
import Derived.Test.YtejepcnoflahkaaGreatDoorLMc
import Derived.Shelf.Strings.MapAny
import Derived.Shelf.Strings.Builder2Cap
import Derived.Shelf.Strings.BuilderCap
namespace Go.Proofs.YtejepcnoflahkaaGreatDoor
open Go Go.Ab Go.RowKit Go.Shelf Go.Proofs
set_option linter.unusedVariables false
set_option maxRecDepth 1000000
set_option maxHeartbeats 4000000
theorem bat_below {T e : TypeId} {B b : Nat} {p : Value} {bs : List Value} {W W' : World} (h : Lib.BuilderAtF T e B b p bs W) (hb : Below W.heap.size W W') : Lib.BuilderAtF T e B b p bs W' := by
  have hlt := h.lt
  obtain ⟨hB, v, hv, hown, hne⟩ := h
  exact ⟨hB, v, (hb.block b hlt).trans hv, hown.kept (row := none) ⟨hb.os, hb.tape, hb.output, hb.size, fun k hk _ => hb.block k hk⟩ (Classical.em _), hne⟩
theorem bf_below {T e : TypeId} {B b : Nat} {bs : List Value} {W W' : World} (h : Lib.IsBuilderF T e B b bs W) (hb : Below W.heap.size W W') : Lib.IsBuilderF T e B b bs W' :=
  h.elim (fun x => .inl (bat_below x hb)) (fun x => .inr (bat_below x hb))
theorem head_at (s : ByteArray) (p : Nat) (h : p < s.size) : (s.data.toList.drop p).getD 0 0 = s[p] := by
  rw [List.getD_eq_getElem?_getD, List.getElem?_drop, Nat.add_zero]
  have e : s.data.toList[p]? = some s[p] := by
    rw [Array.getElem?_toList]
    exact Array.getElem?_eq_getElem h
  rw [e]; rfl
theorem valid_walk (s : ByteArray) (w : World) (hs : s.size < 35184372088832) (hT : Lib.Utf8Tabs 2 3 w) :
    Calls Tryz.prog 43 #[.string s, .string ⟨#[63]⟩] w fun e w' => e = .returned (.string ⟨(tvS false s.data.toList).toArray⟩) ∧ Below w.heap.size w w' := by
  have e1 : ∀ args w, (callFunc 75 args).run Tryz.prog w = .ok (.enter 75 args) w := run_callFunc (by kernel_rfl)
  have e2 : ∀ args w, (callFunc 76 args).run Tryz.prog w = .ok (.enter 76 args) w := run_callFunc (by kernel_rfl)
  have e3 : ∀ args w, (callFunc 108 args).run Tryz.prog w = .ok (.enter 108 args) w := run_callFunc (by kernel_rfl)
  have e4 : ∀ args w, (callFunc 112 args).run Tryz.prog w = .ok (.enter 112 args) w := run_callFunc (by kernel_rfl)
  have e5 : ∀ args w, (callFunc 78 args).run Tryz.prog w = .ok (.enter 78 args) w := run_callFunc (by kernel_rfl)
  have e6 : ∀ args w, (callFunc 109 args).run Tryz.prog w = .ok (.enter 109 args) w := run_callFunc (by kernel_rfl)
  obtain ⟨ANS, hANS⟩ : ∃ ANS, tvS false s.data.toList = ANS := ⟨_, rfl⟩
  rw [hANS]
  have hlen : s.data.toList.length = s.size := (Lib.size_eq s).symm
  go_enter Tryz.func43, Tryz.ntmps43
  go_wp2
  go_loopg [0] s.size (fun gk s1 wx => s1 = .string s ∧ ∃ pos : Nat, wx.heap[w.heap.size]? = some (.cells #[.pointer none, .slice none 0 0] 96 (0, 0)) ∧ wx.heap[w.heap.size + 1]? = some (.stringIter s pos) ∧ Below w.heap.size w wx ∧
    s.data.toList.take pos ++ tvS false (s.data.toList.drop pos) = ANS ∧ s.size ≤ pos + gk ∧ pos ≤ s.size)
  case atStart =>
    refine ⟨rfl, 0, ?_, ?_, ((Below.refl _ w).alloc (Nat.le_refl _) _).alloc (by simp) _, by simpa using hANS, by omega, by omega⟩
    · have h1 := heap_alloc_new w (.cells #[.pointer none, .slice none 0 0] 96)
      exact (Below.heap_alloc _ _ _ (by simp)).trans h1
    · have := World.iter_heap (w.alloc (.cells #[.pointer none, .slice none 0 0] 96)) s 0
      simpa using this
  case round =>
    obtain ⟨rfl, pos, hfr, hit, hbw, hsp, hfu, hps⟩ := hrel
    by_cases hlt : pos < s.size
    · obtain ⟨g', rfl⟩ : ∃ g', gk = g' + 1 := ⟨gk - 1, by omega⟩
      have hnx : ∀ ty, (Instr.next (.pointer (some ⟨w.heap.size + 1, 0, none⟩)) true ty).run Tryz.prog wr = _ := fun ty => Lib.run_next_any_at wr (w.heap.size + 1) s pos ty hit hlt
      have hne : s.data.toList.drop pos ≠ [] := by
        intro h0
        have := congrArg List.length h0
        rw [List.length_drop, hlen] at this
        simp at this
        omega
      have hwd := Lib.width_pos s pos
      have hwn : pos + (Utf8.decode s pos).2 ≤ s.size := by
        have := Lib.decodeL_le _ hne
        rw [Lib.decodeL_drop, List.length_drop, hlen] at this
        omega
      have hsame := tv_same false _ hne
      have hdg := Lib.decodeGo_extract s pos hlt
      rw [Lib.decodeL_drop] at hsame
      obtain ⟨R, hR⟩ : ∃ R, (Utf8.decode s pos).1 = R := ⟨_, rfl⟩
      obtain ⟨K, hK⟩ : ∃ K, (Utf8.decode s pos).2 = K := ⟨_, rfl⟩
      rw [hR, hK] at hnx hsame
      rw [hK] at hwd hwn
      rw [List.drop_drop] at hsame
      have hit2 := Lib.iterAt_heap wr (w.heap.size + 1) s pos (pos + K) hit
      have hbw2 := Lib.below_iterAt hbw (k := w.heap.size + 1) (by omega) s (pos + K)
      have hfr2 : (wr.iterAt (w.heap.size + 1) s (pos + K)).heap[w.heap.size]? = _ := (Lib.iterAt_other wr (w.heap.size + 1) w.heap.size s (pos + K) (by omega)).trans hfr
      obtain ⟨W, hWd⟩ : ∃ W, wr.iterAt (w.heap.size + 1) s (pos + K) = W := ⟨_, rfl⟩
      rw [hWd] at hnx hit2 hbw2 hfr2
      have HS : Aside (¬ (R = 65533 ∧ K = 1) → s.data.toList.take (pos + K) ++ tvS false (s.data.toList.drop (pos + K)) = ANS) := by
        show _ → _
        intro h
        rw [← hsp, hsame h, ← List.append_assoc, ← List.take_add]
      clear hit hbw hfr hWd hsame
      by_cases hc : R = 65533
      · have hcb : ((R : Int) != 65533) = false := by simp [hc]
        have cD := Tryz.utf8_DecodeRuneInString (s.extract pos s.size) W (Utf8Tabs_below hT hbw2)
        rw [hdg, hR, hK] at cD
        by_cases hk : K = 1
        · have hkz : (K : Int) = 1 := by omega
          have hkb : ((K : Int) == 1) = true := by simp [hkz]
          go_wp2_with (go_at_fn 109; go_must (refine cD.mono ?_; rintro e W3 ⟨rfl, b3⟩))
          have hszW := (Array.getElem?_eq_some_iff.1 hit2).1
          have hfr3 := (b3.block w.heap.size (by omega)).trans hfr2
          have hbw3 : Below w.heap.size w W3 := hbw2.trans (b3.mono (by omega))
          have hsp' := hsp
          clear hsp HS hnx hit2 hfr2 hbw2 cD hdg
          have hxs : (s.extract 0 pos).size = pos := by rw [Lib.size_eq, Lib.extract_data, List.length_take, List.length_drop, hlen]; omega
          have hxd : (s.extract 0 pos).data.toList = s.data.toList.take pos := by rw [Lib.extract_data]; simp
          have cG : Calls Tryz.prog 75 #[.pointer (some ⟨w.heap.size, 0, none⟩), .int .i64 ((s.size + 1 : Nat) : Int)] W3 _ := Any.Builder_Grow_fresh_cap { Tryz.lays230 with } Tryz.Builder_Extra_230 w.heap.size w.heap.size (s.size + 1) W3 (Nat.le_refl _) hfr3 hbw3.size (by omega)
          have hn1 : ((s.size + 1 : Nat) : Int) = (s.size : Int) + 1 := by omega
          rw [hn1] at cG
          refine cG.mono ?_
          rintro e W4 ⟨rfl, ⟨h4, b4⟩, p4, cap4, hc4, hcap4⟩
          go_wp2_with (fail)
          refine (Any.Builder_WriteString_kc { Tryz.lays230 with } Tryz.Builder_Extra_230 w.heap.size w.heap.size [] (s.extract 0 pos) W4 (Lib.IsBuilderF.of (Or.inr h4)) (by rw [hxs]; simp; omega) (Nat.le_trans hbw3.size b4.size)).mono ?_
          rintro e W5 ⟨rfl, ⟨h5w, b5, -⟩, hkc⟩
          have hb5 : Below w.heap.size w W5 := (hbw3.trans b4).trans b5
          have hcells : [] ++ Lib.strCells (s.extract 0 pos) = Lib.byteCells (s.data.toList.take pos) := by
            rw [List.nil_append, Lib.strCells_eq, hxd]
          rw [hcells] at h5w
          obtain ⟨v5, hv5, hcv⟩ := hkc _ hc4
          obtain ⟨p5, n5, cap5, rfl, hcap5⟩ : ∃ p5 n5 cap5, v5 = .slice p5 n5 cap5 ∧ 1 ≤ cap5 := by
            cases v5
            all_goals first
              | exact ⟨_, _, _, rfl, by simp only [Value.capOf] at hcv; omega⟩
              | (exfalso; simp only [Value.capOf] at hcv; omega)
          have hcapz : ¬ ((cap5 : Int) = 0) := by omega
          have hcapb : ((cap5 : Int) == 0) = false := by simp; omega
          obtain ⟨s2, hs2⟩ : ∃ s2, s.extract pos s.size = s2 := ⟨_, rfl⟩
          have hl2 : s2.data.toList = s.data.toList.drop pos := by
            rw [← hs2, Lib.extract_data, List.take_of_length_le (by rw [List.length_drop, hlen]; omega)]
          have hz2 : s2.size = s.size - pos := by rw [Lib.size_eq, hl2, List.length_drop, hlen]
          go_wp2_with (fail)
          refine (Any.Builder_Cap_cell { Tryz.lays230 with } w.heap.size _ _ cap5 W5 hv5).mono ?_
          rintro e W6 ⟨rfl, rfl⟩
          go_wp2_with (fail)
          go_loopg [10, 11] s2.size (fun gk s10 s11 wx => ∃ (p2 : Nat) (acc : List UInt8) (inv : Bool), s10 = .bool inv ∧ s11 = .int .i64 (p2 : Int) ∧ Lib.IsBuilderF 96 5 w.heap.size w.heap.size (Lib.byteCells acc) wx ∧ Below w.heap.size w wx ∧
            acc ++ tvS inv (s2.data.toList.drop p2) = ANS ∧ s2.size ≤ p2 + gk ∧ p2 ≤ s2.size ∧ acc.length ≤ pos + p2)
          case atStart =>
            refine ⟨0, s.data.toList.take pos, false, rfl, rfl, Or.inr h5w, hb5, ?_, by omega, by omega, by rw [List.length_take]; omega⟩
            rw [List.drop_zero, hl2]; exact hsp'
          case round =>
            obtain ⟨p2, acc, inv, rfl, rfl, hI, hbw, hacc, hfu2, hp2, hal⟩ := hrel
            by_cases hlt2 : p2 < s2.size
            · obtain ⟨g2, rfl⟩ : ∃ g2, gk = g2 + 1 := ⟨gk - 1, by omega⟩
              have hltz : (p2 : Int) < (s2.size : Int) := by omega
              have hne2 : s2.data.toList.drop p2 ≠ [] := by
                intro h0
                have := congrArg List.length h0
                rw [List.length_drop, ← Lib.size_eq] at this
                simp at this
                omega
              have hhd := head_at s2 p2 hlt2
              by_cases h128 : ((s2.data.toList.drop p2).getD 0 0).toNat < 128
              · have hlow := tv_low inv _ hne2 h128
                rw [hhd] at h128
                have hcz : ((s2[p2].toNat : Nat) : Int) < 128 := by omega
                go_wp2_with (fail)
                refine (Any.Builder_WriteByte_k { Tryz.lays230 with } Tryz.Builder_Extra_230 w.heap.size w.heap.size _ ((s2[p2].toNat : Nat) : Int) wr hI (by rw [Lib.byteCells_length]; omega) hbw.size).mono ?_
                rintro e W7 ⟨rfl, h7, b7, -⟩
                go_wp2_with (fail)
                go_roundg g2
                case measure => omega
                case rel =>
                  refine ⟨p2 + 1, acc ++ [s2[p2]], false, rfl, rfl, Or.inr ?_, hbw.trans b7, ?_, by omega, by omega, by rw [List.length_append]; show _ + 1 ≤ _; omega⟩
                  · rw [Lib.byteCells_append]; exact h7
                  · rw [← hacc, hlow, List.append_assoc, List.drop_drop]
                    have ht : (s2.data.toList.drop p2).take 1 = [s2[p2]] := by
                      rw [← hhd]
                      cases hd : s2.data.toList.drop p2 with
                      | nil => exact absurd hd hne2
                      | cons b t => rfl
                    rw [ht]
              · have hsame2 := tv_same inv _ hne2
                have hhigh := tv_high inv _ hne2 h128
                have hle2 := Lib.decodeL_le _ hne2
                have hwd2 := Lib.width_pos s2 p2
                rw [hhd] at h128
                have hcz : ¬ (((s2[p2].toNat : Nat) : Int) < 128) := by omega
                have hdg2 := Lib.decodeGo_extract s2 p2 hlt2
                rw [Lib.decodeL_drop] at hsame2 hhigh hle2
                rw [List.length_drop, ← Lib.size_eq] at hle2
                obtain ⟨R2, hR2⟩ : ∃ R2, (Utf8.decode s2 p2).1 = R2 := ⟨_, rfl⟩
                obtain ⟨K2, hK2⟩ : ∃ K2, (Utf8.decode s2 p2).2 = K2 := ⟨_, rfl⟩
                rw [hR2, hK2] at hsame2
                rw [hK2] at hhigh hle2 hwd2
                have cD2 := Tryz.utf8_DecodeRuneInString (s2.extract p2 s2.size) wr (Utf8Tabs_below hT hbw)
                rw [hdg2, hR2, hK2, hz2] at cD2
                rw [List.drop_drop] at hsame2 hhigh
                by_cases hk2 : K2 = 1
                · have hkz2 : (K2 : Int) = 1 := by omega
                  have hkb2 : ((K2 : Int) == 1) = true := by simp [hkz2]
                  have hh := hhigh hk2
                  cases inv with
                  | false =>
                    go_wp2_with (go_at_fn 109; go_must (refine cD2.mono ?_; rintro e W7 ⟨rfl, b7⟩))
                    refine (Any.Builder_WriteString_k { Tryz.lays230 with } Tryz.Builder_Extra_230 w.heap.size w.heap.size _ ⟨#[63]⟩ W7 (bf_below hI b7) (by rw [Lib.byteCells_length]; show _ + 1 ≤ _; omega) (Nat.le_trans hbw.size b7.size)).mono ?_
                    rintro e W8 ⟨rfl, h8, b8, -⟩
                    go_wp2_with (fail)
                    go_roundg g2
                    case measure => omega
                    case rel =>
                      refine ⟨p2 + 1, acc ++ [63], true, rfl, rfl, Or.inr ?_, (hbw.trans (b7.mono hbw.size)).trans b8, ?_, by omega, by omega, by rw [List.length_append]; show _ + 1 ≤ _; omega⟩
                      · rw [Lib.byteCells_append]; exact h8
                      · rw [← hacc, hh, List.append_assoc]; rfl
                  | true =>
                    go_wp2_with (go_at_fn 109; go_must (refine cD2.mono ?_; rintro e W7 ⟨rfl, b7⟩))
                    go_roundg g2
                    case measure => omega
                    case rel =>
                      refine ⟨p2 + 1, acc, true, rfl, rfl, bf_below hI b7, hbw.trans (b7.mono hbw.size), ?_, by omega, by omega, by omega⟩
                      rw [← hacc, hh]; rfl
                · have hkz2 : ¬ ((K2 : Int) = 1) := by omega
                  have hkb2 : ((K2 : Int) == 1) = false := by simp [hkz2]
                  go_wp2_with (go_at_fn 109; go_must (refine cD2.mono ?_; rintro e W7 ⟨rfl, b7⟩))
                  have hxd2 : (s2.extract p2 (p2 + K2)).data.toList = (s2.data.toList.drop p2).take K2 := by rw [Lib.extract_data, show p2 + K2 - p2 = K2 from by omega]
                  have hxs2 : (s2.extract p2 (p2 + K2)).size = K2 := by rw [Lib.size_eq, hxd2, List.length_take, List.length_drop, ← Lib.size_eq]; omega
                  refine (Any.Builder_WriteString_k { Tryz.lays230 with } Tryz.Builder_Extra_230 w.heap.size w.heap.size _ (s2.extract p2 (p2 + K2)) W7 (bf_below hI b7) (by rw [Lib.byteCells_length, hxs2]; omega) (Nat.le_trans hbw.size b7.size)).mono ?_
                  rintro e W8 ⟨rfl, h8, b8, -⟩
                  go_wp2_with (fail)
                  go_roundg g2
                  case measure => omega
                  case rel =>
                    refine ⟨p2 + K2, acc ++ (s2.data.toList.drop p2).take K2, false, rfl, by first | rfl | (show Value.int _ _ = _; congr 1; omega), Or.inr ?_, (hbw.trans (b7.mono hbw.size)).trans b8, ?_, by omega, by omega, by rw [List.length_append, List.length_take]; omega⟩
                    · rw [Lib.byteCells_append, ← hxd2, ← Lib.strCells_eq]; exact h8
                    · rw [← hacc, hsame2 (fun h => hk2 h.2), List.append_assoc]
            · obtain rfl : p2 = s2.size := by omega
              have hltz : ¬ ((s2.size : Int) < (s2.size : Int)) := by omega
              go_wp2_with (fail)
              refine (Any.Builder_String_any_f { Tryz.lays230 with } Tryz.Builder_Extra_230 w.heap.size w.heap.size acc wr hI hbw.size).mono ?_
              rintro e W8 ⟨rfl, _, b8⟩
              go_wp2_with (fail)
              go_ret
              refine ⟨?_, hbw.trans b8⟩
              rw [Lib.size_eq, List.drop_length, tvS_nil, List.append_nil] at hacc
              subst hacc
              rfl
        · have hkz : ¬ ((K : Int) = 1) := by omega
          have hkb : ((K : Int) == 1) = false := by simp [hkz]
          go_wp2_with (go_at_fn 109; go_must (refine cD.mono ?_; rintro e W3 ⟨rfl, b3⟩))
          all_goals (go_roundg g' <;> first
            | omega
            | exact ⟨rfl, pos + K, (b3.block _ (by have := (Array.getElem?_eq_some_iff.1 hit2).1; omega)).trans hfr2, (b3.block _ (by have := (Array.getElem?_eq_some_iff.1 hit2).1; omega)).trans hit2, hbw2.trans (b3.mono (by have := (Array.getElem?_eq_some_iff.1 hit2).1; omega)), HS.out (fun h => hk h.2), by omega, hwn⟩)
      · have hc' : ¬ ((R : Int) = 65533) := by omega
        have hcb : ((R : Int) != 65533) = true := by simp [hc']
        go_wp2
        go_roundg g'
        case measure => omega
        case rel => exact ⟨rfl, pos + K, hfr2, hit2, hbw2, HS.out (fun h => hc h.1), by omega, hwn⟩
    · obtain rfl : pos = s.size := by omega
      have hnx : ∀ ty, (Instr.next (.pointer (some ⟨w.heap.size + 1, 0, none⟩)) true ty).run Tryz.prog wr = _ := fun ty => Lib.run_next_end_at wr (w.heap.size + 1) s s.size ty hit hlt
      have cC : Calls Tryz.prog 112 #[.pointer (some ⟨w.heap.size, 0, none⟩)] wr _ := Any.Builder_Cap_cell { Tryz.lays230 with } w.heap.size none 0 0 wr (by rw [Lib.cell_of_heap hfr]; rfl)
      go_wp2_with (go_at_fn 112; go_must (refine cC.mono ?_; rintro e W' ⟨rfl, rfl⟩))
      go_ret
      refine ⟨?_, hbw⟩
      rw [← hsp, ← hlen, List.drop_length, List.take_length, tvS_nil, List.append_nil]
      rfl
theorem pc_valid (s : List UInt8) (hn : s.length < 35184372088832) : PC Tryz.prog GU 43 [.str s, .str [63]] (.str (tvS false s)) := by
  refine pc_pure (cargs := [.string ⟨s.toArray⟩, .string ⟨#[63]⟩]) (cv := .string ⟨(tvS false s).toArray⟩) (fun X vs h => ?_) (fun X => .str ..) (fun w hg => ?_)
  · cases h with | cons h1 hs => cases hs with | cons h2 hs =>
      cases hs
      cases h1
      cases h2
      rfl
  · exact valid_walk ⟨s.toArray⟩ w hn hg.2
def h_valid : List AV → CR
  | [.str s, .str r] => .need (r = [63] ∧ s.length < 35184372088832) (.str (tvS false s))
  | _ => .no
theorem h_valid_ok (xs : List AV) : CRok Tryz.prog GU 43 xs (h_valid xs) := by
  unfold h_valid
  split
  · rintro ⟨rfl, hn⟩
    exact pc_valid _ hn
  · trivial
end Go.Proofs.YtejepcnoflahkaaGreatDoor

/- strings.Builder: what its methods do to memory. -/
import Derived.Test.YtejepcnoflahkaaGreatDoorAbTab
import Derived.Test.YtejepcnoflahkaaGreatDoorChecked
import Derived.Lib.Builder
import Derived.Lib.UnsafeStr
import Derived.Laws.Externs
namespace Go.Proofs.YtejepcnoflahkaaGreatDoor
open Go Go.Ab Go.RowKit
set_option linter.unusedVariables false
set_option linter.unusedSimpArgs false
set_option maxRecDepth 100000
set_option maxHeartbeats 4000000

theorem bld_info : (Tryz.prog.info? 96).map (·.size) = some 2 := by kernel_rfl
theorem bld_lies : liesAt Tryz.prog Tryz.prog.depth 96 (2 / Tryz.prog.cellsOf 96) 0 96 1 = true := by kernel_rfl
theorem cc_used (b : Nat) (w : World) (h0 : w.cell? ⟨b, 0, none⟩ = some (.pointer (some ⟨b, 0, none⟩))) :
    Calls Tryz.prog 134 #[.pointer (some ⟨b, 0, none⟩)] w fun e w' => e = .returned (.tuple #[]) ∧ w' = w := by
  obtain ⟨j, hj, _⟩ := Option.map_eq_some_iff.1 bld_info
  go_enter Tryz.func134, Tryz.ntmps134
  go_wp2
  rw [Lib.run_neq_ptr_same w _ Tryz.underlying93 hj]
  go_wp2
  go_end0
  exact ⟨rfl, rfl⟩
theorem cc_fresh (b : Nat) (w : World) (h0 : w.cell? ⟨b, 0, none⟩ = some (.pointer none)) (hsh : w.shape? b = some (96, 2)) (hfz : w.frozen? ⟨b, 0, none⟩ = false) :
    Calls Tryz.prog 134 #[.pointer (some ⟨b, 0, none⟩)] w fun e w' => e = .returned (.tuple #[]) ∧ w' = w.setCell ⟨b, 0, none⟩ (.pointer (some ⟨b, 0, none⟩)) := by
  obtain ⟨j, hj, hjs⟩ := Option.map_eq_some_iff.1 bld_info
  go_enter Tryz.func134, Tryz.ntmps134
  go_wp2
  rw [Lib.run_to_unsafe w ⟨b, 0, none⟩ Tryz.underlying93 Tryz.underlying175 hj (by rw [hjs]; decide) hsh (Nat.zero_lt_succ 1)]
  simp only [Result.andThen]
  rw [Oper.upon_value]
  go_wp2
  rw [run_callFunc_extern Tryz.func175 (by kernel_rfl) (by kernel_rfl) (by kernel_rfl) (e := Extern.AbiNoEscape.same) (by kernel_rfl)]
  rw [Lib.run_noEscape]
  simp only [Result.andThen]
  rw [Oper.upon_value]
  go_wp2
  rw [Lib.run_from_unsafe w ⟨b, 0, none⟩ Tryz.underlying175 Tryz.underlying93 hj hsh bld_lies]
  simp only [Result.andThen]
  rw [Oper.upon_value]
  go_wp2
  go_end0
  exact ⟨rfl, rfl⟩

theorem str_some (b g cap : Nat) (p : Value) (cur : Array Value) (l : List UInt8) (w : World) (h0 : l ≠ []) (hbk : w.heap[b]? = some (.cells #[p, .slice (some ⟨g, 0, none⟩) l.length cap] 96 (0, 0))) (fr : Nat × Nat) (hg : w.heap[g]? = some (.cells cur 5 fr))
    (hnc : l.length ≤ cap) (hcs : cap ≤ cur.size) (h63 : l.length ≤ 9223372036854775807) (hcell : ∀ j x, l[j]? = some x → w.cell? ⟨g, j, none⟩ = some (.int .u8 x.toNat)) :
    Calls Tryz.prog 78 #[.pointer (some ⟨b, 0, none⟩)] w fun e w' => e = .returned (.string ⟨l.toArray⟩) ∧ w' = w.drew.freeze ⟨g, 0, none⟩ l.length := by
  have hl0 : l.length ≠ 0 := by simpa using h0
  have c1 : w.drew.cell? ⟨b, 1, none⟩ = some (.slice (some ⟨g, 0, none⟩) l.length cap) := by
    have : w.drew.heap[b]? = some (.cells #[p, .slice (some ⟨g, 0, none⟩) l.length cap] 96 (0, 0)) := hbk
    rw [Lib.cell_of_heap this]; rfl
  have hSD : (Builtin.unsafeSliceData_ #[94] 148 #[.slice (some ⟨g, 0, none⟩) l.length cap]).run Tryz.prog w.drew = .ok (.pointer (some ⟨g, 0, none⟩)) w.drew :=
    Lib.run_unsafeSliceData_row _ _ _ _ _ _ (by omega)
  have hUS : (Builtin.unsafeString_ #[148, 3] 9 #[.pointer (some ⟨g, 0, none⟩), .int .i64 l.length]).run Tryz.prog w.drew = .ok (.string ⟨l.toArray⟩) (w.drew.freeze ⟨g, 0, none⟩ l.length) := by
    refine Lib.run_unsafeString_row w.drew 148 3 9 5 Tryz.underlying148 (by kernel_rfl) g cur.size (by have hg' : w.drew.heap[g]? = some (.cells cur 5 fr) := hg; simp [World.shape?, hg']) l h0 (by omega) h63 ?_
    intro j x hx
    rw [add_off, Nat.zero_add]
    exact hcell j x hx
  go_enter Tryz.func78, Tryz.ntmps78
  go_wp2
  go_region
  all_goals (go_wp2; go_ret; exact ⟨rfl, rfl⟩)
theorem str_zero (b g o cap : Nat) (p : Value) (w : World) (hbk : w.heap[b]? = some (.cells #[p, .slice (some ⟨g, o, none⟩) 0 cap] 96 (0, 0))) (cs : Array Value) (T : TypeId) (fr : Nat × Nat) (hg : w.heap[g]? = some (.cells cs T fr)) :
    Calls Tryz.prog 78 #[.pointer (some ⟨b, 0, none⟩)] w fun e w' => e = .returned (.string ⟨#[]⟩) ∧ (w' = w.drew ∨ w' = w.drew.alloc (.view ⟨g, o, none⟩ 5)) := by
  have hUS : ∀ W q, (Builtin.unsafeString_ #[148, 3] 9 #[.pointer q, .int .i64 0]).run Tryz.prog W = .ok (.string .empty) W := fun W q => Lib.run_unsafeString_none W _ _ _ q
  have c1 : w.drew.cell? ⟨b, 1, none⟩ = some (.slice (some ⟨g, o, none⟩) 0 cap) := by
    have : w.drew.heap[b]? = some (.cells #[p, .slice (some ⟨g, o, none⟩) 0 cap] 96 (0, 0)) := hbk
    rw [Lib.cell_of_heap this]; rfl
  by_cases hc : cap = 0
  · subst hc
    have c2 : (w.drew.alloc (.view ⟨g, o, none⟩ 5)).cell? ⟨b, 1, none⟩ = some (.slice (some ⟨g, o, none⟩) 0 0) := by
      rw [World.cell?_alloc_old _ _ _ (Nat.ne_of_lt (World.block_lt_of_cell? _ _ c1))]; exact c1
    have c3 : (w.alloc (.view ⟨g, o, none⟩ 5)).cell? ⟨b, 1, none⟩ = some (.slice (some ⟨g, o, none⟩) 0 0) := c2
    have hSD : (Builtin.unsafeSliceData_ #[94] 148 #[.slice (some ⟨g, o, none⟩) 0 0]).run Tryz.prog w.drew = .ok (.pointer (some ⟨w.drew.heap.size, 0, none⟩)) (w.drew.alloc (.view ⟨g, o, none⟩ 5)) :=
      Lib.run_unsafeSliceData_zero w.drew _ _ _ Tryz.underlying148 ⟨g, o, none⟩ 0 (T, cs.size) (by have hg' : w.drew.heap[g]? = some (.cells cs T fr) := hg; simp [World.shape?, hg'])
    go_enter Tryz.func78, Tryz.ntmps78
    go_wp2
    go_region
    all_goals (go_wp2; go_ret; exact ⟨rfl, .inr rfl⟩)
  · have hSD : (Builtin.unsafeSliceData_ #[94] 148 #[.slice (some ⟨g, o, none⟩) 0 cap]).run Tryz.prog w.drew = .ok (.pointer (some ⟨g, o, none⟩)) w.drew :=
      Lib.run_unsafeSliceData_row _ _ _ _ _ _ hc
    go_enter Tryz.func78, Tryz.ntmps78
    go_wp2
    go_region
    all_goals (go_wp2; go_ret; exact ⟨rfl, .inl rfl⟩)
theorem str_none (b : Nat) (p : Value) (w : World) (hbk : w.heap[b]? = some (.cells #[p, .slice none 0 0] 96 (0, 0))) :
    Calls Tryz.prog 78 #[.pointer (some ⟨b, 0, none⟩)] w fun e w' => e = .returned (.string ⟨#[]⟩) ∧ w' = w.drew := by
  have hUS : ∀ W, (Builtin.unsafeString_ #[148, 3] 9 #[.pointer none, .int .i64 0]).run Tryz.prog W = .ok (.string .empty) W := fun W => Lib.run_unsafeString_none W _ _ _ _
  have c1 : w.drew.cell? ⟨b, 1, none⟩ = some (.slice none 0 0) := by
    have : w.drew.heap[b]? = some (.cells #[p, .slice none 0 0] 96 (0, 0)) := hbk
    rw [Lib.cell_of_heap this]; rfl
  have hSD : (Builtin.unsafeSliceData_ #[94] 148 #[.slice none 0 0]).run Tryz.prog w.drew = .ok (.pointer none) w.drew := rfl
  go_enter Tryz.func78, Tryz.ntmps78
  go_wp2
  go_region
  all_goals (go_wp2; go_ret; exact ⟨rfl, rfl⟩)

/-! ### As contracts of the evaluator -/
section
variable {G : World → Prop}
/-- a block that is one's own, and is no more -/
theorem trash {s : St} {a : Act} {X : Cx} (r : Rel s a X) {i b : Nat} {old : Blk} (hs : s.h i = some old) (hi : X.μ i = some b) (o : Obj) : Rel (s.kill i) a (X.set b o) ∧ Fr X (X.set b o) := by
  obtain ⟨m1, m2⟩ := r.mu i b hi
  obtain ⟨m3, m4⟩ := r.ow i _ b hs hi
  have e := X.set_ext b o m4
  have hk : ∀ j bl, (s.kill i).h j = some bl → j ≠ i ∧ s.h j = some bl := fun j bl hj => by
    by_cases h : j = i
    · subst h; rw [show (s.kill j).h j = none from upd_same ..] at hj; cases hj
    · rw [show (s.kill i).h j = s.h j from upd_ne _ _ h] at hj; exact ⟨h, hj⟩
  refine ⟨{
    size := r.size
    dfr := r.dfr
    tmps := fun t => (r.tmps t).mono e
    heap := fun j bl hj => by
      obtain ⟨h1, h2⟩ := hk j bl hj
      obtain ⟨h3, h4⟩ := r.heap j bl h2
      refine ⟨h3, h4.mono e rfl fun c hc _ => set_ne fun ec => ?_⟩
      subst ec
      have := (r.ow j _ c h2 hc).1
      rw [m3] at this
      injection this with this
      injection this with this
      exact h1 this.symm
    ow := fun j bl c hj hc => by
      obtain ⟨h1, h2⟩ := hk j bl hj
      exact r.ow j bl c h2 hc
    mu := fun j c hj => by
      obtain ⟨h1, h2⟩ := r.mu j c hj
      exact ⟨h1, by simpa [Cx.set] using h2⟩
    kap := r.kap
    kn := r.kn
    tok := fun t c cap sz ht => by
      obtain ⟨len, T, cs, h1, h2, h3, h4, h5, h6, h7⟩ := r.tok t c cap sz ht
      have hc : c ≠ b := fun ec => by subst ec; rw [m3] at h7; cases h7
      exact ⟨len, T, cs, h1, h2, (set_ne hc).trans h3, h4, h5, h6, h7⟩ }, X.set_fr b o ⟨i, m3⟩ m4⟩
theorem repL1 {X : Cx} {p : Bool} {x : AV} {vs : List Value} (h : RepL X p [x] vs) : ∃ v, vs = [v] ∧ Rep X p x v := by
  cases h with | cons h hs => cases hs; exact ⟨_, rfl, h⟩
theorem repL2 {X : Cx} {p : Bool} {x y : AV} {vs : List Value} (h : RepL X p [x, y] vs) : ∃ v w, vs = [v, w] ∧ Rep X p x v ∧ Rep X p y w := by
  cases h with | cons h hs => obtain ⟨w, rfl, hw⟩ := repL1 hs; exact ⟨_, _, rfl, h, hw⟩
theorem rep_ptr {X : Cx} {p : Bool} {i o : Nat} {v : Value} (h : Rep X p (.ptr i o) v) : ∃ b, v = .pointer (some ⟨b, o, none⟩) ∧ X.μ i = some b := by
  cases h with | ptr _ hb => exact ⟨_, rfl, hb⟩
theorem modify_set {h : Array Obj} {b : Nat} {o : Obj} (hb : h[b]? = some o) (f : Obj → Obj) : h.modify b f = h.setIfInBounds b (f o) := by
  apply Array.ext_getElem?
  intro j
  rw [Array.getElem?_modify, Array.getElem?_setIfInBounds]
  have hlt := (Array.getElem?_eq_some_iff.1 hb).1
  by_cases h : b = j
  · subst h
    obtain ⟨_, h2⟩ := Array.getElem?_eq_some_iff.1 hb
    simp [hlt, h2]
  · simp [h]
def h_cc : List AV → St → Res
  | [.ptr i 0], m => match m.h i with
    | some (.tcells T [a, b]) => match Nat.beq T 96 with
      | true => match a with
        | .nilp => .ok (.tup []) (m.setB i (.tcells 96 [.ptr i 0, b]))
        | .ptr j 0 => match Nat.beq j i with
          | true => .ok (.tup []) m
          | false => .fail
        | _ => .fail
      | false => .fail
    | _ => .fail
  | _, _ => .fail
theorem h_cc_ok (xs : List AV) (m : St) : HRok Tryz.prog G 134 xs m (h_cc xs m) := by
  unfold h_cc
  split
  · rename_i i
    split
    · rename_i T a b hi
      split
      · rename_i hT
        have := Nat.eq_of_beq_eq_true hT
        subst this
        split
        · intro X cargs hg hr ha
          have r := hr.rel
          obtain ⟨v, rfl, ha'⟩ := repL1 ha
          obtain ⟨c, rfl, hb⟩ := rep_ptr ha'
          obtain ⟨vs, hh, hv⟩ := r.blk hi hb
          obtain ⟨va, vb, rfl, h1, h2⟩ := repL2 hv
          cases h1
          have h0 : X.w.cell? ⟨c, 0, none⟩ = some (.pointer none) := by rw [cell_eq hh]; rfl
          refine (cc_fresh c X.w h0 (by simp [World.shape?, hh]) (by simp [World.frozen?, hh])).mono ?_
          rintro e w' ⟨rfl, rfl⟩
          have hE := X.set_ext c (.cells #[.pointer (some ⟨c, 0, none⟩), vb] 96 (0, 0)) (r.ow _ _ _ hi hb).2
          have hrel := r.setB hi hb (.cells #[.pointer (some ⟨c, 0, none⟩), vb] 96 (0, 0)) (blk := .tcells 96 [.ptr i 0, b])
            ⟨[.pointer (some ⟨c, 0, none⟩), vb], set_eq (blk_lt hh), .cons (.ptr 0 hb) (.cons (h2.mono hE) .nil)⟩
          refine ⟨_, _, rfl, ?_, ⟨hrel.heap, hrel.ow, hrel.mu, hrel.kap, hrel.kn, hrel.tok⟩, .tup .nil, X.set_fr c _ ⟨_, (r.ow _ _ _ hi hb).1⟩ (r.ow _ _ _ hi hb).2⟩
          simp only [Cx.set, World.setCell]
          rw [modify_set hh]
          simp
        · rename_i j
          split
          · rename_i hj
            have := Nat.eq_of_beq_eq_true hj
            subst this
            intro X cargs hg hr ha
            have r := hr.rel
            obtain ⟨v, rfl, ha'⟩ := repL1 ha
            obtain ⟨c, rfl, hb⟩ := rep_ptr ha'
            obtain ⟨vs, hh, hv⟩ := r.blk hi hb
            obtain ⟨va, vb, rfl, h1, h2⟩ := repL2 hv
            obtain ⟨c2, rfl, hb2⟩ := rep_ptr h1
            rw [hb] at hb2; cases hb2
            have h0 : X.w.cell? ⟨c, 0, none⟩ = some (.pointer (some ⟨c, 0, none⟩)) := by rw [cell_eq hh]; rfl
            refine (cc_used c X.w h0).mono ?_
            rintro e w' ⟨rfl, rfl⟩
            exact ⟨_, X, rfl, rfl, hr, .tup .nil, Fr.refl X⟩
          · trivial
        · trivial
      · trivial
    · trivial
  · trivial
def isByte : AV → Prop
  | .int .u8 n => 0 ≤ n ∧ n < 256
  | _ => False
instance (x : AV) : Decidable (isByte x) :=
  match x with
  | .int k n => match k with
    | .u8 => inferInstanceAs (Decidable (0 ≤ n ∧ n < 256))
    | .u16 | .u32 | .u64 | .i8 | .i16 | .i32 | .i64 => .isFalse id
  | .any | .bool _ | .str _ | .agg _ | .tup _ | .nilp | .nilm | .nilf | .nili | .sl .. | .ptr .. | .hs .. | .eptr .. | .cptr .. | .map _ | .clo .. | .ifc .. | .nxt .. => .isFalse id
theorem isByte_int {x : AV} (h : isByte x) : x = .int .u8 ((byteOfA x).toNat : Int) := by
  unfold isByte at h
  split at h
  · rename_i n
    have e : (UInt8.ofNat n.toNat).toNat = n.toNat := by simp [UInt8.toNat_ofNat]; omega
    show AV.int .u8 n = .int .u8 ((UInt8.ofNat n.toNat).toNat : Int)
    rw [e]
    congr 1; omega
  · exact h.elim
/-- bytes as a text -/
def txtA (n : Nat) (f : Nat → AV) : List UInt8 := (List.range n).map fun j => byteOfA (f j)
def h_str : List AV → St → Res
  | [.ptr i 0], m => match m.h i with
    | some (.tcells T [a, b]) => match Nat.beq T 96 with
      | true => match b with
        | .sl .nil _ _ => .ok (.str []) m
        | .hs k lo n sz _ => match m.h k with
          | some (.arr U sz' n' f) => .need (U = 5 ∧ lo = 0 ∧ sz = 1 ∧ sz' = 1 ∧ n ≤ n' ∧ n ≤ 9223372036854775807 ∧ ∀ j, j < n → isByte (f j)) (.str (txtA n f)) (m.kill k)
          | _ => .fail
        | _ => .fail
      | false => .fail
    | _ => .fail
  | _, _ => .fail
theorem drew_fr (X : Cx) : Fr X X.drew := (Same.drew X).fr
theorem h_str_ok (xs : List AV) (m : St) : HRok Tryz.prog G 78 xs m (h_str xs m) := by
  unfold h_str
  split
  · rename_i i
    split
    · rename_i T a b hi
      split
      · rename_i hT
        have := Nat.eq_of_beq_eq_true hT
        subst this
        split
        · intro X cargs hg hr ha
          have r := hr.rel
          obtain ⟨v, rfl, ha'⟩ := repL1 ha
          obtain ⟨c, rfl, hb⟩ := rep_ptr ha'
          obtain ⟨vs, hh, hv⟩ := r.blk hi hb
          obtain ⟨va, vb, rfl, h1, h2⟩ := repL2 hv
          cases h2 with
          | sl b o cap sz g hz hc hr hg ha ht => exact ht.elim
          | snil f A ht hn =>
            have := hn rfl
            subst this
            refine (str_none c _ X.w hh).mono ?_
            rintro e w' ⟨rfl, rfl⟩
            have hrel := (Same.drew X).rel r
            exact ⟨_, X.drew, rfl, rfl, ⟨hrel.heap, hrel.ow, hrel.mu, hrel.kap, hrel.kn, hrel.tok⟩, .str false [], drew_fr X⟩
        · rename_i k lo n sz cp
          split
          · rename_i U sz' n' f hk
            rintro ⟨rfl, rfl, rfl, rfl, hn', h63, hu8⟩ X cargs hg hr ha
            have r := hr.rel
            obtain ⟨v, rfl, ha'⟩ := repL1 ha
            obtain ⟨c, rfl, hb⟩ := rep_ptr ha'
            obtain ⟨vs, hh, hv⟩ := r.blk hi hb
            obtain ⟨va, vb, rfl, h1, h2⟩ := repL2 hv
            cases h2 with
            | hs0 =>
              refine (str_none c _ X.w hh).mono ?_
              rintro e w' ⟨rfl, rfl⟩
              have hrel := ((Same.drew X).rel r).kill k
              exact ⟨_, X.drew, rfl, rfl, ⟨hrel.heap, hrel.ow, hrel.mu, hrel.kap, hrel.kn, hrel.tok⟩, .str false [], drew_fr X⟩
            | hs _ _ _ _ cap o hm hlt hz hnc hc ho hbs =>
              rename_i g
              obtain ⟨us, fr, hg1, hfr, _, hnv, hvl, hrow⟩ := r.blk hk hm
              by_cases h0 : n = 0
              · subst h0
                refine (str_zero c g o cap _ X.w hh _ _ _ hg1).mono ?_
                rintro e w' ⟨rfl, hw⟩
                have hrel := ((Same.drew X).rel r).kill k
                rcases hw with rfl | rfl
                · exact ⟨_, X.drew, rfl, rfl, ⟨hrel.heap, hrel.ow, hrel.mu, hrel.kap, hrel.kn, hrel.tok⟩, .str false [], drew_fr X⟩
                · have hrow := Same.row X.drew (.view ⟨g, o, none⟩ 5)
                  have hrel2 := hrow.rel hrel
                  exact ⟨_, X.drew.row (.view ⟨g, o, none⟩ 5), rfl, rfl, ⟨hrel2.heap, hrel2.ow, hrel2.mu, hrel2.kap, hrel2.kn, hrel2.tok⟩, .str false [], (drew_fr X).trans hrow.fr⟩
              replace h0 : 0 < n := Nat.pos_of_ne_zero h0
              have ho' : o = 0 := by
                rcases ho with h | h
                · omega
                · simpa using h
              subst ho'
              have hlen : (txtA n f).length = n := by simp [txtA]
              have hcell : ∀ j x, (txtA n f)[j]? = some x → X.w.cell? ⟨g, j, none⟩ = some (.int .u8 x.toNat) := by
                intro j x hx
                have hj : j < n := by have := (List.getElem?_eq_some_iff.1 hx).1; omega
                have hx' : x = byteOfA (f j) := by
                  have : (txtA n f)[j]? = some (byteOfA (f j)) := by
                    simp [txtA, List.getElem?_map, List.getElem?_range hj]
                  rw [this] at hx; exact (Option.some.inj hx).symm
                subst hx'
                have hrj := hrow j (by omega)
                rw [isByte_int (hu8 j hj)] at hrj
                obtain ⟨v, e1, e2⟩ := hrj.get (i := 0) (a := .int .u8 ((byteOfA (f j)).toNat : Int)) rfl
                cases e2
                rw [List.getElem?_take, if_pos (by omega), List.getElem?_drop] at e1
                rw [cell_eq hg1, List.getElem?_toArray]
                simpa using e1
              have hcs : cap ≤ us.length := by rw [hvl]; simpa using hbs
              have hh' := str_some c g cap va us.toArray (txtA n f) X.w (by
                intro h0'; rw [h0'] at hlen; simp at hlen; omega) (by rw [hlen]; exact hh) fr hg1 (by rw [hlen]; exact hnc) (by simpa using hcs) (by rw [hlen]; exact h63) hcell
              refine hh'.mono ?_
              rintro e w' ⟨rfl, rfl⟩
              rw [hlen]
              have hfz : X.w.drew.freeze ⟨g, 0, none⟩ n = ((X.drew).set g (.cells us.toArray 5 (if fr.1 == fr.2 then (0, 0 + n) else (min fr.1 0, max fr.2 (0 + n))))).w := by
                simp only [World.freeze, if_neg (show ¬ n = 0 by omega), Cx.set]
                have : X.w.drew.heap[g]? = some (.cells us.toArray 5 fr) := hg1
                rw [modify_set this]
                rfl
              have rd := (Same.drew X).rel r
              obtain ⟨ht, hf⟩ := trash rd hk hm (.cells us.toArray 5 (if fr.1 == fr.2 then (0, 0 + n) else (min fr.1 0, max fr.2 (0 + n))))
              exact ⟨_, _, rfl, hfz.symm, ⟨ht.heap, ht.ow, ht.mu, ht.kap, ht.kn, ht.tok⟩, .str false _, (drew_fr X).trans hf⟩
          · trivial
        · trivial
      · trivial
    · trivial
  · trivial
end
end Go.Proofs.YtejepcnoflahkaaGreatDoor

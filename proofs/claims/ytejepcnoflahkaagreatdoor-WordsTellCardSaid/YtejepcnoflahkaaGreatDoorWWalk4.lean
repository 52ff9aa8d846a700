/- words: what found calls of the library. -/
import Derived.Test.YtejepcnoflahkaaGreatDoorWWalk3
import Derived.Test.YtejepcnoflahkaaGreatDoorShelf2
import Derived.Lib.SmallJoins
namespace Go.Proofs.YtejepcnoflahkaaGreatDoor
open Go Go.Ab Go.RowKit
set_option linter.unusedVariables false
set_option linter.unusedSimpArgs false
set_option maxRecDepth 100000
set_option maxHeartbeats 4000000

/-- What every world of a call has: GV's, and the variables of strings and strconv. -/
def GW (w : World) : Prop := GV w ∧ Lib.TabIs Tryz.prog w "strings.asciiSpace" .u8 Lib.asciiSpaceTab ∧ ∃ ev, w.cell? ⟨7, 0, none⟩ = some ev ∧ (ev = .nilIface ∨ ∃ te pe, ev = .iface te pe)
theorem GW_s : ∀ w w', GW w → RowKit.Below w.heap.size w w' → GW w' := by
  rintro w w' ⟨h1, h2, ev, h3, h4⟩ hb
  refine ⟨GV_s w w' h1 hb, tab_below (g := 1) (by kernel_rfl) h2 hb, ev, ?_, h4⟩
  rw [cell_congr (hb.block _ (cell_lt h3))]; exact h3
theorem PC.str {P : Program} {G G' : World → Prop} (hg : ∀ w, G' w → G w) {f : FuncId} {xs : List AV} {r : AV} (h : PC P G f xs r) : PC P G' f xs r :=
  fun w L cargs h1 h2 => h w L cargs (hg w h1) h2
theorem HC.str {P : Program} {G G' : World → Prop} (hg : ∀ w, G' w → G w) {f : FuncId} {xs : List AV} {m m' : St} {r : AV} (h : HC P G f xs m r m') : HC P G' f xs m r m' :=
  fun X cargs ⟨w0, h0, h1⟩ h2 h3 => h X cargs ⟨w0, hg w0 h0, h1⟩ h2 h3
def Env.inG (E : Env) (G : World → Prop) : Env := { E with G := G }
theorem Env.inG_ok {P : Program} {E : Env} (hE : EnvOk P E) {G : World → Prop} (hg : ∀ w, G w → E.G w) (hs : ∀ w w', G w → RowKit.Below w.heap.size w w' → G w') : EnvOk P (Env.inG E G) where
  g := hE.g
  s := hs
  t := fun f xs => by
    have := hE.t f xs
    show match E.T f xs with | .no => True | .yes r => Called P G f xs r | @CR.need C _ r => C → Called P G f xs r
    cases h : E.T f xs with
    | no => trivial
    | yes r => rw [h] at this; exact this.imp (fun h => ⟨h.1, PC.str hg h.2⟩) id
    | need C r => rw [h] at this; exact fun c => (this c).imp (fun h => ⟨h.1, PC.str hg h.2⟩) id
  h := fun f args m hf => by
    have := hE.h f args m hf
    show match E.H f args m with | .fail => True | .ok v m' => callable P f = true ∧ HC P G f args m v m' | @Res.need C _ v m' => C → callable P f = true ∧ HC P G f args m v m'
    cases h : E.H f args m with
    | fail => trivial
    | ok v m' => rw [h] at this; exact ⟨this.1, HC.str hg this.2⟩
    | need C v m' => rw [h] at this; exact fun c => ⟨(this c).1, HC.str hg (this c).2⟩
def EW8 : Env := Env.inG EW7 GW
theorem EW8_ok : EnvOk Tryz.prog EW8 := Env.inG_ok EW7_ok (fun _ h => h.1) GW_s

/-! ### the library's contracts -/
theorem repS1 {X : Cx} {p : Bool} {s : List UInt8} {vs : List Value} : RepL X p [.str s] vs → vs = [.string ⟨s.toArray⟩] := fun h => by
  cases h with | cons h hs => cases h; cases hs; rfl
theorem repSII {X : Cx} {p : Bool} {k k' : IntKind} {s : List UInt8} {n n' : Int} {vs : List Value} : RepL X p [.str s, .int k n, .int k' n'] vs → vs = [.string ⟨s.toArray⟩, .int k n, .int k' n'] := fun h => by
  cases h with | cons h hs => cases h; cases hs with | cons h hs => cases h; rw [repI hs]
theorem pc_pi_ok (s : List UInt8) (v : Int) (h : Lib.parseIntB 64 s = .ok v) (hn : s.length ≤ 65536) : PC Tryz.prog GW 144 [.str s, .int .i64 10, .int .i64 64] (.tup [.int .i64 v, .nili]) := by
  refine pc_pure (cargs := [.string ⟨s.toArray⟩, .int .i64 10, .int .i64 64]) (cv := .tuple #[.int .i64 v, .nilIface]) (fun X vs h => repSII h) (fun X => .tup (.cons (.int ..) (.cons (.nili _) .nil))) (fun w hg => ?_)
  refine (Tryz.strconv_ParseInt_10_at64_ok ⟨s.toArray⟩ (by show s.toArray.size ≤ _; simp; omega) v (by simpa using h) w).mono fun e w' ⟨h1, h2⟩ => ⟨h1, ?_⟩
  rcases h2 with rfl | ⟨t, rfl⟩
  · exact Below.refl _ _
  · exact Lib.bytesWorld_below w _ t
theorem pc_pi_range (s : List UInt8) (h : Lib.parseIntB 64 s = .range) (hn : s.length ≤ 65536) : PC Tryz.prog GW 144 [.str s, .int .i64 10, .int .i64 64] (.tup [.int .i64 (Lib.intSat 64 s), .ifc 205 .any]) := by
  intro w L vs hg hargs
  rw [repSII hargs]
  obtain ⟨_, _, ev, h3, h4⟩ := hg
  refine (Tryz.strconv_ParseInt_10_at64_range ⟨s.toArray⟩ (by show s.toArray.size ≤ _; simp; omega) (by simpa using h) ev w h3 h4).mono ?_
  rintro e w' ⟨N, rfl, _, _, hb⟩
  exact ⟨_, L, rfl, .tup (.cons (.int ..) (.cons (.ifc (.any ..)) .nil)), hb, fun _ _ => rfl⟩
theorem pc_low (s : List UInt8) (hn : s.length ≤ 65536 ∧ s.all (fun b => decide (b.toNat < 128)) = true) : PC Tryz.prog GW 147 [.str s] (.str (Lib.toLowerA s)) := by
  refine pc_pure (cargs := [.string ⟨s.toArray⟩]) (cv := .string ⟨(Lib.toLowerA s).toArray⟩) (fun X vs h => repS1 h) (fun X => .str ..) (fun w hg => ?_)
  refine (Tryz.strings_ToLower_ascii ⟨s.toArray⟩ w (by show s.toArray.size ≤ _; simp; omega) (fun j b hb => ?_)).mono fun e w' ⟨h1, h2⟩ => ⟨by simpa using h1, h2⟩
  have := List.all_eq_true.1 hn.2 b (List.mem_of_getElem? (by simpa using hb))
  simpa using this
def keysT : List UInt8 := [97, 110, 100, 32, 97, 115, 32, 97, 115, 99, 32, 98, 101, 103, 105, 110, 32, 98, 101, 116, 119, 101, 101, 110, 32, 98, 121, 32, 99, 97, 115, 116, 32, 99, 111, 109, 109, 105, 116, 32, 99, 114, 101, 97, 116, 101, 32, 100, 101, 108, 101, 116, 101, 32, 100, 101, 115, 99, 32, 100, 105, 115, 116, 105, 110, 99, 116, 32, 100, 114, 111, 112, 32, 102, 114, 111, 109, 32, 103, 114, 111, 117, 112, 32, 104, 97, 118, 105, 110, 103, 32, 105, 110, 32, 105, 110, 100, 101, 120, 32, 105, 110, 115, 101, 114, 116, 32, 105, 110, 116, 32, 105, 110, 116, 111, 32, 105, 115, 32, 106, 111, 105, 110, 32, 108, 105, 107, 101, 32, 108, 105, 109, 105, 116, 32, 110, 111, 116, 32, 110, 117, 108, 108, 32, 111, 102, 102, 115, 101, 116, 32, 111, 110, 32, 111, 114, 32, 111, 114, 100, 101, 114, 32, 114, 111, 108, 108, 98, 97, 99, 107, 32, 115, 101, 108, 101, 99, 116, 32, 115, 101, 116, 32, 116, 97, 98, 108, 101, 32, 116, 101, 120, 116, 32, 117, 110, 105, 113, 117, 101, 32, 117, 112, 100, 97, 116, 101, 32, 118, 97, 108, 117, 101, 115, 32, 119, 104, 101, 114, 101]
theorem keys_split : Lib.fields keysT = keysL := by kernel_rfl
theorem keys_ascii : keysT.all (fun b => decide (b.toNat < 128)) = true := by kernel_rfl
theorem cell_strs (w : World) (L : List (List UInt8)) (T i : Nat) (h : i < L.length) : (w.alloc (.cells (L.map fun l => Value.string ⟨l.toArray⟩).toArray T)).cell? ⟨w.heap.size, 0 + i * 1 + 0, none⟩ = some (.string ⟨(L.getD i []).toArray⟩) := by
  have e : (w.alloc (.cells (L.map fun l => Value.string ⟨l.toArray⟩).toArray T)).heap[w.heap.size]? = some (.cells (L.map fun l => Value.string ⟨l.toArray⟩).toArray T (0, 0)) := push_eq
  rw [cell_eq e, show 0 + i * 1 + 0 = i from by omega, List.getElem?_toArray, List.getElem?_map, List.getElem?_eq_getElem h, List.getD_eq_getElem?_getD, List.getElem?_eq_getElem h]
  rfl
def keyF (i : Nat) : AV := .str (keysL.getD i [])
theorem pc_keys : PC Tryz.prog GW 148 [.str keysT] (.sl .no 40 keyF) := by
  intro w L vs hg hargs
  rw [repS1 hargs]
  refine (Tryz.strings_Fields ⟨keysT.toArray⟩ w (Nat.le_of_ble_eq_true (by kernel_rfl)) (fun j b hb => ?_) hg.2.1).mono ?_
  · have := List.all_eq_true.1 keys_ascii b (List.mem_of_getElem? (by simpa using hb))
    simpa using this
  · rintro e w' ⟨rfl, rfl⟩
    have e0 : (ByteArray.mk keysT.toArray).data.toList = keysT := by simp
    rw [e0, keys_split, show keysL.length = 40 from rfl]
    refine ⟨_, fun b => if b = w.heap.size then none else L b, rfl, ?_, (Below.refl _ _).alloc (Nat.le_refl _) _, fun b hb => if_neg (by omega)⟩
    show Rep _ true (.sl .no 40 keyF) (.slice (some ⟨w.heap.size, 0, none⟩) 40 40)
    refine .sl w.heap.size 0 40 1 (fun i => [.string ⟨(keysL.getD i []).toArray⟩]) (by decide) (by decide) (fun i hi => .cons (.str ..) .nil) (fun i hi => rfl) (fun i hi j v hv => ⟨?_, fun n hn => ?_⟩) trivial
    · cases j with
      | succ j => simp at hv
      | zero =>
        simp only [List.getElem?_cons_zero, Option.some.injEq] at hv
        subst hv
        exact cell_strs w keysL _ i hi
    · exact absurd ((if_pos rfl : (if w.heap.size = w.heap.size then none else L w.heap.size) = none).symm.trans hn) (by intro h; cases h)
end Go.Proofs.YtejepcnoflahkaaGreatDoor

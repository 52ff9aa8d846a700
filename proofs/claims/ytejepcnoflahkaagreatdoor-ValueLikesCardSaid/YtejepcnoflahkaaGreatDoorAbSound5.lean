/- The symbolic evaluator: the soundness of its operations, fifth part: conversions, lengths, maps, appending. -/
import Derived.Test.YtejepcnoflahkaaGreatDoorAbSound4
import Derived.Laws.BytesArg
import Derived.Laws.Append
namespace Go.Ab
set_option linter.unusedVariables false
set_option linter.unusedSimpArgs false
section
variable {P : Program} {E : Env} {s : St} {a : Act} {X : Cx}

/-! ### Conversions -/
def byteV (x : UInt8) : Value := .int .u8 (x.toNat : Int)
def byteVals (b : List UInt8) (cap : Nat) : List Value := b.map byteV ++ List.replicate (cap - b.length) (Value.int .u8 0)
theorem run_convert_bytes_empty {P : Program} (w : World) (src e : TypeId) (hs : P.underlying src = some (.slice e)) (he : P.underlying e = some (.int .u8)) (A : Option Addr) :
    ∀ dst, P.underlying dst = some .string → (convert src dst (.slice A 0 0)).run P w = .ok (.string ⟨([] : List UInt8).toArray⟩) w := by
  intro dst hd
  rw [run_convert_bytes_string w src dst e _ 0 0 hs he hd]
  cases A <;> simp [Conv.bytesToString, loadCells] <;> rfl
theorem run_strToBytes (e : TypeId) (b : List UInt8) (w : World) : ∃ cap n, b.length ≤ cap ∧ (Conv.stringToBytes e ⟨b.toArray⟩).run P w =
    .ok (.slice (some ⟨w.heap.size, 0, none⟩) b.length cap) { w with drawn := n, heap := w.heap.push (.cells (byteVals b cap).toArray e (cap, cap + 1)) } := by
  refine ⟨Question.cut (.appendCap b.length 0 e) (w.tape w.drawn (.appendCap b.length 0 e)), w.drawn + 1, by simp [Question.cut], ?_⟩
  generalize hq : Question.cut (.appendCap b.length 0 e) (w.tape w.drawn (.appendCap b.length 0 e)) = q
  have hle : b.length ≤ q := by rw [← hq]; simp [Question.cut]
  have hel : (Array.map (fun x : UInt8 => Value.int .u8 (x.toNat : Int)) b.toArray ++ Array.replicate (q - b.length) (Value.int .u8 0)) = (byteVals b q).toArray := by
    apply Array.ext'; simp [byteVals, byteV]
  have hsz : (byteVals b q).length = q := by simp [byteVals]; omega
  simp only [Conv.stringToBytes, Sem.run_bind, run_choose, Question.forced, Bool.false_eq_true, if_false, Result.andThen_ok, ofBytes_data, hq, newRow, run_newObj, Sem.run_pure, hel, markStringish, run_shape]
  simp only [World.shape?, Array.getElem?_push_size, List.size_toArray, hsz, run_freeze, Result.andThen_ok, Sem.run_pure]
  congr 1
  simp only [World.freeze, Nat.one_ne_zero, if_false]
  congr 1
  apply Array.ext_getElem?
  intro i
  rw [Array.getElem?_modify]
  by_cases hi : w.heap.size = i
  · subst hi; simp
  · rw [if_neg hi, Array.getElem?_push, Array.getElem?_push, if_neg (fun h => hi h.symm), if_neg (fun h => hi h.symm)]

theorem isU8_int {x : AV} (h : isU8 x) : ∃ n, x = .int .u8 n := by
  unfold isU8 at h
  split at h
  · exact ⟨_, rfl⟩
  · cases h
theorem convA_sound (hΓ : GOk P E.Γ) (r : Rel s a X) {S D : Nat} {x : AV} {cx : Value} (hx : Rep X false x cx) :
    (convA E s S D x).sat fun v s' => ∃ cv Y, (convert S D cx).run P X.w = .ok cv Y.w ∧ Rep Y false v cv ∧ Rel s' a Y ∧ Fr X Y := by
  unfold convA
  split
  · rename_i sd dd hs hd
    obtain ⟨si, ⟨ks⟩, hsd⟩ := tdOf_ok hΓ hs
    obtain ⟨di, ⟨kd⟩, hdd⟩ := tdOf_ok hΓ hd
    split
    · rename_i k kk n
      have hk : kd.d = .int k := dm_int (hdd ▸ kd.dm)
      cases hx
      refine ⟨_, X, ?_, .int .., r, Fr.refl X⟩
      simp only [convert, Sem.run_bind, ks.run_und, kd.run_und, Result.andThen_ok, hk]
      cases ks.d <;> simp [Conv.intToInt]
    · rename_i b
      have hk : kd.d = .string := dm_str (hdd ▸ kd.dm)
      cases hx
      refine ⟨_, X, ?_, .str .., r, Fr.refl X⟩
      simp only [convert, Sem.run_bind, ks.run_und, kd.run_und, Result.andThen_ok, hk]
      cases ks.d <;> simp
    · rename_i tag n f
      split
      · rename_i e
        split
        · rename_i he
          obtain ⟨ei, ⟨ke⟩, hee⟩ := tdOf_ok hΓ he
          intro hu8
          have hk : kd.d = .string := dm_str (hdd ▸ kd.dm)
          have hks : ks.d = .slice e := dm_slice (hsd ▸ ks.dm)
          have hke : ke.d = .int .u8 := dm_int (hee ▸ ke.dm)
          have hu := ks.und; rw [hks] at hu
          have hue := ke.und; rw [hke] at hue
          have hud := kd.und; rw [hk] at hud
          cases hx with
          | snil f A ht hn =>
            exact ⟨_, X, run_convert_bytes_empty X.w S e hu hue A D hud, .str false [], r, Fr.refl X⟩
          | sl b o cap sz g hz hc hr hg ha ht =>
            let xs : List Int := (List.range n).map fun i => match f i with | .int _ m => m | _ => 0
            have hcell : ∀ i, i < n → X.w.cell? ⟨b, o + i, none⟩ = some (.int .u8 (xs.getD i 0)) := by
              intro i hi
              obtain ⟨m, hm⟩ := isU8_int (hu8 i hi)
              have hri := hr i hi
              rw [hm] at hri
              simp only [AV.cells] at hri
              have hgi := hg i hi
              obtain ⟨v, h1, h2⟩ := hri.get (i := 0) (a := .int .u8 m) rfl
              cases h2
              have hsz : sz = 1 := by rw [← hgi, ← hri.length]; rfl
              have := (ha i hi 0 _ h1).1
              rw [hsz] at this
              have hx : xs.getD i 0 = m := by
                simp only [xs, List.getD_eq_getElem?_getD, List.getElem?_map, List.getElem?_range hi, Option.map_some, Option.getD_some, hm]
              rw [hx]
              simpa using this
            refine ⟨_, X, run_convert_bytes_arg X.w S e hu hue b o n cap xs (by simp [xs]) hcell D hud, ?_, r, Fr.refl X⟩
            have : strOfNums xs = ⟨((List.range n).map fun i => byteOfA (f i)).toArray⟩ := by
              apply ByteArray.ext
              apply Array.ext'
              rw [strOfNums_data]
              simp only [xs, List.map_map]
              apply List.map_congr_left
              intro i hi
              obtain ⟨m, hm⟩ := isU8_int (hu8 i (List.mem_range.1 hi))
              simp [hm, byteOfA]
            rw [this]
            exact .str ..
        · trivial
      · trivial
    · rename_i i lo n sz cp
      split
      · rename_i e T' sz' m f hp hcs
        split
        · rename_i he
          obtain ⟨ei, ⟨ke⟩, hee⟩ := tdOf_ok hΓ he
          rintro ⟨rfl, rfl, hle, hu8⟩
          have hk : kd.d = .string := dm_str (hdd ▸ kd.dm)
          have hks : ks.d = .slice e := dm_slice (hsd ▸ ks.dm)
          have hke : ke.d = .int .u8 := dm_int (hee ▸ ke.dm)
          have hu := ks.und; rw [hks] at hu
          have hue := ke.und; rw [hke] at hue
          have hud := kd.und; rw [hk] at hud
          cases hx with
          | hs0 _ _ _ _ _ _ => exact ⟨_, X, run_convert_bytes_empty X.w S e hu hue none D hud, .str false [], r, Fr.refl X⟩
          | hs _ _ _ _ cap o hb hlt hz hn hc ho hbs =>
          rename_i b
          obtain ⟨vs, fr, hh, hfr, _, hmn, hvl, hr⟩ := r.blk hcs hb
          let xs : List Int := (List.range n).map fun j => match f (lo + j) with | .int _ m => m | _ => 0
          have hcell : ∀ j, j < n → X.w.cell? ⟨b, o + j, none⟩ = some (.int .u8 (xs.getD j 0)) := by
            intro j hj
            obtain ⟨q, hq⟩ := isU8_int (hu8 j hj)
            have hrj := hr (lo + j) (by omega)
            rw [hq] at hrj
            obtain ⟨v, h1, h2⟩ := hrj.get (i := 0) (a := .int .u8 q) rfl
            cases h2
            have ho' : o = lo * 1 := ho.resolve_left (by omega)
            rw [List.getElem?_take, if_pos (by omega), List.getElem?_drop] at h1
            have hx : xs.getD j 0 = q := by
              simp only [xs, List.getD_eq_getElem?_getD, List.getElem?_map, List.getElem?_range hj, Option.map_some, Option.getD_some, hq]
            rw [hx, cell_eq hh, List.getElem?_toArray, ho']
            simpa using h1
          refine ⟨_, X, run_convert_bytes_arg X.w S e hu hue b o n cap xs (by simp [xs]) hcell D hud, ?_, r, Fr.refl X⟩
          have : strOfNums xs = ⟨((List.range n).map fun j => byteOfA (f (lo + j))).toArray⟩ := by
            apply ByteArray.ext
            apply Array.ext'
            rw [strOfNums_data]
            simp only [xs, List.map_map]
            apply List.map_congr_left
            intro j hj
            obtain ⟨q, hq⟩ := isU8_int (hu8 j (List.mem_range.1 hj))
            simp [hq, byteOfA]
          rw [this]
          exact .str ..
        · trivial
      · trivial
    · rename_i e b
      split
      · rename_i he
        obtain ⟨ei, ⟨ke⟩, hee⟩ := tdOf_ok hΓ he
        have hkd : kd.d = .slice e := dm_slice (hdd ▸ kd.dm)
        have hke : ke.d = .int .u8 := dm_int (hee ▸ ke.dm)
        cases hx
        obtain ⟨cap, nd, hcap, hrun⟩ := run_strToBytes (P := P) e b X.w
        have hrun' : (convert S D (.string ⟨b.toArray⟩)).run P X.w = .ok (.slice (some ⟨X.w.heap.size, 0, none⟩) b.length cap) { X.w with drawn := nd, heap := X.w.heap.push (.cells (byteVals b cap).toArray e (cap, cap + 1)) } := by
          simp only [convert, Sem.run_bind, ks.run_und, kd.run_und, Result.andThen_ok, hkd]
          cases ks.d <;> (simp only [Sem.run_bind, ke.run_und, Result.andThen_ok, hke]; exact hrun)
        split
        rotate_left
        · let X1 : Cx := X.new s.nx (.cells (byteVals b cap).toArray e (cap, cap + 1))
          let Y : Cx := { X1 with w := { X1.w with drawn := nd } }
          have hsm : Same X1 Y := ⟨rfl, rfl, rfl, Nat.le_refl _, fun _ _ => rfl, fun _ _ => rfl, fun _ _ => rfl, rfl, rfl, rfl, rfl⟩
          have hlen : (byteVals b cap).length = cap := by simp [byteVals]; omega
          have hbs : X1.bs X.w.heap.size = cap := (upd_same ..).trans (by simp [Obj.cellN, hlen])
          refine ⟨_, Y, hrun', ?_, ?_, (X.new_fr _ _ r.mu_none r.mu_lt).trans hsm.fr⟩
          · refine .hs 0 b.length 1 _ cap 0 (upd_same ..) (by show _ < (X.w.heap.push _).size; simp) (by omega) hcap (fun c hc => by cases hc) (.inr (by simp)) ?_
            show (0 + cap) * 1 ≤ X1.bs X.w.heap.size
            rw [hbs]; omega
          · refine hsm.rel (r.new _ _ ⟨byteVals b cap, _, push_eq, .inr (by simp [hlen]), by omega, by omega, by rw [hlen]; exact hbs.symm, fun j hj => ?_⟩)
            have hd : ((byteVals b cap).drop (j * 1)).take 1 = [.int .u8 ((b.getD j 0).toNat : Int)] := by
              apply List.ext_getElem?
              intro q
              rw [List.getElem?_take]
              by_cases hq : q < 1
              · have hq0 : q = 0 := by omega
                subst hq0
                rw [if_pos hq, List.getElem?_drop]
                simp only [byteVals, Nat.mul_one, Nat.add_zero]
                rw [List.getElem?_append_left (by simpa using hj)]
                simp [List.getD_eq_getElem?_getD, hj, byteV]
              · rw [if_neg hq, List.getElem?_eq_none (by simp; omega)]
            rw [hd]
            exact .cons (.int ..) .nil
        let cells : List Value := byteVals b cap
        let Y0 : Cx := X.row (.cells cells.toArray e (cap, cap + 1))
        let Y : Cx := { Y0 with w := { Y0.w with drawn := nd } }
        have hY : Same X Y := by
          have h := Same.row X (.cells cells.toArray e (cap, cap + 1))
          exact ⟨h.os, h.tape, h.output, h.size, h.blk, h.L, h.own, h.bs, h.mu, h.tau, h.kappa⟩
        refine ⟨.slice (some ⟨X.w.heap.size, 0, none⟩) b.length cap, Y, hrun', ?_, hY.rel r, hY.fr⟩
        · refine .sl X.w.heap.size 0 cap 1 (fun i => [.int .u8 (b.getD i 0).toNat]) (by omega) hcap (fun i hi => RepL.one (.int ..)) (fun _ _ => rfl) ?_ trivial
          intro i hi j v hv
          have hj : j = 0 := by
            have := (List.getElem?_eq_some_iff.1 hv).1
            simp at this; exact this
          subst hj
          simp only [List.getElem?_cons_zero, Option.some.injEq] at hv
          subst hv
          have hat : Y0.at_ X.w.heap.size (0 + i * 1 + 0) (.int .u8 (b.getD i 0).toNat) := by
            refine at_row X ?_
            simp only [cells, byteVals, Nat.zero_add, Nat.mul_one, Nat.add_zero, List.getElem?_toArray]
            rw [List.getElem?_append_left (by simpa using hi)]
            simp [List.getD_eq_getElem?_getD, hi, byteV]
          exact hat
      · trivial
    · trivial
  · trivial

/-! ### Lengths, least and greatest -/
theorem minA_sound {xs : List AV} {vs : List Value} (h : RepL X false xs vs) : (minA s xs).sat fun v s' => s' = s ∧ ∃ cv, (∀ q t, (Builtin.min_ q t vs.toArray).run P X.w = .ok cv X.w) ∧ Rep X false v cv := by
  unfold minA
  split
  · cases h with | cons h1 h => cases h with | cons h2 h => cases h; cases h1; cases h2; exact ⟨rfl, _, fun q t => by simp [Builtin.min_, Builtin.min2], .int ..⟩
  · trivial
theorem maxA_sound {xs : List AV} {vs : List Value} (h : RepL X false xs vs) : (maxA s xs).sat fun v s' => s' = s ∧ ∃ cv, (∀ q t, (Builtin.max_ q t vs.toArray).run P X.w = .ok cv X.w) ∧ Rep X false v cv := by
  unfold maxA
  split
  · cases h with | cons h1 h => cases h with | cons h2 h => cases h; cases h1; cases h2; exact ⟨rfl, _, fun q t => by simp [Builtin.max_, Builtin.max2], .int ..⟩
  · trivial
theorem run_getObj_map {w : World} {b : Nat} {es : Array MapEntry} {c : Nat} (h : w.heap[b]? = some (.map es c)) : (getObj b).run P w = .ok (.map es c) w := by
  simp only [getObj, Go.Sem.run, h]
theorem lenA_sound (hΓ : GOk P E.Γ) (r : Rel s a X) {T : Nat} {x : AV} {cx : Value} {q : Array TypeId} (hq : q[0]? = some T) (hx : Rep X false x cx) :
    (lenA E s T x).sat fun v s' => s' = s ∧ ∃ cv, (∀ t, (Builtin.len_ q t #[cx]).run P X.w = .ok cv X.w) ∧ Rep X false v cv := by
  unfold lenA
  split
  · rename_i b h
    obtain ⟨ti, ⟨k⟩, hd⟩ := tdOf_ok hΓ h
    have hk : k.d = .string := dm_str (hd ▸ k.dm)
    cases hx
    exact ⟨rfl, _, fun t => by simp [Builtin.len_, hq, k.run_und, hk, goInt, ofBytes_data], .int ..⟩
  · rename_i e tag n f h
    obtain ⟨ti, ⟨k⟩, hd⟩ := tdOf_ok hΓ h
    have hk : k.d = .slice e := dm_slice (hd ▸ k.dm)
    cases hx <;> exact ⟨rfl, _, fun t => by simp [Builtin.len_, hq, k.run_und, hk, goInt], .int ..⟩
  · rename_i e i lo n sz cp h
    obtain ⟨ti, ⟨k⟩, hd⟩ := tdOf_ok hΓ h
    have hk : k.d = .slice e := dm_slice (hd ▸ k.dm)
    cases hx <;> exact ⟨rfl, _, fun t => by simp [Builtin.len_, hq, k.run_und, hk, goInt], .int ..⟩
  · rename_i n e h
    obtain ⟨ti, ⟨k⟩, hd⟩ := tdOf_ok hΓ h
    have hk : k.d = .array n e := dm_array (hd ▸ k.dm)
    refine ⟨rfl, _, fun t => ?_, .int ..⟩
    simp [Builtin.len_, hq, k.run_und, hk, goInt]
  · rename_i h
    obtain ⟨ti, ⟨k⟩, hd⟩ := tdOf_ok hΓ h
    have hk := dm_map (hd ▸ k.dm)
    cases hx
    exact ⟨rfl, _, fun t => by simp [Builtin.len_, hq, k.run_und, hk, goInt], .int ..⟩
  · rename_i i h
    obtain ⟨ti, ⟨k⟩, hd⟩ := tdOf_ok hΓ h
    have hk := dm_map (hd ▸ k.dm)
    split
    · rename_i es hes
      cases hx with | map hb =>
      obtain ⟨ces, clk, hh, h1, h2, h3⟩ := r.blk hes hb
      have hl : es.length = ces.length := by simpa using h1.length
      refine ⟨rfl, _, fun t => ?_, .int ..⟩
      simp [Builtin.len_, hq, k.run_und, hk, goInt, run_getObj_map hh, hl]
    · trivial
  · trivial

/-! ### Maps -/
theorem bytes_eq (a b : List UInt8) : (ByteArray.mk a.toArray == ByteArray.mk b.toArray) = (a == b) := by
  rw [beq_toListBytes]; simp
theorem keyEq_now {d : TypeDesc} {kd : TD} (hd : dmatch d kd = true) {p q : Bool} {x y : AV} {cx cy : Value} {b : Bool} (hx : Rep X p x cx) (hy : Rep X q y cy) (h : keyEq kd x y = some b) : Instr.sameNow d cx cy = some b ∧ (b = true → Instr.sameBits 10000 cy cx = true) := by
  unfold keyEq at h
  split at h
  · have := dm_int hd; subst this
    split at h
    · split at h
      · rename_i hk
        injection h with h
        simp only [decide_eq_true_eq] at hk; subst hk
        cases hx; cases hy
        refine ⟨by simp [Instr.sameNow, h], fun hb => ?_⟩
        subst h
        simp only [beq_iff_eq] at hb
        simp [Instr.sameBits, hb]
      · cases h
    · cases h
  · have := dm_str hd; subst this
    split at h
    · injection h with h
      cases hx; cases hy
      refine ⟨by simp only [Instr.sameNow, bytes_eq, h], fun hb => ?_⟩
      subst h
      simp only [beq_iff_eq] at hb
      simp [Instr.sameBits, hb, bytes_eq]
    · cases h
  · have := dm_bool hd; subst this
    split at h
    · injection h with h
      cases hx; cases hy
      refine ⟨by simp [Instr.sameNow, h], fun hb => ?_⟩
      subst h
      simp only [beq_iff_eq] at hb
      simp [Instr.sameBits, hb]
    · cases h
  · cases h
theorem run_check {t : Nat} {ti : TI} (k : TIOk P t ti) {p : Bool} {x : AV} {cx : Value} (hx : Rep X p x cx) (h : isKeyA ti.d x = true) (w : World) (e : Bool) : (Instr.checkKey e 10000 t cx).run P w = .ok () w := by
  show (Instr.checkKey e (9999 + 1) t cx).run P w = .ok () w
  unfold Instr.checkKey
  simp only [Sem.run_bind, k.run_und, Result.andThen_ok]
  have hd := k.dm
  unfold isKeyA at h
  split at h
  · rename_i kq _ _ h1; rw [show k.d = .int kq from dm_int (h1 ▸ hd)]; cases hx; rfl
  · rename_i _ h1; rw [show k.d = .string from dm_str (h1 ▸ hd)]; cases hx; rfl
  · rename_i _ h1; rw [show k.d = .bool from dm_bool (h1 ▸ hd)]; cases hx; rfl
  · cases h
theorem findA_sound {d : TypeDesc} {kd : TD} (hd : dmatch d kd = true) {key zero : AV} {ck : Value} (hk : Rep X false key ck) : ∀ {es : List (AV × AV)} {ces : List MapEntry} (i : Nat) {v : AV} {b : Bool},
    RepL X false (es.map (·.1)) (ces.map (·.key)) → RepL X false (es.map (·.2)) (ces.map (·.val)) → findA kd key zero es = some (v, b) →
    (b = false ∧ v = zero ∧ Instr.findNow d ck ces i = some none) ∨ (b = true ∧ ∃ j cv, Instr.findNow d ck ces i = some (some (j, cv)) ∧ Rep X false v cv)
  | [], [], i, v, b, h1, h2, h => by
    simp only [findA, Option.some.injEq, Prod.mk.injEq] at h
    obtain ⟨rfl, rfl⟩ := h
    exact .inl ⟨rfl, rfl, rfl⟩
  | [], _ :: _, i, v, b, h1, h2, h => by cases h1
  | _ :: _, [], i, v, b, h1, h2, h => by cases h1
  | (k, w) :: es, c :: ces, i, v, b, h1, h2, h => by
    simp only [List.map_cons] at h1 h2
    cases h1 with | cons hk1 h1 =>
    cases h2 with | cons hv1 h2 =>
    simp only [findA] at h
    split at h
    · rename_i bb hb
      obtain ⟨hn, _⟩ := keyEq_now hd hk hk1 hb
      split at h
      · simp only [Option.some.injEq, Prod.mk.injEq] at h
        obtain ⟨rfl, rfl⟩ := h
        exact .inr ⟨rfl, i, _, by simp only [Instr.findNow, hn], hv1⟩
      · rcases findA_sound hd hk (i + 1) h1 h2 h with ⟨e1, e2, e3⟩ | ⟨e1, j, cv, e2, e3⟩
        · exact .inl ⟨e1, e2, by simp only [Instr.findNow, hn, e3]⟩
        · exact .inr ⟨e1, j, cv, by simp only [Instr.findNow, hn, e2], e3⟩
    · cases h
theorem run_findKey_now {t : Nat} {d : TypeDesc} (hu : P.underlying t = some d) {ck : Value} {l : List MapEntry} {r : Option (Nat × Value)} (h : Instr.findNow d ck l 0 = some r) (w : World) : (Instr.findKey t ck l).run P w = .ok r w := by
  simp [Instr.findKey, run_underlying hu, h]
theorem lookupA_sound (hΓ : GOk P E.Γ) (r : Rel s a X) {T : Nat} {x key : AV} {cx ck : Value} {ok : Bool} (hx : Rep X false x cx) (hk : Rep X false key ck) :
    (lookupA E s T x key ok).sat fun v s' => s' = s ∧ ∃ cv, (Instr.lookup T cx ck ok).run P X.w = .ok cv X.w ∧ Rep X false v cv := by
  unfold lookupA
  split
  · trivial
  rename_i ti hti
  obtain ⟨k⟩ := hΓ _ _ hti
  split
  · rename_i kt e hd
    split
    · rename_i te kd hte hkd
      obtain ⟨ke⟩ := hΓ _ _ hte
      obtain ⟨tk, ⟨kk⟩, hkk⟩ := tdOf_ok hΓ hkd
      split
      · trivial
      rename_i hkey
      split
      · rename_i i
        split
        · rename_i es hes
          cases hx with | map hb =>
          rename_i bm
          obtain ⟨ces, clk, hh, h1, h2, h3, h4⟩ := r.blk hes hb
          have hde : k.d = .map kt e := dm_map (hd ▸ k.dm)
          have hck := fun w e' => run_check (P := P) kk hk (by rw [hkk]; exact hkey) w e'
          have main : ∀ v b, findA kd key te.zero es = some (v, b) → ∃ cv, Rep X false v cv ∧ (Instr.lookup T (.map (some bm)) ck ok).run P X.w = .ok (if ok then .tuple #[cv, .bool b] else cv) X.w := by
            intro v b hf
            rcases findA_sound (kk.dm) hk 0 h1 h2 (hkk ▸ hf) with ⟨rfl, rfl, e3⟩ | ⟨rfl, j, cv, e2, e3⟩
            · refine ⟨ke.zv, vOk_rep X false ke.zok, ?_⟩
              simp [Instr.lookup, k.run_und, hde, run_getObj_map hh, hck, run_findKey_now kk.und e3, ke.run_zero]
            · refine ⟨cv, e3, ?_⟩
              simp [Instr.lookup, k.run_und, hde, run_getObj_map hh, hck, run_findKey_now kk.und e2]
          split
          · split
            · rename_i v b hf
              obtain ⟨cv, h5, h6⟩ := main v b hf
              split
              · exact ⟨rfl, _, h6, .tup (vs := [_, _]) (.cons h5 (.cons (.bool ..) .nil))⟩
              · exact ⟨rfl, _, h6, h5⟩
            · trivial
          · split
            · intro hC
              obtain ⟨cv, h5, h6⟩ := main _ _ (tabOk_eq hC)
              exact ⟨rfl, _, h6, .tup (vs := [_, _]) (.cons h5 (.cons (.bool ..) .nil))⟩
            · intro hC
              obtain ⟨cv, h5, h6⟩ := main _ _ (tabOk_eq hC)
              exact ⟨rfl, _, h6, h5⟩
        · trivial
      · trivial
    · trivial
  · trivial
def newE (ck cv : Value) (clk : Nat) : MapEntry := { key := ck, val := cv, born := clk }
def reE (ck cv : Value) (e : MapEntry) : MapEntry := { e with key := ck, val := cv }
theorem putA_sound {d : TypeDesc} {kd : TD} (hd : dmatch d kd = true) {key val : AV} {ck cv : Value} (hk : Rep X false key ck) (hv : Rep X false val cv) (clk : Nat) : ∀ {es : List (AV × AV)} {ces : List MapEntry} (i : Nat) {l : List (AV × AV)},
    RepL X false (es.map (·.1)) (ces.map (·.key)) → RepL X false (es.map (·.2)) (ces.map (·.val)) → putA kd key val es = some l →
    (Instr.findNow d ck ces i = some none ∧ RepL X false (l.map (·.1)) ((ces ++ [newE ck cv clk]).map (·.key)) ∧ RepL X false (l.map (·.2)) ((ces ++ [newE ck cv clk]).map (·.val))) ∨
    (∃ j c cv', Instr.findNow d ck ces i = some (some (i + j, cv')) ∧ ces[j]? = some c ∧ Instr.sameBits 10000 c.key ck = true ∧
      RepL X false (l.map (·.1)) ((ces.modify j (reE ck cv)).map (·.key)) ∧ RepL X false (l.map (·.2)) ((ces.modify j (reE ck cv)).map (·.val)))
  | [], [], i, l, h1, h2, h => by
    simp only [putA, Option.some.injEq] at h; subst h
    exact .inl ⟨rfl, RepL.one hk, RepL.one hv⟩
  | [], _ :: _, i, l, h1, h2, h => by cases h1
  | _ :: _, [], i, l, h1, h2, h => by cases h1
  | (k, w) :: es, c :: ces, i, l, h1, h2, h => by
    simp only [List.map_cons] at h1 h2
    cases h1 with | cons hk1 h1 =>
    cases h2 with | cons hv1 h2 =>
    simp only [putA] at h
    split at h
    · rename_i bb hb
      obtain ⟨hn, hs⟩ := keyEq_now hd hk hk1 hb
      split at h
      · simp only [Option.some.injEq] at h; subst h
        exact .inr ⟨0, c, c.val, by simp only [Instr.findNow, hn, Nat.add_zero], rfl, hs rfl, .cons hk h1, .cons hv h2⟩
      · split at h
        · rename_i l' hl'
          simp only [Option.some.injEq] at h; subst h
          rcases putA_sound hd hk hv clk (i + 1) h1 h2 hl' with ⟨e1, e2, e3⟩ | ⟨j, c', cv', e1, e2, e3, e4, e5⟩
          · exact .inl ⟨by simp only [Instr.findNow, hn, e1], .cons hk1 e2, .cons hv1 e3⟩
          · exact .inr ⟨j + 1, c', cv', by simp only [Instr.findNow, hn, e1]; congr 3; omega, by simpa using e2, e3, .cons hk1 e4, .cons hv1 e5⟩
        · cases h
    · cases h
theorem run_setObj_map {w : World} {b : Nat} {es : Array MapEntry} {c : Nat} (h : w.heap[b]? = some (.map es c)) (o : Obj) : (setObj b o).run P w = .ok () { w with heap := w.heap.setIfInBounds b o } := by
  simp only [setObj, Go.Sem.run, h]
theorem rangeA_sound (hΓ : GOk P E.Γ) (r : Rel s a X) {T : Nat} {x : AV} {cx : Value} (hx : Rep X false x cx) :
    (rangeA E s T x).sat fun v s' => ∃ cv Y, (Instr.range T cx).run P X.w = .ok cv Y.w ∧ Rep Y false v cv ∧ Rel s' a Y ∧ Fr X Y := by
  unfold rangeA
  split
  · rename_i b h
    obtain ⟨ti, ⟨k⟩, hd⟩ := tdOf_ok hΓ h
    have hk : k.d = .string := dm_str (hd ▸ k.dm)
    cases hx
    refine ⟨_, X.new s.nx (.stringIter ⟨b.toArray⟩ 0), ?_, .ptr 0 (upd_same ..), r.new _ _ push_eq, X.new_fr _ _ r.mu_none r.mu_lt⟩
    simp [Instr.range, k.run_und, hk, Cx.new]
  · trivial
theorem nextA_sound (T : TypeId) (r : Rel s a X) {x : AV} {cx : Value} (hx : Rep X false x cx) :
    (nextA s x).sat fun v s' => ∃ cv Y, (Instr.next cx true T).run P X.w = .ok cv Y.w ∧ Rep Y false v cv ∧ Rel s' a Y ∧ Fr X Y := by
  unfold nextA
  split
  · rename_i i off
    split
    · rename_i b p h0 hh
      cases hx with | ptr _ hb =>
      rename_i bb
      obtain rfl : off = 0 := Nat.eq_of_beq_eq_true h0
      have hB : X.w.heap[bb]? = some (.stringIter ⟨b.toArray⟩ p) := r.blk hh hb
      have hlt := blk_lt hB
      have hg : (getObj bb).run P X.w = .ok (.stringIter ⟨b.toArray⟩ p) X.w := by simp only [getObj, Go.Sem.run, hB]
      have hs : ∀ o, (setObj bb o).run P X.w = .ok () { X.w with heap := X.w.heap.setIfInBounds bb o } := fun o => by simp only [setObj, Go.Sem.run, hB]
      have hsz : (ByteArray.mk b.toArray).size = b.length := by simp [ByteArray.size]
      have hset : Rel (s.setB i (.siter b (stepI b p))) a (X.set bb (.stringIter ⟨b.toArray⟩ (stepI b p))) := r.setB hh hb _ (set_eq hlt)
      have hfr : Fr X (X.set bb (.stringIter ⟨b.toArray⟩ (stepI b p))) := X.set_fr bb _ ⟨i, (r.ow i _ bb hh hb).1⟩ (r.ow i _ bb hh hb).2
      obtain ⟨c, wd, hdc⟩ : ∃ c wd, Utf8.decode ⟨b.toArray⟩ p = (c, wd) := ⟨_, _, rfl⟩
      have hdc1 : (Utf8.decode ⟨b.toArray⟩ p).1 = c := by rw [hdc]
      cases hl : Nat.blt p b.length with
      | true =>
        have hl' : p < b.length := by simpa [Nat.blt_eq] using hl
        have e : stepI b p = p + wd := by unfold stepI; rw [hl, hdc]
        rw [e] at hset hfr ⊢
        rw [hdc1]
        refine ⟨_, X.set bb (.stringIter ⟨b.toArray⟩ (p + wd)), ?_, .nxtT p c, hset, hfr⟩
        simp [Instr.next, hg, hsz, hl', hdc, hs, goInt, Cx.set]
      | false =>
        have hl' : ¬ p < b.length := fun h => by
          have h2 : Nat.blt p b.length = true := by simpa [Nat.blt_eq] using h
          rw [hl] at h2; cases h2
        have e : stepI b p = p := by unfold stepI; rw [hl]
        have hX : X.set bb (.stringIter ⟨b.toArray⟩ p) = X := by
          have : X.w.heap.setIfInBounds bb (.stringIter ⟨b.toArray⟩ p) = X.w.heap := by
            refine Array.ext_getElem? fun k => ?_
            rw [Array.getElem?_setIfInBounds]
            split
            · rename_i h; subst h; rw [hB]
            · rfl
          unfold Cx.set
          rw [this]
        rw [e, hX] at hset
        rw [e]
        refine ⟨.tuple #[.bool false], X, ?_, .nxtF p _, hset, Fr.refl X⟩
        simp [Instr.next, hg, hsz, hl']
    · trivial
  · trivial
theorem mapSetA_sound (hΓ : GOk P E.Γ) (r : Rel s a X) {T : Nat} {x key val : AV} {cx ck cv : Value} (hx : Rep X false x cx) (hk : Rep X false key ck) (hv : Rep X false val cv) :
    (mapSetA E s T x key val).sat fun u s' => u = .tup [] ∧ ∃ Y, (Instr.mapUpdate T cx ck cv).run P X.w = .ok () Y.w ∧ Rel s' a Y ∧ Fr X Y := by
  unfold mapSetA
  split
  · trivial
  rename_i ti hti
  obtain ⟨k⟩ := hΓ _ _ hti
  split
  · rename_i kt e hd
    split
    · rename_i kd hkd
      obtain ⟨tk, ⟨kk⟩, hkk⟩ := tdOf_ok hΓ hkd
      split
      · trivial
      rename_i hkey
      split
      · rename_i i
        split
        · rename_i es hes
          cases hx with | map hb =>
          rename_i b
          obtain ⟨ces, clk, hh, h1, h2, h3, h4⟩ := r.blk hes hb
          have hde : k.d = .map kt e := dm_map (hd ▸ k.dm)
          have hck := fun w e' => run_check (P := P) kk hk (by rw [hkk]; exact hkey) w e'
          have put : ∀ l, putA kd key val es = some l → ∃ Y, (Instr.mapUpdate T (.map (some b)) ck cv).run P X.w = .ok () Y.w ∧ Rel (s.setB i (.map l)) a Y ∧ Fr X Y := by
            intro l hl
            have hL0 := (r.ow _ _ _ hes hb).2
            rcases putA_sound kk.dm hk hv clk 0 h1 h2 (hkk ▸ hl) with ⟨e1, e2, e3⟩ | ⟨j, c, cv', e1, e2, e3, e4, e5⟩
            · refine ⟨X.set b (.map (ces ++ [newE ck cv clk]).toArray (clk + 1)), ?_, ?_, X.set_fr b _ ⟨_, (r.ow _ _ _ hes hb).1⟩ (r.ow _ _ _ hes hb).2⟩
              · simp [Instr.mapUpdate, k.run_und, hde, run_getObj_map hh, hck, run_findKey_now kk.und e1, run_setObj_map hh, Cx.set]
                rfl
              · refine r.setB hes hb _ ⟨ces ++ [newE ck cv clk], clk + 1, set_eq (blk_lt hh), e2.mono (X.set_ext b _ hL0), e3.mono (X.set_ext b _ hL0), ?_, ?_⟩
                · rw [List.map_append, List.pairwise_append]
                  refine ⟨h3, by simp, ?_⟩
                  intro x hx y hy
                  simp only [List.map_cons, List.map_nil, List.mem_singleton] at hy
                  obtain ⟨c, hc, rfl⟩ := List.mem_map.1 hx
                  subst hy
                  exact h4 c hc
                · intro c hc
                  rcases List.mem_append.1 hc with hc | hc
                  · exact Nat.lt_succ_of_lt (h4 c hc)
                  · simp only [List.mem_singleton] at hc; subst hc; exact Nat.lt_succ_self _
            · refine ⟨X.set b (.map (ces.modify j (reE ck cv)).toArray clk), ?_, ?_, X.set_fr b _ ⟨_, (r.ow _ _ _ hes hb).1⟩ (r.ow _ _ _ hes hb).2⟩
              · have hj : ces.toArray[0 + j]? = some c := by simpa using e2
                have hks : (Instr.keyThatStays c.key ck).run P X.w = .ok ck X.w := by simp [Instr.keyThatStays, e3]
                have hmod : Array.modify ces.toArray (0 + j) (reE ck cv) = (ces.modify j (reE ck cv)).toArray := by
                  rw [Nat.zero_add]; simp
                simp only [Instr.mapUpdate, Sem.run_bind, k.run_und, Result.andThen_ok, hde, run_getObj_map hh, hck, List.toList_toArray, run_findKey_now kk.und e1, hj, Option.map_some, Option.getD_some, hks, run_setObj_map hh, Cx.set]
                rw [← hmod]
                rfl
              · have hborn : ((ces.modify j (reE ck cv)).map (·.born)) = ces.map (·.born) := by
                  apply List.ext_getElem?
                  intro n
                  simp only [List.getElem?_map, List.getElem?_modify]
                  cases ces[n]? <;> simp
                  split <;> rfl
                refine r.setB hes hb _ ⟨_, clk, set_eq (blk_lt hh), e4.mono (X.set_ext b _ hL0), e5.mono (X.set_ext b _ hL0), by rw [hborn]; exact h3, ?_⟩
                intro c' hc'
                have : c'.born ∈ (ces.modify j (reE ck cv)).map (·.born) := List.mem_map.2 ⟨c', hc', rfl⟩
                rw [hborn] at this
                obtain ⟨c'', h5, h6⟩ := List.mem_map.1 this
                rw [← h6]; exact h4 c'' h5
          split
          · split
            · rename_i l hl
              exact ⟨rfl, put l hl⟩
            · trivial
          · intro hC
            cases hp : putA kd key val es with
            | none => rw [hp] at hC; cases hC
            | some l => exact ⟨rfl, put l hp⟩
        · trivial
      · trivial
    · trivial
  · trivial
end
end Go.Ab

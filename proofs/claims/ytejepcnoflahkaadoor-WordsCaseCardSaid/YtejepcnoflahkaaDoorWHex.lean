/- words: Hex. -/
import Derived.Test.YtejepcnoflahkaaDoorWBack0
import Derived.Test.YtejepcnoflahkaaDoorWWalk8
namespace Go.Proofs.YtejepcnoflahkaaDoor
open Go Go.Ab
set_option linter.unusedVariables false
set_option linter.unusedSimpArgs false
set_option maxRecDepth 100000
set_option maxHeartbeats 8000000

def hexL (u : List UInt8) : List UInt8 := u.flatMap fun b => [hexD (b.toNat / 16), hexD (b.toNat % 16)]
def hexP (s : List UInt8) (i : Nat) : List UInt8 := 120 :: 39 :: hexL (s.take i)
theorem hexL_len : ∀ u : List UInt8, (hexL u).length = 2 * u.length
  | [] => rfl
  | b :: l => by
    show (hexD (b.toNat / 16) :: hexD (b.toNat % 16) :: hexL l).length = _
    simp only [List.length_cons, hexL_len l]
    omega
theorem hexP_len (s : List UInt8) (i : Nat) (h : i ≤ s.length) : (hexP s i).length = 2 * i + 2 := by
  unfold hexP
  rw [List.length_cons, List.length_cons, hexL_len, List.length_take]
  omega
theorem hexP_succ (s : List UInt8) (i : Nat) (h : i < s.length) : hexP s (i + 1) = (hexP s i ++ [hexD ((s.getD i 0).toNat / 16)]) ++ [hexD ((s.getD i 0).toNat % 16)] := by
  have e : s.take (i + 1) = s.take i ++ [s.getD i 0] := by
    rw [List.take_succ_eq_append_getElem h, List.getD_eq_getElem?_getD, List.getElem?_eq_getElem h]; rfl
  unfold hexP hexL
  rw [e, List.flatMap_append]
  simp
theorem hexP_all (s : List UInt8) : hexP s s.length ++ [39] = hexW s := by
  unfold hexP hexW hexL
  rw [List.take_length]
theorem hi_all : ∀ n : Fin 256, ((n.val : Nat) : Int).fdiv (2 ^ min (Int.toNat 4) IntKind.u8.bits) = ((n.val / 16 : Nat) : Int) := by decide +kernel
theorem lo_all : ∀ n : Fin 256, IntKind.u8.wrap ↑(BitVec.ofInt IntKind.u8.bits ((n.val : Nat) : Int) &&& BitVec.ofInt IntKind.u8.bits 15).toNat = ((n.val % 16 : Nat) : Int) := by decide +kernel
theorem hi_is (b : UInt8) : ((b.toNat : Nat) : Int).fdiv (2 ^ min (Int.toNat 4) IntKind.u8.bits) = ((b.toNat / 16 : Nat) : Int) := hi_all ⟨b.toNat, b.toNat_lt⟩
theorem lo_is (b : UInt8) : IntKind.u8.wrap ↑(BitVec.ofInt IntKind.u8.bits ((b.toNat : Nat) : Int) &&& BitVec.ofInt IntKind.u8.bits 15).toNat = ((b.toNat % 16 : Nat) : Int) := lo_all ⟨b.toNat, b.toNat_lt⟩
theorem hi_rng (b : UInt8) : 0 ≤ ((b.toNat : Nat) : Int).fdiv (2 ^ min (Int.toNat 4) IntKind.u8.bits) ∧ ((b.toNat : Nat) : Int).fdiv (2 ^ min (Int.toNat 4) IntKind.u8.bits) < (16 : Nat) := by
  rw [hi_is]
  have := b.toNat_lt
  omega
theorem lo_rng (b : UInt8) : 0 ≤ IntKind.u8.wrap ↑(BitVec.ofInt IntKind.u8.bits ((b.toNat : Nat) : Int) &&& BitVec.ofInt IntKind.u8.bits 15).toNat ∧ IntKind.u8.wrap ↑(BitVec.ofInt IntKind.u8.bits ((b.toNat : Nat) : Int) &&& BitVec.ofInt IntKind.u8.bits 15).toNat < (16 : Nat) := by
  rw [lo_is]
  exact ⟨by omega, by omega⟩
@[reducible] def d16L : List UInt8 := [48, 49, 50, 51, 52, 53, 54, 55, 56, 57, 97, 98, 99, 100, 101, 102]
@[reducible] def hiE (s : List UInt8) (i : Nat) : UInt8 := d16L.getD (((s.getD ((i : Int)).toNat 0).toNat : Int).fdiv (2 ^ min (Int.toNat 4) IntKind.u8.bits)).toNat 0
@[reducible] def loE (s : List UInt8) (i : Nat) : UInt8 := d16L.getD (IntKind.u8.wrap ↑(BitVec.ofInt IntKind.u8.bits ((s.getD ((i : Int)).toNat 0).toNat : Int) &&& BitVec.ofInt IntKind.u8.bits 15).toNat).toNat 0
theorem d16_is : ∀ n : Fin 16, d16L.getD n.val 0 = hexD n.val := by decide +kernel
theorem hiE_is (s : List UInt8) (i : Nat) : hiE s i = hexD ((s.getD i 0).toNat / 16) := by
  have := (s.getD i 0).toNat_lt
  unfold hiE
  rw [hi_is, Int.toNat_natCast, Int.toNat_natCast]
  exact d16_is ⟨(s.getD i 0).toNat / 16, by omega⟩
theorem loE_is (s : List UInt8) (i : Nat) : loE s i = hexD ((s.getD i 0).toNat % 16) := by
  unfold loE
  rw [lo_is, Int.toNat_natCast, Int.toNat_natCast]
  exact d16_is ⟨(s.getD i 0).toNat % 16, by omega⟩
theorem byte_of (b : UInt8) : UInt8.ofNat (((b.toNat : Nat) : Int)).toNat = b := by rw [Int.toNat_natCast, UInt8.ofNat_toNat]
def hexB' (s : List UInt8) (i : Nat) : List (Nat × Blk) := [(0, .tcells 44 [.ptr 0 0, .hs 2 0 (hexP s i).length 1 none]), (2, .arr 5 1 (hexP s i).length (strF (hexP s i)))]
set_option smartUnfolding false in
theorem pc_hexW (s : List UInt8) (hn : s.length ≤ 65536) : PC Tryd.prog GW 9 [.str s] (.str (hexW s)) := by
  refine pc_fin EK_ok mixed (show Tryd.prog.funcs[9]? = some Tryd.f9 from rfl) ?_
  refine BR.mk (fun h => ?_) (fun h => ?_)
  · exact ⟨rfl, by decide⟩
  refine loop_famM EK_ok mixed (σ := Nat) (fun i => i ≤ s.length) (fun i => s.length - i) 0 (Nat.zero_le _) 2 3 0 [(2, 1)] [0, 3, 7] (fun i => [(8, .int .i64 i)]) [] (fun i => hexB' s i) (fun _ => []) ?_ ?_ ?_ ?_ ?_ ?_
  · rfl
  · rfl
  · rfl
  · rfl
  · refine Wk.mk' rfl rfl trivial ?_ ?_
    · repeat' (refine BR.mk (fun _ => ?_) (fun _ => ?_))
      any_goals first | exact trivial | exact Wv.any _ | (refine Wv.int ?_; with_reducible rfl) | (refine Wv.str ?_; with_reducible rfl) | (refine Wv.bool ?_; with_reducible rfl) | refine Wv.int ?_ | refine Wv.str ?_ | refine Wv.bool ?_ | exact Wv.same rfl
      all_goals rfl
    · refine BR.mk (fun _ => ?_) (fun _ => BR.mk (fun _ => ?_) fun _ => trivial)
      · exact ⟨Nat.le_of_ble_eq_true rfl, .inl ⟨rfl, _, rfl, rfl, .cons (.same rfl) (.cons (.moved rfl rfl rfl rfl) .nil)⟩⟩
      · exact ⟨Nat.le_of_ble_eq_true rfl, .inl ⟨rfl, _, rfl, rfl, rfl, Nat.le_refl _, fun j hj => wv_byte (isB _) rfl⟩⟩
  · rintro i hi
    have hP := hexP_len s i hi
    by_cases hil : i < s.length
    · have k1 : decide ((i : Int) < (s.length : Int)) = true := decide_eq_true (by omega)
      repeat' (refine BR.mk (fun h => ?_) (fun h => ?_) <;> first | with_reducible exact Bool.noConfusion h | with_reducible exact Bool.noConfusion (k1.symm.trans h) | skip)
      · exact ⟨by omega, by omega⟩
      · decide
      · exact hi_rng _
      · exact ⟨rfl, by rw [hP]; omega, isB _, fun j _ => isB _⟩
      · exact ⟨by omega, by omega⟩
      · exact lo_rng _
      · exact ⟨rfl, by rw [hP]; omega, isB _, fun j hj => isB _⟩
      · have ln : (hexP s i).length + 1 + 1 = (hexP s (i + 1)).length := by rw [hP, hexP_len s (i + 1) hil]; omega
        have eo : txtA ((hexP s i).length + 1) (strF (txtA (hexP s i).length (strF (hexP s i)) ++ [UInt8.ofNat (((hiE s i).toNat : Nat) : Int).toNat])) ++ [UInt8.ofNat (((loE s i).toNat : Nat) : Int).toNat] = hexP s (i + 1) := by
          rw [txtA_str, byte_of, byte_of, hiE_is, loE_is, hexP_succ s i hil]
          have := txtA_str (hexP s i ++ [hexD ((s.getD i 0).toNat / 16)])
          rw [List.length_append, List.length_cons, List.length_nil] at this
          rw [this]
        refine Again.famM (i + 1) [(2, 4)] hil (by show s.length - (i + 1) < s.length - i; omega) rfl rfl rfl rfl trivial ?_ ?_
        · repeat' (refine BR.mk (fun _ => ?_) (fun _ => ?_))
          any_goals first | exact trivial | exact Wv.any _ | (refine Wv.int ?_; with_reducible rfl) | (refine Wv.str ?_; with_reducible rfl) | (refine Wv.bool ?_; with_reducible rfl) | refine Wv.int ?_ | refine Wv.str ?_ | refine Wv.bool ?_ | exact Wv.same rfl
          rw [wrap_id (by unfold i64; omega)]; rfl
        · refine BR.mk (fun _ => ?_) (fun _ => BR.mk (fun _ => ?_) fun _ => trivial)
          · exact ⟨Nat.le_of_ble_eq_true rfl, .inl ⟨rfl, _, rfl, rfl, .cons (.same rfl) (.cons (.moved rfl rfl rfl ln) .nil)⟩⟩
          · exact ⟨Nat.le_of_ble_eq_true rfl, .inl ⟨rfl, _, rfl, rfl, rfl, Nat.le_of_eq ln.symm, fun j hj => wv_byte' (isB _) (congrArg (fun t => strF t j) eo)⟩⟩
    · have k1 : decide ((i : Int) < (s.length : Int)) = false := decide_eq_false (by omega)
      obtain rfl : i = s.length := by omega
      repeat' (refine BR.mk (fun h => ?_) (fun h => ?_) <;> first | with_reducible exact Bool.noConfusion h | with_reducible exact Bool.noConfusion (k1.symm.trans h) | skip)
      · exact ⟨rfl, by rw [hP]; omega, by decide, fun j _ => isB _⟩
      · exact ⟨rfl, rfl, rfl, rfl, Nat.le_refl _, by rw [hP]; omega, fun j hj => isB _⟩
      · refine Fini.mk (congrArg AV.str ?_)
        refine (txtA_eq (n := (hexP s s.length).length + 1) (l := hexW s) (by rw [hP, hexW_len]) (fun j _ => congrArg (fun t => strF t j) ?_)).trans rfl
        rw [txtA_str]
        exact hexP_all s
def h_hexW : List AV → CR
  | [.str s] => .need (s.length ≤ 65536) (.str (hexW s))
  | _ => .no
theorem h_hexW_ok (xs : List AV) : CRok Tryd.prog GW 9 xs (h_hexW xs) := by
  unfold h_hexW
  split
  · rename_i s
    exact fun hn => pc_hexW s hn
  · trivial
noncomputable def EHX : Env := EK.add 9 h_hexW
theorem EHX_ok : EnvOk Tryd.prog EHX := Env.add_ok EK_ok (by kernel_rfl) h_hexW_ok

end Go.Proofs.YtejepcnoflahkaaDoor

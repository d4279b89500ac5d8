/- Part of the proof of a law of 04: an engine that runs a function over an abstract heap, and what the functions compute; own work. -/
import Derived.Test.YtiegjildepfciaaEng21
import Derived.Test.YtiegjildepfciaaD04
import Derived.Test.YtiegjildepfciaaProg
set_option linter.unusedVariables false
set_option linter.unusedSimpArgs false
set_option linter.unusedSectionVars false
namespace Go.Cz.S
open Go.Proofs
set_option maxRecDepth 100000
set_option linter.unusedVariables false
theorem law02_Twin_linked : Linked Try.prog ⟨8, [.leaf (.o (.sl))], [.leaf (.o (.sl))], law02_Twin⟩ := linked_of (fn := Try.f8) Try.func8 rfl (by kernel_rfl) [] [] [] [] allNil (by kernel_rfl) (by kernel_rfl) (by kernel_rfl) (fun t Q => by kernel_rfl)
theorem math_bits_Len32_linked : Linked Try.prog ⟨27, [.leaf (.o (.i .u32))], [.leaf (.o (.i .i64))], math_bits_Len32⟩ := linked_of (fn := Try.f27) Try.func27 rfl (by kernel_rfl) [] [] [] [(2, ⟨[(0, .leaf (.o (.i .u32))), (2, .leaf (.o (.i .i64)))], []⟩), (10, ⟨[(0, .leaf (.o (.i .u32))), (2, .leaf (.o (.i .i64)))], []⟩)] allNil (by kernel_rfl) (by kernel_rfl) (by kernel_rfl) (fun t Q => by kernel_rfl)
theorem math_bits_Len64_linked : Linked Try.prog ⟨28, [.leaf (.o (.i .u64))], [.leaf (.o (.i .i64))], math_bits_Len64⟩ := linked_of (fn := Try.f28) Try.func28 rfl (by kernel_rfl) [] [] [] [(2, ⟨[(0, .leaf (.o (.i .u64))), (2, .leaf (.o (.i .i64)))], []⟩), (10, ⟨[(0, .leaf (.o (.i .u64))), (2, .leaf (.o (.i .i64)))], []⟩), (18, ⟨[(0, .leaf (.o (.i .u64))), (2, .leaf (.o (.i .i64)))], []⟩)] allNil (by kernel_rfl) (by kernel_rfl) (by kernel_rfl) (fun t Q => by kernel_rfl)
theorem math_bits_Len_eq (math_bits_Len64 : (Int) → ((Int) → HProp) → HProp) : (fun (t : Int) (Q : (Int) → HProp) => interpF ⟨Try.prog, [⟨28, [.leaf (.o (.i .u64))], [.leaf (.o (.i .i64))], math_bits_Len64⟩], [], []⟩ Try.f25 [] [.leaf (.o (.i .u64))] [.leaf (.o (.i .i64))] t Q : (Int) → ((Int) → HProp) → HProp) =
fun (t : Int) (Q : Int → HProp) => math_bits_Len64 t Q
  := by kernel_rfl
theorem math_bits_Len_linked : Linked Try.prog ⟨25, [.leaf (.o (.i .u64))], [.leaf (.o (.i .i64))], math_bits_Len⟩ := linked_of (fn := Try.f25) Try.func25 rfl (by kernel_rfl) [⟨28, [.leaf (.o (.i .u64))], [.leaf (.o (.i .i64))], math_bits_Len64⟩] [] [] [] (allCons math_bits_Len64_linked allNil) (by kernel_rfl) (by kernel_rfl) (by kernel_rfl) (fun t Q => congrFun (congrFun (math_bits_Len_eq math_bits_Len64) t) Q)
theorem packed_width_eq (math_bits_Len : (Int) → ((Int) → HProp) → HProp) : (fun (t : Int) (Q : (Int) → HProp) => interpF ⟨Try.prog, [⟨25, [.leaf (.o (.i .u64))], [.leaf (.o (.i .i64))], math_bits_Len⟩], [], []⟩ Try.f22 [] [.leaf (.o (.i .i64))] [.leaf (.o (.i .i64))] t Q : (Int) → ((Int) → HProp) → HProp) =
fun (t : Int) (Q : Int → HProp) =>
  iteW (ltI t 0) (Q 33) (math_bits_Len (cnv IntKind.u64 t) fun (r : Int) => Q (minI r 33))
  := by kernel_rfl
theorem packed_width_linked : Linked Try.prog ⟨22, [.leaf (.o (.i .i64))], [.leaf (.o (.i .i64))], packed_width⟩ := linked_of (fn := Try.f22) Try.func22 rfl (by kernel_rfl) [⟨25, [.leaf (.o (.i .u64))], [.leaf (.o (.i .i64))], math_bits_Len⟩] [] [] [] (allCons math_bits_Len_linked allNil) (by kernel_rfl) (by kernel_rfl) (by kernel_rfl) (fun t Q => congrFun (congrFun (packed_width_eq math_bits_Len) t) Q)
theorem packed_Width_eq (packed_width : (Int) → ((Int) → HProp) → HProp) : (fun (t : Sl) (Q : (Int) → HProp) => interpF ⟨Try.prog, [⟨22, [.leaf (.o (.i .i64))], [.leaf (.o (.i .i64))], packed_width⟩], [], []⟩ Try.f11 [(8, ⟨[(3, .leaf (.o (.i .i64))), (8, .leaf (.o (.i .i64)))], []⟩)] [.leaf (.o (.sl))] [.leaf (.o (.i .i64))] t Q : (Sl) → ((Int) → HProp) → HProp) =
fun (t : Sl) (Q : Int → HProp) =>
  loopW (0, 0) fun (s : Int × Int) (k : Int × Int → HProp) =>
    iteW (ltI s.snd ↑t.len)
      (indexW s.snd t 1 fun (a : Addr) =>
        loadI IntKind.i64 a fun (x : Int) => packed_width x fun (r : Int) => k (maxI s.fst r, add IntKind.i64 s.snd 1))
      (Q s.fst)
  := by kernel_rfl
theorem packed_Width_linked : Linked Try.prog ⟨11, [.leaf (.o (.sl))], [.leaf (.o (.i .i64))], packed_Width⟩ := linked_of (fn := Try.f11) Try.func11 rfl (by kernel_rfl) [⟨22, [.leaf (.o (.i .i64))], [.leaf (.o (.i .i64))], packed_width⟩] [] [] [(8, ⟨[(3, .leaf (.o (.i .i64))), (8, .leaf (.o (.i .i64)))], []⟩)] (allCons packed_width_linked allNil) (by kernel_rfl) (by kernel_rfl) (by kernel_rfl) (fun t Q => congrFun (congrFun (packed_Width_eq packed_width) t) Q)
theorem packed_Pack_c1_linked : Linked Try.prog ⟨20, [.leaf (.o (.i .i64)), .leaf (.o .p), .leaf (.o .p), .leaf (.o .p)], [], packed_Pack_c1⟩ := linked_of (fn := Try.f20) Try.func20 rfl (by kernel_rfl) [] [] [] [(1, ⟨[], []⟩), (4, ⟨[(11, .leaf (.o (.b)))], []⟩)] allNil (by kernel_rfl) (by kernel_rfl) (by kernel_rfl) (fun t Q => by kernel_rfl)
theorem packed_Pack_eq (packed_Width : (Sl) → ((Int) → HProp) → HProp) (packed_Pack_c1 : (Int × (Option Addr) × (Option Addr) × (Option Addr)) → ((Unit) → HProp) → HProp) : (fun (t : Sl × Int) (Q : (ByteArray × Int) → HProp) => interpF ⟨Try.prog, [⟨11, [.leaf (.o (.sl))], [.leaf (.o (.i .i64))], packed_Width⟩, ⟨20, [.leaf (.o (.i .i64)), .leaf (.o .p), .leaf (.o .p), .leaf (.o .p)], [], packed_Pack_c1⟩], [6, 7, 8], []⟩ Try.f9 [(5, ⟨[(12, .leaf (.o (.b)))], []⟩), (27, ⟨[(32, .leaf (.o (.i .i64)))], []⟩)] [.leaf (.o (.sl)), .leaf (.o (.i .i64))] [.leaf (.o (.s)), .leaf (.o (.i .i64))] t Q : (Sl × Int) → ((ByteArray × Int) → HProp) → HProp) =
fun (t : Sl × Int) (Q : ByteArray × Int → HProp) =>
  withK
    (fun (t_1 : Bool) =>
      iteW t_1 (Q (ByteArray.mk #[], 2))
        (iteW (ltI 65536 ↑t.fst.len) (Q (ByteArray.mk #[], 3))
          (newW [Value.slice (Sl.mk none 0 0).a 0 0] fun (b : Nat) =>
            newW [Value.int IntKind.u64 0] fun (b_1 : Nat) =>
              newW [Value.int IntKind.i64 0] fun (b_2 : Nat) =>
                storeW (Addr.mk b_1 0 none) (Value.int IntKind.u64 0)
                  (storeW (Addr.mk b_2 0 none) (Value.int IntKind.i64 0)
                    (loopW 0 fun (s : Int) (k : Int → HProp) =>
                      iteW (ltI s ↑t.fst.len)
                        (indexW s t.fst 1 fun (a : Addr) =>
                          loadI IntKind.i64 a fun (x : Int) =>
                            loadI IntKind.u64 (Addr.mk b_1 0 none) fun (x_1 : Int) =>
                              loadI IntKind.i64 (Addr.mk b_2 0 none) fun (x_2 : Int) =>
                                mustW ((0 : Int) ≤ x_2)
                                  (storeW (Addr.mk b_1 0 none)
                                    (Value.int IntKind.u64
                                      (orI IntKind.u64 x_1 (shl IntKind.u64 (cnv IntKind.u64 x) x_2)))
                                    (loadI IntKind.i64 (Addr.mk b_2 0 none) fun (x : Int) =>
                                      storeW (Addr.mk b_2 0 none) (Value.int IntKind.i64 (add IntKind.i64 x t.snd))
                                        (packed_Pack_c1
                                          (8, some (Addr.mk b_2 0 none), some (Addr.mk b 0 none),
                                            some (Addr.mk b_1 0 none))
                                          fun (r : PUnit) => k (add IntKind.i64 s 1)))))
                        (packed_Pack_c1
                          (1, some (Addr.mk b_2 0 none), some (Addr.mk b 0 none), some (Addr.mk b_1 0 none))
                          fun (r : PUnit) =>
                          loadL (Addr.mk b 0 none) fun (x : Sl) => textW x fun (z : ByteArray) => Q (z, 0)))))))
    fun (k : Bool → HProp) =>
    iteW (ltI t.snd 0) (k true) (iteW (ltI 32 t.snd) (k true) (packed_Width t.fst fun (r : Int) => k (ltI t.snd r)))
  := by kernel_rfl
theorem packed_Pack_linked : Linked Try.prog ⟨9, [.leaf (.o (.sl)), .leaf (.o (.i .i64))], [.leaf (.o (.s)), .leaf (.o (.i .i64))], packed_Pack⟩ := linked_of (fn := Try.f9) Try.func9 rfl (by kernel_rfl) [⟨11, [.leaf (.o (.sl))], [.leaf (.o (.i .i64))], packed_Width⟩, ⟨20, [.leaf (.o (.i .i64)), .leaf (.o .p), .leaf (.o .p), .leaf (.o .p)], [], packed_Pack_c1⟩] [6, 7, 8] [] [(5, ⟨[(12, .leaf (.o (.b)))], []⟩), (27, ⟨[(32, .leaf (.o (.i .i64)))], []⟩)] (allCons packed_Width_linked (allCons packed_Pack_c1_linked allNil)) (by kernel_rfl) (by kernel_rfl) (by kernel_rfl) (fun t Q => congrFun (congrFun (packed_Pack_eq packed_Width packed_Pack_c1) t) Q)
theorem ref04_may_linked : Linked Try.prog ⟨21, [.leaf (.o (.i .i64)), .leaf (.o (.i .i64))], [.leaf (.o (.b))], ref04_may⟩ := linked_of (fn := Try.f21) Try.func21 rfl (by kernel_rfl) [] [] [] [(3, ⟨[(4, .leaf (.o (.b)))], []⟩)] allNil (by kernel_rfl) (by kernel_rfl) (by kernel_rfl) (fun t Q => by kernel_rfl)
theorem ref04_Pack_eq (ref04_may : (Int × Int) → ((Bool) → HProp) → HProp) : (fun (t : Sl × Int) (Q : (ByteArray × Int) → HProp) => interpF ⟨Try.prog, [⟨21, [.leaf (.o (.i .i64)), .leaf (.o (.i .i64))], [.leaf (.o (.b))], ref04_may⟩], [], []⟩ Try.f10 [(4, ⟨[(15, .leaf (.o (.b)))], []⟩), (14, ⟨[(6, .leaf (.o (.i .i64)))], []⟩), (45, ⟨[(8, .leaf (.o (.i .i64)))], []⟩), (57, ⟨[(9, .leaf (.o (.i .i64)))], []⟩), (65, ⟨[], []⟩)] [.leaf (.o (.sl)), .leaf (.o (.i .i64))] [.leaf (.o (.s)), .leaf (.o (.i .i64))] t Q : (Sl × Int) → ((ByteArray × Int) → HProp) → HProp) =
fun (t : Sl × Int) (Q : ByteArray × Int → HProp) =>
  withK
    (fun (t_1 : Bool) =>
      iteW t_1 (Q (ByteArray.mk #[], 2))
        (loopW 0 fun (s : Int) (k : Int → HProp) =>
          iteW (ltI s ↑t.fst.len)
            (indexW s t.fst 1 fun (a : Addr) =>
              loadI IntKind.i64 a fun (x : Int) =>
                ref04_may (x, t.snd) fun (r : Bool) => iteW (!r) (Q (ByteArray.mk #[], 2)) (k (add IntKind.i64 s 1)))
            (iteW (ltI 65536 ↑t.fst.len) (Q (ByteArray.mk #[], 3))
              (mustW ((8 : Int) ≠ 0)
                (makeW (quo IntKind.i64 (add IntKind.i64 (mul IntKind.i64 (↑t.fst.len) t.snd) 7) 8)
                  (quo IntKind.i64 (add IntKind.i64 (mul IntKind.i64 (↑t.fst.len) t.snd) 7) 8) [Value.int IntKind.u8 0]
                  1 fun (v : Sl) =>
                  loopW 0 fun (s : Int) (k : Int → HProp) =>
                    iteW (ltI s ↑t.fst.len)
                      (loopW 0 fun (s_1 : Int) (k_1 : Int → HProp) =>
                        iteW (ltI s_1 t.snd)
                          (withK (fun (t : PUnit) => k_1 (add IntKind.i64 s_1 1))
                            fun (k : PUnit → HProp) =>
                            indexW s t.fst 1 fun (a : Addr) =>
                              loadI IntKind.i64 a fun (x : Int) =>
                                mustW ((0 : Int) ≤ s_1)
                                  (mustW ((2 : Int) ≠ 0)
                                    (iteW (eqI (rem (shr IntKind.i64 x s_1) 2) 1)
                                      (mustW ((8 : Int) ≠ 0)
                                        (mustW ((8 : Int) ≠ 0)
                                          (indexW (quo IntKind.i64 (add IntKind.i64 (mul IntKind.i64 s t.snd) s_1) 8) v
                                            1 fun (a : Addr) =>
                                            loadI IntKind.u8 a fun (x : Int) =>
                                              mustW ((8 : Int) ≠ 0)
                                                (mustW ((0 : Int) ≤ rem (add IntKind.i64 (mul IntKind.i64 s t.snd) s_1) 8)
                                                  (indexW
                                                    (quo IntKind.i64 (add IntKind.i64 (mul IntKind.i64 s t.snd) s_1) 8)
                                                    v 1 fun (a : Addr) =>
                                                    storeW a
                                                      (Value.int IntKind.u8
                                                        (add IntKind.u8 x
                                                          (shl IntKind.u8 1
                                                            (rem (add IntKind.i64 (mul IntKind.i64 s t.snd) s_1) 8))))
                                                      (k ()))))))
                                      (k ()))))
                          (k (add IntKind.i64 s 1)))
                      (textW v fun (z : ByteArray) => Q (z, 0)))))))
    fun (k : Bool → HProp) => iteW (ltI t.snd 0) (k true) (k (ltI 32 t.snd))
  := by kernel_rfl
theorem ref04_Pack_linked : Linked Try.prog ⟨10, [.leaf (.o (.sl)), .leaf (.o (.i .i64))], [.leaf (.o (.s)), .leaf (.o (.i .i64))], ref04_Pack⟩ := linked_of (fn := Try.f10) Try.func10 rfl (by kernel_rfl) [⟨21, [.leaf (.o (.i .i64)), .leaf (.o (.i .i64))], [.leaf (.o (.b))], ref04_may⟩] [] [] [(4, ⟨[(15, .leaf (.o (.b)))], []⟩), (14, ⟨[(6, .leaf (.o (.i .i64)))], []⟩), (45, ⟨[(8, .leaf (.o (.i .i64)))], []⟩), (57, ⟨[(9, .leaf (.o (.i .i64)))], []⟩), (65, ⟨[], []⟩)] (allCons ref04_may_linked allNil) (by kernel_rfl) (by kernel_rfl) (by kernel_rfl) (fun t Q => congrFun (congrFun (ref04_Pack_eq ref04_may) t) Q)
theorem ref04_Width_eq (ref04_may : (Int × Int) → ((Bool) → HProp) → HProp) : (fun (t : Sl) (Q : (Int) → HProp) => interpF ⟨Try.prog, [⟨21, [.leaf (.o (.i .i64)), .leaf (.o (.i .i64))], [.leaf (.o (.b))], ref04_may⟩], [], []⟩ Try.f12 [(6, ⟨[(3, .leaf (.o (.i .i64)))], []⟩), (21, ⟨[(4, .leaf (.o (.b))), (5, .leaf (.o (.i .i64)))], []⟩), (30, ⟨[(4, .leaf (.o (.b)))], []⟩)] [.leaf (.o (.sl))] [.leaf (.o (.i .i64))] t Q : (Sl) → ((Int) → HProp) → HProp) =
fun (t : Sl) (Q : Int → HProp) =>
  loopW 0 fun (s : Int) (k : Int → HProp) =>
    iteW (leI s 32)
      (loopW (true, 0) fun (s_1 : Bool × Int) (k_1 : Bool × Int → HProp) =>
        iteW (ltI s_1.snd ↑t.len)
          (withK (fun (t : Bool) => k_1 (t, add IntKind.i64 s_1.snd 1)) fun (k : Bool → HProp) =>
            iteW s_1.fst (indexW s_1.snd t 1 fun (a : Addr) => loadI IntKind.i64 a fun (x : Int) => ref04_may (x, s) k)
              (k false))
          (iteW s_1.fst (Q s) (k (add IntKind.i64 s 1))))
      (Q 33)
  := by kernel_rfl
theorem ref04_Width_linked : Linked Try.prog ⟨12, [.leaf (.o (.sl))], [.leaf (.o (.i .i64))], ref04_Width⟩ := linked_of (fn := Try.f12) Try.func12 rfl (by kernel_rfl) [⟨21, [.leaf (.o (.i .i64)), .leaf (.o (.i .i64))], [.leaf (.o (.b))], ref04_may⟩] [] [] [(6, ⟨[(3, .leaf (.o (.i .i64)))], []⟩), (21, ⟨[(4, .leaf (.o (.b))), (5, .leaf (.o (.i .i64)))], []⟩), (30, ⟨[(4, .leaf (.o (.b)))], []⟩)] (allCons ref04_may_linked allNil) (by kernel_rfl) (by kernel_rfl) (by kernel_rfl) (fun t Q => congrFun (congrFun (ref04_Width_eq ref04_may) t) Q)
theorem law02_Same_linked : Linked Try.prog ⟨19, [.leaf (.o (.sl)), .leaf (.o (.sl))], [.leaf (.o (.b))], law02_Same⟩ := linked_of (fn := Try.f19) Try.func19 rfl (by kernel_rfl) [] [] [] [(14, ⟨[(5, .leaf (.o (.i .i64)))], []⟩)] allNil (by kernel_rfl) (by kernel_rfl) (by kernel_rfl) (fun t Q => by kernel_rfl)
theorem law02_Left_eq (law02_Same : (Sl × Sl) → ((Bool) → HProp) → HProp) : (fun (t : Sl × Sl) (Q : (Bool) → HProp) => interpF ⟨Try.prog, [⟨19, [.leaf (.o (.sl)), .leaf (.o (.sl))], [.leaf (.o (.b))], law02_Same⟩], [], []⟩ Try.f13 [(3, ⟨[(4, .leaf (.o (.b)))], []⟩)] [.leaf (.o (.sl)), .leaf (.o (.sl))] [.leaf (.o (.b))] t Q : (Sl × Sl) → ((Bool) → HProp) → HProp) =
fun (t : Sl × Sl) (Q : Bool → HProp) =>
  withK Q fun (k : Bool → HProp) =>
    law02_Same (t.fst, t.snd) fun (r : Bool) =>
      iteW r
        (iteW (ltI ↑t.snd.len ↑t.fst.cap)
          (sliceW t.fst 1 0 (add IntKind.i64 (↑t.snd.len) 1) fun (u : Sl) =>
            indexW (↑t.snd.len) u 1 fun (a : Addr) => loadI IntKind.i64 a fun (x : Int) => k (eqI x (-77)))
          (k false))
        (k false)
  := by kernel_rfl
theorem law02_Left_linked : Linked Try.prog ⟨13, [.leaf (.o (.sl)), .leaf (.o (.sl))], [.leaf (.o (.b))], law02_Left⟩ := linked_of (fn := Try.f13) Try.func13 rfl (by kernel_rfl) [⟨19, [.leaf (.o (.sl)), .leaf (.o (.sl))], [.leaf (.o (.b))], law02_Same⟩] [] [] [(3, ⟨[(4, .leaf (.o (.b)))], []⟩)] (allCons law02_Same_linked allNil) (by kernel_rfl) (by kernel_rfl) (by kernel_rfl) (fun t Q => congrFun (congrFun (law02_Left_eq law02_Same) t) Q)
theorem packed_number_linked : Linked Try.prog ⟨23, [.leaf (.o (.s)), .leaf (.o (.i .i64)), .leaf (.o (.i .i64))], [.leaf (.o (.i .i64))], packed_number⟩ := linked_of (fn := Try.f23) Try.func23 rfl (by kernel_rfl) [] [] [] [(8, ⟨[(7, .leaf (.o (.i .u64))), (24, .leaf (.o (.i .i64)))], []⟩)] allNil (by kernel_rfl) (by kernel_rfl) (by kernel_rfl) (fun t Q => by kernel_rfl)
theorem packed_Unpack_eq (packed_number : (ByteArray × Int × Int) → ((Int) → HProp) → HProp) : (fun (t : ByteArray × Int × Int) (Q : (Sl × Int) → HProp) => interpF ⟨Try.prog, [⟨23, [.leaf (.o (.s)), .leaf (.o (.i .i64)), .leaf (.o (.i .i64))], [.leaf (.o (.i .i64))], packed_number⟩], [], []⟩ Try.f15 [(5, ⟨[(10, .leaf (.o (.b)))], []⟩), (23, ⟨[(33, .leaf (.o (.b)))], []⟩), (35, ⟨[(56, .leaf (.o (.i .i64)))], []⟩)] [.leaf (.o (.s)), .leaf (.o (.i .i64)), .leaf (.o (.i .i64))] [.leaf (.o (.sl)), .leaf (.o (.i .i64))] t Q : (ByteArray × Int × Int) → ((Sl × Int) → HProp) → HProp) =
fun (t : ByteArray × Int × Int) (Q : Sl × Int → HProp) =>
  withK
    (fun (t_1 : Bool) =>
      iteW t_1 (Q (Sl.mk none 0 0, 2))
        (iteW (ltI 65536 t.snd.fst) (Q (Sl.mk none 0 0, 3))
          (mustW ((8 : Int) ≠ 0)
            (iteW
              (!eqI (↑(ByteArray.size t.fst))
                  (quo IntKind.i64 (add IntKind.i64 (mul IntKind.i64 t.snd.fst t.snd.snd) 7) 8))
              (Q (Sl.mk none 0 0, 10))
              (withK
                (fun (t_2 : Bool) =>
                  iteW t_2 (Q (Sl.mk none 0 0, 10))
                    (makeW t.snd.fst t.snd.fst [Value.int IntKind.i64 0] 8 fun (v : Sl) =>
                      loopW 0 fun (s : Int) (k : Int → HProp) =>
                        iteW (ltI s ↑v.len)
                          (packed_number (t.fst, mul IntKind.i64 s t.snd.snd, t.snd.snd) fun (r : Int) =>
                            indexW s v 1 fun (a : Addr) => storeW a (Value.int IntKind.i64 r) (k (add IntKind.i64 s 1)))
                          (Q (v, 0))))
                fun (k : Bool → HProp) =>
                mustW ((8 : Int) ≠ 0)
                  (iteW (ltI 0 (rem (mul IntKind.i64 t.snd.fst t.snd.snd) 8))
                    (byteW (sub IntKind.i64 (↑(ByteArray.size t.fst)) 1) t.fst fun (c : Int) =>
                      mustW ((8 : Int) ≠ 0)
                        (mustW ((0 : Int) ≤ rem (mul IntKind.i64 t.snd.fst t.snd.snd) 8)
                          (k (ltI 0 (shr IntKind.u8 c (rem (mul IntKind.i64 t.snd.fst t.snd.snd) 8))))))
                    (k false)))))))
    fun (k : Bool → HProp) =>
    iteW (ltI t.snd.snd 0) (k true) (iteW (ltI 32 t.snd.snd) (k true) (k (ltI t.snd.fst 0)))
  := by kernel_rfl
theorem packed_Unpack_linked : Linked Try.prog ⟨15, [.leaf (.o (.s)), .leaf (.o (.i .i64)), .leaf (.o (.i .i64))], [.leaf (.o (.sl)), .leaf (.o (.i .i64))], packed_Unpack⟩ := linked_of (fn := Try.f15) Try.func15 rfl (by kernel_rfl) [⟨23, [.leaf (.o (.s)), .leaf (.o (.i .i64)), .leaf (.o (.i .i64))], [.leaf (.o (.i .i64))], packed_number⟩] [] [] [(5, ⟨[(10, .leaf (.o (.b)))], []⟩), (23, ⟨[(33, .leaf (.o (.b)))], []⟩), (35, ⟨[(56, .leaf (.o (.i .i64)))], []⟩)] (allCons packed_number_linked allNil) (by kernel_rfl) (by kernel_rfl) (by kernel_rfl) (fun t Q => congrFun (congrFun (packed_Unpack_eq packed_number) t) Q)
theorem packed_At_eq (packed_number : (ByteArray × Int × Int) → ((Int) → HProp) → HProp) : (fun (t : ByteArray × Int × Int) (Q : (Int × Int) → HProp) => interpF ⟨Try.prog, [⟨23, [.leaf (.o (.s)), .leaf (.o (.i .i64)), .leaf (.o (.i .i64))], [.leaf (.o (.i .i64))], packed_number⟩], [], []⟩ Try.f17 [(5, ⟨[(8, .leaf (.o (.b)))], []⟩)] [.leaf (.o (.s)), .leaf (.o (.i .i64)), .leaf (.o (.i .i64))] [.leaf (.o (.i .i64)), .leaf (.o (.i .i64))] t Q : (ByteArray × Int × Int) → ((Int × Int) → HProp) → HProp) =
fun (t : ByteArray × Int × Int) (Q : Int × Int → HProp) =>
  withK
    (fun (t_1 : Bool) =>
      iteW t_1 (Q (0, 2))
        (iteW (eqI t.snd.snd 0) (Q (0, 0))
          (mustW ((t.snd.snd : Int) ≠ 0)
            (iteW (leI (quo IntKind.i64 (mul IntKind.i64 8 ↑(ByteArray.size t.fst)) t.snd.snd) t.snd.fst) (Q (0, 4))
              (packed_number (t.fst, mul IntKind.i64 t.snd.fst t.snd.snd, t.snd.snd) fun (r : Int) => Q (r, 0))))))
    fun (k : Bool → HProp) =>
    iteW (ltI t.snd.snd 0) (k true) (iteW (ltI 32 t.snd.snd) (k true) (k (ltI t.snd.fst 0)))
  := by kernel_rfl
theorem packed_At_linked : Linked Try.prog ⟨17, [.leaf (.o (.s)), .leaf (.o (.i .i64)), .leaf (.o (.i .i64))], [.leaf (.o (.i .i64)), .leaf (.o (.i .i64))], packed_At⟩ := linked_of (fn := Try.f17) Try.func17 rfl (by kernel_rfl) [⟨23, [.leaf (.o (.s)), .leaf (.o (.i .i64)), .leaf (.o (.i .i64))], [.leaf (.o (.i .i64))], packed_number⟩] [] [] [(5, ⟨[(8, .leaf (.o (.b)))], []⟩)] (allCons packed_number_linked allNil) (by kernel_rfl) (by kernel_rfl) (by kernel_rfl) (fun t Q => congrFun (congrFun (packed_At_eq packed_number) t) Q)
theorem law04_does_eq (packed_Pack : (Sl × Int) → ((ByteArray × Int) → HProp) → HProp) (packed_Width : (Sl) → ((Int) → HProp) → HProp) (packed_Unpack : (ByteArray × Int × Int) → ((Sl × Int) → HProp) → HProp) (packed_At : (ByteArray × Int × Int) → ((Int × Int) → HProp) → HProp) (law02_Same : (Sl × Sl) → ((Bool) → HProp) → HProp) : (fun (t : Unit) (Q : (Bool) → HProp) => interpF ⟨Try.prog, [⟨9, [.leaf (.o (.sl)), .leaf (.o (.i .i64))], [.leaf (.o (.s)), .leaf (.o (.i .i64))], packed_Pack⟩, ⟨11, [.leaf (.o (.sl))], [.leaf (.o (.i .i64))], packed_Width⟩, ⟨15, [.leaf (.o (.s)), .leaf (.o (.i .i64)), .leaf (.o (.i .i64))], [.leaf (.o (.sl)), .leaf (.o (.i .i64))], packed_Unpack⟩, ⟨17, [.leaf (.o (.s)), .leaf (.o (.i .i64)), .leaf (.o (.i .i64))], [.leaf (.o (.i .i64)), .leaf (.o (.i .i64))], packed_At⟩, ⟨19, [.leaf (.o (.sl)), .leaf (.o (.sl))], [.leaf (.o (.b))], law02_Same⟩], [14, 19, 39, 47, 52, 94], []⟩ Try.f14 [(15, ⟨[(0, .leaf (.o (.b)))], []⟩)] [] [.leaf (.o (.b))] t Q : (Unit) → ((Bool) → HProp) → HProp) =
fun (t : Unit) (Q : Bool → HProp) =>
  newW [Value.int IntKind.i64 1, Value.int IntKind.i64 2, Value.int IntKind.i64 3] fun (b : Nat) =>
    packed_Pack (Sl.mk (some (Addr.mk b 0 none)) 3 3, 3) fun (r : ByteArray × Int) =>
      newW [Value.int IntKind.i64 8] fun (b : Nat) =>
        packed_Pack (Sl.mk (some (Addr.mk b 0 none)) 1 1, 3) fun (r_1 : ByteArray × Int) =>
          packed_At (ByteArray.mk #[209, 0], 0, 3) fun (r_2 : Int × Int) =>
            packed_At (ByteArray.mk #[209, 0], 2, 3) fun (r_3 : Int × Int) =>
              packed_At (ByteArray.mk #[209, 0], 5, 3) fun (r_4 : Int × Int) =>
                packed_Unpack (ByteArray.mk #[209, 0], 3, 3) fun (r_5 : Sl × Int) =>
                  withK Q fun (k : Bool → HProp) =>
                    newW [Value.int IntKind.i64 0, Value.int IntKind.i64 5] fun (b : Nat) =>
                      packed_Width (Sl.mk (some (Addr.mk b 0 none)) 2 2) fun (r_6 : Int) =>
                        iteW (eqI r_6 3)
                          (packed_Width (Sl.mk none 0 0) fun (r_7 : Int) =>
                            iteW (eqI r_7 0)
                              (newW [Value.int IntKind.i64 (-1)] fun (b : Nat) =>
                                packed_Width (Sl.mk (some (Addr.mk b 0 none)) 1 1) fun (r_8 : Int) =>
                                  iteW (eqI r_8 33)
                                    (newW [Value.int IntKind.i64 4294967296] fun (b : Nat) =>
                                      packed_Width (Sl.mk (some (Addr.mk b 0 none)) 1 1) fun (r_9 : Int) =>
                                        iteW (eqI r_9 33)
                                          (iteW (eqI r.snd 0)
                                            (iteW (eqS r.fst (ByteArray.mk #[209, 0]))
                                              (iteW (eqI r_1.snd 2)
                                                (iteW (eqI r_2.fst 1)
                                                  (iteW (eqI r_2.snd 0)
                                                    (iteW (eqI r_3.fst 3)
                                                      (iteW (eqI r_3.snd 0)
                                                        (iteW (eqI r_4.snd 4)
                                                          (iteW (eqI r_5.snd 0)
                                                            (newW
                                                              [Value.int IntKind.i64 1, Value.int IntKind.i64 2,
                                                                Value.int IntKind.i64 3]
                                                              fun (b : Nat) =>
                                                              law02_Same (r_5.fst, Sl.mk (some (Addr.mk b 0 none)) 3 3)
                                                                k)
                                                            (k false))
                                                          (k false))
                                                        (k false))
                                                      (k false))
                                                    (k false))
                                                  (k false))
                                                (k false))
                                              (k false))
                                            (k false))
                                          (k false))
                                    (k false))
                              (k false))
                          (k false)
  := by kernel_rfl
theorem law04_does_linked : Linked Try.prog ⟨14, [], [.leaf (.o (.b))], law04_does⟩ := linked_of (fn := Try.f14) Try.func14 rfl (by kernel_rfl) [⟨9, [.leaf (.o (.sl)), .leaf (.o (.i .i64))], [.leaf (.o (.s)), .leaf (.o (.i .i64))], packed_Pack⟩, ⟨11, [.leaf (.o (.sl))], [.leaf (.o (.i .i64))], packed_Width⟩, ⟨15, [.leaf (.o (.s)), .leaf (.o (.i .i64)), .leaf (.o (.i .i64))], [.leaf (.o (.sl)), .leaf (.o (.i .i64))], packed_Unpack⟩, ⟨17, [.leaf (.o (.s)), .leaf (.o (.i .i64)), .leaf (.o (.i .i64))], [.leaf (.o (.i .i64)), .leaf (.o (.i .i64))], packed_At⟩, ⟨19, [.leaf (.o (.sl)), .leaf (.o (.sl))], [.leaf (.o (.b))], law02_Same⟩] [14, 19, 39, 47, 52, 94] [] [(15, ⟨[(0, .leaf (.o (.b)))], []⟩)] (allCons packed_Pack_linked (allCons packed_Width_linked (allCons packed_Unpack_linked (allCons packed_At_linked (allCons law02_Same_linked allNil))))) (by kernel_rfl) (by kernel_rfl) (by kernel_rfl) (fun t Q => congrFun (congrFun (law04_does_eq packed_Pack packed_Width packed_Unpack packed_At law02_Same) t) Q)
theorem law04_PackedPack_eq (law02_Twin : (Sl) → ((Sl) → HProp) → HProp) (packed_Pack : (Sl × Int) → ((ByteArray × Int) → HProp) → HProp) (ref04_Pack : (Sl × Int) → ((ByteArray × Int) → HProp) → HProp) (packed_Width : (Sl) → ((Int) → HProp) → HProp) (ref04_Width : (Sl) → ((Int) → HProp) → HProp) (law02_Left : (Sl × Sl) → ((Bool) → HProp) → HProp) (law04_does : (Unit) → ((Bool) → HProp) → HProp) : (fun (t : Sl × Int) (Q : (Bool) → HProp) => interpF ⟨Try.prog, [⟨8, [.leaf (.o (.sl))], [.leaf (.o (.sl))], law02_Twin⟩, ⟨9, [.leaf (.o (.sl)), .leaf (.o (.i .i64))], [.leaf (.o (.s)), .leaf (.o (.i .i64))], packed_Pack⟩, ⟨10, [.leaf (.o (.sl)), .leaf (.o (.i .i64))], [.leaf (.o (.s)), .leaf (.o (.i .i64))], ref04_Pack⟩, ⟨11, [.leaf (.o (.sl))], [.leaf (.o (.i .i64))], packed_Width⟩, ⟨12, [.leaf (.o (.sl))], [.leaf (.o (.i .i64))], ref04_Width⟩, ⟨13, [.leaf (.o (.sl)), .leaf (.o (.sl))], [.leaf (.o (.b))], law02_Left⟩, ⟨14, [], [.leaf (.o (.b))], law04_does⟩], [], []⟩ Try.f3 [(17, ⟨[(4, .leaf (.o (.b)))], []⟩)] [.leaf (.o (.sl)), .leaf (.o (.i .i64))] [.leaf (.o (.b))] t Q : (Sl × Int) → ((Bool) → HProp) → HProp) =
fun (t : Sl × Int) (Q : Bool → HProp) =>
  iteW (ltI 500 ↑t.fst.len) (Q true)
    (law02_Twin t.fst fun (r : Sl) =>
      packed_Pack (r, t.snd) fun (r_1 : ByteArray × Int) =>
        ref04_Pack (t.fst, t.snd) fun (r_2 : ByteArray × Int) =>
          withK Q fun (k : Bool → HProp) =>
            iteW (eqS r_1.fst r_2.fst)
              (iteW (eqI r_1.snd r_2.snd)
                (packed_Width r fun (r_3 : Int) =>
                  ref04_Width t.fst fun (r_4 : Int) =>
                    iteW (eqI r_3 r_4) (law02_Left (r, t.fst) fun (r : Bool) => iteW r (law04_does () k) (k false))
                      (k false))
                (k false))
              (k false))
  := by kernel_rfl
theorem law04_PackedPack_linked : Linked Try.prog ⟨3, [.leaf (.o (.sl)), .leaf (.o (.i .i64))], [.leaf (.o (.b))], law04_PackedPack⟩ := linked_of (fn := Try.f3) Try.func3 rfl (by kernel_rfl) [⟨8, [.leaf (.o (.sl))], [.leaf (.o (.sl))], law02_Twin⟩, ⟨9, [.leaf (.o (.sl)), .leaf (.o (.i .i64))], [.leaf (.o (.s)), .leaf (.o (.i .i64))], packed_Pack⟩, ⟨10, [.leaf (.o (.sl)), .leaf (.o (.i .i64))], [.leaf (.o (.s)), .leaf (.o (.i .i64))], ref04_Pack⟩, ⟨11, [.leaf (.o (.sl))], [.leaf (.o (.i .i64))], packed_Width⟩, ⟨12, [.leaf (.o (.sl))], [.leaf (.o (.i .i64))], ref04_Width⟩, ⟨13, [.leaf (.o (.sl)), .leaf (.o (.sl))], [.leaf (.o (.b))], law02_Left⟩, ⟨14, [], [.leaf (.o (.b))], law04_does⟩] [] [] [(17, ⟨[(4, .leaf (.o (.b)))], []⟩)] (allCons law02_Twin_linked (allCons packed_Pack_linked (allCons ref04_Pack_linked (allCons packed_Width_linked (allCons ref04_Width_linked (allCons law02_Left_linked (allCons law04_does_linked allNil))))))) (by kernel_rfl) (by kernel_rfl) (by kernel_rfl) (fun t Q => congrFun (congrFun (law04_PackedPack_eq law02_Twin packed_Pack ref04_Pack packed_Width ref04_Width law02_Left law04_does) t) Q)
theorem ref04_bit_linked : Linked Try.prog ⟨26, [.leaf (.o (.s)), .leaf (.o (.i .i64))], [.leaf (.o (.b))], ref04_bit⟩ := linked_of (fn := Try.f26) Try.func26 rfl (by kernel_rfl) [] [] [] [(3, ⟨[(4, .leaf (.o (.b)))], []⟩)] allNil (by kernel_rfl) (by kernel_rfl) (by kernel_rfl) (fun t Q => by kernel_rfl)
theorem ref04_number_eq (ref04_bit : (ByteArray × Int) → ((Bool) → HProp) → HProp) : (fun (t : ByteArray × Int × Int) (Q : (Int) → HProp) => interpF ⟨Try.prog, [⟨26, [.leaf (.o (.s)), .leaf (.o (.i .i64))], [.leaf (.o (.b))], ref04_bit⟩], [], []⟩ Try.f24 [(8, ⟨[(7, .leaf (.o (.i .i64))), (8, .leaf (.o (.i .i64)))], []⟩), (16, ⟨[(7, .leaf (.o (.i .i64)))], []⟩)] [.leaf (.o (.s)), .leaf (.o (.i .i64)), .leaf (.o (.i .i64))] [.leaf (.o (.i .i64))] t Q : (ByteArray × Int × Int) → ((Int) → HProp) → HProp) =
fun (t : ByteArray × Int × Int) (Q : Int → HProp) =>
  loopW (0, sub IntKind.i64 t.snd.snd 1) fun (s : Int × Int) (k : Int × Int → HProp) =>
    iteW (leI 0 s.snd)
      (withK (fun (t : Int) => k (t, sub IntKind.i64 s.snd 1)) fun (k : Int → HProp) =>
        ref04_bit (t.fst, add IntKind.i64 (mul IntKind.i64 t.snd.fst t.snd.snd) s.snd) fun (r : Bool) =>
          iteW r (k (add IntKind.i64 (mul IntKind.i64 2 s.fst) 1)) (k (mul IntKind.i64 2 s.fst)))
      (Q s.fst)
  := by kernel_rfl
theorem ref04_number_linked : Linked Try.prog ⟨24, [.leaf (.o (.s)), .leaf (.o (.i .i64)), .leaf (.o (.i .i64))], [.leaf (.o (.i .i64))], ref04_number⟩ := linked_of (fn := Try.f24) Try.func24 rfl (by kernel_rfl) [⟨26, [.leaf (.o (.s)), .leaf (.o (.i .i64))], [.leaf (.o (.b))], ref04_bit⟩] [] [] [(8, ⟨[(7, .leaf (.o (.i .i64))), (8, .leaf (.o (.i .i64)))], []⟩), (16, ⟨[(7, .leaf (.o (.i .i64)))], []⟩)] (allCons ref04_bit_linked allNil) (by kernel_rfl) (by kernel_rfl) (by kernel_rfl) (fun t Q => congrFun (congrFun (ref04_number_eq ref04_bit) t) Q)
theorem ref04_Unpack_eq (ref04_Pack : (Sl × Int) → ((ByteArray × Int) → HProp) → HProp) (ref04_number : (ByteArray × Int × Int) → ((Int) → HProp) → HProp) : (fun (t : ByteArray × Int × Int) (Q : (Sl × Int) → HProp) => interpF ⟨Try.prog, [⟨10, [.leaf (.o (.sl)), .leaf (.o (.i .i64))], [.leaf (.o (.s)), .leaf (.o (.i .i64))], ref04_Pack⟩, ⟨24, [.leaf (.o (.s)), .leaf (.o (.i .i64)), .leaf (.o (.i .i64))], [.leaf (.o (.i .i64))], ref04_number⟩], [], []⟩ Try.f16 [(4, ⟨[(21, .leaf (.o (.b)))], []⟩), (24, ⟨[(8, .leaf (.o (.sl))), (9, .leaf (.o (.i .i64)))], []⟩)] [.leaf (.o (.s)), .leaf (.o (.i .i64)), .leaf (.o (.i .i64))] [.leaf (.o (.sl)), .leaf (.o (.i .i64))] t Q : (ByteArray × Int × Int) → ((Sl × Int) → HProp) → HProp) =
fun (t : ByteArray × Int × Int) (Q : Sl × Int → HProp) =>
  withK
    (fun (t_1 : Bool) =>
      iteW t_1 (Q (Sl.mk none 0 0, 2))
        (iteW (ltI 65536 t.snd.fst) (Q (Sl.mk none 0 0, 3))
          (loopW (Sl.mk none 0 0, 0) fun (s : Sl × Int) (k : Sl × Int → HProp) =>
            iteW (ltI s.snd t.snd.fst)
              (ref04_number (t.fst, s.snd, t.snd.snd) fun (r : Int) =>
                appendW s.fst [Value.int IntKind.i64 0] 8 1 [Value.int IntKind.i64 r] fun (u : Sl) =>
                  k (u, add IntKind.i64 s.snd 1))
              (ref04_Pack (s.fst, t.snd.snd) fun (r : ByteArray × Int) =>
                iteW (!eqS r.fst t.fst) (Q (Sl.mk none 0 0, 10)) (Q (s.fst, 0))))))
    fun (k : Bool → HProp) =>
    iteW (ltI t.snd.snd 0) (k true) (iteW (ltI 32 t.snd.snd) (k true) (k (ltI t.snd.fst 0)))
  := by kernel_rfl
theorem ref04_Unpack_linked : Linked Try.prog ⟨16, [.leaf (.o (.s)), .leaf (.o (.i .i64)), .leaf (.o (.i .i64))], [.leaf (.o (.sl)), .leaf (.o (.i .i64))], ref04_Unpack⟩ := linked_of (fn := Try.f16) Try.func16 rfl (by kernel_rfl) [⟨10, [.leaf (.o (.sl)), .leaf (.o (.i .i64))], [.leaf (.o (.s)), .leaf (.o (.i .i64))], ref04_Pack⟩, ⟨24, [.leaf (.o (.s)), .leaf (.o (.i .i64)), .leaf (.o (.i .i64))], [.leaf (.o (.i .i64))], ref04_number⟩] [] [] [(4, ⟨[(21, .leaf (.o (.b)))], []⟩), (24, ⟨[(8, .leaf (.o (.sl))), (9, .leaf (.o (.i .i64)))], []⟩)] (allCons ref04_Pack_linked (allCons ref04_number_linked allNil)) (by kernel_rfl) (by kernel_rfl) (by kernel_rfl) (fun t Q => congrFun (congrFun (ref04_Unpack_eq ref04_Pack ref04_number) t) Q)
theorem ref04_At_eq (ref04_number : (ByteArray × Int × Int) → ((Int) → HProp) → HProp) : (fun (t : ByteArray × Int × Int) (Q : (Int × Int) → HProp) => interpF ⟨Try.prog, [⟨24, [.leaf (.o (.s)), .leaf (.o (.i .i64)), .leaf (.o (.i .i64))], [.leaf (.o (.i .i64))], ref04_number⟩], [], []⟩ Try.f18 [(4, ⟨[(17, .leaf (.o (.b)))], []⟩), (12, ⟨[(28, .leaf (.o (.b)))], []⟩)] [.leaf (.o (.s)), .leaf (.o (.i .i64)), .leaf (.o (.i .i64))] [.leaf (.o (.i .i64)), .leaf (.o (.i .i64))] t Q : (ByteArray × Int × Int) → ((Int × Int) → HProp) → HProp) =
fun (t : ByteArray × Int × Int) (Q : Int × Int → HProp) =>
  withK
    (fun (t_1 : Bool) =>
      iteW t_1 (Q (0, 2))
        (withK
          (fun (t_2 : Bool) =>
            iteW t_2 (Q (0, 4))
              (iteW (eqI t.snd.snd 0) (Q (0, 0))
                (ref04_number (t.fst, t.snd.fst, t.snd.snd) fun (r : Int) => Q (r, 0))))
          fun (k : Bool → HProp) =>
          iteW (ltI 0 t.snd.snd)
            (mustW ((t.snd.snd : Int) ≠ 0)
              (k (leI (quo IntKind.i64 (mul IntKind.i64 8 ↑(ByteArray.size t.fst)) t.snd.snd) t.snd.fst)))
            (k false)))
    fun (k : Bool → HProp) =>
    iteW (ltI t.snd.snd 0) (k true) (iteW (ltI 32 t.snd.snd) (k true) (k (ltI t.snd.fst 0)))
  := by kernel_rfl
theorem ref04_At_linked : Linked Try.prog ⟨18, [.leaf (.o (.s)), .leaf (.o (.i .i64)), .leaf (.o (.i .i64))], [.leaf (.o (.i .i64)), .leaf (.o (.i .i64))], ref04_At⟩ := linked_of (fn := Try.f18) Try.func18 rfl (by kernel_rfl) [⟨24, [.leaf (.o (.s)), .leaf (.o (.i .i64)), .leaf (.o (.i .i64))], [.leaf (.o (.i .i64))], ref04_number⟩] [] [] [(4, ⟨[(17, .leaf (.o (.b)))], []⟩), (12, ⟨[(28, .leaf (.o (.b)))], []⟩)] (allCons ref04_number_linked allNil) (by kernel_rfl) (by kernel_rfl) (by kernel_rfl) (fun t Q => congrFun (congrFun (ref04_At_eq ref04_number) t) Q)
theorem law04_PackedUnpack_eq (law04_does : (Unit) → ((Bool) → HProp) → HProp) (packed_Unpack : (ByteArray × Int × Int) → ((Sl × Int) → HProp) → HProp) (ref04_Unpack : (ByteArray × Int × Int) → ((Sl × Int) → HProp) → HProp) (packed_At : (ByteArray × Int × Int) → ((Int × Int) → HProp) → HProp) (ref04_At : (ByteArray × Int × Int) → ((Int × Int) → HProp) → HProp) (law02_Same : (Sl × Sl) → ((Bool) → HProp) → HProp) : (fun (t : ByteArray × Int × Int) (Q : (Bool) → HProp) => interpF ⟨Try.prog, [⟨14, [], [.leaf (.o (.b))], law04_does⟩, ⟨15, [.leaf (.o (.s)), .leaf (.o (.i .i64)), .leaf (.o (.i .i64))], [.leaf (.o (.sl)), .leaf (.o (.i .i64))], packed_Unpack⟩, ⟨16, [.leaf (.o (.s)), .leaf (.o (.i .i64)), .leaf (.o (.i .i64))], [.leaf (.o (.sl)), .leaf (.o (.i .i64))], ref04_Unpack⟩, ⟨17, [.leaf (.o (.s)), .leaf (.o (.i .i64)), .leaf (.o (.i .i64))], [.leaf (.o (.i .i64)), .leaf (.o (.i .i64))], packed_At⟩, ⟨18, [.leaf (.o (.s)), .leaf (.o (.i .i64)), .leaf (.o (.i .i64))], [.leaf (.o (.i .i64)), .leaf (.o (.i .i64))], ref04_At⟩, ⟨19, [.leaf (.o (.sl)), .leaf (.o (.sl))], [.leaf (.o (.b))], law02_Same⟩], [], []⟩ Try.f4 [(4, ⟨[(25, .leaf (.o (.b)))], []⟩), (19, ⟨[(6, .leaf (.o (.b)))], []⟩)] [.leaf (.o (.s)), .leaf (.o (.i .i64)), .leaf (.o (.i .i64))] [.leaf (.o (.b))] t Q : (ByteArray × Int × Int) → ((Bool) → HProp) → HProp) =
fun (t : ByteArray × Int × Int) (Q : Bool → HProp) =>
  withK
    (fun (t_1 : Bool) =>
      iteW t_1 (Q true)
        (packed_Unpack (t.fst, t.snd.fst, t.snd.snd) fun (r : Sl × Int) =>
          ref04_Unpack (t.fst, t.snd.fst, t.snd.snd) fun (r_1 : Sl × Int) =>
            packed_At (t.fst, t.snd.fst, t.snd.snd) fun (r_2 : Int × Int) =>
              ref04_At (t.fst, t.snd.fst, t.snd.snd) fun (r_3 : Int × Int) =>
                withK Q fun (k : Bool → HProp) =>
                  law02_Same (r.fst, r_1.fst) fun (r_4 : Bool) =>
                    iteW r_4
                      (iteW (eqI r.snd r_1.snd)
                        (iteW (eqI r_2.fst r_3.fst) (iteW (eqI r_2.snd r_3.snd) (law04_does () k) (k false)) (k false))
                        (k false))
                      (k false)))
    fun (k : Bool → HProp) =>
    iteW (ltI 500 ↑(ByteArray.size t.fst)) (k true) (iteW (ltI 2000 t.snd.fst) (k (leI t.snd.fst 65536)) (k false))
  := by kernel_rfl
theorem law04_PackedUnpack_linked : Linked Try.prog ⟨4, [.leaf (.o (.s)), .leaf (.o (.i .i64)), .leaf (.o (.i .i64))], [.leaf (.o (.b))], law04_PackedUnpack⟩ := linked_of (fn := Try.f4) Try.func4 rfl (by kernel_rfl) [⟨14, [], [.leaf (.o (.b))], law04_does⟩, ⟨15, [.leaf (.o (.s)), .leaf (.o (.i .i64)), .leaf (.o (.i .i64))], [.leaf (.o (.sl)), .leaf (.o (.i .i64))], packed_Unpack⟩, ⟨16, [.leaf (.o (.s)), .leaf (.o (.i .i64)), .leaf (.o (.i .i64))], [.leaf (.o (.sl)), .leaf (.o (.i .i64))], ref04_Unpack⟩, ⟨17, [.leaf (.o (.s)), .leaf (.o (.i .i64)), .leaf (.o (.i .i64))], [.leaf (.o (.i .i64)), .leaf (.o (.i .i64))], packed_At⟩, ⟨18, [.leaf (.o (.s)), .leaf (.o (.i .i64)), .leaf (.o (.i .i64))], [.leaf (.o (.i .i64)), .leaf (.o (.i .i64))], ref04_At⟩, ⟨19, [.leaf (.o (.sl)), .leaf (.o (.sl))], [.leaf (.o (.b))], law02_Same⟩] [] [] [(4, ⟨[(25, .leaf (.o (.b)))], []⟩), (19, ⟨[(6, .leaf (.o (.b)))], []⟩)] (allCons law04_does_linked (allCons packed_Unpack_linked (allCons ref04_Unpack_linked (allCons packed_At_linked (allCons ref04_At_linked (allCons law02_Same_linked allNil)))))) (by kernel_rfl) (by kernel_rfl) (by kernel_rfl) (fun t Q => congrFun (congrFun (law04_PackedUnpack_eq law04_does packed_Unpack ref04_Unpack packed_At ref04_At law02_Same) t) Q)
theorem law04_PackedBack_eq (packed_Pack : (Sl × Int) → ((ByteArray × Int) → HProp) → HProp) (packed_Width : (Sl) → ((Int) → HProp) → HProp) (law04_does : (Unit) → ((Bool) → HProp) → HProp) (packed_Unpack : (ByteArray × Int × Int) → ((Sl × Int) → HProp) → HProp) (packed_At : (ByteArray × Int × Int) → ((Int × Int) → HProp) → HProp) (law02_Same : (Sl × Sl) → ((Bool) → HProp) → HProp) : (fun (t : Sl × Int × Int) (Q : (Bool) → HProp) => interpF ⟨Try.prog, [⟨9, [.leaf (.o (.sl)), .leaf (.o (.i .i64))], [.leaf (.o (.s)), .leaf (.o (.i .i64))], packed_Pack⟩, ⟨11, [.leaf (.o (.sl))], [.leaf (.o (.i .i64))], packed_Width⟩, ⟨14, [], [.leaf (.o (.b))], law04_does⟩, ⟨15, [.leaf (.o (.s)), .leaf (.o (.i .i64)), .leaf (.o (.i .i64))], [.leaf (.o (.sl)), .leaf (.o (.i .i64))], packed_Unpack⟩, ⟨17, [.leaf (.o (.s)), .leaf (.o (.i .i64)), .leaf (.o (.i .i64))], [.leaf (.o (.i .i64)), .leaf (.o (.i .i64))], packed_At⟩, ⟨19, [.leaf (.o (.sl)), .leaf (.o (.sl))], [.leaf (.o (.b))], law02_Same⟩], [], []⟩ Try.f5 [(16, ⟨[(7, .leaf (.o (.sl))), (8, .leaf (.o (.i .i64)))], []⟩), (31, ⟨[(51, .leaf (.o (.b)))], []⟩), (45, ⟨[(94, .leaf (.o (.b)))], []⟩), (55, ⟨[(15, .leaf (.o (.i .i64)))], []⟩), (67, ⟨[(117, .leaf (.o (.b)))], []⟩), (74, ⟨[], []⟩)] [.leaf (.o (.sl)), .leaf (.o (.i .u8)), .leaf (.o (.i .u8))] [.leaf (.o (.b))] t Q : (Sl × Int × Int) → ((Bool) → HProp) → HProp) =
fun (t : Sl × Int × Int) (Q : Bool → HProp) =>
  iteW (ltI 500 ↑t.fst.len) (Q true)
    (loopW (Sl.mk none 0 0, 0) fun (s : Sl × Int) (k : Sl × Int → HProp) =>
      iteW (ltI s.snd ↑t.fst.len)
        (indexW s.snd t.fst 1 fun (a : Addr) =>
          loadI IntKind.u32 a fun (x : Int) =>
            mustW ((32 : Int) ≠ 0)
              (mustW ((0 : Int) ≤ rem t.snd.fst 32)
                (appendW s.fst [Value.int IntKind.i64 0] 8 1
                  [Value.int IntKind.i64 (cnv IntKind.i64 (shr IntKind.u32 x (rem t.snd.fst 32)))] fun (u : Sl) =>
                  k (u, add IntKind.i64 s.snd 1))))
        (packed_Width s.fst fun (r : Int) =>
          withK
            (fun (t_1 : Bool) =>
              iteW t_1 (Q false)
                (mustW ((8 : Int) ≠ 0)
                  (packed_Pack (s.fst, minI (add IntKind.i64 r (cnv IntKind.i64 (rem t.snd.snd 8))) 32)
                    fun (r_1 : ByteArray × Int) =>
                    packed_Unpack (r_1.fst, ↑s.fst.len, minI (add IntKind.i64 r (cnv IntKind.i64 (rem t.snd.snd 8))) 32)
                      fun (r_2 : Sl × Int) =>
                      withK
                        (fun (t_2 : Bool) =>
                          iteW t_2 (Q false)
                            (loopW 0 fun (s_1 : Int) (k : Int → HProp) =>
                              iteW (ltI s_1 ↑s.fst.len)
                                (packed_At
                                  (r_1.fst, s_1, minI (add IntKind.i64 r (cnv IntKind.i64 (rem t.snd.snd 8))) 32)
                                  fun (r : Int × Int) =>
                                  withK (fun (t : Bool) => iteW t (Q false) (k (add IntKind.i64 s_1 1)))
                                    fun (k : Bool → HProp) =>
                                    iteW (!eqI r.snd 0) (k true)
                                      (indexW s_1 s.fst 1 fun (a : Addr) =>
                                        loadI IntKind.i64 a fun (x : Int) => k !eqI r.fst x))
                                (withK (fun (t : PUnit) => law04_does () Q)
                                  fun (k : PUnit → HProp) =>
                                  iteW (ltI 0 r)
                                    (packed_Pack (s.fst, sub IntKind.i64 r 1) fun (r : ByteArray × Int) =>
                                      iteW (!eqI r.snd 2) (Q false) (k ()))
                                    (k ()))))
                        fun (k : Bool → HProp) =>
                        iteW (!eqI r_1.snd 0) (k true)
                          (iteW (!eqI r_2.snd 0) (k true)
                            (law02_Same (r_2.fst, s.fst) fun (r_3 : Bool) =>
                              iteW (!r_3) (k true)
                                (mustW ((8 : Int) ≠ 0)
                                  (k
                                    !eqI (↑(ByteArray.size r_1.fst))
                                        (quo IntKind.i64
                                          (add IntKind.i64
                                            (mul IntKind.i64 (↑s.fst.len)
                                              (minI (add IntKind.i64 r (cnv IntKind.i64 (rem t.snd.snd 8))) 32))
                                            7)
                                          8))))))))
            fun (k : Bool → HProp) =>
            iteW (ltI r 0) (k true)
              (mustW ((32 : Int) ≠ 0) (k (ltI (sub IntKind.i64 32 (cnv IntKind.i64 (rem t.snd.fst 32))) r)))))
  := by kernel_rfl
theorem law04_PackedBack_linked : Linked Try.prog ⟨5, [.leaf (.o (.sl)), .leaf (.o (.i .u8)), .leaf (.o (.i .u8))], [.leaf (.o (.b))], law04_PackedBack⟩ := linked_of (fn := Try.f5) Try.func5 rfl (by kernel_rfl) [⟨9, [.leaf (.o (.sl)), .leaf (.o (.i .i64))], [.leaf (.o (.s)), .leaf (.o (.i .i64))], packed_Pack⟩, ⟨11, [.leaf (.o (.sl))], [.leaf (.o (.i .i64))], packed_Width⟩, ⟨14, [], [.leaf (.o (.b))], law04_does⟩, ⟨15, [.leaf (.o (.s)), .leaf (.o (.i .i64)), .leaf (.o (.i .i64))], [.leaf (.o (.sl)), .leaf (.o (.i .i64))], packed_Unpack⟩, ⟨17, [.leaf (.o (.s)), .leaf (.o (.i .i64)), .leaf (.o (.i .i64))], [.leaf (.o (.i .i64)), .leaf (.o (.i .i64))], packed_At⟩, ⟨19, [.leaf (.o (.sl)), .leaf (.o (.sl))], [.leaf (.o (.b))], law02_Same⟩] [] [] [(16, ⟨[(7, .leaf (.o (.sl))), (8, .leaf (.o (.i .i64)))], []⟩), (31, ⟨[(51, .leaf (.o (.b)))], []⟩), (45, ⟨[(94, .leaf (.o (.b)))], []⟩), (55, ⟨[(15, .leaf (.o (.i .i64)))], []⟩), (67, ⟨[(117, .leaf (.o (.b)))], []⟩), (74, ⟨[], []⟩)] (allCons packed_Pack_linked (allCons packed_Width_linked (allCons law04_does_linked (allCons packed_Unpack_linked (allCons packed_At_linked (allCons law02_Same_linked allNil)))))) (by kernel_rfl) (by kernel_rfl) (by kernel_rfl) (fun t Q => congrFun (congrFun (law04_PackedBack_eq packed_Pack packed_Width law04_does packed_Unpack packed_At law02_Same) t) Q)
theorem law04_PackedWay_eq (packed_Pack : (Sl × Int) → ((ByteArray × Int) → HProp) → HProp) (packed_Width : (Sl) → ((Int) → HProp) → HProp) (law04_does : (Unit) → ((Bool) → HProp) → HProp) (packed_Unpack : (ByteArray × Int × Int) → ((Sl × Int) → HProp) → HProp) : (fun (t : ByteArray × Int × Int) (Q : (Bool) → HProp) => interpF ⟨Try.prog, [⟨9, [.leaf (.o (.sl)), .leaf (.o (.i .i64))], [.leaf (.o (.s)), .leaf (.o (.i .i64))], packed_Pack⟩, ⟨11, [.leaf (.o (.sl))], [.leaf (.o (.i .i64))], packed_Width⟩, ⟨14, [], [.leaf (.o (.b))], law04_does⟩, ⟨15, [.leaf (.o (.s)), .leaf (.o (.i .i64)), .leaf (.o (.i .i64))], [.leaf (.o (.sl)), .leaf (.o (.i .i64))], packed_Unpack⟩], [], []⟩ Try.f6 [(19, ⟨[(6, .leaf (.o (.b)))], []⟩), (25, ⟨[(6, .leaf (.o (.b)))], []⟩)] [.leaf (.o (.s)), .leaf (.o (.i .u16)), .leaf (.o (.i .u8))] [.leaf (.o (.b))] t Q : (ByteArray × Int × Int) → ((Bool) → HProp) → HProp) =
fun (t : ByteArray × Int × Int) (Q : Bool → HProp) =>
  iteW (ltI 500 ↑(ByteArray.size t.fst)) (Q true)
    (mustW ((2001 : Int) ≠ 0)
      (mustW ((33 : Int) ≠ 0)
        (packed_Unpack (t.fst, rem (cnv IntKind.i64 t.snd.fst) 2001, rem (cnv IntKind.i64 t.snd.snd) 33)
          fun (r : Sl × Int) =>
          iteW (!eqI r.snd 0)
            (withK Q fun (k : Bool → HProp) =>
              iteW (eqI r.snd 10) (iteW (eqI (↑r.fst.len) 0) (law04_does () k) (k false)) (k false))
            (packed_Pack (r.fst, rem (cnv IntKind.i64 t.snd.snd) 33) fun (r_1 : ByteArray × Int) =>
              withK Q fun (k : Bool → HProp) =>
                iteW (eqI r_1.snd 0)
                  (iteW (eqS r_1.fst t.fst)
                    (iteW (eqI (↑r.fst.len) (rem (cnv IntKind.i64 t.snd.fst) 2001))
                      (packed_Width r.fst fun (r : Int) =>
                        iteW (leI r (rem (cnv IntKind.i64 t.snd.snd) 33)) (law04_does () k) (k false))
                      (k false))
                    (k false))
                  (k false)))))
  := by kernel_rfl
theorem law04_PackedWay_linked : Linked Try.prog ⟨6, [.leaf (.o (.s)), .leaf (.o (.i .u16)), .leaf (.o (.i .u8))], [.leaf (.o (.b))], law04_PackedWay⟩ := linked_of (fn := Try.f6) Try.func6 rfl (by kernel_rfl) [⟨9, [.leaf (.o (.sl)), .leaf (.o (.i .i64))], [.leaf (.o (.s)), .leaf (.o (.i .i64))], packed_Pack⟩, ⟨11, [.leaf (.o (.sl))], [.leaf (.o (.i .i64))], packed_Width⟩, ⟨14, [], [.leaf (.o (.b))], law04_does⟩, ⟨15, [.leaf (.o (.s)), .leaf (.o (.i .i64)), .leaf (.o (.i .i64))], [.leaf (.o (.sl)), .leaf (.o (.i .i64))], packed_Unpack⟩] [] [] [(19, ⟨[(6, .leaf (.o (.b)))], []⟩), (25, ⟨[(6, .leaf (.o (.b)))], []⟩)] (allCons packed_Pack_linked (allCons packed_Width_linked (allCons law04_does_linked (allCons packed_Unpack_linked allNil)))) (by kernel_rfl) (by kernel_rfl) (by kernel_rfl) (fun t Q => congrFun (congrFun (law04_PackedWay_eq packed_Pack packed_Width law04_does packed_Unpack) t) Q)
theorem law04_PackedLength_eq (law04_does : (Unit) → ((Bool) → HProp) → HProp) (packed_Unpack : (ByteArray × Int × Int) → ((Sl × Int) → HProp) → HProp) : (fun (t : Int × Int × ByteArray) (Q : (Bool) → HProp) => interpF ⟨Try.prog, [⟨14, [], [.leaf (.o (.b))], law04_does⟩, ⟨15, [.leaf (.o (.s)), .leaf (.o (.i .i64)), .leaf (.o (.i .i64))], [.leaf (.o (.sl)), .leaf (.o (.i .i64))], packed_Unpack⟩], [], []⟩ Try.f7 [(15, ⟨[(6, .leaf (.o (.b)))], []⟩)] [.leaf (.o (.i .u16)), .leaf (.o (.i .u8)), .leaf (.o (.s))] [.leaf (.o (.b))] t Q : (Int × Int × ByteArray) → ((Bool) → HProp) → HProp) =
fun (t : Int × Int × ByteArray) (Q : Bool → HProp) =>
  iteW (ltI 500 ↑(ByteArray.size t.snd.snd)) (Q true)
    (mustW ((2001 : Int) ≠ 0)
      (mustW ((33 : Int) ≠ 0)
        (packed_Unpack (t.snd.snd, rem (cnv IntKind.i64 t.fst) 2001, rem (cnv IntKind.i64 t.snd.fst) 33)
          fun (r : Sl × Int) =>
          withK Q fun (k : Bool → HProp) =>
            mustW ((8 : Int) ≠ 0)
              (iteW
                (eqI (↑(ByteArray.size t.snd.snd))
                  (quo IntKind.i64
                    (add IntKind.i64
                      (mul IntKind.i64 (rem (cnv IntKind.i64 t.fst) 2001) (rem (cnv IntKind.i64 t.snd.fst) 33)) 7)
                    8))
                (law04_does () k) (iteW (eqI r.snd 10) (law04_does () k) (k false))))))
  := by kernel_rfl
theorem law04_PackedLength_linked : Linked Try.prog ⟨7, [.leaf (.o (.i .u16)), .leaf (.o (.i .u8)), .leaf (.o (.s))], [.leaf (.o (.b))], law04_PackedLength⟩ := linked_of (fn := Try.f7) Try.func7 rfl (by kernel_rfl) [⟨14, [], [.leaf (.o (.b))], law04_does⟩, ⟨15, [.leaf (.o (.s)), .leaf (.o (.i .i64)), .leaf (.o (.i .i64))], [.leaf (.o (.sl)), .leaf (.o (.i .i64))], packed_Unpack⟩] [] [] [(15, ⟨[(6, .leaf (.o (.b)))], []⟩)] (allCons law04_does_linked (allCons packed_Unpack_linked allNil)) (by kernel_rfl) (by kernel_rfl) (by kernel_rfl) (fun t Q => congrFun (congrFun (law04_PackedLength_eq law04_does packed_Unpack) t) Q)
end Go.Cz.S

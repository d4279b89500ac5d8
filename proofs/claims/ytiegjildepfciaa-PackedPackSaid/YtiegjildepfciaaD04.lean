/- Part of the proof of a law of 04: an engine that runs a function over an abstract heap, and what the functions compute; own work. -/
import Derived.Test.YtiegjildepfciaaEng1
set_option linter.unusedVariables false
set_option linter.unusedSimpArgs false
set_option linter.unusedSectionVars false
namespace Go.Cz.S
set_option maxRecDepth 100000
set_option linter.unusedVariables false
def law02_Twin : (Sl) → ((Sl) → HProp) → HProp :=
fun (t : Sl) (Q : Sl → HProp) =>
  makeW 0 (add IntKind.i64 (↑t.len) 1) [Value.int IntKind.i64 0] 8 fun (v : Sl) =>
    rowW t 1 fun (l : List Value) =>
      appendW v [Value.int IntKind.i64 0] 8 t.len l fun (u : Sl) =>
        appendW u [Value.int IntKind.i64 0] 8 1 [Value.int IntKind.i64 (-77)] fun (u : Sl) => sliceW u 1 0 (↑t.len) Q
def math_bits_Len32 : (Int) → ((Int) → HProp) → HProp :=
fun (t : Int) (Q : Int → HProp) =>
  withK
    (fun (t : Int × Int) =>
      withK
        (fun (t : Int × Int) =>
          byteW (cnv IntKind.u8 t.fst)
            (ByteArray.mk
              (([0, 1, 2, 2, 3, 3, 3, 3, 4, 4, 4, 4, 4, 4, 4, 4, 5, 5, 5, 5, 5, 5, 5, 5, 5, 5, 5, 5, 5, 5, 5, 5, 6, 6,
                          6, 6, 6, 6, 6, 6, 6, 6, 6, 6, 6, 6, 6, 6, 6, 6, 6, 6, 6, 6, 6, 6, 6, 6, 6, 6, 6, 6, 6,
                          6].append
                      [7, 7, 7, 7, 7, 7, 7, 7, 7, 7, 7, 7, 7, 7, 7, 7, 7, 7, 7, 7, 7, 7, 7, 7, 7, 7, 7, 7, 7, 7, 7, 7,
                        7, 7, 7, 7, 7, 7, 7, 7, 7, 7, 7, 7, 7, 7, 7, 7, 7, 7, 7, 7, 7, 7, 7, 7, 7, 7, 7, 7, 7, 7, 7,
                        7]).append
                  ([8, 8, 8, 8, 8, 8, 8, 8, 8, 8, 8, 8, 8, 8, 8, 8, 8, 8, 8, 8, 8, 8, 8, 8, 8, 8, 8, 8, 8, 8, 8, 8, 8,
                        8, 8, 8, 8, 8, 8, 8, 8, 8, 8, 8, 8, 8, 8, 8, 8, 8, 8, 8, 8, 8, 8, 8, 8, 8, 8, 8, 8, 8, 8,
                        8].append
                    [8, 8, 8, 8, 8, 8, 8, 8, 8, 8, 8, 8, 8, 8, 8, 8, 8, 8, 8, 8, 8, 8, 8, 8, 8, 8, 8, 8, 8, 8, 8, 8, 8,
                      8, 8, 8, 8, 8, 8, 8, 8, 8, 8, 8, 8, 8, 8, 8, 8, 8, 8, 8, 8, 8, 8, 8, 8, 8, 8, 8, 8, 8, 8,
                      8])).toArray)
            fun (c : Int) => Q (add IntKind.i64 t.snd (cnv IntKind.i64 c)))
        fun (k : Int × Int → HProp) =>
        iteW (leI 256 t.fst) (mustW ((0 : Int) ≤ 8) (k (shr IntKind.u32 t.fst 8, add IntKind.i64 t.snd 8))) (k (t.fst, t.snd)))
    fun (k : Int × Int → HProp) =>
    iteW (leI 65536 t) (mustW ((0 : Int) ≤ 16) (k (shr IntKind.u32 t 16, 16))) (k (t, 0))
def math_bits_Len64 : (Int) → ((Int) → HProp) → HProp :=
fun (t : Int) (Q : Int → HProp) =>
  withK
    (fun (t : Int × Int) =>
      withK
        (fun (t : Int × Int) =>
          withK
            (fun (t : Int × Int) =>
              byteW (cnv IntKind.u8 t.fst)
                (ByteArray.mk
                  (([0, 1, 2, 2, 3, 3, 3, 3, 4, 4, 4, 4, 4, 4, 4, 4, 5, 5, 5, 5, 5, 5, 5, 5, 5, 5, 5, 5, 5, 5, 5, 5, 6,
                              6, 6, 6, 6, 6, 6, 6, 6, 6, 6, 6, 6, 6, 6, 6, 6, 6, 6, 6, 6, 6, 6, 6, 6, 6, 6, 6, 6, 6, 6,
                              6].append
                          [7, 7, 7, 7, 7, 7, 7, 7, 7, 7, 7, 7, 7, 7, 7, 7, 7, 7, 7, 7, 7, 7, 7, 7, 7, 7, 7, 7, 7, 7, 7,
                            7, 7, 7, 7, 7, 7, 7, 7, 7, 7, 7, 7, 7, 7, 7, 7, 7, 7, 7, 7, 7, 7, 7, 7, 7, 7, 7, 7, 7, 7, 7,
                            7, 7]).append
                      ([8, 8, 8, 8, 8, 8, 8, 8, 8, 8, 8, 8, 8, 8, 8, 8, 8, 8, 8, 8, 8, 8, 8, 8, 8, 8, 8, 8, 8, 8, 8, 8,
                            8, 8, 8, 8, 8, 8, 8, 8, 8, 8, 8, 8, 8, 8, 8, 8, 8, 8, 8, 8, 8, 8, 8, 8, 8, 8, 8, 8, 8, 8, 8,
                            8].append
                        [8, 8, 8, 8, 8, 8, 8, 8, 8, 8, 8, 8, 8, 8, 8, 8, 8, 8, 8, 8, 8, 8, 8, 8, 8, 8, 8, 8, 8, 8, 8, 8,
                          8, 8, 8, 8, 8, 8, 8, 8, 8, 8, 8, 8, 8, 8, 8, 8, 8, 8, 8, 8, 8, 8, 8, 8, 8, 8, 8, 8, 8, 8, 8,
                          8])).toArray)
                fun (c : Int) => Q (add IntKind.i64 t.snd (cnv IntKind.i64 c)))
            fun (k : Int × Int → HProp) =>
            iteW (leI 256 t.fst) (mustW ((0 : Int) ≤ 8) (k (shr IntKind.u64 t.fst 8, add IntKind.i64 t.snd 8)))
              (k (t.fst, t.snd)))
        fun (k : Int × Int → HProp) =>
        iteW (leI 65536 t.fst) (mustW ((0 : Int) ≤ 16) (k (shr IntKind.u64 t.fst 16, add IntKind.i64 t.snd 16)))
          (k (t.fst, t.snd)))
    fun (k : Int × Int → HProp) =>
    iteW (leI 4294967296 t) (mustW ((0 : Int) ≤ 32) (k (shr IntKind.u64 t 32, 32))) (k (t, 0))
def math_bits_Len : (Int) → ((Int) → HProp) → HProp :=
fun (t : Int) (Q : Int → HProp) => math_bits_Len64 t Q
def packed_width : (Int) → ((Int) → HProp) → HProp :=
fun (t : Int) (Q : Int → HProp) =>
  iteW (ltI t 0) (Q 33) (math_bits_Len (cnv IntKind.u64 t) fun (r : Int) => Q (minI r 33))
def packed_Width : (Sl) → ((Int) → HProp) → HProp :=
fun (t : Sl) (Q : Int → HProp) =>
  loopW (0, 0) fun (s : Int × Int) (k : Int × Int → HProp) =>
    iteW (ltI s.snd ↑t.len)
      (indexW s.snd t 1 fun (a : Addr) =>
        loadI IntKind.i64 a fun (x : Int) => packed_width x fun (r : Int) => k (maxI s.fst r, add IntKind.i64 s.snd 1))
      (Q s.fst)
def packed_Pack_c1 : (Int × (Option Addr) × (Option Addr) × (Option Addr)) → ((Unit) → HProp) → HProp :=
fun (t : Int × Option Addr × Option Addr × Option Addr) (Q : Unit → HProp) =>
  loopW () fun (s : PUnit) (k : PUnit → HProp) =>
    withK
      (fun (t_1 : Bool) =>
        iteW t_1
          (derefW t.snd.snd.fst fun (a : Addr) =>
            loadL a fun (x : Sl) =>
              derefW t.snd.snd.snd fun (a : Addr) =>
                loadI IntKind.u64 a fun (x_1 : Int) =>
                  appendW x [Value.int IntKind.u8 0] 1 1 [Value.int IntKind.u8 (cnv IntKind.u8 x_1)] fun (u : Sl) =>
                    derefW t.snd.snd.fst fun (a : Addr) =>
                      storeW a (Value.slice u.a u.len u.cap)
                        (derefW t.snd.snd.snd fun (a : Addr) =>
                          loadI IntKind.u64 a fun (x : Int) =>
                            mustW ((0 : Int) ≤ 8)
                              (derefW t.snd.snd.snd fun (a : Addr) =>
                                storeW a (Value.int IntKind.u64 (shr IntKind.u64 x 8))
                                  (derefW t.snd.fst fun (a : Addr) =>
                                    loadI IntKind.i64 a fun (x : Int) =>
                                      derefW t.snd.fst fun (a : Addr) =>
                                        storeW a (Value.int IntKind.i64 (sub IntKind.i64 x 8)) (k ())))))
          (Q ()))
      fun (k : Bool → HProp) =>
      derefW t.snd.fst fun (a : Addr) =>
        loadI IntKind.i64 a fun (x : Int) =>
          iteW (leI t.fst x) (derefW t.snd.fst fun (a : Addr) => loadI IntKind.i64 a fun (x : Int) => k (ltI 0 x))
            (k false)
def packed_Pack : (Sl × Int) → ((ByteArray × Int) → HProp) → HProp :=
fun (t : Sl × Int) (Q : ByteArray × Int → HProp) =>
  withK
    (fun (t_1 : Bool) =>
      iteW t_1 (Q (ByteArray.mk #[], 2))
        (iteW (ltI 65536 ↑t.fst.len) (Q (ByteArray.mk #[], 3))
          (newW [Value.slice (Sl.mk none 0 0).a 0 0] fun (b : Nat) =>
            newW [Value.int IntKind.u64 0] fun (b_1 : Nat) =>
              newW [Value.int IntKind.i64 0] fun (b_2 : Nat) =>
                storeW (Addr.mk b_1 0 none) (Value.int IntKind.u64 0)
                  (storeW (Addr.mk b_2 0 none) (Value.int IntKind.i64 0)
                    (loopW 0 fun (s : Int) (k : Int → HProp) =>
                      iteW (ltI s ↑t.fst.len)
                        (indexW s t.fst 1 fun (a : Addr) =>
                          loadI IntKind.i64 a fun (x : Int) =>
                            loadI IntKind.u64 (Addr.mk b_1 0 none) fun (x_1 : Int) =>
                              loadI IntKind.i64 (Addr.mk b_2 0 none) fun (x_2 : Int) =>
                                mustW ((0 : Int) ≤ x_2)
                                  (storeW (Addr.mk b_1 0 none)
                                    (Value.int IntKind.u64
                                      (orI IntKind.u64 x_1 (shl IntKind.u64 (cnv IntKind.u64 x) x_2)))
                                    (loadI IntKind.i64 (Addr.mk b_2 0 none) fun (x : Int) =>
                                      storeW (Addr.mk b_2 0 none) (Value.int IntKind.i64 (add IntKind.i64 x t.snd))
                                        (packed_Pack_c1
                                          (8, some (Addr.mk b_2 0 none), some (Addr.mk b 0 none),
                                            some (Addr.mk b_1 0 none))
                                          fun (r : PUnit) => k (add IntKind.i64 s 1)))))
                        (packed_Pack_c1
                          (1, some (Addr.mk b_2 0 none), some (Addr.mk b 0 none), some (Addr.mk b_1 0 none))
                          fun (r : PUnit) =>
                          loadL (Addr.mk b 0 none) fun (x : Sl) => textW x fun (z : ByteArray) => Q (z, 0)))))))
    fun (k : Bool → HProp) =>
    iteW (ltI t.snd 0) (k true) (iteW (ltI 32 t.snd) (k true) (packed_Width t.fst fun (r : Int) => k (ltI t.snd r)))
def ref04_may : (Int × Int) → ((Bool) → HProp) → HProp :=
fun (t : Int × Int) (Q : Bool → HProp) =>
  withK Q fun (k : Bool → HProp) =>
    iteW (leI 0 t.fst) (mustW ((0 : Int) ≤ t.snd) (k (ltI t.fst (shl IntKind.i64 1 t.snd)))) (k false)
def ref04_Pack : (Sl × Int) → ((ByteArray × Int) → HProp) → HProp :=
fun (t : Sl × Int) (Q : ByteArray × Int → HProp) =>
  withK
    (fun (t_1 : Bool) =>
      iteW t_1 (Q (ByteArray.mk #[], 2))
        (loopW 0 fun (s : Int) (k : Int → HProp) =>
          iteW (ltI s ↑t.fst.len)
            (indexW s t.fst 1 fun (a : Addr) =>
              loadI IntKind.i64 a fun (x : Int) =>
                ref04_may (x, t.snd) fun (r : Bool) => iteW (!r) (Q (ByteArray.mk #[], 2)) (k (add IntKind.i64 s 1)))
            (iteW (ltI 65536 ↑t.fst.len) (Q (ByteArray.mk #[], 3))
              (mustW ((8 : Int) ≠ 0)
                (makeW (quo IntKind.i64 (add IntKind.i64 (mul IntKind.i64 (↑t.fst.len) t.snd) 7) 8)
                  (quo IntKind.i64 (add IntKind.i64 (mul IntKind.i64 (↑t.fst.len) t.snd) 7) 8) [Value.int IntKind.u8 0]
                  1 fun (v : Sl) =>
                  loopW 0 fun (s : Int) (k : Int → HProp) =>
                    iteW (ltI s ↑t.fst.len)
                      (loopW 0 fun (s_1 : Int) (k_1 : Int → HProp) =>
                        iteW (ltI s_1 t.snd)
                          (withK (fun (t : PUnit) => k_1 (add IntKind.i64 s_1 1))
                            fun (k : PUnit → HProp) =>
                            indexW s t.fst 1 fun (a : Addr) =>
                              loadI IntKind.i64 a fun (x : Int) =>
                                mustW ((0 : Int) ≤ s_1)
                                  (mustW ((2 : Int) ≠ 0)
                                    (iteW (eqI (rem (shr IntKind.i64 x s_1) 2) 1)
                                      (mustW ((8 : Int) ≠ 0)
                                        (mustW ((8 : Int) ≠ 0)
                                          (indexW (quo IntKind.i64 (add IntKind.i64 (mul IntKind.i64 s t.snd) s_1) 8) v
                                            1 fun (a : Addr) =>
                                            loadI IntKind.u8 a fun (x : Int) =>
                                              mustW ((8 : Int) ≠ 0)
                                                (mustW ((0 : Int) ≤ rem (add IntKind.i64 (mul IntKind.i64 s t.snd) s_1) 8)
                                                  (indexW
                                                    (quo IntKind.i64 (add IntKind.i64 (mul IntKind.i64 s t.snd) s_1) 8)
                                                    v 1 fun (a : Addr) =>
                                                    storeW a
                                                      (Value.int IntKind.u8
                                                        (add IntKind.u8 x
                                                          (shl IntKind.u8 1
                                                            (rem (add IntKind.i64 (mul IntKind.i64 s t.snd) s_1) 8))))
                                                      (k ()))))))
                                      (k ()))))
                          (k (add IntKind.i64 s 1)))
                      (textW v fun (z : ByteArray) => Q (z, 0)))))))
    fun (k : Bool → HProp) => iteW (ltI t.snd 0) (k true) (k (ltI 32 t.snd))
def ref04_Width : (Sl) → ((Int) → HProp) → HProp :=
fun (t : Sl) (Q : Int → HProp) =>
  loopW 0 fun (s : Int) (k : Int → HProp) =>
    iteW (leI s 32)
      (loopW (true, 0) fun (s_1 : Bool × Int) (k_1 : Bool × Int → HProp) =>
        iteW (ltI s_1.snd ↑t.len)
          (withK (fun (t : Bool) => k_1 (t, add IntKind.i64 s_1.snd 1)) fun (k : Bool → HProp) =>
            iteW s_1.fst (indexW s_1.snd t 1 fun (a : Addr) => loadI IntKind.i64 a fun (x : Int) => ref04_may (x, s) k)
              (k false))
          (iteW s_1.fst (Q s) (k (add IntKind.i64 s 1))))
      (Q 33)
def law02_Same : (Sl × Sl) → ((Bool) → HProp) → HProp :=
fun (t : Sl × Sl) (Q : Bool → HProp) =>
  iteW (!eqI ↑t.fst.len ↑t.snd.len) (Q false)
    (loopW 0 fun (s : Int) (k : Int → HProp) =>
      iteW (ltI s ↑t.fst.len)
        (indexW s t.fst 1 fun (a : Addr) =>
          loadI IntKind.i64 a fun (x : Int) =>
            indexW s t.snd 1 fun (a : Addr) =>
              loadI IntKind.i64 a fun (x_1 : Int) => iteW (!eqI x x_1) (Q false) (k (add IntKind.i64 s 1)))
        (Q true))
def law02_Left : (Sl × Sl) → ((Bool) → HProp) → HProp :=
fun (t : Sl × Sl) (Q : Bool → HProp) =>
  withK Q fun (k : Bool → HProp) =>
    law02_Same (t.fst, t.snd) fun (r : Bool) =>
      iteW r
        (iteW (ltI ↑t.snd.len ↑t.fst.cap)
          (sliceW t.fst 1 0 (add IntKind.i64 (↑t.snd.len) 1) fun (u : Sl) =>
            indexW (↑t.snd.len) u 1 fun (a : Addr) => loadI IntKind.i64 a fun (x : Int) => k (eqI x (-77)))
          (k false))
        (k false)
def packed_number : (ByteArray × Int × Int) → ((Int) → HProp) → HProp :=
fun (t : ByteArray × Int × Int) (Q : Int → HProp) =>
  mustW ((8 : Int) ≠ 0)
    (mustW ((8 : Int) ≠ 0)
      (cutW t.fst (quo IntKind.i64 t.snd.fst 8)
        (minI (quo IntKind.i64 (add IntKind.i64 (add IntKind.i64 t.snd.fst t.snd.snd) 7) 8) ↑(ByteArray.size t.fst))
        fun (u : ByteArray) =>
        bytesW u fun (v : Sl) =>
          loopW (0, 0) fun (s : Int × Int) (k : Int × Int → HProp) =>
            iteW (ltI s.snd ↑v.len)
              (indexW s.snd v 1 fun (a : Addr) =>
                loadI IntKind.u8 a fun (x : Int) =>
                  mustW ((0 : Int) ≤ mul IntKind.i64 8 s.snd)
                    (k
                      (orI IntKind.u64 s.fst (shl IntKind.u64 (cnv IntKind.u64 x) (mul IntKind.i64 8 s.snd)),
                        add IntKind.i64 s.snd 1)))
              (mustW ((8 : Int) ≠ 0)
                (mustW ((0 : Int) ≤ rem t.snd.fst 8)
                  (mustW ((0 : Int) ≤ t.snd.snd)
                    (Q
                      (cnv IntKind.i64
                        (andI IntKind.u64 (shr IntKind.u64 s.fst (rem t.snd.fst 8))
                          (sub IntKind.u64 (shl IntKind.u64 1 t.snd.snd) 1)))))))))
def packed_Unpack : (ByteArray × Int × Int) → ((Sl × Int) → HProp) → HProp :=
fun (t : ByteArray × Int × Int) (Q : Sl × Int → HProp) =>
  withK
    (fun (t_1 : Bool) =>
      iteW t_1 (Q (Sl.mk none 0 0, 2))
        (iteW (ltI 65536 t.snd.fst) (Q (Sl.mk none 0 0, 3))
          (mustW ((8 : Int) ≠ 0)
            (iteW
              (!eqI (↑(ByteArray.size t.fst))
                  (quo IntKind.i64 (add IntKind.i64 (mul IntKind.i64 t.snd.fst t.snd.snd) 7) 8))
              (Q (Sl.mk none 0 0, 10))
              (withK
                (fun (t_2 : Bool) =>
                  iteW t_2 (Q (Sl.mk none 0 0, 10))
                    (makeW t.snd.fst t.snd.fst [Value.int IntKind.i64 0] 8 fun (v : Sl) =>
                      loopW 0 fun (s : Int) (k : Int → HProp) =>
                        iteW (ltI s ↑v.len)
                          (packed_number (t.fst, mul IntKind.i64 s t.snd.snd, t.snd.snd) fun (r : Int) =>
                            indexW s v 1 fun (a : Addr) => storeW a (Value.int IntKind.i64 r) (k (add IntKind.i64 s 1)))
                          (Q (v, 0))))
                fun (k : Bool → HProp) =>
                mustW ((8 : Int) ≠ 0)
                  (iteW (ltI 0 (rem (mul IntKind.i64 t.snd.fst t.snd.snd) 8))
                    (byteW (sub IntKind.i64 (↑(ByteArray.size t.fst)) 1) t.fst fun (c : Int) =>
                      mustW ((8 : Int) ≠ 0)
                        (mustW ((0 : Int) ≤ rem (mul IntKind.i64 t.snd.fst t.snd.snd) 8)
                          (k (ltI 0 (shr IntKind.u8 c (rem (mul IntKind.i64 t.snd.fst t.snd.snd) 8))))))
                    (k false)))))))
    fun (k : Bool → HProp) =>
    iteW (ltI t.snd.snd 0) (k true) (iteW (ltI 32 t.snd.snd) (k true) (k (ltI t.snd.fst 0)))
def packed_At : (ByteArray × Int × Int) → ((Int × Int) → HProp) → HProp :=
fun (t : ByteArray × Int × Int) (Q : Int × Int → HProp) =>
  withK
    (fun (t_1 : Bool) =>
      iteW t_1 (Q (0, 2))
        (iteW (eqI t.snd.snd 0) (Q (0, 0))
          (mustW ((t.snd.snd : Int) ≠ 0)
            (iteW (leI (quo IntKind.i64 (mul IntKind.i64 8 ↑(ByteArray.size t.fst)) t.snd.snd) t.snd.fst) (Q (0, 4))
              (packed_number (t.fst, mul IntKind.i64 t.snd.fst t.snd.snd, t.snd.snd) fun (r : Int) => Q (r, 0))))))
    fun (k : Bool → HProp) =>
    iteW (ltI t.snd.snd 0) (k true) (iteW (ltI 32 t.snd.snd) (k true) (k (ltI t.snd.fst 0)))
def law04_does : (Unit) → ((Bool) → HProp) → HProp :=
fun (t : Unit) (Q : Bool → HProp) =>
  newW [Value.int IntKind.i64 1, Value.int IntKind.i64 2, Value.int IntKind.i64 3] fun (b : Nat) =>
    packed_Pack (Sl.mk (some (Addr.mk b 0 none)) 3 3, 3) fun (r : ByteArray × Int) =>
      newW [Value.int IntKind.i64 8] fun (b : Nat) =>
        packed_Pack (Sl.mk (some (Addr.mk b 0 none)) 1 1, 3) fun (r_1 : ByteArray × Int) =>
          packed_At (ByteArray.mk #[209, 0], 0, 3) fun (r_2 : Int × Int) =>
            packed_At (ByteArray.mk #[209, 0], 2, 3) fun (r_3 : Int × Int) =>
              packed_At (ByteArray.mk #[209, 0], 5, 3) fun (r_4 : Int × Int) =>
                packed_Unpack (ByteArray.mk #[209, 0], 3, 3) fun (r_5 : Sl × Int) =>
                  withK Q fun (k : Bool → HProp) =>
                    newW [Value.int IntKind.i64 0, Value.int IntKind.i64 5] fun (b : Nat) =>
                      packed_Width (Sl.mk (some (Addr.mk b 0 none)) 2 2) fun (r_6 : Int) =>
                        iteW (eqI r_6 3)
                          (packed_Width (Sl.mk none 0 0) fun (r_7 : Int) =>
                            iteW (eqI r_7 0)
                              (newW [Value.int IntKind.i64 (-1)] fun (b : Nat) =>
                                packed_Width (Sl.mk (some (Addr.mk b 0 none)) 1 1) fun (r_8 : Int) =>
                                  iteW (eqI r_8 33)
                                    (newW [Value.int IntKind.i64 4294967296] fun (b : Nat) =>
                                      packed_Width (Sl.mk (some (Addr.mk b 0 none)) 1 1) fun (r_9 : Int) =>
                                        iteW (eqI r_9 33)
                                          (iteW (eqI r.snd 0)
                                            (iteW (eqS r.fst (ByteArray.mk #[209, 0]))
                                              (iteW (eqI r_1.snd 2)
                                                (iteW (eqI r_2.fst 1)
                                                  (iteW (eqI r_2.snd 0)
                                                    (iteW (eqI r_3.fst 3)
                                                      (iteW (eqI r_3.snd 0)
                                                        (iteW (eqI r_4.snd 4)
                                                          (iteW (eqI r_5.snd 0)
                                                            (newW
                                                              [Value.int IntKind.i64 1, Value.int IntKind.i64 2,
                                                                Value.int IntKind.i64 3]
                                                              fun (b : Nat) =>
                                                              law02_Same (r_5.fst, Sl.mk (some (Addr.mk b 0 none)) 3 3)
                                                                k)
                                                            (k false))
                                                          (k false))
                                                        (k false))
                                                      (k false))
                                                    (k false))
                                                  (k false))
                                                (k false))
                                              (k false))
                                            (k false))
                                          (k false))
                                    (k false))
                              (k false))
                          (k false)
def law04_PackedPack : (Sl × Int) → ((Bool) → HProp) → HProp :=
fun (t : Sl × Int) (Q : Bool → HProp) =>
  iteW (ltI 500 ↑t.fst.len) (Q true)
    (law02_Twin t.fst fun (r : Sl) =>
      packed_Pack (r, t.snd) fun (r_1 : ByteArray × Int) =>
        ref04_Pack (t.fst, t.snd) fun (r_2 : ByteArray × Int) =>
          withK Q fun (k : Bool → HProp) =>
            iteW (eqS r_1.fst r_2.fst)
              (iteW (eqI r_1.snd r_2.snd)
                (packed_Width r fun (r_3 : Int) =>
                  ref04_Width t.fst fun (r_4 : Int) =>
                    iteW (eqI r_3 r_4) (law02_Left (r, t.fst) fun (r : Bool) => iteW r (law04_does () k) (k false))
                      (k false))
                (k false))
              (k false))
def ref04_bit : (ByteArray × Int) → ((Bool) → HProp) → HProp :=
fun (t : ByteArray × Int) (Q : Bool → HProp) =>
  withK Q fun (k : Bool → HProp) =>
    mustW ((8 : Int) ≠ 0)
      (iteW (ltI (quo IntKind.i64 t.snd 8) ↑(ByteArray.size t.fst))
        (mustW ((8 : Int) ≠ 0)
          (byteW (quo IntKind.i64 t.snd 8) t.fst fun (c : Int) =>
            mustW ((8 : Int) ≠ 0)
              (mustW ((0 : Int) ≤ rem t.snd 8) (mustW ((2 : Int) ≠ 0) (k (eqI (rem (shr IntKind.u8 c (rem t.snd 8)) 2) 1))))))
        (k false))
def ref04_number : (ByteArray × Int × Int) → ((Int) → HProp) → HProp :=
fun (t : ByteArray × Int × Int) (Q : Int → HProp) =>
  loopW (0, sub IntKind.i64 t.snd.snd 1) fun (s : Int × Int) (k : Int × Int → HProp) =>
    iteW (leI 0 s.snd)
      (withK (fun (t : Int) => k (t, sub IntKind.i64 s.snd 1)) fun (k : Int → HProp) =>
        ref04_bit (t.fst, add IntKind.i64 (mul IntKind.i64 t.snd.fst t.snd.snd) s.snd) fun (r : Bool) =>
          iteW r (k (add IntKind.i64 (mul IntKind.i64 2 s.fst) 1)) (k (mul IntKind.i64 2 s.fst)))
      (Q s.fst)
def ref04_Unpack : (ByteArray × Int × Int) → ((Sl × Int) → HProp) → HProp :=
fun (t : ByteArray × Int × Int) (Q : Sl × Int → HProp) =>
  withK
    (fun (t_1 : Bool) =>
      iteW t_1 (Q (Sl.mk none 0 0, 2))
        (iteW (ltI 65536 t.snd.fst) (Q (Sl.mk none 0 0, 3))
          (loopW (Sl.mk none 0 0, 0) fun (s : Sl × Int) (k : Sl × Int → HProp) =>
            iteW (ltI s.snd t.snd.fst)
              (ref04_number (t.fst, s.snd, t.snd.snd) fun (r : Int) =>
                appendW s.fst [Value.int IntKind.i64 0] 8 1 [Value.int IntKind.i64 r] fun (u : Sl) =>
                  k (u, add IntKind.i64 s.snd 1))
              (ref04_Pack (s.fst, t.snd.snd) fun (r : ByteArray × Int) =>
                iteW (!eqS r.fst t.fst) (Q (Sl.mk none 0 0, 10)) (Q (s.fst, 0))))))
    fun (k : Bool → HProp) =>
    iteW (ltI t.snd.snd 0) (k true) (iteW (ltI 32 t.snd.snd) (k true) (k (ltI t.snd.fst 0)))
def ref04_At : (ByteArray × Int × Int) → ((Int × Int) → HProp) → HProp :=
fun (t : ByteArray × Int × Int) (Q : Int × Int → HProp) =>
  withK
    (fun (t_1 : Bool) =>
      iteW t_1 (Q (0, 2))
        (withK
          (fun (t_2 : Bool) =>
            iteW t_2 (Q (0, 4))
              (iteW (eqI t.snd.snd 0) (Q (0, 0))
                (ref04_number (t.fst, t.snd.fst, t.snd.snd) fun (r : Int) => Q (r, 0))))
          fun (k : Bool → HProp) =>
          iteW (ltI 0 t.snd.snd)
            (mustW ((t.snd.snd : Int) ≠ 0)
              (k (leI (quo IntKind.i64 (mul IntKind.i64 8 ↑(ByteArray.size t.fst)) t.snd.snd) t.snd.fst)))
            (k false)))
    fun (k : Bool → HProp) =>
    iteW (ltI t.snd.snd 0) (k true) (iteW (ltI 32 t.snd.snd) (k true) (k (ltI t.snd.fst 0)))
def law04_PackedUnpack : (ByteArray × Int × Int) → ((Bool) → HProp) → HProp :=
fun (t : ByteArray × Int × Int) (Q : Bool → HProp) =>
  withK
    (fun (t_1 : Bool) =>
      iteW t_1 (Q true)
        (packed_Unpack (t.fst, t.snd.fst, t.snd.snd) fun (r : Sl × Int) =>
          ref04_Unpack (t.fst, t.snd.fst, t.snd.snd) fun (r_1 : Sl × Int) =>
            packed_At (t.fst, t.snd.fst, t.snd.snd) fun (r_2 : Int × Int) =>
              ref04_At (t.fst, t.snd.fst, t.snd.snd) fun (r_3 : Int × Int) =>
                withK Q fun (k : Bool → HProp) =>
                  law02_Same (r.fst, r_1.fst) fun (r_4 : Bool) =>
                    iteW r_4
                      (iteW (eqI r.snd r_1.snd)
                        (iteW (eqI r_2.fst r_3.fst) (iteW (eqI r_2.snd r_3.snd) (law04_does () k) (k false)) (k false))
                        (k false))
                      (k false)))
    fun (k : Bool → HProp) =>
    iteW (ltI 500 ↑(ByteArray.size t.fst)) (k true) (iteW (ltI 2000 t.snd.fst) (k (leI t.snd.fst 65536)) (k false))
def law04_PackedBack : (Sl × Int × Int) → ((Bool) → HProp) → HProp :=
fun (t : Sl × Int × Int) (Q : Bool → HProp) =>
  iteW (ltI 500 ↑t.fst.len) (Q true)
    (loopW (Sl.mk none 0 0, 0) fun (s : Sl × Int) (k : Sl × Int → HProp) =>
      iteW (ltI s.snd ↑t.fst.len)
        (indexW s.snd t.fst 1 fun (a : Addr) =>
          loadI IntKind.u32 a fun (x : Int) =>
            mustW ((32 : Int) ≠ 0)
              (mustW ((0 : Int) ≤ rem t.snd.fst 32)
                (appendW s.fst [Value.int IntKind.i64 0] 8 1
                  [Value.int IntKind.i64 (cnv IntKind.i64 (shr IntKind.u32 x (rem t.snd.fst 32)))] fun (u : Sl) =>
                  k (u, add IntKind.i64 s.snd 1))))
        (packed_Width s.fst fun (r : Int) =>
          withK
            (fun (t_1 : Bool) =>
              iteW t_1 (Q false)
                (mustW ((8 : Int) ≠ 0)
                  (packed_Pack (s.fst, minI (add IntKind.i64 r (cnv IntKind.i64 (rem t.snd.snd 8))) 32)
                    fun (r_1 : ByteArray × Int) =>
                    packed_Unpack (r_1.fst, ↑s.fst.len, minI (add IntKind.i64 r (cnv IntKind.i64 (rem t.snd.snd 8))) 32)
                      fun (r_2 : Sl × Int) =>
                      withK
                        (fun (t_2 : Bool) =>
                          iteW t_2 (Q false)
                            (loopW 0 fun (s_1 : Int) (k : Int → HProp) =>
                              iteW (ltI s_1 ↑s.fst.len)
                                (packed_At
                                  (r_1.fst, s_1, minI (add IntKind.i64 r (cnv IntKind.i64 (rem t.snd.snd 8))) 32)
                                  fun (r : Int × Int) =>
                                  withK (fun (t : Bool) => iteW t (Q false) (k (add IntKind.i64 s_1 1)))
                                    fun (k : Bool → HProp) =>
                                    iteW (!eqI r.snd 0) (k true)
                                      (indexW s_1 s.fst 1 fun (a : Addr) =>
                                        loadI IntKind.i64 a fun (x : Int) => k !eqI r.fst x))
                                (withK (fun (t : PUnit) => law04_does () Q)
                                  fun (k : PUnit → HProp) =>
                                  iteW (ltI 0 r)
                                    (packed_Pack (s.fst, sub IntKind.i64 r 1) fun (r : ByteArray × Int) =>
                                      iteW (!eqI r.snd 2) (Q false) (k ()))
                                    (k ()))))
                        fun (k : Bool → HProp) =>
                        iteW (!eqI r_1.snd 0) (k true)
                          (iteW (!eqI r_2.snd 0) (k true)
                            (law02_Same (r_2.fst, s.fst) fun (r_3 : Bool) =>
                              iteW (!r_3) (k true)
                                (mustW ((8 : Int) ≠ 0)
                                  (k
                                    !eqI (↑(ByteArray.size r_1.fst))
                                        (quo IntKind.i64
                                          (add IntKind.i64
                                            (mul IntKind.i64 (↑s.fst.len)
                                              (minI (add IntKind.i64 r (cnv IntKind.i64 (rem t.snd.snd 8))) 32))
                                            7)
                                          8))))))))
            fun (k : Bool → HProp) =>
            iteW (ltI r 0) (k true)
              (mustW ((32 : Int) ≠ 0) (k (ltI (sub IntKind.i64 32 (cnv IntKind.i64 (rem t.snd.fst 32))) r)))))
def law04_PackedWay : (ByteArray × Int × Int) → ((Bool) → HProp) → HProp :=
fun (t : ByteArray × Int × Int) (Q : Bool → HProp) =>
  iteW (ltI 500 ↑(ByteArray.size t.fst)) (Q true)
    (mustW ((2001 : Int) ≠ 0)
      (mustW ((33 : Int) ≠ 0)
        (packed_Unpack (t.fst, rem (cnv IntKind.i64 t.snd.fst) 2001, rem (cnv IntKind.i64 t.snd.snd) 33)
          fun (r : Sl × Int) =>
          iteW (!eqI r.snd 0)
            (withK Q fun (k : Bool → HProp) =>
              iteW (eqI r.snd 10) (iteW (eqI (↑r.fst.len) 0) (law04_does () k) (k false)) (k false))
            (packed_Pack (r.fst, rem (cnv IntKind.i64 t.snd.snd) 33) fun (r_1 : ByteArray × Int) =>
              withK Q fun (k : Bool → HProp) =>
                iteW (eqI r_1.snd 0)
                  (iteW (eqS r_1.fst t.fst)
                    (iteW (eqI (↑r.fst.len) (rem (cnv IntKind.i64 t.snd.fst) 2001))
                      (packed_Width r.fst fun (r : Int) =>
                        iteW (leI r (rem (cnv IntKind.i64 t.snd.snd) 33)) (law04_does () k) (k false))
                      (k false))
                    (k false))
                  (k false)))))
def law04_PackedLength : (Int × Int × ByteArray) → ((Bool) → HProp) → HProp :=
fun (t : Int × Int × ByteArray) (Q : Bool → HProp) =>
  iteW (ltI 500 ↑(ByteArray.size t.snd.snd)) (Q true)
    (mustW ((2001 : Int) ≠ 0)
      (mustW ((33 : Int) ≠ 0)
        (packed_Unpack (t.snd.snd, rem (cnv IntKind.i64 t.fst) 2001, rem (cnv IntKind.i64 t.snd.fst) 33)
          fun (r : Sl × Int) =>
          withK Q fun (k : Bool → HProp) =>
            mustW ((8 : Int) ≠ 0)
              (iteW
                (eqI (↑(ByteArray.size t.snd.snd))
                  (quo IntKind.i64
                    (add IntKind.i64
                      (mul IntKind.i64 (rem (cnv IntKind.i64 t.fst) 2001) (rem (cnv IntKind.i64 t.snd.fst) 33)) 7)
                    8))
                (law04_does () k) (iteW (eqI r.snd 10) (law04_does () k) (k false))))))
end Go.Cz.S

/- Part of the proof of a law of 22: an engine that runs a function over an abstract heap, and what the functions compute; own work. -/
import Derived.Test.YtgfncopifhnkcaaEng1
set_option linter.unusedVariables false
set_option linter.unusedSimpArgs false
set_option linter.unusedSectionVars false
namespace Go.Cz.S
set_option maxRecDepth 100000
set_option linter.unusedVariables false
def rounds_New : (Int) → (((Option Addr) × Int) → HProp) → HProp :=
fun (t : Int) (Q : Option Addr × Int → HProp) =>
  withK
    (fun (t_1 : Bool) =>
      iteW t_1 (Q (none, 2))
        (newW [Value.int IntKind.i64 t, Value.int IntKind.i64 0, Value.int IntKind.u32 0] fun (b : Nat) =>
          Q (some (Addr.mk b 0 none), 0)))
    fun (k : Bool → HProp) => iteW (ltI t 1) (k true) (k (ltI 16 t))
def rounds_Cover_none : ((Option Addr)) → ((Bool) → HProp) → HProp :=
fun (t : Option Addr) (Q : Bool → HProp) =>
  withK Q fun (k : Bool → HProp) =>
    iteW (isNilP t) (k true) (derefW t fun (a : Addr) => loadI IntKind.i64 (a.add 0) fun (x : Int) => k (eqI x 0))
def math_bits_OnesCount32 : (Int) → ((Int) → HProp) → HProp :=
fun (t : Int) (Q : Int → HProp) =>
  mustW ((0 : Int) ≤ 24)
    (byteW (shr IntKind.u32 t 24)
      (ByteArray.mk
        (([0, 1, 1, 2, 1, 2, 2, 3, 1, 2, 2, 3, 2, 3, 3, 4, 1, 2, 2, 3, 2, 3, 3, 4, 2, 3, 3, 4, 3, 4, 4, 5, 1, 2, 2, 3,
                    2, 3, 3, 4, 2, 3, 3, 4, 3, 4, 4, 5, 2, 3, 3, 4, 3, 4, 4, 5, 3, 4, 4, 5, 4, 5, 5, 6].append
                [1, 2, 2, 3, 2, 3, 3, 4, 2, 3, 3, 4, 3, 4, 4, 5, 2, 3, 3, 4, 3, 4, 4, 5, 3, 4, 4, 5, 4, 5, 5, 6, 2, 3,
                  3, 4, 3, 4, 4, 5, 3, 4, 4, 5, 4, 5, 5, 6, 3, 4, 4, 5, 4, 5, 5, 6, 4, 5, 5, 6, 5, 6, 6, 7]).append
            ([1, 2, 2, 3, 2, 3, 3, 4, 2, 3, 3, 4, 3, 4, 4, 5, 2, 3, 3, 4, 3, 4, 4, 5, 3, 4, 4, 5, 4, 5, 5, 6, 2, 3, 3,
                  4, 3, 4, 4, 5, 3, 4, 4, 5, 4, 5, 5, 6, 3, 4, 4, 5, 4, 5, 5, 6, 4, 5, 5, 6, 5, 6, 6, 7].append
              [2, 3, 3, 4, 3, 4, 4, 5, 3, 4, 4, 5, 4, 5, 5, 6, 3, 4, 4, 5, 4, 5, 5, 6, 4, 5, 5, 6, 5, 6, 6, 7, 3, 4, 4,
                5, 4, 5, 5, 6, 4, 5, 5, 6, 5, 6, 6, 7, 4, 5, 5, 6, 5, 6, 6, 7, 5, 6, 6, 7, 6, 7, 7, 8])).toArray)
      fun (c : Int) =>
      mustW ((0 : Int) ≤ 16)
        (byteW (andI IntKind.u32 (shr IntKind.u32 t 16) 255)
          (ByteArray.mk
            (([0, 1, 1, 2, 1, 2, 2, 3, 1, 2, 2, 3, 2, 3, 3, 4, 1, 2, 2, 3, 2, 3, 3, 4, 2, 3, 3, 4, 3, 4, 4, 5, 1, 2, 2,
                        3, 2, 3, 3, 4, 2, 3, 3, 4, 3, 4, 4, 5, 2, 3, 3, 4, 3, 4, 4, 5, 3, 4, 4, 5, 4, 5, 5, 6].append
                    [1, 2, 2, 3, 2, 3, 3, 4, 2, 3, 3, 4, 3, 4, 4, 5, 2, 3, 3, 4, 3, 4, 4, 5, 3, 4, 4, 5, 4, 5, 5, 6, 2,
                      3, 3, 4, 3, 4, 4, 5, 3, 4, 4, 5, 4, 5, 5, 6, 3, 4, 4, 5, 4, 5, 5, 6, 4, 5, 5, 6, 5, 6, 6,
                      7]).append
                ([1, 2, 2, 3, 2, 3, 3, 4, 2, 3, 3, 4, 3, 4, 4, 5, 2, 3, 3, 4, 3, 4, 4, 5, 3, 4, 4, 5, 4, 5, 5, 6, 2, 3,
                      3, 4, 3, 4, 4, 5, 3, 4, 4, 5, 4, 5, 5, 6, 3, 4, 4, 5, 4, 5, 5, 6, 4, 5, 5, 6, 5, 6, 6, 7].append
                  [2, 3, 3, 4, 3, 4, 4, 5, 3, 4, 4, 5, 4, 5, 5, 6, 3, 4, 4, 5, 4, 5, 5, 6, 4, 5, 5, 6, 5, 6, 6, 7, 3, 4,
                    4, 5, 4, 5, 5, 6, 4, 5, 5, 6, 5, 6, 6, 7, 4, 5, 5, 6, 5, 6, 6, 7, 5, 6, 6, 7, 6, 7, 7, 8])).toArray)
          fun (c_1 : Int) =>
          mustW ((0 : Int) ≤ 8)
            (byteW (andI IntKind.u32 (shr IntKind.u32 t 8) 255)
              (ByteArray.mk
                (([0, 1, 1, 2, 1, 2, 2, 3, 1, 2, 2, 3, 2, 3, 3, 4, 1, 2, 2, 3, 2, 3, 3, 4, 2, 3, 3, 4, 3, 4, 4, 5, 1, 2,
                            2, 3, 2, 3, 3, 4, 2, 3, 3, 4, 3, 4, 4, 5, 2, 3, 3, 4, 3, 4, 4, 5, 3, 4, 4, 5, 4, 5, 5,
                            6].append
                        [1, 2, 2, 3, 2, 3, 3, 4, 2, 3, 3, 4, 3, 4, 4, 5, 2, 3, 3, 4, 3, 4, 4, 5, 3, 4, 4, 5, 4, 5, 5, 6,
                          2, 3, 3, 4, 3, 4, 4, 5, 3, 4, 4, 5, 4, 5, 5, 6, 3, 4, 4, 5, 4, 5, 5, 6, 4, 5, 5, 6, 5, 6, 6,
                          7]).append
                    ([1, 2, 2, 3, 2, 3, 3, 4, 2, 3, 3, 4, 3, 4, 4, 5, 2, 3, 3, 4, 3, 4, 4, 5, 3, 4, 4, 5, 4, 5, 5, 6, 2,
                          3, 3, 4, 3, 4, 4, 5, 3, 4, 4, 5, 4, 5, 5, 6, 3, 4, 4, 5, 4, 5, 5, 6, 4, 5, 5, 6, 5, 6, 6,
                          7].append
                      [2, 3, 3, 4, 3, 4, 4, 5, 3, 4, 4, 5, 4, 5, 5, 6, 3, 4, 4, 5, 4, 5, 5, 6, 4, 5, 5, 6, 5, 6, 6, 7,
                        3, 4, 4, 5, 4, 5, 5, 6, 4, 5, 5, 6, 5, 6, 6, 7, 4, 5, 5, 6, 5, 6, 6, 7, 5, 6, 6, 7, 6, 7, 7,
                        8])).toArray)
              fun (c_2 : Int) =>
              byteW (andI IntKind.u32 t 255)
                (ByteArray.mk
                  (([0, 1, 1, 2, 1, 2, 2, 3, 1, 2, 2, 3, 2, 3, 3, 4, 1, 2, 2, 3, 2, 3, 3, 4, 2, 3, 3, 4, 3, 4, 4, 5, 1,
                              2, 2, 3, 2, 3, 3, 4, 2, 3, 3, 4, 3, 4, 4, 5, 2, 3, 3, 4, 3, 4, 4, 5, 3, 4, 4, 5, 4, 5, 5,
                              6].append
                          [1, 2, 2, 3, 2, 3, 3, 4, 2, 3, 3, 4, 3, 4, 4, 5, 2, 3, 3, 4, 3, 4, 4, 5, 3, 4, 4, 5, 4, 5, 5,
                            6, 2, 3, 3, 4, 3, 4, 4, 5, 3, 4, 4, 5, 4, 5, 5, 6, 3, 4, 4, 5, 4, 5, 5, 6, 4, 5, 5, 6, 5, 6,
                            6, 7]).append
                      ([1, 2, 2, 3, 2, 3, 3, 4, 2, 3, 3, 4, 3, 4, 4, 5, 2, 3, 3, 4, 3, 4, 4, 5, 3, 4, 4, 5, 4, 5, 5, 6,
                            2, 3, 3, 4, 3, 4, 4, 5, 3, 4, 4, 5, 4, 5, 5, 6, 3, 4, 4, 5, 4, 5, 5, 6, 4, 5, 5, 6, 5, 6, 6,
                            7].append
                        [2, 3, 3, 4, 3, 4, 4, 5, 3, 4, 4, 5, 4, 5, 5, 6, 3, 4, 4, 5, 4, 5, 5, 6, 4, 5, 5, 6, 5, 6, 6, 7,
                          3, 4, 4, 5, 4, 5, 5, 6, 4, 5, 5, 6, 5, 6, 6, 7, 4, 5, 5, 6, 5, 6, 6, 7, 5, 6, 6, 7, 6, 7, 7,
                          8])).toArray)
                fun (c_3 : Int) =>
                Q (cnv IntKind.i64 (add IntKind.u8 (add IntKind.u8 (add IntKind.u8 c c_1) c_2) c_3)))))
def rounds_Cover_Left : ((Option Addr)) → ((Int) → HProp) → HProp :=
fun (t : Option Addr) (Q : Int → HProp) =>
  rounds_Cover_none t fun (r : Bool) =>
    iteW r (Q 0)
      (derefW t fun (a : Addr) =>
        loadI IntKind.i64 (a.add 0) fun (x : Int) =>
          derefW t fun (a_1 : Addr) =>
            loadI IntKind.u32 (a_1.add 2) fun (x_1 : Int) =>
              math_bits_OnesCount32 x_1 fun (r : Int) =>
                keepsW (a.add 0) (Rec.mk 3 (Pl.heap (a.add 0)) [Value.int IntKind.i64 x]).vs (Q (sub IntKind.i64 x r)))
def rounds_Cover_Next : ((Option Addr)) → ((Int) → HProp) → HProp :=
fun (t : Option Addr) (Q : Int → HProp) =>
  rounds_Cover_none t fun (r : Bool) =>
    iteW r (Q 1)
      (rounds_Cover_Left t fun (r : Int) =>
        iteW (ltI 0 r) (Q 271)
          (derefW t fun (a : Addr) =>
            storeW (a.add 2) (Value.int IntKind.u32 0)
              (derefW t fun (a : Addr) =>
                loadI IntKind.i64 (a.add 1) fun (x : Int) =>
                  derefW t fun (a : Addr) => storeW (a.add 1) (Value.int IntKind.i64 (add IntKind.i64 x 1)) (Q 0))))
def rounds_Cover_Has : ((Option Addr) × Int) → ((Bool) → HProp) → HProp :=
fun (t : Option Addr × Int) (Q : Bool → HProp) =>
  withK Q fun (k : Bool → HProp) =>
    rounds_Cover_none t.fst fun (r : Bool) =>
      iteW (!r)
        (iteW (leI 0 t.snd)
          (derefW t.fst fun (a : Addr) =>
            loadI IntKind.i64 (a.add 0) fun (x : Int) =>
              iteW (ltI t.snd x)
                (derefW t.fst fun (a : Addr) =>
                  loadI IntKind.u32 (a.add 2) fun (x : Int) =>
                    mustW ((0 : Int) ≤ t.snd) (k (eqI (andI IntKind.u32 (shr IntKind.u32 x t.snd) 1) 1)))
                (k false))
          (k false))
        (k false)
def rounds_Cover_Take : ((Option Addr) × Int) → ((Int) → HProp) → HProp :=
fun (t : Option Addr × Int) (Q : Int → HProp) =>
  rounds_Cover_none t.fst fun (r : Bool) =>
    iteW r (Q 1)
      (withK
        (fun (t_1 : Bool) =>
          iteW t_1 (Q 2)
            (rounds_Cover_Has (t.fst, t.snd) fun (r : Bool) =>
              iteW r (Q 4)
                (derefW t.fst fun (a : Addr) =>
                  loadI IntKind.u32 (a.add 2) fun (x : Int) =>
                    mustW ((0 : Int) ≤ t.snd)
                      (derefW t.fst fun (a : Addr) =>
                        storeW (a.add 2) (Value.int IntKind.u32 (orI IntKind.u32 x (shl IntKind.u32 1 t.snd))) (Q 0)))))
        fun (k : Bool → HProp) =>
        iteW (ltI t.snd 0) (k true)
          (derefW t.fst fun (a : Addr) => loadI IntKind.i64 (a.add 0) fun (x : Int) => k (leI x t.snd)))
def rounds_Cover_Round : ((Option Addr)) → ((Int) → HProp) → HProp :=
fun (t : Option Addr) (Q : Int → HProp) =>
  rounds_Cover_none t fun (r : Bool) => iteW r (Q 0) (derefW t fun (a : Addr) => loadI IntKind.i64 (a.add 1) Q)
def law22_goes : (Unit) → ((Bool) → HProp) → HProp :=
fun (t : Unit) (Q : Bool → HProp) =>
  rounds_New 2 fun (r : Option Addr × Int) =>
    rounds_New 0 fun (r_1 : Option Addr × Int) =>
      rounds_New 17 fun (r_2 : Option Addr × Int) =>
        withK
          (fun (t : Bool) =>
            iteW t (Q false)
              (withK Q fun (k : Bool → HProp) =>
                rounds_Cover_Round r.fst fun (r_3 : Int) =>
                  iteW (eqI r_3 1) (rounds_Cover_Left r.fst fun (r : Int) => k (eqI r 2)) (k false)))
          fun (k : Bool → HProp) =>
          iteW (!eqI r.snd 0) (k true)
            (iteW (!eqI r_1.snd 2) (k true)
              (iteW (!eqI r_2.snd 2) (k true)
                (rounds_Cover_Take (r.fst, 1) fun (r_3 : Int) =>
                  iteW (!eqI r_3 0) (k true)
                    (rounds_Cover_Take (r.fst, 1) fun (r_4 : Int) =>
                      iteW (!eqI r_4 4) (k true)
                        (rounds_Cover_Next r.fst fun (r_5 : Int) =>
                          iteW (!eqI r_5 271) (k true)
                            (rounds_Cover_Take (r.fst, 0) fun (r_6 : Int) =>
                              iteW (!eqI r_6 0) (k true) (rounds_Cover_Next r.fst fun (r : Int) => k !eqI r 0)))))))
def ref22_New : (Int) → (((Option Addr) × Int) → HProp) → HProp :=
fun (t : Int) (Q : Option Addr × Int → HProp) =>
  withK
    (fun (t_1 : Bool) =>
      iteW t_1 (Q (none, 2))
        (newW [Value.int IntKind.i64 t, Value.int IntKind.i64 0, Value.slice (Sl.mk none 0 0).a 0 0] fun (b : Nat) =>
          Q (some (Addr.mk b 0 none), 0)))
    fun (k : Bool → HProp) => iteW (ltI t 1) (k true) (k (ltI 16 t))
def ref22_Cover_Next : ((Option Addr)) → ((Int) → HProp) → HProp :=
fun (t : Option Addr) (Q : Int → HProp) =>
  derefW t fun (a : Addr) =>
    loadL (a.add 2) fun (x : Sl) =>
      derefW t fun (a : Addr) =>
        loadI IntKind.i64 (a.add 0) fun (x_1 : Int) =>
          iteW (ltI (↑x.len) x_1) (Q 271)
            (derefW t fun (a : Addr) =>
              storeW (a.add 2) (Value.slice (Sl.mk none 0 0).a 0 0)
                (derefW t fun (a : Addr) =>
                  loadI IntKind.i64 (a.add 1) fun (x : Int) =>
                    derefW t fun (a : Addr) => storeW (a.add 1) (Value.int IntKind.i64 (add IntKind.i64 x 1)) (Q 0)))
def ref22_Cover_Has : ((Option Addr) × Int) → ((Bool) → HProp) → HProp :=
fun (t : Option Addr × Int) (Q : Bool → HProp) =>
  loopW 0 fun (s : Int) (k : Int → HProp) =>
    derefW t.fst fun (a : Addr) =>
      loadL (a.add 2) fun (x : Sl) =>
        iteW (ltI s ↑x.len)
          (derefW t.fst fun (a : Addr) =>
            loadL (a.add 2) fun (x : Sl) =>
              indexW s x 1 fun (a : Addr) =>
                loadI IntKind.i64 a fun (x : Int) => iteW (eqI x t.snd) (Q true) (k (add IntKind.i64 s 1)))
          (Q false)
def ref22_Cover_Take : ((Option Addr) × Int) → ((Int) → HProp) → HProp :=
fun (t : Option Addr × Int) (Q : Int → HProp) =>
  withK
    (fun (t_1 : Bool) =>
      iteW t_1 (Q 2)
        (ref22_Cover_Has (t.fst, t.snd) fun (r : Bool) =>
          iteW r (Q 4)
            (derefW t.fst fun (a : Addr) =>
              loadL (a.add 2) fun (x : Sl) =>
                appendW x [Value.int IntKind.i64 0] 8 1 [Value.int IntKind.i64 t.snd] fun (u : Sl) =>
                  derefW t.fst fun (a : Addr) => storeW (a.add 2) (Value.slice u.a u.len u.cap) (Q 0))))
    fun (k : Bool → HProp) =>
    iteW (ltI t.snd 0) (k true)
      (derefW t.fst fun (a : Addr) => loadI IntKind.i64 (a.add 0) fun (x : Int) => k (leI x t.snd))
def law22_RoundsPlay : (Int × Sl) → ((Bool) → HProp) → HProp :=
fun (t : Int × Sl) (Q : Bool → HProp) =>
  iteW (ltI 300 ↑t.snd.len) (law22_goes () Q)
    (rounds_New t.fst fun (r : Option Addr × Int) =>
      ref22_New t.fst fun (r_1 : Option Addr × Int) =>
        withK
          (fun (t_1 : Bool) =>
            iteW t_1 (Q false)
              (loopW 0 fun (s : Int) (k : Int → HProp) =>
                withK
                  (fun (t_2 : Bool) =>
                    iteW t_2
                      (withK
                        (fun (t_3 : Int × Int) =>
                          withK (fun (t : Bool) => iteW t (Q false) (k (add IntKind.i64 s 1)))
                            fun (k : Bool → HProp) =>
                            iteW (!eqI t_3.fst t_3.snd) (k true)
                              (derefW r_1.fst fun (a : Addr) =>
                                loadL (a.add 2) fun (x : Sl) =>
                                  rounds_Cover_Left r.fst fun (r_2 : Int) =>
                                    keepsW (a.add 2) (Rec.mk 10 (Pl.heap (a.add 2)) [Value.slice x.a x.len x.cap]).vs
                                      (iteW (!eqI r_2 (sub IntKind.i64 t.fst ↑x.len)) (k true)
                                        (derefW r_1.fst fun (a : Addr) =>
                                          loadI IntKind.i64 (a.add 1) fun (x : Int) =>
                                            rounds_Cover_Round r.fst fun (r_3 : Int) =>
                                              keepsW (a.add 1)
                                                (Rec.mk 21 (Pl.heap (a.add 1)) [Value.int IntKind.i64 x]).vs
                                                (iteW (!eqI r_3 x) (k true)
                                                  (indexW s t.snd 1 fun (a : Addr) =>
                                                    loadI IntKind.i64 a fun (x : Int) =>
                                                      indexW s t.snd 1 fun (a : Addr) =>
                                                        loadI IntKind.i64 a fun (x_1 : Int) =>
                                                          rounds_Cover_Has (r.fst, x) fun (r : Bool) =>
                                                            keepsW a
                                                              (Rec.mk 35 (Pl.heap a) [Value.int IntKind.i64 x_1]).vs
                                                              (ref22_Cover_Has (r_1.fst, x_1) fun (r_4 : Bool) =>
                                                                k !r == r_4)))))))
                        fun (k : Int × Int → HProp) =>
                        indexW s t.snd 1 fun (a : Addr) =>
                          loadI IntKind.i64 a fun (x : Int) =>
                            iteW (ltI x (-1))
                              (rounds_Cover_Next r.fst fun (r : Int) =>
                                ref22_Cover_Next r_1.fst fun (r_2 : Int) => k (r, r_2))
                              (indexW s t.snd 1 fun (a : Addr) =>
                                loadI IntKind.i64 a fun (x : Int) =>
                                  indexW s t.snd 1 fun (a : Addr) =>
                                    loadI IntKind.i64 a fun (x_1 : Int) =>
                                      rounds_Cover_Take (r.fst, x) fun (r : Int) =>
                                        keepsW a (Rec.mk 10 (Pl.heap a) [Value.int IntKind.i64 x_1]).vs
                                          (ref22_Cover_Take (r_1.fst, x_1) fun (r_2 : Int) => k (r, r_2))))
                      (law22_goes () Q))
                  fun (k : Bool → HProp) => iteW (ltI s ↑t.snd.len) (k !isNilP r_1.fst) (k false)))
          fun (k : Bool → HProp) =>
          iteW (!eqI r.snd r_1.snd) (k true) (k !isNilP r.fst == isNilP r_1.fst))
def law22_RoundsNone : (Int) → ((Bool) → HProp) → HProp :=
fun (t : Int) (Q : Bool → HProp) =>
  newW [Value.int IntKind.i64 0, Value.int IntKind.i64 0, Value.int IntKind.u32 0] fun (b : Nat) =>
    newW [Value.pointer none, Value.pointer (some (Addr.mk b 0 none))] fun (b : Nat) =>
      loopW 0 fun (s : Int) (k : Int → HProp) =>
        iteW (ltI s ↑(Sl.mk (some (Addr.mk b 0 none)) 2 2).len)
          (indexW s (Sl.mk (some (Addr.mk b 0 none)) 2 2) 1 fun (a : Addr) =>
            loadP a fun (x : Option Addr) =>
              withK (fun (t : Bool) => iteW t (Q false) (k (add IntKind.i64 s 1)))
                fun (k : Bool → HProp) =>
                rounds_Cover_Take (x, t) fun (r : Int) =>
                  iteW (!eqI r 1) (k true)
                    (rounds_Cover_Next x fun (r : Int) =>
                      iteW (!eqI r 1) (k true)
                        (rounds_Cover_Has (x, t) fun (r : Bool) =>
                          iteW r (k true)
                            (rounds_Cover_Left x fun (r : Int) =>
                              iteW (!eqI r 0) (k true) (rounds_Cover_Round x fun (r : Int) => k !eqI r 0)))))
          (law22_goes () Q)
def law22_RoundsWhole : (Int × Sl) → ((Bool) → HProp) → HProp :=
fun (t : Int × Sl) (Q : Bool → HProp) =>
  iteW (ltI 200 ↑t.snd.len) (law22_goes () Q)
    (mustW ((16 : Int) ≠ 0)
      (rounds_New (add IntKind.i64 1 (rem (cnv IntKind.i64 t.fst) 16)) fun (r : Option Addr × Int) =>
        iteW (!eqI r.snd 0) (Q false)
          (makeW (add IntKind.i64 1 (rem (cnv IntKind.i64 t.fst) 16))
            (add IntKind.i64 1 (rem (cnv IntKind.i64 t.fst) 16)) [Value.bool false] 1 fun (v : Sl) =>
            loopW (v, add IntKind.i64 1 (rem (cnv IntKind.i64 t.fst) 16), 0, 0)
              fun (s : Sl × Int × Int × Int) (k : Sl × Int × Int × Int → HProp) =>
              iteW (ltI s.snd.snd.snd ↑t.snd.len)
                (indexW s.snd.snd.snd t.snd 1 fun (a : Addr) =>
                  loadI IntKind.u8 a fun (x : Int) =>
                    mustW ((add IntKind.i64 1 (rem (cnv IntKind.i64 t.fst) 16) : Int) ≠ 0)
                      (rounds_Cover_Take
                        (r.fst, rem (cnv IntKind.i64 x) (add IntKind.i64 1 (rem (cnv IntKind.i64 t.fst) 16)))
                        fun (r_1 : Int) =>
                        withK
                          (fun (t_1 : Bool) =>
                            iteW t_1 (Q false)
                              (withK
                                (fun (t_2 : Int) =>
                                  rounds_Cover_Next r.fst fun (r_2 : Int) =>
                                    withK
                                      (fun (t_3 : Bool) =>
                                        iteW t_3 (Q false)
                                          (withK
                                            (fun (t : Sl × Int × Int) =>
                                              withK
                                                (fun (t_4 : Bool) =>
                                                  iteW t_4 (Q false)
                                                    (k (t.fst, t.snd.fst, t.snd.snd, add IntKind.i64 s.snd.snd.snd 1)))
                                                fun (k : Bool → HProp) =>
                                                rounds_Cover_Left r.fst fun (r_3 : Int) =>
                                                  iteW (!eqI r_3 t.snd.fst) (k true)
                                                    (rounds_Cover_Round r.fst fun (r : Int) => k !eqI r t.snd.snd))
                                            fun (k : Sl × Int × Int → HProp) =>
                                            iteW (eqI t_2 0)
                                              (makeW (add IntKind.i64 1 (rem (cnv IntKind.i64 t.fst) 16))
                                                (add IntKind.i64 1 (rem (cnv IntKind.i64 t.fst) 16)) [Value.bool false]
                                                1 fun (v : Sl) =>
                                                k
                                                  (v, add IntKind.i64 1 (rem (cnv IntKind.i64 t.fst) 16),
                                                    add IntKind.i64 s.snd.snd.fst 1))
                                              (k (s.fst, t_2, s.snd.snd.fst))))
                                      fun (k : Bool → HProp) =>
                                      iteW (!eqI r_2 0 == eqI t_2 0) (k true)
                                        (iteW (!eqI r_2 0) (k !eqI r_2 271) (k false)))
                                fun (k : Int → HProp) =>
                                indexW (rem (cnv IntKind.i64 x) (add IntKind.i64 1 (rem (cnv IntKind.i64 t.fst) 16)))
                                  s.fst 1 fun (a : Addr) =>
                                  loadB a fun (x_1 : Bool) =>
                                    iteW (!x_1)
                                      (indexW
                                        (rem (cnv IntKind.i64 x) (add IntKind.i64 1 (rem (cnv IntKind.i64 t.fst) 16)))
                                        s.fst 1 fun (a : Addr) =>
                                        storeW a (Value.bool true) (k (sub IntKind.i64 s.snd.fst 1)))
                                      (k s.snd.fst)))
                          fun (k : Bool → HProp) =>
                          indexW (rem (cnv IntKind.i64 x) (add IntKind.i64 1 (rem (cnv IntKind.i64 t.fst) 16))) s.fst 1
                            fun (a : Addr) =>
                            loadB a fun (x : Bool) =>
                              iteW (eqI r_1 0 == x) (k true) (iteW (!eqI r_1 0) (k !eqI r_1 4) (k false))))
                (law22_goes () Q))))
def law22_RoundsRing : (Int × Int × Int) → ((Bool) → HProp) → HProp :=
fun (t : Int × Int × Int) (Q : Bool → HProp) =>
  mustW ((16 : Int) ≠ 0)
    (rounds_New (add IntKind.i64 1 (rem (cnv IntKind.i64 t.fst) 16)) fun (r : Option Addr × Int) =>
      iteW (!eqI r.snd 0) (Q false)
        (loopW 0 fun (s : Int) (k : Int → HProp) =>
          mustW ((21 : Int) ≠ 0)
            (iteW
              (ltI s
                (mul IntKind.i64 (add IntKind.i64 1 (rem (cnv IntKind.i64 t.fst) 16))
                  (rem (cnv IntKind.i64 t.snd.snd) 21)))
              (mustW ((add IntKind.i64 1 (rem (cnv IntKind.i64 t.fst) 16) : Int) ≠ 0)
                (withK
                  (fun (t_1 : Bool) =>
                    iteW t_1 (Q false)
                      (withK (fun (t : Bool) => iteW t (Q false) (k (add IntKind.i64 s 1)))
                        fun (k : Bool → HProp) =>
                        mustW ((add IntKind.i64 1 (rem (cnv IntKind.i64 t.fst) 16) : Int) ≠ 0)
                          (iteW
                            (eqI (rem s (add IntKind.i64 1 (rem (cnv IntKind.i64 t.fst) 16)))
                              (sub IntKind.i64 (add IntKind.i64 1 (rem (cnv IntKind.i64 t.fst) 16)) 1))
                            (rounds_Cover_Next r.fst fun (r : Int) => k !eqI r 0) (k false))))
                  fun (k : Bool → HProp) =>
                  rounds_Cover_Has
                    (r.fst,
                      rem (add IntKind.i64 (cnv IntKind.i64 t.snd.fst) s)
                        (add IntKind.i64 1 (rem (cnv IntKind.i64 t.fst) 16)))
                    fun (r_1 : Bool) =>
                    iteW r_1 (k true)
                      (rounds_Cover_Take
                        (r.fst,
                          rem (add IntKind.i64 (cnv IntKind.i64 t.snd.fst) s)
                            (add IntKind.i64 1 (rem (cnv IntKind.i64 t.fst) 16)))
                        fun (r_2 : Int) =>
                        iteW (!eqI r_2 0) (k true)
                          (rounds_Cover_Has
                            (r.fst,
                              rem (add IntKind.i64 (cnv IntKind.i64 t.snd.fst) s)
                                (add IntKind.i64 1 (rem (cnv IntKind.i64 t.fst) 16)))
                            fun (r_3 : Bool) =>
                            iteW (!r_3) (k true)
                              (mustW ((add IntKind.i64 1 (rem (cnv IntKind.i64 t.fst) 16) : Int) ≠ 0)
                                (rounds_Cover_Left r.fst fun (r : Int) =>
                                  k
                                    !eqI r
                                        (sub IntKind.i64
                                          (sub IntKind.i64 (add IntKind.i64 1 (rem (cnv IntKind.i64 t.fst) 16)) 1)
                                          (rem s (add IntKind.i64 1 (rem (cnv IntKind.i64 t.fst) 16))))))))))
              (withK Q fun (k : Bool → HProp) =>
                rounds_Cover_Round r.fst fun (r : Int) =>
                  mustW ((21 : Int) ≠ 0) (iteW (eqI r (rem (cnv IntKind.i64 t.snd.snd) 21)) (law22_goes () k) (k false))))))
end Go.Cz.S

/- Part of the proof of a law of 28: an engine that runs a function over an abstract heap, and what the functions compute; own work. -/
import Derived.Test.YtpmojjeehmadpaaGreatEng1
import Derived.Test.YtpmojjeehmadpaaGreatEngW
set_option linter.unusedVariables false
set_option linter.unusedSimpArgs false
set_option linter.unusedSectionVars false
namespace Go.Cz.S
set_option maxRecDepth 100000
set_option linter.unusedVariables false
def law25_Place_Great : (Int × Sl × Int × Int × Int) → ((Bool) → HProp) → HProp :=
fun (t : Int × Sl × Int × Int × Int) (Q : Bool → HProp) => Q (ltI t.snd.snd.snd.snd ↑t.snd.fst.len)
def truth_Check : (Int × Int × Int × Int × Int) → ((Int) → HProp) → HProp :=
fun (t : Int × Int × Int × Int × Int) (Q : Int → HProp) =>
  withK
    (fun (t_1 : Bool) =>
      withK (fun (t : Bool) => iteW (!t) (Q 2) (Q 0)) fun (k : Bool → HProp) =>
        iteW (eqI t.fst 1)
          (withK k fun (k : Bool → HProp) =>
            iteW t_1 (iteW (leI 0 t.snd.fst) (k (ltI t.snd.fst t.snd.snd.snd.snd)) (k false)) (k false))
          (iteW (eqI t.fst 2)
            (withK k fun (k : Bool → HProp) =>
              iteW t_1 (iteW (leI 1 t.snd.fst) (k (leI t.snd.fst 64)) (k false)) (k false))
            (iteW (eqI t.fst 3)
              (withK k fun (k : Bool → HProp) => iteW t_1 (k (eqI t.snd.fst 0)) (k false))
              (iteW (eqI t.fst 4)
                (withK k fun (k : Bool → HProp) =>
                  iteW t_1 (iteW (leI 0 t.snd.fst) (k (leI t.snd.fst 4096)) (k false)) (k false))
                (k false)))))
    fun (k : Bool → HProp) =>
    iteW (leI 1 t.snd.snd.snd.snd)
      (iteW (leI t.snd.snd.snd.snd 256) (iteW (leI 0 t.snd.snd.fst) (k (leI t.snd.snd.fst 7)) (k false)) (k false))
      (k false)
def edges_within : (Int × Int) → ((Bool) → HProp) → HProp :=
fun (t : Int × Int) (Q : Bool → HProp) =>
  withK Q fun (k : Bool → HProp) => iteW (leI 0 t.snd) (k (ltI t.snd t.fst)) (k false)
def edges_Normal_c1 : (Int × Int × (Option Addr)) → ((Bool) → HProp) → HProp :=
fun (t : Int × Int × Option Addr) (Q : Bool → HProp) =>
  withK Q fun (k : Bool → HProp) =>
    derefW t.snd.snd fun (a : Addr) =>
      loadI IntKind.i64 a fun (x : Int) =>
        edges_within (x, t.fst) fun (r : Bool) =>
          iteW (!r) (k true)
            (derefW t.snd.snd fun (a : Addr) =>
              loadI IntKind.i64 a fun (x : Int) =>
                edges_within (x, t.snd.fst) fun (r : Bool) => iteW (!r) (k true) (k (eqI t.fst t.snd.fst)))
def edges_may : (Int) → ((Bool) → HProp) → HProp :=
fun (t : Int) (Q : Bool → HProp) =>
  withK Q fun (k : Bool → HProp) => iteW (leI 1 t) (k (leI t 256)) (k false)
def slices_IndexFunc_api_Edge_api_Edge : (Sl × ((Int × Int) → ((Bool) → HProp) → HProp)) → ((Int) → HProp) → HProp :=
fun (t : Sl × (Int × Int → (Bool → HProp) → HProp)) (Q : Int → HProp) =>
  loopW 0 fun (s : Int) (k : Int → HProp) =>
    iteW (ltI s ↑t.fst.len)
      (indexW s t.fst 2 fun (a : Addr) =>
        loadI IntKind.i64 (a.add 0) fun (x : Int) =>
          loadI IntKind.i64 (a.add 1) fun (x_1 : Int) =>
            t.2 (x, x_1) fun (r : Bool) => iteW r (Q s) (k (add IntKind.i64 s 1)))
      (Q (-1))
def slices_ContainsFunc_api_Edge_api_Edge : (Sl × ((Int × Int) → ((Bool) → HProp) → HProp)) → ((Bool) → HProp) → HProp :=
fun (t : Sl × (Int × Int → (Bool → HProp) → HProp)) (Q : Bool → HProp) =>
  slices_IndexFunc_api_Edge_api_Edge (t.fst, t.snd) fun (r : Int) => Q (leI 0 r)
def slices_Compact_api_Edge_api_Edge : (Sl) → ((Sl) → HProp) → HProp :=
fun (t : Sl) (Q : Sl → HProp) =>
  iteW (ltI (↑t.len) 2) (Q t)
    (loopW 1 fun (s : Int) (k : Int → HProp) =>
      iteW (ltI s ↑t.len)
        (indexW s t 2 fun (a : Addr) =>
          loadI IntKind.i64 (a.add 0) fun (x : Int) =>
            loadI IntKind.i64 (a.add 1) fun (x_1 : Int) =>
              indexW (sub IntKind.i64 s 1) t 2 fun (a : Addr) =>
                loadI IntKind.i64 (a.add 0) fun (x_2 : Int) =>
                  loadI IntKind.i64 (a.add 1) fun (x_3 : Int) =>
                    iteW (eqPairs [(x, x_2), (x_1, x_3)])
                      (sliceW t 2 s ↑t.len fun (u : Sl) =>
                        loopW (s, 1) fun (s : Int × Int) (k : Int × Int → HProp) =>
                          iteW (ltI s.snd ↑u.len)
                            (withK (fun (t : Int) => k (t, add IntKind.i64 s.snd 1))
                              fun (k : Int → HProp) =>
                              indexW s.snd u 2 fun (a : Addr) =>
                                loadI IntKind.i64 (a.add 0) fun (x : Int) =>
                                  loadI IntKind.i64 (a.add 1) fun (x_4 : Int) =>
                                    indexW (sub IntKind.i64 s.snd 1) u 2 fun (a : Addr) =>
                                      loadI IntKind.i64 (a.add 0) fun (x_5 : Int) =>
                                        loadI IntKind.i64 (a.add 1) fun (x_6 : Int) =>
                                          iteW (!eqPairs [(x, x_5), (x_4, x_6)])
                                            (indexW s.snd u 2 fun (a : Addr) =>
                                              loadI IntKind.i64 (a.add 0) fun (x : Int) =>
                                                loadI IntKind.i64 (a.add 1) fun (x_7 : Int) =>
                                                  indexW s.fst t 2 fun (a : Addr) =>
                                                    storesW a [Value.int IntKind.i64 x, Value.int IntKind.i64 x_7]
                                                      (k (add IntKind.i64 s.fst 1)))
                                            (k s.fst))
                            (sliceW t 2 s.fst ↑t.len fun (u : Sl) =>
                              clearW u [Value.int IntKind.i64 0, Value.int IntKind.i64 0] (sliceW t 2 0 s.fst Q)))
                      (k (add IntKind.i64 s 1)))
        (Q t))
def slices_Collect_api_Edge : (((Option Addr))) → ((Sl) → HProp) → HProp :=
fun (t : Option Addr) (Q : Sl → HProp) => derefW t fun (a : Addr) => loadL a fun (v : Sl) => collectPW v Q
def cmp_Or_int : (Sl) → ((Int) → HProp) → HProp :=
fun (t : Sl) (Q : Int → HProp) =>
  loopW 0 fun (s : Int) (k : Int → HProp) =>
    iteW (ltI s ↑t.len)
      (indexW s t 1 fun (a : Addr) =>
        loadI IntKind.i64 a fun (x : Int) => iteW (!eqI x 0) (Q x) (k (add IntKind.i64 s 1)))
      (Q 0)
def cmp_isNaN_int : (Int) → ((Bool) → HProp) → HProp :=
fun (t : Int) (Q : Bool → HProp) => Q !eqI t t
def cmp_Compare_int : (Int × Int) → ((Int) → HProp) → HProp :=
fun (t : Int × Int) (Q : Int → HProp) =>
  cmp_isNaN_int t.fst fun (r : Bool) =>
    cmp_isNaN_int t.snd fun (r_1 : Bool) =>
      iteW r (iteW r_1 (Q 0) (Q (-1)))
        (iteW r_1 (Q 1) (iteW (ltI t.fst t.snd) (Q (-1)) (iteW (ltI t.snd t.fst) (Q 1) (Q 0))))
def edges_by : (Int × Int × Int × Int) → ((Int) → HProp) → HProp :=
fun (t : Int × Int × Int × Int) (Q : Int → HProp) =>
  cmp_Compare_int (t.fst, t.snd.snd.fst) fun (r : Int) =>
    cmp_Compare_int (t.snd.fst, t.snd.snd.snd) fun (r_1 : Int) =>
      newW [Value.int IntKind.i64 r, Value.int IntKind.i64 r_1] fun (b : Nat) =>
        cmp_Or_int (Sl.mk (some (Addr.mk b 0 none)) 2 2) Q
def slices_SortFunc_api_Edge_api_Edge : (Sl × Unit) → ((Unit) → HProp) → HProp :=
fun (t : Sl × Unit) (Q : Unit → HProp) => sortPW t.1 (Q ())
def slices_SortedFunc_api_Edge : (((Option Addr)) × Unit) → ((Sl) → HProp) → HProp :=
fun (t : Option Addr × Unit) (Q : Sl → HProp) =>
  slices_Collect_api_Edge t.fst fun (r : Sl) => slices_SortFunc_api_Edge_api_Edge (r, ()) fun (r_1 : PUnit) => Q r
def slices_Values_api_Edge_api_Edge : (Sl) → ((((Option Addr))) → HProp) → HProp :=
fun (t : Sl) (Q : Option Addr → HProp) =>
  newW [Value.slice t.a t.len t.cap] fun (b : Nat) => Q (some (Addr.mk b 0 none))
def edges_Normal : (Int × Sl) → ((Sl × Int) → HProp) → HProp :=
fun (t : Int × Sl) (Q : Sl × Int → HProp) =>
  newW [Value.int IntKind.i64 t.fst] fun (b : Nat) =>
    withK
      (fun (t_1 : Bool) =>
        iteW t_1 (Q (Sl.mk none 0 0, 2))
          (slices_Values_api_Edge_api_Edge t.snd fun (r : Option Addr) =>
            slices_SortedFunc_api_Edge (r, ()) fun (r : Sl) =>
              slices_Compact_api_Edge_api_Edge r fun (r : Sl) =>
                iteW (ltI 4096 ↑r.len) (Q (Sl.mk none 0 0, 3)) (Q (r, 0))))
      fun (k : Bool → HProp) =>
      loadI IntKind.i64 (Addr.mk b 0 none) fun (x : Int) =>
        edges_may x fun (r : Bool) =>
          iteW (!r) (k true)
            (slices_ContainsFunc_api_Edge_api_Edge
              (t.snd, fun (t : Int × Int) => edges_Normal_c1 (t.fst, t.snd, some (Addr.mk b 0 none))) k)
def slices_Equal_api_Edge_api_Edge : (Sl × Sl) → ((Bool) → HProp) → HProp :=
fun (t : Sl × Sl) (Q : Bool → HProp) =>
  iteW (!eqI ↑t.fst.len ↑t.snd.len) (Q false)
    (loopW 0 fun (s : Int) (k : Int → HProp) =>
      iteW (ltI s ↑t.fst.len)
        (indexW s t.fst 2 fun (a : Addr) =>
          loadI IntKind.i64 (a.add 0) fun (x : Int) =>
            loadI IntKind.i64 (a.add 1) fun (x_1 : Int) =>
              indexW s t.snd 2 fun (a : Addr) =>
                loadI IntKind.i64 (a.add 0) fun (x_2 : Int) =>
                  loadI IntKind.i64 (a.add 1) fun (x_3 : Int) =>
                    iteW (!eqPairs [(x, x_2), (x_1, x_3)]) (Q false) (k (add IntKind.i64 s 1)))
        (Q true))
def truth_of : (Int × Sl) → ((Int × Sl × Sl) → HProp) → HProp :=
fun (t : Int × Sl) (Q : Int × Sl × Sl → HProp) =>
  withK
    (fun (t_1 : Option Addr) =>
      loopW 0 fun (s : Int) (k : Int → HProp) =>
        iteW (ltI s ↑t.snd.len)
          (indexW s t.snd 2 fun (a : Addr) =>
            loadI IntKind.i64 (a.add 0) fun (x : Int) =>
              loadI IntKind.i64 (a.add 1) fun (x_1 : Int) =>
                derefW t_1 fun (a : Addr) =>
                  loadL (a.add 1) fun (x_2 : Sl) =>
                    derefW t_1 fun (a_1 : Addr) =>
                      loadL (a_1.add 1) fun (x_3 : Sl) =>
                        indexW x x_3 1 fun (a_2 : Addr) =>
                          loadL a_2 fun (x_4 : Sl) =>
                            keepsW (a.add 1) (Rec.mk 1 (Pl.heap (a.add 1)) [Value.slice x_2.a x_2.len x_2.cap]).vs
                              (keepsW (a_1.add 1)
                                (Rec.mk 5 (Pl.heap (a_1.add 1)) [Value.slice x_3.a x_3.len x_3.cap]).vs
                                (keepsW a_2 (Rec.mk 9 (Pl.heap a_2) [Value.slice x_4.a x_4.len x_4.cap]).vs
                                  (appendW x_4 [Value.int IntKind.i64 0] 8 1 [Value.int IntKind.i64 x_1] fun (u : Sl) =>
                                    keepsW (a.add 1)
                                      (Rec.mk 1 (Pl.heap (a.add 1)) [Value.slice x_2.a x_2.len x_2.cap]).vs
                                      (indexW x x_2 1 fun (a : Addr) =>
                                        storeW a (Value.slice u.a u.len u.cap)
                                          (derefW t_1 fun (a : Addr) =>
                                            loadL (a.add 2) fun (x_5 : Sl) =>
                                              derefW t_1 fun (a_3 : Addr) =>
                                                loadL (a_3.add 2) fun (x_6 : Sl) =>
                                                  indexW x x_6 1 fun (a_4 : Addr) =>
                                                    loadL a_4 fun (x_7 : Sl) =>
                                                      keepsW (a.add 2)
                                                        (Rec.mk 1 (Pl.heap (a.add 2))
                                                            [Value.slice x_5.a x_5.len x_5.cap]).vs
                                                        (keepsW (a_3.add 2)
                                                          (Rec.mk 5 (Pl.heap (a_3.add 2))
                                                              [Value.slice x_6.a x_6.len x_6.cap]).vs
                                                          (keepsW a_4
                                                            (Rec.mk 9 (Pl.heap a_4)
                                                                [Value.slice x_7.a x_7.len x_7.cap]).vs
                                                            (appendW x_7 [Value.int IntKind.i64 0] 8 1
                                                              [Value.int IntKind.i64 x_1] fun (u : Sl) =>
                                                              keepsW (a.add 2)
                                                                (Rec.mk 1 (Pl.heap (a.add 2))
                                                                    [Value.slice x_5.a x_5.len x_5.cap]).vs
                                                                (indexW x x_5 1 fun (a : Addr) =>
                                                                  storeW a (Value.slice u.a u.len u.cap)
                                                                    (derefW t_1 fun (a : Addr) =>
                                                                      loadL (a.add 2) fun (x_8 : Sl) =>
                                                                        derefW t_1 fun (a_5 : Addr) =>
                                                                          loadL (a_5.add 2) fun (x_9 : Sl) =>
                                                                            indexW x_1 x_9 1 fun (a_6 : Addr) =>
                                                                              loadL a_6 fun (x_10 : Sl) =>
                                                                                keepsW (a.add 2)
                                                                                  (Rec.mk 1 (Pl.heap (a.add 2))
                                                                                      [Value.slice x_8.a x_8.len
                                                                                          x_8.cap]).vs
                                                                                  (keepsW (a_5.add 2)
                                                                                    (Rec.mk 5 (Pl.heap (a_5.add 2))
                                                                                        [Value.slice x_9.a x_9.len
                                                                                            x_9.cap]).vs
                                                                                    (keepsW a_6
                                                                                      (Rec.mk 9 (Pl.heap a_6)
                                                                                          [Value.slice x_10.a x_10.len
                                                                                              x_10.cap]).vs
                                                                                      (appendW x_10
                                                                                        [Value.int IntKind.i64 0] 8 1
                                                                                        [Value.int IntKind.i64 x]
                                                                                        fun (u : Sl) =>
                                                                                        keepsW (a.add 2)
                                                                                          (Rec.mk 1 (Pl.heap (a.add 2))
                                                                                              [Value.slice x_8.a x_8.len
                                                                                                  x_8.cap]).vs
                                                                                          (indexW x_1 x_8 1
                                                                                            fun (a : Addr) =>
                                                                                            storeW a
                                                                                              (Value.slice u.a u.len
                                                                                                u.cap)
                                                                                              (k
                                                                                                (add IntKind.i64 s
                                                                                                  1)))))))))))))))))
          (derefW t_1 fun (a : Addr) =>
            loadI IntKind.i64 (a.add 0) fun (x : Int) =>
              loadL (a.add 1) fun (x_1 : Sl) => loadL (a.add 2) fun (x_2 : Sl) => Q (x, x_1, x_2)))
    fun (k : Option Addr → HProp) =>
    bothW
      (makeW t.fst t.fst [Value.slice (Sl.mk none 0 0).a 0 0] 24 fun (v : Sl) =>
        bothW
          (makeW t.fst t.fst [Value.slice (Sl.mk none 0 0).a 0 0] 24 fun (v_1 : Sl) =>
            newW [Value.int IntKind.i64 0, Value.slice (Sl.mk none 0 0).a 0 0, Value.slice (Sl.mk none 0 0).a 0 0]
              fun (b : Nat) =>
              storesW (Addr.mk b 0 none)
                [Value.int IntKind.i64 t.fst, Value.slice v.a v.len v.cap, Value.slice v_1.a v_1.len v_1.cap]
                (k (some (Addr.mk b 0 none))))
          (newW [Value.int IntKind.i64 0, Value.slice (Sl.mk none 0 0).a 0 0, Value.slice (Sl.mk none 0 0).a 0 0]
            fun (b : Nat) =>
            makeW t.fst t.fst [Value.slice (Sl.mk none 0 0).a 0 0] 24 fun (v_1 : Sl) =>
              storesW (Addr.mk b 0 none)
                [Value.int IntKind.i64 t.fst, Value.slice v.a v.len v.cap, Value.slice v_1.a v_1.len v_1.cap]
                (k (some (Addr.mk b 0 none)))))
      (bothW
        (makeW t.fst t.fst [Value.slice (Sl.mk none 0 0).a 0 0] 24 fun (v : Sl) =>
          bothW
            (makeW t.fst t.fst [Value.slice (Sl.mk none 0 0).a 0 0] 24 fun (v_1 : Sl) =>
              newW [Value.int IntKind.i64 0, Value.slice (Sl.mk none 0 0).a 0 0, Value.slice (Sl.mk none 0 0).a 0 0]
                fun (b : Nat) =>
                storesW (Addr.mk b 0 none)
                  [Value.int IntKind.i64 t.fst, Value.slice v_1.a v_1.len v_1.cap, Value.slice v.a v.len v.cap]
                  (k (some (Addr.mk b 0 none))))
            (newW [Value.int IntKind.i64 0, Value.slice (Sl.mk none 0 0).a 0 0, Value.slice (Sl.mk none 0 0).a 0 0]
              fun (b : Nat) =>
              makeW t.fst t.fst [Value.slice (Sl.mk none 0 0).a 0 0] 24 fun (v_1 : Sl) =>
                storesW (Addr.mk b 0 none)
                  [Value.int IntKind.i64 t.fst, Value.slice v_1.a v_1.len v_1.cap, Value.slice v.a v.len v.cap]
                  (k (some (Addr.mk b 0 none)))))
        (newW [Value.int IntKind.i64 0, Value.slice (Sl.mk none 0 0).a 0 0, Value.slice (Sl.mk none 0 0).a 0 0]
          fun (b : Nat) =>
          bothW
            (makeW t.fst t.fst [Value.slice (Sl.mk none 0 0).a 0 0] 24 fun (v : Sl) =>
              makeW t.fst t.fst [Value.slice (Sl.mk none 0 0).a 0 0] 24 fun (v_1 : Sl) =>
                storesW (Addr.mk b 0 none)
                  [Value.int IntKind.i64 t.fst, Value.slice v.a v.len v.cap, Value.slice v_1.a v_1.len v_1.cap]
                  (k (some (Addr.mk b 0 none))))
            (makeW t.fst t.fst [Value.slice (Sl.mk none 0 0).a 0 0] 24 fun (v : Sl) =>
              makeW t.fst t.fst [Value.slice (Sl.mk none 0 0).a 0 0] 24 fun (v_1 : Sl) =>
                storesW (Addr.mk b 0 none)
                  [Value.int IntKind.i64 t.fst, Value.slice v_1.a v_1.len v_1.cap, Value.slice v.a v.len v.cap]
                  (k (some (Addr.mk b 0 none))))))
def math_bits_Mul64 : (Int × Int) → ((Int × Int) → HProp) → HProp :=
fun (t : Int × Int) (Q : Int × Int → HProp) =>
  mustW ((0 : Int) ≤ 32)
    (mustW ((0 : Int) ≤ 32)
      (mustW ((0 : Int) ≤ 32)
        (mustW ((0 : Int) ≤ 32)
          (mustW ((0 : Int) ≤ 32)
            (Q
              (add IntKind.u64
                  (add IntKind.u64 (mul IntKind.u64 (shr IntKind.u64 t.fst 32) (shr IntKind.u64 t.snd 32))
                    (shr IntKind.u64
                      (add IntKind.u64 (mul IntKind.u64 (shr IntKind.u64 t.fst 32) (andI IntKind.u64 t.snd 4294967295))
                        (shr IntKind.u64
                          (mul IntKind.u64 (andI IntKind.u64 t.fst 4294967295) (andI IntKind.u64 t.snd 4294967295)) 32))
                      32))
                  (shr IntKind.u64
                    (add IntKind.u64
                      (andI IntKind.u64
                        (add IntKind.u64
                          (mul IntKind.u64 (shr IntKind.u64 t.fst 32) (andI IntKind.u64 t.snd 4294967295))
                          (shr IntKind.u64
                            (mul IntKind.u64 (andI IntKind.u64 t.fst 4294967295) (andI IntKind.u64 t.snd 4294967295))
                            32))
                        4294967295)
                      (mul IntKind.u64 (andI IntKind.u64 t.fst 4294967295) (shr IntKind.u64 t.snd 32)))
                    32),
                mul IntKind.u64 t.fst t.snd))))))
def math_bits_Mul : (Int × Int) → ((Int × Int) → HProp) → HProp :=
fun (t : Int × Int) (Q : Int × Int → HProp) => math_bits_Mul64 (t.fst, t.snd) fun (r : Int × Int) => Q (r.fst, r.snd)
def slices_Repeat_uint64_uint64 : (Sl × Int) → ((Sl) → HProp) → HProp :=
fun (t : Sl × Int) (Q : Sl → HProp) =>
  withK
    (fun (t_1 : PUnit) =>
      math_bits_Mul (cnv IntKind.u64 ↑t.fst.len, cnv IntKind.u64 t.snd) fun (r : Int × Int) =>
        withK
          (fun (t_2 : PUnit) =>
            makeW (cnv IntKind.i64 r.snd) (cnv IntKind.i64 r.snd) [Value.int IntKind.u64 0] 8 fun (v : Sl) =>
              copyW v t.fst 1 fun (n : Int) =>
                loopW n fun (s : Int) (k : Int → HProp) =>
                  iteW (ltI s ↑v.len)
                    (sliceW v 1 s ↑v.len fun (u : Sl) =>
                      sliceW v 1 0 s fun (u_1 : Sl) => copyW u u_1 1 fun (n : Int) => k (add IntKind.i64 s n))
                    (Q v))
          fun (k : PUnit → HProp) =>
          withK (fun (t : Bool) => iteW t stuckW (k ())) fun (k : Bool → HProp) =>
            iteW (ltI 0 r.fst) (k true) (k (ltI 9223372036854775807 r.snd)))
    fun (k : PUnit → HProp) => iteW (ltI t.snd 0) stuckW (k ())
def truth_fill : (Int × Int) → ((Sl) → HProp) → HProp :=
fun (t : Int × Int) (Q : Sl → HProp) =>
  newW [Value.int IntKind.u64 t.snd] fun (b : Nat) =>
    slices_Repeat_uint64_uint64 (Sl.mk (some (Addr.mk b 0 none)) 1 1, t.fst) Q
def truth_far : (Sl × Int) → ((Sl) → HProp) → HProp :=
fun (t : Sl × Int) (Q : Sl → HProp) =>
  truth_fill (↑t.fst.len, 18446744073709551615) fun (r : Sl) =>
    indexW t.snd r 1 fun (a : Addr) =>
      storeW a (Value.int IntKind.u64 0)
        (newW [Value.int IntKind.i64 t.snd] fun (b : Nat) =>
          loopW (Sl.mk (some (Addr.mk b 0 none)) 1 1) fun (s : Sl) (k : Sl → HProp) =>
            iteW (ltI 0 ↑s.len)
              (indexW 0 s 1 fun (a : Addr) =>
                loadI IntKind.i64 a fun (x : Int) =>
                  indexW x t.fst 1 fun (a : Addr) =>
                    loadL a fun (x_1 : Sl) =>
                      loopW (s, 0) fun (s : Sl × Int) (k_1 : Sl × Int → HProp) =>
                        iteW (ltI s.snd ↑x_1.len)
                          (withK (fun (t : Sl) => k_1 (t, add IntKind.i64 s.snd 1))
                            fun (k : Sl → HProp) =>
                            indexW s.snd x_1 1 fun (a : Addr) =>
                              loadI IntKind.i64 a fun (x_2 : Int) =>
                                indexW x_2 r 1 fun (a : Addr) =>
                                  loadI IntKind.u64 a fun (x_3 : Int) =>
                                    iteW (eqI x_3 18446744073709551615)
                                      (indexW x r 1 fun (a : Addr) =>
                                        loadI IntKind.u64 a fun (x : Int) =>
                                          indexW x_2 r 1 fun (a : Addr) =>
                                            storeW a (Value.int IntKind.u64 (add IntKind.u64 x 1))
                                              (appendW s.fst [Value.int IntKind.i64 0] 8 1 [Value.int IntKind.i64 x_2]
                                                k))
                                      (k s.fst))
                          (sliceW s.fst 1 1 (↑s.fst.len) k))
              (Q r))
def truth_greatest : (Sl) → ((Int) → HProp) → HProp :=
fun (t : Sl) (Q : Int → HProp) =>
  loopW (0, 0) fun (s : Int × Int) (k : Int × Int → HProp) =>
    iteW (ltI s.snd ↑t.len)
      (withK (fun (t : Int) => k (t, add IntKind.i64 s.snd 1)) fun (k : Int → HProp) =>
        indexW s.snd t 1 fun (a : Addr) =>
          loadI IntKind.u64 a fun (x : Int) => iteW (!eqI x 18446744073709551615) (k (maxI s.fst x)) (k s.fst))
      (Q (cnv IntKind.i64 s.fst))
def truth_graph_rank : (Int × Sl × Sl × Int) → ((Sl) → HProp) → HProp :=
fun (t : Int × Sl × Sl × Int) (Q : Sl → HProp) =>
  truth_fill (t.fst, 4294967296) fun (r : Sl) =>
    loopW 0 fun (s : Int) (k : Int → HProp) =>
      iteW (ltI s t.snd.snd.snd)
        (truth_fill (t.fst, 0) fun (r_1 : Sl) =>
          loopW 0 fun (s_1 : Int) (k_1 : Int → HProp) =>
            iteW (ltI s_1 ↑t.snd.fst.len)
              (indexW s_1 t.snd.fst 1 fun (a : Addr) =>
                loadL a fun (x : Sl) =>
                  loopW 0 fun (s : Int) (k : Int → HProp) =>
                    iteW (ltI s ↑x.len)
                      (indexW s x 1 fun (a : Addr) =>
                        loadI IntKind.i64 a fun (x_1 : Int) =>
                          indexW x_1 r_1 1 fun (a : Addr) =>
                            loadI IntKind.u64 a fun (x_2 : Int) =>
                              indexW s_1 r 1 fun (a : Addr) =>
                                loadI IntKind.u64 a fun (x_3 : Int) =>
                                  mustW ((cnv IntKind.u64 ↑x.len : Int) ≠ 0)
                                    (indexW x_1 r_1 1 fun (a : Addr) =>
                                      storeW a
                                        (Value.int IntKind.u64
                                          (add IntKind.u64 x_2 (quo IntKind.u64 x_3 (cnv IntKind.u64 ↑x.len))))
                                        (k (add IntKind.i64 s 1))))
                      (k_1 (add IntKind.i64 s_1 1)))
              (loopW 0 fun (s_2 : Int) (k_2 : Int → HProp) =>
                iteW (ltI s_2 ↑r_1.len)
                  (indexW s_2 r_1 1 fun (a : Addr) =>
                    loadI IntKind.u64 a fun (x : Int) =>
                      mustW ((1000 : Int) ≠ 0)
                        (indexW s_2 r 1 fun (a : Addr) =>
                          storeW a
                            (Value.int IntKind.u64
                              (add IntKind.u64 644245094 (quo IntKind.u64 (mul IntKind.u64 x 850) 1000)))
                            (k_2 (add IntKind.i64 s_2 1))))
                  (k (add IntKind.i64 s 1))))
        (Q r)
def truth_graph_labels : (Int × Sl × Sl) → ((Sl × Int) → HProp) → HProp :=
fun (t : Int × Sl × Sl) (Q : Sl × Int → HProp) =>
  truth_fill (t.fst, 18446744073709551615) fun (r : Sl) =>
    loopW (0, 0) fun (s : Int × Int) (k : Int × Int → HProp) =>
      iteW (ltI s.snd t.fst)
        (withK (fun (t : Int) => k (t, add IntKind.i64 s.snd 1)) fun (k : Int → HProp) =>
          indexW s.snd r 1 fun (a : Addr) =>
            loadI IntKind.u64 a fun (x : Int) =>
              iteW (!eqI x 18446744073709551615) (k s.fst)
                (truth_far (t.snd.snd, s.snd) fun (r_1 : Sl) =>
                  loopW 0 fun (s_1 : Int) (k_1 : Int → HProp) =>
                    iteW (ltI s_1 ↑r_1.len)
                      (withK (fun (t : PUnit) => k_1 (add IntKind.i64 s_1 1))
                        fun (k : PUnit → HProp) =>
                        indexW s_1 r_1 1 fun (a : Addr) =>
                          loadI IntKind.u64 a fun (x : Int) =>
                            iteW (!eqI x 18446744073709551615)
                              (indexW s_1 r 1 fun (a : Addr) =>
                                storeW a (Value.int IntKind.u64 (cnv IntKind.u64 s.snd)) (k ()))
                              (k ()))
                      (truth_greatest r_1 fun (r : Int) => k (maxI s.fst r))))
        (Q (r, s.fst))
def truth_graph_cores : (Int × Sl × Sl × Int) → ((Sl × Int) → HProp) → HProp :=
fun (t : Int × Sl × Sl × Int) (Q : Sl × Int → HProp) =>
  truth_fill (t.fst, 1) fun (r : Sl) =>
    loopW 0 fun (s : Int) (k : Int → HProp) =>
      loopW (Sl.mk none 0 0, 0) fun (s_1 : Sl × Int) (k_1 : Sl × Int → HProp) =>
        iteW (ltI s_1.snd t.fst)
          (withK (fun (t : Sl) => k_1 (t, add IntKind.i64 s_1.snd 1)) fun (k : Sl → HProp) =>
            indexW s_1.snd t.snd.snd.fst 1 fun (a : Addr) =>
              loadL a fun (x : Sl) =>
                loopW (0, 0) fun (s : Int × Int) (k_2 : Int × Int → HProp) =>
                  iteW (ltI s.snd ↑x.len)
                    (indexW s.snd x 1 fun (a : Addr) =>
                      loadI IntKind.i64 a fun (x : Int) =>
                        indexW x r 1 fun (a : Addr) =>
                          loadI IntKind.u64 a fun (x : Int) =>
                            k_2 (add IntKind.i64 s.fst (cnv IntKind.i64 x), add IntKind.i64 s.snd 1))
                    (withK
                      (fun (t : Bool) =>
                        iteW t (appendW s_1.fst [Value.int IntKind.i64 0] 8 1 [Value.int IntKind.i64 s_1.snd] k)
                          (k s_1.fst))
                      fun (k : Bool → HProp) =>
                      indexW s_1.snd r 1 fun (a : Addr) =>
                        loadI IntKind.u64 a fun (x : Int) => iteW (eqI x 1) (k (ltI s.fst t.snd.snd.snd)) (k false)))
          (iteW (eqI (↑s_1.fst.len) 0) (Q (r, s))
            (loopW 0 fun (s_2 : Int) (k_2 : Int → HProp) =>
              iteW (ltI s_2 ↑s_1.fst.len)
                (indexW s_2 s_1.fst 1 fun (a : Addr) =>
                  loadI IntKind.i64 a fun (x : Int) =>
                    indexW x r 1 fun (a : Addr) => storeW a (Value.int IntKind.u64 0) (k_2 (add IntKind.i64 s_2 1)))
                (k (add IntKind.i64 s 1))))
def truth_run : (Int × Sl × Int × Int × Int × Int) → ((Sl × Int × Int) → HProp) → HProp :=
fun (t : Int × Sl × Int × Int × Int × Int) (Q : Sl × Int × Int → HProp) =>
  edges_Normal (t.fst, t.snd.fst) fun (r : Sl × Int) =>
    withK
      (fun (t_1 : Int) =>
        withK
          (fun (t_2 : Int) =>
            iteW (!eqI t_2 0) (Q (Sl.mk none 0 0, 0, t_2))
              (truth_of (t.fst, t.snd.fst) fun (r : Int × Sl × Sl) =>
                iteW (eqI t.snd.snd.fst 1)
                  (truth_far (r.snd.fst, t.snd.snd.snd.fst) fun (r : Sl) =>
                    truth_greatest r fun (r_1 : Int) => Q (r, add IntKind.i64 r_1 1, 0))
                  (iteW (eqI t.snd.snd.fst 2)
                    (truth_graph_rank (r.fst, r.snd.fst, r.snd.snd, t.snd.snd.snd.fst) fun (r : Sl) =>
                      Q (r, t.snd.snd.snd.fst, 0))
                    (iteW (eqI t.snd.snd.fst 3)
                      (truth_graph_labels (r.fst, r.snd.fst, r.snd.snd) fun (r : Sl × Int) =>
                        Q (r.fst, add IntKind.i64 r.snd 1, 0))
                      (truth_graph_cores (r.fst, r.snd.fst, r.snd.snd, t.snd.snd.snd.fst) fun (r : Sl × Int) =>
                        Q (r.fst, add IntKind.i64 r.snd 1, 0))))))
          fun (k : Int → HProp) =>
          iteW (eqI t_1 0)
            (truth_Check (t.snd.snd.fst, t.snd.snd.snd.fst, t.snd.snd.snd.snd.fst, t.snd.snd.snd.snd.snd, t.fst) k)
            (k t_1))
      fun (k : Int → HProp) =>
      withK (fun (t : Bool) => iteW t (k 2) (k r.snd)) fun (k : Bool → HProp) =>
        iteW (eqI r.snd 0) (slices_Equal_api_Edge_api_Edge (t.snd.fst, r.fst) fun (r : Bool) => k !r) (k false)
def truth_Of : (Int × Sl × Int × Int × Int × Int) → ((Sl × Int) → HProp) → HProp :=
fun (t : Int × Sl × Int × Int × Int × Int) (Q : Sl × Int → HProp) =>
  truth_run (t.fst, t.snd.fst, t.snd.snd.fst, t.snd.snd.snd.fst, t.snd.snd.snd.snd.fst, t.snd.snd.snd.snd.snd)
    fun (r : Sl × Int × Int) => Q (r.fst, r.snd.snd)
def parts_Cut : (Int × Int) → ((Sl × Int) → HProp) → HProp :=
fun (t : Int × Int) (Q : Sl × Int → HProp) =>
  withK
    (fun (t_1 : Bool) =>
      iteW t_1 (Q (Sl.mk none 0 0, 2))
        (makeW t.snd t.snd [Value.int IntKind.i64 0, Value.int IntKind.i64 0] 16 fun (v : Sl) =>
          loopW 0 fun (s : Int) (k : Int → HProp) =>
            iteW (ltI s ↑v.len)
              (mustW ((t.snd : Int) ≠ 0)
                (mustW ((t.snd : Int) ≠ 0)
                  (indexW s v 2 fun (a : Addr) =>
                    storesW a
                      [Value.int IntKind.i64 (quo IntKind.i64 (mul IntKind.i64 s t.fst) t.snd),
                        Value.int IntKind.i64 (quo IntKind.i64 (mul IntKind.i64 (add IntKind.i64 s 1) t.fst) t.snd)]
                      (k (add IntKind.i64 s 1)))))
              (Q (v, 0))))
    fun (k : Bool → HProp) =>
    iteW (ltI t.fst 1) (k true)
      (iteW (ltI 256 t.fst) (k true) (iteW (ltI t.snd 1) (k true) (k (ltI (minI t.fst 16) t.snd))))
def slices_Clone_api_Edge_api_Edge : (Sl) → ((Sl) → HProp) → HProp :=
fun (t : Sl) (Q : Sl → HProp) =>
  iteW (isNilP t.a) (Q (Sl.mk none 0 0))
    (newW [] fun (b : Nat) =>
      rowW t 2 fun (l : List Value) =>
        appendW (Sl.mk (some (Addr.mk b 0 none)) 0 0) [Value.int IntKind.i64 0, Value.int IntKind.i64 0] 16 t.len l Q)
def table_New : (Int × Sl × Int × Int) → (((Option Addr) × Int) → HProp) → HProp :=
fun (t : Int × Sl × Int × Int) (Q : Option Addr × Int → HProp) =>
  truth_Of (t.fst, t.snd.fst, 3, 0, 0, 0) fun (r : Sl × Int) =>
    iteW (!eqI r.snd 0) (Q (none, r.snd))
      (parts_Cut (t.fst, t.snd.snd.fst) fun (r : Sl × Int) =>
        iteW (!eqI r.snd 0) (Q (none, r.snd))
          (withK
            (fun (t_1 : Bool) =>
              iteW t_1 (Q (none, 2))
                (slices_Clone_api_Edge_api_Edge t.snd.fst fun (r : Sl) =>
                  newW
                    [Value.int IntKind.i64 t.fst, Value.int IntKind.i64 t.snd.snd.fst,
                      Value.int IntKind.i64 t.snd.snd.snd, Value.slice r.a r.len r.cap, Value.int IntKind.i64 (-1),
                      Value.slice (Sl.mk none 0 0).a 0 0]
                    fun (b : Nat) => Q (some (Addr.mk b 0 none), 0)))
            fun (k : Bool → HProp) =>
            iteW (ltI t.snd.snd.snd 1) (k true) (k (ltI 1099511627776 t.snd.snd.snd))))
def table_Table_none : ((Option Addr)) → ((Bool) → HProp) → HProp :=
fun (t : Option Addr) (Q : Bool → HProp) =>
  withK Q fun (k : Bool → HProp) =>
    iteW (isNilP t) (k true) (derefW t fun (a : Addr) => loadI IntKind.i64 (a.add 0) fun (x : Int) => k (eqI x 0))
def table_Table_those : ((Option Addr) × ((Int × Int × Int × Int × Int × Int × Int × Int × Int × Int × Bool × Bool × Sl) → ((Bool) → HProp) → HProp)) → ((Sl) → HProp) → HProp :=
fun
    (t :
      Option Addr ×
        (Int × Int × Int × Int × Int × Int × Int × Int × Int × Int × Bool × Bool × Sl → (Bool → HProp) → HProp))
    (Q : Sl → HProp) =>
  derefW t.fst fun (a : Addr) =>
    loadL (a.add 5) fun (x : Sl) =>
      loopW (Sl.mk none 0 0, 0) fun (s : Sl × Int) (k : Sl × Int → HProp) =>
        iteW (ltI s.snd ↑x.len)
          (withK (fun (t : Sl) => k (t, add IntKind.i64 s.snd 1)) fun (k : Sl → HProp) =>
            indexW s.snd x 13 fun (a : Addr) =>
              loadI IntKind.i64 (a.add 0) fun (x : Int) =>
                loadI IntKind.i64 (a.add 1) fun (x_1 : Int) =>
                  loadI IntKind.i64 (a.add 2) fun (x_2 : Int) =>
                    loadI IntKind.i64 (a.add 3) fun (x_3 : Int) =>
                      loadI IntKind.i64 (a.add 4) fun (x_4 : Int) =>
                        loadI IntKind.i64 (a.add 5) fun (x_5 : Int) =>
                          loadI IntKind.i64 (a.add 6) fun (x_6 : Int) =>
                            loadI IntKind.i64 (a.add 7) fun (x_7 : Int) =>
                              loadI IntKind.i64 (a.add 8) fun (x_8 : Int) =>
                                loadI IntKind.i64 (a.add 9) fun (x_9 : Int) =>
                                  loadB (a.add 10) fun (x_10 : Bool) =>
                                    loadB (a.add 11) fun (x_11 : Bool) =>
                                      loadL (a.add 12) fun (x_12 : Sl) =>
                                        t.2 (x, x_1, x_2, x_3, x_4, x_5, x_6, x_7, x_8, x_9, x_10, x_11, x_12)
                                          fun (r : Bool) =>
                                          iteW r
                                            (appendW s.fst [Value.int IntKind.i64 0] 8 1
                                              [Value.int IntKind.i64 (add IntKind.i64 s.snd 1)] k)
                                            (k s.fst))
          (Q s.fst)
def table_queued : (Int × Int × Int × Int × Int × Int × Int × Int × Int × Int × Bool × Bool × Sl) → ((Bool) → HProp) → HProp :=
fun (t : Int × Int × Int × Int × Int × Int × Int × Int × Int × Int × Bool × Bool × Sl) (Q : Bool → HProp) =>
  Q (eqI t.snd.snd.snd.snd.fst 1)
def truth_Rounds : (Int × Sl × Int × Int × Int × Int) → ((Int × Int) → HProp) → HProp :=
fun (t : Int × Sl × Int × Int × Int × Int) (Q : Int × Int → HProp) =>
  truth_run (t.fst, t.snd.fst, t.snd.snd.fst, t.snd.snd.snd.fst, t.snd.snd.snd.snd.fst, t.snd.snd.snd.snd.snd)
    fun (r : Sl × Int × Int) => Q (r.snd.fst, r.snd.snd)
def table_Table_Submit : ((Option Addr) × Int × Int × Int × Int) → ((Int × Int) → HProp) → HProp :=
fun (t : Option Addr × Int × Int × Int × Int) (Q : Int × Int → HProp) =>
  table_Table_none t.fst fun (r : Bool) =>
    iteW r (Q (0, 1))
      (derefW t.fst fun (a : Addr) =>
        loadI IntKind.i64 (a.add 0) fun (x : Int) =>
          truth_Check (t.snd.fst, t.snd.snd.fst, t.snd.snd.snd.fst, t.snd.snd.snd.snd, x) fun (r : Int) =>
            iteW (!eqI r 0) (Q (0, r))
              (iteW (ltI t.snd.snd.snd.snd 256) (Q (0, 2))
                (derefW t.fst fun (a : Addr) =>
                  loadI IntKind.i64 (a.add 2) fun (x : Int) =>
                    iteW (ltI x t.snd.snd.snd.snd) (Q (0, 3))
                      (withK
                        (fun (t_1 : Bool) =>
                          iteW t_1 (Q (0, 230))
                            (derefW t.fst fun (a : Addr) =>
                              loadI IntKind.i64 (a.add 0) fun (x : Int) =>
                                derefW t.fst fun (a : Addr) =>
                                  loadL (a.add 3) fun (x_1 : Sl) =>
                                    truth_Rounds
                                      (x, x_1, t.snd.fst, t.snd.snd.fst, t.snd.snd.snd.fst, t.snd.snd.snd.snd)
                                      fun (r : Int × Int) =>
                                      iteW (!eqI r.snd 0) (Q (0, r.snd))
                                        (derefW t.fst fun (a : Addr) =>
                                          loadL (a.add 5) fun (x : Sl) =>
                                            keepsW (a.add 5)
                                              (Rec.mk 4 (Pl.heap (a.add 5)) [Value.slice x.a x.len x.cap]).vs
                                              (appendW x
                                                [Value.int IntKind.i64 0, Value.int IntKind.i64 0,
                                                  Value.int IntKind.i64 0, Value.int IntKind.i64 0,
                                                  Value.int IntKind.i64 0, Value.int IntKind.i64 0,
                                                  Value.int IntKind.i64 0, Value.int IntKind.i64 0,
                                                  Value.int IntKind.i64 0, Value.int IntKind.i64 0, Value.bool false,
                                                  Value.bool false, Value.slice (Sl.mk none 0 0).a 0 0]
                                                112 1
                                                [Value.int IntKind.i64 t.snd.fst, Value.int IntKind.i64 t.snd.snd.fst,
                                                  Value.int IntKind.i64 t.snd.snd.snd.fst,
                                                  Value.int IntKind.i64 t.snd.snd.snd.snd, Value.int IntKind.i64 1,
                                                  Value.int IntKind.i64 0, Value.int IntKind.i64 r.fst,
                                                  Value.int IntKind.i64 0, Value.int IntKind.i64 0,
                                                  Value.int IntKind.i64 0, Value.bool false, Value.bool false,
                                                  Value.slice (Sl.mk none 0 0).a 0 0]
                                                fun (u : Sl) =>
                                                derefW t.fst fun (a : Addr) =>
                                                  storeW (a.add 5) (Value.slice u.a u.len u.cap)
                                                    (derefW t.fst fun (a : Addr) =>
                                                      loadL (a.add 5) fun (x : Sl) => Q (↑x.len, 0))))))
                        fun (k : Bool → HProp) =>
                        derefW t.fst fun (a : Addr) =>
                          loadL (a.add 5) fun (x : Sl) =>
                            iteW (leI 999999 ↑x.len) (k true)
                              (table_Table_those
                                (t.fst,
                                  fun
                                    (t :
                                      Int × Int × Int × Int × Int × Int × Int × Int × Int × Int × Bool × Bool × Sl) =>
                                  table_queued
                                    (t.fst, t.snd.fst, t.snd.snd.fst, t.snd.snd.snd.fst, t.snd.snd.snd.snd.fst,
                                      t.snd.snd.snd.snd.snd.fst, t.snd.snd.snd.snd.snd.snd.fst,
                                      t.snd.snd.snd.snd.snd.snd.snd.fst, t.snd.snd.snd.snd.snd.snd.snd.snd.fst,
                                      t.snd.snd.snd.snd.snd.snd.snd.snd.snd.fst,
                                      t.snd.snd.snd.snd.snd.snd.snd.snd.snd.snd.fst,
                                      t.snd.snd.snd.snd.snd.snd.snd.snd.snd.snd.snd.fst,
                                      t.snd.snd.snd.snd.snd.snd.snd.snd.snd.snd.snd.snd))
                                fun (r : Sl) => k (leI 8 ↑r.len))))))
def table_Table_find : ((Option Addr) × Int) → (((Option Addr) × Int) → HProp) → HProp :=
fun (t : Option Addr × Int) (Q : Option Addr × Int → HProp) =>
  table_Table_none t.fst fun (r : Bool) =>
    iteW r (Q (none, 1))
      (withK
        (fun (t_1 : Bool) =>
          iteW t_1 (Q (none, 4))
            (derefW t.fst fun (a : Addr) =>
              loadL (a.add 5) fun (x : Sl) => indexW (sub IntKind.i64 t.snd 1) x 13 fun (a : Addr) => Q (some a, 0)))
        fun (k : Bool → HProp) =>
        iteW (ltI t.snd 1) (k true)
          (derefW t.fst fun (a : Addr) => loadL (a.add 5) fun (x : Sl) => k (ltI (↑x.len) t.snd)))
def table_entry_ends : ((Option Addr) × Int × Int) → ((Unit) → HProp) → HProp :=
fun (t : Option Addr × Int × Int) (Q : Unit → HProp) =>
  derefW t.fst fun (a : Addr) =>
    storeW (a.add 4) (Value.int IntKind.i64 t.snd.fst)
      (derefW t.fst fun (a : Addr) =>
        storeW (a.add 5) (Value.int IntKind.i64 t.snd.snd)
          (derefW t.fst fun (a : Addr) =>
            storeW (a.add 10) (Value.bool false)
              (derefW t.fst fun (a : Addr) => storeW (a.add 11) (Value.bool false) (Q ()))))
def table_Table_Cancel : ((Option Addr) × Int) → ((Int) → HProp) → HProp :=
fun (t : Option Addr × Int) (Q : Int → HProp) =>
  table_Table_find (t.fst, t.snd) fun (r : Option Addr × Int) =>
    iteW (!eqI r.snd 0) (Q r.snd)
      (withK (fun (t : Bool) => iteW t (Q 270) (table_entry_ends (r.fst, 4, 0) fun (r : PUnit) => Q 0))
        fun (k : Bool → HProp) =>
        derefW r.fst fun (a : Addr) =>
          loadI IntKind.i64 (a.add 4) fun (x : Int) =>
            iteW (!eqI x 1) (derefW r.fst fun (a : Addr) => loadI IntKind.i64 (a.add 4) fun (x : Int) => k !eqI x 2)
              (k false))
def table_Table_Poll : ((Option Addr) × Int) → ((Int × Int × Int × Int) → HProp) → HProp :=
fun (t : Option Addr × Int) (Q : Int × Int × Int × Int → HProp) =>
  table_Table_find (t.fst, t.snd) fun (r : Option Addr × Int) =>
    iteW (!eqI r.snd 0) (Q (0, 0, 0, r.snd))
      (derefW r.fst fun (a : Addr) =>
        loadI IntKind.i64 (a.add 4) fun (x : Int) =>
          derefW r.fst fun (a : Addr) =>
            loadI IntKind.i64 (a.add 7) fun (x_1 : Int) =>
              derefW r.fst fun (a : Addr) => loadI IntKind.i64 (a.add 5) fun (x_2 : Int) => Q (x, x_1, x_2, 0))
def table_expected : (Int × Int × Int × Int × Int × Int × Int × Int × Int × Int × Bool × Bool × Sl) → ((Bool) → HProp) → HProp :=
fun (t : Int × Int × Int × Int × Int × Int × Int × Int × Int × Int × Bool × Bool × Sl) (Q : Bool → HProp) =>
  Q t.snd.snd.snd.snd.snd.snd.snd.snd.snd.snd.snd.fst
def table_attached : (Int × Int × Int × Int × Int × Int × Int × Int × Int × Int × Bool × Bool × Sl) → ((Bool) → HProp) → HProp :=
fun (t : Int × Int × Int × Int × Int × Int × Int × Int × Int × Int × Bool × Bool × Sl) (Q : Bool → HProp) =>
  Q t.snd.snd.snd.snd.snd.snd.snd.snd.snd.snd.fst
def table_Table_Used : ((Option Addr)) → ((Int) → HProp) → HProp :=
fun (t : Option Addr) (Q : Int → HProp) =>
  table_Table_none t fun (r : Bool) =>
    iteW r (Q 0)
      (table_Table_those
        (t, fun (t : Int × Int × Int × Int × Int × Int × Int × Int × Int × Int × Bool × Bool × Sl) =>
          table_attached
            (t.fst, t.snd.fst, t.snd.snd.fst, t.snd.snd.snd.fst, t.snd.snd.snd.snd.fst, t.snd.snd.snd.snd.snd.fst,
              t.snd.snd.snd.snd.snd.snd.fst, t.snd.snd.snd.snd.snd.snd.snd.fst, t.snd.snd.snd.snd.snd.snd.snd.snd.fst,
              t.snd.snd.snd.snd.snd.snd.snd.snd.snd.fst, t.snd.snd.snd.snd.snd.snd.snd.snd.snd.snd.fst,
              t.snd.snd.snd.snd.snd.snd.snd.snd.snd.snd.snd.fst, t.snd.snd.snd.snd.snd.snd.snd.snd.snd.snd.snd.snd))
        fun (r : Sl) =>
        loopW (0, 0) fun (s : Int × Int) (k : Int × Int → HProp) =>
          iteW (ltI s.snd ↑r.len)
            (indexW s.snd r 1 fun (a : Addr) =>
              loadI IntKind.i64 a fun (x : Int) =>
                derefW t fun (a : Addr) =>
                  loadL (a.add 5) fun (x_1 : Sl) =>
                    indexW (sub IntKind.i64 x 1) x_1 13 fun (a : Addr) =>
                      loadI IntKind.i64 ((a.add 0).add 3) fun (x : Int) =>
                        k (add IntKind.i64 s.fst x, add IntKind.i64 s.snd 1))
            (Q s.fst))
def slices_MinFunc_int_int : (Sl × ((Int × Int) → ((Int) → HProp) → HProp)) → ((Int) → HProp) → HProp :=
fun (t : Sl × (Int × Int → (Int → HProp) → HProp)) (Q : Int → HProp) =>
  withK
    (fun (t_1 : PUnit) =>
      indexW 0 t.fst 1 fun (a : Addr) =>
        loadI IntKind.i64 a fun (x : Int) =>
          loopW (x, 1) fun (s : Int × Int) (k : Int × Int → HProp) =>
            iteW (ltI s.snd ↑t.fst.len)
              (withK (fun (t : Int) => k (t, add IntKind.i64 s.snd 1)) fun (k : Int → HProp) =>
                indexW s.snd t.fst 1 fun (a : Addr) =>
                  loadI IntKind.i64 a fun (x : Int) =>
                    t.2 (x, s.fst) fun (r : Int) =>
                      iteW (ltI r 0) (indexW s.snd t.fst 1 fun (a : Addr) => loadI IntKind.i64 a k) (k s.fst))
              (Q s.fst))
    fun (k : PUnit → HProp) => iteW (ltI (↑t.fst.len) 1) stuckW (k ())
def table_Table_ahead : ((Option Addr) × Int × Int) → ((Int) → HProp) → HProp :=
fun (t : Option Addr × Int × Int) (Q : Int → HProp) =>
  withK
    (fun (t_1 : Option Addr × Option Addr) =>
      derefW t_1.snd fun (a : Addr) =>
        loadI IntKind.i64 ((a.add 0).add 2) fun (x : Int) =>
          derefW t_1.snd fun (a : Addr) =>
            loadI IntKind.i64 (a.add 9) fun (x_1 : Int) =>
              mustW ((4 : Int) ≠ 0)
                (derefW t_1.fst fun (a : Addr) =>
                  loadI IntKind.i64 ((a.add 0).add 2) fun (x_2 : Int) =>
                    derefW t_1.fst fun (a : Addr) =>
                      loadI IntKind.i64 (a.add 9) fun (x_3 : Int) =>
                        mustW ((4 : Int) ≠ 0)
                          (cmp_Compare_int
                            (add IntKind.i64 x (quo IntKind.i64 x_1 4), add IntKind.i64 x_2 (quo IntKind.i64 x_3 4))
                            fun (r : Int) =>
                            cmp_Compare_int (t.snd.fst, t.snd.snd) fun (r_1 : Int) =>
                              newW [Value.int IntKind.i64 r, Value.int IntKind.i64 r_1] fun (b : Nat) =>
                                cmp_Or_int (Sl.mk (some (Addr.mk b 0 none)) 2 2) Q)))
    fun (k : Option Addr × Option Addr → HProp) =>
    derefW t.fst fun (a : Addr) =>
      loadL (a.add 5) fun (x : Sl) =>
        indexW (sub IntKind.i64 t.snd.fst 1) x 13 fun (a_1 : Addr) =>
          loadI IntKind.i64 (a_1.add 0) fun (x_1 : Int) =>
            loadI IntKind.i64 (a_1.add 1) fun (x_2 : Int) =>
              loadI IntKind.i64 (a_1.add 2) fun (x_3 : Int) =>
                loadI IntKind.i64 (a_1.add 3) fun (x_4 : Int) =>
                  loadI IntKind.i64 (a_1.add 4) fun (x_5 : Int) =>
                    loadI IntKind.i64 (a_1.add 5) fun (x_6 : Int) =>
                      loadI IntKind.i64 (a_1.add 6) fun (x_7 : Int) =>
                        loadI IntKind.i64 (a_1.add 7) fun (x_8 : Int) =>
                          loadI IntKind.i64 (a_1.add 8) fun (x_9 : Int) =>
                            loadI IntKind.i64 (a_1.add 9) fun (x_10 : Int) =>
                              loadB (a_1.add 10) fun (x_11 : Bool) =>
                                loadB (a_1.add 11) fun (x_12 : Bool) =>
                                  loadL (a_1.add 12) fun (x_13 : Sl) =>
                                    derefW t.fst fun (a_2 : Addr) =>
                                      loadL (a_2.add 5) fun (x_14 : Sl) =>
                                        indexW (sub IntKind.i64 t.snd.snd 1) x_14 13 fun (a_3 : Addr) =>
                                          loadI IntKind.i64 (a_3.add 0) fun (x_15 : Int) =>
                                            loadI IntKind.i64 (a_3.add 1) fun (x_16 : Int) =>
                                              loadI IntKind.i64 (a_3.add 2) fun (x_17 : Int) =>
                                                loadI IntKind.i64 (a_3.add 3) fun (x_18 : Int) =>
                                                  loadI IntKind.i64 (a_3.add 4) fun (x_19 : Int) =>
                                                    loadI IntKind.i64 (a_3.add 5) fun (x_20 : Int) =>
                                                      loadI IntKind.i64 (a_3.add 6) fun (x_21 : Int) =>
                                                        loadI IntKind.i64 (a_3.add 7) fun (x_22 : Int) =>
                                                          loadI IntKind.i64 (a_3.add 8) fun (x_23 : Int) =>
                                                            loadI IntKind.i64 (a_3.add 9) fun (x_24 : Int) =>
                                                              loadB (a_3.add 10) fun (x_25 : Bool) =>
                                                                loadB (a_3.add 11) fun (x_26 : Bool) =>
                                                                  loadL (a_3.add 12) fun (x_27 : Sl) =>
                                                                    bothW
                                                                      (newW
                                                                        [Value.int IntKind.i64 0,
                                                                          Value.int IntKind.i64 0,
                                                                          Value.int IntKind.i64 0,
                                                                          Value.int IntKind.i64 0,
                                                                          Value.int IntKind.i64 0,
                                                                          Value.int IntKind.i64 0,
                                                                          Value.int IntKind.i64 0,
                                                                          Value.int IntKind.i64 0,
                                                                          Value.int IntKind.i64 0,
                                                                          Value.int IntKind.i64 0, Value.bool false,
                                                                          Value.bool false,
                                                                          Value.slice (Sl.mk none 0 0).a 0 0]
                                                                        fun (b : Nat) =>
                                                                        keepsW (a.add 5)
                                                                          (Rec.mk 3 (Pl.heap (a.add 5))
                                                                              [Value.slice x.a x.len x.cap]).vs
                                                                          (keepsW a_1
                                                                            (Rec.mk 7 (Pl.heap a_1)
                                                                                [Value.int IntKind.i64 x_1,
                                                                                  Value.int IntKind.i64 x_2,
                                                                                  Value.int IntKind.i64 x_3,
                                                                                  Value.int IntKind.i64 x_4,
                                                                                  Value.int IntKind.i64 x_5,
                                                                                  Value.int IntKind.i64 x_6,
                                                                                  Value.int IntKind.i64 x_7,
                                                                                  Value.int IntKind.i64 x_8,
                                                                                  Value.int IntKind.i64 x_9,
                                                                                  Value.int IntKind.i64 x_10,
                                                                                  Value.bool x_11, Value.bool x_12,
                                                                                  Value.slice x_13.a x_13.len
                                                                                    x_13.cap]).vs
                                                                            (keepsW (a_2.add 5)
                                                                              (Rec.mk 11 (Pl.heap (a_2.add 5))
                                                                                  [Value.slice x_14.a x_14.len
                                                                                      x_14.cap]).vs
                                                                              (keepsW a_3
                                                                                (Rec.mk 15 (Pl.heap a_3)
                                                                                    [Value.int IntKind.i64 x_15,
                                                                                      Value.int IntKind.i64 x_16,
                                                                                      Value.int IntKind.i64 x_17,
                                                                                      Value.int IntKind.i64 x_18,
                                                                                      Value.int IntKind.i64 x_19,
                                                                                      Value.int IntKind.i64 x_20,
                                                                                      Value.int IntKind.i64 x_21,
                                                                                      Value.int IntKind.i64 x_22,
                                                                                      Value.int IntKind.i64 x_23,
                                                                                      Value.int IntKind.i64 x_24,
                                                                                      Value.bool x_25, Value.bool x_26,
                                                                                      Value.slice x_27.a x_27.len
                                                                                        x_27.cap]).vs
                                                                                (newW
                                                                                  [Value.int IntKind.i64 0,
                                                                                    Value.int IntKind.i64 0,
                                                                                    Value.int IntKind.i64 0,
                                                                                    Value.int IntKind.i64 0,
                                                                                    Value.int IntKind.i64 0,
                                                                                    Value.int IntKind.i64 0,
                                                                                    Value.int IntKind.i64 0,
                                                                                    Value.int IntKind.i64 0,
                                                                                    Value.int IntKind.i64 0,
                                                                                    Value.int IntKind.i64 0,
                                                                                    Value.bool false, Value.bool false,
                                                                                    Value.slice (Sl.mk none 0 0).a 0 0]
                                                                                  fun (b_1 : Nat) =>
                                                                                  keepsW (a.add 5)
                                                                                    (Rec.mk 3 (Pl.heap (a.add 5))
                                                                                        [Value.slice x.a x.len
                                                                                            x.cap]).vs
                                                                                    (keepsW a_1
                                                                                      (Rec.mk 7 (Pl.heap a_1)
                                                                                          [Value.int IntKind.i64 x_1,
                                                                                            Value.int IntKind.i64 x_2,
                                                                                            Value.int IntKind.i64 x_3,
                                                                                            Value.int IntKind.i64 x_4,
                                                                                            Value.int IntKind.i64 x_5,
                                                                                            Value.int IntKind.i64 x_6,
                                                                                            Value.int IntKind.i64 x_7,
                                                                                            Value.int IntKind.i64 x_8,
                                                                                            Value.int IntKind.i64 x_9,
                                                                                            Value.int IntKind.i64 x_10,
                                                                                            Value.bool x_11,
                                                                                            Value.bool x_12,
                                                                                            Value.slice x_13.a x_13.len
                                                                                              x_13.cap]).vs
                                                                                      (keepsW (a_2.add 5)
                                                                                        (Rec.mk 11 (Pl.heap (a_2.add 5))
                                                                                            [Value.slice x_14.a x_14.len
                                                                                                x_14.cap]).vs
                                                                                        (keepsW a_3
                                                                                          (Rec.mk 15 (Pl.heap a_3)
                                                                                              [Value.int IntKind.i64
                                                                                                  x_15,
                                                                                                Value.int IntKind.i64
                                                                                                  x_16,
                                                                                                Value.int IntKind.i64
                                                                                                  x_17,
                                                                                                Value.int IntKind.i64
                                                                                                  x_18,
                                                                                                Value.int IntKind.i64
                                                                                                  x_19,
                                                                                                Value.int IntKind.i64
                                                                                                  x_20,
                                                                                                Value.int IntKind.i64
                                                                                                  x_21,
                                                                                                Value.int IntKind.i64
                                                                                                  x_22,
                                                                                                Value.int IntKind.i64
                                                                                                  x_23,
                                                                                                Value.int IntKind.i64
                                                                                                  x_24,
                                                                                                Value.bool x_25,
                                                                                                Value.bool x_26,
                                                                                                Value.slice x_27.a
                                                                                                  x_27.len x_27.cap]).vs
                                                                                          (storesW (Addr.mk b 0 none)
                                                                                            [Value.int IntKind.i64 x_1,
                                                                                              Value.int IntKind.i64 x_2,
                                                                                              Value.int IntKind.i64 x_3,
                                                                                              Value.int IntKind.i64 x_4,
                                                                                              Value.int IntKind.i64 x_5,
                                                                                              Value.int IntKind.i64 x_6,
                                                                                              Value.int IntKind.i64 x_7,
                                                                                              Value.int IntKind.i64 x_8,
                                                                                              Value.int IntKind.i64 x_9,
                                                                                              Value.int IntKind.i64
                                                                                                x_10,
                                                                                              Value.bool x_11,
                                                                                              Value.bool x_12,
                                                                                              Value.slice x_13.a
                                                                                                x_13.len x_13.cap]
                                                                                            (keepsW (a_2.add 5)
                                                                                              (Rec.mk 11
                                                                                                  (Pl.heap (a_2.add 5))
                                                                                                  [Value.slice x_14.a
                                                                                                      x_14.len
                                                                                                      x_14.cap]).vs
                                                                                              (keepsW a_3
                                                                                                (Rec.mk 15 (Pl.heap a_3)
                                                                                                    [Value.int
                                                                                                        IntKind.i64
                                                                                                        x_15,
                                                                                                      Value.int
                                                                                                        IntKind.i64
                                                                                                        x_16,
                                                                                                      Value.int
                                                                                                        IntKind.i64
                                                                                                        x_17,
                                                                                                      Value.int
                                                                                                        IntKind.i64
                                                                                                        x_18,
                                                                                                      Value.int
                                                                                                        IntKind.i64
                                                                                                        x_19,
                                                                                                      Value.int
                                                                                                        IntKind.i64
                                                                                                        x_20,
                                                                                                      Value.int
                                                                                                        IntKind.i64
                                                                                                        x_21,
                                                                                                      Value.int
                                                                                                        IntKind.i64
                                                                                                        x_22,
                                                                                                      Value.int
                                                                                                        IntKind.i64
                                                                                                        x_23,
                                                                                                      Value.int
                                                                                                        IntKind.i64
                                                                                                        x_24,
                                                                                                      Value.bool x_25,
                                                                                                      Value.bool x_26,
                                                                                                      Value.slice x_27.a
                                                                                                        x_27.len
                                                                                                        x_27.cap]).vs
                                                                                                (storesW
                                                                                                  (Addr.mk b_1 0 none)
                                                                                                  [Value.int IntKind.i64
                                                                                                      x_15,
                                                                                                    Value.int
                                                                                                      IntKind.i64 x_16,
                                                                                                    Value.int
                                                                                                      IntKind.i64 x_17,
                                                                                                    Value.int
                                                                                                      IntKind.i64 x_18,
                                                                                                    Value.int
                                                                                                      IntKind.i64 x_19,
                                                                                                    Value.int
                                                                                                      IntKind.i64 x_20,
                                                                                                    Value.int
                                                                                                      IntKind.i64 x_21,
                                                                                                    Value.int
                                                                                                      IntKind.i64 x_22,
                                                                                                    Value.int
                                                                                                      IntKind.i64 x_23,
                                                                                                    Value.int
                                                                                                      IntKind.i64 x_24,
                                                                                                    Value.bool x_25,
                                                                                                    Value.bool x_26,
                                                                                                    Value.slice x_27.a
                                                                                                      x_27.len x_27.cap]
                                                                                                  (k
                                                                                                    (some
                                                                                                        (Addr.mk b 0
                                                                                                          none),
                                                                                                      some
                                                                                                        (Addr.mk b_1 0
                                                                                                          none)))))))))))))))
                                                                      (newW
                                                                        [Value.int IntKind.i64 0,
                                                                          Value.int IntKind.i64 0,
                                                                          Value.int IntKind.i64 0,
                                                                          Value.int IntKind.i64 0,
                                                                          Value.int IntKind.i64 0,
                                                                          Value.int IntKind.i64 0,
                                                                          Value.int IntKind.i64 0,
                                                                          Value.int IntKind.i64 0,
                                                                          Value.int IntKind.i64 0,
                                                                          Value.int IntKind.i64 0, Value.bool false,
                                                                          Value.bool false,
                                                                          Value.slice (Sl.mk none 0 0).a 0 0]
                                                                        fun (b : Nat) =>
                                                                        keepsW (a.add 5)
                                                                          (Rec.mk 3 (Pl.heap (a.add 5))
                                                                              [Value.slice x.a x.len x.cap]).vs
                                                                          (keepsW a_1
                                                                            (Rec.mk 7 (Pl.heap a_1)
                                                                                [Value.int IntKind.i64 x_1,
                                                                                  Value.int IntKind.i64 x_2,
                                                                                  Value.int IntKind.i64 x_3,
                                                                                  Value.int IntKind.i64 x_4,
                                                                                  Value.int IntKind.i64 x_5,
                                                                                  Value.int IntKind.i64 x_6,
                                                                                  Value.int IntKind.i64 x_7,
                                                                                  Value.int IntKind.i64 x_8,
                                                                                  Value.int IntKind.i64 x_9,
                                                                                  Value.int IntKind.i64 x_10,
                                                                                  Value.bool x_11, Value.bool x_12,
                                                                                  Value.slice x_13.a x_13.len
                                                                                    x_13.cap]).vs
                                                                            (keepsW (a_2.add 5)
                                                                              (Rec.mk 11 (Pl.heap (a_2.add 5))
                                                                                  [Value.slice x_14.a x_14.len
                                                                                      x_14.cap]).vs
                                                                              (keepsW a_3
                                                                                (Rec.mk 15 (Pl.heap a_3)
                                                                                    [Value.int IntKind.i64 x_15,
                                                                                      Value.int IntKind.i64 x_16,
                                                                                      Value.int IntKind.i64 x_17,
                                                                                      Value.int IntKind.i64 x_18,
                                                                                      Value.int IntKind.i64 x_19,
                                                                                      Value.int IntKind.i64 x_20,
                                                                                      Value.int IntKind.i64 x_21,
                                                                                      Value.int IntKind.i64 x_22,
                                                                                      Value.int IntKind.i64 x_23,
                                                                                      Value.int IntKind.i64 x_24,
                                                                                      Value.bool x_25, Value.bool x_26,
                                                                                      Value.slice x_27.a x_27.len
                                                                                        x_27.cap]).vs
                                                                                (newW
                                                                                  [Value.int IntKind.i64 0,
                                                                                    Value.int IntKind.i64 0,
                                                                                    Value.int IntKind.i64 0,
                                                                                    Value.int IntKind.i64 0,
                                                                                    Value.int IntKind.i64 0,
                                                                                    Value.int IntKind.i64 0,
                                                                                    Value.int IntKind.i64 0,
                                                                                    Value.int IntKind.i64 0,
                                                                                    Value.int IntKind.i64 0,
                                                                                    Value.int IntKind.i64 0,
                                                                                    Value.bool false, Value.bool false,
                                                                                    Value.slice (Sl.mk none 0 0).a 0 0]
                                                                                  fun (b_1 : Nat) =>
                                                                                  keepsW (a.add 5)
                                                                                    (Rec.mk 3 (Pl.heap (a.add 5))
                                                                                        [Value.slice x.a x.len
                                                                                            x.cap]).vs
                                                                                    (keepsW a_1
                                                                                      (Rec.mk 7 (Pl.heap a_1)
                                                                                          [Value.int IntKind.i64 x_1,
                                                                                            Value.int IntKind.i64 x_2,
                                                                                            Value.int IntKind.i64 x_3,
                                                                                            Value.int IntKind.i64 x_4,
                                                                                            Value.int IntKind.i64 x_5,
                                                                                            Value.int IntKind.i64 x_6,
                                                                                            Value.int IntKind.i64 x_7,
                                                                                            Value.int IntKind.i64 x_8,
                                                                                            Value.int IntKind.i64 x_9,
                                                                                            Value.int IntKind.i64 x_10,
                                                                                            Value.bool x_11,
                                                                                            Value.bool x_12,
                                                                                            Value.slice x_13.a x_13.len
                                                                                              x_13.cap]).vs
                                                                                      (keepsW (a_2.add 5)
                                                                                        (Rec.mk 11 (Pl.heap (a_2.add 5))
                                                                                            [Value.slice x_14.a x_14.len
                                                                                                x_14.cap]).vs
                                                                                        (keepsW a_3
                                                                                          (Rec.mk 15 (Pl.heap a_3)
                                                                                              [Value.int IntKind.i64
                                                                                                  x_15,
                                                                                                Value.int IntKind.i64
                                                                                                  x_16,
                                                                                                Value.int IntKind.i64
                                                                                                  x_17,
                                                                                                Value.int IntKind.i64
                                                                                                  x_18,
                                                                                                Value.int IntKind.i64
                                                                                                  x_19,
                                                                                                Value.int IntKind.i64
                                                                                                  x_20,
                                                                                                Value.int IntKind.i64
                                                                                                  x_21,
                                                                                                Value.int IntKind.i64
                                                                                                  x_22,
                                                                                                Value.int IntKind.i64
                                                                                                  x_23,
                                                                                                Value.int IntKind.i64
                                                                                                  x_24,
                                                                                                Value.bool x_25,
                                                                                                Value.bool x_26,
                                                                                                Value.slice x_27.a
                                                                                                  x_27.len x_27.cap]).vs
                                                                                          (storesW (Addr.mk b_1 0 none)
                                                                                            [Value.int IntKind.i64 x_1,
                                                                                              Value.int IntKind.i64 x_2,
                                                                                              Value.int IntKind.i64 x_3,
                                                                                              Value.int IntKind.i64 x_4,
                                                                                              Value.int IntKind.i64 x_5,
                                                                                              Value.int IntKind.i64 x_6,
                                                                                              Value.int IntKind.i64 x_7,
                                                                                              Value.int IntKind.i64 x_8,
                                                                                              Value.int IntKind.i64 x_9,
                                                                                              Value.int IntKind.i64
                                                                                                x_10,
                                                                                              Value.bool x_11,
                                                                                              Value.bool x_12,
                                                                                              Value.slice x_13.a
                                                                                                x_13.len x_13.cap]
                                                                                            (keepsW (a_2.add 5)
                                                                                              (Rec.mk 11
                                                                                                  (Pl.heap (a_2.add 5))
                                                                                                  [Value.slice x_14.a
                                                                                                      x_14.len
                                                                                                      x_14.cap]).vs
                                                                                              (keepsW a_3
                                                                                                (Rec.mk 15 (Pl.heap a_3)
                                                                                                    [Value.int
                                                                                                        IntKind.i64
                                                                                                        x_15,
                                                                                                      Value.int
                                                                                                        IntKind.i64
                                                                                                        x_16,
                                                                                                      Value.int
                                                                                                        IntKind.i64
                                                                                                        x_17,
                                                                                                      Value.int
                                                                                                        IntKind.i64
                                                                                                        x_18,
                                                                                                      Value.int
                                                                                                        IntKind.i64
                                                                                                        x_19,
                                                                                                      Value.int
                                                                                                        IntKind.i64
                                                                                                        x_20,
                                                                                                      Value.int
                                                                                                        IntKind.i64
                                                                                                        x_21,
                                                                                                      Value.int
                                                                                                        IntKind.i64
                                                                                                        x_22,
                                                                                                      Value.int
                                                                                                        IntKind.i64
                                                                                                        x_23,
                                                                                                      Value.int
                                                                                                        IntKind.i64
                                                                                                        x_24,
                                                                                                      Value.bool x_25,
                                                                                                      Value.bool x_26,
                                                                                                      Value.slice x_27.a
                                                                                                        x_27.len
                                                                                                        x_27.cap]).vs
                                                                                                (storesW
                                                                                                  (Addr.mk b 0 none)
                                                                                                  [Value.int IntKind.i64
                                                                                                      x_15,
                                                                                                    Value.int
                                                                                                      IntKind.i64 x_16,
                                                                                                    Value.int
                                                                                                      IntKind.i64 x_17,
                                                                                                    Value.int
                                                                                                      IntKind.i64 x_18,
                                                                                                    Value.int
                                                                                                      IntKind.i64 x_19,
                                                                                                    Value.int
                                                                                                      IntKind.i64 x_20,
                                                                                                    Value.int
                                                                                                      IntKind.i64 x_21,
                                                                                                    Value.int
                                                                                                      IntKind.i64 x_22,
                                                                                                    Value.int
                                                                                                      IntKind.i64 x_23,
                                                                                                    Value.int
                                                                                                      IntKind.i64 x_24,
                                                                                                    Value.bool x_25,
                                                                                                    Value.bool x_26,
                                                                                                    Value.slice x_27.a
                                                                                                      x_27.len x_27.cap]
                                                                                                  (k
                                                                                                    (some
                                                                                                        (Addr.mk b_1 0
                                                                                                          none),
                                                                                                      some
                                                                                                        (Addr.mk b 0
                                                                                                          none)))))))))))))))
def table_Table_tick : ((Option Addr) × Int) → ((Int × Int × Int × Int) → HProp) → HProp :=
fun (t : Option Addr × Int) (Q : Int × Int × Int × Int → HProp) =>
  table_Table_those
    (t.fst, fun (t : Int × Int × Int × Int × Int × Int × Int × Int × Int × Int × Bool × Bool × Sl) =>
      table_queued
        (t.fst, t.snd.fst, t.snd.snd.fst, t.snd.snd.snd.fst, t.snd.snd.snd.snd.fst, t.snd.snd.snd.snd.snd.fst,
          t.snd.snd.snd.snd.snd.snd.fst, t.snd.snd.snd.snd.snd.snd.snd.fst, t.snd.snd.snd.snd.snd.snd.snd.snd.fst,
          t.snd.snd.snd.snd.snd.snd.snd.snd.snd.fst, t.snd.snd.snd.snd.snd.snd.snd.snd.snd.snd.fst,
          t.snd.snd.snd.snd.snd.snd.snd.snd.snd.snd.snd.fst, t.snd.snd.snd.snd.snd.snd.snd.snd.snd.snd.snd.snd))
    fun (r : Sl) =>
    loopW 0 fun (s : Int) (k : Int → HProp) =>
      iteW (ltI s ↑r.len)
        (indexW s r 1 fun (a : Addr) =>
          loadI IntKind.i64 a fun (x : Int) =>
            derefW t.fst fun (a : Addr) =>
              loadL (a.add 5) fun (x_1 : Sl) =>
                indexW (sub IntKind.i64 x 1) x_1 13 fun (a : Addr) =>
                  loadI IntKind.i64 (a.add 9) fun (x_2 : Int) =>
                    indexW (sub IntKind.i64 x 1) x_1 13 fun (a : Addr) =>
                      storeW (a.add 9) (Value.int IntKind.i64 (add IntKind.i64 x_2 1)) (k (add IntKind.i64 s 1)))
        (withK
          (fun (t_1 : PUnit) =>
            table_Table_those
              (t.fst, fun (t : Int × Int × Int × Int × Int × Int × Int × Int × Int × Int × Bool × Bool × Sl) =>
                table_attached
                  (t.fst, t.snd.fst, t.snd.snd.fst, t.snd.snd.snd.fst, t.snd.snd.snd.snd.fst, t.snd.snd.snd.snd.snd.fst,
                    t.snd.snd.snd.snd.snd.snd.fst, t.snd.snd.snd.snd.snd.snd.snd.fst,
                    t.snd.snd.snd.snd.snd.snd.snd.snd.fst, t.snd.snd.snd.snd.snd.snd.snd.snd.snd.fst,
                    t.snd.snd.snd.snd.snd.snd.snd.snd.snd.snd.fst, t.snd.snd.snd.snd.snd.snd.snd.snd.snd.snd.snd.fst,
                    t.snd.snd.snd.snd.snd.snd.snd.snd.snd.snd.snd.snd))
              fun (r : Sl) =>
              iteW (eqI (↑r.len) 0) (Q (1, 0, 0, 0))
                (derefW t.fst fun (a : Addr) =>
                  loadI IntKind.i64 (a.add 4) fun (x : Int) =>
                    derefW t.fst fun (a : Addr) =>
                      loadI IntKind.i64 (a.add 1) fun (x_1 : Int) =>
                        mustW ((x_1 : Int) ≠ 0)
                          (derefW t.fst fun (a : Addr) =>
                            storeW (a.add 4) (Value.int IntKind.i64 (rem (add IntKind.i64 x 1) x_1))
                              (loopW 0 fun (s : Int) (k : Int → HProp) =>
                                iteW (ltI s ↑r.len)
                                  (withK (fun (t : PUnit) => k (add IntKind.i64 s 1))
                                    fun (k : PUnit → HProp) =>
                                    indexW s r 1 fun (a : Addr) =>
                                      loadI IntKind.i64 a fun (x : Int) =>
                                        iteW (!eqI t.snd 0)
                                          (derefW t.fst fun (a : Addr) =>
                                            loadL (a.add 5) fun (x_2 : Sl) =>
                                              indexW (sub IntKind.i64 x 1) x_2 13 fun (a : Addr) =>
                                                table_entry_ends (some a, 5, t.snd) fun (r : PUnit) => k ())
                                          (derefW t.fst fun (a : Addr) =>
                                            loadL (a.add 5) fun (x_2 : Sl) =>
                                              indexW (sub IntKind.i64 x 1) x_2 13 fun (a : Addr) =>
                                                storeW (a.add 11) (Value.bool true) (k ())))
                                  (iteW (!eqI t.snd 0)
                                    (derefW t.fst fun (a : Addr) =>
                                      loadI IntKind.i64 (a.add 4) fun (x : Int) => Q (4, x, 0, t.snd))
                                    (derefW t.fst fun (a : Addr) =>
                                      loadI IntKind.i64 (a.add 4) fun (x : Int) => Q (2, x, 0, 0)))))))
          fun (k : PUnit → HProp) =>
          loopW () fun (s : PUnit) (k_1 : PUnit → HProp) =>
            table_Table_those
              (t.fst, fun (t : Int × Int × Int × Int × Int × Int × Int × Int × Int × Int × Bool × Bool × Sl) =>
                table_attached
                  (t.fst, t.snd.fst, t.snd.snd.fst, t.snd.snd.snd.fst, t.snd.snd.snd.snd.fst, t.snd.snd.snd.snd.snd.fst,
                    t.snd.snd.snd.snd.snd.snd.fst, t.snd.snd.snd.snd.snd.snd.snd.fst,
                    t.snd.snd.snd.snd.snd.snd.snd.snd.fst, t.snd.snd.snd.snd.snd.snd.snd.snd.snd.fst,
                    t.snd.snd.snd.snd.snd.snd.snd.snd.snd.snd.fst, t.snd.snd.snd.snd.snd.snd.snd.snd.snd.snd.snd.fst,
                    t.snd.snd.snd.snd.snd.snd.snd.snd.snd.snd.snd.snd))
              fun (r : Sl) =>
              iteW (ltI (↑r.len) 4)
                (table_Table_those
                  (t.fst, fun (t : Int × Int × Int × Int × Int × Int × Int × Int × Int × Int × Bool × Bool × Sl) =>
                    table_queued
                      (t.fst, t.snd.fst, t.snd.snd.fst, t.snd.snd.snd.fst, t.snd.snd.snd.snd.fst,
                        t.snd.snd.snd.snd.snd.fst, t.snd.snd.snd.snd.snd.snd.fst, t.snd.snd.snd.snd.snd.snd.snd.fst,
                        t.snd.snd.snd.snd.snd.snd.snd.snd.fst, t.snd.snd.snd.snd.snd.snd.snd.snd.snd.fst,
                        t.snd.snd.snd.snd.snd.snd.snd.snd.snd.snd.fst,
                        t.snd.snd.snd.snd.snd.snd.snd.snd.snd.snd.snd.fst,
                        t.snd.snd.snd.snd.snd.snd.snd.snd.snd.snd.snd.snd))
                  fun (r : Sl) =>
                  iteW (eqI (↑r.len) 0) (k ())
                    (derefW t.fst fun (a : Addr) =>
                      loadL (a.add 5) fun (x : Sl) =>
                        slices_MinFunc_int_int (r, fun (t_1 : Int × Int) => table_Table_ahead (t.fst, t_1.fst, t_1.snd))
                          fun (r : Int) =>
                          keepsW (a.add 5) (Rec.mk 3 (Pl.heap (a.add 5)) [Value.slice x.a x.len x.cap]).vs
                            (indexW (sub IntKind.i64 r 1) x 13 fun (a : Addr) =>
                              loadI IntKind.i64 ((a.add 0).add 3) fun (x : Int) =>
                                derefW t.fst fun (a_1 : Addr) =>
                                  loadI IntKind.i64 (a_1.add 2) fun (x_1 : Int) =>
                                    table_Table_Used t.fst fun (r : Int) =>
                                      keepsW ((a.add 0).add 3)
                                        (Rec.mk 4 (Pl.heap ((a.add 0).add 3)) [Value.int IntKind.i64 x]).vs
                                        (keepsW (a_1.add 2)
                                          (Rec.mk 8 (Pl.heap (a_1.add 2)) [Value.int IntKind.i64 x_1]).vs
                                          (iteW (ltI (sub IntKind.i64 x_1 r) x) (k ())
                                            (storeW (a.add 4) (Value.int IntKind.i64 2)
                                              (storeW (a.add 10) (Value.bool true) (k_1 ()))))))))
                (k ()))
def table_entry_serve : ((Option Addr) × Int × Int) → ((Unit) → HProp) → HProp :=
fun (t : Option Addr × Int × Int) (Q : Unit → HProp) =>
  derefW t.fst fun (a : Addr) =>
    storeW (a.add 11) (Value.bool false)
      (iteW (!eqI t.snd.snd 0) (table_entry_ends (t.fst, 5, t.snd.snd) fun (r : PUnit) => Q ())
        (derefW t.fst fun (a : Addr) =>
          loadI IntKind.i64 (a.add 8) fun (x : Int) =>
            derefW t.fst fun (a : Addr) =>
              storeW (a.add 8) (Value.int IntKind.i64 (add IntKind.i64 x 1))
                (derefW t.fst fun (a : Addr) =>
                  loadI IntKind.i64 (a.add 8) fun (x : Int) =>
                    iteW (ltI x t.snd.fst) (Q ())
                      (derefW t.fst fun (a : Addr) =>
                        storeW (a.add 8) (Value.int IntKind.i64 0)
                          (derefW t.fst fun (a : Addr) =>
                            loadI IntKind.i64 (a.add 7) fun (x : Int) =>
                              derefW t.fst fun (a : Addr) =>
                                loadI IntKind.i64 (a.add 6) fun (x_1 : Int) =>
                                  iteW (eqI (add IntKind.i64 x 1) x_1)
                                    (table_entry_ends (t.fst, 3, 0) fun (r : PUnit) => Q ())
                                    (derefW t.fst fun (a : Addr) =>
                                      loadI IntKind.i64 (a.add 7) fun (x : Int) =>
                                        derefW t.fst fun (a : Addr) =>
                                          storeW (a.add 7) (Value.int IntKind.i64 (add IntKind.i64 x 1)) (Q ())))))))
def table_Table_Step : ((Option Addr) × Int × Int) → ((Int × Int × Int × Int × Int) → HProp) → HProp :=
fun (t : Option Addr × Int × Int) (Q : Int × Int × Int × Int × Int → HProp) =>
  table_Table_none t.fst fun (r : Bool) =>
    iteW r (Q (0, 0, 0, 0, 1))
      (table_Table_those
        (t.fst, fun (t : Int × Int × Int × Int × Int × Int × Int × Int × Int × Int × Bool × Bool × Sl) =>
          table_expected
            (t.fst, t.snd.fst, t.snd.snd.fst, t.snd.snd.snd.fst, t.snd.snd.snd.snd.fst, t.snd.snd.snd.snd.snd.fst,
              t.snd.snd.snd.snd.snd.snd.fst, t.snd.snd.snd.snd.snd.snd.snd.fst, t.snd.snd.snd.snd.snd.snd.snd.snd.fst,
              t.snd.snd.snd.snd.snd.snd.snd.snd.snd.fst, t.snd.snd.snd.snd.snd.snd.snd.snd.snd.snd.fst,
              t.snd.snd.snd.snd.snd.snd.snd.snd.snd.snd.snd.fst, t.snd.snd.snd.snd.snd.snd.snd.snd.snd.snd.snd.snd))
        fun (r : Sl) =>
        iteW (eqI (↑r.len) 0)
          (table_Table_tick (t.fst, t.snd.snd) fun (r : Int × Int × Int × Int) =>
            Q (r.fst, r.snd.fst, r.snd.snd.fst, r.snd.snd.snd, 0))
          (withK
            (fun (t_1 : Bool) =>
              iteW t_1 (Q (0, 0, 0, 0, 2))
                (derefW t.fst fun (a : Addr) =>
                  loadL (a.add 5) fun (x : Sl) =>
                    indexW t.snd.fst r 1 fun (a : Addr) =>
                      loadI IntKind.i64 a fun (x_1 : Int) =>
                        indexW (sub IntKind.i64 x_1 1) x 13 fun (a : Addr) =>
                          derefW t.fst fun (a_1 : Addr) =>
                            loadI IntKind.i64 (a_1.add 1) fun (x : Int) =>
                              table_entry_serve (some a, x, t.snd.snd) fun (r_1 : PUnit) =>
                                derefW t.fst fun (a : Addr) =>
                                  loadI IntKind.i64 (a.add 4) fun (x : Int) =>
                                    indexW t.snd.fst r 1 fun (a : Addr) =>
                                      loadI IntKind.i64 a fun (x_2 : Int) => Q (3, x, x_2, t.snd.snd, 0)))
            fun (k : Bool → HProp) => iteW (ltI t.snd.fst 0) (k true) (k (leI (↑r.len) t.snd.fst))))
def law26_Ints : (Sl × Sl) → ((Bool) → HProp) → HProp :=
fun (t : Sl × Sl) (Q : Bool → HProp) =>
  iteW (!eqI ↑t.fst.len ↑t.snd.len) (Q false)
    (loopW 0 fun (s : Int) (k : Int → HProp) =>
      iteW (ltI s ↑t.fst.len)
        (indexW s t.fst 1 fun (a : Addr) =>
          loadI IntKind.i64 a fun (x : Int) =>
            indexW s t.snd 1 fun (a : Addr) =>
              loadI IntKind.i64 a fun (x_1 : Int) => iteW (!eqI x x_1) (Q false) (k (add IntKind.i64 s 1)))
        (Q true))
def table_Table_Waiting : ((Option Addr)) → ((Sl) → HProp) → HProp :=
fun (t : Option Addr) (Q : Sl → HProp) =>
  table_Table_none t fun (r : Bool) =>
    iteW r (Q (Sl.mk none 0 0))
      (table_Table_those
        (t, fun (t : Int × Int × Int × Int × Int × Int × Int × Int × Int × Int × Bool × Bool × Sl) =>
          table_expected
            (t.fst, t.snd.fst, t.snd.snd.fst, t.snd.snd.snd.fst, t.snd.snd.snd.snd.fst, t.snd.snd.snd.snd.snd.fst,
              t.snd.snd.snd.snd.snd.snd.fst, t.snd.snd.snd.snd.snd.snd.snd.fst, t.snd.snd.snd.snd.snd.snd.snd.snd.fst,
              t.snd.snd.snd.snd.snd.snd.snd.snd.snd.fst, t.snd.snd.snd.snd.snd.snd.snd.snd.snd.snd.fst,
              t.snd.snd.snd.snd.snd.snd.snd.snd.snd.snd.snd.fst, t.snd.snd.snd.snd.snd.snd.snd.snd.snd.snd.snd.snd))
        Q)
def law28_keeps : (Unit) → ((Bool) → HProp) → HProp :=
fun (t : Unit) (Q : Bool → HProp) =>
  newW
    [Value.int IntKind.i64 0, Value.int IntKind.i64 1, Value.int IntKind.i64 1, Value.int IntKind.i64 2,
      Value.int IntKind.i64 2, Value.int IntKind.i64 0]
    fun (b : Nat) =>
    table_New (4, Sl.mk (some (Addr.mk b 0 none)) 3 3, 2, 600) fun (r : Option Addr × Int) =>
      table_New (4, Sl.mk (some (Addr.mk b 0 none)) 3 3, 5, 600) fun (r_1 : Option Addr × Int) =>
        withK
          (fun (t : Bool) =>
            iteW t (Q false)
              (table_Table_Submit (r.fst, 1, 0, 0, 300) fun (r_2 : Int × Int) =>
                table_Table_Submit (r.fst, 3, 0, 0, 300) fun (r_3 : Int × Int) =>
                  table_Table_Step (r.fst, 0, 0) fun (r_4 : Int × Int × Int × Int × Int) =>
                    table_Table_Step (r.fst, 1, 0) fun (r_5 : Int × Int × Int × Int × Int) =>
                      withK
                        (fun (t : Bool) =>
                          iteW t (Q false)
                            (table_Table_Step (r.fst, 0, 60) fun (r_6 : Int × Int × Int × Int × Int) =>
                              table_Table_Step (r.fst, 0, 50) fun (r_7 : Int × Int × Int × Int × Int) =>
                                table_Table_Poll (r.fst, 1) fun (r_8 : Int × Int × Int × Int) =>
                                  table_Table_Poll (r.fst, 2) fun (r_9 : Int × Int × Int × Int) =>
                                    table_Table_Step (r.fst, 0, 0) fun (r_10 : Int × Int × Int × Int × Int) =>
                                      withK Q fun (k : Bool → HProp) =>
                                        iteW
                                          (eqPairs
                                            [(r_6.fst, 3), (r_6.snd.fst, 0), (r_6.snd.snd.fst, 1),
                                              (r_6.snd.snd.snd.fst, 60)])
                                          (iteW
                                            (eqPairs
                                              [(r_7.fst, 4), (r_7.snd.fst, 1), (r_7.snd.snd.fst, 0),
                                                (r_7.snd.snd.snd.fst, 50)])
                                            (iteW (eqPairs [(r_8.fst, 5), (r_8.snd.fst, 0), (r_8.snd.snd.fst, 60)])
                                              (iteW (eqPairs [(r_9.fst, 5), (r_9.snd.fst, 0), (r_9.snd.snd.fst, 50)])
                                                (iteW
                                                  (eqPairs
                                                    [(r_10.fst, 1), (r_10.snd.fst, 0), (r_10.snd.snd.fst, 0),
                                                      (r_10.snd.snd.snd.fst, 0)])
                                                  (table_Table_Used r.fst fun (r_11 : Int) =>
                                                    iteW (eqI r_11 0)
                                                      (table_Table_Cancel (r.fst, 1) fun (r : Int) => k (eqI r 270))
                                                      (k false))
                                                  (k false))
                                                (k false))
                                              (k false))
                                            (k false))
                                          (k false)))
                        fun (k : Bool → HProp) =>
                        iteW (!eqI r_2.fst 1) (k true)
                          (iteW (!eqI r_3.fst 2) (k true)
                            (iteW
                              (!eqPairs
                                  [(r_4.fst, 2), (r_4.snd.fst, 0), (r_4.snd.snd.fst, 0), (r_4.snd.snd.snd.fst, 0)])
                              (k true)
                              (iteW
                                (!eqPairs
                                    [(r_5.fst, 3), (r_5.snd.fst, 0), (r_5.snd.snd.fst, 2), (r_5.snd.snd.snd.fst, 0)])
                                (k true)
                                (table_Table_Waiting r.fst fun (r_6 : Sl) =>
                                  newW [Value.int IntKind.i64 1] fun (b : Nat) =>
                                    law26_Ints (r_6, Sl.mk (some (Addr.mk b 0 none)) 1 1) fun (r_7 : Bool) =>
                                      iteW (!r_7) (k true) (table_Table_Used r.fst fun (r : Int) => k !eqI r 600)))))))
          fun (k : Bool → HProp) => iteW (!eqI r.snd 0) (k true) (k (eqI r_1.snd 0))
def ref08_Less : (Int × Int × Int × Int) → ((Bool) → HProp) → HProp :=
fun (t : Int × Int × Int × Int) (Q : Bool → HProp) =>
  withK Q fun (k : Bool → HProp) =>
    iteW (ltI t.fst t.snd.snd.fst) (k true) (iteW (eqI t.fst t.snd.snd.fst) (k (ltI t.snd.fst t.snd.snd.snd)) (k false))
def ref08_put : (Sl × Int × Int × Bool) → ((Sl) → HProp) → HProp :=
fun (t : Sl × Int × Int × Bool) (Q : Sl → HProp) =>
  loopW ↑t.fst.len fun (s : Int) (k : Int → HProp) =>
    withK
      (fun (t_1 : Bool) =>
        iteW t_1 (k (sub IntKind.i64 s 1))
          (withK
            (fun (t_2 : Bool) =>
              iteW t_2 (Q t.fst)
                (sliceW t.fst 2 0 s fun (u : Sl) =>
                  rowW u 2 fun (l : List Value) =>
                    appendW (Sl.mk none 0 0) [Value.int IntKind.i64 0, Value.int IntKind.i64 0] 16 u.len l
                      fun (u : Sl) =>
                      appendW u [Value.int IntKind.i64 0, Value.int IntKind.i64 0] 16 1
                        [Value.int IntKind.i64 t.snd.fst, Value.int IntKind.i64 t.snd.snd.fst] fun (u : Sl) =>
                        sliceW t.fst 2 s ↑t.fst.len fun (u_1 : Sl) =>
                          rowW u_1 2 fun (l : List Value) =>
                            appendW u [Value.int IntKind.i64 0, Value.int IntKind.i64 0] 16 u_1.len l Q))
            fun (k : Bool → HProp) =>
            iteW t.snd.snd.snd
              (iteW (ltI 0 s)
                (indexW (sub IntKind.i64 s 1) t.fst 2 fun (a : Addr) =>
                  loadI IntKind.i64 (a.add 0) fun (x : Int) =>
                    loadI IntKind.i64 (a.add 1) fun (x_1 : Int) => k (eqPairs [(x, t.snd.fst), (x_1, t.snd.snd.fst)]))
                (k false))
              (k false)))
      fun (k : Bool → HProp) =>
      iteW (ltI 0 s)
        (indexW (sub IntKind.i64 s 1) t.fst 2 fun (a : Addr) =>
          loadI IntKind.i64 (a.add 0) fun (x : Int) =>
            loadI IntKind.i64 (a.add 1) fun (x_1 : Int) => ref08_Less (t.snd.fst, t.snd.snd.fst, x, x_1) k)
        (k false)
def ref08_Normal : (Int × Sl) → ((Sl × Int) → HProp) → HProp :=
fun (t : Int × Sl) (Q : Sl × Int → HProp) =>
  withK
    (fun (t_1 : Bool) =>
      iteW t_1 (Q (Sl.mk none 0 0, 2))
        (loopW (Sl.mk none 0 0, 0) fun (s : Sl × Int) (k : Sl × Int → HProp) =>
          iteW (ltI s.snd ↑t.snd.len)
            (indexW s.snd t.snd 2 fun (a : Addr) =>
              loadI IntKind.i64 (a.add 0) fun (x : Int) =>
                loadI IntKind.i64 (a.add 1) fun (x_1 : Int) =>
                  withK
                    (fun (t : Bool) =>
                      iteW t (Q (Sl.mk none 0 0, 2))
                        (ref08_put (s.fst, x, x_1, true) fun (r : Sl) => k (r, add IntKind.i64 s.snd 1)))
                    fun (k : Bool → HProp) =>
                    iteW (ltI x 0) (k true)
                      (iteW (leI t.fst x) (k true)
                        (iteW (ltI x_1 0) (k true) (iteW (leI t.fst x_1) (k true) (k (eqI x x_1))))))
            (iteW (ltI 4096 ↑s.fst.len) (Q (Sl.mk none 0 0, 3)) (Q (s.fst, 0)))))
    fun (k : Bool → HProp) => iteW (ltI t.fst 1) (k true) (k (ltI 256 t.fst))
def law16_Graph_Made : (Int × Sl) → ((Int × Sl) → HProp) → HProp :=
fun (t : Int × Sl) (Q : Int × Sl → HProp) =>
  mustW ((60 : Int) ≠ 0)
    (loopW (Sl.mk none 0 0, 0) fun (s : Sl × Int) (k : Sl × Int → HProp) =>
      iteW (ltI s.snd ↑t.snd.len)
        (withK (fun (t : Sl) => k (t, add IntKind.i64 s.snd 1)) fun (k : Sl → HProp) =>
          indexW s.snd t.snd 2 fun (a : Addr) =>
            iteW (leI 0 0)
              (iteW (ltI 0 ↑2)
                (loadI IntKind.u8 (a.add 0) fun (x : Int) =>
                  mustW ((add IntKind.i64 1 (rem (cnv IntKind.i64 t.fst) 60) : Int) ≠ 0)
                    (indexW s.snd t.snd 2 fun (a : Addr) =>
                      iteW (leI 0 1)
                        (iteW (ltI 1 ↑2)
                          (loadI IntKind.u8 (a.add 1) fun (x_1 : Int) =>
                            mustW ((add IntKind.i64 1 (rem (cnv IntKind.i64 t.fst) 60) : Int) ≠ 0)
                              (iteW
                                (!eqI (rem (cnv IntKind.i64 x) (add IntKind.i64 1 (rem (cnv IntKind.i64 t.fst) 60)))
                                    (rem (cnv IntKind.i64 x_1) (add IntKind.i64 1 (rem (cnv IntKind.i64 t.fst) 60))))
                                (appendW s.fst [Value.int IntKind.i64 0, Value.int IntKind.i64 0] 16 1
                                  [Value.int IntKind.i64
                                      (rem (cnv IntKind.i64 x) (add IntKind.i64 1 (rem (cnv IntKind.i64 t.fst) 60))),
                                    Value.int IntKind.i64
                                      (rem (cnv IntKind.i64 x_1) (add IntKind.i64 1 (rem (cnv IntKind.i64 t.fst) 60)))]
                                  k)
                                (k s.fst)))
                          stuckW)
                        stuckW))
                stuckW)
              stuckW)
        (ref08_Normal (add IntKind.i64 1 (rem (cnv IntKind.i64 t.fst) 60), s.fst) fun (r : Sl × Int) =>
          Q (add IntKind.i64 1 (rem (cnv IntKind.i64 t.fst) 60), r.fst)))
def law27_Total : (Int) → ((Int) → HProp) → HProp :=
fun (t : Int) (Q : Int → HProp) => mustW ((4000 : Int) ≠ 0) (Q (add IntKind.i64 256 (rem (cnv IntKind.i64 t) 4000)))
def ref16_Check : (Int × Int × Int × Int × Int) → ((Int) → HProp) → HProp :=
fun (t : Int × Int × Int × Int × Int) (Q : Int → HProp) =>
  withK
    (fun (t_1 : Int × Int) =>
      withK (fun (t : Bool) => iteW t (Q 2) (Q 0)) fun (k : Bool → HProp) =>
        iteW (ltI t.snd.snd.snd.snd 1) (k true)
          (iteW (ltI 256 t.snd.snd.snd.snd) (k true)
            (iteW (ltI t.snd.snd.fst 0) (k true)
              (iteW (ltI 7 t.snd.snd.fst) (k true)
                (iteW (ltI t.snd.fst t_1.fst) (k true) (k (ltI t_1.snd t.snd.fst)))))))
    fun (k : Int × Int → HProp) =>
    iteW (eqI t.fst 1) (k (0, sub IntKind.i64 t.snd.snd.snd.snd 1))
      (iteW (eqI t.fst 2) (k (1, 64)) (iteW (eqI t.fst 3) (k (0, 0)) (iteW (eqI t.fst 4) (k (0, 4096)) (k (0, -1)))))
def ref16_same : (Sl × Sl) → ((Bool) → HProp) → HProp :=
fun (t : Sl × Sl) (Q : Bool → HProp) =>
  iteW (!eqI ↑t.fst.len ↑t.snd.len) (Q false)
    (loopW 0 fun (s : Int) (k : Int → HProp) =>
      iteW (ltI s ↑t.fst.len)
        (indexW s t.fst 2 fun (a : Addr) =>
          loadI IntKind.i64 (a.add 0) fun (x : Int) =>
            loadI IntKind.i64 (a.add 1) fun (x_1 : Int) =>
              indexW s t.snd 2 fun (a : Addr) =>
                loadI IntKind.i64 (a.add 0) fun (x_2 : Int) =>
                  loadI IntKind.i64 (a.add 1) fun (x_3 : Int) =>
                    iteW (!eqPairs [(x, x_2), (x_1, x_3)]) (Q false) (k (add IntKind.i64 s 1)))
        (Q true))
def ref16_Refuses : (Int × Sl × Int × Int × Int × Int) → ((Int) → HProp) → HProp :=
fun (t : Int × Sl × Int × Int × Int × Int) (Q : Int → HProp) =>
  ref08_Normal (t.fst, t.snd.fst) fun (r : Sl × Int) =>
    iteW (!eqI r.snd 0) (Q r.snd)
      (ref16_same (t.snd.fst, r.fst) fun (r : Bool) =>
        iteW (!r) (Q 2)
          (ref16_Check (t.snd.snd.fst, t.snd.snd.snd.fst, t.snd.snd.snd.snd.fst, t.snd.snd.snd.snd.snd, t.fst) Q))
def ref09_Cut : (Int × Int) → ((Sl × Int) → HProp) → HProp :=
fun (t : Int × Int) (Q : Sl × Int → HProp) =>
  withK
    (fun (t_1 : Bool) =>
      iteW t_1 (Q (Sl.mk none 0 0, 2))
        (loopW (Sl.mk none 0 0, 0) fun (s : Sl × Int) (k : Sl × Int → HProp) =>
          iteW (ltI s.snd t.snd)
            (mustW ((t.snd : Int) ≠ 0)
              (mustW ((t.snd : Int) ≠ 0)
                (appendW s.fst [Value.int IntKind.i64 0, Value.int IntKind.i64 0] 16 1
                  [Value.int IntKind.i64 (quo IntKind.i64 (mul IntKind.i64 s.snd t.fst) t.snd),
                    Value.int IntKind.i64 (quo IntKind.i64 (mul IntKind.i64 (add IntKind.i64 s.snd 1) t.fst) t.snd)]
                  fun (u : Sl) => k (u, add IntKind.i64 s.snd 1))))
            (Q (s.fst, 0))))
    fun (k : Bool → HProp) =>
    iteW (ltI t.fst 1) (k true)
      (iteW (ltI 256 t.fst) (k true) (iteW (ltI t.snd 1) (k true) (iteW (ltI t.fst t.snd) (k true) (k (ltI 16 t.snd)))))
def ref28_New : (Int × Sl × Int × Int) → (((Option Addr) × Int) → HProp) → HProp :=
fun (t : Int × Sl × Int × Int) (Q : Option Addr × Int → HProp) =>
  ref16_Refuses (t.fst, t.snd.fst, 3, 0, 0, 0) fun (r : Int) =>
    iteW (!eqI r 0) (Q (none, r))
      (ref09_Cut (t.fst, t.snd.snd.fst) fun (r : Sl × Int) =>
        iteW (!eqI r.snd 0) (Q (none, r.snd))
          (withK
            (fun (t_1 : Bool) =>
              iteW t_1 (Q (none, 2))
                (newW [] fun (b : Nat) =>
                  rowW t.snd.fst 2 fun (l : List Value) =>
                    appendW (Sl.mk (some (Addr.mk b 0 none)) 0 0) [Value.int IntKind.i64 0, Value.int IntKind.i64 0] 16
                      t.snd.fst.len l fun (u : Sl) =>
                      newW
                        [Value.int IntKind.i64 t.fst, Value.int IntKind.i64 t.snd.snd.fst,
                          Value.int IntKind.i64 t.snd.snd.snd, Value.slice u.a u.len u.cap, Value.int IntKind.i64 (-1),
                          Value.slice (Sl.mk none 0 0).a 0 0]
                        fun (b : Nat) => Q (some (Addr.mk b 0 none), 0)))
            fun (k : Bool → HProp) =>
            iteW (ltI t.snd.snd.snd 1) (k true) (k (ltI 1099511627776 t.snd.snd.snd))))
def law16_Ask_Made : (Int × Int × Int × Int × Int) → ((Int × Int × Int × Int) → HProp) → HProp :=
fun (t : Int × Int × Int × Int × Int) (Q : Int × Int × Int × Int → HProp) =>
  mustW ((4 : Int) ≠ 0)
    (mustW ((8 : Int) ≠ 0)
      (mustW ((1000 : Int) ≠ 0)
        (withK (fun (t : Int × Int × Int × Int) => Q (t.fst, t.snd.fst, t.snd.snd.fst, t.snd.snd.snd))
          fun (k : Int × Int × Int × Int → HProp) =>
          iteW (eqI (add IntKind.i64 1 (rem (cnv IntKind.i64 t.fst) 4)) 1)
            (mustW ((t.snd.snd.snd.snd : Int) ≠ 0)
              (k
                (add IntKind.i64 1 (rem (cnv IntKind.i64 t.fst) 4), rem (cnv IntKind.i64 t.snd.fst) t.snd.snd.snd.snd,
                  rem (cnv IntKind.i64 t.snd.snd.fst) 8,
                  add IntKind.i64 256 (rem (cnv IntKind.i64 t.snd.snd.snd.fst) 1000))))
            (iteW (eqI (add IntKind.i64 1 (rem (cnv IntKind.i64 t.fst) 4)) 2)
              (mustW ((12 : Int) ≠ 0)
                (k
                  (add IntKind.i64 1 (rem (cnv IntKind.i64 t.fst) 4),
                    add IntKind.i64 1 (rem (cnv IntKind.i64 t.snd.fst) 12), rem (cnv IntKind.i64 t.snd.snd.fst) 8,
                    add IntKind.i64 256 (rem (cnv IntKind.i64 t.snd.snd.snd.fst) 1000))))
              (iteW (eqI (add IntKind.i64 1 (rem (cnv IntKind.i64 t.fst) 4)) 4)
                (mustW ((9 : Int) ≠ 0)
                  (k
                    (add IntKind.i64 1 (rem (cnv IntKind.i64 t.fst) 4), rem (cnv IntKind.i64 t.snd.fst) 9,
                      rem (cnv IntKind.i64 t.snd.snd.fst) 8,
                      add IntKind.i64 256 (rem (cnv IntKind.i64 t.snd.snd.snd.fst) 1000))))
                (k
                  (add IntKind.i64 1 (rem (cnv IntKind.i64 t.fst) 4), 0, rem (cnv IntKind.i64 t.snd.snd.fst) 8,
                    add IntKind.i64 256 (rem (cnv IntKind.i64 t.snd.snd.snd.fst) 1000))))))))
def ref28_Table_many : ((Option Addr) × Int) → ((Int) → HProp) → HProp :=
fun (t : Option Addr × Int) (Q : Int → HProp) =>
  loopW (0, 0) fun (s : Int × Int) (k : Int × Int → HProp) =>
    derefW t.fst fun (a : Addr) =>
      loadL (a.add 5) fun (x : Sl) =>
        iteW (ltI s.snd ↑x.len)
          (withK (fun (t : Int) => k (t, add IntKind.i64 s.snd 1)) fun (k : Int → HProp) =>
            derefW t.fst fun (a : Addr) =>
              loadL (a.add 5) fun (x : Sl) =>
                indexW s.snd x 11 fun (a : Addr) =>
                  loadI IntKind.i64 (a.add 4) fun (x : Int) =>
                    iteW (eqI x t.snd) (k (add IntKind.i64 s.fst 1)) (k s.fst))
          (Q s.fst)
def ref16_First : (Int × Int × Int × Int × Int) → ((Sl) → HProp) → HProp :=
fun (t : Int × Int × Int × Int × Int) (Q : Sl → HProp) =>
  makeW t.fst t.fst [Value.int IntKind.u64 0] 8 fun (v : Sl) =>
    loopW 0 fun (s : Int) (k : Int → HProp) =>
      iteW (ltI s t.fst)
        (withK (fun (t : PUnit) => k (add IntKind.i64 s 1)) fun (k : PUnit → HProp) =>
          iteW (eqI t.snd.fst 1)
            (indexW s v 1 fun (a : Addr) =>
              storeW a (Value.int IntKind.u64 18446744073709551615)
                (iteW (eqI s t.snd.snd.fst) (indexW s v 1 fun (a : Addr) => storeW a (Value.int IntKind.u64 0) (k ()))
                  (k ())))
            (iteW (eqI t.snd.fst 2) (indexW s v 1 fun (a : Addr) => storeW a (Value.int IntKind.u64 4294967296) (k ()))
              (iteW (eqI t.snd.fst 3)
                (indexW s v 1 fun (a : Addr) => storeW a (Value.int IntKind.u64 (cnv IntKind.u64 s)) (k ()))
                (iteW (eqI t.snd.fst 4) (indexW s v 1 fun (a : Addr) => storeW a (Value.int IntKind.u64 1) (k ()))
                  (k ())))))
        (Q v)
def ref16_begins : (Sl × Int) → ((Int) → HProp) → HProp :=
fun (t : Sl × Int) (Q : Int → HProp) =>
  loopW (0, 0) fun (s : Int × Int) (k : Int × Int → HProp) =>
    iteW (ltI s.snd ↑t.fst.len)
      (withK (fun (t : Int) => k (t, add IntKind.i64 s.snd 1)) fun (k : Int → HProp) =>
        indexW s.snd t.fst 2 fun (a : Addr) =>
          loadI IntKind.i64 (a.add 0) fun (x : Int) => iteW (eqI x t.snd) (k (add IntKind.u64 s.fst 1)) (k s.fst))
      (Q s.fst)
def ref16_Next : (Sl × Sl × Int × Int × Int × Int) → ((Sl) → HProp) → HProp :=
fun (t : Sl × Sl × Int × Int × Int × Int) (Q : Sl → HProp) =>
  newW [] fun (b : Nat) =>
    rowW t.fst 1 fun (l : List Value) =>
      appendW (Sl.mk (some (Addr.mk b 0 none)) 0 0) [Value.int IntKind.u64 0] 8 t.fst.len l fun (u : Sl) =>
        makeW ↑t.fst.len ↑t.fst.len [Value.int IntKind.u64 0] 8 fun (v : Sl) =>
          loopW 0 fun (s : Int) (k : Int → HProp) =>
            iteW (ltI s ↑t.snd.fst.len)
              (indexW s t.snd.fst 2 fun (a : Addr) =>
                loadI IntKind.i64 (a.add 0) fun (x : Int) =>
                  indexW s t.snd.fst 2 fun (a : Addr) =>
                    loadI IntKind.i64 (a.add 1) fun (x_1 : Int) =>
                      withK (fun (t : PUnit) => k (add IntKind.i64 s 1)) fun (k : PUnit → HProp) =>
                        iteW (eqI t.snd.snd.fst 1)
                          (withK
                            (fun (t_1 : Bool) =>
                              iteW t_1
                                (indexW x t.fst 1 fun (a : Addr) =>
                                  loadI IntKind.u64 a fun (x : Int) =>
                                    indexW x_1 u 1 fun (a : Addr) =>
                                      storeW a (Value.int IntKind.u64 (add IntKind.u64 x 1)) (k ()))
                                (k ()))
                            fun (k : Bool → HProp) =>
                            indexW x t.fst 1 fun (a : Addr) =>
                              loadI IntKind.u64 a fun (x_2 : Int) =>
                                iteW (!eqI x_2 18446744073709551615)
                                  (indexW x t.fst 1 fun (a : Addr) =>
                                    loadI IntKind.u64 a fun (x : Int) =>
                                      indexW x_1 u 1 fun (a : Addr) =>
                                        loadI IntKind.u64 a fun (x_3 : Int) => k (ltI (add IntKind.u64 x 1) x_3))
                                  (k false))
                          (iteW (eqI t.snd.snd.fst 2)
                            (indexW x_1 v 1 fun (a : Addr) =>
                              loadI IntKind.u64 a fun (x_2 : Int) =>
                                indexW x t.fst 1 fun (a_1 : Addr) =>
                                  loadI IntKind.u64 a_1 fun (x_3 : Int) =>
                                    ref16_begins (t.snd.fst, x) fun (r : Int) =>
                                      keepsW a (Rec.mk 5 (Pl.heap a) [Value.int IntKind.u64 x_2]).vs
                                        (keepsW a_1 (Rec.mk 9 (Pl.heap a_1) [Value.int IntKind.u64 x_3]).vs
                                          (mustW ((r : Int) ≠ 0)
                                            (indexW x_1 v 1 fun (a : Addr) =>
                                              storeW a
                                                (Value.int IntKind.u64 (add IntKind.u64 x_2 (quo IntKind.u64 x_3 r)))
                                                (k ())))))
                            (iteW (eqI t.snd.snd.fst 3)
                              (indexW x u 1 fun (a : Addr) =>
                                loadI IntKind.u64 a fun (x_2 : Int) =>
                                  indexW x_1 t.fst 1 fun (a : Addr) =>
                                    loadI IntKind.u64 a fun (x_3 : Int) =>
                                      indexW x u 1 fun (a : Addr) =>
                                        storeW a (Value.int IntKind.u64 (minI x_2 x_3))
                                          (indexW x_1 u 1 fun (a : Addr) =>
                                            loadI IntKind.u64 a fun (x_4 : Int) =>
                                              indexW x t.fst 1 fun (a : Addr) =>
                                                loadI IntKind.u64 a fun (x : Int) =>
                                                  indexW x_1 u 1 fun (a : Addr) =>
                                                    storeW a (Value.int IntKind.u64 (minI x_4 x)) (k ())))
                              (iteW (eqI t.snd.snd.fst 4)
                                (indexW x v 1 fun (a : Addr) =>
                                  loadI IntKind.u64 a fun (x_2 : Int) =>
                                    indexW x_1 t.fst 1 fun (a : Addr) =>
                                      loadI IntKind.u64 a fun (x_3 : Int) =>
                                        indexW x v 1 fun (a : Addr) =>
                                          storeW a (Value.int IntKind.u64 (add IntKind.u64 x_2 x_3))
                                            (indexW x_1 v 1 fun (a : Addr) =>
                                              loadI IntKind.u64 a fun (x_4 : Int) =>
                                                indexW x t.fst 1 fun (a : Addr) =>
                                                  loadI IntKind.u64 a fun (x : Int) =>
                                                    indexW x_1 v 1 fun (a : Addr) =>
                                                      storeW a (Value.int IntKind.u64 (add IntKind.u64 x_4 x)) (k ())))
                                (k ())))))
              (loopW 0 fun (s : Int) (k : Int → HProp) =>
                iteW (ltI s ↑u.len)
                  (withK (fun (t : PUnit) => k (add IntKind.i64 s 1)) fun (k : PUnit → HProp) =>
                    withK
                      (fun (t_1 : PUnit) =>
                        withK
                          (fun (t : Bool) =>
                            iteW t (indexW s u 1 fun (a : Addr) => storeW a (Value.int IntKind.u64 0) (k ())) (k ()))
                          fun (k : Bool → HProp) =>
                          iteW (eqI t.snd.snd.fst 4)
                            (indexW s v 1 fun (a : Addr) =>
                              loadI IntKind.u64 a fun (x : Int) => k (ltI x (cnv IntKind.u64 t.snd.snd.snd.fst)))
                            (k false))
                      fun (k : PUnit → HProp) =>
                      iteW (eqI t.snd.snd.fst 2)
                        (indexW s v 1 fun (a : Addr) =>
                          loadI IntKind.u64 a fun (x : Int) =>
                            mustW ((1000 : Int) ≠ 0)
                              (indexW s u 1 fun (a : Addr) =>
                                storeW a
                                  (Value.int IntKind.u64
                                    (add IntKind.u64 644245094 (quo IntKind.u64 (mul IntKind.u64 x 850) 1000)))
                                  (k ())))
                        (k ()))
                  (Q u))
def ref16_Run : (Int × Sl × Int × Int × Int × Int) → ((Sl × Int × Int) → HProp) → HProp :=
fun (t : Int × Sl × Int × Int × Int × Int) (Q : Sl × Int × Int → HProp) =>
  ref16_Refuses (t.fst, t.snd.fst, t.snd.snd.fst, t.snd.snd.snd.fst, t.snd.snd.snd.snd.fst, t.snd.snd.snd.snd.snd)
    fun (r : Int) =>
    iteW (!eqI r 0) (Q (Sl.mk none 0 0, 0, r))
      (ref16_First (t.fst, t.snd.snd.fst, t.snd.snd.snd.fst, t.snd.snd.snd.snd.fst, t.snd.snd.snd.snd.snd)
        fun (r : Sl) =>
        loopW (r, 1) fun (s : Sl × Int) (k : Sl × Int → HProp) =>
          ref16_Next (s.fst, t.snd.fst, t.snd.snd.fst, t.snd.snd.snd.fst, t.snd.snd.snd.snd.fst, t.snd.snd.snd.snd.snd)
            fun (r : Sl) =>
            loopW (false, 0) fun (s_1 : Bool × Int) (k_1 : Bool × Int → HProp) =>
              iteW (ltI s_1.snd t.fst)
                (withK (fun (t : Bool) => k_1 (t, add IntKind.i64 s_1.snd 1))
                  fun (k : Bool → HProp) =>
                  iteW s_1.fst (k true)
                    (indexW s_1.snd r 1 fun (a : Addr) =>
                      loadI IntKind.u64 a fun (x : Int) =>
                        indexW s_1.snd s.fst 1 fun (a : Addr) => loadI IntKind.u64 a fun (x_1 : Int) => k !eqI x x_1))
                (withK (fun (t : Bool) => iteW t (Q (r, s.snd, 0)) (k (r, add IntKind.i64 s.snd 1)))
                  fun (k : Bool → HProp) =>
                  iteW (eqI t.snd.snd.fst 2)
                    (iteW (eqI s.snd t.snd.snd.snd.fst) (k true) (iteW (!eqI t.snd.snd.fst 2) (k !s_1.fst) (k false)))
                    (iteW (!eqI t.snd.snd.fst 2) (k !s_1.fst) (k false))))
def ref28_Table_Submit : ((Option Addr) × Int × Int × Int × Int) → ((Int × Int) → HProp) → HProp :=
fun (t : Option Addr × Int × Int × Int × Int) (Q : Int × Int → HProp) =>
  derefW t.fst fun (a : Addr) =>
    loadI IntKind.i64 (a.add 0) fun (x : Int) =>
      ref16_Check (t.snd.fst, t.snd.snd.fst, t.snd.snd.snd.fst, t.snd.snd.snd.snd, x) fun (r : Int) =>
        withK
          (fun (t_1 : Int) =>
            iteW (!eqI t_1 0) (Q (0, t_1))
              (derefW t.fst fun (a : Addr) =>
                loadI IntKind.i64 (a.add 0) fun (x : Int) =>
                  derefW t.fst fun (a : Addr) =>
                    loadL (a.add 3) fun (x_1 : Sl) =>
                      ref16_Run (x, x_1, t.snd.fst, t.snd.snd.fst, t.snd.snd.snd.fst, t.snd.snd.snd.snd)
                        fun (r : Sl × Int × Int) =>
                        iteW (!eqI r.snd.snd 0) (Q (0, r.snd.snd))
                          (derefW t.fst fun (a : Addr) =>
                            loadL (a.add 5) fun (x : Sl) =>
                              derefW t.fst fun (a_1 : Addr) =>
                                loadI IntKind.i64 (a_1.add 1) fun (x_2 : Int) =>
                                  keepsW (a.add 5) (Rec.mk 4 (Pl.heap (a.add 5)) [Value.slice x.a x.len x.cap]).vs
                                    (appendW x
                                      [Value.int IntKind.i64 0, Value.int IntKind.i64 0, Value.int IntKind.i64 0,
                                        Value.int IntKind.i64 0, Value.int IntKind.i64 0, Value.int IntKind.i64 0,
                                        Value.int IntKind.i64 0, Value.int IntKind.i64 0, Value.int IntKind.i64 0,
                                        Value.bool false, Value.slice (Sl.mk none 0 0).a 0 0]
                                      104 1
                                      [Value.int IntKind.i64 t.snd.fst, Value.int IntKind.i64 t.snd.snd.fst,
                                        Value.int IntKind.i64 t.snd.snd.snd.fst,
                                        Value.int IntKind.i64 t.snd.snd.snd.snd, Value.int IntKind.i64 1,
                                        Value.int IntKind.i64 0, Value.int IntKind.i64 0,
                                        Value.int IntKind.i64 (mul IntKind.i64 r.snd.fst x_2), Value.int IntKind.i64 0,
                                        Value.bool false, Value.slice r.fst.a r.fst.len r.fst.cap]
                                      fun (u : Sl) =>
                                      derefW t.fst fun (a : Addr) =>
                                        storeW (a.add 5) (Value.slice u.a u.len u.cap)
                                          (derefW t.fst fun (a : Addr) =>
                                            loadL (a.add 5) fun (x : Sl) => Q (↑x.len, 0))))))
          fun (k : Int → HProp) =>
          withK
            (fun (t_1 : Bool) =>
              iteW t_1 (k 2)
                (withK
                  (fun (t_2 : Bool) =>
                    iteW t_2 (k 3)
                      (withK (fun (t : Bool) => iteW t (k 230) (k r)) fun (k : Bool → HProp) =>
                        iteW (eqI r 0)
                          (ref28_Table_many (t.fst, 1) fun (r : Int) =>
                            iteW (leI 8 r) (k true)
                              (derefW t.fst fun (a : Addr) => loadL (a.add 5) fun (x : Sl) => k (leI 999999 ↑x.len)))
                          (k false)))
                  fun (k : Bool → HProp) =>
                  iteW (eqI r 0)
                    (derefW t.fst fun (a : Addr) =>
                      loadI IntKind.i64 (a.add 2) fun (x : Int) => k (ltI x t.snd.snd.snd.snd))
                    (k false)))
            fun (k : Bool → HProp) => iteW (eqI r 0) (k (ltI t.snd.snd.snd.snd 256)) (k false)
def ref28_Table_Cancel : ((Option Addr) × Int) → ((Int) → HProp) → HProp :=
fun (t : Option Addr × Int) (Q : Int → HProp) =>
  withK
    (fun (t_1 : Bool) =>
      iteW t_1 (Q 4)
        (derefW t.fst fun (a : Addr) =>
          loadL (a.add 5) fun (x : Sl) =>
            indexW (sub IntKind.i64 t.snd 1) x 11 fun (a : Addr) =>
              loadI IntKind.i64 (a.add 4) fun (x : Int) =>
                withK
                  (fun (t_2 : Bool) =>
                    iteW t_2 (Q 270)
                      (derefW t.fst fun (a : Addr) =>
                        loadL (a.add 5) fun (x : Sl) =>
                          indexW (sub IntKind.i64 t.snd 1) x 11 fun (a : Addr) =>
                            storeW (a.add 4) (Value.int IntKind.i64 4) (Q 0)))
                  fun (k : Bool → HProp) => iteW (!eqI x 1) (k !eqI x 2) (k false)))
    fun (k : Bool → HProp) =>
    iteW (ltI t.snd 1) (k true) (derefW t.fst fun (a : Addr) => loadL (a.add 5) fun (x : Sl) => k (ltI (↑x.len) t.snd))
def ref28_Table_Poll : ((Option Addr) × Int) → ((Int × Int × Int × Int) → HProp) → HProp :=
fun (t : Option Addr × Int) (Q : Int × Int × Int × Int → HProp) =>
  withK
    (fun (t_1 : Bool) =>
      iteW t_1 (Q (0, 0, 0, 4))
        (derefW t.fst fun (a : Addr) =>
          loadL (a.add 5) fun (x : Sl) =>
            indexW (sub IntKind.i64 t.snd 1) x 11 fun (a : Addr) =>
              loadI IntKind.i64 (a.add 0) fun (x : Int) =>
                loadI IntKind.i64 (a.add 1) fun (x : Int) =>
                  loadI IntKind.i64 (a.add 2) fun (x : Int) =>
                    loadI IntKind.i64 (a.add 3) fun (x : Int) =>
                      loadI IntKind.i64 (a.add 4) fun (x : Int) =>
                        loadI IntKind.i64 (a.add 5) fun (x_1 : Int) =>
                          loadI IntKind.i64 (a.add 6) fun (x_2 : Int) =>
                            loadI IntKind.i64 (a.add 7) fun (x_3 : Int) =>
                              loadI IntKind.i64 (a.add 8) fun (x_4 : Int) =>
                                loadB (a.add 9) fun (x_5 : Bool) =>
                                  loadL (a.add 10) fun (x_6 : Sl) =>
                                    derefW t.fst fun (a : Addr) =>
                                      loadI IntKind.i64 (a.add 1) fun (x_7 : Int) =>
                                        mustW ((x_7 : Int) ≠ 0)
                                          (withK (fun (t : Int) => Q (x, t, x_1, 0))
                                            fun (k : Int → HProp) =>
                                            iteW (eqI x 3) (k (sub IntKind.i64 (quo IntKind.i64 x_2 x_7) 1))
                                              (k (quo IntKind.i64 x_2 x_7)))))
    fun (k : Bool → HProp) =>
    iteW (ltI t.snd 1) (k true) (derefW t.fst fun (a : Addr) => loadL (a.add 5) fun (x : Sl) => k (ltI (↑x.len) t.snd))
def table_Table_Result : ((Option Addr) × Int) → ((Sl × Int) → HProp) → HProp :=
fun (t : Option Addr × Int) (Q : Sl × Int → HProp) =>
  table_Table_find (t.fst, t.snd) fun (r : Option Addr × Int) =>
    iteW (!eqI r.snd 0) (Q (Sl.mk none 0 0, r.snd))
      (derefW r.fst fun (a : Addr) =>
        loadI IntKind.i64 (a.add 4) fun (x : Int) =>
          iteW (eqI x 3)
            (derefW t.fst fun (a : Addr) =>
              loadI IntKind.i64 (a.add 0) fun (x : Int) =>
                derefW t.fst fun (a : Addr) =>
                  loadL (a.add 3) fun (x_1 : Sl) =>
                    derefW r.fst fun (a : Addr) =>
                      loadI IntKind.i64 ((a.add 0).add 0) fun (x_2 : Int) =>
                        loadI IntKind.i64 ((a.add 0).add 1) fun (x_3 : Int) =>
                          loadI IntKind.i64 ((a.add 0).add 2) fun (x_4 : Int) =>
                            loadI IntKind.i64 ((a.add 0).add 3) fun (x_5 : Int) =>
                              truth_Of (x, x_1, x_2, x_3, x_4, x_5) fun (r : Sl × Int) => Q (r.fst, r.snd))
            (withK (fun (t : Bool) => iteW t (Q (Sl.mk none 0 0, 271)) (Q (Sl.mk none 0 0, 272)))
              fun (k : Bool → HProp) => iteW (eqI x 1) (k (eqI x 1)) (k (eqI x 2))))
def ref28_Table_Told : ((Option Addr) × Int) → ((Sl × Int) → HProp) → HProp :=
fun (t : Option Addr × Int) (Q : Sl × Int → HProp) =>
  withK
    (fun (t_1 : Bool) =>
      iteW t_1 (Q (Sl.mk none 0 0, 4))
        (derefW t.fst fun (a : Addr) =>
          loadL (a.add 5) fun (x : Sl) =>
            indexW (sub IntKind.i64 t.snd 1) x 11 fun (a : Addr) =>
              loadI IntKind.i64 (a.add 4) fun (x : Int) =>
                iteW (eqI x 3)
                  (newW [] fun (b : Nat) =>
                    derefW t.fst fun (a : Addr) =>
                      loadL (a.add 5) fun (x : Sl) =>
                        indexW (sub IntKind.i64 t.snd 1) x 11 fun (a : Addr) =>
                          loadL (a.add 10) fun (x : Sl) =>
                            rowW x 1 fun (l : List Value) =>
                              appendW (Sl.mk (some (Addr.mk b 0 none)) 0 0) [Value.int IntKind.u64 0] 8 x.len l
                                fun (u : Sl) => Q (u, 0))
                  (withK (fun (t : Bool) => iteW t (Q (Sl.mk none 0 0, 271)) (Q (Sl.mk none 0 0, 272)))
                    fun (k : Bool → HProp) => iteW (eqI x 1) (k (eqI x 1)) (k (eqI x 2)))))
    fun (k : Bool → HProp) =>
    iteW (ltI t.snd 1) (k true) (derefW t.fst fun (a : Addr) => loadL (a.add 5) fun (x : Sl) => k (ltI (↑x.len) t.snd))
def law16_Numbers : (Sl × Sl) → ((Bool) → HProp) → HProp :=
fun (t : Sl × Sl) (Q : Bool → HProp) =>
  iteW (!eqI ↑t.fst.len ↑t.snd.len) (Q false)
    (loopW 0 fun (s : Int) (k : Int → HProp) =>
      iteW (ltI s ↑t.fst.len)
        (indexW s t.fst 1 fun (a : Addr) =>
          loadI IntKind.u64 a fun (x : Int) =>
            indexW s t.snd 1 fun (a : Addr) =>
              loadI IntKind.u64 a fun (x_1 : Int) => iteW (!eqI x x_1) (Q false) (k (add IntKind.i64 s 1)))
        (Q true))
def law28_fault : (Int) → ((Int) → HProp) → HProp :=
fun (t : Int) (Q : Int → HProp) => iteW (eqI t 3) (Q 60) (iteW (eqI t 4) (Q 50) (Q 0))
def ref28_Table_Waiting : ((Option Addr)) → ((Sl) → HProp) → HProp :=
fun (t : Option Addr) (Q : Sl → HProp) =>
  loopW (Sl.mk none 0 0, 0) fun (s : Sl × Int) (k : Sl × Int → HProp) =>
    derefW t fun (a : Addr) =>
      loadL (a.add 5) fun (x : Sl) =>
        iteW (ltI s.snd ↑x.len)
          (withK (fun (t : Sl) => k (t, add IntKind.i64 s.snd 1)) fun (k : Sl → HProp) =>
            withK
              (fun (t : Bool) =>
                iteW t (appendW s.fst [Value.int IntKind.i64 0] 8 1 [Value.int IntKind.i64 (add IntKind.i64 s.snd 1)] k)
                  (k s.fst))
              fun (k : Bool → HProp) =>
              derefW t fun (a : Addr) =>
                loadL (a.add 5) fun (x : Sl) =>
                  indexW s.snd x 11 fun (a : Addr) =>
                    loadI IntKind.i64 (a.add 4) fun (x : Int) =>
                      iteW (eqI x 2)
                        (derefW t fun (a : Addr) =>
                          loadL (a.add 5) fun (x : Sl) => indexW s.snd x 11 fun (a : Addr) => loadB (a.add 9) k)
                        (k false))
          (Q s.fst)
def ref28_Table_Used : ((Option Addr)) → ((Int) → HProp) → HProp :=
fun (t : Option Addr) (Q : Int → HProp) =>
  loopW (0, 0) fun (s : Int × Int) (k : Int × Int → HProp) =>
    derefW t fun (a : Addr) =>
      loadL (a.add 5) fun (x : Sl) =>
        iteW (ltI s.snd ↑x.len)
          (withK (fun (t : Int) => k (t, add IntKind.i64 s.snd 1)) fun (k : Int → HProp) =>
            derefW t fun (a : Addr) =>
              loadL (a.add 5) fun (x : Sl) =>
                indexW s.snd x 11 fun (a : Addr) =>
                  loadI IntKind.i64 (a.add 4) fun (x : Int) =>
                    iteW (eqI x 2)
                      (derefW t fun (a : Addr) =>
                        loadL (a.add 5) fun (x : Sl) =>
                          indexW s.snd x 11 fun (a : Addr) =>
                            loadI IntKind.i64 ((a.add 0).add 3) fun (x : Int) => k (add IntKind.i64 s.fst x))
                      (k s.fst))
          (Q s.fst)
def ref28_Table_fails : ((Option Addr) × Int × Int) → ((Unit) → HProp) → HProp :=
fun (t : Option Addr × Int × Int) (Q : Unit → HProp) =>
  derefW t.fst fun (a : Addr) =>
    loadL (a.add 5) fun (x : Sl) =>
      derefW t.fst fun (a : Addr) =>
        loadL (a.add 5) fun (x_1 : Sl) =>
          indexW t.snd.fst x 11 fun (a : Addr) =>
            storeW (a.add 4) (Value.int IntKind.i64 5)
              (indexW t.snd.fst x_1 11 fun (a : Addr) => storeW (a.add 5) (Value.int IntKind.i64 t.snd.snd) (Q ()))
def ref28_Table_turn : ((Option Addr)) → ((Int) → HProp) → HProp :=
fun (t : Option Addr) (Q : Int → HProp) =>
  loopW (-1, -1, 0) fun (s : Int × Int × Int) (k : Int × Int × Int → HProp) =>
    derefW t fun (a : Addr) =>
      loadL (a.add 5) fun (x : Sl) =>
        iteW (ltI s.snd.snd ↑x.len)
          (withK (fun (t : Int × Int) => k (t.fst, t.snd, add IntKind.i64 s.snd.snd 1))
            fun (k : Int × Int → HProp) =>
            derefW t fun (a : Addr) =>
              loadL (a.add 5) fun (x : Sl) =>
                indexW s.snd.snd x 11 fun (a : Addr) =>
                  loadI IntKind.i64 ((a.add 0).add 2) fun (x : Int) =>
                    derefW t fun (a : Addr) =>
                      loadL (a.add 5) fun (x_1 : Sl) =>
                        indexW s.snd.snd x_1 11 fun (a : Addr) =>
                          loadI IntKind.i64 (a.add 8) fun (x_2 : Int) =>
                            mustW ((4 : Int) ≠ 0)
                              (withK
                                (fun (t : Bool) =>
                                  iteW t (k (s.snd.snd, add IntKind.i64 x (quo IntKind.i64 x_2 4)))
                                    (k (s.fst, s.snd.fst)))
                                fun (k : Bool → HProp) =>
                                derefW t fun (a : Addr) =>
                                  loadL (a.add 5) fun (x_3 : Sl) =>
                                    indexW s.snd.snd x_3 11 fun (a : Addr) =>
                                      loadI IntKind.i64 (a.add 4) fun (x_4 : Int) =>
                                        iteW (eqI x_4 1) (k (ltI s.snd.fst (add IntKind.i64 x (quo IntKind.i64 x_2 4))))
                                          (k false)))
          (Q s.fst)
def ref28_Table_tick : ((Option Addr) × Int) → ((Int × Int × Int × Int) → HProp) → HProp :=
fun (t : Option Addr × Int) (Q : Int × Int × Int × Int → HProp) =>
  loopW 0 fun (s : Int) (k : Int → HProp) =>
    derefW t.fst fun (a : Addr) =>
      loadL (a.add 5) fun (x : Sl) =>
        iteW (ltI s ↑x.len)
          (withK (fun (t : PUnit) => k (add IntKind.i64 s 1)) fun (k : PUnit → HProp) =>
            derefW t.fst fun (a : Addr) =>
              loadL (a.add 5) fun (x : Sl) =>
                indexW s x 11 fun (a : Addr) =>
                  loadI IntKind.i64 (a.add 4) fun (x : Int) =>
                    iteW (eqI x 1)
                      (derefW t.fst fun (a : Addr) =>
                        loadL (a.add 5) fun (x : Sl) =>
                          indexW s x 11 fun (a : Addr) =>
                            loadI IntKind.i64 (a.add 8) fun (x_1 : Int) =>
                              indexW s x 11 fun (a : Addr) =>
                                storeW (a.add 8) (Value.int IntKind.i64 (add IntKind.i64 x_1 1)) (k ()))
                      (k ()))
          (withK
            (fun (t_1 : PUnit) =>
              ref28_Table_many (t.fst, 2) fun (r : Int) =>
                iteW (eqI r 0) (Q (1, 0, 0, 0))
                  (derefW t.fst fun (a : Addr) =>
                    loadI IntKind.i64 (a.add 4) fun (x : Int) =>
                      derefW t.fst fun (a : Addr) =>
                        loadI IntKind.i64 (a.add 1) fun (x_1 : Int) =>
                          mustW ((x_1 : Int) ≠ 0)
                            (derefW t.fst fun (a : Addr) =>
                              storeW (a.add 4) (Value.int IntKind.i64 (rem (add IntKind.i64 x 1) x_1))
                                (loopW 0 fun (s : Int) (k : Int → HProp) =>
                                  derefW t.fst fun (a : Addr) =>
                                    loadL (a.add 5) fun (x : Sl) =>
                                      iteW (ltI s ↑x.len)
                                        (withK (fun (t : PUnit) => k (add IntKind.i64 s 1))
                                          fun (k : PUnit → HProp) =>
                                          derefW t.fst fun (a : Addr) =>
                                            loadL (a.add 5) fun (x : Sl) =>
                                              indexW s x 11 fun (a : Addr) =>
                                                loadI IntKind.i64 (a.add 4) fun (x : Int) =>
                                                  iteW (!eqI x 2) (k ())
                                                    (derefW t.fst fun (a : Addr) =>
                                                      loadL (a.add 5) fun (x : Sl) =>
                                                        indexW s x 11 fun (a : Addr) =>
                                                          storeW (a.add 9) (Value.bool true)
                                                            (iteW (!eqI t.snd 0)
                                                              (ref28_Table_fails (t.fst, s, t.snd) fun (r : PUnit) =>
                                                                k ())
                                                              (k ()))))
                                        (iteW (!eqI t.snd 0)
                                          (derefW t.fst fun (a : Addr) =>
                                            loadI IntKind.i64 (a.add 4) fun (x : Int) => Q (4, x, 0, t.snd))
                                          (derefW t.fst fun (a : Addr) =>
                                            loadI IntKind.i64 (a.add 4) fun (x : Int) => Q (2, x, 0, 0)))))))
            fun (k : PUnit → HProp) =>
            loopW () fun (s : PUnit) (k_1 : PUnit → HProp) =>
              ref28_Table_many (t.fst, 2) fun (r : Int) =>
                iteW (ltI r 4)
                  (ref28_Table_turn t.fst fun (r : Int) =>
                    withK
                      (fun (t_1 : Bool) =>
                        iteW t_1 (k ())
                          (derefW t.fst fun (a : Addr) =>
                            loadL (a.add 5) fun (x : Sl) =>
                              indexW r x 11 fun (a : Addr) => storeW (a.add 4) (Value.int IntKind.i64 2) (k_1 ())))
                      fun (k : Bool → HProp) =>
                      iteW (ltI r 0) (k true)
                        (derefW t.fst fun (a : Addr) =>
                          loadL (a.add 5) fun (x : Sl) =>
                            indexW r x 11 fun (a_1 : Addr) =>
                              loadI IntKind.i64 ((a_1.add 0).add 3) fun (x_1 : Int) =>
                                derefW t.fst fun (a_2 : Addr) =>
                                  loadI IntKind.i64 (a_2.add 2) fun (x_2 : Int) =>
                                    ref28_Table_Used t.fst fun (r : Int) =>
                                      keepsW (a.add 5) (Rec.mk 6 (Pl.heap (a.add 5)) [Value.slice x.a x.len x.cap]).vs
                                        (keepsW ((a_1.add 0).add 3)
                                          (Rec.mk 11 (Pl.heap ((a_1.add 0).add 3)) [Value.int IntKind.i64 x_1]).vs
                                          (keepsW (a_2.add 2)
                                            (Rec.mk 15 (Pl.heap (a_2.add 2)) [Value.int IntKind.i64 x_2]).vs
                                            (k (ltI (sub IntKind.i64 x_2 r) x_1))))))
                  (k ()))
def ref28_Table_Step : ((Option Addr) × Int × Int) → ((Int × Int × Int × Int × Int) → HProp) → HProp :=
fun (t : Option Addr × Int × Int) (Q : Int × Int × Int × Int × Int → HProp) =>
  ref28_Table_Waiting t.fst fun (r : Sl) =>
    iteW (eqI (↑r.len) 0)
      (ref28_Table_tick (t.fst, t.snd.snd) fun (r : Int × Int × Int × Int) =>
        Q (r.fst, r.snd.fst, r.snd.snd.fst, r.snd.snd.snd, 0))
      (withK
        (fun (t_1 : Bool) =>
          iteW t_1 (Q (0, 0, 0, 0, 2))
            (indexW t.snd.fst r 1 fun (a : Addr) =>
              loadI IntKind.i64 a fun (x : Int) =>
                derefW t.fst fun (a : Addr) =>
                  loadL (a.add 5) fun (x_1 : Sl) =>
                    indexW (sub IntKind.i64 x 1) x_1 11 fun (a : Addr) =>
                      storeW (a.add 9) (Value.bool false)
                        (withK
                          (fun (t_2 : PUnit) =>
                            derefW t.fst fun (a : Addr) =>
                              loadI IntKind.i64 (a.add 4) fun (x_2 : Int) =>
                                Q (3, x_2, add IntKind.i64 (sub IntKind.i64 x 1) 1, t.snd.snd, 0))
                          fun (k : PUnit → HProp) =>
                          iteW (!eqI t.snd.snd 0)
                            (ref28_Table_fails (t.fst, sub IntKind.i64 x 1, t.snd.snd) fun (r : PUnit) => k ())
                            (derefW t.fst fun (a : Addr) =>
                              loadL (a.add 5) fun (x_2 : Sl) =>
                                indexW (sub IntKind.i64 x 1) x_2 11 fun (a : Addr) =>
                                  loadI IntKind.i64 (a.add 6) fun (x_3 : Int) =>
                                    indexW (sub IntKind.i64 x 1) x_2 11 fun (a : Addr) =>
                                      storeW (a.add 6) (Value.int IntKind.i64 (add IntKind.i64 x_3 1))
                                        (derefW t.fst fun (a : Addr) =>
                                          loadL (a.add 5) fun (x_4 : Sl) =>
                                            indexW (sub IntKind.i64 x 1) x_4 11 fun (a : Addr) =>
                                              loadI IntKind.i64 (a.add 6) fun (x_5 : Int) =>
                                                derefW t.fst fun (a : Addr) =>
                                                  loadL (a.add 5) fun (x_6 : Sl) =>
                                                    indexW (sub IntKind.i64 x 1) x_6 11 fun (a : Addr) =>
                                                      loadI IntKind.i64 (a.add 7) fun (x_7 : Int) =>
                                                        iteW (eqI x_5 x_7)
                                                          (derefW t.fst fun (a : Addr) =>
                                                            loadL (a.add 5) fun (x_8 : Sl) =>
                                                              indexW (sub IntKind.i64 x 1) x_8 11 fun (a : Addr) =>
                                                                storeW (a.add 4) (Value.int IntKind.i64 3) (k ()))
                                                          (k ()))))))
        fun (k : Bool → HProp) => iteW (ltI t.snd.fst 0) (k true) (k (leI (↑r.len) t.snd.fst)))
def law28_TablePlay : (Int × Sl × Int × Int × Int × Sl) → ((Bool) → HProp) → HProp :=
fun (t : Int × Sl × Int × Int × Int × Sl) (Q : Bool → HProp) =>
  withK
    (fun (t_1 : Bool) =>
      iteW t_1 (law28_keeps () Q)
        (law16_Graph_Made (t.fst, t.snd.fst) fun (r : Int × Sl) =>
          mustW ((minI r.fst 16 : Int) ≠ 0)
            (law27_Total t.snd.snd.snd.snd.fst fun (r_1 : Int) =>
              table_New (r.fst, r.snd, add IntKind.i64 1 (rem (cnv IntKind.i64 t.snd.snd.fst) (minI r.fst 16)), r_1)
                fun (r_2 : Option Addr × Int) =>
                law27_Total t.snd.snd.snd.snd.fst fun (r_3 : Int) =>
                  ref28_New (r.fst, r.snd, add IntKind.i64 1 (rem (cnv IntKind.i64 t.snd.snd.fst) (minI r.fst 16)), r_3)
                    fun (r_4 : Option Addr × Int) =>
                    withK
                      (fun (t_2 : Bool) =>
                        iteW t_2 (Q false)
                          (loopW 0 fun (s : Int) (k : Int → HProp) =>
                            iteW (ltI s ↑t.snd.snd.snd.snd.snd.len)
                              (indexW s t.snd.snd.snd.snd.snd 11 fun (a : Addr) =>
                                loadI IntKind.u8 (a.add 0) fun (x : Int) =>
                                  loadI IntKind.i64 (a.add 1) fun (x_1 : Int) =>
                                    loadI IntKind.u8 (a.add 2) fun (x_2 : Int) =>
                                      loadI IntKind.u8 (a.add 3) fun (x_3 : Int) =>
                                        loadI IntKind.u8 (a.add 4) fun (x_4 : Int) =>
                                          loadI IntKind.u16 (a.add 5) fun (x_5 : Int) =>
                                            loadI IntKind.i64 (a.add 6) fun (x_6 : Int) =>
                                              loadI IntKind.i64 (a.add 7) fun (x_7 : Int) =>
                                                loadI IntKind.i64 (a.add 8) fun (x_8 : Int) =>
                                                  loadI IntKind.i64 (a.add 9) fun (x_9 : Int) =>
                                                    loadB (a.add 10) fun (x_10 : Bool) =>
                                                      law16_Ask_Made (x_2, x_3, x_4, x_5, r.fst)
                                                        fun (r : Int × Int × Int × Int) =>
                                                        withK
                                                          (fun (t : Int × Int × Int × Int) =>
                                                            mustW ((9 : Int) ≠ 0)
                                                              (withK
                                                                (fun (t : Int × Int × Bool) =>
                                                                  withK
                                                                    (fun (t : Bool) =>
                                                                      iteW t (Q false) (k (add IntKind.i64 s 1)))
                                                                    fun (k : Bool → HProp) =>
                                                                    iteW (!eqI t.fst t.snd.fst) (k true)
                                                                      (iteW (!t.snd.snd) (k true)
                                                                        (table_Table_Waiting r_2.fst fun (r : Sl) =>
                                                                          ref28_Table_Waiting r_4.fst fun (r_5 : Sl) =>
                                                                            law26_Ints (r, r_5) fun (r : Bool) =>
                                                                              iteW (!r) (k true)
                                                                                (table_Table_Used r_2.fst
                                                                                  fun (r : Int) =>
                                                                                  ref28_Table_Used r_4.fst
                                                                                    fun (r_6 : Int) => k !eqI r r_6))))
                                                                fun
                                                                  (k : Int × Int × Bool → HProp) =>
                                                                withK
                                                                  (fun (t_3 : Bool) =>
                                                                    iteW t_3
                                                                      (table_Table_Submit
                                                                        (r_2.fst, t.fst, t.snd.fst, t.snd.snd.fst,
                                                                          t.snd.snd.snd)
                                                                        fun (r : Int × Int) =>
                                                                        ref28_Table_Submit
                                                                          (r_4.fst, t.fst, t.snd.fst, t.snd.snd.fst,
                                                                            t.snd.snd.snd)
                                                                          fun (r_5 : Int × Int) =>
                                                                          k (r.snd, r_5.snd, eqI r.fst r_5.fst))
                                                                      (iteW (eqI (rem x 9) 2)
                                                                        (table_Table_Cancel (r_2.fst, x_1)
                                                                          fun (r : Int) =>
                                                                          ref28_Table_Cancel (r_4.fst, x_1)
                                                                            fun (r_5 : Int) => k (r, r_5, true))
                                                                        (iteW (eqI (rem x 9) 3)
                                                                          (table_Table_Poll (r_2.fst, x_1)
                                                                            fun (r : Int × Int × Int × Int) =>
                                                                            ref28_Table_Poll (r_4.fst, x_1)
                                                                              fun (r_5 : Int × Int × Int × Int) =>
                                                                              k
                                                                                (r.snd.snd.snd, r_5.snd.snd.snd,
                                                                                  eqPairs
                                                                                    [(r.fst, r_5.fst),
                                                                                      (r.snd.fst, r_5.snd.fst),
                                                                                      (r.snd.snd.fst,
                                                                                        r_5.snd.snd.fst)]))
                                                                          (iteW (eqI (rem x 9) 4)
                                                                            (table_Table_Result (r_2.fst, x_1)
                                                                              fun (r : Sl × Int) =>
                                                                              ref28_Table_Told (r_4.fst, x_1)
                                                                                fun (r_5 : Sl × Int) =>
                                                                                law16_Numbers (r.fst, r_5.fst)
                                                                                  fun (r_6 : Bool) =>
                                                                                  k (r.snd, r_5.snd, r_6))
                                                                            (withK
                                                                              (fun (t : Option Addr × Int) =>
                                                                                withK
                                                                                  (fun (t_4 : Option Addr × Int) =>
                                                                                    derefW t.fst fun (a : Addr) =>
                                                                                      loadI IntKind.i64 (a.add 0)
                                                                                        fun (x : Int) =>
                                                                                        loadI IntKind.i64 (a.add 1)
                                                                                          fun (x_11 : Int) =>
                                                                                          loadI IntKind.i64 (a.add 2)
                                                                                            fun (x_12 : Int) =>
                                                                                            loadI IntKind.i64 (a.add 3)
                                                                                              fun (x_13 : Int) =>
                                                                                              derefW t_4.fst
                                                                                                fun (a : Addr) =>
                                                                                                loadI IntKind.i64
                                                                                                  (a.add 0)
                                                                                                  fun (x_14 : Int) =>
                                                                                                  loadI IntKind.i64
                                                                                                    (a.add 1)
                                                                                                    fun (x_15 : Int) =>
                                                                                                    loadI IntKind.i64
                                                                                                      (a.add 2)
                                                                                                      fun
                                                                                                        (x_16 : Int) =>
                                                                                                      loadI IntKind.i64
                                                                                                        (a.add 3)
                                                                                                        fun
                                                                                                          (x_17 :
                                                                                                            Int) =>
                                                                                                        k
                                                                                                          (t.snd,
                                                                                                            t_4.snd,
                                                                                                            eqPairs
                                                                                                              [(x,
                                                                                                                  x_14),
                                                                                                                (x_11,
                                                                                                                  x_15),
                                                                                                                (x_12,
                                                                                                                  x_16),
                                                                                                                (x_13,
                                                                                                                  x_17)]))
                                                                                  fun
                                                                                    (k :
                                                                                      Option Addr × Int →
                                                                                        HProp) =>
                                                                                  bothW
                                                                                    (law28_fault x_1 fun (r : Int) =>
                                                                                      bothW
                                                                                        (ref28_Table_Step
                                                                                          (r_4.fst, x_1, r)
                                                                                          fun
                                                                                            (r :
                                                                                              Int ×
                                                                                                Int ×
                                                                                                  Int × Int × Int) =>
                                                                                          newW
                                                                                            [Value.int IntKind.i64 0,
                                                                                              Value.int IntKind.i64 0,
                                                                                              Value.int IntKind.i64 0,
                                                                                              Value.int IntKind.i64 0]
                                                                                            fun (b : Nat) =>
                                                                                            storesW (Addr.mk b 0 none)
                                                                                              [Value.int IntKind.i64
                                                                                                  r.fst,
                                                                                                Value.int IntKind.i64
                                                                                                  r.snd.fst,
                                                                                                Value.int IntKind.i64
                                                                                                  r.snd.snd.fst,
                                                                                                Value.int IntKind.i64
                                                                                                  r.snd.snd.snd.fst]
                                                                                              (k
                                                                                                (some
                                                                                                    (Addr.mk b 0 none),
                                                                                                  r.snd.snd.snd.snd)))
                                                                                        (newW
                                                                                          [Value.int IntKind.i64 0,
                                                                                            Value.int IntKind.i64 0,
                                                                                            Value.int IntKind.i64 0,
                                                                                            Value.int IntKind.i64 0]
                                                                                          fun (b : Nat) =>
                                                                                          ref28_Table_Step
                                                                                            (r_4.fst, x_1, r)
                                                                                            fun
                                                                                              (r :
                                                                                                Int ×
                                                                                                  Int ×
                                                                                                    Int × Int × Int) =>
                                                                                            storesW (Addr.mk b 0 none)
                                                                                              [Value.int IntKind.i64
                                                                                                  r.fst,
                                                                                                Value.int IntKind.i64
                                                                                                  r.snd.fst,
                                                                                                Value.int IntKind.i64
                                                                                                  r.snd.snd.fst,
                                                                                                Value.int IntKind.i64
                                                                                                  r.snd.snd.snd.fst]
                                                                                              (k
                                                                                                (some
                                                                                                    (Addr.mk b 0 none),
                                                                                                  r.snd.snd.snd.snd))))
                                                                                    (newW
                                                                                      [Value.int IntKind.i64 0,
                                                                                        Value.int IntKind.i64 0,
                                                                                        Value.int IntKind.i64 0,
                                                                                        Value.int IntKind.i64 0]
                                                                                      fun (b : Nat) =>
                                                                                      law28_fault x_1 fun (r : Int) =>
                                                                                        ref28_Table_Step
                                                                                          (r_4.fst, x_1, r)
                                                                                          fun
                                                                                            (r :
                                                                                              Int ×
                                                                                                Int ×
                                                                                                  Int × Int × Int) =>
                                                                                          storesW (Addr.mk b 0 none)
                                                                                            [Value.int IntKind.i64
                                                                                                r.fst,
                                                                                              Value.int IntKind.i64
                                                                                                r.snd.fst,
                                                                                              Value.int IntKind.i64
                                                                                                r.snd.snd.fst,
                                                                                              Value.int IntKind.i64
                                                                                                r.snd.snd.snd.fst]
                                                                                            (k
                                                                                              (some (Addr.mk b 0 none),
                                                                                                r.snd.snd.snd.snd))))
                                                                              fun
                                                                                (k :
                                                                                  Option Addr × Int →
                                                                                    HProp) =>
                                                                              bothW
                                                                                (law28_fault x_1 fun (r : Int) =>
                                                                                  bothW
                                                                                    (table_Table_Step (r_2.fst, x_1, r)
                                                                                      fun
                                                                                        (r :
                                                                                          Int ×
                                                                                            Int × Int × Int × Int) =>
                                                                                      newW
                                                                                        [Value.int IntKind.i64 0,
                                                                                          Value.int IntKind.i64 0,
                                                                                          Value.int IntKind.i64 0,
                                                                                          Value.int IntKind.i64 0]
                                                                                        fun (b : Nat) =>
                                                                                        storesW (Addr.mk b 0 none)
                                                                                          [Value.int IntKind.i64 r.fst,
                                                                                            Value.int IntKind.i64
                                                                                              r.snd.fst,
                                                                                            Value.int IntKind.i64
                                                                                              r.snd.snd.fst,
                                                                                            Value.int IntKind.i64
                                                                                              r.snd.snd.snd.fst]
                                                                                          (k
                                                                                            (some (Addr.mk b 0 none),
                                                                                              r.snd.snd.snd.snd)))
                                                                                    (newW
                                                                                      [Value.int IntKind.i64 0,
                                                                                        Value.int IntKind.i64 0,
                                                                                        Value.int IntKind.i64 0,
                                                                                        Value.int IntKind.i64 0]
                                                                                      fun (b : Nat) =>
                                                                                      table_Table_Step (r_2.fst, x_1, r)
                                                                                        fun
                                                                                          (r :
                                                                                            Int ×
                                                                                              Int × Int × Int × Int) =>
                                                                                        storesW (Addr.mk b 0 none)
                                                                                          [Value.int IntKind.i64 r.fst,
                                                                                            Value.int IntKind.i64
                                                                                              r.snd.fst,
                                                                                            Value.int IntKind.i64
                                                                                              r.snd.snd.fst,
                                                                                            Value.int IntKind.i64
                                                                                              r.snd.snd.snd.fst]
                                                                                          (k
                                                                                            (some (Addr.mk b 0 none),
                                                                                              r.snd.snd.snd.snd))))
                                                                                (newW
                                                                                  [Value.int IntKind.i64 0,
                                                                                    Value.int IntKind.i64 0,
                                                                                    Value.int IntKind.i64 0,
                                                                                    Value.int IntKind.i64 0]
                                                                                  fun (b : Nat) =>
                                                                                  law28_fault x_1 fun (r : Int) =>
                                                                                    table_Table_Step (r_2.fst, x_1, r)
                                                                                      fun
                                                                                        (r :
                                                                                          Int ×
                                                                                            Int × Int × Int × Int) =>
                                                                                      storesW (Addr.mk b 0 none)
                                                                                        [Value.int IntKind.i64 r.fst,
                                                                                          Value.int IntKind.i64
                                                                                            r.snd.fst,
                                                                                          Value.int IntKind.i64
                                                                                            r.snd.snd.fst,
                                                                                          Value.int IntKind.i64
                                                                                            r.snd.snd.snd.fst]
                                                                                        (k
                                                                                          (some (Addr.mk b 0 none),
                                                                                            r.snd.snd.snd.snd))))))))
                                                                  fun (k : Bool → HProp) =>
                                                                  iteW (eqI (rem x 9) 0) (k (eqI (rem x 9) 0))
                                                                    (k (eqI (rem x 9) 1))))
                                                          fun (k : Int × Int × Int × Int → HProp) =>
                                                          iteW x_10 (k (x_6, x_7, x_8, x_9))
                                                            (k (r.fst, r.snd.fst, r.snd.snd.fst, r.snd.snd.snd)))
                              (law28_keeps () Q)))
                      fun (k : Bool → HProp) => iteW (!eqI r_2.snd 0) (k true) (k !eqI r_4.snd 0))))
    fun (k : Bool → HProp) =>
    law25_Place_Great (t.fst, t.snd.fst, t.snd.snd.fst, t.snd.snd.snd.fst, 200) fun (r : Bool) =>
      iteW r (k true) (k (ltI 250 ↑t.snd.snd.snd.snd.snd.len))
end Go.Cz.S

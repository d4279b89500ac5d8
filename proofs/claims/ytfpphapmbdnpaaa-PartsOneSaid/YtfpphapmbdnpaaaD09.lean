/- Part of the proof of a law of 09: an engine that runs a function over an abstract heap, and what the functions compute; own work. -/
import Derived.Test.YtfpphapmbdnpaaaEng1
set_option linter.unusedVariables false
set_option linter.unusedSimpArgs false
set_option linter.unusedSectionVars false
namespace Go.Cz.S
set_option maxRecDepth 100000
set_option linter.unusedVariables false
def parts_Cut : (Int × Int) → ((Sl × Int) → HProp) → HProp :=
fun (t : Int × Int) (Q : Sl × Int → HProp) =>
  withK
    (fun (t_1 : Bool) =>
      iteW t_1 (Q (Sl.mk none 0 0, 2))
        (makeW t.snd t.snd [Value.int IntKind.i64 0, Value.int IntKind.i64 0] 16 fun (v : Sl) =>
          loopW 0 fun (s : Int) (k : Int → HProp) =>
            iteW (ltI s ↑v.len)
              (mustW ((t.snd : Int) ≠ 0)
                (mustW ((t.snd : Int) ≠ 0)
                  (indexW s v 2 fun (a : Addr) =>
                    storesW a
                      [Value.int IntKind.i64 (quo IntKind.i64 (mul IntKind.i64 s t.fst) t.snd),
                        Value.int IntKind.i64 (quo IntKind.i64 (mul IntKind.i64 (add IntKind.i64 s 1) t.fst) t.snd)]
                      (k (add IntKind.i64 s 1)))))
              (Q (v, 0))))
    fun (k : Bool → HProp) =>
    iteW (ltI t.fst 1) (k true)
      (iteW (ltI 256 t.fst) (k true) (iteW (ltI t.snd 1) (k true) (k (ltI (minI t.fst 16) t.snd))))
def ref09_Cut : (Int × Int) → ((Sl × Int) → HProp) → HProp :=
fun (t : Int × Int) (Q : Sl × Int → HProp) =>
  withK
    (fun (t_1 : Bool) =>
      iteW t_1 (Q (Sl.mk none 0 0, 2))
        (loopW (Sl.mk none 0 0, 0) fun (s : Sl × Int) (k : Sl × Int → HProp) =>
          iteW (ltI s.snd t.snd)
            (mustW ((t.snd : Int) ≠ 0)
              (mustW ((t.snd : Int) ≠ 0)
                (appendW s.fst [Value.int IntKind.i64 0, Value.int IntKind.i64 0] 16 1
                  [Value.int IntKind.i64 (quo IntKind.i64 (mul IntKind.i64 s.snd t.fst) t.snd),
                    Value.int IntKind.i64 (quo IntKind.i64 (mul IntKind.i64 (add IntKind.i64 s.snd 1) t.fst) t.snd)]
                  fun (u : Sl) => k (u, add IntKind.i64 s.snd 1))))
            (Q (s.fst, 0))))
    fun (k : Bool → HProp) =>
    iteW (ltI t.fst 1) (k true)
      (iteW (ltI 256 t.fst) (k true) (iteW (ltI t.snd 1) (k true) (iteW (ltI t.fst t.snd) (k true) (k (ltI 16 t.snd)))))
def law09_Same : (Sl × Sl) → ((Bool) → HProp) → HProp :=
fun (t : Sl × Sl) (Q : Bool → HProp) =>
  iteW (!eqI ↑t.fst.len ↑t.snd.len) (Q false)
    (loopW 0 fun (s : Int) (k : Int → HProp) =>
      iteW (ltI s ↑t.fst.len)
        (indexW s t.fst 2 fun (a : Addr) =>
          loadI IntKind.i64 (a.add 0) fun (x : Int) =>
            loadI IntKind.i64 (a.add 1) fun (x_1 : Int) =>
              indexW s t.snd 2 fun (a : Addr) =>
                loadI IntKind.i64 (a.add 0) fun (x_2 : Int) =>
                  loadI IntKind.i64 (a.add 1) fun (x_3 : Int) =>
                    iteW (!eqPairs [(x, x_2), (x_1, x_3)]) (Q false) (k (add IntKind.i64 s 1)))
        (Q true))
def slices_IndexFunc_api_Part_api_Part : (Sl × ((Int × Int) → ((Bool) → HProp) → HProp)) → ((Int) → HProp) → HProp :=
fun (t : Sl × (Int × Int → (Bool → HProp) → HProp)) (Q : Int → HProp) =>
  loopW 0 fun (s : Int) (k : Int → HProp) =>
    iteW (ltI s ↑t.fst.len)
      (indexW s t.fst 2 fun (a : Addr) =>
        loadI IntKind.i64 (a.add 0) fun (x : Int) =>
          loadI IntKind.i64 (a.add 1) fun (x_1 : Int) =>
            t.2 (x, x_1) fun (r : Bool) => iteW r (Q s) (k (add IntKind.i64 s 1)))
      (Q (-1))
def parts_vertex_in : (Int × Int × Int) → ((Bool) → HProp) → HProp :=
fun (t : Int × Int × Int) (Q : Bool → HProp) =>
  withK Q fun (k : Bool → HProp) => iteW (leI t.snd.fst t.fst) (k (ltI t.fst t.snd.snd)) (k false)
def parts_Of : (Sl × Int) → ((Int) → HProp) → HProp :=
fun (t : Sl × Int) (Q : Int → HProp) =>
  slices_IndexFunc_api_Part_api_Part (t.fst, fun (t_1 : Int × Int) => parts_vertex_in (t.snd, t_1.fst, t_1.snd)) Q
def parts_Check : (Int × Sl) → ((Int) → HProp) → HProp :=
fun (t : Int × Sl) (Q : Int → HProp) =>
  withK
    (fun (t_1 : Bool) =>
      iteW t_1 (Q 2)
        (loopW (0, 0) fun (s : Int × Int) (k : Int × Int → HProp) =>
          iteW (ltI s.snd ↑t.snd.len)
            (indexW s.snd t.snd 2 fun (a : Addr) =>
              loadI IntKind.i64 (a.add 0) fun (x : Int) =>
                loadI IntKind.i64 (a.add 1) fun (x_1 : Int) =>
                  withK (fun (t : Bool) => iteW t (Q 2) (k (x_1, add IntKind.i64 s.snd 1)))
                    fun (k : Bool → HProp) => iteW (!eqI x s.fst) (k true) (k (leI x_1 s.fst)))
            (iteW (!eqI s.fst t.fst) (Q 2) (Q 0))))
    fun (k : Bool → HProp) =>
    iteW (ltI t.fst 1) (k true) (iteW (ltI 256 t.fst) (k true) (k (ltI 16 ↑t.snd.len)))
def law09_does : (Unit) → ((Bool) → HProp) → HProp :=
fun (t : Unit) (Q : Bool → HProp) =>
  parts_Cut (10, 3) fun (r : Sl × Int) =>
    parts_Cut (2, 3) fun (r_1 : Sl × Int) =>
      withK Q fun (k : Bool → HProp) =>
        iteW (eqI r.snd 0)
          (newW
            [Value.int IntKind.i64 0, Value.int IntKind.i64 3, Value.int IntKind.i64 3, Value.int IntKind.i64 6,
              Value.int IntKind.i64 6, Value.int IntKind.i64 10]
            fun (b : Nat) =>
            law09_Same (r.fst, Sl.mk (some (Addr.mk b 0 none)) 3 3) fun (r_2 : Bool) =>
              iteW r_2
                (iteW (eqI r_1.snd 2)
                  (parts_Of (r.fst, 5) fun (r_3 : Int) =>
                    iteW (eqI r_3 1)
                      (parts_Of (r.fst, 10) fun (r_4 : Int) =>
                        iteW (eqI r_4 (-1))
                          (parts_Check (10, r.fst) fun (r_5 : Int) =>
                            iteW (eqI r_5 0)
                              (sliceW r.fst 2 0 2 fun (u : Sl) => parts_Check (10, u) fun (r : Int) => k (eqI r 2))
                              (k false))
                          (k false))
                      (k false))
                  (k false))
                (k false))
          (k false)
def law09_PartsCut : (Int × Int) → ((Bool) → HProp) → HProp :=
fun (t : Int × Int) (Q : Bool → HProp) =>
  parts_Cut (t.fst, t.snd) fun (r : Sl × Int) =>
    ref09_Cut (t.fst, t.snd) fun (r_1 : Sl × Int) =>
      withK Q fun (k : Bool → HProp) =>
        iteW (eqI r.snd r_1.snd) (law09_Same (r.fst, r_1.fst) fun (r : Bool) => iteW r (law09_does () k) (k false))
          (k false)
def ref09_Of : (Sl × Int) → ((Int) → HProp) → HProp :=
fun (t : Sl × Int) (Q : Int → HProp) =>
  loopW 0 fun (s : Int) (k : Int → HProp) =>
    iteW (ltI s ↑t.fst.len)
      (withK (fun (t : Bool) => iteW t (Q s) (k (add IntKind.i64 s 1))) fun (k : Bool → HProp) =>
        indexW s t.fst 2 fun (a : Addr) =>
          loadI IntKind.i64 (a.add 0) fun (x : Int) =>
            iteW (leI x t.snd)
              (indexW s t.fst 2 fun (a : Addr) => loadI IntKind.i64 (a.add 1) fun (x : Int) => k (ltI t.snd x))
              (k false))
      (Q (-1))
def ref09_Check : (Int × Sl) → ((Int) → HProp) → HProp :=
fun (t : Int × Sl) (Q : Int → HProp) =>
  withK
    (fun (t_1 : Bool) =>
      iteW t_1 (Q 2)
        (loopW 0 fun (s : Int) (k : Int → HProp) =>
          iteW (ltI s ↑t.snd.len)
            (withK (fun (t : Bool) => iteW t (Q 2) (k (add IntKind.i64 s 1)))
              fun (k : Bool → HProp) =>
              indexW s t.snd 2 fun (a : Addr) =>
                loadI IntKind.i64 (a.add 0) fun (x : Int) =>
                  indexW s t.snd 2 fun (a : Addr) =>
                    loadI IntKind.i64 (a.add 1) fun (x_1 : Int) =>
                      iteW (leI x_1 x) (k true)
                        (iteW (ltI 0 s)
                          (indexW s t.snd 2 fun (a : Addr) =>
                            loadI IntKind.i64 (a.add 0) fun (x : Int) =>
                              indexW (sub IntKind.i64 s 1) t.snd 2 fun (a : Addr) =>
                                loadI IntKind.i64 (a.add 1) fun (x_2 : Int) => k !eqI x x_2)
                          (k false)))
            (Q 0)))
    fun (k : Bool → HProp) =>
    iteW (ltI t.fst 1) (k true)
      (iteW (ltI 256 t.fst) (k true)
        (iteW (ltI (↑t.snd.len) 1) (k true)
          (iteW (ltI 16 ↑t.snd.len) (k true)
            (indexW 0 t.snd 2 fun (a : Addr) =>
              loadI IntKind.i64 (a.add 0) fun (x : Int) =>
                iteW (!eqI x 0) (k true)
                  (indexW (sub IntKind.i64 (↑t.snd.len) 1) t.snd 2 fun (a : Addr) =>
                    loadI IntKind.i64 (a.add 1) fun (x : Int) => k !eqI x t.fst)))))
def law09_PartsAsk : (Int × Sl × Int) → ((Bool) → HProp) → HProp :=
fun (t : Int × Sl × Int) (Q : Bool → HProp) =>
  iteW (ltI 60 ↑t.snd.fst.len) (Q true)
    (rowW t.snd.fst 2 fun (l : List Value) =>
      appendW (Sl.mk none 0 0) [Value.int IntKind.i64 0, Value.int IntKind.i64 0] 16 t.snd.fst.len l fun (u : Sl) =>
        withK Q fun (k : Bool → HProp) =>
          parts_Of (u, t.snd.snd) fun (r : Int) =>
            ref09_Of (t.snd.fst, t.snd.snd) fun (r_1 : Int) =>
              iteW (eqI r r_1)
                (parts_Check (t.fst, u) fun (r : Int) =>
                  ref09_Check (t.fst, t.snd.fst) fun (r_2 : Int) =>
                    iteW (eqI r r_2) (law09_Same (u, t.snd.fst) fun (r : Bool) => iteW r (law09_does () k) (k false))
                      (k false))
                (k false))
def law09_PartsAlike : (Int × Int) → ((Bool) → HProp) → HProp :=
fun (t : Int × Int) (Q : Bool → HProp) =>
  mustW ((16 : Int) ≠ 0)
    (parts_Cut (add IntKind.i64 1 (cnv IntKind.i64 t.fst), add IntKind.i64 1 (rem (cnv IntKind.i64 t.snd) 16))
      fun (r : Sl × Int) =>
      iteW (ltI (add IntKind.i64 1 (cnv IntKind.i64 t.fst)) (add IntKind.i64 1 (rem (cnv IntKind.i64 t.snd) 16)))
        (withK Q fun (k : Bool → HProp) =>
          iteW (eqI r.snd 2) (iteW (eqI (↑r.fst.len) 0) (law09_does () k) (k false)) (k false))
        (withK
          (fun (t_1 : Bool) =>
            iteW t_1 (Q false)
              (loopW 0 fun (s : Int) (k : Int → HProp) =>
                iteW (ltI s (add IntKind.i64 1 (rem (cnv IntKind.i64 t.snd) 16)))
                  (indexW s r.fst 2 fun (a : Addr) =>
                    loadI IntKind.i64 (a.add 1) fun (x : Int) =>
                      indexW s r.fst 2 fun (a : Addr) =>
                        loadI IntKind.i64 (a.add 0) fun (x_1 : Int) =>
                          withK (fun (t : Bool) => iteW t (Q false) (k (add IntKind.i64 s 1)))
                            fun (k : Bool → HProp) =>
                            mustW ((add IntKind.i64 1 (rem (cnv IntKind.i64 t.snd) 16) : Int) ≠ 0)
                              (iteW
                                (ltI (sub IntKind.i64 x x_1)
                                  (quo IntKind.i64 (add IntKind.i64 1 (cnv IntKind.i64 t.fst))
                                    (add IntKind.i64 1 (rem (cnv IntKind.i64 t.snd) 16))))
                                (k true)
                                (mustW ((add IntKind.i64 1 (rem (cnv IntKind.i64 t.snd) 16) : Int) ≠ 0)
                                  (k
                                    (ltI
                                      (quo IntKind.i64
                                        (sub IntKind.i64
                                          (add IntKind.i64 (add IntKind.i64 1 (cnv IntKind.i64 t.fst))
                                            (add IntKind.i64 1 (rem (cnv IntKind.i64 t.snd) 16)))
                                          1)
                                        (add IntKind.i64 1 (rem (cnv IntKind.i64 t.snd) 16)))
                                      (sub IntKind.i64 x x_1))))))
                  (law09_does () Q)))
          fun (k : Bool → HProp) =>
          iteW (!eqI r.snd 0) (k true)
            (iteW (!eqI (↑r.fst.len) (add IntKind.i64 1 (rem (cnv IntKind.i64 t.snd) 16))) (k true)
              (parts_Check (add IntKind.i64 1 (cnv IntKind.i64 t.fst), r.fst) fun (r : Int) => k !eqI r 0))))
def law09_PartsOne : (Sl × Int) → ((Bool) → HProp) → HProp :=
fun (t : Sl × Int) (Q : Bool → HProp) =>
  loopW (Sl.mk none 0 0, 0, 0) fun (s : Sl × Int × Int) (k : Sl × Int × Int → HProp) =>
    withK
      (fun (t_1 : Bool) =>
        iteW t_1
          (indexW s.snd.snd t.fst 1 fun (a : Addr) =>
            loadI IntKind.u8 a fun (x : Int) =>
              mustW ((16 : Int) ≠ 0)
                (appendW s.fst [Value.int IntKind.i64 0, Value.int IntKind.i64 0] 16 1
                  [Value.int IntKind.i64 s.snd.fst,
                    Value.int IntKind.i64 (add IntKind.i64 s.snd.fst (add IntKind.i64 1 (rem (cnv IntKind.i64 x) 16)))]
                  fun (u : Sl) =>
                  k
                    (u, add IntKind.i64 s.snd.fst (add IntKind.i64 1 (rem (cnv IntKind.i64 x) 16)),
                      add IntKind.i64 s.snd.snd 1)))
          (withK
            (fun (t : Bool) =>
              iteW t (Q false)
                (loopW 0 fun (s_1 : Int) (k : Int → HProp) =>
                  iteW (ltI s_1 s.snd.fst)
                    (parts_Of (s.fst, s_1) fun (r : Int) =>
                      withK (fun (t : Bool) => iteW t (Q false) (k (add IntKind.i64 s_1 1)))
                        fun (k : Bool → HProp) =>
                        iteW (ltI r 0) (k true)
                          (iteW (leI (↑s.fst.len) r) (k true)
                            (indexW r s.fst 2 fun (a : Addr) =>
                              loadI IntKind.i64 (a.add 0) fun (x : Int) =>
                                iteW (ltI s_1 x) (k true)
                                  (indexW r s.fst 2 fun (a : Addr) =>
                                    loadI IntKind.i64 (a.add 1) fun (x : Int) => k (leI x s_1)))))
                    (law09_does () Q)))
            fun (k : Bool → HProp) =>
            parts_Check (s.snd.fst, s.fst) fun (r : Int) =>
              iteW (!eqI r 0 == ltI 0 s.snd.fst) (k true)
                (parts_Check (add IntKind.i64 s.snd.fst 1, s.fst) fun (r : Int) =>
                  iteW (!eqI r 2) (k true)
                    (parts_Of (s.fst, t.snd) fun (r : Int) =>
                      iteW (leI 0 r) (iteW (ltI t.snd 0) (k true) (k (leI s.snd.fst t.snd))) (k false)))))
      fun (k : Bool → HProp) => iteW (ltI s.snd.snd ↑t.fst.len) (k (ltI s.snd.snd 16)) (k false)
def law09_PartsSpoilt : (Sl × Int × Int) → ((Bool) → HProp) → HProp :=
fun (t : Sl × Int × Int) (Q : Bool → HProp) =>
  loopW (Sl.mk none 0 0, 0, 0) fun (s : Sl × Int × Int) (k : Sl × Int × Int → HProp) =>
    withK
      (fun (t_1 : Bool) =>
        iteW t_1
          (indexW s.snd.snd t.fst 1 fun (a : Addr) =>
            loadI IntKind.u8 a fun (x : Int) =>
              mustW ((16 : Int) ≠ 0)
                (appendW s.fst [Value.int IntKind.i64 0, Value.int IntKind.i64 0] 16 1
                  [Value.int IntKind.i64 s.snd.fst,
                    Value.int IntKind.i64 (add IntKind.i64 s.snd.fst (add IntKind.i64 1 (rem (cnv IntKind.i64 x) 16)))]
                  fun (u : Sl) =>
                  k
                    (u, add IntKind.i64 s.snd.fst (add IntKind.i64 1 (rem (cnv IntKind.i64 x) 16)),
                      add IntKind.i64 s.snd.snd 1)))
          (withK
            (fun (t_2 : Bool) =>
              iteW t_2 (law09_does () Q)
                (mustW ((↑s.fst.len : Int) ≠ 0)
                  (rowW s.fst 2 fun (l : List Value) =>
                    appendW (Sl.mk none 0 0) [Value.int IntKind.i64 0, Value.int IntKind.i64 0] 16 s.fst.len l
                      fun (u : Sl) =>
                      indexW (rem (cnv IntKind.i64 t.snd.fst) ↑s.fst.len) u 2 fun (a : Addr) =>
                        loadI IntKind.i64 (a.add 0) fun (x : Int) =>
                          indexW (rem (cnv IntKind.i64 t.snd.fst) ↑s.fst.len) u 2 fun (a : Addr) =>
                            storeW (a.add 0) (Value.int IntKind.i64 (add IntKind.i64 x (cnv IntKind.i64 t.snd.snd)))
                              (parts_Check (s.snd.fst, u) fun (r : Int) =>
                                iteW (!eqI r 2) (Q false)
                                  (indexW (rem (cnv IntKind.i64 t.snd.fst) ↑s.fst.len) s.fst 2 fun (a : Addr) =>
                                    loadI IntKind.i64 (a.add 0) fun (x : Int) =>
                                      loadI IntKind.i64 (a.add 1) fun (x_1 : Int) =>
                                        indexW (rem (cnv IntKind.i64 t.snd.fst) ↑s.fst.len) u 2 fun (a : Addr) =>
                                          storesW a [Value.int IntKind.i64 x, Value.int IntKind.i64 x_1]
                                            (indexW (rem (cnv IntKind.i64 t.snd.fst) ↑s.fst.len) u 2 fun (a : Addr) =>
                                              loadI IntKind.i64 (a.add 1) fun (x : Int) =>
                                                indexW (rem (cnv IntKind.i64 t.snd.fst) ↑s.fst.len) u 2
                                                  fun (a : Addr) =>
                                                  storeW (a.add 1)
                                                    (Value.int IntKind.i64
                                                      (sub IntKind.i64 x (cnv IntKind.i64 t.snd.snd)))
                                                    (parts_Check (s.snd.fst, u) fun (r : Int) =>
                                                      iteW (!eqI r 2) (Q false)
                                                        (sliceW s.fst 2 0 (rem (cnv IntKind.i64 t.snd.fst) ↑s.fst.len)
                                                          fun (u : Sl) =>
                                                          sliceW s.fst 2
                                                            (add IntKind.i64
                                                              (rem (cnv IntKind.i64 t.snd.fst) ↑s.fst.len) 1)
                                                            ↑s.fst.len fun (u_1 : Sl) =>
                                                            rowW u 2 fun (l : List Value) =>
                                                              appendW (Sl.mk none 0 0)
                                                                [Value.int IntKind.i64 0, Value.int IntKind.i64 0] 16
                                                                u.len l fun (u : Sl) =>
                                                                rowW u_1 2 fun (l : List Value) =>
                                                                  appendW u
                                                                    [Value.int IntKind.i64 0, Value.int IntKind.i64 0]
                                                                    16 u_1.len l fun (u : Sl) =>
                                                                    sliceW s.fst 2 0
                                                                      (add IntKind.i64
                                                                        (rem (cnv IntKind.i64 t.snd.fst) ↑s.fst.len) 1)
                                                                      fun (u_2 : Sl) =>
                                                                      sliceW s.fst 2
                                                                        (rem (cnv IntKind.i64 t.snd.fst) ↑s.fst.len)
                                                                        ↑s.fst.len fun (u_3 : Sl) =>
                                                                        rowW u_2 2 fun (l : List Value) =>
                                                                          appendW (Sl.mk none 0 0)
                                                                            [Value.int IntKind.i64 0,
                                                                              Value.int IntKind.i64 0]
                                                                            16 u_2.len l fun (u_4 : Sl) =>
                                                                            rowW u_3 2 fun (l : List Value) =>
                                                                              appendW u_4
                                                                                [Value.int IntKind.i64 0,
                                                                                  Value.int IntKind.i64 0]
                                                                                16 u_3.len l fun (u_5 : Sl) =>
                                                                                withK Q
                                                                                  fun
                                                                                    (k :
                                                                                      Bool →
                                                                                        HProp) =>
                                                                                  parts_Check (s.snd.fst, u)
                                                                                    fun (r : Int) =>
                                                                                    iteW (eqI r 2)
                                                                                      (parts_Check (s.snd.fst, u_5)
                                                                                        fun (r : Int) =>
                                                                                        iteW (eqI r 2) (law09_does () k)
                                                                                          (k false))
                                                                                      (k false)))))))))
            fun (k : Bool → HProp) => iteW (eqI (↑s.fst.len) 0) (k true) (k (eqI t.snd.snd 0))))
      fun (k : Bool → HProp) => iteW (ltI s.snd.snd ↑t.fst.len) (k (ltI s.snd.snd 16)) (k false)
end Go.Cz.S

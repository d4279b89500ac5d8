/- Part of the proof of a law of 03: an engine that runs a function over an abstract heap, and what the functions compute; own work. -/
import Derived.Test.YtbcijfhjbmlplaaEng1
set_option linter.unusedVariables false
set_option linter.unusedSimpArgs false
set_option linter.unusedSectionVars false
namespace Go.Cz.S
set_option maxRecDepth 100000
set_option linter.unusedVariables false
def sums_register_up : (Int) → ((Int) → HProp) → HProp :=
fun (t : Int) (Q : Int → HProp) =>
  mustW ((0 : Int) ≤ 1) (Q (xorI IntKind.u32 (shr IntKind.u32 t 1) (mul IntKind.u32 3988292384 (andI IntKind.u32 t 1))))
def sums_register_in : (Int × Int) → ((Int) → HProp) → HProp :=
fun (t : Int × Int) (Q : Int → HProp) =>
  loopW (xorI IntKind.u32 t.fst (cnv IntKind.u32 t.snd), 0)
    fun (s : Int × Int) (k : Int × Int → HProp) =>
    iteW (ltI s.snd 8) (sums_register_up s.fst fun (r : Int) => k (r, add IntKind.i64 s.snd 1)) (Q s.fst)
def sums_More : (Int × ByteArray) → ((Int) → HProp) → HProp :=
fun (t : Int × ByteArray) (Q : Int → HProp) =>
  loopW (notI IntKind.u32 t.fst, 0) fun (s : Int × Int) (k : Int × Int → HProp) =>
    iteW (ltI s.snd ↑(ByteArray.size t.snd))
      (byteW s.snd t.snd fun (c : Int) => sums_register_in (s.fst, c) fun (r : Int) => k (r, add IntKind.i64 s.snd 1))
      (Q (notI IntKind.u32 s.fst))
def sums_Sum : (ByteArray) → ((Int) → HProp) → HProp :=
fun (t : ByteArray) (Q : Int → HProp) => sums_More (0, t) Q
def sums_register_times : (Int × Int) → ((Int) → HProp) → HProp :=
fun (t : Int × Int) (Q : Int → HProp) =>
  loopW (t.fst, t.snd, 0) fun (s : Int × Int × Int) (k : Int × Int × Int → HProp) =>
    iteW (!eqI s.fst 0)
      (withK
        (fun (t : Int) => mustW ((0 : Int) ≤ 1) (sums_register_up s.snd.fst fun (r : Int) => k (shl IntKind.u32 s.fst 1, r, t)))
        fun (k : Int → HProp) =>
        iteW (!eqI (andI IntKind.u32 s.fst 2147483648) 0) (k (xorI IntKind.u32 s.snd.snd s.snd.fst)) (k s.snd.snd))
      (Q s.snd.snd)
def sums_zeros : (Int) → ((Int) → HProp) → HProp :=
fun (t : Int) (Q : Int → HProp) =>
  loopW (t, 2147483648, 8388608) fun (s : Int × Int × Int) (k : Int × Int × Int → HProp) =>
    iteW (ltI 0 s.fst)
      (withK
        (fun (t : Int) =>
          mustW ((0 : Int) ≤ 1) (sums_register_times (s.snd.snd, s.snd.snd) fun (r : Int) => k (shr IntKind.i64 s.fst 1, t, r)))
        fun (k : Int → HProp) =>
        iteW (ltI 0 (andI IntKind.i64 s.fst 1)) (sums_register_times (s.snd.fst, s.snd.snd) k) (k s.snd.fst))
      (Q s.snd.fst)
def sums_Join : (Int × Int × Int) → ((Int) → HProp) → HProp :=
fun (t : Int × Int × Int) (Q : Int → HProp) =>
  iteW (ltI t.snd.snd 0) (Q 0)
    (sums_zeros t.snd.snd fun (r : Int) =>
      sums_register_times (t.fst, r) fun (r : Int) => Q (xorI IntKind.u32 r t.snd.fst))
def law03_check : (Unit) → ((Bool) → HProp) → HProp :=
fun (t : Unit) (Q : Bool → HProp) =>
  withK Q fun (k : Bool → HProp) =>
    sums_Sum (ByteArray.mk #[49, 50, 51, 52, 53, 54, 55, 56, 57]) fun (r : Int) =>
      iteW (eqI r 3421780262)
        (sums_Sum (ByteArray.mk #[]) fun (r : Int) =>
          iteW (eqI r 0)
            (sums_Sum (ByteArray.mk #[0]) fun (r : Int) =>
              iteW (eqI r 3523407757)
                (sums_Sum (ByteArray.mk #[49, 50, 51, 52]) fun (r : Int) =>
                  sums_Sum (ByteArray.mk #[53, 54, 55, 56, 57]) fun (r_1 : Int) =>
                    sums_Join (r, r_1, 5) fun (r : Int) => k (eqI r 3421780262))
                (k false))
            (k false))
        (k false)
def ref03_Goes : (Int × ByteArray) → ((Int) → HProp) → HProp :=
fun (t : Int × ByteArray) (Q : Int → HProp) =>
  loopW (t.fst, 0) fun (s : Int × Int) (k : Int × Int → HProp) =>
    iteW (ltI s.snd ↑(ByteArray.size t.snd))
      (byteW s.snd t.snd fun (c : Int) =>
        loopW (xorI IntKind.u32 s.fst (cnv IntKind.u32 c), 0)
          fun (s_1 : Int × Int) (k_1 : Int × Int → HProp) =>
          iteW (ltI s_1.snd 8)
            (withK (fun (t : Int) => k_1 (t, add IntKind.i64 s_1.snd 1)) fun (k : Int → HProp) =>
              mustW ((0 : Int) ≤ 1)
                (iteW (eqI (andI IntKind.u32 s_1.fst 1) 1) (k (xorI IntKind.u32 (shr IntKind.u32 s_1.fst 1) 3988292384))
                  (k (shr IntKind.u32 s_1.fst 1))))
            (k (s_1.fst, add IntKind.i64 s.snd 1)))
      (Q s.fst)
def ref03_More : (Int × ByteArray) → ((Int) → HProp) → HProp :=
fun (t : Int × ByteArray) (Q : Int → HProp) =>
  ref03_Goes (notI IntKind.u32 t.fst, t.snd) fun (r : Int) => Q (notI IntKind.u32 r)
def ref03_Sum : (ByteArray) → ((Int) → HProp) → HProp :=
fun (t : ByteArray) (Q : Int → HProp) => ref03_Goes (4294967295, t) fun (r : Int) => Q (notI IntKind.u32 r)
def law03_SumsGoes : (ByteArray × Int) → ((Bool) → HProp) → HProp :=
fun (t : ByteArray × Int) (Q : Bool → HProp) =>
  iteW (ltI 12000 ↑(ByteArray.size t.fst)) (law03_check () Q)
    (withK Q fun (k : Bool → HProp) =>
      sums_More (t.snd, t.fst) fun (r : Int) =>
        ref03_More (t.snd, t.fst) fun (r_1 : Int) =>
          iteW (eqI r r_1)
            (sums_Sum t.fst fun (r : Int) =>
              ref03_Sum t.fst fun (r_2 : Int) => iteW (eqI r r_2) (law03_check () k) (k false))
            (k false))
def ref03_Join : (Int × Int × Int) → ((Int) → HProp) → HProp :=
fun (t : Int × Int × Int) (Q : Int → HProp) =>
  iteW (ltI t.snd.snd 0) (Q 0)
    (makeW t.snd.snd t.snd.snd [Value.int IntKind.u8 0] 1 fun (v : Sl) =>
      textW v fun (z : ByteArray) => ref03_Goes (t.fst, z) fun (r : Int) => Q (xorI IntKind.u32 r t.snd.fst))
def law03_SumsApart : (Int × Int × Int) → ((Bool) → HProp) → HProp :=
fun (t : Int × Int × Int) (Q : Bool → HProp) =>
  iteW (ltI 12000 t.snd.snd) (law03_check () Q)
    (withK Q fun (k : Bool → HProp) =>
      sums_Join (t.fst, t.snd.fst, t.snd.snd) fun (r : Int) =>
        ref03_Join (t.fst, t.snd.fst, t.snd.snd) fun (r_1 : Int) =>
          iteW (eqI r r_1)
            (sums_Join (t.snd.fst, t.fst, t.snd.snd) fun (r : Int) =>
              ref03_Join (t.snd.fst, t.fst, t.snd.snd) fun (r_2 : Int) => iteW (eqI r r_2) (law03_check () k) (k false))
            (k false))
def law03_SumsSealed : (ByteArray × Int) → ((Bool) → HProp) → HProp :=
fun (t : ByteArray × Int) (Q : Bool → HProp) =>
  iteW (ltI 12000 ↑(ByteArray.size t.fst)) (law03_check () Q)
    (sums_Sum t.fst fun (r : Int) =>
      withK Q fun (k : Bool → HProp) =>
        mustW ((0 : Int) ≤ 8)
          (mustW ((0 : Int) ≤ 16)
            (mustW ((0 : Int) ≤ 24)
              (newW
                [Value.int IntKind.u8 (cnv IntKind.u8 (xorI IntKind.u32 r t.snd)),
                  Value.int IntKind.u8 (cnv IntKind.u8 (shr IntKind.u32 (xorI IntKind.u32 r t.snd) 8)),
                  Value.int IntKind.u8 (cnv IntKind.u8 (shr IntKind.u32 (xorI IntKind.u32 r t.snd) 16)),
                  Value.int IntKind.u8 (cnv IntKind.u8 (shr IntKind.u32 (xorI IntKind.u32 r t.snd) 24))]
                fun (b : Nat) =>
                textW (Sl.mk (some (Addr.mk b 0 none)) 4 4) fun (z : ByteArray) =>
                  mustW (ByteArray.size t.fst + z.size ≤ 9223372036854775807)
                    (sums_Sum (t.fst ++ z) fun (r : Int) =>
                      iteW (eqI r 558161692 == eqI t.snd 0) (law03_check () k) (k false))))))
def law03_SumsThree : (ByteArray × ByteArray × ByteArray) → ((Bool) → HProp) → HProp :=
fun (t : ByteArray × ByteArray × ByteArray) (Q : Bool → HProp) =>
  iteW (ltI 4000 (foldI minI ↑(ByteArray.size t.fst) [↑(ByteArray.size t.snd.fst), ↑(ByteArray.size t.snd.snd)]))
    (law03_check () Q)
    (makeW (foldI minI ↑(ByteArray.size t.fst) [↑(ByteArray.size t.snd.fst), ↑(ByteArray.size t.snd.snd)])
      (foldI minI ↑(ByteArray.size t.fst) [↑(ByteArray.size t.snd.fst), ↑(ByteArray.size t.snd.snd)])
      [Value.int IntKind.u8 0] 1 fun (v : Sl) =>
      loopW 0 fun (s : Int) (k : Int → HProp) =>
        iteW (ltI s (foldI minI ↑(ByteArray.size t.fst) [↑(ByteArray.size t.snd.fst), ↑(ByteArray.size t.snd.snd)]))
          (byteW s t.fst fun (c : Int) =>
            byteW s t.snd.fst fun (c_1 : Int) =>
              byteW s t.snd.snd fun (c_2 : Int) =>
                indexW s v 1 fun (a : Addr) =>
                  storeW a (Value.int IntKind.u8 (xorI IntKind.u8 (xorI IntKind.u8 c c_1) c_2))
                    (k (add IntKind.i64 s 1)))
          (withK Q fun (k : Bool → HProp) =>
            cutW t.fst 0 (foldI minI ↑(ByteArray.size t.fst) [↑(ByteArray.size t.snd.fst), ↑(ByteArray.size t.snd.snd)])
              fun (u : ByteArray) =>
              cutW t.snd.fst 0
                (foldI minI ↑(ByteArray.size t.fst) [↑(ByteArray.size t.snd.fst), ↑(ByteArray.size t.snd.snd)])
                fun (u_1 : ByteArray) =>
                cutW t.snd.snd 0
                  (foldI minI ↑(ByteArray.size t.fst) [↑(ByteArray.size t.snd.fst), ↑(ByteArray.size t.snd.snd)])
                  fun (u_2 : ByteArray) =>
                  textW v fun (z : ByteArray) =>
                    sums_Sum z fun (r : Int) =>
                      sums_Sum u fun (r_1 : Int) =>
                        sums_Sum u_1 fun (r_2 : Int) =>
                          sums_Sum u_2 fun (r_3 : Int) =>
                            iteW (eqI r (xorI IntKind.u32 (xorI IntKind.u32 r_1 r_2) r_3)) (law03_check () k)
                              (k false)))
def law03_SumsNear : (ByteArray × Int × Int) → ((Bool) → HProp) → HProp :=
fun (t : ByteArray × Int × Int) (Q : Bool → HProp) =>
  withK
    (fun (t_1 : Bool) =>
      iteW t_1 (law03_check () Q)
        (bytesW t.fst fun (v : Sl) =>
          mustW ((sub IntKind.i64 (↑v.len) 3 : Int) ≠ 0)
            (loopW 0 fun (s : Int) (k : Int → HProp) =>
              iteW (ltI s 4)
                (indexW (add IntKind.i64 (rem (cnv IntKind.i64 t.snd.fst) (sub IntKind.i64 (↑v.len) 3)) s) v 1
                  fun (a : Addr) =>
                  loadI IntKind.u8 a fun (x : Int) =>
                    mustW ((0 : Int) ≤ mul IntKind.i64 8 s)
                      (indexW (add IntKind.i64 (rem (cnv IntKind.i64 t.snd.fst) (sub IntKind.i64 (↑v.len) 3)) s) v 1
                        fun (a : Addr) =>
                        storeW a
                          (Value.int IntKind.u8
                            (xorI IntKind.u8 x (cnv IntKind.u8 (shr IntKind.u32 t.snd.snd (mul IntKind.i64 8 s)))))
                          (k (add IntKind.i64 s 1))))
                (withK Q fun (k : Bool → HProp) =>
                  textW v fun (z : ByteArray) =>
                    sums_Sum z fun (r : Int) =>
                      sums_Sum t.fst fun (r_1 : Int) =>
                        iteW (eqI r r_1 == eqI t.snd.snd 0) (law03_check () k) (k false)))))
    fun (k : Bool → HProp) =>
    iteW (ltI 12000 ↑(ByteArray.size t.fst)) (k true) (k (ltI (↑(ByteArray.size t.fst)) 4))
def law03_SumsPages : (Sl) → ((Bool) → HProp) → HProp :=
fun (t : Sl) (Q : Bool → HProp) =>
  loopW (ByteArray.mk #[], 0) fun (s : ByteArray × Int) (k : ByteArray × Int → HProp) =>
    iteW (ltI s.snd ↑t.len)
      (withK
        (fun (t_1 : Bool) =>
          iteW t_1 (law03_check () Q)
            (indexW s.snd t 1 fun (a : Addr) =>
              loadS a fun (x : ByteArray) =>
                mustW (ByteArray.size s.fst + x.size ≤ 9223372036854775807) (k (s.fst ++ x, add IntKind.i64 s.snd 1))))
        fun (k : Bool → HProp) =>
        iteW (leI 40 s.snd) (k true)
          (indexW s.snd t 1 fun (a : Addr) =>
            loadS a fun (x : ByteArray) => k (ltI (sub IntKind.i64 12000 ↑(ByteArray.size s.fst)) ↑x.size)))
      (loopW (0, 0, sub IntKind.i64 (↑t.len) 1)
        fun (s_1 : Int × Int × Int) (k : Int × Int × Int → HProp) =>
        iteW (leI 0 s_1.snd.snd)
          (indexW s_1.snd.snd t 1 fun (a : Addr) =>
            loadS a fun (x : ByteArray) =>
              sums_Sum x fun (r : Int) =>
                sums_Join (r, s_1.fst, s_1.snd.fst) fun (r : Int) =>
                  indexW s_1.snd.snd t 1 fun (a : Addr) =>
                    loadS a fun (x : ByteArray) =>
                      k (r, add IntKind.i64 s_1.snd.fst ↑x.size, sub IntKind.i64 s_1.snd.snd 1))
          (withK Q fun (k : Bool → HProp) =>
            sums_Sum s.fst fun (r : Int) => iteW (eqI s_1.fst r) (law03_check () k) (k false)))
def law03_SumsZeros : (Int × Int × Int) → ((Bool) → HProp) → HProp :=
fun (t : Int × Int × Int) (Q : Bool → HProp) =>
  mustW ((2305843009213693952 : Int) ≠ 0)
    (mustW ((2305843009213693952 : Int) ≠ 0)
      (withK Q fun (k : Bool → HProp) =>
        sums_Join (t.fst, 0, cnv IntKind.i64 (rem t.snd.fst 2305843009213693952)) fun (r : Int) =>
          sums_Join (r, 0, cnv IntKind.i64 (rem t.snd.snd 2305843009213693952)) fun (r : Int) =>
            sums_Join
              (t.fst, 0,
                add IntKind.i64 (cnv IntKind.i64 (rem t.snd.fst 2305843009213693952))
                  (cnv IntKind.i64 (rem t.snd.snd 2305843009213693952)))
              fun (r_1 : Int) =>
              iteW (eqI r r_1)
                (sums_Join (t.fst, 0, 0) fun (r : Int) =>
                  iteW (eqI r t.fst)
                    (sums_Join (0, t.fst, cnv IntKind.i64 (rem t.snd.fst 2305843009213693952)) fun (r : Int) =>
                      iteW (eqI r t.fst)
                        (sums_Join (t.fst, 0, cnv IntKind.i64 (rem t.snd.fst 2305843009213693952)) fun (r : Int) =>
                          iteW (eqI r 0 == eqI t.fst 0) (law03_check () k) (k false))
                        (k false))
                    (k false))
                (k false)))
end Go.Cz.S

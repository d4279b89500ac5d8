/- Part of the proof of a law of 28: an engine that runs a function over an abstract heap, and what the functions compute; own work. -/
import Derived.Test.YtpmojjeehmadpaaGreatEngZ
import Derived.Test.YtpmojjeehmadpaaGreatD28
import Derived.Test.YtpmojjeehmadpaaGreatC28
import Derived.Test.YtpmojjeehmadpaaGreatProg
set_option linter.unusedVariables false
set_option linter.unusedSimpArgs false
set_option linter.unusedSectionVars false
namespace Go.Cz.S
open Go.Proofs
set_option maxRecDepth 100000
set_option linter.unusedVariables false
theorem law25_Place_Great_linked : Linked Tryz.prog ⟨4, [.agg [.o (.i .u8), .o (.sl), .o (.i .u8), .o (.i .u8)], .leaf (.o (.i .i64))], [.leaf (.o (.b))], law25_Place_Great⟩ := linked_of (fn := Tryz.f4) Tryz.func4 rfl (by kernel_rfl) [] [] [] [] allNil (by kernel_rfl) (by kernel_rfl) (by kernel_rfl) (fun t Q => by kernel_rfl)
theorem truth_Check_linked : Linked Tryz.prog ⟨35, [.agg [.o (.i .i64), .o (.i .i64), .o (.i .i64), .o (.i .i64)], .leaf (.o (.i .i64))], [.leaf (.o (.i .i64))], truth_Check⟩ := linked_of (fn := Tryz.f35) Tryz.func35 rfl (by kernel_rfl) [] [] [] [(3, ⟨[(5, .leaf (.o (.b)))], []⟩), (7, ⟨[(5, .leaf (.o (.b)))], []⟩), (11, ⟨[(5, .leaf (.o (.b)))], []⟩), (15, ⟨[(5, .leaf (.o (.b)))], []⟩), (19, ⟨[(5, .leaf (.o (.b)))], []⟩), (23, ⟨[(5, .leaf (.o (.b)))], []⟩)] allNil (by kernel_rfl) (by kernel_rfl) (by kernel_rfl) (fun t Q => by kernel_rfl)
theorem edges_within_linked : Linked Tryz.prog ⟨71, [.leaf (.o (.i .i64)), .leaf (.o (.i .i64))], [.leaf (.o (.b))], edges_within⟩ := linked_of (fn := Tryz.f71) Tryz.func71 rfl (by kernel_rfl) [] [] [] [(3, ⟨[(4, .leaf (.o (.b)))], []⟩)] allNil (by kernel_rfl) (by kernel_rfl) (by kernel_rfl) (fun t Q => by kernel_rfl)
theorem edges_Normal_c1_eq (edges_within : (Int × Int) → ((Bool) → HProp) → HProp) : (fun (t : Int × Int × (Option Addr)) (Q : (Bool) → HProp) => interpF ⟨Tryz.prog, [⟨71, [.leaf (.o (.i .i64)), .leaf (.o (.i .i64))], [.leaf (.o (.b))], edges_within⟩], [], []⟩ Tryz.f70 [(3, ⟨[(3, .leaf (.o (.b)))], []⟩)] [.agg [.o (.i .i64), .o (.i .i64)], .leaf (.o .p)] [.leaf (.o (.b))] t Q : (Int × Int × (Option Addr)) → ((Bool) → HProp) → HProp) =
fun (t : Int × Int × Option Addr) (Q : Bool → HProp) =>
  withK Q fun (k : Bool → HProp) =>
    derefW t.snd.snd fun (a : Addr) =>
      loadI IntKind.i64 a fun (x : Int) =>
        edges_within (x, t.fst) fun (r : Bool) =>
          iteW (!r) (k true)
            (derefW t.snd.snd fun (a : Addr) =>
              loadI IntKind.i64 a fun (x : Int) =>
                edges_within (x, t.snd.fst) fun (r : Bool) => iteW (!r) (k true) (k (eqI t.fst t.snd.fst)))
  := by kernel_rfl
theorem edges_Normal_c1_linked : Linked Tryz.prog ⟨70, [.agg [.o (.i .i64), .o (.i .i64)], .leaf (.o .p)], [.leaf (.o (.b))], edges_Normal_c1⟩ := linked_of (fn := Tryz.f70) Tryz.func70 rfl (by kernel_rfl) [⟨71, [.leaf (.o (.i .i64)), .leaf (.o (.i .i64))], [.leaf (.o (.b))], edges_within⟩] [] [] [(3, ⟨[(3, .leaf (.o (.b)))], []⟩)] (allCons edges_within_linked allNil) (by kernel_rfl) (by kernel_rfl) (by kernel_rfl) (fun t Q => congrFun (congrFun (edges_Normal_c1_eq edges_within) t) Q)
theorem edges_may_linked : Linked Tryz.prog ⟨72, [.leaf (.o (.i .i64))], [.leaf (.o (.b))], edges_may⟩ := linked_of (fn := Tryz.f72) Tryz.func72 rfl (by kernel_rfl) [] [] [] [(3, ⟨[(2, .leaf (.o (.b)))], []⟩)] allNil (by kernel_rfl) (by kernel_rfl) (by kernel_rfl) (fun t Q => by kernel_rfl)
theorem slices_IndexFunc_api_Edge_api_Edge_linked : Linked Tryz.prog ⟨80, [.leaf (.o (.sl)), .leaf (.fn [.agg [.i .i64, .i .i64]] [.leaf (.b)])], [.leaf (.o (.i .i64))], slices_IndexFunc_api_Edge_api_Edge⟩ := linked_of (fn := Tryz.f80) Tryz.func80 rfl (by kernel_rfl) [] [] [] [(6, ⟨[(8, .leaf (.o (.i .i64)))], []⟩)] allNil (by kernel_rfl) (by kernel_rfl) (by kernel_rfl) (fun t Q => by kernel_rfl)
theorem slices_ContainsFunc_api_Edge_api_Edge_eq (slices_IndexFunc_api_Edge_api_Edge : (Sl × ((Int × Int) → ((Bool) → HProp) → HProp)) → ((Int) → HProp) → HProp) : (fun (t : Sl × ((Int × Int) → ((Bool) → HProp) → HProp)) (Q : (Bool) → HProp) => interpF ⟨Tryz.prog, [⟨80, [.leaf (.o (.sl)), .leaf (.fn [.agg [.i .i64, .i .i64]] [.leaf (.b)])], [.leaf (.o (.i .i64))], slices_IndexFunc_api_Edge_api_Edge⟩], [], []⟩ Tryz.f73 [] [.leaf (.o (.sl)), .leaf (.fn [.agg [.i .i64, .i .i64]] [.leaf (.b)])] [.leaf (.o (.b))] t Q : (Sl × ((Int × Int) → ((Bool) → HProp) → HProp)) → ((Bool) → HProp) → HProp) =
fun (t : Sl × (Int × Int → (Bool → HProp) → HProp)) (Q : Bool → HProp) =>
  slices_IndexFunc_api_Edge_api_Edge (t.fst, t.snd) fun (r : Int) => Q (leI 0 r)
  := by kernel_rfl
theorem slices_ContainsFunc_api_Edge_api_Edge_linked : Linked Tryz.prog ⟨73, [.leaf (.o (.sl)), .leaf (.fn [.agg [.i .i64, .i .i64]] [.leaf (.b)])], [.leaf (.o (.b))], slices_ContainsFunc_api_Edge_api_Edge⟩ := linked_of (fn := Tryz.f73) Tryz.func73 rfl (by kernel_rfl) [⟨80, [.leaf (.o (.sl)), .leaf (.fn [.agg [.i .i64, .i .i64]] [.leaf (.b)])], [.leaf (.o (.i .i64))], slices_IndexFunc_api_Edge_api_Edge⟩] [] [] [] (allCons slices_IndexFunc_api_Edge_api_Edge_linked allNil) (by kernel_rfl) (by kernel_rfl) (by kernel_rfl) (fun t Q => congrFun (congrFun (slices_ContainsFunc_api_Edge_api_Edge_eq slices_IndexFunc_api_Edge_api_Edge) t) Q)
theorem slices_Compact_api_Edge_api_Edge_linked : Linked Tryz.prog ⟨74, [.leaf (.o (.sl))], [.leaf (.o (.sl))], slices_Compact_api_Edge_api_Edge⟩ := linked_of (fn := Tryz.f74) Tryz.func74 rfl (by kernel_rfl) [] [] [(72, 2)] [(14, ⟨[(3, .leaf (.o (.i .i64)))], []⟩), (32, ⟨[(3, .leaf (.o (.i .i64))), (5, .leaf (.o (.i .i64)))], []⟩), (40, ⟨[(3, .leaf (.o (.i .i64)))], []⟩)] allNil (by kernel_rfl) (by kernel_rfl) (by kernel_rfl) (fun t Q => by kernel_rfl)
theorem slices_Collect_api_Edge_linked : Linked Tryz.prog ⟨81, [.leaf (.clo 83 [.p])], [.leaf (.o (.sl))], slices_Collect_api_Edge⟩ := slices_Collect_api_Edge_hand
theorem cmp_Or_int_linked : Linked Tryz.prog ⟨68, [.leaf (.o (.sl))], [.leaf (.o (.i .i64))], cmp_Or_int⟩ := linked_of (fn := Tryz.f68) Tryz.func68 rfl (by kernel_rfl) [] [] [] [(8, ⟨[(8, .leaf (.o (.i .i64)))], []⟩)] allNil (by kernel_rfl) (by kernel_rfl) (by kernel_rfl) (fun t Q => by kernel_rfl)
theorem cmp_isNaN_int_linked : Linked Tryz.prog ⟨79, [.leaf (.o (.i .i64))], [.leaf (.o (.b))], cmp_isNaN_int⟩ := linked_of (fn := Tryz.f79) Tryz.func79 rfl (by kernel_rfl) [] [] [] [] allNil (by kernel_rfl) (by kernel_rfl) (by kernel_rfl) (fun t Q => by kernel_rfl)
theorem cmp_Compare_int_eq (cmp_isNaN_int : (Int) → ((Bool) → HProp) → HProp) : (fun (t : Int × Int) (Q : (Int) → HProp) => interpF ⟨Tryz.prog, [⟨79, [.leaf (.o (.i .i64))], [.leaf (.o (.b))], cmp_isNaN_int⟩], [], []⟩ Tryz.f69 [] [.leaf (.o (.i .i64)), .leaf (.o (.i .i64))] [.leaf (.o (.i .i64))] t Q : (Int × Int) → ((Int) → HProp) → HProp) =
fun (t : Int × Int) (Q : Int → HProp) =>
  cmp_isNaN_int t.fst fun (r : Bool) =>
    cmp_isNaN_int t.snd fun (r_1 : Bool) =>
      iteW r (iteW r_1 (Q 0) (Q (-1)))
        (iteW r_1 (Q 1) (iteW (ltI t.fst t.snd) (Q (-1)) (iteW (ltI t.snd t.fst) (Q 1) (Q 0))))
  := by kernel_rfl
theorem cmp_Compare_int_linked : Linked Tryz.prog ⟨69, [.leaf (.o (.i .i64)), .leaf (.o (.i .i64))], [.leaf (.o (.i .i64))], cmp_Compare_int⟩ := linked_of (fn := Tryz.f69) Tryz.func69 rfl (by kernel_rfl) [⟨79, [.leaf (.o (.i .i64))], [.leaf (.o (.b))], cmp_isNaN_int⟩] [] [] [] (allCons cmp_isNaN_int_linked allNil) (by kernel_rfl) (by kernel_rfl) (by kernel_rfl) (fun t Q => congrFun (congrFun (cmp_Compare_int_eq cmp_isNaN_int) t) Q)
theorem edges_by_eq (cmp_Or_int : (Sl) → ((Int) → HProp) → HProp) (cmp_Compare_int : (Int × Int) → ((Int) → HProp) → HProp) : (fun (t : Int × Int × Int × Int) (Q : (Int) → HProp) => interpF ⟨Tryz.prog, [⟨68, [.leaf (.o (.sl))], [.leaf (.o (.i .i64))], cmp_Or_int⟩, ⟨69, [.leaf (.o (.i .i64)), .leaf (.o (.i .i64))], [.leaf (.o (.i .i64))], cmp_Compare_int⟩], [15], []⟩ Tryz.f77 [] [.agg [.o (.i .i64), .o (.i .i64)], .agg [.o (.i .i64), .o (.i .i64)]] [.leaf (.o (.i .i64))] t Q : (Int × Int × Int × Int) → ((Int) → HProp) → HProp) =
fun (t : Int × Int × Int × Int) (Q : Int → HProp) =>
  cmp_Compare_int (t.fst, t.snd.snd.fst) fun (r : Int) =>
    cmp_Compare_int (t.snd.fst, t.snd.snd.snd) fun (r_1 : Int) =>
      newW [Value.int IntKind.i64 r, Value.int IntKind.i64 r_1] fun (b : Nat) =>
        cmp_Or_int (Sl.mk (some (Addr.mk b 0 none)) 2 2) Q
  := by kernel_rfl
theorem edges_by_linked : Linked Tryz.prog ⟨77, [.agg [.o (.i .i64), .o (.i .i64)], .agg [.o (.i .i64), .o (.i .i64)]], [.leaf (.o (.i .i64))], edges_by⟩ := linked_of (fn := Tryz.f77) Tryz.func77 rfl (by kernel_rfl) [⟨68, [.leaf (.o (.sl))], [.leaf (.o (.i .i64))], cmp_Or_int⟩, ⟨69, [.leaf (.o (.i .i64)), .leaf (.o (.i .i64))], [.leaf (.o (.i .i64))], cmp_Compare_int⟩] [15] [] [] (allCons cmp_Or_int_linked (allCons cmp_Compare_int_linked allNil)) (by kernel_rfl) (by kernel_rfl) (by kernel_rfl) (fun t Q => congrFun (congrFun (edges_by_eq cmp_Or_int cmp_Compare_int) t) Q)
theorem slices_SortFunc_api_Edge_api_Edge_linked : Linked Tryz.prog ⟨82, [.leaf (.o (.sl)), .leaf (.clo 77 [])], [], slices_SortFunc_api_Edge_api_Edge⟩ := slices_SortFunc_api_Edge_api_Edge_hand
theorem slices_SortedFunc_api_Edge_eq (slices_Collect_api_Edge : (((Option Addr))) → ((Sl) → HProp) → HProp) (slices_SortFunc_api_Edge_api_Edge : (Sl × Unit) → ((Unit) → HProp) → HProp) : (fun (t : ((Option Addr)) × Unit) (Q : (Sl) → HProp) => interpF ⟨Tryz.prog, [⟨81, [.leaf (.clo 83 [.p])], [.leaf (.o (.sl))], slices_Collect_api_Edge⟩, ⟨82, [.leaf (.o (.sl)), .leaf (.clo 77 [])], [], slices_SortFunc_api_Edge_api_Edge⟩], [], []⟩ Tryz.f75 [] [.leaf (.clo 83 [.p]), .leaf (.clo 77 [])] [.leaf (.o (.sl))] t Q : (((Option Addr)) × Unit) → ((Sl) → HProp) → HProp) =
fun (t : Option Addr × Unit) (Q : Sl → HProp) =>
  slices_Collect_api_Edge t.fst fun (r : Sl) => slices_SortFunc_api_Edge_api_Edge (r, ()) fun (r_1 : PUnit) => Q r
  := by kernel_rfl
theorem slices_SortedFunc_api_Edge_linked : Linked Tryz.prog ⟨75, [.leaf (.clo 83 [.p]), .leaf (.clo 77 [])], [.leaf (.o (.sl))], slices_SortedFunc_api_Edge⟩ := linked_of (fn := Tryz.f75) Tryz.func75 rfl (by kernel_rfl) [⟨81, [.leaf (.clo 83 [.p])], [.leaf (.o (.sl))], slices_Collect_api_Edge⟩, ⟨82, [.leaf (.o (.sl)), .leaf (.clo 77 [])], [], slices_SortFunc_api_Edge_api_Edge⟩] [] [] [] (allCons slices_Collect_api_Edge_linked (allCons slices_SortFunc_api_Edge_api_Edge_linked allNil)) (by kernel_rfl) (by kernel_rfl) (by kernel_rfl) (fun t Q => congrFun (congrFun (slices_SortedFunc_api_Edge_eq slices_Collect_api_Edge slices_SortFunc_api_Edge_api_Edge) t) Q)
theorem slices_Values_api_Edge_api_Edge_linked : Linked Tryz.prog ⟨76, [.leaf (.o (.sl))], [.leaf (.clo 83 [.p])], slices_Values_api_Edge_api_Edge⟩ := linked_of (fn := Tryz.f76) Tryz.func76 rfl (by kernel_rfl) [] [1] [] [] allNil (by kernel_rfl) (by kernel_rfl) (by kernel_rfl) (fun t Q => by kernel_rfl)
theorem edges_Normal_eq (edges_Normal_c1 : (Int × Int × (Option Addr)) → ((Bool) → HProp) → HProp) (edges_may : (Int) → ((Bool) → HProp) → HProp) (slices_ContainsFunc_api_Edge_api_Edge : (Sl × ((Int × Int) → ((Bool) → HProp) → HProp)) → ((Bool) → HProp) → HProp) (slices_Compact_api_Edge_api_Edge : (Sl) → ((Sl) → HProp) → HProp) (slices_SortedFunc_api_Edge : (((Option Addr)) × Unit) → ((Sl) → HProp) → HProp) (slices_Values_api_Edge_api_Edge : (Sl) → ((((Option Addr))) → HProp) → HProp) : (fun (t : Int × Sl) (Q : (Sl × Int) → HProp) => interpF ⟨Tryz.prog, [⟨70, [.agg [.o (.i .i64), .o (.i .i64)], .leaf (.o .p)], [.leaf (.o (.b))], edges_Normal_c1⟩, ⟨72, [.leaf (.o (.i .i64))], [.leaf (.o (.b))], edges_may⟩, ⟨73, [.leaf (.o (.sl)), .leaf (.fn [.agg [.i .i64, .i .i64]] [.leaf (.b)])], [.leaf (.o (.b))], slices_ContainsFunc_api_Edge_api_Edge⟩, ⟨74, [.leaf (.o (.sl))], [.leaf (.o (.sl))], slices_Compact_api_Edge_api_Edge⟩, ⟨75, [.leaf (.clo 83 [.p]), .leaf (.clo 77 [])], [.leaf (.o (.sl))], slices_SortedFunc_api_Edge⟩, ⟨76, [.leaf (.o (.sl))], [.leaf (.clo 83 [.p])], slices_Values_api_Edge_api_Edge⟩], [2], []⟩ Tryz.f59 [(6, ⟨[(16, .leaf (.o (.b)))], []⟩)] [.leaf (.o (.i .i64)), .leaf (.o (.sl))] [.leaf (.o (.sl)), .leaf (.o (.i .i64))] t Q : (Int × Sl) → ((Sl × Int) → HProp) → HProp) =
fun (t : Int × Sl) (Q : Sl × Int → HProp) =>
  newW [Value.int IntKind.i64 t.fst] fun (b : Nat) =>
    withK
      (fun (t_1 : Bool) =>
        iteW t_1 (Q (Sl.mk none 0 0, 2))
          (slices_Values_api_Edge_api_Edge t.snd fun (r : Option Addr) =>
            slices_SortedFunc_api_Edge (r, ()) fun (r : Sl) =>
              slices_Compact_api_Edge_api_Edge r fun (r : Sl) =>
                iteW (ltI 4096 ↑r.len) (Q (Sl.mk none 0 0, 3)) (Q (r, 0))))
      fun (k : Bool → HProp) =>
      loadI IntKind.i64 (Addr.mk b 0 none) fun (x : Int) =>
        edges_may x fun (r : Bool) =>
          iteW (!r) (k true)
            (slices_ContainsFunc_api_Edge_api_Edge
              (t.snd, fun (t : Int × Int) => edges_Normal_c1 (t.fst, t.snd, some (Addr.mk b 0 none))) k)
  := by kernel_rfl
theorem edges_Normal_linked : Linked Tryz.prog ⟨59, [.leaf (.o (.i .i64)), .leaf (.o (.sl))], [.leaf (.o (.sl)), .leaf (.o (.i .i64))], edges_Normal⟩ := linked_of (fn := Tryz.f59) Tryz.func59 rfl (by kernel_rfl) [⟨70, [.agg [.o (.i .i64), .o (.i .i64)], .leaf (.o .p)], [.leaf (.o (.b))], edges_Normal_c1⟩, ⟨72, [.leaf (.o (.i .i64))], [.leaf (.o (.b))], edges_may⟩, ⟨73, [.leaf (.o (.sl)), .leaf (.fn [.agg [.i .i64, .i .i64]] [.leaf (.b)])], [.leaf (.o (.b))], slices_ContainsFunc_api_Edge_api_Edge⟩, ⟨74, [.leaf (.o (.sl))], [.leaf (.o (.sl))], slices_Compact_api_Edge_api_Edge⟩, ⟨75, [.leaf (.clo 83 [.p]), .leaf (.clo 77 [])], [.leaf (.o (.sl))], slices_SortedFunc_api_Edge⟩, ⟨76, [.leaf (.o (.sl))], [.leaf (.clo 83 [.p])], slices_Values_api_Edge_api_Edge⟩] [2] [] [(6, ⟨[(16, .leaf (.o (.b)))], []⟩)] (allCons edges_Normal_c1_linked (allCons edges_may_linked (allCons slices_ContainsFunc_api_Edge_api_Edge_linked (allCons slices_Compact_api_Edge_api_Edge_linked (allCons slices_SortedFunc_api_Edge_linked (allCons slices_Values_api_Edge_api_Edge_linked allNil)))))) (by kernel_rfl) (by kernel_rfl) (by kernel_rfl) (fun t Q => congrFun (congrFun (edges_Normal_eq edges_Normal_c1 edges_may slices_ContainsFunc_api_Edge_api_Edge slices_Compact_api_Edge_api_Edge slices_SortedFunc_api_Edge slices_Values_api_Edge_api_Edge) t) Q)
theorem slices_Equal_api_Edge_api_Edge_linked : Linked Tryz.prog ⟨60, [.leaf (.o (.sl)), .leaf (.o (.sl))], [.leaf (.o (.b))], slices_Equal_api_Edge_api_Edge⟩ := linked_of (fn := Tryz.f60) Tryz.func60 rfl (by kernel_rfl) [] [] [(72, 2)] [(14, ⟨[(13, .leaf (.o (.i .i64)))], []⟩)] allNil (by kernel_rfl) (by kernel_rfl) (by kernel_rfl) (fun t Q => by kernel_rfl)
theorem truth_of_linked : Linked Tryz.prog ⟨61, [.leaf (.o (.i .i64)), .leaf (.o (.sl))], [.agg [.o (.i .i64), .o (.sl), .o (.sl)]], truth_of⟩ := linked_of (fn := Tryz.f61) Tryz.func61 rfl (by kernel_rfl) [] [5] [] [(3, ⟨[(5, .leaf (.o (.p)))], []⟩), (8, ⟨[(16, .leaf (.o (.i .i64)))], []⟩)] allNil (by kernel_rfl) (by kernel_rfl) (by kernel_rfl) (fun t Q => by kernel_rfl)
theorem math_bits_Mul64_linked : Linked Tryz.prog ⟨100, [.leaf (.o (.i .u64)), .leaf (.o (.i .u64))], [.leaf (.o (.i .u64)), .leaf (.o (.i .u64))], math_bits_Mul64⟩ := linked_of (fn := Tryz.f100) Tryz.func100 rfl (by kernel_rfl) [] [] [] [] allNil (by kernel_rfl) (by kernel_rfl) (by kernel_rfl) (fun t Q => by kernel_rfl)
theorem math_bits_Mul_eq (math_bits_Mul64 : (Int × Int) → ((Int × Int) → HProp) → HProp) : (fun (t : Int × Int) (Q : (Int × Int) → HProp) => interpF ⟨Tryz.prog, [⟨100, [.leaf (.o (.i .u64)), .leaf (.o (.i .u64))], [.leaf (.o (.i .u64)), .leaf (.o (.i .u64))], math_bits_Mul64⟩], [], []⟩ Tryz.f88 [] [.leaf (.o (.i .u64)), .leaf (.o (.i .u64))] [.leaf (.o (.i .u64)), .leaf (.o (.i .u64))] t Q : (Int × Int) → ((Int × Int) → HProp) → HProp) =
fun (t : Int × Int) (Q : Int × Int → HProp) => math_bits_Mul64 (t.fst, t.snd) fun (r : Int × Int) => Q (r.fst, r.snd)
  := by kernel_rfl
theorem math_bits_Mul_linked : Linked Tryz.prog ⟨88, [.leaf (.o (.i .u64)), .leaf (.o (.i .u64))], [.leaf (.o (.i .u64)), .leaf (.o (.i .u64))], math_bits_Mul⟩ := linked_of (fn := Tryz.f88) Tryz.func88 rfl (by kernel_rfl) [⟨100, [.leaf (.o (.i .u64)), .leaf (.o (.i .u64))], [.leaf (.o (.i .u64)), .leaf (.o (.i .u64))], math_bits_Mul64⟩] [] [] [] (allCons math_bits_Mul64_linked allNil) (by kernel_rfl) (by kernel_rfl) (by kernel_rfl) (fun t Q => congrFun (congrFun (math_bits_Mul_eq math_bits_Mul64) t) Q)
theorem slices_Repeat_uint64_uint64_eq (math_bits_Mul : (Int × Int) → ((Int × Int) → HProp) → HProp) : (fun (t : Sl × Int) (Q : (Sl) → HProp) => interpF ⟨Tryz.prog, [⟨88, [.leaf (.o (.i .u64)), .leaf (.o (.i .u64))], [.leaf (.o (.i .u64)), .leaf (.o (.i .u64))], math_bits_Mul⟩], [], []⟩ Tryz.f84 [(2, ⟨[], []⟩), (10, ⟨[], []⟩), (12, ⟨[(26, .leaf (.o (.b)))], []⟩), (22, ⟨[(8, .leaf (.o (.i .i64)))], []⟩)] [.leaf (.o (.sl)), .leaf (.o (.i .i64))] [.leaf (.o (.sl))] t Q : (Sl × Int) → ((Sl) → HProp) → HProp) =
fun (t : Sl × Int) (Q : Sl → HProp) =>
  withK
    (fun (t_1 : PUnit) =>
      math_bits_Mul (cnv IntKind.u64 ↑t.fst.len, cnv IntKind.u64 t.snd) fun (r : Int × Int) =>
        withK
          (fun (t_2 : PUnit) =>
            makeW (cnv IntKind.i64 r.snd) (cnv IntKind.i64 r.snd) [Value.int IntKind.u64 0] 8 fun (v : Sl) =>
              copyW v t.fst 1 fun (n : Int) =>
                loopW n fun (s : Int) (k : Int → HProp) =>
                  iteW (ltI s ↑v.len)
                    (sliceW v 1 s ↑v.len fun (u : Sl) =>
                      sliceW v 1 0 s fun (u_1 : Sl) => copyW u u_1 1 fun (n : Int) => k (add IntKind.i64 s n))
                    (Q v))
          fun (k : PUnit → HProp) =>
          withK (fun (t : Bool) => iteW t stuckW (k ())) fun (k : Bool → HProp) =>
            iteW (ltI 0 r.fst) (k true) (k (ltI 9223372036854775807 r.snd)))
    fun (k : PUnit → HProp) => iteW (ltI t.snd 0) stuckW (k ())
  := by kernel_rfl
theorem slices_Repeat_uint64_uint64_linked : Linked Tryz.prog ⟨84, [.leaf (.o (.sl)), .leaf (.o (.i .i64))], [.leaf (.o (.sl))], slices_Repeat_uint64_uint64⟩ := linked_of (fn := Tryz.f84) Tryz.func84 rfl (by kernel_rfl) [⟨88, [.leaf (.o (.i .u64)), .leaf (.o (.i .u64))], [.leaf (.o (.i .u64)), .leaf (.o (.i .u64))], math_bits_Mul⟩] [] [] [(2, ⟨[], []⟩), (10, ⟨[], []⟩), (12, ⟨[(26, .leaf (.o (.b)))], []⟩), (22, ⟨[(8, .leaf (.o (.i .i64)))], []⟩)] (allCons math_bits_Mul_linked allNil) (by kernel_rfl) (by kernel_rfl) (by kernel_rfl) (fun t Q => congrFun (congrFun (slices_Repeat_uint64_uint64_eq math_bits_Mul) t) Q)
theorem truth_fill_eq (slices_Repeat_uint64_uint64 : (Sl × Int) → ((Sl) → HProp) → HProp) : (fun (t : Int × Int) (Q : (Sl) → HProp) => interpF ⟨Tryz.prog, [⟨84, [.leaf (.o (.sl)), .leaf (.o (.i .i64))], [.leaf (.o (.sl))], slices_Repeat_uint64_uint64⟩], [6], []⟩ Tryz.f78 [] [.leaf (.o (.i .i64)), .leaf (.o (.i .u64))] [.leaf (.o (.sl))] t Q : (Int × Int) → ((Sl) → HProp) → HProp) =
fun (t : Int × Int) (Q : Sl → HProp) =>
  newW [Value.int IntKind.u64 t.snd] fun (b : Nat) =>
    slices_Repeat_uint64_uint64 (Sl.mk (some (Addr.mk b 0 none)) 1 1, t.fst) Q
  := by kernel_rfl
theorem truth_fill_linked : Linked Tryz.prog ⟨78, [.leaf (.o (.i .i64)), .leaf (.o (.i .u64))], [.leaf (.o (.sl))], truth_fill⟩ := linked_of (fn := Tryz.f78) Tryz.func78 rfl (by kernel_rfl) [⟨84, [.leaf (.o (.sl)), .leaf (.o (.i .i64))], [.leaf (.o (.sl))], slices_Repeat_uint64_uint64⟩] [6] [] [] (allCons slices_Repeat_uint64_uint64_linked allNil) (by kernel_rfl) (by kernel_rfl) (by kernel_rfl) (fun t Q => congrFun (congrFun (truth_fill_eq slices_Repeat_uint64_uint64) t) Q)
theorem truth_far_eq (truth_fill : (Int × Int) → ((Sl) → HProp) → HProp) : (fun (t : Sl × Int) (Q : (Sl) → HProp) => interpF ⟨Tryz.prog, [⟨78, [.leaf (.o (.i .i64)), .leaf (.o (.i .u64))], [.leaf (.o (.sl))], truth_fill⟩], [17], []⟩ Tryz.f62 [(10, ⟨[(6, .leaf (.o (.sl)))], []⟩), (24, ⟨[(6, .leaf (.o (.sl))), (31, .leaf (.o (.i .i64)))], []⟩), (32, ⟨[(6, .leaf (.o (.sl)))], []⟩)] [.leaf (.o (.sl)), .leaf (.o (.i .i64))] [.leaf (.o (.sl))] t Q : (Sl × Int) → ((Sl) → HProp) → HProp) =
fun (t : Sl × Int) (Q : Sl → HProp) =>
  truth_fill (↑t.fst.len, 18446744073709551615) fun (r : Sl) =>
    indexW t.snd r 1 fun (a : Addr) =>
      storeW a (Value.int IntKind.u64 0)
        (newW [Value.int IntKind.i64 t.snd] fun (b : Nat) =>
          loopW (Sl.mk (some (Addr.mk b 0 none)) 1 1) fun (s : Sl) (k : Sl → HProp) =>
            iteW (ltI 0 ↑s.len)
              (indexW 0 s 1 fun (a : Addr) =>
                loadI IntKind.i64 a fun (x : Int) =>
                  indexW x t.fst 1 fun (a : Addr) =>
                    loadL a fun (x_1 : Sl) =>
                      loopW (s, 0) fun (s : Sl × Int) (k_1 : Sl × Int → HProp) =>
                        iteW (ltI s.snd ↑x_1.len)
                          (withK (fun (t : Sl) => k_1 (t, add IntKind.i64 s.snd 1))
                            fun (k : Sl → HProp) =>
                            indexW s.snd x_1 1 fun (a : Addr) =>
                              loadI IntKind.i64 a fun (x_2 : Int) =>
                                indexW x_2 r 1 fun (a : Addr) =>
                                  loadI IntKind.u64 a fun (x_3 : Int) =>
                                    iteW (eqI x_3 18446744073709551615)
                                      (indexW x r 1 fun (a : Addr) =>
                                        loadI IntKind.u64 a fun (x : Int) =>
                                          indexW x_2 r 1 fun (a : Addr) =>
                                            storeW a (Value.int IntKind.u64 (add IntKind.u64 x 1))
                                              (appendW s.fst [Value.int IntKind.i64 0] 8 1 [Value.int IntKind.i64 x_2]
                                                k))
                                      (k s.fst))
                          (sliceW s.fst 1 1 (↑s.fst.len) k))
              (Q r))
  := by kernel_rfl
theorem truth_far_linked : Linked Tryz.prog ⟨62, [.leaf (.o (.sl)), .leaf (.o (.i .i64))], [.leaf (.o (.sl))], truth_far⟩ := linked_of (fn := Tryz.f62) Tryz.func62 rfl (by kernel_rfl) [⟨78, [.leaf (.o (.i .i64)), .leaf (.o (.i .u64))], [.leaf (.o (.sl))], truth_fill⟩] [17] [] [(10, ⟨[(6, .leaf (.o (.sl)))], []⟩), (24, ⟨[(6, .leaf (.o (.sl))), (31, .leaf (.o (.i .i64)))], []⟩), (32, ⟨[(6, .leaf (.o (.sl)))], []⟩)] (allCons truth_fill_linked allNil) (by kernel_rfl) (by kernel_rfl) (by kernel_rfl) (fun t Q => congrFun (congrFun (truth_far_eq truth_fill) t) Q)
theorem truth_greatest_linked : Linked Tryz.prog ⟨63, [.leaf (.o (.sl))], [.leaf (.o (.i .i64))], truth_greatest⟩ := linked_of (fn := Tryz.f63) Tryz.func63 rfl (by kernel_rfl) [] [] [] [(8, ⟨[(3, .leaf (.o (.i .u64))), (8, .leaf (.o (.i .i64)))], []⟩), (16, ⟨[(3, .leaf (.o (.i .u64)))], []⟩)] allNil (by kernel_rfl) (by kernel_rfl) (by kernel_rfl) (fun t Q => by kernel_rfl)
theorem truth_graph_rank_eq (truth_fill : (Int × Int) → ((Sl) → HProp) → HProp) : (fun (t : Int × Sl × Sl × Int) (Q : (Sl) → HProp) => interpF ⟨Tryz.prog, [⟨78, [.leaf (.o (.i .i64)), .leaf (.o (.i .u64))], [.leaf (.o (.sl))], truth_fill⟩], [], []⟩ Tryz.f64 [(8, ⟨[(17, .leaf (.o (.i .i64)))], []⟩), (23, ⟨[(25, .leaf (.o (.i .i64)))], []⟩), (37, ⟨[(32, .leaf (.o (.i .i64)))], []⟩), (54, ⟨[(54, .leaf (.o (.i .i64)))], []⟩)] [.agg [.o (.i .i64), .o (.sl), .o (.sl)], .leaf (.o (.i .i64))] [.leaf (.o (.sl))] t Q : (Int × Sl × Sl × Int) → ((Sl) → HProp) → HProp) =
fun (t : Int × Sl × Sl × Int) (Q : Sl → HProp) =>
  truth_fill (t.fst, 4294967296) fun (r : Sl) =>
    loopW 0 fun (s : Int) (k : Int → HProp) =>
      iteW (ltI s t.snd.snd.snd)
        (truth_fill (t.fst, 0) fun (r_1 : Sl) =>
          loopW 0 fun (s_1 : Int) (k_1 : Int → HProp) =>
            iteW (ltI s_1 ↑t.snd.fst.len)
              (indexW s_1 t.snd.fst 1 fun (a : Addr) =>
                loadL a fun (x : Sl) =>
                  loopW 0 fun (s : Int) (k : Int → HProp) =>
                    iteW (ltI s ↑x.len)
                      (indexW s x 1 fun (a : Addr) =>
                        loadI IntKind.i64 a fun (x_1 : Int) =>
                          indexW x_1 r_1 1 fun (a : Addr) =>
                            loadI IntKind.u64 a fun (x_2 : Int) =>
                              indexW s_1 r 1 fun (a : Addr) =>
                                loadI IntKind.u64 a fun (x_3 : Int) =>
                                  mustW ((cnv IntKind.u64 ↑x.len : Int) ≠ 0)
                                    (indexW x_1 r_1 1 fun (a : Addr) =>
                                      storeW a
                                        (Value.int IntKind.u64
                                          (add IntKind.u64 x_2 (quo IntKind.u64 x_3 (cnv IntKind.u64 ↑x.len))))
                                        (k (add IntKind.i64 s 1))))
                      (k_1 (add IntKind.i64 s_1 1)))
              (loopW 0 fun (s_2 : Int) (k_2 : Int → HProp) =>
                iteW (ltI s_2 ↑r_1.len)
                  (indexW s_2 r_1 1 fun (a : Addr) =>
                    loadI IntKind.u64 a fun (x : Int) =>
                      mustW ((1000 : Int) ≠ 0)
                        (indexW s_2 r 1 fun (a : Addr) =>
                          storeW a
                            (Value.int IntKind.u64
                              (add IntKind.u64 644245094 (quo IntKind.u64 (mul IntKind.u64 x 850) 1000)))
                            (k_2 (add IntKind.i64 s_2 1))))
                  (k (add IntKind.i64 s 1))))
        (Q r)
  := by kernel_rfl
theorem truth_graph_rank_linked : Linked Tryz.prog ⟨64, [.agg [.o (.i .i64), .o (.sl), .o (.sl)], .leaf (.o (.i .i64))], [.leaf (.o (.sl))], truth_graph_rank⟩ := linked_of (fn := Tryz.f64) Tryz.func64 rfl (by kernel_rfl) [⟨78, [.leaf (.o (.i .i64)), .leaf (.o (.i .u64))], [.leaf (.o (.sl))], truth_fill⟩] [] [] [(8, ⟨[(17, .leaf (.o (.i .i64)))], []⟩), (23, ⟨[(25, .leaf (.o (.i .i64)))], []⟩), (37, ⟨[(32, .leaf (.o (.i .i64)))], []⟩), (54, ⟨[(54, .leaf (.o (.i .i64)))], []⟩)] (allCons truth_fill_linked allNil) (by kernel_rfl) (by kernel_rfl) (by kernel_rfl) (fun t Q => congrFun (congrFun (truth_graph_rank_eq truth_fill) t) Q)
theorem truth_graph_labels_eq (truth_far : (Sl × Int) → ((Sl) → HProp) → HProp) (truth_greatest : (Sl) → ((Int) → HProp) → HProp) (truth_fill : (Int × Int) → ((Sl) → HProp) → HProp) : (fun (t : Int × Sl × Sl) (Q : (Sl × Int) → HProp) => interpF ⟨Tryz.prog, [⟨62, [.leaf (.o (.sl)), .leaf (.o (.i .i64))], [.leaf (.o (.sl))], truth_far⟩, ⟨63, [.leaf (.o (.sl))], [.leaf (.o (.i .i64))], truth_greatest⟩, ⟨78, [.leaf (.o (.i .i64)), .leaf (.o (.i .u64))], [.leaf (.o (.sl))], truth_fill⟩], [], []⟩ Tryz.f65 [(8, ⟨[(5, .leaf (.o (.i .i64))), (15, .leaf (.o (.i .i64)))], []⟩), (16, ⟨[(5, .leaf (.o (.i .i64)))], []⟩), (31, ⟨[(29, .leaf (.o (.i .i64)))], []⟩), (39, ⟨[], []⟩)] [.agg [.o (.i .i64), .o (.sl), .o (.sl)]] [.leaf (.o (.sl)), .leaf (.o (.i .i64))] t Q : (Int × Sl × Sl) → ((Sl × Int) → HProp) → HProp) =
fun (t : Int × Sl × Sl) (Q : Sl × Int → HProp) =>
  truth_fill (t.fst, 18446744073709551615) fun (r : Sl) =>
    loopW (0, 0) fun (s : Int × Int) (k : Int × Int → HProp) =>
      iteW (ltI s.snd t.fst)
        (withK (fun (t : Int) => k (t, add IntKind.i64 s.snd 1)) fun (k : Int → HProp) =>
          indexW s.snd r 1 fun (a : Addr) =>
            loadI IntKind.u64 a fun (x : Int) =>
              iteW (!eqI x 18446744073709551615) (k s.fst)
                (truth_far (t.snd.snd, s.snd) fun (r_1 : Sl) =>
                  loopW 0 fun (s_1 : Int) (k_1 : Int → HProp) =>
                    iteW (ltI s_1 ↑r_1.len)
                      (withK (fun (t : PUnit) => k_1 (add IntKind.i64 s_1 1))
                        fun (k : PUnit → HProp) =>
                        indexW s_1 r_1 1 fun (a : Addr) =>
                          loadI IntKind.u64 a fun (x : Int) =>
                            iteW (!eqI x 18446744073709551615)
                              (indexW s_1 r 1 fun (a : Addr) =>
                                storeW a (Value.int IntKind.u64 (cnv IntKind.u64 s.snd)) (k ()))
                              (k ()))
                      (truth_greatest r_1 fun (r : Int) => k (maxI s.fst r))))
        (Q (r, s.fst))
  := by kernel_rfl
theorem truth_graph_labels_linked : Linked Tryz.prog ⟨65, [.agg [.o (.i .i64), .o (.sl), .o (.sl)]], [.leaf (.o (.sl)), .leaf (.o (.i .i64))], truth_graph_labels⟩ := linked_of (fn := Tryz.f65) Tryz.func65 rfl (by kernel_rfl) [⟨62, [.leaf (.o (.sl)), .leaf (.o (.i .i64))], [.leaf (.o (.sl))], truth_far⟩, ⟨63, [.leaf (.o (.sl))], [.leaf (.o (.i .i64))], truth_greatest⟩, ⟨78, [.leaf (.o (.i .i64)), .leaf (.o (.i .u64))], [.leaf (.o (.sl))], truth_fill⟩] [] [] [(8, ⟨[(5, .leaf (.o (.i .i64))), (15, .leaf (.o (.i .i64)))], []⟩), (16, ⟨[(5, .leaf (.o (.i .i64)))], []⟩), (31, ⟨[(29, .leaf (.o (.i .i64)))], []⟩), (39, ⟨[], []⟩)] (allCons truth_far_linked (allCons truth_greatest_linked (allCons truth_fill_linked allNil))) (by kernel_rfl) (by kernel_rfl) (by kernel_rfl) (fun t Q => congrFun (congrFun (truth_graph_labels_eq truth_far truth_greatest truth_fill) t) Q)
theorem truth_graph_cores_eq (truth_fill : (Int × Int) → ((Sl) → HProp) → HProp) : (fun (t : Int × Sl × Sl × Int) (Q : (Sl × Int) → HProp) => interpF ⟨Tryz.prog, [⟨78, [.leaf (.o (.i .i64)), .leaf (.o (.i .u64))], [.leaf (.o (.sl))], truth_fill⟩], [], []⟩ Tryz.f66 [(5, ⟨[(7, .leaf (.o (.i .i64)))], []⟩), (13, ⟨[(8, .leaf (.o (.sl))), (20, .leaf (.o (.i .i64)))], []⟩), (21, ⟨[(8, .leaf (.o (.sl)))], []⟩), (30, ⟨[(10, .leaf (.o (.i .i64))), (29, .leaf (.o (.i .i64)))], []⟩), (44, ⟨[(50, .leaf (.o (.b)))], []⟩), (61, ⟨[(63, .leaf (.o (.i .i64)))], []⟩)] [.agg [.o (.i .i64), .o (.sl), .o (.sl)], .leaf (.o (.i .i64))] [.leaf (.o (.sl)), .leaf (.o (.i .i64))] t Q : (Int × Sl × Sl × Int) → ((Sl × Int) → HProp) → HProp) =
fun (t : Int × Sl × Sl × Int) (Q : Sl × Int → HProp) =>
  truth_fill (t.fst, 1) fun (r : Sl) =>
    loopW 0 fun (s : Int) (k : Int → HProp) =>
      loopW (Sl.mk none 0 0, 0) fun (s_1 : Sl × Int) (k_1 : Sl × Int → HProp) =>
        iteW (ltI s_1.snd t.fst)
          (withK (fun (t : Sl) => k_1 (t, add IntKind.i64 s_1.snd 1)) fun (k : Sl → HProp) =>
            indexW s_1.snd t.snd.snd.fst 1 fun (a : Addr) =>
              loadL a fun (x : Sl) =>
                loopW (0, 0) fun (s : Int × Int) (k_2 : Int × Int → HProp) =>
                  iteW (ltI s.snd ↑x.len)
                    (indexW s.snd x 1 fun (a : Addr) =>
                      loadI IntKind.i64 a fun (x : Int) =>
                        indexW x r 1 fun (a : Addr) =>
                          loadI IntKind.u64 a fun (x : Int) =>
                            k_2 (add IntKind.i64 s.fst (cnv IntKind.i64 x), add IntKind.i64 s.snd 1))
                    (withK
                      (fun (t : Bool) =>
                        iteW t (appendW s_1.fst [Value.int IntKind.i64 0] 8 1 [Value.int IntKind.i64 s_1.snd] k)
                          (k s_1.fst))
                      fun (k : Bool → HProp) =>
                      indexW s_1.snd r 1 fun (a : Addr) =>
                        loadI IntKind.u64 a fun (x : Int) => iteW (eqI x 1) (k (ltI s.fst t.snd.snd.snd)) (k false)))
          (iteW (eqI (↑s_1.fst.len) 0) (Q (r, s))
            (loopW 0 fun (s_2 : Int) (k_2 : Int → HProp) =>
              iteW (ltI s_2 ↑s_1.fst.len)
                (indexW s_2 s_1.fst 1 fun (a : Addr) =>
                  loadI IntKind.i64 a fun (x : Int) =>
                    indexW x r 1 fun (a : Addr) => storeW a (Value.int IntKind.u64 0) (k_2 (add IntKind.i64 s_2 1)))
                (k (add IntKind.i64 s 1))))
  := by kernel_rfl
theorem truth_graph_cores_linked : Linked Tryz.prog ⟨66, [.agg [.o (.i .i64), .o (.sl), .o (.sl)], .leaf (.o (.i .i64))], [.leaf (.o (.sl)), .leaf (.o (.i .i64))], truth_graph_cores⟩ := linked_of (fn := Tryz.f66) Tryz.func66 rfl (by kernel_rfl) [⟨78, [.leaf (.o (.i .i64)), .leaf (.o (.i .u64))], [.leaf (.o (.sl))], truth_fill⟩] [] [] [(5, ⟨[(7, .leaf (.o (.i .i64)))], []⟩), (13, ⟨[(8, .leaf (.o (.sl))), (20, .leaf (.o (.i .i64)))], []⟩), (21, ⟨[(8, .leaf (.o (.sl)))], []⟩), (30, ⟨[(10, .leaf (.o (.i .i64))), (29, .leaf (.o (.i .i64)))], []⟩), (44, ⟨[(50, .leaf (.o (.b)))], []⟩), (61, ⟨[(63, .leaf (.o (.i .i64)))], []⟩)] (allCons truth_fill_linked allNil) (by kernel_rfl) (by kernel_rfl) (by kernel_rfl) (fun t Q => congrFun (congrFun (truth_graph_cores_eq truth_fill) t) Q)
theorem truth_run_eq (truth_Check : (Int × Int × Int × Int × Int) → ((Int) → HProp) → HProp) (edges_Normal : (Int × Sl) → ((Sl × Int) → HProp) → HProp) (slices_Equal_api_Edge_api_Edge : (Sl × Sl) → ((Bool) → HProp) → HProp) (truth_of : (Int × Sl) → ((Int × Sl × Sl) → HProp) → HProp) (truth_far : (Sl × Int) → ((Sl) → HProp) → HProp) (truth_greatest : (Sl) → ((Int) → HProp) → HProp) (truth_graph_rank : (Int × Sl × Sl × Int) → ((Sl) → HProp) → HProp) (truth_graph_labels : (Int × Sl × Sl) → ((Sl × Int) → HProp) → HProp) (truth_graph_cores : (Int × Sl × Sl × Int) → ((Sl × Int) → HProp) → HProp) : (fun (t : Int × Sl × Int × Int × Int × Int) (Q : (Sl × Int × Int) → HProp) => interpF ⟨Tryz.prog, [⟨35, [.agg [.o (.i .i64), .o (.i .i64), .o (.i .i64), .o (.i .i64)], .leaf (.o (.i .i64))], [.leaf (.o (.i .i64))], truth_Check⟩, ⟨59, [.leaf (.o (.i .i64)), .leaf (.o (.sl))], [.leaf (.o (.sl)), .leaf (.o (.i .i64))], edges_Normal⟩, ⟨60, [.leaf (.o (.sl)), .leaf (.o (.sl))], [.leaf (.o (.b))], slices_Equal_api_Edge_api_Edge⟩, ⟨61, [.leaf (.o (.i .i64)), .leaf (.o (.sl))], [.agg [.o (.i .i64), .o (.sl), .o (.sl)]], truth_of⟩, ⟨62, [.leaf (.o (.sl)), .leaf (.o (.i .i64))], [.leaf (.o (.sl))], truth_far⟩, ⟨63, [.leaf (.o (.sl))], [.leaf (.o (.i .i64))], truth_greatest⟩, ⟨64, [.agg [.o (.i .i64), .o (.sl), .o (.sl)], .leaf (.o (.i .i64))], [.leaf (.o (.sl))], truth_graph_rank⟩, ⟨65, [.agg [.o (.i .i64), .o (.sl), .o (.sl)]], [.leaf (.o (.sl)), .leaf (.o (.i .i64))], truth_graph_labels⟩, ⟨66, [.agg [.o (.i .i64), .o (.sl), .o (.sl)], .leaf (.o (.i .i64))], [.leaf (.o (.sl)), .leaf (.o (.i .i64))], truth_graph_cores⟩], [], []⟩ Tryz.f51 [(4, ⟨[(10, .leaf (.o (.i .i64)))], []⟩), (6, ⟨[(30, .leaf (.o (.b)))], []⟩), (10, ⟨[(10, .leaf (.o (.i .i64)))], []⟩)] [.leaf (.o (.i .i64)), .leaf (.o (.sl)), .agg [.o (.i .i64), .o (.i .i64), .o (.i .i64), .o (.i .i64)]] [.leaf (.o (.sl)), .leaf (.o (.i .i64)), .leaf (.o (.i .i64))] t Q : (Int × Sl × Int × Int × Int × Int) → ((Sl × Int × Int) → HProp) → HProp) =
fun (t : Int × Sl × Int × Int × Int × Int) (Q : Sl × Int × Int → HProp) =>
  edges_Normal (t.fst, t.snd.fst) fun (r : Sl × Int) =>
    withK
      (fun (t_1 : Int) =>
        withK
          (fun (t_2 : Int) =>
            iteW (!eqI t_2 0) (Q (Sl.mk none 0 0, 0, t_2))
              (truth_of (t.fst, t.snd.fst) fun (r : Int × Sl × Sl) =>
                iteW (eqI t.snd.snd.fst 1)
                  (truth_far (r.snd.fst, t.snd.snd.snd.fst) fun (r : Sl) =>
                    truth_greatest r fun (r_1 : Int) => Q (r, add IntKind.i64 r_1 1, 0))
                  (iteW (eqI t.snd.snd.fst 2)
                    (truth_graph_rank (r.fst, r.snd.fst, r.snd.snd, t.snd.snd.snd.fst) fun (r : Sl) =>
                      Q (r, t.snd.snd.snd.fst, 0))
                    (iteW (eqI t.snd.snd.fst 3)
                      (truth_graph_labels (r.fst, r.snd.fst, r.snd.snd) fun (r : Sl × Int) =>
                        Q (r.fst, add IntKind.i64 r.snd 1, 0))
                      (truth_graph_cores (r.fst, r.snd.fst, r.snd.snd, t.snd.snd.snd.fst) fun (r : Sl × Int) =>
                        Q (r.fst, add IntKind.i64 r.snd 1, 0))))))
          fun (k : Int → HProp) =>
          iteW (eqI t_1 0)
            (truth_Check (t.snd.snd.fst, t.snd.snd.snd.fst, t.snd.snd.snd.snd.fst, t.snd.snd.snd.snd.snd, t.fst) k)
            (k t_1))
      fun (k : Int → HProp) =>
      withK (fun (t : Bool) => iteW t (k 2) (k r.snd)) fun (k : Bool → HProp) =>
        iteW (eqI r.snd 0) (slices_Equal_api_Edge_api_Edge (t.snd.fst, r.fst) fun (r : Bool) => k !r) (k false)
  := by kernel_rfl
theorem truth_run_linked : Linked Tryz.prog ⟨51, [.leaf (.o (.i .i64)), .leaf (.o (.sl)), .agg [.o (.i .i64), .o (.i .i64), .o (.i .i64), .o (.i .i64)]], [.leaf (.o (.sl)), .leaf (.o (.i .i64)), .leaf (.o (.i .i64))], truth_run⟩ := linked_of (fn := Tryz.f51) Tryz.func51 rfl (by kernel_rfl) [⟨35, [.agg [.o (.i .i64), .o (.i .i64), .o (.i .i64), .o (.i .i64)], .leaf (.o (.i .i64))], [.leaf (.o (.i .i64))], truth_Check⟩, ⟨59, [.leaf (.o (.i .i64)), .leaf (.o (.sl))], [.leaf (.o (.sl)), .leaf (.o (.i .i64))], edges_Normal⟩, ⟨60, [.leaf (.o (.sl)), .leaf (.o (.sl))], [.leaf (.o (.b))], slices_Equal_api_Edge_api_Edge⟩, ⟨61, [.leaf (.o (.i .i64)), .leaf (.o (.sl))], [.agg [.o (.i .i64), .o (.sl), .o (.sl)]], truth_of⟩, ⟨62, [.leaf (.o (.sl)), .leaf (.o (.i .i64))], [.leaf (.o (.sl))], truth_far⟩, ⟨63, [.leaf (.o (.sl))], [.leaf (.o (.i .i64))], truth_greatest⟩, ⟨64, [.agg [.o (.i .i64), .o (.sl), .o (.sl)], .leaf (.o (.i .i64))], [.leaf (.o (.sl))], truth_graph_rank⟩, ⟨65, [.agg [.o (.i .i64), .o (.sl), .o (.sl)]], [.leaf (.o (.sl)), .leaf (.o (.i .i64))], truth_graph_labels⟩, ⟨66, [.agg [.o (.i .i64), .o (.sl), .o (.sl)], .leaf (.o (.i .i64))], [.leaf (.o (.sl)), .leaf (.o (.i .i64))], truth_graph_cores⟩] [] [] [(4, ⟨[(10, .leaf (.o (.i .i64)))], []⟩), (6, ⟨[(30, .leaf (.o (.b)))], []⟩), (10, ⟨[(10, .leaf (.o (.i .i64)))], []⟩)] (allCons truth_Check_linked (allCons edges_Normal_linked (allCons slices_Equal_api_Edge_api_Edge_linked (allCons truth_of_linked (allCons truth_far_linked (allCons truth_greatest_linked (allCons truth_graph_rank_linked (allCons truth_graph_labels_linked (allCons truth_graph_cores_linked allNil))))))))) (by kernel_rfl) (by kernel_rfl) (by kernel_rfl) (fun t Q => congrFun (congrFun (truth_run_eq truth_Check edges_Normal slices_Equal_api_Edge_api_Edge truth_of truth_far truth_greatest truth_graph_rank truth_graph_labels truth_graph_cores) t) Q)
theorem truth_Of_eq (truth_run : (Int × Sl × Int × Int × Int × Int) → ((Sl × Int × Int) → HProp) → HProp) : (fun (t : Int × Sl × Int × Int × Int × Int) (Q : (Sl × Int) → HProp) => interpF ⟨Tryz.prog, [⟨51, [.leaf (.o (.i .i64)), .leaf (.o (.sl)), .agg [.o (.i .i64), .o (.i .i64), .o (.i .i64), .o (.i .i64)]], [.leaf (.o (.sl)), .leaf (.o (.i .i64)), .leaf (.o (.i .i64))], truth_run⟩], [], []⟩ Tryz.f29 [] [.leaf (.o (.i .i64)), .leaf (.o (.sl)), .agg [.o (.i .i64), .o (.i .i64), .o (.i .i64), .o (.i .i64)]] [.leaf (.o (.sl)), .leaf (.o (.i .i64))] t Q : (Int × Sl × Int × Int × Int × Int) → ((Sl × Int) → HProp) → HProp) =
fun (t : Int × Sl × Int × Int × Int × Int) (Q : Sl × Int → HProp) =>
  truth_run (t.fst, t.snd.fst, t.snd.snd.fst, t.snd.snd.snd.fst, t.snd.snd.snd.snd.fst, t.snd.snd.snd.snd.snd)
    fun (r : Sl × Int × Int) => Q (r.fst, r.snd.snd)
  := by kernel_rfl
theorem truth_Of_linked : Linked Tryz.prog ⟨29, [.leaf (.o (.i .i64)), .leaf (.o (.sl)), .agg [.o (.i .i64), .o (.i .i64), .o (.i .i64), .o (.i .i64)]], [.leaf (.o (.sl)), .leaf (.o (.i .i64))], truth_Of⟩ := linked_of (fn := Tryz.f29) Tryz.func29 rfl (by kernel_rfl) [⟨51, [.leaf (.o (.i .i64)), .leaf (.o (.sl)), .agg [.o (.i .i64), .o (.i .i64), .o (.i .i64), .o (.i .i64)]], [.leaf (.o (.sl)), .leaf (.o (.i .i64)), .leaf (.o (.i .i64))], truth_run⟩] [] [] [] (allCons truth_run_linked allNil) (by kernel_rfl) (by kernel_rfl) (by kernel_rfl) (fun t Q => congrFun (congrFun (truth_Of_eq truth_run) t) Q)
theorem parts_Cut_linked : Linked Tryz.prog ⟨30, [.leaf (.o (.i .i64)), .leaf (.o (.i .i64))], [.leaf (.o (.sl)), .leaf (.o (.i .i64))], parts_Cut⟩ := linked_of (fn := Tryz.f30) Tryz.func30 rfl (by kernel_rfl) [] [] [] [(4, ⟨[(23, .leaf (.o (.b)))], []⟩), (16, ⟨[(28, .leaf (.o (.i .i64)))], []⟩)] allNil (by kernel_rfl) (by kernel_rfl) (by kernel_rfl) (fun t Q => by kernel_rfl)
theorem slices_Clone_api_Edge_api_Edge_linked : Linked Tryz.prog ⟨31, [.leaf (.o (.sl))], [.leaf (.o (.sl))], slices_Clone_api_Edge_api_Edge⟩ := linked_of (fn := Tryz.f31) Tryz.func31 rfl (by kernel_rfl) [] [5] [] [] allNil (by kernel_rfl) (by kernel_rfl) (by kernel_rfl) (fun t Q => by kernel_rfl)
theorem table_New_eq (truth_Of : (Int × Sl × Int × Int × Int × Int) → ((Sl × Int) → HProp) → HProp) (parts_Cut : (Int × Int) → ((Sl × Int) → HProp) → HProp) (slices_Clone_api_Edge_api_Edge : (Sl) → ((Sl) → HProp) → HProp) : (fun (t : Int × Sl × Int × Int) (Q : ((Option Addr) × Int) → HProp) => interpF ⟨Tryz.prog, [⟨29, [.leaf (.o (.i .i64)), .leaf (.o (.sl)), .agg [.o (.i .i64), .o (.i .i64), .o (.i .i64), .o (.i .i64)]], [.leaf (.o (.sl)), .leaf (.o (.i .i64))], truth_Of⟩, ⟨30, [.leaf (.o (.i .i64)), .leaf (.o (.i .i64))], [.leaf (.o (.sl)), .leaf (.o (.i .i64))], parts_Cut⟩, ⟨31, [.leaf (.o (.sl))], [.leaf (.o (.sl))], slices_Clone_api_Edge_api_Edge⟩], [45], []⟩ Tryz.f7 [(24, ⟨[(38, .leaf (.o (.b)))], []⟩)] [.leaf (.o (.i .i64)), .leaf (.o (.sl)), .leaf (.o (.i .i64)), .leaf (.o (.i .i64))] [.leaf (.o (.p)), .leaf (.o (.i .i64))] t Q : (Int × Sl × Int × Int) → (((Option Addr) × Int) → HProp) → HProp) =
fun (t : Int × Sl × Int × Int) (Q : Option Addr × Int → HProp) =>
  truth_Of (t.fst, t.snd.fst, 3, 0, 0, 0) fun (r : Sl × Int) =>
    iteW (!eqI r.snd 0) (Q (none, r.snd))
      (parts_Cut (t.fst, t.snd.snd.fst) fun (r : Sl × Int) =>
        iteW (!eqI r.snd 0) (Q (none, r.snd))
          (withK
            (fun (t_1 : Bool) =>
              iteW t_1 (Q (none, 2))
                (slices_Clone_api_Edge_api_Edge t.snd.fst fun (r : Sl) =>
                  newW
                    [Value.int IntKind.i64 t.fst, Value.int IntKind.i64 t.snd.snd.fst,
                      Value.int IntKind.i64 t.snd.snd.snd, Value.slice r.a r.len r.cap, Value.int IntKind.i64 (-1),
                      Value.slice (Sl.mk none 0 0).a 0 0]
                    fun (b : Nat) => Q (some (Addr.mk b 0 none), 0)))
            fun (k : Bool → HProp) =>
            iteW (ltI t.snd.snd.snd 1) (k true) (k (ltI 1099511627776 t.snd.snd.snd))))
  := by kernel_rfl
theorem table_New_linked : Linked Tryz.prog ⟨7, [.leaf (.o (.i .i64)), .leaf (.o (.sl)), .leaf (.o (.i .i64)), .leaf (.o (.i .i64))], [.leaf (.o (.p)), .leaf (.o (.i .i64))], table_New⟩ := linked_of (fn := Tryz.f7) Tryz.func7 rfl (by kernel_rfl) [⟨29, [.leaf (.o (.i .i64)), .leaf (.o (.sl)), .agg [.o (.i .i64), .o (.i .i64), .o (.i .i64), .o (.i .i64)]], [.leaf (.o (.sl)), .leaf (.o (.i .i64))], truth_Of⟩, ⟨30, [.leaf (.o (.i .i64)), .leaf (.o (.i .i64))], [.leaf (.o (.sl)), .leaf (.o (.i .i64))], parts_Cut⟩, ⟨31, [.leaf (.o (.sl))], [.leaf (.o (.sl))], slices_Clone_api_Edge_api_Edge⟩] [45] [] [(24, ⟨[(38, .leaf (.o (.b)))], []⟩)] (allCons truth_Of_linked (allCons parts_Cut_linked (allCons slices_Clone_api_Edge_api_Edge_linked allNil))) (by kernel_rfl) (by kernel_rfl) (by kernel_rfl) (fun t Q => congrFun (congrFun (table_New_eq truth_Of parts_Cut slices_Clone_api_Edge_api_Edge) t) Q)
theorem table_Table_none_linked : Linked Tryz.prog ⟨34, [.leaf (.o (.p))], [.leaf (.o (.b))], table_Table_none⟩ := linked_of (fn := Tryz.f34) Tryz.func34 rfl (by kernel_rfl) [] [] [] [(3, ⟨[(2, .leaf (.o (.b)))], []⟩)] allNil (by kernel_rfl) (by kernel_rfl) (by kernel_rfl) (fun t Q => by kernel_rfl)
theorem table_Table_those_linked : Linked Tryz.prog ⟨36, [.leaf (.o (.p)), .leaf (.fn [.agg [.i .i64, .i .i64, .i .i64, .i .i64, .i .i64, .i .i64, .i .i64, .i .i64, .i .i64, .i .i64, .b, .b, .sl]] [.leaf (.b)])], [.leaf (.o (.sl))], table_Table_those⟩ := linked_of (fn := Tryz.f36) Tryz.func36 rfl (by kernel_rfl) [] [] [] [(8, ⟨[(5, .leaf (.o (.sl))), (13, .leaf (.o (.i .i64)))], []⟩), (16, ⟨[(5, .leaf (.o (.sl)))], []⟩)] allNil (by kernel_rfl) (by kernel_rfl) (by kernel_rfl) (fun t Q => by kernel_rfl)
theorem table_queued_linked : Linked Tryz.prog ⟨37, [.agg [.o (.i .i64), .o (.i .i64), .o (.i .i64), .o (.i .i64), .o (.i .i64), .o (.i .i64), .o (.i .i64), .o (.i .i64), .o (.i .i64), .o (.i .i64), .o (.b), .o (.b), .o (.sl)]], [.leaf (.o (.b))], table_queued⟩ := linked_of (fn := Tryz.f37) Tryz.func37 rfl (by kernel_rfl) [] [] [] [] allNil (by kernel_rfl) (by kernel_rfl) (by kernel_rfl) (fun t Q => by kernel_rfl)
theorem truth_Rounds_eq (truth_run : (Int × Sl × Int × Int × Int × Int) → ((Sl × Int × Int) → HProp) → HProp) : (fun (t : Int × Sl × Int × Int × Int × Int) (Q : (Int × Int) → HProp) => interpF ⟨Tryz.prog, [⟨51, [.leaf (.o (.i .i64)), .leaf (.o (.sl)), .agg [.o (.i .i64), .o (.i .i64), .o (.i .i64), .o (.i .i64)]], [.leaf (.o (.sl)), .leaf (.o (.i .i64)), .leaf (.o (.i .i64))], truth_run⟩], [], []⟩ Tryz.f38 [] [.leaf (.o (.i .i64)), .leaf (.o (.sl)), .agg [.o (.i .i64), .o (.i .i64), .o (.i .i64), .o (.i .i64)]] [.leaf (.o (.i .i64)), .leaf (.o (.i .i64))] t Q : (Int × Sl × Int × Int × Int × Int) → ((Int × Int) → HProp) → HProp) =
fun (t : Int × Sl × Int × Int × Int × Int) (Q : Int × Int → HProp) =>
  truth_run (t.fst, t.snd.fst, t.snd.snd.fst, t.snd.snd.snd.fst, t.snd.snd.snd.snd.fst, t.snd.snd.snd.snd.snd)
    fun (r : Sl × Int × Int) => Q (r.snd.fst, r.snd.snd)
  := by kernel_rfl
theorem truth_Rounds_linked : Linked Tryz.prog ⟨38, [.leaf (.o (.i .i64)), .leaf (.o (.sl)), .agg [.o (.i .i64), .o (.i .i64), .o (.i .i64), .o (.i .i64)]], [.leaf (.o (.i .i64)), .leaf (.o (.i .i64))], truth_Rounds⟩ := linked_of (fn := Tryz.f38) Tryz.func38 rfl (by kernel_rfl) [⟨51, [.leaf (.o (.i .i64)), .leaf (.o (.sl)), .agg [.o (.i .i64), .o (.i .i64), .o (.i .i64), .o (.i .i64)]], [.leaf (.o (.sl)), .leaf (.o (.i .i64)), .leaf (.o (.i .i64))], truth_run⟩] [] [] [] (allCons truth_run_linked allNil) (by kernel_rfl) (by kernel_rfl) (by kernel_rfl) (fun t Q => congrFun (congrFun (truth_Rounds_eq truth_run) t) Q)
theorem table_Table_Submit_eq (table_Table_none : ((Option Addr)) → ((Bool) → HProp) → HProp) (truth_Check : (Int × Int × Int × Int × Int) → ((Int) → HProp) → HProp) (table_Table_those : ((Option Addr) × ((Int × Int × Int × Int × Int × Int × Int × Int × Int × Int × Bool × Bool × Sl) → ((Bool) → HProp) → HProp)) → ((Sl) → HProp) → HProp) (table_queued : (Int × Int × Int × Int × Int × Int × Int × Int × Int × Int × Bool × Bool × Sl) → ((Bool) → HProp) → HProp) (truth_Rounds : (Int × Sl × Int × Int × Int × Int) → ((Int × Int) → HProp) → HProp) : (fun (t : (Option Addr) × Int × Int × Int × Int) (Q : (Int × Int) → HProp) => interpF ⟨Tryz.prog, [⟨34, [.leaf (.o (.p))], [.leaf (.o (.b))], table_Table_none⟩, ⟨35, [.agg [.o (.i .i64), .o (.i .i64), .o (.i .i64), .o (.i .i64)], .leaf (.o (.i .i64))], [.leaf (.o (.i .i64))], truth_Check⟩, ⟨36, [.leaf (.o (.p)), .leaf (.fn [.agg [.i .i64, .i .i64, .i .i64, .i .i64, .i .i64, .i .i64, .i .i64, .i .i64, .i .i64, .i .i64, .b, .b, .sl]] [.leaf (.b)])], [.leaf (.o (.sl))], table_Table_those⟩, ⟨37, [.agg [.o (.i .i64), .o (.i .i64), .o (.i .i64), .o (.i .i64), .o (.i .i64), .o (.i .i64), .o (.i .i64), .o (.i .i64), .o (.i .i64), .o (.i .i64), .o (.b), .o (.b), .o (.sl)]], [.leaf (.o (.b))], table_queued⟩, ⟨38, [.leaf (.o (.i .i64)), .leaf (.o (.sl)), .agg [.o (.i .i64), .o (.i .i64), .o (.i .i64), .o (.i .i64)]], [.leaf (.o (.i .i64)), .leaf (.o (.i .i64))], truth_Rounds⟩], [], []⟩ Tryz.f11 [(35, ⟨[(32, .leaf (.o (.b)))], []⟩)] [.leaf (.o (.p)), .agg [.o (.i .i64), .o (.i .i64), .o (.i .i64), .o (.i .i64)]] [.leaf (.o (.i .i64)), .leaf (.o (.i .i64))] t Q : ((Option Addr) × Int × Int × Int × Int) → ((Int × Int) → HProp) → HProp) =
fun (t : Option Addr × Int × Int × Int × Int) (Q : Int × Int → HProp) =>
  table_Table_none t.fst fun (r : Bool) =>
    iteW r (Q (0, 1))
      (derefW t.fst fun (a : Addr) =>
        loadI IntKind.i64 (a.add 0) fun (x : Int) =>
          truth_Check (t.snd.fst, t.snd.snd.fst, t.snd.snd.snd.fst, t.snd.snd.snd.snd, x) fun (r : Int) =>
            iteW (!eqI r 0) (Q (0, r))
              (iteW (ltI t.snd.snd.snd.snd 256) (Q (0, 2))
                (derefW t.fst fun (a : Addr) =>
                  loadI IntKind.i64 (a.add 2) fun (x : Int) =>
                    iteW (ltI x t.snd.snd.snd.snd) (Q (0, 3))
                      (withK
                        (fun (t_1 : Bool) =>
                          iteW t_1 (Q (0, 230))
                            (derefW t.fst fun (a : Addr) =>
                              loadI IntKind.i64 (a.add 0) fun (x : Int) =>
                                derefW t.fst fun (a : Addr) =>
                                  loadL (a.add 3) fun (x_1 : Sl) =>
                                    truth_Rounds
                                      (x, x_1, t.snd.fst, t.snd.snd.fst, t.snd.snd.snd.fst, t.snd.snd.snd.snd)
                                      fun (r : Int × Int) =>
                                      iteW (!eqI r.snd 0) (Q (0, r.snd))
                                        (derefW t.fst fun (a : Addr) =>
                                          loadL (a.add 5) fun (x : Sl) =>
                                            keepsW (a.add 5)
                                              (Rec.mk 4 (Pl.heap (a.add 5)) [Value.slice x.a x.len x.cap]).vs
                                              (appendW x
                                                [Value.int IntKind.i64 0, Value.int IntKind.i64 0,
                                                  Value.int IntKind.i64 0, Value.int IntKind.i64 0,
                                                  Value.int IntKind.i64 0, Value.int IntKind.i64 0,
                                                  Value.int IntKind.i64 0, Value.int IntKind.i64 0,
                                                  Value.int IntKind.i64 0, Value.int IntKind.i64 0, Value.bool false,
                                                  Value.bool false, Value.slice (Sl.mk none 0 0).a 0 0]
                                                112 1
                                                [Value.int IntKind.i64 t.snd.fst, Value.int IntKind.i64 t.snd.snd.fst,
                                                  Value.int IntKind.i64 t.snd.snd.snd.fst,
                                                  Value.int IntKind.i64 t.snd.snd.snd.snd, Value.int IntKind.i64 1,
                                                  Value.int IntKind.i64 0, Value.int IntKind.i64 r.fst,
                                                  Value.int IntKind.i64 0, Value.int IntKind.i64 0,
                                                  Value.int IntKind.i64 0, Value.bool false, Value.bool false,
                                                  Value.slice (Sl.mk none 0 0).a 0 0]
                                                fun (u : Sl) =>
                                                derefW t.fst fun (a : Addr) =>
                                                  storeW (a.add 5) (Value.slice u.a u.len u.cap)
                                                    (derefW t.fst fun (a : Addr) =>
                                                      loadL (a.add 5) fun (x : Sl) => Q (↑x.len, 0))))))
                        fun (k : Bool → HProp) =>
                        derefW t.fst fun (a : Addr) =>
                          loadL (a.add 5) fun (x : Sl) =>
                            iteW (leI 999999 ↑x.len) (k true)
                              (table_Table_those
                                (t.fst,
                                  fun
                                    (t :
                                      Int × Int × Int × Int × Int × Int × Int × Int × Int × Int × Bool × Bool × Sl) =>
                                  table_queued
                                    (t.fst, t.snd.fst, t.snd.snd.fst, t.snd.snd.snd.fst, t.snd.snd.snd.snd.fst,
                                      t.snd.snd.snd.snd.snd.fst, t.snd.snd.snd.snd.snd.snd.fst,
                                      t.snd.snd.snd.snd.snd.snd.snd.fst, t.snd.snd.snd.snd.snd.snd.snd.snd.fst,
                                      t.snd.snd.snd.snd.snd.snd.snd.snd.snd.fst,
                                      t.snd.snd.snd.snd.snd.snd.snd.snd.snd.snd.fst,
                                      t.snd.snd.snd.snd.snd.snd.snd.snd.snd.snd.snd.fst,
                                      t.snd.snd.snd.snd.snd.snd.snd.snd.snd.snd.snd.snd))
                                fun (r : Sl) => k (leI 8 ↑r.len))))))
  := by kernel_rfl
theorem table_Table_Submit_linked : Linked Tryz.prog ⟨11, [.leaf (.o (.p)), .agg [.o (.i .i64), .o (.i .i64), .o (.i .i64), .o (.i .i64)]], [.leaf (.o (.i .i64)), .leaf (.o (.i .i64))], table_Table_Submit⟩ := linked_of (fn := Tryz.f11) Tryz.func11 rfl (by kernel_rfl) [⟨34, [.leaf (.o (.p))], [.leaf (.o (.b))], table_Table_none⟩, ⟨35, [.agg [.o (.i .i64), .o (.i .i64), .o (.i .i64), .o (.i .i64)], .leaf (.o (.i .i64))], [.leaf (.o (.i .i64))], truth_Check⟩, ⟨36, [.leaf (.o (.p)), .leaf (.fn [.agg [.i .i64, .i .i64, .i .i64, .i .i64, .i .i64, .i .i64, .i .i64, .i .i64, .i .i64, .i .i64, .b, .b, .sl]] [.leaf (.b)])], [.leaf (.o (.sl))], table_Table_those⟩, ⟨37, [.agg [.o (.i .i64), .o (.i .i64), .o (.i .i64), .o (.i .i64), .o (.i .i64), .o (.i .i64), .o (.i .i64), .o (.i .i64), .o (.i .i64), .o (.i .i64), .o (.b), .o (.b), .o (.sl)]], [.leaf (.o (.b))], table_queued⟩, ⟨38, [.leaf (.o (.i .i64)), .leaf (.o (.sl)), .agg [.o (.i .i64), .o (.i .i64), .o (.i .i64), .o (.i .i64)]], [.leaf (.o (.i .i64)), .leaf (.o (.i .i64))], truth_Rounds⟩] [] [] [(35, ⟨[(32, .leaf (.o (.b)))], []⟩)] (allCons table_Table_none_linked (allCons truth_Check_linked (allCons table_Table_those_linked (allCons table_queued_linked (allCons truth_Rounds_linked allNil))))) (by kernel_rfl) (by kernel_rfl) (by kernel_rfl) (fun t Q => congrFun (congrFun (table_Table_Submit_eq table_Table_none truth_Check table_Table_those table_queued truth_Rounds) t) Q)
theorem table_Table_find_eq (table_Table_none : ((Option Addr)) → ((Bool) → HProp) → HProp) : (fun (t : (Option Addr) × Int) (Q : ((Option Addr) × Int) → HProp) => interpF ⟨Tryz.prog, [⟨34, [.leaf (.o (.p))], [.leaf (.o (.b))], table_Table_none⟩], [], []⟩ Tryz.f42 [(11, ⟨[(9, .leaf (.o (.b)))], []⟩)] [.leaf (.o (.p)), .leaf (.o (.i .i64))] [.leaf (.o (.p)), .leaf (.o (.i .i64))] t Q : ((Option Addr) × Int) → (((Option Addr) × Int) → HProp) → HProp) =
fun (t : Option Addr × Int) (Q : Option Addr × Int → HProp) =>
  table_Table_none t.fst fun (r : Bool) =>
    iteW r (Q (none, 1))
      (withK
        (fun (t_1 : Bool) =>
          iteW t_1 (Q (none, 4))
            (derefW t.fst fun (a : Addr) =>
              loadL (a.add 5) fun (x : Sl) => indexW (sub IntKind.i64 t.snd 1) x 13 fun (a : Addr) => Q (some a, 0)))
        fun (k : Bool → HProp) =>
        iteW (ltI t.snd 1) (k true)
          (derefW t.fst fun (a : Addr) => loadL (a.add 5) fun (x : Sl) => k (ltI (↑x.len) t.snd)))
  := by kernel_rfl
theorem table_Table_find_linked : Linked Tryz.prog ⟨42, [.leaf (.o (.p)), .leaf (.o (.i .i64))], [.leaf (.o (.p)), .leaf (.o (.i .i64))], table_Table_find⟩ := linked_of (fn := Tryz.f42) Tryz.func42 rfl (by kernel_rfl) [⟨34, [.leaf (.o (.p))], [.leaf (.o (.b))], table_Table_none⟩] [] [] [(11, ⟨[(9, .leaf (.o (.b)))], []⟩)] (allCons table_Table_none_linked allNil) (by kernel_rfl) (by kernel_rfl) (by kernel_rfl) (fun t Q => congrFun (congrFun (table_Table_find_eq table_Table_none) t) Q)
theorem table_entry_ends_linked : Linked Tryz.prog ⟨43, [.leaf (.o (.p)), .leaf (.o (.i .i64)), .leaf (.o (.i .i64))], [], table_entry_ends⟩ := linked_of (fn := Tryz.f43) Tryz.func43 rfl (by kernel_rfl) [] [] [] [] allNil (by kernel_rfl) (by kernel_rfl) (by kernel_rfl) (fun t Q => by kernel_rfl)
theorem table_Table_Cancel_eq (table_Table_find : ((Option Addr) × Int) → (((Option Addr) × Int) → HProp) → HProp) (table_entry_ends : ((Option Addr) × Int × Int) → ((Unit) → HProp) → HProp) : (fun (t : (Option Addr) × Int) (Q : (Int) → HProp) => interpF ⟨Tryz.prog, [⟨42, [.leaf (.o (.p)), .leaf (.o (.i .i64))], [.leaf (.o (.p)), .leaf (.o (.i .i64))], table_Table_find⟩, ⟨43, [.leaf (.o (.p)), .leaf (.o (.i .i64)), .leaf (.o (.i .i64))], [], table_entry_ends⟩], [], []⟩ Tryz.f13 [(14, ⟨[(27, .leaf (.o (.b)))], []⟩)] [.leaf (.o (.p)), .leaf (.o (.i .i64))] [.leaf (.o (.i .i64))] t Q : ((Option Addr) × Int) → ((Int) → HProp) → HProp) =
fun (t : Option Addr × Int) (Q : Int → HProp) =>
  table_Table_find (t.fst, t.snd) fun (r : Option Addr × Int) =>
    iteW (!eqI r.snd 0) (Q r.snd)
      (withK (fun (t : Bool) => iteW t (Q 270) (table_entry_ends (r.fst, 4, 0) fun (r : PUnit) => Q 0))
        fun (k : Bool → HProp) =>
        derefW r.fst fun (a : Addr) =>
          loadI IntKind.i64 (a.add 4) fun (x : Int) =>
            iteW (!eqI x 1) (derefW r.fst fun (a : Addr) => loadI IntKind.i64 (a.add 4) fun (x : Int) => k !eqI x 2)
              (k false))
  := by kernel_rfl
theorem table_Table_Cancel_linked : Linked Tryz.prog ⟨13, [.leaf (.o (.p)), .leaf (.o (.i .i64))], [.leaf (.o (.i .i64))], table_Table_Cancel⟩ := linked_of (fn := Tryz.f13) Tryz.func13 rfl (by kernel_rfl) [⟨42, [.leaf (.o (.p)), .leaf (.o (.i .i64))], [.leaf (.o (.p)), .leaf (.o (.i .i64))], table_Table_find⟩, ⟨43, [.leaf (.o (.p)), .leaf (.o (.i .i64)), .leaf (.o (.i .i64))], [], table_entry_ends⟩] [] [] [(14, ⟨[(27, .leaf (.o (.b)))], []⟩)] (allCons table_Table_find_linked (allCons table_entry_ends_linked allNil)) (by kernel_rfl) (by kernel_rfl) (by kernel_rfl) (fun t Q => congrFun (congrFun (table_Table_Cancel_eq table_Table_find table_entry_ends) t) Q)
theorem table_Table_Poll_eq (table_Table_find : ((Option Addr) × Int) → (((Option Addr) × Int) → HProp) → HProp) : (fun (t : (Option Addr) × Int) (Q : (Int × Int × Int × Int) → HProp) => interpF ⟨Tryz.prog, [⟨42, [.leaf (.o (.p)), .leaf (.o (.i .i64))], [.leaf (.o (.p)), .leaf (.o (.i .i64))], table_Table_find⟩], [], []⟩ Tryz.f15 [] [.leaf (.o (.p)), .leaf (.o (.i .i64))] [.agg [.o (.i .i64), .o (.i .i64), .o (.i .i64)], .leaf (.o (.i .i64))] t Q : ((Option Addr) × Int) → ((Int × Int × Int × Int) → HProp) → HProp) =
fun (t : Option Addr × Int) (Q : Int × Int × Int × Int → HProp) =>
  table_Table_find (t.fst, t.snd) fun (r : Option Addr × Int) =>
    iteW (!eqI r.snd 0) (Q (0, 0, 0, r.snd))
      (derefW r.fst fun (a : Addr) =>
        loadI IntKind.i64 (a.add 4) fun (x : Int) =>
          derefW r.fst fun (a : Addr) =>
            loadI IntKind.i64 (a.add 7) fun (x_1 : Int) =>
              derefW r.fst fun (a : Addr) => loadI IntKind.i64 (a.add 5) fun (x_2 : Int) => Q (x, x_1, x_2, 0))
  := by kernel_rfl
theorem table_Table_Poll_linked : Linked Tryz.prog ⟨15, [.leaf (.o (.p)), .leaf (.o (.i .i64))], [.agg [.o (.i .i64), .o (.i .i64), .o (.i .i64)], .leaf (.o (.i .i64))], table_Table_Poll⟩ := linked_of (fn := Tryz.f15) Tryz.func15 rfl (by kernel_rfl) [⟨42, [.leaf (.o (.p)), .leaf (.o (.i .i64))], [.leaf (.o (.p)), .leaf (.o (.i .i64))], table_Table_find⟩] [] [] [] (allCons table_Table_find_linked allNil) (by kernel_rfl) (by kernel_rfl) (by kernel_rfl) (fun t Q => congrFun (congrFun (table_Table_Poll_eq table_Table_find) t) Q)
theorem table_expected_linked : Linked Tryz.prog ⟨44, [.agg [.o (.i .i64), .o (.i .i64), .o (.i .i64), .o (.i .i64), .o (.i .i64), .o (.i .i64), .o (.i .i64), .o (.i .i64), .o (.i .i64), .o (.i .i64), .o (.b), .o (.b), .o (.sl)]], [.leaf (.o (.b))], table_expected⟩ := linked_of (fn := Tryz.f44) Tryz.func44 rfl (by kernel_rfl) [] [] [] [] allNil (by kernel_rfl) (by kernel_rfl) (by kernel_rfl) (fun t Q => by kernel_rfl)
theorem table_attached_linked : Linked Tryz.prog ⟨49, [.agg [.o (.i .i64), .o (.i .i64), .o (.i .i64), .o (.i .i64), .o (.i .i64), .o (.i .i64), .o (.i .i64), .o (.i .i64), .o (.i .i64), .o (.i .i64), .o (.b), .o (.b), .o (.sl)]], [.leaf (.o (.b))], table_attached⟩ := linked_of (fn := Tryz.f49) Tryz.func49 rfl (by kernel_rfl) [] [] [] [] allNil (by kernel_rfl) (by kernel_rfl) (by kernel_rfl) (fun t Q => by kernel_rfl)
theorem table_Table_Used_eq (table_Table_none : ((Option Addr)) → ((Bool) → HProp) → HProp) (table_Table_those : ((Option Addr) × ((Int × Int × Int × Int × Int × Int × Int × Int × Int × Int × Bool × Bool × Sl) → ((Bool) → HProp) → HProp)) → ((Sl) → HProp) → HProp) (table_attached : (Int × Int × Int × Int × Int × Int × Int × Int × Int × Int × Bool × Bool × Sl) → ((Bool) → HProp) → HProp) : (fun (t : (Option Addr)) (Q : (Int) → HProp) => interpF ⟨Tryz.prog, [⟨34, [.leaf (.o (.p))], [.leaf (.o (.b))], table_Table_none⟩, ⟨36, [.leaf (.o (.p)), .leaf (.fn [.agg [.i .i64, .i .i64, .i .i64, .i .i64, .i .i64, .i .i64, .i .i64, .i .i64, .i .i64, .i .i64, .b, .b, .sl]] [.leaf (.b)])], [.leaf (.o (.sl))], table_Table_those⟩, ⟨49, [.agg [.o (.i .i64), .o (.i .i64), .o (.i .i64), .o (.i .i64), .o (.i .i64), .o (.i .i64), .o (.i .i64), .o (.i .i64), .o (.i .i64), .o (.i .i64), .o (.b), .o (.b), .o (.sl)]], [.leaf (.o (.b))], table_attached⟩], [], []⟩ Tryz.f26 [(16, ⟨[(3, .leaf (.o (.i .i64))), (11, .leaf (.o (.i .i64)))], []⟩)] [.leaf (.o (.p))] [.leaf (.o (.i .i64))] t Q : ((Option Addr)) → ((Int) → HProp) → HProp) =
fun (t : Option Addr) (Q : Int → HProp) =>
  table_Table_none t fun (r : Bool) =>
    iteW r (Q 0)
      (table_Table_those
        (t, fun (t : Int × Int × Int × Int × Int × Int × Int × Int × Int × Int × Bool × Bool × Sl) =>
          table_attached
            (t.fst, t.snd.fst, t.snd.snd.fst, t.snd.snd.snd.fst, t.snd.snd.snd.snd.fst, t.snd.snd.snd.snd.snd.fst,
              t.snd.snd.snd.snd.snd.snd.fst, t.snd.snd.snd.snd.snd.snd.snd.fst, t.snd.snd.snd.snd.snd.snd.snd.snd.fst,
              t.snd.snd.snd.snd.snd.snd.snd.snd.snd.fst, t.snd.snd.snd.snd.snd.snd.snd.snd.snd.snd.fst,
              t.snd.snd.snd.snd.snd.snd.snd.snd.snd.snd.snd.fst, t.snd.snd.snd.snd.snd.snd.snd.snd.snd.snd.snd.snd))
        fun (r : Sl) =>
        loopW (0, 0) fun (s : Int × Int) (k : Int × Int → HProp) =>
          iteW (ltI s.snd ↑r.len)
            (indexW s.snd r 1 fun (a : Addr) =>
              loadI IntKind.i64 a fun (x : Int) =>
                derefW t fun (a : Addr) =>
                  loadL (a.add 5) fun (x_1 : Sl) =>
                    indexW (sub IntKind.i64 x 1) x_1 13 fun (a : Addr) =>
                      loadI IntKind.i64 ((a.add 0).add 3) fun (x : Int) =>
                        k (add IntKind.i64 s.fst x, add IntKind.i64 s.snd 1))
            (Q s.fst))
  := by kernel_rfl
theorem table_Table_Used_linked : Linked Tryz.prog ⟨26, [.leaf (.o (.p))], [.leaf (.o (.i .i64))], table_Table_Used⟩ := linked_of (fn := Tryz.f26) Tryz.func26 rfl (by kernel_rfl) [⟨34, [.leaf (.o (.p))], [.leaf (.o (.b))], table_Table_none⟩, ⟨36, [.leaf (.o (.p)), .leaf (.fn [.agg [.i .i64, .i .i64, .i .i64, .i .i64, .i .i64, .i .i64, .i .i64, .i .i64, .i .i64, .i .i64, .b, .b, .sl]] [.leaf (.b)])], [.leaf (.o (.sl))], table_Table_those⟩, ⟨49, [.agg [.o (.i .i64), .o (.i .i64), .o (.i .i64), .o (.i .i64), .o (.i .i64), .o (.i .i64), .o (.i .i64), .o (.i .i64), .o (.i .i64), .o (.i .i64), .o (.b), .o (.b), .o (.sl)]], [.leaf (.o (.b))], table_attached⟩] [] [] [(16, ⟨[(3, .leaf (.o (.i .i64))), (11, .leaf (.o (.i .i64)))], []⟩)] (allCons table_Table_none_linked (allCons table_Table_those_linked (allCons table_attached_linked allNil))) (by kernel_rfl) (by kernel_rfl) (by kernel_rfl) (fun t Q => congrFun (congrFun (table_Table_Used_eq table_Table_none table_Table_those table_attached) t) Q)
theorem slices_MinFunc_int_int_linked : Linked Tryz.prog ⟨55, [.leaf (.o (.sl)), .leaf (.fn [.leaf (.i .i64), .leaf (.i .i64)] [.leaf (.i .i64)])], [.leaf (.o (.i .i64))], slices_MinFunc_int_int⟩ := linked_of (fn := Tryz.f55) Tryz.func55 rfl (by kernel_rfl) [] [] [] [(2, ⟨[], []⟩), (14, ⟨[(5, .leaf (.o (.i .i64))), (6, .leaf (.o (.i .i64)))], []⟩), (22, ⟨[(5, .leaf (.o (.i .i64)))], []⟩)] allNil (by kernel_rfl) (by kernel_rfl) (by kernel_rfl) (fun t Q => by kernel_rfl)
theorem table_Table_ahead_eq (cmp_Or_int : (Sl) → ((Int) → HProp) → HProp) (cmp_Compare_int : (Int × Int) → ((Int) → HProp) → HProp) : (fun (t : (Option Addr) × Int × Int) (Q : (Int) → HProp) => interpF ⟨Tryz.prog, [⟨68, [.leaf (.o (.sl))], [.leaf (.o (.i .i64))], cmp_Or_int⟩, ⟨69, [.leaf (.o (.i .i64)), .leaf (.o (.i .i64))], [.leaf (.o (.i .i64))], cmp_Compare_int⟩], [7, 8, 43], []⟩ Tryz.f56 [(3, ⟨[(7, .leaf (.o (.p))), (8, .leaf (.o (.p)))], []⟩)] [.leaf (.o (.p)), .leaf (.o (.i .i64)), .leaf (.o (.i .i64))] [.leaf (.o (.i .i64))] t Q : ((Option Addr) × Int × Int) → ((Int) → HProp) → HProp) =
fun (t : Option Addr × Int × Int) (Q : Int → HProp) =>
  withK
    (fun (t_1 : Option Addr × Option Addr) =>
      derefW t_1.snd fun (a : Addr) =>
        loadI IntKind.i64 ((a.add 0).add 2) fun (x : Int) =>
          derefW t_1.snd fun (a : Addr) =>
            loadI IntKind.i64 (a.add 9) fun (x_1 : Int) =>
              mustW ((4 : Int) ≠ 0)
                (derefW t_1.fst fun (a : Addr) =>
                  loadI IntKind.i64 ((a.add 0).add 2) fun (x_2 : Int) =>
                    derefW t_1.fst fun (a : Addr) =>
                      loadI IntKind.i64 (a.add 9) fun (x_3 : Int) =>
                        mustW ((4 : Int) ≠ 0)
                          (cmp_Compare_int
                            (add IntKind.i64 x (quo IntKind.i64 x_1 4), add IntKind.i64 x_2 (quo IntKind.i64 x_3 4))
                            fun (r : Int) =>
                            cmp_Compare_int (t.snd.fst, t.snd.snd) fun (r_1 : Int) =>
                              newW [Value.int IntKind.i64 r, Value.int IntKind.i64 r_1] fun (b : Nat) =>
                                cmp_Or_int (Sl.mk (some (Addr.mk b 0 none)) 2 2) Q)))
    fun (k : Option Addr × Option Addr → HProp) =>
    derefW t.fst fun (a : Addr) =>
      loadL (a.add 5) fun (x : Sl) =>
        indexW (sub IntKind.i64 t.snd.fst 1) x 13 fun (a_1 : Addr) =>
          loadI IntKind.i64 (a_1.add 0) fun (x_1 : Int) =>
            loadI IntKind.i64 (a_1.add 1) fun (x_2 : Int) =>
              loadI IntKind.i64 (a_1.add 2) fun (x_3 : Int) =>
                loadI IntKind.i64 (a_1.add 3) fun (x_4 : Int) =>
                  loadI IntKind.i64 (a_1.add 4) fun (x_5 : Int) =>
                    loadI IntKind.i64 (a_1.add 5) fun (x_6 : Int) =>
                      loadI IntKind.i64 (a_1.add 6) fun (x_7 : Int) =>
                        loadI IntKind.i64 (a_1.add 7) fun (x_8 : Int) =>
                          loadI IntKind.i64 (a_1.add 8) fun (x_9 : Int) =>
                            loadI IntKind.i64 (a_1.add 9) fun (x_10 : Int) =>
                              loadB (a_1.add 10) fun (x_11 : Bool) =>
                                loadB (a_1.add 11) fun (x_12 : Bool) =>
                                  loadL (a_1.add 12) fun (x_13 : Sl) =>
                                    derefW t.fst fun (a_2 : Addr) =>
                                      loadL (a_2.add 5) fun (x_14 : Sl) =>
                                        indexW (sub IntKind.i64 t.snd.snd 1) x_14 13 fun (a_3 : Addr) =>
                                          loadI IntKind.i64 (a_3.add 0) fun (x_15 : Int) =>
                                            loadI IntKind.i64 (a_3.add 1) fun (x_16 : Int) =>
                                              loadI IntKind.i64 (a_3.add 2) fun (x_17 : Int) =>
                                                loadI IntKind.i64 (a_3.add 3) fun (x_18 : Int) =>
                                                  loadI IntKind.i64 (a_3.add 4) fun (x_19 : Int) =>
                                                    loadI IntKind.i64 (a_3.add 5) fun (x_20 : Int) =>
                                                      loadI IntKind.i64 (a_3.add 6) fun (x_21 : Int) =>
                                                        loadI IntKind.i64 (a_3.add 7) fun (x_22 : Int) =>
                                                          loadI IntKind.i64 (a_3.add 8) fun (x_23 : Int) =>
                                                            loadI IntKind.i64 (a_3.add 9) fun (x_24 : Int) =>
                                                              loadB (a_3.add 10) fun (x_25 : Bool) =>
                                                                loadB (a_3.add 11) fun (x_26 : Bool) =>
                                                                  loadL (a_3.add 12) fun (x_27 : Sl) =>
                                                                    bothW
                                                                      (newW
                                                                        [Value.int IntKind.i64 0,
                                                                          Value.int IntKind.i64 0,
                                                                          Value.int IntKind.i64 0,
                                                                          Value.int IntKind.i64 0,
                                                                          Value.int IntKind.i64 0,
                                                                          Value.int IntKind.i64 0,
                                                                          Value.int IntKind.i64 0,
                                                                          Value.int IntKind.i64 0,
                                                                          Value.int IntKind.i64 0,
                                                                          Value.int IntKind.i64 0, Value.bool false,
                                                                          Value.bool false,
                                                                          Value.slice (Sl.mk none 0 0).a 0 0]
                                                                        fun (b : Nat) =>
                                                                        keepsW (a.add 5)
                                                                          (Rec.mk 3 (Pl.heap (a.add 5))
                                                                              [Value.slice x.a x.len x.cap]).vs
                                                                          (keepsW a_1
                                                                            (Rec.mk 7 (Pl.heap a_1)
                                                                                [Value.int IntKind.i64 x_1,
                                                                                  Value.int IntKind.i64 x_2,
                                                                                  Value.int IntKind.i64 x_3,
                                                                                  Value.int IntKind.i64 x_4,
                                                                                  Value.int IntKind.i64 x_5,
                                                                                  Value.int IntKind.i64 x_6,
                                                                                  Value.int IntKind.i64 x_7,
                                                                                  Value.int IntKind.i64 x_8,
                                                                                  Value.int IntKind.i64 x_9,
                                                                                  Value.int IntKind.i64 x_10,
                                                                                  Value.bool x_11, Value.bool x_12,
                                                                                  Value.slice x_13.a x_13.len
                                                                                    x_13.cap]).vs
                                                                            (keepsW (a_2.add 5)
                                                                              (Rec.mk 11 (Pl.heap (a_2.add 5))
                                                                                  [Value.slice x_14.a x_14.len
                                                                                      x_14.cap]).vs
                                                                              (keepsW a_3
                                                                                (Rec.mk 15 (Pl.heap a_3)
                                                                                    [Value.int IntKind.i64 x_15,
                                                                                      Value.int IntKind.i64 x_16,
                                                                                      Value.int IntKind.i64 x_17,
                                                                                      Value.int IntKind.i64 x_18,
                                                                                      Value.int IntKind.i64 x_19,
                                                                                      Value.int IntKind.i64 x_20,
                                                                                      Value.int IntKind.i64 x_21,
                                                                                      Value.int IntKind.i64 x_22,
                                                                                      Value.int IntKind.i64 x_23,
                                                                                      Value.int IntKind.i64 x_24,
                                                                                      Value.bool x_25, Value.bool x_26,
                                                                                      Value.slice x_27.a x_27.len
                                                                                        x_27.cap]).vs
                                                                                (newW
                                                                                  [Value.int IntKind.i64 0,
                                                                                    Value.int IntKind.i64 0,
                                                                                    Value.int IntKind.i64 0,
                                                                                    Value.int IntKind.i64 0,
                                                                                    Value.int IntKind.i64 0,
                                                                                    Value.int IntKind.i64 0,
                                                                                    Value.int IntKind.i64 0,
                                                                                    Value.int IntKind.i64 0,
                                                                                    Value.int IntKind.i64 0,
                                                                                    Value.int IntKind.i64 0,
                                                                                    Value.bool false, Value.bool false,
                                                                                    Value.slice (Sl.mk none 0 0).a 0 0]
                                                                                  fun (b_1 : Nat) =>
                                                                                  keepsW (a.add 5)
                                                                                    (Rec.mk 3 (Pl.heap (a.add 5))
                                                                                        [Value.slice x.a x.len
                                                                                            x.cap]).vs
                                                                                    (keepsW a_1
                                                                                      (Rec.mk 7 (Pl.heap a_1)
                                                                                          [Value.int IntKind.i64 x_1,
                                                                                            Value.int IntKind.i64 x_2,
                                                                                            Value.int IntKind.i64 x_3,
                                                                                            Value.int IntKind.i64 x_4,
                                                                                            Value.int IntKind.i64 x_5,
                                                                                            Value.int IntKind.i64 x_6,
                                                                                            Value.int IntKind.i64 x_7,
                                                                                            Value.int IntKind.i64 x_8,
                                                                                            Value.int IntKind.i64 x_9,
                                                                                            Value.int IntKind.i64 x_10,
                                                                                            Value.bool x_11,
                                                                                            Value.bool x_12,
                                                                                            Value.slice x_13.a x_13.len
                                                                                              x_13.cap]).vs
                                                                                      (keepsW (a_2.add 5)
                                                                                        (Rec.mk 11 (Pl.heap (a_2.add 5))
                                                                                            [Value.slice x_14.a x_14.len
                                                                                                x_14.cap]).vs
                                                                                        (keepsW a_3
                                                                                          (Rec.mk 15 (Pl.heap a_3)
                                                                                              [Value.int IntKind.i64
                                                                                                  x_15,
                                                                                                Value.int IntKind.i64
                                                                                                  x_16,
                                                                                                Value.int IntKind.i64
                                                                                                  x_17,
                                                                                                Value.int IntKind.i64
                                                                                                  x_18,
                                                                                                Value.int IntKind.i64
                                                                                                  x_19,
                                                                                                Value.int IntKind.i64
                                                                                                  x_20,
                                                                                                Value.int IntKind.i64
                                                                                                  x_21,
                                                                                                Value.int IntKind.i64
                                                                                                  x_22,
                                                                                                Value.int IntKind.i64
                                                                                                  x_23,
                                                                                                Value.int IntKind.i64
                                                                                                  x_24,
                                                                                                Value.bool x_25,
                                                                                                Value.bool x_26,
                                                                                                Value.slice x_27.a
                                                                                                  x_27.len x_27.cap]).vs
                                                                                          (storesW (Addr.mk b 0 none)
                                                                                            [Value.int IntKind.i64 x_1,
                                                                                              Value.int IntKind.i64 x_2,
                                                                                              Value.int IntKind.i64 x_3,
                                                                                              Value.int IntKind.i64 x_4,
                                                                                              Value.int IntKind.i64 x_5,
                                                                                              Value.int IntKind.i64 x_6,
                                                                                              Value.int IntKind.i64 x_7,
                                                                                              Value.int IntKind.i64 x_8,
                                                                                              Value.int IntKind.i64 x_9,
                                                                                              Value.int IntKind.i64
                                                                                                x_10,
                                                                                              Value.bool x_11,
                                                                                              Value.bool x_12,
                                                                                              Value.slice x_13.a
                                                                                                x_13.len x_13.cap]
                                                                                            (keepsW (a_2.add 5)
                                                                                              (Rec.mk 11
                                                                                                  (Pl.heap (a_2.add 5))
                                                                                                  [Value.slice x_14.a
                                                                                                      x_14.len
                                                                                                      x_14.cap]).vs
                                                                                              (keepsW a_3
                                                                                                (Rec.mk 15 (Pl.heap a_3)
                                                                                                    [Value.int
                                                                                                        IntKind.i64
                                                                                                        x_15,
                                                                                                      Value.int
                                                                                                        IntKind.i64
                                                                                                        x_16,
                                                                                                      Value.int
                                                                                                        IntKind.i64
                                                                                                        x_17,
                                                                                                      Value.int
                                                                                                        IntKind.i64
                                                                                                        x_18,
                                                                                                      Value.int
                                                                                                        IntKind.i64
                                                                                                        x_19,
                                                                                                      Value.int
                                                                                                        IntKind.i64
                                                                                                        x_20,
                                                                                                      Value.int
                                                                                                        IntKind.i64
                                                                                                        x_21,
                                                                                                      Value.int
                                                                                                        IntKind.i64
                                                                                                        x_22,
                                                                                                      Value.int
                                                                                                        IntKind.i64
                                                                                                        x_23,
                                                                                                      Value.int
                                                                                                        IntKind.i64
                                                                                                        x_24,
                                                                                                      Value.bool x_25,
                                                                                                      Value.bool x_26,
                                                                                                      Value.slice x_27.a
                                                                                                        x_27.len
                                                                                                        x_27.cap]).vs
                                                                                                (storesW
                                                                                                  (Addr.mk b_1 0 none)
                                                                                                  [Value.int IntKind.i64
                                                                                                      x_15,
                                                                                                    Value.int
                                                                                                      IntKind.i64 x_16,
                                                                                                    Value.int
                                                                                                      IntKind.i64 x_17,
                                                                                                    Value.int
                                                                                                      IntKind.i64 x_18,
                                                                                                    Value.int
                                                                                                      IntKind.i64 x_19,
                                                                                                    Value.int
                                                                                                      IntKind.i64 x_20,
                                                                                                    Value.int
                                                                                                      IntKind.i64 x_21,
                                                                                                    Value.int
                                                                                                      IntKind.i64 x_22,
                                                                                                    Value.int
                                                                                                      IntKind.i64 x_23,
                                                                                                    Value.int
                                                                                                      IntKind.i64 x_24,
                                                                                                    Value.bool x_25,
                                                                                                    Value.bool x_26,
                                                                                                    Value.slice x_27.a
                                                                                                      x_27.len x_27.cap]
                                                                                                  (k
                                                                                                    (some
                                                                                                        (Addr.mk b 0
                                                                                                          none),
                                                                                                      some
                                                                                                        (Addr.mk b_1 0
                                                                                                          none)))))))))))))))
                                                                      (newW
                                                                        [Value.int IntKind.i64 0,
                                                                          Value.int IntKind.i64 0,
                                                                          Value.int IntKind.i64 0,
                                                                          Value.int IntKind.i64 0,
                                                                          Value.int IntKind.i64 0,
                                                                          Value.int IntKind.i64 0,
                                                                          Value.int IntKind.i64 0,
                                                                          Value.int IntKind.i64 0,
                                                                          Value.int IntKind.i64 0,
                                                                          Value.int IntKind.i64 0, Value.bool false,
                                                                          Value.bool false,
                                                                          Value.slice (Sl.mk none 0 0).a 0 0]
                                                                        fun (b : Nat) =>
                                                                        keepsW (a.add 5)
                                                                          (Rec.mk 3 (Pl.heap (a.add 5))
                                                                              [Value.slice x.a x.len x.cap]).vs
                                                                          (keepsW a_1
                                                                            (Rec.mk 7 (Pl.heap a_1)
                                                                                [Value.int IntKind.i64 x_1,
                                                                                  Value.int IntKind.i64 x_2,
                                                                                  Value.int IntKind.i64 x_3,
                                                                                  Value.int IntKind.i64 x_4,
                                                                                  Value.int IntKind.i64 x_5,
                                                                                  Value.int IntKind.i64 x_6,
                                                                                  Value.int IntKind.i64 x_7,
                                                                                  Value.int IntKind.i64 x_8,
                                                                                  Value.int IntKind.i64 x_9,
                                                                                  Value.int IntKind.i64 x_10,
                                                                                  Value.bool x_11, Value.bool x_12,
                                                                                  Value.slice x_13.a x_13.len
                                                                                    x_13.cap]).vs
                                                                            (keepsW (a_2.add 5)
                                                                              (Rec.mk 11 (Pl.heap (a_2.add 5))
                                                                                  [Value.slice x_14.a x_14.len
                                                                                      x_14.cap]).vs
                                                                              (keepsW a_3
                                                                                (Rec.mk 15 (Pl.heap a_3)
                                                                                    [Value.int IntKind.i64 x_15,
                                                                                      Value.int IntKind.i64 x_16,
                                                                                      Value.int IntKind.i64 x_17,
                                                                                      Value.int IntKind.i64 x_18,
                                                                                      Value.int IntKind.i64 x_19,
                                                                                      Value.int IntKind.i64 x_20,
                                                                                      Value.int IntKind.i64 x_21,
                                                                                      Value.int IntKind.i64 x_22,
                                                                                      Value.int IntKind.i64 x_23,
                                                                                      Value.int IntKind.i64 x_24,
                                                                                      Value.bool x_25, Value.bool x_26,
                                                                                      Value.slice x_27.a x_27.len
                                                                                        x_27.cap]).vs
                                                                                (newW
                                                                                  [Value.int IntKind.i64 0,
                                                                                    Value.int IntKind.i64 0,
                                                                                    Value.int IntKind.i64 0,
                                                                                    Value.int IntKind.i64 0,
                                                                                    Value.int IntKind.i64 0,
                                                                                    Value.int IntKind.i64 0,
                                                                                    Value.int IntKind.i64 0,
                                                                                    Value.int IntKind.i64 0,
                                                                                    Value.int IntKind.i64 0,
                                                                                    Value.int IntKind.i64 0,
                                                                                    Value.bool false, Value.bool false,
                                                                                    Value.slice (Sl.mk none 0 0).a 0 0]
                                                                                  fun (b_1 : Nat) =>
                                                                                  keepsW (a.add 5)
                                                                                    (Rec.mk 3 (Pl.heap (a.add 5))
                                                                                        [Value.slice x.a x.len
                                                                                            x.cap]).vs
                                                                                    (keepsW a_1
                                                                                      (Rec.mk 7 (Pl.heap a_1)
                                                                                          [Value.int IntKind.i64 x_1,
                                                                                            Value.int IntKind.i64 x_2,
                                                                                            Value.int IntKind.i64 x_3,
                                                                                            Value.int IntKind.i64 x_4,
                                                                                            Value.int IntKind.i64 x_5,
                                                                                            Value.int IntKind.i64 x_6,
                                                                                            Value.int IntKind.i64 x_7,
                                                                                            Value.int IntKind.i64 x_8,
                                                                                            Value.int IntKind.i64 x_9,
                                                                                            Value.int IntKind.i64 x_10,
                                                                                            Value.bool x_11,
                                                                                            Value.bool x_12,
                                                                                            Value.slice x_13.a x_13.len
                                                                                              x_13.cap]).vs
                                                                                      (keepsW (a_2.add 5)
                                                                                        (Rec.mk 11 (Pl.heap (a_2.add 5))
                                                                                            [Value.slice x_14.a x_14.len
                                                                                                x_14.cap]).vs
                                                                                        (keepsW a_3
                                                                                          (Rec.mk 15 (Pl.heap a_3)
                                                                                              [Value.int IntKind.i64
                                                                                                  x_15,
                                                                                                Value.int IntKind.i64
                                                                                                  x_16,
                                                                                                Value.int IntKind.i64
                                                                                                  x_17,
                                                                                                Value.int IntKind.i64
                                                                                                  x_18,
                                                                                                Value.int IntKind.i64
                                                                                                  x_19,
                                                                                                Value.int IntKind.i64
                                                                                                  x_20,
                                                                                                Value.int IntKind.i64
                                                                                                  x_21,
                                                                                                Value.int IntKind.i64
                                                                                                  x_22,
                                                                                                Value.int IntKind.i64
                                                                                                  x_23,
                                                                                                Value.int IntKind.i64
                                                                                                  x_24,
                                                                                                Value.bool x_25,
                                                                                                Value.bool x_26,
                                                                                                Value.slice x_27.a
                                                                                                  x_27.len x_27.cap]).vs
                                                                                          (storesW (Addr.mk b_1 0 none)
                                                                                            [Value.int IntKind.i64 x_1,
                                                                                              Value.int IntKind.i64 x_2,
                                                                                              Value.int IntKind.i64 x_3,
                                                                                              Value.int IntKind.i64 x_4,
                                                                                              Value.int IntKind.i64 x_5,
                                                                                              Value.int IntKind.i64 x_6,
                                                                                              Value.int IntKind.i64 x_7,
                                                                                              Value.int IntKind.i64 x_8,
                                                                                              Value.int IntKind.i64 x_9,
                                                                                              Value.int IntKind.i64
                                                                                                x_10,
                                                                                              Value.bool x_11,
                                                                                              Value.bool x_12,
                                                                                              Value.slice x_13.a
                                                                                                x_13.len x_13.cap]
                                                                                            (keepsW (a_2.add 5)
                                                                                              (Rec.mk 11
                                                                                                  (Pl.heap (a_2.add 5))
                                                                                                  [Value.slice x_14.a
                                                                                                      x_14.len
                                                                                                      x_14.cap]).vs
                                                                                              (keepsW a_3
                                                                                                (Rec.mk 15 (Pl.heap a_3)
                                                                                                    [Value.int
                                                                                                        IntKind.i64
                                                                                                        x_15,
                                                                                                      Value.int
                                                                                                        IntKind.i64
                                                                                                        x_16,
                                                                                                      Value.int
                                                                                                        IntKind.i64
                                                                                                        x_17,
                                                                                                      Value.int
                                                                                                        IntKind.i64
                                                                                                        x_18,
                                                                                                      Value.int
                                                                                                        IntKind.i64
                                                                                                        x_19,
                                                                                                      Value.int
                                                                                                        IntKind.i64
                                                                                                        x_20,
                                                                                                      Value.int
                                                                                                        IntKind.i64
                                                                                                        x_21,
                                                                                                      Value.int
                                                                                                        IntKind.i64
                                                                                                        x_22,
                                                                                                      Value.int
                                                                                                        IntKind.i64
                                                                                                        x_23,
                                                                                                      Value.int
                                                                                                        IntKind.i64
                                                                                                        x_24,
                                                                                                      Value.bool x_25,
                                                                                                      Value.bool x_26,
                                                                                                      Value.slice x_27.a
                                                                                                        x_27.len
                                                                                                        x_27.cap]).vs
                                                                                                (storesW
                                                                                                  (Addr.mk b 0 none)
                                                                                                  [Value.int IntKind.i64
                                                                                                      x_15,
                                                                                                    Value.int
                                                                                                      IntKind.i64 x_16,
                                                                                                    Value.int
                                                                                                      IntKind.i64 x_17,
                                                                                                    Value.int
                                                                                                      IntKind.i64 x_18,
                                                                                                    Value.int
                                                                                                      IntKind.i64 x_19,
                                                                                                    Value.int
                                                                                                      IntKind.i64 x_20,
                                                                                                    Value.int
                                                                                                      IntKind.i64 x_21,
                                                                                                    Value.int
                                                                                                      IntKind.i64 x_22,
                                                                                                    Value.int
                                                                                                      IntKind.i64 x_23,
                                                                                                    Value.int
                                                                                                      IntKind.i64 x_24,
                                                                                                    Value.bool x_25,
                                                                                                    Value.bool x_26,
                                                                                                    Value.slice x_27.a
                                                                                                      x_27.len x_27.cap]
                                                                                                  (k
                                                                                                    (some
                                                                                                        (Addr.mk b_1 0
                                                                                                          none),
                                                                                                      some
                                                                                                        (Addr.mk b 0
                                                                                                          none)))))))))))))))
  := by kernel_rfl
theorem table_Table_ahead_linked : Linked Tryz.prog ⟨56, [.leaf (.o (.p)), .leaf (.o (.i .i64)), .leaf (.o (.i .i64))], [.leaf (.o (.i .i64))], table_Table_ahead⟩ := linked_of (fn := Tryz.f56) Tryz.func56 rfl (by kernel_rfl) [⟨68, [.leaf (.o (.sl))], [.leaf (.o (.i .i64))], cmp_Or_int⟩, ⟨69, [.leaf (.o (.i .i64)), .leaf (.o (.i .i64))], [.leaf (.o (.i .i64))], cmp_Compare_int⟩] [7, 8, 43] [] [(3, ⟨[(7, .leaf (.o (.p))), (8, .leaf (.o (.p)))], []⟩)] (allCons cmp_Or_int_linked (allCons cmp_Compare_int_linked allNil)) (by kernel_rfl) (by kernel_rfl) (by kernel_rfl) (fun t Q => congrFun (congrFun (table_Table_ahead_eq cmp_Or_int cmp_Compare_int) t) Q)
theorem table_Table_tick_eq (table_Table_Used : ((Option Addr)) → ((Int) → HProp) → HProp) (table_Table_those : ((Option Addr) × ((Int × Int × Int × Int × Int × Int × Int × Int × Int × Int × Bool × Bool × Sl) → ((Bool) → HProp) → HProp)) → ((Sl) → HProp) → HProp) (table_queued : (Int × Int × Int × Int × Int × Int × Int × Int × Int × Int × Bool × Bool × Sl) → ((Bool) → HProp) → HProp) (table_entry_ends : ((Option Addr) × Int × Int) → ((Unit) → HProp) → HProp) (table_attached : (Int × Int × Int × Int × Int × Int × Int × Int × Int × Int × Bool × Bool × Sl) → ((Bool) → HProp) → HProp) (slices_MinFunc_int_int : (Sl × ((Int × Int) → ((Int) → HProp) → HProp)) → ((Int) → HProp) → HProp) (table_Table_ahead : ((Option Addr) × Int × Int) → ((Int) → HProp) → HProp) : (fun (t : (Option Addr) × Int) (Q : (Int × Int × Int × Int) → HProp) => interpF ⟨Tryz.prog, [⟨26, [.leaf (.o (.p))], [.leaf (.o (.i .i64))], table_Table_Used⟩, ⟨36, [.leaf (.o (.p)), .leaf (.fn [.agg [.i .i64, .i .i64, .i .i64, .i .i64, .i .i64, .i .i64, .i .i64, .i .i64, .i .i64, .i .i64, .b, .b, .sl]] [.leaf (.b)])], [.leaf (.o (.sl))], table_Table_those⟩, ⟨37, [.agg [.o (.i .i64), .o (.i .i64), .o (.i .i64), .o (.i .i64), .o (.i .i64), .o (.i .i64), .o (.i .i64), .o (.i .i64), .o (.i .i64), .o (.i .i64), .o (.b), .o (.b), .o (.sl)]], [.leaf (.o (.b))], table_queued⟩, ⟨43, [.leaf (.o (.p)), .leaf (.o (.i .i64)), .leaf (.o (.i .i64))], [], table_entry_ends⟩, ⟨49, [.agg [.o (.i .i64), .o (.i .i64), .o (.i .i64), .o (.i .i64), .o (.i .i64), .o (.i .i64), .o (.i .i64), .o (.i .i64), .o (.i .i64), .o (.i .i64), .o (.b), .o (.b), .o (.sl)]], [.leaf (.o (.b))], table_attached⟩, ⟨55, [.leaf (.o (.sl)), .leaf (.fn [.leaf (.i .i64), .leaf (.i .i64)] [.leaf (.i .i64)])], [.leaf (.o (.i .i64))], slices_MinFunc_int_int⟩, ⟨56, [.leaf (.o (.p)), .leaf (.o (.i .i64)), .leaf (.o (.i .i64))], [.leaf (.o (.i .i64))], table_Table_ahead⟩], [], []⟩ Tryz.f45 [(6, ⟨[(15, .leaf (.o (.i .i64)))], []⟩), (20, ⟨[], []⟩), (21, ⟨[], []⟩), (62, ⟨[(91, .leaf (.o (.i .i64)))], []⟩), (70, ⟨[], []⟩)] [.leaf (.o (.p)), .leaf (.o (.i .i64))] [.agg [.o (.i .i64), .o (.i .i64), .o (.i .i64), .o (.i .i64)]] t Q : ((Option Addr) × Int) → ((Int × Int × Int × Int) → HProp) → HProp) =
fun (t : Option Addr × Int) (Q : Int × Int × Int × Int → HProp) =>
  table_Table_those
    (t.fst, fun (t : Int × Int × Int × Int × Int × Int × Int × Int × Int × Int × Bool × Bool × Sl) =>
      table_queued
        (t.fst, t.snd.fst, t.snd.snd.fst, t.snd.snd.snd.fst, t.snd.snd.snd.snd.fst, t.snd.snd.snd.snd.snd.fst,
          t.snd.snd.snd.snd.snd.snd.fst, t.snd.snd.snd.snd.snd.snd.snd.fst, t.snd.snd.snd.snd.snd.snd.snd.snd.fst,
          t.snd.snd.snd.snd.snd.snd.snd.snd.snd.fst, t.snd.snd.snd.snd.snd.snd.snd.snd.snd.snd.fst,
          t.snd.snd.snd.snd.snd.snd.snd.snd.snd.snd.snd.fst, t.snd.snd.snd.snd.snd.snd.snd.snd.snd.snd.snd.snd))
    fun (r : Sl) =>
    loopW 0 fun (s : Int) (k : Int → HProp) =>
      iteW (ltI s ↑r.len)
        (indexW s r 1 fun (a : Addr) =>
          loadI IntKind.i64 a fun (x : Int) =>
            derefW t.fst fun (a : Addr) =>
              loadL (a.add 5) fun (x_1 : Sl) =>
                indexW (sub IntKind.i64 x 1) x_1 13 fun (a : Addr) =>
                  loadI IntKind.i64 (a.add 9) fun (x_2 : Int) =>
                    indexW (sub IntKind.i64 x 1) x_1 13 fun (a : Addr) =>
                      storeW (a.add 9) (Value.int IntKind.i64 (add IntKind.i64 x_2 1)) (k (add IntKind.i64 s 1)))
        (withK
          (fun (t_1 : PUnit) =>
            table_Table_those
              (t.fst, fun (t : Int × Int × Int × Int × Int × Int × Int × Int × Int × Int × Bool × Bool × Sl) =>
                table_attached
                  (t.fst, t.snd.fst, t.snd.snd.fst, t.snd.snd.snd.fst, t.snd.snd.snd.snd.fst, t.snd.snd.snd.snd.snd.fst,
                    t.snd.snd.snd.snd.snd.snd.fst, t.snd.snd.snd.snd.snd.snd.snd.fst,
                    t.snd.snd.snd.snd.snd.snd.snd.snd.fst, t.snd.snd.snd.snd.snd.snd.snd.snd.snd.fst,
                    t.snd.snd.snd.snd.snd.snd.snd.snd.snd.snd.fst, t.snd.snd.snd.snd.snd.snd.snd.snd.snd.snd.snd.fst,
                    t.snd.snd.snd.snd.snd.snd.snd.snd.snd.snd.snd.snd))
              fun (r : Sl) =>
              iteW (eqI (↑r.len) 0) (Q (1, 0, 0, 0))
                (derefW t.fst fun (a : Addr) =>
                  loadI IntKind.i64 (a.add 4) fun (x : Int) =>
                    derefW t.fst fun (a : Addr) =>
                      loadI IntKind.i64 (a.add 1) fun (x_1 : Int) =>
                        mustW ((x_1 : Int) ≠ 0)
                          (derefW t.fst fun (a : Addr) =>
                            storeW (a.add 4) (Value.int IntKind.i64 (rem (add IntKind.i64 x 1) x_1))
                              (loopW 0 fun (s : Int) (k : Int → HProp) =>
                                iteW (ltI s ↑r.len)
                                  (withK (fun (t : PUnit) => k (add IntKind.i64 s 1))
                                    fun (k : PUnit → HProp) =>
                                    indexW s r 1 fun (a : Addr) =>
                                      loadI IntKind.i64 a fun (x : Int) =>
                                        iteW (!eqI t.snd 0)
                                          (derefW t.fst fun (a : Addr) =>
                                            loadL (a.add 5) fun (x_2 : Sl) =>
                                              indexW (sub IntKind.i64 x 1) x_2 13 fun (a : Addr) =>
                                                table_entry_ends (some a, 5, t.snd) fun (r : PUnit) => k ())
                                          (derefW t.fst fun (a : Addr) =>
                                            loadL (a.add 5) fun (x_2 : Sl) =>
                                              indexW (sub IntKind.i64 x 1) x_2 13 fun (a : Addr) =>
                                                storeW (a.add 11) (Value.bool true) (k ())))
                                  (iteW (!eqI t.snd 0)
                                    (derefW t.fst fun (a : Addr) =>
                                      loadI IntKind.i64 (a.add 4) fun (x : Int) => Q (4, x, 0, t.snd))
                                    (derefW t.fst fun (a : Addr) =>
                                      loadI IntKind.i64 (a.add 4) fun (x : Int) => Q (2, x, 0, 0)))))))
          fun (k : PUnit → HProp) =>
          loopW () fun (s : PUnit) (k_1 : PUnit → HProp) =>
            table_Table_those
              (t.fst, fun (t : Int × Int × Int × Int × Int × Int × Int × Int × Int × Int × Bool × Bool × Sl) =>
                table_attached
                  (t.fst, t.snd.fst, t.snd.snd.fst, t.snd.snd.snd.fst, t.snd.snd.snd.snd.fst, t.snd.snd.snd.snd.snd.fst,
                    t.snd.snd.snd.snd.snd.snd.fst, t.snd.snd.snd.snd.snd.snd.snd.fst,
                    t.snd.snd.snd.snd.snd.snd.snd.snd.fst, t.snd.snd.snd.snd.snd.snd.snd.snd.snd.fst,
                    t.snd.snd.snd.snd.snd.snd.snd.snd.snd.snd.fst, t.snd.snd.snd.snd.snd.snd.snd.snd.snd.snd.snd.fst,
                    t.snd.snd.snd.snd.snd.snd.snd.snd.snd.snd.snd.snd))
              fun (r : Sl) =>
              iteW (ltI (↑r.len) 4)
                (table_Table_those
                  (t.fst, fun (t : Int × Int × Int × Int × Int × Int × Int × Int × Int × Int × Bool × Bool × Sl) =>
                    table_queued
                      (t.fst, t.snd.fst, t.snd.snd.fst, t.snd.snd.snd.fst, t.snd.snd.snd.snd.fst,
                        t.snd.snd.snd.snd.snd.fst, t.snd.snd.snd.snd.snd.snd.fst, t.snd.snd.snd.snd.snd.snd.snd.fst,
                        t.snd.snd.snd.snd.snd.snd.snd.snd.fst, t.snd.snd.snd.snd.snd.snd.snd.snd.snd.fst,
                        t.snd.snd.snd.snd.snd.snd.snd.snd.snd.snd.fst,
                        t.snd.snd.snd.snd.snd.snd.snd.snd.snd.snd.snd.fst,
                        t.snd.snd.snd.snd.snd.snd.snd.snd.snd.snd.snd.snd))
                  fun (r : Sl) =>
                  iteW (eqI (↑r.len) 0) (k ())
                    (derefW t.fst fun (a : Addr) =>
                      loadL (a.add 5) fun (x : Sl) =>
                        slices_MinFunc_int_int (r, fun (t_1 : Int × Int) => table_Table_ahead (t.fst, t_1.fst, t_1.snd))
                          fun (r : Int) =>
                          keepsW (a.add 5) (Rec.mk 3 (Pl.heap (a.add 5)) [Value.slice x.a x.len x.cap]).vs
                            (indexW (sub IntKind.i64 r 1) x 13 fun (a : Addr) =>
                              loadI IntKind.i64 ((a.add 0).add 3) fun (x : Int) =>
                                derefW t.fst fun (a_1 : Addr) =>
                                  loadI IntKind.i64 (a_1.add 2) fun (x_1 : Int) =>
                                    table_Table_Used t.fst fun (r : Int) =>
                                      keepsW ((a.add 0).add 3)
                                        (Rec.mk 4 (Pl.heap ((a.add 0).add 3)) [Value.int IntKind.i64 x]).vs
                                        (keepsW (a_1.add 2)
                                          (Rec.mk 8 (Pl.heap (a_1.add 2)) [Value.int IntKind.i64 x_1]).vs
                                          (iteW (ltI (sub IntKind.i64 x_1 r) x) (k ())
                                            (storeW (a.add 4) (Value.int IntKind.i64 2)
                                              (storeW (a.add 10) (Value.bool true) (k_1 ()))))))))
                (k ()))
  := by kernel_rfl
theorem table_Table_tick_linked : Linked Tryz.prog ⟨45, [.leaf (.o (.p)), .leaf (.o (.i .i64))], [.agg [.o (.i .i64), .o (.i .i64), .o (.i .i64), .o (.i .i64)]], table_Table_tick⟩ := linked_of (fn := Tryz.f45) Tryz.func45 rfl (by kernel_rfl) [⟨26, [.leaf (.o (.p))], [.leaf (.o (.i .i64))], table_Table_Used⟩, ⟨36, [.leaf (.o (.p)), .leaf (.fn [.agg [.i .i64, .i .i64, .i .i64, .i .i64, .i .i64, .i .i64, .i .i64, .i .i64, .i .i64, .i .i64, .b, .b, .sl]] [.leaf (.b)])], [.leaf (.o (.sl))], table_Table_those⟩, ⟨37, [.agg [.o (.i .i64), .o (.i .i64), .o (.i .i64), .o (.i .i64), .o (.i .i64), .o (.i .i64), .o (.i .i64), .o (.i .i64), .o (.i .i64), .o (.i .i64), .o (.b), .o (.b), .o (.sl)]], [.leaf (.o (.b))], table_queued⟩, ⟨43, [.leaf (.o (.p)), .leaf (.o (.i .i64)), .leaf (.o (.i .i64))], [], table_entry_ends⟩, ⟨49, [.agg [.o (.i .i64), .o (.i .i64), .o (.i .i64), .o (.i .i64), .o (.i .i64), .o (.i .i64), .o (.i .i64), .o (.i .i64), .o (.i .i64), .o (.i .i64), .o (.b), .o (.b), .o (.sl)]], [.leaf (.o (.b))], table_attached⟩, ⟨55, [.leaf (.o (.sl)), .leaf (.fn [.leaf (.i .i64), .leaf (.i .i64)] [.leaf (.i .i64)])], [.leaf (.o (.i .i64))], slices_MinFunc_int_int⟩, ⟨56, [.leaf (.o (.p)), .leaf (.o (.i .i64)), .leaf (.o (.i .i64))], [.leaf (.o (.i .i64))], table_Table_ahead⟩] [] [] [(6, ⟨[(15, .leaf (.o (.i .i64)))], []⟩), (20, ⟨[], []⟩), (21, ⟨[], []⟩), (62, ⟨[(91, .leaf (.o (.i .i64)))], []⟩), (70, ⟨[], []⟩)] (allCons table_Table_Used_linked (allCons table_Table_those_linked (allCons table_queued_linked (allCons table_entry_ends_linked (allCons table_attached_linked (allCons slices_MinFunc_int_int_linked (allCons table_Table_ahead_linked allNil))))))) (by kernel_rfl) (by kernel_rfl) (by kernel_rfl) (fun t Q => congrFun (congrFun (table_Table_tick_eq table_Table_Used table_Table_those table_queued table_entry_ends table_attached slices_MinFunc_int_int table_Table_ahead) t) Q)
theorem table_entry_serve_eq (table_entry_ends : ((Option Addr) × Int × Int) → ((Unit) → HProp) → HProp) : (fun (t : (Option Addr) × Int × Int) (Q : (Unit) → HProp) => interpF ⟨Tryz.prog, [⟨43, [.leaf (.o (.p)), .leaf (.o (.i .i64)), .leaf (.o (.i .i64))], [], table_entry_ends⟩], [], []⟩ Tryz.f46 [] [.leaf (.o (.p)), .leaf (.o (.i .i64)), .leaf (.o (.i .i64))] [] t Q : ((Option Addr) × Int × Int) → ((Unit) → HProp) → HProp) =
fun (t : Option Addr × Int × Int) (Q : Unit → HProp) =>
  derefW t.fst fun (a : Addr) =>
    storeW (a.add 11) (Value.bool false)
      (iteW (!eqI t.snd.snd 0) (table_entry_ends (t.fst, 5, t.snd.snd) fun (r : PUnit) => Q ())
        (derefW t.fst fun (a : Addr) =>
          loadI IntKind.i64 (a.add 8) fun (x : Int) =>
            derefW t.fst fun (a : Addr) =>
              storeW (a.add 8) (Value.int IntKind.i64 (add IntKind.i64 x 1))
                (derefW t.fst fun (a : Addr) =>
                  loadI IntKind.i64 (a.add 8) fun (x : Int) =>
                    iteW (ltI x t.snd.fst) (Q ())
                      (derefW t.fst fun (a : Addr) =>
                        storeW (a.add 8) (Value.int IntKind.i64 0)
                          (derefW t.fst fun (a : Addr) =>
                            loadI IntKind.i64 (a.add 7) fun (x : Int) =>
                              derefW t.fst fun (a : Addr) =>
                                loadI IntKind.i64 (a.add 6) fun (x_1 : Int) =>
                                  iteW (eqI (add IntKind.i64 x 1) x_1)
                                    (table_entry_ends (t.fst, 3, 0) fun (r : PUnit) => Q ())
                                    (derefW t.fst fun (a : Addr) =>
                                      loadI IntKind.i64 (a.add 7) fun (x : Int) =>
                                        derefW t.fst fun (a : Addr) =>
                                          storeW (a.add 7) (Value.int IntKind.i64 (add IntKind.i64 x 1)) (Q ())))))))
  := by kernel_rfl
theorem table_entry_serve_linked : Linked Tryz.prog ⟨46, [.leaf (.o (.p)), .leaf (.o (.i .i64)), .leaf (.o (.i .i64))], [], table_entry_serve⟩ := linked_of (fn := Tryz.f46) Tryz.func46 rfl (by kernel_rfl) [⟨43, [.leaf (.o (.p)), .leaf (.o (.i .i64)), .leaf (.o (.i .i64))], [], table_entry_ends⟩] [] [] [] (allCons table_entry_ends_linked allNil) (by kernel_rfl) (by kernel_rfl) (by kernel_rfl) (fun t Q => congrFun (congrFun (table_entry_serve_eq table_entry_ends) t) Q)
theorem table_Table_Step_eq (table_Table_none : ((Option Addr)) → ((Bool) → HProp) → HProp) (table_Table_those : ((Option Addr) × ((Int × Int × Int × Int × Int × Int × Int × Int × Int × Int × Bool × Bool × Sl) → ((Bool) → HProp) → HProp)) → ((Sl) → HProp) → HProp) (table_expected : (Int × Int × Int × Int × Int × Int × Int × Int × Int × Int × Bool × Bool × Sl) → ((Bool) → HProp) → HProp) (table_Table_tick : ((Option Addr) × Int) → ((Int × Int × Int × Int) → HProp) → HProp) (table_entry_serve : ((Option Addr) × Int × Int) → ((Unit) → HProp) → HProp) : (fun (t : (Option Addr) × Int × Int) (Q : (Int × Int × Int × Int × Int) → HProp) => interpF ⟨Tryz.prog, [⟨34, [.leaf (.o (.p))], [.leaf (.o (.b))], table_Table_none⟩, ⟨36, [.leaf (.o (.p)), .leaf (.fn [.agg [.i .i64, .i .i64, .i .i64, .i .i64, .i .i64, .i .i64, .i .i64, .i .i64, .i .i64, .i .i64, .b, .b, .sl]] [.leaf (.b)])], [.leaf (.o (.sl))], table_Table_those⟩, ⟨44, [.agg [.o (.i .i64), .o (.i .i64), .o (.i .i64), .o (.i .i64), .o (.i .i64), .o (.i .i64), .o (.i .i64), .o (.i .i64), .o (.i .i64), .o (.i .i64), .o (.b), .o (.b), .o (.sl)]], [.leaf (.o (.b))], table_expected⟩, ⟨45, [.leaf (.o (.p)), .leaf (.o (.i .i64))], [.agg [.o (.i .i64), .o (.i .i64), .o (.i .i64), .o (.i .i64)]], table_Table_tick⟩, ⟨46, [.leaf (.o (.p)), .leaf (.o (.i .i64)), .leaf (.o (.i .i64))], [], table_entry_serve⟩], [], []⟩ Tryz.f20 [(22, ⟨[(28, .leaf (.o (.b)))], []⟩)] [.leaf (.o (.p)), .leaf (.o (.i .i64)), .leaf (.o (.i .i64))] [.agg [.o (.i .i64), .o (.i .i64), .o (.i .i64), .o (.i .i64)], .leaf (.o (.i .i64))] t Q : ((Option Addr) × Int × Int) → ((Int × Int × Int × Int × Int) → HProp) → HProp) =
fun (t : Option Addr × Int × Int) (Q : Int × Int × Int × Int × Int → HProp) =>
  table_Table_none t.fst fun (r : Bool) =>
    iteW r (Q (0, 0, 0, 0, 1))
      (table_Table_those
        (t.fst, fun (t : Int × Int × Int × Int × Int × Int × Int × Int × Int × Int × Bool × Bool × Sl) =>
          table_expected
            (t.fst, t.snd.fst, t.snd.snd.fst, t.snd.snd.snd.fst, t.snd.snd.snd.snd.fst, t.snd.snd.snd.snd.snd.fst,
              t.snd.snd.snd.snd.snd.snd.fst, t.snd.snd.snd.snd.snd.snd.snd.fst, t.snd.snd.snd.snd.snd.snd.snd.snd.fst,
              t.snd.snd.snd.snd.snd.snd.snd.snd.snd.fst, t.snd.snd.snd.snd.snd.snd.snd.snd.snd.snd.fst,
              t.snd.snd.snd.snd.snd.snd.snd.snd.snd.snd.snd.fst, t.snd.snd.snd.snd.snd.snd.snd.snd.snd.snd.snd.snd))
        fun (r : Sl) =>
        iteW (eqI (↑r.len) 0)
          (table_Table_tick (t.fst, t.snd.snd) fun (r : Int × Int × Int × Int) =>
            Q (r.fst, r.snd.fst, r.snd.snd.fst, r.snd.snd.snd, 0))
          (withK
            (fun (t_1 : Bool) =>
              iteW t_1 (Q (0, 0, 0, 0, 2))
                (derefW t.fst fun (a : Addr) =>
                  loadL (a.add 5) fun (x : Sl) =>
                    indexW t.snd.fst r 1 fun (a : Addr) =>
                      loadI IntKind.i64 a fun (x_1 : Int) =>
                        indexW (sub IntKind.i64 x_1 1) x 13 fun (a : Addr) =>
                          derefW t.fst fun (a_1 : Addr) =>
                            loadI IntKind.i64 (a_1.add 1) fun (x : Int) =>
                              table_entry_serve (some a, x, t.snd.snd) fun (r_1 : PUnit) =>
                                derefW t.fst fun (a : Addr) =>
                                  loadI IntKind.i64 (a.add 4) fun (x : Int) =>
                                    indexW t.snd.fst r 1 fun (a : Addr) =>
                                      loadI IntKind.i64 a fun (x_2 : Int) => Q (3, x, x_2, t.snd.snd, 0)))
            fun (k : Bool → HProp) => iteW (ltI t.snd.fst 0) (k true) (k (leI (↑r.len) t.snd.fst))))
  := by kernel_rfl
theorem table_Table_Step_linked : Linked Tryz.prog ⟨20, [.leaf (.o (.p)), .leaf (.o (.i .i64)), .leaf (.o (.i .i64))], [.agg [.o (.i .i64), .o (.i .i64), .o (.i .i64), .o (.i .i64)], .leaf (.o (.i .i64))], table_Table_Step⟩ := linked_of (fn := Tryz.f20) Tryz.func20 rfl (by kernel_rfl) [⟨34, [.leaf (.o (.p))], [.leaf (.o (.b))], table_Table_none⟩, ⟨36, [.leaf (.o (.p)), .leaf (.fn [.agg [.i .i64, .i .i64, .i .i64, .i .i64, .i .i64, .i .i64, .i .i64, .i .i64, .i .i64, .i .i64, .b, .b, .sl]] [.leaf (.b)])], [.leaf (.o (.sl))], table_Table_those⟩, ⟨44, [.agg [.o (.i .i64), .o (.i .i64), .o (.i .i64), .o (.i .i64), .o (.i .i64), .o (.i .i64), .o (.i .i64), .o (.i .i64), .o (.i .i64), .o (.i .i64), .o (.b), .o (.b), .o (.sl)]], [.leaf (.o (.b))], table_expected⟩, ⟨45, [.leaf (.o (.p)), .leaf (.o (.i .i64))], [.agg [.o (.i .i64), .o (.i .i64), .o (.i .i64), .o (.i .i64)]], table_Table_tick⟩, ⟨46, [.leaf (.o (.p)), .leaf (.o (.i .i64)), .leaf (.o (.i .i64))], [], table_entry_serve⟩] [] [] [(22, ⟨[(28, .leaf (.o (.b)))], []⟩)] (allCons table_Table_none_linked (allCons table_Table_those_linked (allCons table_expected_linked (allCons table_Table_tick_linked (allCons table_entry_serve_linked allNil))))) (by kernel_rfl) (by kernel_rfl) (by kernel_rfl) (fun t Q => congrFun (congrFun (table_Table_Step_eq table_Table_none table_Table_those table_expected table_Table_tick table_entry_serve) t) Q)
theorem law26_Ints_linked : Linked Tryz.prog ⟨23, [.leaf (.o (.sl)), .leaf (.o (.sl))], [.leaf (.o (.b))], law26_Ints⟩ := linked_of (fn := Tryz.f23) Tryz.func23 rfl (by kernel_rfl) [] [] [] [(14, ⟨[(5, .leaf (.o (.i .i64)))], []⟩)] allNil (by kernel_rfl) (by kernel_rfl) (by kernel_rfl) (fun t Q => by kernel_rfl)
theorem table_Table_Waiting_eq (table_Table_none : ((Option Addr)) → ((Bool) → HProp) → HProp) (table_Table_those : ((Option Addr) × ((Int × Int × Int × Int × Int × Int × Int × Int × Int × Int × Bool × Bool × Sl) → ((Bool) → HProp) → HProp)) → ((Sl) → HProp) → HProp) (table_expected : (Int × Int × Int × Int × Int × Int × Int × Int × Int × Int × Bool × Bool × Sl) → ((Bool) → HProp) → HProp) : (fun (t : (Option Addr)) (Q : (Sl) → HProp) => interpF ⟨Tryz.prog, [⟨34, [.leaf (.o (.p))], [.leaf (.o (.b))], table_Table_none⟩, ⟨36, [.leaf (.o (.p)), .leaf (.fn [.agg [.i .i64, .i .i64, .i .i64, .i .i64, .i .i64, .i .i64, .i .i64, .i .i64, .i .i64, .i .i64, .b, .b, .sl]] [.leaf (.b)])], [.leaf (.o (.sl))], table_Table_those⟩, ⟨44, [.agg [.o (.i .i64), .o (.i .i64), .o (.i .i64), .o (.i .i64), .o (.i .i64), .o (.i .i64), .o (.i .i64), .o (.i .i64), .o (.i .i64), .o (.i .i64), .o (.b), .o (.b), .o (.sl)]], [.leaf (.o (.b))], table_expected⟩], [], []⟩ Tryz.f24 [] [.leaf (.o (.p))] [.leaf (.o (.sl))] t Q : ((Option Addr)) → ((Sl) → HProp) → HProp) =
fun (t : Option Addr) (Q : Sl → HProp) =>
  table_Table_none t fun (r : Bool) =>
    iteW r (Q (Sl.mk none 0 0))
      (table_Table_those
        (t, fun (t : Int × Int × Int × Int × Int × Int × Int × Int × Int × Int × Bool × Bool × Sl) =>
          table_expected
            (t.fst, t.snd.fst, t.snd.snd.fst, t.snd.snd.snd.fst, t.snd.snd.snd.snd.fst, t.snd.snd.snd.snd.snd.fst,
              t.snd.snd.snd.snd.snd.snd.fst, t.snd.snd.snd.snd.snd.snd.snd.fst, t.snd.snd.snd.snd.snd.snd.snd.snd.fst,
              t.snd.snd.snd.snd.snd.snd.snd.snd.snd.fst, t.snd.snd.snd.snd.snd.snd.snd.snd.snd.snd.fst,
              t.snd.snd.snd.snd.snd.snd.snd.snd.snd.snd.snd.fst, t.snd.snd.snd.snd.snd.snd.snd.snd.snd.snd.snd.snd))
        Q)
  := by kernel_rfl
theorem table_Table_Waiting_linked : Linked Tryz.prog ⟨24, [.leaf (.o (.p))], [.leaf (.o (.sl))], table_Table_Waiting⟩ := linked_of (fn := Tryz.f24) Tryz.func24 rfl (by kernel_rfl) [⟨34, [.leaf (.o (.p))], [.leaf (.o (.b))], table_Table_none⟩, ⟨36, [.leaf (.o (.p)), .leaf (.fn [.agg [.i .i64, .i .i64, .i .i64, .i .i64, .i .i64, .i .i64, .i .i64, .i .i64, .i .i64, .i .i64, .b, .b, .sl]] [.leaf (.b)])], [.leaf (.o (.sl))], table_Table_those⟩, ⟨44, [.agg [.o (.i .i64), .o (.i .i64), .o (.i .i64), .o (.i .i64), .o (.i .i64), .o (.i .i64), .o (.i .i64), .o (.i .i64), .o (.i .i64), .o (.i .i64), .o (.b), .o (.b), .o (.sl)]], [.leaf (.o (.b))], table_expected⟩] [] [] [] (allCons table_Table_none_linked (allCons table_Table_those_linked (allCons table_expected_linked allNil))) (by kernel_rfl) (by kernel_rfl) (by kernel_rfl) (fun t Q => congrFun (congrFun (table_Table_Waiting_eq table_Table_none table_Table_those table_expected) t) Q)
theorem law28_keeps_eq (table_New : (Int × Sl × Int × Int) → (((Option Addr) × Int) → HProp) → HProp) (table_Table_Submit : ((Option Addr) × Int × Int × Int × Int) → ((Int × Int) → HProp) → HProp) (table_Table_Cancel : ((Option Addr) × Int) → ((Int) → HProp) → HProp) (table_Table_Poll : ((Option Addr) × Int) → ((Int × Int × Int × Int) → HProp) → HProp) (table_Table_Step : ((Option Addr) × Int × Int) → ((Int × Int × Int × Int × Int) → HProp) → HProp) (law26_Ints : (Sl × Sl) → ((Bool) → HProp) → HProp) (table_Table_Waiting : ((Option Addr)) → ((Sl) → HProp) → HProp) (table_Table_Used : ((Option Addr)) → ((Int) → HProp) → HProp) : (fun (t : Unit) (Q : (Bool) → HProp) => interpF ⟨Tryz.prog, [⟨7, [.leaf (.o (.i .i64)), .leaf (.o (.sl)), .leaf (.o (.i .i64)), .leaf (.o (.i .i64))], [.leaf (.o (.p)), .leaf (.o (.i .i64))], table_New⟩, ⟨11, [.leaf (.o (.p)), .agg [.o (.i .i64), .o (.i .i64), .o (.i .i64), .o (.i .i64)]], [.leaf (.o (.i .i64)), .leaf (.o (.i .i64))], table_Table_Submit⟩, ⟨13, [.leaf (.o (.p)), .leaf (.o (.i .i64))], [.leaf (.o (.i .i64))], table_Table_Cancel⟩, ⟨15, [.leaf (.o (.p)), .leaf (.o (.i .i64))], [.agg [.o (.i .i64), .o (.i .i64), .o (.i .i64)], .leaf (.o (.i .i64))], table_Table_Poll⟩, ⟨20, [.leaf (.o (.p)), .leaf (.o (.i .i64)), .leaf (.o (.i .i64))], [.agg [.o (.i .i64), .o (.i .i64), .o (.i .i64), .o (.i .i64)], .leaf (.o (.i .i64))], table_Table_Step⟩, ⟨23, [.leaf (.o (.sl)), .leaf (.o (.sl))], [.leaf (.o (.b))], law26_Ints⟩, ⟨24, [.leaf (.o (.p))], [.leaf (.o (.sl))], table_Table_Waiting⟩, ⟨26, [.leaf (.o (.p))], [.leaf (.o (.i .i64))], table_Table_Used⟩], [27, 85], [(55, 3), (63, 4)]⟩ Tryz.f5 [(10, ⟨[(43, .leaf (.o (.b)))], []⟩), (26, ⟨[(93, .leaf (.o (.b)))], []⟩), (43, ⟨[(0, .leaf (.o (.b)))], []⟩)] [] [.leaf (.o (.b))] t Q : (Unit) → ((Bool) → HProp) → HProp) =
fun (t : Unit) (Q : Bool → HProp) =>
  newW
    [Value.int IntKind.i64 0, Value.int IntKind.i64 1, Value.int IntKind.i64 1, Value.int IntKind.i64 2,
      Value.int IntKind.i64 2, Value.int IntKind.i64 0]
    fun (b : Nat) =>
    table_New (4, Sl.mk (some (Addr.mk b 0 none)) 3 3, 2, 600) fun (r : Option Addr × Int) =>
      table_New (4, Sl.mk (some (Addr.mk b 0 none)) 3 3, 5, 600) fun (r_1 : Option Addr × Int) =>
        withK
          (fun (t : Bool) =>
            iteW t (Q false)
              (table_Table_Submit (r.fst, 1, 0, 0, 300) fun (r_2 : Int × Int) =>
                table_Table_Submit (r.fst, 3, 0, 0, 300) fun (r_3 : Int × Int) =>
                  table_Table_Step (r.fst, 0, 0) fun (r_4 : Int × Int × Int × Int × Int) =>
                    table_Table_Step (r.fst, 1, 0) fun (r_5 : Int × Int × Int × Int × Int) =>
                      withK
                        (fun (t : Bool) =>
                          iteW t (Q false)
                            (table_Table_Step (r.fst, 0, 60) fun (r_6 : Int × Int × Int × Int × Int) =>
                              table_Table_Step (r.fst, 0, 50) fun (r_7 : Int × Int × Int × Int × Int) =>
                                table_Table_Poll (r.fst, 1) fun (r_8 : Int × Int × Int × Int) =>
                                  table_Table_Poll (r.fst, 2) fun (r_9 : Int × Int × Int × Int) =>
                                    table_Table_Step (r.fst, 0, 0) fun (r_10 : Int × Int × Int × Int × Int) =>
                                      withK Q fun (k : Bool → HProp) =>
                                        iteW
                                          (eqPairs
                                            [(r_6.fst, 3), (r_6.snd.fst, 0), (r_6.snd.snd.fst, 1),
                                              (r_6.snd.snd.snd.fst, 60)])
                                          (iteW
                                            (eqPairs
                                              [(r_7.fst, 4), (r_7.snd.fst, 1), (r_7.snd.snd.fst, 0),
                                                (r_7.snd.snd.snd.fst, 50)])
                                            (iteW (eqPairs [(r_8.fst, 5), (r_8.snd.fst, 0), (r_8.snd.snd.fst, 60)])
                                              (iteW (eqPairs [(r_9.fst, 5), (r_9.snd.fst, 0), (r_9.snd.snd.fst, 50)])
                                                (iteW
                                                  (eqPairs
                                                    [(r_10.fst, 1), (r_10.snd.fst, 0), (r_10.snd.snd.fst, 0),
                                                      (r_10.snd.snd.snd.fst, 0)])
                                                  (table_Table_Used r.fst fun (r_11 : Int) =>
                                                    iteW (eqI r_11 0)
                                                      (table_Table_Cancel (r.fst, 1) fun (r : Int) => k (eqI r 270))
                                                      (k false))
                                                  (k false))
                                                (k false))
                                              (k false))
                                            (k false))
                                          (k false)))
                        fun (k : Bool → HProp) =>
                        iteW (!eqI r_2.fst 1) (k true)
                          (iteW (!eqI r_3.fst 2) (k true)
                            (iteW
                              (!eqPairs
                                  [(r_4.fst, 2), (r_4.snd.fst, 0), (r_4.snd.snd.fst, 0), (r_4.snd.snd.snd.fst, 0)])
                              (k true)
                              (iteW
                                (!eqPairs
                                    [(r_5.fst, 3), (r_5.snd.fst, 0), (r_5.snd.snd.fst, 2), (r_5.snd.snd.snd.fst, 0)])
                                (k true)
                                (table_Table_Waiting r.fst fun (r_6 : Sl) =>
                                  newW [Value.int IntKind.i64 1] fun (b : Nat) =>
                                    law26_Ints (r_6, Sl.mk (some (Addr.mk b 0 none)) 1 1) fun (r_7 : Bool) =>
                                      iteW (!r_7) (k true) (table_Table_Used r.fst fun (r : Int) => k !eqI r 600)))))))
          fun (k : Bool → HProp) => iteW (!eqI r.snd 0) (k true) (k (eqI r_1.snd 0))
  := by kernel_rfl
theorem law28_keeps_linked : Linked Tryz.prog ⟨5, [], [.leaf (.o (.b))], law28_keeps⟩ := linked_of (fn := Tryz.f5) Tryz.func5 rfl (by kernel_rfl) [⟨7, [.leaf (.o (.i .i64)), .leaf (.o (.sl)), .leaf (.o (.i .i64)), .leaf (.o (.i .i64))], [.leaf (.o (.p)), .leaf (.o (.i .i64))], table_New⟩, ⟨11, [.leaf (.o (.p)), .agg [.o (.i .i64), .o (.i .i64), .o (.i .i64), .o (.i .i64)]], [.leaf (.o (.i .i64)), .leaf (.o (.i .i64))], table_Table_Submit⟩, ⟨13, [.leaf (.o (.p)), .leaf (.o (.i .i64))], [.leaf (.o (.i .i64))], table_Table_Cancel⟩, ⟨15, [.leaf (.o (.p)), .leaf (.o (.i .i64))], [.agg [.o (.i .i64), .o (.i .i64), .o (.i .i64)], .leaf (.o (.i .i64))], table_Table_Poll⟩, ⟨20, [.leaf (.o (.p)), .leaf (.o (.i .i64)), .leaf (.o (.i .i64))], [.agg [.o (.i .i64), .o (.i .i64), .o (.i .i64), .o (.i .i64)], .leaf (.o (.i .i64))], table_Table_Step⟩, ⟨23, [.leaf (.o (.sl)), .leaf (.o (.sl))], [.leaf (.o (.b))], law26_Ints⟩, ⟨24, [.leaf (.o (.p))], [.leaf (.o (.sl))], table_Table_Waiting⟩, ⟨26, [.leaf (.o (.p))], [.leaf (.o (.i .i64))], table_Table_Used⟩] [27, 85] [(55, 3), (63, 4)] [(10, ⟨[(43, .leaf (.o (.b)))], []⟩), (26, ⟨[(93, .leaf (.o (.b)))], []⟩), (43, ⟨[(0, .leaf (.o (.b)))], []⟩)] (allCons table_New_linked (allCons table_Table_Submit_linked (allCons table_Table_Cancel_linked (allCons table_Table_Poll_linked (allCons table_Table_Step_linked (allCons law26_Ints_linked (allCons table_Table_Waiting_linked (allCons table_Table_Used_linked allNil)))))))) (by kernel_rfl) (by kernel_rfl) (by kernel_rfl) (fun t Q => congrFun (congrFun (law28_keeps_eq table_New table_Table_Submit table_Table_Cancel table_Table_Poll table_Table_Step law26_Ints table_Table_Waiting table_Table_Used) t) Q)
theorem ref08_Less_linked : Linked Tryz.prog ⟨58, [.agg [.o (.i .i64), .o (.i .i64)], .agg [.o (.i .i64), .o (.i .i64)]], [.leaf (.o (.b))], ref08_Less⟩ := linked_of (fn := Tryz.f58) Tryz.func58 rfl (by kernel_rfl) [] [] [] [(3, ⟨[(4, .leaf (.o (.b)))], []⟩)] allNil (by kernel_rfl) (by kernel_rfl) (by kernel_rfl) (fun t Q => by kernel_rfl)
theorem ref08_put_eq (ref08_Less : (Int × Int × Int × Int) → ((Bool) → HProp) → HProp) : (fun (t : Sl × Int × Int × Bool) (Q : (Sl) → HProp) => interpF ⟨Tryz.prog, [⟨58, [.agg [.o (.i .i64), .o (.i .i64)], .agg [.o (.i .i64), .o (.i .i64)]], [.leaf (.o (.b))], ref08_Less⟩], [], [(72, 2)]⟩ Tryz.f50 [(6, ⟨[(7, .leaf (.o (.i .i64)))], []⟩), (9, ⟨[(21, .leaf (.o (.b)))], []⟩), (17, ⟨[(37, .leaf (.o (.b)))], []⟩)] [.leaf (.o (.sl)), .agg [.o (.i .i64), .o (.i .i64)], .leaf (.o (.b))] [.leaf (.o (.sl))] t Q : (Sl × Int × Int × Bool) → ((Sl) → HProp) → HProp) =
fun (t : Sl × Int × Int × Bool) (Q : Sl → HProp) =>
  loopW ↑t.fst.len fun (s : Int) (k : Int → HProp) =>
    withK
      (fun (t_1 : Bool) =>
        iteW t_1 (k (sub IntKind.i64 s 1))
          (withK
            (fun (t_2 : Bool) =>
              iteW t_2 (Q t.fst)
                (sliceW t.fst 2 0 s fun (u : Sl) =>
                  rowW u 2 fun (l : List Value) =>
                    appendW (Sl.mk none 0 0) [Value.int IntKind.i64 0, Value.int IntKind.i64 0] 16 u.len l
                      fun (u : Sl) =>
                      appendW u [Value.int IntKind.i64 0, Value.int IntKind.i64 0] 16 1
                        [Value.int IntKind.i64 t.snd.fst, Value.int IntKind.i64 t.snd.snd.fst] fun (u : Sl) =>
                        sliceW t.fst 2 s ↑t.fst.len fun (u_1 : Sl) =>
                          rowW u_1 2 fun (l : List Value) =>
                            appendW u [Value.int IntKind.i64 0, Value.int IntKind.i64 0] 16 u_1.len l Q))
            fun (k : Bool → HProp) =>
            iteW t.snd.snd.snd
              (iteW (ltI 0 s)
                (indexW (sub IntKind.i64 s 1) t.fst 2 fun (a : Addr) =>
                  loadI IntKind.i64 (a.add 0) fun (x : Int) =>
                    loadI IntKind.i64 (a.add 1) fun (x_1 : Int) => k (eqPairs [(x, t.snd.fst), (x_1, t.snd.snd.fst)]))
                (k false))
              (k false)))
      fun (k : Bool → HProp) =>
      iteW (ltI 0 s)
        (indexW (sub IntKind.i64 s 1) t.fst 2 fun (a : Addr) =>
          loadI IntKind.i64 (a.add 0) fun (x : Int) =>
            loadI IntKind.i64 (a.add 1) fun (x_1 : Int) => ref08_Less (t.snd.fst, t.snd.snd.fst, x, x_1) k)
        (k false)
  := by kernel_rfl
theorem ref08_put_linked : Linked Tryz.prog ⟨50, [.leaf (.o (.sl)), .agg [.o (.i .i64), .o (.i .i64)], .leaf (.o (.b))], [.leaf (.o (.sl))], ref08_put⟩ := linked_of (fn := Tryz.f50) Tryz.func50 rfl (by kernel_rfl) [⟨58, [.agg [.o (.i .i64), .o (.i .i64)], .agg [.o (.i .i64), .o (.i .i64)]], [.leaf (.o (.b))], ref08_Less⟩] [] [(72, 2)] [(6, ⟨[(7, .leaf (.o (.i .i64)))], []⟩), (9, ⟨[(21, .leaf (.o (.b)))], []⟩), (17, ⟨[(37, .leaf (.o (.b)))], []⟩)] (allCons ref08_Less_linked allNil) (by kernel_rfl) (by kernel_rfl) (by kernel_rfl) (fun t Q => congrFun (congrFun (ref08_put_eq ref08_Less) t) Q)
theorem ref08_Normal_eq (ref08_put : (Sl × Int × Int × Bool) → ((Sl) → HProp) → HProp) : (fun (t : Int × Sl) (Q : (Sl × Int) → HProp) => interpF ⟨Tryz.prog, [⟨50, [.leaf (.o (.sl)), .agg [.o (.i .i64), .o (.i .i64)], .leaf (.o (.b))], [.leaf (.o (.sl))], ref08_put⟩], [], []⟩ Tryz.f28 [(4, ⟨[(14, .leaf (.o (.b)))], []⟩), (16, ⟨[(6, .leaf (.o (.sl))), (7, .leaf (.o (.i .i64)))], []⟩), (29, ⟨[(51, .leaf (.o (.b)))], []⟩)] [.leaf (.o (.i .i64)), .leaf (.o (.sl))] [.leaf (.o (.sl)), .leaf (.o (.i .i64))] t Q : (Int × Sl) → ((Sl × Int) → HProp) → HProp) =
fun (t : Int × Sl) (Q : Sl × Int → HProp) =>
  withK
    (fun (t_1 : Bool) =>
      iteW t_1 (Q (Sl.mk none 0 0, 2))
        (loopW (Sl.mk none 0 0, 0) fun (s : Sl × Int) (k : Sl × Int → HProp) =>
          iteW (ltI s.snd ↑t.snd.len)
            (indexW s.snd t.snd 2 fun (a : Addr) =>
              loadI IntKind.i64 (a.add 0) fun (x : Int) =>
                loadI IntKind.i64 (a.add 1) fun (x_1 : Int) =>
                  withK
                    (fun (t : Bool) =>
                      iteW t (Q (Sl.mk none 0 0, 2))
                        (ref08_put (s.fst, x, x_1, true) fun (r : Sl) => k (r, add IntKind.i64 s.snd 1)))
                    fun (k : Bool → HProp) =>
                    iteW (ltI x 0) (k true)
                      (iteW (leI t.fst x) (k true)
                        (iteW (ltI x_1 0) (k true) (iteW (leI t.fst x_1) (k true) (k (eqI x x_1))))))
            (iteW (ltI 4096 ↑s.fst.len) (Q (Sl.mk none 0 0, 3)) (Q (s.fst, 0)))))
    fun (k : Bool → HProp) => iteW (ltI t.fst 1) (k true) (k (ltI 256 t.fst))
  := by kernel_rfl
theorem ref08_Normal_linked : Linked Tryz.prog ⟨28, [.leaf (.o (.i .i64)), .leaf (.o (.sl))], [.leaf (.o (.sl)), .leaf (.o (.i .i64))], ref08_Normal⟩ := linked_of (fn := Tryz.f28) Tryz.func28 rfl (by kernel_rfl) [⟨50, [.leaf (.o (.sl)), .agg [.o (.i .i64), .o (.i .i64)], .leaf (.o (.b))], [.leaf (.o (.sl))], ref08_put⟩] [] [] [(4, ⟨[(14, .leaf (.o (.b)))], []⟩), (16, ⟨[(6, .leaf (.o (.sl))), (7, .leaf (.o (.i .i64)))], []⟩), (29, ⟨[(51, .leaf (.o (.b)))], []⟩)] (allCons ref08_put_linked allNil) (by kernel_rfl) (by kernel_rfl) (by kernel_rfl) (fun t Q => congrFun (congrFun (ref08_Normal_eq ref08_put) t) Q)
theorem law16_Graph_Made_eq (ref08_Normal : (Int × Sl) → ((Sl × Int) → HProp) → HProp) : (fun (t : Int × Sl) (Q : (Int × Sl) → HProp) => interpF ⟨Tryz.prog, [⟨28, [.leaf (.o (.i .i64)), .leaf (.o (.sl))], [.leaf (.o (.sl)), .leaf (.o (.i .i64))], ref08_Normal⟩], [], []⟩ Tryz.f6 [(10, ⟨[(5, .leaf (.o (.sl))), (6, .leaf (.o (.i .i64)))], []⟩), (18, ⟨[(5, .leaf (.o (.sl)))], []⟩)] [.agg [.o (.i .u8), .o (.sl)]] [.leaf (.o (.i .i64)), .leaf (.o (.sl))] t Q : (Int × Sl) → ((Int × Sl) → HProp) → HProp) =
fun (t : Int × Sl) (Q : Int × Sl → HProp) =>
  mustW ((60 : Int) ≠ 0)
    (loopW (Sl.mk none 0 0, 0) fun (s : Sl × Int) (k : Sl × Int → HProp) =>
      iteW (ltI s.snd ↑t.snd.len)
        (withK (fun (t : Sl) => k (t, add IntKind.i64 s.snd 1)) fun (k : Sl → HProp) =>
          indexW s.snd t.snd 2 fun (a : Addr) =>
            iteW (leI 0 0)
              (iteW (ltI 0 ↑2)
                (loadI IntKind.u8 (a.add 0) fun (x : Int) =>
                  mustW ((add IntKind.i64 1 (rem (cnv IntKind.i64 t.fst) 60) : Int) ≠ 0)
                    (indexW s.snd t.snd 2 fun (a : Addr) =>
                      iteW (leI 0 1)
                        (iteW (ltI 1 ↑2)
                          (loadI IntKind.u8 (a.add 1) fun (x_1 : Int) =>
                            mustW ((add IntKind.i64 1 (rem (cnv IntKind.i64 t.fst) 60) : Int) ≠ 0)
                              (iteW
                                (!eqI (rem (cnv IntKind.i64 x) (add IntKind.i64 1 (rem (cnv IntKind.i64 t.fst) 60)))
                                    (rem (cnv IntKind.i64 x_1) (add IntKind.i64 1 (rem (cnv IntKind.i64 t.fst) 60))))
                                (appendW s.fst [Value.int IntKind.i64 0, Value.int IntKind.i64 0] 16 1
                                  [Value.int IntKind.i64
                                      (rem (cnv IntKind.i64 x) (add IntKind.i64 1 (rem (cnv IntKind.i64 t.fst) 60))),
                                    Value.int IntKind.i64
                                      (rem (cnv IntKind.i64 x_1) (add IntKind.i64 1 (rem (cnv IntKind.i64 t.fst) 60)))]
                                  k)
                                (k s.fst)))
                          stuckW)
                        stuckW))
                stuckW)
              stuckW)
        (ref08_Normal (add IntKind.i64 1 (rem (cnv IntKind.i64 t.fst) 60), s.fst) fun (r : Sl × Int) =>
          Q (add IntKind.i64 1 (rem (cnv IntKind.i64 t.fst) 60), r.fst)))
  := by kernel_rfl
theorem law16_Graph_Made_linked : Linked Tryz.prog ⟨6, [.agg [.o (.i .u8), .o (.sl)]], [.leaf (.o (.i .i64)), .leaf (.o (.sl))], law16_Graph_Made⟩ := linked_of (fn := Tryz.f6) Tryz.func6 rfl (by kernel_rfl) [⟨28, [.leaf (.o (.i .i64)), .leaf (.o (.sl))], [.leaf (.o (.sl)), .leaf (.o (.i .i64))], ref08_Normal⟩] [] [] [(10, ⟨[(5, .leaf (.o (.sl))), (6, .leaf (.o (.i .i64)))], []⟩), (18, ⟨[(5, .leaf (.o (.sl)))], []⟩)] (allCons ref08_Normal_linked allNil) (by kernel_rfl) (by kernel_rfl) (by kernel_rfl) (fun t Q => congrFun (congrFun (law16_Graph_Made_eq ref08_Normal) t) Q)
theorem law27_Total_linked : Linked Tryz.prog ⟨8, [.leaf (.o (.i .u16))], [.leaf (.o (.i .i64))], law27_Total⟩ := linked_of (fn := Tryz.f8) Tryz.func8 rfl (by kernel_rfl) [] [] [] [] allNil (by kernel_rfl) (by kernel_rfl) (by kernel_rfl) (fun t Q => by kernel_rfl)
theorem ref16_Check_linked : Linked Tryz.prog ⟨39, [.agg [.o (.i .i64), .o (.i .i64), .o (.i .i64), .o (.i .i64)], .leaf (.o (.i .i64))], [.leaf (.o (.i .i64))], ref16_Check⟩ := linked_of (fn := Tryz.f39) Tryz.func39 rfl (by kernel_rfl) [] [] [] [(7, ⟨[(5, .leaf (.o (.i .i64))), (6, .leaf (.o (.i .i64)))], []⟩), (27, ⟨[(46, .leaf (.o (.b)))], []⟩)] allNil (by kernel_rfl) (by kernel_rfl) (by kernel_rfl) (fun t Q => by kernel_rfl)
theorem ref16_same_linked : Linked Tryz.prog ⟨52, [.leaf (.o (.sl)), .leaf (.o (.sl))], [.leaf (.o (.b))], ref16_same⟩ := linked_of (fn := Tryz.f52) Tryz.func52 rfl (by kernel_rfl) [] [] [(72, 2)] [(14, ⟨[(5, .leaf (.o (.i .i64)))], []⟩)] allNil (by kernel_rfl) (by kernel_rfl) (by kernel_rfl) (fun t Q => by kernel_rfl)
theorem ref16_Refuses_eq (ref08_Normal : (Int × Sl) → ((Sl × Int) → HProp) → HProp) (ref16_Check : (Int × Int × Int × Int × Int) → ((Int) → HProp) → HProp) (ref16_same : (Sl × Sl) → ((Bool) → HProp) → HProp) : (fun (t : Int × Sl × Int × Int × Int × Int) (Q : (Int) → HProp) => interpF ⟨Tryz.prog, [⟨28, [.leaf (.o (.i .i64)), .leaf (.o (.sl))], [.leaf (.o (.sl)), .leaf (.o (.i .i64))], ref08_Normal⟩, ⟨39, [.agg [.o (.i .i64), .o (.i .i64), .o (.i .i64), .o (.i .i64)], .leaf (.o (.i .i64))], [.leaf (.o (.i .i64))], ref16_Check⟩, ⟨52, [.leaf (.o (.sl)), .leaf (.o (.sl))], [.leaf (.o (.b))], ref16_same⟩], [], []⟩ Tryz.f32 [] [.leaf (.o (.i .i64)), .leaf (.o (.sl)), .agg [.o (.i .i64), .o (.i .i64), .o (.i .i64), .o (.i .i64)]] [.leaf (.o (.i .i64))] t Q : (Int × Sl × Int × Int × Int × Int) → ((Int) → HProp) → HProp) =
fun (t : Int × Sl × Int × Int × Int × Int) (Q : Int → HProp) =>
  ref08_Normal (t.fst, t.snd.fst) fun (r : Sl × Int) =>
    iteW (!eqI r.snd 0) (Q r.snd)
      (ref16_same (t.snd.fst, r.fst) fun (r : Bool) =>
        iteW (!r) (Q 2)
          (ref16_Check (t.snd.snd.fst, t.snd.snd.snd.fst, t.snd.snd.snd.snd.fst, t.snd.snd.snd.snd.snd, t.fst) Q))
  := by kernel_rfl
theorem ref16_Refuses_linked : Linked Tryz.prog ⟨32, [.leaf (.o (.i .i64)), .leaf (.o (.sl)), .agg [.o (.i .i64), .o (.i .i64), .o (.i .i64), .o (.i .i64)]], [.leaf (.o (.i .i64))], ref16_Refuses⟩ := linked_of (fn := Tryz.f32) Tryz.func32 rfl (by kernel_rfl) [⟨28, [.leaf (.o (.i .i64)), .leaf (.o (.sl))], [.leaf (.o (.sl)), .leaf (.o (.i .i64))], ref08_Normal⟩, ⟨39, [.agg [.o (.i .i64), .o (.i .i64), .o (.i .i64), .o (.i .i64)], .leaf (.o (.i .i64))], [.leaf (.o (.i .i64))], ref16_Check⟩, ⟨52, [.leaf (.o (.sl)), .leaf (.o (.sl))], [.leaf (.o (.b))], ref16_same⟩] [] [] [] (allCons ref08_Normal_linked (allCons ref16_Check_linked (allCons ref16_same_linked allNil))) (by kernel_rfl) (by kernel_rfl) (by kernel_rfl) (fun t Q => congrFun (congrFun (ref16_Refuses_eq ref08_Normal ref16_Check ref16_same) t) Q)
theorem ref09_Cut_linked : Linked Tryz.prog ⟨33, [.leaf (.o (.i .i64)), .leaf (.o (.i .i64))], [.leaf (.o (.sl)), .leaf (.o (.i .i64))], ref09_Cut⟩ := linked_of (fn := Tryz.f33) Tryz.func33 rfl (by kernel_rfl) [] [] [] [(4, ⟨[(26, .leaf (.o (.b)))], []⟩), (16, ⟨[(6, .leaf (.o (.sl))), (7, .leaf (.o (.i .i64)))], []⟩)] allNil (by kernel_rfl) (by kernel_rfl) (by kernel_rfl) (fun t Q => by kernel_rfl)
theorem ref28_New_eq (ref16_Refuses : (Int × Sl × Int × Int × Int × Int) → ((Int) → HProp) → HProp) (ref09_Cut : (Int × Int) → ((Sl × Int) → HProp) → HProp) : (fun (t : Int × Sl × Int × Int) (Q : ((Option Addr) × Int) → HProp) => interpF ⟨Tryz.prog, [⟨32, [.leaf (.o (.i .i64)), .leaf (.o (.sl)), .agg [.o (.i .i64), .o (.i .i64), .o (.i .i64), .o (.i .i64)]], [.leaf (.o (.i .i64))], ref16_Refuses⟩, ⟨33, [.leaf (.o (.i .i64)), .leaf (.o (.i .i64))], [.leaf (.o (.sl)), .leaf (.o (.i .i64))], ref09_Cut⟩], [36, 40], []⟩ Tryz.f9 [(24, ⟨[(32, .leaf (.o (.b)))], []⟩)] [.leaf (.o (.i .i64)), .leaf (.o (.sl)), .leaf (.o (.i .i64)), .leaf (.o (.i .i64))] [.leaf (.o (.p)), .leaf (.o (.i .i64))] t Q : (Int × Sl × Int × Int) → (((Option Addr) × Int) → HProp) → HProp) =
fun (t : Int × Sl × Int × Int) (Q : Option Addr × Int → HProp) =>
  ref16_Refuses (t.fst, t.snd.fst, 3, 0, 0, 0) fun (r : Int) =>
    iteW (!eqI r 0) (Q (none, r))
      (ref09_Cut (t.fst, t.snd.snd.fst) fun (r : Sl × Int) =>
        iteW (!eqI r.snd 0) (Q (none, r.snd))
          (withK
            (fun (t_1 : Bool) =>
              iteW t_1 (Q (none, 2))
                (newW [] fun (b : Nat) =>
                  rowW t.snd.fst 2 fun (l : List Value) =>
                    appendW (Sl.mk (some (Addr.mk b 0 none)) 0 0) [Value.int IntKind.i64 0, Value.int IntKind.i64 0] 16
                      t.snd.fst.len l fun (u : Sl) =>
                      newW
                        [Value.int IntKind.i64 t.fst, Value.int IntKind.i64 t.snd.snd.fst,
                          Value.int IntKind.i64 t.snd.snd.snd, Value.slice u.a u.len u.cap, Value.int IntKind.i64 (-1),
                          Value.slice (Sl.mk none 0 0).a 0 0]
                        fun (b : Nat) => Q (some (Addr.mk b 0 none), 0)))
            fun (k : Bool → HProp) =>
            iteW (ltI t.snd.snd.snd 1) (k true) (k (ltI 1099511627776 t.snd.snd.snd))))
  := by kernel_rfl
theorem ref28_New_linked : Linked Tryz.prog ⟨9, [.leaf (.o (.i .i64)), .leaf (.o (.sl)), .leaf (.o (.i .i64)), .leaf (.o (.i .i64))], [.leaf (.o (.p)), .leaf (.o (.i .i64))], ref28_New⟩ := linked_of (fn := Tryz.f9) Tryz.func9 rfl (by kernel_rfl) [⟨32, [.leaf (.o (.i .i64)), .leaf (.o (.sl)), .agg [.o (.i .i64), .o (.i .i64), .o (.i .i64), .o (.i .i64)]], [.leaf (.o (.i .i64))], ref16_Refuses⟩, ⟨33, [.leaf (.o (.i .i64)), .leaf (.o (.i .i64))], [.leaf (.o (.sl)), .leaf (.o (.i .i64))], ref09_Cut⟩] [36, 40] [] [(24, ⟨[(32, .leaf (.o (.b)))], []⟩)] (allCons ref16_Refuses_linked (allCons ref09_Cut_linked allNil)) (by kernel_rfl) (by kernel_rfl) (by kernel_rfl) (fun t Q => congrFun (congrFun (ref28_New_eq ref16_Refuses ref09_Cut) t) Q)
theorem law16_Ask_Made_linked : Linked Tryz.prog ⟨10, [.agg [.o (.i .u8), .o (.i .u8), .o (.i .u8), .o (.i .u16)], .leaf (.o (.i .i64))], [.agg [.o (.i .i64), .o (.i .i64), .o (.i .i64), .o (.i .i64)]], law16_Ask_Made⟩ := linked_of (fn := Tryz.f10) Tryz.func10 rfl (by kernel_rfl) [] [] [] [(7, ⟨[], [(2, [.o (.i .i64), .o (.i .i64), .o (.i .i64), .o (.i .i64)])]⟩)] allNil (by kernel_rfl) (by kernel_rfl) (by kernel_rfl) (fun t Q => by kernel_rfl)
theorem ref28_Table_many_linked : Linked Tryz.prog ⟨40, [.leaf (.o (.p)), .leaf (.o (.i .i64))], [.leaf (.o (.i .i64))], ref28_Table_many⟩ := linked_of (fn := Tryz.f40) Tryz.func40 rfl (by kernel_rfl) [] [] [] [(8, ⟨[(5, .leaf (.o (.i .i64))), (6, .leaf (.o (.i .i64)))], []⟩), (16, ⟨[(5, .leaf (.o (.i .i64)))], []⟩)] allNil (by kernel_rfl) (by kernel_rfl) (by kernel_rfl) (fun t Q => by kernel_rfl)
theorem ref16_First_linked : Linked Tryz.prog ⟨53, [.leaf (.o (.i .i64)), .agg [.o (.i .i64), .o (.i .i64), .o (.i .i64), .o (.i .i64)]], [.leaf (.o (.sl))], ref16_First⟩ := linked_of (fn := Tryz.f53) Tryz.func53 rfl (by kernel_rfl) [] [] [] [(8, ⟨[(6, .leaf (.o (.i .i64)))], []⟩), (19, ⟨[], []⟩)] allNil (by kernel_rfl) (by kernel_rfl) (by kernel_rfl) (fun t Q => by kernel_rfl)
theorem ref16_begins_linked : Linked Tryz.prog ⟨67, [.leaf (.o (.sl)), .leaf (.o (.i .i64))], [.leaf (.o (.i .u64))], ref16_begins⟩ := linked_of (fn := Tryz.f67) Tryz.func67 rfl (by kernel_rfl) [] [] [] [(8, ⟨[(5, .leaf (.o (.i .u64))), (6, .leaf (.o (.i .i64)))], []⟩), (16, ⟨[(5, .leaf (.o (.i .u64)))], []⟩)] allNil (by kernel_rfl) (by kernel_rfl) (by kernel_rfl) (fun t Q => by kernel_rfl)
theorem ref16_Next_eq (ref16_begins : (Sl × Int) → ((Int) → HProp) → HProp) : (fun (t : Sl × Sl × Int × Int × Int × Int) (Q : (Sl) → HProp) => interpF ⟨Tryz.prog, [⟨67, [.leaf (.o (.sl)), .leaf (.o (.i .i64))], [.leaf (.o (.i .u64))], ref16_begins⟩], [13], []⟩ Tryz.f54 [(10, ⟨[(9, .leaf (.o (.i .i64)))], []⟩), (23, ⟨[], []⟩), (28, ⟨[(55, .leaf (.o (.b)))], []⟩), (54, ⟨[(12, .leaf (.o (.i .i64)))], []⟩), (62, ⟨[], []⟩), (63, ⟨[], []⟩), (70, ⟨[(165, .leaf (.o (.b)))], []⟩)] [.leaf (.o (.sl)), .leaf (.o (.sl)), .agg [.o (.i .i64), .o (.i .i64), .o (.i .i64), .o (.i .i64)]] [.leaf (.o (.sl))] t Q : (Sl × Sl × Int × Int × Int × Int) → ((Sl) → HProp) → HProp) =
fun (t : Sl × Sl × Int × Int × Int × Int) (Q : Sl → HProp) =>
  newW [] fun (b : Nat) =>
    rowW t.fst 1 fun (l : List Value) =>
      appendW (Sl.mk (some (Addr.mk b 0 none)) 0 0) [Value.int IntKind.u64 0] 8 t.fst.len l fun (u : Sl) =>
        makeW ↑t.fst.len ↑t.fst.len [Value.int IntKind.u64 0] 8 fun (v : Sl) =>
          loopW 0 fun (s : Int) (k : Int → HProp) =>
            iteW (ltI s ↑t.snd.fst.len)
              (indexW s t.snd.fst 2 fun (a : Addr) =>
                loadI IntKind.i64 (a.add 0) fun (x : Int) =>
                  indexW s t.snd.fst 2 fun (a : Addr) =>
                    loadI IntKind.i64 (a.add 1) fun (x_1 : Int) =>
                      withK (fun (t : PUnit) => k (add IntKind.i64 s 1)) fun (k : PUnit → HProp) =>
                        iteW (eqI t.snd.snd.fst 1)
                          (withK
                            (fun (t_1 : Bool) =>
                              iteW t_1
                                (indexW x t.fst 1 fun (a : Addr) =>
                                  loadI IntKind.u64 a fun (x : Int) =>
                                    indexW x_1 u 1 fun (a : Addr) =>
                                      storeW a (Value.int IntKind.u64 (add IntKind.u64 x 1)) (k ()))
                                (k ()))
                            fun (k : Bool → HProp) =>
                            indexW x t.fst 1 fun (a : Addr) =>
                              loadI IntKind.u64 a fun (x_2 : Int) =>
                                iteW (!eqI x_2 18446744073709551615)
                                  (indexW x t.fst 1 fun (a : Addr) =>
                                    loadI IntKind.u64 a fun (x : Int) =>
                                      indexW x_1 u 1 fun (a : Addr) =>
                                        loadI IntKind.u64 a fun (x_3 : Int) => k (ltI (add IntKind.u64 x 1) x_3))
                                  (k false))
                          (iteW (eqI t.snd.snd.fst 2)
                            (indexW x_1 v 1 fun (a : Addr) =>
                              loadI IntKind.u64 a fun (x_2 : Int) =>
                                indexW x t.fst 1 fun (a_1 : Addr) =>
                                  loadI IntKind.u64 a_1 fun (x_3 : Int) =>
                                    ref16_begins (t.snd.fst, x) fun (r : Int) =>
                                      keepsW a (Rec.mk 5 (Pl.heap a) [Value.int IntKind.u64 x_2]).vs
                                        (keepsW a_1 (Rec.mk 9 (Pl.heap a_1) [Value.int IntKind.u64 x_3]).vs
                                          (mustW ((r : Int) ≠ 0)
                                            (indexW x_1 v 1 fun (a : Addr) =>
                                              storeW a
                                                (Value.int IntKind.u64 (add IntKind.u64 x_2 (quo IntKind.u64 x_3 r)))
                                                (k ())))))
                            (iteW (eqI t.snd.snd.fst 3)
                              (indexW x u 1 fun (a : Addr) =>
                                loadI IntKind.u64 a fun (x_2 : Int) =>
                                  indexW x_1 t.fst 1 fun (a : Addr) =>
                                    loadI IntKind.u64 a fun (x_3 : Int) =>
                                      indexW x u 1 fun (a : Addr) =>
                                        storeW a (Value.int IntKind.u64 (minI x_2 x_3))
                                          (indexW x_1 u 1 fun (a : Addr) =>
                                            loadI IntKind.u64 a fun (x_4 : Int) =>
                                              indexW x t.fst 1 fun (a : Addr) =>
                                                loadI IntKind.u64 a fun (x : Int) =>
                                                  indexW x_1 u 1 fun (a : Addr) =>
                                                    storeW a (Value.int IntKind.u64 (minI x_4 x)) (k ())))
                              (iteW (eqI t.snd.snd.fst 4)
                                (indexW x v 1 fun (a : Addr) =>
                                  loadI IntKind.u64 a fun (x_2 : Int) =>
                                    indexW x_1 t.fst 1 fun (a : Addr) =>
                                      loadI IntKind.u64 a fun (x_3 : Int) =>
                                        indexW x v 1 fun (a : Addr) =>
                                          storeW a (Value.int IntKind.u64 (add IntKind.u64 x_2 x_3))
                                            (indexW x_1 v 1 fun (a : Addr) =>
                                              loadI IntKind.u64 a fun (x_4 : Int) =>
                                                indexW x t.fst 1 fun (a : Addr) =>
                                                  loadI IntKind.u64 a fun (x : Int) =>
                                                    indexW x_1 v 1 fun (a : Addr) =>
                                                      storeW a (Value.int IntKind.u64 (add IntKind.u64 x_4 x)) (k ())))
                                (k ())))))
              (loopW 0 fun (s : Int) (k : Int → HProp) =>
                iteW (ltI s ↑u.len)
                  (withK (fun (t : PUnit) => k (add IntKind.i64 s 1)) fun (k : PUnit → HProp) =>
                    withK
                      (fun (t_1 : PUnit) =>
                        withK
                          (fun (t : Bool) =>
                            iteW t (indexW s u 1 fun (a : Addr) => storeW a (Value.int IntKind.u64 0) (k ())) (k ()))
                          fun (k : Bool → HProp) =>
                          iteW (eqI t.snd.snd.fst 4)
                            (indexW s v 1 fun (a : Addr) =>
                              loadI IntKind.u64 a fun (x : Int) => k (ltI x (cnv IntKind.u64 t.snd.snd.snd.fst)))
                            (k false))
                      fun (k : PUnit → HProp) =>
                      iteW (eqI t.snd.snd.fst 2)
                        (indexW s v 1 fun (a : Addr) =>
                          loadI IntKind.u64 a fun (x : Int) =>
                            mustW ((1000 : Int) ≠ 0)
                              (indexW s u 1 fun (a : Addr) =>
                                storeW a
                                  (Value.int IntKind.u64
                                    (add IntKind.u64 644245094 (quo IntKind.u64 (mul IntKind.u64 x 850) 1000)))
                                  (k ())))
                        (k ()))
                  (Q u))
  := by kernel_rfl
theorem ref16_Next_linked : Linked Tryz.prog ⟨54, [.leaf (.o (.sl)), .leaf (.o (.sl)), .agg [.o (.i .i64), .o (.i .i64), .o (.i .i64), .o (.i .i64)]], [.leaf (.o (.sl))], ref16_Next⟩ := linked_of (fn := Tryz.f54) Tryz.func54 rfl (by kernel_rfl) [⟨67, [.leaf (.o (.sl)), .leaf (.o (.i .i64))], [.leaf (.o (.i .u64))], ref16_begins⟩] [13] [] [(10, ⟨[(9, .leaf (.o (.i .i64)))], []⟩), (23, ⟨[], []⟩), (28, ⟨[(55, .leaf (.o (.b)))], []⟩), (54, ⟨[(12, .leaf (.o (.i .i64)))], []⟩), (62, ⟨[], []⟩), (63, ⟨[], []⟩), (70, ⟨[(165, .leaf (.o (.b)))], []⟩)] (allCons ref16_begins_linked allNil) (by kernel_rfl) (by kernel_rfl) (by kernel_rfl) (fun t Q => congrFun (congrFun (ref16_Next_eq ref16_begins) t) Q)
theorem ref16_Run_eq (ref16_Refuses : (Int × Sl × Int × Int × Int × Int) → ((Int) → HProp) → HProp) (ref16_First : (Int × Int × Int × Int × Int) → ((Sl) → HProp) → HProp) (ref16_Next : (Sl × Sl × Int × Int × Int × Int) → ((Sl) → HProp) → HProp) : (fun (t : Int × Sl × Int × Int × Int × Int) (Q : (Sl × Int × Int) → HProp) => interpF ⟨Tryz.prog, [⟨32, [.leaf (.o (.i .i64)), .leaf (.o (.sl)), .agg [.o (.i .i64), .o (.i .i64), .o (.i .i64), .o (.i .i64)]], [.leaf (.o (.i .i64))], ref16_Refuses⟩, ⟨53, [.leaf (.o (.i .i64)), .agg [.o (.i .i64), .o (.i .i64), .o (.i .i64), .o (.i .i64)]], [.leaf (.o (.sl))], ref16_First⟩, ⟨54, [.leaf (.o (.sl)), .leaf (.o (.sl)), .agg [.o (.i .i64), .o (.i .i64), .o (.i .i64), .o (.i .i64)]], [.leaf (.o (.sl))], ref16_Next⟩], [], []⟩ Tryz.f41 [(17, ⟨[(10, .leaf (.o (.sl))), (11, .leaf (.o (.i .i64)))], []⟩), (28, ⟨[(13, .leaf (.o (.b))), (14, .leaf (.o (.i .i64)))], []⟩), (37, ⟨[(13, .leaf (.o (.b)))], []⟩), (42, ⟨[(66, .leaf (.o (.b)))], []⟩)] [.leaf (.o (.i .i64)), .leaf (.o (.sl)), .agg [.o (.i .i64), .o (.i .i64), .o (.i .i64), .o (.i .i64)]] [.leaf (.o (.sl)), .leaf (.o (.i .i64)), .leaf (.o (.i .i64))] t Q : (Int × Sl × Int × Int × Int × Int) → ((Sl × Int × Int) → HProp) → HProp) =
fun (t : Int × Sl × Int × Int × Int × Int) (Q : Sl × Int × Int → HProp) =>
  ref16_Refuses (t.fst, t.snd.fst, t.snd.snd.fst, t.snd.snd.snd.fst, t.snd.snd.snd.snd.fst, t.snd.snd.snd.snd.snd)
    fun (r : Int) =>
    iteW (!eqI r 0) (Q (Sl.mk none 0 0, 0, r))
      (ref16_First (t.fst, t.snd.snd.fst, t.snd.snd.snd.fst, t.snd.snd.snd.snd.fst, t.snd.snd.snd.snd.snd)
        fun (r : Sl) =>
        loopW (r, 1) fun (s : Sl × Int) (k : Sl × Int → HProp) =>
          ref16_Next (s.fst, t.snd.fst, t.snd.snd.fst, t.snd.snd.snd.fst, t.snd.snd.snd.snd.fst, t.snd.snd.snd.snd.snd)
            fun (r : Sl) =>
            loopW (false, 0) fun (s_1 : Bool × Int) (k_1 : Bool × Int → HProp) =>
              iteW (ltI s_1.snd t.fst)
                (withK (fun (t : Bool) => k_1 (t, add IntKind.i64 s_1.snd 1))
                  fun (k : Bool → HProp) =>
                  iteW s_1.fst (k true)
                    (indexW s_1.snd r 1 fun (a : Addr) =>
                      loadI IntKind.u64 a fun (x : Int) =>
                        indexW s_1.snd s.fst 1 fun (a : Addr) => loadI IntKind.u64 a fun (x_1 : Int) => k !eqI x x_1))
                (withK (fun (t : Bool) => iteW t (Q (r, s.snd, 0)) (k (r, add IntKind.i64 s.snd 1)))
                  fun (k : Bool → HProp) =>
                  iteW (eqI t.snd.snd.fst 2)
                    (iteW (eqI s.snd t.snd.snd.snd.fst) (k true) (iteW (!eqI t.snd.snd.fst 2) (k !s_1.fst) (k false)))
                    (iteW (!eqI t.snd.snd.fst 2) (k !s_1.fst) (k false))))
  := by kernel_rfl
theorem ref16_Run_linked : Linked Tryz.prog ⟨41, [.leaf (.o (.i .i64)), .leaf (.o (.sl)), .agg [.o (.i .i64), .o (.i .i64), .o (.i .i64), .o (.i .i64)]], [.leaf (.o (.sl)), .leaf (.o (.i .i64)), .leaf (.o (.i .i64))], ref16_Run⟩ := linked_of (fn := Tryz.f41) Tryz.func41 rfl (by kernel_rfl) [⟨32, [.leaf (.o (.i .i64)), .leaf (.o (.sl)), .agg [.o (.i .i64), .o (.i .i64), .o (.i .i64), .o (.i .i64)]], [.leaf (.o (.i .i64))], ref16_Refuses⟩, ⟨53, [.leaf (.o (.i .i64)), .agg [.o (.i .i64), .o (.i .i64), .o (.i .i64), .o (.i .i64)]], [.leaf (.o (.sl))], ref16_First⟩, ⟨54, [.leaf (.o (.sl)), .leaf (.o (.sl)), .agg [.o (.i .i64), .o (.i .i64), .o (.i .i64), .o (.i .i64)]], [.leaf (.o (.sl))], ref16_Next⟩] [] [] [(17, ⟨[(10, .leaf (.o (.sl))), (11, .leaf (.o (.i .i64)))], []⟩), (28, ⟨[(13, .leaf (.o (.b))), (14, .leaf (.o (.i .i64)))], []⟩), (37, ⟨[(13, .leaf (.o (.b)))], []⟩), (42, ⟨[(66, .leaf (.o (.b)))], []⟩)] (allCons ref16_Refuses_linked (allCons ref16_First_linked (allCons ref16_Next_linked allNil))) (by kernel_rfl) (by kernel_rfl) (by kernel_rfl) (fun t Q => congrFun (congrFun (ref16_Run_eq ref16_Refuses ref16_First ref16_Next) t) Q)
theorem ref28_Table_Submit_eq (ref16_Check : (Int × Int × Int × Int × Int) → ((Int) → HProp) → HProp) (ref28_Table_many : ((Option Addr) × Int) → ((Int) → HProp) → HProp) (ref16_Run : (Int × Sl × Int × Int × Int × Int) → ((Sl × Int × Int) → HProp) → HProp) : (fun (t : (Option Addr) × Int × Int × Int × Int) (Q : (Int × Int) → HProp) => interpF ⟨Tryz.prog, [⟨39, [.agg [.o (.i .i64), .o (.i .i64), .o (.i .i64), .o (.i .i64)], .leaf (.o (.i .i64))], [.leaf (.o (.i .i64))], ref16_Check⟩, ⟨40, [.leaf (.o (.p)), .leaf (.o (.i .i64))], [.leaf (.o (.i .i64))], ref28_Table_many⟩, ⟨41, [.leaf (.o (.i .i64)), .leaf (.o (.sl)), .agg [.o (.i .i64), .o (.i .i64), .o (.i .i64), .o (.i .i64)]], [.leaf (.o (.sl)), .leaf (.o (.i .i64)), .leaf (.o (.i .i64))], ref16_Run⟩], [], []⟩ Tryz.f12 [(4, ⟨[(6, .leaf (.o (.i .i64)))], []⟩), (6, ⟨[(21, .leaf (.o (.b)))], []⟩), (10, ⟨[(32, .leaf (.o (.b)))], []⟩), (14, ⟨[(47, .leaf (.o (.b)))], []⟩)] [.leaf (.o (.p)), .agg [.o (.i .i64), .o (.i .i64), .o (.i .i64), .o (.i .i64)]] [.leaf (.o (.i .i64)), .leaf (.o (.i .i64))] t Q : ((Option Addr) × Int × Int × Int × Int) → ((Int × Int) → HProp) → HProp) =
fun (t : Option Addr × Int × Int × Int × Int) (Q : Int × Int → HProp) =>
  derefW t.fst fun (a : Addr) =>
    loadI IntKind.i64 (a.add 0) fun (x : Int) =>
      ref16_Check (t.snd.fst, t.snd.snd.fst, t.snd.snd.snd.fst, t.snd.snd.snd.snd, x) fun (r : Int) =>
        withK
          (fun (t_1 : Int) =>
            iteW (!eqI t_1 0) (Q (0, t_1))
              (derefW t.fst fun (a : Addr) =>
                loadI IntKind.i64 (a.add 0) fun (x : Int) =>
                  derefW t.fst fun (a : Addr) =>
                    loadL (a.add 3) fun (x_1 : Sl) =>
                      ref16_Run (x, x_1, t.snd.fst, t.snd.snd.fst, t.snd.snd.snd.fst, t.snd.snd.snd.snd)
                        fun (r : Sl × Int × Int) =>
                        iteW (!eqI r.snd.snd 0) (Q (0, r.snd.snd))
                          (derefW t.fst fun (a : Addr) =>
                            loadL (a.add 5) fun (x : Sl) =>
                              derefW t.fst fun (a_1 : Addr) =>
                                loadI IntKind.i64 (a_1.add 1) fun (x_2 : Int) =>
                                  keepsW (a.add 5) (Rec.mk 4 (Pl.heap (a.add 5)) [Value.slice x.a x.len x.cap]).vs
                                    (appendW x
                                      [Value.int IntKind.i64 0, Value.int IntKind.i64 0, Value.int IntKind.i64 0,
                                        Value.int IntKind.i64 0, Value.int IntKind.i64 0, Value.int IntKind.i64 0,
                                        Value.int IntKind.i64 0, Value.int IntKind.i64 0, Value.int IntKind.i64 0,
                                        Value.bool false, Value.slice (Sl.mk none 0 0).a 0 0]
                                      104 1
                                      [Value.int IntKind.i64 t.snd.fst, Value.int IntKind.i64 t.snd.snd.fst,
                                        Value.int IntKind.i64 t.snd.snd.snd.fst,
                                        Value.int IntKind.i64 t.snd.snd.snd.snd, Value.int IntKind.i64 1,
                                        Value.int IntKind.i64 0, Value.int IntKind.i64 0,
                                        Value.int IntKind.i64 (mul IntKind.i64 r.snd.fst x_2), Value.int IntKind.i64 0,
                                        Value.bool false, Value.slice r.fst.a r.fst.len r.fst.cap]
                                      fun (u : Sl) =>
                                      derefW t.fst fun (a : Addr) =>
                                        storeW (a.add 5) (Value.slice u.a u.len u.cap)
                                          (derefW t.fst fun (a : Addr) =>
                                            loadL (a.add 5) fun (x : Sl) => Q (↑x.len, 0))))))
          fun (k : Int → HProp) =>
          withK
            (fun (t_1 : Bool) =>
              iteW t_1 (k 2)
                (withK
                  (fun (t_2 : Bool) =>
                    iteW t_2 (k 3)
                      (withK (fun (t : Bool) => iteW t (k 230) (k r)) fun (k : Bool → HProp) =>
                        iteW (eqI r 0)
                          (ref28_Table_many (t.fst, 1) fun (r : Int) =>
                            iteW (leI 8 r) (k true)
                              (derefW t.fst fun (a : Addr) => loadL (a.add 5) fun (x : Sl) => k (leI 999999 ↑x.len)))
                          (k false)))
                  fun (k : Bool → HProp) =>
                  iteW (eqI r 0)
                    (derefW t.fst fun (a : Addr) =>
                      loadI IntKind.i64 (a.add 2) fun (x : Int) => k (ltI x t.snd.snd.snd.snd))
                    (k false)))
            fun (k : Bool → HProp) => iteW (eqI r 0) (k (ltI t.snd.snd.snd.snd 256)) (k false)
  := by kernel_rfl
theorem ref28_Table_Submit_linked : Linked Tryz.prog ⟨12, [.leaf (.o (.p)), .agg [.o (.i .i64), .o (.i .i64), .o (.i .i64), .o (.i .i64)]], [.leaf (.o (.i .i64)), .leaf (.o (.i .i64))], ref28_Table_Submit⟩ := linked_of (fn := Tryz.f12) Tryz.func12 rfl (by kernel_rfl) [⟨39, [.agg [.o (.i .i64), .o (.i .i64), .o (.i .i64), .o (.i .i64)], .leaf (.o (.i .i64))], [.leaf (.o (.i .i64))], ref16_Check⟩, ⟨40, [.leaf (.o (.p)), .leaf (.o (.i .i64))], [.leaf (.o (.i .i64))], ref28_Table_many⟩, ⟨41, [.leaf (.o (.i .i64)), .leaf (.o (.sl)), .agg [.o (.i .i64), .o (.i .i64), .o (.i .i64), .o (.i .i64)]], [.leaf (.o (.sl)), .leaf (.o (.i .i64)), .leaf (.o (.i .i64))], ref16_Run⟩] [] [] [(4, ⟨[(6, .leaf (.o (.i .i64)))], []⟩), (6, ⟨[(21, .leaf (.o (.b)))], []⟩), (10, ⟨[(32, .leaf (.o (.b)))], []⟩), (14, ⟨[(47, .leaf (.o (.b)))], []⟩)] (allCons ref16_Check_linked (allCons ref28_Table_many_linked (allCons ref16_Run_linked allNil))) (by kernel_rfl) (by kernel_rfl) (by kernel_rfl) (fun t Q => congrFun (congrFun (ref28_Table_Submit_eq ref16_Check ref28_Table_many ref16_Run) t) Q)
theorem ref28_Table_Cancel_linked : Linked Tryz.prog ⟨14, [.leaf (.o (.p)), .leaf (.o (.i .i64))], [.leaf (.o (.i .i64))], ref28_Table_Cancel⟩ := linked_of (fn := Tryz.f14) Tryz.func14 rfl (by kernel_rfl) [] [] [] [(4, ⟨[(16, .leaf (.o (.b)))], []⟩), (14, ⟨[(31, .leaf (.o (.b)))], []⟩)] allNil (by kernel_rfl) (by kernel_rfl) (by kernel_rfl) (fun t Q => by kernel_rfl)
theorem ref28_Table_Poll_linked : Linked Tryz.prog ⟨16, [.leaf (.o (.p)), .leaf (.o (.i .i64))], [.agg [.o (.i .i64), .o (.i .i64), .o (.i .i64)], .leaf (.o (.i .i64))], ref28_Table_Poll⟩ := linked_of (fn := Tryz.f16) Tryz.func16 rfl (by kernel_rfl) [] [] [] [(4, ⟨[(18, .leaf (.o (.b)))], []⟩), (14, ⟨[(7, .leaf (.o (.i .i64)))], []⟩)] allNil (by kernel_rfl) (by kernel_rfl) (by kernel_rfl) (fun t Q => by kernel_rfl)
theorem table_Table_Result_eq (truth_Of : (Int × Sl × Int × Int × Int × Int) → ((Sl × Int) → HProp) → HProp) (table_Table_find : ((Option Addr) × Int) → (((Option Addr) × Int) → HProp) → HProp) : (fun (t : (Option Addr) × Int) (Q : (Sl × Int) → HProp) => interpF ⟨Tryz.prog, [⟨29, [.leaf (.o (.i .i64)), .leaf (.o (.sl)), .agg [.o (.i .i64), .o (.i .i64), .o (.i .i64), .o (.i .i64)]], [.leaf (.o (.sl)), .leaf (.o (.i .i64))], truth_Of⟩, ⟨42, [.leaf (.o (.p)), .leaf (.o (.i .i64))], [.leaf (.o (.p)), .leaf (.o (.i .i64))], table_Table_find⟩], [], []⟩ Tryz.f17 [(22, ⟨[(38, .leaf (.o (.b)))], []⟩)] [.leaf (.o (.p)), .leaf (.o (.i .i64))] [.leaf (.o (.sl)), .leaf (.o (.i .i64))] t Q : ((Option Addr) × Int) → ((Sl × Int) → HProp) → HProp) =
fun (t : Option Addr × Int) (Q : Sl × Int → HProp) =>
  table_Table_find (t.fst, t.snd) fun (r : Option Addr × Int) =>
    iteW (!eqI r.snd 0) (Q (Sl.mk none 0 0, r.snd))
      (derefW r.fst fun (a : Addr) =>
        loadI IntKind.i64 (a.add 4) fun (x : Int) =>
          iteW (eqI x 3)
            (derefW t.fst fun (a : Addr) =>
              loadI IntKind.i64 (a.add 0) fun (x : Int) =>
                derefW t.fst fun (a : Addr) =>
                  loadL (a.add 3) fun (x_1 : Sl) =>
                    derefW r.fst fun (a : Addr) =>
                      loadI IntKind.i64 ((a.add 0).add 0) fun (x_2 : Int) =>
                        loadI IntKind.i64 ((a.add 0).add 1) fun (x_3 : Int) =>
                          loadI IntKind.i64 ((a.add 0).add 2) fun (x_4 : Int) =>
                            loadI IntKind.i64 ((a.add 0).add 3) fun (x_5 : Int) =>
                              truth_Of (x, x_1, x_2, x_3, x_4, x_5) fun (r : Sl × Int) => Q (r.fst, r.snd))
            (withK (fun (t : Bool) => iteW t (Q (Sl.mk none 0 0, 271)) (Q (Sl.mk none 0 0, 272)))
              fun (k : Bool → HProp) => iteW (eqI x 1) (k (eqI x 1)) (k (eqI x 2))))
  := by kernel_rfl
theorem table_Table_Result_linked : Linked Tryz.prog ⟨17, [.leaf (.o (.p)), .leaf (.o (.i .i64))], [.leaf (.o (.sl)), .leaf (.o (.i .i64))], table_Table_Result⟩ := linked_of (fn := Tryz.f17) Tryz.func17 rfl (by kernel_rfl) [⟨29, [.leaf (.o (.i .i64)), .leaf (.o (.sl)), .agg [.o (.i .i64), .o (.i .i64), .o (.i .i64), .o (.i .i64)]], [.leaf (.o (.sl)), .leaf (.o (.i .i64))], truth_Of⟩, ⟨42, [.leaf (.o (.p)), .leaf (.o (.i .i64))], [.leaf (.o (.p)), .leaf (.o (.i .i64))], table_Table_find⟩] [] [] [(22, ⟨[(38, .leaf (.o (.b)))], []⟩)] (allCons truth_Of_linked (allCons table_Table_find_linked allNil)) (by kernel_rfl) (by kernel_rfl) (by kernel_rfl) (fun t Q => congrFun (congrFun (table_Table_Result_eq truth_Of table_Table_find) t) Q)
theorem ref28_Table_Told_linked : Linked Tryz.prog ⟨18, [.leaf (.o (.p)), .leaf (.o (.i .i64))], [.leaf (.o (.sl)), .leaf (.o (.i .i64))], ref28_Table_Told⟩ := linked_of (fn := Tryz.f18) Tryz.func18 rfl (by kernel_rfl) [] [28] [] [(4, ⟨[(16, .leaf (.o (.b)))], []⟩), (20, ⟨[(39, .leaf (.o (.b)))], []⟩)] allNil (by kernel_rfl) (by kernel_rfl) (by kernel_rfl) (fun t Q => by kernel_rfl)
theorem law16_Numbers_linked : Linked Tryz.prog ⟨19, [.leaf (.o (.sl)), .leaf (.o (.sl))], [.leaf (.o (.b))], law16_Numbers⟩ := linked_of (fn := Tryz.f19) Tryz.func19 rfl (by kernel_rfl) [] [] [] [(14, ⟨[(5, .leaf (.o (.i .i64)))], []⟩)] allNil (by kernel_rfl) (by kernel_rfl) (by kernel_rfl) (fun t Q => by kernel_rfl)
theorem law28_fault_linked : Linked Tryz.prog ⟨21, [.leaf (.o (.i .i64))], [.leaf (.o (.i .i64))], law28_fault⟩ := linked_of (fn := Tryz.f21) Tryz.func21 rfl (by kernel_rfl) [] [] [] [] allNil (by kernel_rfl) (by kernel_rfl) (by kernel_rfl) (fun t Q => by kernel_rfl)
theorem ref28_Table_Waiting_linked : Linked Tryz.prog ⟨25, [.leaf (.o (.p))], [.leaf (.o (.sl))], ref28_Table_Waiting⟩ := linked_of (fn := Tryz.f25) Tryz.func25 rfl (by kernel_rfl) [] [] [] [(8, ⟨[(3, .leaf (.o (.sl))), (4, .leaf (.o (.i .i64)))], []⟩), (16, ⟨[(3, .leaf (.o (.sl)))], []⟩), (18, ⟨[(32, .leaf (.o (.b)))], []⟩)] allNil (by kernel_rfl) (by kernel_rfl) (by kernel_rfl) (fun t Q => by kernel_rfl)
theorem ref28_Table_Used_linked : Linked Tryz.prog ⟨27, [.leaf (.o (.p))], [.leaf (.o (.i .i64))], ref28_Table_Used⟩ := linked_of (fn := Tryz.f27) Tryz.func27 rfl (by kernel_rfl) [] [] [] [(8, ⟨[(3, .leaf (.o (.i .i64))), (4, .leaf (.o (.i .i64)))], []⟩), (16, ⟨[(3, .leaf (.o (.i .i64)))], []⟩)] allNil (by kernel_rfl) (by kernel_rfl) (by kernel_rfl) (fun t Q => by kernel_rfl)
theorem ref28_Table_fails_linked : Linked Tryz.prog ⟨48, [.leaf (.o (.p)), .leaf (.o (.i .i64)), .leaf (.o (.i .i64))], [], ref28_Table_fails⟩ := linked_of (fn := Tryz.f48) Tryz.func48 rfl (by kernel_rfl) [] [] [] [] allNil (by kernel_rfl) (by kernel_rfl) (by kernel_rfl) (fun t Q => by kernel_rfl)
theorem ref28_Table_turn_linked : Linked Tryz.prog ⟨57, [.leaf (.o (.p))], [.leaf (.o (.i .i64))], ref28_Table_turn⟩ := linked_of (fn := Tryz.f57) Tryz.func57 rfl (by kernel_rfl) [] [] [] [(8, ⟨[(3, .leaf (.o (.i .i64))), (4, .leaf (.o (.i .i64))), (5, .leaf (.o (.i .i64)))], []⟩), (16, ⟨[(3, .leaf (.o (.i .i64))), (4, .leaf (.o (.i .i64)))], []⟩), (20, ⟨[(48, .leaf (.o (.b)))], []⟩)] allNil (by kernel_rfl) (by kernel_rfl) (by kernel_rfl) (fun t Q => by kernel_rfl)
theorem ref28_Table_tick_eq (ref28_Table_Used : ((Option Addr)) → ((Int) → HProp) → HProp) (ref28_Table_many : ((Option Addr) × Int) → ((Int) → HProp) → HProp) (ref28_Table_fails : ((Option Addr) × Int × Int) → ((Unit) → HProp) → HProp) (ref28_Table_turn : ((Option Addr)) → ((Int) → HProp) → HProp) : (fun (t : (Option Addr) × Int) (Q : (Int × Int × Int × Int) → HProp) => interpF ⟨Tryz.prog, [⟨27, [.leaf (.o (.p))], [.leaf (.o (.i .i64))], ref28_Table_Used⟩, ⟨40, [.leaf (.o (.p)), .leaf (.o (.i .i64))], [.leaf (.o (.i .i64))], ref28_Table_many⟩, ⟨48, [.leaf (.o (.p)), .leaf (.o (.i .i64)), .leaf (.o (.i .i64))], [], ref28_Table_fails⟩, ⟨57, [.leaf (.o (.p))], [.leaf (.o (.i .i64))], ref28_Table_turn⟩], [], []⟩ Tryz.f47 [(6, ⟨[(5, .leaf (.o (.i .i64)))], []⟩), (14, ⟨[], []⟩), (22, ⟨[], []⟩), (23, ⟨[], []⟩), (35, ⟨[(62, .leaf (.o (.b)))], []⟩), (54, ⟨[(7, .leaf (.o (.i .i64)))], []⟩), (62, ⟨[], []⟩)] [.leaf (.o (.p)), .leaf (.o (.i .i64))] [.agg [.o (.i .i64), .o (.i .i64), .o (.i .i64), .o (.i .i64)]] t Q : ((Option Addr) × Int) → ((Int × Int × Int × Int) → HProp) → HProp) =
fun (t : Option Addr × Int) (Q : Int × Int × Int × Int → HProp) =>
  loopW 0 fun (s : Int) (k : Int → HProp) =>
    derefW t.fst fun (a : Addr) =>
      loadL (a.add 5) fun (x : Sl) =>
        iteW (ltI s ↑x.len)
          (withK (fun (t : PUnit) => k (add IntKind.i64 s 1)) fun (k : PUnit → HProp) =>
            derefW t.fst fun (a : Addr) =>
              loadL (a.add 5) fun (x : Sl) =>
                indexW s x 11 fun (a : Addr) =>
                  loadI IntKind.i64 (a.add 4) fun (x : Int) =>
                    iteW (eqI x 1)
                      (derefW t.fst fun (a : Addr) =>
                        loadL (a.add 5) fun (x : Sl) =>
                          indexW s x 11 fun (a : Addr) =>
                            loadI IntKind.i64 (a.add 8) fun (x_1 : Int) =>
                              indexW s x 11 fun (a : Addr) =>
                                storeW (a.add 8) (Value.int IntKind.i64 (add IntKind.i64 x_1 1)) (k ()))
                      (k ()))
          (withK
            (fun (t_1 : PUnit) =>
              ref28_Table_many (t.fst, 2) fun (r : Int) =>
                iteW (eqI r 0) (Q (1, 0, 0, 0))
                  (derefW t.fst fun (a : Addr) =>
                    loadI IntKind.i64 (a.add 4) fun (x : Int) =>
                      derefW t.fst fun (a : Addr) =>
                        loadI IntKind.i64 (a.add 1) fun (x_1 : Int) =>
                          mustW ((x_1 : Int) ≠ 0)
                            (derefW t.fst fun (a : Addr) =>
                              storeW (a.add 4) (Value.int IntKind.i64 (rem (add IntKind.i64 x 1) x_1))
                                (loopW 0 fun (s : Int) (k : Int → HProp) =>
                                  derefW t.fst fun (a : Addr) =>
                                    loadL (a.add 5) fun (x : Sl) =>
                                      iteW (ltI s ↑x.len)
                                        (withK (fun (t : PUnit) => k (add IntKind.i64 s 1))
                                          fun (k : PUnit → HProp) =>
                                          derefW t.fst fun (a : Addr) =>
                                            loadL (a.add 5) fun (x : Sl) =>
                                              indexW s x 11 fun (a : Addr) =>
                                                loadI IntKind.i64 (a.add 4) fun (x : Int) =>
                                                  iteW (!eqI x 2) (k ())
                                                    (derefW t.fst fun (a : Addr) =>
                                                      loadL (a.add 5) fun (x : Sl) =>
                                                        indexW s x 11 fun (a : Addr) =>
                                                          storeW (a.add 9) (Value.bool true)
                                                            (iteW (!eqI t.snd 0)
                                                              (ref28_Table_fails (t.fst, s, t.snd) fun (r : PUnit) =>
                                                                k ())
                                                              (k ()))))
                                        (iteW (!eqI t.snd 0)
                                          (derefW t.fst fun (a : Addr) =>
                                            loadI IntKind.i64 (a.add 4) fun (x : Int) => Q (4, x, 0, t.snd))
                                          (derefW t.fst fun (a : Addr) =>
                                            loadI IntKind.i64 (a.add 4) fun (x : Int) => Q (2, x, 0, 0)))))))
            fun (k : PUnit → HProp) =>
            loopW () fun (s : PUnit) (k_1 : PUnit → HProp) =>
              ref28_Table_many (t.fst, 2) fun (r : Int) =>
                iteW (ltI r 4)
                  (ref28_Table_turn t.fst fun (r : Int) =>
                    withK
                      (fun (t_1 : Bool) =>
                        iteW t_1 (k ())
                          (derefW t.fst fun (a : Addr) =>
                            loadL (a.add 5) fun (x : Sl) =>
                              indexW r x 11 fun (a : Addr) => storeW (a.add 4) (Value.int IntKind.i64 2) (k_1 ())))
                      fun (k : Bool → HProp) =>
                      iteW (ltI r 0) (k true)
                        (derefW t.fst fun (a : Addr) =>
                          loadL (a.add 5) fun (x : Sl) =>
                            indexW r x 11 fun (a_1 : Addr) =>
                              loadI IntKind.i64 ((a_1.add 0).add 3) fun (x_1 : Int) =>
                                derefW t.fst fun (a_2 : Addr) =>
                                  loadI IntKind.i64 (a_2.add 2) fun (x_2 : Int) =>
                                    ref28_Table_Used t.fst fun (r : Int) =>
                                      keepsW (a.add 5) (Rec.mk 6 (Pl.heap (a.add 5)) [Value.slice x.a x.len x.cap]).vs
                                        (keepsW ((a_1.add 0).add 3)
                                          (Rec.mk 11 (Pl.heap ((a_1.add 0).add 3)) [Value.int IntKind.i64 x_1]).vs
                                          (keepsW (a_2.add 2)
                                            (Rec.mk 15 (Pl.heap (a_2.add 2)) [Value.int IntKind.i64 x_2]).vs
                                            (k (ltI (sub IntKind.i64 x_2 r) x_1))))))
                  (k ()))
  := by kernel_rfl
theorem ref28_Table_tick_linked : Linked Tryz.prog ⟨47, [.leaf (.o (.p)), .leaf (.o (.i .i64))], [.agg [.o (.i .i64), .o (.i .i64), .o (.i .i64), .o (.i .i64)]], ref28_Table_tick⟩ := linked_of (fn := Tryz.f47) Tryz.func47 rfl (by kernel_rfl) [⟨27, [.leaf (.o (.p))], [.leaf (.o (.i .i64))], ref28_Table_Used⟩, ⟨40, [.leaf (.o (.p)), .leaf (.o (.i .i64))], [.leaf (.o (.i .i64))], ref28_Table_many⟩, ⟨48, [.leaf (.o (.p)), .leaf (.o (.i .i64)), .leaf (.o (.i .i64))], [], ref28_Table_fails⟩, ⟨57, [.leaf (.o (.p))], [.leaf (.o (.i .i64))], ref28_Table_turn⟩] [] [] [(6, ⟨[(5, .leaf (.o (.i .i64)))], []⟩), (14, ⟨[], []⟩), (22, ⟨[], []⟩), (23, ⟨[], []⟩), (35, ⟨[(62, .leaf (.o (.b)))], []⟩), (54, ⟨[(7, .leaf (.o (.i .i64)))], []⟩), (62, ⟨[], []⟩)] (allCons ref28_Table_Used_linked (allCons ref28_Table_many_linked (allCons ref28_Table_fails_linked (allCons ref28_Table_turn_linked allNil)))) (by kernel_rfl) (by kernel_rfl) (by kernel_rfl) (fun t Q => congrFun (congrFun (ref28_Table_tick_eq ref28_Table_Used ref28_Table_many ref28_Table_fails ref28_Table_turn) t) Q)
theorem ref28_Table_Step_eq (ref28_Table_Waiting : ((Option Addr)) → ((Sl) → HProp) → HProp) (ref28_Table_tick : ((Option Addr) × Int) → ((Int × Int × Int × Int) → HProp) → HProp) (ref28_Table_fails : ((Option Addr) × Int × Int) → ((Unit) → HProp) → HProp) : (fun (t : (Option Addr) × Int × Int) (Q : (Int × Int × Int × Int × Int) → HProp) => interpF ⟨Tryz.prog, [⟨25, [.leaf (.o (.p))], [.leaf (.o (.sl))], ref28_Table_Waiting⟩, ⟨47, [.leaf (.o (.p)), .leaf (.o (.i .i64))], [.agg [.o (.i .i64), .o (.i .i64), .o (.i .i64), .o (.i .i64)]], ref28_Table_tick⟩, ⟨48, [.leaf (.o (.p)), .leaf (.o (.i .i64)), .leaf (.o (.i .i64))], [], ref28_Table_fails⟩], [], []⟩ Tryz.f22 [(14, ⟨[(25, .leaf (.o (.b)))], []⟩), (24, ⟨[], []⟩)] [.leaf (.o (.p)), .leaf (.o (.i .i64)), .leaf (.o (.i .i64))] [.agg [.o (.i .i64), .o (.i .i64), .o (.i .i64), .o (.i .i64)], .leaf (.o (.i .i64))] t Q : ((Option Addr) × Int × Int) → ((Int × Int × Int × Int × Int) → HProp) → HProp) =
fun (t : Option Addr × Int × Int) (Q : Int × Int × Int × Int × Int → HProp) =>
  ref28_Table_Waiting t.fst fun (r : Sl) =>
    iteW (eqI (↑r.len) 0)
      (ref28_Table_tick (t.fst, t.snd.snd) fun (r : Int × Int × Int × Int) =>
        Q (r.fst, r.snd.fst, r.snd.snd.fst, r.snd.snd.snd, 0))
      (withK
        (fun (t_1 : Bool) =>
          iteW t_1 (Q (0, 0, 0, 0, 2))
            (indexW t.snd.fst r 1 fun (a : Addr) =>
              loadI IntKind.i64 a fun (x : Int) =>
                derefW t.fst fun (a : Addr) =>
                  loadL (a.add 5) fun (x_1 : Sl) =>
                    indexW (sub IntKind.i64 x 1) x_1 11 fun (a : Addr) =>
                      storeW (a.add 9) (Value.bool false)
                        (withK
                          (fun (t_2 : PUnit) =>
                            derefW t.fst fun (a : Addr) =>
                              loadI IntKind.i64 (a.add 4) fun (x_2 : Int) =>
                                Q (3, x_2, add IntKind.i64 (sub IntKind.i64 x 1) 1, t.snd.snd, 0))
                          fun (k : PUnit → HProp) =>
                          iteW (!eqI t.snd.snd 0)
                            (ref28_Table_fails (t.fst, sub IntKind.i64 x 1, t.snd.snd) fun (r : PUnit) => k ())
                            (derefW t.fst fun (a : Addr) =>
                              loadL (a.add 5) fun (x_2 : Sl) =>
                                indexW (sub IntKind.i64 x 1) x_2 11 fun (a : Addr) =>
                                  loadI IntKind.i64 (a.add 6) fun (x_3 : Int) =>
                                    indexW (sub IntKind.i64 x 1) x_2 11 fun (a : Addr) =>
                                      storeW (a.add 6) (Value.int IntKind.i64 (add IntKind.i64 x_3 1))
                                        (derefW t.fst fun (a : Addr) =>
                                          loadL (a.add 5) fun (x_4 : Sl) =>
                                            indexW (sub IntKind.i64 x 1) x_4 11 fun (a : Addr) =>
                                              loadI IntKind.i64 (a.add 6) fun (x_5 : Int) =>
                                                derefW t.fst fun (a : Addr) =>
                                                  loadL (a.add 5) fun (x_6 : Sl) =>
                                                    indexW (sub IntKind.i64 x 1) x_6 11 fun (a : Addr) =>
                                                      loadI IntKind.i64 (a.add 7) fun (x_7 : Int) =>
                                                        iteW (eqI x_5 x_7)
                                                          (derefW t.fst fun (a : Addr) =>
                                                            loadL (a.add 5) fun (x_8 : Sl) =>
                                                              indexW (sub IntKind.i64 x 1) x_8 11 fun (a : Addr) =>
                                                                storeW (a.add 4) (Value.int IntKind.i64 3) (k ()))
                                                          (k ()))))))
        fun (k : Bool → HProp) => iteW (ltI t.snd.fst 0) (k true) (k (leI (↑r.len) t.snd.fst)))
  := by kernel_rfl
theorem ref28_Table_Step_linked : Linked Tryz.prog ⟨22, [.leaf (.o (.p)), .leaf (.o (.i .i64)), .leaf (.o (.i .i64))], [.agg [.o (.i .i64), .o (.i .i64), .o (.i .i64), .o (.i .i64)], .leaf (.o (.i .i64))], ref28_Table_Step⟩ := linked_of (fn := Tryz.f22) Tryz.func22 rfl (by kernel_rfl) [⟨25, [.leaf (.o (.p))], [.leaf (.o (.sl))], ref28_Table_Waiting⟩, ⟨47, [.leaf (.o (.p)), .leaf (.o (.i .i64))], [.agg [.o (.i .i64), .o (.i .i64), .o (.i .i64), .o (.i .i64)]], ref28_Table_tick⟩, ⟨48, [.leaf (.o (.p)), .leaf (.o (.i .i64)), .leaf (.o (.i .i64))], [], ref28_Table_fails⟩] [] [] [(14, ⟨[(25, .leaf (.o (.b)))], []⟩), (24, ⟨[], []⟩)] (allCons ref28_Table_Waiting_linked (allCons ref28_Table_tick_linked (allCons ref28_Table_fails_linked allNil))) (by kernel_rfl) (by kernel_rfl) (by kernel_rfl) (fun t Q => congrFun (congrFun (ref28_Table_Step_eq ref28_Table_Waiting ref28_Table_tick ref28_Table_fails) t) Q)
theorem law28_TablePlay_eq (law25_Place_Great : (Int × Sl × Int × Int × Int) → ((Bool) → HProp) → HProp) (law28_keeps : (Unit) → ((Bool) → HProp) → HProp) (law16_Graph_Made : (Int × Sl) → ((Int × Sl) → HProp) → HProp) (table_New : (Int × Sl × Int × Int) → (((Option Addr) × Int) → HProp) → HProp) (law27_Total : (Int) → ((Int) → HProp) → HProp) (ref28_New : (Int × Sl × Int × Int) → (((Option Addr) × Int) → HProp) → HProp) (law16_Ask_Made : (Int × Int × Int × Int × Int) → ((Int × Int × Int × Int) → HProp) → HProp) (table_Table_Submit : ((Option Addr) × Int × Int × Int × Int) → ((Int × Int) → HProp) → HProp) (ref28_Table_Submit : ((Option Addr) × Int × Int × Int × Int) → ((Int × Int) → HProp) → HProp) (table_Table_Cancel : ((Option Addr) × Int) → ((Int) → HProp) → HProp) (ref28_Table_Cancel : ((Option Addr) × Int) → ((Int) → HProp) → HProp) (table_Table_Poll : ((Option Addr) × Int) → ((Int × Int × Int × Int) → HProp) → HProp) (ref28_Table_Poll : ((Option Addr) × Int) → ((Int × Int × Int × Int) → HProp) → HProp) (table_Table_Result : ((Option Addr) × Int) → ((Sl × Int) → HProp) → HProp) (ref28_Table_Told : ((Option Addr) × Int) → ((Sl × Int) → HProp) → HProp) (law16_Numbers : (Sl × Sl) → ((Bool) → HProp) → HProp) (table_Table_Step : ((Option Addr) × Int × Int) → ((Int × Int × Int × Int × Int) → HProp) → HProp) (law28_fault : (Int) → ((Int) → HProp) → HProp) (ref28_Table_Step : ((Option Addr) × Int × Int) → ((Int × Int × Int × Int × Int) → HProp) → HProp) (law26_Ints : (Sl × Sl) → ((Bool) → HProp) → HProp) (table_Table_Waiting : ((Option Addr)) → ((Sl) → HProp) → HProp) (ref28_Table_Waiting : ((Option Addr)) → ((Sl) → HProp) → HProp) (table_Table_Used : ((Option Addr)) → ((Int) → HProp) → HProp) (ref28_Table_Used : ((Option Addr)) → ((Int) → HProp) → HProp) : (fun (t : Int × Sl × Int × Int × Int × Sl) (Q : (Bool) → HProp) => interpF ⟨Tryz.prog, [⟨4, [.agg [.o (.i .u8), .o (.sl), .o (.i .u8), .o (.i .u8)], .leaf (.o (.i .i64))], [.leaf (.o (.b))], law25_Place_Great⟩, ⟨5, [], [.leaf (.o (.b))], law28_keeps⟩, ⟨6, [.agg [.o (.i .u8), .o (.sl)]], [.leaf (.o (.i .i64)), .leaf (.o (.sl))], law16_Graph_Made⟩, ⟨7, [.leaf (.o (.i .i64)), .leaf (.o (.sl)), .leaf (.o (.i .i64)), .leaf (.o (.i .i64))], [.leaf (.o (.p)), .leaf (.o (.i .i64))], table_New⟩, ⟨8, [.leaf (.o (.i .u16))], [.leaf (.o (.i .i64))], law27_Total⟩, ⟨9, [.leaf (.o (.i .i64)), .leaf (.o (.sl)), .leaf (.o (.i .i64)), .leaf (.o (.i .i64))], [.leaf (.o (.p)), .leaf (.o (.i .i64))], ref28_New⟩, ⟨10, [.agg [.o (.i .u8), .o (.i .u8), .o (.i .u8), .o (.i .u16)], .leaf (.o (.i .i64))], [.agg [.o (.i .i64), .o (.i .i64), .o (.i .i64), .o (.i .i64)]], law16_Ask_Made⟩, ⟨11, [.leaf (.o (.p)), .agg [.o (.i .i64), .o (.i .i64), .o (.i .i64), .o (.i .i64)]], [.leaf (.o (.i .i64)), .leaf (.o (.i .i64))], table_Table_Submit⟩, ⟨12, [.leaf (.o (.p)), .agg [.o (.i .i64), .o (.i .i64), .o (.i .i64), .o (.i .i64)]], [.leaf (.o (.i .i64)), .leaf (.o (.i .i64))], ref28_Table_Submit⟩, ⟨13, [.leaf (.o (.p)), .leaf (.o (.i .i64))], [.leaf (.o (.i .i64))], table_Table_Cancel⟩, ⟨14, [.leaf (.o (.p)), .leaf (.o (.i .i64))], [.leaf (.o (.i .i64))], ref28_Table_Cancel⟩, ⟨15, [.leaf (.o (.p)), .leaf (.o (.i .i64))], [.agg [.o (.i .i64), .o (.i .i64), .o (.i .i64)], .leaf (.o (.i .i64))], table_Table_Poll⟩, ⟨16, [.leaf (.o (.p)), .leaf (.o (.i .i64))], [.agg [.o (.i .i64), .o (.i .i64), .o (.i .i64)], .leaf (.o (.i .i64))], ref28_Table_Poll⟩, ⟨17, [.leaf (.o (.p)), .leaf (.o (.i .i64))], [.leaf (.o (.sl)), .leaf (.o (.i .i64))], table_Table_Result⟩, ⟨18, [.leaf (.o (.p)), .leaf (.o (.i .i64))], [.leaf (.o (.sl)), .leaf (.o (.i .i64))], ref28_Table_Told⟩, ⟨19, [.leaf (.o (.sl)), .leaf (.o (.sl))], [.leaf (.o (.b))], law16_Numbers⟩, ⟨20, [.leaf (.o (.p)), .leaf (.o (.i .i64)), .leaf (.o (.i .i64))], [.agg [.o (.i .i64), .o (.i .i64), .o (.i .i64), .o (.i .i64)], .leaf (.o (.i .i64))], table_Table_Step⟩, ⟨21, [.leaf (.o (.i .i64))], [.leaf (.o (.i .i64))], law28_fault⟩, ⟨22, [.leaf (.o (.p)), .leaf (.o (.i .i64)), .leaf (.o (.i .i64))], [.agg [.o (.i .i64), .o (.i .i64), .o (.i .i64), .o (.i .i64)], .leaf (.o (.i .i64))], ref28_Table_Step⟩, ⟨23, [.leaf (.o (.sl)), .leaf (.o (.sl))], [.leaf (.o (.b))], law26_Ints⟩, ⟨24, [.leaf (.o (.p))], [.leaf (.o (.sl))], table_Table_Waiting⟩, ⟨25, [.leaf (.o (.p))], [.leaf (.o (.sl))], ref28_Table_Waiting⟩, ⟨26, [.leaf (.o (.p))], [.leaf (.o (.i .i64))], table_Table_Used⟩, ⟨27, [.leaf (.o (.p))], [.leaf (.o (.i .i64))], ref28_Table_Used⟩], [30, 32], [(55, 3), (63, 4)]⟩ Tryz.f3 [(4, ⟨[(41, .leaf (.o (.b)))], []⟩), (20, ⟨[(83, .leaf (.o (.b)))], []⟩), (30, ⟨[(12, .leaf (.o (.i .i64)))], []⟩), (43, ⟨[], [(2, [.o (.i .i64), .o (.i .i64), .o (.i .i64), .o (.i .i64)])]⟩), (56, ⟨[(15, .leaf (.o (.i .i64))), (16, .leaf (.o (.i .i64))), (17, .leaf (.o (.b)))], []⟩), (57, ⟨[(130, .leaf (.o (.b)))], []⟩), (90, ⟨[(30, .leaf (.o (.p))), (31, .leaf (.o (.i .i64)))], []⟩), (92, ⟨[(32, .leaf (.o (.p))), (33, .leaf (.o (.i .i64)))], []⟩), (95, ⟨[(223, .leaf (.o (.b)))], []⟩)] [.agg [.o (.i .u8), .o (.sl), .o (.i .u8), .o (.i .u8), .o (.i .u16)], .leaf (.o (.sl))] [.leaf (.o (.b))] t Q : (Int × Sl × Int × Int × Int × Sl) → ((Bool) → HProp) → HProp) =
fun (t : Int × Sl × Int × Int × Int × Sl) (Q : Bool → HProp) =>
  withK
    (fun (t_1 : Bool) =>
      iteW t_1 (law28_keeps () Q)
        (law16_Graph_Made (t.fst, t.snd.fst) fun (r : Int × Sl) =>
          mustW ((minI r.fst 16 : Int) ≠ 0)
            (law27_Total t.snd.snd.snd.snd.fst fun (r_1 : Int) =>
              table_New (r.fst, r.snd, add IntKind.i64 1 (rem (cnv IntKind.i64 t.snd.snd.fst) (minI r.fst 16)), r_1)
                fun (r_2 : Option Addr × Int) =>
                law27_Total t.snd.snd.snd.snd.fst fun (r_3 : Int) =>
                  ref28_New (r.fst, r.snd, add IntKind.i64 1 (rem (cnv IntKind.i64 t.snd.snd.fst) (minI r.fst 16)), r_3)
                    fun (r_4 : Option Addr × Int) =>
                    withK
                      (fun (t_2 : Bool) =>
                        iteW t_2 (Q false)
                          (loopW 0 fun (s : Int) (k : Int → HProp) =>
                            iteW (ltI s ↑t.snd.snd.snd.snd.snd.len)
                              (indexW s t.snd.snd.snd.snd.snd 11 fun (a : Addr) =>
                                loadI IntKind.u8 (a.add 0) fun (x : Int) =>
                                  loadI IntKind.i64 (a.add 1) fun (x_1 : Int) =>
                                    loadI IntKind.u8 (a.add 2) fun (x_2 : Int) =>
                                      loadI IntKind.u8 (a.add 3) fun (x_3 : Int) =>
                                        loadI IntKind.u8 (a.add 4) fun (x_4 : Int) =>
                                          loadI IntKind.u16 (a.add 5) fun (x_5 : Int) =>
                                            loadI IntKind.i64 (a.add 6) fun (x_6 : Int) =>
                                              loadI IntKind.i64 (a.add 7) fun (x_7 : Int) =>
                                                loadI IntKind.i64 (a.add 8) fun (x_8 : Int) =>
                                                  loadI IntKind.i64 (a.add 9) fun (x_9 : Int) =>
                                                    loadB (a.add 10) fun (x_10 : Bool) =>
                                                      law16_Ask_Made (x_2, x_3, x_4, x_5, r.fst)
                                                        fun (r : Int × Int × Int × Int) =>
                                                        withK
                                                          (fun (t : Int × Int × Int × Int) =>
                                                            mustW ((9 : Int) ≠ 0)
                                                              (withK
                                                                (fun (t : Int × Int × Bool) =>
                                                                  withK
                                                                    (fun (t : Bool) =>
                                                                      iteW t (Q false) (k (add IntKind.i64 s 1)))
                                                                    fun (k : Bool → HProp) =>
                                                                    iteW (!eqI t.fst t.snd.fst) (k true)
                                                                      (iteW (!t.snd.snd) (k true)
                                                                        (table_Table_Waiting r_2.fst fun (r : Sl) =>
                                                                          ref28_Table_Waiting r_4.fst fun (r_5 : Sl) =>
                                                                            law26_Ints (r, r_5) fun (r : Bool) =>
                                                                              iteW (!r) (k true)
                                                                                (table_Table_Used r_2.fst
                                                                                  fun (r : Int) =>
                                                                                  ref28_Table_Used r_4.fst
                                                                                    fun (r_6 : Int) => k !eqI r r_6))))
                                                                fun
                                                                  (k : Int × Int × Bool → HProp) =>
                                                                withK
                                                                  (fun (t_3 : Bool) =>
                                                                    iteW t_3
                                                                      (table_Table_Submit
                                                                        (r_2.fst, t.fst, t.snd.fst, t.snd.snd.fst,
                                                                          t.snd.snd.snd)
                                                                        fun (r : Int × Int) =>
                                                                        ref28_Table_Submit
                                                                          (r_4.fst, t.fst, t.snd.fst, t.snd.snd.fst,
                                                                            t.snd.snd.snd)
                                                                          fun (r_5 : Int × Int) =>
                                                                          k (r.snd, r_5.snd, eqI r.fst r_5.fst))
                                                                      (iteW (eqI (rem x 9) 2)
                                                                        (table_Table_Cancel (r_2.fst, x_1)
                                                                          fun (r : Int) =>
                                                                          ref28_Table_Cancel (r_4.fst, x_1)
                                                                            fun (r_5 : Int) => k (r, r_5, true))
                                                                        (iteW (eqI (rem x 9) 3)
                                                                          (table_Table_Poll (r_2.fst, x_1)
                                                                            fun (r : Int × Int × Int × Int) =>
                                                                            ref28_Table_Poll (r_4.fst, x_1)
                                                                              fun (r_5 : Int × Int × Int × Int) =>
                                                                              k
                                                                                (r.snd.snd.snd, r_5.snd.snd.snd,
                                                                                  eqPairs
                                                                                    [(r.fst, r_5.fst),
                                                                                      (r.snd.fst, r_5.snd.fst),
                                                                                      (r.snd.snd.fst,
                                                                                        r_5.snd.snd.fst)]))
                                                                          (iteW (eqI (rem x 9) 4)
                                                                            (table_Table_Result (r_2.fst, x_1)
                                                                              fun (r : Sl × Int) =>
                                                                              ref28_Table_Told (r_4.fst, x_1)
                                                                                fun (r_5 : Sl × Int) =>
                                                                                law16_Numbers (r.fst, r_5.fst)
                                                                                  fun (r_6 : Bool) =>
                                                                                  k (r.snd, r_5.snd, r_6))
                                                                            (withK
                                                                              (fun (t : Option Addr × Int) =>
                                                                                withK
                                                                                  (fun (t_4 : Option Addr × Int) =>
                                                                                    derefW t.fst fun (a : Addr) =>
                                                                                      loadI IntKind.i64 (a.add 0)
                                                                                        fun (x : Int) =>
                                                                                        loadI IntKind.i64 (a.add 1)
                                                                                          fun (x_11 : Int) =>
                                                                                          loadI IntKind.i64 (a.add 2)
                                                                                            fun (x_12 : Int) =>
                                                                                            loadI IntKind.i64 (a.add 3)
                                                                                              fun (x_13 : Int) =>
                                                                                              derefW t_4.fst
                                                                                                fun (a : Addr) =>
                                                                                                loadI IntKind.i64
                                                                                                  (a.add 0)
                                                                                                  fun (x_14 : Int) =>
                                                                                                  loadI IntKind.i64
                                                                                                    (a.add 1)
                                                                                                    fun (x_15 : Int) =>
                                                                                                    loadI IntKind.i64
                                                                                                      (a.add 2)
                                                                                                      fun
                                                                                                        (x_16 : Int) =>
                                                                                                      loadI IntKind.i64
                                                                                                        (a.add 3)
                                                                                                        fun
                                                                                                          (x_17 :
                                                                                                            Int) =>
                                                                                                        k
                                                                                                          (t.snd,
                                                                                                            t_4.snd,
                                                                                                            eqPairs
                                                                                                              [(x,
                                                                                                                  x_14),
                                                                                                                (x_11,
                                                                                                                  x_15),
                                                                                                                (x_12,
                                                                                                                  x_16),
                                                                                                                (x_13,
                                                                                                                  x_17)]))
                                                                                  fun
                                                                                    (k :
                                                                                      Option Addr × Int →
                                                                                        HProp) =>
                                                                                  bothW
                                                                                    (law28_fault x_1 fun (r : Int) =>
                                                                                      bothW
                                                                                        (ref28_Table_Step
                                                                                          (r_4.fst, x_1, r)
                                                                                          fun
                                                                                            (r :
                                                                                              Int ×
                                                                                                Int ×
                                                                                                  Int × Int × Int) =>
                                                                                          newW
                                                                                            [Value.int IntKind.i64 0,
                                                                                              Value.int IntKind.i64 0,
                                                                                              Value.int IntKind.i64 0,
                                                                                              Value.int IntKind.i64 0]
                                                                                            fun (b : Nat) =>
                                                                                            storesW (Addr.mk b 0 none)
                                                                                              [Value.int IntKind.i64
                                                                                                  r.fst,
                                                                                                Value.int IntKind.i64
                                                                                                  r.snd.fst,
                                                                                                Value.int IntKind.i64
                                                                                                  r.snd.snd.fst,
                                                                                                Value.int IntKind.i64
                                                                                                  r.snd.snd.snd.fst]
                                                                                              (k
                                                                                                (some
                                                                                                    (Addr.mk b 0 none),
                                                                                                  r.snd.snd.snd.snd)))
                                                                                        (newW
                                                                                          [Value.int IntKind.i64 0,
                                                                                            Value.int IntKind.i64 0,
                                                                                            Value.int IntKind.i64 0,
                                                                                            Value.int IntKind.i64 0]
                                                                                          fun (b : Nat) =>
                                                                                          ref28_Table_Step
                                                                                            (r_4.fst, x_1, r)
                                                                                            fun
                                                                                              (r :
                                                                                                Int ×
                                                                                                  Int ×
                                                                                                    Int × Int × Int) =>
                                                                                            storesW (Addr.mk b 0 none)
                                                                                              [Value.int IntKind.i64
                                                                                                  r.fst,
                                                                                                Value.int IntKind.i64
                                                                                                  r.snd.fst,
                                                                                                Value.int IntKind.i64
                                                                                                  r.snd.snd.fst,
                                                                                                Value.int IntKind.i64
                                                                                                  r.snd.snd.snd.fst]
                                                                                              (k
                                                                                                (some
                                                                                                    (Addr.mk b 0 none),
                                                                                                  r.snd.snd.snd.snd))))
                                                                                    (newW
                                                                                      [Value.int IntKind.i64 0,
                                                                                        Value.int IntKind.i64 0,
                                                                                        Value.int IntKind.i64 0,
                                                                                        Value.int IntKind.i64 0]
                                                                                      fun (b : Nat) =>
                                                                                      law28_fault x_1 fun (r : Int) =>
                                                                                        ref28_Table_Step
                                                                                          (r_4.fst, x_1, r)
                                                                                          fun
                                                                                            (r :
                                                                                              Int ×
                                                                                                Int ×
                                                                                                  Int × Int × Int) =>
                                                                                          storesW (Addr.mk b 0 none)
                                                                                            [Value.int IntKind.i64
                                                                                                r.fst,
                                                                                              Value.int IntKind.i64
                                                                                                r.snd.fst,
                                                                                              Value.int IntKind.i64
                                                                                                r.snd.snd.fst,
                                                                                              Value.int IntKind.i64
                                                                                                r.snd.snd.snd.fst]
                                                                                            (k
                                                                                              (some (Addr.mk b 0 none),
                                                                                                r.snd.snd.snd.snd))))
                                                                              fun
                                                                                (k :
                                                                                  Option Addr × Int →
                                                                                    HProp) =>
                                                                              bothW
                                                                                (law28_fault x_1 fun (r : Int) =>
                                                                                  bothW
                                                                                    (table_Table_Step (r_2.fst, x_1, r)
                                                                                      fun
                                                                                        (r :
                                                                                          Int ×
                                                                                            Int × Int × Int × Int) =>
                                                                                      newW
                                                                                        [Value.int IntKind.i64 0,
                                                                                          Value.int IntKind.i64 0,
                                                                                          Value.int IntKind.i64 0,
                                                                                          Value.int IntKind.i64 0]
                                                                                        fun (b : Nat) =>
                                                                                        storesW (Addr.mk b 0 none)
                                                                                          [Value.int IntKind.i64 r.fst,
                                                                                            Value.int IntKind.i64
                                                                                              r.snd.fst,
                                                                                            Value.int IntKind.i64
                                                                                              r.snd.snd.fst,
                                                                                            Value.int IntKind.i64
                                                                                              r.snd.snd.snd.fst]
                                                                                          (k
                                                                                            (some (Addr.mk b 0 none),
                                                                                              r.snd.snd.snd.snd)))
                                                                                    (newW
                                                                                      [Value.int IntKind.i64 0,
                                                                                        Value.int IntKind.i64 0,
                                                                                        Value.int IntKind.i64 0,
                                                                                        Value.int IntKind.i64 0]
                                                                                      fun (b : Nat) =>
                                                                                      table_Table_Step (r_2.fst, x_1, r)
                                                                                        fun
                                                                                          (r :
                                                                                            Int ×
                                                                                              Int × Int × Int × Int) =>
                                                                                        storesW (Addr.mk b 0 none)
                                                                                          [Value.int IntKind.i64 r.fst,
                                                                                            Value.int IntKind.i64
                                                                                              r.snd.fst,
                                                                                            Value.int IntKind.i64
                                                                                              r.snd.snd.fst,
                                                                                            Value.int IntKind.i64
                                                                                              r.snd.snd.snd.fst]
                                                                                          (k
                                                                                            (some (Addr.mk b 0 none),
                                                                                              r.snd.snd.snd.snd))))
                                                                                (newW
                                                                                  [Value.int IntKind.i64 0,
                                                                                    Value.int IntKind.i64 0,
                                                                                    Value.int IntKind.i64 0,
                                                                                    Value.int IntKind.i64 0]
                                                                                  fun (b : Nat) =>
                                                                                  law28_fault x_1 fun (r : Int) =>
                                                                                    table_Table_Step (r_2.fst, x_1, r)
                                                                                      fun
                                                                                        (r :
                                                                                          Int ×
                                                                                            Int × Int × Int × Int) =>
                                                                                      storesW (Addr.mk b 0 none)
                                                                                        [Value.int IntKind.i64 r.fst,
                                                                                          Value.int IntKind.i64
                                                                                            r.snd.fst,
                                                                                          Value.int IntKind.i64
                                                                                            r.snd.snd.fst,
                                                                                          Value.int IntKind.i64
                                                                                            r.snd.snd.snd.fst]
                                                                                        (k
                                                                                          (some (Addr.mk b 0 none),
                                                                                            r.snd.snd.snd.snd))))))))
                                                                  fun (k : Bool → HProp) =>
                                                                  iteW (eqI (rem x 9) 0) (k (eqI (rem x 9) 0))
                                                                    (k (eqI (rem x 9) 1))))
                                                          fun (k : Int × Int × Int × Int → HProp) =>
                                                          iteW x_10 (k (x_6, x_7, x_8, x_9))
                                                            (k (r.fst, r.snd.fst, r.snd.snd.fst, r.snd.snd.snd)))
                              (law28_keeps () Q)))
                      fun (k : Bool → HProp) => iteW (!eqI r_2.snd 0) (k true) (k !eqI r_4.snd 0))))
    fun (k : Bool → HProp) =>
    law25_Place_Great (t.fst, t.snd.fst, t.snd.snd.fst, t.snd.snd.snd.fst, 200) fun (r : Bool) =>
      iteW r (k true) (k (ltI 250 ↑t.snd.snd.snd.snd.snd.len))
  := by kernel_rfl
theorem law28_TablePlay_linked : Linked Tryz.prog ⟨3, [.agg [.o (.i .u8), .o (.sl), .o (.i .u8), .o (.i .u8), .o (.i .u16)], .leaf (.o (.sl))], [.leaf (.o (.b))], law28_TablePlay⟩ := linked_of (fn := Tryz.f3) Tryz.func3 rfl (by kernel_rfl) [⟨4, [.agg [.o (.i .u8), .o (.sl), .o (.i .u8), .o (.i .u8)], .leaf (.o (.i .i64))], [.leaf (.o (.b))], law25_Place_Great⟩, ⟨5, [], [.leaf (.o (.b))], law28_keeps⟩, ⟨6, [.agg [.o (.i .u8), .o (.sl)]], [.leaf (.o (.i .i64)), .leaf (.o (.sl))], law16_Graph_Made⟩, ⟨7, [.leaf (.o (.i .i64)), .leaf (.o (.sl)), .leaf (.o (.i .i64)), .leaf (.o (.i .i64))], [.leaf (.o (.p)), .leaf (.o (.i .i64))], table_New⟩, ⟨8, [.leaf (.o (.i .u16))], [.leaf (.o (.i .i64))], law27_Total⟩, ⟨9, [.leaf (.o (.i .i64)), .leaf (.o (.sl)), .leaf (.o (.i .i64)), .leaf (.o (.i .i64))], [.leaf (.o (.p)), .leaf (.o (.i .i64))], ref28_New⟩, ⟨10, [.agg [.o (.i .u8), .o (.i .u8), .o (.i .u8), .o (.i .u16)], .leaf (.o (.i .i64))], [.agg [.o (.i .i64), .o (.i .i64), .o (.i .i64), .o (.i .i64)]], law16_Ask_Made⟩, ⟨11, [.leaf (.o (.p)), .agg [.o (.i .i64), .o (.i .i64), .o (.i .i64), .o (.i .i64)]], [.leaf (.o (.i .i64)), .leaf (.o (.i .i64))], table_Table_Submit⟩, ⟨12, [.leaf (.o (.p)), .agg [.o (.i .i64), .o (.i .i64), .o (.i .i64), .o (.i .i64)]], [.leaf (.o (.i .i64)), .leaf (.o (.i .i64))], ref28_Table_Submit⟩, ⟨13, [.leaf (.o (.p)), .leaf (.o (.i .i64))], [.leaf (.o (.i .i64))], table_Table_Cancel⟩, ⟨14, [.leaf (.o (.p)), .leaf (.o (.i .i64))], [.leaf (.o (.i .i64))], ref28_Table_Cancel⟩, ⟨15, [.leaf (.o (.p)), .leaf (.o (.i .i64))], [.agg [.o (.i .i64), .o (.i .i64), .o (.i .i64)], .leaf (.o (.i .i64))], table_Table_Poll⟩, ⟨16, [.leaf (.o (.p)), .leaf (.o (.i .i64))], [.agg [.o (.i .i64), .o (.i .i64), .o (.i .i64)], .leaf (.o (.i .i64))], ref28_Table_Poll⟩, ⟨17, [.leaf (.o (.p)), .leaf (.o (.i .i64))], [.leaf (.o (.sl)), .leaf (.o (.i .i64))], table_Table_Result⟩, ⟨18, [.leaf (.o (.p)), .leaf (.o (.i .i64))], [.leaf (.o (.sl)), .leaf (.o (.i .i64))], ref28_Table_Told⟩, ⟨19, [.leaf (.o (.sl)), .leaf (.o (.sl))], [.leaf (.o (.b))], law16_Numbers⟩, ⟨20, [.leaf (.o (.p)), .leaf (.o (.i .i64)), .leaf (.o (.i .i64))], [.agg [.o (.i .i64), .o (.i .i64), .o (.i .i64), .o (.i .i64)], .leaf (.o (.i .i64))], table_Table_Step⟩, ⟨21, [.leaf (.o (.i .i64))], [.leaf (.o (.i .i64))], law28_fault⟩, ⟨22, [.leaf (.o (.p)), .leaf (.o (.i .i64)), .leaf (.o (.i .i64))], [.agg [.o (.i .i64), .o (.i .i64), .o (.i .i64), .o (.i .i64)], .leaf (.o (.i .i64))], ref28_Table_Step⟩, ⟨23, [.leaf (.o (.sl)), .leaf (.o (.sl))], [.leaf (.o (.b))], law26_Ints⟩, ⟨24, [.leaf (.o (.p))], [.leaf (.o (.sl))], table_Table_Waiting⟩, ⟨25, [.leaf (.o (.p))], [.leaf (.o (.sl))], ref28_Table_Waiting⟩, ⟨26, [.leaf (.o (.p))], [.leaf (.o (.i .i64))], table_Table_Used⟩, ⟨27, [.leaf (.o (.p))], [.leaf (.o (.i .i64))], ref28_Table_Used⟩] [30, 32] [(55, 3), (63, 4)] [(4, ⟨[(41, .leaf (.o (.b)))], []⟩), (20, ⟨[(83, .leaf (.o (.b)))], []⟩), (30, ⟨[(12, .leaf (.o (.i .i64)))], []⟩), (43, ⟨[], [(2, [.o (.i .i64), .o (.i .i64), .o (.i .i64), .o (.i .i64)])]⟩), (56, ⟨[(15, .leaf (.o (.i .i64))), (16, .leaf (.o (.i .i64))), (17, .leaf (.o (.b)))], []⟩), (57, ⟨[(130, .leaf (.o (.b)))], []⟩), (90, ⟨[(30, .leaf (.o (.p))), (31, .leaf (.o (.i .i64)))], []⟩), (92, ⟨[(32, .leaf (.o (.p))), (33, .leaf (.o (.i .i64)))], []⟩), (95, ⟨[(223, .leaf (.o (.b)))], []⟩)] (allCons law25_Place_Great_linked (allCons law28_keeps_linked (allCons law16_Graph_Made_linked (allCons table_New_linked (allCons law27_Total_linked (allCons ref28_New_linked (allCons law16_Ask_Made_linked (allCons table_Table_Submit_linked (allCons ref28_Table_Submit_linked (allCons table_Table_Cancel_linked (allCons ref28_Table_Cancel_linked (allCons table_Table_Poll_linked (allCons ref28_Table_Poll_linked (allCons table_Table_Result_linked (allCons ref28_Table_Told_linked (allCons law16_Numbers_linked (allCons table_Table_Step_linked (allCons law28_fault_linked (allCons ref28_Table_Step_linked (allCons law26_Ints_linked (allCons table_Table_Waiting_linked (allCons ref28_Table_Waiting_linked (allCons table_Table_Used_linked (allCons ref28_Table_Used_linked allNil)))))))))))))))))))))))) (by kernel_rfl) (by kernel_rfl) (by kernel_rfl) (fun t Q => congrFun (congrFun (law28_TablePlay_eq law25_Place_Great law28_keeps law16_Graph_Made table_New law27_Total ref28_New law16_Ask_Made table_Table_Submit ref28_Table_Submit table_Table_Cancel ref28_Table_Cancel table_Table_Poll ref28_Table_Poll table_Table_Result ref28_Table_Told law16_Numbers table_Table_Step law28_fault ref28_Table_Step law26_Ints table_Table_Waiting ref28_Table_Waiting table_Table_Used ref28_Table_Used) t) Q)
end Go.Cz.S

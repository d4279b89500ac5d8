/- Part of the proof of a law of 1312: an engine that runs a function over an abstract heap, and what the functions compute; own work. -/
import Derived.Test.YtbefcngilihcoaaGreatDoorGB
import Derived.Test.YtbefcngilihcoaaGreatDoorGC
import Derived.WalkKit
import Derived.Defers
import Derived.Shelf.Abstract
import Derived.Test.YtbefcngilihcoaaGreatDoorProg
set_option linter.unusedVariables false
set_option linter.unusedSimpArgs false
set_option linter.unusedSectionVars false
namespace Go.Cz.S
open Go Go.RowKit Go.Proofs Go.Shelf
set_option linter.unusedSimpArgs false
set_option linter.unusedVariables false
set_option maxRecDepth 100000
theorem Keeps_trans {w w1 w2 : World} {h h1 h2 : H} (x : Keeps w h w1 h1) (y : Keeps w1 h1 w2 h2) : Keeps w h w2 h2 := by
  refine ⟨Nat.le_trans x.size y.size, fun b hb hc => ?_, y.os.trans x.os, y.tape.trans x.tape, y.output.trans x.output, fun q => q.elim⟩
  obtain ⟨a1, a2⟩ := x.old b hb hc
  obtain ⟨b1, b2⟩ := y.old b (Nat.lt_of_lt_of_le hb x.size) (fun o ho => hc o (by rw [← a1]; exact ho))
  exact ⟨b1.trans a1, b2.trans a2⟩
set_option maxHeartbeats 2000000 in
theorem page_hand {FP : Option Addr × ByteArray × Int → (ByteArray × Int → HProp) → HProp} {FU : Option Addr × ByteArray × Int → (Int → HProp) → HProp} {FW : Option Addr × ByteArray → (Int × Unit → HProp) → HProp}
    (hP : Linked Tryz.prog ⟨86, [.leaf (.o .p), .leaf (.o .s), .leaf (.o (.i .i64))], [.leaf (.o .s), .leaf (.o (.i .i64))], FP⟩) (hU : LinkedD Tryz.prog ⟨87, [.leaf (.o .p), .leaf (.o .s), .leaf (.o (.i .i64))], [.leaf (.o (.i .i64))], FU⟩)
    (hW : Linked Tryz.prog ⟨128, [.leaf (.o .p), .leaf (.o .s)], [.leaf (.o (.i .i64)), .leaf (.o .nif)], FW⟩) :
    Linked Tryz.prog ⟨66, [.leaf (.o .p), .leaf (.o .s), .leaf (.o (.i .i64)), .leaf (.o .p)], [.leaf (.o (.i .i64)), .leaf (.o (.i .i64))],
      fun (t : Option Addr × ByteArray × Int × Option Addr) (Q : Int × Int → HProp) => FP (t.1, t.2.1, t.2.2.1) fun (r : ByteArray × Int) => iteW (eqI r.2 0) (FW (t.2.2.2, r.1) fun _ => FU (t.1, t.2.1, t.2.2.1) fun _ => Q ((r.1.size : Int), 0)) (Q (0, r.2))⟩ := by
  refine ⟨⟨_, _, Tryz.func66, rfl, by decide⟩, ?_⟩
  intro t args Q h w hr g hF
  obtain ⟨c, nm, i, to⟩ := t
  change Option Addr at c
  change ByteArray at nm
  change Int at i
  change Option Addr at to
  change Int × Int → HProp at Q
  simp only [tysOf, Sh.tys, unpackL, shape, SV.of, SV.of0, List.cons_append, List.nil_append] at hr
  obtain ⟨x1, us, rfl, hx1, hr⟩ := relL_cons.1 hr
  obtain ⟨x2, us, rfl, hx2, hr⟩ := relL_cons.1 hr
  obtain ⟨x3, us, rfl, hx3, hr⟩ := relL_cons.1 hr
  obtain ⟨x4, us, rfl, hx4, hr⟩ := relL_cons.1 hr
  rw [relL_nil] at hr
  subst hr
  simp only [rel] at hx1 hx2 hx3 hx4
  subst hx1; subst hx2; subst hx3; subst hx4
  have hF : FP (c, nm, i) (fun (r : ByteArray × Int) => iteW (eqI r.2 0) (FW (to, r.1) fun _ => FU (c, nm, i) fun _ => Q ((r.1.size : Int), 0)) (Q (0, r.2))) h := hF
  have C1 := hP.2 (c, nm, i) [.pointer c, .string nm, .int .i64 i] _ h w (by simp [tysOf, Sh.tys, unpackL, shape, SV.of, SV.of0, relL, rel]) g hF
  have C1 : Calls Tryz.prog 86 #[.pointer c, .string nm, .int .i64 i] w fun e w' => ∃ (s : ByteArray) (er : Int) (h' : H), e = .returned (.tuple #[.string s, .int .i64 er]) ∧ iteW (eqI er 0) (FW (to, s) fun _ => FU (c, nm, i) fun _ => Q ((s.size : Int), 0)) (Q (0, er)) h' ∧ Hpart Tryz.prog w' h' ∧ Keeps w h w' h' := by
    refine C1.mono ?_
    rintro e w' ⟨⟨s, er⟩, v, h', rfl, hv, hK, g', k'⟩
    refine ⟨s, er, h', ?_, hK, g', k'⟩
    simp only [retSV, shape, tysOf, Sh.tys, unpackL, SV.of, SV.of0, List.cons_append, List.nil_append, rel] at hv
    obtain ⟨vs, rfl, hv⟩ := hv
    obtain ⟨y1, us, e1, hy1, hv⟩ := relL_cons.1 hv
    obtain ⟨y2, us', rfl, hy2, hv⟩ := relL_cons.1 hv
    rw [relL_nil] at hv
    subst hv
    simp only [rel] at hy1 hy2
    subst hy1; subst hy2
    rw [Array.toList_inj.1 e1]
  clear hF
  refine calls_of_wp_defers Tryz.func66 rfl ?_
  simp only [Tryz.ntmps66, List.size_toArray, List.length_cons, List.length_nil, Nat.reduceAdd, Nat.reduceSub, Array.replicate_succ, Array.replicate_zero, List.push_toArray, List.append_toArray, List.nil_append, List.cons_append]
  go_wp2_with (go_at_call 86; fail)
  refine C1.mono ?_
  rintro e w1 ⟨s, er, h1, rfl, hK, g1, k1⟩
  clear C1
  by_cases e0 : er = 0
  · subst e0
    have hK : FW (to, s) (fun _ => FU (c, nm, i) fun _ => Q ((s.size : Int), 0)) h1 := by
      unfold iteW at hK
      rw [if_pos (by unfold eqI; rfl)] at hK
      exact hK
    have C2 := hW.2 (to, s) [.pointer to, .string s] _ h1 w1 (by simp [tysOf, Sh.tys, unpackL, shape, SV.of, SV.of0, relL, rel]) g1 hK
    have C2 : Calls Tryz.prog 128 #[.pointer to, .string s] w1 fun e w' => ∃ (v : Value) (h' : H), e = .returned v ∧ FU (c, nm, i) (fun _ => Q ((s.size : Int), 0)) h' ∧ Hpart Tryz.prog w' h' ∧ Keeps w1 h1 w' h' := by
      refine C2.mono ?_
      rintro e w' ⟨r, v, h', rfl, hv, hK, g', k'⟩
      exact ⟨v, h', rfl, hK, g', k'⟩
    have HK : Aside (Keeps w h w1 h1) := k1
    clear hK k1
    go_wp2_with (go_at_call 128; fail)
    refine C2.mono ?_
    rintro e w2 ⟨v, h2, rfl, hK2, g2, k2⟩
    clear C2
    have C3 := hU (c, nm, i) [.pointer c, .string nm, .int .i64 i] _ h2 w2 (by simp [tysOf, Sh.tys, unpackL, shape, SV.of, SV.of0, relL, rel]) g2 hK2
    have HK2 : Aside (Keeps w1 h1 w2 h2) := k2
    clear hK2 k2
    go_wp2
    show Leaves Tryz.prog Tryz.f66 _ _ [_] .returning w2
    refine leaves_cons (by simp) (f := 87) (args := #[.pointer c, .string nm, .int .i64 i]) (by simp [invoke, enters_of Tryz.func87 (by kernel_rfl) rfl]) (C3.mono ?_)
    rintro e u w3 ⟨rfl, r, v', h3, rfl, hv, hQ, g3, k3⟩
    exact ⟨_, results_tmp2 (fn := Tryz.f66) (t := 8) (u := 9) rfl _ _ _, (((s.size : Int), (0 : Int)) : Int × Int), _, h3, rfl, by simp [retSV, shape, tysOf, Sh.tys, unpackL, SV.of, SV.of0, rel, relL], hQ, g3, Keeps_trans (Keeps_trans HK.out HK2.out) k3⟩
  · have hK : Q (0, er) h1 := by
      unfold iteW at hK
      rw [if_neg (by unfold eqI; simpa using e0)] at hK
      exact hK
    have HK : Aside (Q (0, er) h1 ∧ Keeps w h w1 h1) := ⟨hK, k1⟩
    clear hK k1
    go_wp2
    exact ⟨_, results_tmp2 (fn := Tryz.f66) (t := 8) (u := 9) rfl _ _ _, (((0 : Int), er) : Int × Int), _, h1, rfl, by simp [retSV, shape, tysOf, Sh.tys, unpackL, SV.of, SV.of0, rel, relL], HK.out.1, g1, HK.out.2⟩
end Go.Cz.S

/- Part of the proof of a law of 1312: an engine that runs a function over an abstract heap, and what the functions compute; own work. -/
import Derived.Test.YtbefcngilihcoaaGreatDoorGB
import Derived.Test.YtbefcngilihcoaaGreatDoorGC
import Derived.Shelf.Strings.BuilderCap
import Derived.Shelf.Strings.Builder1
import Derived.Shelf.Strings.Repeat
import Derived.Shelf.Strings.Trim
import Derived.Shelf.Strings.OnBuilder
import Derived.Shelf.Strconv.Itoa3
import Derived.Shelf.Sort.Plain
import Derived.Shelf.Slices.In.SortNone
import Derived.Shelf.SlIter.Nil
import Derived.Shelf.SlIter.Sorted
set_option linter.unusedVariables false
set_option linter.unusedSimpArgs false
set_option linter.unusedSectionVars false
namespace Go.Cz
open Go Go.Proofs Go.Shelf Go.RowKit
set_option linter.unusedSimpArgs false
set_option linter.unusedVariables false
set_option linter.unusedSectionVars false
set_option maxRecDepth 100000
variable {P : Program} {ρ : Ren}
theorem keeps_below {w w' : World} {h : H} (hp : Hpart P w h) (hb : Below w.heap.size w w') : Hpart P w' h ∧ Keeps w h w' h :=
  ⟨hp.keep w' fun b o hbo => hb.block b (hp.lt hbo), hb.size, fun b hbl _ => ⟨rfl, hb.block b hbl⟩, hb.os, hb.tape, hb.output, fun q => q.elim⟩
theorem keeps_same {w w' : World} {h : H} (hp : Hpart P w h) (e : w' = w ∨ w' = w.drew) : Hpart P w' h ∧ Keeps w h w' h := by
  refine keeps_below hp ?_
  rcases e with rfl | rfl
  · exact Below.refl _ _
  · exact Below.drew (Below.refl _ _)
theorem rep_flatten (l : List UInt8) (n : Nat) : Lib.repeatL l n = (List.replicate n l).flatten := by
  induction n with
  | zero => rfl
  | succ n ih => simp [Lib.repeatL, List.replicate_succ, ih]
theorem linked_Repeat (L : Lays.n105 P ρ) (X : Builder.Extra P ρ) : Linked P ⟨ρ.f 105, [.leaf (.o .s), .leaf (.o (.i .i64))], [.leaf (.o .s)], fun t Q => repeatW t.1 t.2 Q⟩ := by
  refine ⟨⟨_, _, L.f105, rfl, fun e => absurd (show ("strings.Repeat" : String) = "runtime.NumGoroutine" from e) (by decide)⟩, ?_⟩
  intro t args Q h w hr g hF
  obtain ⟨s, n⟩ := t
  simp only [tysOf, Sh.tys, unpackL, shape, SV.of, SV.of0, List.cons_append, List.nil_append] at hr
  obtain ⟨x, us, rfl, hx, hr⟩ := relL_cons.1 hr
  obtain ⟨y, us', rfl, hy, hr⟩ := relL_cons.1 hr
  rw [relL_nil] at hr
  subst hr
  simp only [rel] at hx hy
  subst hx; subst hy
  obtain ⟨h0, h1, h2, hK⟩ := hF
  have hn : n = (n.toNat : Int) := (Int.toNat_of_nonneg h0).symm
  refine Calls.mono (R := fun e w' => e = .returned (.string ⟨(Lib.repeatL s.data.toList n.toNat).toArray⟩) ∧ Below w.heap.size w w') ?_ ?_
  · have := Any.strings_Repeat L X s n.toNat w (by omega) h2
    rw [← hn] at this
    exact this
  · rintro e w' ⟨rfl, hb⟩
    obtain ⟨k1, k2⟩ := keeps_below g hb
    refine ⟨_, _, h, rfl, ?_, hK, k1, k2⟩
    rw [rep_flatten]
    simp [retSV, shape, tysOf, Sh.tys, unpackL, SV.of, SV.of0, rel]
theorem linked_Trim (L : Lays.n160 P ρ) : Linked P ⟨ρ.f 160, [.leaf (.o .s), .leaf (.o .s)], [.leaf (.o .s)], fun t Q => trimW t.1 t.2 Q⟩ := by
  refine ⟨⟨_, _, L.f160, rfl, fun e => absurd (show ("strings.Trim" : String) = "runtime.NumGoroutine" from e) (by decide)⟩, ?_⟩
  intro t args Q h w hr g hF
  obtain ⟨s, n⟩ := t
  simp only [tysOf, Sh.tys, unpackL, shape, SV.of, SV.of0, List.cons_append, List.nil_append] at hr
  obtain ⟨x, us, rfl, hx, hr⟩ := relL_cons.1 hr
  obtain ⟨y, us', rfl, hy, hr⟩ := relL_cons.1 hr
  rw [relL_nil] at hr
  subst hr
  simp only [rel] at hx hy
  subst hx; subst hy
  obtain ⟨c, hc, h1, h2, hK⟩ := hF
  dsimp only at hc hK h2
  subst hc
  refine (Any.strings_Trim_one L s c h1 w h2).mono ?_
  rintro e w' ⟨rfl, hb⟩
  obtain ⟨k1, k2⟩ := keeps_same g hb
  exact ⟨_, _, h, rfl, by simp [retSV, shape, tysOf, Sh.tys, unpackL, SV.of, SV.of0, rel], hK, k1, k2⟩
theorem linked_Itoa (L : Lays.n171 P ρ) : Linked P ⟨ρ.f 171, [.leaf (.o (.i .i64))], [.leaf (.o .s)], fun t Q => itoaW t Q⟩ := by
  refine ⟨⟨_, _, L.f171, rfl, fun e => absurd (show ("strconv.Itoa" : String) = "runtime.NumGoroutine" from e) (by decide)⟩, ?_⟩
  intro t args Q h w hr g hF
  change Int at t
  simp only [tysOf, Sh.tys, unpackL, shape, SV.of, SV.of0, List.cons_append, List.nil_append] at hr
  obtain ⟨x, us, rfl, hx, hr⟩ := relL_cons.1 hr
  rw [relL_nil] at hr
  subst hr
  simp only [rel] at hx
  subst hx
  obtain ⟨h0, h1, hK⟩ := hF
  have hn : t = (t.toNat : Int) := (Int.toNat_of_nonneg h0).symm
  refine Calls.mono (R := fun e w' => e = .returned (.string ⟨(Lib.decDigits t.toNat).toArray⟩) ∧ w' = w) ?_ ?_
  · have := Any.strconv_Itoa_small L t.toNat (by omega) w
    rw [← hn] at this
    exact this
  · rintro e w' ⟨rfl, hb⟩
    obtain ⟨k1, k2⟩ := keeps_same g (.inl hb)
    exact ⟨_, _, h, rfl, by simp [retSV, shape, tysOf, Sh.tys, unpackL, SV.of, SV.of0, rel], hK, k1, k2⟩
theorem linked_Join (L : Lays.n156 P ρ) (X : Builder.Extra P ρ) : Linked P ⟨ρ.f 156, [.leaf (.o .sl), .leaf (.o .s)], [.leaf (.o .s)], fun t Q => joinW t.1 t.2 Q⟩ := by
  refine ⟨⟨_, _, L.f156, rfl, fun e => absurd (show ("strings.Join" : String) = "runtime.NumGoroutine" from e) (by decide)⟩, ?_⟩
  intro t args Q h w hr g hF
  obtain ⟨v, sep⟩ := t
  simp only [tysOf, Sh.tys, unpackL, shape, SV.of, SV.of0, List.cons_append, List.nil_append] at hr
  obtain ⟨x, us, rfl, hx, hr⟩ := relL_cons.1 hr
  obtain ⟨y, us', rfl, hy, hr⟩ := relL_cons.1 hr
  rw [relL_nil] at hr
  subst hr
  simp only [rel] at hx hy
  subst hx; subst hy
  obtain ⟨xs, h1, h2, h3, h4, h5, hK⟩ := hF
  dsimp only at h1 h2 h3 h4 h5 hK
  have fin : ∀ e w', e = Ending.returned (.string ⟨(Lib.join (xs.map (·.data.toList)) sep.data.toList).toArray⟩) ∧ Below w.heap.size w w' → ∃ (r : Tup (tysOf [Sh.leaf (.o .s)])) (v : Value) (h' : H), e = .returned v ∧ rel P (fun _ => 0) (retSV (shape [Sh.leaf (.o .s)] (unpackL (tysOf [Sh.leaf (.o .s)]) r))) v ∧ Q r h' ∧ Hpart P w' h' ∧ Keeps w h w' h' := by
    rintro e w' ⟨rfl, hb⟩
    obtain ⟨k1, k2⟩ := keeps_below g hb
    exact ⟨_, _, h, rfl, by simp [retSV, shape, tysOf, Sh.tys, unpackL, SV.of, SV.of0, rel], hK, k1, k2⟩
  by_cases e : xs = []
  · subst e
    have h0 : v.len = 0 := h1.symm
    rw [h0]
    refine (Any.strings_Join_none L X v.a v.cap sep w).mono ?_
    rintro e w' ⟨rfl, rfl⟩
    exact fin _ _ ⟨rfl, Below.refl _ _⟩
  · obtain ⟨k1, k3, k4⟩ := row_cells g h4
    have hpos : 0 < v.len := by have := List.length_pos_iff.2 e; omega
    obtain ⟨a, ha⟩ := k4 (by omega)
    unfold H.row? at h4
    rw [if_neg (by omega), ha] at h4
    simp only [] at h4
    split at h4
    case h_2 => cases h4
    rename_i c wr hb
    split at h4
    · cases h4
    rename_i hsp
    have hsp : a.spot = none := by cases hs : a.spot <;> simp_all
    have ea : a = ⟨a.block, a.off, none⟩ := by cases a; simp at hsp; simp [hsp]
    have hc := Any.strings_Join L X a.block a.off v.cap xs sep w (fun j x hx => by
      have := k3 a ha j (.string x) (by simp [hx])
      rwa [Go.Cz.add_eq hsp] at this) (g.lt hb) (by omega) (by omega) h5
    rw [← ea, ← ha, h1] at hc
    exact hc.mono fin
theorem heap_setCell {w : World} {b i : Nat} {c : Array Value} {T : TypeId} {fz : Nat × Nat} {v : Value} (hb : w.heap[b]? = some (.cells c T fz)) :
    (w.setCell ⟨b, i, none⟩ v).heap[b]? = some (.cells (c.setIfInBounds i v) T fz) ∧ ∀ k, k ≠ b → (w.setCell ⟨b, i, none⟩ v).heap[k]? = w.heap[k]? := by
  unfold World.setCell
  refine ⟨?_, fun k hk => ?_⟩
  · simp only [Array.getElem?_modify, if_true, hb]; rfl
  · simp only [Array.getElem?_modify, if_neg (Ne.symm hk)]
theorem bld_copyCheck (L : Lays.n240 P ρ) (X : Builder.X72 P ρ) {b : Nat} {q : Option Addr} {v : Value} {w : World} (hb : w.heap[b]? = some (.cells #[.pointer q, v] (ρ.t 72) (0, 0))) (hq : q = none ∨ q = some ⟨b, 0, none⟩) :
    Calls P (ρ.f 240) #[.pointer (some ⟨b, 0, none⟩)] w fun e w' => e = .returned (.tuple #[]) ∧ w'.heap[b]? = some (.cells #[.pointer (some ⟨b, 0, none⟩), v] (ρ.t 72) (0, 0)) ∧ (∀ k, k ≠ b → w'.heap[k]? = w.heap[k]?) ∧
      w'.heap.size = w.heap.size ∧ w'.os = w.os ∧ w'.tape = w.tape ∧ w'.output = w.output := by
  rcases hq with rfl | rfl
  · refine (Any.Builder_copyCheck_fresh L X b w (by rw [Lib.cell_of_heap hb]; rfl) (by simp [World.shape?, hb]) (Lib.frozen_of_heap hb 0)).mono ?_
    rintro e w' ⟨rfl, rfl⟩
    obtain ⟨h1, h2⟩ := heap_setCell (i := 0) (v := .pointer (some ⟨b, 0, none⟩)) hb
    exact ⟨rfl, h1, h2, by simp [World.setCell], rfl, rfl, rfl⟩
  · refine (Any.Builder_copyCheck_used L X b w (by rw [Lib.cell_of_heap hb]; rfl)).mono ?_
    rintro e w' ⟨rfl, rfl⟩
    exact ⟨rfl, hb, fun _ _ => rfl, rfl, rfl, rfl, rfl⟩
def Grown (e : TypeId) (w w2 : World) (v v' : Sl) (t s : List UInt8) : Prop :=
  (v' = v ∧ w2 = w ∧ s = [] ∧ v.a = none) ∨
  (∃ g rest, v.a = some ⟨g, 0, none⟩ ∧ w.heap[g]? = some (.cells (u8s t ++ rest).toArray e (0, 0)) ∧ s.length ≤ rest.length ∧ v' = ⟨v.a, v.len + s.length, v.cap⟩ ∧
    w2.heap[g]? = some (.cells (u8s (t ++ s) ++ rest.drop s.length).toArray e (0, 0)) ∧ (∀ k, k ≠ g → w2.heap[k]? = w.heap[k]?) ∧ w2.heap.size = w.heap.size ∧ w2.os = w.os ∧ w2.tape = w.tape ∧ w2.output = w.output) ∨
  (∃ rest, v' = ⟨some ⟨w.heap.size, 0, none⟩, v.len + s.length, v.len + s.length + rest.length⟩ ∧ w2.heap = w.heap.push (.cells (u8s (t ++ s) ++ rest).toArray e (0, 0)) ∧ w2.os = w.os ∧ w2.tape = w.tape ∧ w2.output = w.output)
theorem u8s_append (a b : List UInt8) : u8s (a ++ b) = u8s a ++ u8s b := by simp [u8s]
theorem u8s_length (a : List UInt8) : (u8s a).length = a.length := by simp [u8s]
theorem setCells_heap1 {w : World} {g : Nat} {c : List Value} {e : TypeId} {o : Nat} {vs : List Value} (h : w.heap[g]? = some (.cells c.toArray e (0, 0))) (hl : o + vs.length ≤ c.length) :
    (w.setCells g o vs).heap[g]? = some (.cells (c.take o ++ vs ++ c.drop (o + vs.length)).toArray e (0, 0)) := setCells_heap g vs o w c e (0, 0) h hl
theorem append_grown {tt u ty e : TypeId} {i : TypeInfo} (ht : P.underlying tt = some (.slice e)) (hu : P.underlying u = some .string) (hi : P.info? e = some i) (hz : i.zero = some (.int .u8 0)) (hsize : i.size = 1) (hby : i.bytes = 1)
    {w : World} {v : Sl} {t : List UInt8} (hlen : v.len = t.length) (hbuf : (v.a = none ∧ v.cap = 0 ∧ t = []) ∨ ∃ g rest, v.a = some ⟨g, 0, none⟩ ∧ w.heap[g]? = some (.cells (u8s t ++ rest).toArray e (0, 0)) ∧ v.cap = t.length + rest.length)
    (s : ByteArray) (hb : t.length + s.size ≤ 140737488355328) :
    ∃ v' : Sl, ∃ w2, (Builtin.append_ #[tt, u] ty #[.slice v.a v.len v.cap, .string s]).run P w = .ok (.slice v'.a v'.len v'.cap) w2 ∧ Grown e w w2 v v' t s.data.toList := by
  have hsl : s.data.toList.length = s.size := size_data s
  have src : Src P i.size u (.string s) s.size (byteCells s) w := by rw [hsize]; exact Src.ofString w hu s
  have hbc : byteCells s = u8s s.data.toList := rfl
  by_cases hroom : v.len + s.size ≤ v.cap
  · rcases hbuf with ⟨h1, h2, h3⟩ | ⟨g, rest, h1, h2, h3⟩
    · have h0 : s.size = 0 := by omega
      have hn : byteCells s = [] := List.length_eq_zero_iff.1 (by rw [byteCells_length]; exact h0)
      rw [hn, h0] at src
      exact ⟨v, w, run_append_nothing w tt u ty e i ht hi v.a v.len v.cap (by omega) _ src, .inl ⟨rfl, rfl, List.length_eq_zero_iff.1 (by omega), h1⟩⟩
    · have hr := run_append_room_src (P := P) w tt u ty e i ht hi g 0 v.len v.cap (.string s) s.size (byteCells s) src hroom
        (fun j hj => by
          rw [byteCells_length] at hj
          have : 0 + v.len * i.size + j < (u8s t ++ rest).length := by simp [u8s_length, hsize]; omega
          rw [Lib.cell_of_heap h2]
          simp only [List.getElem?_toArray]
          rw [List.getElem?_eq_getElem this]; rfl)
        (fun j hj => Lib.frozen_of_heap h2 _)
      refine ⟨⟨v.a, v.len + s.size, v.cap⟩, _, by rw [h1]; exact hr, .inr (.inl ⟨g, rest, h1, h2, by omega, by rw [hsl], ?_, ?_, ?_⟩)⟩
      · have hh := setCells_heap1 (o := 0 + v.len * i.size) (vs := byteCells s) h2 (by simp [u8s_length, hsize, byteCells_length]; omega)
        rw [hh, hbc, u8s_append, hsize]
        congr 3
        simp only [Nat.zero_add, Nat.mul_one, hlen, u8s_length, hsl]
        rw [show t.length = (u8s t).length from (u8s_length t).symm, List.take_left, List.drop_append]
        simp
      · exact fun k hk => setCells_other g k hk _ _ _
      · obtain ⟨e1, e2, e3, e4, e5⟩ := setCells_same g (byteCells s) (0 + v.len * i.size) w
        exact ⟨e4, e1, e2, e3⟩
  · have hg : v.cap < v.len + s.size := by omega
    have hfit : Builtin.nextslicecap (v.len + s.size) v.cap * i.bytes ≤ 281474976710656 := growslice_fits hg (by rw [hby]; omega)
    have hold : (Builtin.firstCells i.size v.len (.slice v.a v.len v.cap)).run P w.drew = .ok (u8s t).toArray w.drew := by
      rcases hbuf with ⟨h1, h2, h3⟩ | ⟨g, rest, h1, h2, h3⟩
      · subst h3
        rw [h1]
        exact run_firstCells_none _ _ _ _ _
      · rw [h1]
        refine run_firstCells_some _ _ _ _ _ _ (u8s t) (by rw [u8s_length, hsize]; omega) (fun j u hu => ?_)
        rw [Addr.add_lit, Nat.zero_add]
        show w.cell? ⟨g, j, none⟩ = _
        rw [Lib.cell_of_heap h2]
        simp only [List.getElem?_toArray]
        rw [List.getElem?_append, if_pos (List.getElem?_eq_some_iff.1 hu).1, hu]
    have hr := run_append_grow_src (P := P) w tt u ty e i _ ht hi hz v.a v.len v.cap (u8s t) hold (.string s) s.size (byteCells s) src hg (by omega) hfit
    have hge := grownCap_ge w (v.len + s.size) v.cap e
    refine ⟨⟨some ⟨w.heap.size, 0, none⟩, v.len + s.size, grownCap w (v.len + s.size) v.cap e⟩, _, hr, .inr (.inr ⟨List.replicate (grownCap w (v.len + s.size) v.cap e - (v.len + s.size)) (.int .u8 0), ?_, ?_, rfl, rfl, rfl⟩)⟩
    · simp only [hsl, List.length_replicate]
      congr 1
      omega
    · have hcells : ((u8s t ++ byteCells s).toArray ++ Builtin.zeroCells (Value.cells (.int .u8 0)) (grownCap w (v.len + s.size) v.cap e - (v.len + s.size))) = (u8s (t ++ s.data.toList) ++ List.replicate (grownCap w (v.len + s.size) v.cap e - (v.len + s.size)) (Value.int .u8 0)).toArray := by
        apply Array.ext'
        have := zeroCells_replicate (Value.cells (.int .u8 0)) (grownCap w (v.len + s.size) v.cap e - (v.len + s.size)) (by decide)
        rw [Array.toList_append, this, u8s_append, hbc]
        simp [Value.cells]
      rw [hcells]
      rfl
theorem wpList_append_run {ops : Array Oper} {rest : List Oper} {o : Oper} {a : Act} {w : World} {Q : Exit → Act → World → Prop} (hgd : o.guard = none) (sl x : Operand) (t u : TypeId)
    (ho : o.op = .call { callee := .builtin .append, args := #[sl, x], argTypes := #[t, u] }) {v : Sl} {s : ByteArray} (hs : a.eval sl = .slice v.a v.len v.cap) (hx : a.eval x = .string s)
    {D : Sl → World → Prop} (hr : ∃ v' : Sl, ∃ w2, (Builtin.append_ #[t, u] o.type #[.slice v.a v.len v.cap, .string s]).run P w = .ok (.slice v'.a v'.len v'.cap) w2 ∧ D v' w2)
    (h : ∀ v' w2, D v' w2 → wpList P ops Q rest (a.put o.dst (.slice v'.a v'.len v'.cap)) w2) : wpList P ops Q (o :: rest) a w := by
  refine wpList_plain hgd fun K hK => ?_
  obtain ⟨v', w', hr, h2⟩ := hr
  unfold Oper.wp execOp
  simp only [ho, resolve, invoke, builtin, Sem.run_bind, Sem.run_pure, Result.andThen_ok, List.map_toArray, List.map_cons, List.map_nil, hs, hx, hr]
  exact hK _ _ (h v' w' h2)
theorem Grown.keep {e : TypeId} {w w2 : World} {v v' : Sl} {t s : List UInt8} (g : Grown e w w2 v v' t s) {b : Nat} (hb : b < w.heap.size) (hne : ∀ a, v.a = some a → a.block ≠ b) : w2.heap[b]? = w.heap[b]? := by
  rcases g with ⟨_, rfl, _, _⟩ | ⟨g, rest, h1, _, _, _, _, h2, _⟩ | ⟨rest, _, h2, _⟩
  · rfl
  · exact h2 b (fun e => hne _ h1 e.symm)
  · rw [h2, Array.getElem?_push, if_neg (Nat.ne_of_lt hb)]
set_option maxHeartbeats 2000000 in
theorem bld_write (L : Lays.n166 P ρ) (X : Builder.Extra P ρ) {b : Nat} {q : Option Addr} {v : Sl} {t : List UInt8} {w : World} (hb : w.heap[b]? = some (.cells #[.pointer q, .slice v.a v.len v.cap] (ρ.t 72) (0, 0))) (hq : q = none ∨ q = some ⟨b, 0, none⟩)
    (hlen : v.len = t.length) (hbuf : (v.a = none ∧ v.cap = 0 ∧ t = []) ∨ ∃ g rest, v.a = some ⟨g, 0, none⟩ ∧ g ≠ b ∧ w.heap[g]? = some (.cells (u8s t ++ rest).toArray (ρ.t 5) (0, 0)) ∧ v.cap = t.length + rest.length)
    (s : ByteArray) (hbd : t.length + s.size ≤ 140737488355328) :
    Calls P (ρ.f 166) #[.pointer (some ⟨b, 0, none⟩), .string s] w fun e w' => e = .returned (.tuple #[.int .i64 s.size, .nilIface]) ∧ ∃ w1 w2 v', (∀ k, k ≠ b → w1.heap[k]? = w.heap[k]?) ∧ w1.heap.size = w.heap.size ∧ w1.os = w.os ∧ w1.tape = w.tape ∧ w1.output = w.output ∧
      Grown (ρ.t 5) w1 w2 v v' t s.data.toList ∧ w'.heap[b]? = some (.cells #[.pointer (some ⟨b, 0, none⟩), .slice v'.a v'.len v'.cap] (ρ.t 72) (0, 0)) ∧ (∀ k, k ≠ b → w'.heap[k]? = w2.heap[k]?) ∧ w'.heap.size = w2.heap.size ∧ w'.os = w2.os ∧ w'.tape = w2.tape ∧ w'.output = w2.output := by
  obtain ⟨i0, hi, hz0, hz1, hz2⟩ := info_parts X.infoByte
  have mixed := L.mixed
  have t72 := L.t72; have a72 := L.a72; have z72 := L.z72; have v72 := L.v72; have u72 := run_underlying L.t72
  have t70 := L.t70; have a70 := L.a70; have z70 := L.z70; have v70 := L.v70; have u70 := run_underlying L.t70
  have t37 := L.t37; have a37 := L.a37; have z37 := L.z37; have v37 := L.v37; have u37 := run_underlying L.t37
  have t3 := L.t3; have a3 := L.a3; have z3 := L.z3; have v3 := L.v3; have u3 := run_underlying L.t3
  have t9 := L.t9; have a9 := L.a9; have z9 := L.z9; have v9 := L.v9; have u9 := run_underlying L.t9
  have t4 := L.t4; have a4 := L.a4; have z4 := L.z4; have v4 := L.v4; have u4 := run_underlying L.t4
  have t164 := L.t164; have a164 := L.a164; have z164 := L.z164; have v164 := L.v164; have u164 := run_underlying L.t164
  have t5 := X.t5; have a5 := X.a5; have z5 := X.z5; have v5 := X.v5; have u5 := run_underlying X.t5
  have e240 : ∀ args w, (callFunc (ρ.f 240) args).run P w = .ok (.enter (ρ.f 240) args) w := enters_of L.f240 (by kernel_rfl) rfl
  go_enter L.f166, Body.n166_ntmps ρ
  go_wp2_with (go_at_fn (ρ.f 240); refine (bld_copyCheck { L with } X.toX72 hb hq).mono ?_)
  rintro e w1 ⟨rfl, hbk, hk1, hs1, ho1, ht1, hp1⟩
  have HK1 : Aside ((∀ k, k ≠ b → w1.heap[k]? = w.heap[k]?) ∧ w1.heap.size = w.heap.size ∧ w1.os = w.os ∧ w1.tape = w.tape ∧ w1.output = w.output) := ⟨hk1, hs1, ho1, ht1, hp1⟩
  have hlt : b < w1.heap.size := (Array.getElem?_eq_some_iff.1 hbk).1
  have hbuf1 : (v.a = none ∧ v.cap = 0 ∧ t = []) ∨ ∃ g rest, v.a = some ⟨g, 0, none⟩ ∧ w1.heap[g]? = some (.cells (u8s t ++ rest).toArray (ρ.t 5) (0, 0)) ∧ v.cap = t.length + rest.length := by
    rcases hbuf with h | ⟨g, rest, h1, h2, h3, h4⟩
    · exact .inl h
    · exact .inr ⟨g, rest, h1, (hk1 g h2).trans h3, h4⟩
  have hne : ∀ a, v.a = some a → a.block ≠ b := by
    rcases hbuf with ⟨h, _⟩ | ⟨g, rest, h1, h2, _⟩
    · intro a ha; rw [h] at ha; cases ha
    · intro a ha; rw [h1] at ha; cases ha; exact h2
  have HL : Aside (v.len = t.length) := hlen
  clear hk1 hs1 ho1 ht1 hp1 hbuf hlen
  have c0 : w1.cell? ⟨b, 0, none⟩ = some (.pointer (some ⟨b, 0, none⟩)) := by rw [Lib.cell_of_heap hbk]; rfl
  have c1 : w1.cell? ⟨b, 1, none⟩ = some (.slice v.a v.len v.cap) := by rw [Lib.cell_of_heap hbk]; rfl
  go_wp2_with (at_builtin; go_must (refine wpList_append_run rfl _ _ (ρ.t 37) (ρ.t 9) rfl (v := v) (s := s) rfl rfl (append_grown L.t37 L.t9 hi hz0 hz1 hz2 HL.out hbuf1 s hbd) ?_))
  intro v' w2 hG
  have hb2 : w2.heap[b]? = some (.cells #[.pointer (some ⟨b, 0, none⟩), .slice v.a v.len v.cap] (ρ.t 72) (0, 0)) := (hG.keep hlt hne).trans hbk
  have HG : Aside (Grown (ρ.t 5) w1 w2 v v' t s.data.toList) := hG
  clear hG
  have d0 : w2.cell? ⟨b, 0, none⟩ = some (.pointer (some ⟨b, 0, none⟩)) := by rw [Lib.cell_of_heap hb2]; rfl
  have d1 : w2.cell? ⟨b, 1, none⟩ = some (.slice v.a v.len v.cap) := by rw [Lib.cell_of_heap hb2]; rfl
  have f1 : w2.frozen? ⟨b, 1, none⟩ = false := Lib.frozen_of_heap hb2 1
  go_wp2
  go_ret2
  obtain ⟨q1, q2, q3, q4, q5⟩ := HK1.out
  obtain ⟨r1, r2⟩ := heap_setCell (i := 1) (v := .slice v'.a v'.len v'.cap) hb2
  exact ⟨rfl, w1, w2, v', q1, q2, q3, q4, q5, HG.out, r1, r2, by simp [World.setCell], rfl, rfl, rfl⟩
theorem raw_two {w : World} {h : H} (g : Hpart P w h) {b : Nat} {T : TypeId} {x y : Value} (hb : h b = some (.raw T [x, y])) : w.heap[b]? = some (.cells #[x, y] T (0, 0)) := g.blk b _ hb
theorem linked_WriteString (L : Lays.n166 P ρ) (X : Builder.Extra P ρ) : Linked P ⟨ρ.f 166, [.leaf (.o .p), .leaf (.o .s)], [.leaf (.o (.i .i64)), .leaf (.o .nif)], fun t Q => writeStrW (ρ.t 72) (ρ.t 5) t.1 t.2 fun n => Q (n, ())⟩ := by
  refine ⟨⟨_, _, L.f166, rfl, fun e => absurd (show ("(*strings.Builder).WriteString" : String) = "runtime.NumGoroutine" from e) (by decide)⟩, ?_⟩
  intro t args Q h w hr g hF
  obtain ⟨p, s⟩ := t
  simp only [tysOf, Sh.tys, unpackL, shape, SV.of, SV.of0, List.cons_append, List.nil_append] at hr
  obtain ⟨x, us, rfl, hx, hr⟩ := relL_cons.1 hr
  obtain ⟨y, us', rfl, hy, hr⟩ := relL_cons.1 hr
  rw [relL_nil] at hr
  subst hr
  simp only [rel] at hx hy
  subst hx; subst hy
  obtain ⟨b, q, v, t, hp, B, hbd, k1, k2, k3⟩ := hF
  dsimp only at hp hbd k1 k2 k3
  subst hp
  have hsl : s.data.toList.length = s.size := size_data s
  have hbw := raw_two g B.blk
  have hbuf : (v.a = none ∧ v.cap = 0 ∧ t = []) ∨ ∃ g rest, v.a = some ⟨g, 0, none⟩ ∧ g ≠ b ∧ w.heap[g]? = some (.cells (u8s t ++ rest).toArray (ρ.t 5) (0, 0)) ∧ v.cap = t.length + rest.length := by
    rcases B.buf with hh | ⟨gg, rest, h1, h2, h3, h4⟩
    · exact .inl hh
    · exact .inr ⟨gg, rest, h1, h2, g.blk gg _ h3, h4⟩
  have hblt : b < w.heap.size := g.lt B.blk
  refine (bld_write L X hbw B.own B.len hbuf s hbd).mono ?_
  rintro e w' ⟨rfl, w1, w2, v', q1, q2, q3, q4, q5, hG, r1, r2, r3, r4, r5, r6⟩
  rcases hG with ⟨rfl, rfl, hs0, hva⟩ | ⟨gb, rest, hva, hg1, hle, rfl, hg2, hsame, hsz, o1, o2, o3⟩ | ⟨rest, rfl, hpush, o1, o2, o3⟩
  · refine ⟨(_, ()), _, _, rfl, ?_, k1 hva (by rw [← hsl, hs0]; rfl), ?_, ?_⟩
    · simp [retSV, shape, tysOf, Sh.tys, unpackL, SV.of, SV.of0, rel, relL]
    · exact g.turn (by rw [r1]; rfl) fun k hk o _ => by rw [r2 k hk, q1 k hk]
    · refine ⟨by omega, fun k hk hc => ?_, r4.trans q3, r5.trans q4, r6.trans q5, fun q => q.elim⟩
      have hne : k ≠ b := by rintro rfl; obtain ⟨c, hc⟩ := hc _ B.blk; cases hc
      exact ⟨by simp [H.set, hne], by rw [r2 k hne, q1 k hne]⟩
  · have hgb : gb ≠ b := by
      rcases hbuf with ⟨h, _⟩ | ⟨gg, rest', h1, h2, _⟩
      · rw [hva] at h; cases h
      · rw [hva] at h1; cases h1; exact h2
    obtain ⟨rest', hh, hrr⟩ : ∃ rest', h gb = some (.raw (ρ.t 5) (u8s t ++ rest')) ∧ rest' = rest := by
      rcases B.buf with ⟨hh, _⟩ | ⟨gg, rest', h1, h2, h3, h4⟩
      · rw [hva] at hh; cases hh
      · rw [hva] at h1; cases h1
        refine ⟨rest', h3, ?_⟩
        have e1 := (q1 gb hgb).symm.trans hg1
        have e0 : w.heap[gb]? = some (.cells (u8s t ++ rest').toArray (ρ.t 5) (0, 0)) := g.blk gb _ h3
        rw [e0] at e1
        simp only [Option.some.injEq, Obj.cells.injEq] at e1
        have e2 := congrArg Array.toList e1.1
        simpa using e2
    subst hrr
    refine ⟨(_, ()), _, _, rfl, ?_, k2 gb rest' hva hh (by omega), ?_, ?_⟩
    · simp [retSV, shape, tysOf, Sh.tys, unpackL, SV.of, SV.of0, rel, relL]
    · refine ⟨fun k o hk => ?_⟩
      unfold H.set at hk
      split at hk
      · rename_i e; subst e; cases hk; rw [r1]; simp [BlkRel, hsl]
      · rename_i e
        split at hk
        · rename_i e2; subst e2; cases hk
          rw [r2 k e, hg2, hsl]; rfl
        · rename_i e2
          rw [r2 k e, hsame k e2, q1 k e]
          exact g.blk k o hk
    · refine ⟨by omega, fun k hk hc => ?_, r4.trans (o1.trans q3), r5.trans (o2.trans q4), r6.trans (o3.trans q5), fun q => q.elim⟩
      have hne : k ≠ b := by rintro rfl; obtain ⟨c, hc⟩ := hc _ B.blk; cases hc
      have hne2 : k ≠ gb := by rintro rfl; obtain ⟨c, hc⟩ := hc _ hh; cases hc
      exact ⟨by simp [H.set, hne, hne2], by rw [r2 k hne, hsame k hne2, q1 k hne]⟩
  · have hnew : h w.heap.size = none := g.fresh (Nat.le_refl _)
    have hnb : w.heap.size ≠ b := by omega
    rw [q2] at r1
    refine ⟨(_, ()), _, _, rfl, ?_, k3 w.heap.size rest hnew, ?_, ?_⟩
    · simp [retSV, shape, tysOf, Sh.tys, unpackL, SV.of, SV.of0, rel, relL]
    · refine ⟨fun k o hk => ?_⟩
      unfold H.set at hk
      split at hk
      · rename_i e; subst e; cases hk; rw [r1]; simp [BlkRel, hsl]
      · rename_i e
        split at hk
        · rename_i e2; subst e2; cases hk
          rw [r2 _ e, hpush, Array.getElem?_push, if_pos q2.symm]
          rfl
        · rename_i e2
          rw [r2 k e, hpush, Array.getElem?_push, if_neg (by rw [q2]; exact e2), q1 k e]
          exact g.blk k o hk
    · refine ⟨by rw [r3, hpush]; simp; omega, fun k hk hc => ?_, r4.trans (o1.trans q3), r5.trans (o2.trans q4), r6.trans (o3.trans q5), fun q => q.elim⟩
      have hne : k ≠ b := by rintro rfl; obtain ⟨c, hc⟩ := hc _ B.blk; cases hc
      have hne2 : k ≠ w.heap.size := by omega
      exact ⟨by simp [H.set, hne, hne2], by rw [r2 k hne, hpush, Array.getElem?_push, if_neg (by omega), q1 k hne]⟩
theorem heap_freeze {w : World} {g n : Nat} {c : Array Value} {T : TypeId} (hb : w.heap[g]? = some (.cells c T (0, 0))) (hn : n ≠ 0) :
    (w.freeze ⟨g, 0, none⟩ n).heap[g]? = some (.cells c T (0, n)) ∧ (∀ k, k ≠ g → (w.freeze ⟨g, 0, none⟩ n).heap[k]? = w.heap[k]?) ∧ (w.freeze ⟨g, 0, none⟩ n).heap.size = w.heap.size ∧
    (w.freeze ⟨g, 0, none⟩ n).os = w.os ∧ (w.freeze ⟨g, 0, none⟩ n).tape = w.tape ∧ (w.freeze ⟨g, 0, none⟩ n).output = w.output := by
  unfold World.freeze
  rw [if_neg hn]
  refine ⟨?_, fun k hk => ?_, by simp, rfl, rfl, rfl⟩
  · simp only [Array.getElem?_modify, if_true, hb]; simp
  · simp only [Array.getElem?_modify, if_neg (Ne.symm hk)]
set_option maxHeartbeats 2000000 in
theorem bld_text (L : Lays.n169 P ρ) (X : Builder.Extra P ρ) {b g cap : Nat} {q : Option Addr} {l : List UInt8} {rest : List Value} {w : World} (hbk : w.heap[b]? = some (.cells #[.pointer q, .slice (some ⟨g, 0, none⟩) l.length cap] (ρ.t 72) (0, 0)))
    (hg : w.heap[g]? = some (.cells (u8s l ++ rest).toArray (ρ.t 5) (0, 0))) (hcap : l.length ≤ cap) (h0 : l ≠ []) (hl63 : l.length ≤ 140737488355328) :
    Calls P (ρ.f 169) #[.pointer (some ⟨b, 0, none⟩)] w fun e w' => e = .returned (.string ⟨l.toArray⟩) ∧ w' = w.drew.freeze ⟨g, 0, none⟩ l.length := by
  have hl0 : l.length ≠ 0 := by simpa using h0
  have c1 : w.drew.cell? ⟨b, 1, none⟩ = some (.slice (some ⟨g, 0, none⟩) l.length cap) := by
    have : w.drew.heap[b]? = some (.cells #[.pointer q, .slice (some ⟨g, 0, none⟩) l.length cap] (ρ.t 72) (0, 0)) := hbk
    rw [Lib.cell_of_heap this]; rfl
  have hSD : (Builtin.unsafeSliceData_ #[(ρ.t 37)] (ρ.t 127) #[.slice (some ⟨g, 0, none⟩) l.length cap]).run P w.drew = .ok (.pointer (some ⟨g, 0, none⟩)) w.drew :=
    Lib.run_unsafeSliceData_row _ _ _ _ _ _ (by omega)
  have hUS : (Builtin.unsafeString_ #[(ρ.t 127), (ρ.t 3)] (ρ.t 9) #[.pointer (some ⟨g, 0, none⟩), .int .i64 l.length]).run P w.drew = .ok (.string ⟨l.toArray⟩) (w.drew.freeze ⟨g, 0, none⟩ l.length) := by
    have hg' : w.drew.heap[g]? = some (.cells (u8s l ++ rest).toArray (ρ.t 5) (0, 0)) := hg
    refine Lib.run_unsafeString_row w.drew (ρ.t 127) (ρ.t 3) (ρ.t 9) (ρ.t 5) L.t127 X.cellsByte g (u8s l ++ rest).toArray.size (by simp [World.shape?, hg']) l h0 (by simp [u8s_length]) (by omega) ?_
    intro j x hx
    rw [Addr.add_lit, Nat.zero_add, Lib.cell_of_heap hg']
    have hj := (List.getElem?_eq_some_iff.1 hx).1
    simp only [List.getElem?_toArray]
    rw [List.getElem?_append, if_pos (by rw [u8s_length]; exact hj)]
    simp [u8s, hx]
  have mixed := L.mixed
  have t72 := L.t72; have a72 := L.a72; have z72 := L.z72; have v72 := L.v72; have u72 := run_underlying L.t72
  have t70 := L.t70; have a70 := L.a70; have z70 := L.z70; have v70 := L.v70; have u70 := run_underlying L.t70
  have t37 := L.t37; have a37 := L.a37; have z37 := L.z37; have v37 := L.v37; have u37 := run_underlying L.t37
  have t127 := L.t127; have a127 := L.a127; have z127 := L.z127; have v127 := L.v127; have u127 := run_underlying L.t127
  have t3 := L.t3; have a3 := L.a3; have z3 := L.z3; have v3 := L.v3; have u3 := run_underlying L.t3
  have t9 := L.t9; have a9 := L.a9; have z9 := L.z9; have v9 := L.v9; have u9 := run_underlying L.t9
  have t5 := X.t5; have a5 := X.a5; have z5 := X.z5; have v5 := X.v5; have u5 := run_underlying X.t5
  clear hg hl63
  go_enter L.f169, Body.n169_ntmps ρ
  go_wp2
  go_region_o
  all_goals (go_wp2; go_ret; exact ⟨rfl, rfl⟩)
theorem linked_String (L : Lays.n169 P ρ) (X : Builder.Extra P ρ) : Linked P ⟨ρ.f 169, [.leaf (.o .p)], [.leaf (.o .s)], fun t Q => bldTextW (ρ.t 72) (ρ.t 5) t Q⟩ := by
  refine ⟨⟨_, _, L.f169, rfl, fun e => absurd (show ("(*strings.Builder).String" : String) = "runtime.NumGoroutine" from e) (by decide)⟩, ?_⟩
  intro t args Q h w hr g hF
  change Option Addr at t
  simp only [tysOf, Sh.tys, unpackL, shape, SV.of, SV.of0, List.cons_append, List.nil_append] at hr
  obtain ⟨x, us, rfl, hx, hr⟩ := relL_cons.1 hr
  rw [relL_nil] at hr
  subst hr
  simp only [rel] at hx
  subst hx
  have hF : bldTextW (ρ.t 72) (ρ.t 5) t Q h := hF
  obtain ⟨b, q, v, t', hp, B, hbd, k1, k2⟩ := hF
  subst hp
  revert B hbd k1 k2
  generalize t' = t
  intro B hbd k1 k2
  have hbw := raw_two g B.blk
  by_cases e : t = []
  · subst e
    have hv0 : v.len = 0 := B.len
    have fin : ∀ e' w', e' = Ending.returned (.string ⟨#[]⟩) ∧ Below w.heap.size w w' → ∃ (r : Tup (tysOf [Sh.leaf (.o .s)])) (v : Value) (h' : H), e' = .returned v ∧ rel P (fun _ => 0) (retSV (shape [Sh.leaf (.o .s)] (unpackL (tysOf [Sh.leaf (.o .s)]) r))) v ∧ Q r h' ∧ Hpart P w' h' ∧ Keeps w h w' h' := by
      rintro e' w' ⟨rfl, hb⟩
      obtain ⟨q1, q2⟩ := keeps_below g hb
      exact ⟨_, _, h, rfl, by simp [retSV, shape, tysOf, Sh.tys, unpackL, SV.of, SV.of0, rel], k1 rfl, q1, q2⟩
    rcases B.buf with ⟨h1, h2, _⟩ | ⟨gg, rest, h1, h2, h3, h4⟩
    · rw [h1, h2, hv0] at hbw
      exact (Any.Builder_String_nil L X w.heap.size b (.pointer q) w hbw).mono fin
    · rw [h1, hv0] at hbw
      by_cases hc0 : v.cap = 0
      · rw [hc0] at hbw
        exact (Any.Builder_String_noroom L X w.heap.size b gg (.pointer q) _ w (Nat.le_refl _) hbw (g.blk gg _ h3)).mono fin
      · exact (Any.Builder_String_room L X w.heap.size b gg v.cap (.pointer q) w hc0 hbw).mono fin
  · have hl : v.len = t.length := B.len
    rcases B.buf with ⟨_, _, h3⟩ | ⟨gg, rest, h1, h2, h3, h4⟩
    · exact absurd h3 e
    · rw [h1, hl] at hbw
      refine (bld_text L X hbw (g.blk gg _ h3) (by omega) e hbd).mono ?_
      rintro e' w' ⟨rfl, rfl⟩
      have h3' : w.drew.heap[gg]? = some (.cells (u8s t ++ rest).toArray (ρ.t 5) (0, 0)) := g.blk gg _ h3
      obtain ⟨f1, f2, f3, f4, f5, f6⟩ := heap_freeze (n := t.length) h3' (by simpa using e)
      refine ⟨_, _, _, rfl, by simp [retSV, shape, tysOf, Sh.tys, unpackL, SV.of, SV.of0, rel], k2 gg rest e h1 h3, ?_, ?_⟩
      · exact g.turn (b := gg) (by rw [f1]; exact ⟨_, _, rfl, fun hh => by cases hh⟩) fun k hk o _ => by rw [f2 k hk]; rfl
      · refine ⟨by rw [f3]; exact Nat.le_refl _, fun k hk hc => ?_, f4, f5, f6, fun q => q.elim⟩
        have hne2 : k ≠ gg := by rintro rfl; obtain ⟨c, hc⟩ := hc _ h3; cases hc
        exact ⟨by simp [H.set, hne2], by rw [f2 k hne2]; rfl⟩
end Go.Cz
namespace Go.Cz
open Go Go.Proofs Go.Shelf Go.RowKit Go.Sort
set_option linter.unusedSimpArgs false
set_option linter.unusedVariables false
set_option linter.unusedSectionVars false
set_option maxRecDepth 100000
variable {P : Program} {ρ : Ren}
theorem putRow_heap {α : Type} [Inhabited α] (enc : α → Value) {w w1 : World} {blk off : Nat} {l : List α} {c : List Value} {T : TypeId} {fz : Nat × Nat} (hw1 : w1.heap = w.heap) (hb : w.heap[blk]? = some (.cells c.toArray T fz)) (hl : off + l.length ≤ c.length) :
    (putRow enc w1 blk off l.toArray).heap[blk]? = some (.cells (c.take off ++ l.map enc ++ c.drop (off + l.length)).toArray T fz) ∧
    (∀ b, b ≠ blk → (putRow enc w1 blk off l.toArray).heap[b]? = w.heap[b]?) ∧ (putRow enc w1 blk off l.toArray).heap.size = w.heap.size := by
  have hh : (putRow enc w1 blk off l.toArray).heap = w.heap.modify blk (onCells (putCells enc off l.toArray)) := by
    unfold putRow; rw [← hw1]; rfl
  refine ⟨?_, ?_, ?_⟩
  · rw [hh, Array.getElem?_modify, if_pos rfl, hb]
    simp only [Option.map_some, onCells]
    congr 2
    apply Array.ext_getElem?
    intro t
    simp only [putCells, Array.getElem?_mapIdx, List.getElem?_toArray, List.size_toArray]
    rw [List.append_assoc, List.getElem?_append, List.length_take, Nat.min_eq_left (by omega)]
    by_cases h1 : t < off
    · rw [if_pos h1, List.getElem?_take, if_pos h1]
      cases c[t]? with
      | none => rfl
      | some y => simp only [Option.map_some]; rw [if_neg (by omega)]
    · rw [if_neg h1, List.getElem?_append]
      by_cases h2 : t - off < l.length
      · rw [if_pos (by simpa using h2), List.getElem?_eq_getElem (show t < c.length by omega), List.getElem?_map, List.getElem?_eq_getElem h2]
        simp only [Option.map_some]
        rw [if_pos (by omega)]
        simp [h2]
      · rw [if_neg (by simpa using h2), List.getElem?_drop, List.length_map, show off + l.length + (t - off - l.length) = t by omega]
        cases c[t]? with
        | none => rfl
        | some y => simp only [Option.map_some]; rw [if_neg (by omega)]
  · intro b hne
    rw [hh, Array.getElem?_modify, if_neg (fun e => hne e.symm)]
  · rw [hh]; simp
theorem linked_SortInt (L : Lays.n189 P ρ) : Linked P ⟨ρ.f 189, [.leaf (.o .sl)], [], fun t Q => sortIW t (Q ())⟩ := by
  refine ⟨⟨_, _, L.f189, rfl, fun e => absurd (show ("slices.Sort[[]int,int]" : String) = "runtime.NumGoroutine" from e) (by decide)⟩, ?_⟩
  intro t args Q h w hr g hF
  change Sl at t
  simp only [tysOf, Sh.tys, unpackL, shape, SV.of, SV.of0, List.cons_append, List.nil_append] at hr
  obtain ⟨x, us, rfl, hx, hr⟩ := relL_cons.1 hr
  rw [relL_nil] at hr
  subst hr
  simp only [rel] at hx
  subst hx
  obtain ⟨l, hlen, hsz, hrow, hnil, hne⟩ := hF
  by_cases e : l = []
  · have h0 : t.len = 0 := by rw [← hlen, e]; rfl
    rw [h0]
    refine (Any.slices_Sort_int_none L t.a t.cap w).mono ?_
    rintro e' w' ⟨rfl, rfl⟩
    obtain ⟨k1, k2⟩ := keeps_same g (.inl rfl)
    exact ⟨(), _, h, rfl, by simp [retSV, shape, rel, relL], hnil e, k1, k2⟩
  · obtain ⟨a, ha, hst⟩ := hne e
    unfold storesW at hst
    split at hst
    case h_2 => exact hst.elim
    rename_i c hb
    obtain ⟨hsp, hle, hK⟩ := hst
    obtain ⟨T, fz, hw, hzf⟩ := g.cells _ c true hb
    have ea : a = ⟨a.block, a.off, none⟩ := by cases a; simp at hsp; simp [hsp]
    obtain ⟨k1, k3, k4⟩ := row_cells g hrow
    have hml : (l.mergeSort fun x y => decide (x ≤ y)).length = l.length := List.length_mergeSort ..
    rw [List.length_map, hml] at hle
    have hH : Holds (Value.int .i64) w a.block a.off l.toArray := by
      intro j hj
      have hj : j < l.length := by simpa using hj
      have h1 := k3 a ha j (.int .i64 l[j]) (by simp [hj])
      rw [Go.Cz.add_eq hsp] at h1
      refine ⟨?_, ?_⟩
      · rw [h1]; simp [hj]
      · have h2 := hzf rfl (a.off + j) (by omega)
        simp only [World.frozen?, hw]
        simpa using h2
    have hc := Any.slices_Sort_int L a.block a.off t.cap l w hH (Array.getElem?_eq_some_iff.1 hw).1 hsz
    rw [← ea, ← ha, hlen] at hc
    refine hc.mono ?_
    rintro e' w' ⟨rfl, n, os, rfl⟩
    obtain ⟨s1, s2, s3⟩ := putRow_heap (Value.int .i64) (w := w) (w1 := Sort.ahead w n) (blk := a.block) (off := a.off) (l := l.mergeSort fun x y => decide (x ≤ y)) rfl hw (by rw [hml]; exact hle)
    have hold : ∀ k, k < w.heap.size → (Go.Sort.grow (putRow (Value.int .i64) (Sort.ahead w n) a.block a.off (l.mergeSort fun x y => decide (x ≤ y)).toArray) os).heap[k]? = (putRow (Value.int .i64) (Sort.ahead w n) a.block a.off (l.mergeSort fun x y => decide (x ≤ y)).toArray).heap[k]? := fun k hk => by
      show ((putRow (Value.int .i64) (Sort.ahead w n) a.block a.off (l.mergeSort fun x y => decide (x ≤ y)).toArray).heap ++ os)[k]? = _
      rw [Array.getElem?_append, if_pos (by rw [s3]; exact hk)]
    rw [List.length_map] at hK
    refine ⟨(), _, _, rfl, by simp [retSV, shape, rel, relL], hK, ?_, ?_⟩
    · refine g.turn (b := a.block) ?_ fun k hk o ho => by rw [hold k (g.lt ho)]; exact s2 k hk
      rw [hold _ (g.lt hb), s1]
      exact ⟨T, fz, rfl, fun hw i hi => hzf rfl i (by simp [hml] at hi; omega)⟩
    · refine ⟨by show _ ≤ ((putRow _ _ _ _ _).heap ++ os).size; simp [s3], fun k hk hc => ?_, rfl, rfl, rfl, fun q => q.elim⟩
      have hne : k ≠ a.block := by rintro rfl; exact hc.not _ hb
      exact ⟨by simp [H.set, hne], by rw [hold k hk]; exact s2 k hne⟩
open Go.Maps Go.Sort Go.WideShapes in
theorem keys_own {P : Program} {k : TypeId} (hk : P.underlying k = some .string) {w : World} {b ck : Nat} {es : List MapEntry} {ks : List (List UInt8)} (hb : w.heap[b]? = some (.map es.toArray ck)) (h1 : es.map (·.key) = strs ks) (h2 : ks.Nodup) (h3 : (es.map (·.born)).Nodup) (h4 : ∀ e ∈ es, e.born < ck)
    (h5 : ∀ k ∈ ks, k.length ≤ 9223372036854775807) (h6 : ks.length * 16 ≤ 140737488351232) :
    ∃ D0 : DataW Unit, w.ownsMap P k (fun _ => some (.lit (.bool true), [])) b ks.length D0 ∧ (strKeys D0).Perm ks ∧ Maps.size D0 = ks.length := by
  have hl : es.length = ks.length := by have := congrArg List.length h1; simpa [strs] using this
  have key : ∀ x ∈ es, ∃ z ∈ ks, x.key = .string ⟨z.toArray⟩ ∧ keyOf P k x.key = some (.string z) := by
    intro x hx
    have : x.key ∈ strs ks := by rw [← h1]; exact List.mem_map_of_mem hx
    obtain ⟨z, hz, e⟩ := List.mem_map.1 this
    refine ⟨z, hz, e.symm, ?_⟩
    rw [← e]
    have := h5 z hz
    simp only [keyOf, hk, mapKey]
    rw [if_pos (by show (ByteArray.mk z.toArray).size ≤ maxLen; simp [ByteArray.size, maxLen]; omega)]
  have hrd : ∀ x ∈ es, ∃ z, x.key = .string ⟨z.toArray⟩ ∧ WideElems.rd P k (fun _ => some ((.lit (.bool true) : DataW Unit), [])) x = some (.string z, .lit (.bool true)) := by
    intro x hx
    obtain ⟨z, _, e, hz⟩ := key x hx
    refine ⟨z, e, ?_⟩
    obtain ⟨kk, vv, bb⟩ := x
    exact WideElems.rd_mk (R := fun _ => some ((.lit (.bool true) : DataW Unit), [])) hz rfl
  have hmap : (es.map (WideElems.rg P k (fun _ => some ((.lit (.bool true) : DataW Unit), [])))).map (fun p => strOf p.1) = ks := by
    have e1 : es.map (·.key) = (es.map (WideElems.rg P k (fun _ => some ((.lit (.bool true) : DataW Unit), [])))).map (fun p => Value.string ⟨(strOf p.1).toArray⟩) := by
      rw [List.map_map]
      apply List.map_congr_left
      intro x hx
      obtain ⟨z, e, hz⟩ := hrd x hx
      rw [Function.comp, WideElems.rg_of hz, e]; rfl
    rw [h1] at e1
    have e2 : ((es.map (WideElems.rg P k (fun _ => some ((.lit (.bool true) : DataW Unit), [])))).map (fun p => strOf p.1)).map (fun z => Value.string ⟨z.toArray⟩) = ks.map (fun z => Value.string ⟨z.toArray⟩) := by
      rw [List.map_map]; exact e1.symm
    have inj : ∀ {a b : List (List UInt8)}, a.map (fun z => Value.string ⟨z.toArray⟩) = b.map (fun z => Value.string ⟨z.toArray⟩) → a = b := by
      intro a
      induction a with
      | nil => intro b h; cases b <;> simp_all
      | cons x r ih =>
        intro b h
        cases b with
        | nil => simp at h
        | cons y s =>
          simp only [List.map_cons, List.cons.injEq] at h
          obtain ⟨h1, h2⟩ := h
          have : x = y := by injection h1 with h1; have := congrArg (fun z : ByteArray => z.data.toList) h1; simpa using this
          rw [this, ih h2]
    exact inj e2
  have hperm := sorted_perm (es.map (WideElems.rg P k (fun _ => some ((.lit (.bool true) : DataW Unit), []))))
  refine ⟨.map ((es.map (WideElems.rg P k _)).foldr DataW.insert []), ⟨es.toArray, ck, hb, ⟨by simp [maxLen]; omega, ⟨fun x hx => h4 x (by simpa using hx), by simpa using h3, ?_⟩, fun x hx => ?_⟩, by simp [hl], rfl⟩, ?_, ?_⟩
  · rw [show (es.toArray.toList.map (·.key)) = strs ks from by simpa using h1]
    unfold strs
    refine List.pairwise_map.2 (h2.imp fun {a b} hne e => hne ?_)
    injection e with e
    have := congrArg (fun z : ByteArray => z.data.toList) e
    simpa using this
  · obtain ⟨z, _, hz⟩ := hrd x (by simpa using hx)
    exact ⟨_, hz⟩
  · show (((es.map (WideElems.rg P k _)).foldr DataW.insert []).map fun p => strOf p.1).Perm ks
    rw [← hmap]
    exact hperm.map _
  · show ((es.map (WideElems.rg P k _)).foldr DataW.insert []).length = ks.length
    rw [hperm.length_eq]
    simp [hl]
theorem keys_world {w w' : World} {h : H} {Q : Sl → HProp} {ks : List (List UInt8)} {T : TypeId} {v : Value} (g : Hpart P w h) (hrow : w'.ownsRow w.heap.size T 1 v ks.length ((ks.mergeSort leB).map encStr)) (hnil : v = .slice none 0 0 ↔ ks = []) (hb : Below w.heap.size w w')
    (k1 : ks = [] → Q ⟨none, 0, 0⟩ h) (k2 : ks ≠ [] → ∀ (cap' : Nat) (rest : List Value) (b : Nat), ks.length ≤ cap' → rest.length = cap' - ks.length → h b = none → Q ⟨some ⟨b, 0, none⟩, ks.length, cap'⟩ (h.set b (.cells (strs (ks.mergeSort leB) ++ rest) true))) :
    ∃ (r : Sl) (h' : H), v = .slice r.a r.len r.cap ∧ Q r h' ∧ Hpart P w' h' ∧ Keeps w h w' h' := by
  by_cases e : ks = []
  · obtain ⟨q1, q2⟩ := keeps_below g hb
    exact ⟨⟨none, 0, 0⟩, h, hnil.2 e, k1 e, q1, q2⟩
  · rcases hrow.2 with ⟨rfl, _⟩ | ⟨gb, cap', cur, rfl, hbase, hgb, h1, h2, h3, h4⟩
    · exact absurd (hnil.1 rfl) e
    · have hnew : h gb = none := by
        cases hh : h gb with
        | none => rfl
        | some o => exact absurd (g.lt hh) (by omega)
      have hcur : cur.toList = strs (ks.mergeSort leB) ++ cur.toList.drop (ks.length * 1) := by
        have : (ks.mergeSort leB).map encStr = strs (ks.mergeSort leB) := rfl
        rw [← this, ← h4]; exact (List.take_append_drop _ _).symm
      refine ⟨⟨some ⟨gb, 0, none⟩, ks.length, cap'⟩, _, rfl, k2 e cap' (cur.toList.drop (ks.length * 1)) gb h1 (by simp [h3]) hnew, g.turn (b := gb) ?_ fun k hk o ho => hb.block k (g.lt ho), hb.size, fun k hk hc => ?_, hb.os, hb.tape, hb.output, fun q => q.elim⟩
      · rw [← hcur]
        exact ⟨T, (0, 0), hgb, fun _ i _ => by omega⟩
      · have : k ≠ gb := by omega
        exact ⟨by simp [H.set, this], hb.block k hk⟩
theorem linked_SortedKeys {ρ7 ρs : Ren} (L6 : SlLaysZ.n6 P ρ) (L7 : SlLaysZ.n7 P ρ7) (Ls : Lays.n190 P ρs) (h9 : ρs.f 190 = ρ.f 9) (e9 : ∀ args w, (callFunc (ρ.f 9) args).run P w = .ok (.enter (ρ.f 9) args) w) (eg : ∀ args w, (callFunc (ρ7.f 10) args).run P w = .ok (.enter (ρ7.f 10) args) w) :
    Linked P ⟨ρ.f 6, [.leaf (.clo (ρ7.f 10) [.p])], [.leaf (.o .sl)], fun t Q => sortedKeysW t Q⟩ := by
  obtain ⟨nm, hnm, FG⟩ := L6.f6
  refine ⟨⟨_, _, FG, rfl, fun e => by rw [show nm = "runtime.NumGoroutine" from e] at hnm; simp at hnm⟩, ?_⟩
  intro t args Q h w hr g hF
  change Option Addr at t
  simp only [tysOf, Sh.tys, unpackL, shape, SV.of, SV.of0, unpackL0, List.cons_append, List.nil_append] at hr
  obtain ⟨y, us, rfl, hy, hr⟩ := relL_cons.1 hr
  rw [relL_nil] at hr
  subst hr
  simp only [rel] at hy
  obtain ⟨fv, cv, rfl, h1, h2⟩ := hy
  have h1 : fv = #[] := by simpa [relL] using h1
  have h2 : cv = #[.pointer t] := by
    obtain ⟨z, us, e, hz, hu⟩ := relL_cons.1 h2
    rw [relL_nil] at hu
    simp only [rel] at hz
    subst hz; subst hu
    exact Array.toList_inj.1 e
  subst h1; subst h2
  have hF : sortedKeysW t Q h := hF
  obtain ⟨B, r, ht, hc, hm⟩ := hF
  subst ht
  have hcw := g.cell hc
  have hBlt : B < w.heap.size := by
    unfold H.cell? at hc
    split at hc
    · rename_i hb; exact g.lt hb
    · cases hc
  have sorts : ∀ m, AnyZ.SortsIn P ρ Fence.wide m := fun m => by
    refine ⟨fun blk off cap ss W hH hblk hsz => ?_, fun p cap W => ?_⟩
    · rw [← h9]; exact callsIn_wide.2 (Any.slices_Sort_string Ls blk off cap ss W hH hblk hsz)
    · rw [← h9]; exact callsIn_wide.2 (Any.slices_Sort_string_none Ls p cap W)
  have fin : ∀ (v : Value) w', (∃ (r : Sl) (h' : H), v = .slice r.a r.len r.cap ∧ Q r h' ∧ Hpart P w' h' ∧ Keeps w h w' h') → ∃ (r : Tup (tysOf [Sh.leaf (.o .sl)])) (v' : Value) (h' : H), Ending.returned v = .returned v' ∧ rel P (fun _ => 0) (retSV (shape [Sh.leaf (.o .sl)] (unpackL (tysOf [Sh.leaf (.o .sl)]) r))) v' ∧ Q r h' ∧ Hpart P w' h' ∧ Keeps w h w' h' := by
    rintro v w' ⟨r, h', rfl, hQ, hp, hk⟩
    exact ⟨r, _, h', rfl, by simp [retSV, shape, tysOf, Sh.tys, unpackL, SV.of, SV.of0, rel], hQ, hp, hk⟩
  cases r with
  | none =>
    have hseq : SeqGives Fence.wide 2 P (ρ7.f 10) #[.pointer (some ⟨B, 0, none⟩)] encStr (fun ss : List (List UInt8) => ss = []) 0 w :=
      AnyZ.keys_gives_nil (ρ := ρ7) { L7 with } Fence.wide _ trivial rfl B w hBlt hcw
    have cS := AnyZ.sorted_in L6 Fence.wide 5 trivial trivial trivial trivial rfl (by omega) (sorts _) e9 (ρ7.f 10) #[.pointer (some ⟨B, 0, none⟩)] trivial eg _ 0 (Nat.zero_le _) (by omega) w hseq
    refine ((callsIn_wide (n := 5)).1 cS).mono ?_
    rintro e w' ⟨v, ss, rfl, rfl, hrow, hnil, hb⟩
    exact fin v w' (keys_world g (ks := []) hrow hnil hb (fun _ => hm) (fun e => absurd rfl e))
  | some m =>
    simp only [] at hm
    split at hm
    case h_2 => exact hm.elim
    rename_i es ck hmb
    obtain ⟨ks, a1, a2, a3, a4, a5, a6, k1, k2⟩ := hm
    obtain ⟨D0, hown, hperm, hsz⟩ := keys_own (k := ρ7.t 26) L7.t26 (g.map hmb) a1 a2 a3 a4 a5 a6
    have hseq : SeqGives Fence.wide 2 P (ρ7.f 10) #[.pointer (some ⟨B, 0, none⟩)] encStr (fun ss => ss.Perm (strKeys D0)) (Maps.size D0) w :=
      AnyZ.keys_gives (ρ := ρ7) { L7 with } Fence.wide _ trivial rfl (by omega) B m ks.length D0 w hBlt hcw hown
    have cS := AnyZ.sorted_in L6 Fence.wide 5 trivial trivial trivial trivial rfl (by omega) (sorts _) e9 (ρ7.f 10) #[.pointer (some ⟨B, 0, none⟩)] trivial eg _ _ (by rw [hsz]; unfold maxLen; omega) (by rw [hsz]; omega) w hseq
    refine ((callsIn_wide (n := 5)).1 cS).mono ?_
    rintro e w' ⟨v, ss, rfl, hS, hrow, hnil, hb⟩
    have hp := hS.trans hperm
    have e1 : ss.mergeSort (fun x y => decide (x ≤ y)) = ks.mergeSort leB := mergeSort_of_perm hp
    rw [e1, hp.length_eq] at hrow
    refine fin v w' (keys_world g (ks := ks) hrow (hnil.trans ⟨fun e => ?_, fun e => ?_⟩) hb k1 k2)
    · subst e; simpa using hp.symm
    · subst e; simpa using hp
end Go.Cz

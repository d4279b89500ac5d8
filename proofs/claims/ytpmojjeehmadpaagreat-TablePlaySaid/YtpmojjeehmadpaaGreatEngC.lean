/- Part of the proof of a law of 28: an engine that runs a function over an abstract heap, and what the functions compute; own work. -/
import Derived.Test.YtpmojjeehmadpaaGreatEng15
import Derived.Laws.IdiomStrings
import Derived.Laws.BytesString
set_option linter.unusedVariables false
set_option linter.unusedSimpArgs false
set_option linter.unusedSectionVars false
namespace Go.Cz
variable [Inhabited DrawnP]
open Go
set_option linter.unusedSimpArgs false
set_option linter.unusedVariables false
set_option linter.unusedSectionVars false
section
variable {G : Gl} {s : St} {K : Env → HProp} {next : Act → World → Prop} {Q : Exit → Act → World → Prop} {o : Oper}

theorem convBS_to {P : Program} {src dst e : TypeId} (h : convBS P src dst = some (e, true)) : P.underlying src = some .string ∧ P.underlying dst = some (.slice e) ∧ P.underlying e = some (.int .u8) := by
  unfold convBS at h
  split at h
  · split at h
    · rename_i h1 h2 _ h3; cases h; exact ⟨h1, h2, h3⟩
    · cases h
  · split at h <;> cases h
  · cases h
theorem convBS_of {P : Program} {src dst e : TypeId} (h : convBS P src dst = some (e, false)) : P.underlying src = some (.slice e) ∧ P.underlying dst = some .string ∧ P.underlying e = some (.int .u8) := by
  unfold convBS at h
  split at h
  · split at h <;> cases h
  · split at h
    · rename_i h1 h2 _ h3; cases h; exact ⟨h1, h2, h3⟩
    · cases h
  · cases h
theorem bytesRow_list (z : ByteArray) (cap : Nat) : (bytesRow z cap).toList = byteVals z ++ List.replicate (cap - z.size) (.int .u8 0) := by
  simp [bytesRow, byteVals]
theorem toBytes_sound (g : Good G s) (hd : ∀ n, o.dst = some n → n < G.N) (hn : Nexts G s K next) {src dst el : TypeId} {x : Operand} {z : ByteArray} (ho : o.op = .convert src dst x)
    (hc : convBS G.P src dst = some (el, true)) (hx : s.e.ev x = .s z) (hK : bytesW z (fun v => K (s.e.put o.dst (.sl v))) s.h) : o.wp G.P s.a s.w next Q := by
  have h1 := ev_rel g x
  rw [hx] at h1
  simp only [rel] at h1
  obtain ⟨c1, c2, c3⟩ := convBS_to hc
  unfold bytesW at hK
  have hr := run_bytes_of_string (P := G.P) s.w src dst el z c1 c2 c3
  have hrun : (execOp s.a.eval o).run G.P s.w = .ok (.value (.slice (some ⟨s.w.heap.size, 0, none⟩) z.size (grownCap s.w z.size 0 el)))
      (s.w.drew.alloc (.cells (bytesRow z (grownCap s.w z.size 0 el)) el ((bytesRow z (grownCap s.w z.size 0 el)).size, (bytesRow z (grownCap s.w z.size 0 el)).size + 1))) := by
    simp [execOp, ho, h1, hr]
  unfold Oper.wp
  rw [hrun]
  show next (s.a.put o.dst _) _
  have hge := grownCap_ge s.w z.size 0 el
  have g1 := g.newBlock (byteVals z ++ List.replicate (grownCap s.w z.size 0 el - z.size) (.int .u8 0)) el ((bytesRow z (grownCap s.w z.size 0 el)).size, (bytesRow z (grownCap s.w z.size 0 el)).size + 1)
    (by
      intro i hi hh
      have : (bytesRow z (grownCap s.w z.size 0 el)).size = (byteVals z ++ List.replicate (grownCap s.w z.size 0 el - z.size) (Value.int .u8 0)).length := by
        rw [← bytesRow_list, Array.length_toList]
      omega)
    (s.w.drew.alloc (.cells (bytesRow z (grownCap s.w z.size 0 el)) el ((bytesRow z (grownCap s.w z.size 0 el)).size, (bytesRow z (grownCap s.w z.size 0 el)).size + 1)))
    (by rw [← bytesRow_list]; rfl) rfl rfl rfl (by
      intro u hu
      rcases List.mem_append.1 hu with hu | hu
      · simp only [byteVals, List.mem_map] at hu; obtain ⟨_, _, rfl⟩ := hu; trivial
      · rw [(List.mem_replicate.1 hu).2]; trivial)
  exact hn _ (hK _ s.w.heap.size hge (g.part.fresh (Nat.le_refl _))) (g1.put (v := .sl ⟨some ⟨s.w.heap.size, 0, none⟩, z.size, grownCap s.w z.size 0 el⟩) (x := .slice (some ⟨s.w.heap.size, 0, none⟩) z.size (grownCap s.w z.size 0 el)) (by simp [rel]) hd (by simp [below])) (Le.mem.trans (Le.put _ _ _))
theorem foldl_text (ns : List Int) : ∀ r : ByteArray, ns.foldl (fun r n => r.push (UInt8.ofNat n.toNat)) r = ⟨r.data ++ (ns.map fun n => UInt8.ofNat n.toNat).toArray⟩ := by
  induction ns with
  | nil => intro r; simp
  | cons n ns ih =>
    intro r
    simp only [List.foldl_cons, List.map_cons]
    rw [ih]
    congr 1
    apply Array.ext'
    simp [ByteArray.push]
theorem toText_sound (g : Good G s) (hd : ∀ n, o.dst = some n → n < G.N) (hn : Nexts G s K next) {src dst el : TypeId} {x : Operand} {v : Sl} (ho : o.op = .convert src dst x)
    (hc : convBS G.P src dst = some (el, false)) (hx : s.e.ev x = .sl v) (hK : textW v (fun z => K (s.e.put o.dst (.s z))) s.h) : o.wp G.P s.a s.w next Q := by
  have h1 := ev_rel g x
  rw [hx] at h1
  simp only [rel] at h1
  obtain ⟨c1, c2, c3⟩ := convBS_of hc
  unfold textW at hK
  obtain ⟨ns, hrow, hK⟩ := hK
  obtain ⟨r1, r3, r4⟩ := row_cells g.part hrow
  have hr := run_convert_bytes_string (P := G.P) s.w src dst el v.a v.len v.cap c1 c3 c2
  have hb : (Conv.bytesToString (.slice v.a v.len v.cap)).run G.P s.w = .ok (.string (textOf ns)) s.w := by
    cases ha : v.a with
    | none =>
      have : ns = [] := by
        cases ns with
        | nil => rfl
        | cons n ns =>
          simp at r1
          obtain ⟨q, hq⟩ := r4 (by omega)
          rw [ha] at hq; cases hq
      subst this
      have e0 : textOf [] = ByteArray.empty := by unfold textOf; rfl
      rw [e0]
      simp [Conv.bytesToString]
    | some q =>
      have hl : (loadCells q v.len).run G.P s.w = .ok (ns.map (Value.int .u8)).toArray s.w := by
        have := run_loadCells_list (P := G.P) (w := s.w) q (ns.map (Value.int .u8)) (fun j u hu => r3 q ha j u hu)
        rw [r1] at this
        exact this
      rw [run_bytesToString s.w q v.len v.cap ns hl, foldl_text]
      have e0 : textOf ns = ⟨ByteArray.empty.data ++ (ns.map fun n => UInt8.ofNat n.toNat).toArray⟩ := by
        unfold textOf
        congr 1
        apply Array.ext'
        simp [ByteArray.empty, ByteArray.emptyWithCapacity]
        try rfl
      rw [e0]
  refine leaf_wp g hd hn (v := .s (textOf ns)) (x := .string (textOf ns)) ?_ (by simp [rel0]) hK
  simp [execOp, ho, h1, hr, hb]
end
end Go.Cz

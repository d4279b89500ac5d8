/- Part of the proof of a law of 28: an engine that runs a function over an abstract heap, and what the functions compute; own work. -/
import Derived.Test.YtpmojjeehmadpaaGreatEng4
set_option linter.unusedVariables false
set_option linter.unusedSimpArgs false
set_option linter.unusedSectionVars false
namespace Go.Cz
variable [Inhabited DrawnP]
open Go
set_option linter.unusedSimpArgs false

theorem Hpart.cell {P : Program} {w : World} {h : H} (g : Hpart P w h) {a : Addr} {v : Value} (hc : h.cell? a = some v) : w.cell? a = some v := by
  unfold H.cell? at hc
  split at hc <;> simp at hc
  rename_i c wr hb
  obtain ⟨hs, hc⟩ := hc
  obtain ⟨T, fz, hw, _⟩ := g.cells _ c wr hb
  simp only [World.cell?, hw]
  simp [hs, hc]
theorem loadLeaf_spec {t : Ty0} {a : Addr} {K : SV → HProp} {h : H} (hK : loadLeaf t a K h) : ∃ v x, h.cell? a = some x ∧ rel0 v x ∧ K v h ∧ leafs [v] = true := by
  cases t <;> simp only [loadLeaf] at hK
  case i k => unfold loadI at hK; split at hK <;> first | exact hK.elim | skip
              rename_i n hc; obtain ⟨rfl, hK⟩ := hK; exact ⟨_, _, hc, by simp [rel0], hK, rfl⟩
  case b => unfold loadB at hK; split at hK <;> first | exact hK.elim | skip
            rename_i n hc; exact ⟨_, _, hc, by simp [rel0], hK, rfl⟩
  case s => unfold loadS at hK; split at hK <;> first | exact hK.elim | skip
            rename_i n hc; exact ⟨_, _, hc, by simp [rel0], hK, rfl⟩
  case p => unfold loadP at hK; split at hK <;> first | exact hK.elim | skip
            rename_i n hc; exact ⟨_, _, hc, by simp [rel0], hK, rfl⟩
  case sl => unfold loadL at hK; split at hK <;> first | exact hK.elim | skip
             rename_i b l c hc; exact ⟨_, _, hc, by simp [rel0], hK, rfl⟩
  case m => unfold loadM at hK; split at hK <;> first | exact hK.elim | skip
            rename_i n hc; exact ⟨_, _, hc, by simp [rel0], hK, rfl⟩
theorem loadCs_spec {a : Addr} {h : H} : ∀ {ts : List Ty0} {n : Nat} {K : List SV → HProp}, loadCs a n ts K h →
    ∃ l vs, K l h ∧ rel0L l vs ∧ l.length = ts.length ∧ ∀ j v, vs[j]? = some v → h.cell? (a.add (n + j)) = some v
  | [], n, K, hK => ⟨[], [], hK, by simp [rel0L], rfl, by simp⟩
  | t :: r, n, K, hK => by
    simp only [loadCs] at hK
    obtain ⟨v, x, hc, hr, hK, _⟩ := loadLeaf_spec hK
    obtain ⟨l, vs, hK, hrs, hl, hcs⟩ := loadCs_spec hK
    refine ⟨v :: l, x :: vs, hK, by simp only [rel0L]; exact ⟨x, vs, rfl, hr, hrs⟩, by simp [hl], ?_⟩
    intro j u hj
    cases j with
    | zero => simp at hj; subst hj; simpa using hc
    | succ j => have := hcs j u (by simpa using hj); rwa [Nat.add_assoc, Nat.add_comm 1 j] at this
theorem rel0L_length : ∀ {l : List SV} {vs : List Value}, rel0L l vs → l.length = vs.length
  | [], vs, h => by simp only [rel0L] at h; simp [h]
  | x :: r, vs, h => by simp only [rel0L] at h; obtain ⟨v, us, rfl, _, h⟩ := h; simp [rel0L_length h]
theorem leafTys_under {P : Program} {d : Nat} {t : TypeId} {ts : List Ty0} (h : leafTys P d t = some ts) : ∃ D, P.underlying t = some D := by
  cases d with
  | zero => simp [leafTys] at h
  | succ d =>
    simp only [leafTys] at h
    cases e : P.underlying t with
    | none => simp [e] at h
    | some D => exact ⟨D, rfl⟩

section
variable {G : Gl} {s : St} {K : Env → HProp} {next : Act → World → Prop} {Q : Exit → Act → World → Prop} {o : Oper}

def Pl.addr (β : Nat → Nat) : Pl → Addr
  | .heap a => a
  | .loc id off => ⟨β id, off, none⟩
/-- cells that read so -/
def Reads (w : World) (a : Addr) (vs : List Value) : Prop := ∀ j u, vs[j]? = some u → w.cell? (a.add j) = some u
theorem loc_add (b off j : Nat) : (⟨b, off, none⟩ : Addr).add j = ⟨b, off + j, none⟩ := by unfold Addr.add; split <;> simp_all

theorem load_yl (g : Good G s) {t : TypeId} {x : Operand} (ho : o.op = .load t x) {K : Pl → SV → HProp}
    (hK : doLoad G.P t (s.e.ev x) s.e K s.h) : ∃ pl sv v vs, K pl sv s.h ∧ rel G.P s.β sv v ∧ below s.e.nloc sv = true ∧ relL G.P s.β sv.cells vs ∧ Reads s.w (pl.addr s.β) vs ∧
      (∀ a, pl = .heap a → ∀ j u, vs[j]? = some u → s.h.cell? (a.add j) = some u) ∧
      (∀ id off, pl = .loc id off → ∃ c, look s.e.locs id = some c ∧ sv.cells = (c.drop off).take vs.length) ∧
      ∀ w', Reads w' (pl.addr s.β) vs → (execOp s.a.eval o).run G.P w' = .ok (.value v) w' := by
  unfold doLoad at hK
  cases hts : leafTys G.P 8 t with
  | none => simp [hts, stuckW] at hK
  | some ts =>
  simp only [hts] at hK
  obtain ⟨D, hD⟩ := leafTys_under hts
  have hx := ev_rel g x
  have atA : ∀ a, s.a.eval x = .pointer (some a) → doLoad.at_ G.P t K ts a s.h → ∃ pl sv v vs, K pl sv s.h ∧ rel G.P s.β sv v ∧ below s.e.nloc sv = true ∧ relL G.P s.β sv.cells vs ∧ Reads s.w (pl.addr s.β) vs ∧
      (∀ a, pl = .heap a → ∀ j u, vs[j]? = some u → s.h.cell? (a.add j) = some u) ∧
      (∀ id off, pl = .loc id off → ∃ c, look s.e.locs id = some c ∧ sv.cells = (c.drop off).take vs.length) ∧
      ∀ w', Reads w' (pl.addr s.β) vs → (execOp s.a.eval o).run G.P w' = .ok (.value v) w' := by
    intro a ha hK
    unfold doLoad.at_ at hK
    cases hg : isAggT G.P t with
    | true =>
      simp only [hg, if_true] at hK
      split at hK
      · rename_i hsz
        have hsz : sizeT G.P t = ts.length := Nat.eq_of_beq_eq_true hsz
        obtain ⟨l, vs, hK, hr, hl, hc⟩ := loadCs_spec hK
        have hlv := rel0L_length hr
        refine ⟨.heap a, .agg l, .agg vs.toArray, vs, hK, by simp only [rel]; exact ⟨_, rfl, leaf_wp.rel0L_relL hr⟩, by simp only [below]; exact leaf_wp.rel0L_below hr, leaf_wp.rel0L_relL hr,
          fun j u hj => g.part.cell (by simpa [Pl.addr] using hc j u hj), fun b hb j u hj => by cases hb; simpa using hc j u hj, (fun id off h => by cases h), fun w' hw' => run_loadN ho ha hD hg (by omega) hw'⟩
      · simp [stuckW] at hK
    | false =>
      simp only [hg] at hK
      split at hK
      · rename_i h; cases h
      · split at hK
        · obtain ⟨v, y, hc, hr, hK, hlf⟩ := loadLeaf_spec hK
          have hcells : v.cells = [v] := by cases v <;> simp_all [SV.cells, leafs]
          have one : ∀ (h : List Value → Prop), True := fun _ => trivial
          refine ⟨.heap a, v, y, [y], hK, leaf_wp.rel0_rel hr, leaf_wp.rel0_below hr, by rw [hcells]; exact relL_cons.2 ⟨y, [], rfl, leaf_wp.rel0_rel hr, by simp [relL]⟩, ?_, ?_, (fun id off h => by cases h), ?_⟩
          · intro j u hj
            cases j with
            | zero => simp at hj; subst hj; exact g.part.cell (by simpa [Addr.add, Pl.addr] using hc)
            | succ j => simp at hj
          · intro b hb j u hj
            cases hb
            cases j with
            | zero => simp at hj; subst hj; simpa [Addr.add] using hc
            | succ j => simp at hj
          · intro w' hw'
            exact run_load1 ho ha hD hg (by simpa [Addr.add, Pl.addr] using hw' 0 y rfl)
        · simp [stuckW] at hK
  generalize hq : s.e.ev x = q at hK hx
  cases q <;> first | (simp [stuckW] at hK; done) | skip
  case p q =>
    simp only [] at hK
    unfold derefW at hK
    obtain ⟨a, rfl, hK⟩ := hK
    exact atA a (by simpa [rel] using hx) hK
  case ad a => exact atA a (by simpa [rel] using hx) hK
  case loc id off =>
    simp only [] at hK
    have hx : s.a.eval x = .pointer (some ⟨s.β id, off, none⟩) := by simpa [rel] using hx
    unfold Env.loc at hK
    cases hloc : look s.e.locs id with
    | none =>
      simp only [hloc] at hK
      cases hg : isAggT G.P t <;> simp only [hg, if_true] at hK
      · simp [stuckW] at hK
      · simp [stuckW, Nat.blt] at hK
    | some c =>
    simp only [hloc] at hK
    obtain ⟨h1, h2, h3, cs, T, h4, h5, h6, h7⟩ := g.locs id c hloc
    have hlen := relL_length h5
    simp at hlen
    cases hg : isAggT G.P t with
    | true =>
      simp only [hg, if_true] at hK
      split at hK
      · rename_i hsz
        simp only [Bool.and_eq_true] at hsz
        have hsz1 : sizeT G.P t = ts.length := Nat.eq_of_beq_eq_true hsz.1.1
        have hsz2 : off + ts.length ≤ c.length := Nat.le_of_ble_eq_true hsz.1.2
        have hvl : ((cs.toList.drop off).take ts.length).length = ts.length := by simp; omega
        refine ⟨.loc id off, .agg ((c.drop off).take ts.length), .agg ((cs.toList.drop off).take ts.length).toArray, (cs.toList.drop off).take ts.length, hK, ?_, ?_, ?_, ?_, (fun a h => by cases h), ?_, ?_⟩
        · simp only [rel]; exact ⟨_, rfl, relL_take _ (relL_drop _ h5)⟩
        · simp only [below]; exact belowL_take (belowL_drop h7 _) _
        · exact relL_take _ (relL_drop _ h5)
        · intro j u hj
          have hj' : cs[off + j]? = some u := by
            rw [List.getElem?_take] at hj
            split at hj
            · simpa using hj
            · cases hj
          simp only [Pl.addr]
          rw [loc_add]
          simp [World.cell?, h4, hj']
        · intro id' off' h
          cases h
          exact ⟨c, hloc, by rw [hvl]; rfl⟩
        · intro w' hw'
          exact run_loadN ho hx hD hg (by omega) hw'
      · simp [stuckW] at hK
    | false =>
      simp only [hg] at hK
      split at hK
      · rename_i h; cases h
      · cases hy : c.drop off with
        | nil => simp [hy, stuckW] at hK
        | cons y r =>
          simp only [hy] at hK
          have h5' := relL_drop off h5
          rw [hy] at h5'
          obtain ⟨v, us, hvs, hr, _⟩ := relL_cons.1 h5'
          have hb := belowL_drop h7 off
          rw [hy] at hb
          simp only [belowL, Bool.and_eq_true] at hb
          have hv : cs[off]? = some v := by
            have : (cs.toList.drop off)[0]? = some v := by rw [hvs]; rfl
            simpa using this
          have hlf : leafs [y] = true := by
            have hmem : y ∈ c := by
              have : y ∈ c.drop off := by rw [hy]; simp
              exact List.mem_of_mem_drop this
            exact leafs_all h6 y hmem
          have hcells : y.cells = [y] := by cases y <;> simp_all [SV.cells, leafs]
          refine ⟨.loc id off, y, v, [v], hK, hr, hb.1, by rw [hcells]; exact relL_cons.2 ⟨v, [], rfl, hr, by simp [relL]⟩, ?_, (fun a h => by cases h), ?_, ?_⟩
          · intro j u hj
            cases j with
            | zero => simp at hj; subst hj; simp only [Pl.addr]; rw [loc_add]; simp [World.cell?, h4, hv]
            | succ j => simp at hj
          · intro id' off' h
            cases h
            exact ⟨c, hloc, by rw [hy, hcells]; rfl⟩
          · intro w' hw'
            exact run_load1 ho hx hD hg (by have := hw' 0 v rfl; simpa [Addr.add, Pl.addr] using this)
where
  leafs_all : ∀ {l : List SV}, leafs l = true → ∀ x ∈ l, leafs [x] = true
    | [], _, x, hx => by simp at hx
    | y :: r, h, x, hx => by
      have e : leafs (y :: r) = (leafs [y] && leafs r) := by simp [leafs]
      rw [e, Bool.and_eq_true] at h
      rcases List.mem_cons.1 hx with rfl | hx
      · exact h.1
      · exact leafs_all h.2 x hx
theorem load_sound (g : Good G s) (hd : ∀ n, o.dst = some n → n < G.N) (hn : Nexts G s K next) {t : TypeId} {x : Operand} (ho : o.op = .load t x)
    (hK : doLoad G.P t (s.e.ev x) s.e (fun _ v => K (s.e.put o.dst v)) s.h) : o.wp G.P s.a s.w next Q := by
  obtain ⟨pl, sv, v, vs, h1, h2, h3, _, h5, _, _, h6⟩ := load_yl g ho hK
  exact value_wp g hd hn (h6 s.w h5) h2 h3 h1
end
end Go.Cz

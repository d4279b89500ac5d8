/- Part of the proof of a law of 28: an engine that runs a function over an abstract heap, and what the functions compute; own work. -/
import Derived.Test.YtpmojjeehmadpaaGreatEngC
set_option linter.unusedVariables false
set_option linter.unusedSimpArgs false
set_option linter.unusedSectionVars false
namespace Go.Cz
variable [Inhabited DrawnP]
open Go
set_option linter.unusedSimpArgs false
set_option linter.unusedVariables false
set_option linter.unusedSectionVars false
section
variable {G : Gl} {s : St} {K : Env → HProp} {next : Act → World → Prop} {Q : Exit → Act → World → Prop} {o : Oper}

theorem binI_spec {op : BinOp} {k : IntKind} {a b : Int} {K : SV → HProp} {h : H} (hK : binI op k a b K h) : ∃ v, binV op k a b = some v ∧ K v h ∧ ((op = .quo ∨ op = .rem) → b ≠ 0) := by
  cases op <;> simp only [binI] at hK <;> first | (simp [stuckW] at hK; done) | skip
  case quo | rem => unfold mustW at hK; exact ⟨_, rfl, hK.2, fun _ => hK.1⟩
  all_goals exact ⟨_, rfl, hK, by simp⟩

theorem memE_mem : ∀ {l : List (Nat × Nat)} {t n : Nat}, memE l t n = true → (t, n) ∈ l
  | [], t, n, h => by simp [memE] at h
  | (u, m) :: r, t, n, h => by
    simp only [memE, Bool.or_eq_true, Bool.and_eq_true] at h
    rcases h with ⟨h1, h2⟩ | h
    · have := Nat.eq_of_beq_eq_true h1; have := Nat.eq_of_beq_eq_true h2; simp_all
    · exact List.mem_cons_of_mem _ (memE_mem h)

theorem binOp_sound {eqs : List (Nat × Nat)} (hE : ∀ x ∈ eqs, eqStructT G.P x.1 x.2 = true) (g : Good G s) {op : BinOp} {t u : TypeId} {x y : Operand} (ho : o.op = .binOp op t x y u)
    (hK : (match binKind G.P eqs op t (s.e.ev x) (s.e.ev y) with
    | some (.ii k a b) => binI op k a b fun v => K (s.e.put o.dst v)
    | some (.sl k a b) => mustW (0 ≤ b) (K (s.e.put o.dst (.i k (shl k a b))))
    | some (.sr k a b) => mustW (0 ≤ b) (K (s.e.put o.dst (.i k (shr k a b))))
    | some (.ss a b) => binS op a b fun v => K (s.e.put o.dst v)
    | some (.eq c) => eqR op c fun v => K (s.e.put o.dst v)
    | some (.lit c) => K (s.e.put o.dst (.t c))
    | none => stuckW) s.h) : Yl (fun _ => True) G s o K := by
  have hx := ev_rel g x
  have hy := ev_rel g y
  generalize hqx : s.e.ev x = qx at hK hx
  generalize hqy : s.e.ev y = qy at hK hy
  have eqB : ∀ c, eqR op c (fun v => K (s.e.put o.dst v)) s.h → ((op = .eql ∨ op = .neq) → ∀ w, (execOp s.a.eval o).run G.P w = .ok (.value (.bool (if op = .eql then c else !c))) w) → Yl (fun _ => True) G s o K := by
    intro c hK hrun
    obtain ⟨hop, hK⟩ := eqR_cases hK
    exact leaf_step g (hrun hop) (by simp [rel0]) hK
  cases qx <;> cases qy <;> first | (simp [binKind, stuckW] at hK; done) | skip
  case i.i k a k' b =>
    simp only [rel] at hx hy
    cases op
    case shl => simp only [binKind] at hK; unfold mustW at hK; exact leaf_step g (fun _ => run_shl ho hx hy hK.1) (by simp [rel0]) hK.2
    case shr => simp only [binKind] at hK; unfold mustW at hK; exact leaf_step g (fun _ => run_shr ho hx hy hK.1) (by simp [rel0]) hK.2
    all_goals
      by_cases hkk : k = k'
      · subst hkk
        simp only [binKind, if_true] at hK
        obtain ⟨v, hv, hK, hb⟩ := binI_spec hK
        obtain ⟨z, hz, hr⟩ := run_bin (P := G.P) ho hx hy hv hb
        exact leaf_step g hz hr hK
      · simp [binKind, hkk, stuckW] at hK
  case s.s a b =>
    simp only [binKind] at hK
    simp only [rel] at hx hy
    obtain ⟨z, v, hz, hr, hK⟩ := run_str (P := G.P) ho hx hy s.h hK
    exact leaf_step g hz hr hK
  case agg.agg la lb =>
    simp only [binKind] at hK
    simp only [rel] at hx hy
    obtain ⟨xs, hx, h1⟩ := hx
    obtain ⟨ys, hy, h2⟩ := hy
    cases he : eqLeaves la lb with
    | none => simp [he, stuckW] at hK
    | some l =>
      simp only [he] at hK
      cases hm : memE eqs t la.length with
      | false => simp [hm, stuckW] at hK
      | true =>
        have ht := hE _ (memE_mem hm)
        simp only [hm, if_true] at hK
        exact eqB _ hK fun hop w => run_eqAgg ho hx hy h1 h2 he ht hop
  case p.p q q' =>
    cases q' with
    | some q' => simp [binKind, stuckW] at hK
    | none =>
      simp only [binKind] at hK
      simp only [rel] at hx hy
      cases ht : isPtrT G.P t with
      | false => simp [ht, stuckW] at hK
      | true =>
        simp only [ht, if_true] at hK
        unfold isPtrT at ht
        split at ht
        · rename_i el hu
          exact eqB _ hK fun hop w => by have := run_eqNilP (P := G.P) (w := w) ho hx hy hu hop; rw [this]; unfold isNilP; rfl
        · cases ht
  case ad.p q q' =>
    cases q' with
    | some q' => simp [binKind, stuckW] at hK
    | none =>
      simp only [binKind] at hK
      simp only [rel] at hx hy
      cases ht : isPtrT G.P t with
      | false => simp [ht, stuckW] at hK
      | true =>
        simp only [ht, if_true] at hK
        unfold isPtrT at ht
        split at ht
        · rename_i el hu
          cases op <;> simp only [litEq] at hK <;> first | (simp [stuckW] at hK; done) | skip
          · exact leaf_step g (fun _ => run_eqNilP ho hx hy hu (.inl rfl)) (by simp [rel0]) hK
          · exact leaf_step g (fun _ => run_eqNilP ho hx hy hu (.inr rfl)) (by simp [rel0]) hK
        · cases ht
  case sl.sl v v' =>
    obtain ⟨a', l', c'⟩ := v'
    cases a' with
    | some q' => simp [binKind, stuckW] at hK
    | none =>
      simp only [binKind] at hK
      simp only [rel] at hx hy
      cases ht : isSliceT G.P t with
      | false => simp [ht, stuckW] at hK
      | true =>
        simp only [ht, if_true] at hK
        unfold isSliceT at ht
        split at ht
        · rename_i el hu
          exact eqB _ hK fun hop w => by have := run_eqNilS (P := G.P) (w := w) ho hx hy hu hop; rw [this]; unfold isNilP; rfl
        · cases ht
  case m.m q q' =>
    cases q' with
    | some q' => simp [binKind, stuckW] at hK
    | none =>
      simp only [binKind] at hK
      simp only [rel] at hx hy
      cases ht : isMapT G.P t with
      | false => simp [ht, stuckW] at hK
      | true =>
        simp only [ht, if_true] at hK
        unfold isMapT at ht
        split at ht
        · rename_i kk el hu
          exact eqB _ hK fun hop w => by have := run_eqNilM (P := G.P) (w := w) ho hx hy hu hop; rw [this]; unfold isNilM; rfl
        · cases ht
  case b.b c d =>
    simp only [binKind] at hK
    simp only [rel] at hx hy
    cases ht : isBoolT G.P t with
    | false => simp [ht, stuckW] at hK
    | true =>
      simp only [ht, if_true] at hK
      unfold isBoolT at ht
      split at ht
      · rename_i hu
        exact eqB _ hK fun hop w => run_eqB ho hx hy hu hop
      · cases ht
  case b.t c d =>
    simp only [binKind] at hK
    simp only [rel] at hx hy
    cases ht : isBoolT G.P t with
    | false => simp [ht, stuckW] at hK
    | true =>
      simp only [ht, if_true] at hK
      unfold isBoolT at ht
      split at ht
      · rename_i hu
        exact eqB _ hK fun hop w => run_eqB ho hx hy hu hop
      · cases ht

theorem run_pick {P : Program} {w : World} {ρ : Operand → Value} {c x y : Operand} {b : Bool} (ho : o.op = .pick c x y) (hc : ρ c = .bool b) : (execOp ρ o).run P w = .ok (.value (if b then ρ x else ρ y)) w := by
  cases b <;> simp [execOp, ho, hc, asBool]

theorem doOp_yl {C : Ctx} (hC : C.P = G.P) (hE : ∀ x ∈ C.eqs, eqStructT G.P x.1 x.2 = true) (g : Good G s) (hN : isN G.P o.op = true) (hK : doOp C o s.e K s.h) : Yl (fun _ => True) G s o K := by
  unfold doOp at hK
  cases ho : o.op <;> simp only [ho] at hK <;> first | (simp [stuckW] at hK; done) | skip
  case move x => exact move_sound g (.inl ho) hK
  case assign x => exact move_sound g (.inr ho) hK
  case pick c x y =>
    have hc := ev_rel g c
    cases hl : litOf (s.e.ev c) with
    | none => simp [hl, stuckW] at hK
    | some b =>
      simp only [hl] at hK
      have : s.a.eval c = .bool b := by
        generalize s.e.ev c = q at hl hc
        cases q <;> simp [litOf] at hl
        subst hl
        simpa [rel] using hc
      refine value_step g (fun _ => run_pick ho this) ?_ ?_ hK
      · cases b <;> simp [ev_rel g]
      · cases b <;> simp [ev_wf g]
  case binOp op t x y u => rw [hC] at hK; exact binOp_sound hE g ho hK
  case unOp op t x =>
    have hx := ev_rel g x
    cases hv : unV op (s.e.ev x) with
    | none => simp [hv, stuckW] at hK
    | some v =>
      simp only [hv] at hK
      generalize s.e.ev x = q at hv hx
      cases op <;> cases q <;> simp [unV] at hv <;> subst hv <;> simp only [rel] at hx
      case not.b => exact leaf_step g (fun _ => run_not ho hx) (by simp [rel0]) hK
      case not.t => exact leaf_step g (fun _ => run_not ho hx) (by simp [rel0]) hK
      case neg.i => exact leaf_step g (fun _ => run_neg ho hx) (by simp [rel0]) hK
      case xor.i => exact leaf_step g (fun _ => run_xor ho hx) (by simp [rel0]) hK
  case convert src dst x =>
    have hx := ev_rel g x
    rw [hC] at hK
    have hcb : convBS G.P src dst = none := by simpa [ho, isN] using hN
    simp only [hcb] at hK
    cases hv : convArgs G.P src dst (s.e.ev x) with
    | none => simp [hv, stuckW] at hK
    | some q =>
      obtain ⟨k, n⟩ := q
      simp only [hv] at hK
      unfold convArgs at hv
      generalize s.e.ev x = q at hv hx
      cases q <;> simp only [] at hv <;> try (cases hv; done)
      rename_i k' m
      split at hv
      · rename_i d kk h1 h2
        cases hv
        simp only [rel] at hx
        exact leaf_step g (fun _ => run_conv ho hx ⟨d, h1⟩ h2) (by simp [rel0]) hK
      · cases hv
  case fieldAddr t x f =>
    rw [hC] at hK
    cases hf : fieldOff G.P t f with
    | none => simp [hf, stuckW] at hK
    | some q =>
      obtain ⟨off, ft⟩ := q
      simp only [hf] at hK
      cases hs : Nat.blt 0 (sizeT G.P ft) with
      | false => simp [hs, stuckW] at hK
      | true =>
        simp only [hs, if_true] at hK
        exact fieldAddr_sound g ho hf (Nat.le_of_ble_eq_true hs) hK
  case field t x f =>
    rw [hC] at hK
    cases hf : fieldOff G.P t f with
    | none => simp [hf, stuckW] at hK
    | some q =>
      obtain ⟨off, ft⟩ := q
      cases hl : aggOf (s.e.ev x) with
      | none => simp [hf, hl, stuckW] at hK
      | some l =>
        simp only [hf, hl] at hK
        have hx : s.e.ev x = .agg l := by
          generalize s.e.ev x = q at hl
          cases q <;> simp [aggOf] at hl
          subst hl; rfl
        cases hv : fieldV G.P ft off l with
        | none => simp [hv, stuckW] at hK
        | some v =>
          simp only [hv] at hK
          unfold fieldV at hv
          cases hnn : noneT G.P ft with
          | true => simp [hnn] at hv
          | false =>
            refine field_sound g ho hf hx hnn ?_
            simp only [hnn] at hv
            cases hg : isAggT G.P ft with
            | true =>
              simp [hg] at hv
              simp [hg, hv.1, hv.2, hK]
            | false =>
              simp [hg] at hv
              cases hl' : l.drop off with
              | nil => simp [hl'] at hv
              | cons y r => simp [hl'] at hv; subst hv; simpa [hg] using hK
  case nilCheck x => exact nilCheck_sound g ho hK
  case indexAddr t x y =>
    rw [hC] at hK
    cases hv : idxArgs G.P t (s.e.ev x) (s.e.ev y) with
    | none =>
      simp only [hv] at hK
      cases ha : arrArgs G.P t (s.e.ev y) with
      | none => simp [ha, stuckW] at hK
      | some q =>
        obtain ⟨n, len, el⟩ := q
        simp only [ha] at hK
        generalize hy : s.e.ev y = qy at ha
        cases qy <;> simp only [arrArgs] at ha <;> try (cases ha; done)
        split at ha
        · rename_i len' el' hu
          split at ha
          · rename_i hs
            cases ha
            exact indexArr_sound g ho hu (Nat.le_of_ble_eq_true hs) hy hK
          · cases ha
        · cases ha
    | some q =>
      obtain ⟨v, n, el⟩ := q
      simp only [hv] at hK
      generalize hx : s.e.ev x = qx at hv
      generalize hy : s.e.ev y = qy at hv
      cases qx <;> simp only [idxArgs] at hv <;> try (cases hv; done)
      cases qy <;> simp only [idxArgs] at hv <;> try (cases hv; done)
      split at hv
      · rename_i el' hu
        split at hv
        · rename_i hs
          cases hv
          exact indexAddr_sound g ho hu (Nat.le_of_ble_eq_true hs) hx hy hK
        · cases hv
      · cases hv
  case slice t x lo hi mx =>
    rw [hC] at hK
    cases hv : sliceArgs G.P t (s.e.ev x) mx with
    | none => simp [hv, stuckW] at hK
    | some q =>
      generalize hx : s.e.ev x = qx at hv
      unfold sliceArgs at hv
      cases mx with
      | some m => simp at hv
      | none =>
        cases qx <;> simp only [] at hv <;> try (cases hv; done)
        case sl v =>
          split at hv
          · rename_i el hu
            split at hv
            · rename_i hs
              cases hv
              have hv' : sliceArgs G.P t (s.e.ev x) none = some (.inl (v, el)) := by rw [hx]; simp [sliceArgs, hu, hs]
              simp only [hv'] at hK
              cases h1 : optI s.e lo 0 with
              | none => simp [h1, stuckW] at hK
              | some l => cases h2 : optI s.e hi v.len with
                | none => simp [h1, h2, stuckW] at hK
                | some h => simp only [h1, h2] at hK; exact slice_sound g ho hu (Nat.le_of_ble_eq_true hs) hx h1 h2 hK
            · cases hv
          · cases hv
        case s z =>
          split at hv
          · rename_i hu
            cases hv
            have hv' : sliceArgs G.P t (s.e.ev x) none = some (.inr z) := by rw [hx]; simp [sliceArgs, hu]
            simp only [hv'] at hK
            cases h1 : optI s.e lo 0 with
            | none => simp [h1, stuckW] at hK
            | some l => cases h2 : optI s.e hi z.size with
              | none => simp [h1, h2, stuckW] at hK
              | some h => simp only [h1, h2] at hK; exact cut_sound g ho hu hx h1 h2 hK
          · cases hv
  case build t parts =>
    rw [hC] at hK
    cases hp : placesT G.P t with
    | none => simp [hp, stuckW] at hK
    | some place => cases hz : zeroT G.P t with
      | none => simp [hp, hz, stuckW] at hK
      | some z =>
        simp only [hp, hz] at hK
        cases hl : buildC s.e place parts.toList (zeroCells G.P t) with
        | none => simp [hl, stuckW] at hK
        | some l => simp only [hl] at hK; exact build_sound g ho hp hz hl hK
  case index t x y =>
    rw [hC] at hK
    cases hv : byteArgs G.P t (s.e.ev x) (s.e.ev y) with
    | none => simp [hv, stuckW] at hK
    | some q =>
      obtain ⟨z, n⟩ := q
      simp only [hv] at hK
      generalize hx : s.e.ev x = qx at hv
      generalize hy : s.e.ev y = qy at hv
      cases qx <;> simp only [byteArgs] at hv <;> try (cases hv; done)
      cases qy <;> simp only [byteArgs] at hv <;> try (cases hv; done)
      split at hv
      · rename_i hu
        cases hv
        exact index_sound g ho hu hx hy hK
      · cases hv
  case extract x n =>
    cases hv : tupAt (s.e.ev x) n with
    | none => simp [hv, stuckW] at hK
    | some v =>
      simp only [hv] at hK
      generalize hx : s.e.ev x = qx at hv
      cases qx <;> simp only [tupAt] at hv <;> try (cases hv; done)
      rename_i l
      cases hl : l.drop n with
      | nil => simp [hl] at hv
      | cons y r => simp only [hl, Option.some.injEq] at hv; subst hv; exact extract_sound g ho hx hl hK
  case makeFunc fn first cap =>
    cases fn <;> simp only [] at hK <;> first | (simp [stuckW] at hK; done) | skip
    exact makeFunc_sound g ho hK
  case call c =>
    simp only [ho, isN] at hN
    cases hc : c.callee <;> simp only [hc] at hN <;> try (cases hN; done)
    exact callN_yl hC g ho hc hN hK
  all_goals (simp [ho, isN] at hN)

theorem doOp_sound {C : Ctx} (hC : C.P = G.P) (hE : ∀ x ∈ C.eqs, eqStructT G.P x.1 x.2 = true) (hΦ : ∀ en ∈ C.Φ, Linked G.P en) (hQ : LetsOut Q → False) (g : Good G s) (hd : ∀ n, o.dst = some n → n < G.N) (hn : Nexts G s K next)
    (hK : doOp C o s.e K s.h) : o.wp G.P s.a s.w next Q := by
  by_cases hN : isN G.P o.op = true
  · exact (doOp_yl hC hE g hN hK).wp trivial g hd hn
  unfold doOp at hK
  cases ho : o.op <;> simp only [ho] at hK <;> first | (simp [stuckW] at hK; done) | skip
  case alloc t =>
    rw [hC] at hK
    cases hl : leafs (zeroCells G.P t) with
    | false => simp [hl, stuckW] at hK
    | true => simp only [hl, if_true] at hK; exact alloc_sound hC g hd hn ho hl hK
  case box t x =>
    cases hl : leafs (s.e.ev x).cells with
    | false => simp [hl, stuckW] at hK
    | true => simp only [hl, if_true] at hK; exact box_sound g hd hn ho hl hK
  case convert src dst x =>
    rw [hC] at hK
    cases hcb : convBS G.P src dst with
    | none => exact absurd (by simp [ho, isN, hcb]) hN
    | some q =>
      obtain ⟨el, b⟩ := q
      cases b <;> simp only [hcb] at hK
      · cases hx : s.e.ev x <;> simp only [hx] at hK <;> first | (simp [stuckW] at hK; done) | skip
        exact toText_sound g hd hn ho hcb hx hK
      · cases hx : s.e.ev x <;> simp only [hx] at hK <;> first | (simp [stuckW] at hK; done) | skip
        exact toBytes_sound g hd hn ho hcb hx hK
  case load t x => rw [hC] at hK; exact load_sound g hd hn ho hK
  case store t x y =>
    cases hdst : o.dst with
    | some d => simp [hdst, stuckW] at hK
    | none => simp only [hdst] at hK; rw [hC] at hK; exact store_sound g hdst hn ho hK
  case makeSlice t l c =>
    rw [hC] at hK
    cases hv : makeArgs G.P t (s.e.ev l) (s.e.ev c) with
    | none => simp [hv, stuckW] at hK
    | some q =>
      obtain ⟨el, ln, cn, z⟩ := q
      simp only [hv] at hK
      generalize hx : s.e.ev l = qx at hv
      generalize hy : s.e.ev c = qy at hv
      unfold makeArgs at hv
      split at hv
      · split at hv
        · rename_i el' hu
          cases hz : toVs (zeroCells G.P el') with
          | none => simp [hz] at hv
          | some z' =>
            simp only [hz] at hv
            split at hv
            · rename_i hs
              simp only [Bool.and_eq_true] at hs
              cases hv
              exact make_sound g hd hn ho hu hx hy hz hs.1 hs.2 hK
            · cases hv
        · cases hv
      · cases hv
  case buildSlice t n parts =>
    rw [hC] at hK
    cases hv : buildSArgs G.P t n with
    | none => simp [hv, stuckW] at hK
    | some el =>
      simp only [hv] at hK
      unfold buildSArgs at hv
      split at hv
      · rename_i el' hu
        split at hv
        · rename_i hs
          cases hv
          cases hl : buildC s.e (fun i => some (i * sizeT G.P el, sizeT G.P el)) parts.toList (List.replicate n (zeroCells G.P el)).flatten with
          | none => simp [hl, stuckW] at hK
          | some l => simp only [hl] at hK; exact buildSlice_sound hC g hd hn ho hu hs hl hK
        · cases hv
      · cases hv
  case call c => exact call_sound hC hΦ hQ g hd hn ho hK
  all_goals exact absurd (by simp [ho, isN]) hN
end
end Go.Cz

/- Functions that write, and return a struct with slices that were lent; the nil slice in a variable's cell gets a row of its own. -/
import Derived.Test.YtnklbfmdojpfkaaO5
namespace Go.Oc
open Go Go.RowKit
set_option linter.unusedVariables false
theorem sub_adoptB (s : AS) (kb i k e sz : Nat) {cells : List AV} (hk0 : k < 1000) (hne : kb ≠ k) (hbox : (s.rows kb).c = .box cells) (hi : cells[i]? = some (.r .ns)) :
    Sub s { s with rows := upd (upd s.rows k ⟨(s.rows k).ver + 1, .arr e sz []⟩) kb ⟨(s.rows kb).ver, .box (cells.set i (.os k ((s.rows k).ver + 1) sz 0 0))⟩ } := fun C a w ⟨p, hp⟩ => by
  have h1 := hp.reRow (w' := w) k hk0 (.arr e sz []) rfl none 0 (Nat.zero_le _) rfl rfl rfl (Nat.le_refl _) (fun _ _ _ => rfl) (fun _ h => by cases h) (fun p' ver' _ hβ hγ _ => by simp [rowRel, hβ, hγ])
  have := h1.cell (x := .r .ns) (y := .os k ((s.rows k).ver + 1) sz 0 0) kb i (cells := cells) (by show (upd s.rows k ⟨(s.rows k).ver + 1, .arr e sz []⟩ kb).c = _; rw [upd_other _ _ hne]; exact hbox) hi (fun {u} hx => by
    simp only [AV.rel, RV.rel] at hx
    obtain ⟨A, hA⟩ := hx
    simp only [AV.rel, AS.ver, upd_same]
    exact ⟨Nat.le_refl _, fun _ => .inl ⟨trivial, trivial, trivial, trivial, A, hA⟩⟩)
  rw [show (upd s.rows k ⟨(s.rows k).ver + 1, .arr e sz []⟩ kb).ver = (s.rows kb).ver by rw [upd_other _ _ hne]] at this
  exact ⟨_, this⟩
section
variable {n : Nat} {l : List (Nat × AV)} {vs : Nat → Nat} {cs : List (Nat × RowC)}
theorem sub_ownB (kb i k e sz : Nat) {cells : List AV} (hk0 : k < 1000) (hne : kb ≠ k) (hb : lookc cs kb = .box cells) (hi : cells[i]? = some (.r .ns)) :
    Sub (st n l vs cs) (st n l (upd vs k (vs k + 1)) (insc (insc cs k (.arr e sz [])) kb (.box (cells.set i (.os k (vs k + 1) sz 0 0))))) := by
  have := sub_adoptB (st n l vs cs) kb i k e sz hk0 hne hb hi
  have e : ({ st n l vs cs with rows := upd (upd (st n l vs cs).rows k ⟨((st n l vs cs).rows k).ver + 1, .arr e sz []⟩) kb ⟨((st n l vs cs).rows kb).ver, .box (cells.set i (.os k (((st n l vs cs).rows k).ver + 1) sz 0 0))⟩ } : AS)
      = st n l (upd vs k (vs k + 1)) (insc (insc cs k (.arr e sz [])) kb (.box (cells.set i (.os k (vs k + 1) sz 0 0)))) := by
    simp only [st, AS.mk.injEq, true_and]
    funext j
    rw [lookc_insc, lookc_insc]
    unfold upd
    split
    · rename_i e; subst e; rw [if_neg hne]
    · split <;> rfl
  rwa [e] at this
/-! ### Loops of functions that are lent rows, where the rows tell of versions -/
def FitW (n : Nat) (F : (Nat → Nat) → List (Nat × AV)) (R : (Nat → Nat) → List (Nat × RowC)) (s : AS) : Prop := ∃ vs, Lent vs ∧ Sub s (st n (F vs) vs (R vs))
theorem fitW_of (ks : List Nat) (h0 : Lent vs) {F : (Nat → Nat) → List (Nat × AV)} {R : (Nat → Nat) → List (Nat × RowC)} (h1 : allEq l (F (killV vs ks))) (h2 : killC cs ks = R (killV vs ks)) (h3 : small ks = true := by rfl) : FitW n F R (st n l vs cs) := by
  refine ⟨killV vs ks, lent_kill h3 h0, (sub_kills ks vs cs h3).trans ?_⟩
  rw [← h2]
  exact sub_look _ (allEq_mem h1)
theorem awp_uptoW {P : Program} {C : Ctx} {c : Code} {Q : Exit → AS → Prop} {s : AS} (N : Nat) (F : Nat → (Nat → Nat) → List (Nat × AV)) (R : Nat → (Nat → Nat) → List (Nat × RowC)) (I : Nat → Prop) (i0 : Nat)
    (h0 : FitW n (F i0) (R i0) s) (hi : i0 ≤ N) (hI : I i0)
    (round : ∀ i vs, Lent vs → i ≤ N → I i → awp P C c (andThen (fun s' => i < N ∧ I (i + 1) ∧ FitW n (F (i + 1)) (R (i + 1)) s') Q) (st n (F i vs) vs (R i vs))) : awp P C (.loop c) Q s := by
  refine awp_loop (fun k s => ∃ i, (i ≤ N ∧ I i) ∧ N - i = k ∧ FitW n (F i) (R i) s) (N - i0) ⟨i0, ⟨hi, hI⟩, rfl, h0⟩ ?_
  rintro k s ⟨i, ⟨hi, hI⟩, rfl, vs, hv, hs⟩
  refine awp_sub hs (awp_mono ?_ (round i vs hv hi hI))
  intro e s' hq
  cases e with
  | normal =>
    obtain ⟨h1, h2, h3⟩ := hq
    exact ⟨N - (i + 1), by omega, i + 1, ⟨h1, h2⟩, rfl, h3⟩
  | _ => exact hq
end
/-! ### A struct as the result -/
def agIs (ks : List (Nat × RowC)) (rows : Nat → Row) : AV → List AV → Prop
  | .ag cs, cs0 => frzPL ks rows cs ∧ frzL ks rows cs = cs0
  | _, _ => False
theorem agIs_ag {ks : List (Nat × RowC)} {rows : Nat → Row} {cs cs0 : List AV} : agIs ks rows (.ag cs) cs0 = (frzPL ks rows cs ∧ frzL ks rows cs = cs0) := rfl
def mpostG (P : Program) (rv : ResultVar) (cs0 : List AV) (L L' : List (Nat × RowC)) : Exit → AS → Prop
  | .normal, s => resC (resA P s rv) (fun x => agIs L s.rows x cs0) ∧ mfin L s.rows L L'
  | .ret, s => resC (resA P s rv) (fun x => agIs L s.rows x cs0) ∧ mfin L s.rows L L'
  | _, _ => False
theorem mpostG_normal {P : Program} {s : AS} {rv : ResultVar} {cs0 : List AV} {L L' : List (Nat × RowC)} : mpostG P rv cs0 L L' .normal s = (resC (resA P s rv) (fun x => agIs L s.rows x cs0) ∧ mfin L s.rows L L') := rfl
theorem mpostG_ret {P : Program} {s : AS} {rv : ResultVar} {cs0 : List AV} {L L' : List (Nat × RowC)} : mpostG P rv cs0 L L' .ret s = (resC (resA P s rv) (fun x => agIs L s.rows x cs0) ∧ mfin L s.rows L L') := rfl
section
variable {P : Program} {C : Ctx} {p p0 : Plan} {s : AS} {a : Act} {w : World}
theorem run_resG (h : SR C p s a w) {L : List (Nat × RowC)} (hpin : ∀ k, keyIn L k = true → p.β k = p0.β k ∧ p.γ k = p0.γ k ∧ s.ver k = 0) {R' : Nat → Prop} (hR : ∀ b, p.R b → R' b) (hR2 : ∀ j b, j < 1000 → p.β j = some b → R' b)
    {fn : Func} {rv : ResultVar} {cs0 : List AV} (hres : fn.results.toList = [rv]) (hm : resC (resA P s rv) (fun x => agIs L s.rows x cs0)) : ∃ v, (results fn a.tmps).run P w = .ok v w ∧ (AV.ag cs0).rel w { p0 with R := R' } (fun _ => 0) v := by
  obtain ⟨hp, hq⟩ := hm
  obtain ⟨u, hu, hrel⟩ := run_result h rv hp
  cases hav : (resA P s rv).y.av with
  | ag cs =>
    rw [hav] at hq hrel
    obtain ⟨h1, h2⟩ := hq
    have hm : (fn.results.mapM (resOp a.tmps)).run P w = .ok #[u] w := by
      rw [Array.mapM_eq_mapM_toList, hres]
      simp only [Sem.run_map, List.mapM_cons, List.mapM_nil, Sem.run_bind, hu, Result.andThen_ok, Sem.run_pure]
    refine ⟨u, ?_, ?_⟩
    · rw [results_eq, Sem.run_bind, hm]
      simp [Result.andThen_ok, Sem.run_pure]
    · simp only [AV.rel] at hrel ⊢
      obtain ⟨vs, e1, e2, e3⟩ := hrel
      exact ⟨vs, e1, e2, h2 ▸ frz_relV h hpin hR hR2 h1 e3⟩
  | _ => rw [hav] at hq; exact hq.elim
theorem mcalls_ag {f : FuncId} {fn : Func} {c : Code} {n : Nat} {args : List AV} (L L' : List (Nat × RowC)) (cs0 : List AV) (rv : ResultVar) (hf : P.funcs[f]? = some fn) (hb : fn.body = some c) (hc : callable P f = true) (hn : fn.ntmps = n) (hres : fn.results.toList = [rv])
    (hargs : args.length ≤ n) (hL : pinned L = true) (h : ∀ C, awp P C c (mpostG P rv cs0 L L') (st n (argA 0 args) (fun _ => 0) L)) : MCalls P f L L' args (.ag cs0) := by
  have hres0 := hres
  refine ⟨hc, fun w p vs hR hβ hij hγ hrows hV => ?_⟩
  have hlen := AV.relV_length hV
  simp only [Array.length_toList] at hlen
  let C : Ctx := ⟨w, p.R, fun b => ∃ k, p.β k = some b, fun k => if keyIn L k then some (p.β k, p.γ k) else none⟩
  have hs : SR C p (st n (argA 0 args) (fun _ => 0) L) { tmps := vs ++ Array.replicate (fn.ntmps - vs.size) undef, defers := [] } w := {
    base := ⟨rfl, rfl, rfl, Nat.le_refl _, fun _ _ _ => rfl⟩
    r0 := fun _ h => h
    rn := fun _ h => .inl h
    rb := hR
    tm := fun t => by
      show (look (argA 0 args) t).rel _ _ _ _
      rw [argA_look, if_pos (Nat.zero_le _), Nat.sub_zero]
      cases e : args[t]? with
      | none => exact AV.rel_un _ _ _ _
      | some x =>
        obtain ⟨u, hu, hx⟩ := AV.relV_get hV e
        have : (vs ++ Array.replicate (fn.ntmps - vs.size) undef).getD t undef = u := by
          have ht : t < vs.size := by have := (List.getElem?_eq_some_iff.1 hu).1; simpa using this
          rw [Array.getD_eq_getD_getElem?, Array.getElem?_append_left ht]
          simp only [Array.getElem?_toList] at hu
          rw [hu]; rfl
        rw [this]
        exact hx
    sz := by simp only [Array.size_append, Array.size_replicate, st]; omega
    df := rfl
    rw := hrows
    bl := fun k b h => ⟨(hβ k b h).1, (hβ k b h).2, .inr ⟨by
      cases hk : keyIn L k with
      | true => exact (pinned_ge hL hk).1
      | false =>
        have hr := hrows k
        rw [lookc_not hk] at hr
        simp only [rowRel] at hr
        exact absurd (hr.1.symm.trans h) (by simp), k, h⟩⟩
    ij := hij
    cap := hγ
    pn := fun k x hx => by
      have hx' : (if keyIn L k then some (p.β k, p.γ k) else none) = some x := hx
      split at hx'
      · rename_i hk
        injection hx' with hx'
        subst hx'
        exact ⟨rfl, rfl, rfl, (pinned_ge hL hk).1⟩
      · cases hx'
    lk := fun j km n l cur hj _ => by
      have hj' : lookc L j = .mi km n l cur := hj
      cases hk : keyIn L j with
      | true => have := (pinned_ge hL hk).2; rw [hj'] at this; simp [okC] at this
      | false => rw [lookc_not hk] at hj'; cases hj' }
  refine calls_of_wp hf hb (wp_mono (h C _ w ⟨p, hs⟩) ?_)
  rintro e a' w' ⟨s', ⟨p', hs'⟩, hq⟩
  have fin : resC (resA P s' rv) (fun x => agIs L s'.rows x cs0) ∧ mfin L s'.rows L L' → ∃ v, (results fn a'.tmps).run P w' = .ok v w' ∧ ∃ v' R', Ending.returned v = .returned v' ∧ (w'.os = w.os ∧ w'.tape = w.tape ∧ w'.output = w.output ∧ w.heap.size ≤ w'.heap.size) ∧
      (∀ k, k < w.heap.size → (∀ j, p.β j ≠ some k) → w'.heap[k]? = w.heap[k]?) ∧ (∀ b, p.R b → R' b) ∧ (∀ b, R' b → p.R b ∨ w.heap.size ≤ b) ∧ (∀ b, R' b → b < w'.heap.size) ∧
      (∀ k, rowRel w' { p with R := R' } (fun _ => 0) k (lookc L' k)) ∧ (AV.ag cs0).rel w' { p with R := R' } (fun _ => 0) v' := fun ⟨hres, hm⟩ => by
    have hpin : ∀ k, keyIn L k = true → p'.β k = p.β k ∧ p'.γ k = p.γ k ∧ s'.ver k = 0 := fun k hk => by
      obtain ⟨h1, h2, h3, _⟩ := hs'.pn k (p.β k, p.γ k) (by show (if keyIn L k then some (p.β k, p.γ k) else none) = _; rw [if_pos hk])
      exact ⟨h1, h2, h3⟩
    have hnew : ∀ j b, j < 1000 → p'.β j = some b → w.heap.size ≤ b := fun j b hj hb => by
      rcases (hs'.bl j b hb).2.2 with h1 | ⟨_, k, hk⟩
      · exact h1
      · exfalso
        cases hkk : keyIn L k with
        | true =>
          have h2 := (hpin k hkk).1.trans hk
          have := hs'.ij j k b hb h2
          have := (pinned_ge hL hkk).1
          omega
        | false =>
          have h2 := hrows k
          rw [lookc_not hkk] at h2
          simp only [rowRel] at h2
          rw [h2.1] at hk; cases hk
    obtain ⟨v, hv, hrel⟩ := run_resG (p0 := p) hs' hpin (R' := fun b => p'.R b ∨ ∃ j, j < 1000 ∧ p'.β j = some b) (fun _ h => .inl h) (fun j b hj hb => .inr ⟨j, hj, hb⟩) hres0 hres
    refine ⟨v, hv, v, fun b => p'.R b ∨ ∃ j, j < 1000 ∧ p'.β j = some b, rfl, ⟨hs'.base.os, hs'.base.tape, hs'.base.output, hs'.base.size⟩, fun k hk hn => hs'.base.block k hk (fun ⟨j, hj⟩ => hn j hj), fun b hb => .inl (hs'.r0 b hb), fun b hb => ?_, fun b hb => ?_, fun k => ?_, hrel⟩
    · rcases hb with hb | ⟨j, hj, hb⟩
      · exact hs'.rn b hb
      · exact .inr (hnew j b hj hb)
    · rcases hb with hb | ⟨j, hj, hb⟩
      · exact hs'.rb b hb
      · exact (hs'.bl j b hb).1
    · obtain ⟨g1, g2⟩ := mfin_get hm
      cases hk : keyIn L k with
      | false =>
        rw [g2 k hk]
        have h2 := hrows k
        rw [lookc_not hk] at h2
        simp only [rowRel] at h2 ⊢
        exact h2
      | true =>
        obtain ⟨q1, q2, q3⟩ := g1 k hk
        obtain ⟨h1, h2, h3⟩ := hpin k hk
        rw [q3]
        have hr := hs'.rw k
        have hR1 : ∀ b, p'.R b → (p'.R b ∨ ∃ j, j < 1000 ∧ p'.β j = some b) := fun _ h => .inl h
        cases hcc : (s'.rows k).c with
        | box cs =>
          rw [hcc] at hr q2
          simp only [rowRel] at hr
          simp only [frzC, rowRel]
          obtain ⟨b, cells, t, e1, e2, e3, e4⟩ := hr
          exact ⟨b, cells, t, h1.symm.trans e1, e2, frz_relV (p0 := p) hs' hpin hR1 (fun j b hj hb => .inr ⟨j, hj, hb⟩) q2 e3, e4⟩
        | arr t sz es =>
          rw [hcc] at hr
          simp only [rowRel] at hr
          simp only [frzC, rowRel]
          rw [h1, h2] at hr
          refine hr.imp id ?_
          rintro ⟨b, cells, e1, e2, e3, e4, e5⟩
          exact ⟨b, cells, e1, e2, e3, e4, RV.relE_mono hR1 (fun _ _ => rfl) _ _ _ _ (fun _ => rfl) e5⟩
        | mp m =>
          rw [hcc] at hr
          simp only [rowRel] at hr
          simp only [frzC, rowRel]
          rw [h1] at hr
          obtain ⟨b, e1, e2⟩ := hr
          exact ⟨b, e1, mapRel_mono hR1 (fun _ _ => rfl) rfl e2⟩
        | _ => rw [hcc] at q1; simp [okC] at q1
  cases e with
  | normal => exact ⟨hs'.df, fin hq⟩
  | ret => exact ⟨hs'.df, fin hq⟩
  | _ => exact hq.elim
end
attribute [go_sem] agIs_ag mpostG_normal mpostG_ret
end Go.Oc

/- Calls by contract, at an operation; what an operation yields; it is sound. -/
import Derived.Test.YtnklbfmdojpfkaaOl
namespace Go.Oc
open Go Go.RowKit

/-- All blocks that are known. -/
def Plan.all (p : Plan) : Nat → Prop := fun b => p.R b ∨ ∃ k, p.β k = some b

section
variable {P : Program} {C : Ctx} {p : Plan} {s : AS} {a : Act} {w w' : World} {o : Oper}

theorem snap_os (h : SR C p s a w) {k n sz off m : Nat} {v : Value} (hn : n = s.ver k) (hc : match (s.rows k).c with | .arr _ sz' es => sz = sz' ∧ off + m ≤ es.length | _ => False)
    (hv : (AV.os k n sz off m).rel w p s.ver v) {R' : Nat → Prop} (hR : ∀ b, p.R b → R' b) (hR2 : ∀ b, p.β k = some b → R' b) : (match (s.rows k).c with | .arr _ _ es => RV.sl sz ((es.drop off).take m) | _ => .un).rel w R' v := by
  have hrow := h.rw k
  split at hc
  · rename_i t sz' es e
    obtain ⟨rfl, hle⟩ := hc
    rw [e] at hrow
    simp only [AV.rel] at hv
    simp only [rowRel] at hrow
    have hlen : ((es.drop off).take m).length = m := by simp; omega
    rcases hv.2 hn with ⟨hβ, hγ, h0, hm, A, rfl⟩ | ⟨b, A, hβ, rfl, hle2, hA⟩
    · subst hm
      simp only [RV.rel]
      exact ⟨A, 0, by simp, by simp, Nat.zero_le _, fun hn => absurd (by simp) hn⟩
    · simp only [RV.rel]
      refine ⟨A, p.γ k - off, by rw [hlen], by rw [hlen]; omega, by have := h.cap k; omega, fun hne => ?_⟩
      have hm : 0 < m := by
        rcases Nat.eq_zero_or_pos m with h0 | h0
        · exact absurd (by rw [h0]; simp) hne
        · exact h0
      refine ⟨_, hA (.inl hm), hR2 _ hβ, ?_⟩
      rcases hrow with ⟨hb, _⟩ | ⟨b', cells, hβ', hh, hcs, hle3, hE⟩
      · rw [hb] at hβ; cases hβ
      · rw [hβ] at hβ'
        injection hβ' with hβ'
        subst hβ'
        have hE2 := relE_cut hE off (off + m)
        rw [add_at, Nat.zero_add, List.take_drop.symm] at hE2
        exact RV.relE_mono hR (fun _ _ => rfl) _ _ _ _ (fun _ => rfl) hE2
  · exact hc.elim

theorem snap1_rel (h : SR C p s a w) {x : AV} {v : Value} (hp : snap1P s.rows x) (hv : x.rel w p s.ver v) : (snap1V s.rows x).rel w p.all v := by
  cases x with
  | r x => simp only [AV.rel] at hv; exact RV.rel_mono (fun _ h => .inl h) (fun _ _ => rfl) _ _ hv
  | os k n sz off m => exact snap_os h hp.1 hp.2 hv (fun _ h => .inl h) (fun b hb => .inr ⟨_, hb⟩)
  | _ => simp only [snap1V, RV.rel]

theorem snap1L_rel (h : SR C p s a w) {b : Nat} {cells : Array Value} {ty : TypeId} (hh : w.heap[b]? = some (.cells cells ty (0, 0))) (h1 : ∀ u ∈ cells.toList, u.oneCell' = true) :
    ∀ (cs : List AV) (us : List Value) (off : Nat), (∀ i u, us[i]? = some u → cells[off + i]? = some u) → snap1PL s.rows cs → AV.relV w p s.ver cs us → ∀ j, RV.relC w p.all (cs.map (snap1V s.rows)) ⟨b, off - j, none⟩ j ∨ off < j
  | [], _, _, _, _, _, _ => by simp [RV.relC]
  | c :: cs, us, off, hget, hp, hV, j => by
    by_cases hj : off < j
    · exact .inr hj
    simp only [snap1PL] at hp
    simp only [AV.relV] at hV
    obtain ⟨u, us, rfl, hu, hV⟩ := hV
    refine .inl ?_
    simp only [List.map_cons, RV.relC]
    have hc0 : cells[off]? = some u := by simpa using hget 0 u (by simp)
    refine ⟨⟨u, ?_, h1 u (by simpa using List.mem_of_getElem? (by simpa using hc0 : cells.toList[off]? = some u)), snap1_rel h hp.1 hu⟩, ?_⟩
    · rw [add_at, show off - j + j = off by omega, cell_of_row w b off cells ty (0, 0) hh]; exact hc0
    · have := snap1L_rel h hh h1 cs us (off + 1) (fun i u hi => by
        have := hget (i + 1) u (by simpa using hi)
        rwa [show off + 1 + i = off + (i + 1) by omega]) hp.2 hV (j + 1)
      rcases this with h2 | h2
      · rwa [show off + 1 - (j + 1) = off - j by omega] at h2
      · omega

mutual
theorem snap_rel (h : SR C p s a w) : ∀ (x : AV) (v : Value), snapP s.rows x → x.rel w p s.ver v → (snapV s.rows x).rel w p.all v
  | .r x, v, _, hv => by simp only [AV.rel] at hv; simp only [snapV]; exact RV.rel_mono (fun _ h => .inl h) (fun _ _ => rfl) _ _ hv
  | .os k n sz off m, v, hp, hv => by
    simp only [snapP] at hp
    simp only [snapV]
    exact snap_os h hp.1 hp.2 hv (fun _ h => .inl h) (fun b hb => .inr ⟨_, hb⟩)
  | .pt k n off, v, hp, hv => by
    simp only [snapP] at hp
    simp only [snapV]
    have hrow := h.rw k
    obtain ⟨hn, hc⟩ := hp
    split at hc
    · rename_i cs e
      rw [e] at hrow
      simp only [rowRel] at hrow
      obtain ⟨b, cells, ty, hβ, hh, hV, h1⟩ := hrow
      simp only [AV.rel] at hv
      obtain ⟨b', hβ', rfl⟩ := hv.2 hn
      rw [hβ] at hβ'
      injection hβ' with hβ'
      subst hβ'
      simp only [RV.rel]
      refine ⟨_, rfl, .inr ⟨k, hβ⟩, ?_⟩
      have := snap1L_rel h hh h1 (cs.drop off) (cells.toList.drop off) off (fun i u hi => by rw [List.getElem?_drop] at hi; simpa using hi) hc (AV.relV_drop off hV) 0
      rcases this with h2 | h2
      · simpa using h2
      · omega
    · exact hc.elim
  | .pe k n sz idx off, v, hp, hv => by
    simp only [snapP] at hp
    simp only [snapV]
    have hrow := h.rw k
    obtain ⟨hn, hc⟩ := hp
    split at hc
    · rename_i t sz' es e
      obtain ⟨rfl, hidx⟩ := hc
      rw [e] at hrow
      simp only [rowRel] at hrow
      simp only [AV.rel] at hv
      obtain ⟨b', hβ', rfl⟩ := hv.2 hn
      rcases hrow with ⟨hb, _⟩ | ⟨b, cells, hβ, hh, hcs, hle3, hE⟩
      · rw [hb] at hβ'; cases hβ'
      · rw [hβ] at hβ'
        injection hβ' with hβ'
        subst hβ'
        simp only [RV.rel]
        refine ⟨_, rfl, .inr ⟨k, hβ⟩, ?_⟩
        have hx : es[idx]? = some (es.getD idx []) := by simp [List.getD, hidx]
        have h1 := RV.relC_base (j := 0) (idx * sz) (by simpa using (RV.relE_get hE hx).2)
        have h2 := RV.relC_drop off h1
        rw [add_at, add_at, Nat.zero_add] at h2
        exact RV.relC_mono (fun _ h => .inl h) (fun _ _ => rfl) _ _ _ (fun _ => rfl) h2
    · exact hc.elim
  | .fn f cs, v, hp, hv => by
    simp only [snapP] at hp
    simp only [AV.rel] at hv
    simp only [snapV, RV.rel]
    obtain ⟨vs, e, hV⟩ := hv
    exact ⟨vs, e, snap_relV h cs _ hp hV⟩
  | .ag cs, v, hp, hv => by
    simp only [snapP] at hp
    simp only [AV.rel] at hv
    simp only [snapV, RV.rel]
    obtain ⟨vs, e, h1, hV⟩ := hv
    exact ⟨vs, e, h1, snap_relV h cs _ hp hV⟩
  | .tu cs, v, hp, hv => by
    simp only [snapP] at hp
    simp only [AV.rel] at hv
    simp only [snapV, RV.rel]
    obtain ⟨vs, e, hV⟩ := hv
    exact ⟨vs, e, snap_relV h cs _ hp hV⟩
  | .mp _ _, _, hp, _ => by simp [snapP] at hp
  | .mi _ _, _, hp, _ => by simp [snapP] at hp
theorem snap_relV (h : SR C p s a w) : ∀ (xs : List AV) (vs : List Value), snapPL s.rows xs → AV.relV w p s.ver xs vs → RV.relV w p.all (snapVL s.rows xs) vs
  | [], _, _, hV => by simp only [AV.relV] at hV; simp only [snapVL, RV.relV]; exact hV
  | x :: xs, vs, hp, hV => by
    simp only [snapPL] at hp
    simp only [AV.relV] at hV
    obtain ⟨u, us, e, h1, h2⟩ := hV
    simp only [snapVL, RV.relV]
    exact ⟨u, us, e, snap_rel h x u hp.1 h1, snap_relV h xs us hp.2 h2⟩
end
mutual
theorem pure_rel {rows : Nat → Row} {ver : Nat → Nat} : ∀ (x : AV) (v : Value), x.pure = true → x.rel w p ver v → (snapV rows x).rel w p.R v
  | .r x, v, _, hv => by simp only [AV.rel] at hv; simp only [snapV]; exact hv
  | .fn f cs, v, hp, hv => by
    simp only [AV.pure] at hp
    simp only [AV.rel] at hv
    simp only [snapV, RV.rel]
    obtain ⟨vs, e, hV⟩ := hv
    exact ⟨vs, e, pure_relV cs _ hp hV⟩
  | .ag cs, v, hp, hv => by
    simp only [AV.pure] at hp
    simp only [AV.rel] at hv
    simp only [snapV, RV.rel]
    obtain ⟨vs, e, h1, hV⟩ := hv
    exact ⟨vs, e, h1, pure_relV cs _ hp hV⟩
  | .tu cs, v, hp, hv => by
    simp only [AV.pure] at hp
    simp only [AV.rel] at hv
    simp only [snapV, RV.rel]
    obtain ⟨vs, e, hV⟩ := hv
    exact ⟨vs, e, pure_relV cs _ hp hV⟩
  | .os .., _, hp, _ => by simp [AV.pure] at hp
  | .pt .., _, hp, _ => by simp [AV.pure] at hp
  | .pe .., _, hp, _ => by simp [AV.pure] at hp
  | .mp .., _, hp, _ => by simp [AV.pure] at hp
  | .mi .., _, hp, _ => by simp [AV.pure] at hp
theorem pure_relV {rows : Nat → Row} {ver : Nat → Nat} : ∀ (xs : List AV) (vs : List Value), AV.pureL xs = true → AV.relV w p ver xs vs → RV.relV w p.R (snapVL rows xs) vs
  | [], _, _, hV => by simp only [AV.relV] at hV; simp only [snapVL, RV.relV]; exact hV
  | x :: xs, vs, hp, hV => by
    simp only [AV.pureL, Bool.and_eq_true] at hp
    simp only [AV.relV] at hV
    obtain ⟨u, us, e, h1, h2⟩ := hV
    simp only [snapVL, RV.relV]
    exact ⟨u, us, e, pure_rel x u hp.1 h1, pure_relV xs us hp.2 h2⟩
end

def callee? : AV → Option (FuncId × List AV)
  | .r (.fn f cs) => some (f, cs.map .r)
  | .fn f cs => some (f, cs)
  | _ => none
/-- A call by contract: it returns r. -/
def ACallOk (P : Program) (s : AS) (f : AV) (xs : List AV) (r : RV) : Prop :=
  ∃ F cs args', callee? f = some (F, cs) ∧ snapPL s.rows (xs ++ cs) ∧ RV.leL (snapVL s.rows (xs ++ cs)) args' ∧ ACalls P F args' r ∧ (r.flatB = true ∨ AV.pureL (xs ++ cs) = true)

/-- What an operation yields. In a region that draws its order a row is made only where none is. -/
def AY (P : Program) (o : Oper) (s : AS) (y : Yi) : Prop :=
  match o.op with
  | .call ⟨.value f, args, _⟩ => ∃ r, ACallOk P s (s.ev f) (args.toList.map s.ev) r ∧ y = ⟨.r r, []⟩
  | _ => (step P o s).pre ∧ y = (step P o s).y

theorem run_callFunc {f : FuncId} (hc : callable P f = true) (args : Array Value) (w : World) : (callFunc f args).run P w = .ok (.enter f args) w := by
  unfold callable at hc
  split at hc
  · rename_i fn hf
    simp only [Bool.and_eq_true, bne_iff_ne, ne_eq] at hc
    unfold callFunc
    have h1 : (fn.name == "runtime.NumGoroutine") = false := by simpa using hc.2
    have h2 : fn.body.isNone = false := by simpa using hc.1
    simp only [Sem.run_bind, run_program, Result.andThen_ok, hf, h1, h2, Bool.false_eq_true, if_false, Sem.run_pure]
  · cases hc

theorem call_sound (h : SR C p s a w) {f : Operand} {args : Array Operand} {ts : Array TypeId} (ho : o.op = .call ⟨.value f, args, ts⟩) {r : RV} (hr : ACallOk P s (s.ev f) (args.toList.map s.ev) r)
    {K : Act → World → Prop} {Q : Exit → Act → World → Prop} (hK : ∀ v w' p', SR C p' s a w' → r.rel w' p'.R v → K (a.put o.dst v) w') : o.wp P a w K Q := by
  obtain ⟨F, cs, args', hF, hsn, hle, ⟨hcal, hcalls⟩, hfl⟩ := hr
  have hargs := relV_ev h args.toList
  obtain ⟨vs, hfv, hcs⟩ : ∃ vs : Array Value, a.eval f = .func (.func F) #[] vs ∧ AV.relV w p s.ver cs vs.toList := by
    have hx := h.ev f
    unfold callee? at hF
    split at hF
    · rename_i g cs' e
      injection hF with hF
      injection hF with h1 h2
      subst h1 h2
      rw [e] at hx
      simp only [AV.rel, RV.rel] at hx
      obtain ⟨vs, hv, hV⟩ := hx
      exact ⟨vs, hv, AV.relV_map_r hV⟩
    · rename_i g cs' e
      injection hF with hF
      injection hF with h1 h2
      subst h1 h2
      rw [e] at hx
      simp only [AV.rel] at hx
      exact hx
    · cases hF
  have hall := AV.relV_append hargs hcs
  have hlist : (args.map a.eval ++ vs).toList = args.toList.map a.eval ++ vs.toList := by simp
  have hrun : (execOp a.eval o).run P w = .ok (.enter F (args.map a.eval ++ vs)) w := by
    simp only [execOp, ho, Sem.run_bind, resolve, hfv, Deferred.ofValue, Sem.run_pure, Result.andThen_ok, invoke]
    simpa using run_callFunc hcal (args.map a.eval ++ vs) w
  unfold Oper.wp
  rw [hrun, Oper.upon_enter]
  rcases hfl with hfl | hfl
  · have hV := le_relV _ _ _ hle (snap_relV h _ _ hsn (by rw [← hlist] at hall; exact hall))
    refine (hcalls w p.all _ (fun b hb => hb.elim (h.rb b) (fun ⟨k, hk⟩ => (h.bl k b hk).1)) hV).mono ?_
    rintro e w' ⟨v, R', rfl, hb, hR1, hR2, hR3, hrel⟩
    exact hK v w' _ (h.below hb (fun _ h => h) (fun _ h => .inl h) (fun b hb' => Nat.lt_of_lt_of_le (h.rb b hb') hb.size)) (flat_rel r v hfl hrel)
  · have hV := le_relV _ _ _ hle (pure_relV (rows := s.rows) _ _ hfl (by rw [← hlist] at hall; exact hall))
    refine (hcalls w p.R _ h.rb hV).mono ?_
    rintro e w' ⟨v, R', rfl, hb, hR1, hR2, hR3, hrel⟩
    exact hK v w' _ (h.below hb hR1 hR2 hR3) hrel

theorem AY_sound (h : SR C p s a w) {y : Yi} (hy : AY P o s y) (hd : ∀ t, o.dst = some t → t < s.n) {K : Act → World → Prop} {Q : Exit → Act → World → Prop}
    (hK : ∀ a' w' p', SR C p' (s.app o.dst y) a' w' → K a' w') : o.wp P a w K Q := by
  unfold AY at hy
  split at hy
  · rename_i f args ts ho
    obtain ⟨r, hr, rfl⟩ := hy
    refine call_sound h ho hr fun v w' p' hSR hrel => hK _ _ p' ?_
    have := hSR.put' (d := o.dst) (av := .r r) (v := v) (by simpa only [AV.rel] using hrel) hd
    exact this
  · obtain ⟨hpre, rfl⟩ := hy
    obtain ⟨nx, v, w', p', hrun, hnx, _, hSR, hrel⟩ := step_sound h hpre
    unfold Oper.wp
    rw [hrun]
    have hput := hSR.put' (d := o.dst) hrel hd
    rcases hnx with rfl | ⟨rfl, rfl⟩
    · exact hK _ _ p' hput
    · exact hK _ _ p' hput
end
end Go.Oc

/- Part 5 of the texts of this claim. -/
import Derived.Test.YtaniakoadbkadaaV74
import Derived.Lib.EndianBits
import Derived.KernelRfl
/- A variable of one's own that holds plain data becomes plain data itself: its row is given up. -/
namespace Go.Oc
open Go Go.RowKit
set_option linter.unusedVariables false
theorem relC_plain {w : World} {p : Plan} {ver : Nat → Nat} {R' : Nat → Prop} (hR : ∀ b, p.R b → R' b) {b : Nat} {cells : Array Value} {ty : TypeId} (hh : w.heap[b]? = some (.cells cells ty (0, 0))) (h1 : ∀ u ∈ cells.toList, u.oneCell' = true) :
    ∀ (cs : List RV) (us : List Value) (j : Nat), (∀ i u, us[i]? = some u → cells[j + i]? = some u) → AV.relV w p ver (cs.map .r) us → RV.relC w R' cs ⟨b, 0, none⟩ j
  | [], _, _, _, _ => by simp [RV.relC]
  | c :: cs, us, j, hget, hV => by
    simp only [List.map_cons, AV.relV] at hV
    obtain ⟨u, us, rfl, hu, hV⟩ := hV
    simp only [RV.relC]
    have hc0 : cells[j]? = some u := by simpa using hget 0 u (by simp)
    refine ⟨⟨u, ?_, h1 u (by simpa using List.mem_of_getElem? (by simpa using hc0 : cells.toList[j]? = some u)), ?_⟩, ?_⟩
    · rw [add_at, Nat.zero_add, cell_of_row w b j cells ty (0, 0) hh]; exact hc0
    · simp only [AV.rel] at hu
      exact RV.rel_mono hR (fun _ _ => rfl) _ _ hu
    · exact relC_plain hR hh h1 cs us (j + 1) (fun i u hi => by
        have := hget (i + 1) u (by simpa using hi)
        rwa [show j + 1 + i = j + (i + 1) by omega]) hV
theorem sub_freezeP (s : AS) (t k : Nat) {rs : List RV} (hk0 : k < 1000) (ht : s.tm t = .pt k (s.ver k) 0) (hc : (s.rows k).c = .box (rs.map .r)) :
    Sub s { s with tm := upd s.tm t (.r (.rp rs)), rows := upd s.rows k ⟨(s.rows k).ver + 1, .dead⟩ } := fun C a w ⟨p, hp⟩ => by
  have h1 := hp.reRow (w' := w) k hk0 .dead rfl none 1 (by simp [maxLen]) rfl rfl rfl (Nat.le_refl _) (fun _ _ _ => rfl) (fun _ h => by cases h) (fun p' ver' _ hβ hγ _ => by simp only [rowRel]; exact ⟨hβ, hγ⟩)
  have hval := hp.tm t
  rw [ht] at hval
  have hr := hp.rw k
  rw [hc] at hr
  simp only [rowRel] at hr
  obtain ⟨b, cs, ty, g1, g2, g3, g4⟩ := hr
  simp only [AV.rel] at hval
  obtain ⟨b', e1, e2⟩ := hval.2 trivial
  rw [g1] at e1
  injection e1 with e1
  subst e1
  obtain ⟨q1, _, q2⟩ := hp.bl k b g1
  have h2 := h1.publish (b := b) q1 (q2.imp id fun h => h.resolve_left (fun h => by omega)) (fun j hj => by
    have hj' : upd p.β k none j = some b := hj
    by_cases e : j = k
    · subst e; rw [upd_same] at hj'; cases hj'
    · rw [upd_other _ _ e] at hj'; exact e (hp.ij j k b hj' g1)) (hp.ex.publish g1)
  refine ⟨_, { h2 with tm := fun j => ?_ }⟩
  show AV.rel w _ _ (upd s.tm t _ j) _
  by_cases hj : j = t
  · subst hj
    rw [upd_same]
    simp only [AV.rel, RV.rel]
    refine ⟨_, e2, .inr rfl, ?_⟩
    exact relC_plain (fun _ h => .inl h) g2 g4 _ _ _ (fun i u h => by simpa using h) g3
  · rw [upd_other _ _ hj]
    exact h2.tm j
section
variable {n : Nat} {l : List (Nat × AV)} {vs : Nat → Nat} {cs : List (Nat × RowC)}
theorem sub_frzP (t k : Nat) (rs : List RV) (hk0 : k < 1000) (ht : look l t = .pt k (vs k) 0) (hc : lookc cs k = .box (rs.map .r)) :
    Sub (st n l vs cs) (st n ((t, .r (.rp rs)) :: l) (upd vs k (vs k + 1)) (delc cs k)) := by
  have := sub_freezeP (st n l vs cs) t k hk0 ht hc
  have e : ({ st n l vs cs with tm := upd (st n l vs cs).tm t (.r (.rp rs)), rows := upd (st n l vs cs).rows k ⟨((st n l vs cs).rows k).ver + 1, .dead⟩ } : AS) = st n ((t, .r (.rp rs)) :: l) (upd vs k (vs k + 1)) (delc cs k) := by
    simp only [st, AS.mk.injEq, true_and]
    constructor
    · funext j
      show upd (look l) t (.r (.rp rs)) j = look ((t, .r (.rp rs)) :: l) j
      rfl
    · funext j
      rw [lookc_delc]
      unfold upd
      split <;> rfl
  rwa [e] at this
end
end Go.Oc

/- A long region in parts: between them what is not needed any more is dropped. -/
namespace Go.Oc
open Go Go.RowKit
set_option linter.unusedSimpArgs false
set_option linter.unusedVariables false
set_option linter.unnecessarySimpa false

section
variable {P : Program} {C : Ctx} {s : AS} {ops : Array Oper}
theorem aops_seq2 {Q : AS → Prop} {Q' : Exit → Act → World → Prop} {l2 : List Oper} {n : Nat} (hQ : ∀ s a w, s.n = n → Q s → SRel C s a w → wpListIn (fnc C.rd) 0 P ops Q' l2 a w) : ∀ (l : List Oper) (s : AS) (a : Act) (w : World), s.n = n → dstOk l.toArray s.n = true → aops P false ops l Q s → SRel C s a w → wpListIn (fnc C.rd) 0 P ops Q' (l ++ l2) a w
  | [], s, a, w, hn0, _, h, hs => hQ s a w hn0 h hs
  | o :: l, s, a, w, hn0, hd, h, hs => by
    rw [List.cons_append]
    have hd0 : ∀ t, o.dst = some t → t < s.n := dstOk_get (i := 0) hd (by simp)
    have hdl : dstOk l.toArray s.n = true := by
      unfold dstOk at hd ⊢
      simp only [List.all_toArray, List.all_cons, Bool.and_eq_true] at hd ⊢
      exact hd.2
    obtain ⟨p, hp⟩ := hs
    have run : ∀ {s1 : AS}, s1 = s → xop P false o (aops P false ops l Q) s1 → wantA ops s o = some true → wpListIn (fnc C.rd) 0 P ops Q' (o :: (l ++ l2)) a w := fun e hop hw => by
      subst e
      unfold wpListIn
      rw [if_pos (wantA_sound hp hw)]
      refine xop_sound hp hop hd0 (fun a' w' p' s' hs' hn hK => ?_) (dstOk_nd (i := 0) hd (by simp))
      exact aops_seq2 hQ l _ a' w' (hn.trans hn0) (by rw [hn]; exact hdl) hK ⟨p', hs'⟩
    have skip : ∀ {s1 : AS}, s1 = s → aops P false ops l Q (s1.put o.dst (.r .ud)) → wantA ops s o = some false → wpListIn (fnc C.rd) 0 P ops Q' (o :: (l ++ l2)) a w := fun e hop hw => by
      subst e
      unfold wpListIn
      rw [wantA_sound hp hw]
      simp only [Bool.false_eq_true, if_false]
      refine ⟨fun _ _ => trivial, ?_⟩
      have := hp.put' (d := o.dst) (av := .r .ud) (v := undef) (by simp only [AV.rel, RV.rel]) hd0
      exact aops_seq2 hQ l _ _ w ((put_n _ _ _).trans hn0) (by rw [put_n]; exact hdl) hop ⟨p, this⟩
    unfold aops at h
    split at h
    · rename_i hg
      exact run rfl h (by simp [wantA, hg])
    · rename_i g want hg
      split at h
      · rename_i ht
        exact skip rfl h (by simp [wantA, hg, ht])
      · rename_i t ht
        split at h
        · rename_i b hb
          by_cases hw : b = want
          · subst hw
            exact run (put_self hb) (h.1 rfl) (by simp [wantA, hg, ht, hb])
          · have hw' : b = !want := by cases b <;> cases want <;> simp_all
            subst hw'
            exact skip (put_self hb) (h.2 rfl) (by simp [wantA, hg, ht, hb])
        · rename_i hb
          exact skip rfl h (by simp [wantA, hg, ht, hb])
        · exact h.elim

/-- What is left of a region, from a state on. -/
def sops (P : Program) (C : Ctx) (ops : Array Oper) (l : List Oper) (Q : Exit → AS → Prop) (s : AS) : Prop := ∀ a w, SRel C s a w → wpListIn (fnc C.rd) 0 P ops (fun e a' w' => ∃ s', SRel C s' a' w' ∧ Q e s') l a w
variable {Q : Exit → AS → Prop}
theorem awp_long {id : Nat} {l : List Oper} (h : sops P C l.toArray l Q s) : awp P C (.region id l.toArray false) Q s := fun a w hs => wpIn_region_list (h a w hs)
theorem sops_take (k : Nat) {l : List Oper} (hd : dstOk (l.take k).toArray s.n = true) (h : ∀ K : AS → Prop, (∀ s', s'.n = s.n → sops P C ops (l.drop k) Q s' → K s') → aops P false ops (l.take k) K s) : sops P C ops l Q s := fun a w hs => by
  have h1 := h (fun s' => s'.n = s.n → sops P C ops (l.drop k) Q s') (fun s' _ hq _ => hq)
  have := aops_seq2 (Q' := fun e a' w' => ∃ s', SRel C s' a' w' ∧ Q e s') (l2 := l.drop k) (n := s.n) (fun s' a' w' hn hq hs' => hq hn a' w' hs') (l.take k) s a w rfl hd h1 hs
  rwa [List.take_append_drop] at this
theorem sops_sub {l : List Oper} {s' : AS} (h : Sub s s') (hq : sops P C ops l Q s') : sops P C ops l Q s := fun a w hs => hq a w (h C a w hs)
theorem sops_end {l : List Oper} (hd : dstOk l.toArray s.n = true) (h : ∀ K : AS → Prop, (∀ s, Q .normal s → K s) → aops P false ops l K s) : sops P C ops l Q s := fun a w hs =>
  aops_seq (fun s a w hq hs => ⟨s, hs, hq⟩) l s a w hd (h _ fun _ h => h) hs
theorem awp_fitV {c : Code} {n : Nat} {F : (Nat → Nat) → List (Nat × AV)} {R : (Nat → Nat) → List (Nat × RowC)} (h : FitV n F R s) (k : ∀ vs, awp P C c Q (st n (F vs) vs (R vs))) : awp P C c Q s := by
  obtain ⟨vs, h⟩ := h
  exact awp_sub h (k vs)
/-- Paths meet again; rows may tell of versions. -/
theorem awp_joinV {n : Nat} {c d : Code} {Q1 : Exit → AS → Prop} {α : Type} (F : α → (Nat → Nat) → List (Nat × AV)) (R : α → (Nat → Nat) → List (Nat × RowC)) (I : α → Prop)
    (h0 : ∀ s, awp P C d Q1 s → Q .normal s) (h1 : awp P C c (andThen (fun s' => ∃ z, I z ∧ FitV n (F z) (R z) s') Q) s) (h2 : ∀ z vs, I z → awp P C d Q1 (st n (F z vs) vs (R z vs))) : awp P C c Q s := by
  refine awp_mono ?_ h1
  intro e s' hq
  cases e with
  | normal =>
    obtain ⟨z, hz, hf⟩ := hq
    exact h0 s' (awp_fitV hf fun vs => h2 z vs hz)
  | _ => exact hq
end
end Go.Oc

/- A row of one's own under another number. -/
namespace Go.Oc
open Go Go.RowKit
set_option linter.unusedSimpArgs false
set_option linter.unusedVariables false

section
variable {P : Program} {C : Ctx} {p : Plan} {s : AS} {a : Act} {w : World}
/-- Row k takes a block that no row has. -/
theorem SR.adoptBlock (h : SR C p s a w) (k : Nat) (hk0 : k < 1000) (c : RowC) (hmi : c.isMi = false) (β1 : Option Nat) (g : Nat) (hg : g ≤ maxLen)
    (hβ1 : ∀ b, β1 = some b → b < w.heap.size ∧ ¬ p.R b ∧ (C.w0.heap.size ≤ b ∨ C.own b) ∧ ∀ j, p.β j ≠ some b) (hex : Ext C { p with β := upd p.β k β1, γ := upd p.γ k g } a.defers w)
    (hc : ∀ p' : Plan, ∀ ver', p'.R = p.R → p'.β k = β1 → p'.γ k = g → Kept w w p p' s.ver ver' → rowRel w p' ver' k c) :
    SR C { p with β := upd p.β k β1, γ := upd p.γ k g } { s with rows := upd s.rows k ⟨(s.rows k).ver + 1, c⟩ } a w := by
  have hver : ∀ j, (upd s.rows k ⟨(s.rows k).ver + 1, c⟩ j).ver = if j = k then s.ver k + 1 else s.ver j := fun j => by
    unfold upd; split <;> rfl
  have hk : Kept w w p { p with β := upd p.β k β1, γ := upd p.γ k g } s.ver (AS.ver { s with rows := upd s.rows k ⟨(s.rows k).ver + 1, c⟩ }) := by
    refine ⟨fun _ h => h, fun ad hr => rfl, fun j => ?_, fun j hj => ?_⟩
    · show s.ver j ≤ (upd s.rows k ⟨(s.rows k).ver + 1, c⟩ j).ver
      rw [hver]; split
      · rename_i e; subst e; omega
      · exact Nat.le_refl _
    · have hj' : (upd s.rows k ⟨(s.rows k).ver + 1, c⟩ j).ver = s.ver j := hj
      rw [hver] at hj'
      split at hj'
      · rename_i e; subst e; omega
      · rename_i e; exact ⟨upd_other _ _ e, upd_other _ _ e⟩
  exact {
    base := h.base
    r0 := h.r0
    rn := h.rn
    rb := h.rb
    tm := fun t => AV.rel_mono hk _ _ (h.tm t)
    sz := h.sz
    ex := hex
    rw := fun j => by
      by_cases e : j = k
      · subst e
        show rowRel _ _ _ j (upd s.rows j ⟨(s.rows j).ver + 1, c⟩ j).c
        rw [upd_same]
        exact hc _ _ rfl (upd_same _ _ _) (upd_same _ _ _) hk
      · show rowRel _ _ _ j (upd s.rows k ⟨(s.rows k).ver + 1, c⟩ j).c
        rw [upd_other _ _ e]
        exact rowRel_mono hk (.inr ⟨rfl, rfl, rfl, rfl, rfl, rfl, Nat.le_refl _, fun _ _ => rfl⟩) (upd_other _ _ e) (upd_other _ _ e) (fun b hβ => rfl) _ (fun km n l cur hcc hn b hβ => rfl) (h.rw j)
    bl := fun j b hβ => by
      by_cases e : j = k
      · subst e
        simp only [upd_same] at hβ
        obtain ⟨h1, h2, h3, _⟩ := hβ1 b hβ
        exact ⟨h1, h2, h3.imp id .inr⟩
      · simp only [upd_other _ _ e] at hβ
        exact h.bl j b hβ
    ij := fun j j' b hj hj' => by
      by_cases e : j = k <;> by_cases e' : j' = k
      · rw [e, e']
      · subst e
        simp only [upd_same, upd_other _ _ e'] at hj hj'
        exact absurd hj' ((hβ1 b hj).2.2.2 j')
      · subst e'
        simp only [upd_same, upd_other _ _ e] at hj hj'
        exact absurd hj ((hβ1 b hj').2.2.2 j)
      · simp only [upd_other _ _ e, upd_other _ _ e'] at hj hj'
        exact h.ij j j' b hj hj'
    cap := fun j => by
      show upd p.γ k g j ≤ maxLen
      unfold upd; split
      · exact hg
      · exact h.cap j
    pn := fun j x hx => by
      obtain ⟨h1, h2, h3, h4⟩ := h.pn j x hx
      have e : j ≠ k := by omega
      exact ⟨(upd_other _ _ e).trans h1, (upd_other _ _ e).trans h2, by show (upd s.rows k ⟨(s.rows k).ver + 1, c⟩ j).ver = 0; rw [upd_other _ _ e]; exact h3, h4⟩
    lk := fun j km n l cur hj hn => lk_upd h k c hmi j km n l cur hj hn }
end
/-- The slice in slot t, and its row, under the number k'. -/
theorem sub_moveRow (s : AS) (t k k' v sz off m ty sz' : Nat) (es : List (List RV)) (hk0 : k < 1000) (hk1 : k' < 1000) (hne : k' ≠ k) (ht : s.tm t = .os k v sz off m) (hv : v = s.ver k) (hc : (s.rows k).c = .arr ty sz' es) (hd : (s.rows k').c = .dead) :
    Sub s { s with tm := upd s.tm t (.os k' ((s.rows k').ver + 1) sz off m), rows := upd (upd s.rows k ⟨(s.rows k).ver + 1, .dead⟩) k' ⟨(s.rows k').ver + 1, .arr ty sz' es⟩ } := fun C a w ⟨p, hp⟩ => by
  have h1 := hp.reRow (w' := w) k hk0 .dead rfl none 1 (by simp [maxLen]) rfl rfl rfl (Nat.le_refl _) (fun _ _ _ => rfl) (fun _ h => by cases h) (fun p' ver' _ hβ hγ _ => by simp only [rowRel]; exact ⟨hβ, hγ⟩)
  have hval := hp.tm t
  rw [ht] at hval
  have hrow := hp.rw k
  rw [hc] at hrow
  have hno : ∀ b, p.β k = some b → ∀ j, upd p.β k none j ≠ some b := fun b hb j hj => by
    by_cases e : j = k
    · subst e; rw [upd_same] at hj; cases hj
    · rw [upd_other _ _ e] at hj; exact e (hp.ij j k b hj hb)
  have h2 := h1.adoptBlock k' hk1 (.arr ty sz' es) rfl (p.β k) (p.γ k) (hp.cap k) (fun b hb => by
    obtain ⟨g1, g2, g3⟩ := hp.bl k b hb
    exact ⟨g1, g2, g3.imp id fun h => h.resolve_left (fun h => by omega), hno b hb⟩) (hp.ex.mono rfl rfl rfl (Nat.le_refl _) (fun j b hj => by
    have hj' : upd (upd p.β k none) k' (p.β k) j = some b := hj
    by_cases e : j = k'
    · subst e; rw [upd_same] at hj'; exact .inl ⟨k, hj'⟩
    · rw [upd_other _ _ e] at hj'
      by_cases e2 : j = k
      · subst e2; rw [upd_same] at hj'; cases hj'
      · rw [upd_other _ _ e2] at hj'; exact .inl ⟨j, hj'⟩) (fun b hr => .inl hr) fun _ _ _ => rfl) (fun p' ver' hR hβ hγ _ => by
    simp only [rowRel] at hrow ⊢
    rw [hβ, hγ, hR]
    exact hrow)
  have e1 : (upd s.rows k ⟨(s.rows k).ver + 1, .dead⟩ k').ver = (s.rows k').ver := by rw [upd_other _ _ hne]
  rw [e1] at h2
  refine ⟨_, { h2 with tm := fun j => ?_ }⟩
  show AV.rel w _ _ (upd s.tm t _ j) _
  by_cases hj : j = t
  · subst hj
    rw [upd_same]
    simp only [AV.rel] at hval ⊢
    obtain ⟨_, hval⟩ := hval
    have hval := hval hv
    refine ⟨?_, fun _ => ?_⟩
    · show (s.rows k').ver + 1 ≤ (upd (upd s.rows k _) k' _ k').ver
      rw [upd_same]; exact Nat.le_refl _
    simp only [upd_same]
    exact hval
  · rw [upd_other _ _ hj]
    exact h2.tm j
section
variable {n : Nat} {l : List (Nat × AV)} {vs : Nat → Nat} {cs : List (Nat × RowC)}
theorem sub_move (t k k' : Nat) {sz off m ty sz' : Nat} {es : List (List RV)} (hk0 : k < 1000) (hk1 : k' < 1000) (hne : k' ≠ k) (ht : look l t = .os k (vs k) sz off m) (hc : lookc cs k = .arr ty sz' es) (hd : lookc cs k' = .dead) :
    Sub (st n l vs cs) (st n ((t, .os k' (vs k' + 1) sz off m) :: l) (upd (upd vs k (vs k + 1)) k' (vs k' + 1)) (insc (delc cs k) k' (.arr ty sz' es))) := by
  have := sub_moveRow (st n l vs cs) t k k' (vs k) sz off m ty sz' es hk0 hk1 hne ht rfl hc hd
  have e : ({ st n l vs cs with tm := upd (st n l vs cs).tm t (.os k' (((st n l vs cs).rows k').ver + 1) sz off m), rows := upd (upd (st n l vs cs).rows k ⟨((st n l vs cs).rows k).ver + 1, .dead⟩) k' ⟨((st n l vs cs).rows k').ver + 1, .arr ty sz' es⟩ } : AS)
      = st n ((t, .os k' (vs k' + 1) sz off m) :: l) (upd (upd vs k (vs k + 1)) k' (vs k' + 1)) (insc (delc cs k) k' (.arr ty sz' es)) := by
    simp only [st, AS.mk.injEq, true_and]
    refine ⟨?_, ?_⟩
    · funext j
      show upd (look l) t _ j = _
      rw [look_cons]; unfold upd; rfl
    · funext j
      show upd (upd (fun k => (⟨vs k, lookc cs k⟩ : Row)) k _) k' _ j = _
      rw [lookc_insc, lookc_delc]
      unfold upd
      by_cases e1 : j = k'
      · simp [e1]
      · by_cases e2 : j = k
        · simp [e2, Ne.symm hne]
        · simp [e1, e2]
  rw [← e]
  exact this
end
end Go.Oc

/- Ranges over functions: the contract of an iterator, out of its body; a round's frame; the rule for the statement. -/
namespace Go.Oc
open Go Go.RowKit
set_option linter.unusedSimpArgs false
set_option linter.unusedVariables false

/-- The iterator, with what it has caught, hands over xs, one after another, until a round says 'no more'. -/
def ICalls (P : Program) (z : Bool) (F : FuncId) (caps : List RV) (xs : List (List RV)) : Prop :=
  callable P F = true ∧ ∀ (w : World) (R : Nat → Prop) (vs : Array Value) (X : XS) (Ψ Θ : Nat → Prop), (∀ b, R b → b < w.heap.size) → RV.relV w R caps vs.toList → X.z = z → (z = false → ∀ b, R b → X.R b) → X.n0 ≤ w.heap.size → YOk P X →
    (∀ b, Ψ b → b < w.heap.size) → (∀ b, Θ b → b < w.heap.size) → (∀ b, R b → ¬ Θ b) → X.X (some xs) w Ψ Θ →
    Calls P F (#[.func (.yield X.l) #[] #[]] ++ vs) w fun e w' => (∃ v, e = .returned v) ∧ (∃ Ψ' Θ', X.X (some []) w' Ψ' Θ' ∨ X.X none w' Ψ' Θ')

def ipost (P : Program) : Exit → AS → Prop
  | .normal, s => ∃ l z, (s.rows 999).c = .gh P l z (some []) ∨ (s.rows 999).c = .gh P l z none
  | .ret, s => ∃ l z, (s.rows 999).c = .gh P l z (some []) ∨ (s.rows 999).c = .gh P l z none
  | _, _ => False
theorem ipost_normal {P : Program} {s : AS} : ipost P .normal s = ∃ l z, (s.rows 999).c = .gh P l z (some []) ∨ (s.rows 999).c = .gh P l z none := rfl
theorem ipost_ret {P : Program} {s : AS} : ipost P .ret s = ∃ l z, (s.rows 999).c = .gh P l z (some []) ∨ (s.rows 999).c = .gh P l z none := rfl

/-- **The contract of an iterator, out of its body.** -/
theorem icalls_st {P : Program} {z : Bool} {f : FuncId} {fn : Func} {c : Code} {n : Nat} {caps : List RV} {xs : List (List RV)} (hf : P.funcs[f]? = some fn) (hb : fn.body = some c) (hc : callable P f = true) (hn : fn.ntmps = n) (hres : fn.results.toList = [])
    (hargs : caps.length + 1 ≤ n) (h : ∀ C l, awp P C c (ipost P) (st n (argL 0 (.yl l :: caps)) (fun _ => 0) [(999, .gh P l z (some xs))])) : ICalls P z f caps xs := by
  refine ⟨hc, fun w R vs0 X Ψ Θ hR hV0 hz hzR hn0 hY hΨ hΘ hRΘ hX => ?_⟩
  have hV : RV.relV w R (.yl X.l :: caps) (#[Value.func (.yield X.l) #[] #[]] ++ vs0).toList := by
    simp only [RV.relV]
    exact ⟨Value.func (.yield X.l) #[] #[], vs0.toList, by simp, by simp only [RV.rel], hV0⟩
  generalize #[Value.func (.yield X.l) #[] #[]] ++ vs0 = vs at hV
  have hlen := RV.relV_length hV
  simp only [Array.length_toList, List.length_cons] at hlen
  let C : Ctx := { w0 := w, R0 := R, bor := Θ, pin := fun _ => none, X := X }
  let p : Plan := { R := R, β := fun _ => none, γ := fun _ => 1, X := X, Ψ := Ψ, Θ := Θ }
  have hs : SR C p (st n (argL 0 (.yl X.l :: caps)) (fun _ => 0) [(999, .gh P X.l z (some xs))]) { tmps := vs ++ Array.replicate (fn.ntmps - vs.size) undef, defers := [] } w := {
    base := ⟨rfl, rfl, rfl, Nat.le_refl _, fun _ _ _ _ => rfl⟩
    r0 := fun _ h => h
    rn := fun _ h => .inl h
    rb := hR
    tm := fun t => by
      show (look (argL 0 (.yl X.l :: caps)) t).rel _ _ _ _
      by_cases hmem : ∃ x, (t, x) ∈ argL 0 (RV.yl X.l :: caps)
      · cases e : (RV.yl X.l :: caps)[t]? with
        | none =>
          obtain ⟨x, hx⟩ := hmem
          obtain ⟨i, y, h1, h2⟩ := argL_mem _ hx
          simp only [Nat.zero_add, Prod.mk.injEq] at h1
          rw [← h1.1, e] at h2; cases h2
        | some x =>
          obtain ⟨u, hu, hx⟩ := RV.relV_get hV e
          have : (vs ++ Array.replicate (fn.ntmps - vs.size) undef).getD t undef = u := by
            have ht : t < vs.size := by have := (List.getElem?_eq_some_iff.1 hu).1; simpa using this
            rw [Array.getD_eq_getD_getElem?, Array.getElem?_append_left ht]
            simp only [Array.getElem?_toList] at hu
            rw [hu]; rfl
          have e2 := argL_look (k := 0) e
          rw [Nat.zero_add] at e2
          rw [this, e2]
          simpa only [AV.rel] using hx
      · rw [look_none hmem]
        exact AV.rel_un _ _ _ _
    sz := by simp only [Array.size_append, Array.size_replicate, st]; omega
    ex := {
      px := rfl
      n0 := hn0
      ψ0 := fun hz' b hb => hzR (hz ▸ hz') b hb
      ψl := hΨ
      θl := hΘ
      ψb := fun k b h => by cases h
      ψr := hRΘ
      ψo := fun b h => h.elim
      θo := fun b h _ => h
      bo := fun b h => h.elim (hΘ b) (fun h => h.elim)
      ψn := fun hn => (hn _ _ _ _ hX).elim
      hd := fun b h => h.elim
      rm := fun _ => rfl
      df := ⟨[], rfl, List.nodup_nil, fun D hD => by cases hD⟩ }
    rw := fun k => by
      show rowRel w p _ k (lookc [(999, RowC.gh P X.l z (some xs))] k)
      rw [lookc_cons, lookc_nil]
      split
      · rename_i e
        simp only [rowRel]
        exact ⟨e, rfl, rfl, rfl, hz, hY, hX⟩
      · simp only [rowRel]; exact ⟨rfl, rfl⟩
    bl := fun k b h => by simp [p] at h
    ij := fun k k' b h => by simp [p] at h
    cap := fun k => by simp [p, maxLen]
    pn := fun k x h => by cases h
    lk := fun j km n l cur h _ => by
      have h' : lookc [(999, RowC.gh P X.l z (some xs))] j = .mi km n l cur := h
      rw [lookc_cons, lookc_nil] at h'
      split at h' <;> cases h' }
  refine callsIn_wide.1 (callsIn_of_wp_marks (n := 0) hf hb trivial (wpIn_mono (h C X.l _ w ⟨p, hs⟩) ?_))
  rintro e a' w' ⟨s', ⟨p', hs'⟩, hq⟩
  have fin : ∀ (a' : Act) (w' : World), SR C p' s' a' w' → (∃ l z, (s'.rows 999).c = .gh P l z (some []) ∨ (s'.rows 999).c = .gh P l z none) →
      ∃ v, (results fn a'.tmps).run P w' = .ok v w' ∧ ((∃ v', Ending.returned v = .returned v') ∧ ∃ Ψ' Θ', X.X (some []) w' Ψ' Θ' ∨ X.X none w' Ψ' Θ') := fun a' w' hs' ⟨l, z', hq⟩ => by
    have hm : (fn.results.mapM (resOp a'.tmps)).run P w' = .ok #[] w' := by
      rw [Array.mapM_eq_mapM_toList, hres]
      simp only [Sem.run_map, List.mapM_nil, Sem.run_pure, Result.andThen_ok]
    refine ⟨.tuple #[], by rw [results_eq, Sem.run_bind, hm]; simp, ⟨_, rfl⟩, p'.Ψ, p'.Θ, ?_⟩
    have hpx : p'.X = X := hs'.ex.px
    have hr := hs'.rw 999
    rcases hq with hq | hq
    · rw [hq] at hr
      simp only [rowRel] at hr
      rw [hpx] at hr
      exact .inl hr.2.2.2.2.2.2
    · rw [hq] at hr
      simp only [rowRel] at hr
      rw [hpx] at hr
      exact .inr hr.2.2.2.2.2.2
  cases e with
  | normal => exact hs'.leave fun a'' w'' _ hs'' => fin a'' w'' hs'' hq
  | ret => exact hs'.leave fun a'' w'' _ hs'' => fin a'' w'' hs'' hq
  | _ => exact hq.elim

/-! ### A round's frame -/
section
variable {P : Program} {C : Ctx} {p p1 p3 : Plan} {s s1 s3 : AS} {a a1 a3 : Act} {w w1 w2 w3 : World} {L : Nat} {R : Nat → Prop}
/-- The context of a round, or of a part of it. -/
def Cin (C : Ctx) (p : Plan) (R : Nat → Prop) (w : World) (rd : Option Nat) (Hd : Nat → Prop) : Ctx :=
  { w0 := w, R0 := fun b => p.R b ∨ R b, bor := fun b => C.bor b ∧ ∃ k, 1000 ≤ k ∧ p.β k = some b, pin := C.pin, own := fun b => ∃ k, p.β k = some b ∧ ¬ (1000 ≤ k ∧ C.bor b), X := C.X, rd := rd, hd := Hd }
theorem own_of {k b : Nat} (h : p.β k = some b) : (1000 ≤ k ∧ (C.bor b ∧ ∃ k, 1000 ≤ k ∧ p.β k = some b)) ∨ ∃ k, p.β k = some b ∧ ¬ (1000 ≤ k ∧ C.bor b) := by
  by_cases e : 1000 ≤ k ∧ C.bor b
  · exact .inl ⟨e.1, e.2, k, e.1, h⟩
  · exact .inr ⟨k, h, e⟩
theorem SR.into (h : SR C p s a w) (hn : ∀ o w Ψ Θ, ¬ C.X.X o w Ψ Θ) (hos : w2.os = w.os) (htape : w2.tape = w.tape) (hout : w2.output = w.output) (hsize : w2.heap.size = w.heap.size) (hoth : ∀ b, b ≠ L → w2.heap[b]? = w.heap[b]?)
    (hLR : ¬ p.R L) (hLβ : ∀ k, p.β k ≠ some L) (hR : ∀ b, R b → b < w.heap.size ∧ ∀ k, p.β k ≠ some b) {a' : Act} {tm' : Nat → AV} (htm : ∀ t, (tm' t).rel w2 { p with R := fun b => p.R b ∨ R b } s.ver (a'.tmps.getD t undef))
    (hsz : a'.tmps.size = s.n) (hdf : a'.defers = []) {rd : Option Nat} {Hd : Nat → Prop} (hHd : ∀ b, Hd b → b < w.heap.size ∧ ¬ C.bor b ∧ ¬ p.R b ∧ ¬ R b ∧ ∀ k, p.β k ≠ some b) (hC : C.X = XS.none) :
    SR (Cin C p R w2 rd Hd) { p with R := fun b => p.R b ∨ R b } { s with tm := tm' } a' w2 := by
  have hk : Kept w w2 p { p with R := fun b => p.R b ∨ R b } s.ver s.ver :=
    ⟨fun _ h => .inl h, fun ad hr => World.cell?_of_block (hoth _ fun e => hLR (e ▸ hr)), fun _ => Nat.le_refl _, fun _ _ => ⟨rfl, rfl⟩⟩
  have hψ := h.ex.ψn hn
  exact {
    base := ⟨rfl, rfl, rfl, Nat.le_refl _, fun _ _ _ _ => rfl⟩
    r0 := fun _ h => h
    rn := fun _ h => .inl h
    rb := fun b hb => by rw [hsize]; exact hb.elim (h.rb b) (fun hb => (hR b hb).1)
    tm := htm
    sz := hsz
    ex := {
      px := h.ex.px
      n0 := by show C.X.n0 ≤ _; rw [hC]; exact Nat.zero_le _
      ψ0 := fun hz => by have : C.X.z = false := hz; rw [hC] at this; cases this
      ψl := fun b hb => ((hψ b).1 hb).elim
      θl := fun b hb => ((hψ b).2 hb).elim
      ψb := fun k b _ => hψ b
      ψr := fun b _ => (hψ b).2
      ψo := fun b _ => by show C.X.n0 ≤ _; rw [hC]; exact Nat.zero_le _
      θo := fun b hb => ((hψ b).2 hb).elim
      bo := fun b hb => by
        show b < w2.heap.size
        rw [hsize]
        rcases hb with ⟨_, k, _, hk⟩ | ⟨k, hk, _⟩
        · exact (h.bl k b hk).1
        · exact (h.bl k b hk).1
      ψn := fun _ b => hψ b
      hd := fun b hb => by
        obtain ⟨g1, g2, g3, g4, g5⟩ := hHd b hb
        exact ⟨by show b < w2.heap.size; rw [hsize]; exact g1, fun ⟨g, _⟩ => g2 g, fun ⟨k, g, _⟩ => g5 k g, by rw [hsize]; exact g1, fun g => g.elim g3 g4, (hψ b).1, (hψ b).2, g5⟩
      rm := fun _ => hdf
      df := ⟨[], hdf, List.nodup_nil, fun D hD => by cases hD⟩ }
    rw := fun k => by
      by_cases e : k = 999
      · have hr := h.rw k
        show rowRel w2 _ s.ver k (s.rows k).c
        cases hc : (s.rows k).c with
        | gh P' l z left =>
          rw [hc] at hr
          simp only [rowRel] at hr
          exact (hn _ _ _ _ (h.ex.px ▸ hr.2.2.2.2.2.2)).elim
        | _ =>
          refine rowRel_mono hk (.inr ⟨rfl, rfl, rfl, hos, htape, hout, Nat.le_of_eq hsize.symm, fun b hb => ((hψ b).1 hb).elim⟩) rfl rfl (fun b hb => hoth b fun e => hLβ k (e ▸ hb)) _ (fun km _ _ _ _ _ b hb => hoth b fun e => hLβ km (e ▸ hb)) (by rw [hc] at hr; exact hr)
      · exact rowRel_mono hk (.inl e) rfl rfl (fun b hb => hoth b fun e => hLβ k (e ▸ hb)) _ (fun km _ _ _ _ _ b hb => hoth b fun e => hLβ km (e ▸ hb)) (h.rw k)
    bl := fun k b hb => ⟨by rw [hsize]; exact (h.bl k b hb).1, fun hr => hr.elim (h.bl k b hb).2.1 (fun hr => (hR b hr).2 k hb), .inr (own_of hb)⟩
    ij := h.ij
    cap := h.cap
    pn := h.pn
    lk := h.lk }

/-- What a round, or a part of it, has done. -/
structure Hop (C : Ctx) (p : Plan) (w : World) (L : Nat) (R : Nat → Prop) (p3 : Plan) (w3 : World) : Prop where
  os : w3.os = w.os
  tape : w3.tape = w.tape
  output : w3.output = w.output
  size : w.heap.size ≤ w3.heap.size
  heap : ∀ b, b < w.heap.size → (∀ k, p.β k ≠ some b) → b ≠ L → w3.heap[b]? = w.heap[b]?
  r : ∀ b, p.R b → p3.R b
  rn : ∀ b, p3.R b → p.R b ∨ R b ∨ w.heap.size ≤ b ∨ ∃ k, p.β k = some b ∧ ¬ (1000 ≤ k ∧ C.bor b)
  bl : ∀ k b, p3.β k = some b → w.heap.size ≤ b ∨ (1000 ≤ k ∧ C.bor b ∧ ∃ k, 1000 ≤ k ∧ p.β k = some b) ∨ ∃ k, p.β k = some b ∧ ¬ (1000 ≤ k ∧ C.bor b)
theorem Hop.of (hos : w2.os = w.os) (htape : w2.tape = w.tape) (hout : w2.output = w.output) (hsize : w2.heap.size = w.heap.size) (hoth : ∀ b, b ≠ L → w2.heap[b]? = w.heap[b]?) {rd : Option Nat} {Hd : Nat → Prop}
    (h : SR (Cin C p R w2 rd Hd) p3 s3 a3 w3) : Hop C p w L R p3 w3 where
  os := h.base.os.trans hos
  tape := h.base.tape.trans htape
  output := h.base.output.trans hout
  size := hsize ▸ h.base.size
  heap := fun b hb hn hl => (h.base.block b (by show b < w2.heap.size; rw [hsize]; exact hb) (fun ⟨_, k, _, hk⟩ => hn k hk) (fun ⟨k, hk, _⟩ => hn k hk)).trans (hoth b hl)
  r := fun b hb => h.r0 b (.inl hb)
  rn := fun b hb => by
    rcases h.rn b hb with g | g | g
    · exact g.elim .inl (fun g => .inr (.inl g))
    · exact .inr (.inr (.inl (by rw [← hsize]; exact g)))
    · exact .inr (.inr (.inr g))
  bl := fun k b hb => by
    rcases (h.bl k b hb).2.2 with g | ⟨g1, g2, k', g3, g4⟩ | g
    · exact .inl (by rw [← hsize]; exact g)
    · exact .inr (.inl ⟨g1, g2, k', g3, g4⟩)
    · exact .inr (.inr g)
theorem Hop.trans (h : Hop C p w L R p1 w1) {C' : Ctx} (hCb : ∀ b, C'.bor b ↔ C.bor b ∧ ∃ k, 1000 ≤ k ∧ p.β k = some b) (h' : Hop C' p1 w1 L (fun _ => False) p3 w3) : Hop C p w L R p3 w3 where
  os := h'.os.trans h.os
  tape := h'.tape.trans h.tape
  output := h'.output.trans h.output
  size := Nat.le_trans h.size h'.size
  heap := fun b hb hn hl => by
    refine (h'.heap b (Nat.lt_of_lt_of_le hb h.size) (fun k hk => ?_) hl).trans (h.heap b hb hn hl)
    rcases h.bl k b hk with g | ⟨_, _, k', _, g⟩ | ⟨k', g, _⟩
    · omega
    · exact hn k' g
    · exact hn k' g
  r := fun b hb => h'.r b (h.r b hb)
  rn := fun b hb => by
    rcases h'.rn b hb with g | g | g | ⟨k, g, g'⟩
    · exact h.rn b g
    · exact g.elim
    · exact .inr (.inr (.inl (Nat.le_trans h.size g)))
    · rcases h.bl k b g with g1 | ⟨g1, g2, g3⟩ | g1
      · exact .inr (.inr (.inl g1))
      · exact (g' ⟨g1, (hCb b).2 ⟨g2, g3⟩⟩).elim
      · exact .inr (.inr (.inr g1))
  bl := fun k b hb => by
    rcases h'.bl k b hb with g | ⟨g1, g2, _⟩ | ⟨k', g1, g2⟩
    · exact .inl (Nat.le_trans h.size g)
    · exact .inr (.inl ⟨g1, ((hCb b).1 g2).1, ((hCb b).1 g2).2⟩)
    · rcases h.bl k' b g1 with q | ⟨q1, q2, q3⟩ | q
      · exact .inl q
      · exact (g2 ⟨q1, (hCb b).2 ⟨q2, q3⟩⟩).elim
      · exact .inr (.inr q)
theorem Hop.put (h : Hop C p w L R p3 w3) {o : Obj} : Hop C p w L R p3 (w3.putObj L o) where
  os := h.os
  tape := h.tape
  output := h.output
  size := by rw [World.putObj_size]; exact h.size
  heap := fun b hb hn hl => (World.putObj_heap_other hl).trans (h.heap b hb hn hl)
  r := h.r
  rn := h.rn
  bl := h.bl

/-- A round is over: the frame that waits reads the world as it is now. -/
theorem SR.land (h0 : SR C p s a w) (hn : ∀ o w Ψ Θ, ¬ C.X.X o w Ψ Θ) (hL0 : C.w0.heap.size ≤ L) (hLm : ∀ d ∈ a.defers, d.target ≠ .collected L) (hop : Hop C p w L R p3 w3)
    (hR : ∀ b, R b → b < w.heap.size ∧ (∀ d ∈ a.defers, d.target ≠ .collected b) ∧ ¬ C.hd b ∧ (C.R0 b ∨ C.w0.heap.size ≤ b ∨ C.own b)) {C' : Ctx} (hpin : C'.pin = C.pin) (hX : C'.X = C.X) (h3 : SR C' p3 s3 a3 w2) (hLR : ¬ p3.R L) (hLβ : ∀ k, p3.β k ≠ some L)
    (hos : w3.os = w2.os) (htape : w3.tape = w2.tape) (hout : w3.output = w2.output) (hsize : w3.heap.size = w2.heap.size) (hoth : ∀ b, b ≠ L → w3.heap[b]? = w2.heap[b]?) :
    SR C p3 { n := s.n, tm := fun _ => .r .un, rows := s3.rows } a w3 := by
  have hψ := h3.ex.ψn (by rw [hX]; exact hn)
  have hk : Kept w2 w3 p3 p3 s3.ver s3.ver := ⟨fun _ h => h, fun ad hr => World.cell?_of_block (hoth _ fun e => hLR (e ▸ hr)), fun _ => Nat.le_refl _, fun _ _ => ⟨rfl, rfl⟩⟩
  have hx : KX w2 w3 p3 p3 := ⟨rfl, rfl, rfl, hos, htape, hout, Nat.le_of_eq hsize.symm, fun b hb => ((hψ b).1 hb).elim⟩
  have hβC : ∀ k b, p3.β k = some b → C.w0.heap.size ≤ b ∨ (1000 ≤ k ∧ C.bor b) ∨ C.own b := fun k b hb => by
    rcases hop.bl k b hb with g | ⟨g1, g2, _⟩ | ⟨k', g1, g2⟩
    · exact .inl (Nat.le_trans h0.base.size g)
    · exact .inr (.inl ⟨g1, g2⟩)
    · rcases (h0.bl k' b g1).2.2 with q | q | q
      · exact .inl q
      · exact (g2 q).elim
      · exact .inr (.inr q)
  -- blocks that are no row's, and known before, stay out
  have hout' : ∀ b, b < w.heap.size → (∀ k, p.β k ≠ some b) → (∀ k, p3.β k = some b → 1000 ≤ k ∧ C.bor b ∧ ∃ k, 1000 ≤ k ∧ p.β k = some b) := fun b hb hn k hk => by
    rcases hop.bl k b hk with g | g | ⟨k', g1, _⟩
    · omega
    · exact g
    · exact (hn k' g1).elim
  exact {
    base := ⟨hop.os.trans h0.base.os, hop.tape.trans h0.base.tape, hop.output.trans h0.base.output, Nat.le_trans h0.base.size hop.size, fun b hb hbor hown => by
      refine (hop.heap b (Nat.lt_of_lt_of_le hb h0.base.size) (fun k hk => ?_) (fun e => by omega)).trans (h0.base.block b hb hbor hown)
      rcases (h0.bl k b hk).2.2 with g | g | g
      · omega
      · exact hbor g.2
      · exact hown g⟩
    r0 := fun b hb => hop.r b (h0.r0 b hb)
    rn := fun b hb => by
      rcases hop.rn b hb with g | g | g | ⟨k, g1, g2⟩
      · exact h0.rn b g
      · exact (hR b g).2.2.2
      · exact .inr (.inl (Nat.le_trans h0.base.size g))
      · rcases (h0.bl k b g1).2.2 with q | q | q
        · exact .inr (.inl q)
        · exact (g2 q).elim
        · exact .inr (.inr q)
    rb := fun b hb => hsize ▸ h3.rb b hb
    tm := fun t => AV.rel_un _ _ _ _
    sz := h0.sz
    ex := {
      px := h3.ex.px.trans hX
      n0 := h0.ex.n0
      ψ0 := h0.ex.ψ0
      ψl := fun b hb => ((hψ b).1 hb).elim
      θl := fun b hb => ((hψ b).2 hb).elim
      ψb := fun k b _ => hψ b
      ψr := fun b _ => (hψ b).2
      ψo := h0.ex.ψo
      θo := fun b hb => ((hψ b).2 hb).elim
      bo := h0.ex.bo
      ψn := fun _ b => hψ b
      hd := fun b hb => by
        obtain ⟨k1, k2, k3, k4, k5, k6, k7, k8⟩ := h0.ex.hd b hb
        refine ⟨k1, k2, k3, Nat.lt_of_lt_of_le k4 hop.size, fun g => ?_, (hψ b).1, (hψ b).2, fun k hk => ?_⟩
        · rcases hop.rn b g with g | g | g | ⟨k, g, _⟩
          · exact k5 g
          · exact (hR b g).2.2.1 hb
          · omega
          · exact k8 k g
        · exact k2 (hout' b k4 k8 k hk).2.1
      rm := h0.ex.rm
      df := by
        obtain ⟨Ds, g1, g2, g3⟩ := h0.ex.df
        refine ⟨Ds, g1, g2, fun D hD => ?_⟩
        have hmem : ({ target := .collected D, args := #[] } : Deferred) ∈ a.defers := by rw [g1]; exact List.mem_map.2 ⟨D, hD, rfl⟩
        obtain ⟨k1, k2, k3, k4, k5, k6⟩ := g3 D hD
        have hlt : D < w.heap.size := (Array.getElem?_eq_some_iff.1 k1).1
        refine ⟨(hop.heap D hlt k4 fun e => hLm _ hmem (by rw [e])).trans k1, k2, fun g => ?_, fun k hk => ?_, (hψ D).1, (hψ D).2⟩
        · rcases hop.rn D g with g | g | g | ⟨k, g, _⟩
          · exact k3 g
          · exact (hR D g).2.1 _ hmem rfl
          · omega
          · exact k4 k g
        · have := h0.ex.bo D (.inl (hout' D hlt k4 k hk).2.1); omega }
    rw := fun k => by
      show rowRel w3 p3 s3.ver k (s3.rows k).c
      exact rowRel_mono hk (.inr hx) rfl rfl (fun b hb => hoth b fun e => hLβ k (e ▸ hb)) _ (fun km _ _ _ _ _ b hb => hoth b fun e => hLβ km (e ▸ hb)) (h3.rw k)
    bl := fun k b hb => ⟨by rw [hsize]; exact (h3.bl k b hb).1, (h3.bl k b hb).2.1, hβC k b hb⟩
    ij := h3.ij
    cap := h3.cap
    pn := fun k x hx => h3.pn k x (by rw [hpin]; exact hx)
    lk := h3.lk }
end
end Go.Oc

/- Ranges over functions: the rule for the statement. -/
namespace Go.Oc
open Go Go.RowKit
set_option linter.unusedSimpArgs false
set_option linter.unusedVariables false

section
variable {P : Program} {C : Ctx} {p : Plan} {s : AS} {a : Act} {w : World}
/-- A loop begins: its two blocks are laid, the mark is left. -/
theorem SR.enter (h : SR C p s a w) (hrd : C.rd = none) (o1 : Loop) :
    SR C p s { tmps := a.tmps, defers := { target := .collected w.heap.size, args := #[] } :: a.defers } ((w.alloc (.deferred (some []))).alloc (.loop o1)) := by
  have h1 : SR C p s a ((w.alloc (.deferred (some []))).alloc (.loop o1)) :=
    h.below (R' := p.R) (((Below.refl _ w).alloc (Nat.le_refl _) _).alloc (by simp) _) (fun _ h => h) (fun _ h => .inl h) (fun b hb => by have := h.rb b hb; simp; omega)
  have hnew : ((w.alloc (.deferred (some []))).alloc (.loop o1)).heap[w.heap.size]? = some (.deferred (some [])) := (Below.heap_alloc _ _ _ (by simp)).trans (World.alloc_heap_new w _)
  refine h1.other rfl rfl rfl rfl (Nat.le_refl _) (fun _ _ _ => rfl) { h1.ex with rm := fun hr => absurd hr (by rw [hrd]; simp), df := ?_ }
  obtain ⟨Ds, g1, g2, g3⟩ := h.ex.df
  obtain ⟨Ds', g1', _, g3'⟩ := h1.ex.df
  have he : Ds' = Ds := marks_inj (g1'.symm.trans g1)
  subst he
  refine ⟨w.heap.size :: Ds', by rw [g1]; rfl, List.nodup_cons.2 ⟨fun hD => ?_, g2⟩, fun D hD => ?_⟩
  · have := (Array.getElem?_eq_some_iff.1 (g3 _ hD).1).1; omega
  · rcases List.mem_cons.1 hD with rfl | hD
    · exact ⟨hnew, h.base.size, fun hr => by have := h.rb _ hr; omega, fun k hk => by have := (h.bl k _ hk).1; omega, fun hr => by have := h.ex.ψl _ hr; omega, fun hr => by have := h.ex.θl _ hr; omega⟩
    · exact g3' D hD
/-- What some slots hold is written down in a row without a block. -/
theorem SR.wait (h : SR C p s a w) (hdead : (s.rows 0).c = .dead) (ts : List Nat) :
    SR C p { n := s.n, tm := fun _ => .r .un, rows := upd s.rows 0 ⟨(s.rows 0).ver, .sus (ts.map s.tm) (ts.map fun t => a.tmps.getD t undef)⟩ } a w := by
  have hv : AS.ver { n := s.n, tm := fun _ => .r .un, rows := upd s.rows 0 ⟨(s.rows 0).ver, .sus (ts.map s.tm) (ts.map fun t => a.tmps.getD t undef)⟩ } = s.ver := by
    funext j
    show (upd s.rows 0 _ j).ver = (s.rows j).ver
    unfold upd; split
    · rename_i e; subst e; rfl
    · rfl
  exact {
    base := h.base
    r0 := h.r0
    rn := h.rn
    rb := h.rb
    tm := fun t => AV.rel_un _ _ _ _
    sz := h.sz
    ex := h.ex
    rw := fun k => by
      rw [hv]
      show rowRel w p s.ver k (upd s.rows 0 _ k).c
      by_cases e : k = 0
      · subst e
        rw [upd_same]
        have hr := h.rw 0
        rw [hdead] at hr
        simp only [rowRel] at hr ⊢
        refine ⟨hr.1, hr.2, ?_⟩
        clear hv hr
        induction ts with
        | nil => simp [AV.relV]
        | cons t ts ih => simp only [List.map_cons, AV.relV]; exact ⟨_, _, rfl, h.tm t, ih⟩
      · rw [upd_other _ _ e]; exact h.rw k
    bl := h.bl
    ij := h.ij
    cap := h.cap
    pn := fun k x hx => by rw [hv]; exact h.pn k x hx
    lk := fun j km n l cur hj hn => by
      rw [hv] at hn
      show (upd s.rows 0 _ km).c.isMpi = true
      have hj' : (upd s.rows 0 ⟨(s.rows 0).ver, .sus (ts.map s.tm) (ts.map fun t => a.tmps.getD t undef)⟩ j).c = .mi km n l cur := hj
      by_cases e : j = 0
      · subst e; rw [upd_same] at hj'; cases hj'
      · rw [upd_other _ _ e] at hj'
        have h5 := h.lk j km n l cur hj' hn
        have e2 : km ≠ 0 := fun e2 => by rw [e2, hdead] at h5; cases h5
        rw [upd_other _ _ e2]; exact h5 }
/-- A round's slots: yield's arguments over what was written down. -/
def psA : List Nat → List RV → (Nat → AV) → Nat → AV
  | t :: ts, x :: xs, tm => psA ts xs (upd tm t (.r x))
  | _, _, tm => tm
theorem look_zip {ver : Nat → Nat} {f : Nat → Value} : ∀ {ts : List Nat} {avs : List AV}, AV.relV w p ver avs (ts.map f) → ∀ t, (look (ts.zip avs) t).rel w p ver (f t)
  | [], _, _, t => by simp only [List.zip_nil_left]; exact AV.rel_un _ _ _ _
  | _ :: _, [], _, t => by simp only [List.zip_nil_right]; exact AV.rel_un _ _ _ _
  | t0 :: ts, x :: avs, h, t => by
    simp only [List.map_cons, AV.relV] at h
    obtain ⟨u, us, he, h1, h2⟩ := h
    injection he with e1 e2
    subst e1 e2
    simp only [List.zip_cons_cons]
    show ((if t = t0 then x else look (ts.zip avs) t)).rel w p ver (f t)
    split
    · rename_i e; subst e; exact h1
    · exact look_zip h2 t
theorem psA_rel {ver : Nat → Nat} : ∀ (ts : List Nat) (es : List RV) (vs : List Value) (tm : Nat → AV) (tmps : Array Value), RV.relV w p.R es vs → (∀ t ∈ ts, t < tmps.size) → (∀ t, (tm t).rel w p ver (tmps.getD t undef)) →
    ((ts.zip vs).foldl (fun tmps (x : Nat × Value) => tmps.setIfInBounds x.1 x.2) tmps).size = tmps.size ∧ ∀ t, (psA ts es tm t).rel w p ver (((ts.zip vs).foldl (fun tmps (x : Nat × Value) => tmps.setIfInBounds x.1 x.2) tmps).getD t undef)
  | [], _, _, tm, tmps, _, _, h => ⟨rfl, h⟩
  | t0 :: ts, [], vs, tm, tmps, hV, _, h => by
    simp only [RV.relV] at hV
    subst hV
    exact ⟨rfl, h⟩
  | t0 :: ts, x :: es, vs, tm, tmps, hV, hlt, h => by
    simp only [RV.relV] at hV
    obtain ⟨u, us, rfl, h1, h2⟩ := hV
    simp only [List.zip_cons_cons, List.foldl_cons]
    have h3 := psA_rel (ver := ver) ts es us (upd tm t0 (.r x)) (tmps.setIfInBounds t0 u) h2 (fun t ht => by simpa using hlt t (by simp [ht])) (fun t => by
      by_cases e : t = t0
      · subst e
        rw [upd_same]
        have : t < tmps.size := hlt t (by simp)
        have e2 : (tmps.setIfInBounds t u).getD t undef = u := by simp [Array.getD, this]
        rw [e2]
        simpa only [AV.rel] using h1
      · rw [upd_other _ _ e]
        have e2 : (tmps.setIfInBounds t0 u).getD t undef = tmps.getD t undef := by simp only [Array.getD_eq_getD_getElem?, Array.getElem?_setIfInBounds_ne (Ne.symm e)]
        rw [e2]; exact h t)
    exact ⟨h3.1.trans (by simp), h3.2⟩

theorem look_nil' : look [] = fun _ => AV.r .un := funext fun _ => rfl
/-- How a round may end. -/
def rpost (n : Nat) (I : List (List RV) → List Value → AS → Prop) (J : Code → List Value → AS → Prop) (rest : List (List RV)) (us : List Value) : Exit → AS → Prop
  | .normal, s => ∃ s4, Sub s s4 ∧ I rest us ⟨n, look [], s4.rows⟩
  | .ret, s => ∃ s4, Sub s s4 ∧ J .ret us ⟨n, look [], s4.rows⟩
  | .exit id, s => ∃ s4, Sub s s4 ∧ J (.exit id) us ⟨n, look [], s4.rows⟩
  | .goto l, s => ∃ s4, Sub s s4 ∧ J (.goto l) us ⟨n, look [], s4.rows⟩
  | _, _ => False
/-- What the caller of an iterator knows between two rounds. -/
def XJ (C : Ctx) (aL : Act) (L : Nat) (rec : LoopState → Option Code → Loop) (I : List (List RV) → AS → Prop) (J : Code → AS → Prop) (o : Option (List (List RV))) (w : World) (Ψ Θ : Nat → Prop) : Prop :=
  ∃ p s, SR C p s aL w ∧ s.n = aL.tmps.size ∧ (match o with
    | some left => I left s ∧ w.heap[L]? = some (.loop (rec .ready none))
    | none => ∃ c, J c s ∧ w.heap[L]? = some (.loop (rec .done (some c)))) ∧ ¬ p.R L ∧ (∀ k, p.β k ≠ some L) ∧
    (∀ b, Ψ b ↔ p.R b ∨ (∃ k, p.β k = some b) ∨ (b < C.w0.heap.size ∧ ¬ C.bor b ∧ ¬ C.own b) ∨ b = L ∨ C.hd b ∨ ∃ d ∈ aL.defers, d.target = .collected b) ∧ (∀ b, Θ b ↔ (∃ k, p.β k = some b) ∨ b = L)
theorem XJ.st (hn : ∀ o w Ψ Θ, ¬ C.X.X o w Ψ Θ) {aL : Act} {L : Nat} {rec : LoopState → Option Code → Loop} {I : List (List RV) → AS → Prop} {J : Code → AS → Prop} {o : Option (List (List RV))} {w w' : World} {Ψ Θ : Nat → Prop} (h : XJ C aL L rec I J o w Ψ Θ)
    (hos : w'.os = w.os) (htape : w'.tape = w.tape) (hout : w'.output = w.output) (hsize : w.heap.size ≤ w'.heap.size) (hh : ∀ b, Ψ b → w'.heap[b]? = w.heap[b]?) : XJ C aL L rec I J o w' Ψ Θ := by
  obtain ⟨p, s, hS, hsn, ho, hLR, hLβ, hΨ, hΘ⟩ := h
  have hψ := hS.ex.ψn hn
  refine ⟨p, s, hS.other rfl hos htape hout hsize (fun b hb hf => hh b ((hΨ b).2 ?_)) ?_, hsn, ?_, hLR, hLβ, hΨ, hΘ⟩
  · rcases hf with g | g | g | g
    · exact .inl g
    · exact .inr (.inl g)
    · exact .inr (.inr (.inl g))
    · exact ((hψ b).1 g).elim
  · obtain ⟨Ds, g1, g2, g3⟩ := hS.ex.df
    exact { hS.ex with
      ψl := fun b hb => ((hψ b).1 hb).elim
      θl := fun b hb => ((hψ b).2 hb).elim
      hd := fun b hb => by
        obtain ⟨k1, k2, k3, k4, k5⟩ := hS.ex.hd b hb
        exact ⟨k1, k2, k3, Nat.lt_of_lt_of_le k4 hsize, k5⟩
      df := ⟨Ds, g1, g2, fun D hD => by
        obtain ⟨k1, k2⟩ := g3 D hD
        refine ⟨(hh D ((hΨ D).2 (.inr (.inr (.inr (.inr (.inr ⟨{ target := .collected D, args := #[] }, ?_, rfl⟩))))))).trans k1, k2⟩
        rw [g1]; exact List.mem_map.2 ⟨D, hD, rfl⟩⟩ }
  · have hL := hh L ((hΨ L).2 (.inr (.inr (.inr (.inl rfl)))))
    cases o with
    | some left => exact ⟨ho.1, hL.trans ho.2⟩
    | none =>
      obtain ⟨c, h1, h2⟩ := ho
      exact ⟨c, h1, hL.trans h2⟩

theorem callee_eval (h : SR C p s a w) {f : Operand} {F : FuncId} {cs : List AV} (hF : callee? (s.ev f) = some (F, cs)) : ∃ vs : Array Value, a.eval f = .func (.func F) #[] vs ∧ AV.relV w p s.ver cs vs.toList := by
  have hx := h.ev f
  unfold callee? at hF
  split at hF
  · rename_i g cs' e
    injection hF with hF
    injection hF with h1 h2
    subst h1 h2
    rw [e] at hx
    simp only [AV.rel, RV.rel] at hx
    obtain ⟨vs, hv, hV⟩ := hx
    exact ⟨vs, hv, AV.relV_map_r hV⟩
  · rename_i g cs' e
    injection hF with hF
    injection hF with h1 h2
    subst h1 h2
    rw [e] at hx
    simp only [AV.rel] at hx
    exact hx
  · cases hF
/-- The frame that waits goes on: its slots are those that were written down. -/
theorem SR.awake (h : SR C p s a w) {avs : List AV} {ts : List Nat} (hrow : (s.rows 0).c = .sus avs (ts.map fun t => a.tmps.getD t undef)) : SR C p ⟨s.n, look (ts.zip avs), s.rows⟩ a w :=
  { h with
    tm := fun t => by
      have hr := h.rw 0
      rw [hrow] at hr
      simp only [rowRel] at hr
      exact look_zip (f := fun t => a.tmps.getD t undef) hr.2.2 t }
theorem putObj_other {w : World} {L : Nat} {o : Obj} : ∀ b, b ≠ L → (w.putObj L o).heap[b]? = w.heap[b]? := fun b hb => World.putObj_heap_other hb
/-- The record alone turns. -/
theorem SR.turn (h : SR C p s a w) {L : Nat} {o : Obj} (hLR : ¬ p.R L) (hLβ : ∀ k, p.β k ≠ some L) (hL0 : C.w0.heap.size ≤ L) (hψ : ∀ b, ¬ p.Ψ b ∧ ¬ p.Θ b) (hLm : ∀ d ∈ a.defers, d.target ≠ .collected L) : SR C p s a (w.putObj L o) := by
  refine h.other rfl rfl rfl rfl (Nat.le_of_eq World.putObj_size.symm) (fun b _ hb => putObj_other b fun e => ?_) ?_
  · subst e
    rcases hb with g | ⟨k, g⟩ | g | g
    · exact hLR g
    · exact hLβ k g
    · omega
    · exact (hψ b).1 g
  · obtain ⟨Ds, g1, g2, g3⟩ := h.ex.df
    exact { h.ex with
      ψl := fun b hb => ((hψ b).1 hb).elim
      θl := fun b hb => ((hψ b).2 hb).elim
      hd := fun b hb => by rw [World.putObj_size]; exact h.ex.hd b hb
      df := ⟨Ds, g1, g2, fun D hD => by
        obtain ⟨k1, k2⟩ := g3 D hD
        refine ⟨(putObj_other D fun e => hLm { target := .collected D, args := #[] } ?_ (by rw [e])).trans k1, k2⟩
        rw [g1]; exact List.mem_map.2 ⟨D, hD, rfl⟩⟩ }

set_option maxHeartbeats 400000 in
/-- **The statement 'for .. := range g { .. }'.** -/
theorem awp_rangeFunc {g : Operand} {ps : Array Tmp} {assign body : Code} {Q : Exit → AS → Prop} (hrd : C.rd = none) (hC : C.X = XS.none) {F : FuncId} {cs : List AV} {args : List RV} {xs : List (List RV)} {z : Bool}
    (hF : callee? (s.ev g) = some (F, cs)) (hpure : AV.pureL cs = true) (hle : RV.leL (snapVL s.rows cs) args) (hI : ICalls P z F args xs) (hdead : (s.rows 0).c = .dead) (ts : List Nat) (hps : ∀ t ∈ ps.toList, t < s.n)
    (I : List (List RV) → List Value → AS → Prop) (J : Code → List Value → AS → Prop)
    (h0 : ∀ us, I xs us { n := s.n, tm := look [], rows := upd s.rows 0 ⟨(s.rows 0).ver, .sus (ts.map s.tm) us⟩ })
    (round : ∀ e rest us s', s'.n = s.n → I (e :: rest) us s' → e.length = ps.size ∧ ∃ avs, (s'.rows 0).c = .sus avs us ∧ ∀ C, awp P C assign (fun x s2 => x = .normal ∧ ∀ C, awp P C body (rpost s.n I J rest us) s2) ⟨s.n, psA ps.toList e (look (ts.zip avs)), s'.rows⟩)
    (done : ∀ us s', s'.n = s.n → I [] us s' → ∃ avs, (s'.rows 0).c = .sus avs us ∧ Q .normal ⟨s.n, look (ts.zip avs), s'.rows⟩)
    (stop : ∀ c us s', s'.n = s.n → J c us s' → ∃ avs, (s'.rows 0).c = .sus avs us ∧ awp P C c Q ⟨s.n, look (ts.zip avs), s'.rows⟩) : awp P C (.rangeFunc g ps assign body) Q s := by
  rintro a w ⟨p, hS⟩
  have hn : ∀ o w Ψ Θ, ¬ C.X.X o w Ψ Θ := fun o w Ψ Θ h => by rw [hC] at h; exact h
  have hF0 : fnc C.rd = Fence.wide := by rw [hrd]; rfl
  rw [hF0]
  refine wpIn_rangeFunc fun fn _ => ?_
  obtain ⟨vsC, hgv, hcs⟩ := callee_eval hS hF
  have hψ0 := hS.ex.ψn hn
  obtain ⟨rec, hrec⟩ : ∃ rec : LoopState → Option Code → Loop, rec = fun st pe => { state := st, pending := pe, fn, tmps := a.tmps, params := ps, assign, body, defers := w.heap.size } := ⟨_, rfl⟩
  obtain ⟨w1, hw1⟩ : ∃ w1, (w.alloc (.deferred (some []))).alloc (.loop (rec .ready none)) = w1 := ⟨_, rfl⟩
  obtain ⟨L, hLdef⟩ : ∃ L, L = w.heap.size + 1 := ⟨_, rfl⟩
  obtain ⟨aL, haL⟩ : ∃ aL : Act, aL = { tmps := a.tmps, defers := { target := .collected w.heap.size, args := #[] } :: a.defers } := ⟨_, rfl⟩
  have hS1 : SR C p s aL w1 := by rw [haL, ← hw1]; exact hS.enter hrd _
  have hsz1 : w1.heap.size = w.heap.size + 2 := by rw [← hw1]; simp
  have hL1 : w1.heap[L]? = some (.loop (rec .ready none)) := by
    rw [← hw1, hLdef]; have := World.alloc_heap_new (w.alloc (.deferred (some []))) (.loop (rec .ready none)); rwa [World.size_alloc] at this
  have hLR : ¬ p.R L := fun h => by have := hS.rb L h; omega
  have hLβ : ∀ k, p.β k ≠ some L := fun k h => by have := (hS.bl k L h).1; omega
  have hL0 : C.w0.heap.size ≤ L := by have := hS.base.size; omega
  have hLm : ∀ d ∈ aL.defers, d.target ≠ .collected L := fun d hd e => by
    obtain ⟨Ds, g1, _, g3⟩ := hS1.ex.df
    rw [g1] at hd
    obtain ⟨D, hD, rfl⟩ := List.mem_map.1 hd
    injection e with e
    subst e
    have := (g3 _ hD).1
    rw [hL1] at this; cases this
  obtain ⟨us, hus⟩ : ∃ us, us = ts.map fun t => aL.tmps.getD t undef := ⟨_, rfl⟩
  have hS2 := hS1.wait hdead ts
  rw [← hus, ← look_nil'] at hS2
  have htmps : aL.tmps = a.tmps := by rw [haL]
  have hsn : s.n = aL.tmps.size := by rw [htmps]; exact hS.sz.symm
  let X : XS := { l := L, z := z, n0 := w1.heap.size, R := p.R, X := XJ C aL L rec (fun left s' => I left us s') (fun c s' => J c us s'), st := XJ.st hn }
  -- where a round has come to an end
  have hcap : RV.relV w1 p.R args vsC.toList := le_relV _ _ _ hle (pure_relV (rows := s.rows) _ _ hpure (by
    have hk : Kept w w1 p p s.ver s.ver := ⟨fun _ h => h, fun ad hr => World.cell?_of_block (by rw [← hw1]; exact (Below.heap_alloc _ _ _ (by have := hS.rb _ hr; simp; omega)).trans (Below.heap_alloc _ _ _ (hS.rb _ hr))), fun _ => Nat.le_refl _, fun _ _ => ⟨rfl, rfl⟩⟩
    exact AV.relV_mono hk _ _ hcs))
  have hY : YOk P X := by
    intro e rest wv Ψ Θ R vs hX hR hV
    obtain ⟨pv, sv, hSv, hsnv, ⟨hIv, hLv⟩, hLRv, hLβv, hΨv, hΘv⟩ := hX
    have hψv := hSv.ex.ψn hn
    obtain ⟨hlen, avs, hrow, hround⟩ := round e rest us sv (hsnv.trans hsn.symm) hIv
    have hvs : vs.size = ps.size := by have := RV.relV_length hV; simp only [Array.length_toList] at this; omega
    have hltv : L < wv.heap.size := (Array.getElem?_eq_some_iff.1 hLv).1
    have hy := run_yield (P := P) (args := vs) hLv (by rw [hrec]; exact hvs)
    rw [hrec] at hy
    refine ⟨fn, _, assign, body, hy, ?_⟩
    -- the round's slots
    have hRβ : ∀ b, R b → b < wv.heap.size ∧ ∀ k, pv.β k ≠ some b := fun b hb => ⟨(hR b hb).1, fun k hk => (hR b hb).2.1 ((hΘv b).2 (.inl ⟨k, hk⟩))⟩
    have hRL : ¬ R L := fun hb => (hR L hb).2.1 ((hΘv L).2 (.inr rfl))
    have hkv : Kept wv wv pv { pv with R := fun b => pv.R b ∨ R b } sv.ver sv.ver := ⟨fun _ h => .inl h, fun _ _ => rfl, fun _ => Nat.le_refl _, fun _ _ => ⟨rfl, rfl⟩⟩
    have haw := hSv.awake (by rw [hrow, hus])
    have hzip : (ps.zip vs).foldl (fun tmps (x : Nat × Value) => tmps.setIfInBounds x.1 x.2) a.tmps = (ps.toList.zip vs.toList).foldl (fun tmps (x : Nat × Value) => tmps.setIfInBounds x.1 x.2) a.tmps := by
      rw [← Array.foldl_toList, Array.toList_zip]
    obtain ⟨hpsz, hprel⟩ := psA_rel (w := wv) (p := { pv with R := fun b => pv.R b ∨ R b }) (ver := sv.ver) ps.toList e vs.toList (look (ts.zip avs)) a.tmps (RV.relV_mono (fun _ h => .inr h) (fun _ _ => rfl) _ _ hV)
      (fun t ht => by rw [← htmps, ← hsn]; exact hps t ht) (fun t => by rw [← htmps]; exact AV.rel_mono hkv _ _ (haw.tm t))
    -- what nobody touches
    let Hd : Nat → Prop := fun b => b = L ∨ ∃ d ∈ aL.defers, d.target = .collected b
    have hHd : ∀ b, Hd b → b < wv.heap.size ∧ ¬ C.bor b ∧ ¬ pv.R b ∧ ¬ R b ∧ ∀ k, pv.β k ≠ some b := fun b hb => by
      rcases hb with rfl | ⟨d, hd, hdt⟩
      · exact ⟨hltv, fun hb => by have := hS.ex.bo b (.inl hb); omega, hLRv, hRL, hLβv⟩
      · obtain ⟨Ds, g1, _, g3⟩ := hSv.ex.df
        rw [g1] at hd
        obtain ⟨D, hD, rfl⟩ := List.mem_map.1 hd
        injection hdt with hdt
        subst hdt
        obtain ⟨k1, k2, k3, k4, k5, k6⟩ := g3 D hD
        refine ⟨(Array.getElem?_eq_some_iff.1 k1).1, fun hb => by have := hS.ex.bo D (.inl hb); omega, k3, fun hr => ?_, k4⟩
        have hD1 : D < w1.heap.size := by
          obtain ⟨Ds', q1, _, q3⟩ := hS1.ex.df
          have : Ds' = Ds := marks_inj (q1.symm.trans g1)
          subst this
          exact (Array.getElem?_eq_some_iff.1 (q3 D hD).1).1
        rcases (hR D hr).2.2 with q | q
        · obtain ⟨Ds', q1, _, q3⟩ := hS1.ex.df
          have : Ds' = Ds := marks_inj (q1.symm.trans g1)
          subst this
          exact (q3 D hD).2.2.1 q
        · have q' : w1.heap.size ≤ D := q
          omega
    have hSa := hSv.into (L := L) (w2 := wv) (R := R) (rd := some L) (Hd := Hd) (a' := { tmps := (ps.zip vs).foldl (fun tmps (x : Nat × Value) => tmps.setIfInBounds x.1 x.2) a.tmps, defers := [] }) (tm' := psA ps.toList e (look (ts.zip avs)))
      hn rfl rfl rfl rfl (fun _ _ => rfl) hLRv hLβv hRβ (fun t => by rw [hzip]; exact hprel t) (by rw [hzip, hpsz, ← htmps]; exact hsnv.symm) rfl hHd hC
    have hna := hsnv.trans hsn.symm
    refine roundIn_of_wpIn trivial ?_
    have hassign := hround (Cin C pv R wv (some L) Hd) _ _ ⟨_, hna ▸ hSa⟩
    refine wpIn_mono hassign ?_
    rintro x a1 wa ⟨s1, ⟨p1, hS1a⟩, rfl, hbody⟩
    have hLa : wa.heap[L]? = some (.loop (rec .ready none)) := (hS1a.base.block L hltv (fun ⟨hb, _⟩ => (hHd L (.inl rfl)).2.1 hb) (fun ⟨k, hk, _⟩ => hLβv k hk)).trans hLv
    have hlta : L < wa.heap.size := (Array.getElem?_eq_some_iff.1 hLa).1
    refine ⟨_, run_beginRound hLa (by rw [hrec]), ?_⟩
    have hop1 := Hop.of (L := L) (w := wv) (w2 := wv) rfl rfl rfl rfl (fun _ _ => rfl) hS1a
    have hHd1 : ∀ b, Hd b → b < wa.heap.size ∧ ¬ (Cin C pv R wv (some L) Hd).bor b ∧ ¬ p1.R b ∧ ¬ False ∧ ∀ k, p1.β k ≠ some b := fun b hb => by
      obtain ⟨_, q2, _, q4, q5, _, _, q8⟩ := hS1a.ex.hd b hb
      exact ⟨q4, q2, q5, fun h => h, q8⟩
    have hS1b := hS1a.into (L := L) (w2 := wa.putObj L (.loop { rec .ready none with state := .busy })) (R := fun _ => False) (rd := some L) (Hd := Hd) (a' := a1) (tm' := s1.tm) hn rfl rfl rfl World.putObj_size putObj_other
      (hHd1 L (.inl rfl)).2.2.1 (hHd1 L (.inl rfl)).2.2.2.2 (fun _ h => h.elim) (fun t => by
        have hk1 : Kept wa (wa.putObj L (.loop { rec .ready none with state := .busy })) p1 { p1 with R := fun b => p1.R b ∨ False } s1.ver s1.ver :=
          ⟨fun _ h => .inl h, fun ad hr => World.cell?_of_block (putObj_other _ fun e => (hHd1 L (.inl rfl)).2.2.1 (e ▸ hr)), fun _ => Nat.le_refl _, fun _ _ => ⟨rfl, rfl⟩⟩
        exact AV.rel_mono hk1 _ _ (hS1a.tm t)) hS1a.sz (hS1a.ex.rm rfl) hHd1 hC
    refine wpIn_mono (hbody _ _ _ ⟨_, hS1b⟩) ?_
    have hLb : (wa.putObj L (.loop { rec .ready none with state := .busy })).heap[L]? = some (.loop { rec .ready none with state := .busy }) := World.putObj_heap_same hlta
    -- the round's end
    have hRo : ∀ b, R b → b < wv.heap.size ∧ (∀ d ∈ aL.defers, d.target ≠ .collected b) ∧ ¬ C.hd b ∧ (C.R0 b ∨ C.w0.heap.size ≤ b ∨ C.own b) := fun b hb => by
      have hsz0 := hS.base.size
      refine ⟨(hR b hb).1, fun d hd hdt => (hHd b (.inr ⟨d, hd, hdt⟩)).2.2.2.1 hb, fun hh => ?_, ?_⟩
      · obtain ⟨q1, _, _, _, q5, _⟩ := hS.ex.hd b hh
        rcases (hR b hb).2.2 with q | q
        · exact q5 q
        · have q' : w1.heap.size ≤ b := q; omega
      · rcases (hR b hb).2.2 with q | q
        · exact hS.rn b q
        · have q' : w1.heap.size ≤ b := q; exact .inr (.inl (by omega))
    have fin : ∀ (jump : Option Code) (s3 : AS) (p3 : Plan) (a3 : Act) (w3 : World), SR (Cin (Cin C pv R wv (some L) Hd) p1 (fun _ => False) (wa.putObj L (.loop { rec .ready none with state := .busy })) (some L) Hd) p3 s3 a3 w3 →
        (match jump with | none => ∃ s4, Sub s3 s4 ∧ I rest us ⟨s.n, look [], s4.rows⟩ | some c => ∃ s4, Sub s3 s4 ∧ J c us ⟨s.n, look [], s4.rows⟩) →
        ∃ v w', (Instr.endRound L jump).run P w3 = .ok v w' ∧ (w'.os = wv.os ∧ w'.tape = wv.tape ∧ w'.output = wv.output ∧ wv.heap.size ≤ w'.heap.size ∧ (∀ b, b < wv.heap.size → ¬ Θ b → w'.heap[b]? = wv.heap[b]?) ∧
          ∃ Ψ' Θ' : Nat → Prop, (∀ b, Ψ' b → Ψ b ∨ R b ∨ wv.heap.size ≤ b) ∧ (∀ b, Θ' b → Θ b ∨ wv.heap.size ≤ b) ∧ (∀ b, Ψ' b → b < w'.heap.size) ∧ (∀ b, Θ' b → b < w'.heap.size) ∧
          ((Ending.returned v = .returned (.bool true) ∧ X.X (some rest) w' Ψ' Θ') ∨ (Ending.returned v = .returned (.bool false) ∧ X.X Option.none w' Ψ' Θ'))) := by
      intro jump s30 p30 a3 w3 h30 hj0
      obtain ⟨s3, hsub, hj⟩ : ∃ s4, Sub s30 s4 ∧ (match jump with | none => I rest us ⟨s.n, look [], s4.rows⟩ | some c => J c us ⟨s.n, look [], s4.rows⟩) := by
        cases jump with
        | none => exact hj0
        | some c => exact hj0
      obtain ⟨p3, h3⟩ := hsub _ _ _ ⟨p30, h30⟩
      have hL3 : w3.heap[L]? = some (.loop { rec .ready none with state := .busy }) := by
        refine (h3.base.block L (by show L < (wa.putObj L _).heap.size; rw [World.putObj_size]; exact hlta) (fun ⟨hb, _⟩ => (hHd1 L (.inl rfl)).2.1 hb) (fun ⟨k, hk, _⟩ => (hHd1 L (.inl rfl)).2.2.2.2 k hk)).trans hLb
      obtain ⟨_, _, _, _, e5, _, _, e8⟩ := h3.ex.hd L (.inl rfl)
      have hend := run_endRound (P := P) jump hL3
      have hlt3 : L < w3.heap.size := (Array.getElem?_eq_some_iff.1 hL3).1
      have hop2 := Hop.of (C := Cin C pv R wv (some L) Hd) (p := p1) (L := L) (w := wa) (w2 := wa.putObj L (.loop { rec .ready none with state := .busy })) (R := fun _ => False) rfl rfl rfl World.putObj_size putObj_other h3
      obtain ⟨o4, ho4⟩ : ∃ o4, o4 = Obj.loop { { rec .ready none with state := .busy } with state := if jump.isNone then .ready else .done, pending := jump } := ⟨_, rfl⟩
      rw [← ho4] at hend
      have hop := (Hop.trans (C' := Cin C pv R wv (some L) Hd) hop1 (fun _ => Iff.rfl) hop2).put (o := o4)
      have hL4 : (w3.putObj L o4).heap[L]? = some (.loop (rec (if jump.isNone then .ready else .done) jump)) := by
        rw [World.putObj_heap_same hlt3, ho4, hrec]
      have hS4 : SR C p3 ⟨s.n, look [], s3.rows⟩ aL (w3.putObj L o4) := by
        have := hSv.land (C' := Cin (Cin C pv R wv (some L) Hd) p1 (fun _ => False) (wa.putObj L (.loop { rec .ready none with state := .busy })) (some L) Hd) hn hL0 hLm hop hRo rfl rfl h3 e5 e8 rfl rfl rfl World.putObj_size putObj_other
        rw [hna, ← look_nil'] at this
        exact this
      have hψ4 := hS4.ex.ψn hn
      refine ⟨_, _, hend, hop.os, hop.tape, hop.output, hop.size, fun b hb hθ => hop.heap b hb (fun k hk => hθ ((hΘv b).2 (.inl ⟨k, hk⟩))) (fun e => hθ ((hΘv b).2 (.inr e))),
        fun b => p3.R b ∨ (∃ k, p3.β k = some b) ∨ (b < C.w0.heap.size ∧ ¬ C.bor b ∧ ¬ C.own b) ∨ b = L ∨ C.hd b ∨ ∃ d ∈ aL.defers, d.target = .collected b, fun b => (∃ k, p3.β k = some b) ∨ b = L, fun b hb => ?_, fun b hb => ?_, fun b hb => ?_, fun b hb => ?_, ?_⟩
      · rcases hb with g | ⟨k, g⟩ | g | g | g | g
        · rcases hop.rn b g with q | q | q | ⟨k, q, _⟩
          · exact .inl ((hΨv b).2 (.inl q))
          · exact .inr (.inl q)
          · exact .inr (.inr q)
          · exact .inl ((hΨv b).2 (.inr (.inl ⟨k, q⟩)))
        · rcases hop.bl k b g with q | ⟨_, _, k', _, q⟩ | ⟨k', q, _⟩
          · exact .inr (.inr q)
          · exact .inl ((hΨv b).2 (.inr (.inl ⟨k', q⟩)))
          · exact .inl ((hΨv b).2 (.inr (.inl ⟨k', q⟩)))
        · exact .inl ((hΨv b).2 (.inr (.inr (.inl g))))
        · exact .inl ((hΨv b).2 (.inr (.inr (.inr (.inl g)))))
        · exact .inl ((hΨv b).2 (.inr (.inr (.inr (.inr (.inl g))))))
        · exact .inl ((hΨv b).2 (.inr (.inr (.inr (.inr (.inr g))))))
      · rcases hb with ⟨k, g⟩ | g
        · rcases hop.bl k b g with q | ⟨_, _, k', _, q⟩ | ⟨k', q, _⟩
          · exact .inr q
          · exact .inl ((hΘv b).2 (.inl ⟨k', q⟩))
          · exact .inl ((hΘv b).2 (.inl ⟨k', q⟩))
        · exact .inl ((hΘv b).2 (.inr g))
      · have hsz4 := hS4.base.size
        rcases hb with g | ⟨k, g⟩ | g | rfl | g | ⟨d, hd, hdt⟩
        · exact hS4.rb b g
        · exact (hS4.bl k b g).1
        · omega
        · rw [World.putObj_size]; exact hlt3
        · exact (hS4.ex.hd b g).2.2.2.1
        · exact Nat.lt_of_lt_of_le (hHd b (.inr ⟨d, hd, hdt⟩)).1 hop.size
      · rcases hb with ⟨k, g⟩ | rfl
        · exact (hS4.bl k b g).1
        · rw [World.putObj_size]; exact hlt3
      · cases jump with
        | none => exact .inl ⟨rfl, p3, _, hS4, hsn, ⟨hj, hL4⟩, e5, e8, fun _ => Iff.rfl, fun _ => Iff.rfl⟩
        | some c => exact .inr ⟨rfl, p3, _, hS4, hsn, ⟨c, hj, hL4⟩, e5, e8, fun _ => Iff.rfl, fun _ => Iff.rfl⟩
    rintro en a3 w3 ⟨s3, ⟨p3, h3⟩, hq⟩
    cases en with
    | normal => exact fin none s3 p3 a3 w3 h3 hq
    | ret => exact fin (some .ret) s3 p3 a3 w3 h3 hq
    | exit id => exact fin (some (.exit id)) s3 p3 a3 w3 h3 hq
    | goto l => exact fin (some (.goto l)) s3 p3 a3 w3 h3 hq
    | panic ch => exact hq.elim
    | outgrown => exact hq.elim
  have hX0 : X.X (some xs) w1 (fun b => p.R b ∨ (∃ k, p.β k = some b) ∨ (b < C.w0.heap.size ∧ ¬ C.bor b ∧ ¬ C.own b) ∨ b = L ∨ C.hd b ∨ ∃ d ∈ aL.defers, d.target = .collected b) (fun b => (∃ k, p.β k = some b) ∨ b = L) :=
    ⟨p, _, hS2, hsn, ⟨h0 us, hL1⟩, hLR, hLβ, fun _ => Iff.rfl, fun _ => Iff.rfl⟩
  have hlt1 : L < w1.heap.size := (Array.getElem?_eq_some_iff.1 hL1).1
  have hcall := hI.2 w1 p.R vsC X _ _ hS1.rb hcap rfl (fun _ b hb => hb) (Nat.le_refl _) hY (fun b hb => by
      have hszw := hS1.base.size
      rcases hb with g | ⟨k, g⟩ | g | rfl | g | ⟨d, hd, hdt⟩
      · exact hS1.rb b g
      · exact (hS1.bl k b g).1
      · omega
      · exact hlt1
      · exact (hS1.ex.hd b g).2.2.2.1
      · obtain ⟨Ds, g1, _, g3⟩ := hS1.ex.df
        rw [g1] at hd
        obtain ⟨D, hD, rfl⟩ := List.mem_map.1 hd
        injection hdt with hdt
        subst hdt
        exact (Array.getElem?_eq_some_iff.1 (g3 D hD).1).1) (fun b hb => by
      rcases hb with ⟨k, g⟩ | rfl
      · exact (hS1.bl k b g).1
      · exact hlt1) (fun b hb hθ => by
      rcases hθ with ⟨k, g⟩ | rfl
      · exact (hS1.bl k b g).2.1 hb
      · exact hLR hb) hX0
  have e1 : (Instr.enterLoop fn a.tmps ps assign body none).run P w = .ok (L, [{ target := .collected w.heap.size, args := #[] }]) w1 := by
    rw [run_enterLoop_outer, ← hw1, hrec, hLdef]
  have e2 : (resolve a.eval (rangeCall g L) 0).run P w1 = .ok { target := .fn (.func F) vsC, args := #[.func (.yield L) #[] #[]] } w1 := by
    simp only [resolve, hgv, Sem.run_bind, Deferred.ofValue, Sem.run_pure, Result.andThen_ok]
    simp [Act.eval]
  have e3 : (invoke (.fn (.func F) vsC) #[.func (.yield L) #[] #[]]).run P w1 = .ok (.enter F (#[.func (.yield L) #[] #[]] ++ vsC)) w1 := by
    simp only [invoke]
    exact run_callFunc hI.1 _ _
  have e4 : Fence.wide.depth.isSome = true → 1 ≤ 0 := fun h => by simp [Fence.wide] at h
  refine ⟨L, _, w1, _, w1, F, _, w1, e1, e2, ?_, e3, e4, ?_⟩
  · intro f' _; exact trivial
  · refine callsIn_wide.2 (hcall.mono ?_)
    have haL' : ({ a with defers := [{ target := .collected w.heap.size, args := #[] }] ++ a.defers } : Act) = aL := by rw [haL]; rfl
    rintro e w' ⟨⟨v, rfl⟩, Ψ', Θ', hX | hX⟩
    · obtain ⟨p', s', hS', hsn', ⟨hI', hL'⟩, hLR', hLβ', _⟩ := hX
      have hend := run_endLoop (P := P) hL' (by rw [hrec]; simp)
      have hp : (rec .ready none).pending = none := by rw [hrec]
      rw [hp] at hend
      refine ⟨none, _, hend, ?_⟩
      obtain ⟨avs, hrow, hQ⟩ := done us s' (hsn'.trans hsn.symm) hI'
      have hS4 : ∀ o, SR C p' ⟨s.n, look (ts.zip avs), s'.rows⟩ aL (w'.putObj L o) := fun o => by
        have := (hS'.turn (o := o) hLR' hLβ' hL0 (hS'.ex.ψn hn) hLm).awake (by rw [hrow, hus])
        rw [hsn'.trans hsn.symm] at this
        exact this
      rw [haL']
      exact ⟨_, ⟨_, hS4 _⟩, hQ⟩
    · obtain ⟨p', s', hS', hsn', ⟨c, hJ', hL'⟩, hLR', hLβ', _⟩ := hX
      have hend := run_endLoop (P := P) hL' (by rw [hrec]; simp)
      have hp : (rec .done (some c)).pending = some c := by rw [hrec]
      rw [hp] at hend
      refine ⟨some c, _, hend, ?_⟩
      obtain ⟨avs, hrow, hQ⟩ := stop c us s' (hsn'.trans hsn.symm) hJ'
      have hS4 : ∀ o, SR C p' ⟨s.n, look (ts.zip avs), s'.rows⟩ aL (w'.putObj L o) := fun o => by
        have := (hS'.turn (o := o) hLR' hLβ' hL0 (hS'.ex.ψn hn) hLm).awake (by rw [hrow, hus])
        rw [hsn'.trans hsn.symm] at this
        exact this
      have hQ' := fun o => hQ _ _ ⟨_, hS4 o⟩
      rw [hF0] at hQ'
      rw [haL']
      exact hQ' _
end
end Go.Oc

/- Plain helpers of the walks: numbers without overflow, elements of slices, closed tests. -/
namespace Go.Oc
open Go Go.RowKit

theorem wrapI {n : Int} (h1 : -9223372036854775808 ≤ n) (h2 : n ≤ 9223372036854775807) : IntKind.i64.wrap n = n := by
  unfold IntKind.wrap
  simp only [IntKind.bits, IntKind.signed, Bool.true_and]
  split <;> rename_i h <;> simp only [ge_iff_le, decide_eq_true_eq] at h <;> omega
theorem getD_map_opt {α : Type} {f : α → List RV} {l : List α} {i : Nat} : (l.map f).getD i [] = match l[i]? with | some x => f x | none => [] := by
  rw [List.getD_eq_getElem?_getD, List.getElem?_map]
  cases l[i]? <;> rfl
theorem opt_some {α β : Type} {x : α} {f : α → β} {y : β} : (match some x with | some x => f x | none => y) = f x := rfl
/-- Integers, and lists of them. -/
abbrev i64 (n : Int) : RV := .it .i64 n
abbrev ints (l : List Int) : RV := .sl 1 (l.map fun x => [.it .i64 x])
theorem mem_of_opt {α : Type} {l : List α} {i : Nat} {x : α} (h : l[i]? = some x) : x ∈ l := List.mem_of_getElem? h
theorem drop_of_opt {α : Type} {l : List α} {i : Nat} {x : α} (h : l[i]? = some x) : l.drop i = x :: l.drop (i + 1) := by
  obtain ⟨hi, rfl⟩ := List.getElem?_eq_some_iff.1 h
  exact List.drop_eq_getElem_cons hi
theorem take_of_opt {α : Type} {l : List α} {i : Nat} {x : α} (h : l[i]? = some x) : l.take (i + 1) = l.take i ++ [x] := by
  obtain ⟨hi, rfl⟩ := List.getElem?_eq_some_iff.1 h
  exact List.take_succ_eq_append_getElem hi
theorem opt_of_lt {α : Type} {l : List α} {i : Nat} (h : i < l.length) : ∃ x, l[i]? = some x := ⟨l[i], List.getElem?_eq_getElem h⟩

theorem snapVL_ro {rows : Nat → Row} : ∀ l : List RV, snapVL rows (l.map .r) = l
  | [] => by simp only [List.map_nil, snapVL]
  | x :: l => by simp only [List.map_cons, snapVL, snapV, snapVL_ro l]
theorem snapPL_ro {rows : Nat → Row} : ∀ l : List RV, snapPL rows (l.map .r) ↔ True
  | [] => by simp only [List.map_nil, snapPL]
  | x :: l => by simp only [List.map_cons, snapPL, snapP, snapPL_ro l, true_and]

theorem take_map_len {α β : Type} {f : α → β} {l : List α} : (l.map f).take l.length = l.map f := List.take_of_length_le (by simp)
theorem toNat_add1 {n : Nat} : ((n : Int) + 1).toNat = n + 1 := rfl
/-- The index of the first one with p, or -1. -/
def indexF {α : Type} (p : α → Bool) : List α → Int
  | [] => -1
  | x :: l => if p x then 0 else if indexF p l < 0 then -1 else indexF p l + 1
theorem indexF_any {α : Type} (p : α → Bool) : ∀ l : List α, decide (indexF p l ≥ 0) = l.any p
  | [] => rfl
  | x :: l => by
    have ih := indexF_any p l
    unfold indexF
    cases h : p x
    · simp only [Bool.false_eq_true, if_false, List.any_cons, h, Bool.false_or, ← ih]
      split
      · rename_i h1
        have : ¬ indexF p l ≥ 0 := by omega
        simp [this]
      · rename_i h1
        have : indexF p l ≥ 0 := by omega
        have h2 : indexF p l + 1 ≥ 0 := by omega
        simp only [this, h2]
    · simp [h]
theorem indexF_ge {α : Type} (p : α → Bool) : ∀ l : List α, -1 ≤ indexF p l
  | [] => by simp [indexF]
  | x :: l => by
    have := indexF_ge p l
    unfold indexF
    split
    · omega
    · split <;> omega
end Go.Oc

/- The walk's simp set. -/
namespace Go.Oc
open Go
/-! Reckoning with numerals is part of the walk's simp set. -/
attribute [go_sem] reduceIte reduceCtorEq Nat.reduceEqDiff Nat.reduceAdd Nat.reduceSub Nat.reduceMul Nat.reduceLeDiff Nat.reduceLT Int.reduceToNat Int.reduceLE Int.reduceLT Int.reduceMul Int.reduceAdd Int.reduceSub Int.reduceNeg Int.reduceEq Int.reduceNe
attribute [go_sem] aops_nil aops_cons aops_guard gslot_zero gslot_succ gA_some gB_tt gB_ff gB_tf gB_ft gB_ud gB_bo aop_move aop_assign aop_pick aop_bin aop_un aop_conv aop_load aop_store aop_box aop_alloc aop_fieldAddr aop_field aop_indexAddr aop_index aop_slice aop_build aop_buildSlice aop_makeSlice aop_makeFunc aop_extract aop_nil aop_len aop_min aop_max aop_append aop_cap aop_clear sAppendZ sCap sClear sSlice3 lenA rowLen aop_call aop_next aop_makeMap aop_lookup aop_mapUpdate aop_mapEntry aop_entryStore sMapEntry sEntryStore bornAt aop_range aop_entry sNext sMakeMap sLookup sMapUpdate sRange sEntry mapOf valR agR sEq cmpL sameK findK keyOk allIt List.length_cons List.length_nil row_st verf_st lendA lendL lendC lendOk lendKey backA backL backC backCs pinOf aR_when aR_val aR_bad aR_mk aF_false aF_true evs evp upd_app put_st put_none app_val app_st evt_st tm_st rows_st ver_st n_st ins insc delc look_nil look_cons lookc_nil lookc_cons keepL killV killC argL allEq cond_true cond_false ev_const ev_func sPick pickA sBin sUn sConv sLoad sStore sBox sAlloc sField sFieldV sPart sIndex sIndexV sSlice sSliceA chunk bound sBuild lay sBuildSlice layE sMakeSlice news? sAppend sLen minA minF maxA maxF sMinMax sExtract sNil RV.flat1 AV.cells? roL cutR cutA need RV.ofV RV.ofV1
attribute [go_sem] opostL_normal opostL_ret resA_tmp resA_cell mpostL_normal mpostL_ret resM_nil resM_tmp resM_cell mfin frzC frzPC frzL frzPL frz1 frzP1 keyIn okC argA resC_when resC_val resOk_nil resOk_tmp resOk_cell fpostL_normal fpostL_ret andThen_normal andThen_ret andThen_exit inBlk_normal inBlk_ret inBlk_exit le_bo le_it le_ns le_sls le_ag leL_nil leL_cons le_nsns le_np snapV snapVL snapP snapPL snap1V snap1P snap1PL
attribute [go_sem] Bool.false_eq_true Bool.not_false Bool.not_true Bool.true_eq_false Int.le_refl List.append_nil List.cons_append List.drop_succ_cons List.drop_zero List.getElem?_cons_succ List.getElem?_cons_zero List.headD_cons List.length_cons List.length_nil List.map_cons List.map_nil List.nil_append List.replicate_succ List.replicate_zero List.set_cons_succ List.set_cons_zero List.take_succ_cons List.take_zero Nat.add_zero Nat.le_refl Nat.zero_add Nat.zero_le Option.bind_some Option.getD_none Option.getD_some Option.isSome_some Option.map_none Option.map_some Option.some.injEq and_false and_true decide_false decide_true eq_self false_and false_imp_iff forall_const ite_false ite_true true_and true_imp_iff
attribute [go_sem] not_false_eq_true not_true_eq_false toNat_add1 Nat.sub_zero beq_iff_eq beq_eq_false_iff_ne List.length_drop List.length_take upd_self List.drop_replicate Nat.add_sub_cancel_left take_map_len List.getD_cons_zero List.getD_cons_succ true_or or_true false_or or_false List.length_replicate Int.sub_zero Int.add_zero Int.zero_add getD_map_opt snapVL_ro snapPL_ro Int.ofNat_lt Int.ofNat_le Int.toNat_natCast Int.natCast_nonneg Int.natCast_add Int.cast_ofNat_Int Int.natCast_zero Int.natCast_one List.length_map List.mem_cons ge_iff_le gt_iff_lt decide_eq_true_eq decide_eq_false_iff_not AV.r.injEq RV.it.injEq RV.bo.injEq RV.sl.injEq
end Go.Oc

/- Ranges over functions: the rule in the form in which 'simp' reckons with it. -/
namespace Go.Oc
open Go Go.RowKit
set_option linter.unusedSimpArgs false
set_option linter.unusedVariables false

/-- The arguments of yield, in a round's slots. -/
def psL : List Nat → List RV → List (Nat × AV) → List (Nat × AV)
  | t :: ts, x :: xs, l => psL ts xs ((t, .r x) :: l)
  | _, _, l => l
theorem psL_nil {l : List (Nat × AV)} : psL [] [] l = l := rfl
theorem psL_cons {t : Nat} {ts : List Nat} {x : RV} {xs : List RV} {l : List (Nat × AV)} : psL (t :: ts) (x :: xs) l = psL ts xs ((t, .r x) :: l) := rfl
theorem psA_look : ∀ (ts : List Nat) (xs : List RV) (l : List (Nat × AV)), psA ts xs (look l) = look (psL ts xs l)
  | [], _, _ => rfl
  | _ :: _, [], _ => rfl
  | t :: ts, x :: xs, l => by
    simp only [psA, psL]
    rw [← psA_look ts xs]
    rfl
/-- How a round may end: N: it goes on. -/
def rfpost (n : Nat) (ts : List Nat) (Q : Exit → AS → Prop) (N : AS → Prop) (us : List Value) : Exit → AS → Prop
  | .normal, s => N s
  | .ret, s => ∃ avs, (s.rows 0).c = .sus avs us ∧ Q .ret ⟨n, look (ts.zip avs), s.rows⟩
  | .exit id, s => ∃ avs, (s.rows 0).c = .sus avs us ∧ Q (.exit id) ⟨n, look (ts.zip avs), s.rows⟩
  | _, _ => False
section
variable {n : Nat} {ts : List Nat} {Q : Exit → AS → Prop} {N : AS → Prop} {us : List Value} {l : List (Nat × AV)} {vs : Nat → Nat} {cs : List (Nat × RowC)}
theorem rfpost_normal {s : AS} : rfpost n ts Q N us .normal s = N s := rfl
theorem rf_ret {avs : List AV} (h : lookc cs 0 = .sus avs us) (hq : Q .ret (st n (ts.zip avs) vs cs)) : rfpost n ts Q N us .ret (st n l vs cs) := ⟨avs, h, hq⟩
theorem rf_exit {id : Nat} {avs : List AV} (h : lookc cs 0 = .sus avs us) (hq : Q (.exit id) (st n (ts.zip avs) vs cs)) : rfpost n ts Q N us (.exit id) (st n l vs cs) := ⟨avs, h, hq⟩
end
/-- What is written down is forgotten. -/
theorem sub_wake {n : Nat} {l : List (Nat × AV)} {vs : Nat → Nat} {cs : List (Nat × RowC)} {avs : List AV} {us : List Value} (h : lookc cs 0 = .dead) : Sub (st n l vs ((0, .sus avs us) :: cs)) (st n l vs cs) := fun C a w ⟨p, hp⟩ => by
  refine ⟨p, { hp with rw := fun k => ?_, lk := fun j km m l' cur hj hn => ?_ }⟩
  · have hr := hp.rw k
    show rowRel w p vs k (lookc cs k)
    have hr' : rowRel w p vs k (lookc ((0, .sus avs us) :: cs) k) := hr
    rw [lookc_cons] at hr'
    split at hr'
    · rename_i e
      subst e
      rw [h]
      simp only [rowRel] at hr' ⊢
      exact ⟨hr'.1, hr'.2.1⟩
    · exact hr'
  · have hj' : lookc cs j = .mi km m l' cur := hj
    have e1 : j ≠ 0 := fun e => by subst e; rw [h] at hj'; cases hj'
    have h1 := hp.lk j km m l' cur (by show lookc ((0, .sus avs us) :: cs) j = _; rw [lookc_cons, if_neg e1]; exact hj') hn
    show (lookc cs km).isMpi = true
    have h2 : (lookc ((0, .sus avs us) :: cs) km).isMpi = true := h1
    rw [lookc_cons] at h2
    split at h2
    · cases h2
    · exact h2
theorem upd_rows_st {n : Nat} {l : List (Nat × AV)} {vs : Nat → Nat} {cs : List (Nat × RowC)} {k : Nat} {c : RowC} : (⟨n, look [], upd (st n l vs cs).rows k ⟨((st n l vs cs).rows k).ver, c⟩⟩ : AS) = st n [] vs ((k, c) :: cs) := by
  simp only [st, AS.mk.injEq, true_and]
  funext j
  rw [lookc_cons]
  unfold upd
  split
  · rename_i e; subst e; rfl
  · rfl
theorem zip_keys : ∀ l : List (Nat × AV), (l.map (·.1)).zip (l.map (·.2)) = l
  | [] => rfl
  | _ :: l => by simp only [List.map_cons, List.zip_cons_cons, zip_keys l]

attribute [go_sem] psL_nil psL_cons rfpost_normal List.zip_cons_cons List.zip_nil_right
theorem look_keys : ∀ l : List (Nat × AV), (l.map (·.1)).Nodup → l.map (·.2) = (l.map (·.1)).map (look l)
  | [], _ => rfl
  | (k, v) :: l, h => by
    simp only [List.map_cons, List.nodup_cons] at h ⊢
    have h1 : look ((k, v) :: l) k = v := by rw [look_cons, if_pos rfl]
    rw [h1, look_keys l h.2]
    congr 1
    refine List.map_congr_left fun j hj => ?_
    have hne : j ≠ k := fun e => h.1 (e ▸ hj)
    rw [look_cons, if_neg hne]

/-- A range over an iterator whose contract is known. i: the rounds that are over; F: the slots that are kept (the frame waits: they stay as they are); R: the rows. -/
theorem awp_rangeF {P : Program} {C : Ctx} {n : Nat} {s : AS} {t : Nat} {ps : Array Tmp} {assign body : Code} {Q : Exit → AS → Prop} (hC : C.rd = none ∧ C.X = XS.none) {f : FuncId} {caps : List RV} {z : Bool} (xs : List (List RV)) (hI : ICalls P z f caps xs)
    (ts : List Nat) (hnd : ts.Nodup) (F : (Nat → Nat) → List (Nat × AV)) (R : Nat → (Nat → Nat) → List (Nat × RowC)) (I : Nat → Prop) (h0 : FitV n F (R 0) s) (hi0 : I 0)
    (hts : ∀ vs, (F vs).map (·.1) = ts) (hg : ∀ vs, look (F vs) t = .r (.fn f caps)) (hd : ∀ i vs, lookc (R i vs) 0 = .dead) (hps : ∀ t ∈ ps.toList, t < n) (hlen : ∀ e ∈ xs, e.length = ps.size)
    (round : ∀ i e vs us C, xs[i]? = some e → I i → awp P C assign (fun x s2 => x = .normal ∧ ∀ C, awp P C body (rfpost n ts Q (fun s3 => I (i + 1) ∧ ∃ vs', Sub s3 (st n [] vs' ((0, .sus ((F vs').map (·.2)) us) :: R (i + 1) vs'))) us) s2)
      (st n (psL ps.toList e (F vs)) vs ((0, .sus ((F vs).map (·.2)) us) :: R i vs)))
    (done : ∀ vs us, I xs.length → Q .normal (st n (F vs) vs ((0, .sus ((F vs).map (·.2)) us) :: R xs.length vs))) : awp P C (.rangeFunc (.tmp t) ps assign body) Q s := by
  obtain ⟨vs0, h0⟩ := h0
  refine awp_sub h0 ?_
  have hdrop : ∀ i e rest, xs.drop i = e :: rest → xs[i]? = some e ∧ xs.drop (i + 1) = rest := fun i e rest h => by
    refine ⟨?_, by rw [← List.drop_drop, h]; rfl⟩
    have : (xs.drop i)[0]? = some e := by rw [h]; rfl
    simpa using this
  have hz : ∀ vs, ts.zip ((F vs).map (·.2)) = F vs := fun vs => by rw [← hts vs]; exact zip_keys _
  refine awp_rangeFunc hC.1 hC.2 (F := f) (cs := caps.map .r) (args := caps) (xs := xs) (z := z) (by
      show callee? (look (F vs0) t) = _
      rw [hg]; rfl) (by clear hI hg; induction caps with | nil => rfl | cons c cs ih => simpa [AV.pureL, AV.pure] using ih) (by rw [snapVL_ro]; exact leL_refl _) hI (hd 0 vs0) ts hps
    (fun left us s' => ∃ i vs, left = xs.drop i ∧ i ≤ xs.length ∧ I i ∧ s' = st n [] vs ((0, .sus ((F vs).map (·.2)) us) :: R i vs))
    (fun c us s' => ∃ avs, (s'.rows 0).c = .sus avs us ∧ ((c = .ret ∧ Q .ret ⟨n, look (ts.zip avs), s'.rows⟩) ∨ ∃ id, c = .exit id ∧ Q (.exit id) ⟨n, look (ts.zip avs), s'.rows⟩))
    (fun us => ⟨0, vs0, rfl, Nat.zero_le _, hi0, ?_⟩) ?_ ?_ ?_
  · refine (upd_rows_st (c := .sus (ts.map (st n (F vs0) vs0 (R 0 vs0)).tm) us)).trans ?_
    congr 3
    have hk : (F vs0).map (·.2) = ts.map (look (F vs0)) := by
      have := look_keys (F vs0) (by rw [hts vs0]; exact hnd)
      rw [hts vs0] at this
      exact this
    rw [hk]; rfl
  · rintro e rest us s' _ ⟨i, vs, hl, hle, hI', rfl⟩
    obtain ⟨h1, h2⟩ := hdrop i e rest hl.symm
    refine ⟨hlen e (List.mem_of_getElem? h1), (F vs).map (·.2), rfl, fun C' => ?_⟩
    have hr := round i e vs us C' h1 hI'
    rw [hz, psA_look]
    refine awp_mono ?_ hr
    rintro x s2 ⟨hx, hbody⟩
    refine ⟨hx, fun C'' => awp_mono ?_ (hbody C'')⟩
    intro x s3 hq
    cases x with
    | normal =>
      obtain ⟨hI3, vs', hsub⟩ := hq
      refine ⟨_, hsub, i + 1, vs', h2.symm, ?_, hI3, rfl⟩
      have := (List.getElem?_eq_some_iff.1 h1).1
      omega
    | ret =>
      obtain ⟨avs, h3, h4⟩ := hq
      exact ⟨s3, Sub.refl _, avs, h3, .inl ⟨rfl, h4⟩⟩
    | exit id =>
      obtain ⟨avs, h3, h4⟩ := hq
      exact ⟨s3, Sub.refl _, avs, h3, .inr ⟨id, rfl, h4⟩⟩
    | goto l => exact hq.elim
    | panic c => exact hq.elim
    | outgrown => exact hq.elim
  · rintro us s' _ ⟨i, vs, hl, hle, hI', rfl⟩
    have hi : i = xs.length := by
      have : (xs.drop i).length = 0 := by rw [← hl]; rfl
      rw [List.length_drop] at this; omega
    subst hi
    refine ⟨(F vs).map (·.2), rfl, ?_⟩
    have := done vs us hI'
    rw [hz]
    exact this
  · rintro c us s' _ ⟨avs, h3, h4⟩
    refine ⟨avs, h3, ?_⟩
    rcases h4 with ⟨rfl, h4⟩ | ⟨id, rfl, h4⟩
    · exact awp_ret h4
    · exact awp_exit h4
/-- A loop up to N; rows may tell of versions. -/
theorem awp_uptoV {P : Program} {C : Ctx} {c : Code} {n : Nat} {Q : Exit → AS → Prop} {s : AS} (N : Nat) (F : Nat → (Nat → Nat) → List (Nat × AV)) (R : Nat → (Nat → Nat) → List (Nat × RowC)) (I : Nat → Prop) (i0 : Nat)
    (h0 : FitV n (F i0) (R i0) s) (hi : i0 ≤ N) (hI : I i0)
    (round : ∀ i vs, i ≤ N → I i → awp P C c (andThen (fun s' => i < N ∧ I (i + 1) ∧ FitV n (F (i + 1)) (R (i + 1)) s') Q) (st n (F i vs) vs (R i vs))) : awp P C (.loop c) Q s := by
  refine awp_whileV F R (fun i => i ≤ N ∧ I i) (fun i => N - i) i0 h0 ⟨hi, hI⟩ ?_
  rintro i vs ⟨hi, hI⟩
  refine awp_mono ?_ (round i vs hi hI)
  intro e s' hq
  cases e with
  | normal =>
    obtain ⟨h1, h2, h3⟩ := hq
    exact ⟨i + 1, ⟨h1, h2⟩, by omega, h3⟩
  | _ => exact hq
end Go.Oc

/- What the small functions of chapter 10 return: tests of ranges, powers, codes. -/
namespace Go.Proofs.Ytaniakoadbkadaa
open Go Go.Oc
set_option linter.unusedSimpArgs false
set_option linter.unusedVariables false
set_option maxRecDepth 8000
theorem within1_ok (n a b : Int) : ACalls Try.prog 53 [i64 n, .rp [i64 a], .rp [i64 b]] (.bo (decide (n < a) || decide (b < n))) := by
  refine acalls_st (rs := [.bo (decide (n < a) || decide (b < n))]) [.tmp 4] Try.func53 rfl (by kernel_rfl) Try.ntmps53 rfl (by simp) rfl fun C vs => ?_
  repeat refine awp_seq ?_
  refine awp_reg (by kernel_rfl) fun K hK => ?_
  simp only [go_sem]
  (try simp (disch := omega) only [wrapI])
  repeat first | intro _ | refine ⟨(by omega), ?_⟩ | refine ⟨⟨by omega, by omega⟩, ?_⟩
  refine hK _ ?_
  clear hK K
  repeat refine awp_seq ?_
  refine awp_reg (by kernel_rfl) fun K hK => ?_
  simp only [go_sem]
  (try simp (disch := omega) only [wrapI])
  refine ⟨fun h => ?_, fun h => ?_⟩ <;>
  · repeat first | intro _ | refine ⟨(by omega), ?_⟩ | refine ⟨⟨by omega, by omega⟩, ?_⟩
    refine hK _ ?_
    clear hK K
    refine awp_ret ?_
    simp only [go_sem]
    try simp [h]
theorem index_ok (p : Int → Bool) (f : Nat) (caps : List RV) (l : List Int) (h : ∀ x ∈ l, ACalls Try.prog f (i64 x :: caps) (.bo (p x))) : ACalls Try.prog 61 [ints l, .fn f caps] (i64 (indexF p l)) := by
  refine acalls_st (rs := [i64 (indexF p l)]) [.tmp 4] Try.func61 rfl (by kernel_rfl) Try.ntmps61 rfl (by simp) rfl fun C vs => ?_
  repeat refine awp_seq ?_
  refine awp_reg (by kernel_rfl) fun K hK => ?_
  simp only [go_sem]
  (try simp (disch := omega) only [wrapI])
  repeat first | intro _ | refine ⟨(by omega), ?_⟩ | refine ⟨⟨by omega, by omega⟩, ?_⟩
  refine hK _ ?_
  clear hK K
  repeat refine awp_seq ?_
  refine awp_reg (by kernel_rfl) fun K hK => ?_
  simp only [go_sem]
  (try simp (disch := omega) only [wrapI])
  intro hl
  repeat first | intro _ | refine ⟨(by omega), ?_⟩ | refine ⟨⟨by omega, by omega⟩, ?_⟩
  refine hK _ ?_
  clear hK K
  repeat refine awp_seq ?_
  refine awp_block ?_
  refine awp_upto (n := 19) l.length (fun i vs => [(0, .r (ints l)), (1, .r (.fn f caps)), (7, .r (i64 l.length)), (8, .r (i64 i))]) (fun _ => [])
    (fun i => indexF p l = if indexF p (l.drop i) < 0 then -1 else i + indexF p (l.drop i)) 0 (fit_of [] ?_ rfl) (Nat.zero_le _) ?_ ?_
  · try simp only [go_sem]
  · simp only [List.drop_zero]
    have := indexF_ge p l
    split
    · omega
    · simp
  · intro i vs hi hI
    repeat refine awp_seq ?_
    refine awp_reg (by kernel_rfl) fun K hK => ?_
    simp only [go_sem]
    (try simp (disch := omega) only [wrapI])
    repeat first | intro _ | refine ⟨(by omega), ?_⟩ | refine ⟨⟨by omega, by omega⟩, ?_⟩
    refine hK _ ?_
    clear hK K
    repeat refine awp_seq ?_
    refine awp_cond rfl (fun hc => ?_) (fun hc => ?_) <;> (try simp only [go_sem] at hc)
    · obtain ⟨x, hx⟩ := opt_of_lt hc
      rw [drop_of_opt hx] at hI
      refine awp_skip ?_
      repeat refine awp_seq ?_
      refine awp_block ?_
      repeat refine awp_seq ?_
      refine awp_reg (by kernel_rfl) fun K hK => ?_
      simp only [go_sem]
      (try simp (disch := omega) only [wrapI])
      repeat first | intro _ | refine ⟨(by omega), ?_⟩ | refine ⟨⟨by omega, by omega⟩, ?_⟩
      refine hK _ ?_
      clear hK K
      repeat refine awp_seq ?_
      refine awp_reg (by kernel_rfl) fun K hK => ?_
      simp only [go_sem, hx, hc]
      (try simp (disch := omega) only [wrapI])
      refine xcall_eq (h x (mem_of_opt hx)) rfl (by simp only [go_sem, i64, ints]) (by simp only [go_sem, i64, ints]) (by first | exact .inl rfl | exact .inr rfl) ?_
      (try simp only [go_sem])
      (try simp (disch := omega) only [wrapI])
      repeat first | intro _ | refine ⟨(by omega), ?_⟩ | refine ⟨⟨by omega, by omega⟩, ?_⟩
      refine hK _ ?_
      clear hK K
      repeat refine awp_seq ?_
      refine awp_cond rfl (fun hc => ?_) (fun hc => ?_) <;> (try simp only [go_sem] at hc)
      · repeat refine awp_seq ?_
        refine awp_reg (by kernel_rfl) fun K hK => ?_
        simp only [go_sem]
        (try simp (disch := omega) only [wrapI])
        repeat first | intro _ | refine ⟨(by omega), ?_⟩ | refine ⟨⟨by omega, by omega⟩, ?_⟩
        refine hK _ ?_
        clear hK K
        refine awp_ret ?_
        simp only [go_sem]
        simp [hI, indexF, hc]
      · refine awp_skip ?_
        try simp only [go_sem]
        repeat refine awp_seq ?_
        refine awp_reg (by kernel_rfl) fun K hK => ?_
        simp only [go_sem]
        (try simp (disch := omega) only [wrapI])
        repeat first | intro _ | refine ⟨(by omega), ?_⟩ | refine ⟨⟨by omega, by omega⟩, ?_⟩
        refine hK _ ?_
        clear hK K
        try simp only [go_sem]
        refine ⟨‹_›, ?_, fit_of [] ?_ rfl⟩
        · rw [hI]
          simp only [indexF, hc, Bool.false_eq_true, if_false]
          have := indexF_ge p (l.drop (i + 1))
          (repeat' split) <;> omega
        · try simp only [go_sem]
    · refine awp_exit ?_
      simp only [go_sem]
      repeat refine awp_seq ?_
      refine awp_reg (by kernel_rfl) fun K hK => ?_
      simp only [go_sem]
      (try simp (disch := omega) only [wrapI])
      repeat first | intro _ | refine ⟨(by omega), ?_⟩ | refine ⟨⟨by omega, by omega⟩, ?_⟩
      refine hK _ ?_
      clear hK K
      refine awp_ret ?_
      simp only [go_sem]
      have : l.drop i = [] := List.drop_eq_nil_of_le (by omega)
      simp [hI, this, indexF]
theorem contains_ok (p : Int → Bool) (f : Nat) (caps : List RV) (l : List Int) (h : ∀ x ∈ l, ACalls Try.prog f (i64 x :: caps) (.bo (p x))) : ACalls Try.prog 34 [ints l, .fn f caps] (.bo (l.any p)) := by
  refine acalls_st (rs := [.bo (l.any p)]) [.tmp 4] Try.func34 rfl (by kernel_rfl) Try.ntmps34 rfl (by simp) rfl fun C vs => ?_
  repeat refine awp_seq ?_
  refine awp_reg (by kernel_rfl) fun K hK => ?_
  simp only [go_sem]
  (try simp (disch := omega) only [wrapI])
  repeat first | intro _ | refine ⟨(by omega), ?_⟩ | refine ⟨⟨by omega, by omega⟩, ?_⟩
  refine hK _ ?_
  clear hK K
  repeat refine awp_seq ?_
  refine awp_reg (by kernel_rfl) fun K hK => ?_
  simp only [go_sem]
  (try simp (disch := omega) only [wrapI])
  refine xcall_eq (index_ok p f caps l h) rfl (by simp only [go_sem, i64, ints]) (by simp only [go_sem, i64, ints]) (by first | exact .inl rfl | exact .inr rfl) ?_
  (try simp only [go_sem])
  (try simp (disch := omega) only [wrapI])
  repeat first | intro _ | refine ⟨(by omega), ?_⟩ | refine ⟨⟨by omega, by omega⟩, ?_⟩
  refine hK _ ?_
  clear hK K
  refine awp_ret ?_
  simp only [go_sem]
  rw [← indexF_any]
/-- All numbers lie between two. -/
def withinL (a b : Int) (l : List Int) : Bool := l.all fun n => decide (a ≤ n) && decide (n ≤ b)
theorem withinL_not (a b : Int) (l : List Int) : (!(l.any fun n => decide (n < a) || decide (b < n))) = withinL a b l := by
  unfold withinL
  rw [List.not_any_eq_all_not]
  congr 1
  funext n
  by_cases h1 : n < a <;> by_cases h2 : b < n <;> simp [h1, h2] <;> omega
theorem within_ok (a b : Int) (l : List Int) : ACalls Try.prog 26 [i64 a, i64 b, ints l] (.bo (withinL a b l)) := by
  refine acalls_st (rs := [.bo (withinL a b l)]) [.tmp 6] Try.func26 rfl (by kernel_rfl) Try.ntmps26 rfl (by simp) rfl fun C vs => ?_
  repeat refine awp_seq ?_
  refine awp_reg (by kernel_rfl) fun K hK => ?_
  simp only [go_sem]
  (try simp (disch := omega) only [wrapI])
  repeat first | intro _ | refine ⟨(by omega), ?_⟩ | refine ⟨⟨by omega, by omega⟩, ?_⟩
  refine hK _ ?_
  clear hK K
  repeat refine awp_seq ?_
  refine awp_reg (by kernel_rfl) fun K hK => ?_
  simp only [go_sem]
  (try simp (disch := omega) only [wrapI])
  refine xcall_eq (contains_ok (fun n => decide (n < a) || decide (b < n)) 53 [.rp [i64 a], .rp [i64 b]] l fun x _ => within1_ok x a b) rfl (by simp only [go_sem, i64, ints]) (by simp only [go_sem, i64, ints]) (by first | exact .inl rfl | exact .inr rfl) ?_
  (try simp only [go_sem])
  (try simp (disch := omega) only [wrapI])
  repeat first | intro _ | refine ⟨(by omega), ?_⟩ | refine ⟨⟨by omega, by omega⟩, ?_⟩
  refine hK _ ?_
  clear hK K
  refine awp_ret ?_
  simp only [go_sem]
  rw [← withinL_not]
theorem nan_ok (n : Int) : ACalls Try.prog 76 [i64 n] (.bo false) := by
  refine acalls_st (rs := [.bo false]) [.tmp 2] Try.func76 rfl (by kernel_rfl) Try.ntmps76 rfl (by simp) rfl fun C vs => ?_
  repeat refine awp_seq ?_
  refine awp_reg (by kernel_rfl) fun K hK => ?_
  simp only [go_sem]
  (try simp (disch := omega) only [wrapI])
  repeat first | intro _ | refine ⟨(by omega), ?_⟩ | refine ⟨⟨by omega, by omega⟩, ?_⟩
  refine hK _ ?_
  clear hK K
  repeat refine awp_seq ?_
  refine awp_reg (by kernel_rfl) fun K hK => ?_
  simp only [go_sem]
  (try simp (disch := omega) only [wrapI])
  repeat first | intro _ | refine ⟨(by omega), ?_⟩ | refine ⟨⟨by omega, by omega⟩, ?_⟩
  refine hK _ ?_
  clear hK K
  refine awp_ret ?_
  simp only [go_sem]
  simp
/-! ### Numbers modulo the prime -/
theorem mul_in {a b : Int} (ha : 0 ≤ a) (ha' : a < 2147483648) (hb : 0 ≤ b) (hb' : b < 2147483648) : 0 ≤ a * b ∧ a * b ≤ 4611686018427387904 :=
  ⟨Int.mul_nonneg ha hb, by
    have h1 : a * b ≤ 2147483648 * b := Int.mul_le_mul_of_nonneg_right (by omega) hb
    omega⟩
theorem emod_pow (a : Int) (m : Int) : ∀ n : Nat, (a % m) ^ n % m = a ^ n % m
  | 0 => by simp
  | n + 1 => by rw [Int.pow_succ, Int.pow_succ, Int.mul_emod, emod_pow a m n, Int.emod_emod, ← Int.mul_emod]
theorem pow_two' (a : Int) : a * a = a ^ 2 := by rw [Int.pow_succ, Int.pow_one]
theorem tmod_nat (m k : Nat) : (m : Int).tmod k = ((m % k : Nat) : Int) := rfl
theorem tdiv_nat (m k : Nat) : (m : Int).tdiv k = ((m / k : Nat) : Int) := rfl
theorem tmod2 (m : Nat) : (m : Int).tmod 2 = ((m % 2 : Nat) : Int) := rfl
theorem tdiv2 (m : Nat) : (m : Int).tdiv 2 = ((m / 2 : Nat) : Int) := rfl
end Go.Proofs.Ytaniakoadbkadaa

/- What the tests of rules return. -/
namespace Go.Proofs.Ytaniakoadbkadaa
open Go Go.Oc
set_option linter.unusedSimpArgs false
set_option linter.unusedVariables false
set_option maxRecDepth 8000
structure Game where
  pl : Int
  lg : Int
  pt : Int
abbrev gameC (g : Game) : List RV := [i64 g.pl, i64 g.lg, i64 g.pt]
abbrev games (l : List Game) : RV := .sl 3 (l.map gameC)
structure Rules where
  squad : Int
  gs : List Game
  most : Int
  bonus : Int
abbrev rulesC (r : Rules) : List RV := [i64 r.squad, games r.gs, i64 r.most, i64 r.bonus]
def isGameB (squad : Int) (g : Game) : Bool := withinL 1 (min 2 squad) [g.pl] && withinL 1 15 [g.lg] && withinL 0 99 [g.pt]
theorem isGame_ok (r : Rules) (g : Game) : ACalls Try.prog 38 [.ag (rulesC r), .ag (gameC g)] (.bo (isGameB r.squad g)) := by
  refine acalls_st (rs := [.bo (isGameB r.squad g)]) [.tmp 4] Try.func38 rfl (by kernel_rfl) Try.ntmps38 rfl (by simp) rfl fun C vs => ?_
  repeat refine awp_seq ?_
  refine awp_reg (by kernel_rfl) fun K hK => ?_
  simp only [go_sem]
  (try simp (disch := omega) only [wrapI])
  repeat first | intro _ | refine ⟨(by omega), ?_⟩ | refine ⟨⟨by omega, by omega⟩, ?_⟩
  refine hK _ ?_
  clear hK K
  repeat refine awp_seq ?_
  refine awp_reg (by kernel_rfl) fun K hK => ?_
  simp only [go_sem]
  (try simp (disch := omega) only [wrapI])
  refine xcall_eq (within_ok 1 (min 2 r.squad) [g.pl]) rfl (by simp only [go_sem, i64, ints]) (by simp only [go_sem, i64, ints]) (by first | exact .inl rfl | exact .inr rfl) ?_
  (try simp only [go_sem])
  (try simp (disch := omega) only [wrapI])
  refine ⟨fun h1 => ?_, fun h1 => ?_⟩
  · refine xcall_eq (within_ok 1 15 [g.lg]) rfl (by simp only [go_sem, i64, ints]) (by simp only [go_sem, i64, ints]) (by first | exact .inl rfl | exact .inr rfl) ?_
    (try simp only [go_sem])
    (try simp (disch := omega) only [wrapI])
    refine ⟨fun h2 => ?_, fun h2 => ?_⟩
    · refine xcall_eq (within_ok 0 99 [g.pt]) rfl (by simp only [go_sem, i64, ints]) (by simp only [go_sem, i64, ints]) (by first | exact .inl rfl | exact .inr rfl) ?_
      (try simp only [go_sem])
      (try simp (disch := omega) only [wrapI])
      repeat first | intro _ | refine ⟨(by omega), ?_⟩ | refine ⟨⟨by omega, by omega⟩, ?_⟩
      refine hK _ ?_
      clear hK K
      refine awp_ret ?_
      simp only [go_sem]
      simp [isGameB, h1, h2]
    · repeat first | intro _ | refine ⟨(by omega), ?_⟩ | refine ⟨⟨by omega, by omega⟩, ?_⟩
      refine hK _ ?_
      clear hK K
      refine awp_ret ?_
      simp only [go_sem]
      simp [isGameB, h1, h2]
  · repeat first | intro _ | refine ⟨(by omega), ?_⟩ | refine ⟨⟨by omega, by omega⟩, ?_⟩
    refine hK _ ?_
    clear hK K
    refine awp_ret ?_
    simp only [go_sem]
    simp [isGameB, h1]
theorem check1_ok (r : Rules) (g : Game) : ACalls Try.prog 37 [.ag (gameC g), .rp (rulesC r)] (.bo (!isGameB r.squad g)) := by
  refine acalls_st (rs := [.bo (!isGameB r.squad g)]) [.tmp 3] Try.func37 rfl (by kernel_rfl) Try.ntmps37 rfl (by simp) rfl fun C vs => ?_
  repeat refine awp_seq ?_
  refine awp_reg (by kernel_rfl) fun K hK => ?_
  simp only [go_sem]
  (try simp (disch := omega) only [wrapI])
  repeat first | intro _ | refine ⟨(by omega), ?_⟩ | refine ⟨⟨by omega, by omega⟩, ?_⟩
  refine hK _ ?_
  clear hK K
  repeat refine awp_seq ?_
  refine awp_reg (by kernel_rfl) fun K hK => ?_
  simp only [go_sem]
  (try simp (disch := omega) only [wrapI])
  refine xcall_eq (isGame_ok r g) rfl (by simp only [go_sem, i64, ints]) (by simp only [go_sem, i64, ints]) (by first | exact .inl rfl | exact .inr rfl) ?_
  (try simp only [go_sem])
  (try simp (disch := omega) only [wrapI])
  repeat first | intro _ | refine ⟨(by omega), ?_⟩ | refine ⟨⟨by omega, by omega⟩, ?_⟩
  refine hK _ ?_
  clear hK K
  refine awp_ret ?_
  simp only [go_sem]
theorem indexG_ok (p : Game → Bool) (f : Nat) (caps : List RV) (l : List Game) (h : ∀ x ∈ l, ACalls Try.prog f (.ag (gameC x) :: caps) (.bo (p x))) : ACalls Try.prog 63 [games l, .fn f caps] (i64 (indexF p l)) := by
  refine acalls_st (rs := [i64 (indexF p l)]) [.tmp 4] Try.func63 rfl (by kernel_rfl) Try.ntmps63 rfl (by simp) rfl fun C vs => ?_
  repeat refine awp_seq ?_
  refine awp_reg (by kernel_rfl) fun K hK => ?_
  simp only [go_sem]
  (try simp (disch := omega) only [wrapI])
  repeat first | intro _ | refine ⟨(by omega), ?_⟩ | refine ⟨⟨by omega, by omega⟩, ?_⟩
  refine hK _ ?_
  clear hK K
  repeat refine awp_seq ?_
  refine awp_reg (by kernel_rfl) fun K hK => ?_
  simp only [go_sem]
  (try simp (disch := omega) only [wrapI])
  intro hl
  repeat first | intro _ | refine ⟨(by omega), ?_⟩ | refine ⟨⟨by omega, by omega⟩, ?_⟩
  refine hK _ ?_
  clear hK K
  repeat refine awp_seq ?_
  refine awp_block ?_
  refine awp_upto (n := 19) l.length (fun i vs => [(0, .r (games l)), (1, .r (.fn f caps)), (7, .r (i64 l.length)), (8, .r (i64 i))]) (fun _ => [])
    (fun i => indexF p l = if indexF p (l.drop i) < 0 then -1 else i + indexF p (l.drop i)) 0 (fit_of [] ?_ rfl) (Nat.zero_le _) ?_ ?_
  · try simp only [go_sem]
  · simp only [List.drop_zero]
    have := indexF_ge p l
    split
    · omega
    · simp
  · intro i vs hi hI
    repeat refine awp_seq ?_
    refine awp_reg (by kernel_rfl) fun K hK => ?_
    simp only [go_sem]
    (try simp (disch := omega) only [wrapI])
    repeat first | intro _ | refine ⟨(by omega), ?_⟩ | refine ⟨⟨by omega, by omega⟩, ?_⟩
    refine hK _ ?_
    clear hK K
    repeat refine awp_seq ?_
    refine awp_cond rfl (fun hc => ?_) (fun hc => ?_) <;> (try simp only [go_sem] at hc)
    · obtain ⟨x, hx⟩ := opt_of_lt hc
      rw [drop_of_opt hx] at hI
      refine awp_skip ?_
      repeat refine awp_seq ?_
      refine awp_block ?_
      repeat refine awp_seq ?_
      refine awp_reg (by kernel_rfl) fun K hK => ?_
      simp only [go_sem]
      (try simp (disch := omega) only [wrapI])
      repeat first | intro _ | refine ⟨(by omega), ?_⟩ | refine ⟨⟨by omega, by omega⟩, ?_⟩
      refine hK _ ?_
      clear hK K
      repeat refine awp_seq ?_
      refine awp_reg (by kernel_rfl) fun K hK => ?_
      simp only [go_sem, hx, hc]
      (try simp (disch := omega) only [wrapI])
      refine xcall_eq (h x (mem_of_opt hx)) rfl (by simp only [go_sem, i64, ints]) (by simp only [go_sem, i64, ints]) (by first | exact .inl rfl | exact .inr rfl) ?_
      (try simp only [go_sem])
      (try simp (disch := omega) only [wrapI])
      repeat first | intro _ | refine ⟨(by omega), ?_⟩ | refine ⟨⟨by omega, by omega⟩, ?_⟩
      refine hK _ ?_
      clear hK K
      repeat refine awp_seq ?_
      refine awp_cond rfl (fun hc => ?_) (fun hc => ?_) <;> (try simp only [go_sem] at hc)
      · repeat refine awp_seq ?_
        refine awp_reg (by kernel_rfl) fun K hK => ?_
        simp only [go_sem]
        (try simp (disch := omega) only [wrapI])
        repeat first | intro _ | refine ⟨(by omega), ?_⟩ | refine ⟨⟨by omega, by omega⟩, ?_⟩
        refine hK _ ?_
        clear hK K
        refine awp_ret ?_
        simp only [go_sem]
        simp [hI, indexF, hc]
      · refine awp_skip ?_
        try simp only [go_sem]
        repeat refine awp_seq ?_
        refine awp_reg (by kernel_rfl) fun K hK => ?_
        simp only [go_sem]
        (try simp (disch := omega) only [wrapI])
        repeat first | intro _ | refine ⟨(by omega), ?_⟩ | refine ⟨⟨by omega, by omega⟩, ?_⟩
        refine hK _ ?_
        clear hK K
        try simp only [go_sem]
        refine ⟨‹_›, ?_, fit_of [] ?_ rfl⟩
        · rw [hI]
          simp only [indexF, hc, Bool.false_eq_true, if_false]
          have := indexF_ge p (l.drop (i + 1))
          (repeat' split) <;> omega
        · try simp only [go_sem]
    · refine awp_exit ?_
      simp only [go_sem]
      repeat refine awp_seq ?_
      refine awp_reg (by kernel_rfl) fun K hK => ?_
      simp only [go_sem]
      (try simp (disch := omega) only [wrapI])
      repeat first | intro _ | refine ⟨(by omega), ?_⟩ | refine ⟨⟨by omega, by omega⟩, ?_⟩
      refine hK _ ?_
      clear hK K
      refine awp_ret ?_
      simp only [go_sem]
      have : l.drop i = [] := List.drop_eq_nil_of_le (by omega)
      simp [hI, this, indexF]
theorem containsG_ok (p : Game → Bool) (f : Nat) (caps : List RV) (l : List Game) (h : ∀ x ∈ l, ACalls Try.prog f (.ag (gameC x) :: caps) (.bo (p x))) : ACalls Try.prog 39 [games l, .fn f caps] (.bo (l.any p)) := by
  refine acalls_st (rs := [.bo (l.any p)]) [.tmp 4] Try.func39 rfl (by kernel_rfl) Try.ntmps39 rfl (by simp) rfl fun C vs => ?_
  repeat refine awp_seq ?_
  refine awp_reg (by kernel_rfl) fun K hK => ?_
  simp only [go_sem]
  (try simp (disch := omega) only [wrapI])
  repeat first | intro _ | refine ⟨(by omega), ?_⟩ | refine ⟨⟨by omega, by omega⟩, ?_⟩
  refine hK _ ?_
  clear hK K
  repeat refine awp_seq ?_
  refine awp_reg (by kernel_rfl) fun K hK => ?_
  simp only [go_sem]
  (try simp (disch := omega) only [wrapI])
  refine xcall_eq (indexG_ok p f caps l h) rfl (by simp only [go_sem, i64, ints]) (by simp only [go_sem, i64, ints]) (by first | exact .inl rfl | exact .inr rfl) ?_
  (try simp only [go_sem])
  (try simp (disch := omega) only [wrapI])
  repeat first | intro _ | refine ⟨(by omega), ?_⟩ | refine ⟨⟨by omega, by omega⟩, ?_⟩
  refine hK _ ?_
  clear hK K
  refine awp_ret ?_
  simp only [go_sem]
  rw [← indexF_any]
/-- The rules are valid. -/
def rulesB (r : Rules) : Bool := withinL 1 16 [r.squad] && withinL 1 20 [(r.gs.length : Int), r.most] && r.gs.all (isGameB r.squad) && withinL 0 99 [r.bonus]
def errC (b : Bool) : Int := if b then 0 else 2
theorem check_ok (r : Rules) : ACalls Try.prog 20 [.ag (rulesC r)] (i64 (errC (rulesB r))) := by
  refine acalls_st (rs := [i64 (errC (rulesB r))]) [.tmp 2] Try.func20 rfl (by kernel_rfl) Try.ntmps20 rfl (by simp) rfl fun C vs => ?_
  repeat refine awp_seq ?_
  refine awp_reg (by kernel_rfl) fun K hK => ?_
  simp only [go_sem]
  (try simp (disch := omega) only [wrapI])
  repeat first | intro _ | refine ⟨(by omega), ?_⟩ | refine ⟨⟨by omega, by omega⟩, ?_⟩
  refine hK _ ?_
  clear hK K
  repeat refine awp_seq ?_
  refine awp_reg (by kernel_rfl) fun K hK => ?_
  simp only [go_sem]
  (try simp (disch := omega) only [wrapI])
  repeat first | intro _ | refine ⟨(by omega), ?_⟩ | refine ⟨⟨by omega, by omega⟩, ?_⟩
  refine hK _ ?_
  clear hK K
  repeat refine awp_seq ?_
  refine awp_reg (by kernel_rfl) fun K hK => ?_
  simp only [go_sem]
  (try simp (disch := omega) only [wrapI])
  refine xcall_eq (within_ok 1 16 [r.squad]) rfl (by simp only [go_sem, i64, ints]) (by simp only [go_sem, i64, ints]) (by first | exact .inl rfl | exact .inr rfl) ?_
  (try simp only [go_sem])
  (try simp (disch := omega) only [wrapI])
  cases h1 : withinL 1 16 [r.squad]
  · try simp only [go_sem]
    repeat first | intro _ | refine ⟨(by omega), ?_⟩ | refine ⟨⟨by omega, by omega⟩, ?_⟩
    refine hK _ ?_
    clear hK K
    repeat refine awp_seq ?_
    refine awp_cond rfl (fun hc => ?_) (fun hc => ?_) <;> (try simp only [go_sem] at hc)
    repeat refine awp_seq ?_
    refine awp_reg (by kernel_rfl) fun K hK => ?_
    simp only [go_sem]
    (try simp (disch := omega) only [wrapI])
    repeat first | intro _ | refine ⟨(by omega), ?_⟩ | refine ⟨⟨by omega, by omega⟩, ?_⟩
    refine hK _ ?_
    clear hK K
    refine awp_ret ?_
    simp only [go_sem]
    simp [rulesB, errC, h1]
  try simp only [go_sem]
  intro hlen
  refine xcall_eq (within_ok 1 20 [(r.gs.length : Int), r.most]) rfl (by simp only [go_sem, i64, ints]) (by simp only [go_sem, i64, ints]) (by first | exact .inl rfl | exact .inr rfl) ?_
  (try simp only [go_sem])
  (try simp (disch := omega) only [wrapI])
  cases h2 : withinL 1 20 [(r.gs.length : Int), r.most]
  · try simp only [go_sem]
    repeat first | intro _ | refine ⟨(by omega), ?_⟩ | refine ⟨⟨by omega, by omega⟩, ?_⟩
    refine hK _ ?_
    clear hK K
    repeat refine awp_seq ?_
    refine awp_cond rfl (fun hc => ?_) (fun hc => ?_) <;> (try simp only [go_sem] at hc)
    repeat refine awp_seq ?_
    refine awp_reg (by kernel_rfl) fun K hK => ?_
    simp only [go_sem]
    (try simp (disch := omega) only [wrapI])
    repeat first | intro _ | refine ⟨(by omega), ?_⟩ | refine ⟨⟨by omega, by omega⟩, ?_⟩
    refine hK _ ?_
    clear hK K
    refine awp_ret ?_
    simp only [go_sem]
    simp [rulesB, errC, h1, h2]
  try simp only [go_sem]
  refine xcall_eq (containsG_ok (fun g => !isGameB r.squad g) 37 [.rp (rulesC r)] r.gs fun g _ => check1_ok r g) rfl (by simp only [go_sem, i64, ints]) (by simp only [go_sem, i64, ints]) (by first | exact .inl rfl | exact .inr rfl) ?_
  (try simp only [go_sem])
  (try simp (disch := omega) only [wrapI])
  have e3 : (r.gs.any fun g => !isGameB r.squad g) = !(r.gs.all (isGameB r.squad)) := by simp [List.any_eq_not_all_not]
  rw [e3]
  cases h3 : r.gs.all (isGameB r.squad)
  · try simp only [go_sem]
    repeat first | intro _ | refine ⟨(by omega), ?_⟩ | refine ⟨⟨by omega, by omega⟩, ?_⟩
    refine hK _ ?_
    clear hK K
    repeat refine awp_seq ?_
    refine awp_cond rfl (fun hc => ?_) (fun hc => ?_) <;> (try simp only [go_sem] at hc)
    repeat refine awp_seq ?_
    refine awp_reg (by kernel_rfl) fun K hK => ?_
    simp only [go_sem]
    (try simp (disch := omega) only [wrapI])
    repeat first | intro _ | refine ⟨(by omega), ?_⟩ | refine ⟨⟨by omega, by omega⟩, ?_⟩
    refine hK _ ?_
    clear hK K
    refine awp_ret ?_
    simp only [go_sem]
    simp [rulesB, errC, h1, h2, h3]
  try simp only [go_sem]
  refine xcall_eq (within_ok 0 99 [r.bonus]) rfl (by simp only [go_sem, i64, ints]) (by simp only [go_sem, i64, ints]) (by first | exact .inl rfl | exact .inr rfl) ?_
  (try simp only [go_sem])
  (try simp (disch := omega) only [wrapI])
  cases h4 : withinL 0 99 [r.bonus]
  · try simp only [go_sem]
    repeat first | intro _ | refine ⟨(by omega), ?_⟩ | refine ⟨⟨by omega, by omega⟩, ?_⟩
    refine hK _ ?_
    clear hK K
    repeat refine awp_seq ?_
    refine awp_cond rfl (fun hc => ?_) (fun hc => ?_) <;> (try simp only [go_sem] at hc)
    repeat refine awp_seq ?_
    refine awp_reg (by kernel_rfl) fun K hK => ?_
    simp only [go_sem]
    (try simp (disch := omega) only [wrapI])
    repeat first | intro _ | refine ⟨(by omega), ?_⟩ | refine ⟨⟨by omega, by omega⟩, ?_⟩
    refine hK _ ?_
    clear hK K
    refine awp_ret ?_
    simp only [go_sem]
    simp [rulesB, errC, h1, h2, h3, h4]
  try simp only [go_sem]
  repeat first | intro _ | refine ⟨(by omega), ?_⟩ | refine ⟨⟨by omega, by omega⟩, ?_⟩
  refine hK _ ?_
  clear hK K
  repeat refine awp_seq ?_
  refine awp_cond rfl (fun hc => ?_) (fun hc => ?_) <;> (try simp only [go_sem] at hc)
  refine awp_skip ?_
  try simp only [go_sem]
  repeat refine awp_seq ?_
  refine awp_reg (by kernel_rfl) fun K hK => ?_
  simp only [go_sem]
  (try simp (disch := omega) only [wrapI])
  repeat first | intro _ | refine ⟨(by omega), ?_⟩ | refine ⟨⟨by omega, by omega⟩, ?_⟩
  refine hK _ ?_
  clear hK K
  refine awp_ret ?_
  simp only [go_sem]
  simp [rulesB, errC, h1, h2, h3, h4]
/-! ### The document's test -/
theorem min2 {s : Int} {g : Game} : isGameB s g = (withinL 1 2 [g.pl] && !decide (g.pl > s) && withinL 1 15 [g.lg] && withinL 0 99 [g.pt]) := by
  unfold isGameB
  congr 2
  simp only [withinL, List.all_cons, List.all_nil, Bool.and_true]
  rw [Bool.eq_iff_iff]
  simp only [Bool.and_eq_true, decide_eq_true_eq, Bool.not_eq_true', decide_eq_false_iff_not]
  omega
theorem withinL_pair (x y a b : Int) : withinL x y [a, b] = (withinL x y [a] && withinL x y [b]) := by simp [withinL]
theorem sum_le (b : Int) : ∀ l : List Int, (∀ x ∈ l, 0 ≤ x ∧ x ≤ b) → 0 ≤ l.sum ∧ l.sum ≤ b * l.length
  | [], _ => by simp
  | x :: l, h => by
    have h1 := h x (by simp)
    have h2 := sum_le b l fun y hy => h y (by simp [hy])
    simp only [List.sum_cons, List.length_cons, Int.natCast_add, Int.mul_add]
    omega
theorem withinL_one {a b n : Int} (h : withinL a b [n] = true) : a ≤ n ∧ n ≤ b := by simpa [withinL] using h
theorem withinL_mem {a b : Int} {l : List Int} (h : withinL a b l = true) : ∀ x ∈ l, a ≤ x ∧ x ≤ b := fun x hx => by
  have := List.all_eq_true.1 h x hx
  simpa using this
theorem rulesB_facts {r : Rules} (h : rulesB r = true) : (1 ≤ r.squad ∧ r.squad ≤ 16) ∧ (1 ≤ r.gs.length ∧ r.gs.length ≤ 20) ∧ (1 ≤ r.most ∧ r.most ≤ 20) ∧ (∀ g ∈ r.gs, (1 ≤ g.pl ∧ g.pl ≤ 2 ∧ g.pl ≤ r.squad) ∧ (1 ≤ g.lg ∧ g.lg ≤ 15) ∧ 0 ≤ g.pt ∧ g.pt ≤ 99) ∧ 0 ≤ r.bonus ∧ r.bonus ≤ 99 := by
  simp only [rulesB, Bool.and_eq_true] at h
  obtain ⟨⟨⟨h1, h2⟩, h3⟩, h4⟩ := h
  have g2 := withinL_mem h2
  have ga := g2 (r.gs.length : Int) (by simp)
  have gb := g2 r.most (by simp)
  refine ⟨withinL_one h1, ⟨by omega, by omega⟩, gb, fun g hg => ?_, withinL_one h4⟩
  have := List.all_eq_true.1 h3 g hg
  simp only [isGameB, Bool.and_eq_true] at this
  obtain ⟨⟨a1, a2⟩, a3⟩ := this
  have b1 := withinL_one a1
  exact ⟨⟨b1.1, by omega, by omega⟩, withinL_one a2, withinL_one a3⟩
theorem erase_map {α β : Type} (f : α → β) (L : List α) (j : Nat) : (L.map f).eraseIdx j = (L.eraseIdx j).map f := by
  rw [List.eraseIdx_eq_take_drop_succ, List.eraseIdx_eq_take_drop_succ, List.map_append, List.map_take, List.map_drop]
end Go.Proofs.Ytaniakoadbkadaa

/- Sheets, leads and winners, by the program and by the document. -/
namespace Go.Proofs.Ytaniakoadbkadaa
open Go Go.Oc
set_option linter.unusedSimpArgs false
set_option linter.unusedVariables false
set_option maxRecDepth 8000
def cmpV (x y : Int) : Int := if x < y then -1 else if y < x then 1 else 0
theorem compare_ok (x y : Int) : ACalls Try.prog 66 [i64 x, i64 y] (i64 (cmpV x y)) := by
  refine acalls_st (rs := [i64 (cmpV x y)]) [.tmp 4] Try.func66 rfl (by kernel_rfl) Try.ntmps66 rfl (by simp) rfl fun C vs => ?_
  repeat refine awp_seq ?_
  refine awp_reg (by kernel_rfl) fun K hK => ?_
  simp only [go_sem]
  (try simp (disch := omega) only [wrapI])
  repeat first | intro _ | refine ⟨(by omega), ?_⟩ | refine ⟨⟨by omega, by omega⟩, ?_⟩
  refine hK _ ?_
  clear hK K
  repeat refine awp_seq ?_
  refine awp_reg (by kernel_rfl) fun K hK => ?_
  simp only [go_sem]
  (try simp (disch := omega) only [wrapI])
  refine xcall_eq (nan_ok x) rfl (by simp only [go_sem, i64, ints]) (by simp only [go_sem, i64, ints]) (by first | exact .inl rfl | exact .inr rfl) ?_
  (try simp only [go_sem])
  (try simp (disch := omega) only [wrapI])
  repeat first | intro _ | refine ⟨(by omega), ?_⟩ | refine ⟨⟨by omega, by omega⟩, ?_⟩
  refine hK _ ?_
  clear hK K
  repeat refine awp_seq ?_
  refine awp_reg (by kernel_rfl) fun K hK => ?_
  simp only [go_sem]
  (try simp (disch := omega) only [wrapI])
  refine xcall_eq (nan_ok y) rfl (by simp only [go_sem, i64, ints]) (by simp only [go_sem, i64, ints]) (by first | exact .inl rfl | exact .inr rfl) ?_
  (try simp only [go_sem])
  (try simp (disch := omega) only [wrapI])
  repeat first | intro _ | refine ⟨(by omega), ?_⟩ | refine ⟨⟨by omega, by omega⟩, ?_⟩
  refine hK _ ?_
  clear hK K
  repeat refine awp_seq ?_
  refine awp_reg (by kernel_rfl) fun K hK => ?_
  simp only [go_sem]
  (try simp (disch := omega) only [wrapI])
  repeat first | intro _ | refine ⟨(by omega), ?_⟩ | refine ⟨⟨by omega, by omega⟩, ?_⟩
  refine hK _ ?_
  clear hK K
  repeat refine awp_seq ?_
  refine awp_cond rfl (fun hc => ?_) (fun hc => ?_) <;> (try simp only [go_sem] at hc)
  refine awp_skip ?_
  try simp only [go_sem]
  repeat refine awp_seq ?_
  refine awp_reg (by kernel_rfl) fun K hK => ?_
  simp only [go_sem]
  (try simp (disch := omega) only [wrapI])
  repeat first | intro _ | refine ⟨(by omega), ?_⟩ | refine ⟨⟨by omega, by omega⟩, ?_⟩
  refine hK _ ?_
  clear hK K
  repeat refine awp_seq ?_
  refine awp_cond rfl (fun hc => ?_) (fun hc => ?_) <;> (try simp only [go_sem] at hc)
  refine awp_skip ?_
  try simp only [go_sem]
  repeat refine awp_seq ?_
  refine awp_reg (by kernel_rfl) fun K hK => ?_
  simp only [go_sem]
  (try simp (disch := omega) only [wrapI])
  repeat first | intro _ | refine ⟨(by omega), ?_⟩ | refine ⟨⟨by omega, by omega⟩, ?_⟩
  refine hK _ ?_
  clear hK K
  by_cases h1 : x < y
  · have e1 : decide (x < y) = true := by simp [h1]
    rw [e1]
    repeat refine awp_seq ?_
    refine awp_cond rfl (fun hc => ?_) (fun hc => ?_) <;> (try simp only [go_sem] at hc)
    repeat refine awp_seq ?_
    refine awp_reg (by kernel_rfl) fun K hK => ?_
    simp only [go_sem]
    (try simp (disch := omega) only [wrapI])
    repeat first | intro _ | refine ⟨(by omega), ?_⟩ | refine ⟨⟨by omega, by omega⟩, ?_⟩
    refine hK _ ?_
    clear hK K
    refine awp_ret ?_
    simp only [go_sem]
    simp [cmpV, h1]
  have e1 : decide (x < y) = false := by simp [h1]
  rw [e1]
  repeat refine awp_seq ?_
  refine awp_cond rfl (fun hc => ?_) (fun hc => ?_) <;> (try simp only [go_sem] at hc)
  refine awp_skip ?_
  try simp only [go_sem]
  repeat refine awp_seq ?_
  refine awp_reg (by kernel_rfl) fun K hK => ?_
  simp only [go_sem]
  (try simp (disch := omega) only [wrapI])
  repeat first | intro _ | refine ⟨(by omega), ?_⟩ | refine ⟨⟨by omega, by omega⟩, ?_⟩
  refine hK _ ?_
  clear hK K
  by_cases h2 : y < x
  · have e1 : decide (y < x) = true := by simp [h2]
    rw [e1]
    repeat refine awp_seq ?_
    refine awp_cond rfl (fun hc => ?_) (fun hc => ?_) <;> (try simp only [go_sem] at hc)
    repeat refine awp_seq ?_
    refine awp_reg (by kernel_rfl) fun K hK => ?_
    simp only [go_sem]
    (try simp (disch := omega) only [wrapI])
    repeat first | intro _ | refine ⟨(by omega), ?_⟩ | refine ⟨⟨by omega, by omega⟩, ?_⟩
    refine hK _ ?_
    clear hK K
    refine awp_ret ?_
    simp only [go_sem]
    simp [cmpV, h1, h2]
  have e1 : decide (y < x) = false := by simp [h2]
  rw [e1]
  repeat refine awp_seq ?_
  refine awp_cond rfl (fun hc => ?_) (fun hc => ?_) <;> (try simp only [go_sem] at hc)
  refine awp_skip ?_
  try simp only [go_sem]
  repeat refine awp_seq ?_
  refine awp_reg (by kernel_rfl) fun K hK => ?_
  simp only [go_sem]
  (try simp (disch := omega) only [wrapI])
  repeat first | intro _ | refine ⟨(by omega), ?_⟩ | refine ⟨⟨by omega, by omega⟩, ?_⟩
  refine hK _ ?_
  clear hK K
  refine awp_ret ?_
  simp only [go_sem]
  simp [cmpV, h1, h2]
theorem or_ok (a b : Int) : ACalls Try.prog 65 [.sl 1 [[i64 a], [i64 b]]] (i64 (if a ≠ 0 then a else b)) := by
  refine acalls_st (rs := [i64 (if a ≠ 0 then a else b)]) [.tmp 2] Try.func65 rfl (by kernel_rfl) Try.ntmps65 rfl (by simp) rfl fun C vs => ?_
  repeat refine awp_seq ?_
  refine awp_reg (by kernel_rfl) fun K hK => ?_
  simp only [go_sem]
  (try simp (disch := omega) only [wrapI])
  repeat first | intro _ | refine ⟨(by omega), ?_⟩ | refine ⟨⟨by omega, by omega⟩, ?_⟩
  refine hK _ ?_
  clear hK K
  repeat refine awp_seq ?_
  refine awp_reg (by kernel_rfl) fun K hK => ?_
  simp only [go_sem]
  (try simp (disch := omega) only [wrapI])
  repeat first | intro _ | refine ⟨(by omega), ?_⟩ | refine ⟨⟨by omega, by omega⟩, ?_⟩
  refine hK _ ?_
  clear hK K
  repeat refine awp_seq ?_
  refine awp_reg (by kernel_rfl) fun K hK => ?_
  simp only [go_sem]
  (try simp (disch := omega) only [wrapI])
  repeat first | intro _ | refine ⟨(by omega), ?_⟩ | refine ⟨⟨by omega, by omega⟩, ?_⟩
  refine hK _ ?_
  clear hK K
  repeat refine awp_seq ?_
  refine awp_block ?_
  refine awp_upto (n := 18) 2 (fun i vs => [(3, .r (i64 0)), (6, .r (.sl 1 [[i64 a], [i64 b]])), (7, .r (i64 2)), (8, .r (i64 i))]) (fun _ => [])
    (fun i => (1 ≤ i → a = 0) ∧ (2 ≤ i → b = 0)) 0 (fit_of [] ?_ rfl) (Nat.zero_le _) ⟨by omega, by omega⟩ ?_
  · try simp only [go_sem]
  · rintro i vs hi ⟨hA, hB⟩
    have h3 : i = 0 ∨ i = 1 ∨ i = 2 := by omega
    rcases h3 with rfl | rfl | rfl
    · repeat refine awp_seq ?_
      refine awp_reg (by kernel_rfl) fun K hK => ?_
      simp only [go_sem]
      (try simp (disch := omega) only [wrapI])
      repeat first | intro _ | refine ⟨(by omega), ?_⟩ | refine ⟨⟨by omega, by omega⟩, ?_⟩
      refine hK _ ?_
      clear hK K
      repeat refine awp_seq ?_
      refine awp_cond rfl (fun hc => ?_) (fun hc => ?_) <;> (try simp only [go_sem] at hc)
      refine awp_skip ?_
      repeat refine awp_seq ?_
      refine awp_block ?_
      repeat refine awp_seq ?_
      refine awp_reg (by kernel_rfl) fun K hK => ?_
      simp only [go_sem]
      (try simp (disch := omega) only [wrapI])
      repeat first | intro _ | refine ⟨(by omega), ?_⟩ | refine ⟨⟨by omega, by omega⟩, ?_⟩
      refine hK _ ?_
      clear hK K
      repeat refine awp_seq ?_
      refine awp_reg (by kernel_rfl) fun K hK => ?_
      simp only [go_sem]
      (try simp (disch := omega) only [wrapI])
      by_cases ha : a = 0
      · have e1 : (a != 0) = false := by simp [ha]
        rw [e1]
        repeat first | intro _ | refine ⟨(by omega), ?_⟩ | refine ⟨⟨by omega, by omega⟩, ?_⟩
        refine hK _ ?_
        clear hK K
        repeat refine awp_seq ?_
        refine awp_cond rfl (fun hc => ?_) (fun hc => ?_) <;> (try simp only [go_sem] at hc)
        refine awp_skip ?_
        try simp only [go_sem]
        repeat refine awp_seq ?_
        refine awp_reg (by kernel_rfl) fun K hK => ?_
        simp only [go_sem]
        (try simp (disch := omega) only [wrapI])
        repeat first | intro _ | refine ⟨(by omega), ?_⟩ | refine ⟨⟨by omega, by omega⟩, ?_⟩
        refine hK _ ?_
        clear hK K
        try simp only [go_sem]
        refine ⟨ha, fit_of [] ?_ rfl⟩
        try simp only [go_sem]
      · have e1 : (a != 0) = true := by simp [ha]
        rw [e1]
        repeat first | intro _ | refine ⟨(by omega), ?_⟩ | refine ⟨⟨by omega, by omega⟩, ?_⟩
        refine hK _ ?_
        clear hK K
        repeat refine awp_seq ?_
        refine awp_cond rfl (fun hc => ?_) (fun hc => ?_) <;> (try simp only [go_sem] at hc)
        repeat refine awp_seq ?_
        refine awp_reg (by kernel_rfl) fun K hK => ?_
        simp only [go_sem]
        (try simp (disch := omega) only [wrapI])
        repeat first | intro _ | refine ⟨(by omega), ?_⟩ | refine ⟨⟨by omega, by omega⟩, ?_⟩
        refine hK _ ?_
        clear hK K
        refine awp_ret ?_
        simp only [go_sem]
        simp [ha]
    · have ha := hA (by omega)
      repeat refine awp_seq ?_
      refine awp_reg (by kernel_rfl) fun K hK => ?_
      simp only [go_sem]
      (try simp (disch := omega) only [wrapI])
      repeat first | intro _ | refine ⟨(by omega), ?_⟩ | refine ⟨⟨by omega, by omega⟩, ?_⟩
      refine hK _ ?_
      clear hK K
      repeat refine awp_seq ?_
      refine awp_cond rfl (fun hc => ?_) (fun hc => ?_) <;> (try simp only [go_sem] at hc)
      refine awp_skip ?_
      repeat refine awp_seq ?_
      refine awp_block ?_
      repeat refine awp_seq ?_
      refine awp_reg (by kernel_rfl) fun K hK => ?_
      simp only [go_sem]
      (try simp (disch := omega) only [wrapI])
      repeat first | intro _ | refine ⟨(by omega), ?_⟩ | refine ⟨⟨by omega, by omega⟩, ?_⟩
      refine hK _ ?_
      clear hK K
      repeat refine awp_seq ?_
      refine awp_reg (by kernel_rfl) fun K hK => ?_
      simp only [go_sem]
      (try simp (disch := omega) only [wrapI])
      by_cases hb : b = 0
      · have e1 : (b != 0) = false := by simp [hb]
        rw [e1]
        repeat first | intro _ | refine ⟨(by omega), ?_⟩ | refine ⟨⟨by omega, by omega⟩, ?_⟩
        refine hK _ ?_
        clear hK K
        repeat refine awp_seq ?_
        refine awp_cond rfl (fun hc => ?_) (fun hc => ?_) <;> (try simp only [go_sem] at hc)
        refine awp_skip ?_
        try simp only [go_sem]
        repeat refine awp_seq ?_
        refine awp_reg (by kernel_rfl) fun K hK => ?_
        simp only [go_sem]
        (try simp (disch := omega) only [wrapI])
        repeat first | intro _ | refine ⟨(by omega), ?_⟩ | refine ⟨⟨by omega, by omega⟩, ?_⟩
        refine hK _ ?_
        clear hK K
        try simp only [go_sem]
        refine ⟨⟨ha, hb⟩, fit_of [] ?_ rfl⟩
        try simp only [go_sem]
      · have e1 : (b != 0) = true := by simp [hb]
        rw [e1]
        repeat first | intro _ | refine ⟨(by omega), ?_⟩ | refine ⟨⟨by omega, by omega⟩, ?_⟩
        refine hK _ ?_
        clear hK K
        repeat refine awp_seq ?_
        refine awp_cond rfl (fun hc => ?_) (fun hc => ?_) <;> (try simp only [go_sem] at hc)
        repeat refine awp_seq ?_
        refine awp_reg (by kernel_rfl) fun K hK => ?_
        simp only [go_sem]
        (try simp (disch := omega) only [wrapI])
        repeat first | intro _ | refine ⟨(by omega), ?_⟩ | refine ⟨⟨by omega, by omega⟩, ?_⟩
        refine hK _ ?_
        clear hK K
        refine awp_ret ?_
        simp only [go_sem]
        simp [ha]
    · have ha := hA (by omega)
      have hb := hB (by omega)
      repeat refine awp_seq ?_
      refine awp_reg (by kernel_rfl) fun K hK => ?_
      simp only [go_sem]
      (try simp (disch := omega) only [wrapI])
      repeat first | intro _ | refine ⟨(by omega), ?_⟩ | refine ⟨⟨by omega, by omega⟩, ?_⟩
      refine hK _ ?_
      clear hK K
      repeat refine awp_seq ?_
      refine awp_cond rfl (fun hc => ?_) (fun hc => ?_) <;> (try simp only [go_sem] at hc)
      refine awp_exit ?_
      simp only [go_sem]
      repeat refine awp_seq ?_
      refine awp_reg (by kernel_rfl) fun K hK => ?_
      simp only [go_sem]
      (try simp (disch := omega) only [wrapI])
      repeat first | intro _ | refine ⟨(by omega), ?_⟩ | refine ⟨⟨by omega, by omega⟩, ?_⟩
      refine hK _ ?_
      clear hK K
      refine awp_ret ?_
      simp only [go_sem]
      simp [ha, hb]
/-- Who has won with a lead. -/
def leadW (p l : Int) : Int := if 0 < p then 0 else if p < 0 then 1 else if 0 < l then 0 else if l < 0 then 1 else 2
theorem winner_ok (p l : Int) : ACalls Try.prog 42 [.ag [i64 p, i64 l]] (i64 (leadW p l)) := by
  refine acalls_st (rs := [i64 (leadW p l)]) [.tmp 2] Try.func42 rfl (by kernel_rfl) Try.ntmps42 rfl (by simp) rfl fun C vs => ?_
  repeat refine awp_seq ?_
  refine awp_reg (by kernel_rfl) fun K hK => ?_
  simp only [go_sem]
  (try simp (disch := omega) only [wrapI])
  repeat first | intro _ | refine ⟨(by omega), ?_⟩ | refine ⟨⟨by omega, by omega⟩, ?_⟩
  refine hK _ ?_
  clear hK K
  repeat refine awp_seq ?_
  refine awp_dreg follows (by decide +kernel) (by kernel_rfl) fun K hK => ?_
  simp only [go_sem]
  (try simp (disch := omega) only [wrapI])
  refine xcall_eq (compare_ok p 0) rfl (by simp only [go_sem, i64, ints]) (by simp only [go_sem, i64, ints]) (by first | exact .inl rfl | exact .inr rfl) ?_
  (try simp only [go_sem])
  (try simp (disch := omega) only [wrapI])
  refine xcall_eq (compare_ok l 0) rfl (by simp only [go_sem, i64, ints]) (by simp only [go_sem, i64, ints]) (by first | exact .inl rfl | exact .inr rfl) ?_
  (try simp only [go_sem])
  (try simp (disch := omega) only [wrapI])
  refine xcall_eq (or_ok (cmpV p 0) (cmpV l 0)) rfl (by simp only [go_sem, i64, ints]) (by simp only [go_sem, i64, ints]) (by first | exact .inl rfl | exact .inr rfl) ?_
  (try simp only [go_sem])
  (try simp (disch := omega) only [wrapI])
  repeat first | intro _ | refine ⟨(by omega), ?_⟩ | refine ⟨⟨by omega, by omega⟩, ?_⟩
  refine hK _ ?_
  clear hK K
  have hv : (if cmpV p 0 ≠ 0 then cmpV p 0 else cmpV l 0) = if 0 < p then 1 else if p < 0 then -1 else if 0 < l then 1 else if l < 0 then -1 else 0 := by
    simp only [cmpV]
    (repeat' split) <;> omega
  rw [hv]
  repeat refine awp_seq ?_
  refine awp_block ?_
  repeat refine awp_seq ?_
  refine awp_reg (by kernel_rfl) fun K hK => ?_
  simp only [go_sem]
  (try simp (disch := omega) only [wrapI])
  repeat first | intro _ | refine ⟨(by omega), ?_⟩ | refine ⟨⟨by omega, by omega⟩, ?_⟩
  refine hK _ ?_
  clear hK K
  generalize hz : (if 0 < p then (1 : Int) else if p < 0 then -1 else if 0 < l then 1 else if l < 0 then -1 else 0) = z
  have hw : leadW p l = if z = 1 then 0 else if z = -1 then 1 else 2 := by
    rw [← hz]
    unfold leadW
    (repeat' split) <;> omega
  rw [hw]
  by_cases h1 : z = 1
  · have e1 : (z == 1) = true := by simp [h1]
    rw [e1]
    repeat refine awp_seq ?_
    refine awp_cond rfl (fun hc => ?_) (fun hc => ?_) <;> (try simp only [go_sem] at hc)
    repeat refine awp_seq ?_
    refine awp_reg (by kernel_rfl) fun K hK => ?_
    simp only [go_sem]
    (try simp (disch := omega) only [wrapI])
    repeat first | intro _ | refine ⟨(by omega), ?_⟩ | refine ⟨⟨by omega, by omega⟩, ?_⟩
    refine hK _ ?_
    clear hK K
    refine awp_ret ?_
    simp only [go_sem]
    simp [h1]
  have e1 : (z == 1) = false := by simp [h1]
  rw [e1]
  repeat refine awp_seq ?_
  refine awp_cond rfl (fun hc => ?_) (fun hc => ?_) <;> (try simp only [go_sem] at hc)
  repeat refine awp_seq ?_
  refine awp_reg (by kernel_rfl) fun K hK => ?_
  simp only [go_sem]
  (try simp (disch := omega) only [wrapI])
  repeat first | intro _ | refine ⟨(by omega), ?_⟩ | refine ⟨⟨by omega, by omega⟩, ?_⟩
  refine hK _ ?_
  clear hK K
  by_cases h2 : z = -1
  · have e1 : (z == -1) = true := by simp [h2]
    rw [e1]
    repeat refine awp_seq ?_
    refine awp_cond rfl (fun hc => ?_) (fun hc => ?_) <;> (try simp only [go_sem] at hc)
    repeat refine awp_seq ?_
    refine awp_reg (by kernel_rfl) fun K hK => ?_
    simp only [go_sem]
    (try simp (disch := omega) only [wrapI])
    repeat first | intro _ | refine ⟨(by omega), ?_⟩ | refine ⟨⟨by omega, by omega⟩, ?_⟩
    refine hK _ ?_
    clear hK K
    refine awp_ret ?_
    simp only [go_sem]
    simp [h2]
  have e1 : (z == -1) = false := by simp [h2]
  rw [e1]
  repeat refine awp_seq ?_
  refine awp_cond rfl (fun hc => ?_) (fun hc => ?_) <;> (try simp only [go_sem] at hc)
  refine awp_skip ?_
  try simp only [go_sem]
  repeat refine awp_seq ?_
  refine awp_reg (by kernel_rfl) fun K hK => ?_
  simp only [go_sem]
  (try simp (disch := omega) only [wrapI])
  repeat first | intro _ | refine ⟨(by omega), ?_⟩ | refine ⟨⟨by omega, by omega⟩, ?_⟩
  refine hK _ ?_
  clear hK K
  refine awp_ret ?_
  simp only [go_sem]
  simp [h1, h2]
structure Sheet where
  gm : Int
  ho : Int
  aw : Int
  wk : Int
abbrev sheetC (x : Sheet) : List RV := [i64 x.gm, i64 x.ho, i64 x.aw, i64 x.wk]
def legsOf (r : Rules) (i : Int) : Int := match r.gs[i.toNat]? with | some g => g.lg | none => 0
/-- The sheet is valid. -/
def sheetB (r : Rules) (x : Sheet) : Bool :=
  withinL 0 ((r.gs.length : Int) - 1) [x.gm] && withinL 0 2 [x.wk] &&
    (if x.wk = 0 then decide (max x.ho x.aw = legsOf r x.gm) && withinL 0 (legsOf r x.gm - 1) [min x.ho x.aw] else decide (x.ho = 0) && decide (x.aw = 0))
theorem isSheet_ok (r : Rules) (x : Sheet) (hr : rulesB r = true) : ACalls Try.prog 21 [.ag (rulesC r), .ag (sheetC x)] (.bo (sheetB r x)) := by
  obtain ⟨_, ⟨f3, f4⟩, _, f7, _⟩ := rulesB_facts hr
  refine acalls_st (rs := [.bo (sheetB r x)]) [.tmp 4] Try.func21 rfl (by kernel_rfl) Try.ntmps21 rfl (by simp) rfl fun C vs => ?_
  repeat refine awp_seq ?_
  refine awp_reg (by kernel_rfl) fun K hK => ?_
  simp only [go_sem]
  (try simp (disch := omega) only [wrapI])
  repeat first | intro _ | refine ⟨(by omega), ?_⟩ | refine ⟨⟨by omega, by omega⟩, ?_⟩
  refine hK _ ?_
  clear hK K
  repeat refine awp_seq ?_
  refine awp_reg (by kernel_rfl) fun K hK => ?_
  simp only [go_sem]
  (try simp (disch := omega) only [wrapI])
  intro _
  refine xcall_eq (within_ok 0 ((r.gs.length : Int) - 1) [x.gm]) rfl (by simp only [go_sem, i64, ints]) (by simp only [go_sem, i64, ints]) (by first | exact .inl rfl | exact .inr rfl) ?_
  (try simp only [go_sem])
  (try simp (disch := omega) only [wrapI])
  cases h1 : withinL 0 ((r.gs.length : Int) - 1) [x.gm]
  · try simp only [go_sem]
    repeat first | intro _ | refine ⟨(by omega), ?_⟩ | refine ⟨⟨by omega, by omega⟩, ?_⟩
    refine hK _ ?_
    clear hK K
    repeat refine awp_seq ?_
    refine awp_cond rfl (fun hc => ?_) (fun hc => ?_) <;> (try simp only [go_sem] at hc)
    repeat refine awp_seq ?_
    refine awp_reg (by kernel_rfl) fun K hK => ?_
    simp only [go_sem]
    (try simp (disch := omega) only [wrapI])
    repeat first | intro _ | refine ⟨(by omega), ?_⟩ | refine ⟨⟨by omega, by omega⟩, ?_⟩
    refine hK _ ?_
    clear hK K
    refine awp_ret ?_
    simp only [go_sem]
    simp [sheetB, h1]
  try simp only [go_sem]
  refine xcall_eq (within_ok 0 2 [x.wk]) rfl (by simp only [go_sem, i64, ints]) (by simp only [go_sem, i64, ints]) (by first | exact .inl rfl | exact .inr rfl) ?_
  (try simp only [go_sem])
  (try simp (disch := omega) only [wrapI])
  cases h2 : withinL 0 2 [x.wk]
  · try simp only [go_sem]
    repeat first | intro _ | refine ⟨(by omega), ?_⟩ | refine ⟨⟨by omega, by omega⟩, ?_⟩
    refine hK _ ?_
    clear hK K
    repeat refine awp_seq ?_
    refine awp_cond rfl (fun hc => ?_) (fun hc => ?_) <;> (try simp only [go_sem] at hc)
    repeat refine awp_seq ?_
    refine awp_reg (by kernel_rfl) fun K hK => ?_
    simp only [go_sem]
    (try simp (disch := omega) only [wrapI])
    repeat first | intro _ | refine ⟨(by omega), ?_⟩ | refine ⟨⟨by omega, by omega⟩, ?_⟩
    refine hK _ ?_
    clear hK K
    refine awp_ret ?_
    simp only [go_sem]
    simp [sheetB, h1, h2]
  try simp only [go_sem]
  repeat first | intro _ | refine ⟨(by omega), ?_⟩ | refine ⟨⟨by omega, by omega⟩, ?_⟩
  refine hK _ ?_
  clear hK K
  repeat refine awp_seq ?_
  refine awp_cond rfl (fun hc => ?_) (fun hc => ?_) <;> (try simp only [go_sem] at hc)
  refine awp_skip ?_
  try simp only [go_sem]
  have g1 := withinL_one h1
  have g2 := withinL_one h2
  obtain ⟨i, hi⟩ := Int.eq_ofNat_of_zero_le g1.1
  obtain ⟨g, hg⟩ := opt_of_lt (l := r.gs) (i := i) (by omega)
  obtain ⟨_, ⟨g5, g6⟩, _⟩ := f7 g (mem_of_opt hg)
  have hlg : legsOf r x.gm = g.lg := by rw [legsOf, hi, Int.toNat_natCast, hg]
  have hti : x.gm.toNat = i := by rw [hi, Int.toNat_natCast]
  have hz0 : (0 : Int) ≤ x.gm := by omega
  have hz1 : x.gm < r.gs.length := by omega
  repeat refine awp_seq ?_
  refine awp_reg (by kernel_rfl) fun K hK => ?_
  simp only [go_sem, hti, hg, hz0, hz1]
  (try simp (disch := omega) only [wrapI])
  repeat first | intro _ | refine ⟨(by omega), ?_⟩ | refine ⟨⟨by omega, by omega⟩, ?_⟩
  refine hK _ ?_
  clear hK K
  repeat refine awp_seq ?_
  refine awp_reg (by kernel_rfl) fun K hK => ?_
  simp only [go_sem]
  (try simp (disch := omega) only [wrapI])
  repeat first | intro _ | refine ⟨(by omega), ?_⟩ | refine ⟨⟨by omega, by omega⟩, ?_⟩
  refine hK _ ?_
  clear hK K
  by_cases h3 : x.wk = 0
  · have e1 : (x.wk != 0) = false := by simp [h3]
    rw [e1]
    repeat refine awp_seq ?_
    refine awp_cond rfl (fun hc => ?_) (fun hc => ?_) <;> (try simp only [go_sem] at hc)
    refine awp_skip ?_
    try simp only [go_sem]
    repeat refine awp_seq ?_
    refine awp_reg (by kernel_rfl) fun K hK => ?_
    simp only [go_sem]
    (try simp (disch := omega) only [wrapI])
    by_cases h4 : max x.ho x.aw = g.lg
    · have e2 : (max x.ho x.aw = g.lg) = True := by simp [h4]
      have e3 : (max x.ho x.aw ≠ g.lg) = False := by simp [h4]
      simp only [e2, e3, go_sem]
      refine xcall_eq (within_ok 0 (g.lg - 1) [min x.ho x.aw]) rfl (by simp only [go_sem, i64, ints]) (by simp only [go_sem, i64, ints]) (by first | exact .inl rfl | exact .inr rfl) ?_
      (try simp only [go_sem])
      (try simp (disch := omega) only [wrapI])
      repeat first | intro _ | refine ⟨(by omega), ?_⟩ | refine ⟨⟨by omega, by omega⟩, ?_⟩
      refine hK _ ?_
      clear hK K
      refine awp_ret ?_
      simp only [go_sem]
      rw [h3] at h2
      simp [sheetB, h1, h2, h3, hlg, h4]
    · have e2 : (max x.ho x.aw = g.lg) = False := by simp [h4]
      have e3 : (max x.ho x.aw ≠ g.lg) = True := by simp [h4]
      simp only [e2, e3, go_sem]
      repeat first | intro _ | refine ⟨(by omega), ?_⟩ | refine ⟨⟨by omega, by omega⟩, ?_⟩
      refine hK _ ?_
      clear hK K
      refine awp_ret ?_
      simp only [go_sem]
      simp [sheetB, h1, h2, h3, hlg, h4]
  · have e1 : (x.wk != 0) = true := by simp [h3]
    rw [e1]
    repeat refine awp_seq ?_
    refine awp_cond rfl (fun hc => ?_) (fun hc => ?_) <;> (try simp only [go_sem] at hc)
    repeat refine awp_seq ?_
    refine awp_reg (by kernel_rfl) fun K hK => ?_
    simp only [go_sem]
    (try simp (disch := omega) only [wrapI])
    by_cases h4 : x.ho = 0
    · have e2 : (x.ho = 0) = True := by simp [h4]
      have e3 : (x.ho ≠ 0) = False := by simp [h4]
      simp only [e2, e3, go_sem]
      repeat first | intro _ | refine ⟨(by omega), ?_⟩ | refine ⟨⟨by omega, by omega⟩, ?_⟩
      refine hK _ ?_
      clear hK K
      refine awp_ret ?_
      simp only [go_sem]
      simp [sheetB, h1, h2, h3, h4]
      rfl
    · have e2 : (x.ho = 0) = False := by simp [h4]
      have e3 : (x.ho ≠ 0) = True := by simp [h4]
      simp only [e2, e3, go_sem]
      repeat first | intro _ | refine ⟨(by omega), ?_⟩ | refine ⟨⟨by omega, by omega⟩, ?_⟩
      refine hK _ ?_
      clear hK K
      refine awp_ret ?_
      simp only [go_sem]
      simp [sheetB, h1, h2, h3, h4]
/-! ### Results -/
structure Res where
  p0 : Int
  p1 : Int
  g0 : Int
  g1 : Int
  l0 : Int
  l1 : Int
  op : List Int
  w : Int
abbrev resC (t : Res) : List RV := [i64 t.p0, i64 t.p1, i64 t.g0, i64 t.g1, i64 t.l0, i64 t.l1, ints t.op, i64 t.w]
def zeroR : Res := ⟨0, 0, 0, 0, 0, 0, [], 0⟩
/-- A game counted with its legs for both sides. -/
def addL (g : Game) (h a : Int) (t : Res) : Res :=
  ⟨if a > h then t.p0 else t.p0 + g.pt, if a > h then t.p1 + g.pt else t.p1, if a > h then t.g0 else t.g0 + 1, if a > h then t.g1 + 1 else t.g1, t.l0 + h, t.l1 + a, t.op, t.w⟩
def smallR (t : Res) : Prop := (0 ≤ t.p0 ∧ t.p0 ≤ 100000) ∧ (0 ≤ t.p1 ∧ t.p1 ≤ 100000) ∧ (0 ≤ t.g0 ∧ t.g0 ≤ 100000) ∧ (0 ≤ t.g1 ∧ t.g1 ≤ 100000) ∧ (0 ≤ t.l0 ∧ t.l0 ≤ 100000) ∧ (0 ≤ t.l1 ∧ t.l1 ≤ 100000)
end Go.Proofs.Ytaniakoadbkadaa

/- What a sheet counts, and what the open games can bring. -/
namespace Go.Proofs.Ytaniakoadbkadaa
open Go Go.Oc
set_option linter.unusedSimpArgs false
set_option linter.unusedVariables false
set_option maxRecDepth 8000
def scoreL (r : Rules) (x : Sheet) : Int × Int := if x.wk = 0 then (x.ho, x.aw) else if x.wk = 1 then (legsOf r x.gm, 0) else (0, legsOf r x.gm)
abbrev nightC (r : Rules) (t : Res) (oc mc : RV) : List RV := [i64 r.squad, games r.gs, i64 r.most, i64 r.bonus, i64 t.p0, i64 t.p1, i64 t.g0, i64 t.g1, i64 t.l0, i64 t.l1, oc, i64 t.w, mc]
theorem sheet_game {r : Rules} {x : Sheet} (hr : rulesB r = true) (h : sheetB r x = true) : ∃ i g, x.gm = ((i : Nat) : Int) ∧ i < r.gs.length ∧ r.gs[i]? = some g ∧ legsOf r x.gm = g.lg ∧ (1 ≤ g.lg ∧ g.lg ≤ 15) ∧ (0 ≤ g.pt ∧ g.pt ≤ 99) ∧ (x.wk = 0 ∨ x.wk = 1 ∨ x.wk = 2) ∧ (0 ≤ (scoreL r x).1 ∧ (scoreL r x).1 ≤ 15 ∧ 0 ≤ (scoreL r x).2 ∧ (scoreL r x).2 ≤ 15) := by
  obtain ⟨_, ⟨f3, f4⟩, _, f7, _⟩ := rulesB_facts hr
  simp only [sheetB, Bool.and_eq_true] at h
  obtain ⟨⟨h1, h2⟩, h3⟩ := h
  have g1 := withinL_one h1
  have g2 := withinL_one h2
  obtain ⟨i, hi⟩ := Int.eq_ofNat_of_zero_le g1.1
  obtain ⟨g, hg⟩ := opt_of_lt (l := r.gs) (i := i) (by omega)
  obtain ⟨_, g5, g6⟩ := f7 g (mem_of_opt hg)
  have hlg : legsOf r x.gm = g.lg := by rw [legsOf, hi, Int.toNat_natCast, hg]
  refine ⟨i, g, hi, by omega, hg, hlg, g5, g6, by omega, ?_⟩
  rw [hlg] at h3
  unfold scoreL
  rw [hlg]
  split
  · rename_i h0
    rw [if_pos h0] at h3
    simp only [Bool.and_eq_true, decide_eq_true_eq] at h3
    have := withinL_one h3.2
    simp only
    omega
  · split <;> (simp only; omega)
theorem scores_ok (r : Rules) (t : Res) (oc mc : RV) (x : Sheet) (hr : rulesB r = true) (hx : sheetB r x = true) : ACalls Try.prog 64 [.rp (nightC r t oc mc), .ag (sheetC x)] (.ag [i64 (scoreL r x).1, i64 (scoreL r x).2]) := by
  obtain ⟨i, g, hi, hil, hg, hlg, g5, g6, hwk, _⟩ := sheet_game hr hx
  have hz0 : (0 : Int) ≤ x.gm := by omega
  have hz1 : x.gm < r.gs.length := by omega
  have hti : x.gm.toNat = i := by rw [hi, Int.toNat_natCast]
  refine acalls_st (rs := [.ag [i64 (scoreL r x).1, i64 (scoreL r x).2]]) [.cell 4 28] Try.func64 rfl (by kernel_rfl) Try.ntmps64 rfl (by simp) rfl fun C vs => ?_
  repeat refine awp_seq ?_
  refine awp_reg (by kernel_rfl) fun K hK => ?_
  simp only [go_sem]
  (try simp (disch := omega) only [wrapI])
  repeat first | intro _ | refine ⟨(by omega), ?_⟩ | refine ⟨⟨by omega, by omega⟩, ?_⟩
  refine hK _ ?_
  clear hK K
  repeat refine awp_seq ?_
  refine awp_dreg follows (by decide +kernel) (by kernel_rfl) fun K hK => ?_
  simp only [go_sem, hti, hg, hz0, hz1]
  (try simp (disch := omega) only [wrapI])
  repeat first | intro _ | refine ⟨(by omega), ?_⟩ | refine ⟨⟨by omega, by omega⟩, ?_⟩
  refine hK _ ?_
  clear hK K
  repeat refine awp_seq ?_
  refine awp_reg (by kernel_rfl) fun K hK => ?_
  simp only [go_sem]
  (try simp (disch := omega) only [wrapI])
  rcases hwk with h | h | h
  · simp only [h, go_sem]
    refine ⟨by decide, ?_⟩
    repeat first | intro _ | refine ⟨(by omega), ?_⟩ | refine ⟨⟨by omega, by omega⟩, ?_⟩
    refine hK _ ?_
    clear hK K
    refine awp_ret ?_
    simp only [go_sem]
    simp [scoreL, h]
  · simp only [h, go_sem]
    refine ⟨by decide, ?_⟩
    repeat first | intro _ | refine ⟨(by omega), ?_⟩ | refine ⟨⟨by omega, by omega⟩, ?_⟩
    refine hK _ ?_
    clear hK K
    refine awp_ret ?_
    simp only [go_sem]
    simp [scoreL, h, hlg]
  · simp only [h, go_sem]
    refine ⟨by decide, ?_⟩
    repeat first | intro _ | refine ⟨(by omega), ?_⟩ | refine ⟨⟨by omega, by omega⟩, ?_⟩
    refine hK _ ?_
    clear hK K
    refine awp_ret ?_
    simp only [go_sem]
    simp [scoreL, h, hlg]
/-- What the open games bring. -/
def openP (r : Rules) (op : List Int) : Int := (op.map fun i => match r.gs[i.toNat]? with | some g => g.pt | none => 0).sum
def openG (r : Rules) (op : List Int) : Int := (op.map fun i => legsOf r i).sum
theorem open_bounds {r : Rules} (hr : rulesB r = true) (q : List Int) : (0 ≤ openP r q ∧ openP r q ≤ 99 * q.length) ∧ 0 ≤ openG r q ∧ openG r q ≤ 15 * q.length := by
  obtain ⟨_, _, _, f7, _⟩ := rulesB_facts hr
  have h1 := sum_le 99 (q.map fun i => match r.gs[i.toNat]? with | some g => g.pt | none => 0) (fun y hy => by
    obtain ⟨i, _, rfl⟩ := List.mem_map.1 hy
    cases h : r.gs[i.toNat]? with
    | none => simp
    | some g => have := (f7 g (mem_of_opt h)).2.2; simpa using this)
  have h2 := sum_le 15 (q.map fun i => legsOf r i) (fun y hy => by
    obtain ⟨i, _, rfl⟩ := List.mem_map.1 hy
    unfold legsOf
    cases h : r.gs[i.toNat]? with
    | none => simp
    | some g => have := (f7 g (mem_of_opt h)).2.1; simp only; omega)
  rw [List.length_map] at h1 h2
  exact ⟨h1, h2⟩
theorem openP_snoc {r : Rules} {q : List Int} {i : Nat} {g : Game} (hg : r.gs[i]? = some g) : openP r (q ++ [(i : Int)]) = openP r q + g.pt ∧ openG r (q ++ [(i : Int)]) = openG r q + g.lg := by
  unfold openP openG legsOf
  rw [List.map_append, List.map_append, List.sum_append, List.sum_append]
  simp [hg]
theorem ends_ok (r : Rules) (t : Res) (oc mc : RV) (hr : rulesB r = true) (ht : smallR t) (hoc : oc = ints t.op ∨ (oc = .ns ∧ t.op = [])) (hop : ∀ i ∈ t.op, 0 ≤ i ∧ i < r.gs.length) (hol : t.op.length ≤ 25) :
    ACalls Try.prog 41 [.rp (nightC r t oc mc)] (.tu [.ag [i64 (t.p0 - t.p1 + openP r t.op), i64 (t.l0 - t.l1 + openG r t.op)], .ag [i64 (t.p0 - t.p1 - openP r t.op), i64 (t.l0 - t.l1 - openG r t.op)]]) := by
  obtain ⟨q1, q2, q3, q4, q5, q6⟩ := ht
  obtain ⟨_, ⟨f3, f4⟩, _, f7, _⟩ := rulesB_facts hr
  refine acalls_st (rs := [.ag [i64 (t.p0 - t.p1 + openP r t.op), i64 (t.l0 - t.l1 + openG r t.op)], .ag [i64 (t.p0 - t.p1 - openP r t.op), i64 (t.l0 - t.l1 - openG r t.op)]]) [.cell 2 115, .cell 3 115] Try.func41 rfl (by kernel_rfl) Try.ntmps41 rfl (by simp) rfl fun C vs => ?_
  repeat refine awp_seq ?_
  refine awp_reg (by kernel_rfl) fun K hK => ?_
  simp only [go_sem]
  (try simp (disch := omega) only [wrapI])
  repeat first | intro _ | refine ⟨(by omega), ?_⟩ | refine ⟨⟨by omega, by omega⟩, ?_⟩
  refine hK _ ?_
  clear hK K
  repeat refine awp_seq ?_
  refine awp_dreg follows (by decide +kernel) (by kernel_rfl) fun K hK => ?_
  simp only [go_sem]
  (try simp (disch := omega) only [wrapI])
  repeat first | intro _ | refine ⟨(by omega), ?_⟩ | refine ⟨⟨by omega, by omega⟩, ?_⟩
  refine hK _ ?_
  clear hK K
  repeat refine awp_seq ?_
  refine awp_reg (by kernel_rfl) fun K hK => ?_
  simp only [go_sem]
  (try simp (disch := omega) only [wrapI])
  repeat first | intro _ | refine ⟨(by omega), ?_⟩ | refine ⟨⟨by omega, by omega⟩, ?_⟩
  refine hK _ ?_
  clear hK K
  rcases hoc with rfl | ⟨rfl, he⟩
  · repeat refine awp_seq ?_
    refine awp_reg (by kernel_rfl) fun K hK => ?_
    simp only [go_sem]
    (try simp (disch := omega) only [wrapI])
    intro _
    repeat first | intro _ | refine ⟨(by omega), ?_⟩ | refine ⟨⟨by omega, by omega⟩, ?_⟩
    refine hK _ ?_
    clear hK K
    repeat refine awp_seq ?_
    refine awp_block ?_
    refine awp_upto (n := 81) t.op.length (fun k vs => [(0, .r (.rp (nightC r t (ints t.op) mc))), (2, .pt 2 (vs 2) 0), (3, .pt 3 (vs 3) 0), (39, .r (ints t.op)), (40, .r (i64 t.op.length)), (41, .r (i64 k))])
      (fun k => [(2, .box [.r (i64 (t.p0 - t.p1 + openP r (t.op.take k))), .r (i64 (t.l0 - t.l1 + openG r (t.op.take k)))]), (3, .box [.r (i64 (t.p0 - t.p1 - openP r (t.op.take k))), .r (i64 (t.l0 - t.l1 - openG r (t.op.take k)))])])
      (fun _ => True) 0 (fit_of [] ?_ ?_) (Nat.zero_le _) trivial ?_
    · try simp only [go_sem]
    · try simp only [go_sem]
      simp [openP, openG]
    · intro k vs hk _
      have hb := open_bounds hr (t.op.take k)
      simp only [List.length_take] at hb
      repeat refine awp_seq ?_
      refine awp_reg (by kernel_rfl) fun K hK => ?_
      simp only [go_sem]
      (try simp (disch := omega) only [wrapI])
      repeat first | intro _ | refine ⟨(by omega), ?_⟩ | refine ⟨⟨by omega, by omega⟩, ?_⟩
      refine hK _ ?_
      clear hK K
      repeat refine awp_seq ?_
      refine awp_cond rfl (fun hc => ?_) (fun hc => ?_) <;> (try simp only [go_sem] at hc)
      · have hck := hc
        obtain ⟨x, hx⟩ := opt_of_lt hck
        have hxo := hop x (mem_of_opt hx)
        obtain ⟨i, hi⟩ := Int.eq_ofNat_of_zero_le hxo.1
        subst hi
        have hil : i < r.gs.length := by omega
        obtain ⟨g, hg⟩ := opt_of_lt hil
        obtain ⟨_, g5, g6⟩ := f7 g (mem_of_opt hg)
        have hsn := openP_snoc (q := t.op.take k) hg
        refine awp_skip ?_
        repeat refine awp_seq ?_
        refine awp_block ?_
        repeat refine awp_seq ?_
        refine awp_reg (by kernel_rfl) fun K hK => ?_
        simp only [go_sem, hx, hck]
        (try simp (disch := omega) only [wrapI])
        repeat first | intro _ | refine ⟨(by omega), ?_⟩ | refine ⟨⟨by omega, by omega⟩, ?_⟩
        refine hK _ ?_
        clear hK K
        repeat refine awp_seq ?_
        refine awp_reg (by kernel_rfl) fun K hK => ?_
        simp only [go_sem, hg, hil]
        (try simp (disch := omega) only [wrapI])
        repeat first | intro _ | refine ⟨(by omega), ?_⟩ | refine ⟨⟨by omega, by omega⟩, ?_⟩
        refine hK _ ?_
        clear hK K
        repeat refine awp_seq ?_
        refine awp_dreg2 [(2, some 2), (6, some 6)] follows (by decide +kernel) (by kernel_rfl) (by simp only [keysOk, List.mem_cons, List.not_mem_nil, forall_eq_or_imp, Oc.keyOf, go_sem]; simp) fun K hK => ?_
        simp only [go_sem]
        (try simp (disch := omega) only [wrapI])
        repeat first | intro _ | refine ⟨(by omega), ?_⟩ | refine ⟨⟨by omega, by omega⟩, ?_⟩
        refine hK _ ?_
        clear hK K
        repeat refine awp_seq ?_
        refine awp_dreg2 [(3, some 3), (6, some 6)] follows (by decide +kernel) (by kernel_rfl) (by simp only [keysOk, List.mem_cons, List.not_mem_nil, forall_eq_or_imp, Oc.keyOf, go_sem]; simp) fun K hK => ?_
        simp only [go_sem]
        (try simp (disch := omega) only [wrapI])
        repeat first | intro _ | refine ⟨(by omega), ?_⟩ | refine ⟨⟨by omega, by omega⟩, ?_⟩
        refine hK _ ?_
        clear hK K
        try simp only [go_sem]
        repeat refine awp_seq ?_
        refine awp_reg (by kernel_rfl) fun K hK => ?_
        simp only [go_sem]
        (try simp (disch := omega) only [wrapI])
        repeat first | intro _ | refine ⟨(by omega), ?_⟩ | refine ⟨⟨by omega, by omega⟩, ?_⟩
        refine hK _ ?_
        clear hK K
        try simp only [go_sem]
        refine ⟨hck, fit_of [6] ?_ ?_⟩
        · try simp only [go_sem]
        · try simp only [go_sem]
          rw [take_of_opt hx, hsn.1, hsn.2]
          simp only [Int.add_assoc, Int.sub_sub]
      · have : k = t.op.length := by omega
        subst this
        rw [List.take_length]
        refine awp_exit ?_
        simp only [go_sem]
        repeat refine awp_seq ?_
        refine awp_dreg2 [(2, some 2), (3, some 3)] follows (by decide +kernel) (by kernel_rfl) (by simp only [keysOk, List.mem_cons, List.not_mem_nil, forall_eq_or_imp, Oc.keyOf, go_sem]; simp) fun K hK => ?_
        simp only [go_sem]
        (try simp (disch := omega) only [wrapI])
        repeat first | intro _ | refine ⟨(by omega), ?_⟩ | refine ⟨⟨by omega, by omega⟩, ?_⟩
        refine hK _ ?_
        clear hK K
        refine awp_ret ?_
        simp only [go_sem]
  · repeat refine awp_seq ?_
    refine awp_reg (by kernel_rfl) fun K hK => ?_
    simp only [go_sem]
    (try simp (disch := omega) only [wrapI])
    repeat first | intro _ | refine ⟨(by omega), ?_⟩ | refine ⟨⟨by omega, by omega⟩, ?_⟩
    refine hK _ ?_
    clear hK K
    repeat refine awp_seq ?_
    refine awp_block ?_
    refine awp_upto (n := 81) 0 (fun k vs => [(0, .r (.rp (nightC r t .ns mc))), (2, .pt 2 (vs 2) 0), (3, .pt 3 (vs 3) 0), (40, .r (i64 0)), (41, .r (i64 0))])
      (fun k => [(2, .box [.r (i64 (t.p0 - t.p1)), .r (i64 (t.l0 - t.l1))]), (3, .box [.r (i64 (t.p0 - t.p1)), .r (i64 (t.l0 - t.l1))])])
      (fun _ => True) 0 (fit_of [] ?_ ?_) (Nat.zero_le _) trivial ?_
    · try simp only [go_sem]
    · try simp only [go_sem]
    · intro k vs hk _
      repeat refine awp_seq ?_
      refine awp_reg (by kernel_rfl) fun K hK => ?_
      simp only [go_sem]
      (try simp (disch := omega) only [wrapI])
      repeat first | intro _ | refine ⟨(by omega), ?_⟩ | refine ⟨⟨by omega, by omega⟩, ?_⟩
      refine hK _ ?_
      clear hK K
      repeat refine awp_seq ?_
      refine awp_cond rfl (fun hc => ?_) (fun hc => ?_) <;> (try simp only [go_sem] at hc)
      refine awp_exit ?_
      simp only [go_sem]
      repeat refine awp_seq ?_
      refine awp_dreg2 [(2, some 2), (3, some 3)] follows (by decide +kernel) (by kernel_rfl) (by simp only [keysOk, List.mem_cons, List.not_mem_nil, forall_eq_or_imp, Oc.keyOf, go_sem]; simp) fun K hK => ?_
      simp only [go_sem]
      (try simp (disch := omega) only [wrapI])
      repeat first | intro _ | refine ⟨(by omega), ?_⟩ | refine ⟨⟨by omega, by omega⟩, ?_⟩
      refine hK _ ?_
      clear hK K
      refine awp_ret ?_
      simp only [go_sem]
      rw [he]
      simp [openP, openG]
abbrev nightB (r : Rules) (t : Res) (oc : AV) : List AV := [.r (i64 r.squad), .r (games r.gs), .r (i64 r.most), .r (i64 r.bonus), .r (i64 t.p0), .r (i64 t.p1), .r (i64 t.g0), .r (i64 t.g1), .r (i64 t.l0), .r (i64 t.l1), oc, .r (i64 t.w), .mp 1001 0]
theorem add_ok (r : Rules) (t : Res) (x : Sheet) (M : List (RV × RV)) (i : Nat) (g : Game) (q : List Int) (hr : rulesB r = true) (hx : sheetB r x = true) (hi : x.gm = (i : Int)) (hg : r.gs[i]? = some g) (ht : smallR t) :
    MCalls Try.prog 40 [(1000, .box (nightB r t (.os 1002 0 1 0 q.length))), (1001, .mp M), (1002, .arr 3 1 (q.map fun x => [i64 x]))] [(1000, .box (nightB r (addL g (scoreL r x).1 (scoreL r x).2 t) (.os 1002 0 1 0 q.length))), (1001, .mp M), (1002, .arr 3 1 (q.map fun x => [i64 x]))] [.pt 1000 0 0, .ag [.r (i64 x.gm), .r (i64 x.ho), .r (i64 x.aw), .r (i64 x.wk)]] (.tu []) := by
  obtain ⟨j, g', hj, hjl, hg', hlg, g5, g6, hwk, hsc⟩ := sheet_game hr hx
  obtain rfl : i = j := by omega
  obtain rfl : g = g' := by rw [hg] at hg'; injection hg'
  have hz0 : (0 : Int) ≤ x.gm := by omega
  have hz1 : x.gm < r.gs.length := by omega
  have hti : x.gm.toNat = i := by rw [hi, Int.toNat_natCast]
  obtain ⟨q1, q2, q3, q4, q5, q6⟩ := ht
  refine mcalls_st (n := 69) (rs := []) _ _ [] Try.func40 rfl (by kernel_rfl) Try.ntmps40 rfl (by simp) rfl rfl fun C => ?_
  repeat refine awp_seq ?_
  refine awp_reg (by kernel_rfl) fun K hK => ?_
  simp only [go_sem]
  (try simp (disch := omega) only [wrapI])
  repeat first | intro _ | refine ⟨(by omega), ?_⟩ | refine ⟨⟨by omega, by omega⟩, ?_⟩
  refine hK _ ?_
  clear hK K
  repeat refine awp_seq ?_
  refine awp_reg (by kernel_rfl) fun K hK => ?_
  simp only [go_sem]
  (try simp (disch := omega) only [wrapI])
  refine xcall_eq (scores_ok r t (ints q) .un x hr hx) rfl (by simp only [go_sem, i64, ints]) (by simp only [go_sem, i64, ints]) (by first | exact .inl rfl | exact .inr rfl) ?_
  (try simp only [go_sem])
  (try simp (disch := omega) only [wrapI])
  repeat first | intro _ | refine ⟨(by omega), ?_⟩ | refine ⟨⟨by omega, by omega⟩, ?_⟩
  refine hK _ ?_
  clear hK K
  generalize hq1 : (scoreL r x).1 = h at *
  generalize hq2 : (scoreL r x).2 = a at *
  repeat refine awp_seq ?_
  refine awp_reg (by kernel_rfl) fun K hK => ?_
  simp only [go_sem]
  (try simp (disch := omega) only [wrapI])
  repeat first | intro _ | refine ⟨(by omega), ?_⟩ | refine ⟨⟨by omega, by omega⟩, ?_⟩
  refine hK _ ?_
  clear hK K
  by_cases hs : h < a
  · have e1 : decide (h < a) = true := by simp [hs]
    rw [e1]
    repeat refine awp_seq ?_
    refine awp_cond rfl (fun hc => ?_) (fun hc => ?_) <;> (try simp only [go_sem] at hc)
    repeat refine awp_seq ?_
    refine awp_reg (by kernel_rfl) fun K hK => ?_
    simp only [go_sem]
    (try simp (disch := omega) only [wrapI])
    repeat first | intro _ | refine ⟨(by omega), ?_⟩ | refine ⟨⟨by omega, by omega⟩, ?_⟩
    refine hK _ ?_
    clear hK K
    try simp only [go_sem]
    repeat refine awp_seq ?_
    refine awp_dreg follows (by decide +kernel) (by kernel_rfl) fun K hK => ?_
    simp only [go_sem, hti, hg, hz0, hz1]
    (try simp (disch := omega) only [wrapI])
    repeat first | intro _ | refine ⟨(by omega), ?_⟩ | refine ⟨⟨by omega, by omega⟩, ?_⟩
    refine hK _ ?_
    clear hK K
    repeat refine awp_seq ?_
    refine awp_dreg follows (by decide +kernel) (by kernel_rfl) fun K hK => ?_
    simp only [go_sem]
    (try simp (disch := omega) only [wrapI])
    repeat first | intro _ | refine ⟨(by omega), ?_⟩ | refine ⟨⟨by omega, by omega⟩, ?_⟩
    refine hK _ ?_
    clear hK K
    try simp only [go_sem]
    repeat refine awp_seq ?_
    refine awp_reg (by kernel_rfl) fun K hK => ?_
    simp only [go_sem]
    (try simp (disch := omega) only [wrapI])
    repeat first | intro _ | refine ⟨(by omega), ?_⟩ | refine ⟨⟨by omega, by omega⟩, ?_⟩
    refine hK _ ?_
    clear hK K
    repeat refine awp_seq ?_
    refine awp_block ?_
    refine awp_upto (n := 69) 2 (fun k vs => [(0, .pt 1000 (vs 1000) 0), (4, .pt 4 (vs 4) 0), (50, .r (i64 k))])
      (fun k => [(4, .box [.r (i64 h), .r (i64 a)]), (1000, .box (nightB r ⟨t.p0, t.p1 + g.pt, t.g0, t.g1 + 1, if k = 0 then t.l0 else t.l0 + h, if k ≤ 1 then t.l1 else t.l1 + a, t.op, t.w⟩ (.os 1002 0 1 0 q.length))), (1001, .mp M), (1002, .arr 3 1 (q.map fun x => [i64 x]))])
      (fun _ => True) 0 (fit_of [3] ?_ ?_) (Nat.zero_le _) trivial ?_
    · try simp only [go_sem]
    · try simp only [go_sem]
    · intro k vs hk _
      have h3 : k = 0 ∨ k = 1 ∨ k = 2 := by omega
      rcases h3 with rfl | rfl | rfl
      · repeat refine awp_seq ?_
        refine awp_reg (by kernel_rfl) fun K hK => ?_
        simp only [go_sem]
        (try simp (disch := omega) only [wrapI])
        repeat first | intro _ | refine ⟨(by omega), ?_⟩ | refine ⟨⟨by omega, by omega⟩, ?_⟩
        refine hK _ ?_
        clear hK K
        repeat refine awp_seq ?_
        refine awp_cond rfl (fun hc => ?_) (fun hc => ?_) <;> (try simp only [go_sem] at hc)
        refine awp_skip ?_
        repeat refine awp_seq ?_
        refine awp_block ?_
        repeat refine awp_seq ?_
        refine awp_reg (by kernel_rfl) fun K hK => ?_
        simp only [go_sem]
        (try simp (disch := omega) only [wrapI])
        repeat first | intro _ | refine ⟨(by omega), ?_⟩ | refine ⟨⟨by omega, by omega⟩, ?_⟩
        refine hK _ ?_
        clear hK K
        repeat refine awp_seq ?_
        refine awp_dreg follows (by decide +kernel) (by kernel_rfl) fun K hK => ?_
        simp only [go_sem]
        (try simp (disch := omega) only [wrapI])
        repeat first | intro _ | refine ⟨(by omega), ?_⟩ | refine ⟨⟨by omega, by omega⟩, ?_⟩
        refine hK _ ?_
        clear hK K
        try simp only [go_sem]
        repeat refine awp_seq ?_
        refine awp_reg (by kernel_rfl) fun K hK => ?_
        simp only [go_sem]
        (try simp (disch := omega) only [wrapI])
        repeat first | intro _ | refine ⟨(by omega), ?_⟩ | refine ⟨⟨by omega, by omega⟩, ?_⟩
        refine hK _ ?_
        clear hK K
        try simp only [go_sem]
        refine fit_of [] ?_ ?_
        · try simp only [go_sem]
        · try simp only [go_sem]
      · repeat refine awp_seq ?_
        refine awp_reg (by kernel_rfl) fun K hK => ?_
        simp only [go_sem]
        (try simp (disch := omega) only [wrapI])
        repeat first | intro _ | refine ⟨(by omega), ?_⟩ | refine ⟨⟨by omega, by omega⟩, ?_⟩
        refine hK _ ?_
        clear hK K
        repeat refine awp_seq ?_
        refine awp_cond rfl (fun hc => ?_) (fun hc => ?_) <;> (try simp only [go_sem] at hc)
        refine awp_skip ?_
        repeat refine awp_seq ?_
        refine awp_block ?_
        repeat refine awp_seq ?_
        refine awp_reg (by kernel_rfl) fun K hK => ?_
        simp only [go_sem]
        (try simp (disch := omega) only [wrapI])
        repeat first | intro _ | refine ⟨(by omega), ?_⟩ | refine ⟨⟨by omega, by omega⟩, ?_⟩
        refine hK _ ?_
        clear hK K
        repeat refine awp_seq ?_
        refine awp_dreg follows (by decide +kernel) (by kernel_rfl) fun K hK => ?_
        simp only [go_sem]
        (try simp (disch := omega) only [wrapI])
        repeat first | intro _ | refine ⟨(by omega), ?_⟩ | refine ⟨⟨by omega, by omega⟩, ?_⟩
        refine hK _ ?_
        clear hK K
        try simp only [go_sem]
        repeat refine awp_seq ?_
        refine awp_reg (by kernel_rfl) fun K hK => ?_
        simp only [go_sem]
        (try simp (disch := omega) only [wrapI])
        repeat first | intro _ | refine ⟨(by omega), ?_⟩ | refine ⟨⟨by omega, by omega⟩, ?_⟩
        refine hK _ ?_
        clear hK K
        try simp only [go_sem]
        refine fit_of [] ?_ ?_
        · try simp only [go_sem]
        · try simp only [go_sem]
      · repeat refine awp_seq ?_
        refine awp_reg (by kernel_rfl) fun K hK => ?_
        simp only [go_sem]
        (try simp (disch := omega) only [wrapI])
        repeat first | intro _ | refine ⟨(by omega), ?_⟩ | refine ⟨⟨by omega, by omega⟩, ?_⟩
        refine hK _ ?_
        clear hK K
        repeat refine awp_seq ?_
        refine awp_cond rfl (fun hc => ?_) (fun hc => ?_) <;> (try simp only [go_sem] at hc)
        refine awp_exit ?_
        simp only [go_sem]
        simp [addL, hs]
  · have e1 : decide (h < a) = false := by simp [hs]
    rw [e1]
    repeat refine awp_seq ?_
    refine awp_cond rfl (fun hc => ?_) (fun hc => ?_) <;> (try simp only [go_sem] at hc)
    refine awp_skip ?_
    try simp only [go_sem]
    repeat refine awp_seq ?_
    refine awp_dreg follows (by decide +kernel) (by kernel_rfl) fun K hK => ?_
    simp only [go_sem, hti, hg, hz0, hz1]
    (try simp (disch := omega) only [wrapI])
    repeat first | intro _ | refine ⟨(by omega), ?_⟩ | refine ⟨⟨by omega, by omega⟩, ?_⟩
    refine hK _ ?_
    clear hK K
    repeat refine awp_seq ?_
    refine awp_dreg follows (by decide +kernel) (by kernel_rfl) fun K hK => ?_
    simp only [go_sem]
    (try simp (disch := omega) only [wrapI])
    repeat first | intro _ | refine ⟨(by omega), ?_⟩ | refine ⟨⟨by omega, by omega⟩, ?_⟩
    refine hK _ ?_
    clear hK K
    try simp only [go_sem]
    repeat refine awp_seq ?_
    refine awp_reg (by kernel_rfl) fun K hK => ?_
    simp only [go_sem]
    (try simp (disch := omega) only [wrapI])
    repeat first | intro _ | refine ⟨(by omega), ?_⟩ | refine ⟨⟨by omega, by omega⟩, ?_⟩
    refine hK _ ?_
    clear hK K
    repeat refine awp_seq ?_
    refine awp_block ?_
    refine awp_upto (n := 69) 2 (fun k vs => [(0, .pt 1000 (vs 1000) 0), (4, .pt 4 (vs 4) 0), (50, .r (i64 k))])
      (fun k => [(4, .box [.r (i64 h), .r (i64 a)]), (1000, .box (nightB r ⟨t.p0 + g.pt, t.p1, t.g0 + 1, t.g1, if k = 0 then t.l0 else t.l0 + h, if k ≤ 1 then t.l1 else t.l1 + a, t.op, t.w⟩ (.os 1002 0 1 0 q.length))), (1001, .mp M), (1002, .arr 3 1 (q.map fun x => [i64 x]))])
      (fun _ => True) 0 (fit_of [3] ?_ ?_) (Nat.zero_le _) trivial ?_
    · try simp only [go_sem]
    · try simp only [go_sem]
    · intro k vs hk _
      have h3 : k = 0 ∨ k = 1 ∨ k = 2 := by omega
      rcases h3 with rfl | rfl | rfl
      · repeat refine awp_seq ?_
        refine awp_reg (by kernel_rfl) fun K hK => ?_
        simp only [go_sem]
        (try simp (disch := omega) only [wrapI])
        repeat first | intro _ | refine ⟨(by omega), ?_⟩ | refine ⟨⟨by omega, by omega⟩, ?_⟩
        refine hK _ ?_
        clear hK K
        repeat refine awp_seq ?_
        refine awp_cond rfl (fun hc => ?_) (fun hc => ?_) <;> (try simp only [go_sem] at hc)
        refine awp_skip ?_
        repeat refine awp_seq ?_
        refine awp_block ?_
        repeat refine awp_seq ?_
        refine awp_reg (by kernel_rfl) fun K hK => ?_
        simp only [go_sem]
        (try simp (disch := omega) only [wrapI])
        repeat first | intro _ | refine ⟨(by omega), ?_⟩ | refine ⟨⟨by omega, by omega⟩, ?_⟩
        refine hK _ ?_
        clear hK K
        repeat refine awp_seq ?_
        refine awp_dreg follows (by decide +kernel) (by kernel_rfl) fun K hK => ?_
        simp only [go_sem]
        (try simp (disch := omega) only [wrapI])
        repeat first | intro _ | refine ⟨(by omega), ?_⟩ | refine ⟨⟨by omega, by omega⟩, ?_⟩
        refine hK _ ?_
        clear hK K
        try simp only [go_sem]
        repeat refine awp_seq ?_
        refine awp_reg (by kernel_rfl) fun K hK => ?_
        simp only [go_sem]
        (try simp (disch := omega) only [wrapI])
        repeat first | intro _ | refine ⟨(by omega), ?_⟩ | refine ⟨⟨by omega, by omega⟩, ?_⟩
        refine hK _ ?_
        clear hK K
        try simp only [go_sem]
        refine fit_of [] ?_ ?_
        · try simp only [go_sem]
        · try simp only [go_sem]
      · repeat refine awp_seq ?_
        refine awp_reg (by kernel_rfl) fun K hK => ?_
        simp only [go_sem]
        (try simp (disch := omega) only [wrapI])
        repeat first | intro _ | refine ⟨(by omega), ?_⟩ | refine ⟨⟨by omega, by omega⟩, ?_⟩
        refine hK _ ?_
        clear hK K
        repeat refine awp_seq ?_
        refine awp_cond rfl (fun hc => ?_) (fun hc => ?_) <;> (try simp only [go_sem] at hc)
        refine awp_skip ?_
        repeat refine awp_seq ?_
        refine awp_block ?_
        repeat refine awp_seq ?_
        refine awp_reg (by kernel_rfl) fun K hK => ?_
        simp only [go_sem]
        (try simp (disch := omega) only [wrapI])
        repeat first | intro _ | refine ⟨(by omega), ?_⟩ | refine ⟨⟨by omega, by omega⟩, ?_⟩
        refine hK _ ?_
        clear hK K
        repeat refine awp_seq ?_
        refine awp_dreg follows (by decide +kernel) (by kernel_rfl) fun K hK => ?_
        simp only [go_sem]
        (try simp (disch := omega) only [wrapI])
        repeat first | intro _ | refine ⟨(by omega), ?_⟩ | refine ⟨⟨by omega, by omega⟩, ?_⟩
        refine hK _ ?_
        clear hK K
        try simp only [go_sem]
        repeat refine awp_seq ?_
        refine awp_reg (by kernel_rfl) fun K hK => ?_
        simp only [go_sem]
        (try simp (disch := omega) only [wrapI])
        repeat first | intro _ | refine ⟨(by omega), ?_⟩ | refine ⟨⟨by omega, by omega⟩, ?_⟩
        refine hK _ ?_
        clear hK K
        try simp only [go_sem]
        refine fit_of [] ?_ ?_
        · try simp only [go_sem]
        · try simp only [go_sem]
      · repeat refine awp_seq ?_
        refine awp_reg (by kernel_rfl) fun K hK => ?_
        simp only [go_sem]
        (try simp (disch := omega) only [wrapI])
        repeat first | intro _ | refine ⟨(by omega), ?_⟩ | refine ⟨⟨by omega, by omega⟩, ?_⟩
        refine hK _ ?_
        clear hK K
        repeat refine awp_seq ?_
        refine awp_cond rfl (fun hc => ?_) (fun hc => ?_) <;> (try simp only [go_sem] at hc)
        refine awp_exit ?_
        simp only [go_sem]
        simp [addL, hs]
end Go.Proofs.Ytaniakoadbkadaa

/- A night is closed. -/
namespace Go.Proofs.Ytaniakoadbkadaa
open Go Go.Oc
set_option linter.unusedSimpArgs false
set_option linter.unusedVariables false
set_option maxRecDepth 8000
/-! ### What a night comes to -/
def stepN (r : Rules) (F : Int → Option Sheet) (t : Res) (i : Nat) : Res :=
  match F i, r.gs[i]? with
  | some x, some g => addL g (scoreL r x).1 (scoreL r x).2 t
  | _, _ => { t with op := t.op ++ [(i : Int)] }
def sumN (r : Rules) (F : Int → Option Sheet) : Nat → Res
  | 0 => zeroR
  | k + 1 => stepN r F (sumN r F k) k
def homeR (r : Rules) (t : Res) : Int := leadW (t.p0 - t.p1 + openP r t.op) (t.l0 - t.l1 + openG r t.op)
def awayR (r : Rules) (t : Res) : Int := leadW (t.p0 - t.p1 - openP r t.op) (t.l0 - t.l1 - openG r t.op)
def endR (r : Rules) (t : Res) : Res :=
  let w := if homeR r t = awayR r t then homeR r t else -1
  if t.op = [] ∧ w ≠ 2 then { t with w := w, p0 := if w = 0 then t.p0 + r.bonus else t.p0, p1 := if w = 0 then t.p1 else t.p1 + r.bonus } else { t with w := w }
def nightR (r : Rules) (F : Int → Option Sheet) : Res := endR r (sumN r F r.gs.length)
def OkF (r : Rules) (F : Int → Option Sheet) : Prop := ∀ i x, F i = some x → sheetB r x = true ∧ x.gm = i
theorem leadW_in (p l : Int) : leadW p l = 0 ∨ leadW p l = 1 ∨ leadW p l = 2 := by
  unfold leadW; split
  · simp
  · split
    · simp
    · split
      · simp
      · split <;> simp
theorem sumN_facts {r : Rules} {F : Int → Option Sheet} (hr : rulesB r = true) (hF : OkF r F) : ∀ k, k ≤ r.gs.length →
    ((0 ≤ (sumN r F k).p0 ∧ (sumN r F k).p0 ≤ 99 * k) ∧ (0 ≤ (sumN r F k).p1 ∧ (sumN r F k).p1 ≤ 99 * k) ∧ (0 ≤ (sumN r F k).g0 ∧ (sumN r F k).g0 ≤ k) ∧ (0 ≤ (sumN r F k).g1 ∧ (sumN r F k).g1 ≤ k) ∧ (0 ≤ (sumN r F k).l0 ∧ (sumN r F k).l0 ≤ 15 * k) ∧ (0 ≤ (sumN r F k).l1 ∧ (sumN r F k).l1 ≤ 15 * k)) ∧
    (sumN r F k).w = 0 ∧ (sumN r F k).op.length ≤ k ∧ ∀ i ∈ (sumN r F k).op, 0 ≤ i ∧ i < k
  | 0, _ => by simp [sumN, zeroR]
  | k + 1, hk => by
    obtain ⟨⟨h1, h2, h3, h4, h5, h6⟩, h7, h8, h9⟩ := sumN_facts hr hF k (by omega)
    obtain ⟨g, hg⟩ := opt_of_lt (l := r.gs) (i := k) (by omega)
    rw [sumN]
    unfold stepN
    rw [hg]
    cases hx : F k with
    | none =>
      refine ⟨⟨?_, ?_, ?_, ?_, ?_, ?_⟩, h7, ?_, fun i hi => ?_⟩ <;> (try simp only)
      · omega
      · omega
      · omega
      · omega
      · omega
      · omega
      · rw [List.length_append]; simp; omega
      · simp only [List.mem_append, List.mem_singleton] at hi
        rcases hi with hi | hi
        · have := h9 i hi; omega
        · omega
    | some x =>
      obtain ⟨hb, he⟩ := hF _ _ hx
      obtain ⟨i, g', hi, hil, hg', hlg, g5, g6, _, hsc⟩ := sheet_game hr hb
      have hik : i = k := by omega
      subst hik
      have hgg : g' = g := by rw [hg] at hg'; injection hg' with e; exact e.symm
      subst hgg
      refine ⟨⟨?_, ?_, ?_, ?_, ?_, ?_⟩, ?_, ?_, fun j hj => ?_⟩ <;> (try simp only [addL])
      · split <;> omega
      · split <;> omega
      · split <;> omega
      · split <;> omega
      · omega
      · omega
      · exact h7
      · omega
      · have := h9 j hj; omega
theorem sumN_small {r : Rules} {F : Int → Option Sheet} (hr : rulesB r = true) (hF : OkF r F) {k : Nat} (hk : k ≤ r.gs.length) : smallR (sumN r F k) := by
  obtain ⟨_, ⟨f3, f4⟩, _⟩ := rulesB_facts hr
  obtain ⟨⟨h1, h2, h3, h4, h5, h6⟩, _⟩ := sumN_facts hr hF k hk
  refine ⟨?_, ?_, ?_, ?_, ?_, ?_⟩ <;> omega
/-! ### The map of the sheets -/
abbrev encS (e : Int × Sheet) : RV × RV := (i64 e.1, .ag (sheetC e.2))
def findS (p : Int) : List (Int × Sheet) → Nat → Option (Nat × Sheet)
  | [], _ => none
  | e :: l, i => if p = e.1 then some (i, e.2) else findS p l (i + 1)
theorem findK_S (p : Int) : ∀ (M : List (Int × Sheet)) (i : Nat), findK (i64 p) (M.map encS) i = some ((findS p M i).map fun x => (x.1, .ag (sheetC x.2)))
  | [], i => rfl
  | e :: M, i => by
    simp only [List.map_cons, findK, sameK, if_true, findS]
    by_cases h : p = e.1
    · have : (p == e.1) = true := by simp [h]
      rw [this]; simp [h]
    · have : (p == e.1) = false := by simp [h]
      rw [this, if_neg h]
      exact findK_S p M (i + 1)
def mapS (M : List (Int × Sheet)) (p : Int) : Option Sheet := (findS p M 0).map (·.2)
theorem close_ok (r : Rules) (M : List (Int × Sheet)) (hr : rulesB r = true) (hF : OkF r (mapS M)) :
    MCalls Try.prog 22 [(1000, .box (nightB r zeroR (.r .ns))), (1001, .mp (M.map encS))]
      [(1000, .box (nightB r (nightR r (mapS M)) (.r (ints (nightR r (mapS M)).op)))), (1001, .mp (M.map encS))] [.pt 1000 0 0] (.tu []) := by
  obtain ⟨_, ⟨f3, f4⟩, _, f7, f8⟩ := rulesB_facts hr
  refine mcalls_st (n := 100) (rs := []) _ _ [] Try.func22 rfl (by kernel_rfl) Try.ntmps22 rfl (by simp) rfl rfl fun C => ?_
  repeat refine awp_seq ?_
  refine awp_reg (by kernel_rfl) fun K hK => ?_
  simp only [go_sem]
  (try simp (disch := omega) only [wrapI])
  intros
  repeat first | intro _ | refine ⟨(by omega), ?_⟩ | refine ⟨⟨by omega, by omega⟩, ?_⟩
  refine hK _ ?_
  clear hK K
  repeat refine awp_seq ?_
  refine awp_block ?_
  refine awp_sub (sub_ownB 1000 10 38 3 1 (by omega) (by omega) rfl rfl) ?_
  simp only [go_sem]
  refine awp_uptoW (n := 100) r.gs.length (fun k vs => [(0, .pt 1000 0 0), (13, .r (i64 r.gs.length)), (14, .r (i64 k))])
    (fun k vs => [(38, .arr 3 1 ((sumN r (mapS M) k).op.map fun x => [i64 x])), (1000, .box (nightB r (sumN r (mapS M) k) (.os 38 (vs 38) 1 0 (sumN r (mapS M) k).op.length))), (1001, .mp (M.map encS))])
    (fun _ => True) 0 (fitW_of [] (lent_upd (by omega) lent_zero) ?_ ?_) (Nat.zero_le _) trivial ?_
  · try simp only [go_sem]
  · rfl
  · intro k vs hv hk _
    have hv0 := hv 1000 (by omega)
    have hv1 := hv 1001 (by omega)
    have hfk := findK_S k M 0
    have hsm := sumN_small hr hF hk
    obtain ⟨sb, sw, sl, so⟩ := sumN_facts hr hF k hk
    repeat refine awp_seq ?_
    refine awp_reg (by kernel_rfl) fun K hK => ?_
    simp only [go_sem]
    (try simp (disch := omega) only [wrapI])
    repeat first | intro _ | refine ⟨(by omega), ?_⟩ | refine ⟨⟨by omega, by omega⟩, ?_⟩
    refine hK _ ?_
    clear hK K
    repeat refine awp_seq ?_
    refine awp_cond rfl (fun hc => ?_) (fun hc => ?_) <;> (try simp only [go_sem] at hc)
    · have hck := hc
      obtain ⟨g, hg⟩ := opt_of_lt hck
      refine awp_skip ?_
      repeat refine awp_seq ?_
      refine awp_block ?_
      repeat refine awp_seq ?_
      refine awp_reg (by kernel_rfl) fun K hK => ?_
      simp only [go_sem]
      (try simp (disch := omega) only [wrapI])
      repeat first | intro _ | refine ⟨(by omega), ?_⟩ | refine ⟨⟨by omega, by omega⟩, ?_⟩
      refine hK _ ?_
      clear hK K
      cases hf : findS k M 0 with
      | none =>
        rw [hf] at hfk
        have hstep : sumN r (mapS M) (k + 1) = { sumN r (mapS M) k with op := (sumN r (mapS M) k).op ++ [(k : Int)] } := by
          rw [sumN, stepN, mapS, hf]; rfl
        repeat refine awp_seq ?_
        refine awp_reg (by kernel_rfl) fun K hK => ?_
        simp only [go_sem, hfk, hv0, hv1, Option.map_none]
        (try simp (disch := omega) only [wrapI])
        repeat first | intro _ | refine ⟨(by omega), ?_⟩ | refine ⟨⟨by omega, by omega⟩, ?_⟩
        refine hK _ ?_
        clear hK K
        try simp only [go_sem]
        repeat refine awp_seq ?_
        refine awp_reg (by kernel_rfl) fun K hK => ?_
        simp only [go_sem]
        (try simp (disch := omega) only [wrapI])
        repeat first | intro _ | refine ⟨(by omega), ?_⟩ | refine ⟨⟨by omega, by omega⟩, ?_⟩
        refine hK _ ?_
        clear hK K
        repeat refine awp_seq ?_
        refine awp_cond rfl (fun hc => ?_) (fun hc => ?_) <;> (try simp only [go_sem] at hc)
        repeat refine awp_seq ?_
        refine awp_reg (by kernel_rfl) fun K hK => ?_
        simp only [go_sem, hv0]
        (try simp (disch := omega) only [wrapI])
        refine ⟨by omega, ?_⟩
        repeat first | intro _ | refine ⟨(by omega), ?_⟩ | refine ⟨⟨by omega, by omega⟩, ?_⟩
        refine hK _ ?_
        clear hK K
        try simp only [go_sem]
        repeat refine awp_seq ?_
        refine awp_reg (by kernel_rfl) fun K hK => ?_
        simp only [go_sem]
        (try simp (disch := omega) only [wrapI])
        repeat first | intro _ | refine ⟨(by omega), ?_⟩ | refine ⟨⟨by omega, by omega⟩, ?_⟩
        refine hK _ ?_
        clear hK K
        try simp only [go_sem]
        refine ⟨hck, fitW_of [3] (by intro j hj; simp only [upd]; (repeat' split); all_goals first | rfl | omega | exact hv _ hj) ?_ ?_⟩
        · try simp only [go_sem]
        · try simp only [go_sem]
          rw [hstep]
          simp [hv0, hv1]
      | some jx =>
        obtain ⟨j, x⟩ := jx
        rw [hf] at hfk
        have hFx : mapS M k = some x := by rw [mapS, hf]; rfl
        obtain ⟨hxb, hxg⟩ := hF k x hFx
        have hstep : sumN r (mapS M) (k + 1) = addL g (scoreL r x).1 (scoreL r x).2 (sumN r (mapS M) k) := by
          rw [sumN, stepN, hFx, hg]
        repeat refine awp_seq ?_
        refine awp_reg (by kernel_rfl) fun K hK => ?_
        simp only [go_sem, hfk, hv0, hv1, Option.map_some]
        (try simp (disch := omega) only [wrapI])
        repeat first | intro _ | refine ⟨(by omega), ?_⟩ | refine ⟨⟨by omega, by omega⟩, ?_⟩
        refine hK _ ?_
        clear hK K
        try simp only [go_sem]
        repeat refine awp_seq ?_
        refine awp_reg (by kernel_rfl) fun K hK => ?_
        simp only [go_sem]
        (try simp (disch := omega) only [wrapI])
        repeat first | intro _ | refine ⟨(by omega), ?_⟩ | refine ⟨⟨by omega, by omega⟩, ?_⟩
        refine hK _ ?_
        clear hK K
        repeat refine awp_seq ?_
        refine awp_cond rfl (fun hc => ?_) (fun hc => ?_) <;> (try simp only [go_sem] at hc)
        repeat refine awp_seq ?_
        refine awp_reg (by kernel_rfl) fun K hK => ?_
        simp only [go_sem, hv0]
        (try simp (disch := omega) only [wrapI])
        refine xcall_mut (add_ok r (sumN r (mapS M) k) x (M.map encS) k g (sumN r (mapS M) k).op hr hxb hxg hg hsm) [(1000, 1000), (1001, 1001), (1002, 38)] rfl (by simp only [go_sem, i64, ints, hv0, hv1]) (by simp only [go_sem, i64, ints, hv0, hv1]) (by rfl) (by rfl) ?_
        (try simp only [go_sem, hv0, hv1])
        (try simp (disch := omega) only [wrapI])
        repeat first | intro _ | refine ⟨(by omega), ?_⟩ | refine ⟨⟨by omega, by omega⟩, ?_⟩
        refine hK _ ?_
        clear hK K
        try simp only [go_sem]
        repeat refine awp_seq ?_
        refine awp_reg (by kernel_rfl) fun K hK => ?_
        simp only [go_sem]
        (try simp (disch := omega) only [wrapI])
        repeat first | intro _ | refine ⟨(by omega), ?_⟩ | refine ⟨⟨by omega, by omega⟩, ?_⟩
        refine hK _ ?_
        clear hK K
        try simp only [go_sem]
        refine ⟨hck, fitW_of [3] (by intro j hj; simp only [upd]; (repeat' split); all_goals first | rfl | omega | exact hv _ hj) ?_ ?_⟩
        · try simp only [go_sem]
        · try simp only [go_sem]
          rw [hstep]
          simp [hv0, hv1, addL]
    · have : k = r.gs.length := by omega
      subst this
      generalize htd : sumN r (mapS M) r.gs.length = t at *
      have hnr : nightR r (mapS M) = endR r t := by rw [nightR, htd]
      rw [hnr]
      have hob := open_bounds hr t.op
      refine awp_exit ?_
      simp only [go_sem]
      repeat refine awp_seq ?_
      refine awp_reg (by kernel_rfl) fun K hK => ?_
      simp only [go_sem, hv0]
      (try simp (disch := omega) only [wrapI])
      refine xcall_eq (ends_ok r t (ints t.op) .un hr hsm (.inl rfl) so (by omega)) rfl (by simp only [go_sem, i64, ints, hv0, hv1]) (by simp only [go_sem, i64, ints, hv0, hv1]) (by first | exact .inl rfl | exact .inr rfl) ?_
      (try simp only [go_sem, hv0, hv1])
      (try simp (disch := omega) only [wrapI])
      repeat first | intro _ | refine ⟨(by omega), ?_⟩ | refine ⟨⟨by omega, by omega⟩, ?_⟩
      refine hK _ ?_
      clear hK K
      repeat refine awp_seq ?_
      refine awp_reg (by kernel_rfl) fun K hK => ?_
      simp only [go_sem, hv0]
      (try simp (disch := omega) only [wrapI])
      repeat first | intro _ | refine ⟨(by omega), ?_⟩ | refine ⟨⟨by omega, by omega⟩, ?_⟩
      refine hK _ ?_
      clear hK K
      repeat refine awp_seq ?_
      refine awp_dreg follows (by decide +kernel) (by kernel_rfl) fun K hK => ?_
      simp only [go_sem]
      (try simp (disch := omega) only [wrapI])
      refine xcall_eq (winner_ok (t.p0 - t.p1 + openP r t.op) (t.l0 - t.l1 + openG r t.op)) rfl (by simp only [go_sem, i64, ints]) (by simp only [go_sem, i64, ints]) (by first | exact .inl rfl | exact .inr rfl) ?_
      (try simp only [go_sem])
      (try simp (disch := omega) only [wrapI])
      refine xcall_eq (winner_ok (t.p0 - t.p1 - openP r t.op) (t.l0 - t.l1 - openG r t.op)) rfl (by simp only [go_sem, i64, ints]) (by simp only [go_sem, i64, ints]) (by first | exact .inl rfl | exact .inr rfl) ?_
      (try simp only [go_sem])
      (try simp (disch := omega) only [wrapI])
      repeat first | intro _ | refine ⟨(by omega), ?_⟩ | refine ⟨⟨by omega, by omega⟩, ?_⟩
      refine hK _ ?_
      clear hK K
      have hA : leadW (t.p0 - t.p1 + openP r t.op) (t.l0 - t.l1 + openG r t.op) = homeR r t := rfl
      have hB : leadW (t.p0 - t.p1 - openP r t.op) (t.l0 - t.l1 - openG r t.op) = awayR r t := rfl
      have hW := leadW_in (t.p0 - t.p1 + openP r t.op) (t.l0 - t.l1 + openG r t.op)
      simp only [hA, hB] at hW ⊢
      have hnil : t.op = [] → homeR r t = awayR r t := fun h => by simp [homeR, awayR, h, openP, openG]
      by_cases h1 : homeR r t = awayR r t
      · have e1 : (homeR r t == awayR r t) = true := by simp [h1]
        rw [e1]
        repeat refine awp_seq ?_
        refine awp_cond rfl (fun hc => ?_) (fun hc => ?_) <;> (try simp only [go_sem] at hc)
        repeat refine awp_seq ?_
        refine awp_reg (by kernel_rfl) fun K hK => ?_
        simp only [go_sem]
        (try simp (disch := omega) only [wrapI])
        refine xcall_eq (winner_ok (t.p0 - t.p1 + openP r t.op) (t.l0 - t.l1 + openG r t.op)) rfl (by simp only [go_sem, i64, ints]) (by simp only [go_sem, i64, ints]) (by first | exact .inl rfl | exact .inr rfl) ?_
        (try simp only [go_sem])
        (try simp (disch := omega) only [wrapI])
        repeat first | intro _ | refine ⟨(by omega), ?_⟩ | refine ⟨⟨by omega, by omega⟩, ?_⟩
        refine hK _ ?_
        clear hK K
        simp only [hA]
        try simp only [go_sem]
        by_cases h2 : t.op = []
        · have h3 : ((t.op.length : Int) = 0) = True := by simp [h2]
          have h3' : ((t.op.length : Int) ≠ 0) = False := by simp [h2]
          have m0 : ((0 : Int) != 2) = true := by decide
          have m1 : ((1 : Int) != 2) = true := by decide
          have m2 : ((2 : Int) != 2) = false := by decide
          rcases hW with hW | hW | hW
          · have h4 : homeR r t ≠ 2 := by omega
            repeat refine awp_seq ?_
            refine awp_reg (by kernel_rfl) fun K hK => ?_
            simp only [go_sem, hv0, h3, h3', hW, m0, m1, m2]
            (try simp (disch := omega) only [wrapI])
            intros
            repeat first | intro _ | refine ⟨(by omega), ?_⟩ | refine ⟨⟨by omega, by omega⟩, ?_⟩
            refine hK _ ?_
            clear hK K
            repeat refine awp_seq ?_
            refine awp_cond rfl (fun hc => ?_) (fun hc => ?_) <;> (try simp only [go_sem] at hc)
            repeat refine awp_seq ?_
            refine awp_dreg follows (by decide +kernel) (by kernel_rfl) fun K hK => ?_
            simp only [go_sem, hv0, h3, hW]
            (try simp (disch := omega) only [wrapI])
            repeat first | intro _ | refine ⟨(by omega), ?_⟩ | refine ⟨⟨by omega, by omega⟩, ?_⟩
            refine hK _ ?_
            clear hK K
            try simp only [go_sem]
            simp [endR, ← h1, hW, h2]
          · repeat refine awp_seq ?_
            refine awp_reg (by kernel_rfl) fun K hK => ?_
            simp only [go_sem, hv0, h3, h3', hW, m0, m1, m2]
            (try simp (disch := omega) only [wrapI])
            intros
            repeat first | intro _ | refine ⟨(by omega), ?_⟩ | refine ⟨⟨by omega, by omega⟩, ?_⟩
            refine hK _ ?_
            clear hK K
            repeat refine awp_seq ?_
            refine awp_cond rfl (fun hc => ?_) (fun hc => ?_) <;> (try simp only [go_sem] at hc)
            repeat refine awp_seq ?_
            refine awp_dreg follows (by decide +kernel) (by kernel_rfl) fun K hK => ?_
            simp only [go_sem, hv0, h3, hW]
            (try simp (disch := omega) only [wrapI])
            repeat first | intro _ | refine ⟨(by omega), ?_⟩ | refine ⟨⟨by omega, by omega⟩, ?_⟩
            refine hK _ ?_
            clear hK K
            try simp only [go_sem]
            simp [endR, ← h1, hW, h2]
          · repeat refine awp_seq ?_
            refine awp_reg (by kernel_rfl) fun K hK => ?_
            simp only [go_sem, hv0, h3, h3', hW, m0, m1, m2]
            (try simp (disch := omega) only [wrapI])
            intros
            repeat first | intro _ | refine ⟨(by omega), ?_⟩ | refine ⟨⟨by omega, by omega⟩, ?_⟩
            refine hK _ ?_
            clear hK K
            repeat refine awp_seq ?_
            refine awp_cond rfl (fun hc => ?_) (fun hc => ?_) <;> (try simp only [go_sem] at hc)
            refine awp_skip ?_
            try simp only [go_sem]
            simp [endR, ← h1, hW, h2]
        · have h3 : ((t.op.length : Int) = 0) = False := by simp [h2]
          repeat refine awp_seq ?_
          refine awp_reg (by kernel_rfl) fun K hK => ?_
          simp only [go_sem, hv0, h3]
          (try simp (disch := omega) only [wrapI])
          intros
          repeat first | intro _ | refine ⟨(by omega), ?_⟩ | refine ⟨⟨by omega, by omega⟩, ?_⟩
          refine hK _ ?_
          clear hK K
          repeat refine awp_seq ?_
          refine awp_cond rfl (fun hc => ?_) (fun hc => ?_) <;> (try simp only [go_sem] at hc)
          refine awp_skip ?_
          try simp only [go_sem]
          simp [endR, ← h1, h2]
      · have e1 : (homeR r t == awayR r t) = false := by simp [h1]
        rw [e1]
        repeat refine awp_seq ?_
        refine awp_cond rfl (fun hc => ?_) (fun hc => ?_) <;> (try simp only [go_sem] at hc)
        refine awp_skip ?_
        have h2 : t.op ≠ [] := fun h => h1 (hnil h)
        have h3 : ((t.op.length : Int) = 0) = False := by simp [h2]
        repeat refine awp_seq ?_
        refine awp_reg (by kernel_rfl) fun K hK => ?_
        simp only [go_sem, hv0, h3]
        (try simp (disch := omega) only [wrapI])
        intros
        repeat first | intro _ | refine ⟨(by omega), ?_⟩ | refine ⟨⟨by omega, by omega⟩, ?_⟩
        refine hK _ ?_
        clear hK K
        repeat refine awp_seq ?_
        refine awp_cond rfl (fun hc => ?_) (fun hc => ?_) <;> (try simp only [go_sem] at hc)
        refine awp_skip ?_
        try simp only [go_sem]
        simp [endR, h1, h2]
end Go.Proofs.Ytaniakoadbkadaa

/- Part 5 of the texts of this claim. -/
import Derived.Test.YtaniakoadbkadaaV64
import Derived.Lib.EndianBits
import Derived.KernelRfl
/- A variable of one's own that holds plain data becomes plain data itself: its row is given up. -/
namespace Go.Oc
open Go Go.RowKit
set_option linter.unusedVariables false
theorem relC_plain {w : World} {p : Plan} {ver : Nat → Nat} {R' : Nat → Prop} (hR : ∀ b, p.R b → R' b) {b : Nat} {cells : Array Value} {ty : TypeId} (hh : w.heap[b]? = some (.cells cells ty (0, 0))) (h1 : ∀ u ∈ cells.toList, u.oneCell' = true) :
    ∀ (cs : List RV) (us : List Value) (j : Nat), (∀ i u, us[i]? = some u → cells[j + i]? = some u) → AV.relV w p ver (cs.map .r) us → RV.relC w R' cs ⟨b, 0, none⟩ j
  | [], _, _, _, _ => by simp [RV.relC]
  | c :: cs, us, j, hget, hV => by
    simp only [List.map_cons, AV.relV] at hV
    obtain ⟨u, us, rfl, hu, hV⟩ := hV
    simp only [RV.relC]
    have hc0 : cells[j]? = some u := by simpa using hget 0 u (by simp)
    refine ⟨⟨u, ?_, h1 u (by simpa using List.mem_of_getElem? (by simpa using hc0 : cells.toList[j]? = some u)), ?_⟩, ?_⟩
    · rw [add_at, Nat.zero_add, cell_of_row w b j cells ty (0, 0) hh]; exact hc0
    · simp only [AV.rel] at hu
      exact RV.rel_mono hR (fun _ _ => rfl) _ _ hu
    · exact relC_plain hR hh h1 cs us (j + 1) (fun i u hi => by
        have := hget (i + 1) u (by simpa using hi)
        rwa [show j + 1 + i = j + (i + 1) by omega]) hV
theorem sub_freezeP (s : AS) (t k : Nat) {rs : List RV} (hk0 : k < 1000) (ht : s.tm t = .pt k (s.ver k) 0) (hc : (s.rows k).c = .box (rs.map .r)) :
    Sub s { s with tm := upd s.tm t (.r (.rp rs)), rows := upd s.rows k ⟨(s.rows k).ver + 1, .dead⟩ } := fun C a w ⟨p, hp⟩ => by
  have h1 := hp.reRow (w' := w) k hk0 .dead rfl none 1 (by simp [maxLen]) rfl rfl rfl (Nat.le_refl _) (fun _ _ _ => rfl) (fun _ h => by cases h) (fun p' ver' _ hβ hγ _ => by simp only [rowRel]; exact ⟨hβ, hγ⟩)
  have hval := hp.tm t
  rw [ht] at hval
  have hr := hp.rw k
  rw [hc] at hr
  simp only [rowRel] at hr
  obtain ⟨b, cs, ty, g1, g2, g3, g4⟩ := hr
  simp only [AV.rel] at hval
  obtain ⟨b', e1, e2⟩ := hval.2 trivial
  rw [g1] at e1
  injection e1 with e1
  subst e1
  obtain ⟨q1, _, q2⟩ := hp.bl k b g1
  have h2 := h1.publish (b := b) q1 (q2.imp id fun h => h.resolve_left (fun h => by omega)) (fun j hj => by
    have hj' : upd p.β k none j = some b := hj
    by_cases e : j = k
    · subst e; rw [upd_same] at hj'; cases hj'
    · rw [upd_other _ _ e] at hj'; exact e (hp.ij j k b hj' g1)) (hp.ex.publish g1)
  refine ⟨_, { h2 with tm := fun j => ?_ }⟩
  show AV.rel w _ _ (upd s.tm t _ j) _
  by_cases hj : j = t
  · subst hj
    rw [upd_same]
    simp only [AV.rel, RV.rel]
    refine ⟨_, e2, .inr rfl, ?_⟩
    exact relC_plain (fun _ h => .inl h) g2 g4 _ _ _ (fun i u h => by simpa using h) g3
  · rw [upd_other _ _ hj]
    exact h2.tm j
section
variable {n : Nat} {l : List (Nat × AV)} {vs : Nat → Nat} {cs : List (Nat × RowC)}
theorem sub_frzP (t k : Nat) (rs : List RV) (hk0 : k < 1000) (ht : look l t = .pt k (vs k) 0) (hc : lookc cs k = .box (rs.map .r)) :
    Sub (st n l vs cs) (st n ((t, .r (.rp rs)) :: l) (upd vs k (vs k + 1)) (delc cs k)) := by
  have := sub_freezeP (st n l vs cs) t k hk0 ht hc
  have e : ({ st n l vs cs with tm := upd (st n l vs cs).tm t (.r (.rp rs)), rows := upd (st n l vs cs).rows k ⟨((st n l vs cs).rows k).ver + 1, .dead⟩ } : AS) = st n ((t, .r (.rp rs)) :: l) (upd vs k (vs k + 1)) (delc cs k) := by
    simp only [st, AS.mk.injEq, true_and]
    constructor
    · funext j
      show upd (look l) t (.r (.rp rs)) j = look ((t, .r (.rp rs)) :: l) j
      rfl
    · funext j
      rw [lookc_delc]
      unfold upd
      split <;> rfl
  rwa [e] at this
end
end Go.Oc

/- A long region in parts: between them what is not needed any more is dropped. -/
namespace Go.Oc
open Go Go.RowKit
set_option linter.unusedSimpArgs false
set_option linter.unusedVariables false
set_option linter.unnecessarySimpa false

section
variable {P : Program} {C : Ctx} {s : AS} {ops : Array Oper}
theorem aops_seq2 {Q : AS → Prop} {Q' : Exit → Act → World → Prop} {l2 : List Oper} {n : Nat} (hQ : ∀ s a w, s.n = n → Q s → SRel C s a w → wpListIn (fnc C.rd) 0 P ops Q' l2 a w) : ∀ (l : List Oper) (s : AS) (a : Act) (w : World), s.n = n → dstOk l.toArray s.n = true → aops P false ops l Q s → SRel C s a w → wpListIn (fnc C.rd) 0 P ops Q' (l ++ l2) a w
  | [], s, a, w, hn0, _, h, hs => hQ s a w hn0 h hs
  | o :: l, s, a, w, hn0, hd, h, hs => by
    rw [List.cons_append]
    have hd0 : ∀ t, o.dst = some t → t < s.n := dstOk_get (i := 0) hd (by simp)
    have hdl : dstOk l.toArray s.n = true := by
      unfold dstOk at hd ⊢
      simp only [List.all_toArray, List.all_cons, Bool.and_eq_true] at hd ⊢
      exact hd.2
    obtain ⟨p, hp⟩ := hs
    have run : ∀ {s1 : AS}, s1 = s → xop P false o (aops P false ops l Q) s1 → wantA ops s o = some true → wpListIn (fnc C.rd) 0 P ops Q' (o :: (l ++ l2)) a w := fun e hop hw => by
      subst e
      unfold wpListIn
      rw [if_pos (wantA_sound hp hw)]
      refine xop_sound hp hop hd0 (fun a' w' p' s' hs' hn hK => ?_) (dstOk_nd (i := 0) hd (by simp))
      exact aops_seq2 hQ l _ a' w' (hn.trans hn0) (by rw [hn]; exact hdl) hK ⟨p', hs'⟩
    have skip : ∀ {s1 : AS}, s1 = s → aops P false ops l Q (s1.put o.dst (.r .ud)) → wantA ops s o = some false → wpListIn (fnc C.rd) 0 P ops Q' (o :: (l ++ l2)) a w := fun e hop hw => by
      subst e
      unfold wpListIn
      rw [wantA_sound hp hw]
      simp only [Bool.false_eq_true, if_false]
      refine ⟨fun _ _ => trivial, ?_⟩
      have := hp.put' (d := o.dst) (av := .r .ud) (v := undef) (by simp only [AV.rel, RV.rel]) hd0
      exact aops_seq2 hQ l _ _ w ((put_n _ _ _).trans hn0) (by rw [put_n]; exact hdl) hop ⟨p, this⟩
    unfold aops at h
    split at h
    · rename_i hg
      exact run rfl h (by simp [wantA, hg])
    · rename_i g want hg
      split at h
      · rename_i ht
        exact skip rfl h (by simp [wantA, hg, ht])
      · rename_i t ht
        split at h
        · rename_i b hb
          by_cases hw : b = want
          · subst hw
            exact run (put_self hb) (h.1 rfl) (by simp [wantA, hg, ht, hb])
          · have hw' : b = !want := by cases b <;> cases want <;> simp_all
            subst hw'
            exact skip (put_self hb) (h.2 rfl) (by simp [wantA, hg, ht, hb])
        · rename_i hb
          exact skip rfl h (by simp [wantA, hg, ht, hb])
        · exact h.elim

/-- What is left of a region, from a state on. -/
def sops (P : Program) (C : Ctx) (ops : Array Oper) (l : List Oper) (Q : Exit → AS → Prop) (s : AS) : Prop := ∀ a w, SRel C s a w → wpListIn (fnc C.rd) 0 P ops (fun e a' w' => ∃ s', SRel C s' a' w' ∧ Q e s') l a w
variable {Q : Exit → AS → Prop}
theorem awp_long {id : Nat} {l : List Oper} (h : sops P C l.toArray l Q s) : awp P C (.region id l.toArray false) Q s := fun a w hs => wpIn_region_list (h a w hs)
theorem sops_take (k : Nat) {l : List Oper} (hd : dstOk (l.take k).toArray s.n = true) (h : ∀ K : AS → Prop, (∀ s', s'.n = s.n → sops P C ops (l.drop k) Q s' → K s') → aops P false ops (l.take k) K s) : sops P C ops l Q s := fun a w hs => by
  have h1 := h (fun s' => s'.n = s.n → sops P C ops (l.drop k) Q s') (fun s' _ hq _ => hq)
  have := aops_seq2 (Q' := fun e a' w' => ∃ s', SRel C s' a' w' ∧ Q e s') (l2 := l.drop k) (n := s.n) (fun s' a' w' hn hq hs' => hq hn a' w' hs') (l.take k) s a w rfl hd h1 hs
  rwa [List.take_append_drop] at this
theorem sops_sub {l : List Oper} {s' : AS} (h : Sub s s') (hq : sops P C ops l Q s') : sops P C ops l Q s := fun a w hs => hq a w (h C a w hs)
theorem sops_end {l : List Oper} (hd : dstOk l.toArray s.n = true) (h : ∀ K : AS → Prop, (∀ s, Q .normal s → K s) → aops P false ops l K s) : sops P C ops l Q s := fun a w hs =>
  aops_seq (fun s a w hq hs => ⟨s, hs, hq⟩) l s a w hd (h _ fun _ h => h) hs
theorem awp_fitV {c : Code} {n : Nat} {F : (Nat → Nat) → List (Nat × AV)} {R : (Nat → Nat) → List (Nat × RowC)} (h : FitV n F R s) (k : ∀ vs, awp P C c Q (st n (F vs) vs (R vs))) : awp P C c Q s := by
  obtain ⟨vs, h⟩ := h
  exact awp_sub h (k vs)
/-- Paths meet again; rows may tell of versions. -/
theorem awp_joinV {n : Nat} {c d : Code} {Q1 : Exit → AS → Prop} {α : Type} (F : α → (Nat → Nat) → List (Nat × AV)) (R : α → (Nat → Nat) → List (Nat × RowC)) (I : α → Prop)
    (h0 : ∀ s, awp P C d Q1 s → Q .normal s) (h1 : awp P C c (andThen (fun s' => ∃ z, I z ∧ FitV n (F z) (R z) s') Q) s) (h2 : ∀ z vs, I z → awp P C d Q1 (st n (F z vs) vs (R z vs))) : awp P C c Q s := by
  refine awp_mono ?_ h1
  intro e s' hq
  cases e with
  | normal =>
    obtain ⟨z, hz, hf⟩ := hq
    exact h0 s' (awp_fitV hf fun vs => h2 z vs hz)
  | _ => exact hq
end
end Go.Oc

/- A row of one's own under another number. -/
namespace Go.Oc
open Go Go.RowKit
set_option linter.unusedSimpArgs false
set_option linter.unusedVariables false

section
variable {P : Program} {C : Ctx} {p : Plan} {s : AS} {a : Act} {w : World}
/-- Row k takes a block that no row has. -/
theorem SR.adoptBlock (h : SR C p s a w) (k : Nat) (hk0 : k < 1000) (c : RowC) (hmi : c.isMi = false) (β1 : Option Nat) (g : Nat) (hg : g ≤ maxLen)
    (hβ1 : ∀ b, β1 = some b → b < w.heap.size ∧ ¬ p.R b ∧ (C.w0.heap.size ≤ b ∨ C.own b) ∧ ∀ j, p.β j ≠ some b) (hex : Ext C { p with β := upd p.β k β1, γ := upd p.γ k g } a.defers w)
    (hc : ∀ p' : Plan, ∀ ver', p'.R = p.R → p'.β k = β1 → p'.γ k = g → Kept w w p p' s.ver ver' → rowRel w p' ver' k c) :
    SR C { p with β := upd p.β k β1, γ := upd p.γ k g } { s with rows := upd s.rows k ⟨(s.rows k).ver + 1, c⟩ } a w := by
  have hver : ∀ j, (upd s.rows k ⟨(s.rows k).ver + 1, c⟩ j).ver = if j = k then s.ver k + 1 else s.ver j := fun j => by
    unfold upd; split <;> rfl
  have hk : Kept w w p { p with β := upd p.β k β1, γ := upd p.γ k g } s.ver (AS.ver { s with rows := upd s.rows k ⟨(s.rows k).ver + 1, c⟩ }) := by
    refine ⟨fun _ h => h, fun ad hr => rfl, fun j => ?_, fun j hj => ?_⟩
    · show s.ver j ≤ (upd s.rows k ⟨(s.rows k).ver + 1, c⟩ j).ver
      rw [hver]; split
      · rename_i e; subst e; omega
      · exact Nat.le_refl _
    · have hj' : (upd s.rows k ⟨(s.rows k).ver + 1, c⟩ j).ver = s.ver j := hj
      rw [hver] at hj'
      split at hj'
      · rename_i e; subst e; omega
      · rename_i e; exact ⟨upd_other _ _ e, upd_other _ _ e⟩
  exact {
    base := h.base
    r0 := h.r0
    rn := h.rn
    rb := h.rb
    tm := fun t => AV.rel_mono hk _ _ (h.tm t)
    sz := h.sz
    ex := hex
    rw := fun j => by
      by_cases e : j = k
      · subst e
        show rowRel _ _ _ j (upd s.rows j ⟨(s.rows j).ver + 1, c⟩ j).c
        rw [upd_same]
        exact hc _ _ rfl (upd_same _ _ _) (upd_same _ _ _) hk
      · show rowRel _ _ _ j (upd s.rows k ⟨(s.rows k).ver + 1, c⟩ j).c
        rw [upd_other _ _ e]
        exact rowRel_mono hk (.inr ⟨rfl, rfl, rfl, rfl, rfl, rfl, Nat.le_refl _, fun _ _ => rfl⟩) (upd_other _ _ e) (upd_other _ _ e) (fun b hβ => rfl) _ (fun km n l cur hcc hn b hβ => rfl) (h.rw j)
    bl := fun j b hβ => by
      by_cases e : j = k
      · subst e
        simp only [upd_same] at hβ
        obtain ⟨h1, h2, h3, _⟩ := hβ1 b hβ
        exact ⟨h1, h2, h3.imp id .inr⟩
      · simp only [upd_other _ _ e] at hβ
        exact h.bl j b hβ
    ij := fun j j' b hj hj' => by
      by_cases e : j = k <;> by_cases e' : j' = k
      · rw [e, e']
      · subst e
        simp only [upd_same, upd_other _ _ e'] at hj hj'
        exact absurd hj' ((hβ1 b hj).2.2.2 j')
      · subst e'
        simp only [upd_same, upd_other _ _ e] at hj hj'
        exact absurd hj ((hβ1 b hj').2.2.2 j)
      · simp only [upd_other _ _ e, upd_other _ _ e'] at hj hj'
        exact h.ij j j' b hj hj'
    cap := fun j => by
      show upd p.γ k g j ≤ maxLen
      unfold upd; split
      · exact hg
      · exact h.cap j
    pn := fun j x hx => by
      obtain ⟨h1, h2, h3, h4⟩ := h.pn j x hx
      have e : j ≠ k := by omega
      exact ⟨(upd_other _ _ e).trans h1, (upd_other _ _ e).trans h2, by show (upd s.rows k ⟨(s.rows k).ver + 1, c⟩ j).ver = 0; rw [upd_other _ _ e]; exact h3, h4⟩
    lk := fun j km n l cur hj hn => lk_upd h k c hmi j km n l cur hj hn }
end
/-- The slice in slot t, and its row, under the number k'. -/
theorem sub_moveRow (s : AS) (t k k' v sz off m ty sz' : Nat) (es : List (List RV)) (hk0 : k < 1000) (hk1 : k' < 1000) (hne : k' ≠ k) (ht : s.tm t = .os k v sz off m) (hv : v = s.ver k) (hc : (s.rows k).c = .arr ty sz' es) (hd : (s.rows k').c = .dead) :
    Sub s { s with tm := upd s.tm t (.os k' ((s.rows k').ver + 1) sz off m), rows := upd (upd s.rows k ⟨(s.rows k).ver + 1, .dead⟩) k' ⟨(s.rows k').ver + 1, .arr ty sz' es⟩ } := fun C a w ⟨p, hp⟩ => by
  have h1 := hp.reRow (w' := w) k hk0 .dead rfl none 1 (by simp [maxLen]) rfl rfl rfl (Nat.le_refl _) (fun _ _ _ => rfl) (fun _ h => by cases h) (fun p' ver' _ hβ hγ _ => by simp only [rowRel]; exact ⟨hβ, hγ⟩)
  have hval := hp.tm t
  rw [ht] at hval
  have hrow := hp.rw k
  rw [hc] at hrow
  have hno : ∀ b, p.β k = some b → ∀ j, upd p.β k none j ≠ some b := fun b hb j hj => by
    by_cases e : j = k
    · subst e; rw [upd_same] at hj; cases hj
    · rw [upd_other _ _ e] at hj; exact e (hp.ij j k b hj hb)
  have h2 := h1.adoptBlock k' hk1 (.arr ty sz' es) rfl (p.β k) (p.γ k) (hp.cap k) (fun b hb => by
    obtain ⟨g1, g2, g3⟩ := hp.bl k b hb
    exact ⟨g1, g2, g3.imp id fun h => h.resolve_left (fun h => by omega), hno b hb⟩) (hp.ex.mono rfl rfl rfl (Nat.le_refl _) (fun j b hj => by
    have hj' : upd (upd p.β k none) k' (p.β k) j = some b := hj
    by_cases e : j = k'
    · subst e; rw [upd_same] at hj'; exact .inl ⟨k, hj'⟩
    · rw [upd_other _ _ e] at hj'
      by_cases e2 : j = k
      · subst e2; rw [upd_same] at hj'; cases hj'
      · rw [upd_other _ _ e2] at hj'; exact .inl ⟨j, hj'⟩) (fun b hr => .inl hr) fun _ _ _ => rfl) (fun p' ver' hR hβ hγ _ => by
    simp only [rowRel] at hrow ⊢
    rw [hβ, hγ, hR]
    exact hrow)
  have e1 : (upd s.rows k ⟨(s.rows k).ver + 1, .dead⟩ k').ver = (s.rows k').ver := by rw [upd_other _ _ hne]
  rw [e1] at h2
  refine ⟨_, { h2 with tm := fun j => ?_ }⟩
  show AV.rel w _ _ (upd s.tm t _ j) _
  by_cases hj : j = t
  · subst hj
    rw [upd_same]
    simp only [AV.rel] at hval ⊢
    obtain ⟨_, hval⟩ := hval
    have hval := hval hv
    refine ⟨?_, fun _ => ?_⟩
    · show (s.rows k').ver + 1 ≤ (upd (upd s.rows k _) k' _ k').ver
      rw [upd_same]; exact Nat.le_refl _
    simp only [upd_same]
    exact hval
  · rw [upd_other _ _ hj]
    exact h2.tm j
section
variable {n : Nat} {l : List (Nat × AV)} {vs : Nat → Nat} {cs : List (Nat × RowC)}
theorem sub_move (t k k' : Nat) {sz off m ty sz' : Nat} {es : List (List RV)} (hk0 : k < 1000) (hk1 : k' < 1000) (hne : k' ≠ k) (ht : look l t = .os k (vs k) sz off m) (hc : lookc cs k = .arr ty sz' es) (hd : lookc cs k' = .dead) :
    Sub (st n l vs cs) (st n ((t, .os k' (vs k' + 1) sz off m) :: l) (upd (upd vs k (vs k + 1)) k' (vs k' + 1)) (insc (delc cs k) k' (.arr ty sz' es))) := by
  have := sub_moveRow (st n l vs cs) t k k' (vs k) sz off m ty sz' es hk0 hk1 hne ht rfl hc hd
  have e : ({ st n l vs cs with tm := upd (st n l vs cs).tm t (.os k' (((st n l vs cs).rows k').ver + 1) sz off m), rows := upd (upd (st n l vs cs).rows k ⟨((st n l vs cs).rows k).ver + 1, .dead⟩) k' ⟨((st n l vs cs).rows k').ver + 1, .arr ty sz' es⟩ } : AS)
      = st n ((t, .os k' (vs k' + 1) sz off m) :: l) (upd (upd vs k (vs k + 1)) k' (vs k' + 1)) (insc (delc cs k) k' (.arr ty sz' es)) := by
    simp only [st, AS.mk.injEq, true_and]
    refine ⟨?_, ?_⟩
    · funext j
      show upd (look l) t _ j = _
      rw [look_cons]; unfold upd; rfl
    · funext j
      show upd (upd (fun k => (⟨vs k, lookc cs k⟩ : Row)) k _) k' _ j = _
      rw [lookc_insc, lookc_delc]
      unfold upd
      by_cases e1 : j = k'
      · simp [e1]
      · by_cases e2 : j = k
        · simp [e2, Ne.symm hne]
        · simp [e1, e2]
  rw [← e]
  exact this
end
end Go.Oc

/- Ranges over functions: the contract of an iterator, out of its body; a round's frame; the rule for the statement. -/
namespace Go.Oc
open Go Go.RowKit
set_option linter.unusedSimpArgs false
set_option linter.unusedVariables false

/-- The iterator, with what it has caught, hands over xs, one after another, until a round says 'no more'. -/
def ICalls (P : Program) (z : Bool) (F : FuncId) (caps : List RV) (xs : List (List RV)) : Prop :=
  callable P F = true ∧ ∀ (w : World) (R : Nat → Prop) (vs : Array Value) (X : XS) (Ψ Θ : Nat → Prop), (∀ b, R b → b < w.heap.size) → RV.relV w R caps vs.toList → X.z = z → (z = false → ∀ b, R b → X.R b) → X.n0 ≤ w.heap.size → YOk P X →
    (∀ b, Ψ b → b < w.heap.size) → (∀ b, Θ b → b < w.heap.size) → (∀ b, R b → ¬ Θ b) → X.X (some xs) w Ψ Θ →
    Calls P F (#[.func (.yield X.l) #[] #[]] ++ vs) w fun e w' => (∃ v, e = .returned v) ∧ (∃ Ψ' Θ', X.X (some []) w' Ψ' Θ' ∨ X.X none w' Ψ' Θ')

def ipost (P : Program) : Exit → AS → Prop
  | .normal, s => ∃ l z, (s.rows 999).c = .gh P l z (some []) ∨ (s.rows 999).c = .gh P l z none
  | .ret, s => ∃ l z, (s.rows 999).c = .gh P l z (some []) ∨ (s.rows 999).c = .gh P l z none
  | _, _ => False
theorem ipost_normal {P : Program} {s : AS} : ipost P .normal s = ∃ l z, (s.rows 999).c = .gh P l z (some []) ∨ (s.rows 999).c = .gh P l z none := rfl
theorem ipost_ret {P : Program} {s : AS} : ipost P .ret s = ∃ l z, (s.rows 999).c = .gh P l z (some []) ∨ (s.rows 999).c = .gh P l z none := rfl

/-- **The contract of an iterator, out of its body.** -/
theorem icalls_st {P : Program} {z : Bool} {f : FuncId} {fn : Func} {c : Code} {n : Nat} {caps : List RV} {xs : List (List RV)} (hf : P.funcs[f]? = some fn) (hb : fn.body = some c) (hc : callable P f = true) (hn : fn.ntmps = n) (hres : fn.results.toList = [])
    (hargs : caps.length + 1 ≤ n) (h : ∀ C l, awp P C c (ipost P) (st n (argL 0 (.yl l :: caps)) (fun _ => 0) [(999, .gh P l z (some xs))])) : ICalls P z f caps xs := by
  refine ⟨hc, fun w R vs0 X Ψ Θ hR hV0 hz hzR hn0 hY hΨ hΘ hRΘ hX => ?_⟩
  have hV : RV.relV w R (.yl X.l :: caps) (#[Value.func (.yield X.l) #[] #[]] ++ vs0).toList := by
    simp only [RV.relV]
    exact ⟨Value.func (.yield X.l) #[] #[], vs0.toList, by simp, by simp only [RV.rel], hV0⟩
  generalize #[Value.func (.yield X.l) #[] #[]] ++ vs0 = vs at hV
  have hlen := RV.relV_length hV
  simp only [Array.length_toList, List.length_cons] at hlen
  let C : Ctx := { w0 := w, R0 := R, bor := Θ, pin := fun _ => none, X := X }
  let p : Plan := { R := R, β := fun _ => none, γ := fun _ => 1, X := X, Ψ := Ψ, Θ := Θ }
  have hs : SR C p (st n (argL 0 (.yl X.l :: caps)) (fun _ => 0) [(999, .gh P X.l z (some xs))]) { tmps := vs ++ Array.replicate (fn.ntmps - vs.size) undef, defers := [] } w := {
    base := ⟨rfl, rfl, rfl, Nat.le_refl _, fun _ _ _ _ => rfl⟩
    r0 := fun _ h => h
    rn := fun _ h => .inl h
    rb := hR
    tm := fun t => by
      show (look (argL 0 (.yl X.l :: caps)) t).rel _ _ _ _
      by_cases hmem : ∃ x, (t, x) ∈ argL 0 (RV.yl X.l :: caps)
      · cases e : (RV.yl X.l :: caps)[t]? with
        | none =>
          obtain ⟨x, hx⟩ := hmem
          obtain ⟨i, y, h1, h2⟩ := argL_mem _ hx
          simp only [Nat.zero_add, Prod.mk.injEq] at h1
          rw [← h1.1, e] at h2; cases h2
        | some x =>
          obtain ⟨u, hu, hx⟩ := RV.relV_get hV e
          have : (vs ++ Array.replicate (fn.ntmps - vs.size) undef).getD t undef = u := by
            have ht : t < vs.size := by have := (List.getElem?_eq_some_iff.1 hu).1; simpa using this
            rw [Array.getD_eq_getD_getElem?, Array.getElem?_append_left ht]
            simp only [Array.getElem?_toList] at hu
            rw [hu]; rfl
          have e2 := argL_look (k := 0) e
          rw [Nat.zero_add] at e2
          rw [this, e2]
          simpa only [AV.rel] using hx
      · rw [look_none hmem]
        exact AV.rel_un _ _ _ _
    sz := by simp only [Array.size_append, Array.size_replicate, st]; omega
    ex := {
      px := rfl
      n0 := hn0
      ψ0 := fun hz' b hb => hzR (hz ▸ hz') b hb
      ψl := hΨ
      θl := hΘ
      ψb := fun k b h => by cases h
      ψr := hRΘ
      ψo := fun b h => h.elim
      θo := fun b h _ => h
      bo := fun b h => h.elim (hΘ b) (fun h => h.elim)
      ψn := fun hn => (hn _ _ _ _ hX).elim
      hd := fun b h => h.elim
      rm := fun _ => rfl
      df := ⟨[], rfl, List.nodup_nil, fun D hD => by cases hD⟩ }
    rw := fun k => by
      show rowRel w p _ k (lookc [(999, RowC.gh P X.l z (some xs))] k)
      rw [lookc_cons, lookc_nil]
      split
      · rename_i e
        simp only [rowRel]
        exact ⟨e, rfl, rfl, rfl, hz, hY, hX⟩
      · simp only [rowRel]; exact ⟨rfl, rfl⟩
    bl := fun k b h => by simp [p] at h
    ij := fun k k' b h => by simp [p] at h
    cap := fun k => by simp [p, maxLen]
    pn := fun k x h => by cases h
    lk := fun j km n l cur h _ => by
      have h' : lookc [(999, RowC.gh P X.l z (some xs))] j = .mi km n l cur := h
      rw [lookc_cons, lookc_nil] at h'
      split at h' <;> cases h' }
  refine callsIn_wide.1 (callsIn_of_wp_marks (n := 0) hf hb trivial (wpIn_mono (h C X.l _ w ⟨p, hs⟩) ?_))
  rintro e a' w' ⟨s', ⟨p', hs'⟩, hq⟩
  have fin : ∀ (a' : Act) (w' : World), SR C p' s' a' w' → (∃ l z, (s'.rows 999).c = .gh P l z (some []) ∨ (s'.rows 999).c = .gh P l z none) →
      ∃ v, (results fn a'.tmps).run P w' = .ok v w' ∧ ((∃ v', Ending.returned v = .returned v') ∧ ∃ Ψ' Θ', X.X (some []) w' Ψ' Θ' ∨ X.X none w' Ψ' Θ') := fun a' w' hs' ⟨l, z', hq⟩ => by
    have hm : (fn.results.mapM (resOp a'.tmps)).run P w' = .ok #[] w' := by
      rw [Array.mapM_eq_mapM_toList, hres]
      simp only [Sem.run_map, List.mapM_nil, Sem.run_pure, Result.andThen_ok]
    refine ⟨.tuple #[], by rw [results_eq, Sem.run_bind, hm]; simp, ⟨_, rfl⟩, p'.Ψ, p'.Θ, ?_⟩
    have hpx : p'.X = X := hs'.ex.px
    have hr := hs'.rw 999
    rcases hq with hq | hq
    · rw [hq] at hr
      simp only [rowRel] at hr
      rw [hpx] at hr
      exact .inl hr.2.2.2.2.2.2
    · rw [hq] at hr
      simp only [rowRel] at hr
      rw [hpx] at hr
      exact .inr hr.2.2.2.2.2.2
  cases e with
  | normal => exact hs'.leave fun a'' w'' _ hs'' => fin a'' w'' hs'' hq
  | ret => exact hs'.leave fun a'' w'' _ hs'' => fin a'' w'' hs'' hq
  | _ => exact hq.elim

/-! ### A round's frame -/
section
variable {P : Program} {C : Ctx} {p p1 p3 : Plan} {s s1 s3 : AS} {a a1 a3 : Act} {w w1 w2 w3 : World} {L : Nat} {R : Nat → Prop}
/-- The context of a round, or of a part of it. -/
def Cin (C : Ctx) (p : Plan) (R : Nat → Prop) (w : World) (rd : Option Nat) (Hd : Nat → Prop) : Ctx :=
  { w0 := w, R0 := fun b => p.R b ∨ R b, bor := fun b => C.bor b ∧ ∃ k, 1000 ≤ k ∧ p.β k = some b, pin := C.pin, own := fun b => ∃ k, p.β k = some b ∧ ¬ (1000 ≤ k ∧ C.bor b), X := C.X, rd := rd, hd := Hd }
theorem own_of {k b : Nat} (h : p.β k = some b) : (1000 ≤ k ∧ (C.bor b ∧ ∃ k, 1000 ≤ k ∧ p.β k = some b)) ∨ ∃ k, p.β k = some b ∧ ¬ (1000 ≤ k ∧ C.bor b) := by
  by_cases e : 1000 ≤ k ∧ C.bor b
  · exact .inl ⟨e.1, e.2, k, e.1, h⟩
  · exact .inr ⟨k, h, e⟩
theorem SR.into (h : SR C p s a w) (hn : ∀ o w Ψ Θ, ¬ C.X.X o w Ψ Θ) (hos : w2.os = w.os) (htape : w2.tape = w.tape) (hout : w2.output = w.output) (hsize : w2.heap.size = w.heap.size) (hoth : ∀ b, b ≠ L → w2.heap[b]? = w.heap[b]?)
    (hLR : ¬ p.R L) (hLβ : ∀ k, p.β k ≠ some L) (hR : ∀ b, R b → b < w.heap.size ∧ ∀ k, p.β k ≠ some b) {a' : Act} {tm' : Nat → AV} (htm : ∀ t, (tm' t).rel w2 { p with R := fun b => p.R b ∨ R b } s.ver (a'.tmps.getD t undef))
    (hsz : a'.tmps.size = s.n) (hdf : a'.defers = []) {rd : Option Nat} {Hd : Nat → Prop} (hHd : ∀ b, Hd b → b < w.heap.size ∧ ¬ C.bor b ∧ ¬ p.R b ∧ ¬ R b ∧ ∀ k, p.β k ≠ some b) (hC : C.X = XS.none) :
    SR (Cin C p R w2 rd Hd) { p with R := fun b => p.R b ∨ R b } { s with tm := tm' } a' w2 := by
  have hk : Kept w w2 p { p with R := fun b => p.R b ∨ R b } s.ver s.ver :=
    ⟨fun _ h => .inl h, fun ad hr => World.cell?_of_block (hoth _ fun e => hLR (e ▸ hr)), fun _ => Nat.le_refl _, fun _ _ => ⟨rfl, rfl⟩⟩
  have hψ := h.ex.ψn hn
  exact {
    base := ⟨rfl, rfl, rfl, Nat.le_refl _, fun _ _ _ _ => rfl⟩
    r0 := fun _ h => h
    rn := fun _ h => .inl h
    rb := fun b hb => by rw [hsize]; exact hb.elim (h.rb b) (fun hb => (hR b hb).1)
    tm := htm
    sz := hsz
    ex := {
      px := h.ex.px
      n0 := by show C.X.n0 ≤ _; rw [hC]; exact Nat.zero_le _
      ψ0 := fun hz => by have : C.X.z = false := hz; rw [hC] at this; cases this
      ψl := fun b hb => ((hψ b).1 hb).elim
      θl := fun b hb => ((hψ b).2 hb).elim
      ψb := fun k b _ => hψ b
      ψr := fun b _ => (hψ b).2
      ψo := fun b _ => by show C.X.n0 ≤ _; rw [hC]; exact Nat.zero_le _
      θo := fun b hb => ((hψ b).2 hb).elim
      bo := fun b hb => by
        show b < w2.heap.size
        rw [hsize]
        rcases hb with ⟨_, k, _, hk⟩ | ⟨k, hk, _⟩
        · exact (h.bl k b hk).1
        · exact (h.bl k b hk).1
      ψn := fun _ b => hψ b
      hd := fun b hb => by
        obtain ⟨g1, g2, g3, g4, g5⟩ := hHd b hb
        exact ⟨by show b < w2.heap.size; rw [hsize]; exact g1, fun ⟨g, _⟩ => g2 g, fun ⟨k, g, _⟩ => g5 k g, by rw [hsize]; exact g1, fun g => g.elim g3 g4, (hψ b).1, (hψ b).2, g5⟩
      rm := fun _ => hdf
      df := ⟨[], hdf, List.nodup_nil, fun D hD => by cases hD⟩ }
    rw := fun k => by
      by_cases e : k = 999
      · have hr := h.rw k
        show rowRel w2 _ s.ver k (s.rows k).c
        cases hc : (s.rows k).c with
        | gh P' l z left =>
          rw [hc] at hr
          simp only [rowRel] at hr
          exact (hn _ _ _ _ (h.ex.px ▸ hr.2.2.2.2.2.2)).elim
        | _ =>
          refine rowRel_mono hk (.inr ⟨rfl, rfl, rfl, hos, htape, hout, Nat.le_of_eq hsize.symm, fun b hb => ((hψ b).1 hb).elim⟩) rfl rfl (fun b hb => hoth b fun e => hLβ k (e ▸ hb)) _ (fun km _ _ _ _ _ b hb => hoth b fun e => hLβ km (e ▸ hb)) (by rw [hc] at hr; exact hr)
      · exact rowRel_mono hk (.inl e) rfl rfl (fun b hb => hoth b fun e => hLβ k (e ▸ hb)) _ (fun km _ _ _ _ _ b hb => hoth b fun e => hLβ km (e ▸ hb)) (h.rw k)
    bl := fun k b hb => ⟨by rw [hsize]; exact (h.bl k b hb).1, fun hr => hr.elim (h.bl k b hb).2.1 (fun hr => (hR b hr).2 k hb), .inr (own_of hb)⟩
    ij := h.ij
    cap := h.cap
    pn := h.pn
    lk := h.lk }

/-- What a round, or a part of it, has done. -/
structure Hop (C : Ctx) (p : Plan) (w : World) (L : Nat) (R : Nat → Prop) (p3 : Plan) (w3 : World) : Prop where
  os : w3.os = w.os
  tape : w3.tape = w.tape
  output : w3.output = w.output
  size : w.heap.size ≤ w3.heap.size
  heap : ∀ b, b < w.heap.size → (∀ k, p.β k ≠ some b) → b ≠ L → w3.heap[b]? = w.heap[b]?
  r : ∀ b, p.R b → p3.R b
  rn : ∀ b, p3.R b → p.R b ∨ R b ∨ w.heap.size ≤ b ∨ ∃ k, p.β k = some b ∧ ¬ (1000 ≤ k ∧ C.bor b)
  bl : ∀ k b, p3.β k = some b → w.heap.size ≤ b ∨ (1000 ≤ k ∧ C.bor b ∧ ∃ k, 1000 ≤ k ∧ p.β k = some b) ∨ ∃ k, p.β k = some b ∧ ¬ (1000 ≤ k ∧ C.bor b)
theorem Hop.of (hos : w2.os = w.os) (htape : w2.tape = w.tape) (hout : w2.output = w.output) (hsize : w2.heap.size = w.heap.size) (hoth : ∀ b, b ≠ L → w2.heap[b]? = w.heap[b]?) {rd : Option Nat} {Hd : Nat → Prop}
    (h : SR (Cin C p R w2 rd Hd) p3 s3 a3 w3) : Hop C p w L R p3 w3 where
  os := h.base.os.trans hos
  tape := h.base.tape.trans htape
  output := h.base.output.trans hout
  size := hsize ▸ h.base.size
  heap := fun b hb hn hl => (h.base.block b (by show b < w2.heap.size; rw [hsize]; exact hb) (fun ⟨_, k, _, hk⟩ => hn k hk) (fun ⟨k, hk, _⟩ => hn k hk)).trans (hoth b hl)
  r := fun b hb => h.r0 b (.inl hb)
  rn := fun b hb => by
    rcases h.rn b hb with g | g | g
    · exact g.elim .inl (fun g => .inr (.inl g))
    · exact .inr (.inr (.inl (by rw [← hsize]; exact g)))
    · exact .inr (.inr (.inr g))
  bl := fun k b hb => by
    rcases (h.bl k b hb).2.2 with g | ⟨g1, g2, k', g3, g4⟩ | g
    · exact .inl (by rw [← hsize]; exact g)
    · exact .inr (.inl ⟨g1, g2, k', g3, g4⟩)
    · exact .inr (.inr g)
theorem Hop.trans (h : Hop C p w L R p1 w1) {C' : Ctx} (hCb : ∀ b, C'.bor b ↔ C.bor b ∧ ∃ k, 1000 ≤ k ∧ p.β k = some b) (h' : Hop C' p1 w1 L (fun _ => False) p3 w3) : Hop C p w L R p3 w3 where
  os := h'.os.trans h.os
  tape := h'.tape.trans h.tape
  output := h'.output.trans h.output
  size := Nat.le_trans h.size h'.size
  heap := fun b hb hn hl => by
    refine (h'.heap b (Nat.lt_of_lt_of_le hb h.size) (fun k hk => ?_) hl).trans (h.heap b hb hn hl)
    rcases h.bl k b hk with g | ⟨_, _, k', _, g⟩ | ⟨k', g, _⟩
    · omega
    · exact hn k' g
    · exact hn k' g
  r := fun b hb => h'.r b (h.r b hb)
  rn := fun b hb => by
    rcases h'.rn b hb with g | g | g | ⟨k, g, g'⟩
    · exact h.rn b g
    · exact g.elim
    · exact .inr (.inr (.inl (Nat.le_trans h.size g)))
    · rcases h.bl k b g with g1 | ⟨g1, g2, g3⟩ | g1
      · exact .inr (.inr (.inl g1))
      · exact (g' ⟨g1, (hCb b).2 ⟨g2, g3⟩⟩).elim
      · exact .inr (.inr (.inr g1))
  bl := fun k b hb => by
    rcases h'.bl k b hb with g | ⟨g1, g2, _⟩ | ⟨k', g1, g2⟩
    · exact .inl (Nat.le_trans h.size g)
    · exact .inr (.inl ⟨g1, ((hCb b).1 g2).1, ((hCb b).1 g2).2⟩)
    · rcases h.bl k' b g1 with q | ⟨q1, q2, q3⟩ | q
      · exact .inl q
      · exact (g2 ⟨q1, (hCb b).2 ⟨q2, q3⟩⟩).elim
      · exact .inr (.inr q)
theorem Hop.put (h : Hop C p w L R p3 w3) {o : Obj} : Hop C p w L R p3 (w3.putObj L o) where
  os := h.os
  tape := h.tape
  output := h.output
  size := by rw [World.putObj_size]; exact h.size
  heap := fun b hb hn hl => (World.putObj_heap_other hl).trans (h.heap b hb hn hl)
  r := h.r
  rn := h.rn
  bl := h.bl

/-- A round is over: the frame that waits reads the world as it is now. -/
theorem SR.land (h0 : SR C p s a w) (hn : ∀ o w Ψ Θ, ¬ C.X.X o w Ψ Θ) (hL0 : C.w0.heap.size ≤ L) (hLm : ∀ d ∈ a.defers, d.target ≠ .collected L) (hop : Hop C p w L R p3 w3)
    (hR : ∀ b, R b → b < w.heap.size ∧ (∀ d ∈ a.defers, d.target ≠ .collected b) ∧ ¬ C.hd b ∧ (C.R0 b ∨ C.w0.heap.size ≤ b ∨ C.own b)) {C' : Ctx} (hpin : C'.pin = C.pin) (hX : C'.X = C.X) (h3 : SR C' p3 s3 a3 w2) (hLR : ¬ p3.R L) (hLβ : ∀ k, p3.β k ≠ some L)
    (hos : w3.os = w2.os) (htape : w3.tape = w2.tape) (hout : w3.output = w2.output) (hsize : w3.heap.size = w2.heap.size) (hoth : ∀ b, b ≠ L → w3.heap[b]? = w2.heap[b]?) :
    SR C p3 { n := s.n, tm := fun _ => .r .un, rows := s3.rows } a w3 := by
  have hψ := h3.ex.ψn (by rw [hX]; exact hn)
  have hk : Kept w2 w3 p3 p3 s3.ver s3.ver := ⟨fun _ h => h, fun ad hr => World.cell?_of_block (hoth _ fun e => hLR (e ▸ hr)), fun _ => Nat.le_refl _, fun _ _ => ⟨rfl, rfl⟩⟩
  have hx : KX w2 w3 p3 p3 := ⟨rfl, rfl, rfl, hos, htape, hout, Nat.le_of_eq hsize.symm, fun b hb => ((hψ b).1 hb).elim⟩
  have hβC : ∀ k b, p3.β k = some b → C.w0.heap.size ≤ b ∨ (1000 ≤ k ∧ C.bor b) ∨ C.own b := fun k b hb => by
    rcases hop.bl k b hb with g | ⟨g1, g2, _⟩ | ⟨k', g1, g2⟩
    · exact .inl (Nat.le_trans h0.base.size g)
    · exact .inr (.inl ⟨g1, g2⟩)
    · rcases (h0.bl k' b g1).2.2 with q | q | q
      · exact .inl q
      · exact (g2 q).elim
      · exact .inr (.inr q)
  -- blocks that are no row's, and known before, stay out
  have hout' : ∀ b, b < w.heap.size → (∀ k, p.β k ≠ some b) → (∀ k, p3.β k = some b → 1000 ≤ k ∧ C.bor b ∧ ∃ k, 1000 ≤ k ∧ p.β k = some b) := fun b hb hn k hk => by
    rcases hop.bl k b hk with g | g | ⟨k', g1, _⟩
    · omega
    · exact g
    · exact (hn k' g1).elim
  exact {
    base := ⟨hop.os.trans h0.base.os, hop.tape.trans h0.base.tape, hop.output.trans h0.base.output, Nat.le_trans h0.base.size hop.size, fun b hb hbor hown => by
      refine (hop.heap b (Nat.lt_of_lt_of_le hb h0.base.size) (fun k hk => ?_) (fun e => by omega)).trans (h0.base.block b hb hbor hown)
      rcases (h0.bl k b hk).2.2 with g | g | g
      · omega
      · exact hbor g.2
      · exact hown g⟩
    r0 := fun b hb => hop.r b (h0.r0 b hb)
    rn := fun b hb => by
      rcases hop.rn b hb with g | g | g | ⟨k, g1, g2⟩
      · exact h0.rn b g
      · exact (hR b g).2.2.2
      · exact .inr (.inl (Nat.le_trans h0.base.size g))
      · rcases (h0.bl k b g1).2.2 with q | q | q
        · exact .inr (.inl q)
        · exact (g2 q).elim
        · exact .inr (.inr q)
    rb := fun b hb => hsize ▸ h3.rb b hb
    tm := fun t => AV.rel_un _ _ _ _
    sz := h0.sz
    ex := {
      px := h3.ex.px.trans hX
      n0 := h0.ex.n0
      ψ0 := h0.ex.ψ0
      ψl := fun b hb => ((hψ b).1 hb).elim
      θl := fun b hb => ((hψ b).2 hb).elim
      ψb := fun k b _ => hψ b
      ψr := fun b _ => (hψ b).2
      ψo := h0.ex.ψo
      θo := fun b hb => ((hψ b).2 hb).elim
      bo := h0.ex.bo
      ψn := fun _ b => hψ b
      hd := fun b hb => by
        obtain ⟨k1, k2, k3, k4, k5, k6, k7, k8⟩ := h0.ex.hd b hb
        refine ⟨k1, k2, k3, Nat.lt_of_lt_of_le k4 hop.size, fun g => ?_, (hψ b).1, (hψ b).2, fun k hk => ?_⟩
        · rcases hop.rn b g with g | g | g | ⟨k, g, _⟩
          · exact k5 g
          · exact (hR b g).2.2.1 hb
          · omega
          · exact k8 k g
        · exact k2 (hout' b k4 k8 k hk).2.1
      rm := h0.ex.rm
      df := by
        obtain ⟨Ds, g1, g2, g3⟩ := h0.ex.df
        refine ⟨Ds, g1, g2, fun D hD => ?_⟩
        have hmem : ({ target := .collected D, args := #[] } : Deferred) ∈ a.defers := by rw [g1]; exact List.mem_map.2 ⟨D, hD, rfl⟩
        obtain ⟨k1, k2, k3, k4, k5, k6⟩ := g3 D hD
        have hlt : D < w.heap.size := (Array.getElem?_eq_some_iff.1 k1).1
        refine ⟨(hop.heap D hlt k4 fun e => hLm _ hmem (by rw [e])).trans k1, k2, fun g => ?_, fun k hk => ?_, (hψ D).1, (hψ D).2⟩
        · rcases hop.rn D g with g | g | g | ⟨k, g, _⟩
          · exact k3 g
          · exact (hR D g).2.1 _ hmem rfl
          · omega
          · exact k4 k g
        · have := h0.ex.bo D (.inl (hout' D hlt k4 k hk).2.1); omega }
    rw := fun k => by
      show rowRel w3 p3 s3.ver k (s3.rows k).c
      exact rowRel_mono hk (.inr hx) rfl rfl (fun b hb => hoth b fun e => hLβ k (e ▸ hb)) _ (fun km _ _ _ _ _ b hb => hoth b fun e => hLβ km (e ▸ hb)) (h3.rw k)
    bl := fun k b hb => ⟨by rw [hsize]; exact (h3.bl k b hb).1, (h3.bl k b hb).2.1, hβC k b hb⟩
    ij := h3.ij
    cap := h3.cap
    pn := fun k x hx => h3.pn k x (by rw [hpin]; exact hx)
    lk := h3.lk }
end
end Go.Oc

/- Ranges over functions: the rule for the statement. -/
namespace Go.Oc
open Go Go.RowKit
set_option linter.unusedSimpArgs false
set_option linter.unusedVariables false

section
variable {P : Program} {C : Ctx} {p : Plan} {s : AS} {a : Act} {w : World}
/-- A loop begins: its two blocks are laid, the mark is left. -/
theorem SR.enter (h : SR C p s a w) (hrd : C.rd = none) (o1 : Loop) :
    SR C p s { tmps := a.tmps, defers := { target := .collected w.heap.size, args := #[] } :: a.defers } ((w.alloc (.deferred (some []))).alloc (.loop o1)) := by
  have h1 : SR C p s a ((w.alloc (.deferred (some []))).alloc (.loop o1)) :=
    h.below (R' := p.R) (((Below.refl _ w).alloc (Nat.le_refl _) _).alloc (by simp) _) (fun _ h => h) (fun _ h => .inl h) (fun b hb => by have := h.rb b hb; simp; omega)
  have hnew : ((w.alloc (.deferred (some []))).alloc (.loop o1)).heap[w.heap.size]? = some (.deferred (some [])) := (Below.heap_alloc _ _ _ (by simp)).trans (World.alloc_heap_new w _)
  refine h1.other rfl rfl rfl rfl (Nat.le_refl _) (fun _ _ _ => rfl) { h1.ex with rm := fun hr => absurd hr (by rw [hrd]; simp), df := ?_ }
  obtain ⟨Ds, g1, g2, g3⟩ := h.ex.df
  obtain ⟨Ds', g1', _, g3'⟩ := h1.ex.df
  have he : Ds' = Ds := marks_inj (g1'.symm.trans g1)
  subst he
  refine ⟨w.heap.size :: Ds', by rw [g1]; rfl, List.nodup_cons.2 ⟨fun hD => ?_, g2⟩, fun D hD => ?_⟩
  · have := (Array.getElem?_eq_some_iff.1 (g3 _ hD).1).1; omega
  · rcases List.mem_cons.1 hD with rfl | hD
    · exact ⟨hnew, h.base.size, fun hr => by have := h.rb _ hr; omega, fun k hk => by have := (h.bl k _ hk).1; omega, fun hr => by have := h.ex.ψl _ hr; omega, fun hr => by have := h.ex.θl _ hr; omega⟩
    · exact g3' D hD
/-- What some slots hold is written down in a row without a block. -/
theorem SR.wait (h : SR C p s a w) (hdead : (s.rows 0).c = .dead) (ts : List Nat) :
    SR C p { n := s.n, tm := fun _ => .r .un, rows := upd s.rows 0 ⟨(s.rows 0).ver, .sus (ts.map s.tm) (ts.map fun t => a.tmps.getD t undef)⟩ } a w := by
  have hv : AS.ver { n := s.n, tm := fun _ => .r .un, rows := upd s.rows 0 ⟨(s.rows 0).ver, .sus (ts.map s.tm) (ts.map fun t => a.tmps.getD t undef)⟩ } = s.ver := by
    funext j
    show (upd s.rows 0 _ j).ver = (s.rows j).ver
    unfold upd; split
    · rename_i e; subst e; rfl
    · rfl
  exact {
    base := h.base
    r0 := h.r0
    rn := h.rn
    rb := h.rb
    tm := fun t => AV.rel_un _ _ _ _
    sz := h.sz
    ex := h.ex
    rw := fun k => by
      rw [hv]
      show rowRel w p s.ver k (upd s.rows 0 _ k).c
      by_cases e : k = 0
      · subst e
        rw [upd_same]
        have hr := h.rw 0
        rw [hdead] at hr
        simp only [rowRel] at hr ⊢
        refine ⟨hr.1, hr.2, ?_⟩
        clear hv hr
        induction ts with
        | nil => simp [AV.relV]
        | cons t ts ih => simp only [List.map_cons, AV.relV]; exact ⟨_, _, rfl, h.tm t, ih⟩
      · rw [upd_other _ _ e]; exact h.rw k
    bl := h.bl
    ij := h.ij
    cap := h.cap
    pn := fun k x hx => by rw [hv]; exact h.pn k x hx
    lk := fun j km n l cur hj hn => by
      rw [hv] at hn
      show (upd s.rows 0 _ km).c.isMpi = true
      have hj' : (upd s.rows 0 ⟨(s.rows 0).ver, .sus (ts.map s.tm) (ts.map fun t => a.tmps.getD t undef)⟩ j).c = .mi km n l cur := hj
      by_cases e : j = 0
      · subst e; rw [upd_same] at hj'; cases hj'
      · rw [upd_other _ _ e] at hj'
        have h5 := h.lk j km n l cur hj' hn
        have e2 : km ≠ 0 := fun e2 => by rw [e2, hdead] at h5; cases h5
        rw [upd_other _ _ e2]; exact h5 }
/-- A round's slots: yield's arguments over what was written down. -/
def psA : List Nat → List RV → (Nat → AV) → Nat → AV
  | t :: ts, x :: xs, tm => psA ts xs (upd tm t (.r x))
  | _, _, tm => tm
theorem look_zip {ver : Nat → Nat} {f : Nat → Value} : ∀ {ts : List Nat} {avs : List AV}, AV.relV w p ver avs (ts.map f) → ∀ t, (look (ts.zip avs) t).rel w p ver (f t)
  | [], _, _, t => by simp only [List.zip_nil_left]; exact AV.rel_un _ _ _ _
  | _ :: _, [], _, t => by simp only [List.zip_nil_right]; exact AV.rel_un _ _ _ _
  | t0 :: ts, x :: avs, h, t => by
    simp only [List.map_cons, AV.relV] at h
    obtain ⟨u, us, he, h1, h2⟩ := h
    injection he with e1 e2
    subst e1 e2
    simp only [List.zip_cons_cons]
    show ((if t = t0 then x else look (ts.zip avs) t)).rel w p ver (f t)
    split
    · rename_i e; subst e; exact h1
    · exact look_zip h2 t
theorem psA_rel {ver : Nat → Nat} : ∀ (ts : List Nat) (es : List RV) (vs : List Value) (tm : Nat → AV) (tmps : Array Value), RV.relV w p.R es vs → (∀ t ∈ ts, t < tmps.size) → (∀ t, (tm t).rel w p ver (tmps.getD t undef)) →
    ((ts.zip vs).foldl (fun tmps (x : Nat × Value) => tmps.setIfInBounds x.1 x.2) tmps).size = tmps.size ∧ ∀ t, (psA ts es tm t).rel w p ver (((ts.zip vs).foldl (fun tmps (x : Nat × Value) => tmps.setIfInBounds x.1 x.2) tmps).getD t undef)
  | [], _, _, tm, tmps, _, _, h => ⟨rfl, h⟩
  | t0 :: ts, [], vs, tm, tmps, hV, _, h => by
    simp only [RV.relV] at hV
    subst hV
    exact ⟨rfl, h⟩
  | t0 :: ts, x :: es, vs, tm, tmps, hV, hlt, h => by
    simp only [RV.relV] at hV
    obtain ⟨u, us, rfl, h1, h2⟩ := hV
    simp only [List.zip_cons_cons, List.foldl_cons]
    have h3 := psA_rel (ver := ver) ts es us (upd tm t0 (.r x)) (tmps.setIfInBounds t0 u) h2 (fun t ht => by simpa using hlt t (by simp [ht])) (fun t => by
      by_cases e : t = t0
      · subst e
        rw [upd_same]
        have : t < tmps.size := hlt t (by simp)
        have e2 : (tmps.setIfInBounds t u).getD t undef = u := by simp [Array.getD, this]
        rw [e2]
        simpa only [AV.rel] using h1
      · rw [upd_other _ _ e]
        have e2 : (tmps.setIfInBounds t0 u).getD t undef = tmps.getD t undef := by simp only [Array.getD_eq_getD_getElem?, Array.getElem?_setIfInBounds_ne (Ne.symm e)]
        rw [e2]; exact h t)
    exact ⟨h3.1.trans (by simp), h3.2⟩

theorem look_nil' : look [] = fun _ => AV.r .un := funext fun _ => rfl
/-- How a round may end. -/
def rpost (n : Nat) (I : List (List RV) → List Value → AS → Prop) (J : Code → List Value → AS → Prop) (rest : List (List RV)) (us : List Value) : Exit → AS → Prop
  | .normal, s => ∃ s4, Sub s s4 ∧ I rest us ⟨n, look [], s4.rows⟩
  | .ret, s => ∃ s4, Sub s s4 ∧ J .ret us ⟨n, look [], s4.rows⟩
  | .exit id, s => ∃ s4, Sub s s4 ∧ J (.exit id) us ⟨n, look [], s4.rows⟩
  | .goto l, s => ∃ s4, Sub s s4 ∧ J (.goto l) us ⟨n, look [], s4.rows⟩
  | _, _ => False
/-- What the caller of an iterator knows between two rounds. -/
def XJ (C : Ctx) (aL : Act) (L : Nat) (rec : LoopState → Option Code → Loop) (I : List (List RV) → AS → Prop) (J : Code → AS → Prop) (o : Option (List (List RV))) (w : World) (Ψ Θ : Nat → Prop) : Prop :=
  ∃ p s, SR C p s aL w ∧ s.n = aL.tmps.size ∧ (match o with
    | some left => I left s ∧ w.heap[L]? = some (.loop (rec .ready none))
    | none => ∃ c, J c s ∧ w.heap[L]? = some (.loop (rec .done (some c)))) ∧ ¬ p.R L ∧ (∀ k, p.β k ≠ some L) ∧
    (∀ b, Ψ b ↔ p.R b ∨ (∃ k, p.β k = some b) ∨ (b < C.w0.heap.size ∧ ¬ C.bor b ∧ ¬ C.own b) ∨ b = L ∨ C.hd b ∨ ∃ d ∈ aL.defers, d.target = .collected b) ∧ (∀ b, Θ b ↔ (∃ k, p.β k = some b) ∨ b = L)
theorem XJ.st (hn : ∀ o w Ψ Θ, ¬ C.X.X o w Ψ Θ) {aL : Act} {L : Nat} {rec : LoopState → Option Code → Loop} {I : List (List RV) → AS → Prop} {J : Code → AS → Prop} {o : Option (List (List RV))} {w w' : World} {Ψ Θ : Nat → Prop} (h : XJ C aL L rec I J o w Ψ Θ)
    (hos : w'.os = w.os) (htape : w'.tape = w.tape) (hout : w'.output = w.output) (hsize : w.heap.size ≤ w'.heap.size) (hh : ∀ b, Ψ b → w'.heap[b]? = w.heap[b]?) : XJ C aL L rec I J o w' Ψ Θ := by
  obtain ⟨p, s, hS, hsn, ho, hLR, hLβ, hΨ, hΘ⟩ := h
  have hψ := hS.ex.ψn hn
  refine ⟨p, s, hS.other rfl hos htape hout hsize (fun b hb hf => hh b ((hΨ b).2 ?_)) ?_, hsn, ?_, hLR, hLβ, hΨ, hΘ⟩
  · rcases hf with g | g | g | g
    · exact .inl g
    · exact .inr (.inl g)
    · exact .inr (.inr (.inl g))
    · exact ((hψ b).1 g).elim
  · obtain ⟨Ds, g1, g2, g3⟩ := hS.ex.df
    exact { hS.ex with
      ψl := fun b hb => ((hψ b).1 hb).elim
      θl := fun b hb => ((hψ b).2 hb).elim
      hd := fun b hb => by
        obtain ⟨k1, k2, k3, k4, k5⟩ := hS.ex.hd b hb
        exact ⟨k1, k2, k3, Nat.lt_of_lt_of_le k4 hsize, k5⟩
      df := ⟨Ds, g1, g2, fun D hD => by
        obtain ⟨k1, k2⟩ := g3 D hD
        refine ⟨(hh D ((hΨ D).2 (.inr (.inr (.inr (.inr (.inr ⟨{ target := .collected D, args := #[] }, ?_, rfl⟩))))))).trans k1, k2⟩
        rw [g1]; exact List.mem_map.2 ⟨D, hD, rfl⟩⟩ }
  · have hL := hh L ((hΨ L).2 (.inr (.inr (.inr (.inl rfl)))))
    cases o with
    | some left => exact ⟨ho.1, hL.trans ho.2⟩
    | none =>
      obtain ⟨c, h1, h2⟩ := ho
      exact ⟨c, h1, hL.trans h2⟩

theorem callee_eval (h : SR C p s a w) {f : Operand} {F : FuncId} {cs : List AV} (hF : callee? (s.ev f) = some (F, cs)) : ∃ vs : Array Value, a.eval f = .func (.func F) #[] vs ∧ AV.relV w p s.ver cs vs.toList := by
  have hx := h.ev f
  unfold callee? at hF
  split at hF
  · rename_i g cs' e
    injection hF with hF
    injection hF with h1 h2
    subst h1 h2
    rw [e] at hx
    simp only [AV.rel, RV.rel] at hx
    obtain ⟨vs, hv, hV⟩ := hx
    exact ⟨vs, hv, AV.relV_map_r hV⟩
  · rename_i g cs' e
    injection hF with hF
    injection hF with h1 h2
    subst h1 h2
    rw [e] at hx
    simp only [AV.rel] at hx
    exact hx
  · cases hF
/-- The frame that waits goes on: its slots are those that were written down. -/
theorem SR.awake (h : SR C p s a w) {avs : List AV} {ts : List Nat} (hrow : (s.rows 0).c = .sus avs (ts.map fun t => a.tmps.getD t undef)) : SR C p ⟨s.n, look (ts.zip avs), s.rows⟩ a w :=
  { h with
    tm := fun t => by
      have hr := h.rw 0
      rw [hrow] at hr
      simp only [rowRel] at hr
      exact look_zip (f := fun t => a.tmps.getD t undef) hr.2.2 t }
theorem putObj_other {w : World} {L : Nat} {o : Obj} : ∀ b, b ≠ L → (w.putObj L o).heap[b]? = w.heap[b]? := fun b hb => World.putObj_heap_other hb
/-- The record alone turns. -/
theorem SR.turn (h : SR C p s a w) {L : Nat} {o : Obj} (hLR : ¬ p.R L) (hLβ : ∀ k, p.β k ≠ some L) (hL0 : C.w0.heap.size ≤ L) (hψ : ∀ b, ¬ p.Ψ b ∧ ¬ p.Θ b) (hLm : ∀ d ∈ a.defers, d.target ≠ .collected L) : SR C p s a (w.putObj L o) := by
  refine h.other rfl rfl rfl rfl (Nat.le_of_eq World.putObj_size.symm) (fun b _ hb => putObj_other b fun e => ?_) ?_
  · subst e
    rcases hb with g | ⟨k, g⟩ | g | g
    · exact hLR g
    · exact hLβ k g
    · omega
    · exact (hψ b).1 g
  · obtain ⟨Ds, g1, g2, g3⟩ := h.ex.df
    exact { h.ex with
      ψl := fun b hb => ((hψ b).1 hb).elim
      θl := fun b hb => ((hψ b).2 hb).elim
      hd := fun b hb => by rw [World.putObj_size]; exact h.ex.hd b hb
      df := ⟨Ds, g1, g2, fun D hD => by
        obtain ⟨k1, k2⟩ := g3 D hD
        refine ⟨(putObj_other D fun e => hLm { target := .collected D, args := #[] } ?_ (by rw [e])).trans k1, k2⟩
        rw [g1]; exact List.mem_map.2 ⟨D, hD, rfl⟩⟩ }

set_option maxHeartbeats 400000 in
/-- **The statement 'for .. := range g { .. }'.** -/
theorem awp_rangeFunc {g : Operand} {ps : Array Tmp} {assign body : Code} {Q : Exit → AS → Prop} (hrd : C.rd = none) (hC : C.X = XS.none) {F : FuncId} {cs : List AV} {args : List RV} {xs : List (List RV)} {z : Bool}
    (hF : callee? (s.ev g) = some (F, cs)) (hpure : AV.pureL cs = true) (hle : RV.leL (snapVL s.rows cs) args) (hI : ICalls P z F args xs) (hdead : (s.rows 0).c = .dead) (ts : List Nat) (hps : ∀ t ∈ ps.toList, t < s.n)
    (I : List (List RV) → List Value → AS → Prop) (J : Code → List Value → AS → Prop)
    (h0 : ∀ us, I xs us { n := s.n, tm := look [], rows := upd s.rows 0 ⟨(s.rows 0).ver, .sus (ts.map s.tm) us⟩ })
    (round : ∀ e rest us s', s'.n = s.n → I (e :: rest) us s' → e.length = ps.size ∧ ∃ avs, (s'.rows 0).c = .sus avs us ∧ ∀ C, awp P C assign (fun x s2 => x = .normal ∧ ∀ C, awp P C body (rpost s.n I J rest us) s2) ⟨s.n, psA ps.toList e (look (ts.zip avs)), s'.rows⟩)
    (done : ∀ us s', s'.n = s.n → I [] us s' → ∃ avs, (s'.rows 0).c = .sus avs us ∧ Q .normal ⟨s.n, look (ts.zip avs), s'.rows⟩)
    (stop : ∀ c us s', s'.n = s.n → J c us s' → ∃ avs, (s'.rows 0).c = .sus avs us ∧ awp P C c Q ⟨s.n, look (ts.zip avs), s'.rows⟩) : awp P C (.rangeFunc g ps assign body) Q s := by
  rintro a w ⟨p, hS⟩
  have hn : ∀ o w Ψ Θ, ¬ C.X.X o w Ψ Θ := fun o w Ψ Θ h => by rw [hC] at h; exact h
  have hF0 : fnc C.rd = Fence.wide := by rw [hrd]; rfl
  rw [hF0]
  refine wpIn_rangeFunc fun fn _ => ?_
  obtain ⟨vsC, hgv, hcs⟩ := callee_eval hS hF
  have hψ0 := hS.ex.ψn hn
  obtain ⟨rec, hrec⟩ : ∃ rec : LoopState → Option Code → Loop, rec = fun st pe => { state := st, pending := pe, fn, tmps := a.tmps, params := ps, assign, body, defers := w.heap.size } := ⟨_, rfl⟩
  obtain ⟨w1, hw1⟩ : ∃ w1, (w.alloc (.deferred (some []))).alloc (.loop (rec .ready none)) = w1 := ⟨_, rfl⟩
  obtain ⟨L, hLdef⟩ : ∃ L, L = w.heap.size + 1 := ⟨_, rfl⟩
  obtain ⟨aL, haL⟩ : ∃ aL : Act, aL = { tmps := a.tmps, defers := { target := .collected w.heap.size, args := #[] } :: a.defers } := ⟨_, rfl⟩
  have hS1 : SR C p s aL w1 := by rw [haL, ← hw1]; exact hS.enter hrd _
  have hsz1 : w1.heap.size = w.heap.size + 2 := by rw [← hw1]; simp
  have hL1 : w1.heap[L]? = some (.loop (rec .ready none)) := by
    rw [← hw1, hLdef]; have := World.alloc_heap_new (w.alloc (.deferred (some []))) (.loop (rec .ready none)); rwa [World.size_alloc] at this
  have hLR : ¬ p.R L := fun h => by have := hS.rb L h; omega
  have hLβ : ∀ k, p.β k ≠ some L := fun k h => by have := (hS.bl k L h).1; omega
  have hL0 : C.w0.heap.size ≤ L := by have := hS.base.size; omega
  have hLm : ∀ d ∈ aL.defers, d.target ≠ .collected L := fun d hd e => by
    obtain ⟨Ds, g1, _, g3⟩ := hS1.ex.df
    rw [g1] at hd
    obtain ⟨D, hD, rfl⟩ := List.mem_map.1 hd
    injection e with e
    subst e
    have := (g3 _ hD).1
    rw [hL1] at this; cases this
  obtain ⟨us, hus⟩ : ∃ us, us = ts.map fun t => aL.tmps.getD t undef := ⟨_, rfl⟩
  have hS2 := hS1.wait hdead ts
  rw [← hus, ← look_nil'] at hS2
  have htmps : aL.tmps = a.tmps := by rw [haL]
  have hsn : s.n = aL.tmps.size := by rw [htmps]; exact hS.sz.symm
  let X : XS := { l := L, z := z, n0 := w1.heap.size, R := p.R, X := XJ C aL L rec (fun left s' => I left us s') (fun c s' => J c us s'), st := XJ.st hn }
  -- where a round has come to an end
  have hcap : RV.relV w1 p.R args vsC.toList := le_relV _ _ _ hle (pure_relV (rows := s.rows) _ _ hpure (by
    have hk : Kept w w1 p p s.ver s.ver := ⟨fun _ h => h, fun ad hr => World.cell?_of_block (by rw [← hw1]; exact (Below.heap_alloc _ _ _ (by have := hS.rb _ hr; simp; omega)).trans (Below.heap_alloc _ _ _ (hS.rb _ hr))), fun _ => Nat.le_refl _, fun _ _ => ⟨rfl, rfl⟩⟩
    exact AV.relV_mono hk _ _ hcs))
  have hY : YOk P X := by
    intro e rest wv Ψ Θ R vs hX hR hV
    obtain ⟨pv, sv, hSv, hsnv, ⟨hIv, hLv⟩, hLRv, hLβv, hΨv, hΘv⟩ := hX
    have hψv := hSv.ex.ψn hn
    obtain ⟨hlen, avs, hrow, hround⟩ := round e rest us sv (hsnv.trans hsn.symm) hIv
    have hvs : vs.size = ps.size := by have := RV.relV_length hV; simp only [Array.length_toList] at this; omega
    have hltv : L < wv.heap.size := (Array.getElem?_eq_some_iff.1 hLv).1
    have hy := run_yield (P := P) (args := vs) hLv (by rw [hrec]; exact hvs)
    rw [hrec] at hy
    refine ⟨fn, _, assign, body, hy, ?_⟩
    -- the round's slots
    have hRβ : ∀ b, R b → b < wv.heap.size ∧ ∀ k, pv.β k ≠ some b := fun b hb => ⟨(hR b hb).1, fun k hk => (hR b hb).2.1 ((hΘv b).2 (.inl ⟨k, hk⟩))⟩
    have hRL : ¬ R L := fun hb => (hR L hb).2.1 ((hΘv L).2 (.inr rfl))
    have hkv : Kept wv wv pv { pv with R := fun b => pv.R b ∨ R b } sv.ver sv.ver := ⟨fun _ h => .inl h, fun _ _ => rfl, fun _ => Nat.le_refl _, fun _ _ => ⟨rfl, rfl⟩⟩
    have haw := hSv.awake (by rw [hrow, hus])
    have hzip : (ps.zip vs).foldl (fun tmps (x : Nat × Value) => tmps.setIfInBounds x.1 x.2) a.tmps = (ps.toList.zip vs.toList).foldl (fun tmps (x : Nat × Value) => tmps.setIfInBounds x.1 x.2) a.tmps := by
      rw [← Array.foldl_toList, Array.toList_zip]
    obtain ⟨hpsz, hprel⟩ := psA_rel (w := wv) (p := { pv with R := fun b => pv.R b ∨ R b }) (ver := sv.ver) ps.toList e vs.toList (look (ts.zip avs)) a.tmps (RV.relV_mono (fun _ h => .inr h) (fun _ _ => rfl) _ _ hV)
      (fun t ht => by rw [← htmps, ← hsn]; exact hps t ht) (fun t => by rw [← htmps]; exact AV.rel_mono hkv _ _ (haw.tm t))
    -- what nobody touches
    let Hd : Nat → Prop := fun b => b = L ∨ ∃ d ∈ aL.defers, d.target = .collected b
    have hHd : ∀ b, Hd b → b < wv.heap.size ∧ ¬ C.bor b ∧ ¬ pv.R b ∧ ¬ R b ∧ ∀ k, pv.β k ≠ some b := fun b hb => by
      rcases hb with rfl | ⟨d, hd, hdt⟩
      · exact ⟨hltv, fun hb => by have := hS.ex.bo b (.inl hb); omega, hLRv, hRL, hLβv⟩
      · obtain ⟨Ds, g1, _, g3⟩ := hSv.ex.df
        rw [g1] at hd
        obtain ⟨D, hD, rfl⟩ := List.mem_map.1 hd
        injection hdt with hdt
        subst hdt
        obtain ⟨k1, k2, k3, k4, k5, k6⟩ := g3 D hD
        refine ⟨(Array.getElem?_eq_some_iff.1 k1).1, fun hb => by have := hS.ex.bo D (.inl hb); omega, k3, fun hr => ?_, k4⟩
        have hD1 : D < w1.heap.size := by
          obtain ⟨Ds', q1, _, q3⟩ := hS1.ex.df
          have : Ds' = Ds := marks_inj (q1.symm.trans g1)
          subst this
          exact (Array.getElem?_eq_some_iff.1 (q3 D hD).1).1
        rcases (hR D hr).2.2 with q | q
        · obtain ⟨Ds', q1, _, q3⟩ := hS1.ex.df
          have : Ds' = Ds := marks_inj (q1.symm.trans g1)
          subst this
          exact (q3 D hD).2.2.1 q
        · have q' : w1.heap.size ≤ D := q
          omega
    have hSa := hSv.into (L := L) (w2 := wv) (R := R) (rd := some L) (Hd := Hd) (a' := { tmps := (ps.zip vs).foldl (fun tmps (x : Nat × Value) => tmps.setIfInBounds x.1 x.2) a.tmps, defers := [] }) (tm' := psA ps.toList e (look (ts.zip avs)))
      hn rfl rfl rfl rfl (fun _ _ => rfl) hLRv hLβv hRβ (fun t => by rw [hzip]; exact hprel t) (by rw [hzip, hpsz, ← htmps]; exact hsnv.symm) rfl hHd hC
    have hna := hsnv.trans hsn.symm
    refine roundIn_of_wpIn trivial ?_
    have hassign := hround (Cin C pv R wv (some L) Hd) _ _ ⟨_, hna ▸ hSa⟩
    refine wpIn_mono hassign ?_
    rintro x a1 wa ⟨s1, ⟨p1, hS1a⟩, rfl, hbody⟩
    have hLa : wa.heap[L]? = some (.loop (rec .ready none)) := (hS1a.base.block L hltv (fun ⟨hb, _⟩ => (hHd L (.inl rfl)).2.1 hb) (fun ⟨k, hk, _⟩ => hLβv k hk)).trans hLv
    have hlta : L < wa.heap.size := (Array.getElem?_eq_some_iff.1 hLa).1
    refine ⟨_, run_beginRound hLa (by rw [hrec]), ?_⟩
    have hop1 := Hop.of (L := L) (w := wv) (w2 := wv) rfl rfl rfl rfl (fun _ _ => rfl) hS1a
    have hHd1 : ∀ b, Hd b → b < wa.heap.size ∧ ¬ (Cin C pv R wv (some L) Hd).bor b ∧ ¬ p1.R b ∧ ¬ False ∧ ∀ k, p1.β k ≠ some b := fun b hb => by
      obtain ⟨_, q2, _, q4, q5, _, _, q8⟩ := hS1a.ex.hd b hb
      exact ⟨q4, q2, q5, fun h => h, q8⟩
    have hS1b := hS1a.into (L := L) (w2 := wa.putObj L (.loop { rec .ready none with state := .busy })) (R := fun _ => False) (rd := some L) (Hd := Hd) (a' := a1) (tm' := s1.tm) hn rfl rfl rfl World.putObj_size putObj_other
      (hHd1 L (.inl rfl)).2.2.1 (hHd1 L (.inl rfl)).2.2.2.2 (fun _ h => h.elim) (fun t => by
        have hk1 : Kept wa (wa.putObj L (.loop { rec .ready none with state := .busy })) p1 { p1 with R := fun b => p1.R b ∨ False } s1.ver s1.ver :=
          ⟨fun _ h => .inl h, fun ad hr => World.cell?_of_block (putObj_other _ fun e => (hHd1 L (.inl rfl)).2.2.1 (e ▸ hr)), fun _ => Nat.le_refl _, fun _ _ => ⟨rfl, rfl⟩⟩
        exact AV.rel_mono hk1 _ _ (hS1a.tm t)) hS1a.sz (hS1a.ex.rm rfl) hHd1 hC
    refine wpIn_mono (hbody _ _ _ ⟨_, hS1b⟩) ?_
    have hLb : (wa.putObj L (.loop { rec .ready none with state := .busy })).heap[L]? = some (.loop { rec .ready none with state := .busy }) := World.putObj_heap_same hlta
    -- the round's end
    have hRo : ∀ b, R b → b < wv.heap.size ∧ (∀ d ∈ aL.defers, d.target ≠ .collected b) ∧ ¬ C.hd b ∧ (C.R0 b ∨ C.w0.heap.size ≤ b ∨ C.own b) := fun b hb => by
      have hsz0 := hS.base.size
      refine ⟨(hR b hb).1, fun d hd hdt => (hHd b (.inr ⟨d, hd, hdt⟩)).2.2.2.1 hb, fun hh => ?_, ?_⟩
      · obtain ⟨q1, _, _, _, q5, _⟩ := hS.ex.hd b hh
        rcases (hR b hb).2.2 with q | q
        · exact q5 q
        · have q' : w1.heap.size ≤ b := q; omega
      · rcases (hR b hb).2.2 with q | q
        · exact hS.rn b q
        · have q' : w1.heap.size ≤ b := q; exact .inr (.inl (by omega))
    have fin : ∀ (jump : Option Code) (s3 : AS) (p3 : Plan) (a3 : Act) (w3 : World), SR (Cin (Cin C pv R wv (some L) Hd) p1 (fun _ => False) (wa.putObj L (.loop { rec .ready none with state := .busy })) (some L) Hd) p3 s3 a3 w3 →
        (match jump with | none => ∃ s4, Sub s3 s4 ∧ I rest us ⟨s.n, look [], s4.rows⟩ | some c => ∃ s4, Sub s3 s4 ∧ J c us ⟨s.n, look [], s4.rows⟩) →
        ∃ v w', (Instr.endRound L jump).run P w3 = .ok v w' ∧ (w'.os = wv.os ∧ w'.tape = wv.tape ∧ w'.output = wv.output ∧ wv.heap.size ≤ w'.heap.size ∧ (∀ b, b < wv.heap.size → ¬ Θ b → w'.heap[b]? = wv.heap[b]?) ∧
          ∃ Ψ' Θ' : Nat → Prop, (∀ b, Ψ' b → Ψ b ∨ R b ∨ wv.heap.size ≤ b) ∧ (∀ b, Θ' b → Θ b ∨ wv.heap.size ≤ b) ∧ (∀ b, Ψ' b → b < w'.heap.size) ∧ (∀ b, Θ' b → b < w'.heap.size) ∧
          ((Ending.returned v = .returned (.bool true) ∧ X.X (some rest) w' Ψ' Θ') ∨ (Ending.returned v = .returned (.bool false) ∧ X.X Option.none w' Ψ' Θ'))) := by
      intro jump s30 p30 a3 w3 h30 hj0
      obtain ⟨s3, hsub, hj⟩ : ∃ s4, Sub s30 s4 ∧ (match jump with | none => I rest us ⟨s.n, look [], s4.rows⟩ | some c => J c us ⟨s.n, look [], s4.rows⟩) := by
        cases jump with
        | none => exact hj0
        | some c => exact hj0
      obtain ⟨p3, h3⟩ := hsub _ _ _ ⟨p30, h30⟩
      have hL3 : w3.heap[L]? = some (.loop { rec .ready none with state := .busy }) := by
        refine (h3.base.block L (by show L < (wa.putObj L _).heap.size; rw [World.putObj_size]; exact hlta) (fun ⟨hb, _⟩ => (hHd1 L (.inl rfl)).2.1 hb) (fun ⟨k, hk, _⟩ => (hHd1 L (.inl rfl)).2.2.2.2 k hk)).trans hLb
      obtain ⟨_, _, _, _, e5, _, _, e8⟩ := h3.ex.hd L (.inl rfl)
      have hend := run_endRound (P := P) jump hL3
      have hlt3 : L < w3.heap.size := (Array.getElem?_eq_some_iff.1 hL3).1
      have hop2 := Hop.of (C := Cin C pv R wv (some L) Hd) (p := p1) (L := L) (w := wa) (w2 := wa.putObj L (.loop { rec .ready none with state := .busy })) (R := fun _ => False) rfl rfl rfl World.putObj_size putObj_other h3
      obtain ⟨o4, ho4⟩ : ∃ o4, o4 = Obj.loop { { rec .ready none with state := .busy } with state := if jump.isNone then .ready else .done, pending := jump } := ⟨_, rfl⟩
      rw [← ho4] at hend
      have hop := (Hop.trans (C' := Cin C pv R wv (some L) Hd) hop1 (fun _ => Iff.rfl) hop2).put (o := o4)
      have hL4 : (w3.putObj L o4).heap[L]? = some (.loop (rec (if jump.isNone then .ready else .done) jump)) := by
        rw [World.putObj_heap_same hlt3, ho4, hrec]
      have hS4 : SR C p3 ⟨s.n, look [], s3.rows⟩ aL (w3.putObj L o4) := by
        have := hSv.land (C' := Cin (Cin C pv R wv (some L) Hd) p1 (fun _ => False) (wa.putObj L (.loop { rec .ready none with state := .busy })) (some L) Hd) hn hL0 hLm hop hRo rfl rfl h3 e5 e8 rfl rfl rfl World.putObj_size putObj_other
        rw [hna, ← look_nil'] at this
        exact this
      have hψ4 := hS4.ex.ψn hn
      refine ⟨_, _, hend, hop.os, hop.tape, hop.output, hop.size, fun b hb hθ => hop.heap b hb (fun k hk => hθ ((hΘv b).2 (.inl ⟨k, hk⟩))) (fun e => hθ ((hΘv b).2 (.inr e))),
        fun b => p3.R b ∨ (∃ k, p3.β k = some b) ∨ (b < C.w0.heap.size ∧ ¬ C.bor b ∧ ¬ C.own b) ∨ b = L ∨ C.hd b ∨ ∃ d ∈ aL.defers, d.target = .collected b, fun b => (∃ k, p3.β k = some b) ∨ b = L, fun b hb => ?_, fun b hb => ?_, fun b hb => ?_, fun b hb => ?_, ?_⟩
      · rcases hb with g | ⟨k, g⟩ | g | g | g | g
        · rcases hop.rn b g with q | q | q | ⟨k, q, _⟩
          · exact .inl ((hΨv b).2 (.inl q))
          · exact .inr (.inl q)
          · exact .inr (.inr q)
          · exact .inl ((hΨv b).2 (.inr (.inl ⟨k, q⟩)))
        · rcases hop.bl k b g with q | ⟨_, _, k', _, q⟩ | ⟨k', q, _⟩
          · exact .inr (.inr q)
          · exact .inl ((hΨv b).2 (.inr (.inl ⟨k', q⟩)))
          · exact .inl ((hΨv b).2 (.inr (.inl ⟨k', q⟩)))
        · exact .inl ((hΨv b).2 (.inr (.inr (.inl g))))
        · exact .inl ((hΨv b).2 (.inr (.inr (.inr (.inl g)))))
        · exact .inl ((hΨv b).2 (.inr (.inr (.inr (.inr (.inl g))))))
        · exact .inl ((hΨv b).2 (.inr (.inr (.inr (.inr (.inr g))))))
      · rcases hb with ⟨k, g⟩ | g
        · rcases hop.bl k b g with q | ⟨_, _, k', _, q⟩ | ⟨k', q, _⟩
          · exact .inr q
          · exact .inl ((hΘv b).2 (.inl ⟨k', q⟩))
          · exact .inl ((hΘv b).2 (.inl ⟨k', q⟩))
        · exact .inl ((hΘv b).2 (.inr g))
      · have hsz4 := hS4.base.size
        rcases hb with g | ⟨k, g⟩ | g | rfl | g | ⟨d, hd, hdt⟩
        · exact hS4.rb b g
        · exact (hS4.bl k b g).1
        · omega
        · rw [World.putObj_size]; exact hlt3
        · exact (hS4.ex.hd b g).2.2.2.1
        · exact Nat.lt_of_lt_of_le (hHd b (.inr ⟨d, hd, hdt⟩)).1 hop.size
      · rcases hb with ⟨k, g⟩ | rfl
        · exact (hS4.bl k b g).1
        · rw [World.putObj_size]; exact hlt3
      · cases jump with
        | none => exact .inl ⟨rfl, p3, _, hS4, hsn, ⟨hj, hL4⟩, e5, e8, fun _ => Iff.rfl, fun _ => Iff.rfl⟩
        | some c => exact .inr ⟨rfl, p3, _, hS4, hsn, ⟨c, hj, hL4⟩, e5, e8, fun _ => Iff.rfl, fun _ => Iff.rfl⟩
    rintro en a3 w3 ⟨s3, ⟨p3, h3⟩, hq⟩
    cases en with
    | normal => exact fin none s3 p3 a3 w3 h3 hq
    | ret => exact fin (some .ret) s3 p3 a3 w3 h3 hq
    | exit id => exact fin (some (.exit id)) s3 p3 a3 w3 h3 hq
    | goto l => exact fin (some (.goto l)) s3 p3 a3 w3 h3 hq
    | panic ch => exact hq.elim
    | outgrown => exact hq.elim
  have hX0 : X.X (some xs) w1 (fun b => p.R b ∨ (∃ k, p.β k = some b) ∨ (b < C.w0.heap.size ∧ ¬ C.bor b ∧ ¬ C.own b) ∨ b = L ∨ C.hd b ∨ ∃ d ∈ aL.defers, d.target = .collected b) (fun b => (∃ k, p.β k = some b) ∨ b = L) :=
    ⟨p, _, hS2, hsn, ⟨h0 us, hL1⟩, hLR, hLβ, fun _ => Iff.rfl, fun _ => Iff.rfl⟩
  have hlt1 : L < w1.heap.size := (Array.getElem?_eq_some_iff.1 hL1).1
  have hcall := hI.2 w1 p.R vsC X _ _ hS1.rb hcap rfl (fun _ b hb => hb) (Nat.le_refl _) hY (fun b hb => by
      have hszw := hS1.base.size
      rcases hb with g | ⟨k, g⟩ | g | rfl | g | ⟨d, hd, hdt⟩
      · exact hS1.rb b g
      · exact (hS1.bl k b g).1
      · omega
      · exact hlt1
      · exact (hS1.ex.hd b g).2.2.2.1
      · obtain ⟨Ds, g1, _, g3⟩ := hS1.ex.df
        rw [g1] at hd
        obtain ⟨D, hD, rfl⟩ := List.mem_map.1 hd
        injection hdt with hdt
        subst hdt
        exact (Array.getElem?_eq_some_iff.1 (g3 D hD).1).1) (fun b hb => by
      rcases hb with ⟨k, g⟩ | rfl
      · exact (hS1.bl k b g).1
      · exact hlt1) (fun b hb hθ => by
      rcases hθ with ⟨k, g⟩ | rfl
      · exact (hS1.bl k b g).2.1 hb
      · exact hLR hb) hX0
  have e1 : (Instr.enterLoop fn a.tmps ps assign body none).run P w = .ok (L, [{ target := .collected w.heap.size, args := #[] }]) w1 := by
    rw [run_enterLoop_outer, ← hw1, hrec, hLdef]
  have e2 : (resolve a.eval (rangeCall g L) 0).run P w1 = .ok { target := .fn (.func F) vsC, args := #[.func (.yield L) #[] #[]] } w1 := by
    simp only [resolve, hgv, Sem.run_bind, Deferred.ofValue, Sem.run_pure, Result.andThen_ok]
    simp [Act.eval]
  have e3 : (invoke (.fn (.func F) vsC) #[.func (.yield L) #[] #[]]).run P w1 = .ok (.enter F (#[.func (.yield L) #[] #[]] ++ vsC)) w1 := by
    simp only [invoke]
    exact run_callFunc hI.1 _ _
  have e4 : Fence.wide.depth.isSome = true → 1 ≤ 0 := fun h => by simp [Fence.wide] at h
  refine ⟨L, _, w1, _, w1, F, _, w1, e1, e2, ?_, e3, e4, ?_⟩
  · intro f' _; exact trivial
  · refine callsIn_wide.2 (hcall.mono ?_)
    have haL' : ({ a with defers := [{ target := .collected w.heap.size, args := #[] }] ++ a.defers } : Act) = aL := by rw [haL]; rfl
    rintro e w' ⟨⟨v, rfl⟩, Ψ', Θ', hX | hX⟩
    · obtain ⟨p', s', hS', hsn', ⟨hI', hL'⟩, hLR', hLβ', _⟩ := hX
      have hend := run_endLoop (P := P) hL' (by rw [hrec]; simp)
      have hp : (rec .ready none).pending = none := by rw [hrec]
      rw [hp] at hend
      refine ⟨none, _, hend, ?_⟩
      obtain ⟨avs, hrow, hQ⟩ := done us s' (hsn'.trans hsn.symm) hI'
      have hS4 : ∀ o, SR C p' ⟨s.n, look (ts.zip avs), s'.rows⟩ aL (w'.putObj L o) := fun o => by
        have := (hS'.turn (o := o) hLR' hLβ' hL0 (hS'.ex.ψn hn) hLm).awake (by rw [hrow, hus])
        rw [hsn'.trans hsn.symm] at this
        exact this
      rw [haL']
      exact ⟨_, ⟨_, hS4 _⟩, hQ⟩
    · obtain ⟨p', s', hS', hsn', ⟨c, hJ', hL'⟩, hLR', hLβ', _⟩ := hX
      have hend := run_endLoop (P := P) hL' (by rw [hrec]; simp)
      have hp : (rec .done (some c)).pending = some c := by rw [hrec]
      rw [hp] at hend
      refine ⟨some c, _, hend, ?_⟩
      obtain ⟨avs, hrow, hQ⟩ := stop c us s' (hsn'.trans hsn.symm) hJ'
      have hS4 : ∀ o, SR C p' ⟨s.n, look (ts.zip avs), s'.rows⟩ aL (w'.putObj L o) := fun o => by
        have := (hS'.turn (o := o) hLR' hLβ' hL0 (hS'.ex.ψn hn) hLm).awake (by rw [hrow, hus])
        rw [hsn'.trans hsn.symm] at this
        exact this
      have hQ' := fun o => hQ _ _ ⟨_, hS4 o⟩
      rw [hF0] at hQ'
      rw [haL']
      exact hQ' _
end
end Go.Oc

/- Plain helpers of the walks: numbers without overflow, elements of slices, closed tests. -/
namespace Go.Oc
open Go Go.RowKit

theorem wrapI {n : Int} (h1 : -9223372036854775808 ≤ n) (h2 : n ≤ 9223372036854775807) : IntKind.i64.wrap n = n := by
  unfold IntKind.wrap
  simp only [IntKind.bits, IntKind.signed, Bool.true_and]
  split <;> rename_i h <;> simp only [ge_iff_le, decide_eq_true_eq] at h <;> omega
theorem getD_map_opt {α : Type} {f : α → List RV} {l : List α} {i : Nat} : (l.map f).getD i [] = match l[i]? with | some x => f x | none => [] := by
  rw [List.getD_eq_getElem?_getD, List.getElem?_map]
  cases l[i]? <;> rfl
theorem opt_some {α β : Type} {x : α} {f : α → β} {y : β} : (match some x with | some x => f x | none => y) = f x := rfl
/-- Integers, and lists of them. -/
abbrev i64 (n : Int) : RV := .it .i64 n
abbrev ints (l : List Int) : RV := .sl 1 (l.map fun x => [.it .i64 x])
theorem mem_of_opt {α : Type} {l : List α} {i : Nat} {x : α} (h : l[i]? = some x) : x ∈ l := List.mem_of_getElem? h
theorem drop_of_opt {α : Type} {l : List α} {i : Nat} {x : α} (h : l[i]? = some x) : l.drop i = x :: l.drop (i + 1) := by
  obtain ⟨hi, rfl⟩ := List.getElem?_eq_some_iff.1 h
  exact List.drop_eq_getElem_cons hi
theorem take_of_opt {α : Type} {l : List α} {i : Nat} {x : α} (h : l[i]? = some x) : l.take (i + 1) = l.take i ++ [x] := by
  obtain ⟨hi, rfl⟩ := List.getElem?_eq_some_iff.1 h
  exact List.take_succ_eq_append_getElem hi
theorem opt_of_lt {α : Type} {l : List α} {i : Nat} (h : i < l.length) : ∃ x, l[i]? = some x := ⟨l[i], List.getElem?_eq_getElem h⟩

theorem snapVL_ro {rows : Nat → Row} : ∀ l : List RV, snapVL rows (l.map .r) = l
  | [] => by simp only [List.map_nil, snapVL]
  | x :: l => by simp only [List.map_cons, snapVL, snapV, snapVL_ro l]
theorem snapPL_ro {rows : Nat → Row} : ∀ l : List RV, snapPL rows (l.map .r) ↔ True
  | [] => by simp only [List.map_nil, snapPL]
  | x :: l => by simp only [List.map_cons, snapPL, snapP, snapPL_ro l, true_and]

theorem take_map_len {α β : Type} {f : α → β} {l : List α} : (l.map f).take l.length = l.map f := List.take_of_length_le (by simp)
theorem toNat_add1 {n : Nat} : ((n : Int) + 1).toNat = n + 1 := rfl
/-- The index of the first one with p, or -1. -/
def indexF {α : Type} (p : α → Bool) : List α → Int
  | [] => -1
  | x :: l => if p x then 0 else if indexF p l < 0 then -1 else indexF p l + 1
theorem indexF_any {α : Type} (p : α → Bool) : ∀ l : List α, decide (indexF p l ≥ 0) = l.any p
  | [] => rfl
  | x :: l => by
    have ih := indexF_any p l
    unfold indexF
    cases h : p x
    · simp only [Bool.false_eq_true, if_false, List.any_cons, h, Bool.false_or, ← ih]
      split
      · rename_i h1
        have : ¬ indexF p l ≥ 0 := by omega
        simp [this]
      · rename_i h1
        have : indexF p l ≥ 0 := by omega
        have h2 : indexF p l + 1 ≥ 0 := by omega
        simp only [this, h2]
    · simp [h]
theorem indexF_ge {α : Type} (p : α → Bool) : ∀ l : List α, -1 ≤ indexF p l
  | [] => by simp [indexF]
  | x :: l => by
    have := indexF_ge p l
    unfold indexF
    split
    · omega
    · split <;> omega
end Go.Oc

/- The walk's simp set. -/
namespace Go.Oc
open Go
/-! Reckoning with numerals is part of the walk's simp set. -/
attribute [go_sem] reduceIte reduceCtorEq Nat.reduceEqDiff Nat.reduceAdd Nat.reduceSub Nat.reduceMul Nat.reduceLeDiff Nat.reduceLT Int.reduceToNat Int.reduceLE Int.reduceLT Int.reduceMul Int.reduceAdd Int.reduceSub Int.reduceNeg Int.reduceEq Int.reduceNe
attribute [go_sem] aops_nil aops_cons aops_guard gslot_zero gslot_succ gA_some gB_tt gB_ff gB_tf gB_ft gB_ud gB_bo aop_move aop_assign aop_pick aop_bin aop_un aop_conv aop_load aop_store aop_box aop_alloc aop_fieldAddr aop_field aop_indexAddr aop_index aop_slice aop_build aop_buildSlice aop_makeSlice aop_makeFunc aop_extract aop_nil aop_len aop_min aop_max aop_append aop_cap aop_clear sAppendZ sCap sClear sSlice3 lenA rowLen aop_call aop_next aop_makeMap aop_lookup aop_mapUpdate aop_mapEntry aop_entryStore sMapEntry sEntryStore bornAt aop_range aop_entry sNext sMakeMap sLookup sMapUpdate sRange sEntry mapOf valR agR sEq cmpL sameK findK keyOk allIt List.length_cons List.length_nil row_st verf_st lendA lendL lendC lendOk lendKey backA backL backC backCs pinOf aR_when aR_val aR_bad aR_mk aF_false aF_true evs evp upd_app put_st put_none app_val app_st evt_st tm_st rows_st ver_st n_st ins insc delc look_nil look_cons lookc_nil lookc_cons keepL killV killC argL allEq cond_true cond_false ev_const ev_func sPick pickA sBin sUn sConv sLoad sStore sBox sAlloc sField sFieldV sPart sIndex sIndexV sSlice sSliceA chunk bound sBuild lay sBuildSlice layE sMakeSlice news? sAppend sLen minA minF maxA maxF sMinMax sExtract sNil RV.flat1 AV.cells? roL cutR cutA need RV.ofV RV.ofV1
attribute [go_sem] opostL_normal opostL_ret resA_tmp resA_cell mpostL_normal mpostL_ret resM_nil resM_tmp resM_cell mfin frzC frzPC frzL frzPL frz1 frzP1 keyIn okC argA resC_when resC_val resOk_nil resOk_tmp resOk_cell fpostL_normal fpostL_ret andThen_normal andThen_ret andThen_exit inBlk_normal inBlk_ret inBlk_exit le_bo le_it le_ns le_sls le_ag leL_nil leL_cons le_nsns le_np snapV snapVL snapP snapPL snap1V snap1P snap1PL
attribute [go_sem] Bool.false_eq_true Bool.not_false Bool.not_true Bool.true_eq_false Int.le_refl List.append_nil List.cons_append List.drop_succ_cons List.drop_zero List.getElem?_cons_succ List.getElem?_cons_zero List.headD_cons List.length_cons List.length_nil List.map_cons List.map_nil List.nil_append List.replicate_succ List.replicate_zero List.set_cons_succ List.set_cons_zero List.take_succ_cons List.take_zero Nat.add_zero Nat.le_refl Nat.zero_add Nat.zero_le Option.bind_some Option.getD_none Option.getD_some Option.isSome_some Option.map_none Option.map_some Option.some.injEq and_false and_true decide_false decide_true eq_self false_and false_imp_iff forall_const ite_false ite_true true_and true_imp_iff
attribute [go_sem] not_false_eq_true not_true_eq_false toNat_add1 Nat.sub_zero beq_iff_eq beq_eq_false_iff_ne List.length_drop List.length_take upd_self List.drop_replicate Nat.add_sub_cancel_left take_map_len List.getD_cons_zero List.getD_cons_succ true_or or_true false_or or_false List.length_replicate Int.sub_zero Int.add_zero Int.zero_add getD_map_opt snapVL_ro snapPL_ro Int.ofNat_lt Int.ofNat_le Int.toNat_natCast Int.natCast_nonneg Int.natCast_add Int.cast_ofNat_Int Int.natCast_zero Int.natCast_one List.length_map List.mem_cons ge_iff_le gt_iff_lt decide_eq_true_eq decide_eq_false_iff_not AV.r.injEq RV.it.injEq RV.bo.injEq RV.sl.injEq
end Go.Oc

/- Ranges over functions: the rule in the form in which 'simp' reckons with it. -/
namespace Go.Oc
open Go Go.RowKit
set_option linter.unusedSimpArgs false
set_option linter.unusedVariables false

/-- The arguments of yield, in a round's slots. -/
def psL : List Nat → List RV → List (Nat × AV) → List (Nat × AV)
  | t :: ts, x :: xs, l => psL ts xs ((t, .r x) :: l)
  | _, _, l => l
theorem psL_nil {l : List (Nat × AV)} : psL [] [] l = l := rfl
theorem psL_cons {t : Nat} {ts : List Nat} {x : RV} {xs : List RV} {l : List (Nat × AV)} : psL (t :: ts) (x :: xs) l = psL ts xs ((t, .r x) :: l) := rfl
theorem psA_look : ∀ (ts : List Nat) (xs : List RV) (l : List (Nat × AV)), psA ts xs (look l) = look (psL ts xs l)
  | [], _, _ => rfl
  | _ :: _, [], _ => rfl
  | t :: ts, x :: xs, l => by
    simp only [psA, psL]
    rw [← psA_look ts xs]
    rfl
/-- How a round may end: N: it goes on. -/
def rfpost (n : Nat) (ts : List Nat) (Q : Exit → AS → Prop) (N : AS → Prop) (us : List Value) : Exit → AS → Prop
  | .normal, s => N s
  | .ret, s => ∃ avs, (s.rows 0).c = .sus avs us ∧ Q .ret ⟨n, look (ts.zip avs), s.rows⟩
  | .exit id, s => ∃ avs, (s.rows 0).c = .sus avs us ∧ Q (.exit id) ⟨n, look (ts.zip avs), s.rows⟩
  | _, _ => False
section
variable {n : Nat} {ts : List Nat} {Q : Exit → AS → Prop} {N : AS → Prop} {us : List Value} {l : List (Nat × AV)} {vs : Nat → Nat} {cs : List (Nat × RowC)}
theorem rfpost_normal {s : AS} : rfpost n ts Q N us .normal s = N s := rfl
theorem rf_ret {avs : List AV} (h : lookc cs 0 = .sus avs us) (hq : Q .ret (st n (ts.zip avs) vs cs)) : rfpost n ts Q N us .ret (st n l vs cs) := ⟨avs, h, hq⟩
theorem rf_exit {id : Nat} {avs : List AV} (h : lookc cs 0 = .sus avs us) (hq : Q (.exit id) (st n (ts.zip avs) vs cs)) : rfpost n ts Q N us (.exit id) (st n l vs cs) := ⟨avs, h, hq⟩
end
/-- What is written down is forgotten. -/
theorem sub_wake {n : Nat} {l : List (Nat × AV)} {vs : Nat → Nat} {cs : List (Nat × RowC)} {avs : List AV} {us : List Value} (h : lookc cs 0 = .dead) : Sub (st n l vs ((0, .sus avs us) :: cs)) (st n l vs cs) := fun C a w ⟨p, hp⟩ => by
  refine ⟨p, { hp with rw := fun k => ?_, lk := fun j km m l' cur hj hn => ?_ }⟩
  · have hr := hp.rw k
    show rowRel w p vs k (lookc cs k)
    have hr' : rowRel w p vs k (lookc ((0, .sus avs us) :: cs) k) := hr
    rw [lookc_cons] at hr'
    split at hr'
    · rename_i e
      subst e
      rw [h]
      simp only [rowRel] at hr' ⊢
      exact ⟨hr'.1, hr'.2.1⟩
    · exact hr'
  · have hj' : lookc cs j = .mi km m l' cur := hj
    have e1 : j ≠ 0 := fun e => by subst e; rw [h] at hj'; cases hj'
    have h1 := hp.lk j km m l' cur (by show lookc ((0, .sus avs us) :: cs) j = _; rw [lookc_cons, if_neg e1]; exact hj') hn
    show (lookc cs km).isMpi = true
    have h2 : (lookc ((0, .sus avs us) :: cs) km).isMpi = true := h1
    rw [lookc_cons] at h2
    split at h2
    · cases h2
    · exact h2
theorem upd_rows_st {n : Nat} {l : List (Nat × AV)} {vs : Nat → Nat} {cs : List (Nat × RowC)} {k : Nat} {c : RowC} : (⟨n, look [], upd (st n l vs cs).rows k ⟨((st n l vs cs).rows k).ver, c⟩⟩ : AS) = st n [] vs ((k, c) :: cs) := by
  simp only [st, AS.mk.injEq, true_and]
  funext j
  rw [lookc_cons]
  unfold upd
  split
  · rename_i e; subst e; rfl
  · rfl
theorem zip_keys : ∀ l : List (Nat × AV), (l.map (·.1)).zip (l.map (·.2)) = l
  | [] => rfl
  | _ :: l => by simp only [List.map_cons, List.zip_cons_cons, zip_keys l]

attribute [go_sem] psL_nil psL_cons rfpost_normal List.zip_cons_cons List.zip_nil_right
theorem look_keys : ∀ l : List (Nat × AV), (l.map (·.1)).Nodup → l.map (·.2) = (l.map (·.1)).map (look l)
  | [], _ => rfl
  | (k, v) :: l, h => by
    simp only [List.map_cons, List.nodup_cons] at h ⊢
    have h1 : look ((k, v) :: l) k = v := by rw [look_cons, if_pos rfl]
    rw [h1, look_keys l h.2]
    congr 1
    refine List.map_congr_left fun j hj => ?_
    have hne : j ≠ k := fun e => h.1 (e ▸ hj)
    rw [look_cons, if_neg hne]

/-- A range over an iterator whose contract is known. i: the rounds that are over; F: the slots that are kept (the frame waits: they stay as they are); R: the rows. -/
theorem awp_rangeF {P : Program} {C : Ctx} {n : Nat} {s : AS} {t : Nat} {ps : Array Tmp} {assign body : Code} {Q : Exit → AS → Prop} (hC : C.rd = none ∧ C.X = XS.none) {f : FuncId} {caps : List RV} {z : Bool} (xs : List (List RV)) (hI : ICalls P z f caps xs)
    (ts : List Nat) (hnd : ts.Nodup) (F : (Nat → Nat) → List (Nat × AV)) (R : Nat → (Nat → Nat) → List (Nat × RowC)) (I : Nat → Prop) (h0 : FitV n F (R 0) s) (hi0 : I 0)
    (hts : ∀ vs, (F vs).map (·.1) = ts) (hg : ∀ vs, look (F vs) t = .r (.fn f caps)) (hd : ∀ i vs, lookc (R i vs) 0 = .dead) (hps : ∀ t ∈ ps.toList, t < n) (hlen : ∀ e ∈ xs, e.length = ps.size)
    (round : ∀ i e vs us C, xs[i]? = some e → I i → awp P C assign (fun x s2 => x = .normal ∧ ∀ C, awp P C body (rfpost n ts Q (fun s3 => I (i + 1) ∧ ∃ vs', Sub s3 (st n [] vs' ((0, .sus ((F vs').map (·.2)) us) :: R (i + 1) vs'))) us) s2)
      (st n (psL ps.toList e (F vs)) vs ((0, .sus ((F vs).map (·.2)) us) :: R i vs)))
    (done : ∀ vs us, I xs.length → Q .normal (st n (F vs) vs ((0, .sus ((F vs).map (·.2)) us) :: R xs.length vs))) : awp P C (.rangeFunc (.tmp t) ps assign body) Q s := by
  obtain ⟨vs0, h0⟩ := h0
  refine awp_sub h0 ?_
  have hdrop : ∀ i e rest, xs.drop i = e :: rest → xs[i]? = some e ∧ xs.drop (i + 1) = rest := fun i e rest h => by
    refine ⟨?_, by rw [← List.drop_drop, h]; rfl⟩
    have : (xs.drop i)[0]? = some e := by rw [h]; rfl
    simpa using this
  have hz : ∀ vs, ts.zip ((F vs).map (·.2)) = F vs := fun vs => by rw [← hts vs]; exact zip_keys _
  refine awp_rangeFunc hC.1 hC.2 (F := f) (cs := caps.map .r) (args := caps) (xs := xs) (z := z) (by
      show callee? (look (F vs0) t) = _
      rw [hg]; rfl) (by clear hI hg; induction caps with | nil => rfl | cons c cs ih => simpa [AV.pureL, AV.pure] using ih) (by rw [snapVL_ro]; exact leL_refl _) hI (hd 0 vs0) ts hps
    (fun left us s' => ∃ i vs, left = xs.drop i ∧ i ≤ xs.length ∧ I i ∧ s' = st n [] vs ((0, .sus ((F vs).map (·.2)) us) :: R i vs))
    (fun c us s' => ∃ avs, (s'.rows 0).c = .sus avs us ∧ ((c = .ret ∧ Q .ret ⟨n, look (ts.zip avs), s'.rows⟩) ∨ ∃ id, c = .exit id ∧ Q (.exit id) ⟨n, look (ts.zip avs), s'.rows⟩))
    (fun us => ⟨0, vs0, rfl, Nat.zero_le _, hi0, ?_⟩) ?_ ?_ ?_
  · refine (upd_rows_st (c := .sus (ts.map (st n (F vs0) vs0 (R 0 vs0)).tm) us)).trans ?_
    congr 3
    have hk : (F vs0).map (·.2) = ts.map (look (F vs0)) := by
      have := look_keys (F vs0) (by rw [hts vs0]; exact hnd)
      rw [hts vs0] at this
      exact this
    rw [hk]; rfl
  · rintro e rest us s' _ ⟨i, vs, hl, hle, hI', rfl⟩
    obtain ⟨h1, h2⟩ := hdrop i e rest hl.symm
    refine ⟨hlen e (List.mem_of_getElem? h1), (F vs).map (·.2), rfl, fun C' => ?_⟩
    have hr := round i e vs us C' h1 hI'
    rw [hz, psA_look]
    refine awp_mono ?_ hr
    rintro x s2 ⟨hx, hbody⟩
    refine ⟨hx, fun C'' => awp_mono ?_ (hbody C'')⟩
    intro x s3 hq
    cases x with
    | normal =>
      obtain ⟨hI3, vs', hsub⟩ := hq
      refine ⟨_, hsub, i + 1, vs', h2.symm, ?_, hI3, rfl⟩
      have := (List.getElem?_eq_some_iff.1 h1).1
      omega
    | ret =>
      obtain ⟨avs, h3, h4⟩ := hq
      exact ⟨s3, Sub.refl _, avs, h3, .inl ⟨rfl, h4⟩⟩
    | exit id =>
      obtain ⟨avs, h3, h4⟩ := hq
      exact ⟨s3, Sub.refl _, avs, h3, .inr ⟨id, rfl, h4⟩⟩
    | goto l => exact hq.elim
    | panic c => exact hq.elim
    | outgrown => exact hq.elim
  · rintro us s' _ ⟨i, vs, hl, hle, hI', rfl⟩
    have hi : i = xs.length := by
      have : (xs.drop i).length = 0 := by rw [← hl]; rfl
      rw [List.length_drop] at this; omega
    subst hi
    refine ⟨(F vs).map (·.2), rfl, ?_⟩
    have := done vs us hI'
    rw [hz]
    exact this
  · rintro c us s' _ ⟨avs, h3, h4⟩
    refine ⟨avs, h3, ?_⟩
    rcases h4 with ⟨rfl, h4⟩ | ⟨id, rfl, h4⟩
    · exact awp_ret h4
    · exact awp_exit h4
/-- A loop up to N; rows may tell of versions. -/
theorem awp_uptoV {P : Program} {C : Ctx} {c : Code} {n : Nat} {Q : Exit → AS → Prop} {s : AS} (N : Nat) (F : Nat → (Nat → Nat) → List (Nat × AV)) (R : Nat → (Nat → Nat) → List (Nat × RowC)) (I : Nat → Prop) (i0 : Nat)
    (h0 : FitV n (F i0) (R i0) s) (hi : i0 ≤ N) (hI : I i0)
    (round : ∀ i vs, i ≤ N → I i → awp P C c (andThen (fun s' => i < N ∧ I (i + 1) ∧ FitV n (F (i + 1)) (R (i + 1)) s') Q) (st n (F i vs) vs (R i vs))) : awp P C (.loop c) Q s := by
  refine awp_whileV F R (fun i => i ≤ N ∧ I i) (fun i => N - i) i0 h0 ⟨hi, hI⟩ ?_
  rintro i vs ⟨hi, hI⟩
  refine awp_mono ?_ (round i vs hi hI)
  intro e s' hq
  cases e with
  | normal =>
    obtain ⟨h1, h2, h3⟩ := hq
    exact ⟨i + 1, ⟨h1, h2⟩, by omega, h3⟩
  | _ => exact hq
end Go.Oc

/- What the small functions of chapter 10 return: tests of ranges, powers, codes. -/
namespace Go.Proofs.Ytaniakoadbkadaa
open Go Go.Oc
set_option linter.unusedSimpArgs false
set_option linter.unusedVariables false
set_option maxRecDepth 8000
theorem within1_ok (n a b : Int) : ACalls Try.prog 53 [i64 n, .rp [i64 a], .rp [i64 b]] (.bo (decide (n < a) || decide (b < n))) := by
  refine acalls_st (rs := [.bo (decide (n < a) || decide (b < n))]) [.tmp 4] Try.func53 rfl (by kernel_rfl) Try.ntmps53 rfl (by simp) rfl fun C vs => ?_
  repeat refine awp_seq ?_
  refine awp_reg (by kernel_rfl) fun K hK => ?_
  simp only [go_sem]
  (try simp (disch := omega) only [wrapI])
  repeat first | intro _ | refine ⟨(by omega), ?_⟩ | refine ⟨⟨by omega, by omega⟩, ?_⟩
  refine hK _ ?_
  clear hK K
  repeat refine awp_seq ?_
  refine awp_reg (by kernel_rfl) fun K hK => ?_
  simp only [go_sem]
  (try simp (disch := omega) only [wrapI])
  refine ⟨fun h => ?_, fun h => ?_⟩ <;>
  · repeat first | intro _ | refine ⟨(by omega), ?_⟩ | refine ⟨⟨by omega, by omega⟩, ?_⟩
    refine hK _ ?_
    clear hK K
    refine awp_ret ?_
    simp only [go_sem]
    try simp [h]
theorem index_ok (p : Int → Bool) (f : Nat) (caps : List RV) (l : List Int) (h : ∀ x ∈ l, ACalls Try.prog f (i64 x :: caps) (.bo (p x))) : ACalls Try.prog 61 [ints l, .fn f caps] (i64 (indexF p l)) := by
  refine acalls_st (rs := [i64 (indexF p l)]) [.tmp 4] Try.func61 rfl (by kernel_rfl) Try.ntmps61 rfl (by simp) rfl fun C vs => ?_
  repeat refine awp_seq ?_
  refine awp_reg (by kernel_rfl) fun K hK => ?_
  simp only [go_sem]
  (try simp (disch := omega) only [wrapI])
  repeat first | intro _ | refine ⟨(by omega), ?_⟩ | refine ⟨⟨by omega, by omega⟩, ?_⟩
  refine hK _ ?_
  clear hK K
  repeat refine awp_seq ?_
  refine awp_reg (by kernel_rfl) fun K hK => ?_
  simp only [go_sem]
  (try simp (disch := omega) only [wrapI])
  intro hl
  repeat first | intro _ | refine ⟨(by omega), ?_⟩ | refine ⟨⟨by omega, by omega⟩, ?_⟩
  refine hK _ ?_
  clear hK K
  repeat refine awp_seq ?_
  refine awp_block ?_
  refine awp_upto (n := 19) l.length (fun i vs => [(0, .r (ints l)), (1, .r (.fn f caps)), (7, .r (i64 l.length)), (8, .r (i64 i))]) (fun _ => [])
    (fun i => indexF p l = if indexF p (l.drop i) < 0 then -1 else i + indexF p (l.drop i)) 0 (fit_of [] ?_ rfl) (Nat.zero_le _) ?_ ?_
  · try simp only [go_sem]
  · simp only [List.drop_zero]
    have := indexF_ge p l
    split
    · omega
    · simp
  · intro i vs hi hI
    repeat refine awp_seq ?_
    refine awp_reg (by kernel_rfl) fun K hK => ?_
    simp only [go_sem]
    (try simp (disch := omega) only [wrapI])
    repeat first | intro _ | refine ⟨(by omega), ?_⟩ | refine ⟨⟨by omega, by omega⟩, ?_⟩
    refine hK _ ?_
    clear hK K
    repeat refine awp_seq ?_
    refine awp_cond rfl (fun hc => ?_) (fun hc => ?_) <;> (try simp only [go_sem] at hc)
    · obtain ⟨x, hx⟩ := opt_of_lt hc
      rw [drop_of_opt hx] at hI
      refine awp_skip ?_
      repeat refine awp_seq ?_
      refine awp_block ?_
      repeat refine awp_seq ?_
      refine awp_reg (by kernel_rfl) fun K hK => ?_
      simp only [go_sem]
      (try simp (disch := omega) only [wrapI])
      repeat first | intro _ | refine ⟨(by omega), ?_⟩ | refine ⟨⟨by omega, by omega⟩, ?_⟩
      refine hK _ ?_
      clear hK K
      repeat refine awp_seq ?_
      refine awp_reg (by kernel_rfl) fun K hK => ?_
      simp only [go_sem, hx, hc]
      (try simp (disch := omega) only [wrapI])
      refine xcall_eq (h x (mem_of_opt hx)) rfl (by simp only [go_sem, i64, ints]) (by simp only [go_sem, i64, ints]) (by first | exact .inl rfl | exact .inr rfl) ?_
      (try simp only [go_sem])
      (try simp (disch := omega) only [wrapI])
      repeat first | intro _ | refine ⟨(by omega), ?_⟩ | refine ⟨⟨by omega, by omega⟩, ?_⟩
      refine hK _ ?_
      clear hK K
      repeat refine awp_seq ?_
      refine awp_cond rfl (fun hc => ?_) (fun hc => ?_) <;> (try simp only [go_sem] at hc)
      · repeat refine awp_seq ?_
        refine awp_reg (by kernel_rfl) fun K hK => ?_
        simp only [go_sem]
        (try simp (disch := omega) only [wrapI])
        repeat first | intro _ | refine ⟨(by omega), ?_⟩ | refine ⟨⟨by omega, by omega⟩, ?_⟩
        refine hK _ ?_
        clear hK K
        refine awp_ret ?_
        simp only [go_sem]
        simp [hI, indexF, hc]
      · refine awp_skip ?_
        try simp only [go_sem]
        repeat refine awp_seq ?_
        refine awp_reg (by kernel_rfl) fun K hK => ?_
        simp only [go_sem]
        (try simp (disch := omega) only [wrapI])
        repeat first | intro _ | refine ⟨(by omega), ?_⟩ | refine ⟨⟨by omega, by omega⟩, ?_⟩
        refine hK _ ?_
        clear hK K
        try simp only [go_sem]
        refine ⟨‹_›, ?_, fit_of [] ?_ rfl⟩
        · rw [hI]
          simp only [indexF, hc, Bool.false_eq_true, if_false]
          have := indexF_ge p (l.drop (i + 1))
          (repeat' split) <;> omega
        · try simp only [go_sem]
    · refine awp_exit ?_
      simp only [go_sem]
      repeat refine awp_seq ?_
      refine awp_reg (by kernel_rfl) fun K hK => ?_
      simp only [go_sem]
      (try simp (disch := omega) only [wrapI])
      repeat first | intro _ | refine ⟨(by omega), ?_⟩ | refine ⟨⟨by omega, by omega⟩, ?_⟩
      refine hK _ ?_
      clear hK K
      refine awp_ret ?_
      simp only [go_sem]
      have : l.drop i = [] := List.drop_eq_nil_of_le (by omega)
      simp [hI, this, indexF]
theorem contains_ok (p : Int → Bool) (f : Nat) (caps : List RV) (l : List Int) (h : ∀ x ∈ l, ACalls Try.prog f (i64 x :: caps) (.bo (p x))) : ACalls Try.prog 34 [ints l, .fn f caps] (.bo (l.any p)) := by
  refine acalls_st (rs := [.bo (l.any p)]) [.tmp 4] Try.func34 rfl (by kernel_rfl) Try.ntmps34 rfl (by simp) rfl fun C vs => ?_
  repeat refine awp_seq ?_
  refine awp_reg (by kernel_rfl) fun K hK => ?_
  simp only [go_sem]
  (try simp (disch := omega) only [wrapI])
  repeat first | intro _ | refine ⟨(by omega), ?_⟩ | refine ⟨⟨by omega, by omega⟩, ?_⟩
  refine hK _ ?_
  clear hK K
  repeat refine awp_seq ?_
  refine awp_reg (by kernel_rfl) fun K hK => ?_
  simp only [go_sem]
  (try simp (disch := omega) only [wrapI])
  refine xcall_eq (index_ok p f caps l h) rfl (by simp only [go_sem, i64, ints]) (by simp only [go_sem, i64, ints]) (by first | exact .inl rfl | exact .inr rfl) ?_
  (try simp only [go_sem])
  (try simp (disch := omega) only [wrapI])
  repeat first | intro _ | refine ⟨(by omega), ?_⟩ | refine ⟨⟨by omega, by omega⟩, ?_⟩
  refine hK _ ?_
  clear hK K
  refine awp_ret ?_
  simp only [go_sem]
  rw [← indexF_any]
/-- All numbers lie between two. -/
def withinL (a b : Int) (l : List Int) : Bool := l.all fun n => decide (a ≤ n) && decide (n ≤ b)
theorem withinL_not (a b : Int) (l : List Int) : (!(l.any fun n => decide (n < a) || decide (b < n))) = withinL a b l := by
  unfold withinL
  rw [List.not_any_eq_all_not]
  congr 1
  funext n
  by_cases h1 : n < a <;> by_cases h2 : b < n <;> simp [h1, h2] <;> omega
theorem within_ok (a b : Int) (l : List Int) : ACalls Try.prog 26 [i64 a, i64 b, ints l] (.bo (withinL a b l)) := by
  refine acalls_st (rs := [.bo (withinL a b l)]) [.tmp 6] Try.func26 rfl (by kernel_rfl) Try.ntmps26 rfl (by simp) rfl fun C vs => ?_
  repeat refine awp_seq ?_
  refine awp_reg (by kernel_rfl) fun K hK => ?_
  simp only [go_sem]
  (try simp (disch := omega) only [wrapI])
  repeat first | intro _ | refine ⟨(by omega), ?_⟩ | refine ⟨⟨by omega, by omega⟩, ?_⟩
  refine hK _ ?_
  clear hK K
  repeat refine awp_seq ?_
  refine awp_reg (by kernel_rfl) fun K hK => ?_
  simp only [go_sem]
  (try simp (disch := omega) only [wrapI])
  refine xcall_eq (contains_ok (fun n => decide (n < a) || decide (b < n)) 53 [.rp [i64 a], .rp [i64 b]] l fun x _ => within1_ok x a b) rfl (by simp only [go_sem, i64, ints]) (by simp only [go_sem, i64, ints]) (by first | exact .inl rfl | exact .inr rfl) ?_
  (try simp only [go_sem])
  (try simp (disch := omega) only [wrapI])
  repeat first | intro _ | refine ⟨(by omega), ?_⟩ | refine ⟨⟨by omega, by omega⟩, ?_⟩
  refine hK _ ?_
  clear hK K
  refine awp_ret ?_
  simp only [go_sem]
  rw [← withinL_not]
theorem nan_ok (n : Int) : ACalls Try.prog 76 [i64 n] (.bo false) := by
  refine acalls_st (rs := [.bo false]) [.tmp 2] Try.func76 rfl (by kernel_rfl) Try.ntmps76 rfl (by simp) rfl fun C vs => ?_
  repeat refine awp_seq ?_
  refine awp_reg (by kernel_rfl) fun K hK => ?_
  simp only [go_sem]
  (try simp (disch := omega) only [wrapI])
  repeat first | intro _ | refine ⟨(by omega), ?_⟩ | refine ⟨⟨by omega, by omega⟩, ?_⟩
  refine hK _ ?_
  clear hK K
  repeat refine awp_seq ?_
  refine awp_reg (by kernel_rfl) fun K hK => ?_
  simp only [go_sem]
  (try simp (disch := omega) only [wrapI])
  repeat first | intro _ | refine ⟨(by omega), ?_⟩ | refine ⟨⟨by omega, by omega⟩, ?_⟩
  refine hK _ ?_
  clear hK K
  refine awp_ret ?_
  simp only [go_sem]
  simp
/-! ### Numbers modulo the prime -/
theorem mul_in {a b : Int} (ha : 0 ≤ a) (ha' : a < 2147483648) (hb : 0 ≤ b) (hb' : b < 2147483648) : 0 ≤ a * b ∧ a * b ≤ 4611686018427387904 :=
  ⟨Int.mul_nonneg ha hb, by
    have h1 : a * b ≤ 2147483648 * b := Int.mul_le_mul_of_nonneg_right (by omega) hb
    omega⟩
theorem emod_pow (a : Int) (m : Int) : ∀ n : Nat, (a % m) ^ n % m = a ^ n % m
  | 0 => by simp
  | n + 1 => by rw [Int.pow_succ, Int.pow_succ, Int.mul_emod, emod_pow a m n, Int.emod_emod, ← Int.mul_emod]
theorem pow_two' (a : Int) : a * a = a ^ 2 := by rw [Int.pow_succ, Int.pow_one]
theorem tmod_nat (m k : Nat) : (m : Int).tmod k = ((m % k : Nat) : Int) := rfl
theorem tdiv_nat (m k : Nat) : (m : Int).tdiv k = ((m / k : Nat) : Int) := rfl
theorem tmod2 (m : Nat) : (m : Int).tmod 2 = ((m % 2 : Nat) : Int) := rfl
theorem tdiv2 (m : Nat) : (m : Int).tdiv 2 = ((m / 2 : Nat) : Int) := rfl
end Go.Proofs.Ytaniakoadbkadaa

/- Stable sorting of a few numbers, in place. -/
namespace Go.Proofs.Ytaniakoadbkadaa
open Go Go.Oc
set_option linter.unusedSimpArgs false
set_option linter.unusedVariables false
set_option maxRecDepth 8000
/-! ### Insertion -/
/-- A number comes to its place in a list that is sorted backwards. -/
def insB (lt : Nat → Nat → Bool) (x : Nat) : List Nat → List Nat
  | [] => [x]
  | y :: ys => if lt x y then y :: insB lt x ys else x :: y :: ys
def sortB (lt : Nat → Nat → Bool) : List Nat → List Nat → List Nat
  | [], R => R
  | x :: xs, R => sortB lt xs (insB lt x R)
def sortN (lt : Nat → Nat → Bool) (l : List Nat) : List Nat := (sortB lt l []).reverse
theorem insB_len (lt : Nat → Nat → Bool) (x : Nat) : ∀ R, (insB lt x R).length = R.length + 1
  | [] => rfl
  | y :: R => by
    unfold insB
    split
    · simp [insB_len lt x R]
    · rfl
theorem insB_skip (lt : Nat → Nat → Bool) (x : Nat) : ∀ (R : List Nat) (k : Nat), (∀ y ∈ R.take k, lt x y = true) → insB lt x R = R.take k ++ insB lt x (R.drop k)
  | R, 0, _ => by simp
  | [], k + 1, _ => by simp
  | y :: R, k + 1, h => by
    have hy : lt x y = true := h y (by simp)
    have ih := insB_skip lt x R k fun z hz => h z (by simp [hz])
    simp only [List.take_succ_cons, List.drop_succ_cons, List.cons_append]
    rw [← ih]
    simp [insB, hy]
theorem sortB_snoc (lt : Nat → Nat → Bool) : ∀ (l : List Nat) (x : Nat) (R : List Nat), sortB lt (l ++ [x]) R = insB lt x (sortB lt l R)
  | [], _, _ => rfl
  | y :: l, x, R => by simp only [List.cons_append, sortB]; exact sortB_snoc lt l x _
theorem sortB_len (lt : Nat → Nat → Bool) : ∀ (l R : List Nat), (sortB lt l R).length = l.length + R.length
  | [], R => by simp [sortB]
  | x :: l, R => by simp only [sortB]; rw [sortB_len lt l, insB_len]; simp; omega
theorem mem_insB (lt : Nat → Nat → Bool) (x z : Nat) : ∀ R, z ∈ insB lt x R ↔ z = x ∨ z ∈ R
  | [] => by simp [insB]
  | y :: R => by
    unfold insB
    split
    · simp only [List.mem_cons, mem_insB lt x z R]
      constructor
      · rintro (h | h | h) <;> simp [h]
      · rintro (h | h | h) <;> simp [h]
    · simp
theorem mem_sortB (lt : Nat → Nat → Bool) (z : Nat) : ∀ l R, z ∈ sortB lt l R ↔ z ∈ l ∨ z ∈ R
  | [], R => by simp [sortB]
  | x :: l, R => by
    simp only [sortB]
    rw [mem_sortB lt z l, mem_insB]
    simp only [List.mem_cons]
    constructor
    · rintro (h | h | h) <;> simp [h]
    · rintro ((h | h) | h) <;> simp [h]
/-- What lies in the row while number x goes down: k numbers have been passed. -/
def holeL (R : List Nat) (x k : Nat) (rest : List Nat) : List Nat := (R.drop k).reverse ++ x :: ((R.take k).reverse ++ rest)
theorem hole_len (R : List Nat) (x k : Nat) (rest : List Nat) (hk : k ≤ R.length) : (holeL R x k rest).length = R.length + 1 + rest.length := by
  simp [holeL]; omega
theorem hole_at (R : List Nat) (x k : Nat) (rest : List Nat) (hk : k ≤ R.length) : (holeL R x k rest)[R.length - k]? = some x := by
  unfold holeL
  rw [List.getElem?_append_right (by simp)]
  simp
theorem hole_next {R : List Nat} {x k y : Nat} {rest : List Nat} (hy : R[k]? = some y) : (holeL R x k rest)[R.length - k - 1]? = some y ∧ (holeL R x k rest) = (R.drop (k + 1)).reverse ++ y :: x :: ((R.take k).reverse ++ rest) ∧ holeL R x (k + 1) rest = (R.drop (k + 1)).reverse ++ x :: y :: ((R.take k).reverse ++ rest) := by
  have hk := (List.getElem?_eq_some_iff.1 hy).1
  have hd := drop_of_opt hy
  have ht := take_of_opt hy
  have e1 : (holeL R x k rest) = (R.drop (k + 1)).reverse ++ y :: x :: ((R.take k).reverse ++ rest) := by
    unfold holeL; rw [hd]; simp
  refine ⟨?_, e1, by unfold holeL; rw [ht]; simp⟩
  rw [e1, List.getElem?_append_right (by simp; omega)]
  have : R.length - k - 1 - (R.drop (k + 1)).reverse.length = 0 := by simp; omega
  rw [this]; rfl
theorem hole_swap {α : Type} (g : Nat → α) {R : List Nat} {x k y : Nat} {rest : List Nat} (hy : R[k]? = some y) :
    (((holeL R x k rest).map g).set (R.length - k) (g y)).set (R.length - k - 1) (g x) = (holeL R x (k + 1) rest).map g := by
  obtain ⟨_, e1, e2⟩ := hole_next (x := x) (rest := rest) hy
  have hk := (List.getElem?_eq_some_iff.1 hy).1
  rw [e1, e2, ← List.map_set, ← List.map_set]
  congr 1
  have hl : (R.drop (k + 1)).reverse.length = R.length - k - 1 := by simp; omega
  generalize (R.drop (k + 1)).reverse = A at hl
  generalize (R.take k).reverse ++ rest = B
  have e3 : R.length - k = A.length + 1 := by omega
  rw [e3, Nat.add_sub_cancel]
  rw [List.set_append_right _ _ (by omega)]
  simp only [Nat.add_sub_cancel_left, List.set_cons_succ, List.set_cons_zero]
  rw [List.set_append_right _ _ (by omega)]
  simp
theorem lent_put {vs : Nat → Nat} {k : Nat} (h : Lent vs) : Lent (upd vs k 0) := fun j hj => by
  unfold upd; split
  · rfl
  · exact h j hj
abbrev idx (l : List Nat) : List (List RV) := l.map fun (x : Nat) => [i64 (x : Int)]
theorem insertion_ok (lt : Nat → Nat → Bool) (c : Nat → Nat → Int) (f : Nat) (caps : List RV) (l : List Nat) (hl : l.length ≤ 1000) (hlt : ∀ x y, lt x y = decide (c x y < 0))
    (hcc : ∀ x ∈ l, ∀ y ∈ l, ACalls Try.prog f (i64 (x : Int) :: i64 (y : Int) :: caps) (i64 (c x y))) :
    MCalls Try.prog 74 [(1000, .arr 3 1 (idx l))] [(1000, .arr 3 1 (idx (sortN lt l)))] [.os 1000 0 1 0 l.length, .r (i64 0), .r (i64 l.length), .r (.fn f caps)] (.tu []) := by
  refine mcalls_st (n := 53) (rs := []) _ _ [] Try.func74 rfl (by kernel_rfl) Try.ntmps74 rfl (by simp) rfl rfl fun C => ?_
  have hmem : ∀ i z, z ∈ sortB lt (l.take i) [] → z ∈ l := fun i z hz => by
    rw [mem_sortB] at hz
    rcases hz with hz | hz
    · exact List.mem_of_mem_take hz
    · cases hz
  repeat refine awp_seq ?_
  refine awp_reg (by kernel_rfl) fun K hK => ?_
  simp only [go_sem]
  (try simp (disch := omega) only [wrapI])
  repeat first | intro _ | refine ⟨(by omega), ?_⟩ | refine ⟨⟨by omega, by omega⟩, ?_⟩
  refine hK _ ?_
  clear hK K
  refine awp_sub (sub_keep [0, 1, 2, 3, 8]) ?_
  simp only [go_sem]
  repeat refine awp_seq ?_
  refine awp_block ?_
  refine awp_upto0 (n := 53) (max l.length 1) (fun i vs => [(0, .os 1000 0 1 0 l.length), (1, .r (i64 0)), (2, .r (i64 l.length)), (3, .r (.fn f caps)), (8, .r (i64 i))])
    (fun i => [(1000, .arr 3 1 (idx ((sortB lt (l.take i) []).reverse ++ l.drop i)))]) (fun i => 1 ≤ i) 1 (fit0_of [] lent_zero ?_ ?_) (by omega) (Nat.le_refl _) ?_
  · try simp only [go_sem]
  · simp only [go_sem]
    cases l with
    | nil => rfl
    | cons x l => simp [sortB, insB]
  · intro i vs hv hi hi1
    have hv0 := hv 1000 (by omega)
    repeat refine awp_seq ?_
    refine awp_reg (by kernel_rfl) fun K hK => ?_
    simp only [go_sem]
    (try simp (disch := omega) only [wrapI])
    repeat first | intro _ | refine ⟨(by omega), ?_⟩ | refine ⟨⟨by omega, by omega⟩, ?_⟩
    refine hK _ ?_
    clear hK K
    refine awp_sub (sub_keep [0, 1, 2, 3, 8, 14]) ?_
    simp only [go_sem]
    repeat refine awp_seq ?_
    refine awp_cond rfl (fun hc => ?_) (fun hc => ?_) <;> (try simp only [go_sem] at hc)
    · have hci : i < l.length := by omega
      obtain ⟨x, hx⟩ := opt_of_lt hci
      obtain ⟨R, hR⟩ : ∃ R, R = sortB lt (l.take i) [] := ⟨_, rfl⟩
      have hRl : R.length = i := by rw [hR, sortB_len]; simp; omega
      have hRm : ∀ z ∈ R, z ∈ l := fun z hz => hmem i z (hR ▸ hz)
      have hnx : sortB lt (l.take (i + 1)) [] = insB lt x R := by rw [take_of_opt hx, sortB_snoc, hR]
      have hst : (sortB lt (l.take i) []).reverse ++ l.drop i = holeL R x 0 (l.drop (i + 1)) := by rw [← hR, drop_of_opt hx]; simp [holeL]
      rw [hst]
      refine awp_skip ?_
      repeat refine awp_seq ?_
      refine awp_block ?_
      repeat refine awp_seq ?_
      refine awp_reg (by kernel_rfl) fun K hK => ?_
      simp only [go_sem]
      (try simp (disch := omega) only [wrapI])
      repeat first | intro _ | refine ⟨(by omega), ?_⟩ | refine ⟨⟨by omega, by omega⟩, ?_⟩
      refine hK _ ?_
      clear hK K
      refine awp_sub (sub_keep [0, 1, 2, 3, 8, 9]) ?_
      simp only [go_sem]
      repeat refine awp_seq ?_
      refine awp_block ?_
      refine awp_upto0 (n := 53) i (fun k vs => [(0, .os 1000 0 1 0 l.length), (1, .r (i64 0)), (2, .r (i64 l.length)), (3, .r (.fn f caps)), (8, .r (i64 i)), (9, .r (i64 (i - k : Nat)))])
        (fun k => [(1000, .arr 3 1 (idx (holeL R x k (l.drop (i + 1)))))]) (fun k => ∀ y ∈ R.take k, lt x y = true) 0 (fit0_of [] hv ?_ ?_) (Nat.zero_le _) (by simp) ?_
      · try simp only [go_sem]
      · try simp only [go_sem]
      · intro k vs hv hk hI
        have hv0 := hv 1000 (by omega)
        have hins := insB_skip lt x R k hI
        -- the number is at its place
        have done : insB lt x (R.drop k) = x :: R.drop k → sortB lt (l.take (i + 1)) [] = R.take k ++ x :: R.drop k := fun h => by rw [hnx, hins, h]
        by_cases hk0 : k = i
        · have e0 : i - k = 0 := by omega
          repeat refine awp_seq ?_
          refine awp_dreg2 [(0, some 1000)] follows (by decide +kernel) (by kernel_rfl) (by simp only [keysOk, List.mem_cons, List.not_mem_nil, forall_eq_or_imp, Oc.keyOf, go_sem]; simp) fun K hK => ?_
          simp only [go_sem, hv0, e0]
          (try simp (disch := omega) only [wrapI])
          repeat first | intro _ | refine ⟨(by omega), ?_⟩ | refine ⟨⟨by omega, by omega⟩, ?_⟩
          refine hK _ ?_
          clear hK K
          refine awp_sub (sub_keep [0, 1, 2, 3, 8, 9, 34]) ?_
          simp only [go_sem]
          repeat refine awp_seq ?_
          refine awp_cond rfl (fun hc => ?_) (fun hc => ?_) <;> (try simp only [go_sem] at hc)
          refine awp_exit ?_
          simp only [go_sem]
          repeat refine awp_seq ?_
          refine awp_reg (by kernel_rfl) fun K hK => ?_
          simp only [go_sem]
          (try simp (disch := omega) only [wrapI])
          repeat first | intro _ | refine ⟨(by omega), ?_⟩ | refine ⟨⟨by omega, by omega⟩, ?_⟩
          refine hK _ ?_
          clear hK K
          try simp only [go_sem]
          refine ⟨by omega, fit0_of [] hv ?_ ?_⟩
          · try simp only [go_sem]
          · have hd0 : R.drop k = [] := List.drop_eq_nil_of_le (by omega)
            have := done (by rw [hd0]; rfl)
            simp only [go_sem, this]
            simp [holeL]
        · obtain ⟨y, hy⟩ := opt_of_lt (l := R) (i := k) (by omega)
          obtain ⟨j, hj⟩ : ∃ j, i - k = j + 1 := ⟨i - k - 1, by omega⟩
          have hjs : IntKind.i64.wrap ((j : Int) + 1 - 1) = j := by rw [wrapI] <;> omega
          have hlen : (holeL R x k (l.drop (i + 1))).length = l.length := by rw [hole_len _ _ _ _ (by omega), List.length_drop]; omega
          have hxa : (holeL R x k (l.drop (i + 1)))[j + 1]? = some x := by rw [← hj, ← hRl]; exact hole_at R x k _ (by omega)
          have hya : (holeL R x k (l.drop (i + 1)))[j]? = some y := by
            have := (hole_next (x := x) (rest := l.drop (i + 1)) hy).1
            rw [hRl, hj] at this
            exact this
          have hcall := hcc x (mem_of_opt hx) y (hRm y (mem_of_opt hy))
          have hpos : (0 < (j : Int) + 1) = True := by simp
          have hlxy := hlt x y
          repeat refine awp_seq ?_
          refine awp_dreg2 [(0, some 1000)] follows (by decide +kernel) (by kernel_rfl) (by simp only [keysOk, List.mem_cons, List.not_mem_nil, forall_eq_or_imp, Oc.keyOf, go_sem]; simp) fun K hK => ?_
          simp only [go_sem, hv0, hj, hjs, hxa, hya, hlen, hpos]
          (try simp (disch := omega) only [wrapI])
          refine ⟨by omega, by omega, ?_⟩
          refine xcall_eq (hcall) rfl (by simp only [go_sem, i64, ints, hv0]) (by simp only [go_sem, i64, ints, hv0]) (by first | exact .inl rfl | exact .inr rfl) ?_
          (try simp only [go_sem, hv0])
          (try simp (disch := omega) only [wrapI])
          repeat first | intro _ | refine ⟨(by omega), ?_⟩ | refine ⟨⟨by omega, by omega⟩, ?_⟩
          refine hK _ ?_
          clear hK K
          refine awp_sub (sub_keep [0, 1, 2, 3, 8, 9, 34]) ?_
          simp only [go_sem]
          cases hcx : decide (c x y < 0)
          · repeat refine awp_seq ?_
            refine awp_cond rfl (fun hc => ?_) (fun hc => ?_) <;> (try simp only [go_sem] at hc)
            refine awp_exit ?_
            simp only [go_sem]
            repeat refine awp_seq ?_
            refine awp_reg (by kernel_rfl) fun K hK => ?_
            simp only [go_sem]
            (try simp (disch := omega) only [wrapI])
            repeat first | intro _ | refine ⟨(by omega), ?_⟩ | refine ⟨⟨by omega, by omega⟩, ?_⟩
            refine hK _ ?_
            clear hK K
            try simp only [go_sem]
            refine ⟨by omega, fit0_of [] hv ?_ ?_⟩
            · try simp only [go_sem]
            · have := done (by rw [drop_of_opt hy]; simp [insB, hlxy, hcx])
              simp only [go_sem, this]
              simp [holeL]
          · repeat refine awp_seq ?_
            refine awp_cond rfl (fun hc => ?_) (fun hc => ?_) <;> (try simp only [go_sem] at hc)
            refine awp_skip ?_
            try simp only [go_sem]
            repeat refine awp_seq ?_
            refine awp_block ?_
            have hset : ((idx (holeL R x k (l.drop (i + 1)))).set (j + 1) [i64 (y : Int)]).getD j [] = [i64 (y : Int)] := by
              rw [List.getD_eq_getElem?_getD, List.getElem?_set_ne (by omega), List.getElem?_map, hya]; rfl
            have hsw := hole_swap (fun (x : Nat) => [i64 (x : Int)]) (x := x) (rest := l.drop (i + 1)) hy
            rw [hRl, hj] at hsw
            simp only [Nat.add_sub_cancel] at hsw
            repeat refine awp_seq ?_
            refine awp_dreg2 [(0, some 1000)] follows (by decide +kernel) (by kernel_rfl) (by simp only [keysOk, List.mem_cons, List.not_mem_nil, forall_eq_or_imp, Oc.keyOf, go_sem]; simp) fun K hK => ?_
            simp only [go_sem, hv0, hj, hjs, hxa, hya, hlen, hset, List.length_set]
            (try simp (disch := omega) only [wrapI])
            repeat' first | intro _ | refine And.intro ?_ ?_
            all_goals first | omega | skip
            all_goals (refine hK _ ?_; clear hK K)
            refine awp_sub (sub_keep [0, 1, 2, 3, 8, 9]) ?_
            simp only [go_sem]
            repeat refine awp_seq ?_
            refine awp_reg (by kernel_rfl) fun K hK => ?_
            simp only [go_sem, hjs]
            (try simp (disch := omega) only [wrapI])
            repeat first | intro _ | refine ⟨(by omega), ?_⟩ | refine ⟨⟨by omega, by omega⟩, ?_⟩
            refine hK _ ?_
            clear hK K
            try simp only [go_sem]
            have hj2 : i - (k + 1) = j := by omega
            refine ⟨by omega, ?_, fit0_of [] (lent_put (lent_put hv)) ?_ ?_⟩
            · rw [take_of_opt hy]
              intro z hz
              rcases List.mem_append.1 hz with hz | hz
              · exact hI z hz
              · simp only [List.mem_singleton] at hz
                subst hz
                rw [hlxy, hcx]
            · simp only [go_sem, hj2]
            · simp only [go_sem]
              exact congrArg (fun z => [(1000, RowC.arr 3 1 z)]) hsw
    · refine awp_exit ?_
      simp only [go_sem]
      have h1 : l.take i = l := List.take_of_length_le (by omega)
      have h2 : l.drop i = [] := List.drop_eq_nil_of_le (by omega)
      rw [h1, h2, List.append_nil]
      rfl
theorem stable_ok (lt : Nat → Nat → Bool) (c : Nat → Nat → Int) (f : Nat) (caps : List RV) (l : List Nat) (hl : l.length ≤ 19) (hlt : ∀ x y, lt x y = decide (c x y < 0))
    (hcc : ∀ x ∈ l, ∀ y ∈ l, ACalls Try.prog f (i64 (x : Int) :: i64 (y : Int) :: caps) (i64 (c x y))) :
    MCalls Try.prog 60 [(1000, .arr 3 1 (idx l))] [(1000, .arr 3 1 (idx (sortN lt l)))] [.os 1000 0 1 0 l.length, .r (i64 l.length), .r (.fn f caps)] (.tu []) := by
  refine mcalls_st (n := 63) (rs := []) _ _ [] Try.func60 rfl (by kernel_rfl) Try.ntmps60 rfl (by simp) rfl rfl fun C => ?_
  repeat refine awp_seq ?_
  refine awp_reg (by kernel_rfl) fun K hK => ?_
  simp only [go_sem]
  (try simp (disch := omega) only [wrapI])
  repeat first | intro _ | refine ⟨(by omega), ?_⟩ | refine ⟨⟨by omega, by omega⟩, ?_⟩
  refine hK _ ?_
  clear hK K
  repeat refine awp_seq ?_
  refine awp_reg (by kernel_rfl) fun K hK => ?_
  simp only [go_sem]
  (try simp (disch := omega) only [wrapI])
  repeat first | intro _ | refine ⟨(by omega), ?_⟩ | refine ⟨⟨by omega, by omega⟩, ?_⟩
  refine hK _ ?_
  clear hK K
  refine awp_sub (sub_keep [0, 1, 2, 6, 7, 8]) ?_
  simp only [go_sem]
  repeat refine awp_seq ?_
  refine awp_block ?_
  refine awp_upto0 (n := 63) 0 (fun i vs => [(0, .os 1000 0 1 0 l.length), (1, .r (i64 l.length)), (2, .r (.fn f caps)), (6, .r (i64 20)), (7, .r (i64 0)), (8, .r (i64 20))])
    (fun i => [(1000, .arr 3 1 (idx l))]) (fun i => True) 0 (fit0_of [] lent_zero ?_ ?_) (Nat.zero_le _) trivial ?_
  · try simp only [go_sem]
  · try simp only [go_sem]
  intro i vs hv _ _
  have hv0 := hv 1000 (by omega)
  repeat refine awp_seq ?_
  refine awp_reg (by kernel_rfl) fun K hK => ?_
  simp only [go_sem]
  (try simp (disch := omega) only [wrapI])
  repeat first | intro _ | refine ⟨(by omega), ?_⟩ | refine ⟨⟨by omega, by omega⟩, ?_⟩
  refine hK _ ?_
  clear hK K
  repeat refine awp_seq ?_
  refine awp_cond rfl (fun hc => ?_) (fun hc => ?_) <;> (try simp only [go_sem] at hc)
  · omega
  refine awp_exit ?_
  simp only [go_sem]
  repeat refine awp_seq ?_
  refine awp_reg (by kernel_rfl) fun K hK => ?_
  simp only [go_sem]
  (try simp (disch := omega) only [wrapI])
  refine xcall_mut (insertion_ok lt c f caps l (by omega) hlt hcc) [(1000, 1000)] rfl (by simp only [go_sem, i64, ints, hv0]) (by simp only [go_sem, i64, ints, hv0]) (by rfl) (by rfl) ?_
  (try simp only [go_sem, hv0])
  (try simp (disch := omega) only [wrapI])
  repeat first | intro _ | refine ⟨(by omega), ?_⟩ | refine ⟨⟨by omega, by omega⟩, ?_⟩
  refine hK _ ?_
  clear hK K
  try simp only [go_sem]
  repeat refine awp_seq ?_
  refine awp_block ?_
  refine awp_upto0 (n := 63) 0 (fun i vs => [(1, .r (i64 l.length)), (6, .r (i64 20))])
    (fun i => [(1000, .arr 3 1 (idx (sortN lt l)))]) (fun i => True) 0 (fit0_of [] hv ?_ ?_) (Nat.zero_le _) trivial ?_
  · try simp only [go_sem]
  · try simp only [go_sem]
  intro i vs hv _ _
  repeat refine awp_seq ?_
  refine awp_reg (by kernel_rfl) fun K hK => ?_
  simp only [go_sem]
  (try simp (disch := omega) only [wrapI])
  repeat first | intro _ | refine ⟨(by omega), ?_⟩ | refine ⟨⟨by omega, by omega⟩, ?_⟩
  refine hK _ ?_
  clear hK K
  repeat refine awp_seq ?_
  refine awp_cond rfl (fun hc => ?_) (fun hc => ?_) <;> (try simp only [go_sem] at hc)
  · omega
  refine awp_exit ?_
  simp only [go_sem]
theorem sortStable_ok (lt : Nat → Nat → Bool) (c : Nat → Nat → Int) (f : Nat) (caps : List RV) (l : List Nat) (hl : l.length ≤ 19) (hlt : ∀ x y, lt x y = decide (c x y < 0))
    (hcc : ∀ x ∈ l, ∀ y ∈ l, ACalls Try.prog f (i64 (x : Int) :: i64 (y : Int) :: caps) (i64 (c x y))) :
    MCalls Try.prog 32 [(1000, .arr 3 1 (idx l))] [(1000, .arr 3 1 (idx (sortN lt l)))] [.os 1000 0 1 0 l.length, .r (.fn f caps)] (.tu []) := by
  refine mcalls_st (n := 9) (rs := []) _ _ [] Try.func32 rfl (by kernel_rfl) Try.ntmps32 rfl (by simp) rfl rfl fun C => ?_
  repeat refine awp_seq ?_
  refine awp_reg (by kernel_rfl) fun K hK => ?_
  simp only [go_sem]
  (try simp (disch := omega) only [wrapI])
  intro _
  refine xcall_mut (stable_ok lt c f caps l (by omega) hlt hcc) [(1000, 1000)] rfl (by simp only [go_sem, i64, ints]) (by simp only [go_sem, i64, ints]) (by rfl) (by rfl) ?_
  (try simp only [go_sem])
  (try simp (disch := omega) only [wrapI])
  repeat first | intro _ | refine ⟨(by omega), ?_⟩ | refine ⟨⟨by omega, by omega⟩, ?_⟩
  refine hK _ ?_
  clear hK K
  try simp only [go_sem]
theorem mem_sortN {lt : Nat → Nat → Bool} {l : List Nat} {z : Nat} : z ∈ sortN lt l ↔ z ∈ l := by
  unfold sortN
  rw [List.mem_reverse, mem_sortB]
  simp
theorem sortN_len (lt : Nat → Nat → Bool) (l : List Nat) : (sortN lt l).length = l.length := by
  unfold sortN
  rw [List.length_reverse, sortB_len]
  simp
theorem rep_at {g : List (List RV)} {z : List RV} {n i : Nat} (hg : g.length = i) (hi : i < n) : (g ++ List.replicate (n - i) z).getD i [] = z := by
  rw [List.getD_eq_getElem?_getD, List.getElem?_append_right (by omega), hg, Nat.sub_self, List.getElem?_replicate, if_pos (by omega)]
  rfl
theorem rep_len {g : List (List RV)} {z : List RV} {n i : Nat} (hg : g.length = i) (hi : i < n) : (g ++ List.replicate (n - i) z).length = n := by simp; omega
theorem rep_set {g : List (List RV)} {z v : List RV} {n i : Nat} (hg : g.length = i) (hi : i < n) : (g ++ List.replicate (n - i) z).set i v = (g ++ [v]) ++ List.replicate (n - (i + 1)) z := by
  rw [List.set_append_right _ _ (by omega), hg, Nat.sub_self]
  have : n - i = (n - (i + 1)) + 1 := by omega
  rw [this, List.replicate_succ, List.set_cons_zero]
  simp
theorem relV_unmap {w : World} {p : Plan} {ver : Nat → Nat} : ∀ {xs : List RV} {vs : List Value}, AV.relV w p ver (xs.map .r) vs → RV.relV w p.R xs vs
  | [], _, h => by simpa only [List.map_nil, AV.relV, RV.relV] using h
  | x :: xs, vs, h => by
    simp only [List.map_cons, AV.relV, AV.rel] at h
    simp only [RV.relV]
    obtain ⟨u, us, h1, h2, h3⟩ := h
    exact ⟨u, us, h1, h2, relV_unmap h3⟩
theorem mcalls_fn {F : Nat} {L L' : List (Nat × RowC)} {x r : AV} {f : Nat} {caps : List RV} (h : MCalls Try.prog F L L' [x, .r (.fn f caps)] r) : MCalls Try.prog F L L' [x, .fn f (caps.map .r)] r :=
  ⟨h.1, fun w p vs h1 h2 h3 h4 h5 h6 hV => h.2 w p vs h1 h2 h3 h4 h5 h6 (by
    simp only [AV.relV] at hV ⊢
    obtain ⟨u, us, e1, k1, u', us', e2, k2, e3⟩ := hV
    refine ⟨u, us, e1, k1, u', us', e2, ?_, e3⟩
    simp only [AV.rel, RV.rel] at k2 ⊢
    obtain ⟨ws, k3, k4⟩ := k2
    exact ⟨ws, k3, relV_unmap k4⟩)⟩
end Go.Proofs.Ytaniakoadbkadaa

/- Shares: what is left over goes to the greatest remainders. -/
namespace Go.Proofs.Ytaniakoadbkadaa
open Go Go.Oc
set_option linter.unusedVariables false
def ltS (m s : Int) (ws : List Int) (x y : Nat) : Bool := decide (m * (ws[y]?).getD 0 % s - m * (ws[x]?).getD 0 % s < 0)
def bump : List Int → List Nat → List Int
  | p, [] => p
  | p, i :: is => bump (p.set i ((p[i]?).getD 0 + 1)) is
def partsS (m s : Int) (ws : List Int) : List Int := ws.map fun w => m * w / s
def shareL (m : Int) (ws : List Int) : List Int :=
  bump (partsS m ws.sum ws) ((sortN (ltS m ws.sum ws) (List.range ws.length)).take (m - (partsS m ws.sum ws).sum).toNat)
theorem bump_snoc : ∀ (is : List Nat) (p : List Int) (i : Nat), bump p (is ++ [i]) = (bump p is).set i (((bump p is)[i]?).getD 0 + 1)
  | [], _, _ => rfl
  | j :: is, p, i => by simp only [List.cons_append, bump]; exact bump_snoc is _ i
theorem bump_len : ∀ (is : List Nat) (p : List Int), (bump p is).length = p.length
  | [], _ => rfl
  | j :: is, p => by simp only [bump]; rw [bump_len is]; simp
/-- What the parts lack is at most one for each weight. -/
theorem parts_near {m s : Int} (hs : 0 < s) (hm : 0 ≤ m) : ∀ (ws : List Int), (∀ w ∈ ws, 0 ≤ w) → s * (partsS m s ws).sum ≤ m * ws.sum ∧ m * ws.sum ≤ s * (partsS m s ws).sum + s * (ws.length : Int) ∧ 0 ≤ (partsS m s ws).sum
  | [], _ => by simp [partsS]
  | w :: ws, h => by
    obtain ⟨h1, h2, h3⟩ := parts_near hs hm ws fun x hx => h x (by simp [hx])
    have e := Int.emod_add_mul_ediv (m * w) s
    have r1 := Int.emod_nonneg (m * w) (show s ≠ 0 by omega)
    have r2 := Int.emod_lt_of_pos (m * w) hs
    have p1 : 0 ≤ m * w / s := Int.ediv_nonneg (Int.mul_nonneg hm (h w (by simp))) (by omega)
    simp only [partsS, List.map_cons, List.sum_cons, List.length_cons, Int.natCast_add, Int.mul_add] at h1 h2 h3 ⊢
    omega
theorem parts_lack {m : Int} {ws : List Int} (hs : 0 < ws.sum) (hm : 0 ≤ m) (h : ∀ w ∈ ws, 0 ≤ w) : 0 ≤ (partsS m ws.sum ws).sum ∧ (partsS m ws.sum ws).sum ≤ m ∧ m ≤ (partsS m ws.sum ws).sum + (ws.length : Int) := by
  obtain ⟨h1, h2, h3⟩ := parts_near hs hm ws h
  refine ⟨h3, ?_, ?_⟩
  · rw [Int.mul_comm m] at h1
    exact Int.le_of_mul_le_mul_left h1 hs
  · rw [Int.mul_comm m, ← Int.mul_add] at h2
    exact Int.le_of_mul_le_mul_left h2 hs
theorem sort2 (lt : Nat → Nat → Bool) : sortN lt (List.range 2) = if lt 1 0 = true then [1, 0] else [0, 1] := by
  have : List.range 2 = [0, 1] := rfl
  rw [this]
  simp only [sortN, sortB, insB]
  split <;> rfl
/-- Two weights. -/
theorem share2 {m p q : Int} (hm : 0 ≤ m) (hp : 0 ≤ p) (hq : 0 ≤ q) (hs : 0 < p + q) :
    ∃ a b, shareL m [p, q] = [a, b] ∧ a + b = m ∧ (q < p → b ≤ a) ∧ (p < q → a ≤ b) ∧ (p = q → a - b = m % 2) ∧ (p = 0 → a = 0) := by
  have e1 := Int.emod_add_mul_ediv (m * p) (p + q)
  have e2 := Int.emod_add_mul_ediv (m * q) (p + q)
  have r1 := Int.emod_nonneg (m * p) (show p + q ≠ 0 by omega)
  have r2 := Int.emod_lt_of_pos (m * p) hs
  have r3 := Int.emod_nonneg (m * q) (show p + q ≠ 0 by omega)
  have r4 := Int.emod_lt_of_pos (m * q) hs
  have hsum : [p, q].sum = p + q := by simp
  have hps : partsS m (p + q) [p, q] = [m * p / (p + q), m * q / (p + q)] := rfl
  have hlt : ltS m (p + q) [p, q] 1 0 = decide (m * p % (p + q) - m * q % (p + q) < 0) := rfl
  have hlen : [p, q].length = 2 := rfl
  unfold shareL
  rw [hsum, hps, hlen, sort2, hlt]
  have hz : p = 0 → m * p / (p + q) = 0 ∧ m * p % (p + q) = 0 := fun h => by subst h; simp
  have heq : p = q → m * p / (p + q) = m * q / (p + q) ∧ m * p % (p + q) = m * q % (p + q) := fun h => by subst h; exact ⟨rfl, rfl⟩
  have hmd : m * (p + q) = m * p + m * q := Int.mul_add _ _ _
  have hle : q ≤ p → m * q ≤ m * p := fun h => Int.mul_le_mul_of_nonneg_left h hm
  have hle' : p ≤ q → m * p ≤ m * q := fun h => Int.mul_le_mul_of_nonneg_left h hm
  have hd1 : q ≤ p → m * q / (p + q) ≤ m * p / (p + q) := fun h => Int.ediv_le_ediv hs (hle h)
  have hd2 : p ≤ q → m * p / (p + q) ≤ m * q / (p + q) := fun h => Int.ediv_le_ediv hs (hle' h)
  generalize hA : m * p / (p + q) = A at *
  generalize hB : m * q / (p + q) = B at *
  generalize hR : m * p % (p + q) = R at *
  generalize hS : m * q % (p + q) = S at *
  have hAB : [A, B].sum = A + B := by simp
  rw [hAB]
  have key : (p + q) * (m - (A + B)) = R + S := by
    rw [Int.mul_sub, Int.mul_add, Int.mul_comm (p + q) m]
    omega
  have hab0 : A = B → R - S = m * p - m * q := fun h => by subst h; omega
  have hd : m - (A + B) = 0 ∨ m - (A + B) = 1 := by
    by_cases h0 : m - (A + B) < 0
    · have := Int.mul_le_mul_of_nonneg_left (show m - (A + B) ≤ -1 by omega) (show 0 ≤ p + q by omega)
      omega
    · by_cases h2 : 2 ≤ m - (A + B)
      · have := Int.mul_le_mul_of_nonneg_left h2 (show 0 ≤ p + q by omega)
        omega
      · omega
  rcases hd with hd | hd
  · rw [hd]
    refine ⟨A, B, by simp [bump], by omega, fun h => hd1 (by omega), fun h => hd2 (by omega), fun h => ?_, fun h => (hz h).1⟩
    have := (heq h).1
    omega
  · rw [hd]
    rw [hd] at key
    by_cases hc : R - S < 0
    · refine ⟨A, B + 1, by simp [hc, bump], by omega, fun h => ?_, fun h => ?_, fun h => ?_, fun h => (hz h).1⟩
      · have h1 := hd1 (by omega)
        have h2 := hle (by omega)
        by_cases e : A = B
        · have := hab0 e; omega
        · omega
      · have := hd2 (by omega); omega
      · have := (heq h).2; omega
    · refine ⟨A + 1, B, by simp [hc, bump], by omega, fun h => ?_, fun h => ?_, fun h => ?_, fun h => ?_⟩
      · have := hd1 (by omega); omega
      · have h1 := hd2 (by omega)
        have h2 := hle' (by omega)
        by_cases e : A = B
        · have h3 := hab0 e
          have h4 : m * q = m * p := by omega
          have h5 : m * (q - p) = 0 := by rw [Int.mul_sub]; omega
          rcases Int.mul_eq_zero.1 h5 with h6 | h6
          · subst h6
            simp at hA hB
            omega
          · omega
        · omega
      · have := (heq h).1; omega
      · have := (hz h).2; omega
end Go.Proofs.Ytaniakoadbkadaa

/- What Share returns, by the program. -/
namespace Go.Proofs.Ytaniakoadbkadaa
open Go Go.Oc
set_option linter.unusedSimpArgs false
set_option linter.unusedVariables false
set_option maxRecDepth 8000
theorem pWithin1_ok (n a b : Int) : ACalls Try.prog 54 [i64 n, .rp [i64 a], .rp [i64 b]] (.bo (decide (n < a) || decide (b < n))) := by
  refine acalls_st (rs := [.bo (decide (n < a) || decide (b < n))]) [.tmp 4] Try.func54 rfl (by kernel_rfl) Try.ntmps54 rfl (by simp) rfl fun C vs => ?_
  repeat refine awp_seq ?_
  refine awp_reg (by kernel_rfl) fun K hK => ?_
  simp only [go_sem]
  (try simp (disch := omega) only [wrapI])
  repeat first | intro _ | refine ⟨(by omega), ?_⟩ | refine ⟨⟨by omega, by omega⟩, ?_⟩
  refine hK _ ?_
  clear hK K
  repeat refine awp_seq ?_
  refine awp_reg (by kernel_rfl) fun K hK => ?_
  simp only [go_sem]
  (try simp (disch := omega) only [wrapI])
  refine ⟨fun h => ?_, fun h => ?_⟩ <;>
  · repeat first | intro _ | refine ⟨(by omega), ?_⟩ | refine ⟨⟨by omega, by omega⟩, ?_⟩
    refine hK _ ?_
    clear hK K
    refine awp_ret ?_
    simp only [go_sem]
    try simp [h]
theorem pWithin_ok (a b : Int) (l : List Int) : ACalls Try.prog 27 [i64 a, i64 b, ints l] (.bo (withinL a b l)) := by
  refine acalls_st (rs := [.bo (withinL a b l)]) [.tmp 6] Try.func27 rfl (by kernel_rfl) Try.ntmps27 rfl (by simp) rfl fun C vs => ?_
  repeat refine awp_seq ?_
  refine awp_reg (by kernel_rfl) fun K hK => ?_
  simp only [go_sem]
  (try simp (disch := omega) only [wrapI])
  repeat first | intro _ | refine ⟨(by omega), ?_⟩ | refine ⟨⟨by omega, by omega⟩, ?_⟩
  refine hK _ ?_
  clear hK K
  repeat refine awp_seq ?_
  refine awp_reg (by kernel_rfl) fun K hK => ?_
  simp only [go_sem]
  (try simp (disch := omega) only [wrapI])
  refine xcall_eq (contains_ok (fun n => decide (n < a) || decide (b < n)) 54 [.rp [i64 a], .rp [i64 b]] l fun x _ => pWithin1_ok x a b) rfl (by simp only [go_sem, i64, ints]) (by simp only [go_sem, i64, ints]) (by first | exact .inl rfl | exact .inr rfl) ?_
  (try simp only [go_sem])
  (try simp (disch := omega) only [wrapI])
  repeat first | intro _ | refine ⟨(by omega), ?_⟩ | refine ⟨⟨by omega, by omega⟩, ?_⟩
  refine hK _ ?_
  clear hK K
  refine awp_ret ?_
  simp only [go_sem]
  rw [← withinL_not]
theorem psum_le (b : Int) : ∀ (l : List Int), (∀ x ∈ l, 0 ≤ x ∧ x ≤ b) → 0 ≤ l.sum ∧ l.sum ≤ b * l.length
  | [], _ => by simp
  | x :: l, h => by
    have ih := psum_le b l fun y hy => h y (by simp [hy])
    have h1 := h x (by simp)
    simp only [List.sum_cons, List.length_cons]
    have : b * ((l.length + 1 : Nat) : Int) = b * l.length + b := by rw [Int.natCast_add, Int.mul_add]; simp
    omega
theorem ptotal_ok (l : List Int) (hl : l.length ≤ 1000) (h : ∀ x ∈ l, 0 ≤ x ∧ x ≤ 100000000000000) : ACalls Try.prog 28 [ints l] (i64 l.sum) := by
  refine acalls_st (rs := [i64 l.sum]) [.tmp 2] Try.func28 rfl (by kernel_rfl) Try.ntmps28 rfl (by simp) rfl fun C vs => ?_
  repeat refine awp_seq ?_
  refine awp_reg (by kernel_rfl) fun K hK => ?_
  simp only [go_sem]
  (try simp (disch := omega) only [wrapI])
  repeat first | intro _ | refine ⟨(by omega), ?_⟩ | refine ⟨⟨by omega, by omega⟩, ?_⟩
  refine hK _ ?_
  clear hK K
  repeat refine awp_seq ?_
  refine awp_reg (by kernel_rfl) fun K hK => ?_
  simp only [go_sem]
  (try simp (disch := omega) only [wrapI])
  intro _
  repeat first | intro _ | refine ⟨(by omega), ?_⟩ | refine ⟨⟨by omega, by omega⟩, ?_⟩
  refine hK _ ?_
  clear hK K
  repeat refine awp_seq ?_
  refine awp_block ?_
  refine awp_upto (n := 16) l.length (fun i vs => [(5, .r (ints l)), (6, .r (i64 l.length)), (7, .r (i64 i)), (2, .r (i64 (l.take i).sum))]) (fun _ => [])
    (fun i => True) 0 (fit_of [] ?_ rfl) (Nat.zero_le _) trivial ?_
  · try simp only [go_sem]
    simp
  · intro i vs hi _
    repeat refine awp_seq ?_
    refine awp_reg (by kernel_rfl) fun K hK => ?_
    simp only [go_sem]
    (try simp (disch := omega) only [wrapI])
    repeat first | intro _ | refine ⟨(by omega), ?_⟩ | refine ⟨⟨by omega, by omega⟩, ?_⟩
    refine hK _ ?_
    clear hK K
    repeat refine awp_seq ?_
    refine awp_cond rfl (fun hc => ?_) (fun hc => ?_) <;> (try simp only [go_sem] at hc)
    · obtain ⟨x, hx⟩ := opt_of_lt hc
      have hx1 := h x (mem_of_opt hx)
      have hs := psum_le 100000000000000 (l.take i) fun y hy => h y (List.mem_of_mem_take hy)
      simp only [List.length_take] at hs
      have hsn : (l.take (i + 1)).sum = (l.take i).sum + x := by rw [take_of_opt hx]; simp
      refine awp_skip ?_
      repeat refine awp_seq ?_
      refine awp_block ?_
      repeat refine awp_seq ?_
      refine awp_reg (by kernel_rfl) fun K hK => ?_
      simp only [go_sem, hx, hc]
      (try simp (disch := omega) only [wrapI])
      repeat first | intro _ | refine ⟨(by omega), ?_⟩ | refine ⟨⟨by omega, by omega⟩, ?_⟩
      refine hK _ ?_
      clear hK K
      repeat refine awp_seq ?_
      refine awp_reg (by kernel_rfl) fun K hK => ?_
      simp only [go_sem]
      (try simp (disch := omega) only [wrapI])
      repeat first | intro _ | refine ⟨(by omega), ?_⟩ | refine ⟨⟨by omega, by omega⟩, ?_⟩
      refine hK _ ?_
      clear hK K
      try simp only [go_sem]
      repeat refine awp_seq ?_
      refine awp_reg (by kernel_rfl) fun K hK => ?_
      simp only [go_sem]
      (try simp (disch := omega) only [wrapI])
      repeat first | intro _ | refine ⟨(by omega), ?_⟩ | refine ⟨⟨by omega, by omega⟩, ?_⟩
      refine hK _ ?_
      clear hK K
      try simp only [go_sem]
      refine ⟨hc, fit_of [] ?_ rfl⟩
      try simp only [go_sem]
      omega
    · refine awp_exit ?_
      simp only [go_sem]
      repeat refine awp_seq ?_
      refine awp_reg (by kernel_rfl) fun K hK => ?_
      simp only [go_sem]
      (try simp (disch := omega) only [wrapI])
      repeat first | intro _ | refine ⟨(by omega), ?_⟩ | refine ⟨⟨by omega, by omega⟩, ?_⟩
      refine hK _ ?_
      clear hK K
      refine awp_ret ?_
      simp only [go_sem]
      rw [List.take_of_length_le (by omega)]
def cS (m s : Int) (ws : List Int) (x y : Nat) : Int := m * (ws[y]?).getD 0 % s - m * (ws[x]?).getD 0 % s
theorem mul_w {m w : Int} (hm : 0 ≤ m ∧ m ≤ 1000000000) (hw : 0 ≤ w ∧ w ≤ 10000) : 0 ≤ m * w ∧ m * w ≤ 10000000000000 := by
  refine ⟨Int.mul_nonneg hm.1 hw.1, ?_⟩
  have := Int.mul_le_mul hm.2 hw.2 hw.1 (by omega)
  omega
theorem share1_ok (m s : Int) (ws : List Int) (a b : Nat) (hm : 0 ≤ m ∧ m ≤ 1000000000) (hw : ∀ w ∈ ws, 0 ≤ w ∧ w ≤ 10000) (hs : 0 < s ∧ s ≤ 10000000) (ha : a < ws.length) (hb : b < ws.length) :
    ACalls Try.prog 33 [i64 a, i64 b, .rp [i64 m], .rp [ints ws], .rp [i64 s]] (i64 (cS m s ws a b)) := by
  obtain ⟨x, hx⟩ := opt_of_lt ha
  obtain ⟨y, hy⟩ := opt_of_lt hb
  have hx1 := mul_w hm (hw x (mem_of_opt hx))
  have hy1 := mul_w hm (hw y (mem_of_opt hy))
  have r1 := Int.emod_nonneg (m * x) (show s ≠ 0 by omega)
  have r2 := Int.emod_lt_of_pos (m * x) hs.1
  have r3 := Int.emod_nonneg (m * y) (show s ≠ 0 by omega)
  have r4 := Int.emod_lt_of_pos (m * y) hs.1
  have t1 : Int.tmod (m * x) s = m * x % s := Int.tmod_eq_emod_of_nonneg hx1.1
  have t2 : Int.tmod (m * y) s = m * y % s := Int.tmod_eq_emod_of_nonneg hy1.1
  refine acalls_st (rs := [i64 (cS m s ws a b)]) [.tmp 7] Try.func33 rfl (by kernel_rfl) Try.ntmps33 rfl (by simp) rfl fun C vs => ?_
  repeat refine awp_seq ?_
  refine awp_reg (by kernel_rfl) fun K hK => ?_
  simp only [go_sem]
  (try simp (disch := omega) only [wrapI])
  repeat first | intro _ | refine ⟨(by omega), ?_⟩ | refine ⟨⟨by omega, by omega⟩, ?_⟩
  refine hK _ ?_
  clear hK K
  repeat refine awp_seq ?_
  refine awp_dreg follows (by decide +kernel) (by kernel_rfl) fun K hK => ?_
  simp only [go_sem, hx, hy, ha, hb, t1, t2]
  (try simp (disch := omega) only [wrapI])
  repeat first | intro _ | refine ⟨(by omega), ?_⟩ | refine ⟨⟨by omega, by omega⟩, ?_⟩
  refine hK _ ?_
  clear hK K
  refine awp_ret ?_
  simp only [go_sem]
  simp [cS, hx, hy, t1, t2]
theorem bump_le (b : Int) : ∀ (is : List Nat) (c : Int) (p : List Int), (∀ x ∈ p, 0 ≤ x ∧ x ≤ c) → 0 ≤ c → (c + is.length ≤ b) → ∀ x ∈ bump p is, 0 ≤ x ∧ x ≤ b
  | [], c, p, h, _, hb => fun x hx => by
    have := h x hx
    simp at hb
    omega
  | i :: is, c, p, h, hc, hb => by
    simp only [List.length_cons] at hb
    simp only [bump]
    refine bump_le b is (c + 1) _ (fun x hx => ?_) (by omega) (by omega)
    rcases List.mem_or_eq_of_mem_set hx with h1 | h1
    · have := h x h1; omega
    · subst h1
      cases hp : p[i]? with
      | none => simp; omega
      | some y => have := h y (mem_of_opt hp); simp; omega
theorem share_ok (m : Int) (ws : List Int) (hm : 0 ≤ m ∧ m ≤ 1000000000) (hl : 1 ≤ ws.length ∧ ws.length ≤ 19) (hw : ∀ w ∈ ws, 0 ≤ w ∧ w ≤ 10000) (hs : 0 < ws.sum) :
    ACalls Try.prog 16 [i64 m, ints ws] (.tu [ints (shareL m ws), i64 0]) := by
  have hsum := psum_le 10000 ws hw
  have hs2 : ws.sum ≤ 10000000 := by omega
  have w1 : withinL 0 1000000000 [m] = true := by simp [withinL]; omega
  have w2 : withinL 1 60 [(ws.length : Int)] = true := by simp [withinL]; omega
  have w3 : withinL 0 10000 ws = true := by
    unfold withinL
    rw [List.all_eq_true]
    intro x hx
    have := hw x hx
    simp; omega
  obtain ⟨q1, q2, q3⟩ := parts_lack hs hm.1 fun w h => (hw w h).1
  refine acalls_st (rs := [ints (shareL m ws), i64 0]) [.tmp 4, .tmp 5] Try.func16 rfl (by kernel_rfl) Try.ntmps16 rfl (by simp) rfl fun C vs => ?_
  repeat refine awp_seq ?_
  refine awp_reg (by kernel_rfl) fun K hK => ?_
  simp only [go_sem]
  (try simp (disch := omega) only [wrapI])
  repeat first | intro _ | refine ⟨(by omega), ?_⟩ | refine ⟨⟨by omega, by omega⟩, ?_⟩
  refine hK _ ?_
  clear hK K
  refine awp_sub (sub_frzP 2 2 [i64 m] (by omega) rfl rfl) ?_
  refine awp_sub (sub_frzP 3 3 [ints ws] (by omega) rfl rfl) ?_
  refine awp_sub (sub_keep [2, 3, 4]) ?_
  simp only [go_sem]
  repeat refine awp_seq ?_
  refine awp_reg (by kernel_rfl) fun K hK => ?_
  simp only [go_sem]
  (try simp (disch := omega) only [wrapI])
  refine xcall_eq (ptotal_ok ws (by omega) (fun x hx => by have := hw x hx; omega)) rfl (by simp only [go_sem, i64, ints]) (by simp only [go_sem, i64, ints]) (by first | exact .inl rfl | exact .inr rfl) ?_
  (try simp only [go_sem])
  (try simp (disch := omega) only [wrapI])
  repeat first | intro _ | refine ⟨(by omega), ?_⟩ | refine ⟨⟨by omega, by omega⟩, ?_⟩
  refine hK _ ?_
  clear hK K
  refine awp_sub (sub_frzP 6 6 [i64 ws.sum] (by omega) rfl rfl) ?_
  refine awp_sub (sub_keep [2, 3, 4, 6]) ?_
  simp only [go_sem]
  repeat refine awp_seq ?_
  refine awp_block ?_
  repeat refine awp_seq ?_
  refine awp_reg (by kernel_rfl) fun K hK => ?_
  simp only [go_sem]
  (try simp (disch := omega) only [wrapI])
  refine xcall_eq (pWithin_ok 0 1000000000 [m]) rfl (by simp only [go_sem, i64, ints]) (by simp only [go_sem, i64, ints]) (by first | exact .inl rfl | exact .inr rfl) ?_
  (try simp only [go_sem])
  (try simp (disch := omega) only [wrapI])
  repeat first | intro _ | refine ⟨(by omega), ?_⟩ | refine ⟨⟨by omega, by omega⟩, ?_⟩
  refine hK _ ?_
  clear hK K
  rw [w1]
  repeat refine awp_seq ?_
  refine awp_cond rfl (fun hc => ?_) (fun hc => ?_) <;> (try simp only [go_sem] at hc)
  repeat refine awp_seq ?_
  refine awp_reg (by kernel_rfl) fun K hK => ?_
  simp only [go_sem]
  (try simp (disch := omega) only [wrapI])
  intro _
  refine xcall_eq (pWithin_ok 1 60 [(ws.length : Int)]) rfl (by simp only [go_sem, i64, ints]) (by simp only [go_sem, i64, ints]) (by first | exact .inl rfl | exact .inr rfl) ?_
  (try simp only [go_sem])
  (try simp (disch := omega) only [wrapI])
  repeat first | intro _ | refine ⟨(by omega), ?_⟩ | refine ⟨⟨by omega, by omega⟩, ?_⟩
  refine hK _ ?_
  clear hK K
  rw [w2]
  repeat refine awp_seq ?_
  refine awp_cond rfl (fun hc => ?_) (fun hc => ?_) <;> (try simp only [go_sem] at hc)
  repeat refine awp_seq ?_
  refine awp_reg (by kernel_rfl) fun K hK => ?_
  simp only [go_sem]
  (try simp (disch := omega) only [wrapI])
  refine xcall_eq (pWithin_ok 0 10000 ws) rfl (by simp only [go_sem, i64, ints]) (by simp only [go_sem, i64, ints]) (by first | exact .inl rfl | exact .inr rfl) ?_
  (try simp only [go_sem])
  (try simp (disch := omega) only [wrapI])
  repeat first | intro _ | refine ⟨(by omega), ?_⟩ | refine ⟨⟨by omega, by omega⟩, ?_⟩
  refine hK _ ?_
  clear hK K
  rw [w3]
  repeat refine awp_seq ?_
  refine awp_cond rfl (fun hc => ?_) (fun hc => ?_) <;> (try simp only [go_sem] at hc)
  repeat refine awp_seq ?_
  refine awp_reg (by kernel_rfl) fun K hK => ?_
  simp only [go_sem]
  (try simp (disch := omega) only [wrapI])
  repeat first | intro _ | refine ⟨(by omega), ?_⟩ | refine ⟨⟨by omega, by omega⟩, ?_⟩
  refine hK _ ?_
  clear hK K
  have z0 : (ws.sum == 0) = false := by simp; omega
  rw [z0]
  repeat refine awp_seq ?_
  refine awp_cond rfl (fun hc => ?_) (fun hc => ?_) <;> (try simp only [go_sem] at hc)
  refine awp_skip ?_
  try simp only [go_sem]
  repeat refine awp_seq ?_
  refine awp_reg (by kernel_rfl) fun K hK => ?_
  simp only [go_sem]
  (try simp (disch := omega) only [wrapI])
  repeat first | intro _ | refine ⟨(by omega), ?_⟩ | refine ⟨⟨by omega, by omega⟩, ?_⟩
  refine hK _ ?_
  clear hK K
  refine awp_sub (sub_keep [2, 3, 4, 6, 7]) ?_
  simp only [go_sem]
  repeat refine awp_seq ?_
  refine awp_reg (by kernel_rfl) fun K hK => ?_
  simp only [go_sem]
  (try simp (disch := omega) only [wrapI])
  intro _
  repeat first | intro _ | refine ⟨(by omega), ?_⟩ | refine ⟨⟨by omega, by omega⟩, ?_⟩
  refine hK _ ?_
  clear hK K
  refine awp_sub (sub_keep [2, 3, 4, 6, 7, 31, 32, 33]) ?_
  simp only [go_sem]
  repeat refine awp_seq ?_
  refine awp_block ?_
  have hP : ∀ i ≤ ws.length, (partsS m ws.sum (ws.take i)).length = i := fun i hi => by simp [partsS]; omega
  refine awp_sub (sub_own 4 45 3 1 (by omega) rfl) ?_
  refine awp_sub (sub_own 7 49 3 1 (by omega) rfl) ?_
  refine awp_upto (n := 73) ws.length (fun i vs => [(2, .r (.rp [i64 m])), (3, .r (.rp [ints ws])), (4, .os 45 (vs 45) 1 0 i), (6, .r (.rp [i64 ws.sum])), (7, .os 49 (vs 49) 1 0 i), (31, .r (ints ws)), (32, .r (i64 ws.length)), (33, .r (i64 i))])
    (fun i => [(45, .arr 3 1 ((partsS m ws.sum (ws.take i)).map fun x => [i64 x])), (49, .arr 3 1 (idx (List.range i)))]) (fun _ => True) 0 (fit_of [] ?_ ?_) (Nat.zero_le _) trivial ?_
  · try simp only [go_sem]
  · try simp only [go_sem]
    simp [partsS]
  · intro i vs hi _
    repeat refine awp_seq ?_
    refine awp_reg (by kernel_rfl) fun K hK => ?_
    simp only [go_sem]
    (try simp (disch := omega) only [wrapI])
    repeat first | intro _ | refine ⟨(by omega), ?_⟩ | refine ⟨⟨by omega, by omega⟩, ?_⟩
    refine hK _ ?_
    clear hK K
    repeat refine awp_seq ?_
    refine awp_cond rfl (fun hc => ?_) (fun hc => ?_) <;> (try simp only [go_sem] at hc)
    · have hci := hc
      obtain ⟨x, hx⟩ := opt_of_lt hci
      have hx1 := mul_w hm (hw x (mem_of_opt hx))
      have t1 : Int.tdiv (m * x) ws.sum = m * x / ws.sum := Int.tdiv_eq_ediv_of_nonneg hx1.1
      have p1 : 0 ≤ m * x / ws.sum := Int.ediv_nonneg hx1.1 (by omega)
      have p2 : m * x / ws.sum ≤ m * x := Int.ediv_le_self _ hx1.1
      have hpl := hP i (by omega)
      refine awp_skip ?_
      try simp only [go_sem]
      repeat refine awp_seq ?_
      refine awp_block ?_
      repeat refine awp_seq ?_
      refine awp_reg (by kernel_rfl) fun K hK => ?_
      simp only [go_sem, hx, hci]
      (try simp (disch := omega) only [wrapI])
      repeat first | intro _ | refine ⟨(by omega), ?_⟩ | refine ⟨⟨by omega, by omega⟩, ?_⟩
      refine hK _ ?_
      clear hK K
      refine awp_sub (sub_keep [2, 3, 4, 6, 7, 8, 9, 31, 32, 33]) ?_
      simp only [go_sem]
      repeat refine awp_seq ?_
      refine awp_reg (by kernel_rfl) fun K hK => ?_
      simp only [go_sem, hpl, t1, List.length_range]
      (try simp (disch := omega) only [wrapI])
      repeat first | intro _ | refine ⟨(by omega), ?_⟩ | refine ⟨⟨by omega, by omega⟩, ?_⟩
      refine hK _ ?_
      clear hK K
      refine awp_sub (sub_keep [2, 3, 4, 6, 7, 31, 32, 33]) ?_
      simp only [go_sem]
      repeat refine awp_seq ?_
      refine awp_reg (by kernel_rfl) fun K hK => ?_
      simp only [go_sem]
      (try simp (disch := omega) only [wrapI])
      repeat first | intro _ | refine ⟨(by omega), ?_⟩ | refine ⟨⟨by omega, by omega⟩, ?_⟩
      refine hK _ ?_
      clear hK K
      try simp only [go_sem]
      refine ⟨hci, fit_of [] ?_ ?_⟩
      · try simp only [go_sem]
      · try simp only [go_sem]
        simp [t1, partsS, take_of_opt hx]
    · refine awp_exit ?_
      simp only [go_sem]
      have hii : i = ws.length := by omega
      subst hii
      have e3 : ws.take ws.length = ws := List.take_length
      rw [e3]
      have hpl := hP ws.length (Nat.le_refl _)
      rw [e3] at hpl
      have hsort := sortStable_ok (ltS m ws.sum ws) (cS m ws.sum ws) 33 [.rp [i64 m], .rp [ints ws], .rp [i64 ws.sum]] (List.range ws.length) (by simpa using hl.2) (fun _ _ => rfl) (fun i hi k hk =>
        share1_ok m ws.sum ws i k hm hw ⟨hs, hs2⟩ (List.mem_range.1 hi) (List.mem_range.1 hk))
      rw [List.length_range] at hsort
      repeat refine awp_seq ?_
      refine awp_reg (by kernel_rfl) fun K hK => ?_
      simp only [go_sem]
      (try simp (disch := omega) only [wrapI])
      refine xcall_mut (mcalls_fn hsort) [(1000, 49)] rfl (by simp only [go_sem, i64, ints]) (by simp only [go_sem, i64, ints]) (by rfl) (by rfl) ?_
      (try simp only [go_sem])
      (try simp (disch := omega) only [wrapI])
      repeat first | intro _ | refine ⟨(by omega), ?_⟩ | refine ⟨⟨by omega, by omega⟩, ?_⟩
      refine hK _ ?_
      clear hK K
      refine awp_sub (sub_keep [2, 4, 7]) ?_
      simp only [go_sem]
      obtain ⟨S, hS⟩ : ∃ S, S = sortN (ltS m ws.sum ws) (List.range ws.length) := ⟨_, rfl⟩
      obtain ⟨Q, hQ⟩ : ∃ Q, Q = partsS m ws.sum ws := ⟨_, rfl⟩
      have hSl : S.length = ws.length := by rw [hS, sortN_len, List.length_range]
      have hSm : ∀ i ∈ S, i < ws.length := fun i hi => by rw [hS, mem_sortN, List.mem_range] at hi; exact hi
      have hQb : ∀ x ∈ Q, 0 ≤ x ∧ x ≤ 10000000000000 := fun x hx => by
        rw [hQ] at hx
        obtain ⟨w, hw1, rfl⟩ := List.mem_map.1 hx
        have h1 := mul_w hm (hw w hw1)
        have h2 := Int.ediv_nonneg (b := ws.sum) h1.1 (by omega)
        have h3 := Int.ediv_le_self ws.sum h1.1
        omega
      rw [← hS]
      rw [← hQ] at hpl q1 q2 q3 ⊢
      have tk : ∀ g : Int → List RV, List.take ws.length (Q.map g) = Q.map g := fun g => by rw [← hpl, ← List.length_map (f := g), List.take_length]
      have hle : ws.length ≤ Q.length := by omega
      repeat refine awp_seq ?_
      refine awp_dreg2 [(2, none), (4, some 45), (7, some 49)] follows (by decide +kernel) (by kernel_rfl) (by simp only [keysOk, List.mem_cons, List.not_mem_nil, forall_eq_or_imp, Oc.keyOf, go_sem]; simp) fun K hK => ?_
      simp only [go_sem, hSl]
      (try simp (disch := omega) only [wrapI])
      refine xcall_eq (ptotal_ok Q (by omega) (fun x hx => by have := hQb x hx; omega)) rfl (by simp only [go_sem, i64, ints, tk, hle]) (by simp only [go_sem, i64, ints, tk, hle]) (by first | exact .inl rfl | exact .inr rfl) ?_
      (try simp only [go_sem, tk, hle])
      (try simp (disch := omega) only [wrapI])
      repeat first | intro _ | refine ⟨(by omega), ?_⟩ | refine ⟨⟨by omega, by omega⟩, ?_⟩
      refine hK _ ?_
      clear hK K
      obtain ⟨k, hk⟩ : ∃ k, k = (m - Q.sum).toNat := ⟨_, rfl⟩
      have hkn : k ≤ ws.length := by omega
      rw [← hk]
      refine awp_sub (sub_keep [4, 59, 60, 61]) ?_
      simp only [go_sem]
      repeat refine awp_seq ?_
      refine awp_block ?_
      refine awp_upto (n := 73) k (fun i vs => [(4, .os 45 (vs 45) 1 0 ws.length), (59, .os 49 (vs 49) 1 0 k), (60, .r (i64 k)), (61, .r (i64 i))])
        (fun i => [(45, .arr 3 1 ((bump Q (S.take i)).map fun x => [i64 x])), (49, .arr 3 1 (idx S))]) (fun _ => True) 0 (fit_of [] ?_ ?_) (Nat.zero_le _) trivial ?_
      · try simp only [go_sem]
      · try simp only [go_sem]
        simp [bump]
      · intro q vs hq _
        repeat refine awp_seq ?_
        refine awp_reg (by kernel_rfl) fun K hK => ?_
        simp only [go_sem]
        (try simp (disch := omega) only [wrapI])
        repeat first | intro _ | refine ⟨(by omega), ?_⟩ | refine ⟨⟨by omega, by omega⟩, ?_⟩
        refine hK _ ?_
        clear hK K
        repeat refine awp_seq ?_
        refine awp_cond rfl (fun hc => ?_) (fun hc => ?_) <;> (try simp only [go_sem] at hc)
        · have hci := hc
          obtain ⟨i, hi⟩ := opt_of_lt (l := S) (i := q) (by omega)
          have hil := hSm i (mem_of_opt hi)
          obtain ⟨F, hF⟩ : ∃ F, F = bump Q (S.take q) := ⟨_, rfl⟩
          have hFl : F.length = ws.length := by rw [hF, bump_len, hpl]
          have hFb : ∀ x ∈ F, 0 ≤ x ∧ x ≤ 100000000000000 := by
            rw [hF]
            refine bump_le 100000000000000 _ 10000000000000 Q hQb (by omega) ?_
            rw [List.length_take]
            omega
          obtain ⟨o, ho⟩ := opt_of_lt (l := F) (i := i) (by omega)
          have hob := hFb o (mem_of_opt ho)
          have hnx : bump Q (S.take (q + 1)) = F.set i (o + 1) := by
            rw [take_of_opt hi, bump_snoc, ← hF]
            simp [ho]
          rw [← hF]
          refine awp_skip ?_
          try simp only [go_sem]
          repeat refine awp_seq ?_
          refine awp_block ?_
          repeat refine awp_seq ?_
          refine awp_reg (by kernel_rfl) fun K hK => ?_
          simp only [go_sem, hi, hci]
          (try simp (disch := omega) only [wrapI])
          repeat first | intro _ | refine ⟨(by omega), ?_⟩ | refine ⟨⟨by omega, by omega⟩, ?_⟩
          refine hK _ ?_
          clear hK K
          refine awp_sub (sub_keep [4, 11, 59, 60, 61]) ?_
          simp only [go_sem]
          repeat refine awp_seq ?_
          refine awp_reg (by kernel_rfl) fun K hK => ?_
          simp only [go_sem, ho, hil, hFl]
          (try simp (disch := omega) only [wrapI])
          repeat first | intro _ | refine ⟨(by omega), ?_⟩ | refine ⟨⟨by omega, by omega⟩, ?_⟩
          refine hK _ ?_
          clear hK K
          refine awp_sub (sub_keep [4, 59, 60, 61]) ?_
          simp only [go_sem]
          repeat refine awp_seq ?_
          refine awp_reg (by kernel_rfl) fun K hK => ?_
          simp only [go_sem]
          (try simp (disch := omega) only [wrapI])
          repeat first | intro _ | refine ⟨(by omega), ?_⟩ | refine ⟨⟨by omega, by omega⟩, ?_⟩
          refine hK _ ?_
          clear hK K
          try simp only [go_sem]
          refine ⟨hci, fit_of [] ?_ ?_⟩
          · simp only [go_sem]
          · simp only [go_sem, hnx]
            rw [List.map_set]
        · refine awp_exit ?_
          simp only [go_sem]
          have hqk : q = k := by omega
          subst hqk
          repeat refine awp_seq ?_
          refine awp_reg (by kernel_rfl) fun K hK => ?_
          simp only [go_sem]
          (try simp (disch := omega) only [wrapI])
          repeat first | intro _ | refine ⟨(by omega), ?_⟩ | refine ⟨⟨by omega, by omega⟩, ?_⟩
          refine hK _ ?_
          clear hK K
          refine awp_ret ?_
          simp only [go_sem]
          have hbl : (bump Q (S.take q)).length = ws.length := by rw [bump_len, hpl]
          refine ⟨by omega, ?_⟩
          rw [List.take_of_length_le (by rw [List.length_map]; omega)]
          unfold shareL
          rw [← hS, ← hQ, ← hk]
end Go.Proofs.Ytaniakoadbkadaa

/- What the prize fund pays, by the program. -/
namespace Go.Proofs.Ytaniakoadbkadaa
open Go Go.Oc
set_option linter.unusedSimpArgs false
set_option linter.unusedVariables false
set_option maxRecDepth 8000
abbrev encI (e : Int × Int) : RV × RV := (i64 e.1, i64 e.2)
abbrev encB (p : Int) : RV × RV := (i64 p, .bo true)
def findI (p : Int) : List (Int × Int) → Nat → Option (Nat × Int)
  | [], _ => none
  | e :: l, i => if p = e.1 then some (i, e.2) else findI p l (i + 1)
theorem findK_I (p : Int) : ∀ (M : List (Int × Int)) (i : Nat), findK (i64 p) (M.map encI) i = some ((findI p M i).map fun x => (x.1, i64 x.2))
  | [], i => rfl
  | e :: M, i => by
    simp only [List.map_cons, findK, sameK, if_true, findI]
    by_cases h : p = e.1
    · have : (p == e.1) = true := by simp [h]
      rw [this]; simp [h]
    · have : (p == e.1) = false := by simp [h]
      rw [this, if_neg h]
      exact findK_I p M (i + 1)
theorem findI_fresh {p : Int} : ∀ {M : List (Int × Int)} (i : Nat), p ∉ M.map (·.1) → findI p M i = none
  | [], _, _ => rfl
  | e :: M, i, h => by
    simp only [List.map_cons, List.mem_cons, not_or] at h
    rw [findI, if_neg h.1]
    exact findI_fresh (i + 1) h.2
theorem findK_seen {p : Int} : ∀ {l : List Int} (i : Nat), p ∉ l → findK (i64 p) (l.map encB) i = some none
  | [], _, _ => rfl
  | e :: l, i, h => by
    simp only [List.mem_cons, not_or] at h
    have : (p == e) = false := by simp [h.1]
    simp only [List.map_cons, findK, sameK, if_true, this]
    exact findK_seen (i + 1) h.2
def valM (M : List (Int × Int)) (p : Int) : Int := match findI p M 0 with | some x => x.2 | none => 0
def prz (m : Int) (sh : List Int) (k : Nat) : Int := m * sh.getD k 0 / 1000
theorem prz_le {m : Int} {sh : List Int} (hm : 0 ≤ m ∧ m ≤ 1000000000) (hs : ∀ s ∈ sh, 0 ≤ s ∧ s ≤ 1000) (k : Nat) : 0 ≤ m * sh.getD k 0 ∧ m * sh.getD k 0 ≤ 1000000000000 ∧ 0 ≤ prz m sh k ∧ prz m sh k ≤ 1000000000 := by
  have h : 0 ≤ sh.getD k 0 ∧ sh.getD k 0 ≤ 1000 := by
    rw [List.getD_eq_getElem?_getD]
    cases e : sh[k]? with
    | none => simp
    | some s => exact hs s (mem_of_opt e)
  have h1 := Int.mul_nonneg hm.1 h.1
  have h2 := Int.mul_le_mul hm.2 h.2 h.1 (by omega)
  unfold prz
  omega
theorem prize_ok (m : Int) (sh : List Int) (k : Nat) (mc pc : RV) (hm : 0 ≤ m ∧ m ≤ 1000000000) (hs : ∀ s ∈ sh, 0 ≤ s ∧ s ≤ 1000) : ACalls Try.prog 55 [.rp [i64 m, ints sh, mc, pc], i64 k] (i64 (prz m sh k)) := by
  have hp := prz_le hm hs k
  refine acalls_st (rs := [i64 (prz m sh k)]) [.tmp 4] Try.func55 rfl (by kernel_rfl) Try.ntmps55 rfl (by simp) rfl fun C vs => ?_
  repeat refine awp_seq ?_
  refine awp_reg (by kernel_rfl) fun K hK => ?_
  simp only [go_sem]
  (try simp (disch := omega) only [wrapI])
  repeat first | intro _ | refine ⟨(by omega), ?_⟩ | refine ⟨⟨by omega, by omega⟩, ?_⟩
  refine hK _ ?_
  clear hK K
  refine awp_sub (sub_keep [0, 1]) ?_
  simp only [go_sem]
  repeat refine awp_seq ?_
  refine awp_reg (by kernel_rfl) fun K hK => ?_
  simp only [go_sem]
  (try simp (disch := omega) only [wrapI])
  repeat first | intro _ | refine ⟨(by omega), ?_⟩ | refine ⟨⟨by omega, by omega⟩, ?_⟩
  refine hK _ ?_
  clear hK K
  refine awp_sub (sub_keep [0, 1, 11]) ?_
  simp only [go_sem]
  by_cases hk : sh.length ≤ k
  · have e1 : decide (sh.length ≤ k) = true := by simp; omega
    rw [e1]
    repeat refine awp_seq ?_
    refine awp_cond rfl (fun hc => ?_) (fun hc => ?_) <;> (try simp only [go_sem] at hc)
    repeat refine awp_seq ?_
    refine awp_reg (by kernel_rfl) fun K hK => ?_
    simp only [go_sem]
    (try simp (disch := omega) only [wrapI])
    repeat first | intro _ | refine ⟨(by omega), ?_⟩ | refine ⟨⟨by omega, by omega⟩, ?_⟩
    refine hK _ ?_
    clear hK K
    refine awp_sub (sub_keep [4]) ?_
    simp only [go_sem]
    refine awp_ret ?_
    simp only [go_sem]
    have e2 : sh[k]? = none := List.getElem?_eq_none hk
    simp [prz, List.getD_eq_getElem?_getD, e2]
  · have e1 : decide (sh.length ≤ k) = false := by simp; omega
    rw [e1]
    repeat refine awp_seq ?_
    refine awp_cond rfl (fun hc => ?_) (fun hc => ?_) <;> (try simp only [go_sem] at hc)
    have hk' : k < sh.length := by omega
    obtain ⟨s, hx⟩ := opt_of_lt hk'
    have e2 : sh.getD k 0 = s := by rw [List.getD_eq_getElem?_getD, hx]; rfl
    rw [e2] at hp
    have t1 : Int.tdiv (m * s) 1000 = m * s / 1000 := Int.tdiv_eq_ediv_of_nonneg hp.1
    refine awp_skip ?_
    try simp only [go_sem]
    repeat refine awp_seq ?_
    refine awp_dreg follows (by decide +kernel) (by kernel_rfl) fun K hK => ?_
    simp only [go_sem, hx, hk', t1]
    (try simp (disch := omega) only [wrapI])
    repeat first | intro _ | refine ⟨(by omega), ?_⟩ | refine ⟨⟨by omega, by omega⟩, ?_⟩
    refine hK _ ?_
    clear hK K
    refine awp_sub (sub_keep [4]) ?_
    simp only [go_sem]
    refine awp_ret ?_
    simp only [go_sem]
    simp [prz, hx, t1]
def psumL (m : Int) (sh : List Int) (k n : Nat) : Int := ((List.range n).map fun i => prz m sh (k + i)).sum
theorem psumL_succ (m : Int) (sh : List Int) (k n : Nat) : psumL m sh k (n + 1) = psumL m sh k n + prz m sh (k + n) := by
  simp [psumL, List.range_succ]
theorem psumL_le {m : Int} {sh : List Int} (hm : 0 ≤ m ∧ m ≤ 1000000000) (hs : ∀ s ∈ sh, 0 ≤ s ∧ s ≤ 1000) (k : Nat) : ∀ n : Nat, 0 ≤ psumL m sh k n ∧ psumL m sh k n ≤ 1000000000 * n
  | 0 => by simp [psumL]
  | n + 1 => by
    have ih := psumL_le hm hs k n
    have h := prz_le hm hs (k + n)
    rw [psumL_succ]
    omega
abbrev fundB (m : Int) (sh : List Int) (k : Int) : List AV := [.r (i64 m), .r (ints sh), .mp 1001 0, .r (i64 k)]
def payM (M : List (Int × Int)) (g : List Int) (v : Int) : List (Int × Int) := M ++ g.map fun p => (p, v)
theorem payM_keys (M : List (Int × Int)) (g : List Int) (v : Int) : (payM M g v).map (·.1) = M.map (·.1) ++ g := by
  simp [payM, Function.comp_def]
theorem payM_snoc (M : List (Int × Int)) (g : List Int) (v p : Int) : payM M (g ++ [p]) v = payM M g v ++ [(p, v)] := by simp [payM]
theorem pay_ok (m : Int) (sh : List Int) (k : Nat) (M : List (Int × Int)) (g : List Int) (hm : 0 ≤ m ∧ m ≤ 1000000000) (hs : ∀ s ∈ sh, 0 ≤ s ∧ s ≤ 1000) (hk : k ≤ 60) (hg : 1 ≤ g.length ∧ g.length ≤ 60) (hn : (M.map (·.1) ++ g).Nodup) :
    MCalls Try.prog 30 [(1000, .box (fundB m sh k)), (1001, .mp (M.map encI))] [(1000, .box (fundB m sh ((k : Int) + g.length))), (1001, .mp ((payM M g (psumL m sh k g.length / g.length)).map encI))] [.pt 1000 0 0, .r (ints g)] (.r (i64 (psumL m sh k g.length / g.length * g.length))) := by
  refine mcalls_st (n := 51) (rs := [.r (i64 (psumL m sh k g.length / g.length * g.length))]) _ _ [.tmp 4] Try.func30 rfl (by kernel_rfl) Try.ntmps30 rfl (by simp) rfl rfl fun C => ?_
  repeat refine awp_seq ?_
  refine awp_reg (by kernel_rfl) fun K hK => ?_
  simp only [go_sem]
  (try simp (disch := omega) only [wrapI])
  repeat first | intro _ | refine ⟨(by omega), ?_⟩ | refine ⟨⟨by omega, by omega⟩, ?_⟩
  refine hK _ ?_
  clear hK K
  refine awp_sub (sub_keep [0, 1]) ?_
  simp only [go_sem]
  repeat refine awp_seq ?_
  refine awp_reg (by kernel_rfl) fun K hK => ?_
  simp only [go_sem]
  (try simp (disch := omega) only [wrapI])
  repeat first | intro _ | refine ⟨(by omega), ?_⟩ | refine ⟨⟨by omega, by omega⟩, ?_⟩
  refine hK _ ?_
  clear hK K
  refine awp_sub (sub_keep [0, 1, 5]) ?_
  simp only [go_sem]
  repeat refine awp_seq ?_
  refine awp_reg (by kernel_rfl) fun K hK => ?_
  simp only [go_sem]
  (try simp (disch := omega) only [wrapI])
  intros
  repeat first | intro _ | refine ⟨(by omega), ?_⟩ | refine ⟨⟨by omega, by omega⟩, ?_⟩
  refine hK _ ?_
  clear hK K
  refine awp_sub (sub_keep [0, 1, 5, 9, 10]) ?_
  simp only [go_sem]
  repeat refine awp_seq ?_
  refine awp_block ?_
  refine awp_upto0 (n := 51) g.length (fun i vs => [(0, .pt 1000 0 0), (1, .r (ints g)), (5, .r (i64 (psumL m sh k i))), (9, .r (i64 g.length)), (10, .r (i64 i))])
    (fun i => [(1000, .box (fundB m sh ((k : Int) + i))), (1001, .mp (M.map encI))]) (fun _ => True) 0 (fit0_of [] lent_zero ?_ ?_) (Nat.zero_le _) trivial ?_
  · try simp only [go_sem]
    try simp [psumL]
  · try simp only [go_sem]
    try simp
  · intro i vs hvz hi _
    have hv0 := hvz 1000 (by omega)
    have hv1 := hvz 1001 (by omega)
    have hb := psumL_le hm hs k i
    have hp := prz_le hm hs (k + i)
    have hsn := psumL_succ m sh k i
    have hki : ((k : Int) + i) = ((k + i : Nat) : Int) := by omega
    rw [hki]
    repeat refine awp_seq ?_
    refine awp_reg (by kernel_rfl) fun K hK => ?_
    simp only [go_sem]
    (try simp (disch := omega) only [wrapI])
    repeat first | intro _ | refine ⟨(by omega), ?_⟩ | refine ⟨⟨by omega, by omega⟩, ?_⟩
    refine hK _ ?_
    clear hK K
    refine awp_sub (sub_keep [0, 1, 5, 9, 10, 11]) ?_
    simp only [go_sem]
    repeat refine awp_seq ?_
    refine awp_cond rfl (fun hc => ?_) (fun hc => ?_) <;> (try simp only [go_sem] at hc)
    · have hci := hc
      refine awp_skip ?_
      try simp only [go_sem]
      repeat refine awp_seq ?_
      refine awp_block ?_
      repeat refine awp_seq ?_
      refine awp_reg (by kernel_rfl) fun K hK => ?_
      simp only [go_sem, hv0, hv1]
      (try simp (disch := omega) only [wrapI])
      refine xcall_eq (prize_ok m sh (k + i) .un (i64 ((k + i : Nat) : Int)) hm hs) rfl (by simp only [go_sem, i64, ints, hv0, hv1]) (by simp only [go_sem, i64, ints, hv0, hv1]) (by first | exact .inl rfl | exact .inr rfl) ?_
      (try simp only [go_sem, hv0, hv1])
      (try simp (disch := omega) only [wrapI])
      repeat first | intro _ | refine ⟨(by omega), ?_⟩ | refine ⟨⟨by omega, by omega⟩, ?_⟩
      refine hK _ ?_
      clear hK K
      refine awp_sub (sub_keep [0, 1, 5, 9, 10]) ?_
      simp only [go_sem]
      repeat refine awp_seq ?_
      refine awp_reg (by kernel_rfl) fun K hK => ?_
      simp only [go_sem, hv0, hv1]
      (try simp (disch := omega) only [wrapI])
      repeat first | intro _ | refine ⟨(by omega), ?_⟩ | refine ⟨⟨by omega, by omega⟩, ?_⟩
      refine hK _ ?_
      clear hK K
      refine awp_sub (sub_keep [0, 1, 5, 9, 10]) ?_
      simp only [go_sem]
      repeat refine awp_seq ?_
      refine awp_reg (by kernel_rfl) fun K hK => ?_
      simp only [go_sem]
      (try simp (disch := omega) only [wrapI])
      repeat first | intro _ | refine ⟨(by omega), ?_⟩ | refine ⟨⟨by omega, by omega⟩, ?_⟩
      refine hK _ ?_
      clear hK K
      try simp only [go_sem]
      refine ⟨hci, fit0_of [] (by first | exact hvz | (intro j hj; simp only [upd]; (repeat' split); all_goals first | rfl | omega | exact hvz _ hj)) ?_ ?_⟩
      · try simp only [go_sem]
        rw [hsn]
      · try simp only [go_sem]
        simp [Int.add_assoc]
    · have hig : i = g.length := by omega
      subst hig
      have hq : Int.tdiv (psumL m sh k g.length) g.length = psumL m sh k g.length / g.length := Int.tdiv_eq_ediv_of_nonneg hb.1
      have hl0 : (g.length : Int) ≠ 0 := by omega
      have hd1 : 0 ≤ psumL m sh k g.length / g.length := Int.ediv_nonneg hb.1 (by omega)
      have hd2 : psumL m sh k g.length / g.length * g.length ≤ psumL m sh k g.length := Int.ediv_mul_le _ hl0
      have hd3 : psumL m sh k g.length / g.length ≤ 1000000000 := by
        have := Int.ediv_le_ediv (show (0 : Int) < g.length by omega) hb.2
        rwa [Int.mul_ediv_cancel _ hl0] at this
      have hd4 : 0 ≤ psumL m sh k g.length / g.length * g.length := Int.mul_nonneg hd1 (by omega)
      generalize hS : psumL m sh k g.length = S at *
      generalize hv : S / g.length = v at *
      refine awp_exit ?_
      simp only [go_sem]
      repeat refine awp_seq ?_
      refine awp_reg (by kernel_rfl) fun K hK => ?_
      simp only [go_sem, hv0, hv1]
      (try simp (disch := omega) only [wrapI])
      intros
      repeat first | intro _ | refine ⟨(by omega), ?_⟩ | refine ⟨⟨by omega, by omega⟩, ?_⟩
      refine hK _ ?_
      clear hK K
      refine awp_sub (sub_keep [0, 1, 5, 28, 29, 30]) ?_
      simp only [go_sem]
      repeat refine awp_seq ?_
      refine awp_block ?_
      refine awp_upto0 (n := 51) g.length (fun i vs => [(0, .pt 1000 0 0), (1, .r (ints g)), (5, .r (i64 S)), (28, .r (ints g)), (29, .r (i64 g.length)), (30, .r (i64 i))])
        (fun i => [(1000, .box (fundB m sh ((k : Int) + g.length))), (1001, .mp ((payM M (g.take i) v).map encI))]) (fun _ => True) 0 (fit0_of [] hvz ?_ ?_) (Nat.zero_le _) trivial ?_
      · try simp only [go_sem]
      · try simp only [go_sem]
        simp [payM]
      · intro i vs hvz hi _
        have hv0 := hvz 1000 (by omega)
        have hv1 := hvz 1001 (by omega)
        repeat refine awp_seq ?_
        refine awp_reg (by kernel_rfl) fun K hK => ?_
        simp only [go_sem]
        (try simp (disch := omega) only [wrapI])
        repeat first | intro _ | refine ⟨(by omega), ?_⟩ | refine ⟨⟨by omega, by omega⟩, ?_⟩
        refine hK _ ?_
        clear hK K
        refine awp_sub (sub_keep [0, 1, 5, 28, 29, 30, 31]) ?_
        simp only [go_sem]
        repeat refine awp_seq ?_
        refine awp_cond rfl (fun hc => ?_) (fun hc => ?_) <;> (try simp only [go_sem] at hc)
        · have hci := hc
          obtain ⟨p, hx⟩ := opt_of_lt hci
          have hfr : findI p (payM M (g.take i) v) 0 = none := by
            refine findI_fresh 0 ?_
            rw [payM_keys]
            intro hmem
            have h2 : (M.map (·.1) ++ g.take i ++ [p]).Nodup := by
              have h3 : (M.map (·.1) ++ g.take i ++ [p]) = M.map (·.1) ++ g.take (i + 1) := by rw [take_of_opt hx, List.append_assoc]
              rw [h3]
              exact List.Nodup.sublist (List.Sublist.append (List.Sublist.refl _) (List.take_sublist _ _)) hn
            rw [List.nodup_append] at h2
            exact h2.2.2 p hmem p (by simp) rfl
          have hfk := findK_I p (payM M (g.take i) v) 0
          rw [hfr] at hfk
          refine awp_skip ?_
          try simp only [go_sem]
          repeat refine awp_seq ?_
          refine awp_block ?_
          repeat refine awp_seq ?_
          refine awp_reg (by kernel_rfl) fun K hK => ?_
          simp only [go_sem, hx, hci]
          (try simp (disch := omega) only [wrapI])
          repeat first | intro _ | refine ⟨(by omega), ?_⟩ | refine ⟨⟨by omega, by omega⟩, ?_⟩
          refine hK _ ?_
          clear hK K
          refine awp_sub (sub_keep [0, 1, 5, 7, 28, 29, 30]) ?_
          simp only [go_sem]
          repeat refine awp_seq ?_
          refine awp_dreg follows (by decide +kernel) (by kernel_rfl) fun K hK => ?_
          simp only [go_sem, hfk, hq, hl0, hv, hv0, hv1, Option.map_none]
          (try simp (disch := omega) only [wrapI])
          repeat first | intro _ | refine ⟨(by omega), ?_⟩ | refine ⟨⟨by omega, by omega⟩, ?_⟩
          refine hK _ ?_
          clear hK K
          refine awp_sub (sub_keep [0, 1, 5, 28, 29, 30]) ?_
          simp only [go_sem]
          repeat refine awp_seq ?_
          refine awp_reg (by kernel_rfl) fun K hK => ?_
          simp only [go_sem]
          (try simp (disch := omega) only [wrapI])
          repeat first | intro _ | refine ⟨(by omega), ?_⟩ | refine ⟨⟨by omega, by omega⟩, ?_⟩
          refine hK _ ?_
          clear hK K
          try simp only [go_sem]
          refine ⟨hci, fit0_of [] (by first | exact hvz | (intro j hj; simp only [upd]; (repeat' split); all_goals first | rfl | omega | exact hvz _ hj)) ?_ ?_⟩
          · try simp only [go_sem]
          · try simp only [go_sem]
            rw [take_of_opt hx, payM_snoc]
            simp
        · have hig : i = g.length := by omega
          subst hig
          rw [List.take_length]
          refine awp_exit ?_
          simp only [go_sem]
          repeat refine awp_seq ?_
          refine awp_reg (by kernel_rfl) fun K hK => ?_
          simp only [go_sem, hq, hl0, hv]
          (try simp (disch := omega) only [wrapI])
          intros
          repeat first | intro _ | refine ⟨(by omega), ?_⟩ | refine ⟨⟨by omega, by omega⟩, ?_⟩
          refine hK _ ?_
          clear hK K
          refine awp_sub (sub_keep [4]) ?_
          simp only [go_sem]
          refine awp_ret ?_
          simp only [go_sem]
theorem fcheck_ok (m : Int) (sh : List Int) (k : Int) (M : List (Int × Int)) (n : Int) (g : List Int) (hn : 1 ≤ n ∧ n ≤ 60) (hg : 1 ≤ g.length ∧ g.length ≤ 60) (hr : ∀ p ∈ g, 0 ≤ p ∧ p < n) (hd : (M.map (·.1) ++ g).Nodup) :
    MCalls Try.prog 29 [(1000, .box (fundB m sh k)), (1001, .mp (M.map encI))] [(1000, .box (fundB m sh k)), (1001, .mp (M.map encI))] [.pt 1000 0 0, .r (i64 n), .r (ints g)] (.r (i64 0)) := by
  refine mcalls_st (n := 48) (rs := [.r (i64 0)]) _ _ [.tmp 6] Try.func29 rfl (by kernel_rfl) Try.ntmps29 rfl (by simp) rfl rfl fun C => ?_
  have e1 : ((g.length : Int) == 0) = false := by
    have : (g.length : Int) ≠ 0 := by omega
    simpa using this
  repeat refine awp_seq ?_
  refine awp_reg (by kernel_rfl) fun K hK => ?_
  simp only [go_sem]
  (try simp (disch := omega) only [wrapI])
  repeat first | intro _ | refine ⟨(by omega), ?_⟩ | refine ⟨⟨by omega, by omega⟩, ?_⟩
  refine hK _ ?_
  clear hK K
  refine awp_sub (sub_keep [0, 1, 2]) ?_
  simp only [go_sem]
  repeat refine awp_seq ?_
  refine awp_reg (by kernel_rfl) fun K hK => ?_
  simp only [go_sem, e1]
  (try simp (disch := omega) only [wrapI])
  intros
  repeat first | intro _ | refine ⟨(by omega), ?_⟩ | refine ⟨⟨by omega, by omega⟩, ?_⟩
  refine hK _ ?_
  clear hK K
  refine awp_sub (sub_keep [0, 1, 2, 14]) ?_
  simp only [go_sem]
  repeat refine awp_seq ?_
  refine awp_cond rfl (fun hc => ?_) (fun hc => ?_) <;> (try simp only [go_sem] at hc)
  refine awp_skip ?_
  try simp only [go_sem]
  repeat refine awp_seq ?_
  refine awp_reg (by kernel_rfl) fun K hK => ?_
  simp only [go_sem]
  (try simp (disch := omega) only [wrapI])
  repeat first | intro _ | refine ⟨(by omega), ?_⟩ | refine ⟨⟨by omega, by omega⟩, ?_⟩
  refine hK _ ?_
  clear hK K
  refine awp_sub (sub_keep [0, 1, 2, 7]) ?_
  simp only [go_sem]
  repeat refine awp_seq ?_
  refine awp_reg (by kernel_rfl) fun K hK => ?_
  simp only [go_sem]
  (try simp (disch := omega) only [wrapI])
  intros
  repeat first | intro _ | refine ⟨(by omega), ?_⟩ | refine ⟨⟨by omega, by omega⟩, ?_⟩
  refine hK _ ?_
  clear hK K
  refine awp_sub (sub_keep [0, 1, 7, 16, 17, 18]) ?_
  simp only [go_sem]
  repeat refine awp_seq ?_
  refine awp_block ?_
  refine awp_upto0 (n := 48) g.length (fun i vs => [(0, .pt 1000 0 0), (1, .r (i64 n)), (7, .mp 15 (vs 15)), (16, .r (ints g)), (17, .r (i64 g.length)), (18, .r (i64 i))])
    (fun i => [(15, .mp ((g.take i).map encB)), (1000, .box (fundB m sh k)), (1001, .mp (M.map encI))]) (fun _ => True) 0 (fit0_of [] (lent_upd (by omega) lent_zero) ?_ ?_) (Nat.zero_le _) trivial ?_
  · try simp only [go_sem]
  · try simp only [go_sem]
  · intro i vs hvz hi _
    have hv0 := hvz 1000 (by omega)
    have hv1 := hvz 1001 (by omega)
    repeat refine awp_seq ?_
    refine awp_reg (by kernel_rfl) fun K hK => ?_
    simp only [go_sem]
    (try simp (disch := omega) only [wrapI])
    repeat first | intro _ | refine ⟨(by omega), ?_⟩ | refine ⟨⟨by omega, by omega⟩, ?_⟩
    refine hK _ ?_
    clear hK K
    refine awp_sub (sub_keep [0, 1, 7, 16, 17, 18, 19]) ?_
    simp only [go_sem]
    repeat refine awp_seq ?_
    refine awp_cond rfl (fun hc => ?_) (fun hc => ?_) <;> (try simp only [go_sem] at hc)
    · have hci := hc
      obtain ⟨p, hx⟩ := opt_of_lt hci
      have hp := hr p (mem_of_opt hx)
      have hw : withinL 0 (n - 1) [p] = true := by simp [withinL]; omega
      have hfk := findK_I p M 0
      have h2 : (M.map (·.1) ++ g.take i ++ [p]).Nodup := by
        have h3 : (M.map (·.1) ++ g.take i ++ [p]) = M.map (·.1) ++ g.take (i + 1) := by rw [take_of_opt hx, List.append_assoc]
        rw [h3]
        exact List.Nodup.sublist (List.Sublist.append (List.Sublist.refl _) (List.take_sublist _ _)) hd
      rw [List.nodup_append] at h2
      have hf1 : p ∉ M.map (·.1) := fun h => h2.2.2 p (List.mem_append.2 (.inl h)) p (by simp) rfl
      have hf2 : p ∉ g.take i := fun h => h2.2.2 p (List.mem_append.2 (.inr h)) p (by simp) rfl
      rw [findI_fresh 0 hf1] at hfk
      have hfs := findK_seen 0 hf2
      refine awp_skip ?_
      try simp only [go_sem]
      repeat refine awp_seq ?_
      refine awp_block ?_
      repeat refine awp_seq ?_
      refine awp_reg (by kernel_rfl) fun K hK => ?_
      simp only [go_sem, hx, hci]
      (try simp (disch := omega) only [wrapI])
      repeat first | intro _ | refine ⟨(by omega), ?_⟩ | refine ⟨⟨by omega, by omega⟩, ?_⟩
      refine hK _ ?_
      clear hK K
      refine awp_sub (sub_keep [0, 1, 7, 9, 16, 17, 18]) ?_
      simp only [go_sem]
      repeat refine awp_seq ?_
      refine awp_reg (by kernel_rfl) fun K hK => ?_
      simp only [go_sem, hfk, hv0, hv1, Option.map_none]
      (try simp (disch := omega) only [wrapI])
      repeat first | intro _ | refine ⟨(by omega), ?_⟩ | refine ⟨⟨by omega, by omega⟩, ?_⟩
      refine hK _ ?_
      clear hK K
      refine awp_sub (sub_keep [0, 1, 7, 9, 11, 16, 17, 18]) ?_
      simp only [go_sem]
      repeat refine awp_seq ?_
      refine awp_block ?_
      repeat refine awp_seq ?_
      refine awp_reg (by kernel_rfl) fun K hK => ?_
      simp only [go_sem]
      (try simp (disch := omega) only [wrapI])
      refine xcall_eq (pWithin_ok 0 (n - 1) [p]) rfl (by simp only [go_sem, i64, ints, hw]) (by simp only [go_sem, i64, ints, hw]) (by first | exact .inl rfl | exact .inr rfl) ?_
      (try simp only [go_sem, hw])
      (try simp (disch := omega) only [wrapI])
      repeat first | intro _ | refine ⟨(by omega), ?_⟩ | refine ⟨⟨by omega, by omega⟩, ?_⟩
      refine hK _ ?_
      clear hK K
      refine awp_sub (sub_keep [0, 1, 7, 9, 11, 16, 17, 18, 31]) ?_
      simp only [go_sem]
      repeat refine awp_seq ?_
      refine awp_cond rfl (fun hc => ?_) (fun hc => ?_) <;> (try simp only [go_sem] at hc)
      repeat refine awp_seq ?_
      refine awp_reg (by kernel_rfl) fun K hK => ?_
      simp only [go_sem, hfs]
      (try simp (disch := omega) only [wrapI])
      repeat first | intro _ | refine ⟨(by omega), ?_⟩ | refine ⟨⟨by omega, by omega⟩, ?_⟩
      refine hK _ ?_
      clear hK K
      refine awp_sub (sub_keep [0, 1, 7, 9, 16, 17, 18, 38]) ?_
      simp only [go_sem]
      repeat refine awp_seq ?_
      refine awp_cond rfl (fun hc => ?_) (fun hc => ?_) <;> (try simp only [go_sem] at hc)
      refine awp_skip ?_
      try simp only [go_sem]
      repeat refine awp_seq ?_
      refine awp_reg (by kernel_rfl) fun K hK => ?_
      simp only [go_sem, hfs]
      (try simp (disch := omega) only [wrapI])
      repeat first | intro _ | refine ⟨(by omega), ?_⟩ | refine ⟨⟨by omega, by omega⟩, ?_⟩
      refine hK _ ?_
      clear hK K
      refine awp_sub (sub_keep [0, 1, 7, 16, 17, 18]) ?_
      simp only [go_sem]
      repeat refine awp_seq ?_
      refine awp_reg (by kernel_rfl) fun K hK => ?_
      simp only [go_sem]
      (try simp (disch := omega) only [wrapI])
      repeat first | intro _ | refine ⟨(by omega), ?_⟩ | refine ⟨⟨by omega, by omega⟩, ?_⟩
      refine hK _ ?_
      clear hK K
      try simp only [go_sem]
      refine ⟨hci, fit0_of [] (by first | exact hvz | (intro j hj; simp only [upd]; (repeat' split); all_goals first | rfl | omega | exact hvz _ hj)) ?_ ?_⟩
      · try simp only [go_sem]
      · try simp only [go_sem]
        rw [take_of_opt hx]
        simp
    · refine awp_exit ?_
      simp only [go_sem]
      repeat refine awp_seq ?_
      refine awp_reg (by kernel_rfl) fun K hK => ?_
      simp only [go_sem]
      (try simp (disch := omega) only [wrapI])
      repeat first | intro _ | refine ⟨(by omega), ?_⟩ | refine ⟨⟨by omega, by omega⟩, ?_⟩
      refine hK _ ?_
      clear hK K
      refine awp_sub (sub_keep [6]) ?_
      simp only [go_sem]
      refine awp_ret ?_
      simp only [go_sem]
theorem pubSum_ok (l : List Int) (hl : l.length ≤ 1000) (h : ∀ x ∈ l, 0 ≤ x ∧ x ≤ 100000000000000) : ACalls Try.prog 13 [ints l] (i64 l.sum) := by
  refine acalls_st (rs := [i64 l.sum]) [.tmp 2] Try.func13 rfl (by kernel_rfl) Try.ntmps13 rfl (by simp) rfl fun C vs => ?_
  repeat refine awp_seq ?_
  refine awp_reg (by kernel_rfl) fun K hK => ?_
  simp only [go_sem]
  (try simp (disch := omega) only [wrapI])
  repeat first | intro _ | refine ⟨(by omega), ?_⟩ | refine ⟨⟨by omega, by omega⟩, ?_⟩
  refine hK _ ?_
  clear hK K
  refine awp_sub (sub_keep [0]) ?_
  simp only [go_sem]
  repeat refine awp_seq ?_
  refine awp_reg (by kernel_rfl) fun K hK => ?_
  simp only [go_sem]
  (try simp (disch := omega) only [wrapI])
  repeat first | intro _ | refine ⟨(by omega), ?_⟩ | refine ⟨⟨by omega, by omega⟩, ?_⟩
  refine hK _ ?_
  clear hK K
  refine awp_sub (sub_keep [0, 3]) ?_
  simp only [go_sem]
  repeat refine awp_seq ?_
  refine awp_reg (by kernel_rfl) fun K hK => ?_
  simp only [go_sem]
  (try simp (disch := omega) only [wrapI])
  repeat first | intro _ | refine ⟨(by omega), ?_⟩ | refine ⟨⟨by omega, by omega⟩, ?_⟩
  refine hK _ ?_
  clear hK K
  refine awp_sub (sub_keep [0, 3, 4]) ?_
  simp only [go_sem]
  repeat refine awp_seq ?_
  refine awp_block ?_
  refine awp_upto (n := 18) l.length (fun i vs => [(0, .r (ints l)), (3, .r (i64 (l.take i).sum)), (4, .r (i64 i))])
    (fun i => []) (fun _ => True) 0 (fit_of [] ?_ rfl) (Nat.zero_le _) trivial ?_
  · try simp only [go_sem]
    simp
  · intro i vs hi _
    repeat refine awp_seq ?_
    refine awp_reg (by kernel_rfl) fun K hK => ?_
    simp only [go_sem]
    (try simp (disch := omega) only [wrapI])
    intros
    repeat first | intro _ | refine ⟨(by omega), ?_⟩ | refine ⟨⟨by omega, by omega⟩, ?_⟩
    refine hK _ ?_
    clear hK K
    refine awp_sub (sub_keep [0, 3, 4, 8]) ?_
    simp only [go_sem]
    repeat refine awp_seq ?_
    refine awp_cond rfl (fun hc => ?_) (fun hc => ?_) <;> (try simp only [go_sem] at hc)
    · have hci := hc
      obtain ⟨x, hx⟩ := opt_of_lt hci
      have hx1 := h x (mem_of_opt hx)
      have hs := psum_le 100000000000000 (l.take i) fun y hy => h y (List.mem_of_mem_take hy)
      simp only [List.length_take] at hs
      have hsn : (l.take (i + 1)).sum = (l.take i).sum + x := by rw [take_of_opt hx]; simp
      refine awp_skip ?_
      try simp only [go_sem]
      repeat refine awp_seq ?_
      refine awp_block ?_
      repeat refine awp_seq ?_
      refine awp_reg (by kernel_rfl) fun K hK => ?_
      simp only [go_sem, hx, hci]
      (try simp (disch := omega) only [wrapI])
      repeat first | intro _ | refine ⟨(by omega), ?_⟩ | refine ⟨⟨by omega, by omega⟩, ?_⟩
      refine hK _ ?_
      clear hK K
      refine awp_sub (sub_keep [0, 3, 4]) ?_
      simp only [go_sem]
      repeat refine awp_seq ?_
      refine awp_reg (by kernel_rfl) fun K hK => ?_
      simp only [go_sem]
      (try simp (disch := omega) only [wrapI])
      repeat first | intro _ | refine ⟨(by omega), ?_⟩ | refine ⟨⟨by omega, by omega⟩, ?_⟩
      refine hK _ ?_
      clear hK K
      try simp only [go_sem]
      refine ⟨hci, fit_of [] ?_ rfl⟩
      try simp only [go_sem]
      omega
    · refine awp_exit ?_
      simp only [go_sem]
      repeat refine awp_seq ?_
      refine awp_reg (by kernel_rfl) fun K hK => ?_
      simp only [go_sem]
      (try simp (disch := omega) only [wrapI])
      repeat first | intro _ | refine ⟨(by omega), ?_⟩ | refine ⟨⟨by omega, by omega⟩, ?_⟩
      refine hK _ ?_
      clear hK K
      refine awp_sub (sub_keep [2]) ?_
      simp only [go_sem]
      refine awp_ret ?_
      simp only [go_sem]
      rw [List.take_of_length_le (by omega)]
end Go.Proofs.Ytaniakoadbkadaa

/- What Prizes returns for groups that are no error, by the program. -/
namespace Go.Proofs.Ytaniakoadbkadaa
open Go Go.Oc
set_option linter.unusedSimpArgs false
set_option linter.unusedVariables false
set_option maxRecDepth 8000
def payS (m : Int) (sh : List Int) (s : List (Int × Int) × Nat × Int) (g : List Int) : List (Int × Int) × Nat × Int :=
  (payM s.1 g (psumL m sh s.2.1 g.length / g.length), s.2.1 + g.length, s.2.2 - psumL m sh s.2.1 g.length / g.length * g.length)
def stP (m : Int) (sh : List Int) (ps : List (List Int)) : List (Int × Int) × Nat × Int := ps.foldl (payS m sh) ([], 0, m)
theorem pay_bounds {m : Int} {sh : List Int} (hm : 0 ≤ m ∧ m ≤ 1000000000) (hs : ∀ s ∈ sh, 0 ≤ s ∧ s ≤ 1000) (k : Nat) (n : Nat) :
    0 ≤ psumL m sh k n / n * n ∧ psumL m sh k n / n * n ≤ 1000000000 * n := by
  have hb := psumL_le hm hs k n
  by_cases h : n = 0
  · subst h; simp
  · have h1 : (n : Int) ≠ 0 := by omega
    have h2 := Int.ediv_mul_le (psumL m sh k n) h1
    have h3 : 0 ≤ psumL m sh k n / n := Int.ediv_nonneg hb.1 (by omega)
    exact ⟨Int.mul_nonneg h3 (by omega), by omega⟩
theorem stP_gen {m : Int} {sh : List Int} (hm : 0 ≤ m ∧ m ≤ 1000000000) (hs : ∀ s ∈ sh, 0 ≤ s ∧ s ≤ 1000) : ∀ (ps : List (List Int)) (s : List (Int × Int) × Nat × Int),
    (ps.foldl (payS m sh) s).1.map (·.1) = s.1.map (·.1) ++ ps.flatten ∧ (ps.foldl (payS m sh) s).2.1 = s.2.1 + ps.flatten.length ∧ s.2.2 - 1000000000 * ps.flatten.length ≤ (ps.foldl (payS m sh) s).2.2 ∧ (ps.foldl (payS m sh) s).2.2 ≤ s.2.2
  | [], s => by simp
  | g :: ps, s => by
    obtain ⟨h1, h2, h3, h4⟩ := stP_gen hm hs ps (payS m sh s g)
    have hb := pay_bounds hm hs s.2.1 g.length
    simp only [List.foldl_cons]
    refine ⟨?_, ?_, ?_, ?_⟩
    · rw [h1]
      simp only [payS, payM_keys, List.flatten_cons, List.append_assoc]
    · rw [h2]
      simp only [payS, List.flatten_cons, List.length_append]
      omega
    · refine Int.le_trans ?_ h3
      simp only [payS, List.flatten_cons, List.length_append]
      omega
    · refine Int.le_trans h4 ?_
      simp only [payS]
      omega
theorem stP_facts {m : Int} {sh : List Int} (hm : 0 ≤ m ∧ m ≤ 1000000000) (hs : ∀ s ∈ sh, 0 ≤ s ∧ s ≤ 1000) (ps : List (List Int)) :
    (stP m sh ps).1.map (·.1) = ps.flatten ∧ (stP m sh ps).2.1 = ps.flatten.length ∧ m - 1000000000 * ps.flatten.length ≤ (stP m sh ps).2.2 ∧ (stP m sh ps).2.2 ≤ m := by
  have := stP_gen hm hs ps ([], 0, m)
  simpa [stP] using this
theorem stP_snoc (m : Int) (sh : List Int) (ps : List (List Int)) (g : List Int) : stP m sh (ps ++ [g]) = payS m sh (stP m sh ps) g := by
  simp [stP, List.foldl_append]
abbrev listsR (l : List (List Int)) : RV := .sl 1 (l.map fun x => [ints x])
def prizesV (m : Int) (sh : List Int) (n : Nat) (ps : List (List Int)) : List Int := (List.range n).map fun (p : Nat) => valM (stP m sh ps).1 p
structure GoodP (n : Nat) (sh : List Int) (ps : List (List Int)) : Prop where
  n1 : 1 ≤ n ∧ n ≤ 60
  shl : sh.length ≤ 60
  shr : ∀ s ∈ sh, 0 ≤ s ∧ s ≤ 1000
  shs : sh.sum ≤ 1000
  psl : ps.length ≤ 60
  fl : ps.flatten.length ≤ 60
  nd : ps.flatten.Nodup
  ne : ∀ g ∈ ps, g ≠ []
  rg : ∀ p ∈ ps.flatten, 0 ≤ p ∧ p < n
theorem good_take {n : Nat} {sh : List Int} {ps : List (List Int)} (h : GoodP n sh ps) {i : Nat} {g : List Int} (hx : ps[i]? = some g) :
    (1 ≤ g.length ∧ g.length ≤ 60) ∧ ((ps.take i).flatten ++ g).Nodup ∧ (∀ p ∈ g, 0 ≤ p ∧ p < n) ∧ (ps.take i).flatten.length + g.length ≤ 60 := by
  have hm := mem_of_opt hx
  have hs : ((ps.take i).flatten ++ g).Sublist ps.flatten := by
    have e : (ps.take i).flatten ++ g = (ps.take (i + 1)).flatten := by rw [take_of_opt hx]; simp
    rw [e]
    have : ps.flatten = (ps.take (i + 1)).flatten ++ (ps.drop (i + 1)).flatten := by rw [← List.flatten_append, List.take_append_drop]
    rw [this]
    exact List.sublist_append_left _ _
  have hl := hs.length_le
  rw [List.length_append] at hl
  have := h.fl
  have hne : g.length ≠ 0 := fun e => h.ne g hm (List.eq_nil_of_length_eq_zero e)
  refine ⟨⟨by omega, by omega⟩, h.nd.sublist hs, fun p hp => h.rg p (List.mem_flatten.2 ⟨g, hm, hp⟩), by omega⟩
theorem prizes_ok (m : Int) (n : Nat) (sh : List Int) (ps : List (List Int)) (hm : 0 ≤ m ∧ m ≤ 1000000000) (h : GoodP n sh ps) :
    ACalls Try.prog 12 [i64 m, i64 n, ints sh, listsR ps] (.tu [ints (prizesV m sh n ps), i64 (stP m sh ps).2.2, i64 0]) := by
  have w1 : withinL 0 1000000000 [m] = true := by simp [withinL]; omega
  have w2 : withinL 1 60 [(n : Int)] = true := by have := h.n1; simp [withinL]; omega
  have w3 : withinL 0 1000 sh = true := by
    unfold withinL
    rw [List.all_eq_true]
    intro x hx
    have := h.shr x hx
    simp; omega
  have hfull := stP_facts hm h.shr ps
  have h0 := h.shl
  have h1 := h.shs
  have h2 := h.psl
  have hn1 := h.n1
  have hfl := h.fl
  have e1 : decide ((60 : Int) < (sh.length : Int)) = false := by simp; omega
  have e2 : decide ((1000 : Int) < sh.sum) = false := by simp; omega
  refine acalls_st (rs := [ints (prizesV m sh n ps), i64 (stP m sh ps).2.2, i64 0]) [.tmp 8, .tmp 9, .tmp 10] Try.func12 rfl (by kernel_rfl) Try.ntmps12 rfl (by simp) rfl fun C vs => ?_
  repeat refine awp_seq ?_
  refine awp_reg (by kernel_rfl) fun K hK => ?_
  simp only [go_sem]
  (try simp (disch := omega) only [wrapI])
  repeat first | intro _ | refine ⟨(by omega), ?_⟩ | refine ⟨⟨by omega, by omega⟩, ?_⟩
  refine hK _ ?_
  clear hK K
  refine awp_sub (sub_keep [0, 1, 2, 3, 8]) ?_
  simp only [go_sem]
  repeat refine awp_seq ?_
  refine awp_block ?_
  repeat refine awp_seq ?_
  refine awp_reg (by kernel_rfl) fun K hK => ?_
  simp only [go_sem]
  (try simp (disch := omega) only [wrapI])
  refine xcall_eq (pWithin_ok 0 1000000000 [m]) rfl (by simp only [go_sem, i64, ints]) (by simp only [go_sem, i64, ints]) (by first | exact .inl rfl | exact .inr rfl) ?_
  (try simp only [go_sem])
  (try simp (disch := omega) only [wrapI])
  repeat first | intro _ | refine ⟨(by omega), ?_⟩ | refine ⟨⟨by omega, by omega⟩, ?_⟩
  refine hK _ ?_
  clear hK K
  rw [w1]
  refine awp_sub (sub_keep [0, 1, 2, 3, 8, 16]) ?_
  simp only [go_sem]
  repeat refine awp_seq ?_
  refine awp_cond rfl (fun hc => ?_) (fun hc => ?_) <;> (try simp only [go_sem] at hc)
  repeat refine awp_seq ?_
  refine awp_reg (by kernel_rfl) fun K hK => ?_
  simp only [go_sem]
  (try simp (disch := omega) only [wrapI])
  refine xcall_eq (pWithin_ok 1 60 [(n : Int)]) rfl (by simp only [go_sem, i64, ints]) (by simp only [go_sem, i64, ints]) (by first | exact .inl rfl | exact .inr rfl) ?_
  (try simp only [go_sem])
  (try simp (disch := omega) only [wrapI])
  repeat first | intro _ | refine ⟨(by omega), ?_⟩ | refine ⟨⟨by omega, by omega⟩, ?_⟩
  refine hK _ ?_
  clear hK K
  rw [w2]
  refine awp_sub (sub_keep [0, 1, 2, 3, 8, 21]) ?_
  simp only [go_sem]
  repeat refine awp_seq ?_
  refine awp_cond rfl (fun hc => ?_) (fun hc => ?_) <;> (try simp only [go_sem] at hc)
  repeat refine awp_seq ?_
  refine awp_reg (by kernel_rfl) fun K hK => ?_
  simp only [go_sem]
  (try simp (disch := omega) only [wrapI])
  intros
  repeat first | intro _ | refine ⟨(by omega), ?_⟩ | refine ⟨⟨by omega, by omega⟩, ?_⟩
  refine hK _ ?_
  clear hK K
  rw [e1]
  refine awp_sub (sub_keep [0, 1, 2, 3, 8, 26]) ?_
  simp only [go_sem]
  repeat refine awp_seq ?_
  refine awp_cond rfl (fun hc => ?_) (fun hc => ?_) <;> (try simp only [go_sem] at hc)
  repeat refine awp_seq ?_
  refine awp_reg (by kernel_rfl) fun K hK => ?_
  simp only [go_sem]
  (try simp (disch := omega) only [wrapI])
  refine xcall_eq (pWithin_ok 0 1000 sh) rfl (by simp only [go_sem, i64, ints]) (by simp only [go_sem, i64, ints]) (by first | exact .inl rfl | exact .inr rfl) ?_
  (try simp only [go_sem])
  (try simp (disch := omega) only [wrapI])
  repeat first | intro _ | refine ⟨(by omega), ?_⟩ | refine ⟨⟨by omega, by omega⟩, ?_⟩
  refine hK _ ?_
  clear hK K
  rw [w3]
  refine awp_sub (sub_keep [0, 1, 2, 3, 8, 30]) ?_
  simp only [go_sem]
  repeat refine awp_seq ?_
  refine awp_cond rfl (fun hc => ?_) (fun hc => ?_) <;> (try simp only [go_sem] at hc)
  repeat refine awp_seq ?_
  refine awp_reg (by kernel_rfl) fun K hK => ?_
  simp only [go_sem]
  (try simp (disch := omega) only [wrapI])
  refine xcall_eq (ptotal_ok sh (by omega) (fun x hx => by have := h.shr x hx; omega)) rfl (by simp only [go_sem, i64, ints]) (by simp only [go_sem, i64, ints]) (by first | exact .inl rfl | exact .inr rfl) ?_
  (try simp only [go_sem])
  (try simp (disch := omega) only [wrapI])
  repeat first | intro _ | refine ⟨(by omega), ?_⟩ | refine ⟨⟨by omega, by omega⟩, ?_⟩
  refine hK _ ?_
  clear hK K
  rw [e2]
  refine awp_sub (sub_keep [0, 1, 2, 3, 8, 30]) ?_
  simp only [go_sem]
  repeat refine awp_seq ?_
  refine awp_cond rfl (fun hc => ?_) (fun hc => ?_) <;> (try simp only [go_sem] at hc)
  refine awp_skip ?_
  try simp only [go_sem]
  repeat refine awp_seq ?_
  refine awp_reg (by kernel_rfl) fun K hK => ?_
  simp only [go_sem]
  (try simp (disch := omega) only [wrapI])
  repeat first | intro _ | refine ⟨(by omega), ?_⟩ | refine ⟨⟨by omega, by omega⟩, ?_⟩
  refine hK _ ?_
  clear hK K
  refine awp_sub (sub_keep [0, 1, 3, 8, 11]) ?_
  simp only [go_sem]
  repeat refine awp_seq ?_
  refine awp_reg (by kernel_rfl) fun K hK => ?_
  simp only [go_sem]
  (try simp (disch := omega) only [wrapI])
  repeat first | intro _ | refine ⟨(by omega), ?_⟩ | refine ⟨⟨by omega, by omega⟩, ?_⟩
  refine hK _ ?_
  clear hK K
  refine awp_sub (sub_keep [1, 3, 8, 9, 11]) ?_
  simp only [go_sem]
  repeat refine awp_seq ?_
  refine awp_reg (by kernel_rfl) fun K hK => ?_
  simp only [go_sem]
  (try simp (disch := omega) only [wrapI])
  intros
  repeat first | intro _ | refine ⟨(by omega), ?_⟩ | refine ⟨⟨by omega, by omega⟩, ?_⟩
  refine hK _ ?_
  clear hK K
  refine awp_sub (sub_keep [1, 8, 9, 11, 43, 44, 45]) ?_
  simp only [go_sem]
  repeat refine awp_seq ?_
  refine awp_block ?_
  refine awp_uptoV (n := 78) ps.length (fun i vs => [(1, .r (i64 n)), (8, .r .ns), (9, .r (i64 (stP m sh (ps.take i)).2.2)), (11, .pt 41 (vs 41) 0), (43, .r (listsR ps)), (44, .r (i64 ps.length)), (45, .r (i64 i))])
    (fun i vs => [(39, .mp ((stP m sh (ps.take i)).1.map encI)), (41, .box [.r (i64 m), .r (ints sh), .mp 39 (vs 39), .r (i64 (stP m sh (ps.take i)).2.1)])]) (fun _ => True) 0 (fitV_of [] ?_ ?_) (Nat.zero_le _) trivial ?_
  · try simp only [go_sem]
    simp [stP]
  · try simp only [go_sem]
    simp [stP]
  · intro i vs hi _
    obtain ⟨f1, f2, f3, f4⟩ := stP_facts hm h.shr (ps.take i)
    repeat refine awp_seq ?_
    refine awp_reg (by kernel_rfl) fun K hK => ?_
    simp only [go_sem]
    (try simp (disch := omega) only [wrapI])
    repeat first | intro _ | refine ⟨(by omega), ?_⟩ | refine ⟨⟨by omega, by omega⟩, ?_⟩
    refine hK _ ?_
    clear hK K
    refine awp_sub (sub_keep [1, 8, 9, 11, 43, 44, 45, 46]) ?_
    simp only [go_sem]
    repeat refine awp_seq ?_
    refine awp_cond rfl (fun hc => ?_) (fun hc => ?_) <;> (try simp only [go_sem] at hc)
    · have hci := hc
      obtain ⟨g, hx⟩ := opt_of_lt hci
      obtain ⟨g1, g2, g3, g4⟩ := good_take h hx
      have hsn : stP m sh (ps.take (i + 1)) = payS m sh (stP m sh (ps.take i)) g := by rw [take_of_opt hx, stP_snoc]
      have hb := pay_bounds hm h.shr (stP m sh (ps.take i)).2.1 g.length
      rw [← f1] at g2
      rw [hsn]
      generalize hst : stP m sh (ps.take i) = s at *
      obtain ⟨M, k, kept⟩ := s
      simp only [payS] at *
      refine awp_skip ?_
      try simp only [go_sem]
      repeat refine awp_seq ?_
      refine awp_block ?_
      repeat refine awp_seq ?_
      refine awp_reg (by kernel_rfl) fun K hK => ?_
      simp only [go_sem, hx, hci]
      (try simp (disch := omega) only [wrapI])
      repeat first | intro _ | refine ⟨(by omega), ?_⟩ | refine ⟨⟨by omega, by omega⟩, ?_⟩
      refine hK _ ?_
      clear hK K
      refine awp_sub (sub_keep [1, 8, 9, 11, 13, 43, 44, 45]) ?_
      simp only [go_sem]
      repeat refine awp_seq ?_
      refine awp_reg (by kernel_rfl) fun K hK => ?_
      simp only [go_sem]
      (try simp (disch := omega) only [wrapI])
      refine xcall_mut (fcheck_ok m sh k M n g (by omega) g1 g3 g2) [(1000, 41), (1001, 39)] rfl (by simp only [go_sem, i64, ints]) (by simp only [go_sem, i64, ints]) (by rfl) (by rfl) ?_
      (try simp only [go_sem])
      (try simp (disch := omega) only [wrapI])
      repeat first | intro _ | refine ⟨(by omega), ?_⟩ | refine ⟨⟨by omega, by omega⟩, ?_⟩
      refine hK _ ?_
      clear hK K
      refine awp_sub (sub_keep [1, 8, 9, 11, 13, 14, 43, 44, 45]) ?_
      simp only [go_sem]
      repeat refine awp_seq ?_
      refine awp_reg (by kernel_rfl) fun K hK => ?_
      simp only [go_sem, bne_self_eq_false]
      (try simp (disch := omega) only [wrapI])
      repeat first | intro _ | refine ⟨(by omega), ?_⟩ | refine ⟨⟨by omega, by omega⟩, ?_⟩
      refine hK _ ?_
      clear hK K
      refine awp_sub (sub_keep [1, 8, 9, 11, 13, 14, 43, 44, 45, 54]) ?_
      simp only [go_sem]
      repeat refine awp_seq ?_
      refine awp_cond rfl (fun hc => ?_) (fun hc => ?_) <;> (try simp only [go_sem] at hc)
      refine awp_skip ?_
      try simp only [go_sem]
      repeat refine awp_seq ?_
      refine awp_reg (by kernel_rfl) fun K hK => ?_
      simp only [go_sem]
      (try simp (disch := omega) only [wrapI])
      refine xcall_mut (pay_ok m sh k M g hm h.shr (by omega) g1 g2) [(1000, 41), (1001, 39)] rfl (by simp only [go_sem, i64, ints]) (by simp only [go_sem, i64, ints]) (by rfl) (by rfl) ?_
      (try simp only [go_sem])
      (try simp (disch := omega) only [wrapI])
      repeat first | intro _ | refine ⟨(by omega), ?_⟩ | refine ⟨⟨by omega, by omega⟩, ?_⟩
      refine hK _ ?_
      clear hK K
      refine awp_sub (sub_keep [1, 8, 9, 11, 43, 44, 45]) ?_
      simp only [go_sem]
      repeat refine awp_seq ?_
      refine awp_reg (by kernel_rfl) fun K hK => ?_
      simp only [go_sem]
      (try simp (disch := omega) only [wrapI])
      repeat first | intro _ | refine ⟨(by omega), ?_⟩ | refine ⟨⟨by omega, by omega⟩, ?_⟩
      refine hK _ ?_
      clear hK K
      try simp only [go_sem]
      refine ⟨hci, fitV_of [] ?_ ?_⟩
      · try simp only [go_sem]
      · try simp only [go_sem]
    · have : i = ps.length := by omega
      subst this
      rw [List.take_length] at *
      generalize hst : stP m sh ps = s at *
      obtain ⟨M, k, kept⟩ := s
      simp only at *
      have hpv : prizesV m sh n ps = (List.range n).map fun (p : Nat) => valM M p := by rw [prizesV, hst]
      rw [hpv]
      refine awp_exit ?_
      simp only [go_sem]
      repeat refine awp_seq ?_
      refine awp_reg (by kernel_rfl) fun K hK => ?_
      simp only [go_sem]
      (try simp (disch := omega) only [wrapI])
      repeat first | intro _ | refine ⟨(by omega), ?_⟩ | refine ⟨⟨by omega, by omega⟩, ?_⟩
      refine hK _ ?_
      clear hK K
      refine awp_sub (sub_keep [8, 9, 11, 62, 63]) ?_
      simp only [go_sem]
      repeat refine awp_seq ?_
      refine awp_block ?_
      refine awp_sub (sub_own 8 74 3 1 (by omega) rfl) ?_
      refine awp_uptoV (n := 78) n (fun i vs => [(8, .os 74 (vs 74) 1 0 i), (9, .r (i64 kept)), (11, .pt 41 (vs 41) 0), (62, .r (i64 n)), (63, .r (i64 i))])
        (fun i vs => [(39, .mp (M.map encI)), (41, .box [.r (i64 m), .r (ints sh), .mp 39 (vs 39), .r (i64 k)]), (74, .arr 3 1 ((List.range i).map fun (p : Nat) => [i64 (valM M p)]))]) (fun _ => True) 0 (fitV_of [] ?_ ?_) (Nat.zero_le _) trivial ?_
      · try simp only [go_sem]
      · try simp only [go_sem]
        rfl
      · intro i vs hi _
        have hil : ((List.range i).map fun (p : Nat) => [i64 (valM M p)]).length = i := by simp
        have hfk := findK_I i M 0
        have hsn : ((List.range (i + 1)).map fun (p : Nat) => [i64 (valM M p)]) = ((List.range i).map fun (p : Nat) => [i64 (valM M p)]) ++ [[i64 (valM M i)]] := by simp [List.range_succ]
        repeat refine awp_seq ?_
        refine awp_reg (by kernel_rfl) fun K hK => ?_
        simp only [go_sem]
        (try simp (disch := omega) only [wrapI])
        repeat first | intro _ | refine ⟨(by omega), ?_⟩ | refine ⟨⟨by omega, by omega⟩, ?_⟩
        refine hK _ ?_
        clear hK K
        refine awp_sub (sub_keep [8, 9, 11, 62, 63, 64]) ?_
        simp only [go_sem]
        repeat refine awp_seq ?_
        refine awp_cond rfl (fun hc => ?_) (fun hc => ?_) <;> (try simp only [go_sem] at hc)
        · have hci := hc
          refine awp_skip ?_
          try simp only [go_sem]
          repeat refine awp_seq ?_
          refine awp_block ?_
          repeat refine awp_seq ?_
          refine awp_reg (by kernel_rfl) fun K hK => ?_
          simp only [go_sem]
          (try simp (disch := omega) only [wrapI])
          repeat first | intro _ | refine ⟨(by omega), ?_⟩ | refine ⟨⟨by omega, by omega⟩, ?_⟩
          refine hK _ ?_
          clear hK K
          refine awp_sub (sub_keep [8, 9, 11, 15, 62, 63]) ?_
          simp only [go_sem]
          cases hf : findI i M 0 with
          | none =>
            have hv : valM M i = 0 := by rw [valM, hf]
            rw [hf] at hfk
            repeat refine awp_seq ?_
            refine awp_reg (by kernel_rfl) fun K hK => ?_
            simp only [go_sem, hfk, Option.map_none, hil]
            (try simp (disch := omega) only [wrapI])
            refine ⟨⟨by omega, by omega⟩, ?_⟩
            repeat first | intro _ | refine ⟨(by omega), ?_⟩ | refine ⟨⟨by omega, by omega⟩, ?_⟩
            refine hK _ ?_
            clear hK K
            refine awp_sub (sub_keep [8, 9, 11, 62, 63]) ?_
            simp only [go_sem]
            repeat refine awp_seq ?_
            refine awp_reg (by kernel_rfl) fun K hK => ?_
            simp only [go_sem]
            (try simp (disch := omega) only [wrapI])
            repeat first | intro _ | refine ⟨(by omega), ?_⟩ | refine ⟨⟨by omega, by omega⟩, ?_⟩
            refine hK _ ?_
            clear hK K
            try simp only [go_sem]
            refine ⟨hci, fitV_of [] ?_ ?_⟩
            · try simp only [go_sem]
            · try simp only [go_sem]
              simp [hv]
          | some x =>
            obtain ⟨j, v⟩ := x
            have hv : valM M i = v := by rw [valM, hf]
            rw [hf] at hfk
            repeat refine awp_seq ?_
            refine awp_reg (by kernel_rfl) fun K hK => ?_
            simp only [go_sem, hfk, Option.map_some, hil]
            (try simp (disch := omega) only [wrapI])
            refine ⟨⟨by omega, by omega⟩, ?_⟩
            repeat first | intro _ | refine ⟨(by omega), ?_⟩ | refine ⟨⟨by omega, by omega⟩, ?_⟩
            refine hK _ ?_
            clear hK K
            refine awp_sub (sub_keep [8, 9, 11, 62, 63]) ?_
            simp only [go_sem]
            repeat refine awp_seq ?_
            refine awp_reg (by kernel_rfl) fun K hK => ?_
            simp only [go_sem]
            (try simp (disch := omega) only [wrapI])
            repeat first | intro _ | refine ⟨(by omega), ?_⟩ | refine ⟨⟨by omega, by omega⟩, ?_⟩
            refine hK _ ?_
            clear hK K
            try simp only [go_sem]
            refine ⟨hci, fitV_of [] ?_ ?_⟩
            · try simp only [go_sem]
            · try simp only [go_sem]
              simp [hv]
        · have : i = n := by omega
          subst this
          refine awp_exit ?_
          simp only [go_sem]
          repeat refine awp_seq ?_
          refine awp_reg (by kernel_rfl) fun K hK => ?_
          simp only [go_sem]
          (try simp (disch := omega) only [wrapI])
          repeat first | intro _ | refine ⟨(by omega), ?_⟩ | refine ⟨⟨by omega, by omega⟩, ?_⟩
          refine hK _ ?_
          clear hK K
          refine awp_sub (sub_keep [8, 9, 10]) ?_
          simp only [go_sem]
          refine awp_ret ?_
          simp only [go_sem]
          exact ⟨by simp, by rw [List.take_of_length_le (by simp)]; simp⟩
end Go.Proofs.Ytaniakoadbkadaa

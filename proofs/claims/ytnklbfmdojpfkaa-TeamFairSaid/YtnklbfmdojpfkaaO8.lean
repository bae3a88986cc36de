/- A long region in parts: between them what is not needed any more is dropped. -/
import Derived.Test.YtnklbfmdojpfkaaO7
namespace Go.Oc
open Go Go.RowKit
set_option linter.unusedSimpArgs false
set_option linter.unusedVariables false
set_option linter.unnecessarySimpa false

section
variable {P : Program} {C : Ctx} {s : AS} {ops : Array Oper}
theorem aops_seq2 {Q : AS → Prop} {Q' : Exit → Act → World → Prop} {l2 : List Oper} {n : Nat} (hQ : ∀ s a w, s.n = n → Q s → SRel C s a w → wpList P ops Q' l2 a w) : ∀ (l : List Oper) (s : AS) (a : Act) (w : World), s.n = n → dstOk l.toArray s.n = true → aops P false ops l Q s → SRel C s a w → wpList P ops Q' (l ++ l2) a w
  | [], s, a, w, hn0, _, h, hs => hQ s a w hn0 h hs
  | o :: l, s, a, w, hn0, hd, h, hs => by
    rw [List.cons_append]
    have hd0 : ∀ t, o.dst = some t → t < s.n := dstOk_get (i := 0) hd (by simp)
    have hdl : dstOk l.toArray s.n = true := by
      unfold dstOk at hd ⊢
      simp only [List.all_toArray, List.all_cons, Bool.and_eq_true] at hd ⊢
      exact hd.2
    obtain ⟨p, hp⟩ := hs
    have run : ∀ {s1 : AS}, s1 = s → xop P false o (aops P false ops l Q) s1 → wantA ops s o = some true → wpList P ops Q' (o :: (l ++ l2)) a w := fun e hop hw => by
      subst e
      unfold wpList
      rw [if_pos (wantA_sound hp hw)]
      refine .inl (xop_sound hp hop hd0 fun a' w' p' s' hs' hn hK => ?_)
      exact aops_seq2 hQ l _ a' w' (hn.trans hn0) (by rw [hn]; exact hdl) hK ⟨p', hs'⟩
    have skip : ∀ {s1 : AS}, s1 = s → aops P false ops l Q (s1.put o.dst (.r .ud)) → wantA ops s o = some false → wpList P ops Q' (o :: (l ++ l2)) a w := fun e hop hw => by
      subst e
      unfold wpList
      rw [wantA_sound hp hw]
      simp only [Bool.false_eq_true, if_false]
      have := hp.put' (d := o.dst) (av := .r .ud) (v := undef) (by simp only [AV.rel, RV.rel]) hd0
      exact aops_seq2 hQ l _ _ w ((put_n _ _ _).trans hn0) (by rw [put_n]; exact hdl) hop ⟨p, this⟩
    unfold aops at h
    split at h
    · rename_i hg
      exact run rfl h (by simp [wantA, hg])
    · rename_i g want hg
      split at h
      · rename_i ht
        exact skip rfl h (by simp [wantA, hg, ht])
      · rename_i t ht
        split at h
        · rename_i b hb
          by_cases hw : b = want
          · subst hw
            exact run (put_self hb) (h.1 rfl) (by simp [wantA, hg, ht, hb])
          · have hw' : b = !want := by cases b <;> cases want <;> simp_all
            subst hw'
            exact skip (put_self hb) (h.2 rfl) (by simp [wantA, hg, ht, hb])
        · rename_i hb
          exact skip rfl h (by simp [wantA, hg, ht, hb])
        · exact h.elim

/-- What is left of a region, from a state on. -/
def sops (P : Program) (C : Ctx) (ops : Array Oper) (l : List Oper) (Q : Exit → AS → Prop) (s : AS) : Prop := ∀ a w, SRel C s a w → wpList P ops (fun e a' w' => ∃ s', SRel C s' a' w' ∧ Q e s') l a w
variable {Q : Exit → AS → Prop}
theorem awp_long {id : Nat} {l : List Oper} (h : sops P C l.toArray l Q s) : awp P C (.region id l.toArray false) Q s := fun a w hs => wp_region_list (h a w hs)
theorem sops_take (k : Nat) {l : List Oper} (hd : dstOk (l.take k).toArray s.n = true) (h : ∀ K : AS → Prop, (∀ s', s'.n = s.n → sops P C ops (l.drop k) Q s' → K s') → aops P false ops (l.take k) K s) : sops P C ops l Q s := fun a w hs => by
  have h1 := h (fun s' => s'.n = s.n → sops P C ops (l.drop k) Q s') (fun s' _ hq _ => hq)
  have := aops_seq2 (Q' := fun e a' w' => ∃ s', SRel C s' a' w' ∧ Q e s') (l2 := l.drop k) (n := s.n) (fun s' a' w' hn hq hs' => hq hn a' w' hs') (l.take k) s a w rfl hd h1 hs
  rwa [List.take_append_drop] at this
theorem sops_sub {l : List Oper} {s' : AS} (h : Sub s s') (hq : sops P C ops l Q s') : sops P C ops l Q s := fun a w hs => hq a w (h C a w hs)
theorem sops_end {l : List Oper} (hd : dstOk l.toArray s.n = true) (h : ∀ K : AS → Prop, (∀ s, Q .normal s → K s) → aops P false ops l K s) : sops P C ops l Q s := fun a w hs =>
  aops_seq (fun s a w hq hs => ⟨s, hs, hq⟩) l s a w hd (h _ fun _ h => h) hs
theorem awp_fitV {c : Code} {n : Nat} {F : (Nat → Nat) → List (Nat × AV)} {R : (Nat → Nat) → List (Nat × RowC)} (h : FitV n F R s) (k : ∀ vs, awp P C c Q (st n (F vs) vs (R vs))) : awp P C c Q s := by
  obtain ⟨vs, h⟩ := h
  exact awp_sub h (k vs)
/-- Paths meet again; rows may tell of versions. -/
theorem awp_joinV {n : Nat} {c d : Code} {Q1 : Exit → AS → Prop} {α : Type} (F : α → (Nat → Nat) → List (Nat × AV)) (R : α → (Nat → Nat) → List (Nat × RowC)) (I : α → Prop)
    (h0 : ∀ s, awp P C d Q1 s → Q .normal s) (h1 : awp P C c (andThen (fun s' => ∃ z, I z ∧ FitV n (F z) (R z) s') Q) s) (h2 : ∀ z vs, I z → awp P C d Q1 (st n (F z vs) vs (R z vs))) : awp P C c Q s := by
  refine awp_mono ?_ h1
  intro e s' hq
  cases e with
  | normal =>
    obtain ⟨z, hz, hf⟩ := hq
    exact h0 s' (awp_fitV hf fun vs => h2 z vs hz)
  | _ => exact hq
end
end Go.Oc

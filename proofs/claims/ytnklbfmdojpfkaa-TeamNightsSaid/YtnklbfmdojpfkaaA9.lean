/- What the tests of orders return, by the program and by the document. -/
import Derived.Test.YtnklbfmdojpfkaaA4
import Derived.Test.YtnklbfmdojpfkaaO4
namespace Go.Proofs.Ytnklbfmdojpfkaa
open Go Go.Oc
set_option linter.unusedSimpArgs false
set_option linter.unusedVariables false
set_option maxRecDepth 8000
/-! ### Counting in a map -/
abbrev encI (e : Int × Int) : RV × RV := (i64 e.1, i64 e.2)
def findI (p : Int) : List (Int × Int) → Nat → Option (Nat × Int)
  | [], _ => none
  | e :: l, i => if p = e.1 then some (i, e.2) else findI p l (i + 1)
theorem findK_I (p : Int) : ∀ (M : List (Int × Int)) (i : Nat), findK (i64 p) (M.map encI) i = some ((findI p M i).map fun x => (x.1, i64 x.2))
  | [], i => rfl
  | e :: M, i => by
    simp only [List.map_cons, findK, sameK, if_true, findI]
    by_cases h : p = e.1
    · have : (p == e.1) = true := by simp [h]
      rw [this]; simp [h]
    · have : (p == e.1) = false := by simp [h]
      rw [this, if_neg h]
      exact findK_I p M (i + 1)
theorem findI_some {p : Int} : ∀ {M : List (Int × Int)} {i j : Nat} {v : Int}, findI p M i = some (j, v) → i ≤ j ∧ M[j - i]? = some (p, v)
  | [], _, _, _, h => by simp [findI] at h
  | e :: M, i, j, v, h => by
    unfold findI at h
    split at h
    · rename_i he
      injection h with h; injection h with h1 h2
      subst h1 h2
      refine ⟨Nat.le_refl _, ?_⟩
      rw [Nat.sub_self]
      simp [he]
    · obtain ⟨h1, h2⟩ := findI_some h
      refine ⟨by omega, ?_⟩
      rw [show j - i = (j - (i + 1)) + 1 by omega]
      simpa using h2
theorem findI_none {p : Int} : ∀ {M : List (Int × Int)} {i : Nat}, findI p M i = none → ∀ e ∈ M, e.1 ≠ p
  | [], _, _, e, he => by simp at he
  | x :: M, i, h, e, he => by
    unfold findI at h
    split at h
    · cases h
    · rename_i hx
      rcases List.mem_cons.1 he with rfl | he
      · exact fun e => hx e.symm
      · exact findI_none h e he
def CntOk (M : List (Int × Int)) (q : List Int) : Prop := (∀ e ∈ M, e.2 = (q.count e.1 : Int)) ∧ (∀ p ∈ q, ∃ e ∈ M, e.1 = p) ∧ (M.map (·.1)).Nodup
theorem cnt_nil : CntOk [] [] := ⟨by simp, by simp, by simp⟩
theorem cnt_new {M : List (Int × Int)} {q : List Int} {p : Int} (h : CntOk M q) (hp : ∀ e ∈ M, e.1 ≠ p) : CntOk (M ++ [(p, 1)]) (q ++ [p]) := by
  obtain ⟨h1, h2, h3⟩ := h
  have hq : q.count p = 0 := List.count_eq_zero.2 fun hm => by
    obtain ⟨e, he, e1⟩ := h2 p hm
    exact hp e he e1
  refine ⟨fun e he => ?_, fun x hx => ?_, ?_⟩
  · rcases List.mem_append.1 he with he | he
    · have h0 : List.count e.1 [p] = 0 := List.count_eq_zero.2 (by simpa using hp e he)
      rw [List.count_append, h1 e he, h0]
      simp
    · simp only [List.mem_singleton] at he
      subst he
      rw [List.count_append, hq]
      simp
  · rcases List.mem_append.1 hx with hx | hx
    · obtain ⟨e, he, e1⟩ := h2 x hx
      exact ⟨e, by simp [he], e1⟩
    · simp only [List.mem_singleton] at hx
      exact ⟨(p, 1), by simp, hx.symm⟩
  · rw [List.map_append, List.nodup_append]
    refine ⟨h3, by simp, fun a ha b hb => ?_⟩
    obtain ⟨e, he, rfl⟩ := List.mem_map.1 ha
    simp only [List.map_cons, List.map_nil, List.mem_singleton] at hb
    subst hb
    exact hp e he
theorem cnt_old {M : List (Int × Int)} {q : List Int} {p v : Int} {j : Nat} (h : CntOk M q) (hj : M[j]? = some (p, v)) : CntOk (M.set j (p, v + 1)) (q ++ [p]) := by
  obtain ⟨h1, h2, h3⟩ := h
  have hjl := (List.getElem?_eq_some_iff.1 hj).1
  have hv := h1 _ (List.mem_of_getElem? hj)
  have hmap : (M.set j (p, v + 1)).map (·.1) = M.map (·.1) := by
    refine List.ext_getElem? fun i => ?_
    rw [List.map_set, List.getElem?_set]
    split
    · rename_i e; subst e
      rw [List.length_map, if_pos hjl, List.getElem?_map, hj]; rfl
    · rfl
  refine ⟨fun e he => ?_, fun x hx => ?_, by rw [hmap]; exact h3⟩
  · obtain ⟨i, hi⟩ := List.getElem?_of_mem he
    rw [List.getElem?_set] at hi
    split at hi
    · rename_i eij
      injection hi with hi
      subst hi
      simp only at hv ⊢
      rw [List.count_append, hv]
      simp
    · rename_i eij
      have hm := List.mem_of_getElem? hi
      have hne : e.1 ≠ p := fun e1 => by
        have e2 : (M.map (·.1))[i]? = some p := by rw [List.getElem?_map, hi]; simp [e1]
        have e3 : (M.map (·.1))[j]? = some p := by rw [List.getElem?_map, hj]; rfl
        exact eij ((List.getElem?_inj (by rw [List.length_map]; exact hjl) h3).1 (e3.trans e2.symm))
      have h0 : List.count e.1 [p] = 0 := List.count_eq_zero.2 (by simpa using hne)
      rw [List.count_append, h1 e hm, h0]
      simp
  · rcases List.mem_append.1 hx with hx | hx
    · obtain ⟨e, he, e1⟩ := h2 x hx
      have : x ∈ (M.set j (p, v + 1)).map (·.1) := by rw [hmap]; exact List.mem_map.2 ⟨e, he, e1⟩
      obtain ⟨e', he', e2⟩ := List.mem_map.1 this
      exact ⟨e', he', e2⟩
    · simp only [List.mem_singleton] at hx
      exact ⟨(p, v + 1), List.mem_of_getElem? (i := j) (by rw [List.getElem?_set, if_pos rfl, if_pos hjl]), hx.symm⟩
theorem cnt_le {M : List (Int × Int)} {q : List Int} (h : CntOk M q) (b : Int) (hb : 0 ≤ b) : (∀ e ∈ M, e.2 ≤ b) ↔ (q.all fun p => decide ((q.count p : Int) ≤ b)) = true := by
  obtain ⟨h1, h2, h3⟩ := h
  simp only [List.all_eq_true, decide_eq_true_eq]
  constructor
  · intro h p hp
    obtain ⟨e, he, e1⟩ := h2 p hp
    have := h e he
    rw [h1 e he, e1] at this
    exact this
  · intro h e he
    rw [h1 e he]
    by_cases hm : e.1 ∈ q
    · exact h _ hm
    · rw [List.count_eq_zero.2 hm]; simpa using hb
/-! ### Orders -/
abbrev listsR (l : List (List Int)) : RV := .sl 1 (l.map fun x => [ints x])
def ascB : List Int → Bool
  | x :: y :: _ => decide (x < y)
  | _ => true
def playB (r : Rules) (l : List Int) (g : Game) : Bool := decide ((l.length : Int) = g.pl) && withinL 0 (r.squad - 1) l && ascB l
def orderB (r : Rules) (l : List (List Int)) : Bool :=
  decide (l.length = r.gs.length) && (l.zip r.gs).all (fun p => playB r p.1 p.2) && l.flatten.all (fun p => decide ((l.flatten.count p : Int) ≤ r.most))
theorem rulesB_facts {r : Rules} (h : rulesB r = true) : (1 ≤ r.squad ∧ r.squad ≤ 16) ∧ (1 ≤ r.gs.length ∧ r.gs.length ≤ 20) ∧ (1 ≤ r.most ∧ r.most ≤ 20) ∧ (∀ g ∈ r.gs, (1 ≤ g.pl ∧ g.pl ≤ 2 ∧ g.pl ≤ r.squad) ∧ (1 ≤ g.lg ∧ g.lg ≤ 15) ∧ 0 ≤ g.pt ∧ g.pt ≤ 99) ∧ 0 ≤ r.bonus ∧ r.bonus ≤ 99 := by
  simp only [rulesB, Bool.and_eq_true] at h
  obtain ⟨⟨⟨h1, h2⟩, h3⟩, h4⟩ := h
  have g2 := withinL_mem h2
  have ga := g2 (r.gs.length : Int) (by simp)
  have gb := g2 r.most (by simp)
  refine ⟨withinL_one h1, ⟨by omega, by omega⟩, gb, fun g hg => ?_, withinL_one h4⟩
  have := List.all_eq_true.1 h3 g hg
  simp only [isGameB, Bool.and_eq_true] at this
  obtain ⟨⟨a1, a2⟩, a3⟩ := this
  have b1 := withinL_one a1
  exact ⟨⟨b1.1, by omega, by omega⟩, withinL_one a2, withinL_one a3⟩
theorem zip_get {α β : Type} {l : List α} {m : List β} {i : Nat} {x : α} {y : β} (hx : l[i]? = some x) (hy : m[i]? = some y) : (l.zip m)[i]? = some (x, y) := by
  rw [List.getElem?_zip_eq_some]; exact ⟨hx, hy⟩
theorem order_bad {r : Rules} {l : List (List Int)} {i : Nat} {x : List Int} {g : Game} (hx : l[i]? = some x) (hg : r.gs[i]? = some g) (h : playB r x g = false) : orderB r l = false := by
  have : (l.zip r.gs).all (fun p => playB r p.1 p.2) = false := by
    refine Bool.eq_false_iff.2 fun hl => ?_
    have := List.all_eq_true.1 hl _ (List.mem_of_getElem? (zip_get hx hg))
    rw [h] at this; cases this
  simp [orderB, this]
theorem erase_map {α β : Type} (f : α → β) (L : List α) (j : Nat) : (L.map f).eraseIdx j = (L.eraseIdx j).map f := by
  rw [List.eraseIdx_eq_take_drop_succ, List.eraseIdx_eq_take_drop_succ, List.map_append, List.map_take, List.map_drop]
theorem asc_one {x : List Int} (h : x.length = 1) : ascB x = true := by
  match x, h with
  | [p0], _ => rfl
theorem two_of {x : List Int} (h : x.length = 2) : ∃ p0 p1, x = [p0, p1] := by
  match x, h with
  | [p0, p1], _ => exact ⟨p0, p1, rfl⟩
theorem isOrder_ok (r : Rules) (l : List (List Int)) (hr : rulesB r = true) (hl : l.length ≤ 25) : ACalls Try.prog 47 [.ag (rulesC r), listsR l] (.bo (orderB r l)) := by
  obtain ⟨⟨f1, f2⟩, ⟨f3, f4⟩, ⟨f5, f6⟩, f7, _⟩ := rulesB_facts hr
  refine acalls_st (rs := [.bo (orderB r l)]) [.tmp 4] Try.func47 rfl (by kernel_rfl) Try.ntmps47 rfl (by simp) rfl fun C vs => ?_
  repeat refine awp_seq ?_
  refine awp_reg (by kernel_rfl) fun K hK => ?_
  simp only [go_sem, reduceIte, reduceCtorEq, Nat.reduceEqDiff, Nat.reduceAdd, Nat.reduceSub, Nat.reduceMul, Nat.reduceLeDiff, Nat.reduceLT, Int.reduceToNat, Int.reduceLE, Int.reduceLT, Int.reduceMul, Int.reduceAdd, Int.reduceSub, Int.reduceNeg, Int.reduceEq, Int.reduceNe]
  (try simp (disch := omega) only [wrapI])
  intros
  refine hK _ ?_
  clear hK K
  repeat refine awp_seq ?_
  refine awp_reg (by kernel_rfl) fun K hK => ?_
  simp only [go_sem, reduceIte, reduceCtorEq, Nat.reduceEqDiff, Nat.reduceAdd, Nat.reduceSub, Nat.reduceMul, Nat.reduceLeDiff, Nat.reduceLT, Int.reduceToNat, Int.reduceLE, Int.reduceLT, Int.reduceMul, Int.reduceAdd, Int.reduceSub, Int.reduceNeg, Int.reduceEq, Int.reduceNe]
  (try simp (disch := omega) only [wrapI])
  intro _ _
  by_cases h1 : l.length = r.gs.length
  case neg =>
    have e4 : ((l.length : Int) != r.gs.length) = true := by simp; omega
    rw [e4]
    intros
    refine hK _ ?_
    clear hK K
    repeat refine awp_seq ?_
    refine awp_cond rfl (fun hc => ?_) (fun hc => ?_) <;> (try simp only [go_sem, reduceIte, reduceCtorEq, Nat.reduceEqDiff, Nat.reduceAdd, Nat.reduceSub, Nat.reduceMul, Nat.reduceLeDiff, Nat.reduceLT, Int.reduceToNat, Int.reduceLE, Int.reduceLT, Int.reduceMul, Int.reduceAdd, Int.reduceSub, Int.reduceNeg, Int.reduceEq, Int.reduceNe] at hc)
    repeat refine awp_seq ?_
    refine awp_reg (by kernel_rfl) fun K hK => ?_
    simp only [go_sem, reduceIte, reduceCtorEq, Nat.reduceEqDiff, Nat.reduceAdd, Nat.reduceSub, Nat.reduceMul, Nat.reduceLeDiff, Nat.reduceLT, Int.reduceToNat, Int.reduceLE, Int.reduceLT, Int.reduceMul, Int.reduceAdd, Int.reduceSub, Int.reduceNeg, Int.reduceEq, Int.reduceNe]
    (try simp (disch := omega) only [wrapI])
    intros
    refine hK _ ?_
    clear hK K
    refine awp_ret ?_
    simp only [go_sem, reduceIte, reduceCtorEq, Nat.reduceEqDiff, Nat.reduceAdd, Nat.reduceSub, Nat.reduceMul, Nat.reduceLeDiff, Nat.reduceLT, Int.reduceToNat, Int.reduceLE, Int.reduceLT, Int.reduceMul, Int.reduceAdd, Int.reduceSub, Int.reduceNeg, Int.reduceEq, Int.reduceNe]
    simp [orderB, h1]
  have e4 : ((l.length : Int) != r.gs.length) = false := by simp [h1]
  rw [e4]
  intros
  refine hK _ ?_
  clear hK K
  repeat refine awp_seq ?_
  refine awp_cond rfl (fun hc => ?_) (fun hc => ?_) <;> (try simp only [go_sem, reduceIte, reduceCtorEq, Nat.reduceEqDiff, Nat.reduceAdd, Nat.reduceSub, Nat.reduceMul, Nat.reduceLeDiff, Nat.reduceLT, Int.reduceToNat, Int.reduceLE, Int.reduceLT, Int.reduceMul, Int.reduceAdd, Int.reduceSub, Int.reduceNeg, Int.reduceEq, Int.reduceNe] at hc)
  refine awp_skip ?_
  simp only [go_sem, reduceIte, reduceCtorEq, Nat.reduceEqDiff, Nat.reduceAdd, Nat.reduceSub, Nat.reduceMul, Nat.reduceLeDiff, Nat.reduceLT, Int.reduceToNat, Int.reduceLE, Int.reduceLT, Int.reduceMul, Int.reduceAdd, Int.reduceSub, Int.reduceNeg, Int.reduceEq, Int.reduceNe]
  repeat refine awp_seq ?_
  refine awp_reg (by kernel_rfl) fun K hK => ?_
  simp only [go_sem, reduceIte, reduceCtorEq, Nat.reduceEqDiff, Nat.reduceAdd, Nat.reduceSub, Nat.reduceMul, Nat.reduceLeDiff, Nat.reduceLT, Int.reduceToNat, Int.reduceLE, Int.reduceLT, Int.reduceMul, Int.reduceAdd, Int.reduceSub, Int.reduceNeg, Int.reduceEq, Int.reduceNe]
  (try simp (disch := omega) only [wrapI])
  intros
  refine hK _ ?_
  clear hK K
  repeat refine awp_seq ?_
  refine awp_reg (by kernel_rfl) fun K hK => ?_
  simp only [go_sem, reduceIte, reduceCtorEq, Nat.reduceEqDiff, Nat.reduceAdd, Nat.reduceSub, Nat.reduceMul, Nat.reduceLeDiff, Nat.reduceLT, Int.reduceToNat, Int.reduceLE, Int.reduceLT, Int.reduceMul, Int.reduceAdd, Int.reduceSub, Int.reduceNeg, Int.reduceEq, Int.reduceNe]
  (try simp (disch := omega) only [wrapI])
  intros
  refine hK _ ?_
  clear hK K
  repeat refine awp_seq ?_
  refine awp_block ?_
  refine awp_while (n := 83) (fun (x : Nat × List (Int × Int)) vs => [(1, .r (listsR l)), (2, .pt 2 (vs 2) 0), (5, .mp 19 (vs 19)), (20, .r (listsR l)), (21, .r (i64 l.length)), (22, .r (i64 x.1))])
    (fun x => [(2, .box [.r (i64 r.squad), .r (games r.gs), .r (i64 r.most), .r (i64 r.bonus)]), (19, .mp (x.2.map encI))])
    (fun x => x.1 ≤ l.length ∧ ((l.zip r.gs).take x.1).all (fun p => playB r p.1 p.2) = true ∧ CntOk x.2 (l.take x.1).flatten ∧ (l.take x.1).flatten.length ≤ 2 * x.1) (fun x => l.length - x.1) (0, []) (fit_of [] ?_ ?_) ⟨by simp, by simp, by simpa using cnt_nil, by simp⟩ ?_
  · simp only [go_sem, reduceIte, reduceCtorEq, Nat.reduceEqDiff, Nat.reduceAdd, Nat.reduceSub, Nat.reduceMul, Nat.reduceLeDiff, Nat.reduceLT, Int.reduceToNat, Int.reduceLE, Int.reduceLT, Int.reduceMul, Int.reduceAdd, Int.reduceSub, Int.reduceNeg, Int.reduceEq, Int.reduceNe]
  · simp only [go_sem, reduceIte, reduceCtorEq, Nat.reduceEqDiff, Nat.reduceAdd, Nat.reduceSub, Nat.reduceMul, Nat.reduceLeDiff, Nat.reduceLT, Int.reduceToNat, Int.reduceLE, Int.reduceLT, Int.reduceMul, Int.reduceAdd, Int.reduceSub, Int.reduceNeg, Int.reduceEq, Int.reduceNe]
  · rintro ⟨i, M⟩ vs ⟨hi, hI, hM, hL⟩
    simp only at hi hI hM hL
    repeat refine awp_seq ?_
    refine awp_reg (by kernel_rfl) fun K hK => ?_
    simp only [go_sem, reduceIte, reduceCtorEq, Nat.reduceEqDiff, Nat.reduceAdd, Nat.reduceSub, Nat.reduceMul, Nat.reduceLeDiff, Nat.reduceLT, Int.reduceToNat, Int.reduceLE, Int.reduceLT, Int.reduceMul, Int.reduceAdd, Int.reduceSub, Int.reduceNeg, Int.reduceEq, Int.reduceNe]
    (try simp (disch := omega) only [wrapI])
    intros
    refine hK _ ?_
    clear hK K
    repeat refine awp_seq ?_
    refine awp_cond rfl (fun hc => ?_) (fun hc => ?_) <;> (try simp only [go_sem, reduceIte, reduceCtorEq, Nat.reduceEqDiff, Nat.reduceAdd, Nat.reduceSub, Nat.reduceMul, Nat.reduceLeDiff, Nat.reduceLT, Int.reduceToNat, Int.reduceLE, Int.reduceLT, Int.reduceMul, Int.reduceAdd, Int.reduceSub, Int.reduceNeg, Int.reduceEq, Int.reduceNe] at hc)
    · have hci := hc
      obtain ⟨x, hx⟩ := opt_of_lt hci
      have hc2 : i < r.gs.length := by omega
      obtain ⟨g, hg⟩ := opt_of_lt hc2
      obtain ⟨⟨g1, g2, g3⟩, _⟩ := f7 g (mem_of_opt hg)
      have hbad := order_bad hx hg
      refine awp_skip ?_
      repeat refine awp_seq ?_
      refine awp_block ?_
      repeat refine awp_seq ?_
      refine awp_reg (by kernel_rfl) fun K hK => ?_
      simp only [go_sem, reduceIte, reduceCtorEq, Nat.reduceEqDiff, Nat.reduceAdd, Nat.reduceSub, Nat.reduceMul, Nat.reduceLeDiff, Nat.reduceLT, Int.reduceToNat, Int.reduceLE, Int.reduceLT, Int.reduceMul, Int.reduceAdd, Int.reduceSub, Int.reduceNeg, Int.reduceEq, Int.reduceNe, hx, hci]
      (try simp (disch := omega) only [wrapI])
      intros
      refine hK _ ?_
      clear hK K
      refine awp_seq ?_
      refine awp_join (n := 83) (fun (z : Unit) vs => [(1, .r (listsR l)), (2, .pt 2 (vs 2) 0), (5, .mp 19 (vs 19)), (7, .r (ints x)), (20, .r (listsR l)), (21, .r (i64 l.length)), (22, .r (i64 i))])
        (fun _ => [(2, .box [.r (i64 r.squad), .r (games r.gs), .r (i64 r.most), .r (i64 r.bonus)]), (19, .mp (M.map encI))]) (fun _ => playB r x g = true) (fun _ h => h) ?_ ?_
      · repeat refine awp_seq ?_
        refine awp_dreg follows (by kernel_rfl) (by kernel_rfl) fun K hK => ?_
        simp only [go_sem, reduceIte, reduceCtorEq, Nat.reduceEqDiff, Nat.reduceAdd, Nat.reduceSub, Nat.reduceMul, Nat.reduceLeDiff, Nat.reduceLT, Int.reduceToNat, Int.reduceLE, Int.reduceLT, Int.reduceMul, Int.reduceAdd, Int.reduceSub, Int.reduceNeg, Int.reduceEq, Int.reduceNe, hg, hc2]
        (try simp (disch := omega) only [wrapI])
        intro _
        by_cases h2 : (x.length : Int) = g.pl
        case neg =>
          have e5 : ((x.length : Int) != g.pl) = true := by simp [h2]
          simp only [e5, go_sem, reduceIte, reduceCtorEq, Nat.reduceEqDiff, Nat.reduceAdd, Nat.reduceSub, Nat.reduceMul, Nat.reduceLeDiff, Nat.reduceLT, Int.reduceToNat, Int.reduceLE, Int.reduceLT, Int.reduceMul, Int.reduceAdd, Int.reduceSub, Int.reduceNeg, Int.reduceEq, Int.reduceNe]
          intros
          refine hK _ ?_
          clear hK K
          repeat refine awp_seq ?_
          refine awp_cond rfl (fun hc => ?_) (fun hc => ?_) <;> (try simp only [go_sem, reduceIte, reduceCtorEq, Nat.reduceEqDiff, Nat.reduceAdd, Nat.reduceSub, Nat.reduceMul, Nat.reduceLeDiff, Nat.reduceLT, Int.reduceToNat, Int.reduceLE, Int.reduceLT, Int.reduceMul, Int.reduceAdd, Int.reduceSub, Int.reduceNeg, Int.reduceEq, Int.reduceNe] at hc)
          repeat refine awp_seq ?_
          refine awp_reg (by kernel_rfl) fun K hK => ?_
          simp only [go_sem, reduceIte, reduceCtorEq, Nat.reduceEqDiff, Nat.reduceAdd, Nat.reduceSub, Nat.reduceMul, Nat.reduceLeDiff, Nat.reduceLT, Int.reduceToNat, Int.reduceLE, Int.reduceLT, Int.reduceMul, Int.reduceAdd, Int.reduceSub, Int.reduceNeg, Int.reduceEq, Int.reduceNe]
          (try simp (disch := omega) only [wrapI])
          intros
          refine hK _ ?_
          clear hK K
          refine awp_ret ?_
          simp only [go_sem, reduceIte, reduceCtorEq, Nat.reduceEqDiff, Nat.reduceAdd, Nat.reduceSub, Nat.reduceMul, Nat.reduceLeDiff, Nat.reduceLT, Int.reduceToNat, Int.reduceLE, Int.reduceLT, Int.reduceMul, Int.reduceAdd, Int.reduceSub, Int.reduceNeg, Int.reduceEq, Int.reduceNe]
          rw [hbad (by simp [playB, h2])]
        have e5 : ((x.length : Int) != g.pl) = false := by simp [h2]
        simp only [e5, go_sem, reduceIte, reduceCtorEq, Nat.reduceEqDiff, Nat.reduceAdd, Nat.reduceSub, Nat.reduceMul, Nat.reduceLeDiff, Nat.reduceLT, Int.reduceToNat, Int.reduceLE, Int.reduceLT, Int.reduceMul, Int.reduceAdd, Int.reduceSub, Int.reduceNeg, Int.reduceEq, Int.reduceNe]
        refine xcall_eq (within_ok 0 (r.squad - 1) x) rfl (by simp only [go_sem, reduceIte, reduceCtorEq, Nat.reduceEqDiff, Nat.reduceAdd, Nat.reduceSub, Nat.reduceMul, Nat.reduceLeDiff, Nat.reduceLT, Int.reduceToNat, Int.reduceLE, Int.reduceLT, Int.reduceMul, Int.reduceAdd, Int.reduceSub, Int.reduceNeg, Int.reduceEq, Int.reduceNe, i64, ints]) (by simp only [go_sem, reduceIte, reduceCtorEq, Nat.reduceEqDiff, Nat.reduceAdd, Nat.reduceSub, Nat.reduceMul, Nat.reduceLeDiff, Nat.reduceLT, Int.reduceToNat, Int.reduceLE, Int.reduceLT, Int.reduceMul, Int.reduceAdd, Int.reduceSub, Int.reduceNeg, Int.reduceEq, Int.reduceNe, i64, ints]) (by first | exact .inl rfl | exact .inr rfl) ?_
        (try simp only [go_sem, reduceIte, reduceCtorEq, Nat.reduceEqDiff, Nat.reduceAdd, Nat.reduceSub, Nat.reduceMul, Nat.reduceLeDiff, Nat.reduceLT, Int.reduceToNat, Int.reduceLE, Int.reduceLT, Int.reduceMul, Int.reduceAdd, Int.reduceSub, Int.reduceNeg, Int.reduceEq, Int.reduceNe])
        (try simp (disch := omega) only [wrapI])
        cases h3 : withinL 0 (r.squad - 1) x
        · simp only [go_sem, reduceIte, reduceCtorEq, Nat.reduceEqDiff, Nat.reduceAdd, Nat.reduceSub, Nat.reduceMul, Nat.reduceLeDiff, Nat.reduceLT, Int.reduceToNat, Int.reduceLE, Int.reduceLT, Int.reduceMul, Int.reduceAdd, Int.reduceSub, Int.reduceNeg, Int.reduceEq, Int.reduceNe]
          intros
          refine hK _ ?_
          clear hK K
          repeat refine awp_seq ?_
          refine awp_cond rfl (fun hc => ?_) (fun hc => ?_) <;> (try simp only [go_sem, reduceIte, reduceCtorEq, Nat.reduceEqDiff, Nat.reduceAdd, Nat.reduceSub, Nat.reduceMul, Nat.reduceLeDiff, Nat.reduceLT, Int.reduceToNat, Int.reduceLE, Int.reduceLT, Int.reduceMul, Int.reduceAdd, Int.reduceSub, Int.reduceNeg, Int.reduceEq, Int.reduceNe] at hc)
          repeat refine awp_seq ?_
          refine awp_reg (by kernel_rfl) fun K hK => ?_
          simp only [go_sem, reduceIte, reduceCtorEq, Nat.reduceEqDiff, Nat.reduceAdd, Nat.reduceSub, Nat.reduceMul, Nat.reduceLeDiff, Nat.reduceLT, Int.reduceToNat, Int.reduceLE, Int.reduceLT, Int.reduceMul, Int.reduceAdd, Int.reduceSub, Int.reduceNeg, Int.reduceEq, Int.reduceNe]
          (try simp (disch := omega) only [wrapI])
          intros
          refine hK _ ?_
          clear hK K
          refine awp_ret ?_
          simp only [go_sem, reduceIte, reduceCtorEq, Nat.reduceEqDiff, Nat.reduceAdd, Nat.reduceSub, Nat.reduceMul, Nat.reduceLeDiff, Nat.reduceLT, Int.reduceToNat, Int.reduceLE, Int.reduceLT, Int.reduceMul, Int.reduceAdd, Int.reduceSub, Int.reduceNeg, Int.reduceEq, Int.reduceNe]
          rw [hbad (by simp [playB, h3])]
        simp only [go_sem, reduceIte, reduceCtorEq, Nat.reduceEqDiff, Nat.reduceAdd, Nat.reduceSub, Nat.reduceMul, Nat.reduceLeDiff, Nat.reduceLT, Int.reduceToNat, Int.reduceLE, Int.reduceLT, Int.reduceMul, Int.reduceAdd, Int.reduceSub, Int.reduceNeg, Int.reduceEq, Int.reduceNe]
        intro _
        have hlen : x.length = 1 ∨ x.length = 2 := by omega
        rcases hlen with hlen | hlen
        · have e6 : ((1 : Int) < x.length) = False := by simp; omega
          simp only [e6, go_sem, reduceIte, reduceCtorEq, Nat.reduceEqDiff, Nat.reduceAdd, Nat.reduceSub, Nat.reduceMul, Nat.reduceLeDiff, Nat.reduceLT, Int.reduceToNat, Int.reduceLE, Int.reduceLT, Int.reduceMul, Int.reduceAdd, Int.reduceSub, Int.reduceNeg, Int.reduceEq, Int.reduceNe]
          intros
          refine hK _ ?_
          clear hK K
          repeat refine awp_seq ?_
          refine awp_cond rfl (fun hc => ?_) (fun hc => ?_) <;> (try simp only [go_sem, reduceIte, reduceCtorEq, Nat.reduceEqDiff, Nat.reduceAdd, Nat.reduceSub, Nat.reduceMul, Nat.reduceLeDiff, Nat.reduceLT, Int.reduceToNat, Int.reduceLE, Int.reduceLT, Int.reduceMul, Int.reduceAdd, Int.reduceSub, Int.reduceNeg, Int.reduceEq, Int.reduceNe] at hc)
          refine awp_skip ?_
          have := asc_one hlen
          exact ⟨(), by simp [playB, h2, h3, this], fit_of [] (by simp only [go_sem, reduceIte, reduceCtorEq, Nat.reduceEqDiff, Nat.reduceAdd, Nat.reduceSub, Nat.reduceMul, Nat.reduceLeDiff, Nat.reduceLT, Int.reduceToNat, Int.reduceLE, Int.reduceLT, Int.reduceMul, Int.reduceAdd, Int.reduceSub, Int.reduceNeg, Int.reduceEq, Int.reduceNe]) rfl⟩
        · have e6 : ((1 : Int) < x.length) = True := by simp; omega
          obtain ⟨p0, p1, rfl⟩ := two_of hlen
          have hx0 : ([p0, p1] : List Int)[0]? = some p0 := rfl
          have hx1 : ([p0, p1] : List Int)[1]? = some p1 := rfl
          simp only [e6, hx0, hx1, go_sem, reduceIte, reduceCtorEq, Nat.reduceEqDiff, Nat.reduceAdd, Nat.reduceSub, Nat.reduceMul, Nat.reduceLeDiff, Nat.reduceLT, Int.reduceToNat, Int.reduceLE, Int.reduceLT, Int.reduceMul, Int.reduceAdd, Int.reduceSub, Int.reduceNeg, Int.reduceEq, Int.reduceNe]
          intros
          refine hK _ ?_
          clear hK K
          by_cases h5 : p1 ≤ p0
          · have e7 : decide (p1 ≤ p0) = true := by simp [h5]
            rw [e7]
            repeat refine awp_seq ?_
            refine awp_cond rfl (fun hc => ?_) (fun hc => ?_) <;> (try simp only [go_sem, reduceIte, reduceCtorEq, Nat.reduceEqDiff, Nat.reduceAdd, Nat.reduceSub, Nat.reduceMul, Nat.reduceLeDiff, Nat.reduceLT, Int.reduceToNat, Int.reduceLE, Int.reduceLT, Int.reduceMul, Int.reduceAdd, Int.reduceSub, Int.reduceNeg, Int.reduceEq, Int.reduceNe] at hc)
            repeat refine awp_seq ?_
            refine awp_reg (by kernel_rfl) fun K hK => ?_
            simp only [go_sem, reduceIte, reduceCtorEq, Nat.reduceEqDiff, Nat.reduceAdd, Nat.reduceSub, Nat.reduceMul, Nat.reduceLeDiff, Nat.reduceLT, Int.reduceToNat, Int.reduceLE, Int.reduceLT, Int.reduceMul, Int.reduceAdd, Int.reduceSub, Int.reduceNeg, Int.reduceEq, Int.reduceNe]
            (try simp (disch := omega) only [wrapI])
            intros
            refine hK _ ?_
            clear hK K
            refine awp_ret ?_
            simp only [go_sem, reduceIte, reduceCtorEq, Nat.reduceEqDiff, Nat.reduceAdd, Nat.reduceSub, Nat.reduceMul, Nat.reduceLeDiff, Nat.reduceLT, Int.reduceToNat, Int.reduceLE, Int.reduceLT, Int.reduceMul, Int.reduceAdd, Int.reduceSub, Int.reduceNeg, Int.reduceEq, Int.reduceNe]
            rw [hbad (by simp [playB, ascB]; omega)]
          · have e7 : decide (p1 ≤ p0) = false := by simp [h5]
            rw [e7]
            repeat refine awp_seq ?_
            refine awp_cond rfl (fun hc => ?_) (fun hc => ?_) <;> (try simp only [go_sem, reduceIte, reduceCtorEq, Nat.reduceEqDiff, Nat.reduceAdd, Nat.reduceSub, Nat.reduceMul, Nat.reduceLeDiff, Nat.reduceLT, Int.reduceToNat, Int.reduceLE, Int.reduceLT, Int.reduceMul, Int.reduceAdd, Int.reduceSub, Int.reduceNeg, Int.reduceEq, Int.reduceNe] at hc)
            refine awp_skip ?_
            exact ⟨(), by simp only [playB, h2, h3, ascB]; simp; omega, fit_of [] (by simp only [go_sem, reduceIte, reduceCtorEq, Nat.reduceEqDiff, Nat.reduceAdd, Nat.reduceSub, Nat.reduceMul, Nat.reduceLeDiff, Nat.reduceLT, Int.reduceToNat, Int.reduceLE, Int.reduceLT, Int.reduceMul, Int.reduceAdd, Int.reduceSub, Int.reduceNeg, Int.reduceEq, Int.reduceNe]) rfl⟩
      · rintro ⟨⟩ vs hp
        have hp' := hp
        simp only [playB, Bool.and_eq_true, decide_eq_true_eq] at hp'
        obtain ⟨⟨hp1, hp2⟩, hp3⟩ := hp'
        repeat refine awp_seq ?_
        refine awp_reg (by kernel_rfl) fun K hK => ?_
        simp only [go_sem, reduceIte, reduceCtorEq, Nat.reduceEqDiff, Nat.reduceAdd, Nat.reduceSub, Nat.reduceMul, Nat.reduceLeDiff, Nat.reduceLT, Int.reduceToNat, Int.reduceLE, Int.reduceLT, Int.reduceMul, Int.reduceAdd, Int.reduceSub, Int.reduceNeg, Int.reduceEq, Int.reduceNe]
        (try simp (disch := omega) only [wrapI])
        intro _
        intros
        refine hK _ ?_
        clear hK K
        repeat refine awp_seq ?_
        refine awp_block ?_
        refine awp_while (n := 83) (fun (y : Nat × List (Int × Int)) vs => [(1, .r (listsR l)), (2, .pt 2 (vs 2) 0), (5, .mp 19 (vs 19)), (20, .r (listsR l)), (21, .r (i64 l.length)), (22, .r (i64 i)), (60, .r (ints x)), (61, .r (i64 x.length)), (62, .r (i64 y.1))])
          (fun y => [(2, .box [.r (i64 r.squad), .r (games r.gs), .r (i64 r.most), .r (i64 r.bonus)]), (19, .mp (y.2.map encI))])
          (fun y => y.1 ≤ x.length ∧ CntOk y.2 ((l.take i).flatten ++ x.take y.1)) (fun y => x.length - y.1) (0, M) (fit_of [] ?_ rfl) ⟨by simp, by simpa using hM⟩ ?_
        · simp only [go_sem, reduceIte, reduceCtorEq, Nat.reduceEqDiff, Nat.reduceAdd, Nat.reduceSub, Nat.reduceMul, Nat.reduceLeDiff, Nat.reduceLT, Int.reduceToNat, Int.reduceLE, Int.reduceLT, Int.reduceMul, Int.reduceAdd, Int.reduceSub, Int.reduceNeg, Int.reduceEq, Int.reduceNe]
        · rintro ⟨k, M'⟩ vs ⟨hk, hM'⟩
          simp only at hk hM'
          repeat refine awp_seq ?_
          refine awp_reg (by kernel_rfl) fun K hK => ?_
          simp only [go_sem, reduceIte, reduceCtorEq, Nat.reduceEqDiff, Nat.reduceAdd, Nat.reduceSub, Nat.reduceMul, Nat.reduceLeDiff, Nat.reduceLT, Int.reduceToNat, Int.reduceLE, Int.reduceLT, Int.reduceMul, Int.reduceAdd, Int.reduceSub, Int.reduceNeg, Int.reduceEq, Int.reduceNe]
          (try simp (disch := omega) only [wrapI])
          intros
          refine hK _ ?_
          clear hK K
          repeat refine awp_seq ?_
          refine awp_cond rfl (fun hc => ?_) (fun hc => ?_) <;> (try simp only [go_sem, reduceIte, reduceCtorEq, Nat.reduceEqDiff, Nat.reduceAdd, Nat.reduceSub, Nat.reduceMul, Nat.reduceLeDiff, Nat.reduceLT, Int.reduceToNat, Int.reduceLE, Int.reduceLT, Int.reduceMul, Int.reduceAdd, Int.reduceSub, Int.reduceNeg, Int.reduceEq, Int.reduceNe] at hc)
          · have hck := hc
            obtain ⟨p, hpx⟩ := opt_of_lt hck
            refine awp_skip ?_
            repeat refine awp_seq ?_
            refine awp_block ?_
            repeat refine awp_seq ?_
            refine awp_reg (by kernel_rfl) fun K hK => ?_
            simp only [go_sem, reduceIte, reduceCtorEq, Nat.reduceEqDiff, Nat.reduceAdd, Nat.reduceSub, Nat.reduceMul, Nat.reduceLeDiff, Nat.reduceLT, Int.reduceToNat, Int.reduceLE, Int.reduceLT, Int.reduceMul, Int.reduceAdd, Int.reduceSub, Int.reduceNeg, Int.reduceEq, Int.reduceNe, hpx, hck]
            (try simp (disch := omega) only [wrapI])
            intros
            refine hK _ ?_
            clear hK K
            have hfk := findK_I p M' 0
            cases hf : findI p M' 0 with
            | none =>
              rw [hf] at hfk
              have hnew := cnt_new hM' (findI_none hf)
              repeat refine awp_seq ?_
              refine awp_reg (by kernel_rfl) fun K hK => ?_
              simp only [go_sem, reduceIte, reduceCtorEq, Nat.reduceEqDiff, Nat.reduceAdd, Nat.reduceSub, Nat.reduceMul, Nat.reduceLeDiff, Nat.reduceLT, Int.reduceToNat, Int.reduceLE, Int.reduceLT, Int.reduceMul, Int.reduceAdd, Int.reduceSub, Int.reduceNeg, Int.reduceEq, Int.reduceNe, hfk, Option.map_none]
              (try simp (disch := omega) only [wrapI])
              intros
              refine hK _ ?_
              clear hK K
              simp only [go_sem, reduceIte, reduceCtorEq, Nat.reduceEqDiff, Nat.reduceAdd, Nat.reduceSub, Nat.reduceMul, Nat.reduceLeDiff, Nat.reduceLT, Int.reduceToNat, Int.reduceLE, Int.reduceLT, Int.reduceMul, Int.reduceAdd, Int.reduceSub, Int.reduceNeg, Int.reduceEq, Int.reduceNe]
              repeat refine awp_seq ?_
              refine awp_reg (by kernel_rfl) fun K hK => ?_
              simp only [go_sem, reduceIte, reduceCtorEq, Nat.reduceEqDiff, Nat.reduceAdd, Nat.reduceSub, Nat.reduceMul, Nat.reduceLeDiff, Nat.reduceLT, Int.reduceToNat, Int.reduceLE, Int.reduceLT, Int.reduceMul, Int.reduceAdd, Int.reduceSub, Int.reduceNeg, Int.reduceEq, Int.reduceNe]
              (try simp (disch := omega) only [wrapI])
              intros
              refine hK _ ?_
              clear hK K
              simp only [go_sem, reduceIte, reduceCtorEq, Nat.reduceEqDiff, Nat.reduceAdd, Nat.reduceSub, Nat.reduceMul, Nat.reduceLeDiff, Nat.reduceLT, Int.reduceToNat, Int.reduceLE, Int.reduceLT, Int.reduceMul, Int.reduceAdd, Int.reduceSub, Int.reduceNeg, Int.reduceEq, Int.reduceNe]
              refine ⟨(k + 1, M' ++ [(p, 1)]), ⟨hck, ?_⟩, ?_, fit_of [] ?_ ?_⟩
              · rw [take_of_opt hpx, ← List.append_assoc]; exact hnew
              · simp only; omega
              · simp only [go_sem, reduceIte, reduceCtorEq, Nat.reduceEqDiff, Nat.reduceAdd, Nat.reduceSub, Nat.reduceMul, Nat.reduceLeDiff, Nat.reduceLT, Int.reduceToNat, Int.reduceLE, Int.reduceLT, Int.reduceMul, Int.reduceAdd, Int.reduceSub, Int.reduceNeg, Int.reduceEq, Int.reduceNe]
              · simp only [killC, List.map_append, List.map_cons, List.map_nil]
            | some jv =>
              obtain ⟨j, v⟩ := jv
              rw [hf] at hfk
              obtain ⟨_, hj⟩ := findI_some hf
              rw [Nat.sub_zero] at hj
              have hold := cnt_old hM' hj
              have hv : v ≤ 60 := by
                have h0 := hM'.1 _ (List.mem_of_getElem? hj)
                have h00 := List.count_le_length (a := p) (l := (l.take i).flatten ++ x.take k)
                simp only [List.length_append, List.length_take] at h00
                simp only at h0
                omega
              have hv0 : 0 ≤ v := by
                have h0 := hM'.1 _ (List.mem_of_getElem? hj)
                simp only at h0
                omega
              repeat refine awp_seq ?_
              refine awp_reg (by kernel_rfl) fun K hK => ?_
              simp only [go_sem, reduceIte, reduceCtorEq, Nat.reduceEqDiff, Nat.reduceAdd, Nat.reduceSub, Nat.reduceMul, Nat.reduceLeDiff, Nat.reduceLT, Int.reduceToNat, Int.reduceLE, Int.reduceLT, Int.reduceMul, Int.reduceAdd, Int.reduceSub, Int.reduceNeg, Int.reduceEq, Int.reduceNe, hfk, Option.map_some]
              (try simp (disch := omega) only [wrapI])
              intros
              refine hK _ ?_
              clear hK K
              simp only [go_sem, reduceIte, reduceCtorEq, Nat.reduceEqDiff, Nat.reduceAdd, Nat.reduceSub, Nat.reduceMul, Nat.reduceLeDiff, Nat.reduceLT, Int.reduceToNat, Int.reduceLE, Int.reduceLT, Int.reduceMul, Int.reduceAdd, Int.reduceSub, Int.reduceNeg, Int.reduceEq, Int.reduceNe]
              repeat refine awp_seq ?_
              refine awp_reg (by kernel_rfl) fun K hK => ?_
              simp only [go_sem, reduceIte, reduceCtorEq, Nat.reduceEqDiff, Nat.reduceAdd, Nat.reduceSub, Nat.reduceMul, Nat.reduceLeDiff, Nat.reduceLT, Int.reduceToNat, Int.reduceLE, Int.reduceLT, Int.reduceMul, Int.reduceAdd, Int.reduceSub, Int.reduceNeg, Int.reduceEq, Int.reduceNe]
              (try simp (disch := omega) only [wrapI])
              intros
              refine hK _ ?_
              clear hK K
              simp only [go_sem, reduceIte, reduceCtorEq, Nat.reduceEqDiff, Nat.reduceAdd, Nat.reduceSub, Nat.reduceMul, Nat.reduceLeDiff, Nat.reduceLT, Int.reduceToNat, Int.reduceLE, Int.reduceLT, Int.reduceMul, Int.reduceAdd, Int.reduceSub, Int.reduceNeg, Int.reduceEq, Int.reduceNe]
              refine ⟨(k + 1, M'.set j (p, v + 1)), ⟨hck, ?_⟩, ?_, fit_of [] ?_ ?_⟩
              · rw [take_of_opt hpx, ← List.append_assoc]; exact hold
              · simp only; omega
              · simp only [go_sem, reduceIte, reduceCtorEq, Nat.reduceEqDiff, Nat.reduceAdd, Nat.reduceSub, Nat.reduceMul, Nat.reduceLeDiff, Nat.reduceLT, Int.reduceToNat, Int.reduceLE, Int.reduceLT, Int.reduceMul, Int.reduceAdd, Int.reduceSub, Int.reduceNeg, Int.reduceEq, Int.reduceNe]
              · simp only [killC, List.map_set]
          · have : k = x.length := by omega
            subst this
            rw [List.take_length] at hM'
            refine awp_exit ?_
            simp only [go_sem, reduceIte, reduceCtorEq, Nat.reduceEqDiff, Nat.reduceAdd, Nat.reduceSub, Nat.reduceMul, Nat.reduceLeDiff, Nat.reduceLT, Int.reduceToNat, Int.reduceLE, Int.reduceLT, Int.reduceMul, Int.reduceAdd, Int.reduceSub, Int.reduceNeg, Int.reduceEq, Int.reduceNe]
            repeat refine awp_seq ?_
            refine awp_reg (by kernel_rfl) fun K hK => ?_
            simp only [go_sem, reduceIte, reduceCtorEq, Nat.reduceEqDiff, Nat.reduceAdd, Nat.reduceSub, Nat.reduceMul, Nat.reduceLeDiff, Nat.reduceLT, Int.reduceToNat, Int.reduceLE, Int.reduceLT, Int.reduceMul, Int.reduceAdd, Int.reduceSub, Int.reduceNeg, Int.reduceEq, Int.reduceNe]
            (try simp (disch := omega) only [wrapI])
            intros
            refine hK _ ?_
            clear hK K
            simp only [go_sem, reduceIte, reduceCtorEq, Nat.reduceEqDiff, Nat.reduceAdd, Nat.reduceSub, Nat.reduceMul, Nat.reduceLeDiff, Nat.reduceLT, Int.reduceToNat, Int.reduceLE, Int.reduceLT, Int.reduceMul, Int.reduceAdd, Int.reduceSub, Int.reduceNeg, Int.reduceEq, Int.reduceNe]
            refine ⟨(i + 1, M'), ⟨hci, ?_, ?_, ?_⟩, ?_, fit_of [] ?_ rfl⟩
            · rw [take_of_opt (zip_get hx hg), List.all_append, hI]
              simp [hp]
            · rw [take_of_opt hx]; simpa using hM'
            · rw [take_of_opt hx, List.flatten_append, List.length_append]
              simp only [List.flatten_cons, List.flatten_nil, List.append_nil]
              omega
            · simp only; omega
            · simp only [go_sem, reduceIte, reduceCtorEq, Nat.reduceEqDiff, Nat.reduceAdd, Nat.reduceSub, Nat.reduceMul, Nat.reduceLeDiff, Nat.reduceLT, Int.reduceToNat, Int.reduceLE, Int.reduceLT, Int.reduceMul, Int.reduceAdd, Int.reduceSub, Int.reduceNeg, Int.reduceEq, Int.reduceNe]
    · have : i = l.length := by omega
      subst this
      rw [List.take_length] at hM
      rw [List.take_of_length_le (by rw [List.length_zip]; omega)] at hI
      have hcl := cnt_le hM r.most (by omega)
      have hord : orderB r l = l.flatten.all (fun p => decide ((l.flatten.count p : Int) ≤ r.most)) := by
        simp only [orderB, h1, decide_true, Bool.true_and]
        rw [show (l.zip r.gs).all (fun p => playB r p.1 p.2) = true from hI, Bool.true_and]
      refine awp_exit ?_
      simp only [go_sem, reduceIte, reduceCtorEq, Nat.reduceEqDiff, Nat.reduceAdd, Nat.reduceSub, Nat.reduceMul, Nat.reduceLeDiff, Nat.reduceLT, Int.reduceToNat, Int.reduceLE, Int.reduceLT, Int.reduceMul, Int.reduceAdd, Int.reduceSub, Int.reduceNeg, Int.reduceEq, Int.reduceNe]
      repeat refine awp_seq ?_
      refine awp_reg (by kernel_rfl) fun K hK => ?_
      simp only [go_sem, reduceIte, reduceCtorEq, Nat.reduceEqDiff, Nat.reduceAdd, Nat.reduceSub, Nat.reduceMul, Nat.reduceLeDiff, Nat.reduceLT, Int.reduceToNat, Int.reduceLE, Int.reduceLT, Int.reduceMul, Int.reduceAdd, Int.reduceSub, Int.reduceNeg, Int.reduceEq, Int.reduceNe]
      (try simp (disch := omega) only [wrapI])
      refine ⟨by decide, ?_⟩
      intros
      refine hK _ ?_
      clear hK K
      repeat refine awp_seq ?_
      refine awp_block ?_
      refine awp_whileV (n := 83) (fun (x : List (Int × Int) × Option (RV × RV)) vs => [(2, .pt 2 (vs 2) 0), (73, .mi 73 (vs 73))])
        (fun x vs => [(2, .box [.r (i64 r.squad), .r (games r.gs), .r (i64 r.most), .r (i64 r.bonus)]), (19, .mpi (M.map encI)), (73, .mi 19 (vs 19) (x.1.map encI) x.2)])
        (fun x => (∀ e ∈ x.1, e ∈ M) ∧ ∀ e ∈ M, e ∈ x.1 ∨ e.2 ≤ r.most) (fun x => x.1.length) (M, none) (fitV_of [] ?_ ?_) ⟨fun _ h => h, fun _ h => .inl h⟩ ?_
      · simp only [go_sem, reduceIte, reduceCtorEq, Nat.reduceEqDiff, Nat.reduceAdd, Nat.reduceSub, Nat.reduceMul, Nat.reduceLeDiff, Nat.reduceLT, Int.reduceToNat, Int.reduceLE, Int.reduceLT, Int.reduceMul, Int.reduceAdd, Int.reduceSub, Int.reduceNeg, Int.reduceEq, Int.reduceNe]
      · simp only [go_sem, reduceIte, reduceCtorEq, Nat.reduceEqDiff, Nat.reduceAdd, Nat.reduceSub, Nat.reduceMul, Nat.reduceLeDiff, Nat.reduceLT, Int.reduceToNat, Int.reduceLE, Int.reduceLT, Int.reduceMul, Int.reduceAdd, Int.reduceSub, Int.reduceNeg, Int.reduceEq, Int.reduceNe]
      · rintro ⟨L, cur⟩ vs ⟨hL1, hL2⟩
        simp only at hL1 hL2
        repeat refine awp_seq ?_
        refine awp_reg (by kernel_rfl) fun K hK => ?_
        simp only [go_sem, reduceIte, reduceCtorEq, Nat.reduceEqDiff, Nat.reduceAdd, Nat.reduceSub, Nat.reduceMul, Nat.reduceLeDiff, Nat.reduceLT, Int.reduceToNat, Int.reduceLE, Int.reduceLT, Int.reduceMul, Int.reduceAdd, Int.reduceSub, Int.reduceNeg, Int.reduceEq, Int.reduceNe]
        (try simp (disch := omega) only [wrapI])
        refine ⟨by decide, fun hnil => ?_, fun j e hje => ?_⟩
        · have hLn : L = [] := by simpa using hnil
          subst hLn
          have hall : ∀ e ∈ M, e.2 ≤ r.most := fun e he => (hL2 e he).resolve_left (by simp)
          intros
          refine hK _ ?_
          clear hK K
          repeat refine awp_seq ?_
          refine awp_cond rfl (fun hc => ?_) (fun hc => ?_) <;> (try simp only [go_sem, reduceIte, reduceCtorEq, Nat.reduceEqDiff, Nat.reduceAdd, Nat.reduceSub, Nat.reduceMul, Nat.reduceLeDiff, Nat.reduceLT, Int.reduceToNat, Int.reduceLE, Int.reduceLT, Int.reduceMul, Int.reduceAdd, Int.reduceSub, Int.reduceNeg, Int.reduceEq, Int.reduceNe] at hc)
          refine awp_exit ?_
          simp only [go_sem, reduceIte, reduceCtorEq, Nat.reduceEqDiff, Nat.reduceAdd, Nat.reduceSub, Nat.reduceMul, Nat.reduceLeDiff, Nat.reduceLT, Int.reduceToNat, Int.reduceLE, Int.reduceLT, Int.reduceMul, Int.reduceAdd, Int.reduceSub, Int.reduceNeg, Int.reduceEq, Int.reduceNe]
          repeat refine awp_seq ?_
          refine awp_reg (by kernel_rfl) fun K hK => ?_
          simp only [go_sem, reduceIte, reduceCtorEq, Nat.reduceEqDiff, Nat.reduceAdd, Nat.reduceSub, Nat.reduceMul, Nat.reduceLeDiff, Nat.reduceLT, Int.reduceToNat, Int.reduceLE, Int.reduceLT, Int.reduceMul, Int.reduceAdd, Int.reduceSub, Int.reduceNeg, Int.reduceEq, Int.reduceNe]
          (try simp (disch := omega) only [wrapI])
          intros
          refine hK _ ?_
          clear hK K
          refine awp_ret ?_
          simp only [go_sem, reduceIte, reduceCtorEq, Nat.reduceEqDiff, Nat.reduceAdd, Nat.reduceSub, Nat.reduceMul, Nat.reduceLeDiff, Nat.reduceLT, Int.reduceToNat, Int.reduceLE, Int.reduceLT, Int.reduceMul, Int.reduceAdd, Int.reduceSub, Int.reduceNeg, Int.reduceEq, Int.reduceNe]
          rw [hord, hcl.1 hall]
        · rw [List.getElem?_map] at hje
          obtain ⟨e0, he0, rfl⟩ := Option.map_eq_some_iff.1 hje
          have hm0 := hL1 e0 (List.mem_of_getElem? he0)
          intros
          refine hK _ ?_
          clear hK K
          repeat refine awp_seq ?_
          refine awp_cond rfl (fun hc => ?_) (fun hc => ?_) <;> (try simp only [go_sem, reduceIte, reduceCtorEq, Nat.reduceEqDiff, Nat.reduceAdd, Nat.reduceSub, Nat.reduceMul, Nat.reduceLeDiff, Nat.reduceLT, Int.reduceToNat, Int.reduceLE, Int.reduceLT, Int.reduceMul, Int.reduceAdd, Int.reduceSub, Int.reduceNeg, Int.reduceEq, Int.reduceNe] at hc)
          refine awp_skip ?_
          repeat refine awp_seq ?_
          refine awp_block ?_
          repeat refine awp_seq ?_
          refine awp_reg (by kernel_rfl) fun K hK => ?_
          simp only [go_sem, reduceIte, reduceCtorEq, Nat.reduceEqDiff, Nat.reduceAdd, Nat.reduceSub, Nat.reduceMul, Nat.reduceLeDiff, Nat.reduceLT, Int.reduceToNat, Int.reduceLE, Int.reduceLT, Int.reduceMul, Int.reduceAdd, Int.reduceSub, Int.reduceNeg, Int.reduceEq, Int.reduceNe]
          (try simp (disch := omega) only [wrapI])
          intros
          refine hK _ ?_
          clear hK K
          repeat refine awp_seq ?_
          refine awp_reg (by kernel_rfl) fun K hK => ?_
          simp only [go_sem, reduceIte, reduceCtorEq, Nat.reduceEqDiff, Nat.reduceAdd, Nat.reduceSub, Nat.reduceMul, Nat.reduceLeDiff, Nat.reduceLT, Int.reduceToNat, Int.reduceLE, Int.reduceLT, Int.reduceMul, Int.reduceAdd, Int.reduceSub, Int.reduceNeg, Int.reduceEq, Int.reduceNe]
          (try simp (disch := omega) only [wrapI])
          intros
          refine hK _ ?_
          clear hK K
          by_cases h5 : r.most < e0.2
          · have e7 : decide (r.most < e0.2) = true := by simp [h5]
            rw [e7]
            repeat refine awp_seq ?_
            refine awp_cond rfl (fun hc => ?_) (fun hc => ?_) <;> (try simp only [go_sem, reduceIte, reduceCtorEq, Nat.reduceEqDiff, Nat.reduceAdd, Nat.reduceSub, Nat.reduceMul, Nat.reduceLeDiff, Nat.reduceLT, Int.reduceToNat, Int.reduceLE, Int.reduceLT, Int.reduceMul, Int.reduceAdd, Int.reduceSub, Int.reduceNeg, Int.reduceEq, Int.reduceNe] at hc)
            repeat refine awp_seq ?_
            refine awp_reg (by kernel_rfl) fun K hK => ?_
            simp only [go_sem, reduceIte, reduceCtorEq, Nat.reduceEqDiff, Nat.reduceAdd, Nat.reduceSub, Nat.reduceMul, Nat.reduceLeDiff, Nat.reduceLT, Int.reduceToNat, Int.reduceLE, Int.reduceLT, Int.reduceMul, Int.reduceAdd, Int.reduceSub, Int.reduceNeg, Int.reduceEq, Int.reduceNe]
            (try simp (disch := omega) only [wrapI])
            intros
            refine hK _ ?_
            clear hK K
            refine awp_ret ?_
            simp only [go_sem, reduceIte, reduceCtorEq, Nat.reduceEqDiff, Nat.reduceAdd, Nat.reduceSub, Nat.reduceMul, Nat.reduceLeDiff, Nat.reduceLT, Int.reduceToNat, Int.reduceLE, Int.reduceLT, Int.reduceMul, Int.reduceAdd, Int.reduceSub, Int.reduceNeg, Int.reduceEq, Int.reduceNe]
            rw [hord]
            refine (Bool.eq_false_iff.2 fun h => ?_).symm
            have := hcl.2 h e0 hm0
            omega
          · have e7 : decide (r.most < e0.2) = false := by simp [h5]
            rw [e7]
            repeat refine awp_seq ?_
            refine awp_cond rfl (fun hc => ?_) (fun hc => ?_) <;> (try simp only [go_sem, reduceIte, reduceCtorEq, Nat.reduceEqDiff, Nat.reduceAdd, Nat.reduceSub, Nat.reduceMul, Nat.reduceLeDiff, Nat.reduceLT, Int.reduceToNat, Int.reduceLE, Int.reduceLT, Int.reduceMul, Int.reduceAdd, Int.reduceSub, Int.reduceNeg, Int.reduceEq, Int.reduceNe] at hc)
            refine awp_skip ?_
            simp only [go_sem, reduceIte, reduceCtorEq, Nat.reduceEqDiff, Nat.reduceAdd, Nat.reduceSub, Nat.reduceMul, Nat.reduceLeDiff, Nat.reduceLT, Int.reduceToNat, Int.reduceLE, Int.reduceLT, Int.reduceMul, Int.reduceAdd, Int.reduceSub, Int.reduceNeg, Int.reduceEq, Int.reduceNe]
            refine ⟨(L.eraseIdx j, some (encI e0)), ⟨fun e he => hL1 e (List.mem_of_mem_eraseIdx he), fun e he => ?_⟩, ?_, fitV_of [] ?_ ?_⟩
            · rcases hL2 e he with h | h
              · obtain ⟨i', hi'⟩ := List.getElem?_of_mem h
                by_cases hij : i' = j
                · subst hij
                  rw [he0] at hi'
                  injection hi' with hi'
                  subst hi'
                  right; omega
                · left
                  exact List.mem_eraseIdx_iff_getElem?.2 ⟨i', hij, hi'⟩
              · exact .inr h
            · have := (List.getElem?_eq_some_iff.1 he0).1
              simp only [List.length_eraseIdx, this, if_true]
              omega
            · simp only [go_sem, reduceIte, reduceCtorEq, Nat.reduceEqDiff, Nat.reduceAdd, Nat.reduceSub, Nat.reduceMul, Nat.reduceLeDiff, Nat.reduceLT, Int.reduceToNat, Int.reduceLE, Int.reduceLT, Int.reduceMul, Int.reduceAdd, Int.reduceSub, Int.reduceNeg, Int.reduceEq, Int.reduceNe]
            · simp only [go_sem, reduceIte, reduceCtorEq, Nat.reduceEqDiff, Nat.reduceAdd, Nat.reduceSub, Nat.reduceMul, Nat.reduceLeDiff, Nat.reduceLT, Int.reduceToNat, Int.reduceLE, Int.reduceLT, Int.reduceMul, Int.reduceAdd, Int.reduceSub, Int.reduceNeg, Int.reduceEq, Int.reduceNe]
              simp only [killC, erase_map]
end Go.Proofs.Ytnklbfmdojpfkaa

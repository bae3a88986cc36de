/- The document's opening of a seal comes to the same as the program's. -/
import Derived.Test.YtnklbfmdojpfkaaAE
namespace Go.Proofs.Ytnklbfmdojpfkaa
open Go Go.Oc
set_option linter.unusedSimpArgs false
set_option linter.unusedVariables false
set_option maxRecDepth 8000
def refAt (r : Rules) (B : List Int) (k : Int) (i : Nat) : List (List Int) :=
  (List.range i).map fun j => foundL r ((r.gs[j]?).getD ⟨1, 1, 0⟩) (tover (B.getD j 0) (tpow 48271 (k.toNat * (j + 1))))
theorem refAt_length (r : Rules) (B : List Int) (k : Int) (i : Nat) : (refAt r B k i).length = i := by simp [refAt]
theorem refAt_succ (r : Rules) (B : List Int) (k : Int) (i : Nat) : refAt r B k (i + 1) = refAt r B k i ++ [foundL r ((r.gs[i]?).getD ⟨1, 1, 0⟩) (tover (B.getD i 0) (tpow 48271 (k.toNat * (i + 1))))] := by simp [refAt, List.range_succ]
/-- Both lists are valid, and then the same, or none of them is. -/
theorem ref_order {r : Rules} {B : List Int} {k : Int} (hr : rulesB r = true) (h : B.length = r.gs.length) :
    orderB r (refAt r B k B.length) = orderB r (openAt r B k B.length) ∧ (orderB r (openAt r B k B.length) = true → refAt r B k B.length = openAt r B k B.length) := by
  obtain ⟨_, _, _, f7, _⟩ := rulesB_facts hr
  have hget : ∀ i (g : Game), r.gs[i]? = some g → (openAt r B k B.length)[i]? = some (playersL (tover (B.getD i 0) (tpow 48271 (k.toNat * (i + 1)))) g.pl) ∧ (refAt r B k B.length)[i]? = some (foundL r g (tover (B.getD i 0) (tpow 48271 (k.toNat * (i + 1))))) := fun i g hg => by
    have hi := (List.getElem?_eq_some_iff.1 hg).1
    have hgp : (r.gs.map Game.pl).getD i 0 = g.pl := by rw [List.getD_eq_getElem?_getD, List.getElem?_map, hg]; rfl
    refine ⟨?_, ?_⟩
    · unfold openAt
      rw [List.getElem?_map, List.getElem?_range (by omega)]
      simp only [Option.map_some, hgp]
    · unfold refAt
      rw [List.getElem?_map, List.getElem?_range (by omega)]
      simp only [Option.map_some, hg, Option.getD_some]
  by_cases hall : ∀ i (g : Game), r.gs[i]? = some g → playB r (playersL (tover (B.getD i 0) (tpow 48271 (k.toNat * (i + 1)))) g.pl) g = true
  · have heq : refAt r B k B.length = openAt r B k B.length := by
      refine List.ext_getElem? fun i => ?_
      by_cases hi : i < r.gs.length
      · obtain ⟨g, hg⟩ := opt_of_lt hi
        obtain ⟨h1, h2⟩ := hget i g hg
        rw [h1, h2, foundL, if_pos (hall i g hg)]
      · rw [List.getElem?_eq_none (by rw [refAt_length]; omega), List.getElem?_eq_none (by rw [openAt_length]; omega)]
    exact ⟨by rw [heq], fun _ => heq⟩
  · obtain ⟨i, hall⟩ := Classical.not_forall.1 hall
    obtain ⟨g, hall⟩ := Classical.not_forall.1 hall
    obtain ⟨hg, hbad⟩ := Classical.not_imp.1 hall
    obtain ⟨h1, h2⟩ := hget i g hg
    have hb : playB r (playersL (tover (B.getD i 0) (tpow 48271 (k.toNat * (i + 1)))) g.pl) g = false := by simpa using hbad
    have e1 := order_bad h1 hg hb
    have hf : foundL r g (tover (B.getD i 0) (tpow 48271 (k.toNat * (i + 1)))) = [] := by rw [foundL, if_neg (by rw [hb]; simp)]
    rw [hf] at h2
    have := (f7 g (mem_of_opt hg)).1
    have e2 := order_bad h2 hg (by simp [playB]; omega)
    rw [e1, e2]
    exact ⟨rfl, fun h => by cases h⟩
theorem refOpen_ok (r : Rules) (A : Int) (B : List Int) (k : Int) (h1 : rulesB r = true) (hB : B.length ≤ 25) (hg : r.gs.length ≤ 25) :
    ACalls Try.prog 27 [.ag (rulesC r), .ag [i64 A, ints B], i64 k] (.tu [listsR (openL r A B k).l, i64 (openL r A B k).e]) := by
  obtain ⟨⟨f1, f2⟩, _, _, f7, _⟩ := rulesB_facts h1
  refine acalls_st (rs := [listsR (openL r A B k).l, i64 (openL r A B k).e]) [.tmp 6, .tmp 7] Try.func27 rfl (by kernel_rfl) Try.ntmps27 rfl (by simp) rfl fun C vs => ?_
  repeat refine awp_seq ?_
  refine awp_reg (by kernel_rfl) fun K hK => ?_
  simp only [go_sem, reduceIte, reduceCtorEq, Nat.reduceEqDiff, Nat.reduceAdd, Nat.reduceSub, Nat.reduceMul, Nat.reduceLeDiff, Nat.reduceLT, Int.reduceToNat, Int.reduceLE, Int.reduceLT, Int.reduceMul, Int.reduceAdd, Int.reduceSub, Int.reduceNeg, Int.reduceEq, Int.reduceNe]
  (try simp (disch := omega) only [wrapI])
  intros
  refine hK _ ?_
  clear hK K
  repeat refine awp_seq ?_
  refine awp_reg (by kernel_rfl) fun K hK => ?_
  simp only [go_sem, reduceIte, reduceCtorEq, Nat.reduceEqDiff, Nat.reduceAdd, Nat.reduceSub, Nat.reduceMul, Nat.reduceLeDiff, Nat.reduceLT, Int.reduceToNat, Int.reduceLE, Int.reduceLT, Int.reduceMul, Int.reduceAdd, Int.reduceSub, Int.reduceNeg, Int.reduceEq, Int.reduceNe]
  (try simp (disch := omega) only [wrapI])
  refine xcall_eq (in1_ok k 0 2147483645) rfl (by simp only [go_sem, reduceIte, reduceCtorEq, Nat.reduceEqDiff, Nat.reduceAdd, Nat.reduceSub, Nat.reduceMul, Nat.reduceLeDiff, Nat.reduceLT, Int.reduceToNat, Int.reduceLE, Int.reduceLT, Int.reduceMul, Int.reduceAdd, Int.reduceSub, Int.reduceNeg, Int.reduceEq, Int.reduceNe, i64, ints]) (by simp only [go_sem, reduceIte, reduceCtorEq, Nat.reduceEqDiff, Nat.reduceAdd, Nat.reduceSub, Nat.reduceMul, Nat.reduceLeDiff, Nat.reduceLT, Int.reduceToNat, Int.reduceLE, Int.reduceLT, Int.reduceMul, Int.reduceAdd, Int.reduceSub, Int.reduceNeg, Int.reduceEq, Int.reduceNe, i64, ints]) (by first | exact .inl rfl | exact .inr rfl) ?_
  (try simp only [go_sem, reduceIte, reduceCtorEq, Nat.reduceEqDiff, Nat.reduceAdd, Nat.reduceSub, Nat.reduceMul, Nat.reduceLeDiff, Nat.reduceLT, Int.reduceToNat, Int.reduceLE, Int.reduceLT, Int.reduceMul, Int.reduceAdd, Int.reduceSub, Int.reduceNeg, Int.reduceEq, Int.reduceNe])
  (try simp (disch := omega) only [wrapI])
  intros
  refine hK _ ?_
  clear hK K
  cases h2 : withinL 0 2147483645 [k]
  · repeat refine awp_seq ?_
    refine awp_cond rfl (fun hc => ?_) (fun hc => ?_) <;> (try simp only [go_sem, reduceIte, reduceCtorEq, Nat.reduceEqDiff, Nat.reduceAdd, Nat.reduceSub, Nat.reduceMul, Nat.reduceLeDiff, Nat.reduceLT, Int.reduceToNat, Int.reduceLE, Int.reduceLT, Int.reduceMul, Int.reduceAdd, Int.reduceSub, Int.reduceNeg, Int.reduceEq, Int.reduceNe] at hc)
    repeat refine awp_seq ?_
    refine awp_reg (by kernel_rfl) fun K hK => ?_
    simp only [go_sem, reduceIte, reduceCtorEq, Nat.reduceEqDiff, Nat.reduceAdd, Nat.reduceSub, Nat.reduceMul, Nat.reduceLeDiff, Nat.reduceLT, Int.reduceToNat, Int.reduceLE, Int.reduceLT, Int.reduceMul, Int.reduceAdd, Int.reduceSub, Int.reduceNeg, Int.reduceEq, Int.reduceNe]
    (try simp (disch := omega) only [wrapI])
    intros
    refine hK _ ?_
    clear hK K
    refine awp_ret ?_
    simp only [go_sem, reduceIte, reduceCtorEq, Nat.reduceEqDiff, Nat.reduceAdd, Nat.reduceSub, Nat.reduceMul, Nat.reduceLeDiff, Nat.reduceLT, Int.reduceToNat, Int.reduceLE, Int.reduceLT, Int.reduceMul, Int.reduceAdd, Int.reduceSub, Int.reduceNeg, Int.reduceEq, Int.reduceNe]
    simp [openL, h1, h2]
  repeat refine awp_seq ?_
  refine awp_cond rfl (fun hc => ?_) (fun hc => ?_) <;> (try simp only [go_sem, reduceIte, reduceCtorEq, Nat.reduceEqDiff, Nat.reduceAdd, Nat.reduceSub, Nat.reduceMul, Nat.reduceLeDiff, Nat.reduceLT, Int.reduceToNat, Int.reduceLE, Int.reduceLT, Int.reduceMul, Int.reduceAdd, Int.reduceSub, Int.reduceNeg, Int.reduceEq, Int.reduceNe] at hc)
  refine awp_skip ?_
  simp only [go_sem, reduceIte, reduceCtorEq, Nat.reduceEqDiff, Nat.reduceAdd, Nat.reduceSub, Nat.reduceMul, Nat.reduceLeDiff, Nat.reduceLT, Int.reduceToNat, Int.reduceLE, Int.reduceLT, Int.reduceMul, Int.reduceAdd, Int.reduceSub, Int.reduceNeg, Int.reduceEq, Int.reduceNe]
  have gk := withinL_one h2
  obtain ⟨k, rfl⟩ := Int.eq_ofNat_of_zero_le gk.1
  repeat refine awp_seq ?_
  refine awp_reg (by kernel_rfl) fun K hK => ?_
  simp only [go_sem, reduceIte, reduceCtorEq, Nat.reduceEqDiff, Nat.reduceAdd, Nat.reduceSub, Nat.reduceMul, Nat.reduceLeDiff, Nat.reduceLT, Int.reduceToNat, Int.reduceLE, Int.reduceLT, Int.reduceMul, Int.reduceAdd, Int.reduceSub, Int.reduceNeg, Int.reduceEq, Int.reduceNe]
  (try simp (disch := omega) only [wrapI])
  intro _ _
  by_cases h3 : B.length = r.gs.length
  case neg =>
    have e4 : ((B.length : Int) != r.gs.length) = true := by simp; omega
    simp only [e4, go_sem, reduceIte, reduceCtorEq, Nat.reduceEqDiff, Nat.reduceAdd, Nat.reduceSub, Nat.reduceMul, Nat.reduceLeDiff, Nat.reduceLT, Int.reduceToNat, Int.reduceLE, Int.reduceLT, Int.reduceMul, Int.reduceAdd, Int.reduceSub, Int.reduceNeg, Int.reduceEq, Int.reduceNe]
    intros
    refine hK _ ?_
    clear hK K
    repeat refine awp_seq ?_
    refine awp_cond rfl (fun hc => ?_) (fun hc => ?_) <;> (try simp only [go_sem, reduceIte, reduceCtorEq, Nat.reduceEqDiff, Nat.reduceAdd, Nat.reduceSub, Nat.reduceMul, Nat.reduceLeDiff, Nat.reduceLT, Int.reduceToNat, Int.reduceLE, Int.reduceLT, Int.reduceMul, Int.reduceAdd, Int.reduceSub, Int.reduceNeg, Int.reduceEq, Int.reduceNe] at hc)
    repeat refine awp_seq ?_
    refine awp_reg (by kernel_rfl) fun K hK => ?_
    simp only [go_sem, reduceIte, reduceCtorEq, Nat.reduceEqDiff, Nat.reduceAdd, Nat.reduceSub, Nat.reduceMul, Nat.reduceLeDiff, Nat.reduceLT, Int.reduceToNat, Int.reduceLE, Int.reduceLT, Int.reduceMul, Int.reduceAdd, Int.reduceSub, Int.reduceNeg, Int.reduceEq, Int.reduceNe]
    (try simp (disch := omega) only [wrapI])
    intros
    refine hK _ ?_
    clear hK K
    refine awp_ret ?_
    simp only [go_sem, reduceIte, reduceCtorEq, Nat.reduceEqDiff, Nat.reduceAdd, Nat.reduceSub, Nat.reduceMul, Nat.reduceLeDiff, Nat.reduceLT, Int.reduceToNat, Int.reduceLE, Int.reduceLT, Int.reduceMul, Int.reduceAdd, Int.reduceSub, Int.reduceNeg, Int.reduceEq, Int.reduceNe]
    simp [openL, h1, h2, h3]
  have e4 : ((B.length : Int) != r.gs.length) = false := by simp [h3]
  simp only [e4, go_sem, reduceIte, reduceCtorEq, Nat.reduceEqDiff, Nat.reduceAdd, Nat.reduceSub, Nat.reduceMul, Nat.reduceLeDiff, Nat.reduceLT, Int.reduceToNat, Int.reduceLE, Int.reduceLT, Int.reduceMul, Int.reduceAdd, Int.reduceSub, Int.reduceNeg, Int.reduceEq, Int.reduceNe]
  refine xcall_eq (in1_ok A 1 2147483646) rfl (by simp only [go_sem, reduceIte, reduceCtorEq, Nat.reduceEqDiff, Nat.reduceAdd, Nat.reduceSub, Nat.reduceMul, Nat.reduceLeDiff, Nat.reduceLT, Int.reduceToNat, Int.reduceLE, Int.reduceLT, Int.reduceMul, Int.reduceAdd, Int.reduceSub, Int.reduceNeg, Int.reduceEq, Int.reduceNe, i64, ints]) (by simp only [go_sem, reduceIte, reduceCtorEq, Nat.reduceEqDiff, Nat.reduceAdd, Nat.reduceSub, Nat.reduceMul, Nat.reduceLeDiff, Nat.reduceLT, Int.reduceToNat, Int.reduceLE, Int.reduceLT, Int.reduceMul, Int.reduceAdd, Int.reduceSub, Int.reduceNeg, Int.reduceEq, Int.reduceNe, i64, ints]) (by first | exact .inl rfl | exact .inr rfl) ?_
  (try simp only [go_sem, reduceIte, reduceCtorEq, Nat.reduceEqDiff, Nat.reduceAdd, Nat.reduceSub, Nat.reduceMul, Nat.reduceLeDiff, Nat.reduceLT, Int.reduceToNat, Int.reduceLE, Int.reduceLT, Int.reduceMul, Int.reduceAdd, Int.reduceSub, Int.reduceNeg, Int.reduceEq, Int.reduceNe])
  (try simp (disch := omega) only [wrapI])
  cases h4 : withinL 1 2147483646 [A]
  · simp only [go_sem, reduceIte, reduceCtorEq, Nat.reduceEqDiff, Nat.reduceAdd, Nat.reduceSub, Nat.reduceMul, Nat.reduceLeDiff, Nat.reduceLT, Int.reduceToNat, Int.reduceLE, Int.reduceLT, Int.reduceMul, Int.reduceAdd, Int.reduceSub, Int.reduceNeg, Int.reduceEq, Int.reduceNe]
    intros
    refine hK _ ?_
    clear hK K
    repeat refine awp_seq ?_
    refine awp_cond rfl (fun hc => ?_) (fun hc => ?_) <;> (try simp only [go_sem, reduceIte, reduceCtorEq, Nat.reduceEqDiff, Nat.reduceAdd, Nat.reduceSub, Nat.reduceMul, Nat.reduceLeDiff, Nat.reduceLT, Int.reduceToNat, Int.reduceLE, Int.reduceLT, Int.reduceMul, Int.reduceAdd, Int.reduceSub, Int.reduceNeg, Int.reduceEq, Int.reduceNe] at hc)
    repeat refine awp_seq ?_
    refine awp_reg (by kernel_rfl) fun K hK => ?_
    simp only [go_sem, reduceIte, reduceCtorEq, Nat.reduceEqDiff, Nat.reduceAdd, Nat.reduceSub, Nat.reduceMul, Nat.reduceLeDiff, Nat.reduceLT, Int.reduceToNat, Int.reduceLE, Int.reduceLT, Int.reduceMul, Int.reduceAdd, Int.reduceSub, Int.reduceNeg, Int.reduceEq, Int.reduceNe]
    (try simp (disch := omega) only [wrapI])
    intros
    refine hK _ ?_
    clear hK K
    refine awp_ret ?_
    simp only [go_sem, reduceIte, reduceCtorEq, Nat.reduceEqDiff, Nat.reduceAdd, Nat.reduceSub, Nat.reduceMul, Nat.reduceLeDiff, Nat.reduceLT, Int.reduceToNat, Int.reduceLE, Int.reduceLT, Int.reduceMul, Int.reduceAdd, Int.reduceSub, Int.reduceNeg, Int.reduceEq, Int.reduceNe]
    simp [openL, h1, h2, h3, h4]
  simp only [go_sem, reduceIte, reduceCtorEq, Nat.reduceEqDiff, Nat.reduceAdd, Nat.reduceSub, Nat.reduceMul, Nat.reduceLeDiff, Nat.reduceLT, Int.reduceToNat, Int.reduceLE, Int.reduceLT, Int.reduceMul, Int.reduceAdd, Int.reduceSub, Int.reduceNeg, Int.reduceEq, Int.reduceNe]
  intros
  refine hK _ ?_
  clear hK K
  repeat refine awp_seq ?_
  refine awp_cond rfl (fun hc => ?_) (fun hc => ?_) <;> (try simp only [go_sem, reduceIte, reduceCtorEq, Nat.reduceEqDiff, Nat.reduceAdd, Nat.reduceSub, Nat.reduceMul, Nat.reduceLeDiff, Nat.reduceLT, Int.reduceToNat, Int.reduceLE, Int.reduceLT, Int.reduceMul, Int.reduceAdd, Int.reduceSub, Int.reduceNeg, Int.reduceEq, Int.reduceNe] at hc)
  refine awp_skip ?_
  simp only [go_sem, reduceIte, reduceCtorEq, Nat.reduceEqDiff, Nat.reduceAdd, Nat.reduceSub, Nat.reduceMul, Nat.reduceLeDiff, Nat.reduceLT, Int.reduceToNat, Int.reduceLE, Int.reduceLT, Int.reduceMul, Int.reduceAdd, Int.reduceSub, Int.reduceNeg, Int.reduceEq, Int.reduceNe]
  repeat refine awp_seq ?_
  refine awp_reg (by kernel_rfl) fun K hK => ?_
  simp only [go_sem, reduceIte, reduceCtorEq, Nat.reduceEqDiff, Nat.reduceAdd, Nat.reduceSub, Nat.reduceMul, Nat.reduceLeDiff, Nat.reduceLT, Int.reduceToNat, Int.reduceLE, Int.reduceLT, Int.reduceMul, Int.reduceAdd, Int.reduceSub, Int.reduceNeg, Int.reduceEq, Int.reduceNe]
  (try simp (disch := omega) only [wrapI])
  intros
  refine hK _ ?_
  clear hK K
  repeat refine awp_seq ?_
  refine awp_block ?_
  refine awp_upto (n := 135) B.length (fun i vs => [(2, .r (i64 k)), (3, .pt 3 (vs 3) 0), (4, .pt 4 (vs 4) 0), (8, .r (i64 i))])
    (fun i => [(3, .box [.r (i64 r.squad), .r (games r.gs), .r (i64 r.most), .r (i64 r.bonus)]), (4, .box [.r (i64 A), .r (ints B)])])
    (fun i => withinL 1 2147483646 (B.take i) = true) 0 (fit_of [] ?_ ?_) (Nat.zero_le _) (by simp [withinL]) ?_
  · simp only [go_sem, reduceIte, reduceCtorEq, Nat.reduceEqDiff, Nat.reduceAdd, Nat.reduceSub, Nat.reduceMul, Nat.reduceLeDiff, Nat.reduceLT, Int.reduceToNat, Int.reduceLE, Int.reduceLT, Int.reduceMul, Int.reduceAdd, Int.reduceSub, Int.reduceNeg, Int.reduceEq, Int.reduceNe]
  · simp only [go_sem, reduceIte, reduceCtorEq, Nat.reduceEqDiff, Nat.reduceAdd, Nat.reduceSub, Nat.reduceMul, Nat.reduceLeDiff, Nat.reduceLT, Int.reduceToNat, Int.reduceLE, Int.reduceLT, Int.reduceMul, Int.reduceAdd, Int.reduceSub, Int.reduceNeg, Int.reduceEq, Int.reduceNe]
  · intro i vs hi hI
    repeat refine awp_seq ?_
    refine awp_reg (by kernel_rfl) fun K hK => ?_
    simp only [go_sem, reduceIte, reduceCtorEq, Nat.reduceEqDiff, Nat.reduceAdd, Nat.reduceSub, Nat.reduceMul, Nat.reduceLeDiff, Nat.reduceLT, Int.reduceToNat, Int.reduceLE, Int.reduceLT, Int.reduceMul, Int.reduceAdd, Int.reduceSub, Int.reduceNeg, Int.reduceEq, Int.reduceNe]
    (try simp (disch := omega) only [wrapI])
    intro _
    intros
    refine hK _ ?_
    clear hK K
    repeat refine awp_seq ?_
    refine awp_cond rfl (fun hc => ?_) (fun hc => ?_) <;> (try simp only [go_sem, reduceIte, reduceCtorEq, Nat.reduceEqDiff, Nat.reduceAdd, Nat.reduceSub, Nat.reduceMul, Nat.reduceLeDiff, Nat.reduceLT, Int.reduceToNat, Int.reduceLE, Int.reduceLT, Int.reduceMul, Int.reduceAdd, Int.reduceSub, Int.reduceNeg, Int.reduceEq, Int.reduceNe] at hc)
    · have hci := hc
      obtain ⟨b, hb⟩ := opt_of_lt hci
      refine awp_skip ?_
      repeat refine awp_seq ?_
      refine awp_block ?_
      repeat refine awp_seq ?_
      refine awp_reg (by kernel_rfl) fun K hK => ?_
      simp only [go_sem, reduceIte, reduceCtorEq, Nat.reduceEqDiff, Nat.reduceAdd, Nat.reduceSub, Nat.reduceMul, Nat.reduceLeDiff, Nat.reduceLT, Int.reduceToNat, Int.reduceLE, Int.reduceLT, Int.reduceMul, Int.reduceAdd, Int.reduceSub, Int.reduceNeg, Int.reduceEq, Int.reduceNe, hb, hci]
      (try simp (disch := omega) only [wrapI])
      refine xcall_eq (in1_ok b 1 2147483646) rfl (by simp only [go_sem, reduceIte, reduceCtorEq, Nat.reduceEqDiff, Nat.reduceAdd, Nat.reduceSub, Nat.reduceMul, Nat.reduceLeDiff, Nat.reduceLT, Int.reduceToNat, Int.reduceLE, Int.reduceLT, Int.reduceMul, Int.reduceAdd, Int.reduceSub, Int.reduceNeg, Int.reduceEq, Int.reduceNe, i64, ints]) (by simp only [go_sem, reduceIte, reduceCtorEq, Nat.reduceEqDiff, Nat.reduceAdd, Nat.reduceSub, Nat.reduceMul, Nat.reduceLeDiff, Nat.reduceLT, Int.reduceToNat, Int.reduceLE, Int.reduceLT, Int.reduceMul, Int.reduceAdd, Int.reduceSub, Int.reduceNeg, Int.reduceEq, Int.reduceNe, i64, ints]) (by first | exact .inl rfl | exact .inr rfl) ?_
      (try simp only [go_sem, reduceIte, reduceCtorEq, Nat.reduceEqDiff, Nat.reduceAdd, Nat.reduceSub, Nat.reduceMul, Nat.reduceLeDiff, Nat.reduceLT, Int.reduceToNat, Int.reduceLE, Int.reduceLT, Int.reduceMul, Int.reduceAdd, Int.reduceSub, Int.reduceNeg, Int.reduceEq, Int.reduceNe])
      (try simp (disch := omega) only [wrapI])
      intros
      refine hK _ ?_
      clear hK K
      cases h5 : withinL 1 2147483646 [b]
      · repeat refine awp_seq ?_
        refine awp_cond rfl (fun hc => ?_) (fun hc => ?_) <;> (try simp only [go_sem, reduceIte, reduceCtorEq, Nat.reduceEqDiff, Nat.reduceAdd, Nat.reduceSub, Nat.reduceMul, Nat.reduceLeDiff, Nat.reduceLT, Int.reduceToNat, Int.reduceLE, Int.reduceLT, Int.reduceMul, Int.reduceAdd, Int.reduceSub, Int.reduceNeg, Int.reduceEq, Int.reduceNe] at hc)
        repeat refine awp_seq ?_
        refine awp_reg (by kernel_rfl) fun K hK => ?_
        simp only [go_sem, reduceIte, reduceCtorEq, Nat.reduceEqDiff, Nat.reduceAdd, Nat.reduceSub, Nat.reduceMul, Nat.reduceLeDiff, Nat.reduceLT, Int.reduceToNat, Int.reduceLE, Int.reduceLT, Int.reduceMul, Int.reduceAdd, Int.reduceSub, Int.reduceNeg, Int.reduceEq, Int.reduceNe]
        (try simp (disch := omega) only [wrapI])
        intros
        refine hK _ ?_
        clear hK K
        refine awp_ret ?_
        simp only [go_sem, reduceIte, reduceCtorEq, Nat.reduceEqDiff, Nat.reduceAdd, Nat.reduceSub, Nat.reduceMul, Nat.reduceLeDiff, Nat.reduceLT, Int.reduceToNat, Int.reduceLE, Int.reduceLT, Int.reduceMul, Int.reduceAdd, Int.reduceSub, Int.reduceNeg, Int.reduceEq, Int.reduceNe]
        simp [openL, h1, h2, h3, h4, withinL_bad (mem_of_opt hb) h5]
      repeat refine awp_seq ?_
      refine awp_cond rfl (fun hc => ?_) (fun hc => ?_) <;> (try simp only [go_sem, reduceIte, reduceCtorEq, Nat.reduceEqDiff, Nat.reduceAdd, Nat.reduceSub, Nat.reduceMul, Nat.reduceLeDiff, Nat.reduceLT, Int.reduceToNat, Int.reduceLE, Int.reduceLT, Int.reduceMul, Int.reduceAdd, Int.reduceSub, Int.reduceNeg, Int.reduceEq, Int.reduceNe] at hc)
      refine awp_skip ?_
      simp only [go_sem, reduceIte, reduceCtorEq, Nat.reduceEqDiff, Nat.reduceAdd, Nat.reduceSub, Nat.reduceMul, Nat.reduceLeDiff, Nat.reduceLT, Int.reduceToNat, Int.reduceLE, Int.reduceLT, Int.reduceMul, Int.reduceAdd, Int.reduceSub, Int.reduceNeg, Int.reduceEq, Int.reduceNe]
      repeat refine awp_seq ?_
      refine awp_reg (by kernel_rfl) fun K hK => ?_
      simp only [go_sem, reduceIte, reduceCtorEq, Nat.reduceEqDiff, Nat.reduceAdd, Nat.reduceSub, Nat.reduceMul, Nat.reduceLeDiff, Nat.reduceLT, Int.reduceToNat, Int.reduceLE, Int.reduceLT, Int.reduceMul, Int.reduceAdd, Int.reduceSub, Int.reduceNeg, Int.reduceEq, Int.reduceNe]
      (try simp (disch := omega) only [wrapI])
      intros
      refine hK _ ?_
      clear hK K
      simp only [go_sem, reduceIte, reduceCtorEq, Nat.reduceEqDiff, Nat.reduceAdd, Nat.reduceSub, Nat.reduceMul, Nat.reduceLeDiff, Nat.reduceLT, Int.reduceToNat, Int.reduceLE, Int.reduceLT, Int.reduceMul, Int.reduceAdd, Int.reduceSub, Int.reduceNeg, Int.reduceEq, Int.reduceNe]
      refine ⟨hci, ?_, fit_of [] ?_ rfl⟩
      · rw [take_of_opt hb]
        simp only [withinL, List.all_append, Bool.and_eq_true] at hI h5 ⊢
        exact ⟨hI, h5⟩
      · simp only [go_sem, reduceIte, reduceCtorEq, Nat.reduceEqDiff, Nat.reduceAdd, Nat.reduceSub, Nat.reduceMul, Nat.reduceLeDiff, Nat.reduceLT, Int.reduceToNat, Int.reduceLE, Int.reduceLT, Int.reduceMul, Int.reduceAdd, Int.reduceSub, Int.reduceNeg, Int.reduceEq, Int.reduceNe]
    · have h5 : withinL 1 2147483646 B = true := withinL_take_all hI (by omega)
      have hBm := withinL_mem h5
      clear hI hi hc
      refine awp_exit ?_
      simp only [go_sem, reduceIte, reduceCtorEq, Nat.reduceEqDiff, Nat.reduceAdd, Nat.reduceSub, Nat.reduceMul, Nat.reduceLeDiff, Nat.reduceLT, Int.reduceToNat, Int.reduceLE, Int.reduceLT, Int.reduceMul, Int.reduceAdd, Int.reduceSub, Int.reduceNeg, Int.reduceEq, Int.reduceNe]
      repeat refine awp_seq ?_
      refine awp_dreg follows (by kernel_rfl) (by kernel_rfl) fun K hK => ?_
      simp only [go_sem, reduceIte, reduceCtorEq, Nat.reduceEqDiff, Nat.reduceAdd, Nat.reduceSub, Nat.reduceMul, Nat.reduceLeDiff, Nat.reduceLT, Int.reduceToNat, Int.reduceLE, Int.reduceLT, Int.reduceMul, Int.reduceAdd, Int.reduceSub, Int.reduceNeg, Int.reduceEq, Int.reduceNe]
      (try simp (disch := omega) only [wrapI])
      refine xcall_eq (refPower_ok 7 k (by omega) (by omega) (by omega)) rfl (by simp only [go_sem, reduceIte, reduceCtorEq, Nat.reduceEqDiff, Nat.reduceAdd, Nat.reduceSub, Nat.reduceMul, Nat.reduceLeDiff, Nat.reduceLT, Int.reduceToNat, Int.reduceLE, Int.reduceLT, Int.reduceMul, Int.reduceAdd, Int.reduceSub, Int.reduceNeg, Int.reduceEq, Int.reduceNe, i64, ints]) (by simp only [go_sem, reduceIte, reduceCtorEq, Nat.reduceEqDiff, Nat.reduceAdd, Nat.reduceSub, Nat.reduceMul, Nat.reduceLeDiff, Nat.reduceLT, Int.reduceToNat, Int.reduceLE, Int.reduceLT, Int.reduceMul, Int.reduceAdd, Int.reduceSub, Int.reduceNeg, Int.reduceEq, Int.reduceNe, i64, ints]) (by first | exact .inl rfl | exact .inr rfl) ?_
      (try simp only [go_sem, reduceIte, reduceCtorEq, Nat.reduceEqDiff, Nat.reduceAdd, Nat.reduceSub, Nat.reduceMul, Nat.reduceLeDiff, Nat.reduceLT, Int.reduceToNat, Int.reduceLE, Int.reduceLT, Int.reduceMul, Int.reduceAdd, Int.reduceSub, Int.reduceNeg, Int.reduceEq, Int.reduceNe])
      (try simp (disch := omega) only [wrapI])
      intros
      refine hK _ ?_
      clear hK K
      by_cases h6 : A = tpow 7 k
      case neg =>
        have e6 : (A != tpow 7 k) = true := by simp [h6]
        rw [e6]
        repeat refine awp_seq ?_
        refine awp_cond rfl (fun hc => ?_) (fun hc => ?_) <;> (try simp only [go_sem, reduceIte, reduceCtorEq, Nat.reduceEqDiff, Nat.reduceAdd, Nat.reduceSub, Nat.reduceMul, Nat.reduceLeDiff, Nat.reduceLT, Int.reduceToNat, Int.reduceLE, Int.reduceLT, Int.reduceMul, Int.reduceAdd, Int.reduceSub, Int.reduceNeg, Int.reduceEq, Int.reduceNe] at hc)
        repeat refine awp_seq ?_
        refine awp_reg (by kernel_rfl) fun K hK => ?_
        simp only [go_sem, reduceIte, reduceCtorEq, Nat.reduceEqDiff, Nat.reduceAdd, Nat.reduceSub, Nat.reduceMul, Nat.reduceLeDiff, Nat.reduceLT, Int.reduceToNat, Int.reduceLE, Int.reduceLT, Int.reduceMul, Int.reduceAdd, Int.reduceSub, Int.reduceNeg, Int.reduceEq, Int.reduceNe]
        (try simp (disch := omega) only [wrapI])
        intros
        refine hK _ ?_
        clear hK K
        refine awp_ret ?_
        simp only [go_sem, reduceIte, reduceCtorEq, Nat.reduceEqDiff, Nat.reduceAdd, Nat.reduceSub, Nat.reduceMul, Nat.reduceLeDiff, Nat.reduceLT, Int.reduceToNat, Int.reduceLE, Int.reduceLT, Int.reduceMul, Int.reduceAdd, Int.reduceSub, Int.reduceNeg, Int.reduceEq, Int.reduceNe]
        simp [openL, h1, h2, h3, h4, h5, h6]
      have e6 : (A != tpow 7 k) = false := by simp [h6]
      rw [e6]
      repeat refine awp_seq ?_
      refine awp_cond rfl (fun hc => ?_) (fun hc => ?_) <;> (try simp only [go_sem, reduceIte, reduceCtorEq, Nat.reduceEqDiff, Nat.reduceAdd, Nat.reduceSub, Nat.reduceMul, Nat.reduceLeDiff, Nat.reduceLT, Int.reduceToNat, Int.reduceLE, Int.reduceLT, Int.reduceMul, Int.reduceAdd, Int.reduceSub, Int.reduceNeg, Int.reduceEq, Int.reduceNe] at hc)
      refine awp_skip ?_
      simp only [go_sem, reduceIte, reduceCtorEq, Nat.reduceEqDiff, Nat.reduceAdd, Nat.reduceSub, Nat.reduceMul, Nat.reduceLeDiff, Nat.reduceLT, Int.reduceToNat, Int.reduceLE, Int.reduceLT, Int.reduceMul, Int.reduceAdd, Int.reduceSub, Int.reduceNeg, Int.reduceEq, Int.reduceNe]
      have hL7 : openL r A B (k : Int) = if orderB r (openAt r B (k : Int) B.length) = false then ⟨[], 0, 7⟩ else ⟨openAt r B (k : Int) B.length, k, 0⟩ := by
        unfold openL
        rw [if_neg (by simp [h1]), if_neg (by simp [h2]), if_neg (by simp [h3, h4, h5]), if_neg (by simp [h6])]
      rw [hL7]
      repeat refine awp_seq ?_
      refine awp_reg (by kernel_rfl) fun K hK => ?_
      simp only [go_sem, reduceIte, reduceCtorEq, Nat.reduceEqDiff, Nat.reduceAdd, Nat.reduceSub, Nat.reduceMul, Nat.reduceLeDiff, Nat.reduceLT, Int.reduceToNat, Int.reduceLE, Int.reduceLT, Int.reduceMul, Int.reduceAdd, Int.reduceSub, Int.reduceNeg, Int.reduceEq, Int.reduceNe]
      (try simp (disch := omega) only [wrapI])
      intros
      refine hK _ ?_
      clear hK K
      repeat refine awp_seq ?_
      refine awp_reg (by kernel_rfl) fun K hK => ?_
      simp only [go_sem, reduceIte, reduceCtorEq, Nat.reduceEqDiff, Nat.reduceAdd, Nat.reduceSub, Nat.reduceMul, Nat.reduceLeDiff, Nat.reduceLT, Int.reduceToNat, Int.reduceLE, Int.reduceLT, Int.reduceMul, Int.reduceAdd, Int.reduceSub, Int.reduceNeg, Int.reduceEq, Int.reduceNe]
      (try simp (disch := omega) only [wrapI])
      intros
      refine hK _ ?_
      clear hK K
      repeat refine awp_seq ?_
      refine awp_block ?_
      refine awp_sub (sub_own 9 129 34 1 (by omega) rfl) ?_
      refine awp_upto (n := 135) B.length (fun i vs => [(2, .r (i64 k)), (3, .pt 3 (vs 3) 0), (4, .pt 4 (vs 4) 0), (9, .os 129 (vs 129) 1 0 i), (10, .r (i64 i))])
        (fun i => [(3, .box [.r (i64 r.squad), .r (games r.gs), .r (i64 r.most), .r (i64 r.bonus)]), (4, .box [.r (i64 A), .r (ints B)]), (129, .arr 34 1 ((refAt r B k i).map fun x => [ints x]))])
        (fun _ => True) 0 (fit_of [] ?_ ?_) (Nat.zero_le _) trivial ?_
      · simp only [go_sem, reduceIte, reduceCtorEq, Nat.reduceEqDiff, Nat.reduceAdd, Nat.reduceSub, Nat.reduceMul, Nat.reduceLeDiff, Nat.reduceLT, Int.reduceToNat, Int.reduceLE, Int.reduceLT, Int.reduceMul, Int.reduceAdd, Int.reduceSub, Int.reduceNeg, Int.reduceEq, Int.reduceNe]
      · simp only [go_sem, reduceIte, reduceCtorEq, Nat.reduceEqDiff, Nat.reduceAdd, Nat.reduceSub, Nat.reduceMul, Nat.reduceLeDiff, Nat.reduceLT, Int.reduceToNat, Int.reduceLE, Int.reduceLT, Int.reduceMul, Int.reduceAdd, Int.reduceSub, Int.reduceNeg, Int.reduceEq, Int.reduceNe]
        simp [refAt]
      · intro i vs hi _
        repeat refine awp_seq ?_
        refine awp_reg (by kernel_rfl) fun K hK => ?_
        simp only [go_sem, reduceIte, reduceCtorEq, Nat.reduceEqDiff, Nat.reduceAdd, Nat.reduceSub, Nat.reduceMul, Nat.reduceLeDiff, Nat.reduceLT, Int.reduceToNat, Int.reduceLE, Int.reduceLT, Int.reduceMul, Int.reduceAdd, Int.reduceSub, Int.reduceNeg, Int.reduceEq, Int.reduceNe]
        (try simp (disch := omega) only [wrapI])
        intro _
        intros
        refine hK _ ?_
        clear hK K
        repeat refine awp_seq ?_
        refine awp_cond rfl (fun hc => ?_) (fun hc => ?_) <;> (try simp only [go_sem, reduceIte, reduceCtorEq, Nat.reduceEqDiff, Nat.reduceAdd, Nat.reduceSub, Nat.reduceMul, Nat.reduceLeDiff, Nat.reduceLT, Int.reduceToNat, Int.reduceLE, Int.reduceLT, Int.reduceMul, Int.reduceAdd, Int.reduceSub, Int.reduceNeg, Int.reduceEq, Int.reduceNe] at hc)
        · have hci := hc
          have hc2 : i < r.gs.length := by omega
          obtain ⟨b, hb⟩ := opt_of_lt hci
          obtain ⟨g, hgg⟩ := opt_of_lt hc2
          have hbb := hBm b (mem_of_opt hb)
          obtain ⟨⟨g1, g2, g3⟩, _⟩ := f7 g (mem_of_opt hgg)
          have hal := refAt_length r B k i
          have hos := refAt_succ r B k i
          have hbg : B.getD i 0 = b := by rw [List.getD_eq_getElem?_getD, hb]; rfl
          rw [hbg, hgg, Option.getD_some, Int.toNat_natCast] at hos
          have hkb : k * (i + 1) ≤ 2147483645 * 26 := Nat.mul_le_mul (by omega) (by omega)
          have hw : IntKind.i64.wrap ((k : Int) * ((i : Int) + 1)) = ((k * (i + 1) : Nat) : Int) := by
            rw [show (k : Int) * ((i : Int) + 1) = ((k * (i + 1) : Nat) : Int) from rfl]
            generalize k * (i + 1) = z at hkb
            exact wrapI (by omega) (by omega)
          refine awp_skip ?_
          repeat refine awp_seq ?_
          refine awp_block ?_
          repeat refine awp_seq ?_
          refine awp_reg (by kernel_rfl) fun K hK => ?_
          simp only [go_sem, reduceIte, reduceCtorEq, Nat.reduceEqDiff, Nat.reduceAdd, Nat.reduceSub, Nat.reduceMul, Nat.reduceLeDiff, Nat.reduceLT, Int.reduceToNat, Int.reduceLE, Int.reduceLT, Int.reduceMul, Int.reduceAdd, Int.reduceSub, Int.reduceNeg, Int.reduceEq, Int.reduceNe]
          (try simp (disch := omega) only [wrapI])
          rw [hw]
          refine xcall_eq (refPower_ok 48271 (k * (i + 1)) (by omega) (by omega) (by omega)) rfl (by simp only [go_sem, reduceIte, reduceCtorEq, Nat.reduceEqDiff, Nat.reduceAdd, Nat.reduceSub, Nat.reduceMul, Nat.reduceLeDiff, Nat.reduceLT, Int.reduceToNat, Int.reduceLE, Int.reduceLT, Int.reduceMul, Int.reduceAdd, Int.reduceSub, Int.reduceNeg, Int.reduceEq, Int.reduceNe, i64, ints]) (by simp only [go_sem, reduceIte, reduceCtorEq, Nat.reduceEqDiff, Nat.reduceAdd, Nat.reduceSub, Nat.reduceMul, Nat.reduceLeDiff, Nat.reduceLT, Int.reduceToNat, Int.reduceLE, Int.reduceLT, Int.reduceMul, Int.reduceAdd, Int.reduceSub, Int.reduceNeg, Int.reduceEq, Int.reduceNe, i64, ints]) (by first | exact .inl rfl | exact .inr rfl) ?_
          (try simp only [go_sem, reduceIte, reduceCtorEq, Nat.reduceEqDiff, Nat.reduceAdd, Nat.reduceSub, Nat.reduceMul, Nat.reduceLeDiff, Nat.reduceLT, Int.reduceToNat, Int.reduceLE, Int.reduceLT, Int.reduceMul, Int.reduceAdd, Int.reduceSub, Int.reduceNeg, Int.reduceEq, Int.reduceNe])
          (try simp (disch := omega) only [wrapI])
          intros
          refine hK _ ?_
          clear hK K
          generalize hn : k * (i + 1) = n at *
          have hPl := tpow_lo 48271 n
          have hPh := tpow_hi 48271 n
          have hcdef : tover b (tpow 48271 n) = tover b (tpow 48271 n) := rfl
          generalize hc' : tover b (tpow 48271 n) = c at hos hcdef
          have hmt := fun a v => @match_two c a v b n hc'.symm (by omega) (by omega)
          have hmo := fun a => @match_one c a b n hc'.symm (by omega) (by omega)
          clear hcdef
          generalize tpow 48271 n = P at *
          repeat refine awp_seq ?_
          refine awp_reg (by kernel_rfl) fun K hK => ?_
          simp only [go_sem, reduceIte, reduceCtorEq, Nat.reduceEqDiff, Nat.reduceAdd, Nat.reduceSub, Nat.reduceMul, Nat.reduceLeDiff, Nat.reduceLT, Int.reduceToNat, Int.reduceLE, Int.reduceLT, Int.reduceMul, Int.reduceAdd, Int.reduceSub, Int.reduceNeg, Int.reduceEq, Int.reduceNe]
          (try simp (disch := omega) only [wrapI])
          intros
          refine hK _ ?_
          clear hK K
          repeat refine awp_seq ?_
          refine awp_block ?_
          refine awp_sub (sub_ns 12 1 rfl) ?_
          have hx : playersL c g.pl = playersL c g.pl := rfl
          have hsn : ((r.squad.toNat : Nat) : Int) = r.squad := Int.toNat_of_nonneg (by omega)
          refine awp_upto (n := 135) r.squad.toNat (fun a vs => [(2, .r (i64 k)), (3, .pt 3 (vs 3) 0), (4, .pt 4 (vs 4) 0), (9, .os 129 (vs 129) 1 0 i), (10, .r (i64 i)), (11, .r (i64 P)), (12, .r (ints (seekL r g (playersL c g.pl) a 0))), (13, .r (i64 a))]) (fun _ => [(3, .box [.r (i64 r.squad), .r (games r.gs), .r (i64 r.most), .r (i64 r.bonus)]), (4, .box [.r (i64 A), .r (ints B)]), (129, .arr 34 1 ((refAt r B k i).map fun x => [ints x]))])
            (fun _ => True) 0 (fit_of [] ?_ ?_) (Nat.zero_le _) trivial ?_
          · simp only [go_sem, reduceIte, reduceCtorEq, Nat.reduceEqDiff, Nat.reduceAdd, Nat.reduceSub, Nat.reduceMul, Nat.reduceLeDiff, Nat.reduceLT, Int.reduceToNat, Int.reduceLE, Int.reduceLT, Int.reduceMul, Int.reduceAdd, Int.reduceSub, Int.reduceNeg, Int.reduceEq, Int.reduceNe]
            rw [seek_start g1 g2]
            simp
          · simp only [go_sem, reduceIte, reduceCtorEq, Nat.reduceEqDiff, Nat.reduceAdd, Nat.reduceSub, Nat.reduceMul, Nat.reduceLeDiff, Nat.reduceLT, Int.reduceToNat, Int.reduceLE, Int.reduceLT, Int.reduceMul, Int.reduceAdd, Int.reduceSub, Int.reduceNeg, Int.reduceEq, Int.reduceNe]
          · intro a vs ha _
            repeat refine awp_seq ?_
            refine awp_reg (by kernel_rfl) fun K hK => ?_
            simp only [go_sem, reduceIte, reduceCtorEq, Nat.reduceEqDiff, Nat.reduceAdd, Nat.reduceSub, Nat.reduceMul, Nat.reduceLeDiff, Nat.reduceLT, Int.reduceToNat, Int.reduceLE, Int.reduceLT, Int.reduceMul, Int.reduceAdd, Int.reduceSub, Int.reduceNeg, Int.reduceEq, Int.reduceNe]
            (try simp (disch := omega) only [wrapI])
            intros
            refine hK _ ?_
            clear hK K
            repeat refine awp_seq ?_
            refine awp_cond rfl (fun hc => ?_) (fun hc => ?_) <;> (try simp only [go_sem, reduceIte, reduceCtorEq, Nat.reduceEqDiff, Nat.reduceAdd, Nat.reduceSub, Nat.reduceMul, Nat.reduceLeDiff, Nat.reduceLT, Int.reduceToNat, Int.reduceLE, Int.reduceLT, Int.reduceMul, Int.reduceAdd, Int.reduceSub, Int.reduceNeg, Int.reduceEq, Int.reduceNe] at hc)
            · have hca := hc
              have hal2 : a < r.squad.toNat := by omega
              refine awp_skip ?_
              repeat refine awp_seq ?_
              refine awp_block ?_
              refine awp_seq ?_
              refine awp_join (n := 135) (fun (_ : Unit) vs => [(2, .r (i64 k)), (3, .pt 3 (vs 3) 0), (4, .pt 4 (vs 4) 0), (9, .os 129 (vs 129) 1 0 i), (10, .r (i64 i)), (11, .r (i64 P)), (12, .r (ints (seekL r g (playersL c g.pl) a (a + 1)))), (13, .r (i64 a))]) (fun _ => [(3, .box [.r (i64 r.squad), .r (games r.gs), .r (i64 r.most), .r (i64 r.bonus)]), (4, .box [.r (i64 A), .r (ints B)]), (129, .arr 34 1 ((refAt r B k i).map fun x => [ints x]))]) (fun _ => True) (fun _ h => h) ?_ ?_
              · repeat refine awp_seq ?_
                refine awp_dreg follows (by kernel_rfl) (by kernel_rfl) fun K hK => ?_
                simp only [go_sem, reduceIte, reduceCtorEq, Nat.reduceEqDiff, Nat.reduceAdd, Nat.reduceSub, Nat.reduceMul, Nat.reduceLeDiff, Nat.reduceLT, Int.reduceToNat, Int.reduceLE, Int.reduceLT, Int.reduceMul, Int.reduceAdd, Int.reduceSub, Int.reduceNeg, Int.reduceEq, Int.reduceNe, hgg, hc2]
                (try simp (disch := omega) only [wrapI])
                by_cases hp1 : g.pl = 1
                · have e5 : (g.pl = 1) = True := by simp [hp1]
                  have e5' : (g.pl ≠ 1) = False := by simp [hp1]
                  simp only [e5, e5', go_sem, reduceIte, reduceCtorEq, Nat.reduceEqDiff, Nat.reduceAdd, Nat.reduceSub, Nat.reduceMul, Nat.reduceLeDiff, Nat.reduceLT, Int.reduceToNat, Int.reduceLE, Int.reduceLT, Int.reduceMul, Int.reduceAdd, Int.reduceSub, Int.reduceNeg, Int.reduceEq, Int.reduceNe]
                  have hcb := codeL_in [(a : Int)] (by simp; omega)
                  simp only [List.length_cons, List.length_nil] at hcb
                  refine xcall_eq (refCode_ok [(a : Int)] (.inl rfl) (by simp; omega)) rfl (by simp only [go_sem, reduceIte, reduceCtorEq, Nat.reduceEqDiff, Nat.reduceAdd, Nat.reduceSub, Nat.reduceMul, Nat.reduceLeDiff, Nat.reduceLT, Int.reduceToNat, Int.reduceLE, Int.reduceLT, Int.reduceMul, Int.reduceAdd, Int.reduceSub, Int.reduceNeg, Int.reduceEq, Int.reduceNe, i64, ints]) (by simp only [go_sem, reduceIte, reduceCtorEq, Nat.reduceEqDiff, Nat.reduceAdd, Nat.reduceSub, Nat.reduceMul, Nat.reduceLeDiff, Nat.reduceLT, Int.reduceToNat, Int.reduceLE, Int.reduceLT, Int.reduceMul, Int.reduceAdd, Int.reduceSub, Int.reduceNeg, Int.reduceEq, Int.reduceNe, i64, ints]) (by first | exact .inl rfl | exact .inr rfl) ?_
                  (try simp only [go_sem, reduceIte, reduceCtorEq, Nat.reduceEqDiff, Nat.reduceAdd, Nat.reduceSub, Nat.reduceMul, Nat.reduceLeDiff, Nat.reduceLT, Int.reduceToNat, Int.reduceLE, Int.reduceLT, Int.reduceMul, Int.reduceAdd, Int.reduceSub, Int.reduceNeg, Int.reduceEq, Int.reduceNe])
                  (try simp (disch := omega) only [wrapI])
                  rw [tmul_step (by omega) (by omega) hPl (by omega)]
                  simp only [hb, hci, go_sem, reduceIte, reduceCtorEq, Nat.reduceEqDiff, Nat.reduceAdd, Nat.reduceSub, Nat.reduceMul, Nat.reduceLeDiff, Nat.reduceLT, Int.reduceToNat, Int.reduceLE, Int.reduceLT, Int.reduceMul, Int.reduceAdd, Int.reduceSub, Int.reduceNeg, Int.reduceEq, Int.reduceNe]
                  have hso := seek_one (r := r) (g := g) (c := c) (a := a) hp1 (by omega) (by omega)
                  have hmo' := hmo a (by omega) (by omega)
                  rw [← hp1] at hmo'
                  by_cases hm : tmul (codeL [(a : Int)]) P = b
                  · rw [if_pos (hmo'.1 hm)] at hso
                    have e6 : (tmul (codeL [(a : Int)]) P == b) = true := by simp [hm]
                    rw [e6]
                    intros
                    refine hK _ ?_
                    clear hK K
                    repeat refine awp_seq ?_
                    refine awp_cond rfl (fun hc => ?_) (fun hc => ?_) <;> (try simp only [go_sem, reduceIte, reduceCtorEq, Nat.reduceEqDiff, Nat.reduceAdd, Nat.reduceSub, Nat.reduceMul, Nat.reduceLeDiff, Nat.reduceLT, Int.reduceToNat, Int.reduceLE, Int.reduceLT, Int.reduceMul, Int.reduceAdd, Int.reduceSub, Int.reduceNeg, Int.reduceEq, Int.reduceNe] at hc)
                    repeat refine awp_seq ?_
                    refine awp_reg (by kernel_rfl) fun K hK => ?_
                    simp only [go_sem, reduceIte, reduceCtorEq, Nat.reduceEqDiff, Nat.reduceAdd, Nat.reduceSub, Nat.reduceMul, Nat.reduceLeDiff, Nat.reduceLT, Int.reduceToNat, Int.reduceLE, Int.reduceLT, Int.reduceMul, Int.reduceAdd, Int.reduceSub, Int.reduceNeg, Int.reduceEq, Int.reduceNe]
                    (try simp (disch := omega) only [wrapI])
                    intros
                    refine hK _ ?_
                    clear hK K
                    refine ⟨(), trivial, fit_of [] ?_ ?_⟩
                    · simp only [go_sem, reduceIte, reduceCtorEq, Nat.reduceEqDiff, Nat.reduceAdd, Nat.reduceSub, Nat.reduceMul, Nat.reduceLeDiff, Nat.reduceLT, Int.reduceToNat, Int.reduceLE, Int.reduceLT, Int.reduceMul, Int.reduceAdd, Int.reduceSub, Int.reduceNeg, Int.reduceEq, Int.reduceNe]
                      rw [← hso]
                      simp
                    · simp only [go_sem, reduceIte, reduceCtorEq, Nat.reduceEqDiff, Nat.reduceAdd, Nat.reduceSub, Nat.reduceMul, Nat.reduceLeDiff, Nat.reduceLT, Int.reduceToNat, Int.reduceLE, Int.reduceLT, Int.reduceMul, Int.reduceAdd, Int.reduceSub, Int.reduceNeg, Int.reduceEq, Int.reduceNe]
                  · rw [if_neg (fun h => hm (hmo'.2 h))] at hso
                    have e6 : (tmul (codeL [(a : Int)]) P == b) = false := by simp [hm]
                    rw [e6]
                    intros
                    refine hK _ ?_
                    clear hK K
                    repeat refine awp_seq ?_
                    refine awp_cond rfl (fun hc => ?_) (fun hc => ?_) <;> (try simp only [go_sem, reduceIte, reduceCtorEq, Nat.reduceEqDiff, Nat.reduceAdd, Nat.reduceSub, Nat.reduceMul, Nat.reduceLeDiff, Nat.reduceLT, Int.reduceToNat, Int.reduceLE, Int.reduceLT, Int.reduceMul, Int.reduceAdd, Int.reduceSub, Int.reduceNeg, Int.reduceEq, Int.reduceNe] at hc)
                    refine awp_skip ?_
                    refine ⟨(), trivial, fit_of [] ?_ ?_⟩
                    · simp only [go_sem, reduceIte, reduceCtorEq, Nat.reduceEqDiff, Nat.reduceAdd, Nat.reduceSub, Nat.reduceMul, Nat.reduceLeDiff, Nat.reduceLT, Int.reduceToNat, Int.reduceLE, Int.reduceLT, Int.reduceMul, Int.reduceAdd, Int.reduceSub, Int.reduceNeg, Int.reduceEq, Int.reduceNe]
                      rw [← hso]
                    · simp only [go_sem, reduceIte, reduceCtorEq, Nat.reduceEqDiff, Nat.reduceAdd, Nat.reduceSub, Nat.reduceMul, Nat.reduceLeDiff, Nat.reduceLT, Int.reduceToNat, Int.reduceLE, Int.reduceLT, Int.reduceMul, Int.reduceAdd, Int.reduceSub, Int.reduceNeg, Int.reduceEq, Int.reduceNe]
                · have e5 : (g.pl = 1) = False := by simp [hp1]
                  have e5' : (g.pl ≠ 1) = True := by simp [hp1]
                  simp only [e5, e5', go_sem, reduceIte, reduceCtorEq, Nat.reduceEqDiff, Nat.reduceAdd, Nat.reduceSub, Nat.reduceMul, Nat.reduceLeDiff, Nat.reduceLT, Int.reduceToNat, Int.reduceLE, Int.reduceLT, Int.reduceMul, Int.reduceAdd, Int.reduceSub, Int.reduceNeg, Int.reduceEq, Int.reduceNe]
                  intros
                  refine hK _ ?_
                  clear hK K
                  repeat refine awp_seq ?_
                  refine awp_cond rfl (fun hc => ?_) (fun hc => ?_) <;> (try simp only [go_sem, reduceIte, reduceCtorEq, Nat.reduceEqDiff, Nat.reduceAdd, Nat.reduceSub, Nat.reduceMul, Nat.reduceLeDiff, Nat.reduceLT, Int.reduceToNat, Int.reduceLE, Int.reduceLT, Int.reduceMul, Int.reduceAdd, Int.reduceSub, Int.reduceNeg, Int.reduceEq, Int.reduceNe] at hc)
                  refine awp_skip ?_
                  refine ⟨(), trivial, fit_of [] ?_ ?_⟩
                  · simp only [go_sem, reduceIte, reduceCtorEq, Nat.reduceEqDiff, Nat.reduceAdd, Nat.reduceSub, Nat.reduceMul, Nat.reduceLeDiff, Nat.reduceLT, Int.reduceToNat, Int.reduceLE, Int.reduceLT, Int.reduceMul, Int.reduceAdd, Int.reduceSub, Int.reduceNeg, Int.reduceEq, Int.reduceNe]
                    rw [seek_none (by omega)]
                  · simp only [go_sem, reduceIte, reduceCtorEq, Nat.reduceEqDiff, Nat.reduceAdd, Nat.reduceSub, Nat.reduceMul, Nat.reduceLeDiff, Nat.reduceLT, Int.reduceToNat, Int.reduceLE, Int.reduceLT, Int.reduceMul, Int.reduceAdd, Int.reduceSub, Int.reduceNeg, Int.reduceEq, Int.reduceNe]
              · rintro ⟨⟩ vs _
                repeat refine awp_seq ?_
                refine awp_reg (by kernel_rfl) fun K hK => ?_
                simp only [go_sem, reduceIte, reduceCtorEq, Nat.reduceEqDiff, Nat.reduceAdd, Nat.reduceSub, Nat.reduceMul, Nat.reduceLeDiff, Nat.reduceLT, Int.reduceToNat, Int.reduceLE, Int.reduceLT, Int.reduceMul, Int.reduceAdd, Int.reduceSub, Int.reduceNeg, Int.reduceEq, Int.reduceNe]
                (try simp (disch := omega) only [wrapI])
                intros
                refine hK _ ?_
                clear hK K
                repeat refine awp_seq ?_
                refine awp_block ?_
                refine awp_upto (n := 135) r.squad.toNat (fun v vs => [(2, .r (i64 k)), (3, .pt 3 (vs 3) 0), (4, .pt 4 (vs 4) 0), (9, .os 129 (vs 129) 1 0 i), (10, .r (i64 i)), (11, .r (i64 P)), (12, .r (ints (seekL r g (playersL c g.pl) a v))), (13, .r (i64 a)), (14, .r (i64 v))]) (fun _ => [(3, .box [.r (i64 r.squad), .r (games r.gs), .r (i64 r.most), .r (i64 r.bonus)]), (4, .box [.r (i64 A), .r (ints B)]), (129, .arr 34 1 ((refAt r B k i).map fun x => [ints x]))])
                  (fun v => a < v) (a + 1) (fit_of [] ?_ ?_) (by omega) (by omega) ?_
                · simp only [go_sem, reduceIte, reduceCtorEq, Nat.reduceEqDiff, Nat.reduceAdd, Nat.reduceSub, Nat.reduceMul, Nat.reduceLeDiff, Nat.reduceLT, Int.reduceToNat, Int.reduceLE, Int.reduceLT, Int.reduceMul, Int.reduceAdd, Int.reduceSub, Int.reduceNeg, Int.reduceEq, Int.reduceNe]
                · simp only [go_sem, reduceIte, reduceCtorEq, Nat.reduceEqDiff, Nat.reduceAdd, Nat.reduceSub, Nat.reduceMul, Nat.reduceLeDiff, Nat.reduceLT, Int.reduceToNat, Int.reduceLE, Int.reduceLT, Int.reduceMul, Int.reduceAdd, Int.reduceSub, Int.reduceNeg, Int.reduceEq, Int.reduceNe]
                · intro v vs hv hav
                  repeat refine awp_seq ?_
                  refine awp_reg (by kernel_rfl) fun K hK => ?_
                  simp only [go_sem, reduceIte, reduceCtorEq, Nat.reduceEqDiff, Nat.reduceAdd, Nat.reduceSub, Nat.reduceMul, Nat.reduceLeDiff, Nat.reduceLT, Int.reduceToNat, Int.reduceLE, Int.reduceLT, Int.reduceMul, Int.reduceAdd, Int.reduceSub, Int.reduceNeg, Int.reduceEq, Int.reduceNe]
                  (try simp (disch := omega) only [wrapI])
                  intros
                  refine hK _ ?_
                  clear hK K
                  repeat refine awp_seq ?_
                  refine awp_cond rfl (fun hc => ?_) (fun hc => ?_) <;> (try simp only [go_sem, reduceIte, reduceCtorEq, Nat.reduceEqDiff, Nat.reduceAdd, Nat.reduceSub, Nat.reduceMul, Nat.reduceLeDiff, Nat.reduceLT, Int.reduceToNat, Int.reduceLE, Int.reduceLT, Int.reduceMul, Int.reduceAdd, Int.reduceSub, Int.reduceNeg, Int.reduceEq, Int.reduceNe] at hc)
                  · have hcv := hc
                    refine awp_skip ?_
                    repeat refine awp_seq ?_
                    refine awp_block ?_
                    have hav2 : (a : Int) < v := by omega
                    refine awp_join (n := 135) (fun (_ : Unit) vs => [(2, .r (i64 k)), (3, .pt 3 (vs 3) 0), (4, .pt 4 (vs 4) 0), (9, .os 129 (vs 129) 1 0 i), (10, .r (i64 i)), (11, .r (i64 P)), (12, .r (ints (seekL r g (playersL c g.pl) a (v + 1)))), (13, .r (i64 a)), (14, .r (i64 v))]) (fun _ => [(3, .box [.r (i64 r.squad), .r (games r.gs), .r (i64 r.most), .r (i64 r.bonus)]), (4, .box [.r (i64 A), .r (ints B)]), (129, .arr 34 1 ((refAt r B k i).map fun x => [ints x]))]) (fun _ => True) (fun _ h => h) ?_ ?_
                    · repeat refine awp_seq ?_
                      refine awp_dreg follows (by kernel_rfl) (by kernel_rfl) fun K hK => ?_
                      simp only [go_sem, reduceIte, reduceCtorEq, Nat.reduceEqDiff, Nat.reduceAdd, Nat.reduceSub, Nat.reduceMul, Nat.reduceLeDiff, Nat.reduceLT, Int.reduceToNat, Int.reduceLE, Int.reduceLT, Int.reduceMul, Int.reduceAdd, Int.reduceSub, Int.reduceNeg, Int.reduceEq, Int.reduceNe, hgg, hc2]
                      (try simp (disch := omega) only [wrapI])
                      by_cases hp2 : g.pl = 2
                      · have e5 : (g.pl = 2) = True := by simp [hp2]
                        have e5' : (g.pl ≠ 2) = False := by simp [hp2]
                        simp only [e5, e5', go_sem, reduceIte, reduceCtorEq, Nat.reduceEqDiff, Nat.reduceAdd, Nat.reduceSub, Nat.reduceMul, Nat.reduceLeDiff, Nat.reduceLT, Int.reduceToNat, Int.reduceLE, Int.reduceLT, Int.reduceMul, Int.reduceAdd, Int.reduceSub, Int.reduceNeg, Int.reduceEq, Int.reduceNe]
                        have hcb := codeL_in [(a : Int), (v : Int)] (by simp; omega)
                        simp only [List.length_cons, List.length_nil] at hcb
                        refine xcall_eq (refCode_ok [(a : Int), (v : Int)] (.inr rfl) (by simp; omega)) rfl (by simp only [go_sem, reduceIte, reduceCtorEq, Nat.reduceEqDiff, Nat.reduceAdd, Nat.reduceSub, Nat.reduceMul, Nat.reduceLeDiff, Nat.reduceLT, Int.reduceToNat, Int.reduceLE, Int.reduceLT, Int.reduceMul, Int.reduceAdd, Int.reduceSub, Int.reduceNeg, Int.reduceEq, Int.reduceNe, i64, ints]) (by simp only [go_sem, reduceIte, reduceCtorEq, Nat.reduceEqDiff, Nat.reduceAdd, Nat.reduceSub, Nat.reduceMul, Nat.reduceLeDiff, Nat.reduceLT, Int.reduceToNat, Int.reduceLE, Int.reduceLT, Int.reduceMul, Int.reduceAdd, Int.reduceSub, Int.reduceNeg, Int.reduceEq, Int.reduceNe, i64, ints]) (by first | exact .inl rfl | exact .inr rfl) ?_
                        (try simp only [go_sem, reduceIte, reduceCtorEq, Nat.reduceEqDiff, Nat.reduceAdd, Nat.reduceSub, Nat.reduceMul, Nat.reduceLeDiff, Nat.reduceLT, Int.reduceToNat, Int.reduceLE, Int.reduceLT, Int.reduceMul, Int.reduceAdd, Int.reduceSub, Int.reduceNeg, Int.reduceEq, Int.reduceNe])
                        (try simp (disch := omega) only [wrapI])
                        rw [tmul_step (by omega) (by omega) hPl (by omega)]
                        simp only [hb, hci, go_sem, reduceIte, reduceCtorEq, Nat.reduceEqDiff, Nat.reduceAdd, Nat.reduceSub, Nat.reduceMul, Nat.reduceLeDiff, Nat.reduceLT, Int.reduceToNat, Int.reduceLE, Int.reduceLT, Int.reduceMul, Int.reduceAdd, Int.reduceSub, Int.reduceNeg, Int.reduceEq, Int.reduceNe]
                        have hso := seek_two (r := r) (g := g) (x := playersL c g.pl) (a := a) (v := v) hp2 (by omega) hav2 hcv
                        have hmt' := hmt a v (by omega) (by omega) (by omega) (by omega)
                        rw [← hp2] at hmt'
                        by_cases hm : tmul (codeL [(a : Int), (v : Int)]) P = b
                        · rw [if_pos (hmt'.1 hm)] at hso
                          have e6 : (tmul (codeL [(a : Int), (v : Int)]) P == b) = true := by simp [hm]
                          rw [e6]
                          intros
                          refine hK _ ?_
                          clear hK K
                          repeat refine awp_seq ?_
                          refine awp_cond rfl (fun hc => ?_) (fun hc => ?_) <;> (try simp only [go_sem, reduceIte, reduceCtorEq, Nat.reduceEqDiff, Nat.reduceAdd, Nat.reduceSub, Nat.reduceMul, Nat.reduceLeDiff, Nat.reduceLT, Int.reduceToNat, Int.reduceLE, Int.reduceLT, Int.reduceMul, Int.reduceAdd, Int.reduceSub, Int.reduceNeg, Int.reduceEq, Int.reduceNe] at hc)
                          repeat refine awp_seq ?_
                          refine awp_reg (by kernel_rfl) fun K hK => ?_
                          simp only [go_sem, reduceIte, reduceCtorEq, Nat.reduceEqDiff, Nat.reduceAdd, Nat.reduceSub, Nat.reduceMul, Nat.reduceLeDiff, Nat.reduceLT, Int.reduceToNat, Int.reduceLE, Int.reduceLT, Int.reduceMul, Int.reduceAdd, Int.reduceSub, Int.reduceNeg, Int.reduceEq, Int.reduceNe]
                          (try simp (disch := omega) only [wrapI])
                          intros
                          refine hK _ ?_
                          clear hK K
                          refine ⟨(), trivial, fit_of [] ?_ ?_⟩
                          · simp only [go_sem, reduceIte, reduceCtorEq, Nat.reduceEqDiff, Nat.reduceAdd, Nat.reduceSub, Nat.reduceMul, Nat.reduceLeDiff, Nat.reduceLT, Int.reduceToNat, Int.reduceLE, Int.reduceLT, Int.reduceMul, Int.reduceAdd, Int.reduceSub, Int.reduceNeg, Int.reduceEq, Int.reduceNe]
                            rw [← hso]
                            simp
                          · simp only [go_sem, reduceIte, reduceCtorEq, Nat.reduceEqDiff, Nat.reduceAdd, Nat.reduceSub, Nat.reduceMul, Nat.reduceLeDiff, Nat.reduceLT, Int.reduceToNat, Int.reduceLE, Int.reduceLT, Int.reduceMul, Int.reduceAdd, Int.reduceSub, Int.reduceNeg, Int.reduceEq, Int.reduceNe]
                        · rw [if_neg (fun h => hm (hmt'.2 h))] at hso
                          have e6 : (tmul (codeL [(a : Int), (v : Int)]) P == b) = false := by simp [hm]
                          rw [e6]
                          intros
                          refine hK _ ?_
                          clear hK K
                          repeat refine awp_seq ?_
                          refine awp_cond rfl (fun hc => ?_) (fun hc => ?_) <;> (try simp only [go_sem, reduceIte, reduceCtorEq, Nat.reduceEqDiff, Nat.reduceAdd, Nat.reduceSub, Nat.reduceMul, Nat.reduceLeDiff, Nat.reduceLT, Int.reduceToNat, Int.reduceLE, Int.reduceLT, Int.reduceMul, Int.reduceAdd, Int.reduceSub, Int.reduceNeg, Int.reduceEq, Int.reduceNe] at hc)
                          refine awp_skip ?_
                          refine ⟨(), trivial, fit_of [] ?_ ?_⟩
                          · simp only [go_sem, reduceIte, reduceCtorEq, Nat.reduceEqDiff, Nat.reduceAdd, Nat.reduceSub, Nat.reduceMul, Nat.reduceLeDiff, Nat.reduceLT, Int.reduceToNat, Int.reduceLE, Int.reduceLT, Int.reduceMul, Int.reduceAdd, Int.reduceSub, Int.reduceNeg, Int.reduceEq, Int.reduceNe]
                            rw [← hso]
                          · simp only [go_sem, reduceIte, reduceCtorEq, Nat.reduceEqDiff, Nat.reduceAdd, Nat.reduceSub, Nat.reduceMul, Nat.reduceLeDiff, Nat.reduceLT, Int.reduceToNat, Int.reduceLE, Int.reduceLT, Int.reduceMul, Int.reduceAdd, Int.reduceSub, Int.reduceNeg, Int.reduceEq, Int.reduceNe]
                      · have e5 : (g.pl = 2) = False := by simp [hp2]
                        have e5' : (g.pl ≠ 2) = True := by simp [hp2]
                        have hsv := seek_same (r := r) (g := g) (c := c) (a := a) (v := v) (show g.pl = 1 by omega) (by omega) hav2
                        simp only [e5, e5', go_sem, reduceIte, reduceCtorEq, Nat.reduceEqDiff, Nat.reduceAdd, Nat.reduceSub, Nat.reduceMul, Nat.reduceLeDiff, Nat.reduceLT, Int.reduceToNat, Int.reduceLE, Int.reduceLT, Int.reduceMul, Int.reduceAdd, Int.reduceSub, Int.reduceNeg, Int.reduceEq, Int.reduceNe]
                        intros
                        refine hK _ ?_
                        clear hK K
                        repeat refine awp_seq ?_
                        refine awp_cond rfl (fun hc => ?_) (fun hc => ?_) <;> (try simp only [go_sem, reduceIte, reduceCtorEq, Nat.reduceEqDiff, Nat.reduceAdd, Nat.reduceSub, Nat.reduceMul, Nat.reduceLeDiff, Nat.reduceLT, Int.reduceToNat, Int.reduceLE, Int.reduceLT, Int.reduceMul, Int.reduceAdd, Int.reduceSub, Int.reduceNeg, Int.reduceEq, Int.reduceNe] at hc)
                        refine awp_skip ?_
                        refine ⟨(), trivial, fit_of [] ?_ ?_⟩
                        · simp only [go_sem, reduceIte, reduceCtorEq, Nat.reduceEqDiff, Nat.reduceAdd, Nat.reduceSub, Nat.reduceMul, Nat.reduceLeDiff, Nat.reduceLT, Int.reduceToNat, Int.reduceLE, Int.reduceLT, Int.reduceMul, Int.reduceAdd, Int.reduceSub, Int.reduceNeg, Int.reduceEq, Int.reduceNe]
                          rw [hsv]
                        · simp only [go_sem, reduceIte, reduceCtorEq, Nat.reduceEqDiff, Nat.reduceAdd, Nat.reduceSub, Nat.reduceMul, Nat.reduceLeDiff, Nat.reduceLT, Int.reduceToNat, Int.reduceLE, Int.reduceLT, Int.reduceMul, Int.reduceAdd, Int.reduceSub, Int.reduceNeg, Int.reduceEq, Int.reduceNe]
                    · rintro ⟨⟩ vs _
                      simp only [go_sem, reduceIte, reduceCtorEq, Nat.reduceEqDiff, Nat.reduceAdd, Nat.reduceSub, Nat.reduceMul, Nat.reduceLeDiff, Nat.reduceLT, Int.reduceToNat, Int.reduceLE, Int.reduceLT, Int.reduceMul, Int.reduceAdd, Int.reduceSub, Int.reduceNeg, Int.reduceEq, Int.reduceNe]
                      repeat refine awp_seq ?_
                      refine awp_reg (by kernel_rfl) fun K hK => ?_
                      simp only [go_sem, reduceIte, reduceCtorEq, Nat.reduceEqDiff, Nat.reduceAdd, Nat.reduceSub, Nat.reduceMul, Nat.reduceLeDiff, Nat.reduceLT, Int.reduceToNat, Int.reduceLE, Int.reduceLT, Int.reduceMul, Int.reduceAdd, Int.reduceSub, Int.reduceNeg, Int.reduceEq, Int.reduceNe]
                      (try simp (disch := omega) only [wrapI])
                      intros
                      refine hK _ ?_
                      clear hK K
                      simp only [go_sem, reduceIte, reduceCtorEq, Nat.reduceEqDiff, Nat.reduceAdd, Nat.reduceSub, Nat.reduceMul, Nat.reduceLeDiff, Nat.reduceLT, Int.reduceToNat, Int.reduceLE, Int.reduceLT, Int.reduceMul, Int.reduceAdd, Int.reduceSub, Int.reduceNeg, Int.reduceEq, Int.reduceNe]
                      refine ⟨by omega, by omega, fit_of [] ?_ ?_⟩
                      · simp only [go_sem, reduceIte, reduceCtorEq, Nat.reduceEqDiff, Nat.reduceAdd, Nat.reduceSub, Nat.reduceMul, Nat.reduceLeDiff, Nat.reduceLT, Int.reduceToNat, Int.reduceLE, Int.reduceLT, Int.reduceMul, Int.reduceAdd, Int.reduceSub, Int.reduceNeg, Int.reduceEq, Int.reduceNe]
                      · simp only [go_sem, reduceIte, reduceCtorEq, Nat.reduceEqDiff, Nat.reduceAdd, Nat.reduceSub, Nat.reduceMul, Nat.reduceLeDiff, Nat.reduceLT, Int.reduceToNat, Int.reduceLE, Int.reduceLT, Int.reduceMul, Int.reduceAdd, Int.reduceSub, Int.reduceNeg, Int.reduceEq, Int.reduceNe]
                  · have hvs : (v : Int) = r.squad := by omega
                    have hsk := seek_next (r := r) (g := g) (x := playersL c g.pl) g1 g2 f1 a
                    refine awp_exit ?_
                    simp only [go_sem, reduceIte, reduceCtorEq, Nat.reduceEqDiff, Nat.reduceAdd, Nat.reduceSub, Nat.reduceMul, Nat.reduceLeDiff, Nat.reduceLT, Int.reduceToNat, Int.reduceLE, Int.reduceLT, Int.reduceMul, Int.reduceAdd, Int.reduceSub, Int.reduceNeg, Int.reduceEq, Int.reduceNe]
                    repeat refine awp_seq ?_
                    refine awp_reg (by kernel_rfl) fun K hK => ?_
                    simp only [go_sem, reduceIte, reduceCtorEq, Nat.reduceEqDiff, Nat.reduceAdd, Nat.reduceSub, Nat.reduceMul, Nat.reduceLeDiff, Nat.reduceLT, Int.reduceToNat, Int.reduceLE, Int.reduceLT, Int.reduceMul, Int.reduceAdd, Int.reduceSub, Int.reduceNeg, Int.reduceEq, Int.reduceNe]
                    (try simp (disch := omega) only [wrapI])
                    intros
                    refine hK _ ?_
                    clear hK K
                    simp only [go_sem, reduceIte, reduceCtorEq, Nat.reduceEqDiff, Nat.reduceAdd, Nat.reduceSub, Nat.reduceMul, Nat.reduceLeDiff, Nat.reduceLT, Int.reduceToNat, Int.reduceLE, Int.reduceLT, Int.reduceMul, Int.reduceAdd, Int.reduceSub, Int.reduceNeg, Int.reduceEq, Int.reduceNe]
                    refine ⟨hal2, fit_of [] ?_ ?_⟩
                    · simp only [go_sem, reduceIte, reduceCtorEq, Nat.reduceEqDiff, Nat.reduceAdd, Nat.reduceSub, Nat.reduceMul, Nat.reduceLeDiff, Nat.reduceLT, Int.reduceToNat, Int.reduceLE, Int.reduceLT, Int.reduceMul, Int.reduceAdd, Int.reduceSub, Int.reduceNeg, Int.reduceEq, Int.reduceNe]
                      rw [hvs, hsk]
                    · simp only [go_sem, reduceIte, reduceCtorEq, Nat.reduceEqDiff, Nat.reduceAdd, Nat.reduceSub, Nat.reduceMul, Nat.reduceLeDiff, Nat.reduceLT, Int.reduceToNat, Int.reduceLE, Int.reduceLT, Int.reduceMul, Int.reduceAdd, Int.reduceSub, Int.reduceNeg, Int.reduceEq, Int.reduceNe]
            · have has : (a : Int) = r.squad := by omega
              have hse := seek_end (r := r) (g := g) (c := c) g1 g2
              rw [has, hse]
              refine awp_exit ?_
              simp only [go_sem, reduceIte, reduceCtorEq, Nat.reduceEqDiff, Nat.reduceAdd, Nat.reduceSub, Nat.reduceMul, Nat.reduceLeDiff, Nat.reduceLT, Int.reduceToNat, Int.reduceLE, Int.reduceLT, Int.reduceMul, Int.reduceAdd, Int.reduceSub, Int.reduceNeg, Int.reduceEq, Int.reduceNe]
              repeat refine awp_seq ?_
              refine awp_reg (by kernel_rfl) fun K hK => ?_
              simp only [go_sem, reduceIte, reduceCtorEq, Nat.reduceEqDiff, Nat.reduceAdd, Nat.reduceSub, Nat.reduceMul, Nat.reduceLeDiff, Nat.reduceLT, Int.reduceToNat, Int.reduceLE, Int.reduceLT, Int.reduceMul, Int.reduceAdd, Int.reduceSub, Int.reduceNeg, Int.reduceEq, Int.reduceNe]
              (try simp (disch := omega) only [wrapI])
              simp only [hal, go_sem, reduceIte, reduceCtorEq, Nat.reduceEqDiff, Nat.reduceAdd, Nat.reduceSub, Nat.reduceMul, Nat.reduceLeDiff, Nat.reduceLT, Int.reduceToNat, Int.reduceLE, Int.reduceLT, Int.reduceMul, Int.reduceAdd, Int.reduceSub, Int.reduceNeg, Int.reduceEq, Int.reduceNe]
              refine ⟨⟨by omega, by omega⟩, ?_⟩
              intros
              refine hK _ ?_
              clear hK K
              simp only [go_sem, reduceIte, reduceCtorEq, Nat.reduceEqDiff, Nat.reduceAdd, Nat.reduceSub, Nat.reduceMul, Nat.reduceLeDiff, Nat.reduceLT, Int.reduceToNat, Int.reduceLE, Int.reduceLT, Int.reduceMul, Int.reduceAdd, Int.reduceSub, Int.reduceNeg, Int.reduceEq, Int.reduceNe]
              repeat refine awp_seq ?_
              refine awp_reg (by kernel_rfl) fun K hK => ?_
              simp only [go_sem, reduceIte, reduceCtorEq, Nat.reduceEqDiff, Nat.reduceAdd, Nat.reduceSub, Nat.reduceMul, Nat.reduceLeDiff, Nat.reduceLT, Int.reduceToNat, Int.reduceLE, Int.reduceLT, Int.reduceMul, Int.reduceAdd, Int.reduceSub, Int.reduceNeg, Int.reduceEq, Int.reduceNe]
              (try simp (disch := omega) only [wrapI])
              intros
              refine hK _ ?_
              clear hK K
              simp only [go_sem, reduceIte, reduceCtorEq, Nat.reduceEqDiff, Nat.reduceAdd, Nat.reduceSub, Nat.reduceMul, Nat.reduceLeDiff, Nat.reduceLT, Int.reduceToNat, Int.reduceLE, Int.reduceLT, Int.reduceMul, Int.reduceAdd, Int.reduceSub, Int.reduceNeg, Int.reduceEq, Int.reduceNe]
              refine ⟨hci, fit_of [] ?_ ?_⟩
              · simp only [go_sem, reduceIte, reduceCtorEq, Nat.reduceEqDiff, Nat.reduceAdd, Nat.reduceSub, Nat.reduceMul, Nat.reduceLeDiff, Nat.reduceLT, Int.reduceToNat, Int.reduceLE, Int.reduceLT, Int.reduceMul, Int.reduceAdd, Int.reduceSub, Int.reduceNeg, Int.reduceEq, Int.reduceNe]
              · simp only [killC]
                rw [hos, List.map_append]
                rfl
        · have : i = B.length := by omega
          subst this
          have hal := refAt_length r B k B.length
          obtain ⟨ho1, ho2⟩ := ref_order (B := B) (k := (k : Int)) h1 h3
          refine awp_exit ?_
          simp only [go_sem, reduceIte, reduceCtorEq, Nat.reduceEqDiff, Nat.reduceAdd, Nat.reduceSub, Nat.reduceMul, Nat.reduceLeDiff, Nat.reduceLT, Int.reduceToNat, Int.reduceLE, Int.reduceLT, Int.reduceMul, Int.reduceAdd, Int.reduceSub, Int.reduceNeg, Int.reduceEq, Int.reduceNe]
          refine awp_sub (sub_frz (ty := 34) (sz := 1) (off := 0) (m := B.length) (es := (refAt r B k B.length).map fun x => [ints x]) 9 129 (by omega) rfl rfl (by simp [hal])) ?_
          have hrow : ((((refAt r B (k : Int) B.length).map fun x => [ints x]).drop 0).take B.length) = (refAt r B (k : Int) B.length).map fun x => [ints x] := by
            rw [List.drop_zero]; exact List.take_of_length_le (by simp [hal])
          rw [hrow]
          simp only [go_sem, reduceIte, reduceCtorEq, Nat.reduceEqDiff, Nat.reduceAdd, Nat.reduceSub, Nat.reduceMul, Nat.reduceLeDiff, Nat.reduceLT, Int.reduceToNat, Int.reduceLE, Int.reduceLT, Int.reduceMul, Int.reduceAdd, Int.reduceSub, Int.reduceNeg, Int.reduceEq, Int.reduceNe]
          repeat refine awp_seq ?_
          refine awp_reg (by kernel_rfl) fun K hK => ?_
          simp only [go_sem, reduceIte, reduceCtorEq, Nat.reduceEqDiff, Nat.reduceAdd, Nat.reduceSub, Nat.reduceMul, Nat.reduceLeDiff, Nat.reduceLT, Int.reduceToNat, Int.reduceLE, Int.reduceLT, Int.reduceMul, Int.reduceAdd, Int.reduceSub, Int.reduceNeg, Int.reduceEq, Int.reduceNe]
          (try simp (disch := omega) only [wrapI])
          refine xcall_eq (refOrder_ok r (refAt r B k B.length) h1 (by omega)) rfl (by simp only [go_sem, reduceIte, reduceCtorEq, Nat.reduceEqDiff, Nat.reduceAdd, Nat.reduceSub, Nat.reduceMul, Nat.reduceLeDiff, Nat.reduceLT, Int.reduceToNat, Int.reduceLE, Int.reduceLT, Int.reduceMul, Int.reduceAdd, Int.reduceSub, Int.reduceNeg, Int.reduceEq, Int.reduceNe, i64, ints]) (by simp only [go_sem, reduceIte, reduceCtorEq, Nat.reduceEqDiff, Nat.reduceAdd, Nat.reduceSub, Nat.reduceMul, Nat.reduceLeDiff, Nat.reduceLT, Int.reduceToNat, Int.reduceLE, Int.reduceLT, Int.reduceMul, Int.reduceAdd, Int.reduceSub, Int.reduceNeg, Int.reduceEq, Int.reduceNe, i64, ints]) (by first | exact .inl rfl | exact .inr rfl) ?_
          (try simp only [go_sem, reduceIte, reduceCtorEq, Nat.reduceEqDiff, Nat.reduceAdd, Nat.reduceSub, Nat.reduceMul, Nat.reduceLeDiff, Nat.reduceLT, Int.reduceToNat, Int.reduceLE, Int.reduceLT, Int.reduceMul, Int.reduceAdd, Int.reduceSub, Int.reduceNeg, Int.reduceEq, Int.reduceNe])
          (try simp (disch := omega) only [wrapI])
          intros
          refine hK _ ?_
          clear hK K
          rw [ho1]
          cases h7 : orderB r (openAt r B k B.length)
          · repeat refine awp_seq ?_
            refine awp_cond rfl (fun hc => ?_) (fun hc => ?_) <;> (try simp only [go_sem, reduceIte, reduceCtorEq, Nat.reduceEqDiff, Nat.reduceAdd, Nat.reduceSub, Nat.reduceMul, Nat.reduceLeDiff, Nat.reduceLT, Int.reduceToNat, Int.reduceLE, Int.reduceLT, Int.reduceMul, Int.reduceAdd, Int.reduceSub, Int.reduceNeg, Int.reduceEq, Int.reduceNe] at hc)
            repeat refine awp_seq ?_
            refine awp_reg (by kernel_rfl) fun K hK => ?_
            simp only [go_sem, reduceIte, reduceCtorEq, Nat.reduceEqDiff, Nat.reduceAdd, Nat.reduceSub, Nat.reduceMul, Nat.reduceLeDiff, Nat.reduceLT, Int.reduceToNat, Int.reduceLE, Int.reduceLT, Int.reduceMul, Int.reduceAdd, Int.reduceSub, Int.reduceNeg, Int.reduceEq, Int.reduceNe]
            (try simp (disch := omega) only [wrapI])
            intros
            refine hK _ ?_
            clear hK K
            refine awp_ret ?_
            simp only [go_sem, reduceIte, reduceCtorEq, Nat.reduceEqDiff, Nat.reduceAdd, Nat.reduceSub, Nat.reduceMul, Nat.reduceLeDiff, Nat.reduceLT, Int.reduceToNat, Int.reduceLE, Int.reduceLT, Int.reduceMul, Int.reduceAdd, Int.reduceSub, Int.reduceNeg, Int.reduceEq, Int.reduceNe]
          rw [ho2 h7]
          repeat refine awp_seq ?_
          refine awp_cond rfl (fun hc => ?_) (fun hc => ?_) <;> (try simp only [go_sem, reduceIte, reduceCtorEq, Nat.reduceEqDiff, Nat.reduceAdd, Nat.reduceSub, Nat.reduceMul, Nat.reduceLeDiff, Nat.reduceLT, Int.reduceToNat, Int.reduceLE, Int.reduceLT, Int.reduceMul, Int.reduceAdd, Int.reduceSub, Int.reduceNeg, Int.reduceEq, Int.reduceNe] at hc)
          refine awp_skip ?_
          simp only [go_sem, reduceIte, reduceCtorEq, Nat.reduceEqDiff, Nat.reduceAdd, Nat.reduceSub, Nat.reduceMul, Nat.reduceLeDiff, Nat.reduceLT, Int.reduceToNat, Int.reduceLE, Int.reduceLT, Int.reduceMul, Int.reduceAdd, Int.reduceSub, Int.reduceNeg, Int.reduceEq, Int.reduceNe]
          repeat refine awp_seq ?_
          refine awp_reg (by kernel_rfl) fun K hK => ?_
          simp only [go_sem, reduceIte, reduceCtorEq, Nat.reduceEqDiff, Nat.reduceAdd, Nat.reduceSub, Nat.reduceMul, Nat.reduceLeDiff, Nat.reduceLT, Int.reduceToNat, Int.reduceLE, Int.reduceLT, Int.reduceMul, Int.reduceAdd, Int.reduceSub, Int.reduceNeg, Int.reduceEq, Int.reduceNe]
          (try simp (disch := omega) only [wrapI])
          intros
          refine hK _ ?_
          clear hK K
          refine awp_ret ?_
          simp only [go_sem, reduceIte, reduceCtorEq, Nat.reduceEqDiff, Nat.reduceAdd, Nat.reduceSub, Nat.reduceMul, Nat.reduceLeDiff, Nat.reduceLT, Int.reduceToNat, Int.reduceLE, Int.reduceLT, Int.reduceMul, Int.reduceAdd, Int.reduceSub, Int.reduceNeg, Int.reduceEq, Int.reduceNe]
end Go.Proofs.Ytnklbfmdojpfkaa

/- A night is closed. -/
import Derived.Test.YtnklbfmdojpfkaaAH
import Derived.Test.YtnklbfmdojpfkaaA9
import Derived.Test.YtnklbfmdojpfkaaO6
namespace Go.Proofs.Ytnklbfmdojpfkaa
open Go Go.Oc
set_option linter.unusedSimpArgs false
set_option linter.unusedVariables false
set_option maxRecDepth 8000
/-! ### What a night comes to -/
def stepN (r : Rules) (F : Int → Option Sheet) (t : Res) (i : Nat) : Res :=
  match F i, r.gs[i]? with
  | some x, some g => addL g (scoreL r x).1 (scoreL r x).2 t
  | _, _ => { t with op := t.op ++ [(i : Int)] }
def sumN (r : Rules) (F : Int → Option Sheet) : Nat → Res
  | 0 => zeroR
  | k + 1 => stepN r F (sumN r F k) k
def homeR (r : Rules) (t : Res) : Int := leadW (t.p0 - t.p1 + openP r t.op) (t.l0 - t.l1 + openG r t.op)
def awayR (r : Rules) (t : Res) : Int := leadW (t.p0 - t.p1 - openP r t.op) (t.l0 - t.l1 - openG r t.op)
def endR (r : Rules) (t : Res) : Res :=
  let w := if homeR r t = awayR r t then homeR r t else -1
  if t.op = [] ∧ w ≠ 2 then { t with w := w, p0 := if w = 0 then t.p0 + r.bonus else t.p0, p1 := if w = 0 then t.p1 else t.p1 + r.bonus } else { t with w := w }
def nightR (r : Rules) (F : Int → Option Sheet) : Res := endR r (sumN r F r.gs.length)
def OkF (r : Rules) (F : Int → Option Sheet) : Prop := ∀ i x, F i = some x → sheetB r x = true ∧ x.gm = i
theorem leadW_in (p l : Int) : leadW p l = 0 ∨ leadW p l = 1 ∨ leadW p l = 2 := by
  unfold leadW; split
  · simp
  · split
    · simp
    · split
      · simp
      · split <;> simp
theorem sumN_facts {r : Rules} {F : Int → Option Sheet} (hr : rulesB r = true) (hF : OkF r F) : ∀ k, k ≤ r.gs.length →
    ((0 ≤ (sumN r F k).p0 ∧ (sumN r F k).p0 ≤ 99 * k) ∧ (0 ≤ (sumN r F k).p1 ∧ (sumN r F k).p1 ≤ 99 * k) ∧ (0 ≤ (sumN r F k).g0 ∧ (sumN r F k).g0 ≤ k) ∧ (0 ≤ (sumN r F k).g1 ∧ (sumN r F k).g1 ≤ k) ∧ (0 ≤ (sumN r F k).l0 ∧ (sumN r F k).l0 ≤ 15 * k) ∧ (0 ≤ (sumN r F k).l1 ∧ (sumN r F k).l1 ≤ 15 * k)) ∧
    (sumN r F k).w = 0 ∧ (sumN r F k).op.length ≤ k ∧ ∀ i ∈ (sumN r F k).op, 0 ≤ i ∧ i < k
  | 0, _ => by simp [sumN, zeroR]
  | k + 1, hk => by
    obtain ⟨⟨h1, h2, h3, h4, h5, h6⟩, h7, h8, h9⟩ := sumN_facts hr hF k (by omega)
    obtain ⟨g, hg⟩ := opt_of_lt (l := r.gs) (i := k) (by omega)
    rw [sumN]
    unfold stepN
    rw [hg]
    cases hx : F k with
    | none =>
      refine ⟨⟨?_, ?_, ?_, ?_, ?_, ?_⟩, h7, ?_, fun i hi => ?_⟩ <;> (try simp only)
      · omega
      · omega
      · omega
      · omega
      · omega
      · omega
      · rw [List.length_append]; simp; omega
      · simp only [List.mem_append, List.mem_singleton] at hi
        rcases hi with hi | hi
        · have := h9 i hi; omega
        · omega
    | some x =>
      obtain ⟨hb, he⟩ := hF _ _ hx
      obtain ⟨i, g', hi, hil, hg', hlg, g5, g6, _, hsc⟩ := sheet_game hr hb
      have hik : i = k := by omega
      subst hik
      have hgg : g' = g := by rw [hg] at hg'; injection hg' with e; exact e.symm
      subst hgg
      refine ⟨⟨?_, ?_, ?_, ?_, ?_, ?_⟩, ?_, ?_, fun j hj => ?_⟩ <;> (try simp only [addL])
      · split <;> omega
      · split <;> omega
      · split <;> omega
      · split <;> omega
      · omega
      · omega
      · exact h7
      · omega
      · have := h9 j hj; omega
theorem sumN_small {r : Rules} {F : Int → Option Sheet} (hr : rulesB r = true) (hF : OkF r F) {k : Nat} (hk : k ≤ r.gs.length) : smallR (sumN r F k) := by
  obtain ⟨_, ⟨f3, f4⟩, _⟩ := rulesB_facts hr
  obtain ⟨⟨h1, h2, h3, h4, h5, h6⟩, _⟩ := sumN_facts hr hF k hk
  refine ⟨?_, ?_, ?_, ?_, ?_, ?_⟩ <;> omega
/-! ### The map of the sheets -/
abbrev encS (e : Int × Sheet) : RV × RV := (i64 e.1, .ag (sheetC e.2))
def findS (p : Int) : List (Int × Sheet) → Nat → Option (Nat × Sheet)
  | [], _ => none
  | e :: l, i => if p = e.1 then some (i, e.2) else findS p l (i + 1)
theorem findK_S (p : Int) : ∀ (M : List (Int × Sheet)) (i : Nat), findK (i64 p) (M.map encS) i = some ((findS p M i).map fun x => (x.1, .ag (sheetC x.2)))
  | [], i => rfl
  | e :: M, i => by
    simp only [List.map_cons, findK, sameK, if_true, findS]
    by_cases h : p = e.1
    · have : (p == e.1) = true := by simp [h]
      rw [this]; simp [h]
    · have : (p == e.1) = false := by simp [h]
      rw [this, if_neg h]
      exact findK_S p M (i + 1)
def mapS (M : List (Int × Sheet)) (p : Int) : Option Sheet := (findS p M 0).map (·.2)
theorem close_ok (r : Rules) (M : List (Int × Sheet)) (hr : rulesB r = true) (hF : OkF r (mapS M)) :
    MCalls Try.prog 64 [(1000, .box (nightB r zeroR (.r .ns))), (1001, .mp (M.map encS))]
      [(1000, .box (nightB r (nightR r (mapS M)) (.r (ints (nightR r (mapS M)).op)))), (1001, .mp (M.map encS))] [.pt 1000 0 0] (.tu []) := by
  obtain ⟨_, ⟨f3, f4⟩, _, f7, f8⟩ := rulesB_facts hr
  refine mcalls_st (n := 100) (rs := []) _ _ [] Try.func64 rfl (by kernel_rfl) Try.ntmps64 rfl (by simp) rfl rfl fun C => ?_
  repeat refine awp_seq ?_
  refine awp_reg (by kernel_rfl) fun K hK => ?_
  simp only [go_sem, reduceIte, reduceCtorEq, Nat.reduceEqDiff, Nat.reduceAdd, Nat.reduceSub, Nat.reduceMul, Nat.reduceLeDiff, Nat.reduceLT, Int.reduceToNat, Int.reduceLE, Int.reduceLT, Int.reduceMul, Int.reduceAdd, Int.reduceSub, Int.reduceNeg, Int.reduceEq, Int.reduceNe]
  (try simp (disch := omega) only [wrapI])
  intros
  intros
  refine hK _ ?_
  clear hK K
  repeat refine awp_seq ?_
  refine awp_block ?_
  refine awp_sub (sub_ownB 1000 10 38 3 1 (by omega) (by omega) rfl rfl) ?_
  simp only [go_sem, reduceIte, reduceCtorEq, Nat.reduceEqDiff, Nat.reduceAdd, Nat.reduceSub, Nat.reduceMul, Nat.reduceLeDiff, Nat.reduceLT, Int.reduceToNat, Int.reduceLE, Int.reduceLT, Int.reduceMul, Int.reduceAdd, Int.reduceSub, Int.reduceNeg, Int.reduceEq, Int.reduceNe]
  refine awp_uptoW (n := 100) r.gs.length (fun k vs => [(0, .pt 1000 0 0), (13, .r (i64 r.gs.length)), (14, .r (i64 k))])
    (fun k vs => [(38, .arr 3 1 ((sumN r (mapS M) k).op.map fun x => [i64 x])), (1000, .box (nightB r (sumN r (mapS M) k) (.os 38 (vs 38) 1 0 (sumN r (mapS M) k).op.length))), (1001, .mp (M.map encS))])
    (fun _ => True) 0 (fitW_of [] (lent_upd (by omega) lent_zero) ?_ ?_) (Nat.zero_le _) trivial ?_
  · simp only [go_sem, reduceIte, reduceCtorEq, Nat.reduceEqDiff, Nat.reduceAdd, Nat.reduceSub, Nat.reduceMul, Nat.reduceLeDiff, Nat.reduceLT, Int.reduceToNat, Int.reduceLE, Int.reduceLT, Int.reduceMul, Int.reduceAdd, Int.reduceSub, Int.reduceNeg, Int.reduceEq, Int.reduceNe]
  · rfl
  · intro k vs hv hk _
    have hv0 := hv 1000 (by omega)
    have hv1 := hv 1001 (by omega)
    have hfk := findK_S k M 0
    have hsm := sumN_small hr hF hk
    obtain ⟨sb, sw, sl, so⟩ := sumN_facts hr hF k hk
    repeat refine awp_seq ?_
    refine awp_reg (by kernel_rfl) fun K hK => ?_
    simp only [go_sem, reduceIte, reduceCtorEq, Nat.reduceEqDiff, Nat.reduceAdd, Nat.reduceSub, Nat.reduceMul, Nat.reduceLeDiff, Nat.reduceLT, Int.reduceToNat, Int.reduceLE, Int.reduceLT, Int.reduceMul, Int.reduceAdd, Int.reduceSub, Int.reduceNeg, Int.reduceEq, Int.reduceNe]
    (try simp (disch := omega) only [wrapI])
    intros
    refine hK _ ?_
    clear hK K
    repeat refine awp_seq ?_
    refine awp_cond rfl (fun hc => ?_) (fun hc => ?_) <;> (try simp only [go_sem, reduceIte, reduceCtorEq, Nat.reduceEqDiff, Nat.reduceAdd, Nat.reduceSub, Nat.reduceMul, Nat.reduceLeDiff, Nat.reduceLT, Int.reduceToNat, Int.reduceLE, Int.reduceLT, Int.reduceMul, Int.reduceAdd, Int.reduceSub, Int.reduceNeg, Int.reduceEq, Int.reduceNe] at hc)
    · have hck := hc
      obtain ⟨g, hg⟩ := opt_of_lt hck
      refine awp_skip ?_
      repeat refine awp_seq ?_
      refine awp_block ?_
      repeat refine awp_seq ?_
      refine awp_reg (by kernel_rfl) fun K hK => ?_
      simp only [go_sem, reduceIte, reduceCtorEq, Nat.reduceEqDiff, Nat.reduceAdd, Nat.reduceSub, Nat.reduceMul, Nat.reduceLeDiff, Nat.reduceLT, Int.reduceToNat, Int.reduceLE, Int.reduceLT, Int.reduceMul, Int.reduceAdd, Int.reduceSub, Int.reduceNeg, Int.reduceEq, Int.reduceNe]
      (try simp (disch := omega) only [wrapI])
      intros
      refine hK _ ?_
      clear hK K
      cases hf : findS k M 0 with
      | none =>
        rw [hf] at hfk
        have hstep : sumN r (mapS M) (k + 1) = { sumN r (mapS M) k with op := (sumN r (mapS M) k).op ++ [(k : Int)] } := by
          rw [sumN, stepN, mapS, hf]; rfl
        repeat refine awp_seq ?_
        refine awp_reg (by kernel_rfl) fun K hK => ?_
        simp only [go_sem, reduceIte, reduceCtorEq, Nat.reduceEqDiff, Nat.reduceAdd, Nat.reduceSub, Nat.reduceMul, Nat.reduceLeDiff, Nat.reduceLT, Int.reduceToNat, Int.reduceLE, Int.reduceLT, Int.reduceMul, Int.reduceAdd, Int.reduceSub, Int.reduceNeg, Int.reduceEq, Int.reduceNe, hfk, hv0, hv1, Option.map_none]
        (try simp (disch := omega) only [wrapI])
        intros
        refine hK _ ?_
        clear hK K
        simp only [go_sem, reduceIte, reduceCtorEq, Nat.reduceEqDiff, Nat.reduceAdd, Nat.reduceSub, Nat.reduceMul, Nat.reduceLeDiff, Nat.reduceLT, Int.reduceToNat, Int.reduceLE, Int.reduceLT, Int.reduceMul, Int.reduceAdd, Int.reduceSub, Int.reduceNeg, Int.reduceEq, Int.reduceNe]
        repeat refine awp_seq ?_
        refine awp_reg (by kernel_rfl) fun K hK => ?_
        simp only [go_sem, reduceIte, reduceCtorEq, Nat.reduceEqDiff, Nat.reduceAdd, Nat.reduceSub, Nat.reduceMul, Nat.reduceLeDiff, Nat.reduceLT, Int.reduceToNat, Int.reduceLE, Int.reduceLT, Int.reduceMul, Int.reduceAdd, Int.reduceSub, Int.reduceNeg, Int.reduceEq, Int.reduceNe]
        (try simp (disch := omega) only [wrapI])
        intros
        refine hK _ ?_
        clear hK K
        repeat refine awp_seq ?_
        refine awp_cond rfl (fun hc => ?_) (fun hc => ?_) <;> (try simp only [go_sem, reduceIte, reduceCtorEq, Nat.reduceEqDiff, Nat.reduceAdd, Nat.reduceSub, Nat.reduceMul, Nat.reduceLeDiff, Nat.reduceLT, Int.reduceToNat, Int.reduceLE, Int.reduceLT, Int.reduceMul, Int.reduceAdd, Int.reduceSub, Int.reduceNeg, Int.reduceEq, Int.reduceNe] at hc)
        repeat refine awp_seq ?_
        refine awp_reg (by kernel_rfl) fun K hK => ?_
        simp only [go_sem, reduceIte, reduceCtorEq, Nat.reduceEqDiff, Nat.reduceAdd, Nat.reduceSub, Nat.reduceMul, Nat.reduceLeDiff, Nat.reduceLT, Int.reduceToNat, Int.reduceLE, Int.reduceLT, Int.reduceMul, Int.reduceAdd, Int.reduceSub, Int.reduceNeg, Int.reduceEq, Int.reduceNe, hv0]
        (try simp (disch := omega) only [wrapI])
        refine ⟨by omega, ?_⟩
        intros
        refine hK _ ?_
        clear hK K
        simp only [go_sem, reduceIte, reduceCtorEq, Nat.reduceEqDiff, Nat.reduceAdd, Nat.reduceSub, Nat.reduceMul, Nat.reduceLeDiff, Nat.reduceLT, Int.reduceToNat, Int.reduceLE, Int.reduceLT, Int.reduceMul, Int.reduceAdd, Int.reduceSub, Int.reduceNeg, Int.reduceEq, Int.reduceNe]
        repeat refine awp_seq ?_
        refine awp_reg (by kernel_rfl) fun K hK => ?_
        simp only [go_sem, reduceIte, reduceCtorEq, Nat.reduceEqDiff, Nat.reduceAdd, Nat.reduceSub, Nat.reduceMul, Nat.reduceLeDiff, Nat.reduceLT, Int.reduceToNat, Int.reduceLE, Int.reduceLT, Int.reduceMul, Int.reduceAdd, Int.reduceSub, Int.reduceNeg, Int.reduceEq, Int.reduceNe]
        (try simp (disch := omega) only [wrapI])
        intros
        refine hK _ ?_
        clear hK K
        simp only [go_sem, reduceIte, reduceCtorEq, Nat.reduceEqDiff, Nat.reduceAdd, Nat.reduceSub, Nat.reduceMul, Nat.reduceLeDiff, Nat.reduceLT, Int.reduceToNat, Int.reduceLE, Int.reduceLT, Int.reduceMul, Int.reduceAdd, Int.reduceSub, Int.reduceNeg, Int.reduceEq, Int.reduceNe]
        refine ⟨hck, fitW_of [3] (by intro j hj; simp only [upd]; (repeat' split); all_goals first | rfl | omega | exact hv _ hj) ?_ ?_⟩
        · simp only [go_sem, reduceIte, reduceCtorEq, Nat.reduceEqDiff, Nat.reduceAdd, Nat.reduceSub, Nat.reduceMul, Nat.reduceLeDiff, Nat.reduceLT, Int.reduceToNat, Int.reduceLE, Int.reduceLT, Int.reduceMul, Int.reduceAdd, Int.reduceSub, Int.reduceNeg, Int.reduceEq, Int.reduceNe]
        · simp only [go_sem, reduceIte, reduceCtorEq, Nat.reduceEqDiff, Nat.reduceAdd, Nat.reduceSub, Nat.reduceMul, Nat.reduceLeDiff, Nat.reduceLT, Int.reduceToNat, Int.reduceLE, Int.reduceLT, Int.reduceMul, Int.reduceAdd, Int.reduceSub, Int.reduceNeg, Int.reduceEq, Int.reduceNe]
          rw [hstep]
          simp [hv0, hv1]
      | some jx =>
        obtain ⟨j, x⟩ := jx
        rw [hf] at hfk
        have hFx : mapS M k = some x := by rw [mapS, hf]; rfl
        obtain ⟨hxb, hxg⟩ := hF k x hFx
        have hstep : sumN r (mapS M) (k + 1) = addL g (scoreL r x).1 (scoreL r x).2 (sumN r (mapS M) k) := by
          rw [sumN, stepN, hFx, hg]
        repeat refine awp_seq ?_
        refine awp_reg (by kernel_rfl) fun K hK => ?_
        simp only [go_sem, reduceIte, reduceCtorEq, Nat.reduceEqDiff, Nat.reduceAdd, Nat.reduceSub, Nat.reduceMul, Nat.reduceLeDiff, Nat.reduceLT, Int.reduceToNat, Int.reduceLE, Int.reduceLT, Int.reduceMul, Int.reduceAdd, Int.reduceSub, Int.reduceNeg, Int.reduceEq, Int.reduceNe, hfk, hv0, hv1, Option.map_some]
        (try simp (disch := omega) only [wrapI])
        intros
        refine hK _ ?_
        clear hK K
        simp only [go_sem, reduceIte, reduceCtorEq, Nat.reduceEqDiff, Nat.reduceAdd, Nat.reduceSub, Nat.reduceMul, Nat.reduceLeDiff, Nat.reduceLT, Int.reduceToNat, Int.reduceLE, Int.reduceLT, Int.reduceMul, Int.reduceAdd, Int.reduceSub, Int.reduceNeg, Int.reduceEq, Int.reduceNe]
        repeat refine awp_seq ?_
        refine awp_reg (by kernel_rfl) fun K hK => ?_
        simp only [go_sem, reduceIte, reduceCtorEq, Nat.reduceEqDiff, Nat.reduceAdd, Nat.reduceSub, Nat.reduceMul, Nat.reduceLeDiff, Nat.reduceLT, Int.reduceToNat, Int.reduceLE, Int.reduceLT, Int.reduceMul, Int.reduceAdd, Int.reduceSub, Int.reduceNeg, Int.reduceEq, Int.reduceNe]
        (try simp (disch := omega) only [wrapI])
        intros
        refine hK _ ?_
        clear hK K
        repeat refine awp_seq ?_
        refine awp_cond rfl (fun hc => ?_) (fun hc => ?_) <;> (try simp only [go_sem, reduceIte, reduceCtorEq, Nat.reduceEqDiff, Nat.reduceAdd, Nat.reduceSub, Nat.reduceMul, Nat.reduceLeDiff, Nat.reduceLT, Int.reduceToNat, Int.reduceLE, Int.reduceLT, Int.reduceMul, Int.reduceAdd, Int.reduceSub, Int.reduceNeg, Int.reduceEq, Int.reduceNe] at hc)
        repeat refine awp_seq ?_
        refine awp_reg (by kernel_rfl) fun K hK => ?_
        simp only [go_sem, reduceIte, reduceCtorEq, Nat.reduceEqDiff, Nat.reduceAdd, Nat.reduceSub, Nat.reduceMul, Nat.reduceLeDiff, Nat.reduceLT, Int.reduceToNat, Int.reduceLE, Int.reduceLT, Int.reduceMul, Int.reduceAdd, Int.reduceSub, Int.reduceNeg, Int.reduceEq, Int.reduceNe, hv0]
        (try simp (disch := omega) only [wrapI])
        refine xcall_mut (add_ok r (sumN r (mapS M) k) x (M.map encS) k g (sumN r (mapS M) k).op hr hxb hxg hg hsm) [(1000, 1000), (1001, 1001), (1002, 38)] rfl (by simp only [go_sem, reduceIte, reduceCtorEq, Nat.reduceEqDiff, Nat.reduceAdd, Nat.reduceSub, Nat.reduceMul, Nat.reduceLeDiff, Nat.reduceLT, Int.reduceToNat, Int.reduceLE, Int.reduceLT, Int.reduceMul, Int.reduceAdd, Int.reduceSub, Int.reduceNeg, Int.reduceEq, Int.reduceNe, i64, ints, hv0, hv1]) (by simp only [go_sem, reduceIte, reduceCtorEq, Nat.reduceEqDiff, Nat.reduceAdd, Nat.reduceSub, Nat.reduceMul, Nat.reduceLeDiff, Nat.reduceLT, Int.reduceToNat, Int.reduceLE, Int.reduceLT, Int.reduceMul, Int.reduceAdd, Int.reduceSub, Int.reduceNeg, Int.reduceEq, Int.reduceNe, i64, ints, hv0, hv1]) (by rfl) (by rfl) ?_
        (try simp only [go_sem, reduceIte, reduceCtorEq, Nat.reduceEqDiff, Nat.reduceAdd, Nat.reduceSub, Nat.reduceMul, Nat.reduceLeDiff, Nat.reduceLT, Int.reduceToNat, Int.reduceLE, Int.reduceLT, Int.reduceMul, Int.reduceAdd, Int.reduceSub, Int.reduceNeg, Int.reduceEq, Int.reduceNe, hv0, hv1])
        (try simp (disch := omega) only [wrapI])
        intros
        refine hK _ ?_
        clear hK K
        simp only [go_sem, reduceIte, reduceCtorEq, Nat.reduceEqDiff, Nat.reduceAdd, Nat.reduceSub, Nat.reduceMul, Nat.reduceLeDiff, Nat.reduceLT, Int.reduceToNat, Int.reduceLE, Int.reduceLT, Int.reduceMul, Int.reduceAdd, Int.reduceSub, Int.reduceNeg, Int.reduceEq, Int.reduceNe]
        repeat refine awp_seq ?_
        refine awp_reg (by kernel_rfl) fun K hK => ?_
        simp only [go_sem, reduceIte, reduceCtorEq, Nat.reduceEqDiff, Nat.reduceAdd, Nat.reduceSub, Nat.reduceMul, Nat.reduceLeDiff, Nat.reduceLT, Int.reduceToNat, Int.reduceLE, Int.reduceLT, Int.reduceMul, Int.reduceAdd, Int.reduceSub, Int.reduceNeg, Int.reduceEq, Int.reduceNe]
        (try simp (disch := omega) only [wrapI])
        intros
        refine hK _ ?_
        clear hK K
        simp only [go_sem, reduceIte, reduceCtorEq, Nat.reduceEqDiff, Nat.reduceAdd, Nat.reduceSub, Nat.reduceMul, Nat.reduceLeDiff, Nat.reduceLT, Int.reduceToNat, Int.reduceLE, Int.reduceLT, Int.reduceMul, Int.reduceAdd, Int.reduceSub, Int.reduceNeg, Int.reduceEq, Int.reduceNe]
        refine ⟨hck, fitW_of [3] (by intro j hj; simp only [upd]; (repeat' split); all_goals first | rfl | omega | exact hv _ hj) ?_ ?_⟩
        · simp only [go_sem, reduceIte, reduceCtorEq, Nat.reduceEqDiff, Nat.reduceAdd, Nat.reduceSub, Nat.reduceMul, Nat.reduceLeDiff, Nat.reduceLT, Int.reduceToNat, Int.reduceLE, Int.reduceLT, Int.reduceMul, Int.reduceAdd, Int.reduceSub, Int.reduceNeg, Int.reduceEq, Int.reduceNe]
        · simp only [go_sem, reduceIte, reduceCtorEq, Nat.reduceEqDiff, Nat.reduceAdd, Nat.reduceSub, Nat.reduceMul, Nat.reduceLeDiff, Nat.reduceLT, Int.reduceToNat, Int.reduceLE, Int.reduceLT, Int.reduceMul, Int.reduceAdd, Int.reduceSub, Int.reduceNeg, Int.reduceEq, Int.reduceNe]
          rw [hstep]
          simp [hv0, hv1, addL]
    · have : k = r.gs.length := by omega
      subst this
      generalize htd : sumN r (mapS M) r.gs.length = t at *
      have hnr : nightR r (mapS M) = endR r t := by rw [nightR, htd]
      rw [hnr]
      have hob := open_bounds hr t.op
      refine awp_exit ?_
      simp only [go_sem, reduceIte, reduceCtorEq, Nat.reduceEqDiff, Nat.reduceAdd, Nat.reduceSub, Nat.reduceMul, Nat.reduceLeDiff, Nat.reduceLT, Int.reduceToNat, Int.reduceLE, Int.reduceLT, Int.reduceMul, Int.reduceAdd, Int.reduceSub, Int.reduceNeg, Int.reduceEq, Int.reduceNe]
      repeat refine awp_seq ?_
      refine awp_reg (by kernel_rfl) fun K hK => ?_
      simp only [go_sem, reduceIte, reduceCtorEq, Nat.reduceEqDiff, Nat.reduceAdd, Nat.reduceSub, Nat.reduceMul, Nat.reduceLeDiff, Nat.reduceLT, Int.reduceToNat, Int.reduceLE, Int.reduceLT, Int.reduceMul, Int.reduceAdd, Int.reduceSub, Int.reduceNeg, Int.reduceEq, Int.reduceNe, hv0]
      (try simp (disch := omega) only [wrapI])
      refine xcall_eq (ends_ok r t (ints t.op) .un hr hsm (.inl rfl) so (by omega)) rfl (by simp only [go_sem, reduceIte, reduceCtorEq, Nat.reduceEqDiff, Nat.reduceAdd, Nat.reduceSub, Nat.reduceMul, Nat.reduceLeDiff, Nat.reduceLT, Int.reduceToNat, Int.reduceLE, Int.reduceLT, Int.reduceMul, Int.reduceAdd, Int.reduceSub, Int.reduceNeg, Int.reduceEq, Int.reduceNe, i64, ints, hv0, hv1]) (by simp only [go_sem, reduceIte, reduceCtorEq, Nat.reduceEqDiff, Nat.reduceAdd, Nat.reduceSub, Nat.reduceMul, Nat.reduceLeDiff, Nat.reduceLT, Int.reduceToNat, Int.reduceLE, Int.reduceLT, Int.reduceMul, Int.reduceAdd, Int.reduceSub, Int.reduceNeg, Int.reduceEq, Int.reduceNe, i64, ints, hv0, hv1]) (by first | exact .inl rfl | exact .inr rfl) ?_
      (try simp only [go_sem, reduceIte, reduceCtorEq, Nat.reduceEqDiff, Nat.reduceAdd, Nat.reduceSub, Nat.reduceMul, Nat.reduceLeDiff, Nat.reduceLT, Int.reduceToNat, Int.reduceLE, Int.reduceLT, Int.reduceMul, Int.reduceAdd, Int.reduceSub, Int.reduceNeg, Int.reduceEq, Int.reduceNe, hv0, hv1])
      (try simp (disch := omega) only [wrapI])
      intros
      refine hK _ ?_
      clear hK K
      repeat refine awp_seq ?_
      refine awp_reg (by kernel_rfl) fun K hK => ?_
      simp only [go_sem, reduceIte, reduceCtorEq, Nat.reduceEqDiff, Nat.reduceAdd, Nat.reduceSub, Nat.reduceMul, Nat.reduceLeDiff, Nat.reduceLT, Int.reduceToNat, Int.reduceLE, Int.reduceLT, Int.reduceMul, Int.reduceAdd, Int.reduceSub, Int.reduceNeg, Int.reduceEq, Int.reduceNe, hv0]
      (try simp (disch := omega) only [wrapI])
      intros
      refine hK _ ?_
      clear hK K
      repeat refine awp_seq ?_
      refine awp_dreg follows (by kernel_rfl) (by kernel_rfl) fun K hK => ?_
      simp only [go_sem, reduceIte, reduceCtorEq, Nat.reduceEqDiff, Nat.reduceAdd, Nat.reduceSub, Nat.reduceMul, Nat.reduceLeDiff, Nat.reduceLT, Int.reduceToNat, Int.reduceLE, Int.reduceLT, Int.reduceMul, Int.reduceAdd, Int.reduceSub, Int.reduceNeg, Int.reduceEq, Int.reduceNe]
      (try simp (disch := omega) only [wrapI])
      refine xcall_eq (winner_ok (t.p0 - t.p1 + openP r t.op) (t.l0 - t.l1 + openG r t.op)) rfl (by simp only [go_sem, reduceIte, reduceCtorEq, Nat.reduceEqDiff, Nat.reduceAdd, Nat.reduceSub, Nat.reduceMul, Nat.reduceLeDiff, Nat.reduceLT, Int.reduceToNat, Int.reduceLE, Int.reduceLT, Int.reduceMul, Int.reduceAdd, Int.reduceSub, Int.reduceNeg, Int.reduceEq, Int.reduceNe, i64, ints]) (by simp only [go_sem, reduceIte, reduceCtorEq, Nat.reduceEqDiff, Nat.reduceAdd, Nat.reduceSub, Nat.reduceMul, Nat.reduceLeDiff, Nat.reduceLT, Int.reduceToNat, Int.reduceLE, Int.reduceLT, Int.reduceMul, Int.reduceAdd, Int.reduceSub, Int.reduceNeg, Int.reduceEq, Int.reduceNe, i64, ints]) (by first | exact .inl rfl | exact .inr rfl) ?_
      (try simp only [go_sem, reduceIte, reduceCtorEq, Nat.reduceEqDiff, Nat.reduceAdd, Nat.reduceSub, Nat.reduceMul, Nat.reduceLeDiff, Nat.reduceLT, Int.reduceToNat, Int.reduceLE, Int.reduceLT, Int.reduceMul, Int.reduceAdd, Int.reduceSub, Int.reduceNeg, Int.reduceEq, Int.reduceNe])
      (try simp (disch := omega) only [wrapI])
      refine xcall_eq (winner_ok (t.p0 - t.p1 - openP r t.op) (t.l0 - t.l1 - openG r t.op)) rfl (by simp only [go_sem, reduceIte, reduceCtorEq, Nat.reduceEqDiff, Nat.reduceAdd, Nat.reduceSub, Nat.reduceMul, Nat.reduceLeDiff, Nat.reduceLT, Int.reduceToNat, Int.reduceLE, Int.reduceLT, Int.reduceMul, Int.reduceAdd, Int.reduceSub, Int.reduceNeg, Int.reduceEq, Int.reduceNe, i64, ints]) (by simp only [go_sem, reduceIte, reduceCtorEq, Nat.reduceEqDiff, Nat.reduceAdd, Nat.reduceSub, Nat.reduceMul, Nat.reduceLeDiff, Nat.reduceLT, Int.reduceToNat, Int.reduceLE, Int.reduceLT, Int.reduceMul, Int.reduceAdd, Int.reduceSub, Int.reduceNeg, Int.reduceEq, Int.reduceNe, i64, ints]) (by first | exact .inl rfl | exact .inr rfl) ?_
      (try simp only [go_sem, reduceIte, reduceCtorEq, Nat.reduceEqDiff, Nat.reduceAdd, Nat.reduceSub, Nat.reduceMul, Nat.reduceLeDiff, Nat.reduceLT, Int.reduceToNat, Int.reduceLE, Int.reduceLT, Int.reduceMul, Int.reduceAdd, Int.reduceSub, Int.reduceNeg, Int.reduceEq, Int.reduceNe])
      (try simp (disch := omega) only [wrapI])
      intros
      refine hK _ ?_
      clear hK K
      have hA : leadW (t.p0 - t.p1 + openP r t.op) (t.l0 - t.l1 + openG r t.op) = homeR r t := rfl
      have hB : leadW (t.p0 - t.p1 - openP r t.op) (t.l0 - t.l1 - openG r t.op) = awayR r t := rfl
      have hW := leadW_in (t.p0 - t.p1 + openP r t.op) (t.l0 - t.l1 + openG r t.op)
      simp only [hA, hB] at hW ⊢
      have hnil : t.op = [] → homeR r t = awayR r t := fun h => by simp [homeR, awayR, h, openP, openG]
      by_cases h1 : homeR r t = awayR r t
      · have e1 : (homeR r t == awayR r t) = true := by simp [h1]
        rw [e1]
        repeat refine awp_seq ?_
        refine awp_cond rfl (fun hc => ?_) (fun hc => ?_) <;> (try simp only [go_sem, reduceIte, reduceCtorEq, Nat.reduceEqDiff, Nat.reduceAdd, Nat.reduceSub, Nat.reduceMul, Nat.reduceLeDiff, Nat.reduceLT, Int.reduceToNat, Int.reduceLE, Int.reduceLT, Int.reduceMul, Int.reduceAdd, Int.reduceSub, Int.reduceNeg, Int.reduceEq, Int.reduceNe] at hc)
        repeat refine awp_seq ?_
        refine awp_reg (by kernel_rfl) fun K hK => ?_
        simp only [go_sem, reduceIte, reduceCtorEq, Nat.reduceEqDiff, Nat.reduceAdd, Nat.reduceSub, Nat.reduceMul, Nat.reduceLeDiff, Nat.reduceLT, Int.reduceToNat, Int.reduceLE, Int.reduceLT, Int.reduceMul, Int.reduceAdd, Int.reduceSub, Int.reduceNeg, Int.reduceEq, Int.reduceNe]
        (try simp (disch := omega) only [wrapI])
        refine xcall_eq (winner_ok (t.p0 - t.p1 + openP r t.op) (t.l0 - t.l1 + openG r t.op)) rfl (by simp only [go_sem, reduceIte, reduceCtorEq, Nat.reduceEqDiff, Nat.reduceAdd, Nat.reduceSub, Nat.reduceMul, Nat.reduceLeDiff, Nat.reduceLT, Int.reduceToNat, Int.reduceLE, Int.reduceLT, Int.reduceMul, Int.reduceAdd, Int.reduceSub, Int.reduceNeg, Int.reduceEq, Int.reduceNe, i64, ints]) (by simp only [go_sem, reduceIte, reduceCtorEq, Nat.reduceEqDiff, Nat.reduceAdd, Nat.reduceSub, Nat.reduceMul, Nat.reduceLeDiff, Nat.reduceLT, Int.reduceToNat, Int.reduceLE, Int.reduceLT, Int.reduceMul, Int.reduceAdd, Int.reduceSub, Int.reduceNeg, Int.reduceEq, Int.reduceNe, i64, ints]) (by first | exact .inl rfl | exact .inr rfl) ?_
        (try simp only [go_sem, reduceIte, reduceCtorEq, Nat.reduceEqDiff, Nat.reduceAdd, Nat.reduceSub, Nat.reduceMul, Nat.reduceLeDiff, Nat.reduceLT, Int.reduceToNat, Int.reduceLE, Int.reduceLT, Int.reduceMul, Int.reduceAdd, Int.reduceSub, Int.reduceNeg, Int.reduceEq, Int.reduceNe])
        (try simp (disch := omega) only [wrapI])
        intros
        refine hK _ ?_
        clear hK K
        simp only [hA]
        simp only [go_sem, reduceIte, reduceCtorEq, Nat.reduceEqDiff, Nat.reduceAdd, Nat.reduceSub, Nat.reduceMul, Nat.reduceLeDiff, Nat.reduceLT, Int.reduceToNat, Int.reduceLE, Int.reduceLT, Int.reduceMul, Int.reduceAdd, Int.reduceSub, Int.reduceNeg, Int.reduceEq, Int.reduceNe]
        by_cases h2 : t.op = []
        · have h3 : ((t.op.length : Int) = 0) = True := by simp [h2]
          have h3' : ((t.op.length : Int) ≠ 0) = False := by simp [h2]
          have m0 : ((0 : Int) != 2) = true := by decide
          have m1 : ((1 : Int) != 2) = true := by decide
          have m2 : ((2 : Int) != 2) = false := by decide
          rcases hW with hW | hW | hW
          · have h4 : homeR r t ≠ 2 := by omega
            repeat refine awp_seq ?_
            refine awp_reg (by kernel_rfl) fun K hK => ?_
            simp only [go_sem, reduceIte, reduceCtorEq, Nat.reduceEqDiff, Nat.reduceAdd, Nat.reduceSub, Nat.reduceMul, Nat.reduceLeDiff, Nat.reduceLT, Int.reduceToNat, Int.reduceLE, Int.reduceLT, Int.reduceMul, Int.reduceAdd, Int.reduceSub, Int.reduceNeg, Int.reduceEq, Int.reduceNe, hv0, h3, h3', hW, m0, m1, m2]
            (try simp (disch := omega) only [wrapI])
            intros
            intros
            refine hK _ ?_
            clear hK K
            repeat refine awp_seq ?_
            refine awp_cond rfl (fun hc => ?_) (fun hc => ?_) <;> (try simp only [go_sem, reduceIte, reduceCtorEq, Nat.reduceEqDiff, Nat.reduceAdd, Nat.reduceSub, Nat.reduceMul, Nat.reduceLeDiff, Nat.reduceLT, Int.reduceToNat, Int.reduceLE, Int.reduceLT, Int.reduceMul, Int.reduceAdd, Int.reduceSub, Int.reduceNeg, Int.reduceEq, Int.reduceNe] at hc)
            repeat refine awp_seq ?_
            refine awp_dreg follows (by kernel_rfl) (by kernel_rfl) fun K hK => ?_
            simp only [go_sem, reduceIte, reduceCtorEq, Nat.reduceEqDiff, Nat.reduceAdd, Nat.reduceSub, Nat.reduceMul, Nat.reduceLeDiff, Nat.reduceLT, Int.reduceToNat, Int.reduceLE, Int.reduceLT, Int.reduceMul, Int.reduceAdd, Int.reduceSub, Int.reduceNeg, Int.reduceEq, Int.reduceNe, hv0, h3, hW]
            (try simp (disch := omega) only [wrapI])
            intros
            refine hK _ ?_
            clear hK K
            simp only [go_sem, reduceIte, reduceCtorEq, Nat.reduceEqDiff, Nat.reduceAdd, Nat.reduceSub, Nat.reduceMul, Nat.reduceLeDiff, Nat.reduceLT, Int.reduceToNat, Int.reduceLE, Int.reduceLT, Int.reduceMul, Int.reduceAdd, Int.reduceSub, Int.reduceNeg, Int.reduceEq, Int.reduceNe]
            simp [endR, ← h1, hW, h2]
          · repeat refine awp_seq ?_
            refine awp_reg (by kernel_rfl) fun K hK => ?_
            simp only [go_sem, reduceIte, reduceCtorEq, Nat.reduceEqDiff, Nat.reduceAdd, Nat.reduceSub, Nat.reduceMul, Nat.reduceLeDiff, Nat.reduceLT, Int.reduceToNat, Int.reduceLE, Int.reduceLT, Int.reduceMul, Int.reduceAdd, Int.reduceSub, Int.reduceNeg, Int.reduceEq, Int.reduceNe, hv0, h3, h3', hW, m0, m1, m2]
            (try simp (disch := omega) only [wrapI])
            intros
            intros
            refine hK _ ?_
            clear hK K
            repeat refine awp_seq ?_
            refine awp_cond rfl (fun hc => ?_) (fun hc => ?_) <;> (try simp only [go_sem, reduceIte, reduceCtorEq, Nat.reduceEqDiff, Nat.reduceAdd, Nat.reduceSub, Nat.reduceMul, Nat.reduceLeDiff, Nat.reduceLT, Int.reduceToNat, Int.reduceLE, Int.reduceLT, Int.reduceMul, Int.reduceAdd, Int.reduceSub, Int.reduceNeg, Int.reduceEq, Int.reduceNe] at hc)
            repeat refine awp_seq ?_
            refine awp_dreg follows (by kernel_rfl) (by kernel_rfl) fun K hK => ?_
            simp only [go_sem, reduceIte, reduceCtorEq, Nat.reduceEqDiff, Nat.reduceAdd, Nat.reduceSub, Nat.reduceMul, Nat.reduceLeDiff, Nat.reduceLT, Int.reduceToNat, Int.reduceLE, Int.reduceLT, Int.reduceMul, Int.reduceAdd, Int.reduceSub, Int.reduceNeg, Int.reduceEq, Int.reduceNe, hv0, h3, hW]
            (try simp (disch := omega) only [wrapI])
            intros
            refine hK _ ?_
            clear hK K
            simp only [go_sem, reduceIte, reduceCtorEq, Nat.reduceEqDiff, Nat.reduceAdd, Nat.reduceSub, Nat.reduceMul, Nat.reduceLeDiff, Nat.reduceLT, Int.reduceToNat, Int.reduceLE, Int.reduceLT, Int.reduceMul, Int.reduceAdd, Int.reduceSub, Int.reduceNeg, Int.reduceEq, Int.reduceNe]
            simp [endR, ← h1, hW, h2]
          · repeat refine awp_seq ?_
            refine awp_reg (by kernel_rfl) fun K hK => ?_
            simp only [go_sem, reduceIte, reduceCtorEq, Nat.reduceEqDiff, Nat.reduceAdd, Nat.reduceSub, Nat.reduceMul, Nat.reduceLeDiff, Nat.reduceLT, Int.reduceToNat, Int.reduceLE, Int.reduceLT, Int.reduceMul, Int.reduceAdd, Int.reduceSub, Int.reduceNeg, Int.reduceEq, Int.reduceNe, hv0, h3, h3', hW, m0, m1, m2]
            (try simp (disch := omega) only [wrapI])
            intros
            intros
            refine hK _ ?_
            clear hK K
            repeat refine awp_seq ?_
            refine awp_cond rfl (fun hc => ?_) (fun hc => ?_) <;> (try simp only [go_sem, reduceIte, reduceCtorEq, Nat.reduceEqDiff, Nat.reduceAdd, Nat.reduceSub, Nat.reduceMul, Nat.reduceLeDiff, Nat.reduceLT, Int.reduceToNat, Int.reduceLE, Int.reduceLT, Int.reduceMul, Int.reduceAdd, Int.reduceSub, Int.reduceNeg, Int.reduceEq, Int.reduceNe] at hc)
            refine awp_skip ?_
            simp only [go_sem, reduceIte, reduceCtorEq, Nat.reduceEqDiff, Nat.reduceAdd, Nat.reduceSub, Nat.reduceMul, Nat.reduceLeDiff, Nat.reduceLT, Int.reduceToNat, Int.reduceLE, Int.reduceLT, Int.reduceMul, Int.reduceAdd, Int.reduceSub, Int.reduceNeg, Int.reduceEq, Int.reduceNe]
            simp [endR, ← h1, hW, h2]
        · have h3 : ((t.op.length : Int) = 0) = False := by simp [h2]
          repeat refine awp_seq ?_
          refine awp_reg (by kernel_rfl) fun K hK => ?_
          simp only [go_sem, reduceIte, reduceCtorEq, Nat.reduceEqDiff, Nat.reduceAdd, Nat.reduceSub, Nat.reduceMul, Nat.reduceLeDiff, Nat.reduceLT, Int.reduceToNat, Int.reduceLE, Int.reduceLT, Int.reduceMul, Int.reduceAdd, Int.reduceSub, Int.reduceNeg, Int.reduceEq, Int.reduceNe, hv0, h3]
          (try simp (disch := omega) only [wrapI])
          intros
          intros
          refine hK _ ?_
          clear hK K
          repeat refine awp_seq ?_
          refine awp_cond rfl (fun hc => ?_) (fun hc => ?_) <;> (try simp only [go_sem, reduceIte, reduceCtorEq, Nat.reduceEqDiff, Nat.reduceAdd, Nat.reduceSub, Nat.reduceMul, Nat.reduceLeDiff, Nat.reduceLT, Int.reduceToNat, Int.reduceLE, Int.reduceLT, Int.reduceMul, Int.reduceAdd, Int.reduceSub, Int.reduceNeg, Int.reduceEq, Int.reduceNe] at hc)
          refine awp_skip ?_
          simp only [go_sem, reduceIte, reduceCtorEq, Nat.reduceEqDiff, Nat.reduceAdd, Nat.reduceSub, Nat.reduceMul, Nat.reduceLeDiff, Nat.reduceLT, Int.reduceToNat, Int.reduceLE, Int.reduceLT, Int.reduceMul, Int.reduceAdd, Int.reduceSub, Int.reduceNeg, Int.reduceEq, Int.reduceNe]
          simp [endR, ← h1, h2]
      · have e1 : (homeR r t == awayR r t) = false := by simp [h1]
        rw [e1]
        repeat refine awp_seq ?_
        refine awp_cond rfl (fun hc => ?_) (fun hc => ?_) <;> (try simp only [go_sem, reduceIte, reduceCtorEq, Nat.reduceEqDiff, Nat.reduceAdd, Nat.reduceSub, Nat.reduceMul, Nat.reduceLeDiff, Nat.reduceLT, Int.reduceToNat, Int.reduceLE, Int.reduceLT, Int.reduceMul, Int.reduceAdd, Int.reduceSub, Int.reduceNeg, Int.reduceEq, Int.reduceNe] at hc)
        refine awp_skip ?_
        have h2 : t.op ≠ [] := fun h => h1 (hnil h)
        have h3 : ((t.op.length : Int) = 0) = False := by simp [h2]
        repeat refine awp_seq ?_
        refine awp_reg (by kernel_rfl) fun K hK => ?_
        simp only [go_sem, reduceIte, reduceCtorEq, Nat.reduceEqDiff, Nat.reduceAdd, Nat.reduceSub, Nat.reduceMul, Nat.reduceLeDiff, Nat.reduceLT, Int.reduceToNat, Int.reduceLE, Int.reduceLT, Int.reduceMul, Int.reduceAdd, Int.reduceSub, Int.reduceNeg, Int.reduceEq, Int.reduceNe, hv0, h3]
        (try simp (disch := omega) only [wrapI])
        intros
        intros
        refine hK _ ?_
        clear hK K
        repeat refine awp_seq ?_
        refine awp_cond rfl (fun hc => ?_) (fun hc => ?_) <;> (try simp only [go_sem, reduceIte, reduceCtorEq, Nat.reduceEqDiff, Nat.reduceAdd, Nat.reduceSub, Nat.reduceMul, Nat.reduceLeDiff, Nat.reduceLT, Int.reduceToNat, Int.reduceLE, Int.reduceLT, Int.reduceMul, Int.reduceAdd, Int.reduceSub, Int.reduceNeg, Int.reduceEq, Int.reduceNe] at hc)
        refine awp_skip ?_
        simp only [go_sem, reduceIte, reduceCtorEq, Nat.reduceEqDiff, Nat.reduceAdd, Nat.reduceSub, Nat.reduceMul, Nat.reduceLeDiff, Nat.reduceLT, Int.reduceToNat, Int.reduceLE, Int.reduceLT, Int.reduceMul, Int.reduceAdd, Int.reduceSub, Int.reduceNeg, Int.reduceEq, Int.reduceNe]
        simp [endR, h1, h2]
end Go.Proofs.Ytnklbfmdojpfkaa

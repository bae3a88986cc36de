/- Part 7 of the texts of this claim. -/
import Derived.Test.YtnklbfmdojpfkaaVC6
import Derived.Test.YtnklbfmdojpfkaaVC4
import Derived.Lib.EndianBits
import Derived.KernelRfl
/- Plain helpers of the walks: numbers without overflow, elements of slices, closed tests. -/
namespace Go.Oc
open Go Go.RowKit

theorem wrapI {n : Int} (h1 : -9223372036854775808 ≤ n) (h2 : n ≤ 9223372036854775807) : IntKind.i64.wrap n = n := by
  unfold IntKind.wrap
  simp only [IntKind.bits, IntKind.signed, Bool.true_and]
  split <;> rename_i h <;> simp only [ge_iff_le, decide_eq_true_eq] at h <;> omega
theorem getD_map_opt {α : Type} {f : α → List RV} {l : List α} {i : Nat} : (l.map f).getD i [] = match l[i]? with | some x => f x | none => [] := by
  rw [List.getD_eq_getElem?_getD, List.getElem?_map]
  cases l[i]? <;> rfl
theorem opt_some {α β : Type} {x : α} {f : α → β} {y : β} : (match some x with | some x => f x | none => y) = f x := rfl
/-- Integers, and lists of them. -/
abbrev i64 (n : Int) : RV := .it .i64 n
abbrev ints (l : List Int) : RV := .sl 1 (l.map fun x => [.it .i64 x])
theorem mem_of_opt {α : Type} {l : List α} {i : Nat} {x : α} (h : l[i]? = some x) : x ∈ l := List.mem_of_getElem? h
theorem drop_of_opt {α : Type} {l : List α} {i : Nat} {x : α} (h : l[i]? = some x) : l.drop i = x :: l.drop (i + 1) := by
  obtain ⟨hi, rfl⟩ := List.getElem?_eq_some_iff.1 h
  exact List.drop_eq_getElem_cons hi
theorem take_of_opt {α : Type} {l : List α} {i : Nat} {x : α} (h : l[i]? = some x) : l.take (i + 1) = l.take i ++ [x] := by
  obtain ⟨hi, rfl⟩ := List.getElem?_eq_some_iff.1 h
  exact List.take_succ_eq_append_getElem hi
theorem opt_of_lt {α : Type} {l : List α} {i : Nat} (h : i < l.length) : ∃ x, l[i]? = some x := ⟨l[i], List.getElem?_eq_getElem h⟩

theorem snapVL_ro {rows : Nat → Row} : ∀ l : List RV, snapVL rows (l.map .r) = l
  | [] => by simp only [List.map_nil, snapVL]
  | x :: l => by simp only [List.map_cons, snapVL, snapV, snapVL_ro l]
theorem snapPL_ro {rows : Nat → Row} : ∀ l : List RV, snapPL rows (l.map .r) ↔ True
  | [] => by simp only [List.map_nil, snapPL]
  | x :: l => by simp only [List.map_cons, snapPL, snapP, snapPL_ro l, true_and]

theorem take_map_len {α β : Type} {f : α → β} {l : List α} : (l.map f).take l.length = l.map f := List.take_of_length_le (by simp)
theorem toNat_add1 {n : Nat} : ((n : Int) + 1).toNat = n + 1 := rfl
/-- The index of the first one with p, or -1. -/
def indexF {α : Type} (p : α → Bool) : List α → Int
  | [] => -1
  | x :: l => if p x then 0 else if indexF p l < 0 then -1 else indexF p l + 1
theorem indexF_any {α : Type} (p : α → Bool) : ∀ l : List α, decide (indexF p l ≥ 0) = l.any p
  | [] => rfl
  | x :: l => by
    have ih := indexF_any p l
    unfold indexF
    cases h : p x
    · simp only [Bool.false_eq_true, if_false, List.any_cons, h, Bool.false_or, ← ih]
      split
      · rename_i h1
        have : ¬ indexF p l ≥ 0 := by omega
        simp [this]
      · rename_i h1
        have : indexF p l ≥ 0 := by omega
        have h2 : indexF p l + 1 ≥ 0 := by omega
        simp only [this, h2]
    · simp [h]
theorem indexF_ge {α : Type} (p : α → Bool) : ∀ l : List α, -1 ≤ indexF p l
  | [] => by simp [indexF]
  | x :: l => by
    have := indexF_ge p l
    unfold indexF
    split
    · omega
    · split <;> omega
end Go.Oc

/- The walk's simp set. -/
namespace Go.Oc
open Go
/-! Reckoning with numerals is part of the walk's simp set. -/
attribute [go_sem] reduceIte reduceCtorEq Nat.reduceEqDiff Nat.reduceAdd Nat.reduceSub Nat.reduceMul Nat.reduceLeDiff Nat.reduceLT Int.reduceToNat Int.reduceLE Int.reduceLT Int.reduceMul Int.reduceAdd Int.reduceSub Int.reduceNeg Int.reduceEq Int.reduceNe
attribute [go_sem] aops_nil aops_cons aops_guard gslot_zero gslot_succ gA_some gB_tt gB_ff gB_tf gB_ft gB_ud gB_bo aop_move aop_assign aop_pick aop_bin aop_un aop_conv aop_load aop_store aop_box aop_alloc aop_fieldAddr aop_field aop_indexAddr aop_index aop_slice aop_build aop_buildSlice aop_makeSlice aop_makeFunc aop_extract aop_nil aop_len aop_min aop_max aop_append aop_cap aop_clear sAppendZ sCap sClear sSlice3 lenA rowLen aop_call aop_next aop_makeMap aop_lookup aop_mapUpdate aop_range aop_entry sNext sMakeMap sLookup sMapUpdate sRange sEntry mapOf valR agR sEq cmpL sameK findK keyOk allIt List.length_cons List.length_nil row_st verf_st lendA lendL lendC lendOk lendKey backA backL backC backCs pinOf aR_when aR_val aR_bad aR_mk aF_false aF_true evs evp upd_app put_st put_none app_val app_st evt_st tm_st rows_st ver_st n_st ins insc delc look_nil look_cons lookc_nil lookc_cons keepL killV killC argL allEq cond_true cond_false ev_const ev_func sPick pickA sBin sUn sConv sLoad sStore sBox sAlloc sField sFieldV sPart sIndex sIndexV sSlice bound sBuild lay sBuildSlice layE sMakeSlice news? sAppend sLen minA minF maxA maxF sMinMax sExtract sNil RV.flat1 AV.cells? roL cutR cutA need RV.ofV RV.ofV1
attribute [go_sem] opostL_normal opostL_ret resA_tmp resA_cell mpostL_normal mpostL_ret resM_nil resM_tmp resM_cell mfin frzC frzPC frzL frzPL frz1 frzP1 keyIn okC argA resC_when resC_val resOk_nil resOk_tmp resOk_cell fpostL_normal fpostL_ret andThen_normal andThen_ret andThen_exit inBlk_normal inBlk_ret inBlk_exit le_bo le_it le_ns le_sls le_ag leL_nil leL_cons le_nsns le_np snapV snapVL snapP snapPL snap1V snap1P snap1PL
attribute [go_sem] Bool.false_eq_true Bool.not_false Bool.not_true Bool.true_eq_false Int.le_refl List.append_nil List.cons_append List.drop_succ_cons List.drop_zero List.getElem?_cons_succ List.getElem?_cons_zero List.headD_cons List.length_cons List.length_nil List.map_cons List.map_nil List.nil_append List.replicate_succ List.replicate_zero List.set_cons_succ List.set_cons_zero List.take_succ_cons List.take_zero Nat.add_zero Nat.le_refl Nat.zero_add Nat.zero_le Option.bind_some Option.getD_none Option.getD_some Option.isSome_some Option.map_none Option.map_some Option.some.injEq and_false and_true decide_false decide_true eq_self false_and false_imp_iff forall_const ite_false ite_true true_and true_imp_iff
attribute [go_sem] not_false_eq_true not_true_eq_false toNat_add1 Nat.sub_zero beq_iff_eq beq_eq_false_iff_ne List.length_drop List.length_take upd_self List.drop_replicate Nat.add_sub_cancel_left take_map_len List.getD_cons_zero List.getD_cons_succ true_or or_true false_or or_false List.length_replicate Int.sub_zero Int.add_zero Int.zero_add getD_map_opt snapVL_ro snapPL_ro Int.ofNat_lt Int.ofNat_le Int.toNat_natCast Int.natCast_nonneg Int.natCast_add Int.cast_ofNat_Int Int.natCast_zero Int.natCast_one List.length_map List.mem_cons ge_iff_le gt_iff_lt decide_eq_true_eq decide_eq_false_iff_not AV.r.injEq RV.it.injEq RV.bo.injEq RV.sl.injEq
end Go.Oc

/- What the small functions of chapter 10 return: tests of ranges, powers, codes. -/
namespace Go.Proofs.Ytnklbfmdojpfkaa
open Go Go.Oc
set_option linter.unusedSimpArgs false
set_option linter.unusedVariables false
set_option maxRecDepth 8000
theorem in_ok (n a b : Int) : ACalls Try.prog 22 [i64 n, i64 a, i64 b] (.bo (decide (a ≤ n) && decide (n ≤ b))) := by
  refine acalls_st (rs := [.bo (decide (a ≤ n) && decide (n ≤ b))]) [.tmp 6] Try.func22 rfl (by kernel_rfl) Try.ntmps22 rfl (by simp) rfl fun C vs => ?_
  repeat refine awp_seq ?_
  refine awp_reg (by kernel_rfl) fun K hK => ?_
  simp only [go_sem]
  (try simp (disch := omega) only [wrapI])
  repeat first | intro _ | refine ⟨(by omega), ?_⟩ | refine ⟨⟨by omega, by omega⟩, ?_⟩
  refine hK _ ?_
  clear hK K
  repeat refine awp_seq ?_
  refine awp_reg (by kernel_rfl) fun K hK => ?_
  simp only [go_sem]
  (try simp (disch := omega) only [wrapI])
  refine ⟨fun h => ?_, fun h => ?_⟩ <;>
  · repeat first | intro _ | refine ⟨(by omega), ?_⟩ | refine ⟨⟨by omega, by omega⟩, ?_⟩
    refine hK _ ?_
    clear hK K
    refine awp_ret ?_
    simp only [go_sem]
    simp [h]
theorem within1_ok (n a b : Int) : ACalls Try.prog 68 [i64 n, .rp [i64 a], .rp [i64 b]] (.bo (decide (n < a) || decide (b < n))) := by
  refine acalls_st (rs := [.bo (decide (n < a) || decide (b < n))]) [.tmp 4] Try.func68 rfl (by kernel_rfl) Try.ntmps68 rfl (by simp) rfl fun C vs => ?_
  repeat refine awp_seq ?_
  refine awp_reg (by kernel_rfl) fun K hK => ?_
  simp only [go_sem]
  (try simp (disch := omega) only [wrapI])
  repeat first | intro _ | refine ⟨(by omega), ?_⟩ | refine ⟨⟨by omega, by omega⟩, ?_⟩
  refine hK _ ?_
  clear hK K
  repeat refine awp_seq ?_
  refine awp_reg (by kernel_rfl) fun K hK => ?_
  simp only [go_sem]
  (try simp (disch := omega) only [wrapI])
  refine ⟨fun h => ?_, fun h => ?_⟩ <;>
  · repeat first | intro _ | refine ⟨(by omega), ?_⟩ | refine ⟨⟨by omega, by omega⟩, ?_⟩
    refine hK _ ?_
    clear hK K
    refine awp_ret ?_
    simp only [go_sem]
    try simp [h]
theorem index_ok (p : Int → Bool) (f : Nat) (caps : List RV) (l : List Int) (h : ∀ x ∈ l, ACalls Try.prog f (i64 x :: caps) (.bo (p x))) : ACalls Try.prog 71 [ints l, .fn f caps] (i64 (indexF p l)) := by
  refine acalls_st (rs := [i64 (indexF p l)]) [.tmp 4] Try.func71 rfl (by kernel_rfl) Try.ntmps71 rfl (by simp) rfl fun C vs => ?_
  repeat refine awp_seq ?_
  refine awp_reg (by kernel_rfl) fun K hK => ?_
  simp only [go_sem]
  (try simp (disch := omega) only [wrapI])
  repeat first | intro _ | refine ⟨(by omega), ?_⟩ | refine ⟨⟨by omega, by omega⟩, ?_⟩
  refine hK _ ?_
  clear hK K
  repeat refine awp_seq ?_
  refine awp_reg (by kernel_rfl) fun K hK => ?_
  simp only [go_sem]
  (try simp (disch := omega) only [wrapI])
  intro hl
  repeat first | intro _ | refine ⟨(by omega), ?_⟩ | refine ⟨⟨by omega, by omega⟩, ?_⟩
  refine hK _ ?_
  clear hK K
  repeat refine awp_seq ?_
  refine awp_block ?_
  refine awp_upto (n := 19) l.length (fun i vs => [(0, .r (ints l)), (1, .r (.fn f caps)), (7, .r (i64 l.length)), (8, .r (i64 i))]) (fun _ => [])
    (fun i => indexF p l = if indexF p (l.drop i) < 0 then -1 else i + indexF p (l.drop i)) 0 (fit_of [] ?_ rfl) (Nat.zero_le _) ?_ ?_
  · try simp only [go_sem]
  · simp only [List.drop_zero]
    have := indexF_ge p l
    split
    · omega
    · simp
  · intro i vs hi hI
    repeat refine awp_seq ?_
    refine awp_reg (by kernel_rfl) fun K hK => ?_
    simp only [go_sem]
    (try simp (disch := omega) only [wrapI])
    repeat first | intro _ | refine ⟨(by omega), ?_⟩ | refine ⟨⟨by omega, by omega⟩, ?_⟩
    refine hK _ ?_
    clear hK K
    repeat refine awp_seq ?_
    refine awp_cond rfl (fun hc => ?_) (fun hc => ?_) <;> (try simp only [go_sem] at hc)
    · obtain ⟨x, hx⟩ := opt_of_lt hc
      rw [drop_of_opt hx] at hI
      refine awp_skip ?_
      repeat refine awp_seq ?_
      refine awp_block ?_
      repeat refine awp_seq ?_
      refine awp_reg (by kernel_rfl) fun K hK => ?_
      simp only [go_sem]
      (try simp (disch := omega) only [wrapI])
      repeat first | intro _ | refine ⟨(by omega), ?_⟩ | refine ⟨⟨by omega, by omega⟩, ?_⟩
      refine hK _ ?_
      clear hK K
      repeat refine awp_seq ?_
      refine awp_reg (by kernel_rfl) fun K hK => ?_
      simp only [go_sem, hx, hc]
      (try simp (disch := omega) only [wrapI])
      refine xcall_eq (h x (mem_of_opt hx)) rfl (by simp only [go_sem, i64, ints]) (by simp only [go_sem, i64, ints]) (by first | exact .inl rfl | exact .inr rfl) ?_
      (try simp only [go_sem])
      (try simp (disch := omega) only [wrapI])
      repeat first | intro _ | refine ⟨(by omega), ?_⟩ | refine ⟨⟨by omega, by omega⟩, ?_⟩
      refine hK _ ?_
      clear hK K
      repeat refine awp_seq ?_
      refine awp_cond rfl (fun hc => ?_) (fun hc => ?_) <;> (try simp only [go_sem] at hc)
      · repeat refine awp_seq ?_
        refine awp_reg (by kernel_rfl) fun K hK => ?_
        simp only [go_sem]
        (try simp (disch := omega) only [wrapI])
        repeat first | intro _ | refine ⟨(by omega), ?_⟩ | refine ⟨⟨by omega, by omega⟩, ?_⟩
        refine hK _ ?_
        clear hK K
        refine awp_ret ?_
        simp only [go_sem]
        simp [hI, indexF, hc]
      · refine awp_skip ?_
        try simp only [go_sem]
        repeat refine awp_seq ?_
        refine awp_reg (by kernel_rfl) fun K hK => ?_
        simp only [go_sem]
        (try simp (disch := omega) only [wrapI])
        repeat first | intro _ | refine ⟨(by omega), ?_⟩ | refine ⟨⟨by omega, by omega⟩, ?_⟩
        refine hK _ ?_
        clear hK K
        try simp only [go_sem]
        refine ⟨‹_›, ?_, fit_of [] ?_ rfl⟩
        · rw [hI]
          simp only [indexF, hc, Bool.false_eq_true, if_false]
          have := indexF_ge p (l.drop (i + 1))
          (repeat' split) <;> omega
        · try simp only [go_sem]
    · refine awp_exit ?_
      simp only [go_sem]
      repeat refine awp_seq ?_
      refine awp_reg (by kernel_rfl) fun K hK => ?_
      simp only [go_sem]
      (try simp (disch := omega) only [wrapI])
      repeat first | intro _ | refine ⟨(by omega), ?_⟩ | refine ⟨⟨by omega, by omega⟩, ?_⟩
      refine hK _ ?_
      clear hK K
      refine awp_ret ?_
      simp only [go_sem]
      have : l.drop i = [] := List.drop_eq_nil_of_le (by omega)
      simp [hI, this, indexF]
theorem contains_ok (p : Int → Bool) (f : Nat) (caps : List RV) (l : List Int) (h : ∀ x ∈ l, ACalls Try.prog f (i64 x :: caps) (.bo (p x))) : ACalls Try.prog 55 [ints l, .fn f caps] (.bo (l.any p)) := by
  refine acalls_st (rs := [.bo (l.any p)]) [.tmp 4] Try.func55 rfl (by kernel_rfl) Try.ntmps55 rfl (by simp) rfl fun C vs => ?_
  repeat refine awp_seq ?_
  refine awp_reg (by kernel_rfl) fun K hK => ?_
  simp only [go_sem]
  (try simp (disch := omega) only [wrapI])
  repeat first | intro _ | refine ⟨(by omega), ?_⟩ | refine ⟨⟨by omega, by omega⟩, ?_⟩
  refine hK _ ?_
  clear hK K
  repeat refine awp_seq ?_
  refine awp_reg (by kernel_rfl) fun K hK => ?_
  simp only [go_sem]
  (try simp (disch := omega) only [wrapI])
  refine xcall_eq (index_ok p f caps l h) rfl (by simp only [go_sem, i64, ints]) (by simp only [go_sem, i64, ints]) (by first | exact .inl rfl | exact .inr rfl) ?_
  (try simp only [go_sem])
  (try simp (disch := omega) only [wrapI])
  repeat first | intro _ | refine ⟨(by omega), ?_⟩ | refine ⟨⟨by omega, by omega⟩, ?_⟩
  refine hK _ ?_
  clear hK K
  refine awp_ret ?_
  simp only [go_sem]
  rw [← indexF_any]
/-- All numbers lie between two. -/
def withinL (a b : Int) (l : List Int) : Bool := l.all fun n => decide (a ≤ n) && decide (n ≤ b)
theorem withinL_not (a b : Int) (l : List Int) : (!(l.any fun n => decide (n < a) || decide (b < n))) = withinL a b l := by
  unfold withinL
  rw [List.not_any_eq_all_not]
  congr 1
  funext n
  by_cases h1 : n < a <;> by_cases h2 : b < n <;> simp [h1, h2] <;> omega
theorem within_ok (a b : Int) (l : List Int) : ACalls Try.prog 45 [i64 a, i64 b, ints l] (.bo (withinL a b l)) := by
  refine acalls_st (rs := [.bo (withinL a b l)]) [.tmp 6] Try.func45 rfl (by kernel_rfl) Try.ntmps45 rfl (by simp) rfl fun C vs => ?_
  repeat refine awp_seq ?_
  refine awp_reg (by kernel_rfl) fun K hK => ?_
  simp only [go_sem]
  (try simp (disch := omega) only [wrapI])
  repeat first | intro _ | refine ⟨(by omega), ?_⟩ | refine ⟨⟨by omega, by omega⟩, ?_⟩
  refine hK _ ?_
  clear hK K
  repeat refine awp_seq ?_
  refine awp_reg (by kernel_rfl) fun K hK => ?_
  simp only [go_sem]
  (try simp (disch := omega) only [wrapI])
  refine xcall_eq (contains_ok (fun n => decide (n < a) || decide (b < n)) 68 [.rp [i64 a], .rp [i64 b]] l fun x _ => within1_ok x a b) rfl (by simp only [go_sem, i64, ints]) (by simp only [go_sem, i64, ints]) (by first | exact .inl rfl | exact .inr rfl) ?_
  (try simp only [go_sem])
  (try simp (disch := omega) only [wrapI])
  repeat first | intro _ | refine ⟨(by omega), ?_⟩ | refine ⟨⟨by omega, by omega⟩, ?_⟩
  refine hK _ ?_
  clear hK K
  refine awp_ret ?_
  simp only [go_sem]
  rw [← withinL_not]
theorem isRes_ok (n : Int) : ACalls Try.prog 54 [i64 n] (.bo (withinL 1 2147483646 [n])) := by
  refine acalls_st (rs := [.bo (withinL 1 2147483646 [n])]) [.tmp 2] Try.func54 rfl (by kernel_rfl) Try.ntmps54 rfl (by simp) rfl fun C vs => ?_
  repeat refine awp_seq ?_
  refine awp_reg (by kernel_rfl) fun K hK => ?_
  simp only [go_sem]
  (try simp (disch := omega) only [wrapI])
  repeat first | intro _ | refine ⟨(by omega), ?_⟩ | refine ⟨⟨by omega, by omega⟩, ?_⟩
  refine hK _ ?_
  clear hK K
  repeat refine awp_seq ?_
  refine awp_reg (by kernel_rfl) fun K hK => ?_
  simp only [go_sem]
  (try simp (disch := omega) only [wrapI])
  refine xcall_eq (within_ok 1 2147483646 [n]) rfl (by simp only [go_sem, i64, ints]) (by simp only [go_sem, i64, ints]) (by first | exact .inl rfl | exact .inr rfl) ?_
  (try simp only [go_sem])
  (try simp (disch := omega) only [wrapI])
  repeat first | intro _ | refine ⟨(by omega), ?_⟩ | refine ⟨⟨by omega, by omega⟩, ?_⟩
  refine hK _ ?_
  clear hK K
  refine awp_ret ?_
  simp only [go_sem]
theorem open1_ok (n : Int) : ACalls Try.prog 56 [i64 n] (.bo (!withinL 1 2147483646 [n])) := by
  refine acalls_st (rs := [.bo (!withinL 1 2147483646 [n])]) [.tmp 2] Try.func56 rfl (by kernel_rfl) Try.ntmps56 rfl (by simp) rfl fun C vs => ?_
  repeat refine awp_seq ?_
  refine awp_reg (by kernel_rfl) fun K hK => ?_
  simp only [go_sem]
  (try simp (disch := omega) only [wrapI])
  repeat first | intro _ | refine ⟨(by omega), ?_⟩ | refine ⟨⟨by omega, by omega⟩, ?_⟩
  refine hK _ ?_
  clear hK K
  repeat refine awp_seq ?_
  refine awp_reg (by kernel_rfl) fun K hK => ?_
  simp only [go_sem]
  (try simp (disch := omega) only [wrapI])
  refine xcall_eq (isRes_ok n) rfl (by simp only [go_sem, i64, ints]) (by simp only [go_sem, i64, ints]) (by first | exact .inl rfl | exact .inr rfl) ?_
  (try simp only [go_sem])
  (try simp (disch := omega) only [wrapI])
  repeat first | intro _ | refine ⟨(by omega), ?_⟩ | refine ⟨⟨by omega, by omega⟩, ?_⟩
  refine hK _ ?_
  clear hK K
  refine awp_ret ?_
  simp only [go_sem]
theorem nan_ok (n : Int) : ACalls Try.prog 79 [i64 n] (.bo false) := by
  refine acalls_st (rs := [.bo false]) [.tmp 2] Try.func79 rfl (by kernel_rfl) Try.ntmps79 rfl (by simp) rfl fun C vs => ?_
  repeat refine awp_seq ?_
  refine awp_reg (by kernel_rfl) fun K hK => ?_
  simp only [go_sem]
  (try simp (disch := omega) only [wrapI])
  repeat first | intro _ | refine ⟨(by omega), ?_⟩ | refine ⟨⟨by omega, by omega⟩, ?_⟩
  refine hK _ ?_
  clear hK K
  repeat refine awp_seq ?_
  refine awp_reg (by kernel_rfl) fun K hK => ?_
  simp only [go_sem]
  (try simp (disch := omega) only [wrapI])
  repeat first | intro _ | refine ⟨(by omega), ?_⟩ | refine ⟨⟨by omega, by omega⟩, ?_⟩
  refine hK _ ?_
  clear hK K
  refine awp_ret ?_
  simp only [go_sem]
  simp
/-! ### Numbers modulo the prime -/
def tmul (a b : Int) : Int := a * b % 2147483647
def tpow (a : Int) (n : Nat) : Int := a ^ n % 2147483647
theorem tmul_lo (a b : Int) : 0 ≤ tmul a b := by unfold tmul; omega
theorem tmul_hi (a b : Int) : tmul a b < 2147483647 := by unfold tmul; omega
theorem tpow_lo (a : Int) (n : Nat) : 0 ≤ tpow a n := by unfold tpow; omega
theorem tpow_hi (a : Int) (n : Nat) : tpow a n < 2147483647 := by unfold tpow; omega
theorem mul_in {a b : Int} (ha : 0 ≤ a) (ha' : a < 2147483648) (hb : 0 ≤ b) (hb' : b < 2147483648) : 0 ≤ a * b ∧ a * b ≤ 4611686018427387904 :=
  ⟨Int.mul_nonneg ha hb, by
    have h1 : a * b ≤ 2147483648 * b := Int.mul_le_mul_of_nonneg_right (by omega) hb
    omega⟩
theorem tmul_step {a b : Int} (ha : 0 ≤ a) (ha' : a < 2147483648) (hb : 0 ≤ b) (hb' : b < 2147483648) : (IntKind.i64.wrap (a * b)).tmod 2147483647 = tmul a b := by
  obtain ⟨h1, h2⟩ := mul_in ha ha' hb hb'
  rw [wrapI (by omega) (by omega), Int.tmod_eq_emod_of_nonneg h1]
  rfl
theorem times_ok (a b : Int) (ha : 0 ≤ a) (ha' : a < 2147483648) (hb : 0 ≤ b) (hb' : b < 2147483648) : ACalls Try.prog 50 [i64 a, i64 b] (i64 (tmul a b)) := by
  refine acalls_st (rs := [i64 (tmul a b)]) [.tmp 4] Try.func50 rfl (by kernel_rfl) Try.ntmps50 rfl (by simp) rfl fun C vs => ?_
  repeat refine awp_seq ?_
  refine awp_reg (by kernel_rfl) fun K hK => ?_
  simp only [go_sem]
  (try simp (disch := omega) only [wrapI])
  repeat first | intro _ | refine ⟨(by omega), ?_⟩ | refine ⟨⟨by omega, by omega⟩, ?_⟩
  refine hK _ ?_
  clear hK K
  repeat refine awp_seq ?_
  refine awp_reg (by kernel_rfl) fun K hK => ?_
  simp only [go_sem]
  (try simp (disch := omega) only [wrapI])
  rw [tmul_step ha ha' hb hb']
  repeat first | intro _ | refine ⟨(by omega), ?_⟩ | refine ⟨⟨by omega, by omega⟩, ?_⟩
  refine hK _ ?_
  clear hK K
  refine awp_ret ?_
  simp only [go_sem]
theorem emod_pow (a : Int) (m : Int) : ∀ n : Nat, (a % m) ^ n % m = a ^ n % m
  | 0 => by simp
  | n + 1 => by rw [Int.pow_succ, Int.pow_succ, Int.mul_emod, emod_pow a m n, Int.emod_emod, ← Int.mul_emod]
theorem pow_two' (a : Int) : a * a = a ^ 2 := by rw [Int.pow_succ, Int.pow_one]
theorem tmod_nat (m k : Nat) : (m : Int).tmod k = ((m % k : Nat) : Int) := rfl
theorem tdiv_nat (m k : Nat) : (m : Int).tdiv k = ((m / k : Nat) : Int) := rfl
theorem tmod2 (m : Nat) : (m : Int).tmod 2 = ((m % 2 : Nat) : Int) := rfl
theorem tdiv2 (m : Nat) : (m : Int).tdiv 2 = ((m / 2 : Nat) : Int) := rfl
/-- One step of squaring. -/
theorem pow_step (o a : Int) (n : Nat) : (if n % 2 = 1 then tmul o a else o) * (tmul a a) ^ (n / 2) % 2147483647 = o * a ^ n % 2147483647 := by
  have hn : n = n % 2 + 2 * (n / 2) := by omega
  have h2 : (tmul a a) ^ (n / 2) % 2147483647 = (a ^ 2) ^ (n / 2) % 2147483647 := by
    unfold tmul
    rw [emod_pow, pow_two']
  have h3 : a ^ n = a ^ (n % 2) * (a ^ 2) ^ (n / 2) := by
    rw [← Int.pow_mul, ← Int.pow_add, ← hn]
  rw [h3, Int.mul_emod, h2, ← Int.mul_emod]
  split
  · rename_i h
    rw [h, Int.pow_one]
    unfold tmul
    rw [Int.mul_emod, Int.emod_emod, ← Int.mul_emod, Int.mul_assoc]
  · have : n % 2 = 0 := by omega
    rw [this]
    simp
theorem power_ok (a : Int) (n : Nat) (ha : 0 ≤ a) (ha' : a < 2147483647) (hn : n < 9223372036854775807) : ACalls Try.prog 70 [i64 a, i64 n] (i64 (tpow a n)) := by
  refine acalls_st (rs := [i64 (tpow a n)]) [.tmp 4] Try.func70 rfl (by kernel_rfl) Try.ntmps70 rfl (by simp) rfl fun C vs => ?_
  repeat refine awp_seq ?_
  refine awp_reg (by kernel_rfl) fun K hK => ?_
  simp only [go_sem]
  (try simp (disch := omega) only [wrapI])
  repeat first | intro _ | refine ⟨(by omega), ?_⟩ | refine ⟨⟨by omega, by omega⟩, ?_⟩
  refine hK _ ?_
  clear hK K
  repeat refine awp_seq ?_
  refine awp_reg (by kernel_rfl) fun K hK => ?_
  simp only [go_sem]
  (try simp (disch := omega) only [wrapI])
  repeat first | intro _ | refine ⟨(by omega), ?_⟩ | refine ⟨⟨by omega, by omega⟩, ?_⟩
  refine hK _ ?_
  clear hK K
  repeat refine awp_seq ?_
  refine awp_block ?_
  refine awp_while (n := 20) (fun x vs => [(0, .r (i64 x.1)), (1, .r (i64 x.2.1)), (5, .r (i64 x.2.2))]) (fun _ => [])
    (fun (x : Int × Nat × Int) => 0 ≤ x.1 ∧ x.1 < 2147483647 ∧ 0 ≤ x.2.2 ∧ x.2.2 < 2147483647 ∧ x.2.1 < 9223372036854775807 ∧ x.2.2 * x.1 ^ x.2.1 % 2147483647 = tpow a n) (fun x => x.2.1) (a, n, 1) (fit_of [] ?_ rfl) ?_ ?_
  · try simp only [go_sem]
  · simp only [tpow]
    omega
  · rintro ⟨b, m, o⟩ vs ⟨h1, h2, h3, h4, h5, h6⟩
    simp only at h1 h2 h3 h4 h5 h6
    repeat refine awp_seq ?_
    refine awp_reg (by kernel_rfl) fun K hK => ?_
    simp only [go_sem]
    (try simp (disch := omega) only [wrapI])
    repeat first | intro _ | refine ⟨(by omega), ?_⟩ | refine ⟨⟨by omega, by omega⟩, ?_⟩
    refine hK _ ?_
    clear hK K
    repeat refine awp_seq ?_
    refine awp_cond rfl (fun hc => ?_) (fun hc => ?_) <;> (try simp only [go_sem] at hc)
    · refine awp_skip ?_
      repeat refine awp_seq ?_
      refine awp_block ?_
      repeat refine awp_seq ?_
      refine awp_reg (by kernel_rfl) fun K hK => ?_
      simp only [go_sem]
      (try simp (disch := omega) only [wrapI])
      repeat first | intro _ | refine ⟨(by omega), ?_⟩ | refine ⟨⟨by omega, by omega⟩, ?_⟩
      refine hK _ ?_
      clear hK K
      have hs := pow_step o b m
      have e2 : ((m : Int).tmod 2 == 1) = decide (m % 2 = 1) := by
        rw [tmod2]
        by_cases h : m % 2 = 1 <;> simp [h]
        omega
      rw [e2]
      refine awp_join (n := 20) (fun x vs => [(0, .r (i64 b)), (1, .r (i64 m)), (5, .r (i64 x))]) (fun _ => []) (fun x => x = if m % 2 = 1 then tmul o b else o) (fun _ h => h) ?_ ?_
      · repeat refine awp_seq ?_
        refine awp_cond rfl (fun hc => ?_) (fun hc => ?_) <;> (try simp only [go_sem] at hc)
        · repeat refine awp_seq ?_
          refine awp_reg (by kernel_rfl) fun K hK => ?_
          simp only [go_sem]
          (try simp (disch := omega) only [wrapI])
          refine xcall_eq (times_ok o b h3 (by omega) h1 (by omega)) rfl (by simp only [go_sem, i64, ints]) (by simp only [go_sem, i64, ints]) (by first | exact .inl rfl | exact .inr rfl) ?_
          (try simp only [go_sem])
          (try simp (disch := omega) only [wrapI])
          repeat first | intro _ | refine ⟨(by omega), ?_⟩ | refine ⟨⟨by omega, by omega⟩, ?_⟩
          refine hK _ ?_
          clear hK K
          exact ⟨_, rfl, fit_of [] (by simp only [go_sem, hc]) rfl⟩
        · refine awp_skip ?_
          exact ⟨_, rfl, fit_of [] (by simp only [go_sem, hc]) rfl⟩
      · rintro z vs rfl
        repeat refine awp_seq ?_
        refine awp_reg (by kernel_rfl) fun K hK => ?_
        simp only [go_sem]
        (try simp (disch := omega) only [wrapI])
        refine xcall_eq (times_ok b b h1 (by omega) h1 (by omega)) rfl (by simp only [go_sem, i64, ints]) (by simp only [go_sem, i64, ints]) (by first | exact .inl rfl | exact .inr rfl) ?_
        (try simp only [go_sem])
        (try simp (disch := omega) only [wrapI])
        repeat first | intro _ | refine ⟨(by omega), ?_⟩ | refine ⟨⟨by omega, by omega⟩, ?_⟩
        refine hK _ ?_
        clear hK K
        try simp only [go_sem]
        repeat refine awp_seq ?_
        refine awp_reg (by kernel_rfl) fun K hK => ?_
        simp only [go_sem, tdiv2]
        (try simp (disch := omega) only [wrapI])
        repeat first | intro _ | refine ⟨(by omega), ?_⟩ | refine ⟨⟨by omega, by omega⟩, ?_⟩
        refine hK _ ?_
        clear hK K
        refine ⟨(tmul b b, m / 2, if m % 2 = 1 then tmul o b else o), ⟨tmul_lo _ _, tmul_hi _ _, ?_, ?_, ?_, ?_⟩, ?_, fit_of [] ?_ rfl⟩
        · simp only; split
          · exact tmul_lo _ _
          · exact h3
        · simp only; split
          · exact tmul_hi _ _
          · exact h4
        · simp only; omega
        · simp only; rw [hs, h6]
        · simp only; omega
        · try simp only [go_sem]
    · refine awp_exit ?_
      simp only [go_sem]
      repeat refine awp_seq ?_
      refine awp_reg (by kernel_rfl) fun K hK => ?_
      simp only [go_sem]
      (try simp (disch := omega) only [wrapI])
      repeat first | intro _ | refine ⟨(by omega), ?_⟩ | refine ⟨⟨by omega, by omega⟩, ?_⟩
      refine hK _ ?_
      clear hK K
      refine awp_ret ?_
      simp only [go_sem]
      have : m = 0 := by omega
      subst this
      simp at h6
      omega
end Go.Proofs.Ytnklbfmdojpfkaa

/- What more small functions of chapter 10 return: masks, codes, sums, lists. -/
namespace Go.Proofs.Ytnklbfmdojpfkaa
open Go Go.Oc
set_option linter.unusedSimpArgs false
set_option linter.unusedVariables false
set_option maxRecDepth 8000
theorem front_ok (k : Nat) (hk : k < 9223372036854775807) : ACalls Try.prog 48 [i64 k] (i64 (tpow 7 k)) := by
  refine acalls_st (rs := [i64 (tpow 7 k)]) [.tmp 2] Try.func48 rfl (by kernel_rfl) Try.ntmps48 rfl (by simp) rfl fun C vs => ?_
  repeat refine awp_seq ?_
  refine awp_reg (by kernel_rfl) fun K hK => ?_
  simp only [go_sem]
  (try simp (disch := omega) only [wrapI])
  repeat first | intro _ | refine ⟨(by omega), ?_⟩ | refine ⟨⟨by omega, by omega⟩, ?_⟩
  refine hK _ ?_
  clear hK K
  repeat refine awp_seq ?_
  refine awp_reg (by kernel_rfl) fun K hK => ?_
  simp only [go_sem]
  (try simp (disch := omega) only [wrapI])
  refine xcall_eq (power_ok 7 k (by decide) (by decide) hk) rfl (by simp only [go_sem, i64, ints]) (by simp only [go_sem, i64, ints]) (by first | exact .inl rfl | exact .inr rfl) ?_
  (try simp only [go_sem])
  (try simp (disch := omega) only [wrapI])
  repeat first | intro _ | refine ⟨(by omega), ?_⟩ | refine ⟨⟨by omega, by omega⟩, ?_⟩
  refine hK _ ?_
  clear hK K
  refine awp_ret ?_
  simp only [go_sem]
theorem mask_ok (k g : Nat) (hk : k < 2147483648) (hg : g < 1000000) : ACalls Try.prog 51 [i64 k, i64 g] (i64 (tpow 48271 (k * (g + 1)))) := by
  have h1 : k * (g + 1) ≤ 2147483648 * (g + 1) := Nat.mul_le_mul_right _ (by omega)
  have h2 : (k : Int) * ((g : Int) + 1) = ((k * (g + 1) : Nat) : Int) := by simp
  refine acalls_st (rs := [i64 (tpow 48271 (k * (g + 1)))]) [.tmp 4] Try.func51 rfl (by kernel_rfl) Try.ntmps51 rfl (by simp) rfl fun C vs => ?_
  repeat refine awp_seq ?_
  refine awp_reg (by kernel_rfl) fun K hK => ?_
  simp only [go_sem]
  (try simp (disch := omega) only [wrapI])
  repeat first | intro _ | refine ⟨(by omega), ?_⟩ | refine ⟨⟨by omega, by omega⟩, ?_⟩
  refine hK _ ?_
  clear hK K
  repeat refine awp_seq ?_
  refine awp_reg (by kernel_rfl) fun K hK => ?_
  simp only [go_sem]
  (try simp (disch := omega) only [wrapI])
  rw [h2]
  refine xcall_eq (power_ok 48271 (k * (g + 1)) (by decide) (by decide) (by omega)) rfl (by simp only [go_sem, i64, ints]) (by simp only [go_sem, i64, ints]) (by first | exact .inl rfl | exact .inr rfl) ?_
  (try simp only [go_sem])
  (try simp (disch := omega) only [wrapI])
  repeat first | intro _ | refine ⟨(by omega), ?_⟩ | refine ⟨⟨by omega, by omega⟩, ?_⟩
  refine hK _ ?_
  clear hK K
  refine awp_ret ?_
  simp only [go_sem]
/-- Division by a number that is not 0. -/
def tover (a b : Int) : Int := tmul a (tpow b 2147483645)
theorem over_ok (a b : Int) (ha : 0 ≤ a) (ha' : a < 2147483647) (hb : 0 ≤ b) (hb' : b < 2147483647) : ACalls Try.prog 58 [i64 a, i64 b] (i64 (tover a b)) := by
  have hp := tpow_lo b 2147483645
  have hp' := tpow_hi b 2147483645
  refine acalls_st (rs := [i64 (tover a b)]) [.tmp 4] Try.func58 rfl (by kernel_rfl) Try.ntmps58 rfl (by simp) rfl fun C vs => ?_
  repeat refine awp_seq ?_
  refine awp_reg (by kernel_rfl) fun K hK => ?_
  simp only [go_sem]
  (try simp (disch := omega) only [wrapI])
  repeat first | intro _ | refine ⟨(by omega), ?_⟩ | refine ⟨⟨by omega, by omega⟩, ?_⟩
  refine hK _ ?_
  clear hK K
  repeat refine awp_seq ?_
  refine awp_reg (by kernel_rfl) fun K hK => ?_
  simp only [go_sem]
  (try simp (disch := omega) only [wrapI])
  refine xcall_eq (power_ok b 2147483645 hb hb' (by decide)) rfl (by simp only [go_sem, i64, ints]) (by simp only [go_sem, i64, ints]) (by first | exact .inl rfl | exact .inr rfl) ?_
  (try simp only [go_sem])
  (try simp (disch := omega) only [wrapI])
  refine xcall_eq (times_ok a (tpow b 2147483645) ha (by omega) hp (by omega)) rfl (by simp only [go_sem, i64, ints]) (by simp only [go_sem, i64, ints]) (by first | exact .inl rfl | exact .inr rfl) ?_
  (try simp only [go_sem])
  (try simp (disch := omega) only [wrapI])
  repeat first | intro _ | refine ⟨(by omega), ?_⟩ | refine ⟨⟨by omega, by omega⟩, ?_⟩
  refine hK _ ?_
  clear hK K
  refine awp_ret ?_
  simp only [go_sem]
  rfl
theorem refPower_ok (a : Int) (n : Nat) (ha : 0 ≤ a) (ha' : a < 2147483647) (hn : n < 9223372036854775807) : ACalls Try.prog 52 [i64 a, i64 n] (i64 (tpow a n)) := by
  refine acalls_st (rs := [i64 (tpow a n)]) [.tmp 4] Try.func52 rfl (by kernel_rfl) Try.ntmps52 rfl (by simp) rfl fun C vs => ?_
  repeat refine awp_seq ?_
  refine awp_reg (by kernel_rfl) fun K hK => ?_
  simp only [go_sem]
  (try simp (disch := omega) only [wrapI])
  repeat first | intro _ | refine ⟨(by omega), ?_⟩ | refine ⟨⟨by omega, by omega⟩, ?_⟩
  refine hK _ ?_
  clear hK K
  repeat refine awp_seq ?_
  refine awp_reg (by kernel_rfl) fun K hK => ?_
  simp only [go_sem]
  (try simp (disch := omega) only [wrapI])
  repeat first | intro _ | refine ⟨(by omega), ?_⟩ | refine ⟨⟨by omega, by omega⟩, ?_⟩
  refine hK _ ?_
  clear hK K
  repeat refine awp_seq ?_
  refine awp_block ?_
  refine awp_while (n := 22) (fun x vs => [(0, .r (i64 x.1)), (1, .r (i64 x.2.1)), (5, .r (i64 x.2.2))]) (fun _ => [])
    (fun (x : Int × Nat × Int) => 0 ≤ x.1 ∧ x.1 < 2147483647 ∧ 0 ≤ x.2.2 ∧ x.2.2 < 2147483647 ∧ x.2.1 < 9223372036854775807 ∧ x.2.2 * x.1 ^ x.2.1 % 2147483647 = tpow a n) (fun x => x.2.1) (a, n, 1) (fit_of [] ?_ rfl) ?_ ?_
  · try simp only [go_sem]
  · simp only [tpow]
    omega
  · rintro ⟨b, m, o⟩ vs ⟨h1, h2, h3, h4, h5, h6⟩
    simp only at h1 h2 h3 h4 h5 h6
    repeat refine awp_seq ?_
    refine awp_reg (by kernel_rfl) fun K hK => ?_
    simp only [go_sem]
    (try simp (disch := omega) only [wrapI])
    repeat first | intro _ | refine ⟨(by omega), ?_⟩ | refine ⟨⟨by omega, by omega⟩, ?_⟩
    refine hK _ ?_
    clear hK K
    repeat refine awp_seq ?_
    refine awp_cond rfl (fun hc => ?_) (fun hc => ?_) <;> (try simp only [go_sem] at hc)
    · refine awp_skip ?_
      repeat refine awp_seq ?_
      refine awp_block ?_
      repeat refine awp_seq ?_
      refine awp_reg (by kernel_rfl) fun K hK => ?_
      simp only [go_sem]
      (try simp (disch := omega) only [wrapI])
      repeat first | intro _ | refine ⟨(by omega), ?_⟩ | refine ⟨⟨by omega, by omega⟩, ?_⟩
      refine hK _ ?_
      clear hK K
      have hs := pow_step o b m
      have e2 : ((m : Int).tmod 2 == 1) = decide (m % 2 = 1) := by
        rw [tmod2]
        by_cases h : m % 2 = 1 <;> simp [h]
        omega
      rw [e2]
      refine awp_join (n := 22) (fun x vs => [(0, .r (i64 b)), (1, .r (i64 m)), (5, .r (i64 x))]) (fun _ => []) (fun x => x = if m % 2 = 1 then tmul o b else o) (fun _ h => h) ?_ ?_
      · repeat refine awp_seq ?_
        refine awp_cond rfl (fun hc => ?_) (fun hc => ?_) <;> (try simp only [go_sem] at hc)
        · repeat refine awp_seq ?_
          refine awp_reg (by kernel_rfl) fun K hK => ?_
          simp only [go_sem]
          (try simp (disch := omega) only [wrapI])
          rw [tmul_step h3 (by omega) h1 (by omega)]
          repeat first | intro _ | refine ⟨(by omega), ?_⟩ | refine ⟨⟨by omega, by omega⟩, ?_⟩
          refine hK _ ?_
          clear hK K
          exact ⟨_, rfl, fit_of [] (by simp only [go_sem, hc]) rfl⟩
        · refine awp_skip ?_
          exact ⟨_, rfl, fit_of [] (by simp only [go_sem, hc]) rfl⟩
      · rintro z vs rfl
        repeat refine awp_seq ?_
        refine awp_reg (by kernel_rfl) fun K hK => ?_
        simp only [go_sem, tdiv2]
        (try simp (disch := omega) only [wrapI])
        rw [tmul_step h1 (by omega) h1 (by omega)]
        repeat first | intro _ | refine ⟨(by omega), ?_⟩ | refine ⟨⟨by omega, by omega⟩, ?_⟩
        refine hK _ ?_
        clear hK K
        refine ⟨(tmul b b, m / 2, if m % 2 = 1 then tmul o b else o), ⟨tmul_lo _ _, tmul_hi _ _, ?_, ?_, ?_, ?_⟩, ?_, fit_of [] ?_ rfl⟩
        · simp only; split
          · exact tmul_lo _ _
          · exact h3
        · simp only; split
          · exact tmul_hi _ _
          · exact h4
        · simp only; omega
        · simp only; rw [hs, h6]
        · simp only; omega
        · try simp only [go_sem]
    · refine awp_exit ?_
      simp only [go_sem]
      repeat refine awp_seq ?_
      refine awp_reg (by kernel_rfl) fun K hK => ?_
      simp only [go_sem]
      (try simp (disch := omega) only [wrapI])
      repeat first | intro _ | refine ⟨(by omega), ?_⟩ | refine ⟨⟨by omega, by omega⟩, ?_⟩
      refine hK _ ?_
      clear hK K
      refine awp_ret ?_
      simp only [go_sem]
      have : m = 0 := by omega
      subst this
      simp at h6
      omega
/-- The code of the players of a game. -/
def codeL : List Int → Int
  | [] => 1
  | p :: q => 1 + p + 16 * q.sum
theorem codeL_snoc (l : List Int) (x : Int) : codeL (l ++ [x]) = codeL l + if l.length > 0 then 16 * x else x := by
  cases l with
  | nil => simp [codeL]
  | cons p q => simp [codeL]; omega
theorem sum_le (b : Int) : ∀ l : List Int, (∀ x ∈ l, 0 ≤ x ∧ x ≤ b) → 0 ≤ l.sum ∧ l.sum ≤ b * l.length
  | [], _ => by simp
  | x :: l, h => by
    have h1 := h x (by simp)
    have h2 := sum_le b l fun y hy => h y (by simp [hy])
    simp only [List.sum_cons, List.length_cons, Int.natCast_add, Int.mul_add]
    omega
theorem codeL_in (l : List Int) (h : ∀ x ∈ l, 0 ≤ x ∧ x ≤ 15) : 1 ≤ codeL l ∧ codeL l ≤ 1 + 240 * l.length := by
  cases l with
  | nil => simp [codeL]
  | cons p q =>
    have h1 := h p (by simp)
    have h2 := sum_le 15 q fun y hy => h y (by simp [hy])
    simp only [codeL, List.length_cons, Int.natCast_add]
    omega
theorem mem_take_of {α : Type} {l : List α} {i : Nat} {x : α} (h : x ∈ l.take i) : x ∈ l := List.mem_of_mem_take h
theorem code_ok (l : List Int) (h : ∀ x ∈ l, 0 ≤ x ∧ x ≤ 15) (hl : l.length ≤ 1000) : ACalls Try.prog 49 [ints l] (i64 (codeL l)) := by
  refine acalls_st (rs := [i64 (codeL l)]) [.tmp 2] Try.func49 rfl (by kernel_rfl) Try.ntmps49 rfl (by simp) rfl fun C vs => ?_
  repeat refine awp_seq ?_
  refine awp_reg (by kernel_rfl) fun K hK => ?_
  simp only [go_sem]
  (try simp (disch := omega) only [wrapI])
  repeat first | intro _ | refine ⟨(by omega), ?_⟩ | refine ⟨⟨by omega, by omega⟩, ?_⟩
  refine hK _ ?_
  clear hK K
  repeat refine awp_seq ?_
  refine awp_reg (by kernel_rfl) fun K hK => ?_
  simp only [go_sem]
  (try simp (disch := omega) only [wrapI])
  repeat first | intro _ | refine ⟨(by omega), ?_⟩ | refine ⟨⟨by omega, by omega⟩, ?_⟩
  refine hK _ ?_
  clear hK K
  repeat refine awp_seq ?_
  refine awp_reg (by kernel_rfl) fun K hK => ?_
  simp only [go_sem]
  (try simp (disch := omega) only [wrapI])
  intro _
  repeat first | intro _ | refine ⟨(by omega), ?_⟩ | refine ⟨⟨by omega, by omega⟩, ?_⟩
  refine hK _ ?_
  clear hK K
  repeat refine awp_seq ?_
  refine awp_block ?_
  refine awp_upto (n := 24) l.length (fun i vs => [(6, .r (ints l)), (7, .r (i64 l.length)), (8, .r (i64 i)), (3, .r (i64 (codeL (l.take i))))]) (fun _ => [])
    (fun i => True) 0 (fit_of [] ?_ rfl) (Nat.zero_le _) trivial ?_
  · try simp only [go_sem]
    simp [codeL]
  · intro i vs hi _
    repeat refine awp_seq ?_
    refine awp_reg (by kernel_rfl) fun K hK => ?_
    simp only [go_sem]
    (try simp (disch := omega) only [wrapI])
    repeat first | intro _ | refine ⟨(by omega), ?_⟩ | refine ⟨⟨by omega, by omega⟩, ?_⟩
    refine hK _ ?_
    clear hK K
    repeat refine awp_seq ?_
    refine awp_cond rfl (fun hc => ?_) (fun hc => ?_) <;> (try simp only [go_sem] at hc)
    · obtain ⟨x, hx⟩ := opt_of_lt hc
      have hx15 := h x (mem_of_opt hx)
      have hc1 := codeL_in (l.take i) fun y hy => h y (mem_take_of hy)
      simp only [List.length_take] at hc1
      have hsn := codeL_snoc (l.take i) x
      rw [← take_of_opt hx] at hsn
      simp only [List.length_take] at hsn
      refine awp_skip ?_
      repeat refine awp_seq ?_
      refine awp_block ?_
      repeat refine awp_seq ?_
      refine awp_reg (by kernel_rfl) fun K hK => ?_
      simp only [go_sem, hx, hc]
      (try simp (disch := omega) only [wrapI])
      repeat first | intro _ | refine ⟨(by omega), ?_⟩ | refine ⟨⟨by omega, by omega⟩, ?_⟩
      refine hK _ ?_
      clear hK K
      repeat refine awp_seq ?_
      refine awp_reg (by kernel_rfl) fun K hK => ?_
      simp only [go_sem]
      (try simp (disch := omega) only [wrapI])
      repeat first | intro _ | refine ⟨(by omega), ?_⟩ | refine ⟨⟨by omega, by omega⟩, ?_⟩
      refine hK _ ?_
      clear hK K
      repeat refine awp_seq ?_
      refine awp_reg (by kernel_rfl) fun K hK => ?_
      simp only [go_sem]
      (try simp (disch := omega) only [wrapI])
      repeat first | intro _ | refine ⟨(by omega), ?_⟩ | refine ⟨⟨by omega, by omega⟩, ?_⟩
      refine hK _ ?_
      clear hK K
      refine awp_join (n := 24) (fun y vs => [(6, .r (ints l)), (7, .r (i64 l.length)), (8, .r (i64 i)), (3, .r (i64 y))]) (fun _ => []) (fun y => y = codeL (l.take (i + 1))) (fun _ h => h) ?_ ?_
      · repeat refine awp_seq ?_
        refine awp_cond rfl (fun hc => ?_) (fun hc => ?_) <;> (try simp only [go_sem] at hc)
        · repeat refine awp_seq ?_
          refine awp_reg (by kernel_rfl) fun K hK => ?_
          simp only [go_sem]
          (try simp (disch := omega) only [wrapI])
          repeat first | intro _ | refine ⟨(by omega), ?_⟩ | refine ⟨⟨by omega, by omega⟩, ?_⟩
          refine hK _ ?_
          clear hK K
          refine ⟨codeL (l.take (i + 1)), rfl, fit_of [] ?_ rfl⟩
          try simp only [go_sem]
          rw [hsn, if_pos (by omega)]
          omega
        · refine awp_skip ?_
          refine ⟨codeL (l.take (i + 1)), rfl, fit_of [] ?_ rfl⟩
          try simp only [go_sem]
          rw [hsn, if_neg (by omega)]
      · rintro z vs rfl
        try simp only [go_sem]
        repeat refine awp_seq ?_
        refine awp_reg (by kernel_rfl) fun K hK => ?_
        simp only [go_sem]
        (try simp (disch := omega) only [wrapI])
        repeat first | intro _ | refine ⟨(by omega), ?_⟩ | refine ⟨⟨by omega, by omega⟩, ?_⟩
        refine hK _ ?_
        clear hK K
        try simp only [go_sem]
        exact ⟨hc, fit_of [] (by simp only [go_sem]) rfl⟩
    · refine awp_exit ?_
      simp only [go_sem]
      repeat refine awp_seq ?_
      refine awp_reg (by kernel_rfl) fun K hK => ?_
      simp only [go_sem]
      (try simp (disch := omega) only [wrapI])
      repeat first | intro _ | refine ⟨(by omega), ?_⟩ | refine ⟨⟨by omega, by omega⟩, ?_⟩
      refine hK _ ?_
      clear hK K
      refine awp_ret ?_
      simp only [go_sem]
      rw [List.take_of_length_le (by omega)]
end Go.Proofs.Ytnklbfmdojpfkaa

/- What the functions of the library that chapter 10 calls return: Grow, Concat, Delete; and sums, lists. -/
namespace Go.Proofs.Ytnklbfmdojpfkaa
open Go Go.Oc
set_option linter.unusedSimpArgs false
set_option linter.unusedVariables false
set_option maxRecDepth 8000
theorem grow_ok (q : Nat) (hq : 0 < q) (hq2 : q ≤ 1000000) : OCalls Try.prog 72 [.ns, i64 q] 3 1 (List.replicate q [i64 0]) 0 := by
  refine ocalls_st (n := 27) (.tmp 4) Try.func72 rfl (by kernel_rfl) Try.ntmps72 rfl (by simp) (fun e he => by rw [List.eq_of_mem_replicate he]; rfl) fun C vs => ?_
  repeat refine awp_seq ?_
  refine awp_reg (by kernel_rfl) fun K hK => ?_
  simp only [go_sem]
  (try simp (disch := omega) only [wrapI])
  repeat first | intro _ | refine ⟨(by omega), ?_⟩ | refine ⟨⟨by omega, by omega⟩, ?_⟩
  refine hK _ ?_
  clear hK K
  repeat refine awp_seq ?_
  refine awp_reg (by kernel_rfl) fun K hK => ?_
  simp only [go_sem]
  (try simp (disch := omega) only [wrapI])
  repeat first | intro _ | refine ⟨(by omega), ?_⟩ | refine ⟨⟨by omega, by omega⟩, ?_⟩
  refine hK _ ?_
  clear hK K
  repeat refine awp_seq ?_
  refine awp_cond rfl (fun hc => ?_) (fun hc => ?_) <;> (try simp only [go_sem] at hc)
  · omega
  refine awp_skip ?_
  try simp only [go_sem]
  repeat refine awp_seq ?_
  refine awp_reg (by kernel_rfl) fun K hK => ?_
  simp only [go_sem]
  (try simp (disch := omega) only [wrapI])
  repeat first | intro _ | refine ⟨(by omega), ?_⟩ | refine ⟨⟨by omega, by omega⟩, ?_⟩
  refine hK _ ?_
  clear hK K
  repeat refine awp_seq ?_
  refine awp_reg (by kernel_rfl) fun K hK => ?_
  simp only [go_sem]
  (try simp (disch := omega) only [wrapI])
  repeat first | intro _ | refine ⟨(by omega), ?_⟩ | refine ⟨⟨by omega, by omega⟩, ?_⟩
  refine hK _ ?_
  clear hK K
  repeat refine awp_seq ?_
  refine awp_cond rfl (fun hc => ?_) (fun hc => ?_) <;> (try simp only [go_sem] at hc)
  · repeat refine awp_seq ?_
    refine awp_reg (by kernel_rfl) fun K hK => ?_
    simp only [go_sem]
    (try simp (disch := omega) only [wrapI])
    refine ⟨⟨by omega, by omega, by omega⟩, ?_⟩
    repeat first | intro _ | refine ⟨(by omega), ?_⟩ | refine ⟨⟨by omega, by omega⟩, ?_⟩
    refine hK _ ?_
    clear hK K
    try simp only [go_sem]
    repeat refine awp_seq ?_
    refine awp_reg (by kernel_rfl) fun K hK => ?_
    simp only [go_sem]
    (try simp (disch := omega) only [wrapI])
    repeat first | intro _ | refine ⟨(by omega), ?_⟩ | refine ⟨⟨by omega, by omega⟩, ?_⟩
    refine hK _ ?_
    clear hK K
    refine awp_ret ?_
    simp only [go_sem]
    exact ⟨_, _, rfl, rfl⟩
  · omega
theorem ints_ok (l : List Int) (hl : l.length < 1000000000000) : ACalls Try.prog 25 [ints l] (ints l) := by
  refine acalls_st (rs := [ints l]) [.tmp 2] Try.func25 rfl (by kernel_rfl) Try.ntmps25 rfl (by simp) rfl fun C vs => ?_
  repeat refine awp_seq ?_
  refine awp_reg (by kernel_rfl) fun K hK => ?_
  simp only [go_sem]
  (try simp (disch := omega) only [wrapI])
  repeat first | intro _ | refine ⟨(by omega), ?_⟩ | refine ⟨⟨by omega, by omega⟩, ?_⟩
  refine hK _ ?_
  clear hK K
  repeat refine awp_seq ?_
  refine awp_reg (by kernel_rfl) fun K hK => ?_
  simp only [go_sem]
  (try simp (disch := omega) only [wrapI])
  refine ⟨⟨by omega, by omega⟩, ?_⟩
  repeat first | intro _ | refine ⟨(by omega), ?_⟩ | refine ⟨⟨by omega, by omega⟩, ?_⟩
  refine hK _ ?_
  clear hK K
  refine awp_ret ?_
  simp only [go_sem]
theorem total_ok (l : List Int) (hl : l.length ≤ 1000) (h : ∀ x ∈ l, 0 ≤ x ∧ x ≤ 1000) : ACalls Try.prog 61 [ints l] (i64 l.sum) := by
  refine acalls_st (rs := [i64 l.sum]) [.tmp 2] Try.func61 rfl (by kernel_rfl) Try.ntmps61 rfl (by simp) rfl fun C vs => ?_
  repeat refine awp_seq ?_
  refine awp_reg (by kernel_rfl) fun K hK => ?_
  simp only [go_sem]
  (try simp (disch := omega) only [wrapI])
  repeat first | intro _ | refine ⟨(by omega), ?_⟩ | refine ⟨⟨by omega, by omega⟩, ?_⟩
  refine hK _ ?_
  clear hK K
  repeat refine awp_seq ?_
  refine awp_reg (by kernel_rfl) fun K hK => ?_
  simp only [go_sem]
  (try simp (disch := omega) only [wrapI])
  intro _
  repeat first | intro _ | refine ⟨(by omega), ?_⟩ | refine ⟨⟨by omega, by omega⟩, ?_⟩
  refine hK _ ?_
  clear hK K
  repeat refine awp_seq ?_
  refine awp_block ?_
  refine awp_upto (n := 16) l.length (fun i vs => [(5, .r (ints l)), (6, .r (i64 l.length)), (7, .r (i64 i)), (2, .r (i64 (l.take i).sum))]) (fun _ => [])
    (fun i => True) 0 (fit_of [] ?_ rfl) (Nat.zero_le _) trivial ?_
  · try simp only [go_sem]
    simp
  · intro i vs hi _
    repeat refine awp_seq ?_
    refine awp_reg (by kernel_rfl) fun K hK => ?_
    simp only [go_sem]
    (try simp (disch := omega) only [wrapI])
    repeat first | intro _ | refine ⟨(by omega), ?_⟩ | refine ⟨⟨by omega, by omega⟩, ?_⟩
    refine hK _ ?_
    clear hK K
    repeat refine awp_seq ?_
    refine awp_cond rfl (fun hc => ?_) (fun hc => ?_) <;> (try simp only [go_sem] at hc)
    · obtain ⟨x, hx⟩ := opt_of_lt hc
      have hx1 := h x (mem_of_opt hx)
      have hs := sum_le 1000 (l.take i) fun y hy => h y (mem_take_of hy)
      simp only [List.length_take] at hs
      have hsn : (l.take (i + 1)).sum = (l.take i).sum + x := by rw [take_of_opt hx]; simp
      refine awp_skip ?_
      repeat refine awp_seq ?_
      refine awp_block ?_
      repeat refine awp_seq ?_
      refine awp_reg (by kernel_rfl) fun K hK => ?_
      simp only [go_sem, hx, hc]
      (try simp (disch := omega) only [wrapI])
      repeat first | intro _ | refine ⟨(by omega), ?_⟩ | refine ⟨⟨by omega, by omega⟩, ?_⟩
      refine hK _ ?_
      clear hK K
      repeat refine awp_seq ?_
      refine awp_reg (by kernel_rfl) fun K hK => ?_
      simp only [go_sem]
      (try simp (disch := omega) only [wrapI])
      repeat first | intro _ | refine ⟨(by omega), ?_⟩ | refine ⟨⟨by omega, by omega⟩, ?_⟩
      refine hK _ ?_
      clear hK K
      try simp only [go_sem]
      repeat refine awp_seq ?_
      refine awp_reg (by kernel_rfl) fun K hK => ?_
      simp only [go_sem]
      (try simp (disch := omega) only [wrapI])
      repeat first | intro _ | refine ⟨(by omega), ?_⟩ | refine ⟨⟨by omega, by omega⟩, ?_⟩
      refine hK _ ?_
      clear hK K
      try simp only [go_sem]
      refine ⟨hc, fit_of [] ?_ rfl⟩
      try simp only [go_sem]
      omega
    · refine awp_exit ?_
      simp only [go_sem]
      repeat refine awp_seq ?_
      refine awp_reg (by kernel_rfl) fun K hK => ?_
      simp only [go_sem]
      (try simp (disch := omega) only [wrapI])
      repeat first | intro _ | refine ⟨(by omega), ?_⟩ | refine ⟨⟨by omega, by omega⟩, ?_⟩
      refine hK _ ?_
      clear hK K
      refine awp_ret ?_
      simp only [go_sem]
      rw [List.take_of_length_le (by omega)]
/-- slices.Concat of two lists. -/
theorem concat_ok (a b : List Int) (ha : a.length ≤ 1000) (hb : b.length ≤ 1000) (ha0 : 0 < a.length) (hb0 : 0 < b.length) : ACalls Try.prog 60 [.sl 1 [[ints a], [ints b]]] (ints (a ++ b)) := by
  refine acalls_st (rs := [ints (a ++ b)]) [.tmp 2] Try.func60 rfl (by kernel_rfl) Try.ntmps60 rfl (by simp) rfl fun C vs => ?_
  repeat refine awp_seq ?_
  refine awp_reg (by kernel_rfl) fun K hK => ?_
  simp only [go_sem]
  (try simp (disch := omega) only [wrapI])
  repeat first | intro _ | refine ⟨(by omega), ?_⟩ | refine ⟨⟨by omega, by omega⟩, ?_⟩
  refine hK _ ?_
  clear hK K
  repeat refine awp_seq ?_
  refine awp_reg (by kernel_rfl) fun K hK => ?_
  simp only [go_sem]
  (try simp (disch := omega) only [wrapI])
  repeat first | intro _ | refine ⟨(by omega), ?_⟩ | refine ⟨⟨by omega, by omega⟩, ?_⟩
  refine hK _ ?_
  clear hK K
  repeat refine awp_seq ?_
  refine awp_reg (by kernel_rfl) fun K hK => ?_
  simp only [go_sem]
  (try simp (disch := omega) only [wrapI])
  repeat first | intro _ | refine ⟨(by omega), ?_⟩ | refine ⟨⟨by omega, by omega⟩, ?_⟩
  refine hK _ ?_
  clear hK K
  repeat refine awp_seq ?_
  refine awp_block ?_
  refine awp_upto (n := 36) 2 (fun i vs => [(0, .r (.sl 1 [[ints a], [ints b]])), (9, .r (.sl 1 [[ints a], [ints b]])), (10, .r (i64 2)), (11, .r (i64 i)), (3, .r (i64 (if i = 0 then 0 else if i = 1 then a.length else a.length + b.length)))]) (fun _ => [])
    (fun _ => True) 0 (fit_of [] ?_ rfl) (Nat.zero_le _) trivial ?_
  · try simp only [go_sem]
  · intro i vs hi _
    have h3 : i = 0 ∨ i = 1 ∨ i = 2 := by omega
    rcases h3 with rfl | rfl | rfl
    · repeat refine awp_seq ?_
      refine awp_reg (by kernel_rfl) fun K hK => ?_
      simp only [go_sem]
      (try simp (disch := omega) only [wrapI])
      repeat first | intro _ | refine ⟨(by omega), ?_⟩ | refine ⟨⟨by omega, by omega⟩, ?_⟩
      refine hK _ ?_
      clear hK K
      repeat refine awp_seq ?_
      refine awp_cond rfl (fun hc => ?_) (fun hc => ?_) <;> (try simp only [go_sem] at hc)
      refine awp_skip ?_
      repeat refine awp_seq ?_
      refine awp_block ?_
      repeat refine awp_seq ?_
      refine awp_reg (by kernel_rfl) fun K hK => ?_
      simp only [go_sem]
      (try simp (disch := omega) only [wrapI])
      repeat first | intro _ | refine ⟨(by omega), ?_⟩ | refine ⟨⟨by omega, by omega⟩, ?_⟩
      refine hK _ ?_
      clear hK K
      repeat refine awp_seq ?_
      refine awp_reg (by kernel_rfl) fun K hK => ?_
      simp only [go_sem]
      (try simp (disch := omega) only [wrapI])
      intro _
      repeat first | intro _ | refine ⟨(by omega), ?_⟩ | refine ⟨⟨by omega, by omega⟩, ?_⟩
      refine hK _ ?_
      clear hK K
      repeat refine awp_seq ?_
      refine awp_reg (by kernel_rfl) fun K hK => ?_
      simp only [go_sem]
      (try simp (disch := omega) only [wrapI])
      repeat first | intro _ | refine ⟨(by omega), ?_⟩ | refine ⟨⟨by omega, by omega⟩, ?_⟩
      refine hK _ ?_
      clear hK K
      repeat refine awp_seq ?_
      refine awp_cond rfl (fun hc => ?_) (fun hc => ?_) <;> (try simp only [go_sem] at hc)
      · omega
      refine awp_skip ?_
      try simp only [go_sem]
      repeat refine awp_seq ?_
      refine awp_reg (by kernel_rfl) fun K hK => ?_
      simp only [go_sem]
      (try simp (disch := omega) only [wrapI])
      repeat first | intro _ | refine ⟨(by omega), ?_⟩ | refine ⟨⟨by omega, by omega⟩, ?_⟩
      refine hK _ ?_
      clear hK K
      try simp only [go_sem]
      refine fit_of [] ?_ rfl
      try simp only [go_sem]
    · repeat refine awp_seq ?_
      refine awp_reg (by kernel_rfl) fun K hK => ?_
      simp only [go_sem]
      (try simp (disch := omega) only [wrapI])
      repeat first | intro _ | refine ⟨(by omega), ?_⟩ | refine ⟨⟨by omega, by omega⟩, ?_⟩
      refine hK _ ?_
      clear hK K
      repeat refine awp_seq ?_
      refine awp_cond rfl (fun hc => ?_) (fun hc => ?_) <;> (try simp only [go_sem] at hc)
      refine awp_skip ?_
      repeat refine awp_seq ?_
      refine awp_block ?_
      repeat refine awp_seq ?_
      refine awp_reg (by kernel_rfl) fun K hK => ?_
      simp only [go_sem]
      (try simp (disch := omega) only [wrapI])
      repeat first | intro _ | refine ⟨(by omega), ?_⟩ | refine ⟨⟨by omega, by omega⟩, ?_⟩
      refine hK _ ?_
      clear hK K
      repeat refine awp_seq ?_
      refine awp_reg (by kernel_rfl) fun K hK => ?_
      simp only [go_sem]
      (try simp (disch := omega) only [wrapI])
      intro _
      repeat first | intro _ | refine ⟨(by omega), ?_⟩ | refine ⟨⟨by omega, by omega⟩, ?_⟩
      refine hK _ ?_
      clear hK K
      repeat refine awp_seq ?_
      refine awp_reg (by kernel_rfl) fun K hK => ?_
      simp only [go_sem]
      (try simp (disch := omega) only [wrapI])
      repeat first | intro _ | refine ⟨(by omega), ?_⟩ | refine ⟨⟨by omega, by omega⟩, ?_⟩
      refine hK _ ?_
      clear hK K
      repeat refine awp_seq ?_
      refine awp_cond rfl (fun hc => ?_) (fun hc => ?_) <;> (try simp only [go_sem] at hc)
      · omega
      refine awp_skip ?_
      try simp only [go_sem]
      repeat refine awp_seq ?_
      refine awp_reg (by kernel_rfl) fun K hK => ?_
      simp only [go_sem]
      (try simp (disch := omega) only [wrapI])
      repeat first | intro _ | refine ⟨(by omega), ?_⟩ | refine ⟨⟨by omega, by omega⟩, ?_⟩
      refine hK _ ?_
      clear hK K
      try simp only [go_sem]
      refine fit_of [] ?_ rfl
      try simp only [go_sem]
    · repeat refine awp_seq ?_
      refine awp_reg (by kernel_rfl) fun K hK => ?_
      simp only [go_sem]
      (try simp (disch := omega) only [wrapI])
      repeat first | intro _ | refine ⟨(by omega), ?_⟩ | refine ⟨⟨by omega, by omega⟩, ?_⟩
      refine hK _ ?_
      clear hK K
      repeat refine awp_seq ?_
      refine awp_cond rfl (fun hc => ?_) (fun hc => ?_) <;> (try simp only [go_sem] at hc)
      refine awp_exit ?_
      simp only [go_sem]
      repeat refine awp_seq ?_
      refine awp_reg (by kernel_rfl) fun K hK => ?_
      simp only [go_sem]
      (try simp (disch := omega) only [wrapI])
      refine xcall_own (grow_ok (a.length + b.length) (by omega) (by omega)) rfl (by simp only [go_sem, i64, ints]) (by simp only [go_sem, i64, ints]) (by decide) (by intro h; first | (cases h; done) | rfl) ?_
      (try simp only [go_sem])
      (try simp (disch := omega) only [wrapI])
      repeat first | intro _ | refine ⟨(by omega), ?_⟩ | refine ⟨⟨by omega, by omega⟩, ?_⟩
      refine hK _ ?_
      clear hK K
      repeat refine awp_seq ?_
      refine awp_reg (by kernel_rfl) fun K hK => ?_
      simp only [go_sem]
      (try simp (disch := omega) only [wrapI])
      repeat first | intro _ | refine ⟨(by omega), ?_⟩ | refine ⟨⟨by omega, by omega⟩, ?_⟩
      refine hK _ ?_
      clear hK K
      repeat refine awp_seq ?_
      refine awp_block ?_
      have e1 : (0 = a.length + b.length) = False := by
        have : ¬ 0 = a.length + b.length := by omega
        simp only [this]
      have e2 : (a.length = a.length + b.length) = False := by
        have : ¬ a.length = a.length + b.length := by omega
        simp only [this]
      refine awp_upto (n := 36) 2 (fun i vs => [(0, .r (.sl 1 [[ints a], [ints b]])), (25, .r (.sl 1 [[ints a], [ints b]])), (26, .r (i64 2)), (27, .r (i64 i)), (6, .os 24 (vs 24) 1 0 (if i = 0 then 0 else if i = 1 then a.length else a.length + b.length))])
        (fun i => [(24, .arr 3 1 (if i = 0 then List.replicate (a.length + b.length) [i64 0] else if i = 1 then (a.map fun x => [i64 x]) ++ List.replicate b.length [i64 0] else (a ++ b).map fun x => [i64 x]))])
        (fun _ => True) 0 (fit_of [] ?_ ?_) (Nat.zero_le _) trivial ?_
      · try simp only [go_sem]
      · try simp only [go_sem]
      · intro i vs hi _
        have h3 : i = 0 ∨ i = 1 ∨ i = 2 := by omega
        rcases h3 with rfl | rfl | rfl
        · repeat refine awp_seq ?_
          refine awp_reg (by kernel_rfl) fun K hK => ?_
          simp only [go_sem]
          (try simp (disch := omega) only [wrapI])
          repeat first | intro _ | refine ⟨(by omega), ?_⟩ | refine ⟨⟨by omega, by omega⟩, ?_⟩
          refine hK _ ?_
          clear hK K
          repeat refine awp_seq ?_
          refine awp_cond rfl (fun hc => ?_) (fun hc => ?_) <;> (try simp only [go_sem] at hc)
          refine awp_skip ?_
          repeat refine awp_seq ?_
          refine awp_block ?_
          repeat refine awp_seq ?_
          refine awp_reg (by kernel_rfl) fun K hK => ?_
          simp only [go_sem]
          (try simp (disch := omega) only [wrapI])
          repeat first | intro _ | refine ⟨(by omega), ?_⟩ | refine ⟨⟨by omega, by omega⟩, ?_⟩
          refine hK _ ?_
          clear hK K
          repeat refine awp_seq ?_
          refine awp_reg (by kernel_rfl) fun K hK => ?_
          simp only [go_sem, e1]
          (try simp (disch := omega) only [wrapI])
          refine ⟨by omega, ?_⟩
          repeat first | intro _ | refine ⟨(by omega), ?_⟩ | refine ⟨⟨by omega, by omega⟩, ?_⟩
          refine hK _ ?_
          clear hK K
          try simp only [go_sem]
          repeat refine awp_seq ?_
          refine awp_reg (by kernel_rfl) fun K hK => ?_
          simp only [go_sem]
          (try simp (disch := omega) only [wrapI])
          repeat first | intro _ | refine ⟨(by omega), ?_⟩ | refine ⟨⟨by omega, by omega⟩, ?_⟩
          refine hK _ ?_
          clear hK K
          try simp only [go_sem]
          refine fit_of [] ?_ ?_ <;> try simp only [go_sem]
        · repeat refine awp_seq ?_
          refine awp_reg (by kernel_rfl) fun K hK => ?_
          simp only [go_sem]
          (try simp (disch := omega) only [wrapI])
          repeat first | intro _ | refine ⟨(by omega), ?_⟩ | refine ⟨⟨by omega, by omega⟩, ?_⟩
          refine hK _ ?_
          clear hK K
          repeat refine awp_seq ?_
          refine awp_cond rfl (fun hc => ?_) (fun hc => ?_) <;> (try simp only [go_sem] at hc)
          refine awp_skip ?_
          repeat refine awp_seq ?_
          refine awp_block ?_
          repeat refine awp_seq ?_
          refine awp_reg (by kernel_rfl) fun K hK => ?_
          simp only [go_sem]
          (try simp (disch := omega) only [wrapI])
          repeat first | intro _ | refine ⟨(by omega), ?_⟩ | refine ⟨⟨by omega, by omega⟩, ?_⟩
          refine hK _ ?_
          clear hK K
          repeat refine awp_seq ?_
          refine awp_reg (by kernel_rfl) fun K hK => ?_
          simp only [go_sem, e2, List.length_append]
          (try simp (disch := omega) only [wrapI])
          try refine ⟨by simp, ?_⟩
          repeat first | intro _ | refine ⟨(by omega), ?_⟩ | refine ⟨⟨by omega, by omega⟩, ?_⟩
          refine hK _ ?_
          clear hK K
          try simp only [go_sem]
          repeat refine awp_seq ?_
          refine awp_reg (by kernel_rfl) fun K hK => ?_
          simp only [go_sem]
          (try simp (disch := omega) only [wrapI])
          repeat first | intro _ | refine ⟨(by omega), ?_⟩ | refine ⟨⟨by omega, by omega⟩, ?_⟩
          refine hK _ ?_
          clear hK K
          try simp only [go_sem]
          refine fit_of [] ?_ ?_
          · try simp only [go_sem]
          · simp [killC]
        · repeat refine awp_seq ?_
          refine awp_reg (by kernel_rfl) fun K hK => ?_
          simp only [go_sem]
          (try simp (disch := omega) only [wrapI])
          repeat first | intro _ | refine ⟨(by omega), ?_⟩ | refine ⟨⟨by omega, by omega⟩, ?_⟩
          refine hK _ ?_
          clear hK K
          repeat refine awp_seq ?_
          refine awp_cond rfl (fun hc => ?_) (fun hc => ?_) <;> (try simp only [go_sem] at hc)
          refine awp_exit ?_
          simp only [go_sem]
          repeat refine awp_seq ?_
          refine awp_reg (by kernel_rfl) fun K hK => ?_
          simp only [go_sem]
          (try simp (disch := omega) only [wrapI])
          repeat first | intro _ | refine ⟨(by omega), ?_⟩ | refine ⟨⟨by omega, by omega⟩, ?_⟩
          refine hK _ ?_
          clear hK K
          refine awp_ret ?_
          simp only [go_sem]
          rw [List.map_append, List.take_of_length_le (by simp)]
          simp
/-- slices.Delete of one element, in place. -/
theorem delete_ok (l : List Int) (d : Nat) (hd : d < l.length) (hl : l.length ≤ 1000) : MCalls Try.prog 59 [(1000, .arr 3 1 (l.map fun x => [i64 x]))] [(1000, .arr 3 1 ((l.eraseIdx d ++ [0]).map fun x => [i64 x]))] [.os 1000 0 1 0 l.length, .r (i64 d), .r (i64 (d + 1))] (.os 1000 0 1 0 (l.length - 1)) := by
  refine mcalls_st (n := 33) (rs := [.os 1000 0 1 0 (l.length - 1)]) _ _ [.tmp 6] Try.func59 rfl (by kernel_rfl) Try.ntmps59 rfl (by simp) rfl rfl fun C => ?_
  repeat refine awp_seq ?_
  refine awp_reg (by kernel_rfl) fun K hK => ?_
  simp only [go_sem]
  (try simp (disch := omega) only [wrapI])
  repeat first | intro _ | refine ⟨(by omega), ?_⟩ | refine ⟨⟨by omega, by omega⟩, ?_⟩
  refine hK _ ?_
  clear hK K
  repeat refine awp_seq ?_
  refine awp_reg (by kernel_rfl) fun K hK => ?_
  simp only [go_sem]
  (try simp (disch := omega) only [wrapI])
  intro hlen
  refine ⟨by omega, ?_⟩
  repeat first | intro _ | refine ⟨(by omega), ?_⟩ | refine ⟨⟨by omega, by omega⟩, ?_⟩
  refine hK _ ?_
  clear hK K
  repeat refine awp_seq ?_
  refine awp_reg (by kernel_rfl) fun K hK => ?_
  simp only [go_sem]
  (try simp (disch := omega) only [wrapI])
  repeat first | intro _ | refine ⟨(by omega), ?_⟩ | refine ⟨⟨by omega, by omega⟩, ?_⟩
  refine hK _ ?_
  clear hK K
  repeat refine awp_seq ?_
  refine awp_cond rfl (fun hc => ?_) (fun hc => ?_) <;> (try simp only [go_sem] at hc)
  · omega
  have e1 : (d = l.length) = False := by
    have : ¬ d = l.length := by omega
    simp only [this]
  refine awp_skip ?_
  try simp only [go_sem]
  repeat refine awp_seq ?_
  refine awp_reg (by kernel_rfl) fun K hK => ?_
  simp only [go_sem]
  (try simp (disch := omega) only [wrapI])
  intro _
  repeat first | intro _ | refine ⟨(by omega), ?_⟩ | refine ⟨⟨by omega, by omega⟩, ?_⟩
  refine hK _ ?_
  clear hK K
  repeat refine awp_seq ?_
  refine awp_dreg follows (by decide +kernel) (by kernel_rfl) fun K hK => ?_
  simp only [go_sem, e1]
  (try simp (disch := omega) only [wrapI])
  have hm : d + min (l.length - (d + 1)) (l.length - (d + 1)) = l.length - 1 := by omega
  have hc2 : (l.map fun x => [i64 x]).take d ++ (((l.map fun x => [i64 x]).drop (d + 1)).take (l.length - (d + 1)) ++ (l.map fun x => [i64 x]).drop (l.length - 1)) = (l.eraseIdx d ++ l.drop (l.length - 1)).map fun x => [i64 x] := by
    rw [List.take_of_length_le (l := (l.map fun x => [i64 x]).drop (d + 1)) (by simp), List.eraseIdx_eq_take_drop_succ, ← List.append_assoc]
    simp
  rw [hm, hc2]
  refine ⟨by omega, by omega, by omega, ?_⟩
  repeat first | intro _ | refine ⟨(by omega), ?_⟩ | refine ⟨⟨by omega, by omega⟩, ?_⟩
  refine hK _ ?_
  clear hK K
  repeat refine awp_seq ?_
  refine awp_reg (by kernel_rfl) fun K hK => ?_
  simp only [go_sem]
  (try simp (disch := omega) only [wrapI])
  have hel : (l.eraseIdx d).length = l.length - 1 := by rw [List.length_eraseIdx]; simp [hd]
  have hl1 : l.length - (l.length - 1) = 1 := by omega
  have hl2 : (l.eraseIdx d ++ l.drop (l.length - 1)).length = l.length := by rw [List.length_append, hel, List.length_drop]; omega
  have hc3 : ((l.eraseIdx d ++ l.drop (l.length - 1)).map fun x => [i64 x]).take (l.length - 1) ++ ([[i64 0]] ++ ((l.eraseIdx d ++ l.drop (l.length - 1)).map fun x => [i64 x]).drop (l.length - 1 + 1)) = (l.eraseIdx d ++ [0]).map fun x => [i64 x] := by
    have h1 : ((l.eraseIdx d ++ l.drop (l.length - 1)).map fun x => [i64 x]).drop (l.length - 1 + 1) = [] := List.drop_eq_nil_of_le (by rw [List.length_map, hl2]; omega)
    have h2 : ((l.eraseIdx d ++ l.drop (l.length - 1)).map fun x => [i64 x]).take (l.length - 1) = (l.eraseIdx d).map fun x => [i64 x] := by
      rw [List.map_append, List.take_append, List.take_of_length_le (by rw [List.length_map, hel]; omega), List.length_map, hel]
      simp
    rw [h1, h2]
    simp
  rw [hl1, hl2]
  intro _
  refine ⟨⟨by omega, .inr (by omega)⟩, ⟨by omega, by omega⟩, ?_⟩
  simp only [List.replicate_succ, List.replicate_zero]
  rw [hc3]
  repeat first | intro _ | refine ⟨(by omega), ?_⟩ | refine ⟨⟨by omega, by omega⟩, ?_⟩
  refine hK _ ?_
  clear hK K
  repeat refine awp_seq ?_
  refine awp_reg (by kernel_rfl) fun K hK => ?_
  simp only [go_sem]
  (try simp (disch := omega) only [wrapI])
  repeat first | intro _ | refine ⟨(by omega), ?_⟩ | refine ⟨⟨by omega, by omega⟩, ?_⟩
  refine hK _ ?_
  clear hK K
  refine awp_ret ?_
  simp only [go_sem]
end Go.Proofs.Ytnklbfmdojpfkaa

/- What the starts of both sides are, by the program and by the document. -/
namespace Go.Proofs.Ytnklbfmdojpfkaa
open Go Go.Oc
set_option linter.unusedSimpArgs false
set_option linter.unusedVariables false
set_option maxRecDepth 8000
def startV (s p l w : Int) : Int := max l (s - p * max 0 w)
theorem start_mul {p w : Int} (hp : 0 ≤ p) (hp' : p ≤ 1001) (hw' : w ≤ 2000) : 0 ≤ p * max 0 w ∧ p * max 0 w ≤ 2002000 := by
  have h0 : 0 ≤ max 0 w := by omega
  have h1 : max 0 w ≤ 2000 := by omega
  refine ⟨Int.mul_nonneg hp h0, ?_⟩
  have := Int.mul_le_mul hp' h1 h0 (by omega)
  omega
theorem start_ok (s p l w : Int) (hs : 2 ≤ s) (hs' : s ≤ 1001) (hp : 0 ≤ p) (hp' : p ≤ 1001) (hl : 2 ≤ l) (hl' : l ≤ s) (hw : -2000 ≤ w) (hw' : w ≤ 2000) : ACalls Try.prog 62 [.ag [i64 s, i64 p, i64 l], i64 w] (i64 (startV s p l w)) := by
  obtain ⟨h1, h2⟩ := start_mul (w := w) hp hp' hw'
  refine acalls_st (rs := [i64 (startV s p l w)]) [.tmp 4] Try.func62 rfl (by kernel_rfl) Try.ntmps62 rfl (by simp) rfl fun C vs => ?_
  repeat refine awp_seq ?_
  refine awp_reg (by kernel_rfl) fun K hK => ?_
  simp only [go_sem]
  (try simp (disch := omega) only [wrapI])
  repeat first | intro _ | refine ⟨(by omega), ?_⟩ | refine ⟨⟨by omega, by omega⟩, ?_⟩
  refine hK _ ?_
  clear hK K
  repeat refine awp_seq ?_
  refine awp_reg (by kernel_rfl) fun K hK => ?_
  simp only [go_sem]
  (try simp (disch := omega) only [wrapI])
  repeat first | intro _ | refine ⟨(by omega), ?_⟩ | refine ⟨⟨by omega, by omega⟩, ?_⟩
  refine hK _ ?_
  clear hK K
  refine awp_ret ?_
  simp only [go_sem]
  rfl
/-- What both sides start from, with the error. -/
def startsL (s p l : Int) (a b : List Int) : Int × Int × Int :=
  if (withinL 2 1001 [s] && withinL 0 1001 [p] && withinL 2 s [l]) = false then (0, 0, 2)
  else if (decide (a.length = b.length) && withinL 1 2 [(a.length : Int)]) = false then (0, 0, 4)
  else if (withinL 0 99 a && withinL 0 99 b) = false then (0, 0, 2)
  else (startV s p l (b.sum - a.sum), startV s p l (a.sum - b.sum), 0)
abbrev res3 (x : Int × Int × Int) : List RV := [i64 x.1, i64 x.2.1, i64 x.2.2]
theorem withinL_one {a b n : Int} (h : withinL a b [n] = true) : a ≤ n ∧ n ≤ b := by simpa [withinL] using h
theorem withinL_mem {a b : Int} {l : List Int} (h : withinL a b l = true) : ∀ x ∈ l, a ≤ x ∧ x ≤ b := fun x hx => by
  have := List.all_eq_true.1 h x hx
  simpa using this
theorem starts_ok (s p l : Int) (a b : List Int) (ha : a.length ≤ 5) (hb : b.length ≤ 5) : ACalls Try.prog 32 [.ag [i64 s, i64 p, i64 l], ints a, ints b] (.tu (res3 (startsL s p l a b))) := by
  refine acalls_st (rs := res3 (startsL s p l a b)) [.tmp 6, .tmp 7, .tmp 8] Try.func32 rfl (by kernel_rfl) Try.ntmps32 rfl (by simp) rfl fun C vs => ?_
  repeat refine awp_seq ?_
  refine awp_reg (by kernel_rfl) fun K hK => ?_
  simp only [go_sem]
  (try simp (disch := omega) only [wrapI])
  repeat first | intro _ | refine ⟨(by omega), ?_⟩ | refine ⟨⟨by omega, by omega⟩, ?_⟩
  refine hK _ ?_
  clear hK K
  repeat refine awp_seq ?_
  refine awp_block ?_
  repeat refine awp_seq ?_
  refine awp_reg (by kernel_rfl) fun K hK => ?_
  simp only [go_sem]
  (try simp (disch := omega) only [wrapI])
  refine xcall_eq (within_ok 2 1001 [s]) rfl (by simp only [go_sem, i64, ints]) (by simp only [go_sem, i64, ints]) (by first | exact .inl rfl | exact .inr rfl) ?_
  (try simp only [go_sem])
  (try simp (disch := omega) only [wrapI])
  repeat first | intro _ | refine ⟨(by omega), ?_⟩ | refine ⟨⟨by omega, by omega⟩, ?_⟩
  refine hK _ ?_
  clear hK K
  cases h1 : withinL 2 1001 [s]
  · repeat refine awp_seq ?_
    refine awp_cond rfl (fun hc => ?_) (fun hc => ?_) <;> (try simp only [go_sem] at hc)
    refine awp_skip ?_
    try simp only [go_sem]
    repeat refine awp_seq ?_
    refine awp_cond rfl (fun hc => ?_) (fun hc => ?_) <;> (try simp only [go_sem] at hc)
    repeat refine awp_seq ?_
    refine awp_reg (by kernel_rfl) fun K hK => ?_
    simp only [go_sem]
    (try simp (disch := omega) only [wrapI])
    repeat first | intro _ | refine ⟨(by omega), ?_⟩ | refine ⟨⟨by omega, by omega⟩, ?_⟩
    refine hK _ ?_
    clear hK K
    refine awp_ret ?_
    simp only [go_sem]
    simp [startsL, h1]
  repeat refine awp_seq ?_
  refine awp_cond rfl (fun hc => ?_) (fun hc => ?_) <;> (try simp only [go_sem] at hc)
  repeat refine awp_seq ?_
  refine awp_reg (by kernel_rfl) fun K hK => ?_
  simp only [go_sem]
  (try simp (disch := omega) only [wrapI])
  refine xcall_eq (within_ok 0 1001 [p]) rfl (by simp only [go_sem, i64, ints]) (by simp only [go_sem, i64, ints]) (by first | exact .inl rfl | exact .inr rfl) ?_
  (try simp only [go_sem])
  (try simp (disch := omega) only [wrapI])
  repeat first | intro _ | refine ⟨(by omega), ?_⟩ | refine ⟨⟨by omega, by omega⟩, ?_⟩
  refine hK _ ?_
  clear hK K
  cases h2 : withinL 0 1001 [p]
  · repeat refine awp_seq ?_
    refine awp_cond rfl (fun hc => ?_) (fun hc => ?_) <;> (try simp only [go_sem] at hc)
    refine awp_skip ?_
    try simp only [go_sem]
    repeat refine awp_seq ?_
    refine awp_cond rfl (fun hc => ?_) (fun hc => ?_) <;> (try simp only [go_sem] at hc)
    repeat refine awp_seq ?_
    refine awp_reg (by kernel_rfl) fun K hK => ?_
    simp only [go_sem]
    (try simp (disch := omega) only [wrapI])
    repeat first | intro _ | refine ⟨(by omega), ?_⟩ | refine ⟨⟨by omega, by omega⟩, ?_⟩
    refine hK _ ?_
    clear hK K
    refine awp_ret ?_
    simp only [go_sem]
    simp [startsL, h1, h2]
  repeat refine awp_seq ?_
  refine awp_cond rfl (fun hc => ?_) (fun hc => ?_) <;> (try simp only [go_sem] at hc)
  repeat refine awp_seq ?_
  refine awp_reg (by kernel_rfl) fun K hK => ?_
  simp only [go_sem]
  (try simp (disch := omega) only [wrapI])
  refine xcall_eq (within_ok 2 s [l]) rfl (by simp only [go_sem, i64, ints]) (by simp only [go_sem, i64, ints]) (by first | exact .inl rfl | exact .inr rfl) ?_
  (try simp only [go_sem])
  (try simp (disch := omega) only [wrapI])
  repeat first | intro _ | refine ⟨(by omega), ?_⟩ | refine ⟨⟨by omega, by omega⟩, ?_⟩
  refine hK _ ?_
  clear hK K
  cases h3 : withinL 2 s [l]
  · try simp only [go_sem]
    repeat refine awp_seq ?_
    refine awp_cond rfl (fun hc => ?_) (fun hc => ?_) <;> (try simp only [go_sem] at hc)
    repeat refine awp_seq ?_
    refine awp_reg (by kernel_rfl) fun K hK => ?_
    simp only [go_sem]
    (try simp (disch := omega) only [wrapI])
    repeat first | intro _ | refine ⟨(by omega), ?_⟩ | refine ⟨⟨by omega, by omega⟩, ?_⟩
    refine hK _ ?_
    clear hK K
    refine awp_ret ?_
    simp only [go_sem]
    simp [startsL, h1, h2, h3]
  try simp only [go_sem]
  repeat refine awp_seq ?_
  refine awp_cond rfl (fun hc => ?_) (fun hc => ?_) <;> (try simp only [go_sem] at hc)
  repeat refine awp_seq ?_
  refine awp_reg (by kernel_rfl) fun K hK => ?_
  simp only [go_sem]
  (try simp (disch := omega) only [wrapI])
  intro _ _
  repeat first | intro _ | refine ⟨(by omega), ?_⟩ | refine ⟨⟨by omega, by omega⟩, ?_⟩
  refine hK _ ?_
  clear hK K
  by_cases h4 : a.length = b.length
  case neg =>
    have e4 : ((a.length : Int) != b.length) = true := by simp; omega
    rw [e4]
    repeat refine awp_seq ?_
    refine awp_cond rfl (fun hc => ?_) (fun hc => ?_) <;> (try simp only [go_sem] at hc)
    refine awp_skip ?_
    try simp only [go_sem]
    repeat refine awp_seq ?_
    refine awp_cond rfl (fun hc => ?_) (fun hc => ?_) <;> (try simp only [go_sem] at hc)
    repeat refine awp_seq ?_
    refine awp_reg (by kernel_rfl) fun K hK => ?_
    simp only [go_sem]
    (try simp (disch := omega) only [wrapI])
    repeat first | intro _ | refine ⟨(by omega), ?_⟩ | refine ⟨⟨by omega, by omega⟩, ?_⟩
    refine hK _ ?_
    clear hK K
    refine awp_ret ?_
    simp only [go_sem]
    simp [startsL, h1, h2, h3, h4]
  have e4 : ((a.length : Int) != b.length) = false := by simp [h4]
  rw [e4]
  repeat refine awp_seq ?_
  refine awp_cond rfl (fun hc => ?_) (fun hc => ?_) <;> (try simp only [go_sem] at hc)
  repeat refine awp_seq ?_
  refine awp_reg (by kernel_rfl) fun K hK => ?_
  simp only [go_sem]
  (try simp (disch := omega) only [wrapI])
  intro _
  refine xcall_eq (within_ok 1 2 [(a.length : Int)]) rfl (by simp only [go_sem, i64, ints]) (by simp only [go_sem, i64, ints]) (by first | exact .inl rfl | exact .inr rfl) ?_
  (try simp only [go_sem])
  (try simp (disch := omega) only [wrapI])
  repeat first | intro _ | refine ⟨(by omega), ?_⟩ | refine ⟨⟨by omega, by omega⟩, ?_⟩
  refine hK _ ?_
  clear hK K
  have hb5 : withinL 1 2 [(b.length : Int)] = withinL 1 2 [(a.length : Int)] := by rw [h4]
  cases h5 : withinL 1 2 [(a.length : Int)]
  · rw [h5] at hb5
    try simp only [go_sem]
    repeat refine awp_seq ?_
    refine awp_cond rfl (fun hc => ?_) (fun hc => ?_) <;> (try simp only [go_sem] at hc)
    repeat refine awp_seq ?_
    refine awp_reg (by kernel_rfl) fun K hK => ?_
    simp only [go_sem]
    (try simp (disch := omega) only [wrapI])
    repeat first | intro _ | refine ⟨(by omega), ?_⟩ | refine ⟨⟨by omega, by omega⟩, ?_⟩
    refine hK _ ?_
    clear hK K
    refine awp_ret ?_
    simp only [go_sem]
    simp [startsL, h1, h2, h3, h4, hb5]
  rw [h5] at hb5
  try simp only [go_sem]
  repeat refine awp_seq ?_
  refine awp_cond rfl (fun hc => ?_) (fun hc => ?_) <;> (try simp only [go_sem] at hc)
  have h5' := withinL_one h5
  repeat refine awp_seq ?_
  refine awp_reg (by kernel_rfl) fun K hK => ?_
  simp only [go_sem]
  (try simp (disch := omega) only [wrapI])
  refine xcall_eq (concat_ok a b (by omega) (by omega) (by omega) (by omega)) rfl (by simp only [go_sem, i64, ints]) (by simp only [go_sem, i64, ints]) (by first | exact .inl rfl | exact .inr rfl) ?_
  (try simp only [go_sem])
  (try simp (disch := omega) only [wrapI])
  refine xcall_eq (within_ok 0 99 (a ++ b)) rfl (by simp only [go_sem, i64, ints]) (by simp only [go_sem, i64, ints]) (by first | exact .inl rfl | exact .inr rfl) ?_
  (try simp only [go_sem])
  (try simp (disch := omega) only [wrapI])
  repeat first | intro _ | refine ⟨(by omega), ?_⟩ | refine ⟨⟨by omega, by omega⟩, ?_⟩
  refine hK _ ?_
  clear hK K
  have e6 : withinL 0 99 (a ++ b) = (withinL 0 99 a && withinL 0 99 b) := by simp [withinL]
  rw [e6]
  cases h6 : (withinL 0 99 a && withinL 0 99 b)
  · repeat refine awp_seq ?_
    refine awp_cond rfl (fun hc => ?_) (fun hc => ?_) <;> (try simp only [go_sem] at hc)
    repeat refine awp_seq ?_
    refine awp_reg (by kernel_rfl) fun K hK => ?_
    simp only [go_sem]
    (try simp (disch := omega) only [wrapI])
    repeat first | intro _ | refine ⟨(by omega), ?_⟩ | refine ⟨⟨by omega, by omega⟩, ?_⟩
    refine hK _ ?_
    clear hK K
    refine awp_ret ?_
    simp only [go_sem]
    simp [startsL, h1, h2, h3, h4, hb5, h6]
  repeat refine awp_seq ?_
  refine awp_cond rfl (fun hc => ?_) (fun hc => ?_) <;> (try simp only [go_sem] at hc)
  refine awp_skip ?_
  try simp only [go_sem]
  simp only [Bool.and_eq_true] at h6
  have ga := withinL_mem h6.1
  have gb := withinL_mem h6.2
  have ha' : ∀ x ∈ a, 0 ≤ x ∧ x ≤ 1000 := fun x hx => ⟨(ga x hx).1, by have := (ga x hx).2; omega⟩
  have hb' : ∀ x ∈ b, 0 ≤ x ∧ x ≤ 1000 := fun x hx => ⟨(gb x hx).1, by have := (gb x hx).2; omega⟩
  have sa := sum_le 1000 a ha'
  have sb := sum_le 1000 b hb'
  have g1 := withinL_one h1
  have g2 := withinL_one h2
  have g3 := withinL_one h3
  repeat refine awp_seq ?_
  refine awp_reg (by kernel_rfl) fun K hK => ?_
  simp only [go_sem]
  (try simp (disch := omega) only [wrapI])
  refine xcall_eq (total_ok a (by omega) ha') rfl (by simp only [go_sem, i64, ints]) (by simp only [go_sem, i64, ints]) (by first | exact .inl rfl | exact .inr rfl) ?_
  (try simp only [go_sem])
  (try simp (disch := omega) only [wrapI])
  refine xcall_eq (total_ok b (by omega) hb') rfl (by simp only [go_sem, i64, ints]) (by simp only [go_sem, i64, ints]) (by first | exact .inl rfl | exact .inr rfl) ?_
  (try simp only [go_sem])
  (try simp (disch := omega) only [wrapI])
  repeat first | intro _ | refine ⟨(by omega), ?_⟩ | refine ⟨⟨by omega, by omega⟩, ?_⟩
  refine hK _ ?_
  clear hK K
  repeat refine awp_seq ?_
  refine awp_dreg follows (by decide +kernel) (by kernel_rfl) fun K hK => ?_
  simp only [go_sem]
  (try simp (disch := omega) only [wrapI])
  have e7 : (0 : Int) - (a.sum - b.sum) = b.sum - a.sum := by omega
  refine xcall_eq (start_ok s p l (0 - (a.sum - b.sum)) (by omega) (by omega) (by omega) (by omega) (by omega) (by omega) (by omega) (by omega)) rfl (by simp only [go_sem, i64, ints]) (by simp only [go_sem, i64, ints]) (by first | exact .inl rfl | exact .inr rfl) ?_
  (try simp only [go_sem])
  (try simp (disch := omega) only [wrapI])
  refine xcall_eq (start_ok s p l (a.sum - b.sum) (by omega) (by omega) (by omega) (by omega) (by omega) (by omega) (by omega) (by omega)) rfl (by simp only [go_sem, i64, ints]) (by simp only [go_sem, i64, ints]) (by first | exact .inl rfl | exact .inr rfl) ?_
  (try simp only [go_sem])
  (try simp (disch := omega) only [wrapI])
  repeat first | intro _ | refine ⟨(by omega), ?_⟩ | refine ⟨⟨by omega, by omega⟩, ?_⟩
  refine hK _ ?_
  clear hK K
  refine awp_ret ?_
  simp only [go_sem]
  simp [startsL, h1, h2, h3, h4, hb5, h6, e7]
theorem in1_ok (n a b : Int) : ACalls Try.prog 22 [i64 n, i64 a, i64 b] (.bo (withinL a b [n])) := by
  have e : withinL a b [n] = (decide (a ≤ n) && decide (n ≤ b)) := by simp [withinL]
  rw [e]
  exact in_ok n a b
theorem withinL_take_all {a b : Int} {l : List Int} {i : Nat} (h : withinL a b (l.take i) = true) (hi : l.length ≤ i) : withinL a b l = true := by rwa [List.take_of_length_le hi] at h
theorem withinL_bad {a b : Int} {l : List Int} {x : Int} (hx : x ∈ l) (h : withinL a b [x] = false) : withinL a b l = false := by
  refine Bool.eq_false_iff.2 fun hl => ?_
  have := withinL_mem hl x hx
  simp [withinL] at h
  omega
theorem refStarts_ok (s p l : Int) (a b : List Int) (ha : a.length ≤ 5) (hb : b.length ≤ 5) : ACalls Try.prog 33 [.ag [i64 s, i64 p, i64 l], ints a, ints b] (.tu (res3 (startsL s p l a b))) := by
  refine acalls_st (rs := res3 (startsL s p l a b)) [.tmp 6, .tmp 7, .tmp 8] Try.func33 rfl (by kernel_rfl) Try.ntmps33 rfl (by simp) rfl fun C vs => ?_
  repeat refine awp_seq ?_
  refine awp_reg (by kernel_rfl) fun K hK => ?_
  simp only [go_sem]
  (try simp (disch := omega) only [wrapI])
  repeat first | intro _ | refine ⟨(by omega), ?_⟩ | refine ⟨⟨by omega, by omega⟩, ?_⟩
  refine hK _ ?_
  clear hK K
  repeat refine awp_seq ?_
  refine awp_reg (by kernel_rfl) fun K hK => ?_
  simp only [go_sem]
  (try simp (disch := omega) only [wrapI])
  refine xcall_eq (in1_ok s 2 1001) rfl (by simp only [go_sem, i64, ints]) (by simp only [go_sem, i64, ints]) (by first | exact .inl rfl | exact .inr rfl) ?_
  (try simp only [go_sem])
  (try simp (disch := omega) only [wrapI])
  cases h1 : withinL 2 1001 [s]
  · try simp only [go_sem]
    repeat first | intro _ | refine ⟨(by omega), ?_⟩ | refine ⟨⟨by omega, by omega⟩, ?_⟩
    refine hK _ ?_
    clear hK K
    repeat refine awp_seq ?_
    refine awp_cond rfl (fun hc => ?_) (fun hc => ?_) <;> (try simp only [go_sem] at hc)
    repeat refine awp_seq ?_
    refine awp_reg (by kernel_rfl) fun K hK => ?_
    simp only [go_sem]
    (try simp (disch := omega) only [wrapI])
    repeat first | intro _ | refine ⟨(by omega), ?_⟩ | refine ⟨⟨by omega, by omega⟩, ?_⟩
    refine hK _ ?_
    clear hK K
    refine awp_ret ?_
    simp only [go_sem]
    simp [startsL, h1]
  try simp only [go_sem]
  refine xcall_eq (in1_ok p 0 1001) rfl (by simp only [go_sem, i64, ints]) (by simp only [go_sem, i64, ints]) (by first | exact .inl rfl | exact .inr rfl) ?_
  (try simp only [go_sem])
  (try simp (disch := omega) only [wrapI])
  cases h2 : withinL 0 1001 [p]
  · try simp only [go_sem]
    repeat first | intro _ | refine ⟨(by omega), ?_⟩ | refine ⟨⟨by omega, by omega⟩, ?_⟩
    refine hK _ ?_
    clear hK K
    repeat refine awp_seq ?_
    refine awp_cond rfl (fun hc => ?_) (fun hc => ?_) <;> (try simp only [go_sem] at hc)
    repeat refine awp_seq ?_
    refine awp_reg (by kernel_rfl) fun K hK => ?_
    simp only [go_sem]
    (try simp (disch := omega) only [wrapI])
    repeat first | intro _ | refine ⟨(by omega), ?_⟩ | refine ⟨⟨by omega, by omega⟩, ?_⟩
    refine hK _ ?_
    clear hK K
    refine awp_ret ?_
    simp only [go_sem]
    simp [startsL, h1, h2]
  try simp only [go_sem]
  refine xcall_eq (in1_ok l 2 s) rfl (by simp only [go_sem, i64, ints]) (by simp only [go_sem, i64, ints]) (by first | exact .inl rfl | exact .inr rfl) ?_
  (try simp only [go_sem])
  (try simp (disch := omega) only [wrapI])
  cases h3 : withinL 2 s [l]
  · try simp only [go_sem]
    repeat first | intro _ | refine ⟨(by omega), ?_⟩ | refine ⟨⟨by omega, by omega⟩, ?_⟩
    refine hK _ ?_
    clear hK K
    repeat refine awp_seq ?_
    refine awp_cond rfl (fun hc => ?_) (fun hc => ?_) <;> (try simp only [go_sem] at hc)
    repeat refine awp_seq ?_
    refine awp_reg (by kernel_rfl) fun K hK => ?_
    simp only [go_sem]
    (try simp (disch := omega) only [wrapI])
    repeat first | intro _ | refine ⟨(by omega), ?_⟩ | refine ⟨⟨by omega, by omega⟩, ?_⟩
    refine hK _ ?_
    clear hK K
    refine awp_ret ?_
    simp only [go_sem]
    simp [startsL, h1, h2, h3]
  try simp only [go_sem]
  repeat first | intro _ | refine ⟨(by omega), ?_⟩ | refine ⟨⟨by omega, by omega⟩, ?_⟩
  refine hK _ ?_
  clear hK K
  repeat refine awp_seq ?_
  refine awp_cond rfl (fun hc => ?_) (fun hc => ?_) <;> (try simp only [go_sem] at hc)
  refine awp_skip ?_
  try simp only [go_sem]
  repeat refine awp_seq ?_
  refine awp_reg (by kernel_rfl) fun K hK => ?_
  simp only [go_sem]
  (try simp (disch := omega) only [wrapI])
  intro _ _
  by_cases h4 : a.length = b.length
  case neg =>
    have e4 : ((a.length : Int) != b.length) = true := by simp; omega
    rw [e4]
    try simp only [go_sem]
    repeat first | intro _ | refine ⟨(by omega), ?_⟩ | refine ⟨⟨by omega, by omega⟩, ?_⟩
    refine hK _ ?_
    clear hK K
    repeat refine awp_seq ?_
    refine awp_cond rfl (fun hc => ?_) (fun hc => ?_) <;> (try simp only [go_sem] at hc)
    repeat refine awp_seq ?_
    refine awp_reg (by kernel_rfl) fun K hK => ?_
    simp only [go_sem]
    (try simp (disch := omega) only [wrapI])
    repeat first | intro _ | refine ⟨(by omega), ?_⟩ | refine ⟨⟨by omega, by omega⟩, ?_⟩
    refine hK _ ?_
    clear hK K
    refine awp_ret ?_
    simp only [go_sem]
    simp [startsL, h1, h2, h3, h4]
  have e4 : ((a.length : Int) != b.length) = false := by simp [h4]
  rw [e4]
  try simp only [go_sem]
  intro _
  refine xcall_eq (in1_ok (a.length : Int) 1 2) rfl (by simp only [go_sem, i64, ints]) (by simp only [go_sem, i64, ints]) (by first | exact .inl rfl | exact .inr rfl) ?_
  (try simp only [go_sem])
  (try simp (disch := omega) only [wrapI])
  have hb5 : withinL 1 2 [(b.length : Int)] = withinL 1 2 [(a.length : Int)] := by rw [h4]
  cases h5 : withinL 1 2 [(a.length : Int)]
  · rw [h5] at hb5
    try simp only [go_sem]
    repeat first | intro _ | refine ⟨(by omega), ?_⟩ | refine ⟨⟨by omega, by omega⟩, ?_⟩
    refine hK _ ?_
    clear hK K
    repeat refine awp_seq ?_
    refine awp_cond rfl (fun hc => ?_) (fun hc => ?_) <;> (try simp only [go_sem] at hc)
    repeat refine awp_seq ?_
    refine awp_reg (by kernel_rfl) fun K hK => ?_
    simp only [go_sem]
    (try simp (disch := omega) only [wrapI])
    repeat first | intro _ | refine ⟨(by omega), ?_⟩ | refine ⟨⟨by omega, by omega⟩, ?_⟩
    refine hK _ ?_
    clear hK K
    refine awp_ret ?_
    simp only [go_sem]
    simp [startsL, h1, h2, h3, h4, hb5]
  rw [h5] at hb5
  try simp only [go_sem]
  repeat first | intro _ | refine ⟨(by omega), ?_⟩ | refine ⟨⟨by omega, by omega⟩, ?_⟩
  refine hK _ ?_
  clear hK K
  repeat refine awp_seq ?_
  refine awp_cond rfl (fun hc => ?_) (fun hc => ?_) <;> (try simp only [go_sem] at hc)
  refine awp_skip ?_
  try simp only [go_sem]
  have h5' := withinL_one h5
  repeat refine awp_seq ?_
  refine awp_reg (by kernel_rfl) fun K hK => ?_
  simp only [go_sem]
  (try simp (disch := omega) only [wrapI])
  repeat first | intro _ | refine ⟨(by omega), ?_⟩ | refine ⟨⟨by omega, by omega⟩, ?_⟩
  refine hK _ ?_
  clear hK K
  repeat refine awp_seq ?_
  refine awp_reg (by kernel_rfl) fun K hK => ?_
  simp only [go_sem]
  (try simp (disch := omega) only [wrapI])
  repeat first | intro _ | refine ⟨(by omega), ?_⟩ | refine ⟨⟨by omega, by omega⟩, ?_⟩
  refine hK _ ?_
  clear hK K
  repeat refine awp_seq ?_
  refine awp_block ?_
  refine awp_upto (n := 99) a.length (fun i vs => [(3, .pt 3 (vs 3) 0), (1, .r (ints a)), (2, .r (ints b)), (11, .r (i64 i)), (9, .r (i64 (a.take i).sum)), (10, .r (i64 (b.take i).sum))]) (fun _ => [(3, .box [.r (i64 s), .r (i64 p), .r (i64 l)])])
    (fun i => withinL 0 99 (a.take i) = true ∧ withinL 0 99 (b.take i) = true) 0 (fit_of [] ?_ rfl) (Nat.zero_le _) ?_ ?_
  · try simp only [go_sem]
    simp
  · simp [withinL]
  · rintro i vs hi ⟨hA, hB⟩
    have wa : ∀ x ∈ a.take i, 0 ≤ x ∧ x ≤ 1000 := fun x hx => ⟨(withinL_mem hA x hx).1, by have := (withinL_mem hA x hx).2; omega⟩
    have wb : ∀ x ∈ b.take i, 0 ≤ x ∧ x ≤ 1000 := fun x hx => ⟨(withinL_mem hB x hx).1, by have := (withinL_mem hB x hx).2; omega⟩
    have sa := sum_le 1000 (a.take i) wa
    have sb := sum_le 1000 (b.take i) wb
    simp only [List.length_take] at sa sb
    repeat refine awp_seq ?_
    refine awp_reg (by kernel_rfl) fun K hK => ?_
    simp only [go_sem]
    (try simp (disch := omega) only [wrapI])
    intro _
    repeat first | intro _ | refine ⟨(by omega), ?_⟩ | refine ⟨⟨by omega, by omega⟩, ?_⟩
    refine hK _ ?_
    clear hK K
    repeat refine awp_seq ?_
    refine awp_cond rfl (fun hc => ?_) (fun hc => ?_) <;> (try simp only [go_sem] at hc)
    · obtain ⟨x, hx⟩ := opt_of_lt hc
      have hci := hc
      have hc2 : i < b.length := by omega
      obtain ⟨y, hy⟩ := opt_of_lt hc2
      refine awp_skip ?_
      repeat refine awp_seq ?_
      refine awp_block ?_
      repeat refine awp_seq ?_
      refine awp_reg (by kernel_rfl) fun K hK => ?_
      simp only [go_sem, hx, hc]
      (try simp (disch := omega) only [wrapI])
      refine xcall_eq (in1_ok x 0 99) rfl (by simp only [go_sem, i64, ints]) (by simp only [go_sem, i64, ints]) (by first | exact .inl rfl | exact .inr rfl) ?_
      (try simp only [go_sem])
      (try simp (disch := omega) only [wrapI])
      cases h6 : withinL 0 99 [x]
      · try simp only [go_sem]
        repeat first | intro _ | refine ⟨(by omega), ?_⟩ | refine ⟨⟨by omega, by omega⟩, ?_⟩
        refine hK _ ?_
        clear hK K
        repeat refine awp_seq ?_
        refine awp_cond rfl (fun hc => ?_) (fun hc => ?_) <;> (try simp only [go_sem] at hc)
        repeat refine awp_seq ?_
        refine awp_reg (by kernel_rfl) fun K hK => ?_
        simp only [go_sem]
        (try simp (disch := omega) only [wrapI])
        repeat first | intro _ | refine ⟨(by omega), ?_⟩ | refine ⟨⟨by omega, by omega⟩, ?_⟩
        refine hK _ ?_
        clear hK K
        refine awp_ret ?_
        simp only [go_sem]
        simp [startsL, h1, h2, h3, h4, hb5, withinL_bad (mem_of_opt hx) h6]
      simp only [go_sem, hy, hc2]
      refine xcall_eq (in1_ok y 0 99) rfl (by simp only [go_sem, i64, ints]) (by simp only [go_sem, i64, ints]) (by first | exact .inl rfl | exact .inr rfl) ?_
      (try simp only [go_sem])
      (try simp (disch := omega) only [wrapI])
      cases h7 : withinL 0 99 [y]
      · try simp only [go_sem]
        repeat first | intro _ | refine ⟨(by omega), ?_⟩ | refine ⟨⟨by omega, by omega⟩, ?_⟩
        refine hK _ ?_
        clear hK K
        repeat refine awp_seq ?_
        refine awp_cond rfl (fun hc => ?_) (fun hc => ?_) <;> (try simp only [go_sem] at hc)
        repeat refine awp_seq ?_
        refine awp_reg (by kernel_rfl) fun K hK => ?_
        simp only [go_sem]
        (try simp (disch := omega) only [wrapI])
        repeat first | intro _ | refine ⟨(by omega), ?_⟩ | refine ⟨⟨by omega, by omega⟩, ?_⟩
        refine hK _ ?_
        clear hK K
        refine awp_ret ?_
        simp only [go_sem]
        simp [startsL, h1, h2, h3, h4, hb5, withinL_bad (mem_of_opt hy) h7]
      try simp only [go_sem]
      repeat first | intro _ | refine ⟨(by omega), ?_⟩ | refine ⟨⟨by omega, by omega⟩, ?_⟩
      refine hK _ ?_
      clear hK K
      repeat refine awp_seq ?_
      refine awp_cond rfl (fun hc => ?_) (fun hc => ?_) <;> (try simp only [go_sem] at hc)
      refine awp_skip ?_
      try simp only [go_sem]
      have gx := withinL_one h6
      have gy := withinL_one h7
      have hsa : (a.take (i + 1)).sum = (a.take i).sum + x := by rw [take_of_opt hx]; simp
      have hsb : (b.take (i + 1)).sum = (b.take i).sum + y := by rw [take_of_opt hy]; simp
      repeat refine awp_seq ?_
      refine awp_dreg follows (by decide +kernel) (by kernel_rfl) fun K hK => ?_
      simp only [go_sem, hx, hy, hci, hc2]
      (try simp (disch := omega) only [wrapI])
      repeat first | intro _ | refine ⟨(by omega), ?_⟩ | refine ⟨⟨by omega, by omega⟩, ?_⟩
      refine hK _ ?_
      clear hK K
      try simp only [go_sem]
      repeat refine awp_seq ?_
      refine awp_reg (by kernel_rfl) fun K hK => ?_
      simp only [go_sem]
      (try simp (disch := omega) only [wrapI])
      repeat first | intro _ | refine ⟨(by omega), ?_⟩ | refine ⟨⟨by omega, by omega⟩, ?_⟩
      refine hK _ ?_
      clear hK K
      try simp only [go_sem]
      refine ⟨hci, ⟨?_, ?_⟩, fit_of [] ?_ rfl⟩
      · rw [take_of_opt hx]
        simp only [withinL, List.all_append, Bool.and_eq_true] at hA h6 ⊢
        exact ⟨hA, h6⟩
      · rw [take_of_opt hy]
        simp only [withinL, List.all_append, Bool.and_eq_true] at hB h7 ⊢
        exact ⟨hB, h7⟩
      · try simp only [go_sem]
        rw [hsa, hsb]
        simp
    · have hA' := withinL_take_all hA (by omega)
      have hB' := withinL_take_all hB (by omega)
      have ea : a.take i = a := List.take_of_length_le (by omega)
      have eb : b.take i = b := List.take_of_length_le (by omega)
      rw [ea] at sa
      rw [eb] at sb
      have g1 := withinL_one h1
      have g2 := withinL_one h2
      have g3 := withinL_one h3
      obtain ⟨m1, m2⟩ := start_mul (p := p) (w := b.sum - a.sum) g2.1 g2.2 (by omega)
      obtain ⟨m3, m4⟩ := start_mul (p := p) (w := a.sum - b.sum) g2.1 g2.2 (by omega)
      refine awp_exit ?_
      simp only [go_sem]
      rw [ea, eb]
      repeat refine awp_seq ?_
      refine awp_dreg follows (by decide +kernel) (by kernel_rfl) fun K hK => ?_
      simp only [go_sem]
      (try simp (disch := omega) only [wrapI])
      repeat first | intro _ | refine ⟨(by omega), ?_⟩ | refine ⟨⟨by omega, by omega⟩, ?_⟩
      refine hK _ ?_
      clear hK K
      refine awp_ret ?_
      simp only [go_sem]
      simp [startsL, h1, h2, h3, h4, hb5, hA', hB', startV]
end Go.Proofs.Ytnklbfmdojpfkaa

/- What the tests of rules return. -/
namespace Go.Proofs.Ytnklbfmdojpfkaa
open Go Go.Oc
set_option linter.unusedSimpArgs false
set_option linter.unusedVariables false
set_option maxRecDepth 8000
structure Game where
  pl : Int
  lg : Int
  pt : Int
abbrev gameC (g : Game) : List RV := [i64 g.pl, i64 g.lg, i64 g.pt]
abbrev games (l : List Game) : RV := .sl 3 (l.map gameC)
structure Rules where
  squad : Int
  gs : List Game
  most : Int
  bonus : Int
abbrev rulesC (r : Rules) : List RV := [i64 r.squad, games r.gs, i64 r.most, i64 r.bonus]
def isGameB (squad : Int) (g : Game) : Bool := withinL 1 (min 2 squad) [g.pl] && withinL 1 15 [g.lg] && withinL 0 99 [g.pt]
theorem isGame_ok (r : Rules) (g : Game) : ACalls Try.prog 44 [.ag (rulesC r), .ag (gameC g)] (.bo (isGameB r.squad g)) := by
  refine acalls_st (rs := [.bo (isGameB r.squad g)]) [.tmp 4] Try.func44 rfl (by kernel_rfl) Try.ntmps44 rfl (by simp) rfl fun C vs => ?_
  repeat refine awp_seq ?_
  refine awp_reg (by kernel_rfl) fun K hK => ?_
  simp only [go_sem]
  (try simp (disch := omega) only [wrapI])
  repeat first | intro _ | refine ⟨(by omega), ?_⟩ | refine ⟨⟨by omega, by omega⟩, ?_⟩
  refine hK _ ?_
  clear hK K
  repeat refine awp_seq ?_
  refine awp_reg (by kernel_rfl) fun K hK => ?_
  simp only [go_sem]
  (try simp (disch := omega) only [wrapI])
  refine xcall_eq (within_ok 1 (min 2 r.squad) [g.pl]) rfl (by simp only [go_sem, i64, ints]) (by simp only [go_sem, i64, ints]) (by first | exact .inl rfl | exact .inr rfl) ?_
  (try simp only [go_sem])
  (try simp (disch := omega) only [wrapI])
  refine ⟨fun h1 => ?_, fun h1 => ?_⟩
  · refine xcall_eq (within_ok 1 15 [g.lg]) rfl (by simp only [go_sem, i64, ints]) (by simp only [go_sem, i64, ints]) (by first | exact .inl rfl | exact .inr rfl) ?_
    (try simp only [go_sem])
    (try simp (disch := omega) only [wrapI])
    refine ⟨fun h2 => ?_, fun h2 => ?_⟩
    · refine xcall_eq (within_ok 0 99 [g.pt]) rfl (by simp only [go_sem, i64, ints]) (by simp only [go_sem, i64, ints]) (by first | exact .inl rfl | exact .inr rfl) ?_
      (try simp only [go_sem])
      (try simp (disch := omega) only [wrapI])
      repeat first | intro _ | refine ⟨(by omega), ?_⟩ | refine ⟨⟨by omega, by omega⟩, ?_⟩
      refine hK _ ?_
      clear hK K
      refine awp_ret ?_
      simp only [go_sem]
      simp [isGameB, h1, h2]
    · repeat first | intro _ | refine ⟨(by omega), ?_⟩ | refine ⟨⟨by omega, by omega⟩, ?_⟩
      refine hK _ ?_
      clear hK K
      refine awp_ret ?_
      simp only [go_sem]
      simp [isGameB, h1, h2]
  · repeat first | intro _ | refine ⟨(by omega), ?_⟩ | refine ⟨⟨by omega, by omega⟩, ?_⟩
    refine hK _ ?_
    clear hK K
    refine awp_ret ?_
    simp only [go_sem]
    simp [isGameB, h1]
theorem check1_ok (r : Rules) (g : Game) : ACalls Try.prog 43 [.ag (gameC g), .rp (rulesC r)] (.bo (!isGameB r.squad g)) := by
  refine acalls_st (rs := [.bo (!isGameB r.squad g)]) [.tmp 3] Try.func43 rfl (by kernel_rfl) Try.ntmps43 rfl (by simp) rfl fun C vs => ?_
  repeat refine awp_seq ?_
  refine awp_reg (by kernel_rfl) fun K hK => ?_
  simp only [go_sem]
  (try simp (disch := omega) only [wrapI])
  repeat first | intro _ | refine ⟨(by omega), ?_⟩ | refine ⟨⟨by omega, by omega⟩, ?_⟩
  refine hK _ ?_
  clear hK K
  repeat refine awp_seq ?_
  refine awp_reg (by kernel_rfl) fun K hK => ?_
  simp only [go_sem]
  (try simp (disch := omega) only [wrapI])
  refine xcall_eq (isGame_ok r g) rfl (by simp only [go_sem, i64, ints]) (by simp only [go_sem, i64, ints]) (by first | exact .inl rfl | exact .inr rfl) ?_
  (try simp only [go_sem])
  (try simp (disch := omega) only [wrapI])
  repeat first | intro _ | refine ⟨(by omega), ?_⟩ | refine ⟨⟨by omega, by omega⟩, ?_⟩
  refine hK _ ?_
  clear hK K
  refine awp_ret ?_
  simp only [go_sem]
theorem indexG_ok (p : Game → Bool) (f : Nat) (caps : List RV) (l : List Game) (h : ∀ x ∈ l, ACalls Try.prog f (.ag (gameC x) :: caps) (.bo (p x))) : ACalls Try.prog 69 [games l, .fn f caps] (i64 (indexF p l)) := by
  refine acalls_st (rs := [i64 (indexF p l)]) [.tmp 4] Try.func69 rfl (by kernel_rfl) Try.ntmps69 rfl (by simp) rfl fun C vs => ?_
  repeat refine awp_seq ?_
  refine awp_reg (by kernel_rfl) fun K hK => ?_
  simp only [go_sem]
  (try simp (disch := omega) only [wrapI])
  repeat first | intro _ | refine ⟨(by omega), ?_⟩ | refine ⟨⟨by omega, by omega⟩, ?_⟩
  refine hK _ ?_
  clear hK K
  repeat refine awp_seq ?_
  refine awp_reg (by kernel_rfl) fun K hK => ?_
  simp only [go_sem]
  (try simp (disch := omega) only [wrapI])
  intro hl
  repeat first | intro _ | refine ⟨(by omega), ?_⟩ | refine ⟨⟨by omega, by omega⟩, ?_⟩
  refine hK _ ?_
  clear hK K
  repeat refine awp_seq ?_
  refine awp_block ?_
  refine awp_upto (n := 19) l.length (fun i vs => [(0, .r (games l)), (1, .r (.fn f caps)), (7, .r (i64 l.length)), (8, .r (i64 i))]) (fun _ => [])
    (fun i => indexF p l = if indexF p (l.drop i) < 0 then -1 else i + indexF p (l.drop i)) 0 (fit_of [] ?_ rfl) (Nat.zero_le _) ?_ ?_
  · try simp only [go_sem]
  · simp only [List.drop_zero]
    have := indexF_ge p l
    split
    · omega
    · simp
  · intro i vs hi hI
    repeat refine awp_seq ?_
    refine awp_reg (by kernel_rfl) fun K hK => ?_
    simp only [go_sem]
    (try simp (disch := omega) only [wrapI])
    repeat first | intro _ | refine ⟨(by omega), ?_⟩ | refine ⟨⟨by omega, by omega⟩, ?_⟩
    refine hK _ ?_
    clear hK K
    repeat refine awp_seq ?_
    refine awp_cond rfl (fun hc => ?_) (fun hc => ?_) <;> (try simp only [go_sem] at hc)
    · obtain ⟨x, hx⟩ := opt_of_lt hc
      rw [drop_of_opt hx] at hI
      refine awp_skip ?_
      repeat refine awp_seq ?_
      refine awp_block ?_
      repeat refine awp_seq ?_
      refine awp_reg (by kernel_rfl) fun K hK => ?_
      simp only [go_sem]
      (try simp (disch := omega) only [wrapI])
      repeat first | intro _ | refine ⟨(by omega), ?_⟩ | refine ⟨⟨by omega, by omega⟩, ?_⟩
      refine hK _ ?_
      clear hK K
      repeat refine awp_seq ?_
      refine awp_reg (by kernel_rfl) fun K hK => ?_
      simp only [go_sem, hx, hc]
      (try simp (disch := omega) only [wrapI])
      refine xcall_eq (h x (mem_of_opt hx)) rfl (by simp only [go_sem, i64, ints]) (by simp only [go_sem, i64, ints]) (by first | exact .inl rfl | exact .inr rfl) ?_
      (try simp only [go_sem])
      (try simp (disch := omega) only [wrapI])
      repeat first | intro _ | refine ⟨(by omega), ?_⟩ | refine ⟨⟨by omega, by omega⟩, ?_⟩
      refine hK _ ?_
      clear hK K
      repeat refine awp_seq ?_
      refine awp_cond rfl (fun hc => ?_) (fun hc => ?_) <;> (try simp only [go_sem] at hc)
      · repeat refine awp_seq ?_
        refine awp_reg (by kernel_rfl) fun K hK => ?_
        simp only [go_sem]
        (try simp (disch := omega) only [wrapI])
        repeat first | intro _ | refine ⟨(by omega), ?_⟩ | refine ⟨⟨by omega, by omega⟩, ?_⟩
        refine hK _ ?_
        clear hK K
        refine awp_ret ?_
        simp only [go_sem]
        simp [hI, indexF, hc]
      · refine awp_skip ?_
        try simp only [go_sem]
        repeat refine awp_seq ?_
        refine awp_reg (by kernel_rfl) fun K hK => ?_
        simp only [go_sem]
        (try simp (disch := omega) only [wrapI])
        repeat first | intro _ | refine ⟨(by omega), ?_⟩ | refine ⟨⟨by omega, by omega⟩, ?_⟩
        refine hK _ ?_
        clear hK K
        try simp only [go_sem]
        refine ⟨‹_›, ?_, fit_of [] ?_ rfl⟩
        · rw [hI]
          simp only [indexF, hc, Bool.false_eq_true, if_false]
          have := indexF_ge p (l.drop (i + 1))
          (repeat' split) <;> omega
        · try simp only [go_sem]
    · refine awp_exit ?_
      simp only [go_sem]
      repeat refine awp_seq ?_
      refine awp_reg (by kernel_rfl) fun K hK => ?_
      simp only [go_sem]
      (try simp (disch := omega) only [wrapI])
      repeat first | intro _ | refine ⟨(by omega), ?_⟩ | refine ⟨⟨by omega, by omega⟩, ?_⟩
      refine hK _ ?_
      clear hK K
      refine awp_ret ?_
      simp only [go_sem]
      have : l.drop i = [] := List.drop_eq_nil_of_le (by omega)
      simp [hI, this, indexF]
theorem containsG_ok (p : Game → Bool) (f : Nat) (caps : List RV) (l : List Game) (h : ∀ x ∈ l, ACalls Try.prog f (.ag (gameC x) :: caps) (.bo (p x))) : ACalls Try.prog 46 [games l, .fn f caps] (.bo (l.any p)) := by
  refine acalls_st (rs := [.bo (l.any p)]) [.tmp 4] Try.func46 rfl (by kernel_rfl) Try.ntmps46 rfl (by simp) rfl fun C vs => ?_
  repeat refine awp_seq ?_
  refine awp_reg (by kernel_rfl) fun K hK => ?_
  simp only [go_sem]
  (try simp (disch := omega) only [wrapI])
  repeat first | intro _ | refine ⟨(by omega), ?_⟩ | refine ⟨⟨by omega, by omega⟩, ?_⟩
  refine hK _ ?_
  clear hK K
  repeat refine awp_seq ?_
  refine awp_reg (by kernel_rfl) fun K hK => ?_
  simp only [go_sem]
  (try simp (disch := omega) only [wrapI])
  refine xcall_eq (indexG_ok p f caps l h) rfl (by simp only [go_sem, i64, ints]) (by simp only [go_sem, i64, ints]) (by first | exact .inl rfl | exact .inr rfl) ?_
  (try simp only [go_sem])
  (try simp (disch := omega) only [wrapI])
  repeat first | intro _ | refine ⟨(by omega), ?_⟩ | refine ⟨⟨by omega, by omega⟩, ?_⟩
  refine hK _ ?_
  clear hK K
  refine awp_ret ?_
  simp only [go_sem]
  rw [← indexF_any]
/-- The rules are valid. -/
def rulesB (r : Rules) : Bool := withinL 1 16 [r.squad] && withinL 1 20 [(r.gs.length : Int), r.most] && r.gs.all (isGameB r.squad) && withinL 0 99 [r.bonus]
def errC (b : Bool) : Int := if b then 0 else 2
theorem check_ok (r : Rules) : ACalls Try.prog 16 [.ag (rulesC r)] (i64 (errC (rulesB r))) := by
  refine acalls_st (rs := [i64 (errC (rulesB r))]) [.tmp 2] Try.func16 rfl (by kernel_rfl) Try.ntmps16 rfl (by simp) rfl fun C vs => ?_
  repeat refine awp_seq ?_
  refine awp_reg (by kernel_rfl) fun K hK => ?_
  simp only [go_sem]
  (try simp (disch := omega) only [wrapI])
  repeat first | intro _ | refine ⟨(by omega), ?_⟩ | refine ⟨⟨by omega, by omega⟩, ?_⟩
  refine hK _ ?_
  clear hK K
  repeat refine awp_seq ?_
  refine awp_reg (by kernel_rfl) fun K hK => ?_
  simp only [go_sem]
  (try simp (disch := omega) only [wrapI])
  repeat first | intro _ | refine ⟨(by omega), ?_⟩ | refine ⟨⟨by omega, by omega⟩, ?_⟩
  refine hK _ ?_
  clear hK K
  repeat refine awp_seq ?_
  refine awp_reg (by kernel_rfl) fun K hK => ?_
  simp only [go_sem]
  (try simp (disch := omega) only [wrapI])
  refine xcall_eq (within_ok 1 16 [r.squad]) rfl (by simp only [go_sem, i64, ints]) (by simp only [go_sem, i64, ints]) (by first | exact .inl rfl | exact .inr rfl) ?_
  (try simp only [go_sem])
  (try simp (disch := omega) only [wrapI])
  cases h1 : withinL 1 16 [r.squad]
  · try simp only [go_sem]
    repeat first | intro _ | refine ⟨(by omega), ?_⟩ | refine ⟨⟨by omega, by omega⟩, ?_⟩
    refine hK _ ?_
    clear hK K
    repeat refine awp_seq ?_
    refine awp_cond rfl (fun hc => ?_) (fun hc => ?_) <;> (try simp only [go_sem] at hc)
    repeat refine awp_seq ?_
    refine awp_reg (by kernel_rfl) fun K hK => ?_
    simp only [go_sem]
    (try simp (disch := omega) only [wrapI])
    repeat first | intro _ | refine ⟨(by omega), ?_⟩ | refine ⟨⟨by omega, by omega⟩, ?_⟩
    refine hK _ ?_
    clear hK K
    refine awp_ret ?_
    simp only [go_sem]
    simp [rulesB, errC, h1]
  try simp only [go_sem]
  intro hlen
  refine xcall_eq (within_ok 1 20 [(r.gs.length : Int), r.most]) rfl (by simp only [go_sem, i64, ints]) (by simp only [go_sem, i64, ints]) (by first | exact .inl rfl | exact .inr rfl) ?_
  (try simp only [go_sem])
  (try simp (disch := omega) only [wrapI])
  cases h2 : withinL 1 20 [(r.gs.length : Int), r.most]
  · try simp only [go_sem]
    repeat first | intro _ | refine ⟨(by omega), ?_⟩ | refine ⟨⟨by omega, by omega⟩, ?_⟩
    refine hK _ ?_
    clear hK K
    repeat refine awp_seq ?_
    refine awp_cond rfl (fun hc => ?_) (fun hc => ?_) <;> (try simp only [go_sem] at hc)
    repeat refine awp_seq ?_
    refine awp_reg (by kernel_rfl) fun K hK => ?_
    simp only [go_sem]
    (try simp (disch := omega) only [wrapI])
    repeat first | intro _ | refine ⟨(by omega), ?_⟩ | refine ⟨⟨by omega, by omega⟩, ?_⟩
    refine hK _ ?_
    clear hK K
    refine awp_ret ?_
    simp only [go_sem]
    simp [rulesB, errC, h1, h2]
  try simp only [go_sem]
  refine xcall_eq (containsG_ok (fun g => !isGameB r.squad g) 43 [.rp (rulesC r)] r.gs fun g _ => check1_ok r g) rfl (by simp only [go_sem, i64, ints]) (by simp only [go_sem, i64, ints]) (by first | exact .inl rfl | exact .inr rfl) ?_
  (try simp only [go_sem])
  (try simp (disch := omega) only [wrapI])
  have e3 : (r.gs.any fun g => !isGameB r.squad g) = !(r.gs.all (isGameB r.squad)) := by simp [List.any_eq_not_all_not]
  rw [e3]
  cases h3 : r.gs.all (isGameB r.squad)
  · try simp only [go_sem]
    repeat first | intro _ | refine ⟨(by omega), ?_⟩ | refine ⟨⟨by omega, by omega⟩, ?_⟩
    refine hK _ ?_
    clear hK K
    repeat refine awp_seq ?_
    refine awp_cond rfl (fun hc => ?_) (fun hc => ?_) <;> (try simp only [go_sem] at hc)
    repeat refine awp_seq ?_
    refine awp_reg (by kernel_rfl) fun K hK => ?_
    simp only [go_sem]
    (try simp (disch := omega) only [wrapI])
    repeat first | intro _ | refine ⟨(by omega), ?_⟩ | refine ⟨⟨by omega, by omega⟩, ?_⟩
    refine hK _ ?_
    clear hK K
    refine awp_ret ?_
    simp only [go_sem]
    simp [rulesB, errC, h1, h2, h3]
  try simp only [go_sem]
  refine xcall_eq (within_ok 0 99 [r.bonus]) rfl (by simp only [go_sem, i64, ints]) (by simp only [go_sem, i64, ints]) (by first | exact .inl rfl | exact .inr rfl) ?_
  (try simp only [go_sem])
  (try simp (disch := omega) only [wrapI])
  cases h4 : withinL 0 99 [r.bonus]
  · try simp only [go_sem]
    repeat first | intro _ | refine ⟨(by omega), ?_⟩ | refine ⟨⟨by omega, by omega⟩, ?_⟩
    refine hK _ ?_
    clear hK K
    repeat refine awp_seq ?_
    refine awp_cond rfl (fun hc => ?_) (fun hc => ?_) <;> (try simp only [go_sem] at hc)
    repeat refine awp_seq ?_
    refine awp_reg (by kernel_rfl) fun K hK => ?_
    simp only [go_sem]
    (try simp (disch := omega) only [wrapI])
    repeat first | intro _ | refine ⟨(by omega), ?_⟩ | refine ⟨⟨by omega, by omega⟩, ?_⟩
    refine hK _ ?_
    clear hK K
    refine awp_ret ?_
    simp only [go_sem]
    simp [rulesB, errC, h1, h2, h3, h4]
  try simp only [go_sem]
  repeat first | intro _ | refine ⟨(by omega), ?_⟩ | refine ⟨⟨by omega, by omega⟩, ?_⟩
  refine hK _ ?_
  clear hK K
  repeat refine awp_seq ?_
  refine awp_cond rfl (fun hc => ?_) (fun hc => ?_) <;> (try simp only [go_sem] at hc)
  refine awp_skip ?_
  try simp only [go_sem]
  repeat refine awp_seq ?_
  refine awp_reg (by kernel_rfl) fun K hK => ?_
  simp only [go_sem]
  (try simp (disch := omega) only [wrapI])
  repeat first | intro _ | refine ⟨(by omega), ?_⟩ | refine ⟨⟨by omega, by omega⟩, ?_⟩
  refine hK _ ?_
  clear hK K
  refine awp_ret ?_
  simp only [go_sem]
  simp [rulesB, errC, h1, h2, h3, h4]
/-! ### The document's test -/
theorem min2 {s : Int} {g : Game} : isGameB s g = (withinL 1 2 [g.pl] && !decide (g.pl > s) && withinL 1 15 [g.lg] && withinL 0 99 [g.pt]) := by
  unfold isGameB
  congr 2
  simp only [withinL, List.all_cons, List.all_nil, Bool.and_true]
  rw [Bool.eq_iff_iff]
  simp only [Bool.and_eq_true, decide_eq_true_eq, Bool.not_eq_true', decide_eq_false_iff_not]
  omega
theorem withinL_pair (x y a b : Int) : withinL x y [a, b] = (withinL x y [a] && withinL x y [b]) := by simp [withinL]
theorem refRules_ok (r : Rules) (hg : r.gs.length ≤ 25) : ACalls Try.prog 20 [.ag (rulesC r)] (.bo (rulesB r)) := by
  refine acalls_st (rs := [.bo (rulesB r)]) [.tmp 2] Try.func20 rfl (by kernel_rfl) Try.ntmps20 rfl (by simp) rfl fun C vs => ?_
  repeat refine awp_seq ?_
  refine awp_reg (by kernel_rfl) fun K hK => ?_
  simp only [go_sem]
  (try simp (disch := omega) only [wrapI])
  repeat first | intro _ | refine ⟨(by omega), ?_⟩ | refine ⟨⟨by omega, by omega⟩, ?_⟩
  refine hK _ ?_
  clear hK K
  repeat refine awp_seq ?_
  refine awp_reg (by kernel_rfl) fun K hK => ?_
  simp only [go_sem]
  (try simp (disch := omega) only [wrapI])
  repeat first | intro _ | refine ⟨(by omega), ?_⟩ | refine ⟨⟨by omega, by omega⟩, ?_⟩
  refine hK _ ?_
  clear hK K
  repeat refine awp_seq ?_
  refine awp_block ?_
  refine awp_upto (n := 59) r.gs.length (fun i vs => [(1, .pt 1 (vs 1) 0), (3, .r (i64 i))]) (fun _ => [(1, .box [.r (i64 r.squad), .r (games r.gs), .r (i64 r.most), .r (i64 r.bonus)])])
    (fun i => (r.gs.take i).all (isGameB r.squad) = true) 0 (fit_of [] ?_ rfl) (Nat.zero_le _) (by simp) ?_
  · try simp only [go_sem]
  · intro i vs hi hI
    repeat refine awp_seq ?_
    refine awp_reg (by kernel_rfl) fun K hK => ?_
    simp only [go_sem]
    (try simp (disch := omega) only [wrapI])
    repeat first | intro _ | refine ⟨(by omega), ?_⟩ | refine ⟨⟨by omega, by omega⟩, ?_⟩
    refine hK _ ?_
    clear hK K
    repeat refine awp_seq ?_
    refine awp_cond rfl (fun hc => ?_) (fun hc => ?_) <;> (try simp only [go_sem] at hc)
    · have hci := hc
      obtain ⟨g, hx⟩ := opt_of_lt hci
      have hbad : isGameB r.squad g = false → rulesB r = false := fun h => by
        have : r.gs.all (isGameB r.squad) = false := by
          refine Bool.eq_false_iff.2 fun hl => ?_
          have := List.all_eq_true.1 hl g (mem_of_opt hx)
          rw [h] at this; cases this
        simp [rulesB, this]
      rw [min2] at hbad
      refine awp_skip ?_
      repeat refine awp_seq ?_
      refine awp_block ?_
      repeat refine awp_seq ?_
      refine awp_reg (by kernel_rfl) fun K hK => ?_
      simp only [go_sem, hx, hci]
      (try simp (disch := omega) only [wrapI])
      repeat first | intro _ | refine ⟨(by omega), ?_⟩ | refine ⟨⟨by omega, by omega⟩, ?_⟩
      refine hK _ ?_
      clear hK K
      repeat refine awp_seq ?_
      refine awp_reg (by kernel_rfl) fun K hK => ?_
      simp only [go_sem]
      (try simp (disch := omega) only [wrapI])
      refine xcall_eq (in1_ok g.pl 1 2) rfl (by simp only [go_sem, i64, ints]) (by simp only [go_sem, i64, ints]) (by first | exact .inl rfl | exact .inr rfl) ?_
      (try simp only [go_sem])
      (try simp (disch := omega) only [wrapI])
      cases h1 : withinL 1 2 [g.pl]
      · try simp only [go_sem]
        repeat first | intro _ | refine ⟨(by omega), ?_⟩ | refine ⟨⟨by omega, by omega⟩, ?_⟩
        refine hK _ ?_
        clear hK K
        repeat refine awp_seq ?_
        refine awp_cond rfl (fun hc => ?_) (fun hc => ?_) <;> (try simp only [go_sem] at hc)
        repeat refine awp_seq ?_
        refine awp_reg (by kernel_rfl) fun K hK => ?_
        simp only [go_sem]
        (try simp (disch := omega) only [wrapI])
        repeat first | intro _ | refine ⟨(by omega), ?_⟩ | refine ⟨⟨by omega, by omega⟩, ?_⟩
        refine hK _ ?_
        clear hK K
        refine awp_ret ?_
        simp only [go_sem]
        rw [hbad (by simp [h1])]
      try simp only [go_sem]
      by_cases h2 : r.squad < g.pl
      · simp only [h2, go_sem]
        repeat first | intro _ | refine ⟨(by omega), ?_⟩ | refine ⟨⟨by omega, by omega⟩, ?_⟩
        refine hK _ ?_
        clear hK K
        repeat refine awp_seq ?_
        refine awp_cond rfl (fun hc => ?_) (fun hc => ?_) <;> (try simp only [go_sem] at hc)
        repeat refine awp_seq ?_
        refine awp_reg (by kernel_rfl) fun K hK => ?_
        simp only [go_sem]
        (try simp (disch := omega) only [wrapI])
        repeat first | intro _ | refine ⟨(by omega), ?_⟩ | refine ⟨⟨by omega, by omega⟩, ?_⟩
        refine hK _ ?_
        clear hK K
        refine awp_ret ?_
        simp only [go_sem]
        rw [hbad (by simp [h2])]
      simp only [h2, go_sem]
      refine xcall_eq (in1_ok g.lg 1 15) rfl (by simp only [go_sem, i64, ints]) (by simp only [go_sem, i64, ints]) (by first | exact .inl rfl | exact .inr rfl) ?_
      (try simp only [go_sem])
      (try simp (disch := omega) only [wrapI])
      cases h3 : withinL 1 15 [g.lg]
      · try simp only [go_sem]
        repeat first | intro _ | refine ⟨(by omega), ?_⟩ | refine ⟨⟨by omega, by omega⟩, ?_⟩
        refine hK _ ?_
        clear hK K
        repeat refine awp_seq ?_
        refine awp_cond rfl (fun hc => ?_) (fun hc => ?_) <;> (try simp only [go_sem] at hc)
        repeat refine awp_seq ?_
        refine awp_reg (by kernel_rfl) fun K hK => ?_
        simp only [go_sem]
        (try simp (disch := omega) only [wrapI])
        repeat first | intro _ | refine ⟨(by omega), ?_⟩ | refine ⟨⟨by omega, by omega⟩, ?_⟩
        refine hK _ ?_
        clear hK K
        refine awp_ret ?_
        simp only [go_sem]
        rw [hbad (by simp [h3])]
      try simp only [go_sem]
      refine xcall_eq (in1_ok g.pt 0 99) rfl (by simp only [go_sem, i64, ints]) (by simp only [go_sem, i64, ints]) (by first | exact .inl rfl | exact .inr rfl) ?_
      (try simp only [go_sem])
      (try simp (disch := omega) only [wrapI])
      cases h4 : withinL 0 99 [g.pt]
      · try simp only [go_sem]
        repeat first | intro _ | refine ⟨(by omega), ?_⟩ | refine ⟨⟨by omega, by omega⟩, ?_⟩
        refine hK _ ?_
        clear hK K
        repeat refine awp_seq ?_
        refine awp_cond rfl (fun hc => ?_) (fun hc => ?_) <;> (try simp only [go_sem] at hc)
        repeat refine awp_seq ?_
        refine awp_reg (by kernel_rfl) fun K hK => ?_
        simp only [go_sem]
        (try simp (disch := omega) only [wrapI])
        repeat first | intro _ | refine ⟨(by omega), ?_⟩ | refine ⟨⟨by omega, by omega⟩, ?_⟩
        refine hK _ ?_
        clear hK K
        refine awp_ret ?_
        simp only [go_sem]
        rw [hbad (by simp [h4])]
      try simp only [go_sem]
      repeat first | intro _ | refine ⟨(by omega), ?_⟩ | refine ⟨⟨by omega, by omega⟩, ?_⟩
      refine hK _ ?_
      clear hK K
      repeat refine awp_seq ?_
      refine awp_cond rfl (fun hc => ?_) (fun hc => ?_) <;> (try simp only [go_sem] at hc)
      refine awp_skip ?_
      try simp only [go_sem]
      repeat refine awp_seq ?_
      refine awp_reg (by kernel_rfl) fun K hK => ?_
      simp only [go_sem]
      (try simp (disch := omega) only [wrapI])
      repeat first | intro _ | refine ⟨(by omega), ?_⟩ | refine ⟨⟨by omega, by omega⟩, ?_⟩
      refine hK _ ?_
      clear hK K
      try simp only [go_sem]
      refine ⟨hci, ?_, fit_of [4] ?_ ?_⟩
      · rw [take_of_opt hx, List.all_append, hI]
        simp [min2, h1, h2, h3, h4]
      · try simp only [go_sem]
      · try simp only [go_sem]
    · have hall : r.gs.all (isGameB r.squad) = true := by rwa [List.take_of_length_le (by omega)] at hI
      refine awp_exit ?_
      simp only [go_sem]
      repeat refine awp_seq ?_
      refine awp_reg (by kernel_rfl) fun K hK => ?_
      simp only [go_sem]
      (try simp (disch := omega) only [wrapI])
      refine xcall_eq (in1_ok r.squad 1 16) rfl (by simp only [go_sem, i64, ints]) (by simp only [go_sem, i64, ints]) (by first | exact .inl rfl | exact .inr rfl) ?_
      (try simp only [go_sem])
      (try simp (disch := omega) only [wrapI])
      cases h1 : withinL 1 16 [r.squad]
      · try simp only [go_sem]
        repeat first | intro _ | refine ⟨(by omega), ?_⟩ | refine ⟨⟨by omega, by omega⟩, ?_⟩
        refine hK _ ?_
        clear hK K
        refine awp_ret ?_
        simp only [go_sem]
        simp [rulesB, h1]
      try simp only [go_sem]
      intros
      refine xcall_eq (in1_ok (r.gs.length : Int) 1 20) rfl (by simp only [go_sem, i64, ints]) (by simp only [go_sem, i64, ints]) (by first | exact .inl rfl | exact .inr rfl) ?_
      (try simp only [go_sem])
      (try simp (disch := omega) only [wrapI])
      cases h2 : withinL 1 20 [(r.gs.length : Int)]
      · try simp only [go_sem]
        repeat first | intro _ | refine ⟨(by omega), ?_⟩ | refine ⟨⟨by omega, by omega⟩, ?_⟩
        refine hK _ ?_
        clear hK K
        refine awp_ret ?_
        simp only [go_sem]
        simp [rulesB, h1, h2, withinL_pair]
      try simp only [go_sem]
      refine xcall_eq (in1_ok r.most 1 20) rfl (by simp only [go_sem, i64, ints]) (by simp only [go_sem, i64, ints]) (by first | exact .inl rfl | exact .inr rfl) ?_
      (try simp only [go_sem])
      (try simp (disch := omega) only [wrapI])
      cases h3 : withinL 1 20 [r.most]
      · try simp only [go_sem]
        repeat first | intro _ | refine ⟨(by omega), ?_⟩ | refine ⟨⟨by omega, by omega⟩, ?_⟩
        refine hK _ ?_
        clear hK K
        refine awp_ret ?_
        simp only [go_sem]
        simp [rulesB, h1, h2, h3, withinL_pair]
      try simp only [go_sem]
      refine xcall_eq (in1_ok r.bonus 0 99) rfl (by simp only [go_sem, i64, ints]) (by simp only [go_sem, i64, ints]) (by first | exact .inl rfl | exact .inr rfl) ?_
      (try simp only [go_sem])
      (try simp (disch := omega) only [wrapI])
      repeat first | intro _ | refine ⟨(by omega), ?_⟩ | refine ⟨⟨by omega, by omega⟩, ?_⟩
      refine hK _ ?_
      clear hK K
      refine awp_ret ?_
      simp only [go_sem]
      simp [rulesB, h1, h2, h3, withinL_pair, hall]
theorem rules_ok (r : Rules) (hg : r.gs.length ≤ 25) : ACalls Try.prog 17 [.ag (rulesC r)] (.ag (rulesC r)) := by
  refine acalls_st (rs := [.ag (rulesC r)]) [.cell 2 24] Try.func17 rfl (by kernel_rfl) Try.ntmps17 rfl (by simp) rfl fun C vs => ?_
  repeat refine awp_seq ?_
  refine awp_reg (by kernel_rfl) fun K hK => ?_
  simp only [go_sem]
  (try simp (disch := omega) only [wrapI])
  repeat first | intro _ | refine ⟨(by omega), ?_⟩ | refine ⟨⟨by omega, by omega⟩, ?_⟩
  refine hK _ ?_
  clear hK K
  repeat refine awp_seq ?_
  refine awp_reg (by kernel_rfl) fun K hK => ?_
  simp only [go_sem]
  (try simp (disch := omega) only [wrapI])
  refine ⟨⟨by omega, by omega⟩, ?_⟩
  repeat first | intro _ | refine ⟨(by omega), ?_⟩ | refine ⟨⟨by omega, by omega⟩, ?_⟩
  refine hK _ ?_
  clear hK K
  repeat refine awp_seq ?_
  refine awp_reg (by kernel_rfl) fun K hK => ?_
  simp only [go_sem]
  (try simp (disch := omega) only [wrapI])
  repeat first | intro _ | refine ⟨(by omega), ?_⟩ | refine ⟨⟨by omega, by omega⟩, ?_⟩
  refine hK _ ?_
  clear hK K
  refine awp_ret ?_
  simp only [go_sem]
end Go.Proofs.Ytnklbfmdojpfkaa

/- A slice of one's own becomes plain data: its row is given up. -/
namespace Go.Oc
open Go Go.RowKit

section
variable {C : Ctx} {p : Plan} {s : AS} {a : Act} {w : World}
/-- A block that no row lies in, made since, is plain data from now on. -/
theorem SR.publish (h : SR C p s a w) {b : Nat} (hb : b < w.heap.size) (hnew : C.w0.heap.size ≤ b) (hno : ∀ k, p.β k ≠ some b) : SR C { p with R := fun x => p.R x ∨ x = b } s a w := by
  have hk : Kept w w p { p with R := fun x => p.R x ∨ x = b } s.ver s.ver := ⟨fun _ h => .inl h, fun _ _ => rfl, fun _ => Nat.le_refl _, fun _ _ => ⟨rfl, rfl⟩⟩
  exact {
    base := h.base
    r0 := fun b hr => .inl (h.r0 b hr)
    rn := fun x hr => hr.elim (h.rn x) (fun e => .inr (e ▸ hnew))
    rb := fun x hr => hr.elim (h.rb x) (fun e => e ▸ hb)
    tm := fun t => AV.rel_mono hk _ _ (h.tm t)
    sz := h.sz
    df := h.df
    rw := fun k => rowRel_mono hk rfl rfl (fun _ _ => rfl) _ (fun _ _ _ _ _ _ _ _ => rfl) (h.rw k)
    bl := fun k x hx => ⟨(h.bl k x hx).1, fun hr => hr.elim (h.bl k x hx).2.1 (fun e => hno k (e ▸ hx)), (h.bl k x hx).2.2⟩
    ij := h.ij
    cap := h.cap
    pn := h.pn
    lk := h.lk }
end
theorem sub_freeze (s : AS) (t k v sz off m : Nat) (hk0 : k < 1000) (ht : s.tm t = .os k v sz off m) (hv : v = s.ver k) (hc : match (s.rows k).c with | .arr _ sz' es => sz = sz' ∧ off + m ≤ es.length | _ => False) :
    Sub s { s with tm := upd s.tm t (.r (match (s.rows k).c with | .arr _ _ es => RV.sl sz ((es.drop off).take m) | _ => .un)), rows := upd s.rows k ⟨(s.rows k).ver + 1, .dead⟩ } := fun C a w ⟨p, hp⟩ => by
  have h1 := hp.reRow (w' := w) k hk0 .dead rfl none 1 (by simp [maxLen]) rfl rfl rfl (Nat.le_refl _) (fun _ _ _ => rfl) (fun _ h => by cases h) (fun p' ver' _ hβ hγ _ => by simp only [rowRel]; exact ⟨hβ, hγ⟩)
  have hval := hp.tm t
  rw [ht] at hval
  have put : ∀ {p2 : Plan}, SR C p2 { s with rows := upd s.rows k ⟨(s.rows k).ver + 1, .dead⟩ } a w → (∀ b, p.R b → p2.R b) → (∀ b, p.β k = some b → p2.R b) →
      SRel C { s with tm := upd s.tm t (.r (match (s.rows k).c with | .arr _ _ es => RV.sl sz ((es.drop off).take m) | _ => .un)), rows := upd s.rows k ⟨(s.rows k).ver + 1, .dead⟩ } a w := fun {p2} h2 hR hR2 => by
    refine ⟨p2, { h2 with tm := fun j => ?_ }⟩
    show AV.rel w _ _ (upd s.tm t _ j) _
    by_cases hj : j = t
    · subst hj
      rw [upd_same]
      simp only [AV.rel]
      exact snap_os hp hv hc hval hR hR2
    · rw [upd_other _ _ hj]
      exact h2.tm j
  cases hβ : p.β k with
  | none => exact put h1 (fun _ h => h) (fun b hb => by rw [hβ] at hb; cases hb)
  | some b =>
    obtain ⟨g1, _, g2⟩ := hp.bl k b hβ
    have h2 := h1.publish (b := b) g1 (g2.resolve_right (fun h => by omega)) (fun j hj => by
      have hj' : upd p.β k none j = some b := hj
      by_cases e : j = k
      · subst e; rw [upd_same] at hj'; cases hj'
      · rw [upd_other _ _ e] at hj'; exact e (hp.ij j k b hj' hβ))
    exact put h2 (fun _ h => .inl h) (fun b' hb' => by rw [hβ] at hb'; injection hb' with e; exact .inr e.symm)
section
variable {n : Nat} {l : List (Nat × AV)} {vs : Nat → Nat} {cs : List (Nat × RowC)}
theorem sub_frz (t k : Nat) {sz off m ty : Nat} {es : List (List RV)} (hk0 : k < 1000) (ht : look l t = .os k (vs k) sz off m) (hc : lookc cs k = .arr ty sz es) (hle : off + m ≤ es.length) :
    Sub (st n l vs cs) (st n ((t, .r (.sl sz ((es.drop off).take m))) :: l) (upd vs k (vs k + 1)) (delc cs k)) := by
  have := sub_freeze (st n l vs cs) t k (vs k) sz off m hk0 ht rfl (by show match lookc cs k with | .arr _ sz' es => sz = sz' ∧ off + m ≤ es.length | _ => False; rw [hc]; exact ⟨rfl, hle⟩)
  have e : ({ st n l vs cs with tm := upd (st n l vs cs).tm t (.r (match ((st n l vs cs).rows k).c with | .arr _ _ es => RV.sl sz ((es.drop off).take m) | _ => .un)), rows := upd (st n l vs cs).rows k ⟨((st n l vs cs).rows k).ver + 1, .dead⟩ } : AS)
      = st n ((t, .r (.sl sz ((es.drop off).take m))) :: l) (upd vs k (vs k + 1)) (delc cs k) := by
    simp only [st, AS.mk.injEq, true_and]
    constructor
    · funext j
      show upd (look l) t (.r (match lookc cs k with | .arr _ _ es => RV.sl sz ((es.drop off).take m) | _ => .un)) j = look ((t, .r (.sl sz ((es.drop off).take m))) :: l) j
      rw [hc]; rfl
    · funext j
      rw [lookc_delc]
      unfold upd
      split <;> rfl
  rwa [e] at this
theorem fit_sub {F : (Nat → Nat) → List (Nat × AV)} {R : List (Nat × RowC)} {s s' : AS} (h : Sub s s') (hf : Fit n F R s') : Fit n F R s := by
  obtain ⟨vs, hf⟩ := hf
  exact ⟨vs, h.trans hf⟩
/-- The nil slice is a slice without elements. -/
theorem sub_ns (t sz : Nat) (h : look l t = .r .ns) : Sub (st n l vs cs) (st n ((t, .r (.sl sz [])) :: l) vs cs) := fun C a w ⟨p, hp⟩ => by
  refine ⟨p, { hp with tm := fun j => ?_ }⟩
  show AV.rel w _ _ (look ((t, .r (.sl sz [])) :: l) j) _
  rw [look_cons]
  split
  · rename_i e
    subst e
    have := hp.tm j
    rw [show (st n l vs cs).tm j = .r .ns from h] at this
    simp only [AV.rel] at this ⊢
    exact le_sl (.inr ⟨rfl, rfl⟩) this
  · exact hp.tm j
/-- The same where the rows tell of versions. -/
def FitV (n : Nat) (F : (Nat → Nat) → List (Nat × AV)) (R : (Nat → Nat) → List (Nat × RowC)) (s : AS) : Prop := ∃ vs, Sub s (st n (F vs) vs (R vs))
theorem fitV_of (ks : List Nat) {F : (Nat → Nat) → List (Nat × AV)} {R : (Nat → Nat) → List (Nat × RowC)} (h1 : allEq l (F (killV vs ks))) (h2 : killC cs ks = R (killV vs ks)) (h3 : small ks = true := by rfl) : FitV n F R (st n l vs cs) := by
  refine ⟨killV vs ks, (sub_kills ks vs cs h3).trans ?_⟩
  rw [← h2]
  exact sub_look _ (allEq_mem h1)
theorem awp_whileV {P : Program} {C : Ctx} {c : Code} {Q : Exit → AS → Prop} {s : AS} {α : Type} (F : α → (Nat → Nat) → List (Nat × AV)) (R : α → (Nat → Nat) → List (Nat × RowC)) (I : α → Prop) (m : α → Nat) (x0 : α)
    (h0 : FitV n (F x0) (R x0) s) (hI : I x0)
    (round : ∀ x vs, I x → awp P C c (andThen (fun s' => ∃ y, I y ∧ m y < m x ∧ FitV n (F y) (R y) s') Q) (st n (F x vs) vs (R x vs))) : awp P C (.loop c) Q s := by
  refine awp_loop (fun k s => ∃ x, I x ∧ m x = k ∧ FitV n (F x) (R x) s) (m x0) ⟨x0, hI, rfl, h0⟩ ?_
  rintro k s ⟨x, hx, rfl, vs, hs⟩
  refine awp_sub hs (awp_mono ?_ (round x vs hx))
  intro e s' hq
  cases e with
  | normal =>
    obtain ⟨y, hy, hlt, hf⟩ := hq
    exact ⟨m y, hlt, y, hy, rfl, hf⟩
  | _ => exact hq
end
end Go.Oc

/- What the tests of orders return, by the program and by the document. -/
namespace Go.Proofs.Ytnklbfmdojpfkaa
open Go Go.Oc
set_option linter.unusedSimpArgs false
set_option linter.unusedVariables false
set_option maxRecDepth 8000
/-! ### Counting in a map -/
abbrev encI (e : Int × Int) : RV × RV := (i64 e.1, i64 e.2)
def findI (p : Int) : List (Int × Int) → Nat → Option (Nat × Int)
  | [], _ => none
  | e :: l, i => if p = e.1 then some (i, e.2) else findI p l (i + 1)
theorem findK_I (p : Int) : ∀ (M : List (Int × Int)) (i : Nat), findK (i64 p) (M.map encI) i = some ((findI p M i).map fun x => (x.1, i64 x.2))
  | [], i => rfl
  | e :: M, i => by
    simp only [List.map_cons, findK, sameK, if_true, findI]
    by_cases h : p = e.1
    · have : (p == e.1) = true := by simp [h]
      rw [this]; simp [h]
    · have : (p == e.1) = false := by simp [h]
      rw [this, if_neg h]
      exact findK_I p M (i + 1)
theorem findI_some {p : Int} : ∀ {M : List (Int × Int)} {i j : Nat} {v : Int}, findI p M i = some (j, v) → i ≤ j ∧ M[j - i]? = some (p, v)
  | [], _, _, _, h => by simp [findI] at h
  | e :: M, i, j, v, h => by
    unfold findI at h
    split at h
    · rename_i he
      injection h with h; injection h with h1 h2
      subst h1 h2
      refine ⟨Nat.le_refl _, ?_⟩
      rw [Nat.sub_self]
      simp [he]
    · obtain ⟨h1, h2⟩ := findI_some h
      refine ⟨by omega, ?_⟩
      rw [show j - i = (j - (i + 1)) + 1 by omega]
      simpa using h2
theorem findI_none {p : Int} : ∀ {M : List (Int × Int)} {i : Nat}, findI p M i = none → ∀ e ∈ M, e.1 ≠ p
  | [], _, _, e, he => by simp at he
  | x :: M, i, h, e, he => by
    unfold findI at h
    split at h
    · cases h
    · rename_i hx
      rcases List.mem_cons.1 he with rfl | he
      · exact fun e => hx e.symm
      · exact findI_none h e he
def CntOk (M : List (Int × Int)) (q : List Int) : Prop := (∀ e ∈ M, e.2 = (q.count e.1 : Int)) ∧ (∀ p ∈ q, ∃ e ∈ M, e.1 = p) ∧ (M.map (·.1)).Nodup
theorem cnt_nil : CntOk [] [] := ⟨by simp, by simp, by simp⟩
theorem cnt_new {M : List (Int × Int)} {q : List Int} {p : Int} (h : CntOk M q) (hp : ∀ e ∈ M, e.1 ≠ p) : CntOk (M ++ [(p, 1)]) (q ++ [p]) := by
  obtain ⟨h1, h2, h3⟩ := h
  have hq : q.count p = 0 := List.count_eq_zero.2 fun hm => by
    obtain ⟨e, he, e1⟩ := h2 p hm
    exact hp e he e1
  refine ⟨fun e he => ?_, fun x hx => ?_, ?_⟩
  · rcases List.mem_append.1 he with he | he
    · have h0 : List.count e.1 [p] = 0 := List.count_eq_zero.2 (by simpa using hp e he)
      rw [List.count_append, h1 e he, h0]
      simp
    · simp only [List.mem_singleton] at he
      subst he
      rw [List.count_append, hq]
      simp
  · rcases List.mem_append.1 hx with hx | hx
    · obtain ⟨e, he, e1⟩ := h2 x hx
      exact ⟨e, by simp [he], e1⟩
    · simp only [List.mem_singleton] at hx
      exact ⟨(p, 1), by simp, hx.symm⟩
  · rw [List.map_append, List.nodup_append]
    refine ⟨h3, by simp, fun a ha b hb => ?_⟩
    obtain ⟨e, he, rfl⟩ := List.mem_map.1 ha
    simp only [List.map_cons, List.map_nil, List.mem_singleton] at hb
    subst hb
    exact hp e he
theorem cnt_old {M : List (Int × Int)} {q : List Int} {p v : Int} {j : Nat} (h : CntOk M q) (hj : M[j]? = some (p, v)) : CntOk (M.set j (p, v + 1)) (q ++ [p]) := by
  obtain ⟨h1, h2, h3⟩ := h
  have hjl := (List.getElem?_eq_some_iff.1 hj).1
  have hv := h1 _ (List.mem_of_getElem? hj)
  have hmap : (M.set j (p, v + 1)).map (·.1) = M.map (·.1) := by
    refine List.ext_getElem? fun i => ?_
    rw [List.map_set, List.getElem?_set]
    split
    · rename_i e; subst e
      rw [List.length_map, if_pos hjl, List.getElem?_map, hj]; rfl
    · rfl
  refine ⟨fun e he => ?_, fun x hx => ?_, by rw [hmap]; exact h3⟩
  · obtain ⟨i, hi⟩ := List.getElem?_of_mem he
    rw [List.getElem?_set] at hi
    split at hi
    · rename_i eij
      injection hi with hi
      subst hi
      simp only at hv ⊢
      rw [List.count_append, hv]
      simp
    · rename_i eij
      have hm := List.mem_of_getElem? hi
      have hne : e.1 ≠ p := fun e1 => by
        have e2 : (M.map (·.1))[i]? = some p := by rw [List.getElem?_map, hi]; simp [e1]
        have e3 : (M.map (·.1))[j]? = some p := by rw [List.getElem?_map, hj]; rfl
        exact eij ((List.getElem?_inj (by rw [List.length_map]; exact hjl) h3).1 (e3.trans e2.symm))
      have h0 : List.count e.1 [p] = 0 := List.count_eq_zero.2 (by simpa using hne)
      rw [List.count_append, h1 e hm, h0]
      simp
  · rcases List.mem_append.1 hx with hx | hx
    · obtain ⟨e, he, e1⟩ := h2 x hx
      have : x ∈ (M.set j (p, v + 1)).map (·.1) := by rw [hmap]; exact List.mem_map.2 ⟨e, he, e1⟩
      obtain ⟨e', he', e2⟩ := List.mem_map.1 this
      exact ⟨e', he', e2⟩
    · simp only [List.mem_singleton] at hx
      exact ⟨(p, v + 1), List.mem_of_getElem? (i := j) (by rw [List.getElem?_set, if_pos rfl, if_pos hjl]), hx.symm⟩
theorem cnt_le {M : List (Int × Int)} {q : List Int} (h : CntOk M q) (b : Int) (hb : 0 ≤ b) : (∀ e ∈ M, e.2 ≤ b) ↔ (q.all fun p => decide ((q.count p : Int) ≤ b)) = true := by
  obtain ⟨h1, h2, h3⟩ := h
  simp only [List.all_eq_true, decide_eq_true_eq]
  constructor
  · intro h p hp
    obtain ⟨e, he, e1⟩ := h2 p hp
    have := h e he
    rw [h1 e he, e1] at this
    exact this
  · intro h e he
    rw [h1 e he]
    by_cases hm : e.1 ∈ q
    · exact h _ hm
    · rw [List.count_eq_zero.2 hm]; simpa using hb
/-! ### Orders -/
abbrev listsR (l : List (List Int)) : RV := .sl 1 (l.map fun x => [ints x])
def ascB : List Int → Bool
  | x :: y :: _ => decide (x < y)
  | _ => true
def playB (r : Rules) (l : List Int) (g : Game) : Bool := decide ((l.length : Int) = g.pl) && withinL 0 (r.squad - 1) l && ascB l
def orderB (r : Rules) (l : List (List Int)) : Bool :=
  decide (l.length = r.gs.length) && (l.zip r.gs).all (fun p => playB r p.1 p.2) && l.flatten.all (fun p => decide ((l.flatten.count p : Int) ≤ r.most))
theorem rulesB_facts {r : Rules} (h : rulesB r = true) : (1 ≤ r.squad ∧ r.squad ≤ 16) ∧ (1 ≤ r.gs.length ∧ r.gs.length ≤ 20) ∧ (1 ≤ r.most ∧ r.most ≤ 20) ∧ (∀ g ∈ r.gs, (1 ≤ g.pl ∧ g.pl ≤ 2 ∧ g.pl ≤ r.squad) ∧ (1 ≤ g.lg ∧ g.lg ≤ 15) ∧ 0 ≤ g.pt ∧ g.pt ≤ 99) ∧ 0 ≤ r.bonus ∧ r.bonus ≤ 99 := by
  simp only [rulesB, Bool.and_eq_true] at h
  obtain ⟨⟨⟨h1, h2⟩, h3⟩, h4⟩ := h
  have g2 := withinL_mem h2
  have ga := g2 (r.gs.length : Int) (by simp)
  have gb := g2 r.most (by simp)
  refine ⟨withinL_one h1, ⟨by omega, by omega⟩, gb, fun g hg => ?_, withinL_one h4⟩
  have := List.all_eq_true.1 h3 g hg
  simp only [isGameB, Bool.and_eq_true] at this
  obtain ⟨⟨a1, a2⟩, a3⟩ := this
  have b1 := withinL_one a1
  exact ⟨⟨b1.1, by omega, by omega⟩, withinL_one a2, withinL_one a3⟩
theorem zip_get {α β : Type} {l : List α} {m : List β} {i : Nat} {x : α} {y : β} (hx : l[i]? = some x) (hy : m[i]? = some y) : (l.zip m)[i]? = some (x, y) := by
  rw [List.getElem?_zip_eq_some]; exact ⟨hx, hy⟩
theorem order_bad {r : Rules} {l : List (List Int)} {i : Nat} {x : List Int} {g : Game} (hx : l[i]? = some x) (hg : r.gs[i]? = some g) (h : playB r x g = false) : orderB r l = false := by
  have : (l.zip r.gs).all (fun p => playB r p.1 p.2) = false := by
    refine Bool.eq_false_iff.2 fun hl => ?_
    have := List.all_eq_true.1 hl _ (List.mem_of_getElem? (zip_get hx hg))
    rw [h] at this; cases this
  simp [orderB, this]
theorem erase_map {α β : Type} (f : α → β) (L : List α) (j : Nat) : (L.map f).eraseIdx j = (L.eraseIdx j).map f := by
  rw [List.eraseIdx_eq_take_drop_succ, List.eraseIdx_eq_take_drop_succ, List.map_append, List.map_take, List.map_drop]
theorem asc_one {x : List Int} (h : x.length = 1) : ascB x = true := by
  match x, h with
  | [p0], _ => rfl
theorem two_of {x : List Int} (h : x.length = 2) : ∃ p0 p1, x = [p0, p1] := by
  match x, h with
  | [p0, p1], _ => exact ⟨p0, p1, rfl⟩
theorem isOrder_ok (r : Rules) (l : List (List Int)) (hr : rulesB r = true) (hl : l.length ≤ 25) : ACalls Try.prog 47 [.ag (rulesC r), listsR l] (.bo (orderB r l)) := by
  obtain ⟨⟨f1, f2⟩, ⟨f3, f4⟩, ⟨f5, f6⟩, f7, _⟩ := rulesB_facts hr
  refine acalls_st (rs := [.bo (orderB r l)]) [.tmp 4] Try.func47 rfl (by kernel_rfl) Try.ntmps47 rfl (by simp) rfl fun C vs => ?_
  repeat refine awp_seq ?_
  refine awp_reg (by kernel_rfl) fun K hK => ?_
  simp only [go_sem]
  (try simp (disch := omega) only [wrapI])
  repeat first | intro _ | refine ⟨(by omega), ?_⟩ | refine ⟨⟨by omega, by omega⟩, ?_⟩
  refine hK _ ?_
  clear hK K
  repeat refine awp_seq ?_
  refine awp_reg (by kernel_rfl) fun K hK => ?_
  simp only [go_sem]
  (try simp (disch := omega) only [wrapI])
  intro _ _
  by_cases h1 : l.length = r.gs.length
  case neg =>
    have e4 : ((l.length : Int) != r.gs.length) = true := by simp; omega
    rw [e4]
    repeat first | intro _ | refine ⟨(by omega), ?_⟩ | refine ⟨⟨by omega, by omega⟩, ?_⟩
    refine hK _ ?_
    clear hK K
    repeat refine awp_seq ?_
    refine awp_cond rfl (fun hc => ?_) (fun hc => ?_) <;> (try simp only [go_sem] at hc)
    repeat refine awp_seq ?_
    refine awp_reg (by kernel_rfl) fun K hK => ?_
    simp only [go_sem]
    (try simp (disch := omega) only [wrapI])
    repeat first | intro _ | refine ⟨(by omega), ?_⟩ | refine ⟨⟨by omega, by omega⟩, ?_⟩
    refine hK _ ?_
    clear hK K
    refine awp_ret ?_
    simp only [go_sem]
    simp [orderB, h1]
  have e4 : ((l.length : Int) != r.gs.length) = false := by simp [h1]
  rw [e4]
  repeat first | intro _ | refine ⟨(by omega), ?_⟩ | refine ⟨⟨by omega, by omega⟩, ?_⟩
  refine hK _ ?_
  clear hK K
  repeat refine awp_seq ?_
  refine awp_cond rfl (fun hc => ?_) (fun hc => ?_) <;> (try simp only [go_sem] at hc)
  refine awp_skip ?_
  try simp only [go_sem]
  repeat refine awp_seq ?_
  refine awp_reg (by kernel_rfl) fun K hK => ?_
  simp only [go_sem]
  (try simp (disch := omega) only [wrapI])
  repeat first | intro _ | refine ⟨(by omega), ?_⟩ | refine ⟨⟨by omega, by omega⟩, ?_⟩
  refine hK _ ?_
  clear hK K
  repeat refine awp_seq ?_
  refine awp_reg (by kernel_rfl) fun K hK => ?_
  simp only [go_sem]
  (try simp (disch := omega) only [wrapI])
  repeat first | intro _ | refine ⟨(by omega), ?_⟩ | refine ⟨⟨by omega, by omega⟩, ?_⟩
  refine hK _ ?_
  clear hK K
  repeat refine awp_seq ?_
  refine awp_block ?_
  refine awp_while (n := 83) (fun (x : Nat × List (Int × Int)) vs => [(1, .r (listsR l)), (2, .pt 2 (vs 2) 0), (5, .mp 19 (vs 19)), (20, .r (listsR l)), (21, .r (i64 l.length)), (22, .r (i64 x.1))])
    (fun x => [(2, .box [.r (i64 r.squad), .r (games r.gs), .r (i64 r.most), .r (i64 r.bonus)]), (19, .mp (x.2.map encI))])
    (fun x => x.1 ≤ l.length ∧ ((l.zip r.gs).take x.1).all (fun p => playB r p.1 p.2) = true ∧ CntOk x.2 (l.take x.1).flatten ∧ (l.take x.1).flatten.length ≤ 2 * x.1) (fun x => l.length - x.1) (0, []) (fit_of [] ?_ ?_) ⟨by simp, by simp, by simpa using cnt_nil, by simp⟩ ?_
  · try simp only [go_sem]
  · try simp only [go_sem]
  · rintro ⟨i, M⟩ vs ⟨hi, hI, hM, hL⟩
    simp only at hi hI hM hL
    repeat refine awp_seq ?_
    refine awp_reg (by kernel_rfl) fun K hK => ?_
    simp only [go_sem]
    (try simp (disch := omega) only [wrapI])
    repeat first | intro _ | refine ⟨(by omega), ?_⟩ | refine ⟨⟨by omega, by omega⟩, ?_⟩
    refine hK _ ?_
    clear hK K
    repeat refine awp_seq ?_
    refine awp_cond rfl (fun hc => ?_) (fun hc => ?_) <;> (try simp only [go_sem] at hc)
    · have hci := hc
      obtain ⟨x, hx⟩ := opt_of_lt hci
      have hc2 : i < r.gs.length := by omega
      obtain ⟨g, hg⟩ := opt_of_lt hc2
      obtain ⟨⟨g1, g2, g3⟩, _⟩ := f7 g (mem_of_opt hg)
      have hbad := order_bad hx hg
      refine awp_skip ?_
      repeat refine awp_seq ?_
      refine awp_block ?_
      repeat refine awp_seq ?_
      refine awp_reg (by kernel_rfl) fun K hK => ?_
      simp only [go_sem, hx, hci]
      (try simp (disch := omega) only [wrapI])
      repeat first | intro _ | refine ⟨(by omega), ?_⟩ | refine ⟨⟨by omega, by omega⟩, ?_⟩
      refine hK _ ?_
      clear hK K
      refine awp_seq ?_
      refine awp_join (n := 83) (fun (z : Unit) vs => [(1, .r (listsR l)), (2, .pt 2 (vs 2) 0), (5, .mp 19 (vs 19)), (7, .r (ints x)), (20, .r (listsR l)), (21, .r (i64 l.length)), (22, .r (i64 i))])
        (fun _ => [(2, .box [.r (i64 r.squad), .r (games r.gs), .r (i64 r.most), .r (i64 r.bonus)]), (19, .mp (M.map encI))]) (fun _ => playB r x g = true) (fun _ h => h) ?_ ?_
      · repeat refine awp_seq ?_
        refine awp_dreg follows (by decide +kernel) (by kernel_rfl) fun K hK => ?_
        simp only [go_sem, hg, hc2]
        (try simp (disch := omega) only [wrapI])
        intro _
        by_cases h2 : (x.length : Int) = g.pl
        case neg =>
          have e5 : ((x.length : Int) != g.pl) = true := by simp [h2]
          simp only [e5, go_sem]
          repeat first | intro _ | refine ⟨(by omega), ?_⟩ | refine ⟨⟨by omega, by omega⟩, ?_⟩
          refine hK _ ?_
          clear hK K
          repeat refine awp_seq ?_
          refine awp_cond rfl (fun hc => ?_) (fun hc => ?_) <;> (try simp only [go_sem] at hc)
          repeat refine awp_seq ?_
          refine awp_reg (by kernel_rfl) fun K hK => ?_
          simp only [go_sem]
          (try simp (disch := omega) only [wrapI])
          repeat first | intro _ | refine ⟨(by omega), ?_⟩ | refine ⟨⟨by omega, by omega⟩, ?_⟩
          refine hK _ ?_
          clear hK K
          refine awp_ret ?_
          simp only [go_sem]
          rw [hbad (by simp [playB, h2])]
        have e5 : ((x.length : Int) != g.pl) = false := by simp [h2]
        simp only [e5, go_sem]
        refine xcall_eq (within_ok 0 (r.squad - 1) x) rfl (by simp only [go_sem, i64, ints]) (by simp only [go_sem, i64, ints]) (by first | exact .inl rfl | exact .inr rfl) ?_
        (try simp only [go_sem])
        (try simp (disch := omega) only [wrapI])
        cases h3 : withinL 0 (r.squad - 1) x
        · try simp only [go_sem]
          repeat first | intro _ | refine ⟨(by omega), ?_⟩ | refine ⟨⟨by omega, by omega⟩, ?_⟩
          refine hK _ ?_
          clear hK K
          repeat refine awp_seq ?_
          refine awp_cond rfl (fun hc => ?_) (fun hc => ?_) <;> (try simp only [go_sem] at hc)
          repeat refine awp_seq ?_
          refine awp_reg (by kernel_rfl) fun K hK => ?_
          simp only [go_sem]
          (try simp (disch := omega) only [wrapI])
          repeat first | intro _ | refine ⟨(by omega), ?_⟩ | refine ⟨⟨by omega, by omega⟩, ?_⟩
          refine hK _ ?_
          clear hK K
          refine awp_ret ?_
          simp only [go_sem]
          rw [hbad (by simp [playB, h3])]
        try simp only [go_sem]
        intro _
        have hlen : x.length = 1 ∨ x.length = 2 := by omega
        rcases hlen with hlen | hlen
        · have e6 : ((1 : Int) < x.length) = False := by simp; omega
          simp only [e6, go_sem]
          repeat first | intro _ | refine ⟨(by omega), ?_⟩ | refine ⟨⟨by omega, by omega⟩, ?_⟩
          refine hK _ ?_
          clear hK K
          repeat refine awp_seq ?_
          refine awp_cond rfl (fun hc => ?_) (fun hc => ?_) <;> (try simp only [go_sem] at hc)
          refine awp_skip ?_
          have := asc_one hlen
          exact ⟨(), by simp [playB, h2, h3, this], fit_of [] (by simp only [go_sem]) rfl⟩
        · have e6 : ((1 : Int) < x.length) = True := by simp; omega
          obtain ⟨p0, p1, rfl⟩ := two_of hlen
          have hx0 : ([p0, p1] : List Int)[0]? = some p0 := rfl
          have hx1 : ([p0, p1] : List Int)[1]? = some p1 := rfl
          simp only [e6, hx0, hx1, go_sem]
          repeat first | intro _ | refine ⟨(by omega), ?_⟩ | refine ⟨⟨by omega, by omega⟩, ?_⟩
          refine hK _ ?_
          clear hK K
          by_cases h5 : p1 ≤ p0
          · have e7 : decide (p1 ≤ p0) = true := by simp [h5]
            rw [e7]
            repeat refine awp_seq ?_
            refine awp_cond rfl (fun hc => ?_) (fun hc => ?_) <;> (try simp only [go_sem] at hc)
            repeat refine awp_seq ?_
            refine awp_reg (by kernel_rfl) fun K hK => ?_
            simp only [go_sem]
            (try simp (disch := omega) only [wrapI])
            repeat first | intro _ | refine ⟨(by omega), ?_⟩ | refine ⟨⟨by omega, by omega⟩, ?_⟩
            refine hK _ ?_
            clear hK K
            refine awp_ret ?_
            simp only [go_sem]
            rw [hbad (by simp [playB, ascB]; omega)]
          · have e7 : decide (p1 ≤ p0) = false := by simp [h5]
            rw [e7]
            repeat refine awp_seq ?_
            refine awp_cond rfl (fun hc => ?_) (fun hc => ?_) <;> (try simp only [go_sem] at hc)
            refine awp_skip ?_
            exact ⟨(), by simp only [playB, h2, h3, ascB]; simp; omega, fit_of [] (by simp only [go_sem]) rfl⟩
      · rintro ⟨⟩ vs hp
        have hp' := hp
        simp only [playB, Bool.and_eq_true, decide_eq_true_eq] at hp'
        obtain ⟨⟨hp1, hp2⟩, hp3⟩ := hp'
        repeat refine awp_seq ?_
        refine awp_reg (by kernel_rfl) fun K hK => ?_
        simp only [go_sem]
        (try simp (disch := omega) only [wrapI])
        intro _
        repeat first | intro _ | refine ⟨(by omega), ?_⟩ | refine ⟨⟨by omega, by omega⟩, ?_⟩
        refine hK _ ?_
        clear hK K
        repeat refine awp_seq ?_
        refine awp_block ?_
        refine awp_while (n := 83) (fun (y : Nat × List (Int × Int)) vs => [(1, .r (listsR l)), (2, .pt 2 (vs 2) 0), (5, .mp 19 (vs 19)), (20, .r (listsR l)), (21, .r (i64 l.length)), (22, .r (i64 i)), (60, .r (ints x)), (61, .r (i64 x.length)), (62, .r (i64 y.1))])
          (fun y => [(2, .box [.r (i64 r.squad), .r (games r.gs), .r (i64 r.most), .r (i64 r.bonus)]), (19, .mp (y.2.map encI))])
          (fun y => y.1 ≤ x.length ∧ CntOk y.2 ((l.take i).flatten ++ x.take y.1)) (fun y => x.length - y.1) (0, M) (fit_of [] ?_ rfl) ⟨by simp, by simpa using hM⟩ ?_
        · try simp only [go_sem]
        · rintro ⟨k, M'⟩ vs ⟨hk, hM'⟩
          simp only at hk hM'
          repeat refine awp_seq ?_
          refine awp_reg (by kernel_rfl) fun K hK => ?_
          simp only [go_sem]
          (try simp (disch := omega) only [wrapI])
          repeat first | intro _ | refine ⟨(by omega), ?_⟩ | refine ⟨⟨by omega, by omega⟩, ?_⟩
          refine hK _ ?_
          clear hK K
          repeat refine awp_seq ?_
          refine awp_cond rfl (fun hc => ?_) (fun hc => ?_) <;> (try simp only [go_sem] at hc)
          · have hck := hc
            obtain ⟨p, hpx⟩ := opt_of_lt hck
            refine awp_skip ?_
            repeat refine awp_seq ?_
            refine awp_block ?_
            repeat refine awp_seq ?_
            refine awp_reg (by kernel_rfl) fun K hK => ?_
            simp only [go_sem, hpx, hck]
            (try simp (disch := omega) only [wrapI])
            repeat first | intro _ | refine ⟨(by omega), ?_⟩ | refine ⟨⟨by omega, by omega⟩, ?_⟩
            refine hK _ ?_
            clear hK K
            have hfk := findK_I p M' 0
            cases hf : findI p M' 0 with
            | none =>
              rw [hf] at hfk
              have hnew := cnt_new hM' (findI_none hf)
              repeat refine awp_seq ?_
              refine awp_reg (by kernel_rfl) fun K hK => ?_
              simp only [go_sem, hfk, Option.map_none]
              (try simp (disch := omega) only [wrapI])
              repeat first | intro _ | refine ⟨(by omega), ?_⟩ | refine ⟨⟨by omega, by omega⟩, ?_⟩
              refine hK _ ?_
              clear hK K
              try simp only [go_sem]
              repeat refine awp_seq ?_
              refine awp_reg (by kernel_rfl) fun K hK => ?_
              simp only [go_sem]
              (try simp (disch := omega) only [wrapI])
              repeat first | intro _ | refine ⟨(by omega), ?_⟩ | refine ⟨⟨by omega, by omega⟩, ?_⟩
              refine hK _ ?_
              clear hK K
              try simp only [go_sem]
              refine ⟨(k + 1, M' ++ [(p, 1)]), ⟨hck, ?_⟩, ?_, fit_of [] ?_ ?_⟩
              · rw [take_of_opt hpx, ← List.append_assoc]; exact hnew
              · simp only; omega
              · try simp only [go_sem]
              · simp only [killC, List.map_append, List.map_cons, List.map_nil]
            | some jv =>
              obtain ⟨j, v⟩ := jv
              rw [hf] at hfk
              obtain ⟨_, hj⟩ := findI_some hf
              rw [Nat.sub_zero] at hj
              have hold := cnt_old hM' hj
              have hv : v ≤ 60 := by
                have h0 := hM'.1 _ (List.mem_of_getElem? hj)
                have h00 := List.count_le_length (a := p) (l := (l.take i).flatten ++ x.take k)
                simp only [List.length_append, List.length_take] at h00
                simp only at h0
                omega
              have hv0 : 0 ≤ v := by
                have h0 := hM'.1 _ (List.mem_of_getElem? hj)
                simp only at h0
                omega
              repeat refine awp_seq ?_
              refine awp_reg (by kernel_rfl) fun K hK => ?_
              simp only [go_sem, hfk, Option.map_some]
              (try simp (disch := omega) only [wrapI])
              repeat first | intro _ | refine ⟨(by omega), ?_⟩ | refine ⟨⟨by omega, by omega⟩, ?_⟩
              refine hK _ ?_
              clear hK K
              try simp only [go_sem]
              repeat refine awp_seq ?_
              refine awp_reg (by kernel_rfl) fun K hK => ?_
              simp only [go_sem]
              (try simp (disch := omega) only [wrapI])
              repeat first | intro _ | refine ⟨(by omega), ?_⟩ | refine ⟨⟨by omega, by omega⟩, ?_⟩
              refine hK _ ?_
              clear hK K
              try simp only [go_sem]
              refine ⟨(k + 1, M'.set j (p, v + 1)), ⟨hck, ?_⟩, ?_, fit_of [] ?_ ?_⟩
              · rw [take_of_opt hpx, ← List.append_assoc]; exact hold
              · simp only; omega
              · try simp only [go_sem]
              · simp only [killC, List.map_set]
          · have : k = x.length := by omega
            subst this
            rw [List.take_length] at hM'
            refine awp_exit ?_
            simp only [go_sem]
            repeat refine awp_seq ?_
            refine awp_reg (by kernel_rfl) fun K hK => ?_
            simp only [go_sem]
            (try simp (disch := omega) only [wrapI])
            repeat first | intro _ | refine ⟨(by omega), ?_⟩ | refine ⟨⟨by omega, by omega⟩, ?_⟩
            refine hK _ ?_
            clear hK K
            try simp only [go_sem]
            refine ⟨(i + 1, M'), ⟨hci, ?_, ?_, ?_⟩, ?_, fit_of [] ?_ rfl⟩
            · rw [take_of_opt (zip_get hx hg), List.all_append, hI]
              simp [hp]
            · rw [take_of_opt hx]; simpa using hM'
            · rw [take_of_opt hx, List.flatten_append, List.length_append]
              simp only [List.flatten_cons, List.flatten_nil, List.append_nil]
              omega
            · simp only; omega
            · try simp only [go_sem]
    · have : i = l.length := by omega
      subst this
      rw [List.take_length] at hM
      rw [List.take_of_length_le (by rw [List.length_zip]; omega)] at hI
      have hcl := cnt_le hM r.most (by omega)
      have hord : orderB r l = l.flatten.all (fun p => decide ((l.flatten.count p : Int) ≤ r.most)) := by
        simp only [orderB, h1, decide_true, Bool.true_and]
        rw [show (l.zip r.gs).all (fun p => playB r p.1 p.2) = true from hI, Bool.true_and]
      refine awp_exit ?_
      simp only [go_sem]
      repeat refine awp_seq ?_
      refine awp_reg (by kernel_rfl) fun K hK => ?_
      simp only [go_sem]
      (try simp (disch := omega) only [wrapI])
      refine ⟨by decide, ?_⟩
      repeat first | intro _ | refine ⟨(by omega), ?_⟩ | refine ⟨⟨by omega, by omega⟩, ?_⟩
      refine hK _ ?_
      clear hK K
      repeat refine awp_seq ?_
      refine awp_block ?_
      refine awp_whileV (n := 83) (fun (x : List (Int × Int) × Option (RV × RV)) vs => [(2, .pt 2 (vs 2) 0), (73, .mi 73 (vs 73))])
        (fun x vs => [(2, .box [.r (i64 r.squad), .r (games r.gs), .r (i64 r.most), .r (i64 r.bonus)]), (19, .mpi (M.map encI)), (73, .mi 19 (vs 19) (x.1.map encI) x.2)])
        (fun x => (∀ e ∈ x.1, e ∈ M) ∧ ∀ e ∈ M, e ∈ x.1 ∨ e.2 ≤ r.most) (fun x => x.1.length) (M, none) (fitV_of [] ?_ ?_) ⟨fun _ h => h, fun _ h => .inl h⟩ ?_
      · try simp only [go_sem]
      · try simp only [go_sem]
      · rintro ⟨L, cur⟩ vs ⟨hL1, hL2⟩
        simp only at hL1 hL2
        repeat refine awp_seq ?_
        refine awp_reg (by kernel_rfl) fun K hK => ?_
        simp only [go_sem]
        (try simp (disch := omega) only [wrapI])
        refine ⟨by decide, fun hnil => ?_, fun j e hje => ?_⟩
        · have hLn : L = [] := by simpa using hnil
          subst hLn
          have hall : ∀ e ∈ M, e.2 ≤ r.most := fun e he => (hL2 e he).resolve_left (by simp)
          repeat first | intro _ | refine ⟨(by omega), ?_⟩ | refine ⟨⟨by omega, by omega⟩, ?_⟩
          refine hK _ ?_
          clear hK K
          repeat refine awp_seq ?_
          refine awp_cond rfl (fun hc => ?_) (fun hc => ?_) <;> (try simp only [go_sem] at hc)
          refine awp_exit ?_
          simp only [go_sem]
          repeat refine awp_seq ?_
          refine awp_reg (by kernel_rfl) fun K hK => ?_
          simp only [go_sem]
          (try simp (disch := omega) only [wrapI])
          repeat first | intro _ | refine ⟨(by omega), ?_⟩ | refine ⟨⟨by omega, by omega⟩, ?_⟩
          refine hK _ ?_
          clear hK K
          refine awp_ret ?_
          simp only [go_sem]
          rw [hord, hcl.1 hall]
        · rw [List.getElem?_map] at hje
          obtain ⟨e0, he0, rfl⟩ := Option.map_eq_some_iff.1 hje
          have hm0 := hL1 e0 (List.mem_of_getElem? he0)
          repeat first | intro _ | refine ⟨(by omega), ?_⟩ | refine ⟨⟨by omega, by omega⟩, ?_⟩
          refine hK _ ?_
          clear hK K
          repeat refine awp_seq ?_
          refine awp_cond rfl (fun hc => ?_) (fun hc => ?_) <;> (try simp only [go_sem] at hc)
          refine awp_skip ?_
          repeat refine awp_seq ?_
          refine awp_block ?_
          repeat refine awp_seq ?_
          refine awp_reg (by kernel_rfl) fun K hK => ?_
          simp only [go_sem]
          (try simp (disch := omega) only [wrapI])
          repeat first | intro _ | refine ⟨(by omega), ?_⟩ | refine ⟨⟨by omega, by omega⟩, ?_⟩
          refine hK _ ?_
          clear hK K
          repeat refine awp_seq ?_
          refine awp_reg (by kernel_rfl) fun K hK => ?_
          simp only [go_sem]
          (try simp (disch := omega) only [wrapI])
          repeat first | intro _ | refine ⟨(by omega), ?_⟩ | refine ⟨⟨by omega, by omega⟩, ?_⟩
          refine hK _ ?_
          clear hK K
          by_cases h5 : r.most < e0.2
          · have e7 : decide (r.most < e0.2) = true := by simp [h5]
            rw [e7]
            repeat refine awp_seq ?_
            refine awp_cond rfl (fun hc => ?_) (fun hc => ?_) <;> (try simp only [go_sem] at hc)
            repeat refine awp_seq ?_
            refine awp_reg (by kernel_rfl) fun K hK => ?_
            simp only [go_sem]
            (try simp (disch := omega) only [wrapI])
            repeat first | intro _ | refine ⟨(by omega), ?_⟩ | refine ⟨⟨by omega, by omega⟩, ?_⟩
            refine hK _ ?_
            clear hK K
            refine awp_ret ?_
            simp only [go_sem]
            rw [hord]
            refine (Bool.eq_false_iff.2 fun h => ?_).symm
            have := hcl.2 h e0 hm0
            omega
          · have e7 : decide (r.most < e0.2) = false := by simp [h5]
            rw [e7]
            repeat refine awp_seq ?_
            refine awp_cond rfl (fun hc => ?_) (fun hc => ?_) <;> (try simp only [go_sem] at hc)
            refine awp_skip ?_
            try simp only [go_sem]
            refine ⟨(L.eraseIdx j, some (encI e0)), ⟨fun e he => hL1 e (List.mem_of_mem_eraseIdx he), fun e he => ?_⟩, ?_, fitV_of [] ?_ ?_⟩
            · rcases hL2 e he with h | h
              · obtain ⟨i', hi'⟩ := List.getElem?_of_mem h
                by_cases hij : i' = j
                · subst hij
                  rw [he0] at hi'
                  injection hi' with hi'
                  subst hi'
                  right; omega
                · left
                  exact List.mem_eraseIdx_iff_getElem?.2 ⟨i', hij, hi'⟩
              · exact .inr h
            · have := (List.getElem?_eq_some_iff.1 he0).1
              simp only [List.length_eraseIdx, this, if_true]
              omega
            · try simp only [go_sem]
            · try simp only [go_sem]
              simp only [killC, erase_map]
end Go.Proofs.Ytnklbfmdojpfkaa

/- The document's test of an order. -/
namespace Go.Proofs.Ytnklbfmdojpfkaa
open Go Go.Oc
set_option linter.unusedSimpArgs false
set_option linter.unusedVariables false
set_option maxRecDepth 8000
/-- How often each player was named. -/
def tally (q : List Int) : List (List RV) := (List.range 16).map fun (p : Nat) => [i64 ((q.count (p : Int) : Nat) : Int)]
theorem tally_get {q : List Int} {p : Nat} (h : p < 16) : (tally q).getD p [] = [i64 ((q.count (p : Int) : Nat) : Int)] := by
  rw [List.getD_eq_getElem?_getD]
  unfold tally
  rw [List.getElem?_map, List.getElem?_range h]
  rfl
theorem tally_step {q : List Int} {p : Nat} (h : p < 16) : (tally q).set p [i64 (((q.count (p : Int) : Nat) : Int) + 1)] = tally (q ++ [(p : Int)]) := by
  refine List.ext_getElem? fun j => ?_
  unfold tally
  simp only [List.getElem?_set, List.length_map, List.length_range, List.getElem?_map]
  by_cases hj : j < 16
  · rw [List.getElem?_range hj]
    by_cases e : p = j
    · subst e
      simp [h, List.count_append]
    · have h0 : List.count (j : Int) [(p : Int)] = 0 := List.count_eq_zero.2 (by simp; omega)
      simp [e, List.count_append, h0]
  · have e : p ≠ j := by omega
    rw [if_neg e, List.getElem?_eq_none (by simp; omega)]
    rfl
theorem tally_nil : tally [] = List.replicate 16 [i64 0] := rfl
theorem tally_length (q : List Int) : (tally q).length = 16 := by simp [tally]
theorem count_bad {r : Rules} {l : List (List Int)} {q : List Int} {p : Int} (hq : q.Sublist l.flatten) (hp : p ∈ q) (h : r.most < (q.count p : Int)) : orderB r l = false := by
  have : l.flatten.all (fun p => decide ((l.flatten.count p : Int) ≤ r.most)) = false := by
    refine Bool.eq_false_iff.2 fun hl => ?_
    have h1 := List.all_eq_true.1 hl p (hq.subset hp)
    have h2 := hq.count_le p
    simp only [decide_eq_true_eq] at h1
    omega
  simp [orderB, this]
theorem sub_prefix {l : List (List Int)} {i k : Nat} {x : List Int} (hx : l[i]? = some x) : ((l.take i).flatten ++ x.take k).Sublist l.flatten := by
  have h1 : l = l.take i ++ (x :: l.drop (i + 1)) := by rw [← drop_of_opt hx, List.take_append_drop]
  have h2 : l.flatten = (l.take i).flatten ++ (x ++ (l.drop (i + 1)).flatten) := by
    conv => lhs; rw [h1]
    rw [List.flatten_append, List.flatten_cons]
  rw [h2]
  exact List.Sublist.append (List.Sublist.refl _) ((List.take_sublist k x).trans (List.sublist_append_left _ _))
def fewB (r : Rules) (q : List Int) : Bool := q.all fun p => decide ((q.count p : Int) ≤ r.most)
theorem few_step {r : Rules} {q : List Int} {p : Int} (h : fewB r q = true) (hp : ((q ++ [p]).count p : Int) ≤ r.most) : fewB r (q ++ [p]) = true := by
  unfold fewB at h ⊢
  simp only [List.all_eq_true, decide_eq_true_eq] at h ⊢
  intro x hx
  by_cases e : x = p
  · rw [e]; exact hp
  · rcases List.mem_append.1 hx with hx | hx
    · have h0 : List.count x [p] = 0 := List.count_eq_zero.2 (by simpa using e)
      rw [List.count_append, h0]
      exact h x hx
    · simp only [List.mem_singleton] at hx
      exact absurd hx e
theorem refOrder_ok (r : Rules) (l : List (List Int)) (hr : rulesB r = true) (hl : l.length ≤ 25) : ACalls Try.prog 21 [.ag (rulesC r), listsR l] (.bo (orderB r l)) := by
  obtain ⟨⟨f1, f2⟩, ⟨f3, f4⟩, ⟨f5, f6⟩, f7, _⟩ := rulesB_facts hr
  refine acalls_st (rs := [.bo (orderB r l)]) [.tmp 4] Try.func21 rfl (by kernel_rfl) Try.ntmps21 rfl (by simp) rfl fun C vs => ?_
  repeat refine awp_seq ?_
  refine awp_reg (by kernel_rfl) fun K hK => ?_
  simp only [go_sem]
  (try simp (disch := omega) only [wrapI])
  repeat first | intro _ | refine ⟨(by omega), ?_⟩ | refine ⟨⟨by omega, by omega⟩, ?_⟩
  refine hK _ ?_
  clear hK K
  repeat refine awp_seq ?_
  refine awp_reg (by kernel_rfl) fun K hK => ?_
  simp only [go_sem]
  (try simp (disch := omega) only [wrapI])
  intro _ _
  by_cases h1 : l.length = r.gs.length
  case neg =>
    have e4 : ((l.length : Int) != r.gs.length) = true := by simp; omega
    rw [e4]
    repeat first | intro _ | refine ⟨(by omega), ?_⟩ | refine ⟨⟨by omega, by omega⟩, ?_⟩
    refine hK _ ?_
    clear hK K
    repeat refine awp_seq ?_
    refine awp_cond rfl (fun hc => ?_) (fun hc => ?_) <;> (try simp only [go_sem] at hc)
    repeat refine awp_seq ?_
    refine awp_reg (by kernel_rfl) fun K hK => ?_
    simp only [go_sem]
    (try simp (disch := omega) only [wrapI])
    repeat first | intro _ | refine ⟨(by omega), ?_⟩ | refine ⟨⟨by omega, by omega⟩, ?_⟩
    refine hK _ ?_
    clear hK K
    refine awp_ret ?_
    simp only [go_sem]
    simp [orderB, h1]
  have e4 : ((l.length : Int) != r.gs.length) = false := by simp [h1]
  rw [e4]
  repeat first | intro _ | refine ⟨(by omega), ?_⟩ | refine ⟨⟨by omega, by omega⟩, ?_⟩
  refine hK _ ?_
  clear hK K
  repeat refine awp_seq ?_
  refine awp_cond rfl (fun hc => ?_) (fun hc => ?_) <;> (try simp only [go_sem] at hc)
  refine awp_skip ?_
  try simp only [go_sem]
  repeat refine awp_seq ?_
  refine awp_reg (by kernel_rfl) fun K hK => ?_
  simp only [go_sem]
  (try simp (disch := omega) only [wrapI])
  repeat first | intro _ | refine ⟨(by omega), ?_⟩ | refine ⟨⟨by omega, by omega⟩, ?_⟩
  refine hK _ ?_
  clear hK K
  repeat refine awp_seq ?_
  refine awp_reg (by kernel_rfl) fun K hK => ?_
  simp only [go_sem]
  (try simp (disch := omega) only [wrapI])
  repeat first | intro _ | refine ⟨(by omega), ?_⟩ | refine ⟨⟨by omega, by omega⟩, ?_⟩
  refine hK _ ?_
  clear hK K
  repeat refine awp_seq ?_
  refine awp_block ?_
  refine awp_upto (n := 85) l.length (fun i vs => [(1, .r (listsR l)), (2, .pt 2 (vs 2) 0), (5, .os 15 (vs 15) 1 0 16), (6, .r (i64 i))])
    (fun i => [(2, .box [.r (i64 r.squad), .r (games r.gs), .r (i64 r.most), .r (i64 r.bonus)]), (15, .arr 3 1 (tally (l.take i).flatten))])
    (fun i => ((l.zip r.gs).take i).all (fun p => playB r p.1 p.2) = true ∧ (l.take i).flatten.length ≤ 2 * i ∧ fewB r (l.take i).flatten = true) 0 (fit_of [] ?_ ?_) (Nat.zero_le _) ⟨by simp, by simp, by simp [fewB]⟩ ?_
  · try simp only [go_sem]
  · try simp only [go_sem]
    rw [List.flatten_nil, tally_nil]
    rfl
  · rintro i vs hi ⟨hI, hL, hF⟩
    repeat refine awp_seq ?_
    refine awp_reg (by kernel_rfl) fun K hK => ?_
    simp only [go_sem]
    (try simp (disch := omega) only [wrapI])
    intro _
    repeat first | intro _ | refine ⟨(by omega), ?_⟩ | refine ⟨⟨by omega, by omega⟩, ?_⟩
    refine hK _ ?_
    clear hK K
    repeat refine awp_seq ?_
    refine awp_cond rfl (fun hc => ?_) (fun hc => ?_) <;> (try simp only [go_sem] at hc)
    · have hci := hc
      obtain ⟨x, hx⟩ := opt_of_lt hci
      have hc2 : i < r.gs.length := by omega
      obtain ⟨g, hg⟩ := opt_of_lt hc2
      obtain ⟨⟨g1, g2, g3⟩, _⟩ := f7 g (mem_of_opt hg)
      have hbad := order_bad hx hg
      refine awp_skip ?_
      repeat refine awp_seq ?_
      refine awp_block ?_
      repeat refine awp_seq ?_
      refine awp_dreg follows (by decide +kernel) (by kernel_rfl) fun K hK => ?_
      simp only [go_sem, hx, hci, hg, hc2]
      (try simp (disch := omega) only [wrapI])
      intro _
      by_cases h2 : (x.length : Int) = g.pl
      case neg =>
        have e5 : ((x.length : Int) != g.pl) = true := by simp [h2]
        simp only [e5, go_sem]
        repeat first | intro _ | refine ⟨(by omega), ?_⟩ | refine ⟨⟨by omega, by omega⟩, ?_⟩
        refine hK _ ?_
        clear hK K
        repeat refine awp_seq ?_
        refine awp_cond rfl (fun hc => ?_) (fun hc => ?_) <;> (try simp only [go_sem] at hc)
        repeat refine awp_seq ?_
        refine awp_reg (by kernel_rfl) fun K hK => ?_
        simp only [go_sem]
        (try simp (disch := omega) only [wrapI])
        repeat first | intro _ | refine ⟨(by omega), ?_⟩ | refine ⟨⟨by omega, by omega⟩, ?_⟩
        refine hK _ ?_
        clear hK K
        refine awp_ret ?_
        simp only [go_sem]
        rw [hbad (by simp [playB, h2])]
      have e5 : ((x.length : Int) != g.pl) = false := by simp [h2]
      simp only [e5, go_sem]
      repeat first | intro _ | refine ⟨(by omega), ?_⟩ | refine ⟨⟨by omega, by omega⟩, ?_⟩
      refine hK _ ?_
      clear hK K
      repeat refine awp_seq ?_
      refine awp_cond rfl (fun hc => ?_) (fun hc => ?_) <;> (try simp only [go_sem] at hc)
      refine awp_skip ?_
      try simp only [go_sem]
      repeat refine awp_seq ?_
      refine awp_reg (by kernel_rfl) fun K hK => ?_
      simp only [go_sem]
      (try simp (disch := omega) only [wrapI])
      repeat first | intro _ | refine ⟨(by omega), ?_⟩ | refine ⟨⟨by omega, by omega⟩, ?_⟩
      refine hK _ ?_
      clear hK K
      repeat refine awp_seq ?_
      refine awp_block ?_
      refine awp_upto (n := 85) x.length (fun k vs => [(1, .r (listsR l)), (2, .pt 2 (vs 2) 0), (5, .os 15 (vs 15) 1 0 16), (6, .r (i64 i)), (7, .r (i64 k))])
        (fun k => [(2, .box [.r (i64 r.squad), .r (games r.gs), .r (i64 r.most), .r (i64 r.bonus)]), (15, .arr 3 1 (tally ((l.take i).flatten ++ x.take k)))])
        (fun k => withinL 0 (r.squad - 1) (x.take k) = true ∧ (2 ≤ k → ascB x = true) ∧ fewB r ((l.take i).flatten ++ x.take k) = true) 0 (fit_of [] ?_ ?_) (Nat.zero_le _) ⟨by simp [withinL], by omega, by simpa using hF⟩ ?_
      · try simp only [go_sem]
      · try simp only [go_sem]
      · rintro k vs hk ⟨hW, hA, hF2⟩
        repeat refine awp_seq ?_
        refine awp_reg (by kernel_rfl) fun K hK => ?_
        simp only [go_sem, hx, hci]
        (try simp (disch := omega) only [wrapI])
        repeat first | intro _ | refine ⟨(by omega), ?_⟩ | refine ⟨⟨by omega, by omega⟩, ?_⟩
        refine hK _ ?_
        clear hK K
        repeat refine awp_seq ?_
        refine awp_cond rfl (fun hc => ?_) (fun hc => ?_) <;> (try simp only [go_sem] at hc)
        · have hck := hc
          obtain ⟨p, hpx⟩ := opt_of_lt hck
          have hsub := sub_prefix (k := k + 1) hx
          refine awp_skip ?_
          repeat refine awp_seq ?_
          refine awp_block ?_
          repeat refine awp_seq ?_
          refine awp_reg (by kernel_rfl) fun K hK => ?_
          simp only [go_sem, hx, hci, hpx, hck]
          (try simp (disch := omega) only [wrapI])
          repeat first | intro _ | refine ⟨(by omega), ?_⟩ | refine ⟨⟨by omega, by omega⟩, ?_⟩
          refine hK _ ?_
          clear hK K
          refine awp_seq ?_
          refine awp_join (n := 85) (fun (z : Unit) vs => [(1, .r (listsR l)), (2, .pt 2 (vs 2) 0), (5, .os 15 (vs 15) 1 0 16), (6, .r (i64 i)), (7, .r (i64 k)), (8, .r (i64 p))])
            (fun _ => [(2, .box [.r (i64 r.squad), .r (games r.gs), .r (i64 r.most), .r (i64 r.bonus)]), (15, .arr 3 1 (tally ((l.take i).flatten ++ x.take k)))])
            (fun _ => withinL 0 (r.squad - 1) [p] = true ∧ (1 ≤ k → ascB x = true)) (fun _ h => h) ?_ ?_
          · repeat refine awp_seq ?_
            refine awp_reg (by kernel_rfl) fun K hK => ?_
            simp only [go_sem]
            (try simp (disch := omega) only [wrapI])
            refine xcall_eq (in1_ok p 0 (r.squad - 1)) rfl (by simp only [go_sem, i64, ints]) (by simp only [go_sem, i64, ints]) (by first | exact .inl rfl | exact .inr rfl) ?_
            (try simp only [go_sem])
            (try simp (disch := omega) only [wrapI])
            cases h6 : withinL 0 (r.squad - 1) [p]
            · try simp only [go_sem]
              repeat first | intro _ | refine ⟨(by omega), ?_⟩ | refine ⟨⟨by omega, by omega⟩, ?_⟩
              refine hK _ ?_
              clear hK K
              repeat refine awp_seq ?_
              refine awp_cond rfl (fun hc => ?_) (fun hc => ?_) <;> (try simp only [go_sem] at hc)
              repeat refine awp_seq ?_
              refine awp_reg (by kernel_rfl) fun K hK => ?_
              simp only [go_sem]
              (try simp (disch := omega) only [wrapI])
              repeat first | intro _ | refine ⟨(by omega), ?_⟩ | refine ⟨⟨by omega, by omega⟩, ?_⟩
              refine hK _ ?_
              clear hK K
              refine awp_ret ?_
              simp only [go_sem]
              rw [hbad (by simp [playB, withinL_bad (mem_of_opt hpx) h6])]
            try simp only [go_sem]
            by_cases hk0 : k = 0
            · subst hk0
              have e6 : ((0 : Int) < ((0 : Nat) : Int)) = False := by simp
              simp only [e6, go_sem]
              repeat first | intro _ | refine ⟨(by omega), ?_⟩ | refine ⟨⟨by omega, by omega⟩, ?_⟩
              refine hK _ ?_
              clear hK K
              repeat refine awp_seq ?_
              refine awp_cond rfl (fun hc => ?_) (fun hc => ?_) <;> (try simp only [go_sem] at hc)
              refine awp_skip ?_
              exact ⟨(), ⟨h6, by omega⟩, fit_of [] (by simp only [go_sem]) (by simp only [killC, go_sem])⟩
            · have hk1 : k = 1 := by omega
              subst hk1
              obtain ⟨p0, p1, rfl⟩ := two_of (show x.length = 2 by omega)
              have hpp : p1 = p := by simpa using hpx
              subst hpp
              have e6 : ((0 : Int) < ((1 : Nat) : Int)) = True := by simp
              have hx0 : ([p0, p1] : List Int)[0]? = some p0 := rfl
              have e8 : (((1 : Nat) : Int) - 1).toNat = 0 := rfl
              simp only [e6, hx, hci, e8, hx0, go_sem]
              repeat first | intro _ | refine ⟨(by omega), ?_⟩ | refine ⟨⟨by omega, by omega⟩, ?_⟩
              refine hK _ ?_
              clear hK K
              by_cases h5 : p1 ≤ p0
              · have e7 : decide (p1 ≤ p0) = true := by simp [h5]
                rw [e7]
                repeat refine awp_seq ?_
                refine awp_cond rfl (fun hc => ?_) (fun hc => ?_) <;> (try simp only [go_sem] at hc)
                repeat refine awp_seq ?_
                refine awp_reg (by kernel_rfl) fun K hK => ?_
                simp only [go_sem]
                (try simp (disch := omega) only [wrapI])
                repeat first | intro _ | refine ⟨(by omega), ?_⟩ | refine ⟨⟨by omega, by omega⟩, ?_⟩
                refine hK _ ?_
                clear hK K
                refine awp_ret ?_
                simp only [go_sem]
                rw [hbad (by simp [playB, ascB]; omega)]
              · have e7 : decide (p1 ≤ p0) = false := by simp [h5]
                rw [e7]
                repeat refine awp_seq ?_
                refine awp_cond rfl (fun hc => ?_) (fun hc => ?_) <;> (try simp only [go_sem] at hc)
                refine awp_skip ?_
                exact ⟨(), ⟨h6, fun _ => by simp [ascB]; omega⟩, fit_of [] (by simp only [go_sem]) (by simp only [killC, go_sem])⟩
          · rintro ⟨⟩ vs ⟨h6, hasc⟩
            have gp := withinL_one h6
            obtain ⟨p, rfl⟩ := Int.eq_ofNat_of_zero_le gp.1
            have hp16 : p < 16 := by omega
            have htg := tally_get (q := (l.take i).flatten ++ x.take k) hp16
            have hts := tally_step (q := (l.take i).flatten ++ x.take k) hp16
            have hcl := List.count_le_length (a := (p : Int)) (l := (l.take i).flatten ++ x.take k)
            simp only [List.length_append, List.length_take] at hcl
            generalize hq : (l.take i).flatten ++ x.take k = q at *
            have hsub' : (q ++ [(p : Int)]).Sublist l.flatten := by rw [take_of_opt hpx, ← List.append_assoc, hq] at hsub; exact hsub
            have htg2 := tally_get (q := q ++ [(p : Int)]) hp16
            repeat refine awp_seq ?_
            refine awp_reg (by kernel_rfl) fun K hK => ?_
            simp only [go_sem, htg, tally_length]
            (try simp (disch := omega) only [wrapI])
            refine ⟨by omega, by omega, hp16, ?_⟩
            rw [hts]
            repeat first | intro _ | refine ⟨(by omega), ?_⟩ | refine ⟨⟨by omega, by omega⟩, ?_⟩
            refine hK _ ?_
            clear hK K
            repeat refine awp_seq ?_
            refine awp_dreg follows (by decide +kernel) (by kernel_rfl) fun K hK => ?_
            simp only [go_sem, htg2, tally_length]
            (try simp (disch := omega) only [wrapI])
            refine ⟨by omega, ?_⟩
            repeat first | intro _ | refine ⟨(by omega), ?_⟩ | refine ⟨⟨by omega, by omega⟩, ?_⟩
            refine hK _ ?_
            clear hK K
            by_cases h7 : r.most < (((q ++ [(p : Int)]).count (p : Int) : Nat) : Int)
            · have e7 : decide (r.most < (((q ++ [(p : Int)]).count (p : Int) : Nat) : Int)) = true := by simp only [h7, decide_true]
              rw [e7]
              repeat refine awp_seq ?_
              refine awp_cond rfl (fun hc => ?_) (fun hc => ?_) <;> (try simp only [go_sem] at hc)
              repeat refine awp_seq ?_
              refine awp_reg (by kernel_rfl) fun K hK => ?_
              simp only [go_sem]
              (try simp (disch := omega) only [wrapI])
              repeat first | intro _ | refine ⟨(by omega), ?_⟩ | refine ⟨⟨by omega, by omega⟩, ?_⟩
              refine hK _ ?_
              clear hK K
              refine awp_ret ?_
              simp only [go_sem]
              rw [count_bad hsub' (by simp) h7]
            · have e7 : decide (r.most < (((q ++ [(p : Int)]).count (p : Int) : Nat) : Int)) = false := by simp only [h7, decide_false]
              rw [e7]
              repeat refine awp_seq ?_
              refine awp_cond rfl (fun hc => ?_) (fun hc => ?_) <;> (try simp only [go_sem] at hc)
              refine awp_skip ?_
              try simp only [go_sem]
              repeat refine awp_seq ?_
              refine awp_reg (by kernel_rfl) fun K hK => ?_
              simp only [go_sem]
              (try simp (disch := omega) only [wrapI])
              repeat first | intro _ | refine ⟨(by omega), ?_⟩ | refine ⟨⟨by omega, by omega⟩, ?_⟩
              refine hK _ ?_
              clear hK K
              try simp only [go_sem]
              refine ⟨hck, ⟨?_, fun h => hasc (by omega), ?_⟩, fit_of [] ?_ ?_⟩
              · rw [take_of_opt hpx]
                simp only [withinL, List.all_append, Bool.and_eq_true] at hW h6 ⊢
                exact ⟨hW, h6⟩
              · rw [take_of_opt hpx, ← List.append_assoc, hq]
                exact few_step hF2 (by omega)
              · try simp only [go_sem]
              · simp only [killC]
                rw [take_of_opt hpx, ← List.append_assoc, hq]
        · have : k = x.length := by omega
          subst this
          rw [List.take_length] at hW hF2
          have hasc : ascB x = true := by
            by_cases h9 : x.length = 1
            · exact asc_one h9
            · exact hA (by omega)
          refine awp_exit ?_
          simp only [go_sem]
          repeat refine awp_seq ?_
          refine awp_reg (by kernel_rfl) fun K hK => ?_
          simp only [go_sem]
          (try simp (disch := omega) only [wrapI])
          repeat first | intro _ | refine ⟨(by omega), ?_⟩ | refine ⟨⟨by omega, by omega⟩, ?_⟩
          refine hK _ ?_
          clear hK K
          try simp only [go_sem]
          refine ⟨hci, ⟨?_, ?_, ?_⟩, fit_of [] ?_ ?_⟩
          · rw [take_of_opt (zip_get hx hg), List.all_append, hI]
            simp [playB, h2, hW, hasc]
          · rw [take_of_opt hx, List.flatten_append, List.length_append]
            simp only [List.flatten_cons, List.flatten_nil, List.append_nil]
            omega
          · rw [take_of_opt hx]; simpa using hF2
          · try simp only [go_sem]
          · simp only [killC, List.take_length]
            rw [take_of_opt hx]; simp
    · have : i = l.length := by omega
      subst this
      rw [List.take_length] at hF
      rw [List.take_of_length_le (by rw [List.length_zip]; omega)] at hI
      have hord : orderB r l = true := by
        simp only [orderB, h1, decide_true, Bool.true_and, Bool.and_eq_true]
        exact ⟨hI, hF⟩
      refine awp_exit ?_
      simp only [go_sem]
      repeat refine awp_seq ?_
      refine awp_reg (by kernel_rfl) fun K hK => ?_
      simp only [go_sem]
      (try simp (disch := omega) only [wrapI])
      repeat first | intro _ | refine ⟨(by omega), ?_⟩ | refine ⟨⟨by omega, by omega⟩, ?_⟩
      refine hK _ ?_
      clear hK K
      refine awp_ret ?_
      simp only [go_sem]
      rw [hord]
end Go.Proofs.Ytnklbfmdojpfkaa

/- The document's comparison of lists of integers. -/
namespace Go.Proofs.Ytnklbfmdojpfkaa
open Go Go.Oc
set_option linter.unusedSimpArgs false
set_option linter.unusedVariables false
set_option maxRecDepth 8000
theorem refInts_ok (a b : List Int) : ACalls Try.prog 24 [ints a, ints b] (.bo (decide (a = b))) := by
  refine acalls_st (rs := [.bo (decide (a = b))]) [.tmp 4] Try.func24 rfl (by kernel_rfl) Try.ntmps24 rfl (by simp) rfl fun C vs => ?_
  repeat refine awp_seq ?_
  refine awp_reg (by kernel_rfl) fun K hK => ?_
  simp only [go_sem]
  (try simp (disch := omega) only [wrapI])
  repeat first | intro _ | refine ⟨(by omega), ?_⟩ | refine ⟨⟨by omega, by omega⟩, ?_⟩
  refine hK _ ?_
  clear hK K
  repeat refine awp_seq ?_
  refine awp_reg (by kernel_rfl) fun K hK => ?_
  simp only [go_sem]
  (try simp (disch := omega) only [wrapI])
  intro hla _
  by_cases h1 : a.length = b.length
  case neg =>
    have e4 : ((a.length : Int) != b.length) = true := by simp; omega
    rw [e4]
    repeat first | intro _ | refine ⟨(by omega), ?_⟩ | refine ⟨⟨by omega, by omega⟩, ?_⟩
    refine hK _ ?_
    clear hK K
    repeat refine awp_seq ?_
    refine awp_cond rfl (fun hc => ?_) (fun hc => ?_) <;> (try simp only [go_sem] at hc)
    repeat refine awp_seq ?_
    refine awp_reg (by kernel_rfl) fun K hK => ?_
    simp only [go_sem]
    (try simp (disch := omega) only [wrapI])
    repeat first | intro _ | refine ⟨(by omega), ?_⟩ | refine ⟨⟨by omega, by omega⟩, ?_⟩
    refine hK _ ?_
    clear hK K
    refine awp_ret ?_
    simp only [go_sem]
    simp
    exact fun h => h1 (by rw [h])
  have e4 : ((a.length : Int) != b.length) = false := by simp [h1]
  rw [e4]
  repeat first | intro _ | refine ⟨(by omega), ?_⟩ | refine ⟨⟨by omega, by omega⟩, ?_⟩
  refine hK _ ?_
  clear hK K
  repeat refine awp_seq ?_
  refine awp_cond rfl (fun hc => ?_) (fun hc => ?_) <;> (try simp only [go_sem] at hc)
  refine awp_skip ?_
  try simp only [go_sem]
  repeat refine awp_seq ?_
  refine awp_reg (by kernel_rfl) fun K hK => ?_
  simp only [go_sem]
  (try simp (disch := omega) only [wrapI])
  repeat first | intro _ | refine ⟨(by omega), ?_⟩ | refine ⟨⟨by omega, by omega⟩, ?_⟩
  refine hK _ ?_
  clear hK K
  repeat refine awp_seq ?_
  refine awp_block ?_
  refine awp_upto (n := 26) a.length (fun i vs => [(0, .r (ints a)), (1, .r (ints b)), (5, .r (i64 i))]) (fun _ => []) (fun i => a.take i = b.take i) 0 (fit_of [] ?_ rfl) (Nat.zero_le _) (by simp) ?_
  · try simp only [go_sem]
  · intro i vs hi hI
    repeat refine awp_seq ?_
    refine awp_reg (by kernel_rfl) fun K hK => ?_
    simp only [go_sem]
    (try simp (disch := omega) only [wrapI])
    intro _
    repeat first | intro _ | refine ⟨(by omega), ?_⟩ | refine ⟨⟨by omega, by omega⟩, ?_⟩
    refine hK _ ?_
    clear hK K
    repeat refine awp_seq ?_
    refine awp_cond rfl (fun hc => ?_) (fun hc => ?_) <;> (try simp only [go_sem] at hc)
    · have hci := hc
      have hc2 : i < b.length := by omega
      obtain ⟨x, hx⟩ := opt_of_lt hci
      obtain ⟨y, hy⟩ := opt_of_lt hc2
      refine awp_skip ?_
      repeat refine awp_seq ?_
      refine awp_block ?_
      repeat refine awp_seq ?_
      refine awp_dreg follows (by decide +kernel) (by kernel_rfl) fun K hK => ?_
      simp only [go_sem, hx, hy, hci, hc2]
      (try simp (disch := omega) only [wrapI])
      repeat first | intro _ | refine ⟨(by omega), ?_⟩ | refine ⟨⟨by omega, by omega⟩, ?_⟩
      refine hK _ ?_
      clear hK K
      by_cases hxy : x = y
      · have e5 : (x != y) = false := by simp [hxy]
        rw [e5]
        repeat refine awp_seq ?_
        refine awp_cond rfl (fun hc => ?_) (fun hc => ?_) <;> (try simp only [go_sem] at hc)
        refine awp_skip ?_
        try simp only [go_sem]
        repeat refine awp_seq ?_
        refine awp_reg (by kernel_rfl) fun K hK => ?_
        simp only [go_sem]
        (try simp (disch := omega) only [wrapI])
        repeat first | intro _ | refine ⟨(by omega), ?_⟩ | refine ⟨⟨by omega, by omega⟩, ?_⟩
        refine hK _ ?_
        clear hK K
        try simp only [go_sem]
        refine ⟨hci, ?_, fit_of [] ?_ rfl⟩
        · rw [take_of_opt hx, take_of_opt hy, hI, hxy]
        · try simp only [go_sem]
      · have e5 : (x != y) = true := by simp [hxy]
        rw [e5]
        repeat refine awp_seq ?_
        refine awp_cond rfl (fun hc => ?_) (fun hc => ?_) <;> (try simp only [go_sem] at hc)
        repeat refine awp_seq ?_
        refine awp_reg (by kernel_rfl) fun K hK => ?_
        simp only [go_sem]
        (try simp (disch := omega) only [wrapI])
        repeat first | intro _ | refine ⟨(by omega), ?_⟩ | refine ⟨⟨by omega, by omega⟩, ?_⟩
        refine hK _ ?_
        clear hK K
        refine awp_ret ?_
        simp only [go_sem]
        simp
        intro h
        subst h
        rw [hx] at hy
        injection hy with hy
        exact hxy hy
    · refine awp_exit ?_
      simp only [go_sem]
      repeat refine awp_seq ?_
      refine awp_reg (by kernel_rfl) fun K hK => ?_
      simp only [go_sem]
      (try simp (disch := omega) only [wrapI])
      repeat first | intro _ | refine ⟨(by omega), ?_⟩ | refine ⟨⟨by omega, by omega⟩, ?_⟩
      refine hK _ ?_
      clear hK K
      refine awp_ret ?_
      simp only [go_sem]
      rw [List.take_of_length_le (by omega), List.take_of_length_le (by omega)] at hI
      simp [hI]
end Go.Proofs.Ytnklbfmdojpfkaa

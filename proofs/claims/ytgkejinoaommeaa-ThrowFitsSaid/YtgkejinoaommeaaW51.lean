/- For every aim and list of visits, the given function ThrowFits returns true: the aim by the visits, and how many darts there are, or the visit with an error and the error, are what the document says. No conditions beyond those of the given statement. -/
import Derived.Test.YtgkejinoaommeaaV58
import Derived.Test.YtgkejinoaommeaaV56
import Derived.Test.YtgkejinoaommeaaV55
import Derived.ChangeShapes
import Derived.WideShapes
import Derived.OpenShut
import Derived.ShutString
import Derived.ChangeOld
import Derived.Carry
import Derived.Below
import Derived.Test.YtgkejinoaommeaaRows
import Derived.JoinedOf
/- Regions that draw their order, in which some appends onto nothing give plain data at once. -/
namespace Go.Oc
open Go Go.RowKit
/-- An append onto nothing, as plain data: r is what the append comes to. -/
def cpR (s : AS) (d : Nat) (b : AV) (r : Res) (K : AS → Prop) : Prop :=
  match b, r with
  | .r .ns, ⟨pre, _, ⟨.os d' v sz 0 m, [(d'', ⟨v', .arr _ sz' es⟩)]⟩⟩ => pre ∧ d < 1000 ∧ d' = d ∧ d'' = d ∧ v = (s.rows d).ver + 1 ∧ v' = v ∧ sz' = sz ∧ m = es.length ∧ K (AS.put (s.row d ⟨(s.rows d).ver + 2, .dead⟩) (some d) (.r (.sl sz es)))
  | _, _ => False
def copyK (P : Program) (o : Oper) (K : AS → Prop) (s : AS) : Prop :=
  match o.op with
  | .call ⟨.builtin .append, args, ts⟩ => (match args.toList, ts.toList, o.dst with
    | [x, z], [t, t'], some d => t = t' ∧ cpR s d (s.ev x) (sAppend P s d t t' (s.ev x) (s.ev z)) K
    | _, _, _ => False)
  | _ => False
/-- The appends onto nothing whose results are to be plain data: by their slots. -/
def isPl (pl : List Nat) (o : Oper) : Bool :=
  match o.op with
  | .call ⟨.builtin .append, _, _⟩ => (match o.dst with | some d => pl.contains d | none => false)
  | _ => false
def xopC (P : Program) (pl : List Nat) (o : Oper) (K : AS → Prop) (s : AS) : Prop := if isPl pl o then copyK P o K s else xop P true o K s
def aopsC (P : Program) (pl : List Nat) (ops : Array Oper) : List Oper → (AS → Prop) → AS → Prop
  | [], K, s => K s
  | o :: rest, K, s =>
    match o.guard with
    | none => xopC P pl o (aopsC P pl ops rest K) s
    | some (g, want) =>
      match ((ops[g]?).bind (·.dst) : Option Nat) with
      | none => aopsC P pl ops rest K (s.put o.dst (.r .ud))
      | some t =>
        match s.tm t with
        | .r (.bo b) => (b = want → xopC P pl o (aopsC P pl ops rest K) (s.put (some t) (.r (.bo want)))) ∧ (b = !want → aopsC P pl ops rest K ((s.put (some t) (.r (.bo (!want)))).put o.dst (.r .ud)))
        | .r .ud => aopsC P pl ops rest K (s.put o.dst (.r .ud))
        | _ => False
section
variable {P : Program} {C : Ctx} {s : AS} {ops : Array Oper} {pl : List Nat}
theorem copyK_AY {o : Oper} {K : AS → Prop} (h : copyK P o K s) : ∃ y, AY P o s y ∧ (mk o y → (s.rows (o.dst.getD 0)).c = .dead ∧ o.dst.isSome = true) ∧ K (s.app o.dst y) := by
  unfold copyK at h
  split at h
  · rename_i args ts ho
    split at h
    · rename_i x z t t' d ha ht hd
      have ha : args = #[x, z] := by cases args; simpa using ha
      have ht : ts = #[t, t'] := by cases ts; simpa using ht
      subst ha ht
      obtain ⟨rfl, h⟩ := h
      unfold cpR at h
      split at h
      · rename_i pre ass d' v sz m d'' v' e sz' es hb hr
        obtain ⟨h1, h2, rfl, rfl, rfl, rfl, rfl, rfl, hK⟩ := h
        have hs : step P o s = sAppend P s d'' t t (s.ev x) (s.ev z) := by simp [step, ho, sBuiltin, hd]
        refine ⟨⟨.r (.sl sz' es), [(d'', ⟨(s.rows d'').ver + 2, .dead⟩)]⟩, ?_, fun hm => ?_, by rw [hd]; exact hK⟩
        · unfold AY
          split
          · rename_i ho'; rw [ho] at ho'; cases ho'
          · refine .inr ⟨by rw [hs, hr]; exact h1, x, z, t, d'', e, sz', es, ho, hd, h2, hb, by rw [hs, hr], rfl⟩
        · rcases hm with hm | ⟨hm, _⟩
          · simp [cls, ho] at hm
          · simp [vcall, ho] at hm
      · exact h.elim
    · exact h.elim
  · exact h.elim
theorem aopsC_lex {Q : AS → Prop} : ∀ (l : List Oper) (s : AS), dstOk l.toArray s.n = true → NE s → aopsC P pl ops l Q s → lexA P ops Q l s
  | [], _, _, _, h => h
  | o :: l, s, hd, hne, h => by
    have hd0 : ∀ t, o.dst = some t → t < s.n := dstOk_get (i := 0) hd (by simp)
    have hdl : dstOk l.toArray s.n = true := by
      unfold dstOk at hd ⊢
      simp only [List.all_toArray, List.all_cons, Bool.and_eq_true] at hd ⊢
      exact hd.2
    have run : ∀ {s1 : AS}, s1 = s → xopC P pl o (aopsC P pl ops l Q) s1 → wantA ops s o = some true → lexA P ops Q (o :: l) s := fun e hop hw => by
      subst e
      unfold xopC at hop
      split at hop
      · obtain ⟨y, hy, hdead, hK⟩ := copyK_AY hop
        have hY : YieldsA P ops o y _ := .inl ⟨hw, hy, hdead⟩
        exact ⟨y, hY, aopsC_lex l _ (by rw [app_n]; exact hdl) (hne.app hY hd0) hK⟩
      · unfold xop at hop
        rw [if_pos rfl] at hop
        obtain ⟨y, hy, hdead, hK⟩ := aop_AY hop
        have hY : YieldsA P ops o y _ := .inl ⟨hw, hy, hdead rfl⟩
        exact ⟨y, hY, aopsC_lex l _ (by rw [app_n]; exact hdl) (hne.app hY hd0) (hK hne)⟩
    have skip : ∀ {s1 : AS}, s1 = s → aopsC P pl ops l Q (s1.put o.dst (.r .ud)) → wantA ops s o = some false → lexA P ops Q (o :: l) s := fun e hop hw => by
      subst e
      have hY : YieldsA P ops o ysk _ := .inr ⟨hw, rfl⟩
      exact ⟨ysk, hY, aopsC_lex l _ (by rw [app_n]; exact hdl) (hne.app hY hd0) hop⟩
    unfold aopsC at h
    split at h
    · rename_i hg
      exact run rfl h (by simp [wantA, hg])
    · rename_i g want hg
      split at h
      · rename_i ht
        exact skip rfl h (by simp [wantA, hg, ht])
      · rename_i t ht
        split at h
        · rename_i b hb
          by_cases hw : b = want
          · subst hw
            exact run (put_self hb) (h.1 rfl) (by simp [wantA, hg, ht, hb])
          · have hw' : b = !want := by cases b <;> cases want <;> simp_all
            subst hw'
            exact skip (put_self hb) (h.2 rfl) (by simp [wantA, hg, ht, hb])
        · rename_i hb
          exact skip rfl h (by simp [wantA, hg, ht, hb])
        · exact h.elim
theorem awp_dregC {Q : Exit → AS → Prop} {id : Nat} {l : List Oper} (pl : List Nat) (κ : List (Nat × Option Nat)) (hm : P.follows .mixedOrders = true) (hB : lexOk2 l.toArray κ = true) (hd : dstOk l.toArray s.n = true) (hk : keysOk κ s)
    (h : ∀ K : AS → Prop, (∀ s, Q .normal s → K s) → aopsC P pl l.toArray l K s) : awp P C (.region id l.toArray true) Q s := fun a w hs => by
  obtain ⟨p, hp⟩ := hs
  exact region_draw2 hm hB hd hk ⟨p, hp⟩ (fun s a w hq hs => ⟨s, hs, hq⟩) (aopsC_lex l s hd ⟨C, p, a, w, hp⟩ (h _ fun _ h => h))
theorem awp_dregC3 {Q : Exit → AS → Prop} {id : Nat} {l : List Oper} (pl : List Nat) (κ : List (Nat × Option Nat)) (bs : List Nat) (hm : P.follows .mixedOrders = true) (hB : lexOk3 l.toArray κ bs = true) (hd : dstOk l.toArray s.n = true) (hk : keysOk κ s) (hbx : ∀ k ∈ bs, boxRow s k)
    (h : ∀ K : AS → Prop, (∀ s, Q .normal s → K s) → aopsC P pl l.toArray l K s) : awp P C (.region id l.toArray true) Q s := fun a w hs => by
  obtain ⟨p, hp⟩ := hs
  exact region_draw3 hm hB hd hk hbx ⟨p, hp⟩ (fun s a w hq hs => ⟨s, hs, hq⟩) (aopsC_lex l s hd ⟨C, p, a, w, hp⟩ (h _ fun _ h => h))
/-! ### For simp -/
variable {n : Nat} {l : List (Nat × AV)} {vs : Nat → Nat} {cs : List (Nat × RowC)} {K : AS → Prop} {d : Option Nat} {ty : TypeId} {pos : String} {af : Array Edge}
theorem aopsC_nil {ops : Array Oper} : aopsC P pl ops [] K s ↔ K s := Iff.rfl
theorem aopsC_cons {ops : Array Oper} {o : Op} {rest : List Oper} : aopsC P pl ops (⟨d, o, ty, pos, af, none⟩ :: rest) K s ↔ xopC P pl ⟨d, o, ty, pos, af, none⟩ (aopsC P pl ops rest K) s := Iff.rfl
theorem row_dead {k m : Nat} : AS.row (st n l vs cs) k ⟨m, .dead⟩ = st n l (upd vs k m) (delc cs k) := by
  rw [row_st]
  unfold st
  congr 1
  funext j
  rw [lookc_insc, lookc_delc]
attribute [go_sem] aopsC_nil aopsC_cons xopC isPl copyK cpR List.contains_cons List.contains_nil List.toList_toArray
attribute [go_sem high] row_dead
end
end Go.Oc

/- An aim by visits, by the document; own copies of visits. -/
namespace Go.Proofs.Ytgkejinoaommeaa
open Go Go.Oc
set_option linter.unusedSimpArgs false
set_option linter.unusedVariables false
set_option maxRecDepth 8000
theorem visits_ok (l : List Vi) (hl : l.length ≤ 1010) (hb : ∀ v ∈ l, v.ds.length ≤ 5) : ACalls Try.prog 27 [visR l] (visR l) := by
  refine acalls_st (rs := [visR l]) [.tmp 2] Try.func27 rfl (by kernel_rfl) Try.ntmps27 rfl (by simp) rfl fun C vs => ?_
  repeat refine awp_seq ?_
  refine awp_reg (by kernel_rfl) fun K hK => ?_
  simp only [go_sem]
  (try simp (disch := omega) only [wrapI])
  repeat first | intro _ | refine ⟨(by omega), ?_⟩ | refine ⟨⟨by omega, by omega⟩, ?_⟩
  refine hK _ ?_
  clear hK K
  refine awp_sub (sub_keep [0]) ?_
  simp only [go_sem]
  repeat refine awp_seq ?_
  refine awp_reg (by kernel_rfl) fun K hK => ?_
  simp only [go_sem]
  (try simp (disch := omega) only [wrapI])
  repeat first | intro _ | refine ⟨(by omega), ?_⟩ | refine ⟨⟨by omega, by omega⟩, ?_⟩
  refine hK _ ?_
  clear hK K
  refine awp_sub (sub_own 3 30 52 2 (by omega) rfl) ?_
  refine awp_sub (sub_keep [0, 3]) ?_
  simp only [go_sem]
  repeat refine awp_seq ?_
  refine awp_reg (by kernel_rfl) fun K hK => ?_
  simp only [go_sem]
  (try simp (disch := omega) only [wrapI])
  repeat first | intro _ | refine ⟨(by omega), ?_⟩ | refine ⟨⟨by omega, by omega⟩, ?_⟩
  refine hK _ ?_
  clear hK K
  refine awp_sub (sub_keep [0, 3, 4]) ?_
  simp only [go_sem]
  repeat refine awp_seq ?_
  refine awp_block ?_
  refine awp_uptoV (n := 29) l.length (fun i vs => [(0, .r (visR l)), (3, .os 30 (vs 30) 2 0 i), (4, .r (i64 i))])
    (fun i vs => [(30, .arr 52 2 ((l.take i).map viC))]) (fun _ => True) 0 (fitV_of [] ?_ ?_) (Nat.zero_le _) trivial ?_
  · try simp only [go_sem]
  · try simp only [go_sem]
  · intro i vs hi _
    repeat refine awp_seq ?_
    refine awp_reg (by kernel_rfl) fun K hK => ?_
    simp only [go_sem]
    (try simp (disch := omega) only [wrapI])
    repeat first | intro _ | refine ⟨(by omega), ?_⟩ | refine ⟨⟨by omega, by omega⟩, ?_⟩
    refine hK _ ?_
    clear hK K
    refine awp_sub (sub_keep [0, 3, 4, 9]) ?_
    simp only [go_sem]
    repeat refine awp_seq ?_
    refine awp_cond rfl (fun hc => ?_) (fun hc => ?_) <;> (try simp only [go_sem] at hc)
    · -- then
      have hci := hc
      obtain ⟨v, hx⟩ := opt_of_lt hci
      have hv5 := hb v (mem_of_opt hx)
      have hlt : (l.take i).length = i := by rw [List.length_take]; omega
      refine awp_skip ?_
      try simp only [go_sem]
      repeat refine awp_seq ?_
      refine awp_block ?_
      repeat refine awp_seq ?_
      refine awp_dregC [19] [(0, none), (3, some 30), (4, none)] follows (by decide +kernel) (by kernel_rfl) (by simp only [keysOk, List.mem_cons, List.not_mem_nil, forall_eq_or_imp, Oc.keyOf, go_sem]; simp) fun K hK => ?_
      simp only [go_sem, hx, hci, hlt]
      (try simp (disch := omega) only [wrapI])
      repeat first | intro _ | refine ⟨(by omega), ?_⟩ | refine ⟨⟨by omega, by omega⟩, ?_⟩
      refine hK _ ?_
      clear hK K
      refine awp_sub (sub_keep [0, 3, 4]) ?_
      simp only [go_sem]
      repeat refine awp_seq ?_
      refine awp_reg (by kernel_rfl) fun K hK => ?_
      simp only [go_sem]
      (try simp (disch := omega) only [wrapI])
      repeat first | intro _ | refine ⟨(by omega), ?_⟩ | refine ⟨⟨by omega, by omega⟩, ?_⟩
      refine hK _ ?_
      clear hK K
      try simp only [go_sem]
      refine ⟨hci, fitV_of [] ?_ ?_⟩
      · try simp only [go_sem]
      · try simp only [go_sem]
        rw [take_of_opt hx]
        simp
    · -- else
      refine awp_exit ?_
      simp only [go_sem]
      have : i = l.length := by omega
      subst this
      refine awp_sub (sub_frz (ty := 52) (sz := 2) (off := 0) (m := l.length) (es := l.map viC) 3 30 (by omega) (by try simp only [go_sem]) (by try simp only [go_sem]; rw [List.take_length]) (by simp)) ?_
      repeat refine awp_seq ?_
      refine awp_reg (by kernel_rfl) fun K hK => ?_
      simp only [go_sem]
      (try simp (disch := omega) only [wrapI])
      repeat first | intro _ | refine ⟨(by omega), ?_⟩ | refine ⟨⟨by omega, by omega⟩, ?_⟩
      refine hK _ ?_
      clear hK K
      refine awp_sub (sub_keep [2]) ?_
      simp only [go_sem]
      refine awp_ret ?_
      simp only [go_sem]
theorem zeroT_getD {k : Nat} (hk : k < 10) : zeroT.getD k 0 = 0 := by
  rcases k with _ | _ | _ | _ | _ | _ | _ | _ | _ | _ | k <;> first | rfl | omega
theorem getD_addT {a b : List Int} {k : Nat} (h1 : k < a.length) (h2 : k < b.length) : (addT a b).getD k 0 = a.getD k 0 + b.getD k 0 := getD_zipWith h1 h2
theorem SmallT.getD {b : Int} {t : List Int} (h : SmallT b t) {k : Nat} (hk : k < 10) : 0 ≤ t.getD k 0 ∧ t.getD k 0 ≤ b := by
  obtain ⟨x, hx⟩ := opt_of_lt (l := t) (i := k) (by rw [h.1]; exact hk)
  have := h.2 x (mem_of_opt hx)
  rw [List.getD_eq_getElem?_getD, hx]
  exact this
/-- The beds of a sheet, with their spans. -/
abbrev outB (bs le mo : List Int) (k : Nat) : List RV := bedR (bedAt bs le mo k)
theorem refFit_ok (a : Am) (l : List Vi) (hw : WfA a) (hl1 : l.length ≤ 1010) : ACalls Try.prog 29 [aimV a, visR l] (.tu [aimV (fitV a l).1, i64 (fitV a l).2.1, i64 (fitV a l).2.2.1, i64 (fitV a l).2.2.2]) := by
  refine acalls_st (rs := [aimV (fitV a l).1, i64 (fitV a l).2.1, i64 (fitV a l).2.2.1, i64 (fitV a l).2.2.2]) [.cell 4 36, .tmp 5, .tmp 6, .tmp 7] Try.func29 rfl (by kernel_rfl) Try.ntmps29 rfl (by simp) rfl fun C vs => ?_
  repeat refine awp_seq ?_
  refine awp_reg (by kernel_rfl) fun K hK => ?_
  simp only [go_sem]
  (try simp (disch := omega) only [wrapI])
  repeat first | intro _ | refine ⟨(by omega), ?_⟩ | refine ⟨⟨by omega, by omega⟩, ?_⟩
  refine hK _ ?_
  clear hK K
  refine awp_sub (sub_frzP 2 2 [i64 a.at_, bedsR a.beds] (by omega) rfl rfl) ?_
  refine awp_sub (sub_keep [1, 2, 4]) ?_
  simp only [go_sem]
  repeat refine awp_seq ?_
  refine awp_reg (by kernel_rfl) fun K hK => ?_
  simp only [go_sem]
  (try simp (disch := omega) only [wrapI])
  repeat first | intro _ | refine ⟨(by omega), ?_⟩ | refine ⟨⟨by omega, by omega⟩, ?_⟩
  refine hK _ ?_
  clear hK K
  refine awp_sub (sub_frzP 8 8 [i64 0, .ns] (by omega) rfl rfl) ?_
  refine awp_sub (sub_keep [1, 2, 4, 8]) ?_
  simp only [go_sem]
  by_cases h1 : 10 < a.beds.length
  · have c1 : decide ((10 : Int) < (a.beds.length : Int)) = true := by simp; omega
    have hv : fitV a l = (⟨0, []⟩, 0, 0, 5) := by rw [fitV, if_pos h1]
    rw [hv]
    repeat refine awp_seq ?_
    refine awp_reg (by kernel_rfl) fun K hK => ?_
    simp only [go_sem, c1]
    (try simp (disch := omega) only [wrapI])
    intros
    repeat first | intro _ | refine ⟨(by omega), ?_⟩ | refine ⟨⟨by omega, by omega⟩, ?_⟩
    refine hK _ ?_
    clear hK K
    refine awp_sub (sub_keep [1, 2, 4, 8, 20]) ?_
    simp only [go_sem]
    repeat refine awp_seq ?_
    refine awp_cond rfl (fun hc => ?_) (fun hc => ?_) <;> (try simp only [go_sem] at hc)
    repeat refine awp_seq ?_
    refine awp_reg (by kernel_rfl) fun K hK => ?_
    simp only [go_sem]
    (try simp (disch := omega) only [wrapI])
    repeat first | intro _ | refine ⟨(by omega), ?_⟩ | refine ⟨⟨by omega, by omega⟩, ?_⟩
    refine hK _ ?_
    clear hK K
    refine awp_sub (sub_keep [4, 5, 6, 7]) ?_
    simp only [go_sem]
    refine awp_ret ?_
    simp only [go_sem]
  have c1 : decide ((10 : Int) < (a.beds.length : Int)) = false := by simp; omega
  repeat refine awp_seq ?_
  refine awp_reg (by kernel_rfl) fun K hK => ?_
  simp only [go_sem, c1]
  (try simp (disch := omega) only [wrapI])
  intros
  repeat first | intro _ | refine ⟨(by omega), ?_⟩ | refine ⟨⟨by omega, by omega⟩, ?_⟩
  refine hK _ ?_
  clear hK K
  refine awp_sub (sub_keep [1, 2, 4, 8, 20]) ?_
  simp only [go_sem]
  repeat refine awp_seq ?_
  refine awp_cond rfl (fun hc => ?_) (fun hc => ?_) <;> (try simp only [go_sem] at hc)
  refine awp_skip ?_
  try simp only [go_sem]
  repeat refine awp_seq ?_
  refine awp_reg (by kernel_rfl) fun K hK => ?_
  simp only [go_sem]
  (try simp (disch := omega) only [wrapI])
  refine xcall_eq (good_ok a hw) rfl (by simp only [go_sem, i64, ints]) (by simp only [go_sem, i64, ints]) (by first | exact .inl rfl | exact .inr rfl) ?_
  (try simp only [go_sem])
  (try simp (disch := omega) only [wrapI])
  repeat first | intro _ | refine ⟨(by omega), ?_⟩ | refine ⟨⟨by omega, by omega⟩, ?_⟩
  refine hK _ ?_
  clear hK K
  refine awp_sub (sub_keep [1, 2, 4, 8, 24]) ?_
  simp only [go_sem]
  have hgd : goodV a = (bedOk a.at_ && !a.beds.isEmpty && seqOk none a.beds) := by
    have : decide (a.beds.length ≤ 10) = true := by simp; omega
    simp [goodV, this]
  rw [hgd]
  cases h2 : (bedOk a.at_ && !a.beds.isEmpty && seqOk none a.beds)
  · have hv : fitV a l = (⟨0, []⟩, 0, 0, 2) := by rw [fitV, if_neg h1, if_pos h2]
    rw [hv]
    repeat refine awp_seq ?_
    refine awp_cond rfl (fun hc => ?_) (fun hc => ?_) <;> (try simp only [go_sem] at hc)
    repeat refine awp_seq ?_
    refine awp_reg (by kernel_rfl) fun K hK => ?_
    simp only [go_sem]
    (try simp (disch := omega) only [wrapI])
    repeat first | intro _ | refine ⟨(by omega), ?_⟩ | refine ⟨⟨by omega, by omega⟩, ?_⟩
    refine hK _ ?_
    clear hK K
    refine awp_sub (sub_keep [4, 5, 6, 7]) ?_
    simp only [go_sem]
    refine awp_ret ?_
    simp only [go_sem]
  repeat refine awp_seq ?_
  refine awp_cond rfl (fun hc => ?_) (fun hc => ?_) <;> (try simp only [go_sem] at hc)
  refine awp_skip ?_
  try simp only [go_sem]
  by_cases h3 : l = []
  · have c3 : ((l.length : Int) == 0) = true := by simp [h3]
    have hv : fitV a l = (⟨0, []⟩, 0, 0, 7) := by rw [fitV, if_neg h1, if_neg (by rw [h2]; decide), if_pos h3]
    rw [hv]
    repeat refine awp_seq ?_
    refine awp_reg (by kernel_rfl) fun K hK => ?_
    simp only [go_sem, c3]
    (try simp (disch := omega) only [wrapI])
    intros
    repeat first | intro _ | refine ⟨(by omega), ?_⟩ | refine ⟨⟨by omega, by omega⟩, ?_⟩
    refine hK _ ?_
    clear hK K
    refine awp_sub (sub_keep [1, 2, 4, 8, 28]) ?_
    simp only [go_sem]
    repeat refine awp_seq ?_
    refine awp_cond rfl (fun hc => ?_) (fun hc => ?_) <;> (try simp only [go_sem] at hc)
    repeat refine awp_seq ?_
    refine awp_reg (by kernel_rfl) fun K hK => ?_
    simp only [go_sem]
    (try simp (disch := omega) only [wrapI])
    repeat first | intro _ | refine ⟨(by omega), ?_⟩ | refine ⟨⟨by omega, by omega⟩, ?_⟩
    refine hK _ ?_
    clear hK K
    refine awp_sub (sub_keep [4, 5, 6, 7]) ?_
    simp only [go_sem]
    refine awp_ret ?_
    simp only [go_sem]
  have c3 : ((l.length : Int) == 0) = false := by simpa using h3
  repeat refine awp_seq ?_
  refine awp_reg (by kernel_rfl) fun K hK => ?_
  simp only [go_sem, c3]
  (try simp (disch := omega) only [wrapI])
  intros
  repeat first | intro _ | refine ⟨(by omega), ?_⟩ | refine ⟨⟨by omega, by omega⟩, ?_⟩
  refine hK _ ?_
  clear hK K
  refine awp_sub (sub_keep [1, 2, 4, 8, 28]) ?_
  simp only [go_sem]
  repeat refine awp_seq ?_
  refine awp_cond rfl (fun hc => ?_) (fun hc => ?_) <;> (try simp only [go_sem] at hc)
  refine awp_skip ?_
  try simp only [go_sem]
  by_cases h4 : 1000 < l.length
  · have c4 : decide ((1000 : Int) < (l.length : Int)) = true := by simp; omega
    have hv : fitV a l = (⟨0, []⟩, 0, 0, 5) := by rw [fitV, if_neg h1, if_neg (by rw [h2]; decide), if_neg h3, if_pos h4]
    rw [hv]
    repeat refine awp_seq ?_
    refine awp_reg (by kernel_rfl) fun K hK => ?_
    simp only [go_sem, c4]
    (try simp (disch := omega) only [wrapI])
    intros
    repeat first | intro _ | refine ⟨(by omega), ?_⟩ | refine ⟨⟨by omega, by omega⟩, ?_⟩
    refine hK _ ?_
    clear hK K
    refine awp_sub (sub_keep [1, 2, 4, 8, 32]) ?_
    simp only [go_sem]
    repeat refine awp_seq ?_
    refine awp_cond rfl (fun hc => ?_) (fun hc => ?_) <;> (try simp only [go_sem] at hc)
    repeat refine awp_seq ?_
    refine awp_reg (by kernel_rfl) fun K hK => ?_
    simp only [go_sem]
    (try simp (disch := omega) only [wrapI])
    repeat first | intro _ | refine ⟨(by omega), ?_⟩ | refine ⟨⟨by omega, by omega⟩, ?_⟩
    refine hK _ ?_
    clear hK K
    refine awp_sub (sub_keep [4, 5, 6, 7]) ?_
    simp only [go_sem]
    refine awp_ret ?_
    simp only [go_sem]
  have c4 : decide ((1000 : Int) < (l.length : Int)) = false := by simp; omega
  repeat refine awp_seq ?_
  refine awp_reg (by kernel_rfl) fun K hK => ?_
  simp only [go_sem, c4]
  (try simp (disch := omega) only [wrapI])
  intros
  repeat first | intro _ | refine ⟨(by omega), ?_⟩ | refine ⟨⟨by omega, by omega⟩, ?_⟩
  refine hK _ ?_
  clear hK K
  refine awp_sub (sub_keep [1, 2, 4, 8, 32]) ?_
  simp only [go_sem]
  repeat refine awp_seq ?_
  refine awp_cond rfl (fun hc => ?_) (fun hc => ?_) <;> (try simp only [go_sem] at hc)
  refine awp_skip ?_
  try simp only [go_sem]
  have hV : fitV a l = match runF (a.beds.map (·.b)) zeroT zeroT 0 l with
      | (_, _, some (i, e)) => (⟨0, []⟩, 0, i, e)
      | (le, mo, none) => (⟨a.at_, (List.range a.beds.length).map (bedAt (a.beds.map (·.b)) le mo)⟩, 3 * l.length, 0, 0) := by
    rw [fitV, if_neg h1, if_neg (by rw [h2]; decide), if_neg h3, if_neg h4]
    rfl
  have hseq : seqOk none a.beds = true := by
    simp only [Bool.and_eq_true] at h2
    exact h2.2
  have hle := seqOk_le hseq
  have hpair := (seqOk_pair hseq).1
  obtain ⟨bs, hbs⟩ : ∃ bs, bs = a.beds.map (·.b) := ⟨_, rfl⟩
  have hbl : bs.length = a.beds.length := by rw [hbs]; simp
  rw [← hbs] at hV hpair
  repeat refine awp_seq ?_
  refine awp_reg (by kernel_rfl) fun K hK => ?_
  simp only [go_sem]
  (try simp (disch := omega) only [wrapI])
  repeat first | intro _ | refine ⟨(by omega), ?_⟩ | refine ⟨⟨by omega, by omega⟩, ?_⟩
  refine hK _ ?_
  clear hK K
  refine awp_sub (sub_keep [1, 2, 4, 8, 9]) ?_
  simp only [go_sem]
  repeat refine awp_seq ?_
  refine awp_reg (by kernel_rfl) fun K hK => ?_
  simp only [go_sem]
  (try simp (disch := omega) only [wrapI])
  repeat first | intro _ | refine ⟨(by omega), ?_⟩ | refine ⟨⟨by omega, by omega⟩, ?_⟩
  refine hK _ ?_
  clear hK K
  refine awp_sub (sub_keep [1, 2, 4, 8, 9, 10]) ?_
  simp only [go_sem]
  repeat refine awp_seq ?_
  refine awp_block ?_
  refine awp_sub (sub_ownB 9 1 57 67 3 (by omega) (by omega) rfl rfl) ?_
  try simp only [go_sem]
  refine awp_uptoV (n := 158) a.beds.length (fun k vs => [(1, .r (visR l)), (2, .r (.rp [i64 a.at_, bedsR a.beds])), (4, .pt 4 (vs 4) 0), (8, .r (.rp [i64 0, .ns])), (9, .pt 9 (vs 9) 0), (10, .r (i64 k))])
    (fun k vs => [(4, .box [.r (i64 0), .r .ns]), (9, .box [.r (i64 a.at_), .os 57 (vs 57) 3 0 k]), (57, .arr 67 3 ((List.range k).map (outB bs zeroT zeroT)))]) (fun _ => True) 0 (fitV_of [] ?_ ?_) (Nat.zero_le _) trivial ?_
  · try simp only [go_sem]
  · try simp only [go_sem]
    try simp
  · intro k vs hk _
    repeat refine awp_seq ?_
    refine awp_reg (by kernel_rfl) fun K hK => ?_
    simp only [go_sem]
    (try simp (disch := omega) only [wrapI])
    repeat first | intro _ | refine ⟨(by omega), ?_⟩ | refine ⟨⟨by omega, by omega⟩, ?_⟩
    refine hK _ ?_
    clear hK K
    refine awp_sub (sub_keep [1, 2, 4, 8, 9, 10, 41]) ?_
    simp only [go_sem]
    repeat refine awp_seq ?_
    refine awp_cond rfl (fun hc => ?_) (fun hc => ?_) <;> (try simp only [go_sem] at hc)
    · -- then
      have hci := hc
      obtain ⟨x, hx⟩ := opt_of_lt hci
      have hbx : bs[k]? = some x.b := by rw [hbs, List.getElem?_map, hx]; rfl
      have hrl : ((List.range k).map (outB bs zeroT zeroT)).length = k := by simp
      have hat : bedAt bs zeroT zeroT k = ⟨x.b, 0, 0⟩ := by
        unfold bedAt
        rw [zeroT_getD (by omega), List.getD_eq_getElem?_getD, hbx]; rfl
      refine awp_skip ?_
      try simp only [go_sem]
      repeat refine awp_seq ?_
      refine awp_block ?_
      repeat refine awp_seq ?_
      refine awp_dreg3 [(2, none), (9, some 9), (10, none)] [9] follows (by decide +kernel) (by kernel_rfl) (by simp only [keysOk, List.mem_cons, List.not_mem_nil, forall_eq_or_imp, Oc.keyOf, go_sem]; simp) (by intro k hk; simp only [List.mem_cons, List.not_mem_nil, or_false] at hk; first | (subst hk; exact ⟨_, rfl⟩) | (rcases hk with rfl | rfl <;> exact ⟨_, rfl⟩) | (rcases hk with rfl | rfl | rfl <;> exact ⟨_, rfl⟩)) fun K hK => ?_
      simp only [go_sem, hx, hci, bedR, hrl]
      (try simp (disch := omega) only [wrapI])
      repeat first | intro _ | refine ⟨(by omega), ?_⟩ | refine ⟨⟨by omega, by omega⟩, ?_⟩
      refine hK _ ?_
      clear hK K
      refine awp_sub (sub_keep [1, 2, 4, 8, 9, 10]) ?_
      simp only [go_sem]
      repeat refine awp_seq ?_
      refine awp_reg (by kernel_rfl) fun K hK => ?_
      simp only [go_sem]
      (try simp (disch := omega) only [wrapI])
      repeat first | intro _ | refine ⟨(by omega), ?_⟩ | refine ⟨⟨by omega, by omega⟩, ?_⟩
      refine hK _ ?_
      clear hK K
      try simp only [go_sem]
      refine ⟨hci, fitV_of [] ?_ ?_⟩
      · try simp only [go_sem]
      · try simp only [go_sem]
        simp [List.range_succ, hat, bedR]
    · -- else
      have hkl : k = a.beds.length := by omega
      subst hkl
      refine awp_exit ?_
      simp only [go_sem]
      repeat refine awp_seq ?_
      refine awp_reg (by kernel_rfl) fun K hK => ?_
      simp only [go_sem]
      (try simp (disch := omega) only [wrapI])
      repeat first | intro _ | refine ⟨(by omega), ?_⟩ | refine ⟨⟨by omega, by omega⟩, ?_⟩
      refine hK _ ?_
      clear hK K
      refine awp_sub (sub_keep [1, 2, 4, 8, 9, 11]) ?_
      simp only [go_sem]
      repeat refine awp_seq ?_
      refine awp_block ?_
      obtain ⟨N, hNe⟩ : ∃ N, N = a.beds.length := ⟨_, rfl⟩
      rw [← hNe] at hbl ⊢
      have hN10 : N ≤ 10 := by rw [hNe]; omega
      refine awp_whileV (n := 158) (fun (y : Nat × List Int × List Int) vs => [(1, .r (visR l)), (2, .r (.rp [i64 a.at_, bedsR a.beds])), (4, .pt 4 (vs 4) 0), (8, .r (.rp [i64 0, .ns])), (9, .pt 9 (vs 9) 0), (11, .r (i64 y.1))])
        (fun y vs => [(4, .box [.r (i64 0), .r .ns]), (9, .box [.r (i64 a.at_), .os 57 (vs 57) 3 0 N]), (57, .arr 67 3 ((List.range N).map (outB bs y.2.1 y.2.2)))])
        (fun y => y.1 ≤ l.length ∧ SmallT (3 * (y.1 : Int)) y.2.1 ∧ SmallT (3 * (y.1 : Int)) y.2.2 ∧ runF bs zeroT zeroT 0 l = runF bs y.2.1 y.2.2 y.1 (l.drop y.1)) (fun y => l.length - y.1) (0, zeroT, zeroT) (fitV_of [] ?_ ?_) ⟨Nat.zero_le _, zeroT_small (by simp), zeroT_small (by simp), rfl⟩ ?_
      · try simp only [go_sem]
      · try simp only [go_sem]
      · rintro ⟨i, le, mo⟩ vs ⟨hi, hs1, hs2, hR⟩
        simp only at hi hs1 hs2 hR
        have hlel := hs1.1
        have hmol := hs2.1
        repeat refine awp_seq ?_
        refine awp_reg (by kernel_rfl) fun K hK => ?_
        simp only [go_sem]
        (try simp (disch := omega) only [wrapI])
        repeat first | intro _ | refine ⟨(by omega), ?_⟩ | refine ⟨⟨by omega, by omega⟩, ?_⟩
        refine hK _ ?_
        clear hK K
        refine awp_sub (sub_keep [1, 2, 4, 8, 9, 11, 59]) ?_
        simp only [go_sem]
        repeat refine awp_seq ?_
        refine awp_cond rfl (fun hc => ?_) (fun hc => ?_) <;> (try simp only [go_sem] at hc)
        · have hci : i < l.length := by first | exact hc | omega
          obtain ⟨v, hx⟩ := opt_of_lt hci
          rw [drop_of_opt hx, runF] at hR
          refine awp_skip ?_
          try simp only [go_sem]
          repeat refine awp_seq ?_
          refine awp_block ?_
          by_cases e1 : v.ds ≠ [] ∧ (v.ds.length ≠ 3 ∨ v.n ≠ 0)
          · have hvE : visitE bs v.ds v.n = 4 := by rw [visitE, if_pos e1]
            rw [if_neg (by rw [hvE]; decide), hvE] at hR
            have hv : fitV a l = (⟨0, []⟩, 0, (i : Int), 4) := by rw [hV, hR]
            rw [hv]
            have c5 : ((v.ds.length : Int) != 0) = true := by simpa using e1.1
            by_cases e2 : v.ds.length = 3
            · have c6 : ((v.ds.length : Int) != 3) = false := by simp [e2]
              have c7 : (v.n != 0) = true := by have := e1.2; simp only [e2, ne_eq, not_true_eq_false, false_or] at this; simpa using this
              repeat refine awp_seq ?_
              refine awp_reg (by kernel_rfl) fun K hK => ?_
              simp only [go_sem, hx, hci, c5, c6, c7]
              (try simp (disch := omega) only [wrapI])
              repeat first | intro _ | refine ⟨(by omega), ?_⟩ | refine ⟨⟨by omega, by omega⟩, ?_⟩
              refine hK _ ?_
              clear hK K
              refine awp_sub (sub_keep [4, 8, 11, 85]) ?_
              simp only [go_sem]
              repeat refine awp_seq ?_
              refine awp_cond rfl (fun hc => ?_) (fun hc => ?_) <;> (try simp only [go_sem] at hc)
              repeat refine awp_seq ?_
              refine awp_reg (by kernel_rfl) fun K hK => ?_
              simp only [go_sem]
              (try simp (disch := omega) only [wrapI])
              repeat first | intro _ | refine ⟨(by omega), ?_⟩ | refine ⟨⟨by omega, by omega⟩, ?_⟩
              refine hK _ ?_
              clear hK K
              refine awp_sub (sub_keep [4, 5, 6, 7]) ?_
              simp only [go_sem]
              refine awp_ret ?_
              simp only [go_sem]
            · have c6 : ((v.ds.length : Int) != 3) = true := by simp; omega
              repeat refine awp_seq ?_
              refine awp_reg (by kernel_rfl) fun K hK => ?_
              simp only [go_sem, hx, hci, c5, c6]
              (try simp (disch := omega) only [wrapI])
              repeat first | intro _ | refine ⟨(by omega), ?_⟩ | refine ⟨⟨by omega, by omega⟩, ?_⟩
              refine hK _ ?_
              clear hK K
              refine awp_sub (sub_keep [4, 8, 11, 85]) ?_
              simp only [go_sem]
              repeat refine awp_seq ?_
              refine awp_cond rfl (fun hc => ?_) (fun hc => ?_) <;> (try simp only [go_sem] at hc)
              repeat refine awp_seq ?_
              refine awp_reg (by kernel_rfl) fun K hK => ?_
              simp only [go_sem]
              (try simp (disch := omega) only [wrapI])
              repeat first | intro _ | refine ⟨(by omega), ?_⟩ | refine ⟨⟨by omega, by omega⟩, ?_⟩
              refine hK _ ?_
              clear hK K
              refine awp_sub (sub_keep [4, 5, 6, 7]) ?_
              simp only [go_sem]
              refine awp_ret ?_
              simp only [go_sem]
          have hd3 : v.ds = [] ∨ v.ds.length = 3 ∧ v.n = 0 := by
            by_cases q : v.ds = []
            · exact .inl q
            · refine .inr ⟨Decidable.byContradiction fun h => e1 ⟨q, .inl h⟩, Decidable.byContradiction fun h => e1 ⟨q, .inr h⟩⟩
          have hdd : v.ds = [] ∨ v.ds.length = 3 := hd3.imp id And.left
          repeat refine awp_seq ?_
          refine awp_joinV (n := 158) (fun (_ : Unit) vs => [(1, .r (visR l)), (2, .r (.rp [i64 a.at_, bedsR a.beds])), (4, .pt 4 (vs 4) 0), (8, .r (.rp [i64 0, .ns])), (9, .pt 9 (vs 9) 0), (11, .r (i64 i)), (85, .r (.bo false))])
            (fun _ vs => [(4, .box [.r (i64 0), .r .ns]), (9, .box [.r (i64 a.at_), .os 57 (vs 57) 3 0 N]), (57, .arr 67 3 ((List.range N).map (outB bs le mo)))]) (fun _ => True) (fun _ h => h) ?_ ?_
          · rcases hd3 with h0 | ⟨h0, h00⟩
            · have c5 : ((v.ds.length : Int) != 0) = false := by simp [h0]
              repeat refine awp_seq ?_
              refine awp_reg (by kernel_rfl) fun K hK => ?_
              simp only [go_sem, hx, hci, c5]
              (try simp (disch := omega) only [wrapI])
              repeat first | intro _ | refine ⟨(by omega), ?_⟩ | refine ⟨⟨by omega, by omega⟩, ?_⟩
              refine hK _ ?_
              clear hK K
              try simp only [go_sem]
              exact ⟨(), fitV_of [] (by try simp only [go_sem]) (by try simp only [go_sem])⟩
            · have c5 : ((v.ds.length : Int) != 0) = true := by simp [h0]
              have c6 : ((v.ds.length : Int) != 3) = false := by simp [h0]
              have c7 : (v.n != 0) = false := by simp [h00]
              repeat refine awp_seq ?_
              refine awp_reg (by kernel_rfl) fun K hK => ?_
              simp only [go_sem, hx, hci, c5, c6, c7]
              (try simp (disch := omega) only [wrapI])
              repeat first | intro _ | refine ⟨(by omega), ?_⟩ | refine ⟨⟨by omega, by omega⟩, ?_⟩
              refine hK _ ?_
              clear hK K
              try simp only [go_sem]
              exact ⟨(), fitV_of [] (by try simp only [go_sem]) (by try simp only [go_sem])⟩
          intro _ vs _
          repeat refine awp_seq ?_
          refine awp_cond rfl (fun hc => ?_) (fun hc => ?_) <;> (try simp only [go_sem] at hc)
          refine awp_skip ?_
          try simp only [go_sem]
          by_cases e2 : 0 ≤ v.n ∧ v.n ≤ 240
          rotate_left
          · have hvE : visitE bs v.ds v.n = 3 := by rw [visitE, if_neg e1, if_pos e2]
            rw [if_neg (by rw [hvE]; decide), hvE] at hR
            have hv : fitV a l = (⟨0, []⟩, 0, (i : Int), 3) := by rw [hV, hR]
            rw [hv]
            by_cases e3 : v.n < 0
            · have c5 : decide (v.n < 0) = true := by simpa using e3
              repeat refine awp_seq ?_
              refine awp_reg (by kernel_rfl) fun K hK => ?_
              simp only [go_sem, hx, hci, c5]
              (try simp (disch := omega) only [wrapI])
              repeat first | intro _ | refine ⟨(by omega), ?_⟩ | refine ⟨⟨by omega, by omega⟩, ?_⟩
              refine hK _ ?_
              clear hK K
              refine awp_sub (sub_keep [4, 8, 11, 101]) ?_
              simp only [go_sem]
              repeat refine awp_seq ?_
              refine awp_cond rfl (fun hc => ?_) (fun hc => ?_) <;> (try simp only [go_sem] at hc)
              repeat refine awp_seq ?_
              refine awp_reg (by kernel_rfl) fun K hK => ?_
              simp only [go_sem]
              (try simp (disch := omega) only [wrapI])
              repeat first | intro _ | refine ⟨(by omega), ?_⟩ | refine ⟨⟨by omega, by omega⟩, ?_⟩
              refine hK _ ?_
              clear hK K
              refine awp_sub (sub_keep [4, 5, 6, 7]) ?_
              simp only [go_sem]
              refine awp_ret ?_
              simp only [go_sem]
            · have c5 : decide (v.n < 0) = false := by simpa using e3
              have c6 : decide (240 < v.n) = true := by simp; omega
              repeat refine awp_seq ?_
              refine awp_reg (by kernel_rfl) fun K hK => ?_
              simp only [go_sem, hx, hci, c5, c6]
              (try simp (disch := omega) only [wrapI])
              repeat first | intro _ | refine ⟨(by omega), ?_⟩ | refine ⟨⟨by omega, by omega⟩, ?_⟩
              refine hK _ ?_
              clear hK K
              refine awp_sub (sub_keep [4, 8, 11, 101]) ?_
              simp only [go_sem]
              repeat refine awp_seq ?_
              refine awp_cond rfl (fun hc => ?_) (fun hc => ?_) <;> (try simp only [go_sem] at hc)
              repeat refine awp_seq ?_
              refine awp_reg (by kernel_rfl) fun K hK => ?_
              simp only [go_sem]
              (try simp (disch := omega) only [wrapI])
              repeat first | intro _ | refine ⟨(by omega), ?_⟩ | refine ⟨⟨by omega, by omega⟩, ?_⟩
              refine hK _ ?_
              clear hK K
              refine awp_sub (sub_keep [4, 5, 6, 7]) ?_
              simp only [go_sem]
              refine awp_ret ?_
              simp only [go_sem]
          have c5 : decide (v.n < 0) = false := by simp; omega
          have c6 : decide (240 < v.n) = false := by simp; omega
          repeat refine awp_seq ?_
          refine awp_reg (by kernel_rfl) fun K hK => ?_
          simp only [go_sem, hx, hci, c5, c6]
          (try simp (disch := omega) only [wrapI])
          repeat first | intro _ | refine ⟨(by omega), ?_⟩ | refine ⟨⟨by omega, by omega⟩, ?_⟩
          refine hK _ ?_
          clear hK K
          refine awp_sub (sub_keep [1, 2, 4, 8, 9, 11, 101]) ?_
          simp only [go_sem]
          repeat refine awp_seq ?_
          refine awp_cond rfl (fun hc => ?_) (fun hc => ?_) <;> (try simp only [go_sem] at hc)
          refine awp_skip ?_
          try simp only [go_sem]
          have hvis := refVisit_ok a v (by omega) hseq hdd
          rw [← hbs, ← hNe] at hvis
          have hacc : accL (refTs bs v.ds v.n (N * N * N)) = accL (truthsV bs v.ds v.n) := by rw [← hbl]; exact spansA_ref hpair hdd
          have hemp : (refTs bs v.ds v.n (N * N * N)).isEmpty = (truthsV bs v.ds v.n).isEmpty := by
            have := congrArg Prod.fst hacc
            rw [accL_some, accL_some] at this
            simpa using this
          generalize hxs : refTs bs v.ds v.n (N * N * N) = xs at hvis hacc hemp
          have hxl : Len10 xs := by rw [← hxs]; exact refTs_small
          repeat refine awp_seq ?_
          refine awp_dreg follows (by decide +kernel) (by kernel_rfl) fun K hK => ?_
          simp only [go_sem, hx, hci]
          (try simp (disch := omega) only [wrapI])
          refine xcall_eq (hvis) rfl (by simp only [go_sem, i64, ints]) (by simp only [go_sem, i64, ints]) (by first | exact .inl rfl | exact .inr rfl) ?_
          (try simp only [go_sem])
          (try simp (disch := omega) only [wrapI])
          repeat first | intro _ | refine ⟨(by omega), ?_⟩ | refine ⟨⟨by omega, by omega⟩, ?_⟩
          refine hK _ ?_
          clear hK K
          refine awp_sub (sub_keep [1, 2, 4, 8, 9, 11, 12, 13]) ?_
          simp only [go_sem]
          cases hem : xs.isEmpty
          rotate_left
          · have hvE : visitE bs v.ds v.n = 9 := by rw [visitE, if_neg e1, if_neg (by simpa using e2), if_pos (by rw [← hemp]; exact hem)]
            rw [if_neg (by rw [hvE]; decide), hvE] at hR
            have hv : fitV a l = (⟨0, []⟩, 0, (i : Int), 9) := by rw [hV, hR]
            rw [hv]
            repeat refine awp_seq ?_
            refine awp_reg (by kernel_rfl) fun K hK => ?_
            simp only [go_sem]
            (try simp (disch := omega) only [wrapI])
            repeat first | intro _ | refine ⟨(by omega), ?_⟩ | refine ⟨⟨by omega, by omega⟩, ?_⟩
            refine hK _ ?_
            clear hK K
            refine awp_sub (sub_keep [4, 8, 11, 114]) ?_
            simp only [go_sem]
            repeat refine awp_seq ?_
            refine awp_cond rfl (fun hc => ?_) (fun hc => ?_) <;> (try simp only [go_sem] at hc)
            repeat refine awp_seq ?_
            refine awp_reg (by kernel_rfl) fun K hK => ?_
            simp only [go_sem]
            (try simp (disch := omega) only [wrapI])
            repeat first | intro _ | refine ⟨(by omega), ?_⟩ | refine ⟨⟨by omega, by omega⟩, ?_⟩
            refine hK _ ?_
            clear hK K
            refine awp_sub (sub_keep [4, 5, 6, 7]) ?_
            simp only [go_sem]
            refine awp_ret ?_
            simp only [go_sem]
          have hvE : visitE bs v.ds v.n = 0 := by rw [visitE, if_neg e1, if_neg (by simpa using e2), if_neg (by rw [← hemp, hem]; decide)]
          rw [if_pos hvE] at hR
          have hLe : leV bs le v.ds v.n = addT le (accL xs).2.1 := by rw [leV, if_pos hvE, hacc]
          have hMo : moV bs mo v.ds v.n = addT mo (accL xs).2.2 := by rw [moV, if_pos hvE, hacc]
          obtain ⟨sl1, sl2⟩ := accL_small (b := 3) (by omega) xs hxl
          have hR1 := (leV_small (bs := bs) (ds := v.ds) (n := v.n) hs1).1
          have hR2 := moV_small (bs := bs) (ds := v.ds) (n := v.n) hs2
          rw [hLe, hMo] at hR
          rw [hLe] at hR1
          rw [hMo] at hR2
          repeat refine awp_seq ?_
          refine awp_reg (by kernel_rfl) fun K hK => ?_
          simp only [go_sem]
          (try simp (disch := omega) only [wrapI])
          repeat first | intro _ | refine ⟨(by omega), ?_⟩ | refine ⟨⟨by omega, by omega⟩, ?_⟩
          refine hK _ ?_
          clear hK K
          refine awp_sub (sub_keep [1, 2, 4, 8, 9, 11, 12, 114]) ?_
          simp only [go_sem]
          repeat refine awp_seq ?_
          refine awp_cond rfl (fun hc => ?_) (fun hc => ?_) <;> (try simp only [go_sem] at hc)
          refine awp_skip ?_
          try simp only [go_sem]
          repeat refine awp_seq ?_
          refine awp_reg (by kernel_rfl) fun K hK => ?_
          simp only [go_sem]
          (try simp (disch := omega) only [wrapI])
          repeat first | intro _ | refine ⟨(by omega), ?_⟩ | refine ⟨⟨by omega, by omega⟩, ?_⟩
          refine hK _ ?_
          clear hK K
          refine awp_sub (sub_keep [1, 2, 4, 8, 9, 11, 12, 14]) ?_
          simp only [go_sem]
          repeat refine awp_seq ?_
          refine awp_block ?_
          refine awp_uptoV (n := 158) N (fun k vs => [(1, .r (visR l)), (2, .r (.rp [i64 a.at_, bedsR a.beds])), (4, .pt 4 (vs 4) 0), (8, .r (.rp [i64 0, .ns])), (9, .pt 9 (vs 9) 0), (11, .r (i64 i)), (12, .r (.sl 2 (spansA N xs))), (14, .r (i64 k))])
            (fun k vs => [(4, .box [.r (i64 0), .r .ns]), (9, .box [.r (i64 a.at_), .os 57 (vs 57) 3 0 N]), (57, .arr 67 3 (mixF N k (outB bs (addT le (accL xs).2.1) (addT mo (accL xs).2.2)) (outB bs le mo)))]) (fun _ => True) 0 (fitV_of [] ?_ ?_) (Nat.zero_le _) trivial ?_
          · try simp only [go_sem]
          · try simp only [go_sem]
            rw [mixF_zero]
          · intro k vs hk _
            repeat refine awp_seq ?_
            refine awp_reg (by kernel_rfl) fun K hK => ?_
            simp only [go_sem, List.length_range]
            (try simp (disch := omega) only [wrapI])
            intro _
            repeat first | intro _ | refine ⟨(by omega), ?_⟩ | refine ⟨⟨by omega, by omega⟩, ?_⟩
            refine hK _ ?_
            clear hK K
            refine awp_sub (sub_keep [1, 2, 4, 8, 9, 11, 12, 14, 120]) ?_
            simp only [go_sem]
            repeat refine awp_seq ?_
            refine awp_cond rfl (fun hc => ?_) (fun hc => ?_) <;> (try simp only [go_sem] at hc)
            · have hck : k < N := by first | exact hc | omega
              refine awp_skip ?_
              try simp only [go_sem]
              repeat refine awp_seq ?_
              refine awp_block ?_
              have hxk : (List.range N)[k]? = some k := List.getElem?_range hck
              have hxk2 : spanAt xs k = [i64 ((accL xs).2.1.getD k 0), i64 ((accL xs).2.2.getD k 0)] := rfl
              have ml := mixF_len N k (outB bs (addT le (accL xs).2.1) (addT mo (accL xs).2.2)) (outB bs le mo)
              have ma : (mixF N k (outB bs (addT le (accL xs).2.1) (addT mo (accL xs).2.2)) (outB bs le mo)).getD k [] = [i64 (bs.getD k 0), i64 (le.getD k 0), i64 (mo.getD k 0)] := mixF_at hck
              have ms := mixF_set (N := N) (k := k) (f := outB bs (addT le (accL xs).2.1) (addT mo (accL xs).2.2)) (g := outB bs le mo) hck
              have b1 := sl1.getD (k := k) (by omega)
              have b2 := sl2.getD (k := k) (by omega)
              have b3 := hs1.getD (k := k) (by omega)
              have b4 := hs2.getD (k := k) (by omega)
              have q1 : (addT le (accL xs).2.1).getD k 0 = le.getD k 0 + (accL xs).2.1.getD k 0 := getD_addT (by omega) (by rw [sl1.1]; omega)
              have q2 : (addT mo (accL xs).2.2).getD k 0 = mo.getD k 0 + (accL xs).2.2.getD k 0 := getD_addT (by omega) (by rw [sl2.1]; omega)
              have ms' : ∀ M : List (List RV), M = mixF N k (outB bs (addT le (accL xs).2.1) (addT mo (accL xs).2.2)) (outB bs le mo) → M.set k [i64 (bs.getD k 0), i64 (le.getD k 0 + (accL xs).2.1.getD k 0), i64 (mo.getD k 0 + (accL xs).2.2.getD k 0)] = mixF N (k + 1) (outB bs (addT le (accL xs).2.1) (addT mo (accL xs).2.2)) (outB bs le mo) := fun M hM => by
                rw [hM, ← ms, outB, bedAt, bedR, q1, q2]
              generalize mixF N k (outB bs (addT le (accL xs).2.1) (addT mo (accL xs).2.2)) (outB bs le mo) = M at ml ma ms'
              have ms := ms' M rfl
              clear ms'
              have mg : ∀ v : List RV, (M.set k v).getD k [] = v := fun v => by rw [List.getD_eq_getElem?_getD, List.getElem?_set_self (by omega)]; rfl
              generalize (accL xs).2.1.getD k 0 = sL at *
              generalize (accL xs).2.2.getD k 0 = sH at *
              generalize le.getD k 0 = oL at *
              generalize mo.getD k 0 = oH at *
              repeat refine awp_seq ?_
              refine awp_reg (by kernel_rfl) fun K hK => ?_
              simp only [go_sem, ml, hck]
              (try simp (disch := omega) only [wrapI])
              repeat first | intro _ | refine ⟨(by omega), ?_⟩ | refine ⟨⟨by omega, by omega⟩, ?_⟩
              refine hK _ ?_
              clear hK K
              refine awp_sub (sub_keep [1, 2, 4, 8, 9, 11, 12, 14, 15]) ?_
              simp only [go_sem]
              repeat refine awp_seq ?_
              refine awp_dreg2 [(12, none), (14, none), (15, some 57)] follows (by decide +kernel) (by kernel_rfl) (by simp only [keysOk, List.mem_cons, List.not_mem_nil, forall_eq_or_imp, Oc.keyOf, go_sem]; simp) fun K hK => ?_
              simp only [go_sem, ml, ma, mg, hck, hxk, hxk2, List.length_range, List.set_set, List.length_set, List.headD_cons, List.length_cons]
              (try simp (disch := omega) only [wrapI])
              repeat first | intro _ | refine ⟨(by omega), ?_⟩ | refine ⟨⟨by omega, by omega⟩, ?_⟩
              refine hK _ ?_
              clear hK K
              rw [ms]
              refine awp_sub (sub_keep [1, 2, 4, 8, 9, 11, 12, 14]) ?_
              simp only [go_sem]
              repeat refine awp_seq ?_
              refine awp_reg (by kernel_rfl) fun K hK => ?_
              simp only [go_sem]
              (try simp (disch := omega) only [wrapI])
              repeat first | intro _ | refine ⟨(by omega), ?_⟩ | refine ⟨⟨by omega, by omega⟩, ?_⟩
              refine hK _ ?_
              clear hK K
              try simp only [go_sem]
              refine ⟨hck, fitV_of [] ?_ ?_⟩
              · try simp only [go_sem]
              · try simp only [go_sem]
            · refine awp_exit ?_
              simp only [go_sem]
              have : k = N := by omega
              subst this
              repeat refine awp_seq ?_
              refine awp_reg (by kernel_rfl) fun K hK => ?_
              simp only [go_sem]
              (try simp (disch := omega) only [wrapI])
              repeat first | intro _ | refine ⟨(by omega), ?_⟩ | refine ⟨⟨by omega, by omega⟩, ?_⟩
              refine hK _ ?_
              clear hK K
              try simp only [go_sem]
              refine ⟨(i + 1, addT le (accL xs).2.1, addT mo (accL xs).2.2), ⟨by omega, ?_, ?_, hR⟩, by simp only; omega, fitV_of [] ?_ ?_⟩
              · simpa [Int.mul_add] using hR1
              · simpa [Int.mul_add] using hR2
              · try simp only [go_sem]
              · try simp only [go_sem]
                rw [mixF_full]
        · have hil : i = l.length := by omega
          subst hil
          rw [List.drop_length, runF] at hR
          have hv : fitV a l = (⟨a.at_, (List.range a.beds.length).map (bedAt bs le mo)⟩, 3 * (l.length : Int), 0, 0) := by rw [hV, hR]
          rw [hv, ← hNe]
          have hll : l.length ≤ 1000 := by omega
          refine awp_exit ?_
          simp only [go_sem]
          refine awp_sub (sub_frzB 9 1 57 (by omega) (by omega) rfl rfl rfl (by simp)) ?_
          simp only [go_sem, List.drop_zero, List.set_cons_succ, List.set_cons_zero]
          repeat refine awp_seq ?_
          refine awp_reg (by kernel_rfl) fun K hK => ?_
          simp only [go_sem]
          (try simp (disch := omega) only [wrapI])
          repeat first | intro _ | refine ⟨(by omega), ?_⟩ | refine ⟨⟨by omega, by omega⟩, ?_⟩
          refine hK _ ?_
          clear hK K
          refine awp_sub (sub_keep [4, 5, 6, 7]) ?_
          simp only [go_sem]
          refine awp_ret ?_
          simp only [go_sem]
          rw [List.take_of_length_le (by simp), List.map_map]
          rfl
end Go.Proofs.Ytgkejinoaommeaa

/- Law ThrowFits: the aim by any visits is what the document says. -/
namespace Go.Proofs.Ytgkejinoaommeaa
open Go Go.Oc
set_option linter.unusedSimpArgs false
set_option linter.unusedVariables false
set_option maxRecDepth 8000
theorem fits_law (a : Am) (l : List Vi) (hw : WfA a) : ACalls Try.prog 5 [aimV a, visR l] (.bo true) := by
  refine acalls_st (rs := [.bo true]) [.tmp 4] Try.func5 rfl (by kernel_rfl) Try.ntmps5 rfl (by simp) rfl fun C vs => ?_
  repeat refine awp_seq ?_
  refine awp_reg (by kernel_rfl) fun K hK => ?_
  simp only [go_sem]
  (try simp (disch := omega) only [wrapI])
  repeat first | intro _ | refine ⟨(by omega), ?_⟩ | refine ⟨⟨by omega, by omega⟩, ?_⟩
  refine hK _ ?_
  clear hK K
  refine awp_sub (sub_frzP 2 2 [i64 a.at_, bedsR a.beds] (by omega) rfl rfl) ?_
  refine awp_sub (sub_keep [1, 2]) ?_
  simp only [go_sem]
  repeat refine awp_seq ?_
  refine awp_join (n := 157) (fun (b : Bool) vs => [(1, .r (visR l)), (2, .r (.rp [i64 a.at_, bedsR a.beds])), (36, .r (.bo b))]) (fun _ => []) (fun b => b = false → a.beds.length ≤ 12 ∧ l.length ≤ 1010) (fun _ h => h) ?_ ?_
  · by_cases h1 : 12 < a.beds.length
    · have c1 : decide ((12 : Int) < (a.beds.length : Int)) = true := by simp; omega
      repeat refine awp_seq ?_
      refine awp_reg (by kernel_rfl) fun K hK => ?_
      simp only [go_sem, c1]
      (try simp (disch := omega) only [wrapI])
      repeat' first | intro _ | refine And.intro ?_ ?_
      all_goals first | omega | skip
      all_goals (refine hK _ ?_; clear hK K)
      all_goals try simp only [go_sem]
      all_goals exact ⟨true, (fun h => by cases h), fit_of [] (by try simp only [go_sem]) (by try simp only [go_sem])⟩
    have c1 : decide ((12 : Int) < (a.beds.length : Int)) = false := by simp; omega
    by_cases h2 : 1010 < l.length
    · have c2 : decide ((30 : Int) < (l.length : Int)) = true := by simp; omega
      have c3 : decide ((l.length : Int) ≤ (1000 : Int)) = false := by simp; omega
      have c4 : decide ((1010 : Int) < (l.length : Int)) = true := by simp; omega
      repeat refine awp_seq ?_
      refine awp_reg (by kernel_rfl) fun K hK => ?_
      simp only [go_sem, c1, c2, c3, c4]
      (try simp (disch := omega) only [wrapI])
      repeat' first | intro _ | refine And.intro ?_ ?_
      all_goals first | omega | skip
      all_goals (refine hK _ ?_; clear hK K)
      all_goals try simp only [go_sem]
      all_goals exact ⟨true, (fun h => by cases h), fit_of [] (by try simp only [go_sem]) (by try simp only [go_sem])⟩
    have c4 : decide ((1010 : Int) < (l.length : Int)) = false := by simp; omega
    by_cases h3 : 30 < l.length
    · have c2 : decide ((30 : Int) < (l.length : Int)) = true := by simp; omega
      by_cases h4 : l.length ≤ 1000
      · have c3 : decide ((l.length : Int) ≤ (1000 : Int)) = true := by simp; omega
        repeat refine awp_seq ?_
        refine awp_reg (by kernel_rfl) fun K hK => ?_
        simp only [go_sem, c1, c2, c3, c4]
        (try simp (disch := omega) only [wrapI])
        repeat' first | intro _ | refine And.intro ?_ ?_
        all_goals first | omega | skip
        all_goals (refine hK _ ?_; clear hK K)
        all_goals try simp only [go_sem]
        all_goals exact ⟨_, (fun h => ⟨by omega, by omega⟩), fit_of [] (by try simp only [go_sem]; rfl) (by try simp only [go_sem])⟩
      · have c3 : decide ((l.length : Int) ≤ (1000 : Int)) = false := by simp; omega
        repeat refine awp_seq ?_
        refine awp_reg (by kernel_rfl) fun K hK => ?_
        simp only [go_sem, c1, c2, c3, c4]
        (try simp (disch := omega) only [wrapI])
        repeat' first | intro _ | refine And.intro ?_ ?_
        all_goals first | omega | skip
        all_goals (refine hK _ ?_; clear hK K)
        all_goals try simp only [go_sem]
        all_goals exact ⟨_, (fun h => ⟨by omega, by omega⟩), fit_of [] (by try simp only [go_sem]; rfl) (by try simp only [go_sem])⟩
    · have c2 : decide ((30 : Int) < (l.length : Int)) = false := by simp; omega
      repeat refine awp_seq ?_
      refine awp_reg (by kernel_rfl) fun K hK => ?_
      simp only [go_sem, c1, c2, c4]
      (try simp (disch := omega) only [wrapI])
      repeat' first | intro _ | refine And.intro ?_ ?_
      all_goals first | omega | skip
      all_goals (refine hK _ ?_; clear hK K)
      all_goals try simp only [go_sem]
      all_goals exact ⟨_, (fun h => ⟨by omega, by omega⟩), fit_of [] (by try simp only [go_sem]; rfl) (by try simp only [go_sem])⟩
  intro b vs hb
  cases b
  rotate_left
  · repeat refine awp_seq ?_
    refine awp_cond rfl (fun hc => ?_) (fun hc => ?_) <;> (try simp only [go_sem] at hc)
    repeat refine awp_seq ?_
    refine awp_reg (by kernel_rfl) fun K hK => ?_
    simp only [go_sem]
    (try simp (disch := omega) only [wrapI])
    refine xcall_eq (known14_ok) rfl (by simp only [go_sem, i64, ints]) (by simp only [go_sem, i64, ints]) (by first | exact .inl rfl | exact .inr rfl) ?_
    (try simp only [go_sem])
    (try simp (disch := omega) only [wrapI])
    repeat first | intro _ | refine ⟨(by omega), ?_⟩ | refine ⟨⟨by omega, by omega⟩, ?_⟩
    refine hK _ ?_
    clear hK K
    refine awp_sub (sub_keep [4]) ?_
    simp only [go_sem]
    refine awp_ret ?_
    simp only [go_sem]
  obtain ⟨hb1, hb2⟩ := hb rfl
  repeat refine awp_seq ?_
  refine awp_cond rfl (fun hc => ?_) (fun hc => ?_) <;> (try simp only [go_sem] at hc)
  refine awp_skip ?_
  try simp only [go_sem]
  repeat refine awp_seq ?_
  refine awp_reg (by kernel_rfl) fun K hK => ?_
  simp only [go_sem]
  (try simp (disch := omega) only [wrapI])
  repeat first | intro _ | refine ⟨(by omega), ?_⟩ | refine ⟨⟨by omega, by omega⟩, ?_⟩
  refine hK _ ?_
  clear hK K
  refine awp_sub (sub_keep [1, 2, 5]) ?_
  simp only [go_sem]
  repeat refine awp_seq ?_
  refine awp_block ?_
  refine awp_upto (n := 157) l.length (fun i vs => [(1, .r (visR l)), (2, .r (.rp [i64 a.at_, bedsR a.beds])), (5, .r (i64 i))])
    (fun i => []) (fun i => ∀ v ∈ l.take i, v.ds.length ≤ 5) 0 (fit_of [] ?_ ?_) (Nat.zero_le _) (by simp) ?_
  · try simp only [go_sem]
  · try simp only [go_sem]
  · intro i vs hi hI
    repeat refine awp_seq ?_
    refine awp_reg (by kernel_rfl) fun K hK => ?_
    simp only [go_sem]
    (try simp (disch := omega) only [wrapI])
    repeat first | intro _ | refine ⟨(by omega), ?_⟩ | refine ⟨⟨by omega, by omega⟩, ?_⟩
    refine hK _ ?_
    clear hK K
    refine awp_sub (sub_keep [1, 2, 5, 41]) ?_
    simp only [go_sem]
    repeat refine awp_seq ?_
    refine awp_cond rfl (fun hc => ?_) (fun hc => ?_) <;> (try simp only [go_sem] at hc)
    · -- then
      have hci := hc
      obtain ⟨v, hx⟩ := opt_of_lt hci
      refine awp_skip ?_
      try simp only [go_sem]
      repeat refine awp_seq ?_
      refine awp_block ?_
      repeat refine awp_seq ?_
      refine awp_reg (by kernel_rfl) fun K hK => ?_
      simp only [go_sem, hx, hci]
      (try simp (disch := omega) only [wrapI])
      repeat first | intro _ | refine ⟨(by omega), ?_⟩ | refine ⟨⟨by omega, by omega⟩, ?_⟩
      refine hK _ ?_
      clear hK K
      refine awp_sub (sub_keep [1, 2, 5, 50]) ?_
      simp only [go_sem]
      repeat refine awp_seq ?_
      refine awp_cond rfl (fun hc => ?_) (fun hc => ?_) <;> (try simp only [go_sem] at hc)
      · -- then
        repeat refine awp_seq ?_
        refine awp_reg (by kernel_rfl) fun K hK => ?_
        simp only [go_sem]
        (try simp (disch := omega) only [wrapI])
        refine xcall_eq (known14_ok) rfl (by simp only [go_sem, i64, ints]) (by simp only [go_sem, i64, ints]) (by first | exact .inl rfl | exact .inr rfl) ?_
        (try simp only [go_sem])
        (try simp (disch := omega) only [wrapI])
        repeat first | intro _ | refine ⟨(by omega), ?_⟩ | refine ⟨⟨by omega, by omega⟩, ?_⟩
        refine hK _ ?_
        clear hK K
        refine awp_sub (sub_keep [4]) ?_
        simp only [go_sem]
        refine awp_ret ?_
        simp only [go_sem]
      · -- else
        have h5 : v.ds.length ≤ 5 := by omega
        refine awp_skip ?_
        try simp only [go_sem]
        repeat refine awp_seq ?_
        refine awp_reg (by kernel_rfl) fun K hK => ?_
        simp only [go_sem]
        (try simp (disch := omega) only [wrapI])
        repeat first | intro _ | refine ⟨(by omega), ?_⟩ | refine ⟨⟨by omega, by omega⟩, ?_⟩
        refine hK _ ?_
        clear hK K
        try simp only [go_sem]
        refine ⟨hci, ?_, fit_of [] ?_ ?_⟩
        · rw [take_of_opt hx]
          intro x hx
          rcases List.mem_append.1 hx with hx | hx
          · exact hI x hx
          · rw [List.mem_singleton.1 hx]; exact h5
        · try simp only [go_sem]
        · try simp only [go_sem]
    · -- else
      have : i = l.length := by omega
      subst this
      rw [List.take_length] at hI
      have hcp := aim_ok a (by omega)
      have hvis := visits_ok l (by omega) hI
      have hfit := fit_ok a l hw
      have href := refFit_ok a l hw (by omega)
      obtain ⟨⟨x, den, at_, e⟩, hV⟩ : ∃ q, q = fitV a l := ⟨_, rfl⟩
      rw [← hV] at hfit href
      simp only at hfit href
      refine awp_exit ?_
      simp only [go_sem]
      repeat refine awp_seq ?_
      refine awp_reg (by kernel_rfl) fun K hK => ?_
      simp only [go_sem]
      (try simp (disch := omega) only [wrapI])
      refine xcall_eq (hcp) rfl (by simp only [go_sem, i64, ints]) (by simp only [go_sem, i64, ints]) (by first | exact .inl rfl | exact .inr rfl) ?_
      (try simp only [go_sem])
      (try simp (disch := omega) only [wrapI])
      refine xcall_eq (hvis) rfl (by simp only [go_sem, i64, ints]) (by simp only [go_sem, i64, ints]) (by first | exact .inl rfl | exact .inr rfl) ?_
      (try simp only [go_sem])
      (try simp (disch := omega) only [wrapI])
      repeat first | intro _ | refine ⟨(by omega), ?_⟩ | refine ⟨⟨by omega, by omega⟩, ?_⟩
      refine hK _ ?_
      clear hK K
      refine awp_sub (sub_frzP 6 6 [i64 a.at_, bedsR a.beds] (by omega) rfl rfl) ?_
      refine awp_sub (sub_keep [1, 2, 6, 7]) ?_
      simp only [go_sem]
      repeat refine awp_seq ?_
      refine awp_reg (by kernel_rfl) fun K hK => ?_
      simp only [go_sem]
      (try simp (disch := omega) only [wrapI])
      refine xcall_eq (hfit) rfl (by simp only [go_sem, i64, ints]) (by simp only [go_sem, i64, ints]) (by first | exact .inl rfl | exact .inr rfl) ?_
      (try simp only [go_sem])
      (try simp (disch := omega) only [wrapI])
      repeat first | intro _ | refine ⟨(by omega), ?_⟩ | refine ⟨⟨by omega, by omega⟩, ?_⟩
      refine hK _ ?_
      clear hK K
      refine awp_sub (sub_frzP 8 8 [i64 x.at_, bedsR x.beds] (by omega) rfl rfl) ?_
      refine awp_sub (sub_keep [1, 2, 6, 7, 8, 9, 10, 11]) ?_
      simp only [go_sem]
      repeat refine awp_seq ?_
      refine awp_reg (by kernel_rfl) fun K hK => ?_
      simp only [go_sem]
      (try simp (disch := omega) only [wrapI])
      repeat first | intro _ | refine ⟨(by omega), ?_⟩ | refine ⟨⟨by omega, by omega⟩, ?_⟩
      refine hK _ ?_
      clear hK K
      refine awp_sub (sub_keep [1, 2, 6, 7, 8, 9, 10, 11, 12]) ?_
      simp only [go_sem]
      repeat refine awp_seq ?_
      refine awp_block ?_
      refine awp_upto (n := 157) l.length (fun i vs => [(1, .r (visR l)), (2, .r (.rp [i64 a.at_, bedsR a.beds])), (6, .r (.rp [i64 a.at_, bedsR a.beds])), (7, .r (visR l)), (8, .r (.rp [i64 x.at_, bedsR x.beds])), (9, .r (i64 den)), (10, .r (i64 at_)), (11, .r (i64 e)), (12, .r (i64 i))])
        (fun i => []) (fun _ => True) 0 (fit_of [] ?_ ?_) (Nat.zero_le _) trivial ?_
      · try simp only [go_sem]
      · try simp only [go_sem]
      · intro i vs hi _
        repeat refine awp_seq ?_
        refine awp_reg (by kernel_rfl) fun K hK => ?_
        simp only [go_sem]
        (try simp (disch := omega) only [wrapI])
        repeat first | intro _ | refine ⟨(by omega), ?_⟩ | refine ⟨⟨by omega, by omega⟩, ?_⟩
        refine hK _ ?_
        clear hK K
        refine awp_sub (sub_keep [1, 2, 6, 7, 8, 9, 10, 11, 12, 67]) ?_
        simp only [go_sem]
        repeat refine awp_seq ?_
        refine awp_cond rfl (fun hc => ?_) (fun hc => ?_) <;> (try simp only [go_sem] at hc)
        · -- then
          have hci := hc
          obtain ⟨v, hx⟩ := opt_of_lt hci
          refine awp_skip ?_
          try simp only [go_sem]
          repeat refine awp_seq ?_
          refine awp_block ?_
          repeat refine awp_seq ?_
          refine awp_dreg follows (by decide +kernel) (by kernel_rfl) fun K hK => ?_
          simp only [go_sem, hx, hci, bne_self_eq_false]
          (try simp (disch := omega) only [wrapI])
          repeat first | intro _ | refine ⟨(by omega), ?_⟩ | refine ⟨⟨by omega, by omega⟩, ?_⟩
          refine hK _ ?_
          clear hK K
          refine awp_sub (sub_keep [1, 2, 6, 7, 8, 9, 10, 11, 12, 95]) ?_
          simp only [go_sem]
          repeat refine awp_seq ?_
          refine awp_cond rfl (fun hc => ?_) (fun hc => ?_) <;> (try simp only [go_sem] at hc)
          refine awp_skip ?_
          try simp only [go_sem]
          repeat refine awp_seq ?_
          refine awp_reg (by kernel_rfl) fun K hK => ?_
          simp only [go_sem]
          (try simp (disch := omega) only [wrapI])
          repeat first | intro _ | refine ⟨(by omega), ?_⟩ | refine ⟨⟨by omega, by omega⟩, ?_⟩
          refine hK _ ?_
          clear hK K
          refine awp_sub (sub_keep [1, 2, 6, 7, 8, 9, 10, 11, 12, 13]) ?_
          simp only [go_sem]
          repeat refine awp_seq ?_
          refine awp_block ?_
          refine awp_upto (n := 157) v.ds.length (fun k vs => [(1, .r (visR l)), (2, .r (.rp [i64 a.at_, bedsR a.beds])), (6, .r (.rp [i64 a.at_, bedsR a.beds])), (7, .r (visR l)), (8, .r (.rp [i64 x.at_, bedsR x.beds])), (9, .r (i64 den)), (10, .r (i64 at_)), (11, .r (i64 e)), (12, .r (i64 i)), (13, .r (i64 k))])
            (fun i => []) (fun _ => True) 0 (fit_of [] ?_ ?_) (Nat.zero_le _) trivial ?_
          · try simp only [go_sem]
          · try simp only [go_sem]
          · intro k vs hk _
            repeat refine awp_seq ?_
            refine awp_reg (by kernel_rfl) fun K hK => ?_
            simp only [go_sem, hx, hci]
            (try simp (disch := omega) only [wrapI])
            repeat first | intro _ | refine ⟨(by omega), ?_⟩ | refine ⟨⟨by omega, by omega⟩, ?_⟩
            refine hK _ ?_
            clear hK K
            refine awp_sub (sub_keep [1, 2, 6, 7, 8, 9, 10, 11, 12, 13, 103]) ?_
            simp only [go_sem]
            repeat refine awp_seq ?_
            refine awp_cond rfl (fun hc => ?_) (fun hc => ?_) <;> (try simp only [go_sem] at hc)
            · -- then
              have hck := hc
              obtain ⟨y, hy⟩ := opt_of_lt hck
              refine awp_skip ?_
              try simp only [go_sem]
              repeat refine awp_seq ?_
              refine awp_block ?_
              repeat refine awp_seq ?_
              refine awp_dreg follows (by decide +kernel) (by kernel_rfl) fun K hK => ?_
              simp only [go_sem, hx, hci, hy, hck, bne_self_eq_false]
              (try simp (disch := omega) only [wrapI])
              repeat first | intro _ | refine ⟨(by omega), ?_⟩ | refine ⟨⟨by omega, by omega⟩, ?_⟩
              refine hK _ ?_
              clear hK K
              refine awp_sub (sub_keep [1, 2, 6, 7, 8, 9, 10, 11, 12, 13, 122]) ?_
              simp only [go_sem]
              repeat refine awp_seq ?_
              refine awp_cond rfl (fun hc => ?_) (fun hc => ?_) <;> (try simp only [go_sem] at hc)
              refine awp_skip ?_
              try simp only [go_sem]
              repeat refine awp_seq ?_
              refine awp_reg (by kernel_rfl) fun K hK => ?_
              simp only [go_sem]
              (try simp (disch := omega) only [wrapI])
              repeat first | intro _ | refine ⟨(by omega), ?_⟩ | refine ⟨⟨by omega, by omega⟩, ?_⟩
              refine hK _ ?_
              clear hK K
              try simp only [go_sem]
              refine ⟨hck, fit_of [] ?_ ?_⟩
              · try simp only [go_sem]
              · try simp only [go_sem]
            · -- else
              refine awp_exit ?_
              simp only [go_sem]
              repeat refine awp_seq ?_
              refine awp_reg (by kernel_rfl) fun K hK => ?_
              simp only [go_sem]
              (try simp (disch := omega) only [wrapI])
              repeat first | intro _ | refine ⟨(by omega), ?_⟩ | refine ⟨⟨by omega, by omega⟩, ?_⟩
              refine hK _ ?_
              clear hK K
              try simp only [go_sem]
              refine ⟨hci, fit_of [] ?_ ?_⟩
              · try simp only [go_sem]
              · try simp only [go_sem]
        · -- else
          refine awp_exit ?_
          simp only [go_sem]
          repeat refine awp_seq ?_
          refine awp_reg (by kernel_rfl) fun K hK => ?_
          simp only [go_sem]
          (try simp (disch := omega) only [wrapI])
          refine xcall_eq (href) rfl (by simp only [go_sem, i64, ints]) (by simp only [go_sem, i64, ints]) (by first | exact .inl rfl | exact .inr rfl) ?_
          (try simp only [go_sem])
          (try simp (disch := omega) only [wrapI])
          repeat first | intro _ | refine ⟨(by omega), ?_⟩ | refine ⟨⟨by omega, by omega⟩, ?_⟩
          refine hK _ ?_
          clear hK K
          refine awp_sub (sub_frzP 14 14 [i64 x.at_, bedsR x.beds] (by omega) rfl rfl) ?_
          refine awp_sub (sub_keep [2, 6, 8, 9, 10, 11, 14, 15, 16, 17]) ?_
          simp only [go_sem]
          repeat refine awp_seq ?_
          refine awp_reg (by kernel_rfl) fun K hK => ?_
          simp only [go_sem, beq_self_eq_true]
          (try simp (disch := omega) only [wrapI])
          refine xcall_eq (same_ok a a) rfl (by simp only [go_sem, i64, ints, beq_self_eq_true]) (by simp only [go_sem, i64, ints, beq_self_eq_true]) (by first | exact .inl rfl | exact .inr rfl) ?_
          (try simp only [go_sem, beq_self_eq_true])
          (try simp (disch := omega) only [wrapI])
          try simp only [go_sem]
          refine xcall_eq (same_ok x x) rfl (by simp only [go_sem, i64, ints, beq_self_eq_true]) (by simp only [go_sem, i64, ints, beq_self_eq_true]) (by first | exact .inl rfl | exact .inr rfl) ?_
          (try simp only [go_sem, beq_self_eq_true])
          (try simp (disch := omega) only [wrapI])
          try simp only [go_sem]
          refine xcall_eq (known14_ok) rfl (by simp only [go_sem, i64, ints]) (by simp only [go_sem, i64, ints]) (by first | exact .inl rfl | exact .inr rfl) ?_
          (try simp only [go_sem])
          (try simp (disch := omega) only [wrapI])
          repeat first | intro _ | refine ⟨(by omega), ?_⟩ | refine ⟨⟨by omega, by omega⟩, ?_⟩
          refine hK _ ?_
          clear hK K
          refine awp_sub (sub_keep [4]) ?_
          simp only [go_sem]
          refine awp_ret ?_
          simp only [go_sem]
end Go.Proofs.Ytgkejinoaommeaa

/- What a reading of the arguments says of them: plain data of a shape. -/
namespace Go.Oc
open Go Go.RowKit Go.ChangeShapes Go.WideShapes

inductive Sh where
  | int (k : IntKind)
  | bool
  | sl (es : List Sh)
def fieldsSh (P : Program) (sh : TypeId → Option (List Sh)) : List Field → Nat → Option (List Sh)
  | [], _ => some []
  | f :: fs, o =>
    match sh f.type with
    | some ss => if f.offset == o && ss.length == P.cellsOf f.type then match fieldsSh P sh fs (o + ss.length) with | some q => some (ss ++ q) | none => none else none
    | none => none
/-- The cells of a type. -/
def shape (P : Program) : Nat → TypeId → Option (List Sh)
  | 0, _ => none
  | n + 1, t =>
    match P.underlying t with
    | some (.int k) => some [.int k]
    | some .bool => some [.bool]
    | some (.slice e) =>
      match shape P n e with
      | some ss => if ss.length == P.cellsOf e && decide (0 < ss.length) then some [.sl ss] else none
      | none => none
    | some (.array m e) =>
      match shape P n e with
      | some ss => if ss.length == P.cellsOf e && P.cellsOf t == m * ss.length then some (List.replicate m ss).flatten else none
      | none => none
    | some (.struct fs) =>
      match fieldsSh P (shape P n) fs.toList 0 with
      | some ss => if ss.length == P.cellsOf t then some ss else none
      | none => none
    | _ => none
mutual
def Fits : Sh → RV → Prop
  | .int k, x => ∃ n, x = .it k n ∧ (Lit.int k n).wf = true
  | .bool, x => ∃ b, x = .bo b
  | .sl ss, x => ∃ es, x = .sl ss.length es ∧ FitsE ss es
def FitsL : List Sh → List RV → Prop
  | [], xs => xs = []
  | s :: ss, xs => ∃ y ys, xs = y :: ys ∧ Fits s y ∧ FitsL ss ys
def FitsE (ss : List Sh) : List (List RV) → Prop
  | [] => True
  | e :: es => FitsL ss e ∧ FitsE ss es
end

theorem fitsL_append : ∀ {s1 s2 : List Sh} {x1 x2 : List RV}, FitsL s1 x1 → FitsL s2 x2 → FitsL (s1 ++ s2) (x1 ++ x2)
  | [], _, _, _, h1, h2 => by simp only [FitsL] at h1; subst h1; simpa using h2
  | s :: ss, s2, x1, x2, h1, h2 => by
    simp only [FitsL] at h1
    obtain ⟨y, ys, rfl, h3, h4⟩ := h1
    simp only [List.cons_append, FitsL]
    exact ⟨y, _, rfl, h3, fitsL_append h4 h2⟩
theorem fitsL_length : ∀ {ss : List Sh} {xs : List RV}, FitsL ss xs → xs.length = ss.length
  | [], _, h => by simp only [FitsL] at h; subst h; rfl
  | s :: ss, _, h => by
    simp only [FitsL] at h
    obtain ⟨y, ys, rfl, _, h⟩ := h
    simp [fitsL_length h]
theorem fitsE_of : ∀ {ss : List Sh} {es : List (List RV)}, (∀ e ∈ es, FitsL ss e) → FitsE ss es
  | _, [], _ => by simp only [FitsE]
  | ss, e :: es, h => by simp only [FitsE]; exact ⟨h e (by simp), fitsE_of fun x hx => h x (by simp [hx])⟩
theorem choice {α : Type} {Q : Nat → α → Prop} : ∀ (n : Nat), (∀ i, i < n → ∃ x, Q i x) → ∃ xs : List α, xs.length = n ∧ ∀ i x, xs[i]? = some x → Q i x
  | 0, _ => ⟨[], rfl, by simp⟩
  | n + 1, h => by
    obtain ⟨xs, hl, hx⟩ := choice n fun i hi => h i (by omega)
    obtain ⟨y, hy⟩ := h n (by omega)
    refine ⟨xs ++ [y], by simp [hl], fun i x hi => ?_⟩
    by_cases h1 : i < n
    · rw [List.getElem?_append_left (by omega)] at hi; exact hx i x hi
    · rw [List.getElem?_append_right (by omega)] at hi
      have : i = n := by have := (List.getElem?_eq_some_iff.1 hi).1; simp at this; omega
      subst this
      simp [hl] at hi
      exact hi ▸ hy
section
variable {w : World} {P : Program}
theorem cells?_get {base n : Nat} {a : Addr} {cs : List Value} (h : w.cells? base a n = some cs) : cs.length = n ∧ ∀ i, i < n → w.cell? (a.add i) = cs[i]? := by
  unfold World.cells? at h
  split at h
  · exact ⟨by simpa using mapM_some_length h, fun i hi => mapM_some_get h i i (by simp [hi])⟩
  · cases h
theorem cell_lt {a : Addr} {v : Value} (h : w.cell? a = some v) : a.block < w.heap.size := by
  refine Decidable.byContradiction fun hn => ?_
  have : w.heap[a.block]? = none := by simp; omega
  simp [World.cell?, this] at h
/-- All that was there. -/
def old (w : World) : Nat → Prop := fun b => b < w.heap.size
theorem relC_of_cells {xs : List RV} {cs : List Value} {ad : Addr} (hV : RV.relV w (old w) xs cs) (hone : ∀ u ∈ cs, u.oneCell' = true) (hc : ∀ i, i < cs.length → w.cell? (ad.add i) = cs[i]?) : RV.relC w (old w) xs ad 0 := by
  refine RV.relC_of_get fun i x hx => ?_
  obtain ⟨u, hu, hr⟩ := RV.relV_get hV hx
  have hi := (List.getElem?_eq_some_iff.1 hu).1
  refine ⟨u, ?_, hone u (List.mem_of_getElem? hu), hr⟩
  rw [Nat.zero_add, hc i hi, hu]

variable {H : Type} {enc : TypeId × Value → H} {base : Nat} {spare : Nat → Bool} {held : Bool}
def Good3 (w : World) (ss : List Sh) (cs : List Value) : Prop := ∃ xs, FitsL ss xs ∧ RV.relV w (old w) xs cs ∧ ∀ u ∈ cs, u.oneCell' = true
theorem good3_append {s1 s2 : List Sh} {c1 c2 : List Value} (h1 : Good3 w s1 c1) (h2 : Good3 w s2 c2) : Good3 w (s1 ++ s2) (c1 ++ c2) := by
  obtain ⟨x1, f1, r1, o1⟩ := h1
  obtain ⟨x2, f2, r2, o2⟩ := h2
  refine ⟨x1 ++ x2, fitsL_append f1 f2, RV.relV_append r1 r2, fun u hu => ?_⟩
  rcases List.mem_append.1 hu with hu | hu
  · exact o1 u hu
  · exact o2 u hu
theorem good3_length {ss : List Sh} {cs : List Value} (h : Good3 w ss cs) : cs.length = ss.length := by
  obtain ⟨xs, f, r, _⟩ := h
  rw [RV.relV_length r, fitsL_length f]
theorem trod_fits : ∀ (fuel n : Nat) (t : TypeId) (cs : List Value) (x : DataW H × List MemPlace) (ss : List Sh), DataW.trod enc P w base spare held fuel t cs = some x → shape P n t = some ss → Good3 w ss cs := by
  intro fuel
  induction fuel with
  | zero => intro n t cs x ss h; simp [DataW.trod] at h
  | succ fuel ih =>
    intro n t cs x ss h hs
    cases n with
    | zero => simp [shape] at hs
    | succ n =>
      unfold shape at hs
      split at hs
      · rename_i k ht
        injection hs with hs; subst hs
        obtain ⟨m, rfl, _, hw⟩ := DataW.trod_int ht h
        exact ⟨[.it k m], by simp only [FitsL, Fits]; exact ⟨_, [], rfl, ⟨m, rfl, hw⟩, rfl⟩, by simp only [RV.relV, RV.rel]; exact ⟨_, [], rfl, rfl, rfl⟩, by simp [Value.oneCell']⟩
      · rename_i ht
        injection hs with hs; subst hs
        obtain ⟨b, rfl, _⟩ := DataW.trod_bool ht h
        exact ⟨[.bo b], by simp only [FitsL, Fits]; exact ⟨_, [], rfl, ⟨b, rfl⟩, rfl⟩, by simp only [RV.relV, RV.rel]; exact ⟨_, [], rfl, rfl, rfl⟩, by simp [Value.oneCell']⟩
      · rename_i e ht
        split at hs
        · rename_i es hes
          split at hs
          · rename_i hc
            simp only [Bool.and_eq_true, beq_iff_eq, decide_eq_true_eq] at hc
            injection hs with hs; subst hs
            rcases DataW.trod_slice ht h with ⟨rfl, _⟩ | ⟨a, len, cap, elems, rest, m, hm, rfl, _, _, hlc, hcm, hel, hget, _⟩
            · refine ⟨[.sl es.length []], ?_, ?_, by simp [Value.oneCell']⟩
              · simp only [FitsL, Fits]
                exact ⟨_, [], rfl, ⟨[], rfl, by simp only [FitsE]⟩, rfl⟩
              · simp only [RV.relV, RV.rel]
                exact ⟨_, [], rfl, ⟨none, 0, rfl, Nat.le_refl _, Nat.zero_le _, fun h => absurd rfl h⟩, rfl⟩
            · injection hm with hm; subst hm
              have hall : ∀ i, i < len → ∃ e', FitsL es e' ∧ e'.length = es.length ∧ RV.relC w (old w) e' (a.add (i * es.length)) 0 ∧ a.block < w.heap.size := fun i hi => by
                have h1 := hget i hi
                have h2 : i < elems.length := by omega
                rw [List.getElem?_eq_getElem h2] at h1
                obtain ⟨ci, hci, htr⟩ := Option.bind_eq_some_iff.1 h1
                rw [← hc.1] at hci
                obtain ⟨hl, hcell⟩ := cells?_get hci
                obtain ⟨xs, f, r, o⟩ := ih n e ci _ es htr hes
                refine ⟨xs, f, fitsL_length f, relC_of_cells r o (fun j hj => hcell j (by omega)), ?_⟩
                have h3 := hcell 0 hc.2
                have h4 : 0 < ci.length := by omega
                rw [List.getElem?_eq_getElem h4] at h3
                have := cell_lt h3
                rwa [block_add, block_add] at this
              obtain ⟨els, hlen, hels⟩ := choice len hall
              refine ⟨[.sl es.length els], ?_, ?_, by simp [Value.oneCell']⟩
              · simp only [FitsL, Fits]
                refine ⟨_, [], rfl, ⟨els, rfl, fitsE_of fun e' he' => ?_⟩, rfl⟩
                obtain ⟨i, hi⟩ := List.getElem?_of_mem he'
                exact (hels i e' hi).1
              · simp only [RV.relV, RV.rel]
                refine ⟨_, [], rfl, ⟨some a, cap, by rw [hlen], by omega, hcm, fun hne => ?_⟩, rfl⟩
                obtain ⟨e0, he0⟩ : ∃ e0, els[0]? = some e0 := by
                  cases els with
                  | nil => exact absurd rfl hne
                  | cons a l => exact ⟨a, rfl⟩
                refine ⟨a, rfl, (hels 0 e0 he0).2.2.2, RV.relE_of_get fun i e' he' => ?_⟩
                obtain ⟨_, q1, q2, _⟩ := hels i e' he'
                exact ⟨q1, RV.relC_unbase _ q2⟩
          · cases hs
        · cases hs
      · rename_i m e ht
        split at hs
        · rename_i es hes
          split at hs
          · rename_i hc
            simp only [Bool.and_eq_true, beq_iff_eq] at hc
            injection hs with hs; subst hs
            obtain ⟨xs, fm, hm, _, hcl, hxl, hget⟩ := DataW.trod_array ht h
            injection hm with hm; subst hm
            have key : ∀ j, j ≤ m → Good3 w (List.replicate j es).flatten (cs.take (j * es.length)) := by
              intro j
              induction j with
              | zero => intro _; exact ⟨[], by simp [FitsL], by simp [RV.relV], by simp⟩
              | succ j ihj =>
                intro hj
                have h1 := hget j (by omega)
                have h2 : j < xs.length := by omega
                rw [List.getElem?_eq_getElem h2, ← hc.1] at h1
                have h3 := ih n e _ _ es h1 hes
                have := good3_append (ihj (by omega)) h3
                rw [← List.take_add] at this
                rw [List.replicate_succ', List.flatten_append, Nat.add_mul]
                simpa using this
            have := key m (Nat.le_refl _)
            rwa [← hc.2, ← hcl, List.take_length] at this
          · cases hs
        · cases hs
      · rename_i fs ht
        split at hs
        · rename_i q hq
          split at hs
          · rename_i hc
            simp only [beq_iff_eq] at hc
            injection hs with hs; subst hs
            obtain ⟨xs, fm, hm, _, hcl, hxl, hget⟩ := DataW.trod_struct ht h
            injection hm with hm; subst hm
            have key : ∀ (l : List Field) (o : Nat) (q : List Sh), (∀ f ∈ l, ∃ y, DataW.trod enc P w base spare held fuel f.type ((cs.drop f.offset).take (P.cellsOf f.type)) = some y) → fieldsSh P (shape P n) l o = some q → Good3 w q ((cs.drop o).take q.length) := by
              intro l
              induction l with
              | nil =>
                intro o q _ hq
                simp only [fieldsSh, Option.some.injEq] at hq
                subst hq
                exact ⟨[], by simp [FitsL], by simp [RV.relV], by simp⟩
              | cons f l ihl =>
                intro o q hall hq
                simp only [fieldsSh] at hq
                split at hq
                · rename_i s1 hs1
                  split at hq
                  · rename_i hc1
                    simp only [Bool.and_eq_true, beq_iff_eq] at hc1
                    split at hq
                    · rename_i q2 hq2
                      injection hq with hq; subst hq
                      obtain ⟨y, hy⟩ := hall f (by simp)
                      have g1 := ih n f.type _ _ s1 hy hs1
                      have g2 := ihl (o + s1.length) q2 (fun f' hf' => hall f' (by simp [hf'])) hq2
                      rw [hc1.1, ← hc1.2] at g1
                      have := good3_append g1 g2
                      rw [← List.drop_drop, ← List.take_add] at this
                      simpa using this
                    · cases hq
                  · cases hq
                · cases hq
            have := key fs.toList 0 q (fun f hf => by
              obtain ⟨i, hi⟩ := List.getElem?_of_mem hf
              have hi' : fs[i]? = some f := by simpa using hi
              have h1 := hget i f hi'
              have h2 : i < xs.length := by have := (Array.getElem?_eq_some_iff.1 hi').1; omega
              exact ⟨xs[i], by rw [h1]; exact List.getElem?_eq_getElem h2⟩) hq
            rwa [List.drop_zero, hc, ← hcl, List.take_length] at this
          · cases hs
        · cases hs
      · cases hs

/-- An argument of a type. -/
def FitsT (P : Program) (n : Nat) (t : TypeId) (x : RV) : Prop := ∃ ss, shape P n t = some ss ∧ if aggOf P t then ∃ xs, x = .ag xs ∧ FitsL ss xs else FitsL ss [x]
theorem arg_fits {n : Nat} {t : TypeId} {v : Value} {d : DataW H} {ps : List MemPlace} {r : Reach} {b0 : Nat} (hs : (shape P n t).isSome = true) (hval : Value.okWide P w r b0 t v) (h : DataW.Trod enc P w base spare held t v d ps) :
    ∃ x, FitsT P n t x ∧ x.rel w (old w) v := by
  obtain ⟨ss, hss⟩ := Option.isSome_iff_exists.1 hs
  obtain ⟨fuel, hf⟩ := h
  obtain ⟨xs, f, r, o⟩ := trod_fits fuel n t _ _ ss hf hss
  have one : aggOf P t = false → v.cells.toList = [v] → ∃ x, FitsT P n t x ∧ x.rel w (old w) v := fun ha hc => by
    rw [hc] at r
    match xs, r with
    | [x], r =>
      simp only [RV.relV] at r
      obtain ⟨u, us, e, hr, _⟩ := r
      injection e with e1 e2
      subst e1
      exact ⟨x, ⟨ss, hss, by rw [ha]; exact f⟩, hr⟩
    | [], r => simp [RV.relV] at r
    | _ :: _ :: _, r =>
      simp only [RV.relV] at r
      obtain ⟨u, us, e, _, u2, us2, e2, _⟩ := r
      injection e with _ e
      rw [e2] at e; cases e
  cases n with
  | zero => simp [shape] at hss
  | succ n =>
    have hss' := hss
    unfold shape at hss'
    split at hss'
    · rename_i k ht
      obtain ⟨m, rfl⟩ := okWide_int ht hval
      exact one (by simp [aggOf, ht]) rfl
    · rename_i ht
      obtain ⟨b, rfl⟩ := okWide_bool ht hval
      exact one (by simp [aggOf, ht]) rfl
    · rename_i e ht
      obtain ⟨a, l, c, rfl⟩ := okWide_slice ht hval
      exact one (by simp [aggOf, ht]) rfl
    · rename_i m e ht
      obtain ⟨cs, rfl⟩ : ∃ cs, v = .agg cs := by
        simp only [Value.okWide, ht] at hval
        obtain ⟨cs, h1, _⟩ := hval
        exact ⟨cs, h1⟩
      exact ⟨.ag xs, ⟨ss, hss, by simp only [aggOf, ht, if_true]; exact ⟨xs, rfl, f⟩⟩, by simp only [RV.rel]; exact ⟨cs, rfl, o, r⟩⟩
    · rename_i fs ht
      obtain ⟨cs, rfl, _⟩ := okWide_struct ht hval
      exact ⟨.ag xs, ⟨ss, hss, by simp only [aggOf, ht, if_true]; exact ⟨xs, rfl, f⟩⟩, by simp only [RV.rel]; exact ⟨cs, rfl, o, r⟩⟩
    · cases hss'

theorem wf_i64 {n : Int} (h : (Lit.int .i64 n).wf = true) : -9223372036854775808 ≤ n ∧ n ≤ 9223372036854775807 := by
  simp only [Lit.wf, Bool.and_eq_true, decide_eq_true_eq] at h
  have h1 : IntKind.min .i64 = -9223372036854775808 := by decide
  have h2 : IntKind.max .i64 = 9223372036854775807 := by decide
  rw [h1, h2] at h
  exact h
theorem fitsE_ints : ∀ {es : List (List RV)}, FitsE [.int .i64] es → ∃ l : List Int, es = l.map (fun x => [.it .i64 x]) ∧ ∀ x ∈ l, -9223372036854775808 ≤ x ∧ x ≤ 9223372036854775807
  | [], _ => ⟨[], rfl, by simp⟩
  | e :: es, h => by
    simp only [FitsE, FitsL, Fits] at h
    obtain ⟨⟨y, ys, rfl, ⟨n, rfl, hn⟩, rfl⟩, h⟩ := h
    obtain ⟨l, rfl, hl⟩ := fitsE_ints h
    refine ⟨n :: l, rfl, fun x hx => ?_⟩
    rcases List.mem_cons.1 hx with rfl | hx
    · exact wf_i64 hn
    · exact hl x hx
theorem fitsT_ag {n : Nat} {t : TypeId} {x : RV} {ss : List Sh} (h : FitsT P n t x) (hs : shape P n t = some ss) (ha : aggOf P t = true) : ∃ xs, x = .ag xs ∧ FitsL ss xs := by
  obtain ⟨s', h1, h2⟩ := h
  rw [hs] at h1; injection h1 with h1; subst h1
  rw [ha] at h2
  exact h2
theorem fitsT_one {n : Nat} {t : TypeId} {x : RV} {s : Sh} (h : FitsT P n t x) (hs : shape P n t = some [s]) (ha : aggOf P t = false) : Fits s x := by
  obtain ⟨s', h1, h2⟩ := h
  rw [hs] at h1; injection h1 with h1; subst h1
  rw [ha] at h2
  simp only [Bool.false_eq_true, if_false, FitsL] at h2
  obtain ⟨y, ys, e, h3, _⟩ := h2
  injection e with e1 e2
  subst e1
  exact h3
theorem fitsT_int {n : Nat} {t : TypeId} {x : RV} (h : FitsT P n t x) (hs : shape P n t = some [.int .i64]) (ha : aggOf P t = false) : ∃ m, x = .it .i64 m ∧ -9223372036854775808 ≤ m ∧ m ≤ 9223372036854775807 := by
  have := fitsT_one h hs ha
  simp only [Fits] at this
  obtain ⟨m, h1, h2⟩ := this
  exact ⟨m, h1, wf_i64 h2⟩
theorem fitsT_ints {n : Nat} {t : TypeId} {x : RV} (h : FitsT P n t x) (hs : shape P n t = some [.sl [.int .i64]]) (ha : aggOf P t = false) : ∃ l : List Int, x = .sl 1 (l.map (fun x => [.it .i64 x])) ∧ ∀ x ∈ l, -9223372036854775808 ≤ x ∧ x ≤ 9223372036854775807 := by
  have := fitsT_one h hs ha
  simp only [Fits] at this
  obtain ⟨es, h1, h2⟩ := this
  obtain ⟨l, rfl, hl⟩ := fitsE_ints h2
  exact ⟨l, h1, hl⟩
end
end Go.Oc

/- Arguments of the types of chapter 7. -/
namespace Go.Proofs.Ytgkejinoaommeaa
open Go Go.Oc
theorem fitsE_bed : ∀ {es : List (List RV)}, FitsE [.int .i64, .int .i64, .int .i64] es → ∃ l : List Bd, es = l.map bedR ∧ Wf l
  | [], _ => ⟨[], rfl, by simp [Wf]⟩
  | e :: es, h => by
    simp only [Oc.FitsE, Oc.FitsL, Oc.Fits] at h
    obtain ⟨⟨_, _, rfl, ⟨a, rfl, ha⟩, _, _, rfl, ⟨b, rfl, hb⟩, _, _, rfl, ⟨c, rfl, hc⟩, rfl⟩, h⟩ := h
    obtain ⟨l, rfl, hl⟩ := fitsE_bed h
    refine ⟨⟨a, b, c⟩ :: l, rfl, fun x hx => ?_⟩
    rcases List.mem_cons.1 hx with rfl | hx
    · exact ⟨wf_i64 ha, wf_i64 hb, wf_i64 hc⟩
    · exact hl x hx
theorem fitsE_aim : ∀ {es : List (List RV)}, FitsE [.int .i64, .sl [.int .i64, .int .i64, .int .i64]] es → ∃ l : List Am, es = l.map aimR ∧ ∀ a ∈ l, WfA a
  | [], _ => ⟨[], rfl, by simp⟩
  | e :: es, h => by
    simp only [Oc.FitsE, Oc.FitsL, Oc.Fits] at h
    obtain ⟨⟨_, _, rfl, ⟨a, rfl, ha⟩, _, _, rfl, ⟨q, rfl, hq⟩, rfl⟩, h⟩ := h
    obtain ⟨l, rfl, hl⟩ := fitsE_aim h
    obtain ⟨b, rfl, hb⟩ := fitsE_bed hq
    refine ⟨⟨a, b⟩ :: l, rfl, fun x hx => ?_⟩
    rcases List.mem_cons.1 hx with rfl | hx
    · exact ⟨wf_i64 ha, hb⟩
    · exact hl x hx
theorem fitsE_visit : ∀ {es : List (List RV)}, FitsE [.sl [.int .i64], .int .i64] es → ∃ l : List (List Int × Int), es = l.map fun v => [ints v.1, i64 v.2]
  | [], _ => ⟨[], rfl⟩
  | e :: es, h => by
    simp only [Oc.FitsE, Oc.FitsL, Oc.Fits] at h
    obtain ⟨⟨_, _, rfl, ⟨q, rfl, hq⟩, _, _, rfl, ⟨b, rfl, _⟩, rfl⟩, h⟩ := h
    obtain ⟨l, rfl⟩ := fitsE_visit h
    obtain ⟨ds, rfl⟩ : ∃ ds : List Int, q = ds.map fun x => [i64 x] := by
      clear h
      induction q with
      | nil => exact ⟨[], rfl⟩
      | cons y q ih =>
        simp only [Oc.FitsE, Oc.FitsL, Oc.Fits] at hq
        obtain ⟨⟨_, _, rfl, ⟨c, rfl, _⟩, rfl⟩, hq⟩ := hq
        obtain ⟨ds, rfl⟩ := ih hq
        exact ⟨c :: ds, rfl⟩
    exact ⟨(ds, b) :: l, rfl⟩
theorem fits24 {x : RV} (h : FitsT Try.prog 9 24 x) : ∃ d l, x = lawV d l ∧ WfL d l := by
  obtain ⟨xs, rfl, hx⟩ := fitsT_ag (ss := [.int .i64, .sl [.int .i64, .sl [.int .i64, .int .i64, .int .i64]]]) h (by kernel_rfl) (by kernel_rfl)
  simp only [Oc.FitsL, Oc.Fits] at hx
  obtain ⟨_, _, rfl, ⟨d, rfl, hd⟩, _, _, rfl, ⟨es, rfl, hes⟩, rfl⟩ := hx
  obtain ⟨l, rfl, hl⟩ := fitsE_aim hes
  exact ⟨d, l, rfl, wf_i64 hd, hl⟩
theorem fits36 {x : RV} (h : FitsT Try.prog 9 36 x) : ∃ a, x = aimV a ∧ WfA a := by
  obtain ⟨xs, rfl, hx⟩ := fitsT_ag (ss := [.int .i64, .sl [.int .i64, .int .i64, .int .i64]]) h (by kernel_rfl) (by kernel_rfl)
  simp only [Oc.FitsL, Oc.Fits] at hx
  obtain ⟨_, _, rfl, ⟨a, rfl, ha⟩, _, _, rfl, ⟨es, rfl, hes⟩, rfl⟩ := hx
  obtain ⟨l, rfl, hl⟩ := fitsE_bed hes
  exact ⟨⟨a, l⟩, rfl, wf_i64 ha, hl⟩
end Go.Proofs.Ytgkejinoaommeaa

/- The bounds of the small kinds of integers. -/
namespace Go.Oc
open Go Go.RowKit
theorem wf_u8 {n : Int} (h : (Lit.int .u8 n).wf = true) : 0 ≤ n ∧ n ≤ 255 := by
  simp only [Lit.wf, Bool.and_eq_true, decide_eq_true_eq] at h
  have h1 : IntKind.min .u8 = 0 := by decide
  have h2 : IntKind.max .u8 = 255 := by decide
  rw [h1, h2] at h
  exact h
theorem wf_u16 {n : Int} (h : (Lit.int .u16 n).wf = true) : 0 ≤ n ∧ n ≤ 65535 := by
  simp only [Lit.wf, Bool.and_eq_true, decide_eq_true_eq] at h
  have h1 : IntKind.min .u16 = 0 := by decide
  have h2 : IntKind.max .u16 = 65535 := by decide
  rw [h1, h2] at h
  exact h
theorem wf_u32 {n : Int} (h : (Lit.int .u32 n).wf = true) : 0 ≤ n ∧ n ≤ 4294967295 := by
  simp only [Lit.wf, Bool.and_eq_true, decide_eq_true_eq] at h
  have h1 : IntKind.min .u32 = 0 := by decide
  have h2 : IntKind.max .u32 = 4294967295 := by decide
  rw [h1, h2] at h
  exact h
theorem fitsE_u8 : ∀ {es : List (List RV)}, FitsE [.int .u8] es → ∃ l : List Int, es = l.map (fun x => [.it .u8 x]) ∧ ∀ x ∈ l, 0 ≤ x ∧ x ≤ 255
  | [], _ => ⟨[], rfl, by simp⟩
  | e :: es, h => by
    simp only [FitsE, FitsL, Fits] at h
    obtain ⟨⟨y, ys, rfl, ⟨n, rfl, hn⟩, rfl⟩, h⟩ := h
    obtain ⟨l, rfl, hl⟩ := fitsE_u8 h
    refine ⟨n :: l, rfl, fun x hx => ?_⟩
    rcases List.mem_cons.1 hx with rfl | hx
    · exact wf_u8 hn
    · exact hl x hx
theorem fitsE_u16 : ∀ {es : List (List RV)}, FitsE [.int .u16] es → ∃ l : List Int, es = l.map (fun x => [.it .u16 x]) ∧ ∀ x ∈ l, 0 ≤ x ∧ x ≤ 65535
  | [], _ => ⟨[], rfl, by simp⟩
  | e :: es, h => by
    simp only [FitsE, FitsL, Fits] at h
    obtain ⟨⟨y, ys, rfl, ⟨n, rfl, hn⟩, rfl⟩, h⟩ := h
    obtain ⟨l, rfl, hl⟩ := fitsE_u16 h
    refine ⟨n :: l, rfl, fun x hx => ?_⟩
    rcases List.mem_cons.1 hx with rfl | hx
    · exact wf_u16 hn
    · exact hl x hx
end Go.Oc

/- The law of Fit returns true for all arguments of its types. -/
namespace Go.Proofs.Ytgkejinoaommeaa
open Go Go.Oc
theorem fits49 {x : RV} (h : FitsT Try.prog 9 49 x) : ∃ l : List Vi, x = visR l := by
  have h1 := fitsT_one (s := .sl [.sl [.int .i64], .int .i64]) h (by kernel_rfl) (by kernel_rfl)
  simp only [Oc.Fits] at h1
  obtain ⟨es, rfl, hx⟩ := h1
  obtain ⟨l, rfl⟩ := fitsE_visit hx
  exact ⟨l.map fun v => ⟨v.1, v.2⟩, by simp [visR, viC, List.map_map, Function.comp_def]⟩
theorem law5' {x0 x1 : RV} (h0 : FitsT Try.prog 9 36 x0) (h1 : FitsT Try.prog 9 49 x1) : ACalls Try.prog 5 [x0, x1] (.bo true) := by
  obtain ⟨a, rfl, hw⟩ := fits36 h0
  obtain ⟨l, rfl⟩ := fits49 h1
  exact fits_law a l hw
end Go.Proofs.Ytgkejinoaommeaa


namespace Go.Proofs.Ytgkejinoaommeaa
open Go Go.Oc Go.ChangeShapes Go.WideShapes Go.RowKit
set_option linter.unusedVariables false
theorem own : ownKnob Try.prog.godebug = none := by kernel_rfl
theorem laidOut : laidOutB Try.prog = true := by kernel_rfl
set_option maxRecDepth 100000 in
theorem lifted (os : Os) (started : os.Started) (H : Type) (enc : TypeId × Value → H) :
    ReturnsInHanded {} Try.checked os 5 .any (Rows.throwFitsSpec.pre6 enc Try.prog Try.f5 Rows.throwFitsRow.domain false) (Rows.throwFitsSpec.post enc Try.prog Try.f5 false true false false) := by
  refine returnsInHanded_of_change (C := Try.checked) own started (by kernel_rfl) Try.func5
    (ChangeSpec.witness6 (enc := enc) (C := Try.checked) false ⟨#[], #[.agg #[.int .i64 0, .slice none 0 0], .slice none 0 0], []⟩ 8 (by kernel_rfl) (by kernel_rfl) (by kernel_rfl) (by kernel_rfl)) ?_
  intro W base args ds gs before hval0 hW hcnd _
  have hval : ∀ (j : Nat) t v, Try.f5.params[j]? = some t → args[j]? = some v → Value.okWide Try.prog W .any base t v := hval0
  have hW' := hW
  obtain ⟨p, q, hA0, hV, rfl, hfz, hnd⟩ := hW
  have hA : DataW.TrodAll enc Try.prog W 0 (fun _ => true) true Try.f5.params.toList args.toList ds p := hA0
  rw [Try.params5] at hA hval
  obtain ⟨v0, vs0, d0, ds0, p0, q0, hargs, rfl, rfl, h0, r0⟩ := trodAll_cons hA
  obtain ⟨v1, vs1, d1, ds1, p1, q1, rfl, rfl, rfl, h1, r1⟩ := trodAll_cons r0
  obtain ⟨rfl, rfl, rfl⟩ := trodAll_nil r1
  obtain rfl : args = #[v0, v1] := by cases args; simp_all
  obtain ⟨rfl, rfl⟩ := trodVars_none hV
  have lt0 : ∀ x ∈ p0, x.block < W.heap.size := by obtain ⟨m, hm⟩ := h0; exact DataW.trod_lt m _ _ _ hm
  have lt1 : ∀ x ∈ p1, x.block < W.heap.size := by obtain ⟨m, hm⟩ := h1; exact DataW.trod_lt m _ _ _ hm
  obtain ⟨x0, g0, e0⟩ := arg_fits (n := 9) (by kernel_rfl) (hval 0 36 v0 rfl rfl) h0
  obtain ⟨x1, g1, e1⟩ := arg_fits (n := 9) (by kernel_rfl) (hval 1 49 v1 rfl rfl) h1
  clear hA0 hval0
  refine ((law5' g0 g1).2 W (old W) #[v0, v1] (fun _ h => h) (by simp only [RV.relV]; exact ⟨_, _, rfl, e0, _, _, rfl, e1, rfl⟩)).mono fun e W' he => ?_
  obtain ⟨v, R', rfl, bel, _, _, _, hr⟩ := he
  simp only [RV.rel] at hr
  subst hr
  exact ⟨_, rfl, _, _, _, [], _, [], hW', trodAll_mk1 (shut_bool Try.underlying4 _), (trodAll_cons_mk (Below.trod laidOut (by kernel_rfl) (of_decide_eq_true (by kernel_rfl)) h0 bel lt0) (trodAll_cons_mk (Below.trod laidOut (by kernel_rfl) (of_decide_eq_true (by kernel_rfl)) h1 bel lt1) trodAll_mk0)), rfl, bel.frame _, fun h => by cases h⟩
theorem over : Rows.throwFitsRow.holds Try.pinned (OpenSpec.ofChange Rows.throwFitsSpec) :=
  OpenClaim.holds_of_wide 5 Try.f5 rfl rfl rfl rfl rfl rfl rfl ⟨rfl, rfl, rfl, rfl, rfl⟩ rfl rfl rfl rfl rfl (by kernel_rfl) Try.func5 (by kernel_rfl)
    (of_decide_eq_true (by kernel_rfl)) (by unfold Func.isWrapper; first | (rw [if_pos (by decide +kernel)]; kernel_rfl) | (rw [if_neg (by decide +kernel)]; exact ⟨rfl, rfl⟩))
    (fun os started H enc _ => lifted os started H enc)
theorem throwFits_holds : Rows.ThrowFitsSaid := over
#print axioms throwFits_holds
end Go.Proofs.Ytgkejinoaommeaa

/- For all arguments, the given function ThrowSets returns true: whatever three darts each visit truly had, the numbers of darts in each bed lie in the spans of Fit, and they are these numbers if all darts are known; more knowledge and another order make no span wider. No conditions beyond those of the given statement. -/
import Derived.Test.YtgkejinoaommeaaV68
import Derived.Test.YtgkejinoaommeaaV66
import Derived.Test.YtgkejinoaommeaaV65
import Derived.ChangeShapes
import Derived.WideShapes
import Derived.OpenShut
import Derived.ShutString
import Derived.ChangeOld
import Derived.Carry
import Derived.Below
import Derived.Test.YtgkejinoaommeaaRows
import Derived.JoinedOf
namespace Go.Proofs.Ytgkejinoaommeaa
open Go Go.Oc
set_option linter.unusedSimpArgs false
set_option linter.unusedVariables false
set_option maxRecDepth 8000
theorem aim_ok (a : Am) (hl : a.beds.length ≤ 1000) : ACalls Try.prog 26 [aimV a] (aimV a) := by
 refine acalls_st (rs := [aimV a]) [.cell 2 36] Try.func26 rfl (by kernel_rfl) Try.ntmps26 rfl (by simp) rfl fun C vs => ?_
 repeat refine awp_seq ?_
 refine awp_reg (by kernel_rfl) fun K hK => ?_
 simp only [go_sem]
 (try simp (disch := omega) only [wrapI])
 repeat first | intro _ | refine ⟨(by omega), ?_⟩ | refine ⟨⟨by omega, by omega⟩, ?_⟩
 refine hK _ ?_
 clear hK K
 refine awp_sub (sub_frzP 1 1 [i64 a.at_, bedsR a.beds] (by omega) rfl rfl) ?_
 refine awp_sub (sub_keep [1, 2]) ?_
 simp only [go_sem]
 repeat refine awp_seq ?_
 refine awp_dreg2 [(1, none), (2, some 2)] follows (by decide +kernel) (by kernel_rfl) (by simp only [keysOk, List.mem_cons, List.not_mem_nil, forall_eq_or_imp, Oc.keyOf, go_sem]; simp) fun K hK => ?_
 simp only [go_sem]
 (try simp (disch := omega) only [wrapI])
 repeat first | intro _ | refine ⟨(by omega), ?_⟩ | refine ⟨⟨by omega, by omega⟩, ?_⟩
 refine hK _ ?_
 clear hK K
 refine awp_sub (sub_keep [2]) ?_
 simp only [go_sem]
 refine awp_ret ?_
 simp only [go_sem]
theorem own_ok (d : Int) (l : List Am) (hl : l.length ≤ 1000) (hb : ∀ a ∈ l, a.beds.length ≤ 1000) : ACalls Try.prog 15 [lawV d l] (lawV d l) := by
 refine acalls_st (rs := [lawV d l]) [.cell 2 24] Try.func15 rfl (by kernel_rfl) Try.ntmps15 rfl (by simp) rfl fun C vs => ?_
 repeat refine awp_seq ?_
 refine awp_reg (by kernel_rfl) fun K hK => ?_
 simp only [go_sem]
 (try simp (disch := omega) only [wrapI])
 repeat first | intro _ | refine ⟨(by omega), ?_⟩ | refine ⟨⟨by omega, by omega⟩, ?_⟩
 refine hK _ ?_
 clear hK K
 refine awp_sub (sub_frzP 1 1 [i64 d, aimsR l] (by omega) rfl rfl) ?_
 refine awp_sub (sub_keep [1, 2]) ?_
 simp only [go_sem]
 repeat refine awp_seq ?_
 refine awp_reg (by kernel_rfl) fun K hK => ?_
 simp only [go_sem]
 (try simp (disch := omega) only [wrapI])
 repeat first | intro _ | refine ⟨(by omega), ?_⟩ | refine ⟨⟨by omega, by omega⟩, ?_⟩
 refine hK _ ?_
 clear hK K
 refine awp_sub (sub_keep [1, 2, 3]) ?_
 simp only [go_sem]
 repeat refine awp_seq ?_
 refine awp_reg (by kernel_rfl) fun K hK => ?_
 simp only [go_sem]
 (try simp (disch := omega) only [wrapI])
 repeat first | intro _ | refine ⟨(by omega), ?_⟩ | refine ⟨⟨by omega, by omega⟩, ?_⟩
 refine hK _ ?_
 clear hK K
 refine awp_sub (sub_keep [1, 2, 3, 4]) ?_
 simp only [go_sem]
 repeat refine awp_seq ?_
 refine awp_block ?_
 refine awp_sub (sub_ownB 3 1 30 36 2 (by omega) (by omega) rfl rfl) ?_
 try simp only [go_sem]
 refine awp_uptoV (n := 27) l.length (fun i vs => [(1, .r (.rp [i64 d, aimsR l])), (2, .pt 2 (vs 2) 0), (3, .pt 3 (vs 3) 0), (4, .r (i64 i))])
  (fun i vs => [(2, .box [.r (i64 0), .r .ns]), (3, .box [.r (i64 d), .os 30 (vs 30) 2 0 i]), (30, .arr 36 2 ((l.take i).map aimR))]) (fun _ => True) 0 (fitV_of [] ?_ ?_) (Nat.zero_le _) trivial ?_
 · try simp only [go_sem]
 · try simp only [go_sem]
 · intro i vs hi _
   repeat refine awp_seq ?_
   refine awp_reg (by kernel_rfl) fun K hK => ?_
   simp only [go_sem]
   (try simp (disch := omega) only [wrapI])
   repeat first | intro _ | refine ⟨(by omega), ?_⟩ | refine ⟨⟨by omega, by omega⟩, ?_⟩
   refine hK _ ?_
   clear hK K
   refine awp_sub (sub_keep [1, 2, 3, 4, 12]) ?_
   simp only [go_sem]
   repeat refine awp_seq ?_
   refine awp_cond rfl (fun hc => ?_) (fun hc => ?_) <;> (try simp only [go_sem] at hc)
   · skip
     have hci := hc
     obtain ⟨x, hx⟩ := opt_of_lt hc
     have hlt : (l.take i).length = i := by rw [List.length_take]; omega
     refine awp_skip ?_
     try simp only [go_sem]
     repeat refine awp_seq ?_
     refine awp_block ?_
     repeat refine awp_seq ?_
     refine awp_dreg3 [(1, none), (2, some 2), (3, some 3), (4, none)] [3] follows (by decide +kernel) (by kernel_rfl) (by simp only [keysOk, List.mem_cons, List.not_mem_nil, forall_eq_or_imp, Oc.keyOf, go_sem]; simp) (by intro k hk; simp only [List.mem_cons, List.not_mem_nil, or_false] at hk; first | (subst hk; exact ⟨_, rfl⟩) | (rcases hk with rfl | rfl <;> exact ⟨_, rfl⟩) | (rcases hk with rfl | rfl | rfl <;> exact ⟨_, rfl⟩)) fun K hK => ?_
     simp only [go_sem, hx, hci, aimR, hlt]
     (try simp (disch := omega) only [wrapI])
     refine xcall_eq (aim_ok x (hb x (mem_of_opt hx))) rfl (by simp only [go_sem, i64, ints, hlt, aimR]) (by simp only [go_sem, i64, ints, hlt, aimR]) (by first | exact .inl rfl | exact .inr rfl) ?_
     (try simp only [go_sem, hlt, aimR])
     (try simp (disch := omega) only [wrapI])
     repeat first | intro _ | refine ⟨(by omega), ?_⟩ | refine ⟨⟨by omega, by omega⟩, ?_⟩
     refine hK _ ?_
     clear hK K
     refine awp_sub (sub_keep [1, 2, 3, 4]) ?_
     simp only [go_sem]
     repeat refine awp_seq ?_
     refine awp_reg (by kernel_rfl) fun K hK => ?_
     simp only [go_sem]
     (try simp (disch := omega) only [wrapI])
     repeat first | intro _ | refine ⟨(by omega), ?_⟩ | refine ⟨⟨by omega, by omega⟩, ?_⟩
     refine hK _ ?_
     clear hK K
     try simp only [go_sem]
     refine ⟨hci, fitV_of [] ?_ ?_⟩
     · try simp only [go_sem]
     · try simp only [go_sem]
       rw [take_of_opt hx]
       simp [aimR]
   · skip
     refine awp_exit ?_
     simp only [go_sem]
     repeat refine awp_seq ?_
     refine awp_reg (by kernel_rfl) fun K hK => ?_
     simp only [go_sem]
     (try simp (disch := omega) only [wrapI])
     repeat first | intro _ | refine ⟨(by omega), ?_⟩ | refine ⟨⟨by omega, by omega⟩, ?_⟩
     refine hK _ ?_
     clear hK K
     refine awp_sub (sub_keep [2]) ?_
     simp only [go_sem]
     refine awp_ret ?_
     simp only [go_sem]
     have : i = l.length := by omega
     subst this
     simp [List.take_of_length_le]
end Go.Proofs.Ytgkejinoaommeaa

namespace Go.Oc
open Go Go.RowKit
def cpR (s : AS) (d : Nat) (b : AV) (r : Res) (K : AS → Prop) : Prop :=
 match b, r with
 | .r .ns, ⟨pre, _, ⟨.os d' v sz 0 m, [(d'', ⟨v', .arr _ sz' es⟩)]⟩⟩ => pre ∧ d < 1000 ∧ d' = d ∧ d'' = d ∧ v = (s.rows d).ver + 1 ∧ v' = v ∧ sz' = sz ∧ m = es.length ∧ K (AS.put (s.row d ⟨(s.rows d).ver + 2, .dead⟩) (some d) (.r (.sl sz es)))
 | _, _ => False
def cpX (P : Program) (s : AS) (d : Nat) (t : TypeId) (b : AV) (n : Option (Prop × Nat × List (List RV))) (K : AS → Prop) : Prop :=
 match tyq P t, b, n with
 | some ⟨.slice _ esz eb _, _, _, _⟩, .r (.sx sz0 es), some (c, sz, ns) => sz0 = esz ∧ d < 1000 ∧ c ∧ (sz = esz ∨ ns = []) ∧ 0 < esz ∧ (es.length + ns.length) * eb ≤ 140737488355328 ∧ es.length + ns.length ≤ 9223372036854775807 ∧
   K (AS.put (s.row d ⟨(s.rows d).ver + 2, .dead⟩) (some d) (.r (.sl esz (es ++ ns))))
 | _, _, _ => False
def isSx : AV → Bool
 | .r (.sx _ _) => true
 | _ => false
def cpB (s : AS) (d : Option Nat) (r : Res) (K : AS → Prop) : Prop :=
 match r with
 | ⟨pre, _, ⟨.r (.sl sz es), []⟩⟩ => pre ∧ es ≠ [] ∧ K (AS.put s d (.r (.sx sz es)))
 | _ => False
def copyK (P : Program) (o : Oper) (K : AS → Prop) (s : AS) : Prop :=
 match o.op with
 | .call ⟨.builtin .append, args, ts⟩ => (match args.toList, ts.toList, o.dst with
   | [x, z], [t, t'], some d => t = t' ∧ (if isSx (s.ev x) then cpX P s d t (s.ev x) (news? s (s.ev z)) K else cpR s d (s.ev x) (sAppend P s d t t' (s.ev x) (s.ev z)) K)
   | _, _, _ => False)
 | .buildSlice t n ps => cpB s o.dst (sBuildSlice P s t n (ps.toList.map fun (i, x) => (i, s.ev x))) K
 | _ => False
def isPl (pl : List Nat) (o : Oper) : Bool :=
 match o.op with
 | .call ⟨.builtin .append, _, _⟩ => (match o.dst with | some d => pl.contains d | none => false)
 | .buildSlice _ _ _ => (match o.dst with | some d => pl.contains d | none => false)
 | _ => false
def xopC (P : Program) (pl : List Nat) (o : Oper) (K : AS → Prop) (s : AS) : Prop := if isPl pl o then copyK P o K s else xop P true o K s
def aopsC (P : Program) (pl : List Nat) (ops : Array Oper) : List Oper → (AS → Prop) → AS → Prop
 | [], K, s => K s
 | o :: rest, K, s =>
   match o.guard with
   | none => xopC P pl o (aopsC P pl ops rest K) s
   | some (g, want) =>
     match ((ops[g]?).bind (·.dst) : Option Nat) with
     | none => aopsC P pl ops rest K (s.put o.dst (.r .ud))
     | some t =>
       match s.tm t with
       | .r (.bo b) => (b = want → xopC P pl o (aopsC P pl ops rest K) (s.put (some t) (.r (.bo want)))) ∧ (b = !want → aopsC P pl ops rest K ((s.put (some t) (.r (.bo (!want)))).put o.dst (.r .ud)))
       | .r .ud => aopsC P pl ops rest K (s.put o.dst (.r .ud))
       | _ => False
section
variable {P : Program} {C : Ctx} {s : AS} {ops : Array Oper} {pl : List Nat}
theorem copyK_AY {o : Oper} {K : AS → Prop} (h : copyK P o K s) : ∃ y, AY P o s y ∧ (mk o y → (s.rows (o.dst.getD 0)).c = .dead ∧ o.dst.isSome = true) ∧ K (s.app o.dst y) := by
 unfold copyK at h
 split at h
 · rename_i args ts ho
   split at h
   · rename_i x z t t' d ha ht hd
     have ha : args = #[x, z] := by cases args; simpa using ha
     have ht : ts = #[t, t'] := by cases ts; simpa using ht
     subst ha ht
     obtain ⟨rfl, h⟩ := h
     split at h
     · unfold cpX at h
       split at h
       · rename_i e esz eb ez ssz sagg sz1 sz0 es c sz ns e1 e3 hny
         obtain ⟨rfl, h2, h3, h4, h5, h6, h7, hK⟩ := h
         refine ⟨⟨.r (.sl sz0 (es ++ ns)), [(d, ⟨(s.rows d).ver + 2, .dead⟩)]⟩, ?_, fun hm => ?_, by rw [hd]; exact hK⟩
         · unfold AY
           split
           · rename_i ho'; rw [ho] at ho'; cases ho'
           · exact .inr ⟨x, z, t, d, _, ho, hd, h2, ⟨_, e3⟩, rfl, .inr ⟨e, sz0, eb, ez, ssz, sagg, sz1, es, c, sz, ns, e3, e1, hny, h3, h4, h5, h6, h7, rfl⟩⟩
         · rcases hm with hm | ⟨hm, _⟩
           · simp [cls, ho] at hm
           · simp [vcall, ho] at hm
       · exact h.elim
     · unfold cpR at h
       split at h
       · rename_i pre ass d' v sz m d'' v' e sz' es hb hr
         obtain ⟨h1, h2, rfl, rfl, rfl, rfl, rfl, rfl, hK⟩ := h
         have hs : step P o s = sAppend P s d'' t t (s.ev x) (s.ev z) := by simp [step, ho, sBuiltin, hd]
         refine ⟨⟨.r (.sl sz' es), [(d'', ⟨(s.rows d'').ver + 2, .dead⟩)]⟩, ?_, fun hm => ?_, by rw [hd]; exact hK⟩
         · unfold AY
           split
           · rename_i ho'; rw [ho] at ho'; cases ho'
           · exact .inr ⟨x, z, t, d'', _, ho, hd, h2, ⟨_, hb⟩, rfl, .inl ⟨by rw [hs, hr]; exact h1, hb, e, sz', es, by rw [hs, hr], rfl⟩⟩
         · rcases hm with hm | ⟨hm, _⟩
           · simp [cls, ho] at hm
           · simp [vcall, ho] at hm
       · exact h.elim
   · exact h.elim
 · rename_i t n ps ho
   unfold cpB at h
   split at h
   · rename_i pre ass sz es hr
     obtain ⟨h1, h2, hK⟩ := h
     have hs : step P o s = sBuildSlice P s t n (ps.toList.map fun (i, x) => (i, s.ev x)) := by simp only [step, ho]
     refine ⟨⟨.r (.sx sz es), []⟩, ?_, fun hm => ?_, hK⟩
     · unfold AY
       split
       · rename_i ho'; rw [ho] at ho'; cases ho'
       · exact .inl ⟨by rw [hs, hr]; exact h1, .inr ⟨by simp [isBS, ho], sz, es, h2, by rw [hs, hr], rfl⟩⟩
     · rcases hm with hm | ⟨hm, _⟩
       · simp [cls, ho] at hm
       · simp [vcall, ho] at hm
   · exact h.elim
 · exact h.elim
theorem aopsC_lex {Q : AS → Prop} : ∀ (l : List Oper) (s : AS), dstOk l.toArray s.n = true → NE s → aopsC P pl ops l Q s → lexA P ops Q l s
 | [], _, _, _, h => h
 | o :: l, s, hd, hne, h => by
   have hd0 : ∀ t, o.dst = some t → t < s.n := dstOk_get (i := 0) hd (by simp)
   have hdl : dstOk l.toArray s.n = true := by
    unfold dstOk at hd ⊢
    simp only [List.all_toArray, List.all_cons, Bool.and_eq_true] at hd ⊢
    exact hd.2
   have run : ∀ {s1 : AS}, s1 = s → xopC P pl o (aopsC P pl ops l Q) s1 → wantA ops s o = some true → lexA P ops Q (o :: l) s := fun e hop hw => by
    subst e
    unfold xopC at hop
    split at hop
    · obtain ⟨y, hy, hdead, hK⟩ := copyK_AY hop
      have hY : YieldsA P ops o y _ := .inl ⟨hw, hy, hdead⟩
      exact ⟨y, hY, aopsC_lex l _ (by rw [app_n]; exact hdl) (hne.app hY hd0) hK⟩
    · unfold xop at hop
      rw [if_pos rfl] at hop
      obtain ⟨y, hy, hdead, hK⟩ := aop_AY hop
      have hY : YieldsA P ops o y _ := .inl ⟨hw, hy, hdead rfl⟩
      exact ⟨y, hY, aopsC_lex l _ (by rw [app_n]; exact hdl) (hne.app hY hd0) (hK hne)⟩
   have skip : ∀ {s1 : AS}, s1 = s → aopsC P pl ops l Q (s1.put o.dst (.r .ud)) → wantA ops s o = some false → lexA P ops Q (o :: l) s := fun e hop hw => by
    subst e
    have hY : YieldsA P ops o ysk _ := .inr ⟨hw, rfl⟩
    exact ⟨ysk, hY, aopsC_lex l _ (by rw [app_n]; exact hdl) (hne.app hY hd0) hop⟩
   unfold aopsC at h
   split at h
   · rename_i hg
     exact run rfl h (by simp [wantA, hg])
   · rename_i g want hg
     split at h
     · rename_i ht
       exact skip rfl h (by simp [wantA, hg, ht])
     · rename_i t ht
       split at h
       · rename_i b hb
         by_cases hw : b = want
         · subst hw
           exact run (put_self hb) (h.1 rfl) (by simp [wantA, hg, ht, hb])
         · have hw' : b = !want := by cases b <;> cases want <;> simp_all
           subst hw'
           exact skip (put_self hb) (h.2 rfl) (by simp [wantA, hg, ht, hb])
       · rename_i hb
         exact skip rfl h (by simp [wantA, hg, ht, hb])
       · exact h.elim
theorem awp_dregC {Q : Exit → AS → Prop} {id : Nat} {l : List Oper} (pl : List Nat) (κ : List (Nat × Option Nat)) (hm : P.follows .mixedOrders = true) (hB : lexOk2 l.toArray κ = true) (hd : dstOk l.toArray s.n = true) (hk : keysOk κ s)
 (h : ∀ K : AS → Prop, (∀ s, Q .normal s → K s) → aopsC P pl l.toArray l K s) : awp P C (.region id l.toArray true) Q s := fun a w hs => by
 obtain ⟨p, hp⟩ := hs
 exact region_draw2 hm hB hd hk ⟨p, hp⟩ (fun s a w hq hs => ⟨s, hs, hq⟩) (aopsC_lex l s hd ⟨C, p, a, w, hp⟩ (h _ fun _ h => h))
theorem awp_dregC3 {Q : Exit → AS → Prop} {id : Nat} {l : List Oper} (pl : List Nat) (κ : List (Nat × Option Nat)) (bs : List Nat) (hm : P.follows .mixedOrders = true) (hB : lexOk3 l.toArray κ bs = true) (hd : dstOk l.toArray s.n = true) (hk : keysOk κ s) (hbx : ∀ k ∈ bs, boxRow s k)
 (h : ∀ K : AS → Prop, (∀ s, Q .normal s → K s) → aopsC P pl l.toArray l K s) : awp P C (.region id l.toArray true) Q s := fun a w hs => by
 obtain ⟨p, hp⟩ := hs
 exact region_draw3 hm hB hd hk hbx ⟨p, hp⟩ (fun s a w hq hs => ⟨s, hs, hq⟩) (aopsC_lex l s hd ⟨C, p, a, w, hp⟩ (h _ fun _ h => h))
variable {n : Nat} {l : List (Nat × AV)} {vs : Nat → Nat} {cs : List (Nat × RowC)} {K : AS → Prop} {d : Option Nat} {ty : TypeId} {pos : String} {af : Array Edge}
theorem aopsC_nil {ops : Array Oper} : aopsC P pl ops [] K s ↔ K s := Iff.rfl
theorem aopsC_cons {ops : Array Oper} {o : Op} {rest : List Oper} : aopsC P pl ops (⟨d, o, ty, pos, af, none⟩ :: rest) K s ↔ xopC P pl ⟨d, o, ty, pos, af, none⟩ (aopsC P pl ops rest K) s := Iff.rfl
theorem row_dead {k m : Nat} : AS.row (st n l vs cs) k ⟨m, .dead⟩ = st n l (upd vs k m) (delc cs k) := by
 rw [row_st]
 unfold st
 congr 1
 funext j
 rw [lookc_insc, lookc_delc]
theorem evp_eq' {s : AS} (ps : List (Nat × Operand)) : (ps.toArray.toList.map fun (i, x) => (i, s.ev x)) = evp s ps := evp_eq _
attribute [go_sem] Nat.reduceBEq Bool.or_false Bool.false_or Bool.or_true Bool.true_or
attribute [go_sem] aopsC_nil aopsC_cons xopC isPl copyK cpR cpB cpX isSx List.contains_cons List.contains_nil List.toList_toArray
attribute [go_sem high] row_dead
end
end Go.Oc

namespace Go.Proofs.Ytgkejinoaommeaa
open Go Go.Oc
set_option linter.unusedSimpArgs false
set_option linter.unusedVariables false
set_option maxRecDepth 8000
theorem visits_ok (l : List Vi) (hl : l.length ≤ 1010) (hb : ∀ v ∈ l, v.ds.length ≤ 5) : ACalls Try.prog 27 [visR l] (visR l) := by
 refine acalls_st (rs := [visR l]) [.tmp 2] Try.func27 rfl (by kernel_rfl) Try.ntmps27 rfl (by simp) rfl fun C vs => ?_
 repeat refine awp_seq ?_
 refine awp_reg (by kernel_rfl) fun K hK => ?_
 simp only [go_sem]
 (try simp (disch := omega) only [wrapI])
 repeat first | intro _ | refine ⟨(by omega), ?_⟩ | refine ⟨⟨by omega, by omega⟩, ?_⟩
 refine hK _ ?_
 clear hK K
 refine awp_sub (sub_keep [0]) ?_
 simp only [go_sem]
 repeat refine awp_seq ?_
 refine awp_reg (by kernel_rfl) fun K hK => ?_
 simp only [go_sem]
 (try simp (disch := omega) only [wrapI])
 repeat first | intro _ | refine ⟨(by omega), ?_⟩ | refine ⟨⟨by omega, by omega⟩, ?_⟩
 refine hK _ ?_
 clear hK K
 refine awp_sub (sub_own 3 30 52 2 (by omega) rfl) ?_
 refine awp_sub (sub_keep [0, 3]) ?_
 simp only [go_sem]
 repeat refine awp_seq ?_
 refine awp_reg (by kernel_rfl) fun K hK => ?_
 simp only [go_sem]
 (try simp (disch := omega) only [wrapI])
 repeat first | intro _ | refine ⟨(by omega), ?_⟩ | refine ⟨⟨by omega, by omega⟩, ?_⟩
 refine hK _ ?_
 clear hK K
 refine awp_sub (sub_keep [0, 3, 4]) ?_
 simp only [go_sem]
 repeat refine awp_seq ?_
 refine awp_block ?_
 refine awp_uptoV (n := 29) l.length (fun i vs => [(0, .r (visR l)), (3, .os 30 (vs 30) 2 0 i), (4, .r (i64 i))])
  (fun i vs => [(30, .arr 52 2 ((l.take i).map viC))]) (fun _ => True) 0 (fitV_of [] ?_ ?_) (Nat.zero_le _) trivial ?_
 · try simp only [go_sem]
 · try simp only [go_sem]
 · intro i vs hi _
   repeat refine awp_seq ?_
   refine awp_reg (by kernel_rfl) fun K hK => ?_
   simp only [go_sem]
   (try simp (disch := omega) only [wrapI])
   repeat first | intro _ | refine ⟨(by omega), ?_⟩ | refine ⟨⟨by omega, by omega⟩, ?_⟩
   refine hK _ ?_
   clear hK K
   refine awp_sub (sub_keep [0, 3, 4, 9]) ?_
   simp only [go_sem]
   repeat refine awp_seq ?_
   refine awp_cond rfl (fun hc => ?_) (fun hc => ?_) <;> (try simp only [go_sem] at hc)
   · skip
     have hci := hc
     obtain ⟨v, hx⟩ := opt_of_lt hci
     have hv5 := hb v (mem_of_opt hx)
     have hlt : (l.take i).length = i := by rw [List.length_take]; omega
     refine awp_skip ?_
     try simp only [go_sem]
     repeat refine awp_seq ?_
     refine awp_block ?_
     repeat refine awp_seq ?_
     refine awp_dregC [19] [(0, none), (3, some 30), (4, none)] follows (by decide +kernel) (by kernel_rfl) (by simp only [keysOk, List.mem_cons, List.not_mem_nil, forall_eq_or_imp, Oc.keyOf, go_sem]; simp) fun K hK => ?_
     simp only [go_sem, hx, hci, hlt]
     (try simp (disch := omega) only [wrapI])
     repeat first | intro _ | refine ⟨(by omega), ?_⟩ | refine ⟨⟨by omega, by omega⟩, ?_⟩
     refine hK _ ?_
     clear hK K
     refine awp_sub (sub_keep [0, 3, 4]) ?_
     simp only [go_sem]
     repeat refine awp_seq ?_
     refine awp_reg (by kernel_rfl) fun K hK => ?_
     simp only [go_sem]
     (try simp (disch := omega) only [wrapI])
     repeat first | intro _ | refine ⟨(by omega), ?_⟩ | refine ⟨⟨by omega, by omega⟩, ?_⟩
     refine hK _ ?_
     clear hK K
     try simp only [go_sem]
     refine ⟨hci, fitV_of [] ?_ ?_⟩
     · try simp only [go_sem]
     · try simp only [go_sem]
       rw [take_of_opt hx]
       simp
   · skip
     refine awp_exit ?_
     simp only [go_sem]
     have : i = l.length := by omega
     subst this
     refine awp_sub (sub_frz (ty := 52) (sz := 2) (off := 0) (m := l.length) (es := l.map viC) 3 30 (by omega) (by try simp only [go_sem]) (by try simp only [go_sem]; rw [List.take_length]) (by simp)) ?_
     repeat refine awp_seq ?_
     refine awp_reg (by kernel_rfl) fun K hK => ?_
     simp only [go_sem]
     (try simp (disch := omega) only [wrapI])
     repeat first | intro _ | refine ⟨(by omega), ?_⟩ | refine ⟨⟨by omega, by omega⟩, ?_⟩
     refine hK _ ?_
     clear hK K
     refine awp_sub (sub_keep [2]) ?_
     simp only [go_sem]
     refine awp_ret ?_
     simp only [go_sem]
theorem zeroT_getD {k : Nat} (hk : k < 10) : zeroT.getD k 0 = 0 := by
 rcases k with _ | _ | _ | _ | _ | _ | _ | _ | _ | _ | k <;> first | rfl | omega
theorem getD_addT {a b : List Int} {k : Nat} (h1 : k < a.length) (h2 : k < b.length) : (addT a b).getD k 0 = a.getD k 0 + b.getD k 0 := getD_zipWith h1 h2
theorem SmallT.getD {b : Int} {t : List Int} (h : SmallT b t) {k : Nat} (hk : k < 10) : 0 ≤ t.getD k 0 ∧ t.getD k 0 ≤ b := by
 obtain ⟨x, hx⟩ := opt_of_lt (l := t) (i := k) (by rw [h.1]; exact hk)
 have := h.2 x (mem_of_opt hx)
 rw [List.getD_eq_getElem?_getD, hx]
 exact this
abbrev outB (bs le mo : List Int) (k : Nat) : List RV := bedR (bedAt bs le mo k)
theorem refFit_ok (a : Am) (l : List Vi) (hw : WfA a) (hl1 : l.length ≤ 1010) : ACalls Try.prog 29 [aimV a, visR l] (.tu [aimV (fitV a l).1, i64 (fitV a l).2.1, i64 (fitV a l).2.2.1, i64 (fitV a l).2.2.2]) := by
 refine acalls_st (rs := [aimV (fitV a l).1, i64 (fitV a l).2.1, i64 (fitV a l).2.2.1, i64 (fitV a l).2.2.2]) [.cell 4 36, .tmp 5, .tmp 6, .tmp 7] Try.func29 rfl (by kernel_rfl) Try.ntmps29 rfl (by simp) rfl fun C vs => ?_
 repeat refine awp_seq ?_
 refine awp_reg (by kernel_rfl) fun K hK => ?_
 simp only [go_sem]
 (try simp (disch := omega) only [wrapI])
 repeat first | intro _ | refine ⟨(by omega), ?_⟩ | refine ⟨⟨by omega, by omega⟩, ?_⟩
 refine hK _ ?_
 clear hK K
 refine awp_sub (sub_frzP 2 2 [i64 a.at_, bedsR a.beds] (by omega) rfl rfl) ?_
 refine awp_sub (sub_keep [1, 2, 4]) ?_
 simp only [go_sem]
 repeat refine awp_seq ?_
 refine awp_reg (by kernel_rfl) fun K hK => ?_
 simp only [go_sem]
 (try simp (disch := omega) only [wrapI])
 repeat first | intro _ | refine ⟨(by omega), ?_⟩ | refine ⟨⟨by omega, by omega⟩, ?_⟩
 refine hK _ ?_
 clear hK K
 refine awp_sub (sub_frzP 8 8 [i64 0, .ns] (by omega) rfl rfl) ?_
 refine awp_sub (sub_keep [1, 2, 4, 8]) ?_
 simp only [go_sem]
 by_cases h1 : 10 < a.beds.length
 · have c1 : decide ((10 : Int) < (a.beds.length : Int)) = true := by simp; omega
   have hv : fitV a l = (⟨0, []⟩, 0, 0, 5) := by rw [fitV, if_pos h1]
   rw [hv]
   repeat refine awp_seq ?_
   refine awp_reg (by kernel_rfl) fun K hK => ?_
   simp only [go_sem, c1]
   (try simp (disch := omega) only [wrapI])
   intros
   repeat first | intro _ | refine ⟨(by omega), ?_⟩ | refine ⟨⟨by omega, by omega⟩, ?_⟩
   refine hK _ ?_
   clear hK K
   refine awp_sub (sub_keep [1, 2, 4, 8, 20]) ?_
   simp only [go_sem]
   repeat refine awp_seq ?_
   refine awp_cond rfl (fun hc => ?_) (fun hc => ?_) <;> (try simp only [go_sem] at hc)
   repeat refine awp_seq ?_
   refine awp_reg (by kernel_rfl) fun K hK => ?_
   simp only [go_sem]
   (try simp (disch := omega) only [wrapI])
   repeat first | intro _ | refine ⟨(by omega), ?_⟩ | refine ⟨⟨by omega, by omega⟩, ?_⟩
   refine hK _ ?_
   clear hK K
   refine awp_sub (sub_keep [4, 5, 6, 7]) ?_
   simp only [go_sem]
   refine awp_ret ?_
   simp only [go_sem]
 have c1 : decide ((10 : Int) < (a.beds.length : Int)) = false := by simp; omega
 repeat refine awp_seq ?_
 refine awp_reg (by kernel_rfl) fun K hK => ?_
 simp only [go_sem, c1]
 (try simp (disch := omega) only [wrapI])
 intros
 repeat first | intro _ | refine ⟨(by omega), ?_⟩ | refine ⟨⟨by omega, by omega⟩, ?_⟩
 refine hK _ ?_
 clear hK K
 refine awp_sub (sub_keep [1, 2, 4, 8, 20]) ?_
 simp only [go_sem]
 repeat refine awp_seq ?_
 refine awp_cond rfl (fun hc => ?_) (fun hc => ?_) <;> (try simp only [go_sem] at hc)
 refine awp_skip ?_
 try simp only [go_sem]
 repeat refine awp_seq ?_
 refine awp_reg (by kernel_rfl) fun K hK => ?_
 simp only [go_sem]
 (try simp (disch := omega) only [wrapI])
 refine xcall_eq (good_ok a hw) rfl (by simp only [go_sem, i64, ints]) (by simp only [go_sem, i64, ints]) (by first | exact .inl rfl | exact .inr rfl) ?_
 (try simp only [go_sem])
 (try simp (disch := omega) only [wrapI])
 repeat first | intro _ | refine ⟨(by omega), ?_⟩ | refine ⟨⟨by omega, by omega⟩, ?_⟩
 refine hK _ ?_
 clear hK K
 refine awp_sub (sub_keep [1, 2, 4, 8, 24]) ?_
 simp only [go_sem]
 have hgd : goodV a = (bedOk a.at_ && !a.beds.isEmpty && seqOk none a.beds) := by
  have : decide (a.beds.length ≤ 10) = true := by simp; omega
  simp [goodV, this]
 rw [hgd]
 cases h2 : (bedOk a.at_ && !a.beds.isEmpty && seqOk none a.beds)
 · have hv : fitV a l = (⟨0, []⟩, 0, 0, 2) := by rw [fitV, if_neg h1, if_pos h2]
   rw [hv]
   repeat refine awp_seq ?_
   refine awp_cond rfl (fun hc => ?_) (fun hc => ?_) <;> (try simp only [go_sem] at hc)
   repeat refine awp_seq ?_
   refine awp_reg (by kernel_rfl) fun K hK => ?_
   simp only [go_sem]
   (try simp (disch := omega) only [wrapI])
   repeat first | intro _ | refine ⟨(by omega), ?_⟩ | refine ⟨⟨by omega, by omega⟩, ?_⟩
   refine hK _ ?_
   clear hK K
   refine awp_sub (sub_keep [4, 5, 6, 7]) ?_
   simp only [go_sem]
   refine awp_ret ?_
   simp only [go_sem]
 repeat refine awp_seq ?_
 refine awp_cond rfl (fun hc => ?_) (fun hc => ?_) <;> (try simp only [go_sem] at hc)
 refine awp_skip ?_
 try simp only [go_sem]
 by_cases h3 : l = []
 · have c3 : ((l.length : Int) == 0) = true := by simp [h3]
   have hv : fitV a l = (⟨0, []⟩, 0, 0, 7) := by rw [fitV, if_neg h1, if_neg (by rw [h2]; decide), if_pos h3]
   rw [hv]
   repeat refine awp_seq ?_
   refine awp_reg (by kernel_rfl) fun K hK => ?_
   simp only [go_sem, c3]
   (try simp (disch := omega) only [wrapI])
   intros
   repeat first | intro _ | refine ⟨(by omega), ?_⟩ | refine ⟨⟨by omega, by omega⟩, ?_⟩
   refine hK _ ?_
   clear hK K
   refine awp_sub (sub_keep [1, 2, 4, 8, 28]) ?_
   simp only [go_sem]
   repeat refine awp_seq ?_
   refine awp_cond rfl (fun hc => ?_) (fun hc => ?_) <;> (try simp only [go_sem] at hc)
   repeat refine awp_seq ?_
   refine awp_reg (by kernel_rfl) fun K hK => ?_
   simp only [go_sem]
   (try simp (disch := omega) only [wrapI])
   repeat first | intro _ | refine ⟨(by omega), ?_⟩ | refine ⟨⟨by omega, by omega⟩, ?_⟩
   refine hK _ ?_
   clear hK K
   refine awp_sub (sub_keep [4, 5, 6, 7]) ?_
   simp only [go_sem]
   refine awp_ret ?_
   simp only [go_sem]
 have c3 : ((l.length : Int) == 0) = false := by simpa using h3
 repeat refine awp_seq ?_
 refine awp_reg (by kernel_rfl) fun K hK => ?_
 simp only [go_sem, c3]
 (try simp (disch := omega) only [wrapI])
 intros
 repeat first | intro _ | refine ⟨(by omega), ?_⟩ | refine ⟨⟨by omega, by omega⟩, ?_⟩
 refine hK _ ?_
 clear hK K
 refine awp_sub (sub_keep [1, 2, 4, 8, 28]) ?_
 simp only [go_sem]
 repeat refine awp_seq ?_
 refine awp_cond rfl (fun hc => ?_) (fun hc => ?_) <;> (try simp only [go_sem] at hc)
 refine awp_skip ?_
 try simp only [go_sem]
 by_cases h4 : 1000 < l.length
 · have c4 : decide ((1000 : Int) < (l.length : Int)) = true := by simp; omega
   have hv : fitV a l = (⟨0, []⟩, 0, 0, 5) := by rw [fitV, if_neg h1, if_neg (by rw [h2]; decide), if_neg h3, if_pos h4]
   rw [hv]
   repeat refine awp_seq ?_
   refine awp_reg (by kernel_rfl) fun K hK => ?_
   simp only [go_sem, c4]
   (try simp (disch := omega) only [wrapI])
   intros
   repeat first | intro _ | refine ⟨(by omega), ?_⟩ | refine ⟨⟨by omega, by omega⟩, ?_⟩
   refine hK _ ?_
   clear hK K
   refine awp_sub (sub_keep [1, 2, 4, 8, 32]) ?_
   simp only [go_sem]
   repeat refine awp_seq ?_
   refine awp_cond rfl (fun hc => ?_) (fun hc => ?_) <;> (try simp only [go_sem] at hc)
   repeat refine awp_seq ?_
   refine awp_reg (by kernel_rfl) fun K hK => ?_
   simp only [go_sem]
   (try simp (disch := omega) only [wrapI])
   repeat first | intro _ | refine ⟨(by omega), ?_⟩ | refine ⟨⟨by omega, by omega⟩, ?_⟩
   refine hK _ ?_
   clear hK K
   refine awp_sub (sub_keep [4, 5, 6, 7]) ?_
   simp only [go_sem]
   refine awp_ret ?_
   simp only [go_sem]
 have c4 : decide ((1000 : Int) < (l.length : Int)) = false := by simp; omega
 repeat refine awp_seq ?_
 refine awp_reg (by kernel_rfl) fun K hK => ?_
 simp only [go_sem, c4]
 (try simp (disch := omega) only [wrapI])
 intros
 repeat first | intro _ | refine ⟨(by omega), ?_⟩ | refine ⟨⟨by omega, by omega⟩, ?_⟩
 refine hK _ ?_
 clear hK K
 refine awp_sub (sub_keep [1, 2, 4, 8, 32]) ?_
 simp only [go_sem]
 repeat refine awp_seq ?_
 refine awp_cond rfl (fun hc => ?_) (fun hc => ?_) <;> (try simp only [go_sem] at hc)
 refine awp_skip ?_
 try simp only [go_sem]
 have hV : fitV a l = match runF (a.beds.map (·.b)) zeroT zeroT 0 l with
  | (_, _, some (i, e)) => (⟨0, []⟩, 0, i, e)
  | (le, mo, none) => (⟨a.at_, (List.range a.beds.length).map (bedAt (a.beds.map (·.b)) le mo)⟩, 3 * l.length, 0, 0) := by
  rw [fitV, if_neg h1, if_neg (by rw [h2]; decide), if_neg h3, if_neg h4]
  rfl
 have hseq : seqOk none a.beds = true := by
  simp only [Bool.and_eq_true] at h2
  exact h2.2
 have hle := seqOk_le hseq
 have hpair := (seqOk_pair hseq).1
 obtain ⟨bs, hbs⟩ : ∃ bs, bs = a.beds.map (·.b) := ⟨_, rfl⟩
 have hbl : bs.length = a.beds.length := by rw [hbs]; simp
 rw [← hbs] at hV hpair
 repeat refine awp_seq ?_
 refine awp_reg (by kernel_rfl) fun K hK => ?_
 simp only [go_sem]
 (try simp (disch := omega) only [wrapI])
 repeat first | intro _ | refine ⟨(by omega), ?_⟩ | refine ⟨⟨by omega, by omega⟩, ?_⟩
 refine hK _ ?_
 clear hK K
 refine awp_sub (sub_keep [1, 2, 4, 8, 9]) ?_
 simp only [go_sem]
 repeat refine awp_seq ?_
 refine awp_reg (by kernel_rfl) fun K hK => ?_
 simp only [go_sem]
 (try simp (disch := omega) only [wrapI])
 repeat first | intro _ | refine ⟨(by omega), ?_⟩ | refine ⟨⟨by omega, by omega⟩, ?_⟩
 refine hK _ ?_
 clear hK K
 refine awp_sub (sub_keep [1, 2, 4, 8, 9, 10]) ?_
 simp only [go_sem]
 repeat refine awp_seq ?_
 refine awp_block ?_
 refine awp_sub (sub_ownB 9 1 57 67 3 (by omega) (by omega) rfl rfl) ?_
 try simp only [go_sem]
 refine awp_uptoV (n := 158) a.beds.length (fun k vs => [(1, .r (visR l)), (2, .r (.rp [i64 a.at_, bedsR a.beds])), (4, .pt 4 (vs 4) 0), (8, .r (.rp [i64 0, .ns])), (9, .pt 9 (vs 9) 0), (10, .r (i64 k))])
  (fun k vs => [(4, .box [.r (i64 0), .r .ns]), (9, .box [.r (i64 a.at_), .os 57 (vs 57) 3 0 k]), (57, .arr 67 3 ((List.range k).map (outB bs zeroT zeroT)))]) (fun _ => True) 0 (fitV_of [] ?_ ?_) (Nat.zero_le _) trivial ?_
 · try simp only [go_sem]
 · try simp only [go_sem]
   try simp
 · intro k vs hk _
   repeat refine awp_seq ?_
   refine awp_reg (by kernel_rfl) fun K hK => ?_
   simp only [go_sem]
   (try simp (disch := omega) only [wrapI])
   repeat first | intro _ | refine ⟨(by omega), ?_⟩ | refine ⟨⟨by omega, by omega⟩, ?_⟩
   refine hK _ ?_
   clear hK K
   refine awp_sub (sub_keep [1, 2, 4, 8, 9, 10, 41]) ?_
   simp only [go_sem]
   repeat refine awp_seq ?_
   refine awp_cond rfl (fun hc => ?_) (fun hc => ?_) <;> (try simp only [go_sem] at hc)
   · skip
     have hci := hc
     obtain ⟨x, hx⟩ := opt_of_lt hci
     have hbx : bs[k]? = some x.b := by rw [hbs, List.getElem?_map, hx]; rfl
     have hrl : ((List.range k).map (outB bs zeroT zeroT)).length = k := by simp
     have hat : bedAt bs zeroT zeroT k = ⟨x.b, 0, 0⟩ := by
      unfold bedAt
      rw [zeroT_getD (by omega), List.getD_eq_getElem?_getD, hbx]; rfl
     refine awp_skip ?_
     try simp only [go_sem]
     repeat refine awp_seq ?_
     refine awp_block ?_
     repeat refine awp_seq ?_
     refine awp_dreg3 [(2, none), (9, some 9), (10, none)] [9] follows (by decide +kernel) (by kernel_rfl) (by simp only [keysOk, List.mem_cons, List.not_mem_nil, forall_eq_or_imp, Oc.keyOf, go_sem]; simp) (by intro k hk; simp only [List.mem_cons, List.not_mem_nil, or_false] at hk; first | (subst hk; exact ⟨_, rfl⟩) | (rcases hk with rfl | rfl <;> exact ⟨_, rfl⟩) | (rcases hk with rfl | rfl | rfl <;> exact ⟨_, rfl⟩)) fun K hK => ?_
     simp only [go_sem, hx, hci, bedR, hrl]
     (try simp (disch := omega) only [wrapI])
     repeat first | intro _ | refine ⟨(by omega), ?_⟩ | refine ⟨⟨by omega, by omega⟩, ?_⟩
     refine hK _ ?_
     clear hK K
     refine awp_sub (sub_keep [1, 2, 4, 8, 9, 10]) ?_
     simp only [go_sem]
     repeat refine awp_seq ?_
     refine awp_reg (by kernel_rfl) fun K hK => ?_
     simp only [go_sem]
     (try simp (disch := omega) only [wrapI])
     repeat first | intro _ | refine ⟨(by omega), ?_⟩ | refine ⟨⟨by omega, by omega⟩, ?_⟩
     refine hK _ ?_
     clear hK K
     try simp only [go_sem]
     refine ⟨hci, fitV_of [] ?_ ?_⟩
     · try simp only [go_sem]
     · try simp only [go_sem]
       simp [List.range_succ, hat, bedR]
   · skip
     have hkl : k = a.beds.length := by omega
     subst hkl
     refine awp_exit ?_
     simp only [go_sem]
     repeat refine awp_seq ?_
     refine awp_reg (by kernel_rfl) fun K hK => ?_
     simp only [go_sem]
     (try simp (disch := omega) only [wrapI])
     repeat first | intro _ | refine ⟨(by omega), ?_⟩ | refine ⟨⟨by omega, by omega⟩, ?_⟩
     refine hK _ ?_
     clear hK K
     refine awp_sub (sub_keep [1, 2, 4, 8, 9, 11]) ?_
     simp only [go_sem]
     repeat refine awp_seq ?_
     refine awp_block ?_
     obtain ⟨N, hNe⟩ : ∃ N, N = a.beds.length := ⟨_, rfl⟩
     rw [← hNe] at hbl ⊢
     have hN10 : N ≤ 10 := by rw [hNe]; omega
     refine awp_whileV (n := 158) (fun (y : Nat × List Int × List Int) vs => [(1, .r (visR l)), (2, .r (.rp [i64 a.at_, bedsR a.beds])), (4, .pt 4 (vs 4) 0), (8, .r (.rp [i64 0, .ns])), (9, .pt 9 (vs 9) 0), (11, .r (i64 y.1))])
      (fun y vs => [(4, .box [.r (i64 0), .r .ns]), (9, .box [.r (i64 a.at_), .os 57 (vs 57) 3 0 N]), (57, .arr 67 3 ((List.range N).map (outB bs y.2.1 y.2.2)))])
      (fun y => y.1 ≤ l.length ∧ SmallT (3 * (y.1 : Int)) y.2.1 ∧ SmallT (3 * (y.1 : Int)) y.2.2 ∧ runF bs zeroT zeroT 0 l = runF bs y.2.1 y.2.2 y.1 (l.drop y.1)) (fun y => l.length - y.1) (0, zeroT, zeroT) (fitV_of [] ?_ ?_) ⟨Nat.zero_le _, zeroT_small (by simp), zeroT_small (by simp), rfl⟩ ?_
     · try simp only [go_sem]
     · try simp only [go_sem]
     · rintro ⟨i, le, mo⟩ vs ⟨hi, hs1, hs2, hR⟩
       simp only at hi hs1 hs2 hR
       have hlel := hs1.1
       have hmol := hs2.1
       repeat refine awp_seq ?_
       refine awp_reg (by kernel_rfl) fun K hK => ?_
       simp only [go_sem]
       (try simp (disch := omega) only [wrapI])
       repeat first | intro _ | refine ⟨(by omega), ?_⟩ | refine ⟨⟨by omega, by omega⟩, ?_⟩
       refine hK _ ?_
       clear hK K
       refine awp_sub (sub_keep [1, 2, 4, 8, 9, 11, 59]) ?_
       simp only [go_sem]
       repeat refine awp_seq ?_
       refine awp_cond rfl (fun hc => ?_) (fun hc => ?_) <;> (try simp only [go_sem] at hc)
       · have hci : i < l.length := by first | exact hc | omega
         obtain ⟨v, hx⟩ := opt_of_lt hci
         rw [drop_of_opt hx, runF] at hR
         refine awp_skip ?_
         try simp only [go_sem]
         repeat refine awp_seq ?_
         refine awp_block ?_
         by_cases e1 : v.ds ≠ [] ∧ (v.ds.length ≠ 3 ∨ v.n ≠ 0)
         · have hvE : visitE bs v.ds v.n = 4 := by rw [visitE, if_pos e1]
           rw [if_neg (by rw [hvE]; decide), hvE] at hR
           have hv : fitV a l = (⟨0, []⟩, 0, (i : Int), 4) := by rw [hV, hR]
           rw [hv]
           have c5 : ((v.ds.length : Int) != 0) = true := by simpa using e1.1
           by_cases e2 : v.ds.length = 3
           · have c6 : ((v.ds.length : Int) != 3) = false := by simp [e2]
             have c7 : (v.n != 0) = true := by have := e1.2; simp only [e2, ne_eq, not_true_eq_false, false_or] at this; simpa using this
             repeat refine awp_seq ?_
             refine awp_reg (by kernel_rfl) fun K hK => ?_
             simp only [go_sem, hx, hci, c5, c6, c7]
             (try simp (disch := omega) only [wrapI])
             repeat first | intro _ | refine ⟨(by omega), ?_⟩ | refine ⟨⟨by omega, by omega⟩, ?_⟩
             refine hK _ ?_
             clear hK K
             refine awp_sub (sub_keep [4, 8, 11, 85]) ?_
             simp only [go_sem]
             repeat refine awp_seq ?_
             refine awp_cond rfl (fun hc => ?_) (fun hc => ?_) <;> (try simp only [go_sem] at hc)
             repeat refine awp_seq ?_
             refine awp_reg (by kernel_rfl) fun K hK => ?_
             simp only [go_sem]
             (try simp (disch := omega) only [wrapI])
             repeat first | intro _ | refine ⟨(by omega), ?_⟩ | refine ⟨⟨by omega, by omega⟩, ?_⟩
             refine hK _ ?_
             clear hK K
             refine awp_sub (sub_keep [4, 5, 6, 7]) ?_
             simp only [go_sem]
             refine awp_ret ?_
             simp only [go_sem]
           · have c6 : ((v.ds.length : Int) != 3) = true := by simp; omega
             repeat refine awp_seq ?_
             refine awp_reg (by kernel_rfl) fun K hK => ?_
             simp only [go_sem, hx, hci, c5, c6]
             (try simp (disch := omega) only [wrapI])
             repeat first | intro _ | refine ⟨(by omega), ?_⟩ | refine ⟨⟨by omega, by omega⟩, ?_⟩
             refine hK _ ?_
             clear hK K
             refine awp_sub (sub_keep [4, 8, 11, 85]) ?_
             simp only [go_sem]
             repeat refine awp_seq ?_
             refine awp_cond rfl (fun hc => ?_) (fun hc => ?_) <;> (try simp only [go_sem] at hc)
             repeat refine awp_seq ?_
             refine awp_reg (by kernel_rfl) fun K hK => ?_
             simp only [go_sem]
             (try simp (disch := omega) only [wrapI])
             repeat first | intro _ | refine ⟨(by omega), ?_⟩ | refine ⟨⟨by omega, by omega⟩, ?_⟩
             refine hK _ ?_
             clear hK K
             refine awp_sub (sub_keep [4, 5, 6, 7]) ?_
             simp only [go_sem]
             refine awp_ret ?_
             simp only [go_sem]
         have hd3 : v.ds = [] ∨ v.ds.length = 3 ∧ v.n = 0 := by
          by_cases q : v.ds = []
          · exact .inl q
          · refine .inr ⟨Decidable.byContradiction fun h => e1 ⟨q, .inl h⟩, Decidable.byContradiction fun h => e1 ⟨q, .inr h⟩⟩
         have hdd : v.ds = [] ∨ v.ds.length = 3 := hd3.imp id And.left
         repeat refine awp_seq ?_
         refine awp_joinV (n := 158) (fun (_ : Unit) vs => [(1, .r (visR l)), (2, .r (.rp [i64 a.at_, bedsR a.beds])), (4, .pt 4 (vs 4) 0), (8, .r (.rp [i64 0, .ns])), (9, .pt 9 (vs 9) 0), (11, .r (i64 i)), (85, .r (.bo false))])
          (fun _ vs => [(4, .box [.r (i64 0), .r .ns]), (9, .box [.r (i64 a.at_), .os 57 (vs 57) 3 0 N]), (57, .arr 67 3 ((List.range N).map (outB bs le mo)))]) (fun _ => True) (fun _ h => h) ?_ ?_
         · rcases hd3 with h0 | ⟨h0, h00⟩
           · have c5 : ((v.ds.length : Int) != 0) = false := by simp [h0]
             repeat refine awp_seq ?_
             refine awp_reg (by kernel_rfl) fun K hK => ?_
             simp only [go_sem, hx, hci, c5]
             (try simp (disch := omega) only [wrapI])
             repeat first | intro _ | refine ⟨(by omega), ?_⟩ | refine ⟨⟨by omega, by omega⟩, ?_⟩
             refine hK _ ?_
             clear hK K
             try simp only [go_sem]
             exact ⟨(), fitV_of [] (by try simp only [go_sem]) (by try simp only [go_sem])⟩
           · have c5 : ((v.ds.length : Int) != 0) = true := by simp [h0]
             have c6 : ((v.ds.length : Int) != 3) = false := by simp [h0]
             have c7 : (v.n != 0) = false := by simp [h00]
             repeat refine awp_seq ?_
             refine awp_reg (by kernel_rfl) fun K hK => ?_
             simp only [go_sem, hx, hci, c5, c6, c7]
             (try simp (disch := omega) only [wrapI])
             repeat first | intro _ | refine ⟨(by omega), ?_⟩ | refine ⟨⟨by omega, by omega⟩, ?_⟩
             refine hK _ ?_
             clear hK K
             try simp only [go_sem]
             exact ⟨(), fitV_of [] (by try simp only [go_sem]) (by try simp only [go_sem])⟩
         intro _ vs _
         repeat refine awp_seq ?_
         refine awp_cond rfl (fun hc => ?_) (fun hc => ?_) <;> (try simp only [go_sem] at hc)
         refine awp_skip ?_
         try simp only [go_sem]
         by_cases e2 : 0 ≤ v.n ∧ v.n ≤ 240
         rotate_left
         · have hvE : visitE bs v.ds v.n = 3 := by rw [visitE, if_neg e1, if_pos e2]
           rw [if_neg (by rw [hvE]; decide), hvE] at hR
           have hv : fitV a l = (⟨0, []⟩, 0, (i : Int), 3) := by rw [hV, hR]
           rw [hv]
           by_cases e3 : v.n < 0
           · have c5 : decide (v.n < 0) = true := by simpa using e3
             repeat refine awp_seq ?_
             refine awp_reg (by kernel_rfl) fun K hK => ?_
             simp only [go_sem, hx, hci, c5]
             (try simp (disch := omega) only [wrapI])
             repeat first | intro _ | refine ⟨(by omega), ?_⟩ | refine ⟨⟨by omega, by omega⟩, ?_⟩
             refine hK _ ?_
             clear hK K
             refine awp_sub (sub_keep [4, 8, 11, 101]) ?_
             simp only [go_sem]
             repeat refine awp_seq ?_
             refine awp_cond rfl (fun hc => ?_) (fun hc => ?_) <;> (try simp only [go_sem] at hc)
             repeat refine awp_seq ?_
             refine awp_reg (by kernel_rfl) fun K hK => ?_
             simp only [go_sem]
             (try simp (disch := omega) only [wrapI])
             repeat first | intro _ | refine ⟨(by omega), ?_⟩ | refine ⟨⟨by omega, by omega⟩, ?_⟩
             refine hK _ ?_
             clear hK K
             refine awp_sub (sub_keep [4, 5, 6, 7]) ?_
             simp only [go_sem]
             refine awp_ret ?_
             simp only [go_sem]
           · have c5 : decide (v.n < 0) = false := by simpa using e3
             have c6 : decide (240 < v.n) = true := by simp; omega
             repeat refine awp_seq ?_
             refine awp_reg (by kernel_rfl) fun K hK => ?_
             simp only [go_sem, hx, hci, c5, c6]
             (try simp (disch := omega) only [wrapI])
             repeat first | intro _ | refine ⟨(by omega), ?_⟩ | refine ⟨⟨by omega, by omega⟩, ?_⟩
             refine hK _ ?_
             clear hK K
             refine awp_sub (sub_keep [4, 8, 11, 101]) ?_
             simp only [go_sem]
             repeat refine awp_seq ?_
             refine awp_cond rfl (fun hc => ?_) (fun hc => ?_) <;> (try simp only [go_sem] at hc)
             repeat refine awp_seq ?_
             refine awp_reg (by kernel_rfl) fun K hK => ?_
             simp only [go_sem]
             (try simp (disch := omega) only [wrapI])
             repeat first | intro _ | refine ⟨(by omega), ?_⟩ | refine ⟨⟨by omega, by omega⟩, ?_⟩
             refine hK _ ?_
             clear hK K
             refine awp_sub (sub_keep [4, 5, 6, 7]) ?_
             simp only [go_sem]
             refine awp_ret ?_
             simp only [go_sem]
         have c5 : decide (v.n < 0) = false := by simp; omega
         have c6 : decide (240 < v.n) = false := by simp; omega
         repeat refine awp_seq ?_
         refine awp_reg (by kernel_rfl) fun K hK => ?_
         simp only [go_sem, hx, hci, c5, c6]
         (try simp (disch := omega) only [wrapI])
         repeat first | intro _ | refine ⟨(by omega), ?_⟩ | refine ⟨⟨by omega, by omega⟩, ?_⟩
         refine hK _ ?_
         clear hK K
         refine awp_sub (sub_keep [1, 2, 4, 8, 9, 11, 101]) ?_
         simp only [go_sem]
         repeat refine awp_seq ?_
         refine awp_cond rfl (fun hc => ?_) (fun hc => ?_) <;> (try simp only [go_sem] at hc)
         refine awp_skip ?_
         try simp only [go_sem]
         have hvis := refVisit_ok a v (by omega) hseq hdd
         rw [← hbs, ← hNe] at hvis
         have hacc : accL (refTs bs v.ds v.n (N * N * N)) = accL (truthsV bs v.ds v.n) := by rw [← hbl]; exact spansA_ref hpair hdd
         have hemp : (refTs bs v.ds v.n (N * N * N)).isEmpty = (truthsV bs v.ds v.n).isEmpty := by
          have := congrArg Prod.fst hacc
          rw [accL_some, accL_some] at this
          simpa using this
         generalize hxs : refTs bs v.ds v.n (N * N * N) = xs at hvis hacc hemp
         have hxl : Len10 xs := by rw [← hxs]; exact refTs_small
         repeat refine awp_seq ?_
         refine awp_dreg follows (by decide +kernel) (by kernel_rfl) fun K hK => ?_
         simp only [go_sem, hx, hci]
         (try simp (disch := omega) only [wrapI])
         refine xcall_eq (hvis) rfl (by simp only [go_sem, i64, ints]) (by simp only [go_sem, i64, ints]) (by first | exact .inl rfl | exact .inr rfl) ?_
         (try simp only [go_sem])
         (try simp (disch := omega) only [wrapI])
         repeat first | intro _ | refine ⟨(by omega), ?_⟩ | refine ⟨⟨by omega, by omega⟩, ?_⟩
         refine hK _ ?_
         clear hK K
         refine awp_sub (sub_keep [1, 2, 4, 8, 9, 11, 12, 13]) ?_
         simp only [go_sem]
         cases hem : xs.isEmpty
         rotate_left
         · have hvE : visitE bs v.ds v.n = 9 := by rw [visitE, if_neg e1, if_neg (by simpa using e2), if_pos (by rw [← hemp]; exact hem)]
           rw [if_neg (by rw [hvE]; decide), hvE] at hR
           have hv : fitV a l = (⟨0, []⟩, 0, (i : Int), 9) := by rw [hV, hR]
           rw [hv]
           repeat refine awp_seq ?_
           refine awp_reg (by kernel_rfl) fun K hK => ?_
           simp only [go_sem]
           (try simp (disch := omega) only [wrapI])
           repeat first | intro _ | refine ⟨(by omega), ?_⟩ | refine ⟨⟨by omega, by omega⟩, ?_⟩
           refine hK _ ?_
           clear hK K
           refine awp_sub (sub_keep [4, 8, 11, 114]) ?_
           simp only [go_sem]
           repeat refine awp_seq ?_
           refine awp_cond rfl (fun hc => ?_) (fun hc => ?_) <;> (try simp only [go_sem] at hc)
           repeat refine awp_seq ?_
           refine awp_reg (by kernel_rfl) fun K hK => ?_
           simp only [go_sem]
           (try simp (disch := omega) only [wrapI])
           repeat first | intro _ | refine ⟨(by omega), ?_⟩ | refine ⟨⟨by omega, by omega⟩, ?_⟩
           refine hK _ ?_
           clear hK K
           refine awp_sub (sub_keep [4, 5, 6, 7]) ?_
           simp only [go_sem]
           refine awp_ret ?_
           simp only [go_sem]
         have hvE : visitE bs v.ds v.n = 0 := by rw [visitE, if_neg e1, if_neg (by simpa using e2), if_neg (by rw [← hemp, hem]; decide)]
         rw [if_pos hvE] at hR
         have hLe : leV bs le v.ds v.n = addT le (accL xs).2.1 := by rw [leV, if_pos hvE, hacc]
         have hMo : moV bs mo v.ds v.n = addT mo (accL xs).2.2 := by rw [moV, if_pos hvE, hacc]
         obtain ⟨sl1, sl2⟩ := accL_small (b := 3) (by omega) xs hxl
         have hR1 := (leV_small (bs := bs) (ds := v.ds) (n := v.n) hs1).1
         have hR2 := moV_small (bs := bs) (ds := v.ds) (n := v.n) hs2
         rw [hLe, hMo] at hR
         rw [hLe] at hR1
         rw [hMo] at hR2
         repeat refine awp_seq ?_
         refine awp_reg (by kernel_rfl) fun K hK => ?_
         simp only [go_sem]
         (try simp (disch := omega) only [wrapI])
         repeat first | intro _ | refine ⟨(by omega), ?_⟩ | refine ⟨⟨by omega, by omega⟩, ?_⟩
         refine hK _ ?_
         clear hK K
         refine awp_sub (sub_keep [1, 2, 4, 8, 9, 11, 12, 114]) ?_
         simp only [go_sem]
         repeat refine awp_seq ?_
         refine awp_cond rfl (fun hc => ?_) (fun hc => ?_) <;> (try simp only [go_sem] at hc)
         refine awp_skip ?_
         try simp only [go_sem]
         repeat refine awp_seq ?_
         refine awp_reg (by kernel_rfl) fun K hK => ?_
         simp only [go_sem]
         (try simp (disch := omega) only [wrapI])
         repeat first | intro _ | refine ⟨(by omega), ?_⟩ | refine ⟨⟨by omega, by omega⟩, ?_⟩
         refine hK _ ?_
         clear hK K
         refine awp_sub (sub_keep [1, 2, 4, 8, 9, 11, 12, 14]) ?_
         simp only [go_sem]
         repeat refine awp_seq ?_
         refine awp_block ?_
         refine awp_uptoV (n := 158) N (fun k vs => [(1, .r (visR l)), (2, .r (.rp [i64 a.at_, bedsR a.beds])), (4, .pt 4 (vs 4) 0), (8, .r (.rp [i64 0, .ns])), (9, .pt 9 (vs 9) 0), (11, .r (i64 i)), (12, .r (.sl 2 (spansA N xs))), (14, .r (i64 k))])
          (fun k vs => [(4, .box [.r (i64 0), .r .ns]), (9, .box [.r (i64 a.at_), .os 57 (vs 57) 3 0 N]), (57, .arr 67 3 (mixF N k (outB bs (addT le (accL xs).2.1) (addT mo (accL xs).2.2)) (outB bs le mo)))]) (fun _ => True) 0 (fitV_of [] ?_ ?_) (Nat.zero_le _) trivial ?_
         · try simp only [go_sem]
         · try simp only [go_sem]
           rw [mixF_zero]
         · intro k vs hk _
           repeat refine awp_seq ?_
           refine awp_reg (by kernel_rfl) fun K hK => ?_
           simp only [go_sem, List.length_range]
           (try simp (disch := omega) only [wrapI])
           intro _
           repeat first | intro _ | refine ⟨(by omega), ?_⟩ | refine ⟨⟨by omega, by omega⟩, ?_⟩
           refine hK _ ?_
           clear hK K
           refine awp_sub (sub_keep [1, 2, 4, 8, 9, 11, 12, 14, 120]) ?_
           simp only [go_sem]
           repeat refine awp_seq ?_
           refine awp_cond rfl (fun hc => ?_) (fun hc => ?_) <;> (try simp only [go_sem] at hc)
           · have hck : k < N := by first | exact hc | omega
             refine awp_skip ?_
             try simp only [go_sem]
             repeat refine awp_seq ?_
             refine awp_block ?_
             have hxk : (List.range N)[k]? = some k := List.getElem?_range hck
             have hxk2 : spanAt xs k = [i64 ((accL xs).2.1.getD k 0), i64 ((accL xs).2.2.getD k 0)] := rfl
             have ml := mixF_len N k (outB bs (addT le (accL xs).2.1) (addT mo (accL xs).2.2)) (outB bs le mo)
             have ma : (mixF N k (outB bs (addT le (accL xs).2.1) (addT mo (accL xs).2.2)) (outB bs le mo)).getD k [] = [i64 (bs.getD k 0), i64 (le.getD k 0), i64 (mo.getD k 0)] := mixF_at hck
             have ms := mixF_set (N := N) (k := k) (f := outB bs (addT le (accL xs).2.1) (addT mo (accL xs).2.2)) (g := outB bs le mo) hck
             have b1 := sl1.getD (k := k) (by omega)
             have b2 := sl2.getD (k := k) (by omega)
             have b3 := hs1.getD (k := k) (by omega)
             have b4 := hs2.getD (k := k) (by omega)
             have q1 : (addT le (accL xs).2.1).getD k 0 = le.getD k 0 + (accL xs).2.1.getD k 0 := getD_addT (by omega) (by rw [sl1.1]; omega)
             have q2 : (addT mo (accL xs).2.2).getD k 0 = mo.getD k 0 + (accL xs).2.2.getD k 0 := getD_addT (by omega) (by rw [sl2.1]; omega)
             have ms' : ∀ M : List (List RV), M = mixF N k (outB bs (addT le (accL xs).2.1) (addT mo (accL xs).2.2)) (outB bs le mo) → M.set k [i64 (bs.getD k 0), i64 (le.getD k 0 + (accL xs).2.1.getD k 0), i64 (mo.getD k 0 + (accL xs).2.2.getD k 0)] = mixF N (k + 1) (outB bs (addT le (accL xs).2.1) (addT mo (accL xs).2.2)) (outB bs le mo) := fun M hM => by
              rw [hM, ← ms, outB, bedAt, bedR, q1, q2]
             generalize mixF N k (outB bs (addT le (accL xs).2.1) (addT mo (accL xs).2.2)) (outB bs le mo) = M at ml ma ms'
             have ms := ms' M rfl
             clear ms'
             have mg : ∀ v : List RV, (M.set k v).getD k [] = v := fun v => by rw [List.getD_eq_getElem?_getD, List.getElem?_set_self (by omega)]; rfl
             generalize (accL xs).2.1.getD k 0 = sL at *
             generalize (accL xs).2.2.getD k 0 = sH at *
             generalize le.getD k 0 = oL at *
             generalize mo.getD k 0 = oH at *
             repeat refine awp_seq ?_
             refine awp_reg (by kernel_rfl) fun K hK => ?_
             simp only [go_sem, ml, hck]
             (try simp (disch := omega) only [wrapI])
             repeat first | intro _ | refine ⟨(by omega), ?_⟩ | refine ⟨⟨by omega, by omega⟩, ?_⟩
             refine hK _ ?_
             clear hK K
             refine awp_sub (sub_keep [1, 2, 4, 8, 9, 11, 12, 14, 15]) ?_
             simp only [go_sem]
             repeat refine awp_seq ?_
             refine awp_dreg2 [(12, none), (14, none), (15, some 57)] follows (by decide +kernel) (by kernel_rfl) (by simp only [keysOk, List.mem_cons, List.not_mem_nil, forall_eq_or_imp, Oc.keyOf, go_sem]; simp) fun K hK => ?_
             simp only [go_sem, ml, ma, mg, hck, hxk, hxk2, List.length_range, List.set_set, List.length_set, List.headD_cons, List.length_cons]
             (try simp (disch := omega) only [wrapI])
             repeat first | intro _ | refine ⟨(by omega), ?_⟩ | refine ⟨⟨by omega, by omega⟩, ?_⟩
             refine hK _ ?_
             clear hK K
             rw [ms]
             refine awp_sub (sub_keep [1, 2, 4, 8, 9, 11, 12, 14]) ?_
             simp only [go_sem]
             repeat refine awp_seq ?_
             refine awp_reg (by kernel_rfl) fun K hK => ?_
             simp only [go_sem]
             (try simp (disch := omega) only [wrapI])
             repeat first | intro _ | refine ⟨(by omega), ?_⟩ | refine ⟨⟨by omega, by omega⟩, ?_⟩
             refine hK _ ?_
             clear hK K
             try simp only [go_sem]
             refine ⟨hck, fitV_of [] ?_ ?_⟩
             · try simp only [go_sem]
             · try simp only [go_sem]
           · refine awp_exit ?_
             simp only [go_sem]
             have : k = N := by omega
             subst this
             repeat refine awp_seq ?_
             refine awp_reg (by kernel_rfl) fun K hK => ?_
             simp only [go_sem]
             (try simp (disch := omega) only [wrapI])
             repeat first | intro _ | refine ⟨(by omega), ?_⟩ | refine ⟨⟨by omega, by omega⟩, ?_⟩
             refine hK _ ?_
             clear hK K
             try simp only [go_sem]
             refine ⟨(i + 1, addT le (accL xs).2.1, addT mo (accL xs).2.2), ⟨by omega, ?_, ?_, hR⟩, by simp only; omega, fitV_of [] ?_ ?_⟩
             · simpa [Int.mul_add] using hR1
             · simpa [Int.mul_add] using hR2
             · try simp only [go_sem]
             · try simp only [go_sem]
               rw [mixF_full]
       · have hil : i = l.length := by omega
         subst hil
         rw [List.drop_length, runF] at hR
         have hv : fitV a l = (⟨a.at_, (List.range a.beds.length).map (bedAt bs le mo)⟩, 3 * (l.length : Int), 0, 0) := by rw [hV, hR]
         rw [hv, ← hNe]
         have hll : l.length ≤ 1000 := by omega
         refine awp_exit ?_
         simp only [go_sem]
         refine awp_sub (sub_frzB 9 1 57 (by omega) (by omega) rfl rfl rfl (by simp)) ?_
         simp only [go_sem, List.drop_zero, List.set_cons_succ, List.set_cons_zero]
         repeat refine awp_seq ?_
         refine awp_reg (by kernel_rfl) fun K hK => ?_
         simp only [go_sem]
         (try simp (disch := omega) only [wrapI])
         repeat first | intro _ | refine ⟨(by omega), ?_⟩ | refine ⟨⟨by omega, by omega⟩, ?_⟩
         refine hK _ ?_
         clear hK K
         refine awp_sub (sub_keep [4, 5, 6, 7]) ?_
         simp only [go_sem]
         refine awp_ret ?_
         simp only [go_sem]
         rw [List.take_of_length_le (by simp), List.map_map]
         rfl
end Go.Proofs.Ytgkejinoaommeaa

namespace Go.Proofs.Ytgkejinoaommeaa
open Go Go.Oc
set_option linter.unusedSimpArgs false
set_option linter.unusedVariables false
structure Th where
 x : Nat
 y : Nat
 z : Nat
 kn : Bool
def visF (bs : List Int) (p : Th) : Vi := ⟨[bs.getD p.x 0, bs.getD p.y 0, bs.getD p.z 0], 0⟩
def visT (bs : List Int) (p : Th) : Vi := ⟨[], sum3 bs p.x p.y p.z⟩
def visP (bs : List Int) (p : Th) : Vi := if p.kn then visF bs p else visT bs p
def tal (p : Th) : List Int := tally3 p.x p.y p.z
structure BsOk (bs : List Int) : Prop where
 asc : bs.Pairwise (· < ·)
 ne : bs ≠ []
 len : bs.length ≤ 10
 bed : ∀ b ∈ bs, (b = 0 ∨ bedOk b = true) ∧ 0 ≤ scoreOf b ∧ scoreOf b ≤ 60
def InB (bs : List Int) (p : Th) : Prop := p.x < bs.length ∧ p.y < bs.length ∧ p.z < bs.length
theorem mem_getD {bs : List Int} {k : Nat} (h : k < bs.length) : bs.getD k 0 ∈ bs := by
 rw [List.getD_eq_getElem?_getD, List.getElem?_eq_getElem h]; simp
theorem visT_mem {bs : List Int} {p : Th} (hb : BsOk bs) (hp : InB bs p) : tal p ∈ truthsV bs (visT bs p).ds (visT bs p).n := by
 refine (mem_truthsV hb.asc (.inl rfl)).2 (mem_refTs.2 ?_)
 exact ⟨p.x, p.y, p.z, hp.1, hp.2.1, hp.2.2, by simp [hasV, visT], rfl⟩
theorem visF_mem {bs : List Int} {p : Th} {u : List Int} (hb : BsOk bs) (hp : InB bs p) : u ∈ truthsV bs (visF bs p).ds (visF bs p).n ↔ u = tal p := by
 refine (mem_truthsV hb.asc (.inr rfl)).trans (mem_refTs.trans ?_)
 constructor
 · rintro ⟨x, y, z, hx, hy, hz, hh, rfl⟩
   simp only [hasV, visF, List.getD_cons_zero, List.getD_cons_succ, reduceCtorEq, if_false, Bool.and_eq_true, decide_eq_true_eq] at hh
   obtain ⟨⟨h1, h2⟩, h3⟩ := hh
   rw [tal, getD_inj hb.asc hp.1 hx h1, getD_inj hb.asc hp.2.1 hy h2, getD_inj hb.asc hp.2.2 hz h3]
 · rintro rfl
   exact ⟨p.x, p.y, p.z, hp.1, hp.2.1, hp.2.2, by simp [hasV, visF], rfl⟩
theorem visP_mem {bs : List Int} {p : Th} (hb : BsOk bs) (hp : InB bs p) : tal p ∈ truthsV bs (visP bs p).ds (visP bs p).n := by
 unfold visP
 split
 · exact (visF_mem hb hp).2 rfl
 · exact visT_mem hb hp
theorem sum3_le {bs : List Int} {p : Th} (hb : BsOk bs) (hp : InB bs p) : 0 ≤ sum3 bs p.x p.y p.z ∧ sum3 bs p.x p.y p.z ≤ 180 := by
 have h1 := (hb.bed _ (mem_getD hp.1)).2
 have h2 := (hb.bed _ (mem_getD hp.2.1)).2
 have h3 := (hb.bed _ (mem_getD hp.2.2)).2
 unfold sum3; omega
theorem visP_E {bs : List Int} {p : Th} (hb : BsOk bs) (hp : InB bs p) : visitE bs (visP bs p).ds (visP bs p).n = 0 := by
 have hm := visP_mem hb hp
 have hne : (truthsV bs (visP bs p).ds (visP bs p).n).isEmpty = false := by
  cases h : truthsV bs (visP bs p).ds (visP bs p).n with
  | nil => rw [h] at hm; simp at hm
  | cons => rfl
 have hs := sum3_le hb hp
 unfold visitE
 rw [hne]
 have h0 : ¬ ((visP bs p).ds ≠ [] ∧ ((visP bs p).ds.length ≠ 3 ∨ (visP bs p).n ≠ 0)) := by
  unfold visP; split <;> simp [visF, visT]
 have h1 : 0 ≤ (visP bs p).n ∧ (visP bs p).n ≤ 240 := by
  unfold visP; split
  · simp [visF]
  · simp only [visT]; omega
 rw [if_neg h0, if_neg (by simpa using h1)]
 simp
def loK (bs : List Int) (k : Nat) (v : Vi) : Int := (accL (truthsV bs v.ds v.n)).2.1.getD k 0
def hiK (bs : List Int) (k : Nat) (v : Vi) : Int := (accL (truthsV bs v.ds v.n)).2.2.getD k 0
def tK (k : Nat) (p : Th) : Int := (tal p).getD k 0
theorem visP_len {bs : List Int} {p : Th} (hb : BsOk bs) (hp : InB bs p) : Len10 (truthsV bs (visP bs p).ds (visP bs p).n) := truthsV_small (visP_E hb hp)
theorem visP_ne {bs : List Int} {p : Th} (hb : BsOk bs) (hp : InB bs p) : truthsV bs (visP bs p).ds (visP bs p).n ≠ [] := fun e => by
 have := visP_mem hb hp
 rw [e] at this; simp at this
theorem between {bs : List Int} {p : Th} {k : Nat} (hk : k < 10) (hb : BsOk bs) (hp : InB bs p) : loK bs k (visP bs p) ≤ tK k p ∧ tK k p ≤ hiK bs k (visP bs p) :=
 ⟨(accL_least hk _ _ rfl (visP_ne hb hp) (visP_len hb hp)).2 _ (visP_mem hb hp), (accL_most hk _ _ rfl (visP_ne hb hp) (visP_len hb hp)).2 _ (visP_mem hb hp)⟩
theorem bounds {bs : List Int} {p : Th} {k : Nat} (hk : k < 10) (hb : BsOk bs) (hp : InB bs p) : 0 ≤ loK bs k (visP bs p) ∧ hiK bs k (visP bs p) ≤ 3 := by
 obtain ⟨h1, h2⟩ := accL_small (b := 3) (by omega) _ (visP_len hb hp)
 exact ⟨(h1.getD hk).1, (h2.getD hk).2⟩
theorem visP_full {bs : List Int} {p : Th} (h : p.kn = true) : visP bs p = visF bs p := by simp [visP, h]
theorem exact_ {bs : List Int} {p : Th} {k : Nat} (hk : k < 10) (hb : BsOk bs) (hp : InB bs p) (h : p.kn = true) : loK bs k (visP bs p) = tK k p ∧ hiK bs k (visP bs p) = tK k p := by
 obtain ⟨t, ht, e1⟩ := (accL_least hk _ _ rfl (visP_ne hb hp) (visP_len hb hp)).1
 obtain ⟨u, hu, e2⟩ := (accL_most hk _ _ rfl (visP_ne hb hp) (visP_len hb hp)).1
 rw [visP_full h] at ht hu
 rw [visF_mem hb hp] at ht hu
 subst ht hu
 exact ⟨e1.symm, e2.symm⟩
theorem sum_le {α : Type} {f g : α → Int} : ∀ {l : List α}, (∀ x ∈ l, f x ≤ g x) → (l.map f).sum ≤ (l.map g).sum
 | [], _ => by simp
 | x :: l, h => by
   have h1 := h x (by simp)
   have h2 := sum_le (l := l) fun y hy => h y (by simp [hy])
   simp only [List.map_cons, List.sum_cons]; omega
theorem sum_eq {α : Type} {f g : α → Int} {l : List α} (h : ∀ x ∈ l, f x = g x) : (l.map f).sum = (l.map g).sum := by
 rw [List.map_congr_left h]
theorem sum_app : ∀ (a b : List Int), (a ++ b).sum = a.sum + b.sum
 | [], b => by simp
 | x :: a, b => by simp only [List.cons_append, List.sum_cons, sum_app a b]; omega
theorem sum_rev : ∀ (a : List Int), a.reverse.sum = a.sum
 | [] => rfl
 | x :: a => by rw [List.reverse_cons, sum_app, sum_rev a]; simp only [List.sum_cons, List.sum_nil]; omega
theorem sum_set {α : Type} {f : α → Int} : ∀ {l : List α} {i : Nat} {x y : α}, l[i]? = some x → ((l.set i y).map f).sum = (l.map f).sum - f x + f y
 | [], i, x, y, h => by simp at h
 | a :: l, 0, x, y, h => by
   simp only [List.getElem?_cons_zero, Option.some.injEq] at h
   subst h
   simp only [List.set_cons_zero, List.map_cons, List.sum_cons]; omega
 | a :: l, i + 1, x, y, h => by
   simp only [List.getElem?_cons_succ] at h
   simp only [List.set_cons_succ, List.map_cons, List.sum_cons, sum_set h]; omega
theorem sum_const {α : Type} {f : α → Int} {c : Int} : ∀ {l : List α}, (∀ x ∈ l, f x = c) → (l.map f).sum = c * l.length
 | [], _ => by simp
 | x :: l, h => by
   simp only [List.map_cons, List.sum_cons, sum_const (l := l) fun y hy => h y (by simp [hy]), h x (by simp), List.length_cons, Int.natCast_add, Int.mul_add]; omega
theorem sum_bound {α : Type} {f : α → Int} {c : Int} {l : List α} (h : ∀ x ∈ l, f x ≤ c) : (l.map f).sum ≤ c * l.length := by
 have := sum_le (f := f) (g := fun _ => c) h
 rwa [sum_const (f := fun _ : α => c) (c := c) (fun _ _ => rfl)] at this
theorem sum_nonneg {α : Type} {f : α → Int} {l : List α} (h : ∀ x ∈ l, 0 ≤ f x) : 0 ≤ (l.map f).sum := by
 have := sum_le (f := fun _ => 0) (g := f) h
 rwa [sum_const (f := fun _ : α => 0) (c := 0) (fun _ _ => rfl), Int.zero_mul] at this
theorem sum_add {α : Type} {f g : α → Int} : ∀ {l : List α}, (l.map fun x => f x + g x).sum = (l.map f).sum + (l.map g).sum
 | [] => by simp
 | x :: l => by simp only [List.map_cons, List.sum_cons, sum_add (l := l)]; omega
theorem sum_swap {α β : Type} {f : α → β → Int} {l : List α} : ∀ {m : List β}, (l.map fun x => (m.map (f x)).sum).sum = (m.map fun y => (l.map fun x => f x y).sum).sum
 | [] => by simp only [List.map_nil, List.sum_nil]; exact (sum_const (f := fun _ : α => 0) (fun _ _ => rfl)).trans (Int.zero_mul _)
 | y :: m => by
   simp only [List.map_cons, List.sum_cons, ← sum_swap (l := l) (m := m)]
   exact sum_add
theorem sum_one1 {x : Nat} : ∀ {N : Nat}, x < N → ((List.range N).map (one1 x)).sum = 1 := by
 have h0 : ∀ {N : Nat}, N ≤ x → ((List.range N).map (one1 x)).sum = 0 := by
  intro N hN
  refine (sum_const (c := 0) fun k hk => ?_).trans (Int.zero_mul _)
  have := List.mem_range.1 hk
  unfold one1; rw [if_neg (by omega)]
 intro N
 induction N with
 | zero => intro h; omega
 | succ N ih =>
   intro h
   rw [List.range_succ, List.map_append, sum_app]
   by_cases e : x = N
   · subst e; rw [h0 (Nat.le_refl _)]; simp [one1]
   · rw [ih (by omega)]; simp [one1, e]
theorem foldl_addT {α : Type} {f : α → List Int} {k : Nat} (hk : k < 10) : ∀ {l : List α} {le : List Int}, (∀ v ∈ l, (f v).length = 10) → le.length = 10 →
 (l.foldl (fun a v => addT a (f v)) le).length = 10 ∧ (l.foldl (fun a v => addT a (f v)) le).getD k 0 = le.getD k 0 + (l.map fun v => (f v).getD k 0).sum
 | [], le, _, h => by simp [h]
 | v :: l, le, hf, h => by
   have hv := hf v (by simp)
   have hl : (addT le (f v)).length = 10 := by unfold addT; rw [List.length_zipWith]; omega
   obtain ⟨h1, h2⟩ := foldl_addT hk (l := l) (le := addT le (f v)) (fun u hu => hf u (by simp [hu])) hl
   refine ⟨h1, ?_⟩
   rw [List.foldl_cons, h2, getD_addT (by omega) (by omega), List.map_cons, List.sum_cons]; omega
theorem runF_all {bs : List Int} : ∀ {l : List Vi} {le mo : List Int} {i : Nat}, (∀ v ∈ l, visitE bs v.ds v.n = 0) →
 runF bs le mo i l = (l.foldl (fun a v => addT a (accL (truthsV bs v.ds v.n)).2.1) le, l.foldl (fun a v => addT a (accL (truthsV bs v.ds v.n)).2.2) mo, none)
 | [], _, _, _, _ => rfl
 | v :: l, le, mo, i, h => by
   have hv := h v (by simp)
   rw [runF, if_pos hv, runF_all fun u hu => h u (by simp [hu]), leV, if_pos hv, moV, if_pos hv]
   rfl
def spB (bs : List Int) (l : List Vi) : List Bd := (List.range bs.length).map fun k => Bd.mk (bs.getD k 0) (l.map (loK bs k)).sum (l.map (hiK bs k)).sum
def aimB (bs : List Int) : Am := ⟨320, bs.map fun b => Bd.mk b 0 0⟩
theorem seqOk_of : ∀ {l : List Bd} {p : Option Int}, (l.map (·.b)).Pairwise (· < ·) → (∀ x ∈ l, x.b = 0 ∨ bedOk x.b = true) → (∀ q, p = some q → ∀ x ∈ l, q < x.b) → seqOk p l = true
 | [], _, _, _, _ => rfl
 | x :: l, p, h1, h2, h3 => by
   rw [List.map_cons, List.pairwise_cons] at h1
   have hx := h2 x (by simp)
   have hr : seqOk (some x.b) l = true := seqOk_of h1.2 (fun y hy => h2 y (by simp [hy])) fun q hq y hy => by
    injection hq with hq; subst hq
    exact h1.1 _ (List.mem_map.2 ⟨y, hy, rfl⟩)
   simp only [seqOk, hr, Bool.and_true, Bool.and_eq_true, Bool.or_eq_true, decide_eq_true_eq]
   refine ⟨hx, ?_⟩
   cases p with
   | none => rfl
   | some q => simpa using h3 q rfl x (by simp)
theorem spB_b (bs : List Int) (l : List Vi) : (spB bs l).map (·.b) = bs := by
 unfold spB
 rw [List.map_map]
 apply List.ext_getElem?
 intro k
 rw [List.getElem?_map]
 by_cases hk : k < bs.length
 · rw [List.getElem?_range hk, List.getElem?_eq_getElem hk]
   simp [List.getD_eq_getElem?_getD, List.getElem?_eq_getElem hk]
 · rw [List.getElem?_eq_none (by simpa using hk), List.getElem?_eq_none (by omega)]; rfl
theorem seqOk_bs {bs : List Int} {l : List Bd} (hb : BsOk bs) (h : l.map (·.b) = bs) : seqOk none l = true :=
 seqOk_of (by rw [h]; exact hb.asc) (fun x hx => (hb.bed x.b (by rw [← h]; exact List.mem_map.2 ⟨x, hx, rfl⟩)).1) fun q hq => by cases hq
theorem fitV_vis {bs : List Int} {l : List Vi} (hb : BsOk bs) (h0 : l ≠ []) (h1 : l.length ≤ 30) (hv : ∀ v ∈ l, visitE bs v.ds v.n = 0) : fitV (aimB bs) l = (Am.mk 320 (spB bs l), 3 * (l.length : Int), 0, 0) := by
 have hm : (aimB bs).beds.map (·.b) = bs := by simp [aimB, List.map_map, Function.comp_def]
 have hl : (aimB bs).beds.length = bs.length := by simp [aimB]
 have hne : (aimB bs).beds.isEmpty = false := by
  have := hb.ne
  cases bs with
  | nil => exact absurd rfl this
  | cons => rfl
 have hg : (bedOk (aimB bs).at_ && !(aimB bs).beds.isEmpty && seqOk none (aimB bs).beds) = true := by
  rw [hne, seqOk_bs hb hm]; rfl
 have hlen := hb.len
 rw [fitV, if_neg (by omega), if_neg (by rw [hg]; decide), if_neg h0, if_neg (by omega), hm, runF_all hv]
 simp only [aimB, List.length_map, Prod.mk.injEq, Am.mk.injEq, and_true, true_and]
 unfold spB
 refine List.map_congr_left fun k hk => ?_
 have hk := List.mem_range.1 hk
 have hA : ∀ v ∈ l, (accL (truthsV bs v.ds v.n)).2.1.length = 10 ∧ (accL (truthsV bs v.ds v.n)).2.2.length = 10 := fun v hv' => accL_len (truthsV_small (hv v hv'))
 unfold bedAt
 rw [(foldl_addT (k := k) (by omega) (fun v hv' => (hA v hv').1) rfl).2, (foldl_addT (k := k) (by omega) (fun v hv' => (hA v hv').2) rfl).2, zeroT_getD (by omega), Int.zero_add, Int.zero_add]
 rfl
structure Ls (bs : List Int) (L : List Th) : Prop where
 b : BsOk bs
 ne : L ≠ []
 len : L.length ≤ 30
 in_ : ∀ p ∈ L, InB bs p
def cntK (L : List Th) (k : Nat) : Int := (L.map (tK k)).sum
abbrev visL (bs : List Int) (L : List Th) : List Vi := L.map (visP bs)
theorem fit_vis {bs : List Int} {L : List Th} (h : Ls bs L) : fitV (aimB bs) (visL bs L) = (Am.mk 320 (spB bs (visL bs L)), 3 * (L.length : Int), 0, 0) := by
 have := fitV_vis (l := visL bs L) h.b (by simpa using h.ne) (by simpa using h.len) fun v hv => by
  obtain ⟨p, hp, rfl⟩ := List.mem_map.1 hv
  exact visP_E h.b (h.in_ p hp)
 rwa [List.length_map] at this
theorem cnt_between {bs : List Int} {L : List Th} {k : Nat} (hk : k < 10) (h : Ls bs L) : ((visL bs L).map (loK bs k)).sum ≤ cntK L k ∧ cntK L k ≤ ((visL bs L).map (hiK bs k)).sum := by
 simp only [visL, List.map_map]
 exact ⟨sum_le fun p hp => (between hk h.b (h.in_ p hp)).1, sum_le fun p hp => (between hk h.b (h.in_ p hp)).2⟩
theorem cnt_full {bs : List Int} {L : List Th} {k : Nat} (hk : k < 10) (h : Ls bs L) (hf : ∀ p ∈ L, p.kn = true) : ((visL bs L).map (loK bs k)).sum = cntK L k ∧ ((visL bs L).map (hiK bs k)).sum = cntK L k := by
 simp only [visL, List.map_map]
 exact ⟨sum_eq fun p hp => (exact_ hk h.b (h.in_ p hp) (hf p hp)).1, sum_eq fun p hp => (exact_ hk h.b (h.in_ p hp) (hf p hp)).2⟩
theorem spB_rev (bs : List Int) (l : List Vi) : spB bs l.reverse = spB bs l := by
 unfold spB
 refine List.map_congr_left fun k _ => ?_
 rw [List.map_reverse, List.map_reverse, sum_rev, sum_rev]
def know (L : List Th) (i : Nat) : List Th := match L[i]? with | some p => L.set i { p with kn := true } | none => L
theorem know_ls {bs : List Int} {L : List Th} {i : Nat} (h : Ls bs L) : Ls bs (know L i) := by
 unfold know
 split
 · rename_i p hp
   refine ⟨h.b, fun e => ?_, by rw [List.length_set]; exact h.len, fun q hq => ?_⟩
   · have := congrArg List.length e
     rw [List.length_set] at this
     exact h.ne (List.length_eq_zero_iff.1 this)
   · rcases List.mem_or_eq_of_mem_set hq with hq | rfl
     · exact h.in_ q hq
     · exact h.in_ p (mem_of_opt hp)
 · exact h
theorem know_len (L : List Th) (i : Nat) : (know L i).length = L.length := by
 unfold know; split <;> simp
theorem know_cnt (L : List Th) (i k : Nat) : cntK (know L i) k = cntK L k := by
 unfold know cntK
 split
 · rename_i p hp
   rw [sum_set hp]
   have : tK k { p with kn := true } = tK k p := rfl
   omega
 · rfl
theorem know_vis {bs : List Int} {L : List Th} {i : Nat} {p : Th} (hp : L[i]? = some p) : visL bs (know L i) = (visL bs L).set i (visF bs p) := by
 unfold know visL
 rw [hp]
 simp only [List.map_set]
 rfl
theorem know_narrow {bs : List Int} {L : List Th} {i k : Nat} (hk : k < 10) (h : Ls bs L) : ((visL bs L).map (loK bs k)).sum ≤ ((visL bs (know L i)).map (loK bs k)).sum ∧ ((visL bs (know L i)).map (hiK bs k)).sum ≤ ((visL bs L).map (hiK bs k)).sum := by
 cases hp : L[i]? with
 | none => unfold know; rw [hp]; exact ⟨Int.le_refl _, Int.le_refl _⟩
 | some p =>
   have hin := h.in_ p (mem_of_opt hp)
   have hv : (visL bs L)[i]? = some (visP bs p) := by simp [hp]
   rw [know_vis hp, sum_set hv, sum_set hv]
   have h1 := between hk h.b hin
   have h2 := exact_ (p := { p with kn := true }) hk h.b hin rfl
   rw [visP_full rfl] at h2
   have e1 : tK k { p with kn := true } = tK k p := rfl
   have e2 : visF bs { p with kn := true } = visF bs p := rfl
   rw [e1, e2] at h2
   omega
theorem sum_tK {N : Nat} {p : Th} (hN : N ≤ 10) (h : p.x < N ∧ p.y < N ∧ p.z < N) : ((List.range N).map fun k => tK k p).sum = 3 := by
 have : ((List.range N).map fun k => tK k p).sum = ((List.range N).map fun k => (one1 p.x k + one1 p.y k) + one1 p.z k).sum := sum_eq fun k hk => by
  have hk := List.mem_range.1 hk
  exact getD_tally3 (by omega) (by omega) (by omega) (by omega)
 rw [this, sum_add, sum_add, sum_one1 h.1, sum_one1 h.2.1, sum_one1 h.2.2]
 rfl
theorem sum_cnt {bs : List Int} {L : List Th} (h : Ls bs L) : ((List.range bs.length).map (cntK L)).sum = 3 * L.length := by
 unfold cntK
 rw [sum_swap (f := fun k p => tK k p)]
 exact sum_const fun p hp => sum_tK h.b.len (h.in_ p hp)
theorem spB_check {bs : List Int} {L : List Th} (h : Ls bs L) : checkV (3 * L.length) [⟨320, spB bs (visL bs L)⟩] = 0 := by
 have hpos : 0 < L.length := List.length_pos_iff.2 h.ne
 have hl := h.len
 have hbl := h.b.len
 have hlen : (spB bs (visL bs L)).length = bs.length := by simp [spB]
 have hseq := seqOk_bs h.b (spB_b bs (visL bs L))
 have hne : (spB bs (visL bs L)).isEmpty = false := by
  have := h.b.ne
  cases hq : spB bs (visL bs L) with
  | nil => rw [hq] at hlen; exact absurd (List.length_eq_zero_iff.1 hlen.symm) this
  | cons => rfl
 have hch : chOk (3 * L.length) (spB bs (visL bs L)) = true := by
  unfold chOk
  rw [List.all_eq_true]
  intro x hx
  obtain ⟨k, hk, rfl⟩ := List.mem_map.1 hx
  have hk := List.mem_range.1 hk
  have h1 := cnt_between (k := k) (by omega) h
  have h2 : 0 ≤ ((visL bs L).map (loK bs k)).sum := by
   simp only [visL, List.map_map]
   exact sum_nonneg fun p hp => (bounds (by omega) h.b (h.in_ p hp)).1
  have h3 : ((visL bs L).map (hiK bs k)).sum ≤ 3 * L.length := by
   simp only [visL, List.map_map]
   exact sum_bound fun p hp => (bounds (by omega) h.b (h.in_ p hp)).2
  simp only [Bool.and_eq_true, decide_eq_true_eq]
  omega
 have hlo : loS (spB bs (visL bs L)) ≤ 3 * L.length := by
  rw [← sum_cnt h, loS, spB, List.map_map]
  exact sum_le fun k hk => (cnt_between (by have := List.mem_range.1 hk; omega) h).1
 have hhi : 3 * (L.length : Int) ≤ hiS (spB bs (visL bs L)) := by
  rw [← sum_cnt h, hiS, spB, List.map_map]
  exact sum_le fun k hk => (cnt_between (by have := List.mem_range.1 hk; omega) h).2
 have ha : aimOk (3 * L.length) ⟨320, spB bs (visL bs L)⟩ = true := by
  have h320 : bedOk 320 = true := rfl
  simp only [aimOk, h320, hne, hseq, hch, Bool.not_false, Bool.and_self, Bool.true_and, Bool.and_eq_true, decide_eq_true_eq]
  exact ⟨hlo, hhi⟩
 unfold checkV
 rw [if_neg (by simp; omega), if_neg (by simp; omega), if_pos (by simp [ha])]
end Go.Proofs.Ytgkejinoaommeaa

namespace Go.Proofs.Ytgkejinoaommeaa
open Go Go.Oc
set_option linter.unusedSimpArgs false
set_option linter.unusedVariables false
set_option maxRecDepth 8000
abbrev u8s (l : List Int) : RV := .sl 1 (l.map fun x => [.it .u8 x])
def byteL (l : List Int) (i : Nat) : Int := if l = [] then 0 else l.getD (i % l.length) 0
theorem byteOf_ok (l : List Int) (i : Nat) : ACalls Try.prog 33 [u8s l, i64 i] (.it .u8 (byteL l i)) := by
 refine acalls_st (rs := [.it .u8 (byteL l i)]) [.tmp 4] Try.func33 rfl (by kernel_rfl) Try.ntmps33 rfl (by simp) rfl fun C vs => ?_
 repeat refine awp_seq ?_
 refine awp_reg (by kernel_rfl) fun K hK => ?_
 simp only [go_sem]
 (try simp (disch := omega) only [wrapI])
 repeat first | intro _ | refine ⟨(by omega), ?_⟩ | refine ⟨⟨by omega, by omega⟩, ?_⟩
 refine hK _ ?_
 clear hK K
 refine awp_sub (sub_keep [0, 1]) ?_
 simp only [go_sem]
 by_cases h : l = []
 · subst h
   repeat refine awp_seq ?_
   refine awp_reg (by kernel_rfl) fun K hK => ?_
   simp only [go_sem]
   (try simp (disch := omega) only [wrapI])
   repeat first | intro _ | refine ⟨(by omega), ?_⟩ | refine ⟨⟨by omega, by omega⟩, ?_⟩
   refine hK _ ?_
   clear hK K
   refine awp_sub (sub_keep [0, 1, 7]) ?_
   simp only [go_sem]
   repeat refine awp_seq ?_
   refine awp_cond rfl (fun hc => ?_) (fun hc => ?_) <;> (try simp only [go_sem] at hc)
   repeat refine awp_seq ?_
   refine awp_reg (by kernel_rfl) fun K hK => ?_
   simp only [go_sem]
   (try simp (disch := omega) only [wrapI])
   repeat first | intro _ | refine ⟨(by omega), ?_⟩ | refine ⟨⟨by omega, by omega⟩, ?_⟩
   refine hK _ ?_
   clear hK K
   refine awp_sub (sub_keep [4]) ?_
   simp only [go_sem]
   refine awp_ret ?_
   simp only [go_sem]
   rfl
 · have hp : 0 < l.length := List.length_pos_iff.2 h
   have c : ((l.length : Int) == 0) = false := by simp; omega
   have hm : i % l.length < l.length := Nat.mod_lt _ hp
   obtain ⟨x, hx⟩ := opt_of_lt hm
   have ht : (i : Int).tmod (l.length : Int) = ((i % l.length : Nat) : Int) := (Int.ofNat_tmod _ _).symm
   repeat refine awp_seq ?_
   refine awp_reg (by kernel_rfl) fun K hK => ?_
   simp only [go_sem, c]
   (try simp (disch := omega) only [wrapI])
   intros
   repeat first | intro _ | refine ⟨(by omega), ?_⟩ | refine ⟨⟨by omega, by omega⟩, ?_⟩
   refine hK _ ?_
   clear hK K
   refine awp_sub (sub_keep [0, 1, 7]) ?_
   simp only [go_sem]
   repeat refine awp_seq ?_
   refine awp_cond rfl (fun hc => ?_) (fun hc => ?_) <;> (try simp only [go_sem] at hc)
   refine awp_skip ?_
   try simp only [go_sem]
   repeat refine awp_seq ?_
   refine awp_reg (by kernel_rfl) fun K hK => ?_
   simp only [go_sem, ht, hx, hm]
   (try simp (disch := omega) only [wrapI])
   intros
   refine ⟨by omega, ?_⟩
   repeat first | intro _ | refine ⟨(by omega), ?_⟩ | refine ⟨⟨by omega, by omega⟩, ?_⟩
   refine hK _ ?_
   clear hK K
   refine awp_sub (sub_keep [4]) ?_
   simp only [go_sem]
   refine awp_ret ?_
   simp only [go_sem]
   simp [byteL, h, List.getD_eq_getElem?_getD, hx]
theorem to_ok (a b : Int) : ACalls Try.prog 38 [i64 a, i64 b] (.ag [i64 a, i64 b]) := by
 refine acalls_st (rs := [.ag [i64 a, i64 b]]) [.cell 4 46] Try.func38 rfl (by kernel_rfl) Try.ntmps38 rfl (by simp) rfl fun C vs => ?_
 repeat refine awp_seq ?_
 refine awp_reg (by kernel_rfl) fun K hK => ?_
 simp only [go_sem]
 (try simp (disch := omega) only [wrapI])
 repeat first | intro _ | refine ⟨(by omega), ?_⟩ | refine ⟨⟨by omega, by omega⟩, ?_⟩
 refine hK _ ?_
 clear hK K
 refine awp_sub (sub_keep [0, 1, 2, 3, 4]) ?_
 simp only [go_sem]
 repeat refine awp_seq ?_
 refine awp_reg (by kernel_rfl) fun K hK => ?_
 simp only [go_sem]
 (try simp (disch := omega) only [wrapI])
 repeat first | intro _ | refine ⟨(by omega), ?_⟩ | refine ⟨⟨by omega, by omega⟩, ?_⟩
 refine hK _ ?_
 clear hK K
 refine awp_sub (sub_keep [4]) ?_
 simp only [go_sem]
 refine awp_ret ?_
 simp only [go_sem]
def beds13 : List Int := [0, 101, 105, 112, 120, 125, 205, 220, 225, 301, 305, 312, 320]
theorem beds_ok : ACalls Try.prog 37 [] (ints beds13) := by
 refine acalls_st (rs := [ints beds13]) [.tmp 0] Try.func37 rfl (by kernel_rfl) Try.ntmps37 rfl (by simp) rfl fun C vs => ?_
 repeat refine awp_seq ?_
 refine awp_reg (by kernel_rfl) fun K hK => ?_
 simp only [go_sem]
 (try simp (disch := omega) only [wrapI])
 repeat first | intro _ | refine ⟨(by omega), ?_⟩ | refine ⟨⟨by omega, by omega⟩, ?_⟩
 refine hK _ ?_
 clear hK K
 refine awp_sub (sub_keep []) ?_
 simp only [go_sem]
 repeat refine awp_seq ?_
 refine awp_reg (by kernel_rfl) fun K hK => ?_
 simp only [go_sem]
 (try simp (disch := omega) only [wrapI])
 repeat first | intro _ | refine ⟨(by omega), ?_⟩ | refine ⟨⟨by omega, by omega⟩, ?_⟩
 refine hK _ ?_
 clear hK K
 refine awp_sub (sub_keep [0]) ?_
 simp only [go_sem]
 refine awp_ret ?_
 simp only [go_sem]
 simp [beds13]
theorem visitsM_ok (l : List Vi) (hl : l.length ≤ 1010) (hb : ∀ v ∈ l, v.ds.length ≤ 5) : MCalls Try.prog 27 [(1000, .arr 52 2 (l.map viC))] [(1000, .arr 52 2 (l.map viC))] [.os 1000 0 2 0 l.length] (.r (visR l)) := by
 refine mcalls_st (n := 29) (rs := [.r (visR l)]) _ _ [.tmp 2] Try.func27 rfl (by kernel_rfl) Try.ntmps27 rfl (by simp) rfl rfl fun C => ?_
 repeat refine awp_seq ?_
 refine awp_reg (by kernel_rfl) fun K hK => ?_
 simp only [go_sem]
 (try simp (disch := omega) only [wrapI])
 repeat first | intro _ | refine ⟨(by omega), ?_⟩ | refine ⟨⟨by omega, by omega⟩, ?_⟩
 refine hK _ ?_
 clear hK K
 refine awp_sub (sub_keep [0]) ?_
 simp only [go_sem]
 repeat refine awp_seq ?_
 refine awp_reg (by kernel_rfl) fun K hK => ?_
 simp only [go_sem]
 (try simp (disch := omega) only [wrapI])
 repeat first | intro _ | refine ⟨(by omega), ?_⟩ | refine ⟨⟨by omega, by omega⟩, ?_⟩
 refine hK _ ?_
 clear hK K
 refine awp_sub (sub_own 3 30 52 2 (by omega) rfl) ?_
 refine awp_sub (sub_keep [0, 3]) ?_
 simp only [go_sem]
 repeat refine awp_seq ?_
 refine awp_reg (by kernel_rfl) fun K hK => ?_
 simp only [go_sem]
 (try simp (disch := omega) only [wrapI])
 repeat first | intro _ | refine ⟨(by omega), ?_⟩ | refine ⟨⟨by omega, by omega⟩, ?_⟩
 refine hK _ ?_
 clear hK K
 refine awp_sub (sub_keep [0, 3, 4]) ?_
 simp only [go_sem]
 repeat refine awp_seq ?_
 refine awp_block ?_
 refine awp_uptoV (n := 29) l.length (fun i vs => [(0, .os 1000 (vs 1000) 2 0 l.length), (3, .os 30 (vs 30) 2 0 i), (4, .r (i64 i))])
  (fun i vs => [(30, .arr 52 2 ((l.take i).map viC)), (1000, .arr 52 2 (l.map viC))]) (fun _ => True) 0 (fitV_of [] ?_ ?_) (Nat.zero_le _) trivial ?_
 · try simp only [go_sem]
 · try simp only [go_sem]
 · intro i vs hi _
   repeat refine awp_seq ?_
   refine awp_reg (by kernel_rfl) fun K hK => ?_
   simp only [go_sem]
   (try simp (disch := omega) only [wrapI])
   repeat first | intro _ | refine ⟨(by omega), ?_⟩ | refine ⟨⟨by omega, by omega⟩, ?_⟩
   refine hK _ ?_
   clear hK K
   refine awp_sub (sub_keep [0, 3, 4, 9]) ?_
   simp only [go_sem]
   repeat refine awp_seq ?_
   refine awp_cond rfl (fun hc => ?_) (fun hc => ?_) <;> (try simp only [go_sem] at hc)
   · skip
     have hci := hc
     obtain ⟨v, hx⟩ := opt_of_lt hci
     have hv5 := hb v (mem_of_opt hx)
     have hlt : (l.take i).length = i := by rw [List.length_take]; omega
     refine awp_skip ?_
     try simp only [go_sem]
     repeat refine awp_seq ?_
     refine awp_block ?_
     repeat refine awp_seq ?_
     refine awp_dregC [19] [(0, some 1000), (3, some 30), (4, none)] follows (by decide +kernel) (by kernel_rfl) (by simp only [keysOk, List.mem_cons, List.not_mem_nil, forall_eq_or_imp, Oc.keyOf, go_sem]; simp) fun K hK => ?_
     simp only [go_sem, hx, hci, hlt]
     (try simp (disch := omega) only [wrapI])
     repeat first | intro _ | refine ⟨(by omega), ?_⟩ | refine ⟨⟨by omega, by omega⟩, ?_⟩
     refine hK _ ?_
     clear hK K
     refine awp_sub (sub_keep [0, 3, 4]) ?_
     simp only [go_sem]
     repeat refine awp_seq ?_
     refine awp_reg (by kernel_rfl) fun K hK => ?_
     simp only [go_sem]
     (try simp (disch := omega) only [wrapI])
     repeat first | intro _ | refine ⟨(by omega), ?_⟩ | refine ⟨⟨by omega, by omega⟩, ?_⟩
     refine hK _ ?_
     clear hK K
     try simp only [go_sem]
     refine ⟨hci, fitV_of [] ?_ ?_⟩
     · try simp only [go_sem]
     · try simp only [go_sem]
       rw [take_of_opt hx]
       simp
   · skip
     refine awp_exit ?_
     simp only [go_sem]
     have : i = l.length := by omega
     subst this
     refine awp_sub (sub_frz (ty := 52) (sz := 2) (off := 0) (m := l.length) (es := l.map viC) 3 30 (by omega) (by try simp only [go_sem]) (by try simp only [go_sem]; rw [List.take_length]) (by simp)) ?_
     repeat refine awp_seq ?_
     refine awp_reg (by kernel_rfl) fun K hK => ?_
     simp only [go_sem]
     (try simp (disch := omega) only [wrapI])
     repeat first | intro _ | refine ⟨(by omega), ?_⟩ | refine ⟨⟨by omega, by omega⟩, ?_⟩
     refine hK _ ?_
     clear hK K
     refine awp_sub (sub_keep [2]) ?_
     simp only [go_sem]
     refine awp_ret ?_
     simp only [go_sem]
end Go.Proofs.Ytgkejinoaommeaa

namespace Go.Proofs.Ytgkejinoaommeaa
open Go Go.Oc
set_option linter.unusedSimpArgs false
set_option linter.unusedVariables false
set_option maxRecDepth 8000
structure BsI (k : Nat) (bs : List Int) : Prop where
 asc : bs.Pairwise (· < ·)
 mem : ∀ b ∈ bs, b ∈ beds13.take k
 len : bs.length ≤ 10
 ne : k = 13 → bs ≠ []
theorem beds13_lt {k : Nat} {b c : Int} (hk : beds13[k]? = some c) (hb : b ∈ beds13.take k) : b < c := by
 have h : ∀ k, k < 13 → ∀ b ∈ beds13.take k, b < beds13.getD k 0 := by decide
 obtain ⟨hk1, hk2⟩ := List.getElem?_eq_some_iff.1 hk
 have := h k hk1 b hb
 rwa [List.getD_eq_getElem?_getD, hk] at this
theorem bsI_add {k : Nat} {bs : List Int} {c : Int} (h : BsI k bs) (hl : bs.length < 10) (hk : beds13[k]? = some c) : BsI (k + 1) (bs ++ [c]) where
 asc := by
  rw [List.pairwise_append]
  refine ⟨h.asc, by simp, fun a ha b hb => ?_⟩
  rw [List.mem_singleton.1 hb]
  exact beds13_lt hk (h.mem a ha)
 mem := fun b hb => by
  rw [take_of_opt hk]
  rcases List.mem_append.1 hb with hb | hb
  · exact List.mem_append_left _ (h.mem b hb)
  · exact List.mem_append_right _ hb
 len := by simp; omega
 ne := fun _ => by simp
theorem bsI_skip {k : Nat} {bs : List Int} (h : BsI k bs) (hk : k < 13) (h12 : ¬ (k = 12 ∧ bs = [])) : BsI (k + 1) bs where
 asc := h.asc
 mem := fun b hb => by
  have := h.mem b hb
  have e : beds13.take k = (beds13.take (k + 1)).take k := by rw [List.take_take]; congr 1; omega
  rw [e] at this
  exact List.mem_of_mem_take this
 len := h.len
 ne := fun e => fun e2 => h12 ⟨by omega, e2⟩
theorem bsI_ok {k : Nat} {bs : List Int} (h : BsI k bs) (he : ¬ (k < 13 ∧ bs.length < 10)) (hk : k ≤ 13) : BsOk bs where
 asc := h.asc
 ne := by
  rcases Nat.lt_or_ge k 13 with c | c
  · intro e; subst e; exact he ⟨c, by simp⟩
  · exact h.ne (by omega)
 len := h.len
 bed := fun b hb => by
  have := List.mem_of_mem_take (h.mem b hb)
  have hall : ∀ b ∈ beds13, (b = 0 ∨ bedOk b = true) ∧ 0 ≤ scoreOf b ∧ scoreOf b ≤ 60 := by decide
  exact hall b this
theorem beds13_le {b : Int} (h : b ∈ beds13) : 0 ≤ b ∧ b ≤ 499 := by
 have : ∀ b ∈ beds13, 0 ≤ b ∧ b ≤ 499 := by decide
 exact this b h
abbrev zb (bs : List Int) : List Bd := bs.map fun b => ⟨b, 0, 0⟩
theorem eqS46b : eqN Try.prog 46 = some 2 := by kernel_rfl
def cntN (N : Nat) (L : List Th) : List Int := (List.range N).map (cntK L)
theorem cntN_len (N : Nat) (L : List Th) : (cntN N L).length = N := by simp [cntN]
theorem cntN_getD {N : Nat} {L : List Th} {k : Nat} (h : k < N) : (cntN N L).getD k 0 = cntK L k := by simp [cntN, List.getD_eq_getElem?_getD, List.getElem?_map, List.getElem?_range h]
theorem cntN_step {N : Nat} {L : List Th} {p : Th} (hN : N ≤ 10) (h : p.x < N ∧ p.y < N ∧ p.z < N) : incT (incT (incT (cntN N L) p.x) p.y) p.z = cntN N (L ++ [p]) := by
 refine ext_getD (n := N) (by simp [incT_len, cntN_len]) (cntN_len _ _) fun k hk => ?_
 rw [getD_incT (by simp [incT_len, cntN_len]; exact h.2.2), getD_incT (by simp [incT_len, cntN_len]; exact h.2.1), getD_incT (by rw [cntN_len]; exact h.1), cntN_getD hk, cntN_getD hk]
 unfold cntK
 rw [List.map_append, sum_app]
 simp only [List.map_cons, List.map_nil, List.sum_cons, List.sum_nil, Int.add_zero, tK, tal]
 rw [getD_tally3 (by omega) (by omega) (by omega) (by omega)]
 omega
theorem tK_le (k : Nat) (hk : k < 10) (p : Th) : 0 ≤ tK k p ∧ tK k p ≤ 3 := (tally3_small p.x p.y p.z).getD hk
theorem cntK_le {L : List Th} {k : Nat} (hk : k < 10) : 0 ≤ cntK L k ∧ cntK L k ≤ 3 * L.length :=
 ⟨sum_nonneg fun p _ => (tK_le k hk p).1, sum_bound fun p _ => (tK_le k hk p).2⟩
def thA (N : Nat) (ks : List Int) (ds : List (Int × Int × Int)) (i : Nat) : Th :=
 ⟨(ds.getD i (0, 0, 0)).1.toNat % N, (ds.getD i (0, 0, 0)).2.1.toNat % N, (ds.getD i (0, 0, 0)).2.2.toNat % N, (byteL ks i).tmod 3 == 0⟩
def thL (N : Nat) (ks : List Int) (ds : List (Int × Int × Int)) (i : Nat) : List Th := (List.range i).map (thA N ks ds)
theorem thL_len (N : Nat) (ks : List Int) (ds : List (Int × Int × Int)) (i : Nat) : (thL N ks ds i).length = i := by simp [thL]
theorem thL_snoc (N : Nat) (ks : List Int) (ds : List (Int × Int × Int)) (i : Nat) : thL N ks ds (i + 1) = thL N ks ds i ++ [thA N ks ds i] := by simp [thL, List.range_succ]
theorem thA_lt {N : Nat} (h : 0 < N) (ks : List Int) (ds : List (Int × Int × Int)) (i : Nat) : (thA N ks ds i).x < N ∧ (thA N ks ds i).y < N ∧ (thA N ks ds i).z < N := ⟨Nat.mod_lt _ h, Nat.mod_lt _ h, Nat.mod_lt _ h⟩
def cntP (c : List Int) (xs : List Nat) : List Int := xs.foldl incT c
theorem cntP_len : ∀ (xs : List Nat) (c : List Int), (cntP c xs).length = c.length
 | [], _ => rfl
 | x :: xs, c => by rw [cntP, List.foldl_cons]; exact (cntP_len xs (incT c x)).trans (incT_len c x)
theorem cntP_le {b : Int} : ∀ (xs : List Nat) (c : List Int), (∀ v ∈ c, 0 ≤ v ∧ v ≤ b) → ∀ v ∈ cntP c xs, 0 ≤ v ∧ v ≤ b + xs.length
 | [], c, h, v, hv => by simpa using h v hv
 | x :: xs, c, h, v, hv => by
   rw [cntP, List.foldl_cons] at hv
   have h1 : ∀ v ∈ incT c x, 0 ≤ v ∧ v ≤ b + 1 := fun v hv => by
    unfold incT at hv
    rcases List.mem_or_eq_of_mem_set hv with hv | rfl
    · have := h v hv; omega
    · rw [List.getD_eq_getElem?_getD]
      cases hq : c[x]? with
      | none =>
        rw [List.set_eq_of_length_le (by rw [List.getElem?_eq_none_iff] at hq; exact hq)] at hv
        have := h _ hv
        rw [List.getD_eq_getElem?_getD, hq] at this
        simp at this ⊢; omega
      | some y => have := h y (mem_of_opt hq); simp; omega
   have := cntP_le xs (incT c x) h1 v hv
   rw [List.length_cons]; omega
def totP (bs : List Int) (xs : List Nat) : Int := (xs.map fun x => scoreOf (bs.getD x 0)).sum
set_option maxHeartbeats 2000000
theorem sets_law (which : Int) (ds : List (Int × Int × Int)) (ks : List Int) (hd : ∀ d ∈ ds, (0 ≤ d.1 ∧ d.1 ≤ 255) ∧ (0 ≤ d.2.1 ∧ d.2.1 ≤ 255) ∧ 0 ≤ d.2.2 ∧ d.2.2 ≤ 255) (hks : ∀ x ∈ ks, 0 ≤ x ∧ x ≤ 255) (hw : 0 ≤ which ∧ which ≤ 65535) :
 ACalls Try.prog 8 [.it .u16 which, .sl 3 (ds.map fun d => [.it .u8 d.1, .it .u8 d.2.1, .it .u8 d.2.2]), u8s ks] (.bo true) := by
 refine acalls_st (rs := [.bo true]) [.tmp 6] Try.func8 rfl (by kernel_rfl) Try.ntmps8 rfl (by simp) rfl fun C vs => ?_
 repeat refine awp_seq ?_
 refine awp_reg (by kernel_rfl) fun K hK => ?_
 simp only [go_sem]
 (try simp (disch := omega) only [wrapI])
 repeat first | intro _ | refine ⟨(by omega), ?_⟩ | refine ⟨⟨by omega, by omega⟩, ?_⟩
 refine hK _ ?_
 clear hK K
 refine awp_sub (sub_keep [0, 1, 2]) ?_
 simp only [go_sem]
 repeat refine awp_seq ?_
 refine awp_reg (by kernel_rfl) fun K hK => ?_
 simp only [go_sem]
 (try simp (disch := omega) only [wrapI])
 refine xcall_eq (beds_ok) rfl (by simp only [go_sem, i64, ints]) (by simp only [go_sem, i64, ints]) (by first | exact .inl rfl | exact .inr rfl) ?_
 (try simp only [go_sem])
 (try simp (disch := omega) only [wrapI])
 repeat first | intro _ | refine ⟨(by omega), ?_⟩ | refine ⟨⟨by omega, by omega⟩, ?_⟩
 refine hK _ ?_
 clear hK K
 refine awp_sub (sub_keep [0, 1, 2, 7, 8]) ?_
 simp only [go_sem]
 repeat refine awp_seq ?_
 refine awp_reg (by kernel_rfl) fun K hK => ?_
 simp only [go_sem]
 (try simp (disch := omega) only [wrapI])
 repeat first | intro _ | refine ⟨(by omega), ?_⟩ | refine ⟨⟨by omega, by omega⟩, ?_⟩
 refine hK _ ?_
 clear hK K
 refine awp_sub (sub_keep [0, 1, 2, 7, 8, 9]) ?_
 simp only [go_sem]
 repeat refine awp_seq ?_
 refine awp_block ?_
 refine awp_sub (sub_ownB 7 1 57 67 3 (by omega) (by omega) rfl rfl) ?_
 try simp only [go_sem]
 obtain ⟨D, hD⟩ : ∃ D, D = RV.sl 3 (ds.map fun d => [.it .u8 d.1, .it .u8 d.2.1, .it .u8 d.2.2]) := ⟨_, rfl⟩
 obtain ⟨B13, hB13⟩ : ∃ B, B = beds13 := ⟨_, rfl⟩
 rw [← hD, ← hB13]
 refine awp_whileV (n := 400) (fun (y : Nat × List Int) vs => [(0, .r (.it .u16 which)), (1, .r D), (2, .r (u8s ks)), (7, .pt 7 (vs 7) 0), (8, .r (ints B13)), (9, .r (i64 y.1))])
  (fun y vs => [(7, .box [.r (i64 320), .os 57 (vs 57) 3 0 y.2.length]), (57, .arr 67 3 ((zb y.2).map bedR))]) (fun y => y.1 ≤ 13 ∧ BsI y.1 y.2) (fun y => 13 - y.1) (0, []) (fitV_of [] ?_ ?_) ⟨by omega, ⟨by simp, by simp, by simp, by simp⟩⟩ ?_
 · try simp only [go_sem]
 · try simp only [go_sem]
 · rintro ⟨k, bs⟩ vs ⟨hk, hI⟩
   simp only at hk hI
   have hzl : (zb bs).length = bs.length := by simp
   by_cases hgo : k < 13 ∧ bs.length < 10
   · obtain ⟨hk13, hl10⟩ := hgo
     have c1 : decide ((k : Int) < 13) = true := by simp; omega
     have c2 : decide ((bs.length : Int) < 10) = true := by simp; omega
     repeat refine awp_seq ?_
     refine awp_reg (by kernel_rfl) fun K hK => ?_
     simp only [go_sem, c1, c2]
     (try simp (disch := omega) only [wrapI])
     repeat first | intro _ | refine ⟨(by omega), ?_⟩ | refine ⟨⟨by omega, by omega⟩, ?_⟩
     refine hK _ ?_
     clear hK K
     refine awp_sub (sub_keep [0, 1, 2, 7, 8, 9, 53]) ?_
     simp only [go_sem]
     repeat refine awp_seq ?_
     refine awp_cond rfl (fun hc => ?_) (fun hc => ?_) <;> (try simp only [go_sem] at hc)
     refine awp_skip ?_
     try simp only [go_sem]
     repeat refine awp_seq ?_
     refine awp_block ?_
     obtain ⟨c, hkc⟩ := opt_of_lt (l := B13) (i := k) (by rw [hB13]; exact hk13)
     have hkc' : beds13[k]? = some c := by rw [← hB13]; exact hkc
     have hkl : k < B13.length := by rw [hB13]; exact hk13
     repeat refine awp_seq ?_
     refine awp_joinV (n := 400) (fun (b : Bool) vs => [(0, .r (.it .u16 which)), (1, .r D), (2, .r (u8s ks)), (7, .pt 7 (vs 7) 0), (8, .r (ints B13)), (9, .r (i64 k)), (71, .r (.bo b))])
      (fun _ vs => [(7, .box [.r (i64 320), .os 57 (vs 57) 3 0 bs.length]), (57, .arr 67 3 ((zb bs).map bedR))]) (fun b => b = false → ¬ (k = 12 ∧ bs = [])) (fun _ h => h) ?_ ?_
     · repeat refine awp_seq ?_
       refine awp_reg (by kernel_rfl) fun K hK => ?_
       simp only [go_sem]
       (try simp (disch := omega) only [wrapI])
       refine ⟨fun _ => ⟨fun _ _ => ?_, fun h12 => ?_⟩, fun _ => ?_⟩
       · refine hK _ ?_
         try simp only [go_sem]
         exact ⟨((bs.length : Int) == 0), (fun h e => by rw [e.2] at h; simp at h), fitV_of [] (by try simp only [go_sem]) (by try simp only [go_sem])⟩
       · refine hK _ ?_
         try simp only [go_sem]
         exact ⟨false, (fun _ e => h12 (by omega)), fitV_of [] (by try simp only [go_sem]) (by try simp only [go_sem])⟩
       · refine hK _ ?_
         try simp only [go_sem]
         exact ⟨true, (fun h => by cases h), fitV_of [] (by try simp only [go_sem]) (by try simp only [go_sem])⟩
     intro b vs hb
     cases b
     · have h12 := hb rfl
       repeat refine awp_seq ?_
       refine awp_cond rfl (fun hc => ?_) (fun hc => ?_) <;> (try simp only [go_sem] at hc)
       refine awp_skip ?_
       try simp only [go_sem]
       repeat refine awp_seq ?_
       refine awp_reg (by kernel_rfl) fun K hK => ?_
       simp only [go_sem]
       (try simp (disch := omega) only [wrapI])
       repeat first | intro _ | refine ⟨(by omega), ?_⟩ | refine ⟨⟨by omega, by omega⟩, ?_⟩
       refine hK _ ?_
       clear hK K
       try simp only [go_sem]
       refine ⟨(k + 1, bs), ⟨by omega, bsI_skip hI hk13 h12⟩, by simp only; omega, fitV_of [] ?_ ?_⟩
       · try simp only [go_sem]
       · try simp only [go_sem]
     · repeat refine awp_seq ?_
       refine awp_cond rfl (fun hc => ?_) (fun hc => ?_) <;> (try simp only [go_sem] at hc)
       repeat refine awp_seq ?_
       refine awp_dreg3 [(7, some 7), (8, none), (9, none)] [7] follows (by decide +kernel) (by kernel_rfl) (by simp only [keysOk, List.mem_cons, List.not_mem_nil, forall_eq_or_imp, Oc.keyOf, go_sem]; simp) (by intro k hk; simp only [List.mem_cons, List.not_mem_nil, or_false] at hk; first | (subst hk; exact ⟨_, rfl⟩) | (rcases hk with rfl | rfl <;> exact ⟨_, rfl⟩) | (rcases hk with rfl | rfl | rfl <;> exact ⟨_, rfl⟩)) fun K hK => ?_
       simp only [go_sem, hkc, hkl, hzl, List.length_map]
       (try simp (disch := omega) only [wrapI])
       repeat first | intro _ | refine ⟨(by omega), ?_⟩ | refine ⟨⟨by omega, by omega⟩, ?_⟩
       refine hK _ ?_
       clear hK K
       refine awp_sub (sub_keep [0, 1, 2, 7, 8, 9]) ?_
       simp only [go_sem]
       repeat refine awp_seq ?_
       refine awp_reg (by kernel_rfl) fun K hK => ?_
       simp only [go_sem]
       (try simp (disch := omega) only [wrapI])
       repeat first | intro _ | refine ⟨(by omega), ?_⟩ | refine ⟨⟨by omega, by omega⟩, ?_⟩
       refine hK _ ?_
       clear hK K
       try simp only [go_sem]
       refine ⟨(k + 1, bs ++ [c]), ⟨by omega, bsI_add hI hl10 hkc'⟩, by simp only; omega, fitV_of [] ?_ ?_⟩
       · try simp only [go_sem]
       · try simp only [go_sem]
         simp [bedR]
   · skip
     have hB := bsI_ok hI hgo hk
     have hle : ∀ b ∈ bs, 0 ≤ b ∧ b ≤ 499 := fun b hb => beds13_le (List.mem_of_mem_take (hI.mem b hb))
     have hgoC : (decide ((k : Int) < 13) = false) ∨ (decide ((k : Int) < 13) = true ∧ decide ((bs.length : Int) < 10) = false) := by
      by_cases q : k < 13
      · refine .inr ⟨by simp; omega, by simp; omega⟩
      · exact .inl (by simp; omega)
     repeat refine awp_seq ?_
     refine awp_joinV (n := 400) (fun (_ : Unit) vs => [(0, .r (.it .u16 which)), (1, .r D), (2, .r (u8s ks)), (7, .pt 7 (vs 7) 0), (53, .r (.bo false))])
      (fun _ vs => [(7, .box [.r (i64 320), .os 57 (vs 57) 3 0 bs.length]), (57, .arr 67 3 ((zb bs).map bedR))]) (fun _ => True) (fun _ h => h) ?_ ?_
     · rcases hgoC with c1 | ⟨c1, c2⟩
       · repeat refine awp_seq ?_
         refine awp_reg (by kernel_rfl) fun K hK => ?_
         simp only [go_sem, c1]
         (try simp (disch := omega) only [wrapI])
         repeat first | intro _ | refine ⟨(by omega), ?_⟩ | refine ⟨⟨by omega, by omega⟩, ?_⟩
         refine hK _ ?_
         clear hK K
         try simp only [go_sem]
         exact ⟨(), fitV_of [] (by try simp only [go_sem]) (by try simp only [go_sem])⟩
       · repeat refine awp_seq ?_
         refine awp_reg (by kernel_rfl) fun K hK => ?_
         simp only [go_sem, c1, c2]
         (try simp (disch := omega) only [wrapI])
         repeat first | intro _ | refine ⟨(by omega), ?_⟩ | refine ⟨⟨by omega, by omega⟩, ?_⟩
         refine hK _ ?_
         clear hK K
         try simp only [go_sem]
         exact ⟨(), fitV_of [] (by try simp only [go_sem]) (by try simp only [go_sem])⟩
     intro _ vs _
     repeat refine awp_seq ?_
     refine awp_cond rfl (fun hc => ?_) (fun hc => ?_) <;> (try simp only [go_sem] at hc)
     refine awp_exit ?_
     simp only [go_sem]
     refine awp_sub (sub_frzB 7 1 57 (by omega) (by omega) rfl rfl rfl (by simp)) ?_
     have etl : List.take bs.length (List.map bedR (zb bs)) = List.map bedR (zb bs) := List.take_of_length_le (by simp)
     simp only [go_sem, List.drop_zero, List.set_cons_succ, List.set_cons_zero, etl]
     refine awp_sub (sub_frzP 7 7 [i64 320, bedsR (zb bs)] (by omega) rfl rfl) ?_
     refine awp_sub (sub_keep [0, 1, 2, 7]) ?_
     simp only [go_sem]
     by_cases hlen : ds.length < 1 ∨ 30 < ds.length
     · have hcp : ACalls Try.prog 26 [.ag [i64 320, bedsR (zb bs)]] (.ag [i64 320, bedsR (zb bs)]) := aim_ok (aimB bs) (by simp [aimB]; have := hB.len; omega)
       have hwA : WfA (aimB bs) := ⟨⟨by simp [aimB], by simp [aimB]⟩, fun x hx => by
        obtain ⟨b, hb, rfl⟩ := List.mem_map.1 hx
        have := hle b hb
        refine ⟨⟨by simp only; omega, by simp only; omega⟩, ⟨by simp, by simp⟩, ⟨by simp, by simp⟩⟩⟩
       have hm : (aimB bs).beds.map (·.b) = bs := by simp [aimB, List.map_map, Function.comp_def]
       have hl : (aimB bs).beds.length = bs.length := by simp [aimB]
       have hne : (aimB bs).beds.isEmpty = false := by
        have := hB.ne
        cases bs with
        | nil => exact absurd rfl this
        | cons => rfl
       have hg : (bedOk (aimB bs).at_ && !(aimB bs).beds.isEmpty && seqOk none (aimB bs).beds) = true := by
        rw [hne, seqOk_bs hB hm]; rfl
       have hf := fit_ok (aimB bs) [] hwA
       have hBl := hB.len
       rw [show fitV (aimB bs) [] = (⟨0, []⟩, 0, 0, 7) by rw [fitV, if_neg (by omega), if_neg (by rw [hg]; decide), if_pos rfl]] at hf
       have hf : ACalls Try.prog 28 [.ag [i64 320, bedsR (zb bs)], .sl 2 []] (.tu [.ag [i64 0, .sl 3 []], i64 0, i64 0, i64 7]) := hf
       repeat refine awp_seq ?_
       refine awp_joinV (n := 400) (fun (_ : Unit) vs => [(7, .r (.rp [i64 320, bedsR (zb bs)])), (89, .r (.bo true))]) (fun _ vs => []) (fun _ => True) (fun _ h => h) ?_ ?_
       · rw [hD]
         by_cases q : ds.length < 1
         · have c1 : decide ((ds.length : Int) < 1) = true := by simp; omega
           repeat refine awp_seq ?_
           refine awp_reg (by kernel_rfl) fun K hK => ?_
           simp only [go_sem, c1]
           (try simp (disch := omega) only [wrapI])
           intros
           repeat first | intro _ | refine ⟨(by omega), ?_⟩ | refine ⟨⟨by omega, by omega⟩, ?_⟩
           refine hK _ ?_
           clear hK K
           try simp only [go_sem]
           exact ⟨(), fitV_of [] (by try simp only [go_sem]) (by try simp only [go_sem])⟩
         · have c1 : decide ((ds.length : Int) < 1) = false := by simp; omega
           have c2 : decide ((30 : Int) < (ds.length : Int)) = true := by simp; omega
           repeat refine awp_seq ?_
           refine awp_reg (by kernel_rfl) fun K hK => ?_
           simp only [go_sem, c1, c2]
           (try simp (disch := omega) only [wrapI])
           intros
           repeat first | intro _ | refine ⟨(by omega), ?_⟩ | refine ⟨⟨by omega, by omega⟩, ?_⟩
           refine hK _ ?_
           clear hK K
           try simp only [go_sem]
           exact ⟨(), fitV_of [] (by try simp only [go_sem]) (by try simp only [go_sem])⟩
       intro _ vs _
       repeat refine awp_seq ?_
       refine awp_cond rfl (fun hc => ?_) (fun hc => ?_) <;> (try simp only [go_sem] at hc)
       repeat refine awp_seq ?_
       refine awp_reg (by kernel_rfl) fun K hK => ?_
       simp only [go_sem]
       (try simp (disch := omega) only [wrapI])
       refine xcall_eq (hcp) rfl (by simp only [go_sem, i64, ints]) (by simp only [go_sem, i64, ints]) (by first | exact .inl rfl | exact .inr rfl) ?_
       (try simp only [go_sem])
       (try simp (disch := omega) only [wrapI])
       refine .inl (acall_of (hf) rfl (by simp only [go_sem, i64, ints]) (by simp only [go_sem, i64, ints]; try simp) (by first | exact .inl rfl | exact .inr rfl) ?_)
       (try simp only [go_sem])
       (try simp (disch := omega) only [wrapI])
       repeat first | intro _ | refine ⟨(by omega), ?_⟩ | refine ⟨⟨by omega, by omega⟩, ?_⟩
       refine hK _ ?_
       clear hK K
       refine awp_sub (sub_keep [13]) ?_
       simp only [go_sem]
       repeat refine awp_seq ?_
       refine awp_reg (by kernel_rfl) fun K hK => ?_
       simp only [go_sem, beq_self_eq_true]
       (try simp (disch := omega) only [wrapI])
       refine xcall_eq (known14_ok) rfl (by simp only [go_sem, i64, ints]) (by simp only [go_sem, i64, ints]) (by first | exact .inl rfl | exact .inr rfl) ?_
       (try simp only [go_sem])
       (try simp (disch := omega) only [wrapI])
       repeat first | intro _ | refine ⟨(by omega), ?_⟩ | refine ⟨⟨by omega, by omega⟩, ?_⟩
       refine hK _ ?_
       clear hK K
       refine awp_sub (sub_keep [6]) ?_
       simp only [go_sem]
       refine awp_ret ?_
       simp only [go_sem]
     have hl1 : 1 ≤ ds.length := by omega
     have hl30 : ds.length ≤ 30 := by omega
     have c1 : decide ((ds.length : Int) < 1) = false := by simp; omega
     have c2 : decide ((30 : Int) < (ds.length : Int)) = false := by simp; omega
     rw [hD]
     repeat refine awp_seq ?_
     refine awp_reg (by kernel_rfl) fun K hK => ?_
     simp only [go_sem, c1, c2]
     (try simp (disch := omega) only [wrapI])
     intros
     repeat first | intro _ | refine ⟨(by omega), ?_⟩ | refine ⟨⟨by omega, by omega⟩, ?_⟩
     refine hK _ ?_
     clear hK K
     refine awp_sub (sub_keep [0, 1, 2, 7, 89]) ?_
     simp only [go_sem]
     repeat refine awp_seq ?_
     refine awp_cond rfl (fun hc => ?_) (fun hc => ?_) <;> (try simp only [go_sem] at hc)
     refine awp_skip ?_
     try simp only [go_sem]
     clear hI hgo hgoC hB13 hk
     obtain ⟨N, hNe⟩ : ∃ N, N = bs.length := ⟨_, rfl⟩
     have hN1 : 1 ≤ N := by
      have := List.length_pos_iff.2 hB.ne
      omega
     have hN10 : N ≤ 10 := by have := hB.len; omega
     have hzl : (zb bs).length = N := by simp [hNe]
     have hzl2 : bs.length = N := hNe.symm
     repeat refine awp_seq ?_
     refine awp_reg (by kernel_rfl) fun K hK => ?_
     simp only [go_sem, hzl2]
     (try simp (disch := omega) only [wrapI])
     repeat first | intro _ | refine ⟨(by omega), ?_⟩ | refine ⟨⟨by omega, by omega⟩, ?_⟩
     refine hK _ ?_
     clear hK K
     refine awp_sub (sub_own 15 115 52 2 (by omega) rfl) ?_
     try simp only [go_sem]
     refine awp_sub (sub_own 16 116 52 2 (by omega) rfl) ?_
     try simp only [go_sem]
     refine awp_sub (sub_ns 17 2 rfl) ?_
     refine awp_sub (sub_keep [1, 2, 7, 14, 15, 16, 17]) ?_
     simp only [go_sem]
     repeat refine awp_seq ?_
     refine awp_reg (by kernel_rfl) fun K hK => ?_
     simp only [go_sem]
     (try simp (disch := omega) only [wrapI])
     repeat first | intro _ | refine ⟨(by omega), ?_⟩ | refine ⟨⟨by omega, by omega⟩, ?_⟩
     refine hK _ ?_
     clear hK K
     refine awp_sub (sub_keep [1, 2, 7, 14, 15, 16, 17, 18]) ?_
     simp only [go_sem]
     repeat refine awp_seq ?_
     refine awp_block ?_
     refine awp_uptoV (n := 400) ds.length (fun i vs => [(1, .r (.sl 3 (ds.map fun d => [.it .u8 d.1, .it .u8 d.2.1, .it .u8 d.2.2]))), (2, .r (u8s ks)), (7, .r (.rp [i64 320, bedsR (zb bs)])), (14, .os 106 (vs 106) 1 0 N), (15, .os 115 (vs 115) 2 0 i), (16, .os 116 (vs 116) 2 0 i), (17, .r (.sl 2 ((visL bs (thL N ks ds i)).reverse.map viC))), (18, .r (i64 i))])
      (fun i vs => [(106, .arr 3 1 ((cntN N (thL N ks ds i)).map fun x => [i64 x])), (115, .arr 52 2 ((visL bs (thL N ks ds i)).map viC)), (116, .arr 52 2 (((thL N ks ds i).map (visF bs)).map viC))]) (fun _ => True) 0 (fitV_of [] ?_ ?_) (Nat.zero_le _) trivial ?_
     · try simp only [go_sem]
       simp [thL, visL]
     · try simp only [go_sem]
       simp [thL, visL, cntN, cntK, List.map_const']
       rw [eq_comm, List.eq_replicate_iff]
       exact ⟨by simp, fun b hb => by obtain ⟨k, _, rfl⟩ := List.mem_map.1 hb; rfl⟩
     · intro i vs hi _
       repeat refine awp_seq ?_
       refine awp_reg (by kernel_rfl) fun K hK => ?_
       simp only [go_sem]
       (try simp (disch := omega) only [wrapI])
       repeat first | intro _ | refine ⟨(by omega), ?_⟩ | refine ⟨⟨by omega, by omega⟩, ?_⟩
       refine hK _ ?_
       clear hK K
       refine awp_sub (sub_keep [1, 2, 7, 14, 15, 16, 17, 18, 113]) ?_
       simp only [go_sem]
       repeat refine awp_seq ?_
       refine awp_cond rfl (fun hc => ?_) (fun hc => ?_) <;> (try simp only [go_sem] at hc)
       · skip
         have hci := hc
         obtain ⟨d, hdi⟩ := opt_of_lt hci
         have hdb := hd d (mem_of_opt hdi)
         obtain ⟨p, hp⟩ : ∃ p, p = thA N ks ds i := ⟨_, rfl⟩
         have hpN := thA_lt (show 0 < N by omega) ks ds i
         have hpx : p.x = d.1.toNat % N ∧ p.y = d.2.1.toNat % N ∧ p.z = d.2.2.toNat % N ∧ p.kn = ((byteL ks i).tmod 3 == 0) := by
          rw [hp]; simp [thA, List.getD_eq_getElem?_getD, hdi]
         rw [← hp] at hpN
         obtain ⟨L, hL⟩ : ∃ L, L = thL N ks ds i := ⟨_, rfl⟩
         have hLs : thL N ks ds (i + 1) = L ++ [p] := by rw [thL_snoc, hL, hp]
         have hLl : L.length = i := by rw [hL, thL_len]
         rw [hLs, ← hL]
         obtain ⟨c0, hc0⟩ : ∃ c, c = cntN N L := ⟨_, rfl⟩
         have hc0l : c0.length = N := by rw [hc0, cntN_len]
         have hc0b : ∀ v ∈ c0, 0 ≤ v ∧ v ≤ 90 := fun v hv => by
          rw [hc0] at hv
          obtain ⟨k, hk, rfl⟩ := List.mem_map.1 hv
          have := cntK_le (L := L) (k := k) (by have := List.mem_range.1 hk; omega)
          omega
         have hcs := cntN_step (L := L) hN10 hpN
         rw [← hc0] at hcs ⊢
         obtain ⟨xs, hxs⟩ : ∃ xs : List Nat, xs = [p.x, p.y, p.z] := ⟨_, rfl⟩
         obtain ⟨ys, hys⟩ : ∃ ys : List Int, ys = [d.1, d.2.1, d.2.2] := ⟨_, rfl⟩
         have hxy : xs = ys.map fun y => y.toNat % N := by rw [hxs, hys, hpx.1, hpx.2.1, hpx.2.2.1]; rfl
         have hysb : ∀ y ∈ ys, 0 ≤ y ∧ y ≤ 255 := by
          rw [hys]; intro y hy
          simp only [List.mem_cons, List.not_mem_nil, or_false] at hy
          rcases hy with rfl | rfl | rfl <;> omega
         have hxsl : xs.length = 3 := by rw [hxs]; rfl
         have hysl : ys.length = 3 := by rw [hys]; rfl
         refine awp_skip ?_
         try simp only [go_sem]
         repeat refine awp_seq ?_
         refine awp_block ?_
         repeat refine awp_seq ?_
         refine awp_reg (by kernel_rfl) fun K hK => ?_
         simp only [go_sem]
         (try simp (disch := omega) only [wrapI])
         repeat first | intro _ | refine ⟨(by omega), ?_⟩ | refine ⟨⟨by omega, by omega⟩, ?_⟩
         refine hK _ ?_
         clear hK K
         refine awp_sub (sub_own 19 119 33 1 (by omega) rfl) ?_
         refine awp_sub (sub_keep [1, 2, 7, 14, 15, 16, 17, 18, 19, 20]) ?_
         simp only [go_sem]
         repeat refine awp_seq ?_
         refine awp_reg (by kernel_rfl) fun K hK => ?_
         simp only [go_sem]
         (try simp (disch := omega) only [wrapI])
         repeat first | intro _ | refine ⟨(by omega), ?_⟩ | refine ⟨⟨by omega, by omega⟩, ?_⟩
         refine hK _ ?_
         clear hK K
         refine awp_sub (sub_keep [1, 2, 7, 14, 15, 16, 17, 18, 19, 20, 21]) ?_
         simp only [go_sem]
         repeat refine awp_seq ?_
         refine awp_block ?_
         refine awp_uptoV (n := 400) 3 (fun k vs => [(1, .r (.sl 3 (ds.map fun d => [.it .u8 d.1, .it .u8 d.2.1, .it .u8 d.2.2]))), (2, .r (u8s ks)), (7, .r (.rp [i64 320, bedsR (zb bs)])), (14, .os 106 (vs 106) 1 0 N), (15, .os 115 (vs 115) 2 0 i), (16, .os 116 (vs 116) 2 0 i), (17, .r (.sl 2 ((visL bs L).reverse.map viC))), (18, .r (i64 i)), (19, .os 119 (vs 119) 1 0 k), (20, .r (i64 (totP bs (xs.take k)))), (21, .r (i64 k))])
          (fun k vs => [(106, .arr 3 1 ((cntP c0 (xs.take k)).map fun x => [i64 x])), (115, .arr 52 2 ((visL bs L).map viC)), (116, .arr 52 2 ((L.map (visF bs)).map viC)), (119, .arr 33 1 (((xs.take k).map fun x => bs.getD x 0).map fun x => [i64 x]))]) (fun k => 0 ≤ totP bs (xs.take k) ∧ totP bs (xs.take k) ≤ 400 * k) 0 (fitV_of [] ?_ ?_) (Nat.zero_le _) ⟨by simp [totP], by simp [totP]⟩ ?_
         · try simp only [go_sem]
           simp [totP]
         · try simp only [go_sem]
           simp [cntP]
         · intro k vs hk ⟨ht0, ht1⟩
           repeat refine awp_seq ?_
           refine awp_reg (by kernel_rfl) fun K hK => ?_
           simp only [go_sem]
           (try simp (disch := omega) only [wrapI])
           repeat first | intro _ | refine ⟨(by omega), ?_⟩ | refine ⟨⟨by omega, by omega⟩, ?_⟩
           refine hK _ ?_
           clear hK K
           refine awp_sub (sub_keep [1, 2, 7, 14, 15, 16, 17, 18, 19, 20, 21, 118]) ?_
           simp only [go_sem]
           repeat refine awp_seq ?_
           refine awp_cond rfl (fun hc => ?_) (fun hc => ?_) <;> (try simp only [go_sem] at hc)
           · have hck : k < 3 := by omega
             obtain ⟨y, hy⟩ := opt_of_lt (l := ys) (i := k) (by omega)
             have hyb := hysb y (mem_of_opt hy)
             obtain ⟨x, hx⟩ : ∃ x, x = y.toNat % N := ⟨_, rfl⟩
             have hxk : xs[k]? = some x := by rw [hxy, List.getElem?_map, hy, hx]; rfl
             have hxN : x < N := by rw [hx]; exact Nat.mod_lt _ (by omega)
             have hdr : List.drop k [RV.it .u8 d.1, RV.it .u8 d.2.1, RV.it .u8 d.2.2] = RV.it .u8 y :: List.drop (k + 1) [RV.it .u8 d.1, RV.it .u8 d.2.1, RV.it .u8 d.2.2] := drop_of_opt (by
              have : [RV.it .u8 d.1, RV.it .u8 d.2.1, RV.it .u8 d.2.2] = ys.map (RV.it .u8) := by rw [hys]; rfl
              rw [this, List.getElem?_map, hy]; rfl)
             have hrem : y.tmod (N : Int) = (x : Int) := by
              obtain ⟨q, hq⟩ := Int.eq_ofNat_of_zero_le hyb.1
              subst hq
              rw [hx]; exact (Int.ofNat_tmod _ _).symm
             have n0 : ¬ (N : Int) = 0 := by omega
             have hzx : (zb bs)[x]? = some ⟨bs.getD x 0, 0, 0⟩ := by
              obtain ⟨b, hb⟩ := opt_of_lt (l := bs) (i := x) (by omega)
              simp [hb, List.getD_eq_getElem?_getD]
             have hbx := hle (bs.getD x 0) (mem_getD (by omega))
             have hsc := score_le hbx.1 hbx.2
             have htk : xs.take (k + 1) = xs.take k ++ [x] := take_of_opt hxk
             have htl : (xs.take k).length = k := by rw [List.length_take]; omega
             have hk3 : (k : Int) < 3 := by omega
             refine awp_skip ?_
             try simp only [go_sem]
             repeat refine awp_seq ?_
             refine awp_block ?_
             repeat refine awp_seq ?_
             refine awp_dreg follows (by decide +kernel) (by kernel_rfl) fun K hK => ?_
             simp only [go_sem, hdi, hci, hdr, hrem, hzl, Nat.mul_one, hk3, List.headD_cons, List.length_cons]
             (try simp (disch := omega) only [wrapI])
             intro _
             refine ⟨n0, ?_⟩
             simp only [hrem]
             repeat first | intro _ | refine ⟨(by omega), ?_⟩ | refine ⟨⟨by omega, by omega⟩, ?_⟩
             refine hK _ ?_
             clear hK K
             refine awp_sub (sub_keep [1, 2, 7, 14, 15, 16, 17, 18, 19, 20, 21, 22]) ?_
             simp only [go_sem]
             have hpt := points_ok (bs.getD x 0) hbx.1 hbx.2
             generalize hbg : bs.getD x 0 = b at hpt hzx hsc hbx
             have hxz : x < bs.length := by omega
             repeat refine awp_seq ?_
             refine awp_dreg2 [(7, none), (19, some 119), (20, none), (22, none)] follows (by decide +kernel) (by kernel_rfl) (by simp only [keysOk, List.mem_cons, List.not_mem_nil, forall_eq_or_imp, Oc.keyOf, go_sem]; simp) fun K hK => ?_
             simp only [go_sem, hzx, hxz, htl, bedR, List.length_map]
             (try simp (disch := omega) only [wrapI])
             refine ⟨⟨by omega, by omega⟩, ?_⟩
             refine xcall_eq (hpt) rfl (by simp only [go_sem, i64, ints]) (by simp only [go_sem, i64, ints]) (by first | exact .inl rfl | exact .inr rfl) ?_
             (try simp only [go_sem])
             (try simp (disch := omega) only [wrapI])
             repeat first | intro _ | refine ⟨(by omega), ?_⟩ | refine ⟨⟨by omega, by omega⟩, ?_⟩
             refine hK _ ?_
             clear hK K
             refine awp_sub (sub_keep [1, 2, 7, 14, 15, 16, 17, 18, 19, 20, 21, 22]) ?_
             simp only [go_sem]
             have hcl : (cntP c0 (xs.take k)).length = N := by rw [cntP_len, hc0l]
             obtain ⟨cx, hcx⟩ := opt_of_lt (l := cntP c0 (xs.take k)) (i := x) (by omega)
             have hcb := cntP_le (b := 90) (xs.take k) c0 hc0b cx (mem_of_opt hcx)
             rw [htl] at hcb
             repeat refine awp_seq ?_
             refine awp_reg (by kernel_rfl) fun K hK => ?_
             simp only [go_sem, hcx, hcl, hxN, List.length_map]
             (try simp (disch := omega) only [wrapI])
             repeat first | intro _ | refine ⟨(by omega), ?_⟩ | refine ⟨⟨by omega, by omega⟩, ?_⟩
             refine hK _ ?_
             clear hK K
             try simp only [go_sem]
             repeat refine awp_seq ?_
             refine awp_reg (by kernel_rfl) fun K hK => ?_
             simp only [go_sem]
             (try simp (disch := omega) only [wrapI])
             repeat first | intro _ | refine ⟨(by omega), ?_⟩ | refine ⟨⟨by omega, by omega⟩, ?_⟩
             refine hK _ ?_
             clear hK K
             try simp only [go_sem]
             have htt : totP bs (xs.take (k + 1)) = totP bs (xs.take k) + scoreOf b := by
              rw [htk, totP, List.map_append, sum_app, ← hbg]; simp [totP]
             have hct : cntP c0 (xs.take (k + 1)) = (cntP c0 (xs.take k)).set x (cx + 1) := by
              rw [htk, cntP, List.foldl_append]
              simp [cntP, incT, List.getD_eq_getElem?_getD] at hcx ⊢
              rw [hcx]; rfl
             refine ⟨hck, ⟨by rw [htt]; omega, by rw [htt]; omega⟩, fitV_of [] ?_ ?_⟩
             · try simp only [go_sem]
               rw [htt]
             · try simp only [go_sem]
               rw [hct, htk]
               simp [List.map_set, ← hbg]
           · refine awp_exit ?_
             simp only [go_sem]
             have hk3 : k = 3 := by omega
             subst hk3
             have e3 : xs.take 3 = xs := List.take_of_length_le (by omega)
             rw [e3]
             have eC : cntP c0 xs = cntN N (L ++ [p]) := by rw [← hcs, hxs]; rfl
             have eT : totP bs xs = (visT bs p).n := by rw [hxs]; simp [totP, visT, sum3]; omega
             have eD : xs.map (fun x => bs.getD x 0) = (visF bs p).ds := by rw [hxs]; rfl
             rw [eC, eT, eD]
             have hs3 := sum3_le hB (p := p) (by rw [InB, hzl2]; exact hpN)
             have eL1 : visL bs (L ++ [p]) = visL bs L ++ [visP bs p] := by simp [visL]
             have eL2 : (L ++ [p]).map (visF bs) = L.map (visF bs) ++ [visF bs p] := by simp
             rw [eL1, eL2]
             have el1 : (visL bs L).length = i := by simp [visL, hLl]
             have el2 : (L.map (visF bs)).length = i := by simp [hLl]
             have el3 : (visL bs L).reverse.length = i := by simp [hLl]
             have hby := byteOf_ok ks i
             have hkn := hpx.2.2.2
             refine awp_sub (sub_frz (ty := 33) (sz := 1) (off := 0) (m := 3) (es := (visF bs p).ds.map fun x => [i64 x]) 19 119 (by omega) (by try simp only [go_sem]) (by try simp only [go_sem]) (by simp [visF])) ?_
             have etk3 : ((visF bs p).ds.map fun x => [i64 x]).take 3 = (visF bs p).ds.map fun x => [i64 x] := List.take_of_length_le (by simp [visF])
             simp only [go_sem, List.drop_zero, etk3]
             refine awp_sub (sub_keep [1, 2, 7, 14, 15, 16, 17, 18, 19, 20]) ?_
             simp only [go_sem]
             generalize hF : (visF bs p).ds = fd at *
             generalize hn : (visT bs p).n = tn at *
             have hP : visP bs p = if p.kn then ⟨fd, 0⟩ else ⟨[], tn⟩ := by
              unfold visP
              rw [← hF, ← hn]
              rfl
             have hF2 : visF bs p = ⟨fd, 0⟩ := by rw [← hF]; rfl
             rw [hF2]
             generalize cntN N (L ++ [p]) = cn at *
             repeat refine awp_seq ?_
             refine awp_reg (by kernel_rfl) fun K hK => ?_
             simp only [go_sem]
             (try simp (disch := omega) only [wrapI])
             repeat first | intro _ | refine ⟨(by omega), ?_⟩ | refine ⟨⟨by omega, by omega⟩, ?_⟩
             refine hK _ ?_
             clear hK K
             refine awp_sub (sub_keep [1, 2, 7, 14, 15, 16, 17, 18, 19, 23]) ?_
             simp only [go_sem]
             refine awp_sub (sub_nsB 23 0 1 rfl rfl) ?_
             try simp only [go_sem]
             repeat refine awp_seq ?_
             refine awp_reg (by kernel_rfl) fun K hK => ?_
             simp only [go_sem, el2, List.length_map]
             (try simp (disch := omega) only [wrapI])
             repeat first | intro _ | refine ⟨(by omega), ?_⟩ | refine ⟨⟨by omega, by omega⟩, ?_⟩
             refine hK _ ?_
             clear hK K
             refine awp_sub (sub_keep [1, 2, 7, 14, 15, 16, 17, 18, 19, 23]) ?_
             simp only [go_sem]
             repeat refine awp_seq ?_
             refine awp_reg (by kernel_rfl) fun K hK => ?_
             simp only [go_sem]
             (try simp (disch := omega) only [wrapI])
             refine xcall_eq (hby) rfl (by simp only [go_sem, i64, ints]) (by simp only [go_sem, i64, ints]) (by first | exact .inl rfl | exact .inr rfl) ?_
             (try simp only [go_sem])
             (try simp (disch := omega) only [wrapI])
             repeat first | intro _ | refine ⟨(by omega), ?_⟩ | refine ⟨⟨by omega, by omega⟩, ?_⟩
             refine hK _ ?_
             clear hK K
             refine awp_sub (sub_keep [1, 2, 7, 14, 15, 16, 17, 18, 19, 23, 167]) ?_
             simp only [go_sem]
             repeat refine awp_seq ?_
             refine awp_joinV (n := 400) (fun (_ : Unit) vs => [(1, .r (.sl 3 (ds.map fun d => [.it .u8 d.1, .it .u8 d.2.1, .it .u8 d.2.2]))), (2, .r (u8s ks)), (7, .r (.rp [i64 320, bedsR (zb bs)])), (14, .os 106 (vs 106) 1 0 N), (15, .os 115 (vs 115) 2 0 i), (16, .os 116 (vs 116) 2 0 (i + 1)), (17, .r (.sl 2 ((visL bs L).reverse.map viC))), (18, .r (i64 i)), (23, .pt 23 (vs 23) 0)])
              (fun _ vs => [(23, .box [.r (ints (visP bs p).ds), .r (i64 (visP bs p).n)]), (106, .arr 3 1 (cn.map fun x => [i64 x])), (115, .arr 52 2 ((visL bs L).map viC)), (116, .arr 52 2 ((L.map (visF bs)).map viC ++ [viC ⟨fd, 0⟩]))]) (fun _ => True) (fun _ h => h) ?_ ?_
             · cases hk : ((byteL ks i).tmod 3 == 0)
               · rw [hk] at hkn
                 rw [hP, hkn]
                 repeat refine awp_seq ?_
                 refine awp_cond rfl (fun hc => ?_) (fun hc => ?_) <;> (try simp only [go_sem] at hc)
                 refine awp_skip ?_
                 try simp only [go_sem]
                 exact ⟨(), fitV_of [] (by try simp only [go_sem]) (by rfl)⟩
               · rw [hk] at hkn
                 rw [hP, hkn]
                 repeat refine awp_seq ?_
                 refine awp_cond rfl (fun hc => ?_) (fun hc => ?_) <;> (try simp only [go_sem] at hc)
                 repeat refine awp_seq ?_
                 refine awp_reg (by kernel_rfl) fun K hK => ?_
                 simp only [go_sem]
                 (try simp (disch := omega) only [wrapI])
                 repeat first | intro _ | refine ⟨(by omega), ?_⟩ | refine ⟨⟨by omega, by omega⟩, ?_⟩
                 refine hK _ ?_
                 clear hK K
                 try simp only [go_sem]
                 exact ⟨(), fitV_of [] (by try simp only [go_sem]) (by rfl)⟩
             intro _ vs _
             refine awp_sub (sub_frzP 23 23 [ints (visP bs p).ds, i64 (visP bs p).n] (by omega) rfl rfl) ?_
             try simp only [go_sem]
             repeat refine awp_seq ?_
             refine awp_dregC [175, 177] [(15, some 115), (17, none), (23, none)] follows (by decide +kernel) (by kernel_rfl) (by simp only [keysOk, List.mem_cons, List.not_mem_nil, forall_eq_or_imp, Oc.keyOf, go_sem]; simp) fun K hK => ?_
             simp only [go_sem, el1, el3, List.length_map, ne_eq, List.cons_ne_nil, Nat.min_self]
             (try simp (disch := omega) only [wrapI])
             have hb1 : (([[ints (visP bs p).ds, i64 (visP bs p).n]] : List (List RV)).length + i) * 32 ≤ 140737488355328 := by simp only [List.length_cons, List.length_nil]; omega
             have hb2 : ([[ints (visP bs p).ds, i64 (visP bs p).n]] : List (List RV)).length + i ≤ 9223372036854775807 := by simp only [List.length_cons, List.length_nil]; omega
             refine ⟨⟨by omega, by omega⟩, ?_⟩
             repeat first | refine ⟨hb1, ?_⟩ | refine ⟨hb2, ?_⟩ | refine ⟨rfl, ?_⟩ | refine ⟨trivial, ?_⟩ | refine ⟨List.cons_ne_nil _ _, ?_⟩
             repeat first | intro _ | refine ⟨(by omega), ?_⟩ | refine ⟨⟨by omega, by omega⟩, ?_⟩
             refine hK _ ?_
             clear hK K
             refine awp_sub (sub_keep [1, 2, 7, 14, 15, 16, 17, 18]) ?_
             simp only [go_sem]
             repeat refine awp_seq ?_
             refine awp_reg (by kernel_rfl) fun K hK => ?_
             simp only [go_sem]
             (try simp (disch := omega) only [wrapI])
             repeat first | intro _ | refine ⟨(by omega), ?_⟩ | refine ⟨⟨by omega, by omega⟩, ?_⟩
             refine hK _ ?_
             clear hK K
             try simp only [go_sem]
             refine ⟨hci, fitV_of [] ?_ ?_⟩
             · try simp only [go_sem]
               simp
             · try simp only [go_sem]
               simp
       · skip
         have hiM : i = ds.length := by omega
         subst hiM
         refine awp_exit ?_
         simp only [go_sem]
         obtain ⟨L, hL⟩ : ∃ L, L = thL N ks ds ds.length := ⟨_, rfl⟩
         have hLl : L.length = ds.length := by rw [hL, thL_len]
         have hLs : Ls bs L := ⟨hB, by
          intro e; rw [e] at hLl; simp at hLl; omega, by omega, fun p hp => by
          rw [hL] at hp
          obtain ⟨i, _, rfl⟩ := List.mem_map.1 hp
          rw [InB, hzl2]; exact thA_lt (by omega) ks ds i⟩
         rw [← hL]
         clear hL
         obtain ⟨M, hM⟩ : ∃ M, M = ds.length := ⟨_, rfl⟩
         have hM1 : 1 ≤ M := by omega
         have hM30 : M ≤ 30 := by omega
         rw [← hM] at hLl ⊢
         obtain ⟨X, hX⟩ : ∃ X, X = visL bs L := ⟨_, rfl⟩
         obtain ⟨Y, hY⟩ : ∃ Y, Y = L.map (visF bs) := ⟨_, rfl⟩
         have hXl : X.length = M := by rw [hX]; simp [hLl]
         have hYl : Y.length = M := by rw [hY]; simp [hLl]
         have hds : ∀ p : Th, (visP bs p).ds.length ≤ 5 ∧ (visF bs p).ds.length ≤ 5 := fun p => by
          refine ⟨?_, by simp [visF]⟩
          unfold visP; split <;> simp [visF, visT]
         have hX5 : ∀ v ∈ X, v.ds.length ≤ 5 := fun v hv => by
          rw [hX] at hv; obtain ⟨p, _, rfl⟩ := List.mem_map.1 hv; exact (hds p).1
         have hY5 : ∀ v ∈ Y, v.ds.length ≤ 5 := fun v hv => by
          rw [hY] at hv; obtain ⟨p, _, rfl⟩ := List.mem_map.1 hv; exact (hds p).2
         have hfull : Y = visL bs (L.map fun p => { p with kn := true }) := by
          rw [hY]; simp [visL, List.map_map, Function.comp_def, visP]; intro a _; rfl
         have hLf : Ls bs (L.map fun p => { p with kn := true }) := ⟨hB, by
          intro e; exact hLs.ne (by simpa using e), by rw [List.length_map]; exact hLs.len, fun p hp => by
          obtain ⟨q, hq, rfl⟩ := List.mem_map.1 hp
          exact hLs.in_ q hq⟩
         have hLr : Ls bs L.reverse := ⟨hB, by
          intro e; exact hLs.ne (by simpa using e), by rw [List.length_reverse]; exact hLs.len, fun p hp => hLs.in_ p (by simpa using hp)⟩
         have hLk : Ls bs (know L (M / 2)) := know_ls hLs
         have hLk2 : ∀ h, Ls bs (know L h) := fun h => know_ls hLs
         have hrev : X.reverse = visL bs L.reverse := by rw [hX]; simp [visL]
         obtain ⟨H, hH⟩ : ∃ H, H = M / 2 := ⟨_, rfl⟩
         have hM2 : H < M := by omega
         obtain ⟨Z, hZ⟩ : ∃ Z, Z = visL bs (know L (H)) := ⟨_, rfl⟩
         obtain ⟨p2, hp2⟩ := opt_of_lt (l := L) (i := H) (by omega)
         have hZs : Z = X.set (H) (visF bs p2) := by rw [hZ, hX]; exact know_vis hp2
         have hYg : Y[H]? = some (visF bs p2) := by rw [hY, List.getElem?_map, hp2]; rfl
         have hZl : Z.length = M := by rw [hZs]; simp [hXl]
         have hZ5 : ∀ v ∈ Z, v.ds.length ≤ 5 := fun v hv => by
          rw [hZ] at hv; obtain ⟨p, _, rfl⟩ := List.mem_map.1 hv; exact (hds p).1
         have hwA : WfA (aimB bs) := ⟨⟨by simp [aimB], by simp [aimB]⟩, fun x hx => by
          obtain ⟨b, hb, rfl⟩ := List.mem_map.1 hx
          have := hle b hb
          refine ⟨⟨by simp only; omega, by simp only; omega⟩, ⟨by simp, by simp⟩, ⟨by simp, by simp⟩⟩⟩
         have hfit : ∀ l : List Vi, fitV (aimB bs) l = (Am.mk 320 (spB bs l), 3 * (M : Int), 0, 0) → ACalls Try.prog 28 [.ag [i64 320, bedsR (zb bs)], visR l] (.tu [.ag [i64 320, bedsR (spB bs l)], i64 (3 * (M : Int)), i64 0, i64 0]) := fun l hl => by
          have := fit_ok (aimB bs) l hwA
          rw [hl] at this
          exact this
         have fX := hfit X (by rw [hX, fit_vis hLs, hLl])
         have fY := hfit Y (by rw [hfull, fit_vis hLf, List.length_map, hLl])
         have fR := hfit X.reverse (by rw [hrev, fit_vis hLr, List.length_reverse, hLl])
         have fZ := hfit Z (by rw [hZ, fit_vis (hLk2 H), know_len, hLl])
         rw [spB_rev] at fR
         have hcp : ACalls Try.prog 26 [.ag [i64 320, bedsR (zb bs)]] (.ag [i64 320, bedsR (zb bs)]) := aim_ok (aimB bs) (by simp [aimB]; omega)
         have vX := visitsM_ok X (by omega) hX5
         have vY := visitsM_ok Y (by omega) hY5
         have vR := visits_ok X.reverse (by rw [List.length_reverse]; omega) (fun v hv => hX5 v (by simpa using hv))
         have vZ := visitsM_ok Z (by omega) hZ5
         rw [hXl] at vX
         rw [hYl] at vY
         rw [hZl] at vZ
         have cC := cntN_len N L
         have bet : ∀ k, k < N → loS [] ≤ 0 ∧ (X.map (loK bs k)).sum ≤ cntK L k ∧ cntK L k ≤ (X.map (hiK bs k)).sum ∧ (Y.map (loK bs k)).sum = cntK L k ∧ (Y.map (hiK bs k)).sum = cntK L k ∧ (X.map (loK bs k)).sum ≤ (Z.map (loK bs k)).sum ∧ (Z.map (hiK bs k)).sum ≤ (X.map (hiK bs k)).sum ∧ (Z.map (loK bs k)).sum ≤ cntK L k ∧ cntK L k ≤ (Z.map (hiK bs k)).sum := fun k hk => by
          have h10 : k < 10 := by omega
          have q1 := cnt_between h10 hLs
          have q2 := cnt_full h10 hLf (fun p hp => by obtain ⟨q, _, rfl⟩ := List.mem_map.1 hp; rfl)
          have q3 := know_narrow (i := H) h10 hLs
          have q4 := cnt_between h10 (hLk2 H)
          rw [know_cnt] at q4
          have q5 : cntK (L.map fun p => { p with kn := true }) k = cntK L k := by
           unfold cntK; rw [List.map_map]; rfl
          rw [q5] at q2
          rw [hfull, hX, hZ]
          exact ⟨by decide, q1.1, q1.2, q2.1, q2.2, q3.1, q3.2, q4.1, q4.2⟩
         have hchk := spB_check hLs
         rw [hLl, ← hX] at hchk
         have hsum : ∀ k, k < N → 0 ≤ (X.map (loK bs k)).sum ∧ (X.map (hiK bs k)).sum ≤ 90 := fun k hk => by
          have h10 : k < 10 := by omega
          rw [hX]
          simp only [visL, List.map_map]
          refine ⟨sum_nonneg fun p hp => (bounds h10 hB (hLs.in_ p hp)).1, ?_⟩
          have := sum_bound (f := hiK bs k ∘ visP bs) (c := 3) fun p hp => (bounds h10 hB (hLs.in_ p hp)).2
          omega
         have hlenS : ∀ l, (spB bs l).length = N := fun l => by simp [spB, hzl2]
         rw [← hX, ← hY]
         clear hX hZ hfull hrev
         repeat refine awp_seq ?_
         refine awp_reg (by kernel_rfl) fun K hK => ?_
         simp only [go_sem]
         (try simp (disch := omega) only [wrapI])
         refine xcall_eq (hcp) rfl (by simp only [go_sem, i64, ints]) (by simp only [go_sem, i64, ints]) (by first | exact .inl rfl | exact .inr rfl) ?_
         (try simp only [go_sem])
         (try simp (disch := omega) only [wrapI])
         refine xcall_mut (vX) [(1000, 115)] rfl (by simp only [go_sem, i64, ints]) (by simp only [go_sem, i64, ints]) (by rfl) (by rfl) ?_
         (try simp only [go_sem])
         (try simp (disch := omega) only [wrapI])
         refine xcall_eq (fX) rfl (by simp only [go_sem, i64, ints]) (by simp only [go_sem, i64, ints]) (by first | exact .inl rfl | exact .inr rfl) ?_
         (try simp only [go_sem])
         (try simp (disch := omega) only [wrapI])
         repeat first | intro _ | refine ⟨(by omega), ?_⟩ | refine ⟨⟨by omega, by omega⟩, ?_⟩
         refine hK _ ?_
         clear hK K
         refine awp_sub (sub_frzP 24 24 [i64 320, bedsR (spB bs X)] (by omega) rfl rfl) ?_
         refine awp_sub (sub_keep [1, 7, 14, 15, 16, 17, 24, 25, 26, 27]) ?_
         simp only [go_sem]
         repeat refine awp_seq ?_
         refine awp_reg (by kernel_rfl) fun K hK => ?_
         simp only [go_sem]
         (try simp (disch := omega) only [wrapI])
         refine xcall_eq (hcp) rfl (by simp only [go_sem, i64, ints]) (by simp only [go_sem, i64, ints]) (by first | exact .inl rfl | exact .inr rfl) ?_
         (try simp only [go_sem])
         (try simp (disch := omega) only [wrapI])
         refine xcall_mut (vY) [(1000, 116)] rfl (by simp only [go_sem, i64, ints]) (by simp only [go_sem, i64, ints]) (by rfl) (by rfl) ?_
         (try simp only [go_sem])
         (try simp (disch := omega) only [wrapI])
         refine xcall_eq (fY) rfl (by simp only [go_sem, i64, ints]) (by simp only [go_sem, i64, ints]) (by first | exact .inl rfl | exact .inr rfl) ?_
         (try simp only [go_sem])
         (try simp (disch := omega) only [wrapI])
         repeat first | intro _ | refine ⟨(by omega), ?_⟩ | refine ⟨⟨by omega, by omega⟩, ?_⟩
         refine hK _ ?_
         clear hK K
         refine awp_sub (sub_frzP 28 28 [i64 320, bedsR (spB bs Y)] (by omega) rfl rfl) ?_
         refine awp_sub (sub_keep [1, 7, 14, 15, 16, 17, 24, 25, 26, 27, 28, 31]) ?_
         simp only [go_sem]
         repeat refine awp_seq ?_
         refine awp_reg (by kernel_rfl) fun K hK => ?_
         simp only [go_sem]
         (try simp (disch := omega) only [wrapI])
         refine xcall_eq (hcp) rfl (by simp only [go_sem, i64, ints]) (by simp only [go_sem, i64, ints]) (by first | exact .inl rfl | exact .inr rfl) ?_
         (try simp only [go_sem])
         (try simp (disch := omega) only [wrapI])
         refine xcall_eq (vR) rfl (by simp only [go_sem, i64, ints]) (by simp only [go_sem, i64, ints]) (by first | exact .inl rfl | exact .inr rfl) ?_
         (try simp only [go_sem])
         (try simp (disch := omega) only [wrapI])
         refine xcall_eq (fR) rfl (by simp only [go_sem, i64, ints]) (by simp only [go_sem, i64, ints]) (by first | exact .inl rfl | exact .inr rfl) ?_
         (try simp only [go_sem])
         (try simp (disch := omega) only [wrapI])
         repeat first | intro _ | refine ⟨(by omega), ?_⟩ | refine ⟨⟨by omega, by omega⟩, ?_⟩
         refine hK _ ?_
         clear hK K
         refine awp_sub (sub_frzP 32 32 [i64 320, bedsR (spB bs X)] (by omega) rfl rfl) ?_
         refine awp_sub (sub_keep [1, 7, 14, 15, 16, 24, 25, 26, 27, 28, 31, 32, 35]) ?_
         simp only [go_sem]
         have hdiv : IntKind.i64.wrap ((M : Int).tdiv 2) = (H : Int) := by rw [hH, show (2 : Int) = ((2 : Nat) : Int) from rfl, ← Int.ofNat_tdiv, wrapI] <;> omega
         have hMd : (ds.length : Int) = (M : Int) := by rw [hM]
         repeat refine awp_seq ?_
         refine awp_reg (by kernel_rfl) fun K hK => ?_
         simp only [go_sem, hMd, hdiv]
         (try simp (disch := omega) only [wrapI])
         repeat first | intro _ | refine ⟨(by omega), ?_⟩ | refine ⟨⟨by omega, by omega⟩, ?_⟩
         refine hK _ ?_
         clear hK K
         refine awp_sub (sub_keep [1, 7, 14, 15, 16, 24, 25, 26, 27, 28, 31, 32, 35, 36]) ?_
         simp only [go_sem]
         obtain ⟨x0, hXg⟩ := opt_of_lt (l := X) (i := H) (by omega)
         repeat refine awp_seq ?_
         refine awp_reg (by kernel_rfl) fun K hK => ?_
         simp only [go_sem, hYg, hXg, hYl, hXl, hM2, List.length_map]
         (try simp (disch := omega) only [wrapI])
         repeat first | intro _ | refine ⟨(by omega), ?_⟩ | refine ⟨⟨by omega, by omega⟩, ?_⟩
         refine hK _ ?_
         clear hK K
         have hset : ∀ c, c = viC (visF bs p2) → (X.map viC).set H c = Z.map viC := fun c hc => by rw [hc, hZs, List.map_set]
         rw [hset _ (by rfl)]
         refine awp_sub (sub_keep [1, 7, 14, 15, 24, 25, 26, 27, 28, 31, 32, 35]) ?_
         simp only [go_sem]
         repeat refine awp_seq ?_
         refine awp_reg (by kernel_rfl) fun K hK => ?_
         simp only [go_sem]
         (try simp (disch := omega) only [wrapI])
         refine xcall_eq (hcp) rfl (by simp only [go_sem, i64, ints]) (by simp only [go_sem, i64, ints]) (by first | exact .inl rfl | exact .inr rfl) ?_
         (try simp only [go_sem])
         (try simp (disch := omega) only [wrapI])
         refine xcall_mut (vZ) [(1000, 115)] rfl (by simp only [go_sem, i64, ints]) (by simp only [go_sem, i64, ints]) (by rfl) (by rfl) ?_
         (try simp only [go_sem])
         (try simp (disch := omega) only [wrapI])
         refine xcall_eq (fZ) rfl (by simp only [go_sem, i64, ints]) (by simp only [go_sem, i64, ints]) (by first | exact .inl rfl | exact .inr rfl) ?_
         (try simp only [go_sem])
         (try simp (disch := omega) only [wrapI])
         repeat first | intro _ | refine ⟨(by omega), ?_⟩ | refine ⟨⟨by omega, by omega⟩, ?_⟩
         refine hK _ ?_
         clear hK K
         refine awp_sub (sub_frzP 37 37 [i64 320, bedsR (spB bs Z)] (by omega) rfl rfl) ?_
         refine awp_sub (sub_keep [1, 7, 14, 24, 25, 26, 27, 28, 31, 32, 35, 37, 40]) ?_
         simp only [go_sem]
         have w3 : IntKind.i64.wrap (3 * (M : Int)) = 3 * (M : Int) := by rw [wrapI] <;> omega
         have l1 := hlenS X
         have l2 := hlenS Y
         have l3 := hlenS Z
         have hsm := same_ok (Am.mk 320 (spB bs X)) (Am.mk 320 (spB bs X))
         have hdt : decide (Am.mk 320 (spB bs X) = Am.mk 320 (spB bs X)) = true := by simp
         rw [hdt] at hsm
         repeat refine awp_seq ?_
         refine awp_long ?_
         refine sops_take 25 (by kernel_rfl) fun K hK => ?_
         simp only [go_sem, List.take_succ_cons, List.take_zero, List.drop_succ_cons, List.drop_zero, List.append_eq, List.cons_append, List.nil_append, hMd, w3, bne_self_eq_false]
         (try simp (disch := omega) only [wrapI])
         repeat first | intro _ | refine ⟨(by omega), ?_⟩ | refine ⟨⟨by omega, by omega⟩, ?_⟩
         refine hK _ rfl ?_
         clear hK K
         refine sops_sub (sub_keep [7, 14, 24, 25, 28, 32, 37, 252]) ?_
         simp only [go_sem]
         refine sops_end (by kernel_rfl) fun K hK => ?_
         simp only [go_sem, List.drop_succ_cons, List.drop_zero, List.append_eq, List.cons_append, List.nil_append, bne_self_eq_false, l1, l2, l3, hzl2, List.length_map]
         (try simp (disch := omega) only [wrapI])
         intros
         refine xcall_eq (hsm) rfl (by simp only [go_sem, i64, ints, bne_self_eq_false]) (by simp only [go_sem, i64, ints, bne_self_eq_false]) (by first | exact .inl rfl | exact .inr rfl) ?_
         (try simp only [go_sem, bne_self_eq_false])
         (try simp (disch := omega) only [wrapI])
         repeat first | intro _ | refine ⟨(by omega), ?_⟩ | refine ⟨⟨by omega, by omega⟩, ?_⟩
         refine hK _ ?_
         clear hK K
         refine awp_sub (sub_keep [7, 14, 24, 25, 28, 37, 290]) ?_
         simp only [go_sem]
         repeat refine awp_seq ?_
         refine awp_cond rfl (fun hc => ?_) (fun hc => ?_) <;> (try simp only [go_sem] at hc)
         refine awp_skip ?_
         try simp only [go_sem]
         repeat refine awp_seq ?_
         refine awp_reg (by kernel_rfl) fun K hK => ?_
         simp only [go_sem]
         (try simp (disch := omega) only [wrapI])
         repeat first | intro _ | refine ⟨(by omega), ?_⟩ | refine ⟨⟨by omega, by omega⟩, ?_⟩
         refine hK _ ?_
         clear hK K
         refine awp_sub (sub_keep [7, 14, 24, 25, 28, 37, 41]) ?_
         simp only [go_sem]
         repeat refine awp_seq ?_
         refine awp_block ?_
         refine awp_uptoV (n := 400) N (fun k vs => [(7, .r (.rp [i64 320, bedsR (zb bs)])), (14, .os 106 (vs 106) 1 0 N), (24, .r (.rp [i64 320, bedsR (spB bs X)])), (25, .r (i64 (3 * (M : Int)))), (28, .r (.rp [i64 320, bedsR (spB bs Y)])), (37, .r (.rp [i64 320, bedsR (spB bs Z)])), (41, .r (i64 k))])
          (fun k vs => [(106, .arr 3 1 ((cntN N L).map fun x => [i64 x]))]) (fun _ => True) 0 (fitV_of [115, 116] ?_ ?_) (Nat.zero_le _) trivial ?_
         · try simp only [go_sem]
         · try simp only [go_sem]
         · intro k vs hk _
           repeat refine awp_seq ?_
           refine awp_reg (by kernel_rfl) fun K hK => ?_
           simp only [go_sem, hzl2, List.length_map]
           (try simp (disch := omega) only [wrapI])
           intros
           repeat first | intro _ | refine ⟨(by omega), ?_⟩ | refine ⟨⟨by omega, by omega⟩, ?_⟩
           refine hK _ ?_
           clear hK K
           refine awp_sub (sub_keep [7, 14, 24, 25, 28, 37, 41, 295]) ?_
           simp only [go_sem]
           repeat refine awp_seq ?_
           refine awp_cond rfl (fun hc => ?_) (fun hc => ?_) <;> (try simp only [go_sem] at hc)
           · have hck : k < N := by omega
             obtain ⟨_, b1, b2, b3, b4, b5, b6, b7, b8⟩ := bet k hck
             have spg : ∀ l, (spB bs l)[k]? = some ⟨bs.getD k 0, (l.map (loK bs k)).sum, (l.map (hiK bs k)).sum⟩ := fun l => by
              simp [spB, List.getElem?_map, List.getElem?_range (show k < bs.length by omega)]
             have gX := spg X
             have gY := spg Y
             have gZ := spg Z
             rw [b3, b4] at gY
             have gC : (cntN N L)[k]? = some (cntK L k) := by simp [cntN, List.getElem?_map, List.getElem?_range hck]
             have gB : (zb bs)[k]? = some ⟨bs.getD k 0, 0, 0⟩ := by
              obtain ⟨b, hb⟩ := opt_of_lt (l := bs) (i := k) (by omega)
              simp [hb, List.getD_eq_getElem?_getD]
             have hto := to_ok (cntK L k) (cntK L k)
             generalize cntK L k = cK at *
             generalize (X.map (loK bs k)).sum = xa at *
             generalize (X.map (hiK bs k)).sum = xb at *
             generalize (Z.map (loK bs k)).sum = za at *
             generalize (Z.map (hiK bs k)).sum = zz at *
             generalize bs.getD k 0 = bb at *
             have lX : k < (spB bs X).length := by omega
             have lY : k < (spB bs Y).length := by omega
             have lZ : k < (spB bs Z).length := by omega
             have lC : k < (cntN N L).length := by omega
             have d1 : decide (cK < xa) = false := by simp; omega
             have d2 : decide (xb < cK) = false := by simp; omega
             have d3 : decide (za < xa) = false := by simp; omega
             have d4 : decide (xb < zz) = false := by simp; omega
             have d5 : decide (cK < za) = false := by simp; omega
             have d6 : decide (zz < cK) = false := by simp; omega
             refine awp_skip ?_
             try simp only [go_sem]
             repeat refine awp_seq ?_
             refine awp_block ?_
             repeat refine awp_seq ?_
             refine awp_dreg2 [(24, none), (37, none), (41, none)] follows (by decide +kernel) (by kernel_rfl) (by simp only [keysOk, List.mem_cons, List.not_mem_nil, forall_eq_or_imp, Oc.keyOf, go_sem]; simp) fun K hK => ?_
             simp only [go_sem, gX, gZ, lX, lZ, bedR, List.length_map, Nat.mul_one, List.headD_cons, List.length_cons]
             (try simp (disch := omega) only [wrapI])
             repeat first | intro _ | refine ⟨(by omega), ?_⟩ | refine ⟨⟨by omega, by omega⟩, ?_⟩
             refine hK _ ?_
             clear hK K
             refine awp_sub (sub_frzP 42 42 [i64 xa, i64 xb] (by omega) rfl rfl) ?_
             refine awp_sub (sub_frzP 43 43 [i64 za, i64 zz] (by omega) rfl rfl) ?_
             refine awp_sub (sub_keep [7, 14, 24, 25, 28, 37, 41, 42, 43]) ?_
             simp only [go_sem]
             have hT := eqS46b
             repeat refine awp_seq ?_
             refine awp_dreg2 [(7, none), (14, some 106), (24, none), (28, none), (37, none), (41, none), (42, none), (43, none)] follows (by decide +kernel) (by kernel_rfl) (by simp only [keysOk, List.mem_cons, List.not_mem_nil, forall_eq_or_imp, Oc.keyOf, go_sem]; simp) fun K hK => ?_
             simp only [go_sem, gX, gY, gZ, gC, gB, lX, lY, lZ, lC, cC, hzl2, hck, hT, d1, d2, d3, d4, d5, d6, bedR, bne_self_eq_false, beq_self_eq_true, List.length_map, Nat.mul_one, List.headD_cons, List.length_cons, List.append_eq, List.cons_append, List.nil_append, Bool.true_and, Bool.and_true, Bool.and_self]
             (try simp (disch := omega) only [wrapI])
             refine xcall_eq (hto) rfl (by simp only [go_sem, i64, ints, gX, gY, gZ, gC, gB, lX, lY, lZ, lC, cC, hzl2, hck, hT, d1, d2, d3, d4, d5, d6, bedR, bne_self_eq_false, beq_self_eq_true, List.length_map, Nat.mul_one, List.headD_cons, List.length_cons, List.append_eq, List.cons_append, List.nil_append, Bool.true_and, Bool.and_true, Bool.and_self]) (by simp only [go_sem, i64, ints, gX, gY, gZ, gC, gB, lX, lY, lZ, lC, cC, hzl2, hck, hT, d1, d2, d3, d4, d5, d6, bedR, bne_self_eq_false, beq_self_eq_true, List.length_map, Nat.mul_one, List.headD_cons, List.length_cons, List.append_eq, List.cons_append, List.nil_append, Bool.true_and, Bool.and_true, Bool.and_self]) (by first | exact .inl rfl | exact .inr rfl) ?_
             (try simp only [go_sem, gX, gY, gZ, gC, gB, lX, lY, lZ, lC, cC, hzl2, hck, hT, d1, d2, d3, d4, d5, d6, bedR, bne_self_eq_false, beq_self_eq_true, List.length_map, Nat.mul_one, List.headD_cons, List.length_cons, List.append_eq, List.cons_append, List.nil_append, Bool.true_and, Bool.and_true, Bool.and_self])
             (try simp (disch := omega) only [wrapI])
             repeat first | intro _ | refine ⟨(by omega), ?_⟩ | refine ⟨⟨by omega, by omega⟩, ?_⟩
             refine hK _ ?_
             clear hK K
             refine awp_sub (sub_keep [7, 14, 24, 25, 28, 37, 41, 390]) ?_
             simp only [go_sem]
             repeat refine awp_seq ?_
             refine awp_cond rfl (fun hc => ?_) (fun hc => ?_) <;> (try simp only [go_sem] at hc)
             refine awp_skip ?_
             try simp only [go_sem]
             repeat refine awp_seq ?_
             refine awp_reg (by kernel_rfl) fun K hK => ?_
             simp only [go_sem]
             (try simp (disch := omega) only [wrapI])
             repeat first | intro _ | refine ⟨(by omega), ?_⟩ | refine ⟨⟨by omega, by omega⟩, ?_⟩
             refine hK _ ?_
             clear hK K
             try simp only [go_sem]
             refine ⟨hck, fitV_of [] ?_ ?_⟩
             · try simp only [go_sem]
             · try simp only [go_sem]
           · refine awp_exit ?_
             simp only [go_sem]
             have hkN : k = N := by omega
             subst hkN
             have hck := check_ok (3 * (M : Int)) [Am.mk 320 (spB bs X)] ⟨⟨by omega, by omega⟩, fun a ha => by
              rw [List.mem_singleton.1 ha]
              refine ⟨⟨by simp, by simp⟩, fun x hx => ?_⟩
              obtain ⟨j, hj, rfl⟩ := List.mem_map.1 hx
              have hj := List.mem_range.1 hj
              have h1 := hle (bs.getD j 0) (mem_getD hj)
              obtain ⟨_, q1, q2, _⟩ := bet j (by omega)
              obtain ⟨q3, q4⟩ := hsum j (by omega)
              exact ⟨⟨by simp only; omega, by simp only; omega⟩, ⟨by simp only; omega, by simp only; omega⟩, ⟨by simp only; omega, by simp only; omega⟩⟩⟩
             rw [hchk] at hck
             have hck : ACalls Try.prog 19 [.ag [i64 (3 * (M : Int)), .sl 2 [[i64 320, bedsR (spB bs X)]]]] (i64 0) := hck
             repeat refine awp_seq ?_
             refine awp_reg (by kernel_rfl) fun K hK => ?_
             simp only [go_sem]
             (try simp (disch := omega) only [wrapI])
             refine xcall_eq (hck) rfl (by simp only [go_sem, i64, ints, beq_self_eq_true, aimR]) (by simp only [go_sem, i64, ints, beq_self_eq_true, aimR]) (by first | exact .inl rfl | exact .inr rfl) ?_
             (try simp only [go_sem, beq_self_eq_true, aimR])
             (try simp (disch := omega) only [wrapI])
             try simp only [go_sem]
             refine xcall_eq (known14_ok) rfl (by simp only [go_sem, i64, ints]) (by simp only [go_sem, i64, ints]) (by first | exact .inl rfl | exact .inr rfl) ?_
             (try simp only [go_sem])
             (try simp (disch := omega) only [wrapI])
             repeat first | intro _ | refine ⟨(by omega), ?_⟩ | refine ⟨⟨by omega, by omega⟩, ?_⟩
             refine hK _ ?_
             clear hK K
             refine awp_sub (sub_keep [6]) ?_
             simp only [go_sem]
             refine awp_ret ?_
             simp only [go_sem]
end Go.Proofs.Ytgkejinoaommeaa

namespace Go.Oc
open Go Go.RowKit Go.ChangeShapes Go.WideShapes
inductive Sh where
 | int (k : IntKind)
 | bool
 | sl (es : List Sh)
def fieldsSh (P : Program) (sh : TypeId → Option (List Sh)) : List Field → Nat → Option (List Sh)
 | [], _ => some []
 | f :: fs, o =>
   match sh f.type with
   | some ss => if f.offset == o && ss.length == P.cellsOf f.type then match fieldsSh P sh fs (o + ss.length) with | some q => some (ss ++ q) | none => none else none
   | none => none
def shape (P : Program) : Nat → TypeId → Option (List Sh)
 | 0, _ => none
 | n + 1, t =>
   match P.underlying t with
   | some (.int k) => some [.int k]
   | some .bool => some [.bool]
   | some (.slice e) =>
     match shape P n e with
     | some ss => if ss.length == P.cellsOf e && decide (0 < ss.length) then some [.sl ss] else none
     | none => none
   | some (.array m e) =>
     match shape P n e with
     | some ss => if ss.length == P.cellsOf e && P.cellsOf t == m * ss.length then some (List.replicate m ss).flatten else none
     | none => none
   | some (.struct fs) =>
     match fieldsSh P (shape P n) fs.toList 0 with
     | some ss => if ss.length == P.cellsOf t then some ss else none
     | none => none
   | _ => none
mutual
def Fits : Sh → RV → Prop
 | .int k, x => ∃ n, x = .it k n ∧ (Lit.int k n).wf = true
 | .bool, x => ∃ b, x = .bo b
 | .sl ss, x => ∃ es, x = .sl ss.length es ∧ FitsE ss es
def FitsL : List Sh → List RV → Prop
 | [], xs => xs = []
 | s :: ss, xs => ∃ y ys, xs = y :: ys ∧ Fits s y ∧ FitsL ss ys
def FitsE (ss : List Sh) : List (List RV) → Prop
 | [] => True
 | e :: es => FitsL ss e ∧ FitsE ss es
end
theorem fitsL_append : ∀ {s1 s2 : List Sh} {x1 x2 : List RV}, FitsL s1 x1 → FitsL s2 x2 → FitsL (s1 ++ s2) (x1 ++ x2)
 | [], _, _, _, h1, h2 => by simp only [FitsL] at h1; subst h1; simpa using h2
 | s :: ss, s2, x1, x2, h1, h2 => by
   simp only [FitsL] at h1
   obtain ⟨y, ys, rfl, h3, h4⟩ := h1
   simp only [List.cons_append, FitsL]
   exact ⟨y, _, rfl, h3, fitsL_append h4 h2⟩
theorem fitsL_length : ∀ {ss : List Sh} {xs : List RV}, FitsL ss xs → xs.length = ss.length
 | [], _, h => by simp only [FitsL] at h; subst h; rfl
 | s :: ss, _, h => by
   simp only [FitsL] at h
   obtain ⟨y, ys, rfl, _, h⟩ := h
   simp [fitsL_length h]
theorem fitsE_of : ∀ {ss : List Sh} {es : List (List RV)}, (∀ e ∈ es, FitsL ss e) → FitsE ss es
 | _, [], _ => by simp only [FitsE]
 | ss, e :: es, h => by simp only [FitsE]; exact ⟨h e (by simp), fitsE_of fun x hx => h x (by simp [hx])⟩
theorem choice {α : Type} {Q : Nat → α → Prop} : ∀ (n : Nat), (∀ i, i < n → ∃ x, Q i x) → ∃ xs : List α, xs.length = n ∧ ∀ i x, xs[i]? = some x → Q i x
 | 0, _ => ⟨[], rfl, by simp⟩
 | n + 1, h => by
   obtain ⟨xs, hl, hx⟩ := choice n fun i hi => h i (by omega)
   obtain ⟨y, hy⟩ := h n (by omega)
   refine ⟨xs ++ [y], by simp [hl], fun i x hi => ?_⟩
   by_cases h1 : i < n
   · rw [List.getElem?_append_left (by omega)] at hi; exact hx i x hi
   · rw [List.getElem?_append_right (by omega)] at hi
     have : i = n := by have := (List.getElem?_eq_some_iff.1 hi).1; simp at this; omega
     subst this
     simp [hl] at hi
     exact hi ▸ hy
section
variable {w : World} {P : Program}
theorem cells?_get {base n : Nat} {a : Addr} {cs : List Value} (h : w.cells? base a n = some cs) : cs.length = n ∧ ∀ i, i < n → w.cell? (a.add i) = cs[i]? := by
 unfold World.cells? at h
 split at h
 · exact ⟨by simpa using mapM_some_length h, fun i hi => mapM_some_get h i i (by simp [hi])⟩
 · cases h
theorem cell_lt {a : Addr} {v : Value} (h : w.cell? a = some v) : a.block < w.heap.size := by
 refine Decidable.byContradiction fun hn => ?_
 have : w.heap[a.block]? = none := by simp; omega
 simp [World.cell?, this] at h
def old (w : World) : Nat → Prop := fun b => b < w.heap.size
theorem relC_of_cells {xs : List RV} {cs : List Value} {ad : Addr} (hV : RV.relV w (old w) xs cs) (hone : ∀ u ∈ cs, u.oneCell' = true) (hc : ∀ i, i < cs.length → w.cell? (ad.add i) = cs[i]?) : RV.relC w (old w) xs ad 0 := by
 refine RV.relC_of_get fun i x hx => ?_
 obtain ⟨u, hu, hr⟩ := RV.relV_get hV hx
 have hi := (List.getElem?_eq_some_iff.1 hu).1
 refine ⟨u, ?_, hone u (List.mem_of_getElem? hu), hr⟩
 rw [Nat.zero_add, hc i hi, hu]
variable {H : Type} {enc : TypeId × Value → H} {base : Nat} {spare : Nat → Bool} {held : Bool}
def Good3 (w : World) (ss : List Sh) (cs : List Value) : Prop := ∃ xs, FitsL ss xs ∧ RV.relV w (old w) xs cs ∧ ∀ u ∈ cs, u.oneCell' = true
theorem good3_append {s1 s2 : List Sh} {c1 c2 : List Value} (h1 : Good3 w s1 c1) (h2 : Good3 w s2 c2) : Good3 w (s1 ++ s2) (c1 ++ c2) := by
 obtain ⟨x1, f1, r1, o1⟩ := h1
 obtain ⟨x2, f2, r2, o2⟩ := h2
 refine ⟨x1 ++ x2, fitsL_append f1 f2, RV.relV_append r1 r2, fun u hu => ?_⟩
 rcases List.mem_append.1 hu with hu | hu
 · exact o1 u hu
 · exact o2 u hu
theorem good3_length {ss : List Sh} {cs : List Value} (h : Good3 w ss cs) : cs.length = ss.length := by
 obtain ⟨xs, f, r, _⟩ := h
 rw [RV.relV_length r, fitsL_length f]
theorem trod_fits : ∀ (fuel n : Nat) (t : TypeId) (cs : List Value) (x : DataW H × List MemPlace) (ss : List Sh), DataW.trod enc P w base spare held fuel t cs = some x → shape P n t = some ss → Good3 w ss cs := by
 intro fuel
 induction fuel with
 | zero => intro n t cs x ss h; simp [DataW.trod] at h
 | succ fuel ih =>
   intro n t cs x ss h hs
   cases n with
   | zero => simp [shape] at hs
   | succ n =>
     unfold shape at hs
     split at hs
     · rename_i k ht
       injection hs with hs; subst hs
       obtain ⟨m, rfl, _, hw⟩ := DataW.trod_int ht h
       exact ⟨[.it k m], by simp only [FitsL, Fits]; exact ⟨_, [], rfl, ⟨m, rfl, hw⟩, rfl⟩, by simp only [RV.relV, RV.rel]; exact ⟨_, [], rfl, rfl, rfl⟩, by simp [Value.oneCell']⟩
     · rename_i ht
       injection hs with hs; subst hs
       obtain ⟨b, rfl, _⟩ := DataW.trod_bool ht h
       exact ⟨[.bo b], by simp only [FitsL, Fits]; exact ⟨_, [], rfl, ⟨b, rfl⟩, rfl⟩, by simp only [RV.relV, RV.rel]; exact ⟨_, [], rfl, rfl, rfl⟩, by simp [Value.oneCell']⟩
     · rename_i e ht
       split at hs
       · rename_i es hes
         split at hs
         · rename_i hc
           simp only [Bool.and_eq_true, beq_iff_eq, decide_eq_true_eq] at hc
           injection hs with hs; subst hs
           rcases DataW.trod_slice ht h with ⟨rfl, _⟩ | ⟨a, len, cap, elems, rest, m, hm, rfl, _, _, hlc, hcm, hel, hget, _⟩
           · refine ⟨[.sl es.length []], ?_, ?_, by simp [Value.oneCell']⟩
             · simp only [FitsL, Fits]
               exact ⟨_, [], rfl, ⟨[], rfl, by simp only [FitsE]⟩, rfl⟩
             · simp only [RV.relV, RV.rel]
               exact ⟨_, [], rfl, ⟨none, 0, rfl, Nat.le_refl _, Nat.zero_le _, fun h => absurd rfl h⟩, rfl⟩
           · injection hm with hm; subst hm
             have hall : ∀ i, i < len → ∃ e', FitsL es e' ∧ e'.length = es.length ∧ RV.relC w (old w) e' (a.add (i * es.length)) 0 ∧ a.block < w.heap.size := fun i hi => by
              have h1 := hget i hi
              have h2 : i < elems.length := by omega
              rw [List.getElem?_eq_getElem h2] at h1
              obtain ⟨ci, hci, htr⟩ := Option.bind_eq_some_iff.1 h1
              rw [← hc.1] at hci
              obtain ⟨hl, hcell⟩ := cells?_get hci
              obtain ⟨xs, f, r, o⟩ := ih n e ci _ es htr hes
              refine ⟨xs, f, fitsL_length f, relC_of_cells r o (fun j hj => hcell j (by omega)), ?_⟩
              have h3 := hcell 0 hc.2
              have h4 : 0 < ci.length := by omega
              rw [List.getElem?_eq_getElem h4] at h3
              have := cell_lt h3
              rwa [block_add, block_add] at this
             obtain ⟨els, hlen, hels⟩ := choice len hall
             refine ⟨[.sl es.length els], ?_, ?_, by simp [Value.oneCell']⟩
             · simp only [FitsL, Fits]
               refine ⟨_, [], rfl, ⟨els, rfl, fitsE_of fun e' he' => ?_⟩, rfl⟩
               obtain ⟨i, hi⟩ := List.getElem?_of_mem he'
               exact (hels i e' hi).1
             · simp only [RV.relV, RV.rel]
               refine ⟨_, [], rfl, ⟨some a, cap, by rw [hlen], by omega, hcm, fun hne => ?_⟩, rfl⟩
               obtain ⟨e0, he0⟩ : ∃ e0, els[0]? = some e0 := by
                cases els with
                | nil => exact absurd rfl hne
                | cons a l => exact ⟨a, rfl⟩
               refine ⟨a, rfl, (hels 0 e0 he0).2.2.2, RV.relE_of_get fun i e' he' => ?_⟩
               obtain ⟨_, q1, q2, _⟩ := hels i e' he'
               exact ⟨q1, RV.relC_unbase _ q2⟩
         · cases hs
       · cases hs
     · rename_i m e ht
       split at hs
       · rename_i es hes
         split at hs
         · rename_i hc
           simp only [Bool.and_eq_true, beq_iff_eq] at hc
           injection hs with hs; subst hs
           obtain ⟨xs, fm, hm, _, hcl, hxl, hget⟩ := DataW.trod_array ht h
           injection hm with hm; subst hm
           have key : ∀ j, j ≤ m → Good3 w (List.replicate j es).flatten (cs.take (j * es.length)) := by
            intro j
            induction j with
            | zero => intro _; exact ⟨[], by simp [FitsL], by simp [RV.relV], by simp⟩
            | succ j ihj =>
              intro hj
              have h1 := hget j (by omega)
              have h2 : j < xs.length := by omega
              rw [List.getElem?_eq_getElem h2, ← hc.1] at h1
              have h3 := ih n e _ _ es h1 hes
              have := good3_append (ihj (by omega)) h3
              rw [← List.take_add] at this
              rw [List.replicate_succ', List.flatten_append, Nat.add_mul]
              simpa using this
           have := key m (Nat.le_refl _)
           rwa [← hc.2, ← hcl, List.take_length] at this
         · cases hs
       · cases hs
     · rename_i fs ht
       split at hs
       · rename_i q hq
         split at hs
         · rename_i hc
           simp only [beq_iff_eq] at hc
           injection hs with hs; subst hs
           obtain ⟨xs, fm, hm, _, hcl, hxl, hget⟩ := DataW.trod_struct ht h
           injection hm with hm; subst hm
           have key : ∀ (l : List Field) (o : Nat) (q : List Sh), (∀ f ∈ l, ∃ y, DataW.trod enc P w base spare held fuel f.type ((cs.drop f.offset).take (P.cellsOf f.type)) = some y) → fieldsSh P (shape P n) l o = some q → Good3 w q ((cs.drop o).take q.length) := by
            intro l
            induction l with
            | nil =>
              intro o q _ hq
              simp only [fieldsSh, Option.some.injEq] at hq
              subst hq
              exact ⟨[], by simp [FitsL], by simp [RV.relV], by simp⟩
            | cons f l ihl =>
              intro o q hall hq
              simp only [fieldsSh] at hq
              split at hq
              · rename_i s1 hs1
                split at hq
                · rename_i hc1
                  simp only [Bool.and_eq_true, beq_iff_eq] at hc1
                  split at hq
                  · rename_i q2 hq2
                    injection hq with hq; subst hq
                    obtain ⟨y, hy⟩ := hall f (by simp)
                    have g1 := ih n f.type _ _ s1 hy hs1
                    have g2 := ihl (o + s1.length) q2 (fun f' hf' => hall f' (by simp [hf'])) hq2
                    rw [hc1.1, ← hc1.2] at g1
                    have := good3_append g1 g2
                    rw [← List.drop_drop, ← List.take_add] at this
                    simpa using this
                  · cases hq
                · cases hq
              · cases hq
           have := key fs.toList 0 q (fun f hf => by
            obtain ⟨i, hi⟩ := List.getElem?_of_mem hf
            have hi' : fs[i]? = some f := by simpa using hi
            have h1 := hget i f hi'
            have h2 : i < xs.length := by have := (Array.getElem?_eq_some_iff.1 hi').1; omega
            exact ⟨xs[i], by rw [h1]; exact List.getElem?_eq_getElem h2⟩) hq
           rwa [List.drop_zero, hc, ← hcl, List.take_length] at this
         · cases hs
       · cases hs
     · cases hs
def FitsT (P : Program) (n : Nat) (t : TypeId) (x : RV) : Prop := ∃ ss, shape P n t = some ss ∧ if aggOf P t then ∃ xs, x = .ag xs ∧ FitsL ss xs else FitsL ss [x]
theorem arg_fits {n : Nat} {t : TypeId} {v : Value} {d : DataW H} {ps : List MemPlace} {r : Reach} {b0 : Nat} (hs : (shape P n t).isSome = true) (hval : Value.okWide P w r b0 t v) (h : DataW.Trod enc P w base spare held t v d ps) :
 ∃ x, FitsT P n t x ∧ x.rel w (old w) v := by
 obtain ⟨ss, hss⟩ := Option.isSome_iff_exists.1 hs
 obtain ⟨fuel, hf⟩ := h
 obtain ⟨xs, f, r, o⟩ := trod_fits fuel n t _ _ ss hf hss
 have one : aggOf P t = false → v.cells.toList = [v] → ∃ x, FitsT P n t x ∧ x.rel w (old w) v := fun ha hc => by
  rw [hc] at r
  match xs, r with
  | [x], r =>
    simp only [RV.relV] at r
    obtain ⟨u, us, e, hr, _⟩ := r
    injection e with e1 e2
    subst e1
    exact ⟨x, ⟨ss, hss, by rw [ha]; exact f⟩, hr⟩
  | [], r => simp [RV.relV] at r
  | _ :: _ :: _, r =>
    simp only [RV.relV] at r
    obtain ⟨u, us, e, _, u2, us2, e2, _⟩ := r
    injection e with _ e
    rw [e2] at e; cases e
 cases n with
 | zero => simp [shape] at hss
 | succ n =>
   have hss' := hss
   unfold shape at hss'
   split at hss'
   · rename_i k ht
     obtain ⟨m, rfl⟩ := okWide_int ht hval
     exact one (by simp [aggOf, ht]) rfl
   · rename_i ht
     obtain ⟨b, rfl⟩ := okWide_bool ht hval
     exact one (by simp [aggOf, ht]) rfl
   · rename_i e ht
     obtain ⟨a, l, c, rfl⟩ := okWide_slice ht hval
     exact one (by simp [aggOf, ht]) rfl
   · rename_i m e ht
     obtain ⟨cs, rfl⟩ : ∃ cs, v = .agg cs := by
      simp only [Value.okWide, ht] at hval
      obtain ⟨cs, h1, _⟩ := hval
      exact ⟨cs, h1⟩
     exact ⟨.ag xs, ⟨ss, hss, by simp only [aggOf, ht, if_true]; exact ⟨xs, rfl, f⟩⟩, by simp only [RV.rel]; exact ⟨cs, rfl, o, r⟩⟩
   · rename_i fs ht
     obtain ⟨cs, rfl, _⟩ := okWide_struct ht hval
     exact ⟨.ag xs, ⟨ss, hss, by simp only [aggOf, ht, if_true]; exact ⟨xs, rfl, f⟩⟩, by simp only [RV.rel]; exact ⟨cs, rfl, o, r⟩⟩
   · cases hss'
theorem wf_i64 {n : Int} (h : (Lit.int .i64 n).wf = true) : -9223372036854775808 ≤ n ∧ n ≤ 9223372036854775807 := by
 simp only [Lit.wf, Bool.and_eq_true, decide_eq_true_eq] at h
 have h1 : IntKind.min .i64 = -9223372036854775808 := by decide
 have h2 : IntKind.max .i64 = 9223372036854775807 := by decide
 rw [h1, h2] at h
 exact h
theorem fitsE_ints : ∀ {es : List (List RV)}, FitsE [.int .i64] es → ∃ l : List Int, es = l.map (fun x => [.it .i64 x]) ∧ ∀ x ∈ l, -9223372036854775808 ≤ x ∧ x ≤ 9223372036854775807
 | [], _ => ⟨[], rfl, by simp⟩
 | e :: es, h => by
   simp only [FitsE, FitsL, Fits] at h
   obtain ⟨⟨y, ys, rfl, ⟨n, rfl, hn⟩, rfl⟩, h⟩ := h
   obtain ⟨l, rfl, hl⟩ := fitsE_ints h
   refine ⟨n :: l, rfl, fun x hx => ?_⟩
   rcases List.mem_cons.1 hx with rfl | hx
   · exact wf_i64 hn
   · exact hl x hx
theorem fitsT_ag {n : Nat} {t : TypeId} {x : RV} {ss : List Sh} (h : FitsT P n t x) (hs : shape P n t = some ss) (ha : aggOf P t = true) : ∃ xs, x = .ag xs ∧ FitsL ss xs := by
 obtain ⟨s', h1, h2⟩ := h
 rw [hs] at h1; injection h1 with h1; subst h1
 rw [ha] at h2
 exact h2
theorem fitsT_one {n : Nat} {t : TypeId} {x : RV} {s : Sh} (h : FitsT P n t x) (hs : shape P n t = some [s]) (ha : aggOf P t = false) : Fits s x := by
 obtain ⟨s', h1, h2⟩ := h
 rw [hs] at h1; injection h1 with h1; subst h1
 rw [ha] at h2
 simp only [Bool.false_eq_true, if_false, FitsL] at h2
 obtain ⟨y, ys, e, h3, _⟩ := h2
 injection e with e1 e2
 subst e1
 exact h3
theorem fitsT_int {n : Nat} {t : TypeId} {x : RV} (h : FitsT P n t x) (hs : shape P n t = some [.int .i64]) (ha : aggOf P t = false) : ∃ m, x = .it .i64 m ∧ -9223372036854775808 ≤ m ∧ m ≤ 9223372036854775807 := by
 have := fitsT_one h hs ha
 simp only [Fits] at this
 obtain ⟨m, h1, h2⟩ := this
 exact ⟨m, h1, wf_i64 h2⟩
theorem fitsT_ints {n : Nat} {t : TypeId} {x : RV} (h : FitsT P n t x) (hs : shape P n t = some [.sl [.int .i64]]) (ha : aggOf P t = false) : ∃ l : List Int, x = .sl 1 (l.map (fun x => [.it .i64 x])) ∧ ∀ x ∈ l, -9223372036854775808 ≤ x ∧ x ≤ 9223372036854775807 := by
 have := fitsT_one h hs ha
 simp only [Fits] at this
 obtain ⟨es, h1, h2⟩ := this
 obtain ⟨l, rfl, hl⟩ := fitsE_ints h2
 exact ⟨l, h1, hl⟩
end
end Go.Oc

namespace Go.Oc
open Go Go.RowKit
theorem wf_u8 {n : Int} (h : (Lit.int .u8 n).wf = true) : 0 ≤ n ∧ n ≤ 255 := by
 simp only [Lit.wf, Bool.and_eq_true, decide_eq_true_eq] at h
 have h1 : IntKind.min .u8 = 0 := by decide
 have h2 : IntKind.max .u8 = 255 := by decide
 rw [h1, h2] at h
 exact h
theorem wf_u16 {n : Int} (h : (Lit.int .u16 n).wf = true) : 0 ≤ n ∧ n ≤ 65535 := by
 simp only [Lit.wf, Bool.and_eq_true, decide_eq_true_eq] at h
 have h1 : IntKind.min .u16 = 0 := by decide
 have h2 : IntKind.max .u16 = 65535 := by decide
 rw [h1, h2] at h
 exact h
theorem wf_u32 {n : Int} (h : (Lit.int .u32 n).wf = true) : 0 ≤ n ∧ n ≤ 4294967295 := by
 simp only [Lit.wf, Bool.and_eq_true, decide_eq_true_eq] at h
 have h1 : IntKind.min .u32 = 0 := by decide
 have h2 : IntKind.max .u32 = 4294967295 := by decide
 rw [h1, h2] at h
 exact h
theorem fitsE_u8 : ∀ {es : List (List RV)}, FitsE [.int .u8] es → ∃ l : List Int, es = l.map (fun x => [.it .u8 x]) ∧ ∀ x ∈ l, 0 ≤ x ∧ x ≤ 255
 | [], _ => ⟨[], rfl, by simp⟩
 | e :: es, h => by
   simp only [FitsE, FitsL, Fits] at h
   obtain ⟨⟨y, ys, rfl, ⟨n, rfl, hn⟩, rfl⟩, h⟩ := h
   obtain ⟨l, rfl, hl⟩ := fitsE_u8 h
   refine ⟨n :: l, rfl, fun x hx => ?_⟩
   rcases List.mem_cons.1 hx with rfl | hx
   · exact wf_u8 hn
   · exact hl x hx
theorem fitsE_u16 : ∀ {es : List (List RV)}, FitsE [.int .u16] es → ∃ l : List Int, es = l.map (fun x => [.it .u16 x]) ∧ ∀ x ∈ l, 0 ≤ x ∧ x ≤ 65535
 | [], _ => ⟨[], rfl, by simp⟩
 | e :: es, h => by
   simp only [FitsE, FitsL, Fits] at h
   obtain ⟨⟨y, ys, rfl, ⟨n, rfl, hn⟩, rfl⟩, h⟩ := h
   obtain ⟨l, rfl, hl⟩ := fitsE_u16 h
   refine ⟨n :: l, rfl, fun x hx => ?_⟩
   rcases List.mem_cons.1 hx with rfl | hx
   · exact wf_u16 hn
   · exact hl x hx
end Go.Oc

namespace Go.Proofs.Ytgkejinoaommeaa
open Go Go.Oc
theorem fitsE_bytes3 : ∀ {es : List (List RV)}, FitsE [.int .u8, .int .u8, .int .u8] es → ∃ gs : List (Int × Int × Int), es = gs.map (fun d => [.it .u8 d.1, .it .u8 d.2.1, .it .u8 d.2.2]) ∧ ∀ g ∈ gs, (0 ≤ g.1 ∧ g.1 ≤ 255) ∧ (0 ≤ g.2.1 ∧ g.2.1 ≤ 255) ∧ 0 ≤ g.2.2 ∧ g.2.2 ≤ 255
 | [], _ => ⟨[], rfl, by simp⟩
 | e :: es, h => by
   simp only [Oc.FitsE, Oc.FitsL, Oc.Fits] at h
   obtain ⟨⟨_, _, rfl, ⟨a, rfl, ha⟩, _, _, rfl, ⟨b, rfl, hb⟩, _, _, rfl, ⟨c, rfl, hc⟩, rfl⟩, h⟩ := h
   obtain ⟨l, rfl, hl⟩ := fitsE_bytes3 h
   refine ⟨(a, b, c) :: l, rfl, fun x hx => ?_⟩
   rcases List.mem_cons.1 hx with rfl | hx
   · exact ⟨wf_u8 ha, wf_u8 hb, wf_u8 hc⟩
   · exact hl x hx
theorem fits60 {x : RV} (h : FitsT Try.prog 9 60 x) : ∃ l : List Int, x = u8s l ∧ ∀ y ∈ l, 0 ≤ y ∧ y ≤ 255 := by
 have h1 := fitsT_one (s := .sl [.int .u8]) h (by kernel_rfl) (by kernel_rfl)
 simp only [Oc.Fits] at h1
 obtain ⟨es, rfl, hx⟩ := h1
 obtain ⟨l, rfl, hl⟩ := fitsE_u8 hx
 exact ⟨l, rfl, hl⟩
theorem law8' {x0 x1 x2 : RV} (h0 : FitsT Try.prog 9 72 x0) (h1 : FitsT Try.prog 9 73 x1) (h2 : FitsT Try.prog 9 60 x2) : ACalls Try.prog 8 [x0, x1, x2] (.bo true) := by
 have g0 := fitsT_one (s := .int .u16) h0 (by kernel_rfl) (by kernel_rfl)
 simp only [Oc.Fits] at g0
 obtain ⟨w, rfl, hw⟩ := g0
 have g1 := fitsT_one (s := .sl [.int .u8, .int .u8, .int .u8]) h1 (by kernel_rfl) (by kernel_rfl)
 simp only [Oc.Fits] at g1
 obtain ⟨es, rfl, hx⟩ := g1
 obtain ⟨ds, rfl, hd⟩ := fitsE_bytes3 hx
 obtain ⟨ks, rfl, hk⟩ := fits60 h2
 exact sets_law w ds ks hd hk (wf_u16 hw)
end Go.Proofs.Ytgkejinoaommeaa


namespace Go.Proofs.Ytgkejinoaommeaa
open Go Go.Oc Go.ChangeShapes Go.WideShapes Go.RowKit
set_option linter.unusedVariables false
theorem own : ownKnob Try.prog.godebug = none := by kernel_rfl
theorem laidOut : laidOutB Try.prog = true := by kernel_rfl
set_option maxRecDepth 100000 in
theorem lifted (os : Os) (started : os.Started) (H : Type) (enc : TypeId × Value → H) :
    ReturnsInHanded {} Try.checked os 8 .any (Rows.throwSetsSpec.pre6 enc Try.prog Try.f8 Rows.throwSetsRow.domain false) (Rows.throwSetsSpec.post enc Try.prog Try.f8 false true false false) := by
  refine returnsInHanded_of_change (C := Try.checked) own started (by kernel_rfl) Try.func8
    (ChangeSpec.witness6 (enc := enc) (C := Try.checked) false ⟨#[], #[.int .u16 0, .slice none 0 0, .slice none 0 0], []⟩ 8 (by kernel_rfl) (by kernel_rfl) (by kernel_rfl) (by kernel_rfl)) ?_
  intro W base args ds gs before hval0 hW hcnd _
  have hval : ∀ (j : Nat) t v, Try.f8.params[j]? = some t → args[j]? = some v → Value.okWide Try.prog W .any base t v := hval0
  have hW' := hW
  obtain ⟨p, q, hA0, hV, rfl, hfz, hnd⟩ := hW
  have hA : DataW.TrodAll enc Try.prog W 0 (fun _ => true) true Try.f8.params.toList args.toList ds p := hA0
  rw [Try.params8] at hA hval
  obtain ⟨v0, vs0, d0, ds0, p0, q0, hargs, rfl, rfl, h0, r0⟩ := trodAll_cons hA
  obtain ⟨v1, vs1, d1, ds1, p1, q1, rfl, rfl, rfl, h1, r1⟩ := trodAll_cons r0
  obtain ⟨v2, vs2, d2, ds2, p2, q2, rfl, rfl, rfl, h2, r2⟩ := trodAll_cons r1
  obtain ⟨rfl, rfl, rfl⟩ := trodAll_nil r2
  obtain rfl : args = #[v0, v1, v2] := by cases args; simp_all
  obtain ⟨rfl, rfl⟩ := trodVars_none hV
  have lt0 : ∀ x ∈ p0, x.block < W.heap.size := by obtain ⟨m, hm⟩ := h0; exact DataW.trod_lt m _ _ _ hm
  have lt1 : ∀ x ∈ p1, x.block < W.heap.size := by obtain ⟨m, hm⟩ := h1; exact DataW.trod_lt m _ _ _ hm
  have lt2 : ∀ x ∈ p2, x.block < W.heap.size := by obtain ⟨m, hm⟩ := h2; exact DataW.trod_lt m _ _ _ hm
  obtain ⟨x0, g0, e0⟩ := arg_fits (n := 9) (by kernel_rfl) (hval 0 72 v0 rfl rfl) h0
  obtain ⟨x1, g1, e1⟩ := arg_fits (n := 9) (by kernel_rfl) (hval 1 73 v1 rfl rfl) h1
  obtain ⟨x2, g2, e2⟩ := arg_fits (n := 9) (by kernel_rfl) (hval 2 60 v2 rfl rfl) h2
  clear hA0 hval0
  refine ((law8' g0 g1 g2).2 W (old W) #[v0, v1, v2] (fun _ h => h) (by simp only [RV.relV]; exact ⟨_, _, rfl, e0, _, _, rfl, e1, _, _, rfl, e2, rfl⟩)).mono fun e W' he => ?_
  obtain ⟨v, R', rfl, bel, _, _, _, hr⟩ := he
  simp only [RV.rel] at hr
  subst hr
  exact ⟨_, rfl, _, _, _, [], _, [], hW', trodAll_mk1 (shut_bool Try.underlying4 _), (trodAll_cons_mk (Below.trod laidOut (by kernel_rfl) (of_decide_eq_true (by kernel_rfl)) h0 bel lt0) (trodAll_cons_mk (Below.trod laidOut (by kernel_rfl) (of_decide_eq_true (by kernel_rfl)) h1 bel lt1) (trodAll_cons_mk (Below.trod laidOut (by kernel_rfl) (of_decide_eq_true (by kernel_rfl)) h2 bel lt2) trodAll_mk0))), rfl, bel.frame _, fun h => by cases h⟩
theorem over : Rows.throwSetsRow.holds Try.pinned (OpenSpec.ofChange Rows.throwSetsSpec) :=
  OpenClaim.holds_of_wide 8 Try.f8 rfl rfl rfl rfl rfl rfl rfl ⟨rfl, rfl, rfl, rfl, rfl⟩ rfl rfl rfl rfl rfl (by kernel_rfl) Try.func8 (by kernel_rfl)
    (of_decide_eq_true (by kernel_rfl)) (by unfold Func.isWrapper; first | (rw [if_pos (by decide +kernel)]; kernel_rfl) | (rw [if_neg (by decide +kernel)]; exact ⟨rfl, rfl⟩))
    (fun os started H enc _ => lifted os started H enc)
theorem throwSets_holds : Rows.ThrowSetsSaid := over
#print axioms throwSets_holds
end Go.Proofs.Ytgkejinoaommeaa

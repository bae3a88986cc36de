/- Part 6 of the texts of this claim. -/
import Derived.Test.YtgfbenanljjgaaaVJ5
import Derived.Test.YtgfbenanljjgaaaVJ4
import Derived.KernelRfl
set_option linter.unusedSimpArgs false
set_option linter.unusedVariables false
namespace Go.Oc
open Go Go.RowKit
def cpR (s : AS) (d : Nat) (b : AV) (r : Res) (K : AS → Prop) : Prop :=
 match b,r with
 | .r .ns,⟨pre,_,⟨.os d' v sz 0 m,[(d'',⟨v',.arr _ sz' es⟩)]⟩⟩=>pre ∧ d < 1000 ∧ d' = d ∧ d'' = d ∧ v = (s.rows d).ver + 1 ∧ v' = v ∧ sz' = sz ∧ m = es.length ∧ K (AS.put (s.row d ⟨(s.rows d).ver + 2,.dead⟩) (some d) (.r (.sl sz es)))
 | _,_=>False
def cpX (P : Program) (s : AS) (d : Nat) (t : TypeId) (b : AV) (n : Option (Prop × Nat × List (List RV))) (K : AS → Prop) : Prop :=
 match tyq P t,b,n with
 | some ⟨.slice _ esz eb _, _, _, _⟩, .r (.sx sz0 es), some (c, sz, ns) => sz0 = esz ∧ d < 1000 ∧ c ∧ (sz = esz ∨ ns = []) ∧ 0 < esz ∧ (es.length + ns.length) * eb ≤ 140737488355328 ∧ es.length + ns.length ≤ 9223372036854775807 ∧
   K (AS.put (s.row d ⟨(s.rows d).ver + 2,.dead⟩) (some d) (.r (.sl esz (es ++ ns))))
 | _,_,_=>False
def isSx : AV → Bool
 | .r (.sx _ _)=>true
 | _=>false
def cpB (s : AS) (d : Option Nat) (r : Res) (K : AS → Prop) : Prop :=
 match r with
 | ⟨pre,_,⟨.r (.sl sz es),[]⟩⟩=>pre ∧ es ≠ [] ∧ K (AS.put s d (.r (.sx sz es)))
 | _=>False
def copyK (P : Program) (o : Oper) (K : AS → Prop) (s : AS) : Prop :=
 match o.op with
 | .call ⟨.builtin .append, args, ts⟩ => (match args.toList, ts.toList, o.dst with
   | [x,z],[t,t'],some d=>t = t' ∧ (if isSx (s.ev x) then cpX P s d t (s.ev x) (news? s (s.ev z)) K else cpR s d (s.ev x) (sAppend P s d t t' (s.ev x) (s.ev z)) K)
   | _,_,_=>False)
 | .buildSlice t n ps=>cpB s o.dst (sBuildSlice P s t n (ps.toList.map fun (i,x)=>(i,s.ev x))) K
 | _=>False
def isPl (pl : List Nat) (o : Oper) : Bool :=
 match o.op with
 | .call ⟨.builtin .append,_,_⟩=>(match o.dst with | some d=>pl.contains d | none=>false)
 | .buildSlice _ _ _=>(match o.dst with | some d=>pl.contains d | none=>false)
 | _=>false
def xopC (P : Program) (pl : List Nat) (o : Oper) (K : AS → Prop) (s : AS) : Prop:=if isPl pl o then copyK P o K s else xop P true o K s
def aopsC (P : Program) (pl : List Nat) (ops : Array Oper) : List Oper → (AS → Prop) → AS → Prop
 | [],K,s=>K s
 | o :: rest, K, s =>
   match o.guard with
   | none=>xopC P pl o (aopsC P pl ops rest K) s
   | some (g, want) =>
     match ((ops[g]?).bind (·.dst) : Option Nat) with
     | none=>aopsC P pl ops rest K (s.put o.dst (.r .ud))
     | some t =>
       match s.tm t with
       | .r (.bo b)=>(b = want → xopC P pl o (aopsC P pl ops rest K) (s.put (some t) (.r (.bo want)))) ∧ (b = !want → aopsC P pl ops rest K ((s.put (some t) (.r (.bo (!want)))).put o.dst (.r .ud)))
       | .r .ud=>aopsC P pl ops rest K (s.put o.dst (.r .ud))
       | _=>False
section
variable {P : Program} {C : Ctx} {s : AS} {ops : Array Oper} {pl : List Nat}
theorem copyK_AY {o : Oper} {K : AS → Prop} (h : copyK P o K s) : ∃ y,AY P o s y ∧ (mk o y → (s.rows (o.dst.getD 0)).c = .dead ∧ o.dst.isSome = true) ∧ K (s.app o.dst y):=by
 unfold copyK at h
 split at h
 · rename_i args ts ho
   split at h
   · rename_i x z t t' d ha ht hd
     have ha : args = #[x,z]:=by cases args;simpa using ha
     have ht : ts = #[t,t']:=by cases ts;simpa using ht
     subst ha ht
     obtain ⟨rfl,h⟩:=h
     split at h
     · unfold cpX at h
       split at h
       · rename_i e esz eb ez ssz sagg sz1 sz0 es c sz ns e1 e3 hny
         obtain ⟨rfl,h2,h3,h4,h5,h6,h7,hK⟩:=h
         refine ⟨⟨.r (.sl sz0 (es ++ ns)),[(d,⟨(s.rows d).ver + 2,.dead⟩)]⟩,?_,fun hm=>?_,by rw [hd];exact hK⟩
         · unfold AY
           split
           · rename_i ho';rw [ho] at ho';cases ho'
           · exact .inr ⟨x,z,t,d,_,ho,hd,h2,⟨_,e3⟩,rfl,.inr ⟨e,sz0,eb,ez,ssz,sagg,sz1,es,c,sz,ns,e3,e1,hny,h3,h4,h5,h6,h7,rfl⟩⟩
         · rcases hm with hm | ⟨hm,_⟩
           · simp [cls,ho] at hm
           · simp [vcall,ho] at hm
       · exact h.elim
     · unfold cpR at h
       split at h
       · rename_i pre ass d' v sz m d'' v' e sz' es hb hr
         obtain ⟨h1,h2,rfl,rfl,rfl,rfl,rfl,rfl,hK⟩:=h
         have hs : step P o s = sAppend P s d'' t t (s.ev x) (s.ev z):=by simp [step,ho,sBuiltin,hd]
         refine ⟨⟨.r (.sl sz' es),[(d'',⟨(s.rows d'').ver + 2,.dead⟩)]⟩,?_,fun hm=>?_,by rw [hd];exact hK⟩
         · unfold AY
           split
           · rename_i ho';rw [ho] at ho';cases ho'
           · exact .inr ⟨x,z,t,d'',_,ho,hd,h2,⟨_,hb⟩,rfl,.inl ⟨by rw [hs,hr];exact h1,hb,e,sz',es,by rw [hs,hr],rfl⟩⟩
         · rcases hm with hm | ⟨hm,_⟩
           · simp [cls,ho] at hm
           · simp [vcall,ho] at hm
       · exact h.elim
   · exact h.elim
 · rename_i t n ps ho
   unfold cpB at h
   split at h
   · rename_i pre ass sz es hr
     obtain ⟨h1,h2,hK⟩:=h
     have hs : step P o s = sBuildSlice P s t n (ps.toList.map fun (i,x)=>(i,s.ev x)):=by simp only [step,ho]
     refine ⟨⟨.r (.sx sz es),[]⟩,?_,fun hm=>?_,hK⟩
     · unfold AY
       split
       · rename_i ho';rw [ho] at ho';cases ho'
       · exact .inl ⟨by rw [hs,hr];exact h1,.inr ⟨by simp [isBS,ho],sz,es,h2,by rw [hs,hr],rfl⟩⟩
     · rcases hm with hm | ⟨hm,_⟩
       · simp [cls,ho] at hm
       · simp [vcall,ho] at hm
   · exact h.elim
 · exact h.elim
theorem aopsC_lex {Q : AS → Prop} : ∀ (l : List Oper) (s : AS),dstOk l.toArray s.n = true → NE s → aopsC P pl ops l Q s → lexA P ops Q l s
 | [],_,_,_,h=>h
 | o :: l, s, hd, hne, h => by
   have hd0 : ∀ t,o.dst = some t → t < s.n:=dstOk_get (i:=0) hd (by simp)
   have hdl : dstOk l.toArray s.n = true:=by
    unfold dstOk at hd ⊢
    simp only [List.all_toArray,List.all_cons,Bool.and_eq_true] at hd ⊢
    exact hd.2
   have run : ∀ {s1 : AS},s1 = s → xopC P pl o (aopsC P pl ops l Q) s1 → wantA ops s o = some true → lexA P ops Q (o :: l) s:=fun e hop hw=>by
    subst e
    unfold xopC at hop
    split at hop
    · obtain ⟨y,hy,hdead,hK⟩:=copyK_AY hop
      have hY : YieldsA P ops o y _:=.inl ⟨hw,hy,hdead⟩
      exact ⟨y,hY,aopsC_lex l _ (by rw [app_n];exact hdl) (hne.app hY hd0) hK⟩
    · unfold xop at hop
      rw [if_pos rfl] at hop
      obtain ⟨y,hy,hdead,hK⟩:=aop_AY hop
      have hY : YieldsA P ops o y _:=.inl ⟨hw,hy,hdead rfl⟩
      exact ⟨y,hY,aopsC_lex l _ (by rw [app_n];exact hdl) (hne.app hY hd0) (hK hne)⟩
   have skip : ∀ {s1 : AS},s1 = s → aopsC P pl ops l Q (s1.put o.dst (.r .ud)) → wantA ops s o = some false → lexA P ops Q (o :: l) s:=fun e hop hw=>by
    subst e
    have hY : YieldsA P ops o ysk _:=.inr ⟨hw,rfl⟩
    exact ⟨ysk,hY,aopsC_lex l _ (by rw [app_n];exact hdl) (hne.app hY hd0) hop⟩
   unfold aopsC at h
   split at h
   · rename_i hg
     exact run rfl h (by simp [wantA,hg])
   · rename_i g want hg
     split at h
     · rename_i ht
       exact skip rfl h (by simp [wantA,hg,ht])
     · rename_i t ht
       split at h
       · rename_i b hb
         by_cases hw : b = want
         · subst hw
           exact run (put_self hb) (h.1 rfl) (by simp [wantA,hg,ht,hb])
         · have hw' : b = !want:=by cases b <;> cases want <;> simp_all
           subst hw'
           exact skip (put_self hb) (h.2 rfl) (by simp [wantA,hg,ht,hb])
       · rename_i hb
         exact skip rfl h (by simp [wantA,hg,ht,hb])
       · exact h.elim
theorem awp_dregC {Q : Exit → AS → Prop} {id : Nat} {l : List Oper} (pl : List Nat) (κ : List (Nat × Option Nat)) (hm : P.follows .mixedOrders = true) (hB : lexOk2 l.toArray κ = true) (hd : dstOk l.toArray s.n = true) (hk : keysOk κ s)
 (h : ∀ K : AS → Prop,(∀ s,Q .normal s → K s) → aopsC P pl l.toArray l K s) : awp P C (.region id l.toArray true) Q s:=fun a w hs=>by
 obtain ⟨p,hp⟩:=hs
 exact region_draw2 hm hB hd hk ⟨p,hp⟩ (fun s a w hq hs=>⟨s,hs,hq⟩) (aopsC_lex l s hd ⟨C,p,a,w,hp⟩ (h _ fun _ h=>h))
variable {n : Nat} {l : List (Nat × AV)} {vs : Nat → Nat} {cs : List (Nat × RowC)} {K : AS → Prop} {d : Option Nat} {ty : TypeId} {pos : String} {af : Array Edge}
theorem aopsC_nil {ops : Array Oper} : aopsC P pl ops [] K s ↔ K s:=Iff.rfl
theorem aopsC_cons {ops : Array Oper} {o : Op} {rest : List Oper} : aopsC P pl ops (⟨d,o,ty,pos,af,none⟩ :: rest) K s ↔ xopC P pl ⟨d,o,ty,pos,af,none⟩ (aopsC P pl ops rest K) s:=Iff.rfl
theorem row_dead {k m : Nat} : AS.row (st n l vs cs) k ⟨m,.dead⟩ = st n l (upd vs k m) (delc cs k):=by
 rw [row_st]
 unfold st
 congr 1
 funext j
 rw [lookc_insc,lookc_delc]
attribute [go_sem] Nat.reduceBEq Bool.or_false Bool.false_or Bool.or_true Bool.true_or
attribute [go_sem] aopsC_nil aopsC_cons xopC isPl copyK cpR cpB cpX isSx List.contains_cons List.contains_nil List.toList_toArray
attribute [go_sem high] row_dead
end
end Go.Oc

namespace Go.Oc
open Go Go.RowKit
def idK (L : List (Nat × RowC)) : List (Nat × Nat):=L.map fun x=>(x.1,x.1)
def npostL (P : Program) (rv : ResultVar) (L : List (Nat × RowC)) (r : AV) : Exit → AS → Prop
 | .normal,s=>resC (resA P s rv) fun v=>lendA (idK L) s.ver v = some r ∧ lendOk (idK L) s (idK L) L
 | .ret,s=>resC (resA P s rv) fun v=>lendA (idK L) s.ver v = some r ∧ lendOk (idK L) s (idK L) L
 | _,_=>False
theorem npostL_ret {P : Program} {rv : ResultVar} {L : List (Nat × RowC)} {r : AV} {s : AS} : npostL P rv L r .ret s = resC (resA P s rv) fun v=>lendA (idK L) s.ver v = some r ∧ lendOk (idK L) s (idK L) L:=rfl
theorem npostL_normal {P : Program} {rv : ResultVar} {L : List (Nat × RowC)} {r : AV} {s : AS} : npostL P rv L r .normal s = resC (resA P s rv) fun v=>lendA (idK L) s.ver v = some r ∧ lendOk (idK L) s (idK L) L:=rfl
theorem idK_pin : ∀ {L : List (Nat × RowC)} {k : Nat},(hasKey L k = true → pinOf (idK L) k = some k) ∧ (hasKey L k = false → pinOf (idK L) k = none)
 | [],k=>by simp [hasKey,idK,pinOf]
 | (j, c) :: L, k => by
   obtain ⟨h1,h2⟩:=idK_pin (L:=L) (k:=k)
   simp only [hasKey,List.any_cons,Bool.or_eq_true,beq_iff_eq,Bool.or_eq_false_iff,beq_eq_false_iff_ne] at h1 h2 ⊢
   simp only [idK,List.map_cons,pinOf]
   constructor
   · intro h
     by_cases e : k = j
     · rw [if_pos e,e]
     · rw [if_neg e]
       rcases h with h | h
       · exact absurd h.symm e
       · exact h1 h
   · rintro ⟨h,h'⟩
     rw [if_neg (fun e=>h e.symm)]
     exact h2 h'
theorem ncalls_st {P : Program} {f : FuncId} {fn : Func} {c : Code} {n : Nat} {args : List RV} (L : List (Nat × RowC)) (r : AV) (rv : ResultVar) (hf : P.funcs[f]? = some fn) (hb : fn.body = some c) (hc : callable P f = true) (hn : fn.ntmps = n) (hres : fn.results.toList = [rv]) (hargs : args.length ≤ n)
 (hap : apart (idK L) = true) (hsm : (L.all fun x=>decide (x.1 < 1000)) = true) (h : ∀ C : Ctx,C.rd = none ∧ C.X = XS.none → awp P C c (npostL P rv L r) (st n (argL 0 args) (fun _=>0) [])) : NCalls P f args L r:=by
 refine ⟨hc,fun w R vs hR hV=>?_⟩
 have hlen:=RV.relV_length hV
 simp only [Array.length_toList] at hlen
 let C : Ctx:={ w0:=w,R0:=R,bor:=fun _=>False,pin:=fun _=>none }
 let p : Plan:={ R:=R,β:=fun _=>none,γ:=fun _=>1 }
 have hs : SR C p (st n (argL 0 args) (fun _=>0) []) { tmps:=vs ++ Array.replicate (fn.ntmps - vs.size) undef,defers:=[] } w:={
  base:=⟨rfl,rfl,rfl,Nat.le_refl _,fun _ _ _ _=>rfl⟩
  r0:=fun _ h=>h
  rn:=fun _ h=>.inl h
  rb:=hR
  tm:=fun t=>by
   show (look (argL 0 args) t).rel _ _ _ _
   by_cases hmem : ∃ x,(t,x) ∈ argL 0 args
   · cases e : args[t]? with
     | none =>
       obtain ⟨x,hx⟩:=hmem
       obtain ⟨i,y,h1,h2⟩:=argL_mem _ hx
       simp only [Nat.zero_add,Prod.mk.injEq] at h1
       rw [← h1.1,e] at h2;cases h2
     | some x =>
       obtain ⟨u,hu,hx⟩:=RV.relV_get hV e
       have : (vs ++ Array.replicate (fn.ntmps - vs.size) undef).getD t undef = u:=by
        have ht : t < vs.size:=by have:=(List.getElem?_eq_some_iff.1 hu).1;simpa using this
        rw [Array.getD_eq_getD_getElem?,Array.getElem?_append_left ht]
        simp only [Array.getElem?_toList] at hu
        rw [hu];rfl
       have e2:=argL_look (k:=0) e
       rw [Nat.zero_add] at e2
       rw [this,e2]
       simpa only [AV.rel] using hx
   · rw [look_none hmem]
     exact AV.rel_un _ _ _ _
  sz:=by simp only [Array.size_append,Array.size_replicate,st];omega
  ex:=ext_start (fun _ h=>h.elim (fun h=>h.elim) (fun h=>h.elim))
  rw:=fun k=>by simp [st,lookc_nil,zrl,p]
  bl:=fun k b h=>by simp [p] at h
  ij:=fun k k' b h=>by simp [p] at h
  cap:=fun k=>by simp [p,maxLen]
  pn:=fun k x h=>by cases h
  lk:=fun j km n l cur h _=>by cases h }
 refine callsIn_wide.1 (callsIn_of_wp_marks (n:=0) hf hb trivial (wpIn_mono (h C ⟨rfl,rfl⟩ _ w ⟨p,hs⟩) ?_))
 rintro e a' w' ⟨s',⟨p',hs'⟩,hq⟩
 have fin : ∀ (a' : Act) (w' : World) (_ : SR C p' s' a' w'),(resC (resA P s' rv) fun v=>lendA (idK L) s'.ver v = some r ∧ lendOk (idK L) s' (idK L) L) → ∃ v,(results fn a'.tmps).run P w' = .ok v w' ∧ ∃ v',∃ q : Plan,Ending.returned v = .returned v' ∧ Below w.heap.size w w' ∧ (∀ b,R b → q.R b) ∧ (∀ b,q.R b → R b ∨ w.heap.size ≤ b) ∧ (∀ b,q.R b → b < w'.heap.size) ∧
  (∀ k b,q.β k = some b → w.heap.size ≤ b ∧ b < w'.heap.size ∧ ¬ q.R b ∧ hasKey L k = true) ∧ (∀ k k' b,q.β k = some b → q.β k' = some b → k = k') ∧ (∀ k,q.γ k ≤ maxLen) ∧ (∀ k,hasKey L k = false → q.γ k = 1) ∧
  (∀ k,hasKey L k = true → zrl w' q (fun _=>0) k (lookc L k)) ∧ r.rel w' q (fun _=>0) v':=fun a' w' hs' ⟨hp,hv,hlo⟩=>by
  obtain ⟨u,hu,hrel⟩:=run_result hs' rv hp
  have hm : (fn.results.mapM (resOp a'.tmps)).run P w' = .ok #[u] w':=by
   rw [Array.mapM_eq_mapM_toList,hres]
   simp only [Sem.run_map,List.mapM_cons,List.mapM_nil,Sem.run_bind,hu,Result.andThen_ok,Sem.run_pure]
  obtain ⟨g1,g2⟩:=lendOk_get hlo
  have hβ : ∀ k b,(zlp (idK L) p').β k = some b → hasKey L k = true ∧ p'.β k = some b:=fun k b hb=>by
   cases e : hasKey L k
   · simp [zlp,idK_pin.2 e] at hb
   · simp only [zlp,idK_pin.1 e] at hb;exact ⟨rfl,hb⟩
  refine ⟨u,by rw [results_eq,Sem.run_bind,hm];simp,u,zlp (idK L) p',rfl,⟨hs'.base.os,hs'.base.tape,hs'.base.output,hs'.base.size,fun k hk=>hs'.base.block k hk (fun h=>h) (fun h=>h)⟩,hs'.r0,fun b hb=>?_,hs'.rb,fun k b hb=>?_,fun k k' b hb hb'=>hs'.ij k k' b (hβ k b hb).2 (hβ k' b hb').2,fun k=>?_,fun k hk=>?_,fun k hk=>?_,lend_rel hap _ _ _ hv hrel⟩
  · rcases hs'.rn b hb with h | h | h
    · exact .inl h
    · exact .inr h
    · exact h.elim
  · obtain ⟨h1,h2⟩:=hβ k b hb
    obtain ⟨g3,g4,g5⟩:=hs'.bl k b h2
    exact ⟨g5.resolve_right (fun h=>h.elim (fun h=>h.2) fun h=>h),g3,g4,h1⟩
  · cases e : hasKey L k
    · simp [zlp,idK_pin.2 e,maxLen]
    · simp only [zlp,idK_pin.1 e];exact hs'.cap k
  · simp [zlp,idK_pin.2 hk]
  · exact lendC_rel hap (idK_pin.1 hk) (g1 k k (idK_pin.1 hk)) (hs'.rw k)
 cases e with
 | normal=>exact hs'.leave fun a'' w'' _ hs''=>fin a'' w'' hs'' hq
 | ret=>exact hs'.leave fun a'' w'' _ hs''=>fin a'' w'' hs'' hq
 | _=>exact hq.elim
def newVs (vs : Nat → Nat) : List (Nat × Nat) → Nat → Nat
 | []=>vs
 | (_,ck) :: l=>newVs (upd vs ck (vs ck + 1)) l
def newCs (ρ : List (Nat × Nat)) (ver : Nat → Nat) (L : List (Nat × RowC)) : List (Nat × Nat) → List (Nat × RowC) → List (Nat × RowC)
 | [],cs=>cs
 | (pk,ck) :: l,cs=>newCs ρ ver L l (insc cs ck (backC ρ ver (lookc L pk)))
theorem lendKey_none : ∀ {l : List (Nat × Nat)} {ck : Nat},(zLk l ck).isNone = true → zLk l ck = none:=fun h=>Option.isNone_iff_eq_none.1 h
theorem newVs_eq : ∀ {ρ : List (Nat × Nat)} {vs : Nat → Nat},apart ρ = true → newVs vs ρ = newVer ρ vs
 | [],vs,_=>by funext k;rfl
 | (pk, ck) :: l, vs, h => by
   simp only [apart,Bool.and_eq_true] at h
   funext k
   rw [newVs,newVs_eq h.2]
   unfold newVer
   simp only [zLk]
   by_cases e : k = ck
   · subst e
     rw [if_pos rfl,lendKey_none h.1.2,zus]
   · rw [if_neg e,zuo _ _ e]
theorem newCs_eq {σ : List (Nat × Nat)} {ver : Nat → Nat} {L : List (Nat × RowC)} : ∀ {ρ : List (Nat × Nat)} {cs : List (Nat × RowC)} {k : Nat},apart ρ = true →
 lookc (newCs σ ver L ρ cs) k = match zLk ρ k with | some pk=>backC σ ver (lookc L pk) | none=>lookc cs k
 | [],cs,k,_=>rfl
 | (pk, ck) :: l, cs, k, h => by
   simp only [apart,Bool.and_eq_true] at h
   rw [newCs,newCs_eq h.2]
   simp only [zLk]
   by_cases e : k = ck
   · subst e
     rw [if_pos rfl,lendKey_none h.1.2]
     simp [lookc_insc]
   · rw [if_neg e]
     cases zLk l k with
     | none=>simp [lookc_insc,e]
     | some pk'=>rfl
section
variable {n : Nat} {l : List (Nat × AV)} {vs : Nat → Nat} {cs : List (Nat × RowC)}
theorem xcall_new {P : Program} {F : FuncId} {args : List RV} {L : List (Nat × RowC)} {caps : List AV} {r : AV} {d : Option Nat} {f : AV} {xs : List AV} {K : AS → Prop} (h : NCalls P F args L r) (ρ : List (Nat × Nat)) (hf : callee? f = some (F,caps))
 (hp : AV.pureL (xs ++ caps) = true) (he : snapVL (st n l vs cs).rows (xs ++ caps) = args) (ha : apart ρ = true) (hs : sameKeysN ρ L = true) (hsm : smallK ρ = true)
 (hK : K (AS.put (st n l (newVs vs ρ) (newCs ρ (newVs vs ρ) L ρ cs)) d (backA ρ (newVs vs ρ) r))) : xcall P false (st n l vs cs) d f xs K:=by
 refine .inr (.inl ⟨rfl,.inr (.inr (.inr ⟨F,caps,args,ρ,L,r,hf,hp,he ▸ leL_refl _,h,ha,hs,hsm,?_⟩))⟩)
 have e : ({ st n l vs cs with rows:=newRows ρ L (st n l vs cs).rows } : AS) = st n l (newVs vs ρ) (newCs ρ (newVs vs ρ) L ρ cs):=by
  unfold st
  simp only [AS.mk.injEq,true_and]
  funext k
  rw [newCs_eq ha,newVs_eq ha]
  unfold newRows newVer
  have hv : vers (fun k=>(⟨vs k,lookc cs k⟩ : Row)) = vs:=rfl
  rw [hv]
  cases zLk ρ k <;> rfl
 rw [e]
 have hv : newVer ρ (st n l vs cs).ver = newVs vs ρ:=by rw [newVs_eq ha];rfl
 rw [hv]
 exact hK
end
attribute [go_sem] npostL_ret npostL_normal newVs newCs idK
end Go.Oc

namespace Go.Proofs.Ytgfbenanljjgaaa.Du
open Go Go.Oc
set_option maxRecDepth 8000
structure Bd where
 b : Int
 lo : Int
 hi : Int
structure Am where
 at_ : Int
 beds : List Bd
def bedR (x : Bd) : List RV:=[i64 x.b,i64 x.lo,i64 x.hi]
abbrev bedV (x : Bd) : RV:=.ag [i64 x.b,i64 x.lo,i64 x.hi]
abbrev bedsR (l : List Bd) : RV:=.sl 3 (l.map bedR)
def aimR (a : Am) : List RV:=[i64 a.at_,bedsR a.beds]
abbrev aimV (a : Am) : RV:=.ag [i64 a.at_,bedsR a.beds]
abbrev aimsR (l : List Am) : RV:=.sl 2 (l.map aimR)
abbrev lawV (d : Int) (l : List Am) : RV:=.ag [i64 d,aimsR l]
abbrev chV (a : Am) (d : Int) : RV:=.ag [i64 a.at_,bedsR a.beds,i64 d]
def I64 (n : Int) : Prop:=-9223372036854775808 ≤ n ∧ n ≤ 9223372036854775807
theorem within1_ok (n a b : Int) : ACalls Try.prog 120 [i64 n,.rp [i64 a],.rp [i64 b]] (.bo (decide (n < a) || decide (b < n))):=by
 refine zas (rs:=[.bo (decide (n < a) || decide (b < n))]) [.tmp 4] Try.func120 rfl (by kernel_rfl) Try.ntmps120 rfl (by simp) rfl fun C vs=>?_
 repeat apply zq
 refine zb fun K hK=>?_;simp only [go_sem];(try simp (disch:=omega) only [zI]);repeat first | intro _ | refine ⟨by omega,?_⟩
 apply hK
 repeat apply zq
 refine zb fun K hK=>?_;simp only [go_sem];(try simp (disch:=omega) only [zI])
 refine ⟨fun h=>?_,fun h=>?_⟩ <;>
 · repeat first | intro _ | refine ⟨by omega,?_⟩
   apply hK;apply ze;simp only [go_sem]
   try simp [h]
theorem index_ok (p : Int → Bool) (f : Nat) (caps : List RV) (l : List Int) (h : ∀ x ∈ l,ACalls Try.prog f (i64 x :: caps) (.bo (p x))) : ACalls Try.prog 100 [ints l,.fn f caps] (i64 (indexF p l)):=by
 refine zas (rs:=[i64 (indexF p l)]) [.tmp 4] Try.func100 rfl (by kernel_rfl) Try.ntmps100 rfl (by simp) rfl fun C vs=>?_
 repeat apply zq
 refine zb fun K hK=>?_;simp only [go_sem];(try simp (disch:=omega) only [zI]);repeat first | intro _ | refine ⟨by omega,?_⟩
 apply hK
 repeat apply zq
 refine zb fun K hK=>?_;simp only [go_sem];(try simp (disch:=omega) only [zI])
 intro hl
 repeat first | intro _ | refine ⟨by omega,?_⟩
 apply hK
 repeat apply zq
 apply zd
 refine zup (n:=19) l.length (fun i vs=>[(0,.r (ints l)),(1,.r (.fn f caps)),(7,.r (i64 l.length)),(8,.r (i64 i))]) (fun _=>[])
  (fun i=>indexF p l = if indexF p (l.drop i) < 0 then -1 else i + indexF p (l.drop i)) 0 (zfo [] ?_ rfl) (Nat.zero_le _) ?_ ?_
 · try simp only [go_sem]
 · simp only [List.drop_zero]
   have:=indexF_ge p l
   split
   · omega
   · simp
 · intro i vs hi hI
   repeat apply zq
   refine zb fun K hK=>?_;simp only [go_sem];(try simp (disch:=omega) only [zI]);repeat first | intro _ | refine ⟨by omega,?_⟩
   apply hK
   repeat apply zq
   apply zc rfl <;> intro hc <;> (try simp only [go_sem] at hc)
   · obtain ⟨x,hx⟩:=zol hc
     rw [drop_of_opt hx] at hI
     apply zx
     repeat apply zq
     apply zd
     repeat apply zq
     refine zb fun K hK=>?_;simp only [go_sem];(try simp (disch:=omega) only [zI]);repeat first | intro _ | refine ⟨by omega,?_⟩
     apply hK
     repeat apply zq
     refine zb fun K hK=>?_;simp only [go_sem,hx,hc,bedR,aimR];(try simp (disch:=omega) only [zI])
     refine zh (h x (zmo hx)) rfl (by simp only [go_sem,i64,ints]) (by simp only [go_sem,i64,ints]) ?_
     (try simp only [go_sem]);(try simp (disch:=omega) only [zI]);repeat first | intro _ | refine ⟨by omega,?_⟩
     apply hK
     repeat apply zq
     apply zc rfl <;> intro hc <;> (try simp only [go_sem] at hc)
     · repeat apply zq
       refine zb fun K hK=>?_;simp only [go_sem];(try simp (disch:=omega) only [zI]);repeat first | intro _ | refine ⟨by omega,?_⟩
       apply hK;apply ze;simp only [go_sem]
       simp [hI,indexF,hc]
     · apply zx
       try simp only [go_sem]
       repeat apply zq
       refine zb fun K hK=>?_;simp only [go_sem];(try simp (disch:=omega) only [zI]);repeat first | intro _ | refine ⟨by omega,?_⟩
       apply hK
       try simp only [go_sem]
       refine ⟨‹_›,?_,zfo [] ?_ rfl⟩
       · rw [hI]
         simp only [indexF,hc,Bool.false_eq_true,if_false]
         have:=indexF_ge p (l.drop (i + 1))
         (repeat' split) <;> omega
       · try simp only [go_sem]
   · apply zf;simp only [go_sem]
     repeat apply zq
     refine zb fun K hK=>?_;simp only [go_sem];(try simp (disch:=omega) only [zI]);repeat first | intro _ | refine ⟨by omega,?_⟩
     apply hK;apply ze;simp only [go_sem]
     have : l.drop i = []:=List.drop_eq_nil_of_le (by omega)
     simp [hI,this,indexF]
theorem contains_ok (p : Int → Bool) (f : Nat) (caps : List RV) (l : List Int) (h : ∀ x ∈ l,ACalls Try.prog f (i64 x :: caps) (.bo (p x))) : ACalls Try.prog 67 [ints l,.fn f caps] (.bo (l.any p)):=by
 refine zas (rs:=[.bo (l.any p)]) [.tmp 4] Try.func67 rfl (by kernel_rfl) Try.ntmps67 rfl (by simp) rfl fun C vs=>?_
 repeat apply zq
 refine zb fun K hK=>?_;simp only [go_sem];(try simp (disch:=omega) only [zI]);repeat first | intro _ | refine ⟨by omega,?_⟩
 apply hK
 repeat apply zq
 refine zb fun K hK=>?_;simp only [go_sem];(try simp (disch:=omega) only [zI])
 refine zh (index_ok p f caps l h) rfl (by simp only [go_sem,i64,ints]) (by simp only [go_sem,i64,ints]) ?_
 (try simp only [go_sem]);(try simp (disch:=omega) only [zI]);repeat first | intro _ | refine ⟨by omega,?_⟩
 apply hK;apply ze;simp only [go_sem];rw [← indexF_any]
def withinL (a b : Int) (l : List Int) : Bool:=l.all fun n=>decide (a ≤ n) && decide (n ≤ b)
theorem withinL_not (a b : Int) (l : List Int) : (!(l.any fun n=>decide (n < a) || decide (b < n))) = withinL a b l:=by
 unfold withinL
 rw [List.not_any_eq_all_not]
 congr 1
 funext n
 by_cases h1 : n < a <;> by_cases h2 : b < n <;> simp [h1,h2] <;> omega
theorem within_ok (a b : Int) (l : List Int) : ACalls Try.prog 88 [i64 a,i64 b,ints l] (.bo (withinL a b l)):=by
 refine zas (rs:=[.bo (withinL a b l)]) [.tmp 6] Try.func88 rfl (by kernel_rfl) Try.ntmps88 rfl (by simp) rfl fun C vs=>?_
 repeat apply zq
 refine zb fun K hK=>?_;simp only [go_sem];(try simp (disch:=omega) only [zI]);repeat first | intro _ | refine ⟨by omega,?_⟩
 apply hK
 repeat apply zq
 refine zb fun K hK=>?_;simp only [go_sem];(try simp (disch:=omega) only [zI])
 refine zh (contains_ok (fun n=>decide (n < a) || decide (b < n)) 120 [.rp [i64 a],.rp [i64 b]] l fun x _=>within1_ok x a b) rfl (by simp only [go_sem,i64,ints]) (by simp only [go_sem,i64,ints]) ?_
 (try simp only [go_sem]);(try simp (disch:=omega) only [zI]);repeat first | intro _ | refine ⟨by omega,?_⟩
 apply hK;apply ze;simp only [go_sem];rw [← withinL_not]
theorem indexB_ok (p : Bd → Bool) (f : Nat) (caps : List RV) (l : List Bd) (h : ∀ x ∈ l,ACalls Try.prog f (bedV x :: caps) (.bo (p x))) : ACalls Try.prog 149 [bedsR l,.fn f caps] (i64 (indexF p l)):=by
 refine zas (rs:=[i64 (indexF p l)]) [.tmp 4] Try.func149 rfl (by kernel_rfl) Try.ntmps149 rfl (by simp) rfl fun C vs=>?_
 repeat apply zq
 refine zb fun K hK=>?_;simp only [go_sem];(try simp (disch:=omega) only [zI]);repeat first | intro _ | refine ⟨by omega,?_⟩
 apply hK
 repeat apply zq
 refine zb fun K hK=>?_;simp only [go_sem];(try simp (disch:=omega) only [zI])
 intro hl
 repeat first | intro _ | refine ⟨by omega,?_⟩
 apply hK
 repeat apply zq
 apply zd
 refine zup (n:=19) l.length (fun i vs=>[(0,.r (bedsR l)),(1,.r (.fn f caps)),(7,.r (i64 l.length)),(8,.r (i64 i))]) (fun _=>[])
  (fun i=>indexF p l = if indexF p (l.drop i) < 0 then -1 else i + indexF p (l.drop i)) 0 (zfo [] ?_ rfl) (Nat.zero_le _) ?_ ?_
 · try simp only [go_sem]
 · simp only [List.drop_zero]
   have:=indexF_ge p l
   split
   · omega
   · simp
 · intro i vs hi hI
   repeat apply zq
   refine zb fun K hK=>?_;simp only [go_sem];(try simp (disch:=omega) only [zI]);repeat first | intro _ | refine ⟨by omega,?_⟩
   apply hK
   repeat apply zq
   apply zc rfl <;> intro hc <;> (try simp only [go_sem] at hc)
   · obtain ⟨x,hx⟩:=zol hc
     rw [drop_of_opt hx] at hI
     apply zx
     repeat apply zq
     apply zd
     repeat apply zq
     refine zb fun K hK=>?_;simp only [go_sem];(try simp (disch:=omega) only [zI]);repeat first | intro _ | refine ⟨by omega,?_⟩
     apply hK
     repeat apply zq
     refine zb fun K hK=>?_;simp only [go_sem,hx,hc,bedR,aimR];(try simp (disch:=omega) only [zI])
     refine zh (h x (zmo hx)) rfl (by simp only [go_sem,i64,ints]) (by simp only [go_sem,i64,ints]) ?_
     (try simp only [go_sem]);(try simp (disch:=omega) only [zI]);repeat first | intro _ | refine ⟨by omega,?_⟩
     apply hK
     repeat apply zq
     apply zc rfl <;> intro hc <;> (try simp only [go_sem] at hc)
     · repeat apply zq
       refine zb fun K hK=>?_;simp only [go_sem];(try simp (disch:=omega) only [zI]);repeat first | intro _ | refine ⟨by omega,?_⟩
       apply hK;apply ze;simp only [go_sem]
       simp [hI,indexF,hc]
     · apply zx
       try simp only [go_sem]
       repeat apply zq
       refine zb fun K hK=>?_;simp only [go_sem];(try simp (disch:=omega) only [zI]);repeat first | intro _ | refine ⟨by omega,?_⟩
       apply hK
       try simp only [go_sem]
       refine ⟨‹_›,?_,zfo [] ?_ rfl⟩
       · rw [hI]
         simp only [indexF,hc,Bool.false_eq_true,if_false]
         have:=indexF_ge p (l.drop (i + 1))
         (repeat' split) <;> omega
       · try simp only [go_sem]
   · apply zf;simp only [go_sem]
     repeat apply zq
     refine zb fun K hK=>?_;simp only [go_sem];(try simp (disch:=omega) only [zI]);repeat first | intro _ | refine ⟨by omega,?_⟩
     apply hK;apply ze;simp only [go_sem]
     have : l.drop i = []:=List.drop_eq_nil_of_le (by omega)
     simp [hI,this,indexF]
theorem containsB_ok (p : Bd → Bool) (f : Nat) (caps : List RV) (l : List Bd) (h : ∀ x ∈ l,ACalls Try.prog f (bedV x :: caps) (.bo (p x))) : ACalls Try.prog 122 [bedsR l,.fn f caps] (.bo (l.any p)):=by
 refine zas (rs:=[.bo (l.any p)]) [.tmp 4] Try.func122 rfl (by kernel_rfl) Try.ntmps122 rfl (by simp) rfl fun C vs=>?_
 repeat apply zq
 refine zb fun K hK=>?_;simp only [go_sem];(try simp (disch:=omega) only [zI]);repeat first | intro _ | refine ⟨by omega,?_⟩
 apply hK
 repeat apply zq
 refine zb fun K hK=>?_;simp only [go_sem];(try simp (disch:=omega) only [zI])
 refine zh (indexB_ok p f caps l h) rfl (by simp only [go_sem,i64,ints]) (by simp only [go_sem,i64,ints]) ?_
 (try simp only [go_sem]);(try simp (disch:=omega) only [zI]);repeat first | intro _ | refine ⟨by omega,?_⟩
 apply hK;apply ze;simp only [go_sem];rw [← indexF_any]
theorem indexA_ok (p : Am → Bool) (f : Nat) (caps : List RV) (l : List Am) (h : ∀ x ∈ l,ACalls Try.prog f (aimV x :: caps) (.bo (p x))) : ACalls Try.prog 119 [aimsR l,.fn f caps] (i64 (indexF p l)):=by
 refine zas (rs:=[i64 (indexF p l)]) [.tmp 4] Try.func119 rfl (by kernel_rfl) Try.ntmps119 rfl (by simp) rfl fun C vs=>?_
 repeat apply zq
 refine zb fun K hK=>?_;simp only [go_sem];(try simp (disch:=omega) only [zI]);repeat first | intro _ | refine ⟨by omega,?_⟩
 apply hK
 repeat apply zq
 refine zb fun K hK=>?_;simp only [go_sem];(try simp (disch:=omega) only [zI])
 intro hl
 repeat first | intro _ | refine ⟨by omega,?_⟩
 apply hK
 repeat apply zq
 apply zd
 refine zup (n:=19) l.length (fun i vs=>[(0,.r (aimsR l)),(1,.r (.fn f caps)),(7,.r (i64 l.length)),(8,.r (i64 i))]) (fun _=>[])
  (fun i=>indexF p l = if indexF p (l.drop i) < 0 then -1 else i + indexF p (l.drop i)) 0 (zfo [] ?_ rfl) (Nat.zero_le _) ?_ ?_
 · try simp only [go_sem]
 · simp only [List.drop_zero]
   have:=indexF_ge p l
   split
   · omega
   · simp
 · intro i vs hi hI
   repeat apply zq
   refine zb fun K hK=>?_;simp only [go_sem];(try simp (disch:=omega) only [zI]);repeat first | intro _ | refine ⟨by omega,?_⟩
   apply hK
   repeat apply zq
   apply zc rfl <;> intro hc <;> (try simp only [go_sem] at hc)
   · obtain ⟨x,hx⟩:=zol hc
     rw [drop_of_opt hx] at hI
     apply zx
     repeat apply zq
     apply zd
     repeat apply zq
     refine zb fun K hK=>?_;simp only [go_sem];(try simp (disch:=omega) only [zI]);repeat first | intro _ | refine ⟨by omega,?_⟩
     apply hK
     repeat apply zq
     refine zb fun K hK=>?_;simp only [go_sem,hx,hc,bedR,aimR];(try simp (disch:=omega) only [zI])
     refine zh (h x (zmo hx)) rfl (by simp only [go_sem,i64,ints]) (by simp only [go_sem,i64,ints]) ?_
     (try simp only [go_sem]);(try simp (disch:=omega) only [zI]);repeat first | intro _ | refine ⟨by omega,?_⟩
     apply hK
     repeat apply zq
     apply zc rfl <;> intro hc <;> (try simp only [go_sem] at hc)
     · repeat apply zq
       refine zb fun K hK=>?_;simp only [go_sem];(try simp (disch:=omega) only [zI]);repeat first | intro _ | refine ⟨by omega,?_⟩
       apply hK;apply ze;simp only [go_sem]
       simp [hI,indexF,hc]
     · apply zx
       try simp only [go_sem]
       repeat apply zq
       refine zb fun K hK=>?_;simp only [go_sem];(try simp (disch:=omega) only [zI]);repeat first | intro _ | refine ⟨by omega,?_⟩
       apply hK
       try simp only [go_sem]
       refine ⟨‹_›,?_,zfo [] ?_ rfl⟩
       · rw [hI]
         simp only [indexF,hc,Bool.false_eq_true,if_false]
         have:=indexF_ge p (l.drop (i + 1))
         (repeat' split) <;> omega
       · try simp only [go_sem]
   · apply zf;simp only [go_sem]
     repeat apply zq
     refine zb fun K hK=>?_;simp only [go_sem];(try simp (disch:=omega) only [zI]);repeat first | intro _ | refine ⟨by omega,?_⟩
     apply hK;apply ze;simp only [go_sem]
     have : l.drop i = []:=List.drop_eq_nil_of_le (by omega)
     simp [hI,this,indexF]
theorem containsA_ok (p : Am → Bool) (f : Nat) (caps : List RV) (l : List Am) (h : ∀ x ∈ l,ACalls Try.prog f (aimV x :: caps) (.bo (p x))) : ACalls Try.prog 86 [aimsR l,.fn f caps] (.bo (l.any p)):=by
 refine zas (rs:=[.bo (l.any p)]) [.tmp 4] Try.func86 rfl (by kernel_rfl) Try.ntmps86 rfl (by simp) rfl fun C vs=>?_
 repeat apply zq
 refine zb fun K hK=>?_;simp only [go_sem];(try simp (disch:=omega) only [zI]);repeat first | intro _ | refine ⟨by omega,?_⟩
 apply hK
 repeat apply zq
 refine zb fun K hK=>?_;simp only [go_sem];(try simp (disch:=omega) only [zI])
 refine zh (indexA_ok p f caps l h) rfl (by simp only [go_sem,i64,ints]) (by simp only [go_sem,i64,ints]) ?_
 (try simp only [go_sem]);(try simp (disch:=omega) only [zI]);repeat first | intro _ | refine ⟨by omega,?_⟩
 apply hK;apply ze;simp only [go_sem];rw [← indexF_any]
def bedOk (b : Int) : Bool:=decide (b = 125) || decide (b = 225) || (decide (100 ≤ b) && decide (b ≤ 499) && decide (1 ≤ b % 100) && decide (b % 100 ≤ 20))
theorem tdivN {b : Int} (h : b ≤ 0) : b.tdiv 100 = -((-b) / 100):=by
 rw [← Int.tdiv_eq_ediv_of_nonneg (by omega),Int.neg_tdiv,Int.neg_neg]
theorem tdiv100 {b : Int} (h : I64 b) : IntKind.i64.wrap (b.tdiv 100) = b.tdiv 100:=by
 unfold I64 at h
 by_cases h0 : 0 ≤ b
 · rw [Int.tdiv_eq_ediv_of_nonneg h0,zI] <;> omega
 · rw [tdivN (by omega),zI] <;> omega
theorem tdiv_lt {b : Int} (h : b < 100) : b.tdiv 100 ≤ 0:=by
 by_cases h0 : 0 ≤ b
 · rw [Int.tdiv_eq_ediv_of_nonneg h0];omega
 · rw [tdivN (by omega)];omega
theorem bedOk_within (b : Int) : (withinL 1 4 [b.tdiv 100] && withinL 1 20 [b.tmod 100] || b == 125 || b == 225) = bedOk b:=by
 unfold bedOk withinL
 by_cases h : b < 100
 · have h1:=tdiv_lt h
   have e1 : decide (1 ≤ b.tdiv 100) = false:=by simp;omega
   have e2 : decide (100 ≤ b) = false:=by simp;omega
   have e3 : decide (b = 125) = false:=by simp;omega
   have e4 : decide (b = 225) = false:=by simp;omega
   have e5 : (b == 125) = false:=by simp;omega
   have e6 : (b == 225) = false:=by simp;omega
   simp [e1,e2,e3,e4,e5,e6]
 · rw [Int.tdiv_eq_ediv_of_nonneg (by omega),Int.tmod_eq_emod_of_nonneg (by omega)]
   have e : (decide (1 ≤ b / 100) && decide (b / 100 ≤ 4)) = (decide (100 ≤ b) && decide (b ≤ 499)):=by
    by_cases h2 : b ≤ 499
    · have : b / 100 ≤ 4:=by omega
      have : 1 ≤ b / 100:=by omega
      have : 100 ≤ b:=by omega
      simp [*]
    · have : ¬ b / 100 ≤ 4:=by omega
      simp [*]
   simp only [List.all_cons,List.all_nil,Bool.and_true,e]
   have e1 : (b == 125) = decide (b = 125):=by rw [Bool.eq_iff_iff];simp
   have e2 : (b == 225) = decide (b = 225):=by rw [Bool.eq_iff_iff];simp
   rw [e1,e2]
   cases decide (b = 125) <;> cases decide (b = 225) <;> simp [Bool.and_assoc]
theorem isBed_ok (b : Int) (hb : I64 b) : ACalls Try.prog 135 [i64 b] (.bo (bedOk b)):=by
 have hq:=tdiv100 hb
 refine zas (rs:=[.bo (bedOk b)]) [.tmp 2] Try.func135 rfl (by kernel_rfl) Try.ntmps135 rfl (by simp) rfl fun C vs=>?_
 repeat apply zq
 refine zb fun K hK=>?_;simp only [go_sem];(try simp (disch:=omega) only [zI]);repeat first | intro _ | refine ⟨by omega,?_⟩
 apply hK;clear hK K
 repeat apply zq
 refine zb fun K hK=>?_;simp only [go_sem,hq];(try simp (disch:=omega) only [zI]);repeat first | intro _ | refine ⟨by omega,?_⟩
 apply hK;clear hK K
 repeat apply zq
 refine zb fun K hK=>?_;simp only [go_sem];(try simp (disch:=omega) only [zI])
 refine zh (within_ok 1 4 [b.tdiv 100]) rfl (by simp only [go_sem,i64,ints]) (by simp only [go_sem,i64,ints]) ?_
 (try simp only [go_sem]);(try simp (disch:=omega) only [zI])
 have hw:=bedOk_within b
 refine ⟨fun h1=>?_,fun h1=>?_⟩
 · refine zh (within_ok 1 20 [b.tmod 100]) rfl (by simp only [go_sem,i64,ints]) (by simp only [go_sem,i64,ints]) ?_
   (try simp only [go_sem]);(try simp (disch:=omega) only [zI])
   repeat' first | intro _ | refine And.intro ?_ ?_
   all_goals first | omega | skip
   all_goals (refine hK _ ?_;clear hK K)
   all_goals (apply ze;simp only [go_sem])
   all_goals (rw [← hw];clear hw;simp [*])
 · repeat' first | intro _ | refine And.intro ?_ ?_
   all_goals first | omega | skip
   all_goals (refine hK _ ?_;clear hK K)
   all_goals (apply ze;simp only [go_sem])
   all_goals (rw [← hw];clear hw;simp [*])
def scoreOf (b : Int) : Int:=b / 100 * (b % 100)
theorem score_le {b : Int} (h0 : 0 ≤ b) (h1 : b ≤ 499) : 0 ≤ scoreOf b ∧ scoreOf b ≤ 396:=by
 unfold scoreOf
 have h2 : 0 ≤ b / 100:=by omega
 have h3 : b / 100 ≤ 4:=by omega
 refine ⟨Int.mul_nonneg h2 (by omega),?_⟩
 have:=Int.mul_le_mul h3 (show b % 100 ≤ 99 by omega) (by omega) (by omega)
 omega
def loS (l : List Bd) : Int:=(l.map (·.lo)).sum
def hiS (l : List Bd) : Int:=(l.map (·.hi)).sum
theorem loS_snoc (l : List Bd) (x : Bd) : loS (l ++ [x]) = loS l + x.lo:=by simp [loS]
theorem hiS_snoc (l : List Bd) (x : Bd) : hiS (l ++ [x]) = hiS l + x.hi:=by simp [hiS]
def Small (l : List Bd) : Prop:=∀ x ∈ l,(0 ≤ x.lo ∧ x.lo ≤ 6000) ∧ 0 ≤ x.hi ∧ x.hi ≤ 6000
theorem sums_le : ∀ {l : List Bd},Small l → (0 ≤ loS l ∧ loS l ≤ 6000 * l.length) ∧ 0 ≤ hiS l ∧ hiS l ≤ 6000 * l.length
 | [],_=>by simp [loS,hiS]
 | x :: l, h => by
   have h1:=h x (by simp)
   have h2:=sums_le (l:=l) fun y hy=>h y (by simp [hy])
   simp only [loS,hiS,List.map_cons,List.sum_cons,List.length_cons] at h2 ⊢
   omega
theorem Small.take {l : List Bd} (h : Small l) (i : Nat) : Small (l.take i):=fun x hx=>h x (List.mem_of_mem_take hx)
theorem sums_ok (a : Int) (l : List Bd) (d : Int) (hs : Small l) (hl : l.length ≤ 1000) : ACalls Try.prog 124 [.ag [i64 a,bedsR l,i64 d]] (.ag [i64 (loS l),i64 (hiS l)]):=by
 refine zas (rs:=[.ag [i64 (loS l),i64 (hiS l)]]) [.cell 2 66] Try.func124 rfl (by kernel_rfl) Try.ntmps124 rfl (by simp) rfl fun C vs=>?_
 repeat apply zq
 refine zb fun K hK=>?_;simp only [go_sem];(try simp (disch:=omega) only [zI]);repeat first | intro _ | refine ⟨by omega,?_⟩
 apply hK;apply zw (zk [1,2]);simp only [go_sem]
 repeat apply zq
 refine zb fun K hK=>?_;simp only [go_sem];(try simp (disch:=omega) only [zI])
 intro _
 repeat first | intro _ | refine ⟨by omega,?_⟩
 apply hK;apply zw (zk [2,7,8,9]);simp only [go_sem]
 repeat apply zq
 apply zd
 refine zup (n:=29) l.length (fun i vs=>[(2,.pt 2 (vs 2) 0),(7,.r (bedsR l)),(8,.r (i64 l.length)),(9,.r (i64 i))])
  (fun i=>[(2,.box [.r (i64 (loS (l.take i))),.r (i64 (hiS (l.take i)))])]) (fun _=>True) 0 (zfo [1] ?_ ?_) (Nat.zero_le _) trivial ?_
 · try simp only [go_sem]
 · try simp only [go_sem]
   simp [loS,hiS]
 · intro i vs hi _
   repeat apply zq
   refine zb fun K hK=>?_;simp only [go_sem];(try simp (disch:=omega) only [zI]);repeat first | intro _ | refine ⟨by omega,?_⟩
   apply hK
   repeat apply zq
   apply zc rfl <;> intro hc <;> (try simp only [go_sem] at hc)
   · obtain ⟨x,hx⟩:=zol hc
     have hb:=sums_le (hs.take (i + 1))
     have ht:=zto hx
     have hlt : (l.take (i + 1)).length ≤ 1000:=by rw [List.length_take];omega
     rw [ht,loS_snoc,hiS_snoc] at hb
     rw [ht] at hlt
     apply zx
     repeat apply zq
     apply zd
     repeat apply zq
     refine zb fun K hK=>?_;simp only [go_sem,hx,hc,bedR];(try simp (disch:=omega) only [zI]);repeat first | intro _ | refine ⟨by omega,?_⟩
     apply hK;apply zw (zk [2,4,7,8,9]);simp only [go_sem]
     repeat apply zq
     refine awp_dreg2 [(2,some 2),(4,some 4)] follows (by decide +kernel) (by kernel_rfl) (by simp only [keysOk,List.mem_cons,List.not_mem_nil,forall_eq_or_imp,Oc.keyOf,go_sem];simp) fun K hK=>?_
     simp only [go_sem];(try simp (disch:=omega) only [zI]);repeat first | intro _ | refine ⟨by omega,?_⟩
     apply hK;apply zw (zk [2,7,8,9]);simp only [go_sem]
     repeat apply zq
     refine zb fun K hK=>?_;simp only [go_sem];(try simp (disch:=omega) only [zI]);repeat first | intro _ | refine ⟨by omega,?_⟩
     apply hK
     try simp only [go_sem]
     refine ⟨hc,zfo [4] ?_ ?_⟩
     · try simp only [go_sem]
     · try simp only [go_sem]
       rw [ht,loS_snoc,hiS_snoc]
   · apply zf;simp only [go_sem]
     repeat apply zq
     refine zb fun K hK=>?_;simp only [go_sem];(try simp (disch:=omega) only [zI]);repeat first | intro _ | refine ⟨by omega,?_⟩
     apply hK;apply zw (zk [2]);simp only [go_sem];apply ze;simp only [go_sem]
     have : l.take i = l:=List.take_of_length_le (by omega)
     simp [this]
def seqOk : Option Int → List Bd → Bool
 | _,[]=>true
 | p,x :: l=>(decide (x.b = 0) || bedOk x.b) && (match p with | none=>true | some q=>decide (q < x.b)) && seqOk (some x.b) l
def prevB (l : List Bd) : Nat → Option Int
 | 0=>none
 | i + 1=>(l[i]?).map (·.b)
def Wf (l : List Bd) : Prop:=∀ x ∈ l,I64 x.b ∧ I64 x.lo ∧ I64 x.hi
theorem areBeds_ok (a : Int) (l : List Bd) (d : Int) (ha : I64 a) (hw : Wf l) : ACalls Try.prog 104 [.ag [i64 a,bedsR l,i64 d]] (.bo (bedOk a && !l.isEmpty && seqOk none l)):=by
 refine zas (rs:=[.bo (bedOk a && !l.isEmpty && seqOk none l)]) [.tmp 2] Try.func104 rfl (by kernel_rfl) Try.ntmps104 rfl (by simp) rfl fun C vs=>?_
 repeat apply zq
 refine zb fun K hK=>?_;simp only [go_sem];(try simp (disch:=omega) only [zI]);repeat first | intro _ | refine ⟨by omega,?_⟩
 apply hK;apply zw (zk [1]);simp only [go_sem]
 repeat apply zq
 refine zb fun K hK=>?_;simp only [go_sem];(try simp (disch:=omega) only [zI])
 refine zh (isBed_ok a ha) rfl (by simp only [go_sem,i64,ints]) (by simp only [go_sem,i64,ints]) ?_
 (try simp only [go_sem]);(try simp (disch:=omega) only [zI])
 cases hA : bedOk a
 · try simp only [go_sem]
   repeat first | intro _ | refine ⟨by omega,?_⟩
   apply hK
   repeat apply zq
   apply zc rfl <;> intro hc <;> (try simp only [go_sem] at hc)
   repeat apply zq
   refine zb fun K hK=>?_;simp only [go_sem];(try simp (disch:=omega) only [zI]);repeat first | intro _ | refine ⟨by omega,?_⟩
   apply hK;apply ze;simp only [go_sem]
   simp [hA]
 try simp only [go_sem]
 intro _
 cases hE : l.isEmpty
 case true =>
  have h0 : l = []:=List.isEmpty_iff.1 hE
  subst h0
  try simp only [go_sem]
  repeat first | intro _ | refine ⟨by omega,?_⟩
  apply hK
  repeat apply zq
  apply zc rfl <;> intro hc <;> (try simp only [go_sem] at hc)
  repeat apply zq
  refine zb fun K hK=>?_;simp only [go_sem];(try simp (disch:=omega) only [zI]);repeat first | intro _ | refine ⟨by omega,?_⟩
  apply hK;apply ze;simp only [go_sem]
  simp
 have hne : ((l.length : Int) == 0) = false:=by
  cases l with
  | nil=>simp at hE
  | cons=>simp;omega
 rw [hne]
 repeat first | intro _ | refine ⟨by omega,?_⟩
 apply hK;apply zw (zk [1,16]);simp only [go_sem]
 repeat apply zq
 apply zc rfl <;> intro hc <;> (try simp only [go_sem] at hc)
 apply zx
 try simp only [go_sem]
 repeat apply zq
 refine zb fun K hK=>?_;simp only [go_sem];(try simp (disch:=omega) only [zI])
 intro hl9
 repeat first | intro _ | refine ⟨by omega,?_⟩
 apply hK;apply zw (zk [1,19,20,21]);simp only [go_sem]
 repeat apply zq
 apply zd
 refine zup (n:=53) l.length (fun i vs=>[(1,.pt 1 (vs 1) 0),(19,.r (bedsR l)),(20,.r (i64 l.length)),(21,.r (i64 i))])
  (fun i=>[(1,.box [.r (i64 a),.r (bedsR l),.r (i64 d)])]) (fun i=>seqOk none l = seqOk (prevB l i) (l.drop i)) 0 (zfo [] ?_ ?_) (Nat.zero_le _) rfl ?_
 · try simp only [go_sem]
 · try simp only [go_sem]
 · intro i vs hi hI
   repeat apply zq
   refine zb fun K hK=>?_;simp only [go_sem];(try simp (disch:=omega) only [zI]);repeat first | intro _ | refine ⟨by omega,?_⟩
   apply hK
   repeat apply zq
   apply zc rfl <;> intro hc <;> (try simp only [go_sem] at hc)
   · obtain ⟨x,hx⟩:=zol hc
     rw [drop_of_opt hx] at hI
     obtain ⟨hxb,_,_⟩:=hw x (zmo hx)
     have hB : ACalls Try.prog 135 [i64 x.b] (.bo (bedOk x.b)):=isBed_ok x.b hxb
     apply zx
     repeat apply zq
     apply zd
     repeat apply zq
     refine zb fun K hK=>?_;simp only [go_sem,hx,hc,bedR];(try simp (disch:=omega) only [zI]);repeat first | intro _ | refine ⟨by omega,?_⟩
     apply hK;apply zw (zk [1,3,4,19,20,21]);simp only [go_sem]
     have hp : ∀ q,prevB l i = some q → ∃ y j,i = j + 1 ∧ l[j]? = some y ∧ q = y.b:=fun q hq=>by
      cases i with
      | zero=>cases hq
      | succ j =>
        obtain ⟨y,hy⟩:=zol (l:=l) (i:=j) (by omega)
        simp only [prevB,hy,Option.map_some,Option.some.injEq] at hq
        exact ⟨y,j,rfl,hy,hq.symm⟩
     cases hb0 : decide (x.b = 0) || bedOk x.b
     · have h0 : (x.b != 0) = true:=by simp_all
       have h1 : bedOk x.b = false:=by simp_all
       rw [h1] at hB
       repeat apply zq
       refine awp_dreg2 [(1,some 1),(3,none),(4,some 4)] follows (by decide +kernel) (by kernel_rfl) (by simp only [keysOk,List.mem_cons,List.not_mem_nil,forall_eq_or_imp,Oc.keyOf,go_sem];simp) fun K hK=>?_
       simp only [go_sem,h0];(try simp (disch:=omega) only [zI])
       refine zh (hB) rfl (by simp only [go_sem,i64,ints]) (by simp only [go_sem,i64,ints]) ?_
       (try simp only [go_sem]);(try simp (disch:=omega) only [zI]);repeat first | intro _ | refine ⟨by omega,?_⟩
       apply hK;apply zw (zk [1,19,20,21,51]);simp only [go_sem]
       repeat apply zq
       apply zc rfl <;> intro hc <;> (try simp only [go_sem] at hc)
       repeat apply zq
       refine zb fun K hK=>?_;simp only [go_sem];(try simp (disch:=omega) only [zI]);repeat first | intro _ | refine ⟨by omega,?_⟩
       apply hK;apply ze;simp only [go_sem]
       simp [hI,seqOk,hb0]
     have hnx : prevB l (i + 1) = some x.b:=by simp [prevB,hx]
     have hstep : seqOk none l = ((match prevB l i with | none=>true | some q=>decide (q < x.b)) && seqOk (prevB l (i + 1)) (l.drop (i + 1))):=by
      rw [hI,hnx]
      simp only [seqOk,hb0,Bool.true_and]
     cases i with
     | zero =>
       have hp0 : seqOk none l = seqOk (prevB l 1) (l.drop 1):=by simpa [prevB] using hstep
       by_cases h0 : x.b = 0
       · have e0 : (x.b != 0) = false:=by simp [h0]
         repeat apply zq
         refine awp_dreg2 [(1,some 1),(3,none),(4,some 4)] follows (by decide +kernel) (by kernel_rfl) (by simp only [keysOk,List.mem_cons,List.not_mem_nil,forall_eq_or_imp,Oc.keyOf,go_sem];simp) fun K hK=>?_
         simp only [go_sem,e0];(try simp (disch:=omega) only [zI]);repeat first | intro _ | refine ⟨by omega,?_⟩
         apply hK;apply zw (zk [1,19,20,21,51]);simp only [go_sem]
         repeat apply zq
         apply zc rfl <;> intro hc <;> (try simp only [go_sem] at hc)
         apply zx
         try simp only [go_sem]
         repeat apply zq
         refine zb fun K hK=>?_;simp only [go_sem];(try simp (disch:=omega) only [zI]);repeat first | intro _ | refine ⟨by omega,?_⟩
         apply hK
         try simp only [go_sem]
         exact ⟨by omega,hp0,zfo [4] (by try simp only [go_sem]) (by try simp only [go_sem])⟩
       · have e0 : (x.b != 0) = true:=by simp [h0]
         have e1 : bedOk x.b = true:=by simpa [h0] using hb0
         rw [e1] at hB
         repeat apply zq
         refine awp_dreg2 [(1,some 1),(3,none),(4,some 4)] follows (by decide +kernel) (by kernel_rfl) (by simp only [keysOk,List.mem_cons,List.not_mem_nil,forall_eq_or_imp,Oc.keyOf,go_sem];simp) fun K hK=>?_
         simp only [go_sem,e0];(try simp (disch:=omega) only [zI])
         refine zh (hB) rfl (by simp only [go_sem,i64,ints]) (by simp only [go_sem,i64,ints]) ?_
         (try simp only [go_sem]);(try simp (disch:=omega) only [zI]);repeat first | intro _ | refine ⟨by omega,?_⟩
         apply hK;apply zw (zk [1,19,20,21,51]);simp only [go_sem]
         repeat apply zq
         apply zc rfl <;> intro hc <;> (try simp only [go_sem] at hc)
         apply zx
         try simp only [go_sem]
         repeat apply zq
         refine zb fun K hK=>?_;simp only [go_sem];(try simp (disch:=omega) only [zI]);repeat first | intro _ | refine ⟨by omega,?_⟩
         apply hK
         try simp only [go_sem]
         exact ⟨by omega,hp0,zfo [4] (by try simp only [go_sem]) (by try simp only [go_sem])⟩
     | succ j =>
       obtain ⟨y,hy⟩:=zol (l:=l) (i:=j) (by omega)
       have hpy : prevB l (j + 1) = some y.b:=by simp [prevB,hy]
       rw [hpy] at hstep
       have hj1 : IntKind.i64.wrap ((j : Int) + 1 - 1) = (j : Int):=by rw [zI] <;> omega
       have hj2 : j < l.length:=by omega
       have hj0 : (0 < (j : Int) + 1) = True:=by simp
       have go : ∀ (e : Bool),decide (x.b ≤ y.b) = e → (e = true → seqOk none l = false) ∧ (e = false → seqOk none l = seqOk (prevB l (j + 1 + 1)) (l.drop (j + 1 + 1))):=fun e he=>by
        refine ⟨fun h=>?_,fun h=>?_⟩
        · have : decide (y.b < x.b) = false:=by simp_all
          rw [hstep];simp [this]
        · have : decide (y.b < x.b) = true:=by simp_all
          rw [hstep];simp [this]
       obtain ⟨go1,go2⟩:=go _ rfl
       by_cases h0 : x.b = 0
       · have e0 : (x.b != 0) = false:=by simp [h0]
         repeat apply zq
         refine awp_dreg2 [(1,some 1),(3,none),(4,some 4)] follows (by decide +kernel) (by kernel_rfl) (by simp only [keysOk,List.mem_cons,List.not_mem_nil,forall_eq_or_imp,Oc.keyOf,go_sem];simp) fun K hK=>?_
         simp only [go_sem,e0,hj1,hj0,hy,bedR];(try simp (disch:=omega) only [zI]);repeat first | intro _ | refine ⟨by omega,?_⟩
         apply hK;apply zw (zk [1,19,20,21,51]);simp only [go_sem]
         cases hle : decide (x.b ≤ y.b)
         · repeat apply zq
           apply zc rfl <;> intro hc <;> (try simp only [go_sem] at hc)
           apply zx
           try simp only [go_sem]
           repeat apply zq
           refine zb fun K hK=>?_;simp only [go_sem];(try simp (disch:=omega) only [zI]);repeat first | intro _ | refine ⟨by omega,?_⟩
           apply hK
           try simp only [go_sem]
           exact ⟨by omega,go2 hle,zfo [4] (by try simp only [go_sem]) (by try simp only [go_sem])⟩
         · repeat apply zq
           apply zc rfl <;> intro hc <;> (try simp only [go_sem] at hc)
           repeat apply zq
           refine zb fun K hK=>?_;simp only [go_sem];(try simp (disch:=omega) only [zI]);repeat first | intro _ | refine ⟨by omega,?_⟩
           apply hK;apply ze;simp only [go_sem]
           simp [go1 hle]
       · have e0 : (x.b != 0) = true:=by simp [h0]
         have e1 : bedOk x.b = true:=by simpa [h0] using hb0
         rw [e1] at hB
         repeat apply zq
         refine awp_dreg2 [(1,some 1),(3,none),(4,some 4)] follows (by decide +kernel) (by kernel_rfl) (by simp only [keysOk,List.mem_cons,List.not_mem_nil,forall_eq_or_imp,Oc.keyOf,go_sem];simp) fun K hK=>?_
         simp only [go_sem,e0,hj1,hj0,hy,bedR];(try simp (disch:=omega) only [zI])
         refine zh (hB) rfl (by simp only [go_sem,i64,ints,hj1,hj0,hy,bedR]) (by simp only [go_sem,i64,ints,hj1,hj0,hy,bedR]) ?_
         (try simp only [go_sem,hj1,hj0,hy,bedR]);(try simp (disch:=omega) only [zI]);repeat first | intro _ | refine ⟨by omega,?_⟩
         apply hK;apply zw (zk [1,19,20,21,51]);simp only [go_sem]
         cases hle : decide (x.b ≤ y.b)
         · repeat apply zq
           apply zc rfl <;> intro hc <;> (try simp only [go_sem] at hc)
           apply zx
           try simp only [go_sem]
           repeat apply zq
           refine zb fun K hK=>?_;simp only [go_sem];(try simp (disch:=omega) only [zI]);repeat first | intro _ | refine ⟨by omega,?_⟩
           apply hK
           try simp only [go_sem]
           exact ⟨by omega,go2 hle,zfo [4] (by try simp only [go_sem]) (by try simp only [go_sem])⟩
         · repeat apply zq
           apply zc rfl <;> intro hc <;> (try simp only [go_sem] at hc)
           repeat apply zq
           refine zb fun K hK=>?_;simp only [go_sem];(try simp (disch:=omega) only [zI]);repeat first | intro _ | refine ⟨by omega,?_⟩
           apply hK;apply ze;simp only [go_sem]
           simp [go1 hle]
   · apply zf;simp only [go_sem]
     repeat apply zq
     refine zb fun K hK=>?_;simp only [go_sem];(try simp (disch:=omega) only [zI]);repeat first | intro _ | refine ⟨by omega,?_⟩
     apply hK;apply zw (zk [2]);simp only [go_sem];apply ze;simp only [go_sem]
     have : l.drop i = []:=List.drop_eq_nil_of_le (by omega)
     have h0 : l ≠ []:=fun e=>by rw [e] at hE;simp at hE
     simp [hI,this,seqOk,hA,h0]
def badCh (d : Int) (x : Bd) : Bool:=!withinL 0 d [x.lo,x.hi] || decide (x.hi < x.lo)
theorem valid1_ok (a : Int) (l : List Bd) (d : Int) (x : Bd) : ACalls Try.prog 123 [bedV x,.rp [i64 a,bedsR l,i64 d]] (.bo (badCh d x)):=by
 refine zas (rs:=[.bo (badCh d x)]) [.tmp 3] Try.func123 rfl (by kernel_rfl) Try.ntmps123 rfl (by simp) rfl fun C vs=>?_
 repeat apply zq
 refine zb fun K hK=>?_;simp only [go_sem];(try simp (disch:=omega) only [zI]);repeat first | intro _ | refine ⟨by omega,?_⟩
 apply hK;clear hK K
 repeat apply zq
 refine zb fun K hK=>?_;simp only [go_sem];(try simp (disch:=omega) only [zI])
 refine zh (within_ok 0 d [x.lo,x.hi]) rfl (by simp only [go_sem,i64,ints]) (by simp only [go_sem,i64,ints]) ?_
 (try simp only [go_sem]);(try simp (disch:=omega) only [zI])
 refine ⟨fun h=>?_,fun h=>?_⟩
 · repeat first | intro _ | refine ⟨by omega,?_⟩
   apply hK;clear hK K;apply ze;simp only [go_sem]
   simp [badCh,h]
 · repeat first | intro _ | refine ⟨by omega,?_⟩
   apply hK;clear hK K;apply ze;simp only [go_sem]
   simp [badCh,h]
def chOk (d : Int) (l : List Bd) : Bool:=l.all fun x=>decide (0 ≤ x.lo) && decide (x.lo ≤ x.hi) && decide (x.hi ≤ d)
theorem badCh_eq (d : Int) (l : List Bd) : (!(l.any (badCh d))) = chOk d l:=by
 unfold chOk
 rw [List.not_any_eq_all_not]
 congr 1
 funext x
 unfold badCh withinL
 simp only [List.all_cons,List.all_nil,Bool.and_true]
 by_cases h1 : 0 ≤ x.lo <;> by_cases h2 : x.lo ≤ d <;> by_cases h3 : 0 ≤ x.hi <;> by_cases h4 : x.hi ≤ d <;> by_cases h5 : x.hi < x.lo <;> by_cases h6 : x.lo ≤ x.hi <;> simp [h1,h2,h3,h4,h5,h6] <;> omega
theorem chOk_small {d : Int} {l : List Bd} (h : chOk d l = true) (hd : d ≤ 6000) : Small l:=fun x hx=>by
 have:=List.all_eq_true.1 h x hx
 simp only [Bool.and_eq_true,decide_eq_true_eq] at this
 omega
def aimOk (d : Int) (a : Am) : Bool:=bedOk a.at_ && !a.beds.isEmpty && seqOk none a.beds && chOk d a.beds && decide (loS a.beds ≤ d) && decide (d ≤ hiS a.beds)
def WfA (a : Am) : Prop:=I64 a.at_ ∧ Wf a.beds
theorem isValid_ok (a : Am) (d : Int) (hw : WfA a) (hd : d ≤ 6000) (hl : a.beds.length ≤ 1000) : ACalls Try.prog 90 [chV a d] (.bo (aimOk d a)):=by
 refine zas (rs:=[.bo (aimOk d a)]) [.tmp 2] Try.func90 rfl (by kernel_rfl) Try.ntmps90 rfl (by simp) rfl fun C vs=>?_
 repeat apply zq
 refine zb fun K hK=>?_;simp only [go_sem];(try simp (disch:=omega) only [zI]);repeat first | intro _ | refine ⟨by omega,?_⟩
 apply hK;clear hK K;apply zw (zk [1]);simp only [go_sem]
 repeat apply zq
 refine zb fun K hK=>?_;simp only [go_sem];(try simp (disch:=omega) only [zI])
 refine zh (areBeds_ok a.at_ a.beds d hw.1 hw.2) rfl (by simp only [go_sem,i64,ints]) (by simp only [go_sem,i64,ints]) ?_
 (try simp only [go_sem]);(try simp (disch:=omega) only [zI])
 cases h1 : (bedOk a.at_ && !a.beds.isEmpty && seqOk none a.beds)
 · try simp only [go_sem]
   repeat first | intro _ | refine ⟨by omega,?_⟩
   apply hK;clear hK K
   repeat apply zq
   apply zc rfl <;> intro hc <;> (try simp only [go_sem] at hc)
   repeat apply zq
   refine zb fun K hK=>?_;simp only [go_sem];(try simp (disch:=omega) only [zI]);repeat first | intro _ | refine ⟨by omega,?_⟩
   apply hK;clear hK K;apply ze;simp only [go_sem]
   simp [aimOk,h1]
 try simp only [go_sem]
 refine zh (containsB_ok (badCh d) 123 [.rp [i64 a.at_,bedsR a.beds,i64 d]] a.beds fun x _=>valid1_ok a.at_ a.beds d x) rfl (by simp only [go_sem,i64,ints]) (by simp only [go_sem,i64,ints]) ?_
 (try simp only [go_sem]);(try simp (disch:=omega) only [zI]);repeat first | intro _ | refine ⟨by omega,?_⟩
 apply hK;clear hK K;apply zw (zk [1,13]);simp only [go_sem]
 have h2:=badCh_eq d a.beds
 cases h3 : a.beds.any (badCh d)
 · rw [h3] at h2
   have h4 : chOk d a.beds = true:=by simpa using h2.symm
   repeat apply zq
   apply zc rfl <;> intro hc <;> (try simp only [go_sem] at hc)
   apply zx
   try simp only [go_sem]
   repeat apply zq
   refine zb fun K hK=>?_;simp only [go_sem];(try simp (disch:=omega) only [zI])
   refine zh (sums_ok a.at_ a.beds d (chOk_small h4 hd) hl) rfl (by simp only [go_sem,i64,ints]) (by simp only [go_sem,i64,ints]) ?_
   (try simp only [go_sem]);(try simp (disch:=omega) only [zI]);repeat first | intro _ | refine ⟨by omega,?_⟩
   apply hK;clear hK K;apply zw (zk [1,3]);simp only [go_sem]
   repeat apply zq
   refine zb fun K hK=>?_;simp only [go_sem];(try simp (disch:=omega) only [zI])
   refine zh (within_ok (loS a.beds) (hiS a.beds) [d]) rfl (by simp only [go_sem,i64,ints]) (by simp only [go_sem,i64,ints]) ?_
   (try simp only [go_sem]);(try simp (disch:=omega) only [zI]);repeat first | intro _ | refine ⟨by omega,?_⟩
   apply hK;clear hK K;apply ze;simp only [go_sem]
   simp [aimOk,h1,h4,withinL]
 · rw [h3] at h2
   have h4 : chOk d a.beds = false:=by simpa using h2.symm
   repeat apply zq
   apply zc rfl <;> intro hc <;> (try simp only [go_sem] at hc)
   repeat apply zq
   refine zb fun K hK=>?_;simp only [go_sem];(try simp (disch:=omega) only [zI]);repeat first | intro _ | refine ⟨by omega,?_⟩
   apply hK;clear hK K;apply ze;simp only [go_sem]
   simp [aimOk,h4]
def enumA (d : Int) (l : List Am) : List (List RV):=l.zipIdx.map fun x=>[i64 x.2,chV x.1 d]
theorem enumA_get {d : Int} {l : List Am} {i : Nat} {e : List RV} (h : (enumA d l)[i]? = some e) : ∃ x,l[i]? = some x ∧ e = [i64 i,chV x d]:=by
 simp only [enumA,List.getElem?_map,List.getElem?_zipIdx,Nat.zero_add] at h
 cases hx : l[i]? with
 | none=>rw [hx] at h;cases h
 | some x=>rw [hx] at h;simp only [Option.map_some,Option.some.injEq] at h;exact ⟨x,rfl,h.symm⟩
theorem enumA_len {d : Int} {l : List Am} {e : List RV} (h : e ∈ enumA d l) : e.length = 2:=by
 obtain ⟨i,hi⟩:=List.getElem?_of_mem h
 obtain ⟨x,_,rfl⟩:=enumA_get hi
 rfl
theorem xcall_yield {n : Nat} {l : List (Nat × AV)} {vs : Nat → Nat} {cs : List (Nat × RowC)} {P : Program} {d : Option Nat} {ll : Nat} {z : Bool} {e : List RV} {rest : List (List RV)} {xs : List AV} {K : AS → Prop} (hrow : lookc cs 999 = .gh P ll z (some (e :: rest)))
 (hp : AV.pureL xs = true) (he : snapVL (st n l vs cs).rows xs = e) (hfl : RV.flatL e = true ∨ z = false) (hK1 : K ((st n l vs (insc cs 999 (.gh P ll z (some rest)))).put d (.r (.bo true)))) (hK2 : K ((st n l vs (insc cs 999 (.gh P ll z none))).put d (.r (.bo false)))) :
 xcall P false (st n l vs cs) d (.r (.yl ll)) xs K:=by
 have hr : ∀ c,(st n l vs cs).row 999 ⟨((st n l vs cs).rows 999).ver,c⟩ = st n l vs (insc cs 999 c):=fun c=>by
  rw [row_st]
  congr 1
  exact upd_self vs 999
 exact .inr (.inl ⟨rfl,.inr (.inr (.inl ⟨ll,z,e,rest,rfl,hrow,hp,he ▸ leL_refl _,hfl,by rw [hr];exact hK1,by rw [hr];exact hK2⟩))⟩)
theorem all1_ok (d : Int) (l : List Am) : ICalls Try.prog false 121 [.rp [i64 d,aimsR l]] (enumA d l):=by
 refine icalls_st Try.func121 rfl (by kernel_rfl) Try.ntmps121 rfl (by simp) fun C ll=>?_
 repeat apply zq
 refine zb fun K hK=>?_;simp only [go_sem,argL];(try simp (disch:=omega) only [zI])
 intro hl7
 repeat first | intro _ | refine ⟨by omega,?_⟩
 apply hK;clear hK K;apply zw (zk [0,1,6,7,8]);simp only [go_sem]
 repeat apply zq
 apply zd
 refine zup (n:=22) l.length (fun i vs=>[(0,.r (.yl ll)),(1,.r (.rp [i64 d,aimsR l])),(6,.r (aimsR l)),(7,.r (i64 l.length)),(8,.r (i64 i))])
  (fun i=>[(999,.gh Try.prog ll false (some ((enumA d l).drop i)))]) (fun _=>True) 0 (zfo [] ?_ ?_) (Nat.zero_le _) trivial ?_
 · try simp only [go_sem]
 · try simp only [go_sem]
 · intro i vs hi _
   repeat apply zq
   refine zb fun K hK=>?_;simp only [go_sem];(try simp (disch:=omega) only [zI]);repeat first | intro _ | refine ⟨by omega,?_⟩
   apply hK;clear hK K
   repeat apply zq
   apply zc rfl <;> intro hc <;> (try simp only [go_sem] at hc)
   · obtain ⟨x,hx⟩:=zol hc
     have hci:=hc
     have he : (enumA d l).drop i = [i64 i,chV x d] :: (enumA d l).drop (i + 1):=by
      refine drop_of_opt ?_
      simp [enumA,hx]
     apply zx
     repeat apply zq
     apply zd
     repeat apply zq
     refine zb fun K hK=>?_;simp only [go_sem,hx,hc,aimR];(try simp (disch:=omega) only [zI]);repeat first | intro _ | refine ⟨by omega,?_⟩
     apply hK;clear hK K;apply zw (zk [0,1,3,4,6,7,8]);simp only [go_sem]
     repeat apply zq
     refine zb fun K hK=>?_;simp only [go_sem];(try simp (disch:=omega) only [zI])
     refine xcall_yield (e:=[i64 i,chV x d]) (rest:=(enumA d l).drop (i + 1)) (by simp only [go_sem,he]) rfl (by simp only [go_sem]) (.inr rfl) ?_ ?_
     · simp only [go_sem];repeat first | intro _ | refine ⟨by omega,?_⟩
       apply hK;clear hK K;apply zw (zk [0,1,6,7,8,20]);simp only [go_sem]
       repeat apply zq
       apply zc rfl <;> intro hc <;> (try simp only [go_sem] at hc)
       apply zx
       try simp only [go_sem]
       repeat apply zq
       refine zb fun K hK=>?_;simp only [go_sem];(try simp (disch:=omega) only [zI]);repeat first | intro _ | refine ⟨by omega,?_⟩
       apply hK;clear hK K
       try simp only [go_sem]
       exact ⟨hci,zfo [4] (by try simp only [go_sem]) (by try simp only [go_sem])⟩
     · simp only [go_sem];repeat first | intro _ | refine ⟨by omega,?_⟩
       apply hK;clear hK K;apply zw (zk [20]);simp only [go_sem]
       repeat apply zq
       apply zc rfl <;> intro hc <;> (try simp only [go_sem] at hc)
       apply ze;simp only [go_sem];exact ⟨_,_,.inr rfl⟩
   · apply zf;simp only [go_sem]
     have h0 : (enumA d l).drop i = []:=List.drop_eq_nil_of_le (by simp [enumA];omega)
     exact ⟨ll,false,.inl (by simp only [go_sem,h0])⟩
theorem all_ok (d : Int) (l : List Am) : ACalls Try.prog 89 [lawV d l] (.fn 121 [.rp [i64 d,aimsR l]]):=by
 refine zas (rs:=[.fn 121 [.rp [i64 d,aimsR l]]]) [.tmp 2] Try.func89 rfl (by kernel_rfl) Try.ntmps89 rfl (by simp) rfl fun C vs=>?_
 repeat apply zq
 refine zb fun K hK=>?_;simp only [go_sem];(try simp (disch:=omega) only [zI]);repeat first | intro _ | refine ⟨by omega,?_⟩
 apply hK;clear hK K
 repeat apply zq
 refine zb fun K hK=>?_;simp only [go_sem];(try simp (disch:=omega) only [zI]);repeat first | intro _ | refine ⟨by omega,?_⟩
 apply hK;clear hK K;apply ze;simp only [go_sem]
 simp [RV.le,leL_refl.le_refl,leL_refl]
theorem check1_ok (a : Am) : ACalls Try.prog 87 [aimV a] (.bo (decide (10 < a.beds.length))):=by
 refine zas (rs:=[.bo (decide (10 < a.beds.length))]) [.tmp 2] Try.func87 rfl (by kernel_rfl) Try.ntmps87 rfl (by simp) rfl fun C vs=>?_
 repeat apply zq
 refine zb fun K hK=>?_;simp only [go_sem];(try simp (disch:=omega) only [zI]);repeat first | intro _ | refine ⟨by omega,?_⟩
 apply hK;clear hK K
 repeat apply zq
 refine zb fun K hK=>?_;simp only [go_sem];(try simp (disch:=omega) only [zI])
 intro _
 repeat first | intro _ | refine ⟨by omega,?_⟩
 apply hK;clear hK K;apply ze;simp only [go_sem]
 simp
 omega
def checkV (d : Int) (l : List Am) : Int :=
 if (decide (20 < l.length) || l.any fun a=>decide (10 < a.beds.length)) = true then 5
 else if (l.isEmpty || !(decide (1 ≤ d) && decide (d ≤ 3000))) = true then 2
 else if l.all (aimOk d) = true then 0 else 2
def WfL (d : Int) (l : List Am) : Prop:=I64 d ∧ ∀ a ∈ l,WfA a
theorem check_ok (d : Int) (l : List Am) (hw : WfL d l) : ACalls Try.prog 54 [lawV d l] (i64 (checkV d l)):=by
 refine acalls_stR (rs:=[i64 (checkV d l)]) [.cell 2 31] Try.func54 rfl (by kernel_rfl) Try.ntmps54 rfl (by simp) rfl fun C hC vs=>?_
 repeat apply zq
 refine zb fun K hK=>?_;simp only [go_sem];(try simp (disch:=omega) only [zI]);repeat first | intro _ | refine ⟨by omega,?_⟩
 apply hK;clear hK K;apply zw (zk [1,2]);simp only [go_sem]
 repeat apply zq
 refine zb fun K hK=>?_;simp only [go_sem];(try simp (disch:=omega) only [zI])
 intro hl8
 refine ⟨fun h1=>?_,fun h1=>?_⟩
 rotate_left
 · repeat first | intro _ | refine ⟨by omega,?_⟩
   apply hK;clear hK K
   repeat apply zq
   apply zc rfl <;> intro hc <;> (try simp only [go_sem] at hc)
   repeat apply zq
   refine zb fun K hK=>?_;simp only [go_sem];(try simp (disch:=omega) only [zI]);repeat first | intro _ | refine ⟨by omega,?_⟩
   apply hK;clear hK K;apply ze;simp only [go_sem]
   have h1' : 20 < l.length:=by omega
   simp [checkV,h1']
 have h1' : ¬ 20 < l.length:=by omega
 refine zh (containsA_ok (fun a=>decide (10 < a.beds.length)) 87 [] l fun x _=>check1_ok x) rfl (by simp only [go_sem,i64,ints]) (by simp only [go_sem,i64,ints]) ?_
 (try simp only [go_sem]);(try simp (disch:=omega) only [zI]);repeat first | intro _ | refine ⟨by omega,?_⟩
 apply hK;clear hK K;apply zw (zk [1,2,13]);simp only [go_sem]
 cases h2 : l.any fun a=>decide (10 < a.beds.length)
 case true =>
  repeat apply zq
  apply zc rfl <;> intro hc <;> (try simp only [go_sem] at hc)
  repeat apply zq
  refine zb fun K hK=>?_;simp only [go_sem];(try simp (disch:=omega) only [zI]);repeat first | intro _ | refine ⟨by omega,?_⟩
  apply hK;clear hK K;apply ze;simp only [go_sem]
  simp [checkV,h2]
 have hlen : ∀ a ∈ l,a.beds.length ≤ 10:=fun a ha=>by
  have:=List.any_eq_false.1 h2 a ha
  simpa using this
 repeat apply zq
 apply zc rfl <;> intro hc <;> (try simp only [go_sem] at hc)
 apply zx
 try simp only [go_sem]
 repeat apply zq
 refine zb fun K hK=>?_;simp only [go_sem];(try simp (disch:=omega) only [zI])
 intro _
 have h12 : (decide (20 < l.length) || l.any fun a=>decide (10 < a.beds.length)) = false:=by simp only [h2,Bool.or_false];simpa using h1'
 have hV : checkV d l = if (l.isEmpty || !(decide (1 ≤ d) && decide (d ≤ 3000))) = true then 2 else if l.all (aimOk d) = true then 0 else 2:=by
  unfold checkV
  rw [h12]
  rfl
 refine ⟨fun h3=>?_,fun h3=>?_⟩
 rotate_left
 · have h4 : l = []:=List.length_eq_zero_iff.1 (by omega)
   repeat first | intro _ | refine ⟨by omega,?_⟩
   apply hK;clear hK K
   repeat apply zq
   apply zc rfl <;> intro hc <;> (try simp only [go_sem] at hc)
   repeat apply zq
   refine zb fun K hK=>?_;simp only [go_sem];(try simp (disch:=omega) only [zI]);repeat first | intro _ | refine ⟨by omega,?_⟩
   apply hK;clear hK K;apply ze;simp only [go_sem];rw [hV,h4]
   rfl
 have h4 : l.isEmpty = false:=by
  cases l with
  | nil=>simp at h3
  | cons=>rfl
 rw [h4,Bool.false_or] at hV
 refine zh (within_ok 1 3000 [d]) rfl (by simp only [go_sem,i64,ints]) (by simp only [go_sem,i64,ints]) ?_
 (try simp only [go_sem]);(try simp (disch:=omega) only [zI]);repeat first | intro _ | refine ⟨by omega,?_⟩
 apply hK;clear hK K;apply zw (zk [1,2,24]);simp only [go_sem]
 have hwd : withinL 1 3000 [d] = (decide (1 ≤ d) && decide (d ≤ 3000)):=by simp [withinL]
 rw [hwd]
 cases h5 : (decide (1 ≤ d) && decide (d ≤ 3000))
 · repeat apply zq
   apply zc rfl <;> intro hc <;> (try simp only [go_sem] at hc)
   repeat apply zq
   refine zb fun K hK=>?_;simp only [go_sem];(try simp (disch:=omega) only [zI]);repeat first | intro _ | refine ⟨by omega,?_⟩
   apply hK;clear hK K;apply ze;simp only [go_sem];rw [hV,h5]
   rfl
 rw [h5] at hV
 have hd : d ≤ 6000:=by simp at h5;omega
 repeat apply zq
 apply zc rfl <;> intro hc <;> (try simp only [go_sem] at hc)
 apply zx
 try simp only [go_sem]
 repeat apply zq
 refine zb fun K hK=>?_;simp only [go_sem];(try simp (disch:=omega) only [zI])
 refine zh (all_ok d l) rfl (by simp only [go_sem,i64,ints]) (by simp only [go_sem,i64,ints]) ?_
 (try simp only [go_sem]);(try simp (disch:=omega) only [zI]);repeat first | intro _ | refine ⟨by omega,?_⟩
 apply hK;clear hK K;apply zw (zk [2,26]);simp only [go_sem]
 repeat apply zq
 apply zd
 refine awp_rangeF hC (enumA d l) (all1_ok d l) [2,26] (by decide) (fun vs=>[(2,.pt 2 (vs 2) 0),(26,.r (.fn 121 [.rp [i64 d,aimsR l]]))]) (fun i vs=>[(2,.box [.r (i64 0)])])
  (fun i=>(l.take i).all (aimOk d) = true) (zj [1] ?_ ?_) (by simp) (fun _=>rfl) (fun _=>rfl) (fun _ _=>rfl) (by simp) (fun e he=>enumA_len he) ?_ ?_
 · try simp only [go_sem]
 · try simp only [go_sem]
 · intro i e vs us C he hI
   obtain ⟨x,hx,rfl⟩:=enumA_get he
   repeat apply zq
   refine zb fun K hK=>?_;simp only [go_sem];(try simp (disch:=omega) only [zI]);repeat first | intro _ | refine ⟨by omega,?_⟩
   apply hK;clear hK K
   refine ⟨rfl,fun C'=>?_⟩
   apply zw (zk [2,4,26]);simp only [go_sem]
   repeat apply zq
   apply zd
   repeat apply zq
   refine zb fun K hK=>?_;simp only [go_sem];(try simp (disch:=omega) only [zI])
   refine zh (isValid_ok x d (hw.2 x (zmo hx)) hd (by have:=hlen x (zmo hx);omega)) rfl (by simp only [go_sem,i64,ints]) (by simp only [go_sem,i64,ints]) ?_
   (try simp only [go_sem]);(try simp (disch:=omega) only [zI]);repeat first | intro _ | refine ⟨by omega,?_⟩
   apply hK;clear hK K;apply zw (zk [2,26,31]);simp only [go_sem]
   cases h6 : aimOk d x
   · repeat apply zq
     apply zc rfl <;> intro hc <;> (try simp only [go_sem] at hc)
     repeat apply zq
     refine zb fun K hK=>?_;simp only [go_sem];(try simp (disch:=omega) only [zI]);repeat first | intro _ | refine ⟨by omega,?_⟩
     apply hK;clear hK K;apply ze;simp only [go_sem]
     refine rf_ret (by simp only [go_sem];rfl) ?_
     try simp only [go_sem]
     rw [hV]
     have : l.all (aimOk d) = false:=List.all_eq_false.2 ⟨x,zmo hx,by simp [h6]⟩
     rw [this]
     rfl
   · repeat apply zq
     apply zc rfl <;> intro hc <;> (try simp only [go_sem] at hc)
     apply zx
     try simp only [go_sem]
     refine ⟨?_,zj (F:=fun _=>[]) [4] (by try simp only [go_sem]) (by try simp only [go_sem])⟩
     rw [zto hx];simp [hI,h6]
 · intro vs us hI
   try simp only [go_sem]
   refine zw (sub_wake rfl) ?_
   repeat apply zq
   refine zb fun K hK=>?_;simp only [go_sem];(try simp (disch:=omega) only [zI]);repeat first | intro _ | refine ⟨by omega,?_⟩
   apply hK;clear hK K;apply ze;simp only [go_sem];rw [hV]
   have : (enumA d l).length = l.length:=by simp [enumA]
   rw [this,List.take_length] at hI
   rw [hI]
   rfl
def opensD (out b : Int) : Bool:=if out = 1 then decide (b / 100 = 2) else if out = 2 then decide (2 ≤ b / 100) else true
theorem bedOk_pos {b : Int} (h : bedOk b = true) : 0 < scoreOf b:=by
 simp only [bedOk,Bool.or_eq_true,Bool.and_eq_true,decide_eq_true_eq] at h
 unfold scoreOf
 refine Int.mul_pos (by omega) (by omega)
mutual
theorem rv_le : ∀ x : RV,RV.le x x
 | .sl _ _=>by simp only [RV.le];exact .inl trivial
 | .ag xs=>by simp only [RV.le];exact rv_leL xs
 | .fn _ xs=>by simp only [RV.le];exact ⟨trivial,rv_leL xs⟩
 | .rp xs=>by simp only [RV.le];exact rv_leL xs
 | .un | .bo _ | .it _ _ | .ns | .np | .nf | .tu _ | .st _ | .ud | .yl _ | .sx _ _ | .vl _ | .bf _ _=>by simp only [RV.le]
theorem rv_leL : ∀ xs : List RV,RV.leL xs xs
 | []=>by simp only [RV.leL]
 | x :: xs=>by simp only [RV.leL];exact ⟨rv_le x,rv_leL xs⟩
end
set_option maxHeartbeats 4000000
structure BdsO (bs : List Int) : Prop where
 asc : bs.Pairwise (· < ·)
 ne : 1 ≤ bs.length
 len : bs.length ≤ 82
 bed : ∀ b ∈ bs,bedOk b = true ∧ 0 ≤ b ∧ b ≤ 499
def afterO (g s b : Int) : Int × Bool:=if s - scoreOf b = 0 then (0,opensD g b) else if s - scoreOf b = 1 then (1,g == 0) else (s - scoreOf b,decide (1 < s - scoreOf b))
def throwsO (g s : Int) (bs : List Int) : List (Int × Int):=bs.filterMap fun b=>if ((afterO g s b).2 && decide (0 < s)) = true then some (b,(afterO g s b).1) else none
theorem throws_mem {bs : List Int} (hB : ∀ b ∈ bs,bedOk b = true) {g s : Int} {x : Int × Int} (hx : x ∈ throwsO g s bs) : x.1 ∈ bs ∧ 0 ≤ x.2 ∧ x.2 < s ∧ x.2 = s - scoreOf x.1:=by
 unfold throwsO at hx
 obtain ⟨b,hb,e⟩:=List.mem_filterMap.1 hx
 split at e
 · rename_i hc
   injection e with e
   subst e
   have hp:=bedOk_pos (hB b hb)
   simp only [Bool.and_eq_true,decide_eq_true_eq] at hc
   obtain ⟨h1,h2⟩:=hc
   unfold afterO at h1 ⊢
   refine ⟨hb,?_⟩
   by_cases q0 : s - scoreOf b = 0
   · simp only [if_pos q0];omega
   · by_cases q1 : s - scoreOf b = 1
     · simp only [if_neg q0,if_pos q1];omega
     · simp only [if_neg q0,if_neg q1,decide_eq_true_eq] at h1 ⊢
       exact ⟨by omega,by omega,trivial⟩
 · cases e
abbrev arrN (l : List Int) : List (List RV):=l.map fun n=>[i64 n]
end Go.Proofs.Ytgfbenanljjgaaa.Du

namespace Go.Oc
open Go Go.RowKit
section
variable {ρ : List (Nat × Nat)} {ver ver' : Nat → Nat}
mutual
theorem lendA_congr (hv : ∀ k,(zLk ρ k).isSome = true → ver' k = ver k) : ∀ x : AV,lendA ρ ver' x = lendA ρ ver x
 | .r _=>by simp only [lendA]
 | .tu _=>by simp only [lendA]
 | .mi _ _=>by simp only [lendA]
 | .pt k _ _=>by simp only [lendA];cases e : zLk ρ k with | none=>rfl | some pk=>rw [hv k (by rw [e];rfl)]
 | .pe k _ _ _ _=>by simp only [lendA];cases e : zLk ρ k with | none=>rfl | some pk=>rw [hv k (by rw [e];rfl)]
 | .os k _ _ _ _=>by simp only [lendA];cases e : zLk ρ k with | none=>rfl | some pk=>rw [hv k (by rw [e];rfl)]
 | .mp k _=>by simp only [lendA];cases e : zLk ρ k with | none=>rfl | some pk=>rw [hv k (by rw [e];rfl)]
 | .pu k _ _=>by simp only [lendA];cases e : zLk ρ k with | none=>rfl | some pk=>rw [hv k (by rw [e];rfl)]
 | .fn _ cs=>by simp only [lendA];rw [lendL_congr hv cs]
 | .ag cs=>by simp only [lendA];rw [lendL_congr hv cs]
theorem lendL_congr (hv : ∀ k,(zLk ρ k).isSome = true → ver' k = ver k) : ∀ xs : List AV,lendL ρ ver' xs = lendL ρ ver xs
 | []=>by simp only [lendL]
 | x :: xs=>by simp only [lendL];rw [lendA_congr hv x,lendL_congr hv xs]
end
theorem key_of_pin : ∀ {ρ : List (Nat × Nat)} {j ck : Nat},pinOf ρ j = some ck → (zLk ρ ck).isSome = true
 | [],_,_,h=>by simp [pinOf] at h
 | (x, y) :: ρ, j, ck, h => by
   simp only [pinOf] at h
   simp only [zLk]
   split at h
   · injection h with h;subst h;simp
   · split
     · rfl
     · exact key_of_pin h
mutual
theorem backA_congr (hv : ∀ k,(zLk ρ k).isSome = true → ver' k = ver k) : ∀ x : AV,backA ρ ver' x = backA ρ ver x
 | .r _=>by simp only [backA]
 | .mi _ _=>by simp only [backA]
 | .pt k _ _=>by simp only [backA];cases e : pinOf ρ k with | none=>rfl | some ck=>simp only [hv ck (key_of_pin e)]
 | .pe k _ _ _ _=>by simp only [backA];cases e : pinOf ρ k with | none=>rfl | some ck=>simp only [hv ck (key_of_pin e)]
 | .os k _ _ _ _=>by simp only [backA];cases e : pinOf ρ k with | none=>rfl | some ck=>simp only [hv ck (key_of_pin e)]
 | .mp k _=>by simp only [backA];cases e : pinOf ρ k with | none=>rfl | some ck=>simp only [hv ck (key_of_pin e)]
 | .pu k _ _=>by simp only [backA];cases e : pinOf ρ k with | none=>rfl | some ck=>simp only [hv ck (key_of_pin e)]
 | .tu cs=>by simp only [backA];rw [backL_congr hv cs]
 | .fn _ cs=>by simp only [backA];rw [backL_congr hv cs]
 | .ag cs=>by simp only [backA];rw [backL_congr hv cs]
theorem backL_congr (hv : ∀ k,(zLk ρ k).isSome = true → ver' k = ver k) : ∀ xs : List AV,backL ρ ver' xs = backL ρ ver xs
 | []=>by simp only [backL]
 | x :: xs=>by simp only [backL];rw [backA_congr hv x,backL_congr hv xs]
end
end
section
variable {P : Program} {s : AS}
def found (s : AS) (ρ : List (Nat × Nat)) (xs : List AV) : Prop :=
 ∀ x ∈ ρ,¬ AV.nrL x.2 (s.ver x.2) xs ∨ ∃ y ∈ ρ,∃ cs,¬ AV.nrL y.2 (s.ver y.2) xs ∧ (s.rows y.2).c = .box cs ∧ ¬ AV.nrL x.2 (s.ver x.2) cs
end
section
variable {P : Program} {C : Ctx} {Q : Exit → AS → Prop} {s : AS} {Φ : List (RV × RV) → Prop}
variable {n : Nat} {l : List (Nat × AV)} {vs : Nat → Nat} {cs : List (Nat × RowC)}
end
end Go.Oc

namespace Go.Oc
open Go Go.RowKit
section
variable {P : Program} {C : Ctx} {p : Plan} {s : AS} {a : Act} {w : World} {o : Oper}
theorem relV_map_r {ver : Nat → Nat} : ∀ {xs : List RV} {vs : List Value},RV.relV w p.R xs vs → AV.relV w p ver (xs.map .r) vs
 | [],vs,h=>by simp only [RV.relV] at h;simp only [List.map_nil,AV.relV];exact h
 | x :: xs, vs, h => by
   simp only [RV.relV] at h
   obtain ⟨u,us,e,h1,h2⟩:=h
   simp only [List.map_cons,AV.relV,AV.rel];exact ⟨u,us,e,h1,relV_map_r h2⟩
variable {Q : Exit → AS → Prop} {ops : Array Oper}
end
section
variable {n : Nat} {l : List (Nat × AV)} {vs : Nat → Nat} {cs : List (Nat × RowC)}
end
end Go.Oc

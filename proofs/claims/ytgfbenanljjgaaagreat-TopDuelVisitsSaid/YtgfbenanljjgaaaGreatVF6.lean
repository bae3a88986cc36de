/- Part 6 of the texts of this claim. -/
import Derived.Test.YtgfbenanljjgaaaGreatVF5
import Derived.Test.YtgfbenanljjgaaaGreatVF4
import Derived.KernelRfl
set_option linter.unusedSimpArgs false
set_option linter.unusedVariables false
namespace Go.Oc
open Go Go.RowKit
theorem park_un (k:Nat) (u:Addr):AV.park k u (.r .un) = .r .un:=by simp only[AV.park]
theorem look_park (k:Nat) (u:Addr):∀ (l:List (Nat × AV)) (t:Nat),look (l.map fun x=>(x.1,x.2.park k u)) t=(look l t).park k u
 | [],t=>(park_un k u).symm
 | (j, x)::l, t=>by
   simp only[List.map_cons,look_cons]
   split
   ·rfl
   ·exact look_park k u l t
theorem lookc_park (k:Nat) (u:Addr):∀ (cs:List (Nat × RowC)) (j:Nat),lookc (cs.map fun x=>(x.1,x.2.park k u)) j=(lookc cs j).park k u
 | [],_=>rfl
 | (i, c)::cs, j=>by
   simp only[List.map_cons,zlc]
   split
   ·rfl
   ·exact lookc_park k u cs j
section
variable {P:Program}{C:Ctx}{n:Nat}{l:List (Nat × AV)}{vs:Nat→Nat}{cs:List (Nat × RowC)}{Q:Exit→AS→Prop}
theorem st_unpark (k t0:Nat) (x:AV) (c:RowC) (hv:vs k=0):(⟨n,upd (st n l vs cs).tm t0 x,upd (st n l vs cs).rows k ⟨0,c⟩⟩:AS)=st n ((t0,x)::l) vs (insc cs k c):=by
 simp only[st,AS.mk.injEq,true_and]
 constructor
 ·funext t
  rw[look_cons]
  unfold upd
  split<;>rfl
 ·funext j
  rw[lookc_insc]
  unfold upd
  split
  ·rename_i e;subst e;rw[hv]
  ·rfl
end
attribute [go_sem] AV.park AV.parkL RowC.park
end Go.Oc

namespace Go.Oc
open Go Go.RowKit
def cpR (s:AS) (d:Nat) (b:AV) (r:Res) (K:AS→Prop):Prop :=
 match b,r with
 | .r .ns,⟨pre,_,⟨.os d' v sz 0 m,[(d'',⟨v',.arr _ sz' es⟩)]⟩⟩=>pre∧d<1000∧d'=d∧d''=d∧v=(s.rows d).ver+1∧v'=v∧sz'=sz∧m=es.length∧K (AS.put (s.row d ⟨(s.rows d).ver+2,.dead⟩) (some d) (.r (.sl sz es)))
 | _,_=>False
def cpX (P:Program) (s:AS) (d:Nat) (t:TypeId) (b:AV) (n:Option (Prop × Nat × List (List RV))) (K:AS→Prop):Prop :=
 match tyq P t,b,n with
 | some ⟨.slice _ esz eb _, _, _, _⟩, .r (.sx sz0 es), some (c, sz, ns)=>sz0=esz∧d<1000∧c∧(sz=esz∨ns=[])∧0<esz∧(es.length+ns.length)*eb≤140737488355328∧es.length+ns.length≤9223372036854775807 ∧
   K (AS.put (s.row d ⟨(s.rows d).ver+2,.dead⟩) (some d) (.r (.sl esz (es++ns))))
 | _,_,_=>False
def isSx:AV→Bool
 | .r (.sx _ _)=>true
 | _=>false
def cpB (s:AS) (d:Option Nat) (r:Res) (K:AS→Prop):Prop :=
 match r with
 | ⟨pre,_,⟨.r (.sl sz es),[]⟩⟩=>pre∧es≠[]∧K (AS.put s d (.r (.sx sz es)))
 | _=>False
def copyK (P:Program) (o:Oper) (K:AS→Prop) (s:AS):Prop :=
 match o.op with
 | .call ⟨.builtin .append, args, ts⟩=>(match args.toList, ts.toList, o.dst with
   | [x,z],[t,t'],some d=>t=t'∧(if isSx (s.ev x) then cpX P s d t (s.ev x) (news? s (s.ev z)) K else cpR s d (s.ev x) (sAppend P s d t t' (s.ev x) (s.ev z)) K)
   | _,_,_=>False)
 | .buildSlice t n ps=>cpB s o.dst (sBuildSlice P s t n (ps.toList.map fun (i,x)=>(i,s.ev x))) K
 | _=>False
def isPl (pl:List Nat) (o:Oper):Bool :=
 match o.op with
 | .call ⟨.builtin .append,_,_⟩=>(match o.dst with|some d=>pl.contains d|none=>false)
 | .buildSlice _ _ _=>(match o.dst with|some d=>pl.contains d|none=>false)
 | _=>false
def xopC (P:Program) (pl:List Nat) (o:Oper) (K:AS→Prop) (s:AS):Prop:=if isPl pl o then copyK P o K s else xop P true o K s
def aopsC (P:Program) (pl:List Nat) (ops:Array Oper):List Oper→(AS→Prop)→AS→Prop
 | [],K,s=>K s
 | o::rest, K, s =>
   match o.guard with
   | none=>xopC P pl o (aopsC P pl ops rest K) s
   | some (g, want) =>
     match ((ops[g]?).bind (·.dst):Option Nat) with
     | none=>aopsC P pl ops rest K (s.put o.dst (.r .ud))
     | some t =>
       match s.tm t with
       | .r (.bo b)=>(b=want→xopC P pl o (aopsC P pl ops rest K) (s.put (some t) (.r (.bo want))))∧(b = !want→aopsC P pl ops rest K ((s.put (some t) (.r (.bo (!want)))).put o.dst (.r .ud)))
       | .r .ud=>aopsC P pl ops rest K (s.put o.dst (.r .ud))
       | _=>False
section
variable {P:Program}{C:Ctx}{s:AS}{ops:Array Oper}{pl:List Nat}
theorem copyK_AY {o:Oper}{K:AS→Prop}(h:copyK P o K s):∃ y,AY P o s y∧(mk o y→(s.rows (o.dst.getD 0)).c = .dead∧o.dst.isSome=true)∧K (s.app o.dst y):=by
 unfold copyK at h
 split at h
 ·rename_i args ts ho
  split at h
  ·rename_i x z t t' d ha ht hd
   have ha:args = #[x,z]:=by cases args;simpa using ha
   have ht:ts = #[t,t']:=by cases ts;simpa using ht
   subst ha ht
   obtain⟨rfl,h⟩:=h
   split at h
   ·unfold cpX at h
    split at h
    ·rename_i e esz eb ez ssz sagg sz1 sz0 es c sz ns e1 e3 hny
     obtain⟨rfl,h2,h3,h4,h5,h6,h7,hK⟩:=h
     refine⟨⟨.r (.sl sz0 (es++ns)),[(d,⟨(s.rows d).ver+2,.dead⟩)]⟩,?_,fun hm=>?_,by rw[hd];exact hK⟩
     ·unfold AY
      split
      ·rename_i ho';rw[ho] at ho';cases ho'
      ·exact .inr ⟨x,z,t,d,_,ho,hd,h2,⟨_,e3⟩,rfl,.inr ⟨e,sz0,eb,ez,ssz,sagg,sz1,es,c,sz,ns,e3,e1,hny,h3,h4,h5,h6,h7,rfl⟩⟩
     ·rcases hm with hm|⟨hm,_⟩
      ·simp [cls,ho] at hm
      ·simp [vcall,ho] at hm
    ·exact h.elim
   ·unfold cpR at h
    split at h
    ·rename_i pre ass d' v sz m d'' v' e sz' es hb hr
     obtain⟨h1,h2,rfl,rfl,rfl,rfl,rfl,rfl,hK⟩:=h
     have hs:step P o s=sAppend P s d'' t t (s.ev x) (s.ev z):=by simp [step,ho,sBuiltin,hd]
     refine⟨⟨.r (.sl sz' es),[(d'',⟨(s.rows d'').ver+2,.dead⟩)]⟩,?_,fun hm=>?_,by rw[hd];exact hK⟩
     ·unfold AY
      split
      ·rename_i ho';rw[ho] at ho';cases ho'
      ·exact .inr ⟨x,z,t,d'',_,ho,hd,h2,⟨_,hb⟩,rfl,.inl ⟨by rw[hs,hr];exact h1,hb,e,sz',es,by rw[hs,hr],rfl⟩⟩
     ·rcases hm with hm|⟨hm,_⟩
      ·simp [cls,ho] at hm
      ·simp [vcall,ho] at hm
    ·exact h.elim
  ·exact h.elim
 ·rename_i t n ps ho
  unfold cpB at h
  split at h
  ·rename_i pre ass sz es hr
   obtain⟨h1,h2,hK⟩:=h
   have hs:step P o s=sBuildSlice P s t n (ps.toList.map fun (i,x)=>(i,s.ev x)):=by simp only[step,ho]
   refine⟨⟨.r (.sx sz es),[]⟩,?_,fun hm=>?_,hK⟩
   ·unfold AY
    split
    ·rename_i ho';rw[ho] at ho';cases ho'
    ·exact .inl ⟨by rw[hs,hr];exact h1,.inr ⟨by simp [isBS,ho],sz,es,h2,by rw[hs,hr],rfl⟩⟩
   ·rcases hm with hm|⟨hm,_⟩
    ·simp [cls,ho] at hm
    ·simp [vcall,ho] at hm
  ·exact h.elim
 ·exact h.elim
theorem aopsC_lex {Q:AS→Prop}:∀ (l:List Oper) (s:AS),dstOk l.toArray s.n=true→NE s→aopsC P pl ops l Q s→lexA P ops Q l s
 | [],_,_,_,h=>h
 | o::l, s, hd, hne, h=>by
   have hd0:∀ t,o.dst=some t→t<s.n:=dstOk_get (i:=0) hd (by simp)
   have hdl:dstOk l.toArray s.n=true:=by
    unfold dstOk at hd ⊢
    simp only[List.all_toArray,List.all_cons,Bool.and_eq_true] at hd ⊢
    exact hd.2
   have run:∀ {s1:AS},s1=s→xopC P pl o (aopsC P pl ops l Q) s1→wantA ops s o=some true→lexA P ops Q (o::l) s:=fun e hop hw=>by
    subst e
    unfold xopC at hop
    split at hop
    ·obtain⟨y,hy,hdead,hK⟩:=copyK_AY hop
     have hY:YieldsA P ops o y _:=.inl ⟨hw,hy,hdead⟩
     exact⟨y,hY,aopsC_lex l _ (by rw[app_n];exact hdl) (hne.app hY hd0) hK⟩
    ·unfold xop at hop
     rw[if_pos rfl] at hop
     obtain⟨y,hy,hdead,hK⟩:=aop_AY hop
     have hY:YieldsA P ops o y _:=.inl ⟨hw,hy,hdead rfl⟩
     exact⟨y,hY,aopsC_lex l _ (by rw[app_n];exact hdl) (hne.app hY hd0) (hK hne)⟩
   have skip:∀ {s1:AS},s1=s→aopsC P pl ops l Q (s1.put o.dst (.r .ud))→wantA ops s o=some false→lexA P ops Q (o::l) s:=fun e hop hw=>by
    subst e
    have hY:YieldsA P ops o ysk _:=.inr ⟨hw,rfl⟩
    exact⟨ysk,hY,aopsC_lex l _ (by rw[app_n];exact hdl) (hne.app hY hd0) hop⟩
   unfold aopsC at h
   split at h
   ·rename_i hg
    exact run rfl h (by simp [wantA,hg])
   ·rename_i g want hg
    split at h
    ·rename_i ht
     exact skip rfl h (by simp [wantA,hg,ht])
    ·rename_i t ht
     split at h
     ·rename_i b hb
      by_cases hw:b=want
      ·subst hw
       exact run (put_self hb) (h.1 rfl) (by simp [wantA,hg,ht,hb])
      ·have hw':b = !want:=by cases b<;>cases want<;>simp_all
       subst hw'
       exact skip (put_self hb) (h.2 rfl) (by simp [wantA,hg,ht,hb])
     ·rename_i hb
      exact skip rfl h (by simp [wantA,hg,ht,hb])
     ·exact h.elim
theorem awp_dregC3 {Q:Exit→AS→Prop}{id:Nat}{l:List Oper}(pl:List Nat) (κ:List (Nat × Option Nat)) (bs:List Nat) (hm:P.follows .mixedOrders=true) (hB:lexOk3 l.toArray κ bs=true) (hd:dstOk l.toArray s.n=true) (hk:keysOk κ s) (hbx:∀ k∈bs,boxRow s k)
 (h:∀ K:AS→Prop,(∀ s,Q .normal s→K s)→aopsC P pl l.toArray l K s):awp P C (.region id l.toArray true) Q s:=fun a w hs=>by
 obtain⟨p,hp⟩:=hs
 exact region_draw3 hm hB hd hk hbx ⟨p,hp⟩ (fun s a w hq hs=>⟨s,hs,hq⟩) (aopsC_lex l s hd ⟨C,p,a,w,hp⟩ (h _ fun _ h=>h))
variable {n:Nat}{l:List (Nat × AV)}{vs:Nat→Nat}{cs:List (Nat × RowC)}{K:AS→Prop}{d:Option Nat}{ty:TypeId}{pos:String}{af:Array Edge}
theorem aopsC_nil {ops:Array Oper}:aopsC P pl ops [] K s↔K s:=Iff.rfl
theorem aopsC_cons {ops:Array Oper}{o:Op}{rest:List Oper}:aopsC P pl ops (⟨d,o,ty,pos,af,none⟩::rest) K s↔xopC P pl ⟨d,o,ty,pos,af,none⟩ (aopsC P pl ops rest K) s:=Iff.rfl
theorem row_dead {k m:Nat}:AS.row (st n l vs cs) k ⟨m,.dead⟩=st n l (upd vs k m) (delc cs k):=by
 rw[row_st]
 unfold st
 congr 1
 funext j
 rw[lookc_insc,lookc_delc]
attribute [go_sem] Nat.reduceBEq Bool.or_false Bool.false_or Bool.or_true Bool.true_or
attribute [go_sem] aopsC_nil aopsC_cons xopC isPl copyK cpR cpB cpX isSx List.contains_cons List.contains_nil List.toList_toArray
attribute [go_sem high] row_dead
end
end Go.Oc

namespace Go.Oc
open Go Go.RowKit
def idK (L:List (Nat × RowC)):List (Nat × Nat):=L.map fun x=>(x.1,x.1)
def npostL (P:Program) (rv:ResultVar) (L:List (Nat × RowC)) (r:AV):Exit→AS→Prop
 | .normal,s=>resC (resA P s rv) fun v=>lendA (idK L) s.ver v=some r∧lendOk (idK L) s (idK L) L
 | .ret,s=>resC (resA P s rv) fun v=>lendA (idK L) s.ver v=some r∧lendOk (idK L) s (idK L) L
 | _,_=>False
theorem npostL_ret {P:Program}{rv:ResultVar}{L:List (Nat × RowC)}{r:AV}{s:AS}:npostL P rv L r .ret s=resC (resA P s rv) fun v=>lendA (idK L) s.ver v=some r∧lendOk (idK L) s (idK L) L:=rfl
theorem npostL_normal {P:Program}{rv:ResultVar}{L:List (Nat × RowC)}{r:AV}{s:AS}:npostL P rv L r .normal s=resC (resA P s rv) fun v=>lendA (idK L) s.ver v=some r∧lendOk (idK L) s (idK L) L:=rfl
theorem idK_pin:∀ {L:List (Nat × RowC)}{k:Nat},(hasKey L k=true→pinOf (idK L) k=some k)∧(hasKey L k=false→pinOf (idK L) k=none)
 | [],k=>by simp [hasKey,idK,pinOf]
 | (j, c)::L, k=>by
   obtain⟨h1,h2⟩:=idK_pin (L:=L) (k:=k)
   simp only[hasKey,List.any_cons,Bool.or_eq_true,beq_iff_eq,Bool.or_eq_false_iff,beq_eq_false_iff_ne] at h1 h2 ⊢
   simp only[idK,List.map_cons,pinOf]
   constructor
   ·intro h
    by_cases e:k=j
    ·rw[if_pos e,e]
    ·rw[if_neg e]
     rcases h with h|h
     ·exact absurd h.symm e
     ·exact h1 h
   ·rintro ⟨h,h'⟩
    rw[if_neg (fun e=>h e.symm)]
    exact h2 h'
theorem ncalls_st {P:Program}{f:FuncId}{fn:Func}{c:Code}{n:Nat}{args:List RV}(L:List (Nat × RowC)) (r:AV) (rv:ResultVar) (hf:P.funcs[f]? = some fn) (hb:fn.body=some c) (hc:callable P f=true) (hn:fn.ntmps=n) (hres:fn.results.toList=[rv]) (hargs:args.length≤n)
 (hap:apart (idK L)=true) (hsm:(L.all fun x=>decide (x.1<1000))=true) (h:∀ C:Ctx,C.rd=none∧C.X=XS.none→awp P C c (npostL P rv L r) (st n (argL 0 args) (fun _=>0) [])):NCalls P f args L r:=by
 refine⟨hc,fun w R vs hR hV=>?_⟩
 have hlen:=RV.relV_length hV
 simp only[Array.length_toList] at hlen
 let C:Ctx:={ w0:=w,R0:=R,bor:=fun _=>False,pin:=fun _=>none }
 let p:Plan:={ R:=R,β:=fun _=>none,γ:=fun _=>1 }
 have hs:SR C p (st n (argL 0 args) (fun _=>0) []) { tmps:=vs++Array.replicate (fn.ntmps-vs.size) undef,defers:=[] } w:={
  base:=⟨rfl,rfl,rfl,Nat.le_refl _,fun _ _ _ _=>rfl⟩
  r0:=fun _ h=>h
  rn:=fun _ h=>.inl h
  rb:=hR
  tm:=fun t=>by
   show (look (argL 0 args) t).rel _ _ _ _
   by_cases hmem:∃ x,(t,x)∈argL 0 args
   ·cases e:args[t]? with
    | none =>
      obtain⟨x,hx⟩:=hmem
      obtain⟨i,y,h1,h2⟩:=argL_mem _ hx
      simp only[Nat.zero_add,Prod.mk.injEq] at h1
      rw[← h1.1,e] at h2;cases h2
    | some x =>
      obtain⟨u,hu,hx⟩:=RV.relV_get hV e
      have:(vs++Array.replicate (fn.ntmps-vs.size) undef).getD t undef=u:=by
       have ht:t<vs.size:=by have:=(List.getElem?_eq_some_iff.1 hu).1;simpa using this
       rw[Array.getD_eq_getD_getElem?,Array.getElem?_append_left ht]
       simp only[Array.getElem?_toList] at hu
       rw[hu];rfl
      have e2:=argL_look (k:=0) e
      rw[Nat.zero_add] at e2
      rw[this,e2]
      simpa only[AV.rel] using hx
   ·rw[look_none hmem]
    exact AV.rel_un _ _ _ _
  sz:=by simp only[Array.size_append,Array.size_replicate,st];omega
  ex:=ext_start (fun _ h=>h.elim (fun h=>h.elim) (fun h=>h.elim))
  rw:=fun k=>by simp [st,lookc_nil,zrl,p]
  bl:=fun k b h=>by simp [p] at h
  ij:=fun k k' b h=>by simp [p] at h
  cap:=fun k=>by simp [p,maxLen]
  pn:=fun k x h=>by cases h
  lk:=fun j km n l cur h _=>by cases h }
 refine callsIn_wide.1 (callsIn_of_wp_marks (n:=0) hf hb trivial (wpIn_mono (h C ⟨rfl,rfl⟩ _ w ⟨p,hs⟩) ?_))
 rintro e a' w' ⟨s',⟨p',hs'⟩,hq⟩
 have fin:∀ (a':Act) (w':World) (_:SR C p' s' a' w'),(resC (resA P s' rv) fun v=>lendA (idK L) s'.ver v=some r∧lendOk (idK L) s' (idK L) L)→∃ v,(results fn a'.tmps).run P w' = .ok v w'∧∃ v',∃ q:Plan,Ending.returned v = .returned v'∧Below w.heap.size w w'∧(∀ b,R b→q.R b)∧(∀ b,q.R b→R b∨w.heap.size≤b)∧(∀ b,q.R b→b<w'.heap.size) ∧
  (∀ k b,q.β k=some b→w.heap.size≤b∧b<w'.heap.size∧¬ q.R b∧hasKey L k=true)∧(∀ k k' b,q.β k=some b→q.β k'=some b→k=k')∧(∀ k,q.γ k≤maxLen)∧(∀ k,hasKey L k=false→q.γ k=1) ∧
  (∀ k,hasKey L k=true→zrl w' q (fun _=>0) k (lookc L k))∧r.rel w' q (fun _=>0) v':=fun a' w' hs' ⟨hp,hv,hlo⟩=>by
  obtain⟨u,hu,hrel⟩:=run_result hs' rv hp
  have hm:(fn.results.mapM (resOp a'.tmps)).run P w' = .ok #[u] w':=by
   rw[Array.mapM_eq_mapM_toList,hres]
   simp only[Sem.run_map,List.mapM_cons,List.mapM_nil,Sem.run_bind,hu,Result.andThen_ok,Sem.run_pure]
  obtain⟨g1,g2⟩:=lendOk_get hlo
  have hβ:∀ k b,(zlp (idK L) p').β k=some b→hasKey L k=true∧p'.β k=some b:=fun k b hb=>by
   cases e:hasKey L k
   ·simp [zlp,idK_pin.2 e] at hb
   ·simp only[zlp,idK_pin.1 e] at hb;exact⟨rfl,hb⟩
  refine⟨u,by rw[results_eq,Sem.run_bind,hm];simp,u,zlp (idK L) p',rfl,⟨hs'.base.os,hs'.base.tape,hs'.base.output,hs'.base.size,fun k hk=>hs'.base.block k hk (fun h=>h) (fun h=>h)⟩,hs'.r0,fun b hb=>?_,hs'.rb,fun k b hb=>?_,fun k k' b hb hb'=>hs'.ij k k' b (hβ k b hb).2 (hβ k' b hb').2,fun k=>?_,fun k hk=>?_,fun k hk=>?_,lend_rel hap _ _ _ hv hrel⟩
  ·rcases hs'.rn b hb with h|h|h
   ·exact .inl h
   ·exact .inr h
   ·exact h.elim
  ·obtain⟨h1,h2⟩:=hβ k b hb
   obtain⟨g3,g4,g5⟩:=hs'.bl k b h2
   exact⟨g5.resolve_right (fun h=>h.elim (fun h=>h.2) fun h=>h),g3,g4,h1⟩
  ·cases e:hasKey L k
   ·simp [zlp,idK_pin.2 e,maxLen]
   ·simp only[zlp,idK_pin.1 e];exact hs'.cap k
  ·simp [zlp,idK_pin.2 hk]
  ·exact lendC_rel hap (idK_pin.1 hk) (g1 k k (idK_pin.1 hk)) (hs'.rw k)
 cases e with
 | normal=>exact hs'.leave fun a'' w'' _ hs''=>fin a'' w'' hs'' hq
 | ret=>exact hs'.leave fun a'' w'' _ hs''=>fin a'' w'' hs'' hq
 | _=>exact hq.elim
def newVs (vs:Nat→Nat):List (Nat × Nat)→Nat→Nat
 | []=>vs
 | (_,ck)::l=>newVs (upd vs ck (vs ck+1)) l
def newCs (ρ:List (Nat × Nat)) (ver:Nat→Nat) (L:List (Nat × RowC)):List (Nat × Nat)→List (Nat × RowC)→List (Nat × RowC)
 | [],cs=>cs
 | (pk,ck)::l,cs=>newCs ρ ver L l (insc cs ck (backC ρ ver (lookc L pk)))
theorem lendKey_none:∀ {l:List (Nat × Nat)}{ck:Nat},(zLk l ck).isNone=true→zLk l ck=none:=fun h=>Option.isNone_iff_eq_none.1 h
theorem newVs_eq:∀ {ρ:List (Nat × Nat)}{vs:Nat→Nat},apart ρ=true→newVs vs ρ=newVer ρ vs
 | [],vs,_=>by funext k;rfl
 | (pk, ck)::l, vs, h=>by
   simp only[apart,Bool.and_eq_true] at h
   funext k
   rw[newVs,newVs_eq h.2]
   unfold newVer
   simp only[zLk]
   by_cases e:k=ck
   ·subst e
    rw[if_pos rfl,lendKey_none h.1.2,zus]
   ·rw[if_neg e,zuo _ _ e]
theorem newCs_eq {σ:List (Nat × Nat)}{ver:Nat→Nat}{L:List (Nat × RowC)}:∀ {ρ:List (Nat × Nat)}{cs:List (Nat × RowC)}{k:Nat},apart ρ=true →
 lookc (newCs σ ver L ρ cs) k=match zLk ρ k with|some pk=>backC σ ver (lookc L pk)|none=>lookc cs k
 | [],cs,k,_=>rfl
 | (pk, ck)::l, cs, k, h=>by
   simp only[apart,Bool.and_eq_true] at h
   rw[newCs,newCs_eq h.2]
   simp only[zLk]
   by_cases e:k=ck
   ·subst e
    rw[if_pos rfl,lendKey_none h.1.2]
    simp [lookc_insc]
   ·rw[if_neg e]
    cases zLk l k with
    | none=>simp [lookc_insc,e]
    | some pk'=>rfl
section
variable {n:Nat}{l:List (Nat × AV)}{vs:Nat→Nat}{cs:List (Nat × RowC)}
theorem xcall_new {P:Program}{F:FuncId}{args:List RV}{L:List (Nat × RowC)}{caps:List AV}{r:AV}{d:Option Nat}{f:AV}{xs:List AV}{K:AS→Prop}(h:NCalls P F args L r) (ρ:List (Nat × Nat)) (hf:callee? f=some (F,caps))
 (hp:AV.pureL (xs++caps)=true) (he:snapVL (st n l vs cs).rows (xs++caps)=args) (ha:apart ρ=true) (hs:sameKeysN ρ L=true) (hsm:smallK ρ=true)
 (hK:K (AS.put (st n l (newVs vs ρ) (newCs ρ (newVs vs ρ) L ρ cs)) d (backA ρ (newVs vs ρ) r))):xcall P false (st n l vs cs) d f xs K:=by
 refine .inr (.inl ⟨rfl,.inr (.inr (.inr ⟨F,caps,args,ρ,L,r,hf,hp,he▸leL_refl _,h,ha,hs,hsm,?_⟩))⟩)
 have e:({ st n l vs cs with rows:=newRows ρ L (st n l vs cs).rows }:AS)=st n l (newVs vs ρ) (newCs ρ (newVs vs ρ) L ρ cs):=by
  unfold st
  simp only[AS.mk.injEq,true_and]
  funext k
  rw[newCs_eq ha,newVs_eq ha]
  unfold newRows newVer
  have hv:vers (fun k=>(⟨vs k,lookc cs k⟩:Row))=vs:=rfl
  rw[hv]
  cases zLk ρ k<;>rfl
 rw[e]
 have hv:newVer ρ (st n l vs cs).ver=newVs vs ρ:=by rw[newVs_eq ha];rfl
 rw[hv]
 exact hK
end
attribute [go_sem] npostL_ret npostL_normal newVs newCs idK
end Go.Oc

namespace Go.Proofs.YtgfbenanljjgaaaGreat.Du
open Go Go.Oc
set_option maxRecDepth 8000
structure Bd where
 b:Int
 lo:Int
 hi:Int
structure Am where
 at_:Int
 beds:List Bd
def bedR (x:Bd):List RV:=[i64 x.b,i64 x.lo,i64 x.hi]
abbrev bedV (x:Bd):RV:=.ag [i64 x.b,i64 x.lo,i64 x.hi]
abbrev bedsR (l:List Bd):RV:=.sl 3 (l.map bedR)
def aimR (a:Am):List RV:=[i64 a.at_,bedsR a.beds]
abbrev aimV (a:Am):RV:=.ag [i64 a.at_,bedsR a.beds]
abbrev aimsR (l:List Am):RV:=.sl 2 (l.map aimR)
abbrev lawV (d:Int) (l:List Am):RV:=.ag [i64 d,aimsR l]
abbrev chV (a:Am) (d:Int):RV:=.ag [i64 a.at_,bedsR a.beds,i64 d]
def I64 (n:Int):Prop:=-9223372036854775808≤n∧n≤9223372036854775807
theorem within1_ok (n a b:Int):ACalls Tryz.prog 132 [i64 n,.rp [i64 a],.rp [i64 b]] (.bo (decide (n<a) || decide (b<n))):=by
 refine zas (rs:=[.bo (decide (n<a) || decide (b<n))]) [.tmp 4] Tryz.func132 rfl (by kernel_rfl) Tryz.ntmps132 rfl (by simp) rfl fun C vs=>?_
 apply zq
 refine zb fun K hK=>?_;simp only[go_sem];apply hK
 apply zq
 refine zb fun K hK=>?_;simp only[go_sem]
 refine⟨fun h=>?_,fun h=>?_⟩ <;>
 ·skip
  apply hK;apply ze;simp only[go_sem]
  try simp [h]
theorem index_ok (p:Int→Bool) (f:Nat) (caps:List RV) (l:List Int) (h:∀ x∈l,ACalls Tryz.prog f (i64 x::caps) (.bo (p x))):ACalls Tryz.prog 159 [ints l,.fn f caps] (i64 (indexF p l)):=by
 refine zas (rs:=[i64 (indexF p l)]) [.tmp 4] Tryz.func159 rfl (by kernel_rfl) Tryz.ntmps159 rfl (by simp) rfl fun C vs=>?_
 apply zq
 refine zb fun K hK=>?_;simp only[go_sem];apply hK
 repeat apply zq
 refine zb fun K hK=>?_;simp only[go_sem]
 intro hl
 apply hK;apply zd
 refine zup (n:=19) l.length (fun i vs=>[(0,.r (ints l)),(1,.r (.fn f caps)),(7,.r (i64 l.length)),(8,.r (i64 i))]) (fun _=>[])
  (fun i=>indexF p l=if indexF p (l.drop i)<0 then -1 else i+indexF p (l.drop i)) 0 (zfo [] ?_ rfl) (Nat.zero_le _) ?_ ?_
 ·try simp only[go_sem]
 ·simp only[List.drop_zero]
  have:=indexF_ge p l
  split
  ·omega
  ·simp
 ·intro i vs hi hI
  apply zq
  refine zb fun K hK=>?_;simp only[go_sem];apply hK
  apply zq
  apply zc rfl<;>intro hc<;>(try simp only[go_sem] at hc)
  ·obtain⟨x,hx⟩:=zol hc
   rw[drop_of_opt hx] at hI
   apply zx
   apply zq
   apply zd
   apply zq
   refine zb fun K hK=>?_;simp only[go_sem];apply hK
   apply zq
   refine zb fun K hK=>?_;simp only[go_sem,hx,hc,bedR,aimR]
   refine zh (h x (zmo hx)) rfl (by simp only[go_sem,i64,ints]) (by simp only[go_sem,i64,ints]) ?_
   (try simp only[go_sem]);apply hK
   apply zc rfl<;>intro hc<;>(try simp only[go_sem] at hc)
   ·apply zq
    refine zb fun K hK=>?_;simp only[go_sem];apply hK;apply ze;simp only[go_sem]
    simp [hI,indexF,hc]
   ·apply zx
    try simp only[go_sem]
    refine zb fun K hK=>?_;simp only[go_sem];(try simp (disch:=omega) only[zI]);apply hK
    try simp only[go_sem]
    refine⟨‹_›,?_,zfo [] ?_ rfl⟩
    ·rw[hI]
     simp only[indexF,hc,Bool.false_eq_true,if_false]
     have:=indexF_ge p (l.drop (i+1))
     (repeat' split)<;>omega
    ·try simp only[go_sem]
  ·apply zf;simp only[go_sem]
   apply zq
   refine zb fun K hK=>?_;simp only[go_sem];apply hK;apply ze;simp only[go_sem]
   have:l.drop i=[]:=List.drop_eq_nil_of_le (by omega)
   simp [hI,this,indexF]
theorem contains_ok (p:Int→Bool) (f:Nat) (caps:List RV) (l:List Int) (h:∀ x∈l,ACalls Tryz.prog f (i64 x::caps) (.bo (p x))):ACalls Tryz.prog 116 [ints l,.fn f caps] (.bo (l.any p)):=by
 refine zas (rs:=[.bo (l.any p)]) [.tmp 4] Tryz.func116 rfl (by kernel_rfl) Tryz.ntmps116 rfl (by simp) rfl fun C vs=>?_
 apply zq
 refine zb fun K hK=>?_;simp only[go_sem];apply hK
 apply zq
 refine zb fun K hK=>?_;simp only[go_sem]
 refine zh (index_ok p f caps l h) rfl (by simp only[go_sem,i64,ints]) (by simp only[go_sem,i64,ints]) ?_
 (try simp only[go_sem]);apply hK;apply ze;simp only[go_sem];rw[← indexF_any]
def withinL (a b:Int) (l:List Int):Bool:=l.all fun n=>decide (a≤n)&&decide (n≤b)
theorem withinL_not (a b:Int) (l:List Int):(!(l.any fun n=>decide (n<a) || decide (b<n)))=withinL a b l:=by
 unfold withinL
 rw[List.not_any_eq_all_not]
 congr 1
 funext n
 by_cases h1:n<a<;>by_cases h2:b<n<;>simp [h1,h2]<;>omega
theorem within_ok (a b:Int) (l:List Int):ACalls Tryz.prog 94 [i64 a,i64 b,ints l] (.bo (withinL a b l)):=by
 refine zas (rs:=[.bo (withinL a b l)]) [.tmp 6] Tryz.func94 rfl (by kernel_rfl) Tryz.ntmps94 rfl (by simp) rfl fun C vs=>?_
 apply zq
 refine zb fun K hK=>?_;simp only[go_sem];apply hK
 apply zq
 refine zb fun K hK=>?_;simp only[go_sem]
 refine zh (contains_ok (fun n=>decide (n<a) || decide (b<n)) 132 [.rp [i64 a],.rp [i64 b]] l fun x _=>within1_ok x a b) rfl (by simp only[go_sem,i64,ints]) (by simp only[go_sem,i64,ints]) ?_
 (try simp only[go_sem]);apply hK;apply ze;simp only[go_sem];rw[← withinL_not]
theorem indexB_ok (p:Bd→Bool) (f:Nat) (caps:List RV) (l:List Bd) (h:∀ x∈l,ACalls Tryz.prog f (bedV x::caps) (.bo (p x))):ACalls Tryz.prog 166 [bedsR l,.fn f caps] (i64 (indexF p l)):=by
 refine zas (rs:=[i64 (indexF p l)]) [.tmp 4] Tryz.func166 rfl (by kernel_rfl) Tryz.ntmps166 rfl (by simp) rfl fun C vs=>?_
 apply zq
 refine zb fun K hK=>?_;simp only[go_sem];apply hK
 repeat apply zq
 refine zb fun K hK=>?_;simp only[go_sem]
 intro hl
 apply hK;apply zd
 refine zup (n:=19) l.length (fun i vs=>[(0,.r (bedsR l)),(1,.r (.fn f caps)),(7,.r (i64 l.length)),(8,.r (i64 i))]) (fun _=>[])
  (fun i=>indexF p l=if indexF p (l.drop i)<0 then -1 else i+indexF p (l.drop i)) 0 (zfo [] ?_ rfl) (Nat.zero_le _) ?_ ?_
 ·try simp only[go_sem]
 ·simp only[List.drop_zero]
  have:=indexF_ge p l
  split
  ·omega
  ·simp
 ·intro i vs hi hI
  apply zq
  refine zb fun K hK=>?_;simp only[go_sem];apply hK
  apply zq
  apply zc rfl<;>intro hc<;>(try simp only[go_sem] at hc)
  ·obtain⟨x,hx⟩:=zol hc
   rw[drop_of_opt hx] at hI
   apply zx
   apply zq
   apply zd
   apply zq
   refine zb fun K hK=>?_;simp only[go_sem];apply hK
   apply zq
   refine zb fun K hK=>?_;simp only[go_sem,hx,hc,bedR,aimR]
   refine zh (h x (zmo hx)) rfl (by simp only[go_sem,i64,ints]) (by simp only[go_sem,i64,ints]) ?_
   (try simp only[go_sem]);apply hK
   apply zc rfl<;>intro hc<;>(try simp only[go_sem] at hc)
   ·apply zq
    refine zb fun K hK=>?_;simp only[go_sem];apply hK;apply ze;simp only[go_sem]
    simp [hI,indexF,hc]
   ·apply zx
    try simp only[go_sem]
    refine zb fun K hK=>?_;simp only[go_sem];(try simp (disch:=omega) only[zI]);apply hK
    try simp only[go_sem]
    refine⟨‹_›,?_,zfo [] ?_ rfl⟩
    ·rw[hI]
     simp only[indexF,hc,Bool.false_eq_true,if_false]
     have:=indexF_ge p (l.drop (i+1))
     (repeat' split)<;>omega
    ·try simp only[go_sem]
  ·apply zf;simp only[go_sem]
   apply zq
   refine zb fun K hK=>?_;simp only[go_sem];apply hK;apply ze;simp only[go_sem]
   have:l.drop i=[]:=List.drop_eq_nil_of_le (by omega)
   simp [hI,this,indexF]
theorem containsB_ok (p:Bd→Bool) (f:Nat) (caps:List RV) (l:List Bd) (h:∀ x∈l,ACalls Tryz.prog f (bedV x::caps) (.bo (p x))):ACalls Tryz.prog 134 [bedsR l,.fn f caps] (.bo (l.any p)):=by
 refine zas (rs:=[.bo (l.any p)]) [.tmp 4] Tryz.func134 rfl (by kernel_rfl) Tryz.ntmps134 rfl (by simp) rfl fun C vs=>?_
 apply zq
 refine zb fun K hK=>?_;simp only[go_sem];apply hK
 apply zq
 refine zb fun K hK=>?_;simp only[go_sem]
 refine zh (indexB_ok p f caps l h) rfl (by simp only[go_sem,i64,ints]) (by simp only[go_sem,i64,ints]) ?_
 (try simp only[go_sem]);apply hK;apply ze;simp only[go_sem];rw[← indexF_any]
theorem indexA_ok (p:Am→Bool) (f:Nat) (caps:List RV) (l:List Am) (h:∀ x∈l,ACalls Tryz.prog f (aimV x::caps) (.bo (p x))):ACalls Tryz.prog 131 [aimsR l,.fn f caps] (i64 (indexF p l)):=by
 refine zas (rs:=[i64 (indexF p l)]) [.tmp 4] Tryz.func131 rfl (by kernel_rfl) Tryz.ntmps131 rfl (by simp) rfl fun C vs=>?_
 apply zq
 refine zb fun K hK=>?_;simp only[go_sem];apply hK
 repeat apply zq
 refine zb fun K hK=>?_;simp only[go_sem]
 intro hl
 apply hK;apply zd
 refine zup (n:=19) l.length (fun i vs=>[(0,.r (aimsR l)),(1,.r (.fn f caps)),(7,.r (i64 l.length)),(8,.r (i64 i))]) (fun _=>[])
  (fun i=>indexF p l=if indexF p (l.drop i)<0 then -1 else i+indexF p (l.drop i)) 0 (zfo [] ?_ rfl) (Nat.zero_le _) ?_ ?_
 ·try simp only[go_sem]
 ·simp only[List.drop_zero]
  have:=indexF_ge p l
  split
  ·omega
  ·simp
 ·intro i vs hi hI
  apply zq
  refine zb fun K hK=>?_;simp only[go_sem];apply hK
  apply zq
  apply zc rfl<;>intro hc<;>(try simp only[go_sem] at hc)
  ·obtain⟨x,hx⟩:=zol hc
   rw[drop_of_opt hx] at hI
   apply zx
   apply zq
   apply zd
   apply zq
   refine zb fun K hK=>?_;simp only[go_sem];apply hK
   apply zq
   refine zb fun K hK=>?_;simp only[go_sem,hx,hc,bedR,aimR]
   refine zh (h x (zmo hx)) rfl (by simp only[go_sem,i64,ints]) (by simp only[go_sem,i64,ints]) ?_
   (try simp only[go_sem]);apply hK
   apply zc rfl<;>intro hc<;>(try simp only[go_sem] at hc)
   ·apply zq
    refine zb fun K hK=>?_;simp only[go_sem];apply hK;apply ze;simp only[go_sem]
    simp [hI,indexF,hc]
   ·apply zx
    try simp only[go_sem]
    refine zb fun K hK=>?_;simp only[go_sem];(try simp (disch:=omega) only[zI]);apply hK
    try simp only[go_sem]
    refine⟨‹_›,?_,zfo [] ?_ rfl⟩
    ·rw[hI]
     simp only[indexF,hc,Bool.false_eq_true,if_false]
     have:=indexF_ge p (l.drop (i+1))
     (repeat' split)<;>omega
    ·try simp only[go_sem]
  ·apply zf;simp only[go_sem]
   apply zq
   refine zb fun K hK=>?_;simp only[go_sem];apply hK;apply ze;simp only[go_sem]
   have:l.drop i=[]:=List.drop_eq_nil_of_le (by omega)
   simp [hI,this,indexF]
theorem containsA_ok (p:Am→Bool) (f:Nat) (caps:List RV) (l:List Am) (h:∀ x∈l,ACalls Tryz.prog f (aimV x::caps) (.bo (p x))):ACalls Tryz.prog 92 [aimsR l,.fn f caps] (.bo (l.any p)):=by
 refine zas (rs:=[.bo (l.any p)]) [.tmp 4] Tryz.func92 rfl (by kernel_rfl) Tryz.ntmps92 rfl (by simp) rfl fun C vs=>?_
 apply zq
 refine zb fun K hK=>?_;simp only[go_sem];apply hK
 apply zq
 refine zb fun K hK=>?_;simp only[go_sem]
 refine zh (indexA_ok p f caps l h) rfl (by simp only[go_sem,i64,ints]) (by simp only[go_sem,i64,ints]) ?_
 (try simp only[go_sem]);apply hK;apply ze;simp only[go_sem];rw[← indexF_any]
def bedOk (b:Int):Bool:=decide (b=125) || decide (b=225) || (decide (100≤b)&&decide (b≤499)&&decide (1≤b % 100)&&decide (b % 100≤20))
theorem tdivN {b:Int}(h:b≤0):b.tdiv 100 = -((-b) / 100):=by
 rw[← Int.tdiv_eq_ediv_of_nonneg (by omega),Int.neg_tdiv,Int.neg_neg]
theorem tdiv100 {b:Int}(h:I64 b):IntKind.i64.wrap (b.tdiv 100)=b.tdiv 100:=by
 unfold I64 at h
 by_cases h0:0≤b
 ·rw[Int.tdiv_eq_ediv_of_nonneg h0,zI]<;>omega
 ·rw[tdivN (by omega),zI]<;>omega
theorem tdiv_lt {b:Int}(h:b<100):b.tdiv 100≤0:=by
 by_cases h0:0≤b
 ·rw[Int.tdiv_eq_ediv_of_nonneg h0];omega
 ·rw[tdivN (by omega)];omega
theorem bedOk_within (b:Int):(withinL 1 4 [b.tdiv 100]&&withinL 1 20 [b.tmod 100] || b == 125 || b == 225)=bedOk b:=by
 unfold bedOk withinL
 by_cases h:b<100
 ·have h1:=tdiv_lt h
  have e1:decide (1≤b.tdiv 100)=false:=by simp;omega
  have e2:decide (100≤b)=false:=by simp;omega
  have e3:decide (b=125)=false:=by simp;omega
  have e4:decide (b=225)=false:=by simp;omega
  have e5:(b == 125)=false:=by simp;omega
  have e6:(b == 225)=false:=by simp;omega
  simp [e1,e2,e3,e4,e5,e6]
 ·rw[Int.tdiv_eq_ediv_of_nonneg (by omega),Int.tmod_eq_emod_of_nonneg (by omega)]
  have e:(decide (1≤b / 100)&&decide (b / 100≤4))=(decide (100≤b)&&decide (b≤499)):=by
   by_cases h2:b≤499
   ·have:b / 100≤4:=by omega
    have:1≤b / 100:=by omega
    have:100≤b:=by omega
    simp [*]
   ·have:¬ b / 100≤4:=by omega
    simp [*]
  simp only[List.all_cons,List.all_nil,Bool.and_true,e]
  have e1:(b == 125)=decide (b=125):=by rw[Bool.eq_iff_iff];simp
  have e2:(b == 225)=decide (b=225):=by rw[Bool.eq_iff_iff];simp
  rw[e1,e2]
  cases decide (b=125)<;>cases decide (b=225)<;>simp [Bool.and_assoc]
theorem isBed_ok (b:Int) (hb:I64 b):ACalls Tryz.prog 165 [i64 b] (.bo (bedOk b)):=by
 have hq:=tdiv100 hb
 refine zas (rs:=[.bo (bedOk b)]) [.tmp 2] Tryz.func165 rfl (by kernel_rfl) Tryz.ntmps165 rfl (by simp) rfl fun C vs=>?_
 repeat apply zq
 refine zb fun K hK=>?_;simp only[go_sem];(try simp (disch:=omega) only[zI]);repeat first|intro _|refine⟨by omega,?_⟩
 apply hK;clear hK K
 repeat apply zq
 refine zb fun K hK=>?_;simp only[go_sem,hq];(try simp (disch:=omega) only[zI]);repeat first|intro _|refine⟨by omega,?_⟩
 apply hK;clear hK K
 repeat apply zq
 refine zb fun K hK=>?_;simp only[go_sem];(try simp (disch:=omega) only[zI])
 refine zh (within_ok 1 4 [b.tdiv 100]) rfl (by simp only[go_sem,i64,ints]) (by simp only[go_sem,i64,ints]) ?_
 (try simp only[go_sem]);(try simp (disch:=omega) only[zI])
 have hw:=bedOk_within b
 refine⟨fun h1=>?_,fun h1=>?_⟩
 ·refine zh (within_ok 1 20 [b.tmod 100]) rfl (by simp only[go_sem,i64,ints]) (by simp only[go_sem,i64,ints]) ?_
  (try simp only[go_sem]);(try simp (disch:=omega) only[zI])
  repeat' first|intro _|refine And.intro ?_ ?_
  all_goals first|omega|skip
  all_goals (refine hK _ ?_;clear hK K)
  all_goals (apply ze;simp only[go_sem])
  all_goals (rw[← hw];clear hw;simp [*])
 ·repeat' first|intro _|refine And.intro ?_ ?_
  all_goals first|omega|skip
  all_goals (refine hK _ ?_;clear hK K)
  all_goals (apply ze;simp only[go_sem])
  all_goals (rw[← hw];clear hw;simp [*])
def scoreOf (b:Int):Int:=b / 100*(b % 100)
theorem score_le {b:Int}(h0:0≤b) (h1:b≤499):0≤scoreOf b∧scoreOf b≤396:=by
 unfold scoreOf
 have h2:0≤b / 100:=by omega
 have h3:b / 100≤4:=by omega
 refine⟨Int.mul_nonneg h2 (by omega),?_⟩
 have:=Int.mul_le_mul h3 (show b % 100≤99 by omega) (by omega) (by omega)
 omega
theorem score_mul {b:Int}(h0:0≤b) (h1:b≤499):IntKind.i64.wrap (b.tdiv 100*b.tmod 100)=scoreOf b:=by
 have:=score_le h0 h1
 rw[Int.tdiv_eq_ediv_of_nonneg h0,Int.tmod_eq_emod_of_nonneg h0]
 show IntKind.i64.wrap (scoreOf b)=_
 rw[zI]<;>omega
def loS (l:List Bd):Int:=(l.map (·.lo)).sum
def hiS (l:List Bd):Int:=(l.map (·.hi)).sum
theorem loS_snoc (l:List Bd) (x:Bd):loS (l++[x])=loS l+x.lo:=by simp [loS]
theorem hiS_snoc (l:List Bd) (x:Bd):hiS (l++[x])=hiS l+x.hi:=by simp [hiS]
def Small (l:List Bd):Prop:=∀ x∈l,(0≤x.lo∧x.lo≤6000)∧0≤x.hi∧x.hi≤6000
theorem sums_le:∀ {l:List Bd},Small l→(0≤loS l∧loS l≤6000*l.length)∧0≤hiS l∧hiS l≤6000*l.length
 | [],_=>by simp [loS,hiS]
 | x::l, h=>by
   have h1:=h x (by simp)
   have h2:=sums_le (l:=l) fun y hy=>h y (by simp [hy])
   simp only[loS,hiS,List.map_cons,List.sum_cons,List.length_cons] at h2 ⊢
   omega
theorem Small.take {l:List Bd}(h:Small l) (i:Nat):Small (l.take i):=fun x hx=>h x (List.mem_of_mem_take hx)
theorem sums_ok (a:Int) (l:List Bd) (d:Int) (hs:Small l) (hl:l.length≤1000):ACalls Tryz.prog 97 [.ag [i64 a,bedsR l,i64 d]] (.ag [i64 (loS l),i64 (hiS l)]):=by
 refine zas (rs:=[.ag [i64 (loS l),i64 (hiS l)]]) [.cell 2 48] Tryz.func97 rfl (by kernel_rfl) Tryz.ntmps97 rfl (by simp) rfl fun C vs=>?_
 apply zq
 refine zb fun K hK=>?_;simp only[go_sem];apply hK;apply zw (zk [1,2]);simp only[go_sem]
 repeat apply zq
 refine zb fun K hK=>?_;simp only[go_sem]
 intro _
 apply hK;apply zw (zk [2,7,8,9]);simp only[go_sem];apply zd
 refine zup (n:=29) l.length (fun i vs=>[(2,.pt 2 (vs 2) 0),(7,.r (bedsR l)),(8,.r (i64 l.length)),(9,.r (i64 i))])
  (fun i=>[(2,.box [.r (i64 (loS (l.take i))),.r (i64 (hiS (l.take i)))])]) (fun _=>True) 0 (zfo [1] ?_ ?_) (Nat.zero_le _) trivial ?_
 ·try simp only[go_sem]
 ·try simp only[go_sem]
  simp [loS,hiS]
 ·intro i vs hi _
  apply zq
  refine zb fun K hK=>?_;simp only[go_sem];apply hK
  apply zq
  apply zc rfl<;>intro hc<;>(try simp only[go_sem] at hc)
  ·obtain⟨x,hx⟩:=zol hc
   have hb:=sums_le (hs.take (i+1))
   have ht:=zto hx
   have hlt:(l.take (i+1)).length≤1000:=by rw[List.length_take];omega
   rw[ht,loS_snoc,hiS_snoc] at hb
   rw[ht] at hlt
   apply zx
   apply zq
   apply zd
   apply zq
   refine zb fun K hK=>?_;simp only[go_sem,hx,hc,bedR];apply hK;apply zw (zk [2,4,7,8,9]);simp only[go_sem]
   refine awp_dreg2 [(2,some 2),(4,some 4)] follows (by decide +kernel) (by kernel_rfl) (by simp only[keysOk,List.mem_cons,List.not_mem_nil,forall_eq_or_imp,Oc.keyOf,go_sem];simp) fun K hK=>?_
   simp only[go_sem];(try simp (disch:=omega) only[zI]);apply hK;apply zw (zk [2,7,8,9]);simp only[go_sem];refine zb fun K hK=>?_;simp only[go_sem];(try simp (disch:=omega) only[zI]);apply hK
   try simp only[go_sem]
   refine⟨hc,zfo [4] ?_ ?_⟩
   ·try simp only[go_sem]
   ·try simp only[go_sem]
    rw[ht,loS_snoc,hiS_snoc]
  ·apply zf;simp only[go_sem]
   apply zq
   refine zb fun K hK=>?_;simp only[go_sem];apply hK;apply zw (zk [2]);simp only[go_sem];apply ze;simp only[go_sem]
   have:l.take i=l:=List.take_of_length_le (by omega)
   simp [this]
def seqOk:Option Int→List Bd→Bool
 | _,[]=>true
 | p,x::l=>(decide (x.b=0) || bedOk x.b)&&(match p with|none=>true|some q=>decide (q<x.b))&&seqOk (some x.b) l
def prevB (l:List Bd):Nat→Option Int
 | 0=>none
 | i+1=>(l[i]?).map (·.b)
def Wf (l:List Bd):Prop:=∀ x∈l,I64 x.b∧I64 x.lo∧I64 x.hi
theorem areBeds_ok (a:Int) (l:List Bd) (d:Int) (ha:I64 a) (hw:Wf l):ACalls Tryz.prog 133 [.ag [i64 a,bedsR l,i64 d]] (.bo (bedOk a && !l.isEmpty&&seqOk none l)):=by
 refine zas (rs:=[.bo (bedOk a && !l.isEmpty&&seqOk none l)]) [.tmp 2] Tryz.func133 rfl (by kernel_rfl) Tryz.ntmps133 rfl (by simp) rfl fun C vs=>?_
 apply zq
 refine zb fun K hK=>?_;simp only[go_sem];apply hK;apply zw (zk [1]);simp only[go_sem]
 repeat apply zq
 refine zb fun K hK=>?_;simp only[go_sem]
 refine zh (isBed_ok a ha) rfl (by simp only[go_sem,i64,ints]) (by simp only[go_sem,i64,ints]) ?_
 (try simp only[go_sem])
 cases hA:bedOk a
 ·try simp only[go_sem]
  apply hK
  apply zc rfl<;>intro hc<;>(try simp only[go_sem] at hc)
  apply zq
  refine zb fun K hK=>?_;simp only[go_sem];apply hK;apply ze;simp only[go_sem]
  simp [hA]
 try simp only[go_sem]
 intro _
 cases hE:l.isEmpty
 case true =>
  have h0:l=[]:=List.isEmpty_iff.1 hE
  subst h0
  try simp only[go_sem]
  apply hK
  apply zc rfl<;>intro hc<;>(try simp only[go_sem] at hc)
  apply zq
  refine zb fun K hK=>?_;simp only[go_sem];apply hK;apply ze;simp only[go_sem]
  simp
 have hne:((l.length:Int) == 0)=false:=by
  cases l with
  | nil=>simp at hE
  | cons=>simp;omega
 rw[hne]
 apply hK;apply zw (zk [1,16]);simp only[go_sem]
 apply zc rfl<;>intro hc<;>(try simp only[go_sem] at hc)
 apply zx
 try simp only[go_sem]
 repeat apply zq
 refine zb fun K hK=>?_;simp only[go_sem]
 intro hl9
 apply hK;apply zw (zk [1,19,20,21]);simp only[go_sem];apply zd
 refine zup (n:=53) l.length (fun i vs=>[(1,.pt 1 (vs 1) 0),(19,.r (bedsR l)),(20,.r (i64 l.length)),(21,.r (i64 i))])
  (fun i=>[(1,.box [.r (i64 a),.r (bedsR l),.r (i64 d)])]) (fun i=>seqOk none l=seqOk (prevB l i) (l.drop i)) 0 (zfo [] ?_ ?_) (Nat.zero_le _) rfl ?_
 ·try simp only[go_sem]
 ·try simp only[go_sem]
 ·intro i vs hi hI
  apply zq
  refine zb fun K hK=>?_;simp only[go_sem];apply hK
  apply zq
  apply zc rfl<;>intro hc<;>(try simp only[go_sem] at hc)
  ·obtain⟨x,hx⟩:=zol hc
   rw[drop_of_opt hx] at hI
   obtain⟨hxb,_,_⟩:=hw x (zmo hx)
   have hB:ACalls Tryz.prog 165 [i64 x.b] (.bo (bedOk x.b)):=isBed_ok x.b hxb
   apply zx
   apply zq
   apply zd
   apply zq
   refine zb fun K hK=>?_;simp only[go_sem,hx,hc,bedR];apply hK;apply zw (zk [1,3,4,19,20,21]);simp only[go_sem]
   have hp:∀ q,prevB l i=some q→∃ y j,i=j+1∧l[j]? = some y∧q=y.b:=fun q hq=>by
    cases i with
    | zero=>cases hq
    | succ j =>
      obtain⟨y,hy⟩:=zol (l:=l) (i:=j) (by omega)
      simp only[prevB,hy,Option.map_some,Option.some.injEq] at hq
      exact⟨y,j,rfl,hy,hq.symm⟩
   cases hb0:decide (x.b=0) || bedOk x.b
   ·have h0:(x.b != 0)=true:=by simp_all
    have h1:bedOk x.b=false:=by simp_all
    rw[h1] at hB
    apply zq
    refine awp_dreg2 [(1,some 1),(3,none),(4,some 4)] follows (by decide +kernel) (by kernel_rfl) (by simp only[keysOk,List.mem_cons,List.not_mem_nil,forall_eq_or_imp,Oc.keyOf,go_sem];simp) fun K hK=>?_
    simp only[go_sem,h0]
    refine zh (hB) rfl (by simp only[go_sem,i64,ints]) (by simp only[go_sem,i64,ints]) ?_
    (try simp only[go_sem]);apply hK;apply zw (zk [1,19,20,21,51]);simp only[go_sem]
    apply zc rfl<;>intro hc<;>(try simp only[go_sem] at hc)
    apply zq
    refine zb fun K hK=>?_;simp only[go_sem];apply hK;apply ze;simp only[go_sem]
    simp [hI,seqOk,hb0]
   have hnx:prevB l (i+1)=some x.b:=by simp [prevB,hx]
   have hstep:seqOk none l=((match prevB l i with|none=>true|some q=>decide (q<x.b))&&seqOk (prevB l (i+1)) (l.drop (i+1))):=by
    rw[hI,hnx]
    simp only[seqOk,hb0,Bool.true_and]
   cases i with
   | zero =>
     have hp0:seqOk none l=seqOk (prevB l 1) (l.drop 1):=by simpa [prevB] using hstep
     by_cases h0:x.b=0
     ·have e0:(x.b != 0)=false:=by simp [h0]
      apply zq
      refine awp_dreg2 [(1,some 1),(3,none),(4,some 4)] follows (by decide +kernel) (by kernel_rfl) (by simp only[keysOk,List.mem_cons,List.not_mem_nil,forall_eq_or_imp,Oc.keyOf,go_sem];simp) fun K hK=>?_
      simp only[go_sem,e0];apply hK;apply zw (zk [1,19,20,21,51]);simp only[go_sem]
      apply zc rfl<;>intro hc<;>(try simp only[go_sem] at hc)
      apply zx
      try simp only[go_sem]
      refine zb fun K hK=>?_;simp only[go_sem];(try simp (disch:=omega) only[zI]);apply hK
      try simp only[go_sem]
      exact⟨by omega,hp0,zfo [4] (by try simp only[go_sem]) (by try simp only[go_sem])⟩
     ·have e0:(x.b != 0)=true:=by simp [h0]
      have e1:bedOk x.b=true:=by simpa [h0] using hb0
      rw[e1] at hB
      apply zq
      refine awp_dreg2 [(1,some 1),(3,none),(4,some 4)] follows (by decide +kernel) (by kernel_rfl) (by simp only[keysOk,List.mem_cons,List.not_mem_nil,forall_eq_or_imp,Oc.keyOf,go_sem];simp) fun K hK=>?_
      simp only[go_sem,e0]
      refine zh (hB) rfl (by simp only[go_sem,i64,ints]) (by simp only[go_sem,i64,ints]) ?_
      (try simp only[go_sem]);apply hK;apply zw (zk [1,19,20,21,51]);simp only[go_sem]
      apply zc rfl<;>intro hc<;>(try simp only[go_sem] at hc)
      apply zx
      try simp only[go_sem]
      refine zb fun K hK=>?_;simp only[go_sem];(try simp (disch:=omega) only[zI]);apply hK
      try simp only[go_sem]
      exact⟨by omega,hp0,zfo [4] (by try simp only[go_sem]) (by try simp only[go_sem])⟩
   | succ j =>
     obtain⟨y,hy⟩:=zol (l:=l) (i:=j) (by omega)
     have hpy:prevB l (j+1)=some y.b:=by simp [prevB,hy]
     rw[hpy] at hstep
     have hj1:IntKind.i64.wrap ((j:Int)+1-1)=(j:Int):=by rw[zI]<;>omega
     have hj2:j<l.length:=by omega
     have hj0:(0<(j:Int)+1)=True:=by simp
     have go:∀ (e:Bool),decide (x.b≤y.b)=e→(e=true→seqOk none l=false)∧(e=false→seqOk none l=seqOk (prevB l (j+1+1)) (l.drop (j+1+1))):=fun e he=>by
      refine⟨fun h=>?_,fun h=>?_⟩
      ·have:decide (y.b<x.b)=false:=by simp_all
       rw[hstep];simp [this]
      ·have:decide (y.b<x.b)=true:=by simp_all
       rw[hstep];simp [this]
     obtain⟨go1,go2⟩:=go _ rfl
     by_cases h0:x.b=0
     ·have e0:(x.b != 0)=false:=by simp [h0]
      apply zq
      refine awp_dreg2 [(1,some 1),(3,none),(4,some 4)] follows (by decide +kernel) (by kernel_rfl) (by simp only[keysOk,List.mem_cons,List.not_mem_nil,forall_eq_or_imp,Oc.keyOf,go_sem];simp) fun K hK=>?_
      simp only[go_sem,e0,hj1,hj0,hy,bedR]
      refine⟨by omega,?_⟩
      apply hK;apply zw (zk [1,19,20,21,51]);simp only[go_sem]
      cases hle:decide (x.b≤y.b)
      ·skip
       apply zc rfl<;>intro hc<;>(try simp only[go_sem] at hc)
       apply zx
       try simp only[go_sem]
       refine zb fun K hK=>?_;simp only[go_sem];(try simp (disch:=omega) only[zI]);apply hK
       try simp only[go_sem]
       exact⟨by omega,go2 hle,zfo [4] (by try simp only[go_sem]) (by try simp only[go_sem])⟩
      ·skip
       apply zc rfl<;>intro hc<;>(try simp only[go_sem] at hc)
       apply zq
       refine zb fun K hK=>?_;simp only[go_sem];apply hK;apply ze;simp only[go_sem]
       simp [go1 hle]
     ·have e0:(x.b != 0)=true:=by simp [h0]
      have e1:bedOk x.b=true:=by simpa [h0] using hb0
      rw[e1] at hB
      apply zq
      refine awp_dreg2 [(1,some 1),(3,none),(4,some 4)] follows (by decide +kernel) (by kernel_rfl) (by simp only[keysOk,List.mem_cons,List.not_mem_nil,forall_eq_or_imp,Oc.keyOf,go_sem];simp) fun K hK=>?_
      simp only[go_sem,e0,hj1,hj0,hy,bedR]
      refine zh (hB) rfl (by simp only[go_sem,i64,ints,hj1,hj0,hy,bedR]) (by simp only[go_sem,i64,ints,hj1,hj0,hy,bedR]) ?_
      (try simp only[go_sem,hj1,hj0,hy,bedR])
      refine⟨by omega,?_⟩
      apply hK;apply zw (zk [1,19,20,21,51]);simp only[go_sem]
      cases hle:decide (x.b≤y.b)
      ·skip
       apply zc rfl<;>intro hc<;>(try simp only[go_sem] at hc)
       apply zx
       try simp only[go_sem]
       refine zb fun K hK=>?_;simp only[go_sem];(try simp (disch:=omega) only[zI]);apply hK
       try simp only[go_sem]
       exact⟨by omega,go2 hle,zfo [4] (by try simp only[go_sem]) (by try simp only[go_sem])⟩
      ·skip
       apply zc rfl<;>intro hc<;>(try simp only[go_sem] at hc)
       apply zq
       refine zb fun K hK=>?_;simp only[go_sem];apply hK;apply ze;simp only[go_sem]
       simp [go1 hle]
  ·apply zf;simp only[go_sem]
   apply zq
   refine zb fun K hK=>?_;simp only[go_sem];apply hK;apply zw (zk [2]);simp only[go_sem];apply ze;simp only[go_sem]
   have:l.drop i=[]:=List.drop_eq_nil_of_le (by omega)
   have h0:l≠[]:=fun e=>by rw[e] at hE;simp at hE
   simp [hI,this,seqOk,hA,h0]
def badCh (d:Int) (x:Bd):Bool:=!withinL 0 d [x.lo,x.hi] || decide (x.hi<x.lo)
theorem valid1_ok (a:Int) (l:List Bd) (d:Int) (x:Bd):ACalls Tryz.prog 135 [bedV x,.rp [i64 a,bedsR l,i64 d]] (.bo (badCh d x)):=by
 refine zas (rs:=[.bo (badCh d x)]) [.tmp 3] Tryz.func135 rfl (by kernel_rfl) Tryz.ntmps135 rfl (by simp) rfl fun C vs=>?_
 apply zq
 refine zb fun K hK=>?_;simp only[go_sem];apply hK;clear hK K
 apply zq
 refine zb fun K hK=>?_;simp only[go_sem]
 refine zh (within_ok 0 d [x.lo,x.hi]) rfl (by simp only[go_sem,i64,ints]) (by simp only[go_sem,i64,ints]) ?_
 (try simp only[go_sem])
 refine⟨fun h=>?_,fun h=>?_⟩
 ·skip
  apply hK;clear hK K;apply ze;simp only[go_sem]
  simp [badCh,h]
 ·skip
  apply hK;clear hK K;apply ze;simp only[go_sem]
  simp [badCh,h]
def chOk (d:Int) (l:List Bd):Bool:=l.all fun x=>decide (0≤x.lo)&&decide (x.lo≤x.hi)&&decide (x.hi≤d)
theorem badCh_eq (d:Int) (l:List Bd):(!(l.any (badCh d)))=chOk d l:=by
 unfold chOk
 rw[List.not_any_eq_all_not]
 congr 1
 funext x
 unfold badCh withinL
 simp only[List.all_cons,List.all_nil,Bool.and_true]
 by_cases h1:0≤x.lo<;>by_cases h2:x.lo≤d<;>by_cases h3:0≤x.hi<;>by_cases h4:x.hi≤d<;>by_cases h5:x.hi<x.lo<;>by_cases h6:x.lo≤x.hi<;>simp [h1,h2,h3,h4,h5,h6]<;>omega
theorem chOk_small {d:Int}{l:List Bd}(h:chOk d l=true) (hd:d≤6000):Small l:=fun x hx=>by
 have:=List.all_eq_true.1 h x hx
 simp only[Bool.and_eq_true,decide_eq_true_eq] at this
 omega
def aimOk (d:Int) (a:Am):Bool:=bedOk a.at_ && !a.beds.isEmpty&&seqOk none a.beds&&chOk d a.beds&&decide (loS a.beds≤d)&&decide (d≤hiS a.beds)
def WfA (a:Am):Prop:=I64 a.at_∧Wf a.beds
theorem isValid_ok (a:Am) (d:Int) (hw:WfA a) (hd:d≤6000) (hl:a.beds.length≤1000):ACalls Tryz.prog 95 [chV a d] (.bo (aimOk d a)):=by
 refine zas (rs:=[.bo (aimOk d a)]) [.tmp 2] Tryz.func95 rfl (by kernel_rfl) Tryz.ntmps95 rfl (by simp) rfl fun C vs=>?_
 apply zq
 refine zb fun K hK=>?_;simp only[go_sem];apply hK;clear hK K;apply zw (zk [1]);simp only[go_sem]
 repeat apply zq
 refine zb fun K hK=>?_;simp only[go_sem]
 refine zh (areBeds_ok a.at_ a.beds d hw.1 hw.2) rfl (by simp only[go_sem,i64,ints]) (by simp only[go_sem,i64,ints]) ?_
 (try simp only[go_sem])
 cases h1:(bedOk a.at_ && !a.beds.isEmpty&&seqOk none a.beds)
 ·try simp only[go_sem]
  apply hK;clear hK K
  apply zc rfl<;>intro hc<;>(try simp only[go_sem] at hc)
  apply zq
  refine zb fun K hK=>?_;simp only[go_sem];apply hK;clear hK K;apply ze;simp only[go_sem]
  simp [aimOk,h1]
 try simp only[go_sem]
 refine zh (containsB_ok (badCh d) 135 [.rp [i64 a.at_,bedsR a.beds,i64 d]] a.beds fun x _=>valid1_ok a.at_ a.beds d x) rfl (by simp only[go_sem,i64,ints]) (by simp only[go_sem,i64,ints]) ?_
 (try simp only[go_sem]);apply hK;clear hK K;apply zw (zk [1,13]);simp only[go_sem]
 have h2:=badCh_eq d a.beds
 cases h3:a.beds.any (badCh d)
 ·rw[h3] at h2
  have h4:chOk d a.beds=true:=by simpa using h2.symm
  apply zc rfl<;>intro hc<;>(try simp only[go_sem] at hc)
  apply zx
  try simp only[go_sem]
  apply zq
  refine zb fun K hK=>?_;simp only[go_sem]
  refine zh (sums_ok a.at_ a.beds d (chOk_small h4 hd) hl) rfl (by simp only[go_sem,i64,ints]) (by simp only[go_sem,i64,ints]) ?_
  (try simp only[go_sem]);apply hK;clear hK K;apply zw (zk [1,3]);simp only[go_sem]
  apply zq
  refine zb fun K hK=>?_;simp only[go_sem]
  refine zh (within_ok (loS a.beds) (hiS a.beds) [d]) rfl (by simp only[go_sem,i64,ints]) (by simp only[go_sem,i64,ints]) ?_
  (try simp only[go_sem]);apply hK;clear hK K;apply ze;simp only[go_sem]
  simp [aimOk,h1,h4,withinL]
 ·rw[h3] at h2
  have h4:chOk d a.beds=false:=by simpa using h2.symm
  apply zc rfl<;>intro hc<;>(try simp only[go_sem] at hc)
  apply zq
  refine zb fun K hK=>?_;simp only[go_sem];apply hK;clear hK K;apply ze;simp only[go_sem]
  simp [aimOk,h4]
def enumA (d:Int) (l:List Am):List (List RV):=l.zipIdx.map fun x=>[i64 x.2,chV x.1 d]
theorem enumA_get {d:Int}{l:List Am}{i:Nat}{e:List RV}(h:(enumA d l)[i]? = some e):∃ x,l[i]? = some x∧e=[i64 i,chV x d]:=by
 simp only[enumA,List.getElem?_map,List.getElem?_zipIdx,Nat.zero_add] at h
 cases hx:l[i]? with
 | none=>rw[hx] at h;cases h
 | some x=>rw[hx] at h;simp only[Option.map_some,Option.some.injEq] at h;exact⟨x,rfl,h.symm⟩
theorem enumA_len {d:Int}{l:List Am}{e:List RV}(h:e∈enumA d l):e.length=2:=by
 obtain⟨i,hi⟩:=List.getElem?_of_mem h
 obtain⟨x,_,rfl⟩:=enumA_get hi
 rfl
theorem xcall_yield {n:Nat}{l:List (Nat × AV)}{vs:Nat→Nat}{cs:List (Nat × RowC)}{P:Program}{d:Option Nat}{ll:Nat}{z:Bool}{e:List RV}{rest:List (List RV)}{xs:List AV}{K:AS→Prop}(hrow:lookc cs 999 = .gh P ll z (some (e::rest)))
 (hp:AV.pureL xs=true) (he:snapVL (st n l vs cs).rows xs=e) (hfl:RV.flatL e=true∨z=false) (hK1:K ((st n l vs (insc cs 999 (.gh P ll z (some rest)))).put d (.r (.bo true)))) (hK2:K ((st n l vs (insc cs 999 (.gh P ll z none))).put d (.r (.bo false)))) :
 xcall P false (st n l vs cs) d (.r (.yl ll)) xs K:=by
 have hr:∀ c,(st n l vs cs).row 999 ⟨((st n l vs cs).rows 999).ver,c⟩=st n l vs (insc cs 999 c):=fun c=>by
  rw[row_st]
  congr 1
  exact upd_self vs 999
 exact .inr (.inl ⟨rfl,.inr (.inr (.inl ⟨ll,z,e,rest,rfl,hrow,hp,he▸leL_refl _,hfl,by rw[hr];exact hK1,by rw[hr];exact hK2⟩))⟩)
theorem all1_ok (d:Int) (l:List Am):ICalls Tryz.prog false 96 [.rp [i64 d,aimsR l]] (enumA d l):=by
 refine icalls_st Tryz.func96 rfl (by kernel_rfl) Tryz.ntmps96 rfl (by simp) fun C ll=>?_
 apply zq
 refine zb fun K hK=>?_;simp only[go_sem,argL]
 intro hl7
 apply hK;clear hK K;apply zw (zk [0,1,6,7,8]);simp only[go_sem];apply zd
 refine zup (n:=22) l.length (fun i vs=>[(0,.r (.yl ll)),(1,.r (.rp [i64 d,aimsR l])),(6,.r (aimsR l)),(7,.r (i64 l.length)),(8,.r (i64 i))])
  (fun i=>[(999,.gh Tryz.prog ll false (some ((enumA d l).drop i)))]) (fun _=>True) 0 (zfo [] ?_ ?_) (Nat.zero_le _) trivial ?_
 ·try simp only[go_sem]
 ·try simp only[go_sem]
 ·intro i vs hi _
  apply zq
  refine zb fun K hK=>?_;simp only[go_sem];apply hK;clear hK K
  apply zq
  apply zc rfl<;>intro hc<;>(try simp only[go_sem] at hc)
  ·obtain⟨x,hx⟩:=zol hc
   have hci:=hc
   have he:(enumA d l).drop i=[i64 i,chV x d]::(enumA d l).drop (i+1):=by
    refine drop_of_opt ?_
    simp [enumA,hx]
   apply zx
   apply zq
   apply zd
   apply zq
   refine zb fun K hK=>?_;simp only[go_sem,hx,hc,aimR];apply hK;clear hK K;apply zw (zk [0,1,3,4,6,7,8]);simp only[go_sem]
   apply zq
   refine zb fun K hK=>?_;simp only[go_sem]
   refine xcall_yield (e:=[i64 i,chV x d]) (rest:=(enumA d l).drop (i+1)) (by simp only[go_sem,he]) rfl (by simp only[go_sem]) (.inr rfl) ?_ ?_
   ·simp only[go_sem];apply hK;clear hK K;apply zw (zk [0,1,6,7,8,20]);simp only[go_sem]
    apply zc rfl<;>intro hc<;>(try simp only[go_sem] at hc)
    apply zx
    try simp only[go_sem]
    refine zb fun K hK=>?_;simp only[go_sem];(try simp (disch:=omega) only[zI]);apply hK;clear hK K
    try simp only[go_sem]
    exact⟨hci,zfo [4] (by try simp only[go_sem]) (by try simp only[go_sem])⟩
   ·simp only[go_sem];apply hK;clear hK K;apply zw (zk [20]);simp only[go_sem]
    apply zc rfl<;>intro hc<;>(try simp only[go_sem] at hc)
    apply ze;simp only[go_sem];exact⟨_,_,.inr rfl⟩
  ·apply zf;simp only[go_sem]
   have h0:(enumA d l).drop i=[]:=List.drop_eq_nil_of_le (by simp [enumA];omega)
   exact⟨ll,false,.inl (by simp only[go_sem,h0])⟩
theorem all_ok (d:Int) (l:List Am):ACalls Tryz.prog 64 [lawV d l] (.fn 96 [.rp [i64 d,aimsR l]]):=by
 refine zas (rs:=[.fn 96 [.rp [i64 d,aimsR l]]]) [.tmp 2] Tryz.func64 rfl (by kernel_rfl) Tryz.ntmps64 rfl (by simp) rfl fun C vs=>?_
 apply zq
 refine zb fun K hK=>?_;simp only[go_sem];apply hK;clear hK K
 apply zq
 refine zb fun K hK=>?_;simp only[go_sem];apply hK;clear hK K;apply ze;simp only[go_sem]
 simp [RV.le,leL_refl.le_refl,leL_refl]
theorem check1_ok (a:Am):ACalls Tryz.prog 93 [aimV a] (.bo (decide (10<a.beds.length))):=by
 refine zas (rs:=[.bo (decide (10<a.beds.length))]) [.tmp 2] Tryz.func93 rfl (by kernel_rfl) Tryz.ntmps93 rfl (by simp) rfl fun C vs=>?_
 apply zq
 refine zb fun K hK=>?_;simp only[go_sem];apply hK;clear hK K
 apply zq
 refine zb fun K hK=>?_;simp only[go_sem]
 intro _
 apply hK;clear hK K;apply ze;simp only[go_sem]
 simp
 omega
def checkV (d:Int) (l:List Am):Int :=
 if (decide (20<l.length) || l.any fun a=>decide (10<a.beds.length))=true then 5
 else if (l.isEmpty || !(decide (1≤d)&&decide (d≤3000)))=true then 2
 else if l.all (aimOk d)=true then 0 else 2
def WfL (d:Int) (l:List Am):Prop:=I64 d∧∀ a∈l,WfA a
theorem check_ok (d:Int) (l:List Am) (hw:WfL d l):ACalls Tryz.prog 63 [lawV d l] (i64 (checkV d l)):=by
 refine acalls_stR (rs:=[i64 (checkV d l)]) [.cell 2 33] Tryz.func63 rfl (by kernel_rfl) Tryz.ntmps63 rfl (by simp) rfl fun C hC vs=>?_
 apply zq
 refine zb fun K hK=>?_;simp only[go_sem];apply hK;clear hK K;apply zw (zk [1,2]);simp only[go_sem]
 repeat apply zq
 refine zb fun K hK=>?_;simp only[go_sem]
 intro hl8
 refine⟨fun h1=>?_,fun h1=>?_⟩
 rotate_left
 ·skip
  apply hK;clear hK K
  apply zc rfl<;>intro hc<;>(try simp only[go_sem] at hc)
  apply zq
  refine zb fun K hK=>?_;simp only[go_sem];apply hK;clear hK K;apply ze;simp only[go_sem]
  have h1':20<l.length:=by omega
  simp [checkV,h1']
 have h1':¬ 20<l.length:=by omega
 refine zh (containsA_ok (fun a=>decide (10<a.beds.length)) 93 [] l fun x _=>check1_ok x) rfl (by simp only[go_sem,i64,ints]) (by simp only[go_sem,i64,ints]) ?_
 (try simp only[go_sem]);apply hK;clear hK K;apply zw (zk [1,2,13]);simp only[go_sem]
 cases h2:l.any fun a=>decide (10<a.beds.length)
 case true =>
  apply zc rfl<;>intro hc<;>(try simp only[go_sem] at hc)
  apply zq
  refine zb fun K hK=>?_;simp only[go_sem];apply hK;clear hK K;apply ze;simp only[go_sem]
  simp [checkV,h2]
 have hlen:∀ a∈l,a.beds.length≤10:=fun a ha=>by
  have:=List.any_eq_false.1 h2 a ha
  simpa using this
 apply zc rfl<;>intro hc<;>(try simp only[go_sem] at hc)
 apply zx
 try simp only[go_sem]
 repeat apply zq
 refine zb fun K hK=>?_;simp only[go_sem]
 intro _
 have h12:(decide (20<l.length) || l.any fun a=>decide (10<a.beds.length))=false:=by simp only[h2,Bool.or_false];simpa using h1'
 have hV:checkV d l=if (l.isEmpty || !(decide (1≤d)&&decide (d≤3000)))=true then 2 else if l.all (aimOk d)=true then 0 else 2:=by
  unfold checkV
  rw[h12]
  rfl
 refine⟨fun h3=>?_,fun h3=>?_⟩
 rotate_left
 ·have h4:l=[]:=List.length_eq_zero_iff.1 (by omega)
  apply hK;clear hK K
  apply zc rfl<;>intro hc<;>(try simp only[go_sem] at hc)
  apply zq
  refine zb fun K hK=>?_;simp only[go_sem];apply hK;clear hK K;apply ze;simp only[go_sem];rw[hV,h4]
  rfl
 have h4:l.isEmpty=false:=by
  cases l with
  | nil=>simp at h3
  | cons=>rfl
 rw[h4,Bool.false_or] at hV
 refine zh (within_ok 1 3000 [d]) rfl (by simp only[go_sem,i64,ints]) (by simp only[go_sem,i64,ints]) ?_
 (try simp only[go_sem]);apply hK;clear hK K;apply zw (zk [1,2,24]);simp only[go_sem]
 have hwd:withinL 1 3000 [d]=(decide (1≤d)&&decide (d≤3000)):=by simp [withinL]
 rw[hwd]
 cases h5:(decide (1≤d)&&decide (d≤3000))
 ·skip
  apply zc rfl<;>intro hc<;>(try simp only[go_sem] at hc)
  apply zq
  refine zb fun K hK=>?_;simp only[go_sem];apply hK;clear hK K;apply ze;simp only[go_sem];rw[hV,h5]
  rfl
 rw[h5] at hV
 have hd:d≤6000:=by simp at h5;omega
 apply zc rfl<;>intro hc<;>(try simp only[go_sem] at hc)
 apply zx
 try simp only[go_sem]
 repeat apply zq
 refine zb fun K hK=>?_;simp only[go_sem]
 refine zh (all_ok d l) rfl (by simp only[go_sem,i64,ints]) (by simp only[go_sem,i64,ints]) ?_
 (try simp only[go_sem]);apply hK;clear hK K;apply zw (zk [2,26]);simp only[go_sem];apply zd
 refine awp_rangeF hC (enumA d l) (all1_ok d l) [2,26] (by decide) (fun vs=>[(2,.pt 2 (vs 2) 0),(26,.r (.fn 96 [.rp [i64 d,aimsR l]]))]) (fun i vs=>[(2,.box [.r (i64 0)])])
  (fun i=>(l.take i).all (aimOk d)=true) (zj [1] ?_ ?_) (by simp) (fun _=>rfl) (fun _=>rfl) (fun _ _=>rfl) (by simp) (fun e he=>enumA_len he) ?_ ?_
 ·try simp only[go_sem]
 ·try simp only[go_sem]
 ·intro i e vs us C he hI
  obtain⟨x,hx,rfl⟩:=enumA_get he
  refine zb fun K hK=>?_;simp only[go_sem];apply hK;clear hK K
  refine⟨rfl,fun C'=>?_⟩
  apply zw (zk [2,4,26]);simp only[go_sem];apply zd
  apply zq
  refine zb fun K hK=>?_;simp only[go_sem]
  refine zh (isValid_ok x d (hw.2 x (zmo hx)) hd (by have:=hlen x (zmo hx);omega)) rfl (by simp only[go_sem,i64,ints]) (by simp only[go_sem,i64,ints]) ?_
  (try simp only[go_sem]);apply hK;clear hK K;apply zw (zk [2,26,31]);simp only[go_sem]
  cases h6:aimOk d x
  ·skip
   apply zc rfl<;>intro hc<;>(try simp only[go_sem] at hc)
   apply zq
   refine zb fun K hK=>?_;simp only[go_sem];apply hK;clear hK K;apply ze;simp only[go_sem]
   refine rf_ret (by simp only[go_sem];rfl) ?_
   try simp only[go_sem]
   rw[hV]
   have:l.all (aimOk d)=false:=List.all_eq_false.2 ⟨x,zmo hx,by simp [h6]⟩
   rw[this]
   rfl
  ·skip
   apply zc rfl<;>intro hc<;>(try simp only[go_sem] at hc)
   apply zx
   try simp only[go_sem]
   refine⟨?_,zj (F:=fun _=>[]) [4] (by try simp only[go_sem]) (by try simp only[go_sem])⟩
   rw[zto hx];simp [hI,h6]
 ·intro vs us hI
  try simp only[go_sem]
  refine zw (sub_wake rfl) ?_
  apply zq
  refine zb fun K hK=>?_;simp only[go_sem];apply hK;clear hK K;apply ze;simp only[go_sem];rw[hV]
  have:(enumA d l).length=l.length:=by simp [enumA]
  rw[this,List.take_length] at hI
  rw[hI]
  rfl
end Go.Proofs.YtgfbenanljjgaaaGreat.Du

namespace Go.Proofs.YtgfbenanljjgaaaGreat.Du.Th
open Go Go.Oc
set_option maxRecDepth 8000
theorem aimOk_facts {d:Int}{a:Am}(h:aimOk d a=true):bedOk a.at_=true∧a.beds≠[]∧seqOk none a.beds=true∧chOk d a.beds=true∧loS a.beds≤d∧d≤hiS a.beds:=by
 simp only[aimOk,Bool.and_eq_true,decide_eq_true_eq,Bool.not_eq_true'] at h
 obtain⟨⟨⟨⟨⟨h1,h2⟩,h3⟩,h4⟩,h5⟩,h6⟩:=h
 exact⟨h1,fun e=>(by rw[e] at h2;cases h2),h3,h4,h5,h6⟩
theorem checkV_zero {d:Int}{l:List Am}(h:checkV d l=0):l.length≤20∧(∀ a∈l,a.beds.length≤10)∧l≠[]∧(1≤d∧d≤3000)∧∀ a∈l,aimOk d a=true:=by
 unfold checkV at h
 split at h
 ·cases h
 rename_i h1
 split at h
 ·cases h
 rename_i h2
 split at h
 ·rename_i h3
  simp only[Bool.or_eq_true,decide_eq_true_eq,List.any_eq_true,not_or,not_exists,not_and,Nat.not_lt,Bool.not_eq_true,Bool.not_eq_false',Bool.and_eq_true] at h1 h2
  refine⟨h1.1,h1.2,fun e=>?_,by simpa using h2.2,List.all_eq_true.1 h3⟩
  rw[e] at h2
  simp at h2
 ·cases h
def cmpI (x y:Int):Int:=if x<y then -1 else if y<x then 1 else 0
theorem nan_ok (n:Int):ACalls Tryz.prog 79 [i64 n] (.bo false):=by
 refine zas (rs:=[.bo false]) [.tmp 2] Tryz.func79 rfl (by kernel_rfl) Tryz.ntmps79 rfl (by simp) rfl fun C vs=>?_
 apply zq
 refine zb fun K hK=>?_;simp only[go_sem];apply hK;clear hK K
 apply zq
 refine zb fun K hK=>?_;simp only[go_sem];apply hK;clear hK K;apply ze;simp only[go_sem]
 simp
theorem compare_ok (x y:Int):ACalls Tryz.prog 52 [i64 x,i64 y] (i64 (cmpI x y)):=by
 refine zas (rs:=[i64 (cmpI x y)]) [.tmp 4] Tryz.func52 rfl (by kernel_rfl) Tryz.ntmps52 rfl (by simp) rfl fun C vs=>?_
 apply zq
 refine zb fun K hK=>?_;simp only[go_sem];apply hK;clear hK K
 apply zq
 refine zb fun K hK=>?_;simp only[go_sem]
 refine zh (nan_ok x) rfl (by simp only[go_sem,i64,ints]) (by simp only[go_sem,i64,ints]) ?_
 (try simp only[go_sem]);apply hK;clear hK K
 apply zq
 refine zb fun K hK=>?_;simp only[go_sem]
 refine zh (nan_ok y) rfl (by simp only[go_sem,i64,ints]) (by simp only[go_sem,i64,ints]) ?_
 (try simp only[go_sem]);apply hK;clear hK K
 repeat apply zq
 refine zb fun K hK=>?_;simp only[go_sem];apply hK;clear hK K
 apply zc rfl<;>intro hc<;>(try simp only[go_sem] at hc)
 apply zx
 try simp only[go_sem]
 repeat apply zq
 refine zb fun K hK=>?_;simp only[go_sem];apply hK;clear hK K
 apply zc rfl<;>intro hc<;>(try simp only[go_sem] at hc)
 apply zx
 try simp only[go_sem]
 repeat apply zq
 refine zb fun K hK=>?_;simp only[go_sem];apply hK;clear hK K
 apply zc rfl<;>intro hc<;>(try simp only[go_sem] at hc)
 ·apply zq
  refine zb fun K hK=>?_;simp only[go_sem];apply hK;clear hK K;apply ze;simp only[go_sem]
  simp [cmpI,hc]
 apply zx
 try simp only[go_sem]
 repeat apply zq
 refine zb fun K hK=>?_;simp only[go_sem];apply hK;clear hK K
 have h1:=hc
 apply zc rfl<;>intro hc<;>(try simp only[go_sem] at hc)
 ·apply zq
  refine zb fun K hK=>?_;simp only[go_sem];apply hK;clear hK K;apply ze;simp only[go_sem]
  have:¬ x<y:=by omega
  simp [cmpI,hc,this]
 apply zx
 try simp only[go_sem]
 apply zq
 refine zb fun K hK=>?_;simp only[go_sem];apply hK;clear hK K;apply ze;simp only[go_sem]
 have h2:¬ x<y:=by omega
 have h3:¬ y<x:=by omega
 simp [cmpI,h2,h3]
def insB (lt:Nat→Nat→Bool) (x:Nat):List Nat→List Nat
 | []=>[x]
 | y::ys=>if lt x y then y::insB lt x ys else x::y::ys
def sortB (lt:Nat→Nat→Bool):List Nat→List Nat→List Nat
 | [],R=>R
 | x::xs,R=>sortB lt xs (insB lt x R)
def sortN (lt:Nat→Nat→Bool) (l:List Nat):List Nat:=(sortB lt l []).reverse
theorem insB_len (lt:Nat→Nat→Bool) (x:Nat):∀ R,(insB lt x R).length=R.length+1
 | []=>rfl
 | y::R=>by
   unfold insB
   split
   ·simp [insB_len lt x R]
   ·rfl
theorem insB_skip (lt:Nat→Nat→Bool) (x:Nat):∀ (R:List Nat) (k:Nat),(∀ y∈R.take k,lt x y=true)→insB lt x R=R.take k++insB lt x (R.drop k)
 | R,0,_=>by simp
 | [],k+1,_=>by simp
 | y::R, k+1, h=>by
   have hy:lt x y=true:=h y (by simp)
   have ih:=insB_skip lt x R k fun z hz=>h z (by simp [hz])
   simp only[List.take_succ_cons,List.drop_succ_cons,List.cons_append];rw[← ih]
   simp [insB,hy]
theorem sortB_snoc (lt:Nat→Nat→Bool):∀ (l:List Nat) (x:Nat) (R:List Nat),sortB lt (l++[x]) R=insB lt x (sortB lt l R)
 | [],_,_=>rfl
 | y::l,x,R=>by simp only[List.cons_append,sortB];exact sortB_snoc lt l x _
theorem sortB_len (lt:Nat→Nat→Bool):∀ (l R:List Nat),(sortB lt l R).length=l.length+R.length
 | [],R=>by simp [sortB]
 | x::l,R=>by simp only[sortB];rw[sortB_len lt l,insB_len];simp;omega
theorem mem_insB (lt:Nat→Nat→Bool) (x z:Nat):∀ R,z∈insB lt x R↔z=x∨z∈R
 | []=>by simp [insB]
 | y::R=>by
   unfold insB
   split
   ·simp only[List.mem_cons,mem_insB lt x z R]
    constructor
    ·rintro (h|h|h)<;>simp [h]
    ·rintro (h|h|h)<;>simp [h]
   ·simp
theorem mem_sortB (lt:Nat→Nat→Bool) (z:Nat):∀ l R,z∈sortB lt l R↔z∈l∨z∈R
 | [],R=>by simp [sortB]
 | x::l, R=>by
   simp only[sortB];rw[mem_sortB lt z l,mem_insB]
   simp only[List.mem_cons]
   constructor
   ·rintro (h|h|h)<;>simp [h]
   ·rintro ((h|h)|h)<;>simp [h]
def holeL (R:List Nat) (x k:Nat) (rest:List Nat):List Nat:=(R.drop k).reverse++x::((R.take k).reverse++rest)
theorem hole_len (R:List Nat) (x k:Nat) (rest:List Nat) (hk:k≤R.length):(holeL R x k rest).length=R.length+1+rest.length:=by
 simp [holeL];omega
theorem hole_at (R:List Nat) (x k:Nat) (rest:List Nat) (hk:k≤R.length):(holeL R x k rest)[R.length-k]? = some x:=by
 unfold holeL
 rw[List.getElem?_append_right (by simp)]
 simp
theorem hole_next {R:List Nat}{x k y:Nat}{rest:List Nat}(hy:R[k]? = some y):(holeL R x k rest)[R.length-k-1]? = some y∧(holeL R x k rest)=(R.drop (k+1)).reverse++y::x::((R.take k).reverse++rest)∧holeL R x (k+1) rest=(R.drop (k+1)).reverse++x::y::((R.take k).reverse++rest):=by
 have hk:=(List.getElem?_eq_some_iff.1 hy).1
 have hd:=drop_of_opt hy
 have ht:=zto hy
 have e1:(holeL R x k rest)=(R.drop (k+1)).reverse++y::x::((R.take k).reverse++rest):=by
  unfold holeL;rw[hd];simp
 refine⟨?_,e1,by unfold holeL;rw[ht];simp⟩
 rw[e1,List.getElem?_append_right (by simp;omega)]
 have:R.length-k-1-(R.drop (k+1)).reverse.length=0:=by simp;omega
 rw[this];rfl
theorem hole_swap {α:Type}(g:Nat→α) {R:List Nat}{x k y:Nat}{rest:List Nat}(hy:R[k]? = some y) :
 (((holeL R x k rest).map g).set (R.length-k) (g y)).set (R.length-k-1) (g x)=(holeL R x (k+1) rest).map g:=by
 obtain⟨_,e1,e2⟩:=hole_next (x:=x) (rest:=rest) hy
 have hk:=(List.getElem?_eq_some_iff.1 hy).1
 rw[e1,e2,← List.map_set,← List.map_set]
 congr 1
 have hl:(R.drop (k+1)).reverse.length=R.length-k-1:=by simp;omega
 generalize (R.drop (k+1)).reverse=A at hl
 generalize (R.take k).reverse++rest=B
 have e3:R.length-k=A.length+1:=by omega
 rw[e3,Nat.add_sub_cancel]
 rw[List.set_append_right _ _ (by omega)]
 simp only[Nat.add_sub_cancel_left,List.set_cons_succ,List.set_cons_zero];rw[List.set_append_right _ _ (by omega)]
 simp
theorem lent_put {vs:Nat→Nat}{k:Nat}(h:Lent vs):Lent (upd vs k 0):=fun j hj=>by
 unfold upd;split
 ·rfl
 ·exact h j hj
abbrev idx (l:List Nat):List (List RV):=l.map fun (x:Nat)=>[i64 (x:Int)]
theorem insertion_ok (lt:Nat→Nat→Bool) (c:Nat→Nat→Int) (f:Nat) (caps:List RV) (l:List Nat) (hl:l.length≤1000) (hlt:∀ x y,lt x y=decide (c x y<0))
 (hcc:∀ x∈l,∀ y∈l,ACalls Tryz.prog f (i64 (x:Int)::i64 (y:Int)::caps) (i64 (c x y))) :
 MCalls Tryz.prog 200 [(1000,.arr 3 1 (idx l))] [(1000,.arr 3 1 (idx (sortN lt l)))] [.os 1000 0 1 0 l.length,.r (i64 0),.r (i64 l.length),.r (.fn f caps)] (.tu []):=by
 refine mcalls_st (n:=53) (rs:=[]) _ _ [] Tryz.func200 rfl (by kernel_rfl) Tryz.ntmps200 rfl (by simp) rfl rfl fun C=>?_
 have hmem:∀ i z,z∈sortB lt (l.take i) []→z∈l:=fun i z hz=>by
  rw[mem_sortB] at hz
  rcases hz with hz|hz
  ·exact List.mem_of_mem_take hz
  ·cases hz
 apply zq
 refine zb fun K hK=>?_;simp only[go_sem];(try simp (disch:=omega) only[zI]);apply hK;clear hK K;apply zw (zk [0,1,2,3,8]);simp only[go_sem];apply zd
 refine awp_upto0 (n:=53) (max l.length 1) (fun i vs=>[(0,.os 1000 0 1 0 l.length),(1,.r (i64 0)),(2,.r (i64 l.length)),(3,.r (.fn f caps)),(8,.r (i64 i))])
  (fun i=>[(1000,.arr 3 1 (idx ((sortB lt (l.take i) []).reverse++l.drop i)))]) (fun i=>1≤i) 1 (fit0_of [] lent_zero ?_ ?_) (by omega) (Nat.le_refl _) ?_
 ·try simp only[go_sem]
 ·simp only[go_sem]
  cases l with
  | nil=>rfl
  | cons x l=>simp [sortB,insB]
 ·intro i vs hv hi hi1
  have hv0:=hv 1000 (by omega)
  repeat apply zq
  refine zb fun K hK=>?_;simp only[go_sem];apply hK;clear hK K;apply zw (zk [0,1,2,3,8,14]);simp only[go_sem]
  apply zc rfl<;>intro hc<;>(try simp only[go_sem] at hc)
  ·have hci:i<l.length:=by omega
   obtain⟨x,hx⟩:=zol hci
   obtain⟨R,hR⟩:∃ R,R=sortB lt (l.take i) []:=⟨_,rfl⟩
   have hRl:R.length=i:=by rw[hR,sortB_len];simp;omega
   have hRm:∀ z∈R,z∈l:=fun z hz=>hmem i z (hR▸hz)
   have hnx:sortB lt (l.take (i+1)) []=insB lt x R:=by rw[zto hx,sortB_snoc,hR]
   have hst:(sortB lt (l.take i) []).reverse++l.drop i=holeL R x 0 (l.drop (i+1)):=by rw[← hR,drop_of_opt hx];simp [holeL]
   rw[hst]
   apply zx
   apply zq
   apply zd
   apply zq
   refine zb fun K hK=>?_;simp only[go_sem];apply hK;clear hK K;apply zw (zk [0,1,2,3,8,9]);simp only[go_sem];apply zd
   refine awp_upto0 (n:=53) i (fun k vs=>[(0,.os 1000 0 1 0 l.length),(1,.r (i64 0)),(2,.r (i64 l.length)),(3,.r (.fn f caps)),(8,.r (i64 i)),(9,.r (i64 (i-k:Nat)))])
    (fun k=>[(1000,.arr 3 1 (idx (holeL R x k (l.drop (i+1)))))]) (fun k=>∀ y∈R.take k,lt x y=true) 0 (fit0_of [] hv ?_ ?_) (Nat.zero_le _) (by simp) ?_
   ·try simp only[go_sem]
   ·try simp only[go_sem]
   ·intro k vs hv hk hI
    have hv0:=hv 1000 (by omega)
    have hins:=insB_skip lt x R k hI
    have done:insB lt x (R.drop k)=x::R.drop k→sortB lt (l.take (i+1)) []=R.take k++x::R.drop k:=fun h=>by rw[hnx,hins,h]
    by_cases hk0:k=i
    ·have e0:i-k=0:=by omega
     repeat apply zq
     refine awp_dreg2 [(0,some 1000)] follows (by decide +kernel) (by kernel_rfl) (by simp only[keysOk,List.mem_cons,List.not_mem_nil,forall_eq_or_imp,Oc.keyOf,go_sem];simp) fun K hK=>?_
     simp only[go_sem,hv0,e0];apply hK;clear hK K;apply zw (zk [0,1,2,3,8,9,34]);simp only[go_sem]
     apply zc rfl<;>intro hc<;>(try simp only[go_sem] at hc)
     apply zf;simp only[go_sem];refine zb fun K hK=>?_;simp only[go_sem];(try simp (disch:=omega) only[zI]);apply hK;clear hK K
     try simp only[go_sem]
     refine⟨by omega,fit0_of [] hv ?_ ?_⟩
     ·try simp only[go_sem]
     ·have hd0:R.drop k=[]:=List.drop_eq_nil_of_le (by omega)
      have:=done (by rw[hd0];rfl)
      simp only[go_sem,this]
      simp [holeL]
    ·obtain⟨y,hy⟩:=zol (l:=R) (i:=k) (by omega)
     obtain⟨j,hj⟩:∃ j,i-k=j+1:=⟨i-k-1,by omega⟩
     have hjs:IntKind.i64.wrap ((j:Int)+1-1)=j:=by rw[zI]<;>omega
     have hlen:(holeL R x k (l.drop (i+1))).length=l.length:=by rw[hole_len _ _ _ _ (by omega),List.length_drop];omega
     have hxa:(holeL R x k (l.drop (i+1)))[j+1]? = some x:=by rw[← hj,← hRl];exact hole_at R x k _ (by omega)
     have hya:(holeL R x k (l.drop (i+1)))[j]? = some y:=by
      have:=(hole_next (x:=x) (rest:=l.drop (i+1)) hy).1
      rw[hRl,hj] at this
      exact this
     have hcall:=hcc x (zmo hx) y (hRm y (zmo hy))
     have hpos:(0<(j:Int)+1)=True:=by simp
     have hlxy:=hlt x y
     repeat apply zq
     refine awp_dreg2 [(0,some 1000)] follows (by decide +kernel) (by kernel_rfl) (by simp only[keysOk,List.mem_cons,List.not_mem_nil,forall_eq_or_imp,Oc.keyOf,go_sem];simp) fun K hK=>?_
     simp only[go_sem,hv0,hj,hjs,hxa,hya,hlen,hpos]
     refine⟨by omega,by omega,?_⟩
     refine zh (hcall) rfl (by simp only[go_sem,i64,ints,hv0]) (by simp only[go_sem,i64,ints,hv0]) ?_
     (try simp only[go_sem,hv0]);apply hK;clear hK K;apply zw (zk [0,1,2,3,8,9,34]);simp only[go_sem]
     cases hcx:decide (c x y<0)
     ·skip
      apply zc rfl<;>intro hc<;>(try simp only[go_sem] at hc)
      apply zf;simp only[go_sem];refine zb fun K hK=>?_;simp only[go_sem];(try simp (disch:=omega) only[zI]);apply hK;clear hK K
      try simp only[go_sem]
      refine⟨by omega,fit0_of [] hv ?_ ?_⟩
      ·try simp only[go_sem]
      ·have:=done (by rw[drop_of_opt hy];simp [insB,hlxy,hcx])
       simp only[go_sem,this]
       simp [holeL]
     ·skip
      apply zc rfl<;>intro hc<;>(try simp only[go_sem] at hc)
      apply zx
      try simp only[go_sem]
      apply zq
      apply zd
      have hset:((idx (holeL R x k (l.drop (i+1)))).set (j+1) [i64 (y:Int)]).getD j []=[i64 (y:Int)]:=by
       rw[List.getD_eq_getElem?_getD,List.getElem?_set_ne (by omega),List.getElem?_map,hya];rfl
      have hsw:=hole_swap (fun (x:Nat)=>[i64 (x:Int)]) (x:=x) (rest:=l.drop (i+1)) hy
      rw[hRl,hj] at hsw
      simp only[Nat.add_sub_cancel] at hsw
      refine awp_dreg2 [(0,some 1000)] follows (by decide +kernel) (by kernel_rfl) (by simp only[keysOk,List.mem_cons,List.not_mem_nil,forall_eq_or_imp,Oc.keyOf,go_sem];simp) fun K hK=>?_
      simp only[go_sem,hv0,hj,hjs,hxa,hya,hlen,hset,List.length_set]
      repeat' first|intro _|refine And.intro ?_ ?_
      all_goals first|omega|skip
      all_goals (refine hK _ ?_;clear hK K)
      apply zw (zk [0,1,2,3,8,9]);simp only[go_sem];refine zb fun K hK=>?_;simp only[go_sem,hjs];apply hK;clear hK K
      try simp only[go_sem]
      have hj2:i-(k+1)=j:=by omega
      refine⟨by omega,?_,fit0_of [] (lent_put (lent_put hv)) ?_ ?_⟩
      ·rw[zto hy]
       intro z hz
       rcases List.mem_append.1 hz with hz|hz
       ·exact hI z hz
       ·simp only[List.mem_singleton] at hz
        subst hz
        rw[hlxy,hcx]
      ·simp only[go_sem,hj2]
      ·simp only[go_sem];exact congrArg (fun z=>[(1000,RowC.arr 3 1 z)]) hsw
  ·apply zf;simp only[go_sem]
   have h1:l.take i=l:=List.take_of_length_le (by omega)
   have h2:l.drop i=[]:=List.drop_eq_nil_of_le (by omega)
   rw[h1,h2,List.append_nil]
   rfl
end Go.Proofs.YtgfbenanljjgaaaGreat.Du.Th

namespace Go.Proofs.YtgfbenanljjgaaaGreat.Du.Th.Ai
open Go Go.Oc
set_option maxRecDepth 8000
abbrev arrV (l:List Int):List (List RV):=l.map fun n=>[i64 n]
abbrev fnS (s:Bool):AV:=.fn 186 [.r (.rp [.bo s]),.pt 1001 0 0]
abbrev rowsV (l:List Nat) (vals:List Int):List (Nat × RowC):=[(1000,.arr 3 1 (idx l)),(1001,.box [.os 1002 0 1 0 vals.length]),(1002,.arr 3 1 (arrV vals))]
theorem insertionV_ok (lt:Nat→Nat→Bool) (c:Nat→Nat→Int) (s:Bool) (vals:List Int) (l:List Nat) (hl:l.length≤1000) (hlt:∀ x y,lt x y=decide (c x y<0))
 (hcc:∀ x∈l,∀ y∈l,ACalls Tryz.prog 186 [i64 (x:Int),i64 (y:Int),.rp [.bo s],.rp [ints vals]] (i64 (c x y))) :
 MCalls Tryz.prog 200 (rowsV l vals) (rowsV (sortN lt l) vals) [.os 1000 0 1 0 l.length,.r (i64 0),.r (i64 l.length),fnS s] (.tu []):=by
 refine mcalls_st (n:=53) (rs:=[]) _ _ [] Tryz.func200 rfl (by kernel_rfl) Tryz.ntmps200 rfl (by simp) rfl rfl fun C=>?_
 have hmem:∀ i z,z∈sortB lt (l.take i) []→z∈l:=fun i z hz=>by
  rw[mem_sortB] at hz
  rcases hz with hz|hz
  ·exact List.mem_of_mem_take hz
  ·cases hz
 apply zq
 refine zb fun K hK=>?_;simp only[go_sem];(try simp (disch:=omega) only[zI]);apply hK;clear hK K;apply zw (zk [0,1,2,3,8]);simp only[go_sem];apply zd
 refine awp_upto0 (n:=53) (max l.length 1) (fun i vs=>[(0,.os 1000 0 1 0 l.length),(1,.r (i64 0)),(2,.r (i64 l.length)),(3,fnS s),(8,.r (i64 i))])
  (fun i=>[(1000,.arr 3 1 (idx ((sortB lt (l.take i) []).reverse++l.drop i))),(1001,.box [.os 1002 0 1 0 vals.length]),(1002,.arr 3 1 (arrV vals))]) (fun i=>1≤i) 1 (fit0_of [] lent_zero ?_ ?_) (by omega) (Nat.le_refl _) ?_
 ·try simp only[go_sem]
 ·simp only[go_sem]
  cases l with
  | nil=>rfl
  | cons x l=>simp [sortB,insB]
 ·intro i vs hv hi hi1
  have hv0:=hv 1000 (by omega)
  have hv1:=hv 1001 (by omega)
  have hv2:=hv 1002 (by omega)
  repeat apply zq
  refine zb fun K hK=>?_;simp only[go_sem];apply hK;clear hK K;apply zw (zk [0,1,2,3,8,14]);simp only[go_sem]
  apply zc rfl<;>intro hc<;>(try simp only[go_sem] at hc)
  ·have hci:i<l.length:=by omega
   obtain⟨x,hx⟩:=zol hci
   obtain⟨R,hR⟩:∃ R,R=sortB lt (l.take i) []:=⟨_,rfl⟩
   have hRl:R.length=i:=by rw[hR,sortB_len];simp;omega
   have hRm:∀ z∈R,z∈l:=fun z hz=>hmem i z (hR▸hz)
   have hnx:sortB lt (l.take (i+1)) []=insB lt x R:=by rw[zto hx,sortB_snoc,hR]
   have hst:(sortB lt (l.take i) []).reverse++l.drop i=holeL R x 0 (l.drop (i+1)):=by rw[← hR,drop_of_opt hx];simp [holeL]
   rw[hst]
   apply zx
   apply zq
   apply zd
   apply zq
   refine zb fun K hK=>?_;simp only[go_sem];apply hK;clear hK K;apply zw (zk [0,1,2,3,8,9]);simp only[go_sem];apply zd
   refine awp_upto0 (n:=53) i (fun k vs=>[(0,.os 1000 0 1 0 l.length),(1,.r (i64 0)),(2,.r (i64 l.length)),(3,fnS s),(8,.r (i64 i)),(9,.r (i64 (i-k:Nat)))])
    (fun k=>[(1000,.arr 3 1 (idx (holeL R x k (l.drop (i+1))))),(1001,.box [.os 1002 0 1 0 vals.length]),(1002,.arr 3 1 (arrV vals))]) (fun k=>∀ y∈R.take k,lt x y=true) 0 (fit0_of [] hv ?_ ?_) (Nat.zero_le _) (by simp) ?_
   ·try simp only[go_sem]
   ·try simp only[go_sem]
   ·intro k vs hv hk hI
    have hv0:=hv 1000 (by omega)
    have hv1:=hv 1001 (by omega)
    have hv2:=hv 1002 (by omega)
    have hins:=insB_skip lt x R k hI
    have done:insB lt x (R.drop k)=x::R.drop k→sortB lt (l.take (i+1)) []=R.take k++x::R.drop k:=fun h=>by rw[hnx,hins,h]
    by_cases hk0:k=i
    ·have e0:i-k=0:=by omega
     repeat apply zq
     refine awp_dreg2 [(0,some 1000)] follows (by decide +kernel) (by kernel_rfl) (by simp only[keysOk,List.mem_cons,List.not_mem_nil,forall_eq_or_imp,Oc.keyOf,go_sem];simp) fun K hK=>?_
     simp only[go_sem,hv0,hv1,hv2,e0];apply hK;clear hK K;apply zw (zk [0,1,2,3,8,9,34]);simp only[go_sem]
     apply zc rfl<;>intro hc<;>(try simp only[go_sem] at hc)
     apply zf;simp only[go_sem];refine zb fun K hK=>?_;simp only[go_sem];(try simp (disch:=omega) only[zI]);apply hK;clear hK K
     try simp only[go_sem]
     refine⟨by omega,fit0_of [] hv ?_ ?_⟩
     ·try simp only[go_sem]
     ·have hd0:R.drop k=[]:=List.drop_eq_nil_of_le (by omega)
      have:=done (by rw[hd0];rfl)
      simp only[go_sem,this]
      simp [holeL]
    ·obtain⟨y,hy⟩:=zol (l:=R) (i:=k) (by omega)
     obtain⟨j,hj⟩:∃ j,i-k=j+1:=⟨i-k-1,by omega⟩
     have hjs:IntKind.i64.wrap ((j:Int)+1-1)=j:=by rw[zI]<;>omega
     have hlen:(holeL R x k (l.drop (i+1))).length=l.length:=by rw[hole_len _ _ _ _ (by omega),List.length_drop];omega
     have hxa:(holeL R x k (l.drop (i+1)))[j+1]? = some x:=by rw[← hj,← hRl];exact hole_at R x k _ (by omega)
     have hya:(holeL R x k (l.drop (i+1)))[j]? = some y:=by
      have:=(hole_next (x:=x) (rest:=l.drop (i+1)) hy).1
      rw[hRl,hj] at this
      exact this
     have hcall:=hcc x (zmo hx) y (hRm y (zmo hy))
     have hpos:(0<(j:Int)+1)=True:=by simp
     have hlxy:=hlt x y
     repeat apply zq
     refine awp_dreg2 [(0,some 1000)] follows (by decide +kernel) (by kernel_rfl) (by simp only[keysOk,List.mem_cons,List.not_mem_nil,forall_eq_or_imp,Oc.keyOf,go_sem];simp) fun K hK=>?_
     simp only[go_sem,hv0,hv1,hv2,hj,hjs,hxa,hya,hlen,hpos]
     refine⟨by omega,by omega,?_⟩
     refine zh (hcall) rfl (by simp only[go_sem,i64,ints,hv0,hv1,hv2,fnS]) (by simp only[go_sem,i64,ints,hv0,hv1,hv2,fnS]) ?_
     (try simp only[go_sem,hv0,hv1,hv2,fnS]);apply hK;clear hK K;apply zw (zk [0,1,2,3,8,9,34]);simp only[go_sem]
     cases hcx:decide (c x y<0)
     ·skip
      apply zc rfl<;>intro hc<;>(try simp only[go_sem] at hc)
      apply zf;simp only[go_sem];refine zb fun K hK=>?_;simp only[go_sem];(try simp (disch:=omega) only[zI]);apply hK;clear hK K
      try simp only[go_sem]
      refine⟨by omega,fit0_of [] hv ?_ ?_⟩
      ·try simp only[go_sem]
      ·have:=done (by rw[drop_of_opt hy];simp [insB,hlxy,hcx])
       simp only[go_sem,this]
       simp [holeL]
     ·skip
      apply zc rfl<;>intro hc<;>(try simp only[go_sem] at hc)
      apply zx
      try simp only[go_sem]
      apply zq
      apply zd
      have hset:((idx (holeL R x k (l.drop (i+1)))).set (j+1) [i64 (y:Int)]).getD j []=[i64 (y:Int)]:=by
       rw[List.getD_eq_getElem?_getD,List.getElem?_set_ne (by omega),List.getElem?_map,hya];rfl
      have hsw:=hole_swap (fun (x:Nat)=>[i64 (x:Int)]) (x:=x) (rest:=l.drop (i+1)) hy
      rw[hRl,hj] at hsw
      simp only[Nat.add_sub_cancel] at hsw
      refine awp_dreg2 [(0,some 1000)] follows (by decide +kernel) (by kernel_rfl) (by simp only[keysOk,List.mem_cons,List.not_mem_nil,forall_eq_or_imp,Oc.keyOf,go_sem];simp) fun K hK=>?_
      simp only[go_sem,hv0,hv1,hv2,hj,hjs,hxa,hya,hlen,hset,List.length_set]
      repeat' first|intro _|refine And.intro ?_ ?_
      all_goals first|omega|skip
      all_goals (refine hK _ ?_;clear hK K)
      apply zw (zk [0,1,2,3,8,9]);simp only[go_sem];refine zb fun K hK=>?_;simp only[go_sem,hjs];apply hK;clear hK K
      try simp only[go_sem]
      have hj2:i-(k+1)=j:=by omega
      refine⟨by omega,?_,fit0_of [] (lent_put (lent_put hv)) ?_ ?_⟩
      ·rw[zto hy]
       intro z hz
       rcases List.mem_append.1 hz with hz|hz
       ·exact hI z hz
       ·simp only[List.mem_singleton] at hz
        subst hz
        rw[hlxy,hcx]
      ·simp only[go_sem,hj2]
      ·simp only[go_sem];exact congrArg (fun z=>[(1000,RowC.arr 3 1 z),(1001,RowC.box [.os 1002 0 1 0 vals.length]),(1002,RowC.arr 3 1 (arrV vals))]) hsw
  ·apply zf;simp only[go_sem]
   have h1:l.take i=l:=List.take_of_length_le (by omega)
   have h2:l.drop i=[]:=List.drop_eq_nil_of_le (by omega)
   rw[h1,h2,List.append_nil]
   rfl
set_option maxHeartbeats 4000000
theorem ascore_ok (b:Int) (hb:0≤b∧b≤499):ACalls Tryz.prog 182 [i64 b] (i64 (scoreOf b)):=by
 have e1:Int.tdiv b 100=b / 100:=Int.tdiv_eq_ediv_of_nonneg hb.1
 have e2:Int.tmod b 100=b % 100:=Int.tmod_eq_emod_of_nonneg hb.1
 have h1:0≤b / 100∧b / 100≤4:=by omega
 have h2:0≤b % 100∧b % 100≤99:=by omega
 have h3:=Int.mul_nonneg h1.1 h2.1
 have h4:=Int.mul_le_mul h1.2 h2.2 h2.1 (show (0:Int)≤4 by omega)
 have w1:IntKind.i64.wrap (b / 100)=b / 100:=by rw[zI]<;>omega
 have w2:IntKind.i64.wrap (b % 100)=b % 100:=by rw[zI]<;>omega
 have w3:IntKind.i64.wrap (b / 100*(b % 100))=b / 100*(b % 100):=by rw[zI]<;>omega
 have hs:scoreOf b=b / 100*(b % 100):=rfl
 rw[hs]
 refine zas (rs:=[i64 (b / 100*(b % 100))]) [.tmp 2] Tryz.func182 rfl (by kernel_rfl) Tryz.ntmps182 rfl (by simp) rfl fun C vs=>?_
 apply zq
 refine zb fun K hK=>?_;simp only[go_sem];apply hK;apply zw (zk [0]);simp only[go_sem]
 apply zq
 refine zb fun K hK=>?_;simp only[go_sem,e1,e2,w1,w2,w3];apply hK;apply zw (zk [2]);simp only[go_sem];apply ze;simp only[go_sem]
def opA (g b:Int):Bool:=if g=1 then decide (b / 100=2) else if g=2 then decide (2≤b / 100) else decide (b≠0)
theorem aopens_ok (b g:Int) (hb:0≤b∧b≤499):ACalls Tryz.prog 183 [i64 b,i64 g] (.bo (opA g b)):=by
 have e1:Int.tdiv b 100=b / 100:=Int.tdiv_eq_ediv_of_nonneg hb.1
 have w1:IntKind.i64.wrap (b / 100)=b / 100:=by rw[zI]<;>omega
 refine zas (rs:=[.bo (opA g b)]) [.tmp 4] Tryz.func183 rfl (by kernel_rfl) Tryz.ntmps183 rfl (by simp) rfl fun C vs=>?_
 apply zq
 refine zb fun K hK=>?_;simp only[go_sem];apply hK;apply zw (zk [0,1]);simp only[go_sem]
 apply zq
 refine zb fun K hK=>?_;simp only[go_sem,e1,w1];apply hK;apply zw (zk [0,1,5]);simp only[go_sem]
 repeat apply zq
 refine zb fun K hK=>?_;simp only[go_sem];apply hK;apply zw (zk [0,5,8]);simp only[go_sem];apply zd
 apply zq
 refine zb fun K hK=>?_;simp only[go_sem];apply hK;apply zw (zk [0,5,8,9]);simp only[go_sem]
 by_cases h1:g=1
 ·subst h1
  apply zc rfl<;>intro hc<;>(try simp only[go_sem] at hc)
  apply zq
  refine zb fun K hK=>?_;simp only[go_sem];apply hK;apply zw (zk [4]);simp only[go_sem];apply ze;simp only[go_sem];rw[Bool.eq_iff_iff]
  simp [opA]
 ·have e1:(g == 1)=false:=by simpa using h1
  rw[e1]
  apply zc rfl<;>intro hc<;>(try simp only[go_sem] at hc)
  apply zq
  refine zb fun K hK=>?_;simp only[go_sem];apply hK;apply zw (zk [0,5,13]);simp only[go_sem]
  by_cases h2:g=2
  ·subst h2
   apply zc rfl<;>intro hc<;>(try simp only[go_sem] at hc)
   apply zq
   refine zb fun K hK=>?_;simp only[go_sem];apply hK;apply zw (zk [4]);simp only[go_sem];apply ze;simp only[go_sem]
   simp [opA]
  ·have e2:(g == 2)=false:=by simpa using h2
   rw[e2]
   apply zc rfl<;>intro hc<;>(try simp only[go_sem] at hc)
   apply zx
   try simp only[go_sem]
   apply zq
   refine zb fun K hK=>?_;simp only[go_sem];apply hK;apply zw (zk [4]);simp only[go_sem];apply ze;simp only[go_sem];rw[Bool.eq_iff_iff]
   simp [opA,h1,h2]
def lowG (g:Int):Int:=if g=0 then 1 else 2
theorem alow_ok (g:Int):ACalls Tryz.prog 110 [i64 g] (i64 (lowG g)):=by
 refine zas (rs:=[i64 (lowG g)]) [.tmp 2] Tryz.func110 rfl (by kernel_rfl) Tryz.ntmps110 rfl (by simp) rfl fun C vs=>?_
 apply zq
 refine zb fun K hK=>?_;simp only[go_sem];apply hK;apply zw (zk [0]);simp only[go_sem]
 repeat apply zq
 refine zb fun K hK=>?_;simp only[go_sem];apply hK;apply zw (zk [4]);simp only[go_sem]
 by_cases h:g=0
 ·subst h
  apply zc rfl<;>intro hc<;>(try simp only[go_sem] at hc)
  apply zq
  refine zb fun K hK=>?_;simp only[go_sem];apply hK;apply ze;simp only[go_sem]
  rfl
 ·have e:(g == 0)=false:=by simpa using h
  rw[e]
  apply zc rfl<;>intro hc<;>(try simp only[go_sem] at hc)
  apply zx
  try simp only[go_sem]
  apply zq
  refine zb fun K hK=>?_;simp only[go_sem];apply hK;apply ze;simp only[go_sem]
  simp [lowG,h]
theorem awithin1_ok (n a b:Int):ACalls Tryz.prog 117 [i64 n,.rp [i64 a],.rp [i64 b]] (.bo (decide (n<a) || decide (b<n))):=by
 refine zas (rs:=[.bo (decide (n<a) || decide (b<n))]) [.tmp 4] Tryz.func117 rfl (by kernel_rfl) Tryz.ntmps117 rfl (by simp) rfl fun C vs=>?_
 apply zq
 refine zb fun K hK=>?_;simp only[go_sem];apply hK
 apply zq
 refine zb fun K hK=>?_;simp only[go_sem]
 refine⟨fun h=>?_,fun h=>?_⟩ <;>
 ·skip
  apply hK;apply ze;simp only[go_sem]
  try simp [h]
theorem awithin_ok (a b:Int) (l:List Int):ACalls Tryz.prog 84 [i64 a,i64 b,ints l] (.bo (withinL a b l)):=by
 refine zas (rs:=[.bo (withinL a b l)]) [.tmp 6] Tryz.func84 rfl (by kernel_rfl) Tryz.ntmps84 rfl (by simp) rfl fun C vs=>?_
 apply zq
 refine zb fun K hK=>?_;simp only[go_sem];apply hK
 apply zq
 refine zb fun K hK=>?_;simp only[go_sem]
 refine zh (contains_ok (fun n=>decide (n<a) || decide (b<n)) 117 [.rp [i64 a],.rp [i64 b]] l fun x _=>awithin1_ok x a b) rfl (by simp only[go_sem,i64,ints]) (by simp only[go_sem,i64,ints]) ?_
 (try simp only[go_sem]);apply hK;apply ze;simp only[go_sem];rw[← withinL_not]
def canA (beds:List Bd) (i:Nat) (d:Int):Int:=min (d-(loS beds-(beds.getD i ⟨0,0,0⟩).lo)) (beds.getD i ⟨0,0,0⟩).hi
def denA (beds:List Bd) (i:Nat) (d:Int) (k:Nat):Int:=d-(loS (beds.take k)-if i<k then (beds.getD i ⟨0,0,0⟩).lo else 0)
theorem can_ok (beds:List Bd) (i:Nat) (d:Int) (hi:i<beds.length) (hl:beds.length≤1000) (hs:Small beds) (hd:0≤d∧d≤6000):ACalls Tryz.prog 184 [bedsR beds,i64 (i:Int),i64 d] (i64 (canA beds i d)):=by
 obtain⟨bi,hbi⟩:=zol hi
 have hgi:beds.getD i ⟨0,0,0⟩=bi:=by rw[List.getD_eq_getElem?_getD,hbi];rfl
 have hbis:=hs bi (zmo hbi)
 have hbnd:∀ k,k≤beds.length → -6000000≤denA beds i d k∧denA beds i d k≤12000:=fun k hk=>by
  have h1:=(sums_le (hs.take k)).1
  have h2:(beds.take k).length≤1000:=by rw[List.length_take];omega
  unfold denA
  rw[hgi]
  have h3:(6000:Int)*((beds.take k).length:Int)≤6000*1000:=Int.mul_le_mul_of_nonneg_left (by omega) (by omega)
  split<;>omega
 refine zas (rs:=[i64 (canA beds i d)]) [.tmp 6] Tryz.func184 rfl (by kernel_rfl) Tryz.ntmps184 rfl (by simp) rfl fun C vs=>?_
 apply zq
 refine zb fun K hK=>?_;simp only[go_sem];apply hK;apply zw (zk [0,1,2]);simp only[go_sem]
 repeat apply zq
 refine zb fun K hK=>?_;simp only[go_sem,List.length_map]
 intro _
 apply hK;apply zw (zk [0,1,2,9,10,11]);simp only[go_sem];apply zd
 refine zup (n:=33) beds.length (fun k vs=>[(0,.r (bedsR beds)),(1,.r (i64 (i:Int))),(2,.r (i64 (denA beds i d k))),(9,.r (bedsR beds)),(10,.r (i64 (beds.length:Int))),(11,.r (i64 (k:Int)))])
  (fun k=>[]) (fun _=>True) 0 (zfo [] ?_ ?_) (Nat.zero_le _) trivial ?_
 ·try simp only[go_sem]
  try simp [denA,loS]
 ·try simp only[go_sem]
 ·intro k vs hk _
  by_cases hkn:k<beds.length
  ·obtain⟨c,hcb⟩:=zol hkn
   have hcs:=hs c (zmo hcb)
   have hb0:=hbnd k (by omega)
   have hb1:=hbnd (k+1) (by omega)
   have hlo:loS (beds.take (k+1))=loS (beds.take k)+c.lo:=by rw[zto hcb,loS_snoc]
   apply zq
   refine zb fun K hK=>?_;simp only[go_sem,hkn];apply hK;apply zw (zk [0,1,2,9,10,11,12]);simp only[go_sem]
   apply zq
   apply zc rfl<;>intro hc<;>(try simp only[go_sem] at hc)
   apply zx
   try simp only[go_sem]
   apply zq
   apply zd
   apply zq
   refine zb fun K hK=>?_;simp only[go_sem,hcb,hkn,bedR,List.length_map];apply hK;refine zw (zfP 8 8 [i64 c.b,i64 c.lo,i64 c.hi] (by omega) rfl rfl) ?_;apply zw (zk [0,1,2,7,8,9,10,11]);simp only[go_sem]
   by_cases hki:k=i
   ·subst hki
    have hcbi:c=bi:=by rw[hcb] at hbi;injection hbi
    have hnx:denA beds k d (k+1)=denA beds k d k:=by
     unfold denA
     rw[hlo,hgi,if_pos (by omega),if_neg (by omega),hcbi];omega
    rw[hnx]
    apply zq
    refine zb fun K hK=>?_;simp only[go_sem,bne_self_eq_false];apply hK;apply zw (zk [0,1,2,9,10,11,18]);simp only[go_sem]
    apply zc rfl<;>intro hc<;>(try simp only[go_sem] at hc)
    apply zx
    try simp only[go_sem]
    refine zb fun K hK=>?_;simp only[go_sem];(try simp (disch:=omega) only[zI]);apply hK
    try simp only[go_sem]
    refine⟨by omega,zfo [] ?_ ?_⟩
    ·try simp only[go_sem]
    ·try simp only[go_sem]
   ·have hne:((k:Int) != (i:Int))=true:=by rw[bne_iff_ne];omega
    have hne':(k != i)=true:=by simpa using hki
    have hnx:denA beds i d (k+1)=denA beds i d k-c.lo:=by
     unfold denA
     rw[hlo]
     by_cases h:i<k
     ·rw[if_pos (by omega),if_pos h];omega
     ·rw[if_neg (by omega),if_neg h];omega
    rw[hnx] at hb1 ⊢
    generalize denA beds i d k=Z at *
    have wz:IntKind.i64.wrap (Z-c.lo)=Z-c.lo:=by rw[zI]<;>omega
    apply zq
    refine zb fun K hK=>?_;simp only[go_sem,hne,hne'];apply hK;apply zw (zk [0,1,2,8,9,10,11,18]);simp only[go_sem]
    apply zc rfl<;>intro hc<;>(try simp only[go_sem] at hc)
    refine zb fun K hK=>?_;simp only[go_sem,wz];apply hK;apply zw (zk [0,1,2,9,10,11]);simp only[go_sem];refine zb fun K hK=>?_;simp only[go_sem];(try simp (disch:=omega) only[zI]);apply hK
    try simp only[go_sem]
    refine⟨by omega,zfo [] ?_ ?_⟩
    ·try simp only[go_sem]
    ·try simp only[go_sem]
  ·have hke:k=beds.length:=by omega
   subst hke
   have hfin:denA beds i d beds.length=d-(loS beds-bi.lo):=by unfold denA;rw[List.take_length,if_pos hi,hgi]
   rw[hfin]
   have hcan:canA beds i d=min (d-(loS beds-bi.lo)) bi.hi:=by unfold canA;rw[hgi]
   rw[hcan]
   apply zq
   refine zb fun K hK=>?_;simp only[go_sem,Nat.lt_irrefl];apply hK;apply zw (zk [0,1,2,12]);simp only[go_sem]
   apply zq
   apply zc rfl<;>intro hc<;>(try simp only[go_sem] at hc)
   apply zf;simp only[go_sem]
   apply zq
   refine zb fun K hK=>?_;simp only[go_sem,hbi,hi,bedR,List.length_map];apply hK;apply zw (zk [6]);simp only[go_sem];apply ze;simp only[go_sem]
def cmpS (s:Bool) (vals:List Int) (x y:Nat):Int:=if s then cmpI (vals.getD x 0) (vals.getD y 0) else cmpI (vals.getD y 0) (vals.getD x 0)
theorem cmpS_ok (s:Bool) (vals:List Int) (x y:Nat) (hx:x<vals.length) (hy:y<vals.length):ACalls Tryz.prog 186 [i64 (x:Int),i64 (y:Int),.rp [.bo s],.rp [ints vals]] (i64 (cmpS s vals x y)):=by
 obtain⟨a,ha⟩:=zol hx
 obtain⟨b,hb⟩:=zol hy
 have ga:vals.getD x 0=a:=by rw[List.getD_eq_getElem?_getD,ha];rfl
 have gb:vals.getD y 0=b:=by rw[List.getD_eq_getElem?_getD,hb];rfl
 have h1:=compare_ok a b
 have h2:=compare_ok b a
 unfold cmpS
 rw[ga,gb]
 refine zas (rs:=[i64 (if s=true then cmpI a b else cmpI b a)]) [.tmp 6] Tryz.func186 rfl (by kernel_rfl) Tryz.ntmps186 rfl (by simp) rfl fun C vs=>?_
 apply zq
 refine zb fun K hK=>?_;simp only[go_sem];apply hK;apply zw (zk [0,1,2,3]);simp only[go_sem]
 repeat apply zq
 refine zb fun K hK=>?_;simp only[go_sem];apply hK;apply zw (zk [0,1,3,8]);simp only[go_sem]
 cases s
 ·skip
  apply zc rfl<;>intro hc<;>(try simp only[go_sem] at hc)
  apply zx
  try simp only[go_sem]
  apply zq
  refine zg follows (by decide +kernel) (by kernel_rfl) fun K hK=>?_;simp only[go_sem,ha,hb,hx,hy,List.length_map]
  refine zh (h2) rfl (by simp only[go_sem,i64,ints,ha,hb,hx,hy,List.length_map]) (by simp only[go_sem,i64,ints,ha,hb,hx,hy,List.length_map]) ?_
  (try simp only[go_sem,ha,hb,hx,hy,List.length_map]);apply hK;apply zw (zk [6]);simp only[go_sem];apply ze;simp only[go_sem]
  try rfl
 ·have hss:=(rfl:true=true)
  apply zc rfl<;>intro hc<;>(try simp only[go_sem] at hc)
  rotate_left
  ·exact absurd rfl hc
  apply zq
  refine zg follows (by decide +kernel) (by kernel_rfl) fun K hK=>?_;simp only[go_sem,ha,hb,hx,hy,List.length_map]
  refine zh (h1) rfl (by simp only[go_sem,i64,ints,ha,hb,hx,hy,List.length_map]) (by simp only[go_sem,i64,ints,ha,hb,hx,hy,List.length_map]) ?_
  (try simp only[go_sem,ha,hb,hx,hy,List.length_map]);apply hK;apply zw (zk [6]);simp only[go_sem];apply ze;simp only[go_sem]
  try rfl
end Go.Proofs.YtgfbenanljjgaaaGreat.Du.Th.Ai

namespace Go.Oc
open Go Go.RowKit
section
variable {ρ:List (Nat × Nat)}{ver ver':Nat→Nat}
mutual
theorem lendA_congr (hv:∀ k,(zLk ρ k).isSome=true→ver' k=ver k):∀ x:AV,lendA ρ ver' x=lendA ρ ver x
 | .r _=>by simp only[lendA]
 | .tu _=>by simp only[lendA]
 | .mi _ _=>by simp only[lendA]
 | .pt k _ _=>by simp only[lendA];cases e:zLk ρ k with|none=>rfl|some pk=>rw[hv k (by rw[e];rfl)]
 | .pe k _ _ _ _=>by simp only[lendA];cases e:zLk ρ k with|none=>rfl|some pk=>rw[hv k (by rw[e];rfl)]
 | .os k _ _ _ _=>by simp only[lendA];cases e:zLk ρ k with|none=>rfl|some pk=>rw[hv k (by rw[e];rfl)]
 | .mp k _=>by simp only[lendA];cases e:zLk ρ k with|none=>rfl|some pk=>rw[hv k (by rw[e];rfl)]
 | .pu k _ _=>by simp only[lendA];cases e:zLk ρ k with|none=>rfl|some pk=>rw[hv k (by rw[e];rfl)]
 | .fn _ cs=>by simp only[lendA];rw[lendL_congr hv cs]
 | .ag cs=>by simp only[lendA];rw[lendL_congr hv cs]
theorem lendL_congr (hv:∀ k,(zLk ρ k).isSome=true→ver' k=ver k):∀ xs:List AV,lendL ρ ver' xs=lendL ρ ver xs
 | []=>by simp only[lendL]
 | x::xs=>by simp only[lendL];rw[lendA_congr hv x,lendL_congr hv xs]
end
theorem lendC_congr (hv:∀ k,(zLk ρ k).isSome=true→ver' k=ver k) (c:RowC):lendC ρ ver' c=lendC ρ ver c:=by
 cases c<;>simp only[lendC]
 all_goals rw[lendL_congr hv]
theorem key_of_pin:∀ {ρ:List (Nat × Nat)}{j ck:Nat},pinOf ρ j=some ck→(zLk ρ ck).isSome=true
 | [],_,_,h=>by simp [pinOf] at h
 | (x, y)::ρ, j, ck, h=>by
   simp only[pinOf] at h
   simp only[zLk]
   split at h
   ·injection h with h;subst h;simp
   ·split
    ·rfl
    ·exact key_of_pin h
mutual
theorem backA_congr (hv:∀ k,(zLk ρ k).isSome=true→ver' k=ver k):∀ x:AV,backA ρ ver' x=backA ρ ver x
 | .r _=>by simp only[backA]
 | .mi _ _=>by simp only[backA]
 | .pt k _ _=>by simp only[backA];cases e:pinOf ρ k with|none=>rfl|some ck=>simp only[hv ck (key_of_pin e)]
 | .pe k _ _ _ _=>by simp only[backA];cases e:pinOf ρ k with|none=>rfl|some ck=>simp only[hv ck (key_of_pin e)]
 | .os k _ _ _ _=>by simp only[backA];cases e:pinOf ρ k with|none=>rfl|some ck=>simp only[hv ck (key_of_pin e)]
 | .mp k _=>by simp only[backA];cases e:pinOf ρ k with|none=>rfl|some ck=>simp only[hv ck (key_of_pin e)]
 | .pu k _ _=>by simp only[backA];cases e:pinOf ρ k with|none=>rfl|some ck=>simp only[hv ck (key_of_pin e)]
 | .tu cs=>by simp only[backA];rw[backL_congr hv cs]
 | .fn _ cs=>by simp only[backA];rw[backL_congr hv cs]
 | .ag cs=>by simp only[backA];rw[backL_congr hv cs]
theorem backL_congr (hv:∀ k,(zLk ρ k).isSome=true→ver' k=ver k):∀ xs:List AV,backL ρ ver' xs=backL ρ ver xs
 | []=>by simp only[backL]
 | x::xs=>by simp only[backL];rw[backA_congr hv x,backL_congr hv xs]
end
theorem backC_congr (hv:∀ k,(zLk ρ k).isSome=true→ver' k=ver k) (c:RowC):backC ρ ver' c=backC ρ ver c:=by
 cases c<;>simp only[backC]
 all_goals rw[backL_congr hv]
theorem lendOk_congr {s s':AS}(hr:∀ k,(zLk ρ k).isSome=true→s'.rows k=s.rows k):∀ {l:List (Nat × Nat)}{L:List (Nat × RowC)},(∀ x∈l,(zLk ρ x.2).isSome=true)→lendOk ρ s l L→lendOk ρ s' l L
 | [],[],_,h=>h
 | [],_::_,_,h=>h.elim
 | _::_,[],_,h=>h.elim
 | (a, b)::l, (k, c)::L, hl, h=>by
   simp only[lendOk] at h ⊢
   obtain⟨h1,h2,h3⟩:=h
   refine⟨h1,?_,lendOk_congr hr (fun x hx=>hl x (by simp [hx])) h3⟩
   rw[hr b (hl (a,b) (by simp)),lendC_congr (ver:=s.ver) fun k hk=>by show (s'.rows k).ver=_;rw[hr k hk];rfl]
   exact h2
theorem lendKey_mem:∀ {ρ:List (Nat × Nat)}{x:Nat × Nat},x∈ρ→(zLk ρ x.2).isSome=true
 | (a, b)::ρ, x, h=>by
   simp only[zLk]
   split
   ·rfl
   ·rename_i hne
    rcases List.mem_cons.1 h with h|h
    ·subst h;exact absurd rfl hne
    ·exact lendKey_mem h
theorem mem_of_key:∀ {ρ:List (Nat × Nat)}{k:Nat},(zLk ρ k).isSome=true→∃ x∈ρ,x.2=k
 | [],_,h=>by simp [zLk] at h
 | (a, b)::ρ, k, h=>by
   simp only[zLk] at h
   split at h
   ·rename_i e;exact⟨(a,b),by simp,e.symm⟩
   ·obtain⟨x,h1,h2⟩:=mem_of_key h
    exact⟨x,by simp [h1],h2⟩
theorem pin_mem:∀ {ρ:List (Nat × Nat)}{j ck:Nat},pinOf ρ j=some ck→(j,ck)∈ρ
 | [],_,_,h=>by simp [pinOf] at h
 | (x, y)::ρ, j, ck, h=>by
   simp only[pinOf] at h
   split at h
   ·rename_i e;injection h with h;subst h e;simp
   ·exact List.mem_cons_of_mem _ (pin_mem h)
end
section
variable {P:Program}{s:AS}
def found (s:AS) (ρ:List (Nat × Nat)) (xs:List AV):Prop :=
 ∀ x∈ρ,¬ AV.nrL x.2 (s.ver x.2) xs∨∃ y∈ρ,∃ cs,¬ AV.nrL y.2 (s.ver y.2) xs∧(s.rows y.2).c = .box cs∧¬ AV.nrL x.2 (s.ver x.2) cs
theorem bcall_of {f:AV}{xs:List AV}{ρ:List (Nat × Nat)}{L:List (Nat × RowC)}{args:List AV}{F:FuncId}{cs:List AV}{r:RV}(hM:MCalls P F L L args (.r r)) (hF:callee? f=some (F,cs)) (hl:lendL ρ s.ver (xs++cs)=some args)
 (hL:lendOk ρ s ρ L) (hap:apart ρ=true) (hsk:sameKeys ρ L=true) (hback:∀ x∈ρ,backC ρ s.ver (lookc L x.1)=(s.rows x.2).c) (hre:found s ρ (f::xs)):BCallOk P s f xs r:=by
 refine⟨fun k=>(zLk ρ k).isSome=true,fun k hk=>?_,fun s' hs'=>?_⟩
 ·obtain⟨x,hx,rfl⟩:=mem_of_key hk
  rcases hre x hx with h|⟨y,hy,cs',h1,h2,h3⟩
  ·exact .inl h
  ·exact .inr ⟨y.2,cs',lendKey_mem hy,h1,h2,h3⟩
 ·have hv:∀ k,(zLk ρ k).isSome=true→s'.ver k=s.ver k:=fun k hk=>by show (s'.rows k).ver=_;rw[hs' k hk];rfl
  have hbk:s'.backs ρ L=s':=by
   unfold AS.backs
   refine AS.ext rfl rfl ?_
   funext j
   obtain⟨g1,g2⟩:=backRows_get (ρ:=ρ) (ver:=s'.ver) (L':=L) (l:=ρ) (rows:=s'.rows) hap j
   cases e:zLk ρ j with
   | none=>exact g1 e
   | some pk =>
     have hj:(zLk ρ j).isSome=true:=by rw[e];rfl
     have hp:=pin_lend hap e
     have hx:(pk,j)∈ρ:=pin_mem hp
     refine (g2 pk e).trans ?_
     rw[backC_congr hv,hback _ hx,← hs' j hj]
     rfl
  intro C p a w o g as1 ts hs ho hg has hd K Q hK
  subst hg has
  refine mcall_sound hs ho (KA:=fun t=>t=s'.put o.dst (.r r)) ⟨F,cs,ρ,L,L,args,.r r,hF,by rw[lendL_congr hv];exact hl,lendOk_congr hs' (fun x hx=>lendKey_mem hx) hL,hap,hsk,hM,?_⟩ hd ?_
  ·rw[hbk];simp only[backA]
  ·rintro a' w' p' t ht _ rfl
   exact hK a' w' p' ht
theorem xcall_keep {D:Bool}{n:Nat}{l:List (Nat × AV)}{vs:Nat→Nat}{rw:List (Nat × RowC)}{f:AV}{xs:List AV}{L:List (Nat × RowC)}{args:List AV}{F:FuncId}{caps:List AV}{r:RV}{d:Option Nat}{K:AS→Prop}(hM:MCalls P F L L args (.r r)) (ρ:List (Nat × Nat)) (hF:callee? f=some (F,caps))
 (hl:lendL ρ vs (xs++caps)=some args) (hL:lendOk ρ (st n l vs rw) ρ L) (hap:apart ρ=true) (hsk:sameKeys ρ L=true) (hback:∀ x∈ρ,backC ρ vs (lookc L x.1)=lookc rw x.2) (hre:found (st n l vs rw) ρ (f::xs)) (hK:K ((st n l vs rw).put d (.r r))):xcall P D (st n l vs rw) d f xs K :=
 .inl ⟨r,.inr (bcall_of hM hF hl hL hap hsk hback hre),hK⟩
end
section
variable {P:Program}{C:Ctx}{Q:Exit→AS→Prop}{s:AS}{Φ:List (RV × RV)→Prop}
theorem awp_openMR {c:Code}(k:Nat) (hc:(s.rows k).c = .mem Φ) (h:∀ m,Φ m→awp P C c Q { s with rows:=upd s.rows k ⟨(s.rows k).ver,.mp m⟩ }):awp P C c Q s:=fun a w ⟨p,hs⟩=>by
 have hrow:=hs.rw k
 rw[hc] at hrow
 simp only[zrl] at hrow
 obtain⟨m,b,hΦ,hβ,hm⟩:=hrow
 have hset:=hs.setRow (w':=w) k (.mp m) (by rw[hc];rfl) (fun _ _ _ _ h=>by cases h) hβ rfl rfl rfl rfl (fun i _=>rfl) (fun _=>by
  simp only[zrl];exact⟨b,hβ,hm⟩)
 exact h m hΦ a w ⟨p,hset⟩
theorem sub_shutMR (k:Nat) {m:List (RV × RV)}(hc:(s.rows k).c = .mp m) (hΦ:Φ m):Sub s { s with rows:=upd s.rows k ⟨(s.rows k).ver,.mem Φ⟩ }:=fun C a w ⟨p,hs⟩=>by
 have hrow:=hs.rw k
 rw[hc] at hrow
 simp only[zrl] at hrow
 obtain⟨b,hβ,hm⟩:=hrow
 exact⟨p,hs.setRow (w':=w) k (.mem Φ) (by rw[hc];rfl) (fun _ _ _ _ h=>by cases h) hβ rfl rfl rfl rfl (fun i _=>rfl) (fun _=>by
  simp only[zrl];exact⟨m,b,hΦ,hβ,hm⟩)⟩
variable {n:Nat}{l:List (Nat × AV)}{vs:Nat→Nat}{cs:List (Nat × RowC)}
theorem st_rowQ (k:Nat) (c:RowC):({ st n l vs cs with rows:=upd (st n l vs cs).rows k ⟨((st n l vs cs).rows k).ver,c⟩ }:AS)=st n l vs (insc cs k c):=by
 simp only[st,AS.mk.injEq,true_and]
 funext j
 rw[lookc_insc]
 unfold upd
 split
 ·rename_i e;subst e;rfl
 ·rfl
theorem awp_openM {c:Code}(k:Nat) (hc:lookc cs k = .mem Φ) (h:∀ m,Φ m→awp P C c Q (st n l vs (insc cs k (.mp m)))):awp P C c Q (st n l vs cs) :=
 awp_openMR k hc fun m hm=>by rw[st_rowQ];exact h m hm
theorem sub_shutM (Φ:List (RV × RV)→Prop) (k:Nat) {m:List (RV × RV)}(hc:lookc cs k = .mp m) (hΦ:Φ m):Sub (st n l vs cs) (st n l vs (insc cs k (.mem Φ))):=by
 have:=sub_shutMR (s:=st n l vs cs) k hc hΦ
 rwa [st_rowQ] at this
end
end Go.Oc

namespace Go.Oc
open Go Go.RowKit
section
variable {P:Program}{C:Ctx}{p:Plan}{s:AS}{a:Act}{w:World}{o:Oper}
theorem relV_map_r {ver:Nat→Nat}:∀ {xs:List RV}{vs:List Value},RV.relV w p.R xs vs→AV.relV w p ver (xs.map .r) vs
 | [],vs,h=>by simp only[RV.relV] at h;simp only[List.map_nil,AV.relV];exact h
 | x::xs, vs, h=>by
   simp only[RV.relV] at h
   obtain⟨u,us,e,h1,h2⟩:=h
   simp only[List.map_cons,AV.relV,AV.rel];exact⟨u,us,e,h1,relV_map_r h2⟩
variable {Q:Exit→AS→Prop}{ops:Array Oper}
end
theorem sub_freezePB (s:AS) (kb i k v:Nat) {cells:List AV}{rs:List RV}(hk0:k<1000) (hne:kb≠k) (hbox:(s.rows kb).c = .box cells) (hi:cells[i]? = some (.pt k v 0)) (hv:v=s.ver k)
 (hc:(s.rows k).c = .box (rs.map .r)) :
 Sub s { s with rows:=upd (upd s.rows k ⟨(s.rows k).ver+1,.dead⟩) kb ⟨(s.rows kb).ver,.box (cells.set i (.r (.rp rs)))⟩ }:=fun C a w ⟨p,hp⟩=>by
 have h1:=hp.reRow (w':=w) k hk0 .dead rfl none 1 (by simp [maxLen]) rfl rfl rfl (Nat.le_refl _) (fun _ _ _=>rfl) (fun _ h=>by cases h) (fun p' ver' _ hβ hγ _=>by simp only[zrl];exact⟨hβ,hγ⟩)
 have hr:=hp.rw kb
 rw[hbox] at hr
 simp only[zrl] at hr
 obtain⟨b,cs,t,g1,g2,g3,g4⟩:=hr
 obtain⟨u,hu,hval⟩:=AV.relV_get g3 hi
 have hq:=hp.rw k
 rw[hc] at hq
 simp only[zrl] at hq
 obtain⟨bk,ck,tk,k1,k2,k3,k4⟩:=hq
 simp only[AV.rel] at hval
 obtain⟨bk',e1,e2⟩:=hval.2 hv
 rw[k1] at e1
 injection e1 with e1
 subst e1
 obtain⟨q1,_,q2⟩:=hp.bl k bk k1
 have h2:=h1.publish (b:=bk) q1 (q2.imp id fun h=>h.resolve_left (fun h=>by omega)) (fun j hj=>by
  have hj':upd p.β k none j=some bk:=hj
  by_cases e:j=k
  ·subst e;rw[zus] at hj';cases hj'
  ·rw[zuo _ _ e] at hj';exact e (hp.ij j k bk hj' k1)) (hp.ex.publish k1)
 have hr2:=h2.rw kb
 rw[show (upd s.rows k ⟨(s.rows k).ver+1,.dead⟩ kb).c = .box cells by rw[zuo _ _ hne];exact hbox] at hr2
 simp only[zrl] at hr2
 obtain⟨b',cs',t',f1,f2,f3,f4⟩:=hr2
 have eb:b'=b:=by
  rw[show (upd p.β k none) kb=p.β kb from zuo _ _ hne,g1] at f1
  injection f1 with e;exact e.symm
 subst eb
 rw[g2] at f2
 injection f2 with e
 injection e with e1 e2' e3
 subst e1
 have:=h2.setRow (w':=w) kb (.box (cells.set i (.r (.rp rs))))
  (by rw[show (upd s.rows k ⟨(s.rows k).ver+1,.dead⟩ kb).c = .box cells by rw[zuo _ _ hne];exact hbox];rfl) (fun _ _ _ _ h=>by cases h) f1 rfl rfl rfl rfl (fun _ _=>rfl) (fun _=>by
   simp only[zrl]
   refine⟨b',cs,t',f1,by rw[g2,e2'],relV_set f3 (fun u' hu'=>?_),f4⟩
   rw[hu] at hu'
   injection hu' with e
   subst e
   simp only[AV.rel,RV.rel]
   refine⟨_,e2,.inr rfl,?_⟩
   exact relC_plain (fun _ h=>.inl h) k2 k4 _ _ _ (fun i u h=>by simpa using h) k3)
 rw[show (upd s.rows k ⟨(s.rows k).ver+1,.dead⟩ kb).ver=(s.rows kb).ver by rw[zuo _ _ hne]] at this
 exact⟨_,this⟩
section
variable {n:Nat}{l:List (Nat × AV)}{vs:Nat→Nat}{cs:List (Nat × RowC)}
theorem sub_frzPB (kb i k:Nat) (rs:List RV) {cells:List AV}(hk0:k<1000) (hne:kb≠k) (hb:lookc cs kb = .box cells) (hi:cells[i]? = some (.pt k (vs k) 0)) (hc:lookc cs k = .box (rs.map .r)) :
 Sub (st n l vs cs) (st n l (upd vs k (vs k+1)) (insc (delc cs k) kb (.box (cells.set i (.r (.rp rs)))))):=by
 have:=sub_freezePB (st n l vs cs) kb i k (vs k) hk0 hne hb hi rfl hc
 have e:({ st n l vs cs with rows:=upd (upd (st n l vs cs).rows k ⟨((st n l vs cs).rows k).ver+1,.dead⟩) kb ⟨((st n l vs cs).rows kb).ver,.box (cells.set i (.r (.rp rs)))⟩ }:AS)
  = st n l (upd vs k (vs k+1)) (insc (delc cs k) kb (.box (cells.set i (.r (.rp rs))))):=by
  simp only[st,AS.mk.injEq,true_and]
  funext j
  rw[lookc_insc,lookc_delc]
  unfold upd
  split
  ·rename_i e;subst e;rw[if_neg hne]
  ·split<;>rfl
 rwa [e] at this
end
end Go.Oc

namespace Go.Oc
open Go Go.RowKit
def unl (listed:Array Bool):Nat→Nat
 | 0=>0
 | m+1=>unl listed m+if listed.getD m true then 0 else 1
theorem getD_setT {listed:Array Bool}{i j:Nat}:(listed.setIfInBounds i true).getD j true=if j=i then true else listed.getD j true:=by
 split
 ·rename_i e
  subst e
  simp only[Array.getD_eq_getD_getElem?,Array.getElem?_setIfInBounds]
  split
  ·split<;>simp_all
  ·simp_all
 ·rename_i e
  simp only[Array.getD_eq_getD_getElem?,Array.getElem?_setIfInBounds];rw[if_neg (fun h=>e h.symm)]
theorem unl_same {listed:Array Bool}{i:Nat}:∀ m,m≤i→unl (listed.setIfInBounds i true) m=unl listed m
 | 0,_=>rfl
 | m+1, h=>by
   have e2:m≠i:=by omega
   have e3:=unl_same (listed:=listed) (i:=i) m (by omega)
   simp only[unl,getD_setT,e3,if_neg e2]
theorem unl_set {listed:Array Bool}{i:Nat}(hi:listed.getD i true=false):∀ m,i<m→unl (listed.setIfInBounds i true) m+1=unl listed m
 | 0,h=>by omega
 | m+1, h=>by
   simp only[unl,getD_setT]
   by_cases e:i=m
   ·subst e
    rw[unl_same _ (Nat.le_refl _)]
    simp [hi]
   ·have:=unl_set hi m (by omega)
    have e2:m≠i:=fun h=>e h.symm
    rw[if_neg e2]
    omega
theorem unl_zero {listed:Array Bool}:∀ m,unl listed m=0→∀ j,j<m→listed.getD j true=true
 | 0,_,j,h=>by omega
 | m+1, h, j, hj=>by
   simp only[unl] at h
   by_cases e:j=m
   ·subst e
    by_cases hx:listed.getD j true=true
    ·exact hx
    ·simp [hx] at h
   ·exact unl_zero m (by omega) j (by omega)
def stepAll (P:Program) (ops:Array Oper) (n:Nat) (F:(Nat→Bool)→(Nat→Nat)→List (Nat × AV)) (R:(Nat→Bool)→(Nat→Nat)→List (Nat × RowC)):Nat→List Oper→Prop
 | _,[]=>True
 | k,o::rest=>(∀ b vs,(∀ j e,j<ops.size→(deps ops j).contains e=true→b j=true→b e=true)→b k=false→(∀ e∈deps ops k,b e=true) →
  xop P false o (FitV n (F (upd b k true)) (R (upd b k true))) (st n (F b vs) vs (R b vs)))∧stepAll P ops n F R (k+1) rest
theorem stepAll_get {P:Program}{ops:Array Oper}{n:Nat}{F:(Nat→Bool)→(Nat→Nat)→List (Nat × AV)}{R:(Nat→Bool)→(Nat→Nat)→List (Nat × RowC)}:∀ {l:List Oper}{k i:Nat}{o:Oper},stepAll P ops n F R k l→l[i]? = some o →
 ∀ b vs, (∀ j e, j<ops.size→(deps ops j).contains e=true→b j=true→b e=true)→b (k+i)=false→(∀ e∈deps ops (k+i), b e=true) →
   xop P false o (FitV n (F (upd b (k+i) true)) (R (upd b (k+i) true))) (st n (F b vs) vs (R b vs))
 | [],_,_,_,_,h=>by simp at h
 | x::l, k, 0, o, hs, h=>by
   simp only[List.getElem?_cons_zero,Option.some.injEq] at h
   subst h
   exact hs.1
 | x::l, k, i+1, o, hs, h=>by
   have:=stepAll_get (k:=k+1) (i:=i) hs.2 (by simpa using h)
   rwa [show k+1+i=k+(i+1) by omega] at this
def upOk (ops:Array Oper):Bool:=(List.range ops.size).all fun j=>(deps ops j).all fun e=>decide (e<j)
section
variable {P:Program}{C:Ctx}{s:AS}{a:Act}{w:World}{ops:Array Oper}
theorem ready_nil {listed:Array Bool}(hu:upOk ops=true) (h:Region.ready .any ops listed=[]) (hsz:listed.size=ops.size):∀ j,j<ops.size→listed.getD j true=true:=by
 intro j
 induction j using Nat.strongRecOn with
 | _ j ih =>
   intro hj
   by_cases hx:listed.getD j true=true
   ·exact hx
   ·exfalso
    have ho:ops[j]? = some ops[j]:=Array.getElem?_eq_getElem hj
    have hr:j∈Region.ready .any ops listed:=by
     refine mem_ready.2 ⟨by simpa using hx,ops[j],ho,fun e he hb=>?_⟩
     have hm:e.on∈deps ops j:=by unfold deps;rw[ho];exact List.mem_map.2 ⟨e,List.mem_filter.2 ⟨by simpa using he,hb⟩,rfl⟩
     have hlt:=List.all_eq_true.1 (List.all_eq_true.1 hu j (by simpa using hj)) e.on hm
     simp only[decide_eq_true_eq] at hlt
     have:=ih e.on hlt (by omega)
     have h2:e.on<listed.size:=by omega
     simpa [h2] using this
    rw[h] at hr
    cases hr
theorem inv_any {Q:AS→Prop}{Q':Exit→Act→World→Prop}(hQ:∀ s a w,Q s→SRel C s a w→Q' .normal a w) {n:Nat}{F:(Nat→Bool)→(Nat→Nat)→List (Nat × AV)}{R:(Nat→Bool)→(Nat→Nat)→List (Nat × RowC)}
 (hd:dstOk ops n=true) (hg:ops.all (fun o=>o.guard.isNone)=true) (hu:upOk ops=true) (hstep:stepAll P ops n F R 0 ops.toList)
 (hend:∀ b vs,(∀ j,b j=true)→Q (st n (F b vs) vs (R b vs))) :
 ∀ (fuel:Nat) (vs:Nat→Nat) (listed:Array Bool) (a:Act) (w:World), listed.size=ops.size→down ops listed→unl listed ops.size≤fuel→SRel C (st n (F (fun j=>listed.getD j true) vs) vs (R (fun j=>listed.getD j true) vs)) a w →
   wpAnyIn (fnc C.rd) 0 P .any ops Q' fuel listed a w:=by
 have all:∀ {listed:Array Bool},listed.size=ops.size→(∀ j,j<ops.size→listed.getD j true=true)→∀ j,(fun j=>listed.getD j true) j=true:=fun {listed} hsz h j=>by
  by_cases hj:j<ops.size
  ·exact h j hj
  ·show listed.getD j true=true
   have:¬ j<listed.size:=by omega
   simp [this]
 intro fuel
 induction fuel with
 | zero =>
   intro vs listed a w hsz hdn hf hs
   have h0:=unl_zero (listed:=listed) ops.size (by omega)
   refine⟨List.eq_nil_iff_forall_not_mem.2 fun j hj=>?_,hQ _ _ _ (hend _ _ (all hsz h0)) hs⟩
   obtain⟨h1,o,ho,_⟩:=mem_ready.1 hj
   have:=h0 j (Array.getElem?_eq_some_iff.1 ho).1
   rw[this] at h1
   cases h1
 | succ fuel ih =>
   intro vs listed a w hsz hdn hf hs
   refine⟨fun h0=>hQ _ _ _ (hend _ _ (all hsz (ready_nil hu h0 hsz))) hs,fun i hi=>?_⟩
   obtain⟨hi1,o,ho,hall⟩:=mem_ready.1 hi
   unfold wpOpIn
   rw[ho]
   simp only
   have hil:i<ops.size:=(Array.getElem?_eq_some_iff.1 ho).1
   have hgo:o.guard=none:=by
    have:=Array.all_eq_true_iff_forall_mem.1 hg o (Array.mem_of_getElem? ho)
    simpa using this
   obtain⟨p,hp⟩:=hs
   rw[if_pos (wantA_sound hp (by simp [wantA,hgo]))]
   have hx:=stepAll_get (k:=0) (i:=i) hstep (by rw[Array.getElem?_toList];exact ho) (fun j=>listed.getD j true) vs (fun j e hj he hb=>?_) (by rw[Nat.zero_add];exact hi1) (fun e he=>?_)
   ·rw[Nat.zero_add] at hx
    refine xop_sound hp hx (dstOk_get hd ho) (fun a' w' p' s' hs' hn hK=>?_) (dstOk_nd hd ho)
    obtain⟨vs',hsub⟩:=hK
    have e:upd (fun j=>listed.getD j true) i true=fun j=>(listed.setIfInBounds i true).getD j true:=by
     funext j
     rw[getD_setT]
     rfl
    rw[e] at hsub
    exact ih vs' _ a' w' (by simpa using hsz) (down_set hdn hi) (by have:=unl_set hi1 ops.size hil;omega) (hsub C a' w' ⟨p',hs'⟩)
   ·have hjs:j<listed.size:=by omega
    have hb':listed.getD j true=true:=hb
    have h2:=hdn j (by simpa [hjs] using hb') e (by simpa using he)
    show listed.getD e true=true
    by_cases hes:e<listed.size
    ·simpa [hes] using h2
    ·simp [hes]
   ·have h2:=ready_deps hi e (by simpa using he)
    show listed.getD e true=true
    by_cases hes:e<listed.size
    ·simpa [hes] using h2
    ·simp [hes]
end
theorem awp_inv {P:Program}{C:Ctx}{id:Nat}{l:List Oper}{n:Nat}{Q:Exit→AS→Prop}{s:AS}(F:(Nat→Bool)→(Nat→Nat)→List (Nat × AV)) (R:(Nat→Bool)→(Nat→Nat)→List (Nat × RowC)) (hm:P.follows .mixedOrders=true)
 (hd:dstOk l.toArray n=true) (hg:l.toArray.all (fun o=>o.guard.isNone)=true) (hu:upOk l.toArray=true) (h0:FitV n (F fun j=>decide (l.length≤j)) (R fun j=>decide (l.length≤j)) s)
 (hstep:stepAll P l.toArray n F R 0 l) (hend:∀ b vs,(∀ j,b j=true)→Q .normal (st n (F b vs) vs (R b vs))):awp P C (.region id l.toArray true) Q s:=fun a w hs=>by
 obtain⟨vs,hsub⟩:=h0
 obtain⟨p,hp⟩:=hsub C a w hs
 have hs':SR C p _ a { w with drawn:=w.drawn+1 }:=hp.below (w':=w.drew) ((Below.refl _ _).drew) (fun _ h=>h) (fun _ h=>.inl h) hp.rb
 refine wpIn_region_any hm ?_
 have e:(fun j=>(Array.replicate l.toArray.size false).getD j true)=fun j=>decide (l.length≤j):=by
  funext j
  by_cases h:j<l.length
  ·have:¬ l.length≤j:=by omega
   simp [h,this]
  ·have:l.length≤j:=by omega
   simp [h,this]
 refine inv_any (Q:=fun s=>Q .normal s) (n:=n) (F:=F) (R:=R) (fun s a w hq hs=>⟨s,hs,hq⟩) hd hg hu (by simpa using hstep) hend _ vs _ _ _ (by simp) (fun j hj=>?_) ?_ ?_
 ·exfalso
  simp only[Array.getD_eq_getD_getElem?,Array.getElem?_replicate] at hj
  split at hj<;>simp at hj
 ·have:∀ m,unl (Array.replicate l.toArray.size false) m≤m:=by
   intro m
   induction m with
   | zero=>exact Nat.le_refl _
   | succ m ih=>simp only[unl];split<;>omega
  exact this _
 ·rw[e]
  exact⟨p,hs'⟩
def allB (b:Nat→Bool) (v:Bool):List Nat→Prop
 | []=>True
 | e::es=>b e=v∧allB b v es
def chU (ops:Array Oper) (n:Nat):List Nat→List Nat→Bool
 | _,[]=>true
 | seen,e::es=>((deps ops n).contains e || seen.any fun j=>decide (j<ops.size)&&(deps ops j).contains e)&&chU ops n (e::seen) es
def chD (ops:Array Oper) (n:Nat):List Nat→List Nat→Bool
 | _,[]=>true
 | seen,e::es=>(decide (e<ops.size)&&((deps ops e).contains n || seen.any fun j=>(deps ops e).contains j))&&chD ops n (e::seen) es
theorem upT0 {ops:Array Oper}{b:Nat→Bool}{n:Nat}(hdn:∀ j e,j<ops.size→(deps ops j).contains e=true→b j=true→b e=true) (hde:∀ e∈deps ops n,b e=true):∀ (es seen:List Nat),(∀ j∈seen,b j=true)→chU ops n seen es=true→allB b true es
 | [],_,_,_=>trivial
 | e::es, seen, hs, h=>by
   simp only[chU,Bool.and_eq_true,Bool.or_eq_true,List.any_eq_true,decide_eq_true_eq] at h
   have he:b e=true:=by
    rcases h.1 with h1|⟨j,hj,h1,h2⟩
    ·exact hde e (by simpa using h1)
    ·exact hdn j e h1 h2 (hs j hj)
   refine⟨he,upT0 hdn hde es (e::seen) (fun j hj=>?_) h.2⟩
   rcases List.mem_cons.1 hj with rfl|hj
   ·exact he
   ·exact hs j hj
theorem upT {ops:Array Oper}{b:Nat→Bool}{n:Nat}(hdn:∀ j e,j<ops.size→(deps ops j).contains e=true→b j=true→b e=true) (hde:∀ e∈deps ops n,b e=true) (es:List Nat) (h:chU ops n [] es=true):allB b true es:=upT0 hdn hde es [] (by simp) h
theorem dnT0 {ops:Array Oper}{b:Nat→Bool}{n:Nat}(hdn:∀ j e,j<ops.size→(deps ops j).contains e=true→b j=true→b e=true) (hbk:b n=false):∀ (es seen:List Nat),(∀ j∈seen,b j=false)→chD ops n seen es=true→allB b false es
 | [],_,_,_=>trivial
 | e::es, seen, hs, h=>by
   simp only[chD,Bool.and_eq_true,Bool.or_eq_true,List.any_eq_true,decide_eq_true_eq] at h
   have he:b e=false:=by
    cases hb:b e
    ·rfl
    ·rcases h.1.2 with h1|⟨j,hj,h2⟩
     ·rw[hdn e n h.1.1 h1 hb] at hbk;cases hbk
     ·have:=hs j hj
      rw[hdn e j h.1.1 h2 hb] at this;cases this
   refine⟨he,dnT0 hdn hbk es (e::seen) (fun j hj=>?_) h.2⟩
   rcases List.mem_cons.1 hj with rfl|hj
   ·exact he
   ·exact hs j hj
theorem dnT {ops:Array Oper}{b:Nat→Bool}{n:Nat}(hdn:∀ j e,j<ops.size→(deps ops j).contains e=true→b j=true→b e=true) (hbk:b n=false) (es:List Nat) (h:chD ops n [] es=true):allB b false es:=dnT0 hdn hbk es [] (by simp) h
end Go.Oc

namespace Go.Oc
open Go Go.RowKit
section
variable {P:Program}{C:Ctx}{p:Plan}{s:AS}{a:Act}{w:World}{o:Oper}
variable {Q:Exit→AS→Prop}{ops:Array Oper}
end
end Go.Oc

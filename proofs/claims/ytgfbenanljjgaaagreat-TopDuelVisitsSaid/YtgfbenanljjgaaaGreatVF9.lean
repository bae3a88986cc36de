/- Part 9 of the texts of this claim. -/
import Derived.Test.YtgfbenanljjgaaaGreatVF8
import Derived.Test.YtgfbenanljjgaaaGreatVF7
import Derived.Test.YtgfbenanljjgaaaGreatVF6
set_option linter.unusedSimpArgs false
set_option linter.unusedVariables false
namespace Go.Oc
open Go Go.RowKit
section
variable {P:Program}{C:Ctx}{p:Plan}{s:AS}{a:Act}{w:World}
set_option maxHeartbeats 400000 in
end
theorem gop_method {P:Program}{s:AS}{o:Oper}{F:FuncId}{x:Operand}{K:AS→Prop}(ho:o.op = .makeFunc (.func F) #[x] #[]) {v:RV}(hx:s.ev x = .r v) (hK:K (s.put o.dst (.r (.bf F [v])))):gop P o K s:=by
 intro C p a w h hd hnd KW Q hKW
 have hv:v.rel w p.R (a.eval x):=by
  have:=h.ev x
  rw[hx] at this
  simpa only[AV.rel] using this
 have hr:(execOp a.eval o).run P w = .ok (.value (.func (.func F) #[a.eval x] #[])) w:=by
  simp [execOp,ho,Instr.makeFunc]
 refine wpIn_of_wp hnd ?_
 unfold Oper.wp
 rw[hr]
 have hput:=h.put' (d:=o.dst) (av:=.r (.bf F [v])) (v:=.func (.func F) #[a.eval x] #[]) (by simp only[AV.rel,RV.rel,RV.relV];exact⟨_,rfl,_,_,rfl,hv,rfl⟩) hd
 exact hKW _ _ p _ hput (app_n' _ _ _) hK
end Go.Oc

namespace Go.Oc
open Go Go.RowKit
def PeekI (u:Addr) (pk:List (Nat × Int)) (w:World):Prop:=∀ x∈pk,w.cell? (u.add x.1)=some (.int .i64 x.2)
theorem avs_mem {w:World}{p:Plan}{ver:Nat→Nat}:∀ {avs:List AV}{us:List Value},AV.relV w p ver avs us→∀ x∈avs,∃ v,AV.rel w p ver x v
 | [],_,_=>fun x hx=>by cases hx
 | y::avs, us, h=>fun x hx=>by
   simp only[AV.relV] at h
   obtain⟨v,us',_,h1,h2⟩:=h
   rcases List.mem_cons.1 hx with rfl|hx
   ·exact⟨v,h1⟩
   ·exact avs_mem h2 x hx
theorem avs_get {w:World}{p:Plan}{ver:Nat→Nat}:∀ {avs:List AV}{us:List Value}{i:Nat}{x:AV},AV.relV w p ver avs us→avs[i]? = some x→∃ v,us[i]? = some v∧AV.rel w p ver x v
 | [],_,i,x,_,h=>by simp at h
 | y::avs, us, 0, x, hr, h=>by
   simp only[AV.relV] at hr
   obtain⟨v,us',rfl,h1,_⟩:=hr
   simp at h
   subst h
   exact⟨v,rfl,h1⟩
 | y::avs, us, i+1, x, hr, h=>by
   simp only[AV.relV] at hr
   obtain⟨v,us',rfl,_,h2⟩:=hr
   simpa using avs_get h2 (by simpa using h)
theorem peek_of {C:Ctx}{p:Plan}{n:Nat}{vs:Nat→Nat}{cs:List (Nat × RowC)}{a:Act}{w:World}{avs:List AV}{us:List Value}{k:Nat}{u:Addr}{pk:List (Nat × Int)}{c:List AV}(h:SR C p (st n [] vs ((0,.sus avs us)::cs)) a w)
 (hc:lookc ((0,RowC.sus avs us)::cs) k = .box c) (hpk:∀ x∈pk,c[x.1]? = some (.r (.it .i64 x.2))) (hu:AV.pu k (vs k) u∈avs):PeekI u pk w:=fun x hx=>by
 have h0:=h.rw 0
 have e0:((st n [] vs ((0,RowC.sus avs us)::cs)).rows 0).c = .sus avs us:=by show lookc ((0,RowC.sus avs us)::cs) 0=_;rw[zlc,if_pos rfl]
 rw[e0] at h0
 simp only[zrl] at h0
 obtain⟨v,hv⟩:=avs_mem h0.2.2 _ hu
 simp only[AV.rel] at hv
 obtain⟨b,hb,hbv⟩:=hv.2.2 rfl
 have hub:u=⟨b,0,none⟩:=by
  have:=hv.1.symm.trans hbv
  injection this with this
  injection this
 have hr:=h.rw k
 have e1:((st n [] vs ((0,RowC.sus avs us)::cs)).rows k).c = .box c:=hc
 rw[e1] at hr
 simp only[zrl] at hr
 obtain⟨b',cells,ty,hβ,hheap,hcells,_⟩:=hr
 rw[hb] at hβ
 injection hβ with hβ
 subst hβ
 obtain⟨v',hv',hrel⟩:=avs_get hcells (hpk x hx)
 simp only[AV.rel,RV.rel] at hrel
 subst hub
 subst hrel
 rw[add_at]
 simpa [World.cell?,hheap] using hv'
def HBCalls (P:Program) (u:Addr) (pk:List (Nat × Int)) (z:Bool) (F:FuncId) (caps:List RV) (xs:List (List RV)):Prop :=
 callable P F=true∧∀ (w:World) (R:Nat→Prop) (vs:Array Value) (X:XS) (Ψ Θ:Nat→Prop),(∀ b,R b→b<w.heap.size)→RV.relV w R caps vs.toList→X.z=z→(z=false→∀ b,R b→X.R b)→X.n0≤w.heap.size→YOk P X →
  (∀ b,Ψ b→b<w.heap.size)→(∀ b,Θ b→b<w.heap.size)→(∀ b,R b→¬ Θ b)→(∀ o w Ψ Θ,X.X (some o) w Ψ Θ→PeekI u pk w)→X.X (some xs) w Ψ Θ →
  Calls P F (vs ++ #[.func (.yield X.l) #[] #[]]) w fun e w'=>(∃ v,e = .returned v)∧(∃ Ψ' Θ',X.X (some []) w' Ψ' Θ'∨X.X none w' Ψ' Θ')
theorem hbcalls_st {P:Program}{u:Addr}{pk:List (Nat × Int)}{z:Bool}{f:FuncId}{fn:Func}{c:Code}{n:Nat}{caps:List RV}{xs:List (List RV)}(hf:P.funcs[f]? = some fn) (hb:fn.body=some c) (hc:callable P f=true) (hn:fn.ntmps=n) (hres:fn.results.toList=[])
 (hargs:caps.length+1≤n) (h:∀ C l,(∀ o w Ψ Θ,C.X.X (some o) w Ψ Θ→PeekI u pk w)→awp P C c (ipost P) (st n (argL 0 (caps++[.yl l])) (fun _=>0) [(999,.gh P l z (some xs))])):HBCalls P u pk z f caps xs:=by
 refine⟨hc,fun w R vs0 X Ψ Θ hR hV0 hz hzR hn0 hY hΨ hΘ hRΘ hPk hX=>?_⟩
 have hV:RV.relV w R (caps++[.yl X.l]) (vs0 ++ #[Value.func (.yield X.l) #[] #[]]).toList:=by
  rw[Array.toList_append]
  refine RV.relV_append hV0 ?_
  simp only[RV.relV];exact⟨Value.func (.yield X.l) #[] #[],[],by simp,by simp only[RV.rel],rfl⟩
 generalize vs0 ++ #[Value.func (.yield X.l) #[] #[]]=vs at hV
 have hlen:=RV.relV_length hV
 simp only[Array.length_toList,List.length_append,List.length_cons,List.length_nil] at hlen
 let C:Ctx:={ w0:=w,R0:=R,bor:=Θ,pin:=fun _=>none,X:=X }
 let p:Plan:={ R:=R,β:=fun _=>none,γ:=fun _=>1,X:=X,Ψ:=Ψ,Θ:=Θ }
 have hs:SR C p (st n (argL 0 (caps++[.yl X.l])) (fun _=>0) [(999,.gh P X.l z (some xs))]) { tmps:=vs++Array.replicate (fn.ntmps-vs.size) undef,defers:=[] } w:={
  base:=⟨rfl,rfl,rfl,Nat.le_refl _,fun _ _ _ _=>rfl⟩
  r0:=fun _ h=>h
  rn:=fun _ h=>.inl h
  rb:=hR
  tm:=fun t=>by
   show (look (argL 0 (caps++[.yl X.l])) t).rel _ _ _ _
   by_cases hmem:∃ x,(t,x)∈argL 0 (caps++[RV.yl X.l])
   ·cases e:(caps++[RV.yl X.l])[t]? with
    | none =>
      obtain⟨x,hx⟩:=hmem
      obtain⟨i,y,h1,h2⟩:=argL_mem _ hx
      simp only[Nat.zero_add,Prod.mk.injEq] at h1
      rw[← h1.1,e] at h2;cases h2
    | some x =>
      obtain⟨u,hu,hx⟩:=RV.relV_get hV e
      have:(vs++Array.replicate (fn.ntmps-vs.size) undef).getD t undef=u:=by
       have ht:t<vs.size:=by have:=(List.getElem?_eq_some_iff.1 hu).1;simpa using this
       rw[Array.getD_eq_getD_getElem?,Array.getElem?_append_left ht]
       simp only[Array.getElem?_toList] at hu
       rw[hu];rfl
      have e2:=argL_look (k:=0) e
      rw[Nat.zero_add] at e2
      rw[this,e2]
      simpa only[AV.rel] using hx
   ·rw[look_none hmem]
    exact AV.rel_un _ _ _ _
  sz:=by simp only[Array.size_append,Array.size_replicate,st];omega
  ex:={
   px:=rfl
   n0:=hn0
   ψ0:=fun hz' b hb=>hzR (hz▸hz') b hb
   ψl:=hΨ
   θl:=hΘ
   ψb:=fun k b h=>by cases h
   ψr:=hRΘ
   ψo:=fun b h=>h.elim
   θo:=fun b h _=>h
   bo:=fun b h=>h.elim (hΘ b) (fun h=>h.elim)
   ψn:=fun hn=>(hn _ _ _ _ hX).elim
   hd:=fun b h=>h.elim
   rm:=fun _=>rfl
   df:=⟨[],rfl,List.nodup_nil,fun D hD=>by cases hD⟩ }
  rw:=fun k=>by
   show zrl w p _ k (lookc [(999,RowC.gh P X.l z (some xs))] k)
   rw[zlc,lookc_nil]
   split
   ·rename_i e
    simp only[zrl];exact⟨e,rfl,rfl,rfl,hz,hY,hX⟩
   ·simp only[zrl];exact⟨rfl,rfl⟩
  bl:=fun k b h=>by simp [p] at h
  ij:=fun k k' b h=>by simp [p] at h
  cap:=fun k=>by simp [p,maxLen]
  pn:=fun k x h=>by cases h
  lk:=fun j km n l cur h _=>by
   have h':lookc [(999,RowC.gh P X.l z (some xs))] j = .mi km n l cur:=h
   rw[zlc,lookc_nil] at h'
   split at h'<;>cases h' }
 refine callsIn_wide.1 (callsIn_of_wp_marks (n:=0) hf hb trivial (wpIn_mono (h C X.l hPk _ w ⟨p,hs⟩) ?_))
 rintro e a' w' ⟨s',⟨p',hs'⟩,hq⟩
 have fin:∀ (a':Act) (w':World),SR C p' s' a' w'→(∃ l z,(s'.rows 999).c = .gh P l z (some [])∨(s'.rows 999).c = .gh P l z none) →
  ∃ v,(results fn a'.tmps).run P w' = .ok v w'∧((∃ v',Ending.returned v = .returned v')∧∃ Ψ' Θ',X.X (some []) w' Ψ' Θ'∨X.X none w' Ψ' Θ'):=fun a' w' hs' ⟨l,z',hq⟩=>by
  have hm:(fn.results.mapM (resOp a'.tmps)).run P w' = .ok #[] w':=by
   rw[Array.mapM_eq_mapM_toList,hres]
   simp only[Sem.run_map,List.mapM_nil,Sem.run_pure,Result.andThen_ok]
  refine⟨.tuple #[],by rw[results_eq,Sem.run_bind,hm];simp,⟨_,rfl⟩,p'.Ψ,p'.Θ,?_⟩
  have hpx:p'.X=X:=hs'.ex.px
  have hr:=hs'.rw 999
  rcases hq with hq|hq
  ·rw[hq] at hr
   simp only[zrl] at hr
   rw[hpx] at hr
   exact .inl hr.2.2.2.2.2.2
  ·rw[hq] at hr
   simp only[zrl] at hr
   rw[hpx] at hr
   exact .inr hr.2.2.2.2.2.2
 cases e with
 | normal=>exact hs'.leave fun a'' w'' _ hs''=>fin a'' w'' hs'' hq
 | ret=>exact hs'.leave fun a'' w'' _ hs''=>fin a'' w'' hs'' hq
 | _=>exact hq.elim
section
variable {P:Program}{C:Ctx}{p:Plan}{s:AS}{a:Act}{w:World}
set_option maxHeartbeats 400000 in
theorem awp_rangeFuncH {u:Addr}{pk:List (Nat × Int)}{g:Operand}{ps:Array Tmp}{assign body:Code}{Q:Exit→AS→Prop}(hrd:C.rd=none) (hC:C.X=XS.none) {F:FuncId}{args:List RV}{xs:List (List RV)}{z:Bool}
 (hF:s.ev g = .r (.bf F args)) (hI:HBCalls P u pk z F args xs) (hdead:(s.rows 0).c = .dead) (ts:List Nat) (hps:∀ t∈ps.toList,t<s.n)
 (I:List (List RV)→List Value→AS→Prop) (J:Code→List Value→AS→Prop)
 (hpk:∀ left us s',I left us s'→∀ p' a' w',SR C p' s' a' w'→PeekI u pk w')
 (h0:∀ us,I xs us { n:=s.n,tm:=look [],rows:=upd s.rows 0 ⟨(s.rows 0).ver,.sus (ts.map s.tm) us⟩ })
 (round:∀ e rest us s',s'.n=s.n→I (e::rest) us s'→e.length=ps.size∧∃ avs,(s'.rows 0).c = .sus avs us∧∀ C,awp P C assign (fun x s2=>x = .normal∧∀ C,awp P C body (rpost s.n I J rest us) s2) ⟨s.n,psA ps.toList e (look (ts.zip avs)),s'.rows⟩)
 (done:∀ us s',s'.n=s.n→I [] us s'→∃ avs,(s'.rows 0).c = .sus avs us∧Q .normal ⟨s.n,look (ts.zip avs),s'.rows⟩)
 (stop:∀ c us s',s'.n=s.n→J c us s'→∃ avs,(s'.rows 0).c = .sus avs us∧awp P C c Q ⟨s.n,look (ts.zip avs),s'.rows⟩):awp P C (.rangeFunc g ps assign body) Q s:=by
 rintro a w ⟨p,hS⟩
 have hn:∀ o w Ψ Θ,¬ C.X.X o w Ψ Θ:=fun o w Ψ Θ h=>by rw[hC] at h;exact h
 have hF0:fnc C.rd=Fence.wide:=by rw[hrd];rfl
 rw[hF0]
 refine wpIn_rangeFunc fun fn _=>?_
 obtain⟨vsC,hgv,hcs⟩:∃ vs:Array Value,a.eval g = .func (.func F) vs #[]∧RV.relV w p.R args vs.toList:=by
  have:=hS.ev g
  rw[hF] at this
  simpa only[AV.rel,RV.rel] using this
 have hψ0:=hS.ex.ψn hn
 obtain⟨rec,hrec⟩:∃ rec:LoopState→Option Code→Loop,rec=fun st pe=>{ state:=st,pending:=pe,fn,tmps:=a.tmps,params:=ps,assign,body,defers:=w.heap.size }:=⟨_,rfl⟩
 obtain⟨w1,hw1⟩:∃ w1,(w.alloc (.deferred (some []))).alloc (.loop (rec .ready none))=w1:=⟨_,rfl⟩
 obtain⟨L,hLdef⟩:∃ L,L=w.heap.size+1:=⟨_,rfl⟩
 obtain⟨aL,haL⟩:∃ aL:Act,aL={ tmps:=a.tmps,defers:={ target:=.collected w.heap.size,args:=#[] }::a.defers }:=⟨_,rfl⟩
 have hS1:SR C p s aL w1:=by rw[haL,← hw1];exact hS.enter hrd _
 have hsz1:w1.heap.size=w.heap.size+2:=by rw[← hw1];simp
 have hL1:w1.heap[L]? = some (.loop (rec .ready none)):=by
  rw[← hw1,hLdef];have:=World.alloc_heap_new (w.alloc (.deferred (some []))) (.loop (rec .ready none));rwa [World.size_alloc] at this
 have hLR:¬ p.R L:=fun h=>by have:=hS.rb L h;omega
 have hLβ:∀ k,p.β k≠some L:=fun k h=>by have:=(hS.bl k L h).1;omega
 have hL0:C.w0.heap.size≤L:=by have:=hS.base.size;omega
 have hLm:∀ d∈aL.defers,d.target ≠ .collected L:=fun d hd e=>by
  obtain⟨Ds,g1,_,g3⟩:=hS1.ex.df
  rw[g1] at hd
  obtain⟨D,hD,rfl⟩:=List.mem_map.1 hd
  injection e with e
  subst e
  have:=(g3 _ hD).1
  rw[hL1] at this;cases this
 obtain⟨us,hus⟩:∃ us,us=ts.map fun t=>aL.tmps.getD t undef:=⟨_,rfl⟩
 have hS2:=hS1.wait hdead ts
 rw[← hus,← look_nil'] at hS2
 have htmps:aL.tmps=a.tmps:=by rw[haL]
 have hsn:s.n=aL.tmps.size:=by rw[htmps];exact hS.sz.symm
 let X:XS:={ l:=L,z:=z,n0:=w1.heap.size,R:=p.R,X:=XJ C aL L rec (fun left s'=>I left us s') (fun c s'=>J c us s'),st:=XJ.st hn }
 have hcap:RV.relV w1 p.R args vsC.toList:=RV.relV_mono (fun _ h=>h) (fun ad hr=>World.cell?_of_block (by rw[← hw1];exact (Below.heap_alloc _ _ _ (by have:=hS.rb _ hr;simp;omega)).trans (Below.heap_alloc _ _ _ (hS.rb _ hr)))) _ _ hcs
 have hY:YOk P X:=by
  intro e rest wv Ψ Θ R vs hX hR hV
  obtain⟨pv,sv,hSv,hsnv,⟨hIv,hLv⟩,hLRv,hLβv,hΨv,hΘv⟩:=hX
  have hψv:=hSv.ex.ψn hn
  obtain⟨hlen,avs,hrow,hround⟩:=round e rest us sv (hsnv.trans hsn.symm) hIv
  have hvs:vs.size=ps.size:=by have:=RV.relV_length hV;simp only[Array.length_toList] at this;omega
  have hltv:L<wv.heap.size:=(Array.getElem?_eq_some_iff.1 hLv).1
  have hy:=run_yield (P:=P) (args:=vs) hLv (by rw[hrec];exact hvs)
  rw[hrec] at hy
  refine⟨fn,_,assign,body,hy,?_⟩
  have hRβ:∀ b,R b→b<wv.heap.size∧∀ k,pv.β k≠some b:=fun b hb=>⟨(hR b hb).1,fun k hk=>(hR b hb).2.1 ((hΘv b).2 (.inl ⟨k,hk⟩))⟩
  have hRL:¬ R L:=fun hb=>(hR L hb).2.1 ((hΘv L).2 (.inr rfl))
  have hkv:Kept wv wv pv { pv with R:=fun b=>pv.R b∨R b } sv.ver sv.ver:=⟨fun _ h=>.inl h,fun _ _=>rfl,fun _=>Nat.le_refl _,fun _ _=>⟨rfl,rfl⟩⟩
  have haw:=hSv.awake (by rw[hrow,hus])
  have hzip:(ps.zip vs).foldl (fun tmps (x:Nat × Value)=>tmps.setIfInBounds x.1 x.2) a.tmps=(ps.toList.zip vs.toList).foldl (fun tmps (x:Nat × Value)=>tmps.setIfInBounds x.1 x.2) a.tmps:=by
   rw[← Array.foldl_toList,Array.toList_zip]
  obtain⟨hpsz,hprel⟩:=psA_rel (w:=wv) (p:={ pv with R:=fun b=>pv.R b∨R b }) (ver:=sv.ver) ps.toList e vs.toList (look (ts.zip avs)) a.tmps (RV.relV_mono (fun _ h=>.inr h) (fun _ _=>rfl) _ _ hV)
   (fun t ht=>by rw[← htmps,← hsn];exact hps t ht) (fun t=>by rw[← htmps];exact AV.rel_mono hkv _ _ (haw.tm t))
  let Hd:Nat→Prop:=fun b=>b=L∨∃ d∈aL.defers,d.target = .collected b
  have hHd:∀ b,Hd b→b<wv.heap.size∧¬ C.bor b∧¬ pv.R b∧¬ R b∧∀ k,pv.β k≠some b:=fun b hb=>by
   rcases hb with rfl|⟨d,hd,hdt⟩
   ·exact⟨hltv,fun hb=>by have:=hS.ex.bo b (.inl hb);omega,hLRv,hRL,hLβv⟩
   ·obtain⟨Ds,g1,_,g3⟩:=hSv.ex.df
    rw[g1] at hd
    obtain⟨D,hD,rfl⟩:=List.mem_map.1 hd
    injection hdt with hdt
    subst hdt
    obtain⟨k1,k2,k3,k4,k5,k6⟩:=g3 D hD
    refine⟨(Array.getElem?_eq_some_iff.1 k1).1,fun hb=>by have:=hS.ex.bo D (.inl hb);omega,k3,fun hr=>?_,k4⟩
    have hD1:D<w1.heap.size:=by
     obtain⟨Ds',q1,_,q3⟩:=hS1.ex.df
     have:Ds'=Ds:=marks_inj (q1.symm.trans g1)
     subst this
     exact (Array.getElem?_eq_some_iff.1 (q3 D hD).1).1
    rcases (hR D hr).2.2 with q|q
    ·obtain⟨Ds',q1,_,q3⟩:=hS1.ex.df
     have:Ds'=Ds:=marks_inj (q1.symm.trans g1)
     subst this
     exact (q3 D hD).2.2.1 q
    ·have q':w1.heap.size≤D:=q
     omega
  have hSa:=hSv.into (L:=L) (w2:=wv) (R:=R) (rd:=some L) (Hd:=Hd) (a':={ tmps:=(ps.zip vs).foldl (fun tmps (x:Nat × Value)=>tmps.setIfInBounds x.1 x.2) a.tmps,defers:=[] }) (tm':=psA ps.toList e (look (ts.zip avs)))
   hn rfl rfl rfl rfl (fun _ _=>rfl) hLRv hLβv hRβ (fun t=>by rw[hzip];exact hprel t) (by rw[hzip,hpsz,← htmps];exact hsnv.symm) rfl hHd hC
  have hna:=hsnv.trans hsn.symm
  refine roundIn_of_wpIn trivial ?_
  have hassign:=hround (Cin C pv R wv (some L) Hd) _ _ ⟨_,hna▸hSa⟩
  refine wpIn_mono hassign ?_
  rintro x a1 wa ⟨s1,⟨p1,hS1a⟩,rfl,hbody⟩
  have hLa:wa.heap[L]? = some (.loop (rec .ready none)):=(hS1a.base.block L hltv (fun ⟨hb,_⟩=>(hHd L (.inl rfl)).2.1 hb) (fun ⟨k,hk,_⟩=>hLβv k hk)).trans hLv
  have hlta:L<wa.heap.size:=(Array.getElem?_eq_some_iff.1 hLa).1
  refine⟨_,run_beginRound hLa (by rw[hrec]),?_⟩
  have hop1:=Hop.of (L:=L) (w:=wv) (w2:=wv) rfl rfl rfl rfl (fun _ _=>rfl) hS1a
  have hHd1:∀ b,Hd b→b<wa.heap.size∧¬ (Cin C pv R wv (some L) Hd).bor b∧¬ p1.R b∧¬ False∧∀ k,p1.β k≠some b:=fun b hb=>by
   obtain⟨_,q2,_,q4,q5,_,_,q8⟩:=hS1a.ex.hd b hb
   exact⟨q4,q2,q5,fun h=>h,q8⟩
  have hS1b:=hS1a.into (L:=L) (w2:=wa.putObj L (.loop { rec .ready none with state:=.busy })) (R:=fun _=>False) (rd:=some L) (Hd:=Hd) (a':=a1) (tm':=s1.tm) hn rfl rfl rfl World.putObj_size putObj_other
   (hHd1 L (.inl rfl)).2.2.1 (hHd1 L (.inl rfl)).2.2.2.2 (fun _ h=>h.elim) (fun t=>by
    have hk1:Kept wa (wa.putObj L (.loop { rec .ready none with state:=.busy })) p1 { p1 with R:=fun b=>p1.R b∨False } s1.ver s1.ver :=
     ⟨fun _ h=>.inl h,fun ad hr=>World.cell?_of_block (putObj_other _ fun e=>(hHd1 L (.inl rfl)).2.2.1 (e▸hr)),fun _=>Nat.le_refl _,fun _ _=>⟨rfl,rfl⟩⟩
    exact AV.rel_mono hk1 _ _ (hS1a.tm t)) hS1a.sz (hS1a.ex.rm rfl) hHd1 hC
  refine wpIn_mono (hbody _ _ _ ⟨_,hS1b⟩) ?_
  have hLb:(wa.putObj L (.loop { rec .ready none with state:=.busy })).heap[L]? = some (.loop { rec .ready none with state:=.busy }):=World.putObj_heap_same hlta
  have hRo:∀ b,R b→b<wv.heap.size∧(∀ d∈aL.defers,d.target ≠ .collected b)∧¬ C.hd b∧(C.R0 b∨C.w0.heap.size≤b∨C.own b):=fun b hb=>by
   have hsz0:=hS.base.size
   refine⟨(hR b hb).1,fun d hd hdt=>(hHd b (.inr ⟨d,hd,hdt⟩)).2.2.2.1 hb,fun hh=>?_,?_⟩
   ·obtain⟨q1,_,_,_,q5,_⟩:=hS.ex.hd b hh
    rcases (hR b hb).2.2 with q|q
    ·exact q5 q
    ·have q':w1.heap.size≤b:=q;omega
   ·rcases (hR b hb).2.2 with q|q
    ·exact hS.rn b q
    ·have q':w1.heap.size≤b:=q;exact .inr (.inl (by omega))
  have fin:∀ (jump:Option Code) (s3:AS) (p3:Plan) (a3:Act) (w3:World),SR (Cin (Cin C pv R wv (some L) Hd) p1 (fun _=>False) (wa.putObj L (.loop { rec .ready none with state:=.busy })) (some L) Hd) p3 s3 a3 w3 →
   (match jump with|none=>∃ s4,Sub s3 s4∧I rest us ⟨s.n,look [],s4.rows⟩|some c=>∃ s4,Sub s3 s4∧J c us ⟨s.n,look [],s4.rows⟩) →
   ∃ v w', (Instr.endRound L jump).run P w3 = .ok v w'∧(w'.os=wv.os∧w'.tape=wv.tape∧w'.output=wv.output∧wv.heap.size≤w'.heap.size∧(∀ b, b<wv.heap.size→¬ Θ b→w'.heap[b]? = wv.heap[b]?) ∧
     ∃ Ψ' Θ':Nat→Prop,(∀ b,Ψ' b→Ψ b∨R b∨wv.heap.size≤b)∧(∀ b,Θ' b→Θ b∨wv.heap.size≤b)∧(∀ b,Ψ' b→b<w'.heap.size)∧(∀ b,Θ' b→b<w'.heap.size) ∧
     ((Ending.returned v = .returned (.bool true)∧X.X (some rest) w' Ψ' Θ')∨(Ending.returned v = .returned (.bool false)∧X.X Option.none w' Ψ' Θ'))):=by
   intro jump s30 p30 a3 w3 h30 hj0
   obtain⟨s3,hsub,hj⟩:∃ s4,Sub s30 s4∧(match jump with|none=>I rest us ⟨s.n,look [],s4.rows⟩|some c=>J c us ⟨s.n,look [],s4.rows⟩):=by
    cases jump with
    | none=>exact hj0
    | some c=>exact hj0
   obtain⟨p3,h3⟩:=hsub _ _ _ ⟨p30,h30⟩
   have hL3:w3.heap[L]? = some (.loop { rec .ready none with state:=.busy }):=by
    refine (h3.base.block L (by show L<(wa.putObj L _).heap.size;rw[World.putObj_size];exact hlta) (fun ⟨hb,_⟩=>(hHd1 L (.inl rfl)).2.1 hb) (fun ⟨k,hk,_⟩=>(hHd1 L (.inl rfl)).2.2.2.2 k hk)).trans hLb
   obtain⟨_,_,_,_,e5,_,_,e8⟩:=h3.ex.hd L (.inl rfl)
   have hend:=run_endRound (P:=P) jump hL3
   have hlt3:L<w3.heap.size:=(Array.getElem?_eq_some_iff.1 hL3).1
   have hop2:=Hop.of (C:=Cin C pv R wv (some L) Hd) (p:=p1) (L:=L) (w:=wa) (w2:=wa.putObj L (.loop { rec .ready none with state:=.busy })) (R:=fun _=>False) rfl rfl rfl World.putObj_size putObj_other h3
   obtain⟨o4,ho4⟩:∃ o4,o4=Obj.loop { { rec .ready none with state:=.busy } with state:=if jump.isNone then .ready else .done,pending:=jump }:=⟨_,rfl⟩
   rw[← ho4] at hend
   have hop:=(Hop.trans (C':=Cin C pv R wv (some L) Hd) hop1 (fun _=>Iff.rfl) hop2).put (o:=o4)
   have hL4:(w3.putObj L o4).heap[L]? = some (.loop (rec (if jump.isNone then .ready else .done) jump)):=by
    rw[World.putObj_heap_same hlt3,ho4,hrec]
   have hS4:SR C p3 ⟨s.n,look [],s3.rows⟩ aL (w3.putObj L o4):=by
    have:=hSv.land (C':=Cin (Cin C pv R wv (some L) Hd) p1 (fun _=>False) (wa.putObj L (.loop { rec .ready none with state:=.busy })) (some L) Hd) hn hL0 hLm hop hRo rfl rfl h3 e5 e8 rfl rfl rfl World.putObj_size putObj_other
    rw[hna,← look_nil'] at this
    exact this
   have hψ4:=hS4.ex.ψn hn
   refine⟨_,_,hend,hop.os,hop.tape,hop.output,hop.size,fun b hb hθ=>hop.heap b hb (fun k hk=>hθ ((hΘv b).2 (.inl ⟨k,hk⟩))) (fun e=>hθ ((hΘv b).2 (.inr e))),
    fun b=>p3.R b∨(∃ k,p3.β k=some b)∨(b<C.w0.heap.size∧¬ C.bor b∧¬ C.own b)∨b=L∨C.hd b∨∃ d∈aL.defers,d.target = .collected b,fun b=>(∃ k,p3.β k=some b)∨b=L,fun b hb=>?_,fun b hb=>?_,fun b hb=>?_,fun b hb=>?_,?_⟩
   ·rcases hb with g|⟨k,g⟩|g|g|g|g
    ·rcases hop.rn b g with q|q|q|⟨k,q,_⟩
     ·exact .inl ((hΨv b).2 (.inl q))
     ·exact .inr (.inl q)
     ·exact .inr (.inr q)
     ·exact .inl ((hΨv b).2 (.inr (.inl ⟨k,q⟩)))
    ·rcases hop.bl k b g with q|⟨_,_,k',_,q⟩|⟨k',q,_⟩
     ·exact .inr (.inr q)
     ·exact .inl ((hΨv b).2 (.inr (.inl ⟨k',q⟩)))
     ·exact .inl ((hΨv b).2 (.inr (.inl ⟨k',q⟩)))
    ·exact .inl ((hΨv b).2 (.inr (.inr (.inl g))))
    ·exact .inl ((hΨv b).2 (.inr (.inr (.inr (.inl g)))))
    ·exact .inl ((hΨv b).2 (.inr (.inr (.inr (.inr (.inl g))))))
    ·exact .inl ((hΨv b).2 (.inr (.inr (.inr (.inr (.inr g))))))
   ·rcases hb with⟨k,g⟩|g
    ·rcases hop.bl k b g with q|⟨_,_,k',_,q⟩|⟨k',q,_⟩
     ·exact .inr q
     ·exact .inl ((hΘv b).2 (.inl ⟨k',q⟩))
     ·exact .inl ((hΘv b).2 (.inl ⟨k',q⟩))
    ·exact .inl ((hΘv b).2 (.inr g))
   ·have hsz4:=hS4.base.size
    rcases hb with g|⟨k,g⟩|g|rfl|g|⟨d,hd,hdt⟩
    ·exact hS4.rb b g
    ·exact (hS4.bl k b g).1
    ·omega
    ·rw[World.putObj_size];exact hlt3
    ·exact (hS4.ex.hd b g).2.2.2.1
    ·exact Nat.lt_of_lt_of_le (hHd b (.inr ⟨d,hd,hdt⟩)).1 hop.size
   ·rcases hb with⟨k,g⟩|rfl
    ·exact (hS4.bl k b g).1
    ·rw[World.putObj_size];exact hlt3
   ·cases jump with
    | none=>exact .inl ⟨rfl,p3,_,hS4,hsn,⟨hj,hL4⟩,e5,e8,fun _=>Iff.rfl,fun _=>Iff.rfl⟩
    | some c=>exact .inr ⟨rfl,p3,_,hS4,hsn,⟨c,hj,hL4⟩,e5,e8,fun _=>Iff.rfl,fun _=>Iff.rfl⟩
  rintro en a3 w3 ⟨s3,⟨p3,h3⟩,hq⟩
  cases en with
  | normal=>exact fin none s3 p3 a3 w3 h3 hq
  | ret=>exact fin (some .ret) s3 p3 a3 w3 h3 hq
  | exit id=>exact fin (some (.exit id)) s3 p3 a3 w3 h3 hq
  | goto l=>exact fin (some (.goto l)) s3 p3 a3 w3 h3 hq
  | panic ch=>exact hq.elim
  | outgrown=>exact hq.elim
 have hX0:X.X (some xs) w1 (fun b=>p.R b∨(∃ k,p.β k=some b)∨(b<C.w0.heap.size∧¬ C.bor b∧¬ C.own b)∨b=L∨C.hd b∨∃ d∈aL.defers,d.target = .collected b) (fun b=>(∃ k,p.β k=some b)∨b=L) :=
  ⟨p,_,hS2,hsn,⟨h0 us,hL1⟩,hLR,hLβ,fun _=>Iff.rfl,fun _=>Iff.rfl⟩
 have hlt1:L<w1.heap.size:=(Array.getElem?_eq_some_iff.1 hL1).1
 have hcall:=hI.2 w1 p.R vsC X _ _ hS1.rb hcap rfl (fun hz b hb=>hb) (Nat.le_refl _) hY (fun b hb=>by
  have hszw:=hS1.base.size
  rcases hb with g|⟨k,g⟩|g|rfl|g|⟨d,hd,hdt⟩
  ·exact hS1.rb b g
  ·exact (hS1.bl k b g).1
  ·omega
  ·exact hlt1
  ·exact (hS1.ex.hd b g).2.2.2.1
  ·obtain⟨Ds,g1,_,g3⟩:=hS1.ex.df
   rw[g1] at hd
   obtain⟨D,hD,rfl⟩:=List.mem_map.1 hd
   injection hdt with hdt
   subst hdt
   exact (Array.getElem?_eq_some_iff.1 (g3 D hD).1).1) (fun b hb=>by
  rcases hb with⟨k,g⟩|rfl
  ·exact (hS1.bl k b g).1
  ·exact hlt1) (fun b hb hθ=>by
  rcases hθ with⟨k,g⟩|rfl
  ·exact (hS1.bl k b g).2.1 hb
  ·exact hLR hb) (fun o w' Ψ' Θ' hx=>by
   obtain⟨p',s',hS',_,⟨hI',_⟩,_⟩:=hx
   exact hpk _ _ _ hI' _ _ _ hS') hX0
 have e1:(Instr.enterLoop fn a.tmps ps assign body none).run P w = .ok (L,[{ target:=.collected w.heap.size,args:=#[] }]) w1:=by
  rw[run_enterLoop_outer,← hw1,hrec,hLdef]
 have e2:(resolve a.eval (rangeCall g L) 0).run P w1 = .ok { target:=.fn (.func F) #[],args:=vsC ++ #[.func (.yield L) #[] #[]] } w1:=by
  simp only[resolve,hgv,Sem.run_bind,Deferred.ofValue,Sem.run_pure,Result.andThen_ok]
  simp [Act.eval]
 have e3:(invoke (.fn (.func F) #[]) (vsC ++ #[.func (.yield L) #[] #[]])).run P w1 = .ok (.enter F (vsC ++ #[.func (.yield L) #[] #[]])) w1:=by
  simp only[invoke]
  have:=run_callFunc hI.1 (vsC ++ #[.func (.yield L) #[] #[]] ++ #[]) w1
  simpa using this
 have e4:Fence.wide.depth.isSome=true→1≤0:=fun h=>by simp [Fence.wide] at h
 refine⟨L,_,w1,_,w1,F,_,w1,e1,e2,?_,e3,e4,?_⟩
 ·intro f' _;exact trivial
 ·refine callsIn_wide.2 (hcall.mono ?_)
  have haL':({ a with defers:=[{ target:=.collected w.heap.size,args:=#[] }]++a.defers }:Act)=aL:=by rw[haL];rfl
  rintro e w' ⟨⟨v,rfl⟩,Ψ',Θ',hX|hX⟩
  ·obtain⟨p',s',hS',hsn',⟨hI',hL'⟩,hLR',hLβ',_⟩:=hX
   have hend:=run_endLoop (P:=P) hL' (by rw[hrec];simp)
   have hp:(rec .ready none).pending=none:=by rw[hrec]
   rw[hp] at hend
   refine⟨none,_,hend,?_⟩
   obtain⟨avs,hrow,hQ⟩:=done us s' (hsn'.trans hsn.symm) hI'
   have hS4:∀ o,SR C p' ⟨s.n,look (ts.zip avs),s'.rows⟩ aL (w'.putObj L o):=fun o=>by
    have:=(hS'.turn (o:=o) hLR' hLβ' hL0 (hS'.ex.ψn hn) hLm).awake (by rw[hrow,hus])
    rw[hsn'.trans hsn.symm] at this
    exact this
   rw[haL']
   exact⟨_,⟨_,hS4 _⟩,hQ⟩
  ·obtain⟨p',s',hS',hsn',⟨c,hJ',hL'⟩,hLR',hLβ',_⟩:=hX
   have hend:=run_endLoop (P:=P) hL' (by rw[hrec];simp)
   have hp:(rec .done (some c)).pending=some c:=by rw[hrec]
   rw[hp] at hend
   refine⟨some c,_,hend,?_⟩
   obtain⟨avs,hrow,hQ⟩:=stop c us s' (hsn'.trans hsn.symm) hJ'
   have hS4:∀ o,SR C p' ⟨s.n,look (ts.zip avs),s'.rows⟩ aL (w'.putObj L o):=fun o=>by
    have:=(hS'.turn (o:=o) hLR' hLβ' hL0 (hS'.ex.ψn hn) hLm).awake (by rw[hrow,hus])
    rw[hsn'.trans hsn.symm] at this
    exact this
   have hQ':=fun o=>hQ _ _ ⟨_,hS4 o⟩
   rw[hF0] at hQ'
   rw[haL']
   exact hQ' _
end
theorem awp_rangeFH {P:Program}{C:Ctx}{u:Addr}{pk:List (Nat × Int)}{n:Nat}{s:AS}{t:Nat}{ps:Array Tmp}{assign body:Code}{Q:Exit→AS→Prop}(hC:C.rd=none∧C.X=XS.none) {f:FuncId}{caps:List RV}{z:Bool}(xs:List (List RV)) (hI:HBCalls P u pk z f caps xs) (k t0:Nat)
 (ts:List Nat) (hnd:ts.Nodup) (F:(Nat→Nat)→List (Nat × AV)) (R:Nat→(Nat→Nat)→List (Nat × RowC)) (I:Nat→Prop) (h0:FitV n F (R 0) s) (hi0:I 0)
 (hu:∀ vs,(t0,AV.pu k (vs k) u)∈F vs) (hbx:∀ i vs,∃ cs,lookc (R i vs) k = .box cs∧∀ x∈pk,cs[x.1]? = some (.r (.it .i64 x.2))) (hk0:k≠0) (hts:∀ vs,(F vs).map (·.1)=ts) (hg:∀ vs,look (F vs) t = .r (.bf f caps)) (hd:∀ i vs,lookc (R i vs) 0 = .dead) (hps:∀ t∈ps.toList,t<n) (hlen:∀ e∈xs,e.length=ps.size)
 (round:∀ i e vs us C,xs[i]? = some e→I i→awp P C assign (fun x s2=>x = .normal∧∀ C,awp P C body (rfpost n ts Q (fun s3=>I (i+1)∧∃ vs',Sub s3 (st n [] vs' ((0,.sus ((F vs').map (·.2)) us)::R (i+1) vs'))) us) s2)
  (st n (psL ps.toList e (F vs)) vs ((0,.sus ((F vs).map (·.2)) us)::R i vs)))
 (done:∀ vs us,I xs.length→Q .normal (st n (F vs) vs ((0,.sus ((F vs).map (·.2)) us)::R xs.length vs))):awp P C (.rangeFunc (.tmp t) ps assign body) Q s:=by
 obtain⟨vs0,h0⟩:=h0
 refine zw h0 ?_
 have hdrop:∀ i e rest,xs.drop i=e::rest→xs[i]? = some e∧xs.drop (i+1)=rest:=fun i e rest h=>by
  refine⟨?_,by rw[← List.drop_drop,h];rfl⟩
  have:(xs.drop i)[0]? = some e:=by rw[h];rfl
  simpa using this
 have hz:∀ vs,ts.zip ((F vs).map (·.2))=F vs:=fun vs=>by rw[← hts vs];exact zip_keys _
 refine awp_rangeFuncH hC.1 hC.2 (F:=f) (args:=caps) (xs:=xs) (z:=z) (by
  show look (F vs0) t=_
  rw[hg]) hI (hd 0 vs0) ts hps
  (fun left us s'=>∃ i vs,left=xs.drop i∧i≤xs.length∧I i∧s'=st n [] vs ((0,.sus ((F vs).map (·.2)) us)::R i vs))
  (fun c us s'=>∃ avs,(s'.rows 0).c = .sus avs us∧((c = .ret∧Q .ret ⟨n,look (ts.zip avs),s'.rows⟩)∨∃ id,c = .exit id∧Q (.exit id) ⟨n,look (ts.zip avs),s'.rows⟩))
  (by
   rintro left us s' ⟨i,vs,_,_,_,rfl⟩ p' a' w' hS'
   obtain⟨cs,hcs,hpk⟩:=hbx i vs
   exact peek_of hS' (by rw[zlc,if_neg hk0];exact hcs) hpk (List.mem_map.2 ⟨_,hu vs,rfl⟩:AV.pu k (vs k) u∈(F vs).map (·.2)))
  (fun us=>⟨0,vs0,rfl,Nat.zero_le _,hi0,?_⟩) ?_ ?_ ?_
 ·refine (upd_rows_st (c:=.sus (ts.map (st n (F vs0) vs0 (R 0 vs0)).tm) us)).trans ?_
  congr 3
  have hk:(F vs0).map (·.2)=ts.map (look (F vs0)):=by
   have:=look_keys (F vs0) (by rw[hts vs0];exact hnd)
   rw[hts vs0] at this
   exact this
  rw[hk];rfl
 ·rintro e rest us s' _ ⟨i,vs,hl,hle,hI',rfl⟩
  obtain⟨h1,h2⟩:=hdrop i e rest hl.symm
  refine⟨hlen e (List.mem_of_getElem? h1),(F vs).map (·.2),rfl,fun C'=>?_⟩
  have hr:=round i e vs us C' h1 hI'
  rw[hz,psA_look]
  refine awp_mono ?_ hr
  rintro x s2 ⟨hx,hbody⟩
  refine⟨hx,fun C''=>awp_mono ?_ (hbody C'')⟩
  intro x s3 hq
  cases x with
  | normal =>
    obtain⟨hI3,vs',hsub⟩:=hq
    refine⟨_,hsub,i+1,vs',h2.symm,?_,hI3,rfl⟩
    have:=(List.getElem?_eq_some_iff.1 h1).1
    omega
  | ret =>
    obtain⟨avs,h3,h4⟩:=hq
    exact⟨s3,Sub.refl _,avs,h3,.inl ⟨rfl,h4⟩⟩
  | exit id =>
    obtain⟨avs,h3,h4⟩:=hq
    exact⟨s3,Sub.refl _,avs,h3,.inr ⟨id,rfl,h4⟩⟩
  | goto l=>exact hq.elim
  | panic c=>exact hq.elim
  | outgrown=>exact hq.elim
 ·rintro us s' _ ⟨i,vs,hl,hle,hI',rfl⟩
  have hi:i=xs.length:=by
   have:(xs.drop i).length=0:=by rw[← hl];rfl
   rw[List.length_drop] at this;omega
  subst hi
  refine⟨(F vs).map (·.2),rfl,?_⟩
  have:=done vs us hI'
  rw[hz]
  exact this
 ·rintro c us s' _ ⟨avs,h3,h4⟩
  refine⟨avs,h3,?_⟩
  rcases h4 with⟨rfl,h4⟩|⟨id,rfl,h4⟩
  ·exact ze h4
  ·exact zf h4
theorem gop_vlNil {P:Program}{s:AS}{o:Oper}{x:Operand}{K:AS→Prop}(ho:o.op = .nilCheck x) {u:Addr}(hx:s.ev x = .r (.vl u)) (hK:K (s.put o.dst (.r (.vl u)))):gop P o K s:=by
 intro C p a w h hd hnd KW Q hKW
 have hv:a.eval x = .pointer (some u):=by
  have:=h.ev x
  rw[hx] at this
  simpa only[AV.rel,RV.rel] using this
 have hr:(execOp a.eval o).run P w = .ok (.value (.pointer (some u))) w:=by simp [execOp,ho,hv]
 refine wpIn_of_wp hnd ?_
 unfold Oper.wp
 rw[hr]
 have hput:=h.put' (d:=o.dst) (av:=.r (.vl u)) (v:=.pointer (some u)) (by simp only[AV.rel,RV.rel]) hd
 exact hKW _ _ p _ hput (app_n' _ _ _) hK
theorem gop_vlField {P:Program}{s:AS}{o:Oper}{x:Operand}{t:TypeId}{f:Nat}{K:AS→Prop}(ho:o.op = .fieldAddr t x f) {u:Addr}(hx:s.ev x = .r (.vl u)) {fs:List (Nat × Nat × Bool)}{sz:Nat}{agg:Bool}{z:List RV}(e1:tyq P t=some ⟨.struct fs,sz,agg,z⟩) {off sz2:Nat}{agg2:Bool}(e2:fs[f]? = some (off,sz2,agg2))
 (hK:K (s.put o.dst (.r (.vl (u.add off))))):gop P o K s:=by
 intro C p a w h hd hnd KW Q hKW
 have hv:a.eval x = .pointer (some u):=by
  have:=h.ev x
  rw[hx] at this
  simpa only[AV.rel,RV.rel] using this
 obtain⟨fields,hu,hfs,hall⟩:=tyq_struct e1
 rw[hfs] at e2
 obtain⟨g,hg,hx2,hm⟩:=fields_get e2
 injection hx2 with hx1 hx2
 subst hx1
 obtain⟨hok,hz⟩:=hall g hm
 have hr:(execOp a.eval o).run P w = .ok (.value (.pointer (some (u.add g.offset)))) w:=by simp [execOp,ho,hv,run_fieldAt hu hg hok hz]
 refine wpIn_of_wp hnd ?_
 unfold Oper.wp
 rw[hr]
 have hput:=h.put' (d:=o.dst) (av:=.r (.vl (u.add g.offset))) (v:=.pointer (some (u.add g.offset))) (by simp only[AV.rel,RV.rel]) hd
 exact hKW _ _ p _ hput (app_n' _ _ _) hK
theorem sops_vlLoad {P:Program}{C:Ctx}{n:Nat}{l:List (Nat × AV)}{vs:Nat→Nat}{cs:List (Nat × RowC)}{Q:Exit→AS→Prop}{ops:Array Oper}{o:Oper}{rest:List Oper}{x:Operand}{t:TypeId}{u:Addr}{pk:List (Nat × Int)}(hPk:∀ o w Ψ Θ,C.X.X (some o) w Ψ Θ→PeekI u pk w) (hg:o.guard=none) (hd:∀ t,o.dst=some t→t<n) (hnd:∀ c,o.op ≠ .defer c)
 (ho:o.op = .load t x) {T:TI}(e1:tyq P t=some T) (hagg:T.agg=false) {off:Nat}{m:Int}(hm:(off,m)∈pk) (hx:(st n l vs cs).ev x = .r (.vl (u.add off))) {ll:Nat}{z:Bool}{xs:List (List RV)}(hrow:lookc cs 999 = .gh P ll z (some xs))
 (hK:sops P C ops rest Q ((st n l vs cs).put o.dst (.r (.it .i64 m)))):sops P C ops (o::rest) Q (st n l vs cs):=fun a w ⟨p,hs⟩=>by
 unfold wpListIn
 rw[if_pos (wantA_sound hs (by simp [wantA,hg]))]
 have hv:a.eval x = .pointer (some (u.add off)):=by
  have:=hs.ev x
  rw[hx] at this
  simpa only[AV.rel,RV.rel] using this
 have hr:=hs.rw 999
 have e9:((st n l vs cs).rows 999).c = .gh P ll z (some xs):=hrow
 rw[e9] at hr
 simp only[zrl] at hr
 have hXX:=hr.2.2.2.2.2.2
 rw[hs.ex.px] at hXX
 have hcell:=hPk _ _ _ _ hXX _ hm
 have hrun:=run_loadVar_list (w:=w) e1 (ad:=u.add off) (us:=[.int .i64 m]) (fun i v hi=>by
  match i,hi with
  | 0, hi =>
    simp at hi
    subst hi
    simpa [Addr.add] using hcell) (by simp [need,hagg])
 rw[hagg] at hrun
 have hr:(execOp a.eval o).run P w = .ok (.value (.int .i64 m)) w:=by simp [execOp,ho,hv,Instr.loadAt,Instr.sureAddr,hrun]
 refine wpIn_of_wp hnd ?_
 unfold Oper.wp
 rw[hr]
 have hput:=hs.put' (d:=o.dst) (av:=.r (.it .i64 m)) (v:=.int .i64 m) (by simp only[AV.rel,RV.rel]) hd
 exact hK _ _ ⟨p,hput⟩
theorem sub_ptvl {n:Nat}{l:List (Nat × AV)}{vs:Nat→Nat}{cs:List (Nat × RowC)}(t t0:Nat) {k:Nat}{u:Addr}(ht0:look l t0 = .pu k (vs k) u) (ht:look l t = .pt k (vs k) 0):Sub (st n l vs cs) (st n ((t,.r (.vl u))::l) vs cs):=fun C a w ⟨p,hp⟩=>by
 have h0:=hp.tm t0
 have e0:(st n l vs cs).tm t0 = .pu k (vs k) u:=ht0
 rw[e0] at h0
 simp only[AV.rel] at h0
 obtain⟨hv1,hv2,hv3⟩:=h0
 refine⟨p,{ hp with tm:=fun j=>?_ }⟩
 show AV.rel w _ _ (look ((t,.r (.vl u))::l) j) _
 rw[look_cons]
 split
 ·rename_i e
  subst e
  have hx:=hp.tm j
  have e2:(st n l vs cs).tm j = .pt k (vs k) 0:=ht
  rw[e2] at hx
  simp only[AV.rel,RV.rel] at hx ⊢
  obtain⟨b,hb,hbv⟩:=hv3 rfl
  obtain⟨b',hb',hbv'⟩:=hx.2 rfl
  rw[hb] at hb'
  injection hb' with hb'
  subst hb'
  rw[hbv']
  exact hbv.symm.trans hv1
 ·exact hp.tm j
end Go.Oc

namespace Go.Proofs.YtgfbenanljjgaaaGreat.Du.Th.Ai
open Go Go.Oc
set_option maxRecDepth 8000
set_option maxHeartbeats 4000000
theorem newTable_ok (r:Rk) (s:Bool) (h0:0≤r.start+1) (h1:r.start≤1000):NCalls Tryz.prog 85 [rkR r,.bo s] [(10,.arr 3 1 (arrV (List.replicate (r.start+1).toNat 0))),(12,.box [.r (i64 r.d),.r (aimsR r.aims),.r (i64 r.start),.r (i64 r.out),.r (.bo s),.os 10 0 1 0 (r.start+1).toNat])] (.pt 12 0 0):=by
 have w1:IntKind.i64.wrap (r.start+1)=r.start+1:=by rw[zI]<;>omega
 refine ncalls_st (n:=13) _ _ (.tmp 4) Tryz.func85 rfl (by kernel_rfl) Tryz.ntmps85 rfl (by simp) rfl rfl fun C hC=>?_
 apply zq
 refine zb fun K hK=>?_;simp only[go_sem,argL];apply hK;clear hK K;refine zw (zfP 2 2 [i64 r.d,aimsR r.aims,i64 r.start,i64 r.out] (by omega) rfl rfl) ?_;apply zw (zk [1,2]);simp only[go_sem]
 apply zq
 refine awp_dreg2 [(1,none),(2,none)] follows (by decide +kernel) (by kernel_rfl) (by simp only[keysOk,List.mem_cons,List.not_mem_nil,forall_eq_or_imp,Oc.keyOf,go_sem];simp) fun K hK=>?_
 simp only[go_sem,w1]
 refine⟨⟨h0,by omega,by omega⟩,?_⟩
 apply hK;clear hK K;apply zw (zk [4]);simp only[go_sem];apply ze
 try simp only[go_sem]
 simp
theorem scores_ok (r:Rk) (u:Addr) (hs:r.start≤1000):HBCalls Tryz.prog u [(2,r.start),(3,r.out)] true 75 [.vl u] ((List.range (cntA r)).map fun (i:Nat)=>[i64 (lowG r.out+(i:Int))]):=by
 have hlg:=lowG_le r.out
 refine hbcalls_st Tryz.func75 rfl (by kernel_rfl) Tryz.ntmps75 rfl (by simp) fun C ll hPk=>?_
 apply zq
 refine awp_long ?_
 refine sops_take 1 (by kernel_rfl) fun K hK=>?_
 simp only[go_sem,List.take_succ_cons,List.take_zero,List.drop_succ_cons,List.drop_zero,List.append_eq,List.cons_append,List.nil_append,argL]
 refine hK _ rfl ?_
 clear hK K
 refine sops_gop rfl (by intro t h;injection h with h;subst h;show 6<25;decide) (by intro c h;cases h) (gop_vlNil rfl (u:=u) (by simp only[go_sem]) ?_)
 try simp only[go_sem]
 refine sops_gop rfl (by intro t h;injection h with h;subst h;show 7<25;decide) (by intro c h;cases h) (gop_vlField rfl (u:=u) (by simp only[go_sem]) ty113 (off:=0) rfl ?_)
 try simp only[go_sem]
 refine sops_gop rfl (by intro t h;injection h with h;subst h;show 8<25;decide) (by intro c h;cases h) (gop_vlField rfl (u:=u) (by simp only[go_sem]) ty27 (off:=3) rfl ?_)
 try simp only[go_sem]
 refine sops_vlLoad hPk rfl (by intro t h;injection h with h;subst h;show 9<25;decide) (by intro c h;cases h) rfl (t:=25) (by simp only[go_sem];rfl) rfl (off:=3) (m:=r.out) (by simp) (by simp only[go_sem]) (by simp only[go_sem];rfl) ?_
 try simp only[go_sem]
 refine sops_end (by kernel_rfl) fun K hK=>?_
 simp only[go_sem,List.drop_succ_cons,List.drop_zero,List.append_eq,List.cons_append,List.nil_append]
 refine zh (alow_ok r.out) rfl (by simp only[go_sem,i64,ints]) (by simp only[go_sem,i64,ints]) ?_
 (try simp only[go_sem]);apply hK;clear hK K;apply zw (zk [0,1,4]);simp only[go_sem];apply zd
 obtain⟨xs,hxs⟩:∃ xs:List (List RV),xs=(List.range (cntA r)).map fun (i:Nat)=>[i64 (lowG r.out+(i:Int))]:=⟨_,rfl⟩
 rw[← hxs]
 have hxl:xs.length=cntA r:=by rw[hxs];simp
 have hcnt:(cntA r:Int)=max 0 (r.start+1-lowG r.out):=by unfold cntA;omega
 refine zup (n:=25) (cntA r) (fun i vs=>[(0,.r (.vl u)),(1,.r (.yl ll)),(4,.r (i64 (lowG r.out+(i:Int))))])
  (fun i=>[(999,.gh Tryz.prog ll true (some (xs.drop i)))]) (fun _=>True) 0 (zfo [] ?_ ?_) (Nat.zero_le _) trivial ?_
 ·try simp only[go_sem]
  try simp
 ·try simp only[go_sem]
 ·intro i vs hi _
  have w1:IntKind.i64.wrap (lowG r.out+(i:Int)+1)=lowG r.out+(i:Int)+1:=by rw[zI]<;>omega
  have e1:lowG r.out+(i:Int)+1=lowG r.out+((i+1:Nat):Int):=by omega
  repeat apply zq
  refine awp_long ?_
  refine sops_take 2 (by kernel_rfl) fun K hK=>?_
  simp only[go_sem,List.take_succ_cons,List.take_zero,List.drop_succ_cons,List.drop_zero,List.append_eq,List.cons_append,List.nil_append]
  refine hK _ rfl ?_
  clear hK K
  refine sops_gop rfl (by intro t h;injection h with h;subst h;show 13<25;decide) (by intro c h;cases h) (gop_vlNil rfl (u:=u) (by simp only[go_sem]) ?_)
  try simp only[go_sem]
  refine sops_gop rfl (by intro t h;injection h with h;subst h;show 14<25;decide) (by intro c h;cases h) (gop_vlField rfl (u:=u) (by simp only[go_sem]) ty113 (off:=0) rfl ?_)
  try simp only[go_sem]
  refine sops_gop rfl (by intro t h;injection h with h;subst h;show 15<25;decide) (by intro c h;cases h) (gop_vlField rfl (u:=u) (by simp only[go_sem]) ty27 (off:=2) rfl ?_)
  try simp only[go_sem]
  refine sops_vlLoad hPk rfl (by intro t h;injection h with h;subst h;show 16<25;decide) (by intro c h;cases h) rfl (t:=3) (by simp only[go_sem];rfl) rfl (off:=2) (m:=r.start) (by simp) (by simp only[go_sem]) (by simp only[go_sem];rfl) ?_
  try simp only[go_sem]
  by_cases hlt:i<cntA r
  ·have e2:decide (lowG r.out+(i:Int)≤r.start)=true:=by simp;omega
   have he:xs.drop i=[i64 (lowG r.out+(i:Int))]::xs.drop (i+1):=by
    refine drop_of_opt ?_
    rw[hxs]
    simp [hlt]
   refine sops_end (by kernel_rfl) fun K hK=>?_
   simp only[go_sem,List.drop_succ_cons,List.drop_zero,List.append_eq,List.cons_append,List.nil_append,e2]
   refine xcall_yield (z:=true) (e:=[i64 (lowG r.out+(i:Int))]) (rest:=xs.drop (i+1)) (by simp only[go_sem,he]) rfl (by simp only[go_sem]) (.inl rfl) ?_ ?_
   ·simp only[go_sem];apply hK;clear hK K;apply zw (zk [0,1,4,22]);simp only[go_sem]
    apply zc rfl<;>intro hc<;>(try simp only[go_sem] at hc)
    apply zx
    try simp only[go_sem]
    apply zq
    apply zd;apply zx
    try simp only[go_sem]
    refine zb fun K hK=>?_;simp only[go_sem,w1];apply hK;clear hK K
    try simp only[go_sem]
    refine⟨hlt,zfo [] ?_ ?_⟩
    ·try simp only[go_sem]
     omega
    ·try simp only[go_sem]
   ·simp only[go_sem];apply hK;clear hK K;apply zw (zk [22]);simp only[go_sem]
    apply zc rfl<;>intro hc<;>(try simp only[go_sem] at hc)
    apply zf;simp only[go_sem];exact⟨_,_,.inr rfl⟩
  ·have e2:decide (lowG r.out+(i:Int)≤r.start)=false:=by simp;omega
   have h0:xs.drop i=[]:=List.drop_eq_nil_of_le (by omega)
   rw[h0]
   refine sops_end (by kernel_rfl) fun K hK=>?_
   simp only[go_sem,List.drop_succ_cons,List.drop_zero,List.append_eq,List.cons_append,List.nil_append,e2];apply hK;clear hK K;apply zw (zk [22]);simp only[go_sem]
   apply zc rfl<;>intro hc<;>(try simp only[go_sem] at hc)
   apply zf;simp only[go_sem];exact⟨_,_,.inl rfl⟩
abbrev tabT (r:Rk) (s:Bool):List Int:=tabA r s (cntA r)
theorem filled_ok (r:Rk) (s:Bool) (hr:ROk r):ACalls Tryz.prog 59 [rkR r,.bo s] (.rp (tabC r s (tabT r s))):=by
 have hst:=hr.start
 have hlg:=lowG_le r.out
 have hnt:=newTable_ok r s (by omega) (by omega)
 obtain⟨len,hlen⟩:∃ len,len=(r.start+1).toNat:=⟨_,rfl⟩
 rw[← hlen] at hnt
 have hz:tabA r s 0=List.replicate len 0:=by rw[hlen];rfl
 rw[← hz] at hnt
 refine acalls_stR (rs:=[.rp (tabC r s (tabT r s))]) [.tmp 4] Tryz.func59 rfl (by kernel_rfl) Tryz.ntmps59 rfl (by simp) rfl fun C hC vs=>?_
 apply zq
 refine zb fun K hK=>?_;simp only[go_sem,argL];apply hK;clear hK K;refine zw (zfP 2 2 [i64 r.d,aimsR r.aims,i64 r.start,i64 r.out] (by omega) rfl rfl) ?_;apply zw (zk [1,2]);simp only[go_sem]
 apply zq
 refine awp_long ?_
 refine sops_take 3 (by kernel_rfl) fun K hK=>?_
 simp only[go_sem,List.take_succ_cons,List.take_zero,List.drop_succ_cons,List.drop_zero,List.append_eq,List.cons_append,List.nil_append]
 refine xcall_new hnt [(10,30),(12,31)] rfl (by rfl) (by rfl) (by rfl) (by rfl) (by rfl) ?_
 simp only[go_sem,idK,backA,backC,backL,pinOf,zLk]
 refine hK _ rfl ?_
 clear hK K
 refine sops_sub (zk [9]) ?_
 simp only[go_sem]
 refine sops_end (by kernel_rfl) fun K hK=>?_
 simp only[go_sem,List.drop_succ_cons,List.drop_zero,List.append_eq,List.cons_append,List.nil_append];apply hK;clear hK K;apply zw (zk [5,9]);simp only[go_sem]
 refine awp_name 9 rfl fun u=>?_
 repeat apply zq
 refine awp_long ?_
 refine sops_take 1 (by kernel_rfl) fun K hK=>?_
 simp only[go_sem,List.take_succ_cons,List.take_zero,List.drop_succ_cons,List.drop_zero,List.append_eq,List.cons_append,List.nil_append]
 refine hK _ rfl ?_
 clear hK K
 refine sops_sub (sub_ptvl 10 9 (k:=31) (u:=u) (by try simp only[go_sem]) (by try simp only[go_sem])) ?_
 refine sops_sub (zk [5,9,10]) ?_
 simp only[go_sem]
 refine sops_gop rfl (by intro t h;injection h with h;subst h;show 11<17;decide) (by intro c h;cases h) (gop_method rfl (v:=.vl u) (by simp only[go_sem]) ?_)
 try simp only[go_sem]
 refine sops_end (by kernel_rfl) fun K hK=>?_
 simp only[go_sem,List.drop_succ_cons,List.drop_zero,List.append_eq,List.cons_append,List.nil_append];apply hK;clear hK K;apply zw (zk [5,9,11]);simp only[go_sem]
 have hcnt:(cntA r:Int)=r.start+1-lowG r.out:=by unfold cntA;omega
 have htab:=fun i (hi:i≤cntA r)=>tab_eq hr s i hi
 have hll:∀ i,i≤cntA r→(tabA r s i).length=len:=fun i hi=>by rw[(htab i hi).2.1,hlen]
 apply zd
 refine awp_rangeFH (n:=17) hC ((List.range (cntA r)).map fun (i:Nat)=>[i64 (lowG r.out+(i:Int))]) (scores_ok r u (by omega)) 31 9 [5,9,11] (by decide)
  (fun vs=>[(5,.pt 5 (vs 5) 0),(9,.pu 31 (vs 31) u),(11,.r (.bf 75 [.vl u]))])
  (fun i vs=>[(5,.box [.pt 31 (vs 31) 0]),(30,.arr 3 1 (arrV (tabA r s i))),(31,.box [.r (i64 r.d),.r (aimsR r.aims),.r (i64 r.start),.r (i64 r.out),.r (.bo s),.os 30 (vs 30) 1 0 len])]) (fun i=>i≤cntA r) (zj [] ?_ ?_) (Nat.zero_le _)
  (fun vs=>by simp) (fun i vs=>⟨_,rfl,fun x hx=>by simp at hx;rcases hx with rfl|rfl<;>rfl⟩) (by decide) (fun _=>rfl) (fun _=>rfl) (fun _ _=>rfl) (by decide) (fun e he=>by obtain⟨i,_,rfl⟩:=List.mem_map.1 he;rfl) ?_ ?_
 ·try simp only[go_sem]
 ·try simp only[go_sem]
 ·intro i e vs us C' he hi
  have hil:i<cntA r:=by
   have:=(List.getElem?_eq_some_iff.1 he).1
   simpa using this
  have he':e=[i64 (((lowG r.out).toNat+i:Nat):Int)]:=by
   simp [hil] at he
   rw[← he]
   have:lowG r.out+(i:Int)=(((lowG r.out).toNat+i:Nat):Int):=by omega
   rw[this]
  subst he'
  have hvs:VsOk r s (tabA r s i) ((lowG r.out).toNat+i):=⟨hr,(htab i hi).2.1,(htab i hi).2.2,by omega,by omega⟩
  have hfl:=fill_ok hvs
  have hn:(tabA r s i).set ((lowG r.out).toNat+i) (numA r s (tabA r s i) ((lowG r.out).toNat+i))=tabA r s (i+1):=rfl
  rw[hn] at hfl
  unfold fillT tabA' at hfl
  rw[hll i hi,hll (i+1) (by omega)] at hfl
  refine zb fun K hK=>?_;simp only[go_sem];apply hK;clear hK K
  refine⟨rfl,fun C''=>?_⟩
  apply zw (zk [5,6]);simp only[go_sem];apply zd;refine zb fun K hK=>?_;simp only[go_sem]
  refine xcall_mut (hfl) [(1000,31),(1001,30)] rfl (by simp only[go_sem,i64,ints]) (by simp only[go_sem,i64,ints]) (by rfl) (by rfl) ?_
  (try simp only[go_sem]);apply hK;clear hK K
  try simp only[go_sem]
  exact⟨by omega,vs,sub_look _ (allEq_mem (by simp only[go_sem]))⟩
 ·intro vs us hi
  have hel:((List.range (cntA r)).map fun (i:Nat)=>[i64 (lowG r.out+(i:Int))]).length=cntA r:=by simp
  rw[hel]
  try simp only[go_sem]
  refine zw (sub_wake rfl) ?_;apply zw (zk [5]);simp only[go_sem]
  apply zq
  refine zb fun K hK=>?_;simp only[go_sem];apply hK;clear hK K;apply zw (zk [4]);simp only[go_sem]
  have hlt:=hll (cntA r) (Nat.le_refl _)
  have htk:((arrV (tabA r s (cntA r))).drop 0).take len=arrV (tabA r s (cntA r)):=by rw[List.drop_zero,List.take_of_length_le (by simp [hlt])]
  refine zw (sub_frzB 31 5 30 (ty:=3) (sz:=1) (off:=0) (m:=len) (es:=arrV (tabA r s (cntA r))) (by omega) (by omega) rfl (by simp only[go_sem,List.getElem?_cons_succ,List.getElem?_cons_zero]) (by rfl) (by simp [hlt])) ?_;rw[htk]
  try simp only[go_sem]
  refine zw (zfP 4 31 (tabC r s (tabT r s)) (by omega) (by try simp only[go_sem]) (by try simp only[go_sem])) ?_;apply zw (zk [4]);simp only[go_sem];apply ze;simp only[go_sem];exact leL_refl.le_refl _
theorem acheck_ok (r:Rk) (hw:WfL r.d r.aims):ACalls Tryz.prog 58 [rkR r] (i64 (checkR r)):=by
 have hch:=check_ok r.d r.aims hw
 have ha:=awithin_ok 2 60 [r.start]
 have hb:=awithin_ok 0 2 [r.out]
 have ea:withinL 2 60 [r.start]=decide (2≤r.start∧r.start≤60):=by simp [withinL]
 have eb:withinL 0 2 [r.out]=decide (0≤r.out∧r.out≤2):=by simp [withinL]
 rw[ea] at ha
 rw[eb] at hb
 unfold checkR
 refine zas (rs:=[i64 (if checkV r.d r.aims=0 then (if (2≤r.start∧r.start≤60)∧0≤r.out∧r.out≤2 then 0 else 2) else checkV r.d r.aims)]) [.tmp 2] Tryz.func58 rfl (by kernel_rfl) Tryz.ntmps58 rfl (by simp) rfl fun C vs=>?_
 apply zq
 refine zb fun K hK=>?_;simp only[go_sem];apply hK;clear hK K;refine zw (zfP 1 1 [i64 r.d,aimsR r.aims,i64 r.start,i64 r.out] (by omega) rfl rfl) ?_;apply zw (zk [1]);simp only[go_sem]
 repeat apply zq
 refine zb fun K hK=>?_;simp only[go_sem]
 refine zh (hch) rfl (by simp only[go_sem,i64,ints]) (by simp only[go_sem,i64,ints]) ?_
 (try simp only[go_sem]);apply hK;clear hK K;apply zw (zk [1,3]);simp only[go_sem]
 apply zq
 refine zb fun K hK=>?_;simp only[go_sem];apply hK;clear hK K;apply zw (zk [1,3,8]);simp only[go_sem]
 by_cases h0:checkV r.d r.aims=0
 ·have e0:(checkV r.d r.aims != 0)=false:=by simp [h0]
  rw[if_pos h0,e0]
  apply zc rfl<;>intro hc<;>(try simp only[go_sem] at hc)
  apply zx
  try simp only[go_sem]
  by_cases h1:2≤r.start∧r.start≤60
  ·rw[decide_eq_true h1] at ha
   by_cases h2:0≤r.out∧r.out≤2
   ·rw[decide_eq_true h2] at hb
    rw[if_pos ⟨h1,h2⟩]
    repeat apply zq
    refine zb fun K hK=>?_;simp only[go_sem]
    refine zh (ha) rfl (by simp only[go_sem,i64,ints]) (by simp only[go_sem,i64,ints]) ?_
    (try simp only[go_sem])
    refine zh (hb) rfl (by simp only[go_sem,i64,ints]) (by simp only[go_sem,i64,ints]) ?_
    (try simp only[go_sem]);apply hK;clear hK K;apply zw (zk [1,21]);simp only[go_sem]
    apply zc rfl<;>intro hc<;>(try simp only[go_sem] at hc)
    apply zx
    try simp only[go_sem]
    apply zq
    refine zb fun K hK=>?_;simp only[go_sem];apply hK;clear hK K;apply zw (zk [2]);simp only[go_sem];apply ze;simp only[go_sem]
   ·rw[decide_eq_false h2] at hb
    rw[if_neg (fun h=>h2 h.2)]
    repeat apply zq
    refine zb fun K hK=>?_;simp only[go_sem]
    refine zh (ha) rfl (by simp only[go_sem,i64,ints]) (by simp only[go_sem,i64,ints]) ?_
    (try simp only[go_sem])
    refine zh (hb) rfl (by simp only[go_sem,i64,ints]) (by simp only[go_sem,i64,ints]) ?_
    (try simp only[go_sem]);apply hK;clear hK K;apply zw (zk [1,21]);simp only[go_sem]
    apply zc rfl<;>intro hc<;>(try simp only[go_sem] at hc)
    apply zq
    refine zb fun K hK=>?_;simp only[go_sem];apply hK;clear hK K;apply zw (zk [2]);simp only[go_sem];apply ze;simp only[go_sem]
  ·rw[decide_eq_false h1] at ha
   rw[if_neg (fun h=>h1 h.1)]
   repeat apply zq
   refine zb fun K hK=>?_;simp only[go_sem]
   refine zh (ha) rfl (by simp only[go_sem,i64,ints]) (by simp only[go_sem,i64,ints]) ?_
   (try simp only[go_sem]);apply hK;clear hK K;apply zw (zk [1,21]);simp only[go_sem]
   apply zc rfl<;>intro hc<;>(try simp only[go_sem] at hc)
   apply zq
   refine zb fun K hK=>?_;simp only[go_sem];apply hK;clear hK K;apply zw (zk [2]);simp only[go_sem];apply ze;simp only[go_sem]
 ·have e0:(checkV r.d r.aims != 0)=true:=by simpa using h0
  rw[if_neg h0,e0]
  apply zc rfl<;>intro hc<;>(try simp only[go_sem] at hc)
  apply zq
  refine zb fun K hK=>?_;simp only[go_sem];apply hK;clear hK K;apply zw (zk [2]);simp only[go_sem];apply ze;simp only[go_sem]
theorem table_ok (r:Rk) (hw:WfL r.d r.aims):ACalls Tryz.prog 22 [rkR r] (.tu [if checkR r=0 then ints (tabT r false) else .ns,if checkR r=0 then ints (tabT r true) else .ns,i64 (checkR r)]):=by
 have hch:=acheck_ok r hw
 refine zas (rs:=[if checkR r=0 then ints (tabT r false) else .ns,if checkR r=0 then ints (tabT r true) else .ns,i64 (checkR r)]) [.tmp 2,.tmp 3,.tmp 4] Tryz.func22 rfl (by kernel_rfl) Tryz.ntmps22 rfl (by simp) rfl fun C vs=>?_
 apply zq
 refine zb fun K hK=>?_;simp only[go_sem];apply hK;clear hK K;refine zw (zfP 1 1 [i64 r.d,aimsR r.aims,i64 r.start,i64 r.out] (by omega) rfl rfl) ?_;apply zw (zk [1]);simp only[go_sem]
 repeat apply zq
 refine zb fun K hK=>?_;simp only[go_sem]
 refine zh (hch) rfl (by simp only[go_sem,i64,ints]) (by simp only[go_sem,i64,ints]) ?_
 (try simp only[go_sem]);apply hK;clear hK K;apply zw (zk [1,5]);simp only[go_sem]
 apply zq
 refine zb fun K hK=>?_;simp only[go_sem];apply hK;clear hK K;apply zw (zk [1,5,9]);simp only[go_sem]
 by_cases h0:checkR r=0
 ·obtain⟨_,hr⟩:=checkR_zero h0
  have hf:=filled_ok r false hr
  have ht:=filled_ok r true hr
  have e0:(checkR r != 0)=false:=by simp [h0]
  rw[if_pos h0,if_pos h0,e0]
  apply zc rfl<;>intro hc<;>(try simp only[go_sem] at hc)
  apply zx
  try simp only[go_sem]
  apply zq
  refine awp_dreg2 [(1,none)] follows (by decide +kernel) (by kernel_rfl) (by simp only[keysOk,List.mem_cons,List.not_mem_nil,forall_eq_or_imp,Oc.keyOf,go_sem];simp) fun K hK=>?_
  simp only[go_sem]
  refine zh (hf) rfl (by simp only[go_sem,i64,ints]) (by simp only[go_sem,i64,ints]) ?_
  (try simp only[go_sem])
  refine zh (ht) rfl (by simp only[go_sem,i64,ints]) (by simp only[go_sem,i64,ints]) ?_
  (try simp only[go_sem]);apply hK;clear hK K;apply zw (zk [2,3,4]);simp only[go_sem];apply ze;simp only[go_sem];exact h0.symm
 ·have e0:(checkR r != 0)=true:=by simpa using h0
  rw[if_neg h0,if_neg h0,e0]
  apply zc rfl<;>intro hc<;>(try simp only[go_sem] at hc)
  apply zq
  refine zb fun K hK=>?_;simp only[go_sem];apply hK;clear hK K;apply zw (zk [2,3,4]);simp only[go_sem];apply ze;simp only[go_sem]
set_option maxHeartbeats 8000000
theorem nextA_cg {out own left:Int}{f g:Int→Int}(h:∀ x,lowG out≤x→x≤left→f x=g x) {b:Int}(hb:0≤b∧b≤499):nextA out own left f b=nextA out own left g b:=by
 have hs:=score_nn hb
 unfold nextA
 split
 ·rfl
 ·split
  ·rfl
  ·exact h _ (by omega) (by omega)
theorem meanA_cg {r:Rk}{s:Bool}{own left:Int}{f g:Int→Int}(h:∀ x,lowG r.out≤x→x≤left→f x=g x) {a:Am}(ha:AOk r.d a.beds):meanA r s own left f a=meanA r s own left g a:=by
 unfold meanA
 congr 1
 exact List.map_congr_left fun b hb=>nextA_cg h (ha.bed b hb)
theorem valA_cg {r:Rk}(hr:ROk r) {s:Bool}{T U:List Int}{own:Int}{st:Nat}(h:∀ x,x≤st→T.getD x 0=U.getD x 0):∀ (k:Nat) (left:Int),lowG r.out≤left→left≤st→valA r s T own k left=valA r s U own k left
 | 0,left,h1,h2=>h _ (by omega)
 | k+1, left, h1, h2=>by
   unfold valA
   congr 1
   exact List.map_congr_left fun a ha=>meanA_cg (fun x q1 q2=>valA_cg hr h k x q1 (by omega)) (hr.aims a ha)
theorem holds_cg {r:Rk}(hr:ROk r) {s:Bool}{T U:List Int}{st:Nat}(hlo:lowG r.out≤st) (h:∀ x,x≤st→T.getD x 0=U.getD x 0):zhA r s T st=zhA r s U st:=by
 have h1:=h st (Nat.le_refl _)
 have h2:=valA_cg hr (s:=s) (own:=U.getD st 0) h 3 st hlo (Int.le_refl _)
 unfold zhA
 rw[h1,h2]
theorem numA_false {r:Rk}(hr:ROk r) {nums:List Int}{st:Nat}(hn:∀ x∈nums,VOk x) (hst:st<nums.length) (hlo:lowG r.out≤st) :
 numA r false nums st=2000000000∨((1000000≤numA r false nums st∧numA r false nums st≤1000000000)∧zhA r false (nums.set st (numA r false nums st)) st=true∧zhA r false (nums.set st (numA r false nums st-1)) st=false):=by
 obtain⟨g1,g2,g3,g4⟩:=srch_spec (fun k=>zhA r false (nums.set st (1000000+(k:Int))) st) 0 999000001 (by omega) fun a b q1 q2 q3 q4=>holds_up hr hn hst hlo (by omega) (by omega) (by omega) q4
 unfold numA
 simp only[Bool.false_eq_true,if_false]
 generalize srch (fun k=>zhA r false (nums.set st (1000000+(k:Int))) st) 0 999000001=k at *
 by_cases h:1000000000<1000000+(k:Int)
 ·left;rw[if_pos h]
 ·right
  rw[if_neg h]
  refine⟨by omega,g4 (by omega),?_⟩
  by_cases hk:k=0
  ·subst hk
   have hv:=valA_le hr (s:=false) (set_vok hn st (n:=999999) (.inl ⟨by omega,by omega⟩)) (own:=999999) (.inl ⟨by omega,by omega⟩) 3 st
   have e:(1000000:Int)+((0:Nat):Int)-1=999999:=by omega
   rw[e]
   unfold zhA
   simp only[Bool.false_eq_true,if_false,getD_set hst,if_true];rw[Bool.or_eq_false_iff,decide_eq_false_iff_not,decide_eq_false_iff_not]
   omega
  ·have:=g3 (k-1) (by omega) (by omega)
   have e:(1000000:Int)+((k-1:Nat):Int)=1000000+(k:Int)-1:=by omega
   rw[e] at this
   exact this
theorem numA_true {r:Rk}(hr:ROk r) {nums:List Int}{st:Nat}(hn:∀ x∈nums,VOk x) (hst:st<nums.length) (hlo:lowG r.out≤st) :
 (0≤numA r true nums st∧numA r true nums st≤1000000000)∧zhA r true (nums.set st (numA r true nums st)) st=true∧(numA r true nums st<1000000000→zhA r true (nums.set st (numA r true nums st+1)) st=false):=by
 obtain⟨g1,g2,g3,g4⟩:=srch_spec (fun k=>!zhA r true (nums.set st ((k:Int)+1)) st) 0 1000000000 (by omega) fun a b q1 q2 q3 q4=>by
  simp only[Bool.not_eq_true'] at q4 ⊢
  cases hb:zhA r true (nums.set st ((b:Int)+1)) st
  ·rfl
  ·have:=holds_down hr hn hst hlo (a:=(a:Int)+1) (by omega) (by omega) (by omega) hb
   rw[q4] at this;cases this
 unfold numA
 simp only[if_true]
 generalize srch (fun k=>!zhA r true (nums.set st ((k:Int)+1)) st) 0 1000000000=k at *
 refine⟨by omega,?_,fun h=>?_⟩
 ·by_cases hk:k=0
  ·subst hk
   have hv:=valA_le hr (s:=true) (set_vok hn st (n:=0) (.inl ⟨by omega,by omega⟩)) (own:=0) (.inl ⟨by omega,by omega⟩) 3 st
   show zhA r true (nums.set st 0) st=true
   unfold zhA
   simp only[if_true,getD_set hst];rw[decide_eq_true_eq]
   omega
  ·have:=g3 (k-1) (by omega) (by omega)
   have e:((k-1:Nat):Int)+1=(k:Int):=by omega
   simp only[e,Bool.not_eq_false'] at this
   exact this
 ·have:=g4 (by omega)
  simpa using this
theorem tabA_pre {r:Rk}(s:Bool) (i:Nat) (x:Nat) (hx:x≤(lowG r.out).toNat+i):∀ m,(tabA r s (i+1+m)).getD x 0=(tabA r s (i+1)).getD x 0
 | 0=>rfl
 | m+1=>by
   rw[← tabA_pre s i x hx m]
   show ((tabA r s (i+1+m)).set ((lowG r.out).toNat+(i+1+m)) _).getD x 0=_
   rw[List.getD_eq_getElem?_getD,List.getElem?_set_ne (by omega),← List.getD_eq_getElem?_getD]
theorem tabT_at {r:Rk}(hr:ROk r) (s:Bool) {st:Nat}(h1:lowG r.out≤st) (h2:(st:Int)≤r.start):∃ nums:List Int,(∀ x∈nums,VOk x)∧st<nums.length∧(tabT r s).getD st 0=numA r s nums st∧(∀ v,∀ x,x≤st→((tabT r s).set st v).getD x 0=(nums.set st v).getD x 0) ∧
 (∀ x,x≤st→(tabT r s).getD x 0=(nums.set st (numA r s nums st)).getD x 0):=by
 have hl:=lowG_le r.out
 obtain⟨i,hi⟩:∃ i,st=(lowG r.out).toNat+i:=⟨st-(lowG r.out).toNat,by omega⟩
 have hic:i<cntA r:=by unfold cntA;omega
 obtain⟨_,e2,e3⟩:=tab_eq hr s i (by omega)
 obtain⟨_,f2,f3⟩:=tab_eq hr s (cntA r) (Nat.le_refl _)
 have hlen:st<(tabA r s i).length:=by rw[e2];omega
 obtain⟨m,hm⟩:∃ m,cntA r=i+1+m:=⟨cntA r-(i+1),by omega⟩
 have hpre:=fun x (hx:x≤st)=>tabA_pre (r:=r) s i x (by omega) m
 rw[← hm] at hpre
 have hsu:tabA r s (i+1)=(tabA r s i).set st (numA r s (tabA r s i) st):=by rw[hi];rfl
 rw[hsu] at hpre
 have hlT:st<(tabT r s).length:=by unfold tabT;rw[f2];omega
 refine⟨tabA r s i,e3,hlen,?_,fun v x hx=>?_,hpre⟩
 ·have:=hpre st (Nat.le_refl _)
  rw[getD_set hlen,if_pos rfl] at this
  exact this
 ·rw[getD_set hlT,getD_set hlen]
  split
  ·rfl
  ·rename_i hne
   have:=hpre x hx
   rw[getD_set hlen,if_neg hne] at this
   exact this
theorem tabT_holds {r:Rk}(hr:ROk r) (s:Bool) {st:Nat}(h1:lowG r.out≤st) (h2:(st:Int)≤r.start):zhA r s (tabT r s) st=true:=by
 obtain⟨nums,hn,hst,g1,g2,g3⟩:=tabT_at hr s h1 h2
 rw[holds_cg hr h1 g3]
 cases s
 ·rcases numA_false hr hn hst h1 with h|⟨_,h,_⟩
  ·rw[h]
   unfold zhA
   simp only[Bool.false_eq_true,if_false,getD_set hst,if_true,decide_true,Bool.or_true]
  ·exact h
 ·exact (numA_true hr hn hst h1).2.1
theorem tabT_less {r:Rk}(hr:ROk r) {st:Nat}(h1:lowG r.out≤st) (h2:(st:Int)≤r.start) (hne:(tabT r false).getD st 0≠2000000000):(1000000≤(tabT r false).getD st 0∧(tabT r false).getD st 0≤1000000000)∧zhA r false ((tabT r false).set st ((tabT r false).getD st 0-1)) st=false:=by
 obtain⟨nums,hn,hst,g1,g2,g3⟩:=tabT_at hr false h1 h2
 rw[holds_cg hr h1 (g2 _),g1]
 rw[g1] at hne
 rcases numA_false hr hn hst h1 with h|⟨h,_,h'⟩
 ·exact absurd h hne
 ·exact⟨h,h'⟩
theorem tabT_more {r:Rk}(hr:ROk r) {st:Nat}(h1:lowG r.out≤st) (h2:(st:Int)≤r.start):(0≤(tabT r true).getD st 0∧(tabT r true).getD st 0≤1000000000)∧((tabT r true).getD st 0<1000000000→zhA r true ((tabT r true).set st ((tabT r true).getD st 0+1)) st=false):=by
 obtain⟨nums,hn,hst,g1,g2,g3⟩:=tabT_at hr true h1 h2
 rw[holds_cg hr h1 (g2 _),g1]
 obtain⟨a,b,c⟩:=numA_true hr hn hst h1
 exact⟨a,c⟩
theorem tabT_len {r:Rk}(hr:ROk r) (s:Bool):((tabT r s).length:Int)=r.start+1:=by
 have:=(tab_eq hr s (cntA r) (Nat.le_refl _)).2.1
 have hs:=hr.start
 unfold tabT;rw[this];omega
structure NarT (d:Int) (l l':List Bd):Prop where
 len:l'.length=l.length
 bed:∀ i,i<l.length→(bAt l' i).b=(bAt l i).b
 truth:∀ {y:List Int},TruthN d l' y→TruthN d l y
 can:∀ {i:Nat},i<l.length→canA l' i d≤canA l i d
end Go.Proofs.YtgfbenanljjgaaaGreat.Du.Th.Ai

namespace Go.Proofs.YtgfbenanljjgaaaGreat.Du
open Go Go.Oc
set_option maxRecDepth 8000
abbrev Sp:=Int × Int
def spanR (x:Int × Int):List RV:=[i64 x.1,i64 x.2]
abbrev spanV (x:Int × Int):RV:=.ag [i64 x.1,i64 x.2]
abbrev spansR (l:List (Int × Int)):RV:=.sl 2 (l.map spanR)
structure Ru where
 d:Int
 aims:List Am
 start:Int
 out:Int
 ends:List (Int × Int)
abbrev ruC (r:Ru):List RV:=[i64 r.d,aimsR r.aims,i64 r.start,i64 r.out,spansR r.ends]
abbrev ruV (r:Ru):RV:=.ag (ruC r)
theorem indexS_ok (p:(Int × Int)→Bool) (f:Nat) (caps:List RV) (l:List (Int × Int)) (h:∀ x∈l,ACalls Tryz.prog f (spanV x::caps) (.bo (p x))):ACalls Tryz.prog 162 [spansR l,.fn f caps] (i64 (indexF p l)):=by
 refine zas (rs:=[i64 (indexF p l)]) [.tmp 4] Tryz.func162 rfl (by kernel_rfl) Tryz.ntmps162 rfl (by simp) rfl fun C vs=>?_
 apply zq
 refine zb fun K hK=>?_;simp only[go_sem];apply hK
 repeat apply zq
 refine zb fun K hK=>?_;simp only[go_sem]
 intro hl
 apply hK;apply zd
 refine zup (n:=19) l.length (fun i vs=>[(0,.r (spansR l)),(1,.r (.fn f caps)),(7,.r (i64 l.length)),(8,.r (i64 i))]) (fun _=>[])
  (fun i=>indexF p l=if indexF p (l.drop i)<0 then -1 else i+indexF p (l.drop i)) 0 (zfo [] ?_ rfl) (Nat.zero_le _) ?_ ?_
 ·try simp only[go_sem]
 ·simp only[List.drop_zero]
  have:=indexF_ge p l
  split
  ·omega
  ·simp
 ·intro i vs hi hI
  apply zq
  refine zb fun K hK=>?_;simp only[go_sem];apply hK
  apply zq
  apply zc rfl<;>intro hc<;>(try simp only[go_sem] at hc)
  ·obtain⟨x,hx⟩:=zol hc
   rw[drop_of_opt hx] at hI
   apply zx
   apply zq
   apply zd
   apply zq
   refine zb fun K hK=>?_;simp only[go_sem];apply hK
   apply zq
   refine zb fun K hK=>?_;simp only[go_sem,hx,hc,spanR]
   refine zh (h x (zmo hx)) rfl (by simp only[go_sem,i64,ints]) (by simp only[go_sem,i64,ints]) ?_
   (try simp only[go_sem]);apply hK
   apply zc rfl<;>intro hc<;>(try simp only[go_sem] at hc)
   ·apply zq
    refine zb fun K hK=>?_;simp only[go_sem];apply hK;apply ze;simp only[go_sem]
    simp [hI,indexF,hc]
   ·apply zx
    try simp only[go_sem]
    refine zb fun K hK=>?_;simp only[go_sem];(try simp (disch:=omega) only[zI]);apply hK
    try simp only[go_sem]
    refine⟨‹_›,?_,zfo [] ?_ rfl⟩
    ·rw[hI]
     simp only[indexF,hc,Bool.false_eq_true,if_false]
     have:=indexF_ge p (l.drop (i+1))
     (repeat' split)<;>omega
    ·try simp only[go_sem]
  ·apply zf;simp only[go_sem]
   apply zq
   refine zb fun K hK=>?_;simp only[go_sem];apply hK;apply ze;simp only[go_sem]
   have:l.drop i=[]:=List.drop_eq_nil_of_le (by omega)
   simp [hI,this,indexF]
theorem containsS_ok (p:(Int × Int)→Bool) (f:Nat) (caps:List RV) (l:List (Int × Int)) (h:∀ x∈l,ACalls Tryz.prog f (spanV x::caps) (.bo (p x))):ACalls Tryz.prog 126 [spansR l,.fn f caps] (.bo (l.any p)):=by
 refine zas (rs:=[.bo (l.any p)]) [.tmp 4] Tryz.func126 rfl (by kernel_rfl) Tryz.ntmps126 rfl (by simp) rfl fun C vs=>?_
 apply zq
 refine zb fun K hK=>?_;simp only[go_sem];apply hK
 apply zq
 refine zb fun K hK=>?_;simp only[go_sem]
 refine zh (indexS_ok p f caps l h) rfl (by simp only[go_sem,i64,ints]) (by simp only[go_sem,i64,ints]) ?_
 (try simp only[go_sem]);apply hK;apply ze;simp only[go_sem];rw[← indexF_any]
theorem dwithin1_ok (n a b:Int):ACalls Tryz.prog 161 [i64 n,.rp [i64 a],.rp [i64 b]] (.bo (decide (n<a) || decide (b<n))):=by
 refine zas (rs:=[.bo (decide (n<a) || decide (b<n))]) [.tmp 4] Tryz.func161 rfl (by kernel_rfl) Tryz.ntmps161 rfl (by simp) rfl fun C vs=>?_
 apply zq
 refine zb fun K hK=>?_;simp only[go_sem];apply hK
 apply zq
 refine zb fun K hK=>?_;simp only[go_sem]
 refine⟨fun h=>?_,fun h=>?_⟩ <;>
 ·skip
  apply hK;apply ze;simp only[go_sem]
  try simp [h]
theorem dwithin_ok (a b:Int) (l:List Int):ACalls Tryz.prog 125 [i64 a,i64 b,ints l] (.bo (withinL a b l)):=by
 refine zas (rs:=[.bo (withinL a b l)]) [.tmp 6] Tryz.func125 rfl (by kernel_rfl) Tryz.ntmps125 rfl (by simp) rfl fun C vs=>?_
 apply zq
 refine zb fun K hK=>?_;simp only[go_sem];apply hK
 apply zq
 refine zb fun K hK=>?_;simp only[go_sem]
 refine zh (contains_ok (fun n=>decide (n<a) || decide (b<n)) 161 [.rp [i64 a],.rp [i64 b]] l fun x _=>dwithin1_ok x a b) rfl (by simp only[go_sem,i64,ints]) (by simp only[go_sem,i64,ints]) ?_
 (try simp only[go_sem]);apply hK;apply ze;simp only[go_sem];rw[← withinL_not]
def endOk (x:Int × Int):Bool:=decide (x.1≤x.2)&&withinL 0 1000000 [x.1,x.2]
theorem isEnd_ok (x:Int × Int):ACalls Tryz.prog 124 [spanV x] (.bo (endOk x)):=by
 refine zas (rs:=[.bo (endOk x)]) [.tmp 2] Tryz.func124 rfl (by kernel_rfl) Tryz.ntmps124 rfl (by simp) rfl fun C vs=>?_
 apply zq
 refine zb fun K hK=>?_;simp only[go_sem];apply hK;refine zw (zfP 1 1 [i64 x.1,i64 x.2] (by omega) rfl rfl) ?_;apply zw (zk [1]);simp only[go_sem]
 by_cases h:x.1≤x.2
 ·have c:decide (x.1≤x.2)=true:=by simpa using h
  apply zq
  refine zb fun K hK=>?_;simp only[go_sem,c]
  refine zh (dwithin_ok 0 1000000 [x.1,x.2]) rfl (by simp only[go_sem,i64,ints]) (by simp only[go_sem,i64,ints]) ?_
  (try simp only[go_sem]);apply hK;apply zw (zk [2]);simp only[go_sem];apply ze;simp only[go_sem]
  simp [endOk,h]
 ·have c:decide (x.1≤x.2)=false:=by simpa using h
  apply zq
  refine zb fun K hK=>?_;simp only[go_sem,c];apply hK;apply zw (zk [2]);simp only[go_sem];apply ze;simp only[go_sem]
  simp [endOk,h]
theorem bad_ok (x:Int × Int):ACalls Tryz.prog 123 [spanV x] (.bo (!endOk x)):=by
 refine zas (rs:=[.bo (!endOk x)]) [.tmp 2] Tryz.func123 rfl (by kernel_rfl) Tryz.ntmps123 rfl (by simp) rfl fun C vs=>?_
 apply zq
 refine zb fun K hK=>?_;simp only[go_sem];apply hK;refine zw (zfP 1 1 [i64 x.1,i64 x.2] (by omega) rfl rfl) ?_;apply zw (zk [1]);simp only[go_sem]
 apply zq
 refine zb fun K hK=>?_;simp only[go_sem]
 refine zh (isEnd_ok x) rfl (by simp only[go_sem,i64,ints]) (by simp only[go_sem,i64,ints]) ?_
 (try simp only[go_sem]);apply hK;apply zw (zk [2]);simp only[go_sem];apply ze;simp only[go_sem]
def lowestR (r:Ru):Int:=if r.out=0 then 1 else 2
def lastE (r:Ru):Int:=(r.ends.getD (r.ends.length-1) (0,0)).1
def ruE (r:Ru):Int :=
 if checkV r.d r.aims≠0 then checkV r.d r.aims
 else if (decide (2≤r.start)&&decide (r.start≤40)&&decide (0≤r.out)&&decide (r.out≤2)&&decide (1≤r.ends.length)&&decide (r.ends.length≤10)&&r.ends.all endOk&&decide (lastE r=1000000))=true then 0 else 2
theorem within1L (a b n:Int):withinL a b [n]=(decide (a≤n)&&decide (n≤b)):=by simp [withinL]
structure WfR (r:Ru):Prop where
 law:WfL r.d r.aims
theorem dcheck_ok (r:Ru) (hw:WfR r):ACalls Tryz.prog 87 [ruV r] (i64 (ruE r)):=by
 have hc:=check_ok r.d r.aims hw.law
 refine zas (rs:=[i64 (ruE r)]) [.tmp 2] Tryz.func87 rfl (by kernel_rfl) Tryz.ntmps87 rfl (by simp) rfl fun C vs=>?_
 apply zq
 refine zb fun K hK=>?_;simp only[go_sem];apply hK;refine zw (zfP 1 1 (ruC r) (by omega) rfl rfl) ?_;apply zw (zk [1]);simp only[go_sem]
 repeat apply zq
 refine zb fun K hK=>?_;simp only[go_sem]
 refine zh (hc) rfl (by simp only[go_sem,i64,ints]) (by simp only[go_sem,i64,ints]) ?_
 (try simp only[go_sem]);apply hK;apply zw (zk [1,3]);simp only[go_sem]
 by_cases h0:checkV r.d r.aims=0
 rotate_left
 ·have c:(checkV r.d r.aims != 0)=true:=by simpa using h0
  have e:ruE r=checkV r.d r.aims:=by simp [ruE,h0]
  apply zq
  refine zb fun K hK=>?_;simp only[go_sem,c];apply hK;apply zw (zk [1,3,9]);simp only[go_sem]
  apply zc rfl<;>intro hc<;>(try simp only[go_sem] at hc)
  apply zq
  refine zb fun K hK=>?_;simp only[go_sem];apply hK;apply zw (zk [2]);simp only[go_sem];apply ze;simp only[go_sem];rw[e]
 rw[h0]
 apply zq
 refine zb fun K hK=>?_;simp only[go_sem,bne_self_eq_false];apply hK;apply zw (zk [1,3,9]);simp only[go_sem]
 apply zc rfl<;>intro hc<;>(try simp only[go_sem] at hc)
 apply zx
 try simp only[go_sem]
 apply zq
 refine zb fun K hK=>?_;simp only[go_sem];apply hK;apply zw (zk [1,4]);simp only[go_sem]
 repeat apply zq
 refine zaj (n:=49) (fun (b:Bool) vs=>[(48,.r (.bo b))]) (fun _=>[]) (fun b=>ruE r=if b then 2 else 0) (fun _ h=>h) ?_ ?_
 ·have w1:=dwithin_ok 2 40 [r.start]
  have w2:=dwithin_ok 0 2 [r.out]
  have w3:=dwithin_ok 1 10 [(r.ends.length:Int)]
  have w4:=containsS_ok (fun x=>!endOk x) 123 [] r.ends fun x _=>bad_ok x
  rw[within1L] at w1 w2 w3
  cases b1:(decide (2≤r.start)&&decide (r.start≤40))
  ·rw[b1] at w1
   refine zb fun K hK=>?_;simp only[go_sem]
   refine zh (w1) rfl (by simp only[go_sem,i64,ints]) (by simp only[go_sem,i64,ints]) ?_
   (try simp only[go_sem]);apply hK
   try simp only[go_sem]
   exact⟨true,by simp [ruE,h0,b1],zfo [] (by try simp only[go_sem]) (by try simp only[go_sem])⟩
  rw[b1] at w1
  cases b2:(decide (0≤r.out)&&decide (r.out≤2))
  ·rw[b2] at w2
   refine zb fun K hK=>?_;simp only[go_sem]
   refine zh (w1) rfl (by simp only[go_sem,i64,ints]) (by simp only[go_sem,i64,ints]) ?_
   (try simp only[go_sem])
   refine zh (w2) rfl (by simp only[go_sem,i64,ints]) (by simp only[go_sem,i64,ints]) ?_
   (try simp only[go_sem]);apply hK
   try simp only[go_sem]
   exact⟨true,by simp only[ruE,h0];simp_all;omega,zfo [] (by try simp only[go_sem]) (by try simp only[go_sem])⟩
  rw[b2] at w2
  cases b3:(decide (1≤(r.ends.length:Int))&&decide ((r.ends.length:Int)≤10))
  ·rw[b3] at w3
   refine zb fun K hK=>?_;simp only[go_sem]
   refine zh (w1) rfl (by simp only[go_sem,i64,ints]) (by simp only[go_sem,i64,ints]) ?_
   (try simp only[go_sem])
   refine zh (w2) rfl (by simp only[go_sem,i64,ints]) (by simp only[go_sem,i64,ints]) ?_
   (try simp only[go_sem])
   intros
   refine zh (w3) rfl (by simp only[go_sem,i64,ints]) (by simp only[go_sem,i64,ints]) ?_
   (try simp only[go_sem]);apply hK
   try simp only[go_sem]
   exact⟨true,by simp only[ruE,h0];simp_all;omega,zfo [] (by try simp only[go_sem]) (by try simp only[go_sem])⟩
  rw[b3] at w3
  cases b4:(r.ends.any fun x=>!endOk x)
  rotate_left
  ·rw[b4] at w4
   have e4:r.ends.all endOk=false:=by
    rw[List.any_eq_true] at b4
    obtain⟨x,hx,h⟩:=b4
    exact Bool.eq_false_iff.2 fun h2=>by
     have:=List.all_eq_true.1 h2 x hx
     rw[this] at h;cases h
   refine zb fun K hK=>?_;simp only[go_sem]
   refine zh (w1) rfl (by simp only[go_sem,i64,ints]) (by simp only[go_sem,i64,ints]) ?_
   (try simp only[go_sem])
   refine zh (w2) rfl (by simp only[go_sem,i64,ints]) (by simp only[go_sem,i64,ints]) ?_
   (try simp only[go_sem])
   intros
   refine zh (w3) rfl (by simp only[go_sem,i64,ints]) (by simp only[go_sem,i64,ints]) ?_
   (try simp only[go_sem])
   refine zh (w4) rfl (by simp only[go_sem,i64,ints]) (by simp only[go_sem,i64,ints]) ?_
   (try simp only[go_sem]);apply hK
   try simp only[go_sem]
   exact⟨true,by simp [ruE,h0,e4],zfo [] (by try simp only[go_sem]) (by try simp only[go_sem])⟩
  rw[b4] at w4
  have e4:r.ends.all endOk=true:=by
   rw[List.all_eq_true]
   intro x hx
   have:=List.any_eq_false.1 b4 x hx
   simpa using this
  have hpos:1≤r.ends.length:=by
   simp only[Bool.and_eq_true,decide_eq_true_eq] at b3;omega
  have h10:r.ends.length≤10:=by
   simp only[Bool.and_eq_true,decide_eq_true_eq] at b3;omega
  obtain⟨x,hx⟩:=zol (l:=r.ends) (i:=r.ends.length-1) (by omega)
  have hl:lastE r=x.1:=by simp [lastE,List.getD_eq_getElem?_getD,hx]
  have hsb:IntKind.i64.wrap ((r.ends.length:Int)-1)=((r.ends.length-1:Nat):Int):=by rw[zI]<;>omega
  have hlt:r.ends.length-1<r.ends.length:=by omega
  refine zb fun K hK=>?_;simp only[go_sem]
  refine zh (w1) rfl (by simp only[go_sem,i64,ints]) (by simp only[go_sem,i64,ints]) ?_
  (try simp only[go_sem])
  refine zh (w2) rfl (by simp only[go_sem,i64,ints]) (by simp only[go_sem,i64,ints]) ?_
  (try simp only[go_sem])
  intros
  refine zh (w3) rfl (by simp only[go_sem,i64,ints]) (by simp only[go_sem,i64,ints]) ?_
  (try simp only[go_sem])
  refine zh (w4) rfl (by simp only[go_sem,i64,ints,hsb,hx,hlt,spanR]) (by simp only[go_sem,i64,ints,hsb,hx,hlt,spanR]) ?_
  (try simp only[go_sem,hsb,hx,hlt,spanR])
  intros
  apply hK
  try simp only[go_sem]
  refine⟨x.1 != 1000000,?_,zfo [] (by try simp only[go_sem]) (by try simp only[go_sem])⟩
  have b3':(decide (1≤r.ends.length)&&decide (r.ends.length≤10))=true:=by simp;omega
  simp only[Bool.and_eq_true,decide_eq_true_eq] at b1 b2
  unfold ruE
  rw[if_neg (by simp [h0]),hl,e4]
  by_cases q:x.1=1000000
  ·simp [q,b1,b2,hpos,h10]
  ·simp [q]
 intro b vs hb
 cases b
 ·skip
  apply zc rfl<;>intro hc<;>(try simp only[go_sem] at hc)
  apply zx
  try simp only[go_sem]
  apply zq
  refine zb fun K hK=>?_;simp only[go_sem];apply hK;apply zw (zk [2]);simp only[go_sem];apply ze;simp only[go_sem]
  rw[hb];rfl
 ·skip
  apply zc rfl<;>intro hc<;>(try simp only[go_sem] at hc)
  apply zq
  refine zb fun K hK=>?_;simp only[go_sem];apply hK;apply zw (zk [2]);simp only[go_sem];apply ze;simp only[go_sem]
  rw[hb];rfl
set_option maxHeartbeats 4000000
theorem dlowest_ok (r:Ru):ACalls Tryz.prog 128 [ruV r] (i64 (lowestR r)):=by
 refine zas (rs:=[i64 (lowestR r)]) [.tmp 2] Tryz.func128 rfl (by kernel_rfl) Tryz.ntmps128 rfl (by simp) rfl fun C vs=>?_
 repeat apply zq
 refine zb fun K hK=>?_;simp only[go_sem];(try simp (disch:=omega) only[zI]);repeat first|intro _|refine⟨by omega,?_⟩
 apply hK;refine zw (zfP 1 1 (ruC r) (by omega) rfl rfl) ?_;apply zw (zk [1]);simp only[go_sem]
 by_cases h:r.out=0
 ·have c:(r.out == 0)=true:=by simpa using h
  repeat apply zq
  refine zb fun K hK=>?_;simp only[go_sem,c];(try simp (disch:=omega) only[zI]);repeat first|intro _|refine⟨by omega,?_⟩
  apply hK;apply zw (zk [1,6]);simp only[go_sem]
  repeat apply zq
  apply zc rfl<;>intro hc<;>(try simp only[go_sem] at hc)
  repeat apply zq
  refine zb fun K hK=>?_;simp only[go_sem];(try simp (disch:=omega) only[zI]);repeat first|intro _|refine⟨by omega,?_⟩
  apply hK;apply zw (zk [2]);simp only[go_sem];apply ze;simp only[go_sem]
  simp [lowestR,h]
 ·have c:(r.out == 0)=false:=by simpa using h
  repeat apply zq
  refine zb fun K hK=>?_;simp only[go_sem,c];(try simp (disch:=omega) only[zI]);repeat first|intro _|refine⟨by omega,?_⟩
  apply hK;apply zw (zk [1,6]);simp only[go_sem]
  repeat apply zq
  apply zc rfl<;>intro hc<;>(try simp only[go_sem] at hc)
  apply zx
  try simp only[go_sem]
  repeat apply zq
  refine zb fun K hK=>?_;simp only[go_sem];(try simp (disch:=omega) only[zI]);repeat first|intro _|refine⟨by omega,?_⟩
  apply hK;apply zw (zk [2]);simp only[go_sem];apply ze;simp only[go_sem]
  simp [lowestR,h]
end Go.Proofs.YtgfbenanljjgaaaGreat.Du

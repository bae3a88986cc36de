/- Part 9 of the texts of this claim. -/
import Derived.Test.YtgfbenanljjgaaaGreatVE8
import Derived.Test.YtgfbenanljjgaaaGreatVE7
import Derived.Test.YtgfbenanljjgaaaGreatVE6
set_option linter.unusedSimpArgs false
set_option linter.unusedVariables false
namespace Go.Proofs.YtgfbenanljjgaaaGreat.Du.Th.Ai
open Go Go.Oc
set_option maxRecDepth 8000
set_option maxHeartbeats 4000000
theorem VsOk.set {r:Rk}{s:Bool}{nums:List Int}{st:Nat}(h:VsOk r s nums st) {n:Int}(hn:VOk n):VsOk r s (nums.set st n) st:=⟨h.ok,by simp [h.len],zDq h.nums st hn,h.lo,h.hi⟩
theorem VsOk.setO {r:Rk}{s:Bool}{nums:List Int}{st:Nat}(h:VsOk r s nums st) {m:Nat→Int}{N:Nat}(hm:∀ k,k<N→VOk (m k)):∀ o:Option Nat,(∀ q,o=some q→q<N)→VsOk r s (setO nums st m o) st
 | none,_=>h
 | some k,hq=>h.set (hm k (hq k rfl))
theorem zLR (f:Nat→Bool) (i j:Nat) (h:i≤j):srch f i j≤j:=by
 rw[srch]
 split
 ·rename_i hlt
  split
  ·have:=zLR f i ((i+j) / 2) (by omega);omega
  ·exact zLR f ((i+j) / 2+1) j (by omega)
 ·exact h
termination_by j-i
decreasing_by all_goals omega
abbrev zUL (r:Rk) (s:Bool) (nums:List Int):List (Nat × RowC):=[(1000,.box (zTe r s nums.length)),(1001,.arr 3 1 (arrV nums))]
theorem zUK {r:Rk}{s:Bool}{nums:List Int}{st:Nat}(h:VsOk r s nums st) :
 zA6 Tryz.prog 86 (zUL r s nums) (zUL r s (nums.set st (numA r s nums st))) [.pt 1000 0 0,.r (i64 (st:Int))] (.tu []):=by
 have hst:=h.ok.start
 have hst2:=h.hi
 have hlg:=zBW r.out
 have hlo:=h.lo
 have hnl:st<nums.length:=by rw[h.len];omega
 have hD:=zJo (r:=r) (s:=s) (nums:=nums) (st:=st) (F:=121) 1000000000 (by omega) (fun k=>!zhA r s (nums.set st ((k:Int)+1)) st) (fun k=>(k:Int)+1) (fun o k hq hk=>by
  have:=zUQ (h.setO (m:=fun k=>(k:Int)+1) (N:=1000000000) (fun k hk=>.inl ⟨by omega,by omega⟩) o hq) k hk
  rw[zGJ] at this
  exact this)
 have hU:=zJo (r:=r) (s:=s) (nums:=nums) (st:=st) (F:=122) 999000001 (by omega) (fun k=>zhA r s (nums.set st (1000000+(k:Int))) st) (fun k=>1000000+(k:Int)) (fun o k hq hk=>by
  have:=zVY (h.setO (m:=fun k=>1000000+(k:Int)) (N:=999000001) (fun k hk=>.inl ⟨by omega,by omega⟩) o hq) k hk
  rw[zGJ] at this
  exact this)
 refine zAd (n:=46) (rs:=[]) _ _ [] Tryz.func86 rfl (by kernel_rfl) Tryz.ntmps86 rfl (by simp) rfl rfl fun C=>?_
 apply zq
 refine zb fun K hK=>?_;simp only[go_sem];apply hK;refine zw (zfP 3 3 [i64 (st:Int)] (by omega) rfl rfl) ?_;apply zw (zk [2,3]);simp only[go_sem]
 apply zq
 refine zb fun K hK=>?_;simp only[go_sem];apply hK;apply zw (zk [2,3,4]);simp only[go_sem]
 repeat apply zq
 refine zb fun K hK=>?_;simp only[go_sem];apply hK;apply zw (zk [2,3,4,12]);simp only[go_sem]
 cases s
 ·skip
  apply zc rfl<;>intro hc<;>(try simp only[go_sem] at hc)
  apply zx
  try simp only[go_sem]
  have hA:numA r false nums st=if 1000000000<1000000+((srch (fun k=>zhA r false (nums.set st (1000000+(k:Int))) st) 0 999000001:Nat):Int) then 2000000000 else 1000000+((srch (fun k=>zhA r false (nums.set st (1000000+(k:Int))) st) 0 999000001:Nat):Int):=by unfold numA;rfl
  have hsb:=zLR (fun k=>zhA r false (nums.set st (1000000+(k:Int))) st) 0 999000001 (by omega)
  rw[hA]
  apply zq
  refine zb fun K hK=>?_;simp only[go_sem]
  refine zAW (hU) [(1000,1000),(1001,1001),(1002,2),(1003,4)] rfl (by simp only[go_sem,i64,ints]) (by simp only[go_sem,i64,ints]) (by rfl) (by rfl) ?_
  (try simp only[go_sem]);apply hK
  have hNl:=zMs nums st (fun k=>1000000+(k:Int)) (zB8 (fun k=>zhA r false (nums.set st (1000000+(k:Int))) st) 0 999000001 none)
  have hNs:=zGJ nums st (fun k=>1000000+(k:Int)) (zB8 (fun k=>zhA r false (nums.set st (1000000+(k:Int))) st) 0 999000001 none)
  generalize srch (fun k=>zhA r false (nums.set st (1000000+(k:Int))) st) 0 999000001=n at *
  generalize setO nums st (fun k=>1000000+(k:Int)) (zB8 (fun k=>zhA r false (nums.set st (1000000+(k:Int))) st) 0 999000001 none)=N1 at *
  have hN1:st<N1.length:=by omega
  obtain⟨y,hy⟩:=zol hN1
  have w1:IntKind.i64.wrap (1000000+(n:Int))=1000000+(n:Int):=by rw[zI]<;>omega
  have hset:∀ v:Int,(arrV N1).set st [RV.it IntKind.i64 v]=arrV (nums.set st v):=fun v=>by rw[← hNs v];exact (zEO N1 st v).symm
  apply zw (zk [2,3,6]);simp only[go_sem]
  apply zq
  refine zAF [(2,some 2),(3,none),(6,none)] follows (by decide +kernel) (by kernel_rfl) (by simp only[zAO,List.mem_cons,List.not_mem_nil,forall_eq_or_imp,Oc.keyOf,go_sem];simp) fun K hK=>?_
  simp only[go_sem,hy,hN1,w1,List.length_map];apply hK;rw[hset,hNl]
  have hlen2:(nums.set st (1000000+(n:Int))).length=nums.length:=by simp
  have hget2:(nums.set st (1000000+(n:Int)))[st]? = some (1000000+(n:Int)):=by rw[List.getElem?_set_self hnl]
  have hss2:∀ v:Int,(arrV (nums.set st (1000000+(n:Int)))).set st [RV.it IntKind.i64 v]=arrV (nums.set st v):=fun v=>by
   have:=(zEO (nums.set st (1000000+(n:Int))) st v).symm
   rw[List.set_set] at this
   exact this
  generalize hM:nums.set st (1000000+(n:Int))=M at *
  have hMl:st<M.length:=by omega
  apply zw (zk [2,3]);simp only[go_sem]
  apply zq
  refine zAF [(2,some 2),(3,none)] follows (by decide +kernel) (by kernel_rfl) (by simp only[zAO,List.mem_cons,List.not_mem_nil,forall_eq_or_imp,Oc.keyOf,go_sem];simp) fun K hK=>?_
  simp only[go_sem,hget2,hMl,List.length_map]
  refine⟨by omega,?_⟩
  apply hK;apply zw (zk [2,3,39]);simp only[go_sem]
  by_cases hbig:1000000000<1000000+(n:Int)
  ·rw[if_pos hbig]
   apply zc rfl<;>intro hc<;>(try simp only[go_sem] at hc)
   ·skip
    refine zAF [(2,some 2),(3,none)] follows (by decide +kernel) (by kernel_rfl) (by simp only[zAO,List.mem_cons,List.not_mem_nil,forall_eq_or_imp,Oc.keyOf,go_sem];simp) fun K hK=>?_
    simp only[go_sem,hget2,hMl,List.length_map]
    refine⟨by omega,?_⟩
    apply hK;rw[hss2]
    try simp only[go_sem]
    try simp
   ·exact absurd hbig hc
  ·rw[if_neg hbig]
   apply zc rfl<;>intro hc<;>(try simp only[go_sem] at hc)
   ·exact absurd hc hbig
   ·apply zx
    try simp only[go_sem]
    rw[hM]
    exact⟨by rw[hlen2],rfl⟩
 ·have hss:=(rfl:true=true)
  apply zc rfl<;>intro hc<;>(try simp only[go_sem] at hc)
  ·apply zq
   refine zb fun K hK=>?_;simp only[go_sem]
   refine zAW (hD) [(1000,1000),(1001,1001),(1002,2),(1003,4)] rfl (by simp only[go_sem,i64,ints]) (by simp only[go_sem,i64,ints]) (by rfl) (by rfl) ?_
   (try simp only[go_sem]);apply hK
   have hNl:=zMs nums st (fun k=>(k:Int)+1) (zB8 (fun k=>!zhA r true (nums.set st ((k:Int)+1)) st) 0 1000000000 none)
   have hNs:=zGJ nums st (fun k=>(k:Int)+1) (zB8 (fun k=>!zhA r true (nums.set st ((k:Int)+1)) st) 0 1000000000 none)
   have hA:numA r true nums st=((srch (fun k=>!zhA r true (nums.set st ((k:Int)+1)) st) 0 1000000000:Nat):Int):=by unfold numA;rfl
   rw[hA]
   generalize srch (fun k=>!zhA r true (nums.set st ((k:Int)+1)) st) 0 1000000000=n at *
   generalize setO nums st (fun k=>(k:Int)+1) (zB8 (fun k=>!zhA r true (nums.set st ((k:Int)+1)) st) 0 1000000000 none)=N1 at *
   have hN1:st<N1.length:=by omega
   obtain⟨y,hy⟩:=zol hN1
   have hset:∀ v:Int,(arrV N1).set st [RV.it IntKind.i64 v]=arrV (nums.set st v):=fun v=>by rw[← hNs v];exact (zEO N1 st v).symm
   apply zw (zk [2,3,5]);simp only[go_sem]
   apply zq
   refine zAF [(2,some 2),(3,none),(5,none)] follows (by decide +kernel) (by kernel_rfl) (by simp only[zAO,List.mem_cons,List.not_mem_nil,forall_eq_or_imp,Oc.keyOf,go_sem];simp) fun K hK=>?_
   simp only[go_sem,hy,hN1,List.length_map];apply hK;rw[hset,hNl]
   apply zw (zk [2]);simp only[go_sem];apply ze;simp only[go_sem]
   try simp
  ·exact absurd rfl hc
def zBH (r:Rk):Int:=if zAe r.d r.aims=0 then (if (2≤r.start∧r.start≤60)∧0≤r.out∧r.out≤2 then 0 else 2) else zAe r.d r.aims
theorem zJn:∀ (l:List Bd) (p:Option Int),zCK p l=true→∀ c∈l,c.b=0∨zAb c.b=true
 | [],_,_=>fun c hc=>by cases hc
 | x::l, p, h=>fun c hc=>by
   simp only[zCK,Bool.and_eq_true,Bool.or_eq_true,decide_eq_true_eq] at h
   rcases List.mem_cons.1 hc with rfl|hc
   ·exact h.1.1
   ·exact zJn l _ h.2 c hc
theorem zDb {r:Rk}(h:zBH r=0):zAe r.d r.aims=0∧ROk r:=by
 have hc:zAe r.d r.aims=0:=by
  by_cases hc:zAe r.d r.aims=0
  ·exact hc
  ·unfold zBH at h;rw[if_neg hc] at h;exact (hc h).elim
 have hs:(2≤r.start∧r.start≤60)∧0≤r.out∧r.out≤2:=by
  unfold zBH at h
  rw[if_pos hc] at h
  split at h
  ·assumption
  ·cases h
 obtain⟨h1,h2,h3,h4,h5⟩:=zEk hc
 refine⟨hc,fun a ha=>?_,h3,h1,hs.1,hs.2⟩
 obtain⟨g1,g2,g3,g4,g5,g6⟩:=zEm (h5 a ha)
 exact⟨h4,g4,g5,g6,h2 a ha,g2,zJn _ _ g3⟩
abbrev rkR (r:Rk):RV:=.ag [i64 r.d,zAl r.aims,i64 r.start,i64 r.out]
theorem zPW (d:Int) (l:List Bd) (i:Nat) (hi:i<l.length):(bAt (zBj d l) i).hi=canA l i d:=by
 obtain⟨c,hc⟩:=zol hi
 have e:bAt l i=c:=by simp [bAt,List.getD,hc]
 rw[zNs,e]
 unfold zBj bAt
 rw[List.getD_eq_getElem?_getD,List.getElem?_map,hc]
 simp only[Option.map_some,Option.getD_some,zMc]
 omega
end Go.Proofs.YtgfbenanljjgaaaGreat.Du.Th.Ai

namespace Go.Oc
open Go Go.RowKit
def zHP (P:Program) (z:Bool) (F:FuncId) (caps:List RV) (xs:List (List RV)):Prop :=
 callable P F=true∧∀ (w:World) (R:Nat→Prop) (vs:Array Value) (X:XS) (Ψ Θ:Nat→Prop),(∀ b,R b→b<w.heap.size)→RV.relV w R caps vs.toList→X.z=z→(z=false→∀ b,R b→X.R b)→X.n0≤w.heap.size→YOk P X →
  (∀ b,Ψ b→b<w.heap.size)→(∀ b,Θ b→b<w.heap.size)→(∀ b,R b→¬ Θ b)→X.X (some xs) w Ψ Θ →
  Calls P F (vs ++ #[.func (.yield X.l) #[] #[]]) w fun e w'=>(∃ v,e = .returned v)∧(∃ Ψ' Θ',X.X (some []) w' Ψ' Θ'∨X.X none w' Ψ' Θ')
theorem zH8 {P:Program}{z:Bool}{f:FuncId}{fn:Func}{c:Code}{n:Nat}{caps:List RV}{xs:List (List RV)}(hf:P.funcs[f]? = some fn) (hb:fn.body=some c) (hc:callable P f=true) (hn:fn.ntmps=n) (hres:fn.results.toList=[])
 (hargs:caps.length+1≤n) (h:∀ C l,awp P C c (zUC P) (st n (argL 0 (caps++[.yl l])) (fun _=>0) [(999,.gh P l z (some xs))])):zHP P z f caps xs:=by
 refine⟨hc,fun w R vs0 X Ψ Θ hR hV0 hz hzR hn0 hY hΨ hΘ hRΘ hX=>?_⟩
 have hV:RV.relV w R (caps++[.yl X.l]) (vs0 ++ #[Value.func (.yield X.l) #[] #[]]).toList:=by
  rw[Array.toList_append]
  refine RV.relV_append hV0 ?_
  simp only[RV.relV];exact⟨Value.func (.yield X.l) #[] #[],[],by simp,by simp only[RV.rel],rfl⟩
 generalize vs0 ++ #[Value.func (.yield X.l) #[] #[]]=vs at hV
 have hlen:=RV.relV_length hV
 simp only[Array.length_toList,List.length_append,List.length_cons,List.length_nil] at hlen
 let C:Ctx:={ w0:=w,R0:=R,bor:=Θ,pin:=fun _=>none,X:=X }
 let p:Plan:={ R:=R,β:=fun _=>none,γ:=fun _=>1,X:=X,Ψ:=Ψ,Θ:=Θ }
 have hs:SR C p (st n (argL 0 (caps++[.yl X.l])) (fun _=>0) [(999,.gh P X.l z (some xs))]) { tmps:=vs++Array.replicate (fn.ntmps-vs.size) undef,defers:=[] } w:={
  base:=⟨rfl,rfl,rfl,Nat.le_refl _,fun _ _ _ _=>rfl⟩
  r0:=fun _ h=>h
  rn:=fun _ h=>.inl h
  rb:=hR
  tm:=fun t=>by
   show (look (argL 0 (caps++[.yl X.l])) t).rel _ _ _ _
   by_cases hmem:∃ x,(t,x)∈argL 0 (caps++[RV.yl X.l])
   ·cases e:(caps++[RV.yl X.l])[t]? with
    | none =>
      obtain⟨x,hx⟩:=hmem
      obtain⟨i,y,h1,h2⟩:=zB4 _ hx
      simp only[Nat.zero_add,Prod.mk.injEq] at h1
      rw[← h1.1,e] at h2;cases h2
    | some x =>
      obtain⟨u,hu,hx⟩:=RV.relV_get hV e
      have:(vs++Array.replicate (fn.ntmps-vs.size) undef).getD t undef=u:=by
       have ht:t<vs.size:=by have:=(List.getElem?_eq_some_iff.1 hu).1;simpa using this
       rw[Array.getD_eq_getD_getElem?,Array.getElem?_append_left ht]
       simp only[Array.getElem?_toList] at hu
       rw[hu];rfl
      have e2:=zCA (k:=0) e
      rw[Nat.zero_add] at e2
      rw[this,e2]
      simpa only[AV.rel] using hx
   ·rw[zCg hmem]
    exact AV.rel_un _ _ _ _
  sz:=by simp only[Array.size_append,Array.size_replicate,st];omega
  ex:={
   px:=rfl
   n0:=hn0
   ψ0:=fun hz' b hb=>hzR (hz▸hz') b hb
   ψl:=hΨ
   θl:=hΘ
   ψb:=fun k b h=>by cases h
   ψr:=hRΘ
   ψo:=fun b h=>h.elim
   θo:=fun b h _=>h
   bo:=fun b h=>h.elim (hΘ b) (fun h=>h.elim)
   ψn:=fun hn=>(hn _ _ _ _ hX).elim
   hd:=fun b h=>h.elim
   rm:=fun _=>rfl
   df:=⟨[],rfl,List.nodup_nil,fun D hD=>by cases hD⟩ }
  rw:=fun k=>by
   show zrl w p _ k (zAG [(999,RowC.gh P X.l z (some xs))] k)
   rw[zlc,zAz]
   split
   ·rename_i e
    simp only[zrl];exact⟨e,rfl,rfl,rfl,hz,hY,hX⟩
   ·simp only[zrl];exact⟨rfl,rfl⟩
  bl:=fun k b h=>by simp [p] at h
  ij:=fun k k' b h=>by simp [p] at h
  cap:=fun k=>by simp [p,maxLen]
  pn:=fun k x h=>by cases h
  lk:=fun j km n l cur h _=>by
   have h':zAG [(999,RowC.gh P X.l z (some xs))] j = .mi km n l cur:=h
   rw[zlc,zAz] at h'
   split at h'<;>cases h' }
 refine callsIn_wide.1 (callsIn_of_wp_marks (n:=0) hf hb trivial (wpIn_mono (h C X.l _ w ⟨p,hs⟩) ?_))
 rintro e a' w' ⟨s',⟨p',hs'⟩,hq⟩
 have fin:∀ (a':Act) (w':World),SR C p' s' a' w'→(∃ l z,(s'.rows 999).c = .gh P l z (some [])∨(s'.rows 999).c = .gh P l z none) →
  ∃ v,(results fn a'.tmps).run P w' = .ok v w'∧((∃ v',Ending.returned v = .returned v')∧∃ Ψ' Θ',X.X (some []) w' Ψ' Θ'∨X.X none w' Ψ' Θ'):=fun a' w' hs' ⟨l,z',hq⟩=>by
  have hm:(fn.results.mapM (zEZ a'.tmps)).run P w' = .ok #[] w':=by
   rw[Array.mapM_eq_mapM_toList,hres]
   simp only[Sem.run_map,List.mapM_nil,Sem.run_pure,Result.andThen_ok]
  refine⟨.tuple #[],by rw[zBI,Sem.run_bind,hm];simp,⟨_,rfl⟩,p'.Ψ,p'.Θ,?_⟩
  have hpx:p'.X=X:=hs'.ex.px
  have hr:=hs'.rw 999
  rcases hq with hq|hq
  ·rw[hq] at hr
   simp only[zrl] at hr
   rw[hpx] at hr
   exact .inl hr.2.2.2.2.2.2
  ·rw[hq] at hr
   simp only[zrl] at hr
   rw[hpx] at hr
   exact .inr hr.2.2.2.2.2.2
 cases e with
 | normal=>exact hs'.leave fun a'' w'' _ hs''=>fin a'' w'' hs'' hq
 | ret=>exact hs'.leave fun a'' w'' _ hs''=>fin a'' w'' hs'' hq
 | _=>exact hq.elim
section
variable {P:Program}{C:Ctx}{p:Plan}{s:AS}{a:Act}{w:World}
set_option maxHeartbeats 400000 in
theorem zHa {g:Operand}{ps:Array Tmp}{assign body:Code}{Q:Exit→AS→Prop}(hrd:C.rd=none) (hC:C.X=XS.none) {F:FuncId}{args:List RV}{xs:List (List RV)}{z:Bool}
 (hF:s.ev g = .r (.bf F args)) (hI:zHP P z F args xs) (hdead:(s.rows 0).c = .dead) (ts:List Nat) (hps:∀ t∈ps.toList,t<s.n)
 (I:List (List RV)→List Value→AS→Prop) (J:Code→List Value→AS→Prop)
 (h0:∀ us,I xs us { n:=s.n,tm:=look [],rows:=upd s.rows 0 ⟨(s.rows 0).ver,.sus (ts.map s.tm) us⟩ })
 (round:∀ e rest us s',s'.n=s.n→I (e::rest) us s'→e.length=ps.size∧∃ avs,(s'.rows 0).c = .sus avs us∧∀ C,awp P C assign (fun x s2=>x = .normal∧∀ C,awp P C body (zPm s.n I J rest us) s2) ⟨s.n,psA ps.toList e (look (ts.zip avs)),s'.rows⟩)
 (done:∀ us s',s'.n=s.n→I [] us s'→∃ avs,(s'.rows 0).c = .sus avs us∧Q .normal ⟨s.n,look (ts.zip avs),s'.rows⟩)
 (stop:∀ c us s',s'.n=s.n→J c us s'→∃ avs,(s'.rows 0).c = .sus avs us∧awp P C c Q ⟨s.n,look (ts.zip avs),s'.rows⟩):awp P C (.rangeFunc g ps assign body) Q s:=by
 rintro a w ⟨p,hS⟩
 have hn:∀ o w Ψ Θ,¬ C.X.X o w Ψ Θ:=fun o w Ψ Θ h=>by rw[hC] at h;exact h
 have hF0:fnc C.rd=Fence.wide:=by rw[hrd];rfl
 rw[hF0]
 refine wpIn_rangeFunc fun fn _=>?_
 obtain⟨vsC,hgv,hcs⟩:∃ vs:Array Value,a.eval g = .func (.func F) vs #[]∧RV.relV w p.R args vs.toList:=by
  have:=hS.ev g
  rw[hF] at this
  simpa only[AV.rel,RV.rel] using this
 have hψ0:=hS.ex.ψn hn
 obtain⟨rec,hrec⟩:∃ rec:LoopState→Option Code→Loop,rec=fun st pe=>{ state:=st,pending:=pe,fn,tmps:=a.tmps,params:=ps,assign,body,defers:=w.heap.size }:=⟨_,rfl⟩
 obtain⟨w1,hw1⟩:∃ w1,(w.alloc (.deferred (some []))).alloc (.loop (rec .ready none))=w1:=⟨_,rfl⟩
 obtain⟨L,hLdef⟩:∃ L,L=w.heap.size+1:=⟨_,rfl⟩
 obtain⟨aL,haL⟩:∃ aL:Act,aL={ tmps:=a.tmps,defers:={ target:=.collected w.heap.size,args:=#[] }::a.defers }:=⟨_,rfl⟩
 have hS1:SR C p s aL w1:=by rw[haL,← hw1];exact hS.enter hrd _
 have hsz1:w1.heap.size=w.heap.size+2:=by rw[← hw1];simp
 have hL1:w1.heap[L]? = some (.loop (rec .ready none)):=by
  rw[← hw1,hLdef];have:=World.alloc_heap_new (w.alloc (.deferred (some []))) (.loop (rec .ready none));rwa [World.size_alloc] at this
 have hLR:¬ p.R L:=fun h=>by have:=hS.rb L h;omega
 have hLβ:∀ k,p.β k≠some L:=fun k h=>by have:=(hS.bl k L h).1;omega
 have hL0:C.w0.heap.size≤L:=by have:=hS.base.size;omega
 have hLm:∀ d∈aL.defers,d.target ≠ .collected L:=fun d hd e=>by
  obtain⟨Ds,g1,_,g3⟩:=hS1.ex.df
  rw[g1] at hd
  obtain⟨D,hD,rfl⟩:=List.mem_map.1 hd
  injection e with e
  subst e
  have:=(g3 _ hD).1
  rw[hL1] at this;cases this
 obtain⟨us,hus⟩:∃ us,us=ts.map fun t=>aL.tmps.getD t undef:=⟨_,rfl⟩
 have hS2:=hS1.wait hdead ts
 rw[← hus,← look_nil'] at hS2
 have htmps:aL.tmps=a.tmps:=by rw[haL]
 have hsn:s.n=aL.tmps.size:=by rw[htmps];exact hS.sz.symm
 let X:XS:={ l:=L,z:=z,n0:=w1.heap.size,R:=p.R,X:=XJ C aL L rec (fun left s'=>I left us s') (fun c s'=>J c us s'),st:=XJ.st hn }
 have hcap:RV.relV w1 p.R args vsC.toList:=RV.relV_mono (fun _ h=>h) (fun ad hr=>World.cell?_of_block (by rw[← hw1];exact (Below.heap_alloc _ _ _ (by have:=hS.rb _ hr;simp;omega)).trans (Below.heap_alloc _ _ _ (hS.rb _ hr)))) _ _ hcs
 have hY:YOk P X:=by
  intro e rest wv Ψ Θ R vs hX hR hV
  obtain⟨pv,sv,hSv,hsnv,⟨hIv,hLv⟩,hLRv,hLβv,hΨv,hΘv⟩:=hX
  have hψv:=hSv.ex.ψn hn
  obtain⟨hlen,avs,hrow,hround⟩:=round e rest us sv (hsnv.trans hsn.symm) hIv
  have hvs:vs.size=ps.size:=by have:=RV.relV_length hV;simp only[Array.length_toList] at this;omega
  have hltv:L<wv.heap.size:=(Array.getElem?_eq_some_iff.1 hLv).1
  have hy:=run_yield (P:=P) (args:=vs) hLv (by rw[hrec];exact hvs)
  rw[hrec] at hy
  refine⟨fn,_,assign,body,hy,?_⟩
  have hRβ:∀ b,R b→b<wv.heap.size∧∀ k,pv.β k≠some b:=fun b hb=>⟨(hR b hb).1,fun k hk=>(hR b hb).2.1 ((hΘv b).2 (.inl ⟨k,hk⟩))⟩
  have hRL:¬ R L:=fun hb=>(hR L hb).2.1 ((hΘv L).2 (.inr rfl))
  have hkv:Kept wv wv pv { pv with R:=fun b=>pv.R b∨R b } sv.ver sv.ver:=⟨fun _ h=>.inl h,fun _ _=>rfl,fun _=>Nat.le_refl _,fun _ _=>⟨rfl,rfl⟩⟩
  have haw:=hSv.awake (by rw[hrow,hus])
  have hzip:(ps.zip vs).foldl (fun tmps (x:Nat × Value)=>tmps.setIfInBounds x.1 x.2) a.tmps=(ps.toList.zip vs.toList).foldl (fun tmps (x:Nat × Value)=>tmps.setIfInBounds x.1 x.2) a.tmps:=by
   rw[← Array.foldl_toList,Array.toList_zip]
  obtain⟨hpsz,hprel⟩:=zFi (w:=wv) (p:={ pv with R:=fun b=>pv.R b∨R b }) (ver:=sv.ver) ps.toList e vs.toList (look (ts.zip avs)) a.tmps (RV.relV_mono (fun _ h=>.inr h) (fun _ _=>rfl) _ _ hV)
   (fun t ht=>by rw[← htmps,← hsn];exact hps t ht) (fun t=>by rw[← htmps];exact AV.rel_mono hkv _ _ (haw.tm t))
  let Hd:Nat→Prop:=fun b=>b=L∨∃ d∈aL.defers,d.target = .collected b
  have hHd:∀ b,Hd b→b<wv.heap.size∧¬ C.bor b∧¬ pv.R b∧¬ R b∧∀ k,pv.β k≠some b:=fun b hb=>by
   rcases hb with rfl|⟨d,hd,hdt⟩
   ·exact⟨hltv,fun hb=>by have:=hS.ex.bo b (.inl hb);omega,hLRv,hRL,hLβv⟩
   ·obtain⟨Ds,g1,_,g3⟩:=hSv.ex.df
    rw[g1] at hd
    obtain⟨D,hD,rfl⟩:=List.mem_map.1 hd
    injection hdt with hdt
    subst hdt
    obtain⟨k1,k2,k3,k4,k5,k6⟩:=g3 D hD
    refine⟨(Array.getElem?_eq_some_iff.1 k1).1,fun hb=>by have:=hS.ex.bo D (.inl hb);omega,k3,fun hr=>?_,k4⟩
    have hD1:D<w1.heap.size:=by
     obtain⟨Ds',q1,_,q3⟩:=hS1.ex.df
     have:Ds'=Ds:=zA3 (q1.symm.trans g1)
     subst this
     exact (Array.getElem?_eq_some_iff.1 (q3 D hD).1).1
    rcases (hR D hr).2.2 with q|q
    ·obtain⟨Ds',q1,_,q3⟩:=hS1.ex.df
     have:Ds'=Ds:=zA3 (q1.symm.trans g1)
     subst this
     exact (q3 D hD).2.2.1 q
    ·have q':w1.heap.size≤D:=q
     omega
  have hSa:=hSv.into (L:=L) (w2:=wv) (R:=R) (rd:=some L) (Hd:=Hd) (a':={ tmps:=(ps.zip vs).foldl (fun tmps (x:Nat × Value)=>tmps.setIfInBounds x.1 x.2) a.tmps,defers:=[] }) (tm':=psA ps.toList e (look (ts.zip avs)))
   hn rfl rfl rfl rfl (fun _ _=>rfl) hLRv hLβv hRβ (fun t=>by rw[hzip];exact hprel t) (by rw[hzip,hpsz,← htmps];exact hsnv.symm) rfl hHd hC
  have hna:=hsnv.trans hsn.symm
  refine roundIn_of_wpIn trivial ?_
  have hassign:=hround (Cin C pv R wv (some L) Hd) _ _ ⟨_,hna▸hSa⟩
  refine wpIn_mono hassign ?_
  rintro x a1 wa ⟨s1,⟨p1,hS1a⟩,rfl,hbody⟩
  have hLa:wa.heap[L]? = some (.loop (rec .ready none)):=(hS1a.base.block L hltv (fun ⟨hb,_⟩=>(hHd L (.inl rfl)).2.1 hb) (fun ⟨k,hk,_⟩=>hLβv k hk)).trans hLv
  have hlta:L<wa.heap.size:=(Array.getElem?_eq_some_iff.1 hLa).1
  refine⟨_,run_beginRound hLa (by rw[hrec]),?_⟩
  have hop1:=Hop.of (L:=L) (w:=wv) (w2:=wv) rfl rfl rfl rfl (fun _ _=>rfl) hS1a
  have hHd1:∀ b,Hd b→b<wa.heap.size∧¬ (Cin C pv R wv (some L) Hd).bor b∧¬ p1.R b∧¬ False∧∀ k,p1.β k≠some b:=fun b hb=>by
   obtain⟨_,q2,_,q4,q5,_,_,q8⟩:=hS1a.ex.hd b hb
   exact⟨q4,q2,q5,fun h=>h,q8⟩
  have hS1b:=hS1a.into (L:=L) (w2:=wa.putObj L (.loop { rec .ready none with state:=.busy })) (R:=fun _=>False) (rd:=some L) (Hd:=Hd) (a':=a1) (tm':=s1.tm) hn rfl rfl rfl World.putObj_size zAC
   (hHd1 L (.inl rfl)).2.2.1 (hHd1 L (.inl rfl)).2.2.2.2 (fun _ h=>h.elim) (fun t=>by
    have hk1:Kept wa (wa.putObj L (.loop { rec .ready none with state:=.busy })) p1 { p1 with R:=fun b=>p1.R b∨False } s1.ver s1.ver :=
     ⟨fun _ h=>.inl h,fun ad hr=>World.cell?_of_block (zAC _ fun e=>(hHd1 L (.inl rfl)).2.2.1 (e▸hr)),fun _=>Nat.le_refl _,fun _ _=>⟨rfl,rfl⟩⟩
    exact AV.rel_mono hk1 _ _ (hS1a.tm t)) hS1a.sz (hS1a.ex.rm rfl) hHd1 hC
  refine wpIn_mono (hbody _ _ _ ⟨_,hS1b⟩) ?_
  have hLb:(wa.putObj L (.loop { rec .ready none with state:=.busy })).heap[L]? = some (.loop { rec .ready none with state:=.busy }):=World.putObj_heap_same hlta
  have hRo:∀ b,R b→b<wv.heap.size∧(∀ d∈aL.defers,d.target ≠ .collected b)∧¬ C.hd b∧(C.R0 b∨C.w0.heap.size≤b∨C.own b):=fun b hb=>by
   have hsz0:=hS.base.size
   refine⟨(hR b hb).1,fun d hd hdt=>(hHd b (.inr ⟨d,hd,hdt⟩)).2.2.2.1 hb,fun hh=>?_,?_⟩
   ·obtain⟨q1,_,_,_,q5,_⟩:=hS.ex.hd b hh
    rcases (hR b hb).2.2 with q|q
    ·exact q5 q
    ·have q':w1.heap.size≤b:=q;omega
   ·rcases (hR b hb).2.2 with q|q
    ·exact hS.rn b q
    ·have q':w1.heap.size≤b:=q;exact .inr (.inl (by omega))
  have fin:∀ (jump:Option Code) (s3:AS) (p3:Plan) (a3:Act) (w3:World),SR (Cin (Cin C pv R wv (some L) Hd) p1 (fun _=>False) (wa.putObj L (.loop { rec .ready none with state:=.busy })) (some L) Hd) p3 s3 a3 w3 →
   (match jump with|none=>∃ s4,Sub s3 s4∧I rest us ⟨s.n,look [],s4.rows⟩|some c=>∃ s4,Sub s3 s4∧J c us ⟨s.n,look [],s4.rows⟩) →
   ∃ v w', (Instr.endRound L jump).run P w3 = .ok v w'∧(w'.os=wv.os∧w'.tape=wv.tape∧w'.output=wv.output∧wv.heap.size≤w'.heap.size∧(∀ b, b<wv.heap.size→¬ Θ b→w'.heap[b]? = wv.heap[b]?) ∧
     ∃ Ψ' Θ':Nat→Prop,(∀ b,Ψ' b→Ψ b∨R b∨wv.heap.size≤b)∧(∀ b,Θ' b→Θ b∨wv.heap.size≤b)∧(∀ b,Ψ' b→b<w'.heap.size)∧(∀ b,Θ' b→b<w'.heap.size) ∧
     ((Ending.returned v = .returned (.bool true)∧X.X (some rest) w' Ψ' Θ')∨(Ending.returned v = .returned (.bool false)∧X.X Option.none w' Ψ' Θ'))):=by
   intro jump s30 p30 a3 w3 h30 hj0
   obtain⟨s3,hsub,hj⟩:∃ s4,Sub s30 s4∧(match jump with|none=>I rest us ⟨s.n,look [],s4.rows⟩|some c=>J c us ⟨s.n,look [],s4.rows⟩):=by
    cases jump with
    | none=>exact hj0
    | some c=>exact hj0
   obtain⟨p3,h3⟩:=hsub _ _ _ ⟨p30,h30⟩
   have hL3:w3.heap[L]? = some (.loop { rec .ready none with state:=.busy }):=by
    refine (h3.base.block L (by show L<(wa.putObj L _).heap.size;rw[World.putObj_size];exact hlta) (fun ⟨hb,_⟩=>(hHd1 L (.inl rfl)).2.1 hb) (fun ⟨k,hk,_⟩=>(hHd1 L (.inl rfl)).2.2.2.2 k hk)).trans hLb
   obtain⟨_,_,_,_,e5,_,_,e8⟩:=h3.ex.hd L (.inl rfl)
   have hend:=run_endRound (P:=P) jump hL3
   have hlt3:L<w3.heap.size:=(Array.getElem?_eq_some_iff.1 hL3).1
   have hop2:=Hop.of (C:=Cin C pv R wv (some L) Hd) (p:=p1) (L:=L) (w:=wa) (w2:=wa.putObj L (.loop { rec .ready none with state:=.busy })) (R:=fun _=>False) rfl rfl rfl World.putObj_size zAC h3
   obtain⟨o4,ho4⟩:∃ o4,o4=Obj.loop { { rec .ready none with state:=.busy } with state:=if jump.isNone then .ready else .done,pending:=jump }:=⟨_,rfl⟩
   rw[← ho4] at hend
   have hop:=(Hop.trans (C':=Cin C pv R wv (some L) Hd) hop1 (fun _=>Iff.rfl) hop2).put (o:=o4)
   have hL4:(w3.putObj L o4).heap[L]? = some (.loop (rec (if jump.isNone then .ready else .done) jump)):=by
    rw[World.putObj_heap_same hlt3,ho4,hrec]
   have hS4:SR C p3 ⟨s.n,look [],s3.rows⟩ aL (w3.putObj L o4):=by
    have:=hSv.land (C':=Cin (Cin C pv R wv (some L) Hd) p1 (fun _=>False) (wa.putObj L (.loop { rec .ready none with state:=.busy })) (some L) Hd) hn hL0 hLm hop hRo rfl rfl h3 e5 e8 rfl rfl rfl World.putObj_size zAC
    rw[hna,← look_nil'] at this
    exact this
   have hψ4:=hS4.ex.ψn hn
   refine⟨_,_,hend,hop.os,hop.tape,hop.output,hop.size,fun b hb hθ=>hop.heap b hb (fun k hk=>hθ ((hΘv b).2 (.inl ⟨k,hk⟩))) (fun e=>hθ ((hΘv b).2 (.inr e))),
    fun b=>p3.R b∨(∃ k,p3.β k=some b)∨(b<C.w0.heap.size∧¬ C.bor b∧¬ C.own b)∨b=L∨C.hd b∨∃ d∈aL.defers,d.target = .collected b,fun b=>(∃ k,p3.β k=some b)∨b=L,fun b hb=>?_,fun b hb=>?_,fun b hb=>?_,fun b hb=>?_,?_⟩
   ·rcases hb with g|⟨k,g⟩|g|g|g|g
    ·rcases hop.rn b g with q|q|q|⟨k,q,_⟩
     ·exact .inl ((hΨv b).2 (.inl q))
     ·exact .inr (.inl q)
     ·exact .inr (.inr q)
     ·exact .inl ((hΨv b).2 (.inr (.inl ⟨k,q⟩)))
    ·rcases hop.bl k b g with q|⟨_,_,k',_,q⟩|⟨k',q,_⟩
     ·exact .inr (.inr q)
     ·exact .inl ((hΨv b).2 (.inr (.inl ⟨k',q⟩)))
     ·exact .inl ((hΨv b).2 (.inr (.inl ⟨k',q⟩)))
    ·exact .inl ((hΨv b).2 (.inr (.inr (.inl g))))
    ·exact .inl ((hΨv b).2 (.inr (.inr (.inr (.inl g)))))
    ·exact .inl ((hΨv b).2 (.inr (.inr (.inr (.inr (.inl g))))))
    ·exact .inl ((hΨv b).2 (.inr (.inr (.inr (.inr (.inr g))))))
   ·rcases hb with⟨k,g⟩|g
    ·rcases hop.bl k b g with q|⟨_,_,k',_,q⟩|⟨k',q,_⟩
     ·exact .inr q
     ·exact .inl ((hΘv b).2 (.inl ⟨k',q⟩))
     ·exact .inl ((hΘv b).2 (.inl ⟨k',q⟩))
    ·exact .inl ((hΘv b).2 (.inr g))
   ·have hsz4:=hS4.base.size
    rcases hb with g|⟨k,g⟩|g|rfl|g|⟨d,hd,hdt⟩
    ·exact hS4.rb b g
    ·exact (hS4.bl k b g).1
    ·omega
    ·rw[World.putObj_size];exact hlt3
    ·exact (hS4.ex.hd b g).2.2.2.1
    ·exact Nat.lt_of_lt_of_le (hHd b (.inr ⟨d,hd,hdt⟩)).1 hop.size
   ·rcases hb with⟨k,g⟩|rfl
    ·exact (hS4.bl k b g).1
    ·rw[World.putObj_size];exact hlt3
   ·cases jump with
    | none=>exact .inl ⟨rfl,p3,_,hS4,hsn,⟨hj,hL4⟩,e5,e8,fun _=>Iff.rfl,fun _=>Iff.rfl⟩
    | some c=>exact .inr ⟨rfl,p3,_,hS4,hsn,⟨c,hj,hL4⟩,e5,e8,fun _=>Iff.rfl,fun _=>Iff.rfl⟩
  rintro en a3 w3 ⟨s3,⟨p3,h3⟩,hq⟩
  cases en with
  | normal=>exact fin none s3 p3 a3 w3 h3 hq
  | ret=>exact fin (some .ret) s3 p3 a3 w3 h3 hq
  | exit id=>exact fin (some (.exit id)) s3 p3 a3 w3 h3 hq
  | goto l=>exact fin (some (.goto l)) s3 p3 a3 w3 h3 hq
  | panic ch=>exact hq.elim
  | outgrown=>exact hq.elim
 have hX0:X.X (some xs) w1 (fun b=>p.R b∨(∃ k,p.β k=some b)∨(b<C.w0.heap.size∧¬ C.bor b∧¬ C.own b)∨b=L∨C.hd b∨∃ d∈aL.defers,d.target = .collected b) (fun b=>(∃ k,p.β k=some b)∨b=L) :=
  ⟨p,_,hS2,hsn,⟨h0 us,hL1⟩,hLR,hLβ,fun _=>Iff.rfl,fun _=>Iff.rfl⟩
 have hlt1:L<w1.heap.size:=(Array.getElem?_eq_some_iff.1 hL1).1
 have hcall:=hI.2 w1 p.R vsC X _ _ hS1.rb hcap rfl (fun hz b hb=>hb) (Nat.le_refl _) hY (fun b hb=>by
  have hszw:=hS1.base.size
  rcases hb with g|⟨k,g⟩|g|rfl|g|⟨d,hd,hdt⟩
  ·exact hS1.rb b g
  ·exact (hS1.bl k b g).1
  ·omega
  ·exact hlt1
  ·exact (hS1.ex.hd b g).2.2.2.1
  ·obtain⟨Ds,g1,_,g3⟩:=hS1.ex.df
   rw[g1] at hd
   obtain⟨D,hD,rfl⟩:=List.mem_map.1 hd
   injection hdt with hdt
   subst hdt
   exact (Array.getElem?_eq_some_iff.1 (g3 D hD).1).1) (fun b hb=>by
  rcases hb with⟨k,g⟩|rfl
  ·exact (hS1.bl k b g).1
  ·exact hlt1) (fun b hb hθ=>by
  rcases hθ with⟨k,g⟩|rfl
  ·exact (hS1.bl k b g).2.1 hb
  ·exact hLR hb) hX0
 have e1:(Instr.enterLoop fn a.tmps ps assign body none).run P w = .ok (L,[{ target:=.collected w.heap.size,args:=#[] }]) w1:=by
  rw[run_enterLoop_outer,← hw1,hrec,hLdef]
 have e2:(resolve a.eval (rangeCall g L) 0).run P w1 = .ok { target:=.fn (.func F) #[],args:=vsC ++ #[.func (.yield L) #[] #[]] } w1:=by
  simp only[resolve,hgv,Sem.run_bind,Deferred.ofValue,Sem.run_pure,Result.andThen_ok]
  simp [Act.eval]
 have e3:(invoke (.fn (.func F) #[]) (vsC ++ #[.func (.yield L) #[] #[]])).run P w1 = .ok (.enter F (vsC ++ #[.func (.yield L) #[] #[]])) w1:=by
  simp only[invoke]
  have:=zAn hI.1 (vsC ++ #[.func (.yield L) #[] #[]] ++ #[]) w1
  simpa using this
 have e4:Fence.wide.depth.isSome=true→1≤0:=fun h=>by simp [Fence.wide] at h
 refine⟨L,_,w1,_,w1,F,_,w1,e1,e2,?_,e3,e4,?_⟩
 ·intro f' _;exact trivial
 ·refine callsIn_wide.2 (hcall.mono ?_)
  have haL':({ a with defers:=[{ target:=.collected w.heap.size,args:=#[] }]++a.defers }:Act)=aL:=by rw[haL];rfl
  rintro e w' ⟨⟨v,rfl⟩,Ψ',Θ',hX|hX⟩
  ·obtain⟨p',s',hS',hsn',⟨hI',hL'⟩,hLR',hLβ',_⟩:=hX
   have hend:=run_endLoop (P:=P) hL' (by rw[hrec];simp)
   have hp:(rec .ready none).pending=none:=by rw[hrec]
   rw[hp] at hend
   refine⟨none,_,hend,?_⟩
   obtain⟨avs,hrow,hQ⟩:=done us s' (hsn'.trans hsn.symm) hI'
   have hS4:∀ o,SR C p' ⟨s.n,look (ts.zip avs),s'.rows⟩ aL (w'.putObj L o):=fun o=>by
    have:=(hS'.turn (o:=o) hLR' hLβ' hL0 (hS'.ex.ψn hn) hLm).awake (by rw[hrow,hus])
    rw[hsn'.trans hsn.symm] at this
    exact this
   rw[haL']
   exact⟨_,⟨_,hS4 _⟩,hQ⟩
  ·obtain⟨p',s',hS',hsn',⟨c,hJ',hL'⟩,hLR',hLβ',_⟩:=hX
   have hend:=run_endLoop (P:=P) hL' (by rw[hrec];simp)
   have hp:(rec .done (some c)).pending=some c:=by rw[hrec]
   rw[hp] at hend
   refine⟨some c,_,hend,?_⟩
   obtain⟨avs,hrow,hQ⟩:=stop c us s' (hsn'.trans hsn.symm) hJ'
   have hS4:∀ o,SR C p' ⟨s.n,look (ts.zip avs),s'.rows⟩ aL (w'.putObj L o):=fun o=>by
    have:=(hS'.turn (o:=o) hLR' hLβ' hL0 (hS'.ex.ψn hn) hLm).awake (by rw[hrow,hus])
    rw[hsn'.trans hsn.symm] at this
    exact this
   have hQ':=fun o=>hQ _ _ ⟨_,hS4 o⟩
   rw[hF0] at hQ'
   rw[haL']
   exact hQ' _
end
theorem zHI {P:Program}{C:Ctx}{n:Nat}{s:AS}{t:Nat}{ps:Array Tmp}{assign body:Code}{Q:Exit→AS→Prop}(hC:C.rd=none∧C.X=XS.none) {f:FuncId}{caps:List RV}{z:Bool}(xs:List (List RV)) (hI:zHP P z f caps xs)
 (ts:List Nat) (hnd:ts.Nodup) (F:(Nat→Nat)→List (Nat × AV)) (R:Nat→(Nat→Nat)→List (Nat × RowC)) (I:Nat→Prop) (h0:FitV n F (R 0) s) (hi0:I 0)
 (hts:∀ vs,(F vs).map (·.1)=ts) (hg:∀ vs,look (F vs) t = .r (.bf f caps)) (hd:∀ i vs,zAG (R i vs) 0 = .dead) (hps:∀ t∈ps.toList,t<n) (hlen:∀ e∈xs,e.length=ps.size)
 (round:∀ i e vs us C,xs[i]? = some e→I i→awp P C assign (fun x s2=>x = .normal∧∀ C,awp P C body (zJu n ts Q (fun s3=>I (i+1)∧∃ vs',Sub s3 (st n [] vs' ((0,.sus ((F vs').map (·.2)) us)::R (i+1) vs'))) us) s2)
  (st n (psL ps.toList e (F vs)) vs ((0,.sus ((F vs).map (·.2)) us)::R i vs)))
 (done:∀ vs us,I xs.length→Q .normal (st n (F vs) vs ((0,.sus ((F vs).map (·.2)) us)::R xs.length vs))):awp P C (.rangeFunc (.tmp t) ps assign body) Q s:=by
 obtain⟨vs0,h0⟩:=h0
 refine zw h0 ?_
 have hdrop:∀ i e rest,xs.drop i=e::rest→xs[i]? = some e∧xs.drop (i+1)=rest:=fun i e rest h=>by
  refine⟨?_,by rw[← List.drop_drop,h];rfl⟩
  have:(xs.drop i)[0]? = some e:=by rw[h];rfl
  simpa using this
 have hz:∀ vs,ts.zip ((F vs).map (·.2))=F vs:=fun vs=>by rw[← hts vs];exact zD9 _
 refine zHa hC.1 hC.2 (F:=f) (args:=caps) (xs:=xs) (z:=z) (by
  show look (F vs0) t=_
  rw[hg]) hI (hd 0 vs0) ts hps
  (fun left us s'=>∃ i vs,left=xs.drop i∧i≤xs.length∧I i∧s'=st n [] vs ((0,.sus ((F vs).map (·.2)) us)::R i vs))
  (fun c us s'=>∃ avs,(s'.rows 0).c = .sus avs us∧((c = .ret∧Q .ret ⟨n,look (ts.zip avs),s'.rows⟩)∨∃ id,c = .exit id∧Q (.exit id) ⟨n,look (ts.zip avs),s'.rows⟩))
  (fun us=>⟨0,vs0,rfl,Nat.zero_le _,hi0,?_⟩) ?_ ?_ ?_
 ·refine (zCW (c:=.sus (ts.map (st n (F vs0) vs0 (R 0 vs0)).tm) us)).trans ?_
  congr 3
  have hk:(F vs0).map (·.2)=ts.map (look (F vs0)):=by
   have:=zDJ (F vs0) (by rw[hts vs0];exact hnd)
   rw[hts vs0] at this
   exact this
  rw[hk];rfl
 ·rintro e rest us s' _ ⟨i,vs,hl,hle,hI',rfl⟩
  obtain⟨h1,h2⟩:=hdrop i e rest hl.symm
  refine⟨hlen e (List.mem_of_getElem? h1),(F vs).map (·.2),rfl,fun C'=>?_⟩
  have hr:=round i e vs us C' h1 hI'
  rw[hz,zEF]
  refine zAi ?_ hr
  rintro x s2 ⟨hx,hbody⟩
  refine⟨hx,fun C''=>zAi ?_ (hbody C'')⟩
  intro x s3 hq
  cases x with
  | normal =>
    obtain⟨hI3,vs',hsub⟩:=hq
    refine⟨_,hsub,i+1,vs',h2.symm,?_,hI3,rfl⟩
    have:=(List.getElem?_eq_some_iff.1 h1).1
    omega
  | ret =>
    obtain⟨avs,h3,h4⟩:=hq
    exact⟨s3,Sub.refl _,avs,h3,.inl ⟨rfl,h4⟩⟩
  | exit id =>
    obtain⟨avs,h3,h4⟩:=hq
    exact⟨s3,Sub.refl _,avs,h3,.inr ⟨id,rfl,h4⟩⟩
  | goto l=>exact hq.elim
  | panic c=>exact hq.elim
  | outgrown=>exact hq.elim
 ·rintro us s' _ ⟨i,vs,hl,hle,hI',rfl⟩
  have hi:i=xs.length:=by
   have:(xs.drop i).length=0:=by rw[← hl];rfl
   rw[List.length_drop] at this;omega
  subst hi
  refine⟨(F vs).map (·.2),rfl,?_⟩
  have:=done vs us hI'
  rw[hz]
  exact this
 ·rintro c us s' _ ⟨avs,h3,h4⟩
  refine⟨avs,h3,?_⟩
  rcases h4 with⟨rfl,h4⟩|⟨id,rfl,h4⟩
  ·exact ze h4
  ·exact zf h4
theorem zFo {P:Program}{s:AS}{o:Oper}{F:FuncId}{x:Operand}{K:AS→Prop}(ho:o.op = .makeFunc (.func F) #[x] #[]) {v:RV}(hx:s.ev x = .r v) (hK:K (s.put o.dst (.r (.bf F [v])))):gop P o K s:=by
 intro C p a w h hd hnd KW Q hKW
 have hv:v.rel w p.R (a.eval x):=by
  have:=h.ev x
  rw[hx] at this
  simpa only[AV.rel] using this
 have hr:(execOp a.eval o).run P w = .ok (.value (.func (.func F) #[a.eval x] #[])) w:=by
  simp [execOp,ho,Instr.makeFunc]
 refine zAa hnd ?_
 unfold Oper.wp
 rw[hr]
 have hput:=h.put' (d:=o.dst) (av:=.r (.bf F [v])) (v:=.func (.func F) #[a.eval x] #[]) (by simp only[AV.rel,RV.rel,RV.relV];exact⟨_,rfl,_,_,rfl,hv,rfl⟩) hd
 exact hKW _ _ p _ hput (zN3 _ _ _) hK
end Go.Oc

namespace Go.Oc
open Go Go.RowKit
def zRT (u:Addr) (pk:List (Nat × Int)) (w:World):Prop:=∀ x∈pk,w.cell? (u.add x.1)=some (.int .i64 x.2)
theorem zQ5 {w:World}{p:Plan}{ver:Nat→Nat}:∀ {avs:List AV}{us:List Value},AV.relV w p ver avs us→∀ x∈avs,∃ v,AV.rel w p ver x v
 | [],_,_=>fun x hx=>by cases hx
 | y::avs, us, h=>fun x hx=>by
   simp only[AV.relV] at h
   obtain⟨v,us',_,h1,h2⟩:=h
   rcases List.mem_cons.1 hx with rfl|hx
   ·exact⟨v,h1⟩
   ·exact zQ5 h2 x hx
theorem zQ6 {w:World}{p:Plan}{ver:Nat→Nat}:∀ {avs:List AV}{us:List Value}{i:Nat}{x:AV},AV.relV w p ver avs us→avs[i]? = some x→∃ v,us[i]? = some v∧AV.rel w p ver x v
 | [],_,i,x,_,h=>by simp at h
 | y::avs, us, 0, x, hr, h=>by
   simp only[AV.relV] at hr
   obtain⟨v,us',rfl,h1,_⟩:=hr
   simp at h
   subst h
   exact⟨v,rfl,h1⟩
 | y::avs, us, i+1, x, hr, h=>by
   simp only[AV.relV] at hr
   obtain⟨v,us',rfl,_,h2⟩:=hr
   simpa using zQ6 h2 (by simpa using h)
theorem zTr {C:Ctx}{p:Plan}{n:Nat}{vs:Nat→Nat}{cs:List (Nat × RowC)}{a:Act}{w:World}{avs:List AV}{us:List Value}{k:Nat}{u:Addr}{pk:List (Nat × Int)}{c:List AV}(h:SR C p (st n [] vs ((0,.sus avs us)::cs)) a w)
 (hc:zAG ((0,RowC.sus avs us)::cs) k = .box c) (hpk:∀ x∈pk,c[x.1]? = some (.r (.it .i64 x.2))) (hu:AV.pu k (vs k) u∈avs):zRT u pk w:=fun x hx=>by
 have h0:=h.rw 0
 have e0:((st n [] vs ((0,RowC.sus avs us)::cs)).rows 0).c = .sus avs us:=by show zAG ((0,RowC.sus avs us)::cs) 0=_;rw[zlc,if_pos rfl]
 rw[e0] at h0
 simp only[zrl] at h0
 obtain⟨v,hv⟩:=zQ5 h0.2.2 _ hu
 simp only[AV.rel] at hv
 obtain⟨b,hb,hbv⟩:=hv.2.2 rfl
 have hub:u=⟨b,0,none⟩:=by
  have:=hv.1.symm.trans hbv
  injection this with this
  injection this
 have hr:=h.rw k
 have e1:((st n [] vs ((0,RowC.sus avs us)::cs)).rows k).c = .box c:=hc
 rw[e1] at hr
 simp only[zrl] at hr
 obtain⟨b',cells,ty,hβ,hheap,hcells,_⟩:=hr
 rw[hb] at hβ
 injection hβ with hβ
 subst hβ
 obtain⟨v',hv',hrel⟩:=zQ6 hcells (hpk x hx)
 simp only[AV.rel,RV.rel] at hrel
 subst hub
 subst hrel
 rw[zAg]
 simpa [World.cell?,hheap] using hv'
def zJU (P:Program) (u:Addr) (pk:List (Nat × Int)) (z:Bool) (F:FuncId) (caps:List RV) (xs:List (List RV)):Prop :=
 callable P F=true∧∀ (w:World) (R:Nat→Prop) (vs:Array Value) (X:XS) (Ψ Θ:Nat→Prop),(∀ b,R b→b<w.heap.size)→RV.relV w R caps vs.toList→X.z=z→(z=false→∀ b,R b→X.R b)→X.n0≤w.heap.size→YOk P X →
  (∀ b,Ψ b→b<w.heap.size)→(∀ b,Θ b→b<w.heap.size)→(∀ b,R b→¬ Θ b)→(∀ o w Ψ Θ,X.X (some o) w Ψ Θ→zRT u pk w)→X.X (some xs) w Ψ Θ →
  Calls P F (vs ++ #[.func (.yield X.l) #[] #[]]) w fun e w'=>(∃ v,e = .returned v)∧(∃ Ψ' Θ',X.X (some []) w' Ψ' Θ'∨X.X none w' Ψ' Θ')
theorem zOi {P:Program}{u:Addr}{pk:List (Nat × Int)}{z:Bool}{f:FuncId}{fn:Func}{c:Code}{n:Nat}{caps:List RV}{xs:List (List RV)}(hf:P.funcs[f]? = some fn) (hb:fn.body=some c) (hc:callable P f=true) (hn:fn.ntmps=n) (hres:fn.results.toList=[])
 (hargs:caps.length+1≤n) (h:∀ C l,(∀ o w Ψ Θ,C.X.X (some o) w Ψ Θ→zRT u pk w)→awp P C c (zUC P) (st n (argL 0 (caps++[.yl l])) (fun _=>0) [(999,.gh P l z (some xs))])):zJU P u pk z f caps xs:=by
 refine⟨hc,fun w R vs0 X Ψ Θ hR hV0 hz hzR hn0 hY hΨ hΘ hRΘ hPk hX=>?_⟩
 have hV:RV.relV w R (caps++[.yl X.l]) (vs0 ++ #[Value.func (.yield X.l) #[] #[]]).toList:=by
  rw[Array.toList_append]
  refine RV.relV_append hV0 ?_
  simp only[RV.relV];exact⟨Value.func (.yield X.l) #[] #[],[],by simp,by simp only[RV.rel],rfl⟩
 generalize vs0 ++ #[Value.func (.yield X.l) #[] #[]]=vs at hV
 have hlen:=RV.relV_length hV
 simp only[Array.length_toList,List.length_append,List.length_cons,List.length_nil] at hlen
 let C:Ctx:={ w0:=w,R0:=R,bor:=Θ,pin:=fun _=>none,X:=X }
 let p:Plan:={ R:=R,β:=fun _=>none,γ:=fun _=>1,X:=X,Ψ:=Ψ,Θ:=Θ }
 have hs:SR C p (st n (argL 0 (caps++[.yl X.l])) (fun _=>0) [(999,.gh P X.l z (some xs))]) { tmps:=vs++Array.replicate (fn.ntmps-vs.size) undef,defers:=[] } w:={
  base:=⟨rfl,rfl,rfl,Nat.le_refl _,fun _ _ _ _=>rfl⟩
  r0:=fun _ h=>h
  rn:=fun _ h=>.inl h
  rb:=hR
  tm:=fun t=>by
   show (look (argL 0 (caps++[.yl X.l])) t).rel _ _ _ _
   by_cases hmem:∃ x,(t,x)∈argL 0 (caps++[RV.yl X.l])
   ·cases e:(caps++[RV.yl X.l])[t]? with
    | none =>
      obtain⟨x,hx⟩:=hmem
      obtain⟨i,y,h1,h2⟩:=zB4 _ hx
      simp only[Nat.zero_add,Prod.mk.injEq] at h1
      rw[← h1.1,e] at h2;cases h2
    | some x =>
      obtain⟨u,hu,hx⟩:=RV.relV_get hV e
      have:(vs++Array.replicate (fn.ntmps-vs.size) undef).getD t undef=u:=by
       have ht:t<vs.size:=by have:=(List.getElem?_eq_some_iff.1 hu).1;simpa using this
       rw[Array.getD_eq_getD_getElem?,Array.getElem?_append_left ht]
       simp only[Array.getElem?_toList] at hu
       rw[hu];rfl
      have e2:=zCA (k:=0) e
      rw[Nat.zero_add] at e2
      rw[this,e2]
      simpa only[AV.rel] using hx
   ·rw[zCg hmem]
    exact AV.rel_un _ _ _ _
  sz:=by simp only[Array.size_append,Array.size_replicate,st];omega
  ex:={
   px:=rfl
   n0:=hn0
   ψ0:=fun hz' b hb=>hzR (hz▸hz') b hb
   ψl:=hΨ
   θl:=hΘ
   ψb:=fun k b h=>by cases h
   ψr:=hRΘ
   ψo:=fun b h=>h.elim
   θo:=fun b h _=>h
   bo:=fun b h=>h.elim (hΘ b) (fun h=>h.elim)
   ψn:=fun hn=>(hn _ _ _ _ hX).elim
   hd:=fun b h=>h.elim
   rm:=fun _=>rfl
   df:=⟨[],rfl,List.nodup_nil,fun D hD=>by cases hD⟩ }
  rw:=fun k=>by
   show zrl w p _ k (zAG [(999,RowC.gh P X.l z (some xs))] k)
   rw[zlc,zAz]
   split
   ·rename_i e
    simp only[zrl];exact⟨e,rfl,rfl,rfl,hz,hY,hX⟩
   ·simp only[zrl];exact⟨rfl,rfl⟩
  bl:=fun k b h=>by simp [p] at h
  ij:=fun k k' b h=>by simp [p] at h
  cap:=fun k=>by simp [p,maxLen]
  pn:=fun k x h=>by cases h
  lk:=fun j km n l cur h _=>by
   have h':zAG [(999,RowC.gh P X.l z (some xs))] j = .mi km n l cur:=h
   rw[zlc,zAz] at h'
   split at h'<;>cases h' }
 refine callsIn_wide.1 (callsIn_of_wp_marks (n:=0) hf hb trivial (wpIn_mono (h C X.l hPk _ w ⟨p,hs⟩) ?_))
 rintro e a' w' ⟨s',⟨p',hs'⟩,hq⟩
 have fin:∀ (a':Act) (w':World),SR C p' s' a' w'→(∃ l z,(s'.rows 999).c = .gh P l z (some [])∨(s'.rows 999).c = .gh P l z none) →
  ∃ v,(results fn a'.tmps).run P w' = .ok v w'∧((∃ v',Ending.returned v = .returned v')∧∃ Ψ' Θ',X.X (some []) w' Ψ' Θ'∨X.X none w' Ψ' Θ'):=fun a' w' hs' ⟨l,z',hq⟩=>by
  have hm:(fn.results.mapM (zEZ a'.tmps)).run P w' = .ok #[] w':=by
   rw[Array.mapM_eq_mapM_toList,hres]
   simp only[Sem.run_map,List.mapM_nil,Sem.run_pure,Result.andThen_ok]
  refine⟨.tuple #[],by rw[zBI,Sem.run_bind,hm];simp,⟨_,rfl⟩,p'.Ψ,p'.Θ,?_⟩
  have hpx:p'.X=X:=hs'.ex.px
  have hr:=hs'.rw 999
  rcases hq with hq|hq
  ·rw[hq] at hr
   simp only[zrl] at hr
   rw[hpx] at hr
   exact .inl hr.2.2.2.2.2.2
  ·rw[hq] at hr
   simp only[zrl] at hr
   rw[hpx] at hr
   exact .inr hr.2.2.2.2.2.2
 cases e with
 | normal=>exact hs'.leave fun a'' w'' _ hs''=>fin a'' w'' hs'' hq
 | ret=>exact hs'.leave fun a'' w'' _ hs''=>fin a'' w'' hs'' hq
 | _=>exact hq.elim
section
variable {P:Program}{C:Ctx}{p:Plan}{s:AS}{a:Act}{w:World}
set_option maxHeartbeats 400000 in
theorem zHZ {u:Addr}{pk:List (Nat × Int)}{g:Operand}{ps:Array Tmp}{assign body:Code}{Q:Exit→AS→Prop}(hrd:C.rd=none) (hC:C.X=XS.none) {F:FuncId}{args:List RV}{xs:List (List RV)}{z:Bool}
 (hF:s.ev g = .r (.bf F args)) (hI:zJU P u pk z F args xs) (hdead:(s.rows 0).c = .dead) (ts:List Nat) (hps:∀ t∈ps.toList,t<s.n)
 (I:List (List RV)→List Value→AS→Prop) (J:Code→List Value→AS→Prop)
 (hpk:∀ left us s',I left us s'→∀ p' a' w',SR C p' s' a' w'→zRT u pk w')
 (h0:∀ us,I xs us { n:=s.n,tm:=look [],rows:=upd s.rows 0 ⟨(s.rows 0).ver,.sus (ts.map s.tm) us⟩ })
 (round:∀ e rest us s',s'.n=s.n→I (e::rest) us s'→e.length=ps.size∧∃ avs,(s'.rows 0).c = .sus avs us∧∀ C,awp P C assign (fun x s2=>x = .normal∧∀ C,awp P C body (zPm s.n I J rest us) s2) ⟨s.n,psA ps.toList e (look (ts.zip avs)),s'.rows⟩)
 (done:∀ us s',s'.n=s.n→I [] us s'→∃ avs,(s'.rows 0).c = .sus avs us∧Q .normal ⟨s.n,look (ts.zip avs),s'.rows⟩)
 (stop:∀ c us s',s'.n=s.n→J c us s'→∃ avs,(s'.rows 0).c = .sus avs us∧awp P C c Q ⟨s.n,look (ts.zip avs),s'.rows⟩):awp P C (.rangeFunc g ps assign body) Q s:=by
 rintro a w ⟨p,hS⟩
 have hn:∀ o w Ψ Θ,¬ C.X.X o w Ψ Θ:=fun o w Ψ Θ h=>by rw[hC] at h;exact h
 have hF0:fnc C.rd=Fence.wide:=by rw[hrd];rfl
 rw[hF0]
 refine wpIn_rangeFunc fun fn _=>?_
 obtain⟨vsC,hgv,hcs⟩:∃ vs:Array Value,a.eval g = .func (.func F) vs #[]∧RV.relV w p.R args vs.toList:=by
  have:=hS.ev g
  rw[hF] at this
  simpa only[AV.rel,RV.rel] using this
 have hψ0:=hS.ex.ψn hn
 obtain⟨rec,hrec⟩:∃ rec:LoopState→Option Code→Loop,rec=fun st pe=>{ state:=st,pending:=pe,fn,tmps:=a.tmps,params:=ps,assign,body,defers:=w.heap.size }:=⟨_,rfl⟩
 obtain⟨w1,hw1⟩:∃ w1,(w.alloc (.deferred (some []))).alloc (.loop (rec .ready none))=w1:=⟨_,rfl⟩
 obtain⟨L,hLdef⟩:∃ L,L=w.heap.size+1:=⟨_,rfl⟩
 obtain⟨aL,haL⟩:∃ aL:Act,aL={ tmps:=a.tmps,defers:={ target:=.collected w.heap.size,args:=#[] }::a.defers }:=⟨_,rfl⟩
 have hS1:SR C p s aL w1:=by rw[haL,← hw1];exact hS.enter hrd _
 have hsz1:w1.heap.size=w.heap.size+2:=by rw[← hw1];simp
 have hL1:w1.heap[L]? = some (.loop (rec .ready none)):=by
  rw[← hw1,hLdef];have:=World.alloc_heap_new (w.alloc (.deferred (some []))) (.loop (rec .ready none));rwa [World.size_alloc] at this
 have hLR:¬ p.R L:=fun h=>by have:=hS.rb L h;omega
 have hLβ:∀ k,p.β k≠some L:=fun k h=>by have:=(hS.bl k L h).1;omega
 have hL0:C.w0.heap.size≤L:=by have:=hS.base.size;omega
 have hLm:∀ d∈aL.defers,d.target ≠ .collected L:=fun d hd e=>by
  obtain⟨Ds,g1,_,g3⟩:=hS1.ex.df
  rw[g1] at hd
  obtain⟨D,hD,rfl⟩:=List.mem_map.1 hd
  injection e with e
  subst e
  have:=(g3 _ hD).1
  rw[hL1] at this;cases this
 obtain⟨us,hus⟩:∃ us,us=ts.map fun t=>aL.tmps.getD t undef:=⟨_,rfl⟩
 have hS2:=hS1.wait hdead ts
 rw[← hus,← look_nil'] at hS2
 have htmps:aL.tmps=a.tmps:=by rw[haL]
 have hsn:s.n=aL.tmps.size:=by rw[htmps];exact hS.sz.symm
 let X:XS:={ l:=L,z:=z,n0:=w1.heap.size,R:=p.R,X:=XJ C aL L rec (fun left s'=>I left us s') (fun c s'=>J c us s'),st:=XJ.st hn }
 have hcap:RV.relV w1 p.R args vsC.toList:=RV.relV_mono (fun _ h=>h) (fun ad hr=>World.cell?_of_block (by rw[← hw1];exact (Below.heap_alloc _ _ _ (by have:=hS.rb _ hr;simp;omega)).trans (Below.heap_alloc _ _ _ (hS.rb _ hr)))) _ _ hcs
 have hY:YOk P X:=by
  intro e rest wv Ψ Θ R vs hX hR hV
  obtain⟨pv,sv,hSv,hsnv,⟨hIv,hLv⟩,hLRv,hLβv,hΨv,hΘv⟩:=hX
  have hψv:=hSv.ex.ψn hn
  obtain⟨hlen,avs,hrow,hround⟩:=round e rest us sv (hsnv.trans hsn.symm) hIv
  have hvs:vs.size=ps.size:=by have:=RV.relV_length hV;simp only[Array.length_toList] at this;omega
  have hltv:L<wv.heap.size:=(Array.getElem?_eq_some_iff.1 hLv).1
  have hy:=run_yield (P:=P) (args:=vs) hLv (by rw[hrec];exact hvs)
  rw[hrec] at hy
  refine⟨fn,_,assign,body,hy,?_⟩
  have hRβ:∀ b,R b→b<wv.heap.size∧∀ k,pv.β k≠some b:=fun b hb=>⟨(hR b hb).1,fun k hk=>(hR b hb).2.1 ((hΘv b).2 (.inl ⟨k,hk⟩))⟩
  have hRL:¬ R L:=fun hb=>(hR L hb).2.1 ((hΘv L).2 (.inr rfl))
  have hkv:Kept wv wv pv { pv with R:=fun b=>pv.R b∨R b } sv.ver sv.ver:=⟨fun _ h=>.inl h,fun _ _=>rfl,fun _=>Nat.le_refl _,fun _ _=>⟨rfl,rfl⟩⟩
  have haw:=hSv.awake (by rw[hrow,hus])
  have hzip:(ps.zip vs).foldl (fun tmps (x:Nat × Value)=>tmps.setIfInBounds x.1 x.2) a.tmps=(ps.toList.zip vs.toList).foldl (fun tmps (x:Nat × Value)=>tmps.setIfInBounds x.1 x.2) a.tmps:=by
   rw[← Array.foldl_toList,Array.toList_zip]
  obtain⟨hpsz,hprel⟩:=zFi (w:=wv) (p:={ pv with R:=fun b=>pv.R b∨R b }) (ver:=sv.ver) ps.toList e vs.toList (look (ts.zip avs)) a.tmps (RV.relV_mono (fun _ h=>.inr h) (fun _ _=>rfl) _ _ hV)
   (fun t ht=>by rw[← htmps,← hsn];exact hps t ht) (fun t=>by rw[← htmps];exact AV.rel_mono hkv _ _ (haw.tm t))
  let Hd:Nat→Prop:=fun b=>b=L∨∃ d∈aL.defers,d.target = .collected b
  have hHd:∀ b,Hd b→b<wv.heap.size∧¬ C.bor b∧¬ pv.R b∧¬ R b∧∀ k,pv.β k≠some b:=fun b hb=>by
   rcases hb with rfl|⟨d,hd,hdt⟩
   ·exact⟨hltv,fun hb=>by have:=hS.ex.bo b (.inl hb);omega,hLRv,hRL,hLβv⟩
   ·obtain⟨Ds,g1,_,g3⟩:=hSv.ex.df
    rw[g1] at hd
    obtain⟨D,hD,rfl⟩:=List.mem_map.1 hd
    injection hdt with hdt
    subst hdt
    obtain⟨k1,k2,k3,k4,k5,k6⟩:=g3 D hD
    refine⟨(Array.getElem?_eq_some_iff.1 k1).1,fun hb=>by have:=hS.ex.bo D (.inl hb);omega,k3,fun hr=>?_,k4⟩
    have hD1:D<w1.heap.size:=by
     obtain⟨Ds',q1,_,q3⟩:=hS1.ex.df
     have:Ds'=Ds:=zA3 (q1.symm.trans g1)
     subst this
     exact (Array.getElem?_eq_some_iff.1 (q3 D hD).1).1
    rcases (hR D hr).2.2 with q|q
    ·obtain⟨Ds',q1,_,q3⟩:=hS1.ex.df
     have:Ds'=Ds:=zA3 (q1.symm.trans g1)
     subst this
     exact (q3 D hD).2.2.1 q
    ·have q':w1.heap.size≤D:=q
     omega
  have hSa:=hSv.into (L:=L) (w2:=wv) (R:=R) (rd:=some L) (Hd:=Hd) (a':={ tmps:=(ps.zip vs).foldl (fun tmps (x:Nat × Value)=>tmps.setIfInBounds x.1 x.2) a.tmps,defers:=[] }) (tm':=psA ps.toList e (look (ts.zip avs)))
   hn rfl rfl rfl rfl (fun _ _=>rfl) hLRv hLβv hRβ (fun t=>by rw[hzip];exact hprel t) (by rw[hzip,hpsz,← htmps];exact hsnv.symm) rfl hHd hC
  have hna:=hsnv.trans hsn.symm
  refine roundIn_of_wpIn trivial ?_
  have hassign:=hround (Cin C pv R wv (some L) Hd) _ _ ⟨_,hna▸hSa⟩
  refine wpIn_mono hassign ?_
  rintro x a1 wa ⟨s1,⟨p1,hS1a⟩,rfl,hbody⟩
  have hLa:wa.heap[L]? = some (.loop (rec .ready none)):=(hS1a.base.block L hltv (fun ⟨hb,_⟩=>(hHd L (.inl rfl)).2.1 hb) (fun ⟨k,hk,_⟩=>hLβv k hk)).trans hLv
  have hlta:L<wa.heap.size:=(Array.getElem?_eq_some_iff.1 hLa).1
  refine⟨_,run_beginRound hLa (by rw[hrec]),?_⟩
  have hop1:=Hop.of (L:=L) (w:=wv) (w2:=wv) rfl rfl rfl rfl (fun _ _=>rfl) hS1a
  have hHd1:∀ b,Hd b→b<wa.heap.size∧¬ (Cin C pv R wv (some L) Hd).bor b∧¬ p1.R b∧¬ False∧∀ k,p1.β k≠some b:=fun b hb=>by
   obtain⟨_,q2,_,q4,q5,_,_,q8⟩:=hS1a.ex.hd b hb
   exact⟨q4,q2,q5,fun h=>h,q8⟩
  have hS1b:=hS1a.into (L:=L) (w2:=wa.putObj L (.loop { rec .ready none with state:=.busy })) (R:=fun _=>False) (rd:=some L) (Hd:=Hd) (a':=a1) (tm':=s1.tm) hn rfl rfl rfl World.putObj_size zAC
   (hHd1 L (.inl rfl)).2.2.1 (hHd1 L (.inl rfl)).2.2.2.2 (fun _ h=>h.elim) (fun t=>by
    have hk1:Kept wa (wa.putObj L (.loop { rec .ready none with state:=.busy })) p1 { p1 with R:=fun b=>p1.R b∨False } s1.ver s1.ver :=
     ⟨fun _ h=>.inl h,fun ad hr=>World.cell?_of_block (zAC _ fun e=>(hHd1 L (.inl rfl)).2.2.1 (e▸hr)),fun _=>Nat.le_refl _,fun _ _=>⟨rfl,rfl⟩⟩
    exact AV.rel_mono hk1 _ _ (hS1a.tm t)) hS1a.sz (hS1a.ex.rm rfl) hHd1 hC
  refine wpIn_mono (hbody _ _ _ ⟨_,hS1b⟩) ?_
  have hLb:(wa.putObj L (.loop { rec .ready none with state:=.busy })).heap[L]? = some (.loop { rec .ready none with state:=.busy }):=World.putObj_heap_same hlta
  have hRo:∀ b,R b→b<wv.heap.size∧(∀ d∈aL.defers,d.target ≠ .collected b)∧¬ C.hd b∧(C.R0 b∨C.w0.heap.size≤b∨C.own b):=fun b hb=>by
   have hsz0:=hS.base.size
   refine⟨(hR b hb).1,fun d hd hdt=>(hHd b (.inr ⟨d,hd,hdt⟩)).2.2.2.1 hb,fun hh=>?_,?_⟩
   ·obtain⟨q1,_,_,_,q5,_⟩:=hS.ex.hd b hh
    rcases (hR b hb).2.2 with q|q
    ·exact q5 q
    ·have q':w1.heap.size≤b:=q;omega
   ·rcases (hR b hb).2.2 with q|q
    ·exact hS.rn b q
    ·have q':w1.heap.size≤b:=q;exact .inr (.inl (by omega))
  have fin:∀ (jump:Option Code) (s3:AS) (p3:Plan) (a3:Act) (w3:World),SR (Cin (Cin C pv R wv (some L) Hd) p1 (fun _=>False) (wa.putObj L (.loop { rec .ready none with state:=.busy })) (some L) Hd) p3 s3 a3 w3 →
   (match jump with|none=>∃ s4,Sub s3 s4∧I rest us ⟨s.n,look [],s4.rows⟩|some c=>∃ s4,Sub s3 s4∧J c us ⟨s.n,look [],s4.rows⟩) →
   ∃ v w', (Instr.endRound L jump).run P w3 = .ok v w'∧(w'.os=wv.os∧w'.tape=wv.tape∧w'.output=wv.output∧wv.heap.size≤w'.heap.size∧(∀ b, b<wv.heap.size→¬ Θ b→w'.heap[b]? = wv.heap[b]?) ∧
     ∃ Ψ' Θ':Nat→Prop,(∀ b,Ψ' b→Ψ b∨R b∨wv.heap.size≤b)∧(∀ b,Θ' b→Θ b∨wv.heap.size≤b)∧(∀ b,Ψ' b→b<w'.heap.size)∧(∀ b,Θ' b→b<w'.heap.size) ∧
     ((Ending.returned v = .returned (.bool true)∧X.X (some rest) w' Ψ' Θ')∨(Ending.returned v = .returned (.bool false)∧X.X Option.none w' Ψ' Θ'))):=by
   intro jump s30 p30 a3 w3 h30 hj0
   obtain⟨s3,hsub,hj⟩:∃ s4,Sub s30 s4∧(match jump with|none=>I rest us ⟨s.n,look [],s4.rows⟩|some c=>J c us ⟨s.n,look [],s4.rows⟩):=by
    cases jump with
    | none=>exact hj0
    | some c=>exact hj0
   obtain⟨p3,h3⟩:=hsub _ _ _ ⟨p30,h30⟩
   have hL3:w3.heap[L]? = some (.loop { rec .ready none with state:=.busy }):=by
    refine (h3.base.block L (by show L<(wa.putObj L _).heap.size;rw[World.putObj_size];exact hlta) (fun ⟨hb,_⟩=>(hHd1 L (.inl rfl)).2.1 hb) (fun ⟨k,hk,_⟩=>(hHd1 L (.inl rfl)).2.2.2.2 k hk)).trans hLb
   obtain⟨_,_,_,_,e5,_,_,e8⟩:=h3.ex.hd L (.inl rfl)
   have hend:=run_endRound (P:=P) jump hL3
   have hlt3:L<w3.heap.size:=(Array.getElem?_eq_some_iff.1 hL3).1
   have hop2:=Hop.of (C:=Cin C pv R wv (some L) Hd) (p:=p1) (L:=L) (w:=wa) (w2:=wa.putObj L (.loop { rec .ready none with state:=.busy })) (R:=fun _=>False) rfl rfl rfl World.putObj_size zAC h3
   obtain⟨o4,ho4⟩:∃ o4,o4=Obj.loop { { rec .ready none with state:=.busy } with state:=if jump.isNone then .ready else .done,pending:=jump }:=⟨_,rfl⟩
   rw[← ho4] at hend
   have hop:=(Hop.trans (C':=Cin C pv R wv (some L) Hd) hop1 (fun _=>Iff.rfl) hop2).put (o:=o4)
   have hL4:(w3.putObj L o4).heap[L]? = some (.loop (rec (if jump.isNone then .ready else .done) jump)):=by
    rw[World.putObj_heap_same hlt3,ho4,hrec]
   have hS4:SR C p3 ⟨s.n,look [],s3.rows⟩ aL (w3.putObj L o4):=by
    have:=hSv.land (C':=Cin (Cin C pv R wv (some L) Hd) p1 (fun _=>False) (wa.putObj L (.loop { rec .ready none with state:=.busy })) (some L) Hd) hn hL0 hLm hop hRo rfl rfl h3 e5 e8 rfl rfl rfl World.putObj_size zAC
    rw[hna,← look_nil'] at this
    exact this
   have hψ4:=hS4.ex.ψn hn
   refine⟨_,_,hend,hop.os,hop.tape,hop.output,hop.size,fun b hb hθ=>hop.heap b hb (fun k hk=>hθ ((hΘv b).2 (.inl ⟨k,hk⟩))) (fun e=>hθ ((hΘv b).2 (.inr e))),
    fun b=>p3.R b∨(∃ k,p3.β k=some b)∨(b<C.w0.heap.size∧¬ C.bor b∧¬ C.own b)∨b=L∨C.hd b∨∃ d∈aL.defers,d.target = .collected b,fun b=>(∃ k,p3.β k=some b)∨b=L,fun b hb=>?_,fun b hb=>?_,fun b hb=>?_,fun b hb=>?_,?_⟩
   ·rcases hb with g|⟨k,g⟩|g|g|g|g
    ·rcases hop.rn b g with q|q|q|⟨k,q,_⟩
     ·exact .inl ((hΨv b).2 (.inl q))
     ·exact .inr (.inl q)
     ·exact .inr (.inr q)
     ·exact .inl ((hΨv b).2 (.inr (.inl ⟨k,q⟩)))
    ·rcases hop.bl k b g with q|⟨_,_,k',_,q⟩|⟨k',q,_⟩
     ·exact .inr (.inr q)
     ·exact .inl ((hΨv b).2 (.inr (.inl ⟨k',q⟩)))
     ·exact .inl ((hΨv b).2 (.inr (.inl ⟨k',q⟩)))
    ·exact .inl ((hΨv b).2 (.inr (.inr (.inl g))))
    ·exact .inl ((hΨv b).2 (.inr (.inr (.inr (.inl g)))))
    ·exact .inl ((hΨv b).2 (.inr (.inr (.inr (.inr (.inl g))))))
    ·exact .inl ((hΨv b).2 (.inr (.inr (.inr (.inr (.inr g))))))
   ·rcases hb with⟨k,g⟩|g
    ·rcases hop.bl k b g with q|⟨_,_,k',_,q⟩|⟨k',q,_⟩
     ·exact .inr q
     ·exact .inl ((hΘv b).2 (.inl ⟨k',q⟩))
     ·exact .inl ((hΘv b).2 (.inl ⟨k',q⟩))
    ·exact .inl ((hΘv b).2 (.inr g))
   ·have hsz4:=hS4.base.size
    rcases hb with g|⟨k,g⟩|g|rfl|g|⟨d,hd,hdt⟩
    ·exact hS4.rb b g
    ·exact (hS4.bl k b g).1
    ·omega
    ·rw[World.putObj_size];exact hlt3
    ·exact (hS4.ex.hd b g).2.2.2.1
    ·exact Nat.lt_of_lt_of_le (hHd b (.inr ⟨d,hd,hdt⟩)).1 hop.size
   ·rcases hb with⟨k,g⟩|rfl
    ·exact (hS4.bl k b g).1
    ·rw[World.putObj_size];exact hlt3
   ·cases jump with
    | none=>exact .inl ⟨rfl,p3,_,hS4,hsn,⟨hj,hL4⟩,e5,e8,fun _=>Iff.rfl,fun _=>Iff.rfl⟩
    | some c=>exact .inr ⟨rfl,p3,_,hS4,hsn,⟨c,hj,hL4⟩,e5,e8,fun _=>Iff.rfl,fun _=>Iff.rfl⟩
  rintro en a3 w3 ⟨s3,⟨p3,h3⟩,hq⟩
  cases en with
  | normal=>exact fin none s3 p3 a3 w3 h3 hq
  | ret=>exact fin (some .ret) s3 p3 a3 w3 h3 hq
  | exit id=>exact fin (some (.exit id)) s3 p3 a3 w3 h3 hq
  | goto l=>exact fin (some (.goto l)) s3 p3 a3 w3 h3 hq
  | panic ch=>exact hq.elim
  | outgrown=>exact hq.elim
 have hX0:X.X (some xs) w1 (fun b=>p.R b∨(∃ k,p.β k=some b)∨(b<C.w0.heap.size∧¬ C.bor b∧¬ C.own b)∨b=L∨C.hd b∨∃ d∈aL.defers,d.target = .collected b) (fun b=>(∃ k,p.β k=some b)∨b=L) :=
  ⟨p,_,hS2,hsn,⟨h0 us,hL1⟩,hLR,hLβ,fun _=>Iff.rfl,fun _=>Iff.rfl⟩
 have hlt1:L<w1.heap.size:=(Array.getElem?_eq_some_iff.1 hL1).1
 have hcall:=hI.2 w1 p.R vsC X _ _ hS1.rb hcap rfl (fun hz b hb=>hb) (Nat.le_refl _) hY (fun b hb=>by
  have hszw:=hS1.base.size
  rcases hb with g|⟨k,g⟩|g|rfl|g|⟨d,hd,hdt⟩
  ·exact hS1.rb b g
  ·exact (hS1.bl k b g).1
  ·omega
  ·exact hlt1
  ·exact (hS1.ex.hd b g).2.2.2.1
  ·obtain⟨Ds,g1,_,g3⟩:=hS1.ex.df
   rw[g1] at hd
   obtain⟨D,hD,rfl⟩:=List.mem_map.1 hd
   injection hdt with hdt
   subst hdt
   exact (Array.getElem?_eq_some_iff.1 (g3 D hD).1).1) (fun b hb=>by
  rcases hb with⟨k,g⟩|rfl
  ·exact (hS1.bl k b g).1
  ·exact hlt1) (fun b hb hθ=>by
  rcases hθ with⟨k,g⟩|rfl
  ·exact (hS1.bl k b g).2.1 hb
  ·exact hLR hb) (fun o w' Ψ' Θ' hx=>by
   obtain⟨p',s',hS',_,⟨hI',_⟩,_⟩:=hx
   exact hpk _ _ _ hI' _ _ _ hS') hX0
 have e1:(Instr.enterLoop fn a.tmps ps assign body none).run P w = .ok (L,[{ target:=.collected w.heap.size,args:=#[] }]) w1:=by
  rw[run_enterLoop_outer,← hw1,hrec,hLdef]
 have e2:(resolve a.eval (rangeCall g L) 0).run P w1 = .ok { target:=.fn (.func F) #[],args:=vsC ++ #[.func (.yield L) #[] #[]] } w1:=by
  simp only[resolve,hgv,Sem.run_bind,Deferred.ofValue,Sem.run_pure,Result.andThen_ok]
  simp [Act.eval]
 have e3:(invoke (.fn (.func F) #[]) (vsC ++ #[.func (.yield L) #[] #[]])).run P w1 = .ok (.enter F (vsC ++ #[.func (.yield L) #[] #[]])) w1:=by
  simp only[invoke]
  have:=zAn hI.1 (vsC ++ #[.func (.yield L) #[] #[]] ++ #[]) w1
  simpa using this
 have e4:Fence.wide.depth.isSome=true→1≤0:=fun h=>by simp [Fence.wide] at h
 refine⟨L,_,w1,_,w1,F,_,w1,e1,e2,?_,e3,e4,?_⟩
 ·intro f' _;exact trivial
 ·refine callsIn_wide.2 (hcall.mono ?_)
  have haL':({ a with defers:=[{ target:=.collected w.heap.size,args:=#[] }]++a.defers }:Act)=aL:=by rw[haL];rfl
  rintro e w' ⟨⟨v,rfl⟩,Ψ',Θ',hX|hX⟩
  ·obtain⟨p',s',hS',hsn',⟨hI',hL'⟩,hLR',hLβ',_⟩:=hX
   have hend:=run_endLoop (P:=P) hL' (by rw[hrec];simp)
   have hp:(rec .ready none).pending=none:=by rw[hrec]
   rw[hp] at hend
   refine⟨none,_,hend,?_⟩
   obtain⟨avs,hrow,hQ⟩:=done us s' (hsn'.trans hsn.symm) hI'
   have hS4:∀ o,SR C p' ⟨s.n,look (ts.zip avs),s'.rows⟩ aL (w'.putObj L o):=fun o=>by
    have:=(hS'.turn (o:=o) hLR' hLβ' hL0 (hS'.ex.ψn hn) hLm).awake (by rw[hrow,hus])
    rw[hsn'.trans hsn.symm] at this
    exact this
   rw[haL']
   exact⟨_,⟨_,hS4 _⟩,hQ⟩
  ·obtain⟨p',s',hS',hsn',⟨c,hJ',hL'⟩,hLR',hLβ',_⟩:=hX
   have hend:=run_endLoop (P:=P) hL' (by rw[hrec];simp)
   have hp:(rec .done (some c)).pending=some c:=by rw[hrec]
   rw[hp] at hend
   refine⟨some c,_,hend,?_⟩
   obtain⟨avs,hrow,hQ⟩:=stop c us s' (hsn'.trans hsn.symm) hJ'
   have hS4:∀ o,SR C p' ⟨s.n,look (ts.zip avs),s'.rows⟩ aL (w'.putObj L o):=fun o=>by
    have:=(hS'.turn (o:=o) hLR' hLβ' hL0 (hS'.ex.ψn hn) hLm).awake (by rw[hrow,hus])
    rw[hsn'.trans hsn.symm] at this
    exact this
   have hQ':=fun o=>hQ _ _ ⟨_,hS4 o⟩
   rw[hF0] at hQ'
   rw[haL']
   exact hQ' _
end
theorem zML {P:Program}{C:Ctx}{u:Addr}{pk:List (Nat × Int)}{n:Nat}{s:AS}{t:Nat}{ps:Array Tmp}{assign body:Code}{Q:Exit→AS→Prop}(hC:C.rd=none∧C.X=XS.none) {f:FuncId}{caps:List RV}{z:Bool}(xs:List (List RV)) (hI:zJU P u pk z f caps xs) (k t0:Nat)
 (ts:List Nat) (hnd:ts.Nodup) (F:(Nat→Nat)→List (Nat × AV)) (R:Nat→(Nat→Nat)→List (Nat × RowC)) (I:Nat→Prop) (h0:FitV n F (R 0) s) (hi0:I 0)
 (hu:∀ vs,(t0,AV.pu k (vs k) u)∈F vs) (hbx:∀ i vs,∃ cs,zAG (R i vs) k = .box cs∧∀ x∈pk,cs[x.1]? = some (.r (.it .i64 x.2))) (hk0:k≠0) (hts:∀ vs,(F vs).map (·.1)=ts) (hg:∀ vs,look (F vs) t = .r (.bf f caps)) (hd:∀ i vs,zAG (R i vs) 0 = .dead) (hps:∀ t∈ps.toList,t<n) (hlen:∀ e∈xs,e.length=ps.size)
 (round:∀ i e vs us C,xs[i]? = some e→I i→awp P C assign (fun x s2=>x = .normal∧∀ C,awp P C body (zJu n ts Q (fun s3=>I (i+1)∧∃ vs',Sub s3 (st n [] vs' ((0,.sus ((F vs').map (·.2)) us)::R (i+1) vs'))) us) s2)
  (st n (psL ps.toList e (F vs)) vs ((0,.sus ((F vs).map (·.2)) us)::R i vs)))
 (done:∀ vs us,I xs.length→Q .normal (st n (F vs) vs ((0,.sus ((F vs).map (·.2)) us)::R xs.length vs))):awp P C (.rangeFunc (.tmp t) ps assign body) Q s:=by
 obtain⟨vs0,h0⟩:=h0
 refine zw h0 ?_
 have hdrop:∀ i e rest,xs.drop i=e::rest→xs[i]? = some e∧xs.drop (i+1)=rest:=fun i e rest h=>by
  refine⟨?_,by rw[← List.drop_drop,h];rfl⟩
  have:(xs.drop i)[0]? = some e:=by rw[h];rfl
  simpa using this
 have hz:∀ vs,ts.zip ((F vs).map (·.2))=F vs:=fun vs=>by rw[← hts vs];exact zD9 _
 refine zHZ hC.1 hC.2 (F:=f) (args:=caps) (xs:=xs) (z:=z) (by
  show look (F vs0) t=_
  rw[hg]) hI (hd 0 vs0) ts hps
  (fun left us s'=>∃ i vs,left=xs.drop i∧i≤xs.length∧I i∧s'=st n [] vs ((0,.sus ((F vs).map (·.2)) us)::R i vs))
  (fun c us s'=>∃ avs,(s'.rows 0).c = .sus avs us∧((c = .ret∧Q .ret ⟨n,look (ts.zip avs),s'.rows⟩)∨∃ id,c = .exit id∧Q (.exit id) ⟨n,look (ts.zip avs),s'.rows⟩))
  (by
   rintro left us s' ⟨i,vs,_,_,_,rfl⟩ p' a' w' hS'
   obtain⟨cs,hcs,hpk⟩:=hbx i vs
   exact zTr hS' (by rw[zlc,if_neg hk0];exact hcs) hpk (List.mem_map.2 ⟨_,hu vs,rfl⟩:AV.pu k (vs k) u∈(F vs).map (·.2)))
  (fun us=>⟨0,vs0,rfl,Nat.zero_le _,hi0,?_⟩) ?_ ?_ ?_
 ·refine (zCW (c:=.sus (ts.map (st n (F vs0) vs0 (R 0 vs0)).tm) us)).trans ?_
  congr 3
  have hk:(F vs0).map (·.2)=ts.map (look (F vs0)):=by
   have:=zDJ (F vs0) (by rw[hts vs0];exact hnd)
   rw[hts vs0] at this
   exact this
  rw[hk];rfl
 ·rintro e rest us s' _ ⟨i,vs,hl,hle,hI',rfl⟩
  obtain⟨h1,h2⟩:=hdrop i e rest hl.symm
  refine⟨hlen e (List.mem_of_getElem? h1),(F vs).map (·.2),rfl,fun C'=>?_⟩
  have hr:=round i e vs us C' h1 hI'
  rw[hz,zEF]
  refine zAi ?_ hr
  rintro x s2 ⟨hx,hbody⟩
  refine⟨hx,fun C''=>zAi ?_ (hbody C'')⟩
  intro x s3 hq
  cases x with
  | normal =>
    obtain⟨hI3,vs',hsub⟩:=hq
    refine⟨_,hsub,i+1,vs',h2.symm,?_,hI3,rfl⟩
    have:=(List.getElem?_eq_some_iff.1 h1).1
    omega
  | ret =>
    obtain⟨avs,h3,h4⟩:=hq
    exact⟨s3,Sub.refl _,avs,h3,.inl ⟨rfl,h4⟩⟩
  | exit id =>
    obtain⟨avs,h3,h4⟩:=hq
    exact⟨s3,Sub.refl _,avs,h3,.inr ⟨id,rfl,h4⟩⟩
  | goto l=>exact hq.elim
  | panic c=>exact hq.elim
  | outgrown=>exact hq.elim
 ·rintro us s' _ ⟨i,vs,hl,hle,hI',rfl⟩
  have hi:i=xs.length:=by
   have:(xs.drop i).length=0:=by rw[← hl];rfl
   rw[List.length_drop] at this;omega
  subst hi
  refine⟨(F vs).map (·.2),rfl,?_⟩
  have:=done vs us hI'
  rw[hz]
  exact this
 ·rintro c us s' _ ⟨avs,h3,h4⟩
  refine⟨avs,h3,?_⟩
  rcases h4 with⟨rfl,h4⟩|⟨id,rfl,h4⟩
  ·exact ze h4
  ·exact zf h4
theorem zKW {P:Program}{s:AS}{o:Oper}{x:Operand}{K:AS→Prop}(ho:o.op = .nilCheck x) {u:Addr}(hx:s.ev x = .r (.vl u)) (hK:K (s.put o.dst (.r (.vl u)))):gop P o K s:=by
 intro C p a w h hd hnd KW Q hKW
 have hv:a.eval x = .pointer (some u):=by
  have:=h.ev x
  rw[hx] at this
  simpa only[AV.rel,RV.rel] using this
 have hr:(execOp a.eval o).run P w = .ok (.value (.pointer (some u))) w:=by simp [execOp,ho,hv]
 refine zAa hnd ?_
 unfold Oper.wp
 rw[hr]
 have hput:=h.put' (d:=o.dst) (av:=.r (.vl u)) (v:=.pointer (some u)) (by simp only[AV.rel,RV.rel]) hd
 exact hKW _ _ p _ hput (zN3 _ _ _) hK
theorem zDa {P:Program}{s:AS}{o:Oper}{x:Operand}{t:TypeId}{f:Nat}{K:AS→Prop}(ho:o.op = .fieldAddr t x f) {u:Addr}(hx:s.ev x = .r (.vl u)) {fs:List (Nat × Nat × Bool)}{sz:Nat}{agg:Bool}{z:List RV}(e1:tyq P t=some ⟨.struct fs,sz,agg,z⟩) {off sz2:Nat}{agg2:Bool}(e2:fs[f]? = some (off,sz2,agg2))
 (hK:K (s.put o.dst (.r (.vl (u.add off))))):gop P o K s:=by
 intro C p a w h hd hnd KW Q hKW
 have hv:a.eval x = .pointer (some u):=by
  have:=h.ev x
  rw[hx] at this
  simpa only[AV.rel,RV.rel] using this
 obtain⟨fields,hu,hfs,hall⟩:=zEA e1
 rw[hfs] at e2
 obtain⟨g,hg,hx2,hm⟩:=zFq e2
 injection hx2 with hx1 hx2
 subst hx1
 obtain⟨hok,hz⟩:=hall g hm
 have hr:(execOp a.eval o).run P w = .ok (.value (.pointer (some (u.add g.offset)))) w:=by simp [execOp,ho,hv,zDV hu hg hok hz]
 refine zAa hnd ?_
 unfold Oper.wp
 rw[hr]
 have hput:=h.put' (d:=o.dst) (av:=.r (.vl (u.add g.offset))) (v:=.pointer (some (u.add g.offset))) (by simp only[AV.rel,RV.rel]) hd
 exact hKW _ _ p _ hput (zN3 _ _ _) hK
theorem zGd {P:Program}{C:Ctx}{n:Nat}{l:List (Nat × AV)}{vs:Nat→Nat}{cs:List (Nat × RowC)}{Q:Exit→AS→Prop}{ops:Array Oper}{o:Oper}{rest:List Oper}{x:Operand}{t:TypeId}{u:Addr}{pk:List (Nat × Int)}(hPk:∀ o w Ψ Θ,C.X.X (some o) w Ψ Θ→zRT u pk w) (hg:o.guard=none) (hd:∀ t,o.dst=some t→t<n) (hnd:∀ c,o.op ≠ .defer c)
 (ho:o.op = .load t x) {T:TI}(e1:tyq P t=some T) (hagg:T.agg=false) {off:Nat}{m:Int}(hm:(off,m)∈pk) (hx:(st n l vs cs).ev x = .r (.vl (u.add off))) {ll:Nat}{z:Bool}{xs:List (List RV)}(hrow:zAG cs 999 = .gh P ll z (some xs))
 (hK:sops P C ops rest Q ((st n l vs cs).put o.dst (.r (.it .i64 m)))):sops P C ops (o::rest) Q (st n l vs cs):=fun a w ⟨p,hs⟩=>by
 unfold wpListIn
 rw[if_pos (zAq hs (by simp [zAN,hg]))]
 have hv:a.eval x = .pointer (some (u.add off)):=by
  have:=hs.ev x
  rw[hx] at this
  simpa only[AV.rel,RV.rel] using this
 have hr:=hs.rw 999
 have e9:((st n l vs cs).rows 999).c = .gh P ll z (some xs):=hrow
 rw[e9] at hr
 simp only[zrl] at hr
 have hXX:=hr.2.2.2.2.2.2
 rw[hs.ex.px] at hXX
 have hcell:=hPk _ _ _ _ hXX _ hm
 have hrun:=zBF (w:=w) e1 (ad:=u.add off) (us:=[.int .i64 m]) (fun i v hi=>by
  match i,hi with
  | 0, hi =>
    simp at hi
    subst hi
    simpa [Addr.add] using hcell) (by simp [need,hagg])
 rw[hagg] at hrun
 have hr:(execOp a.eval o).run P w = .ok (.value (.int .i64 m)) w:=by simp [execOp,ho,hv,Instr.loadAt,Instr.sureAddr,hrun]
 refine zAa hnd ?_
 unfold Oper.wp
 rw[hr]
 have hput:=hs.put' (d:=o.dst) (av:=.r (.it .i64 m)) (v:=.int .i64 m) (by simp only[AV.rel,RV.rel]) hd
 exact hK _ _ ⟨p,hput⟩
theorem zRd {n:Nat}{l:List (Nat × AV)}{vs:Nat→Nat}{cs:List (Nat × RowC)}(t t0:Nat) {k:Nat}{u:Addr}(ht0:look l t0 = .pu k (vs k) u) (ht:look l t = .pt k (vs k) 0):Sub (st n l vs cs) (st n ((t,.r (.vl u))::l) vs cs):=fun C a w ⟨p,hp⟩=>by
 have h0:=hp.tm t0
 have e0:(st n l vs cs).tm t0 = .pu k (vs k) u:=ht0
 rw[e0] at h0
 simp only[AV.rel] at h0
 obtain⟨hv1,hv2,hv3⟩:=h0
 refine⟨p,{ hp with tm:=fun j=>?_ }⟩
 show AV.rel w _ _ (look ((t,.r (.vl u))::l) j) _
 rw[zAZ]
 split
 ·rename_i e
  subst e
  have hx:=hp.tm j
  have e2:(st n l vs cs).tm j = .pt k (vs k) 0:=ht
  rw[e2] at hx
  simp only[AV.rel,RV.rel] at hx ⊢
  obtain⟨b,hb,hbv⟩:=hv3 rfl
  obtain⟨b',hb',hbv'⟩:=hx.2 rfl
  rw[hb] at hb'
  injection hb' with hb'
  subst hb'
  rw[hbv']
  exact hbv.symm.trans hv1
 ·exact hp.tm j
end Go.Oc

namespace Go.Proofs.YtgfbenanljjgaaaGreat.Du.Th.Ai
open Go Go.Oc
set_option maxRecDepth 8000
set_option maxHeartbeats 4000000
theorem zLg (r:Rk) (s:Bool) (h0:0≤r.start+1) (h1:r.start≤1000):zLK Tryz.prog 85 [rkR r,.bo s] [(10,.arr 3 1 (arrV (List.replicate (r.start+1).toNat 0))),(12,.box [.r (i64 r.d),.r (zAl r.aims),.r (i64 r.start),.r (i64 r.out),.r (.bo s),.os 10 0 1 0 (r.start+1).toNat])] (.pt 12 0 0):=by
 have w1:IntKind.i64.wrap (r.start+1)=r.start+1:=by rw[zI]<;>omega
 refine zKD (n:=13) _ _ (.tmp 4) Tryz.func85 rfl (by kernel_rfl) Tryz.ntmps85 rfl (by simp) rfl rfl fun C hC=>?_
 apply zq
 refine zb fun K hK=>?_;simp only[go_sem,argL];apply hK;clear hK K;refine zw (zfP 2 2 [i64 r.d,zAl r.aims,i64 r.start,i64 r.out] (by omega) rfl rfl) ?_;apply zw (zk [1,2]);simp only[go_sem]
 apply zq
 refine zAF [(1,none),(2,none)] follows (by decide +kernel) (by kernel_rfl) (by simp only[zAO,List.mem_cons,List.not_mem_nil,forall_eq_or_imp,Oc.keyOf,go_sem];simp) fun K hK=>?_
 simp only[go_sem,w1]
 refine⟨⟨h0,by omega,by omega⟩,?_⟩
 apply hK;clear hK K;apply zw (zk [4]);simp only[go_sem];apply ze
 try simp only[go_sem]
 simp
theorem zPj (r:Rk) (u:Addr) (hs:r.start≤1000):zJU Tryz.prog u [(2,r.start),(3,r.out)] true 75 [.vl u] ((List.range (cntA r)).map fun (i:Nat)=>[i64 (lowG r.out+(i:Int))]):=by
 have hlg:=zBW r.out
 refine zOi Tryz.func75 rfl (by kernel_rfl) Tryz.ntmps75 rfl (by simp) fun C ll hPk=>?_
 apply zq
 refine zBp ?_
 refine zBD 1 (by kernel_rfl) fun K hK=>?_
 simp only[go_sem,List.take_succ_cons,List.take_zero,List.drop_succ_cons,List.drop_zero,List.append_eq,List.cons_append,List.nil_append,argL]
 refine hK _ rfl ?_
 clear hK K
 refine zBl rfl (by intro t h;injection h with h;subst h;show 6<25;decide) (by intro c h;cases h) (zKW rfl (u:=u) (by simp only[go_sem]) ?_)
 try simp only[go_sem]
 refine zBl rfl (by intro t h;injection h with h;subst h;show 7<25;decide) (by intro c h;cases h) (zDa rfl (u:=u) (by simp only[go_sem]) zTc (off:=0) rfl ?_)
 try simp only[go_sem]
 refine zBl rfl (by intro t h;injection h with h;subst h;show 8<25;decide) (by intro c h;cases h) (zDa rfl (u:=u) (by simp only[go_sem]) ty27 (off:=3) rfl ?_)
 try simp only[go_sem]
 refine zGd hPk rfl (by intro t h;injection h with h;subst h;show 9<25;decide) (by intro c h;cases h) rfl (t:=25) (by simp only[go_sem];rfl) rfl (off:=3) (m:=r.out) (by simp) (by simp only[go_sem]) (by simp only[go_sem];rfl) ?_
 try simp only[go_sem]
 refine zBd (by kernel_rfl) fun K hK=>?_
 simp only[go_sem,List.drop_succ_cons,List.drop_zero,List.append_eq,List.cons_append,List.nil_append]
 refine zh (zJT r.out) rfl (by simp only[go_sem,i64,ints]) (by simp only[go_sem,i64,ints]) ?_
 (try simp only[go_sem]);apply hK;clear hK K;apply zw (zk [0,1,4]);simp only[go_sem];apply zd
 obtain⟨xs,hxs⟩:∃ xs:List (List RV),xs=(List.range (cntA r)).map fun (i:Nat)=>[i64 (lowG r.out+(i:Int))]:=⟨_,rfl⟩
 rw[← hxs]
 have hxl:xs.length=cntA r:=by rw[hxs];simp
 have hcnt:(cntA r:Int)=max 0 (r.start+1-lowG r.out):=by unfold cntA;omega
 refine zup (n:=25) (cntA r) (fun i vs=>[(0,.r (.vl u)),(1,.r (.yl ll)),(4,.r (i64 (lowG r.out+(i:Int))))])
  (fun i=>[(999,.gh Tryz.prog ll true (some (xs.drop i)))]) (fun _=>True) 0 (zfo [] ?_ ?_) (Nat.zero_le _) trivial ?_
 ·try simp only[go_sem]
  try simp
 ·try simp only[go_sem]
 ·intro i vs hi _
  have w1:IntKind.i64.wrap (lowG r.out+(i:Int)+1)=lowG r.out+(i:Int)+1:=by rw[zI]<;>omega
  have e1:lowG r.out+(i:Int)+1=lowG r.out+((i+1:Nat):Int):=by omega
  repeat apply zq
  refine zBp ?_
  refine zBD 2 (by kernel_rfl) fun K hK=>?_
  simp only[go_sem,List.take_succ_cons,List.take_zero,List.drop_succ_cons,List.drop_zero,List.append_eq,List.cons_append,List.nil_append]
  refine hK _ rfl ?_
  clear hK K
  refine zBl rfl (by intro t h;injection h with h;subst h;show 13<25;decide) (by intro c h;cases h) (zKW rfl (u:=u) (by simp only[go_sem]) ?_)
  try simp only[go_sem]
  refine zBl rfl (by intro t h;injection h with h;subst h;show 14<25;decide) (by intro c h;cases h) (zDa rfl (u:=u) (by simp only[go_sem]) zTc (off:=0) rfl ?_)
  try simp only[go_sem]
  refine zBl rfl (by intro t h;injection h with h;subst h;show 15<25;decide) (by intro c h;cases h) (zDa rfl (u:=u) (by simp only[go_sem]) ty27 (off:=2) rfl ?_)
  try simp only[go_sem]
  refine zGd hPk rfl (by intro t h;injection h with h;subst h;show 16<25;decide) (by intro c h;cases h) rfl (t:=3) (by simp only[go_sem];rfl) rfl (off:=2) (m:=r.start) (by simp) (by simp only[go_sem]) (by simp only[go_sem];rfl) ?_
  try simp only[go_sem]
  by_cases hlt:i<cntA r
  ·have e2:decide (lowG r.out+(i:Int)≤r.start)=true:=by simp;omega
   have he:xs.drop i=[i64 (lowG r.out+(i:Int))]::xs.drop (i+1):=by
    refine zAH ?_
    rw[hxs]
    simp [hlt]
   refine zBd (by kernel_rfl) fun K hK=>?_
   simp only[go_sem,List.drop_succ_cons,List.drop_zero,List.append_eq,List.cons_append,List.nil_append,e2]
   refine zA1 (z:=true) (e:=[i64 (lowG r.out+(i:Int))]) (rest:=xs.drop (i+1)) (by simp only[go_sem,he]) rfl (by simp only[go_sem]) (.inl rfl) ?_ ?_
   ·simp only[go_sem];apply hK;clear hK K;apply zw (zk [0,1,4,22]);simp only[go_sem]
    apply zc rfl<;>intro hc<;>(try simp only[go_sem] at hc)
    apply zx
    try simp only[go_sem]
    apply zq
    apply zd;apply zx
    try simp only[go_sem]
    refine zb fun K hK=>?_;simp only[go_sem,w1];apply hK;clear hK K
    try simp only[go_sem]
    refine⟨hlt,zfo [] ?_ ?_⟩
    ·try simp only[go_sem]
     omega
    ·try simp only[go_sem]
   ·simp only[go_sem];apply hK;clear hK K;apply zw (zk [22]);simp only[go_sem]
    apply zc rfl<;>intro hc<;>(try simp only[go_sem] at hc)
    apply zf;simp only[go_sem];exact⟨_,_,.inr rfl⟩
  ·have e2:decide (lowG r.out+(i:Int)≤r.start)=false:=by simp;omega
   have h0:xs.drop i=[]:=List.drop_eq_nil_of_le (by omega)
   rw[h0]
   refine zBd (by kernel_rfl) fun K hK=>?_
   simp only[go_sem,List.drop_succ_cons,List.drop_zero,List.append_eq,List.cons_append,List.nil_append,e2];apply hK;clear hK K;apply zw (zk [22]);simp only[go_sem]
   apply zc rfl<;>intro hc<;>(try simp only[go_sem] at hc)
   apply zf;simp only[go_sem];exact⟨_,_,.inl rfl⟩
abbrev tabT (r:Rk) (s:Bool):List Int:=tabA r s (cntA r)
theorem zD4 (r:Rk) (s:Bool) (hr:ROk r):zAA Tryz.prog 59 [rkR r,.bo s] (.rp (tabC r s (tabT r s))):=by
 have hst:=hr.start
 have hlg:=zBW r.out
 have hnt:=zLg r s (by omega) (by omega)
 obtain⟨len,hlen⟩:∃ len,len=(r.start+1).toNat:=⟨_,rfl⟩
 rw[← hlen] at hnt
 have hz:tabA r s 0=List.replicate len 0:=by rw[hlen];rfl
 rw[← hz] at hnt
 refine zAx (rs:=[.rp (tabC r s (tabT r s))]) [.tmp 4] Tryz.func59 rfl (by kernel_rfl) Tryz.ntmps59 rfl (by simp) rfl fun C hC vs=>?_
 apply zq
 refine zb fun K hK=>?_;simp only[go_sem,argL];apply hK;clear hK K;refine zw (zfP 2 2 [i64 r.d,zAl r.aims,i64 r.start,i64 r.out] (by omega) rfl rfl) ?_;apply zw (zk [1,2]);simp only[go_sem]
 apply zq
 refine zBp ?_
 refine zBD 3 (by kernel_rfl) fun K hK=>?_
 simp only[go_sem,List.take_succ_cons,List.take_zero,List.drop_succ_cons,List.drop_zero,List.append_eq,List.cons_append,List.nil_append]
 refine zJW hnt [(10,30),(12,31)] rfl (by rfl) (by rfl) (by rfl) (by rfl) (by rfl) ?_
 simp only[go_sem,idK,zBL,zCq,zDi,zAU,zLk]
 refine hK _ rfl ?_
 clear hK K
 refine zBc (zk [9]) ?_
 simp only[go_sem]
 refine zBd (by kernel_rfl) fun K hK=>?_
 simp only[go_sem,List.drop_succ_cons,List.drop_zero,List.append_eq,List.cons_append,List.nil_append];apply hK;clear hK K;apply zw (zk [5,9]);simp only[go_sem]
 refine zNz 9 rfl fun u=>?_
 repeat apply zq
 refine zBp ?_
 refine zBD 1 (by kernel_rfl) fun K hK=>?_
 simp only[go_sem,List.take_succ_cons,List.take_zero,List.drop_succ_cons,List.drop_zero,List.append_eq,List.cons_append,List.nil_append]
 refine hK _ rfl ?_
 clear hK K
 refine zBc (zRd 10 9 (k:=31) (u:=u) (by try simp only[go_sem]) (by try simp only[go_sem])) ?_
 refine zBc (zk [5,9,10]) ?_
 simp only[go_sem]
 refine zBl rfl (by intro t h;injection h with h;subst h;show 11<17;decide) (by intro c h;cases h) (zFo rfl (v:=.vl u) (by simp only[go_sem]) ?_)
 try simp only[go_sem]
 refine zBd (by kernel_rfl) fun K hK=>?_
 simp only[go_sem,List.drop_succ_cons,List.drop_zero,List.append_eq,List.cons_append,List.nil_append];apply hK;clear hK K;apply zw (zk [5,9,11]);simp only[go_sem]
 have hcnt:(cntA r:Int)=r.start+1-lowG r.out:=by unfold cntA;omega
 have htab:=fun i (hi:i≤cntA r)=>zHk hr s i hi
 have hll:∀ i,i≤cntA r→(tabA r s i).length=len:=fun i hi=>by rw[(htab i hi).2.1,hlen]
 apply zd
 refine zML (n:=17) hC ((List.range (cntA r)).map fun (i:Nat)=>[i64 (lowG r.out+(i:Int))]) (zPj r u (by omega)) 31 9 [5,9,11] (by decide)
  (fun vs=>[(5,.pt 5 (vs 5) 0),(9,.pu 31 (vs 31) u),(11,.r (.bf 75 [.vl u]))])
  (fun i vs=>[(5,.box [.pt 31 (vs 31) 0]),(30,.arr 3 1 (arrV (tabA r s i))),(31,.box [.r (i64 r.d),.r (zAl r.aims),.r (i64 r.start),.r (i64 r.out),.r (.bo s),.os 30 (vs 30) 1 0 len])]) (fun i=>i≤cntA r) (zj [] ?_ ?_) (Nat.zero_le _)
  (fun vs=>by simp) (fun i vs=>⟨_,rfl,fun x hx=>by simp at hx;rcases hx with rfl|rfl<;>rfl⟩) (by decide) (fun _=>rfl) (fun _=>rfl) (fun _ _=>rfl) (by decide) (fun e he=>by obtain⟨i,_,rfl⟩:=List.mem_map.1 he;rfl) ?_ ?_
 ·try simp only[go_sem]
 ·try simp only[go_sem]
 ·intro i e vs us C' he hi
  have hil:i<cntA r:=by
   have:=(List.getElem?_eq_some_iff.1 he).1
   simpa using this
  have he':e=[i64 (((lowG r.out).toNat+i:Nat):Int)]:=by
   simp [hil] at he
   rw[← he]
   have:lowG r.out+(i:Int)=(((lowG r.out).toNat+i:Nat):Int):=by omega
   rw[this]
  subst he'
  have hvs:VsOk r s (tabA r s i) ((lowG r.out).toNat+i):=⟨hr,(htab i hi).2.1,(htab i hi).2.2,by omega,by omega⟩
  have hfl:=zUK hvs
  have hn:(tabA r s i).set ((lowG r.out).toNat+i) (numA r s (tabA r s i) ((lowG r.out).toNat+i))=tabA r s (i+1):=rfl
  rw[hn] at hfl
  unfold zUL zTe at hfl
  rw[hll i hi,hll (i+1) (by omega)] at hfl
  refine zb fun K hK=>?_;simp only[go_sem];apply hK;clear hK K
  refine⟨rfl,fun C''=>?_⟩
  apply zw (zk [5,6]);simp only[go_sem];apply zd;refine zb fun K hK=>?_;simp only[go_sem]
  refine zAW (hfl) [(1000,31),(1001,30)] rfl (by simp only[go_sem,i64,ints]) (by simp only[go_sem,i64,ints]) (by rfl) (by rfl) ?_
  (try simp only[go_sem]);apply hK;clear hK K
  try simp only[go_sem]
  exact⟨by omega,vs,zCH _ (zCm (by simp only[go_sem]))⟩
 ·intro vs us hi
  have hel:((List.range (cntA r)).map fun (i:Nat)=>[i64 (lowG r.out+(i:Int))]).length=cntA r:=by simp
  rw[hel]
  try simp only[go_sem]
  refine zw (zBk rfl) ?_;apply zw (zk [5]);simp only[go_sem]
  apply zq
  refine zb fun K hK=>?_;simp only[go_sem];apply hK;clear hK K;apply zw (zk [4]);simp only[go_sem]
  have hlt:=hll (cntA r) (Nat.le_refl _)
  have htk:((arrV (tabA r s (cntA r))).drop 0).take len=arrV (tabA r s (cntA r)):=by rw[List.drop_zero,List.take_of_length_le (by simp [hlt])]
  refine zw (zED 31 5 30 (ty:=3) (sz:=1) (off:=0) (m:=len) (es:=arrV (tabA r s (cntA r))) (by omega) (by omega) rfl (by simp only[go_sem,List.getElem?_cons_succ,List.getElem?_cons_zero]) (by rfl) (by simp [hlt])) ?_;rw[htk]
  try simp only[go_sem]
  refine zw (zfP 4 31 (tabC r s (tabT r s)) (by omega) (by try simp only[go_sem]) (by try simp only[go_sem])) ?_;apply zw (zk [4]);simp only[go_sem];apply ze;simp only[go_sem];exact zAS.le_refl _
theorem zLJ (r:Rk) (hw:WfL r.d r.aims):zAA Tryz.prog 58 [rkR r] (i64 (zBH r)):=by
 have hch:=zJH r.d r.aims hw
 have ha:=zIL 2 60 [r.start]
 have hb:=zIL 0 2 [r.out]
 have ea:zAT 2 60 [r.start]=decide (2≤r.start∧r.start≤60):=by simp [zAT]
 have eb:zAT 0 2 [r.out]=decide (0≤r.out∧r.out≤2):=by simp [zAT]
 rw[ea] at ha
 rw[eb] at hb
 unfold zBH
 refine zas (rs:=[i64 (if zAe r.d r.aims=0 then (if (2≤r.start∧r.start≤60)∧0≤r.out∧r.out≤2 then 0 else 2) else zAe r.d r.aims)]) [.tmp 2] Tryz.func58 rfl (by kernel_rfl) Tryz.ntmps58 rfl (by simp) rfl fun C vs=>?_
 apply zq
 refine zb fun K hK=>?_;simp only[go_sem];apply hK;clear hK K;refine zw (zfP 1 1 [i64 r.d,zAl r.aims,i64 r.start,i64 r.out] (by omega) rfl rfl) ?_;apply zw (zk [1]);simp only[go_sem]
 repeat apply zq
 refine zb fun K hK=>?_;simp only[go_sem]
 refine zh (hch) rfl (by simp only[go_sem,i64,ints]) (by simp only[go_sem,i64,ints]) ?_
 (try simp only[go_sem]);apply hK;clear hK K;apply zw (zk [1,3]);simp only[go_sem]
 apply zq
 refine zb fun K hK=>?_;simp only[go_sem];apply hK;clear hK K;apply zw (zk [1,3,8]);simp only[go_sem]
 by_cases h0:zAe r.d r.aims=0
 ·have e0:(zAe r.d r.aims != 0)=false:=by simp [h0]
  rw[if_pos h0,e0]
  apply zc rfl<;>intro hc<;>(try simp only[go_sem] at hc)
  apply zx
  try simp only[go_sem]
  by_cases h1:2≤r.start∧r.start≤60
  ·rw[decide_eq_true h1] at ha
   by_cases h2:0≤r.out∧r.out≤2
   ·rw[decide_eq_true h2] at hb
    rw[if_pos ⟨h1,h2⟩]
    repeat apply zq
    refine zb fun K hK=>?_;simp only[go_sem]
    refine zh (ha) rfl (by simp only[go_sem,i64,ints]) (by simp only[go_sem,i64,ints]) ?_
    (try simp only[go_sem])
    refine zh (hb) rfl (by simp only[go_sem,i64,ints]) (by simp only[go_sem,i64,ints]) ?_
    (try simp only[go_sem]);apply hK;clear hK K;apply zw (zk [1,21]);simp only[go_sem]
    apply zc rfl<;>intro hc<;>(try simp only[go_sem] at hc)
    apply zx
    try simp only[go_sem]
    apply zq
    refine zb fun K hK=>?_;simp only[go_sem];apply hK;clear hK K;apply zw (zk [2]);simp only[go_sem];apply ze;simp only[go_sem]
   ·rw[decide_eq_false h2] at hb
    rw[if_neg (fun h=>h2 h.2)]
    repeat apply zq
    refine zb fun K hK=>?_;simp only[go_sem]
    refine zh (ha) rfl (by simp only[go_sem,i64,ints]) (by simp only[go_sem,i64,ints]) ?_
    (try simp only[go_sem])
    refine zh (hb) rfl (by simp only[go_sem,i64,ints]) (by simp only[go_sem,i64,ints]) ?_
    (try simp only[go_sem]);apply hK;clear hK K;apply zw (zk [1,21]);simp only[go_sem]
    apply zc rfl<;>intro hc<;>(try simp only[go_sem] at hc)
    apply zq
    refine zb fun K hK=>?_;simp only[go_sem];apply hK;clear hK K;apply zw (zk [2]);simp only[go_sem];apply ze;simp only[go_sem]
  ·rw[decide_eq_false h1] at ha
   rw[if_neg (fun h=>h1 h.1)]
   repeat apply zq
   refine zb fun K hK=>?_;simp only[go_sem]
   refine zh (ha) rfl (by simp only[go_sem,i64,ints]) (by simp only[go_sem,i64,ints]) ?_
   (try simp only[go_sem]);apply hK;clear hK K;apply zw (zk [1,21]);simp only[go_sem]
   apply zc rfl<;>intro hc<;>(try simp only[go_sem] at hc)
   apply zq
   refine zb fun K hK=>?_;simp only[go_sem];apply hK;clear hK K;apply zw (zk [2]);simp only[go_sem];apply ze;simp only[go_sem]
 ·have e0:(zAe r.d r.aims != 0)=true:=by simpa using h0
  rw[if_neg h0,e0]
  apply zc rfl<;>intro hc<;>(try simp only[go_sem] at hc)
  apply zq
  refine zb fun K hK=>?_;simp only[go_sem];apply hK;clear hK K;apply zw (zk [2]);simp only[go_sem];apply ze;simp only[go_sem]
theorem zMd (r:Rk) (hw:WfL r.d r.aims):zAA Tryz.prog 22 [rkR r] (.tu [if zBH r=0 then ints (tabT r false) else .ns,if zBH r=0 then ints (tabT r true) else .ns,i64 (zBH r)]):=by
 have hch:=zLJ r hw
 refine zas (rs:=[if zBH r=0 then ints (tabT r false) else .ns,if zBH r=0 then ints (tabT r true) else .ns,i64 (zBH r)]) [.tmp 2,.tmp 3,.tmp 4] Tryz.func22 rfl (by kernel_rfl) Tryz.ntmps22 rfl (by simp) rfl fun C vs=>?_
 apply zq
 refine zb fun K hK=>?_;simp only[go_sem];apply hK;clear hK K;refine zw (zfP 1 1 [i64 r.d,zAl r.aims,i64 r.start,i64 r.out] (by omega) rfl rfl) ?_;apply zw (zk [1]);simp only[go_sem]
 repeat apply zq
 refine zb fun K hK=>?_;simp only[go_sem]
 refine zh (hch) rfl (by simp only[go_sem,i64,ints]) (by simp only[go_sem,i64,ints]) ?_
 (try simp only[go_sem]);apply hK;clear hK K;apply zw (zk [1,5]);simp only[go_sem]
 apply zq
 refine zb fun K hK=>?_;simp only[go_sem];apply hK;clear hK K;apply zw (zk [1,5,9]);simp only[go_sem]
 by_cases h0:zBH r=0
 ·obtain⟨_,hr⟩:=zDb h0
  have hf:=zD4 r false hr
  have ht:=zD4 r true hr
  have e0:(zBH r != 0)=false:=by simp [h0]
  rw[if_pos h0,if_pos h0,e0]
  apply zc rfl<;>intro hc<;>(try simp only[go_sem] at hc)
  apply zx
  try simp only[go_sem]
  apply zq
  refine zAF [(1,none)] follows (by decide +kernel) (by kernel_rfl) (by simp only[zAO,List.mem_cons,List.not_mem_nil,forall_eq_or_imp,Oc.keyOf,go_sem];simp) fun K hK=>?_
  simp only[go_sem]
  refine zh (hf) rfl (by simp only[go_sem,i64,ints]) (by simp only[go_sem,i64,ints]) ?_
  (try simp only[go_sem])
  refine zh (ht) rfl (by simp only[go_sem,i64,ints]) (by simp only[go_sem,i64,ints]) ?_
  (try simp only[go_sem]);apply hK;clear hK K;apply zw (zk [2,3,4]);simp only[go_sem];apply ze;simp only[go_sem];exact h0.symm
 ·have e0:(zBH r != 0)=true:=by simpa using h0
  rw[if_neg h0,if_neg h0,e0]
  apply zc rfl<;>intro hc<;>(try simp only[go_sem] at hc)
  apply zq
  refine zb fun K hK=>?_;simp only[go_sem];apply hK;clear hK K;apply zw (zk [2,3,4]);simp only[go_sem];apply ze;simp only[go_sem]
theorem zOI (r:Rk) (s:Bool) (nums:List Int) (hs:r.start≤1000):zHP Tryz.prog true 75 [.rp (tabC r s nums)] ((List.range (cntA r)).map fun (i:Nat)=>[i64 (lowG r.out+(i:Int))]):=by
 have hlg:=zBW r.out
 refine zH8 Tryz.func75 rfl (by kernel_rfl) Tryz.ntmps75 rfl (by simp) fun C ll=>?_
 apply zq
 refine zb fun K hK=>?_;simp only[go_sem,argL]
 refine zh (zJT r.out) rfl (by simp only[go_sem,i64,ints]) (by simp only[go_sem,i64,ints]) ?_
 (try simp only[go_sem]);apply hK;clear hK K;apply zw (zk [0,1,4]);simp only[go_sem];apply zd
 obtain⟨xs,hxs⟩:∃ xs:List (List RV),xs=(List.range (cntA r)).map fun (i:Nat)=>[i64 (lowG r.out+(i:Int))]:=⟨_,rfl⟩
 rw[← hxs]
 have hxl:xs.length=cntA r:=by rw[hxs];simp
 have hcnt:(cntA r:Int)=max 0 (r.start+1-lowG r.out):=by unfold cntA;omega
 refine zup (n:=25) (cntA r) (fun i vs=>[(0,.r (.rp (tabC r s nums))),(1,.r (.yl ll)),(4,.r (i64 (lowG r.out+(i:Int))))])
  (fun i=>[(999,.gh Tryz.prog ll true (some (xs.drop i)))]) (fun _=>True) 0 (zfo [] ?_ ?_) (Nat.zero_le _) trivial ?_
 ·try simp only[go_sem]
  try simp
 ·try simp only[go_sem]
 ·intro i vs hi _
  have w1:IntKind.i64.wrap (lowG r.out+(i:Int)+1)=lowG r.out+(i:Int)+1:=by rw[zI]<;>omega
  by_cases hlt:i<cntA r
  ·have e2:decide (lowG r.out+(i:Int)≤r.start)=true:=by simp;omega
   have he:xs.drop i=[i64 (lowG r.out+(i:Int))]::xs.drop (i+1):=by
    refine zAH ?_
    rw[hxs]
    simp [hlt]
   repeat apply zq
   refine zb fun K hK=>?_;simp only[go_sem,e2]
   refine zA1 (z:=true) (e:=[i64 (lowG r.out+(i:Int))]) (rest:=xs.drop (i+1)) (by simp only[go_sem,he]) rfl (by simp only[go_sem]) (.inl rfl) ?_ ?_
   ·simp only[go_sem];apply hK;clear hK K;apply zw (zk [0,1,4,22]);simp only[go_sem]
    apply zc rfl<;>intro hc<;>(try simp only[go_sem] at hc)
    apply zx
    try simp only[go_sem]
    apply zq
    apply zd;apply zx
    try simp only[go_sem]
    refine zb fun K hK=>?_;simp only[go_sem,w1];apply hK;clear hK K
    try simp only[go_sem]
    refine⟨hlt,zfo [] ?_ ?_⟩
    ·try simp only[go_sem]
     omega
    ·try simp only[go_sem]
   ·simp only[go_sem];apply hK;clear hK K;apply zw (zk [22]);simp only[go_sem]
    apply zc rfl<;>intro hc<;>(try simp only[go_sem] at hc)
    apply zf;simp only[go_sem];exact⟨_,_,.inr rfl⟩
  ·have e2:decide (lowG r.out+(i:Int)≤r.start)=false:=by simp;omega
   have h0:xs.drop i=[]:=List.drop_eq_nil_of_le (by omega)
   rw[h0]
   repeat apply zq
   refine zb fun K hK=>?_;simp only[go_sem,e2];apply hK;clear hK K;apply zw (zk [22]);simp only[go_sem]
   apply zc rfl<;>intro hc<;>(try simp only[go_sem] at hc)
   apply zf;simp only[go_sem];exact⟨_,_,.inl rfl⟩
def nevL (r:Rk) (T:List Int) (i:Nat):List Int:=((List.range i).filter fun j=>decide (T.getD ((lowG r.out).toNat+j) 0=2000000000)).map fun (j:Nat)=>lowG r.out+(j:Int)
theorem zDv (r:Rk) (T:List Int) (i:Nat):nevL r T (i+1)=if T.getD ((lowG r.out).toNat+i) 0=2000000000 then nevL r T i++[lowG r.out+(i:Int)] else nevL r T i:=by
 unfold nevL
 rw[List.range_succ,List.filter_append,List.map_append]
 by_cases h:T.getD ((lowG r.out).toNat+i) 0=2000000000
 ·have e:([i].filter fun j=>decide (T.getD ((lowG r.out).toNat+j) 0=2000000000))=[i]:=by rw[List.filter_cons,if_pos (decide_eq_true h)];rfl
  rw[if_pos h,e];rfl
 ·have e:([i].filter fun j=>decide (T.getD ((lowG r.out).toNat+j) 0=2000000000))=[]:=by rw[List.filter_cons,if_neg (by rw[decide_eq_false h];decide)];rfl
  rw[if_neg h,e];simp
theorem zIp (r:Rk) (T:List Int) (i:Nat):(nevL r T i).length≤i:=by
 unfold nevL
 rw[List.length_map]
 have:=List.length_filter_le (fun j=>decide (T.getD ((lowG r.out).toNat+j) 0=2000000000)) (List.range i)
 simpa using this
theorem zR7 (r:Rk) (hw:WfL r.d r.aims):zAA Tryz.prog 43 [rkR r] (.tu [if zBH r=0 then ints (nevL r (tabT r false) (cntA r)) else .ns,i64 (zBH r)]):=by
 have hch:=zLJ r hw
 refine zAx (rs:=[if zBH r=0 then ints (nevL r (tabT r false) (cntA r)) else .ns,i64 (zBH r)]) [.cell 2 39,.tmp 3] Tryz.func43 rfl (by kernel_rfl) Tryz.ntmps43 rfl (by simp) rfl fun C hC vs=>?_
 apply zq
 refine zb fun K hK=>?_;simp only[go_sem];apply hK;clear hK K;refine zw (zfP 1 1 [i64 r.d,zAl r.aims,i64 r.start,i64 r.out] (by omega) rfl rfl) ?_;apply zw (zk [1,2,3]);simp only[go_sem]
 repeat apply zq
 refine zb fun K hK=>?_;simp only[go_sem]
 refine zh (hch) rfl (by simp only[go_sem,i64,ints]) (by simp only[go_sem,i64,ints]) ?_
 (try simp only[go_sem]);apply hK;clear hK K;apply zw (zk [1,2,3,4]);simp only[go_sem]
 apply zq
 refine zb fun K hK=>?_;simp only[go_sem];apply hK;clear hK K;apply zw (zk [1,2,3,4,10]);simp only[go_sem]
 by_cases h0:zBH r=0
 ·have e0:(zBH r != 0)=false:=by simp [h0]
  obtain⟨_,hr⟩:=zDb h0
  have hf:=zD4 r false hr
  have hst:=hr.start
  have hlg:=zBW r.out
  have htl:(tabT r false).length=(r.start+1).toNat:=(zHk hr false (cntA r) (Nat.le_refl _)).2.1
  have hcnt:(cntA r:Int)=r.start+1-lowG r.out:=by unfold cntA;omega
  rw[if_pos h0,e0,h0]
  generalize tabT r false=T at *
  apply zc rfl<;>intro hc<;>(try simp only[go_sem] at hc)
  apply zx
  try simp only[go_sem]
  apply zq
  refine zb fun K hK=>?_;simp only[go_sem]
  refine zh (hf) rfl (by simp only[go_sem,i64,ints]) (by simp only[go_sem,i64,ints]) ?_
  (try simp only[go_sem]);apply hK;clear hK K;refine zw (zfP 5 5 [.rp (tabC r false T)] (by omega) rfl rfl) ?_;apply zw (zk [2,3,5]);simp only[go_sem]
  repeat apply zq
  refine zBp ?_
  refine zBD 1 (by kernel_rfl) fun K hK=>?_
  simp only[go_sem,List.take_succ_cons,List.take_zero,List.drop_succ_cons,List.drop_zero,List.append_eq,List.cons_append,List.nil_append]
  refine hK _ rfl ?_
  clear hK K
  refine zBl rfl (by intro t h;injection h with h;subst h;show 15<30;decide) (by intro c h;cases h) (zFo rfl (v:=.rp (tabC r false T)) (by simp only[go_sem]) ?_)
  try simp only[go_sem]
  refine zBd (by kernel_rfl) fun K hK=>?_
  simp only[go_sem,List.drop_succ_cons,List.drop_zero,List.append_eq,List.cons_append,List.nil_append];apply hK;clear hK K;refine zw (zCG 2 0 28 3 1 (by omega) (by omega) rfl (by rfl)) ?_
  try simp only[go_sem]
  apply zw (zk [2,3,5,15]);simp only[go_sem];apply zd
  refine zHI (n:=30) hC ((List.range (cntA r)).map fun (i:Nat)=>[i64 (lowG r.out+(i:Int))]) (zOI r false T (by omega)) [2,3,5,15] (by decide)
   (fun vs=>[(2,.pt 2 (vs 2) 0),(3,.r (i64 0)),(5,.r (.rp [.rp (tabC r false T)])),(15,.r (.bf 75 [.rp (tabC r false T)]))])
   (fun i vs=>[(2,.box [.os 28 (vs 28) 1 0 (nevL r T i).length]),(28,.arr 3 1 (arrV (nevL r T i)))]) (fun i=>i≤cntA r) (zj [] ?_ ?_) (Nat.zero_le _)
   (fun _=>rfl) (fun _=>rfl) (fun _ _=>rfl) (by decide) (fun e he=>by obtain⟨i,_,rfl⟩:=List.mem_map.1 he;rfl) ?_ ?_
  ·try simp only[go_sem]
  ·try simp only[go_sem]
   rfl
  ·intro i e vs us C' he hi
   have hil:i<cntA r:=by
    have:=(List.getElem?_eq_some_iff.1 he).1
    simpa using this
   obtain⟨q,hq⟩:∃ q,q=(lowG r.out).toNat+i:=⟨_,rfl⟩
   have hqi:lowG r.out+(i:Int)=(q:Int):=by omega
   have he':e=[i64 (q:Int)]:=by
    simp [hil] at he
    rw[← he,hqi]
   subst he'
   have hql:q<T.length:=by rw[htl];omega
   obtain⟨x,hx⟩:=zol hql
   have gx:T.getD q 0=x:=by simp [List.getD,hx]
   have hsn:=zDv r T i
   rw[← hq,gx,hqi] at hsn
   have hnl:=zIp r T i
   refine zb fun K hK=>?_;simp only[go_sem];apply hK;clear hK K
   refine⟨rfl,fun C''=>?_⟩
   apply zw (zk [2,5,6]);simp only[go_sem];apply zd
   apply zq
   refine zb fun K hK=>?_;simp only[go_sem,hx,hql];apply hK;clear hK K;apply zw (zk [2,6,24]);simp only[go_sem]
   by_cases hxn:x=2000000000
   ·have e1:(x == 2000000000)=true:=by simpa using hxn
    rw[if_pos hxn] at hsn
    rw[e1]
    apply zc rfl<;>intro hc<;>(try simp only[go_sem] at hc)
    refine zb fun K hK=>?_;simp only[go_sem,List.length_map]
    refine⟨by omega,?_⟩
    apply hK;clear hK K
    try simp only[go_sem]
    refine⟨by omega,?_⟩
    rw[hsn]
    refine zj (F:=fun _=>[]) [] ?_ ?_
    ·try simp only[go_sem]
    ·try simp only[go_sem]
     simp
   ·have e1:(x == 2000000000)=false:=by simpa using hxn
    rw[if_neg hxn] at hsn
    rw[e1]
    apply zc rfl<;>intro hc<;>(try simp only[go_sem] at hc)
    apply zx
    try simp only[go_sem]
    rw[hsn]
    exact⟨by omega,vs,zCH _ (zCm (by simp only[go_sem]))⟩
  ·intro vs us hi
   have hel:((List.range (cntA r)).map fun (i:Nat)=>[i64 (lowG r.out+(i:Int))]).length=cntA r:=by simp
   rw[hel]
   have hnl:=zIp r T (cntA r)
   generalize nevL r T (cntA r)=N at *
   have htk:(arrV N).take N.length=arrV N:=List.take_of_length_le (by simp)
   try simp only[go_sem]
   refine zw (zBk rfl) ?_;apply zw (zk [2]);simp only[go_sem]
   apply zq
   refine zb fun K hK=>?_;simp only[go_sem];apply hK;clear hK K;apply zw (zk [2,3]);simp only[go_sem];apply ze;simp only[go_sem]
 ·have e0:(zBH r != 0)=true:=by simpa using h0
  rw[if_neg h0,e0]
  apply zc rfl<;>intro hc<;>(try simp only[go_sem] at hc)
  apply zq
  refine zb fun K hK=>?_;simp only[go_sem];apply hK;clear hK K;apply zw (zk [2,3]);simp only[go_sem];apply ze;simp only[go_sem]
set_option maxHeartbeats 8000000
theorem zR6 {out own left:Int}{f g:Int→Int}(h:∀ x,lowG out≤x→x≤left→f x=g x) {b:Int}(hb:0≤b∧b≤499):zEc out own left f b=zEc out own left g b:=by
 have hs:=zEx hb
 unfold zEc
 split
 ·rfl
 ·split
  ·rfl
  ·exact h _ (by omega) (by omega)
theorem zSG {r:Rk}{s:Bool}{own left:Int}{f g:Int→Int}(h:∀ x,lowG r.out≤x→x≤left→f x=g x) {a:Am}(ha:AOk r.d a.beds):zEd r s own left f a=zEd r s own left g a:=by
 unfold zEd
 congr 1
 exact List.map_congr_left fun b hb=>zR6 h (ha.bed b hb)
theorem zPR {r:Rk}(hr:ROk r) {s:Bool}{T U:List Int}{own:Int}{st:Nat}(h:∀ x,x≤st→T.getD x 0=U.getD x 0):∀ (k:Nat) (left:Int),lowG r.out≤left→left≤st→valA r s T own k left=valA r s U own k left
 | 0,left,h1,h2=>h _ (by omega)
 | k+1, left, h1, h2=>by
   unfold valA
   congr 1
   exact List.map_congr_left fun a ha=>zSG (fun x q1 q2=>zPR hr h k x q1 (by omega)) (hr.aims a ha)
theorem zSS {r:Rk}(hr:ROk r) {s:Bool}{T U:List Int}{st:Nat}(hlo:lowG r.out≤st) (h:∀ x,x≤st→T.getD x 0=U.getD x 0):zhA r s T st=zhA r s U st:=by
 have h1:=h st (Nat.le_refl _)
 have h2:=zPR hr (s:=s) (own:=U.getD st 0) h 3 st hlo (Int.le_refl _)
 unfold zhA
 rw[h1,h2]
theorem zOR {r:Rk}(hr:ROk r) {nums:List Int}{st:Nat}(hn:∀ x∈nums,VOk x) (hst:st<nums.length) (hlo:lowG r.out≤st) :
 numA r false nums st=2000000000∨((1000000≤numA r false nums st∧numA r false nums st≤1000000000)∧zhA r false (nums.set st (numA r false nums st)) st=true∧zhA r false (nums.set st (numA r false nums st-1)) st=false):=by
 obtain⟨g1,g2,g3,g4⟩:=zBC (fun k=>zhA r false (nums.set st (1000000+(k:Int))) st) 0 999000001 (by omega) fun a b q1 q2 q3 q4=>zC1 hr hn hst hlo (by omega) (by omega) (by omega) q4
 unfold numA
 simp only[Bool.false_eq_true,if_false]
 generalize srch (fun k=>zhA r false (nums.set st (1000000+(k:Int))) st) 0 999000001=k at *
 by_cases h:1000000000<1000000+(k:Int)
 ·left;rw[if_pos h]
 ·right
  rw[if_neg h]
  refine⟨by omega,g4 (by omega),?_⟩
  by_cases hk:k=0
  ·subst hk
   have hv:=zFU hr (s:=false) (zDq hn st (n:=999999) (.inl ⟨by omega,by omega⟩)) (own:=999999) (.inl ⟨by omega,by omega⟩) 3 st
   have e:(1000000:Int)+((0:Nat):Int)-1=999999:=by omega
   rw[e]
   unfold zhA
   simp only[Bool.false_eq_true,if_false,zAk hst,if_true];rw[Bool.or_eq_false_iff,decide_eq_false_iff_not,decide_eq_false_iff_not]
   omega
  ·have:=g3 (k-1) (by omega) (by omega)
   have e:(1000000:Int)+((k-1:Nat):Int)=1000000+(k:Int)-1:=by omega
   rw[e] at this
   exact this
theorem zKA {r:Rk}(hr:ROk r) {nums:List Int}{st:Nat}(hn:∀ x∈nums,VOk x) (hst:st<nums.length) (hlo:lowG r.out≤st) :
 (0≤numA r true nums st∧numA r true nums st≤1000000000)∧zhA r true (nums.set st (numA r true nums st)) st=true∧(numA r true nums st<1000000000→zhA r true (nums.set st (numA r true nums st+1)) st=false):=by
 obtain⟨g1,g2,g3,g4⟩:=zBC (fun k=>!zhA r true (nums.set st ((k:Int)+1)) st) 0 1000000000 (by omega) fun a b q1 q2 q3 q4=>by
  simp only[Bool.not_eq_true'] at q4 ⊢
  cases hb:zhA r true (nums.set st ((b:Int)+1)) st
  ·rfl
  ·have:=zBU hr hn hst hlo (a:=(a:Int)+1) (by omega) (by omega) (by omega) hb
   rw[q4] at this;cases this
 unfold numA
 simp only[if_true]
 generalize srch (fun k=>!zhA r true (nums.set st ((k:Int)+1)) st) 0 1000000000=k at *
 refine⟨by omega,?_,fun h=>?_⟩
 ·by_cases hk:k=0
  ·subst hk
   have hv:=zFU hr (s:=true) (zDq hn st (n:=0) (.inl ⟨by omega,by omega⟩)) (own:=0) (.inl ⟨by omega,by omega⟩) 3 st
   show zhA r true (nums.set st 0) st=true
   unfold zhA
   simp only[if_true,zAk hst];rw[decide_eq_true_eq]
   omega
  ·have:=g3 (k-1) (by omega) (by omega)
   have e:((k-1:Nat):Int)+1=(k:Int):=by omega
   simp only[e,Bool.not_eq_false'] at this
   exact this
 ·have:=g4 (by omega)
  simpa using this
theorem zMf {r:Rk}(s:Bool) (i:Nat) (x:Nat) (hx:x≤(lowG r.out).toNat+i):∀ m,(tabA r s (i+1+m)).getD x 0=(tabA r s (i+1)).getD x 0
 | 0=>rfl
 | m+1=>by
   rw[← zMf s i x hx m]
   show ((tabA r s (i+1+m)).set ((lowG r.out).toNat+(i+1+m)) _).getD x 0=_
   rw[List.getD_eq_getElem?_getD,List.getElem?_set_ne (by omega),← List.getD_eq_getElem?_getD]
theorem zLN {r:Rk}(hr:ROk r) (s:Bool) {st:Nat}(h1:lowG r.out≤st) (h2:(st:Int)≤r.start):∃ nums:List Int,(∀ x∈nums,VOk x)∧st<nums.length∧(tabT r s).getD st 0=numA r s nums st∧(∀ v,∀ x,x≤st→((tabT r s).set st v).getD x 0=(nums.set st v).getD x 0) ∧
 (∀ x,x≤st→(tabT r s).getD x 0=(nums.set st (numA r s nums st)).getD x 0):=by
 have hl:=zBW r.out
 obtain⟨i,hi⟩:∃ i,st=(lowG r.out).toNat+i:=⟨st-(lowG r.out).toNat,by omega⟩
 have hic:i<cntA r:=by unfold cntA;omega
 obtain⟨_,e2,e3⟩:=zHk hr s i (by omega)
 obtain⟨_,f2,f3⟩:=zHk hr s (cntA r) (Nat.le_refl _)
 have hlen:st<(tabA r s i).length:=by rw[e2];omega
 obtain⟨m,hm⟩:∃ m,cntA r=i+1+m:=⟨cntA r-(i+1),by omega⟩
 have hpre:=fun x (hx:x≤st)=>zMf (r:=r) s i x (by omega) m
 rw[← hm] at hpre
 have hsu:tabA r s (i+1)=(tabA r s i).set st (numA r s (tabA r s i) st):=by rw[hi];rfl
 rw[hsu] at hpre
 have hlT:st<(tabT r s).length:=by unfold tabT;rw[f2];omega
 refine⟨tabA r s i,e3,hlen,?_,fun v x hx=>?_,hpre⟩
 ·have:=hpre st (Nat.le_refl _)
  rw[zAk hlen,if_pos rfl] at this
  exact this
 ·rw[zAk hlT,zAk hlen]
  split
  ·rfl
  ·rename_i hne
   have:=hpre x hx
   rw[zAk hlen,if_neg hne] at this
   exact this
theorem tabT_holds {r:Rk}(hr:ROk r) (s:Bool) {st:Nat}(h1:lowG r.out≤st) (h2:(st:Int)≤r.start):zhA r s (tabT r s) st=true:=by
 obtain⟨nums,hn,hst,g1,g2,g3⟩:=zLN hr s h1 h2
 rw[zSS hr h1 g3]
 cases s
 ·rcases zOR hr hn hst h1 with h|⟨_,h,_⟩
  ·rw[h]
   unfold zhA
   simp only[Bool.false_eq_true,if_false,zAk hst,if_true,decide_true,Bool.or_true]
  ·exact h
 ·exact (zKA hr hn hst h1).2.1
theorem zMe {r:Rk}(hr:ROk r) (s:Bool):((tabT r s).length:Int)=r.start+1:=by
 have:=(zHk hr s (cntA r) (Nat.le_refl _)).2.1
 have hs:=hr.start
 unfold tabT;rw[this];omega
def endB (g:Int) (bs:List Int):Nat→Int→Bool
 | 0,s=>s == 0
 | d+1,s=>s == 0 || (zAJ g s bs).any fun x=>endB g bs d x.2
theorem zSm (g:Int) (bs:List Int):∀ d,endB g bs d 0=true
 | 0=>rfl
 | d+1=>by unfold endB;rfl
theorem zNi {g:Int}{bs:List Int}{d:Nat}{left:Nat}(hl:1≤left) {x:Int × Int}(hx:x∈zAJ g left bs) (he:endB g bs d x.2=true):endB g bs (d+1) left=true:=by
 unfold endB
 rw[Bool.or_eq_true,List.any_eq_true]
 exact .inr ⟨x,hx,he⟩
theorem zJa {g s:Int}{bs:List Int}{b:Int}(hb:b∈bs) (h1:(zBu g s b).2=true) (h2:0<s):(b,(zBu g s b).1)∈zAJ g s bs:=by
 unfold zAJ
 refine List.mem_filterMap.2 ⟨b,hb,?_⟩
 rw[if_pos (by simp [h1,h2])]
theorem zWD {g b:Int}(hv:zAb b=true):opA g b=zE8 g b:=by
 have:b≠0:=fun e=>by subst e;simp [zAb] at hv
 unfold opA zE8
 split
 ·rfl
 ·split
  ·rfl
  ·simp [this]
end Go.Proofs.YtgfbenanljjgaaaGreat.Du.Th.Ai

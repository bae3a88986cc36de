/- Part 8 of the texts of this claim. -/
import Derived.Test.YtgfbenanljjgaaaGreatVF7
import Derived.Test.YtgfbenanljjgaaaGreatVF6
set_option linter.unusedSimpArgs false
set_option linter.unusedVariables false
namespace Go.Proofs.YtgfbenanljjgaaaGreat.Du.Th.Ai
open Go Go.Oc
set_option maxRecDepth 8000
structure Rk where
 d:Int
 aims:List Am
 start:Int
 out:Int
structure ROk (r:Rk):Prop where
 aims:∀ a∈r.aims,AOk r.d a.beds
 ne:r.aims≠[]
 len:r.aims.length≤20
 start:2≤r.start∧r.start≤60
 out:0≤r.out∧r.out≤2
theorem lowG_le (g:Int):1≤lowG g∧lowG g≤2:=by unfold lowG;split<;>omega
theorem score_nn {b:Int}(h:0≤b∧b≤499):0≤scoreOf b∧scoreOf b≤396:=by
 have h1:0≤b / 100∧b / 100≤4:=by omega
 have h2:0≤b % 100∧b % 100≤99:=by omega
 have h3:=Int.mul_nonneg h1.1 h2.1
 have h4:=Int.mul_le_mul h1.2 h2.2 h2.1 (show (0:Int)≤4 by omega)
 unfold scoreOf;omega
def nextA (out own left:Int) (f:Int→Int) (b:Int):Int :=
 if (decide (left-scoreOf b=0)&&opA out b)=true then 0 else if left-scoreOf b<lowG out then own else f (left-scoreOf b)
def meanA (r:Rk) (s:Bool) (own left:Int) (f:Int→Int) (a:Am):Int:=meanS s r.d a.beds (a.beds.map fun b=>nextA r.out own left f b.b)
def leastA (l:List Int):Int:=l.foldl min 2000000000
def valA (r:Rk) (s:Bool) (nums:List Int) (own:Int):Nat→Int→Int
 | 0,left=>nums.getD left.toNat 0
 | k+1,left=>leastA (r.aims.map (meanA r s own left (valA r s nums own k)))
theorem foldl_min:∀ (l:List Int) (m:Int),l.foldl min m≤m∧(∀ x∈l,l.foldl min m≤x)∧(l.foldl min m=m∨l.foldl min m∈l)
 | [],m=>⟨Int.le_refl _,by simp,by simp⟩
 | y::l, m=>by
   obtain⟨h1,h2,h3⟩:=foldl_min l (min m y)
   simp only[List.foldl_cons]
   refine⟨by omega,fun x hx=>?_,?_⟩
   ·rcases List.mem_cons.1 hx with rfl|hx
    ·omega
    ·exact h2 x hx
   ·rcases h3 with h3|h3
    ·rw[h3]
     by_cases h:m≤y
     ·left;omega
     ·right;simp;left;omega
    ·right;simp [h3]
theorem leastA_vok {l:List Int}(h:∀ x∈l,VOk x):VOk (leastA l):=by
 obtain⟨_,_,h3⟩:=foldl_min l 2000000000
 rcases h3 with h3|h3
 ·exact .inr h3
 ·exact h _ h3
theorem nextA_vok {out own left:Int}{f:Int→Int}(ho:VOk own) (hf:∀ x,VOk (f x)) (b:Int):VOk (nextA out own left f b):=by
 unfold nextA
 split
 ·exact .inl ⟨by omega,by omega⟩
 ·split
  ·exact ho
  ·exact hf _
theorem meanA_vok {r:Rk}{s:Bool}{own left:Int}{f:Int→Int}(ho:VOk own) (hf:∀ x,VOk (f x)) {a:Am}(ha:AOk r.d a.beds):VOk (meanA r s own left f a) :=
 meanS_vok s ha fun x hx=>by
  obtain⟨b,_,rfl⟩:=List.mem_map.1 hx
  exact nextA_vok ho hf _
theorem getD_vok {nums:List Int}(h:∀ x∈nums,VOk x) (i:Nat):VOk (nums.getD i 0):=by
 rw[List.getD_eq_getElem?_getD]
 cases e:nums[i]? with
 | none=>exact .inl ⟨by simp,by simp⟩
 | some x=>exact h x (List.mem_of_getElem? e)
theorem valA_vok {r:Rk}(hr:ROk r) {s:Bool}{nums:List Int}{own:Int}(hn:∀ x∈nums,VOk x) (ho:VOk own):∀ k left,VOk (valA r s nums own k left)
 | 0,left=>getD_vok hn _
 | k+1, left=>leastA_vok fun x hx=>by
   obtain⟨a,ha,rfl⟩:=List.mem_map.1 hx
   exact meanA_vok ho (valA_vok hr hn ho k) (hr.aims a ha)
theorem valA_le {r:Rk}(hr:ROk r) {s:Bool}{nums:List Int}{own:Int}(hn:∀ x∈nums,VOk x) (ho:VOk own) (k:Nat) (left:Int):0≤valA r s nums own k left∧valA r s nums own k left≤2000000000:=by
 have:=valA_vok hr (s:=s) hn ho k left
 unfold VOk at this;omega
abbrev Mf:=Int→List Int→Int × List Int
def nextM (out own left:Int) (f:Mf) (b:Int) (K:List Int):Int × List Int :=
 if (decide (left-scoreOf b=0)&&opA out b)=true then (0,K) else if left-scoreOf b<lowG out then (own,K) else f (left-scoreOf b) K
def bedsM (out own left:Int) (f:Mf):List Bd→List Int→List Int × List Int
 | [],K=>([],K)
 | b::l,K=>((nextM out own left f b.b K).1::(bedsM out own left f l (nextM out own left f b.b K).2).1,(bedsM out own left f l (nextM out own left f b.b K).2).2)
theorem bedsM_snoc (out own left:Int) (f:Mf):∀ (l:List Bd) (b:Bd) (K:List Int),bedsM out own left f (l++[b]) K =
 ((bedsM out own left f l K).1++[(nextM out own left f b.b (bedsM out own left f l K).2).1],(nextM out own left f b.b (bedsM out own left f l K).2).2)
 | [],b,K=>by simp [bedsM]
 | c::l, b, K=>by
   simp only[List.cons_append,bedsM];rw[bedsM_snoc out own left f l b]
theorem bedsM_len (out own left:Int) (f:Mf):∀ (l:List Bd) (K:List Int),(bedsM out own left f l K).1.length=l.length
 | [],K=>rfl
 | c::l,K=>by simp only[bedsM,List.length_cons];rw[bedsM_len out own left f l]
def meanM (r:Rk) (s:Bool) (own left:Int) (f:Mf) (a:Am) (K:List Int):Int × List Int :=
 (meanS s r.d a.beds (bedsM r.out own left f a.beds K).1,(bedsM r.out own left f a.beds K).2)
def aimsM (r:Rk) (s:Bool) (own left:Int) (f:Mf):List Am→List Int→List Int × List Int
 | [],K=>([],K)
 | b::l,K=>((meanM r s own left f b K).1::(aimsM r s own left f l (meanM r s own left f b K).2).1,(aimsM r s own left f l (meanM r s own left f b K).2).2)
theorem aimsM_snoc (r:Rk) (s:Bool) (own left:Int) (f:Mf):∀ (l:List Am) (b:Am) (K:List Int),aimsM r s own left f (l++[b]) K =
 ((aimsM r s own left f l K).1++[(meanM r s own left f b (aimsM r s own left f l K).2).1],(meanM r s own left f b (aimsM r s own left f l K).2).2)
 | [],b,K=>by simp [aimsM]
 | c::l, b, K=>by
   simp only[List.cons_append,aimsM];rw[aimsM_snoc r s own left f l b]
theorem aimsM_len (r:Rk) (s:Bool) (own left:Int) (f:Mf):∀ (l:List Am) (K:List Int),(aimsM r s own left f l K).1.length=l.length
 | [],K=>rfl
 | c::l,K=>by simp only[aimsM,List.length_cons];rw[aimsM_len r s own left f l]
def ixK (k:Nat) (left:Int):Nat:=61*k+left.toNat
def valM (r:Rk) (s:Bool) (nums:List Int) (own:Int):Nat→Mf
 | 0,left,K=>(nums.getD left.toNat 0,K)
 | k+1, left, K=>if 0<K.getD (ixK (k+1) left) 0 then (K.getD (ixK (k+1) left) 0-1, K) else
     (leastA (aimsM r s own left (valM r s nums own k) r.aims K).1,
      (aimsM r s own left (valM r s nums own k) r.aims K).2.set (ixK (k+1) left) (leastA (aimsM r s own left (valM r s nums own k) r.aims K).1+1))
structure OkK (r:Rk) (s:Bool) (nums:List Int) (own:Int) (K:List Int):Prop where
 len:K.length=244
 at_:∀ k left:Nat,k≤3→left≤60→K.getD (61*k+left) 0=0∨K.getD (61*k+left) 0=valA r s nums own k left+1
theorem okK_zero (r:Rk) (s:Bool) (nums:List Int) (own:Int):OkK r s nums own (List.replicate 244 0) :=
 ⟨by simp,fun k left _ _=>.inl (by rw[List.getD_eq_getElem?_getD,List.getElem?_replicate];split<;>rfl)⟩
def MfOk (r:Rk) (s:Bool) (nums:List Int) (own:Int) (most:Int) (f:Mf) (g:Int→Int):Prop :=
 ∀ left K,lowG r.out≤left→left≤most→OkK r s nums own K→(f left K).1=g left∧OkK r s nums own (f left K).2
theorem nextM_ok {r:Rk}{s:Bool}{nums:List Int}{own left:Int}{f:Mf}{g:Int→Int}(hf:MfOk r s nums own left f g) {b:Int}(hb:0≤b∧b≤499) {K:List Int}(hK:OkK r s nums own K) :
 (nextM r.out own left f b K).1=nextA r.out own left g b∧OkK r s nums own (nextM r.out own left f b K).2:=by
 have hs:=score_nn hb
 unfold nextM nextA
 split
 ·exact⟨rfl,hK⟩
 ·split
  ·exact⟨rfl,hK⟩
  ·exact hf _ _ (by omega) (by omega) hK
theorem bedsM_ok {r:Rk}{s:Bool}{nums:List Int}{own left:Int}{f:Mf}{g:Int→Int}(hf:MfOk r s nums own left f g):∀ (l:List Bd) (K:List Int),(∀ b∈l,0≤b.b∧b.b≤499)→OkK r s nums own K →
 (bedsM r.out own left f l K).1=l.map (fun b=>nextA r.out own left g b.b)∧OkK r s nums own (bedsM r.out own left f l K).2
 | [],K,_,hK=>⟨rfl,hK⟩
 | b::l, K, hb, hK=>by
   obtain⟨h1,h2⟩:=nextM_ok hf (hb b (by simp)) hK
   obtain⟨h3,h4⟩:=bedsM_ok hf l _ (fun c hc=>hb c (by simp [hc])) h2
   simp only[bedsM,List.map_cons];exact⟨by rw[h1,h3],h4⟩
theorem aimsM_ok {r:Rk}{s:Bool}{nums:List Int}{own left:Int}{f:Mf}{g:Int→Int}(hf:MfOk r s nums own left f g):∀ (l:List Am) (K:List Int),(∀ a∈l,AOk r.d a.beds)→OkK r s nums own K →
 (aimsM r s own left f l K).1=l.map (meanA r s own left g)∧OkK r s nums own (aimsM r s own left f l K).2
 | [],K,_,hK=>⟨rfl,hK⟩
 | a::l, K, ha, hK=>by
   obtain⟨h1,h2⟩:=bedsM_ok hf a.beds K (ha a (by simp)).bed hK
   obtain⟨h3,h4⟩:=aimsM_ok hf l _ (fun c hc=>ha c (by simp [hc])) h2
   simp only[aimsM,List.map_cons]
   refine⟨?_,h4⟩
   have e:(meanM r s own left f a K).1=meanA r s own left g a:=by unfold meanM meanA;rw[h1]
   have h3':(aimsM r s own left f l (meanM r s own left f a K).2).1=l.map (meanA r s own left g):=h3
   rw[e,h3']
theorem valM_ok {r:Rk}(hr:ROk r) {s:Bool}{nums:List Int}{own:Int}(hn:∀ x∈nums,VOk x) (ho:VOk own):∀ k,k≤3→MfOk r s nums own 60 (valM r s nums own k) (valA r s nums own k)
 | 0,_=>fun left K _ _ hK=>⟨rfl,hK⟩
 | k+1, hk=>fun left K h1 h2 hK=>by
   have hl:=lowG_le r.out
   have ih:=valM_ok hr (s:=s) hn ho k (by omega)
   obtain⟨n,rfl⟩:∃ n:Nat,left=n:=⟨left.toNat,by omega⟩
   have hix:ixK (k+1) (n:Int)=61*(k+1)+n:=by simp [ixK]
   have hv:=valA_le hr (s:=s) hn ho (k+1) n
   have hat:=hK.at_ (k+1) n hk (by omega)
   simp only[valM,hix]
   split
   ·rename_i hp
    rcases hat with h|h
    ·omega
    ·exact⟨by simp only;omega,hK⟩
   ·obtain⟨g1,g2⟩:=aimsM_ok (left:=n) (fun left' K' q1 q2 q3=>ih left' K' q1 (by omega) q3) r.aims K hr.aims hK
    have e:leastA (aimsM r s own n (valM r s nums own k) r.aims K).1=valA r s nums own (k+1) n:=by rw[g1];rfl
    rw[e]
    refine⟨rfl,by simp [g2.len],fun k' l' hk' hl'=>?_⟩
    by_cases he:61*(k+1)+n=61*k'+l'
    ·have e1:k'=k+1:=by omega
     have e2:l'=n:=by omega
     subst e1 e2
     right
     rw[List.getD_eq_getElem?_getD,List.getElem?_set_self (by rw[g2.len];omega)]
     rfl
    ·have:=g2.at_ k' l' hk' hl'
     rw[List.getD_eq_getElem?_getD,List.getElem?_set_ne he,← List.getD_eq_getElem?_getD]
     exact this
def LeV (c u v:Int):Prop:=v≠2000000000→u≤v+c∧u≠2000000000
theorem nextA_le {out own own' left:Int}{f g:Int→Int}{c:Int}(hc:0≤c) (ho:LeV c own own') (hf:∀ x,lowG out≤x→x≤left→LeV c (f x) (g x)) {b:Int}(hb:0≤b∧b≤499):LeV c (nextA out own left f b) (nextA out own' left g b):=by
 have hs:=score_nn hb
 unfold nextA
 split
 ·intro _;exact⟨by omega,by decide⟩
 ·split
  ·exact ho
  ·exact hf _ (by omega) (by omega)
theorem meanA_le {r:Rk}{s:Bool}{own own' left:Int}{f g:Int→Int}{c:Int}(hc:0≤c∧c≤100000000) (ho:LeV c own own') (hf:∀ x,lowG r.out≤x→x≤left→LeV c (f x) (g x)) (vo:VOk own) (vo':VOk own') (vf:∀ x,VOk (f x)) (vg:∀ x,VOk (g x)) {a:Am}(ha:AOk r.d a.beds) :
 LeV c (meanA r s own left f a) (meanA r s own' left g a):=fun hN=>by
 have h1:=meanA_vok (s:=s) (left:=left) vo vf ha
 have h2:=meanA_vok (s:=s) (left:=left) vo' vg ha
 have h3:meanA r s own left f a≤meanA r s own' left g a+c:=by
  unfold meanA
  refine meanS_le s ha hc.1 (by simp) (by simp) (fun x hx=>?_) (fun x hx=>?_) fun i hi=>?_
  ·obtain⟨b,_,rfl⟩:=List.mem_map.1 hx;exact nextA_vok vo vf _
  ·obtain⟨b,_,rfl⟩:=List.mem_map.1 hx;exact nextA_vok vo' vg _
  ·obtain⟨b,hb⟩:=zol hi
   have e:∀ F:Bd→Int,(a.beds.map F).getD i 0=F b:=fun F=>by rw[List.getD_eq_getElem?_getD,List.getElem?_map,hb];rfl
   rw[e,e]
   exact nextA_le hc.1 ho hf (ha.bed b (zmo hb))
 unfold VOk at h1 h2
 omega
theorem leastA_le {r:Rk}{c:Int}(hc:0≤c∧c≤100000000) {F G:Am→Int}(hF:∀ a∈r.aims,VOk (F a)) (hG:∀ a∈r.aims,VOk (G a)) (h:∀ a∈r.aims,LeV c (F a) (G a)):LeV c (leastA (r.aims.map F)) (leastA (r.aims.map G)):=fun hN=>by
 obtain⟨_,f2,_⟩:=foldl_min (r.aims.map F) 2000000000
 obtain⟨_,g2,g3⟩:=foldl_min (r.aims.map G) 2000000000
 rcases g3 with g3|g3
 ·exact (hN g3).elim
 ·obtain⟨a,ha,he⟩:=List.mem_map.1 g3
  have hga:G a≠2000000000:=by rw[he];exact hN
  have h1:=h a ha hga
  have h2:=f2 (F a) (List.mem_map.2 ⟨a,ha,rfl⟩)
  have h3:=hF a ha
  have h4:=hG a ha
  unfold leastA at *
  unfold VOk at h3 h4
  rw[← he]
  omega
theorem valA_mono {r:Rk}(hr:ROk r) {s:Bool}{nums nums':List Int}{own own' c:Int}(hc:0≤c∧c≤100000000) (hn:∀ x∈nums,VOk x) (hn':∀ x∈nums',VOk x) (vo:VOk own) (vo':VOk own') (ho:LeV c own own') {st:Int}
 (h:∀ x:Int,lowG r.out≤x→x≤st→LeV c (nums.getD x.toNat 0) (nums'.getD x.toNat 0)):∀ k left,lowG r.out≤left→left≤st→LeV c (valA r s nums own k left) (valA r s nums' own' k left)
 | 0,left,h1,h2=>h left h1 h2
 | k+1, left, h1, h2=>by
   refine leastA_le hc (fun a ha=>meanA_vok vo (valA_vok hr hn vo k) (hr.aims a ha)) (fun a ha=>meanA_vok vo' (valA_vok hr hn' vo' k) (hr.aims a ha)) fun a ha=>?_
   exact meanA_le hc ho (fun x q1 q2=>valA_mono hr hc hn hn' vo vo' ho h k x q1 (by omega)) vo vo' (valA_vok hr hn vo k) (valA_vok hr hn' vo' k) (hr.aims a ha)
end Go.Proofs.YtgfbenanljjgaaaGreat.Du.Th.Ai

namespace Go.Oc
open Go Go.RowKit
theorem relV_plain {w:World}{p:Plan}{ver:Nat→Nat}:∀ (rs:List RV) (us:List Value),AV.relV w p ver (rs.map .r) us↔RV.relV w p.R rs us
 | [],us=>by simp only[List.map_nil,AV.relV,RV.relV]
 | r::rs, us=>by
   simp only[List.map_cons,AV.relV,AV.rel,RV.relV]
   constructor
   ·rintro ⟨u,us',e,h1,h2⟩;exact⟨u,us',e,h1,(relV_plain rs us').1 h2⟩
   ·rintro ⟨u,us',e,h1,h2⟩;exact⟨u,us',e,h1,(relV_plain rs us').2 h2⟩
def JCalls (P:Program) (F:FuncId) (u:Addr) (rs rs':List RV) (caps:List RV) (xs:List (List RV)):Prop :=
 callable P F=true∧∀ (w:World) (R:Nat→Prop) (b0:Nat) (vs:Array Value) (X:XS) (Ψ Θ:Nat→Prop),(∀ b,R b→b<w.heap.size)→RV.relV w R caps vs.toList→X.z=true→X.n0≤w.heap.size→YOk P X →
  (∀ b,Ψ b→b<w.heap.size)→(∀ b,Θ b→b<w.heap.size)→(∀ b,R b→¬ Θ b)→u=⟨b0,0,none⟩→¬ R b0→¬ Ψ b0→¬ Θ b0 →
  (∃ cells t,w.heap[b0]? = some (.cells cells t (0,0))∧RV.relV w R rs cells.toList∧∀ u∈cells.toList,u.oneCell'=true)→X.X (some xs) w Ψ Θ →
  Calls P F (#[.func (.yield X.l) #[] #[]]++vs) w fun e w'=>(∃ v,e = .returned v)∧((∃ Ψ' Θ',X.X none w' Ψ' Θ')∨∃ R' Ψ' Θ',X.X (some []) w' Ψ' Θ' ∧
   (∀ b,R' b→R b∨w.heap.size≤b)∧(∀ b,R' b→b<w'.heap.size)∧(∀ b,R' b→¬ Θ' b)∧¬ Θ' b0∧¬ Ψ' b0∧¬ R' b0 ∧
   ∃ cells t,w'.heap[b0]? = some (.cells cells t (0,0))∧RV.relV w' R' rs' cells.toList∧∀ u∈cells.toList,u.oneCell'=true)
def jpost (P:Program) (rs':List RV):Exit→AS→Prop
 | .normal,s=>(∃ l z,(s.rows 999).c = .gh P l z none)∨(∃ l z,(s.rows 999).c = .gh P l z (some []))∧(s.rows 1000).c = .box (rs'.map .r)
 | .ret,s=>(∃ l z,(s.rows 999).c = .gh P l z none)∨(∃ l z,(s.rows 999).c = .gh P l z (some []))∧(s.rows 1000).c = .box (rs'.map .r)
 | _,_=>False
theorem jcalls_st {P:Program}{f:FuncId}{fn:Func}{c:Code}{n:Nat}{u:Addr}{rs rs' caps:List RV}{xs:List (List RV)}(hf:P.funcs[f]? = some fn) (hb:fn.body=some c) (hc:callable P f=true) (hn:fn.ntmps=n) (hres:fn.results.toList=[])
 (hargs:caps.length+1≤n) (h:∀ C l,awp P C c (jpost P rs') (st n (argL 0 (.yl l::caps)) (fun _=>0) [(998,.sus [.pu 1000 0 u] [.pointer (some u)]),(999,.gh P l true (some xs)),(1000,.box (rs.map .r))])):JCalls P f u rs rs' caps xs:=by
 refine⟨hc,fun w R b0 vs0 X Ψ Θ hR hV0 hz hn0 hY hΨ hΘ hRΘ hu hRb hΨb hΘb hblk hX=>?_⟩
 obtain⟨cells,ty,hheap,hcells,hone⟩:=hblk
 have hb0:b0<w.heap.size:=(Array.getElem?_eq_some_iff.1 hheap).1
 have hV:RV.relV w R (.yl X.l::caps) (#[Value.func (.yield X.l) #[] #[]]++vs0).toList:=by
  simp only[RV.relV];exact⟨Value.func (.yield X.l) #[] #[],vs0.toList,by simp,by simp only[RV.rel],hV0⟩
 generalize #[Value.func (.yield X.l) #[] #[]]++vs0=vs at hV
 have hlen:=RV.relV_length hV
 simp only[Array.length_toList,List.length_cons] at hlen
 let C:Ctx:={ w0:=w,R0:=R,bor:=fun b=>Θ b∨b=b0,pin:=fun k=>if k=1000 then some (some b0,1) else none,X:=X }
 let p:Plan:={ R:=R,β:=fun k=>if k=1000 then some b0 else none,γ:=fun _=>1,X:=X,Ψ:=Ψ,Θ:=Θ }
 have hβ:∀ k b,p.β k=some b→k=1000∧b=b0:=fun k b hk=>by
  have hk':(if k=1000 then some b0 else none)=some b:=hk
  split at hk'
  ·rename_i e;injection hk' with hk';exact⟨e,hk'.symm⟩
  ·cases hk'
 have hs:SR C p (st n (argL 0 (.yl X.l::caps)) (fun _=>0) [(998,.sus [.pu 1000 0 u] [.pointer (some u)]),(999,.gh P X.l true (some xs)),(1000,.box (rs.map .r))]) { tmps:=vs++Array.replicate (fn.ntmps-vs.size) undef,defers:=[] } w:={
  base:=⟨rfl,rfl,rfl,Nat.le_refl _,fun _ _ _ _=>rfl⟩
  r0:=fun _ h=>h
  rn:=fun _ h=>.inl h
  rb:=hR
  tm:=fun t=>by
   show (look (argL 0 (.yl X.l::caps)) t).rel _ _ _ _
   by_cases hmem:∃ x,(t,x)∈argL 0 (RV.yl X.l::caps)
   ·cases e:(RV.yl X.l::caps)[t]? with
    | none =>
      obtain⟨x,hx⟩:=hmem
      obtain⟨i,y,h1,h2⟩:=argL_mem _ hx
      simp only[Nat.zero_add,Prod.mk.injEq] at h1
      rw[← h1.1,e] at h2;cases h2
    | some x =>
      obtain⟨u,hu,hx⟩:=RV.relV_get hV e
      have:(vs++Array.replicate (fn.ntmps-vs.size) undef).getD t undef=u:=by
       have ht:t<vs.size:=by have:=(List.getElem?_eq_some_iff.1 hu).1;simpa using this
       rw[Array.getD_eq_getD_getElem?,Array.getElem?_append_left ht]
       simp only[Array.getElem?_toList] at hu
       rw[hu];rfl
      have e2:=argL_look (k:=0) e
      rw[Nat.zero_add] at e2
      rw[this,e2]
      simpa only[AV.rel] using hx
   ·rw[look_none hmem]
    exact AV.rel_un _ _ _ _
  sz:=by simp only[Array.size_append,Array.size_replicate,st];omega
  ex:={
   px:=rfl
   n0:=hn0
   ψ0:=fun hz' b hb=>by have hz2:X.z=false:=hz';rw[hz] at hz2;cases hz2
   ψl:=hΨ
   θl:=hΘ
   ψb:=fun k b h=>by obtain⟨_,rfl⟩:=hβ k b h;exact⟨hΨb,hΘb⟩
   ψr:=hRΘ
   ψo:=fun b h=>h.elim
   θo:=fun b h _=>.inl h
   bo:=fun b h=>h.elim (fun h=>h.elim (hΘ b) (fun e=>by rw[e];exact hb0)) (fun h=>h.elim)
   ψn:=fun hn=>(hn _ _ _ _ hX).elim
   hd:=fun b h=>h.elim
   rm:=fun _=>rfl
   df:=⟨[],rfl,List.nodup_nil,fun D hD=>by cases hD⟩ }
  rw:=fun k=>by
   show zrl w p _ k (lookc [(998,RowC.sus [.pu 1000 0 u] [.pointer (some u)]),(999,RowC.gh P X.l true (some xs)),(1000,.box (rs.map .r))] k)
   rw[zlc,zlc,zlc,lookc_nil]
   split
   ·rename_i e
    subst e
    simp only[zrl]
    refine⟨rfl,rfl,?_⟩
    simp only[AV.relV,AV.rel];exact⟨_,[],rfl,⟨rfl,Nat.zero_le _,fun _=>⟨b0,rfl,by rw[hu]⟩⟩,rfl⟩
   ·split
    ·rename_i e
     subst e
     simp only[zrl];exact⟨trivial,rfl,rfl,rfl,hz,hY,hX⟩
    ·split
     ·rename_i e
      subst e
      simp only[zrl];exact⟨b0,cells,ty,rfl,hheap,(relV_plain rs _).2 hcells,hone⟩
     ·rename_i e
      simp only[zrl]
      refine⟨?_,rfl⟩
      show (if k=1000 then some b0 else none)=none
      rw[if_neg e]
  bl:=fun k b h=>by
   obtain⟨rfl,rfl⟩:=hβ k b h
   exact⟨hb0,hRb,.inr (.inl ⟨Nat.le_refl _,.inr rfl⟩)⟩
  ij:=fun k k' b h h'=>(hβ k b h).1.trans (hβ k' b h').1.symm
  cap:=fun k=>by simp [p,maxLen]
  pn:=fun k x hx=>by
   have hx':(if k=1000 then some (some b0,1) else none)=some x:=hx
   split at hx'
   ·rename_i e
    injection hx' with hx'
    subst hx' e
    exact⟨rfl,rfl,rfl,Nat.le_refl _⟩
   ·cases hx'
  lk:=fun j km n l cur h _=>by
   have h':lookc [(998,RowC.sus [.pu 1000 0 u] [.pointer (some u)]),(999,RowC.gh P X.l true (some xs)),(1000,.box (rs.map .r))] j = .mi km n l cur:=h
   rw[zlc,zlc,zlc,lookc_nil] at h'
   split at h'
   ·cases h'
   ·split at h'
    ·cases h'
    ·split at h'<;>cases h' }
 refine callsIn_wide.1 (callsIn_of_wp_marks (n:=0) hf hb trivial (wpIn_mono (h C X.l _ w ⟨p,hs⟩) ?_))
 rintro e a' w' ⟨s',⟨p',hs'⟩,hq⟩
 have fin:∀ (a':Act) (w':World),SR C p' s' a' w'→((∃ l z,(s'.rows 999).c = .gh P l z none)∨(∃ l z,(s'.rows 999).c = .gh P l z (some []))∧(s'.rows 1000).c = .box (rs'.map .r)) →
  ∃ v,(results fn a'.tmps).run P w' = .ok v w'∧((∃ v',Ending.returned v = .returned v')∧((∃ Ψ' Θ',X.X none w' Ψ' Θ')∨∃ R' Ψ' Θ',X.X (some []) w' Ψ' Θ' ∧
  (∀ b,R' b→R b∨w.heap.size≤b)∧(∀ b,R' b→b<w'.heap.size)∧(∀ b,R' b→¬ Θ' b)∧¬ Θ' b0∧¬ Ψ' b0∧¬ R' b0 ∧
  ∃ cells t,w'.heap[b0]? = some (.cells cells t (0,0))∧RV.relV w' R' rs' cells.toList∧∀ u∈cells.toList,u.oneCell'=true)):=fun a' w' hs' hq0=>by
  have hm:(fn.results.mapM (resOp a'.tmps)).run P w' = .ok #[] w':=by
   rw[Array.mapM_eq_mapM_toList,hres]
   simp only[Sem.run_map,List.mapM_nil,Sem.run_pure,Result.andThen_ok]
  have hpx:p'.X=X:=hs'.ex.px
  have hr:=hs'.rw 999
  rcases hq0 with⟨l,z',hq⟩|⟨⟨l,z',hq⟩,hbox⟩
  ·rw[hq] at hr
   simp only[zrl] at hr
   rw[hpx] at hr
   exact⟨.tuple #[],by rw[results_eq,Sem.run_bind,hm];simp,⟨_,rfl⟩,.inl ⟨p'.Ψ,p'.Θ,hr.2.2.2.2.2.2⟩⟩
  ·obtain⟨hpb,_⟩:=hs'.pn 1000 (some b0,1) (by show (if (1000:Nat)=1000 then some (some b0,1) else none)=_;rw[if_pos rfl])
   have hbl:=hs'.bl 1000 b0 hpb
   have hψb:=hs'.ex.ψb 1000 b0 hpb
   have hrow:=hs'.rw 1000
   rw[hbox] at hrow
   simp only[zrl] at hrow
   obtain⟨b,cells',t',e1,e2,e3,e4⟩:=hrow
   rw[hpb] at e1
   injection e1 with e1
   subst e1
   refine⟨.tuple #[],by rw[results_eq,Sem.run_bind,hm];simp,⟨_,rfl⟩,.inr ⟨p'.R,p'.Ψ,p'.Θ,?_,fun b hb=>?_,hs'.rb,hs'.ex.ψr,hψb.2,hψb.1,hbl.2.1,cells',t',e2,(relV_plain rs' _).1 e3,e4⟩⟩
   ·rw[hq] at hr
    simp only[zrl] at hr
    rw[hpx] at hr
    exact hr.2.2.2.2.2.2
   ·rcases hs'.rn b hb with g|g|g
    ·exact .inl g
    ·exact .inr g
    ·exact g.elim
 cases e with
 | normal=>exact hs'.leave fun a'' w'' _ hs''=>fin a'' w'' hs'' hq
 | ret=>exact hs'.leave fun a'' w'' _ hs''=>fin a'' w'' hs'' hq
 | _=>exact hq.elim
section
variable {P:Program}{C:Ctx}{p:Plan}{s:AS}{a:Act}{w:World}
set_option maxHeartbeats 400000 in
theorem range_lent {C0:Ctx}{g:Operand}{ps:Array Tmp}{assign body:Code}{Q:Exit→AS→Prop}(hS:SR C p s a w) (hrd:C.rd=none) (hC:C.X=XS.none) {F:FuncId}{args:List RV}{xs:List (List RV)}{u:Addr}{rs rs':List RV}
 (hF:callee? (s.ev g)=some (F,args.map .r)) (hI:JCalls P F u rs rs' args xs) (hdead:(s.rows 0).c = .dead) (ts:List Nat) (hps:∀ t∈ps.toList,t<s.n)
 {b0:Nat}{cells:Array Value}{ty:TypeId}(hu:u=⟨b0,0,none⟩) (hheap:w.heap[b0]? = some (.cells cells ty (0,0))) (hcells:RV.relV w p.R rs cells.toList) (hone:∀ u∈cells.toList,u.oneCell'=true) (hnb:¬ (b0<C.w0.heap.size∧¬ C.bor b0∧¬ C.own b0)) (hnh:¬ C.hd b0) (hb0R:¬ p.R b0) (hb0β:∀ k,p.β k≠some b0)
 (I:List (List RV)→List Value→AS→Prop)
 (h0:∀ us,I xs us { n:=s.n,tm:=look [],rows:=upd s.rows 0 ⟨(s.rows 0).ver,.sus (ts.map s.tm) us⟩ })
 (round:∀ e rest us s',s'.n=s.n→I (e::rest) us s'→e.length=ps.size∧∃ avs,(s'.rows 0).c = .sus avs us∧∀ C,awp P C assign (fun x s2=>x = .normal∧∀ C,awp P C body (rpost s.n I (fun _ _ _=>False) rest us) s2) ⟨s.n,psA ps.toList e (look (ts.zip avs)),s'.rows⟩)
 (take:∀ us p' s' R' a' w' cells' t',s'.n=s.n→I [] us s'→SR C p' s' a' w'→a'.tmps=a.tmps→us=(ts.map fun t=>a'.tmps.getD t undef)→(∀ b,R' b→p.R b∨C.w0.heap.size≤b)→(∀ b,R' b→b<w'.heap.size)→(∀ j b,p'.β j=some b→¬ R' b)→(∀ j,p'.β j≠some b0)→¬ R' b0 →
  (∀ D,({ target:=.collected D,args:=#[] }:Deferred)∈a'.defers→¬ R' D)→w'.heap[b0]? = some (.cells cells' t' (0,0))→RV.relV w' R' rs' cells'.toList→(∀ u∈cells'.toList,u.oneCell'=true)→∃ s2,SRel C0 s2 a' w'∧Q .normal s2) :
 (Code.rangeFunc g ps assign body).wpIn Fence.wide 0 P (fun e a' w'=>∃ s',SRel C0 s' a' w'∧Q e s') a w:=by
 have hn:∀ o w Ψ Θ,¬ C.X.X o w Ψ Θ:=fun o w Ψ Θ h=>by rw[hC] at h;exact h
 refine wpIn_rangeFunc fun fn _=>?_
 obtain⟨vsC,hgv,hcs0⟩:=callee_eval hS hF
 have hcs:RV.relV w p.R args vsC.toList:=(relV_plain args _).1 hcs0
 have hψ0:=hS.ex.ψn hn
 obtain⟨rec,hrec⟩:∃ rec:LoopState→Option Code→Loop,rec=fun st pe=>{ state:=st,pending:=pe,fn,tmps:=a.tmps,params:=ps,assign,body,defers:=w.heap.size }:=⟨_,rfl⟩
 obtain⟨w1,hw1⟩:∃ w1,(w.alloc (.deferred (some []))).alloc (.loop (rec .ready none))=w1:=⟨_,rfl⟩
 obtain⟨L,hLdef⟩:∃ L,L=w.heap.size+1:=⟨_,rfl⟩
 obtain⟨aL,haL⟩:∃ aL:Act,aL={ tmps:=a.tmps,defers:={ target:=.collected w.heap.size,args:=#[] }::a.defers }:=⟨_,rfl⟩
 have hS1:SR C p s aL w1:=by rw[haL,← hw1];exact hS.enter hrd _
 have hsz1:w1.heap.size=w.heap.size+2:=by rw[← hw1];simp
 have hL1:w1.heap[L]? = some (.loop (rec .ready none)):=by
  rw[← hw1,hLdef];have:=World.alloc_heap_new (w.alloc (.deferred (some []))) (.loop (rec .ready none));rwa [World.size_alloc] at this
 have hLR:¬ p.R L:=fun h=>by have:=hS.rb L h;omega
 have hLβ:∀ k,p.β k≠some L:=fun k h=>by have:=(hS.bl k L h).1;omega
 have hL0:C.w0.heap.size≤L:=by have:=hS.base.size;omega
 have hLm:∀ d∈aL.defers,d.target ≠ .collected L:=fun d hd e=>by
  obtain⟨Ds,g1,_,g3⟩:=hS1.ex.df
  rw[g1] at hd
  obtain⟨D,hD,rfl⟩:=List.mem_map.1 hd
  injection e with e
  subst e
  have:=(g3 _ hD).1
  rw[hL1] at this;cases this
 obtain⟨us,hus⟩:∃ us,us=ts.map fun t=>aL.tmps.getD t undef:=⟨_,rfl⟩
 have hS2:=hS1.wait hdead ts
 rw[← hus,← look_nil'] at hS2
 have htmps:aL.tmps=a.tmps:=by rw[haL]
 have hsn:s.n=aL.tmps.size:=by rw[htmps];exact hS.sz.symm
 let X:XS:={ l:=L,z:=true,n0:=w1.heap.size,R:=p.R,X:=XJ C aL L rec (fun left s'=>I left us s') (fun c s'=>False),st:=XJ.st hn }
 have hcap:RV.relV w1 p.R args vsC.toList:=RV.relV_mono (fun _ h=>h) (fun ad hr=>World.cell?_of_block (by rw[← hw1];exact (Below.heap_alloc _ _ _ (by have:=hS.rb _ hr;simp;omega)).trans (Below.heap_alloc _ _ _ (hS.rb _ hr)))) _ _ hcs
 have hY:YOk P X:=by
  intro e rest wv Ψ Θ R vs hX hR hV
  obtain⟨pv,sv,hSv,hsnv,⟨hIv,hLv⟩,hLRv,hLβv,hΨv,hΘv⟩:=hX
  have hψv:=hSv.ex.ψn hn
  obtain⟨hlen,avs,hrow,hround⟩:=round e rest us sv (hsnv.trans hsn.symm) hIv
  have hvs:vs.size=ps.size:=by have:=RV.relV_length hV;simp only[Array.length_toList] at this;omega
  have hltv:L<wv.heap.size:=(Array.getElem?_eq_some_iff.1 hLv).1
  have hy:=run_yield (P:=P) (args:=vs) hLv (by rw[hrec];exact hvs)
  rw[hrec] at hy
  refine⟨fn,_,assign,body,hy,?_⟩
  have hRβ:∀ b,R b→b<wv.heap.size∧∀ k,pv.β k≠some b:=fun b hb=>⟨(hR b hb).1,fun k hk=>(hR b hb).2.1 ((hΘv b).2 (.inl ⟨k,hk⟩))⟩
  have hRL:¬ R L:=fun hb=>(hR L hb).2.1 ((hΘv L).2 (.inr rfl))
  have hkv:Kept wv wv pv { pv with R:=fun b=>pv.R b∨R b } sv.ver sv.ver:=⟨fun _ h=>.inl h,fun _ _=>rfl,fun _=>Nat.le_refl _,fun _ _=>⟨rfl,rfl⟩⟩
  have haw:=hSv.awake (by rw[hrow,hus])
  have hzip:(ps.zip vs).foldl (fun tmps (x:Nat × Value)=>tmps.setIfInBounds x.1 x.2) a.tmps=(ps.toList.zip vs.toList).foldl (fun tmps (x:Nat × Value)=>tmps.setIfInBounds x.1 x.2) a.tmps:=by
   rw[← Array.foldl_toList,Array.toList_zip]
  obtain⟨hpsz,hprel⟩:=psA_rel (w:=wv) (p:={ pv with R:=fun b=>pv.R b∨R b }) (ver:=sv.ver) ps.toList e vs.toList (look (ts.zip avs)) a.tmps (RV.relV_mono (fun _ h=>.inr h) (fun _ _=>rfl) _ _ hV)
   (fun t ht=>by rw[← htmps,← hsn];exact hps t ht) (fun t=>by rw[← htmps];exact AV.rel_mono hkv _ _ (haw.tm t))
  let Hd:Nat→Prop:=fun b=>b=L∨∃ d∈aL.defers,d.target = .collected b
  have hHd:∀ b,Hd b→b<wv.heap.size∧¬ C.bor b∧¬ pv.R b∧¬ R b∧∀ k,pv.β k≠some b:=fun b hb=>by
   rcases hb with rfl|⟨d,hd,hdt⟩
   ·exact⟨hltv,fun hb=>by have:=hS.ex.bo b (.inl hb);omega,hLRv,hRL,hLβv⟩
   ·obtain⟨Ds,g1,_,g3⟩:=hSv.ex.df
    rw[g1] at hd
    obtain⟨D,hD,rfl⟩:=List.mem_map.1 hd
    injection hdt with hdt
    subst hdt
    obtain⟨k1,k2,k3,k4,k5,k6⟩:=g3 D hD
    refine⟨(Array.getElem?_eq_some_iff.1 k1).1,fun hb=>by have:=hS.ex.bo D (.inl hb);omega,k3,fun hr=>?_,k4⟩
    have hD1:D<w1.heap.size:=by
     obtain⟨Ds',q1,_,q3⟩:=hS1.ex.df
     have:Ds'=Ds:=marks_inj (q1.symm.trans g1)
     subst this
     exact (Array.getElem?_eq_some_iff.1 (q3 D hD).1).1
    rcases (hR D hr).2.2 with q|q
    ·obtain⟨Ds',q1,_,q3⟩:=hS1.ex.df
     have:Ds'=Ds:=marks_inj (q1.symm.trans g1)
     subst this
     exact (q3 D hD).2.2.1 q
    ·have q':w1.heap.size≤D:=q
     omega
  have hSa:=hSv.into (L:=L) (w2:=wv) (R:=R) (rd:=some L) (Hd:=Hd) (a':={ tmps:=(ps.zip vs).foldl (fun tmps (x:Nat × Value)=>tmps.setIfInBounds x.1 x.2) a.tmps,defers:=[] }) (tm':=psA ps.toList e (look (ts.zip avs)))
   hn rfl rfl rfl rfl (fun _ _=>rfl) hLRv hLβv hRβ (fun t=>by rw[hzip];exact hprel t) (by rw[hzip,hpsz,← htmps];exact hsnv.symm) rfl hHd hC
  have hna:=hsnv.trans hsn.symm
  refine roundIn_of_wpIn trivial ?_
  have hassign:=hround (Cin C pv R wv (some L) Hd) _ _ ⟨_,hna▸hSa⟩
  refine wpIn_mono hassign ?_
  rintro x a1 wa ⟨s1,⟨p1,hS1a⟩,rfl,hbody⟩
  have hLa:wa.heap[L]? = some (.loop (rec .ready none)):=(hS1a.base.block L hltv (fun ⟨hb,_⟩=>(hHd L (.inl rfl)).2.1 hb) (fun ⟨k,hk,_⟩=>hLβv k hk)).trans hLv
  have hlta:L<wa.heap.size:=(Array.getElem?_eq_some_iff.1 hLa).1
  refine⟨_,run_beginRound hLa (by rw[hrec]),?_⟩
  have hop1:=Hop.of (L:=L) (w:=wv) (w2:=wv) rfl rfl rfl rfl (fun _ _=>rfl) hS1a
  have hHd1:∀ b,Hd b→b<wa.heap.size∧¬ (Cin C pv R wv (some L) Hd).bor b∧¬ p1.R b∧¬ False∧∀ k,p1.β k≠some b:=fun b hb=>by
   obtain⟨_,q2,_,q4,q5,_,_,q8⟩:=hS1a.ex.hd b hb
   exact⟨q4,q2,q5,fun h=>h,q8⟩
  have hS1b:=hS1a.into (L:=L) (w2:=wa.putObj L (.loop { rec .ready none with state:=.busy })) (R:=fun _=>False) (rd:=some L) (Hd:=Hd) (a':=a1) (tm':=s1.tm) hn rfl rfl rfl World.putObj_size putObj_other
   (hHd1 L (.inl rfl)).2.2.1 (hHd1 L (.inl rfl)).2.2.2.2 (fun _ h=>h.elim) (fun t=>by
    have hk1:Kept wa (wa.putObj L (.loop { rec .ready none with state:=.busy })) p1 { p1 with R:=fun b=>p1.R b∨False } s1.ver s1.ver :=
     ⟨fun _ h=>.inl h,fun ad hr=>World.cell?_of_block (putObj_other _ fun e=>(hHd1 L (.inl rfl)).2.2.1 (e▸hr)),fun _=>Nat.le_refl _,fun _ _=>⟨rfl,rfl⟩⟩
    exact AV.rel_mono hk1 _ _ (hS1a.tm t)) hS1a.sz (hS1a.ex.rm rfl) hHd1 hC
  refine wpIn_mono (hbody _ _ _ ⟨_,hS1b⟩) ?_
  have hLb:(wa.putObj L (.loop { rec .ready none with state:=.busy })).heap[L]? = some (.loop { rec .ready none with state:=.busy }):=World.putObj_heap_same hlta
  have hRo:∀ b,R b→b<wv.heap.size∧(∀ d∈aL.defers,d.target ≠ .collected b)∧¬ C.hd b∧(C.R0 b∨C.w0.heap.size≤b∨C.own b):=fun b hb=>by
   have hsz0:=hS.base.size
   refine⟨(hR b hb).1,fun d hd hdt=>(hHd b (.inr ⟨d,hd,hdt⟩)).2.2.2.1 hb,fun hh=>?_,?_⟩
   ·obtain⟨q1,_,_,_,q5,_⟩:=hS.ex.hd b hh
    rcases (hR b hb).2.2 with q|q
    ·exact q5 q
    ·have q':w1.heap.size≤b:=q;omega
   ·rcases (hR b hb).2.2 with q|q
    ·exact hS.rn b q
    ·have q':w1.heap.size≤b:=q;exact .inr (.inl (by omega))
  have fin:∀ (jump:Option Code) (s3:AS) (p3:Plan) (a3:Act) (w3:World),SR (Cin (Cin C pv R wv (some L) Hd) p1 (fun _=>False) (wa.putObj L (.loop { rec .ready none with state:=.busy })) (some L) Hd) p3 s3 a3 w3 →
   (match jump with|none=>∃ s4,Sub s3 s4∧I rest us ⟨s.n,look [],s4.rows⟩|some c=>∃ s4,Sub s3 s4∧False) →
   ∃ v w', (Instr.endRound L jump).run P w3 = .ok v w'∧(w'.os=wv.os∧w'.tape=wv.tape∧w'.output=wv.output∧wv.heap.size≤w'.heap.size∧(∀ b, b<wv.heap.size→¬ Θ b→w'.heap[b]? = wv.heap[b]?) ∧
     ∃ Ψ' Θ':Nat→Prop,(∀ b,Ψ' b→Ψ b∨R b∨wv.heap.size≤b)∧(∀ b,Θ' b→Θ b∨wv.heap.size≤b)∧(∀ b,Ψ' b→b<w'.heap.size)∧(∀ b,Θ' b→b<w'.heap.size) ∧
     ((Ending.returned v = .returned (.bool true)∧X.X (some rest) w' Ψ' Θ')∨(Ending.returned v = .returned (.bool false)∧X.X Option.none w' Ψ' Θ'))):=by
   intro jump s30 p30 a3 w3 h30 hj0
   obtain⟨s3,hsub,hj⟩:∃ s4,Sub s30 s4∧(match jump with|none=>I rest us ⟨s.n,look [],s4.rows⟩|some c=>False):=by
    cases jump with
    | none=>exact hj0
    | some c=>exact hj0
   obtain⟨p3,h3⟩:=hsub _ _ _ ⟨p30,h30⟩
   have hL3:w3.heap[L]? = some (.loop { rec .ready none with state:=.busy }):=by
    refine (h3.base.block L (by show L<(wa.putObj L _).heap.size;rw[World.putObj_size];exact hlta) (fun ⟨hb,_⟩=>(hHd1 L (.inl rfl)).2.1 hb) (fun ⟨k,hk,_⟩=>(hHd1 L (.inl rfl)).2.2.2.2 k hk)).trans hLb
   obtain⟨_,_,_,_,e5,_,_,e8⟩:=h3.ex.hd L (.inl rfl)
   have hend:=run_endRound (P:=P) jump hL3
   have hlt3:L<w3.heap.size:=(Array.getElem?_eq_some_iff.1 hL3).1
   have hop2:=Hop.of (C:=Cin C pv R wv (some L) Hd) (p:=p1) (L:=L) (w:=wa) (w2:=wa.putObj L (.loop { rec .ready none with state:=.busy })) (R:=fun _=>False) rfl rfl rfl World.putObj_size putObj_other h3
   obtain⟨o4,ho4⟩:∃ o4,o4=Obj.loop { { rec .ready none with state:=.busy } with state:=if jump.isNone then .ready else .done,pending:=jump }:=⟨_,rfl⟩
   rw[← ho4] at hend
   have hop:=(Hop.trans (C':=Cin C pv R wv (some L) Hd) hop1 (fun _=>Iff.rfl) hop2).put (o:=o4)
   have hL4:(w3.putObj L o4).heap[L]? = some (.loop (rec (if jump.isNone then .ready else .done) jump)):=by
    rw[World.putObj_heap_same hlt3,ho4,hrec]
   have hS4:SR C p3 ⟨s.n,look [],s3.rows⟩ aL (w3.putObj L o4):=by
    have:=hSv.land (C':=Cin (Cin C pv R wv (some L) Hd) p1 (fun _=>False) (wa.putObj L (.loop { rec .ready none with state:=.busy })) (some L) Hd) hn hL0 hLm hop hRo rfl rfl h3 e5 e8 rfl rfl rfl World.putObj_size putObj_other
    rw[hna,← look_nil'] at this
    exact this
   have hψ4:=hS4.ex.ψn hn
   refine⟨_,_,hend,hop.os,hop.tape,hop.output,hop.size,fun b hb hθ=>hop.heap b hb (fun k hk=>hθ ((hΘv b).2 (.inl ⟨k,hk⟩))) (fun e=>hθ ((hΘv b).2 (.inr e))),
    fun b=>p3.R b∨(∃ k,p3.β k=some b)∨(b<C.w0.heap.size∧¬ C.bor b∧¬ C.own b)∨b=L∨C.hd b∨∃ d∈aL.defers,d.target = .collected b,fun b=>(∃ k,p3.β k=some b)∨b=L,fun b hb=>?_,fun b hb=>?_,fun b hb=>?_,fun b hb=>?_,?_⟩
   ·rcases hb with g|⟨k,g⟩|g|g|g|g
    ·rcases hop.rn b g with q|q|q|⟨k,q,_⟩
     ·exact .inl ((hΨv b).2 (.inl q))
     ·exact .inr (.inl q)
     ·exact .inr (.inr q)
     ·exact .inl ((hΨv b).2 (.inr (.inl ⟨k,q⟩)))
    ·rcases hop.bl k b g with q|⟨_,_,k',_,q⟩|⟨k',q,_⟩
     ·exact .inr (.inr q)
     ·exact .inl ((hΨv b).2 (.inr (.inl ⟨k',q⟩)))
     ·exact .inl ((hΨv b).2 (.inr (.inl ⟨k',q⟩)))
    ·exact .inl ((hΨv b).2 (.inr (.inr (.inl g))))
    ·exact .inl ((hΨv b).2 (.inr (.inr (.inr (.inl g)))))
    ·exact .inl ((hΨv b).2 (.inr (.inr (.inr (.inr (.inl g))))))
    ·exact .inl ((hΨv b).2 (.inr (.inr (.inr (.inr (.inr g))))))
   ·rcases hb with⟨k,g⟩|g
    ·rcases hop.bl k b g with q|⟨_,_,k',_,q⟩|⟨k',q,_⟩
     ·exact .inr q
     ·exact .inl ((hΘv b).2 (.inl ⟨k',q⟩))
     ·exact .inl ((hΘv b).2 (.inl ⟨k',q⟩))
    ·exact .inl ((hΘv b).2 (.inr g))
   ·have hsz4:=hS4.base.size
    rcases hb with g|⟨k,g⟩|g|rfl|g|⟨d,hd,hdt⟩
    ·exact hS4.rb b g
    ·exact (hS4.bl k b g).1
    ·omega
    ·rw[World.putObj_size];exact hlt3
    ·exact (hS4.ex.hd b g).2.2.2.1
    ·exact Nat.lt_of_lt_of_le (hHd b (.inr ⟨d,hd,hdt⟩)).1 hop.size
   ·rcases hb with⟨k,g⟩|rfl
    ·exact (hS4.bl k b g).1
    ·rw[World.putObj_size];exact hlt3
   ·cases jump with
    | none=>exact .inl ⟨rfl,p3,_,hS4,hsn,⟨hj,hL4⟩,e5,e8,fun _=>Iff.rfl,fun _=>Iff.rfl⟩
    | some c=>exact .inr ⟨rfl,p3,_,hS4,hsn,⟨c,hj,hL4⟩,e5,e8,fun _=>Iff.rfl,fun _=>Iff.rfl⟩
  rintro en a3 w3 ⟨s3,⟨p3,h3⟩,hq⟩
  cases en with
  | normal=>exact fin none s3 p3 a3 w3 h3 hq
  | ret=>exact fin (some .ret) s3 p3 a3 w3 h3 hq
  | exit id=>exact fin (some (.exit id)) s3 p3 a3 w3 h3 hq
  | goto l=>exact fin (some (.goto l)) s3 p3 a3 w3 h3 hq
  | panic ch=>exact hq.elim
  | outgrown=>exact hq.elim
 have hX0:X.X (some xs) w1 (fun b=>p.R b∨(∃ k,p.β k=some b)∨(b<C.w0.heap.size∧¬ C.bor b∧¬ C.own b)∨b=L∨C.hd b∨∃ d∈aL.defers,d.target = .collected b) (fun b=>(∃ k,p.β k=some b)∨b=L) :=
  ⟨p,_,hS2,hsn,⟨h0 us,hL1⟩,hLR,hLβ,fun _=>Iff.rfl,fun _=>Iff.rfl⟩
 have hlt1:L<w1.heap.size:=(Array.getElem?_eq_some_iff.1 hL1).1
 have hb0lt:b0<w.heap.size:=(Array.getElem?_eq_some_iff.1 hheap).1
 have hheap1:w1.heap[b0]? = some (.cells cells ty (0,0)):=by
  rw[← hw1]
  exact ((Below.heap_alloc _ _ _ (by simp;omega)).trans (Below.heap_alloc _ _ _ hb0lt)).trans hheap
 have hcells1:RV.relV w1 p.R rs cells.toList:=RV.relV_mono (fun _ h=>h) (fun ad hr=>World.cell?_of_block (by rw[← hw1];exact (Below.heap_alloc _ _ _ (by have:=hS.rb _ hr;simp;omega)).trans (Below.heap_alloc _ _ _ (hS.rb _ hr)))) _ _ hcells
 have hb0L:b0≠L:=by omega
 have hcall:=hI.2 w1 p.R b0 vsC X _ _ hS1.rb hcap rfl (Nat.le_refl _) hY (fun b hb=>by
  have hszw:=hS1.base.size
  rcases hb with g|⟨k,g⟩|g|rfl|g|⟨d,hd,hdt⟩
  ·exact hS1.rb b g
  ·exact (hS1.bl k b g).1
  ·omega
  ·exact hlt1
  ·exact (hS1.ex.hd b g).2.2.2.1
  ·obtain⟨Ds,g1,_,g3⟩:=hS1.ex.df
   rw[g1] at hd
   obtain⟨D,hD,rfl⟩:=List.mem_map.1 hd
   injection hdt with hdt
   subst hdt
   exact (Array.getElem?_eq_some_iff.1 (g3 D hD).1).1) (fun b hb=>by
  rcases hb with⟨k,g⟩|rfl
  ·exact (hS1.bl k b g).1
  ·exact hlt1) (fun b hb hθ=>by
  rcases hθ with⟨k,g⟩|rfl
  ·exact (hS1.bl k b g).2.1 hb
  ·exact hLR hb) hu hb0R (fun hb=>by
  rcases hb with g|⟨k,g⟩|g|g|g|⟨d,hd,hdt⟩
  ·exact hb0R g
  ·exact hb0β k g
  ·exact hnb g
  ·exact hb0L g
  ·exact hnh g
  ·obtain⟨Ds,g1,_,g3⟩:=hS1.ex.df
   rw[g1] at hd
   obtain⟨D,hD,rfl⟩:=List.mem_map.1 hd
   injection hdt with hdt
   subst hdt
   have:=(g3 _ hD).1
   rw[hheap1] at this;cases this) (fun hb=>by
  rcases hb with⟨k,g⟩|g
  ·exact hb0β k g
  ·exact hb0L g) ⟨cells,ty,hheap1,hcells1,hone⟩ hX0
 have e1:(Instr.enterLoop fn a.tmps ps assign body none).run P w = .ok (L,[{ target:=.collected w.heap.size,args:=#[] }]) w1:=by
  rw[run_enterLoop_outer,← hw1,hrec,hLdef]
 have e2:(resolve a.eval (rangeCall g L) 0).run P w1 = .ok { target:=.fn (.func F) vsC,args:=#[.func (.yield L) #[] #[]] } w1:=by
  simp only[resolve,hgv,Sem.run_bind,Deferred.ofValue,Sem.run_pure,Result.andThen_ok]
  simp [Act.eval]
 have e3:(invoke (.fn (.func F) vsC) #[.func (.yield L) #[] #[]]).run P w1 = .ok (.enter F (#[.func (.yield L) #[] #[]]++vsC)) w1:=by
  simp only[invoke];exact run_callFunc hI.1 _ _
 have e4:Fence.wide.depth.isSome=true→1≤0:=fun h=>by simp [Fence.wide] at h
 refine⟨L,_,w1,_,w1,F,_,w1,e1,e2,?_,e3,e4,?_⟩
 ·intro f' _;exact trivial
 ·refine callsIn_wide.2 (hcall.mono ?_)
  have haL':({ a with defers:=[{ target:=.collected w.heap.size,args:=#[] }]++a.defers }:Act)=aL:=by rw[haL];rfl
  rintro e w' ⟨⟨v,rfl⟩,hXX⟩
  rcases hXX.symm with⟨R',Ψ',Θ',hX,r1,r2,r3,r4,r5,r6,cells',t',c1,c2,c3⟩|⟨Ψ',Θ',hX⟩
  ·obtain⟨p',s',hS',hsn',⟨hI',hL'⟩,hLR',hLβ',hΨ',hΘ'⟩:=hX
   have hend:=run_endLoop (P:=P) hL' (by rw[hrec];simp)
   have hp:(rec .ready none).pending=none:=by rw[hrec]
   rw[hp] at hend
   refine⟨none,_,hend,?_⟩
   have hS4:∀ o,SR C p' s' aL (w'.putObj L o):=fun o=>hS'.turn (o:=o) hLR' hLβ' hL0 (hS'.ex.ψn hn) hLm
   rw[haL']
   obtain⟨o4,ho4⟩:∃ o4,Obj.loop { rec .ready none with state:=LoopState.done,pending:=none }=o4:=⟨_,rfl⟩
   have hR'L:¬ R' L:=fun h=>r3 L h ((hΘ' L).2 (.inr rfl))
   refine take us p' s' R' aL _ cells' t' (hsn'.trans hsn.symm) hI' (hS4 _) htmps hus (fun b hb=>?_) (fun b hb=>by rw[World.putObj_size];exact r2 b hb) (fun j b hj hb=>r3 b hb ((hΘ' b).2 (.inl ⟨j,hj⟩))) (fun j hj=>r4 ((hΘ' b0).2 (.inl ⟨j,hj⟩))) r6 (fun D hD hRD=>?_) ?_ ?_ c3
   ·rcases r1 b hb with g|g
    ·exact .inl g
    ·exact .inr (by omega)
   ·have hD1:D<w1.heap.size∧¬ p.R D:=by
     obtain⟨Ds',q1,_,q3⟩:=hS1.ex.df
     rw[q1] at hD
     obtain⟨D',hD',e⟩:=List.mem_map.1 hD
     injection e with e
     injection e with e
     subst e
     exact⟨(Array.getElem?_eq_some_iff.1 (q3 D' hD').1).1,(q3 D' hD').2.2.1⟩
    rcases r1 D hRD with g|g
    ·exact hD1.2 g
    ·omega
   ·rw[World.putObj_heap_other hb0L];exact c1
   ·exact RV.relV_mono (fun _ h=>h) (fun ad hr=>World.cell?_of_block (World.putObj_heap_other fun e:ad.block=L=>hR'L (e▸hr))) _ _ c2
  ·obtain⟨p',s',hS',hsn',⟨c,hJ',hL'⟩,hLR',hLβ',_⟩:=hX
   exact hJ'.elim
theorem SR.give {k t0:Nat}{u0:Addr}{rs:List RV}(hS:SR C p s a w) (ht0:s.tm t0 = .pu k 0 u0) (hX:C.X=XS.none) (hown:∀ b,¬ C.own b) (hv:s.ver k=0) (hc:(s.rows k).c = .box (rs.map .r)) (hcb:∃ x,C.pin k=some x∧∀ b,x.1=some b→C.bor b) :
 ∃ b0 cells ty, u0=⟨b0, 0, none⟩∧p.β k=some b0∧w.heap[b0]? = some (.cells cells ty (0, 0))∧RV.relV w p.R rs cells.toList∧(∀ u∈cells.toList, u.oneCell'=true)∧C.bor b0∧¬ p.R b0∧(∀ j, upd p.β k none j≠some b0) ∧
   SR { C with pin:=fun j=>if j=k then none else C.pin j } { p with β:=upd p.β k none,γ:=upd p.γ k 1 } ⟨s.n,fun t=>(s.tm t).park k u0,fun j=>if j=k then ⟨0,.dead⟩ else ⟨(s.rows j).ver,(s.rows j).c.park k u0⟩⟩ a w:=by
 have hn:∀ o w Ψ Θ,¬ C.X.X o w Ψ Θ:=fun o w Ψ Θ h=>by rw[hX] at h;exact h
 have hψ:=hS.ex.ψn hn
 have hrow:=hS.rw k
 rw[hc] at hrow
 simp only[zrl] at hrow
 obtain⟨b0,cells,ty,hβ,hheap,hcells,hone⟩:=hrow
 have hbor:C.bor b0:=by
  obtain⟨x,hx,hxb⟩:=hcb
  exact hxb b0 ((hS.pn k x hx).1.symm.trans hβ)
 have hu0:u0=⟨b0,0,none⟩:=by
  have hx:=hS.tm t0
  rw[ht0] at hx
  simp only[AV.rel] at hx
  obtain⟨b,hb,hbv⟩:=hx.2.2 hv.symm
  rw[hβ] at hb
  injection hb with hb
  subst hb
  have:=hx.1.symm.trans hbv
  injection this with this
  injection this
 subst hu0
 have hver:AS.ver ⟨s.n,fun t=>(s.tm t).park k ⟨b0,0,none⟩,fun j=>if j=k then ⟨0,.dead⟩ else ⟨(s.rows j).ver,(s.rows j).c.park k ⟨b0,0,none⟩⟩⟩=s.ver:=funext fun j=>by
  show (if j=k then (⟨0,.dead⟩:Row) else ⟨(s.rows j).ver,(s.rows j).c.park k ⟨b0,0,none⟩⟩).ver=s.ver j
  split
  ·rename_i e;subst e;exact hv.symm
  ·rfl
 have hβ2:∀ j b,upd p.β k none j=some b→j≠k∧p.β j=some b∧b≠b0:=fun j b hb'=>by
  by_cases e:j=k
  ·subst e;rw[zus] at hb';cases hb'
  ·rw[zuo _ _ e] at hb'
   exact⟨e,hb',fun e2=>e (hS.ij j k b hb' (e2▸hβ))⟩
 have hmi:∀ j km n l cur,(s.rows j).c = .mi km n l cur→km≠k:=fun j km n l cur hj e=>by
  subst e
  have hr:=hS.rw j
  rw[hj] at hr
  simp only[zrl] at hr
  obtain⟨_,_,h2,_⟩:=hr
  have:=hS.lk j km n l cur hj (by omega)
  rw[hc] at this;cases this
 refine⟨b0,cells,ty,rfl,hβ,hheap,(relV_plain rs _).1 hcells,hone,hbor,(hS.bl k b0 hβ).2.1,fun j hj=>(hβ2 j b0 hj).2.2 rfl,?_⟩
 exact {
  base:=⟨hS.base.os,hS.base.tape,hS.base.output,hS.base.size,hS.base.block⟩
  r0:=hS.r0
  rn:=hS.rn
  rb:=hS.rb
  tm:=fun t=>by rw[hver];exact park_rel hv hβ _ _ (hS.tm t)
  sz:=hS.sz
  ex:={
   px:=hS.ex.px
   n0:=hS.ex.n0
   ψ0:=hS.ex.ψ0
   ψl:=hS.ex.ψl
   θl:=hS.ex.θl
   ψb:=fun j b _=>hψ b
   ψr:=hS.ex.ψr
   ψo:=hS.ex.ψo
   θo:=hS.ex.θo
   bo:=hS.ex.bo
   ψn:=hS.ex.ψn
   hd:=fun b hb=>by
    obtain⟨g1,g2,g3,g4,g5,g6,g7,g8⟩:=hS.ex.hd b hb
    exact⟨g1,g2,g3,g4,g5,g6,g7,fun j hj=>g8 j (hβ2 j b hj).2.1⟩
   rm:=hS.ex.rm
   df:=by
    obtain⟨Ds,g1,g2,g3⟩:=hS.ex.df
    refine⟨Ds,g1,g2,fun D hD=>?_⟩
    obtain⟨k1,k2,k3,k4,k5⟩:=g3 D hD
    exact⟨k1,k2,k3,fun j hj=>k4 j (hβ2 j D hj).2.1,k5⟩ }
  rw:=fun j=>by
   rw[hver]
   show zrl w _ s.ver j (if j=k then (⟨0,.dead⟩:Row) else ⟨(s.rows j).ver,(s.rows j).c.park k ⟨b0,0,none⟩⟩).c
   split
   ·rename_i e
    subst e
    simp only[zrl];exact⟨zus _ _ _,zus _ _ _⟩
   ·rename_i e
    exact parkRow_rel hv hβ e _ (fun km n l cur hj=>hmi j km n l cur hj) (hS.rw j)
  bl:=fun j b hb=>by
   obtain⟨e1,e2,e3⟩:=hβ2 j b hb
   exact hS.bl j b e2
  ij:=fun i j b hi hj=>hS.ij i j b (hβ2 i b hi).2.1 (hβ2 j b hj).2.1
  cap:=fun j=>by
   show upd p.γ k 1 j≤maxLen
   unfold upd;split
   ·simp [maxLen]
   ·exact hS.cap j
  pn:=fun j x hx=>by
   have hx':(if j=k then none else C.pin j)=some x:=hx
   split at hx'
   ·cases hx'
   ·rename_i e
    obtain⟨g1,g2,g3,g4⟩:=hS.pn j x hx'
    rw[hver]
    exact⟨(zuo _ _ e).trans g1,(zuo _ _ e).trans g2,g3,g4⟩
  lk:=fun j km n l cur hj hn=>by
   rw[hver] at hn
   have hj':(if j=k then (⟨0,.dead⟩:Row) else ⟨(s.rows j).ver,(s.rows j).c.park k ⟨b0,0,none⟩⟩).c = .mi km n l cur:=hj
   split at hj'
   ·cases hj'
   ·have hj2:(s.rows j).c = .mi km n l cur:=by
     generalize (s.rows j).c=c at hj'
     cases c<;>simp only[RowC.park] at hj'<;>first|exact hj'|cases hj'
    have hl:=hS.lk j km n l cur hj2 hn
    show (if km=k then (⟨0,.dead⟩:Row) else ⟨(s.rows km).ver,(s.rows km).c.park k ⟨b0,0,none⟩⟩).c.isMpi=true
    rw[if_neg (hmi j km n l cur hj2)]
    generalize (s.rows km).c=c at hl
    cases c<;>first|exact hl|cases hl }
theorem SR.take {C:Ctx}{k t0 b0 g0:Nat}{p':Plan}{s':AS}{a:Act}{w':World}{R':Nat→Prop}{rs':List RV}{cells:Array Value}{ty:TypeId}(hS':SR { C with pin:=fun j=>if j=k then none else C.pin j } p' s' a w') (hX:C.X=XS.none) (hk:1000≤k)
 (hpin:C.pin k=some (some b0,g0)) (hg:g0≤maxLen) (hbor:C.bor b0) (hb0:b0<C.w0.heap.size) (hR0:¬ C.R0 b0) (hown:∀ b,¬ C.own b) (hrk:s'.rows k=⟨0,.dead⟩) (ht:s'.tm t0 = .r (.vl ⟨b0,0,none⟩))
 (r1:∀ b,R' b→C.R0 b∨C.w0.heap.size≤b) (r2:∀ b,R' b→b<w'.heap.size) (r3:∀ j b,p'.β j=some b→¬ R' b) (r4:∀ j,p'.β j≠some b0) (r6:¬ R' b0) (rD:∀ D,({ target:=.collected D,args:=#[] }:Deferred)∈a.defers→¬ R' D)
 (c1:w'.heap[b0]? = some (.cells cells ty (0,0))) (c2:RV.relV w' R' rs' cells.toList) (c3:∀ u∈cells.toList,u.oneCell'=true) :
 SR C { p' with R:=fun b=>p'.R b∨R' b,β:=upd p'.β k (some b0),γ:=upd p'.γ k g0 } ⟨s'.n,upd s'.tm t0 (.pu k 0 ⟨b0,0,none⟩),upd s'.rows k ⟨0,.box (rs'.map .r)⟩⟩ a w':=by
 have hn:∀ o w Ψ Θ,¬ C.X.X o w Ψ Θ:=fun o w Ψ Θ h=>by rw[hX] at h;exact h
 have hψ':=hS'.ex.ψn hn
 have hvk:s'.ver k=0:=by show (s'.rows k).ver=0;rw[hrk]
 have hrk':=hS'.rw k
 rw[hrk] at hrk'
 simp only[zrl] at hrk'
 obtain⟨hβk,hγk⟩:=hrk'
 have hRb:¬ p'.R b0:=fun h=>by
  rcases hS'.rn b0 h with g|g|g
  ·exact hR0 g
  ·have g':C.w0.heap.size≤b0:=g;omega
  ·exact hown _ g
 have hver':AS.ver ⟨s'.n,upd s'.tm t0 (.pu k 0 ⟨b0,0,none⟩),upd s'.rows k ⟨0,.box (rs'.map .r)⟩⟩=s'.ver:=by
  funext j
  show (upd s'.rows k _ j).ver=(s'.rows j).ver
  unfold upd;split
  ·rename_i e;subst e;exact hvk.symm
  ·rfl
 have hβ3:∀ j b,upd p'.β k (some b0) j=some b→(j=k∧b=b0)∨(j≠k∧p'.β j=some b):=fun j b hb=>by
  by_cases e:j=k
  ·subst e;rw[zus] at hb;injection hb with hb;exact .inl ⟨rfl,hb.symm⟩
  ·rw[zuo _ _ e] at hb;exact .inr ⟨e,hb⟩
 have hmi':∀ j km n l cur,(s'.rows j).c = .mi km n l cur→km≠k:=fun j km n l cur hj e=>by
  subst e
  have hr:=hS'.rw j
  rw[hj] at hr
  simp only[zrl] at hr
  obtain⟨_,_,h2,_⟩:=hr
  have:=hS'.lk j km n l cur hj (by omega)
  rw[hrk] at this;cases this
 have hk1:Kept w' w' p' { p' with R:=fun b=>p'.R b∨R' b } s'.ver s'.ver:=⟨fun _ h=>.inl h,fun _ _=>rfl,fun _=>Nat.le_refl _,fun _ _=>⟨rfl,rfl⟩⟩
 exact {
  base:=⟨hS'.base.os,hS'.base.tape,hS'.base.output,hS'.base.size,hS'.base.block⟩
  r0:=fun b hb=>.inl (hS'.r0 b hb)
  rn:=fun b hb=>by
   rcases hb with hb|hb
   ·exact hS'.rn b hb
   ·exact (r1 b hb).imp id .inl
  rb:=fun b hb=>hb.elim (hS'.rb b) (r2 b)
  tm:=fun t=>by
   rw[hver']
   show AV.rel w' _ s'.ver (upd s'.tm t0 (.pu k 0 ⟨b0,0,none⟩) t) _
   by_cases e:t=t0
   ·subst e
    rw[zus]
    have hx:=hS'.tm t
    rw[ht] at hx
    simp only[AV.rel,RV.rel] at hx ⊢
    exact⟨hx,by omega,fun _=>⟨b0,zus _ _ _,hx⟩⟩
   ·rw[zuo _ _ e]
    exact unpark_rel (p:={ p' with R:=fun b=>p'.R b∨R' b }) hvk hβk hγk _ _ (AV.rel_mono hk1 _ _ (hS'.tm t))
  sz:=hS'.sz
  ex:={
   px:=hS'.ex.px
   n0:=hS'.ex.n0
   ψ0:=hS'.ex.ψ0
   ψl:=hS'.ex.ψl
   θl:=hS'.ex.θl
   ψb:=fun j b _=>hψ' b
   ψr:=fun b _=>(hψ' b).2
   ψo:=hS'.ex.ψo
   θo:=fun b hb=>((hψ' b).2 hb).elim
   bo:=hS'.ex.bo
   ψn:=hS'.ex.ψn
   hd:=fun b hb=>by
    obtain⟨g1,g2,g3,g4,g5,g6,g7,g8⟩:=hS'.ex.hd b hb
    refine⟨g1,g2,g3,g4,fun h=>h.elim g5 (fun h=>?_),g6,g7,fun j hj=>?_⟩
    ·rcases r1 b h with q|q
     ·exact g5 (hS'.r0 b q)
     ·have g1':b<C.w0.heap.size:=g1;omega
    ·rcases hβ3 j b hj with⟨_,e⟩|⟨_,e⟩
     ·exact g2 (e▸hbor)
     ·exact g8 j e
   rm:=hS'.ex.rm
   df:=by
    obtain⟨Ds,g1,g2,g3⟩:=hS'.ex.df
    refine⟨Ds,g1,g2,fun D hD=>?_⟩
    obtain⟨k1,k2,k3,k4,k5⟩:=g3 D hD
    refine⟨k1,k2,fun h=>h.elim k3 (rD D (by rw[g1];exact List.mem_map.2 ⟨D,hD,rfl⟩)),fun j hj=>?_,k5⟩
    rcases hβ3 j D hj with⟨_,e⟩|⟨_,e⟩
    ·have k2':C.w0.heap.size≤D:=k2;omega
    ·exact k4 j e }
  rw:=fun j=>by
   rw[hver']
   show zrl w' _ s'.ver j (upd s'.rows k ⟨0,.box (rs'.map .r)⟩ j).c
   by_cases e:j=k
   ·subst e
    rw[zus]
    simp only[zrl];exact⟨b0,cells,ty,zus _ _ _,c1,(relV_plain rs' _).2 (RV.relV_mono (fun _ h=>.inr h) (fun _ _=>rfl) _ _ c2),c3⟩
   ·rw[zuo _ _ e]
    exact unparkRow_rel (p:={ p' with R:=fun b=>p'.R b∨R' b }) hvk hβk hγk e _ (fun km n l cur hj=>hmi' j km n l cur hj)
     (rowRel_mono hk1 (.inr ⟨rfl,rfl,rfl,rfl,rfl,rfl,Nat.le_refl _,fun _ _=>rfl⟩) rfl rfl (fun _ _=>rfl) _ (fun _ _ _ _ _ _ _ _=>rfl) (hS'.rw j))
  bl:=fun j b hb=>by
   rcases hβ3 j b hb with⟨rfl,rfl⟩|⟨e,hb'⟩
   ·exact⟨(Array.getElem?_eq_some_iff.1 c1).1,fun h=>h.elim hRb r6,.inr (.inl ⟨hk,hbor⟩)⟩
   ·obtain⟨g1,g2,g3⟩:=hS'.bl j b hb'
    exact⟨g1,fun h=>h.elim g2 (r3 j b hb'),g3⟩
  ij:=fun i j b hi hj=>by
   rcases hβ3 i b hi with⟨rfl,rfl⟩|⟨ei,hi'⟩
   ·rcases hβ3 j b hj with⟨rfl,_⟩|⟨_,hj'⟩
    ·rfl
    ·exact (r4 j hj').elim
   ·rcases hβ3 j b hj with⟨rfl,rfl⟩|⟨_,hj'⟩
    ·exact (r4 i hi').elim
    ·exact hS'.ij i j b hi' hj'
  cap:=fun j=>by
   show upd p'.γ k g0 j≤maxLen
   unfold upd;split
   ·exact hg
   ·exact hS'.cap j
  pn:=fun j x hx=>by
   rw[hver']
   by_cases e:j=k
   ·subst e
    rw[hpin] at hx
    injection hx with hx
    subst hx
    exact⟨zus _ _ _,zus _ _ _,hvk,hk⟩
   ·obtain⟨g1,g2,g3,g4⟩:=hS'.pn j x (by show (if j=k then none else C.pin j)=some x;rw[if_neg e];exact hx)
    exact⟨(zuo _ _ e).trans g1,(zuo _ _ e).trans g2,g3,g4⟩
  lk:=fun j km n l cur hj hn'=>by
   rw[hver'] at hn'
   have hj':(upd s'.rows k ⟨0,.box (rs'.map .r)⟩ j).c = .mi km n l cur:=hj
   by_cases e:j=k
   ·subst e;rw[zus] at hj';cases hj'
   ·rw[zuo _ _ e] at hj'
    have hl:=hS'.lk j km n l cur hj' hn'
    show (upd s'.rows k ⟨0,.box (rs'.map .r)⟩ km).c.isMpi=true
    rw[zuo _ _ (hmi' j km n l cur hj')]
    exact hl }
theorem awp_rangeJ {g:Operand}{ps:Array Tmp}{assign body:Code}{Q:Exit→AS→Prop}(hC:(C.rd=none∧C.X=XS.none)∧∀ b,¬ C.own b) (k t0:Nat) (u:Addr) (rs rs':List RV) (ht0:s.tm t0 = .pu k 0 u) (hk:1000≤k) (hv:s.ver k=0) (hc:(s.rows k).c = .box (rs.map .r))
 (hcb:∃ x,C.pin k=some x∧∀ b,x.1=some b→C.bor b) {F:FuncId}{args:List RV}{xs:List (List RV)}
 (hF:callee? (AS.ev ⟨s.n,fun t=>(s.tm t).park k u,fun j=>if j=k then ⟨0,.dead⟩ else ⟨(s.rows j).ver,(s.rows j).c.park k u⟩⟩ g)=some (F,args.map .r)) (hI:JCalls P F u rs rs' args xs)
 (hdead:(s.rows 0).c = .dead) (ts:List Nat) (hps:∀ t∈ps.toList,t<s.n) (I:List (List RV)→List Value→AS→Prop)
 (h0:∀ us,I xs us { n:=s.n,tm:=look [],rows:=upd (fun j=>if j=k then ⟨0,.dead⟩ else ⟨(s.rows j).ver,(s.rows j).c.park k u⟩) 0 ⟨(s.rows 0).ver,.sus (ts.map fun t=>(s.tm t).park k u) us⟩ })
 (round:∀ e rest us s',s'.n=s.n→I (e::rest) us s'→e.length=ps.size∧∃ avs,(s'.rows 0).c = .sus avs us∧∀ C,awp P C assign (fun x s2=>x = .normal∧∀ C,awp P C body (rpost s.n I (fun _ _ _=>False) rest us) s2) ⟨s.n,psA ps.toList e (look (ts.zip avs)),s'.rows⟩)
 (done:∀ us s',s'.n=s.n→I [] us s'→∃ avs,(s'.rows 0).c = .sus avs us∧look (ts.zip avs) t0 = .r (.vl u)∧s'.rows k=⟨0,.dead⟩∧Q .normal ⟨s.n,upd (look (ts.zip avs)) t0 (.pu k 0 u),upd s'.rows k ⟨0,.box (rs'.map .r)⟩⟩):awp P C (.rangeFunc g ps assign body) Q s:=by
 rintro a w ⟨p,hS⟩
 have hF0:fnc C.rd=Fence.wide:=by rw[hC.1.1];rfl
 rw[hF0]
 obtain⟨b0,cells,ty,hu,hβ,hheap,hcells,hone,hbor,hbR,hbβ,hS2⟩:=hS.give ht0 hC.1.2 hC.2 hv hc hcb
 have hk0:(0:Nat)≠k:=by omega
 have hb0:=hS.ex.bo b0 (.inl hbor)
 obtain⟨x,hx,_⟩:=hcb
 have hpn:=hS.pn k x hx
 have hpin:C.pin k=some (some b0,x.2):=by rw[hx,← hβ,hpn.1]
 have hg:x.2≤maxLen:=by rw[← hpn.2.1];exact hS.cap k
 refine range_lent (C0:=C) hS2 hC.1.1 hC.1.2 hF hI (by show (if (0:Nat)=k then (⟨0,.dead⟩:Row) else ⟨(s.rows 0).ver,(s.rows 0).c.park k u⟩).c = .dead;rw[if_neg hk0,hdead];rfl) ts hps hu hheap hcells hone (fun g=>g.2.1 hbor) (fun g=>(hS.ex.hd b0 g).2.1 hbor) hbR hbβ I (fun us=>by
  have:=h0 us
  have e:((if (0:Nat)=k then (⟨0,.dead⟩:Row) else ⟨(s.rows 0).ver,(s.rows 0).c.park k u⟩).ver)=(s.rows 0).ver:=by rw[if_neg hk0]
  show I xs us { n:=s.n,tm:=look [],rows:=upd _ 0 ⟨(if (0:Nat)=k then (⟨0,.dead⟩:Row) else ⟨(s.rows 0).ver,(s.rows 0).c.park k u⟩).ver,_⟩ }
  rw[e];exact this) round ?_
 intro us p' s' R' a' w' cells' t' hsn hI' hS' hta hus r1 r2 r3 r4 r6 rD c1 c2 c3
 obtain⟨avs,hrow,hvl,hdk,hQ⟩:=done us s' hsn hI'
 have haw:=hS'.awake (avs:=avs) (ts:=ts) (by rw[hrow,hus])
 subst hu
 have hT:=SR.take (t0:=t0) haw hC.1.2 hk hpin hg hbor hb0 (fun h=>hbR (hS.r0 b0 h)) hC.2 hdk hvl (fun b hb=>by
  rcases r1 b hb with g|g
  ·rcases hS.rn b g with q|q|q
   ·exact .inl q
   ·exact .inr q
   ·exact (hC.2 _ q).elim
  ·exact .inr g) r2 r3 r4 r6 rD c1 c2 c3
 refine⟨_,⟨_,hT⟩,?_⟩
 show Q .normal ⟨s'.n,_,_⟩
 rw[hsn]
 exact hQ
end
theorem sub_vl {n:Nat}{l:List (Nat × AV)}{vs:Nat→Nat}{cs:List (Nat × RowC)}(t:Nat) {k:Nat}{u:Addr}{us:List Value}(ht:look l t = .r (.vl u)) (hc:lookc cs 998 = .sus [.pu k 0 u] us):Sub (st n l vs cs) (st n ((t,.pu k 0 u)::l) vs cs):=fun C a w ⟨p,hp⟩=>by
 have hr:=hp.rw 998
 have hc':((st n l vs cs).rows 998).c = .sus [.pu k 0 u] us:=hc
 rw[hc'] at hr
 simp only[zrl,AV.relV,AV.rel] at hr
 obtain⟨_,_,v,us',_,⟨hv1,hv2,hv3⟩,_⟩:=hr
 refine⟨p,{ hp with tm:=fun j=>?_ }⟩
 show AV.rel w _ _ (look ((t,.pu k 0 u)::l) j) _
 rw[look_cons]
 split
 ·rename_i e
  subst e
  have hx:=hp.tm j
  have e2:(st n l vs cs).tm j = .r (.vl u):=ht
  rw[e2] at hx
  simp only[AV.rel,RV.rel] at hx ⊢
  exact⟨hx,hv2,fun h0=>by obtain⟨b,hb,hbv⟩:=hv3 h0;exact⟨b,hb,by rw[hx,← hv1];exact hbv⟩⟩
 ·exact hp.tm j
theorem awp_rangeM {P:Program}{C:Ctx}{n:Nat}{Q:Exit→AS→Prop}{t:Nat}{ps:Array Tmp}{assign body:Code}(hC:(C.rd=none∧C.X=XS.none)∧∀ b,¬ C.own b) (k t0:Nat) (u:Addr) (hk:1000≤k) (hcb:∃ x,C.pin k=some x∧∀ b,x.1=some b→C.bor b) (rs rs':List RV)
 {f:FuncId}{args:List RV}(xs:List (List RV)) (hI:JCalls P f u rs rs' args xs) (ts:List Nat) (hnd:ts.Nodup) (F0 F:(Nat→Nat)→List (Nat × AV)) (R:Nat→(Nat→Nat)→List (Nat × RowC)) (I:Nat→Prop) (vs0:Nat→Nat) (hl0:Lent vs0) (hi0:I 0)
 (ht00:look (F0 vs0) t0 = .pu k 0 u) (hF:(F0 vs0).map (fun x=>(x.1,x.2.park k u))=F vs0) (hR:(R 0 vs0).map (fun x=>(x.1,x.2.park k u))=R 0 vs0) (hdk:∀ i vs,lookc (R i vs) k = .dead)
 (hts:∀ vs,(F vs).map (·.1)=ts) (ht0:∀ vs,look (F vs) t0 = .r (.vl u)) (hg:callee? (look (F vs0) t)=some (f,args.map .r)) (hd:∀ i vs,lookc (R i vs) 0 = .dead) (hps:∀ t∈ps.toList,t<n) (hlen:∀ e∈xs,e.length=ps.size)
 (round:∀ i e vs us C,xs[i]? = some e→I i→Lent vs→awp P C assign (fun x s2=>x = .normal∧∀ C,awp P C body (fun x s3=>x = .normal∧I (i+1)∧∃ vs',Lent vs'∧Sub s3 (st n [] vs' ((0,.sus ((F vs').map (·.2)) us)::R (i+1) vs'))) s2)
  (st n (psL ps.toList e (F vs)) vs ((0,.sus ((F vs).map (·.2)) us)::R i vs)))
 (done:∀ vs us,Lent vs→I xs.length→Q .normal (st n ((t0,.pu k 0 u)::F vs) vs (insc ((0,.sus ((F vs).map (·.2)) us)::R xs.length vs) k (.box (rs'.map .r))))) :
 awp P C (.rangeFunc (.tmp t) ps assign body) Q (st n (F0 vs0) vs0 (insc (R 0 vs0) k (.box (rs.map .r)))):=by
 have hk0:k≠0:=by omega
 have hdrop:∀ i e rest,xs.drop i=e::rest→xs[i]? = some e∧xs.drop (i+1)=rest:=fun i e rest h=>by
  refine⟨?_,by rw[← List.drop_drop,h];rfl⟩
  have:(xs.drop i)[0]? = some e:=by rw[h];rfl
  simpa using this
 have hz:∀ vs,ts.zip ((F vs).map (·.2))=F vs:=fun vs=>by rw[← hts vs];exact zip_keys _
 have htm:(fun j=>((st n (F0 vs0) vs0 (insc (R 0 vs0) k (.box (rs.map .r)))).tm j).park k u)=look (F vs0):=by
  funext j
  rw[← hF]
  exact (look_park k u (F0 vs0) j).symm
 have hrw:(fun j=>if j=k then (⟨0,.dead⟩:Row) else ⟨((st n (F0 vs0) vs0 (insc (R 0 vs0) k (.box (rs.map .r)))).rows j).ver,((st n (F0 vs0) vs0 (insc (R 0 vs0) k (.box (rs.map .r)))).rows j).c.park k u⟩)=(st n [] vs0 (R 0 vs0)).rows:=by
  funext j
  show (if j=k then (⟨0,.dead⟩:Row) else ⟨vs0 j,(lookc (insc (R 0 vs0) k (.box (rs.map .r))) j).park k u⟩)=⟨vs0 j,lookc (R 0 vs0) j⟩
  split
  ·rename_i e
   subst e
   rw[hdk,hl0 j hk]
  ·rename_i e
   rw[lookc_insc,if_neg e]
   have:=lookc_park k u (R 0 vs0) j
   rw[hR] at this
   rw[← this]
 refine awp_rangeJ hC k t0 u rs rs' ht00 hk (hl0 k hk) (by show lookc (insc (R 0 vs0) k _) k=_;rw[lookc_insc,if_pos rfl]) hcb (F:=f) (args:=args) (xs:=xs) (by rw[htm];exact hg) hI
  (by show lookc (insc (R 0 vs0) k _) 0=_;rw[lookc_insc,if_neg (Ne.symm hk0)];exact hd 0 vs0) ts hps
  (fun left us s'=>∃ i vs,left=xs.drop i∧i≤xs.length∧I i∧Lent vs∧s'=st n [] vs ((0,.sus ((F vs).map (·.2)) us)::R i vs))
  (fun us=>⟨0,vs0,rfl,Nat.zero_le _,hi0,hl0,?_⟩) ?_ ?_
 ·rw[hrw]
  refine (upd_rows_st (c:=.sus (ts.map fun j=>((st n (F0 vs0) vs0 (insc (R 0 vs0) k (.box (rs.map .r)))).tm j).park k u) us)).trans ?_
  congr 3
  have hkk:(F vs0).map (·.2)=ts.map (look (F vs0)):=by
   have:=look_keys (F vs0) (by rw[hts vs0];exact hnd)
   rw[hts vs0] at this
   exact this
  rw[hkk,← htm]
 ·rintro e rest us s' _ ⟨i,vs,hl,hle,hI',hvl,rfl⟩
  obtain⟨h1,h2⟩:=hdrop i e rest hl.symm
  refine⟨hlen e (List.mem_of_getElem? h1),(F vs).map (·.2),rfl,fun C'=>?_⟩
  have hr:=round i e vs us C' h1 hI' hvl
  show awp P C' assign _ ⟨n,psA ps.toList e (look (ts.zip ((F vs).map (·.2)))),_⟩
  rw[hz,psA_look]
  refine awp_mono ?_ hr
  rintro x s2 ⟨hx,hbody⟩
  refine⟨hx,fun C''=>awp_mono ?_ (hbody C'')⟩
  rintro x s3 ⟨rfl,hI3,vs',hvl',hsub⟩
  refine⟨_,hsub,i+1,vs',h2.symm,?_,hI3,hvl',rfl⟩
  have:=(List.getElem?_eq_some_iff.1 h1).1
  omega
 ·rintro us s' _ ⟨i,vs,hl,hle,hI',hvl,rfl⟩
  have hi:i=xs.length:=by
   have:(xs.drop i).length=0:=by rw[← hl];rfl
   rw[List.length_drop] at this;omega
  subst hi
  refine⟨(F vs).map (·.2),rfl,?_,?_,?_⟩
  ·rw[hz];exact ht0 vs
  ·show (⟨vs k,lookc ((0,.sus ((F vs).map (·.2)) us)::R xs.length vs) k⟩:Row)=_
   rw[zlc,if_neg (by omega),hdk,hvl k hk]
  ·rw[hz]
   have hq:=done vs us hvl hI'
   have e:=st_unpark (n:=n) (l:=F vs) (vs:=vs) (cs:=(0,.sus ((F vs).map (·.2)) us)::R xs.length vs) k t0 (.pu k 0 u) (.box (rs'.map .r)) (hvl k hk)
   rw[← e] at hq
   exact hq
theorem sub_vlo {n:Nat}{l:List (Nat × AV)}{vs:Nat→Nat}{cs:List (Nat × RowC)}(t t0:Nat) {k off:Nat}{u:Addr}(ht0:look l t0 = .pu k 0 u) (ht:look l t = .r (.vl ⟨u.block,off,none⟩)) (hv:vs k=0):Sub (st n l vs cs) (st n ((t,.pt k 0 off)::l) vs cs):=fun C a w ⟨p,hp⟩=>by
 have h0:=hp.tm t0
 have e0:(st n l vs cs).tm t0 = .pu k 0 u:=ht0
 rw[e0] at h0
 simp only[AV.rel] at h0
 obtain⟨hv1,hv2,hv3⟩:=h0
 refine⟨p,{ hp with tm:=fun j=>?_ }⟩
 show AV.rel w _ _ (look ((t,.pt k 0 off)::l) j) _
 rw[look_cons]
 split
 ·rename_i e
  subst e
  have hx:=hp.tm j
  have e2:(st n l vs cs).tm j = .r (.vl ⟨u.block,off,none⟩):=ht
  rw[e2] at hx
  simp only[AV.rel,RV.rel] at hx ⊢
  refine⟨hv2,fun h=>?_⟩
  obtain⟨b,hb,hbv⟩:=hv3 h
  have hu:=hv1.symm.trans hbv
  injection hu with hu
  injection hu with hu
  refine⟨b,hb,?_⟩
  rw[hx,hu]
 ·exact hp.tm j
end Go.Oc

namespace Go.Proofs.YtgfbenanljjgaaaGreat.Du.Th.Ai
open Go Go.Oc
set_option maxRecDepth 8000
set_option maxHeartbeats 2000000
theorem ty200:tyq Tryz.prog 200=some ⟨.arr 61 1 false,61,true,List.replicate 61 (.it .i64 0)⟩:=by kernel_rfl
theorem ty201:tyq Tryz.prog 201=some ⟨.arr 4 61 true,244,true,List.replicate 244 (.it .i64 0)⟩:=by kernel_rfl
theorem ty203:tyq Tryz.prog 203=some ⟨.struct [(0,1,false),(1,1,false),(2,244,true)],246,true,.np :: .it .i64 0::List.replicate 244 (.it .i64 0)⟩:=by kernel_rfl
abbrev tA (l:List Int):List AV:=l.map fun x=>AV.r (i64 x)
abbrev tabC (r:Rk) (s:Bool) (nums:List Int):List RV:=[i64 r.d,aimsR r.aims,i64 r.start,i64 r.out,.bo s,ints nums]
abbrev visR (r:Rk) (s:Bool) (nums:List Int) (st:Nat) (K:List Int):List RV:=.rp (tabC r s nums)::i64 (st:Int)::K.map fun x=>i64 x
abbrev visA (r:Rk) (s:Bool) (nums:List Int) (st:Nat) (K:List Int):List AV:=.r (.rp (tabC r s nums)) :: .r (i64 (st:Int))::tA K
theorem frzPL_tA (ks:List (Nat × RowC)) (rows:Nat→Row):∀ l:List Int,frzPL ks rows (tA l)
 | []=>trivial
 | x::l=>⟨trivial,frzPL_tA ks rows l⟩
theorem frzL_tA (ks:List (Nat × RowC)) (rows:Nat→Row):∀ l:List Int,frzL ks rows (tA l)=tA l
 | []=>rfl
 | x::l=>by simp only[List.map_cons,frzL,frz1,frzL_tA ks rows l]
theorem lend_tA (ks:List (Nat × Nat)) (vs:Nat→Nat):∀ l:List Int,lendL ks vs (tA l)=some (tA l)
 | []=>rfl
 | x::l=>by simp only[List.map_cons,lendL,lendA,lend_tA ks vs l]
theorem back_tA (ks:List (Nat × Nat)) (vs:Nat→Nat):∀ l:List Int,backL ks vs (tA l)=tA l
 | []=>rfl
 | x::l=>by simp only[List.map_cons,backL,backA,back_tA ks vs l]
structure VsOk (r:Rk) (s:Bool) (nums:List Int) (st:Nat):Prop where
 ok:ROk r
 len:nums.length=(r.start+1).toNat
 nums:∀ x∈nums,VOk x
 lo:lowG r.out≤st
 hi:(st:Int)≤r.start
abbrev ownV (nums:List Int) (st:Nat):Int:=nums.getD st 0
theorem VsOk.own {r:Rk}{s:Bool}{nums:List Int}{st:Nat}(h:VsOk r s nums st):VOk (ownV nums st):=getD_vok h.nums _
theorem VsOk.opt {r:Rk}{s:Bool}{nums:List Int}{st:Nat}(h:VsOk r s nums st) {x:Int}(h0:0≤x) (h1:x≤r.start):nums[x.toNat]? = some (nums.getD x.toNat 0):=by
 have:=h.ok.start
 obtain⟨v,hv⟩:=zol (l:=nums) (i:=x.toNat) (by rw[h.len];omega)
 rw[hv,List.getD_eq_getElem?_getD,hv];rfl
def ValC (r:Rk) (s:Bool) (nums:List Int) (st:Nat) (k:Nat):Prop :=
 ∀ (left:Nat) (K:List Int), lowG r.out≤left→left≤st→OkK r s nums (ownV nums st) K →
   MCalls Tryz.prog 160 [(1000,.box (visA r s nums st K))] [(1000,.box (visA r s nums st (valM r s nums (ownV nums st) k left K).2))] [.pt 1000 0 0,.r (i64 (left:Int)),.r (i64 (k:Int))] (.r (i64 (valM r s nums (ownV nums st) k left K).1))
theorem next_ok {r:Rk}{s:Bool}{nums:List Int}{st:Nat}(h:VsOk r s nums st) {k:Nat}(hk:k≤2) (hV:ValC r s nums st k) (left:Nat) (K:List Int) (b:Int) (hlo:lowG r.out≤left) (hle:left≤st) (hb:0≤b∧b≤499) (hK:OkK r s nums (ownV nums st) K) :
 MCalls Tryz.prog 153 [(1000,.box (visA r s nums st K))] [(1000,.box (visA r s nums st (nextM r.out (ownV nums st) left (valM r s nums (ownV nums st) k) b K).2))] [.pt 1000 0 0,.r (i64 (left:Int)),.r (i64 ((k:Int)+1)),.r (i64 b)] (.r (i64 (nextM r.out (ownV nums st) left (valM r s nums (ownV nums st) k) b K).1)):=by
 have hs:=score_nn hb
 have hlg:=lowG_le r.out
 have hst:=h.ok.start
 have hst2:=h.hi
 have hown:=h.opt (x:=st) (by omega) h.hi
 have hnl:st<nums.length:=by rw[h.len];omega
 simp only[Int.toNat_natCast] at hown
 have w1:IntKind.i64.wrap ((left:Int)-scoreOf b)=(left:Int)-scoreOf b:=by rw[zI]<;>omega
 refine mcalls_st (n:=59) (rs:=[.r (i64 (nextM r.out (ownV nums st) left (valM r s nums (ownV nums st) k) b K).1)]) _ _ [.tmp 8] Tryz.func153 rfl (by kernel_rfl) Tryz.ntmps153 rfl (by simp) rfl rfl fun C=>?_
 apply zq
 refine zb fun K hK=>?_;simp only[go_sem];apply hK;clear hK K;apply zw (zk [0,1,2,3]);simp only[go_sem]
 apply zq
 refine zb fun K hK=>?_;simp only[go_sem,w1]
 refine zh (ascore_ok b hb) rfl (by simp only[go_sem,i64,ints]) (by simp only[go_sem,i64,ints]) ?_
 (try simp only[go_sem]);(try simp (disch:=omega) only[zI]);apply hK;clear hK K;apply zw (zk [0,2,3,9]);simp only[go_sem]
 apply zq
 apply zd
 unfold nextM
 have hop:=aopens_ok b r.out hb
 by_cases h0:(left:Int)-scoreOf b=0
 ·have e0:((left:Int)-scoreOf b == 0)=true:=by simpa using h0
  rw[decide_eq_true h0]
  apply zq
  refine zb fun K hK=>?_;simp only[go_sem,e0,ty203]
  refine zh (hop) rfl (by simp only[go_sem,i64,ints]) (by simp only[go_sem,i64,ints]) ?_
  (try simp only[go_sem]);apply hK;clear hK K;apply zw (zk [0,2,9,14]);simp only[go_sem]
  cases hO:opA r.out b
  ·simp only[Bool.and_false,Bool.false_eq_true,if_false]
   apply zc rfl<;>intro hc<;>(try simp only[go_sem] at hc)
   apply zq
   refine zb fun K hK=>?_;simp only[go_sem,ty203]
   refine zh (alow_ok r.out) rfl (by simp only[go_sem,i64,ints]) (by simp only[go_sem,i64,ints]) ?_
   (try simp only[go_sem]);apply hK;clear hK K;apply zw (zk [0,2,9,29]);simp only[go_sem]
   by_cases hl:(left:Int)-scoreOf b<lowG r.out
   ·have el:decide ((left:Int)-scoreOf b<lowG r.out)=true:=by simpa using hl
    rw[if_pos hl]
    rw[el]
    apply zc rfl<;>intro hc<;>(try simp only[go_sem] at hc)
    apply zq
    refine awp_dreg2 [(0,some 1000)] follows (by decide +kernel) (by kernel_rfl) (by simp only[keysOk,List.mem_cons,List.not_mem_nil,forall_eq_or_imp,Oc.keyOf,go_sem];simp) fun K hK=>?_
    simp only[go_sem,ty203,hown,hnl];apply hK;clear hK K;apply zw (zk [8]);simp only[go_sem];apply ze;simp only[go_sem];exact⟨frzPL_tA _ _ _,by rw[frzL_tA]⟩
   ·have el:decide ((left:Int)-scoreOf b<lowG r.out)=false:=by simpa using hl
    rw[if_neg hl]
    rw[el]
    apply zc rfl<;>intro hc<;>(try simp only[go_sem] at hc)
    apply zx
    try simp only[go_sem]
    obtain⟨m,hm⟩:∃ m:Nat,(left:Int)-scoreOf b=m:=⟨((left:Int)-scoreOf b).toNat,by omega⟩
    rw[hm]
    have hcall:=hV m K (by omega) (by omega) hK
    have wk:IntKind.i64.wrap ((k:Int)+1-1)=k:=by rw[zI]<;>omega
    apply zq
    refine zb fun K hK=>?_;simp only[go_sem,wk]
    refine xcall_mut (hcall) [(1000,1000)] rfl (by simp only[go_sem,i64,ints,lend_tA,back_tA]) (by simp only[go_sem,i64,ints,lend_tA,back_tA]) (by rfl) (by rfl) ?_
    (try simp only[go_sem,lend_tA,back_tA]);apply hK;clear hK K;apply zw (zk [8]);simp only[go_sem];apply ze;simp only[go_sem];exact⟨frzPL_tA _ _ _,by rw[frzL_tA]⟩
  ·simp only[Bool.and_true,if_true]
   apply zc rfl<;>intro hc<;>(try simp only[go_sem] at hc)
   apply zq
   refine zb fun K hK=>?_;simp only[go_sem];apply hK;clear hK K;apply zw (zk [8]);simp only[go_sem];apply ze;simp only[go_sem];exact⟨frzPL_tA _ _ _,by rw[frzL_tA]⟩
 ·have e0:((left:Int)-scoreOf b == 0)=false:=by simpa using h0
  rw[decide_eq_false h0]
  simp only[Bool.false_and,Bool.false_eq_true,if_false]
  apply zq
  refine zb fun K hK=>?_;simp only[go_sem,e0,ty203];apply hK;clear hK K;apply zw (zk [0,2,9,14]);simp only[go_sem]
  apply zc rfl<;>intro hc<;>(try simp only[go_sem] at hc)
  apply zq
  refine zb fun K hK=>?_;simp only[go_sem,ty203]
  refine zh (alow_ok r.out) rfl (by simp only[go_sem,i64,ints]) (by simp only[go_sem,i64,ints]) ?_
  (try simp only[go_sem]);apply hK;clear hK K;apply zw (zk [0,2,9,29]);simp only[go_sem]
  by_cases hl:(left:Int)-scoreOf b<lowG r.out
  ·have el:decide ((left:Int)-scoreOf b<lowG r.out)=true:=by simpa using hl
   rw[if_pos hl]
   rw[el]
   apply zc rfl<;>intro hc<;>(try simp only[go_sem] at hc)
   apply zq
   refine awp_dreg2 [(0,some 1000)] follows (by decide +kernel) (by kernel_rfl) (by simp only[keysOk,List.mem_cons,List.not_mem_nil,forall_eq_or_imp,Oc.keyOf,go_sem];simp) fun K hK=>?_
   simp only[go_sem,ty203,hown,hnl];apply hK;clear hK K;apply zw (zk [8]);simp only[go_sem];apply ze;simp only[go_sem];exact⟨frzPL_tA _ _ _,by rw[frzL_tA]⟩
  ·have el:decide ((left:Int)-scoreOf b<lowG r.out)=false:=by simpa using hl
   rw[if_neg hl]
   rw[el]
   apply zc rfl<;>intro hc<;>(try simp only[go_sem] at hc)
   apply zx
   try simp only[go_sem]
   obtain⟨m,hm⟩:∃ m:Nat,(left:Int)-scoreOf b=m:=⟨((left:Int)-scoreOf b).toNat,by omega⟩
   rw[hm]
   have hcall:=hV m K (by omega) (by omega) hK
   have wk:IntKind.i64.wrap ((k:Int)+1-1)=k:=by rw[zI]<;>omega
   apply zq
   refine zb fun K hK=>?_;simp only[go_sem,wk]
   refine xcall_mut (hcall) [(1000,1000)] rfl (by simp only[go_sem,i64,ints,lend_tA,back_tA]) (by simp only[go_sem,i64,ints,lend_tA,back_tA]) (by rfl) (by rfl) ?_
   (try simp only[go_sem,lend_tA,back_tA]);apply hK;clear hK K;apply zw (zk [8]);simp only[go_sem];apply ze;simp only[go_sem];exact⟨frzPL_tA _ _ _,by rw[frzL_tA]⟩
theorem first_bad (p:Nat→Bool):∀ n,∃ j,j≤n∧(∀ k,k<j→p k=false)∧(j<n→p j=true)
 | 0=>⟨0,Nat.le_refl _,fun k hk=>by omega,fun h=>by omega⟩
 | n+1=>by
   obtain⟨j,h1,h2,h3⟩:=first_bad p n
   by_cases h:j<n
   ·exact⟨j,by omega,h2,fun _=>h3 h⟩
   ·have e:j=n:=by omega
    subst e
    cases hp:p j
    ·exact⟨j+1,Nat.le_refl _,fun k hk=>by
      by_cases e:k=j
      ·rw[e,hp]
      ·exact h2 k (by omega),fun h=>by omega⟩
    ·exact⟨j,by omega,h2,fun _=>hp⟩
theorem meanI_ok (s:Bool) (d:Int) (aims:List Am) (ix:Nat) (a:Am) (ha:aims[ix]? = some a) (hO:AOk d a.beds) (vals:List Int) (hv:vals.length=a.beds.length) (hV:∀ x∈vals,VOk x) :
 ∃ out,out.length=vals.length∧MCalls Tryz.prog 154 [(1000,.arr 3 1 (arrV vals))] [(1000,.arr 3 1 (arrV out))] [.r (.bo s),.r (lawV d aims),.r (i64 (ix:Int)),.os 1000 0 1 0 vals.length] (.r (i64 (meanS s d a.beds vals))):=by
 obtain⟨j,h1,h2,h3⟩:=first_bad (badA a.beds d vals) a.beds.length
 have h:=meanW_ok s d aims ix a ha hO vals hv hV j h1 h2 h3
 have e:(if j<a.beds.length then 2000000000 else meanZ s d a.beds (vals.map zN))=meanS s d a.beds vals:=by
  unfold meanS
  by_cases hj:j<a.beds.length
  ·rw[if_pos hj,if_pos (List.any_eq_true.2 ⟨j,List.mem_range.2 hj,h3 hj⟩)]
  ·rw[if_neg hj,if_neg]
   intro hh
   obtain⟨i,hi,hb⟩:=List.any_eq_true.1 hh
   have:=h2 i (by have:=List.mem_range.1 hi;omega)
   rw[hb] at this;cases this
 rw[e] at h
 exact⟨_,mixZ_len _ _,h⟩
def vY (b:Nat→Bool) (j:Nat) (v:AV):AV:=if b j then v else .r .un
def mkF (s:Bool) (d:Int) (aims:List Am) (tb:List RV) (nums:List Int) (ix m:Nat) (res:Int) (b:Nat→Bool) (vs:Nat→Nat):List (Nat × AV) :=
 [(0,.pt 1000 (vs 1000) 0),(1,.r (i64 (ix:Int))),(9,.os 38 (vs 38) 1 0 m),
  (40,vY b 0 (.pt 1000 (vs 1000) 0)),
  (41,vY b 1 (.pt 1000 (vs 1000) 0)),
  (42,vY b 2 (.pt 1000 (vs 1000) 0)),
  (43,vY b 3 (.r (.rp tb))),
  (44,vY b 4 (.r (.rp tb))),
  (45,vY b 5 (.r (.rp [.bo s,ints nums]))),
  (46,vY b 6 (.r (.bo s))),
  (47,vY b 7 (.pt 1000 (vs 1000) 0)),
  (48,vY b 8 (.pt 1000 (vs 1000) 0)),
  (49,vY b 9 (.pt 1000 (vs 1000) 0)),
  (50,vY b 10 (.r (.rp tb))),
  (51,vY b 11 (.r (.rp tb))),
  (52,vY b 12 (.r (.rp tb))),
  (53,vY b 13 (.r (.rp tb))),
  (54,vY b 14 (.r (lawV d aims))),
  (55,vY b 15 (.r (i64 (ix:Int)))),
  (56,vY b 16 (.os 38 (vs 38) 1 0 m)),
  (57,vY b 17 (.r (i64 res))),
  (8,vY b 18 (.r (i64 res)))]
def mkR (vis:List AV) (vals out:List Int) (b:Nat→Bool) (vs:Nat→Nat):List (Nat × RowC) :=
 [(38,.arr 3 1 (bif b 17 then arrV out else arrV vals)),(1000,.box vis)]
attribute [go_sem] mkF mkR vY
theorem mean_ok {r:Rk}{s:Bool}{nums:List Int}{st:Nat}(h:VsOk r s nums st) {k:Nat}(hk:k≤2) (hV:ValC r s nums st k) (ix:Nat) (a:Am) (ha:r.aims[ix]? = some a) (left:Nat) (K:List Int) (hlo:lowG r.out≤left) (hle:left≤st) (hK:OkK r s nums (ownV nums st) K) :
 MCalls Tryz.prog 112 [(1000,.box (visA r s nums st K))] [(1000,.box (visA r s nums st (meanM r s (ownV nums st) left (valM r s nums (ownV nums st) k) a K).2))] [.pt 1000 0 0,.r (i64 (ix:Int)),.r (i64 (left:Int)),.r (i64 ((k:Int)+1))] (.r (i64 (meanM r s (ownV nums st) left (valM r s nums (ownV nums st) k) a K).1)):=by
 obtain⟨at_,l⟩:=a
 have hal:ix<r.aims.length:=(List.getElem?_eq_some_iff.1 ha).1
 have hO:AOk r.d l:=h.ok.aims _ (zmo ha)
 have hst:=h.ok.start
 have hst2:=h.hi
 have hlen:=hO.len
 obtain⟨f,hf⟩:∃ f,f=valM r s nums (ownV nums st) k:=⟨_,rfl⟩
 have hMf:MfOk r s nums (ownV nums st) left f (valA r s nums (ownV nums st) k):=fun x K' q1 q2 q3=>by rw[hf];exact valM_ok h.ok h.nums h.own k (by omega) x K' q1 (by omega) q3
 have hnx:=fun K' (hK':OkK r s nums (ownV nums st) K') b hb=>next_ok h hk hV left K' b hlo hle hb hK'
 rw[← hf] at hnx ⊢
 have hst':∀ i,OkK r s nums (ownV nums st) (bedsM r.out (ownV nums st) left f (l.take i) K).2:=fun i=>(bedsM_ok hMf _ K (fun b hb=>hO.bed b (List.mem_of_mem_take hb)) hK).2
 obtain⟨hvals,_⟩:=bedsM_ok hMf l K hO.bed hK
 have hvlen:(bedsM r.out (ownV nums st) left f l K).1.length=l.length:=bedsM_len ..
 have hvok:∀ x∈(bedsM r.out (ownV nums st) left f l K).1,VOk x:=fun x hx=>by
  rw[hvals] at hx
  obtain⟨b,_,rfl⟩:=List.mem_map.1 hx
  exact nextA_vok h.own (valA_vok h.ok h.nums h.own k) _
 obtain⟨out,ho,hm⟩:=meanI_ok s r.d r.aims ix ⟨at_,l⟩ ha hO _ hvlen hvok
 refine mcalls_st (n:=58) (rs:=[.r (i64 (meanM r s (ownV nums st) left f ⟨at_,l⟩ K).1)]) _ _ [.tmp 8] Tryz.func112 rfl (by kernel_rfl) Tryz.ntmps112 rfl (by simp) rfl rfl fun C=>?_
 apply zq
 refine zb fun K hK=>?_;simp only[go_sem];apply hK;clear hK K;apply zw (zk [0,1,2,3]);simp only[go_sem]
 apply zq
 refine zb fun K hK=>?_;simp only[go_sem];apply hK;clear hK K;refine zw (sub_own 9 38 3 1 (by omega) rfl) ?_;apply zw (zk [0,1,2,3,9]);simp only[go_sem]
 repeat apply zq
 refine zb fun K hK=>?_;simp only[go_sem,ty203,ha,hal,aimR]
 intro _
 apply hK;clear hK K;apply zw (zk [0,1,2,3,9,24,25,26]);simp only[go_sem];apply zd
 refine awp_upto0 (n:=58) l.length (fun i vs=>[(0,.pt 1000 0 0),(1,.r (i64 (ix:Int))),(2,.r (i64 (left:Int))),(3,.r (i64 ((k:Int)+1))),(9,.os 38 (vs 38) 1 0 i),(24,.r (bedsR l)),(25,.r (i64 l.length)),(26,.r (i64 i))])
  (fun i=>[(38,.arr 3 1 (arrV (bedsM r.out (ownV nums st) left f (l.take i) K).1)),(1000,.box (visA r s nums st (bedsM r.out (ownV nums st) left f (l.take i) K).2))]) (fun _=>True) 0 (fit0_of [] (by intro j hj;(try simp only[upd]);(repeat' split);all_goals first|rfl|omega) ?_ ?_) (by omega) trivial ?_
 ·try simp only[go_sem]
 ·try simp only[go_sem]
  rfl
 ·intro i vs hvl hi _
  have hv0:=hvl 1000 (by omega)
  apply zq
  refine zb fun K hK=>?_;simp only[go_sem];apply hK;clear hK K;apply zw (zk [0,1,2,3,9,24,25,26,27]);simp only[go_sem]
  apply zq
  apply zc rfl<;>intro hc<;>(try simp only[go_sem] at hc)
  ·have hci:=hc
   obtain⟨x,hx⟩:=zol hci
   have hcall:=hnx _ (hst' i) x.b (hO.bed x (zmo hx))
   have hsn:bedsM r.out (ownV nums st) left f (l.take (i+1)) K=((bedsM r.out (ownV nums st) left f (l.take i) K).1++[(nextM r.out (ownV nums st) left f x.b (bedsM r.out (ownV nums st) left f (l.take i) K).2).1],(nextM r.out (ownV nums st) left f x.b (bedsM r.out (ownV nums st) left f (l.take i) K).2).2):=by
    rw[zto hx,bedsM_snoc]
   have hbl:(bedsM r.out (ownV nums st) left f (l.take i) K).1.length=i:=by rw[bedsM_len,List.length_take];omega
   rw[hsn]
   generalize bedsM r.out (ownV nums st) left f (l.take i) K=B at *
   generalize nextM r.out (ownV nums st) left f x.b B.2=N at *
   apply zx
   try simp only[go_sem]
   apply zq
   apply zd
   apply zq
   refine zb fun K hK=>?_;simp only[go_sem,hx,hci,bedR];apply hK;clear hK K;refine zw (zfP 11 11 [i64 x.b,i64 x.lo,i64 x.hi] (by omega) (by try simp only[go_sem]) (by try simp only[go_sem])) ?_;apply zw (zk [0,1,2,3,9,11,24,25,26]);simp only[go_sem];refine zb fun K hK=>?_;simp only[go_sem,hbl,List.length_map]
   refine xcall_mut (hcall) [(1000,1000)] rfl (by simp only[go_sem,i64,ints,lend_tA,back_tA,hv0,hbl,List.length_map]) (by simp only[go_sem,i64,ints,lend_tA,back_tA,hv0,hbl,List.length_map]) (by rfl) (by rfl) ?_
   (try simp only[go_sem,lend_tA,back_tA,hv0,hbl,List.length_map])
   refine⟨by omega,?_⟩
   apply hK;clear hK K;apply zw (zk [0,1,2,3,9,24,25,26]);simp only[go_sem];refine zb fun K hK=>?_;simp only[go_sem];(try simp (disch:=omega) only[zI]);apply hK;clear hK K
   try simp only[go_sem]
   refine⟨hci,fit0_of [] (by intro j hj;(try simp only[upd]);(repeat' split);all_goals first|rfl|omega|exact hvl _ hj) ?_ ?_⟩
   ·try simp only[go_sem]
   ·try simp only[go_sem]
    simp
  ·have hii:i=l.length:=by omega
   subst hii
   have e3:l.take l.length=l:=List.take_length
   have hMm:meanM r s (ownV nums st) left f ⟨at_,l⟩ K=(meanS s r.d l (bedsM r.out (ownV nums st) left f l K).1,(bedsM r.out (ownV nums st) left f l K).2):=rfl
   rw[hMm,e3]
   generalize bedsM r.out (ownV nums st) left f l K=B at *
   rw[hvlen] at hm
   apply zf;simp only[go_sem];apply zw (zk [0,1,9]);simp only[go_sem]
   apply zq
   refine awp_inv (n:=58) (mkF s r.d r.aims (tabC r s nums) nums ix l.length (meanS s r.d l B.1)) (mkR (visA r s nums st B.2) B.1 out) follows (by kernel_rfl) (by kernel_rfl) (by decide +kernel) (zj [] ?_ ?_) ?_ ?_
   ·simp only[go_sem,hv0,if_true,if_false,Bool.false_eq_true]
   ·simp only[go_sem,List.cons_append,List.nil_append]
   ·refine⟨fun b vs hdn hbk hde=>?_,fun b vs hdn hbk hde=>?_,fun b vs hdn hbk hde=>?_,fun b vs hdn hbk hde=>?_,fun b vs hdn hbk hde=>?_,fun b vs hdn hbk hde=>?_,fun b vs hdn hbk hde=>?_,fun b vs hdn hbk hde=>?_,fun b vs hdn hbk hde=>?_,fun b vs hdn hbk hde=>?_,fun b vs hdn hbk hde=>?_,fun b vs hdn hbk hde=>?_,fun b vs hdn hbk hde=>?_,fun b vs hdn hbk hde=>?_,fun b vs hdn hbk hde=>?_,fun b vs hdn hbk hde=>?_,fun b vs hdn hbk hde=>?_,fun b vs hdn hbk hde=>?_,fun b vs hdn hbk hde=>?_,trivial⟩
    ·skip
     have G:=dnT hdn hbk [1,18,2,3,4,5,6,17] (by decide +kernel)
     simp only[allB,and_true] at G
     (simp only[go_sem,upd,if_true,Bool.false_eq_true,if_false,hbk,G,ty203,hv0,ha,hal,aimR,hvlen,List.length_map])
     all_goals (refine zj [] ?_ ?_<;>(simp only[go_sem,upd,if_true,Bool.false_eq_true,if_false,hbk,G,ty203,hv0,ha,hal,aimR,hvlen,List.length_map]))
    ·skip
     have H:=upT hdn hde [0] (by decide +kernel)
     have G:=dnT hdn hbk [2,18,3,4,5,6,17] (by decide +kernel)
     simp only[allB,and_true] at H G
     (simp only[go_sem,upd,if_true,Bool.false_eq_true,if_false,hbk,H,G,ty203,hv0,ha,hal,aimR,hvlen,List.length_map])
     all_goals (refine zj [] ?_ ?_<;>(simp only[go_sem,upd,if_true,Bool.false_eq_true,if_false,hbk,H,G,ty203,hv0,ha,hal,aimR,hvlen,List.length_map]))
    ·skip
     have H:=upT hdn hde [1,0] (by decide +kernel)
     have G:=dnT hdn hbk [3,18,4,5,6,17] (by decide +kernel)
     simp only[allB,and_true] at H G
     (simp only[go_sem,upd,if_true,Bool.false_eq_true,if_false,hbk,H,G,ty203,hv0,ha,hal,aimR,hvlen,List.length_map])
     all_goals (refine zj [] ?_ ?_<;>(simp only[go_sem,upd,if_true,Bool.false_eq_true,if_false,hbk,H,G,ty203,hv0,ha,hal,aimR,hvlen,List.length_map]))
    ·skip
     have H:=upT hdn hde [2,1,0] (by decide +kernel)
     have G:=dnT hdn hbk [4,18,5,6,17] (by decide +kernel)
     simp only[allB,and_true] at H G
     (simp only[go_sem,upd,if_true,Bool.false_eq_true,if_false,hbk,H,G,ty203,hv0,ha,hal,aimR,hvlen,List.length_map])
     all_goals (refine zj [] ?_ ?_<;>(simp only[go_sem,upd,if_true,Bool.false_eq_true,if_false,hbk,H,G,ty203,hv0,ha,hal,aimR,hvlen,List.length_map]))
    ·skip
     have H:=upT hdn hde [3,2,1,0] (by decide +kernel)
     have G:=dnT hdn hbk [5,18,6,17] (by decide +kernel)
     simp only[allB,and_true] at H G
     (simp only[go_sem,upd,if_true,Bool.false_eq_true,if_false,hbk,H,G,ty203,hv0,ha,hal,aimR,hvlen,List.length_map])
     all_goals (refine zj [] ?_ ?_<;>(simp only[go_sem,upd,if_true,Bool.false_eq_true,if_false,hbk,H,G,ty203,hv0,ha,hal,aimR,hvlen,List.length_map]))
    ·skip
     have H:=upT hdn hde [4,3,2,1,0] (by decide +kernel)
     have G:=dnT hdn hbk [6,18,17] (by decide +kernel)
     simp only[allB,and_true] at H G
     (simp only[go_sem,upd,if_true,Bool.false_eq_true,if_false,hbk,H,G,ty203,hv0,ha,hal,aimR,hvlen,List.length_map])
     all_goals (refine zj [] ?_ ?_<;>(simp only[go_sem,upd,if_true,Bool.false_eq_true,if_false,hbk,H,G,ty203,hv0,ha,hal,aimR,hvlen,List.length_map]))
    ·skip
     have H:=upT hdn hde [5,4,3,2,1,0] (by decide +kernel)
     have G:=dnT hdn hbk [17,18] (by decide +kernel)
     simp only[allB,and_true] at H G
     (simp only[go_sem,upd,if_true,Bool.false_eq_true,if_false,hbk,H,G,ty203,hv0,ha,hal,aimR,hvlen,List.length_map])
     all_goals (refine zj [] ?_ ?_<;>(simp only[go_sem,upd,if_true,Bool.false_eq_true,if_false,hbk,H,G,ty203,hv0,ha,hal,aimR,hvlen,List.length_map]))
    ·skip
     have G:=dnT hdn hbk [8,18,9,10,11,12,13,14,17] (by decide +kernel)
     simp only[allB,and_true] at G
     (simp only[go_sem,upd,if_true,Bool.false_eq_true,if_false,hbk,G,ty203,hv0,ha,hal,aimR,hvlen,List.length_map])
     all_goals (refine zj [] ?_ ?_<;>(simp only[go_sem,upd,if_true,Bool.false_eq_true,if_false,hbk,G,ty203,hv0,ha,hal,aimR,hvlen,List.length_map]))
    ·skip
     have H:=upT hdn hde [7] (by decide +kernel)
     have G:=dnT hdn hbk [9,18,10,11,12,13,14,17] (by decide +kernel)
     simp only[allB,and_true] at H G
     (simp only[go_sem,upd,if_true,Bool.false_eq_true,if_false,hbk,H,G,ty203,hv0,ha,hal,aimR,hvlen,List.length_map])
     all_goals (refine zj [] ?_ ?_<;>(simp only[go_sem,upd,if_true,Bool.false_eq_true,if_false,hbk,H,G,ty203,hv0,ha,hal,aimR,hvlen,List.length_map]))
    ·skip
     have H:=upT hdn hde [8,7] (by decide +kernel)
     have G:=dnT hdn hbk [10,18,11,12,13,14,17] (by decide +kernel)
     simp only[allB,and_true] at H G
     (simp only[go_sem,upd,if_true,Bool.false_eq_true,if_false,hbk,H,G,ty203,hv0,ha,hal,aimR,hvlen,List.length_map])
     all_goals (refine zj [] ?_ ?_<;>(simp only[go_sem,upd,if_true,Bool.false_eq_true,if_false,hbk,H,G,ty203,hv0,ha,hal,aimR,hvlen,List.length_map]))
    ·skip
     have H:=upT hdn hde [9,8,7] (by decide +kernel)
     have G:=dnT hdn hbk [11,18,12,13,14,17] (by decide +kernel)
     simp only[allB,and_true] at H G
     (simp only[go_sem,upd,if_true,Bool.false_eq_true,if_false,hbk,H,G,ty203,hv0,ha,hal,aimR,hvlen,List.length_map])
     all_goals (refine zj [] ?_ ?_<;>(simp only[go_sem,upd,if_true,Bool.false_eq_true,if_false,hbk,H,G,ty203,hv0,ha,hal,aimR,hvlen,List.length_map]))
    ·skip
     have H:=upT hdn hde [10,9,8,7] (by decide +kernel)
     have G:=dnT hdn hbk [12,18,13,14,17] (by decide +kernel)
     simp only[allB,and_true] at H G
     (simp only[go_sem,upd,if_true,Bool.false_eq_true,if_false,hbk,H,G,ty203,hv0,ha,hal,aimR,hvlen,List.length_map])
     all_goals (refine zj [] ?_ ?_<;>(simp only[go_sem,upd,if_true,Bool.false_eq_true,if_false,hbk,H,G,ty203,hv0,ha,hal,aimR,hvlen,List.length_map]))
    ·skip
     have H:=upT hdn hde [11,10,9,8,7] (by decide +kernel)
     have G:=dnT hdn hbk [13,18,14,17] (by decide +kernel)
     simp only[allB,and_true] at H G
     (simp only[go_sem,upd,if_true,Bool.false_eq_true,if_false,hbk,H,G,ty203,hv0,ha,hal,aimR,hvlen,List.length_map])
     all_goals (refine zj [] ?_ ?_<;>(simp only[go_sem,upd,if_true,Bool.false_eq_true,if_false,hbk,H,G,ty203,hv0,ha,hal,aimR,hvlen,List.length_map]))
    ·skip
     have H:=upT hdn hde [12,11,10,9,8,7] (by decide +kernel)
     have G:=dnT hdn hbk [14,18,17] (by decide +kernel)
     simp only[allB,and_true] at H G
     (simp only[go_sem,upd,if_true,Bool.false_eq_true,if_false,hbk,H,G,ty203,hv0,ha,hal,aimR,hvlen,List.length_map])
     all_goals (refine zj [] ?_ ?_<;>(simp only[go_sem,upd,if_true,Bool.false_eq_true,if_false,hbk,H,G,ty203,hv0,ha,hal,aimR,hvlen,List.length_map]))
    ·skip
     have H:=upT hdn hde [13,12,11,10,9,8,7] (by decide +kernel)
     have G:=dnT hdn hbk [17,18] (by decide +kernel)
     simp only[allB,and_true] at H G
     (simp only[go_sem,upd,if_true,Bool.false_eq_true,if_false,hbk,H,G,ty203,hv0,ha,hal,aimR,hvlen,List.length_map])
     all_goals (refine zj [] ?_ ?_<;>(simp only[go_sem,upd,if_true,Bool.false_eq_true,if_false,hbk,H,G,ty203,hv0,ha,hal,aimR,hvlen,List.length_map]))
    ·skip
     have G:=dnT hdn hbk [17,18] (by decide +kernel)
     simp only[allB,and_true] at G
     (simp only[go_sem,upd,if_true,Bool.false_eq_true,if_false,hbk,G,ty203,hv0,ha,hal,aimR,hvlen,List.length_map])
     all_goals (refine zj [] ?_ ?_<;>(simp only[go_sem,upd,if_true,Bool.false_eq_true,if_false,hbk,G,ty203,hv0,ha,hal,aimR,hvlen,List.length_map]))
    ·skip
     have G:=dnT hdn hbk [17,18] (by decide +kernel)
     simp only[allB,and_true] at G
     (simp only[go_sem,upd,if_true,Bool.false_eq_true,if_false,hbk,G,ty203,hv0,ha,hal,aimR,hvlen,List.length_map])
     all_goals (refine zj [] ?_ ?_<;>(simp only[go_sem,upd,if_true,Bool.false_eq_true,if_false,hbk,G,ty203,hv0,ha,hal,aimR,hvlen,List.length_map]))
    ·skip
     have H:=upT hdn hde [6,14,15,16,5,13,4,12,3,11,2,10,1,9,0,8,7] (by decide +kernel)
     have G:=dnT hdn hbk [18] (by decide +kernel)
     simp only[allB,and_true] at H G
     (simp only[go_sem,upd,if_true,Bool.false_eq_true,if_false,hbk,H,G,ty203,hv0,ha,hal,aimR,hvlen,List.length_map])
     all_goals (refine xcall_mut hm [(1000,38)] rfl (by simp only[go_sem,i64,ints]) (by simp only[go_sem,i64,ints,List.length_map];try simp) (by rfl) (by rfl) ?_)
     all_goals (simp only[go_sem,mkF,mkR,vY,cond_true,cond_false,if_true,Bool.false_eq_true,if_false,hbk,H,G,ty203,hv0,ha,hal,aimR,hvlen,List.length_map])
     all_goals (refine zj [] ?_ ?_<;>(simp only[go_sem,upd,if_true,Bool.false_eq_true,if_false,hbk,H,G,ty203,hv0,ha,hal,aimR,hvlen,List.length_map]))
    ·skip
     have H:=upT hdn hde [0,1,2,3,4,5,6,7,8,9,10,11,12,13,14,15,16,17,17,17] (by decide +kernel)
     simp only[allB,and_true] at H
     (simp only[go_sem,upd,if_true,Bool.false_eq_true,if_false,hbk,H,ty203,hv0,ha,hal,aimR,hvlen,List.length_map])
     all_goals (refine zj [] ?_ ?_<;>(simp only[go_sem,upd,if_true,Bool.false_eq_true,if_false,hbk,H,ty203,hv0,ha,hal,aimR,hvlen,List.length_map]))
   intro b vs hb
   simp only[go_sem,hb,if_true,List.cons_append,List.nil_append];apply zw (zk [8]);simp only[go_sem];apply ze;simp only[go_sem];exact⟨frzPL_tA _ _ _,by rw[frzL_tA]⟩
abbrev capM (u:Addr) (left:Nat) (k:Nat):List RV:=[.rp [.vl u],.rp [i64 (left:Int)],.rp [i64 ((k:Int)+1)]]
theorem means_ok (u:Addr) (left k:Nat):ACalls Tryz.prog 78 [.vl u,i64 (left:Int),i64 ((k:Int)+1)] (.fn 111 (capM u left k)):=by
 refine zas (rs:=[.fn 111 (capM u left k)]) [.tmp 6] Tryz.func78 rfl (by kernel_rfl) Tryz.ntmps78 rfl (by simp) rfl fun C vs=>?_
 apply zq
 refine zb fun K hK=>?_;simp only[go_sem];apply hK;clear hK K
 apply zq
 refine zb fun K hK=>?_;simp only[go_sem];apply hK;clear hK K;apply zw (zk [3,4,5,6]);simp only[go_sem];apply ze;simp only[go_sem];exact leL_refl.le_refl _
theorem visR_A (r:Rk) (s:Bool) (nums:List Int) (st:Nat) (K:List Int):(visR r s nums st K).map AV.r=visA r s nums st K:=by simp [Function.comp]
def enumM (l:List Int):List (List RV):=l.mapIdx fun i n=>[i64 (i:Int),i64 n]
theorem means1_ok {r:Rk}{s:Bool}{nums:List Int}{st:Nat}(h:VsOk r s nums st) {k:Nat}(hk:k≤2) (hV:ValC r s nums st k) (u:Addr) (left:Nat) (K:List Int) (hlo:lowG r.out≤left) (hle:left≤st) (hK:OkK r s nums (ownV nums st) K) :
 JCalls Tryz.prog 111 u (visR r s nums st K) (visR r s nums st (aimsM r s (ownV nums st) left (valM r s nums (ownV nums st) k) r.aims K).2) (capM u left k) (enumM (aimsM r s (ownV nums st) left (valM r s nums (ownV nums st) k) r.aims K).1):=by
 have hst:=h.ok.start
 have hst2:=h.hi
 obtain⟨f,hf⟩:∃ f,f=valM r s nums (ownV nums st) k:=⟨_,rfl⟩
 have hMf:MfOk r s nums (ownV nums st) left f (valA r s nums (ownV nums st) k):=fun x K' q1 q2 q3=>by rw[hf];exact valM_ok h.ok h.nums h.own k (by omega) x K' q1 (by omega) q3
 have hmn:=fun ix a ha K' (hK':OkK r s nums (ownV nums st) K')=>mean_ok h hk hV ix a ha left K' hlo hle hK'
 rw[← hf] at hmn ⊢
 have hst':∀ i,OkK r s nums (ownV nums st) (aimsM r s (ownV nums st) left f (r.aims.take i) K).2:=fun i=>(aimsM_ok hMf _ K (fun a ha=>h.ok.aims a (List.mem_of_mem_take ha)) hK).2
 obtain⟨xs,hxs⟩:∃ xs,xs=(aimsM r s (ownV nums st) left f r.aims K).1:=⟨_,rfl⟩
 have hxl:xs.length=r.aims.length:=by rw[hxs,aimsM_len]
 have hxat:∀ i a,r.aims[i]? = some a→xs[i]? = some (meanM r s (ownV nums st) left f a (aimsM r s (ownV nums st) left f (r.aims.take i) K).2).1:=fun i a ha=>by
  have e:r.aims=r.aims.take i++a::r.aims.drop (i+1):=by
   have:=drop_of_opt ha
   rw[← this,List.take_append_drop]
  have gen:∀ (l m:List Am) (b:Am) (K:List Int),(aimsM r s (ownV nums st) left f (l++b::m) K).1[l.length]? = some (meanM r s (ownV nums st) left f b (aimsM r s (ownV nums st) left f l K).2).1:=by
   intro l
   induction l with
   | nil=>intro m b K;rfl
   | cons c l ih=>intro m b K;simp only[List.cons_append,aimsM,List.length_cons,List.getElem?_cons_succ];exact ih m b _
  have hl:(r.aims.take i).length=i:=by rw[List.length_take];have:=(List.getElem?_eq_some_iff.1 ha).1;omega
  have:=gen (r.aims.take i) (r.aims.drop (i+1)) a K
  rw[hl,← e] at this
  rw[hxs];exact this
 rw[← hxs]
 refine jcalls_st Tryz.func111 rfl (by kernel_rfl) Tryz.ntmps111 rfl (by simp) fun C ll=>?_
 rw[visR_A]
 apply zq
 refine awp_long ?_
 refine sops_take 1 (by kernel_rfl) fun K hK=>?_
 simp only[go_sem,List.take_succ_cons,List.take_zero,List.drop_succ_cons,List.drop_zero,List.append_eq,List.cons_append,List.nil_append,argL]
 refine hK _ rfl ?_
 clear hK K
 refine sops_sub (sub_vl 6 (k:=1000) (u:=u) (us:=[.pointer (some u)]) (by try simp only[go_sem]) (by rfl)) ?_
 refine sops_sub (sub_unname 6 (k:=1000) (m:=0) (u:=u) (by try simp only[go_sem])) ?_
 refine sops_sub (zk [0,1,2,3,6]) ?_
 simp only[go_sem]
 refine sops_end (by kernel_rfl) fun K hK=>?_
 simp only[go_sem,List.drop_succ_cons,List.drop_zero,List.append_eq,List.cons_append,List.nil_append,ty203]
 intro _
 apply hK;clear hK K;apply zw (zk [0,1,2,3,14,15,16]);simp only[go_sem];apply zd
 refine awp_upto0 (n:=29) r.aims.length (fun i vs=>[(0,.r (.yl ll)),(1,.r (.rp [.vl u])),(2,.r (.rp [i64 (left:Int)])),(3,.r (.rp [i64 ((k:Int)+1)])),(14,.r (aimsR r.aims)),(15,.r (i64 r.aims.length)),(16,.r (i64 i))])
  (fun i=>[(998,.sus [.pu 1000 0 u] [.pointer (some u)]),(999,.gh Tryz.prog ll true (some ((enumM xs).drop i))),(1000,.box (visA r s nums st (aimsM r s (ownV nums st) left f (r.aims.take i) K).2))]) (fun _=>True) 0 (fit0_of [] (by intro j hj;(try simp only[upd]);(repeat' split);all_goals first|rfl|omega) ?_ ?_) (by omega) trivial ?_
 ·try simp only[go_sem]
 ·try simp only[go_sem]
  rfl
 ·intro i vs hvl hi _
  have hv0:=hvl 1000 (by omega)
  apply zq
  refine zb fun K hK=>?_;simp only[go_sem];apply hK;clear hK K;apply zw (zk [0,1,2,3,14,15,16,17]);simp only[go_sem]
  apply zq
  apply zc rfl<;>intro hc<;>(try simp only[go_sem] at hc)
  ·have hci:=hc
   obtain⟨a,ha⟩:=zol hci
   have hcall:=hmn i a ha _ (hst' i)
   have hx:=hxat i a ha
   have hsn:aimsM r s (ownV nums st) left f (r.aims.take (i+1)) K=((aimsM r s (ownV nums st) left f (r.aims.take i) K).1++[(meanM r s (ownV nums st) left f a (aimsM r s (ownV nums st) left f (r.aims.take i) K).2).1],(meanM r s (ownV nums st) left f a (aimsM r s (ownV nums st) left f (r.aims.take i) K).2).2):=by
    rw[zto ha,aimsM_snoc]
   rw[hsn]
   generalize aimsM r s (ownV nums st) left f (r.aims.take i) K=B at *
   generalize meanM r s (ownV nums st) left f a B.2=N at *
   have he:(enumM xs).drop i=[i64 (i:Int),i64 N.1]::(enumM xs).drop (i+1):=by
    refine drop_of_opt ?_
    simp [enumM,hx]
   apply zx
   try simp only[go_sem]
   apply zq
   apply zd
   apply zq
   refine zb fun K hK=>?_;simp only[go_sem];apply hK;clear hK K;apply zw (zk [0,1,2,3,5,14,15,16]);simp only[go_sem]
   apply zq
   refine awp_long ?_
   refine sops_take 3 (by kernel_rfl) fun K hK=>?_
   simp only[go_sem,List.take_succ_cons,List.take_zero,List.drop_succ_cons,List.drop_zero,List.append_eq,List.cons_append,List.nil_append]
   refine hK _ rfl ?_
   clear hK K
   refine sops_sub (sub_vl 21 (k:=1000) (u:=u) (us:=[.pointer (some u)]) (by try simp only[go_sem]) (by rfl)) ?_
   refine sops_sub (sub_unname 21 (k:=1000) (m:=0) (u:=u) (by try simp only[go_sem])) ?_
   refine sops_sub (zk [0,1,2,3,5,14,15,16,19,20,21]) ?_
   simp only[go_sem]
   refine sops_take 4 (by kernel_rfl) fun K hK=>?_
   simp only[go_sem,List.take_succ_cons,List.take_zero,List.drop_succ_cons,List.drop_zero,List.append_eq,List.cons_append,List.nil_append]
   refine xcall_mut (hcall) [(1000,1000)] rfl (by simp only[go_sem,i64,ints,lend_tA,back_tA,hv0]) (by simp only[go_sem,i64,ints,lend_tA,back_tA,hv0]) (by rfl) (by rfl) ?_
   (try simp only[go_sem,lend_tA,back_tA,hv0])
   refine hK _ rfl ?_
   clear hK K
   refine sops_sub (zk [0,1,2,3,14,15,16,19,20,25]) ?_
   simp only[go_sem]
   refine sops_end (by kernel_rfl) fun K hK=>?_
   simp only[go_sem,List.drop_succ_cons,List.drop_zero,List.append_eq,List.cons_append,List.nil_append]
   refine xcall_yield (z:=true) (e:=[i64 (i:Int),i64 N.1]) (rest:=(enumM xs).drop (i+1)) (by simp only[go_sem,he]) rfl (by simp only[go_sem]) (.inl rfl) ?_ ?_
   ·simp only[go_sem];apply hK;clear hK K;apply zw (zk [0,1,2,3,14,15,16,27]);simp only[go_sem]
    apply zc rfl<;>intro hc<;>(try simp only[go_sem] at hc)
    apply zx
    try simp only[go_sem]
    refine zb fun K hK=>?_;simp only[go_sem];(try simp (disch:=omega) only[zI]);apply hK;clear hK K
    try simp only[go_sem]
    refine⟨hci,fit0_of [] (by intro j hj;(try simp only[upd]);(repeat' split);all_goals first|rfl|omega|exact hvl _ hj) ?_ ?_⟩
    ·try simp only[go_sem]
    ·try simp only[go_sem]
   ·simp only[go_sem];apply hK;clear hK K;apply zw (zk [27]);simp only[go_sem]
    apply zc rfl<;>intro hc<;>(try simp only[go_sem] at hc)
    apply ze;simp only[go_sem];exact .inl ⟨_,_,rfl⟩
  ·apply zf;simp only[go_sem]
   have hil:i=r.aims.length:=by omega
   subst hil
   have h0:(enumM xs).drop r.aims.length=[]:=List.drop_eq_nil_of_le (by simp [enumM];omega)
   have e3:r.aims.take r.aims.length=r.aims:=List.take_length
   rw[h0,e3]
   refine .inr ⟨⟨ll,true,by simp only[go_sem]⟩,?_⟩
   rw[visR_A]
   try simp only[go_sem]
set_option maxHeartbeats 4000000
theorem visA_drop {r:Rk}{s:Bool}{nums:List Int}{st:Nat}{K:List Int}{j:Nat}{x:Int}(h:K[j]? = some x):(visA r s nums st K).drop (2+j) = .r (i64 x)::(visA r s nums st K).drop (2+j+1):=by
 refine drop_of_opt ?_
 rw[show 2+j=j+1+1 by omega,List.getElem?_cons_succ,List.getElem?_cons_succ,List.getElem?_map,h]
 rfl
theorem visA_set {r:Rk}{s:Bool}{nums:List Int}{st:Nat}{K:List Int}{j:Nat}{y:Int}(h:j<K.length):(visA r s nums st K).take (2+j)++(AV.r (i64 y)::(visA r s nums st K).drop (2+j+1))=visA r s nums st (K.set j y):=by
 have e:(visA r s nums st K).take (2+j)++(AV.r (i64 y)::(visA r s nums st K).drop (2+j+1))=(visA r s nums st K).set (2+j) (AV.r (i64 y)):=by
  rw[List.set_eq_take_append_cons_drop,if_pos (by simp;omega)]
 rw[e,show 2+j=j+1+1 by omega,List.set_cons_succ,List.set_cons_succ]
 simp [List.map_set]
theorem value0_ok {r:Rk}{s:Bool}{nums:List Int}{st:Nat}(h:VsOk r s nums st):ValC r s nums st 0:=fun left K hlo hle hK=>by
 have hst:=h.ok.start
 have hst2:=h.hi
 have hopt:=h.opt (x:=left) (by omega) (by omega)
 simp only[Int.toNat_natCast] at hopt
 have hnl:left<nums.length:=by rw[h.len];omega
 have e:valM r s nums (ownV nums st) 0 left K=(nums.getD left 0,K):=by simp [valM]
 rw[e]
 refine mcalls_st (n:=51) (rs:=[.r (i64 (nums.getD left 0))]) _ _ [.cell 6 3] Tryz.func160 rfl (by kernel_rfl) Tryz.ntmps160 rfl (by simp) rfl rfl fun C=>?_
 apply zq
 refine zb fun K hK=>?_;simp only[go_sem];apply hK;clear hK K;apply zw (zk [0,1,2,6]);simp only[go_sem]
 repeat apply zq
 refine zb fun K hK=>?_;simp only[go_sem];apply hK;clear hK K;apply zw (zk [0,1,2,6,11]);simp only[go_sem]
 apply zc rfl<;>intro hc<;>(try simp only[go_sem] at hc)
 apply zq
 refine zb fun K hK=>?_;simp only[go_sem,ty203,hopt,hnl];apply hK;clear hK K;apply zw (zk [6]);simp only[go_sem];apply ze;simp only[go_sem];exact⟨frzPL_tA _ _ _,by rw[frzL_tA]⟩
theorem value1_ok {r:Rk}{s:Bool}{nums:List Int}{st:Nat}(h:VsOk r s nums st) {k:Nat}(hk:k≤2) (hV:ValC r s nums st k):ValC r s nums st (k+1):=fun left K hlo hle hK=>by
 have hst:=h.ok.start
 have hst2:=h.hi
 have hlg:=lowG_le r.out
 have hix:ixK (k+1) (left:Int)=61*(k+1)+left:=by simp [ixK]
 obtain⟨j,hj⟩:∃ j,j=61*(k+1)+left:=⟨_,rfl⟩
 have hjl:j<K.length:=by rw[hK.len];omega
 obtain⟨x,hx⟩:=zol hjl
 have gx:K.getD j 0=x:=by simp [List.getD,hx]
 have hx0:0≤x∧x≤2000000001:=by
  have h1:=hK.at_ (k+1) left (by omega) (by omega)
  have h2:=valA_le h.ok (s:=s) h.nums h.own (k+1) left
  rw[← hj,gx] at h1
  omega
 have hd:=visA_drop (r:=r) (s:=s) (nums:=nums) (st:=st) hx
 have hval:valM r s nums (ownV nums st) (k+1) left K=if 0<x then (x-1,K) else
  (leastA (aimsM r s (ownV nums st) left (valM r s nums (ownV nums st) k) r.aims K).1,
   (aimsM r s (ownV nums st) left (valM r s nums (ownV nums st) k) r.aims K).2.set j (leastA (aimsM r s (ownV nums st) left (valM r s nums (ownV nums st) k) r.aims K).1+1)):=by
  simp only[valM,hix,← hj,gx]
 rw[hval]
 have w1:IntKind.i64.wrap (x-1)=x-1:=by rw[zI]<;>omega
 refine mcalls_stO (n:=51) (rs:=[.r (i64 (if 0<x then (x-1,K) else
  (leastA (aimsM r s (ownV nums st) left (valM r s nums (ownV nums st) k) r.aims K).1,
   (aimsM r s (ownV nums st) left (valM r s nums (ownV nums st) k) r.aims K).2.set j (leastA (aimsM r s (ownV nums st) left (valM r s nums (ownV nums st) k) r.aims K).1+1))).1)]) _ _ [.cell 6 3] Tryz.func160 rfl (by kernel_rfl) Tryz.ntmps160 rfl (by simp) rfl rfl fun C hC=>?_
 apply zq
 refine zb fun K hK=>?_;simp only[go_sem];apply hK;clear hK K;apply zw (zk [0,1,2,6]);simp only[go_sem]
 have ek:(((k:Int)+1:Int) == 0)=false:=by simp;omega
 repeat apply zq
 refine zb fun K hK=>?_;simp only[go_sem,ek];apply hK;clear hK K;apply zw (zk [0,1,2,6,11]);simp only[go_sem]
 apply zc rfl<;>intro hc<;>(try simp only[go_sem] at hc)
 apply zx
 try simp only[go_sem]
 have ej:2+(k+1)*61+left*1=2+j:=by omega
 apply zq
 refine zb fun K hK=>?_;simp only[go_sem,ty203,ty201,ty200]
 refine⟨⟨by omega,by omega⟩,by omega,?_⟩
 rw[ej]
 apply hK;clear hK K;apply zw (zk [0,1,2,6,7]);simp only[go_sem]
 repeat apply zq
 refine zb fun K hK=>?_;simp only[go_sem,hd];apply hK;clear hK K;apply zw (zk [0,1,2,6,7,32]);simp only[go_sem]
 by_cases hp:0<x
 ·have ep:decide (0<x)=true:=by simpa using hp
  rw[if_pos hp]
  apply zc rfl<;>intro hc<;>(try simp only[go_sem] at hc)
  ·apply zq
   refine zb fun K hK=>?_;simp only[go_sem,hd,w1];apply hK;clear hK K;apply zw (zk [6]);simp only[go_sem];apply ze;simp only[go_sem];exact⟨frzPL_tA _ _ _,by rw[frzL_tA]⟩
  ·exact absurd hp hc
 ·have ep:decide (0<x)=false:=by simpa using hp
  rw[if_neg hp]
  apply zc rfl<;>intro hc<;>(try simp only[go_sem] at hc)
  ·exact absurd hc hp
  apply zx
  try simp only[go_sem]
  apply zq
  refine zb fun K hK=>?_;simp only[go_sem];apply hK;clear hK K;apply zw (zk [0,1,2,6,7]);simp only[go_sem]
  refine awp_name 0 rfl fun u=>?_
  obtain⟨A,hA⟩:∃ A,A=aimsM r s (ownV nums st) left (valM r s nums (ownV nums st) k) r.aims K:=⟨_,rfl⟩
  have hJ:=means1_ok h hk hV u left K hlo hle hK
  have hMf:MfOk r s nums (ownV nums st) left (valM r s nums (ownV nums st) k) (valA r s nums (ownV nums st) k):=fun x K' q1 q2 q3=>valM_ok h.ok h.nums h.own k (by omega) x K' q1 (by omega) q3
  obtain⟨hA1,hA2⟩:=aimsM_ok hMf r.aims K h.ok.aims hK
  rw[← hA] at hJ hA1 hA2 ⊢
  have hAv:∀ x∈A.1,VOk x:=fun x hx=>by
   rw[hA1] at hx
   obtain⟨a,ha,rfl⟩:=List.mem_map.1 hx
   exact meanA_vok h.own (valA_vok h.ok h.nums h.own k) (h.ok.aims a ha)
  repeat apply zq
  refine zb fun K hK=>?_;simp only[go_sem]
  refine zh (means_ok u left k) rfl (by simp only[go_sem,i64,ints]) (by simp only[go_sem,i64,ints]) ?_
  (try simp only[go_sem]);apply hK;clear hK K;apply zw (zk [0,6,7,40]);simp only[go_sem];apply zd
  refine Eq.mp (congrArg (fun z=>awp _ _ _ _ (Go.Oc.st 51 _ _ [_,(1000,RowC.box z)])) (visR_A r s nums st K)) ?_
  refine awp_rangeM (n:=51) (t:=40) ⟨hC.1,hC.2.1⟩ 1000 0 u (by omega) (hC.2.2 1000 rfl) (visR r s nums st K) (visR r s nums st A.2) (enumM A.1) hJ [0,6,7,40] (by decide)
   (fun vs=>[(0,.pu 1000 0 u),(6,.pt 6 (vs 6) 0),(7,.pt 1000 0 (2+j)),(40,.r (.fn 111 (capM u left k)))])
   (fun vs=>[(0,.r (.vl u)),(6,.pt 6 (vs 6) 0),(7,.r (.vl ⟨u.block,2+j,none⟩)),(40,.r (.fn 111 (capM u left k)))])
   (fun i vs=>[(6,.box [.r (i64 ((A.1.take i).foldl min 2000000000))])]) (fun _=>True) (upd (upd (fun _=>0) 6 1) 6 1) ?_ trivial ?_ ?_ ?_ (fun _ _=>rfl) (fun _=>rfl) (fun _=>rfl) ?_ (fun _ _=>rfl) ?_ ?_ ?_ ?_
  ·intro j hj;(try simp only[upd]);(repeat' split);all_goals first|rfl|omega
  ·rfl
  ·simp [AV.park,AV.parkL]
  ·simp [RowC.park,AV.park,AV.parkL]
  ·rfl
  ·decide
  ·intro e he
   obtain⟨i,hi⟩:=List.getElem?_of_mem he
   simp only[enumM,List.getElem?_mapIdx,Option.map_eq_some_iff] at hi
   obtain⟨a,_,rfl⟩:=hi
   rfl
  ·intro i e vs us C' he _ hvl
   obtain⟨n,hn⟩:∃ n,A.1[i]? = some n:=by
    simp only[enumM,List.getElem?_mapIdx,Option.map_eq_some_iff] at he
    obtain⟨a,ha,_⟩:=he
    exact⟨a,ha⟩
   have he':e=[i64 (i:Int),i64 n]:=by
    simp only[enumM,List.getElem?_mapIdx,hn,Option.map_some,Option.some.injEq] at he
    exact he.symm
   subst he'
   have hsn:(A.1.take (i+1)).foldl min 2000000000=min ((A.1.take i).foldl min 2000000000) n:=by
    rw[zto hn,List.foldl_append];rfl
   refine zb fun K hK=>?_;simp only[go_sem];apply hK;clear hK K
   refine⟨rfl,fun C''=>?_⟩
   apply zw (zk [0,6,7,9,40]);simp only[go_sem];apply zd;refine zb fun K hK=>?_;simp only[go_sem];apply hK;clear hK K
   try simp only[go_sem]
   rw[hsn]
   refine⟨vs,hvl,?_⟩
   exact sub_look _ (allEq_mem (by simp only[go_sem]))
  ·intro vs us hvl _
   have hv0:=hvl 1000 (by omega)
   have hel:(enumM A.1).length=A.1.length:=by simp [enumM]
   have hleast:A.1.foldl min 2000000000=leastA A.1:=rfl
   have hlv:=leastA_vok hAv
   have hjA:j<A.2.length:=by rw[hA2.len];omega
   obtain⟨y,hy⟩:=zol hjA
   have hdA:=visA_drop (r:=r) (s:=s) (nums:=nums) (st:=st) hy
   have hsA:=visA_set (r:=r) (s:=s) (nums:=nums) (st:=st) (y:=leastA A.1+1) hjA
   rw[hel,List.take_length,visR_A,hleast]
   generalize leastA A.1=m at *
   have wm:IntKind.i64.wrap (m+1)=m+1:=by unfold VOk at hlv;rw[zI]<;>omega
   try simp only[go_sem]
   refine zw (sub_wake rfl) ?_;refine zw (sub_vlo 7 0 (k:=1000) (off:=2+j) (u:=u) rfl rfl hv0) ?_;refine zw (sub_unname 0 rfl) ?_;apply zw (zk [0,6,7]);simp only[go_sem]
   have hs2:List.take (2+j) (visA r s nums st A.2)++AV.r (RV.it IntKind.i64 (m+1))::List.drop (2+j) (AV.r (i64 (st:Int))::tA A.2)=visA r s nums st (A.2.set j (m+1)):=hsA
   apply zq
   refine zb fun K hK=>?_;simp only[go_sem,hdA,wm]
   repeat refine⟨by omega,?_⟩
   apply hK;clear hK K;rw[hs2]
   apply zw (zk [6]);simp only[go_sem]
   apply zq
   refine zb fun K hK=>?_;simp only[go_sem];apply hK;clear hK K;apply zw (zk [6]);simp only[go_sem];apply ze;simp only[go_sem];exact⟨frzPL_tA _ _ _,by rw[frzL_tA]⟩
theorem value_ok {r:Rk}{s:Bool}{nums:List Int}{st:Nat}(h:VsOk r s nums st):∀ k,k≤3→ValC r s nums st k
 | 0,_=>value0_ok h
 | k+1,hk=>value1_ok h (by omega) (value_ok h k (by omega))
def zhA (r:Rk) (s:Bool) (nums:List Int) (st:Nat):Bool :=
 if s then decide (nums.getD st 0≤1000000+valA r s nums (nums.getD st 0) 3 st)
 else decide (1000000+valA r s nums (nums.getD st 0) 3 st≤nums.getD st 0) || decide (nums.getD st 0=2000000000)
def srch (f:Nat→Bool) (i j:Nat):Nat :=
 if h:i<j then (if f ((i+j) / 2) then srch f i ((i+j) / 2) else srch f ((i+j) / 2+1) j) else i
termination_by j-i
decreasing_by all_goals omega
theorem srch_spec (f:Nat→Bool) (i j:Nat) (hij:i≤j) (mono:∀ a b,i≤a→a≤b→b<j→f a=true→f b=true) :
 i≤srch f i j∧srch f i j≤j∧(∀ x,i≤x→x<srch f i j→f x=false)∧(srch f i j<j→f (srch f i j)=true):=by
 by_cases h:i<j
 ·rw[srch,dif_pos h]
  cases hf:f ((i+j) / 2)
  ·rw[if_neg (by simp)]
   obtain⟨h1,h2,h3,h4⟩:=srch_spec f ((i+j) / 2+1) j (by omega) fun a b q1 q2 q3 q4=>mono a b (by omega) q2 q3 q4
   refine⟨by omega,h2,fun x hx hx2=>?_,h4⟩
   by_cases hm:x≤(i+j) / 2
   ·cases hfx:f x
    ·rfl
    ·have:=mono x _ hx hm (by omega) hfx
     rw[hf] at this;cases this
   ·exact h3 x (by omega) hx2
  ·rw[if_pos rfl]
   obtain⟨h1,h2,h3,h4⟩:=srch_spec f i ((i+j) / 2) (by omega) fun a b q1 q2 q3 q4=>mono a b q1 q2 (by omega) q4
   refine⟨h1,by omega,h3,fun hlt=>?_⟩
   by_cases he:srch f i ((i+j) / 2)<(i+j) / 2
   ·exact h4 he
   ·have:srch f i ((i+j) / 2)=(i+j) / 2:=by omega
    rw[this];exact hf
 ·rw[srch,dif_neg h]
  exact⟨Nat.le_refl _,hij,fun x h1 h2=>by omega,fun h'=>by omega⟩
termination_by j-i
decreasing_by all_goals omega
def halv (f:Int→Bool) (good bad:Int):Int :=
 if h:1<max good bad-min good bad then
  (if f (min good bad+(max good bad-min good bad) / 2) then halv f (min good bad+(max good bad-min good bad) / 2) bad else halv f good (min good bad+(max good bad-min good bad) / 2))
 else good
termination_by (max good bad-min good bad).toNat
decreasing_by all_goals omega
theorem halv_up (f:Int→Bool) (good bad:Int) (h:bad<good) (mono:∀ a b,bad<a→a≤b→b<good→f a=true→f b=true) :
 bad<halv f good bad∧halv f good bad≤good∧(halv f good bad<good→f (halv f good bad)=true)∧∀ x,bad<x→x<halv f good bad→f x=false:=by
 rw[halv]
 have e1:max good bad=good:=by omega
 have e2:min good bad=bad:=by omega
 rw[e1,e2]
 split
 ·rename_i h1
  generalize hm:bad+(good-bad) / 2=m
  have hmr:bad<m∧m<good:=by omega
  cases hf:f m
  ·rw[if_neg (by simp)]
   obtain⟨g1,g2,g3,g4⟩:=halv_up f good m hmr.2 fun a b q1 q2 q3 q4=>mono a b (by omega) q2 q3 q4
   refine⟨by omega,g2,g3,fun x hx hx2=>?_⟩
   by_cases hxm:x≤m
   ·cases hfx:f x
    ·rfl
    ·have:=mono x m hx hxm hmr.2 hfx
     rw[hf] at this;cases this
   ·exact g4 x (by omega) hx2
  ·rw[if_pos rfl]
   obtain⟨g1,g2,g3,g4⟩:=halv_up f m bad hmr.1 fun a b q1 q2 q3 q4=>mono a b q1 q2 (by omega) q4
   refine⟨g1,by omega,fun hlt=>?_,g4⟩
   by_cases he:halv f m bad<m
   ·exact g3 he
   ·have:halv f m bad=m:=by omega
    rw[this];exact hf
 ·exact⟨h,Int.le_refl _,fun h'=>by omega,fun x q1 q2=>by omega⟩
termination_by (good-bad).toNat
decreasing_by all_goals omega
theorem halv_down (f:Int→Bool) (good bad:Int) (h:good<bad) (mono:∀ a b,good<a→a≤b→b<bad→f b=true→f a=true) :
 good≤halv f good bad∧halv f good bad<bad∧(good<halv f good bad→f (halv f good bad)=true)∧∀ x,halv f good bad<x→x<bad→f x=false:=by
 rw[halv]
 have e1:max good bad=bad:=by omega
 have e2:min good bad=good:=by omega
 rw[e1,e2]
 split
 ·rename_i h1
  generalize hm:good+(bad-good) / 2=m
  have hmr:good<m∧m<bad:=by omega
  cases hf:f m
  ·rw[if_neg (by simp)]
   obtain⟨g1,g2,g3,g4⟩:=halv_down f good m hmr.1 fun a b q1 q2 q3 q4=>mono a b q1 q2 (by omega) q4
   refine⟨g1,by omega,g3,fun x hx hx2=>?_⟩
   by_cases hxm:m≤x
   ·cases hfx:f x
    ·rfl
    ·have:=mono m x hmr.1 hxm hx2 hfx
     rw[hf] at this;cases this
   ·exact g4 x hx (by omega)
  ·rw[if_pos rfl]
   obtain⟨g1,g2,g3,g4⟩:=halv_down f m bad hmr.2 fun a b q1 q2 q3 q4=>mono a b (by omega) q2 q3 q4
   refine⟨by omega,g2,fun hlt=>?_,g4⟩
   by_cases he:m<halv f m bad
   ·exact g3 he
   ·have:halv f m bad=m:=by omega
    rw[this];exact hf
 ·exact⟨Int.le_refl _,h,fun h'=>by omega,fun x q1 q2=>by omega⟩
termination_by (bad-good).toNat
decreasing_by all_goals omega
def numA (r:Rk) (s:Bool) (nums:List Int) (st:Nat):Int :=
 if s then ((srch (fun k=>!zhA r s (nums.set st ((k:Int)+1)) st) 0 1000000000:Nat):Int)
 else if 1000000000<1000000+((srch (fun k=>zhA r s (nums.set st (1000000+(k:Int))) st) 0 999000001:Nat):Int) then 2000000000
 else 1000000+((srch (fun k=>zhA r s (nums.set st (1000000+(k:Int))) st) 0 999000001:Nat):Int)
def numB (r:Rk) (s:Bool) (nums:List Int) (st:Nat):Int :=
 let x:=if s then halv (fun n=>zhA r s (nums.set st n) st) 0 1000000001 else halv (fun n=>zhA r s (nums.set st n) st) 1000000001 999999
 if 1000000000<x then 2000000000 else x
theorem set_vok {nums:List Int}(h:∀ x∈nums,VOk x) (st:Nat) {n:Int}(hn:VOk n):∀ x∈nums.set st n,VOk x:=fun x hx=>by
 rcases List.mem_or_eq_of_mem_set hx with hx|rfl
 ·exact h x hx
 ·exact hn
theorem getD_set {nums:List Int}{st:Nat}(h:st<nums.length) (n:Int) (i:Nat):(nums.set st n).getD i 0=if st=i then n else nums.getD i 0:=by
 rw[List.getD_eq_getElem?_getD]
 split
 ·rename_i e;subst e;rw[List.getElem?_set_self h];rfl
 ·rename_i e;rw[List.getElem?_set_ne e,← List.getD_eq_getElem?_getD]
theorem val_step {r:Rk}(hr:ROk r) {s:Bool}{nums:List Int}{st:Nat}(hn:∀ x∈nums,VOk x) (hst:st<nums.length) (hlo:lowG r.out≤st) {n:Int}(h0:0≤n) (h1:n<1000000000) :
 LeV 1 (valA r s (nums.set st (n+1)) (n+1) 3 st) (valA r s (nums.set st n) n 3 st):=by
 refine valA_mono hr (by omega) (set_vok hn st (.inl ⟨by omega,by omega⟩)) (set_vok hn st (.inl ⟨by omega,by omega⟩)) (.inl ⟨by omega,by omega⟩) (.inl ⟨by omega,by omega⟩) (fun _=>⟨by omega,by omega⟩) (st:=st) (fun x _ _=>?_) 3 st hlo (Int.le_refl _)
 rw[getD_set hst,getD_set hst]
 split
 ·exact fun _=>⟨by omega,by omega⟩
 ·exact fun h=>⟨by omega,h⟩
theorem holds_up {r:Rk}(hr:ROk r) {nums:List Int}{st:Nat}(hn:∀ x∈nums,VOk x) (hst:st<nums.length) (hlo:lowG r.out≤st) {a b:Int}(h0:0≤a) (hab:a≤b) (h1:b≤1000000000) (ha:zhA r false (nums.set st a) st=true):zhA r false (nums.set st b) st=true:=by
 obtain⟨k,rfl⟩:∃ k:Nat,b=a+k:=⟨(b-a).toNat,by omega⟩
 clear hab
 induction k with
 | zero=>simpa using ha
 | succ k ih =>
   have ih:=ih (by omega)
   have hv:=val_step hr (s:=false) hn hst hlo (n:=a+k) (by omega) (by omega)
   have hle:=valA_le hr (s:=false) (set_vok hn st (n:=a+k) (.inl ⟨by omega,by omega⟩)) (own:=a+k) (.inl ⟨by omega,by omega⟩) 3 st
   have e:a+((k+1:Nat):Int)=a+k+1:=by omega
   rw[e]
   unfold zhA at ih ⊢
   simp only[getD_set hst,if_true,Bool.false_eq_true,if_false,Bool.or_eq_true,decide_eq_true_eq] at ih ⊢
   have h3:=hv (by omega)
   left;omega
theorem holds_down {r:Rk}(hr:ROk r) {nums:List Int}{st:Nat}(hn:∀ x∈nums,VOk x) (hst:st<nums.length) (hlo:lowG r.out≤st) {a b:Int}(h0:0≤a) (hab:a≤b) (h1:b≤1000000000) (ha:zhA r true (nums.set st b) st=true):zhA r true (nums.set st a) st=true:=by
 obtain⟨k,rfl⟩:∃ k:Nat,b=a+k:=⟨(b-a).toNat,by omega⟩
 clear hab
 induction k with
 | zero=>simpa using ha
 | succ k ih =>
   refine ih (by omega) ?_
   have hv:=val_step hr (s:=true) hn hst hlo (n:=a+k) (by omega) (by omega)
   have e:a+((k+1:Nat):Int)=a+k+1:=by omega
   rw[e] at ha
   unfold zhA at ha ⊢
   simp only[getD_set hst,if_true,decide_eq_true_eq] at ha ⊢
   by_cases hN:valA r true (nums.set st (a+k)) (a+k) 3 st=2000000000
   ·rw[hN];omega
   ·have:=hv hN;omega
theorem num_eq {r:Rk}(hr:ROk r) {s:Bool}{nums:List Int}{st:Nat}(hn:∀ x∈nums,VOk x) (hst:st<nums.length) (hlo:lowG r.out≤st):numA r s nums st=numB r s nums st:=by
 cases s
 ·obtain⟨h1,h2,h3,h4⟩:=srch_spec (fun k=>zhA r false (nums.set st (1000000+(k:Int))) st) 0 999000001 (by omega) fun a b q1 q2 q3 q4=>holds_up hr hn hst hlo (by omega) (by omega) (by omega) q4
  obtain⟨g1,g2,g3,g4⟩:=halv_up (fun n=>zhA r false (nums.set st n) st) 1000000001 999999 (by omega) fun a b q1 q2 q3 q4=>holds_up hr hn hst hlo (by omega) q2 (by omega) q4
  unfold numA numB
  simp only[Bool.false_eq_true,if_false]
  generalize srch (fun k=>zhA r false (nums.set st (1000000+(k:Int))) st) 0 999000001=k at *
  generalize halv (fun n=>zhA r false (nums.set st n) st) 1000000001 999999=x at *
  have:(1000000:Int)+k=x:=by
   rcases Int.lt_trichotomy (1000000+(k:Int)) x with h|h|h
   ·have e1:=g4 (1000000+(k:Int)) (by omega) h
    have e2:=h4 (by omega)
    exact absurd (e1.symm.trans e2) (by decide)
   ·exact h
   ·obtain⟨j,rfl⟩:∃ j:Nat,x=1000000+j:=⟨(x-1000000).toNat,by omega⟩
    have e1:=h3 j (by omega) (by omega)
    have e2:=g3 (by omega)
    exact absurd (e1.symm.trans e2) (by decide)
  rw[this]
 ·obtain⟨h1,h2,h3,h4⟩:=srch_spec (fun k=>!zhA r true (nums.set st ((k:Int)+1)) st) 0 1000000000 (by omega) fun a b q1 q2 q3 q4=>by
   simp only[Bool.not_eq_true'] at q4 ⊢
   cases hb:zhA r true (nums.set st ((b:Int)+1)) st
   ·rfl
   ·have:=holds_down hr hn hst hlo (a:=(a:Int)+1) (by omega) (by omega) (by omega) hb
    rw[q4] at this;cases this
  obtain⟨g1,g2,g3,g4⟩:=halv_down (fun n=>zhA r true (nums.set st n) st) 0 1000000001 (by omega) fun a b q1 q2 q3 q4=>holds_down hr hn hst hlo (by omega) q2 (by omega) q4
  unfold numA numB
  simp only[if_true]
  generalize srch (fun k=>!zhA r true (nums.set st ((k:Int)+1)) st) 0 1000000000=k at *
  generalize halv (fun n=>zhA r true (nums.set st n) st) 0 1000000001=x at *
  rw[if_neg (by omega)]
  rcases Int.lt_trichotomy (k:Int) x with h|h|h
  ·have e1:=g3 (by omega)
   have e2:=h4 (by omega)
   simp only[Bool.not_eq_true'] at e1 e2
   have:=holds_down hr hn hst hlo (a:=(k:Int)+1) (by omega) (by omega) (by omega) e1
   rw[e2] at this;cases this
  ·exact h
  ·have e1:=g4 k h (by omega)
   have e2:=h3 (k-1) (by omega) (by omega)
   have e:((k-1:Nat):Int)+1=k:=by omega
   simp only[Bool.not_eq_false'] at e1 e2
   rw[e,e1] at e2;cases e2
theorem numA_vok {r:Rk}(hr:ROk r) {s:Bool}{nums:List Int}{st:Nat}(hn:∀ x∈nums,VOk x) (hst:st<nums.length) (hlo:lowG r.out≤st):VOk (numA r s nums st):=by
 cases s
 ·have h2:=(srch_spec (fun k=>zhA r false (nums.set st (1000000+(k:Int))) st) 0 999000001 (by omega) fun a b q1 q2 q3 q4=>holds_up hr hn hst hlo (by omega) (by omega) (by omega) q4).2.1
  unfold numA VOk
  simp only[Bool.false_eq_true,if_false]
  split<;>omega
 ·have h2:=(srch_spec (fun k=>!zhA r true (nums.set st ((k:Int)+1)) st) 0 1000000000 (by omega) fun a b q1 q2 q3 q4=>by
   simp only[Bool.not_eq_true'] at q4 ⊢
   cases hb:zhA r true (nums.set st ((b:Int)+1)) st
   ·rfl
   ·have:=holds_down hr hn hst hlo (a:=(a:Int)+1) (by omega) (by omega) (by omega) hb
    rw[q4] at this;cases this).2.1
  unfold numA VOk
  simp only[if_true]
  omega
theorem numA_upper {r:Rk}(hr:ROk r) {nums:List Int}{st:Nat}(hn:∀ x∈nums,VOk x) (hst:st<nums.length) (hlo:lowG r.out≤st) {n:Int}(h0:1000000≤n∧n≤1000000000) (h1:zhA r false (nums.set st n) st=true) (h2:n=1000000∨zhA r false (nums.set st (n-1)) st=false):numA r false nums st=n:=by
 obtain⟨g1,g2,g3,g4⟩:=srch_spec (fun k=>zhA r false (nums.set st (1000000+(k:Int))) st) 0 999000001 (by omega) fun a b q1 q2 q3 q4=>holds_up hr hn hst hlo (by omega) (by omega) (by omega) q4
 unfold numA
 simp only[Bool.false_eq_true,if_false]
 generalize srch (fun k=>zhA r false (nums.set st (1000000+(k:Int))) st) 0 999000001=k at *
 have:(1000000:Int)+k=n:=by
  rcases Int.lt_trichotomy (1000000+(k:Int)) n with h|h|h
  ·have e:=g4 (by omega)
   rcases h2 with h2|h2
   ·omega
   ·have:=holds_up hr hn hst hlo (b:=n-1) (by omega) (by omega) (by omega) e
    rw[h2] at this;cases this
  ·exact h
  ·obtain⟨j,rfl⟩:∃ j:Nat,n=1000000+j:=⟨(n-1000000).toNat,by omega⟩
   have e:=g3 j (by omega) (by omega)
   exact absurd (h1.symm.trans e) (by decide)
 rw[this,if_neg (by omega)]
theorem numA_lower {r:Rk}(hr:ROk r) {nums:List Int}{st:Nat}(hn:∀ x∈nums,VOk x) (hst:st<nums.length) (hlo:lowG r.out≤st) {n:Int}(h0:0≤n∧n≤1000000000) (h1:n=0∨zhA r true (nums.set st n) st=true) (h2:n=1000000000∨zhA r true (nums.set st (n+1)) st=false):numA r true nums st=n:=by
 obtain⟨g1,g2,g3,g4⟩:=srch_spec (fun k=>!zhA r true (nums.set st ((k:Int)+1)) st) 0 1000000000 (by omega) fun a b q1 q2 q3 q4=>by
  simp only[Bool.not_eq_true'] at q4 ⊢
  cases hb:zhA r true (nums.set st ((b:Int)+1)) st
  ·rfl
  ·have:=holds_down hr hn hst hlo (a:=(a:Int)+1) (by omega) (by omega) (by omega) hb
   rw[q4] at this;cases this
 unfold numA
 simp only[if_true]
 generalize srch (fun k=>!zhA r true (nums.set st ((k:Int)+1)) st) 0 1000000000=k at *
 rcases Int.lt_trichotomy (k:Int) n with h|h|h
 ·have e:=g4 (by omega)
  simp only[Bool.not_eq_true'] at e
  rcases h1 with h1|h1
  ·omega
  ·have:=holds_down hr hn hst hlo (a:=(k:Int)+1) (by omega) (by omega) (by omega) h1
   rw[e] at this;cases this
 ·exact h
 ·obtain⟨j,rfl⟩:∃ j:Nat,n=j:=⟨n.toNat,by omega⟩
  have e:=g3 j (by omega) (by omega)
  simp only[Bool.not_eq_false'] at e
  rcases h2 with h2|h2
  ·omega
  ·rw[h2] at e;cases e
def tabA (r:Rk) (s:Bool):Nat→List Int
 | 0=>List.replicate (r.start+1).toNat 0
 | i+1=>(tabA r s i).set ((lowG r.out).toNat+i) (numA r s (tabA r s i) ((lowG r.out).toNat+i))
def tabB (r:Rk) (s:Bool):Nat→List Int
 | 0=>List.replicate (r.start+1).toNat 0
 | i+1=>(tabB r s i).set ((lowG r.out).toNat+i) (numB r s (tabB r s i) ((lowG r.out).toNat+i))
def cntA (r:Rk):Nat:=(r.start+1-lowG r.out).toNat
theorem tab_eq {r:Rk}(hr:ROk r) (s:Bool):∀ i,i≤cntA r→tabA r s i=tabB r s i∧(tabA r s i).length=(r.start+1).toNat∧∀ x∈tabA r s i,VOk x
 | 0,_=>⟨rfl,by simp [tabA],fun x hx=>.inl (by have:=List.eq_of_mem_replicate hx;omega)⟩
 | i+1, hi=>by
   obtain⟨h1,h2,h3⟩:=tab_eq hr s i (by omega)
   have hl:=lowG_le r.out
   have hs:=hr.start
   have hlen:(lowG r.out).toNat+i<(tabA r s i).length:=by rw[h2];unfold cntA at hi;omega
   have hlo:lowG r.out≤((lowG r.out).toNat+i:Nat):=by omega
   refine⟨?_,by simp [tabA,h2],?_⟩
   ·simp only[tabA,tabB];rw[num_eq hr h3 hlen hlo,h1]
   ·exact set_vok h3 _ (numA_vok hr h3 hlen hlo)
set_option maxHeartbeats 4000000
theorem from_ok (r:Rk) (s:Bool) (nums:List Int) (st:Nat):NCalls Tryz.prog 77 [.rp (tabC r s nums),i64 (st:Int)] [(8,.box (visA r s nums st (List.replicate 244 0)))] (.pt 8 0 0):=by
 have e:tA (List.replicate 244 0)=List.replicate 244 (AV.r (i64 0)):=by simp
 refine ncalls_st (n:=9) _ _ (.tmp 4) Tryz.func77 rfl (by kernel_rfl) Tryz.ntmps77 rfl (by simp) rfl rfl fun C hC=>?_
 apply zq
 refine zb fun K hK=>?_;simp only[go_sem,argL];apply hK;clear hK K
 apply zq
 refine zb fun K hK=>?_;simp only[go_sem,ty203];apply hK;clear hK K;apply zw (zk [4]);simp only[go_sem];apply ze
 try simp only[go_sem]
 rfl
theorem holds_ok {r:Rk}{s:Bool}{nums:List Int}{st:Nat}(h:VsOk r s nums st):ACalls Tryz.prog 119 [.rp (tabC r s nums),i64 (st:Int)] (.bo (zhA r s nums st)):=by
 have hst:=h.ok.start
 have hst2:=h.hi
 have hlg:=lowG_le r.out
 have hopt:=h.opt (x:=st) (by omega) (by omega)
 simp only[Int.toNat_natCast] at hopt
 have hnl:st<nums.length:=by rw[h.len];omega
 have hv:=(valM_ok h.ok h.nums h.own 3 (by omega) st (List.replicate 244 0) h.lo (by omega) (okK_zero r s nums (ownV nums st))).1
 have hcall:=value_ok h 3 (by omega) st (List.replicate 244 0) h.lo (Nat.le_refl _) (okK_zero r s nums (ownV nums st))
 rw[hv] at hcall
 generalize (valM r s nums (ownV nums st) 3 (st:Int) (List.replicate 244 0)).2=K' at hcall
 have hf:=from_ok r s nums st
 generalize List.replicate 244 (0:Int)=K0 at *
 have hb:=valA_le h.ok (s:=s) h.nums h.own 3 st
 have hH:zhA r s nums st=if s then decide (nums.getD st 0≤1000000+valA r s nums (ownV nums st) 3 st) else decide (1000000+valA r s nums (ownV nums st) 3 st≤nums.getD st 0) || decide (nums.getD st 0=2000000000):=rfl
 rw[hH]
 generalize valA r s nums (ownV nums st) 3 (st:Int)=v at *
 generalize nums.getD st 0=x at *
 have w1:IntKind.i64.wrap (1000000+v)=1000000+v:=by rw[zI]<;>omega
 refine zas (rs:=[.bo (if s then decide (x≤1000000+v) else decide (1000000+v≤x) || decide (x=2000000000))]) [.tmp 4] Tryz.func119 rfl (by kernel_rfl) Tryz.ntmps119 rfl (by simp) rfl fun C vs=>?_
 apply zq
 refine zb fun K hK=>?_;simp only[go_sem];apply hK;clear hK K;apply zw (zk [0,1]);simp only[go_sem]
 apply zq
 refine awp_long ?_
 refine sops_take 3 (by kernel_rfl) fun K hK=>?_
 simp only[go_sem,List.take_succ_cons,List.take_zero,List.drop_succ_cons,List.drop_zero,List.append_eq,List.cons_append,List.nil_append]
 refine xcall_new hf [(8,30)] rfl (by rfl) (by rfl) (by rfl) (by rfl) (by rfl) ?_
 simp only[go_sem,idK,backA,backC,backL,back_tA,pinOf,zLk]
 refine hK _ rfl ?_
 clear hK K
 refine sops_end (by kernel_rfl) fun K hK=>?_
 simp only[go_sem,List.drop_succ_cons,List.drop_zero,List.append_eq,List.cons_append,List.nil_append,w1]
 refine xcall_mut (hcall) [(1000,30)] rfl (by simp only[go_sem,i64,ints,lend_tA,back_tA,w1]) (by simp only[go_sem,i64,ints,lend_tA,back_tA,w1]) (by rfl) (by rfl) ?_
 (try simp only[go_sem,lend_tA,back_tA,w1]);apply hK;clear hK K;apply zw (zk [0,1,5]);simp only[go_sem]
 repeat apply zq
 refine zb fun K hK=>?_;simp only[go_sem];apply hK;clear hK K;apply zw (zk [0,1,5,16]);simp only[go_sem]
 cases s
 ·skip
  apply zc rfl<;>intro hc<;>(try simp only[go_sem] at hc)
  apply zx
  try simp only[go_sem]
  by_cases hle:1000000+v≤x
  ·have e1:decide (1000000+v≤x)=true:=by simpa using hle
   apply zq
   refine zb fun K hK=>?_;simp only[go_sem,hopt,hnl,e1];apply hK;clear hK K;apply zw (zk [4]);simp only[go_sem];apply ze;simp only[go_sem]
   first|(simp [e1];done)|(rw[Bool.eq_iff_iff];simp [e1])
  ·have e1:decide (1000000+v≤x)=false:=by simpa using hle
   apply zq
   refine zb fun K hK=>?_;simp only[go_sem,hopt,hnl,e1];apply hK;clear hK K;apply zw (zk [4]);simp only[go_sem];apply ze;simp only[go_sem]
   first|(simp [e1];done)|(rw[Bool.eq_iff_iff];simp [e1])
 ·have hss:=(rfl:true=true)
  apply zc rfl<;>intro hc<;>(try simp only[go_sem] at hc)
  ·apply zq
   refine zb fun K hK=>?_;simp only[go_sem,hopt,hnl];apply hK;clear hK K;apply zw (zk [4]);simp only[go_sem];apply ze;simp only[go_sem]
   try simp
  ·exact absurd rfl hc
theorem awp_while0 {P:Program}{C:Ctx}{c:Code}{Q:Exit→AS→Prop}{s:AS}{n:Nat}{α:Type}(F:α→(Nat→Nat)→List (Nat × AV)) (R:α→List (Nat × RowC)) (I:α→Prop) (m:α→Nat) (x0:α)
 (h0:Fit0 n (F x0) (R x0) s) (hI:I x0)
 (round:∀ x vs,Lent vs→I x→awp P C c (andThen (fun s'=>∃ y,I y∧m y<m x∧Fit0 n (F y) (R y) s') Q) (Go.Oc.st n (F x vs) vs (R x))):awp P C (.loop c) Q s:=by
 refine awp_loop (fun k s=>∃ x,I x∧m x=k∧Fit0 n (F x) (R x) s) (m x0) ⟨x0,hI,rfl,h0⟩ ?_
 rintro k s ⟨x,hx,rfl,vs,hv,hs⟩
 refine zw hs (awp_mono ?_ (round x vs hv hx))
 intro e s' hq
 cases e with
 | normal =>
   obtain⟨y,hy,hlt,hf⟩:=hq
   exact⟨m y,hlt,y,hy,rfl,hf⟩
 | _=>exact hq
def lastN (f:Nat→Bool) (i j:Nat) (x:Option Nat):Option Nat :=
 if h:i<j then (if f ((i+j) / 2) then lastN f i ((i+j) / 2) (some ((i+j) / 2)) else lastN f ((i+j) / 2+1) j (some ((i+j) / 2))) else x
termination_by j-i
decreasing_by all_goals omega
abbrev tabA' (r:Rk) (s:Bool) (len:Nat):List AV:=[.r (i64 r.d),.r (aimsR r.aims),.r (i64 r.start),.r (i64 r.out),.r (.bo s),.os 1001 0 1 0 len]
abbrev fillL (r:Rk) (s:Bool) (nums:List Int):List (Nat × RowC):=[(1000,.box (tabA' r s nums.length)),(1001,.arr 3 1 (arrV nums)),(1002,.box [.pt 1000 0 0])]
theorem tried_ok {r:Rk}{s:Bool}{nums:List Int}{st:Nat}(h:VsOk r s nums st) (n:Int) (hn:VOk n) :
 MCalls Tryz.prog 118 (fillL r s nums) (fillL r s (nums.set st n)) [.r (i64 n),.pt 1002 0 0,.r (.rp [i64 (st:Int)])] (.r (.bo (zhA r s (nums.set st n) st))):=by
 have hst:=h.ok.start
 have hst2:=h.hi
 have hlg:=lowG_le r.out
 have hlo:=h.lo
 have hnl:st<nums.length:=by rw[h.len];omega
 have hopt:=h.opt (x:=st) (by omega) (by omega)
 simp only[Int.toNat_natCast] at hopt
 have h':VsOk r s (nums.set st n) st:=⟨h.ok,by simp [h.len],set_vok h.nums st hn,h.lo,h.hi⟩
 have hh:=holds_ok h'
 have hset:(arrV nums).set st [RV.it IntKind.i64 n]=arrV (nums.set st n):=(arrV_set nums st n).symm
 have hlen:(nums.set st n).length=nums.length:=by simp
 refine mcalls_st (n:=15) (rs:=[.r (.bo (zhA r s (nums.set st n) st))]) _ _ [.tmp 4] Tryz.func118 rfl (by kernel_rfl) Tryz.ntmps118 rfl (by simp) rfl rfl fun C=>?_
 apply zq
 refine zb fun K hK=>?_;simp only[go_sem];apply hK;apply zw (zk [0,1,2]);simp only[go_sem]
 apply zq
 refine awp_dreg2 [(0,none),(1,some 1002),(2,none)] follows (by decide +kernel) (by kernel_rfl) (by simp only[keysOk,List.mem_cons,List.not_mem_nil,forall_eq_or_imp,Oc.keyOf,go_sem];simp) fun K hK=>?_
 simp only[go_sem,hnl,hopt,List.length_map];apply hK;rw[hset,← hlen]
 generalize nums.set st n=N at *
 apply zw (zk [1,2]);simp only[go_sem]
 have htk:(arrV N).take N.length=arrV N:=List.take_of_length_le (by simp)
 apply zq
 refine zb fun K hK=>?_;simp only[go_sem]
 refine zh (hh) rfl (by simp only[go_sem,i64,ints,htk,List.length_map,List.drop_zero]) (by simp only[go_sem,i64,ints,htk,List.length_map,List.drop_zero]) ?_
 (try simp only[go_sem,htk,List.length_map,List.drop_zero]);apply hK;apply zw (zk [4]);simp only[go_sem];apply ze;simp only[go_sem]
abbrev fillM (r:Rk) (s:Bool) (nums:List Int) (st:Nat):List (Nat × RowC):=fillL r s nums++[(1003,.box [.fn 118 [.pt 1002 0 0,.r (.rp [i64 (st:Int)])]])]
theorem down_ok {r:Rk}{s:Bool}{nums:List Int}{st:Nat}(h:VsOk r s nums st) (k:Nat) (hk:k<1000000000) :
 MCalls Tryz.prog 121 (fillM r s nums st) (fillM r s (nums.set st ((k:Int)+1)) st) [.r (i64 (k:Int)),.pt 1003 0 0] (.r (.bo (!zhA r s (nums.set st ((k:Int)+1)) st))):=by
 have hc:=tried_ok h ((k:Int)+1) (.inl ⟨by omega,by omega⟩)
 refine mcalls_st (n:=9) (rs:=[.r (.bo (!zhA r s (nums.set st ((k:Int)+1)) st))]) _ _ [.tmp 3] Tryz.func121 rfl (by kernel_rfl) Tryz.ntmps121 rfl (by simp) rfl rfl fun C=>?_
 have w1:IntKind.i64.wrap ((k:Int)+1)=(k:Int)+1:=by rw[zI]<;>omega
 apply zq
 refine zb fun K hK=>?_;simp only[go_sem];apply hK;apply zw (zk [0,1]);simp only[go_sem]
 apply zq
 refine zb fun K hK=>?_;simp only[go_sem,w1]
 refine xcall_mut (hc) [(1000,1000),(1001,1001),(1002,1002)] rfl (by simp only[go_sem,i64,ints]) (by simp only[go_sem,i64,ints]) (by rfl) (by rfl) ?_
 (try simp only[go_sem]);apply hK;apply zw (zk [3]);simp only[go_sem];apply ze;simp only[go_sem]
 rfl
theorem up_ok {r:Rk}{s:Bool}{nums:List Int}{st:Nat}(h:VsOk r s nums st) (k:Nat) (hk:k<999000001) :
 MCalls Tryz.prog 122 (fillM r s nums st) (fillM r s (nums.set st (1000000+(k:Int))) st) [.r (i64 (k:Int)),.pt 1003 0 0] (.r (.bo (zhA r s (nums.set st (1000000+(k:Int))) st))):=by
 have hc:=tried_ok h (1000000+(k:Int)) (.inl ⟨by omega,by omega⟩)
 refine mcalls_st (n:=8) (rs:=[.r (.bo (zhA r s (nums.set st (1000000+(k:Int))) st))]) _ _ [.tmp 3] Tryz.func122 rfl (by kernel_rfl) Tryz.ntmps122 rfl (by simp) rfl rfl fun C=>?_
 have w1:IntKind.i64.wrap (1000000+(k:Int))=1000000+(k:Int):=by rw[zI]<;>omega
 apply zq
 refine zb fun K hK=>?_;simp only[go_sem];apply hK;apply zw (zk [0,1]);simp only[go_sem]
 apply zq
 refine zb fun K hK=>?_;simp only[go_sem,w1]
 refine xcall_mut (hc) [(1000,1000),(1001,1001),(1002,1002)] rfl (by simp only[go_sem,i64,ints]) (by simp only[go_sem,i64,ints]) (by rfl) (by rfl) ?_
 (try simp only[go_sem]);apply hK;apply zw (zk [3]);simp only[go_sem];apply ze;simp only[go_sem]
 rfl
def setO (nums:List Int) (st:Nat) (m:Nat→Int):Option Nat→List Int
 | none=>nums
 | some k=>nums.set st (m k)
theorem setO_len (nums:List Int) (st:Nat) (m:Nat→Int) (o:Option Nat):(setO nums st m o).length=nums.length:=by cases o<;>simp [setO]
theorem setO_set (nums:List Int) (st:Nat) (m:Nat→Int) (o:Option Nat) (n:Int):(setO nums st m o).set st n=nums.set st n:=by cases o<;>simp [setO]
theorem search_ok {r:Rk}{s:Bool}{nums:List Int}{st:Nat}(F:Nat) (N:Nat) (hN:N≤1000000000) (f:Nat→Bool) (m:Nat→Int)
 (hf:∀ o k,(∀ q,o=some q→q<N)→k<N→MCalls Tryz.prog F (fillM r s (setO nums st m o) st) (fillM r s (setO nums st m (some k)) st) [.r (i64 (k:Int)),.pt 1003 0 0] (.r (.bo (f k)))) :
 MCalls Tryz.prog 120 (fillM r s nums st) (fillM r s (setO nums st m (lastN f 0 N none)) st) [.r (i64 (N:Int)),.fn F [.pt 1003 0 0]] (.r (i64 (srch f 0 N:Nat))):=by
 refine mcalls_st (n:=26) (rs:=[.r (i64 (srch f 0 N:Nat))]) _ _ [.tmp 4] Tryz.func120 rfl (by kernel_rfl) Tryz.ntmps120 rfl (by simp) rfl rfl fun C=>?_
 apply zq
 refine zb fun K hK=>?_;simp only[go_sem];apply hK;apply zw (zk [0,1]);simp only[go_sem]
 apply zq
 refine zb fun K hK=>?_;simp only[go_sem];apply hK;apply zw (zk [1,5,6]);simp only[go_sem]
 apply zq
 apply zd
 refine awp_while0 (n:=26) (α:=Nat × Nat × Option Nat) (fun x vs=>[(1,.fn F [.pt 1003 0 0]),(5,.r (i64 (x.1:Int))),(6,.r (i64 (x.2.1:Int)))])
  (fun x=>fillM r s (setO nums st m x.2.2) st) (fun x=>x.1≤x.2.1∧x.2.1≤N∧srch f x.1 x.2.1=srch f 0 N∧lastN f x.1 x.2.1 x.2.2=lastN f 0 N none∧∀ q,x.2.2=some q→q<N) (fun x=>x.2.1-x.1) (0,N,none) (fit0_of [] lent_zero ?_ ?_) ⟨Nat.zero_le _,Nat.le_refl _,rfl,rfl,fun q hq=>by cases hq⟩ ?_
 ·try simp only[go_sem]
 ·try simp only[go_sem]
  try rfl
 ·rintro ⟨i,j,o⟩ vs hvl ⟨hij,hjN,hs1,hs2,hq⟩
  have hv0:=hvl 1000 (by omega)
  have hv1:=hvl 1001 (by omega)
  have hv2:=hvl 1002 (by omega)
  have hv3:=hvl 1003 (by omega)
  simp only at hij hjN hs1 hs2 hq ⊢
  rw[srch] at hs1
  rw[lastN] at hs2
  repeat apply zq
  refine zb fun K hK=>?_;simp only[go_sem];apply hK;apply zw (zk [1,5,6,11]);simp only[go_sem]
  by_cases hlt:i<j
  ·rw[dif_pos hlt] at hs1 hs2
   have hm:(i+j) / 2<N:=by omega
   obtain⟨c,hcm⟩:∃ c,c=(i+j) / 2:=⟨_,rfl⟩
   rw[← hcm] at hs1 hs2 hm
   have hcall:=hf o c hq hm
   apply zc rfl<;>intro hc<;>(try simp only[go_sem] at hc)
   ·apply zx
    try simp only[go_sem]
    apply zd
    have wa:IntKind.i64.wrap ((i:Int)+j)=(i:Int)+j:=by rw[zI]<;>omega
    have wb:IntKind.u64.wrap ((i:Int)+j)=(i:Int)+j:=by
     show ((i:Int)+j) % 18446744073709551616=_
     omega
    have wsh:shrI IntKind.u64 ((i:Int)+j) 1=(c:Int):=by
     show ((i:Int)+j).fdiv 2=_
     rw[Int.fdiv_eq_ediv_of_nonneg _ (by omega)]
     omega
    have wc:IntKind.i64.wrap (c:Int)=c:=by rw[zI]<;>omega
    apply zq
    refine zb fun K hK=>?_;simp only[go_sem,wa,wb,wsh,wc];apply hK;apply zw (zk [1,5,6,7]);simp only[go_sem]
    apply zq
    refine zb fun K hK=>?_;simp only[go_sem]
    refine xcall_mut (hcall) [(1000,1000),(1001,1001),(1002,1002),(1003,1003)] rfl (by simp only[go_sem,i64,ints,hv0,hv1,hv2,hv3]) (by simp only[go_sem,i64,ints,hv0,hv1,hv2,hv3]) (by rfl) (by rfl) ?_
    (try simp only[go_sem,hv0,hv1,hv2,hv3]);apply hK;apply zw (zk [1,5,6,7,21]);simp only[go_sem]
    cases hfc:f c
    ·rw[hfc] at hs1 hs2
     simp only[Bool.false_eq_true,if_false] at hs1 hs2
     apply zc rfl<;>intro hc<;>(try simp only[go_sem] at hc)
     refine zb fun K hK=>?_;simp only[go_sem];(try simp (disch:=omega) only[zI]);apply hK
     try simp only[go_sem]
     refine⟨(c+1,j,some c),⟨by show c+1≤j;omega,hjN,hs1,hs2,fun q hq=>by injection hq with hq;omega⟩,by show j-(c+1)<j-i;omega,fit0_of [] (by intro j hj;(try simp only[upd]);(repeat' split);all_goals first|rfl|omega|exact hvl _ hj) ?_ ?_⟩
     ·try simp only[go_sem]
     ·try simp only[go_sem]
    ·rw[hfc] at hs1 hs2
     simp only[if_true] at hs1 hs2
     apply zc rfl<;>intro hc<;>(try simp only[go_sem] at hc)
     refine zb fun K hK=>?_;simp only[go_sem];apply hK
     try simp only[go_sem]
     refine⟨(i,c,some c),⟨by show i≤c;omega,by show c≤N;omega,hs1,hs2,fun q hq=>by injection hq with hq;omega⟩,by show c-i<j-i;omega,fit0_of [] (by intro j hj;(try simp only[upd]);(repeat' split);all_goals first|rfl|omega|exact hvl _ hj) ?_ ?_⟩
     ·try simp only[go_sem]
     ·try simp only[go_sem]
   ·exact absurd hlt hc
  ·rw[dif_neg hlt] at hs1 hs2
   apply zc rfl<;>intro hc<;>(try simp only[go_sem] at hc)
   ·exact absurd hc hlt
   apply zf;simp only[go_sem];rw[hs1,hs2]
   apply zq
   refine zb fun K hK=>?_;simp only[go_sem];apply hK;apply zw (zk [4]);simp only[go_sem];apply ze;simp only[go_sem]
   rfl
theorem VsOk.set {r:Rk}{s:Bool}{nums:List Int}{st:Nat}(h:VsOk r s nums st) {n:Int}(hn:VOk n):VsOk r s (nums.set st n) st:=⟨h.ok,by simp [h.len],set_vok h.nums st hn,h.lo,h.hi⟩
theorem VsOk.setO {r:Rk}{s:Bool}{nums:List Int}{st:Nat}(h:VsOk r s nums st) {m:Nat→Int}{N:Nat}(hm:∀ k,k<N→VOk (m k)):∀ o:Option Nat,(∀ q,o=some q→q<N)→VsOk r s (setO nums st m o) st
 | none,_=>h
 | some k,hq=>h.set (hm k (hq k rfl))
theorem srch_le (f:Nat→Bool) (i j:Nat) (h:i≤j):srch f i j≤j:=by
 rw[srch]
 split
 ·rename_i hlt
  split
  ·have:=srch_le f i ((i+j) / 2) (by omega);omega
  ·exact srch_le f ((i+j) / 2+1) j (by omega)
 ·exact h
termination_by j-i
decreasing_by all_goals omega
abbrev fillT (r:Rk) (s:Bool) (nums:List Int):List (Nat × RowC):=[(1000,.box (tabA' r s nums.length)),(1001,.arr 3 1 (arrV nums))]
theorem fill_ok {r:Rk}{s:Bool}{nums:List Int}{st:Nat}(h:VsOk r s nums st) :
 MCalls Tryz.prog 86 (fillT r s nums) (fillT r s (nums.set st (numA r s nums st))) [.pt 1000 0 0,.r (i64 (st:Int))] (.tu []):=by
 have hst:=h.ok.start
 have hst2:=h.hi
 have hlg:=lowG_le r.out
 have hlo:=h.lo
 have hnl:st<nums.length:=by rw[h.len];omega
 have hD:=search_ok (r:=r) (s:=s) (nums:=nums) (st:=st) (F:=121) 1000000000 (by omega) (fun k=>!zhA r s (nums.set st ((k:Int)+1)) st) (fun k=>(k:Int)+1) (fun o k hq hk=>by
  have:=down_ok (h.setO (m:=fun k=>(k:Int)+1) (N:=1000000000) (fun k hk=>.inl ⟨by omega,by omega⟩) o hq) k hk
  rw[setO_set] at this
  exact this)
 have hU:=search_ok (r:=r) (s:=s) (nums:=nums) (st:=st) (F:=122) 999000001 (by omega) (fun k=>zhA r s (nums.set st (1000000+(k:Int))) st) (fun k=>1000000+(k:Int)) (fun o k hq hk=>by
  have:=up_ok (h.setO (m:=fun k=>1000000+(k:Int)) (N:=999000001) (fun k hk=>.inl ⟨by omega,by omega⟩) o hq) k hk
  rw[setO_set] at this
  exact this)
 refine mcalls_st (n:=46) (rs:=[]) _ _ [] Tryz.func86 rfl (by kernel_rfl) Tryz.ntmps86 rfl (by simp) rfl rfl fun C=>?_
 apply zq
 refine zb fun K hK=>?_;simp only[go_sem];apply hK;refine zw (zfP 3 3 [i64 (st:Int)] (by omega) rfl rfl) ?_;apply zw (zk [2,3]);simp only[go_sem]
 apply zq
 refine zb fun K hK=>?_;simp only[go_sem];apply hK;apply zw (zk [2,3,4]);simp only[go_sem]
 repeat apply zq
 refine zb fun K hK=>?_;simp only[go_sem];apply hK;apply zw (zk [2,3,4,12]);simp only[go_sem]
 cases s
 ·skip
  apply zc rfl<;>intro hc<;>(try simp only[go_sem] at hc)
  apply zx
  try simp only[go_sem]
  have hA:numA r false nums st=if 1000000000<1000000+((srch (fun k=>zhA r false (nums.set st (1000000+(k:Int))) st) 0 999000001:Nat):Int) then 2000000000 else 1000000+((srch (fun k=>zhA r false (nums.set st (1000000+(k:Int))) st) 0 999000001:Nat):Int):=by unfold numA;rfl
  have hsb:=srch_le (fun k=>zhA r false (nums.set st (1000000+(k:Int))) st) 0 999000001 (by omega)
  rw[hA]
  apply zq
  refine zb fun K hK=>?_;simp only[go_sem]
  refine xcall_mut (hU) [(1000,1000),(1001,1001),(1002,2),(1003,4)] rfl (by simp only[go_sem,i64,ints]) (by simp only[go_sem,i64,ints]) (by rfl) (by rfl) ?_
  (try simp only[go_sem]);apply hK
  have hNl:=setO_len nums st (fun k=>1000000+(k:Int)) (lastN (fun k=>zhA r false (nums.set st (1000000+(k:Int))) st) 0 999000001 none)
  have hNs:=setO_set nums st (fun k=>1000000+(k:Int)) (lastN (fun k=>zhA r false (nums.set st (1000000+(k:Int))) st) 0 999000001 none)
  generalize srch (fun k=>zhA r false (nums.set st (1000000+(k:Int))) st) 0 999000001=n at *
  generalize setO nums st (fun k=>1000000+(k:Int)) (lastN (fun k=>zhA r false (nums.set st (1000000+(k:Int))) st) 0 999000001 none)=N1 at *
  have hN1:st<N1.length:=by omega
  obtain⟨y,hy⟩:=zol hN1
  have w1:IntKind.i64.wrap (1000000+(n:Int))=1000000+(n:Int):=by rw[zI]<;>omega
  have hset:∀ v:Int,(arrV N1).set st [RV.it IntKind.i64 v]=arrV (nums.set st v):=fun v=>by rw[← hNs v];exact (arrV_set N1 st v).symm
  apply zw (zk [2,3,6]);simp only[go_sem]
  apply zq
  refine awp_dreg2 [(2,some 2),(3,none),(6,none)] follows (by decide +kernel) (by kernel_rfl) (by simp only[keysOk,List.mem_cons,List.not_mem_nil,forall_eq_or_imp,Oc.keyOf,go_sem];simp) fun K hK=>?_
  simp only[go_sem,hy,hN1,w1,List.length_map];apply hK;rw[hset,hNl]
  have hlen2:(nums.set st (1000000+(n:Int))).length=nums.length:=by simp
  have hget2:(nums.set st (1000000+(n:Int)))[st]? = some (1000000+(n:Int)):=by rw[List.getElem?_set_self hnl]
  have hss2:∀ v:Int,(arrV (nums.set st (1000000+(n:Int)))).set st [RV.it IntKind.i64 v]=arrV (nums.set st v):=fun v=>by
   have:=(arrV_set (nums.set st (1000000+(n:Int))) st v).symm
   rw[List.set_set] at this
   exact this
  generalize hM:nums.set st (1000000+(n:Int))=M at *
  have hMl:st<M.length:=by omega
  apply zw (zk [2,3]);simp only[go_sem]
  apply zq
  refine awp_dreg2 [(2,some 2),(3,none)] follows (by decide +kernel) (by kernel_rfl) (by simp only[keysOk,List.mem_cons,List.not_mem_nil,forall_eq_or_imp,Oc.keyOf,go_sem];simp) fun K hK=>?_
  simp only[go_sem,hget2,hMl,List.length_map]
  refine⟨by omega,?_⟩
  apply hK;apply zw (zk [2,3,39]);simp only[go_sem]
  by_cases hbig:1000000000<1000000+(n:Int)
  ·rw[if_pos hbig]
   apply zc rfl<;>intro hc<;>(try simp only[go_sem] at hc)
   ·skip
    refine awp_dreg2 [(2,some 2),(3,none)] follows (by decide +kernel) (by kernel_rfl) (by simp only[keysOk,List.mem_cons,List.not_mem_nil,forall_eq_or_imp,Oc.keyOf,go_sem];simp) fun K hK=>?_
    simp only[go_sem,hget2,hMl,List.length_map]
    refine⟨by omega,?_⟩
    apply hK;rw[hss2]
    try simp only[go_sem]
    try simp
   ·exact absurd hbig hc
  ·rw[if_neg hbig]
   apply zc rfl<;>intro hc<;>(try simp only[go_sem] at hc)
   ·exact absurd hc hbig
   ·apply zx
    try simp only[go_sem]
    rw[hM]
    exact⟨by rw[hlen2],rfl⟩
 ·have hss:=(rfl:true=true)
  apply zc rfl<;>intro hc<;>(try simp only[go_sem] at hc)
  ·apply zq
   refine zb fun K hK=>?_;simp only[go_sem]
   refine xcall_mut (hD) [(1000,1000),(1001,1001),(1002,2),(1003,4)] rfl (by simp only[go_sem,i64,ints]) (by simp only[go_sem,i64,ints]) (by rfl) (by rfl) ?_
   (try simp only[go_sem]);apply hK
   have hNl:=setO_len nums st (fun k=>(k:Int)+1) (lastN (fun k=>!zhA r true (nums.set st ((k:Int)+1)) st) 0 1000000000 none)
   have hNs:=setO_set nums st (fun k=>(k:Int)+1) (lastN (fun k=>!zhA r true (nums.set st ((k:Int)+1)) st) 0 1000000000 none)
   have hA:numA r true nums st=((srch (fun k=>!zhA r true (nums.set st ((k:Int)+1)) st) 0 1000000000:Nat):Int):=by unfold numA;rfl
   rw[hA]
   generalize srch (fun k=>!zhA r true (nums.set st ((k:Int)+1)) st) 0 1000000000=n at *
   generalize setO nums st (fun k=>(k:Int)+1) (lastN (fun k=>!zhA r true (nums.set st ((k:Int)+1)) st) 0 1000000000 none)=N1 at *
   have hN1:st<N1.length:=by omega
   obtain⟨y,hy⟩:=zol hN1
   have hset:∀ v:Int,(arrV N1).set st [RV.it IntKind.i64 v]=arrV (nums.set st v):=fun v=>by rw[← hNs v];exact (arrV_set N1 st v).symm
   apply zw (zk [2,3,5]);simp only[go_sem]
   apply zq
   refine awp_dreg2 [(2,some 2),(3,none),(5,none)] follows (by decide +kernel) (by kernel_rfl) (by simp only[keysOk,List.mem_cons,List.not_mem_nil,forall_eq_or_imp,Oc.keyOf,go_sem];simp) fun K hK=>?_
   simp only[go_sem,hy,hN1,List.length_map];apply hK;rw[hset,hNl]
   apply zw (zk [2]);simp only[go_sem];apply ze;simp only[go_sem]
   try simp
  ·exact absurd rfl hc
def checkR (r:Rk):Int:=if checkV r.d r.aims=0 then (if (2≤r.start∧r.start≤60)∧0≤r.out∧r.out≤2 then 0 else 2) else checkV r.d r.aims
theorem seqOk_bed:∀ (l:List Bd) (p:Option Int),seqOk p l=true→∀ c∈l,c.b=0∨bedOk c.b=true
 | [],_,_=>fun c hc=>by cases hc
 | x::l, p, h=>fun c hc=>by
   simp only[seqOk,Bool.and_eq_true,Bool.or_eq_true,decide_eq_true_eq] at h
   rcases List.mem_cons.1 hc with rfl|hc
   ·exact h.1.1
   ·exact seqOk_bed l _ h.2 c hc
theorem checkR_zero {r:Rk}(h:checkR r=0):checkV r.d r.aims=0∧ROk r:=by
 have hc:checkV r.d r.aims=0:=by
  by_cases hc:checkV r.d r.aims=0
  ·exact hc
  ·unfold checkR at h;rw[if_neg hc] at h;exact (hc h).elim
 have hs:(2≤r.start∧r.start≤60)∧0≤r.out∧r.out≤2:=by
  unfold checkR at h
  rw[if_pos hc] at h
  split at h
  ·assumption
  ·cases h
 obtain⟨h1,h2,h3,h4,h5⟩:=checkV_zero hc
 refine⟨hc,fun a ha=>?_,h3,h1,hs.1,hs.2⟩
 obtain⟨g1,g2,g3,g4,g5,g6⟩:=aimOk_facts (h5 a ha)
 exact⟨h4,g4,g5,g6,h2 a ha,g2,seqOk_bed _ _ g3⟩
abbrev rkR (r:Rk):RV:=.ag [i64 r.d,aimsR r.aims,i64 r.start,i64 r.out]
end Go.Proofs.YtgfbenanljjgaaaGreat.Du.Th.Ai

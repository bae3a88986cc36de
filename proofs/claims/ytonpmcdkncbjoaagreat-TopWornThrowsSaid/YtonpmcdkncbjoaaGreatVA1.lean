/- Part 1 of the texts of this claim. -/
import Derived.WalkKit
import Derived.Maps.AppendAt
import Derived.RangeFuncLeaves
import Derived.RangeFuncRecord
import Derived.OrdersIn
import Derived.Laws.CopyRow
import Derived.Laws.StructEq
import Derived.ChangeKeysEq
namespace Go.Oc
open Go Go.RowKit
inductive RV where
 | un
 | bo (b:Bool)
 | it (k:IntKind) (n:Int)
 | ns
 | sl (sz:Nat) (es:List (List RV))
 | np
 | rp (cs:List RV)
 | ag (cs:List RV)
 | fn (f:FuncId) (caps:List RV)
 | nf
 | tu (vs:List RV)
 | st (s:ByteArray)
 | ud
 | yl (l:Nat)
 | sx (sz:Nat) (es:List (List RV))
 | vl (u:Addr)
 | bf (f:FuncId) (first:List RV)
 | nz
theorem block_add (a:Addr) (n:Nat):(a.add n).block=a.block:=by unfold Addr.add;split<;>rfl
theorem add_add (a:Addr) (i j:Nat):(a.add i).add j=a.add (i+j):=by
 unfold Addr.add
 by_cases hi:i=0<;>by_cases hj:j=0<;>simp [hi,hj,Nat.add_assoc]
theorem add_zero (a:Addr):a.add 0=a:=rfl
theorem add_at (b o j:Nat):(⟨b,o,none⟩:Addr).add j=⟨b,o+j,none⟩:=by
 unfold Addr.add;split<;>simp_all
mutual
def RV.rel (w:World) (R:Nat→Prop):RV→Value→Prop
 | .un,_=>True
 | .bo b,v=>v = .bool b
 | .it k n,v=>v = .int k n
 | .ns,v=>∃ A,v = .slice A 0 0
 | .sl sz es,v=>∃ A c,v = .slice A es.length c∧es.length≤c∧c≤maxLen∧(es≠[]→∃ ad,A=some ad∧R ad.block∧RV.relE w R sz es ad 0)
 | .np,v=>v = .pointer none
 | .rp cs,v=>∃ ad,v = .pointer (some ad)∧R ad.block∧RV.relC w R cs ad 0
 | .ag cs,v=>∃ vs,v = .agg vs∧(∀ u∈vs.toList,u.oneCell'=true)∧RV.relV w R cs vs.toList
 | .fn f caps,v=>∃ vs,v = .func (.func f) #[] vs∧RV.relV w R caps vs.toList
 | .nf,v=>v = .nilFunc
 | .nz,v=>v = .slice none 0 0
 | .tu xs,v=>∃ vs,v = .tuple vs∧RV.relV w R xs vs.toList
 | .st s,v=>v = .string s
 | .ud,v=>v=undef
 | .yl l,v=>v = .func (.yield l) #[] #[]
 | .sx sz es,v=>∃ ad,v = .slice (some ad) es.length es.length∧es≠[]∧es.length≤maxLen∧R ad.block∧RV.relE w R sz es ad 0
 | .vl u,v=>v = .pointer (some u)
 | .bf f bs,v=>∃ vs,v = .func (.func f) vs #[]∧RV.relV w R bs vs.toList
def RV.relV (w:World) (R:Nat→Prop):List RV→List Value→Prop
 | [],vs=>vs=[]
 | x::xs,vs=>∃ u us,vs=u::us∧x.rel w R u∧RV.relV w R xs us
def RV.relC (w:World) (R:Nat→Prop):List RV→Addr→Nat→Prop
 | [],_,_=>True
 | x::xs,ad,j=>(∃ u,w.cell? (ad.add j)=some u∧u.oneCell'=true∧x.rel w R u)∧RV.relC w R xs ad (j+1)
def RV.relE (w:World) (R:Nat→Prop) (sz:Nat):List (List RV)→Addr→Nat→Prop
 | [],_,_=>True
 | e::es,ad,j=>e.length=sz∧RV.relC w R e ad j∧RV.relE w R sz es ad (j+sz)
end
section
variable {w w':World}{R R':Nat→Prop}
mutual
theorem RV.rel_mono (hR:∀ b,R b→R' b) (hw:∀ a:Addr,R a.block→w'.cell? a=w.cell? a):∀ (x:RV) (v:Value),x.rel w R v→x.rel w' R' v
 | .un,_,_=>by simp only[RV.rel]
 | .bo _,_,h=>by simpa only[RV.rel] using h
 | .it _ _,_,h=>by simpa only[RV.rel] using h
 | .ns,_,h=>by simpa only[RV.rel] using h
 | .sl sz es, v, h=>by
   simp only[RV.rel] at h ⊢
   obtain⟨A,c,hv,h1,h2,h3⟩:=h
   exact⟨A,c,hv,h1,h2,fun hne=>by obtain⟨ad,e,hr,hc⟩:=h3 hne;exact⟨ad,e,hR _ hr,RV.relE_mono hR hw sz es ad 0 (fun j=>hw _ (by rw[block_add];exact hr)) hc⟩⟩
 | .np,_,h=>by simpa only[RV.rel] using h
 | .rp cs, v, h=>by
   simp only[RV.rel] at h ⊢
   obtain⟨ad,hv,hr,hc⟩:=h
   exact⟨ad,hv,hR _ hr,RV.relC_mono hR hw cs ad 0 (fun j=>hw _ (by rw[block_add];exact hr)) hc⟩
 | .ag cs, v, h=>by
   simp only[RV.rel] at h ⊢
   obtain⟨vs,hv,ho,hc⟩:=h
   exact⟨vs,hv,ho,RV.relV_mono hR hw cs _ hc⟩
 | .fn f cs, v, h=>by
   simp only[RV.rel] at h ⊢
   obtain⟨vs,hv,hc⟩:=h
   exact⟨vs,hv,RV.relV_mono hR hw cs _ hc⟩
 | .nf,_,h=>by simpa only[RV.rel] using h
 | .nz,_,h=>by simpa only[RV.rel] using h
 | .tu cs, v, h=>by
   simp only[RV.rel] at h ⊢
   obtain⟨vs,hv,hc⟩:=h
   exact⟨vs,hv,RV.relV_mono hR hw cs _ hc⟩
 | .st _,_,h=>by simpa only[RV.rel] using h
 | .ud,_,h=>by simpa only[RV.rel] using h
 | .yl _,_,h=>by simpa only[RV.rel] using h
 | .vl _,_,h=>by simpa only[RV.rel] using h
 | .bf f cs, v, h=>by
   simp only[RV.rel] at h ⊢
   obtain⟨vs,hv,hc⟩:=h
   exact⟨vs,hv,RV.relV_mono hR hw cs _ hc⟩
 | .sx sz es, v, h=>by
   simp only[RV.rel] at h ⊢
   obtain⟨ad,hv,h1,h2,hr,hc⟩:=h
   exact⟨ad,hv,h1,h2,hR _ hr,RV.relE_mono hR hw sz es ad 0 (fun j=>hw _ (by rw[block_add];exact hr)) hc⟩
theorem RV.relV_mono (hR:∀ b,R b→R' b) (hw:∀ a:Addr,R a.block→w'.cell? a=w.cell? a):∀ (xs:List RV) (vs:List Value),RV.relV w R xs vs→RV.relV w' R' xs vs
 | [],_,h=>by simpa only[RV.relV] using h
 | x::xs, vs, h=>by
   simp only[RV.relV] at h ⊢
   obtain⟨u,us,hv,h1,h2⟩:=h
   exact⟨u,us,hv,RV.rel_mono hR hw x u h1,RV.relV_mono hR hw xs us h2⟩
theorem RV.relC_mono (hR:∀ b,R b→R' b) (hw:∀ a:Addr,R a.block→w'.cell? a=w.cell? a):∀ (xs:List RV) (ad:Addr) (j:Nat),(∀ j,w'.cell? (ad.add j)=w.cell? (ad.add j))→RV.relC w R xs ad j→RV.relC w' R' xs ad j
 | [],_,_,_,_=>by simp only[RV.relC]
 | x::xs, ad, j, hr, h=>by
   simp only[RV.relC] at h ⊢
   obtain⟨⟨u,hu,ho,h1⟩,h2⟩:=h
   exact⟨⟨u,(hr _).trans hu,ho,RV.rel_mono hR hw x u h1⟩,RV.relC_mono hR hw xs ad (j+1) hr h2⟩
theorem RV.relE_mono (hR:∀ b,R b→R' b) (hw:∀ a:Addr,R a.block→w'.cell? a=w.cell? a):∀ (sz:Nat) (es:List (List RV)) (ad:Addr) (j:Nat),(∀ j,w'.cell? (ad.add j)=w.cell? (ad.add j))→RV.relE w R sz es ad j→RV.relE w' R' sz es ad j
 | _,[],_,_,_,_=>by simp only[RV.relE]
 | sz, e::es, ad, j, hr, h=>by
   simp only[RV.relE] at h ⊢
   exact⟨h.1,RV.relC_mono hR hw e ad j hr h.2.1,RV.relE_mono hR hw sz es ad (j+sz) hr h.2.2⟩
end
theorem RV.relV_length:∀ {xs:List RV}{vs:List Value},RV.relV w R xs vs→vs.length=xs.length
 | [],_,h=>by simp only[RV.relV] at h;subst h;rfl
 | x::xs, vs, h=>by
   simp only[RV.relV] at h
   obtain⟨u,us,rfl,_,h2⟩:=h
   simp [RV.relV_length h2]
theorem RV.relV_append:∀ {xs ys:List RV}{us vs:List Value},RV.relV w R xs us→RV.relV w R ys vs→RV.relV w R (xs++ys) (us++vs)
 | [],_,_,_,h,h'=>by simp only[RV.relV] at h;subst h;simpa using h'
 | x::xs, ys, us, vs, h, h'=>by
   simp only[RV.relV] at h
   obtain⟨u,us,rfl,h1,h2⟩:=h
   simp only[List.cons_append,RV.relV];exact⟨u,_,rfl,h1,RV.relV_append h2 h'⟩
theorem RV.relV_get:∀ {xs:List RV}{vs:List Value}{i:Nat}{x:RV},RV.relV w R xs vs→xs[i]? = some x→∃ u,vs[i]? = some u∧x.rel w R u
 | [],_,_,_,_,hx=>by simp at hx
 | y::xs, vs, i, x, h, hx=>by
   simp only[RV.relV] at h
   obtain⟨u,us,rfl,h1,h2⟩:=h
   cases i with
   | zero=>simp at hx;subst hx;exact⟨u,by simp,h1⟩
   | succ i=>simp at hx;simpa using RV.relV_get h2 hx
theorem RV.relV_drop:∀ {xs:List RV}{vs:List Value}(n:Nat),RV.relV w R xs vs→RV.relV w R (xs.drop n) (vs.drop n)
 | [],vs,n,h=>by simp only[RV.relV] at h;subst h;simp [RV.relV]
 | x::xs, vs, n, h=>by
   cases n with
   | zero=>exact h
   | succ n =>
     simp only[RV.relV] at h
     obtain⟨u,us,rfl,_,h2⟩:=h
     exact RV.relV_drop n h2
theorem RV.relV_take:∀ {xs:List RV}{vs:List Value}(n:Nat),RV.relV w R xs vs→RV.relV w R (xs.take n) (vs.take n)
 | [],vs,n,h=>by simp only[RV.relV] at h;subst h;simp [RV.relV]
 | x::xs, vs, n, h=>by
   cases n with
   | zero=>simp [RV.relV]
   | succ n =>
     simp only[RV.relV] at h
     obtain⟨u,us,rfl,h1,h2⟩:=h
     simp only[List.take_succ_cons,RV.relV];exact⟨u,_,rfl,h1,RV.relV_take n h2⟩
theorem RV.relC_get:∀ {xs:List RV}{ad:Addr}{j i:Nat}{x:RV},RV.relC w R xs ad j→xs[i]? = some x→∃ u,w.cell? (ad.add (j+i))=some u∧u.oneCell'=true∧x.rel w R u
 | [],_,_,_,_,_,hx=>by simp at hx
 | y::xs, ad, j, i, x, h, hx=>by
   simp only[RV.relC] at h
   obtain⟨⟨u,hu,ho,h1⟩,h2⟩:=h
   cases i with
   | zero=>simp at hx;subst hx;exact⟨u,by simpa using hu,ho,h1⟩
   | succ i =>
     simp at hx
     have:=RV.relC_get h2 hx
     rwa [show j+1+i=j+(i+1) from by omega] at this
theorem RV.relC_drop:∀ {xs:List RV}{ad:Addr}{j:Nat}(n:Nat),RV.relC w R xs ad j→RV.relC w R (xs.drop n) (ad.add n) j
 | [],ad,j,n,h=>by simp [RV.relC]
 | x::xs,ad,j,0,h=>by simpa [add_zero] using h
 | x::xs, ad, j, n+1, h=>by
   simp only[RV.relC] at h
   have h3:=RV.relC_shift xs ad j h.2
   have:=RV.relC_drop n h3
   rw[add_add,Nat.add_comm 1 n] at this
   simpa using this
 where RV.relC_shift:∀ (xs:List RV) (ad:Addr) (j:Nat),RV.relC w R xs ad (j+1)→RV.relC w R xs (ad.add 1) j
 | [],_,_,_=>by simp [RV.relC]
 | x::xs, ad, j, h=>by
   simp only[RV.relC] at h ⊢
   refine⟨?_,RV.relC_shift xs ad (j+1) h.2⟩
   rw[add_add,Nat.add_comm 1 j]
   exact h.1
theorem RV.relC_take:∀ {xs:List RV}{ad:Addr}{j:Nat}(n:Nat),RV.relC w R xs ad j→RV.relC w R (xs.take n) ad j
 | [],ad,j,n,h=>by simp [RV.relC]
 | x::xs,ad,j,0,h=>by simp [RV.relC]
 | x::xs, ad, j, n+1, h=>by
   simp only[RV.relC] at h
   simp only[List.take_succ_cons,RV.relC];exact⟨h.1,RV.relC_take n h.2⟩
theorem RV.relC_of_get:∀ {xs:List RV}{ad:Addr}{j:Nat},(∀ i x,xs[i]? = some x→∃ u,w.cell? (ad.add (j+i))=some u∧u.oneCell'=true∧x.rel w R u)→RV.relC w R xs ad j
 | [],_,_,_=>by simp [RV.relC]
 | x::xs, ad, j, h=>by
   simp only[RV.relC]
   refine⟨by simpa using h 0 x (by simp),RV.relC_of_get fun i y hy=>?_⟩
   have:=h (i+1) y (by simpa using hy)
   rwa [show j+(i+1)=j+1+i from by omega] at this
theorem RV.relE_get:∀ {sz:Nat}{es:List (List RV)}{ad:Addr}{j i:Nat}{e:List RV},RV.relE w R sz es ad j→es[i]? = some e→e.length=sz∧RV.relC w R e ad (j+i*sz)
 | _,[],_,_,_,_,_,hx=>by simp at hx
 | sz, y::es, ad, j, i, e, h, hx=>by
   simp only[RV.relE] at h
   obtain⟨hl,h1,h2⟩:=h
   cases i with
   | zero=>simp at hx;subst hx;exact⟨hl,by simpa using h1⟩
   | succ i =>
     simp at hx
     have:=RV.relE_get h2 hx
     rwa [show j+sz+i*sz=j+(i+1)*sz from by rw[Nat.add_mul];omega] at this
theorem RV.relC_base:∀ {xs:List RV}{ad:Addr}{j:Nat}(n:Nat),RV.relC w R xs ad (j+n)→RV.relC w R xs (ad.add n) j
 | [],_,_,_,_=>by simp [RV.relC]
 | x::xs, ad, j, n, h=>by
   simp only[RV.relC] at h ⊢
   refine⟨?_,RV.relC_base n ?_⟩
   ·rw[add_add,Nat.add_comm n j];exact h.1
   ·rw[show j+1+n=j+n+1 from by omega];exact h.2
theorem RV.relC_unbase:∀ {xs:List RV}{ad:Addr}{j:Nat}(n:Nat),RV.relC w R xs (ad.add n) j→RV.relC w R xs ad (j+n)
 | [],_,_,_,_=>by simp [RV.relC]
 | x::xs, ad, j, n, h=>by
   simp only[RV.relC] at h ⊢
   refine⟨?_,?_⟩
   ·have:=h.1;rwa [add_add,Nat.add_comm n j] at this
   ·have:=RV.relC_unbase n h.2;rwa [show j+1+n=j+n+1 from by omega] at this
theorem RV.relE_of_get:∀ {sz:Nat}{es:List (List RV)}{ad:Addr}{j:Nat},(∀ i e,es[i]? = some e→e.length=sz∧RV.relC w R e ad (j+i*sz))→RV.relE w R sz es ad j
 | _,[],_,_,_=>by simp [RV.relE]
 | sz, e::es, ad, j, h=>by
   simp only[RV.relE]
   have h0:=h 0 e (by simp)
   refine⟨h0.1,by simpa using h0.2,RV.relE_of_get fun i y hy=>?_⟩
   have:=h (i+1) y (by simpa using hy)
   rwa [show j+(i+1)*sz=j+sz+i*sz from by rw[Nat.add_mul];omega] at this
end
inductive AV where
 | r (v:RV)
 | pt (k ver off:Nat)
 | pe (k ver sz idx off:Nat)
 | os (k ver sz off n:Nat)
 | mp (k ver:Nat)
 | mi (k ver:Nat)
 | pu (k ver:Nat) (u:Addr)
 | fn (f:FuncId) (caps:List AV)
 | ag (cs:List AV)
 | tu (vs:List AV)
inductive RowC where
 | dead
 | box (cs:List AV)
 | arr (t sz:Nat) (es:List (List RV))
 | arc (t sz:Nat) (es:List (List RV)) (c:Nat)
 | ara (t sz:Nat) (cs:List AV)
 | mp (m:List (RV × RV))
 | mpi (m:List (RV × RV))
 | mpx (m:List (RV × RV)) (bs:List Nat) (cl:Nat)
 | mem (Φ:List (RV × RV)→Prop)
 | mi (km ver:Nat) (left:List (RV × RV)) (cur:Option (RV × RV))
 | gh (P:Program) (l:Nat) (z:Bool) (left:Option (List (List RV)))
 | sus (cs:List AV) (vs:List Value)
def RowC.boxOf:RowC→Option (List AV)
 | .box cs=>some cs
 | .ara _ _ cs=>some cs
 | _=>none
def RowC.isMi:RowC→Bool
 | .mi ..=>true
 | _=>false
def RowC.isMpi:RowC→Bool
 | .mpi _=>true
 | _=>false
structure Row where
 ver:Nat
 c:RowC
structure XS where
 l:Nat
 z:Bool
 n0:Nat
 R:Nat→Prop
 X:Option (List (List RV))→World→(Nat→Prop)→(Nat→Prop)→Prop
 st:∀ {o:Option (List (List RV))}{w w':World}{Ψ Θ:Nat→Prop},X o w Ψ Θ→w'.os=w.os→w'.tape=w.tape→w'.output=w.output→w.heap.size≤w'.heap.size→(∀ b,Ψ b→w'.heap[b]? = w.heap[b]?)→X o w' Ψ Θ
def XS.none:XS:=⟨0,true,0,fun _=>False,fun _ _ _ _=>False,fun h _ _ _ _ _=>h⟩
def YOk (P:Program) (X:XS):Prop :=
 ∀ (e:List RV) (rest:List (List RV)) (w:World) (Ψ Θ R:Nat→Prop) (vs:Array Value), X.X (some (e::rest)) w Ψ Θ→(∀ b, R b→b<w.heap.size∧¬ Θ b∧(X.R b∨X.n0≤b))→RV.relV w R e vs.toList →
   ∃ fn tmps assign body, (Instr.yield X.l vs).run P w = .ok (.round X.l fn tmps assign body) w∧RoundIn Fence.wide 0 P X.l fn tmps assign body w fun en w' =>
     w'.os=w.os∧w'.tape=w.tape∧w'.output=w.output∧w.heap.size≤w'.heap.size∧(∀ b,b<w.heap.size→¬ Θ b→w'.heap[b]? = w.heap[b]?) ∧
     ∃ Ψ' Θ':Nat→Prop,(∀ b,Ψ' b→Ψ b∨R b∨w.heap.size≤b)∧(∀ b,Θ' b→Θ b∨w.heap.size≤b)∧(∀ b,Ψ' b→b<w'.heap.size)∧(∀ b,Θ' b→b<w'.heap.size) ∧
     ((en = .returned (.bool true)∧X.X (some rest) w' Ψ' Θ')∨(en = .returned (.bool false)∧X.X Option.none w' Ψ' Θ'))
structure Plan where
 R:Nat→Prop
 β:Nat→Option Nat
 γ:Nat→Nat
 X:XS:=XS.none
 Ψ:Nat→Prop:=fun _=>False
 Θ:Nat→Prop:=fun _=>False
mutual
def AV.rel (w:World) (p:Plan) (ver:Nat→Nat):AV→Value→Prop
 | .r x,v=>x.rel w p.R v
 | .pt k n off,v=>n≤ver k∧(n=ver k→∃ b,p.β k=some b∧v = .pointer (some ⟨b,off,none⟩))
 | .pe k n sz idx off,v=>n≤ver k∧(n=ver k→∃ b,p.β k=some b∧v = .pointer (some ⟨b,idx*sz+off,none⟩))
 | .os k n sz off m,v=>n≤ver k∧(n=ver k→(p.β k=none∧p.γ k=0∧off=0∧m=0∧∃ A,v = .slice A 0 0) ∨
  ∃ b A,p.β k=some b∧v = .slice A m (p.γ k-off)∧off+m≤p.γ k∧((0<m∨off=0)→A=some ⟨b,off*sz,none⟩))
 | .mp k n,v=>n≤ver k∧(n=ver k→∃ b,p.β k=some b∧v = .map (some b))
 | .mi k n,v=>n≤ver k∧(n=ver k→∃ b,p.β k=some b∧v = .pointer (some ⟨b,0,none⟩))
 | .pu k n u,v=>v = .pointer (some u)∧n≤ver k∧(n=ver k→∃ b,p.β k=some b∧v = .pointer (some ⟨b,0,none⟩))
 | .fn f cs,v=>∃ vs,v = .func (.func f) #[] vs∧AV.relV w p ver cs vs.toList
 | .ag cs,v=>∃ vs,v = .agg vs∧(∀ u∈vs.toList,u.oneCell'=true)∧AV.relV w p ver cs vs.toList
 | .tu cs,v=>∃ vs,v = .tuple vs∧AV.relV w p ver cs vs.toList
def AV.relV (w:World) (p:Plan) (ver:Nat→Nat):List AV→List Value→Prop
 | [],vs=>vs=[]
 | x::xs,vs=>∃ u us,vs=u::us∧x.rel w p ver u∧AV.relV w p ver xs us
end
structure Kept (w w':World) (p p':Plan) (ver ver':Nat→Nat):Prop where
 R:∀ b,p.R b→p'.R b
 cell:∀ a:Addr,p.R a.block→w'.cell? a=w.cell? a
 le:∀ k,ver k≤ver' k
 same:∀ k,ver' k=ver k→p'.β k=p.β k∧p'.γ k=p.γ k
def KX (w w':World) (p p':Plan):Prop :=
 p'.X=p.X∧p'.Ψ=p.Ψ∧p'.Θ=p.Θ∧w'.os=w.os∧w'.tape=w.tape∧w'.output=w.output∧w.heap.size≤w'.heap.size∧∀ b,p.Ψ b→w'.heap[b]? = w.heap[b]?
section
variable {w w':World}{p p':Plan}{ver ver':Nat→Nat}
mutual
theorem AV.rel_mono (h:Kept w w' p p' ver ver'):∀ (x:AV) (v:Value),x.rel w p ver v→x.rel w' p' ver' v
 | .r x,v,hx=>by simp only[AV.rel] at hx ⊢;exact RV.rel_mono h.R h.cell x v hx
 | .pt k n off, v, hx=>by
   simp only[AV.rel] at hx ⊢
   refine⟨Nat.le_trans hx.1 (h.le k),fun e=>?_⟩
   have e1:n=ver k:=Nat.le_antisymm hx.1 (e▸h.le k)
   obtain⟨hβ,_⟩:=h.same k (e▸e1)
   rw[hβ];exact hx.2 e1
 | .pe k n sz idx off, v, hx=>by
   simp only[AV.rel] at hx ⊢
   refine⟨Nat.le_trans hx.1 (h.le k),fun e=>?_⟩
   have e1:n=ver k:=Nat.le_antisymm hx.1 (e▸h.le k)
   obtain⟨hβ,_⟩:=h.same k (e▸e1)
   rw[hβ];exact hx.2 e1
 | .os k n sz off m, v, hx=>by
   simp only[AV.rel] at hx ⊢
   refine⟨Nat.le_trans hx.1 (h.le k),fun e=>?_⟩
   have e1:n=ver k:=Nat.le_antisymm hx.1 (e▸h.le k)
   obtain⟨hβ,hγ⟩:=h.same k (e▸e1)
   rw[hβ,hγ];exact hx.2 e1
 | .mp k n, v, hx=>by
   simp only[AV.rel] at hx ⊢
   refine⟨Nat.le_trans hx.1 (h.le k),fun e=>?_⟩
   have e1:n=ver k:=Nat.le_antisymm hx.1 (e▸h.le k)
   obtain⟨hβ,_⟩:=h.same k (e▸e1)
   rw[hβ];exact hx.2 e1
 | .mi k n, v, hx=>by
   simp only[AV.rel] at hx ⊢
   refine⟨Nat.le_trans hx.1 (h.le k),fun e=>?_⟩
   have e1:n=ver k:=Nat.le_antisymm hx.1 (e▸h.le k)
   obtain⟨hβ,_⟩:=h.same k (e▸e1)
   rw[hβ];exact hx.2 e1
 | .pu k n u, v, hx=>by
   simp only[AV.rel] at hx ⊢
   refine⟨hx.1,Nat.le_trans hx.2.1 (h.le k),fun e=>?_⟩
   have e1:n=ver k:=Nat.le_antisymm hx.2.1 (e▸h.le k)
   obtain⟨hβ,_⟩:=h.same k (e▸e1)
   rw[hβ];exact hx.2.2 e1
 | .fn f cs, v, hx=>by
   simp only[AV.rel] at hx ⊢
   obtain⟨vs,hv,hc⟩:=hx
   exact⟨vs,hv,AV.relV_mono h cs _ hc⟩
 | .ag cs, v, hx=>by
   simp only[AV.rel] at hx ⊢
   obtain⟨vs,hv,ho,hc⟩:=hx
   exact⟨vs,hv,ho,AV.relV_mono h cs _ hc⟩
 | .tu cs, v, hx=>by
   simp only[AV.rel] at hx ⊢
   obtain⟨vs,hv,hc⟩:=hx
   exact⟨vs,hv,AV.relV_mono h cs _ hc⟩
theorem AV.relV_mono (h:Kept w w' p p' ver ver'):∀ (xs:List AV) (vs:List Value),AV.relV w p ver xs vs→AV.relV w' p' ver' xs vs
 | [],_,hx=>by simpa only[AV.relV] using hx
 | x::xs, vs, hx=>by
   simp only[AV.relV] at hx ⊢
   obtain⟨u,us,hv,h1,h2⟩:=hx
   exact⟨u,us,hv,AV.rel_mono h x u h1,AV.relV_mono h xs us h2⟩
end
theorem AV.relV_length:∀ {xs:List AV}{vs:List Value},AV.relV w p ver xs vs→vs.length=xs.length
 | [],_,h=>by simp only[AV.relV] at h;subst h;rfl
 | x::xs, vs, h=>by
   simp only[AV.relV] at h
   obtain⟨u,us,rfl,_,h2⟩:=h
   simp [AV.relV_length h2]
theorem AV.relV_get:∀ {xs:List AV}{vs:List Value}{i:Nat}{x:AV},AV.relV w p ver xs vs→xs[i]? = some x→∃ u,vs[i]? = some u∧x.rel w p ver u
 | [],_,_,_,_,hx=>by simp at hx
 | y::xs, vs, i, x, h, hx=>by
   simp only[AV.relV] at h
   obtain⟨u,us,rfl,h1,h2⟩:=h
   cases i with
   | zero=>simp at hx;subst hx;exact⟨u,by simp,h1⟩
   | succ i=>simp at hx;simpa using AV.relV_get h2 hx
theorem AV.relV_drop:∀ {xs:List AV}{vs:List Value}(n:Nat),AV.relV w p ver xs vs→AV.relV w p ver (xs.drop n) (vs.drop n)
 | [],vs,n,h=>by simp only[AV.relV] at h;subst h;simp [AV.relV]
 | x::xs, vs, n, h=>by
   cases n with
   | zero=>exact h
   | succ n =>
     simp only[AV.relV] at h
     obtain⟨u,us,rfl,_,h2⟩:=h
     exact AV.relV_drop n h2
theorem AV.relV_take:∀ {xs:List AV}{vs:List Value}(n:Nat),AV.relV w p ver xs vs→AV.relV w p ver (xs.take n) (vs.take n)
 | [],vs,n,h=>by simp only[AV.relV] at h;subst h;simp [AV.relV]
 | x::xs, vs, n, h=>by
   cases n with
   | zero=>simp [AV.relV]
   | succ n =>
     simp only[AV.relV] at h
     obtain⟨u,us,rfl,h1,h2⟩:=h
     simp only[List.take_succ_cons,AV.relV];exact⟨u,_,rfl,h1,AV.relV_take n h2⟩
theorem AV.relV_append:∀ {xs ys:List AV}{us vs:List Value},AV.relV w p ver xs us→AV.relV w p ver ys vs→AV.relV w p ver (xs++ys) (us++vs)
 | [],_,_,_,h,h'=>by simp only[AV.relV] at h;subst h;simpa using h'
 | x::xs, ys, us, vs, h, h'=>by
   simp only[AV.relV] at h
   obtain⟨u,us,rfl,h1,h2⟩:=h
   simp only[List.cons_append,AV.relV];exact⟨u,_,rfl,h1,AV.relV_append h2 h'⟩
theorem AV.relV_map_r:∀ {xs:List RV}{vs:List Value},RV.relV w p.R xs vs→AV.relV w p ver (xs.map .r) vs
 | [],_,h=>by simp only[RV.relV] at h;simp [AV.relV,h]
 | x::xs, vs, h=>by
   simp only[RV.relV] at h
   obtain⟨u,us,rfl,h1,h2⟩:=h
   simp only[List.map_cons,AV.relV,AV.rel];exact⟨u,us,rfl,h1,AV.relV_map_r h2⟩
theorem AV.relV_split:∀ {xs ys:List AV}{vs:List Value},AV.relV w p ver (xs++ys) vs→∃ us ws,vs=us++ws∧AV.relV w p ver xs us∧AV.relV w p ver ys ws
 | [],ys,vs,h=>⟨[],vs,rfl,by simp [AV.relV],h⟩
 | x::xs, ys, vs, h=>by
   simp only[List.cons_append,AV.relV] at h
   obtain⟨u,us,rfl,h1,h2⟩:=h
   obtain⟨as,bs,rfl,h3,h4⟩:=AV.relV_split h2
   exact⟨u::as,bs,rfl,by simp only[AV.relV];exact⟨u,as,rfl,h1,h3⟩,h4⟩
end
end Go.Oc

namespace Go.Oc
open Go Go.RowKit
def upd {α:Type}(f:Nat→α) (k:Nat) (v:α):Nat→α:=fun j=>if j=k then v else f j
theorem zus {α:Type}(f:Nat→α) (k:Nat) (v:α):upd f k v k=v:=by simp [upd]
theorem zuo {α:Type}(f:Nat→α) {k j:Nat}(v:α) (h:j≠k):upd f k v j=f j:=by simp [upd,h]
structure AS where
 n:Nat
 tm:Nat→AV
 rows:Nat→Row
def AS.ver (s:AS):Nat→Nat:=fun k=>(s.rows k).ver
def vers (rows:Nat→Row):Nat→Nat:=fun k=>(rows k).ver
def RV.ofV1:Value→RV
 | .bool b=>.bo b
 | .int k n=>.it k n
 | .slice none 0 0=>.ns
 | .pointer none=>.np
 | .nilFunc=>.nf
 | .string s=>.st s
 | _=>.un
def RV.ofV:Value→RV
 | .agg cs=>if cs.toList.all Value.oneCell' then .ag (cs.toList.map RV.ofV1) else .un
 | v=>RV.ofV1 v
theorem RV.rel_ofV1 (w:World) (R:Nat→Prop) (v:Value):(RV.ofV1 v).rel w R v:=by
 unfold RV.ofV1
 split<;>simp [RV.rel]
theorem RV.relV_ofV1 (w:World) (R:Nat→Prop):∀ vs:List Value,RV.relV w R (vs.map RV.ofV1) vs
 | []=>by simp [RV.relV]
 | v::vs=>by simp only[List.map_cons,RV.relV];exact⟨v,vs,rfl,RV.rel_ofV1 w R v,RV.relV_ofV1 w R vs⟩
theorem RV.rel_ofV (w:World) (R:Nat→Prop) (v:Value):(RV.ofV v).rel w R v:=by
 unfold RV.ofV
 split
 ·split
  ·rename_i h
   simp only[RV.rel];exact⟨_,rfl,fun u hu=>List.all_eq_true.1 h u hu,RV.relV_ofV1 w R _⟩
  ·simp only[RV.rel]
 ·exact RV.rel_ofV1 w R v
def AS.ev (s:AS):Operand→AV
 | .tmp t=>s.tm t
 | .const v=>.r (RV.ofV v)
 | .func f=>.r (.fn f [])
 | .global _=>.r .un
structure Ctx where
 w0:World
 R0:Nat→Prop
 bor:Nat→Prop
 pin:Nat→Option (Option Nat × Nat)
 own:Nat→Prop:=fun _=>False
 X:XS:=XS.none
 rd:Option Nat:=none
 hd:Nat→Prop:=fun _=>False
structure Since (C:Ctx) (w:World):Prop where
 os:w.os=C.w0.os
 tape:w.tape=C.w0.tape
 output:w.output=C.w0.output
 size:C.w0.heap.size≤w.heap.size
 block:∀ k,k<C.w0.heap.size→¬ C.bor k→¬ C.own k→w.heap[k]? = C.w0.heap[k]?
mutual
def RV.relM (w:World) (R:Nat→Prop):List (RV × RV)→List MapEntry→Prop
 | [],es=>es=[]
 | x::xs,es=>∃ e es',es=e::es'∧x.1.rel w R e.key∧x.2.rel w R e.val∧RV.relM w R xs es'
end
def mapRel (w:World) (R:Nat→Prop) (b:Nat) (m:List (RV × RV)):Prop :=
 ∃ es clock,w.heap[b]? = some (.map es clock)∧RV.relM w R m es.toList∧(∀ e∈es.toList,e.born<clock)∧es.toList.Pairwise (fun x y=>x.born≠y.born)
def iterRel (w:World) (R:Nat→Prop) (r b:Nat) (left:List (RV × RV)) (cur:Option (RV × RV)):Prop :=
 ∃ es clock since seen last, w.heap[r]? = some (.mapIter (some b) since seen last)∧w.heap[b]? = some (.map es clock)∧RV.relM w R left (es.toList.filter fun e => !seen.contains e.born) ∧
   (∀ e∈es.toList,e.born<since)∧es.toList.Pairwise (fun x y=>x.born≠y.born)∧(since≤last∧since≤clock) ∧
   ∀ x,cur=some x→last=clock∧∃ e∈es.toList,seen.back? = some e.born∧x.1.rel w R e.key∧x.2.rel w R e.val
def zrl (w:World) (p:Plan) (ver:Nat→Nat) (k:Nat):RowC→Prop
 | .dead=>p.β k=none∧p.γ k=1
 | .box cs=>∃ b cells t,p.β k=some b∧w.heap[b]? = some (.cells cells t (0,0))∧AV.relV w p ver cs cells.toList∧∀ u∈cells.toList,u.oneCell'=true
 | .arr t sz es=>((p.β k=none∧es=[]∧p.γ k=0) ∨
  ∃ b cells,p.β k=some b∧w.heap[b]? = some (.cells cells t (0,0))∧cells.size=p.γ k*sz∧es.length≤p.γ k∧RV.relE w p.R sz es ⟨b,0,none⟩ 0)
 | .arc t sz es c=>∃ b cells,p.β k=some b∧w.heap[b]? = some (.cells cells t (0,0))∧p.γ k=c∧cells.size=c*sz∧es.length≤c∧RV.relE w p.R sz es ⟨b,0,none⟩ 0
 | .ara t sz cs=>∃ b cells,p.β k=some b∧w.heap[b]? = some (.cells cells t (0,0))∧cells.size=p.γ k*sz∧∃ l rest,cells.toList=l++rest∧AV.relV w p ver cs l∧∀ u∈l,u.oneCell'=true
 | .mp m=>∃ b,p.β k=some b∧mapRel w p.R b m
 | .mpi m=>∃ b,p.β k=some b∧mapRel w p.R b m
 | .mpx m bs cl=>∃ b es,p.β k=some b∧w.heap[b]? = some (.map es cl)∧RV.relM w p.R m es.toList∧es.toList.map (·.born)=bs∧(∀ e∈es.toList,e.born<cl)∧es.toList.Pairwise (fun x y=>x.born≠y.born)
 | .mem Φ=>∃ m b,Φ m∧p.β k=some b∧mapRel w p.R b m
 | .mi km n left cur=>∃ r,p.β k=some r∧n≤ver km∧(n=ver km→∃ b,p.β km=some b∧iterRel w p.R r b left cur)
 | .gh P l z left=>k=999∧p.β k=none∧p.γ k=1∧p.X.l=l∧p.X.z=z∧YOk P p.X∧p.X.X left w p.Ψ p.Θ
 | .sus cs vs=>p.β k=none∧p.γ k=1∧AV.relV w p ver cs vs
def marks (Ds:List Nat):List Deferred:=Ds.map fun D=>{ target:=.collected D,args:=#[] }
structure Ext (C:Ctx) (p:Plan) (ds:List Deferred) (w:World):Prop where
 px:p.X=C.X
 n0:C.X.n0≤C.w0.heap.size
 ψ0:C.X.z=false→∀ b,C.R0 b→C.X.R b
 ψl:∀ b,p.Ψ b→b<w.heap.size
 θl:∀ b,p.Θ b→b<w.heap.size
 ψb:∀ k b,p.β k=some b→¬ p.Ψ b∧¬ p.Θ b
 ψr:∀ b,p.R b→¬ p.Θ b
 ψo:∀ b,C.own b→C.X.R b∨C.X.n0≤b
 θo:∀ b,p.Θ b→b<C.w0.heap.size→C.bor b
 bo:∀ b,C.bor b∨C.own b→b<C.w0.heap.size
 ψn:(∀ o w' Ψ' Θ',¬ C.X.X o w' Ψ' Θ')→∀ b,¬ p.Ψ b∧¬ p.Θ b
 hd:∀ b,C.hd b→b<C.w0.heap.size∧¬ C.bor b∧¬ C.own b∧b<w.heap.size∧¬ p.R b∧¬ p.Ψ b∧¬ p.Θ b∧∀ k,p.β k≠some b
 rm:C.rd.isSome=true→ds=[]
 df:∃ Ds,ds=marks Ds∧Ds.Nodup∧∀ D∈Ds,w.heap[D]? = some (.deferred (some []))∧C.w0.heap.size≤D∧¬ p.R D∧(∀ k,p.β k≠some D)∧¬ p.Ψ D∧¬ p.Θ D
theorem ext_start {C:Ctx}{p:Plan}{w:World}(hb:∀ b,C.bor b∨C.own b→b<C.w0.heap.size) (h1:p.X=C.X:=by rfl) (h2:C.X=XS.none:=by rfl) (h3:p.Ψ=(fun _=>False):=by rfl) (h4:p.Θ=(fun _=>False):=by rfl) (h5:C.hd=(fun _=>False):=by rfl):Ext C p [] w where
 px:=h1
 n0:=by rw[h2];exact Nat.zero_le _
 ψ0:=by rw[h2];intro h;cases h
 ψl:=by rw[h3];intro b h;exact h.elim
 θl:=by rw[h4];intro b h;exact h.elim
 ψb:=by rw[h3,h4];intro k b _;exact⟨fun h=>h,fun h=>h⟩
 ψr:=by rw[h4];intro b _ h;exact h
 ψo:=by rw[h2];intro b _;exact .inr (Nat.zero_le _)
 θo:=by rw[h4];intro b h;exact h.elim
 bo:=hb
 ψn:=by rw[h3,h4];intro _ b;exact⟨fun h=>h,fun h=>h⟩
 hd:=fun b hm=>by rw[h5] at hm;exact hm.elim
 rm:=fun _=>rfl
 df:=⟨[],rfl,List.nodup_nil,fun D hD=>by cases hD⟩
theorem Ext.mono {C:Ctx}{p p':Plan}{ds:List Deferred}{w w':World}(h:Ext C p ds w) (hX:p'.X=p.X) (hΨ:p'.Ψ=p.Ψ) (hΘ:p'.Θ=p.Θ) (hs:w.heap.size≤w'.heap.size)
 (hβ:∀ k b,p'.β k=some b→(∃ k',p.β k'=some b)∨w.heap.size≤b) (hR:∀ b,p'.R b→p.R b∨(∃ k,p.β k=some b)∨w.heap.size≤b)
 (hh:∀ b,b<w.heap.size→(∀ k,p.β k≠some b)→w'.heap[b]? = w.heap[b]?):Ext C p' ds w' where
 px:=hX.trans h.px
 n0:=h.n0
 ψ0:=h.ψ0
 ψl:=fun b hb=>by rw[hΨ] at hb;exact Nat.lt_of_lt_of_le (h.ψl b hb) hs
 θl:=fun b hb=>by rw[hΘ] at hb;exact Nat.lt_of_lt_of_le (h.θl b hb) hs
 ψb:=fun k b hb=>by
  rw[hΨ,hΘ]
  rcases hβ k b hb with⟨k',h1⟩|h1
  ·exact h.ψb k' b h1
  ·exact⟨fun h2=>by have:=h.ψl b h2;omega,fun h2=>by have:=h.θl b h2;omega⟩
 ψr:=fun b hb=>by
  rw[hΘ]
  rcases hR b hb with h1|⟨k,h1⟩|h1
  ·exact h.ψr b h1
  ·exact (h.ψb k b h1).2
  ·exact fun h2=>by have:=h.θl b h2;omega
 ψo:=h.ψo
 θo:=fun b hb=>by rw[hΘ] at hb;exact h.θo b hb
 bo:=h.bo
 ψn:=by rw[hΨ,hΘ];exact h.ψn
 hd:=fun b hm=>by
  obtain⟨g1,g2,g3,g4,g5,g6,g7,g8⟩:=h.hd b hm
  rw[hΨ,hΘ]
  refine⟨g1,g2,g3,Nat.lt_of_lt_of_le g4 hs,fun hr=>?_,g6,g7,fun k hk=>?_⟩
  ·rcases hR b hr with h1|⟨k,h1⟩|h1
   ·exact g5 h1
   ·exact g8 k h1
   ·omega
  ·rcases hβ k b hk with⟨k',h1⟩|h1
   ·exact g8 k' h1
   ·omega
 rm:=h.rm
 df:=by
  obtain⟨Ds,h1,h2,h3⟩:=h.df
  refine⟨Ds,h1,h2,fun D hD=>?_⟩
  obtain⟨h4,h5,h6,h7,h8,h9⟩:=h3 D hD
  have hlt:D<w.heap.size:=(Array.getElem?_eq_some_iff.1 h4).1
  refine⟨(hh D hlt h7).trans h4,h5,fun hr=>?_,fun k hk=>?_,by rw[hΨ];exact h8,by rw[hΘ];exact h9⟩
  ·rcases hR D hr with h1|⟨k,h1⟩|h1
   ·exact h6 h1
   ·exact h7 k h1
   ·omega
  ·rcases hβ k D hk with⟨k',h1⟩|h1
   ·exact h7 k' h1
   ·omega
theorem Ext.kept {C:Ctx}{p p':Plan}{ds:List Deferred}{w w':World}(h:Ext C p ds w) (hX:p'.X=p.X) (hΨ:p'.Ψ=p.Ψ) (hΘ:p'.Θ=p.Θ) (h1:w'.os=w.os) (h2:w'.tape=w.tape) (h3:w'.output=w.output) (h4:w.heap.size≤w'.heap.size)
 (hh:∀ b,b<w.heap.size→(∀ k,p.β k≠some b)→w'.heap[b]? = w.heap[b]?) :
 KX w w' p p' :=
 ⟨hX,hΨ,hΘ,h1,h2,h3,h4,fun b hb=>hh b (h.ψl b hb) fun k hk=>(h.ψb k b hk).1 hb⟩
structure SR (C:Ctx) (p:Plan) (s:AS) (a:Act) (w:World):Prop where
 base:Since C w
 r0:∀ b,C.R0 b→p.R b
 rn:∀ b,p.R b→C.R0 b∨C.w0.heap.size≤b∨C.own b
 rb:∀ b,p.R b→b<w.heap.size
 tm:∀ t,(s.tm t).rel w p s.ver (a.tmps.getD t undef)
 sz:a.tmps.size=s.n
 ex:Ext C p a.defers w
 rw:∀ k,zrl w p s.ver k (s.rows k).c
 bl:∀ k b,p.β k=some b→b<w.heap.size∧¬ p.R b∧(C.w0.heap.size≤b∨(1000≤k∧C.bor b)∨C.own b)
 ij:∀ k k' b,p.β k=some b→p.β k'=some b→k=k'
 cap:∀ k,p.γ k≤maxLen
 pn:∀ k x,C.pin k=some x→p.β k=x.1∧p.γ k=x.2∧s.ver k=0∧1000≤k
 lk:∀ j km n l cur,(s.rows j).c = .mi km n l cur→n=s.ver km→(s.rows km).c.isMpi=true
def SRel (C:Ctx) (s:AS) (a:Act) (w:World):Prop:=∃ p,SR C p s a w
section
variable {C:Ctx}{p p':Plan}{s:AS}{a:Act}{w w':World}
theorem SR.ev (h:SR C p s a w) (x:Operand):(s.ev x).rel w p s.ver (a.eval x):=by
 cases x with
 | tmp t=>exact h.tm t
 | const v=>simp only[AS.ev,Act.eval,AV.rel];exact RV.rel_ofV w p.R v
 | func f=>simp only[AS.ev,Act.eval,AV.rel,RV.rel];exact⟨#[],rfl,by simp [RV.relV]⟩
 | global g=>simp only[AS.ev,AV.rel,RV.rel]
theorem RV.relM_mono {R R':Nat→Prop}(hR:∀ b,R b→R' b) (hw:∀ a:Addr,R a.block→w'.cell? a=w.cell? a):∀ (m:List (RV × RV)) (l:List MapEntry),RV.relM w R m l→RV.relM w' R' m l
 | [],_,h=>by simpa only[RV.relM] using h
 | x::xs, l, h=>by
   simp only[RV.relM] at h ⊢
   obtain⟨e,es',he,h4,h5,h6⟩:=h
   exact⟨e,es',he,RV.rel_mono hR hw _ _ h4,RV.rel_mono hR hw _ _ h5,RV.relM_mono hR hw xs es' h6⟩
theorem mapRel_mono {R R':Nat→Prop}(hR:∀ b,R b→R' b) (hw:∀ a:Addr,R a.block→w'.cell? a=w.cell? a) {b:Nat}(hb:w'.heap[b]? = w.heap[b]?) {m:List (RV × RV)}(h:mapRel w R b m):mapRel w' R' b m:=by
 obtain⟨es,cl,h1,h2,h3⟩:=h
 exact⟨es,cl,hb.trans h1,RV.relM_mono hR hw _ _ h2,h3⟩
theorem iterRel_mono {R R':Nat→Prop}(hR:∀ b,R b→R' b) (hw:∀ a:Addr,R a.block→w'.cell? a=w.cell? a) {r b:Nat}(hr:w'.heap[r]? = w.heap[r]?) (hb:w'.heap[b]? = w.heap[b]?) {left:List (RV × RV)}{cur:Option (RV × RV)}
 (h:iterRel w R r b left cur):iterRel w' R' r b left cur:=by
 obtain⟨es,cl,since,seen,last,h1,h2,h3,h4,h5,h6,h7⟩:=h
 refine⟨es,cl,since,seen,last,hr.trans h1,hb.trans h2,RV.relM_mono hR hw _ _ h3,h4,h5,h6,fun x hx=>?_⟩
 obtain⟨h8,e,he,h9,h10,h11⟩:=h7 x hx
 exact⟨h8,e,he,h9,RV.rel_mono hR hw _ _ h10,RV.rel_mono hR hw _ _ h11⟩
theorem rowRel_mono {ver ver':Nat→Nat}(h:Kept w w' p p' ver ver') {k:Nat}(hx:k≠999∨KX w w' p p') (hβ:p'.β k=p.β k) (hγ:p'.γ k=p.γ k) (hh:∀ b,p.β k=some b→w'.heap[b]? = w.heap[b]?) :
 ∀ c:RowC,(∀ km n l cur,c = .mi km n l cur→n=ver' km→∀ b,p.β km=some b→w'.heap[b]? = w.heap[b]?)→zrl w p ver k c→zrl w' p' ver' k c
 | .dead,_,hr=>by simp only[zrl] at hr ⊢;rw[hβ,hγ];exact hr
 | .box cs, _, hr=>by
   simp only[zrl] at hr ⊢
   obtain⟨b,cells,t,h1,h2,h3,h4⟩:=hr
   exact⟨b,cells,t,hβ.trans h1,(hh b h1).trans h2,AV.relV_mono h cs _ h3,h4⟩
 | .arr t sz es, _, hr=>by
   simp only[zrl] at hr ⊢
   rw[hβ,hγ]
   refine hr.imp id ?_
   rintro ⟨b,cells,h1,h2,h3,h4,h5⟩
   refine⟨b,cells,h1,(hh b h1).trans h2,h3,h4,RV.relE_mono h.R h.cell sz es _ 0 (fun j=>?_) h5⟩
   exact World.cell?_of_block (by rw[block_add];exact hh b h1)
 | .arc t sz es c, _, hr=>by
   simp only[zrl] at hr ⊢
   rw[hβ,hγ]
   obtain⟨b,cells,h1,h2,h3,h4,h5,h6⟩:=hr
   refine⟨b,cells,h1,(hh b h1).trans h2,h3,h4,h5,RV.relE_mono h.R h.cell sz es _ 0 (fun j=>?_) h6⟩
   exact World.cell?_of_block (by rw[block_add];exact hh b h1)
 | .ara t sz cs, _, hr=>by
   simp only[zrl] at hr ⊢
   rw[hγ]
   obtain⟨b,cells,h1,h2,h3,l,rest,h4,h5,h6⟩:=hr
   exact⟨b,cells,hβ.trans h1,(hh b h1).trans h2,h3,l,rest,h4,AV.relV_mono h cs _ h5,h6⟩
 | .mp m, _, hr=>by
   simp only[zrl] at hr ⊢
   obtain⟨b,h1,h2⟩:=hr
   exact⟨b,hβ.trans h1,mapRel_mono h.R h.cell (hh b h1) h2⟩
 | .mpi m, _, hr=>by
   simp only[zrl] at hr ⊢
   obtain⟨b,h1,h2⟩:=hr
   exact⟨b,hβ.trans h1,mapRel_mono h.R h.cell (hh b h1) h2⟩
 | .mem Φ, _, hr=>by
   simp only[zrl] at hr ⊢
   obtain⟨m,b,h0,h1,h2⟩:=hr
   exact⟨m,b,h0,hβ.trans h1,mapRel_mono h.R h.cell (hh b h1) h2⟩
 | .mpx m bs cl, _, hr=>by
   simp only[zrl] at hr ⊢
   obtain⟨b,es,h1,h2,h3,h4⟩:=hr
   exact⟨b,es,hβ.trans h1,(hh b h1).trans h2,RV.relM_mono h.R h.cell _ _ h3,h4⟩
 | .mi km n left cur, hm, hr=>by
   simp only[zrl] at hr ⊢
   obtain⟨r,h1,h2,h3⟩:=hr
   refine⟨r,hβ.trans h1,Nat.le_trans h2 (h.le km),fun e=>?_⟩
   have e1:n=ver km:=Nat.le_antisymm h2 (e▸h.le km)
   obtain⟨b,hb,hi⟩:=h3 e1
   exact⟨b,(h.same km (e▸e1)).1.trans hb,iterRel_mono h.R h.cell (hh r h1) (hm km n left cur rfl e b hb) hi⟩
 | .gh P l z left, _, hr=>by
   simp only[zrl] at hr ⊢
   obtain⟨e1,e2,e3,e4,e5,e6,e7,e8⟩:=hx.resolve_left (fun hn=>hn hr.1)
   rw[hβ,hγ,e1,e2,e3]
   obtain⟨h0,h1,h2,h3,h4,h5,h6⟩:=hr
   exact⟨h0,h1,h2,h3,h4,h5,p.X.st h6 e4 e5 e6 e7 e8⟩
 | .sus cs vs, _, hr=>by
   simp only[zrl] at hr ⊢
   rw[hβ,hγ]
   exact⟨hr.1,hr.2.1,AV.relV_mono h _ _ hr.2.2⟩
theorem SR.put (h:SR C p s a w) {d:Nat}{av:AV}{v:Value}(hv:av.rel w p s.ver v) (hd:d<s.n) :
 SR C p { s with tm:=upd s.tm d av } (a.put (some d) v) w where
 base:=h.base
 r0:=h.r0
 rn:=h.rn
 rb:=h.rb
 tm:=fun t=>by
  show (upd s.tm d av t).rel w p s.ver ((a.tmps.setIfInBounds d v).getD t undef)
  by_cases e:t=d
  ·subst e
   have:t<a.tmps.size:=by rw[h.sz];exact hd
   simp only[zus]
   have h2:(a.tmps.setIfInBounds t v).getD t undef=v:=by simp [Array.getD,this]
   rw[h2];exact hv
  ·rw[zuo _ _ e]
   have h2:(a.tmps.setIfInBounds d v).getD t undef=a.tmps.getD t undef:=by
    simp only[Array.getD_eq_getD_getElem?,Array.getElem?_setIfInBounds_ne (Ne.symm e)]
   rw[h2];exact h.tm t
 sz:=by simp [Act.put,h.sz]
 ex:=h.ex
 rw:=h.rw
 bl:=h.bl
 ij:=h.ij
 cap:=h.cap
 pn:=h.pn
 lk:=h.lk
theorem AV.rel_un (w:World) (p:Plan) (ver:Nat→Nat) (v:Value):(AV.r .un).rel w p ver v:=by simp [AV.rel,RV.rel]
def AS.put (s:AS) (d:Option Nat) (v:AV):AS :=
 match d with
 | some d=>{ s with tm:=upd s.tm d v }
 | none=>s
theorem SR.put' (h:SR C p s a w) {d:Option Nat}{av:AV}{v:Value}(hv:av.rel w p s.ver v) (hd:∀ t,d=some t→t<s.n):SR C p (s.put d av) (a.put d v) w:=by
 cases d with
 | none=>exact h
 | some d=>exact h.put hv (hd d rfl)
theorem Since.drew (h:Since C w):Since C w.drew:=⟨h.os,h.tape,h.output,h.size,h.block⟩
theorem Since.alloc (h:Since C w) (o:Obj):Since C (w.alloc o) :=
 ⟨h.os,h.tape,h.output,Nat.le_trans h.size (by simp),fun k hk hb ho=>(Below.heap_alloc w o k (Nat.lt_of_lt_of_le hk h.size)).trans (h.block k hk hb ho)⟩
theorem Since.below (h:Since C w) (hb:Below w.heap.size w w'):Since C w' :=
 ⟨hb.os.trans h.os,hb.tape.trans h.tape,hb.output.trans h.output,Nat.le_trans h.size hb.size,fun k hk hn ho=>(hb.block k (Nat.lt_of_lt_of_le hk h.size)).trans (h.block k hk hn ho)⟩
theorem SR.below (h:SR C p s a w) (hb:Below w.heap.size w w') {R':Nat→Prop}(h1:∀ b,p.R b→R' b) (h2:∀ b,R' b→p.R b∨w.heap.size≤b) (h3:∀ b,R' b→b<w'.heap.size) :
 SR C { p with R:=R' } s a w':=by
 have hk:Kept w w' p { p with R:=R' } s.ver s.ver :=
  ⟨h1,fun ad hr=>hb.cell (h.rb _ hr),fun _=>Nat.le_refl _,fun _ _=>⟨rfl,rfl⟩⟩
 have hx:KX w w' p { p with R:=R' }:=h.ex.kept rfl rfl rfl hb.os hb.tape hb.output hb.size fun b hl _=>hb.block b hl
 exact {
  base:=h.base.below hb
  r0:=fun b hr=>h1 b (h.r0 b hr)
  rn:=fun b hr=>(h2 b hr).elim (h.rn b) (fun hl=>.inr (.inl (Nat.le_trans h.base.size hl)))
  rb:=h3
  tm:=fun t=>AV.rel_mono hk _ _ (h.tm t)
  sz:=h.sz
  ex:=h.ex.mono rfl rfl rfl hb.size (fun k b hβ=>.inl ⟨k,hβ⟩) (fun b hr=>(h2 b hr).imp id .inr) fun b hl _=>hb.block b hl
  rw:=fun k=>rowRel_mono hk (.inr hx) rfl rfl (fun b hβ=>hb.block b (h.bl k b hβ).1) _ (fun km _ _ _ _ _ b hβ=>hb.block b (h.bl km b hβ).1) (h.rw k)
  bl:=fun k b hβ=>⟨Nat.lt_of_lt_of_le (h.bl k b hβ).1 hb.size,fun hr=>(h2 b hr).elim (h.bl k b hβ).2.1 (fun hl=>by have:=(h.bl k b hβ).1;omega),(h.bl k b hβ).2.2⟩
  ij:=h.ij
  cap:=h.cap
  pn:=h.pn
  lk:=h.lk }
theorem lk_upd (h:SR C p s a w) (k:Nat) (c:RowC) (hmi:c.isMi=false) (j km n:Nat) (l:List (RV × RV)) (cur:Option (RV × RV)) (hj:(upd s.rows k ⟨(s.rows k).ver+1,c⟩ j).c = .mi km n l cur)
 (hn:n=AS.ver { s with rows:=upd s.rows k ⟨(s.rows k).ver+1,c⟩ } km):(upd s.rows k ⟨(s.rows k).ver+1,c⟩ km).c.isMpi=true:=by
 by_cases e:j=k
 ·subst e
  rw[zus] at hj
  have hj':c = .mi km n l cur:=hj
  rw[hj'] at hmi;cases hmi
 ·rw[zuo _ _ e] at hj
  have hr:=h.rw j
  rw[hj] at hr
  simp only[zrl] at hr
  obtain⟨r,_,hle,_⟩:=hr
  have hn':n=(upd s.rows k ⟨(s.rows k).ver+1,c⟩ km).ver:=hn
  by_cases e2:km=k
  ·subst e2
   rw[zus] at hn'
   have:n≤(s.rows km).ver:=hle
   have:n=(s.rows km).ver+1:=hn'
   omega
  ·rw[zuo _ _ e2] at hn' ⊢
   exact h.lk j km n l cur hj hn'
theorem SR.newRow (h:SR C p s a w) (k:Nat) (hk0:k<1000) (c:RowC) (hmi:c.isMi=false) (g:Nat) (hg:g≤maxLen) (o:Obj)
 (hc:∀ p':Plan,∀ ver',p'.R=p.R→p'.β k=some w.heap.size→p'.γ k=g→Kept w (w.alloc o) p p' s.ver ver'→zrl (w.alloc o) p' ver' k c) :
 SR C { p with β:=upd p.β k (some w.heap.size),γ:=upd p.γ k g } { s with rows:=upd s.rows k ⟨(s.rows k).ver+1,c⟩ } a (w.alloc o):=by
 have hver:∀ j,(upd s.rows k ⟨(s.rows k).ver+1,c⟩ j).ver=if j=k then s.ver k+1 else s.ver j:=fun j=>by
  unfold upd;split<;>rfl
 have hk:Kept w (w.alloc o) p { p with β:=upd p.β k (some w.heap.size),γ:=upd p.γ k g } s.ver (AS.ver { s with rows:=upd s.rows k ⟨(s.rows k).ver+1,c⟩ }):=by
  refine⟨fun _ h=>h,fun ad hr=>World.cell?_alloc_lt w o ad (h.rb _ hr),fun j=>?_,fun j hj=>?_⟩
  ·show s.ver j≤(upd s.rows k ⟨(s.rows k).ver+1,c⟩ j).ver
   rw[hver];split
   ·rename_i e;subst e;omega
   ·exact Nat.le_refl _
  ·have hj':(upd s.rows k ⟨(s.rows k).ver+1,c⟩ j).ver=s.ver j:=hj
   rw[hver] at hj'
   split at hj'
   ·rename_i e;subst e;omega
   ·rename_i e;exact⟨zuo _ _ e,zuo _ _ e⟩
 exact {
  base:=h.base.alloc o
  r0:=h.r0
  rn:=h.rn
  rb:=fun b hr=>by have:=h.rb b hr;simp;omega
  tm:=fun t=>AV.rel_mono hk _ _ (h.tm t)
  sz:=h.sz
  ex:=h.ex.mono rfl rfl rfl (by simp) (fun j b hβ=>by
   by_cases e:j=k
   ·subst e
    simp only[zus] at hβ
    injection hβ with hβ
    exact .inr (by omega)
   ·simp only[zuo _ _ e] at hβ
    exact .inl ⟨j,hβ⟩) (fun b hr=>.inl hr) fun b hl _=>Below.heap_alloc w o b hl
  rw:=fun j=>by
   by_cases e:j=k
   ·subst e
    show zrl _ _ _ j (upd s.rows j ⟨(s.rows j).ver+1,c⟩ j).c
    rw[zus]
    exact hc _ _ rfl (zus _ _ _) (zus _ _ _) hk
   ·show zrl _ _ _ j (upd s.rows k ⟨(s.rows k).ver+1,c⟩ j).c
    rw[zuo _ _ e]
    exact rowRel_mono hk (.inr <| h.ex.kept rfl rfl rfl rfl rfl rfl (by simp) fun b hl _=>Below.heap_alloc w o b hl) (zuo _ _ e) (zuo _ _ e) (fun b hβ=>Below.heap_alloc w o b (h.bl j b hβ).1) _ (fun km _ _ _ _ _ b hβ=>Below.heap_alloc w o b (h.bl km b hβ).1) (h.rw j)
  bl:=fun j b hβ=>by
   by_cases e:j=k
   ·subst e
    simp only[zus] at hβ
    injection hβ with hβ
    subst hβ
    exact⟨by simp,fun hr=>by have:=h.rb _ hr;omega,.inl h.base.size⟩
   ·simp only[zuo _ _ e] at hβ
    obtain⟨h1,h2,h3⟩:=h.bl j b hβ
    exact⟨by simp;omega,h2,h3⟩
  ij:=fun j j' b hj hj'=>by
   by_cases e:j=k<;>by_cases e':j'=k
   ·rw[e,e']
   ·subst e
    simp only[zus,zuo _ _ e'] at hj hj'
    injection hj with hj
    have:=(h.bl j' b hj').1;omega
   ·subst e'
    simp only[zus,zuo _ _ e] at hj hj'
    injection hj' with hj'
    have:=(h.bl j b hj).1;omega
   ·simp only[zuo _ _ e,zuo _ _ e'] at hj hj'
    exact h.ij j j' b hj hj'
  cap:=fun j=>by
   show upd p.γ k g j≤maxLen
   unfold upd;split
   ·exact hg
   ·exact h.cap j
  pn:=fun j x hx=>by
   obtain⟨h1,h2,h3,h4⟩:=h.pn j x hx
   have e:j≠k:=by omega
   exact⟨(zuo _ _ e).trans h1,(zuo _ _ e).trans h2,by show (upd s.rows k ⟨(s.rows k).ver+1,c⟩ j).ver=0;rw[zuo _ _ e];exact h3,h4⟩
  lk:=fun j km n l cur hj hn=>lk_upd h k c hmi j km n l cur hj hn }
theorem SR.setRow (h:SR C p s a w) (k:Nat) (c:RowC) (hold:(s.rows k).c.isMpi=false) (hnew:∀ km n l cur,c = .mi km n l cur→n=s.ver km→km≠k∧(s.rows km).c.isMpi=true) {b:Nat}(hβ:p.β k=some b) (hos:w'.os=w.os) (htape:w'.tape=w.tape) (hout:w'.output=w.output) (hsize:w'.heap.size=w.heap.size)
 (hblock:∀ i,i≠b→w'.heap[i]? = w.heap[i]?)
 (hc:Kept w w' p p s.ver s.ver→zrl w' p s.ver k c) :
 SR C p { s with rows:=upd s.rows k ⟨(s.rows k).ver,c⟩ } a w':=by
 have hv:AS.ver { s with rows:=upd s.rows k ⟨(s.rows k).ver,c⟩ }=s.ver:=by
  funext j
  show (upd s.rows k ⟨(s.rows k).ver,c⟩ j).ver=(s.rows j).ver
  unfold upd;split
  ·rename_i e;subst e;rfl
  ·rfl
 obtain⟨hb1,hb2,hb3⟩:=h.bl k b hβ
 have hk:Kept w w' p p s.ver s.ver :=
  ⟨fun _ h=>h,fun ad hr=>World.cell?_of_block (hblock _ (fun e=>hb2 (e▸hr))),fun _=>Nat.le_refl _,fun _ _=>⟨rfl,rfl⟩⟩
 exact {
  base:=⟨hos.trans h.base.os,htape.trans h.base.tape,hout.trans h.base.output,hsize▸h.base.size,fun i hi hn ho=>by
   refine (hblock i fun e=>?_).trans (h.base.block i hi hn ho)
   subst e
   rcases hb3 with hb3|hb3|hb3
   ·omega
   ·exact hn hb3.2
   ·exact ho hb3⟩
  r0:=h.r0
  rn:=h.rn
  rb:=fun b hr=>hsize▸h.rb b hr
  tm:=fun t=>by rw[hv];exact AV.rel_mono hk _ _ (h.tm t)
  sz:=h.sz
  ex:=h.ex.mono rfl rfl rfl (Nat.le_of_eq hsize.symm) (fun j b hβ=>.inl ⟨j,hβ⟩) (fun b hr=>.inl hr) fun i _ hi=>hblock i fun e=>hi k (e▸hβ)
  rw:=fun j=>by
   rw[hv]
   by_cases e:j=k
   ·subst e
    show zrl _ _ _ j (upd s.rows j ⟨(s.rows j).ver,c⟩ j).c
    rw[zus]
    exact hc hk
   ·show zrl _ _ _ j (upd s.rows k ⟨(s.rows k).ver,c⟩ j).c
    rw[zuo _ _ e]
    exact rowRel_mono hk (.inr <| h.ex.kept rfl rfl rfl hos htape hout (Nat.le_of_eq hsize.symm) fun i _ hi=>hblock i fun e=>hi k (e▸hβ)) rfl rfl (fun b' hβ'=>hblock b' (fun eb=>e (h.ij j k b' hβ' (eb▸hβ)))) _ (fun km n l cur hcc hn b' hβ'=>hblock b' (fun eb=>by
     have e3:=h.ij km k b' hβ' (eb▸hβ)
     subst e3
     have:=h.lk j km n l cur hcc hn
     rw[hold] at this;cases this)) (h.rw j)
  bl:=fun j b' hβ'=>by rw[hsize];exact h.bl j b' hβ'
  ij:=h.ij
  cap:=h.cap
  pn:=fun j x hx=>by rw[hv];exact h.pn j x hx
  lk:=fun j km n l cur hj hn=>by
   rw[hv] at hn
   show (upd s.rows k ⟨(s.rows k).ver,c⟩ km).c.isMpi=true
   by_cases e:j=k
   ·subst e
    have hj':(upd s.rows j ⟨(s.rows j).ver,c⟩ j).c = .mi km n l cur:=hj
    rw[zus] at hj'
    obtain⟨h1,h2⟩:=hnew km n l cur hj' hn
    rw[zuo _ _ h1];exact h2
   ·have hj':(upd s.rows k ⟨(s.rows k).ver,c⟩ j).c = .mi km n l cur:=hj
    rw[zuo _ _ e] at hj'
    have h2:=h.lk j km n l cur hj' hn
    have e2:km≠k:=fun e2=>by rw[e2,hold] at h2;cases h2
    rw[zuo _ _ e2];exact h2 }
theorem SR.other (h:SR C p s a w) {a':Act}(ha:a'.tmps=a.tmps) (hos:w'.os=w.os) (htape:w'.tape=w.tape) (hout:w'.output=w.output) (hsize:w.heap.size≤w'.heap.size)
 (hh:∀ b,b<w.heap.size→(p.R b∨(∃ k,p.β k=some b)∨(b<C.w0.heap.size∧¬ C.bor b∧¬ C.own b)∨p.Ψ b)→w'.heap[b]? = w.heap[b]?) (hex:Ext C p a'.defers w'):SR C p s a' w':=by
 have hk:Kept w w' p p s.ver s.ver:=⟨fun _ h=>h,fun ad hr=>World.cell?_of_block (hh _ (h.rb _ hr) (.inl hr)),fun _=>Nat.le_refl _,fun _ _=>⟨rfl,rfl⟩⟩
 have hx:KX w w' p p:=⟨rfl,rfl,rfl,hos,htape,hout,hsize,fun b hb=>hh b (h.ex.ψl b hb) (.inr (.inr (.inr hb)))⟩
 exact {
  base:=⟨hos.trans h.base.os,htape.trans h.base.tape,hout.trans h.base.output,Nat.le_trans h.base.size hsize,fun b hb hn ho =>
   (hh b (Nat.lt_of_lt_of_le hb h.base.size) (.inr (.inr (.inl ⟨hb,hn,ho⟩)))).trans (h.base.block b hb hn ho)⟩
  r0:=h.r0
  rn:=h.rn
  rb:=fun b hr=>Nat.lt_of_lt_of_le (h.rb b hr) hsize
  tm:=fun t=>by rw[ha];exact AV.rel_mono hk _ _ (h.tm t)
  sz:=by rw[ha];exact h.sz
  ex:=hex
  rw:=fun k=>rowRel_mono hk (.inr hx) rfl rfl (fun b hβ=>hh b (h.bl k b hβ).1 (.inr (.inl ⟨k,hβ⟩))) _ (fun km _ _ _ _ _ b hβ=>hh b (h.bl km b hβ).1 (.inr (.inl ⟨km,hβ⟩))) (h.rw k)
  bl:=fun k b hβ=>⟨Nat.lt_of_lt_of_le (h.bl k b hβ).1 hsize,(h.bl k b hβ).2⟩
  ij:=h.ij
  cap:=h.cap
  pn:=h.pn
  lk:=h.lk }
theorem SR.forget (h:SR C p s a w) (tm':Nat→AV) (ht:∀ t,tm' t=s.tm t∨tm' t = .r .un):SR C p { s with tm:=tm' } a w :=
 { h with
   tm:=fun t=>by
    show (tm' t).rel w p s.ver (a.tmps.getD t undef)
    rcases ht t with e|e
    ·rw[e];exact h.tm t
    ·rw[e];exact AV.rel_un _ _ _ _ }
end
end Go.Oc

namespace Go.Oc
open Go Go.RowKit
inductive TK where
 | int (k:IntKind)
 | bool
 | str
 | struct (fs:List (Nat × Nat × Bool))
 | arr (n esz:Nat) (eagg:Bool)
 | slice (e esz eb:Nat) (ez:List RV)
 | map (k e:Nat)
 | ptr (e:Nat)
 | func
 | other
structure TI where
 k:TK
 sz:Nat
 agg:Bool
 zero:List RV
def aggOf (P:Program) (t:TypeId):Bool:=match P.underlying t with|some (.struct _)|some (.array ..)=>true|_=>false
def okT (P:Program) (t:TypeId):Bool:=(P.info? t).isSome&&(P.underlying t).isSome
def zeroOf (P:Program) (t:TypeId):Option (List Value) :=
 match ((P.info? t).bind (·.zero):Option Value) with
 | some v=>if v.cells.toList.all Value.oneCell'&&v.cells.size == P.cellsOf t then some v.cells.toList else none
 | none=>none
def tyq (P:Program) (t:TypeId):Option TI :=
 if okT P t then
  match zeroOf P t with
  | none=>none
  | some z =>
    let mk (k:TK):Option TI:=some ⟨k,P.cellsOf t,aggOf P t,z.map RV.ofV1⟩
    match P.underlying t with
    | some (.int k)=>mk (.int k)
    | some .bool=>mk .bool
    | some .string=>mk .str
    | some (.struct fs)=>if fs.toList.all (fun f=>okT P f.type&&P.cellsOf f.type != 0) then mk (.struct (fs.toList.map fun f=>(f.offset,P.cellsOf f.type,aggOf P f.type))) else none
    | some (.array n e)=>if okT P e then mk (.arr n (P.cellsOf e) (aggOf P e)) else none
    | some (.slice e)=>if okT P e then match zeroOf P e with|some ez=>mk (.slice e (P.cellsOf e) (P.bytesOf e) (ez.map RV.ofV1))|none=>none else none
    | some (.map k e)=>mk (.map k e)
    | some (.pointer e)=>mk (.ptr e)
    | some (.func ..)=>mk .func
    | _=>none
 else none
def RV.flat1:RV→Bool
 | .un | .ud | .ag _ | .tu _=>false
 | _=>true
def AV.cells? (ver:Nat→Nat):AV→Option (List AV)
 | .r (.ag cs)=>some (cs.map .r)
 | .r v=>if v.flat1 then some [.r v] else none
 | .ag cs=>some cs
 | .tu _=>none
 | .fn f cs=>some [.fn f cs]
 | .pt k n off=>if n=ver k then some [.pt k n off] else none
 | .pe k n sz idx off=>if n=ver k then some [.pe k n sz idx off] else none
 | .os k n sz off m=>if n=ver k then some [.os k n sz off m] else none
 | .mp k n=>if n=ver k then some [.mp k n] else none
 | .mi k n=>if n=ver k then some [.mi k n] else none
 | .pu k n u=>if n=ver k then some [.pu k n u] else none
def roL:List AV→Option (List RV)
 | []=>some []
 | .r v::l=>match roL l with|some xs=>some (v::xs)|none=>none
 | _::_=>none
def cutR (cs:List RV) (t:TI):RV:=if t.agg then .ag (cs.take t.sz) else cs.headD .un
def cutA (cs:List AV) (t:TI):AV:=if t.agg then .ag (cs.take t.sz) else cs.headD (.r .un)
def need (t:TI):Nat:=if t.agg then t.sz else 1
structure Yi where
 av:AV
 eff:List (Nat × Row)
structure Res where
 pre:Prop
 ass:Prop
 y:Yi
def Res.bad:Res:=⟨False,True,⟨.r .un,[]⟩⟩
def Res.val (v:AV):Res:=⟨True,True,⟨v,[]⟩⟩
def Res.when (c:Prop) (v:AV):Res:=⟨c,True,⟨v,[]⟩⟩
def pickA (t:Bool) (a b:AV):AV :=
 match a,b with
 | .r (.bo x),.r (.bo y)=>.r (.bo (bif t then x else y))
 | a,b=>bif t then a else b
def sPick (c a b:AV):Res :=
 match c with
 | .r (.bo t)=>.val (pickA t a b)
 | _=>.bad
def eqT (P:Program) (t:TypeId):Option Nat :=
 match P.underlying t with
 | some (.struct fs) =>
   if fs.toList.all (fun f=>f.name != "_" && (match P.underlying f.type with | some (.int _)=>true | _=>false)) && (fs.toList.map (·.offset) == List.range fs.size) && !P.stoodInHeld t && !P.eqGuardType P.depth t then some fs.size else none
 | some (.array n e) =>
   if (match P.underlying e with|some (.int _)=>true|_=>false)&&P.cellsOf e == 1&&(P.info? e).isSome && !P.eqGuardType P.depth t then some n else none
 | _=>none
def eqFs (P:Program):List Field→Nat→Option Nat
 | [],n=>some n
 | f::fs, n =>
   if f.name != "_" && f.offset == n then
    match P.underlying f.type with
    | some (.int _)=>eqFs P fs (n+1)
    | _=>match eqT P f.type with
      | some m=>if P.cellsOf f.type == m&&(P.info? f.type).isSome then eqFs P fs (n+m) else none
      | none=>none
   else none
def eqN (P:Program) (t:TypeId):Option Nat :=
 match eqT P t with
 | some n=>some n
 | none=>match P.underlying t with
   | some (.struct fs)=>if !P.stoodInHeld t && !P.eqGuardType P.depth t then eqFs P fs.toList 0 else none
   | _=>none
def agR:AV→Option (List RV)
 | .r (.ag cs)=>some cs
 | .ag cs=>roL cs
 | _=>none
def valR:AV→Option RV
 | .r v=>some v
 | .ag cs=>match roL cs with|some xs=>some (.ag xs)|none=>none
 | _=>none
def mapOf:RowC→Option (List (RV × RV))
 | .mp m=>some m
 | .mpi m=>some m
 | .mpx m _ _=>some m
 | _=>none
def cmpL:List RV→List RV→Option Bool
 | [],[]=>some true
 | .it k a::as,.it k' b::bs=>if k=k' then match cmpL as bs with|some r=>some ((a == b)&&r)|none=>none else none
 | _,_=>none
def kB (P:Program) (t:TypeId):Option Bool:=match P.underlying t with
 | some (.int _)=>some false
 | some .bool=>some true
 | _=>none
def eqBs (P:Program):List Field→Nat→Option (List Bool)
 | [],_=>some []
 | f :: fs,i=>if f.name != "_" && f.offset == i then match kB P f.type,eqBs P fs (i + 1) with | some b,some ks=>some (b :: ks) | _,_=>none else none
def eqB (P:Program) (t:TypeId):Option (List Bool):=match P.underlying t with
 | some (.struct fs)=>if !P.stoodInHeld t && !P.eqGuardType P.depth t then eqBs P fs.toList 0 else none
 | _=>none
def cmpB:List Bool→List RV→List RV→Option Bool
 | [],[],[]=>some true
 | true::ks,.bo a::as,.bo b::bs=>match cmpB ks as bs with|some r=>some ((a == b)&&r)|none=>none
 | false::ks,.it k a::as,.it k' b::bs=>if k=k' then match cmpB ks as bs with|some r=>some ((a == b)&&r)|none=>none else none
 | _,_,_=>none
def sEq (P:Program) (op:BinOp) (t:TypeId) (x y:AV):Res :=
 match op,eqN P t,agR x,agR y with
 | .eql,some n,some as,some bs=>match cmpL as bs with|some r=>.when (as.length=n) (.r (.bo r))|none=>.bad
 | .neq,some n,some as,some bs=>match cmpL as bs with|some r=>.when (as.length=n) (.r (.bo (!r)))|none=>.bad
 | .eql,none,some as,some bs=>match eqB P t with|some ks=>(match cmpB ks as bs with|some r=>.val (.r (.bo r))|none=>.bad)|none=>.bad
 | .neq,none,some as,some bs=>match eqB P t with|some ks=>(match cmpB ks as bs with|some r=>.val (.r (.bo (!r)))|none=>.bad)|none=>.bad
 | _,_,_,_=>.bad
def bitAnd (k:IntKind) (a b:Int):Int:=k.wrap ((BitVec.ofInt k.bits a &&& BitVec.ofInt k.bits b).toNat)
def bitOr (k:IntKind) (a b:Int):Int:=k.wrap ((BitVec.ofInt k.bits a ||| BitVec.ofInt k.bits b).toNat)
def shrI (k:IntKind) (a b:Int):Int:=a.fdiv (2 ^ (min b.toNat k.bits))
def shlI (k:IntKind) (a b:Int):Int:=k.wrap (a*2 ^ (min b.toNat k.bits))
def sBin (P:Program) (op:BinOp) (t:TypeId) (x y:AV):Res :=
 match x,y with
 | .r (.it k a), .r (.it k' b) =>
   match op with
   | .add=>.when (k=k') (.r (.it k (k.wrap (a+b))))
   | .sub=>.when (k=k') (.r (.it k (k.wrap (a-b))))
   | .mul=>.when (k=k') (.r (.it k (k.wrap (a*b))))
   | .quo=>.when (k=k'∧b≠0) (.r (.it k (k.wrap (a.tdiv b))))
   | .rem=>.when (k=k'∧b≠0) (.r (.it k (a.tmod b)))
   | .eql=>.when (k=k') (.r (.bo (a == b)))
   | .neq=>.when (k=k') (.r (.bo (a != b)))
   | .lss=>.when (k=k') (.r (.bo (decide (a<b))))
   | .leq=>.when (k=k') (.r (.bo (decide (a≤b))))
   | .gtr=>.when (k=k') (.r (.bo (decide (a > b))))
   | .geq=>.when (k=k') (.r (.bo (decide (a ≥ b))))
   | .and=>.when (k=k') (.r (.it k (bitAnd k a b)))
   | .or=>.when (k=k') (.r (.it k (bitOr k a b)))
   | .shr=>.when (0≤b) (.r (.it k (shrI k a b)))
   | .shl=>.when (0≤b) (.r (.it k (shlI k a b)))
   | _=>.bad
 | .r (.bo a), .r (.bo b) =>
   match op,((tyq P t).map (·.k):Option TK) with
   | .eql,some .bool=>.val (.r (.bo (a == b)))
   | .neq,some .bool=>.val (.r (.bo (!(a == b))))
   | _,_=>.bad
 | x,y=>sEq P op t x y
def sUn (op:UnOp) (x:AV):Res :=
 match op,x with
 | .not,.r (.bo b)=>.val (.r (.bo (!b)))
 | .neg,.r (.it k n)=>.val (.r (.it k (k.wrap (0-n))))
 | _,_=>.bad
def sConv (P:Program) (src dst:TypeId) (x:AV):Res :=
 match tyq P src,tyq P dst,x with
 | some _,some ⟨.int k,_,_,_⟩,.r (.it _ n)=>.val (.r (.it k (k.wrap n)))
 | _,_,_=>.bad
def sLoad (P:Program) (s:AS) (t:TypeId) (a:AV):Res :=
 match tyq P t,a with
 | some T,.r (.rp cs)=>.when (need T≤cs.length) (.r (cutR cs T))
 | some T, .pt k n off =>
   match s.rows k with
   | ⟨n',.box cs⟩=>.when (n=n'∧need T≤(cs.drop off).length) (cutA (cs.drop off) T)
   | _=>.bad
 | some T, .pe k n sz idx off =>
   match s.rows k with
   | ⟨n',.arr _ sz' es⟩=>.when (n=n'∧sz=sz'∧0<need T∧need T≤((es.getD idx []).drop off).length) (.r (cutR ((es.getD idx []).drop off) T))
   | ⟨n',.ara _ _ cs⟩=>.when (n=n'∧need T≤(cs.drop (idx*sz+off)).length) (cutA (cs.drop (idx*sz+off)) T)
   | _=>.bad
 | _,_=>.bad
def sStore (P:Program) (s:AS) (t:TypeId) (a x:AV):Res :=
 match tyq P t,a,x.cells? s.ver with
 | some T, .pt k n off, some xs =>
   match s.rows k with
   | ⟨n',.box cs⟩=>⟨n=n'∧xs.length=T.sz∧off+T.sz≤cs.length,True,⟨.r .ud,[(k,⟨n',.box (cs.take off++(xs++cs.drop (off+T.sz)))⟩)]⟩⟩
   | _=>.bad
 | some T, .pe k n sz idx off, some xs =>
   match s.rows k,roL xs with
   | ⟨n',.arr t' sz' es⟩,some xs=>⟨n=n'∧sz=sz'∧idx<es.length∧xs.length=T.sz∧off+T.sz≤sz,True,
    ⟨.r .ud,[(k,⟨n',.arr t' sz' (es.set idx ((es.getD idx []).take off++(xs++(es.getD idx []).drop (off+T.sz))))⟩)]⟩⟩
   | ⟨n',.ara t' sz' cs⟩,_=>⟨n=n'∧xs.length=T.sz∧idx*sz+off+T.sz≤cs.length,True,⟨.r .ud,[(k,⟨n',.ara t' sz' (cs.take (idx*sz+off)++(xs++cs.drop (idx*sz+off+T.sz)))⟩)]⟩⟩
   | _,_=>.bad
 | _,_,_=>.bad
def sBox (s:AS) (d:Nat) (x:AV):Res :=
 match x.cells? s.ver with
 | some cs=>⟨d<1000,True,⟨.pt d ((s.rows d).ver+1) 0,[(d,⟨(s.rows d).ver+1,.box cs⟩)]⟩⟩
 | none=>.bad
def sAlloc (P:Program) (s:AS) (d:Nat) (t:TypeId):Res :=
 match tyq P t with
 | some T=>⟨d<1000,True,⟨.pt d ((s.rows d).ver+1) 0,[(d,⟨(s.rows d).ver+1,.box (T.zero.map .r)⟩)]⟩⟩
 | none=>.bad
def sField (P:Program) (s:AS) (t:TypeId) (a:AV) (f:Nat):Res :=
 match tyq P t with
 | some ⟨.struct fs, _, _, _⟩ =>
   match fs[f]? with
   | some (o, _, _) =>
     match a with
     | .r (.rp cs)=>.val (.r (.rp (cs.drop o)))
     | .pt k n off=>.when (n=s.ver k) (.pt k n (off+o))
     | .pe k n sz idx off=>.when (n=s.ver k) (.pe k n sz idx (off+o))
     | _=>.bad
   | none=>.bad
 | _=>.bad
def sPart (cs:AV) (o sz:Nat) (agg:Bool) (c:Prop):Res :=
 match cs with
 | .r (.ag cs)=>.when (c∧o+(if agg then sz else 1)≤cs.length) (.r (if agg then .ag ((cs.drop o).take sz) else (cs.drop o).headD .un))
 | .ag cs=>.when (c∧o+(if agg then sz else 1)≤cs.length) (if agg then .ag ((cs.drop o).take sz) else (cs.drop o).headD (.r .un))
 | _=>.bad
def sFieldV (P:Program) (t:TypeId) (x:AV) (f:Nat):Res :=
 match tyq P t with
 | some ⟨.struct fs, _, _, _⟩ =>
   match fs[f]? with
   | some (o,sz,agg)=>sPart x o sz agg True
   | none=>.bad
 | _=>.bad
def sIndexV (P:Program) (t:TypeId) (x i:AV):Res :=
 match tyq P t,i with
 | some ⟨.arr n esz eagg,_,_,_⟩,.r (.it _ i)=>sPart x (i.toNat*esz) esz eagg (0≤i∧i<(n:Int))
 | _,_=>.bad
def sIndex (P:Program) (s:AS) (t:TypeId) (x i:AV):Res :=
 match tyq P t,i with
 | some ⟨.slice _ esz _ _, _, _, _⟩, .r (.it _ i) =>
   match x with
   | .r (.sl sz es)=>.when (sz=esz∧0≤i∧i<(es.length:Int)) (.r (.rp (es.getD i.toNat [])))
   | .os k n sz off m=>.when (n=s.ver k∧sz=esz∧0≤i∧i<(m:Int)) (.pe k n sz (off+i.toNat) 0)
   | _=>.bad
 | some ⟨.arr n esz _, _, _, _⟩, .r (.it _ i) =>
   match x with
   | .r (.rp cs)=>.when (0≤i∧i<(n:Int)) (.r (.rp (cs.drop (i.toNat*esz))))
   | .pt k v off=>.when (v=s.ver k∧0≤i∧i<(n:Int)) (.pt k v (off+i.toNat*esz))
   | .pe k v sz idx off=>.when (v=s.ver k∧0≤i∧i<(n:Int)) (.pe k v sz idx (off+i.toNat*esz))
   | _=>.bad
 | _,_=>.bad
def bound (x:Option AV) (d:Int):Option Int :=
 match x with
 | none=>some d
 | some (.r (.it _ i))=>some i
 | _=>none
def lenA (s:AS):AV→Option (Prop × Nat)
 | .r (.sl _ es)=>some (True,es.length)
 | .r .ns=>some (True,0)
 | .os k n _ _ m=>some (n=s.ver k,m)
 | _=>none
def rowLen:RowC→Int
 | .arr _ _ es=>es.length
 | _=>0
def sSlice3 (s:AS) (x:AV) (lo hi:Option AV) (mx:AV):Res :=
 match lenA s x,bound lo 0,bound hi (-1),mx with
 | some (c,m),some l,some h,.r (.it _ q)=>.when (c∧0≤l∧l≤h∧h≤q∧q≤(m:Int)) (.r .un)
 | _,_,_,_=>.bad
def chunk (sz:Nat):Nat→List RV→List (List RV)
 | 0,_=>[]
 | n+1,cs=>cs.take sz::chunk sz n (cs.drop sz)
def sSliceA (n esz:Nat) (x:AV) (lo hi mx:Option AV):Res :=
 match x,lo,hi,mx with
 | .r (.rp cs),none,none,none=>.when (n*esz≤cs.length∧n≤maxLen) (.r (.sl esz (chunk esz n cs)))
 | _,_,_,_=>.bad
def sSlice (P:Program) (s:AS) (t:TypeId) (x:AV) (lo hi mx:Option AV):Res :=
 match tyq P t,mx with
 | some ⟨.slice _ esz _ _, _, _, _⟩, none =>
   match x with
   | .r (.sl sz es) =>
     match bound lo 0,bound hi es.length with
     | some l,some h=>.when (sz=esz∧0≤l∧l≤h∧h≤(es.length:Int)) (.r (.sl sz ((es.take h.toNat).drop l.toNat)))
     | _,_=>.bad
   | .os k n sz off m =>
     match bound lo 0,bound hi m with
     | some l,some h=>.when (n=s.ver k∧sz=esz∧0≤l∧l≤h∧(h≤(m:Int)∨(off=0∧h+off≤rowLen (s.rows k).c))) (.os k n sz (off+l.toNat) (h.toNat-l.toNat))
     | _,_=>.bad
   | .r .ns =>
     match bound lo 0,bound hi 0 with
     | some l,some h=>.when (l=0∧h=0) (.r .ns)
     | _,_=>.bad
   | _=>.bad
 | some ⟨.slice _ _ _ _,_,_,_⟩,some mx=>sSlice3 s x lo hi mx
 | some ⟨.arr n esz _,_,_,_⟩,mx=>sSliceA n esz x lo hi mx
 | _,_=>.bad
def lay (ver:Nat→Nat) (place:Nat→Option (Nat × Nat)):List AV→List (Nat × AV)→Option (List AV)
 | cs,[]=>some cs
 | cs, (i, x)::rest =>
   match place i,x.cells? ver with
   | some (o,sz),some xs=>if xs.length=sz∧o+sz≤cs.length then lay ver place (cs.take o++(xs++cs.drop (o+sz))) rest else none
   | _,_=>none
def sBuild (P:Program) (s:AS) (t:TypeId) (parts:List (Nat × AV)):Res :=
 match tyq P t with
 | some ⟨.struct fs, _, _, z⟩ =>
   match lay s.ver (fun i=>(fs[i]?).map fun f=>(f.1,f.2.1)) (z.map .r) parts with
   | some cs=>.val (.ag cs)
   | none=>.bad
 | some ⟨.arr _ esz _, _, _, z⟩ =>
   match lay s.ver (fun i=>some (i*esz,esz)) (z.map .r) parts with
   | some cs=>.val (.ag cs)
   | none=>.bad
 | _=>.bad
def layE (ver:Nat→Nat) (esz:Nat):List (List RV)→List (Nat × AV)→Option (List (List RV))
 | es,[]=>some es
 | es, (i, x)::rest =>
   match (x.cells? ver).bind roL with
   | some xs=>if xs.length=esz∧i<es.length then layE ver esz (es.set i xs) rest else none
   | _=>none
def sBuildSlice (P:Program) (s:AS) (t:TypeId) (len:Nat) (parts:List (Nat × AV)):Res :=
 match tyq P t with
 | some ⟨.slice _ esz _ ez, _, _, _⟩ =>
   if len=0 then .when (parts=[]) (.r .ns) else
   match layE s.ver esz (List.replicate len ez) parts with
   | some es=>.when (0<esz∧len*esz≤16777216) (.r (.sl esz es))
   | none=>.bad
 | _=>.bad
def sMakeSlice (P:Program) (s:AS) (d:Nat) (t:TypeId) (l c:AV):Res :=
 match tyq P t,l,c with
 | some ⟨.slice e esz eb ez, _, _, _⟩, .r (.it _ l), .r (.it _ c) =>
   ⟨0≤l∧l≤c∧(eb:Int)*c≤281474976710656∧c≤9223372036854775807∧0<esz∧d<1000,True,
    ⟨.os d ((s.rows d).ver+1) esz 0 l.toNat,[(d,⟨(s.rows d).ver+1,.arr e esz (List.replicate l.toNat ez)⟩)]⟩⟩
 | _,_,_=>.bad
def news? (s:AS):AV→Option (Prop × Nat × List (List RV))
 | .r .ns=>some (True,0,[])
 | .r (.sl sz es)=>some (True,sz,es)
 | .os k n sz off m =>
   match s.rows k with
   | ⟨n',.arr _ sz' es⟩=>some (n=n'∧sz=sz'∧off+m≤es.length,sz,(es.drop off).take m)
   | _=>none
 | _=>none
def sAppend (P:Program) (s:AS) (d:Nat) (t t':TypeId) (x y:AV):Res :=
 match tyq P t,decide (t=t'),x,news? s y with
 | some ⟨.slice e esz eb _, _, _, _⟩, true, .r .ns, some (c, sz, ns) =>
   ⟨c∧(sz=esz∨ns=[])∧0<esz∧ns.length*eb≤140737488355328∧ns.length≤9223372036854775807∧d<1000,True,
    ⟨.os d ((s.rows d).ver+1) esz 0 ns.length,[(d,⟨(s.rows d).ver+1,.arr e esz ns⟩)]⟩⟩
 | some ⟨.slice e esz eb _, _, _, _⟩, true, .r (.sx sz0 es), some (c, sz, ns) =>
   ⟨c∧sz0=esz∧(sz=esz∨ns=[])∧0<ns.length∧0<esz∧(es.length+ns.length)*eb≤140737488355328∧es.length+ns.length≤9223372036854775807∧d<1000,True,
    ⟨.os d ((s.rows d).ver+1) esz 0 (es.length+ns.length),[(d,⟨(s.rows d).ver+1,.arr e esz (es++ns)⟩)]⟩⟩
 | some ⟨.slice e esz eb _, _, _, _⟩, true, .os k n sz0 off m, some (c, sz, ns) =>
   match s.rows k with
   | ⟨n', .arc e' sz' es c0⟩ =>
     ⟨c∧n=n'∧e'=e∧sz0=esz∧sz'=esz∧off=0∧m=es.length∧(sz=esz∨ns=[])∧0<ns.length∧0<esz∧m+ns.length≤c0,True,
      ⟨.os k n' esz 0 (m+ns.length),[(k,⟨n',.arc e esz (es++ns) c0⟩)]⟩⟩
   | ⟨n', .arr e' sz' es⟩ =>
     if off=0∧m=es.length then
     ⟨c∧n=n'∧e'=e∧sz0=esz∧sz'=esz∧off=0∧m=es.length∧(sz=esz∨ns=[])∧0<esz∧(m+ns.length)*eb≤140737488355328∧m+ns.length≤9223372036854775807∧k<1000,True,
      ⟨.os k (n'+1) esz 0 (m+ns.length),[(k,⟨n'+1,.arr e esz (es++ns)⟩)]⟩⟩
     else
     ⟨c∧n=n'∧e'=e∧sz0=esz∧sz'=esz∧off=0∧(sz=esz∨ns=[])∧0<esz∧m+ns.length≤es.length,True,
      ⟨.os k n' esz 0 (m+ns.length),[(k,⟨n',.arr e esz (es.take m++(ns++es.drop (m+ns.length)))⟩)]⟩⟩
   | _=>.bad
 | _,_,_,_=>.bad
def sAppendZ (P:Program) (s:AS) (d:Nat) (t t':TypeId) (x y:AV):Res :=
 match tyq P t,tyq P t',x,y with
 | some ⟨.slice e esz eb ez, _, _, _⟩, some ⟨.int _, _, _, _⟩, .r .ns, .r (.it k n) =>
   ⟨k = .i64∧0<n∧0<esz∧n.toNat*eb≤140737488355328∧n≤9223372036854775807∧d<1000,True,⟨.os d ((s.rows d).ver+1) esz 0 n.toNat,[(d,⟨(s.rows d).ver+1,.arr e esz (List.replicate n.toNat ez)⟩)]⟩⟩
 | _,_,_,_=>.bad
def sCap (P:Program) (t:TypeId) (x:AV):Res :=
 match tyq P t,x with
 | some ⟨.slice _ _ _ _,_,_,_⟩,.r .ns=>.val (.r (.it .i64 0))
 | _,_=>.bad
def sClear (P:Program) (s:AS) (t:TypeId) (x:AV):Res :=
 match tyq P t,x with
 | some ⟨.slice e esz _ [z], _, _, _⟩, .os k n sz off m =>
   match s.rows k with
   | ⟨n',.arr e' sz' es⟩=>⟨n=n'∧esz=1∧sz=1∧sz'=1∧e'=e∧0<m∧off+m≤es.length,True,⟨.r .un,[(k,⟨n',.arr e 1 (es.take off++(List.replicate m [z]++es.drop (off+m)))⟩)]⟩⟩
   | _=>.bad
 | _,_=>.bad
def sLen (P:Program) (s:AS) (t:TypeId) (x:AV):Res :=
 match tyq P t,x with
 | some ⟨.slice _ _ _ _,_,_,_⟩,.r (.sl _ es)=>⟨True,(es.length:Int)≤9223372036854775807,⟨.r (.it .i64 es.length),[]⟩⟩
 | some ⟨.slice _ _ _ _,_,_,_⟩,.r .ns=>.val (.r (.it .i64 0))
 | some ⟨.slice _ _ _ _,_,_,_⟩,.os k n _ _ m=>⟨n=s.ver k,(m:Int)≤9223372036854775807,⟨.r (.it .i64 m),[]⟩⟩
 | some ⟨.map _ _,_,_,_⟩,.mp k n=>match mapOf (s.rows k).c with|some m=>.when (n=(s.rows k).ver) (.r (.it .i64 m.length))|none=>.bad
 | some ⟨.arr n _ _,_,_,_⟩,.r (.ag _)=>.val (.r (.it .i64 n))
 | some ⟨.arr n _ _,_,_,_⟩,.ag _=>.val (.r (.it .i64 n))
 | _,_=>.bad
def minF (k:IntKind):Int→List AV→Option RV
 | a,[]=>some (.it k a)
 | a,.r (.it k' b)::rest=>if k=k' then minF k (min a b) rest else none
 | _,_=>none
def maxF (k:IntKind):Int→List AV→Option RV
 | a,[]=>some (.it k a)
 | a,.r (.it k' b)::rest=>if k=k' then maxF k (max a b) rest else none
 | _,_=>none
def minA:List AV→Option RV
 | .r (.it k n)::rest=>minF k n rest
 | _=>none
def maxA:List AV→Option RV
 | .r (.it k n)::rest=>maxF k n rest
 | _=>none
def sMinMax (r:Option RV):Res :=
 match r with
 | some v=>.val (.r v)
 | none=>.bad
def sExtract (x:AV) (i:Nat):Res :=
 match x with
 | .r (.tu vs)=>match vs[i]? with|some v=>.val (.r v)|none=>.bad
 | .tu vs=>match vs[i]? with|some v=>.val v|none=>.bad
 | _=>.bad
def sNil (s:AS) (x:AV):Res :=
 match x with
 | .r (.rp cs)=>.val (.r (.rp cs))
 | .pt k n off=>.when (n=s.ver k) (.pt k n off)
 | .pe k n sz idx off=>.when (n=s.ver k) (.pe k n sz idx off)
 | .r (.fn f cs)=>.val (.r (.fn f cs))
 | .fn f cs=>.val (.fn f cs)
 | _=>.bad
def zv (P:Program) (t:TypeId):Option RV:=((P.info? t).bind (·.zero)).map RV.ofV
def isIntT (P:Program) (t:TypeId):Bool:=match P.underlying t with|some (.int _)=>true|_=>false
def keyN (P:Program) (k:TypeId):Option (Option Nat):=if isIntT P k then some none else match eqT P k with|some n=>some (some n)|none=>none
def mapT (P:Program) (t:TypeId):Option (Nat × Nat × Option Nat) :=
 match P.underlying t with
 | some (.map k e)=>match keyN P k with|some kn=>some (k,e,kn)|none=>none
 | _=>none
def sameK:RV→RV→Option Bool
 | .it k a,.it k' b=>if k=k' then some (a == b) else none
 | .ag as,.ag bs=>cmpL as bs
 | _,_=>none
def findK (key:RV):List (RV × RV)→Nat→Option (Option (Nat × RV))
 | [],_=>some none
 | e::es, i =>
   match sameK key e.1 with
   | some true=>some (some (i,e.2))
   | some false=>findK key es (i+1)
   | none=>none
def allIt:List RV→Bool
 | []=>true
 | .it _ _::xs=>allIt xs
 | _=>false
def keyOk:Option Nat→RV→Bool
 | none,.it _ _=>true
 | some n,.ag xs=>decide (xs.length=n)&&allIt xs
 | _,_=>false
def sMakeMap (P:Program) (s:AS) (d:Nat) (t:TypeId):Res :=
 match mapT P t with
 | some _=>⟨d<1000,True,⟨.mp d ((s.rows d).ver+1),[(d,⟨(s.rows d).ver+1,.mp []⟩)]⟩⟩
 | none=>.bad
def sLookup (P:Program) (s:AS) (t:TypeId) (x key:AV) (ok:Bool):Res :=
 match mapT P t,x,valR key with
 | some (_, e, kn), .mp k n, some key =>
   match mapOf (s.rows k).c,zv P e with
   | some m, some z =>
     match findK key m 0 with
     | some (some (_,v))=>.when (n=(s.rows k).ver∧keyOk kn key=true) (if ok then .r (.tu [v,.bo true]) else .r v)
     | some none=>.when (n=(s.rows k).ver∧keyOk kn key=true) (if ok then .r (.tu [z,.bo false]) else .r z)
     | none=>.bad
   | _,_=>.bad
 | _,_,_=>.bad
def sMapUpdate (P:Program) (s:AS) (t:TypeId) (x key v:AV):Res :=
 match mapT P t,x,valR key,valR v with
 | some (_, _, kn), .mp k n, some key, some v =>
   match s.rows k with
   | ⟨n', .mp m⟩ =>
     match findK key m 0 with
     | some (some (i,_))=>⟨n=n'∧keyOk kn key=true,True,⟨.r .ud,[(k,⟨n',.mp (m.set i (key,v))⟩)]⟩⟩
     | some none=>⟨n=n'∧keyOk kn key=true,True,⟨.r .ud,[(k,⟨n',.mp (m++[(key,v)])⟩)]⟩⟩
     | none=>.bad
   | _=>.bad
 | _,_,_,_=>.bad
def sMapEntry (P:Program) (s:AS) (t:TypeId) (x key:AV):Res :=
 match mapT P t,x,valR key with
 | some (_, e, kn), .mp k n, some key =>
   match s.rows k,zv P e with
   | ⟨n', .mpx m bs cl⟩, some z =>
     match findK key m 0 with
     | some (some (i,v))=>⟨n=n'∧keyOk kn key=true,True,⟨.r (.tu [v,.it .i64 (bs.getD i 0:Nat)]),[(k,⟨n',.mpx m bs cl⟩)]⟩⟩
     | some none=>⟨n=n'∧keyOk kn key=true,True,⟨.r (.tu [z,.it .i64 cl]),[(k,⟨n',.mpx (m++[(key,z)]) (bs++[cl]) (cl+1)⟩)]⟩⟩
     | none=>.bad
   | _,_=>.bad
 | _,_,_=>.bad
def bornAt (σ:Int):List Nat→List (RV × RV)→RV→Option (List (RV × RV))
 | b::bs,e::m,v=>if (b:Int)=σ then some ((e.1,v)::m) else match bornAt σ bs m v with|some m'=>some (e::m')|none=>none
 | _,_,_=>none
def sEntryStore (s:AS) (x st v:AV):Res :=
 match x,st,valR v with
 | .mp k n, .r (.it .i64 σ), some v =>
   match s.rows k with
   | ⟨n', .mpx m bs cl⟩ =>
     match bornAt σ bs m v with
     | some m'=>⟨n=n',True,⟨.r .ud,[(k,⟨n',.mpx m' bs cl⟩)]⟩⟩
     | none=>.bad
   | _=>.bad
 | _,_,_=>.bad
def sRange (P:Program) (s:AS) (d:Nat) (t:TypeId) (x:AV):Res :=
 match mapT P t,x with
 | some _, .mp k n =>
   match s.rows k with
   | ⟨n',.mp m⟩=>⟨n=n'∧d<1000∧d≠k,True,⟨.mi d ((s.rows d).ver+1),[(k,⟨n',.mpi m⟩),(d,⟨(s.rows d).ver+1,.mi k n' m none⟩)]⟩⟩
   | _=>.bad
 | _,_=>.bad
def sEntry (s:AS) (x:AV):Res :=
 match x with
 | .mi k n =>
   match s.rows k with
   | ⟨n',.mi km nm _ (some e)⟩=>.when (n=n'∧nm=(s.rows km).ver) (.r (.tu [e.1,e.2]))
   | _=>.bad
 | _=>.bad
def AS.row (s:AS) (k:Nat) (r:Row):AS:={ s with rows:=upd s.rows k r }
def sNext (s:AS) (d:Option Nat) (x:AV) (K:AS→Prop):Prop :=
 match x with
 | .mi k n =>
   match s.rows k with
   | ⟨n',.mi km nm left _⟩=>n=n'∧nm=(s.rows km).ver∧k≠km∧(left=[]→K (s.put d (.r (.tu [.bo false])))) ∧
    ∀ i e,left[i]? = some e→K (AS.put (s.row k ⟨n',.mi km nm (left.eraseIdx i) (some e)⟩) d (.r (.tu [.bo true,e.1,e.2])))
   | _=>False
 | _=>False
def sBuiltin (P:Program) (s:AS) (d:Nat) (b:Builtin) (ts:List TypeId) (xs:List AV):Res :=
 match b,ts,xs with
 | .len,[t],[x]=>sLen P s t x
 | .min,_,xs=>sMinMax (minA xs)
 | .max,_,xs=>sMinMax (maxA xs)
 | .append,[t,t'],[x,y]=>if t=t' then sAppend P s d t t' x y else sAppendZ P s d t t' x y
 | .cap,[t],[x]=>sCap P t x
 | .clear,[t],[x]=>sClear P s t x
 | _,_,_=>.bad
def step (P:Program) (o:Oper) (s:AS):Res :=
 match o.op with
 | .move x=>.val (s.ev x)
 | .assign x=>.val (s.ev x)
 | .pick c a b=>sPick (s.ev c) (s.ev a) (s.ev b)
 | .binOp op t x y _=>sBin P op t (s.ev x) (s.ev y)
 | .unOp op _ x=>sUn op (s.ev x)
 | .convert a b x=>sConv P a b (s.ev x)
 | .load t a=>sLoad P s t (s.ev a)
 | .store t a x=>sStore P s t (s.ev a) (s.ev x)
 | .box _ x=>sBox s (o.dst.getD 0) (s.ev x)
 | .alloc t=>sAlloc P s (o.dst.getD 0) t
 | .fieldAddr t x f=>sField P s t (s.ev x) f
 | .field t x f=>sFieldV P t (s.ev x) f
 | .indexAddr t x i=>sIndex P s t (s.ev x) (s.ev i)
 | .index t x i=>sIndexV P t (s.ev x) (s.ev i)
 | .slice t x lo hi mx=>sSlice P s t (s.ev x) (lo.map s.ev) (hi.map s.ev) (mx.map s.ev)
 | .build t ps=>sBuild P s t (ps.toList.map fun (i,x)=>(i,s.ev x))
 | .buildSlice t n ps=>sBuildSlice P s t n (ps.toList.map fun (i,x)=>(i,s.ev x))
 | .makeSlice t l c=>sMakeSlice P s (o.dst.getD 0) t (s.ev l) (s.ev c)
 | .makeFunc (.func f) first caps=>if first.isEmpty then .val (.fn f (caps.toList.map s.ev)) else .bad
 | .extract x i=>sExtract (s.ev x) i
 | .nilCheck x=>sNil s (s.ev x)
 | .makeMap t none=>sMakeMap P s (o.dst.getD 0) t
 | .lookup t x i ok=>sLookup P s t (s.ev x) (s.ev i) ok
 | .mapUpdate t m i x=>sMapUpdate P s t (s.ev m) (s.ev i) (s.ev x)
 | .mapEntry t m i=>sMapEntry P s t (s.ev m) (s.ev i)
 | .entryStore _ m i x=>sEntryStore s (s.ev m) (s.ev i) (s.ev x)
 | .range t x=>sRange P s (o.dst.getD 0) t (s.ev x)
 | .entry x=>sEntry s (s.ev x)
 | .call ⟨.builtin b,args,ts⟩=>sBuiltin P s (o.dst.getD 0) b ts.toList (args.toList.map s.ev)
 | _=>.bad
def Yi.rows (y:Yi) (rows:Nat→Row):Nat→Row:=y.eff.foldl (fun f p=>upd f p.1 p.2) rows
def AS.app (s:AS) (d:Option Nat) (y:Yi):AS:=AS.put { s with rows:=y.rows s.rows } d y.av
section
variable {P:Program}{t:TypeId}{w:World}
theorem tyq_base {T:TI}(h:tyq P t=some T):okT P t=true∧T.sz=P.cellsOf t∧T.agg=aggOf P t∧∃ z,zeroOf P t=some z∧T.zero=z.map RV.ofV1:=by
 unfold tyq at h
 split at h
 ·rename_i hok
  split at h
  ·cases h
  ·rename_i z hz
   dsimp only at h
   split at h<;>(try split at h)<;>(try split at h)<;>first
    | (injection h with h;subst h;exact⟨hok,rfl,rfl,z,hz,rfl⟩)
    | cases h
 ·cases h
theorem okT_info (h:okT P t=true):∃ i,P.info? t=some i:=by
 unfold okT at h
 simp only[Bool.and_eq_true,Option.isSome_iff_exists] at h
 exact h.1
theorem okT_und (h:okT P t=true):∃ d,P.underlying t=some d:=by
 unfold okT at h
 simp only[Bool.and_eq_true,Option.isSome_iff_exists] at h
 exact h.2
theorem zci {i:TypeInfo}(h:P.info? t=some i):P.cellsOf t=i.size:=by simp [Program.cellsOf,h]
theorem bytesOf_info {i:TypeInfo}(h:P.info? t=some i):P.bytesOf t=i.bytes:=by simp [Program.bytesOf,h]
theorem zrs (h:okT P t=true):(sizeOf t).run P w = .ok (P.cellsOf t) w:=by
 obtain⟨i,hi⟩:=okT_info h
 simp [sizeOf,typeInfo,hi,zci hi]
theorem run_isAgg_ok (h:okT P t=true):(isAgg t).run P w = .ok (aggOf P t) w:=by
 obtain⟨d,hd⟩:=okT_und h
 simp only[isAgg,Sem.run_bind,run_underlying hd,Result.andThen_ok,aggOf,hd]
 cases d<;>rfl
theorem zeroOf_spec {z:List Value}(h:zeroOf P t=some z):∃ i v,P.info? t=some i∧i.zero=some v∧v.cells.toList=z∧(∀ u∈z,u.oneCell'=true)∧z.length=P.cellsOf t:=by
 unfold zeroOf at h
 split at h
 ·rename_i v hv
  split at h
  ·rename_i hc
   injection h with h
   subst h
   cases hi:P.info? t with
   | none=>simp [hi] at hv
   | some i =>
     simp only[hi,Option.bind_some] at hv
     simp only[Bool.and_eq_true,List.all_eq_true,beq_iff_eq] at hc
     exact⟨i,v,rfl,hv,rfl,hc.1,by simpa using hc.2⟩
  ·cases h
 ·cases h
theorem run_zeroValue_ok {z:List Value}(h:zeroOf P t=some z):∃ v,(zeroValue t).run P w = .ok v w∧v.cells.toList=z:=by
 obtain⟨i,v,hi,hz,hv,_⟩:=zeroOf_spec h
 exact⟨v,by simp [zeroValue,typeInfo,hi,hz],hv⟩
theorem tyq_int {k:IntKind}{sz:Nat}{agg:Bool}{z:List RV}(h:tyq P t=some ⟨.int k,sz,agg,z⟩):P.underlying t=some (.int k):=by
 unfold tyq at h
 split at h
 ·split at h
  ·cases h
  ·dsimp only at h
   split at h<;>(try split at h)<;>(try split at h)<;>first
    | (injection h with h;injection h with h1 h2;first|(injection h1 with h1;subst h1;assumption)|cases h1)
    | cases h
 ·cases h
theorem tyq_bool {sz:Nat}{agg:Bool}{z:List RV}(h:tyq P t=some ⟨.bool,sz,agg,z⟩):P.underlying t=some .bool:=by
 unfold tyq at h
 split at h
 ·split at h
  ·cases h
  ·dsimp only at h
   split at h<;>(try split at h)<;>(try split at h)<;>first
    | (cases h;done)
    | (cases h;assumption)
 ·cases h
theorem tyq_slice {e esz eb:Nat}{ez:List RV}{sz:Nat}{agg:Bool}{z:List RV}(h:tyq P t=some ⟨.slice e esz eb ez,sz,agg,z⟩) :
 P.underlying t=some (.slice e)∧okT P e=true∧P.cellsOf e=esz∧P.bytesOf e=eb∧∃ zv,zeroOf P e=some zv∧ez=zv.map RV.ofV1:=by
 unfold tyq at h
 split at h
 ·split at h
  ·cases h
  ·dsimp only at h
   split at h<;>(try split at h)<;>(try split at h)<;>first
    | (injection h with h;injection h with h1 h2;first|(injection h1 with h1 h3 h4 h5;subst h1;subst h3;subst h4;subst h5;exact⟨by assumption,by assumption,rfl,rfl,_,by assumption,rfl⟩)|cases h1)
    | cases h
 ·cases h
theorem tyq_arr {n esz:Nat}{eagg:Bool}{sz:Nat}{agg:Bool}{z:List RV}(h:tyq P t=some ⟨.arr n esz eagg,sz,agg,z⟩) :
 ∃ e,P.underlying t=some (.array n e)∧okT P e=true∧P.cellsOf e=esz∧aggOf P e=eagg:=by
 unfold tyq at h
 split at h
 ·split at h
  ·cases h
  ·dsimp only at h
   split at h<;>(try split at h)<;>(try split at h)<;>first
    | (injection h with h;injection h with h1 h2;first|(injection h1 with h1 h3 h4;subst h1;subst h3;subst h4;exact⟨_,by assumption,by assumption,rfl,rfl⟩)|cases h1)
    | cases h
 ·cases h
theorem tyq_map {k e:Nat}{sz:Nat}{agg:Bool}{z:List RV}(h:tyq P t=some ⟨.map k e,sz,agg,z⟩):P.underlying t=some (.map k e):=by
 unfold tyq at h
 split at h
 ·split at h
  ·cases h
  ·dsimp only at h
   split at h<;>(try split at h)<;>(try split at h)<;>first
    | (injection h with h;injection h with h1 h2;first|(injection h1 with h1 h3;subst h1;subst h3;assumption)|cases h1)
    | cases h
 ·cases h
theorem mapT_spec {k e:Nat}{kn:Option Nat}(h:mapT P t=some (k,e,kn)):P.underlying t=some (.map k e)∧keyN P k=some kn:=by
 unfold mapT at h
 split at h
 ·rename_i k' e' hu
  split at h
  ·rename_i kn' hi
   injection h with h;injection h with h1 h2;injection h2 with h2 h3;subst h1;subst h2;subst h3
   exact⟨hu,hi⟩
  ·cases h
 ·cases h
theorem keyN_none {k:TypeId}(h:keyN P k=some none):∃ kk,P.underlying k=some (.int kk):=by
 unfold keyN at h
 split at h
 ·rename_i hi
  unfold isIntT at hi
  split at hi
  ·rename_i kk e;exact⟨kk,e⟩
  ·cases hi
 ·split at h<;>simp at h
theorem keyN_some {k:TypeId}{n:Nat}(h:keyN P k=some (some n)):eqT P k=some n:=by
 unfold keyN at h
 split at h
 ·simp at h
 ·split at h
  ·rename_i m e;simp at h;subst h;exact e
  ·cases h
theorem relM_length {R:Nat→Prop}:∀ {m:List (RV × RV)}{l:List MapEntry},RV.relM w R m l→l.length=m.length
 | [],_,h=>by simp only[RV.relM] at h;subst h;rfl
 | x::xs, _, h=>by
   simp only[RV.relM] at h
   obtain⟨e,es',rfl,_,_,h⟩:=h
   simp [relM_length h]
theorem mapOf_row {C:Ctx}{p:Plan}{s:AS}{a:Act}(h:SR C p s a w) {k:Nat}{m:List (RV × RV)}(e:mapOf (s.rows k).c=some m):∃ b,p.β k=some b∧mapRel w p.R b m:=by
 have hr:=h.rw k
 unfold mapOf at e
 split at e
 ·rename_i m' e2;injection e with e;subst e;rw[e2] at hr;simpa only[zrl] using hr
 ·rename_i m' e2;injection e with e;subst e;rw[e2] at hr;simpa only[zrl] using hr
 ·rename_i m' bs cl e2
  injection e with e;subst e;rw[e2] at hr
  simp only[zrl] at hr
  obtain⟨b,es,h1,h2,h3,_,h5,h6⟩:=hr
  exact⟨b,h1,es,cl,h2,h3,h5,h6⟩
 ·cases e
theorem all_fields {fs:Array Field}(h:(fs.toList.all fun f=>okT P f.type&&P.cellsOf f.type != 0)=true):∀ f∈fs.toList,okT P f.type=true∧P.cellsOf f.type≠0:=fun f hf=>by
 have:=List.all_eq_true.1 h f hf
 simpa using this
theorem tyq_struct {fs:List (Nat × Nat × Bool)}{sz:Nat}{agg:Bool}{z:List RV}(h:tyq P t=some ⟨.struct fs,sz,agg,z⟩) :
 ∃ fields:Array Field, P.underlying t=some (.struct fields)∧fs=fields.toList.map (fun f=>(f.offset, P.cellsOf f.type, aggOf P f.type)) ∧
   ∀ f∈fields.toList,okT P f.type=true∧P.cellsOf f.type≠0:=by
 unfold tyq at h
 split at h
 ·split at h
  ·cases h
  ·dsimp only at h
   split at h<;>(try split at h)<;>(try split at h)<;>first
    | (injection h with h;injection h with h1 h2;first|(injection h1 with h1;subst h1;exact⟨_,by assumption,rfl,fun f hf=>all_fields (by assumption) f hf⟩)|cases h1)
    | cases h
 ·cases h
end
end Go.Oc

namespace Go.Oc
open Go Go.RowKit
def Done (P:Program) (C:Ctx) (o:Oper) (s:AS) (a:Act) (w:World) (r:Res):Prop :=
 ∃ nx v w' p', (execOp a.eval o).run P w = .ok nx w'∧(nx = .value v∨(nx = .skip∧v=undef))∧r.ass ∧
   SR C p' { s with rows:=r.y.rows s.rows } a w'∧r.y.av.rel w' p' (vers (r.y.rows s.rows)) v
section
variable {P:Program}{C:Ctx}{p:Plan}{s:AS}{a:Act}{w:World}{o:Oper}
theorem done_of {r:Res}(h:SR C p s a w) {v:Value}(hrun:(execOp a.eval o).run P w = .ok (.value v) w) (heff:r.y.eff=[]) (hass:r.ass) (hrel:r.y.av.rel w p s.ver v):Done P C o s a w r:=by
 have hr:r.y.rows s.rows=s.rows:=by simp [Yi.rows,heff]
 refine⟨_,v,w,p,hrun,.inl rfl,hass,?_,?_⟩
 ·rw[hr];exact h
 ·rw[hr];exact hrel
theorem done_when {c:Prop}{av:AV}(h:SR C p s a w) {v:Value}(hrun:(execOp a.eval o).run P w = .ok (.value v) w) (hrel:av.rel w p s.ver v):Done P C o s a w (.when c av) :=
 done_of h hrun rfl trivial hrel
theorem done_v {av:AV}(h:SR C p s a w) {v:Value}(hrun:(execOp a.eval o).run P w = .ok (.value v) w) (hrel:av.rel w p s.ver v):Done P C o s a w (.val av) :=
 done_of h hrun rfl trivial hrel
theorem good_move {x:Operand}(h:SR C p s a w) (ho:o.op = .move x):Done P C o s a w (.val (s.ev x)) :=
 done_v h (by simp [execOp,ho]) (h.ev x)
theorem good_assign {x:Operand}(h:SR C p s a w) (ho:o.op = .assign x):Done P C o s a w (.val (s.ev x)) :=
 done_v h (by simp [execOp,ho]) (h.ev x)
theorem ev_bo {x:Operand}{b:Bool}(h:SR C p s a w) (e:s.ev x = .r (.bo b)):a.eval x = .bool b:=by
 have:=h.ev x;rw[e] at this;simpa [AV.rel,RV.rel] using this
theorem ev_it {x:Operand}{k:IntKind}{n:Int}(h:SR C p s a w) (e:s.ev x = .r (.it k n)):a.eval x = .int k n:=by
 have:=h.ev x;rw[e] at this;simpa [AV.rel,RV.rel] using this
theorem ev_rp {x:Operand}{cs:List RV}(h:SR C p s a w) (e:s.ev x = .r (.rp cs)):∃ ad,a.eval x = .pointer (some ad)∧p.R ad.block∧RV.relC w p.R cs ad 0:=by
 have:=h.ev x;rw[e] at this;simpa [AV.rel,RV.rel] using this
theorem ev_pt {x:Operand}{k n off:Nat}(h:SR C p s a w) (e:s.ev x = .pt k n off) (hn:n=s.ver k):∃ b,p.β k=some b∧a.eval x = .pointer (some ⟨b,off,none⟩):=by
 have:=h.ev x;rw[e] at this;simp only[AV.rel] at this;exact this.2 hn
theorem ev_pe {x:Operand}{k n sz idx off:Nat}(h:SR C p s a w) (e:s.ev x = .pe k n sz idx off) (hn:n=s.ver k):∃ b,p.β k=some b∧a.eval x = .pointer (some ⟨b,idx*sz+off,none⟩):=by
 have:=h.ev x;rw[e] at this;simp only[AV.rel] at this;exact this.2 hn
theorem ev_ns {x:Operand}(h:SR C p s a w) (e:s.ev x = .r .ns):∃ A,a.eval x = .slice A 0 0:=by
 have:=h.ev x;rw[e] at this;simpa [AV.rel,RV.rel] using this
theorem ev_sl {x:Operand}{sz:Nat}{es:List (List RV)}(h:SR C p s a w) (e:s.ev x = .r (.sl sz es)) :
 ∃ A c,a.eval x = .slice A es.length c∧es.length≤c∧c≤maxLen∧(es≠[]→∃ ad,A=some ad∧p.R ad.block∧RV.relE w p.R sz es ad 0):=by
 have:=h.ev x;rw[e] at this;simpa only[AV.rel,RV.rel] using this
theorem ev_os {x:Operand}{k n sz off m:Nat}(h:SR C p s a w) (e:s.ev x = .os k n sz off m) (hn:n=s.ver k) :
 (p.β k=none∧p.γ k=0∧off=0∧m=0∧∃ A,a.eval x = .slice A 0 0) ∨
  ∃ b A,p.β k=some b∧a.eval x = .slice A m (p.γ k-off)∧off+m≤p.γ k∧((0<m∨off=0)→A=some ⟨b,off*sz,none⟩):=by
 have:=h.ev x;rw[e] at this;simp only[AV.rel] at this;exact this.2 hn
theorem good_pick {c x y:Operand}(h:SR C p s a w) (ho:o.op = .pick c x y) (hp:(sPick (s.ev c) (s.ev x) (s.ev y)).pre):Done P C o s a w (sPick (s.ev c) (s.ev x) (s.ev y)):=by
 unfold sPick at hp ⊢
 split at hp
 ·rename_i t e
  have hc:=ev_bo h e
  have hrun:(execOp a.eval o).run P w = .ok (.value (if t then a.eval x else a.eval y)) w:=by
   simp [execOp,ho,hc,asBool]
  refine done_v h hrun ?_
  unfold pickA
  split
  ·rename_i u v e1 e2
   have h1:=ev_bo h e1
   have h2:=ev_bo h e2
   rw[h1,h2]
   cases t<;>simp [AV.rel,RV.rel]
  ·cases t
   ·exact h.ev y
   ·exact h.ev x
 ·exact hp.elim
theorem run_int_shift {op:BinOp}{t t':TypeId}{x y:Operand}(ho:o.op = .binOp op t x y t') {k k':IntKind}{m n:Int}(hx:a.eval x = .int k m) (hy:a.eval y = .int k' n) {v:Value}
 (hr:(Go.binOp op t (.int k m) (.int k' n)).run P w = .ok v w):(execOp a.eval o).run P w = .ok (.value v) w:=by
 have hg:(eqGuard op t x y (.int k m) (.int k' n)).run P w = .ok () w:=by
  unfold eqGuard
  split<;>simp
 simp [execOp,ho,hx,hy,hg,hr]
theorem run_and {P:Program}{t:TypeId}{k:IntKind}{m n:Int}(w:World):(Go.binOp .and t (.int k m) (.int k n)).run P w = .ok (.int k (bitAnd k m n)) w:=by
 simp only[Go.binOp,Op.intBits,ne_eq,not_true_eq_false,if_false,Sem.run_pure,bitAnd]
theorem run_or {P:Program}{t:TypeId}{k:IntKind}{m n:Int}(w:World):(Go.binOp .or t (.int k m) (.int k n)).run P w = .ok (.int k (bitOr k m n)) w:=by
 simp only[Go.binOp,Op.intBits,ne_eq,not_true_eq_false,if_false,Sem.run_pure,bitOr]
theorem run_shr {P:Program}{t:TypeId}{k k':IntKind}{m n:Int}(w:World) (hn:0≤n):(Go.binOp .shr t (.int k m) (.int k' n)).run P w = .ok (.int k (shrI k m n)) w:=by
 simp only[Go.binOp,Op.shift,if_neg (show ¬ n<0 by omega),Sem.run_pure,shrI]
theorem run_shl {P:Program}{t:TypeId}{k k':IntKind}{m n:Int}(w:World) (hn:0≤n):(Go.binOp .shl t (.int k m) (.int k' n)).run P w = .ok (.int k (shlI k m n)) w:=by
 simp only[Go.binOp,Op.shift,if_neg (show ¬ n<0 by omega),Sem.run_pure,shlI]
theorem good_un {op:UnOp}{t:TypeId}{x:Operand}(h:SR C p s a w) (ho:o.op = .unOp op t x) (hp:(sUn op (s.ev x)).pre):Done P C o s a w (sUn op (s.ev x)):=by
 unfold sUn at hp ⊢
 split at hp
 ·rename_i b e
  exact done_v h (v:=.bool (!b)) (by simp [execOp,ho,ev_bo h e,Op.unary]) (by simp [AV.rel,RV.rel])
 ·rename_i k n e
  exact done_v h (v:=.int k (k.wrap (0-n))) (by simp [execOp,ho,ev_it h e,Op.unary,Op.intArith]) (by simp [AV.rel,RV.rel])
 ·exact hp.elim
theorem run_int_bin {op:BinOp}{t t':TypeId}{x y:Operand}(ho:o.op = .binOp op t x y t') {k:IntKind}{m n:Int}(hx:a.eval x = .int k m) (hy:a.eval y = .int k n) {v:Value}
 (hr:(Go.binOp op t (.int k m) (.int k n)).run P w = .ok v w):(execOp a.eval o).run P w = .ok (.value v) w:=by
 have hg:(eqGuard op t x y (.int k m) (.int k n)).run P w = .ok () w:=by
  unfold eqGuard
  split<;>simp
 simp [execOp,ho,hx,hy,hg,hr]
theorem run_equal_bool {t:TypeId}(w:World) (hu:P.underlying t=some .bool) (u v:Bool):(Op.equal t (.bool u) (.bool v)).run P w = .ok (u == v) w:=by
 have h:∀ d:Nat,(Op.equalIn (d+1) t (.bool u) (.bool v)).run P w = .ok (u == v) w:=fun d=>by
  simp only[Op.equalIn,Sem.run_bind,run_underlying hu,Result.andThen_ok,Sem.run_pure]
 exact h 9999
theorem roL_rel:∀ {xs:List AV}{ys:List RV}{vs:List Value}{ver:Nat→Nat},roL xs=some ys→AV.relV w p ver xs vs→RV.relV w p.R ys vs
 | [],ys,vs,_,h,hV=>by simp only[roL] at h;injection h with h;subst h;simpa only[AV.relV,RV.relV] using hV
 | x::xs, ys, vs, _, h, hV=>by
   cases x with
   | r v =>
     simp only[roL] at h
     cases hr:roL xs with
     | none=>simp [hr] at h
     | some zs =>
       simp only[hr,Option.some.injEq] at h
       subst h
       simp only[AV.relV] at hV
       obtain⟨u,us,rfl,hu,hV⟩:=hV
       simp only[RV.relV]
       simp only[AV.rel] at hu
       exact⟨u,us,rfl,hu,roL_rel hr hV⟩
   | _=>simp [roL] at h
theorem agR_rel {x:AV}{xs:List RV}{v:Value}{ver:Nat→Nat}(h:agR x=some xs) (hx:x.rel w p ver v):∃ vs,v = .agg vs∧(∀ u∈vs.toList,u.oneCell'=true)∧RV.relV w p.R xs vs.toList:=by
 unfold agR at h
 split at h
 ·injection h with h;subst h
  simp only[AV.rel,RV.rel] at hx
  exact hx
 ·simp only[AV.rel] at hx
  obtain⟨vs,e,h1,hV⟩:=hx
  exact⟨vs,e,h1,roL_rel h hV⟩
 ·cases h
theorem valR_rel {x:AV}{y:RV}{v:Value}{ver:Nat→Nat}(h:valR x=some y) (hx:x.rel w p ver v):y.rel w p.R v:=by
 unfold valR at h
 split at h
 ·injection h with h;subst h;simpa only[AV.rel] using hx
 ·split at h
  ·rename_i xs e
   injection h with h;subst h
   simp only[AV.rel] at hx
   obtain⟨vs,e2,h1,hV⟩:=hx
   simp only[RV.rel];exact⟨vs,e2,h1,roL_rel e hV⟩
  ·cases h
 ·cases h
theorem cmpL_len:∀ {as bs:List RV}{r:Bool},cmpL as bs=some r→as.length=bs.length
 | [],[],_,_=>rfl
 | [],_::_,_,h=>by simp [cmpL] at h
 | a::as,[],_,h=>by cases a<;>simp [cmpL] at h
 | a::as, b::bs, r, h=>by
   cases a<;>cases b<;>simp only[cmpL,reduceCtorEq] at h
   split at h
   ·split at h
    ·rename_i e;simp [cmpL_len e]
    ·cases h
   ·cases h
theorem run_part_int {e:TypeId}{k:IntKind}(he:P.underlying e=some (.int k)) {xs:Array Value}{off:Nat}{v:Value}(hx:xs[off]? = some v):(part e xs off).run P w = .ok v w:=by
 simp [part,isAgg,run_underlying he,hx]
theorem eqFields_run (d : Nat) (xs ys : Array Value) : ∀ (fs : List Field) (i : Nat) (as bs : List RV) (r : Bool),(∀ f ∈ fs,f.name ≠ "_" ∧ ∃ k,P.underlying f.type = some (.int k)) → fs.map (·.offset) = List.range' i fs.length →
 RV.relV w p.R as (xs.toList.drop i)→RV.relV w p.R bs (ys.toList.drop i)→as.length=fs.length→cmpL as bs=some r→(Op.eqFields (d+1) xs ys fs).run P w = .ok r w
 | [], _, as, bs, r, _, _, _, _, hl, h=>by
   have:as=[]:=List.eq_nil_of_length_eq_zero hl
   subst this
   have hb:=cmpL_len h
   have:bs=[]:=List.eq_nil_of_length_eq_zero hb.symm
   subst this
   simp only[cmpL,Option.some.injEq] at h
   subst h
   simp [Op.eqFields]
 | f::fs,i,[],_,_,_,_,_,_,hl,_=>by simp at hl
 | f::fs,i,a::as,[],_,_,_,_,_,hl,h=>by cases a<;>simp [cmpL] at h
 | f::fs, i, a::as, b::bs, r, hf, ho, hx, hy, hl, h=>by
   obtain⟨hn,k,hk⟩:=hf f (by simp)
   simp only[List.map_cons,List.length_cons,List.range'_succ,List.cons.injEq] at ho
   simp only[RV.relV] at hx hy
   obtain⟨u,us,hxe,hu,hx⟩:=hx
   obtain⟨u',us',hye,hu',hy⟩:=hy
   have hxi:xs[i]? = some u:=by
    have:(xs.toList.drop i)[0]? = some u:=by rw[hxe];rfl
    simpa using this
   have hyi:ys[i]? = some u':=by
    have:(ys.toList.drop i)[0]? = some u':=by rw[hye];rfl
    simpa using this
   have hx':xs.toList.drop (i+1)=us:=by rw[← List.drop_drop,hxe];rfl
   have hy':ys.toList.drop (i+1)=us':=by rw[← List.drop_drop,hye];rfl
   cases a<;>cases b<;>simp only[cmpL,reduceCtorEq] at h
   split at h
   ·rename_i ka m kb n e
    subst e
    split at h
    ·rename_i r' e
     injection h with h
     subst h
     simp only[RV.rel] at hu hu'
     subst hu hu'
     simp only[Op.eqFields,ne_eq,hn,not_false_eq_true,if_true,Sem.run_bind,ho.1,run_part_int hk hxi,run_part_int hk hyi,Result.andThen_ok,run_equalIn_int w d f.type ka k m n hk]
     cases hmn:(m == n)
     ·simp
     ·simp only[Bool.not_true,Bool.false_eq_true,if_false,Bool.true_and];exact eqFields_run d xs ys fs (i+1) as bs r' (fun g hg=>hf g (by simp [hg])) ho.2 (by rw[hx'];exact hx) (by rw[hy'];exact hy) (by simpa using hl) e
    ·cases h
   ·cases h
theorem eqItems_run (d:Nat) {e:TypeId}{k:IntKind}(hk:P.underlying e=some (.int k)) (xs ys:Array Value):∀ (n i:Nat) (as bs:List RV) (r:Bool),
 RV.relV w p.R as (xs.toList.drop i)→RV.relV w p.R bs (ys.toList.drop i)→as.length=n→cmpL as bs=some r→(Op.eqItems (d+1) e 1 xs ys (List.range' i n)).run P w = .ok r w
 | 0, _, as, bs, r, _, _, hl, h=>by
   have:as=[]:=List.eq_nil_of_length_eq_zero hl
   subst this
   have hb:=cmpL_len h
   have:bs=[]:=List.eq_nil_of_length_eq_zero hb.symm
   subst this
   simp only[cmpL,Option.some.injEq] at h
   subst h
   simp [Op.eqItems]
 | n+1,i,[],_,_,_,_,hl,_=>by simp at hl
 | n+1,i,a::as,[],_,_,_,hl,h=>by cases a<;>simp [cmpL] at h
 | n+1, i, a::as, b::bs, r, hx, hy, hl, h=>by
   simp only[RV.relV] at hx hy
   obtain⟨u,us,hxe,hu,hx⟩:=hx
   obtain⟨u',us',hye,hu',hy⟩:=hy
   have hxi:xs[i]? = some u:=by
    have:(xs.toList.drop i)[0]? = some u:=by rw[hxe];rfl
    simpa using this
   have hyi:ys[i]? = some u':=by
    have:(ys.toList.drop i)[0]? = some u':=by rw[hye];rfl
    simpa using this
   have hx':xs.toList.drop (i+1)=us:=by rw[← List.drop_drop,hxe];rfl
   have hy':ys.toList.drop (i+1)=us':=by rw[← List.drop_drop,hye];rfl
   cases a<;>cases b<;>simp only[cmpL,reduceCtorEq] at h
   split at h
   ·rename_i ka m kb n' e
    subst e
    split at h
    ·rename_i r' e
     injection h with h
     subst h
     simp only[RV.rel] at hu hu'
     subst hu hu'
     simp only[List.range'_succ,Op.eqItems,Sem.run_bind,Nat.mul_one,run_part_int hk hxi,run_part_int hk hyi,Result.andThen_ok,run_equalIn_int w d _ ka k m n' hk]
     cases hmn:(m == n')
     ·simp
     ·simp only[Bool.not_true,Bool.false_eq_true,if_false,Bool.true_and];exact eqItems_run d hk xs ys n (i+1) as bs r' (by rw[hx'];exact hx) (by rw[hy'];exact hy) (by simpa using hl) e
    ·cases h
   ·cases h
theorem eqT_runD (d:Nat) {t:TypeId}{n:Nat}(ht:eqT P t=some n) {xs ys:Array Value}{as bs:List RV}{r:Bool}(hx:RV.relV w p.R as xs.toList) (hy:RV.relV w p.R bs ys.toList) (hl:as.length=n) (h:cmpL as bs=some r) :
 (Op.equalIn (d+2) t (.agg xs) (.agg ys)).run P w = .ok r w∧P.eqGuardType P.depth t=false:=by
 unfold eqT at ht
 split at ht
 ·rename_i fs hu
  split at ht
  ·rename_i hc
   injection ht with ht
   subst ht
   simp only[Bool.and_eq_true,List.all_eq_true,bne_iff_ne,ne_eq,beq_iff_eq,Bool.not_eq_true'] at hc
   obtain⟨⟨⟨h1,h2⟩,h3⟩,h4⟩:=hc
   have hfs:P.fieldsOf t=fs:=by simp [Program.fieldsOf,hu]
   refine⟨?_,h4⟩
   rw[run_equalIn_struct w (d+1) t xs ys (by rw[hfs];exact hu) h3,hfs]
   refine eqFields_run d xs ys fs.toList 0 as bs r (fun f hf=>?_) ?_ (by simpa using hx) (by simpa using hy) (by simpa using hl) h
   ·obtain⟨g1,g2⟩:=h1 f hf
    refine⟨g1,?_⟩
    split at g2
    ·rename_i k e;exact⟨k,e⟩
    ·cases g2
   ·rw[h2,List.range_eq_range'];simp
  ·cases ht
 ·rename_i m e hu
  split at ht
  ·rename_i k he
   split at ht
   ·rename_i hc
    injection ht with ht
    subst ht
    simp only[Bool.and_eq_true,beq_iff_eq,Bool.not_eq_true',true_and] at hc
    obtain⟨⟨h2,h3⟩,h4⟩:=hc
    obtain⟨i,hi⟩:=Option.isSome_iff_exists.1 h3
    refine⟨?_,h4⟩
    rw[run_equalIn_array w (d+1) xs ys hu hi,h2,List.range_eq_range']
    exact eqItems_run d he xs ys m 0 as bs r (by simpa using hx) (by simpa using hy) hl h
   ·cases ht
  ·simp at ht
 ·cases ht
theorem eqT_run {t:TypeId}{n:Nat}(ht:eqT P t=some n) {xs ys:Array Value}{as bs:List RV}{r:Bool}(hx:RV.relV w p.R as xs.toList) (hy:RV.relV w p.R bs ys.toList) (hl:as.length=n) (h:cmpL as bs=some r) :
 (Op.equalIn 10000 t (.agg xs) (.agg ys)).run P w = .ok r w∧P.eqGuardType P.depth t=false:=eqT_runD 9998 ht hx hy hl h
theorem eqFs_le:∀ {fs:List Field}{i n:Nat},eqFs P fs i=some n→i≤n
 | [],i,n,h=>by simp only[eqFs,Option.some.injEq] at h;omega
 | f::fs, i, n, h=>by
   simp only[eqFs] at h
   split at h
   ·split at h
    ·have:=eqFs_le h;omega
    ·split at h
     ·split at h
      ·have:=eqFs_le h;omega
      ·cases h
     ·cases h
   ·cases h
theorem cmpL_app:∀ {m:Nat}{as bs:List RV}{r:Bool},cmpL as bs=some r→∃ r1 r2,cmpL (as.take m) (bs.take m)=some r1∧cmpL (as.drop m) (bs.drop m)=some r2∧r=(r1&&r2)
 | 0,as,bs,r,h=>⟨true,r,by simp [cmpL],by simpa using h,by simp⟩
 | m+1,[],[],r,h=>⟨true,r,by simp [cmpL],by simpa using h,by simp⟩
 | m+1,[],_::_,_,h=>by simp [cmpL] at h
 | m+1,a::as,[],_,h=>by cases a<;>simp [cmpL] at h
 | m+1, a::as, b::bs, r, h=>by
   cases a<;>cases b<;>simp only[cmpL,reduceCtorEq] at h
   split at h
   ·rename_i hk
    subst hk
    split at h
    ·rename_i r' e
     injection h with h
     obtain⟨r1,r2,h1,h2,h3⟩:=cmpL_app (m:=m) e
     refine⟨_,r2,by simp only[List.take_succ_cons,cmpL,if_true,h1];rfl,by simpa using h2,by rw[← h,h3,Bool.and_assoc]⟩
    ·cases h
   ·cases h
theorem relV_take:∀ {m:Nat}{as:List RV}{vs:List Value},RV.relV w p.R as vs→RV.relV w p.R (as.take m) (vs.take m)
 | 0,as,vs,h=>by simp [RV.relV]
 | m+1,[],vs,h=>by simp only[RV.relV] at h;subst h;simp [RV.relV]
 | m+1, a::as, vs, h=>by
   simp only[RV.relV] at h
   obtain⟨u,us,e,h1,h2⟩:=h
   subst e
   simp only[List.take_succ_cons,RV.relV];exact⟨u,_,rfl,h1,relV_take h2⟩
theorem relV_drop:∀ {m:Nat}{as:List RV}{vs:List Value},RV.relV w p.R as vs→RV.relV w p.R (as.drop m) (vs.drop m)
 | 0,as,vs,h=>by simpa using h
 | m+1,[],vs,h=>by simp only[RV.relV] at h;subst h;simp [RV.relV]
 | m+1, a::as, vs, h=>by
   simp only[RV.relV] at h
   obtain⟨u,us,e,h1,h2⟩:=h
   subst e
   simpa only[List.drop_succ_cons] using relV_drop (m:=m) h2
theorem eqT_agg {t:TypeId}{n:Nat}(h:eqT P t=some n):(isAgg t).run P w = .ok true w:=by
 unfold eqT at h
 split at h
 ·rename_i fs hu;simp [isAgg,run_underlying hu]
 ·rename_i m e hu;simp [isAgg,run_underlying hu]
 ·cases h
theorem run_part_agg {e:TypeId}{n:Nat}(he:eqT P e=some n) {i:TypeInfo}(hi:P.info? e=some i) {xs:Array Value}{off:Nat}:(part e xs off).run P w = .ok (.agg (xs.extract off (off+P.cellsOf e))) w:=by
 simp [part,eqT_agg (w:=w) he,run_sizeOf w hi]
theorem eqFs_run (d:Nat) (xs ys:Array Value):∀ (fs:List Field) (i n:Nat) (as bs:List RV) (r:Bool),eqFs P fs i=some n →
 RV.relV w p.R as (xs.toList.drop i)→RV.relV w p.R bs (ys.toList.drop i)→i+as.length=n→cmpL as bs=some r→(Op.eqFields (d+2) xs ys fs).run P w = .ok r w
 | [], i, n, as, bs, r, hf, _, _, hl, h=>by
   simp only[eqFs,Option.some.injEq] at hf
   have:as=[]:=List.eq_nil_of_length_eq_zero (by omega)
   subst this
   have hb:=cmpL_len h
   have:bs=[]:=List.eq_nil_of_length_eq_zero hb.symm
   subst this
   simp only[cmpL,Option.some.injEq] at h
   subst h
   simp [Op.eqFields]
 | f::fs, i, n, as, bs, r, hf, hx, hy, hl, h=>by
   simp only[eqFs] at hf
   split at hf
   case isFalse=>cases hf
   rename_i hc
   simp only[Bool.and_eq_true,bne_iff_ne,ne_eq,beq_iff_eq] at hc
   obtain⟨hn,ho⟩:=hc
   split at hf
   ·rename_i k hk
    have hle:=eqFs_le hf
    cases as with
    | nil=>simp only[List.length_nil] at hl;omega
    | cons a as =>
      cases bs with
      | nil=>cases a<;>simp [cmpL] at h
      | cons b bs =>
        simp only[RV.relV] at hx hy
        obtain⟨u,us,hxe,hu,hx⟩:=hx
        obtain⟨u',us',hye,hu',hy⟩:=hy
        have hxi:xs[i]? = some u:=by
         have:(xs.toList.drop i)[0]? = some u:=by rw[hxe];rfl
         simpa using this
        have hyi:ys[i]? = some u':=by
         have:(ys.toList.drop i)[0]? = some u':=by rw[hye];rfl
         simpa using this
        have hx':xs.toList.drop (i+1)=us:=by rw[← List.drop_drop,hxe];rfl
        have hy':ys.toList.drop (i+1)=us':=by rw[← List.drop_drop,hye];rfl
        cases a<;>cases b<;>simp only[cmpL,reduceCtorEq] at h
        split at h
        ·rename_i ka m kb m' e
         subst e
         split at h
         ·rename_i r' e
          injection h with h
          subst h
          simp only[RV.rel] at hu hu'
          subst hu hu'
          simp only[Op.eqFields,ne_eq,hn,not_false_eq_true,if_true,Sem.run_bind,ho,run_part_int hk hxi,run_part_int hk hyi,Result.andThen_ok,run_equalIn_int w (d+1) f.type ka k m m' hk]
          cases hmn:(m == m')
          ·simp
          ·simp only[Bool.not_true,Bool.false_eq_true,if_false,Bool.true_and];exact eqFs_run d xs ys fs (i+1) n as bs r' hf (by rw[hx'];exact hx) (by rw[hy'];exact hy) (by simp only[List.length_cons] at hl;omega) e
         ·cases h
        ·cases h
   ·split at hf
    ·rename_i m em
     split at hf
     ·rename_i hcc
      simp only[Bool.and_eq_true,beq_iff_eq] at hcc
      obtain⟨hcm,his⟩:=hcc
      obtain⟨inf,hi⟩:=Option.isSome_iff_exists.1 his
      have hle:=eqFs_le hf
      obtain⟨r1,r2,h1,h2,rfl⟩:=cmpL_app (m:=m) h
      have hlen:(as.take m).length=m:=by rw[List.length_take];omega
      have hex:∀ zs:Array Value,(zs.extract i (i+P.cellsOf f.type)).toList=(zs.toList.drop i).take m:=fun zs=>by
       rw[Array.toList_extract,List.extract_eq_take_drop,hcm,Nat.add_sub_cancel_left]
      have run1:=(eqT_runD (w:=w) (p:=p) d em (xs:=xs.extract i (i+P.cellsOf f.type)) (ys:=ys.extract i (i+P.cellsOf f.type)) (by rw[hex];exact relV_take hx) (by rw[hex];exact relV_take hy) hlen h1).1
      simp only[Op.eqFields,ne_eq,hn,not_false_eq_true,if_true,Sem.run_bind,ho,run_part_agg em hi,Result.andThen_ok,run1]
      cases r1
      ·simp
      ·simp only[Bool.not_true,Bool.false_eq_true,if_false,Bool.true_and]
       refine eqFs_run d xs ys fs (i+m) n _ _ r2 hf ?_ ?_ ?_ h2
       ·rw[← List.drop_drop];exact relV_drop hx
       ·rw[← List.drop_drop];exact relV_drop hy
       ·rw[List.length_drop];omega
     ·cases hf
    ·cases hf
theorem eqN_run {t:TypeId}{n:Nat}(ht:eqN P t=some n) {xs ys:Array Value}{as bs:List RV}{r:Bool}(hx:RV.relV w p.R as xs.toList) (hy:RV.relV w p.R bs ys.toList) (hl:as.length=n) (h:cmpL as bs=some r) :
 (Op.equalIn 10000 t (.agg xs) (.agg ys)).run P w = .ok r w∧P.eqGuardType P.depth t=false:=by
 unfold eqN at ht
 split at ht
 ·rename_i m e
  injection ht with ht
  subst ht
  exact eqT_run e hx hy hl h
 ·split at ht
  ·rename_i fs hu
   split at ht
   ·rename_i hc
    simp only[Bool.and_eq_true,Bool.not_eq_true'] at hc
    have hfs:P.fieldsOf t=fs:=by simp [Program.fieldsOf,hu]
    refine⟨?_,hc.2⟩
    rw[run_equalIn_struct w 9999 t xs ys (by rw[hfs];exact hu) hc.1,hfs]
    exact eqFs_run 9997 xs ys fs.toList 0 n as bs r ht (by simpa using hx) (by simpa using hy) (by omega) h
   ·cases ht
  ·cases ht
theorem run_part_bool {e:TypeId}(he:P.underlying e=some .bool) {xs:Array Value}{off:Nat}{v:Value}(hx:xs[off]? = some v):(part e xs off).run P w = .ok v w:=by
 simp [part,isAgg,run_underlying he,hx]
theorem run_equalIn_boolD {t:TypeId}(d:Nat) (hu:P.underlying t=some .bool) (u v:Bool):(Op.equalIn (d+1) t (.bool u) (.bool v)).run P w = .ok (u == v) w:=by
 simp only[Op.equalIn,Sem.run_bind,run_underlying hu,Result.andThen_ok,Sem.run_pure]
theorem kB_false {t:TypeId}(h:kB P t=some false):∃ k,P.underlying t=some (.int k):=by
 unfold kB at h;split at h
 ·rename_i k e;exact⟨k,e⟩
 ·cases h
 ·cases h
theorem kB_true {t:TypeId}(h:kB P t=some true):P.underlying t=some .bool:=by
 unfold kB at h;split at h
 ·cases h
 ·rename_i e;exact e
 ·cases h
theorem eqBs_run (d:Nat) (xs ys:Array Value):∀ (fs:List Field) (ks:List Bool) (i:Nat) (as bs:List RV) (r:Bool),eqBs P fs i=some ks →
 RV.relV w p.R as (xs.toList.drop i)→RV.relV w p.R bs (ys.toList.drop i)→cmpB ks as bs=some r→(Op.eqFields (d+1) xs ys fs).run P w = .ok r w
 | [], ks, i, as, bs, r, hk, _, _, h=>by
   simp only[eqBs,Option.some.injEq] at hk
   subst hk
   cases as with
   | nil =>
     cases bs with
     | nil =>
       simp only[cmpB,Option.some.injEq] at h
       subst h
       simp [Op.eqFields]
     | cons b bs=>simp [cmpB] at h
   | cons a as=>simp [cmpB] at h
 | f::fs, ks, i, as, bs, r, hk, hx, hy, h=>by
   simp only[eqBs] at hk
   split at hk
   ·rename_i hc
    simp only[Bool.and_eq_true,bne_iff_ne,ne_eq,beq_iff_eq] at hc
    obtain⟨hn,ho⟩:=hc
    split at hk
    ·rename_i b ks' e1 e2
     injection hk with hk
     subst hk
     cases b with
     | false =>
       obtain⟨k,hk⟩:=kB_false e1
       cases as with
       | nil=>simp [cmpB] at h
       | cons a as =>
         cases bs with
         | nil=>cases a<;>simp [cmpB] at h
         | cons b bs =>
           simp only[RV.relV] at hx hy
           obtain⟨u,us,hxe,hu,hx⟩:=hx
           obtain⟨u',us',hye,hu',hy⟩:=hy
           have hxi:xs[i]? = some u:=by
            have:(xs.toList.drop i)[0]? = some u:=by rw[hxe];rfl
            simpa using this
           have hyi:ys[i]? = some u':=by
            have:(ys.toList.drop i)[0]? = some u':=by rw[hye];rfl
            simpa using this
           have hx':xs.toList.drop (i+1)=us:=by rw[← List.drop_drop,hxe];rfl
           have hy':ys.toList.drop (i+1)=us':=by rw[← List.drop_drop,hye];rfl
           cases a<;>cases b<;>simp only[cmpB,reduceCtorEq] at h
           split at h
           ·rename_i ka m kb n' e
            subst e
            split at h
            ·rename_i r' e
             injection h with h
             subst h
             simp only[RV.rel] at hu hu'
             subst hu hu'
             simp only[Op.eqFields,ne_eq,hn,not_false_eq_true,if_true,Sem.run_bind,ho,run_part_int hk hxi,run_part_int hk hyi,Result.andThen_ok,run_equalIn_int w d f.type ka k m n' hk]
             cases hmn:(m == n')
             ·simp
             ·simp only[Bool.not_true,Bool.false_eq_true,if_false,Bool.true_and];exact eqBs_run d xs ys fs ks' (i+1) as bs r' e2 (by rw[hx'];exact hx) (by rw[hy'];exact hy) e
            ·cases h
           ·cases h
     | true =>
       have hk:=kB_true e1
       cases as with
       | nil=>simp [cmpB] at h
       | cons a as =>
         cases bs with
         | nil=>cases a<;>simp [cmpB] at h
         | cons b bs =>
           simp only[RV.relV] at hx hy
           obtain⟨u,us,hxe,hu,hx⟩:=hx
           obtain⟨u',us',hye,hu',hy⟩:=hy
           have hxi:xs[i]? = some u:=by
            have:(xs.toList.drop i)[0]? = some u:=by rw[hxe];rfl
            simpa using this
           have hyi:ys[i]? = some u':=by
            have:(ys.toList.drop i)[0]? = some u':=by rw[hye];rfl
            simpa using this
           have hx':xs.toList.drop (i+1)=us:=by rw[← List.drop_drop,hxe];rfl
           have hy':ys.toList.drop (i+1)=us':=by rw[← List.drop_drop,hye];rfl
           cases a<;>cases b<;>simp only[cmpB,reduceCtorEq] at h
           split at h
           ·rename_i m n' _ r' e
            injection h with h
            subst h
            simp only[RV.rel] at hu hu'
            subst hu hu'
            simp only[Op.eqFields,ne_eq,hn,not_false_eq_true,if_true,Sem.run_bind,ho,run_part_bool hk hxi,run_part_bool hk hyi,Result.andThen_ok,run_equalIn_boolD d hk]
            cases hmn:(m == n')
            ·simp
            ·simp only[Bool.not_true,Bool.false_eq_true,if_false,Bool.true_and];exact eqBs_run d xs ys fs ks' (i+1) as bs r' e2 (by rw[hx'];exact hx) (by rw[hy'];exact hy) e
           ·cases h
    ·cases hk
   ·cases hk
theorem eqB_run {t:TypeId}{ks:List Bool}(ht:eqB P t=some ks) {xs ys:Array Value}{as bs:List RV}{r:Bool}(hx:RV.relV w p.R as xs.toList) (hy:RV.relV w p.R bs ys.toList) (h:cmpB ks as bs=some r) :
 (Op.equalIn 10000 t (.agg xs) (.agg ys)).run P w = .ok r w∧P.eqGuardType P.depth t=false:=by
 unfold eqB at ht
 split at ht
 ·rename_i fs hu
  split at ht
  ·rename_i hc
   simp only[Bool.and_eq_true,Bool.not_eq_true'] at hc
   have hfs:P.fieldsOf t=fs:=by simp [Program.fieldsOf,hu]
   refine⟨?_,hc.2⟩
   rw[run_equalIn_struct w 9999 t xs ys (by rw[hfs];exact hu) hc.1,hfs]
   exact eqBs_run 9998 xs ys fs.toList ks 0 as bs r ht (by simpa using hx) (by simpa using hy) h
  ·cases ht
 ·cases ht
theorem good_eq {op:BinOp}{t t':TypeId}{x y:Operand}(h:SR C p s a w) (ho:o.op = .binOp op t x y t') (hp:(sEq P op t (s.ev x) (s.ev y)).pre):Done P C o s a w (sEq P op t (s.ev x) (s.ev y)):=by
 unfold sEq at hp ⊢
 split at hp
 ·rename_i n as bs e1 e2 e3
  split at hp
  ·rename_i r e4
   obtain⟨xs,hxe,_,hx⟩:=agR_rel e2 (h.ev x)
   obtain⟨ys,hye,_,hy⟩:=agR_rel e3 (h.ev y)
   obtain⟨hrun,hg⟩:=eqN_run (w:=w) e1 hx hy hp e4
   refine done_when h (v:=.bool r) ?_ (by simp [AV.rel,RV.rel])
   simp only[execOp,ho,hxe,hye,Sem.run_bind,run_eqGuard_agg w .eql t x y xs ys hg,Result.andThen_ok,run_eql_struct,hrun,Sem.run_pure]
  ·exact hp.elim
 ·rename_i n as bs e1 e2 e3
  split at hp
  ·rename_i r e4
   obtain⟨xs,hxe,_,hx⟩:=agR_rel e2 (h.ev x)
   obtain⟨ys,hye,_,hy⟩:=agR_rel e3 (h.ev y)
   obtain⟨hrun,hg⟩:=eqN_run (w:=w) e1 hx hy hp e4
   refine done_when h (v:=.bool (!r)) ?_ (by simp [AV.rel,RV.rel])
   simp only[execOp,ho,hxe,hye,Sem.run_bind,run_eqGuard_agg w .neq t x y xs ys hg,Result.andThen_ok,run_neq_struct,hrun,Sem.run_pure]
  ·exact hp.elim
 ·rename_i as bs e1 e2 e3
  split at hp
  ·rename_i ks e5
   split at hp
   ·rename_i r e4
    obtain⟨xs,hxe,_,hx⟩:=agR_rel e2 (h.ev x)
    obtain⟨ys,hye,_,hy⟩:=agR_rel e3 (h.ev y)
    obtain⟨hrun,hg⟩:=eqB_run (w:=w) e5 hx hy e4
    refine done_v h (v:=.bool r) ?_ (by simp [AV.rel,RV.rel])
    simp only[execOp,ho,hxe,hye,Sem.run_bind,run_eqGuard_agg w .eql t x y xs ys hg,Result.andThen_ok,run_eql_struct,hrun,Sem.run_pure]
   ·exact hp.elim
  ·exact hp.elim
 ·rename_i as bs e1 e2 e3
  split at hp
  ·rename_i ks e5
   split at hp
   ·rename_i r e4
    obtain⟨xs,hxe,_,hx⟩:=agR_rel e2 (h.ev x)
    obtain⟨ys,hye,_,hy⟩:=agR_rel e3 (h.ev y)
    obtain⟨hrun,hg⟩:=eqB_run (w:=w) e5 hx hy e4
    refine done_v h (v:=.bool (!r)) ?_ (by simp [AV.rel,RV.rel])
    simp only[execOp,ho,hxe,hye,Sem.run_bind,run_eqGuard_agg w .neq t x y xs ys hg,Result.andThen_ok,run_neq_struct,hrun,Sem.run_pure]
   ·exact hp.elim
  ·exact hp.elim
 ·exact hp.elim
theorem good_bin {op:BinOp}{t t':TypeId}{x y:Operand}(h:SR C p s a w) (ho:o.op = .binOp op t x y t') (hp:(sBin P op t (s.ev x) (s.ev y)).pre) :
 Done P C o s a w (sBin P op t (s.ev x) (s.ev y)):=by
 unfold sBin at hp ⊢
 split at hp
 ·rename_i k m k' n e1 e2
  have hx:=ev_it h e1
  have hy:=ev_it h e2
  by_cases o1:op = .and
  ·subst o1
   obtain rfl:k=k':=hp
   exact done_when h (run_int_bin ho hx hy (run_and w)) (by simp [AV.rel,RV.rel])
  by_cases o2:op = .or
  ·subst o2
   obtain rfl:k=k':=hp
   exact done_when h (run_int_bin ho hx hy (run_or w)) (by simp [AV.rel,RV.rel])
  by_cases o3:op = .shr
  ·subst o3
   have hb:0≤n:=hp
   exact done_when h (run_int_shift ho hx hy (run_shr w hb)) (by simp [AV.rel,RV.rel])
  by_cases o4:op = .shl
  ·subst o4
   have hb:0≤n:=hp
   exact done_when h (run_int_shift ho hx hy (run_shl w hb)) (by simp [AV.rel,RV.rel])
  split at hp<;>first
   | exact absurd rfl o1
   | exact absurd rfl o2
   | exact absurd rfl o3
   | exact absurd rfl o4
   | (obtain rfl:k=k':=hp
      exact done_when h (run_int_bin ho hx hy (by simp [Go.binOp,Op.intArith,Op.intCmp];rfl)) (by simp [AV.rel,RV.rel]))
   | (obtain⟨rfl, hb⟩:k=k'∧n≠0:=hp
      exact done_when h (run_int_bin ho hx hy (by simp [Go.binOp,Op.intDiv,hb];rfl)) (by simp [AV.rel,RV.rel]))
   | exact hp.elim
 ·rename_i u v e1 e2
  have hx:=ev_bo h e1
  have hy:=ev_bo h e2
  split at hp
  ·rename_i e3
   cases hq:tyq P t with
   | none=>simp [hq] at e3
   | some T =>
     obtain⟨k,sz,agg,z⟩:=T
     simp [hq] at e3
     subst e3
     have hu:=tyq_bool hq
     refine done_v h (v:=.bool (u == v)) ?_ (by simp [AV.rel,RV.rel])
     have he:=run_equal_bool w hu u v
     have hg:(eqGuard .eql t x y (.bool u) (.bool v)).run P w = .ok () w:=by simp [eqGuard]
     simp only[execOp,ho,hx,hy,Sem.run_bind,hg,Result.andThen_ok,Go.binOp,he,Sem.run_pure]
  ·rename_i e3
   cases hq:tyq P t with
   | none=>simp [hq] at e3
   | some T =>
     obtain⟨k,sz,agg,z⟩:=T
     simp [hq] at e3
     subst e3
     have hu:=tyq_bool hq
     refine done_v h (v:=.bool (!(u == v))) ?_ (by simp [AV.rel,RV.rel])
     have he:=run_equal_bool w hu u v
     have hg:(eqGuard .neq t x y (.bool u) (.bool v)).run P w = .ok () w:=by simp [eqGuard]
     simp only[execOp,ho,hx,hy,Sem.run_bind,hg,Result.andThen_ok,Go.binOp,he,Sem.run_pure]
  ·exact hp.elim
 ·exact good_eq h ho hp
theorem good_conv {src dst:TypeId}{x:Operand}(h:SR C p s a w) (ho:o.op = .convert src dst x) (hp:(sConv P src dst (s.ev x)).pre):Done P C o s a w (sConv P src dst (s.ev x)):=by
 unfold sConv at hp ⊢
 split at hp
 ·rename_i T k _ _ _ k' n e1 e2 e3
  have hx:=ev_it h e3
  obtain⟨d,hd⟩:=okT_und (tyq_base e1).1
  have hk:=tyq_int e2
  refine done_v h (v:=.int k (k.wrap n)) ?_ (by simp [AV.rel,RV.rel])
  simp [execOp,ho,hx,Go.convert,run_underlying hd,run_underlying hk,Conv.intToInt]
 ·exact hp.elim
theorem relC_vals:∀ {cs:List RV}{ad:Addr}{j:Nat}{R:Nat→Prop},RV.relC w R cs ad j→∃ us:List Value,us.length=cs.length∧(∀ i u,us[i]? = some u→w.cell? (ad.add (j+i))=some u)∧RV.relV w R cs us∧∀ u∈us,u.oneCell'=true
 | [],_,_,_,_=>⟨[],rfl,by simp,by simp [RV.relV],by simp⟩
 | c::cs, ad, j, R, h=>by
   simp only[RV.relC] at h
   obtain⟨⟨u,hu,ho,hc⟩,h2⟩:=h
   obtain⟨us,hl,hget,hv,h1⟩:=relC_vals h2
   refine⟨u::us,by simp [hl],fun i v hi=>?_,by simp only[RV.relV];exact⟨u,us,rfl,hc,hv⟩,by simpa using ⟨ho,h1⟩⟩
   cases i with
   | zero=>simp at hi;subst hi;simpa using hu
   | succ i =>
     simp at hi
     have:=hget i v hi
     rwa [show j+1+i=j+(i+1) from by omega] at this
theorem run_loadVar_list {t:TypeId}{T:TI}(ht:tyq P t=some T) {ad:Addr}{us:List Value}(hget:∀ i u,us[i]? = some u→w.cell? (ad.add i)=some u) (hn:us.length=need T) :
 (loadVar t ad).run P w = .ok (if T.agg then .agg us.toArray else us.headD undef) w:=by
 obtain⟨hok,hsz,hagg,_⟩:=tyq_base ht
 unfold loadVar
 simp only[Sem.run_bind,run_isAgg_ok hok,Result.andThen_ok,← hagg]
 cases hA:T.agg
 ·simp only[need,hA,Bool.false_eq_true,if_false] at hn
  match us,hn with
  | [u], _ =>
    have:=hget 0 u (by simp)
    rw[add_zero] at this
    simp [run_load,this]
 ·simp only[need,hA,if_true] at hn
  simp only[if_true,Sem.run_bind,zrs hok,Result.andThen_ok,← hsz,← hn,run_loadCells_list w ad us hget,Sem.run_pure]
theorem load_ok {t:TypeId}{x:Operand}(h:SR C p s a w) (hp:(sLoad P s t (s.ev x)).pre) :
 ∃ ad v,a.eval x = .pointer (some ad)∧(loadVar t ad).run P w = .ok v w∧(sLoad P s t (s.ev x)).y.av.rel w p s.ver v∧(sLoad P s t (s.ev x)).y.eff=[]∧(sLoad P s t (s.ev x)).ass:=by
 unfold sLoad at hp ⊢
 split at hp
 ·rename_i T cs e1 e2
  obtain⟨ad,hv,hR,hC⟩:=ev_rp h e2
  have hlen:need T≤cs.length:=hp
  obtain⟨us,hl,hget,hV,h1⟩:=relC_vals (RV.relC_take (need T) hC)
  have hlu:us.length=need T:=by rw[hl,List.length_take];omega
  have hrun:=run_loadVar_list (w:=w) e1 (ad:=ad) (us:=us) (fun i u hi=>by simpa using hget i u hi) hlu
  refine⟨_,if T.agg then .agg us.toArray else us.headD undef,hv,hrun,?_,rfl,trivial⟩
  show AV.rel _ _ _ (.r (cutR _ _)) _
  simp only[AV.rel]
  unfold cutR
  cases hA:T.agg
  ·simp only[need,hA,Bool.false_eq_true,if_false] at hlen hlu hV ⊢
   match cs,us,hlen,hlu,hV with
   | c::cs, [u], _, _, hV =>
     simp only[List.take_succ_cons,List.take_zero,RV.relV] at hV
     obtain⟨u',us',he,hc,_⟩:=hV
     injection he with he1 he2
     subst he1
     exact hc
  ·simp only[need,hA,if_true] at hV ⊢
   simp only[RV.rel];exact⟨us.toArray,rfl,h1,hV⟩
 ·rename_i T k n off e1 e2
  split at hp
  ·rename_i n' cs e3
   obtain⟨hn,hlen⟩:n=n'∧need T≤(cs.drop off).length:=hp
   have hver:n=s.ver k:=by rw[hn];simp [AS.ver,e3]
   obtain⟨b,hβ,hv⟩:=ev_pt h e2 hver
   have hrow:=h.rw k
   rw[e3] at hrow
   simp only[zrl] at hrow
   obtain⟨b',cells,ty,hβ',hh,hV,h1⟩:=hrow
   rw[hβ] at hβ'
   injection hβ' with hβ'
   subst hβ'
   have hV':=AV.relV_take (need T) (AV.relV_drop off hV)
   have hlu:((cells.toList.drop off).take (need T)).length=need T:=by
    have:=AV.relV_length hV'
    rw[this,List.length_take];omega
   have hget:∀ i u,((cells.toList.drop off).take (need T))[i]? = some u→w.cell? ((⟨b,off,none⟩:Addr).add i)=some u:=fun i u hi=>by
    rw[add_at,cell_of_row w b (off+i) cells ty (0,0) hh]
    rw[List.getElem?_take] at hi
    split at hi
    ·rw[List.getElem?_drop] at hi;simpa using hi
    ·cases hi
   have h1':∀ u∈(cells.toList.drop off).take (need T),u.oneCell'=true:=fun u hu=>h1 u (List.mem_of_mem_drop (List.mem_of_mem_take hu))
   generalize (cells.toList.drop off).take (need T)=us at hV' hlu hget h1'
   have hrun:=run_loadVar_list (w:=w) e1 hget hlu
   refine⟨_,if T.agg then .agg us.toArray else us.headD undef,hv,hrun,?_,rfl,trivial⟩
   show AV.rel _ _ _ (cutA _ _) _
   unfold cutA
   cases hA:T.agg
   ·simp only[need,hA,Bool.false_eq_true,if_false] at hlen hlu hV' ⊢
    cases hcs:cs.drop off with
    | nil=>simp [hcs] at hlen
    | cons c rest =>
      simp only[hcs,List.take_succ_cons,List.take_zero,AV.relV] at hV'
      obtain⟨u',us',he,hc,_⟩:=hV'
      rw[he]
      simpa using hc
   ·simp only[need,hA,if_true] at hV' ⊢
    simp only[AV.rel];exact⟨us.toArray,rfl,h1',hV'⟩
  ·exact hp.elim
 ·rename_i T k n sz idx off e1 e2
  split at hp
  ·rename_i n' t' sz' es e3
   obtain⟨hn,hsz,hpos,hlen⟩:n=n'∧sz=sz'∧0<need T∧need T≤((es.getD idx []).drop off).length:=hp
   subst hsz
   have hver:n=s.ver k:=by rw[hn];simp [AS.ver,e3]
   obtain⟨b,hβ,hv⟩:=ev_pe h e2 hver
   have hrow:=h.rw k
   rw[e3] at hrow
   simp only[zrl] at hrow
   rcases hrow with⟨hb,he,_⟩|⟨b',cells,hβ',hh,hcs,hle,hE⟩
   ·rw[hb] at hβ;cases hβ
   ·rw[hβ] at hβ'
    injection hβ' with hβ'
    subst hβ'
    cases hx:es[idx]? with
    | none =>
      have:es.getD idx []=[]:=by simp [List.getD,hx]
      rw[this] at hlen;simp at hlen;omega
    | some e =>
      have hgd:es.getD idx []=e:=by simp [List.getD,hx]
      rw[hgd] at hlen ⊢
      have hE1:=(RV.relE_get hE hx).2
      have hC:RV.relC w p.R (e.drop off) ⟨b,idx*sz+off,none⟩ 0:=by
       have h1:=RV.relC_base (j:=0) (idx*sz) (by simpa using hE1)
       have h2:=RV.relC_drop off h1
       simpa [add_at] using h2
      obtain⟨us,hl,hget,hV,h1⟩:=relC_vals (RV.relC_take (need T) hC)
      have hlu:us.length=need T:=by rw[hl,List.length_take];omega
      have hrun:=run_loadVar_list (w:=w) e1 (ad:=⟨b,idx*sz+off,none⟩) (us:=us) (fun i u hi=>by simpa using hget i u hi) hlu
      refine⟨_,if T.agg then .agg us.toArray else us.headD undef,hv,hrun,?_,rfl,trivial⟩
      show AV.rel _ _ _ (.r (cutR _ _)) _
      simp only[AV.rel]
      unfold cutR
      cases hA:T.agg
      ·simp only[need,hA,Bool.false_eq_true,if_false] at hlen hlu hV ⊢
       generalize e.drop off=cs at hlen hV
       match cs,us,hlen,hlu,hV with
       | c::cs, [u], _, _, hV =>
         simp only[List.take_succ_cons,List.take_zero,RV.relV] at hV
         obtain⟨u',us',he,hc,_⟩:=hV
         injection he with he1 he2
         subst he1
         exact hc
      ·simp only[need,hA,if_true] at hV ⊢
       simp only[RV.rel];exact⟨us.toArray,rfl,h1,hV⟩
  ·rename_i n' t' sz' cs e3
   obtain⟨hn,hlen⟩:n=n'∧need T≤(cs.drop (idx*sz+off)).length:=hp
   have hver:n=s.ver k:=by rw[hn];simp [AS.ver,e3]
   obtain⟨b,hβ,hv⟩:=ev_pe h e2 hver
   have hrow:=h.rw k
   rw[e3] at hrow
   simp only[zrl] at hrow
   obtain⟨b',cells,hβ',hh,_,l,rest,hl,hV,h1⟩:=hrow
   rw[hβ] at hβ'
   injection hβ' with hβ'
   subst hβ'
   have hV':=AV.relV_take (need T) (AV.relV_drop (idx*sz+off) hV)
   have hlu:((l.drop (idx*sz+off)).take (need T)).length=need T:=by
    have:=AV.relV_length hV'
    rw[this,List.length_take];omega
   have hget:∀ i u,((l.drop (idx*sz+off)).take (need T))[i]? = some u→w.cell? ((⟨b,idx*sz+off,none⟩:Addr).add i)=some u:=fun i u hi=>by
    rw[add_at,cell_of_row w b (idx*sz+off+i) cells t' (0,0) hh]
    rw[List.getElem?_take] at hi
    split at hi
    ·rw[List.getElem?_drop] at hi
     rw[← Array.getElem?_toList,hl,List.getElem?_append_left (List.getElem?_eq_some_iff.1 hi).1]
     exact hi
    ·cases hi
   have h1':∀ u∈(l.drop (idx*sz+off)).take (need T),u.oneCell'=true:=fun u hu=>h1 u (List.mem_of_mem_drop (List.mem_of_mem_take hu))
   generalize (l.drop (idx*sz+off)).take (need T)=us at hV' hlu hget h1'
   have hrun:=run_loadVar_list (w:=w) e1 hget hlu
   refine⟨_,if T.agg then .agg us.toArray else us.headD undef,hv,hrun,?_,rfl,trivial⟩
   show AV.rel _ _ _ (cutA _ _) _
   unfold cutA
   cases hA:T.agg
   ·simp only[need,hA,Bool.false_eq_true,if_false] at hlen hlu hV' ⊢
    cases hcs:cs.drop (idx*sz+off) with
    | nil=>simp [hcs] at hlen
    | cons c rest =>
      simp only[hcs,List.take_succ_cons,List.take_zero,AV.relV] at hV'
      obtain⟨u',us',he,hc,_⟩:=hV'
      rw[he]
      simpa using hc
   ·simp only[need,hA,if_true] at hV' ⊢
    simp only[AV.rel];exact⟨us.toArray,rfl,h1',hV'⟩
  ·exact hp.elim
 ·exact hp.elim
theorem good_load {t:TypeId}{x:Operand}(h:SR C p s a w) (ho:o.op = .load t x) (hp:(sLoad P s t (s.ev x)).pre):Done P C o s a w (sLoad P s t (s.ev x)):=by
 obtain⟨ad,v,hv,hrun,hrel,heff,hass⟩:=load_ok h hp
 exact done_of h (by simp [execOp,ho,hv,Instr.loadAt,Instr.sureAddr,hrun]) heff hass hrel
end
end Go.Oc

namespace Go.Oc
open Go Go.RowKit
section
variable {P:Program}{C:Ctx}{p:Plan}{s:AS}{a:Act}{w:World}{o:Oper}
theorem fields_get {fields:Array Field}{f:Nat}{x:Nat × Nat × Bool}(h:(fields.toList.map fun g=>(g.offset,P.cellsOf g.type,aggOf P g.type))[f]? = some x) :
 ∃ g,fields[f]? = some g∧x=(g.offset,P.cellsOf g.type,aggOf P g.type)∧g∈fields.toList:=by
 rw[List.getElem?_map] at h
 cases hg:fields.toList[f]? with
 | none=>simp [hg] at h
 | some g =>
   simp [hg] at h
   exact⟨g,by simpa using hg,h.symm,List.mem_of_getElem? hg⟩
theorem run_fieldAt {t:TypeId}{fields:Array Field}{f:Nat}{g:Field}(hu:P.underlying t=some (.struct fields)) (hf:fields[f]? = some g) (hok:okT P g.type=true) (hz:P.cellsOf g.type≠0) (ad:Addr) :
 (Instr.fieldAt t (.pointer (some ad)) f).run P w = .ok (.pointer (some (ad.add g.offset))) w:=by
 simp [Instr.fieldAt,run_underlying hu,hf,Instr.sureAddr,fieldPlace,zrs hok,hz]
theorem good_field {t:TypeId}{x:Operand}{f:Nat}(h:SR C p s a w) (ho:o.op = .fieldAddr t x f) (hp:(sField P s t (s.ev x) f).pre):Done P C o s a w (sField P s t (s.ev x) f):=by
 unfold sField at hp ⊢
 split at hp
 ·rename_i fs sz agg z e1
  obtain⟨fields,hu,hfs,hall⟩:=tyq_struct e1
  split at hp
  ·rename_i off sz2 agg2 e2
   rw[hfs] at e2
   obtain⟨g,hg,hx,hm⟩:=fields_get e2
   injection hx with hx1 hx2
   subst hx1
   obtain⟨hok,hz⟩:=hall g hm
   split at hp
   ·rename_i cs e3
    obtain⟨ad,hv,hR,hC⟩:=ev_rp h e3
    refine done_v h (v:=.pointer (some (ad.add g.offset))) (by simp [execOp,ho,hv,run_fieldAt hu hg hok hz]) ?_
    simp only[AV.rel,RV.rel];exact⟨_,rfl,by rw[block_add];exact hR,RV.relC_drop _ hC⟩
   ·rename_i k n off e3
    obtain⟨b,hβ,hv⟩:=ev_pt h e3 hp
    refine done_when h (v:=.pointer (some ((⟨b,off,none⟩:Addr).add g.offset))) (by simp [execOp,ho,hv,run_fieldAt hu hg hok hz]) ?_
    simp only[AV.rel,add_at];exact⟨Nat.le_of_eq hp,fun _=>⟨b,hβ,rfl⟩⟩
   ·rename_i k n sz3 idx off e3
    obtain⟨b,hβ,hv⟩:=ev_pe h e3 hp
    refine done_when h (v:=.pointer (some ((⟨b,idx*sz3+off,none⟩:Addr).add g.offset))) (by simp [execOp,ho,hv,run_fieldAt hu hg hok hz]) ?_
    simp only[AV.rel,add_at];exact⟨Nat.le_of_eq hp,fun _=>⟨b,hβ,by simp [Nat.add_assoc]⟩⟩
   ·exact hp.elim
  ·exact hp.elim
 ·exact hp.elim
theorem run_part {t:TypeId}{cs:Array Value}{off:Nat}(hok:okT P t=true) (hlen:off+(if aggOf P t then P.cellsOf t else 1)≤cs.size) :
 (part t cs off).run P w = .ok (if aggOf P t then .agg ((cs.toList.drop off).take (P.cellsOf t)).toArray else (cs.toList.drop off).headD undef) w:=by
 unfold part
 simp only[Sem.run_bind,run_isAgg_ok hok,Result.andThen_ok]
 cases hA:aggOf P t
 ·simp only[hA,Bool.false_eq_true,if_false] at hlen ⊢
  have:cs[off]? = some cs[off]:=by simp [show off<cs.size by omega]
  rw[this]
  have h2:cs.toList.drop off=cs[off]::cs.toList.drop (off+1):=by
   rw[List.drop_eq_getElem_cons (by simp;omega)];simp
  rw[h2]
  rfl
 ·simp only[hA,if_true] at hlen ⊢
  simp only[Sem.run_bind,zrs hok,Result.andThen_ok,Sem.run_pure]
  congr 2
  apply Array.ext'
  simp
theorem rel_part {cs:AV}{off sz:Nat}{agg:Bool}{c:Prop}{v:Value}(hv:cs.rel w p s.ver v) (hp:(sPart cs off sz agg c).pre) :
 c∧∃ vs:Array Value, v = .agg vs∧off+(if agg then sz else 1)≤vs.size ∧
   (sPart cs off sz agg c).y.av.rel w p s.ver (if agg then .agg ((vs.toList.drop off).take sz).toArray else (vs.toList.drop off).headD undef)∧(sPart cs off sz agg c).y.eff=[]∧(sPart cs off sz agg c).ass:=by
 unfold sPart at hp ⊢
 split at hp
 ·rename_i l
  obtain⟨hc,hlen⟩:c∧off+(if agg then sz else 1)≤l.length:=hp
  simp only[AV.rel,RV.rel] at hv
  obtain⟨vs,rfl,h1,hV⟩:=hv
  have hl:=RV.relV_length hV
  simp only[Array.length_toList] at hl
  refine⟨hc,vs,rfl,by omega,?_,rfl,trivial⟩
  have hV':=RV.relV_drop off hV
  have hlen':(if agg then sz else 1)≤(l.drop off).length:=by rw[List.length_drop];omega
  have h1':∀ u∈vs.toList.drop off,u.oneCell'=true:=fun u hu=>h1 u (List.mem_of_mem_drop hu)
  generalize vs.toList.drop off=us at hV' h1'
  generalize l.drop off=xs at hV' hlen'
  show AV.rel w p s.ver (.r _) _
  simp only[AV.rel]
  cases agg
  ·simp only[Bool.false_eq_true,if_false] at hlen' ⊢
   match xs,hlen',hV' with
   | c::xs, _, hV' =>
     simp only[RV.relV] at hV'
     obtain⟨u,us',rfl,hc,_⟩:=hV'
     exact hc
  ·simp only[if_true,RV.rel];exact⟨_,rfl,fun u hu=>h1' u (List.mem_of_mem_take hu),RV.relV_take sz hV'⟩
 ·rename_i l
  obtain⟨hc,hlen⟩:c∧off+(if agg then sz else 1)≤l.length:=hp
  simp only[AV.rel] at hv
  obtain⟨vs,rfl,h1,hV⟩:=hv
  have hl:=AV.relV_length hV
  simp only[Array.length_toList] at hl
  refine⟨hc,vs,rfl,by omega,?_,rfl,trivial⟩
  have hV':=AV.relV_drop off hV
  have hlen':(if agg then sz else 1)≤(l.drop off).length:=by rw[List.length_drop];omega
  have h1':∀ u∈vs.toList.drop off,u.oneCell'=true:=fun u hu=>h1 u (List.mem_of_mem_drop hu)
  generalize vs.toList.drop off=us at hV' h1'
  generalize l.drop off=xs at hV' hlen'
  show AV.rel w p s.ver (if agg then _ else _) _
  cases agg
  ·simp only[Bool.false_eq_true,if_false] at hlen' ⊢
   match xs,hlen',hV' with
   | c::xs, _, hV' =>
     simp only[AV.relV] at hV'
     obtain⟨u,us',rfl,hc,_⟩:=hV'
     exact hc
  ·simp only[if_true,AV.rel];exact⟨_,rfl,fun u hu=>h1' u (List.mem_of_mem_take hu),AV.relV_take sz hV'⟩
 ·exact hp.elim
theorem good_fieldV {t:TypeId}{x:Operand}{f:Nat}(h:SR C p s a w) (ho:o.op = .field t x f) (hp:(sFieldV P t (s.ev x) f).pre):Done P C o s a w (sFieldV P t (s.ev x) f):=by
 unfold sFieldV at hp ⊢
 split at hp
 ·rename_i fs sz agg z e1
  obtain⟨fields,hu,hfs,hall⟩:=tyq_struct e1
  split at hp
  ·rename_i off sz2 agg2 e2
   rw[hfs] at e2
   obtain⟨g,hg,hx,hm⟩:=fields_get e2
   injection hx with hx1 hx2
   injection hx2 with hx2 hx3
   subst hx1 hx2 hx3
   obtain⟨hok,hz⟩:=hall g hm
   obtain⟨_,vs,hv,hlen,hrel,heff,hass⟩:=rel_part (h.ev x) hp
   refine done_of h ?_ heff hass hrel
   simp [execOp,ho,hv,Instr.field,run_underlying hu,hg,asAgg,run_part hok hlen]
  ·exact hp.elim
 ·exact hp.elim
theorem good_indexV {t:TypeId}{x i:Operand}(h:SR C p s a w) (ho:o.op = .index t x i) (hp:(sIndexV P t (s.ev x) (s.ev i)).pre):Done P C o s a w (sIndexV P t (s.ev x) (s.ev i)):=by
 unfold sIndexV at hp ⊢
 split at hp
 ·rename_i n esz eagg _ _ _ k j e1 e2
  obtain⟨e,hu,hok,hsz,hagg⟩:=tyq_arr e1
  subst hsz hagg
  obtain⟨hc,vs,hv,hlen,hrel,heff,hass⟩:=rel_part (h.ev x) hp
  refine done_of h ?_ heff hass hrel
  have hi:=ev_it h e2
  have hj:(0≤j∧j<(n:Int)):=hc
  simp [execOp,ho,hv,hi,Instr.index,asIntOf,run_underlying hu,hj,zrs hok,run_part hok hlen]
 ·exact hp.elim
theorem good_index {t:TypeId}{x i:Operand}(h:SR C p s a w) (ho:o.op = .indexAddr t x i) (hp:(sIndex P s t (s.ev x) (s.ev i)).pre):Done P C o s a w (sIndex P s t (s.ev x) (s.ev i)):=by
 unfold sIndex at hp ⊢
 split at hp
 ·rename_i e esz eb ez _ _ _ k j e1 e2
  obtain⟨hu,hok,hsz,_,_⟩:=tyq_slice e1
  have hi:=ev_it h e2
  split at hp
  ·rename_i sz es e3
   obtain⟨h1,h2,h3⟩:sz=esz∧0≤j∧j<(es.length:Int):=hp
   subst h1
   obtain⟨A,c,hv,_,_,hne⟩:=ev_sl h e3
   have hes:es≠[]:=fun e=>by subst e;simp at h3;omega
   obtain⟨ad,rfl,hR,hE⟩:=hne hes
   obtain⟨m,rfl⟩:=Int.eq_ofNat_of_zero_le h2
   have hm:m<es.length:=by simpa using h3
   refine done_when h (v:=.pointer (some (ad.add (m*sz)))) ?_ ?_
   ·simp [execOp,ho,hv,hi,Instr.indexAt,asIntOf,run_underlying hu,zrs hok,hsz,hm]
   ·simp only[AV.rel,RV.rel,Int.toNat_natCast]
    refine⟨_,rfl,by rw[block_add];exact hR,?_⟩
    have hx:es[m]? = some (es.getD m []):=by simp [List.getD,hm]
    exact RV.relC_base (m*sz) (by simpa using (RV.relE_get hE hx).2)
  ·rename_i k' n sz off m e3
   obtain⟨hn,h1,h2,h3⟩:n=s.ver k'∧sz=esz∧0≤j∧j<(m:Int):=hp
   subst h1
   obtain⟨q,rfl⟩:=Int.eq_ofNat_of_zero_le h2
   have hq:q<m:=by simpa using h3
   rcases ev_os h e3 hn with⟨_,_,_,hm,_⟩|⟨b,A,hβ,hv,_,hA⟩
   ·omega
   ·obtain rfl:=hA (.inl (by omega))
    refine done_when h (v:=.pointer (some ((⟨b,off*sz,none⟩:Addr).add (q*sz)))) ?_ ?_
    ·simp [execOp,ho,hv,hi,Instr.indexAt,asIntOf,run_underlying hu,zrs hok,hsz,hq]
    ·simp only[AV.rel,add_at,Int.toNat_natCast];exact⟨Nat.le_of_eq hn,fun _=>⟨b,hβ,by rw[Nat.add_mul];rfl⟩⟩
  ·exact hp.elim
 ·rename_i n esz eagg _ _ _ k j e1 e2
  obtain⟨e,hu,hok,hsz,_⟩:=tyq_arr e1
  have hi:=ev_it h e2
  split at hp
  ·rename_i cs e3
   obtain⟨h2,h3⟩:0≤j∧j<(n:Int):=hp
   obtain⟨ad,hv,hR,hC⟩:=ev_rp h e3
   obtain⟨m,rfl⟩:=Int.eq_ofNat_of_zero_le h2
   have hm:m<n:=by simpa using h3
   refine done_when h (v:=.pointer (some (ad.add (m*esz)))) ?_ ?_
   ·simp [execOp,ho,hv,hi,Instr.indexAt,asIntOf,run_underlying hu,Instr.sureAddr,zrs hok,hsz,hm]
   ·simp only[AV.rel,RV.rel,Int.toNat_natCast];exact⟨_,rfl,by rw[block_add];exact hR,RV.relC_drop _ hC⟩
  ·rename_i k' v off e3
   obtain⟨hn,h2,h3⟩:v=s.ver k'∧0≤j∧j<(n:Int):=hp
   obtain⟨b,hβ,hv⟩:=ev_pt h e3 hn
   obtain⟨m,rfl⟩:=Int.eq_ofNat_of_zero_le h2
   have hm:m<n:=by simpa using h3
   refine done_when h (v:=.pointer (some ((⟨b,off,none⟩:Addr).add (m*esz)))) ?_ ?_
   ·simp [execOp,ho,hv,hi,Instr.indexAt,asIntOf,run_underlying hu,Instr.sureAddr,zrs hok,hsz,hm]
   ·simp only[AV.rel,add_at,Int.toNat_natCast];exact⟨Nat.le_of_eq hn,fun _=>⟨b,hβ,rfl⟩⟩
  ·rename_i k' v sz idx off e3
   obtain⟨hn,h2,h3⟩:v=s.ver k'∧0≤j∧j<(n:Int):=hp
   obtain⟨b,hβ,hv⟩:=ev_pe h e3 hn
   obtain⟨m,rfl⟩:=Int.eq_ofNat_of_zero_le h2
   have hm:m<n:=by simpa using h3
   refine done_when h (v:=.pointer (some ((⟨b,idx*sz+off,none⟩:Addr).add (m*esz)))) ?_ ?_
   ·simp [execOp,ho,hv,hi,Instr.indexAt,asIntOf,run_underlying hu,Instr.sureAddr,zrs hok,hsz,hm]
   ·simp only[AV.rel,add_at,Int.toNat_natCast];exact⟨Nat.le_of_eq hn,fun _=>⟨b,hβ,by simp [Nat.add_assoc]⟩⟩
  ·exact hp.elim
 ·exact hp.elim
theorem good_nil {x:Operand}(h:SR C p s a w) (ho:o.op = .nilCheck x) (hp:(sNil s (s.ev x)).pre):Done P C o s a w (sNil s (s.ev x)):=by
 unfold sNil at hp ⊢
 split at hp
 ·rename_i cs e
  obtain⟨ad,hv,hR,hC⟩:=ev_rp h e
  refine done_v h (v:=.pointer (some ad)) (by simp [execOp,ho,hv]) ?_
  rw[← hv,← e];exact h.ev x
 ·rename_i k n off e
  obtain⟨b,hβ,hv⟩:=ev_pt h e hp
  refine done_when h (v:=.pointer (some ⟨b,off,none⟩)) (by simp [execOp,ho,hv]) ?_
  rw[← hv,← e];exact h.ev x
 ·rename_i k n sz idx off e
  obtain⟨b,hβ,hv⟩:=ev_pe h e hp
  refine done_when h (v:=.pointer (some ⟨b,idx*sz+off,none⟩)) (by simp [execOp,ho,hv]) ?_
  rw[← hv,← e];exact h.ev x
 ·rename_i f cs e
  have hx:=h.ev x
  rw[e] at hx
  simp only[AV.rel,RV.rel] at hx
  obtain⟨vs,hv,hV⟩:=hx
  refine done_v h (v:=.func (.func f) #[] vs) (by simp [execOp,ho,hv]) ?_
  rw[← hv,← e];exact h.ev x
 ·rename_i f cs e
  have hx:=h.ev x
  rw[e] at hx
  simp only[AV.rel] at hx
  obtain⟨vs,hv,hV⟩:=hx
  refine done_v h (v:=.func (.func f) #[] vs) (by simp [execOp,ho,hv]) ?_
  rw[← hv,← e];exact h.ev x
 ·exact hp.elim
theorem good_extract {x:Operand}{i:Nat}(h:SR C p s a w) (ho:o.op = .extract x i) (hp:(sExtract (s.ev x) i).pre):Done P C o s a w (sExtract (s.ev x) i):=by
 unfold sExtract at hp ⊢
 split at hp
 ·rename_i vs e
  have hx:=h.ev x
  rw[e] at hx
  simp only[AV.rel,RV.rel] at hx
  obtain⟨us,hv,hV⟩:=hx
  split at hp
  ·rename_i c e2
   obtain⟨u,hu,hc⟩:=RV.relV_get hV e2
   simp only[Array.getElem?_toList] at hu
   exact done_v h (v:=u) (by simp [execOp,ho,hv,Instr.extract,hu]) (by simpa only[AV.rel] using hc)
  ·exact hp.elim
 ·rename_i vs e
  have hx:=h.ev x
  rw[e] at hx
  simp only[AV.rel] at hx
  obtain⟨us,hv,hV⟩:=hx
  split at hp
  ·rename_i c e2
   obtain⟨u,hu,hc⟩:=AV.relV_get hV e2
   simp only[Array.getElem?_toList] at hu
   exact done_v h (v:=u) (by simp [execOp,ho,hv,Instr.extract,hu]) hc
  ·exact hp.elim
 ·exact hp.elim
theorem relV_ev (h:SR C p s a w):∀ l:List Operand,AV.relV w p s.ver (l.map s.ev) (l.map a.eval)
 | []=>by simp [AV.relV]
 | x::l=>by simp only[List.map_cons,AV.relV];exact⟨_,_,rfl,h.ev x,relV_ev h l⟩
theorem good_makeFunc {f:FuncId}{first caps:Array Operand}(h:SR C p s a w) (ho:o.op = .makeFunc (.func f) first caps) (hp:(if first.isEmpty then Res.val (.fn f (caps.toList.map s.ev)) else .bad).pre) :
 Done P C o s a w (if first.isEmpty then Res.val (.fn f (caps.toList.map s.ev)) else .bad):=by
 split at hp
 ·rename_i he
  rw[if_pos he]
  have hf:first = #[]:=by simpa using he
  refine done_v h (v:=.func (.func f) #[] (caps.map a.eval)) (by simp [execOp,ho,Instr.makeFunc,hf]) ?_
  simp only[AV.rel]
  refine⟨_,rfl,?_⟩
  rw[Array.toList_map]
  exact relV_ev h _
 ·exact hp.elim
end
end Go.Oc

namespace Go.Oc
open Go Go.RowKit
section
variable {P:Program}{C:Ctx}{p:Plan}{s:AS}{a:Act}{w w':World}{o:Oper}
theorem SR.reRow (h:SR C p s a w) (k:Nat) (hk0:k<1000) (c:RowC) (hmi:c.isMi=false) (β1:Option Nat) (g:Nat) (hg:g≤maxLen) (hos:w'.os=w.os) (htape:w'.tape=w.tape) (hout:w'.output=w.output) (hsize:w.heap.size≤w'.heap.size)
 (hblock:∀ i,i<w.heap.size→p.β k≠some i→w'.heap[i]? = w.heap[i]?) (hβ1:∀ b,β1=some b→b<w'.heap.size∧(p.β k=some b∨w.heap.size≤b))
 (hc:∀ p':Plan,∀ ver',p'.R=p.R→p'.β k=β1→p'.γ k=g→Kept w w' p p' s.ver ver'→zrl w' p' ver' k c) :
 SR C { p with β:=upd p.β k β1,γ:=upd p.γ k g } { s with rows:=upd s.rows k ⟨(s.rows k).ver+1,c⟩ } a w':=by
 have hver:∀ j,(upd s.rows k ⟨(s.rows k).ver+1,c⟩ j).ver=if j=k then s.ver k+1 else s.ver j:=fun j=>by
  unfold upd;split<;>rfl
 have hk:Kept w w' p { p with β:=upd p.β k β1,γ:=upd p.γ k g } s.ver (AS.ver { s with rows:=upd s.rows k ⟨(s.rows k).ver+1,c⟩ }):=by
  refine⟨fun _ h=>h,fun ad hr=>World.cell?_of_block (hblock _ (h.rb _ hr) (fun e=>(h.bl k _ e).2.1 hr)),fun j=>?_,fun j hj=>?_⟩
  ·show s.ver j≤(upd s.rows k ⟨(s.rows k).ver+1,c⟩ j).ver
   rw[hver];split
   ·rename_i e;subst e;omega
   ·exact Nat.le_refl _
  ·have hj':(upd s.rows k ⟨(s.rows k).ver+1,c⟩ j).ver=s.ver j:=hj
   rw[hver] at hj'
   split at hj'
   ·rename_i e;subst e;omega
   ·rename_i e;exact⟨zuo _ _ e,zuo _ _ e⟩
 exact {
  base:=⟨hos.trans h.base.os,htape.trans h.base.tape,hout.trans h.base.output,Nat.le_trans h.base.size hsize,fun i hi hn ho=>by
   refine (hblock i (Nat.lt_of_lt_of_le hi h.base.size) fun e=>?_).trans (h.base.block i hi hn ho)
   rcases (h.bl k i e).2.2 with hb|hb|hb
   ·omega
   ·exact hn hb.2
   ·exact ho hb⟩
  r0:=h.r0
  rn:=h.rn
  rb:=fun b hr=>Nat.lt_of_lt_of_le (h.rb b hr) hsize
  tm:=fun t=>AV.rel_mono hk _ _ (h.tm t)
  sz:=h.sz
  ex:=h.ex.mono rfl rfl rfl hsize (fun j b hβ=>by
   by_cases e:j=k
   ·subst e
    simp only[zus] at hβ
    exact (hβ1 b hβ).2.imp (fun h1=>⟨j,h1⟩) id
   ·simp only[zuo _ _ e] at hβ
    exact .inl ⟨j,hβ⟩) (fun b hr=>.inl hr) fun i hi hn=>hblock i hi (hn k)
  rw:=fun j=>by
   by_cases e:j=k
   ·subst e
    show zrl _ _ _ j (upd s.rows j ⟨(s.rows j).ver+1,c⟩ j).c
    rw[zus]
    exact hc _ _ rfl (zus _ _ _) (zus _ _ _) hk
   ·show zrl _ _ _ j (upd s.rows k ⟨(s.rows k).ver+1,c⟩ j).c
    rw[zuo _ _ e]
    exact rowRel_mono hk (.inr <| h.ex.kept rfl rfl rfl hos htape hout hsize fun i hi hn=>hblock i hi (hn k)) (zuo _ _ e) (zuo _ _ e) (fun b hβ=>hblock b (h.bl j b hβ).1 (fun eb=>e (h.ij j k b hβ eb))) _ (fun km n l cur hcc hn b hβ=>hblock b (h.bl km b hβ).1 (fun eb=>by
     have e3:=h.ij km k b hβ eb
     subst e3
     have hr:=h.rw j
     rw[hcc] at hr
     simp only[zrl] at hr
     obtain⟨r,_,hle,_⟩:=hr
     have hle':n≤s.ver km:=hle
     have hn':n=(upd s.rows km ⟨(s.rows km).ver+1,c⟩ km).ver:=hn
     rw[zus] at hn'
     have:n=s.ver km+1:=hn'
     omega)) (h.rw j)
  bl:=fun j b hβ=>by
   by_cases e:j=k
   ·subst e
    simp only[zus] at hβ
    obtain⟨h1,h2⟩:=hβ1 b hβ
    rcases h2 with h2|h2
    ·exact⟨h1,(h.bl j b h2).2⟩
    ·exact⟨h1,fun hr=>by have:=h.rb _ hr;omega,.inl (Nat.le_trans h.base.size h2)⟩
   ·simp only[zuo _ _ e] at hβ
    obtain⟨h1,h2,h3⟩:=h.bl j b hβ
    exact⟨Nat.lt_of_lt_of_le h1 hsize,h2,h3⟩
  ij:=fun j j' b hj hj'=>by
   have key:∀ j',j'≠k→β1=some b→p.β j'=some b→False:=fun j' e' hb hj'=>by
    rcases (hβ1 b hb).2 with h2|h2
    ·exact e' (h.ij j' k b hj' h2)
    ·have:=(h.bl j' b hj').1;omega
   by_cases e:j=k<;>by_cases e':j'=k
   ·rw[e,e']
   ·subst e
    simp only[zus,zuo _ _ e'] at hj hj'
    exact (key j' e' hj hj').elim
   ·subst e'
    simp only[zus,zuo _ _ e] at hj hj'
    exact (key j e hj' hj).elim
   ·simp only[zuo _ _ e,zuo _ _ e'] at hj hj'
    exact h.ij j j' b hj hj'
  cap:=fun j=>by
   show upd p.γ k g j≤maxLen
   unfold upd;split
   ·exact hg
   ·exact h.cap j
  pn:=fun j x hx=>by
   obtain⟨h1,h2,h3,h4⟩:=h.pn j x hx
   have e:j≠k:=by omega
   exact⟨(zuo _ _ e).trans h1,(zuo _ _ e).trans h2,by show (upd s.rows k ⟨(s.rows k).ver+1,c⟩ j).ver=0;rw[zuo _ _ e];exact h3,h4⟩
  lk:=fun j km n l cur hj hn=>lk_upd h k c hmi j km n l cur hj hn }
theorem flat1_cells {v:RV}{u:Value}{R:Nat→Prop}(h:v.rel w R u) (hf:v.flat1=true):u.cells = #[u]∧u.oneCell'=true:=by
 cases v<;>simp only[RV.flat1,Bool.false_eq_true] at hf<;>simp only[RV.rel] at h
 ·subst h;exact⟨rfl,rfl⟩
 ·subst h;exact⟨rfl,rfl⟩
 ·obtain⟨A,rfl⟩:=h;exact⟨rfl,rfl⟩
 ·obtain⟨A,c,rfl,_⟩:=h;exact⟨rfl,rfl⟩
 ·subst h;exact⟨rfl,rfl⟩
 ·obtain⟨A,rfl,_⟩:=h;exact⟨rfl,rfl⟩
 ·obtain⟨vs,rfl,_⟩:=h;exact⟨rfl,rfl⟩
 ·subst h;exact⟨rfl,rfl⟩
 ·subst h;exact⟨rfl,rfl⟩
 ·subst h;exact⟨rfl,rfl⟩
 ·obtain⟨A,rfl,_⟩:=h;exact⟨rfl,rfl⟩
 ·subst h;exact⟨rfl,rfl⟩
 ·obtain⟨vs,rfl,_⟩:=h;exact⟨rfl,rfl⟩
 ·subst h;exact⟨rfl,rfl⟩
end
section
variable {P:Program}{C:Ctx}{p:Plan}{s:AS}{a:Act}{w w':World}{o:Oper}{ver:Nat→Nat}
theorem relV_one {x:AV}{v:Value}(h:x.rel w p ver v):AV.relV w p ver [x] [v]:=by simp only[AV.relV];exact⟨v,[],rfl,h,rfl⟩
theorem cells_rel {x:AV}{xs:List AV}{v:Value}(hx:x.cells? ver=some xs) (h:x.rel w p ver v):AV.relV w p ver xs v.cells.toList∧∀ u∈v.cells.toList,u.oneCell'=true:=by
 have one:v.cells = #[v]→v.oneCell'=true→some [x]=some xs→AV.relV w p ver xs v.cells.toList∧∀ u∈v.cells.toList,u.oneCell'=true:=fun h1 h2 he=>by
  injection he with he
  subst he
  rw[h1]
  exact⟨relV_one h,by simpa using h2⟩
 unfold AV.cells? at hx
 split at hx
 ·injection hx with hx
  subst hx
  simp only[AV.rel,RV.rel] at h
  obtain⟨vs,rfl,h1,hV⟩:=h
  exact⟨AV.relV_map_r hV,h1⟩
 ·split at hx
  ·rename_i v' hf
   have h':=h
   simp only[AV.rel] at h'
   obtain⟨h1,h2⟩:=flat1_cells h' hf
   exact one h1 h2 hx
  ·cases hx
 ·injection hx with hx
  subst hx
  simp only[AV.rel] at h
  obtain⟨vs,rfl,h1,hV⟩:=h
  exact⟨hV,h1⟩
 ·cases hx
 ·have h':=h
  simp only[AV.rel] at h'
  obtain⟨vs,rfl,_⟩:=h'
  exact one rfl rfl hx
 all_goals
  split at hx
  ·rename_i hn
   have h':=h
   simp only[AV.rel] at h'
   first
    | (obtain⟨b,_,rfl⟩:=h'.2 hn;exact one rfl rfl hx)
    | (rcases h'.2 hn with⟨_,_,_,_,A,rfl⟩|⟨b,A,_,rfl,_⟩<;>exact one rfl rfl hx)
    | (obtain⟨b,_,rfl⟩:=h'.2.2 hn;exact one rfl rfl hx)
  ·cases hx
theorem foldl_lay:∀ (l:List Value) (k off:Nat) (arr:Array Value),off+k+l.length≤arr.size →
 ((l.zipIdx k).foldl (fun cs (x:Value × Nat)=>cs.setIfInBounds (off+x.2) x.1) arr).toList=arr.toList.take (off+k)++(l++arr.toList.drop (off+k+l.length))
 | [],k,off,arr,h=>by simp
 | x::l, k, off, arr, h=>by
   simp only[List.length_cons] at h
   simp only[List.zipIdx_cons,List.foldl_cons];rw[foldl_lay l (k+1) off _ (by simp;omega)]
   simp only[Array.toList_setIfInBounds,List.length_cons]
   have e:=list_seg_step arr.toList (off+k) x l (by simp;omega)
   simp only[List.append_assoc,List.cons_append] at e
   rw[show off+(k+1)=off+k+1 by omega,List.cons_append]
   exact e
theorem arr_foldl_lay (v:Array Value) (off:Nat) (arr:Array Value) (h:off+v.size≤arr.size) :
 (v.zipIdx.foldl (fun cs (x:Value × Nat)=>cs.setIfInBounds (off+x.2) x.1) arr).toList=arr.toList.take off++(v.toList++arr.toList.drop (off+v.size)):=by
 rw[← Array.foldl_toList,Array.toList_zipIdx]
 have:=foldl_lay v.toList 0 off arr (by simpa using h)
 simpa using this
theorem lay_rel (place:Nat→Option (Nat × Nat)):∀ (parts:List (Nat × AV)) (vals:List (Nat × Value)) (cs cs':List AV) (cells:Array Value),
 lay ver place cs parts=some cs'→AV.relV w p ver cs cells.toList→(∀ u∈cells.toList,u.oneCell'=true) →
 parts.map (·.1)=vals.map (·.1)→AV.relV w p ver (parts.map (·.2)) (vals.map (·.2)) →
 ∃ cells',Instr.fill place cells vals=some cells'∧AV.relV w p ver cs' cells'.toList∧∀ u∈cells'.toList,u.oneCell'=true
 | [], vals, cs, cs', cells, h, hV, h1, hi, _=>by
   cases vals with
   | nil=>simp only[lay] at h;injection h with h;subst h;exact⟨cells,rfl,hV,h1⟩
   | cons _ _=>simp at hi
 | (i, x)::parts, vals, cs, cs', cells, h, hV, h1, hi, hvs=>by
   cases vals with
   | nil=>simp at hi
   | cons v vals =>
     obtain⟨i',v⟩:=v
     simp only[List.map_cons,List.cons.injEq] at hi
     obtain⟨hi1,hi2⟩:=hi
     subst hi1
     simp only[List.map_cons,AV.relV] at hvs
     obtain⟨u,us,he,hu,hvs⟩:=hvs
     injection he with he1 he2
     subst he1 he2
     simp only[lay] at h
     split at h
     ·rename_i off sz xs hp hx
      split at h
      ·rename_i hlen
       obtain⟨hc,ho⟩:=cells_rel hx hu
       have hl:=AV.relV_length hc
       have hlc:=AV.relV_length hV
       simp only[Array.length_toList] at hl hlc
       have hfold:=arr_foldl_lay v.cells off cells (by omega)
       have:=lay_rel place parts vals _ cs' (v.cells.zipIdx.foldl (fun cs (x:Value × Nat)=>cs.setIfInBounds (off+x.2) x.1) cells) h
        (by rw[hfold,show off+v.cells.size=off+sz by omega];exact AV.relV_append (AV.relV_take _ hV) (AV.relV_append hc (AV.relV_drop _ hV)))
        (by
         rw[hfold]
         intro u hu
         simp only[List.mem_append] at hu
         rcases hu with hu|hu|hu
         ·exact h1 u (List.mem_of_mem_take hu)
         ·exact ho u hu
         ·exact h1 u (List.mem_of_mem_drop hu))
        hi2 hvs
       obtain⟨cells',hf,hr⟩:=this
       refine⟨cells',?_,hr⟩
       simp only[Instr.fill,hp];rw[if_neg (by simp;omega)]
       exact hf
      ·cases h
     ·cases h
end
section
variable {P:Program}{C:Ctx}{p:Plan}{s:AS}{a:Act}{w w':World}{o:Oper}
theorem parts_rel (h:SR C p s a w):∀ ps:List (Nat × Operand),(ps.map fun x=>(x.1,s.ev x.2)).map (·.1)=(ps.map fun x=>(x.1,a.eval x.2)).map (·.1) ∧
 AV.relV w p s.ver ((ps.map fun x=>(x.1,s.ev x.2)).map (·.2)) ((ps.map fun x=>(x.1,a.eval x.2)).map (·.2))
 | []=>by simp [AV.relV]
 | x::ps=>by
   obtain⟨h1,h2⟩:=parts_rel h ps
   refine⟨by simp,?_⟩
   simp only[List.map_cons,AV.relV];exact⟨_,_,rfl,h.ev x.2,h2⟩
theorem zero_rel {t:TypeId}{z:List Value}(hz:zeroOf P t=some z):AV.relV w p s.ver ((z.map RV.ofV1).map .r) z∧∀ u∈z,u.oneCell'=true:=by
 obtain⟨i,v,_,_,_,h1,_⟩:=zeroOf_spec hz
 exact⟨AV.relV_map_r (RV.relV_ofV1 w p.R z),h1⟩
theorem good_build {t:TypeId}{ps:Array (Nat × Operand)}(h:SR C p s a w) (ho:o.op = .build t ps) (hp:(sBuild P s t (ps.toList.map fun (i,x)=>(i,s.ev x))).pre) :
 Done P C o s a w (sBuild P s t (ps.toList.map fun (i,x)=>(i,s.ev x))):=by
 have hparts:=parts_rel h ps.toList
 have hmap:(ps.map fun (x:Nat × Operand)=>(x.1,a.eval x.2)).toList=ps.toList.map fun x=>(x.1,a.eval x.2):=by simp
 unfold sBuild at hp ⊢
 split at hp
 ·rename_i fs sz agg z e1
  obtain⟨_,_,_,zv,hz,hzz⟩:=tyq_base e1
  dsimp only at hzz
  obtain⟨fields,hu,hfs,hall⟩:=tyq_struct e1
  obtain⟨it,v,hi,hzero,hcells,h1,_⟩:=zeroOf_spec hz
  split at hp
  ·rename_i cs hlay
   subst hzz
   have hz2:=zero_rel (s:=s) (w:=w) (p:=p) hz
   rw[← hcells] at hz2
   obtain⟨cells',hf,hr,hr1⟩:=lay_rel _ _ _ _ _ v.cells hlay (by rw[← hcells];exact hz2.1) hz2.2 hparts.1 hparts.2
   have hb:P.built t (ps.map fun (x:Nat × Operand)=>(x.1,a.eval x.2)).toList=some cells':=by
    have hpl:fields.toList.mapM (fun f=>(P.info? f.type).map fun i=>(f.offset,i.size))=some (fields.toList.map fun f=>(f.offset,P.cellsOf f.type)):=by
     clear hlay hu hfs
     revert hall
     generalize fields.toList=l
     intro hall
     induction l with
     | nil=>rfl
     | cons f l ih =>
       obtain⟨j,hj⟩:=okT_info (hall f (by simp)).1
       simp only[List.mapM_cons,hj,Option.map_some,ih (fun g hg=>hall g (by simp [hg]))]
       simp [zci hj]
    simp only[Program.built,hi,hu,hzero,hpl,hmap];rw[← hf]
    congr 1
    funext i
    rw[hfs]
    simp [List.getElem?_map,Option.map_map,Function.comp_def]
   refine done_v h (v:=.agg cells') ?_ ?_
   ·simp only[execOp,ho,Sem.run_bind];rw[run_build w t _ cells' hb]
    simp
   ·simp only[AV.rel];exact⟨_,rfl,hr1,hr⟩
  ·exact hp.elim
 ·rename_i n esz eagg sz agg z e1
  obtain⟨_,_,_,zv,hz,hzz⟩:=tyq_base e1
  dsimp only at hzz
  obtain⟨e,hu,hok,hsz,hagg⟩:=tyq_arr e1
  obtain⟨it,v,hi,hzero,hcells,h1,_⟩:=zeroOf_spec hz
  obtain⟨ie,hie⟩:=okT_info hok
  rw[zci hie] at hsz
  subst hsz
  split at hp
  ·rename_i cs hlay
   subst hzz
   have hz2:=zero_rel (s:=s) (w:=w) (p:=p) hz
   rw[← hcells] at hz2
   obtain⟨cells',hf,hr,hr1⟩:=lay_rel _ _ _ _ _ v.cells hlay (by rw[← hcells];exact hz2.1) hz2.2 hparts.1 hparts.2
   have hb:P.built t (ps.map fun (x:Nat × Operand)=>(x.1,a.eval x.2)).toList=some cells':=by
    simp only[Program.built,hi,hu,hzero,hie,hmap];exact hf
   refine done_v h (v:=.agg cells') ?_ ?_
   ·simp only[execOp,ho,Sem.run_bind];rw[run_build w t _ cells' hb]
    simp
   ·simp only[AV.rel];exact⟨_,rfl,hr1,hr⟩
  ·exact hp.elim
 ·exact hp.elim
end
end Go.Oc

namespace Go.Oc
open Go Go.RowKit
theorem flatten_set {α:Type}{sz:Nat}{xs:List α}:∀ {es:List (List α)}{i:Nat},(∀ e∈es,e.length=sz)→i<es.length →
 (es.set i xs).flatten=es.flatten.take (i*sz)++(xs++es.flatten.drop (i*sz+sz))
 | [],_,_,h=>by simp at h
 | e::es, 0, hl, _=>by
   have he:=hl e (by simp)
   simp [← he]
 | e::es, i+1, hl, h=>by
   have he:=hl e (by simp)
   have ih:=flatten_set (xs:=xs) (es:=es) (i:=i) (fun x hx=>hl x (by simp [hx])) (by simpa using h)
   have e1:(i+1)*sz=e.length+i*sz:=by rw[Nat.add_mul,he];omega
   simp only[List.set_cons_succ,List.flatten_cons,ih];rw[e1,List.take_append,show e.length+i*sz+sz=e.length+(i*sz+sz) by omega,List.drop_append,List.take_of_length_le (l:=e) (by omega),List.drop_eq_nil_of_le (as:=e) (by omega)]
   simp
theorem arr0 {α:Type}(f:Nat→α):(Array.range 0).map f = #[]:=by apply Array.ext';simp
theorem length_flatten {α:Type}{sz:Nat}:∀ {es:List (List α)},(∀ e∈es,e.length=sz)→es.flatten.length=es.length*sz
 | [],_=>by simp
 | e::es, hl=>by
   have he:=hl e (by simp)
   simp only[List.flatten_cons,List.length_append,List.length_cons,he,length_flatten (es:=es) (fun x hx=>hl x (by simp [hx])),Nat.add_mul]
   omega
section
variable {w:World}{R:Nat→Prop}
theorem relV_split {xs ys:List RV}{vs:List Value}(h:RV.relV w R (xs++ys) vs):∃ us ws,vs=us++ws∧RV.relV w R xs us∧RV.relV w R ys ws:=by
 induction xs generalizing vs with
 | nil=>exact⟨[],vs,rfl,by simp [RV.relV],h⟩
 | cons x xs ih =>
   simp only[List.cons_append,RV.relV] at h
   obtain⟨u,us,rfl,h1,h2⟩:=h
   obtain⟨as,bs,rfl,h3,h4⟩:=ih h2
   exact⟨u::as,bs,rfl,by simp only[RV.relV];exact⟨u,as,rfl,h1,h3⟩,h4⟩
theorem relC_of_vals:∀ {xs:List RV}{us:List Value}{ad:Addr}{j:Nat},RV.relV w R xs us→(∀ u∈us,u.oneCell'=true)→(∀ i u,us[i]? = some u→w.cell? (ad.add (j+i))=some u)→RV.relC w R xs ad j
 | [],_,_,_,_,_,_=>by simp [RV.relC]
 | x::xs, us, ad, j, h, h1, hg=>by
   simp only[RV.relV] at h
   obtain⟨u,us,rfl,hu,hV⟩:=h
   simp only[RV.relC]
   refine⟨⟨u,by simpa using hg 0 u (by simp),h1 u (by simp),hu⟩,relC_of_vals hV (fun v hv=>h1 v (by simp [hv])) (fun i v hv=>?_)⟩
   have:=hg (i+1) v (by simpa using hv)
   rwa [show j+(i+1)=j+1+i by omega] at this
theorem relE_of_vals {sz:Nat}:∀ {es:List (List RV)}{us:List Value}{ad:Addr}{j:Nat},(∀ e∈es,e.length=sz)→RV.relV w R es.flatten us→(∀ u∈us,u.oneCell'=true) →
 (∀ i u,us[i]? = some u→w.cell? (ad.add (j+i))=some u)→RV.relE w R sz es ad j
 | [],_,_,_,_,_,_,_=>by simp [RV.relE]
 | e::es, us, ad, j, hl, h, h1, hg=>by
   simp only[List.flatten_cons] at h
   obtain⟨as,bs,rfl,h2,h3⟩:=relV_split h
   have hla:=RV.relV_length h2
   have he:=hl e (by simp)
   simp only[RV.relE]
   refine⟨he,relC_of_vals h2 (fun u hu=>h1 u (by simp [hu])) (fun i u hu=>hg i u (by
    have:i<as.length:=(List.getElem?_eq_some_iff.1 hu).1
    rw[List.getElem?_append_left this];exact hu)),relE_of_vals (fun x hx=>hl x (by simp [hx])) h3 (fun u hu=>h1 u (by simp [hu])) (fun i u hu=>?_)⟩
   have:=hg (as.length+i) u (by rw[List.getElem?_append_right (by omega)];simpa using hu)
   rwa [show j+(as.length+i)=j+sz+i by omega] at this
theorem relE_vals {sz:Nat}:∀ {es:List (List RV)}{ad:Addr}{j:Nat},RV.relE w R sz es ad j→(∀ e∈es,e.length=sz)∧∃ us:List Value,us.length=es.length*sz∧(∀ i u,us[i]? = some u→w.cell? (ad.add (j+i))=some u) ∧
 RV.relV w R es.flatten us∧∀ u∈us,u.oneCell'=true
 | [],_,_,_=>⟨by simp,[],by simp,by simp,by simp [RV.relV],by simp⟩
 | e::es, ad, j, h=>by
   simp only[RV.relE] at h
   obtain⟨he,hc,h2⟩:=h
   obtain⟨as,hla,hga,hVa,h1a⟩:=relC_vals hc
   obtain⟨hl,bs,hlb,hgb,hVb,h1b⟩:=relE_vals h2
   refine⟨by simpa using ⟨he,hl⟩,as++bs,by simp [hla,hlb,he,Nat.add_mul];omega,fun i u hu=>?_,by simp only[List.flatten_cons];exact RV.relV_append hVa hVb,fun u hu=>?_⟩
   ·by_cases hi:i<as.length
    ·rw[List.getElem?_append_left hi] at hu;exact hga i u hu
    ·rw[List.getElem?_append_right (by omega)] at hu
     have:=hgb _ u hu
     rwa [show j+sz+(i-as.length)=j+i by omega] at this
   ·simp only[List.mem_append] at hu
    exact hu.elim (h1a u) (h1b u)
end
theorem madeCells_list (z:Array Value):∀ n:Nat,(madeCells z (n*z.size)).toList=(List.replicate n z.toList).flatten
 | 0=>by simp [madeCells]
 | n+1=>by
   have ih:=madeCells_list z n
   simp only[madeCells,Array.toList_map,Array.toList_range] at ih ⊢
   rw[Nat.add_mul,Nat.one_mul,List.range_add,List.map_append,ih,List.replicate_succ',List.flatten_append]
   congr 1
   simp only[List.map_map,List.flatten_cons,List.flatten_nil,List.append_nil]
   apply List.ext_getElem?
   intro i
   by_cases hi:i<z.size
   ·have e:(n*z.size+i) % z.size=i:=by rw[Nat.mul_comm,Nat.mul_add_mod,Nat.mod_eq_of_lt hi]
    simp [hi,e]
   ·simp [hi]
section
variable {P:Program}{C:Ctx}{p:Plan}{s:AS}{a:Act}{w w':World}{o:Oper}
theorem layE_rel {ver:Nat→Nat}{esz:Nat}:∀ (parts:List (Nat × AV)) (vals:List (Nat × Value)) (es es':List (List RV)) (cells:Array Value),
 layE ver esz es parts=some es'→(∀ e∈es,e.length=esz)→RV.relV w p.R es.flatten cells.toList→(∀ u∈cells.toList,u.oneCell'=true) →
 parts.map (·.1)=vals.map (·.1)→AV.relV w p ver (parts.map (·.2)) (vals.map (·.2)) →
 ∃ cells',Instr.fill (fun i=>some (i*esz,esz)) cells vals=some cells'∧es'.length=es.length∧(∀ e∈es',e.length=esz)∧RV.relV w p.R es'.flatten cells'.toList∧∀ u∈cells'.toList,u.oneCell'=true
 | [], vals, es, es', cells, h, hl, hV, h1, hi, _=>by
   cases vals with
   | nil=>simp only[layE] at h;injection h with h;subst h;exact⟨cells,rfl,rfl,hl,hV,h1⟩
   | cons _ _=>simp at hi
 | (i, x)::parts, vals, es, es', cells, h, hl, hV, h1, hi, hvs=>by
   cases vals with
   | nil=>simp at hi
   | cons v vals =>
     obtain⟨i',v⟩:=v
     simp only[List.map_cons,List.cons.injEq] at hi
     obtain⟨hi1,hi2⟩:=hi
     subst hi1
     simp only[List.map_cons,AV.relV] at hvs
     obtain⟨u,us,he,hu,hvs⟩:=hvs
     injection he with he1 he2
     subst he1 he2
     simp only[layE] at h
     split at h
     ·rename_i xs hx
      split at h
      ·rename_i hc
       obtain⟨hlen,hidx⟩:=hc
       cases hx2:x.cells? ver with
       | none=>simp [hx2] at hx
       | some ys =>
         simp only[hx2,Option.bind_some] at hx
         obtain⟨hcv,ho⟩:=cells_rel hx2 hu
         have hcv:=roL_rel hx hcv
         have hlv:=RV.relV_length hcv
         have hlc:=RV.relV_length hV
         simp only[Array.length_toList] at hlv hlc
         rw[length_flatten hl] at hlc
         have hfit:i*esz+v.cells.size≤cells.size:=by
          rw[hlv,hlen,hlc]
          have:=Nat.mul_le_mul_right esz (show i+1≤es.length by omega)
          rw[Nat.add_mul] at this;omega
         have hfold:=arr_foldl_lay v.cells (i*esz) cells hfit
         have hl':∀ e∈es.set i xs,e.length=esz:=fun e hm=>by
          rcases List.mem_or_eq_of_mem_set hm with hm|hm
          ·exact hl e hm
          ·rw[hm];exact hlen
         have:=layE_rel parts vals (es.set i xs) es' (v.cells.zipIdx.foldl (fun cs (x:Value × Nat)=>cs.setIfInBounds (i*esz+x.2) x.1) cells) h hl'
          (by
           rw[hfold,flatten_set hl hidx,show i*esz+v.cells.size=i*esz+esz by omega]
           exact RV.relV_append (RV.relV_take _ hV) (RV.relV_append hcv (RV.relV_drop _ hV)))
          (by
           rw[hfold]
           intro u hu
           simp only[List.mem_append] at hu
           rcases hu with hu|hu|hu
           ·exact h1 u (List.mem_of_mem_take hu)
           ·exact ho u hu
           ·exact h1 u (List.mem_of_mem_drop hu))
          hi2 hvs
         obtain⟨cells',hf,hle,hr⟩:=this
         refine⟨cells',?_,by simpa using hle,hr⟩
         simp only[Instr.fill];rw[if_neg (by simp;omega)]
         exact hf
      ·cases h
     ·cases h
theorem SR.more (h:SR C p s a w) (o:Obj):SR C { p with R:=fun b=>p.R b∨b=w.heap.size } s a (w.alloc o) :=
 h.below ((Below.refl _ _).alloc (Nat.le_refl _) o) (fun _ h=>.inl h) (fun b hb=>hb.imp id (fun e=>by omega)) (fun b hb=>by
  rcases hb with hb|hb
  ·have:=h.rb b hb;simp;omega
  ·simp;omega)
theorem good_buildSlice {t:TypeId}{n:Nat}{ps:Array (Nat × Operand)}(h:SR C p s a w) (ho:o.op = .buildSlice t n ps) (hp:(sBuildSlice P s t n (ps.toList.map fun (i,x)=>(i,s.ev x))).pre) :
 Done P C o s a w (sBuildSlice P s t n (ps.toList.map fun (i,x)=>(i,s.ev x))):=by
 have hparts:=parts_rel h ps.toList
 unfold sBuildSlice at hp ⊢
 split at hp
 ·rename_i e esz eb ez sz agg z e1
  obtain⟨hu,hok,hsz,_,zv,hzv,hez⟩:=tyq_slice e1
  subst hsz
  obtain⟨i,zval,hi,hzero,hcells,hz1,hzl⟩:=zeroOf_spec hzv
  split at hp
  ·rename_i hn0
   subst hn0
   rw[if_pos rfl]
   have hps:ps = #[]:=by
    have hnil:(ps.toList.map fun (x:Nat × Operand)=>(x.1,s.ev x.2))=[]:=hp
    have:ps.toList=[]:=by simpa using hnil
    simpa using this
   refine⟨_,.slice (some ⟨w.heap.size,0,none⟩) 0 0,w.alloc (.cells #[] e),_,?_,.inl rfl,trivial,h.more _,?_⟩
   ·simp [execOp,ho,hps,Instr.buildSlice,run_underlying hu,zrs hok,Instr.fill,newRow,arr0]
   ·show AV.rel _ _ _ (.r .ns) _
    simp only[AV.rel,RV.rel];exact⟨_,rfl⟩
  ·rename_i hn0
   rw[if_neg hn0]
   split at hp
   ·rename_i es hlay
    obtain⟨hpos,hmax⟩:0<P.cellsOf e∧n*P.cellsOf e≤16777216:=hp
    have hzc:zval.cells.size=P.cellsOf e:=by rw[← hzl,← hcells];simp
    obtain⟨cells',hf,hle,hl',hr,hr1⟩:=layE_rel (p:=p) (w:=w) _ (ps.toList.map fun x=>(x.1,a.eval x.2)) _ _ (madeCells zval.cells (n*P.cellsOf e)) hlay
     (by intro e he;rw[List.eq_of_mem_replicate he,hez,List.length_map,hzl])
     (by
      rw[← hzc,madeCells_list,hcells,hez]
      clear hlay hn0 ho hmax
      induction n with
      | zero=>simp [RV.relV]
      | succ n ih =>
        simp only[List.replicate_succ,List.flatten_cons];exact RV.relV_append (RV.relV_ofV1 w p.R zv) ih)
     (by
      rw[← hzc,madeCells_list,hcells]
      intro u hu
      obtain⟨l,hl,hul⟩:=List.mem_flatten.1 hu
      rw[List.eq_of_mem_replicate hl] at hul
      exact hz1 u hul)
     hparts.1 hparts.2
    have hnl:es.length=n:=by rw[hle];simp
    refine⟨_,.slice (some ⟨w.heap.size,0,none⟩) n n,w.alloc (.cells cells' e),_,?_,.inl rfl,trivial,h.more _,?_⟩
    ·have hmap:(ps.map fun (x:Nat × Operand)=>(x.1,a.eval x.2)).toList=ps.toList.map fun x=>(x.1,a.eval x.2):=by simp
     have hne:¬ (n*P.cellsOf e=0):=by
      have:=Nat.mul_pos (show 0<n by omega) hpos
      omega
     have hz:(zeroValue e).run P w = .ok zval w:=by simp [zeroValue,typeInfo,hi,hzero]
     have hf':=hf
     simp only[madeCells] at hf'
     simp only[execOp,ho,Instr.buildSlice,Sem.run_bind,run_underlying hu,Result.andThen_ok,zrs hok,if_neg (show ¬ (n*P.cellsOf e > 2 ^ 24) by omega),if_neg hne,hz,Sem.run_pure,hmap,hf']
     simp [newRow]
    ·show AV.rel _ _ _ (.r (.sl _ es)) _
     simp only[AV.rel,RV.rel]
     refine⟨_,n,by rw[hnl],by omega,?_,fun _=>⟨_,rfl,.inr rfl,?_⟩⟩
     ·have:=Nat.le_mul_of_pos_right n hpos
      simp only[maxLen];omega
     ·have hV:RV.relV (w.alloc (.cells cells' e)) (fun b=>p.R b∨b=w.heap.size) es.flatten cells'.toList :=
       RV.relV_mono (fun _ h=>.inl h) (fun ad hr=>World.cell?_alloc_lt w _ ad (h.rb _ hr)) _ _ hr
      refine relE_of_vals hl' hV hr1 (fun j u hj=>?_)
      rw[add_at]
      simp only[Nat.zero_add,World.cell?_alloc_new]
      simpa using hj
   ·exact hp.elim
 ·exact hp.elim
theorem buildSlice_sx {t:TypeId}{n:Nat}{ps:Array (Nat × Operand)}{sz0:Nat}{es0:List (List RV)}(h:SR C p s a w) (ho:o.op = .buildSlice t n ps) (hp:(sBuildSlice P s t n (ps.toList.map fun (i,x)=>(i,s.ev x))).pre)
 (hy:(sBuildSlice P s t n (ps.toList.map fun (i,x)=>(i,s.ev x))).y=⟨.r (.sl sz0 es0),[]⟩) (hes:es0≠[]):∃ v w' p',(execOp a.eval o).run P w = .ok (.value v) w'∧SR C p' s a w'∧(AV.r (.sx sz0 es0)).rel w' p' s.ver v:=by
 have hparts:=parts_rel h ps.toList
 unfold sBuildSlice at hp hy
 split at hp
 ·rename_i e esz eb ez sz agg z e1
  rw[e1] at hy
  simp only at hy
  obtain⟨hu,hok,hsz,_,zv,hzv,hez⟩:=tyq_slice e1
  subst hsz
  obtain⟨i,zval,hi,hzero,hcells,hz1,hzl⟩:=zeroOf_spec hzv
  split at hp
  ·rename_i hn0
   rw[if_pos hn0] at hy
   simp [Res.when] at hy
  ·rename_i hn0
   rw[if_neg hn0] at hy
   split at hp
   ·rename_i es hlay
    rw[hlay] at hy
    have hy:(⟨.r (.sl (P.cellsOf e) es),[]⟩:Yi)=⟨.r (.sl sz0 es0),[]⟩:=hy
    injection hy with hy _
    injection hy with hy
    injection hy with hy1 hy2
    subst hy1 hy2
    obtain⟨hpos,hmax⟩:0<P.cellsOf e∧n*P.cellsOf e≤16777216:=hp
    have hzc:zval.cells.size=P.cellsOf e:=by rw[← hzl,← hcells];simp
    obtain⟨cells',hf,hle,hl',hr,hr1⟩:=layE_rel (p:=p) (w:=w) _ (ps.toList.map fun x=>(x.1,a.eval x.2)) _ _ (madeCells zval.cells (n*P.cellsOf e)) hlay
     (by intro e he;rw[List.eq_of_mem_replicate he,hez,List.length_map,hzl])
     (by
      rw[← hzc,madeCells_list,hcells,hez]
      clear hy hlay hn0 ho hmax
      induction n with
      | zero=>simp [RV.relV]
      | succ n ih =>
        simp only[List.replicate_succ,List.flatten_cons];exact RV.relV_append (RV.relV_ofV1 w p.R zv) ih)
     (by
      rw[← hzc,madeCells_list,hcells]
      intro u hu
      obtain⟨l,hl,hul⟩:=List.mem_flatten.1 hu
      rw[List.eq_of_mem_replicate hl] at hul
      exact hz1 u hul)
     hparts.1 hparts.2
    have hnl:es.length=n:=by rw[hle];simp
    refine⟨.slice (some ⟨w.heap.size,0,none⟩) n n,w.alloc (.cells cells' e),_,?_,h.more _,?_⟩
    ·have hmap:(ps.map fun (x:Nat × Operand)=>(x.1,a.eval x.2)).toList=ps.toList.map fun x=>(x.1,a.eval x.2):=by simp
     have hne:¬ (n*P.cellsOf e=0):=by
      have:=Nat.mul_pos (show 0<n by omega) hpos
      omega
     have hz:(zeroValue e).run P w = .ok zval w:=by simp [zeroValue,typeInfo,hi,hzero]
     have hf':=hf
     simp only[madeCells] at hf'
     simp only[execOp,ho,Instr.buildSlice,Sem.run_bind,run_underlying hu,Result.andThen_ok,zrs hok,if_neg (show ¬ (n*P.cellsOf e > 2 ^ 24) by omega),if_neg hne,hz,Sem.run_pure,hmap,hf']
     simp [newRow]
    ·simp only[AV.rel,RV.rel]
     refine⟨_,by rw[hnl],hes,?_,.inr rfl,?_⟩
     ·have:=Nat.le_mul_of_pos_right n hpos
      simp only[maxLen];omega
     ·have hV:RV.relV (w.alloc (.cells cells' e)) (fun b=>p.R b∨b=w.heap.size) es.flatten cells'.toList :=
       RV.relV_mono (fun _ h=>.inl h) (fun ad hr=>World.cell?_alloc_lt w _ ad (h.rb _ hr)) _ _ hr
      refine relE_of_vals hl' hV hr1 (fun j u hj=>?_)
      rw[add_at]
      simp only[Nat.zero_add,World.cell?_alloc_new]
      simpa using hj
   ·exact hp.elim
 ·exact hp.elim
end
end Go.Oc

/- Part 7 of the texts of this claim. -/
import Derived.Test.YtgfbenanljjgaaaGreatVE6
set_option linter.unusedSimpArgs false
set_option linter.unusedVariables false
namespace Go.Oc
open Go Go.RowKit
def unl (listed:Array Bool):Nat→Nat
 | 0=>0
 | m+1=>unl listed m+if listed.getD m true then 0 else 1
theorem zFI {listed:Array Bool}{i j:Nat}:(listed.setIfInBounds i true).getD j true=if j=i then true else listed.getD j true:=by
 split
 ·rename_i e
  subst e
  simp only[Array.getD_eq_getD_getElem?,Array.getElem?_setIfInBounds]
  split
  ·split<;>simp_all
  ·simp_all
 ·rename_i e
  simp only[Array.getD_eq_getD_getElem?,Array.getElem?_setIfInBounds];rw[if_neg (fun h=>e h.symm)]
theorem zMZ {listed:Array Bool}{i:Nat}:∀ m,m≤i→unl (listed.setIfInBounds i true) m=unl listed m
 | 0,_=>rfl
 | m+1, h=>by
   have e2:m≠i:=by omega
   have e3:=zMZ (listed:=listed) (i:=i) m (by omega)
   simp only[unl,zFI,e3,if_neg e2]
theorem zIV {listed:Array Bool}{i:Nat}(hi:listed.getD i true=false):∀ m,i<m→unl (listed.setIfInBounds i true) m+1=unl listed m
 | 0,h=>by omega
 | m+1, h=>by
   simp only[unl,zFI]
   by_cases e:i=m
   ·subst e
    rw[zMZ _ (Nat.le_refl _)]
    simp [hi]
   ·have:=zIV hi m (by omega)
    have e2:m≠i:=fun h=>e h.symm
    rw[if_neg e2]
    omega
theorem zIU {listed:Array Bool}:∀ m,unl listed m=0→∀ j,j<m→listed.getD j true=true
 | 0,_,j,h=>by omega
 | m+1, h, j, hj=>by
   simp only[unl] at h
   by_cases e:j=m
   ·subst e
    by_cases hx:listed.getD j true=true
    ·exact hx
    ·simp [hx] at h
   ·exact zIU m (by omega) j (by omega)
def zIX (P:Program) (ops:Array Oper) (n:Nat) (F:(Nat→Bool)→(Nat→Nat)→List (Nat × AV)) (R:(Nat→Bool)→(Nat→Nat)→List (Nat × RowC)):Nat→List Oper→Prop
 | _,[]=>True
 | k,o::rest=>(∀ b vs,(∀ j e,j<ops.size→(deps ops j).contains e=true→b j=true→b e=true)→b k=false→(∀ e∈deps ops k,b e=true) →
  xop P false o (FitV n (F (upd b k true)) (R (upd b k true))) (st n (F b vs) vs (R b vs)))∧zIX P ops n F R (k+1) rest
theorem zGc {P:Program}{ops:Array Oper}{n:Nat}{F:(Nat→Bool)→(Nat→Nat)→List (Nat × AV)}{R:(Nat→Bool)→(Nat→Nat)→List (Nat × RowC)}:∀ {l:List Oper}{k i:Nat}{o:Oper},zIX P ops n F R k l→l[i]? = some o →
 ∀ b vs, (∀ j e, j<ops.size→(deps ops j).contains e=true→b j=true→b e=true)→b (k+i)=false→(∀ e∈deps ops (k+i), b e=true) →
   xop P false o (FitV n (F (upd b (k+i) true)) (R (upd b (k+i) true))) (st n (F b vs) vs (R b vs))
 | [],_,_,_,_,h=>by simp at h
 | x::l, k, 0, o, hs, h=>by
   simp only[List.getElem?_cons_zero,Option.some.injEq] at h
   subst h
   exact hs.1
 | x::l, k, i+1, o, hs, h=>by
   have:=zGc (k:=k+1) (i:=i) hs.2 (by simpa using h)
   rwa [show k+1+i=k+(i+1) by omega] at this
def upOk (ops:Array Oper):Bool:=(List.range ops.size).all fun j=>(deps ops j).all fun e=>decide (e<j)
section
variable {P:Program}{C:Ctx}{s:AS}{a:Act}{w:World}{ops:Array Oper}
theorem ready_nil {listed:Array Bool}(hu:upOk ops=true) (h:Region.ready .any ops listed=[]) (hsz:listed.size=ops.size):∀ j,j<ops.size→listed.getD j true=true:=by
 intro j
 induction j using Nat.strongRecOn with
 | _ j ih =>
   intro hj
   by_cases hx:listed.getD j true=true
   ·exact hx
   ·exfalso
    have ho:ops[j]? = some ops[j]:=Array.getElem?_eq_getElem hj
    have hr:j∈Region.ready .any ops listed:=by
     refine mem_ready.2 ⟨by simpa using hx,ops[j],ho,fun e he hb=>?_⟩
     have hm:e.on∈deps ops j:=by unfold deps;rw[ho];exact List.mem_map.2 ⟨e,List.mem_filter.2 ⟨by simpa using he,hb⟩,rfl⟩
     have hlt:=List.all_eq_true.1 (List.all_eq_true.1 hu j (by simpa using hj)) e.on hm
     simp only[decide_eq_true_eq] at hlt
     have:=ih e.on hlt (by omega)
     have h2:e.on<listed.size:=by omega
     simpa [h2] using this
    rw[h] at hr
    cases hr
theorem zUD {Q:AS→Prop}{Q':Exit→Act→World→Prop}(hQ:∀ s a w,Q s→SRel C s a w→Q' .normal a w) {n:Nat}{F:(Nat→Bool)→(Nat→Nat)→List (Nat × AV)}{R:(Nat→Bool)→(Nat→Nat)→List (Nat × RowC)}
 (hd:zA9 ops n=true) (hg:ops.all (fun o=>o.guard.isNone)=true) (hu:upOk ops=true) (hstep:zIX P ops n F R 0 ops.toList)
 (hend:∀ b vs,(∀ j,b j=true)→Q (st n (F b vs) vs (R b vs))) :
 ∀ (fuel:Nat) (vs:Nat→Nat) (listed:Array Bool) (a:Act) (w:World), listed.size=ops.size→down ops listed→unl listed ops.size≤fuel→SRel C (st n (F (fun j=>listed.getD j true) vs) vs (R (fun j=>listed.getD j true) vs)) a w →
   wpAnyIn (fnc C.rd) 0 P .any ops Q' fuel listed a w:=by
 have all:∀ {listed:Array Bool},listed.size=ops.size→(∀ j,j<ops.size→listed.getD j true=true)→∀ j,(fun j=>listed.getD j true) j=true:=fun {listed} hsz h j=>by
  by_cases hj:j<ops.size
  ·exact h j hj
  ·show listed.getD j true=true
   have:¬ j<listed.size:=by omega
   simp [this]
 intro fuel
 induction fuel with
 | zero =>
   intro vs listed a w hsz hdn hf hs
   have h0:=zIU (listed:=listed) ops.size (by omega)
   refine⟨List.eq_nil_iff_forall_not_mem.2 fun j hj=>?_,hQ _ _ _ (hend _ _ (all hsz h0)) hs⟩
   obtain⟨h1,o,ho,_⟩:=mem_ready.1 hj
   have:=h0 j (Array.getElem?_eq_some_iff.1 ho).1
   rw[this] at h1
   cases h1
 | succ fuel ih =>
   intro vs listed a w hsz hdn hf hs
   refine⟨fun h0=>hQ _ _ _ (hend _ _ (all hsz (ready_nil hu h0 hsz))) hs,fun i hi=>?_⟩
   obtain⟨hi1,o,ho,hall⟩:=mem_ready.1 hi
   unfold wpOpIn
   rw[ho]
   simp only
   have hil:i<ops.size:=(Array.getElem?_eq_some_iff.1 ho).1
   have hgo:o.guard=none:=by
    have:=Array.all_eq_true_iff_forall_mem.1 hg o (Array.mem_of_getElem? ho)
    simpa using this
   obtain⟨p,hp⟩:=hs
   rw[if_pos (zAq hp (by simp [zAN,hgo]))]
   have hx:=zGc (k:=0) (i:=i) hstep (by rw[Array.getElem?_toList];exact ho) (fun j=>listed.getD j true) vs (fun j e hj he hb=>?_) (by rw[Nat.zero_add];exact hi1) (fun e he=>?_)
   ·rw[Nat.zero_add] at hx
    refine zEn hp hx (zA0 hd ho) (fun a' w' p' s' hs' hn hK=>?_) (zFP hd ho)
    obtain⟨vs',hsub⟩:=hK
    have e:upd (fun j=>listed.getD j true) i true=fun j=>(listed.setIfInBounds i true).getD j true:=by
     funext j
     rw[zFI]
     rfl
    rw[e] at hsub
    exact ih vs' _ a' w' (by simpa using hsz) (zEL hdn hi) (by have:=zIV hi1 ops.size hil;omega) (hsub C a' w' ⟨p',hs'⟩)
   ·have hjs:j<listed.size:=by omega
    have hb':listed.getD j true=true:=hb
    have h2:=hdn j (by simpa [hjs] using hb') e (by simpa using he)
    show listed.getD e true=true
    by_cases hes:e<listed.size
    ·simpa [hes] using h2
    ·simp [hes]
   ·have h2:=zBy hi e (by simpa using he)
    show listed.getD e true=true
    by_cases hes:e<listed.size
    ·simpa [hes] using h2
    ·simp [hes]
end
theorem zQ3 {P:Program}{C:Ctx}{id:Nat}{l:List Oper}{n:Nat}{Q:Exit→AS→Prop}{s:AS}(F:(Nat→Bool)→(Nat→Nat)→List (Nat × AV)) (R:(Nat→Bool)→(Nat→Nat)→List (Nat × RowC)) (hm:P.follows .mixedOrders=true)
 (hd:zA9 l.toArray n=true) (hg:l.toArray.all (fun o=>o.guard.isNone)=true) (hu:upOk l.toArray=true) (h0:FitV n (F fun j=>decide (l.length≤j)) (R fun j=>decide (l.length≤j)) s)
 (hstep:zIX P l.toArray n F R 0 l) (hend:∀ b vs,(∀ j,b j=true)→Q .normal (st n (F b vs) vs (R b vs))):awp P C (.region id l.toArray true) Q s:=fun a w hs=>by
 obtain⟨vs,hsub⟩:=h0
 obtain⟨p,hp⟩:=hsub C a w hs
 have hs':SR C p _ a { w with drawn:=w.drawn+1 }:=hp.below (w':=w.drew) ((Below.refl _ _).drew) (fun _ h=>h) (fun _ h=>.inl h) hp.rb
 refine wpIn_region_any hm ?_
 have e:(fun j=>(Array.replicate l.toArray.size false).getD j true)=fun j=>decide (l.length≤j):=by
  funext j
  by_cases h:j<l.length
  ·have:¬ l.length≤j:=by omega
   simp [h,this]
  ·have:l.length≤j:=by omega
   simp [h,this]
 refine zUD (Q:=fun s=>Q .normal s) (n:=n) (F:=F) (R:=R) (fun s a w hq hs=>⟨s,hs,hq⟩) hd hg hu (by simpa using hstep) hend _ vs _ _ _ (by simp) (fun j hj=>?_) ?_ ?_
 ·exfalso
  simp only[Array.getD_eq_getD_getElem?,Array.getElem?_replicate] at hj
  split at hj<;>simp at hj
 ·have:∀ m,unl (Array.replicate l.toArray.size false) m≤m:=by
   intro m
   induction m with
   | zero=>exact Nat.le_refl _
   | succ m ih=>simp only[unl];split<;>omega
  exact this _
 ·rw[e]
  exact⟨p,hs'⟩
def allB (b:Nat→Bool) (v:Bool):List Nat→Prop
 | []=>True
 | e::es=>b e=v∧allB b v es
def chU (ops:Array Oper) (n:Nat):List Nat→List Nat→Bool
 | _,[]=>true
 | seen,e::es=>((deps ops n).contains e || seen.any fun j=>decide (j<ops.size)&&(deps ops j).contains e)&&chU ops n (e::seen) es
def chD (ops:Array Oper) (n:Nat):List Nat→List Nat→Bool
 | _,[]=>true
 | seen,e::es=>(decide (e<ops.size)&&((deps ops e).contains n || seen.any fun j=>(deps ops e).contains j))&&chD ops n (e::seen) es
theorem upT0 {ops:Array Oper}{b:Nat→Bool}{n:Nat}(hdn:∀ j e,j<ops.size→(deps ops j).contains e=true→b j=true→b e=true) (hde:∀ e∈deps ops n,b e=true):∀ (es seen:List Nat),(∀ j∈seen,b j=true)→chU ops n seen es=true→allB b true es
 | [],_,_,_=>trivial
 | e::es, seen, hs, h=>by
   simp only[chU,Bool.and_eq_true,Bool.or_eq_true,List.any_eq_true,decide_eq_true_eq] at h
   have he:b e=true:=by
    rcases h.1 with h1|⟨j,hj,h1,h2⟩
    ·exact hde e (by simpa using h1)
    ·exact hdn j e h1 h2 (hs j hj)
   refine⟨he,upT0 hdn hde es (e::seen) (fun j hj=>?_) h.2⟩
   rcases List.mem_cons.1 hj with rfl|hj
   ·exact he
   ·exact hs j hj
theorem upT {ops:Array Oper}{b:Nat→Bool}{n:Nat}(hdn:∀ j e,j<ops.size→(deps ops j).contains e=true→b j=true→b e=true) (hde:∀ e∈deps ops n,b e=true) (es:List Nat) (h:chU ops n [] es=true):allB b true es:=upT0 hdn hde es [] (by simp) h
theorem dnT0 {ops:Array Oper}{b:Nat→Bool}{n:Nat}(hdn:∀ j e,j<ops.size→(deps ops j).contains e=true→b j=true→b e=true) (hbk:b n=false):∀ (es seen:List Nat),(∀ j∈seen,b j=false)→chD ops n seen es=true→allB b false es
 | [],_,_,_=>trivial
 | e::es, seen, hs, h=>by
   simp only[chD,Bool.and_eq_true,Bool.or_eq_true,List.any_eq_true,decide_eq_true_eq] at h
   have he:b e=false:=by
    cases hb:b e
    ·rfl
    ·rcases h.1.2 with h1|⟨j,hj,h2⟩
     ·rw[hdn e n h.1.1 h1 hb] at hbk;cases hbk
     ·have:=hs j hj
      rw[hdn e j h.1.1 h2 hb] at this;cases this
   refine⟨he,dnT0 hdn hbk es (e::seen) (fun j hj=>?_) h.2⟩
   rcases List.mem_cons.1 hj with rfl|hj
   ·exact he
   ·exact hs j hj
theorem dnT {ops:Array Oper}{b:Nat→Bool}{n:Nat}(hdn:∀ j e,j<ops.size→(deps ops j).contains e=true→b j=true→b e=true) (hbk:b n=false) (es:List Nat) (h:chD ops n [] es=true):allB b false es:=dnT0 hdn hbk es [] (by simp) h
end Go.Oc

namespace Go.Oc
open Go Go.RowKit
def zRj (P:Program) (s:AS) (d:Nat) (t t':TypeId) (x y:AV):Res :=
 match tyq P t,decide (t=t'),x,y with
 | some ⟨.slice e esz eb _, _, _, _⟩, true, .os k n sz off m, .os j n2 sz2 off2 m2 =>
   match s.rows k,s.rows j with
   | ⟨n',.ara e' sz' cs⟩,⟨n2',.ara e2 sz2' ds⟩=>⟨(n=n'∧n2=n2')∧(e'=e∧e2=e)∧(sz=esz∧sz'=esz∧sz2=esz∧sz2'=esz)∧(off=0∧off2=0)∧(cs.length=m*esz∧ds.length=m2*esz)∧(0<m∧0<m2∧0<esz)∧(m+m2)*eb≤140737488355328∧m+m2≤9223372036854775807∧k<1000,True,
    ⟨.os k (n'+1) esz 0 (m+m2),[(k,⟨n'+1,.ara e esz (cs++ds)⟩)]⟩⟩
   | _,_=>.bad
 | some ⟨.slice e esz eb _, _, _, _⟩, true, .r .ns, .os j n2 sz2 off2 m2 =>
   match s.rows j with
   | ⟨n2',.ara e2 sz2' ds⟩=>⟨n2=n2'∧e2=e∧(sz2=esz∧sz2'=esz)∧off2=0∧ds.length=m2*esz∧(0<m2∧0<esz)∧m2*eb≤140737488355328∧m2≤9223372036854775807∧d<1000,True,
    ⟨.os d ((s.rows d).ver+1) esz 0 m2,[(d,⟨(s.rows d).ver+1,.ara e esz ds⟩)]⟩⟩
   | _=>.bad
 | _,_,_,_=>.bad
section
variable {P:Program}{C:Ctx}{p:Plan}{s:AS}{a:Act}{w:World}{o:Oper}
theorem zJN (h:SR C p s a w) {k n esz e m:Nat}{cs:List AV}{x:Operand}(e3:s.ev x = .os k n esz 0 m) (e5:s.rows k=⟨n,.ara e esz cs⟩) (hm:cs.length=m*esz) (h0:0<m) :
 ∃ b cells l rest, p.β k=some b∧a.eval x = .slice (some ⟨b, 0, none⟩) m (p.γ k)∧w.heap[b]? = some (.cells cells e (0, 0))∧cells.size=p.γ k*esz∧cells.toList=l++rest∧AV.relV w p s.ver cs l∧(∀ u∈l, u.oneCell'=true)∧l.length=m*esz ∧
   m≤p.γ k∧∀ j u,l[j]? = some u→w.cell? ((⟨b,0,none⟩:Addr).add j)=some u:=by
 have hver:n=s.ver k:=by simp [AS.ver,e5]
 have hrow:=h.rw k
 rw[e5] at hrow
 simp only[zrl] at hrow
 obtain⟨b,cells,hβ,hh,hcs,l,rest,hl,hV,h1⟩:=hrow
 rcases zHX h e3 hver with⟨hb0,_⟩|⟨b',A,hβ',hv,hle,hA⟩
 ·rw[hb0] at hβ;cases hβ
 ·rw[hβ] at hβ'
  injection hβ' with hβ'
  subst hβ'
  obtain rfl:=hA (.inl h0)
  simp only[Nat.zero_mul,Nat.sub_zero,Nat.zero_add] at hv hle
  refine⟨b,cells,l,rest,hβ,hv,hh,hcs,hl,hV,h1,by rw[AV.relV_length hV,hm],hle,fun j u hj=>?_⟩
  rw[zAg,Nat.zero_add,cell_of_row w b j cells e (0,0) hh,← Array.getElem?_toList,hl,List.getElem?_append_left (List.getElem?_eq_some_iff.1 hj).1]
  exact hj
theorem zQX {x y:Operand}{t t':TypeId}(h:SR C p s a w) (ho:o.op = .call ⟨.builtin .append,#[x,y],#[t,t']⟩) (hp:(zRj P s (o.dst.getD 0) t t' (s.ev x) (s.ev y)).pre) :
 Done P C o s a w (zRj P s (o.dst.getD 0) t t' (s.ev x) (s.ev y)):=by
 have go:∀ {v:Value}{w2:World},(Builtin.append_ #[t,t'] o.type #[a.eval x,a.eval y]).run P w = .ok v w2→(execOp a.eval o).run P w = .ok (.value v) w2:=fun hr =>
  zAL ho (by simp only[builtin,Sem.run_bind,List.map_toArray,List.map_cons,List.map_nil,hr,Result.andThen_ok,Sem.run_pure])
 unfold zRj at hp ⊢
 split at hp
 ·rename_i e esz eb ez ssz sagg sz0 k n sz off m j n2 sz2 off2 m2 e1 e2 e3 e4
  obtain rfl:t=t':=by simpa using e2
  split at hp
  ·rename_i n' e' sz' cs n2' ee sz2' ds e5 e6
   obtain⟨⟨g1,g2⟩,⟨g3,g4⟩,⟨g5,g6,g7,g8⟩,⟨g9,g10⟩,⟨hm,hm2⟩,⟨h0,h02,hpos⟩,hb,hmax,hk0⟩:=hp
   subst g1 g2 g3 g4 g5 g6 g7 g8 g9 g10
   have hn2:n=(s.rows k).ver:=by rw[e5]
   obtain⟨b,cells,l,rest,hβ,hv,hh,hcs,hl,hV,h1,hll,hle,hget⟩:=zJN h e3 e5 hm h0
   obtain⟨bj,cellsj,vs,restj,hβj,hvj,hhj,hcsj,hlj,hVj,h1j,hlv,hlej,hgv⟩:=zJN h e4 e6 hm2 h02
   obtain⟨hu,hok,hco,hby,zv,hzv,hez⟩:=zAP e1
   obtain⟨i,z,hi,hzero,hcells,hz1,hzl⟩:=zAM hzv
   rw[zci hi] at hco
   rw[zBP hi] at hby
   by_cases hroom:m+m2≤p.γ k
   ·have hfit:m*sz2'+vs.length≤cells.size:=by
     rw[hlv,hcs,← Nat.add_mul];exact Nat.mul_le_mul_right _ hroom
    have hr:=run_append_room (P:=P) w t o.type ee i hu hi b m (p.γ k) cells hh ⟨bj,0,none⟩ m2 (p.γ j) vs (by rw[hlv,hco]) hgv h1j hroom (by rw[hco];exact hfit)
    rw[hco] at hr
    have htk:cells.toList.take (m*sz2')=l:=by rw[hl,← hll,List.take_left]
    have hSR:=h.reRow (w':=w.setRow b (cells.toList.take (m*sz2')++vs++cells.toList.drop (m*sz2'+vs.length)).toArray) k hk0 (.ara ee sz2' (cs++ds)) rfl (some b) (p.γ k) (h.cap k) rfl rfl rfl (by simp)
     (fun j _ hj=>setRow_other w b j _ (fun e=>hj (by rw[e];exact hβ))) (fun b2 h2=>by injection h2 with h2;subst h2;exact⟨by simpa using (h.bl k _ hβ).1,.inl hβ⟩) (fun p' ver' hR' hβ' hγ' hk=>by
     simp only[zrl];rw[hγ']
     refine⟨b,_,hβ',setRow_heap w b cells _ ee _ hh,?_,l++vs,cells.toList.drop (m*sz2'+vs.length),by rw[htk],?_,fun u hu=>(List.mem_append.1 hu).elim (h1 u) (h1j u)⟩
     ·simp;omega
     ·exact AV.relV_append (AV.relV_mono hk _ _ hV) (AV.relV_mono hk _ _ hVj))
    refine⟨_,.slice (some ⟨b,0,none⟩) (m+m2) (p.γ k),_,{ p with β:=upd p.β k (some b),γ:=upd p.γ k (p.γ k) },go (by rw[hv,hvj];exact hr),.inl rfl,trivial,?_,?_⟩
    ·rw[zro,hn2];exact hSR
    ·rw[zro,hn2]
     simp only[AV.rel,vers,zus];exact⟨Nat.le_refl _,fun _=>.inr ⟨b,_,rfl,by simp;rfl,by simpa using hroom,fun _=>by simp⟩⟩
   ·have hr:=run_append_grow (P:=P) w t o.type ee i z hu hi hzero ⟨b,0,none⟩ m (p.γ k) l (by rw[hll,hco]) hget ⟨bj,0,none⟩ m2 (p.γ j) vs (by rw[hlv,hco]) hgv (by omega) (by omega)
     (growslice_fits (by omega) (by rw[hby];exact hb))
    have hge:=grownCap_ge w (m+m2) (p.γ k) ee
    have hcap:=grownCap_le_maxLen w (m+m2) (p.γ k) ee (by simp only[maxLen];omega)
    have hzc:z.cells.size=sz2':=by rw[zci hi,hco] at hzl;rw[← hzl,← hcells];simp
    have hd:SR C p s a w.drew:=h.below (w':=w.drew) ((Below.refl _ _).drew) (fun _ h=>h) (fun _ h=>.inl h) h.rb
    have hVd:AV.relV w.drew p s.ver cs l:=by
     obtain⟨b3,cells3,hβ3,hh3,_,l3,rest3,hl3,hV3,_⟩:∃ b cells,p.β k=some b∧w.drew.heap[b]? = some (.cells cells ee (0,0))∧cells.size=p.γ k*sz2'∧∃ l rest,cells.toList=l++rest∧AV.relV w.drew p s.ver cs l∧∀ u∈l,u.oneCell'=true:=by
      have:=hd.rw k
      rw[e5] at this
      simpa only[zrl] using this
     rw[hβ] at hβ3;injection hβ3 with hβ3;subst hβ3
     have hh3':w.heap[b]? = some (.cells cells3 ee (0,0)):=hh3
     rw[hh] at hh3';injection hh3' with hh3';injection hh3' with hh3';subst hh3'
     have e7:l3=l:=by
      have e8:=AV.relV_length hV3
      rw[hl] at hl3
      have:l.length=l3.length:=by rw[hll,← hm];exact e8.symm
      exact (List.append_inj hl3 this).1.symm
     subst e7
     exact hV3
    have hVjd:AV.relV w.drew p s.ver ds vs:=by
     obtain⟨b3,cells3,hβ3,hh3,_,l3,rest3,hl3,hV3,_⟩:∃ b cells,p.β j=some b∧w.drew.heap[b]? = some (.cells cells ee (0,0))∧cells.size=p.γ j*sz2'∧∃ l rest,cells.toList=l++rest∧AV.relV w.drew p s.ver ds l∧∀ u∈l,u.oneCell'=true:=by
      have:=hd.rw j
      rw[e6] at this
      simpa only[zrl] using this
     rw[hβj] at hβ3;injection hβ3 with hβ3;subst hβ3
     have hh3':w.heap[bj]? = some (.cells cells3 ee (0,0)):=hh3
     rw[hhj] at hh3';injection hh3' with hh3';injection hh3' with hh3';subst hh3'
     have e7:l3=vs:=by
      have e8:=AV.relV_length hV3
      rw[hlj] at hl3
      have:vs.length=l3.length:=by rw[hlv,← hm2];exact e8.symm
      exact (List.append_inj hl3 this).1.symm
     subst e7
     exact hV3
    have hn:=hd.newRow k hk0 (.ara ee sz2' (cs++ds)) rfl (grownCap w (m+m2) (p.γ k) ee) hcap
     (.cells (l.toArray++vs.toArray++Builtin.zeroCells z.cells (grownCap w (m+m2) (p.γ k) ee-(m+m2))) ee) (fun p' ver' _ hβ hγ hk=>by
     simp only[zrl];rw[hγ]
     refine⟨_,_,hβ,heap_alloc_new w.drew _,?_,l++vs,(Builtin.zeroCells z.cells (grownCap w (m+m2) (p.γ k) ee-(m+m2))).toList,?_,AV.relV_append (AV.relV_mono hk _ _ hVd) (AV.relV_mono hk _ _ hVjd),fun u hu=>(List.mem_append.1 hu).elim (h1 u) (h1j u)⟩
     ·rw[Array.size_append,Array.size_append,zCa,hzc,List.size_toArray,List.size_toArray,hll,hlv,← Nat.add_mul,← Nat.add_mul]
      congr 1;omega
     ·simp only[Array.toList_append,List.append_assoc])
    refine⟨_,_,_,_,go (by rw[hv,hvj];exact hr),.inl rfl,trivial,by rw[zro,hn2];exact hn,?_⟩
    rw[zro,hn2]
    simp only[AV.rel,vers,zus];exact⟨Nat.le_refl _,fun _=>.inr ⟨_,_,rfl,by simp;rfl,by simpa using hge,fun _=>by simp⟩⟩
  ·exact hp.elim
 ·rename_i e esz eb ez ssz sagg sz0 j n2 sz2 off2 m2 e1 e2 e3 e4
  obtain rfl:t=t':=by simpa using e2
  split at hp
  ·rename_i n2' ee sz2' ds e6
   obtain⟨g2,g4,⟨g7,g8⟩,g10,hm2,⟨h02,hpos⟩,hb,hmax,hd0⟩:=hp
   subst g2 g4 g7 g8 g10
   obtain⟨A,hv⟩:=zKq h e3
   obtain⟨bj,cellsj,vs,restj,hβj,hvj,hhj,hcsj,hlj,hVj,h1j,hlv,hlej,hgv⟩:=zJN h e4 e6 hm2 h02
   obtain⟨hu,hok,hco,hby,zv,hzv,hez⟩:=zAP e1
   obtain⟨i,z,hi,hzero,hcells,hz1,hzl⟩:=zAM hzv
   rw[zci hi] at hco
   rw[zBP hi] at hby
   have hrun:(Builtin.append_ #[t,t] o.type #[.slice A 0 0,.slice (some ⟨bj,0,none⟩) m2 (p.γ j)]).run P w =
    .ok (.slice (some ⟨w.heap.size,0,none⟩) m2 (grownCap w m2 0 ee)) (w.drew.alloc (.cells (vs.toArray++Builtin.zeroCells z.cells (grownCap w m2 0 ee-m2)) ee)):=by
    cases A with
    | none=>exact run_append_nil (P:=P) w t o.type ee i z hu hi hzero ⟨bj,0,none⟩ m2 (p.γ j) vs (by rw[hlv,hco]) hgv h02 (by omega) (by rw[hby];omega)
    | some b =>
      have:=run_append_grow (P:=P) w t o.type ee i z hu hi hzero b 0 0 [] (by simp) (by simp) ⟨bj,0,none⟩ m2 (p.γ j) vs (by rw[hlv,hco]) hgv (by omega) (by omega) (growslice_fits (by omega) (by rw[hby];simpa using hb))
      simpa using this
   have hge:=grownCap_ge w m2 0 ee
   have hcap:=grownCap_le_maxLen w m2 0 ee (by simp only[maxLen];omega)
   have hzc:z.cells.size=sz2':=by rw[zci hi,hco] at hzl;rw[← hzl,← hcells];simp
   have hd:SR C p s a w.drew:=h.below (w':=w.drew) ((Below.refl _ _).drew) (fun _ h=>h) (fun _ h=>.inl h) h.rb
   have hVjd:AV.relV w.drew p s.ver ds vs:=by
    obtain⟨b3,cells3,hβ3,hh3,_,l3,rest3,hl3,hV3,_⟩:∃ b cells,p.β j=some b∧w.drew.heap[b]? = some (.cells cells ee (0,0))∧cells.size=p.γ j*sz2'∧∃ l rest,cells.toList=l++rest∧AV.relV w.drew p s.ver ds l∧∀ u∈l,u.oneCell'=true:=by
     have:=hd.rw j
     rw[e6] at this
     simpa only[zrl] using this
    rw[hβj] at hβ3;injection hβ3 with hβ3;subst hβ3
    have hh3':w.heap[bj]? = some (.cells cells3 ee (0,0)):=hh3
    rw[hhj] at hh3';injection hh3' with hh3';injection hh3' with hh3';subst hh3'
    have e7:l3=vs:=by
     have e8:=AV.relV_length hV3
     rw[hlj] at hl3
     have:vs.length=l3.length:=by rw[hlv,← hm2];exact e8.symm
     exact (List.append_inj hl3 this).1.symm
    subst e7
    exact hV3
   have hn:=hd.newRow (o.dst.getD 0) hd0 (.ara ee sz2' ds) rfl (grownCap w m2 0 ee) hcap
    (.cells (vs.toArray++Builtin.zeroCells z.cells (grownCap w m2 0 ee-m2)) ee) (fun p' ver' _ hβ hγ hk=>by
    simp only[zrl];rw[hγ]
    refine⟨_,_,hβ,heap_alloc_new w.drew _,?_,vs,(Builtin.zeroCells z.cells (grownCap w m2 0 ee-m2)).toList,?_,AV.relV_mono hk _ _ hVjd,h1j⟩
    ·rw[Array.size_append,zCa,hzc,List.size_toArray,hlv,← Nat.add_mul]
     congr 1;omega
    ·simp only[Array.toList_append])
   refine⟨_,_,_,_,go (by rw[hv,hvj];exact hrun),.inl rfl,trivial,by rw[zro];exact hn,?_⟩
   rw[zro]
   simp only[AV.rel,vers,zus];exact⟨Nat.le_refl _,fun _=>.inr ⟨_,_,rfl,by simp;rfl,by simpa using hge,fun _=>by simp⟩⟩
  ·exact hp.elim
 ·exact hp.elim
variable {Q:Exit→AS→Prop}{ops:Array Oper}
end
end Go.Oc

namespace Go.Oc
open Go Go.RowKit
def fam (f:Nat→RowC):Nat→List (Nat × RowC)
 | 0=>[]
 | n+1=>fam f n++[(n+600,f n)]
def xlit (P:Program) (o:Oper) (K:AS→Prop) (s:AS):Prop :=
 match o.op,o.dst with
 | .buildSlice t n ps,some d=>aR s (some d) (zIb P s d t n (ps.toList.map fun (i,x)=>(i,s.ev x))) K
 | _,_=>False
def zUs (P:Program) (o:Oper) (K:AS→Prop) (s:AS):Prop :=
 match o.op,o.dst with
 | .call ⟨.builtin .append,⟨[x,y]⟩,⟨[t,t']⟩⟩,some d=>aR s (some d) (zRj P s d t t' (s.ev x) (s.ev y)) K
 | _,_=>False
def xopL (P:Program) (o:Oper) (K:AS→Prop) (s:AS):Prop:=xop P false o K s∨xlit P o K s∨zUs P o K s
section
variable {P:Program}{C:Ctx}{s:AS}
theorem zN9 {p:Plan}{a:Act}{w:World}{o:Oper}{KA:AS→Prop}(hp:SR C p s a w) (h:xopL P o KA s) (hd0:∀ t,o.dst=some t→t<s.n) {K:Act→World→Prop}{Q:Exit→Act→World→Prop}
 (hK:∀ a' w' p' s',SR C p' s' a' w'→s'.n=s.n→KA s'→K a' w') (hnd:∀ c,o.op ≠ .defer c):o.wpIn (fnc C.rd) 0 P a w K Q:=by
 rcases h with h|h|h
 ·exact zEn hp h hd0 hK hnd
 ·unfold xlit at h
  split at h
  ·rename_i t n ps d ho hd
   refine zAa hnd ?_
   have hg:=zLz (P:=P) (o:=o) hp ho (by rw[hd];exact h.1)
   rw[hd] at hg
   obtain⟨nx,v,w',p',hrun,hnx,hass,hSR,hrel⟩:=hg
   unfold Oper.wp
   rw[hrun]
   have hput:=hSR.put' (d:=some d) hrel (fun t ht=>by injection ht with ht;subst ht;exact hd0 _ hd)
   rcases hnx with rfl|⟨rfl,rfl⟩
   ·show K (a.put o.dst v) w'
    rw[hd]
    exact hK _ _ p' _ hput (zDj _ _ _) (h.2 hass)
   ·show K (a.put o.dst undef) w'
    rw[hd]
    exact hK _ _ p' _ hput (zDj _ _ _) (h.2 hass)
  ·exact h.elim
 ·unfold zUs at h
  split at h
  ·rename_i x y t t' d ho hd
   refine zAa hnd ?_
   have hg:=zQX (P:=P) (o:=o) hp ho (by rw[hd];exact h.1)
   rw[hd] at hg
   obtain⟨nx,v,w',p',hrun,hnx,hass,hSR,hrel⟩:=hg
   unfold Oper.wp
   rw[hrun]
   have hput:=hSR.put' (d:=some d) hrel (fun t ht=>by injection ht with ht;subst ht;exact hd0 _ hd)
   rcases hnx with rfl|⟨rfl,rfl⟩
   ·show K (a.put o.dst v) w'
    rw[hd]
    exact hK _ _ p' _ hput (zDj _ _ _) (h.2 hass)
   ·show K (a.put o.dst undef) w'
    rw[hd]
    exact hK _ _ p' _ hput (zDj _ _ _) (h.2 hass)
  ·exact h.elim
end
section
variable {P:Program}{C:Ctx}{s:AS}{a:Act}{w:World}{ops:Array Oper}
end
end Go.Oc

namespace Go.Oc
open Go Go.RowKit
def zIQ (P:Program) (F:FuncId) (args:Nat→List RV) (xs:List (List RV)):Prop :=
 callable P F=true∧∀ (rest:List (List RV)) (w:World) (R:Nat→Prop) (vs:Array Value) (X:XS) (Ψ Θ:Nat→Prop),(∀ b,R b→b<w.heap.size)→RV.relV w R (args X.l) vs.toList→X.z=false→(∀ b,R b→X.R b∨X.n0≤b)→X.n0≤w.heap.size→YOk P X →
  (∀ b,Ψ b→b<w.heap.size)→(∀ b,Θ b→b<w.heap.size)→(∀ b,R b→¬ Θ b)→X.X (some (xs++rest)) w Ψ Θ →
  Calls P F vs w fun e w'=>w'.os=w.os∧w'.tape=w.tape∧w'.output=w.output∧w.heap.size≤w'.heap.size∧(∀ b,b<w.heap.size→¬ Θ b→w'.heap[b]? = w.heap[b]?) ∧
   ∃ Ψ' Θ':Nat→Prop,(∀ b,Ψ' b→Ψ b∨R b∨w.heap.size≤b)∧(∀ b,Θ' b→Θ b∨w.heap.size≤b)∧(∀ b,Ψ' b→b<w'.heap.size)∧(∀ b,Θ' b→b<w'.heap.size) ∧
   ((e = .returned (.bool true)∧X.X (some rest) w' Ψ' Θ')∨(e = .returned (.bool false)∧X.X none w' Ψ' Θ'))
def XS.since (X:XS) (n:Nat) (R Ψ0 Θ0:Nat→Prop):XS where
 l:=X.l
 z:=X.z
 n0:=n
 R:=R
 X:=fun o w Ψ Θ=>X.X o w Ψ Θ∧n≤w.heap.size∧(∀ b,Ψ b→Ψ0 b∨R b∨n≤b)∧∀ b,Θ b→Θ0 b∨n≤b
 st:=fun h h1 h2 h3 h4 h5=>⟨X.st h.1 h1 h2 h3 h4 h5,Nat.le_trans h.2.1 h4,h.2.2⟩
theorem YOk.since {P:Program}{X:XS}(hY:YOk P X) {n:Nat}{R Ψ0 Θ0:Nat→Prop}(hR:∀ b,R b→X.R b∨X.n0≤b) (hn:X.n0≤n):YOk P (X.since n R Ψ0 Θ0):=by
 intro e rest w Ψ Θ R' vs hX hR' hV
 obtain⟨hX1,hX2,hX3,hX4⟩:=hX
 obtain⟨fn,tmps,assign,body,hrun,hround⟩:=hY e rest w Ψ Θ R' vs hX1 (fun b hb=>by
  obtain⟨g1,g2,g3⟩:=hR' b hb
  refine⟨g1,g2,?_⟩
  rcases g3 with g|g
  ·exact hR b g
  ·exact .inr (Nat.le_trans hn g)) hV
 refine⟨fn,tmps,assign,body,hrun,hround.mono ?_⟩
 rintro en w' ⟨g1,g2,g3,g4,g5,Ψ',Θ',g6,g7,g8,g9,g10⟩
 have a1:∀ b,Ψ' b→Ψ0 b∨R b∨n≤b:=fun b hb=>by
  rcases g6 b hb with g|g|g
  ·exact hX3 b g
  ·rcases (hR' b g).2.2 with q|q
   ·exact .inr (.inl q)
   ·exact .inr (.inr q)
  ·exact .inr (.inr (Nat.le_trans hX2 g))
 have a2:∀ b,Θ' b→Θ0 b∨n≤b:=fun b hb=>by
  rcases g7 b hb with g|g
  ·exact hX4 b g
  ·exact .inr (Nat.le_trans hX2 g)
 refine⟨g1,g2,g3,g4,g5,Ψ',Θ',g6,g7,g8,g9,?_⟩
 rcases g10 with⟨rfl,g⟩|⟨rfl,g⟩
 ·exact .inl ⟨rfl,g,Nat.le_trans hX2 g4,a1,a2⟩
 ·exact .inr ⟨rfl,g,Nat.le_trans hX2 g4,a1,a2⟩
section
variable {P:Program}{C:Ctx}{s:AS}{Q:Exit→AS→Prop}{ops:Array Oper}
end
section
variable {n:Nat}{l:List (Nat × AV)}{vs:Nat→Nat}{cs:List (Nat × RowC)}
theorem zE3 {c:RowC}:(st n l vs cs).row 999 ⟨((st n l vs cs).rows 999).ver,c⟩=st n l vs (insc cs 999 c):=by
 rw[zJt]
 congr 1
 funext k
 unfold upd
 split
 ·rename_i e;subst e;rfl
 ·rfl
end
end Go.Oc

namespace Go.Oc
open Go Go.RowKit
def gop (P:Program) (o:Oper) (K:AS→Prop) (s:AS):Prop :=
 ∀ (C:Ctx) (p:Plan) (a:Act) (w:World), SR C p s a w→(∀ t, o.dst=some t→t<s.n)→(∀ c, o.op ≠ .defer c)→∀ (KW:Act→World→Prop) (Q:Exit→Act→World→Prop),
   (∀ a' w' p' s',SR C p' s' a' w'→s'.n=s.n→K s'→KW a' w')→o.wpIn (fnc C.rd) 0 P a w KW Q
section
variable {P:Program}{C:Ctx}{s:AS}{Q:Exit→AS→Prop}{ops:Array Oper}
theorem zBl {o:Oper}{l:List Oper}(hg:o.guard=none) (hd:∀ t,o.dst=some t→t<s.n) (hnd:∀ c,o.op ≠ .defer c) (h:gop P o (fun s'=>sops P C ops l Q s') s):sops P C ops (o::l) Q s:=fun a w ⟨p,hs⟩=>by
 unfold wpListIn
 rw[if_pos (zAq hs (by simp [zAN,hg]))]
 exact h C p a w hs hd hnd _ _ fun a' w' p' s' hs' hn hK=>hK a' w' ⟨p',hs'⟩
theorem zN3 (s:AS) (d:Option Nat) (v:AV):(s.put d v).n=s.n:=by cases d<;>rfl
theorem zKX {o:Oper}{x i:Operand}{t:TypeId}{K:AS→Prop}(ho:o.op = .index t x i) {str:ByteArray}{k:IntKind}{j:Int}{b:UInt8}(hx:s.ev x = .r (.st str)) (hi:s.ev i = .r (.it k j)) (hu:P.underlying t=some .string) (h0:0≤j) (hb:str[j.toNat]? = some b)
 (hK:K (s.put o.dst (.r (.it .u8 b.toNat)))):gop P o K s:=by
 intro C p a w h hd hnd KW Q hKW
 have hxv:a.eval x = .string str:=by
  have:=h.ev x
  rw[hx] at this
  simpa only[AV.rel,RV.rel] using this
 have hiv:=zDL h hi
 have hr:(execOp a.eval o).run P w = .ok (.value (.int .u8 b.toNat)) w:=by
  simp [execOp,ho,hxv,hiv,Instr.index,asIntOf,run_underlying hu,h0,hb]
 refine zAa hnd ?_
 unfold Oper.wp
 rw[hr]
 have hput:=h.put' (d:=o.dst) (av:=.r (.it .u8 b.toNat)) (v:=.int .u8 b.toNat) (by simp only[AV.rel,RV.rel]) hd
 exact hKW _ _ p _ hput (by cases o.dst<;>rfl) hK
end
section
variable {P:Program}{s:AS}
theorem zST {P:Program}{s:AS}{o:Oper}{x hi mx:Operand}{t:TypeId}{K:AS→Prop}(ho:o.op = .slice t x none (some hi) (some mx)) {e esz eb:Nat}{ez:List RV}{ssz:Nat}{sagg:Bool}{sz0:List RV}(e1:tyq P t=some ⟨.slice e esz eb ez,ssz,sagg,sz0⟩)
 {sz:Nat}{es:List (List RV)}(hx:s.ev x = .r (.sl sz es)) {k1 k2:IntKind}(hh:s.ev hi = .r (.it k1 (es.length:Int))) (hm:s.ev mx = .r (.it k2 (es.length:Int))) (hK:K (s.put o.dst (.r (if es=[] then .ns else .sx sz es)))):gop P o K s:=by
 intro C p a w h hd hnd KW Q hKW
 obtain⟨hu,hok,hsz,_,_⟩:=zAP e1
 obtain⟨A,c,hv,hc1,hc2,hne⟩:=zOy h hx
 have hr0:=zMx (P:=P) (w:=w) hu hok (A:=A) (len:=es.length) (cap:=c) (kh:=k1) (km:=k2) (lo:=none) (l:=0) (q:=es.length) (m:=es.length) (.inl ⟨rfl,rfl⟩) (Nat.zero_le _) (Nat.le_refl _) hc1
 have hr:(execOp a.eval o).run P w = .ok (.value (.slice (if es.length=0 then A else A.map (·.add (0*P.cellsOf e))) (es.length-0) (es.length-0))) w:=by
  simp only[execOp,ho,Sem.run_bind,hv,Option.map_none,Option.map_some,zDL h hh,zDL h hm,hr0,Result.andThen_ok,Sem.run_pure]
 have hrel:(AV.r (if es=[] then .ns else .sx sz es)).rel w p s.ver (.slice (if es.length=0 then A else A.map (·.add (0*P.cellsOf e))) (es.length-0) (es.length-0)):=by
  simp only[AV.rel]
  by_cases h0:es=[]
  ·subst h0
   simp only[if_true,RV.rel,List.length_nil,Nat.sub_zero];exact⟨_,rfl⟩
  ·obtain⟨ad,rfl,hR,hE⟩:=hne h0
   have hl:¬ es.length=0:=fun e=>h0 (List.length_eq_zero_iff.1 e)
   simp only[if_neg h0,if_neg hl,RV.rel,Nat.sub_zero,Nat.zero_mul,Option.map_some];exact⟨ad,rfl,h0,Nat.le_trans hc1 hc2,hR,hE⟩
 refine zAa hnd ?_
 unfold Oper.wp
 rw[hr]
 exact hKW _ _ p _ (h.put' hrel hd) (zN3 _ _ _) hK
end
section
variable {P:Program}{C:Ctx}{s:AS}{a:Act}{w:World}{ops:Array Oper}
end
section
variable {P:Program}{C:Ctx}{s:AS}{a:Act}{w:World}{ops:Array Oper}
end
end Go.Oc

namespace Go.Proofs.YtgfbenanljjgaaaGreat.Du.Th.Ai
open Go Go.Oc
set_option maxRecDepth 8000
set_option maxHeartbeats 2000000
def zSK:List (Nat × Nat):=[(1,1),(2,2),(3,2),(4,3),(5,3),(6,3),(7,3),(8,4),(9,4),(10,4)]
theorem zSL (n c:Nat) (h:(n,c)∈zSK):zAA Tryz.prog 210 [.it .u64 (n:Int)] (i64 (c:Int)):=by
 simp only[zSK,List.mem_cons,List.not_mem_nil,or_false,Prod.mk.injEq] at h
 rcases h with⟨rfl,rfl⟩|⟨rfl,rfl⟩|⟨rfl,rfl⟩|⟨rfl,rfl⟩|⟨rfl,rfl⟩|⟨rfl,rfl⟩|⟨rfl,rfl⟩|⟨rfl,rfl⟩|⟨rfl,rfl⟩|⟨rfl,rfl⟩ <;>
 ·refine zas (rs:=[i64 _]) [.tmp 2] Tryz.func210 rfl (by kernel_rfl) Tryz.ntmps210 rfl (by simp) rfl fun C vs=>?_
  repeat apply zq
  refine zb fun K hK=>?_;simp only[go_sem];apply hK;clear hK K;apply zw (zk [0,2]);simp only[go_sem]
  repeat apply zq
  refine zb fun K hK=>?_;simp only[go_sem];apply hK;clear hK K;apply zw (zk [0,2,4]);simp only[go_sem]
  apply zc rfl<;>intro hc<;>(try simp only[go_sem] at hc)
  apply zx
  try simp only[go_sem]
  repeat apply zq
  refine zb fun K hK=>?_;simp only[go_sem];apply hK;clear hK K;apply zw (zk [0,2,8]);simp only[go_sem]
  apply zc rfl<;>intro hc<;>(try simp only[go_sem] at hc)
  apply zx
  try simp only[go_sem]
  repeat apply zq
  refine zb fun K hK=>?_;simp only[go_sem];apply hK;clear hK K;apply zw (zk [0,2,14]);simp only[go_sem]
  apply zc rfl<;>intro hc<;>(try simp only[go_sem] at hc)
  apply zx
  try simp only[go_sem]
  repeat apply zq
  refine zBp ?_
  refine zBD 3 (by kernel_rfl) fun K hK=>?_
  simp only[go_sem,List.take_succ_cons,List.take_zero,List.drop_succ_cons,List.drop_zero,List.append_eq,List.cons_append,List.nil_append]
  refine hK _ rfl ?_
  clear hK K
  refine zBl rfl (by intro t h;injection h with h;subst h;show 22<25;decide) (by intro c h;cases h) (zKX rfl (s:=_) rfl rfl (by kernel_rfl) (by decide) rfl ?_)
  try simp only[go_sem]
  refine zBd (by kernel_rfl) fun K hK=>?_
  simp only[go_sem,List.drop_succ_cons,List.drop_zero,List.append_eq,List.cons_append,List.nil_append];apply hK;clear hK K;apply zw (zk [2]);simp only[go_sem];apply ze;simp only[go_sem]
  kernel_rfl
theorem zU4 (n c:Nat) (h:(n,c)∈zSK):zAA Tryz.prog 197 [.it .u64 (n:Int)] (i64 (c:Int)):=by
 refine zas (rs:=[i64 (c:Int)]) [.tmp 2] Tryz.func197 rfl (by kernel_rfl) Tryz.ntmps197 rfl (by simp) rfl fun C vs=>?_
 apply zq
 refine zb fun K hK=>?_;simp only[go_sem];apply hK;clear hK K
 apply zq
 apply zc rfl<;>intro hc<;>(try simp only[go_sem] at hc)
 apply zx
 try simp only[go_sem]
 apply zq
 refine zb fun K hK=>?_;simp only[go_sem]
 refine zh (zSL n c h) rfl (by simp only[go_sem,i64,ints]) (by simp only[go_sem,i64,ints]) ?_
 (try simp only[go_sem]);apply hK;clear hK K;apply zw (zk [2]);simp only[go_sem];apply ze;simp only[go_sem]
theorem zTs (lt:Nat→Nat→Bool) (c:Nat→Nat→Int) (s:Bool) (vals:List Int) (l:List Nat) (hl:l.length≤12) (hlt:∀ x y,lt x y=decide (c x y<0))
 (hcc:∀ x∈l,∀ y∈l,zAA Tryz.prog 186 [i64 (x:Int),i64 (y:Int),.rp [.bo s],.rp [ints vals]] (i64 (c x y))) (b:Int) :
 zA6 Tryz.prog 196 (zLX l vals) (zLX (zBq lt l) vals) [.os 1000 0 1 0 l.length,.r (i64 0),.r (i64 l.length),.r (i64 b),fnS s] (.tu []):=by
 refine zAd (n:=148) (rs:=[]) _ _ [] Tryz.func196 rfl (by kernel_rfl) Tryz.ntmps196 rfl (by simp) rfl rfl fun C=>?_
 have hw:IntKind.i64.wrap ((l.length:Int)-0)=l.length:=by rw[zI]<;>omega
 have hle:decide ((l.length:Int)≤12)=true:=by simp;omega
 have hle':decide (l.length≤12)=true:=by simp;omega
 apply zq
 refine zb fun K hK=>?_;simp only[go_sem];apply hK;clear hK K
 apply zq
 refine zb fun K hK=>?_;simp only[go_sem];apply hK;clear hK K;apply zw (zk [0,1,2,3,4]);simp only[go_sem];apply zd
 refine zBR (n:=148) 0 (fun i vs=>[(0,.os 1000 0 1 0 l.length),(1,.r (i64 0)),(2,.r (i64 l.length)),(3,.r (i64 b)),(4,fnS s)])
  (fun i=>zLX l vals) (fun i=>True) 0 (zAY [] zDy ?_ ?_) (Nat.zero_le _) trivial ?_
 ·try simp only[go_sem]
 ·try simp only[go_sem]
 intro i vs hv _ _
 have hv0:=hv 1000 (by omega)
 have hv1:=hv 1001 (by omega)
 have hv2:=hv 1002 (by omega)
 apply zd
 apply zq
 refine zb fun K hK=>?_;simp only[go_sem,hw];(try simp (disch:=omega) only[zI]);apply hK;clear hK K;apply zw (zk [0,1,2,3,4,12]);simp only[go_sem]
 repeat apply zq
 refine zb fun K hK=>?_;simp only[go_sem,hle,hle'];apply hK;clear hK K;apply zw (zk [0,1,2,3,4,25]);simp only[go_sem]
 apply zc rfl<;>intro hc<;>(try simp only[go_sem] at hc)
 apply zq
 refine zb fun K hK=>?_;simp only[go_sem]
 refine zAW (zI1 lt c s vals l (by omega) hlt hcc) [(1000,1000),(1001,1001),(1002,1002)] rfl (by simp only[go_sem,i64,ints,hv0,hv1,hv2]) (by simp only[go_sem,i64,ints,hv0,hv1,hv2]) (by rfl) (by rfl) ?_
 (try simp only[go_sem,hv0,hv1,hv2]);apply hK;clear hK K;apply ze
 try simp only[go_sem]
theorem zRe (lt:Nat→Nat→Bool) (c:Nat→Nat→Int) (s:Bool) (vals:List Int) (l:List Nat) (hl:1≤l.length∧l.length≤10) (hlt:∀ x y,lt x y=decide (c x y<0))
 (hcc:∀ x∈l,∀ y∈l,zAA Tryz.prog 186 [i64 (x:Int),i64 (y:Int),.rp [.bo s],.rp [ints vals]] (i64 (c x y))) :
 zA6 Tryz.prog 185 (zLX l vals) (zLX (zBq lt l) vals) [.os 1000 0 1 0 l.length,fnS s] (.tu []):=by
 obtain⟨k,hk⟩:∃ k,(l.length,k)∈zSK:=by
  have:l.length=1∨l.length=2∨l.length=3∨l.length=4∨l.length=5∨l.length=6∨l.length=7∨l.length=8∨l.length=9∨l.length=10:=by omega
  rcases this with h|h|h|h|h|h|h|h|h|h<;>rw[h]
  ·exact⟨1,by decide⟩
  ·exact⟨2,by decide⟩
  ·exact⟨2,by decide⟩
  ·exact⟨3,by decide⟩
  ·exact⟨3,by decide⟩
  ·exact⟨3,by decide⟩
  ·exact⟨3,by decide⟩
  ·exact⟨4,by decide⟩
  ·exact⟨4,by decide⟩
  ·exact⟨4,by decide⟩
 have hlen:=zU4 _ k hk
 have hw:IntKind.u64.wrap (l.length:Int)=l.length:=by
  have:l.length=1∨l.length=2∨l.length=3∨l.length=4∨l.length=5∨l.length=6∨l.length=7∨l.length=8∨l.length=9∨l.length=10:=by omega
  rcases this with h|h|h|h|h|h|h|h|h|h<;>rw[h]<;>rfl
 refine zAd (n:=14) (rs:=[]) _ _ [] Tryz.func185 rfl (by kernel_rfl) Tryz.ntmps185 rfl (by simp) rfl rfl fun C=>?_
 apply zq
 refine zb fun K hK=>?_;simp only[go_sem]
 intro _
 apply hK;clear hK K;apply zw (zk [0,1,4]);simp only[go_sem];refine zb fun K hK=>?_;simp only[go_sem,hw]
 refine zh (hlen) rfl (by simp only[go_sem,i64,ints,hw]) (by simp only[go_sem,i64,ints,hw]) ?_
 (try simp only[go_sem,hw])
 refine zAW (zTs lt c s vals l (by omega) hlt hcc k) [(1000,1000),(1001,1001),(1002,1002)] rfl (by simp only[go_sem,i64,ints]) (by simp only[go_sem,i64,ints]) (by rfl) (by rfl) ?_
 (try simp only[go_sem]);apply hK;clear hK K
 try simp only[go_sem]
end Go.Proofs.YtgfbenanljjgaaaGreat.Du.Th.Ai

namespace Go.Proofs.YtgfbenanljjgaaaGreat.Du.Th
open Go Go.Oc
set_option maxRecDepth 8000
def zKw (l:List Int) (i:Nat):Int:=if l=[] then 0 else l.getD (i % l.length) 0
def zVM:List Int:=[0,101,105,112,120,125,205,220,225,301,305,312,320]
def bedT (k:Nat):Int:=zVM.getD k 0
structure Lw where
 which:List Int
 low:List Int
 more:List Int
 rest:Int
structure WfLw (x:Lw):Prop where
 which:∀ n∈x.which,0≤n∧n≤65535
 low:∀ n∈x.low,0≤n∧n≤255
 more:∀ n∈x.more,0≤n∧n≤255
 rest:0≤x.rest∧x.rest≤255
theorem zSy {l:List Int}(h:∀ n∈l,0≤n∧n≤255) (i:Nat):0≤zKw l i∧zKw l i≤255:=by
 unfold zKw
 split
 ·omega
 ·rename_i hne
  have hlt:i % l.length<l.length:=Nat.mod_lt _ (List.length_pos_iff.2 hne)
  rw[List.getD_eq_getElem?_getD,List.getElem?_eq_getElem hlt]
  exact h _ (List.getElem_mem _)
def hasB (w:Int) (k:Nat):Bool:=zF9 IntKind.u16 (shrI IntKind.u16 w (IntKind.u64.wrap (k:Int))) 1 == 1
def addM (x:Lw) (most w:Int) (k:Nat) (p:List Bd × Nat):List Bd × Nat :=
 if p.1.length<10∧(hasB w k=true∨(k=12∧p.1.length=0)) then
  (p.1++[⟨bedT k,zKw x.low p.2 % (most+1),zKw x.low p.2 % (most+1)+zKw x.more p.2 % (most+1)⟩],p.2+1) else p
def zUB (x:Lw) (most w:Int) (n:Nat):Nat→List Bd × Nat
 | 0=>([],n)
 | k+1=>addM x most w k (zUB x most w n k)
def nM (x:Lw) (most:Int):Nat→Nat
 | 0=>0
 | i+1=>(zUB x most (x.which.getD i 0) (nM x most i) 13).2
def zBY (x:Lw) (most:Int) (i:Nat):List Bd:=(zUB x most (x.which.getD i 0) (nM x most i) 13).1
def atM (i:Nat):Int:=bedT (1+i % 12)
def cntM (x:Lw):Nat:=min 6 x.which.length
structure IterI (most:Int) (k:Nat) (l:List Bd):Prop where
 len:l.length≤10
 each:∀ c∈l,(∃ j,j<k∧c.b=bedT j)∧0≤c.lo∧c.lo≤most∧c.lo≤c.hi∧c.hi≤2*most
 up:l.Pairwise fun a b=>a.b<b.b
def rawM (x:Lw) (most:Int):List Am:=if cntM x=0 then [⟨320,[⟨320,x.rest,x.rest⟩]⟩] else (List.range (cntM x)).map fun i=>⟨atM i,zBY x most i⟩
def zWB (l:List Am):Int:=l.foldl (fun d a=>max d (loS a.beds)) 0
def denM (x:Lw) (most:Int):Int:=max 1 (zWB (rawM x most)+x.rest % 20)
def capB (den:Int) (l:List Bd):List Bd:=l.map fun c=>⟨c.b,c.lo,min c.hi den⟩
def zHu (den:Int) (l:List Bd) (k:Nat):List Bd :=
 if hiS l<den then l.set k ⟨(l.getD k ⟨0,0,0⟩).b,(l.getD k ⟨0,0,0⟩).lo,min den ((l.getD k ⟨0,0,0⟩).hi+den-hiS l)⟩ else l
def raiseN (den:Int) (l:List Bd):Nat→List Bd
 | 0=>l
 | k+1=>zHu den (raiseN den l k) k
def zWC (x:Lw) (l:List Bd):Nat:=x.rest.toNat % l.length
def fixM (x:Lw) (den:Int) (l:List Bd):List Bd:=raiseN den (zHu den (capB den l) (zWC x l)) l.length
def zA5 (x:Lw) (most:Int):List Am:=(rawM x most).map fun a=>⟨a.at_,fixM x (denM x most) a.beds⟩
set_option maxHeartbeats 2000000
def mkG (x:Lw) (most:Int) (j:Nat):RowC:=.arr 95 3 ((zBY x most j).map bedR)
def araC (x:Lw) (most:Int) (vs:Nat→Nat):Nat→List AV
 | 0=>[]
 | n+1=>araC x most vs n++[.r (i64 (atM n)),.os (n+600) (vs (n+600)) 3 0 (zBY x most n).length]
def mkX (i:Nat) (vs:Nat→Nat):AV:=if i=0 then .r .ns else .os 110 (vs 110) 2 0 i
def mkA (x:Lw) (most:Int) (i:Nat) (vs:Nat→Nat):List (Nat × RowC):=if i=0 then [] else [(110,.ara 93 2 (araC x most vs i))]
def mkR (x:Lw) (most:Int) (i:Nat) (vs:Nat→Nat):List (Nat × RowC):=(4,.box [.r (i64 0),.r .ns])::(5,.box [.r (i64 0),mkX i vs])::(mkA x most i vs++fam (mkG x most) i)
theorem zCt {α:Type}(f:Nat→α) (k:Nat):upd f k (f k)=f:=by
 funext j;unfold upd;split
 ·rename_i e;rw[e]
 ·rfl
structure RawI (a:Am):Prop where
 at_:zAb a.at_=true
 len:1≤a.beds.length∧a.beds.length≤10
 each:∀ c∈a.beds,(c.b=0∨zAb c.b=true)∧0≤c.lo∧c.lo≤255∧c.lo≤c.hi∧c.hi≤510
 up:a.beds.Pairwise fun a b=>a.b<b.b
theorem zTN {B:Int}:∀ {l:List Bd},(∀ c∈l,0≤c.lo∧c.lo≤B)→0≤loS l∧loS l≤B*l.length
 | [],_=>by simp [loS]
 | c::l, h=>by
   have ih:=zTN (B:=B) (l:=l) fun x hx=>h x (by simp [hx])
   have h1:=h c (by simp)
   have e:loS (c::l)=c.lo+loS l:=by simp [loS]
   rw[e,List.length_cons,Int.natCast_add,Int.mul_add]
   omega
theorem zTQ {B:Int}:∀ {l:List Bd},(∀ c∈l,0≤c.hi∧c.hi≤B)→0≤hiS l∧hiS l≤B*l.length
 | [],_=>by simp [hiS]
 | c::l, h=>by
   have ih:=zTQ (B:=B) (l:=l) fun x hx=>h x (by simp [hx])
   have h1:=h c (by simp)
   have e:hiS (c::l)=c.hi+hiS l:=by simp [hiS]
   rw[e,List.length_cons,Int.natCast_add,Int.mul_add]
   omega
theorem RawI.lo {a:Am}(h:RawI a):0≤loS a.beds∧loS a.beds≤2550:=by
 have h1:=zTN (B:=255) (l:=a.beds) fun c hc=>by have:=h.each c hc;omega
 have h2:=h.len
 omega
structure CapI (D:Int) (l X:List Bd):Prop where
 len:X.length=l.length
 each:∀ c∈X,(0≤c.lo∧c.lo≤255)∧0≤c.hi∧c.hi≤3000
theorem CapI.cap {D:Int}{a:Am}(h:RawI a) (hD:1≤D∧D≤3000):CapI D a.beds (capB D a.beds):=by
 refine⟨by simp [capB],fun c hc=>?_⟩
 obtain⟨d,hd,rfl⟩:=List.mem_map.1 hc
 have:=h.each d hd
 simp only;omega
theorem CapI.raise {D:Int}{l X:List Bd}(h:CapI D l X) (hD:1≤D∧D≤3000) (k:Nat) (hk:k<l.length):CapI D l (zHu D X k):=by
 unfold zHu
 split
 ·rename_i hh
  have hm:X.getD k ⟨0,0,0⟩∈X:=by
   rw[List.getD_eq_getElem?_getD,List.getElem?_eq_getElem (by rw[h.len];exact hk)];exact List.getElem_mem _
  have hc:=h.each _ hm
  refine⟨by simp [h.len],fun c hc'=>?_⟩
  rcases List.mem_or_eq_of_mem_set hc' with hx|hx
  ·exact h.each c hx
  ·subst hx
   simp only;omega
 ·exact h
theorem CapI.raiseN {D:Int}{l X:List Bd}(h:CapI D l X) (hD:1≤D∧D≤3000):∀ k,k≤l.length→CapI D l (Go.Proofs.YtgfbenanljjgaaaGreat.Du.Th.raiseN D X k)
 | 0,_=>h
 | k+1,hk=>(CapI.raiseN h hD k (by omega)).raise hD k (by omega)
theorem CapI.hi {D:Int}{l X:List Bd}(h:CapI D l X) (hl:l.length≤10):0≤hiS X∧hiS X≤30000:=by
 have h1:=zTQ (B:=3000) (l:=X) fun c hc=>(h.each c hc).2
 have h2:=h.len
 omega
set_option maxHeartbeats 1000000
abbrev bAt (l:List Bd) (i:Nat):Bd:=l.getD i ⟨0,0,0⟩
theorem zD6 {l:List Bd}{i:Nat}(h:i<l.length):bAt l i∈l:=by
 unfold bAt
 rw[List.getD_eq_getElem?_getD,List.getElem?_eq_getElem h];exact List.getElem_mem h
structure TI (l:List Bd) (den:Int) (x:List Int × Int):Prop where
 len:x.1.length=l.length
 each:∀ i,i<l.length→(bAt l i).lo≤x.1.getD i 0∧x.1.getD i 0≤(bAt l i).hi
 sum:x.1.sum+x.2=den
 left:0≤x.2
theorem zMh:∀ {M:List Int}{a:Nat}{y:Int},a<M.length→(M.set a y).sum=M.sum-M.getD a 0+y
 | x::M,0,y,_=>by simp;omega
 | x::M, a+1, y, h=>by
   have:=zMh (M:=M) (a:=a) (y:=y) (by simpa using h)
   simp only[List.set_cons_succ,List.sum_cons,this,List.getD_cons_succ]
   omega
theorem zAk (M:List Int) (a i:Nat) (y:Int) (h:a<M.length):(M.set a y).getD i 0=if i=a then y else M.getD i 0:=by
 rw[List.getD_eq_getElem?_getD,List.getElem?_set,List.getD_eq_getElem?_getD]
 by_cases e:a=i
 ·subst e;simp [h]
 ·rw[if_neg e,if_neg (fun h=>e h.symm)]
def zDh (i:Nat) (m:Int) (x:List Int × Int):List Int × Int:=(x.1.set i (x.1.getD i 0+m),x.2-m)
theorem TI.give {l:List Bd}{den:Int}{x:List Int × Int}(h:TI l den x) {i:Nat}(hi:i<l.length) {m:Int}(hm:0≤m∧m≤min x.2 ((bAt l i).hi-x.1.getD i 0)):TI l den (zDh i m x):=by
 have hl:=h.len
 refine⟨by simp [zDh,hl],fun j hj=>?_,?_,?_⟩
 ·simp only[zDh];rw[zAk _ _ _ _ (by omega)]
  have:=h.each j hj
  split
  ·rename_i e;subst e;omega
  ·exact this
 ·simp only[zDh];rw[zMh (by omega)]
  have:=h.sum
  omega
 ·simp only[zDh];omega
def zC4 (l:List Bd) (j:Nat) (x:List Int × Int):Int:=min x.2 ((bAt l j).hi-x.1.getD j 0)
def zSh (l:List Bd) (x:List Int × Int):Nat→List Int × Int
 | 0=>x
 | j+1=>zDh j (zC4 l j (zSh l x j)) (zSh l x j)
def idxU (l:List Bd) (bs:List Int) (k:Nat):Nat:=((zKw bs k).toNat+k) % l.length
def zP6 (l:List Bd) (bs:List Int) (k:Nat) (x:List Int × Int):Int :=
 if k<30 then min (zC4 l (idxU l bs k) x) (1+zKw bs (k+1) % 40) else zC4 l (idxU l bs k) x
def zTh (l:List Bd) (bs:List Int) (k:Nat) (x:List Int × Int):List Int × Int :=
 if k<30 then zDh (idxU l bs k) (zP6 l bs k x) x else zSh l (zDh (idxU l bs k) (zP6 l bs k x) x) l.length
def itU (l:List Bd) (bs:List Int) (den:Int):Nat→List Int × Int
 | 0=>(l.map (·.lo),den-loS l)
 | k+1=>zTh l bs k (itU l bs den k)
theorem TI.take {l:List Bd}{den:Int}{x:List Int × Int}(h:TI l den x) {j:Nat}(hj:j<l.length):0≤zC4 l j x:=by
 have:=h.each j hj
 have:=h.left
 unfold zC4;omega
theorem TI.fill {l:List Bd}{den:Int}{x:List Int × Int}(h:TI l den x):∀ j,j≤l.length→TI l den (zSh l x j)
 | 0,_=>h
 | j+1,hj=>(TI.fill h j (by omega)).give (by omega) ⟨(TI.fill h j (by omega)).take (by omega),Int.le_refl _⟩
theorem zQR {l:List Bd}{bs:List Int}{k:Nat}(h:1≤l.length):idxU l bs k<l.length:=Nat.mod_lt _ (by omega)
theorem zSA {l:List Bd}{bs:List Int}(hb:∀ n∈bs,0≤n∧n≤255) (hl:1≤l.length) {den:Int}{x:List Int × Int}(h:TI l den x) (k:Nat):0≤zP6 l bs k x∧zP6 l bs k x≤zC4 l (idxU l bs k) x:=by
 have h1:=h.take (zQR (bs:=bs) (k:=k) hl)
 have h2:=zSy hb (k+1)
 unfold zP6
 split<;>omega
theorem TI.step {l:List Bd}{bs:List Int}(hb:∀ n∈bs,0≤n∧n≤255) (hl:1≤l.length) {den:Int}{x:List Int × Int}(h:TI l den x) (k:Nat):TI l den (zTh l bs k x):=by
 have h1:=h.give (zQR (bs:=bs) (k:=k) hl) (zSA hb hl h k)
 unfold zTh
 split
 ·exact h1
 ·exact h1.fill _ (Nat.le_refl _)
theorem TI.it {l:List Bd}{bs:List Int}(hb:∀ n∈bs,0≤n∧n≤255) (hl:1≤l.length) {den:Int}(h:loS l≤den) (h1:∀ c∈l,c.lo≤c.hi):∀ k,TI l den (itU l bs den k)
 | 0=>by
   refine⟨by simp [itU],fun i hi=>?_,?_,?_⟩
   ·have:=h1 _ (zD6 hi)
    have e:(itU l bs den 0).1.getD i 0=(bAt l i).lo:=by simp [itU,bAt,List.getD,List.getElem?_eq_getElem hi]
    rw[e];omega
   ·simp only[itU,loS];omega
   ·simp only[itU];omega
 | k+1=>(TI.it hb hl h h1 k).step hb hl k
theorem zMi (M:List Int):((List.range M.length).map fun i=>M.getD i 0).sum=M.sum:=by
 congr 1
 refine List.ext_getElem (by simp) fun i h1 h2=>?_
 simp [List.getD,List.getElem?_eq_getElem h2]
theorem zJz (l:List Bd):(List.range l.length).map (bAt l)=l:=by
 refine List.ext_getElem (by simp) fun i h1 h2=>?_
 simp [bAt,List.getD,List.getElem?_eq_getElem h2]
theorem zHq {w:World}{p:Plan}{ver:Nat→Nat}:∀ {xs:List RV}{vs:List Value},AV.relV w p ver (xs.map .r) vs→RV.relV w p.R xs vs
 | [],_,h=>by simpa only[List.map_nil,AV.relV,RV.relV] using h
 | x::xs, vs, h=>by
   simp only[List.map_cons,AV.relV,AV.rel] at h
   simp only[RV.relV]
   obtain⟨u,us,h1,h2,h3⟩:=h
   exact⟨u,us,h1,h2,zHq h3⟩
theorem zQA {F:Nat}{L L':List (Nat × RowC)}{x r:AV}{f:Nat}{caps:List RV}(h:zA6 Tryz.prog F L L' [x,.r (.fn f caps)] r):zA6 Tryz.prog F L L' [x,.fn f (caps.map .r)] r :=
 ⟨h.1,fun w p vs h1 h2 h3 h4 h5 h6 hV=>h.2 w p vs h1 h2 h3 h4 h5 h6 (by
  simp only[AV.relV] at hV ⊢
  obtain⟨u,us,e1,k1,u',us',e2,k2,e3⟩:=hV
  refine⟨u,us,e1,k1,u',us',e2,?_,e3⟩
  simp only[AV.rel,RV.rel] at k2 ⊢
  obtain⟨ws,k3,k4⟩:=k2
  exact⟨ws,k3,zHq k4⟩)⟩
def zCo (l:List Bd) (o:List Int) (m:Int) (i:Nat):Int:=min m ((l[i]?.map (·.hi)).getD 0-(o[i]?).getD 0)
def zBh (l:List Bd):List Nat→List Int × Int→List Int × Int
 | [],x=>x
 | i::is,x=>zBh l is (x.1.set i ((x.1[i]?).getD 0+zCo l x.1 x.2 i),x.2-zCo l x.1 x.2 i)
theorem zIA (l:List Bd):∀ (is:List Nat) (i:Nat) (x:List Int × Int),zBh l (is++[i]) x=((zBh l is x).1.set i (((zBh l is x).1[i]?).getD 0+zCo l (zBh l is x).1 (zBh l is x).2 i),(zBh l is x).2-zCo l (zBh l is x).1 (zBh l is x).2 i)
 | [],_,_=>rfl
 | j::is,i,x=>by simp only[List.cons_append,zBh];exact zIA l is i _
def zIR (l:List Bd) (x:List Int × Int):Prop:=x.1.length=l.length∧(0≤x.2∧x.2≤6000)∧∀ (i:Nat) (b:Bd) (o:Int),l[i]? = some b→x.1[i]? = some o→b.lo≤o∧o≤b.hi
theorem zG4 {l:List Bd}{x:List Int × Int}(h:zIR l x) {i:Nat}{b:Bd}{o:Int}(hb:l[i]? = some b) (ho:x.1[i]? = some o) :
 zCo l x.1 x.2 i=min x.2 (b.hi-o)∧0≤zCo l x.1 x.2 i∧zIR l (x.1.set i ((x.1[i]?).getD 0+zCo l x.1 x.2 i),x.2-zCo l x.1 x.2 i):=by
 obtain⟨h1,h2,h3⟩:=h
 obtain⟨h4,h5⟩:=h3 i b o hb ho
 have hm:zCo l x.1 x.2 i=min x.2 (b.hi-o):=by simp [zCo,hb,ho]
 refine⟨hm,by omega,by simp [h1],by simp only;omega,fun k b' o' hb' ho'=>?_⟩
 simp only[ho,Option.getD_some] at ho'
 by_cases e:i=k
 ·subst e
  rw[List.getElem?_set_self (by have:=(List.getElem?_eq_some_iff.1 ho).1;exact this)] at ho'
  injection ho' with ho'
  rw[hb] at hb'
  injection hb' with hb'
  subst hb'
  omega
 ·rw[List.getElem?_set_ne e] at ho'
  exact h3 k b' o' hb' ho'
theorem zEK {l:List Bd}:∀ (is:List Nat) (x:List Int × Int),(∀ i∈is,i<l.length)→zIR l x→zIR l (zBh l is x)
 | [],_,_,h=>h
 | i::is, x, hi, h=>by
   obtain⟨b,hb⟩:=zol (hi i (by simp))
   obtain⟨o,ho⟩:=zol (l:=x.1) (i:=i) (by have:=hi i (by simp);have:=h.1;omega)
   exact zEK is _ (fun j hj=>hi j (by simp [hj])) (zG4 h hb ho).2.2
def zBB (d:Int) (l:List Bd):List Int × Int:=(l.map (·.lo),d-loS l)
def zDY (cm:Int→Int→Int) (vals:List Int) (i k:Nat):Bool:=decide (cm ((vals[i]?).getD 0) ((vals[k]?).getD 0)<0)
def zAr (cm:Int→Int→Int) (d:Int) (l:List Bd) (vals:List Int):List Int:=(zBh l (zBq (zDY cm vals) (List.range l.length)) (zBB d l)).1
theorem zJg {d:Int}{l:List Bd}(hc:chOk d l=true) (hd:d≤3000) (h1:loS l≤d) (h0:0≤loS l):zIR l (zBB d l):=by
 refine⟨by simp [zBB],by simp only[zBB];omega,fun i b o hb ho=>?_⟩
 simp only[zBB,List.getElem?_map,hb,Option.map_some,Option.some.injEq] at ho
 have:=List.all_eq_true.1 hc b (zmo hb)
 simp only[Bool.and_eq_true,decide_eq_true_eq] at this
 omega
theorem zDw {lt:Nat→Nat→Bool}{l:List Nat}{z:Nat}:z∈zBq lt l↔z∈l:=by
 unfold zBq
 rw[List.mem_reverse,zFA]
 simp
theorem zJi (lt:Nat→Nat→Bool) (l:List Nat):(zBq lt l).length=l.length:=by
 unfold zBq
 rw[List.length_reverse,zEt]
 simp
theorem zPv {g:List (List RV)}{z:List RV}{n i:Nat}(hg:g.length=i) (hi:i<n):(g++List.replicate (n-i) z).getD i []=z:=by
 rw[List.getD_eq_getElem?_getD,List.getElem?_append_right (by omega),hg,Nat.sub_self,List.getElem?_replicate,if_pos (by omega)]
 rfl
theorem zLa {g:List (List RV)}{z:List RV}{n i:Nat}(hg:g.length=i) (hi:i<n):(g++List.replicate (n-i) z).length=n:=by simp;omega
theorem zLZ {g:List (List RV)}{z v:List RV}{n i:Nat}(hg:g.length=i) (hi:i<n):(g++List.replicate (n-i) z).set i v=(g++[v])++List.replicate (n-(i+1)) z:=by
 rw[List.set_append_right _ _ (by omega),hg,Nat.sub_self]
 have:n-i=(n-(i+1))+1:=by omega
 rw[this,List.replicate_succ,List.set_cons_zero]
 simp
def dotV:List Int→List Int→Int
 | x::xs,y::ys=>x*y+dotV xs ys
 | _,_=>0
theorem zHB:∀ {xs ys:List Int}{x y:Int},xs.length=ys.length→dotV (xs++[x]) (ys++[y])=dotV xs ys+x*y
 | [],[],x,y,_=>by simp [dotV]
 | _::xs,_::ys,x,y,h=>by simp only[List.cons_append,dotV];rw[zHB (by simpa using h)];omega
 | [],_::_,_,_,h=>by simp at h
 | _::_,[],_,_,h=>by simp at h
def Vals (l:List Int):Prop:=∀ x∈l,-1000000000000≤x∧x≤1000000000000
theorem zKE {x y:Int}(h0:0≤x) (h1:x≤6000) (h2 : -1000000000000≤y) (h3:y≤1000000000000) : -6000000000000000≤x*y∧x*y≤6000000000000000:=by
 constructor
 ·have h4:x * -1000000000000≤x*y:=Int.mul_le_mul_of_nonneg_left h2 h0
  omega
 ·have h4:x*y≤x*1000000000000:=Int.mul_le_mul_of_nonneg_left h3 h0
  omega
theorem zIF:∀ {xs ys:List Int},(∀ x∈xs,0≤x∧x≤6000)→Vals ys → -6000000000000000*(xs.length:Int)≤dotV xs ys∧dotV xs ys≤6000000000000000*xs.length
 | [],_,_,_=>by simp [dotV]
 | _::_,[],_,_=>by simp only[dotV,List.length_cons];omega
 | x::xs, y::ys, h, hv=>by
   have h1:=zIF (xs:=xs) (ys:=ys) (fun z hz=>h z (by simp [hz])) fun z hz=>hv z (by simp [hz])
   have h2:=h x (by simp)
   have h3:=hv y (by simp)
   have h4:=zKE h2.1 h2.2 h3.1 h3.2
   simp only[dotV,List.length_cons]
   omega
theorem zKl {cm:Int→Int→Int}{d:Int}{l:List Bd}{vals:List Int}(hch:chOk d l=true) (hd:d≤3000) (h1:loS l≤d):(zAr cm d l vals).length=l.length∧∀ x∈zAr cm d l vals,0≤x∧x≤3000:=by
 have hs:=zEN hch (by omega)
 have hsm:=zCY hs
 have hst:=zJg hch hd h1 hsm.1.1
 have hfin:=zEK (zBq (zDY cm vals) (List.range l.length)) (zBB d l) (fun i hi=>by rw[zDw,List.mem_range] at hi;exact hi) hst
 refine⟨hfin.1,fun x hx=>?_⟩
 obtain⟨i,hi⟩:=List.getElem?_of_mem hx
 obtain⟨b,hb⟩:=zol (l:=l) (i:=i) (by have:=(List.getElem?_eq_some_iff.1 hi).1;have:=hfin.1;unfold zAr at *;omega)
 have h2:=hfin.2.2 i b x hb hi
 have:=List.all_eq_true.1 hch b (zmo hb)
 simp only[Bool.and_eq_true,decide_eq_true_eq] at this
 omega
def zCE (d:Int) (l:List Bd) (vals:List Int):Int:=dotV (zAr cmpI d l vals) vals
def zCF (d:Int) (l:List Bd) (vals:List Int):Int:=dotV (zAr (fun x y=>cmpI y x) d l vals) vals
abbrev Pv:=Int × Int
def zBr:List Pv→Int × Int→Int × Int
 | [],x=>x
 | c::cs,x=>zBr cs (x.1-min x.1 c.1,x.2+min x.1 c.1*c.2)
def dotP:List Pv→List Int→Int
 | c::S,y::ys=>y*c.2+dotP S ys
 | _,_=>0
inductive FeasP:List Pv→List Int→Prop where
 | nil:FeasP [] []
 | cons {c:Pv}{S:List Pv}{y:Int}{ys:List Int}(h:0≤y∧y≤c.1) (t:FeasP S ys):FeasP (c::S) (y::ys)
theorem zNd {S:List Pv}{ys:List Int}(h:FeasP S ys):0≤ys.sum:=by
 induction h with
 | nil=>simp
 | cons h t ih=>simp only[List.sum_cons];omega
theorem zQg {v:Int}{S:List Pv}{ys:List Int}(h:FeasP S ys):∀ δ:Int,0≤δ→δ≤ys.sum→(∀ c∈S,v≤c.2)→∃ zs,FeasP S zs∧zs.sum=ys.sum-δ∧dotP S zs+δ*v≤dotP S ys:=by
 induction h with
 | nil =>
   intro δ h0 h1 _
   simp only[List.sum_nil] at h1
   have:δ=0:=by omega
   subst this
   exact⟨[],.nil,by simp,by simp [dotP]⟩
 | @cons c S y ys h t ih =>
   intro δ h0 h1 hv
   simp only[List.sum_cons] at h1
   have hs:=zNd t
   obtain⟨zs,g1,g2,g3⟩:=ih (δ-min δ y) (by omega) (by omega) fun x hx=>hv x (by simp [hx])
   have hc:=hv c (by simp)
   have e0:0≤min δ y:=by omega
   have p:=Int.mul_nonneg e0 (show 0≤c.2-v by omega)
   refine⟨(y-min δ y)::zs,.cons ⟨by omega,by omega⟩ g1,by simp only[List.sum_cons];omega,?_⟩
   simp only[dotP]
   generalize min δ y=e at *
   rw[Int.mul_sub] at p
   rw[Int.sub_mul] at g3
   rw[Int.sub_mul]
   omega
theorem zI9:∀ {S:List Pv}{ys:List Int},FeasP S ys→∀ (left s:Int),S.Pairwise (fun a b=>a.2≤b.2)→ys.sum=left→(zBr S (left,s)).2≤s+dotP S ys
 | [],_,h,left,s,_,_=>by cases h;simp [zBr,dotP]
 | c::S, _, h, left, s, hp, hsum=>by
   cases h with
   | @cons _ _ y ys h t =>
     obtain⟨hp1,hp2⟩:=List.pairwise_cons.1 hp
     simp only[List.sum_cons] at hsum
     have hs:=zNd t
     obtain⟨zs,g1,g2,g3⟩:=zQg t (min left c.1-y) (by omega) (by omega) hp1
     have:=zI9 g1 (left-min left c.1) (s+min left c.1*c.2) hp2 (by omega)
     simp only[zBr,dotP]
     rw[Int.sub_mul] at g3
     omega
def negP (S:List Pv):List Pv:=S.map fun c=>(c.1,-c.2)
theorem zNZ:∀ (S:List Pv) (x y:Int),(zBr (negP S) (x,-y)).2 = -(zBr S (x,y)).2
 | [],_,_=>rfl
 | c::S, x, y=>by
   have:=zNZ S (x-min x c.1) (y+min x c.1*c.2)
   simp only[negP,List.map_cons,zBr] at this ⊢
   rw[← this]
   congr 3
   rw[Int.mul_neg];omega
theorem zQo:∀ (S:List Pv) (ys:List Int),dotP (negP S) ys = -dotP S ys
 | [],_=>by simp [negP,dotP]
 | _::_,[]=>by simp [negP,dotP]
 | c::S, y::ys=>by
   have:=zQo S ys
   simp only[negP,List.map_cons,dotP] at this ⊢
   rw[this,Int.mul_neg];omega
theorem zNe:∀ {S:List Pv}{ys:List Int},FeasP S ys→FeasP (negP S) ys
 | _,_,.nil=>.nil
 | _,_,.cons h t=>.cons h (zNe t)
theorem zSg {S:List Pv}{ys:List Int}(h:FeasP S ys) (left s:Int) (hp:S.Pairwise (fun a b=>b.2≤a.2)) (hs:ys.sum=left):s+dotP S ys≤(zBr S (left,s)).2:=by
 have:=zI9 (zNe h) left (-s) (by unfold negP;exact List.Pairwise.map _ (fun a b h=>by simp only;omega) hp) hs
 rw[zNZ,zQo] at this
 omega
theorem zKT (lt:Nat→Nat→Bool) (x:Nat):∀ R,(insB lt x R).Perm (x::R)
 | []=>.refl _
 | y::R=>by
   unfold insB
   split
   ·exact ((zKT lt x R).cons y).trans (.swap x y R)
   ·exact .refl _
theorem zHm (lt:Nat→Nat→Bool):∀ l R,(sortB lt l R).Perm (l++R)
 | [],R=>.refl _
 | x::l, R=>by
   simp only[sortB]
   refine (zHm lt l _).trans ?_
   refine ((zKT lt x R).append_left l).trans ?_
   exact List.perm_middle
theorem zFa (lt:Nat→Nat→Bool) (l:List Nat):(zBq lt l).Perm l:=by
 unfold zBq
 refine (List.reverse_perm _).trans ?_
 have:=zHm lt l []
 rwa [List.append_nil] at this
theorem zQN {K:Nat→Int}{lt:Nat→Nat→Bool}(hlt:∀ x y,lt x y=decide (K x<K y)) {x:Nat}:∀ {R:List Nat},R.Pairwise (fun y z=>K z≤K y)→(insB lt x R).Pairwise (fun y z=>K z≤K y)
 | [],_=>by simp [insB]
 | y::R, h=>by
   obtain⟨h1,h2⟩:=List.pairwise_cons.1 h
   unfold insB
   split
   ·rename_i hc
    rw[hlt,decide_eq_true_eq] at hc
    refine List.pairwise_cons.2 ⟨fun z hz=>?_,zQN hlt h2⟩
    rcases (zIt lt x z R).1 hz with rfl|hz
    ·omega
    ·exact h1 z hz
   ·rename_i hc
    rw[hlt,decide_eq_true_eq] at hc
    refine List.pairwise_cons.2 ⟨fun z hz=>?_,h⟩
    rcases List.mem_cons.1 hz with rfl|hz
    ·omega
    ·have:=h1 z hz;omega
theorem zMn {K:Nat→Int}{lt:Nat→Nat→Bool}(hlt:∀ x y,lt x y=decide (K x<K y)):∀ {l R:List Nat},R.Pairwise (fun y z=>K z≤K y)→(sortB lt l R).Pairwise (fun y z=>K z≤K y)
 | [],_,h=>h
 | x::l,R,h=>by simp only[sortB];exact zMn hlt (zQN hlt h)
theorem zMm {K:Nat→Int}{lt:Nat→Nat→Bool}(hlt:∀ x y,lt x y=decide (K x<K y)) (l:List Nat):(zBq lt l).Pairwise (fun y z=>K y≤K z):=by
 unfold zBq
 rw[List.pairwise_reverse]
 exact zMn hlt (by simp)
theorem zJE:∀ {o vals:List Int},o.length=vals.length→dotV o vals=((List.range o.length).map fun i=>o.getD i 0*vals.getD i 0).sum
 | [],[],_=>rfl
 | x::o, y::vals, h=>by
   have ih:=zJE (o:=o) (vals:=vals) (by simpa using h)
   simp only[dotV,List.length_cons,List.range_succ_eq_map,List.map_cons,List.sum_cons,List.map_map,ih]
   rfl
 | [],_::_,h=>by simp at h
 | _::_,[],h=>by simp at h
theorem zNp:∀ {o vals:List Int}{i:Nat}{y:Int},i<o.length→o.length=vals.length→dotV (o.set i y) vals=dotV o vals+(y-o.getD i 0)*vals.getD i 0
 | x::o,v::vals,0,y,_,_=>by simp only[List.set_cons_zero,dotV,List.getD_cons_zero,Int.sub_mul];omega
 | x::o, v::vals, i+1, y, h, hl=>by
   have ih:=zNp (o:=o) (vals:=vals) (i:=i) (y:=y) (by simpa using h) (by simpa using hl)
   simp only[List.set_cons_succ,dotV,List.getD_cons_succ,ih];omega
 | x::o,[],_,_,_,hl=>by simp at hl
 | [],_,_,_,h,_=>by simp at h
theorem zG3 {l:List Bd}{vals:List Int}:∀ {I:List Nat}{o:List Int}{left:Int},I.Nodup→o.length=l.length→vals.length=l.length→(∀ i∈I,i<l.length) →
 dotV (zBh l I (o,left)).1 vals=(zBr (I.map fun i=>((bAt l i).hi-o.getD i 0,vals.getD i 0)) (left,dotV o vals)).2∧(zBh l I (o,left)).1.length=l.length
 | [],o,left,_,ho,_,_=>⟨rfl,ho⟩
 | i::I, o, left, hn, ho, hv, hi=>by
   obtain⟨n1,n2⟩:=List.nodup_cons.1 hn
   have hil:=hi i (by simp)
   have hm:zCo l o left i=min left ((bAt l i).hi-o.getD i 0):=by
    unfold zCo bAt
    rw[List.getD_eq_getElem?_getD,List.getD_eq_getElem?_getD,List.getElem?_eq_getElem hil]
    rfl
   have hs:(o[i]?).getD 0=o.getD i 0:=by rw[List.getD_eq_getElem?_getD]
   simp only[zBh,List.map_cons,zBr];rw[hm,hs]
   obtain⟨h1,h2⟩:=zG3 (l:=l) (vals:=vals) (I:=I) (o:=o.set i (o.getD i 0+min left ((bAt l i).hi-o.getD i 0))) (left:=left-min left ((bAt l i).hi-o.getD i 0)) n2 (by simp [ho]) hv fun j hj=>hi j (by simp [hj])
   refine⟨?_,h2⟩
   rw[h1,zNp (by omega) (by omega)]
   have e1:(I.map fun j=>((bAt l j).hi-(o.set i (o.getD i 0+min left ((bAt l i).hi-o.getD i 0))).getD j 0,vals.getD j 0))=I.map fun j=>((bAt l j).hi-o.getD j 0,vals.getD j 0) :=
    List.map_congr_left fun j hj=>by
     have hji:¬ j=i:=fun e=>n1 (e▸hj)
     rw[zAk _ _ _ _ (by omega),if_neg hji]
   rw[e1]
   congr 3
   rw[show o.getD i 0+min left ((bAt l i).hi-o.getD i 0)-o.getD i 0=min left ((bAt l i).hi-o.getD i 0) by omega]
structure TruthN (den:Int) (l:List Bd) (y:List Int):Prop where
 len:y.length=l.length
 each:∀ i,i<l.length→(bAt l i).lo≤y.getD i 0∧y.getD i 0≤(bAt l i).hi
 sum:y.sum=den
theorem zKm {m v x:Nat→Int}:∀ {I:List Nat},(∀ i∈I,0≤x i∧x i≤m i)→FeasP (I.map fun i=>(m i,v i)) (I.map x)
 | [],_=>.nil
 | i::I,h=>.cons (h i (by simp)) (zKm fun j hj=>h j (by simp [hj]))
theorem zNo {m v x:Nat→Int}:∀ I:List Nat,dotP (I.map fun i=>(m i,v i)) (I.map x)=(I.map fun i=>x i*v i).sum
 | []=>rfl
 | i::I=>by simp only[List.map_cons,dotP,List.sum_cons,zNo I]
theorem zJ2 {f:Nat→Int}{I J:List Nat}(h:I.Perm J):(I.map f).sum=(J.map f).sum:=by
 induction h with
 | nil=>rfl
 | cons x _ ih=>simp only[List.map_cons,List.sum_cons,ih]
 | swap x y l=>simp only[List.map_cons,List.sum_cons];omega
 | trans _ _ h1 h2=>rw[h1,h2]
theorem zMj {f g:Nat→Int}:∀ I:List Nat,(I.map fun i=>f i+g i).sum=(I.map f).sum+(I.map g).sum
 | []=>by simp
 | i::I=>by simp only[List.map_cons,List.sum_cons,zMj I];omega
theorem zMg {f g:Nat→Int}:∀ I:List Nat,(I.map fun i=>f i-g i).sum=(I.map f).sum-(I.map g).sum
 | []=>by simp
 | i::I=>by simp only[List.map_cons,List.sum_cons,zMg I];omega
theorem zF7 {d:Int}{l:List Bd}{vals y:List Int}(hv:vals.length=l.length) (hy:TruthN d l y):zCE d l vals≤dotV y vals∧dotV y vals≤zCF d l vals:=by
 have hyl:=hy.len
 have hlo:(l.map (·.lo)).length=l.length:=by simp
 have hgl:∀ i,i<l.length→(l.map (·.lo)).getD i 0=(bAt l i).lo:=fun i hi=>by simp [bAt,List.getD,List.getElem?_eq_getElem hi]
 have key:∀ cm:Int→Int→Int,∀ I:List Nat,I.Perm (List.range l.length)→I=zBq (zDY cm vals) (List.range l.length) →
  dotV (zAr cm d l vals) vals=(zBr (I.map fun i=>((bAt l i).hi-(bAt l i).lo,vals.getD i 0)) (d-loS l,dotV (l.map (·.lo)) vals)).2 ∧
  FeasP (I.map fun i=>((bAt l i).hi-(bAt l i).lo,vals.getD i 0)) (I.map fun i=>y.getD i 0-(bAt l i).lo)∧(I.map fun i=>y.getD i 0-(bAt l i).lo).sum=d-loS l ∧
  dotV (l.map (·.lo)) vals+dotP (I.map fun i=>((bAt l i).hi-(bAt l i).lo,vals.getD i 0)) (I.map fun i=>y.getD i 0-(bAt l i).lo)=dotV y vals:=fun cm I hp he=>by
  have hI:∀ i∈I,i<l.length:=fun i hi=>List.mem_range.1 (hp.mem_iff.1 hi)
  have hn:I.Nodup:=hp.nodup_iff.2 List.nodup_range
  refine⟨?_,zKm fun i hi=>?_,?_,?_⟩
  ·unfold zAr zBB
   rw[← he,(zG3 (l:=l) (vals:=vals) (o:=l.map (·.lo)) (left:=d-loS l) hn hlo hv hI).1]
   have e:(I.map fun i=>((bAt l i).hi-(l.map (·.lo)).getD i 0,vals.getD i 0))=I.map fun i=>((bAt l i).hi-(bAt l i).lo,vals.getD i 0):=List.map_congr_left fun i hi=>by rw[hgl i (hI i hi)]
   rw[e]
  ·have:=hy.each i (hI i hi);omega
  ·rw[zJ2 (f:=fun i=>y.getD i 0-(bAt l i).lo) hp,zMg]
   have e1:((List.range l.length).map fun i=>y.getD i 0).sum=d:=by rw[← hyl,zMi,hy.sum]
   have e2:((List.range l.length).map fun i=>(bAt l i).lo).sum=loS l:=by
    conv=>rhs;rw[loS,← zJz l,List.map_map]
    rfl
   rw[e1,e2]
  ·rw[zNo,zJ2 (f:=fun i=>(y.getD i 0-(bAt l i).lo)*vals.getD i 0) hp,zJE (by rw[hlo,hv]),zJE (by rw[hyl,hv]),hlo,hyl,← zMj]
   congr 1
   refine List.map_congr_left fun i hi=>?_
   rw[hgl i (List.mem_range.1 hi),Int.sub_mul];omega
 constructor
 ·obtain⟨k1,k2,k3,k4⟩:=key cmpI _ (zFa _ _) rfl
  unfold zCE
  rw[k1,← k4]
  refine zI9 k2 _ _ ?_ k3
  refine List.pairwise_map.2 ((zMm (K:=fun i=>vals.getD i 0) (fun x y=>?_) _).imp fun h=>h)
  unfold zDY cmpI
  simp only[List.getD_eq_getElem?_getD];rw[Bool.eq_iff_iff,decide_eq_true_eq,decide_eq_true_eq]
  split
  ·omega
  ·split<;>omega
 ·obtain⟨k1,k2,k3,k4⟩:=key (fun x y=>cmpI y x) _ (zFa _ _) rfl
  unfold zCF
  rw[k1,← k4]
  refine zSg k2 _ _ ?_ k3
  refine List.pairwise_map.2 ((zMm (K:=fun i=>-vals.getD i 0) (fun x y=>?_) _).imp fun h=>by simp only;omega)
  unfold zDY cmpI
  simp only[List.getD_eq_getElem?_getD];rw[Bool.eq_iff_iff,decide_eq_true_eq,decide_eq_true_eq]
  split
  ·omega
  ·split<;>omega
structure FixI (D:Int) (l X:List Bd):Prop where
 map:X.map (fun c=>(c.b,c.lo))=l.map fun c=>(c.b,c.lo)
 each:∀ c∈X,0≤c.lo∧c.lo≤c.hi∧c.hi≤D
theorem FixI.len {D:Int}{l X:List Bd}(h:FixI D l X):X.length=l.length:=by
 have:=congrArg List.length h.map
 simpa using this
theorem FixI.cap {D:Int}{l:List Bd}(h0:∀ c∈l,0≤c.lo∧c.lo≤c.hi∧c.lo≤D):FixI D l (capB D l):=by
 refine⟨by simp [capB,Function.comp_def],fun c hc=>?_⟩
 obtain⟨d,hd,rfl⟩:=List.mem_map.1 hc
 have:=h0 d hd
 simp only;omega
theorem FixI.raise {D:Int}{l X:List Bd}(h:FixI D l X) (k:Nat) (hk:k<X.length):FixI D l (zHu D X k):=by
 unfold zHu
 split
 ·rename_i hh
  have hg:X[k]? = some (X.getD k ⟨0,0,0⟩):=by rw[List.getD_eq_getElem?_getD,List.getElem?_eq_getElem hk];rfl
  have hc:=h.each _ (List.mem_of_getElem? hg)
  refine⟨?_,fun c hc'=>?_⟩
  ·rw[← h.map,List.map_set]
   refine List.ext_getElem? fun j=>?_
   rw[List.getElem?_set]
   split
   ·rename_i e;subst e
    rw[List.getElem?_map,hg]
    simp [hk]
   ·rfl
  ·rcases List.mem_or_eq_of_mem_set hc' with hx|hx
   ·exact h.each c hx
   ·subst hx
    simp only;omega
 ·exact h
theorem FixI.b {D:Int}{l X:List Bd}(h:FixI D l X):X.map (·.b)=l.map (·.b)∧loS X=loS l:=by
 have h1:=congrArg (List.map Prod.fst) h.map
 have h2:=congrArg (fun z=>(List.map Prod.snd z).sum) h.map
 simp only[List.map_map] at h1 h2
 exact⟨h1,h2⟩
structure MadeI (D:Int) (a:Am):Prop where
 ok:zC9 D a=true
 wf:WfA a
 len:1≤a.beds.length∧a.beds.length≤10
theorem zNa {l:List Bd}{d:Int}:∀ (I:List Nat) (x:List Int × Int),(∀ i∈I,i<l.length)→TI l d x→TI l d (zBh l I x)∧∀ i,i<l.length→x.1.getD i 0≤(zBh l I x).1.getD i 0∧((zBh l I x).2=0∨(i∈I→(zBh l I x).1.getD i 0=(bAt l i).hi))
 | [],x,_,h=>⟨h,fun i hi=>⟨Int.le_refl _,.inr fun h=>by cases h⟩⟩
 | j::I, x, hI, h=>by
   have hj:=hI j (by simp)
   have hl:=h.len
   have hm:zCo l x.1 x.2 j=zC4 l j x:=by
    unfold zCo zC4 bAt
    rw[List.getD_eq_getElem?_getD,List.getD_eq_getElem?_getD,List.getElem?_eq_getElem hj];rfl
   have e:(x.1.set j ((x.1[j]?).getD 0+zCo l x.1 x.2 j),x.2-zCo l x.1 x.2 j)=zDh j (zC4 l j x) x:=by
    rw[hm,← List.getD_eq_getElem?_getD];rfl
   have ht:=h.take hj
   have hg:=h.give hj ⟨ht,Int.le_refl _⟩
   simp only[zBh];rw[e]
   obtain⟨h1,h2⟩:=zNa I (zDh j (zC4 l j x) x) (fun i hi=>hI i (by simp [hi])) hg
   refine⟨h1,fun i hi=>?_⟩
   obtain⟨k1,k2⟩:=h2 i hi
   have hgi:(zDh j (zC4 l j x) x).1.getD i 0=if i=j then x.1.getD j 0+zC4 l j x else x.1.getD i 0:=by
    unfold zDh;exact zAk _ _ _ _ (by omega)
   rw[hgi] at k1
   have h6:=h1.each i hi
   refine⟨by
    split at k1
    ·rename_i e;subst e;omega
    ·exact k1,?_⟩
   rcases k2 with k2|k2
   ·exact .inl k2
   ·by_cases e:i=j
    ·subst e
     rw[if_pos rfl] at k1
     have h3:=h.each i hi
     by_cases c:x.2≤(bAt l i).hi-x.1.getD i 0
     ·left
      have h4:=h1.sum
      have h5:=h1.left
      have:(zDh i (zC4 l i x) x).2=0:=by unfold zDh zC4;simp only;omega
      have hle:∀ (I:List Nat) (y:List Int × Int),(∀ i∈I,i<l.length)→TI l d y→(zBh l I y).2≤y.2:=by
       intro I
       induction I with
       | nil=>intro y _ _;exact Int.le_refl _
       | cons a I ih =>
         intro y hI hy
         have ha:=hI a (by simp)
         have hm:zCo l y.1 y.2 a=zC4 l a y:=by
          unfold zCo zC4 bAt
          rw[List.getD_eq_getElem?_getD,List.getD_eq_getElem?_getD,List.getElem?_eq_getElem ha];rfl
         have e:(y.1.set a ((y.1[a]?).getD 0+zCo l y.1 y.2 a),y.2-zCo l y.1 y.2 a)=zDh a (zC4 l a y) y:=by
          rw[hm,← List.getD_eq_getElem?_getD];rfl
         have ht:=hy.take ha
         simp only[zBh];rw[e]
         have:=ih (zDh a (zC4 l a y) y) (fun i hi=>hI i (by simp [hi])) (hy.give ha ⟨ht,Int.le_refl _⟩)
         simp only[zDh] at this ⊢
         omega
      have:=hle I (zDh i (zC4 l i x) x) (fun i hi=>hI i (by simp [hi])) hg
      omega
     ·right;intro _
      have:zC4 l i x=(bAt l i).hi-x.1.getD i 0:=by unfold zC4;omega
      omega
    ·right;intro hi'
     rcases List.mem_cons.1 hi' with h|h
     ·exact absurd h e
     ·exact k2 h
theorem zU8 (l:List Bd):hiS l=((List.range l.length).map fun i=>(bAt l i).hi).sum:=by
 conv=>lhs;rw[hiS,← zJz l,List.map_map]
 rfl
theorem zKk {cm:Int→Int→Int}{d:Int}{l:List Bd}{vals:List Int}(h1:∀ c∈l,c.lo≤c.hi) (h:loS l≤d) (hh:d≤hiS l):TruthN d l (zAr cm d l vals):=by
 have h0:TI l d (zBB d l):=by
  refine⟨by simp [zBB],fun i hi=>?_,by simp only[zBB,loS];omega,by simp only[zBB];omega⟩
  have:=h1 _ (zD6 hi)
  have e:(zBB d l).1.getD i 0=(bAt l i).lo:=by simp [zBB,bAt,List.getD,List.getElem?_eq_getElem hi]
  rw[e];omega
 obtain⟨hT,hF⟩:=zNa (zBq (zDY cm vals) (List.range l.length)) (zBB d l) (fun i hi=>by rw[zDw,List.mem_range] at hi;exact hi) h0
 have hz:(zBh l (zBq (zDY cm vals) (List.range l.length)) (zBB d l)).2=0:=by
  by_cases c:(zBh l (zBq (zDY cm vals) (List.range l.length)) (zBB d l)).2=0
  ·exact c
  ·have hs:=hT.sum
   have hl:=hT.left
   have:(zBh l (zBq (zDY cm vals) (List.range l.length)) (zBB d l)).1.sum=hiS l:=by
    rw[← zMi,hT.len,zU8]
    congr 1
    refine List.map_congr_left fun i hi=>?_
    rcases (hF i (List.mem_range.1 hi)).2 with h|h
    ·exact absurd h c
    ·exact h (by rw[zDw];exact hi)
   omega
 refine⟨hT.len,hT.each,?_⟩
 have:=hT.sum
 unfold zAr
 omega
theorem zPV (d:Int) (l:List Bd):(zBj d l).length=l.length:=by simp [zBj]
end Go.Proofs.YtgfbenanljjgaaaGreat.Du.Th

namespace Go.Proofs.YtgfbenanljjgaaaGreat.Du.Th.Ai
open Go Go.Oc
set_option maxRecDepth 8000
def zN (v:Int):Int:=if v=2000000000 then 0 else v
abbrev VOk (v:Int):Prop:=(0≤v∧v≤1000000000)∨v=2000000000
theorem zRW {v:Int}(h:VOk v):0≤zN v∧zN v≤1000000000:=by
 unfold zN;unfold VOk at h;split<;>omega
def badA (beds:List Bd) (d:Int) (vals:List Int) (i:Nat):Bool:=decide (vals.getD i 0=2000000000)&&decide (0<canA beds i d)
def zFB (s:Bool) (d:Int) (beds:List Bd) (v:List Int):Int:=if s then zCE d beds v / d else (zCF d beds v+(d-1)) / d
def zEQ (s:Bool) (d:Int) (beds:List Bd) (vals:List Int):Int:=if (List.range beds.length).any (badA beds d vals) then 2000000000 else zFB s d beds (vals.map zN)
structure AOk (d:Int) (l:List Bd):Prop where
 d1:1≤d∧d≤3000
 ch:chOk d l=true
 lo:loS l≤d
 hi:d≤hiS l
 len:l.length≤10
 ne:l≠[]
 beds:∀ c∈l,c.b=0∨zAb c.b=true
theorem AOk.each {d:Int}{l:List Bd}(h:AOk d l):∀ c∈l,0≤c.lo∧c.lo≤c.hi∧c.hi≤d:=fun c hc=>by
 have:=List.all_eq_true.1 h.ch c hc
 simp only[Bool.and_eq_true,decide_eq_true_eq] at this
 omega
theorem AOk.bed {d:Int}{l:List Bd}(h:AOk d l):∀ c∈l,0≤c.b∧c.b≤499:=fun c hc=>by
 rcases h.beds c hc with h|h
 ·omega
 ·unfold zAb at h;simp at h;omega
theorem AOk.small {d:Int}{l:List Bd}(h:AOk d l):Small l:=fun c hc=>by
 have:=h.each c hc;have:=h.d1;omega
theorem AOk.truth {d:Int}{l:List Bd}(h:AOk d l) (cm:Int→Int→Int) (vals:List Int):TruthN d l (zAr cm d l vals) :=
 zKk (fun c hc=>(h.each c hc).2.1) h.lo h.hi
theorem zPa:∀ {l:List Int},(∀ x∈l,0≤x)→0≤l.sum
 | [],_=>by simp
 | x::l, h=>by
   have:=zPa (l:=l) fun y hy=>h y (by simp [hy])
   have:=h x (by simp)
   simp only[List.sum_cons];omega
theorem zPb:∀ {l:List Bd}{y:List Int}{i:Nat},y.length=l.length→(∀ i,i<l.length→(bAt l i).lo≤y.getD i 0)→i<l.length→loS l-(bAt l i).lo≤y.sum-y.getD i 0
 | b::l, x::y, 0, hl, h, _=>by
   have:∀ {l:List Bd}{y:List Int},y.length=l.length→(∀ i,i<l.length→(bAt l i).lo≤y.getD i 0)→loS l≤y.sum:=by
    intro l
    induction l with
    | nil=>intro y hy _;cases y with|nil=>simp [loS]|cons _ _=>simp at hy
    | cons b l ih =>
      intro y hy h
      cases y with
      | nil=>simp at hy
      | cons x y =>
        have h0:=h 0 (by simp)
        have:=ih (y:=y) (by simpa using hy) fun i hi=>by simpa [bAt] using h (i+1) (by simpa using hi)
        simp only[loS,List.map_cons,List.sum_cons] at this ⊢
        simp [bAt] at h0
        omega
   have g:=this (l:=l) (y:=y) (by simpa using hl) fun i hi=>by simpa [bAt] using h (i+1) (by simpa using hi)
   simp [loS,bAt] at *;omega
 | b::l, x::y, i+1, hl, h, hi=>by
   have ih:=zPb (l:=l) (y:=y) (i:=i) (by simpa using hl) (fun j hj=>by simpa [bAt] using h (j+1) (by simpa using hj)) (by simpa using hi)
   have h0:=h 0 (by simp)
   simp [bAt] at h0
   have e:bAt (b::l) (i+1)=bAt l i:=by simp [bAt]
   have e2:(x::y).getD (i+1) 0=y.getD i 0:=by simp
   rw[e,e2]
   simp only[loS,List.map_cons,List.sum_cons] at ih ⊢
   omega
 | [],_,_,_,_,hi=>by simp at hi
 | _::_,[],_,hl,_,_=>by simp at hl
theorem zNs (l:List Bd) (i:Nat) (d:Int):canA l i d=min (d-(loS l-(bAt l i).lo)) (bAt l i).hi:=rfl
theorem zPT {d:Int}{l:List Bd}{y:List Int}(h:TruthN d l y) {i:Nat}(hi:i<l.length):y.getD i 0≤canA l i d:=by
 have h1:=zPb h.len (fun j hj=>(h.each j hj).1) hi
 have h2:=(h.each i hi).2
 rw[zNs,← h.sum]
 omega
theorem zRY {d:Int}{l:List Bd}{y:List Int}(h:TruthN d l y) (h0:∀ c∈l,0≤c.lo):∀ x∈y,0≤x:=fun x hx=>by
 obtain⟨i,hi⟩:=List.getElem?_of_mem hx
 have hil:i<l.length:=by rw[← h.len];exact (List.getElem?_eq_some_iff.1 hi).1
 have h1:=(h.each i hil).1
 have h2:=h0 _ (zD6 hil)
 have e:y.getD i 0=x:=by simp [List.getD,hi]
 omega
theorem zJF:∀ {xs ys:List Int}{M:Int},(∀ x∈xs,0≤x)→(∀ y∈ys,0≤y∧y≤M)→0≤M→0≤dotV xs ys∧dotV xs ys≤xs.sum*M
 | [],_,M,_,_,_=>by simp [dotV]
 | x::xs, [], M, h, _, hM=>by
   simp only[dotV];exact⟨Int.le_refl _,Int.mul_nonneg (zPa h) hM⟩
 | x::xs, y::ys, M, h, g, hM=>by
   obtain⟨i1,i2⟩:=zJF (xs:=xs) (ys:=ys) (M:=M) (fun z hz=>h z (by simp [hz])) (fun z hz=>g z (by simp [hz])) hM
   have hx:=h x (by simp)
   have hy:=g y (by simp)
   have p0:=Int.mul_nonneg hx hy.1
   have p1:=Int.mul_le_mul_of_nonneg_left hy.2 hx
   simp only[dotV,List.sum_cons,Int.add_mul]
   omega
theorem zNq:∀ {y u v:List Int}{c:Int},y.length=u.length→y.length=v.length→(∀ i,i<y.length→0≤y.getD i 0∧(0<y.getD i 0→u.getD i 0≤v.getD i 0+c))→dotV y u≤dotV y v+y.sum*c
 | [],[],[],c,_,_,_=>by simp [dotV]
 | x::y, a::u, b::v, c, h1, h2, h=>by
   have ih:=zNq (y:=y) (u:=u) (v:=v) (c:=c) (by simpa using h1) (by simpa using h2) fun i hi=>by simpa using h (i+1) (by simpa using hi)
   have h0:=h 0 (by simp)
   simp at h0
   have:x*a≤x*b+x*c:=by
    rw[← Int.mul_add]
    by_cases hx:0<x
    ·exact Int.mul_le_mul_of_nonneg_left (h0.2 hx) h0.1
    ·have:x=0:=by omega
     subst this;simp
   simp only[dotV,List.sum_cons,Int.add_mul]
   omega
 | [],_::_,_,_,h,_,_=>by simp at h
 | [],_,_::_,_,_,h,_=>by simp at h
 | _::_,[],_,_,h,_,_=>by simp at h
 | _::_,_,[],_,_,h,_=>by simp at h
theorem zLl (s:Bool) {d:Int}{l:List Bd}(h:AOk d l) {v:List Int}{M:Int}(hM:0≤M) (hv:∀ x∈v,0≤x∧x≤M):0≤zFB s d l v∧zFB s d l v≤M:=by
 have hd:=h.d1
 have key:∀ cm,0≤dotV (zAr cm d l v) v∧dotV (zAr cm d l v) v≤d*M:=fun cm=>by
  have ht:=h.truth cm v
  have:=zJF (M:=M) (zRY ht fun c hc=>(h.each c hc).1) hv hM
  rw[ht.sum] at this
  exact this
 unfold zFB zCE zCF
 cases s
 ·obtain⟨k1,k2⟩:=key (fun x y=>cmpI y x)
  simp only[Bool.false_eq_true,if_false]
  generalize dotV (zAr (fun x y=>cmpI y x) d l v) v=X at *
  refine⟨Int.ediv_nonneg (by omega) (by omega),?_⟩
  have:(X+(d-1)) / d<M+1:=Int.ediv_lt_of_lt_mul (by omega) (by rw[Int.add_mul,Int.mul_comm M];omega)
  omega
 ·obtain⟨k1,k2⟩:=key cmpI
  simp only[if_true]
  generalize dotV (zAr cmpI d l v) v=X at *
  refine⟨Int.ediv_nonneg (by omega) (by omega),?_⟩
  have:X / d<M+1:=Int.ediv_lt_of_lt_mul (by omega) (by rw[Int.add_mul,Int.mul_comm M];omega)
  omega
theorem zNG (s:Bool) {d:Int}{l:List Bd}(h:AOk d l) {u v:List Int}{c:Int}(hu:u.length=l.length) (hv:v.length=l.length) (huv:∀ i,i<l.length→0<canA l i d→u.getD i 0≤v.getD i 0+c):zFB s d l u≤zFB s d l v+c:=by
 have hd:=h.d1
 have key:∀ y,TruthN d l y→dotV y u≤dotV y v+d*c:=fun y hy=>by
  rw[← hy.sum]
  refine zNq (by rw[hy.len,hu]) (by rw[hy.len,hv]) fun i hi=>?_
  have hil:i<l.length:=by rw[← hy.len];exact hi
  refine⟨?_,fun h0=>huv i hil ?_⟩
  ·have h1:=(hy.each i hil).1
   have h2:=(h.each _ (zD6 hil)).1
   omega
  ·have:=zPT hy hil;omega
 unfold zFB
 cases s
 ·simp only[Bool.false_eq_true,if_false]
  have h1:=key _ (h.truth (fun x y=>cmpI y x) u)
  have h2:=(zF7 hv (h.truth (fun x y=>cmpI y x) u)).2
  have h3:zCF d l u≤zCF d l v+d*c:=by unfold zCF at *;omega
  calc (zCF d l u+(d-1)) / d≤((zCF d l v+(d-1))+d*c) / d:=Int.ediv_le_ediv (by omega) (by omega)
   _=(zCF d l v+(d-1)) / d+c:=Int.add_mul_ediv_left _ _ (by omega)
 ·simp only[if_true]
  have h1:=key _ (h.truth cmpI v)
  have h2:=(zF7 hu (h.truth cmpI v)).1
  have h3:zCE d l u≤zCE d l v+d*c:=by unfold zCE at *;omega
  calc zCE d l u / d≤(zCE d l v+d*c) / d:=Int.ediv_le_ediv (by omega) h3
   _=zCE d l v / d+c:=Int.add_mul_ediv_left _ _ (by omega)
theorem zKH (s:Bool) {d:Int}{l:List Bd}(h:AOk d l) {v:List Int}(hv:∀ x∈v,VOk x):VOk (zEQ s d l v):=by
 unfold zEQ
 split
 ·exact .inr rfl
 ·refine .inl (zLl s h (by omega) fun x hx=>?_)
  obtain⟨y,hy,rfl⟩:=List.mem_map.1 hx
  exact zRW (hv y hy)
theorem zG2 {v:List Int}{i:Nat}:(v.map zN).getD i 0=zN (v.getD i 0):=by
 simp only[List.getD_eq_getElem?_getD,List.getElem?_map]
 cases v[i]? <;> simp [zN]
theorem zSD (s:Bool) {d:Int}{l:List Bd}(h:AOk d l) {u v:List Int}{c:Int}(hc:0≤c) (hu:u.length=l.length) (hv:v.length=l.length) (hvu:∀ x∈u,VOk x) (hvv:∀ x∈v,VOk x)
 (huv:∀ i,i<l.length→v.getD i 0≠2000000000→u.getD i 0≤v.getD i 0+c∧u.getD i 0≠2000000000):zEQ s d l u≤zEQ s d l v+c:=by
 have hle:∀ {w},VOk w→w≤2000000000:=fun {w} hw=>by unfold VOk at hw;omega
 by_cases hb:(List.range l.length).any (badA l d v)=true
 ·have e:zEQ s d l v=2000000000:=by unfold zEQ;rw[if_pos hb]
  rw[e]
  have:=hle (zKH s h hvu)
  omega
 ·have hgood:∀ i,i<l.length→0<canA l i d→v.getD i 0≠2000000000:=fun i hi h0 hn=>hb (List.any_eq_true.2 ⟨i,List.mem_range.2 hi,by simp [badA,hn,h0];exact hn⟩)
  have hbu:¬ (List.range l.length).any (badA l d u)=true:=fun hh=>by
   obtain⟨i,hi,hbi⟩:=List.any_eq_true.1 hh
   have hil:=List.mem_range.1 hi
   simp only[badA,Bool.and_eq_true,decide_eq_true_eq] at hbi
   exact (huv i hil (hgood i hil hbi.2)).2 hbi.1
  unfold zEQ
  rw[if_neg hb,if_neg hbu]
  refine zNG s h (by simpa using hu) (by simpa using hv) fun i hi h0=>?_
  have hn:=hgood i hi h0
  obtain⟨q1,q2⟩:=huv i hi hn
  rw[zG2,zG2]
  unfold zN
  rw[if_neg q2,if_neg hn]
  exact q1
end Go.Proofs.YtgfbenanljjgaaaGreat.Du.Th.Ai

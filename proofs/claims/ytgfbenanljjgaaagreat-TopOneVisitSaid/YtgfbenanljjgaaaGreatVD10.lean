/- Part 10 of the texts of this claim. -/
import Derived.Test.YtgfbenanljjgaaaGreatVD9
import Derived.Test.YtgfbenanljjgaaaGreatVD5
set_option linter.unusedSimpArgs false
set_option linter.unusedVariables false
namespace Go.Proofs.YtgfbenanljjgaaaGreat.Du.Th
open Go Go.Oc
set_option maxRecDepth 8000
abbrev Pv:=Int × Int
def fillP:List Pv→Int × Int→Int × Int
 | [],x=>x
 | c::cs,x=>fillP cs (x.1-min x.1 c.1,x.2+min x.1 c.1*c.2)
def dotP:List Pv→List Int→Int
 | c::S,y::ys=>y*c.2+dotP S ys
 | _,_=>0
inductive FeasP:List Pv→List Int→Prop where
 | nil:FeasP [] []
 | cons {c:Pv}{S:List Pv}{y:Int}{ys:List Int}(h:0≤y∧y≤c.1) (t:FeasP S ys):FeasP (c::S) (y::ys)
theorem feas_sum {S:List Pv}{ys:List Int}(h:FeasP S ys):0≤ys.sum:=by
 induction h with
 | nil=>simp
 | cons h t ih=>simp only[List.sum_cons];omega
theorem feas_less {v:Int}{S:List Pv}{ys:List Int}(h:FeasP S ys):∀ δ:Int,0≤δ→δ≤ys.sum→(∀ c∈S,v≤c.2)→∃ zs,FeasP S zs∧zs.sum=ys.sum-δ∧dotP S zs+δ*v≤dotP S ys:=by
 induction h with
 | nil =>
   intro δ h0 h1 _
   simp only[List.sum_nil] at h1
   have:δ=0:=by omega
   subst this
   exact⟨[],.nil,by simp,by simp [dotP]⟩
 | @cons c S y ys h t ih =>
   intro δ h0 h1 hv
   simp only[List.sum_cons] at h1
   have hs:=feas_sum t
   obtain⟨zs,g1,g2,g3⟩:=ih (δ-min δ y) (by omega) (by omega) fun x hx=>hv x (by simp [hx])
   have hc:=hv c (by simp)
   have e0:0≤min δ y:=by omega
   have p:=Int.mul_nonneg e0 (show 0≤c.2-v by omega)
   refine⟨(y-min δ y)::zs,.cons ⟨by omega,by omega⟩ g1,by simp only[List.sum_cons];omega,?_⟩
   simp only[dotP]
   generalize min δ y=e at *
   rw[Int.mul_sub] at p
   rw[Int.sub_mul] at g3
   rw[Int.sub_mul]
   omega
theorem fill_min:∀ {S:List Pv}{ys:List Int},FeasP S ys→∀ (left s:Int),S.Pairwise (fun a b=>a.2≤b.2)→ys.sum=left→(fillP S (left,s)).2≤s+dotP S ys
 | [],_,h,left,s,_,_=>by cases h;simp [fillP,dotP]
 | c::S, _, h, left, s, hp, hsum=>by
   cases h with
   | @cons _ _ y ys h t =>
     obtain⟨hp1,hp2⟩:=List.pairwise_cons.1 hp
     simp only[List.sum_cons] at hsum
     have hs:=feas_sum t
     obtain⟨zs,g1,g2,g3⟩:=feas_less t (min left c.1-y) (by omega) (by omega) hp1
     have:=fill_min g1 (left-min left c.1) (s+min left c.1*c.2) hp2 (by omega)
     simp only[fillP,dotP]
     rw[Int.sub_mul] at g3
     omega
def negP (S:List Pv):List Pv:=S.map fun c=>(c.1,-c.2)
theorem fill_neg:∀ (S:List Pv) (x y:Int),(fillP (negP S) (x,-y)).2 = -(fillP S (x,y)).2
 | [],_,_=>rfl
 | c::S, x, y=>by
   have:=fill_neg S (x-min x c.1) (y+min x c.1*c.2)
   simp only[negP,List.map_cons,fillP] at this ⊢
   rw[← this]
   congr 3
   rw[Int.mul_neg];omega
theorem dot_neg:∀ (S:List Pv) (ys:List Int),dotP (negP S) ys = -dotP S ys
 | [],_=>by simp [negP,dotP]
 | _::_,[]=>by simp [negP,dotP]
 | c::S, y::ys=>by
   have:=dot_neg S ys
   simp only[negP,List.map_cons,dotP] at this ⊢
   rw[this,Int.mul_neg];omega
theorem feas_neg:∀ {S:List Pv}{ys:List Int},FeasP S ys→FeasP (negP S) ys
 | _,_,.nil=>.nil
 | _,_,.cons h t=>.cons h (feas_neg t)
theorem fill_max {S:List Pv}{ys:List Int}(h:FeasP S ys) (left s:Int) (hp:S.Pairwise (fun a b=>b.2≤a.2)) (hs:ys.sum=left):s+dotP S ys≤(fillP S (left,s)).2:=by
 have:=fill_min (feas_neg h) left (-s) (by unfold negP;exact List.Pairwise.map _ (fun a b h=>by simp only;omega) hp) hs
 rw[fill_neg,dot_neg] at this
 omega
theorem insB_perm (lt:Nat→Nat→Bool) (x:Nat):∀ R,(insB lt x R).Perm (x::R)
 | []=>.refl _
 | y::R=>by
   unfold insB
   split
   ·exact ((insB_perm lt x R).cons y).trans (.swap x y R)
   ·exact .refl _
theorem sortB_perm (lt:Nat→Nat→Bool):∀ l R,(sortB lt l R).Perm (l++R)
 | [],R=>.refl _
 | x::l, R=>by
   simp only[sortB]
   refine (sortB_perm lt l _).trans ?_
   refine ((insB_perm lt x R).append_left l).trans ?_
   exact List.perm_middle
theorem sortN_perm (lt:Nat→Nat→Bool) (l:List Nat):(sortN lt l).Perm l:=by
 unfold sortN
 refine (List.reverse_perm _).trans ?_
 have:=sortB_perm lt l []
 rwa [List.append_nil] at this
theorem insB_pw {K:Nat→Int}{lt:Nat→Nat→Bool}(hlt:∀ x y,lt x y=decide (K x<K y)) {x:Nat}:∀ {R:List Nat},R.Pairwise (fun y z=>K z≤K y)→(insB lt x R).Pairwise (fun y z=>K z≤K y)
 | [],_=>by simp [insB]
 | y::R, h=>by
   obtain⟨h1,h2⟩:=List.pairwise_cons.1 h
   unfold insB
   split
   ·rename_i hc
    rw[hlt,decide_eq_true_eq] at hc
    refine List.pairwise_cons.2 ⟨fun z hz=>?_,insB_pw hlt h2⟩
    rcases (mem_insB lt x z R).1 hz with rfl|hz
    ·omega
    ·exact h1 z hz
   ·rename_i hc
    rw[hlt,decide_eq_true_eq] at hc
    refine List.pairwise_cons.2 ⟨fun z hz=>?_,h⟩
    rcases List.mem_cons.1 hz with rfl|hz
    ·omega
    ·have:=h1 z hz;omega
theorem sortB_pw {K:Nat→Int}{lt:Nat→Nat→Bool}(hlt:∀ x y,lt x y=decide (K x<K y)):∀ {l R:List Nat},R.Pairwise (fun y z=>K z≤K y)→(sortB lt l R).Pairwise (fun y z=>K z≤K y)
 | [],_,h=>h
 | x::l,R,h=>by simp only[sortB];exact sortB_pw hlt (insB_pw hlt h)
theorem sortN_pw {K:Nat→Int}{lt:Nat→Nat→Bool}(hlt:∀ x y,lt x y=decide (K x<K y)) (l:List Nat):(sortN lt l).Pairwise (fun y z=>K y≤K z):=by
 unfold sortN
 rw[List.pairwise_reverse]
 exact sortB_pw hlt (by simp)
theorem dotV_sum:∀ {o vals:List Int},o.length=vals.length→dotV o vals=((List.range o.length).map fun i=>o.getD i 0*vals.getD i 0).sum
 | [],[],_=>rfl
 | x::o, y::vals, h=>by
   have ih:=dotV_sum (o:=o) (vals:=vals) (by simpa using h)
   simp only[dotV,List.length_cons,List.range_succ_eq_map,List.map_cons,List.sum_cons,List.map_map,ih]
   rfl
 | [],_::_,h=>by simp at h
 | _::_,[],h=>by simp at h
theorem dotV_set:∀ {o vals:List Int}{i:Nat}{y:Int},i<o.length→o.length=vals.length→dotV (o.set i y) vals=dotV o vals+(y-o.getD i 0)*vals.getD i 0
 | x::o,v::vals,0,y,_,_=>by simp only[List.set_cons_zero,dotV,List.getD_cons_zero,Int.sub_mul];omega
 | x::o, v::vals, i+1, y, h, hl=>by
   have ih:=dotV_set (o:=o) (vals:=vals) (i:=i) (y:=y) (by simpa using h) (by simpa using hl)
   simp only[List.set_cons_succ,dotV,List.getD_cons_succ,ih];omega
 | x::o,[],_,_,_,hl=>by simp at hl
 | [],_,_,_,h,_=>by simp at h
theorem fillS_dot {l:List Bd}{vals:List Int}:∀ {I:List Nat}{o:List Int}{left:Int},I.Nodup→o.length=l.length→vals.length=l.length→(∀ i∈I,i<l.length) →
 dotV (fillS l I (o,left)).1 vals=(fillP (I.map fun i=>((bAt l i).hi-o.getD i 0,vals.getD i 0)) (left,dotV o vals)).2∧(fillS l I (o,left)).1.length=l.length
 | [],o,left,_,ho,_,_=>⟨rfl,ho⟩
 | i::I, o, left, hn, ho, hv, hi=>by
   obtain⟨n1,n2⟩:=List.nodup_cons.1 hn
   have hil:=hi i (by simp)
   have hm:moreS l o left i=min left ((bAt l i).hi-o.getD i 0):=by
    unfold moreS bAt
    rw[List.getD_eq_getElem?_getD,List.getD_eq_getElem?_getD,List.getElem?_eq_getElem hil]
    rfl
   have hs:(o[i]?).getD 0=o.getD i 0:=by rw[List.getD_eq_getElem?_getD]
   simp only[fillS,List.map_cons,fillP];rw[hm,hs]
   obtain⟨h1,h2⟩:=fillS_dot (l:=l) (vals:=vals) (I:=I) (o:=o.set i (o.getD i 0+min left ((bAt l i).hi-o.getD i 0))) (left:=left-min left ((bAt l i).hi-o.getD i 0)) n2 (by simp [ho]) hv fun j hj=>hi j (by simp [hj])
   refine⟨?_,h2⟩
   rw[h1,dotV_set (by omega) (by omega)]
   have e1:(I.map fun j=>((bAt l j).hi-(o.set i (o.getD i 0+min left ((bAt l i).hi-o.getD i 0))).getD j 0,vals.getD j 0))=I.map fun j=>((bAt l j).hi-o.getD j 0,vals.getD j 0) :=
    List.map_congr_left fun j hj=>by
     have hji:¬ j=i:=fun e=>n1 (e▸hj)
     rw[getD_set _ _ _ _ (by omega),if_neg hji]
   rw[e1]
   congr 3
   rw[show o.getD i 0+min left ((bAt l i).hi-o.getD i 0)-o.getD i 0=min left ((bAt l i).hi-o.getD i 0) by omega]
structure TruthN (den:Int) (l:List Bd) (y:List Int):Prop where
 len:y.length=l.length
 each:∀ i,i<l.length→(bAt l i).lo≤y.getD i 0∧y.getD i 0≤(bAt l i).hi
 sum:y.sum=den
theorem feas_mapL {m v x:Nat→Int}:∀ {I:List Nat},(∀ i∈I,0≤x i∧x i≤m i)→FeasP (I.map fun i=>(m i,v i)) (I.map x)
 | [],_=>.nil
 | i::I,h=>.cons (h i (by simp)) (feas_mapL fun j hj=>h j (by simp [hj]))
theorem dot_mapL {m v x:Nat→Int}:∀ I:List Nat,dotP (I.map fun i=>(m i,v i)) (I.map x)=(I.map fun i=>x i*v i).sum
 | []=>rfl
 | i::I=>by simp only[List.map_cons,dotP,List.sum_cons,dot_mapL I]
theorem perm_sumL {f:Nat→Int}{I J:List Nat}(h:I.Perm J):(I.map f).sum=(J.map f).sum:=by
 induction h with
 | nil=>rfl
 | cons x _ ih=>simp only[List.map_cons,List.sum_cons,ih]
 | swap x y l=>simp only[List.map_cons,List.sum_cons];omega
 | trans _ _ h1 h2=>rw[h1,h2]
theorem sum_addL {f g:Nat→Int}:∀ I:List Nat,(I.map fun i=>f i+g i).sum=(I.map f).sum+(I.map g).sum
 | []=>by simp
 | i::I=>by simp only[List.map_cons,List.sum_cons,sum_addL I];omega
theorem sum_subL {f g:Nat→Int}:∀ I:List Nat,(I.map fun i=>f i-g i).sum=(I.map f).sum-(I.map g).sum
 | []=>by simp
 | i::I=>by simp only[List.map_cons,List.sum_cons,sum_subL I];omega
theorem filled_bound {d:Int}{l:List Bd}{vals y:List Int}(hv:vals.length=l.length) (hy:TruthN d l y):meanLo d l vals≤dotV y vals∧dotV y vals≤meanHi d l vals:=by
 have hyl:=hy.len
 have hlo:(l.map (·.lo)).length=l.length:=by simp
 have hgl:∀ i,i<l.length→(l.map (·.lo)).getD i 0=(bAt l i).lo:=fun i hi=>by simp [bAt,List.getD,List.getElem?_eq_getElem hi]
 have key:∀ cm:Int→Int→Int,∀ I:List Nat,I.Perm (List.range l.length)→I=sortN (keyLt cm vals) (List.range l.length) →
  dotV (filledV cm d l vals) vals=(fillP (I.map fun i=>((bAt l i).hi-(bAt l i).lo,vals.getD i 0)) (d-loS l,dotV (l.map (·.lo)) vals)).2 ∧
  FeasP (I.map fun i=>((bAt l i).hi-(bAt l i).lo,vals.getD i 0)) (I.map fun i=>y.getD i 0-(bAt l i).lo)∧(I.map fun i=>y.getD i 0-(bAt l i).lo).sum=d-loS l ∧
  dotV (l.map (·.lo)) vals+dotP (I.map fun i=>((bAt l i).hi-(bAt l i).lo,vals.getD i 0)) (I.map fun i=>y.getD i 0-(bAt l i).lo)=dotV y vals:=fun cm I hp he=>by
  have hI:∀ i∈I,i<l.length:=fun i hi=>List.mem_range.1 (hp.mem_iff.1 hi)
  have hn:I.Nodup:=hp.nodup_iff.2 List.nodup_range
  refine⟨?_,feas_mapL fun i hi=>?_,?_,?_⟩
  ·unfold filledV startF
   rw[← he,(fillS_dot (l:=l) (vals:=vals) (o:=l.map (·.lo)) (left:=d-loS l) hn hlo hv hI).1]
   have e:(I.map fun i=>((bAt l i).hi-(l.map (·.lo)).getD i 0,vals.getD i 0))=I.map fun i=>((bAt l i).hi-(bAt l i).lo,vals.getD i 0):=List.map_congr_left fun i hi=>by rw[hgl i (hI i hi)]
   rw[e]
  ·have:=hy.each i (hI i hi);omega
  ·rw[perm_sumL (f:=fun i=>y.getD i 0-(bAt l i).lo) hp,sum_subL]
   have e1:((List.range l.length).map fun i=>y.getD i 0).sum=d:=by rw[← hyl,sum_getD,hy.sum]
   have e2:((List.range l.length).map fun i=>(bAt l i).lo).sum=loS l:=by
    conv=>rhs;rw[loS,← range_bAt l,List.map_map]
    rfl
   rw[e1,e2]
  ·rw[dot_mapL,perm_sumL (f:=fun i=>(y.getD i 0-(bAt l i).lo)*vals.getD i 0) hp,dotV_sum (by rw[hlo,hv]),dotV_sum (by rw[hyl,hv]),hlo,hyl,← sum_addL]
   congr 1
   refine List.map_congr_left fun i hi=>?_
   rw[hgl i (List.mem_range.1 hi),Int.sub_mul];omega
 constructor
 ·obtain⟨k1,k2,k3,k4⟩:=key cmpI _ (sortN_perm _ _) rfl
  unfold meanLo
  rw[k1,← k4]
  refine fill_min k2 _ _ ?_ k3
  refine List.pairwise_map.2 ((sortN_pw (K:=fun i=>vals.getD i 0) (fun x y=>?_) _).imp fun h=>h)
  unfold keyLt cmpI
  simp only[List.getD_eq_getElem?_getD];rw[Bool.eq_iff_iff,decide_eq_true_eq,decide_eq_true_eq]
  split
  ·omega
  ·split<;>omega
 ·obtain⟨k1,k2,k3,k4⟩:=key (fun x y=>cmpI y x) _ (sortN_perm _ _) rfl
  unfold meanHi
  rw[k1,← k4]
  refine fill_max k2 _ _ ?_ k3
  refine List.pairwise_map.2 ((sortN_pw (K:=fun i=>-vals.getD i 0) (fun x y=>?_) _).imp fun h=>by simp only;omega)
  unfold keyLt cmpI
  simp only[List.getD_eq_getElem?_getD];rw[Bool.eq_iff_iff,decide_eq_true_eq,decide_eq_true_eq]
  split
  ·omega
  ·split<;>omega
structure FixI (D:Int) (l X:List Bd):Prop where
 map:X.map (fun c=>(c.b,c.lo))=l.map fun c=>(c.b,c.lo)
 each:∀ c∈X,0≤c.lo∧c.lo≤c.hi∧c.hi≤D
theorem FixI.len {D:Int}{l X:List Bd}(h:FixI D l X):X.length=l.length:=by
 have:=congrArg List.length h.map
 simpa using this
theorem FixI.cap {D:Int}{l:List Bd}(h0:∀ c∈l,0≤c.lo∧c.lo≤c.hi∧c.lo≤D):FixI D l (capB D l):=by
 refine⟨by simp [capB,Function.comp_def],fun c hc=>?_⟩
 obtain⟨d,hd,rfl⟩:=List.mem_map.1 hc
 have:=h0 d hd
 simp only;omega
theorem FixI.raise {D:Int}{l X:List Bd}(h:FixI D l X) (k:Nat) (hk:k<X.length):FixI D l (raiseB D X k):=by
 unfold raiseB
 split
 ·rename_i hh
  have hg:X[k]? = some (X.getD k ⟨0,0,0⟩):=by rw[List.getD_eq_getElem?_getD,List.getElem?_eq_getElem hk];rfl
  have hc:=h.each _ (List.mem_of_getElem? hg)
  refine⟨?_,fun c hc'=>?_⟩
  ·rw[← h.map,List.map_set]
   refine List.ext_getElem? fun j=>?_
   rw[List.getElem?_set]
   split
   ·rename_i e;subst e
    rw[List.getElem?_map,hg]
    simp [hk]
   ·rfl
  ·rcases List.mem_or_eq_of_mem_set hc' with hx|hx
   ·exact h.each c hx
   ·subst hx
    simp only;omega
 ·exact h
theorem FixI.b {D:Int}{l X:List Bd}(h:FixI D l X):X.map (·.b)=l.map (·.b)∧loS X=loS l:=by
 have h1:=congrArg (List.map Prod.fst) h.map
 have h2:=congrArg (fun z=>(List.map Prod.snd z).sum) h.map
 simp only[List.map_map] at h1 h2
 exact⟨h1,h2⟩
structure MadeI (D:Int) (a:Am):Prop where
 ok:aimOk D a=true
 wf:WfA a
 len:1≤a.beds.length∧a.beds.length≤10
theorem fillS_TI {l:List Bd}{d:Int}:∀ (I:List Nat) (x:List Int × Int),(∀ i∈I,i<l.length)→TI l d x→TI l d (fillS l I x)∧∀ i,i<l.length→x.1.getD i 0≤(fillS l I x).1.getD i 0∧((fillS l I x).2=0∨(i∈I→(fillS l I x).1.getD i 0=(bAt l i).hi))
 | [],x,_,h=>⟨h,fun i hi=>⟨Int.le_refl _,.inr fun h=>by cases h⟩⟩
 | j::I, x, hI, h=>by
   have hj:=hI j (by simp)
   have hl:=h.len
   have hm:moreS l x.1 x.2 j=takeU l j x:=by
    unfold moreS takeU bAt
    rw[List.getD_eq_getElem?_getD,List.getD_eq_getElem?_getD,List.getElem?_eq_getElem hj];rfl
   have e:(x.1.set j ((x.1[j]?).getD 0+moreS l x.1 x.2 j),x.2-moreS l x.1 x.2 j)=giveU j (takeU l j x) x:=by
    rw[hm,← List.getD_eq_getElem?_getD];rfl
   have ht:=h.take hj
   have hg:=h.give hj ⟨ht,Int.le_refl _⟩
   simp only[fillS];rw[e]
   obtain⟨h1,h2⟩:=fillS_TI I (giveU j (takeU l j x) x) (fun i hi=>hI i (by simp [hi])) hg
   refine⟨h1,fun i hi=>?_⟩
   obtain⟨k1,k2⟩:=h2 i hi
   have hgi:(giveU j (takeU l j x) x).1.getD i 0=if i=j then x.1.getD j 0+takeU l j x else x.1.getD i 0:=by
    unfold giveU;exact getD_set _ _ _ _ (by omega)
   rw[hgi] at k1
   have h6:=h1.each i hi
   refine⟨by
    split at k1
    ·rename_i e;subst e;omega
    ·exact k1,?_⟩
   rcases k2 with k2|k2
   ·exact .inl k2
   ·by_cases e:i=j
    ·subst e
     rw[if_pos rfl] at k1
     have h3:=h.each i hi
     by_cases c:x.2≤(bAt l i).hi-x.1.getD i 0
     ·left
      have h4:=h1.sum
      have h5:=h1.left
      have:(giveU i (takeU l i x) x).2=0:=by unfold giveU takeU;simp only;omega
      have hle:∀ (I:List Nat) (y:List Int × Int),(∀ i∈I,i<l.length)→TI l d y→(fillS l I y).2≤y.2:=by
       intro I
       induction I with
       | nil=>intro y _ _;exact Int.le_refl _
       | cons a I ih =>
         intro y hI hy
         have ha:=hI a (by simp)
         have hm:moreS l y.1 y.2 a=takeU l a y:=by
          unfold moreS takeU bAt
          rw[List.getD_eq_getElem?_getD,List.getD_eq_getElem?_getD,List.getElem?_eq_getElem ha];rfl
         have e:(y.1.set a ((y.1[a]?).getD 0+moreS l y.1 y.2 a),y.2-moreS l y.1 y.2 a)=giveU a (takeU l a y) y:=by
          rw[hm,← List.getD_eq_getElem?_getD];rfl
         have ht:=hy.take ha
         simp only[fillS];rw[e]
         have:=ih (giveU a (takeU l a y) y) (fun i hi=>hI i (by simp [hi])) (hy.give ha ⟨ht,Int.le_refl _⟩)
         simp only[giveU] at this ⊢
         omega
      have:=hle I (giveU i (takeU l i x) x) (fun i hi=>hI i (by simp [hi])) hg
      omega
     ·right;intro _
      have:takeU l i x=(bAt l i).hi-x.1.getD i 0:=by unfold takeU;omega
      omega
    ·right;intro hi'
     rcases List.mem_cons.1 hi' with h|h
     ·exact absurd h e
     ·exact k2 h
theorem hiS_eq (l:List Bd):hiS l=((List.range l.length).map fun i=>(bAt l i).hi).sum:=by
 conv=>lhs;rw[hiS,← range_bAt l,List.map_map]
 rfl
theorem filled_truth {cm:Int→Int→Int}{d:Int}{l:List Bd}{vals:List Int}(h1:∀ c∈l,c.lo≤c.hi) (h:loS l≤d) (hh:d≤hiS l):TruthN d l (filledV cm d l vals):=by
 have h0:TI l d (startF d l):=by
  refine⟨by simp [startF],fun i hi=>?_,by simp only[startF,loS];omega,by simp only[startF];omega⟩
  have:=h1 _ (bAt_mem hi)
  have e:(startF d l).1.getD i 0=(bAt l i).lo:=by simp [startF,bAt,List.getD,List.getElem?_eq_getElem hi]
  rw[e];omega
 obtain⟨hT,hF⟩:=fillS_TI (sortN (keyLt cm vals) (List.range l.length)) (startF d l) (fun i hi=>by rw[mem_sortN,List.mem_range] at hi;exact hi) h0
 have hz:(fillS l (sortN (keyLt cm vals) (List.range l.length)) (startF d l)).2=0:=by
  by_cases c:(fillS l (sortN (keyLt cm vals) (List.range l.length)) (startF d l)).2=0
  ·exact c
  ·have hs:=hT.sum
   have hl:=hT.left
   have:(fillS l (sortN (keyLt cm vals) (List.range l.length)) (startF d l)).1.sum=hiS l:=by
    rw[← sum_getD,hT.len,hiS_eq]
    congr 1
    refine List.map_congr_left fun i hi=>?_
    rcases (hF i (List.mem_range.1 hi)).2 with h|h
    ·exact absurd h c
    ·exact h (by rw[mem_sortN];exact hi)
   omega
 refine⟨hT.len,hT.each,?_⟩
 have:=hT.sum
 unfold filledV
 omega
end Go.Proofs.YtgfbenanljjgaaaGreat.Du.Th

namespace Go.Proofs.YtgfbenanljjgaaaGreat.Du.Th.Ai
open Go Go.Oc
set_option maxRecDepth 8000
def zN (v:Int):Int:=if v=2000000000 then 0 else v
abbrev VOk (v:Int):Prop:=(0≤v∧v≤1000000000)∨v=2000000000
theorem zN_ok {v:Int}(h:VOk v):0≤zN v∧zN v≤1000000000:=by
 unfold zN;unfold VOk at h;split<;>omega
def badA (beds:List Bd) (d:Int) (vals:List Int) (i:Nat):Bool:=decide (vals.getD i 0=2000000000)&&decide (0<canA beds i d)
def meanZ (s:Bool) (d:Int) (beds:List Bd) (v:List Int):Int:=if s then meanLo d beds v / d else (meanHi d beds v+(d-1)) / d
def meanS (s:Bool) (d:Int) (beds:List Bd) (vals:List Int):Int:=if (List.range beds.length).any (badA beds d vals) then 2000000000 else meanZ s d beds (vals.map zN)
structure AOk (d:Int) (l:List Bd):Prop where
 d1:1≤d∧d≤3000
 ch:chOk d l=true
 lo:loS l≤d
 hi:d≤hiS l
 len:l.length≤10
 ne:l≠[]
 beds:∀ c∈l,c.b=0∨bedOk c.b=true
theorem AOk.each {d:Int}{l:List Bd}(h:AOk d l):∀ c∈l,0≤c.lo∧c.lo≤c.hi∧c.hi≤d:=fun c hc=>by
 have:=List.all_eq_true.1 h.ch c hc
 simp only[Bool.and_eq_true,decide_eq_true_eq] at this
 omega
theorem AOk.bed {d:Int}{l:List Bd}(h:AOk d l):∀ c∈l,0≤c.b∧c.b≤499:=fun c hc=>by
 rcases h.beds c hc with h|h
 ·omega
 ·unfold bedOk at h;simp at h;omega
theorem AOk.small {d:Int}{l:List Bd}(h:AOk d l):Small l:=fun c hc=>by
 have:=h.each c hc;have:=h.d1;omega
theorem AOk.truth {d:Int}{l:List Bd}(h:AOk d l) (cm:Int→Int→Int) (vals:List Int):TruthN d l (filledV cm d l vals) :=
 filled_truth (fun c hc=>(h.each c hc).2.1) h.lo h.hi
theorem sum_nn:∀ {l:List Int},(∀ x∈l,0≤x)→0≤l.sum
 | [],_=>by simp
 | x::l, h=>by
   have:=sum_nn (l:=l) fun y hy=>h y (by simp [hy])
   have:=h x (by simp)
   simp only[List.sum_cons];omega
theorem sum_but:∀ {l:List Bd}{y:List Int}{i:Nat},y.length=l.length→(∀ i,i<l.length→(bAt l i).lo≤y.getD i 0)→i<l.length→loS l-(bAt l i).lo≤y.sum-y.getD i 0
 | b::l, x::y, 0, hl, h, _=>by
   have:∀ {l:List Bd}{y:List Int},y.length=l.length→(∀ i,i<l.length→(bAt l i).lo≤y.getD i 0)→loS l≤y.sum:=by
    intro l
    induction l with
    | nil=>intro y hy _;cases y with|nil=>simp [loS]|cons _ _=>simp at hy
    | cons b l ih =>
      intro y hy h
      cases y with
      | nil=>simp at hy
      | cons x y =>
        have h0:=h 0 (by simp)
        have:=ih (y:=y) (by simpa using hy) fun i hi=>by simpa [bAt] using h (i+1) (by simpa using hi)
        simp only[loS,List.map_cons,List.sum_cons] at this ⊢
        simp [bAt] at h0
        omega
   have g:=this (l:=l) (y:=y) (by simpa using hl) fun i hi=>by simpa [bAt] using h (i+1) (by simpa using hi)
   simp [loS,bAt] at *;omega
 | b::l, x::y, i+1, hl, h, hi=>by
   have ih:=sum_but (l:=l) (y:=y) (i:=i) (by simpa using hl) (fun j hj=>by simpa [bAt] using h (j+1) (by simpa using hj)) (by simpa using hi)
   have h0:=h 0 (by simp)
   simp [bAt] at h0
   have e:bAt (b::l) (i+1)=bAt l i:=by simp [bAt]
   have e2:(x::y).getD (i+1) 0=y.getD i 0:=by simp
   rw[e,e2]
   simp only[loS,List.map_cons,List.sum_cons] at ih ⊢
   omega
 | [],_,_,_,_,hi=>by simp at hi
 | _::_,[],_,hl,_,_=>by simp at hl
theorem canA_bAt (l:List Bd) (i:Nat) (d:Int):canA l i d=min (d-(loS l-(bAt l i).lo)) (bAt l i).hi:=rfl
theorem truth_can {d:Int}{l:List Bd}{y:List Int}(h:TruthN d l y) {i:Nat}(hi:i<l.length):y.getD i 0≤canA l i d:=by
 have h1:=sum_but h.len (fun j hj=>(h.each j hj).1) hi
 have h2:=(h.each i hi).2
 rw[canA_bAt,← h.sum]
 omega
theorem truth_nn {d:Int}{l:List Bd}{y:List Int}(h:TruthN d l y) (h0:∀ c∈l,0≤c.lo):∀ x∈y,0≤x:=fun x hx=>by
 obtain⟨i,hi⟩:=List.getElem?_of_mem hx
 have hil:i<l.length:=by rw[← h.len];exact (List.getElem?_eq_some_iff.1 hi).1
 have h1:=(h.each i hil).1
 have h2:=h0 _ (bAt_mem hil)
 have e:y.getD i 0=x:=by simp [List.getD,hi]
 omega
theorem dotV_le:∀ {xs ys:List Int}{M:Int},(∀ x∈xs,0≤x)→(∀ y∈ys,0≤y∧y≤M)→0≤M→0≤dotV xs ys∧dotV xs ys≤xs.sum*M
 | [],_,M,_,_,_=>by simp [dotV]
 | x::xs, [], M, h, _, hM=>by
   simp only[dotV];exact⟨Int.le_refl _,Int.mul_nonneg (sum_nn h) hM⟩
 | x::xs, y::ys, M, h, g, hM=>by
   obtain⟨i1,i2⟩:=dotV_le (xs:=xs) (ys:=ys) (M:=M) (fun z hz=>h z (by simp [hz])) (fun z hz=>g z (by simp [hz])) hM
   have hx:=h x (by simp)
   have hy:=g y (by simp)
   have p0:=Int.mul_nonneg hx hy.1
   have p1:=Int.mul_le_mul_of_nonneg_left hy.2 hx
   simp only[dotV,List.sum_cons,Int.add_mul]
   omega
theorem dotV_leI:∀ {y u v:List Int}{c:Int},y.length=u.length→y.length=v.length→(∀ i,i<y.length→0≤y.getD i 0∧(0<y.getD i 0→u.getD i 0≤v.getD i 0+c))→dotV y u≤dotV y v+y.sum*c
 | [],[],[],c,_,_,_=>by simp [dotV]
 | x::y, a::u, b::v, c, h1, h2, h=>by
   have ih:=dotV_leI (y:=y) (u:=u) (v:=v) (c:=c) (by simpa using h1) (by simpa using h2) fun i hi=>by simpa using h (i+1) (by simpa using hi)
   have h0:=h 0 (by simp)
   simp at h0
   have:x*a≤x*b+x*c:=by
    rw[← Int.mul_add]
    by_cases hx:0<x
    ·exact Int.mul_le_mul_of_nonneg_left (h0.2 hx) h0.1
    ·have:x=0:=by omega
     subst this;simp
   simp only[dotV,List.sum_cons,Int.add_mul]
   omega
 | [],_::_,_,_,h,_,_=>by simp at h
 | [],_,_::_,_,_,h,_=>by simp at h
 | _::_,[],_,_,h,_,_=>by simp at h
 | _::_,_,[],_,_,h,_=>by simp at h
theorem meanZ_bound (s:Bool) {d:Int}{l:List Bd}(h:AOk d l) {v:List Int}{M:Int}(hM:0≤M) (hv:∀ x∈v,0≤x∧x≤M):0≤meanZ s d l v∧meanZ s d l v≤M:=by
 have hd:=h.d1
 have key:∀ cm,0≤dotV (filledV cm d l v) v∧dotV (filledV cm d l v) v≤d*M:=fun cm=>by
  have ht:=h.truth cm v
  have:=dotV_le (M:=M) (truth_nn ht fun c hc=>(h.each c hc).1) hv hM
  rw[ht.sum] at this
  exact this
 unfold meanZ meanLo meanHi
 cases s
 ·obtain⟨k1,k2⟩:=key (fun x y=>cmpI y x)
  simp only[Bool.false_eq_true,if_false]
  generalize dotV (filledV (fun x y=>cmpI y x) d l v) v=X at *
  refine⟨Int.ediv_nonneg (by omega) (by omega),?_⟩
  have:(X+(d-1)) / d<M+1:=Int.ediv_lt_of_lt_mul (by omega) (by rw[Int.add_mul,Int.mul_comm M];omega)
  omega
 ·obtain⟨k1,k2⟩:=key cmpI
  simp only[if_true]
  generalize dotV (filledV cmpI d l v) v=X at *
  refine⟨Int.ediv_nonneg (by omega) (by omega),?_⟩
  have:X / d<M+1:=Int.ediv_lt_of_lt_mul (by omega) (by rw[Int.add_mul,Int.mul_comm M];omega)
  omega
theorem meanZ_le (s:Bool) {d:Int}{l:List Bd}(h:AOk d l) {u v:List Int}{c:Int}(hu:u.length=l.length) (hv:v.length=l.length) (huv:∀ i,i<l.length→0<canA l i d→u.getD i 0≤v.getD i 0+c):meanZ s d l u≤meanZ s d l v+c:=by
 have hd:=h.d1
 have key:∀ y,TruthN d l y→dotV y u≤dotV y v+d*c:=fun y hy=>by
  rw[← hy.sum]
  refine dotV_leI (by rw[hy.len,hu]) (by rw[hy.len,hv]) fun i hi=>?_
  have hil:i<l.length:=by rw[← hy.len];exact hi
  refine⟨?_,fun h0=>huv i hil ?_⟩
  ·have h1:=(hy.each i hil).1
   have h2:=(h.each _ (bAt_mem hil)).1
   omega
  ·have:=truth_can hy hil;omega
 unfold meanZ
 cases s
 ·simp only[Bool.false_eq_true,if_false]
  have h1:=key _ (h.truth (fun x y=>cmpI y x) u)
  have h2:=(filled_bound hv (h.truth (fun x y=>cmpI y x) u)).2
  have h3:meanHi d l u≤meanHi d l v+d*c:=by unfold meanHi at *;omega
  calc (meanHi d l u+(d-1)) / d≤((meanHi d l v+(d-1))+d*c) / d:=Int.ediv_le_ediv (by omega) (by omega)
   _=(meanHi d l v+(d-1)) / d+c:=Int.add_mul_ediv_left _ _ (by omega)
 ·simp only[if_true]
  have h1:=key _ (h.truth cmpI v)
  have h2:=(filled_bound hu (h.truth cmpI v)).1
  have h3:meanLo d l u≤meanLo d l v+d*c:=by unfold meanLo at *;omega
  calc meanLo d l u / d≤(meanLo d l v+d*c) / d:=Int.ediv_le_ediv (by omega) h3
   _=meanLo d l v / d+c:=Int.add_mul_ediv_left _ _ (by omega)
theorem meanS_vok (s:Bool) {d:Int}{l:List Bd}(h:AOk d l) {v:List Int}(hv:∀ x∈v,VOk x):VOk (meanS s d l v):=by
 unfold meanS
 split
 ·exact .inr rfl
 ·refine .inl (meanZ_bound s h (by omega) fun x hx=>?_)
  obtain⟨y,hy,rfl⟩:=List.mem_map.1 hx
  exact zN_ok (hv y hy)
theorem getD_mapz {v:List Int}{i:Nat}:(v.map zN).getD i 0=zN (v.getD i 0):=by
 simp only[List.getD_eq_getElem?_getD,List.getElem?_map]
 cases v[i]? <;> simp [zN]
theorem meanS_le (s:Bool) {d:Int}{l:List Bd}(h:AOk d l) {u v:List Int}{c:Int}(hc:0≤c) (hu:u.length=l.length) (hv:v.length=l.length) (hvu:∀ x∈u,VOk x) (hvv:∀ x∈v,VOk x)
 (huv:∀ i,i<l.length→v.getD i 0≠2000000000→u.getD i 0≤v.getD i 0+c∧u.getD i 0≠2000000000):meanS s d l u≤meanS s d l v+c:=by
 have hle:∀ {w},VOk w→w≤2000000000:=fun {w} hw=>by unfold VOk at hw;omega
 by_cases hb:(List.range l.length).any (badA l d v)=true
 ·have e:meanS s d l v=2000000000:=by unfold meanS;rw[if_pos hb]
  rw[e]
  have:=hle (meanS_vok s h hvu)
  omega
 ·have hgood:∀ i,i<l.length→0<canA l i d→v.getD i 0≠2000000000:=fun i hi h0 hn=>hb (List.any_eq_true.2 ⟨i,List.mem_range.2 hi,by simp [badA,hn,h0];exact hn⟩)
  have hbu:¬ (List.range l.length).any (badA l d u)=true:=fun hh=>by
   obtain⟨i,hi,hbi⟩:=List.any_eq_true.1 hh
   have hil:=List.mem_range.1 hi
   simp only[badA,Bool.and_eq_true,decide_eq_true_eq] at hbi
   exact (huv i hil (hgood i hil hbi.2)).2 hbi.1
  unfold meanS
  rw[if_neg hb,if_neg hbu]
  refine meanZ_le s h (by simpa using hu) (by simpa using hv) fun i hi h0=>?_
  have hn:=hgood i hi h0
  obtain⟨q1,q2⟩:=huv i hi hn
  rw[getD_mapz,getD_mapz]
  unfold zN
  rw[if_neg q2,if_neg hn]
  exact q1
set_option maxHeartbeats 2000000
theorem awp_join0 {P:Program}{C:Ctx}{Q:Exit→AS→Prop}{s:AS}{n:Nat}{c d:Code}{Q1:Exit→AS→Prop}{α:Type}(F:α→(Nat→Nat)→List (Nat × AV)) (R:α→List (Nat × RowC)) (I:α→Prop)
 (h0:∀ s,awp P C d Q1 s→Q .normal s) (h1:awp P C c (andThen (fun s'=>∃ z,I z∧Fit0 n (F z) (R z) s') Q) s) (h2:∀ z vs,Lent vs→I z→awp P C d Q1 (st n (F z vs) vs (R z))):awp P C c Q s:=by
 refine awp_mono ?_ h1
 intro e s' hq
 cases e with
 | normal =>
   obtain⟨z,hz,vs,hv,hf⟩:=hq
   exact h0 s' (zw hf (h2 z vs hv hz))
 | _=>exact hq
def cmO (s:Bool):Int→Int→Int:=if s then cmpI else fun x y=>cmpI y x
def sumS (s:Bool) (d:Int) (l:List Bd) (v:List Int):Int:=dotV (filledV (cmO s) d l v) v
theorem meanZ_sum (s:Bool) (d:Int) (l:List Bd) (v:List Int):meanZ s d l v=(if s then sumS s d l v else sumS s d l v+(d-1)) / d:=by
 cases s<;>simp [meanZ,sumS,cmO,meanLo,meanHi]
abbrev pvO (l:List Bd) (z:List Int) (i:Nat):Pv:=((bAt l i).hi-(bAt l i).lo,z.getD i 0)
theorem sum_fill (s:Bool) (d:Int) (l:List Bd) (z:List Int) (hz:z.length=l.length) :
 sumS s d l z=(fillP ((sortN (keyLt (cmO s) z) (List.range l.length)).map (pvO l z)) (d-loS l,dotV (l.map (·.lo)) z)).2:=by
 have hp:=sortN_perm (keyLt (cmO s) z) (List.range l.length)
 have hI:∀ i∈sortN (keyLt (cmO s) z) (List.range l.length),i<l.length:=fun i hi=>List.mem_range.1 (hp.mem_iff.1 hi)
 unfold sumS filledV startF
 rw[(fillS_dot (l:=l) (vals:=z) (o:=l.map (·.lo)) (left:=d-loS l) (hp.nodup_iff.2 List.nodup_range) (by simp) hz hI).1]
 have e:((sortN (keyLt (cmO s) z) (List.range l.length)).map fun i=>((bAt l i).hi-(l.map (·.lo)).getD i 0,z.getD i 0))=(sortN (keyLt (cmO s) z) (List.range l.length)).map (pvO l z):=by
  refine List.map_congr_left fun i hi=>?_
  have:=hI i hi
  simp [pvO,bAt,List.getD,List.getElem?_eq_getElem this]
 rw[e]
theorem fillP_snoc:∀ (l:List Pv) (c:Pv) (x:Int × Int),fillP (l++[c]) x=((fillP l x).1-min (fillP l x).1 c.1,(fillP l x).2+min (fillP l x).1 c.1*c.2)
 | [],_,_=>rfl
 | d::l,c,x=>by simp only[List.cons_append,fillP];exact fillP_snoc l c _
abbrev FOk (x:Int × Int):Prop:=(0≤x.1∧x.1≤3000)∧0≤x.2∧x.2≤6000000000000-1000000000*x.1
theorem fOk_step {x:Int × Int}{c:Pv}(h:FOk x) (h1:0≤c.1) (h2:0≤c.2∧c.2≤1000000000) :
 (0≤min x.1 c.1∧min x.1 c.1≤3000)∧(0≤min x.1 c.1*c.2∧min x.1 c.1*c.2≤3000000000000)∧FOk (x.1-min x.1 c.1,x.2+min x.1 c.1*c.2):=by
 obtain⟨⟨a1,a2⟩,a3,a4⟩:=h
 generalize hm:min x.1 c.1=m
 have m0:0≤m:=by omega
 have m1:m≤x.1:=by omega
 have p0:=Int.mul_nonneg m0 h2.1
 have p1:m*c.2≤m*1000000000:=Int.mul_le_mul_of_nonneg_left h2.2 m0
 exact⟨⟨m0,by omega⟩,⟨p0,by omega⟩,⟨by simp only;omega,by simp only;omega⟩,by simp only;omega,by simp only;omega⟩
theorem fOk_all:∀ {l:List Pv}{x:Int × Int},(∀ c∈l,0≤c.1∧0≤c.2∧c.2≤1000000000)→FOk x→FOk (fillP l x)
 | [],_,_,h=>h
 | c::l,x,hc,h=>fOk_all (l:=l) (fun y hy=>hc y (by simp [hy])) (fOk_step h (hc c (by simp)).1 (hc c (by simp)).2).2.2
theorem set_same:∀ {l:List Int}{i:Nat}{v:Int},l[i]? = some v→l.set i v=l
 | x::l,0,v,h=>by simp at h;subst h;rfl
 | x::l,i+1,v,h=>by simp only[List.set_cons_succ];rw[set_same (by simpa using h)]
 | [],_,_,h=>by simp at h
abbrev mixZ (vals:List Int) (i:Nat):List Int:=(vals.take i).map zN++vals.drop i
theorem arrV_set (l:List Int) (i:Nat) (v:Int):arrV (l.set i v)=(arrV l).set i [i64 v]:=List.map_set
theorem mixZ_get {vals:List Int}{i:Nat}{v:Int}(h:vals[i]? = some v):(mixZ vals i)[i]? = some v:=by
 have hi:=(List.getElem?_eq_some_iff.1 h).1
 rw[List.getElem?_append_right (by simp;omega)]
 have:i-((vals.take i).map zN).length=0:=by simp;omega
 rw[this,drop_of_opt h];rfl
theorem mixZ_set {vals:List Int}{i:Nat}{v:Int}(h:vals[i]? = some v):(mixZ vals i).set i (zN v)=mixZ vals (i+1):=by
 have hi:=(List.getElem?_eq_some_iff.1 h).1
 unfold mixZ
 rw[List.set_append_right _ _ (by simp;omega),zto h,drop_of_opt h]
 have:i-((vals.take i).map zN).length=0:=by simp;omega
 rw[this];simp
theorem mixZ_len (vals:List Int) (i:Nat):(mixZ vals i).length=vals.length:=by simp [mixZ];omega
theorem mixZ_same {vals:List Int}{i:Nat}{v:Int}(h:vals[i]? = some v) (hz:zN v=v):mixZ vals i=mixZ vals (i+1):=by
 rw[← mixZ_set h,hz]
 exact (set_same (mixZ_get h)).symm
theorem meanW_ok (s:Bool) (d:Int) (aims:List Am) (ix:Nat) (a:Am) (ha:aims[ix]? = some a) (hO:AOk d a.beds) (vals:List Int) (hv:vals.length=a.beds.length) (hV:∀ x∈vals,VOk x) (j:Nat) (hj:j≤a.beds.length)
 (hb:∀ k,k<j→badA a.beds d vals k=false) (hbj:j<a.beds.length→badA a.beds d vals j=true) :
 MCalls Tryz.prog 154 [(1000,.arr 3 1 (arrV vals))] [(1000,.arr 3 1 (arrV (mixZ vals j)))] [.r (.bo s),.r (lawV d aims),.r (i64 (ix:Int)),.os 1000 0 1 0 vals.length] (.r (i64 (if j<a.beds.length then 2000000000 else meanZ s d a.beds (vals.map zN)))):=by
 obtain⟨at_,l⟩:=a
 simp only at *
 have hal:ix<aims.length:=(List.getElem?_eq_some_iff.1 ha).1
 have hd:=hO.d1
 have hlen:=hO.len
 have hs:=hO.small
 refine mcalls_st (n:=115) (rs:=[.r (i64 (if j<l.length then 2000000000 else meanZ s d l (vals.map zN)))]) _ _ [.tmp 8] Tryz.func154 rfl (by kernel_rfl) Tryz.ntmps154 rfl (by simp) rfl rfl fun C=>?_
 apply zq
 refine zb fun K hK=>?_;simp only[go_sem];apply hK;refine zw (zfP 4 4 [.bo s] (by omega) rfl rfl) ?_;refine zw (zfP 5 5 [i64 d,aimsR aims] (by omega) rfl rfl) ?_;apply zw (zk [2,4,5,7]);simp only[go_sem]
 apply zq
 refine zg follows (by decide +kernel) (by kernel_rfl) fun K hK=>?_;simp only[go_sem,ha,hal,aimR];apply hK;apply zw (zk [4,5,7,9,10,11]);simp only[go_sem]
 apply zq
 refine zb fun K hK=>?_;simp only[go_sem,hv]
 intro _
 refine⟨by omega,?_⟩
 apply hK;apply zw (zk [4,5,7,9,10,11,12]);simp only[go_sem]
 repeat apply zq
 refine zb fun K hK=>?_;simp only[go_sem]
 intro _
 apply hK;apply zw (zk [4,5,7,9,10,11,12,30,31,32]);simp only[go_sem];apply zd
 refine awp_upto0 (n:=115) l.length (fun i vs=>[(4,.r (.rp [.bo s])),(5,.r (.rp [i64 d,aimsR aims])),(7,.pt 7 (vs 7) 0),(9,.r (bedsR l)),(10,.r (i64 (d-loS (l.take i)))),(11,.r (i64 (dotV ((l.take i).map (·.lo)) ((vals.take i).map zN)))),(12,.os 29 (vs 29) 1 0 l.length),(30,.r (bedsR l)),(31,.r (i64 l.length)),(32,.r (i64 i))])
  (fun i=>[(7,.box [.os 1000 0 1 0 l.length]),(29,.arr 3 1 (idx (List.range i)++List.replicate (l.length-i) [i64 0])),(1000,.arr 3 1 (arrV (mixZ vals i)))]) (fun i=>i≤j) 0 (fit0_of [4,5] (by intro j hj;simp only[upd];(repeat' split);all_goals first|rfl|omega) ?_ ?_) (Nat.zero_le _) (Nat.zero_le _) ?_
 ·try simp only[go_sem]
  simp [loS,dotV]
 ·try simp only[go_sem]
  simp
 ·intro i vs hvl hi hij
  have hv0:=hvl 1000 (by omega)
  have hil:(mixZ vals i).length=l.length:=by rw[mixZ_len,hv]
  apply zq
  refine zb fun K hK=>?_;simp only[go_sem];apply hK;apply zw (zk [4,5,7,9,10,11,12,30,31,32,33]);simp only[go_sem]
  apply zq
  apply zc rfl<;>intro hc<;>(try simp only[go_sem] at hc)
  ·have hci:=hc
   obtain⟨x,hx⟩:=zol hci
   obtain⟨v,hxv⟩:=zol (l:=vals) (i:=i) (by omega)
   have hvv:=hV v (zmo hxv)
   have hmg:=mixZ_get hxv
   obtain⟨⟨x1,x2⟩,x3,x4⟩:=hs x (zmo hx)
   have hsub:=sums_le (hs.take (i+1))
   have hsub0:=sums_le (hs.take i)
   have htl:((l.take (i+1)).length:Int)≤20:=by rw[List.length_take];omega
   have htl0:((l.take i).length:Int)≤20:=by rw[List.length_take];omega
   have hlo:loS (l.take (i+1))=loS (l.take i)+x.lo:=by rw[zto hx,loS_snoc]
   have hdv:dotV ((l.take (i+1)).map (·.lo)) ((vals.take (i+1)).map zN)=dotV ((l.take i).map (·.lo)) ((vals.take i).map zN)+x.lo*zN v:=by
    rw[zto hx,zto hxv,List.map_append,List.map_append]
    exact dotV_snoc (by simp;omega)
   have hz:=zN_ok hvv
   have hdb:0≤dotV ((l.take i).map (·.lo)) ((vals.take i).map zN)∧dotV ((l.take i).map (·.lo)) ((vals.take i).map zN)≤loS (l.take i)*1000000000 :=
    dotV_le (fun y hy=>by obtain⟨c,hc,rfl⟩:=List.mem_map.1 hy;exact (hO.each c (List.mem_of_mem_take hc)).1) (fun y hy=>by obtain⟨c,hc,rfl⟩:=List.mem_map.1 hy;exact zN_ok (hV c (List.mem_of_mem_take hc))) (by omega)
   have hp0:=Int.mul_nonneg x1 hz.1
   have hp1:x.lo*zN v≤6000*1000000000:=Int.mul_le_mul x2 hz.2 hz.1 (by omega)
   rw[hlo] at hsub
   apply zx
   try simp only[go_sem]
   apply zq
   apply zd
   apply zq
   refine zb fun K hK=>?_;simp only[go_sem,hx,hci,bedR];apply hK;refine zw (zfP 14 14 [i64 x.b,i64 x.lo,i64 x.hi] (by omega) rfl rfl) ?_;apply zw (zk [4,5,7,9,10,11,12,13,14,30,31,32]);simp only[go_sem]
   repeat apply zq
   refine zb fun K hK=>?_;simp only[go_sem,hv0,hmg,hil,hci,hv];apply hK;apply zw (zk [4,5,7,9,10,11,12,13,14,30,31,32,41]);simp only[go_sem]
   have hcan:=can_ok l i d hci (by omega) hs (by omega)
   have hbad:badA l d vals i=(decide (v=2000000000)&&decide (0<canA l i d)):=by unfold badA;rw[List.getD_eq_getElem?_getD,hxv];rfl
   have hlt:badA l d vals i=false→i<j:=fun h=>by
    by_cases e:i=j
    ·have:=hbj (by omega)
     rw[← e,h] at this;cases this
    ·omega
   have heq:badA l d vals i=true→i=j:=fun h=>by
    by_cases e:i<j
    ·have:=hb i e
     rw[h] at this;cases this
    ·omega
   have hms:=mixZ_set hxv
   refine awp_join0 (n:=115) (fun (_:Unit) vs=>[(4,.r (.rp [.bo s])),(5,.r (.rp [i64 d,aimsR aims])),(7,.pt 7 (vs 7) 0),(9,.r (bedsR l)),(10,.r (i64 (d-loS (l.take i)))),(11,.r (i64 (dotV ((l.take i).map (·.lo)) ((vals.take i).map zN)))),(12,.os 29 (vs 29) 1 0 l.length),(13,.r (i64 i)),(14,.r (.rp [i64 x.b,i64 x.lo,i64 x.hi])),(30,.r (bedsR l)),(31,.r (i64 l.length)),(32,.r (i64 i))])
    (fun _=>[(7,.box [.os 1000 0 1 0 l.length]),(29,.arr 3 1 (idx (List.range i)++List.replicate (l.length-i) [i64 0])),(1000,.arr 3 1 (arrV (mixZ vals (i+1))))]) (fun _=>i<j) (fun _ h=>h) ?_ ?_
   ·by_cases hN:v=2000000000
    ·have eN:(v == 2000000000)=true:=by simpa using hN
     rw[eN]
     apply zc rfl<;>intro hc<;>(try simp only[go_sem] at hc)
     repeat apply zq
     refine zb fun K hK=>?_;simp only[go_sem]
     refine zh (hcan) rfl (by simp only[go_sem,i64,ints]) (by simp only[go_sem,i64,ints]) ?_
     (try simp only[go_sem]);apply hK;apply zw (zk [4,5,7,9,10,11,12,13,14,30,31,32,47]);simp only[go_sem]
     apply zc rfl<;>intro hc<;>(try simp only[go_sem] at hc)
     ·have hj':=heq (by rw[hbad];simp [hN,hc])
      apply zq
      refine zb fun K hK=>?_;simp only[go_sem];apply hK;apply zw (zk [8]);simp only[go_sem]
      subst hj'
      rw[if_pos hci]
      apply ze;simp only[go_sem]
     ·have hlt':=hlt (by rw[hbad];simp [hc])
      apply zx
      try simp only[go_sem]
      have hzv:zN v=0:=by unfold zN;rw[if_pos hN]
      rw[hzv] at hms
      refine zb fun K hK=>?_;simp only[go_sem,hv0,hmg,hil,hci,hv];apply hK
      refine⟨(),hlt',fit0_of [] (by intro j hj;(try simp only[upd]);(repeat' split);all_goals first|rfl|omega|exact hvl _ hj) ?_ ?_⟩
      ·try simp only[go_sem]
      ·try simp only[go_sem]
       rw[← hms,arrV_set]
    ·have eN:(v == 2000000000)=false:=by simpa using hN
     have hlt':=hlt (by rw[hbad];simp [hN])
     have hzs:zN v=v:=by unfold zN;rw[if_neg hN]
     have hsm:=mixZ_same hxv hzs
     rw[eN]
     apply zc rfl<;>intro hc<;>(try simp only[go_sem] at hc)
     apply zx
     try simp only[go_sem]
     refine⟨(),hlt',fit0_of [] (by intro j hj;(try simp only[upd]);(repeat' split);all_goals first|rfl|omega|exact hvl _ hj) ?_ ?_⟩
     ·try simp only[go_sem]
     ·try simp only[go_sem]
      rw[hsm]
   intro _ vs hvl hlt'
   have hv0:=hvl 1000 (by omega)
   have hmz:(mixZ vals (i+1))[i]? = some (zN v):=by
    rw[← hms,List.getElem?_set_self (by omega)]
   have hilz:(mixZ vals (i+1)).length=l.length:=by rw[mixZ_len,hv]
   have g1:(idx (List.range i)).length=i:=by simp
   have r1:=rep_at (z:=[i64 0]) g1 hci
   have r3:=rep_len (z:=[i64 0]) g1 hci
   have r5:=fun v=>rep_set (z:=[i64 0]) (v:=v) g1 hci
   refine awp_dreg2 [(7,some 7),(12,some 29),(10,none),(11,none),(13,none),(14,none)] follows (by decide +kernel) (by kernel_rfl) (by simp only[keysOk,List.mem_cons,List.not_mem_nil,forall_eq_or_imp,Oc.keyOf,go_sem];simp) fun K hK=>?_
   simp only[go_sem,hv0,hmz,hilz,hci,r1,r3,r5];(try simp (disch:=omega) only[zI]);apply hK;apply zw (zk [4,5,7,9,10,11,12,30,31,32]);simp only[go_sem];refine zb fun K hK=>?_;simp only[go_sem];(try simp (disch:=omega) only[zI]);apply hK
   try simp only[go_sem]
   refine⟨hci,hlt',fit0_of [] (by intro j hj;(try simp only[upd]);(repeat' split);all_goals first|rfl|omega|exact hvl _ hj) ?_ ?_⟩
   ·simp only[go_sem,hlo,hdv]
    omega
   ·try simp only[go_sem]
    have hr:List.range (i+1)=List.range i++[i]:=List.range_succ
    simp only[hr,List.map_append,List.map_cons,List.map_nil]
  ·have hii:i=l.length:=by omega
   subst hii
   have hjl:j=l.length:=by omega
   subst hjl
   have e1:idx (List.range l.length)++List.replicate (l.length-l.length) [i64 0]=idx (List.range l.length):=by simp
   have e3:l.take l.length=l:=List.take_length
   have e4:mixZ vals l.length=vals.map zN:=by unfold mixZ;rw[← hv,List.take_length,List.drop_length,List.append_nil]
   have e5:(vals.take l.length).map zN=vals.map zN:=by rw[← hv,List.take_length]
   rw[e1,e3,e4,e5,if_neg (Nat.lt_irrefl _)]
   obtain⟨z,hz⟩:∃ z,z=vals.map zN:=⟨_,rfl⟩
   have hzl:z.length=l.length:=by rw[hz,List.length_map,hv]
   have hzb:∀ x∈z,0≤x∧x≤1000000000:=fun x hx=>by
    rw[hz] at hx
    obtain⟨v,hv,rfl⟩:=List.mem_map.1 hx
    exact zN_ok (hV v hv)
   rw[← hz]
   have hsort:=sortV_ok (keyLt (cmO s) z) (cmpS s z) s z (List.range l.length) (by rw[List.length_range];have:=List.length_pos_iff.2 hO.ne;omega)
    (fun x y=>by cases s<;>simp [keyLt,cmpS,cmO,List.getD])
    (fun x hx y hy=>cmpS_ok s z x y (by rw[hzl];exact List.mem_range.1 hx) (by rw[hzl];exact List.mem_range.1 hy))
   rw[List.length_range] at hsort
   obtain⟨S,hS⟩:∃ S,S=sortN (keyLt (cmO s) z) (List.range l.length):=⟨_,rfl⟩
   rw[← hS] at hsort
   have hSl:S.length=l.length:=by rw[hS,sortN_len,List.length_range]
   have hSm:∀ i∈S,i<l.length:=fun i hi=>by rw[hS,mem_sortN,List.mem_range] at hi;exact hi
   apply zf;simp only[go_sem]
   apply zq
   refine zb fun K hK=>?_;simp only[go_sem]
   refine xcall_mut (hsort) [(1000,29),(1001,7),(1002,1000)] rfl (by simp only[go_sem,i64,ints,hv0,hzl]) (by simp only[go_sem,i64,ints,hv0,hzl]) (by rfl) (by rfl) ?_
   (try simp only[go_sem,hv0,hzl]);apply hK;apply zw (zk [4,5,7,9,10,11,12]);simp only[go_sem]
   have hsum:=sum_fill s d l z hzl
   rw[← hS] at hsum
   have hst:FOk (d-loS l,dotV (l.map (·.lo)) z):=by
    have h1:=dotV_le (xs:=l.map (·.lo)) (ys:=z) (M:=1000000000) (fun y hy=>by obtain⟨c,hc,rfl⟩:=List.mem_map.1 hy;exact (hO.each c hc).1) hzb (by omega)
    have h2:(l.map (·.lo)).sum=loS l:=rfl
    rw[h2] at h1
    have h3:=(sums_le hs).1.1
    have h4:=hO.lo
    exact⟨⟨by simp only;omega,by simp only;omega⟩,by simp only;omega,by simp only;omega⟩
   have hpv:∀ k,k<l.length→0≤(pvO l z k).1∧0≤(pvO l z k).2∧(pvO l z k).2≤1000000000:=fun k hk=>by
    obtain⟨c,hc⟩:=zol hk
    have e:bAt l k=c:=by simp [bAt,List.getD,hc]
    have h1:=hO.each c (zmo hc)
    obtain⟨y,hy⟩:=zol (l:=z) (i:=k) (by omega)
    have h2:=hzb y (zmo hy)
    have e2:z.getD k 0=y:=by simp [List.getD,hy]
    simp only[pvO,e,e2]
    omega
   obtain⟨x0,hx0⟩:∃ x0,x0=(d-loS l,dotV (l.map (·.lo)) z):=⟨_,rfl⟩
   have hx01:d-loS l=x0.1:=by rw[hx0]
   have hx02:dotV (l.map (·.lo)) z=x0.2:=by rw[hx0]
   rw[← hx0] at hst hsum
   rw[hx01,hx02]
   repeat apply zq
   refine zb fun K hK=>?_;simp only[go_sem]
   intro _
   apply hK;apply zw (zk [4,5,7,9,10,11,74,75,76]);simp only[go_sem];apply zd
   refine awp_upto0 (n:=115) l.length (fun i vs=>[(4,.r (.rp [.bo s])),(5,.r (.rp [i64 d,aimsR aims])),(7,.pt 7 (vs 7) 0),(9,.r (bedsR l)),(10,.r (i64 (fillP ((S.take i).map (pvO l z)) x0).1)),(11,.r (i64 (fillP ((S.take i).map (pvO l z)) x0).2)),(74,.os 29 (vs 29) 1 0 l.length),(75,.r (i64 l.length)),(76,.r (i64 i))])
    (fun i=>[(7,.box [.os 1000 0 1 0 l.length]),(29,.arr 3 1 (idx S)),(1000,.arr 3 1 (arrV z))]) (fun _=>True) 0 (fit0_of [] (by intro j hj;(try simp only[upd]);(repeat' split);all_goals first|rfl|omega|exact hvl _ hj) ?_ ?_) (Nat.zero_le _) trivial ?_
   ·try simp only[go_sem]
    try simp [fillP]
   ·try simp only[go_sem]
    try simp [hzl]
   ·intro q vs hvl hq _
    have hv0:=hvl 1000 (by omega)
    apply zq
    refine zb fun K hK=>?_;simp only[go_sem];apply hK;apply zw (zk [4,5,7,9,10,11,74,75,76,77]);simp only[go_sem]
    apply zq
    apply zc rfl<;>intro hc<;>(try simp only[go_sem] at hc)
    ·have hci:=hc
     obtain⟨k,hk⟩:=zol (l:=S) (i:=q) (by omega)
     have hkl:=hSm k (zmo hk)
     obtain⟨c,hcb⟩:=zol hkl
     obtain⟨y,hy⟩:=zol (l:=z) (i:=k) (by omega)
     have hkz:k<z.length:=by omega
     have e:bAt l k=c:=by simp [bAt,List.getD,hcb]
     have e2:z.getD k 0=y:=by simp [List.getD,hy]
     have hp:=hpv k hkl
     have hF:=fOk_all (l:=(S.take q).map (pvO l z)) (x:=x0) (fun c hc=>by
      obtain⟨i,hi,rfl⟩:=List.mem_map.1 hc
      exact hpv i (hSm i (List.mem_of_mem_take hi))) hst
     have hsn:fillP ((S.take (q+1)).map (pvO l z)) x0=((fillP ((S.take q).map (pvO l z)) x0).1-min (fillP ((S.take q).map (pvO l z)) x0).1 (c.hi-c.lo),(fillP ((S.take q).map (pvO l z)) x0).2+min (fillP ((S.take q).map (pvO l z)) x0).1 (c.hi-c.lo)*y):=by
      rw[zto hk,List.map_append,List.map_cons,List.map_nil,fillP_snoc]
      simp only[pvO,e,e2]
     rw[hsn]
     simp only[pvO,e,e2] at hp
     generalize fillP ((S.take q).map (pvO l z)) x0=F at *
     have hstp:=fOk_step (c:=(c.hi-c.lo,y)) hF hp.1 hp.2
     simp only at hstp
     generalize hm:min F.1 (c.hi-c.lo)=m at *
     have hcs:=hs c (zmo hcb)
     apply zx
     try simp only[go_sem]
     apply zq
     apply zd
     apply zq
     refine zb fun K hK=>?_;simp only[go_sem,hk,hci,hSl];apply hK;apply zw (zk [4,5,7,9,10,11,16,74,75,76]);simp only[go_sem]
     apply zq
     refine zb fun K hK=>?_;simp only[go_sem,hcb,hkl,bedR];apply hK;refine zw (zfP 17 17 [i64 c.lo,i64 c.hi] (by omega) rfl rfl) ?_;apply zw (zk [4,5,7,9,10,11,16,17,74,75,76]);simp only[go_sem]
     have wd:IntKind.i64.wrap (c.hi-c.lo)=c.hi-c.lo:=by rw[zI]<;>omega
     apply zq
     refine zb fun K hK=>?_;simp only[go_sem,wd,hm];apply hK;apply zw (zk [4,5,7,9,10,11,16,18,74,75,76]);simp only[go_sem]
     have wm:IntKind.i64.wrap (F.1-m)=F.1-m:=by rw[zI]<;>omega
     have wt:IntKind.i64.wrap (m*y)=m*y:=by rw[zI]<;>omega
     have ws:IntKind.i64.wrap (F.2+m*y)=F.2+m*y:=by rw[zI]<;>omega
     refine awp_dreg2 [(7,some 7),(10,none),(11,none),(16,none),(18,none)] follows (by decide +kernel) (by kernel_rfl) (by simp only[keysOk,List.mem_cons,List.not_mem_nil,forall_eq_or_imp,Oc.keyOf,go_sem];simp) fun K hK=>?_
     simp only[go_sem,hv0,hy,hkz,wm,wt,ws]
     refine⟨by omega,?_⟩
     apply hK;apply zw (zk [4,5,7,9,10,11,74,75,76]);simp only[go_sem];refine zb fun K hK=>?_;simp only[go_sem];(try simp (disch:=omega) only[zI]);apply hK
     try simp only[go_sem]
     refine⟨hci,fit0_of [] (by intro j hj;(try simp only[upd]);(repeat' split);all_goals first|rfl|omega|exact hvl _ hj) ?_ ?_⟩
     ·try simp only[go_sem]
     ·try simp only[go_sem]
    ·have hql:q=l.length:=by omega
     subst hql
     have e4:S.take l.length=S:=List.take_of_length_le (by omega)
     have hF:=fOk_all (l:=S.map (pvO l z)) (x:=x0) (fun c hc=>by
      obtain⟨i,hi,rfl⟩:=List.mem_map.1 hc
      exact hpv i (hSm i hi)) hst
     rw[e4,← hsum]
     obtain⟨⟨hFl,_⟩,hF0,hF1⟩:=hF
     rw[← hsum] at hF0 hF1
     rw[meanZ_sum]
     have hX1:sumS s d l z≤6000000000000:=by omega
     clear hF1
     generalize sumS s d l z=X at *
     apply zf;simp only[go_sem]
     repeat apply zq
     refine zb fun K hK=>?_;simp only[go_sem];apply hK;apply zw (zk [5,11,105]);simp only[go_sem]
     refine awp_join0 (n:=115) (fun (_:Unit) vs=>[(5,.r (.rp [i64 d,aimsR aims])),(11,.r (i64 (if s=true then X else X+(d-1))))]) (fun _=>[(7,.box [.os 1000 0 1 0 l.length]),(29,.arr 3 1 (idx S)),(1000,.arr 3 1 (arrV z))]) (fun _=>True) (fun _ h=>h) ?_ ?_
     ·cases s
      ·skip
       apply zc rfl<;>intro hc<;>(try simp only[go_sem] at hc)
       ·skip
        refine zb fun K hK=>?_;simp only[go_sem];(try simp (disch:=omega) only[zI]);apply hK
        refine⟨(),trivial,fit0_of [] (by intro j hj;(try simp only[upd]);(repeat' split);all_goals first|rfl|omega|exact hvl _ hj) ?_ ?_⟩
        ·try simp only[go_sem]
        ·try simp only[go_sem]
       ·exact absurd rfl hc
      ·have hss:=(rfl:true=true)
       apply zc rfl<;>intro hc<;>(try simp only[go_sem] at hc)
       apply zx
       try simp only[go_sem]
       refine⟨(),fit0_of [] (by intro j hj;(try simp only[upd]);(repeat' split);all_goals first|rfl|omega|exact hvl _ hj) ?_ ?_⟩
       ·try simp only[go_sem]
       ·try simp only[go_sem]
     intro _ vs hvl _
     have hX0:0≤(if s=true then X else X+(d-1))∧(if s=true then X else X+(d-1))≤7000000000000:=by split<;>omega
     generalize (if s=true then X else X+(d-1))=Y at *
     have eq1:Int.tdiv Y d=Y / d:=Int.tdiv_eq_ediv_of_nonneg hX0.1
     have hq0:0≤Y / d:=Int.ediv_nonneg hX0.1 (by omega)
     have hq1:Y / d≤Y:=Int.ediv_le_self d hX0.1
     have wq:IntKind.i64.wrap (Y / d)=Y / d:=by rw[zI]<;>omega
     apply zq
     refine zb fun K hK=>?_;simp only[go_sem,eq1,wq]
     refine⟨by omega,?_⟩
     apply hK;apply zw (zk [8]);simp only[go_sem];apply ze;simp only[go_sem]
structure Rk where
 d:Int
 aims:List Am
 start:Int
 out:Int
structure ROk (r:Rk):Prop where
 aims:∀ a∈r.aims,AOk r.d a.beds
 ne:r.aims≠[]
 len:r.aims.length≤20
 start:2≤r.start∧r.start≤60
 out:0≤r.out∧r.out≤2
theorem lowG_le (g:Int):1≤lowG g∧lowG g≤2:=by unfold lowG;split<;>omega
theorem score_nn {b:Int}(h:0≤b∧b≤499):0≤scoreOf b∧scoreOf b≤396:=by
 have h1:0≤b / 100∧b / 100≤4:=by omega
 have h2:0≤b % 100∧b % 100≤99:=by omega
 have h3:=Int.mul_nonneg h1.1 h2.1
 have h4:=Int.mul_le_mul h1.2 h2.2 h2.1 (show (0:Int)≤4 by omega)
 unfold scoreOf;omega
def nextA (out own left:Int) (f:Int→Int) (b:Int):Int :=
 if (decide (left-scoreOf b=0)&&opA out b)=true then 0 else if left-scoreOf b<lowG out then own else f (left-scoreOf b)
def meanA (r:Rk) (s:Bool) (own left:Int) (f:Int→Int) (a:Am):Int:=meanS s r.d a.beds (a.beds.map fun b=>nextA r.out own left f b.b)
def leastA (l:List Int):Int:=l.foldl min 2000000000
def valA (r:Rk) (s:Bool) (nums:List Int) (own:Int):Nat→Int→Int
 | 0,left=>nums.getD left.toNat 0
 | k+1,left=>leastA (r.aims.map (meanA r s own left (valA r s nums own k)))
theorem foldl_min:∀ (l:List Int) (m:Int),l.foldl min m≤m∧(∀ x∈l,l.foldl min m≤x)∧(l.foldl min m=m∨l.foldl min m∈l)
 | [],m=>⟨Int.le_refl _,by simp,by simp⟩
 | y::l, m=>by
   obtain⟨h1,h2,h3⟩:=foldl_min l (min m y)
   simp only[List.foldl_cons]
   refine⟨by omega,fun x hx=>?_,?_⟩
   ·rcases List.mem_cons.1 hx with rfl|hx
    ·omega
    ·exact h2 x hx
   ·rcases h3 with h3|h3
    ·rw[h3]
     by_cases h:m≤y
     ·left;omega
     ·right;simp;left;omega
    ·right;simp [h3]
theorem leastA_vok {l:List Int}(h:∀ x∈l,VOk x):VOk (leastA l):=by
 obtain⟨_,_,h3⟩:=foldl_min l 2000000000
 rcases h3 with h3|h3
 ·exact .inr h3
 ·exact h _ h3
theorem nextA_vok {out own left:Int}{f:Int→Int}(ho:VOk own) (hf:∀ x,VOk (f x)) (b:Int):VOk (nextA out own left f b):=by
 unfold nextA
 split
 ·exact .inl ⟨by omega,by omega⟩
 ·split
  ·exact ho
  ·exact hf _
theorem meanA_vok {r:Rk}{s:Bool}{own left:Int}{f:Int→Int}(ho:VOk own) (hf:∀ x,VOk (f x)) {a:Am}(ha:AOk r.d a.beds):VOk (meanA r s own left f a) :=
 meanS_vok s ha fun x hx=>by
  obtain⟨b,_,rfl⟩:=List.mem_map.1 hx
  exact nextA_vok ho hf _
theorem getD_vok {nums:List Int}(h:∀ x∈nums,VOk x) (i:Nat):VOk (nums.getD i 0):=by
 rw[List.getD_eq_getElem?_getD]
 cases e:nums[i]? with
 | none=>exact .inl ⟨by simp,by simp⟩
 | some x=>exact h x (List.mem_of_getElem? e)
theorem valA_vok {r:Rk}(hr:ROk r) {s:Bool}{nums:List Int}{own:Int}(hn:∀ x∈nums,VOk x) (ho:VOk own):∀ k left,VOk (valA r s nums own k left)
 | 0,left=>getD_vok hn _
 | k+1, left=>leastA_vok fun x hx=>by
   obtain⟨a,ha,rfl⟩:=List.mem_map.1 hx
   exact meanA_vok ho (valA_vok hr hn ho k) (hr.aims a ha)
theorem valA_le {r:Rk}(hr:ROk r) {s:Bool}{nums:List Int}{own:Int}(hn:∀ x∈nums,VOk x) (ho:VOk own) (k:Nat) (left:Int):0≤valA r s nums own k left∧valA r s nums own k left≤2000000000:=by
 have:=valA_vok hr (s:=s) hn ho k left
 unfold VOk at this;omega
abbrev Mf:=Int→List Int→Int × List Int
def nextM (out own left:Int) (f:Mf) (b:Int) (K:List Int):Int × List Int :=
 if (decide (left-scoreOf b=0)&&opA out b)=true then (0,K) else if left-scoreOf b<lowG out then (own,K) else f (left-scoreOf b) K
def bedsM (out own left:Int) (f:Mf):List Bd→List Int→List Int × List Int
 | [],K=>([],K)
 | b::l,K=>((nextM out own left f b.b K).1::(bedsM out own left f l (nextM out own left f b.b K).2).1,(bedsM out own left f l (nextM out own left f b.b K).2).2)
theorem bedsM_snoc (out own left:Int) (f:Mf):∀ (l:List Bd) (b:Bd) (K:List Int),bedsM out own left f (l++[b]) K =
 ((bedsM out own left f l K).1++[(nextM out own left f b.b (bedsM out own left f l K).2).1],(nextM out own left f b.b (bedsM out own left f l K).2).2)
 | [],b,K=>by simp [bedsM]
 | c::l, b, K=>by
   simp only[List.cons_append,bedsM];rw[bedsM_snoc out own left f l b]
theorem bedsM_len (out own left:Int) (f:Mf):∀ (l:List Bd) (K:List Int),(bedsM out own left f l K).1.length=l.length
 | [],K=>rfl
 | c::l,K=>by simp only[bedsM,List.length_cons];rw[bedsM_len out own left f l]
def meanM (r:Rk) (s:Bool) (own left:Int) (f:Mf) (a:Am) (K:List Int):Int × List Int :=
 (meanS s r.d a.beds (bedsM r.out own left f a.beds K).1,(bedsM r.out own left f a.beds K).2)
def aimsM (r:Rk) (s:Bool) (own left:Int) (f:Mf):List Am→List Int→List Int × List Int
 | [],K=>([],K)
 | b::l,K=>((meanM r s own left f b K).1::(aimsM r s own left f l (meanM r s own left f b K).2).1,(aimsM r s own left f l (meanM r s own left f b K).2).2)
theorem aimsM_snoc (r:Rk) (s:Bool) (own left:Int) (f:Mf):∀ (l:List Am) (b:Am) (K:List Int),aimsM r s own left f (l++[b]) K =
 ((aimsM r s own left f l K).1++[(meanM r s own left f b (aimsM r s own left f l K).2).1],(meanM r s own left f b (aimsM r s own left f l K).2).2)
 | [],b,K=>by simp [aimsM]
 | c::l, b, K=>by
   simp only[List.cons_append,aimsM];rw[aimsM_snoc r s own left f l b]
theorem aimsM_len (r:Rk) (s:Bool) (own left:Int) (f:Mf):∀ (l:List Am) (K:List Int),(aimsM r s own left f l K).1.length=l.length
 | [],K=>rfl
 | c::l,K=>by simp only[aimsM,List.length_cons];rw[aimsM_len r s own left f l]
def ixK (k:Nat) (left:Int):Nat:=61*k+left.toNat
def valM (r:Rk) (s:Bool) (nums:List Int) (own:Int):Nat→Mf
 | 0,left,K=>(nums.getD left.toNat 0,K)
 | k+1, left, K=>if 0<K.getD (ixK (k+1) left) 0 then (K.getD (ixK (k+1) left) 0-1, K) else
     (leastA (aimsM r s own left (valM r s nums own k) r.aims K).1,
      (aimsM r s own left (valM r s nums own k) r.aims K).2.set (ixK (k+1) left) (leastA (aimsM r s own left (valM r s nums own k) r.aims K).1+1))
structure OkK (r:Rk) (s:Bool) (nums:List Int) (own:Int) (K:List Int):Prop where
 len:K.length=244
 at_:∀ k left:Nat,k≤3→left≤60→K.getD (61*k+left) 0=0∨K.getD (61*k+left) 0=valA r s nums own k left+1
theorem okK_zero (r:Rk) (s:Bool) (nums:List Int) (own:Int):OkK r s nums own (List.replicate 244 0) :=
 ⟨by simp,fun k left _ _=>.inl (by rw[List.getD_eq_getElem?_getD,List.getElem?_replicate];split<;>rfl)⟩
def MfOk (r:Rk) (s:Bool) (nums:List Int) (own:Int) (most:Int) (f:Mf) (g:Int→Int):Prop :=
 ∀ left K,lowG r.out≤left→left≤most→OkK r s nums own K→(f left K).1=g left∧OkK r s nums own (f left K).2
theorem nextM_ok {r:Rk}{s:Bool}{nums:List Int}{own left:Int}{f:Mf}{g:Int→Int}(hf:MfOk r s nums own left f g) {b:Int}(hb:0≤b∧b≤499) {K:List Int}(hK:OkK r s nums own K) :
 (nextM r.out own left f b K).1=nextA r.out own left g b∧OkK r s nums own (nextM r.out own left f b K).2:=by
 have hs:=score_nn hb
 unfold nextM nextA
 split
 ·exact⟨rfl,hK⟩
 ·split
  ·exact⟨rfl,hK⟩
  ·exact hf _ _ (by omega) (by omega) hK
theorem bedsM_ok {r:Rk}{s:Bool}{nums:List Int}{own left:Int}{f:Mf}{g:Int→Int}(hf:MfOk r s nums own left f g):∀ (l:List Bd) (K:List Int),(∀ b∈l,0≤b.b∧b.b≤499)→OkK r s nums own K →
 (bedsM r.out own left f l K).1=l.map (fun b=>nextA r.out own left g b.b)∧OkK r s nums own (bedsM r.out own left f l K).2
 | [],K,_,hK=>⟨rfl,hK⟩
 | b::l, K, hb, hK=>by
   obtain⟨h1,h2⟩:=nextM_ok hf (hb b (by simp)) hK
   obtain⟨h3,h4⟩:=bedsM_ok hf l _ (fun c hc=>hb c (by simp [hc])) h2
   simp only[bedsM,List.map_cons];exact⟨by rw[h1,h3],h4⟩
theorem aimsM_ok {r:Rk}{s:Bool}{nums:List Int}{own left:Int}{f:Mf}{g:Int→Int}(hf:MfOk r s nums own left f g):∀ (l:List Am) (K:List Int),(∀ a∈l,AOk r.d a.beds)→OkK r s nums own K →
 (aimsM r s own left f l K).1=l.map (meanA r s own left g)∧OkK r s nums own (aimsM r s own left f l K).2
 | [],K,_,hK=>⟨rfl,hK⟩
 | a::l, K, ha, hK=>by
   obtain⟨h1,h2⟩:=bedsM_ok hf a.beds K (ha a (by simp)).bed hK
   obtain⟨h3,h4⟩:=aimsM_ok hf l _ (fun c hc=>ha c (by simp [hc])) h2
   simp only[aimsM,List.map_cons]
   refine⟨?_,h4⟩
   have e:(meanM r s own left f a K).1=meanA r s own left g a:=by unfold meanM meanA;rw[h1]
   have h3':(aimsM r s own left f l (meanM r s own left f a K).2).1=l.map (meanA r s own left g):=h3
   rw[e,h3']
theorem valM_ok {r:Rk}(hr:ROk r) {s:Bool}{nums:List Int}{own:Int}(hn:∀ x∈nums,VOk x) (ho:VOk own):∀ k,k≤3→MfOk r s nums own 60 (valM r s nums own k) (valA r s nums own k)
 | 0,_=>fun left K _ _ hK=>⟨rfl,hK⟩
 | k+1, hk=>fun left K h1 h2 hK=>by
   have hl:=lowG_le r.out
   have ih:=valM_ok hr (s:=s) hn ho k (by omega)
   obtain⟨n,rfl⟩:∃ n:Nat,left=n:=⟨left.toNat,by omega⟩
   have hix:ixK (k+1) (n:Int)=61*(k+1)+n:=by simp [ixK]
   have hv:=valA_le hr (s:=s) hn ho (k+1) n
   have hat:=hK.at_ (k+1) n hk (by omega)
   simp only[valM,hix]
   split
   ·rename_i hp
    rcases hat with h|h
    ·omega
    ·exact⟨by simp only;omega,hK⟩
   ·obtain⟨g1,g2⟩:=aimsM_ok (left:=n) (fun left' K' q1 q2 q3=>ih left' K' q1 (by omega) q3) r.aims K hr.aims hK
    have e:leastA (aimsM r s own n (valM r s nums own k) r.aims K).1=valA r s nums own (k+1) n:=by rw[g1];rfl
    rw[e]
    refine⟨rfl,by simp [g2.len],fun k' l' hk' hl'=>?_⟩
    by_cases he:61*(k+1)+n=61*k'+l'
    ·have e1:k'=k+1:=by omega
     have e2:l'=n:=by omega
     subst e1 e2
     right
     rw[List.getD_eq_getElem?_getD,List.getElem?_set_self (by rw[g2.len];omega)]
     rfl
    ·have:=g2.at_ k' l' hk' hl'
     rw[List.getD_eq_getElem?_getD,List.getElem?_set_ne he,← List.getD_eq_getElem?_getD]
     exact this
def LeV (c u v:Int):Prop:=v≠2000000000→u≤v+c∧u≠2000000000
theorem nextA_le {out own own' left:Int}{f g:Int→Int}{c:Int}(hc:0≤c) (ho:LeV c own own') (hf:∀ x,lowG out≤x→x≤left→LeV c (f x) (g x)) {b:Int}(hb:0≤b∧b≤499):LeV c (nextA out own left f b) (nextA out own' left g b):=by
 have hs:=score_nn hb
 unfold nextA
 split
 ·intro _;exact⟨by omega,by decide⟩
 ·split
  ·exact ho
  ·exact hf _ (by omega) (by omega)
theorem meanA_le {r:Rk}{s:Bool}{own own' left:Int}{f g:Int→Int}{c:Int}(hc:0≤c∧c≤100000000) (ho:LeV c own own') (hf:∀ x,lowG r.out≤x→x≤left→LeV c (f x) (g x)) (vo:VOk own) (vo':VOk own') (vf:∀ x,VOk (f x)) (vg:∀ x,VOk (g x)) {a:Am}(ha:AOk r.d a.beds) :
 LeV c (meanA r s own left f a) (meanA r s own' left g a):=fun hN=>by
 have h1:=meanA_vok (s:=s) (left:=left) vo vf ha
 have h2:=meanA_vok (s:=s) (left:=left) vo' vg ha
 have h3:meanA r s own left f a≤meanA r s own' left g a+c:=by
  unfold meanA
  refine meanS_le s ha hc.1 (by simp) (by simp) (fun x hx=>?_) (fun x hx=>?_) fun i hi=>?_
  ·obtain⟨b,_,rfl⟩:=List.mem_map.1 hx;exact nextA_vok vo vf _
  ·obtain⟨b,_,rfl⟩:=List.mem_map.1 hx;exact nextA_vok vo' vg _
  ·obtain⟨b,hb⟩:=zol hi
   have e:∀ F:Bd→Int,(a.beds.map F).getD i 0=F b:=fun F=>by rw[List.getD_eq_getElem?_getD,List.getElem?_map,hb];rfl
   rw[e,e]
   exact nextA_le hc.1 ho hf (ha.bed b (zmo hb))
 unfold VOk at h1 h2
 omega
theorem leastA_le {r:Rk}{c:Int}(hc:0≤c∧c≤100000000) {F G:Am→Int}(hF:∀ a∈r.aims,VOk (F a)) (hG:∀ a∈r.aims,VOk (G a)) (h:∀ a∈r.aims,LeV c (F a) (G a)):LeV c (leastA (r.aims.map F)) (leastA (r.aims.map G)):=fun hN=>by
 obtain⟨_,f2,_⟩:=foldl_min (r.aims.map F) 2000000000
 obtain⟨_,g2,g3⟩:=foldl_min (r.aims.map G) 2000000000
 rcases g3 with g3|g3
 ·exact (hN g3).elim
 ·obtain⟨a,ha,he⟩:=List.mem_map.1 g3
  have hga:G a≠2000000000:=by rw[he];exact hN
  have h1:=h a ha hga
  have h2:=f2 (F a) (List.mem_map.2 ⟨a,ha,rfl⟩)
  have h3:=hF a ha
  have h4:=hG a ha
  unfold leastA at *
  unfold VOk at h3 h4
  rw[← he]
  omega
theorem valA_mono {r:Rk}(hr:ROk r) {s:Bool}{nums nums':List Int}{own own' c:Int}(hc:0≤c∧c≤100000000) (hn:∀ x∈nums,VOk x) (hn':∀ x∈nums',VOk x) (vo:VOk own) (vo':VOk own') (ho:LeV c own own') {st:Int}
 (h:∀ x:Int,lowG r.out≤x→x≤st→LeV c (nums.getD x.toNat 0) (nums'.getD x.toNat 0)):∀ k left,lowG r.out≤left→left≤st→LeV c (valA r s nums own k left) (valA r s nums' own' k left)
 | 0,left,h1,h2=>h left h1 h2
 | k+1, left, h1, h2=>by
   refine leastA_le hc (fun a ha=>meanA_vok vo (valA_vok hr hn vo k) (hr.aims a ha)) (fun a ha=>meanA_vok vo' (valA_vok hr hn' vo' k) (hr.aims a ha)) fun a ha=>?_
   exact meanA_le hc ho (fun x q1 q2=>valA_mono hr hc hn hn' vo vo' ho h k x q1 (by omega)) vo vo' (valA_vok hr hn vo k) (valA_vok hr hn' vo' k) (hr.aims a ha)
end Go.Proofs.YtgfbenanljjgaaaGreat.Du.Th.Ai

namespace Go.Oc
open Go Go.RowKit
theorem relV_plain {w:World}{p:Plan}{ver:Nat→Nat}:∀ (rs:List RV) (us:List Value),AV.relV w p ver (rs.map .r) us↔RV.relV w p.R rs us
 | [],us=>by simp only[List.map_nil,AV.relV,RV.relV]
 | r::rs, us=>by
   simp only[List.map_cons,AV.relV,AV.rel,RV.relV]
   constructor
   ·rintro ⟨u,us',e,h1,h2⟩;exact⟨u,us',e,h1,(relV_plain rs us').1 h2⟩
   ·rintro ⟨u,us',e,h1,h2⟩;exact⟨u,us',e,h1,(relV_plain rs us').2 h2⟩
def JCalls (P:Program) (F:FuncId) (u:Addr) (rs rs':List RV) (caps:List RV) (xs:List (List RV)):Prop :=
 callable P F=true∧∀ (w:World) (R:Nat→Prop) (b0:Nat) (vs:Array Value) (X:XS) (Ψ Θ:Nat→Prop),(∀ b,R b→b<w.heap.size)→RV.relV w R caps vs.toList→X.z=true→X.n0≤w.heap.size→YOk P X →
  (∀ b,Ψ b→b<w.heap.size)→(∀ b,Θ b→b<w.heap.size)→(∀ b,R b→¬ Θ b)→u=⟨b0,0,none⟩→¬ R b0→¬ Ψ b0→¬ Θ b0 →
  (∃ cells t,w.heap[b0]? = some (.cells cells t (0,0))∧RV.relV w R rs cells.toList∧∀ u∈cells.toList,u.oneCell'=true)→X.X (some xs) w Ψ Θ →
  Calls P F (#[.func (.yield X.l) #[] #[]]++vs) w fun e w'=>(∃ v,e = .returned v)∧((∃ Ψ' Θ',X.X none w' Ψ' Θ')∨∃ R' Ψ' Θ',X.X (some []) w' Ψ' Θ' ∧
   (∀ b,R' b→R b∨w.heap.size≤b)∧(∀ b,R' b→b<w'.heap.size)∧(∀ b,R' b→¬ Θ' b)∧¬ Θ' b0∧¬ Ψ' b0∧¬ R' b0 ∧
   ∃ cells t,w'.heap[b0]? = some (.cells cells t (0,0))∧RV.relV w' R' rs' cells.toList∧∀ u∈cells.toList,u.oneCell'=true)
def jpost (P:Program) (rs':List RV):Exit→AS→Prop
 | .normal,s=>(∃ l z,(s.rows 999).c = .gh P l z none)∨(∃ l z,(s.rows 999).c = .gh P l z (some []))∧(s.rows 1000).c = .box (rs'.map .r)
 | .ret,s=>(∃ l z,(s.rows 999).c = .gh P l z none)∨(∃ l z,(s.rows 999).c = .gh P l z (some []))∧(s.rows 1000).c = .box (rs'.map .r)
 | _,_=>False
theorem jcalls_st {P:Program}{f:FuncId}{fn:Func}{c:Code}{n:Nat}{u:Addr}{rs rs' caps:List RV}{xs:List (List RV)}(hf:P.funcs[f]? = some fn) (hb:fn.body=some c) (hc:callable P f=true) (hn:fn.ntmps=n) (hres:fn.results.toList=[])
 (hargs:caps.length+1≤n) (h:∀ C l,awp P C c (jpost P rs') (st n (argL 0 (.yl l::caps)) (fun _=>0) [(998,.sus [.pu 1000 0 u] [.pointer (some u)]),(999,.gh P l true (some xs)),(1000,.box (rs.map .r))])):JCalls P f u rs rs' caps xs:=by
 refine⟨hc,fun w R b0 vs0 X Ψ Θ hR hV0 hz hn0 hY hΨ hΘ hRΘ hu hRb hΨb hΘb hblk hX=>?_⟩
 obtain⟨cells,ty,hheap,hcells,hone⟩:=hblk
 have hb0:b0<w.heap.size:=(Array.getElem?_eq_some_iff.1 hheap).1
 have hV:RV.relV w R (.yl X.l::caps) (#[Value.func (.yield X.l) #[] #[]]++vs0).toList:=by
  simp only[RV.relV];exact⟨Value.func (.yield X.l) #[] #[],vs0.toList,by simp,by simp only[RV.rel],hV0⟩
 generalize #[Value.func (.yield X.l) #[] #[]]++vs0=vs at hV
 have hlen:=RV.relV_length hV
 simp only[Array.length_toList,List.length_cons] at hlen
 let C:Ctx:={ w0:=w,R0:=R,bor:=fun b=>Θ b∨b=b0,pin:=fun k=>if k=1000 then some (some b0,1) else none,X:=X }
 let p:Plan:={ R:=R,β:=fun k=>if k=1000 then some b0 else none,γ:=fun _=>1,X:=X,Ψ:=Ψ,Θ:=Θ }
 have hβ:∀ k b,p.β k=some b→k=1000∧b=b0:=fun k b hk=>by
  have hk':(if k=1000 then some b0 else none)=some b:=hk
  split at hk'
  ·rename_i e;injection hk' with hk';exact⟨e,hk'.symm⟩
  ·cases hk'
 have hs:SR C p (st n (argL 0 (.yl X.l::caps)) (fun _=>0) [(998,.sus [.pu 1000 0 u] [.pointer (some u)]),(999,.gh P X.l true (some xs)),(1000,.box (rs.map .r))]) { tmps:=vs++Array.replicate (fn.ntmps-vs.size) undef,defers:=[] } w:={
  base:=⟨rfl,rfl,rfl,Nat.le_refl _,fun _ _ _ _=>rfl⟩
  r0:=fun _ h=>h
  rn:=fun _ h=>.inl h
  rb:=hR
  tm:=fun t=>by
   show (look (argL 0 (.yl X.l::caps)) t).rel _ _ _ _
   by_cases hmem:∃ x,(t,x)∈argL 0 (RV.yl X.l::caps)
   ·cases e:(RV.yl X.l::caps)[t]? with
    | none =>
      obtain⟨x,hx⟩:=hmem
      obtain⟨i,y,h1,h2⟩:=argL_mem _ hx
      simp only[Nat.zero_add,Prod.mk.injEq] at h1
      rw[← h1.1,e] at h2;cases h2
    | some x =>
      obtain⟨u,hu,hx⟩:=RV.relV_get hV e
      have:(vs++Array.replicate (fn.ntmps-vs.size) undef).getD t undef=u:=by
       have ht:t<vs.size:=by have:=(List.getElem?_eq_some_iff.1 hu).1;simpa using this
       rw[Array.getD_eq_getD_getElem?,Array.getElem?_append_left ht]
       simp only[Array.getElem?_toList] at hu
       rw[hu];rfl
      have e2:=argL_look (k:=0) e
      rw[Nat.zero_add] at e2
      rw[this,e2]
      simpa only[AV.rel] using hx
   ·rw[look_none hmem]
    exact AV.rel_un _ _ _ _
  sz:=by simp only[Array.size_append,Array.size_replicate,st];omega
  ex:={
   px:=rfl
   n0:=hn0
   ψ0:=fun hz' b hb=>by have hz2:X.z=false:=hz';rw[hz] at hz2;cases hz2
   ψl:=hΨ
   θl:=hΘ
   ψb:=fun k b h=>by obtain⟨_,rfl⟩:=hβ k b h;exact⟨hΨb,hΘb⟩
   ψr:=hRΘ
   ψo:=fun b h=>h.elim
   θo:=fun b h _=>.inl h
   bo:=fun b h=>h.elim (fun h=>h.elim (hΘ b) (fun e=>by rw[e];exact hb0)) (fun h=>h.elim)
   ψn:=fun hn=>(hn _ _ _ _ hX).elim
   hd:=fun b h=>h.elim
   rm:=fun _=>rfl
   df:=⟨[],rfl,List.nodup_nil,fun D hD=>by cases hD⟩ }
  rw:=fun k=>by
   show zrl w p _ k (lookc [(998,RowC.sus [.pu 1000 0 u] [.pointer (some u)]),(999,RowC.gh P X.l true (some xs)),(1000,.box (rs.map .r))] k)
   rw[zlc,zlc,zlc,lookc_nil]
   split
   ·rename_i e
    subst e
    simp only[zrl]
    refine⟨rfl,rfl,?_⟩
    simp only[AV.relV,AV.rel];exact⟨_,[],rfl,⟨rfl,Nat.zero_le _,fun _=>⟨b0,rfl,by rw[hu]⟩⟩,rfl⟩
   ·split
    ·rename_i e
     subst e
     simp only[zrl];exact⟨trivial,rfl,rfl,rfl,hz,hY,hX⟩
    ·split
     ·rename_i e
      subst e
      simp only[zrl];exact⟨b0,cells,ty,rfl,hheap,(relV_plain rs _).2 hcells,hone⟩
     ·rename_i e
      simp only[zrl]
      refine⟨?_,rfl⟩
      show (if k=1000 then some b0 else none)=none
      rw[if_neg e]
  bl:=fun k b h=>by
   obtain⟨rfl,rfl⟩:=hβ k b h
   exact⟨hb0,hRb,.inr (.inl ⟨Nat.le_refl _,.inr rfl⟩)⟩
  ij:=fun k k' b h h'=>(hβ k b h).1.trans (hβ k' b h').1.symm
  cap:=fun k=>by simp [p,maxLen]
  pn:=fun k x hx=>by
   have hx':(if k=1000 then some (some b0,1) else none)=some x:=hx
   split at hx'
   ·rename_i e
    injection hx' with hx'
    subst hx' e
    exact⟨rfl,rfl,rfl,Nat.le_refl _⟩
   ·cases hx'
  lk:=fun j km n l cur h _=>by
   have h':lookc [(998,RowC.sus [.pu 1000 0 u] [.pointer (some u)]),(999,RowC.gh P X.l true (some xs)),(1000,.box (rs.map .r))] j = .mi km n l cur:=h
   rw[zlc,zlc,zlc,lookc_nil] at h'
   split at h'
   ·cases h'
   ·split at h'
    ·cases h'
    ·split at h'<;>cases h' }
 refine callsIn_wide.1 (callsIn_of_wp_marks (n:=0) hf hb trivial (wpIn_mono (h C X.l _ w ⟨p,hs⟩) ?_))
 rintro e a' w' ⟨s',⟨p',hs'⟩,hq⟩
 have fin:∀ (a':Act) (w':World),SR C p' s' a' w'→((∃ l z,(s'.rows 999).c = .gh P l z none)∨(∃ l z,(s'.rows 999).c = .gh P l z (some []))∧(s'.rows 1000).c = .box (rs'.map .r)) →
  ∃ v,(results fn a'.tmps).run P w' = .ok v w'∧((∃ v',Ending.returned v = .returned v')∧((∃ Ψ' Θ',X.X none w' Ψ' Θ')∨∃ R' Ψ' Θ',X.X (some []) w' Ψ' Θ' ∧
  (∀ b,R' b→R b∨w.heap.size≤b)∧(∀ b,R' b→b<w'.heap.size)∧(∀ b,R' b→¬ Θ' b)∧¬ Θ' b0∧¬ Ψ' b0∧¬ R' b0 ∧
  ∃ cells t,w'.heap[b0]? = some (.cells cells t (0,0))∧RV.relV w' R' rs' cells.toList∧∀ u∈cells.toList,u.oneCell'=true)):=fun a' w' hs' hq0=>by
  have hm:(fn.results.mapM (resOp a'.tmps)).run P w' = .ok #[] w':=by
   rw[Array.mapM_eq_mapM_toList,hres]
   simp only[Sem.run_map,List.mapM_nil,Sem.run_pure,Result.andThen_ok]
  have hpx:p'.X=X:=hs'.ex.px
  have hr:=hs'.rw 999
  rcases hq0 with⟨l,z',hq⟩|⟨⟨l,z',hq⟩,hbox⟩
  ·rw[hq] at hr
   simp only[zrl] at hr
   rw[hpx] at hr
   exact⟨.tuple #[],by rw[results_eq,Sem.run_bind,hm];simp,⟨_,rfl⟩,.inl ⟨p'.Ψ,p'.Θ,hr.2.2.2.2.2.2⟩⟩
  ·obtain⟨hpb,_⟩:=hs'.pn 1000 (some b0,1) (by show (if (1000:Nat)=1000 then some (some b0,1) else none)=_;rw[if_pos rfl])
   have hbl:=hs'.bl 1000 b0 hpb
   have hψb:=hs'.ex.ψb 1000 b0 hpb
   have hrow:=hs'.rw 1000
   rw[hbox] at hrow
   simp only[zrl] at hrow
   obtain⟨b,cells',t',e1,e2,e3,e4⟩:=hrow
   rw[hpb] at e1
   injection e1 with e1
   subst e1
   refine⟨.tuple #[],by rw[results_eq,Sem.run_bind,hm];simp,⟨_,rfl⟩,.inr ⟨p'.R,p'.Ψ,p'.Θ,?_,fun b hb=>?_,hs'.rb,hs'.ex.ψr,hψb.2,hψb.1,hbl.2.1,cells',t',e2,(relV_plain rs' _).1 e3,e4⟩⟩
   ·rw[hq] at hr
    simp only[zrl] at hr
    rw[hpx] at hr
    exact hr.2.2.2.2.2.2
   ·rcases hs'.rn b hb with g|g|g
    ·exact .inl g
    ·exact .inr g
    ·exact g.elim
 cases e with
 | normal=>exact hs'.leave fun a'' w'' _ hs''=>fin a'' w'' hs'' hq
 | ret=>exact hs'.leave fun a'' w'' _ hs''=>fin a'' w'' hs'' hq
 | _=>exact hq.elim
section
variable {P:Program}{C:Ctx}{p:Plan}{s:AS}{a:Act}{w:World}
set_option maxHeartbeats 400000 in
theorem range_lent {C0:Ctx}{g:Operand}{ps:Array Tmp}{assign body:Code}{Q:Exit→AS→Prop}(hS:SR C p s a w) (hrd:C.rd=none) (hC:C.X=XS.none) {F:FuncId}{args:List RV}{xs:List (List RV)}{u:Addr}{rs rs':List RV}
 (hF:callee? (s.ev g)=some (F,args.map .r)) (hI:JCalls P F u rs rs' args xs) (hdead:(s.rows 0).c = .dead) (ts:List Nat) (hps:∀ t∈ps.toList,t<s.n)
 {b0:Nat}{cells:Array Value}{ty:TypeId}(hu:u=⟨b0,0,none⟩) (hheap:w.heap[b0]? = some (.cells cells ty (0,0))) (hcells:RV.relV w p.R rs cells.toList) (hone:∀ u∈cells.toList,u.oneCell'=true) (hnb:¬ (b0<C.w0.heap.size∧¬ C.bor b0∧¬ C.own b0)) (hnh:¬ C.hd b0) (hb0R:¬ p.R b0) (hb0β:∀ k,p.β k≠some b0)
 (I:List (List RV)→List Value→AS→Prop)
 (h0:∀ us,I xs us { n:=s.n,tm:=look [],rows:=upd s.rows 0 ⟨(s.rows 0).ver,.sus (ts.map s.tm) us⟩ })
 (round:∀ e rest us s',s'.n=s.n→I (e::rest) us s'→e.length=ps.size∧∃ avs,(s'.rows 0).c = .sus avs us∧∀ C,awp P C assign (fun x s2=>x = .normal∧∀ C,awp P C body (rpost s.n I (fun _ _ _=>False) rest us) s2) ⟨s.n,psA ps.toList e (look (ts.zip avs)),s'.rows⟩)
 (take:∀ us p' s' R' a' w' cells' t',s'.n=s.n→I [] us s'→SR C p' s' a' w'→a'.tmps=a.tmps→us=(ts.map fun t=>a'.tmps.getD t undef)→(∀ b,R' b→p.R b∨C.w0.heap.size≤b)→(∀ b,R' b→b<w'.heap.size)→(∀ j b,p'.β j=some b→¬ R' b)→(∀ j,p'.β j≠some b0)→¬ R' b0 →
  (∀ D,({ target:=.collected D,args:=#[] }:Deferred)∈a'.defers→¬ R' D)→w'.heap[b0]? = some (.cells cells' t' (0,0))→RV.relV w' R' rs' cells'.toList→(∀ u∈cells'.toList,u.oneCell'=true)→∃ s2,SRel C0 s2 a' w'∧Q .normal s2) :
 (Code.rangeFunc g ps assign body).wpIn Fence.wide 0 P (fun e a' w'=>∃ s',SRel C0 s' a' w'∧Q e s') a w:=by
 have hn:∀ o w Ψ Θ,¬ C.X.X o w Ψ Θ:=fun o w Ψ Θ h=>by rw[hC] at h;exact h
 refine wpIn_rangeFunc fun fn _=>?_
 obtain⟨vsC,hgv,hcs0⟩:=callee_eval hS hF
 have hcs:RV.relV w p.R args vsC.toList:=(relV_plain args _).1 hcs0
 have hψ0:=hS.ex.ψn hn
 obtain⟨rec,hrec⟩:∃ rec:LoopState→Option Code→Loop,rec=fun st pe=>{ state:=st,pending:=pe,fn,tmps:=a.tmps,params:=ps,assign,body,defers:=w.heap.size }:=⟨_,rfl⟩
 obtain⟨w1,hw1⟩:∃ w1,(w.alloc (.deferred (some []))).alloc (.loop (rec .ready none))=w1:=⟨_,rfl⟩
 obtain⟨L,hLdef⟩:∃ L,L=w.heap.size+1:=⟨_,rfl⟩
 obtain⟨aL,haL⟩:∃ aL:Act,aL={ tmps:=a.tmps,defers:={ target:=.collected w.heap.size,args:=#[] }::a.defers }:=⟨_,rfl⟩
 have hS1:SR C p s aL w1:=by rw[haL,← hw1];exact hS.enter hrd _
 have hsz1:w1.heap.size=w.heap.size+2:=by rw[← hw1];simp
 have hL1:w1.heap[L]? = some (.loop (rec .ready none)):=by
  rw[← hw1,hLdef];have:=World.alloc_heap_new (w.alloc (.deferred (some []))) (.loop (rec .ready none));rwa [World.size_alloc] at this
 have hLR:¬ p.R L:=fun h=>by have:=hS.rb L h;omega
 have hLβ:∀ k,p.β k≠some L:=fun k h=>by have:=(hS.bl k L h).1;omega
 have hL0:C.w0.heap.size≤L:=by have:=hS.base.size;omega
 have hLm:∀ d∈aL.defers,d.target ≠ .collected L:=fun d hd e=>by
  obtain⟨Ds,g1,_,g3⟩:=hS1.ex.df
  rw[g1] at hd
  obtain⟨D,hD,rfl⟩:=List.mem_map.1 hd
  injection e with e
  subst e
  have:=(g3 _ hD).1
  rw[hL1] at this;cases this
 obtain⟨us,hus⟩:∃ us,us=ts.map fun t=>aL.tmps.getD t undef:=⟨_,rfl⟩
 have hS2:=hS1.wait hdead ts
 rw[← hus,← look_nil'] at hS2
 have htmps:aL.tmps=a.tmps:=by rw[haL]
 have hsn:s.n=aL.tmps.size:=by rw[htmps];exact hS.sz.symm
 let X:XS:={ l:=L,z:=true,n0:=w1.heap.size,R:=p.R,X:=XJ C aL L rec (fun left s'=>I left us s') (fun c s'=>False),st:=XJ.st hn }
 have hcap:RV.relV w1 p.R args vsC.toList:=RV.relV_mono (fun _ h=>h) (fun ad hr=>World.cell?_of_block (by rw[← hw1];exact (Below.heap_alloc _ _ _ (by have:=hS.rb _ hr;simp;omega)).trans (Below.heap_alloc _ _ _ (hS.rb _ hr)))) _ _ hcs
 have hY:YOk P X:=by
  intro e rest wv Ψ Θ R vs hX hR hV
  obtain⟨pv,sv,hSv,hsnv,⟨hIv,hLv⟩,hLRv,hLβv,hΨv,hΘv⟩:=hX
  have hψv:=hSv.ex.ψn hn
  obtain⟨hlen,avs,hrow,hround⟩:=round e rest us sv (hsnv.trans hsn.symm) hIv
  have hvs:vs.size=ps.size:=by have:=RV.relV_length hV;simp only[Array.length_toList] at this;omega
  have hltv:L<wv.heap.size:=(Array.getElem?_eq_some_iff.1 hLv).1
  have hy:=run_yield (P:=P) (args:=vs) hLv (by rw[hrec];exact hvs)
  rw[hrec] at hy
  refine⟨fn,_,assign,body,hy,?_⟩
  have hRβ:∀ b,R b→b<wv.heap.size∧∀ k,pv.β k≠some b:=fun b hb=>⟨(hR b hb).1,fun k hk=>(hR b hb).2.1 ((hΘv b).2 (.inl ⟨k,hk⟩))⟩
  have hRL:¬ R L:=fun hb=>(hR L hb).2.1 ((hΘv L).2 (.inr rfl))
  have hkv:Kept wv wv pv { pv with R:=fun b=>pv.R b∨R b } sv.ver sv.ver:=⟨fun _ h=>.inl h,fun _ _=>rfl,fun _=>Nat.le_refl _,fun _ _=>⟨rfl,rfl⟩⟩
  have haw:=hSv.awake (by rw[hrow,hus])
  have hzip:(ps.zip vs).foldl (fun tmps (x:Nat × Value)=>tmps.setIfInBounds x.1 x.2) a.tmps=(ps.toList.zip vs.toList).foldl (fun tmps (x:Nat × Value)=>tmps.setIfInBounds x.1 x.2) a.tmps:=by
   rw[← Array.foldl_toList,Array.toList_zip]
  obtain⟨hpsz,hprel⟩:=psA_rel (w:=wv) (p:={ pv with R:=fun b=>pv.R b∨R b }) (ver:=sv.ver) ps.toList e vs.toList (look (ts.zip avs)) a.tmps (RV.relV_mono (fun _ h=>.inr h) (fun _ _=>rfl) _ _ hV)
   (fun t ht=>by rw[← htmps,← hsn];exact hps t ht) (fun t=>by rw[← htmps];exact AV.rel_mono hkv _ _ (haw.tm t))
  let Hd:Nat→Prop:=fun b=>b=L∨∃ d∈aL.defers,d.target = .collected b
  have hHd:∀ b,Hd b→b<wv.heap.size∧¬ C.bor b∧¬ pv.R b∧¬ R b∧∀ k,pv.β k≠some b:=fun b hb=>by
   rcases hb with rfl|⟨d,hd,hdt⟩
   ·exact⟨hltv,fun hb=>by have:=hS.ex.bo b (.inl hb);omega,hLRv,hRL,hLβv⟩
   ·obtain⟨Ds,g1,_,g3⟩:=hSv.ex.df
    rw[g1] at hd
    obtain⟨D,hD,rfl⟩:=List.mem_map.1 hd
    injection hdt with hdt
    subst hdt
    obtain⟨k1,k2,k3,k4,k5,k6⟩:=g3 D hD
    refine⟨(Array.getElem?_eq_some_iff.1 k1).1,fun hb=>by have:=hS.ex.bo D (.inl hb);omega,k3,fun hr=>?_,k4⟩
    have hD1:D<w1.heap.size:=by
     obtain⟨Ds',q1,_,q3⟩:=hS1.ex.df
     have:Ds'=Ds:=marks_inj (q1.symm.trans g1)
     subst this
     exact (Array.getElem?_eq_some_iff.1 (q3 D hD).1).1
    rcases (hR D hr).2.2 with q|q
    ·obtain⟨Ds',q1,_,q3⟩:=hS1.ex.df
     have:Ds'=Ds:=marks_inj (q1.symm.trans g1)
     subst this
     exact (q3 D hD).2.2.1 q
    ·have q':w1.heap.size≤D:=q
     omega
  have hSa:=hSv.into (L:=L) (w2:=wv) (R:=R) (rd:=some L) (Hd:=Hd) (a':={ tmps:=(ps.zip vs).foldl (fun tmps (x:Nat × Value)=>tmps.setIfInBounds x.1 x.2) a.tmps,defers:=[] }) (tm':=psA ps.toList e (look (ts.zip avs)))
   hn rfl rfl rfl rfl (fun _ _=>rfl) hLRv hLβv hRβ (fun t=>by rw[hzip];exact hprel t) (by rw[hzip,hpsz,← htmps];exact hsnv.symm) rfl hHd hC
  have hna:=hsnv.trans hsn.symm
  refine roundIn_of_wpIn trivial ?_
  have hassign:=hround (Cin C pv R wv (some L) Hd) _ _ ⟨_,hna▸hSa⟩
  refine wpIn_mono hassign ?_
  rintro x a1 wa ⟨s1,⟨p1,hS1a⟩,rfl,hbody⟩
  have hLa:wa.heap[L]? = some (.loop (rec .ready none)):=(hS1a.base.block L hltv (fun ⟨hb,_⟩=>(hHd L (.inl rfl)).2.1 hb) (fun ⟨k,hk,_⟩=>hLβv k hk)).trans hLv
  have hlta:L<wa.heap.size:=(Array.getElem?_eq_some_iff.1 hLa).1
  refine⟨_,run_beginRound hLa (by rw[hrec]),?_⟩
  have hop1:=Hop.of (L:=L) (w:=wv) (w2:=wv) rfl rfl rfl rfl (fun _ _=>rfl) hS1a
  have hHd1:∀ b,Hd b→b<wa.heap.size∧¬ (Cin C pv R wv (some L) Hd).bor b∧¬ p1.R b∧¬ False∧∀ k,p1.β k≠some b:=fun b hb=>by
   obtain⟨_,q2,_,q4,q5,_,_,q8⟩:=hS1a.ex.hd b hb
   exact⟨q4,q2,q5,fun h=>h,q8⟩
  have hS1b:=hS1a.into (L:=L) (w2:=wa.putObj L (.loop { rec .ready none with state:=.busy })) (R:=fun _=>False) (rd:=some L) (Hd:=Hd) (a':=a1) (tm':=s1.tm) hn rfl rfl rfl World.putObj_size putObj_other
   (hHd1 L (.inl rfl)).2.2.1 (hHd1 L (.inl rfl)).2.2.2.2 (fun _ h=>h.elim) (fun t=>by
    have hk1:Kept wa (wa.putObj L (.loop { rec .ready none with state:=.busy })) p1 { p1 with R:=fun b=>p1.R b∨False } s1.ver s1.ver :=
     ⟨fun _ h=>.inl h,fun ad hr=>World.cell?_of_block (putObj_other _ fun e=>(hHd1 L (.inl rfl)).2.2.1 (e▸hr)),fun _=>Nat.le_refl _,fun _ _=>⟨rfl,rfl⟩⟩
    exact AV.rel_mono hk1 _ _ (hS1a.tm t)) hS1a.sz (hS1a.ex.rm rfl) hHd1 hC
  refine wpIn_mono (hbody _ _ _ ⟨_,hS1b⟩) ?_
  have hLb:(wa.putObj L (.loop { rec .ready none with state:=.busy })).heap[L]? = some (.loop { rec .ready none with state:=.busy }):=World.putObj_heap_same hlta
  have hRo:∀ b,R b→b<wv.heap.size∧(∀ d∈aL.defers,d.target ≠ .collected b)∧¬ C.hd b∧(C.R0 b∨C.w0.heap.size≤b∨C.own b):=fun b hb=>by
   have hsz0:=hS.base.size
   refine⟨(hR b hb).1,fun d hd hdt=>(hHd b (.inr ⟨d,hd,hdt⟩)).2.2.2.1 hb,fun hh=>?_,?_⟩
   ·obtain⟨q1,_,_,_,q5,_⟩:=hS.ex.hd b hh
    rcases (hR b hb).2.2 with q|q
    ·exact q5 q
    ·have q':w1.heap.size≤b:=q;omega
   ·rcases (hR b hb).2.2 with q|q
    ·exact hS.rn b q
    ·have q':w1.heap.size≤b:=q;exact .inr (.inl (by omega))
  have fin:∀ (jump:Option Code) (s3:AS) (p3:Plan) (a3:Act) (w3:World),SR (Cin (Cin C pv R wv (some L) Hd) p1 (fun _=>False) (wa.putObj L (.loop { rec .ready none with state:=.busy })) (some L) Hd) p3 s3 a3 w3 →
   (match jump with|none=>∃ s4,Sub s3 s4∧I rest us ⟨s.n,look [],s4.rows⟩|some c=>∃ s4,Sub s3 s4∧False) →
   ∃ v w', (Instr.endRound L jump).run P w3 = .ok v w'∧(w'.os=wv.os∧w'.tape=wv.tape∧w'.output=wv.output∧wv.heap.size≤w'.heap.size∧(∀ b, b<wv.heap.size→¬ Θ b→w'.heap[b]? = wv.heap[b]?) ∧
     ∃ Ψ' Θ':Nat→Prop,(∀ b,Ψ' b→Ψ b∨R b∨wv.heap.size≤b)∧(∀ b,Θ' b→Θ b∨wv.heap.size≤b)∧(∀ b,Ψ' b→b<w'.heap.size)∧(∀ b,Θ' b→b<w'.heap.size) ∧
     ((Ending.returned v = .returned (.bool true)∧X.X (some rest) w' Ψ' Θ')∨(Ending.returned v = .returned (.bool false)∧X.X Option.none w' Ψ' Θ'))):=by
   intro jump s30 p30 a3 w3 h30 hj0
   obtain⟨s3,hsub,hj⟩:∃ s4,Sub s30 s4∧(match jump with|none=>I rest us ⟨s.n,look [],s4.rows⟩|some c=>False):=by
    cases jump with
    | none=>exact hj0
    | some c=>exact hj0
   obtain⟨p3,h3⟩:=hsub _ _ _ ⟨p30,h30⟩
   have hL3:w3.heap[L]? = some (.loop { rec .ready none with state:=.busy }):=by
    refine (h3.base.block L (by show L<(wa.putObj L _).heap.size;rw[World.putObj_size];exact hlta) (fun ⟨hb,_⟩=>(hHd1 L (.inl rfl)).2.1 hb) (fun ⟨k,hk,_⟩=>(hHd1 L (.inl rfl)).2.2.2.2 k hk)).trans hLb
   obtain⟨_,_,_,_,e5,_,_,e8⟩:=h3.ex.hd L (.inl rfl)
   have hend:=run_endRound (P:=P) jump hL3
   have hlt3:L<w3.heap.size:=(Array.getElem?_eq_some_iff.1 hL3).1
   have hop2:=Hop.of (C:=Cin C pv R wv (some L) Hd) (p:=p1) (L:=L) (w:=wa) (w2:=wa.putObj L (.loop { rec .ready none with state:=.busy })) (R:=fun _=>False) rfl rfl rfl World.putObj_size putObj_other h3
   obtain⟨o4,ho4⟩:∃ o4,o4=Obj.loop { { rec .ready none with state:=.busy } with state:=if jump.isNone then .ready else .done,pending:=jump }:=⟨_,rfl⟩
   rw[← ho4] at hend
   have hop:=(Hop.trans (C':=Cin C pv R wv (some L) Hd) hop1 (fun _=>Iff.rfl) hop2).put (o:=o4)
   have hL4:(w3.putObj L o4).heap[L]? = some (.loop (rec (if jump.isNone then .ready else .done) jump)):=by
    rw[World.putObj_heap_same hlt3,ho4,hrec]
   have hS4:SR C p3 ⟨s.n,look [],s3.rows⟩ aL (w3.putObj L o4):=by
    have:=hSv.land (C':=Cin (Cin C pv R wv (some L) Hd) p1 (fun _=>False) (wa.putObj L (.loop { rec .ready none with state:=.busy })) (some L) Hd) hn hL0 hLm hop hRo rfl rfl h3 e5 e8 rfl rfl rfl World.putObj_size putObj_other
    rw[hna,← look_nil'] at this
    exact this
   have hψ4:=hS4.ex.ψn hn
   refine⟨_,_,hend,hop.os,hop.tape,hop.output,hop.size,fun b hb hθ=>hop.heap b hb (fun k hk=>hθ ((hΘv b).2 (.inl ⟨k,hk⟩))) (fun e=>hθ ((hΘv b).2 (.inr e))),
    fun b=>p3.R b∨(∃ k,p3.β k=some b)∨(b<C.w0.heap.size∧¬ C.bor b∧¬ C.own b)∨b=L∨C.hd b∨∃ d∈aL.defers,d.target = .collected b,fun b=>(∃ k,p3.β k=some b)∨b=L,fun b hb=>?_,fun b hb=>?_,fun b hb=>?_,fun b hb=>?_,?_⟩
   ·rcases hb with g|⟨k,g⟩|g|g|g|g
    ·rcases hop.rn b g with q|q|q|⟨k,q,_⟩
     ·exact .inl ((hΨv b).2 (.inl q))
     ·exact .inr (.inl q)
     ·exact .inr (.inr q)
     ·exact .inl ((hΨv b).2 (.inr (.inl ⟨k,q⟩)))
    ·rcases hop.bl k b g with q|⟨_,_,k',_,q⟩|⟨k',q,_⟩
     ·exact .inr (.inr q)
     ·exact .inl ((hΨv b).2 (.inr (.inl ⟨k',q⟩)))
     ·exact .inl ((hΨv b).2 (.inr (.inl ⟨k',q⟩)))
    ·exact .inl ((hΨv b).2 (.inr (.inr (.inl g))))
    ·exact .inl ((hΨv b).2 (.inr (.inr (.inr (.inl g)))))
    ·exact .inl ((hΨv b).2 (.inr (.inr (.inr (.inr (.inl g))))))
    ·exact .inl ((hΨv b).2 (.inr (.inr (.inr (.inr (.inr g))))))
   ·rcases hb with⟨k,g⟩|g
    ·rcases hop.bl k b g with q|⟨_,_,k',_,q⟩|⟨k',q,_⟩
     ·exact .inr q
     ·exact .inl ((hΘv b).2 (.inl ⟨k',q⟩))
     ·exact .inl ((hΘv b).2 (.inl ⟨k',q⟩))
    ·exact .inl ((hΘv b).2 (.inr g))
   ·have hsz4:=hS4.base.size
    rcases hb with g|⟨k,g⟩|g|rfl|g|⟨d,hd,hdt⟩
    ·exact hS4.rb b g
    ·exact (hS4.bl k b g).1
    ·omega
    ·rw[World.putObj_size];exact hlt3
    ·exact (hS4.ex.hd b g).2.2.2.1
    ·exact Nat.lt_of_lt_of_le (hHd b (.inr ⟨d,hd,hdt⟩)).1 hop.size
   ·rcases hb with⟨k,g⟩|rfl
    ·exact (hS4.bl k b g).1
    ·rw[World.putObj_size];exact hlt3
   ·cases jump with
    | none=>exact .inl ⟨rfl,p3,_,hS4,hsn,⟨hj,hL4⟩,e5,e8,fun _=>Iff.rfl,fun _=>Iff.rfl⟩
    | some c=>exact .inr ⟨rfl,p3,_,hS4,hsn,⟨c,hj,hL4⟩,e5,e8,fun _=>Iff.rfl,fun _=>Iff.rfl⟩
  rintro en a3 w3 ⟨s3,⟨p3,h3⟩,hq⟩
  cases en with
  | normal=>exact fin none s3 p3 a3 w3 h3 hq
  | ret=>exact fin (some .ret) s3 p3 a3 w3 h3 hq
  | exit id=>exact fin (some (.exit id)) s3 p3 a3 w3 h3 hq
  | goto l=>exact fin (some (.goto l)) s3 p3 a3 w3 h3 hq
  | panic ch=>exact hq.elim
  | outgrown=>exact hq.elim
 have hX0:X.X (some xs) w1 (fun b=>p.R b∨(∃ k,p.β k=some b)∨(b<C.w0.heap.size∧¬ C.bor b∧¬ C.own b)∨b=L∨C.hd b∨∃ d∈aL.defers,d.target = .collected b) (fun b=>(∃ k,p.β k=some b)∨b=L) :=
  ⟨p,_,hS2,hsn,⟨h0 us,hL1⟩,hLR,hLβ,fun _=>Iff.rfl,fun _=>Iff.rfl⟩
 have hlt1:L<w1.heap.size:=(Array.getElem?_eq_some_iff.1 hL1).1
 have hb0lt:b0<w.heap.size:=(Array.getElem?_eq_some_iff.1 hheap).1
 have hheap1:w1.heap[b0]? = some (.cells cells ty (0,0)):=by
  rw[← hw1]
  exact ((Below.heap_alloc _ _ _ (by simp;omega)).trans (Below.heap_alloc _ _ _ hb0lt)).trans hheap
 have hcells1:RV.relV w1 p.R rs cells.toList:=RV.relV_mono (fun _ h=>h) (fun ad hr=>World.cell?_of_block (by rw[← hw1];exact (Below.heap_alloc _ _ _ (by have:=hS.rb _ hr;simp;omega)).trans (Below.heap_alloc _ _ _ (hS.rb _ hr)))) _ _ hcells
 have hb0L:b0≠L:=by omega
 have hcall:=hI.2 w1 p.R b0 vsC X _ _ hS1.rb hcap rfl (Nat.le_refl _) hY (fun b hb=>by
  have hszw:=hS1.base.size
  rcases hb with g|⟨k,g⟩|g|rfl|g|⟨d,hd,hdt⟩
  ·exact hS1.rb b g
  ·exact (hS1.bl k b g).1
  ·omega
  ·exact hlt1
  ·exact (hS1.ex.hd b g).2.2.2.1
  ·obtain⟨Ds,g1,_,g3⟩:=hS1.ex.df
   rw[g1] at hd
   obtain⟨D,hD,rfl⟩:=List.mem_map.1 hd
   injection hdt with hdt
   subst hdt
   exact (Array.getElem?_eq_some_iff.1 (g3 D hD).1).1) (fun b hb=>by
  rcases hb with⟨k,g⟩|rfl
  ·exact (hS1.bl k b g).1
  ·exact hlt1) (fun b hb hθ=>by
  rcases hθ with⟨k,g⟩|rfl
  ·exact (hS1.bl k b g).2.1 hb
  ·exact hLR hb) hu hb0R (fun hb=>by
  rcases hb with g|⟨k,g⟩|g|g|g|⟨d,hd,hdt⟩
  ·exact hb0R g
  ·exact hb0β k g
  ·exact hnb g
  ·exact hb0L g
  ·exact hnh g
  ·obtain⟨Ds,g1,_,g3⟩:=hS1.ex.df
   rw[g1] at hd
   obtain⟨D,hD,rfl⟩:=List.mem_map.1 hd
   injection hdt with hdt
   subst hdt
   have:=(g3 _ hD).1
   rw[hheap1] at this;cases this) (fun hb=>by
  rcases hb with⟨k,g⟩|g
  ·exact hb0β k g
  ·exact hb0L g) ⟨cells,ty,hheap1,hcells1,hone⟩ hX0
 have e1:(Instr.enterLoop fn a.tmps ps assign body none).run P w = .ok (L,[{ target:=.collected w.heap.size,args:=#[] }]) w1:=by
  rw[run_enterLoop_outer,← hw1,hrec,hLdef]
 have e2:(resolve a.eval (rangeCall g L) 0).run P w1 = .ok { target:=.fn (.func F) vsC,args:=#[.func (.yield L) #[] #[]] } w1:=by
  simp only[resolve,hgv,Sem.run_bind,Deferred.ofValue,Sem.run_pure,Result.andThen_ok]
  simp [Act.eval]
 have e3:(invoke (.fn (.func F) vsC) #[.func (.yield L) #[] #[]]).run P w1 = .ok (.enter F (#[.func (.yield L) #[] #[]]++vsC)) w1:=by
  simp only[invoke];exact run_callFunc hI.1 _ _
 have e4:Fence.wide.depth.isSome=true→1≤0:=fun h=>by simp [Fence.wide] at h
 refine⟨L,_,w1,_,w1,F,_,w1,e1,e2,?_,e3,e4,?_⟩
 ·intro f' _;exact trivial
 ·refine callsIn_wide.2 (hcall.mono ?_)
  have haL':({ a with defers:=[{ target:=.collected w.heap.size,args:=#[] }]++a.defers }:Act)=aL:=by rw[haL];rfl
  rintro e w' ⟨⟨v,rfl⟩,hXX⟩
  rcases hXX.symm with⟨R',Ψ',Θ',hX,r1,r2,r3,r4,r5,r6,cells',t',c1,c2,c3⟩|⟨Ψ',Θ',hX⟩
  ·obtain⟨p',s',hS',hsn',⟨hI',hL'⟩,hLR',hLβ',hΨ',hΘ'⟩:=hX
   have hend:=run_endLoop (P:=P) hL' (by rw[hrec];simp)
   have hp:(rec .ready none).pending=none:=by rw[hrec]
   rw[hp] at hend
   refine⟨none,_,hend,?_⟩
   have hS4:∀ o,SR C p' s' aL (w'.putObj L o):=fun o=>hS'.turn (o:=o) hLR' hLβ' hL0 (hS'.ex.ψn hn) hLm
   rw[haL']
   obtain⟨o4,ho4⟩:∃ o4,Obj.loop { rec .ready none with state:=LoopState.done,pending:=none }=o4:=⟨_,rfl⟩
   have hR'L:¬ R' L:=fun h=>r3 L h ((hΘ' L).2 (.inr rfl))
   refine take us p' s' R' aL _ cells' t' (hsn'.trans hsn.symm) hI' (hS4 _) htmps hus (fun b hb=>?_) (fun b hb=>by rw[World.putObj_size];exact r2 b hb) (fun j b hj hb=>r3 b hb ((hΘ' b).2 (.inl ⟨j,hj⟩))) (fun j hj=>r4 ((hΘ' b0).2 (.inl ⟨j,hj⟩))) r6 (fun D hD hRD=>?_) ?_ ?_ c3
   ·rcases r1 b hb with g|g
    ·exact .inl g
    ·exact .inr (by omega)
   ·have hD1:D<w1.heap.size∧¬ p.R D:=by
     obtain⟨Ds',q1,_,q3⟩:=hS1.ex.df
     rw[q1] at hD
     obtain⟨D',hD',e⟩:=List.mem_map.1 hD
     injection e with e
     injection e with e
     subst e
     exact⟨(Array.getElem?_eq_some_iff.1 (q3 D' hD').1).1,(q3 D' hD').2.2.1⟩
    rcases r1 D hRD with g|g
    ·exact hD1.2 g
    ·omega
   ·rw[World.putObj_heap_other hb0L];exact c1
   ·exact RV.relV_mono (fun _ h=>h) (fun ad hr=>World.cell?_of_block (World.putObj_heap_other fun e:ad.block=L=>hR'L (e▸hr))) _ _ c2
  ·obtain⟨p',s',hS',hsn',⟨c,hJ',hL'⟩,hLR',hLβ',_⟩:=hX
   exact hJ'.elim
theorem SR.give {k t0:Nat}{u0:Addr}{rs:List RV}(hS:SR C p s a w) (ht0:s.tm t0 = .pu k 0 u0) (hX:C.X=XS.none) (hown:∀ b,¬ C.own b) (hv:s.ver k=0) (hc:(s.rows k).c = .box (rs.map .r)) (hcb:∃ x,C.pin k=some x∧∀ b,x.1=some b→C.bor b) :
 ∃ b0 cells ty, u0=⟨b0, 0, none⟩∧p.β k=some b0∧w.heap[b0]? = some (.cells cells ty (0, 0))∧RV.relV w p.R rs cells.toList∧(∀ u∈cells.toList, u.oneCell'=true)∧C.bor b0∧¬ p.R b0∧(∀ j, upd p.β k none j≠some b0) ∧
   SR { C with pin:=fun j=>if j=k then none else C.pin j } { p with β:=upd p.β k none,γ:=upd p.γ k 1 } ⟨s.n,fun t=>(s.tm t).park k u0,fun j=>if j=k then ⟨0,.dead⟩ else ⟨(s.rows j).ver,(s.rows j).c.park k u0⟩⟩ a w:=by
 have hn:∀ o w Ψ Θ,¬ C.X.X o w Ψ Θ:=fun o w Ψ Θ h=>by rw[hX] at h;exact h
 have hψ:=hS.ex.ψn hn
 have hrow:=hS.rw k
 rw[hc] at hrow
 simp only[zrl] at hrow
 obtain⟨b0,cells,ty,hβ,hheap,hcells,hone⟩:=hrow
 have hbor:C.bor b0:=by
  obtain⟨x,hx,hxb⟩:=hcb
  exact hxb b0 ((hS.pn k x hx).1.symm.trans hβ)
 have hu0:u0=⟨b0,0,none⟩:=by
  have hx:=hS.tm t0
  rw[ht0] at hx
  simp only[AV.rel] at hx
  obtain⟨b,hb,hbv⟩:=hx.2.2 hv.symm
  rw[hβ] at hb
  injection hb with hb
  subst hb
  have:=hx.1.symm.trans hbv
  injection this with this
  injection this
 subst hu0
 have hver:AS.ver ⟨s.n,fun t=>(s.tm t).park k ⟨b0,0,none⟩,fun j=>if j=k then ⟨0,.dead⟩ else ⟨(s.rows j).ver,(s.rows j).c.park k ⟨b0,0,none⟩⟩⟩=s.ver:=funext fun j=>by
  show (if j=k then (⟨0,.dead⟩:Row) else ⟨(s.rows j).ver,(s.rows j).c.park k ⟨b0,0,none⟩⟩).ver=s.ver j
  split
  ·rename_i e;subst e;exact hv.symm
  ·rfl
 have hβ2:∀ j b,upd p.β k none j=some b→j≠k∧p.β j=some b∧b≠b0:=fun j b hb'=>by
  by_cases e:j=k
  ·subst e;rw[zus] at hb';cases hb'
  ·rw[zuo _ _ e] at hb'
   exact⟨e,hb',fun e2=>e (hS.ij j k b hb' (e2▸hβ))⟩
 have hmi:∀ j km n l cur,(s.rows j).c = .mi km n l cur→km≠k:=fun j km n l cur hj e=>by
  subst e
  have hr:=hS.rw j
  rw[hj] at hr
  simp only[zrl] at hr
  obtain⟨_,_,h2,_⟩:=hr
  have:=hS.lk j km n l cur hj (by omega)
  rw[hc] at this;cases this
 refine⟨b0,cells,ty,rfl,hβ,hheap,(relV_plain rs _).1 hcells,hone,hbor,(hS.bl k b0 hβ).2.1,fun j hj=>(hβ2 j b0 hj).2.2 rfl,?_⟩
 exact {
  base:=⟨hS.base.os,hS.base.tape,hS.base.output,hS.base.size,hS.base.block⟩
  r0:=hS.r0
  rn:=hS.rn
  rb:=hS.rb
  tm:=fun t=>by rw[hver];exact park_rel hv hβ _ _ (hS.tm t)
  sz:=hS.sz
  ex:={
   px:=hS.ex.px
   n0:=hS.ex.n0
   ψ0:=hS.ex.ψ0
   ψl:=hS.ex.ψl
   θl:=hS.ex.θl
   ψb:=fun j b _=>hψ b
   ψr:=hS.ex.ψr
   ψo:=hS.ex.ψo
   θo:=hS.ex.θo
   bo:=hS.ex.bo
   ψn:=hS.ex.ψn
   hd:=fun b hb=>by
    obtain⟨g1,g2,g3,g4,g5,g6,g7,g8⟩:=hS.ex.hd b hb
    exact⟨g1,g2,g3,g4,g5,g6,g7,fun j hj=>g8 j (hβ2 j b hj).2.1⟩
   rm:=hS.ex.rm
   df:=by
    obtain⟨Ds,g1,g2,g3⟩:=hS.ex.df
    refine⟨Ds,g1,g2,fun D hD=>?_⟩
    obtain⟨k1,k2,k3,k4,k5⟩:=g3 D hD
    exact⟨k1,k2,k3,fun j hj=>k4 j (hβ2 j D hj).2.1,k5⟩ }
  rw:=fun j=>by
   rw[hver]
   show zrl w _ s.ver j (if j=k then (⟨0,.dead⟩:Row) else ⟨(s.rows j).ver,(s.rows j).c.park k ⟨b0,0,none⟩⟩).c
   split
   ·rename_i e
    subst e
    simp only[zrl];exact⟨zus _ _ _,zus _ _ _⟩
   ·rename_i e
    exact parkRow_rel hv hβ e _ (fun km n l cur hj=>hmi j km n l cur hj) (hS.rw j)
  bl:=fun j b hb=>by
   obtain⟨e1,e2,e3⟩:=hβ2 j b hb
   exact hS.bl j b e2
  ij:=fun i j b hi hj=>hS.ij i j b (hβ2 i b hi).2.1 (hβ2 j b hj).2.1
  cap:=fun j=>by
   show upd p.γ k 1 j≤maxLen
   unfold upd;split
   ·simp [maxLen]
   ·exact hS.cap j
  pn:=fun j x hx=>by
   have hx':(if j=k then none else C.pin j)=some x:=hx
   split at hx'
   ·cases hx'
   ·rename_i e
    obtain⟨g1,g2,g3,g4⟩:=hS.pn j x hx'
    rw[hver]
    exact⟨(zuo _ _ e).trans g1,(zuo _ _ e).trans g2,g3,g4⟩
  lk:=fun j km n l cur hj hn=>by
   rw[hver] at hn
   have hj':(if j=k then (⟨0,.dead⟩:Row) else ⟨(s.rows j).ver,(s.rows j).c.park k ⟨b0,0,none⟩⟩).c = .mi km n l cur:=hj
   split at hj'
   ·cases hj'
   ·have hj2:(s.rows j).c = .mi km n l cur:=by
     generalize (s.rows j).c=c at hj'
     cases c<;>simp only[RowC.park] at hj'<;>first|exact hj'|cases hj'
    have hl:=hS.lk j km n l cur hj2 hn
    show (if km=k then (⟨0,.dead⟩:Row) else ⟨(s.rows km).ver,(s.rows km).c.park k ⟨b0,0,none⟩⟩).c.isMpi=true
    rw[if_neg (hmi j km n l cur hj2)]
    generalize (s.rows km).c=c at hl
    cases c<;>first|exact hl|cases hl }
theorem SR.take {C:Ctx}{k t0 b0 g0:Nat}{p':Plan}{s':AS}{a:Act}{w':World}{R':Nat→Prop}{rs':List RV}{cells:Array Value}{ty:TypeId}(hS':SR { C with pin:=fun j=>if j=k then none else C.pin j } p' s' a w') (hX:C.X=XS.none) (hk:1000≤k)
 (hpin:C.pin k=some (some b0,g0)) (hg:g0≤maxLen) (hbor:C.bor b0) (hb0:b0<C.w0.heap.size) (hR0:¬ C.R0 b0) (hown:∀ b,¬ C.own b) (hrk:s'.rows k=⟨0,.dead⟩) (ht:s'.tm t0 = .r (.vl ⟨b0,0,none⟩))
 (r1:∀ b,R' b→C.R0 b∨C.w0.heap.size≤b) (r2:∀ b,R' b→b<w'.heap.size) (r3:∀ j b,p'.β j=some b→¬ R' b) (r4:∀ j,p'.β j≠some b0) (r6:¬ R' b0) (rD:∀ D,({ target:=.collected D,args:=#[] }:Deferred)∈a.defers→¬ R' D)
 (c1:w'.heap[b0]? = some (.cells cells ty (0,0))) (c2:RV.relV w' R' rs' cells.toList) (c3:∀ u∈cells.toList,u.oneCell'=true) :
 SR C { p' with R:=fun b=>p'.R b∨R' b,β:=upd p'.β k (some b0),γ:=upd p'.γ k g0 } ⟨s'.n,upd s'.tm t0 (.pu k 0 ⟨b0,0,none⟩),upd s'.rows k ⟨0,.box (rs'.map .r)⟩⟩ a w':=by
 have hn:∀ o w Ψ Θ,¬ C.X.X o w Ψ Θ:=fun o w Ψ Θ h=>by rw[hX] at h;exact h
 have hψ':=hS'.ex.ψn hn
 have hvk:s'.ver k=0:=by show (s'.rows k).ver=0;rw[hrk]
 have hrk':=hS'.rw k
 rw[hrk] at hrk'
 simp only[zrl] at hrk'
 obtain⟨hβk,hγk⟩:=hrk'
 have hRb:¬ p'.R b0:=fun h=>by
  rcases hS'.rn b0 h with g|g|g
  ·exact hR0 g
  ·have g':C.w0.heap.size≤b0:=g;omega
  ·exact hown _ g
 have hver':AS.ver ⟨s'.n,upd s'.tm t0 (.pu k 0 ⟨b0,0,none⟩),upd s'.rows k ⟨0,.box (rs'.map .r)⟩⟩=s'.ver:=by
  funext j
  show (upd s'.rows k _ j).ver=(s'.rows j).ver
  unfold upd;split
  ·rename_i e;subst e;exact hvk.symm
  ·rfl
 have hβ3:∀ j b,upd p'.β k (some b0) j=some b→(j=k∧b=b0)∨(j≠k∧p'.β j=some b):=fun j b hb=>by
  by_cases e:j=k
  ·subst e;rw[zus] at hb;injection hb with hb;exact .inl ⟨rfl,hb.symm⟩
  ·rw[zuo _ _ e] at hb;exact .inr ⟨e,hb⟩
 have hmi':∀ j km n l cur,(s'.rows j).c = .mi km n l cur→km≠k:=fun j km n l cur hj e=>by
  subst e
  have hr:=hS'.rw j
  rw[hj] at hr
  simp only[zrl] at hr
  obtain⟨_,_,h2,_⟩:=hr
  have:=hS'.lk j km n l cur hj (by omega)
  rw[hrk] at this;cases this
 have hk1:Kept w' w' p' { p' with R:=fun b=>p'.R b∨R' b } s'.ver s'.ver:=⟨fun _ h=>.inl h,fun _ _=>rfl,fun _=>Nat.le_refl _,fun _ _=>⟨rfl,rfl⟩⟩
 exact {
  base:=⟨hS'.base.os,hS'.base.tape,hS'.base.output,hS'.base.size,hS'.base.block⟩
  r0:=fun b hb=>.inl (hS'.r0 b hb)
  rn:=fun b hb=>by
   rcases hb with hb|hb
   ·exact hS'.rn b hb
   ·exact (r1 b hb).imp id .inl
  rb:=fun b hb=>hb.elim (hS'.rb b) (r2 b)
  tm:=fun t=>by
   rw[hver']
   show AV.rel w' _ s'.ver (upd s'.tm t0 (.pu k 0 ⟨b0,0,none⟩) t) _
   by_cases e:t=t0
   ·subst e
    rw[zus]
    have hx:=hS'.tm t
    rw[ht] at hx
    simp only[AV.rel,RV.rel] at hx ⊢
    exact⟨hx,by omega,fun _=>⟨b0,zus _ _ _,hx⟩⟩
   ·rw[zuo _ _ e]
    exact unpark_rel (p:={ p' with R:=fun b=>p'.R b∨R' b }) hvk hβk hγk _ _ (AV.rel_mono hk1 _ _ (hS'.tm t))
  sz:=hS'.sz
  ex:={
   px:=hS'.ex.px
   n0:=hS'.ex.n0
   ψ0:=hS'.ex.ψ0
   ψl:=hS'.ex.ψl
   θl:=hS'.ex.θl
   ψb:=fun j b _=>hψ' b
   ψr:=fun b _=>(hψ' b).2
   ψo:=hS'.ex.ψo
   θo:=fun b hb=>((hψ' b).2 hb).elim
   bo:=hS'.ex.bo
   ψn:=hS'.ex.ψn
   hd:=fun b hb=>by
    obtain⟨g1,g2,g3,g4,g5,g6,g7,g8⟩:=hS'.ex.hd b hb
    refine⟨g1,g2,g3,g4,fun h=>h.elim g5 (fun h=>?_),g6,g7,fun j hj=>?_⟩
    ·rcases r1 b h with q|q
     ·exact g5 (hS'.r0 b q)
     ·have g1':b<C.w0.heap.size:=g1;omega
    ·rcases hβ3 j b hj with⟨_,e⟩|⟨_,e⟩
     ·exact g2 (e▸hbor)
     ·exact g8 j e
   rm:=hS'.ex.rm
   df:=by
    obtain⟨Ds,g1,g2,g3⟩:=hS'.ex.df
    refine⟨Ds,g1,g2,fun D hD=>?_⟩
    obtain⟨k1,k2,k3,k4,k5⟩:=g3 D hD
    refine⟨k1,k2,fun h=>h.elim k3 (rD D (by rw[g1];exact List.mem_map.2 ⟨D,hD,rfl⟩)),fun j hj=>?_,k5⟩
    rcases hβ3 j D hj with⟨_,e⟩|⟨_,e⟩
    ·have k2':C.w0.heap.size≤D:=k2;omega
    ·exact k4 j e }
  rw:=fun j=>by
   rw[hver']
   show zrl w' _ s'.ver j (upd s'.rows k ⟨0,.box (rs'.map .r)⟩ j).c
   by_cases e:j=k
   ·subst e
    rw[zus]
    simp only[zrl];exact⟨b0,cells,ty,zus _ _ _,c1,(relV_plain rs' _).2 (RV.relV_mono (fun _ h=>.inr h) (fun _ _=>rfl) _ _ c2),c3⟩
   ·rw[zuo _ _ e]
    exact unparkRow_rel (p:={ p' with R:=fun b=>p'.R b∨R' b }) hvk hβk hγk e _ (fun km n l cur hj=>hmi' j km n l cur hj)
     (rowRel_mono hk1 (.inr ⟨rfl,rfl,rfl,rfl,rfl,rfl,Nat.le_refl _,fun _ _=>rfl⟩) rfl rfl (fun _ _=>rfl) _ (fun _ _ _ _ _ _ _ _=>rfl) (hS'.rw j))
  bl:=fun j b hb=>by
   rcases hβ3 j b hb with⟨rfl,rfl⟩|⟨e,hb'⟩
   ·exact⟨(Array.getElem?_eq_some_iff.1 c1).1,fun h=>h.elim hRb r6,.inr (.inl ⟨hk,hbor⟩)⟩
   ·obtain⟨g1,g2,g3⟩:=hS'.bl j b hb'
    exact⟨g1,fun h=>h.elim g2 (r3 j b hb'),g3⟩
  ij:=fun i j b hi hj=>by
   rcases hβ3 i b hi with⟨rfl,rfl⟩|⟨ei,hi'⟩
   ·rcases hβ3 j b hj with⟨rfl,_⟩|⟨_,hj'⟩
    ·rfl
    ·exact (r4 j hj').elim
   ·rcases hβ3 j b hj with⟨rfl,rfl⟩|⟨_,hj'⟩
    ·exact (r4 i hi').elim
    ·exact hS'.ij i j b hi' hj'
  cap:=fun j=>by
   show upd p'.γ k g0 j≤maxLen
   unfold upd;split
   ·exact hg
   ·exact hS'.cap j
  pn:=fun j x hx=>by
   rw[hver']
   by_cases e:j=k
   ·subst e
    rw[hpin] at hx
    injection hx with hx
    subst hx
    exact⟨zus _ _ _,zus _ _ _,hvk,hk⟩
   ·obtain⟨g1,g2,g3,g4⟩:=hS'.pn j x (by show (if j=k then none else C.pin j)=some x;rw[if_neg e];exact hx)
    exact⟨(zuo _ _ e).trans g1,(zuo _ _ e).trans g2,g3,g4⟩
  lk:=fun j km n l cur hj hn'=>by
   rw[hver'] at hn'
   have hj':(upd s'.rows k ⟨0,.box (rs'.map .r)⟩ j).c = .mi km n l cur:=hj
   by_cases e:j=k
   ·subst e;rw[zus] at hj';cases hj'
   ·rw[zuo _ _ e] at hj'
    have hl:=hS'.lk j km n l cur hj' hn'
    show (upd s'.rows k ⟨0,.box (rs'.map .r)⟩ km).c.isMpi=true
    rw[zuo _ _ (hmi' j km n l cur hj')]
    exact hl }
theorem awp_rangeJ {g:Operand}{ps:Array Tmp}{assign body:Code}{Q:Exit→AS→Prop}(hC:(C.rd=none∧C.X=XS.none)∧∀ b,¬ C.own b) (k t0:Nat) (u:Addr) (rs rs':List RV) (ht0:s.tm t0 = .pu k 0 u) (hk:1000≤k) (hv:s.ver k=0) (hc:(s.rows k).c = .box (rs.map .r))
 (hcb:∃ x,C.pin k=some x∧∀ b,x.1=some b→C.bor b) {F:FuncId}{args:List RV}{xs:List (List RV)}
 (hF:callee? (AS.ev ⟨s.n,fun t=>(s.tm t).park k u,fun j=>if j=k then ⟨0,.dead⟩ else ⟨(s.rows j).ver,(s.rows j).c.park k u⟩⟩ g)=some (F,args.map .r)) (hI:JCalls P F u rs rs' args xs)
 (hdead:(s.rows 0).c = .dead) (ts:List Nat) (hps:∀ t∈ps.toList,t<s.n) (I:List (List RV)→List Value→AS→Prop)
 (h0:∀ us,I xs us { n:=s.n,tm:=look [],rows:=upd (fun j=>if j=k then ⟨0,.dead⟩ else ⟨(s.rows j).ver,(s.rows j).c.park k u⟩) 0 ⟨(s.rows 0).ver,.sus (ts.map fun t=>(s.tm t).park k u) us⟩ })
 (round:∀ e rest us s',s'.n=s.n→I (e::rest) us s'→e.length=ps.size∧∃ avs,(s'.rows 0).c = .sus avs us∧∀ C,awp P C assign (fun x s2=>x = .normal∧∀ C,awp P C body (rpost s.n I (fun _ _ _=>False) rest us) s2) ⟨s.n,psA ps.toList e (look (ts.zip avs)),s'.rows⟩)
 (done:∀ us s',s'.n=s.n→I [] us s'→∃ avs,(s'.rows 0).c = .sus avs us∧look (ts.zip avs) t0 = .r (.vl u)∧s'.rows k=⟨0,.dead⟩∧Q .normal ⟨s.n,upd (look (ts.zip avs)) t0 (.pu k 0 u),upd s'.rows k ⟨0,.box (rs'.map .r)⟩⟩):awp P C (.rangeFunc g ps assign body) Q s:=by
 rintro a w ⟨p,hS⟩
 have hF0:fnc C.rd=Fence.wide:=by rw[hC.1.1];rfl
 rw[hF0]
 obtain⟨b0,cells,ty,hu,hβ,hheap,hcells,hone,hbor,hbR,hbβ,hS2⟩:=hS.give ht0 hC.1.2 hC.2 hv hc hcb
 have hk0:(0:Nat)≠k:=by omega
 have hb0:=hS.ex.bo b0 (.inl hbor)
 obtain⟨x,hx,_⟩:=hcb
 have hpn:=hS.pn k x hx
 have hpin:C.pin k=some (some b0,x.2):=by rw[hx,← hβ,hpn.1]
 have hg:x.2≤maxLen:=by rw[← hpn.2.1];exact hS.cap k
 refine range_lent (C0:=C) hS2 hC.1.1 hC.1.2 hF hI (by show (if (0:Nat)=k then (⟨0,.dead⟩:Row) else ⟨(s.rows 0).ver,(s.rows 0).c.park k u⟩).c = .dead;rw[if_neg hk0,hdead];rfl) ts hps hu hheap hcells hone (fun g=>g.2.1 hbor) (fun g=>(hS.ex.hd b0 g).2.1 hbor) hbR hbβ I (fun us=>by
  have:=h0 us
  have e:((if (0:Nat)=k then (⟨0,.dead⟩:Row) else ⟨(s.rows 0).ver,(s.rows 0).c.park k u⟩).ver)=(s.rows 0).ver:=by rw[if_neg hk0]
  show I xs us { n:=s.n,tm:=look [],rows:=upd _ 0 ⟨(if (0:Nat)=k then (⟨0,.dead⟩:Row) else ⟨(s.rows 0).ver,(s.rows 0).c.park k u⟩).ver,_⟩ }
  rw[e];exact this) round ?_
 intro us p' s' R' a' w' cells' t' hsn hI' hS' hta hus r1 r2 r3 r4 r6 rD c1 c2 c3
 obtain⟨avs,hrow,hvl,hdk,hQ⟩:=done us s' hsn hI'
 have haw:=hS'.awake (avs:=avs) (ts:=ts) (by rw[hrow,hus])
 subst hu
 have hT:=SR.take (t0:=t0) haw hC.1.2 hk hpin hg hbor hb0 (fun h=>hbR (hS.r0 b0 h)) hC.2 hdk hvl (fun b hb=>by
  rcases r1 b hb with g|g
  ·rcases hS.rn b g with q|q|q
   ·exact .inl q
   ·exact .inr q
   ·exact (hC.2 _ q).elim
  ·exact .inr g) r2 r3 r4 r6 rD c1 c2 c3
 refine⟨_,⟨_,hT⟩,?_⟩
 show Q .normal ⟨s'.n,_,_⟩
 rw[hsn]
 exact hQ
end
theorem sub_vl {n:Nat}{l:List (Nat × AV)}{vs:Nat→Nat}{cs:List (Nat × RowC)}(t:Nat) {k:Nat}{u:Addr}{us:List Value}(ht:look l t = .r (.vl u)) (hc:lookc cs 998 = .sus [.pu k 0 u] us):Sub (st n l vs cs) (st n ((t,.pu k 0 u)::l) vs cs):=fun C a w ⟨p,hp⟩=>by
 have hr:=hp.rw 998
 have hc':((st n l vs cs).rows 998).c = .sus [.pu k 0 u] us:=hc
 rw[hc'] at hr
 simp only[zrl,AV.relV,AV.rel] at hr
 obtain⟨_,_,v,us',_,⟨hv1,hv2,hv3⟩,_⟩:=hr
 refine⟨p,{ hp with tm:=fun j=>?_ }⟩
 show AV.rel w _ _ (look ((t,.pu k 0 u)::l) j) _
 rw[look_cons]
 split
 ·rename_i e
  subst e
  have hx:=hp.tm j
  have e2:(st n l vs cs).tm j = .r (.vl u):=ht
  rw[e2] at hx
  simp only[AV.rel,RV.rel] at hx ⊢
  exact⟨hx,hv2,fun h0=>by obtain⟨b,hb,hbv⟩:=hv3 h0;exact⟨b,hb,by rw[hx,← hv1];exact hbv⟩⟩
 ·exact hp.tm j
theorem awp_rangeM {P:Program}{C:Ctx}{n:Nat}{Q:Exit→AS→Prop}{t:Nat}{ps:Array Tmp}{assign body:Code}(hC:(C.rd=none∧C.X=XS.none)∧∀ b,¬ C.own b) (k t0:Nat) (u:Addr) (hk:1000≤k) (hcb:∃ x,C.pin k=some x∧∀ b,x.1=some b→C.bor b) (rs rs':List RV)
 {f:FuncId}{args:List RV}(xs:List (List RV)) (hI:JCalls P f u rs rs' args xs) (ts:List Nat) (hnd:ts.Nodup) (F0 F:(Nat→Nat)→List (Nat × AV)) (R:Nat→(Nat→Nat)→List (Nat × RowC)) (I:Nat→Prop) (vs0:Nat→Nat) (hl0:Lent vs0) (hi0:I 0)
 (ht00:look (F0 vs0) t0 = .pu k 0 u) (hF:(F0 vs0).map (fun x=>(x.1,x.2.park k u))=F vs0) (hR:(R 0 vs0).map (fun x=>(x.1,x.2.park k u))=R 0 vs0) (hdk:∀ i vs,lookc (R i vs) k = .dead)
 (hts:∀ vs,(F vs).map (·.1)=ts) (ht0:∀ vs,look (F vs) t0 = .r (.vl u)) (hg:callee? (look (F vs0) t)=some (f,args.map .r)) (hd:∀ i vs,lookc (R i vs) 0 = .dead) (hps:∀ t∈ps.toList,t<n) (hlen:∀ e∈xs,e.length=ps.size)
 (round:∀ i e vs us C,xs[i]? = some e→I i→Lent vs→awp P C assign (fun x s2=>x = .normal∧∀ C,awp P C body (fun x s3=>x = .normal∧I (i+1)∧∃ vs',Lent vs'∧Sub s3 (st n [] vs' ((0,.sus ((F vs').map (·.2)) us)::R (i+1) vs'))) s2)
  (st n (psL ps.toList e (F vs)) vs ((0,.sus ((F vs).map (·.2)) us)::R i vs)))
 (done:∀ vs us,Lent vs→I xs.length→Q .normal (st n ((t0,.pu k 0 u)::F vs) vs (insc ((0,.sus ((F vs).map (·.2)) us)::R xs.length vs) k (.box (rs'.map .r))))) :
 awp P C (.rangeFunc (.tmp t) ps assign body) Q (st n (F0 vs0) vs0 (insc (R 0 vs0) k (.box (rs.map .r)))):=by
 have hk0:k≠0:=by omega
 have hdrop:∀ i e rest,xs.drop i=e::rest→xs[i]? = some e∧xs.drop (i+1)=rest:=fun i e rest h=>by
  refine⟨?_,by rw[← List.drop_drop,h];rfl⟩
  have:(xs.drop i)[0]? = some e:=by rw[h];rfl
  simpa using this
 have hz:∀ vs,ts.zip ((F vs).map (·.2))=F vs:=fun vs=>by rw[← hts vs];exact zip_keys _
 have htm:(fun j=>((st n (F0 vs0) vs0 (insc (R 0 vs0) k (.box (rs.map .r)))).tm j).park k u)=look (F vs0):=by
  funext j
  rw[← hF]
  exact (look_park k u (F0 vs0) j).symm
 have hrw:(fun j=>if j=k then (⟨0,.dead⟩:Row) else ⟨((st n (F0 vs0) vs0 (insc (R 0 vs0) k (.box (rs.map .r)))).rows j).ver,((st n (F0 vs0) vs0 (insc (R 0 vs0) k (.box (rs.map .r)))).rows j).c.park k u⟩)=(st n [] vs0 (R 0 vs0)).rows:=by
  funext j
  show (if j=k then (⟨0,.dead⟩:Row) else ⟨vs0 j,(lookc (insc (R 0 vs0) k (.box (rs.map .r))) j).park k u⟩)=⟨vs0 j,lookc (R 0 vs0) j⟩
  split
  ·rename_i e
   subst e
   rw[hdk,hl0 j hk]
  ·rename_i e
   rw[lookc_insc,if_neg e]
   have:=lookc_park k u (R 0 vs0) j
   rw[hR] at this
   rw[← this]
 refine awp_rangeJ hC k t0 u rs rs' ht00 hk (hl0 k hk) (by show lookc (insc (R 0 vs0) k _) k=_;rw[lookc_insc,if_pos rfl]) hcb (F:=f) (args:=args) (xs:=xs) (by rw[htm];exact hg) hI
  (by show lookc (insc (R 0 vs0) k _) 0=_;rw[lookc_insc,if_neg (Ne.symm hk0)];exact hd 0 vs0) ts hps
  (fun left us s'=>∃ i vs,left=xs.drop i∧i≤xs.length∧I i∧Lent vs∧s'=st n [] vs ((0,.sus ((F vs).map (·.2)) us)::R i vs))
  (fun us=>⟨0,vs0,rfl,Nat.zero_le _,hi0,hl0,?_⟩) ?_ ?_
 ·rw[hrw]
  refine (upd_rows_st (c:=.sus (ts.map fun j=>((st n (F0 vs0) vs0 (insc (R 0 vs0) k (.box (rs.map .r)))).tm j).park k u) us)).trans ?_
  congr 3
  have hkk:(F vs0).map (·.2)=ts.map (look (F vs0)):=by
   have:=look_keys (F vs0) (by rw[hts vs0];exact hnd)
   rw[hts vs0] at this
   exact this
  rw[hkk,← htm]
 ·rintro e rest us s' _ ⟨i,vs,hl,hle,hI',hvl,rfl⟩
  obtain⟨h1,h2⟩:=hdrop i e rest hl.symm
  refine⟨hlen e (List.mem_of_getElem? h1),(F vs).map (·.2),rfl,fun C'=>?_⟩
  have hr:=round i e vs us C' h1 hI' hvl
  show awp P C' assign _ ⟨n,psA ps.toList e (look (ts.zip ((F vs).map (·.2)))),_⟩
  rw[hz,psA_look]
  refine awp_mono ?_ hr
  rintro x s2 ⟨hx,hbody⟩
  refine⟨hx,fun C''=>awp_mono ?_ (hbody C'')⟩
  rintro x s3 ⟨rfl,hI3,vs',hvl',hsub⟩
  refine⟨_,hsub,i+1,vs',h2.symm,?_,hI3,hvl',rfl⟩
  have:=(List.getElem?_eq_some_iff.1 h1).1
  omega
 ·rintro us s' _ ⟨i,vs,hl,hle,hI',hvl,rfl⟩
  have hi:i=xs.length:=by
   have:(xs.drop i).length=0:=by rw[← hl];rfl
   rw[List.length_drop] at this;omega
  subst hi
  refine⟨(F vs).map (·.2),rfl,?_,?_,?_⟩
  ·rw[hz];exact ht0 vs
  ·show (⟨vs k,lookc ((0,.sus ((F vs).map (·.2)) us)::R xs.length vs) k⟩:Row)=_
   rw[zlc,if_neg (by omega),hdk,hvl k hk]
  ·rw[hz]
   have hq:=done vs us hvl hI'
   have e:=st_unpark (n:=n) (l:=F vs) (vs:=vs) (cs:=(0,.sus ((F vs).map (·.2)) us)::R xs.length vs) k t0 (.pu k 0 u) (.box (rs'.map .r)) (hvl k hk)
   rw[← e] at hq
   exact hq
theorem sub_vlo {n:Nat}{l:List (Nat × AV)}{vs:Nat→Nat}{cs:List (Nat × RowC)}(t t0:Nat) {k off:Nat}{u:Addr}(ht0:look l t0 = .pu k 0 u) (ht:look l t = .r (.vl ⟨u.block,off,none⟩)) (hv:vs k=0):Sub (st n l vs cs) (st n ((t,.pt k 0 off)::l) vs cs):=fun C a w ⟨p,hp⟩=>by
 have h0:=hp.tm t0
 have e0:(st n l vs cs).tm t0 = .pu k 0 u:=ht0
 rw[e0] at h0
 simp only[AV.rel] at h0
 obtain⟨hv1,hv2,hv3⟩:=h0
 refine⟨p,{ hp with tm:=fun j=>?_ }⟩
 show AV.rel w _ _ (look ((t,.pt k 0 off)::l) j) _
 rw[look_cons]
 split
 ·rename_i e
  subst e
  have hx:=hp.tm j
  have e2:(st n l vs cs).tm j = .r (.vl ⟨u.block,off,none⟩):=ht
  rw[e2] at hx
  simp only[AV.rel,RV.rel] at hx ⊢
  refine⟨hv2,fun h=>?_⟩
  obtain⟨b,hb,hbv⟩:=hv3 h
  have hu:=hv1.symm.trans hbv
  injection hu with hu
  injection hu with hu
  refine⟨b,hb,?_⟩
  rw[hx,hu]
 ·exact hp.tm j
end Go.Oc

namespace Go.Proofs.YtgfbenanljjgaaaGreat.Du.Th.Ai
open Go Go.Oc
set_option maxRecDepth 8000
set_option maxHeartbeats 2000000
theorem ty200:tyq Tryz.prog 200=some ⟨.arr 61 1 false,61,true,List.replicate 61 (.it .i64 0)⟩:=by kernel_rfl
theorem ty201:tyq Tryz.prog 201=some ⟨.arr 4 61 true,244,true,List.replicate 244 (.it .i64 0)⟩:=by kernel_rfl
theorem ty203:tyq Tryz.prog 203=some ⟨.struct [(0,1,false),(1,1,false),(2,244,true)],246,true,.np :: .it .i64 0::List.replicate 244 (.it .i64 0)⟩:=by kernel_rfl
abbrev tA (l:List Int):List AV:=l.map fun x=>AV.r (i64 x)
abbrev tabC (r:Rk) (s:Bool) (nums:List Int):List RV:=[i64 r.d,aimsR r.aims,i64 r.start,i64 r.out,.bo s,ints nums]
abbrev visR (r:Rk) (s:Bool) (nums:List Int) (st:Nat) (K:List Int):List RV:=.rp (tabC r s nums)::i64 (st:Int)::K.map fun x=>i64 x
abbrev visA (r:Rk) (s:Bool) (nums:List Int) (st:Nat) (K:List Int):List AV:=.r (.rp (tabC r s nums)) :: .r (i64 (st:Int))::tA K
theorem frzPL_tA (ks:List (Nat × RowC)) (rows:Nat→Row):∀ l:List Int,frzPL ks rows (tA l)
 | []=>trivial
 | x::l=>⟨trivial,frzPL_tA ks rows l⟩
theorem frzL_tA (ks:List (Nat × RowC)) (rows:Nat→Row):∀ l:List Int,frzL ks rows (tA l)=tA l
 | []=>rfl
 | x::l=>by simp only[List.map_cons,frzL,frz1,frzL_tA ks rows l]
theorem lend_tA (ks:List (Nat × Nat)) (vs:Nat→Nat):∀ l:List Int,lendL ks vs (tA l)=some (tA l)
 | []=>rfl
 | x::l=>by simp only[List.map_cons,lendL,lendA,lend_tA ks vs l]
theorem back_tA (ks:List (Nat × Nat)) (vs:Nat→Nat):∀ l:List Int,backL ks vs (tA l)=tA l
 | []=>rfl
 | x::l=>by simp only[List.map_cons,backL,backA,back_tA ks vs l]
structure VsOk (r:Rk) (s:Bool) (nums:List Int) (st:Nat):Prop where
 ok:ROk r
 len:nums.length=(r.start+1).toNat
 nums:∀ x∈nums,VOk x
 lo:lowG r.out≤st
 hi:(st:Int)≤r.start
abbrev ownV (nums:List Int) (st:Nat):Int:=nums.getD st 0
theorem VsOk.own {r:Rk}{s:Bool}{nums:List Int}{st:Nat}(h:VsOk r s nums st):VOk (ownV nums st):=getD_vok h.nums _
theorem VsOk.opt {r:Rk}{s:Bool}{nums:List Int}{st:Nat}(h:VsOk r s nums st) {x:Int}(h0:0≤x) (h1:x≤r.start):nums[x.toNat]? = some (nums.getD x.toNat 0):=by
 have:=h.ok.start
 obtain⟨v,hv⟩:=zol (l:=nums) (i:=x.toNat) (by rw[h.len];omega)
 rw[hv,List.getD_eq_getElem?_getD,hv];rfl
def ValC (r:Rk) (s:Bool) (nums:List Int) (st:Nat) (k:Nat):Prop :=
 ∀ (left:Nat) (K:List Int), lowG r.out≤left→left≤st→OkK r s nums (ownV nums st) K →
   MCalls Tryz.prog 160 [(1000,.box (visA r s nums st K))] [(1000,.box (visA r s nums st (valM r s nums (ownV nums st) k left K).2))] [.pt 1000 0 0,.r (i64 (left:Int)),.r (i64 (k:Int))] (.r (i64 (valM r s nums (ownV nums st) k left K).1))
theorem next_ok {r:Rk}{s:Bool}{nums:List Int}{st:Nat}(h:VsOk r s nums st) {k:Nat}(hk:k≤2) (hV:ValC r s nums st k) (left:Nat) (K:List Int) (b:Int) (hlo:lowG r.out≤left) (hle:left≤st) (hb:0≤b∧b≤499) (hK:OkK r s nums (ownV nums st) K) :
 MCalls Tryz.prog 153 [(1000,.box (visA r s nums st K))] [(1000,.box (visA r s nums st (nextM r.out (ownV nums st) left (valM r s nums (ownV nums st) k) b K).2))] [.pt 1000 0 0,.r (i64 (left:Int)),.r (i64 ((k:Int)+1)),.r (i64 b)] (.r (i64 (nextM r.out (ownV nums st) left (valM r s nums (ownV nums st) k) b K).1)):=by
 have hs:=score_nn hb
 have hlg:=lowG_le r.out
 have hst:=h.ok.start
 have hst2:=h.hi
 have hown:=h.opt (x:=st) (by omega) h.hi
 have hnl:st<nums.length:=by rw[h.len];omega
 simp only[Int.toNat_natCast] at hown
 have w1:IntKind.i64.wrap ((left:Int)-scoreOf b)=(left:Int)-scoreOf b:=by rw[zI]<;>omega
 refine mcalls_st (n:=59) (rs:=[.r (i64 (nextM r.out (ownV nums st) left (valM r s nums (ownV nums st) k) b K).1)]) _ _ [.tmp 8] Tryz.func153 rfl (by kernel_rfl) Tryz.ntmps153 rfl (by simp) rfl rfl fun C=>?_
 apply zq
 refine zb fun K hK=>?_;simp only[go_sem];apply hK;clear hK K;apply zw (zk [0,1,2,3]);simp only[go_sem]
 apply zq
 refine zb fun K hK=>?_;simp only[go_sem,w1]
 refine zh (ascore_ok b hb) rfl (by simp only[go_sem,i64,ints]) (by simp only[go_sem,i64,ints]) ?_
 (try simp only[go_sem]);(try simp (disch:=omega) only[zI]);apply hK;clear hK K;apply zw (zk [0,2,3,9]);simp only[go_sem]
 apply zq
 apply zd
 unfold nextM
 have hop:=aopens_ok b r.out hb
 by_cases h0:(left:Int)-scoreOf b=0
 ·have e0:((left:Int)-scoreOf b == 0)=true:=by simpa using h0
  rw[decide_eq_true h0]
  apply zq
  refine zb fun K hK=>?_;simp only[go_sem,e0,ty203]
  refine zh (hop) rfl (by simp only[go_sem,i64,ints]) (by simp only[go_sem,i64,ints]) ?_
  (try simp only[go_sem]);apply hK;clear hK K;apply zw (zk [0,2,9,14]);simp only[go_sem]
  cases hO:opA r.out b
  ·simp only[Bool.and_false,Bool.false_eq_true,if_false]
   apply zc rfl<;>intro hc<;>(try simp only[go_sem] at hc)
   apply zq
   refine zb fun K hK=>?_;simp only[go_sem,ty203]
   refine zh (alow_ok r.out) rfl (by simp only[go_sem,i64,ints]) (by simp only[go_sem,i64,ints]) ?_
   (try simp only[go_sem]);apply hK;clear hK K;apply zw (zk [0,2,9,29]);simp only[go_sem]
   by_cases hl:(left:Int)-scoreOf b<lowG r.out
   ·have el:decide ((left:Int)-scoreOf b<lowG r.out)=true:=by simpa using hl
    rw[if_pos hl]
    rw[el]
    apply zc rfl<;>intro hc<;>(try simp only[go_sem] at hc)
    apply zq
    refine awp_dreg2 [(0,some 1000)] follows (by decide +kernel) (by kernel_rfl) (by simp only[keysOk,List.mem_cons,List.not_mem_nil,forall_eq_or_imp,Oc.keyOf,go_sem];simp) fun K hK=>?_
    simp only[go_sem,ty203,hown,hnl];apply hK;clear hK K;apply zw (zk [8]);simp only[go_sem];apply ze;simp only[go_sem];exact⟨frzPL_tA _ _ _,by rw[frzL_tA]⟩
   ·have el:decide ((left:Int)-scoreOf b<lowG r.out)=false:=by simpa using hl
    rw[if_neg hl]
    rw[el]
    apply zc rfl<;>intro hc<;>(try simp only[go_sem] at hc)
    apply zx
    try simp only[go_sem]
    obtain⟨m,hm⟩:∃ m:Nat,(left:Int)-scoreOf b=m:=⟨((left:Int)-scoreOf b).toNat,by omega⟩
    rw[hm]
    have hcall:=hV m K (by omega) (by omega) hK
    have wk:IntKind.i64.wrap ((k:Int)+1-1)=k:=by rw[zI]<;>omega
    apply zq
    refine zb fun K hK=>?_;simp only[go_sem,wk]
    refine xcall_mut (hcall) [(1000,1000)] rfl (by simp only[go_sem,i64,ints,lend_tA,back_tA]) (by simp only[go_sem,i64,ints,lend_tA,back_tA]) (by rfl) (by rfl) ?_
    (try simp only[go_sem,lend_tA,back_tA]);apply hK;clear hK K;apply zw (zk [8]);simp only[go_sem];apply ze;simp only[go_sem];exact⟨frzPL_tA _ _ _,by rw[frzL_tA]⟩
  ·simp only[Bool.and_true,if_true]
   apply zc rfl<;>intro hc<;>(try simp only[go_sem] at hc)
   apply zq
   refine zb fun K hK=>?_;simp only[go_sem];apply hK;clear hK K;apply zw (zk [8]);simp only[go_sem];apply ze;simp only[go_sem];exact⟨frzPL_tA _ _ _,by rw[frzL_tA]⟩
 ·have e0:((left:Int)-scoreOf b == 0)=false:=by simpa using h0
  rw[decide_eq_false h0]
  simp only[Bool.false_and,Bool.false_eq_true,if_false]
  apply zq
  refine zb fun K hK=>?_;simp only[go_sem,e0,ty203];apply hK;clear hK K;apply zw (zk [0,2,9,14]);simp only[go_sem]
  apply zc rfl<;>intro hc<;>(try simp only[go_sem] at hc)
  apply zq
  refine zb fun K hK=>?_;simp only[go_sem,ty203]
  refine zh (alow_ok r.out) rfl (by simp only[go_sem,i64,ints]) (by simp only[go_sem,i64,ints]) ?_
  (try simp only[go_sem]);apply hK;clear hK K;apply zw (zk [0,2,9,29]);simp only[go_sem]
  by_cases hl:(left:Int)-scoreOf b<lowG r.out
  ·have el:decide ((left:Int)-scoreOf b<lowG r.out)=true:=by simpa using hl
   rw[if_pos hl]
   rw[el]
   apply zc rfl<;>intro hc<;>(try simp only[go_sem] at hc)
   apply zq
   refine awp_dreg2 [(0,some 1000)] follows (by decide +kernel) (by kernel_rfl) (by simp only[keysOk,List.mem_cons,List.not_mem_nil,forall_eq_or_imp,Oc.keyOf,go_sem];simp) fun K hK=>?_
   simp only[go_sem,ty203,hown,hnl];apply hK;clear hK K;apply zw (zk [8]);simp only[go_sem];apply ze;simp only[go_sem];exact⟨frzPL_tA _ _ _,by rw[frzL_tA]⟩
  ·have el:decide ((left:Int)-scoreOf b<lowG r.out)=false:=by simpa using hl
   rw[if_neg hl]
   rw[el]
   apply zc rfl<;>intro hc<;>(try simp only[go_sem] at hc)
   apply zx
   try simp only[go_sem]
   obtain⟨m,hm⟩:∃ m:Nat,(left:Int)-scoreOf b=m:=⟨((left:Int)-scoreOf b).toNat,by omega⟩
   rw[hm]
   have hcall:=hV m K (by omega) (by omega) hK
   have wk:IntKind.i64.wrap ((k:Int)+1-1)=k:=by rw[zI]<;>omega
   apply zq
   refine zb fun K hK=>?_;simp only[go_sem,wk]
   refine xcall_mut (hcall) [(1000,1000)] rfl (by simp only[go_sem,i64,ints,lend_tA,back_tA]) (by simp only[go_sem,i64,ints,lend_tA,back_tA]) (by rfl) (by rfl) ?_
   (try simp only[go_sem,lend_tA,back_tA]);apply hK;clear hK K;apply zw (zk [8]);simp only[go_sem];apply ze;simp only[go_sem];exact⟨frzPL_tA _ _ _,by rw[frzL_tA]⟩
theorem first_bad (p:Nat→Bool):∀ n,∃ j,j≤n∧(∀ k,k<j→p k=false)∧(j<n→p j=true)
 | 0=>⟨0,Nat.le_refl _,fun k hk=>by omega,fun h=>by omega⟩
 | n+1=>by
   obtain⟨j,h1,h2,h3⟩:=first_bad p n
   by_cases h:j<n
   ·exact⟨j,by omega,h2,fun _=>h3 h⟩
   ·have e:j=n:=by omega
    subst e
    cases hp:p j
    ·exact⟨j+1,Nat.le_refl _,fun k hk=>by
      by_cases e:k=j
      ·rw[e,hp]
      ·exact h2 k (by omega),fun h=>by omega⟩
    ·exact⟨j,by omega,h2,fun _=>hp⟩
theorem meanI_ok (s:Bool) (d:Int) (aims:List Am) (ix:Nat) (a:Am) (ha:aims[ix]? = some a) (hO:AOk d a.beds) (vals:List Int) (hv:vals.length=a.beds.length) (hV:∀ x∈vals,VOk x) :
 ∃ out,out.length=vals.length∧MCalls Tryz.prog 154 [(1000,.arr 3 1 (arrV vals))] [(1000,.arr 3 1 (arrV out))] [.r (.bo s),.r (lawV d aims),.r (i64 (ix:Int)),.os 1000 0 1 0 vals.length] (.r (i64 (meanS s d a.beds vals))):=by
 obtain⟨j,h1,h2,h3⟩:=first_bad (badA a.beds d vals) a.beds.length
 have h:=meanW_ok s d aims ix a ha hO vals hv hV j h1 h2 h3
 have e:(if j<a.beds.length then 2000000000 else meanZ s d a.beds (vals.map zN))=meanS s d a.beds vals:=by
  unfold meanS
  by_cases hj:j<a.beds.length
  ·rw[if_pos hj,if_pos (List.any_eq_true.2 ⟨j,List.mem_range.2 hj,h3 hj⟩)]
  ·rw[if_neg hj,if_neg]
   intro hh
   obtain⟨i,hi,hb⟩:=List.any_eq_true.1 hh
   have:=h2 i (by have:=List.mem_range.1 hi;omega)
   rw[hb] at this;cases this
 rw[e] at h
 exact⟨_,mixZ_len _ _,h⟩
def vY (b:Nat→Bool) (j:Nat) (v:AV):AV:=if b j then v else .r .un
def mkF (s:Bool) (d:Int) (aims:List Am) (tb:List RV) (nums:List Int) (ix m:Nat) (res:Int) (b:Nat→Bool) (vs:Nat→Nat):List (Nat × AV) :=
 [(0,.pt 1000 (vs 1000) 0),(1,.r (i64 (ix:Int))),(9,.os 38 (vs 38) 1 0 m),
  (40,vY b 0 (.pt 1000 (vs 1000) 0)),
  (41,vY b 1 (.pt 1000 (vs 1000) 0)),
  (42,vY b 2 (.pt 1000 (vs 1000) 0)),
  (43,vY b 3 (.r (.rp tb))),
  (44,vY b 4 (.r (.rp tb))),
  (45,vY b 5 (.r (.rp [.bo s,ints nums]))),
  (46,vY b 6 (.r (.bo s))),
  (47,vY b 7 (.pt 1000 (vs 1000) 0)),
  (48,vY b 8 (.pt 1000 (vs 1000) 0)),
  (49,vY b 9 (.pt 1000 (vs 1000) 0)),
  (50,vY b 10 (.r (.rp tb))),
  (51,vY b 11 (.r (.rp tb))),
  (52,vY b 12 (.r (.rp tb))),
  (53,vY b 13 (.r (.rp tb))),
  (54,vY b 14 (.r (lawV d aims))),
  (55,vY b 15 (.r (i64 (ix:Int)))),
  (56,vY b 16 (.os 38 (vs 38) 1 0 m)),
  (57,vY b 17 (.r (i64 res))),
  (8,vY b 18 (.r (i64 res)))]
def mkR (vis:List AV) (vals out:List Int) (b:Nat→Bool) (vs:Nat→Nat):List (Nat × RowC) :=
 [(38,.arr 3 1 (bif b 17 then arrV out else arrV vals)),(1000,.box vis)]
attribute [go_sem] mkF mkR vY
theorem mean_ok {r:Rk}{s:Bool}{nums:List Int}{st:Nat}(h:VsOk r s nums st) {k:Nat}(hk:k≤2) (hV:ValC r s nums st k) (ix:Nat) (a:Am) (ha:r.aims[ix]? = some a) (left:Nat) (K:List Int) (hlo:lowG r.out≤left) (hle:left≤st) (hK:OkK r s nums (ownV nums st) K) :
 MCalls Tryz.prog 112 [(1000,.box (visA r s nums st K))] [(1000,.box (visA r s nums st (meanM r s (ownV nums st) left (valM r s nums (ownV nums st) k) a K).2))] [.pt 1000 0 0,.r (i64 (ix:Int)),.r (i64 (left:Int)),.r (i64 ((k:Int)+1))] (.r (i64 (meanM r s (ownV nums st) left (valM r s nums (ownV nums st) k) a K).1)):=by
 obtain⟨at_,l⟩:=a
 have hal:ix<r.aims.length:=(List.getElem?_eq_some_iff.1 ha).1
 have hO:AOk r.d l:=h.ok.aims _ (zmo ha)
 have hst:=h.ok.start
 have hst2:=h.hi
 have hlen:=hO.len
 obtain⟨f,hf⟩:∃ f,f=valM r s nums (ownV nums st) k:=⟨_,rfl⟩
 have hMf:MfOk r s nums (ownV nums st) left f (valA r s nums (ownV nums st) k):=fun x K' q1 q2 q3=>by rw[hf];exact valM_ok h.ok h.nums h.own k (by omega) x K' q1 (by omega) q3
 have hnx:=fun K' (hK':OkK r s nums (ownV nums st) K') b hb=>next_ok h hk hV left K' b hlo hle hb hK'
 rw[← hf] at hnx ⊢
 have hst':∀ i,OkK r s nums (ownV nums st) (bedsM r.out (ownV nums st) left f (l.take i) K).2:=fun i=>(bedsM_ok hMf _ K (fun b hb=>hO.bed b (List.mem_of_mem_take hb)) hK).2
 obtain⟨hvals,_⟩:=bedsM_ok hMf l K hO.bed hK
 have hvlen:(bedsM r.out (ownV nums st) left f l K).1.length=l.length:=bedsM_len ..
 have hvok:∀ x∈(bedsM r.out (ownV nums st) left f l K).1,VOk x:=fun x hx=>by
  rw[hvals] at hx
  obtain⟨b,_,rfl⟩:=List.mem_map.1 hx
  exact nextA_vok h.own (valA_vok h.ok h.nums h.own k) _
 obtain⟨out,ho,hm⟩:=meanI_ok s r.d r.aims ix ⟨at_,l⟩ ha hO _ hvlen hvok
 refine mcalls_st (n:=58) (rs:=[.r (i64 (meanM r s (ownV nums st) left f ⟨at_,l⟩ K).1)]) _ _ [.tmp 8] Tryz.func112 rfl (by kernel_rfl) Tryz.ntmps112 rfl (by simp) rfl rfl fun C=>?_
 apply zq
 refine zb fun K hK=>?_;simp only[go_sem];apply hK;clear hK K;apply zw (zk [0,1,2,3]);simp only[go_sem]
 apply zq
 refine zb fun K hK=>?_;simp only[go_sem];apply hK;clear hK K;refine zw (sub_own 9 38 3 1 (by omega) rfl) ?_;apply zw (zk [0,1,2,3,9]);simp only[go_sem]
 repeat apply zq
 refine zb fun K hK=>?_;simp only[go_sem,ty203,ha,hal,aimR]
 intro _
 apply hK;clear hK K;apply zw (zk [0,1,2,3,9,24,25,26]);simp only[go_sem];apply zd
 refine awp_upto0 (n:=58) l.length (fun i vs=>[(0,.pt 1000 0 0),(1,.r (i64 (ix:Int))),(2,.r (i64 (left:Int))),(3,.r (i64 ((k:Int)+1))),(9,.os 38 (vs 38) 1 0 i),(24,.r (bedsR l)),(25,.r (i64 l.length)),(26,.r (i64 i))])
  (fun i=>[(38,.arr 3 1 (arrV (bedsM r.out (ownV nums st) left f (l.take i) K).1)),(1000,.box (visA r s nums st (bedsM r.out (ownV nums st) left f (l.take i) K).2))]) (fun _=>True) 0 (fit0_of [] (by intro j hj;(try simp only[upd]);(repeat' split);all_goals first|rfl|omega) ?_ ?_) (by omega) trivial ?_
 ·try simp only[go_sem]
 ·try simp only[go_sem]
  rfl
 ·intro i vs hvl hi _
  have hv0:=hvl 1000 (by omega)
  apply zq
  refine zb fun K hK=>?_;simp only[go_sem];apply hK;clear hK K;apply zw (zk [0,1,2,3,9,24,25,26,27]);simp only[go_sem]
  apply zq
  apply zc rfl<;>intro hc<;>(try simp only[go_sem] at hc)
  ·have hci:=hc
   obtain⟨x,hx⟩:=zol hci
   have hcall:=hnx _ (hst' i) x.b (hO.bed x (zmo hx))
   have hsn:bedsM r.out (ownV nums st) left f (l.take (i+1)) K=((bedsM r.out (ownV nums st) left f (l.take i) K).1++[(nextM r.out (ownV nums st) left f x.b (bedsM r.out (ownV nums st) left f (l.take i) K).2).1],(nextM r.out (ownV nums st) left f x.b (bedsM r.out (ownV nums st) left f (l.take i) K).2).2):=by
    rw[zto hx,bedsM_snoc]
   have hbl:(bedsM r.out (ownV nums st) left f (l.take i) K).1.length=i:=by rw[bedsM_len,List.length_take];omega
   rw[hsn]
   generalize bedsM r.out (ownV nums st) left f (l.take i) K=B at *
   generalize nextM r.out (ownV nums st) left f x.b B.2=N at *
   apply zx
   try simp only[go_sem]
   apply zq
   apply zd
   apply zq
   refine zb fun K hK=>?_;simp only[go_sem,hx,hci,bedR];apply hK;clear hK K;refine zw (zfP 11 11 [i64 x.b,i64 x.lo,i64 x.hi] (by omega) (by try simp only[go_sem]) (by try simp only[go_sem])) ?_;apply zw (zk [0,1,2,3,9,11,24,25,26]);simp only[go_sem];refine zb fun K hK=>?_;simp only[go_sem,hbl,List.length_map]
   refine xcall_mut (hcall) [(1000,1000)] rfl (by simp only[go_sem,i64,ints,lend_tA,back_tA,hv0,hbl,List.length_map]) (by simp only[go_sem,i64,ints,lend_tA,back_tA,hv0,hbl,List.length_map]) (by rfl) (by rfl) ?_
   (try simp only[go_sem,lend_tA,back_tA,hv0,hbl,List.length_map])
   refine⟨by omega,?_⟩
   apply hK;clear hK K;apply zw (zk [0,1,2,3,9,24,25,26]);simp only[go_sem];refine zb fun K hK=>?_;simp only[go_sem];(try simp (disch:=omega) only[zI]);apply hK;clear hK K
   try simp only[go_sem]
   refine⟨hci,fit0_of [] (by intro j hj;(try simp only[upd]);(repeat' split);all_goals first|rfl|omega|exact hvl _ hj) ?_ ?_⟩
   ·try simp only[go_sem]
   ·try simp only[go_sem]
    simp
  ·have hii:i=l.length:=by omega
   subst hii
   have e3:l.take l.length=l:=List.take_length
   have hMm:meanM r s (ownV nums st) left f ⟨at_,l⟩ K=(meanS s r.d l (bedsM r.out (ownV nums st) left f l K).1,(bedsM r.out (ownV nums st) left f l K).2):=rfl
   rw[hMm,e3]
   generalize bedsM r.out (ownV nums st) left f l K=B at *
   rw[hvlen] at hm
   apply zf;simp only[go_sem];apply zw (zk [0,1,9]);simp only[go_sem]
   apply zq
   refine awp_inv (n:=58) (mkF s r.d r.aims (tabC r s nums) nums ix l.length (meanS s r.d l B.1)) (mkR (visA r s nums st B.2) B.1 out) follows (by kernel_rfl) (by kernel_rfl) (by decide +kernel) (zj [] ?_ ?_) ?_ ?_
   ·simp only[go_sem,hv0,if_true,if_false,Bool.false_eq_true]
   ·simp only[go_sem,List.cons_append,List.nil_append]
   ·refine⟨fun b vs hdn hbk hde=>?_,fun b vs hdn hbk hde=>?_,fun b vs hdn hbk hde=>?_,fun b vs hdn hbk hde=>?_,fun b vs hdn hbk hde=>?_,fun b vs hdn hbk hde=>?_,fun b vs hdn hbk hde=>?_,fun b vs hdn hbk hde=>?_,fun b vs hdn hbk hde=>?_,fun b vs hdn hbk hde=>?_,fun b vs hdn hbk hde=>?_,fun b vs hdn hbk hde=>?_,fun b vs hdn hbk hde=>?_,fun b vs hdn hbk hde=>?_,fun b vs hdn hbk hde=>?_,fun b vs hdn hbk hde=>?_,fun b vs hdn hbk hde=>?_,fun b vs hdn hbk hde=>?_,fun b vs hdn hbk hde=>?_,trivial⟩
    ·skip
     have G:=dnT hdn hbk [1,18,2,3,4,5,6,17] (by decide +kernel)
     simp only[allB,and_true] at G
     (simp only[go_sem,upd,if_true,Bool.false_eq_true,if_false,hbk,G,ty203,hv0,ha,hal,aimR,hvlen,List.length_map])
     all_goals (refine zj [] ?_ ?_<;>(simp only[go_sem,upd,if_true,Bool.false_eq_true,if_false,hbk,G,ty203,hv0,ha,hal,aimR,hvlen,List.length_map]))
    ·skip
     have H:=upT hdn hde [0] (by decide +kernel)
     have G:=dnT hdn hbk [2,18,3,4,5,6,17] (by decide +kernel)
     simp only[allB,and_true] at H G
     (simp only[go_sem,upd,if_true,Bool.false_eq_true,if_false,hbk,H,G,ty203,hv0,ha,hal,aimR,hvlen,List.length_map])
     all_goals (refine zj [] ?_ ?_<;>(simp only[go_sem,upd,if_true,Bool.false_eq_true,if_false,hbk,H,G,ty203,hv0,ha,hal,aimR,hvlen,List.length_map]))
    ·skip
     have H:=upT hdn hde [1,0] (by decide +kernel)
     have G:=dnT hdn hbk [3,18,4,5,6,17] (by decide +kernel)
     simp only[allB,and_true] at H G
     (simp only[go_sem,upd,if_true,Bool.false_eq_true,if_false,hbk,H,G,ty203,hv0,ha,hal,aimR,hvlen,List.length_map])
     all_goals (refine zj [] ?_ ?_<;>(simp only[go_sem,upd,if_true,Bool.false_eq_true,if_false,hbk,H,G,ty203,hv0,ha,hal,aimR,hvlen,List.length_map]))
    ·skip
     have H:=upT hdn hde [2,1,0] (by decide +kernel)
     have G:=dnT hdn hbk [4,18,5,6,17] (by decide +kernel)
     simp only[allB,and_true] at H G
     (simp only[go_sem,upd,if_true,Bool.false_eq_true,if_false,hbk,H,G,ty203,hv0,ha,hal,aimR,hvlen,List.length_map])
     all_goals (refine zj [] ?_ ?_<;>(simp only[go_sem,upd,if_true,Bool.false_eq_true,if_false,hbk,H,G,ty203,hv0,ha,hal,aimR,hvlen,List.length_map]))
    ·skip
     have H:=upT hdn hde [3,2,1,0] (by decide +kernel)
     have G:=dnT hdn hbk [5,18,6,17] (by decide +kernel)
     simp only[allB,and_true] at H G
     (simp only[go_sem,upd,if_true,Bool.false_eq_true,if_false,hbk,H,G,ty203,hv0,ha,hal,aimR,hvlen,List.length_map])
     all_goals (refine zj [] ?_ ?_<;>(simp only[go_sem,upd,if_true,Bool.false_eq_true,if_false,hbk,H,G,ty203,hv0,ha,hal,aimR,hvlen,List.length_map]))
    ·skip
     have H:=upT hdn hde [4,3,2,1,0] (by decide +kernel)
     have G:=dnT hdn hbk [6,18,17] (by decide +kernel)
     simp only[allB,and_true] at H G
     (simp only[go_sem,upd,if_true,Bool.false_eq_true,if_false,hbk,H,G,ty203,hv0,ha,hal,aimR,hvlen,List.length_map])
     all_goals (refine zj [] ?_ ?_<;>(simp only[go_sem,upd,if_true,Bool.false_eq_true,if_false,hbk,H,G,ty203,hv0,ha,hal,aimR,hvlen,List.length_map]))
    ·skip
     have H:=upT hdn hde [5,4,3,2,1,0] (by decide +kernel)
     have G:=dnT hdn hbk [17,18] (by decide +kernel)
     simp only[allB,and_true] at H G
     (simp only[go_sem,upd,if_true,Bool.false_eq_true,if_false,hbk,H,G,ty203,hv0,ha,hal,aimR,hvlen,List.length_map])
     all_goals (refine zj [] ?_ ?_<;>(simp only[go_sem,upd,if_true,Bool.false_eq_true,if_false,hbk,H,G,ty203,hv0,ha,hal,aimR,hvlen,List.length_map]))
    ·skip
     have G:=dnT hdn hbk [8,18,9,10,11,12,13,14,17] (by decide +kernel)
     simp only[allB,and_true] at G
     (simp only[go_sem,upd,if_true,Bool.false_eq_true,if_false,hbk,G,ty203,hv0,ha,hal,aimR,hvlen,List.length_map])
     all_goals (refine zj [] ?_ ?_<;>(simp only[go_sem,upd,if_true,Bool.false_eq_true,if_false,hbk,G,ty203,hv0,ha,hal,aimR,hvlen,List.length_map]))
    ·skip
     have H:=upT hdn hde [7] (by decide +kernel)
     have G:=dnT hdn hbk [9,18,10,11,12,13,14,17] (by decide +kernel)
     simp only[allB,and_true] at H G
     (simp only[go_sem,upd,if_true,Bool.false_eq_true,if_false,hbk,H,G,ty203,hv0,ha,hal,aimR,hvlen,List.length_map])
     all_goals (refine zj [] ?_ ?_<;>(simp only[go_sem,upd,if_true,Bool.false_eq_true,if_false,hbk,H,G,ty203,hv0,ha,hal,aimR,hvlen,List.length_map]))
    ·skip
     have H:=upT hdn hde [8,7] (by decide +kernel)
     have G:=dnT hdn hbk [10,18,11,12,13,14,17] (by decide +kernel)
     simp only[allB,and_true] at H G
     (simp only[go_sem,upd,if_true,Bool.false_eq_true,if_false,hbk,H,G,ty203,hv0,ha,hal,aimR,hvlen,List.length_map])
     all_goals (refine zj [] ?_ ?_<;>(simp only[go_sem,upd,if_true,Bool.false_eq_true,if_false,hbk,H,G,ty203,hv0,ha,hal,aimR,hvlen,List.length_map]))
    ·skip
     have H:=upT hdn hde [9,8,7] (by decide +kernel)
     have G:=dnT hdn hbk [11,18,12,13,14,17] (by decide +kernel)
     simp only[allB,and_true] at H G
     (simp only[go_sem,upd,if_true,Bool.false_eq_true,if_false,hbk,H,G,ty203,hv0,ha,hal,aimR,hvlen,List.length_map])
     all_goals (refine zj [] ?_ ?_<;>(simp only[go_sem,upd,if_true,Bool.false_eq_true,if_false,hbk,H,G,ty203,hv0,ha,hal,aimR,hvlen,List.length_map]))
    ·skip
     have H:=upT hdn hde [10,9,8,7] (by decide +kernel)
     have G:=dnT hdn hbk [12,18,13,14,17] (by decide +kernel)
     simp only[allB,and_true] at H G
     (simp only[go_sem,upd,if_true,Bool.false_eq_true,if_false,hbk,H,G,ty203,hv0,ha,hal,aimR,hvlen,List.length_map])
     all_goals (refine zj [] ?_ ?_<;>(simp only[go_sem,upd,if_true,Bool.false_eq_true,if_false,hbk,H,G,ty203,hv0,ha,hal,aimR,hvlen,List.length_map]))
    ·skip
     have H:=upT hdn hde [11,10,9,8,7] (by decide +kernel)
     have G:=dnT hdn hbk [13,18,14,17] (by decide +kernel)
     simp only[allB,and_true] at H G
     (simp only[go_sem,upd,if_true,Bool.false_eq_true,if_false,hbk,H,G,ty203,hv0,ha,hal,aimR,hvlen,List.length_map])
     all_goals (refine zj [] ?_ ?_<;>(simp only[go_sem,upd,if_true,Bool.false_eq_true,if_false,hbk,H,G,ty203,hv0,ha,hal,aimR,hvlen,List.length_map]))
    ·skip
     have H:=upT hdn hde [12,11,10,9,8,7] (by decide +kernel)
     have G:=dnT hdn hbk [14,18,17] (by decide +kernel)
     simp only[allB,and_true] at H G
     (simp only[go_sem,upd,if_true,Bool.false_eq_true,if_false,hbk,H,G,ty203,hv0,ha,hal,aimR,hvlen,List.length_map])
     all_goals (refine zj [] ?_ ?_<;>(simp only[go_sem,upd,if_true,Bool.false_eq_true,if_false,hbk,H,G,ty203,hv0,ha,hal,aimR,hvlen,List.length_map]))
    ·skip
     have H:=upT hdn hde [13,12,11,10,9,8,7] (by decide +kernel)
     have G:=dnT hdn hbk [17,18] (by decide +kernel)
     simp only[allB,and_true] at H G
     (simp only[go_sem,upd,if_true,Bool.false_eq_true,if_false,hbk,H,G,ty203,hv0,ha,hal,aimR,hvlen,List.length_map])
     all_goals (refine zj [] ?_ ?_<;>(simp only[go_sem,upd,if_true,Bool.false_eq_true,if_false,hbk,H,G,ty203,hv0,ha,hal,aimR,hvlen,List.length_map]))
    ·skip
     have G:=dnT hdn hbk [17,18] (by decide +kernel)
     simp only[allB,and_true] at G
     (simp only[go_sem,upd,if_true,Bool.false_eq_true,if_false,hbk,G,ty203,hv0,ha,hal,aimR,hvlen,List.length_map])
     all_goals (refine zj [] ?_ ?_<;>(simp only[go_sem,upd,if_true,Bool.false_eq_true,if_false,hbk,G,ty203,hv0,ha,hal,aimR,hvlen,List.length_map]))
    ·skip
     have G:=dnT hdn hbk [17,18] (by decide +kernel)
     simp only[allB,and_true] at G
     (simp only[go_sem,upd,if_true,Bool.false_eq_true,if_false,hbk,G,ty203,hv0,ha,hal,aimR,hvlen,List.length_map])
     all_goals (refine zj [] ?_ ?_<;>(simp only[go_sem,upd,if_true,Bool.false_eq_true,if_false,hbk,G,ty203,hv0,ha,hal,aimR,hvlen,List.length_map]))
    ·skip
     have H:=upT hdn hde [6,14,15,16,5,13,4,12,3,11,2,10,1,9,0,8,7] (by decide +kernel)
     have G:=dnT hdn hbk [18] (by decide +kernel)
     simp only[allB,and_true] at H G
     (simp only[go_sem,upd,if_true,Bool.false_eq_true,if_false,hbk,H,G,ty203,hv0,ha,hal,aimR,hvlen,List.length_map])
     all_goals (refine xcall_mut hm [(1000,38)] rfl (by simp only[go_sem,i64,ints]) (by simp only[go_sem,i64,ints,List.length_map];try simp) (by rfl) (by rfl) ?_)
     all_goals (simp only[go_sem,mkF,mkR,vY,cond_true,cond_false,if_true,Bool.false_eq_true,if_false,hbk,H,G,ty203,hv0,ha,hal,aimR,hvlen,List.length_map])
     all_goals (refine zj [] ?_ ?_<;>(simp only[go_sem,upd,if_true,Bool.false_eq_true,if_false,hbk,H,G,ty203,hv0,ha,hal,aimR,hvlen,List.length_map]))
    ·skip
     have H:=upT hdn hde [0,1,2,3,4,5,6,7,8,9,10,11,12,13,14,15,16,17,17,17] (by decide +kernel)
     simp only[allB,and_true] at H
     (simp only[go_sem,upd,if_true,Bool.false_eq_true,if_false,hbk,H,ty203,hv0,ha,hal,aimR,hvlen,List.length_map])
     all_goals (refine zj [] ?_ ?_<;>(simp only[go_sem,upd,if_true,Bool.false_eq_true,if_false,hbk,H,ty203,hv0,ha,hal,aimR,hvlen,List.length_map]))
   intro b vs hb
   simp only[go_sem,hb,if_true,List.cons_append,List.nil_append];apply zw (zk [8]);simp only[go_sem];apply ze;simp only[go_sem];exact⟨frzPL_tA _ _ _,by rw[frzL_tA]⟩
end Go.Proofs.YtgfbenanljjgaaaGreat.Du.Th.Ai

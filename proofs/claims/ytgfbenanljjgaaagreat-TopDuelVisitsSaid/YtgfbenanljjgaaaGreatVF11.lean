/- Part 11 of the texts of this claim. -/
import Derived.Test.YtgfbenanljjgaaaGreatVF10
import Derived.Test.YtgfbenanljjgaaaGreatVF9
import Derived.Test.YtgfbenanljjgaaaGreatVF5
import Derived.ChangeShapes
import Derived.WideShapes
import Derived.OpenShut
import Derived.ShutString
import Derived.ChangeOld
import Derived.Carry
import Derived.Below
set_option linter.unusedSimpArgs false
set_option linter.unusedVariables false
namespace Go.Proofs.YtgfbenanljjgaaaGreat.Du
open Go Go.Oc
set_option maxRecDepth 8000
abbrev bAt (l:List Bd) (i:Nat):Bd:=l.getD i ⟨0,0,0⟩
def dotF (l:List Bd) (x:Nat→Int):Int:=((List.range l.length).map fun i=>x i*(bAt l i).b).sum
structure TruthN (den:Int) (l:List Bd) (x:Nat→Int):Prop where
 each:∀ i,i<l.length→(bAt l i).lo≤x i∧x i≤(bAt l i).hi
 sum:((List.range l.length).map x).sum=den
theorem range_bAt (l:List Bd):(List.range l.length).map (bAt l)=l:=by
 refine List.ext_getElem (by simp) fun i h1 h2=>?_
 simp [bAt,List.getD,List.getElem?_eq_getElem h2]
theorem sum_bAt (l:List Bd) (F:Bd→Int):((List.range l.length).map fun i=>F (bAt l i)).sum=(l.map F).sum:=by
 conv=>rhs;rw[← range_bAt l]
 rw[List.map_map];rfl
theorem sum_add {f g:Nat→Int}:∀ I:List Nat,(I.map fun i=>f i+g i).sum=(I.map f).sum+(I.map g).sum
 | []=>by simp
 | i::I=>by simp only[List.map_cons,List.sum_cons,sum_add I];omega
theorem sum_sub {f g:Nat→Int}:∀ I:List Nat,(I.map fun i=>f i-g i).sum=(I.map f).sum-(I.map g).sum
 | []=>by simp
 | i::I=>by simp only[List.map_cons,List.sum_cons,sum_sub I];omega
theorem bAt_mem {l:List Bd}{i:Nat}(h:i<l.length):bAt l i∈l:=by
 unfold bAt
 rw[List.getD_eq_getElem?_getD,List.getElem?_eq_getElem h];exact List.getElem_mem h
theorem mean_opt {most:Bool}{den:Int}{l:List Bd}(h:ChG den l) (hh:den≤hiS l):∃ x,TruthN den l x∧meanD most den l=overD most (dotF l x) den∧∀ y,TruthN den l y→leD most (dotF l x) (dotF l y):=by
 obtain⟨I,p,n,w,e⟩:=mean_idx (most:=most) h hh
 have hI:∀ i∈I,i<l.length:=fun i hi=>List.mem_range.1 (p.mem_iff.1 hi)
 have hlow:=h.low
 have hm0:∀ i∈I,0≤(bAt l i).hi-(bAt l i).lo:=fun i hi=>by
  have:=(h.each _ (bAt_mem (hI i hi))).2
  omega
 have hsm:(I.map fun i=>(bAt l i).hi-(bAt l i).lo).sum=hiS l-loS l:=by
  rw[perm_sum (f:=fun i=>(bAt l i).hi-(bAt l i).lo) p,sum_sub]
  rw[sum_bAt l (·.hi),sum_bAt l (·.lo)];rfl
 have hlo:loS l=(I.map fun i=>(bAt l i).lo).sum:=by
  rw[perm_sum (f:=fun i=>(bAt l i).lo) p,sum_bAt l (·.lo)];rfl
 have hlv:loV l=(I.map fun i=>(bAt l i).lo*(bAt l i).b).sum:=by
  rw[perm_sum (f:=fun i=>(bAt l i).lo*(bAt l i).b) p,sum_bAt l fun c=>c.lo*c.b];rfl
 have hdot:∀ x,dotF l x=(I.map fun i=>x i*(bAt l i).b).sum:=fun x=>(perm_sum (f:=fun i=>x i*(bAt l i).b) p).symm
 have hsum:∀ x:Nat→Int,((List.range l.length).map x).sum=(I.map x).sum:=fun x=>(perm_sum (f:=x) p).symm
 obtain⟨x,x1,x2,x3⟩:=greedy_amt (m:=fun i=>(bAt l i).hi-(bAt l i).lo) (v:=fun i=>(bAt l i).b) (I:=I) (left:=den-loS l) (s:=loV l) n hm0 (by omega) (by omega)
 have hd:dotF l (fun i=>(bAt l i).lo+x i)=loV l+(I.map fun i=>x i*(bAt l i).b).sum:=by
  rw[hdot,hlv,← sum_add]
  congr 1
  exact List.map_congr_left fun i _=>by rw[Int.add_mul]
 refine⟨fun i=>(bAt l i).lo+x i,⟨fun i hi=>?_,?_⟩,?_,fun y hy=>?_⟩
 ·have:=x1 i (p.mem_iff.2 (List.mem_range.2 hi))
  omega
 ·rw[hsum,sum_add,x2,← hlo];omega
 ·rw[e,hd,x3]
 ·have hfe:∀ i∈I,0≤y i-(bAt l i).lo∧y i-(bAt l i).lo≤(bAt l i).hi-(bAt l i).lo:=fun i hi=>by
   have:=hy.each i (hI i hi)
   omega
  have hys:(I.map fun i=>y i-(bAt l i).lo).sum=den-loS l:=by
   rw[sum_sub,← hsum y,hy.sum,← hlo]
  have hyd:dotF l y=loV l+(I.map fun i=>(y i-(bAt l i).lo)*(bAt l i).b).sum:=by
   rw[hdot,hlv,← sum_add]
   congr 1
   exact List.map_congr_left fun i _=>by rw[Int.sub_mul];omega
  rw[hd,hyd]
  have hf:=feas_map (m:=fun i=>(bAt l i).hi-(bAt l i).lo) (v:=fun i=>(bAt l i).b) (x:=fun i=>y i-(bAt l i).lo) hfe
  have hdm:=dot_map (m:=fun i=>(bAt l i).hi-(bAt l i).lo) (v:=fun i=>(bAt l i).b) (x:=fun i=>y i-(bAt l i).lo) I
  cases most with
  | false =>
    have:=fill_min hf (den-loS l) (loV l) (List.pairwise_map.2 (w.imp fun h=>by simpa [leD] using h)) hys
    rw[hdm,x3] at this
    simp only[leD,Bool.false_eq_true,if_false]
    omega
  | true =>
    have:=fill_max hf (den-loS l) (loV l) (List.pairwise_map.2 (w.imp fun h=>by simpa [leD] using h)) hys
    rw[hdm,x3] at this
    simp only[leD,if_true]
    omega
theorem bAt_chW (f:Int→Int) (l:List Bd) {i:Nat}(hi:i<l.length):bAt (chW f l) i=⟨f (bAt l i).b,(bAt l i).lo,(bAt l i).hi⟩:=by simp [chW,bAt,List.getD,List.getElem?_eq_getElem hi]
theorem chW_len (f:Int→Int) (l:List Bd):(chW f l).length=l.length:=by simp [chW]
theorem dotF_chW (f:Int→Int) (l:List Bd) (x:Nat→Int):dotF (chW f l) x=((List.range l.length).map fun i=>x i*f (bAt l i).b).sum:=by
 unfold dotF
 rw[chW_len]
 congr 1
 exact List.map_congr_left fun i hi=>by rw[bAt_chW f l (List.mem_range.1 hi)]
theorem TruthN.chW {den:Int}{l:List Bd}{x:Nat→Int}{f g:Int→Int}(h:TruthN den (chW f l) x):TruthN den (chW g l) x:=by
 refine⟨fun i hi=>?_,?_⟩
 ·rw[chW_len] at hi
  have:=h.each i (by rw[chW_len];exact hi)
  rw[bAt_chW f l hi] at this
  rw[bAt_chW g l hi]
  exact this
 ·have:=h.sum
  rw[chW_len] at this ⊢
  exact this
theorem lowest_eq {r1 r2:Ru}(h:r1.out=r2.out):lowestR r1=lowestR r2:=by unfold lowestR;rw[h]
structure LeR (r1 r2:Ru) (m:Bool):Prop where
 start:r1.start=r2.start
 out:r1.out=r2.out
 n:r1.ends.length=r2.ends.length
 aims:∀ a1∈r1.aims,∃ a2∈r2.aims,∀ f g:Int→Int,(∀ b,0≤b→b≤499→0≤f b∧f b≤1000000)→(∀ b,0≤b→b≤499→0≤g b∧g b≤1000000)→(∀ b,0≤b→b≤499→f b≤g b)→meanD m r1.d (chW f a1.beds)≤meanD m r2.d (chW g a2.beds)
 ends:∀ k,k<r1.ends.length→endsD m (r2.ends.getD k (0,0))≤endsD m (r1.ends.getD k (0,0))
theorem LeR.means {r1 r2:Ru}{m:Bool}(h:LeR r1 r2 m) (hne:r1.aims≠[]) {f g:Int→Int}(hf:∀ b,0≤b→b≤499→0≤f b∧f b≤1000000) (hg:∀ b,0≤b→b≤499→0≤g b∧g b≤1000000) (hfg:∀ b,0≤b→b≤499→f b≤g b) :
 maxL (meansV r1 m f)≤maxL (meansV r2 m g):=by
 obtain⟨a,ha,e⟩:=List.mem_map.1 (maxL_mem (l:=meansV r1 m f) (by simpa [meansV] using hne))
 obtain⟨a2,h2,h3⟩:=h.aims a ha
 rw[← e]
 exact Int.le_trans (h3 f g hf hg hfg) (le_maxL (List.mem_map.2 ⟨a2,h2,rfl⟩))
theorem LeR.after {r1 r2:Ru}{m:Bool}(h:LeR r1 r2 m) (he:∀ x∈r1.ends,endOk x=true) {T T':List (List Int)}{k y:Nat}(hk:k<r1.ends.length)
 (hT:k+1<r1.ends.length→0≤(T.getD (k+1) []).getD y 0∧(T.getD (k+1) []).getD y 0≤(T'.getD (k+1) []).getD y 0):afterD r1 m T k y≤afterD r2 m T' k y:=by
 unfold afterD
 rw[← h.n]
 split
 ·omega
 ·rename_i hn
  obtain⟨h0,h1⟩:=hT (by omega)
  have hm:r1.ends.getD k (0,0)∈r1.ends:=by
   rw[List.getD_eq_getElem?_getD,List.getElem?_eq_getElem hk];exact List.getElem_mem _
  obtain⟨g1,g2,g3⟩:=endOk_le (he _ hm)
  have hd:=h.ends k hk
  refine overD_mono (fun h=>h) (by omega) ?_
  have h3:0≤1000000-endsD m (r1.ends.getD k (0,0)):=by unfold endsD;split<;>omega
  exact Int.mul_le_mul h1 (by omega) h3 (by omega)
theorem next_le2 {r1 r2:Ru}{m:Bool}{T T':List (List Int)}{k st left:Nat}{val val':Nat→Int}{last:Bool}{b:Int}(ho:r1.out=r2.out) (b0:0≤b) (b1:b≤499) (hst:(st:Int)≤r1.start) (hl:(left:Int)≤r1.start)
 (hA:∀ y:Nat,(y:Int)≤r1.start→afterD r1 m T k y≤afterD r2 m T' k y) (hv:last=false→∀ y:Nat,(y:Int)≤r1.start→val y≤val' y) :
 nextV r1 m T k st val last left b≤nextV r2 m T' k st val' last left b:=by
 obtain⟨s0,s1⟩:=score_le b0 b1
 unfold nextV
 rw[lowest_eq ho,ho]
 split
 ·omega
 ·split
  ·exact hA st hst
  ·split
   ·exact hA _ (by omega)
   ·rename_i hn
    exact hv (by simpa using hn) _ (by omega)
theorem LeR.val {r1 r2:Ru}{m:Bool}(hL:LeR r1 r2 m) (hA:AimsG r1) (hA2:AimsG r2) {T T':List (List Int)}{k st:Nat}(h:VisG r1 T k st) (h':VisG r2 T' k st) (hT:RowLe r1 T T' k) :
 ∀ n left:Nat,(left:Int)≤r1.start→valV r1 m T k st n left≤valV r2 m T' k st n left
 | 0,_,_=>by simp only[valV];omega
 | n+1, left, hl=>by
   simp only[valV]
   have hl2:(left:Int)≤r2.start:=by rw[← hL.start];exact hl
   exact hL.means hA.ne (fun b b0 b1=>nextV_le h hl b0 b1 fun _ x hx=>valV_le h hA n x hx) (fun b b0 b1=>nextV_le h' hl2 b0 b1 fun _ x hx=>valV_le h' hA2 n x hx)
    fun b b0 b1=>next_le2 hL.out b0 b1 h.st40 hl (fun y hy=>hL.after h.ends h.kk fun hk=>⟨h.row0 hy hk,hT hk y hy⟩) fun _ y hy=>hL.val hA hA2 h h' hT n y hy
theorem LeR.tab {r1 r2:Ru}{m:Bool}(hL:LeR r1 r2 m) (h1:RuG r1) (h2:RuG r2):∀ i,i≤r1.ends.length→∀ j y:Nat,(y:Int)≤r1.start→((tabI r1 m i).getD j []).getD y 0≤((tabI r2 m i).getD j []).getD y 0
 | 0,_,j,y,_=>by simp only[tabI,hL.n];omega
 | i+1, hi, j, y, hy=>by
   have ih:=hL.tab h1 h2 i (by omega)
   have hy2:(y:Int)≤r2.start:=by rw[← hL.start];exact hy
   have hn:=hL.n
   simp only[tabI];rw[← hn]
   by_cases e:j=r1.ends.length-1-i
   ·subst e
    have g0:((tabI r1 m i).set (r1.ends.length-1-i) (rowV r1 m (tabI r1 m i) (r1.ends.length-1-i))).getD (r1.ends.length-1-i) []=rowV r1 m (tabI r1 m i) (r1.ends.length-1-i):=by
     rw[List.getD_eq_getElem?_getD,List.getElem?_set_self (by rw[tabI_len];omega)];rfl
    have g1:((tabI r2 m i).set (r1.ends.length-1-i) (rowV r2 m (tabI r2 m i) (r1.ends.length-1-i))).getD (r1.ends.length-1-i) []=rowV r2 m (tabI r2 m i) (r1.ends.length-1-i):=by
     rw[List.getD_eq_getElem?_getD,List.getElem?_set_self (by rw[tabI_len];omega)];rfl
    rw[g0,g1,rowV_getD _ _ _ _ _ hy,rowV_getD _ _ _ _ _ hy2,lowest_eq hL.out]
    split
    ·omega
    ·have v2:=vis_at h2 m i (by omega) y hy2
     rw[← hn] at v2
     exact hL.val h1.aims h2.aims (vis_at h1 m i (by omega) y hy) v2 (fun _ z hz=>ih _ z hz) 3 y hy
   ·have g0:∀ (A:List (List Int)) (x:List Int),(A.set (r1.ends.length-1-i) x).getD j []=A.getD j []:=fun A x=>by
     rw[List.getD_eq_getElem?_getD,List.getD_eq_getElem?_getD,List.getElem?_set_ne (fun h=>e h.symm)]
    rw[g0,g0]
    exact ih j y hy
theorem LeR.tabF {r1 r2:Ru}{m:Bool}(hL:LeR r1 r2 m) (h1:RuG r1) (h2:RuG r2) {j y:Nat}(hy:(y:Int)≤r1.start):((Go.Proofs.YtgfbenanljjgaaaGreat.Du.tabF r1 m).getD j []).getD y 0≤((Go.Proofs.YtgfbenanljjgaaaGreat.Du.tabF r2 m).getD j []).getD y 0:=by
 unfold Go.Proofs.YtgfbenanljjgaaaGreat.Du.tabF
 rw[← hL.n]
 exact hL.tab h1 h2 _ (Nat.le_refl _) j y hy
structure NarB (l l':List Bd):Prop where
 len:l'.length=l.length
 each:∀ i,i<l.length→(bAt l' i).b=(bAt l i).b∧(bAt l i).lo≤(bAt l' i).lo∧(bAt l' i).hi≤(bAt l i).hi
theorem TruthN.wide {den:Int}{l l':List Bd}{x:Nat→Int}{f g:Int→Int}(hN:NarB l l') (h:TruthN den (Go.Proofs.YtgfbenanljjgaaaGreat.Du.chW f l') x):TruthN den (Go.Proofs.YtgfbenanljjgaaaGreat.Du.chW g l) x:=by
 refine⟨fun i hi=>?_,?_⟩
 ·rw[chW_len] at hi
  have h1:=h.each i (by rw[chW_len,hN.len];exact hi)
  rw[bAt_chW f l' (by rw[hN.len];exact hi)] at h1
  rw[bAt_chW g l hi]
  have h2:=hN.each i hi
  simp only at h1 ⊢
  omega
 ·have:=h.sum
  rw[chW_len,hN.len] at this
  rw[chW_len];exact this
theorem ruE_of {r:Ru}(hc:checkV r.d r.aims=0) (hs:2≤r.start∧r.start≤40) (ho:0≤r.out∧r.out≤2) (hn:1≤r.ends.length∧r.ends.length≤10) (he:∀ x∈r.ends,endOk x=true) (hl:lastE r=1000000):ruE r=0:=by
 have he':=List.all_eq_true.2 he
 simp [ruE,hc,he',hl,hs,ho,hn]
theorem aims_all {r:Ru}(h:checkV r.d r.aims=0):∀ a∈r.aims,aimOk r.d a=true:=by
 unfold checkV at h
 split at h
 ·cases h
 ·split at h
  ·cases h
  ·split at h
   ·rename_i h3;exact List.all_eq_true.1 h3
   ·cases h
theorem seqOk_map:∀ {l l':List Bd}{p:Option Int},l'.map (·.b)=l.map (·.b)→seqOk p l'=seqOk p l
 | [],[],_,_=>rfl
 | [],c::l',_,h=>by simp at h
 | c::l,[],_,h=>by simp at h
 | c::l, c'::l', p, h=>by
   simp only[List.map_cons,List.cons.injEq] at h
   unfold seqOk
   rw[h.1,seqOk_map h.2]
theorem aimOk_parts {d:Int}{a:Am}(h:aimOk d a=true):bedOk a.at_=true∧a.beds≠[]∧seqOk none a.beds=true∧(∀ x∈a.beds,0≤x.lo∧x.lo≤x.hi∧x.hi≤d)∧loS a.beds≤d∧d≤hiS a.beds:=by
 simp only[aimOk,Bool.and_eq_true,decide_eq_true_eq] at h
 obtain⟨⟨⟨⟨⟨h1,h2⟩,h3⟩,h4⟩,h5⟩,h6⟩:=h
 refine⟨h1,fun e=>by rw[e] at h2;simp at h2,h3,fun x hx=>?_,h5,h6⟩
 simp only[chOk,List.all_eq_true,Bool.and_eq_true,decide_eq_true_eq] at h4
 have:=h4 x hx
 omega
set_option maxHeartbeats 4000000
theorem tables_ok (A B:List (List Int)) (n st:Nat) (hn:n≤1000) (hs:st≤1000) (h1:A.length=n∧∀ r∈A,r.length=st+1) (h2:B.length=n∧∀ r∈B,r.length=st+1) :
 ACalls Tryz.prog 26 [tabR A,tabR B,i64 (n:Int),i64 (st:Int)] (.bo true):=by
 have w1:IntKind.i64.wrap ((st:Int)+1)=(st:Int)+1:=by rw[zI]<;>omega
 refine zas (rs:=[.bo true]) [.tmp 8] Tryz.func26 rfl (by kernel_rfl) Tryz.ntmps26 rfl (by simp) rfl fun C vs=>?_
 apply zq
 refine zb fun K hK=>?_;simp only[go_sem];apply hK;apply zw (zk [0,1,2,3]);simp only[go_sem]
 repeat apply zq
 refine zb fun K hK=>?_;simp only[go_sem,h1.1,h2.1,List.length_map,bne_self_eq_false]
 repeat intro _
 apply hK;apply zw (zk [0,1,2,3,19]);simp only[go_sem]
 apply zc rfl<;>intro hc<;>(try simp only[go_sem] at hc)
 apply zx
 try simp only[go_sem]
 repeat apply zq
 refine zb fun K hK=>?_;simp only[go_sem];apply hK;apply zw (zk [0,1,2,3,9]);simp only[go_sem];apply zd
 refine zup (n:=43) n (fun i vs=>[(0,.r (tabR A)),(1,.r (tabR B)),(2,.r (i64 (n:Int))),(3,.r (i64 (st:Int))),(9,.r (i64 (i:Int)))])
  (fun i=>[]) (fun _=>True) 0 (zfo [] ?_ ?_) (Nat.zero_le _) trivial ?_
 ·try simp only[go_sem]
 ·try simp only[go_sem]
 ·intro i vs hi _
  by_cases hin:i<n
  ·obtain⟨ra,hra⟩:=zol (l:=A) (i:=i) (by omega)
   obtain⟨rb,hrb⟩:=zol (l:=B) (i:=i) (by omega)
   have la:=h1.2 ra (zmo hra)
   have lb:=h2.2 rb (zmo hrb)
   have hiA:i<A.length:=by omega
   have hiB:i<B.length:=by omega
   have g1:decide ((i:Int)<(n:Int))=true:=decide_eq_true (by omega)
   have e1:(((st+1:Nat):Int) != (st:Int)+1)=false:=by simp
   repeat apply zq
   refine zb fun K hK=>?_;simp only[go_sem,hin];apply hK;apply zw (zk [0,1,2,3,9,22]);simp only[go_sem]
   apply zc rfl<;>intro hc<;>(try simp only[go_sem] at hc)
   apply zx
   try simp only[go_sem]
   apply zq
   apply zd
   apply zq
   refine zb fun K hK=>?_;simp only[go_sem,hra,hrb,la,lb,hiA,hiB,w1,e1,List.length_map,bne_self_eq_false]
   repeat intro _
   apply hK;apply zw (zk [0,1,2,3,9,42]);simp only[go_sem]
   apply zc rfl<;>intro hc<;>(try simp only[go_sem] at hc)
   apply zx
   try simp only[go_sem]
   refine zb fun K hK=>?_;simp only[go_sem];(try simp (disch:=omega) only[zI]);apply hK
   try simp only[go_sem]
   refine⟨by omega,zfo [] ?_ ?_⟩
   ·try simp only[go_sem]
   ·try simp only[go_sem]
  ·have hie:i=n:=by omega
   subst hie
   repeat apply zq
   refine zb fun K hK=>?_;simp only[go_sem,Nat.lt_irrefl];apply hK;apply zw (zk [22]);simp only[go_sem]
   apply zc rfl<;>intro hc<;>(try simp only[go_sem] at hc)
   apply zf;simp only[go_sem]
   apply zq
   refine zb fun K hK=>?_;simp only[go_sem];apply hK;apply zw (zk [8]);simp only[go_sem];apply ze;simp only[go_sem]
theorem tab_rows {r:Ru}(h:ruE r=0) (most:Bool):(tabF r most).length=r.ends.length∧∀ row∈tabF r most,row.length=r.start.toNat+1:=by
 have hl:(tabF r most).length=r.ends.length:=tabI_len r most _
 refine⟨hl,fun row hr=>?_⟩
 obtain⟨j,hj⟩:=List.getElem?_of_mem hr
 have hjl:=(List.getElem?_eq_some_iff.1 hj).1
 have:=tabI_get r most r.ends.length (Nat.le_refl _) j (by omega) (by omega)
 unfold tabF at hj
 rw[hj] at this
 injection this with this
 rw[this]
 simp [rowV]
abbrev u8Q (n:Nat):RV:=.it .u8 (n:Int)
def bedN (v:Nat):Nat:=if v % 16=0 then 0 else 100*(1+v % 3)+1+v / 3 % 10
def posN (b:Int):List Bd→Nat
 | []=>0
 | x::L=>if x.b≤b then posN b L+1 else 0
def seenB (b:Int) (L:List Bd) (k:Nat):Bool:=(L.take k).any fun x=>x.b == b
def scN (d left:Int) (v:Nat × Nat × Nat):Bd:=⟨bedN v.1,left*v.2.1 / 512,min d (left*v.2.1 / 512+((v.2.2 % 20:Nat):Int))⟩
def scS (d:Int) (s:List Bd × Int) (v:Nat × Nat × Nat):List Bd × Int :=
 if seenB (bedN v.1) s.1 (posN (bedN v.1) s.1) then s
 else (s.1.take (posN (bedN v.1) s.1)++[scN d s.2 v]++s.1.drop (posN (bedN v.1) s.1),s.2-s.2*v.2.1 / 512)
def triK (a:List Nat) (k:Nat):Nat × Nat × Nat:=(a.getD (3*k) 0,a.getD (3*k+1) 0,a.getD (3*k+2) 0)
def scF (d:Int) (a:List Nat):Nat→List Bd × Int
 | 0=>([],d)
 | k+1=>scS d (scF d a k) (triK a k)
def headD (d:Int):List Bd→List Bd
 | []=>[⟨201,0,d⟩]
 | x::L=>⟨x.b,x.lo,d⟩::L
def scA (d:Int) (a:List Nat):Am:=⟨201,headD d (scF d a 4).1⟩
def scL (d:Int) (as_:List (List Nat)):List Am:=if as_.length=0 then [⟨201,headD d []⟩] else (as_.take 3).map (scA d)
structure ScI (d:Int) (s:List Bd × Int):Prop where
 left:0≤s.2∧s.2≤d
 lo:loS s.1+s.2=d
 ok:∀ x∈s.1,0≤x.lo∧x.lo≤x.hi∧x.hi≤d∧(x.b=0∨bedOk x.b=true)
 asc:s.1.Pairwise fun x y=>x.b<y.b
theorem bedN_ok (v:Nat):(bedN v:Int)=0∨bedOk (bedN v)=true:=by
 unfold bedN
 split
 ·exact .inl rfl
 ·right
  have h1:=Nat.mod_lt v (show 3 > 0 by omega)
  have h2:=Nat.mod_lt (v / 3) (show 10 > 0 by omega)
  generalize v % 3=x at *
  generalize v / 3 % 10=y at *
  unfold bedOk
  simp only[Bool.or_eq_true,Bool.and_eq_true,decide_eq_true_eq]
  right
  refine⟨⟨⟨by omega,by omega⟩,by omega⟩,by omega⟩
theorem pos_split {b:Int}:∀ {L:List Bd},L.Pairwise (fun x y=>x.b<y.b)→posN b L≤L.length∧(∀ x∈L.take (posN b L),x.b≤b)∧(∀ x∈L.drop (posN b L),b<x.b)
 | [],_=>by simp [posN]
 | x::L, h=>by
   obtain⟨h1,h2⟩:=List.pairwise_cons.1 h
   obtain⟨i1,i2,i3⟩:=pos_split (b:=b) h2
   unfold posN
   by_cases c:x.b≤b
   ·rw[if_pos c]
    refine⟨by simp;omega,?_,?_⟩
    ·intro y hy
     rw[List.take_succ_cons,List.mem_cons] at hy
     rcases hy with rfl|hy
     ·exact c
     ·exact i2 y hy
    ·intro y hy
     rw[List.drop_succ_cons] at hy
     exact i3 y hy
   ·rw[if_neg c]
    refine⟨by simp,by simp,?_⟩
    intro y hy
    rw[List.drop_zero,List.mem_cons] at hy
    rcases hy with rfl|hy
    ·omega
    ·have:=h1 y hy;omega
theorem loS_app (l m:List Bd):loS (l++m)=loS l+loS m:=by simp [loS]
theorem scS_ok {d:Int}(hd:0≤d) {s:List Bd × Int}(h:ScI d s) (v:Nat × Nat × Nat) (hv:v.2.1<256):ScI d (scS d s v):=by
 obtain⟨h1,h2,h3,h4⟩:=h
 obtain⟨p1,p2,p3⟩:=pos_split (b:=bedN v.1) h4
 unfold scS
 split
 ·exact⟨h1,h2,h3,h4⟩
 ·rename_i hs
  have hne:∀ x∈s.1.take (posN (bedN v.1) s.1),x.b<bedN v.1:=fun x hx=>by
   have:=p2 x hx
   by_cases e:x.b=bedN v.1
   ·exfalso
    apply hs
    unfold seenB
    rw[List.any_eq_true]
    exact⟨x,hx,by simp [e]⟩
   ·omega
  have c1:=Int.mul_nonneg h1.1 (show (0:Int)≤v.2.1 by omega)
  have c2:s.2*(v.2.1:Int)≤s.2*255:=Int.mul_le_mul_of_nonneg_left (by omega) h1.1
  have c3:0≤s.2*(v.2.1:Int) / 512∧s.2*(v.2.1:Int) / 512≤s.2:=⟨by omega,by omega⟩
  have hsplit:=List.take_append_drop (posN (bedN v.1) s.1) s.1
  refine⟨⟨by simp only;omega,by simp only;omega⟩,?_,?_,?_⟩
  ·have e1:loS (s.1.take (posN (bedN v.1) s.1))+loS (s.1.drop (posN (bedN v.1) s.1))=loS s.1:=by rw[← loS_app,hsplit]
   have e2:loS [scN d s.2 v]=s.2*(v.2.1:Int) / 512:=by simp [loS,scN]
   simp only[loS_app,e2]
   omega
  ·intro x hx
   simp only[List.mem_append,List.mem_singleton] at hx
   rcases hx with (hx|rfl)|hx
   ·exact h3 x (List.mem_of_mem_take hx)
   ·have:=bedN_ok v.1
    simp only[scN];exact⟨c3.1,by omega,by omega,this⟩
   ·exact h3 x (List.mem_of_mem_drop hx)
  ·have hp4:(s.1.take (posN (bedN v.1) s.1)++s.1.drop (posN (bedN v.1) s.1)).Pairwise fun x y=>x.b<y.b:=by rw[hsplit];exact h4
   obtain⟨q1,q2,q3⟩:=List.pairwise_append.1 hp4
   simp only[List.append_assoc];rw[List.pairwise_append]
   refine⟨q1,?_,?_⟩
   ·rw[List.singleton_append,List.pairwise_cons]
    exact⟨fun y hy=>p3 y hy,q2⟩
   ·intro x hx y hy
    rw[List.singleton_append,List.mem_cons] at hy
    rcases hy with rfl|hy
    ·exact hne x hx
    ·have:=hne x hx;have:=p3 y hy;omega
theorem scF_ok {d:Int}(hd:0≤d) {a:List Nat}(ha:∀ n∈a,n<256):∀ k,ScI d (scF d a k)
 | 0=>⟨⟨hd,Int.le_refl _⟩,by simp [scF,loS],by simp [scF],by simp [scF]⟩
 | k+1=>scS_ok hd (scF_ok hd ha k) _ (by
   show a.getD (3*k+1) 0<256
   rw[List.getD_eq_getElem?_getD]
   cases e:a[3*k+1]? with
   | none=>simp
   | some x=>exact ha x (List.mem_of_getElem? e))
theorem scF_len {d:Int}(a:List Nat):∀ k,(scF d a k).1.length≤k
 | 0=>by simp [scF]
 | k+1=>by
   have ih:=scF_len (d:=d) a k
   simp only[scF,scS]
   split
   ·omega
   ·simp only[List.length_append,List.length_cons,List.length_nil,List.length_take,List.length_drop];omega
theorem seq_of:∀ {L:List Bd}{p:Option Int},(∀ x∈L,x.b=0∨bedOk x.b=true)→L.Pairwise (fun x y=>x.b<y.b)→(∀ q,p=some q→∀ x∈L,q<x.b)→seqOk p L=true
 | [],_,_,_,_=>rfl
 | x::L, p, hb, hp, hq=>by
   obtain⟨h1,h2⟩:=List.pairwise_cons.1 hp
   have ih:=seq_of (L:=L) (p:=some x.b) (fun y hy=>hb y (List.mem_cons_of_mem x hy)) h2 fun q e y hy=>by
    injection e with e
    subst e
    exact h1 y hy
   unfold seqOk
   rw[ih,Bool.and_true,Bool.and_eq_true]
   refine⟨?_,?_⟩
   ·rcases hb x (by simp) with h|h
    ·simp [h]
    ·simp [h]
   ·cases p with
    | none=>rfl
    | some q=>simpa using hq q rfl x (by simp)
theorem hiS_nn:∀ {L:List Bd},(∀ x∈L,0≤x.hi)→0≤hiS L
 | [],_=>by simp [hiS]
 | x::L, h=>by
   have ih:=hiS_nn (L:=L) fun y hy=>h y (List.mem_cons_of_mem x hy)
   have:=h x (by simp)
   have e:hiS (x::L)=x.hi+hiS L:=by simp [hiS]
   omega
theorem head_ok {d:Int}(hd:4≤d∧d≤63) {s:List Bd × Int}(h:ScI d s):aimOk d ⟨201,headD d s.1⟩=true:=by
 obtain⟨h1,h2,h3,h4⟩:=h
 obtain⟨L,left⟩:=s
 simp only at h1 h2 h3 h4 ⊢
 unfold aimOk
 simp only[Bool.and_eq_true,decide_eq_true_eq]
 cases L with
 | nil =>
   refine⟨⟨⟨⟨⟨rfl,rfl⟩,rfl⟩,?_⟩,?_⟩,?_⟩
   ·simp [headD,chOk];omega
   ·simp [headD,loS];omega
   ·simp [headD,hiS]
 | cons x L =>
   have hx:=h3 x (by simp)
   have hL:∀ y∈L,0≤y.lo∧y.lo≤y.hi∧y.hi≤d∧(y.b=0∨bedOk y.b=true):=fun y hy=>h3 y (List.mem_cons_of_mem x hy)
   have hn:=hiS_nn (L:=L) fun y hy=>by have:=hL y hy;omega
   have e1:loS (x::L)=x.lo+loS L:=by simp [loS]
   refine⟨⟨⟨⟨⟨rfl,rfl⟩,?_⟩,?_⟩,?_⟩,?_⟩
   ·refine seq_of (fun y hy=>?_) ?_ (fun q e=>by cases e)
    ·simp only[headD,List.mem_cons] at hy
     rcases hy with rfl|hy
     ·exact hx.2.2.2
     ·exact (hL y hy).2.2.2
    ·obtain⟨q1,q2⟩:=List.pairwise_cons.1 h4
     exact List.pairwise_cons.2 ⟨fun y hy=>q1 y hy,q2⟩
   ·unfold chOk
    rw[List.all_eq_true]
    intro y hy
    simp only[headD,List.mem_cons] at hy
    simp only[Bool.and_eq_true,decide_eq_true_eq]
    rcases hy with rfl|hy
    ·simp only;omega
    ·have:=hL y hy;omega
   ·have e2:loS (headD d (x::L))=x.lo+loS L:=by simp [headD,loS]
    omega
   ·have e2:hiS (headD d (x::L))=d+hiS L:=by simp [headD,hiS]
    omega
theorem headD_len (d:Int) (L:List Bd):(headD d L).length≤max 1 L.length:=by cases L<;>simp [headD]
theorem scL_all {d:Int}(hd:4≤d∧d≤63) {A:List (List Nat)}(hA:∀ a∈A,∀ n∈a,n<256):∀ x∈scL d A,aimOk d x=true∧x.beds.length≤4:=fun x hx=>by
 unfold scL at hx
 split at hx
 ·rw[List.mem_singleton] at hx
  subst hx
  exact⟨head_ok hd (s:=([],d)) ⟨⟨by omega,by omega⟩,by simp [loS],by simp,by simp⟩,by simp [headD]⟩
 ·obtain⟨a,ha,rfl⟩:=List.mem_map.1 hx
  have h:=scF_ok (d:=d) (by omega) (hA a (List.mem_of_mem_take ha)) 4
  have hl:=scF_len (d:=d) a 4
  have h2:=headD_len d (scF d a 4).1
  exact⟨head_ok hd h,by simp only[scA];omega⟩
theorem scL_len (d:Int) (A:List (List Nat)):1≤(scL d A).length∧(scL d A).length≤3:=by
 unfold scL
 split
 ·simp
 ·simp only[List.length_map,List.length_take];omega
theorem scL_ok {d:Int}(hd:4≤d∧d≤63) {A:List (List Nat)}(hA:∀ a∈A,∀ n∈a,n<256):checkV d (scL d A)=0:=by
 have h:=scL_all hd hA
 have hl:=scL_len d A
 unfold checkV
 rw[if_neg,if_neg,if_pos]
 ·rw[List.all_eq_true];exact fun x hx=>(h x hx).1
 ·intro hc
  simp only[Bool.or_eq_true,Bool.not_eq_true',Bool.and_eq_false_iff,decide_eq_false_iff_not,List.isEmpty_iff] at hc
  rcases hc with hc|hc|hc
  ·rw[hc] at hl;simp at hl
  ·omega
  ·omega
 ·intro hc
  simp only[Bool.or_eq_true,decide_eq_true_eq,List.any_eq_true] at hc
  rcases hc with hc|⟨x,hx,hc⟩
  ·omega
  ·have:=(h x hx).2;omega
theorem bAt_th (l:List Bd) (i:Nat):Th.bAt l i=bAt l i:=rfl
theorem truth_th {d:Int}{l:List Bd}{f:Int→Int}{x:Nat→Int}(h:TruthN d (Go.Proofs.YtgfbenanljjgaaaGreat.Du.chW f l) x):Th.TruthN d l ((List.range l.length).map x):=by
 have hl:=chW_len f l
 refine⟨by simp,fun i hi=>?_,?_⟩
 ·have:=h.each i (by rw[hl];exact hi)
  rw[bAt_chW f l hi] at this
  rw[bAt_th,List.getD_eq_getElem?_getD,List.getElem?_map,List.getElem?_range hi]
  exact this
 ·have:=h.sum;rw[hl] at this;exact this
theorem getD_range {n:Nat}(x:Nat→Int) {i:Nat}(hi:i<n):((List.range n).map x).getD i 0=x i:=by
 rw[List.getD_eq_getElem?_getD,List.getElem?_map,List.getElem?_range hi];rfl
theorem dotF_congr {l:List Bd}{x y:Nat→Int}(h:∀ i,i<l.length→x i=y i):dotF l x=dotF l y:=by
 unfold dotF
 exact congrArg List.sum (List.map_congr_left fun i hi=>by rw[h i (List.mem_range.1 hi)])
end Go.Proofs.YtgfbenanljjgaaaGreat.Du

namespace Go.Proofs.YtgfbenanljjgaaaGreat.Du.Th.Ai
open Go Go.Oc
theorem hold_up {r:Rk}{T:List Int}{st:Nat}(h:zhA r false T st=true):1000000+valA r false T (T.getD st 0) 3 st≤T.getD st 0∨T.getD st 0=2000000000:=by
 unfold zhA at h
 simpa only[Bool.false_eq_true,if_false,Bool.or_eq_true,decide_eq_true_eq] using h
theorem hold_lo {r:Rk}{T:List Int}{st:Nat}(h:zhA r true T st=false):¬ (T.getD st 0≤1000000+valA r true T (T.getD st 0) 3 st):=by
 unfold zhA at h
 simpa only[if_true,decide_eq_false_iff_not] using h
end Go.Proofs.YtgfbenanljjgaaaGreat.Du.Th.Ai
namespace Go.Proofs.YtgfbenanljjgaaaGreat.Du
open Go Go.Oc
set_option maxRecDepth 8000
theorem dot_th {l:List Bd}{f:Int→Int}{y:List Int}(h:y.length=l.length):Th.dotV y (l.map fun c=>f c.b)=dotF (Go.Proofs.YtgfbenanljjgaaaGreat.Du.chW f l) (fun i=>y.getD i 0):=by
 rw[Th.dotV_sum (by rw[h,List.length_map]),dotF_chW,h]
 refine congrArg List.sum (List.map_congr_left fun i hi=>?_)
 have hi:=List.mem_range.1 hi
 congr 1
 simp [bAt,List.getD,List.getElem?_eq_getElem hi]
theorem sum_lin (x f:Nat→Int) (m W:Int):∀ I:List Nat,(I.map fun i=>x i*(m*(W-f i))).sum=m*(W*(I.map x).sum-(I.map fun i=>x i*f i).sum)
 | []=>by simp
 | i::I=>by
   have h1:x i*(m*(W-f i))=m*(W*x i)-m*(x i*f i):=by
    rw[Int.mul_left_comm,Int.mul_sub,Int.mul_sub,Int.mul_comm (x i) W]
   simp only[List.map_cons,List.sum_cons];rw[sum_lin x f m W I,h1]
   simp only[Int.mul_add,Int.mul_sub]
   omega
theorem mean_step {d:Int}{l:List Bd}(h:Th.Ai.AOk d l) {f g:Int→Int}(hf:ChG d (Go.Proofs.YtgfbenanljjgaaaGreat.Du.chW f l)) {m C:Int}(hm:0≤m) (hfg:∀ c∈l,g c.b≠2000000000→m*(1000000-f c.b)≤g c.b+C)
 (hne:Th.Ai.meanS false d l (l.map fun c=>g c.b)≠2000000000):m*(1000000-meanD false d (Go.Proofs.YtgfbenanljjgaaaGreat.Du.chW f l))≤Th.Ai.meanS false d l (l.map fun c=>g c.b)+C+m:=by
 have hd:=h.d1
 obtain⟨x,x1,x2,x3⟩:=mean_opt (most:=false) hf (by rw[hiS_chW];exact h.hi)
 have ty:=truth_th x1
 have hnb:¬ (List.range l.length).any (Th.Ai.badA l d (l.map fun c=>g c.b))=true:=fun hb=>hne (by unfold Th.Ai.meanS;rw[if_pos hb])
 have e:Th.Ai.meanS false d l (l.map fun c=>g c.b)=(Th.meanHi d l ((l.map fun c=>g c.b).map Th.Ai.zN)+(d-1)) / d:=by unfold Th.Ai.meanS;rw[if_neg hnb];rfl
 have b2:=(Th.filled_bound (d:=d) (l:=l) (vals:=(l.map fun c=>g c.b).map Th.Ai.zN) (by simp) ty).2
 have hyl:((List.range l.length).map x).length=l.length:=by simp
 have key:=Th.Ai.dotV_leI (y:=(List.range l.length).map x) (u:=l.map fun c=>m*(1000000-f c.b)) (v:=(l.map fun c=>g c.b).map Th.Ai.zN) (c:=C) (by simp) (by simp) fun i hi=>by
  have hil:i<l.length:=by rw[← hyl];exact hi
  have h1:=(ty.each i hil).1
  have h2:=(h.each _ (bAt_mem hil)).1
  refine⟨by rw[bAt_th] at h1;omega,fun h0=>?_⟩
  have hc:=Th.Ai.truth_can ty hil
  obtain⟨b,hb⟩:=zol hil
  have e1:(l.map fun c=>m*(1000000-f c.b)).getD i 0=m*(1000000-f b.b):=by rw[List.getD_eq_getElem?_getD,List.getElem?_map,hb];rfl
  have e2:(l.map fun c=>g c.b).getD i 0=g b.b:=by rw[List.getD_eq_getElem?_getD,List.getElem?_map,hb];rfl
  have hgn:g b.b≠2000000000:=fun hn=>hnb (List.any_eq_true.2 ⟨i,List.mem_range.2 hil,by
   simp only[Th.Ai.badA,Bool.and_eq_true,decide_eq_true_eq];exact⟨by rw[e2];exact hn,by omega⟩⟩)
  rw[e1,Th.Ai.getD_mapz,e2]
  unfold Th.Ai.zN
  rw[if_neg hgn]
  exact hfg b (zmo hb) hgn
 have hdot:Th.dotV ((List.range l.length).map x) (l.map fun c=>m*(1000000-f c.b))=m*(1000000*d-dotF (Go.Proofs.YtgfbenanljjgaaaGreat.Du.chW f l) x):=by
  rw[dot_th (f:=fun b=>m*(1000000-f b)) hyl]
  have:=dotF_congr (l:=Go.Proofs.YtgfbenanljjgaaaGreat.Du.chW (fun b=>m*(1000000-f b)) l) (x:=fun i=>((List.range l.length).map x).getD i 0) (y:=x) fun i hi=>getD_range x (by rw[chW_len] at hi;exact hi)
  rw[this,dotF_chW,dotF_chW,sum_lin x (fun i=>f (bAt l i).b)]
  have hs:=x1.sum
  rw[chW_len] at hs
  rw[hs]
 rw[hdot,ty.sum] at key
 rw[e,x2]
 have ov:overD false (dotF (Go.Proofs.YtgfbenanljjgaaaGreat.Du.chW f l) x) d=dotF (Go.Proofs.YtgfbenanljjgaaaGreat.Du.chW f l) x / d:=rfl
 rw[ov]
 generalize dotF (Go.Proofs.YtgfbenanljjgaaaGreat.Du.chW f l) x=A at *
 generalize Th.meanHi d l ((l.map fun c=>g c.b).map Th.Ai.zN)=M at *
 generalize Th.dotV ((List.range l.length).map x) ((l.map fun c=>g c.b).map Th.Ai.zN)=D at *
 have p1:=Int.mul_ediv_add_emod A d
 have p2:=Int.emod_lt_of_pos A (show 0<d by omega)
 have q1:=Int.mul_ediv_add_emod (M+(d-1)) d
 have q2:=Int.emod_lt_of_pos (M+(d-1)) (show 0<d by omega)
 generalize A / d=P at *
 generalize (M+(d-1)) / d=Q at *
 have h1:m*(1000000*d-d*P)≤m*(1000000*d-A+d):=Int.mul_le_mul_of_nonneg_left (by omega) hm
 have h2:m*(1000000*d-A+d)=m*(1000000*d-A)+d*m:=by rw[Int.mul_add,Int.mul_comm m d]
 have h3:d*(m*(1000000-P))=m*(1000000*d-d*P):=by rw[Int.mul_left_comm,Int.mul_sub,Int.mul_comm d 1000000]
 have h4:d*(Q+C+m)=d*Q+d*C+d*m:=by rw[Int.mul_add,Int.mul_add]
 exact Int.le_of_mul_le_mul_left (a:=d) (by omega) (by omega)
theorem low_eq (r:Ru):Th.Ai.lowG r.out=lowestR r:=rfl
theorem next_rel {r:Ru}{m:Bool}{T:List (List Int)}{k s:Nat}{val:Nat→Int}{last:Bool}{left:Nat}{b own:Int}{F:Int→Int}(h1:lowestR r≤left) (hb:b=0∨bedOk b=true) :
 (nextV r m T k s val last left b=1000000∧Th.Ai.nextA r.out own left F b=0)∨(nextV r m T k s val last left b=afterD r m T k s∧Th.Ai.nextA r.out own left F b=own) ∨
 ∃ y:Nat,lowestR r≤(y:Int)∧y≤left∧nextV r m T k s val last left b=(if last=true then afterD r m T k y else val y)∧Th.Ai.nextA r.out own left F b=F y:=by
 have hl1:1≤lowestR r:=by unfold lowestR;split<;>omega
 have hs:b=0∨0<scoreOf b:=hb.imp id bedOk_pos
 unfold nextV Th.Ai.nextA
 rw[low_eq]
 rcases hs with rfl|hs
 ·have e0:scoreOf 0=0:=rfl
  rw[e0]
  right;right
  refine⟨left,h1,Nat.le_refl _,?_,?_⟩
  ·simp
  ·have d0:decide ((left:Int)-0=0)=false:=decide_eq_false (by omega)
   rw[d0,Bool.false_and,if_neg (by simp),if_neg (by omega),Int.sub_zero]
 ·have d1:decide (0<scoreOf b)=true:=decide_eq_true hs
  have hb0:b≠0:=fun e=>by subst e;exact absurd hs (by decide)
  have ho:Th.Ai.opA r.out b=opensD r.out b:=by
   unfold Th.Ai.opA opensD
   split
   ·rfl
   ·split
    ·rfl
    ·exact decide_eq_true hb0
  rw[d1,Bool.true_and,Bool.true_and,ho]
  by_cases c0:(decide ((left:Int)-scoreOf b=0)&&opensD r.out b)=true
  ·rw[if_pos c0,if_pos c0];exact .inl ⟨rfl,rfl⟩
  ·rw[if_neg c0,if_neg c0]
   by_cases c1:(left:Int)-scoreOf b<lowestR r
   ·rw[if_pos (decide_eq_true c1),if_pos c1];exact .inr (.inl ⟨rfl,rfl⟩)
   ·rw[if_neg (by simpa using c1),if_neg c1]
    right;right
    refine⟨((left:Int)-scoreOf b).toNat,by omega,by omega,rfl,?_⟩
    have:((((left:Int)-scoreOf b).toNat:Nat):Int)=(left:Int)-scoreOf b:=by omega
    rw[this]
theorem dv_val {r:Ru}(hr:Th.Ai.ROk ⟨r.d,r.aims,r.start,r.out⟩) (hG:RuG r) {E:List Int}{T:List (List Int)}{k s:Nat}(hV:VisG r T k s) {m C:Int}(hm:0≤m) (hC:0≤C) (h1:lowestR r≤(s:Int)) (h2:(s:Int)≤r.start)
 (hA:∀ y:Nat,lowestR r≤(y:Int)→(y:Int)≤r.start→E.getD y 0≠2000000000→m*(1000000-afterD r false T k y)≤E.getD y 0+C) :
 ∀ (e left:Nat), lowestR r≤(left:Int)→(left:Int)≤r.start→Th.Ai.valA ⟨r.d, r.aims, r.start, r.out⟩ false E (E.getD s 0) (e+1) left≠2000000000 →
   m*(1000000-valV r false T k s (e+1) left)≤Th.Ai.valA ⟨r.d,r.aims,r.start,r.out⟩ false E (E.getD s 0) (e+1) left+C+m*((e:Int)+1)
 | e, left, g1, g2, hne=>by
   have hme:0≤m*(e:Int):=Int.mul_nonneg hm (by omega)
   have hml:m*((e:Int)+1)=m*e+m:=by rw[Int.mul_add,Int.mul_one]
   obtain⟨_,_,g3⟩:=Th.Ai.foldl_min (r.aims.map (Th.Ai.meanA ⟨r.d,r.aims,r.start,r.out⟩ false (E.getD s 0) left (Th.Ai.valA ⟨r.d,r.aims,r.start,r.out⟩ false E (E.getD s 0) e))) 2000000000
   have hval:Th.Ai.valA ⟨r.d,r.aims,r.start,r.out⟩ false E (E.getD s 0) (e+1) left=(r.aims.map (Th.Ai.meanA ⟨r.d,r.aims,r.start,r.out⟩ false (E.getD s 0) left (Th.Ai.valA ⟨r.d,r.aims,r.start,r.out⟩ false E (E.getD s 0) e))).foldl min 2000000000:=rfl
   rw[← hval] at g3
   rcases g3 with g3|g3
   ·exact absurd g3 hne
   obtain⟨a,ha,he⟩:=List.mem_map.1 g3
   have hao:Th.Ai.AOk r.d a.beds:=hr.aims a ha
   have hbd:∀ b,0≤b→b≤499→0≤nextV r false T k s (valV r false T k s e) (decide (e=0)) left b∧nextV r false T k s (valV r false T k s e) (decide (e=0)) left b≤1000000 :=
    fun b b0 b1=>nextV_le hV g2 b0 b1 fun _ x hx=>valV_le hV hG.aims e x hx
   have hmax:meanD false r.d (Go.Proofs.YtgfbenanljjgaaaGreat.Du.chW (nextV r false T k s (valV r false T k s e) (decide (e=0)) left) a.beds)≤valV r false T k s (e+1) left:=by
    show _≤maxL (meansV _ _ _)
    exact le_maxL (List.mem_map.2 ⟨a,ha,rfl⟩)
   have hst:=mean_step hao (f:=nextV r false T k s (valV r false T k s e) (decide (e=0)) left) (g:=Th.Ai.nextA r.out (E.getD s 0) left (Th.Ai.valA ⟨r.d,r.aims,r.start,r.out⟩ false E (E.getD s 0) e))
    (hG.aims.ch hbd a ha) (m:=m) (C:=C+m*e) hm (fun c hc hn=>by
     rcases next_rel (m:=false) (T:=T) (k:=k) (s:=s) (val:=valV r false T k s e) (last:=decide (e=0)) (own:=E.getD s 0) (F:=Th.Ai.valA ⟨r.d,r.aims,r.start,r.out⟩ false E (E.getD s 0) e) g1 (hao.beds c hc) with⟨q1,q2⟩|⟨q1,q2⟩|⟨y,y1,y2,q1,q2⟩
     ·rw[q1,q2];simp only[Int.sub_self,Int.mul_zero];omega
     ·rw[q2] at hn
      have:=hA s h1 h2 hn
      rw[q1,q2];omega
     ·rw[q2] at hn
      rw[q1,q2]
      cases e with
      | zero =>
        have e1:Th.Ai.valA ⟨r.d,r.aims,r.start,r.out⟩ false E (E.getD s 0) 0 (y:Int)=E.getD y 0:=rfl
        rw[e1] at hn ⊢
        rw[if_pos (by rfl)]
        have:=hA y y1 (by omega) hn
        omega
      | succ e =>
        rw[if_neg (by simp)]
        have:=dv_val hr hG hV hm hC h1 h2 hA e y y1 (by omega) hn
        have e1:((e+1:Nat):Int)=(e:Int)+1:=rfl
        rw[e1]
        omega) (by
     intro hx
     exact hne (he.symm.trans hx))
   have hE:Th.Ai.meanS false r.d a.beds (a.beds.map fun c=>Th.Ai.nextA r.out (E.getD s 0) left (Th.Ai.valA ⟨r.d,r.aims,r.start,r.out⟩ false E (E.getD s 0) e) c.b)=Th.Ai.valA ⟨r.d,r.aims,r.start,r.out⟩ false E (E.getD s 0) (e+1) left:=he
   rw[hE] at hst
   have:=Int.mul_le_mul_of_nonneg_left (show 1000000-valV r false T k s (e+1) left≤1000000-meanD false r.d (Go.Proofs.YtgfbenanljjgaaaGreat.Du.chW (nextV r false T k s (valV r false T k s e) (decide (e=0)) left) a.beds) by omega) hm
   omega
termination_by e=>e
def rnV (n:Nat):List Sp:=List.replicate (n-1) (0,0)++[(1000000,1000000)]
theorem rnV_get (n k:Nat) (hk:k<n):(rnV n).getD k (0,0)=if k+1=n then (1000000,1000000) else (0,0):=by
 unfold rnV
 rw[List.getD_eq_getElem?_getD]
 split
 ·rw[List.getElem?_append_right (by simp;omega)]
  simp [show k-(n-1)=0 by omega]
 ·rw[List.getElem?_append_left (by simp;omega),List.getElem?_replicate,if_pos (by omega)];rfl
theorem rnV_len (n:Nat) (h:1≤n):(rnV n).length=n:=by unfold rnV;simp;omega
theorem after_rn {r:Ru}{n:Nat}(he:r.ends=rnV n) (hn:1≤n) (m:Bool) {k:Nat}(hk:k<n) (T:List (List Int)) (y:Nat):afterD r m T k y=if k+1=n then 0 else (T.getD (k+1) []).getD y 0:=by
 unfold afterD
 rw[he,rnV_len n hn]
 split
 ·rfl
 ·rename_i hne
  rw[rnV_get n k hk,if_neg hne]
  have h0:endsD m (0,0)=0:=by unfold endsD;split<;>rfl
  rw[h0]
  unfold overD
  split<;>omega
theorem dv_round {r:Ru}(hr:Th.Ai.ROk ⟨r.d,r.aims,r.start,r.out⟩) (hG:RuG r) {n:Nat}(he:r.ends=rnV n) (hn:1≤n∧n≤5) :
 ∀ i, i<n→∀ s:Nat, lowestR r≤(s:Int)→(s:Int)≤r.start→(Th.Ai.tabT ⟨r.d, r.aims, r.start, r.out⟩ false).getD s 0≠2000000000 →
   ((i:Int)+2)*(1000000-((tabF r false).getD (n-1-i) []).getD s 0)≤(Th.Ai.tabT ⟨r.d,r.aims,r.start,r.out⟩ false).getD s 0+3*((i:Int)+1)*((i:Int)+2)
 | i, hi, s, h1, h2, hN=>by
   have hel:r.ends.length=n:=by rw[he];exact rnV_len n hn.1
   have hk:n-1-i<r.ends.length:=by omega
   have hl:=tabF_val (r:=r) false hk h2
   rw[if_neg (by omega)] at hl
   have hle:=Th.Ai.tabT_less hr (st:=s) h1 h2 hN
   have hho:=(Th.Ai.hold_up (Th.Ai.tabT_holds hr false (st:=s) h1 h2)).resolve_right hN
   have hb:=tabF_bound hG false hk h2
   have hvok:=Th.Ai.valA_le hr (s:=false) (nums:=Th.Ai.tabT ⟨r.d,r.aims,r.start,r.out⟩ false) (own:=(Th.Ai.tabT ⟨r.d,r.aims,r.start,r.out⟩ false).getD s 0) (Th.Ai.tab_eq hr false _ (Nat.le_refl _)).2.2 (Th.Ai.getD_vok (Th.Ai.tab_eq hr false _ (Nat.le_refl _)).2.2 _) 3 s
   have hA:∀ y:Nat,lowestR r≤(y:Int)→(y:Int)≤r.start→(Th.Ai.tabT ⟨r.d,r.aims,r.start,r.out⟩ false).getD y 0≠2000000000→((i:Int)+1)*(1000000-afterD r false (tabF r false) (n-1-i) y)≤(Th.Ai.tabT ⟨r.d,r.aims,r.start,r.out⟩ false).getD y 0+3*(i:Int)*((i:Int)+1):=fun y y1 y2 hy=>by
    rw[after_rn he hn.1 false (by omega)]
    cases i with
    | zero =>
      rw[if_pos (by omega)]
      have:=(Th.Ai.tabT_less hr (st:=y) y1 y2 hy).1
      simp only[Int.sub_zero]
      omega
    | succ j =>
      rw[if_neg (by omega),show n-1-(j+1)+1=n-1-j by omega]
      have:=dv_round hr hG he hn j (by omega) y y1 y2 hy
      have e1:((j+1:Nat):Int)=(j:Int)+1:=rfl
      rw[e1,show (j:Int)+1+1=(j:Int)+2 by omega]
      exact this
   have hC:0≤3*(i:Int)*((i:Int)+1):=Int.mul_nonneg (by omega) (by omega)
   have hv:=dv_val hr hG (vis_tab hG false hk s h2) (m:=(i:Int)+1) (by omega) hC h1 h2 hA 2 s h1 h2 (by
    show Th.Ai.valA _ _ _ _ 3 _≠_
    omega)
   have e3:(2:Nat)+1=3:=rfl
   rw[e3,← hl] at hv
   generalize Th.Ai.valA ⟨r.d,r.aims,r.start,r.out⟩ false (Th.Ai.tabT ⟨r.d,r.aims,r.start,r.out⟩ false) ((Th.Ai.tabT ⟨r.d,r.aims,r.start,r.out⟩ false).getD s 0) 3 s=X at *
   generalize (Th.Ai.tabT ⟨r.d,r.aims,r.start,r.out⟩ false).getD s 0=E at *
   generalize ((tabF r false).getD (n-1-i) []).getD s 0=W at *
   have:i=0∨i=1∨i=2∨i=3∨i=4:=by omega
   rcases this with rfl|rfl|rfl|rfl|rfl<;>omega
termination_by i=>i
theorem val_more {r:Ru}(hG:RuG r) (hH:RefH r) {T:List (List Int)}{k k' s:Nat}(hs:(s:Int)≤r.start) (hV:VisG r T k s) (hV':VisG r T k' s) (hA:∀ y:Nat,(y:Int)≤r.start→afterD r false T k y≤afterD r false T k' y) :
 ∀ e left:Nat,(left:Int)≤r.start→valV r false T k s e left≤valV r false T k' s e left
 | 0,_,_=>by simp only[valV];omega
 | e+1, left, hl=>by
   simp only[valV];exact maxL_mono hG.aims.ne (means_mono (fun h=>h) hG.aims hH (fun b b0 b1=>nextV_le hV hl b0 b1 fun _ x hx=>valV_le hV hG.aims e x hx) (fun b b0 b1=>nextV_le hV' hl b0 b1 fun _ x hx=>valV_le hV' hG.aims e x hx)
    fun b b0 b1=>by
     obtain⟨s0,s1⟩:=score_le b0 b1
     unfold nextV
     split
     ·omega
     ·split
      ·exact hA s hs
      ·split
       ·exact hA _ (by omega)
       ·exact val_more hG hH hs hV hV' hA e _ (by omega))
theorem tab_more {r:Ru}(hG:RuG r) (hH:RefH r) {n:Nat}(he:r.ends=rnV n) (hn:1≤n):∀ i,i+1<n→∀ s:Nat,(s:Int)≤r.start→((tabF r false).getD (n-1-i) []).getD s 0≤((tabF r false).getD (n-2-i) []).getD s 0
 | i, hi, s, hs=>by
   have hel:r.ends.length=n:=by rw[he];exact rnV_len n hn
   have hk:n-1-i<r.ends.length:=by omega
   have hk':n-2-i<r.ends.length:=by omega
   rw[tabF_val (r:=r) false hk hs,tabF_val (r:=r) false hk' hs]
   split
   ·omega
   ·refine val_more hG hH hs (vis_tab hG false hk s hs) (vis_tab hG false hk' s hs) (fun y hy=>?_) 3 s hs
    rw[after_rn he hn false (by omega),after_rn he hn false (by omega),if_neg (show ¬ n-2-i+1=n by omega),show n-2-i+1=n-1-i by omega]
    cases i with
    | zero =>
      rw[if_pos (by omega)]
      exact (tabF_bound hG false (by omega) hy).1
    | succ j =>
      rw[if_neg (by omega),show n-1-(j+1)+1=n-1-j by omega]
      have:=tab_more hG hH he hn j (by omega) y hy
      rw[show n-2-j=n-1-(j+1) by omega] at this
      exact this
termination_by i=>i
theorem least_one {r:Th.Ai.Rk}(hr:Th.Ai.ROk r) {s:Nat}(h1:Th.Ai.lowG r.out≤s) (h2:(s:Int)≤r.start):1000000≤(Th.Ai.tabT r true).getD s 0:=by
 obtain⟨g1,g2⟩:=Th.Ai.tabT_more hr (st:=s) h1 h2
 by_cases h:1000000≤(Th.Ai.tabT r true).getD s 0
 ·exact h
 have hf:=Th.Ai.hold_lo (g2 (by omega))
 have hl:=Th.Ai.tabT_len hr true
 have hst:s<(Th.Ai.tabT r true).length:=by omega
 have hv:∀ x∈Th.Ai.tabT r true,Th.Ai.VOk x:=(Th.Ai.tab_eq hr true _ (Nat.le_refl _)).2.2
 have:=Th.Ai.valA_le hr (s:=true) (Th.Ai.set_vok hv s (n:=(Th.Ai.tabT r true).getD s 0+1) (.inl ⟨by omega,by omega⟩)) (own:=(Th.Ai.tabT r true).getD s 0+1) (.inl ⟨by omega,by omega⟩) 3 s
 simp only[Th.Ai.getD_set hst,if_true] at hf
 omega
theorem dv_all {d st g:Int}{l:List Am}{n:Nat}(hc:checkV d l=0) (hs:2≤st∧st≤40) (hg:0≤g∧g≤2) (hn:1≤n∧n≤5) :
 ruE ⟨d,l,st,g,rnV n⟩=0∧Th.Ai.checkR ⟨d,l,st,g⟩=0 ∧
 ∀ s:Nat, 2≤s→(s:Int)≤st →
   ((Th.Ai.tabT ⟨d,l,st,g⟩ false).getD s 0≠2000000000→1000000-((tabF ⟨d,l,st,g,rnV n⟩ false).getD 0 []).getD s 0≤(Th.Ai.tabT ⟨d,l,st,g⟩ false).getD s 0 / ((n:Int)+1)+4*n+1) ∧
   1000000≤(Th.Ai.tabT ⟨d,l,st,g⟩ true).getD s 0∧((tabF ⟨d,l,st,g,rnV n⟩ false).getD 0 []).getD s 0≤((tabF ⟨d,l,st,g,rnV n⟩ true).getD 0 []).getD s 0 ∧
   (1<n→((tabF ⟨d,l,st,g,rnV n⟩ false).getD 1 []).getD s 0≤((tabF ⟨d,l,st,g,rnV n⟩ false).getD 0 []).getD s 0) ∧
   (0≤(Th.Ai.tabT ⟨d,l,st,g⟩ false).getD s 0∧(Th.Ai.tabT ⟨d,l,st,g⟩ false).getD s 0≤2000000000)∧(0≤((tabF ⟨d,l,st,g,rnV n⟩ false).getD 0 []).getD s 0∧((tabF ⟨d,l,st,g,rnV n⟩ false).getD 0 []).getD s 0≤1000000):=by
 have hl:=rnV_len n hn.1
 have hru:ruE ⟨d,l,st,g,rnV n⟩=0:=by
  refine ruE_of hc hs hg (by simp only;omega) (fun x hx=>?_) ?_
  ·simp only[rnV,List.mem_append,List.mem_singleton] at hx
   rcases hx with hx|rfl
   ·rw[List.eq_of_mem_replicate hx];decide
   ·decide
  ·unfold lastE
   simp only
   rw[hl,rnV_get n (n-1) (by omega),if_pos (by omega)]
 have hck:Th.Ai.checkR ⟨d,l,st,g⟩=0:=by
  unfold Th.Ai.checkR
  rw[if_pos hc,if_pos ⟨⟨by simp only;omega,by simp only;omega⟩,hg⟩]
 have hr:=(Th.Ai.checkR_zero hck).2
 obtain⟨hG,_⟩:=ruG_of hru
 have hH:=refH_of hru
 refine⟨hru,hck,fun s s1 s2=>?_⟩
 have hlo:lowestR ⟨d,l,st,g,rnV n⟩≤(s:Int):=by unfold lowestR;split<;>omega
 have hb:=tabF_bound hG false (k:=0) (y:=s) (by simp only;omega) s2
 have hvk:=Th.Ai.getD_vok (Th.Ai.tab_eq hr false _ (Nat.le_refl _)).2.2 s
 refine⟨fun hN=>?_,least_one hr hlo s2,tab_mono hG hH _ (Nat.le_refl _) 0 s s2,fun h1=>?_,?_,hb⟩
 ·have:=dv_round (r:=⟨d,l,st,g,rnV n⟩) hr hG rfl hn (n-1) (by omega) s hlo s2 hN
  rw[show n-1-(n-1)=0 by omega] at this
  simp only at this
  generalize (Th.Ai.tabT ⟨d,l,st,g⟩ false).getD s 0=E at *
  generalize ((tabF ⟨d,l,st,g,rnV n⟩ false).getD 0 []).getD s 0=W at *
  have h5:n=1∨n=2∨n=3∨n=4∨n=5:=by omega
  rcases h5 with rfl|rfl|rfl|rfl|rfl<;>omega
 ·have:=tab_more hG hH (n:=n) rfl hn.1 (n-2) (by omega) s s2
  rw[show n-1-(n-2)=1 by omega,show n-2-(n-2)=0 by omega] at this
  exact this
 ·have:Th.Ai.VOk ((Th.Ai.tabT ⟨d,l,st,g⟩ false).getD s 0):=hvk
  unfold Th.Ai.VOk at this
  omega
end Go.Proofs.YtgfbenanljjgaaaGreat.Du

namespace Go.Proofs.YtgfbenanljjgaaaGreat.Du
open Go Go.Oc
set_option maxRecDepth 8000
set_option maxHeartbeats 4000000
theorem span_mk (a b:Int):ACalls Tryz.prog 35 [i64 a,i64 b] (.ag [i64 a,i64 b]):=by
 refine zas (rs:=[.ag [i64 a,i64 b]]) [.cell 4 48] Tryz.func35 rfl (by kernel_rfl) Tryz.ntmps35 rfl (by simp) rfl fun C vs=>?_
 apply zq
 refine zb fun K hK=>?_;simp only[go_sem];apply hK;clear hK K;apply zw (zk [0,1,4]);simp only[go_sem]
 apply zq
 refine zb fun K hK=>?_;simp only[go_sem];apply hK;clear hK K;apply zw (zk [4]);simp only[go_sem];apply ze;simp only[go_sem]
theorem pos_at {b:Int}:∀ {L:List Bd}{j:Nat},j<posN b L→∃ x,L[j]? = some x∧x.b≤b
 | [],j,h=>by simp [posN] at h
 | x::L, j, h=>by
   unfold posN at h
   by_cases c:x.b≤b
   ·rw[if_pos c] at h
    cases j with
    | zero=>exact⟨x,rfl,c⟩
    | succ j =>
      obtain⟨y,hy,hyb⟩:=pos_at (b:=b) (L:=L) (j:=j) (by omega)
      exact⟨y,by simpa using hy,hyb⟩
   ·rw[if_neg c] at h;omega
theorem pos_end {b:Int}:∀ {L:List Bd},posN b L=L.length∨∃ x,L[posN b L]? = some x∧b<x.b
 | []=>.inl rfl
 | x::L=>by
   unfold posN
   by_cases c:x.b≤b
   ·rw[if_pos c]
    rcases pos_end (b:=b) (L:=L) with h|⟨y,hy,hyb⟩
    ·left;simp [h]
    ·right;exact⟨y,by simpa using hy,hyb⟩
   ·rw[if_neg c]
    right;exact⟨x,rfl,by omega⟩
theorem pos_le {b:Int}:∀ {L:List Bd},posN b L≤L.length
 | []=>Nat.le_refl _
 | x::L=>by unfold posN;split<;>simp;exact pos_le
theorem seen_step {b:Int}{L:List Bd}{j:Nat}{x:Bd}(h:L[j]? = some x):seenB b L (j+1)=(seenB b L j || x.b == b):=by
 unfold seenB;rw[zto h];simp
def aimJ (d:Int) (A:List (List Nat)) (j:Nat):Am:=if A.length=0 then ⟨201,headD d []⟩ else scA d (A.getD j [])
def aimsJ (d:Int) (A:List (List Nat)) (i:Nat):List Am:=(List.range i).map (aimJ d A)
theorem aimsJ_all (d:Int) (A:List (List Nat)):aimsJ d A (if A.length=0 then 1 else min 3 A.length)=scL d A:=by
 unfold aimsJ scL
 by_cases h:A.length=0
 ·rw[if_pos h,if_pos h];simp [aimJ,h]
 ·rw[if_neg h,if_neg h]
  refine List.ext_getElem? fun i=>?_
  rw[List.getElem?_map,List.getElem?_map]
  by_cases hi:i<min 3 A.length
  ·rw[List.getElem?_range hi,List.getElem?_take,if_pos (by omega),List.getElem?_eq_getElem (by omega)]
   simp [aimJ,h,List.getD_eq_getElem?_getD,List.getElem?_eq_getElem (show i<A.length by omega)]
  ·rw[List.getElem?_eq_none (by simp;omega),List.getElem?_take]
   split
   ·rw[List.getElem?_eq_none (by omega)];rfl
   ·rfl
theorem fitV_subS {n:Nat}{F:(Nat→Nat)→List (Nat × AV)}{R:(Nat→Nat)→List (Nat × RowC)}{s s':AS}(h:Sub s s') (hf:FitV n F R s'):FitV n F R s:=by
 obtain⟨vs,hs⟩:=hf
 exact⟨vs,fun C a w hw=>hs C a w (h C a w hw)⟩
def vI (b:Nat→Bool) (j:Nat) (v:AV):AV:=if b j then v else .r .un
def sgF (A0:RV) (i k P n:Nat) (lf lo hi bd:Int) (M:List (List RV)) (b:Nat→Bool) (vs:Nat→Nat):List (Nat × AV) :=
 [(1,.r A0),(4,.pt 4 (vs 4) 0),(5,.pt 5 (vs 5) 0),(6,.r (i64 (i:Int))),(7,.pt 7 (vs 7) 0),(8,.r (i64 (bif b 19 then lf-lo else lf))),(9,.r (i64 (k:Int))),(11,.r (i64 (P:Int))),(14,.r (i64 lo)),(15,.r (.rp [i64 bd,i64 lo,i64 hi])),
  (119,vI b 0 (.r .ns)),
  (120,vI b 1 (.pt 7 (vs 7) 1)),
  (121,vI b 2 (.r (.sl 3 M))),
  (122,vI b 3 (.r (i64 (P:Int)))),
  (123,vI b 4 (.r (.sl 3 (M.take P)))),
  (124,vI b 5 (bif b 8 then .r .un else .os 124 (vs 124) 3 0 P)),
  (125,vI b 6 (.r (.ag [i64 bd,i64 lo,i64 hi]))),
  (126,vI b 7 (.r (.sl 3 [[i64 bd,i64 lo,i64 hi]]))),
  (127,vI b 8 (bif b 13 then .r .un else .os 124 (vs 124) 3 0 (P+1))),
  (128,vI b 9 (.pt 7 (vs 7) 1)),
  (129,vI b 10 (.r (.sl 3 M))),
  (130,vI b 11 (.r (i64 (P:Int)))),
  (131,vI b 12 (.r (.sl 3 (M.drop P)))),
  (132,vI b 13 (.os 124 (vs 124) 3 0 (P+1+(n-P)))),
  (133,vI b 14 (.r (i64 lf))),
  (134,vI b 15 (.r (i64 lo))),
  (135,vI b 16 (.r (i64 (lf-lo)))),
  (136,vI b 17 (.pt 7 (vs 7) 1))]
def sgR (D i P n:Nat) (lo hi bd:Int) (M:List (List RV)) (JR:List (List RV)) (b:Nat→Bool) (vs:Nat→Nat):List (Nat × RowC) :=
 [(4,.box [.r (i64 0),.r .ns]),(5,.box [.r (i64 (D:Int)),.os 155 (vs 155) 2 0 i]),(7,.box [.r (i64 201),bif b 18 then .os 124 (vs 124) 3 0 (P+1+(n-P)) else .r (.sl 3 M)])] ++
  ((bif b 5 then [(124,.arr 95 3 (bif b 8 then (bif b 13 then M.take P++([i64 bd,i64 lo,i64 hi]::M.drop P) else M.take P++[[i64 bd,i64 lo,i64 hi]]) else M.take P))] else [])++[(155,.arr 93 2 JR)])
theorem scatter_ok (den:Nat) (hd:den<256) (A:List (List Nat)) (hA:∀ a∈A,a.length=12∧∀ n∈a,n<256) :
 ACalls Tryz.prog 21 [u8Q den,.sl 12 (A.map fun a=>a.map u8Q)] (lawV ((4+den % 60:Nat):Int) (scL ((4+den % 60:Nat):Int) A)):=by
 have hmod:=Nat.mod_lt den (show 60 > 0 by omega)
 have k1:IntKind.i64.wrap (den:Int)=den:=by rw[zI]<;>omega
 have k2:Int.tmod (den:Int) 60=((den % 60:Nat):Int):=rfl
 have k3:IntKind.i64.wrap (4+((den % 60:Nat):Int))=((4+den % 60:Nat):Int):=by rw[zI]<;>omega
 generalize hD:4+den % 60=D at *
 have hD64:4≤D∧D<64:=by omega
 refine zas (rs:=[lawV (D:Int) (scL (D:Int) A)]) [.cell 4 24] Tryz.func21 rfl (by kernel_rfl) Tryz.ntmps21 rfl (by simp) rfl fun C vs=>?_
 apply zq
 refine zb fun K hK=>?_;simp only[go_sem];apply hK;clear hK K;apply zw (zk [0,1,4]);simp only[go_sem]
 apply zq
 refine zb fun K hK=>?_;simp only[go_sem,k1,k2,k3];apply hK;clear hK K;refine zw (sub_ownB 5 1 155 93 2 (by omega) (by omega) rfl (by simp only[go_sem,List.getElem?_cons_succ,List.getElem?_cons_zero])) ?_;apply zw (zk [1,4,5]);simp only[go_sem]
 repeat apply zq
 refine zb fun K hK=>?_;simp only[go_sem];apply hK;clear hK K;apply zw (zk [1,4,5,6]);simp only[go_sem]
 obtain⟨N,hN⟩:∃ N,N=if A.length=0 then 1 else min 3 A.length:=⟨_,rfl⟩
 have hN3:N≤3:=by rw[hN];split<;>omega
 have hall:=aimsJ_all (D:Int) A
 rw[← hN] at hall
 apply zd
 refine zuv (n:=158) N (fun i vs=>[(1,.r (.sl 12 (A.map fun a=>a.map u8Q))),(4,.pt 4 (vs 4) 0),(5,.pt 5 (vs 5) 0),(6,.r (i64 (i:Int)))])
  (fun i vs=>[(4,.box [.r (i64 0),.r .ns]),(5,.box [.r (i64 (D:Int)),.os 155 (vs 155) 2 0 i]),(155,.arr 93 2 ((aimsJ (D:Int) A i).map aimR))]) (fun _=>True) 0 (zj [] ?_ ?_) (Nat.zero_le _) trivial ?_
 ·try simp only[go_sem]
  try rfl
 ·try simp only[go_sem]
  try rfl
 ·intro i vs hi _
  by_cases hin:i<N
  ·have hrec:aimsJ (D:Int) A (i+1)=aimsJ (D:Int) A i++[aimJ (D:Int) A i]:=by simp [aimsJ,List.range_succ]
   have hjl:(aimsJ (D:Int) A i).length=i:=by simp [aimsJ]
   rw[hrec]
   generalize aimsJ (D:Int) A i=J at *
   repeat apply zq
   refine zaw (n:=158) (fun (_:Unit) vs=>[(1,.r (.sl 12 (A.map fun a=>a.map u8Q))),(4,.pt 4 (vs 4) 0),(5,.pt 5 (vs 5) 0),(6,.r (i64 (i:Int))),(32,.r (.bo true))])
    (fun _ vs=>[(4,.box [.r (i64 0),.r .ns]),(5,.box [.r (i64 (D:Int)),.os 155 (vs 155) 2 0 i]),(155,.arr 93 2 (J.map aimR))]) (fun _=>True) (fun _ h=>h) ?_ ?_
   ·by_cases hi0:i=0
    ·subst hi0
     refine zb fun K hK=>?_;simp only[go_sem,beq_self_eq_true];apply hK;clear hK K
     try simp only[go_sem]
     refine⟨(),zj [] ?_ ?_⟩
     ·try simp only[go_sem]
     ·try simp only[go_sem]
    ·have q0:((i:Int) == 0)=false:=by rw[beq_eq_false_iff_ne];omega
     have q0':(i == 0)=false:=by rw[beq_eq_false_iff_ne];omega
     have q1:i<A.length:=by
      rw[hN] at hin
      split at hin<;>omega
     have q2:decide ((i:Int)<3)=true:=decide_eq_true (by rw[hN] at hin;split at hin<;>omega)
     refine zb fun K hK=>?_;simp only[go_sem,q0,q0',q1,q2,List.length_map]
     intro _
     apply hK;clear hK K
     try simp only[go_sem]
     refine⟨(),zj [] ?_ ?_⟩
     ·try simp only[go_sem]
     ·try simp only[go_sem]
   intro _ vs _
   apply zc rfl<;>intro hc<;>(try simp only[go_sem] at hc)
   apply zx
   try simp only[go_sem]
   apply zq
   apply zd
   apply zq
   refine awp_dreg2 [(5,some 5)] follows (by decide +kernel) (by kernel_rfl) (by simp only[keysOk,List.mem_cons,List.not_mem_nil,forall_eq_or_imp,Oc.keyOf,go_sem];simp) fun K hK=>?_
   simp only[go_sem];apply hK;clear hK K;refine zw (sub_ownB 7 1 124 95 3 (by omega) (by omega) rfl (by simp only[go_sem,List.getElem?_cons_succ,List.getElem?_cons_zero])) ?_;apply zw (zk [1,4,5,6,7,8]);simp only[go_sem]
   repeat apply zq
   refine zb fun K hK=>?_;simp only[go_sem];apply hK;clear hK K;apply zw (zk [1,4,5,6,7,8,9]);simp only[go_sem]
   obtain⟨a,ha⟩:∃ a:List Nat,a=A.getD i []:=⟨_,rfl⟩
   obtain⟨Kn,hK⟩:∃ Kn:Nat,Kn=if A.length=0 then 0 else 4:=⟨_,rfl⟩
   have haj:aimJ (D:Int) A i=⟨201,headD (D:Int) (scF (D:Int) a Kn).1⟩:=by
    unfold aimJ
    by_cases h:A.length=0
    ·rw[if_pos h,hK,if_pos h];rfl
    ·rw[if_neg h,hK,if_neg h,ha];rfl
   have hab:A.length≠0→i<A.length∧A[i]? = some a∧a.length=12∧∀ n∈a,n<256:=fun h=>by
    have hil:i<A.length:=by rw[hN] at hin;split at hin<;>omega
    obtain⟨y,hy⟩:=zol hil
    have:a=y:=by rw[ha,List.getD_eq_getElem?_getD,hy];rfl
    subst this
    obtain⟨z1,z2⟩:=hA a (zmo hy)
    exact⟨hil,hy,z1,z2⟩
   have hK4:Kn≤4:=by rw[hK];split<;>omega
   have hI:∀ k,k≤Kn→ScI (D:Int) (scF (D:Int) a k):=fun k hk=>by
    by_cases h:A.length=0
    ·rw[hK,if_pos h] at hk
     have:k=0:=by omega
     subst this
     exact scF_ok (by omega) (a:=[]) (by simp) 0
    ·exact scF_ok (by omega) (hab h).2.2.2 k
   have hlen:=scF_len (d:=(D:Int)) a
   rw[haj]
   refine zaw (n:=158) (fun (_:Unit) vs=>[(1,.r (.sl 12 (A.map fun a=>a.map u8Q))),(4,.pt 4 (vs 4) 0),(5,.pt 5 (vs 5) 0),(6,.r (i64 (i:Int))),(7,.pt 7 (vs 7) 0)])
    (fun _ vs=>[(4,.box [.r (i64 0),.r .ns]),(5,.box [.r (i64 (D:Int)),.os 155 (vs 155) 2 0 i]),(7,.box [.r (i64 201),.os 124 (vs 124) 3 0 (scF (D:Int) a Kn).1.length]),(124,.arr 95 3 ((scF (D:Int) a Kn).1.map bedR)),(155,.arr 93 2 (J.map aimR))]) (fun _=>True) (fun _ h=>h) ?_ ?_
   ·generalize J.map aimR=JR at *
    apply zd
    refine zuv (n:=158) Kn (fun k vs=>[(1,.r (.sl 12 (A.map fun a=>a.map u8Q))),(4,.pt 4 (vs 4) 0),(5,.pt 5 (vs 5) 0),(6,.r (i64 (i:Int))),(7,.pt 7 (vs 7) 0),(8,.r (i64 (scF (D:Int) a k).2)),(9,.r (i64 (k:Int)))])
     (fun k vs=>[(4,.box [.r (i64 0),.r .ns]),(5,.box [.r (i64 (D:Int)),.os 155 (vs 155) 2 0 i]),(7,.box [.r (i64 201),.os 124 (vs 124) 3 0 (scF (D:Int) a k).1.length]),(124,.arr 95 3 ((scF (D:Int) a k).1.map bedR)),(155,.arr 93 2 JR)]) (fun _=>True) 0 (zj [] ?_ ?_) (Nat.zero_le _) trivial ?_
    ·try simp only[go_sem]
     try rfl
    ·try simp only[go_sem]
     try rfl
    ·intro k vs hk _
     by_cases hkn:k<Kn
     ·have hA0:A.length≠0:=fun h=>by rw[hK,if_pos h] at hkn;omega
      obtain⟨hil,hai,ha12,ha256⟩:=hab hA0
      have hk4:k<4:=by omega
      have g1:decide ((k:Int)<4)=true:=decide_eq_true (by omega)
      have hIk:=hI k (by omega)
      have hlk:=hlen k
      have hsF:scF (D:Int) a (k+1)=scS (D:Int) (scF (D:Int) a k) (triK a k):=rfl
      rw[hsF]
      obtain⟨x0,hx0⟩:=zol (l:=a) (i:=3*k) (by omega)
      obtain⟨x1,hx1⟩:=zol (l:=a) (i:=3*k+1) (by omega)
      obtain⟨x2,hx2⟩:=zol (l:=a) (i:=3*k+2) (by omega)
      have htri:triK a k=(x0,x1,x2):=by
       unfold triK
       rw[List.getD_eq_getElem?_getD,List.getD_eq_getElem?_getD,List.getD_eq_getElem?_getD,hx0,hx1,hx2];rfl
      have b0:=ha256 x0 (zmo hx0)
      have b1:=ha256 x1 (zmo hx1)
      have b2:=ha256 x2 (zmo hx2)
      have hcell:List.take 3 (List.drop (k*3) (a.map u8Q))=[u8Q x0,u8Q x1,u8Q x2]:=by
       rw[Nat.mul_comm k 3,drop_of_opt (l:=a.map u8Q) (i:=3*k) (x:=u8Q x0) (by rw[List.getElem?_map,hx0];rfl),
        drop_of_opt (l:=a.map u8Q) (i:=3*k+1) (x:=u8Q x1) (by rw[List.getElem?_map,hx1];rfl),drop_of_opt (l:=a.map u8Q) (i:=3*k+1+1) (x:=u8Q x2) (by rw[List.getElem?_map,hx2];rfl)]
       rfl
      rw[htri]
      generalize scF (D:Int) a k=S at *
      obtain⟨L,lf⟩:=S
      simp only at hlk hIk ⊢
      repeat apply zq
      refine zb fun K hK=>?_;simp only[go_sem,g1,hil,List.length_map]
      intro _
      apply hK;clear hK K;apply zw (zk [1,4,5,6,7,8,9,45]);simp only[go_sem]
      apply zc rfl<;>intro hc<;>(try simp only[go_sem] at hc)
      apply zx
      try simp only[go_sem]
      apply zq
      apply zd
      apply zq
      refine zb fun K hK=>?_;simp only[go_sem,hai,hil,hcell,ha12,List.length_map]
      repeat refine⟨by omega,?_⟩
      apply hK;clear hK K;refine zw (zfP 10 10 [u8Q x0,u8Q x1,u8Q x2] (by omega) rfl rfl) ?_;apply zw (zk [1,4,5,6,7,8,9,10,11,12]);simp only[go_sem]
      have e1:IntKind.i64.wrap (x0:Int)=x0:=by rw[zI]<;>omega
      have e2:Int.tmod (x0:Int) 3=((x0 % 3:Nat):Int):=rfl
      have n3:=Nat.mod_lt x0 (show 3 > 0 by omega)
      have n10:=Nat.mod_lt (x0 / 3) (show 10 > 0 by omega)
      have e3:IntKind.i64.wrap (1+((x0 % 3:Nat):Int))=((1+x0 % 3:Nat):Int):=by rw[zI]<;>omega
      have e4:IntKind.i64.wrap (100*((1+x0 % 3:Nat):Int))=((100*(1+x0 % 3):Nat):Int):=by rw[zI]<;>omega
      have e5:IntKind.i64.wrap (((100*(1+x0 % 3):Nat):Int)+1)=((100*(1+x0 % 3)+1:Nat):Int):=by rw[zI]<;>omega
      have e6:Int.tdiv (x0:Int) 3=((x0 / 3:Nat):Int):=rfl
      have e6w:IntKind.i64.wrap ((x0 / 3:Nat):Int)=((x0 / 3:Nat):Int):=by rw[zI]<;>omega
      have e7:Int.tmod ((x0 / 3:Nat):Int) 10=((x0 / 3 % 10:Nat):Int):=rfl
      have e8:IntKind.i64.wrap (((100*(1+x0 % 3)+1:Nat):Int)+((x0 / 3 % 10:Nat):Int))=((100*(1+x0 % 3)+1+x0 / 3 % 10:Nat):Int):=by rw[zI]<;>omega
      have e9:Int.tmod (x0:Int) 16=((x0 % 16:Nat):Int):=rfl
      have n16:=Nat.mod_lt x0 (show 16 > 0 by omega)
      have e10:IntKind.u8.wrap ((x0 % 16:Nat):Int)=((x0 % 16:Nat):Int):=by
       have:∀ q:Nat,q<16→IntKind.u8.wrap (q:Int)=(q:Int):=by decide
       exact this _ n16
      apply zq
      refine zb fun K hK=>?_;simp only[go_sem,e1,e2,e3,e4,e5,e6,e6w,e7,e8];(try simp (disch:=omega) only[zI]);apply hK;clear hK K;apply zw (zk [1,4,5,6,7,8,9,10,11,12,13]);simp only[go_sem]
      obtain⟨bd,hbd⟩:∃ bd:Nat,bd=bedN x0:=⟨_,rfl⟩
      have hbd0:bd=if x0 % 16=0 then 0 else 100*(1+x0 % 3)+1+x0 / 3 % 10:=by rw[hbd];rfl
      have hbl:bd<500:=by rw[hbd0];split<;>omega
      repeat apply zq
      refine zb fun K hK=>?_;simp only[go_sem,e9,e10];apply hK;clear hK K;apply zw (zk [1,4,5,6,7,8,9,10,11,12,13,70]);simp only[go_sem]
      refine zaw (n:=158) (fun (_:Unit) vs=>[(1,.r (.sl 12 (A.map fun a=>a.map u8Q))),(4,.pt 4 (vs 4) 0),(5,.pt 5 (vs 5) 0),(6,.r (i64 (i:Int))),(7,.pt 7 (vs 7) 0),(8,.r (i64 lf)),(9,.r (i64 (k:Int))),(10,.r (.rp [u8Q x0,u8Q x1,u8Q x2])),(11,.r (i64 0)),(12,.r (.bo false)),(13,.r (i64 (bd:Int)))])
       (fun _ vs=>[(4,.box [.r (i64 0),.r .ns]),(5,.box [.r (i64 (D:Int)),.os 155 (vs 155) 2 0 i]),(7,.box [.r (i64 201),.os 124 (vs 124) 3 0 L.length]),(124,.arr 95 3 (L.map bedR)),(155,.arr 93 2 JR)]) (fun _=>True) (fun _ h=>h) ?_ ?_
      ·by_cases h16:x0 % 16=0
       ·have z1:(((x0 % 16:Nat):Int) == 0)=true:=by rw[h16];rfl
        try rw[z1]
        rw[hbd0,if_pos h16]
        apply zc rfl<;>intro hc<;>(try simp only[go_sem] at hc)
        refine zb fun K hK=>?_;simp only[go_sem];apply hK;clear hK K
        try simp only[go_sem]
        refine⟨(),zj [] ?_ ?_⟩
        ·try simp only[go_sem]
         try rfl
        ·try simp only[go_sem]
       ·have z1:(((x0 % 16:Nat):Int) == 0)=false:=by rw[beq_eq_false_iff_ne];omega
        try rw[z1]
        rw[hbd0,if_neg h16]
        apply zc rfl<;>intro hc<;>(try simp only[go_sem] at hc)
        apply zx
        try simp only[go_sem]
        refine⟨(),zj [] ?_ ?_⟩
        ·try simp only[go_sem]
         try rfl
        ·try simp only[go_sem]
      intro _ vs _
      apply zq
      refine zaw (n:=158) (fun (_:Unit) vs=>[(1,.r (.sl 12 (A.map fun a=>a.map u8Q))),(4,.pt 4 (vs 4) 0),(5,.pt 5 (vs 5) 0),(6,.r (i64 (i:Int))),(7,.pt 7 (vs 7) 0),(8,.r (i64 lf)),(9,.r (i64 (k:Int))),(10,.r (.rp [u8Q x0,u8Q x1,u8Q x2])),(11,.r (i64 (posN bd L:Int))),(12,.r (.bo (seenB bd L (posN bd L)))),(13,.r (i64 (bd:Int)))])
       (fun _ vs=>[(4,.box [.r (i64 0),.r .ns]),(5,.box [.r (i64 (D:Int)),.os 155 (vs 155) 2 0 i]),(7,.box [.r (i64 201),.os 124 (vs 124) 3 0 L.length]),(124,.arr 95 3 (L.map bedR)),(155,.arr 93 2 JR)]) (fun _=>True) (fun _ h=>h) ?_ ?_
      ·skip
       apply zd
       refine zuv (n:=158) (posN bd L) (fun j vs=>[(1,.r (.sl 12 (A.map fun a=>a.map u8Q))),(4,.pt 4 (vs 4) 0),(5,.pt 5 (vs 5) 0),(6,.r (i64 (i:Int))),(7,.pt 7 (vs 7) 0),(8,.r (i64 lf)),(9,.r (i64 (k:Int))),(10,.r (.rp [u8Q x0,u8Q x1,u8Q x2])),(11,.r (i64 (j:Int))),(12,.r (.bo (seenB bd L j))),(13,.r (i64 (bd:Int)))])
        (fun j vs=>[(4,.box [.r (i64 0),.r .ns]),(5,.box [.r (i64 (D:Int)),.os 155 (vs 155) 2 0 i]),(7,.box [.r (i64 201),.os 124 (vs 124) 3 0 L.length]),(124,.arr 95 3 (L.map bedR)),(155,.arr 93 2 JR)]) (fun _=>True) 0 (zj [] ?_ ?_) (Nat.zero_le _) trivial ?_
       ·try simp only[go_sem]
        try rfl
       ·try simp only[go_sem]
       ·intro j vs hj _
        have hpl:=pos_le (b:=(bd:Int)) (L:=L)
        by_cases hjn:j<posN bd L
        ·obtain⟨y,hy,hyb⟩:=pos_at hjn
         have hjl:j<L.length:=by omega
         have d1:decide (y.b≤(bd:Int))=true:=decide_eq_true hyb
         rw[seen_step hy]
         repeat apply zq
         refine zb fun K hK=>?_;simp only[go_sem,hy,hjl,d1,bedR,List.length_map]
         intro _
         apply hK;clear hK K;apply zw (zk [1,4,5,6,7,8,9,10,11,12,13,85]);simp only[go_sem]
         apply zc rfl<;>intro hc<;>(try simp only[go_sem] at hc)
         apply zx
         try simp only[go_sem]
         apply zd
         cases hse:seenB bd L j with
         | true =>
           apply zq
           refine zb fun K hK=>?_;simp only[go_sem];apply hK;clear hK K;apply zw (zk [1,4,5,6,7,8,9,10,11,12,13]);simp only[go_sem];refine zb fun K hK=>?_;simp only[go_sem];(try simp (disch:=omega) only[zI]);apply hK;clear hK K
           try simp only[go_sem]
           refine⟨by omega,zj [] ?_ ?_⟩
           ·try simp only[go_sem]
           ·try simp only[go_sem]
         | false =>
           apply zq
           refine zb fun K hK=>?_;simp only[go_sem,hy,hjl,bedR,List.length_map];apply hK;clear hK K;apply zw (zk [1,4,5,6,7,8,9,10,11,12,13]);simp only[go_sem];refine zb fun K hK=>?_;simp only[go_sem];(try simp (disch:=omega) only[zI]);apply hK;clear hK K
           try simp only[go_sem]
           refine⟨by omega,zj [] ?_ ?_⟩
           ·try simp only[go_sem]
           ·try simp only[go_sem]
        ·have hjp:j=posN bd L:=by omega
         subst hjp
         rcases pos_end (b:=(bd:Int)) (L:=L) with hpe|⟨y,hy,hyb⟩
         ·have hnl:¬ posN bd L<L.length:=by omega
          repeat apply zq
          refine zb fun K hK=>?_;simp only[go_sem,hnl,List.length_map]
          intro _
          apply hK;clear hK K;apply zw (zk [1,4,5,6,7,8,9,10,11,12,13,85]);simp only[go_sem]
          apply zc rfl<;>intro hc<;>(try simp only[go_sem] at hc)
          apply zf;simp only[go_sem]
          refine⟨(),zj [] ?_ ?_⟩
          ·try simp only[go_sem]
          ·try simp only[go_sem]
         ·have hjl:posN bd L<L.length:=(List.getElem?_eq_some_iff.1 hy).1
          have d1:decide (y.b≤(bd:Int))=false:=decide_eq_false (by omega)
          repeat apply zq
          refine zb fun K hK=>?_;simp only[go_sem,hy,hjl,d1,bedR,List.length_map]
          intro _
          apply hK;clear hK K;apply zw (zk [1,4,5,6,7,8,9,10,11,12,13,85]);simp only[go_sem]
          apply zc rfl<;>intro hc<;>(try simp only[go_sem] at hc)
          apply zf;simp only[go_sem]
          refine⟨(),zj [] ?_ ?_⟩
          ·try simp only[go_sem]
          ·try simp only[go_sem]
      intro _ vs _
      have hps:=pos_le (b:=(bd:Int)) (L:=L)
      have hscS:scS (D:Int) (L,lf) (x0,x1,x2)=if seenB bd L (posN bd L) then (L,lf) else (L.take (posN bd L)++[⟨(bd:Int),lf*(x1:Int) / 512,min (D:Int) (lf*(x1:Int) / 512+((x2 % 20:Nat):Int))⟩]++L.drop (posN bd L),lf-lf*(x1:Int) / 512):=by
       unfold scS scN
       simp only[← hbd]
      rw[hscS]
      generalize posN bd L=P at *
      cases hse:seenB bd L P with
      | true =>
        rw[if_pos rfl]
        repeat apply zq
        refine zb fun K hK=>?_;simp only[go_sem];apply hK;clear hK K;apply zw (zk [1,4,5,6,7,8,9,10,11,13,99]);simp only[go_sem]
        apply zc rfl<;>intro hc<;>(try simp only[go_sem] at hc)
        apply zf;simp only[go_sem];refine zb fun K hK=>?_;simp only[go_sem];(try simp (disch:=omega) only[zI]);apply hK;clear hK K
        try simp only[go_sem]
        refine⟨by omega,zj [] ?_ ?_⟩
        ·try simp only[go_sem]
        ·try simp only[go_sem]
      | false =>
        rw[if_neg (by simp)]
        repeat apply zq
        refine zb fun K hK=>?_;simp only[go_sem];apply hK;clear hK K;apply zw (zk [1,4,5,6,7,8,9,10,11,13,99]);simp only[go_sem]
        apply zc rfl<;>intro hc<;>(try simp only[go_sem] at hc)
        apply zx
        try simp only[go_sem]
        have hl1:=hIk.left
        simp only at hl1
        have f1:IntKind.i64.wrap (x1:Int)=x1:=by rw[zI]<;>omega
        have f2:=Int.mul_nonneg hl1.1 (show (0:Int)≤x1 by omega)
        have f3:lf*(x1:Int)≤lf*255:=Int.mul_le_mul_of_nonneg_left (by omega) hl1.1
        have f4:IntKind.i64.wrap (lf*(x1:Int))=lf*(x1:Int):=by rw[zI]<;>omega
        have f5:Int.tdiv (lf*(x1:Int)) 512=lf*(x1:Int) / 512:=Int.tdiv_eq_ediv_of_nonneg f2
        have f6:0≤lf*(x1:Int) / 512∧lf*(x1:Int) / 512≤64:=⟨by omega,by omega⟩
        generalize lf*(x1:Int) / 512=lo at *
        have f7:IntKind.i64.wrap lo=lo:=by rw[zI]<;>omega
        have f8:IntKind.i64.wrap (x2:Int)=x2:=by rw[zI]<;>omega
        have f9:Int.tmod (x2:Int) 20=((x2 % 20:Nat):Int):=rfl
        have n20:=Nat.mod_lt x2 (show 20 > 0 by omega)
        generalize x2 % 20=y2 at *
        have f10:IntKind.i64.wrap (lo+(y2:Int))=lo+(y2:Int):=by rw[zI]<;>omega
        have hsm:=span_mk lo (min (D:Int) (lo+(y2:Int)))
        apply zq
        refine zb fun K hK=>?_;simp only[go_sem,f1,f4,f5,f7];apply hK;clear hK K;apply zw (zk [1,4,5,6,7,8,9,10,11,13,14]);simp only[go_sem]
        apply zq
        refine zb fun K hK=>?_;simp only[go_sem,f8,f9,f10]
        refine zh (hsm) rfl (by simp only[go_sem,i64,ints]) (by simp only[go_sem,i64,ints]) ?_
        (try simp only[go_sem]);apply hK;clear hK K;refine zw (zfP 15 15 [i64 (bd:Int),i64 lo,i64 (min (D:Int) (lo+(y2:Int)))] (by omega) rfl rfl) ?_;apply zw (zk [1,4,5,6,7,8,9,11,14,15]);simp only[go_sem];refine zw (sub_frzB 7 1 124 (ty:=95) (sz:=3) (off:=0) (m:=L.length) (es:=L.map bedR) (by omega) (by omega) rfl (by simp only[go_sem,List.getElem?_cons_succ,List.getElem?_cons_zero]) (by rfl) (by simp)) ?_;apply zw (zk [1,4,5,6,7,8,9,11,14,15]);simp only[go_sem]
        have f11:IntKind.i64.wrap (lf-lo)=lf-lo:=by rw[zI]<;>omega
        have f12:min P L.length=P:=by omega
        generalize hM:L.map bedR=M at *
        have hMl:M.length=L.length:=by rw[← hM,List.length_map]
        have hMt:List.take L.length M=M:=List.take_of_length_le (by omega)
        refine awp_inv (n:=158) (sgF (.sl 12 (A.map fun a=>a.map u8Q)) i k P L.length lf lo (min (D:Int) (lo+(y2:Int))) (bd:Int) M) (sgR D i P L.length lo (min (D:Int) (lo+(y2:Int))) (bd:Int) M JR) follows (by kernel_rfl) (by kernel_rfl) (by decide +kernel) (zj [] ?_ ?_) ?_ ?_
        ·simp only[go_sem,sgF,vI,if_true,if_false,Bool.false_eq_true,cond_false]
        ·simp only[go_sem,sgR,cond_false,List.cons_append,List.nil_append]
        ·refine⟨fun b vs hdn hbk hde=>?_,fun b vs hdn hbk hde=>?_,fun b vs hdn hbk hde=>?_,fun b vs hdn hbk hde=>?_,fun b vs hdn hbk hde=>?_,fun b vs hdn hbk hde=>?_,fun b vs hdn hbk hde=>?_,fun b vs hdn hbk hde=>?_,fun b vs hdn hbk hde=>?_,fun b vs hdn hbk hde=>?_,fun b vs hdn hbk hde=>?_,fun b vs hdn hbk hde=>?_,fun b vs hdn hbk hde=>?_,fun b vs hdn hbk hde=>?_,fun b vs hdn hbk hde=>?_,fun b vs hdn hbk hde=>?_,fun b vs hdn hbk hde=>?_,fun b vs hdn hbk hde=>?_,fun b vs hdn hbk hde=>?_,fun b vs hdn hbk hde=>?_,trivial⟩
         ·skip
          have G:=dnT hdn hbk [5,17,18,19,8,13] (by decide +kernel)
          simp only[allB,and_true] at G
          (simp only[go_sem,sgF,sgR,upd,vI,cond_true,cond_false,if_true,Bool.false_eq_true,if_false,hbk,G,hMl,hps,f11,f12,List.length_append,List.length_take,List.length_drop,List.length_cons,List.length_nil,List.drop_zero,Nat.sub_zero,List.append_assoc,hMt,List.cons_append,List.nil_append])
          all_goals (refine zj [] ?_ ?_<;>(simp only[go_sem,sgF,sgR,upd,vI,cond_true,cond_false,if_true,Bool.false_eq_true,if_false,hbk,G,hMl,hps,f11,f12,List.length_append,List.length_take,List.length_drop,List.length_cons,List.length_nil,List.drop_zero,Nat.sub_zero,List.append_assoc,hMt,List.cons_append,List.nil_append]))
         ·skip
          have G:=dnT hdn hbk [2,17,18,19,4,5,8,13] (by decide +kernel)
          simp only[allB,and_true] at G
          (simp only[go_sem,sgF,sgR,upd,vI,cond_true,cond_false,if_true,Bool.false_eq_true,if_false,hbk,G,hMl,hps,f11,f12,List.length_append,List.length_take,List.length_drop,List.length_cons,List.length_nil,List.drop_zero,Nat.sub_zero,List.append_assoc,hMt,List.cons_append,List.nil_append])
          all_goals (refine zj [] ?_ ?_<;>(simp only[go_sem,sgF,sgR,upd,vI,cond_true,cond_false,if_true,Bool.false_eq_true,if_false,hbk,G,hMl,hps,f11,f12,List.length_append,List.length_take,List.length_drop,List.length_cons,List.length_nil,List.drop_zero,Nat.sub_zero,List.append_assoc,hMt,List.cons_append,List.nil_append]))
         ·skip
          have H:=upT hdn hde [1] (by decide +kernel)
          have G:=dnT hdn hbk [4,17,18,19,5,8,13] (by decide +kernel)
          simp only[allB,and_true] at H G
          (simp only[go_sem,sgF,sgR,upd,vI,cond_true,cond_false,if_true,Bool.false_eq_true,if_false,hbk,H,G,hMl,hps,f11,f12,List.length_append,List.length_take,List.length_drop,List.length_cons,List.length_nil,List.drop_zero,Nat.sub_zero,List.append_assoc,hMt,List.cons_append,List.nil_append])
          all_goals (refine zj [] ?_ ?_<;>(simp only[go_sem,sgF,sgR,upd,vI,cond_true,cond_false,if_true,Bool.false_eq_true,if_false,hbk,H,G,hMl,hps,f11,f12,List.length_append,List.length_take,List.length_drop,List.length_cons,List.length_nil,List.drop_zero,Nat.sub_zero,List.append_assoc,hMt,List.cons_append,List.nil_append]))
         ·skip
          have G:=dnT hdn hbk [4,17,18,19,5,8,13] (by decide +kernel)
          simp only[allB,and_true] at G
          (simp only[go_sem,sgF,sgR,upd,vI,cond_true,cond_false,if_true,Bool.false_eq_true,if_false,hbk,G,hMl,hps,f11,f12,List.length_append,List.length_take,List.length_drop,List.length_cons,List.length_nil,List.drop_zero,Nat.sub_zero,List.append_assoc,hMt,List.cons_append,List.nil_append])
          all_goals (refine zj [] ?_ ?_<;>(simp only[go_sem,sgF,sgR,upd,vI,cond_true,cond_false,if_true,Bool.false_eq_true,if_false,hbk,G,hMl,hps,f11,f12,List.length_append,List.length_take,List.length_drop,List.length_cons,List.length_nil,List.drop_zero,Nat.sub_zero,List.append_assoc,hMt,List.cons_append,List.nil_append]))
         ·skip
          have H:=upT hdn hde [2,3,1] (by decide +kernel)
          have G:=dnT hdn hbk [5,17,18,19,8,13] (by decide +kernel)
          simp only[allB,and_true] at H G
          (simp only[go_sem,sgF,sgR,upd,vI,cond_true,cond_false,if_true,Bool.false_eq_true,if_false,hbk,H,G,hMl,hps,f11,f12,List.length_append,List.length_take,List.length_drop,List.length_cons,List.length_nil,List.drop_zero,Nat.sub_zero,List.append_assoc,hMt,List.cons_append,List.nil_append])
          all_goals (refine zj [] ?_ ?_<;>(simp only[go_sem,sgF,sgR,upd,vI,cond_true,cond_false,if_true,Bool.false_eq_true,if_false,hbk,H,G,hMl,hps,f11,f12,List.length_append,List.length_take,List.length_drop,List.length_cons,List.length_nil,List.drop_zero,Nat.sub_zero,List.append_assoc,hMt,List.cons_append,List.nil_append]))
         ·skip
          have H:=upT hdn hde [0,4,2,3,1] (by decide +kernel)
          have G:=dnT hdn hbk [8,17,18,19,13] (by decide +kernel)
          simp only[allB,and_true] at H G
          (simp only[go_sem,sgF,sgR,upd,vI,cond_true,cond_false,if_true,Bool.false_eq_true,if_false,hbk,H,G,hMl,hps,f11,f12,List.length_append,List.length_take,List.length_drop,List.length_cons,List.length_nil,List.drop_zero,Nat.sub_zero,List.append_assoc,hMt,List.cons_append,List.nil_append])
          all_goals (try refine⟨⟨by omega,by omega⟩,?_⟩)
          all_goals (refine zj [] ?_ ?_<;>(simp only[go_sem,sgF,sgR,upd,vI,cond_true,cond_false,if_true,Bool.false_eq_true,if_false,hbk,H,G,hMl,hps,f11,f12,List.length_append,List.length_take,List.length_drop,List.length_cons,List.length_nil,List.drop_zero,Nat.sub_zero,List.append_assoc,hMt,List.cons_append,List.nil_append]))
         ·skip
          have G:=dnT hdn hbk [7,17,18,19,8,13] (by decide +kernel)
          simp only[allB,and_true] at G
          cases g5:b 5
          all_goals (simp only[go_sem,sgF,sgR,upd,vI,cond_true,cond_false,if_true,Bool.false_eq_true,if_false,hbk,G,g5,hMl,hps,f11,f12,List.length_append,List.length_take,List.length_drop,List.length_cons,List.length_nil,List.drop_zero,Nat.sub_zero,List.append_assoc,hMt,List.cons_append,List.nil_append])
          all_goals (refine zj [] ?_ ?_<;>(simp only[go_sem,sgF,sgR,upd,vI,cond_true,cond_false,if_true,Bool.false_eq_true,if_false,hbk,G,g5,hMl,hps,f11,f12,List.length_append,List.length_take,List.length_drop,List.length_cons,List.length_nil,List.drop_zero,Nat.sub_zero,List.append_assoc,hMt,List.cons_append,List.nil_append]))
         ·skip
          have H:=upT hdn hde [6] (by decide +kernel)
          have G:=dnT hdn hbk [8,17,18,19,13] (by decide +kernel)
          simp only[allB,and_true] at H G
          cases g5:b 5
          all_goals (simp only[go_sem,sgF,sgR,upd,vI,cond_true,cond_false,if_true,Bool.false_eq_true,if_false,hbk,H,G,g5,hMl,hps,f11,f12,List.length_append,List.length_take,List.length_drop,List.length_cons,List.length_nil,List.drop_zero,Nat.sub_zero,List.append_assoc,hMt,List.cons_append,List.nil_append])
          all_goals (refine zj [] ?_ ?_<;>(simp only[go_sem,sgF,sgR,upd,vI,cond_true,cond_false,if_true,Bool.false_eq_true,if_false,hbk,H,G,g5,hMl,hps,f11,f12,List.length_append,List.length_take,List.length_drop,List.length_cons,List.length_nil,List.drop_zero,Nat.sub_zero,List.append_assoc,hMt,List.cons_append,List.nil_append]))
         ·skip
          have H:=upT hdn hde [5,5,7,0,4,6,2,3,1] (by decide +kernel)
          have G:=dnT hdn hbk [13,17,18,19] (by decide +kernel)
          simp only[allB,and_true] at H G
          (simp only[go_sem,sgF,sgR,upd,vI,cond_true,cond_false,if_true,Bool.false_eq_true,if_false,hbk,H,G,hMl,hps,f11,f12,List.length_append,List.length_take,List.length_drop,List.length_cons,List.length_nil,List.drop_zero,Nat.sub_zero,List.append_assoc,hMt,List.cons_append,List.nil_append])
          all_goals (try refine⟨⟨by omega,by omega⟩,?_⟩)
          all_goals refine fitV_subS (zk [1,4,5,6,7,8,9,11,14,15,119,120,121,122,123,125,126,127,128,129,130,131,132,133,134,135,136]) ?_
          all_goals simp only[go_sem]
          all_goals (refine zj [] ?_ ?_<;>(simp only[go_sem,sgF,sgR,upd,vI,cond_true,cond_false,if_true,Bool.false_eq_true,if_false,hbk,H,G,hMl,hps,f11,f12,List.length_append,List.length_take,List.length_drop,List.length_cons,List.length_nil,List.drop_zero,Nat.sub_zero,List.append_assoc,hMt,List.cons_append,List.nil_append]))
         ·skip
          have G:=dnT hdn hbk [10,17,18,19,12,13] (by decide +kernel)
          simp only[allB,and_true] at G
          cases g5:b 5<;>cases g8:b 8
          all_goals (simp only[go_sem,sgF,sgR,upd,vI,cond_true,cond_false,if_true,Bool.false_eq_true,if_false,hbk,G,g5,g8,hMl,hps,f11,f12,List.length_append,List.length_take,List.length_drop,List.length_cons,List.length_nil,List.drop_zero,Nat.sub_zero,List.append_assoc,hMt,List.cons_append,List.nil_append])
          all_goals (refine zj [] ?_ ?_<;>(simp only[go_sem,sgF,sgR,upd,vI,cond_true,cond_false,if_true,Bool.false_eq_true,if_false,hbk,G,g5,g8,hMl,hps,f11,f12,List.length_append,List.length_take,List.length_drop,List.length_cons,List.length_nil,List.drop_zero,Nat.sub_zero,List.append_assoc,hMt,List.cons_append,List.nil_append]))
         ·skip
          have H:=upT hdn hde [9] (by decide +kernel)
          have G:=dnT hdn hbk [12,17,18,19,13] (by decide +kernel)
          simp only[allB,and_true] at H G
          cases g5:b 5<;>cases g8:b 8
          all_goals (simp only[go_sem,sgF,sgR,upd,vI,cond_true,cond_false,if_true,Bool.false_eq_true,if_false,hbk,H,G,g5,g8,hMl,hps,f11,f12,List.length_append,List.length_take,List.length_drop,List.length_cons,List.length_nil,List.drop_zero,Nat.sub_zero,List.append_assoc,hMt,List.cons_append,List.nil_append])
          all_goals (refine zj [] ?_ ?_<;>(simp only[go_sem,sgF,sgR,upd,vI,cond_true,cond_false,if_true,Bool.false_eq_true,if_false,hbk,H,G,g5,g8,hMl,hps,f11,f12,List.length_append,List.length_take,List.length_drop,List.length_cons,List.length_nil,List.drop_zero,Nat.sub_zero,List.append_assoc,hMt,List.cons_append,List.nil_append]))
         ·skip
          have G:=dnT hdn hbk [12,17,18,19,13] (by decide +kernel)
          simp only[allB,and_true] at G
          cases g5:b 5<;>cases g8:b 8
          all_goals (simp only[go_sem,sgF,sgR,upd,vI,cond_true,cond_false,if_true,Bool.false_eq_true,if_false,hbk,G,g5,g8,hMl,hps,f11,f12,List.length_append,List.length_take,List.length_drop,List.length_cons,List.length_nil,List.drop_zero,Nat.sub_zero,List.append_assoc,hMt,List.cons_append,List.nil_append])
          all_goals (refine zj [] ?_ ?_<;>(simp only[go_sem,sgF,sgR,upd,vI,cond_true,cond_false,if_true,Bool.false_eq_true,if_false,hbk,G,g5,g8,hMl,hps,f11,f12,List.length_append,List.length_take,List.length_drop,List.length_cons,List.length_nil,List.drop_zero,Nat.sub_zero,List.append_assoc,hMt,List.cons_append,List.nil_append]))
         ·skip
          have H:=upT hdn hde [10,11,9] (by decide +kernel)
          have G:=dnT hdn hbk [13,17,18,19] (by decide +kernel)
          simp only[allB,and_true] at H G
          cases g5:b 5<;>cases g8:b 8
          all_goals (simp only[go_sem,sgF,sgR,upd,vI,cond_true,cond_false,if_true,Bool.false_eq_true,if_false,hbk,H,G,g5,g8,hMl,hps,f11,f12,List.length_append,List.length_take,List.length_drop,List.length_cons,List.length_nil,List.drop_zero,Nat.sub_zero,List.append_assoc,hMt,List.cons_append,List.nil_append])
          all_goals (refine zj [] ?_ ?_<;>(simp only[go_sem,sgF,sgR,upd,vI,cond_true,cond_false,if_true,Bool.false_eq_true,if_false,hbk,H,G,g5,g8,hMl,hps,f11,f12,List.length_append,List.length_take,List.length_drop,List.length_cons,List.length_nil,List.drop_zero,Nat.sub_zero,List.append_assoc,hMt,List.cons_append,List.nil_append]))
         ·skip
          have H:=upT hdn hde [8,8,12,5,7,10,11,0,4,6,9,2,3,1] (by decide +kernel)
          have G:=dnT hdn hbk [17,18,19] (by decide +kernel)
          simp only[allB,and_true] at H G
          (simp only[go_sem,sgF,sgR,upd,vI,cond_true,cond_false,if_true,Bool.false_eq_true,if_false,hbk,H,G,hMl,hps,f11,f12,List.length_append,List.length_take,List.length_drop,List.length_cons,List.length_nil,List.drop_zero,Nat.sub_zero,List.append_assoc,hMt,List.cons_append,List.nil_append])
          all_goals (try refine⟨⟨by omega,by omega⟩,?_⟩)
          all_goals refine fitV_subS (zk [1,4,5,6,7,8,9,11,14,15,119,120,121,122,123,125,126,128,129,130,131,132,133,134,135,136]) ?_
          all_goals simp only[go_sem]
          all_goals (refine zj [] ?_ ?_<;>(simp only[go_sem,sgF,sgR,upd,vI,cond_true,cond_false,if_true,Bool.false_eq_true,if_false,hbk,H,G,hMl,hps,f11,f12,List.length_append,List.length_take,List.length_drop,List.length_cons,List.length_nil,List.drop_zero,Nat.sub_zero,List.append_assoc,hMt,List.cons_append,List.nil_append]))
         ·skip
          have G:=dnT hdn hbk [16,19] (by decide +kernel)
          simp only[allB,and_true] at G
          cases g5:b 5<;>cases g8:b 8<;>cases g13:b 13<;>cases g18:b 18
          all_goals (simp only[go_sem,sgF,sgR,upd,vI,cond_true,cond_false,if_true,Bool.false_eq_true,if_false,hbk,G,g5,g8,g13,g18,hMl,hps,f11,f12,List.length_append,List.length_take,List.length_drop,List.length_cons,List.length_nil,List.drop_zero,Nat.sub_zero,List.append_assoc,hMt,List.cons_append,List.nil_append])
          all_goals (refine zj [] ?_ ?_<;>(simp only[go_sem,sgF,sgR,upd,vI,cond_true,cond_false,if_true,Bool.false_eq_true,if_false,hbk,G,g5,g8,g13,g18,hMl,hps,f11,f12,List.length_append,List.length_take,List.length_drop,List.length_cons,List.length_nil,List.drop_zero,Nat.sub_zero,List.append_assoc,hMt,List.cons_append,List.nil_append]))
         ·skip
          have G:=dnT hdn hbk [16,19] (by decide +kernel)
          simp only[allB,and_true] at G
          cases g5:b 5<;>cases g8:b 8<;>cases g13:b 13<;>cases g18:b 18
          all_goals (simp only[go_sem,sgF,sgR,upd,vI,cond_true,cond_false,if_true,Bool.false_eq_true,if_false,hbk,G,g5,g8,g13,g18,hMl,hps,f11,f12,List.length_append,List.length_take,List.length_drop,List.length_cons,List.length_nil,List.drop_zero,Nat.sub_zero,List.append_assoc,hMt,List.cons_append,List.nil_append])
          all_goals (refine zj [] ?_ ?_<;>(simp only[go_sem,sgF,sgR,upd,vI,cond_true,cond_false,if_true,Bool.false_eq_true,if_false,hbk,G,g5,g8,g13,g18,hMl,hps,f11,f12,List.length_append,List.length_take,List.length_drop,List.length_cons,List.length_nil,List.drop_zero,Nat.sub_zero,List.append_assoc,hMt,List.cons_append,List.nil_append]))
         ·skip
          have H:=upT hdn hde [14,15] (by decide +kernel)
          have G:=dnT hdn hbk [19] (by decide +kernel)
          simp only[allB,and_true] at H G
          cases g5:b 5<;>cases g8:b 8<;>cases g13:b 13<;>cases g18:b 18
          all_goals (simp only[go_sem,sgF,sgR,upd,vI,cond_true,cond_false,if_true,Bool.false_eq_true,if_false,hbk,H,G,g5,g8,g13,g18,hMl,hps,f11,f12,List.length_append,List.length_take,List.length_drop,List.length_cons,List.length_nil,List.drop_zero,Nat.sub_zero,List.append_assoc,hMt,List.cons_append,List.nil_append])
          all_goals (refine zj [] ?_ ?_<;>(simp only[go_sem,sgF,sgR,upd,vI,cond_true,cond_false,if_true,Bool.false_eq_true,if_false,hbk,H,G,g5,g8,g13,g18,hMl,hps,f11,f12,List.length_append,List.length_take,List.length_drop,List.length_cons,List.length_nil,List.drop_zero,Nat.sub_zero,List.append_assoc,hMt,List.cons_append,List.nil_append]))
         ·skip
          have H:=upT hdn hde [0,1,2,3,4,5,6,7,8,9,10,11,12,13] (by decide +kernel)
          have G:=dnT hdn hbk [18,19] (by decide +kernel)
          simp only[allB,and_true] at H G
          (simp only[go_sem,sgF,sgR,upd,vI,cond_true,cond_false,if_true,Bool.false_eq_true,if_false,hbk,H,G,hMl,hps,f11,f12,List.length_append,List.length_take,List.length_drop,List.length_cons,List.length_nil,List.drop_zero,Nat.sub_zero,List.append_assoc,hMt,List.cons_append,List.nil_append])
          all_goals (refine zj [] ?_ ?_<;>(simp only[go_sem,sgF,sgR,upd,vI,cond_true,cond_false,if_true,Bool.false_eq_true,if_false,hbk,H,G,hMl,hps,f11,f12,List.length_append,List.length_take,List.length_drop,List.length_cons,List.length_nil,List.drop_zero,Nat.sub_zero,List.append_assoc,hMt,List.cons_append,List.nil_append]))
         ·skip
          have H:=upT hdn hde [0,1,2,3,4,5,6,7,8,9,10,11,12,13,13,13,17] (by decide +kernel)
          have G:=dnT hdn hbk [19] (by decide +kernel)
          simp only[allB,and_true] at H G
          (simp only[go_sem,sgF,sgR,upd,vI,cond_true,cond_false,if_true,Bool.false_eq_true,if_false,hbk,H,G,hMl,hps,f11,f12,List.length_append,List.length_take,List.length_drop,List.length_cons,List.length_nil,List.drop_zero,Nat.sub_zero,List.append_assoc,hMt,List.cons_append,List.nil_append])
          all_goals (refine zj [] ?_ ?_<;>(simp only[go_sem,sgF,sgR,upd,vI,cond_true,cond_false,if_true,Bool.false_eq_true,if_false,hbk,H,G,hMl,hps,f11,f12,List.length_append,List.length_take,List.length_drop,List.length_cons,List.length_nil,List.drop_zero,Nat.sub_zero,List.append_assoc,hMt,List.cons_append,List.nil_append]))
         ·skip
          have H:=upT hdn hde [0,1,2,3,4,5,6,7,8,9,10,11,12,13,14,15,16,16,17,18,18] (by decide +kernel)
          simp only[allB,and_true] at H
          (simp only[go_sem,sgF,sgR,upd,vI,cond_true,cond_false,if_true,Bool.false_eq_true,if_false,hbk,H,hMl,hps,f11,f12,List.length_append,List.length_take,List.length_drop,List.length_cons,List.length_nil,List.drop_zero,Nat.sub_zero,List.append_assoc,hMt,List.cons_append,List.nil_append])
          all_goals (refine zj [] ?_ ?_<;>(simp only[go_sem,sgF,sgR,upd,vI,cond_true,cond_false,if_true,Bool.false_eq_true,if_false,hbk,H,hMl,hps,f11,f12,List.length_append,List.length_take,List.length_drop,List.length_cons,List.length_nil,List.drop_zero,Nat.sub_zero,List.append_assoc,hMt,List.cons_append,List.nil_append]))
        intro b vs hb
        simp only[go_sem,sgF,sgR,vI,hb,if_true,cond_true,List.cons_append,List.nil_append];apply zw (zk [1,4,5,6,7,8,9]);simp only[go_sem]
        have hn2:(L.take P++[(⟨(bd:Int),lo,min (D:Int) (lo+(y2:Int))⟩:Bd)]++L.drop P).length=P+1+(L.length-P):=by
         simp only[List.length_append,List.length_take,List.length_cons,List.length_nil,List.length_drop];omega
        have hm2:(L.take P++[(⟨(bd:Int),lo,min (D:Int) (lo+(y2:Int))⟩:Bd)]++L.drop P).map bedR=M.take P++([i64 (bd:Int),i64 lo,i64 (min (D:Int) (lo+(y2:Int)))]::M.drop P):=by
         rw[← hM];simp [List.map_take,List.map_drop,bedR]
        rw[hn2,hm2]
        refine zb fun K hK=>?_;simp only[go_sem];(try simp (disch:=omega) only[zI]);apply hK;clear hK K
        try simp only[go_sem]
        refine⟨by omega,zj [] ?_ ?_⟩
        ·try simp only[go_sem]
        ·try simp only[go_sem]
     ·have hke:k=Kn:=by omega
      subst hke
      by_cases hA0:A.length=0
      ·have hK0:k=0:=by rw[hK,if_pos hA0]
       have hnl:¬ i<A.length:=by omega
       have g1:decide ((k:Int)<4)=true:=decide_eq_true (by omega)
       repeat apply zq
       refine zb fun K hK=>?_;simp only[go_sem,g1,hnl,List.length_map]
       intro _
       apply hK;clear hK K;apply zw (zk [1,4,5,6,7,8,9,45]);simp only[go_sem]
       apply zc rfl<;>intro hc<;>(try simp only[go_sem] at hc)
       apply zf;simp only[go_sem]
       refine⟨(),zj [] ?_ ?_⟩
       ·try simp only[go_sem]
       ·try simp only[go_sem]
      ·have hK0:k=4:=by rw[hK,if_neg hA0]
       have g1:decide ((k:Int)<4)=false:=decide_eq_false (by omega)
       repeat apply zq
       refine zb fun K hK=>?_;simp only[go_sem,g1];apply hK;clear hK K;apply zw (zk [1,4,5,6,7,8,9,45]);simp only[go_sem]
       apply zc rfl<;>intro hc<;>(try simp only[go_sem] at hc)
       apply zf;simp only[go_sem]
       refine⟨(),zj [] ?_ ?_⟩
       ·try simp only[go_sem]
       ·try simp only[go_sem]
   intro _ vs _
   generalize hLs:(scF (D:Int) a Kn).1=L at *
   cases L with
   | nil =>
     have hhd:headD (D:Int) ([]:List Bd)=[⟨201,0,(D:Int)⟩]:=rfl
     rw[hhd]
     repeat apply zq
     refine zb fun K hK=>?_;simp only[go_sem,List.map_nil,List.length_nil,beq_self_eq_true];apply hK;clear hK K;apply zw (zk [1,4,5,6,7,140]);simp only[go_sem]
     apply zc rfl<;>intro hc<;>(try simp only[go_sem] at hc)
     refine awp_long ?_
     refine sops_take 1 (by kernel_rfl) fun K hK=>?_
     simp only[go_sem,List.take_succ_cons,List.take_zero,List.drop_succ_cons,List.drop_zero,List.append_eq,List.cons_append,List.nil_append]
     refine hK _ rfl ?_
     clear hK K
     refine sops_sub (zk [1,4,5,6,7,141]) ?_
     simp only[go_sem]
     refine sops_own (by simp [go_sem]) ?_
     simp only[go_sem,sBuildOwn]
     repeat first|refine⟨by omega,?_⟩
     refine sops_end (by kernel_rfl) fun K hK=>?_
     simp only[go_sem,List.drop_succ_cons,List.drop_zero,List.append_eq,List.cons_append,List.nil_append];apply hK;clear hK K;apply zw (zk [1,4,5,6,7]);simp only[go_sem]
     apply zq
     refine zb fun K hK=>?_;simp only[go_sem,List.length_cons,List.length_nil,List.map_nil];apply hK;clear hK K;apply zw (zk [1,4,5,6,7]);simp only[go_sem];refine zw (sub_frzB 7 1 142 (ty:=95) (sz:=3) (off:=0) (m:=1) (es:=[[i64 201,i64 0,i64 (D:Int)]]) (by omega) (by omega) rfl (by simp only[go_sem,List.getElem?_cons_succ,List.getElem?_cons_zero]) (by rfl) (by simp)) ?_;apply zw (zk [1,4,5,6,7]);simp only[go_sem];refine zb fun K hK=>?_;simp only[go_sem,hjl,List.length_map]
     refine⟨by omega,?_⟩
     apply hK;clear hK K;apply zw (zk [1,4,5,6]);simp only[go_sem];refine zb fun K hK=>?_;simp only[go_sem];(try simp (disch:=omega) only[zI]);apply hK;clear hK K
     try simp only[go_sem]
     refine⟨by omega,zj [7,124] ?_ ?_⟩
     ·try simp only[go_sem]
     ·try simp only[go_sem]
      simp only[List.map_append,List.map_cons,List.map_nil,aimR,bedR]
      rfl
   | cons x L' =>
     have hne:((x::L').length:Int) == 0→False:=fun h=>by rw[beq_iff_eq,List.length_cons] at h;omega
     have hne1:(((x::L').length:Int) == 0)=false:=by rw[beq_eq_false_iff_ne,List.length_cons];omega
     have hne2:(((L'.length:Int)+1) == 0)=false:=by rw[beq_eq_false_iff_ne];omega
     have hne3:((L'.length+1) == 0)=false:=by rw[beq_eq_false_iff_ne];omega
     have hhd:headD (D:Int) (x::L')=⟨x.b,x.lo,(D:Int)⟩::L':=rfl
     have hbr:bedR x=[i64 x.b,i64 x.lo,i64 x.hi]:=rfl
     rw[hhd]
     repeat apply zq
     refine zb fun K hK=>?_;simp only[go_sem,List.map_cons,List.length_cons,List.length_map,hne1,hne2,hne3]
     intro _
     apply hK;clear hK K;apply zw (zk [1,4,5,6,7,140]);simp only[go_sem]
     try rw[hne1]
     apply zc rfl<;>intro hc<;>(try simp only[go_sem] at hc)
     apply zx
     try simp only[go_sem]
     apply zq
     refine zb fun K hK=>?_;simp only[go_sem,hbr,List.map_cons,List.length_cons,List.length_map]
     repeat refine⟨by omega,?_⟩
     apply hK;clear hK K;apply zw (zk [1,4,5,6,7]);simp only[go_sem];refine zw (sub_frzB 7 1 124 (ty:=95) (sz:=3) (off:=0) (m:=L'.length+1) (es:=[i64 x.b,i64 x.lo,i64 (D:Int)]::L'.map bedR) (by omega) (by omega) rfl (by simp only[go_sem,List.getElem?_cons_succ,List.getElem?_cons_zero]) (by rfl) (by simp)) ?_;apply zw (zk [1,4,5,6,7]);simp only[go_sem]
     have tk5:List.take (L'.length+1) ([i64 x.b,i64 x.lo,i64 (D:Int)]::L'.map bedR)=[i64 x.b,i64 x.lo,i64 (D:Int)]::L'.map bedR:=List.take_of_length_le (by simp)
     try rw[tk5]
     apply zw (zk [1,4,5,6,7]);simp only[go_sem];refine zb fun K hK=>?_;simp only[go_sem,hjl,List.length_map]
     refine⟨by omega,?_⟩
     apply hK;clear hK K;apply zw (zk [1,4,5,6]);simp only[go_sem];refine zb fun K hK=>?_;simp only[go_sem];(try simp (disch:=omega) only[zI]);apply hK;clear hK K
     try simp only[go_sem]
     refine⟨by omega,zj [7] ?_ ?_⟩
     ·try simp only[go_sem]
     ·try simp only[go_sem]
      simp only[List.map_append,List.map_cons,List.map_nil,aimR,bedR]
      rfl
  ·have hiN:i=N:=by omega
   subst hiN
   rw[hall]
   have hsl:(scL (D:Int) A).length=i:=by rw[← hall];simp [aimsJ]
   have hi0:i≠0:=by rw[hN];split<;>omega
   have q0:((i:Int) == 0)=false:=by rw[beq_eq_false_iff_ne];omega
   have q0':(i == 0)=false:=by rw[beq_eq_false_iff_ne];omega
   repeat apply zq
   refine zaw (n:=158) (fun (_:Unit) vs=>[(1,.r (.sl 12 (A.map fun a=>a.map u8Q))),(4,.pt 4 (vs 4) 0),(5,.pt 5 (vs 5) 0),(6,.r (i64 (i:Int))),(32,.r (.bo false))])
    (fun _ vs=>[(4,.box [.r (i64 0),.r .ns]),(5,.box [.r (i64 (D:Int)),.os 155 (vs 155) 2 0 i]),(155,.arr 93 2 ((scL (D:Int) A).map aimR))]) (fun _=>True) (fun _ h=>h) ?_ ?_
   ·by_cases q1:i<A.length
    ·have q2:decide ((i:Int)<3)=false:=decide_eq_false (by rw[hN] at q1 ⊢;split at q1<;>rename_i hz<;>(try rw[if_pos hz])<;>(try rw[if_neg hz])<;>omega)
     refine zb fun K hK=>?_;simp only[go_sem,q0,q0',q1,q2,List.length_map]
     intro _
     apply hK;clear hK K
     try simp only[go_sem]
     refine⟨(),zj [] ?_ ?_⟩
     ·try simp only[go_sem]
     ·try simp only[go_sem]
    ·skip
     refine zb fun K hK=>?_;simp only[go_sem,q0,q0',q1,List.length_map]
     intro _
     apply hK;clear hK K
     try simp only[go_sem]
     refine⟨(),zj [] ?_ ?_⟩
     ·try simp only[go_sem]
     ·try simp only[go_sem]
   intro _ vs _
   apply zc rfl<;>intro hc<;>(try simp only[go_sem] at hc)
   refine zw (sub_frzB 5 1 155 (ty:=93) (sz:=2) (off:=0) (m:=i) (es:=(scL (D:Int) A).map aimR) (by omega) (by omega) rfl (by simp only[go_sem,List.getElem?_cons_succ,List.getElem?_cons_zero]) (by rfl) (by simp [hsl])) ?_;apply zw (zk [4,5]);simp only[go_sem]
   have tk6:List.take i ((scL (D:Int) A).map aimR)=(scL (D:Int) A).map aimR:=List.take_of_length_le (by simp [hsl])
   try rw[tk6]
   apply zf;simp only[go_sem]
   apply zq
   refine zb fun K hK=>?_;simp only[go_sem];apply hK;clear hK K;apply zw (zk [4]);simp only[go_sem];apply ze;simp only[go_sem]
theorem one_mk (n:Int):ACalls Tryz.prog 36 [i64 n] (.ag [i64 n,i64 n]):=by
 refine zas (rs:=[.ag [i64 n,i64 n]]) [.cell 2 48] Tryz.func36 rfl (by kernel_rfl) Tryz.ntmps36 rfl (by simp) rfl fun C vs=>?_
 apply zq
 refine zb fun K hK=>?_;simp only[go_sem];apply hK;apply zw (zk [0,2]);simp only[go_sem]
 apply zq
 refine zb fun K hK=>?_;simp only[go_sem];apply hK;apply zw (zk [2]);simp only[go_sem];apply ze;simp only[go_sem]
def rndL (n:Nat):List Sp:=List.replicate (n-1) (0,0)++[(1000000,1000000)]
theorem rounds_ok (n:Nat) (h1:1≤n) (h2:n≤100):ACalls Tryz.prog 25 [i64 (n:Int)] (spansR (rndL n)):=by
 have ho:=one_mk 1000000
 refine zas (rs:=[spansR (rndL n)]) [.tmp 2] Tryz.func25 rfl (by kernel_rfl) Tryz.ntmps25 rfl (by simp) rfl fun C vs=>?_
 apply zq
 refine zb fun K hK=>?_;simp only[go_sem];apply hK;apply zw (zk [0,2]);simp only[go_sem]
 apply zq
 refine zb fun K hK=>?_;simp only[go_sem];apply hK;refine zw (sub_own 3 14 48 2 (by omega) rfl) ?_;apply zw (zk [0,2,3]);simp only[go_sem]
 repeat apply zq
 refine zb fun K hK=>?_;simp only[go_sem];apply hK;apply zw (zk [0,2,3,4]);simp only[go_sem];apply zd
 refine zuv (n:=19) (n-1) (fun i vs=>[(0,.r (i64 (n:Int))),(3,.os 14 (vs 14) 2 0 i),(4,.r (i64 ((i:Int)+1)))])
  (fun i vs=>[(14,.arr 48 2 ((List.replicate i ((0,0):Sp)).map spanR))]) (fun _=>True) 0 (zj [] ?_ ?_) (Nat.zero_le _) trivial ?_
 ·try simp only[go_sem]
  try rfl
 ·try simp only[go_sem]
  try rfl
 ·intro i vs hi _
  have hr:List.replicate (i+1) ((0,0):Sp)=List.replicate i (0,0)++[(0,0)]:=List.replicate_succ'
  have hrl:(List.replicate i ((0,0):Sp)).length=i:=List.length_replicate
  rw[hr]
  by_cases hin:i<n-1
  ·have d1:decide ((i:Int)+1<(n:Int))=true:=decide_eq_true (by omega)
   generalize List.replicate i ((0,0):Sp)=L at *
   repeat apply zq
   refine zb fun K hK=>?_;simp only[go_sem,d1];apply hK;apply zw (zk [0,3,4,8]);simp only[go_sem]
   apply zc rfl<;>intro hc<;>(try simp only[go_sem] at hc)
   apply zx
   try simp only[go_sem]
   apply zq
   apply zd;refine zb fun K hK=>?_;simp only[go_sem,hrl,List.length_map]
   refine⟨by omega,?_⟩
   apply hK;apply zw (zk [0,3,4]);simp only[go_sem];refine zb fun K hK=>?_;simp only[go_sem];(try simp (disch:=omega) only[zI]);apply hK
   try simp only[go_sem]
   refine⟨by omega,zj [] ?_ ?_⟩
   ·try simp only[go_sem]
   ·try simp only[go_sem]
    simp only[List.map_append,List.map_cons,List.map_nil,spanR]
  ·have hin2:i=n-1:=by omega
   have d1:decide ((i:Int)+1<(n:Int))=false:=decide_eq_false (by omega)
   have hR:rndL n=List.replicate i (0,0)++[(1000000,1000000)]:=by unfold rndL;rw[hin2]
   rw[hR]
   generalize List.replicate i ((0,0):Sp)=L at *
   repeat apply zq
   refine zb fun K hK=>?_;simp only[go_sem,d1];apply hK;apply zw (zk [0,3,4,8]);simp only[go_sem]
   apply zc rfl<;>intro hc<;>(try simp only[go_sem] at hc)
   apply zf;simp only[go_sem]
   apply zq
   refine zb fun K hK=>?_;simp only[go_sem]
   refine zh (ho) rfl (by simp only[go_sem,i64,ints,hrl,List.length_map]) (by simp only[go_sem,i64,ints,hrl,List.length_map]) ?_
   (try simp only[go_sem,hrl,List.length_map])
   refine⟨by omega,?_⟩
   apply hK;refine zw (sub_frz (ty:=48) (sz:=2) (off:=0) (m:=i+1) (es:=L.map spanR++[[i64 1000000,i64 1000000]]) 2 14 (by omega) rfl (by rfl) (by simp [hrl])) ?_;apply zw (zk [2]);simp only[go_sem]
   have tk:List.take (i+1) (L.map spanR++[[i64 1000000,i64 1000000]])=L.map spanR++[[i64 1000000,i64 1000000]]:=List.take_of_length_le (by simp [hrl])
   try rw[tk]
   apply ze;simp only[go_sem]
   try simp only[List.map_append,List.map_cons,List.map_nil,spanR]
   try rfl
theorem wfA_of {l:List Am}(h:(l.all fun a=>decide (0≤a.at_∧a.at_≤1000)&&a.beds.all fun c=>decide ((0≤c.b∧c.b≤1000)∧(0≤c.lo∧c.lo≤1000)∧0≤c.hi∧c.hi≤1000))=true):∀ a∈l,WfA a:=fun a ha=>by
 have:=List.all_eq_true.1 h a ha
 simp only[Bool.and_eq_true,decide_eq_true_eq,List.all_eq_true] at this
 obtain⟨h1,h2⟩:=this
 refine⟨by unfold I64;omega,fun c hc=>?_⟩
 have:=h2 c hc
 unfold I64
 omega
def duR:Ru:=⟨2,[⟨201,[⟨0,1,1⟩,⟨201,1,1⟩]⟩],2,1,[(0,500000),(1000000,1000000)]⟩
theorem duR_wf:WfR duR:=⟨⟨by unfold duR I64;simp only;omega,wfA_of (by decide)⟩⟩
theorem pubDuel_ok:ACalls Tryz.prog 28 [] (.bo true):=by
 have h:=table_ok duR duR_wf
 have h0:ruE duR=0:=by decide +kernel
 have h1:tabF duR false=[[0,0,929687],[0,0,875000]]:=by decide +kernel
 have h2:tabF duR true=[[0,0,984375],[0,0,875000]]:=by decide +kernel
 unfold tabsV at h
 rw[if_pos h0,if_pos h0,h1,h2,h0] at h
 have hs:=fun a b=>span_mk a b
 have ho:=fun a=>one_mk a
 refine zas (rs:=[.bo true]) [.tmp 0] Tryz.func28 rfl (by kernel_rfl) Tryz.ntmps28 rfl (by simp) rfl fun C vs=>?_
 repeat apply zq
 refine zb fun K hK=>?_;simp only[go_sem];(try simp (disch:=omega) only[zI]);repeat first|intro _|refine⟨by omega,?_⟩
 apply hK;apply zw (zk [0]);simp only[go_sem]
 repeat apply zq
 refine zb fun K hK=>?_;simp only[go_sem];(try simp (disch:=omega) only[zI])
 refine zh (ho 1) rfl (by simp only[go_sem,i64,ints]) (by simp only[go_sem,i64,ints]) ?_
 (try simp only[go_sem]);(try simp (disch:=omega) only[zI])
 refine zh (ho 1) rfl (by simp only[go_sem,i64,ints]) (by simp only[go_sem,i64,ints]) ?_
 (try simp only[go_sem]);(try simp (disch:=omega) only[zI]);repeat first|intro _|refine⟨by omega,?_⟩
 apply hK;refine zw (zfP 1 1 [i64 2,aimsR duR.aims] (by omega) rfl rfl) ?_;apply zw (zk [0,1]);simp only[go_sem]
 repeat apply zq
 refine zg follows (by decide +kernel) (by kernel_rfl) fun K hK=>?_;simp only[go_sem];(try simp (disch:=omega) only[zI])
 refine zh (hs 0 500000) rfl (by simp only[go_sem,i64,ints]) (by simp only[go_sem,i64,ints]) ?_
 (try simp only[go_sem]);(try simp (disch:=omega) only[zI])
 refine zh (ho 1000000) rfl (by simp only[go_sem,i64,ints]) (by simp only[go_sem,i64,ints]) ?_
 (try simp only[go_sem]);(try simp (disch:=omega) only[zI])
 refine zh (h) rfl (by simp only[go_sem,i64,ints,duR,ruV,ruC,aimsR,bedsR,spansR,aimR,bedR,spanR,List.map_cons,List.map_nil]) (by simp only[go_sem,i64,ints,duR,ruV,ruC,aimsR,bedsR,spansR,aimR,bedR,spanR,List.map_cons,List.map_nil]) ?_
 (try simp only[go_sem,duR,ruV,ruC,aimsR,bedsR,spansR,aimR,bedR,spanR,List.map_cons,List.map_nil]);(try simp (disch:=omega) only[zI]);repeat first|intro _|refine⟨by omega,?_⟩
 apply hK;apply zw (zk [0,2,3,4]);simp only[go_sem]
 repeat apply zq
 refine zb fun K hK=>?_;simp only[go_sem];(try simp (disch:=omega) only[zI]);repeat first|intro _|refine⟨by omega,?_⟩
 apply hK;apply zw (zk [0]);simp only[go_sem];apply ze;simp only[go_sem]
theorem law_ok (d:Int) (l:List Am) (hl:l.length≤1000) (hb:∀ a∈l,a.beds.length≤1000):ACalls Tryz.prog 23 [lawV d l] (lawV d l):=by
 refine zas (rs:=[lawV d l]) [.cell 2 24] Tryz.func23 rfl (by kernel_rfl) Tryz.ntmps23 rfl (by simp) rfl fun C vs=>?_
 repeat apply zq
 refine zb fun K hK=>?_;simp only[go_sem];(try simp (disch:=omega) only[zI]);repeat first|intro _|refine⟨by omega,?_⟩
 apply hK;refine zw (zfP 1 1 [i64 d,aimsR l] (by omega) rfl rfl) ?_;apply zw (zk [1,2]);simp only[go_sem]
 repeat apply zq
 refine zb fun K hK=>?_;simp only[go_sem];(try simp (disch:=omega) only[zI]);repeat first|intro _|refine⟨by omega,?_⟩
 apply hK;apply zw (zk [1,2,3]);simp only[go_sem]
 repeat apply zq
 refine zb fun K hK=>?_;simp only[go_sem];(try simp (disch:=omega) only[zI]);repeat first|intro _|refine⟨by omega,?_⟩
 apply hK;apply zw (zk [1,2,3,4]);simp only[go_sem]
 repeat apply zq
 apply zd;refine zw (sub_ownB 3 1 130 93 2 (by omega) (by omega) rfl rfl) ?_
 try simp only[go_sem]
 refine zuv (n:=36) l.length (fun i vs=>[(1,.r (.rp [i64 d,aimsR l])),(2,.pt 2 (vs 2) 0),(3,.pt 3 (vs 3) 0),(4,.r (i64 i))])
  (fun i vs=>[(2,.box [.r (i64 0),.r .ns]),(3,.box [.r (i64 d),.os 130 (vs 130) 2 0 i]),(130,.arr 93 2 ((l.take i).map aimR))]) (fun _=>True) 0 (zj [] ?_ ?_) (Nat.zero_le _) trivial ?_
 ·try simp only[go_sem]
 ·try simp only[go_sem]
 ·intro i vs hi _
  repeat apply zq
  refine zb fun K hK=>?_;simp only[go_sem];(try simp (disch:=omega) only[zI]);repeat first|intro _|refine⟨by omega,?_⟩
  apply hK;apply zw (zk [1,2,3,4,12]);simp only[go_sem]
  repeat apply zq
  apply zc rfl<;>intro hc<;>(try simp only[go_sem] at hc)
  ·skip
   have hci:=hc
   obtain⟨x,hx⟩:=zol hc
   have hlt:(l.take i).length=i:=by rw[List.length_take];omega
   have hxb:=hb x (zmo hx)
   have tk:List.take x.beds.length (x.beds.map bedR)=x.beds.map bedR:=List.take_of_length_le (by simp)
   apply zx
   try simp only[go_sem]
   repeat apply zq
   apply zd
   repeat apply zq
   refine awp_dregC3 [30] [(1,none),(2,some 2),(3,some 3),(4,none)] [3] follows (by decide +kernel) (by kernel_rfl) (by simp only[keysOk,List.mem_cons,List.not_mem_nil,forall_eq_or_imp,Oc.keyOf,go_sem];simp) (by intro k hk;simp only[List.mem_cons,List.not_mem_nil,or_false] at hk;first|(subst hk;exact⟨_,rfl⟩)|(rcases hk with rfl|rfl<;>exact⟨_,rfl⟩)|(rcases hk with rfl|rfl|rfl<;>exact⟨_,rfl⟩)) fun K hK=>?_
   simp only[go_sem,hx,hci,aimR,hlt];(try simp (disch:=omega) only[zI]);repeat first|intro _|refine⟨by omega,?_⟩
   repeat first|intro _|refine⟨by omega,?_⟩
   apply hK;apply zw (zk [1,2,3,4]);simp only[go_sem]
   repeat apply zq
   refine zb fun K hK=>?_;simp only[go_sem];(try simp (disch:=omega) only[zI]);repeat first|intro _|refine⟨by omega,?_⟩
   apply hK
   try simp only[go_sem]
   refine⟨hci,zj [] ?_ ?_⟩
   ·try simp only[go_sem]
   ·try simp only[go_sem]
    rw[zto hx]
    simp [aimR]
  ·skip
   apply zf;simp only[go_sem]
   repeat apply zq
   refine zb fun K hK=>?_;simp only[go_sem];(try simp (disch:=omega) only[zI]);repeat first|intro _|refine⟨by omega,?_⟩
   apply hK;apply zw (zk [2]);simp only[go_sem];apply ze;simp only[go_sem]
   have:i=l.length:=by omega
   subst this
   simp [List.take_of_length_le]
theorem wfA_aim {d:Int}{a:Am}(hd:d≤3000) (h:aimOk d a=true):WfA a:=by
 obtain⟨h1,_,h3,h4,_,_⟩:=aimOk_parts h
 have hb:=fun b (hb:bedOk b=true)=>bedOk_le hb
 have:=hb _ h1
 refine⟨by unfold I64;omega,fun c hc=>?_⟩
 have:=h4 c hc
 have hcb:0≤c.b∧c.b≤499:=by
  rcases seq_beds h3 c hc with h|h
  ·omega
  ·exact hb _ h
 unfold I64
 omega
theorem wfL_chk {d:Int}{l:List Am}(h:checkV d l=0) (hd:0≤d∧d≤3000):WfL d l:=⟨by unfold I64;omega,fun a ha=>wfA_aim hd.2 (aims_all (r:=⟨d,l,0,0,[]⟩) h a ha)⟩
end Go.Proofs.YtgfbenanljjgaaaGreat.Du

namespace Go.Proofs.YtgfbenanljjgaaaGreat.Du.Th.Ai
open Go Go.Oc
set_option maxRecDepth 8000
set_option maxHeartbeats 8000000
def dbK:Rk:=⟨2,[⟨201,[⟨0,1,1⟩,⟨201,1,1⟩]⟩],2,1⟩
theorem dbK_ok:ROk dbK:=(checkR_zero (by decide +kernel)).2
theorem vokK {l:List Int}(h:l.all (fun x=>decide (0≤x)&&decide (x≤1000000000) || decide (x=2000000000))=true):∀ x∈l,VOk x:=fun x hx=>by
 have:=List.all_eq_true.1 h x hx
 simp at this
 exact this
theorem ku:tabT dbK false=[0,0,1142858]:=by
 have h1:numA dbK false [0,0,0] 2=1142858:=numA_upper dbK_ok (vokK (by decide)) (by decide) (by decide) (by omega) (by decide +kernel) (.inr (by decide +kernel))
 show ([0,0,0]:List Int).set 2 (numA dbK false [0,0,0] 2)=_
 rw[h1];rfl
theorem kl:tabT dbK true=[0,0,1142857]:=by
 have h1:numA dbK true [0,0,0] 2=1142857:=numA_lower dbK_ok (vokK (by decide)) (by decide) (by decide) (by omega) (.inr (by decide +kernel)) (.inr (by decide +kernel))
 show ([0,0,0]:List Int).set 2 (numA dbK true [0,0,0] 2)=_
 rw[h1];rfl
theorem wfK (d:Int) (hd:d=2):WfL d [⟨201,[⟨0,1,1⟩,⟨201,1,1⟩]⟩]:=by
 subst hd
 refine⟨by unfold I64;omega,fun a ha=>?_⟩
 simp only[List.mem_singleton] at ha
 subst ha
 refine⟨by unfold I64;decide,fun c hc=>?_⟩
 simp only[List.mem_cons,List.not_mem_nil,or_false] at hc
 rcases hc with rfl|rfl<;>(unfold I64;decide)
theorem pubAim_ok:ACalls Tryz.prog 27 [] (.bo true):=by
 have hck:checkR dbK=0:=by decide +kernel
 have htb:=table_ok dbK (wfK 2 rfl)
 rw[if_pos hck,if_pos hck,hck,ku,kl] at htb
 have htb':ACalls Tryz.prog 22 [.ag [.it .i64 2,.sl 2 [[.it .i64 201,.sl 3 [[.it .i64 0,i64 1,i64 1],[.it .i64 201,i64 1,i64 1]]]],.it .i64 2,.it .i64 1]] (.tu [ints [0,0,1142858],ints [0,0,1142857],i64 0]):=htb
 have h1:=one_mk 1
 refine zas (rs:=[.bo true]) [.tmp 0] Tryz.func27 rfl (by kernel_rfl) Tryz.ntmps27 rfl (by simp) rfl fun C vs=>?_
 repeat apply zq
 refine zb fun K hK=>?_;simp only[go_sem];(try simp (disch:=omega) only[zI]);repeat first|intro _|refine⟨by omega,?_⟩
 apply hK;apply zw (zk []);simp only[go_sem]
 repeat apply zq
 refine zb fun K hK=>?_;simp only[go_sem];(try simp (disch:=omega) only[zI])
 refine zh (h1) rfl (by simp only[go_sem,i64,ints]) (by simp only[go_sem,i64,ints]) ?_
 (try simp only[go_sem]);(try simp (disch:=omega) only[zI])
 refine zh (h1) rfl (by simp only[go_sem,i64,ints]) (by simp only[go_sem,i64,ints]) ?_
 (try simp only[go_sem]);(try simp (disch:=omega) only[zI]);repeat first|intro _|refine⟨by omega,?_⟩
 apply hK;refine zw (zfP 1 1 [i64 2,.sl 2 [[.it .i64 201,.sl 3 [[.it .i64 0,i64 1,i64 1],[.it .i64 201,i64 1,i64 1]]]]] (by omega) rfl rfl) ?_;apply zw (zk [1]);simp only[go_sem]
 repeat apply zq
 refine zb fun K hK=>?_;simp only[go_sem];(try simp (disch:=omega) only[zI])
 refine zh (htb') rfl (by simp only[go_sem,i64,ints]) (by simp only[go_sem,i64,ints]) ?_
 (try simp only[go_sem]);(try simp (disch:=omega) only[zI]);repeat first|intro _|refine⟨by omega,?_⟩
 apply hK;apply zw (zk [2,3,4]);simp only[go_sem]
 have e0:((0:Int) == 0)=true:=rfl
 have e1:((3:Int) == 3)=true:=rfl
 have e2:((1142858:Int) == 1142858)=true:=rfl
 have e3:((1142857:Int) == 1142857)=true:=rfl
 repeat apply zq
 refine zb fun K hK=>?_;simp only[go_sem,e0,e1,e2,e3,List.map_cons,List.map_nil,List.length_cons,List.length_nil];(try simp (disch:=omega) only[zI])
 (try intros)
 repeat first|intro _|refine⟨by omega,?_⟩
 apply hK;apply zw (zk [0]);simp only[go_sem];apply ze;simp only[go_sem]
end Go.Proofs.YtgfbenanljjgaaaGreat.Du.Th.Ai

namespace Go.Proofs.YtgfbenanljjgaaaGreat.Du
open Go Go.Oc
set_option maxRecDepth 8000
set_option maxHeartbeats 4000000
theorem tab_at {A:List (List Int)}{n m k y:Nat}(h:A.length=n∧∀ r∈A,r.length=m+1) (hk:k<n) (hy:y≤m):∃ r v,A[k]? = some r∧r[y]? = some v∧(A.getD k []).getD y 0=v∧r.length=m+1:=by
 obtain⟨r,hr⟩:=zol (l:=A) (i:=k) (by omega)
 have hl:=h.2 r (zmo hr)
 obtain⟨v,hv⟩:=zol (l:=r) (i:=y) (by omega)
 exact⟨r,v,hr,hv,by simp only[List.getD_eq_getElem?_getD,hr,hv,Option.getD_some],hl⟩
theorem duelvisits_law (den:Nat) (hd:den<256) (A0:List (List Nat)) (hA0:∀ a∈A0,a.length=12∧∀ n∈a,n<256) (x0 x1 x2:Nat) (h0:x0<256) (h1:x1<256) (h2:x2<256) :
 ACalls Tryz.prog 4 [u8Q den,.sl 12 (A0.map fun a=>a.map u8Q),.ag [u8Q x0,u8Q x1,u8Q x2]] (.bo true):=by
 have hk2:=pubDuel_ok
 have hk3:=Th.Ai.pubAim_ok
 have hsc:=scatter_ok den hd A0 hA0
 have hmod:=Nat.mod_lt den (show 60 > 0 by omega)
 have hL0:=scL_ok (d:=((4+den % 60:Nat):Int)) (by omega) (fun a ha=>(hA0 a ha).2)
 have hLl:=scL_len ((4+den % 60:Nat):Int) A0
 have hLa:=scL_all (d:=((4+den % 60:Nat):Int)) (by omega) (A:=A0) (fun a ha=>(hA0 a ha).2)
 generalize hD:4+den % 60=D at *
 have hD64:4≤D∧D<64:=by omega
 generalize scL (D:Int) A0=L at *
 have hwL:=wfL_chk hL0 (by omega)
 have hlaw:=law_ok (D:Int) L (by omega) (fun a ha=>by have:=(hLa a ha).2;omega)
 have m0:=Nat.mod_lt x0 (show 5 > 0 by omega)
 have m1:=Nat.mod_lt x1 (show 3 > 0 by omega)
 have m2:=Nat.mod_lt x2 (show 5 > 0 by omega)
 have k0:IntKind.i64.wrap (x0:Int)=x0:=by rw[zI]<;>omega
 have k1:IntKind.i64.wrap (x1:Int)=x1:=by rw[zI]<;>omega
 have k2:IntKind.i64.wrap (x2:Int)=x2:=by rw[zI]<;>omega
 have r0:Int.tmod (x0:Int) 5=((x0 % 5:Nat):Int):=rfl
 have r1:Int.tmod (x1:Int) 3=((x1 % 3:Nat):Int):=rfl
 have r2:Int.tmod (x2:Int) 5=((x2 % 5:Nat):Int):=rfl
 have w0:IntKind.i64.wrap (2+((x0 % 5:Nat):Int))=((2+x0 % 5:Nat):Int):=by rw[zI]<;>omega
 have w2:IntKind.i64.wrap (1+((x2 % 5:Nat):Int))=((1+x2 % 5:Nat):Int):=by rw[zI]<;>omega
 generalize hst:2+x0 % 5=st at *
 have hst2:2≤st∧st≤6:=by omega
 generalize hg:x1 % 3=g at *
 generalize hn:1+x2 % 5=n at *
 have hn2:1≤n∧n≤5:=by omega
 have hro:=rounds_ok n (by omega) (by omega)
 obtain⟨c2,c4,hB⟩:=dv_all (d:=(D:Int)) (l:=L) (st:=(st:Int)) (n:=n) (g:=(g:Int)) hL0 (by omega) (by omega) hn2
 have hrr:rndL n=rnV n:=rfl
 rw[hrr] at hro
 have hr:=(Th.Ai.checkR_zero c4).2
 have ht1:=table_ok ⟨(D:Int),L,(st:Int),(g:Int),rnV n⟩ ⟨hwL⟩
 unfold tabsV at ht1
 rw[if_pos c2,if_pos c2,c2] at ht1
 have ha1:=Th.Ai.table_ok ⟨(D:Int),L,(st:Int),(g:Int)⟩ hwL
 rw[if_pos c4,if_pos c4,c4] at ha1
 have ht1':ACalls Tryz.prog 24 [.ag [i64 (D:Int),aimsR L,i64 (st:Int),i64 (g:Int),spansR (rnV n)]] _:=ht1
 have ha1':ACalls Tryz.prog 22 [.ag [i64 (D:Int),aimsR L,i64 (st:Int),i64 (g:Int)]] _:=ha1
 have tA:=tab_rows c2 false
 have tB:=tab_rows c2 true
 have q1:=rnV_len n hn2.1
 simp only[q1,Int.toNat_natCast] at tA tB
 have lU:=Th.Ai.tabT_len hr false
 have lV:=Th.Ai.tabT_len hr true
 simp only at lU lV
 clear ht1 ha1
 generalize tabF ⟨(D:Int),L,(st:Int),(g:Int),rnV n⟩ false=A at *
 generalize tabF ⟨(D:Int),L,(st:Int),(g:Int),rnV n⟩ true=B at *
 generalize Th.Ai.tabT ⟨(D:Int),L,(st:Int),(g:Int)⟩ false=U at *
 generalize Th.Ai.tabT ⟨(D:Int),L,(st:Int),(g:Int)⟩ true=V at *
 generalize rnV n=R at *
 have lU:U.length=st+1:=by omega
 have lV:V.length=st+1:=by omega
 have hq1:=tables_ok A B n st (by omega) (by omega) tA tB
 have z0:((0:Int) != 0)=false:=rfl
 refine zas (rs:=[.bo true]) [.tmp 6] Tryz.func4 rfl (by kernel_rfl) Tryz.ntmps4 rfl (by simp) rfl fun C vs=>?_
 apply zq
 refine zb fun K hK=>?_;simp only[go_sem];apply hK;refine zw (zfP 5 5 [u8Q x0,u8Q x1,u8Q x2] (by omega) rfl rfl) ?_;apply zw (zk [0,1,5]);simp only[go_sem]
 apply zq
 refine awp_dreg2 [(5,none)] follows (by decide +kernel) (by kernel_rfl) (by simp only[keysOk,List.mem_cons,List.not_mem_nil,forall_eq_or_imp,Oc.keyOf,go_sem];simp) fun K hK=>?_
 simp only[go_sem,k2,r2,w2]
 refine zh (hsc) rfl (by simp only[go_sem,i64,ints,k2,r2,w2]) (by simp only[go_sem,i64,ints,k2,r2,w2]) ?_
 (try simp only[go_sem,k2,r2,w2]);apply hK;refine zw (zfP 7 7 [i64 (D:Int),aimsR L] (by omega) rfl rfl) ?_;apply zw (zk [5,7,8]);simp only[go_sem]
 apply zq
 refine zg follows (by decide +kernel) (by kernel_rfl) fun K hK=>?_;simp only[go_sem,k0,k1,r0,r1,w0];apply hK;apply zw (zk [7,8,9,10]);simp only[go_sem]
 apply zq
 refine zb fun K hK=>?_;simp only[go_sem]
 refine zh (hlaw) rfl (by simp only[go_sem,i64,ints]) (by simp only[go_sem,i64,ints]) ?_
 (try simp only[go_sem])
 refine zh (ha1') rfl (by simp only[go_sem,i64,ints]) (by simp only[go_sem,i64,ints]) ?_
 (try simp only[go_sem]);apply hK;apply zw (zk [7,8,9,10,11,12,13]);simp only[go_sem]
 apply zq
 refine zb fun K hK=>?_;simp only[go_sem]
 refine zh (hlaw) rfl (by simp only[go_sem,i64,ints]) (by simp only[go_sem,i64,ints]) ?_
 (try simp only[go_sem])
 refine zh (hro) rfl (by simp only[go_sem,i64,ints]) (by simp only[go_sem,i64,ints]) ?_
 (try simp only[go_sem])
 refine zh (ht1') rfl (by simp only[go_sem,i64,ints]) (by simp only[go_sem,i64,ints]) ?_
 (try simp only[go_sem]);apply hK;apply zw (zk [8,9,11,12,13,14,15,16]);simp only[go_sem]
 have ws:IntKind.i64.wrap ((st:Int)+1)=((st+1:Nat):Int):=by rw[zI]<;>omega
 have yl:(((st+1:Nat):Int) != ((st+1:Nat):Int))=false:=by simp
 have yl2:((st:Int)+1 != (st:Int)+1)=false:=by simp
 repeat apply zq
 refine zb fun K hK=>?_;simp only[go_sem,z0,lU,lV,ws,yl,yl2]
 repeat intro _
 refine zh (hq1) rfl (by simp only[go_sem,i64,ints,z0,lU,lV,ws,yl,yl2]) (by simp only[go_sem,i64,ints,z0,lU,lV,ws,yl,yl2]) ?_
 (try simp only[go_sem,z0,lU,lV,ws,yl,yl2]);apply hK;apply zw (zk [8,9,11,12,14,15,84]);simp only[go_sem]
 apply zc rfl<;>intro hc<;>(try simp only[go_sem] at hc)
 apply zx
 try simp only[go_sem]
 repeat apply zq
 refine zb fun K hK=>?_;simp only[go_sem];apply hK;apply zw (zk [8,9,11,12,14,15,17]);simp only[go_sem];apply zd
 refine zuv (n:=162) (st-1) (fun y vs=>[(8,.r (i64 (n:Int))),(9,.r (i64 (st:Int))),(11,.r (ints U)),(12,.r (ints V)),(14,.r (tabR A)),(15,.r (tabR B)),(17,.r (i64 ((y:Int)+2)))])
  (fun y vs=>[]) (fun _=>True) 0 (zj [] ?_ ?_) (Nat.zero_le _) trivial ?_
 ·try simp only[go_sem]
  try rfl
 ·try simp only[go_sem]
  try rfl
 intro y vs hy _
 by_cases hyn:y<st-1
 ·have g2:decide ((y:Int)+2≤(st:Int))=true:=decide_eq_true (by omega)
  have wy:IntKind.i64.wrap ((y:Int)+2+1)=((y+1:Nat):Int)+2:=by rw[zI]<;>omega
  obtain⟨p1,p2,p3,p4,p5,p6⟩:=hB (y+2) (by omega) (by omega)
  obtain⟨ra,va,hra,hva,ea,la⟩:=tab_at tA (k:=0) (y:=y+2) (by omega) (by omega)
  obtain⟨rb,vb,hrb,hvb,eb,lb⟩:=tab_at tB (k:=0) (y:=y+2) (by omega) (by omega)
  obtain⟨vu,hvu⟩:=zol (l:=U) (i:=y+2) (by omega)
  obtain⟨vv,hvv⟩:=zol (l:=V) (i:=y+2) (by omega)
  have eu:U.getD (y+2) 0=vu:=by simp only[List.getD_eq_getElem?_getD,hvu,Option.getD_some]
  have ev:V.getD (y+2) 0=vv:=by simp only[List.getD_eq_getElem?_getD,hvv,Option.getD_some]
  rw[ea] at p1 p3 p4 p6
  rw[eb] at p3
  rw[eu] at p1 p5
  rw[ev] at p2
  have wyy:(y:Int)+2=((y+2:Nat):Int):=by omega
  rw[wyy]
  generalize hY:y+2=Y at *
  have g2':decide ((Y:Int)≤(st:Int))=true:=decide_eq_true (by omega)
  have wy':IntKind.i64.wrap ((Y:Int)+1)=((y+1:Nat):Int)+2:=by rw[zI]<;>omega
  have hYs:Y<st+1:=by omega
  have hYs2:Y≤st:=by omega
  repeat apply zq
  refine zb fun K hK=>?_;simp only[go_sem,g2',hYs2];apply hK;apply zw (zk [8,9,11,12,14,15,17,87]);simp only[go_sem]
  apply zc rfl<;>intro hc<;>(try simp only[go_sem] at hc)
  apply zx
  try simp only[go_sem]
  apply zq
  apply zd
  have hA0l:0<A.length:=by rw[tA.1];omega
  have hB0l:0<B.length:=by rw[tB.1];omega
  have hat:A.length=n:=tA.1
  have hbt:B.length=n:=tB.1
  have hn0:0<n:=by omega
  have wn1:IntKind.i64.wrap ((n:Int)+1)=(n:Int)+1:=by rw[zI]<;>omega
  have wn4:IntKind.i64.wrap (4*(n:Int))=4*(n:Int):=by rw[zI]<;>omega
  have td:Int.tdiv vu ((n:Int)+1)=vu / ((n:Int)+1):=Int.tdiv_eq_ediv_of_nonneg p5.1
  have hdv:0≤vu / ((n:Int)+1)∧vu / ((n:Int)+1)≤2000000000:=by
   have h5:n=1∨n=2∨n=3∨n=4∨n=5:=by omega
   rcases h5 with rfl|rfl|rfl|rfl|rfl<;>omega
  generalize hQ:vu / ((n:Int)+1)=Q at *
  have wd:IntKind.i64.wrap Q=Q:=by rw[zI]<;>omega
  have wa:IntKind.i64.wrap (1000000-va)=1000000-va:=by rw[zI]<;>omega
  have wq:IntKind.i64.wrap (Q+4*(n:Int))=Q+4*(n:Int):=by rw[zI]<;>omega
  have wq1:IntKind.i64.wrap (Q+4*(n:Int)+1)=Q+4*(n:Int)+1:=by rw[zI]<;>omega
  have hfin:∀ c:Bool,c=(vu != 2000000000)→(c=true→decide (Q+4*(n:Int)+1<1000000-va)=false):=fun c hc h=>by
   subst hc
   have:=p1 (by simpa using h)
   exact decide_eq_false (by omega)
  have e1:decide (vv<1000000)=false:=decide_eq_false (by omega)
  have e2:decide (vb<va)=false:=decide_eq_false (by omega)
  obtain⟨b1,q1⟩:∃ b,(vu != 2000000000)=b:=⟨_,rfl⟩
  have hfin:=hfin b1 q1.symm
  cases b1
  all_goals
   first|have q2:=hfin rfl|have q2:True:=trivial
   repeat apply zq
   refine zg follows (by decide +kernel) (by kernel_rfl) fun K hK=>?_;simp only[go_sem,hra,hva,hvu,la,lU,hYs,hA0l,hat,hn0,q1,q2,wn1,wn4,td,wd,wa,wq,wq1,hQ,List.length_map]
   repeat refine⟨by omega,?_⟩
   apply hK;apply zw (zk [8,9,11,12,14,15,17,115]);simp only[go_sem]
   apply zc rfl<;>intro hc<;>(try simp only[go_sem] at hc)
   apply zx
   try simp only[go_sem]
   by_cases hn1:1<n
   ·have d1:decide (1<(n:Int))=true:=decide_eq_true (by omega)
    obtain⟨rc,vc,hrc,hvc,ec,lc⟩:=tab_at tA (k:=1) (y:=Y) (by omega) (by omega)
    have p4':=p4 hn1
    rw[ec] at p4'
    have wc:IntKind.i64.wrap (va+4*(n:Int))=va+4*(n:Int):=by rw[zI]<;>omega
    have e3:decide (va+4*(n:Int)<vc)=false:=decide_eq_false (by omega)
    repeat apply zq
    refine zg follows (by decide +kernel) (by kernel_rfl) fun K hK=>?_;simp only[go_sem,hra,hva,hrb,hvb,hrc,hvc,hvv,la,lb,lc,lU,lV,hYs,hA0l,hB0l,hat,hbt,hn0,hn1,e1,e2,e3,d1,wn4,wc,List.length_map]
    repeat refine⟨by omega,?_⟩
    apply hK;apply zw (zk [8,9,11,12,14,15,17,157]);simp only[go_sem]
    apply zc rfl<;>intro hc<;>(try simp only[go_sem] at hc)
    apply zx
    try simp only[go_sem]
    refine zb fun K hK=>?_;simp only[go_sem,wy'];apply hK
    try simp only[go_sem]
    refine⟨by omega,zj [] ?_ ?_⟩
    ·try simp only[go_sem]
    ·try simp only[go_sem]
   ·have d1:decide (1<(n:Int))=false:=decide_eq_false (by omega)
    repeat apply zq
    refine zg follows (by decide +kernel) (by kernel_rfl) fun K hK=>?_;simp only[go_sem,hra,hva,hrb,hvb,hvv,la,lb,lU,lV,hYs,hA0l,hB0l,hat,hbt,hn0,hn1,e1,e2,d1,List.length_map]
    repeat refine⟨by omega,?_⟩
    apply hK;apply zw (zk [8,9,11,12,14,15,17,157]);simp only[go_sem]
    apply zc rfl<;>intro hc<;>(try simp only[go_sem] at hc)
    apply zx
    try simp only[go_sem]
    refine zb fun K hK=>?_;simp only[go_sem,wy'];apply hK
    try simp only[go_sem]
    refine⟨by omega,zj [] ?_ ?_⟩
    ·try simp only[go_sem]
    ·try simp only[go_sem]
 have hye:y=st-1:=by omega
 subst hye
 have g3:decide (((st-1:Nat):Int)+2≤(st:Int))=false:=decide_eq_false (by omega)
 have g4:¬ (((st-1:Nat):Int)+2≤(st:Int)):=by omega
 repeat apply zq
 refine zb fun K hK=>?_;simp only[go_sem,g3,g4];apply hK;apply zw (zk [87]);simp only[go_sem]
 apply zc rfl<;>intro hc<;>(try simp only[go_sem] at hc)
 apply zf;simp only[go_sem]
 apply zq
 refine zb fun K hK=>?_;simp only[go_sem]
 refine zh (hk3) rfl (by simp only[go_sem,i64,ints]) (by simp only[go_sem,i64,ints]) ?_
 (try simp only[go_sem])
 refine zh (hk2) rfl (by simp only[go_sem,i64,ints]) (by simp only[go_sem,i64,ints]) ?_
 (try simp only[go_sem]);apply hK;apply zw (zk [6]);simp only[go_sem];apply ze;simp only[go_sem]
 try rfl
end Go.Proofs.YtgfbenanljjgaaaGreat.Du

namespace Go.Oc
open Go Go.RowKit Go.ChangeShapes Go.WideShapes
inductive Sh where
 | int (k:IntKind)
 | bool
 | sl (es:List Sh)
def fieldsSh (P:Program) (sh:TypeId→Option (List Sh)):List Field→Nat→Option (List Sh)
 | [],_=>some []
 | f::fs, o =>
   match sh f.type with
   | some ss=>if f.offset == o&&ss.length == P.cellsOf f.type then match fieldsSh P sh fs (o+ss.length) with|some q=>some (ss++q)|none=>none else none
   | none=>none
def shape (P:Program):Nat→TypeId→Option (List Sh)
 | 0,_=>none
 | n+1, t =>
   match P.underlying t with
   | some (.int k)=>some [.int k]
   | some .bool=>some [.bool]
   | some (.slice e) =>
     match shape P n e with
     | some ss=>if ss.length == P.cellsOf e&&decide (0<ss.length) then some [.sl ss] else none
     | none=>none
   | some (.array m e) =>
     match shape P n e with
     | some ss=>if ss.length == P.cellsOf e&&P.cellsOf t == m*ss.length then some (List.replicate m ss).flatten else none
     | none=>none
   | some (.struct fs) =>
     match fieldsSh P (shape P n) fs.toList 0 with
     | some ss=>if ss.length == P.cellsOf t then some ss else none
     | none=>none
   | _=>none
mutual
def Fits:Sh→RV→Prop
 | .int k,x=>∃ n,x = .it k n∧(Lit.int k n).wf=true
 | .bool,x=>∃ b,x = .bo b
 | .sl ss,x=>∃ es,x = .sl ss.length es∧FitsE ss es
def FitsL:List Sh→List RV→Prop
 | [],xs=>xs=[]
 | s::ss,xs=>∃ y ys,xs=y::ys∧Fits s y∧FitsL ss ys
def FitsE (ss:List Sh):List (List RV)→Prop
 | []=>True
 | e::es=>FitsL ss e∧FitsE ss es
end
theorem fitsL_append:∀ {s1 s2:List Sh}{x1 x2:List RV},FitsL s1 x1→FitsL s2 x2→FitsL (s1++s2) (x1++x2)
 | [],_,_,_,h1,h2=>by simp only[FitsL] at h1;subst h1;simpa using h2
 | s::ss, s2, x1, x2, h1, h2=>by
   simp only[FitsL] at h1
   obtain⟨y,ys,rfl,h3,h4⟩:=h1
   simp only[List.cons_append,FitsL];exact⟨y,_,rfl,h3,fitsL_append h4 h2⟩
theorem fitsL_length:∀ {ss:List Sh}{xs:List RV},FitsL ss xs→xs.length=ss.length
 | [],_,h=>by simp only[FitsL] at h;subst h;rfl
 | s::ss, _, h=>by
   simp only[FitsL] at h
   obtain⟨y,ys,rfl,_,h⟩:=h
   simp [fitsL_length h]
theorem fitsE_of:∀ {ss:List Sh}{es:List (List RV)},(∀ e∈es,FitsL ss e)→FitsE ss es
 | _,[],_=>by simp only[FitsE]
 | ss,e::es,h=>by simp only[FitsE];exact⟨h e (by simp),fitsE_of fun x hx=>h x (by simp [hx])⟩
theorem choice {α:Type}{Q:Nat→α→Prop}:∀ (n:Nat),(∀ i,i<n→∃ x,Q i x)→∃ xs:List α,xs.length=n∧∀ i x,xs[i]? = some x→Q i x
 | 0,_=>⟨[],rfl,by simp⟩
 | n+1, h=>by
   obtain⟨xs,hl,hx⟩:=choice n fun i hi=>h i (by omega)
   obtain⟨y,hy⟩:=h n (by omega)
   refine⟨xs++[y],by simp [hl],fun i x hi=>?_⟩
   by_cases h1:i<n
   ·rw[List.getElem?_append_left (by omega)] at hi;exact hx i x hi
   ·rw[List.getElem?_append_right (by omega)] at hi
    have:i=n:=by have:=(List.getElem?_eq_some_iff.1 hi).1;simp at this;omega
    subst this
    simp [hl] at hi
    exact hi▸hy
section
variable {w:World}{P:Program}
theorem cells?_get {base n:Nat}{a:Addr}{cs:List Value}(h:w.cells? base a n=some cs):cs.length=n∧∀ i,i<n→w.cell? (a.add i)=cs[i]?:=by
 unfold World.cells? at h
 split at h
 ·exact⟨by simpa using mapM_some_length h,fun i hi=>mapM_some_get h i i (by simp [hi])⟩
 ·cases h
theorem cell_lt {a:Addr}{v:Value}(h:w.cell? a=some v):a.block<w.heap.size:=by
 refine Decidable.byContradiction fun hn=>?_
 have:w.heap[a.block]? = none:=by simp;omega
 simp [World.cell?,this] at h
def old (w:World):Nat→Prop:=fun b=>b<w.heap.size
theorem relC_of_cells {xs:List RV}{cs:List Value}{ad:Addr}(hV:RV.relV w (old w) xs cs) (hone:∀ u∈cs,u.oneCell'=true) (hc:∀ i,i<cs.length→w.cell? (ad.add i)=cs[i]?):RV.relC w (old w) xs ad 0:=by
 refine RV.relC_of_get fun i x hx=>?_
 obtain⟨u,hu,hr⟩:=RV.relV_get hV hx
 have hi:=(List.getElem?_eq_some_iff.1 hu).1
 refine⟨u,?_,hone u (List.mem_of_getElem? hu),hr⟩
 rw[Nat.zero_add,hc i hi,hu]
variable {H:Type}{enc:TypeId × Value→H}{base:Nat}{spare:Nat→Bool}{held:Bool}
def Good3 (w:World) (ss:List Sh) (cs:List Value):Prop:=∃ xs,FitsL ss xs∧RV.relV w (old w) xs cs∧∀ u∈cs,u.oneCell'=true
theorem good3_append {s1 s2:List Sh}{c1 c2:List Value}(h1:Good3 w s1 c1) (h2:Good3 w s2 c2):Good3 w (s1++s2) (c1++c2):=by
 obtain⟨x1,f1,r1,o1⟩:=h1
 obtain⟨x2,f2,r2,o2⟩:=h2
 refine⟨x1++x2,fitsL_append f1 f2,RV.relV_append r1 r2,fun u hu=>?_⟩
 rcases List.mem_append.1 hu with hu|hu
 ·exact o1 u hu
 ·exact o2 u hu
theorem trod_fits:∀ (fuel n:Nat) (t:TypeId) (cs:List Value) (x:DataW H × List MemPlace) (ss:List Sh),DataW.trod enc P w base spare held fuel t cs=some x→shape P n t=some ss→Good3 w ss cs:=by
 intro fuel
 induction fuel with
 | zero=>intro n t cs x ss h;simp [DataW.trod] at h
 | succ fuel ih =>
   intro n t cs x ss h hs
   cases n with
   | zero=>simp [shape] at hs
   | succ n =>
     unfold shape at hs
     split at hs
     ·rename_i k ht
      injection hs with hs;subst hs
      obtain⟨m,rfl,_,hw⟩:=DataW.trod_int ht h
      exact⟨[.it k m],by simp only[FitsL,Fits];exact⟨_,[],rfl,⟨m,rfl,hw⟩,rfl⟩,by simp only[RV.relV,RV.rel];exact⟨_,[],rfl,rfl,rfl⟩,by simp [Value.oneCell']⟩
     ·rename_i ht
      injection hs with hs;subst hs
      obtain⟨b,rfl,_⟩:=DataW.trod_bool ht h
      exact⟨[.bo b],by simp only[FitsL,Fits];exact⟨_,[],rfl,⟨b,rfl⟩,rfl⟩,by simp only[RV.relV,RV.rel];exact⟨_,[],rfl,rfl,rfl⟩,by simp [Value.oneCell']⟩
     ·rename_i e ht
      split at hs
      ·rename_i es hes
       split at hs
       ·rename_i hc
        simp only[Bool.and_eq_true,beq_iff_eq,decide_eq_true_eq] at hc
        injection hs with hs;subst hs
        rcases DataW.trod_slice ht h with⟨rfl,_⟩|⟨a,len,cap,elems,rest,m,hm,rfl,_,_,hlc,hcm,hel,hget,_⟩
        ·refine⟨[.sl es.length []],?_,?_,by simp [Value.oneCell']⟩
         ·simp only[FitsL,Fits];exact⟨_,[],rfl,⟨[],rfl,by simp only[FitsE]⟩,rfl⟩
         ·simp only[RV.relV,RV.rel];exact⟨_,[],rfl,⟨none,0,rfl,Nat.le_refl _,Nat.zero_le _,fun h=>absurd rfl h⟩,rfl⟩
        ·injection hm with hm;subst hm
         have hall:∀ i,i<len→∃ e',FitsL es e'∧e'.length=es.length∧RV.relC w (old w) e' (a.add (i*es.length)) 0∧a.block<w.heap.size:=fun i hi=>by
          have h1:=hget i hi
          have h2:i<elems.length:=by omega
          rw[List.getElem?_eq_getElem h2] at h1
          obtain⟨ci,hci,htr⟩:=Option.bind_eq_some_iff.1 h1
          rw[← hc.1] at hci
          obtain⟨hl,hcell⟩:=cells?_get hci
          obtain⟨xs,f,r,o⟩:=ih n e ci _ es htr hes
          refine⟨xs,f,fitsL_length f,relC_of_cells r o (fun j hj=>hcell j (by omega)),?_⟩
          have h3:=hcell 0 hc.2
          have h4:0<ci.length:=by omega
          rw[List.getElem?_eq_getElem h4] at h3
          have:=cell_lt h3
          rwa [block_add,block_add] at this
         obtain⟨els,hlen,hels⟩:=choice len hall
         refine⟨[.sl es.length els],?_,?_,by simp [Value.oneCell']⟩
         ·simp only[FitsL,Fits]
          refine⟨_,[],rfl,⟨els,rfl,fitsE_of fun e' he'=>?_⟩,rfl⟩
          obtain⟨i,hi⟩:=List.getElem?_of_mem he'
          exact (hels i e' hi).1
         ·simp only[RV.relV,RV.rel]
          refine⟨_,[],rfl,⟨some a,cap,by rw[hlen],by omega,hcm,fun hne=>?_⟩,rfl⟩
          obtain⟨e0,he0⟩:∃ e0,els[0]? = some e0:=by
           cases els with
           | nil=>exact absurd rfl hne
           | cons a l=>exact⟨a,rfl⟩
          refine⟨a,rfl,(hels 0 e0 he0).2.2.2,RV.relE_of_get fun i e' he'=>?_⟩
          obtain⟨_,q1,q2,_⟩:=hels i e' he'
          exact⟨q1,RV.relC_unbase _ q2⟩
       ·cases hs
      ·cases hs
     ·rename_i m e ht
      split at hs
      ·rename_i es hes
       split at hs
       ·rename_i hc
        simp only[Bool.and_eq_true,beq_iff_eq] at hc
        injection hs with hs;subst hs
        obtain⟨xs,fm,hm,_,hcl,hxl,hget⟩:=DataW.trod_array ht h
        injection hm with hm;subst hm
        have key:∀ j,j≤m→Good3 w (List.replicate j es).flatten (cs.take (j*es.length)):=by
         intro j
         induction j with
         | zero=>intro _;exact⟨[],by simp [FitsL],by simp [RV.relV],by simp⟩
         | succ j ihj =>
           intro hj
           have h1:=hget j (by omega)
           have h2:j<xs.length:=by omega
           rw[List.getElem?_eq_getElem h2,← hc.1] at h1
           have h3:=ih n e _ _ es h1 hes
           have:=good3_append (ihj (by omega)) h3
           rw[← List.take_add] at this
           rw[List.replicate_succ',List.flatten_append,Nat.add_mul]
           simpa using this
        have:=key m (Nat.le_refl _)
        rwa [← hc.2,← hcl,List.take_length] at this
       ·cases hs
      ·cases hs
     ·rename_i fs ht
      split at hs
      ·rename_i q hq
       split at hs
       ·rename_i hc
        simp only[beq_iff_eq] at hc
        injection hs with hs;subst hs
        obtain⟨xs,fm,hm,_,hcl,hxl,hget⟩:=DataW.trod_struct ht h
        injection hm with hm;subst hm
        have key:∀ (l:List Field) (o:Nat) (q:List Sh),(∀ f∈l,∃ y,DataW.trod enc P w base spare held fuel f.type ((cs.drop f.offset).take (P.cellsOf f.type))=some y)→fieldsSh P (shape P n) l o=some q→Good3 w q ((cs.drop o).take q.length):=by
         intro l
         induction l with
         | nil =>
           intro o q _ hq
           simp only[fieldsSh,Option.some.injEq] at hq
           subst hq
           exact⟨[],by simp [FitsL],by simp [RV.relV],by simp⟩
         | cons f l ihl =>
           intro o q hall hq
           simp only[fieldsSh] at hq
           split at hq
           ·rename_i s1 hs1
            split at hq
            ·rename_i hc1
             simp only[Bool.and_eq_true,beq_iff_eq] at hc1
             split at hq
             ·rename_i q2 hq2
              injection hq with hq;subst hq
              obtain⟨y,hy⟩:=hall f (by simp)
              have g1:=ih n f.type _ _ s1 hy hs1
              have g2:=ihl (o+s1.length) q2 (fun f' hf'=>hall f' (by simp [hf'])) hq2
              rw[hc1.1,← hc1.2] at g1
              have:=good3_append g1 g2
              rw[← List.drop_drop,← List.take_add] at this
              simpa using this
             ·cases hq
            ·cases hq
           ·cases hq
        have:=key fs.toList 0 q (fun f hf=>by
         obtain⟨i,hi⟩:=List.getElem?_of_mem hf
         have hi':fs[i]? = some f:=by simpa using hi
         have h1:=hget i f hi'
         have h2:i<xs.length:=by have:=(Array.getElem?_eq_some_iff.1 hi').1;omega
         exact⟨xs[i],by rw[h1];exact List.getElem?_eq_getElem h2⟩) hq
        rwa [List.drop_zero,hc,← hcl,List.take_length] at this
       ·cases hs
      ·cases hs
     ·cases hs
def FitsT (P:Program) (n:Nat) (t:TypeId) (x:RV):Prop:=∃ ss,shape P n t=some ss∧if aggOf P t then ∃ xs,x = .ag xs∧FitsL ss xs else FitsL ss [x]
theorem arg_fits {n:Nat}{t:TypeId}{v:Value}{d:DataW H}{ps:List MemPlace}{r:Reach}{b0:Nat}(hs:(shape P n t).isSome=true) (hval:Value.okWide P w r b0 t v) (h:DataW.Trod enc P w base spare held t v d ps) :
 ∃ x,FitsT P n t x∧x.rel w (old w) v:=by
 obtain⟨ss,hss⟩:=Option.isSome_iff_exists.1 hs
 obtain⟨fuel,hf⟩:=h
 obtain⟨xs,f,r,o⟩:=trod_fits fuel n t _ _ ss hf hss
 have one:aggOf P t=false→v.cells.toList=[v]→∃ x,FitsT P n t x∧x.rel w (old w) v:=fun ha hc=>by
  rw[hc] at r
  match xs,r with
  | [x], r =>
    simp only[RV.relV] at r
    obtain⟨u,us,e,hr,_⟩:=r
    injection e with e1 e2
    subst e1
    exact⟨x,⟨ss,hss,by rw[ha];exact f⟩,hr⟩
  | [],r=>simp [RV.relV] at r
  | _::_::_, r =>
    simp only[RV.relV] at r
    obtain⟨u,us,e,_,u2,us2,e2,_⟩:=r
    injection e with _ e
    rw[e2] at e;cases e
 cases n with
 | zero=>simp [shape] at hss
 | succ n =>
   have hss':=hss
   unfold shape at hss'
   split at hss'
   ·rename_i k ht
    obtain⟨m,rfl⟩:=okWide_int ht hval
    exact one (by simp [aggOf,ht]) rfl
   ·rename_i ht
    obtain⟨b,rfl⟩:=okWide_bool ht hval
    exact one (by simp [aggOf,ht]) rfl
   ·rename_i e ht
    obtain⟨a,l,c,rfl⟩:=okWide_slice ht hval
    exact one (by simp [aggOf,ht]) rfl
   ·rename_i m e ht
    obtain⟨cs,rfl⟩:∃ cs,v = .agg cs:=by
     simp only[Value.okWide,ht] at hval
     obtain⟨cs,h1,_⟩:=hval
     exact⟨cs,h1⟩
    exact⟨.ag xs,⟨ss,hss,by simp only[aggOf,ht,if_true];exact⟨xs,rfl,f⟩⟩,by simp only[RV.rel];exact⟨cs,rfl,o,r⟩⟩
   ·rename_i fs ht
    obtain⟨cs,rfl,_⟩:=okWide_struct ht hval
    exact⟨.ag xs,⟨ss,hss,by simp only[aggOf,ht,if_true];exact⟨xs,rfl,f⟩⟩,by simp only[RV.rel];exact⟨cs,rfl,o,r⟩⟩
   ·cases hss'
theorem fitsT_ag {n:Nat}{t:TypeId}{x:RV}{ss:List Sh}(h:FitsT P n t x) (hs:shape P n t=some ss) (ha:aggOf P t=true):∃ xs,x = .ag xs∧FitsL ss xs:=by
 obtain⟨s',h1,h2⟩:=h
 rw[hs] at h1;injection h1 with h1;subst h1
 rw[ha] at h2
 exact h2
theorem fitsT_one {n:Nat}{t:TypeId}{x:RV}{s:Sh}(h:FitsT P n t x) (hs:shape P n t=some [s]) (ha:aggOf P t=false):Fits s x:=by
 obtain⟨s',h1,h2⟩:=h
 rw[hs] at h1;injection h1 with h1;subst h1
 rw[ha] at h2
 simp only[Bool.false_eq_true,if_false,FitsL] at h2
 obtain⟨y,ys,e,h3,_⟩:=h2
 injection e with e1 e2
 subst e1
 exact h3
end
end Go.Oc

namespace Go.Proofs.YtgfbenanljjgaaaGreat.Du
open Go Go.Oc
set_option maxRecDepth 8000
theorem wfb8 {n:Int}(h:(Lit.int .u8 n).wf=true):∃ k:Nat,n=k∧k<256:=by
 simp only[Lit.wf,Bool.and_eq_true,decide_eq_true_eq] at h
 have h1:IntKind.min .u8=0:=by decide
 have h2:IntKind.max .u8=255:=by decide
 rw[h1,h2] at h
 obtain⟨k,hk⟩:=Int.eq_ofNat_of_zero_le h.1
 exact⟨k,hk,by omega⟩
theorem fitsL_by8:∀ {n:Nat}{xs:List RV},FitsL (List.replicate n (.int .u8)) xs→∃ l:List Nat,xs=l.map u8Q∧l.length=n∧∀ k∈l,k<256
 | 0, xs, h=>by
   simp only[List.replicate_zero,Oc.FitsL] at h
   subst h
   exact⟨[],rfl,rfl,by simp⟩
 | n+1, xs, h=>by
   simp only[List.replicate_succ,Oc.FitsL,Oc.Fits] at h
   obtain⟨_,ys,rfl,⟨a,rfl,ha⟩,h⟩:=h
   obtain⟨k,rfl,kk⟩:=wfb8 ha
   obtain⟨l,rfl,hn,hl⟩:=fitsL_by8 h
   refine⟨k::l,rfl,by simp [hn],fun x hx=>?_⟩
   rcases List.mem_cons.1 hx with rfl|hx
   ·exact kk
   ·exact hl x hx
theorem fitsE_by8 {m:Nat}:∀ {es:List (List RV)},FitsE (List.replicate m (.int .u8)) es→∃ A:List (List Nat),es=A.map (fun a=>a.map u8Q)∧∀ a∈A,a.length=m∧∀ n∈a,n<256
 | [],_=>⟨[],rfl,by simp⟩
 | e::es, h=>by
   simp only[Oc.FitsE] at h
   obtain⟨h1,h2⟩:=h
   obtain⟨l,rfl,hn,hl⟩:=fitsL_by8 h1
   obtain⟨A,rfl,hA⟩:=fitsE_by8 h2
   refine⟨l::A,rfl,fun x hx=>?_⟩
   rcases List.mem_cons.1 hx with rfl|hx
   ·exact⟨hn,hl⟩
   ·exact hA x hx
theorem fits5 {x:RV}(h:FitsT Tryz.prog 9 5 x):∃ n:Nat,x=u8Q n∧n<256:=by
 have:=fitsT_one (s:=.int .u8) h (by kernel_rfl) (by kernel_rfl)
 simp only[Oc.Fits] at this
 obtain⟨m,rfl,hm⟩:=this
 obtain⟨k,rfl,kk⟩:=wfb8 hm
 exact⟨k,rfl,kk⟩
theorem fits50 {x:RV}(h:FitsT Tryz.prog 9 50 x):∃ A:List (List Nat),x = .sl 12 (A.map fun a=>a.map u8Q)∧∀ a∈A,a.length=12∧∀ n∈a,n<256:=by
 have:=fitsT_one (s:=.sl (List.replicate 12 (.int .u8))) h (by kernel_rfl) (by kernel_rfl)
 simp only[Oc.Fits] at this
 obtain⟨es,rfl,hes⟩:=this
 obtain⟨A,rfl,hA⟩:=fitsE_by8 hes
 exact⟨A,rfl,hA⟩
end Go.Proofs.YtgfbenanljjgaaaGreat.Du

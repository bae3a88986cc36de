/- Part 7 of the texts of this claim. -/
import Derived.Test.YtgfbenanljjgaaaGreatVD6
import Derived.Test.YtgfbenanljjgaaaGreatVD5
set_option linter.unusedSimpArgs false
set_option linter.unusedVariables false
namespace Go.Proofs.YtgfbenanljjgaaaGreat.Du
open Go Go.Oc
set_option maxRecDepth 8000
set_option maxHeartbeats 4000000
def totO (cs:List (List Int)) (s:Nat):Int:=((cs.drop 1).map fun r=>r.getD s 0).sum
theorem total_ok (bs:List Int) (g:Int) (cs:List (List Int)) (s n:Nat) (h1:1≤cs.length∧cs.length≤10) (hr:∀ r∈cs,r.length=n∧∀ x∈r,0≤x∧x≤1000000000000) (hs:s<n) :
 ACalls Tryz.prog 71 [brdP bs g cs,i64 (s:Int)] (i64 (totO cs s)):=by
 obtain⟨ds,hds⟩:∃ ds,ds=cs.drop 1:=⟨_,rfl⟩
 have hdl:ds.length≤9:=by rw[hds,List.length_drop];omega
 have hdr:∀ r∈ds,r.length=n∧∀ x∈r,0≤x∧x≤1000000000000:=fun r hr'=>hr r (by rw[hds] at hr';exact List.mem_of_mem_drop hr')
 have hto:totO cs s=(ds.map fun r=>r.getD s 0).sum:=by rw[hds];rfl
 have hdm:List.drop 1 (cs.map fun r=>[ints r])=ds.map fun r=>[ints r]:=by rw[hds,List.map_drop]
 rw[hto]
 refine zas (rs:=[i64 ((ds.map fun r=>r.getD s 0).sum)]) [.tmp 4] Tryz.func71 rfl (by kernel_rfl) Tryz.ntmps71 rfl (by simp) rfl fun C vs=>?_
 apply zq
 refine zb fun K hK=>?_;simp only[go_sem];apply hK;apply zw (zk [0,1,4]);simp only[go_sem]
 repeat apply zq
 refine zb fun K hK=>?_;simp only[go_sem,hdm,List.length_map];repeat first|intro _|refine⟨by omega,?_⟩
 apply hK;apply zw (zk [1,4,11,12,13]);simp only[go_sem];apply zd
 refine zup (n:=25) ds.length (fun i vs=>[(1,.r (i64 (s:Int))),(4,.r (i64 (((ds.take i).map fun r=>r.getD s 0).sum))),(11,.r (tabR ds)),(12,.r (i64 (ds.length:Int))),(13,.r (i64 (i:Int)))])
  (fun i=>[]) (fun _=>True) 0 (zfo [] ?_ ?_) (Nat.zero_le _) trivial ?_
 ·try simp only[go_sem]
  try rfl
 ·try simp only[go_sem]
 ·intro i vs hi _
  by_cases hin:i<ds.length
  ·obtain⟨r,hri⟩:=zol hin
   obtain⟨r1,r2⟩:=hdr r (zmo hri)
   obtain⟨v,hv⟩:=zol (l:=r) (i:=s) (by omega)
   have hvM:=r2 v (zmo hv)
   have hsr:s<r.length:=by omega
   have hsum:∀ j,j≤ds.length→0≤((ds.take j).map fun r=>r.getD s 0).sum∧((ds.take j).map fun r=>r.getD s 0).sum≤1000000000000*j:=by
    intro j
    induction j with
    | zero=>intro _;simp
    | succ j ih =>
      intro hj
      obtain⟨q,hq⟩:=zol (l:=ds) (i:=j) (by omega)
      obtain⟨q1,q2⟩:=hdr q (zmo hq)
      obtain⟨y,hy⟩:=zol (l:=q) (i:=s) (by omega)
      have hyM:=q2 y (zmo hy)
      have:=ih (by omega)
      rw[zto hq,List.map_append,List.sum_append]
      simp only[List.map_cons,List.map_nil,List.sum_cons,List.sum_nil,List.getD_eq_getElem?_getD,hy,Option.getD_some] at *
      omega
   have hsi:=hsum i (by omega)
   rw[zto hri,List.map_append,List.sum_append]
   have hgv:([r].map fun r=>r.getD s 0).sum=v:=by simp [hv]
   rw[hgv]
   generalize ((ds.take i).map fun r=>r.getD s 0).sum=Z at *
   have wz:IntKind.i64.wrap (Z+v)=Z+v:=by rw[zI]<;>omega
   apply zq
   refine zb fun K hK=>?_;simp only[go_sem,hin];apply hK;apply zw (zk [1,4,11,12,13,14]);simp only[go_sem]
   apply zq
   apply zc rfl<;>intro hc<;>(try simp only[go_sem] at hc)
   apply zx
   try simp only[go_sem]
   apply zq
   apply zd
   apply zq
   refine zb fun K hK=>?_;simp only[go_sem,hri,hin,List.length_map];apply hK;apply zw (zk [1,4,6,11,12,13]);simp only[go_sem];refine zb fun K hK=>?_;simp only[go_sem,hv,hsr,wz,List.length_map];apply hK;apply zw (zk [1,4,11,12,13]);simp only[go_sem];refine zb fun K hK=>?_;simp only[go_sem];(try simp (disch:=omega) only[zI]);apply hK
   try simp only[go_sem]
   refine⟨by omega,zfo [] ?_ ?_⟩
   ·try simp only[go_sem]
   ·try simp only[go_sem]
  ·have hie:i=ds.length:=by omega
   subst hie
   rw[List.take_length]
   apply zq
   refine zb fun K hK=>?_;simp only[go_sem,Nat.lt_irrefl];apply hK;apply zw (zk [4,14]);simp only[go_sem]
   apply zq
   apply zc rfl<;>intro hc<;>(try simp only[go_sem] at hc)
   apply zf;simp only[go_sem]
   apply zq
   refine zb fun K hK=>?_;simp only[go_sem];apply hK;apply zw (zk [4]);simp only[go_sem];apply ze;simp only[go_sem]
def stepB (l:List Int) (b:Int) (x:Int × Int):Int:=if l.getD x.2.toNat 0 ≠ -1∧(b = -1∨l.getD x.2.toNat 0+1<b) then l.getD x.2.toNat 0+1 else b
def bestF (l:List Int) (T:List (Int × Int)):Int:=T.foldl (stepB l) (-1)
def fewO (g:Int) (bs:List Int):Nat→List Int
 | 0=>[0]
 | n+1=>fewO g bs n++[bestF (fewO g bs n) (throwsO g ((n+1:Nat):Int) bs)]
theorem few_len (g:Int) (bs:List Int):∀ n,(fewO g bs n).length=n+1
 | 0=>rfl
 | n+1=>by simp [fewO,few_len g bs n]
theorem best_snoc (l:List Int) (T:List (Int × Int)) (x:Int × Int):bestF l (T++[x])=stepB l (bestF l T) x:=by simp [bestF]
theorem best_le {l:List Int}{M:Int}(h:∀ x∈l,-1≤x∧x≤M) (h0:0≤M):∀ T:List (Int × Int),∀ b:Int,-1≤b∧b≤M+1 → -1≤T.foldl (stepB l) b∧T.foldl (stepB l) b≤M+1
 | [],b,hb=>hb
 | x::T, b, hb=>by
   rw[List.foldl_cons]
   refine best_le h h0 T _ ?_
   have hx : -1≤l.getD x.2.toNat 0∧l.getD x.2.toNat 0≤M:=by
    rw[List.getD_eq_getElem?_getD]
    cases e:l[x.2.toNat]? with
    | none=>simp;omega
    | some y=>exact h y (zmo e)
   unfold stepB
   split<;>omega
theorem few_le (g:Int) (bs:List Int):∀ n,∀ x∈fewO g bs n,-1≤x∧x≤n
 | 0,x,hx=>by simp [fewO] at hx;omega
 | n+1, x, hx=>by
   unfold fewO at hx
   rw[List.mem_append,List.mem_singleton] at hx
   rcases hx with hx|rfl
   ·have:=few_le g bs n x hx;omega
   ·have:=best_le (few_le g bs n) (by omega) (throwsO g ((n+1:Nat):Int) bs) (-1) (by omega)
    unfold bestF;omega
theorem fewest_ok (bs:List Int) (g k:Int) (m:Nat) (h:BdsO bs) (hg:0≤g∧g≤2) (hk:1≤k∧k≤9) (hm:m≤1000) :
 ACalls Tryz.prog 38 [ouR bs g k,i64 (m:Int)] (.tu [ints (fewO g bs m),i64 0]):=by
 have hcm:=checkMost_ok bs g k m h hg hk (by omega)
 have hB:∀ b∈bs,bedOk b=true:=fun b hb=>(h.bed b hb).1
 have hbd:=board_ok bs g 0 0 (fun b hb=>h.bed b hb) h.len (by omega) (by omega)
 have hz0:((0:Int) != 0)=false:=rfl
 generalize cntO g bs 0 0=cs at *
 have hth:=throws_ok bs g cs
 refine acalls_stR (rs:=[ints (fewO g bs m),i64 0]) [.cell 4 39,.tmp 5] Tryz.func38 rfl (by kernel_rfl) Tryz.ntmps38 rfl (by simp) rfl fun C hC vs=>?_
 apply zq
 refine zb fun K hK=>?_;simp only[go_sem];apply hK;refine zw (zfP 2 2 [ints bs,i64 g,i64 k] (by omega) rfl rfl) ?_;apply zw (zk [1,2,4,5]);simp only[go_sem]
 repeat apply zq
 refine zb fun K hK=>?_;simp only[go_sem]
 refine zh (hcm) rfl (by simp only[go_sem,i64,ints]) (by simp only[go_sem,i64,ints]) ?_
 (try simp only[go_sem]);apply hK;apply zw (zk [1,2,4,5,6]);simp only[go_sem]
 apply zq
 refine zb fun K hK=>?_;simp only[go_sem,hz0];apply hK;apply zw (zk [1,2,4,5,17]);simp only[go_sem]
 apply zc rfl<;>intro hc<;>(try simp only[go_sem] at hc)
 apply zx
 try simp only[go_sem]
 apply zq
 refine zb fun K hK=>?_;simp only[go_sem]
 refine zh (hbd) rfl (by simp only[go_sem,i64,ints]) (by simp only[go_sem,i64,ints]) ?_
 (try simp only[go_sem]);apply hK;refine zw (sub_ownB 4 0 304 3 1 (by omega) (by omega) rfl (by simp only[go_sem,List.getElem?_cons_succ,List.getElem?_cons_zero])) ?_;apply zw (zk [1,4,7]);simp only[go_sem]
 apply zq
 refine zb fun K hK=>?_;simp only[go_sem];apply hK;apply zw (zk [1,4,7]);simp only[go_sem]
 repeat apply zq
 refine zb fun K hK=>?_;simp only[go_sem];apply hK;apply zw (zk [4,7,27,28]);simp only[go_sem];apply zd
 refine zuv (n:=61) m (fun i vs=>[(4,.pt 4 (vs 4) 0),(7,.r (brdP bs g cs)),(27,.r (i64 (m:Int))),(28,.r (i64 (i:Int)))])
  (fun i vs=>[(4,.box [.os 304 (vs 304) 1 0 (i+1)]),(304,.arr 3 1 (arrN (fewO g bs i)))]) (fun _=>True) 0 (zj [] ?_ ?_) (Nat.zero_le _) trivial ?_
 ·try simp only[go_sem]
  try rfl
 ·try simp only[go_sem]
  try rfl
 ·intro i vs hi _
  by_cases hin:i<m
  ·have hfl:=few_len g bs i
   have hfe:=few_le g bs i
   have hfs:fewO g bs (i+1)=fewO g bs i++[bestF (fewO g bs i) (throwsO g ((i+1:Nat):Int) bs)]:=rfl
   have hmem:=fun x (hx:x∈throwsO g ((i+1:Nat):Int) bs)=>throws_mem hB hx
   have hit:=throws1_ok bs g cs ((i+1:Nat):Int) (by omega) (fun b hb=>(h.bed b hb).2)
   have hti:=hth ((i+1:Nat):Int)
   have wi:IntKind.i64.wrap ((i:Int)+1)=((i+1:Nat):Int):=by rw[zI]<;>omega
   rw[hfs]
   generalize hL:fewO g bs i=L at *
   generalize hT:throwsO g ((i+1:Nat):Int) bs=T at *
   have hbsn:=best_snoc L
   have hble:=fun U=>best_le hfe (by omega) U (-1) (by omega)
   apply zq
   refine zb fun K hK=>?_;simp only[go_sem,hin];apply hK;apply zw (zk [4,7,27,28,29]);simp only[go_sem]
   apply zq
   apply zc rfl<;>intro hc<;>(try simp only[go_sem] at hc)
   apply zx
   try simp only[go_sem]
   apply zq
   apply zd
   apply zq
   refine zb fun K hK=>?_;simp only[go_sem];apply hK;apply zw (zk [4,7,8,27,28]);simp only[go_sem]
   apply zq
   refine zb fun K hK=>?_;simp only[go_sem];apply hK;apply zw (zk [4,7,8,9,27,28]);simp only[go_sem]
   repeat apply zq
   refine zb fun K hK=>?_;simp only[go_sem,wi]
   refine zh (hti) rfl (by simp only[go_sem,i64,ints,wi]) (by simp only[go_sem,i64,ints,wi]) ?_
   (try simp only[go_sem,wi]);apply hK;apply zw (zk [4,7,9,27,28,34]);simp only[go_sem];apply zd
   refine awp_rangeF hC (T.map thrR) hit [4,7,9,27,28,34] (by decide) (fun vs=>[(4,.pt 4 (vs 4) 0),(7,.r (brdP bs g cs)),(9,.pt 9 (vs 9) 0),(27,.r (i64 (m:Int))),(28,.r (i64 (i:Int))),(34,.r (.fn 104 [.rp [brdP bs g cs],.rp [i64 ((i+1:Nat):Int)]]))])
    (fun j vs=>[(4,.box [.os 304 (vs 304) 1 0 (i+1)]),(9,.box [.r (i64 (bestF L (T.take j)))]),(304,.arr 3 1 (arrN L))]) (fun _=>True) (zj [] ?_ ?_) trivial (fun _=>rfl) (fun _=>rfl) (fun _ _=>rfl) (by simp) (fun e he=>by obtain⟨x,_,rfl⟩:=List.mem_map.1 he;rfl) ?_ ?_
   ·try simp only[go_sem]
    try rfl
   ·try simp only[go_sem]
    try rfl
   ·intro j e vs us C' he _
    rw[List.getElem?_map] at he
    obtain⟨x,hx,rfl⟩:=Option.map_eq_some_iff.1 he
    obtain⟨m1,m2,m3,m4⟩:=hmem x (zmo hx)
    have hj:=(List.getElem?_eq_some_iff.1 hx).1
    refine zb fun K hK=>?_;simp only[go_sem];apply hK
    refine⟨rfl,fun C'=>?_⟩
    apply zw (zk [4,7,9,11,27,28,34]);simp only[go_sem];rw[zto hx,hbsn]
    have hv : -1≤bestF L (T.take j)∧bestF L (T.take j)≤(i:Int)+1:=hble (T.take j)
    have hx2:x.2=((x.2.toNat:Nat):Int):=by omega
    have hx3:x.2.toNat<i+1:=by omega
    obtain⟨y,hy⟩:=zol (l:=L) (i:=x.2.toNat) (by omega)
    have hyM:=hfe y (zmo hy)
    have hst:stepB L (bestF L (T.take j)) x=if y ≠ -1∧(bestF L (T.take j) = -1∨y+1<bestF L (T.take j)) then y+1 else bestF L (T.take j):=by
     unfold stepB
     rw[List.getD_eq_getElem?_getD,hy];rfl
    rw[hst]
    generalize bestF L (T.take j)=B at *
    rw[hx2]
    generalize x.2.toNat=q at *
    have hqL:q<L.length:=by omega
    have wy:IntKind.i64.wrap (y+1)=y+1:=by rw[zI]<;>omega
    apply zd
    apply zq
    refine zb fun K hK=>?_;simp only[go_sem,hy,hqL,hx3,hfl,List.length_map]
    refine⟨by omega,?_⟩
    apply hK;apply zw (zk [4,7,9,12,27,28,34]);simp only[go_sem]
    by_cases c0:y = -1
    ·have e0:(y != -1)=false:=by simp [c0]
     rw[if_neg (fun hh=>hh.1 c0)]
     apply zq
     refine zb fun K hK=>?_;simp only[go_sem,e0];apply hK;apply zw (zk [4,7,9,12,27,28,34,52]);simp only[go_sem]
     apply zc rfl<;>intro hc<;>(try simp only[go_sem] at hc)
     apply zx
     try simp only[go_sem]
     refine zj (F:=fun _=>[]) [] ?_ ?_
     ·try simp only[go_sem]
     ·try simp only[go_sem]
    ·have e0:(y != -1)=true:=by simp [c0]
     by_cases c1:B = -1
     ·have e1:(B == -1)=true:=by simp [c1]
      rw[if_pos ⟨c0,.inl c1⟩]
      apply zq
      refine zb fun K hK=>?_;simp only[go_sem,e0,e1];apply hK;apply zw (zk [4,7,9,12,27,28,34,52]);simp only[go_sem]
      apply zc rfl<;>intro hc<;>(try simp only[go_sem] at hc)
      refine zb fun K hK=>?_;simp only[go_sem,wy];apply hK
      try simp only[go_sem]
      refine zj (F:=fun _=>[]) [] ?_ ?_
      ·try simp only[go_sem]
      ·try simp only[go_sem]
     ·have e1:(B == -1)=false:=by simp [c1]
      by_cases c2:y+1<B
      ·have e2:decide (y+1<B)=true:=decide_eq_true c2
       rw[if_pos ⟨c0,.inr c2⟩]
       apply zq
       refine zb fun K hK=>?_;simp only[go_sem,e0,e1,wy,e2];apply hK;apply zw (zk [4,7,9,12,27,28,34,52]);simp only[go_sem]
       apply zc rfl<;>intro hc<;>(try simp only[go_sem] at hc)
       refine zb fun K hK=>?_;simp only[go_sem,wy];apply hK
       try simp only[go_sem]
       refine zj (F:=fun _=>[]) [] ?_ ?_
       ·try simp only[go_sem]
       ·try simp only[go_sem]
      ·have e2:decide (y+1<B)=false:=decide_eq_false c2
       rw[if_neg (fun hh=>hh.2.elim c1 c2)]
       apply zq
       refine zb fun K hK=>?_;simp only[go_sem,e0,e1,wy,e2];apply hK;apply zw (zk [4,7,9,12,27,28,34,52]);simp only[go_sem]
       apply zc rfl<;>intro hc<;>(try simp only[go_sem] at hc)
       apply zx
       try simp only[go_sem]
       refine zj (F:=fun _=>[]) [] ?_ ?_
       ·try simp only[go_sem]
       ·try simp only[go_sem]
   ·intro vs us _
    try simp only[go_sem]
    refine zw (sub_wake rfl) ?_
    try simp only[List.length_map,List.take_length]
    refine zb fun K hK=>?_;simp only[go_sem,hfl,List.length_map]
    refine⟨by omega,?_⟩
    apply hK;apply zw (zk [4,7,27,28]);simp only[go_sem];refine zb fun K hK=>?_;simp only[go_sem];(try simp (disch:=omega) only[zI]);apply hK
    try simp only[go_sem]
    refine⟨by omega,zj [9] ?_ ?_⟩
    ·try simp only[go_sem]
    ·try simp only[go_sem]
     try simp
  ·have hie:i=m:=by omega
   subst hie
   have hfl:=few_len g bs i
   generalize fewO g bs i=L at *
   apply zq
   refine zb fun K hK=>?_;simp only[go_sem,Nat.lt_irrefl];apply hK;apply zw (zk [4,29]);simp only[go_sem]
   apply zq
   apply zc rfl<;>intro hc<;>(try simp only[go_sem] at hc)
   apply zf;simp only[go_sem];refine zw (sub_frzB 4 0 304 (ty:=3) (sz:=1) (off:=0) (m:=i+1) (es:=arrN L) (by omega) (by omega) rfl (by simp only[go_sem,List.getElem?_cons_succ,List.getElem?_cons_zero]) (by rfl) (by simp [hfl])) ?_
   have tk1:List.take (i+1) (arrN L)=arrN L:=List.take_of_length_le (by simp [hfl])
   simp only[go_sem,List.drop_zero,tk1,List.set_cons_succ,List.set_cons_zero]
   apply zq
   refine zb fun K hK=>?_;simp only[go_sem];apply hK;apply zw (zk [4,5]);simp only[go_sem];apply ze;simp only[go_sem]
abbrev finC (bs:List Int) (g k:Int) (dn s:Nat):List RV:=[brdP bs g (cntO g bs s dn),ints bs,i64 g,i64 k,i64 (s:Int)]
theorem newFinish_ok (bs:List Int) (g:Int) (dn s:Nat) (h:BdsO bs) (hg:0≤g∧g≤2) (hk:1≤dn∧dn≤6) (hs:1≤s∧s≤1000) :
 ACalls Tryz.prog 70 [ouR bs g (dn:Int),i64 (s:Int)] (.tu [.ag (finC bs g (dn:Int) dn s),i64 0]):=by
 have hch:=ocheck_ok bs g (dn:Int) h hg (by omega)
 have w1:withinL 1 1001 [(s:Int)]=true:=by simp [withinL];omega
 have c1:=owithin_ok 1 1001 [(s:Int)]
 rw[w1] at c1
 have hbd:=board_ok bs g dn s (fun b hb=>h.bed b hb) h.len (by omega) (by omega)
 have z0:((0:Int) != 0)=false:=rfl
 refine zas (rs:=[.ag (finC bs g (dn:Int) dn s),i64 0]) [.cell 4 142,.tmp 5] Tryz.func70 rfl (by kernel_rfl) Tryz.ntmps70 rfl (by simp) rfl fun C vs=>?_
 apply zq
 refine zb fun K hK=>?_;simp only[go_sem];apply hK;refine zw (zfP 2 2 [ints bs,i64 g,i64 (dn:Int)] (by omega) rfl rfl) ?_;apply zw (zk [1,2,4]);simp only[go_sem]
 apply zq
 apply zd
 apply zq
 refine zb fun K hK=>?_;simp only[go_sem]
 refine zh (hch) rfl (by simp only[go_sem,i64,ints,z0]) (by simp only[go_sem,i64,ints,z0]) ?_
 (try simp only[go_sem,z0]);apply hK;apply zw (zk [1,2,4,6]);simp only[go_sem]
 apply zc rfl<;>intro hc<;>(try simp only[go_sem] at hc)
 apply zq
 refine zb fun K hK=>?_;simp only[go_sem]
 refine zh (c1) rfl (by simp only[go_sem,i64,ints]) (by simp only[go_sem,i64,ints]) ?_
 (try simp only[go_sem]);apply hK;apply zw (zk [1,2,4,11]);simp only[go_sem]
 apply zc rfl<;>intro hc<;>(try simp only[go_sem] at hc)
 apply zx
 try simp only[go_sem]
 apply zq
 refine awp_dreg2 [(2,none),(4,some 4)] follows (by decide +kernel) (by kernel_rfl) (by simp only[keysOk,List.mem_cons,List.not_mem_nil,forall_eq_or_imp,Oc.keyOf,go_sem];simp) fun K hK=>?_
 simp only[go_sem]
 refine zh (hbd) rfl (by simp only[go_sem,i64,ints]) (by simp only[go_sem,i64,ints]) ?_
 (try simp only[go_sem]);apply hK;apply zw (zk [4,5]);simp only[go_sem];apply ze;simp only[go_sem]
 try exact rv_le _
theorem number_ok2 (bs:List Int) (g:Int) (dn s:Nat) (h:BdsO bs) (hg:0≤g∧g≤2) (hk:1≤dn∧dn≤6) (hs:1≤s∧s≤1000) :
 ACalls Tryz.prog 39 [ouR bs g (dn:Int),i64 (s:Int)] (.tu [i64 (totO (cntO g bs s dn) s),i64 0]):=by
 have hnf:=newFinish_ok bs g dn s h hg hk hs
 have hcl:=cnt_len g bs s dn
 have hto:=total_ok bs g (cntO g bs s dn) s (s+1) (by omega) (fun r hr=>by
  obtain⟨j,hj,rfl⟩:=List.mem_map.1 hr
  have hj:=List.mem_range.1 hj
  exact⟨rowN_len g bs s j,rowN_le6 g bs h.len s (by omega)⟩) (by omega)
 have z0:((0:Int) != 0)=false:=rfl
 generalize totO (cntO g bs s dn) s=T at *
 refine zas (rs:=[i64 T,i64 0]) [.tmp 4,.tmp 5] Tryz.func39 rfl (by kernel_rfl) Tryz.ntmps39 rfl (by simp) rfl fun C vs=>?_
 apply zq
 refine zb fun K hK=>?_;simp only[go_sem];apply hK;refine zw (zfP 2 2 [ints bs,i64 g,i64 (dn:Int)] (by omega) rfl rfl) ?_;apply zw (zk [1,2]);simp only[go_sem]
 apply zq
 refine zb fun K hK=>?_;simp only[go_sem]
 refine zh (hnf) rfl (by simp only[go_sem,i64,ints]) (by simp only[go_sem,i64,ints]) ?_
 (try simp only[go_sem]);apply hK;refine zw (zfP 6 6 (finC bs g (dn:Int) dn s) (by omega) rfl rfl) ?_;apply zw (zk [1,6,7]);simp only[go_sem]
 repeat apply zq
 refine zb fun K hK=>?_;simp only[go_sem,z0];apply hK;apply zw (zk [1,6,15]);simp only[go_sem]
 apply zc rfl<;>intro hc<;>(try simp only[go_sem] at hc)
 apply zx
 try simp only[go_sem]
 apply zq
 refine zb fun K hK=>?_;simp only[go_sem]
 refine zh (hto) rfl (by simp only[go_sem,i64,ints]) (by simp only[go_sem,i64,ints]) ?_
 (try simp only[go_sem]);apply hK;apply zw (zk [4,5]);simp only[go_sem];apply ze;simp only[go_sem]
def sixO:List Int:=[120,125,205,220,225,320]
theorem sixO_ok:BdsO sixO:=⟨by decide,by decide,by decide,by decide⟩
def waysO (g:Int) (bs:List Int) (m:Nat):Nat→Int→List Int→List (List Int)
 | 0,_,first=>[first]
 | k+1,s,first=>(throwsO g s bs).flatMap fun x=>if 0<(rowN g bs m k).getD x.2.toNat 0 then waysO g bs m k x.2 (first++[x.1]) else []
def partO (g:Int) (bs:List Int) (m s k:Nat):List (List Int):=if 0<(rowN g bs m (k+1)).getD s 0 then waysO g bs m (k+1) s [] else []
def allO (g:Int) (bs:List Int) (m s dn:Nat):List (List Int):=(List.range dn).flatMap (partO g bs m s)
theorem flat_le {α β:Type}{f:α→List β}{n:Nat}:∀ (l:List α),(∀ x∈l,(f x).length≤n)→(l.flatMap f).length≤l.length*n
 | [],_=>by simp
 | x::l, h=>by
   have h1:=h x (by simp)
   have h2:=flat_le l fun y hy=>h y (by simp [hy])
   rw[List.flatMap_cons,List.length_append,List.length_cons,Nat.succ_mul]
   omega
theorem ways_len (g:Int) (bs:List Int) (m:Nat):∀ k s first,(waysO g bs m k s first).length≤bs.length ^ k
 | 0,_,_=>by simp [waysO]
 | k+1, s, first=>by
   unfold waysO
   refine Nat.le_trans (flat_le (n:=bs.length ^ k) _ fun x _=>?_) ?_
   ·split
    ·exact ways_len g bs m k _ _
    ·simp
   ·rw[Nat.pow_succ,Nat.mul_comm (bs.length ^ k)]
    exact Nat.mul_le_mul_right _ (throws_len bs g s)
theorem ways_pre (g:Int) (bs:List Int) (m:Nat):∀ k s first,∀ w∈waysO g bs m k s first,∃ r,w=first++r∧r.length=k
 | 0, _, first, w, hw=>by
   simp only[waysO,List.mem_singleton] at hw
   exact⟨[],by rw[hw,List.append_nil],rfl⟩
 | k+1, s, first, w, hw=>by
   simp only[waysO,List.mem_flatMap] at hw
   obtain⟨x,_,hw⟩:=hw
   split at hw
   ·obtain⟨r,hr,hl⟩:=ways_pre g bs m k _ _ w hw
    exact⟨x.1::r,by rw[hr,List.append_assoc];rfl,by simp [hl]⟩
   ·simp at hw
theorem sum_pos {α:Type}{f:α→Int}:∀ {l:List α},(∀ x∈l,0≤f x)→0≤(l.map f).sum∧(0<(l.map f).sum↔∃ x∈l,0<f x)
 | [],_=>by simp
 | x::l, h=>by
   obtain⟨h1,h2⟩:=sum_pos (l:=l) fun y hy=>h y (by simp [hy])
   have h0:=h x (by simp)
   rw[List.map_cons,List.sum_cons]
   refine⟨by omega,fun hp=>?_,fun ⟨y,hy,hp⟩=>?_⟩
   ·by_cases hx:0<f x
    ·exact⟨x,by simp,hx⟩
    ·obtain⟨y,hy,hp⟩:=h2.1 (by omega)
     exact⟨y,by simp [hy],hp⟩
   ·rcases List.mem_cons.1 hy with rfl|hy
    ·omega
    ·have:=h2.2 ⟨y,hy,hp⟩;omega
theorem getD_nn {l:List Int}(h:∀ x∈l,0≤x) (i:Nat):0≤l.getD i 0:=by
 rw[List.getD_eq_getElem?_getD]
 cases e:l[i]? with
 | none=>simp
 | some y=>exact h y (List.mem_of_getElem? e)
theorem rowN_nn (g:Int) (bs:List Int) (m:Nat):∀ k,∀ x∈rowN g bs m k,0≤x
 | 0, x, hx=>by
   simp only[rowN,wonO,List.mem_cons] at hx
   rcases hx with rfl|hx
   ·omega
   ·rw[List.eq_of_mem_replicate hx];omega
 | k+1, x, hx=>by
   unfold rowN rowO at hx
   obtain⟨s,_,rfl⟩:=List.mem_map.1 hx
   exact (sum_pos fun y _=>getD_nn (rowN_nn g bs m k) _).1
theorem rowN_at {g:Int}{bs:List Int}{m k s:Nat}(h:s≤m):(rowN g bs m (k+1)).getD s 0=sumT (rowN g bs m k) (throwsO g s bs):=by
 have hl:=rowN_len g bs m k
 show ((List.range (rowN g bs m k).length).map _).getD s 0=_
 rw[List.getD_eq_getElem?_getD,List.getElem?_map,List.getElem?_range (by omega)]
 rfl
theorem row_pos {g:Int}{bs:List Int}{m k s:Nat}(h:s≤m):0<(rowN g bs m (k+1)).getD s 0↔∃ x∈throwsO g s bs,0<(rowN g bs m k).getD x.2.toNat 0:=by
 rw[rowN_at h]
 exact (sum_pos fun y _=>getD_nn (rowN_nn g bs m k) _).2
theorem ways_ne {g:Int}{bs:List Int}(hB:∀ b∈bs,bedOk b=true) {m:Nat}:∀ (k s:Nat) (first:List Int),s≤m→0<(rowN g bs m k).getD s 0→∃ w,w∈waysO g bs m k s first
 | 0,s,first,_,_=>⟨first,by simp [waysO]⟩
 | k+1, s, first, hs, h=>by
   obtain⟨x,hx,hp⟩:=(row_pos hs).1 h
   obtain⟨_,x1,x2,_⟩:=throws_mem hB hx
   obtain⟨y,hy⟩:∃ y:Nat,x.2=y:=⟨x.2.toNat,by omega⟩
   have hp2:=hp
   rw[hy,Int.toNat_natCast] at hp2
   obtain⟨w,hw⟩:=ways_ne hB k y (first++[x.1]) (by omega) hp2
   refine⟨w,?_⟩
   simp only[waysO,List.mem_flatMap];exact⟨x,hx,by rw[if_pos hp,hy];exact hw⟩
theorem all_first {g:Int}{bs:List Int}(hB:∀ b∈bs,bedOk b=true) {m s dn k:Nat}(hs:s≤m) (hk:k<dn) {x:Int × Int}(hx:x∈throwsO g s bs) (hp:0<(rowN g bs m k).getD x.2.toNat 0) :
 ∃ w∈allO g bs m s dn,∃ r,w=x.1::r:=by
 obtain⟨_,x1,x2,_⟩:=throws_mem hB hx
 obtain⟨y,hy⟩:∃ y:Nat,x.2=y:=⟨x.2.toNat,by omega⟩
 have hp2:=hp
 rw[hy,Int.toNat_natCast] at hp2
 obtain⟨w,hw⟩:=ways_ne hB k y ([]++[x.1]) (by omega) hp2
 obtain⟨r,hr,_⟩:=ways_pre g bs m k y _ w hw
 refine⟨w,?_,r,by rw[hr];rfl⟩
 unfold allO
 rw[List.mem_flatMap]
 refine⟨k,List.mem_range.2 hk,?_⟩
 unfold partO
 rw[if_pos ((row_pos hs).2 ⟨x,hx,hp⟩)]
 simp only[waysO,List.mem_flatMap];exact⟨x,hx,by rw[if_pos hp,hy];exact hw⟩
theorem all_len {g:Int}{bs:List Int}{m s:Nat}(h:bs.length≤82):∀ dn,dn≤3→(allO g bs m s dn).length≤2000000:=fun dn hdn=>by
 have h1:∀ k∈List.range dn,(partO g bs m s k).length≤82 ^ 3:=fun k hk=>by
  have hk:=List.mem_range.1 hk
  unfold partO
  split
  ·exact Nat.le_trans (ways_len g bs m _ _ _) (Nat.le_trans (Nat.pow_le_pow_left h _) (Nat.pow_le_pow_right (by omega) (by omega)))
  ·simp
 have:=flat_le _ h1
 rw[List.length_range] at this
 refine Nat.le_trans this (Nat.le_trans (Nat.mul_le_mul_right _ hdn) ?_)
 decide
theorem rowN_pow (g:Int) (bs:List Int) (m:Nat):∀ k,∀ x∈rowN g bs m k,0≤x∧x≤((bs.length ^ k:Nat):Int)
 | 0, x, hx=>by
   simp only[rowN,wonO,List.mem_cons] at hx
   rcases hx with rfl|hx
   ·simp
   ·rw[List.eq_of_mem_replicate hx];simp
 | k+1, x, hx=>by
   unfold rowN rowO at hx
   obtain⟨s,_,rfl⟩:=List.mem_map.1 hx
   have h:=sumT_le (M:=((bs.length ^ k:Nat):Int)) (rowN_pow g bs m k) (Int.natCast_nonneg _) (throwsO g s bs)
   have hlen:=throws_len bs g s
   refine⟨h.1,Int.le_trans h.2 ?_⟩
   rw[Nat.pow_succ]
   have:(bs.length ^ k)*(throwsO g s bs).length≤bs.length ^ k*bs.length:=Nat.mul_le_mul_left _ hlen
   exact_mod_cast this
end Go.Proofs.YtgfbenanljjgaaaGreat.Du

namespace Go.Oc
open Go Go.RowKit
def sAppB (P:Program) (s:AS) (d:Nat) (t t':TypeId) (x y:AV):Res :=
 match tyq P t,decide (t=t'),x,y with
 | some ⟨.slice e esz eb _, _, _, _⟩, true, .os k n sz off m, .os j n2 sz2 off2 m2 =>
   match s.rows k,s.rows j with
   | ⟨n',.ara e' sz' cs⟩,⟨n2',.ara e2 sz2' ds⟩=>⟨(n=n'∧n2=n2')∧(e'=e∧e2=e)∧(sz=esz∧sz'=esz∧sz2=esz∧sz2'=esz)∧(off=0∧off2=0)∧(cs.length=m*esz∧ds.length=m2*esz)∧(0<m∧0<m2∧0<esz)∧(m+m2)*eb≤140737488355328∧m+m2≤9223372036854775807∧k<1000,True,
    ⟨.os k (n'+1) esz 0 (m+m2),[(k,⟨n'+1,.ara e esz (cs++ds)⟩)]⟩⟩
   | _,_=>.bad
 | some ⟨.slice e esz eb _, _, _, _⟩, true, .r .ns, .os j n2 sz2 off2 m2 =>
   match s.rows j with
   | ⟨n2',.ara e2 sz2' ds⟩=>⟨n2=n2'∧e2=e∧(sz2=esz∧sz2'=esz)∧off2=0∧ds.length=m2*esz∧(0<m2∧0<esz)∧m2*eb≤140737488355328∧m2≤9223372036854775807∧d<1000,True,
    ⟨.os d ((s.rows d).ver+1) esz 0 m2,[(d,⟨(s.rows d).ver+1,.ara e esz ds⟩)]⟩⟩
   | _=>.bad
 | _,_,_,_=>.bad
section
variable {P:Program}{C:Ctx}{p:Plan}{s:AS}{a:Act}{w:World}{o:Oper}
theorem ara_read (h:SR C p s a w) {k n esz e m:Nat}{cs:List AV}{x:Operand}(e3:s.ev x = .os k n esz 0 m) (e5:s.rows k=⟨n,.ara e esz cs⟩) (hm:cs.length=m*esz) (h0:0<m) :
 ∃ b cells l rest, p.β k=some b∧a.eval x = .slice (some ⟨b, 0, none⟩) m (p.γ k)∧w.heap[b]? = some (.cells cells e (0, 0))∧cells.size=p.γ k*esz∧cells.toList=l++rest∧AV.relV w p s.ver cs l∧(∀ u∈l, u.oneCell'=true)∧l.length=m*esz ∧
   m≤p.γ k∧∀ j u,l[j]? = some u→w.cell? ((⟨b,0,none⟩:Addr).add j)=some u:=by
 have hver:n=s.ver k:=by simp [AS.ver,e5]
 have hrow:=h.rw k
 rw[e5] at hrow
 simp only[zrl] at hrow
 obtain⟨b,cells,hβ,hh,hcs,l,rest,hl,hV,h1⟩:=hrow
 rcases ev_os h e3 hver with⟨hb0,_⟩|⟨b',A,hβ',hv,hle,hA⟩
 ·rw[hb0] at hβ;cases hβ
 ·rw[hβ] at hβ'
  injection hβ' with hβ'
  subst hβ'
  obtain rfl:=hA (.inl h0)
  simp only[Nat.zero_mul,Nat.sub_zero,Nat.zero_add] at hv hle
  refine⟨b,cells,l,rest,hβ,hv,hh,hcs,hl,hV,h1,by rw[AV.relV_length hV,hm],hle,fun j u hj=>?_⟩
  rw[add_at,Nat.zero_add,cell_of_row w b j cells e (0,0) hh,← Array.getElem?_toList,hl,List.getElem?_append_left (List.getElem?_eq_some_iff.1 hj).1]
  exact hj
theorem good_appB {x y:Operand}{t t':TypeId}(h:SR C p s a w) (ho:o.op = .call ⟨.builtin .append,#[x,y],#[t,t']⟩) (hp:(sAppB P s (o.dst.getD 0) t t' (s.ev x) (s.ev y)).pre) :
 Done P C o s a w (sAppB P s (o.dst.getD 0) t t' (s.ev x) (s.ev y)):=by
 have go:∀ {v:Value}{w2:World},(Builtin.append_ #[t,t'] o.type #[a.eval x,a.eval y]).run P w = .ok v w2→(execOp a.eval o).run P w = .ok (.value v) w2:=fun hr =>
  run_builtin_of ho (by simp only[builtin,Sem.run_bind,List.map_toArray,List.map_cons,List.map_nil,hr,Result.andThen_ok,Sem.run_pure])
 unfold sAppB at hp ⊢
 split at hp
 ·rename_i e esz eb ez ssz sagg sz0 k n sz off m j n2 sz2 off2 m2 e1 e2 e3 e4
  obtain rfl:t=t':=by simpa using e2
  split at hp
  ·rename_i n' e' sz' cs n2' ee sz2' ds e5 e6
   obtain⟨⟨g1,g2⟩,⟨g3,g4⟩,⟨g5,g6,g7,g8⟩,⟨g9,g10⟩,⟨hm,hm2⟩,⟨h0,h02,hpos⟩,hb,hmax,hk0⟩:=hp
   subst g1 g2 g3 g4 g5 g6 g7 g8 g9 g10
   have hn2:n=(s.rows k).ver:=by rw[e5]
   obtain⟨b,cells,l,rest,hβ,hv,hh,hcs,hl,hV,h1,hll,hle,hget⟩:=ara_read h e3 e5 hm h0
   obtain⟨bj,cellsj,vs,restj,hβj,hvj,hhj,hcsj,hlj,hVj,h1j,hlv,hlej,hgv⟩:=ara_read h e4 e6 hm2 h02
   obtain⟨hu,hok,hco,hby,zv,hzv,hez⟩:=tyq_slice e1
   obtain⟨i,z,hi,hzero,hcells,hz1,hzl⟩:=zeroOf_spec hzv
   rw[zci hi] at hco
   rw[bytesOf_info hi] at hby
   by_cases hroom:m+m2≤p.γ k
   ·have hfit:m*sz2'+vs.length≤cells.size:=by
     rw[hlv,hcs,← Nat.add_mul];exact Nat.mul_le_mul_right _ hroom
    have hr:=run_append_room (P:=P) w t o.type ee i hu hi b m (p.γ k) cells hh ⟨bj,0,none⟩ m2 (p.γ j) vs (by rw[hlv,hco]) hgv h1j hroom (by rw[hco];exact hfit)
    rw[hco] at hr
    have htk:cells.toList.take (m*sz2')=l:=by rw[hl,← hll,List.take_left]
    have hSR:=h.reRow (w':=w.setRow b (cells.toList.take (m*sz2')++vs++cells.toList.drop (m*sz2'+vs.length)).toArray) k hk0 (.ara ee sz2' (cs++ds)) rfl (some b) (p.γ k) (h.cap k) rfl rfl rfl (by simp)
     (fun j _ hj=>setRow_other w b j _ (fun e=>hj (by rw[e];exact hβ))) (fun b2 h2=>by injection h2 with h2;subst h2;exact⟨by simpa using (h.bl k _ hβ).1,.inl hβ⟩) (fun p' ver' hR' hβ' hγ' hk=>by
     simp only[zrl];rw[hγ']
     refine⟨b,_,hβ',setRow_heap w b cells _ ee _ hh,?_,l++vs,cells.toList.drop (m*sz2'+vs.length),by rw[htk],?_,fun u hu=>(List.mem_append.1 hu).elim (h1 u) (h1j u)⟩
     ·simp;omega
     ·exact AV.relV_append (AV.relV_mono hk _ _ hV) (AV.relV_mono hk _ _ hVj))
    refine⟨_,.slice (some ⟨b,0,none⟩) (m+m2) (p.γ k),_,{ p with β:=upd p.β k (some b),γ:=upd p.γ k (p.γ k) },go (by rw[hv,hvj];exact hr),.inl rfl,trivial,?_,?_⟩
    ·rw[zro,hn2];exact hSR
    ·rw[zro,hn2]
     simp only[AV.rel,vers,zus];exact⟨Nat.le_refl _,fun _=>.inr ⟨b,_,rfl,by simp;rfl,by simpa using hroom,fun _=>by simp⟩⟩
   ·have hr:=run_append_grow (P:=P) w t o.type ee i z hu hi hzero ⟨b,0,none⟩ m (p.γ k) l (by rw[hll,hco]) hget ⟨bj,0,none⟩ m2 (p.γ j) vs (by rw[hlv,hco]) hgv (by omega) (by omega)
     (growslice_fits (by omega) (by rw[hby];exact hb))
    have hge:=grownCap_ge w (m+m2) (p.γ k) ee
    have hcap:=grownCap_le_maxLen w (m+m2) (p.γ k) ee (by simp only[maxLen];omega)
    have hzc:z.cells.size=sz2':=by rw[zci hi,hco] at hzl;rw[← hzl,← hcells];simp
    have hd:SR C p s a w.drew:=h.below (w':=w.drew) ((Below.refl _ _).drew) (fun _ h=>h) (fun _ h=>.inl h) h.rb
    have hVd:AV.relV w.drew p s.ver cs l:=by
     obtain⟨b3,cells3,hβ3,hh3,_,l3,rest3,hl3,hV3,_⟩:∃ b cells,p.β k=some b∧w.drew.heap[b]? = some (.cells cells ee (0,0))∧cells.size=p.γ k*sz2'∧∃ l rest,cells.toList=l++rest∧AV.relV w.drew p s.ver cs l∧∀ u∈l,u.oneCell'=true:=by
      have:=hd.rw k
      rw[e5] at this
      simpa only[zrl] using this
     rw[hβ] at hβ3;injection hβ3 with hβ3;subst hβ3
     have hh3':w.heap[b]? = some (.cells cells3 ee (0,0)):=hh3
     rw[hh] at hh3';injection hh3' with hh3';injection hh3' with hh3';subst hh3'
     have e7:l3=l:=by
      have e8:=AV.relV_length hV3
      rw[hl] at hl3
      have:l.length=l3.length:=by rw[hll,← hm];exact e8.symm
      exact (List.append_inj hl3 this).1.symm
     subst e7
     exact hV3
    have hVjd:AV.relV w.drew p s.ver ds vs:=by
     obtain⟨b3,cells3,hβ3,hh3,_,l3,rest3,hl3,hV3,_⟩:∃ b cells,p.β j=some b∧w.drew.heap[b]? = some (.cells cells ee (0,0))∧cells.size=p.γ j*sz2'∧∃ l rest,cells.toList=l++rest∧AV.relV w.drew p s.ver ds l∧∀ u∈l,u.oneCell'=true:=by
      have:=hd.rw j
      rw[e6] at this
      simpa only[zrl] using this
     rw[hβj] at hβ3;injection hβ3 with hβ3;subst hβ3
     have hh3':w.heap[bj]? = some (.cells cells3 ee (0,0)):=hh3
     rw[hhj] at hh3';injection hh3' with hh3';injection hh3' with hh3';subst hh3'
     have e7:l3=vs:=by
      have e8:=AV.relV_length hV3
      rw[hlj] at hl3
      have:vs.length=l3.length:=by rw[hlv,← hm2];exact e8.symm
      exact (List.append_inj hl3 this).1.symm
     subst e7
     exact hV3
    have hn:=hd.newRow k hk0 (.ara ee sz2' (cs++ds)) rfl (grownCap w (m+m2) (p.γ k) ee) hcap
     (.cells (l.toArray++vs.toArray++Builtin.zeroCells z.cells (grownCap w (m+m2) (p.γ k) ee-(m+m2))) ee) (fun p' ver' _ hβ hγ hk=>by
     simp only[zrl];rw[hγ]
     refine⟨_,_,hβ,heap_alloc_new w.drew _,?_,l++vs,(Builtin.zeroCells z.cells (grownCap w (m+m2) (p.γ k) ee-(m+m2))).toList,?_,AV.relV_append (AV.relV_mono hk _ _ hVd) (AV.relV_mono hk _ _ hVjd),fun u hu=>(List.mem_append.1 hu).elim (h1 u) (h1j u)⟩
     ·rw[Array.size_append,Array.size_append,size_zero,hzc,List.size_toArray,List.size_toArray,hll,hlv,← Nat.add_mul,← Nat.add_mul]
      congr 1;omega
     ·simp only[Array.toList_append,List.append_assoc])
    refine⟨_,_,_,_,go (by rw[hv,hvj];exact hr),.inl rfl,trivial,by rw[zro,hn2];exact hn,?_⟩
    rw[zro,hn2]
    simp only[AV.rel,vers,zus];exact⟨Nat.le_refl _,fun _=>.inr ⟨_,_,rfl,by simp;rfl,by simpa using hge,fun _=>by simp⟩⟩
  ·exact hp.elim
 ·rename_i e esz eb ez ssz sagg sz0 j n2 sz2 off2 m2 e1 e2 e3 e4
  obtain rfl:t=t':=by simpa using e2
  split at hp
  ·rename_i n2' ee sz2' ds e6
   obtain⟨g2,g4,⟨g7,g8⟩,g10,hm2,⟨h02,hpos⟩,hb,hmax,hd0⟩:=hp
   subst g2 g4 g7 g8 g10
   obtain⟨A,hv⟩:=ev_ns h e3
   obtain⟨bj,cellsj,vs,restj,hβj,hvj,hhj,hcsj,hlj,hVj,h1j,hlv,hlej,hgv⟩:=ara_read h e4 e6 hm2 h02
   obtain⟨hu,hok,hco,hby,zv,hzv,hez⟩:=tyq_slice e1
   obtain⟨i,z,hi,hzero,hcells,hz1,hzl⟩:=zeroOf_spec hzv
   rw[zci hi] at hco
   rw[bytesOf_info hi] at hby
   have hrun:(Builtin.append_ #[t,t] o.type #[.slice A 0 0,.slice (some ⟨bj,0,none⟩) m2 (p.γ j)]).run P w =
    .ok (.slice (some ⟨w.heap.size,0,none⟩) m2 (grownCap w m2 0 ee)) (w.drew.alloc (.cells (vs.toArray++Builtin.zeroCells z.cells (grownCap w m2 0 ee-m2)) ee)):=by
    cases A with
    | none=>exact run_append_nil (P:=P) w t o.type ee i z hu hi hzero ⟨bj,0,none⟩ m2 (p.γ j) vs (by rw[hlv,hco]) hgv h02 (by omega) (by rw[hby];omega)
    | some b =>
      have:=run_append_grow (P:=P) w t o.type ee i z hu hi hzero b 0 0 [] (by simp) (by simp) ⟨bj,0,none⟩ m2 (p.γ j) vs (by rw[hlv,hco]) hgv (by omega) (by omega) (growslice_fits (by omega) (by rw[hby];simpa using hb))
      simpa using this
   have hge:=grownCap_ge w m2 0 ee
   have hcap:=grownCap_le_maxLen w m2 0 ee (by simp only[maxLen];omega)
   have hzc:z.cells.size=sz2':=by rw[zci hi,hco] at hzl;rw[← hzl,← hcells];simp
   have hd:SR C p s a w.drew:=h.below (w':=w.drew) ((Below.refl _ _).drew) (fun _ h=>h) (fun _ h=>.inl h) h.rb
   have hVjd:AV.relV w.drew p s.ver ds vs:=by
    obtain⟨b3,cells3,hβ3,hh3,_,l3,rest3,hl3,hV3,_⟩:∃ b cells,p.β j=some b∧w.drew.heap[b]? = some (.cells cells ee (0,0))∧cells.size=p.γ j*sz2'∧∃ l rest,cells.toList=l++rest∧AV.relV w.drew p s.ver ds l∧∀ u∈l,u.oneCell'=true:=by
     have:=hd.rw j
     rw[e6] at this
     simpa only[zrl] using this
    rw[hβj] at hβ3;injection hβ3 with hβ3;subst hβ3
    have hh3':w.heap[bj]? = some (.cells cells3 ee (0,0)):=hh3
    rw[hhj] at hh3';injection hh3' with hh3';injection hh3' with hh3';subst hh3'
    have e7:l3=vs:=by
     have e8:=AV.relV_length hV3
     rw[hlj] at hl3
     have:vs.length=l3.length:=by rw[hlv,← hm2];exact e8.symm
     exact (List.append_inj hl3 this).1.symm
    subst e7
    exact hV3
   have hn:=hd.newRow (o.dst.getD 0) hd0 (.ara ee sz2' ds) rfl (grownCap w m2 0 ee) hcap
    (.cells (vs.toArray++Builtin.zeroCells z.cells (grownCap w m2 0 ee-m2)) ee) (fun p' ver' _ hβ hγ hk=>by
    simp only[zrl];rw[hγ]
    refine⟨_,_,hβ,heap_alloc_new w.drew _,?_,vs,(Builtin.zeroCells z.cells (grownCap w m2 0 ee-m2)).toList,?_,AV.relV_mono hk _ _ hVjd,h1j⟩
    ·rw[Array.size_append,size_zero,hzc,List.size_toArray,hlv,← Nat.add_mul]
     congr 1;omega
    ·simp only[Array.toList_append])
   refine⟨_,_,_,_,go (by rw[hv,hvj];exact hrun),.inl rfl,trivial,by rw[zro];exact hn,?_⟩
   rw[zro]
   simp only[AV.rel,vers,zus];exact⟨Nat.le_refl _,fun _=>.inr ⟨_,_,rfl,by simp;rfl,by simpa using hge,fun _=>by simp⟩⟩
  ·exact hp.elim
 ·exact hp.elim
variable {Q:Exit→AS→Prop}{ops:Array Oper}
end
end Go.Oc

namespace Go.Oc
open Go Go.RowKit
def fam (f:Nat→RowC):Nat→List (Nat × RowC)
 | 0=>[]
 | n+1=>fam f n++[(n+600,f n)]
def xlit (P:Program) (o:Oper) (K:AS→Prop) (s:AS):Prop :=
 match o.op,o.dst with
 | .buildSlice t n ps,some d=>aR s (some d) (sLitBox P s d t n (ps.toList.map fun (i,x)=>(i,s.ev x))) K
 | _,_=>False
def xappB (P:Program) (o:Oper) (K:AS→Prop) (s:AS):Prop :=
 match o.op,o.dst with
 | .call ⟨.builtin .append,⟨[x,y]⟩,⟨[t,t']⟩⟩,some d=>aR s (some d) (sAppB P s d t t' (s.ev x) (s.ev y)) K
 | _,_=>False
def xopL (P:Program) (o:Oper) (K:AS→Prop) (s:AS):Prop:=xop P false o K s∨xlit P o K s∨xappB P o K s
section
variable {P:Program}{C:Ctx}{s:AS}
theorem xopL_sound {p:Plan}{a:Act}{w:World}{o:Oper}{KA:AS→Prop}(hp:SR C p s a w) (h:xopL P o KA s) (hd0:∀ t,o.dst=some t→t<s.n) {K:Act→World→Prop}{Q:Exit→Act→World→Prop}
 (hK:∀ a' w' p' s',SR C p' s' a' w'→s'.n=s.n→KA s'→K a' w') (hnd:∀ c,o.op ≠ .defer c):o.wpIn (fnc C.rd) 0 P a w K Q:=by
 rcases h with h|h|h
 ·exact xop_sound hp h hd0 hK hnd
 ·unfold xlit at h
  split at h
  ·rename_i t n ps d ho hd
   refine wpIn_of_wp hnd ?_
   have hg:=good_litBox (P:=P) (o:=o) hp ho (by rw[hd];exact h.1)
   rw[hd] at hg
   obtain⟨nx,v,w',p',hrun,hnx,hass,hSR,hrel⟩:=hg
   unfold Oper.wp
   rw[hrun]
   have hput:=hSR.put' (d:=some d) hrel (fun t ht=>by injection ht with ht;subst ht;exact hd0 _ hd)
   rcases hnx with rfl|⟨rfl,rfl⟩
   ·show K (a.put o.dst v) w'
    rw[hd]
    exact hK _ _ p' _ hput (app_n _ _ _) (h.2 hass)
   ·show K (a.put o.dst undef) w'
    rw[hd]
    exact hK _ _ p' _ hput (app_n _ _ _) (h.2 hass)
  ·exact h.elim
 ·unfold xappB at h
  split at h
  ·rename_i x y t t' d ho hd
   refine wpIn_of_wp hnd ?_
   have hg:=good_appB (P:=P) (o:=o) hp ho (by rw[hd];exact h.1)
   rw[hd] at hg
   obtain⟨nx,v,w',p',hrun,hnx,hass,hSR,hrel⟩:=hg
   unfold Oper.wp
   rw[hrun]
   have hput:=hSR.put' (d:=some d) hrel (fun t ht=>by injection ht with ht;subst ht;exact hd0 _ hd)
   rcases hnx with rfl|⟨rfl,rfl⟩
   ·show K (a.put o.dst v) w'
    rw[hd]
    exact hK _ _ p' _ hput (app_n _ _ _) (h.2 hass)
   ·show K (a.put o.dst undef) w'
    rw[hd]
    exact hK _ _ p' _ hput (app_n _ _ _) (h.2 hass)
  ·exact h.elim
end
section
variable {P:Program}{C:Ctx}{s:AS}{a:Act}{w:World}{ops:Array Oper}
end
end Go.Oc

namespace Go.Oc
open Go Go.RowKit
def YCalls (P:Program) (F:FuncId) (args:Nat→List RV) (xs:List (List RV)):Prop :=
 callable P F=true∧∀ (rest:List (List RV)) (w:World) (R:Nat→Prop) (vs:Array Value) (X:XS) (Ψ Θ:Nat→Prop),(∀ b,R b→b<w.heap.size)→RV.relV w R (args X.l) vs.toList→X.z=false→(∀ b,R b→X.R b∨X.n0≤b)→X.n0≤w.heap.size→YOk P X →
  (∀ b,Ψ b→b<w.heap.size)→(∀ b,Θ b→b<w.heap.size)→(∀ b,R b→¬ Θ b)→X.X (some (xs++rest)) w Ψ Θ →
  Calls P F vs w fun e w'=>w'.os=w.os∧w'.tape=w.tape∧w'.output=w.output∧w.heap.size≤w'.heap.size∧(∀ b,b<w.heap.size→¬ Θ b→w'.heap[b]? = w.heap[b]?) ∧
   ∃ Ψ' Θ':Nat→Prop,(∀ b,Ψ' b→Ψ b∨R b∨w.heap.size≤b)∧(∀ b,Θ' b→Θ b∨w.heap.size≤b)∧(∀ b,Ψ' b→b<w'.heap.size)∧(∀ b,Θ' b→b<w'.heap.size) ∧
   ((e = .returned (.bool true)∧X.X (some rest) w' Ψ' Θ')∨(e = .returned (.bool false)∧X.X none w' Ψ' Θ'))
def XS.since (X:XS) (n:Nat) (R Ψ0 Θ0:Nat→Prop):XS where
 l:=X.l
 z:=X.z
 n0:=n
 R:=R
 X:=fun o w Ψ Θ=>X.X o w Ψ Θ∧n≤w.heap.size∧(∀ b,Ψ b→Ψ0 b∨R b∨n≤b)∧∀ b,Θ b→Θ0 b∨n≤b
 st:=fun h h1 h2 h3 h4 h5=>⟨X.st h.1 h1 h2 h3 h4 h5,Nat.le_trans h.2.1 h4,h.2.2⟩
theorem YOk.since {P:Program}{X:XS}(hY:YOk P X) {n:Nat}{R Ψ0 Θ0:Nat→Prop}(hR:∀ b,R b→X.R b∨X.n0≤b) (hn:X.n0≤n):YOk P (X.since n R Ψ0 Θ0):=by
 intro e rest w Ψ Θ R' vs hX hR' hV
 obtain⟨hX1,hX2,hX3,hX4⟩:=hX
 obtain⟨fn,tmps,assign,body,hrun,hround⟩:=hY e rest w Ψ Θ R' vs hX1 (fun b hb=>by
  obtain⟨g1,g2,g3⟩:=hR' b hb
  refine⟨g1,g2,?_⟩
  rcases g3 with g|g
  ·exact hR b g
  ·exact .inr (Nat.le_trans hn g)) hV
 refine⟨fn,tmps,assign,body,hrun,hround.mono ?_⟩
 rintro en w' ⟨g1,g2,g3,g4,g5,Ψ',Θ',g6,g7,g8,g9,g10⟩
 have a1:∀ b,Ψ' b→Ψ0 b∨R b∨n≤b:=fun b hb=>by
  rcases g6 b hb with g|g|g
  ·exact hX3 b g
  ·rcases (hR' b g).2.2 with q|q
   ·exact .inr (.inl q)
   ·exact .inr (.inr q)
  ·exact .inr (.inr (Nat.le_trans hX2 g))
 have a2:∀ b,Θ' b→Θ0 b∨n≤b:=fun b hb=>by
  rcases g7 b hb with g|g
  ·exact hX4 b g
  ·exact .inr (Nat.le_trans hX2 g)
 refine⟨g1,g2,g3,g4,g5,Ψ',Θ',g6,g7,g8,g9,?_⟩
 rcases g10 with⟨rfl,g⟩|⟨rfl,g⟩
 ·exact .inl ⟨rfl,g,Nat.le_trans hX2 g4,a1,a2⟩
 ·exact .inr ⟨rfl,g,Nat.le_trans hX2 g4,a1,a2⟩
section
variable {P:Program}{C:Ctx}{s:AS}{Q:Exit→AS→Prop}{ops:Array Oper}
end
section
variable {n:Nat}{l:List (Nat × AV)}{vs:Nat→Nat}{cs:List (Nat × RowC)}
theorem row999_st {c:RowC}:(st n l vs cs).row 999 ⟨((st n l vs cs).rows 999).ver,c⟩=st n l vs (insc cs 999 c):=by
 rw[row_st]
 congr 1
 funext k
 unfold upd
 split
 ·rename_i e;subst e;rfl
 ·rfl
end
end Go.Oc

namespace Go.Oc
open Go Go.RowKit
section
variable {P:Program}{C:Ctx}{p p1 p3:Plan}{s s1 s3:AS}{a a1 a3:Act}{w w1 w2 w3:World}{L:Nat}{R:Nat→Prop}
def ghAt (P:Program) (s:AS):Prop:=∃ l o,(s.rows 999).c = .gh P l false o
def ownY (C:Ctx) (p:Plan) (b:Nat):Prop:=∃ k,p.β k=some b∧¬ (1000≤k∧C.bor b)
def sinceY (C:Ctx) (p:Plan) (R:Nat→Prop) (n:Nat):XS:=C.X.since n (fun b=>p.R b∨R b∨ownY C p b) p.Ψ p.Θ
def CinY (C:Ctx) (p:Plan) (R:Nat→Prop) (w:World) (rd:Option Nat) (Hd:Nat→Prop):Ctx :=
 { w0:=w,R0:=fun b=>p.R b∨R b,bor:=fun b=>(C.bor b∧∃ k,1000≤k∧p.β k=some b)∨p.Θ b,pin:=C.pin,own:=ownY C p,X:=sinceY C p R w.heap.size,rd:=rd,hd:=Hd }
def planY (C:Ctx) (p:Plan) (R:Nat→Prop) (n:Nat):Plan:={ p with R:=fun b=>p.R b∨R b,X:=sinceY C p R n }
theorem SR.gh_of (h:SR C p s a w) {l:Nat}{o:Option (List (List RV))}(hg:(s.rows 999).c = .gh P l false o):C.X.l=l∧C.X.z=false∧YOk P C.X∧C.X.X o w p.Ψ p.Θ∧p.β 999=none∧p.γ 999=1:=by
 have hr:=h.rw 999
 rw[hg] at hr
 simp only[zrl] at hr
 rw[h.ex.px] at hr
 exact⟨hr.2.2.2.1,hr.2.2.2.2.1,hr.2.2.2.2.2.1,hr.2.2.2.2.2.2,hr.2.1,hr.2.2.1⟩
theorem SR.yr (h:SR C p s a w) (hz:C.X.z=false) {b:Nat}(hb:p.R b):C.X.R b∨C.X.n0≤b:=by
 rcases h.rn b hb with g|g|g
 ·exact .inl (h.ex.ψ0 hz b g)
 ·exact .inr (Nat.le_trans h.ex.n0 g)
 ·exact h.ex.ψo b g
theorem SR.yo (h:SR C p s a w) {b:Nat}(hb:ownY C p b):C.X.R b∨C.X.n0≤b:=by
 obtain⟨k,h1,h2⟩:=hb
 rcases (h.bl k b h1).2.2 with g|g|g
 ·exact .inr (Nat.le_trans h.ex.n0 g)
 ·exact (h2 g).elim
 ·exact h.ex.ψo b g
theorem SR.intoY (h:SR C p s a w) (hg:ghAt P s) (hos:w2.os=w.os) (htape:w2.tape=w.tape) (hout:w2.output=w.output) (hsize:w2.heap.size=w.heap.size) (hoth:∀ b,b≠L→w2.heap[b]? = w.heap[b]?)
 (hLR:¬ p.R L) (hLβ:∀ k,p.β k≠some L) (hLΨ:¬ p.Ψ L) (hR:∀ b,R b→b<w.heap.size∧(∀ k,p.β k≠some b)∧¬ p.Θ b∧(C.X.R b∨C.X.n0≤b)) {a':Act}{tm':Nat→AV}(htm:∀ t,(tm' t).rel w2 (planY C p R w2.heap.size) s.ver (a'.tmps.getD t undef))
 (hsz:a'.tmps.size=s.n) (hdf:a'.defers=[]) {rd:Option Nat}{Hd:Nat→Prop}(hHd:∀ b,Hd b→b<w.heap.size∧¬ C.bor b∧¬ p.R b∧¬ R b∧(∀ k,p.β k≠some b)∧¬ p.Ψ b∧¬ p.Θ b) :
 SR (CinY C p R w2 rd Hd) (planY C p R w2.heap.size) { s with tm:=tm' } a' w2:=by
 obtain⟨l,o,hg⟩:=hg
 obtain⟨g1,g2,g3,g4,g5,g6⟩:=h.gh_of hg
 have hk:Kept w w2 p (planY C p R w2.heap.size) s.ver s.ver :=
  ⟨fun _ h=>.inl h,fun ad hr=>World.cell?_of_block (hoth _ fun e=>hLR (e▸hr)),fun _=>Nat.le_refl _,fun _ _=>⟨rfl,rfl⟩⟩
 have hX2:C.X.X o w2 p.Ψ p.Θ:=C.X.st g4 hos htape hout (Nat.le_of_eq hsize.symm) (fun b hb=>hoth b fun e=>hLΨ (e▸hb))
 have hX3:(sinceY C p R w2.heap.size).X o w2 p.Ψ p.Θ:=⟨hX2,Nat.le_refl _,fun b h=>.inl h,fun b h=>.inl h⟩
 exact {
  base:=⟨rfl,rfl,rfl,Nat.le_refl _,fun _ _ _ _=>rfl⟩
  r0:=fun _ h=>h
  rn:=fun _ h=>.inl h
  rb:=fun b hb=>by rw[hsize];exact hb.elim (h.rb b) (fun hb=>(hR b hb).1)
  tm:=htm
  sz:=hsz
  ex:={
   px:=rfl
   n0:=Nat.le_refl _
   ψ0:=fun _ b hb=>hb.elim .inl fun hb=>.inr (.inl hb)
   ψl:=fun b hb=>by rw[hsize];exact h.ex.ψl b hb
   θl:=fun b hb=>by rw[hsize];exact h.ex.θl b hb
   ψb:=h.ex.ψb
   ψr:=fun b hb=>hb.elim (h.ex.ψr b) fun hb=>(hR b hb).2.2.1
   ψo:=fun b hb=>.inl (.inr (.inr hb))
   θo:=fun b hb _=>.inr hb
   bo:=fun b hb=>by
    show b<w2.heap.size
    rw[hsize]
    rcases hb with (⟨_,k,_,hk⟩|hb)|⟨k,hk,_⟩
    ·exact (h.bl k b hk).1
    ·exact h.ex.θl b hb
    ·exact (h.bl k b hk).1
   ψn:=fun hn=>(hn _ _ _ _ hX3).elim
   hd:=fun b hb=>by
    obtain⟨g1,g2,g3,g4,g5,g6,g7⟩:=hHd b hb
    exact⟨by show b<w2.heap.size;rw[hsize];exact g1,fun g=>g.elim (fun g=>g2 g.1) g7,fun ⟨k,g,_⟩=>g5 k g,by rw[hsize];exact g1,fun g=>g.elim g3 g4,g6,g7,g5⟩
   rm:=fun _=>hdf
   df:=⟨[],hdf,List.nodup_nil,fun D hD=>by cases hD⟩ }
  rw:=fun k=>by
   by_cases e:k=999
   ·subst e
    show zrl w2 _ s.ver 999 (s.rows 999).c
    rw[hg]
    simp only[zrl]
    refine⟨trivial,g5,g6,g1,g2,?_,hX3⟩
    refine g3.since (fun b hb=>?_) (Nat.le_trans h.ex.n0 (by rw[hsize];exact h.base.size))
    rcases hb with hb|hb|hb
    ·exact h.yr g2 hb
    ·exact (hR b hb).2.2.2
    ·exact h.yo hb
   ·exact rowRel_mono hk (.inl e) rfl rfl (fun b hb=>hoth b fun e=>hLβ k (e▸hb)) _ (fun km _ _ _ _ _ b hb=>hoth b fun e=>hLβ km (e▸hb)) (h.rw k)
  bl:=fun k b hb=>⟨by rw[hsize];exact (h.bl k b hb).1,fun hr=>hr.elim (h.bl k b hb).2.1 (fun hr=>(hR b hr).2.1 k hb),.inr (by
   by_cases e:1000≤k∧C.bor b
   ·exact .inl ⟨e.1,.inl ⟨e.2,k,e.1,hb⟩⟩
   ·exact .inr ⟨k,hb,e⟩)⟩
  ij:=h.ij
  cap:=h.cap
  pn:=h.pn
  lk:=h.lk }
structure HopY (C:Ctx) (p:Plan) (w:World) (L:Nat) (R:Nat→Prop) (p3:Plan) (w3:World):Prop where
 os:w3.os=w.os
 tape:w3.tape=w.tape
 output:w3.output=w.output
 size:w.heap.size≤w3.heap.size
 heap:∀ b,b<w.heap.size→(∀ k,p.β k≠some b)→¬ p.Θ b→b≠L→w3.heap[b]? = w.heap[b]?
 r:∀ b,p.R b→p3.R b
 rn:∀ b,p3.R b→p.R b∨R b∨w.heap.size≤b∨ownY C p b
 bl:∀ k b,p3.β k=some b→w.heap.size≤b∨(1000≤k∧C.bor b∧∃ k,1000≤k∧p.β k=some b)∨(1000≤k∧p.Θ b)∨ownY C p b
 psi:∀ b,p3.Ψ b→p.Ψ b∨p.R b∨R b∨ownY C p b∨w.heap.size≤b
 theta:∀ b,p3.Θ b→p.Θ b∨w.heap.size≤b
theorem HopY.of (hos:w2.os=w.os) (htape:w2.tape=w.tape) (hout:w2.output=w.output) (hsize:w2.heap.size=w.heap.size) (hoth:∀ b,b≠L→w2.heap[b]? = w.heap[b]?) {rd:Option Nat}{Hd:Nat→Prop}
 (h:SR (CinY C p R w2 rd Hd) p3 s3 a3 w3) (hg:ghAt P s3):HopY C p w L R p3 w3:=by
 obtain⟨l,o,hg⟩:=hg
 obtain⟨_,_,_,g4,_,_⟩:=h.gh_of hg
 obtain⟨_,g5,g6,g7⟩:=g4
 exact {
  os:=h.base.os.trans hos
  tape:=h.base.tape.trans htape
  output:=h.base.output.trans hout
  size:=hsize▸h.base.size
  heap:=fun b hb hn ht hl=>(h.base.block b (by show b<w2.heap.size;rw[hsize];exact hb) (fun g=>g.elim (fun ⟨_,k,_,hk⟩=>hn k hk) ht) (fun ⟨k,hk,_⟩=>hn k hk)).trans (hoth b hl)
  r:=fun b hb=>h.r0 b (.inl hb)
  rn:=fun b hb=>by
   rcases h.rn b hb with g|g|g
   ·exact g.elim .inl (fun g=>.inr (.inl g))
   ·exact .inr (.inr (.inl (by rw[← hsize];exact g)))
   ·exact .inr (.inr (.inr g))
  bl:=fun k b hb=>by
   rcases (h.bl k b hb).2.2 with g|⟨g1,⟨g2,k',g3,g4⟩|g2⟩|g
   ·exact .inl (by rw[← hsize];exact g)
   ·exact .inr (.inl ⟨g1,g2,k',g3,g4⟩)
   ·exact .inr (.inr (.inl ⟨g1,g2⟩))
   ·exact .inr (.inr (.inr g))
  psi:=fun b hb=>by
   rcases g6 b hb with g|g|g
   ·exact .inl g
   ·rcases g with g|g|g
    ·exact .inr (.inl g)
    ·exact .inr (.inr (.inl g))
    ·exact .inr (.inr (.inr (.inl g)))
   ·exact .inr (.inr (.inr (.inr (by rw[← hsize];exact g))))
  theta:=fun b hb=>by
   rcases g7 b hb with g|g
   ·exact .inl g
   ·exact .inr (by rw[← hsize];exact g) }
theorem HopY.trans (h:HopY C p w L R p1 w1) {C':Ctx}(hCb:∀ b,C'.bor b↔(C.bor b∧∃ k,1000≤k∧p.β k=some b)∨p.Θ b) (h':HopY C' p1 w1 L (fun _=>False) p3 w3):HopY C p w L R p3 w3:=by
 have hown:∀ b,ownY C' p1 b→w.heap.size≤b∨ownY C p b:=fun b ⟨k,g1,g2⟩=>by
  rcases h.bl k b g1 with g|⟨g3,g4,g5⟩|⟨g3,g4⟩|g
  ·exact .inl g
  ·exact (g2 ⟨g3,(hCb b).2 (.inl ⟨g4,g5⟩)⟩).elim
  ·exact (g2 ⟨g3,(hCb b).2 (.inr g4)⟩).elim
  ·exact .inr g
 exact {
  os:=h'.os.trans h.os
  tape:=h'.tape.trans h.tape
  output:=h'.output.trans h.output
  size:=Nat.le_trans h.size h'.size
  heap:=fun b hb hn ht hl=>by
   refine (h'.heap b (Nat.lt_of_lt_of_le hb h.size) (fun k hk=>?_) (fun g=>?_) hl).trans (h.heap b hb hn ht hl)
   ·rcases h.bl k b hk with g|⟨_,_,k',_,g⟩|⟨_,g⟩|⟨k',g,_⟩
    ·omega
    ·exact hn k' g
    ·exact ht g
    ·exact hn k' g
   ·rcases h.theta b g with g|g
    ·exact ht g
    ·omega
  r:=fun b hb=>h'.r b (h.r b hb)
  rn:=fun b hb=>by
   rcases h'.rn b hb with g|g|g|g
   ·exact h.rn b g
   ·exact g.elim
   ·exact .inr (.inr (.inl (Nat.le_trans h.size g)))
   ·rcases hown b g with q|q
    ·exact .inr (.inr (.inl q))
    ·exact .inr (.inr (.inr q))
  bl:=fun k b hb=>by
   rcases h'.bl k b hb with g|⟨g1,g2,_⟩|⟨g1,g2⟩|g
   ·exact .inl (Nat.le_trans h.size g)
   ·rcases (hCb b).1 g2 with q|q
    ·exact .inr (.inl ⟨g1,q⟩)
    ·exact .inr (.inr (.inl ⟨g1,q⟩))
   ·rcases h.theta b g2 with q|q
    ·exact .inr (.inr (.inl ⟨g1,q⟩))
    ·exact .inl q
   ·rcases hown b g with q|q
    ·exact .inl q
    ·exact .inr (.inr (.inr q))
  psi:=fun b hb=>by
   rcases h'.psi b hb with g|g|g|g|g
   ·exact h.psi b g
   ·rcases h.rn b g with q|q|q|q
    ·exact .inr (.inl q)
    ·exact .inr (.inr (.inl q))
    ·exact .inr (.inr (.inr (.inr q)))
    ·exact .inr (.inr (.inr (.inl q)))
   ·exact g.elim
   ·rcases hown b g with q|q
    ·exact .inr (.inr (.inr (.inr q)))
    ·exact .inr (.inr (.inr (.inl q)))
   ·exact .inr (.inr (.inr (.inr (Nat.le_trans h.size g))))
  theta:=fun b hb=>by
   rcases h'.theta b hb with g|g
   ·exact h.theta b g
   ·exact .inr (Nat.le_trans h.size g) }
theorem HopY.put (h:HopY C p w L R p3 w3) {o:Obj}:HopY C p w L R p3 (w3.putObj L o) where
 os:=h.os
 tape:=h.tape
 output:=h.output
 size:=by rw[World.putObj_size];exact h.size
 heap:=fun b hb hn ht hl=>(World.putObj_heap_other hl).trans (h.heap b hb hn ht hl)
 r:=h.r
 rn:=h.rn
 bl:=h.bl
 psi:=h.psi
 theta:=h.theta
theorem SR.landY (h0:SR C p s a w) (hg0:ghAt P s) (hL0:C.w0.heap.size≤L) (hLm:∀ d∈a.defers,d.target ≠ .collected L) (hop:HopY C p w L R p3 w3)
 (hR:∀ b,R b→b<w.heap.size∧(∀ d∈a.defers,d.target ≠ .collected b)∧¬ C.hd b∧(C.R0 b∨C.w0.heap.size≤b∨C.own b)) {C':Ctx}(hpin:C'.pin=C.pin) (hXX:∀ o w Ψ Θ,C'.X.X o w Ψ Θ→C.X.X o w Ψ Θ) (h3:SR C' p3 s3 a3 w2) (hg3:ghAt P s3)
 (hLR:¬ p3.R L) (hLβ:∀ k,p3.β k≠some L) (hLΨ:¬ p3.Ψ L) (hXl:C'.X.l=C.X.l)
 (hos:w3.os=w2.os) (htape:w3.tape=w2.tape) (hout:w3.output=w2.output) (hsize:w3.heap.size=w2.heap.size) (hoth:∀ b,b≠L→w3.heap[b]? = w2.heap[b]?) :
 SR C { p3 with X:=C.X } { n:=s.n,tm:=fun _=>.r .un,rows:=s3.rows } a w3:=by
 obtain⟨l0,o0,hg0⟩:=hg0
 obtain⟨f1,f2,f3,f4,f5,f6⟩:=h0.gh_of hg0
 obtain⟨l3,o3,hg3⟩:=hg3
 obtain⟨e1,e2,e3,e4,e5,e6⟩:=h3.gh_of hg3
 have hX3:C.X.X o3 w3 p3.Ψ p3.Θ:=C.X.st (hXX _ _ _ _ e4) hos htape hout (Nat.le_of_eq hsize.symm) (fun b hb=>hoth b fun e=>hLΨ (e▸hb))
 have hk:Kept w2 w3 p3 { p3 with X:=C.X } s3.ver s3.ver:=⟨fun _ h=>h,fun ad hr=>World.cell?_of_block (hoth _ fun e=>hLR (e▸hr)),fun _=>Nat.le_refl _,fun _ _=>⟨rfl,rfl⟩⟩
 have hβC:∀ k b,p3.β k=some b→C.w0.heap.size≤b∨(1000≤k∧C.bor b)∨C.own b:=fun k b hb=>by
  rcases hop.bl k b hb with g|⟨g1,g2,_⟩|⟨g1,g2⟩|⟨k',g1,g2⟩
  ·exact .inl (Nat.le_trans h0.base.size g)
  ·exact .inr (.inl ⟨g1,g2⟩)
  ·by_cases hlt:b<C.w0.heap.size
   ·exact .inr (.inl ⟨g1,h0.ex.θo b g2 hlt⟩)
   ·exact .inl (Nat.le_of_not_lt hlt)
  ·rcases (h0.bl k' b g1).2.2 with q|q|q
   ·exact .inl q
   ·exact (g2 q).elim
   ·exact .inr (.inr q)
 have hout':∀ b,b<w.heap.size→(∀ k,p.β k≠some b)→¬ p.Θ b→∀ k,p3.β k≠some b:=fun b hb hn ht k hk=>by
  rcases hop.bl k b hk with g|⟨_,_,k',_,g⟩|⟨_,g⟩|⟨k',g1,_⟩
  ·omega
  ·exact hn k' g
  ·exact ht g
  ·exact hn k' g1
 exact {
  base:=⟨hop.os.trans h0.base.os,hop.tape.trans h0.base.tape,hop.output.trans h0.base.output,Nat.le_trans h0.base.size hop.size,fun b hb hbor hown=>by
   refine (hop.heap b (Nat.lt_of_lt_of_le hb h0.base.size) (fun k hk=>?_) (fun g=>hbor (h0.ex.θo b g hb)) (fun e=>by omega)).trans (h0.base.block b hb hbor hown)
   rcases (h0.bl k b hk).2.2 with g|g|g
   ·omega
   ·exact hbor g.2
   ·exact hown g⟩
  r0:=fun b hb=>hop.r b (h0.r0 b hb)
  rn:=fun b hb=>by
   rcases hop.rn b hb with g|g|g|⟨k,g1,g2⟩
   ·exact h0.rn b g
   ·exact (hR b g).2.2.2
   ·exact .inr (.inl (Nat.le_trans h0.base.size g))
   ·rcases (h0.bl k b g1).2.2 with q|q|q
    ·exact .inr (.inl q)
    ·exact (g2 q).elim
    ·exact .inr (.inr q)
  rb:=fun b hb=>hsize▸h3.rb b hb
  tm:=fun t=>AV.rel_un _ _ _ _
  sz:=h0.sz
  ex:={
   px:=rfl
   n0:=h0.ex.n0
   ψ0:=h0.ex.ψ0
   ψl:=fun b hb=>hsize▸h3.ex.ψl b hb
   θl:=fun b hb=>hsize▸h3.ex.θl b hb
   ψb:=h3.ex.ψb
   ψr:=h3.ex.ψr
   ψo:=h0.ex.ψo
   θo:=fun b hb hlt=>by
    rcases hop.theta b hb with g|g
    ·exact h0.ex.θo b g hlt
    ·have:=h0.base.size;omega
   bo:=h0.ex.bo
   ψn:=fun hn=>(hn _ _ _ _ hX3).elim
   hd:=fun b hb=>by
    obtain⟨k1,k2,k3,k4,k5,k6,k7,k8⟩:=h0.ex.hd b hb
    refine⟨k1,k2,k3,Nat.lt_of_lt_of_le k4 hop.size,fun g=>?_,fun g=>?_,fun g=>?_,hout' b k4 k8 k7⟩
    ·rcases hop.rn b g with g|g|g|⟨k,g,_⟩
     ·exact k5 g
     ·exact (hR b g).2.2.1 hb
     ·omega
     ·exact k8 k g
    ·rcases hop.psi b g with g|g|g|⟨k,g,_⟩|g
     ·exact k6 g
     ·exact k5 g
     ·exact (hR b g).2.2.1 hb
     ·exact k8 k g
     ·omega
    ·rcases hop.theta b g with g|g
     ·exact k7 g
     ·omega
   rm:=h0.ex.rm
   df:=by
    obtain⟨Ds,g1,g2,g3⟩:=h0.ex.df
    refine⟨Ds,g1,g2,fun D hD=>?_⟩
    have hmem:({ target:=.collected D,args:=#[] }:Deferred)∈a.defers:=by rw[g1];exact List.mem_map.2 ⟨D,hD,rfl⟩
    obtain⟨k1,k2,k3,k4,k5,k6⟩:=g3 D hD
    have hlt:D<w.heap.size:=(Array.getElem?_eq_some_iff.1 k1).1
    refine⟨(hop.heap D hlt k4 k6 fun e=>hLm _ hmem (by rw[e])).trans k1,k2,fun g=>?_,hout' D hlt k4 k6,fun g=>?_,fun g=>?_⟩
    ·rcases hop.rn D g with g|g|g|⟨k,g,_⟩
     ·exact k3 g
     ·exact (hR D g).2.1 _ hmem rfl
     ·omega
     ·exact k4 k g
    ·rcases hop.psi D g with g|g|g|⟨k,g,_⟩|g
     ·exact k5 g
     ·exact k3 g
     ·exact (hR D g).2.1 _ hmem rfl
     ·exact k4 k g
     ·omega
    ·rcases hop.theta D g with g|g
     ·exact k6 g
     ·omega }
  rw:=fun k=>by
   by_cases e:k=999
   ·subst e
    show zrl w3 _ s3.ver 999 (s3.rows 999).c
    rw[hg3]
    simp only[zrl];exact⟨trivial,e5,e6,hXl.symm.trans e1,f2,f3,hX3⟩
   ·exact rowRel_mono hk (.inl e) rfl rfl (fun b hb=>hoth b fun e=>hLβ k (e▸hb)) _ (fun km _ _ _ _ _ b hb=>hoth b fun e=>hLβ km (e▸hb)) (h3.rw k)
  bl:=fun k b hb=>⟨by rw[hsize];exact (h3.bl k b hb).1,(h3.bl k b hb).2.1,hβC k b hb⟩
  ij:=h3.ij
  cap:=h3.cap
  pn:=fun k x hx=>h3.pn k x (by rw[hpin];exact hx)
  lk:=h3.lk }
def rpostY (P:Program) (n:Nat) (I:List (List RV)→List Value→AS→Prop) (J:Code→List Value→AS→Prop) (rest:List (List RV)) (us:List Value):Exit→AS→Prop
 | .normal,s=>∃ s4,Sub s s4∧ghAt P s4∧I rest us ⟨n,look [],s4.rows⟩
 | .ret,s=>∃ s4,Sub s s4∧ghAt P s4∧J .ret us ⟨n,look [],s4.rows⟩
 | .exit id,s=>∃ s4,Sub s s4∧ghAt P s4∧J (.exit id) us ⟨n,look [],s4.rows⟩
 | _,_=>False
def XJY (P:Program) (C:Ctx) (aL:Act) (L:Nat) (rec:LoopState→Option Code→Loop) (I:List (List RV)→AS→Prop) (J:Code→AS→Prop) (o:Option (List (List RV))) (w:World) (Ψ Θ:Nat→Prop):Prop :=
 ∃ p s, SR C p s aL w∧s.n=aL.tmps.size∧ghAt P s∧(match o with
   | some left=>I left s∧w.heap[L]? = some (.loop (rec .ready none))
   | none=>∃ c,J c s∧w.heap[L]? = some (.loop (rec .done (some c))))∧¬ p.R L∧(∀ k,p.β k≠some L)∧¬ p.Ψ L∧¬ p.Θ L ∧
   (∀ b,Ψ b↔p.R b∨(∃ k,p.β k=some b)∨(b<C.w0.heap.size∧¬ C.bor b∧¬ C.own b)∨b=L∨C.hd b∨(∃ d∈aL.defers,d.target = .collected b)∨p.Ψ b∨p.Θ b)∧(∀ b,Θ b↔(∃ k,p.β k=some b)∨b=L∨p.Θ b)
theorem XJY.st {aL:Act}{rec:LoopState→Option Code→Loop}{I:List (List RV)→AS→Prop}{J:Code→AS→Prop}{o:Option (List (List RV))}{w w':World}{Ψ Θ:Nat→Prop}(h:XJY P C aL L rec I J o w Ψ Θ)
 (hos:w'.os=w.os) (htape:w'.tape=w.tape) (hout:w'.output=w.output) (hsize:w.heap.size≤w'.heap.size) (hh:∀ b,Ψ b→w'.heap[b]? = w.heap[b]?):XJY P C aL L rec I J o w' Ψ Θ:=by
 obtain⟨p,s,hS,hsn,hg,ho,hLR,hLβ,hLΨ,hLΘ,hΨ,hΘ⟩:=h
 refine⟨p,s,hS.other rfl hos htape hout hsize (fun b hb hf=>hh b ((hΨ b).2 ?_)) ?_,hsn,hg,?_,hLR,hLβ,hLΨ,hLΘ,hΨ,hΘ⟩
 ·rcases hf with g|g|g|g
  ·exact .inl g
  ·exact .inr (.inl g)
  ·exact .inr (.inr (.inl g))
  ·exact .inr (.inr (.inr (.inr (.inr (.inr (.inl g))))))
 ·obtain⟨Ds,g1,g2,g3⟩:=hS.ex.df
  exact { hS.ex with
   ψl:=fun b hb=>Nat.lt_of_lt_of_le (hS.ex.ψl b hb) hsize
   θl:=fun b hb=>Nat.lt_of_lt_of_le (hS.ex.θl b hb) hsize
   hd:=fun b hb=>by
    obtain⟨k1,k2,k3,k4,k5⟩:=hS.ex.hd b hb
    exact⟨k1,k2,k3,Nat.lt_of_lt_of_le k4 hsize,k5⟩
   df:=⟨Ds,g1,g2,fun D hD=>by
    obtain⟨k1,k2⟩:=g3 D hD
    refine⟨(hh D ((hΨ D).2 (.inr (.inr (.inr (.inr (.inr (.inl ⟨{ target:=.collected D,args:=#[] },?_,rfl⟩)))))))).trans k1,k2⟩
    rw[g1];exact List.mem_map.2 ⟨D,hD,rfl⟩⟩ }
 ·have hL:=hh L ((hΨ L).2 (.inr (.inr (.inr (.inl rfl)))))
  cases o with
  | some left=>exact⟨ho.1,hL.trans ho.2⟩
  | none =>
    obtain⟨c,h1,h2⟩:=ho
    exact⟨c,h1,hL.trans h2⟩
theorem SR.turnY (h:SR C p s a w) {o:Obj}(hLR:¬ p.R L) (hLβ:∀ k,p.β k≠some L) (hL0:C.w0.heap.size≤L) (hLΨ:¬ p.Ψ L) (hLm:∀ d∈a.defers,d.target ≠ .collected L):SR C p s a (w.putObj L o):=by
 refine h.other rfl rfl rfl rfl (Nat.le_of_eq World.putObj_size.symm) (fun b _ hb=>putObj_other b fun e=>?_) ?_
 ·subst e
  rcases hb with g|⟨k,g⟩|g|g
  ·exact hLR g
  ·exact hLβ k g
  ·omega
  ·exact hLΨ g
 ·obtain⟨Ds,g1,g2,g3⟩:=h.ex.df
  exact { h.ex with
   ψl:=fun b hb=>by rw[World.putObj_size];exact h.ex.ψl b hb
   θl:=fun b hb=>by rw[World.putObj_size];exact h.ex.θl b hb
   hd:=fun b hb=>by rw[World.putObj_size];exact h.ex.hd b hb
   df:=⟨Ds,g1,g2,fun D hD=>by
    obtain⟨k1,k2⟩:=g3 D hD
    refine⟨(putObj_other D fun e=>hLm { target:=.collected D,args:=#[] } ?_ (by rw[e])).trans k1,k2⟩
    rw[g1];exact List.mem_map.2 ⟨D,hD,rfl⟩⟩ }
set_option maxHeartbeats 800000 in
theorem awp_rangeFuncY {g:Operand}{ps:Array Tmp}{assign body:Code}{Q:Exit→AS→Prop}(hrd:C.rd=none) (hgh:ghAt P s) {F:FuncId}{args:List RV}{xs:List (List RV)}{z:Bool}
 (hF:s.ev g = .r (.fn F args)) (hI:ICalls P z F args xs) (hdead:(s.rows 0).c = .dead) (ts:List Nat) (hps:∀ t∈ps.toList,t<s.n)
 (I:List (List RV)→List Value→AS→Prop) (J:Code→List Value→AS→Prop)
 (h0:∀ us,I xs us { n:=s.n,tm:=look [],rows:=upd s.rows 0 ⟨(s.rows 0).ver,.sus (ts.map s.tm) us⟩ })
 (round:∀ e rest us s',s'.n=s.n→I (e::rest) us s'→e.length=ps.size∧∃ avs,(s'.rows 0).c = .sus avs us∧∀ C,awp P C assign (fun x s2=>x = .normal∧ghAt P s2∧∀ C,awp P C body (rpostY P s.n I J rest us) s2) ⟨s.n,psA ps.toList e (look (ts.zip avs)),s'.rows⟩)
 (done:∀ us s',s'.n=s.n→I [] us s'→∃ avs,(s'.rows 0).c = .sus avs us∧Q .normal ⟨s.n,look (ts.zip avs),s'.rows⟩)
 (stop:∀ c us s',s'.n=s.n→J c us s'→∃ avs,(s'.rows 0).c = .sus avs us∧awp P C c Q ⟨s.n,look (ts.zip avs),s'.rows⟩):awp P C (.rangeFunc g ps assign body) Q s:=by
 rintro a w ⟨p,hS⟩
 have hF0:fnc C.rd=Fence.wide:=by rw[hrd];rfl
 rw[hF0]
 refine wpIn_rangeFunc fun fn _=>?_
 obtain⟨vsC,hgv,hcs0⟩:=callee_eval hS (f:=g) (F:=F) (cs:=args.map .r) (by rw[hF];rfl)
 obtain⟨rec,hrec⟩:∃ rec:LoopState→Option Code→Loop,rec=fun st pe=>{ state:=st,pending:=pe,fn,tmps:=a.tmps,params:=ps,assign,body,defers:=w.heap.size }:=⟨_,rfl⟩
 obtain⟨w1,hw1⟩:∃ w1,(w.alloc (.deferred (some []))).alloc (.loop (rec .ready none))=w1:=⟨_,rfl⟩
 obtain⟨L,hLdef⟩:∃ L,L=w.heap.size+1:=⟨_,rfl⟩
 obtain⟨aL,haL⟩:∃ aL:Act,aL={ tmps:=a.tmps,defers:={ target:=.collected w.heap.size,args:=#[] }::a.defers }:=⟨_,rfl⟩
 have hS1:SR C p s aL w1:=by rw[haL,← hw1];exact hS.enter hrd _
 have hsz1:w1.heap.size=w.heap.size+2:=by rw[← hw1];simp
 have hL1:w1.heap[L]? = some (.loop (rec .ready none)):=by
  rw[← hw1,hLdef];have:=World.alloc_heap_new (w.alloc (.deferred (some []))) (.loop (rec .ready none));rwa [World.size_alloc] at this
 have hLR:¬ p.R L:=fun h=>by have:=hS.rb L h;omega
 have hLβ:∀ k,p.β k≠some L:=fun k h=>by have:=(hS.bl k L h).1;omega
 have hLΨ:¬ p.Ψ L:=fun h=>by have:=hS.ex.ψl L h;omega
 have hLΘ:¬ p.Θ L:=fun h=>by have:=hS.ex.θl L h;omega
 have hL0:C.w0.heap.size≤L:=by have:=hS.base.size;omega
 have hLm:∀ d∈aL.defers,d.target ≠ .collected L:=fun d hd e=>by
  obtain⟨Ds,g1,_,g3⟩:=hS1.ex.df
  rw[g1] at hd
  obtain⟨D,hD,rfl⟩:=List.mem_map.1 hd
  injection e with e
  subst e
  have:=(g3 _ hD).1
  rw[hL1] at this;cases this
 obtain⟨us,hus⟩:∃ us,us=ts.map fun t=>aL.tmps.getD t undef:=⟨_,rfl⟩
 have hgh1:ghAt P ({ n:=s.n,tm:=fun _=>.r .un,rows:=upd s.rows 0 ⟨(s.rows 0).ver,.sus (ts.map s.tm) us⟩ }:AS):=by
  obtain⟨l,o,hg⟩:=hgh
  refine⟨l,o,?_⟩
  show (upd s.rows 0 ⟨(s.rows 0).ver,.sus (ts.map s.tm) us⟩ 999).c=_
  rw[zuo _ _ (by decide)];exact hg
 have hz0:C.X.z=false:=by obtain⟨l,o,hg⟩:=hgh;exact (hS.gh_of hg).2.1
 have hS2:=hS1.wait hdead ts
 rw[← hus,← look_nil'] at hS2
 rw[← look_nil'] at hgh1
 have htmps:aL.tmps=a.tmps:=by rw[haL]
 have hsn:s.n=aL.tmps.size:=by rw[htmps];exact hS.sz.symm
 let X:XS:={ l:=L,z:=z,n0:=w1.heap.size,R:=p.R,X:=XJY P C aL L rec (fun left s'=>I left us s') (fun c s'=>J c us s'),st:=XJY.st }
 have hcap:RV.relV w1 p.R args vsC.toList:=by
  have hk:Kept w w1 p p s.ver s.ver:=⟨fun _ h=>h,fun ad hr=>World.cell?_of_block (by rw[← hw1];exact (Below.heap_alloc _ _ _ (by have:=hS.rb _ hr;simp;omega)).trans (Below.heap_alloc _ _ _ (hS.rb _ hr))),fun _=>Nat.le_refl _,fun _ _=>⟨rfl,rfl⟩⟩
  have hV:=AV.relV_mono hk _ _ hcs0
  have hp:AV.pureL (args.map .r)=true:=by clear hI hF hV hcs0;induction args with|nil=>rfl|cons c cs ih=>simpa [AV.pureL,AV.pure] using ih
  have h1:=pure_relV (rows:=fun _=>⟨0,.dead⟩) _ _ hp hV
  rw[snapVL_ro] at h1
  exact h1
 have hY:YOk P X:=by
  intro e rest wv Ψ Θ R vs hX hR hV
  obtain⟨pv,sv,hSv,hsnv,hgv',⟨hIv,hLv⟩,hLRv,hLβv,hLΨv,hLΘv,hΨv,hΘv⟩:=hX
  obtain⟨hlen,avs,hrow,hround⟩:=round e rest us sv (hsnv.trans hsn.symm) hIv
  have hvs:vs.size=ps.size:=by have:=RV.relV_length hV;simp only[Array.length_toList] at this;omega
  have hltv:L<wv.heap.size:=(Array.getElem?_eq_some_iff.1 hLv).1
  have hy:=run_yield (P:=P) (args:=vs) hLv (by rw[hrec];exact hvs)
  rw[hrec] at hy
  refine⟨fn,_,assign,body,hy,?_⟩
  have hRY:∀ b,R b→b<wv.heap.size∧(∀ k,pv.β k≠some b)∧¬ pv.Θ b∧(C.X.R b∨C.X.n0≤b):=fun b hb=>by
   refine⟨(hR b hb).1,fun k hk=>(hR b hb).2.1 ((hΘv b).2 (.inl ⟨k,hk⟩)),fun h=>(hR b hb).2.1 ((hΘv b).2 (.inr (.inr h))),?_⟩
   rcases (hR b hb).2.2 with q|q
   ·exact hS.yr hz0 q
   ·have q':w1.heap.size≤b:=q
    have:=hS.ex.n0
    have:=hS.base.size
    exact .inr (by omega)
  have hRL:¬ R L:=fun hb=>(hR L hb).2.1 ((hΘv L).2 (.inr (.inl rfl)))
  have hkv:Kept wv wv pv (planY C pv R wv.heap.size) sv.ver sv.ver:=⟨fun _ h=>.inl h,fun _ _=>rfl,fun _=>Nat.le_refl _,fun _ _=>⟨rfl,rfl⟩⟩
  have haw:=hSv.awake (by rw[hrow,hus])
  have hzip:(ps.zip vs).foldl (fun tmps (x:Nat × Value)=>tmps.setIfInBounds x.1 x.2) a.tmps=(ps.toList.zip vs.toList).foldl (fun tmps (x:Nat × Value)=>tmps.setIfInBounds x.1 x.2) a.tmps:=by
   rw[← Array.foldl_toList,Array.toList_zip]
  obtain⟨hpsz,hprel⟩:=psA_rel (w:=wv) (p:=planY C pv R wv.heap.size) (ver:=sv.ver) ps.toList e vs.toList (look (ts.zip avs)) a.tmps (RV.relV_mono (fun _ h=>.inr h) (fun _ _=>rfl) _ _ hV)
   (fun t ht=>by rw[← htmps,← hsn];exact hps t ht) (fun t=>by rw[← htmps];exact AV.rel_mono hkv _ _ (haw.tm t))
  let Hd:Nat→Prop:=fun b=>b=L∨∃ d∈aL.defers,d.target = .collected b
  have hHd:∀ b,Hd b→b<wv.heap.size∧¬ C.bor b∧¬ pv.R b∧¬ R b∧(∀ k,pv.β k≠some b)∧¬ pv.Ψ b∧¬ pv.Θ b:=fun b hb=>by
   rcases hb with rfl|⟨d,hd,hdt⟩
   ·exact⟨hltv,fun hb=>by have:=hS.ex.bo b (.inl hb);omega,hLRv,hRL,hLβv,hLΨv,hLΘv⟩
   ·obtain⟨Ds,g1,_,g3⟩:=hSv.ex.df
    rw[g1] at hd
    obtain⟨D,hD,rfl⟩:=List.mem_map.1 hd
    injection hdt with hdt
    subst hdt
    obtain⟨k1,k2,k3,k4,k5,k6⟩:=g3 D hD
    refine⟨(Array.getElem?_eq_some_iff.1 k1).1,fun hb=>by have:=hS.ex.bo D (.inl hb);omega,k3,fun hr=>?_,k4,k5,k6⟩
    have hD1:D<w1.heap.size:=by
     obtain⟨Ds',q1,_,q3⟩:=hS1.ex.df
     have:Ds'=Ds:=marks_inj (q1.symm.trans g1)
     subst this
     exact (Array.getElem?_eq_some_iff.1 (q3 D hD).1).1
    rcases (hR D hr).2.2 with q|q
    ·obtain⟨Ds',q1,_,q3⟩:=hS1.ex.df
     have:Ds'=Ds:=marks_inj (q1.symm.trans g1)
     subst this
     exact (q3 D hD).2.2.1 q
    ·have q':w1.heap.size≤D:=q
     omega
  have hSa:=hSv.intoY (L:=L) (w2:=wv) (R:=R) (rd:=some L) (Hd:=Hd) (a':={ tmps:=(ps.zip vs).foldl (fun tmps (x:Nat × Value)=>tmps.setIfInBounds x.1 x.2) a.tmps,defers:=[] }) (tm':=psA ps.toList e (look (ts.zip avs)))
   hgv' rfl rfl rfl rfl (fun _ _=>rfl) hLRv hLβv hLΨv hRY (fun t=>by rw[hzip];exact hprel t) (by rw[hzip,hpsz,← htmps];exact hsnv.symm) rfl hHd
  have hna:=hsnv.trans hsn.symm
  refine roundIn_of_wpIn trivial ?_
  have hassign:=hround (CinY C pv R wv (some L) Hd) _ _ ⟨_,hna▸hSa⟩
  refine wpIn_mono hassign ?_
  rintro x a1 wa ⟨s1,⟨p1,hS1a⟩,rfl,hga,hbody⟩
  have hnotb:∀ b,Hd b→¬ (CinY C pv R wv (some L) Hd).bor b:=fun b hb g=>g.elim (fun g=>(hHd b hb).2.1 g.1) (hHd b hb).2.2.2.2.2.2
  have hLa:wa.heap[L]? = some (.loop (rec .ready none)):=(hS1a.base.block L hltv (hnotb L (.inl rfl)) (fun ⟨k,hk,_⟩=>hLβv k hk)).trans hLv
  have hlta:L<wa.heap.size:=(Array.getElem?_eq_some_iff.1 hLa).1
  refine⟨_,run_beginRound hLa (by rw[hrec]),?_⟩
  have hop1:=HopY.of (L:=L) (w:=wv) (w2:=wv) rfl rfl rfl rfl (fun _ _=>rfl) hS1a hga
  have hHd1:∀ b,Hd b→b<wa.heap.size∧¬ (CinY C pv R wv (some L) Hd).bor b∧¬ p1.R b∧¬ False∧(∀ k,p1.β k≠some b)∧¬ p1.Ψ b∧¬ p1.Θ b:=fun b hb=>by
   obtain⟨_,q2,_,q4,q5,q6,q7,q8⟩:=hS1a.ex.hd b hb
   exact⟨q4,q2,q5,fun h=>h,q8,q6,q7⟩
  have hL1h:=hHd1 L (.inl rfl)
  have hS1b:=hS1a.intoY (L:=L) (w2:=wa.putObj L (.loop { rec .ready none with state:=.busy })) (R:=fun _=>False) (rd:=some L) (Hd:=Hd) (a':=a1) (tm':=s1.tm) hga rfl rfl rfl World.putObj_size putObj_other
   hL1h.2.2.1 hL1h.2.2.2.2.1 hL1h.2.2.2.2.2.1 (fun _ h=>h.elim) (fun t=>by
    have hk1:Kept wa (wa.putObj L (.loop { rec .ready none with state:=.busy })) p1 (planY (CinY C pv R wv (some L) Hd) p1 (fun _=>False) (wa.putObj L (.loop { rec .ready none with state:=.busy })).heap.size) s1.ver s1.ver :=
     ⟨fun _ h=>.inl h,fun ad hr=>World.cell?_of_block (putObj_other _ fun e=>hL1h.2.2.1 (e▸hr)),fun _=>Nat.le_refl _,fun _ _=>⟨rfl,rfl⟩⟩
    exact AV.rel_mono hk1 _ _ (hS1a.tm t)) hS1a.sz (hS1a.ex.rm rfl) hHd1
  refine wpIn_mono (hbody _ _ _ ⟨_,hS1b⟩) ?_
  have hLb:(wa.putObj L (.loop { rec .ready none with state:=.busy })).heap[L]? = some (.loop { rec .ready none with state:=.busy }):=World.putObj_heap_same hlta
  have hRo:∀ b,R b→b<wv.heap.size∧(∀ d∈aL.defers,d.target ≠ .collected b)∧¬ C.hd b∧(C.R0 b∨C.w0.heap.size≤b∨C.own b):=fun b hb=>by
   have hsz0:=hS.base.size
   refine⟨(hR b hb).1,fun d hd hdt=>(hHd b (.inr ⟨d,hd,hdt⟩)).2.2.2.1 hb,fun hh=>?_,?_⟩
   ·obtain⟨q1,_,_,_,q5,_⟩:=hS.ex.hd b hh
    rcases (hR b hb).2.2 with q|q
    ·exact q5 q
    ·have q':w1.heap.size≤b:=q;omega
   ·rcases (hR b hb).2.2 with q|q
    ·exact hS.rn b q
    ·have q':w1.heap.size≤b:=q;exact .inr (.inl (by omega))
  have fin:∀ (jump:Option Code) (s3:AS) (p3:Plan) (a3:Act) (w3:World),SR (CinY (CinY C pv R wv (some L) Hd) p1 (fun _=>False) (wa.putObj L (.loop { rec .ready none with state:=.busy })) (some L) Hd) p3 s3 a3 w3 →
   (match jump with|none=>∃ s4,Sub s3 s4∧ghAt P s4∧I rest us ⟨s.n,look [],s4.rows⟩|some c=>∃ s4,Sub s3 s4∧ghAt P s4∧J c us ⟨s.n,look [],s4.rows⟩) →
   ∃ v w', (Instr.endRound L jump).run P w3 = .ok v w'∧(w'.os=wv.os∧w'.tape=wv.tape∧w'.output=wv.output∧wv.heap.size≤w'.heap.size∧(∀ b, b<wv.heap.size→¬ Θ b→w'.heap[b]? = wv.heap[b]?) ∧
     ∃ Ψ' Θ':Nat→Prop,(∀ b,Ψ' b→Ψ b∨R b∨wv.heap.size≤b)∧(∀ b,Θ' b→Θ b∨wv.heap.size≤b)∧(∀ b,Ψ' b→b<w'.heap.size)∧(∀ b,Θ' b→b<w'.heap.size) ∧
     ((Ending.returned v = .returned (.bool true)∧X.X (some rest) w' Ψ' Θ')∨(Ending.returned v = .returned (.bool false)∧X.X Option.none w' Ψ' Θ'))):=by
   intro jump s30 p30 a3 w3 h30 hj0
   obtain⟨s3,hsub,hg3,hj⟩:∃ s4,Sub s30 s4∧ghAt P s4∧(match jump with|none=>I rest us ⟨s.n,look [],s4.rows⟩|some c=>J c us ⟨s.n,look [],s4.rows⟩):=by
    cases jump with
    | none=>exact hj0
    | some c=>exact hj0
   obtain⟨p3,h3⟩:=hsub _ _ _ ⟨p30,h30⟩
   have hL3:w3.heap[L]? = some (.loop { rec .ready none with state:=.busy }):=by
    refine (h3.base.block L (by show L<(wa.putObj L _).heap.size;rw[World.putObj_size];exact hlta) (fun g=>g.elim (fun g=>hL1h.2.1 g.1) hL1h.2.2.2.2.2.2) (fun ⟨k,hk,_⟩=>hL1h.2.2.2.2.1 k hk)).trans hLb
   obtain⟨_,_,_,_,e5,e6,e7,e8⟩:=h3.ex.hd L (.inl rfl)
   have hend:=run_endRound (P:=P) jump hL3
   have hlt3:L<w3.heap.size:=(Array.getElem?_eq_some_iff.1 hL3).1
   have hop2:=HopY.of (C:=CinY C pv R wv (some L) Hd) (p:=p1) (L:=L) (w:=wa) (w2:=wa.putObj L (.loop { rec .ready none with state:=.busy })) (R:=fun _=>False) rfl rfl rfl World.putObj_size putObj_other h3 hg3
   obtain⟨o4,ho4⟩:∃ o4,o4=Obj.loop { { rec .ready none with state:=.busy } with state:=if jump.isNone then .ready else .done,pending:=jump }:=⟨_,rfl⟩
   rw[← ho4] at hend
   have hop:=(HopY.trans (C':=CinY C pv R wv (some L) Hd) hop1 (fun _=>Iff.rfl) hop2).put (o:=o4)
   have hL4:(w3.putObj L o4).heap[L]? = some (.loop (rec (if jump.isNone then .ready else .done) jump)):=by
    rw[World.putObj_heap_same hlt3,ho4,hrec]
   have hS4:SR C { p3 with X:=C.X } ⟨s.n,look [],s3.rows⟩ aL (w3.putObj L o4):=by
    have:=hSv.landY (C':=CinY (CinY C pv R wv (some L) Hd) p1 (fun _=>False) (wa.putObj L (.loop { rec .ready none with state:=.busy })) (some L) Hd) hgv' hL0 hLm hop hRo rfl (fun o w Ψ Θ h=>h.1.1) h3 hg3 e5 e8 e6 rfl rfl rfl rfl World.putObj_size putObj_other
    rw[hna,← look_nil'] at this
    exact this
   refine⟨_,_,hend,hop.os,hop.tape,hop.output,hop.size,fun b hb hθ=>hop.heap b hb (fun k hk=>hθ ((hΘv b).2 (.inl ⟨k,hk⟩))) (fun h=>hθ ((hΘv b).2 (.inr (.inr h)))) (fun e=>hθ ((hΘv b).2 (.inr (.inl e)))),
    fun b=>p3.R b∨(∃ k,p3.β k=some b)∨(b<C.w0.heap.size∧¬ C.bor b∧¬ C.own b)∨b=L∨C.hd b∨(∃ d∈aL.defers,d.target = .collected b)∨p3.Ψ b∨p3.Θ b,fun b=>(∃ k,p3.β k=some b)∨b=L∨p3.Θ b,fun b hb=>?_,fun b hb=>?_,fun b hb=>?_,fun b hb=>?_,?_⟩
   ·have hown:ownY C pv b→Ψ b:=fun ⟨k,q,_⟩=>(hΨv b).2 (.inr (.inl ⟨k,q⟩))
    have hrr:p3.R b→Ψ b∨R b∨wv.heap.size≤b:=fun g=>by
     rcases hop.rn b g with q|q|q|q
     ·exact .inl ((hΨv b).2 (.inl q))
     ·exact .inr (.inl q)
     ·exact .inr (.inr q)
     ·exact .inl (hown q)
    have hpsi:pv.Ψ b→Ψ b:=fun q=>(hΨv b).2 (.inr (.inr (.inr (.inr (.inr (.inr (.inl q)))))))
    have hthe:pv.Θ b→Ψ b:=fun q=>(hΨv b).2 (.inr (.inr (.inr (.inr (.inr (.inr (.inr q)))))))
    rcases hb with g|⟨k,g⟩|g|g|g|g|g|g
    ·exact hrr g
    ·rcases hop.bl k b g with q|⟨_,_,k',_,q⟩|⟨_,q⟩|q
     ·exact .inr (.inr q)
     ·exact .inl ((hΨv b).2 (.inr (.inl ⟨k',q⟩)))
     ·exact .inl (hthe q)
     ·exact .inl (hown q)
    ·exact .inl ((hΨv b).2 (.inr (.inr (.inl g))))
    ·exact .inl ((hΨv b).2 (.inr (.inr (.inr (.inl g)))))
    ·exact .inl ((hΨv b).2 (.inr (.inr (.inr (.inr (.inl g))))))
    ·exact .inl ((hΨv b).2 (.inr (.inr (.inr (.inr (.inr (.inl g)))))))
    ·rcases hop.psi b g with q|q|q|q|q
     ·exact .inl (hpsi q)
     ·exact .inl ((hΨv b).2 (.inl q))
     ·exact .inr (.inl q)
     ·exact .inl (hown q)
     ·exact .inr (.inr q)
    ·rcases hop.theta b g with q|q
     ·exact .inl (hthe q)
     ·exact .inr (.inr q)
   ·rcases hb with⟨k,g⟩|g|g
    ·rcases hop.bl k b g with q|⟨_,_,k',_,q⟩|⟨_,q⟩|⟨k',q,_⟩
     ·exact .inr q
     ·exact .inl ((hΘv b).2 (.inl ⟨k',q⟩))
     ·exact .inl ((hΘv b).2 (.inr (.inr q)))
     ·exact .inl ((hΘv b).2 (.inl ⟨k',q⟩))
    ·exact .inl ((hΘv b).2 (.inr (.inl g)))
    ·rcases hop.theta b g with q|q
     ·exact .inl ((hΘv b).2 (.inr (.inr q)))
     ·exact .inr q
   ·have hsz4:=hS4.base.size
    rcases hb with g|⟨k,g⟩|g|rfl|g|⟨d,hd,hdt⟩|g|g
    ·exact hS4.rb b g
    ·exact (hS4.bl k b g).1
    ·omega
    ·rw[World.putObj_size];exact hlt3
    ·exact (hS4.ex.hd b g).2.2.2.1
    ·exact Nat.lt_of_lt_of_le (hHd b (.inr ⟨d,hd,hdt⟩)).1 hop.size
    ·exact hS4.ex.ψl b g
    ·exact hS4.ex.θl b g
   ·rcases hb with⟨k,g⟩|rfl|g
    ·exact (hS4.bl k b g).1
    ·rw[World.putObj_size];exact hlt3
    ·exact hS4.ex.θl b g
   ·cases jump with
    | none=>exact .inl ⟨rfl,{ p3 with X:=C.X },_,hS4,hsn,hg3,⟨hj,hL4⟩,e5,e8,e6,e7,fun _=>Iff.rfl,fun _=>Iff.rfl⟩
    | some c=>exact .inr ⟨rfl,{ p3 with X:=C.X },_,hS4,hsn,hg3,⟨c,hj,hL4⟩,e5,e8,e6,e7,fun _=>Iff.rfl,fun _=>Iff.rfl⟩
  rintro en a3 w3 ⟨s3,⟨p3,h3⟩,hq⟩
  cases en with
  | normal=>exact fin none s3 p3 a3 w3 h3 hq
  | ret=>exact fin (some .ret) s3 p3 a3 w3 h3 hq
  | exit id=>exact fin (some (.exit id)) s3 p3 a3 w3 h3 hq
  | goto l=>exact hq.elim
  | panic ch=>exact hq.elim
  | outgrown=>exact hq.elim
 have hX0:X.X (some xs) w1 (fun b=>p.R b∨(∃ k,p.β k=some b)∨(b<C.w0.heap.size∧¬ C.bor b∧¬ C.own b)∨b=L∨C.hd b∨(∃ d∈aL.defers,d.target = .collected b)∨p.Ψ b∨p.Θ b) (fun b=>(∃ k,p.β k=some b)∨b=L∨p.Θ b) :=
  ⟨p,_,hS2,hsn,hgh1,⟨h0 us,hL1⟩,hLR,hLβ,hLΨ,hLΘ,fun _=>Iff.rfl,fun _=>Iff.rfl⟩
 have hlt1:L<w1.heap.size:=(Array.getElem?_eq_some_iff.1 hL1).1
 have hcall:=hI.2 w1 p.R vsC X _ _ hS1.rb hcap rfl (fun _ b hb=>hb) (Nat.le_refl _) hY (fun b hb=>by
  have hszw:=hS1.base.size
  rcases hb with g|⟨k,g⟩|g|rfl|g|⟨d,hd,hdt⟩|g|g
  ·exact hS1.rb b g
  ·exact (hS1.bl k b g).1
  ·omega
  ·exact hlt1
  ·exact (hS1.ex.hd b g).2.2.2.1
  ·obtain⟨Ds,g1,_,g3⟩:=hS1.ex.df
   rw[g1] at hd
   obtain⟨D,hD,rfl⟩:=List.mem_map.1 hd
   injection hdt with hdt
   subst hdt
   exact (Array.getElem?_eq_some_iff.1 (g3 D hD).1).1
  ·exact hS1.ex.ψl b g
  ·exact hS1.ex.θl b g) (fun b hb=>by
  rcases hb with⟨k,g⟩|rfl|g
  ·exact (hS1.bl k b g).1
  ·exact hlt1
  ·exact hS1.ex.θl b g) (fun b hb hθ=>by
  rcases hθ with⟨k,g⟩|rfl|g
  ·exact (hS1.bl k b g).2.1 hb
  ·exact hLR hb
  ·exact hS1.ex.ψr b hb g) hX0
 have e1:(Instr.enterLoop fn a.tmps ps assign body none).run P w = .ok (L,[{ target:=.collected w.heap.size,args:=#[] }]) w1:=by
  rw[run_enterLoop_outer,← hw1,hrec,hLdef]
 have e2:(resolve a.eval (rangeCall g L) 0).run P w1 = .ok { target:=.fn (.func F) vsC,args:=#[.func (.yield L) #[] #[]] } w1:=by
  simp only[resolve,hgv,Sem.run_bind,Deferred.ofValue,Sem.run_pure,Result.andThen_ok]
  simp [Act.eval]
 have e3:(invoke (.fn (.func F) vsC) #[.func (.yield L) #[] #[]]).run P w1 = .ok (.enter F (#[.func (.yield L) #[] #[]]++vsC)) w1:=by
  simp only[invoke];exact run_callFunc hI.1 _ _
 have e4:Fence.wide.depth.isSome=true→1≤0:=fun h=>by simp [Fence.wide] at h
 refine⟨L,_,w1,_,w1,F,_,w1,e1,e2,?_,e3,e4,?_⟩
 ·intro f' _;exact trivial
 ·refine callsIn_wide.2 (hcall.mono ?_)
  have haL':({ a with defers:=[{ target:=.collected w.heap.size,args:=#[] }]++a.defers }:Act)=aL:=by rw[haL];rfl
  rintro e w' ⟨⟨v,rfl⟩,Ψ',Θ',hX|hX⟩
  ·obtain⟨p',s',hS',hsn',hg',⟨hI',hL'⟩,hLR',hLβ',hLΨ',_⟩:=hX
   have hend:=run_endLoop (P:=P) hL' (by rw[hrec];simp)
   have hp:(rec .ready none).pending=none:=by rw[hrec]
   rw[hp] at hend
   refine⟨none,_,hend,?_⟩
   obtain⟨avs,hrow,hQ⟩:=done us s' (hsn'.trans hsn.symm) hI'
   have hS4:∀ o,SR C p' ⟨s.n,look (ts.zip avs),s'.rows⟩ aL (w'.putObj L o):=fun o=>by
    have:=(hS'.turnY (o:=o) hLR' hLβ' hL0 hLΨ' hLm).awake (by rw[hrow,hus])
    rw[hsn'.trans hsn.symm] at this
    exact this
   rw[haL']
   exact⟨_,⟨_,hS4 _⟩,hQ⟩
  ·obtain⟨p',s',hS',hsn',hg',⟨c,hJ',hL'⟩,hLR',hLβ',hLΨ',_⟩:=hX
   have hend:=run_endLoop (P:=P) hL' (by rw[hrec];simp)
   have hp:(rec .done (some c)).pending=some c:=by rw[hrec]
   rw[hp] at hend
   refine⟨some c,_,hend,?_⟩
   obtain⟨avs,hrow,hQ⟩:=stop c us s' (hsn'.trans hsn.symm) hJ'
   have hS4:∀ o,SR C p' ⟨s.n,look (ts.zip avs),s'.rows⟩ aL (w'.putObj L o):=fun o=>by
    have:=(hS'.turnY (o:=o) hLR' hLβ' hL0 hLΨ' hLm).awake (by rw[hrow,hus])
    rw[hsn'.trans hsn.symm] at this
    exact this
   have hQ':=fun o=>hQ _ _ ⟨_,hS4 o⟩
   rw[hF0] at hQ'
   rw[haL']
   exact hQ' _
end
def rfpostY (P:Program) (n:Nat) (ts:List Nat) (Q:Exit→AS→Prop) (N:AS→Prop) (us:List Value):Exit→AS→Prop
 | .normal,s=>N s
 | .ret,s=>ghAt P s∧∃ avs,(s.rows 0).c = .sus avs us∧Q .ret ⟨n,look (ts.zip avs),s.rows⟩
 | .exit id,s=>ghAt P s∧∃ avs,(s.rows 0).c = .sus avs us∧Q (.exit id) ⟨n,look (ts.zip avs),s.rows⟩
 | _,_=>False
theorem rfpostY_normal {P:Program}{n:Nat}{ts:List Nat}{Q:Exit→AS→Prop}{N:AS→Prop}{us:List Value}{s:AS}:rfpostY P n ts Q N us .normal s=N s:=rfl
theorem rfY_ret {P:Program}{n:Nat}{ts:List Nat}{Q:Exit→AS→Prop}{N:AS→Prop}{us:List Value}{l:List (Nat × AV)}{vs:Nat→Nat}{cs:List (Nat × RowC)}{ll:Nat}{o:Option (List (List RV))}{avs:List AV}(hg:lookc cs 999 = .gh P ll false o) (h:lookc cs 0 = .sus avs us) (hq:Q .ret (st n (ts.zip avs) vs cs)) :
 rfpostY P n ts Q N us .ret (st n l vs cs):=⟨⟨ll,o,hg⟩,avs,h,hq⟩
attribute [go_sem] rfpostY_normal
theorem awp_rangeFY {P:Program}{C:Ctx}{n:Nat}{s:AS}{t:Nat}{ps:Array Tmp}{assign body:Code}{Q:Exit→AS→Prop}(hC:C.rd=none) {f:FuncId}{caps:List RV}{z:Bool}(xs:List (List RV)) (hI:ICalls P z f caps xs)
 (ts:List Nat) (hnd:ts.Nodup) (F:(Nat→Nat)→List (Nat × AV)) (R:Nat→(Nat→Nat)→List (Nat × RowC)) (I:Nat→Prop) (h0:FitV n F (R 0) s) (hi0:I 0)
 (hts:∀ vs,(F vs).map (·.1)=ts) (hg:∀ vs,look (F vs) t = .r (.fn f caps)) (hd:∀ i vs,lookc (R i vs) 0 = .dead) (hgh:∀ i vs,∃ l o,lookc (R i vs) 999 = .gh P l false o) (hps:∀ t∈ps.toList,t<n) (hlen:∀ e∈xs,e.length=ps.size)
 (round:∀ i e vs us C,xs[i]? = some e→I i→awp P C assign (fun x s2=>x = .normal∧ghAt P s2∧∀ C,awp P C body (rfpostY P n ts Q (fun s3=>I (i+1)∧∃ vs',Sub s3 (st n [] vs' ((0,.sus ((F vs').map (·.2)) us)::R (i+1) vs'))) us) s2)
  (st n (psL ps.toList e (F vs)) vs ((0,.sus ((F vs).map (·.2)) us)::R i vs)))
 (done:∀ vs us,I xs.length→Q .normal (st n (F vs) vs ((0,.sus ((F vs).map (·.2)) us)::R xs.length vs))):awp P C (.rangeFunc (.tmp t) ps assign body) Q s:=by
 obtain⟨vs0,h0⟩:=h0
 refine zw h0 ?_
 have hdrop:∀ i e rest,xs.drop i=e::rest→xs[i]? = some e∧xs.drop (i+1)=rest:=fun i e rest h=>by
  refine⟨?_,by rw[← List.drop_drop,h];rfl⟩
  have:(xs.drop i)[0]? = some e:=by rw[h];rfl
  simpa using this
 have hz:∀ vs,ts.zip ((F vs).map (·.2))=F vs:=fun vs=>by rw[← hts vs];exact zip_keys _
 have hgs:∀ (i:Nat) (vs:Nat→Nat) (l:List (Nat × AV)) (x:RowC),ghAt P (st n l vs ((0,x)::R i vs)):=fun i vs l x=>by
  obtain⟨q,o,h⟩:=hgh i vs
  refine⟨q,o,?_⟩
  show lookc ((0,x)::R i vs) 999=_
  rw[zlc,if_neg (by decide)];exact h
 refine awp_rangeFuncY hC (hgh 0 vs0) (F:=f) (args:=caps) (xs:=xs) (z:=z) (by
  show look (F vs0) t=_
  rw[hg]) hI (hd 0 vs0) ts hps
  (fun left us s'=>∃ i vs,left=xs.drop i∧i≤xs.length∧I i∧s'=st n [] vs ((0,.sus ((F vs).map (·.2)) us)::R i vs))
  (fun c us s'=>∃ avs,(s'.rows 0).c = .sus avs us∧((c = .ret∧Q .ret ⟨n,look (ts.zip avs),s'.rows⟩)∨∃ id,c = .exit id∧Q (.exit id) ⟨n,look (ts.zip avs),s'.rows⟩))
  (fun us=>⟨0,vs0,rfl,Nat.zero_le _,hi0,?_⟩) ?_ ?_ ?_
 ·refine (upd_rows_st (c:=.sus (ts.map (st n (F vs0) vs0 (R 0 vs0)).tm) us)).trans ?_
  congr 3
  have hk:(F vs0).map (·.2)=ts.map (look (F vs0)):=by
   have:=look_keys (F vs0) (by rw[hts vs0];exact hnd)
   rw[hts vs0] at this
   exact this
  rw[hk];rfl
 ·rintro e rest us s' _ ⟨i,vs,hl,hle,hI',rfl⟩
  obtain⟨h1,h2⟩:=hdrop i e rest hl.symm
  refine⟨hlen e (List.mem_of_getElem? h1),(F vs).map (·.2),rfl,fun C'=>?_⟩
  have hr:=round i e vs us C' h1 hI'
  rw[hz,psA_look]
  refine awp_mono ?_ hr
  rintro x s2 ⟨hx,hg2,hbody⟩
  refine⟨hx,hg2,fun C''=>awp_mono ?_ (hbody C'')⟩
  intro x s3 hq
  cases x with
  | normal =>
    obtain⟨hI3,vs',hsub⟩:=hq
    refine⟨_,hsub,hgs _ _ _ _,i+1,vs',h2.symm,?_,hI3,rfl⟩
    have:=(List.getElem?_eq_some_iff.1 h1).1
    omega
  | ret =>
    obtain⟨hg3,avs,h3,h4⟩:=hq
    exact⟨s3,Sub.refl _,hg3,avs,h3,.inl ⟨rfl,h4⟩⟩
  | exit id =>
    obtain⟨hg3,avs,h3,h4⟩:=hq
    exact⟨s3,Sub.refl _,hg3,avs,h3,.inr ⟨id,rfl,h4⟩⟩
  | goto l=>exact hq.elim
  | panic c=>exact hq.elim
  | outgrown=>exact hq.elim
 ·rintro us s' _ ⟨i,vs,hl,hle,hI',rfl⟩
  have hi:i=xs.length:=by
   have:(xs.drop i).length=0:=by rw[← hl];rfl
   rw[List.length_drop] at this;omega
  subst hi
  refine⟨(F vs).map (·.2),rfl,?_⟩
  have:=done vs us hI'
  rw[hz]
  exact this
 ·rintro c us s' _ ⟨avs,h3,h4⟩
  refine⟨avs,h3,?_⟩
  rcases h4 with⟨rfl,h4⟩|⟨id,rfl,h4⟩
  ·exact ze h4
  ·exact zf h4
end Go.Oc

namespace Go.Oc
open Go Go.RowKit
def yop (P:Program) (o:Oper) (K:AS→Prop) (s:AS):Prop :=
 match o.op,o.dst with
 | .call ⟨.value f,args,ts⟩,some d=>∃ (F:FuncId) (cs:List AV) (ar:Nat→List RV) (xs rest:List (List RV)) (ll:Nat),callee? (s.ev f)=some (F,cs)∧(s.rows 999).c = .gh P ll false (some (xs++rest))∧AV.pureL (args.toList.map s.ev++cs)=true ∧
  RV.leL (snapVL s.rows (args.toList.map s.ev++cs)) (ar ll)∧YCalls P F ar xs∧K ((s.row 999 ⟨(s.rows 999).ver,.gh P ll false (some rest)⟩).put (some d) (.r (.bo true)))∧K ((s.row 999 ⟨(s.rows 999).ver,.gh P ll false none⟩).put (some d) (.r (.bo false)))
 | _,_=>False
def xopY (P:Program) (o:Oper) (K:AS→Prop) (s:AS):Prop:=xopL P o K s∨yop P o K s
def holdsG (ops:Array Oper) (s:AS) (o:Oper):Prop :=
 match o.guard with
 | none=>True
 | some (g,want)=>∃ t,((ops[g]?).bind (·.dst):Option Nat)=some t∧s.tm t = .r (.bo want)
theorem wantG {ops:Array Oper}{s:AS}{o:Oper}(h:holdsG ops s o):wantA ops s o=some true:=by
 unfold holdsG at h
 unfold wantA
 split at h
 ·rename_i e;rw[e]
 ·rename_i g want e
  obtain⟨t,h1,h2⟩:=h
  rw[e]
  simp only[h1,h2,BEq.rfl]
def failsG (ops:Array Oper) (s:AS) (o:Oper):Prop :=
 match o.guard with
 | none=>False
 | some (g,want)=>∃ t,((ops[g]?).bind (·.dst):Option Nat)=some t∧(s.tm t = .r (.bo (!want))∨s.tm t = .r .ud)
theorem wantF {ops:Array Oper}{s:AS}{o:Oper}(h:failsG ops s o):wantA ops s o=some false:=by
 unfold failsG at h
 unfold wantA
 split at h
 ·exact h.elim
 ·rename_i g want e
  obtain⟨t,h1,h2⟩:=h
  rw[e]
  rcases h2 with h2|h2
  ·simp only[h1,h2]
   cases want<;>rfl
  ·simp only[h1,h2]
def FitG (n:Nat) (F:(Nat→Nat)→Bool→List (Nat × AV)) (R:(Nat→Nat)→Bool→List (Nat × RowC)) (s:AS):Prop:=∃ vs z,Sub s (st n (F vs z) vs (R vs z))
theorem fitG_of {n:Nat}{F:(Nat→Nat)→Bool→List (Nat × AV)}{R:(Nat→Nat)→Bool→List (Nat × RowC)}{s:AS}(z:Bool) (h:FitV n (fun vs=>F vs z) (fun vs=>R vs z) s):FitG n F R s:=by
 obtain⟨vs,h⟩:=h
 exact⟨vs,z,h⟩
section
variable {P:Program}{C:Ctx}{s:AS}
theorem xopY_sound {p:Plan}{a:Act}{w:World}{o:Oper}{KA:AS→Prop}(hp:SR C p s a w) (h:xopY P o KA s) (hd0:∀ t,o.dst=some t→t<s.n) {K:Act→World→Prop}{Q:Exit→Act→World→Prop}
 (hK:∀ a' w' p' s',SR C p' s' a' w'→s'.n=s.n→KA s'→K a' w') (hnd:∀ c,o.op ≠ .defer c):o.wpIn (fnc C.rd) 0 P a w K Q:=by
 rcases h with h|h
 ·exact xopL_sound hp h hd0 hK hnd
 unfold yop at h
 split at h
 ·rename_i f args ts d ho hd
  obtain⟨F,cs,ar,xs,rest,ll,hF,hrow,hpu,hle,hY,h1,h2⟩:=h
  have hdn:=hd0 d hd
  obtain⟨dst,op,ty,pos,af,gd⟩:=o
  simp only at ho hd
  subst ho hd
  refine wpIn_of_wp (by intro c h;cases h) ?_
  obtain⟨vs,hfv,hcs⟩:=callee_eval hp hF
  have hargs:=relV_ev hp args.toList
  have hall:=AV.relV_append hargs hcs
  have hlist:(args.map a.eval++vs).toList=args.toList.map a.eval++vs.toList:=by simp
  rw[← hlist] at hall
  have hV:=le_relV _ _ _ hle (pure_relV (rows:=s.rows) _ _ hpu hall)
  have hr:=hp.rw 999
  rw[hrow] at hr
  simp only[zrl] at hr
  obtain⟨_,hβ,hγ,hl,hz,hYo,hX⟩:=hr
  have hrun:(execOp a.eval ⟨some d,.call ⟨.value f,args,ts⟩,ty,pos,af,gd⟩).run P w = .ok (.enter F (args.map a.eval++vs)) w:=by
   simp only[execOp,Sem.run_bind,resolve,hfv,Deferred.ofValue,Sem.run_pure,Result.andThen_ok,invoke]
   simpa using run_callFunc hY.1 (args.map a.eval++vs) w
  unfold Oper.wp
  rw[hrun,Oper.upon_enter]
  have hzX:p.X.z=false:=hz
  have hz':C.X.z=false:=by rw[← hp.ex.px];exact hz
  refine (hY.2 rest w p.R _ p.X p.Ψ p.Θ hp.rb (by rw[hl];exact hV) hzX (fun b hb=>?_) ?_ hYo hp.ex.ψl hp.ex.θl hp.ex.ψr hX).mono ?_
  ·rw[hp.ex.px];exact hp.yr hz' hb
  ·rw[hp.ex.px];exact Nat.le_trans hp.ex.n0 hp.base.size
  rintro e w' ⟨g1,g2,g3,g4,g5,Ψ',Θ',g6,g7,g8,g9,g10⟩
  rcases g10 with⟨rfl,hX'⟩|⟨rfl,hX'⟩
  ·have hS:=hp.yielded hrow g1 g2 g3 g4 g5 (fun _ h=>h) g6 g7 g8 g9 hp.ex.px hX'
   have hput:=hS.put' (d:=some d) (av:=.r (.bo true)) (v:=.bool true) (by simp only[AV.rel,RV.rel]) (fun t ht=>by injection ht with ht;subst ht;exact hdn)
   exact hK _ _ _ _ hput rfl h1
  ·have hS:=hp.yielded hrow g1 g2 g3 g4 g5 (fun _ h=>h) g6 g7 g8 g9 hp.ex.px hX'
   have hput:=hS.put' (d:=some d) (av:=.r (.bo false)) (v:=.bool false) (by simp only[AV.rel,RV.rel]) (fun t ht=>by injection ht with ht;subst ht;exact hdn)
   exact hK _ _ _ _ hput rfl h2
 ·exact h.elim
end
def stepAllY (P:Program) (ops:Array Oper) (n:Nat) (F:(Nat→Bool)→(Nat→Nat)→Bool→List (Nat × AV)) (R:(Nat→Bool)→(Nat→Nat)→Bool→List (Nat × RowC)):Nat→List Oper→Prop
 | _,[]=>True
 | k,o::rest=>(∀ b vs z,(∀ j e,j<ops.size→(deps ops j).contains e=true→b j=true→b e=true)→b k=false→(∀ e∈deps ops k,b e=true) →
  (holdsG ops (st n (F b vs z) vs (R b vs z)) o∧xopY P o (FitG n (F (upd b k true)) (R (upd b k true))) (st n (F b vs z) vs (R b vs z)))∨(failsG ops (st n (F b vs z) vs (R b vs z)) o∧FitG n (F (upd b k true)) (R (upd b k true)) ((st n (F b vs z) vs (R b vs z)).put o.dst (.r .ud))))∧stepAllY P ops n F R (k+1) rest
theorem stepAllY_get {P:Program}{ops:Array Oper}{n:Nat}{F:(Nat→Bool)→(Nat→Nat)→Bool→List (Nat × AV)}{R:(Nat→Bool)→(Nat→Nat)→Bool→List (Nat × RowC)}:∀ {l:List Oper}{k i:Nat}{o:Oper},stepAllY P ops n F R k l→l[i]? = some o →
 ∀ b vs z, (∀ j e, j<ops.size→(deps ops j).contains e=true→b j=true→b e=true)→b (k+i)=false→(∀ e∈deps ops (k+i), b e=true) →
   (holdsG ops (st n (F b vs z) vs (R b vs z)) o∧xopY P o (FitG n (F (upd b (k+i) true)) (R (upd b (k+i) true))) (st n (F b vs z) vs (R b vs z)))∨(failsG ops (st n (F b vs z) vs (R b vs z)) o∧FitG n (F (upd b (k+i) true)) (R (upd b (k+i) true)) ((st n (F b vs z) vs (R b vs z)).put o.dst (.r .ud)))
 | [],_,_,_,_,h=>by simp at h
 | x::l, k, 0, o, hs, h=>by
   simp only[List.getElem?_cons_zero,Option.some.injEq] at h
   subst h
   exact hs.1
 | x::l, k, i+1, o, hs, h=>by
   have:=stepAllY_get (k:=k+1) (i:=i) hs.2 (by simpa using h)
   rwa [show k+1+i=k+(i+1) by omega] at this
section
variable {P:Program}{C:Ctx}{s:AS}{a:Act}{w:World}{ops:Array Oper}
theorem inv_anyY {Q:AS→Prop}{Q':Exit→Act→World→Prop}(hQ:∀ s a w,Q s→SRel C s a w→Q' .normal a w) {n:Nat}{F:(Nat→Bool)→(Nat→Nat)→Bool→List (Nat × AV)}{R:(Nat→Bool)→(Nat→Nat)→Bool→List (Nat × RowC)}
 (hd:dstOk ops n=true) (hu:upOk ops=true) (hstep:stepAllY P ops n F R 0 ops.toList)
 (hend:∀ b vs z,(∀ j,b j=true)→Q (st n (F b vs z) vs (R b vs z))) :
 ∀ (fuel:Nat) (vs:Nat→Nat) (z:Bool) (listed:Array Bool) (a:Act) (w:World), listed.size=ops.size→down ops listed→unl listed ops.size≤fuel→SRel C (st n (F (fun j=>listed.getD j true) vs z) vs (R (fun j=>listed.getD j true) vs z)) a w →
   wpAnyIn (fnc C.rd) 0 P .any ops Q' fuel listed a w:=by
 have all:∀ {listed:Array Bool},listed.size=ops.size→(∀ j,j<ops.size→listed.getD j true=true)→∀ j,(fun j=>listed.getD j true) j=true:=fun {listed} hsz h j=>by
  by_cases hj:j<ops.size
  ·exact h j hj
  ·show listed.getD j true=true
   have:¬ j<listed.size:=by omega
   simp [this]
 intro fuel
 induction fuel with
 | zero =>
   intro vs z listed a w hsz hdn hf hs
   have h0:=unl_zero (listed:=listed) ops.size (by omega)
   refine⟨List.eq_nil_iff_forall_not_mem.2 fun j hj=>?_,hQ _ _ _ (hend _ _ _ (all hsz h0)) hs⟩
   obtain⟨h1,o,ho,_⟩:=mem_ready.1 hj
   have:=h0 j (Array.getElem?_eq_some_iff.1 ho).1
   rw[this] at h1
   cases h1
 | succ fuel ih =>
   intro vs z listed a w hsz hdn hf hs
   refine⟨fun h0=>hQ _ _ _ (hend _ _ _ (all hsz (ready_nil hu h0 hsz))) hs,fun i hi=>?_⟩
   obtain⟨hi1,o,ho,hall⟩:=mem_ready.1 hi
   unfold wpOpIn
   rw[ho]
   simp only
   have hil:i<ops.size:=(Array.getElem?_eq_some_iff.1 ho).1
   obtain⟨p,hp⟩:=hs
   have hx:=stepAllY_get (k:=0) (i:=i) hstep (by rw[Array.getElem?_toList];exact ho) (fun j=>listed.getD j true) vs z (fun j e hj he hb=>?_) (by rw[Nat.zero_add];exact hi1) (fun e he=>?_)
   ·rw[Nat.zero_add] at hx
    have e:upd (fun j=>listed.getD j true) i true=fun j=>(listed.setIfInBounds i true).getD j true:=by
     funext j
     rw[getD_setT]
     rfl
    rcases hx with⟨hw,hx⟩|⟨hw,hx⟩
    ·rw[if_pos (wantA_sound hp (wantG hw))]
     refine xopY_sound hp hx (dstOk_get hd ho) (fun a' w' p' s' hs' hn hK=>?_) (dstOk_nd hd ho)
     obtain⟨vs',z',hsub⟩:=hK
     rw[e] at hsub
     exact ih vs' z' _ a' w' (by simpa using hsz) (down_set hdn hi) (by have:=unl_set hi1 ops.size hil;omega) (hsub C a' w' ⟨p',hs'⟩)
    ·rw[wantA_sound hp (wantF hw)]
     simp only[Bool.false_eq_true,if_false]
     refine⟨fun _ _=>trivial,?_⟩
     obtain⟨vs',z',hsub⟩:=hx
     rw[e] at hsub
     have:=hp.put' (d:=o.dst) (av:=.r .ud) (v:=undef) (by simp only[AV.rel,RV.rel]) (dstOk_get hd ho)
     exact ih vs' z' _ _ _ (by simpa using hsz) (down_set hdn hi) (by have:=unl_set hi1 ops.size hil;omega) (hsub C _ _ ⟨p,this⟩)
   ·have hjs:j<listed.size:=by omega
    have hb':listed.getD j true=true:=hb
    have h2:=hdn j (by simpa [hjs] using hb') e (by simpa using he)
    show listed.getD e true=true
    by_cases hes:e<listed.size
    ·simpa [hes] using h2
    ·simp [hes]
   ·have h2:=ready_deps hi e (by simpa using he)
    show listed.getD e true=true
    by_cases hes:e<listed.size
    ·simpa [hes] using h2
    ·simp [hes]
end
theorem awp_invY {P:Program}{C:Ctx}{id:Nat}{l:List Oper}{n:Nat}{Q:Exit→AS→Prop}{s:AS}(F:(Nat→Bool)→(Nat→Nat)→Bool→List (Nat × AV)) (R:(Nat→Bool)→(Nat→Nat)→Bool→List (Nat × RowC)) (hm:P.follows .mixedOrders=true)
 (hd:dstOk l.toArray n=true) (hu:upOk l.toArray=true) (h0:FitG n (F fun j=>decide (l.length≤j)) (R fun j=>decide (l.length≤j)) s)
 (hstep:stepAllY P l.toArray n F R 0 l) (hend:∀ b vs z,(∀ j,b j=true)→Q .normal (st n (F b vs z) vs (R b vs z))):awp P C (.region id l.toArray true) Q s:=fun a w hs=>by
 obtain⟨vs,z,hsub⟩:=h0
 obtain⟨p,hp⟩:=hsub C a w hs
 have hs':SR C p _ a { w with drawn:=w.drawn+1 }:=hp.below (w':=w.drew) ((Below.refl _ _).drew) (fun _ h=>h) (fun _ h=>.inl h) hp.rb
 refine wpIn_region_any hm ?_
 have e:(fun j=>(Array.replicate l.toArray.size false).getD j true)=fun j=>decide (l.length≤j):=by
  funext j
  by_cases h:j<l.length
  ·have:¬ l.length≤j:=by omega
   simp [h,this]
  ·have:l.length≤j:=by omega
   simp [h,this]
 refine inv_anyY (Q:=fun s=>Q .normal s) (n:=n) (F:=F) (R:=R) (fun s a w hq hs=>⟨s,hs,hq⟩) hd hu (by simpa using hstep) hend _ vs z _ _ _ (by simp) (fun j hj=>?_) ?_ ?_
 ·exfalso
  simp only[Array.getD_eq_getD_getElem?,Array.getElem?_replicate] at hj
  split at hj<;>simp at hj
 ·have:∀ m,unl (Array.replicate l.toArray.size false) m≤m:=by
   intro m
   induction m with
   | zero=>exact Nat.le_refl _
   | succ m ih=>simp only[unl];split<;>omega
  exact this _
 ·rw[e]
  exact⟨p,hs'⟩
def ypostR (P:Program) (rv:ResultVar) (rest:List (List RV)):Exit→AS→Prop
 | .normal,s=>∃ b l,resC (resA P s rv) (fun v=>v = .r (.bo b))∧(s.rows 999).c = .gh P l false (if b then some rest else none)
 | .ret,s=>∃ b l,resC (resA P s rv) (fun v=>v = .r (.bo b))∧(s.rows 999).c = .gh P l false (if b then some rest else none)
 | _,_=>False
theorem ycalls_stR {P:Program}{f:FuncId}{fn:Func}{c:Code}{n:Nat}{rv:ResultVar}{args:Nat→List RV}{xs:List (List RV)}(hf:P.funcs[f]? = some fn) (hb:fn.body=some c) (hc:callable P f=true) (hn:fn.ntmps=n) (hres:fn.results.toList=[rv])
 (hargs:∀ l,(args l).length≤n) (h:∀ C l rest,C.rd=none→awp P C c (ypostR P rv rest) (st n (argL 0 (args l)) (fun _=>0) [(999,.gh P l false (some (xs++rest)))])):YCalls P f args xs:=by
 refine⟨hc,fun rest w R vs X Ψ Θ hR hV hz hRX hn0 hY hΨ hΘ hRΘ hX=>?_⟩
 have hlen:=RV.relV_length hV
 simp only[Array.length_toList] at hlen
 have hal:=hargs X.l
 obtain⟨X',hX'⟩:∃ X':XS,X'=X.since w.heap.size R Ψ Θ:=⟨_,rfl⟩
 have hl':X'.l=X.l:=by rw[hX'];rfl
 have hz':X'.z=false:=by rw[hX'];exact hz
 have hn':X'.n0=w.heap.size:=by rw[hX'];rfl
 have hR':X'.R=R:=by rw[hX'];rfl
 have hY':YOk P X':=by rw[hX'];exact hY.since hRX hn0
 have hXX:X'.X (some (xs++rest)) w Ψ Θ:=by rw[hX'];exact⟨hX,Nat.le_refl _,fun b h=>.inl h,fun b h=>.inl h⟩
 let C:Ctx:={ w0:=w,R0:=R,bor:=Θ,pin:=fun _=>none,X:=X' }
 let p:Plan:={ R:=R,β:=fun _=>none,γ:=fun _=>1,X:=X',Ψ:=Ψ,Θ:=Θ }
 have hs:SR C p (st n (argL 0 (args X.l)) (fun _=>0) [(999,.gh P X.l false (some (xs++rest)))]) { tmps:=vs++Array.replicate (fn.ntmps-vs.size) undef,defers:=[] } w:={
  base:=⟨rfl,rfl,rfl,Nat.le_refl _,fun _ _ _ _=>rfl⟩
  r0:=fun _ h=>h
  rn:=fun _ h=>.inl h
  rb:=hR
  tm:=fun t=>by
   show (look (argL 0 (args X.l)) t).rel _ _ _ _
   by_cases hmem:∃ x,(t,x)∈argL 0 (args X.l)
   ·cases e:(args X.l)[t]? with
    | none =>
      obtain⟨x,hx⟩:=hmem
      obtain⟨i,y,h1,h2⟩:=argL_mem _ hx
      simp only[Nat.zero_add,Prod.mk.injEq] at h1
      rw[← h1.1,e] at h2;cases h2
    | some x =>
      obtain⟨u,hu,hx⟩:=RV.relV_get hV e
      have:(vs++Array.replicate (fn.ntmps-vs.size) undef).getD t undef=u:=by
       have ht:t<vs.size:=by have:=(List.getElem?_eq_some_iff.1 hu).1;simpa using this
       rw[Array.getD_eq_getD_getElem?,Array.getElem?_append_left ht]
       simp only[Array.getElem?_toList] at hu
       rw[hu];rfl
      have e2:=argL_look (k:=0) e
      rw[Nat.zero_add] at e2
      rw[this,e2]
      simpa only[AV.rel] using hx
   ·rw[look_none hmem]
    exact AV.rel_un _ _ _ _
  sz:=by simp only[Array.size_append,Array.size_replicate,st];omega
  ex:={
   px:=rfl
   n0:=by show X'.n0≤w.heap.size;rw[hn'];exact Nat.le_refl _
   ψ0:=fun _ b hb=>by show X'.R b;rw[hR'];exact hb
   ψl:=hΨ
   θl:=hΘ
   ψb:=fun k b h=>by cases h
   ψr:=hRΘ
   ψo:=fun b h=>h.elim
   θo:=fun b h _=>h
   bo:=fun b h=>h.elim (hΘ b) (fun h=>h.elim)
   ψn:=fun hn=>(hn _ _ _ _ hXX).elim
   hd:=fun b h=>h.elim
   rm:=fun _=>rfl
   df:=⟨[],rfl,List.nodup_nil,fun D hD=>by cases hD⟩ }
  rw:=fun k=>by
   show zrl w p _ k (lookc [(999,RowC.gh P X.l false (some (xs++rest)))] k)
   rw[zlc,lookc_nil]
   split
   ·rename_i e
    simp only[zrl];exact⟨e,rfl,rfl,hl',hz',hY',hXX⟩
   ·simp only[zrl];exact⟨rfl,rfl⟩
  bl:=fun k b h=>by simp [p] at h
  ij:=fun k k' b h=>by simp [p] at h
  cap:=fun k=>by simp [p,maxLen]
  pn:=fun k x h=>by cases h
  lk:=fun j km n l cur h _=>by
   have h':lookc [(999,RowC.gh P X.l false (some (xs++rest)))] j = .mi km n l cur:=h
   rw[zlc,lookc_nil] at h'
   split at h'<;>cases h' }
 refine callsIn_wide.1 (callsIn_of_wp_marks (n:=0) hf hb trivial (wpIn_mono (h C X.l rest rfl _ w ⟨p,hs⟩) ?_))
 rintro e a' w' ⟨s',⟨p',hs'⟩,hq⟩
 have fin:∀ (a':Act) (w':World),SR C p' s' a' w'→(∃ b l,resC (resA P s' rv) (fun v=>v = .r (.bo b))∧(s'.rows 999).c = .gh P l false (if b then some rest else none)) →
  ∃ v, (results fn a'.tmps).run P w' = .ok v w'∧(w'.os=w.os∧w'.tape=w.tape∧w'.output=w.output∧w.heap.size≤w'.heap.size∧(∀ b, b<w.heap.size→¬ Θ b→w'.heap[b]? = w.heap[b]?) ∧
    ∃ Ψ' Θ':Nat→Prop,(∀ b,Ψ' b→Ψ b∨R b∨w.heap.size≤b)∧(∀ b,Θ' b→Θ b∨w.heap.size≤b)∧(∀ b,Ψ' b→b<w'.heap.size)∧(∀ b,Θ' b→b<w'.heap.size) ∧
    ((Ending.returned v = .returned (.bool true)∧X.X (some rest) w' Ψ' Θ')∨(Ending.returned v = .returned (.bool false)∧X.X none w' Ψ' Θ'))):=fun a' w' hs' ⟨b,l,hb1,hb2⟩=>by
  obtain⟨v,hu0,hv0⟩:=run_result hs' rv hb1.1
  have hv:v = .bool b:=by
   rw[hb1.2] at hv0
   simpa only[AV.rel,RV.rel] using hv0
  have hu:(resOp a'.tmps rv).run P w' = .ok (.bool b) w':=by rw[← hv];exact hu0
  have hm:(fn.results.mapM (resOp a'.tmps)).run P w' = .ok #[.bool b] w':=by
   rw[Array.mapM_eq_mapM_toList,hres]
   simp only[Sem.run_map,List.mapM_cons,List.mapM_nil,Sem.run_bind,hu,Result.andThen_ok,Sem.run_pure]
  have hpx:p'.X=X':=hs'.ex.px
  have hr:=hs'.rw 999
  rw[hb2] at hr
  simp only[zrl] at hr
  rw[hpx] at hr
  have hXe:=hr.2.2.2.2.2.2
  refine⟨.bool b,by rw[results_eq,Sem.run_bind,hm];simp,hs'.base.os,hs'.base.tape,hs'.base.output,hs'.base.size,fun k hk ht=>hs'.base.block k hk ht (fun h=>h),p'.Ψ,p'.Θ,?_,?_,hs'.ex.ψl,hs'.ex.θl,?_⟩
  ·rw[hX'] at hXe;exact hXe.2.2.1
  ·rw[hX'] at hXe;exact hXe.2.2.2
  ·rw[hX'] at hXe
   cases b
   ·exact .inr ⟨rfl,hXe.1⟩
   ·exact .inl ⟨rfl,hXe.1⟩
 cases e with
 | normal=>exact hs'.leave fun a'' w'' _ hs''=>fin a'' w'' hs'' hq
 | ret=>exact hs'.leave fun a'' w'' _ hs''=>fin a'' w'' hs'' hq
 | _=>exact hq.elim
end Go.Oc

namespace Go.Oc
open Go Go.RowKit
def gop (P:Program) (o:Oper) (K:AS→Prop) (s:AS):Prop :=
 ∀ (C:Ctx) (p:Plan) (a:Act) (w:World), SR C p s a w→(∀ t, o.dst=some t→t<s.n)→(∀ c, o.op ≠ .defer c)→∀ (KW:Act→World→Prop) (Q:Exit→Act→World→Prop),
   (∀ a' w' p' s',SR C p' s' a' w'→s'.n=s.n→K s'→KW a' w')→o.wpIn (fnc C.rd) 0 P a w KW Q
section
variable {P:Program}{C:Ctx}{s:AS}{Q:Exit→AS→Prop}{ops:Array Oper}
theorem sops_gop {o:Oper}{l:List Oper}(hg:o.guard=none) (hd:∀ t,o.dst=some t→t<s.n) (hnd:∀ c,o.op ≠ .defer c) (h:gop P o (fun s'=>sops P C ops l Q s') s):sops P C ops (o::l) Q s:=fun a w ⟨p,hs⟩=>by
 unfold wpListIn
 rw[if_pos (wantA_sound hs (by simp [wantA,hg]))]
 exact h C p a w hs hd hnd _ _ fun a' w' p' s' hs' hn hK=>hK a' w' ⟨p',hs'⟩
theorem app_n' (s:AS) (d:Option Nat) (v:AV):(s.put d v).n=s.n:=by cases d<;>rfl
theorem gop_strIndex {o:Oper}{x i:Operand}{t:TypeId}{K:AS→Prop}(ho:o.op = .index t x i) {str:ByteArray}{k:IntKind}{j:Int}{b:UInt8}(hx:s.ev x = .r (.st str)) (hi:s.ev i = .r (.it k j)) (hu:P.underlying t=some .string) (h0:0≤j) (hb:str[j.toNat]? = some b)
 (hK:K (s.put o.dst (.r (.it .u8 b.toNat)))):gop P o K s:=by
 intro C p a w h hd hnd KW Q hKW
 have hxv:a.eval x = .string str:=by
  have:=h.ev x
  rw[hx] at this
  simpa only[AV.rel,RV.rel] using this
 have hiv:=ev_it h hi
 have hr:(execOp a.eval o).run P w = .ok (.value (.int .u8 b.toNat)) w:=by
  simp [execOp,ho,hxv,hiv,Instr.index,asIntOf,run_underlying hu,h0,hb]
 refine wpIn_of_wp hnd ?_
 unfold Oper.wp
 rw[hr]
 have hput:=h.put' (d:=o.dst) (av:=.r (.it .u8 b.toNat)) (v:=.int .u8 b.toNat) (by simp only[AV.rel,RV.rel]) hd
 exact hKW _ _ p _ hput (by cases o.dst<;>rfl) hK
end
section
variable {P:Program}{s:AS}
theorem gop_clip {P:Program}{s:AS}{o:Oper}{x hi mx:Operand}{t:TypeId}{K:AS→Prop}(ho:o.op = .slice t x none (some hi) (some mx)) {e esz eb:Nat}{ez:List RV}{ssz:Nat}{sagg:Bool}{sz0:List RV}(e1:tyq P t=some ⟨.slice e esz eb ez,ssz,sagg,sz0⟩)
 {sz:Nat}{es:List (List RV)}(hx:s.ev x = .r (.sl sz es)) {k1 k2:IntKind}(hh:s.ev hi = .r (.it k1 (es.length:Int))) (hm:s.ev mx = .r (.it k2 (es.length:Int))) (hK:K (s.put o.dst (.r (if es=[] then .ns else .sx sz es)))):gop P o K s:=by
 intro C p a w h hd hnd KW Q hKW
 obtain⟨hu,hok,hsz,_,_⟩:=tyq_slice e1
 obtain⟨A,c,hv,hc1,hc2,hne⟩:=ev_sl h hx
 have hr0:=run_cut3 (P:=P) (w:=w) hu hok (A:=A) (len:=es.length) (cap:=c) (kh:=k1) (km:=k2) (lo:=none) (l:=0) (q:=es.length) (m:=es.length) (.inl ⟨rfl,rfl⟩) (Nat.zero_le _) (Nat.le_refl _) hc1
 have hr:(execOp a.eval o).run P w = .ok (.value (.slice (if es.length=0 then A else A.map (·.add (0*P.cellsOf e))) (es.length-0) (es.length-0))) w:=by
  simp only[execOp,ho,Sem.run_bind,hv,Option.map_none,Option.map_some,ev_it h hh,ev_it h hm,hr0,Result.andThen_ok,Sem.run_pure]
 have hrel:(AV.r (if es=[] then .ns else .sx sz es)).rel w p s.ver (.slice (if es.length=0 then A else A.map (·.add (0*P.cellsOf e))) (es.length-0) (es.length-0)):=by
  simp only[AV.rel]
  by_cases h0:es=[]
  ·subst h0
   simp only[if_true,RV.rel,List.length_nil,Nat.sub_zero];exact⟨_,rfl⟩
  ·obtain⟨ad,rfl,hR,hE⟩:=hne h0
   have hl:¬ es.length=0:=fun e=>h0 (List.length_eq_zero_iff.1 e)
   simp only[if_neg h0,if_neg hl,RV.rel,Nat.sub_zero,Nat.zero_mul,Option.map_some];exact⟨ad,rfl,h0,Nat.le_trans hc1 hc2,hR,hE⟩
 refine wpIn_of_wp hnd ?_
 unfold Oper.wp
 rw[hr]
 exact hKW _ _ p _ (h.put' hrel hd) (app_n' _ _ _) hK
end
section
variable {P:Program}{C:Ctx}{s:AS}{a:Act}{w:World}{ops:Array Oper}
end
section
variable {P:Program}{C:Ctx}{s:AS}{a:Act}{w:World}{ops:Array Oper}
end
end Go.Oc

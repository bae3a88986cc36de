/- Part 11 of the texts of this claim. -/
import Derived.Test.YtgfbenanljjgaaaGreatVD10
import Derived.Test.YtgfbenanljjgaaaGreatVD6
import Derived.Test.YtgfbenanljjgaaaGreatVD8
set_option linter.unusedSimpArgs false
set_option linter.unusedVariables false
namespace Go.Proofs.YtgfbenanljjgaaaGreat.Du.Th.Ai
open Go Go.Oc
set_option maxRecDepth 8000
set_option maxHeartbeats 2000000
abbrev capM (u:Addr) (left:Nat) (k:Nat):List RV:=[.rp [.vl u],.rp [i64 (left:Int)],.rp [i64 ((k:Int)+1)]]
theorem means_ok (u:Addr) (left k:Nat):ACalls Tryz.prog 78 [.vl u,i64 (left:Int),i64 ((k:Int)+1)] (.fn 111 (capM u left k)):=by
 refine zas (rs:=[.fn 111 (capM u left k)]) [.tmp 6] Tryz.func78 rfl (by kernel_rfl) Tryz.ntmps78 rfl (by simp) rfl fun C vs=>?_
 apply zq
 refine zb fun K hK=>?_;simp only[go_sem];apply hK;clear hK K
 apply zq
 refine zb fun K hK=>?_;simp only[go_sem];apply hK;clear hK K;apply zw (zk [3,4,5,6]);simp only[go_sem];apply ze;simp only[go_sem];exact leL_refl.le_refl _
theorem visR_A (r:Rk) (s:Bool) (nums:List Int) (st:Nat) (K:List Int):(visR r s nums st K).map AV.r=visA r s nums st K:=by simp [Function.comp]
def enumM (l:List Int):List (List RV):=l.mapIdx fun i n=>[i64 (i:Int),i64 n]
theorem means1_ok {r:Rk}{s:Bool}{nums:List Int}{st:Nat}(h:VsOk r s nums st) {k:Nat}(hk:k≤2) (hV:ValC r s nums st k) (u:Addr) (left:Nat) (K:List Int) (hlo:lowG r.out≤left) (hle:left≤st) (hK:OkK r s nums (ownV nums st) K) :
 JCalls Tryz.prog 111 u (visR r s nums st K) (visR r s nums st (aimsM r s (ownV nums st) left (valM r s nums (ownV nums st) k) r.aims K).2) (capM u left k) (enumM (aimsM r s (ownV nums st) left (valM r s nums (ownV nums st) k) r.aims K).1):=by
 have hst:=h.ok.start
 have hst2:=h.hi
 obtain⟨f,hf⟩:∃ f,f=valM r s nums (ownV nums st) k:=⟨_,rfl⟩
 have hMf:MfOk r s nums (ownV nums st) left f (valA r s nums (ownV nums st) k):=fun x K' q1 q2 q3=>by rw[hf];exact valM_ok h.ok h.nums h.own k (by omega) x K' q1 (by omega) q3
 have hmn:=fun ix a ha K' (hK':OkK r s nums (ownV nums st) K')=>mean_ok h hk hV ix a ha left K' hlo hle hK'
 rw[← hf] at hmn ⊢
 have hst':∀ i,OkK r s nums (ownV nums st) (aimsM r s (ownV nums st) left f (r.aims.take i) K).2:=fun i=>(aimsM_ok hMf _ K (fun a ha=>h.ok.aims a (List.mem_of_mem_take ha)) hK).2
 obtain⟨xs,hxs⟩:∃ xs,xs=(aimsM r s (ownV nums st) left f r.aims K).1:=⟨_,rfl⟩
 have hxl:xs.length=r.aims.length:=by rw[hxs,aimsM_len]
 have hxat:∀ i a,r.aims[i]? = some a→xs[i]? = some (meanM r s (ownV nums st) left f a (aimsM r s (ownV nums st) left f (r.aims.take i) K).2).1:=fun i a ha=>by
  have e:r.aims=r.aims.take i++a::r.aims.drop (i+1):=by
   have:=drop_of_opt ha
   rw[← this,List.take_append_drop]
  have gen:∀ (l m:List Am) (b:Am) (K:List Int),(aimsM r s (ownV nums st) left f (l++b::m) K).1[l.length]? = some (meanM r s (ownV nums st) left f b (aimsM r s (ownV nums st) left f l K).2).1:=by
   intro l
   induction l with
   | nil=>intro m b K;rfl
   | cons c l ih=>intro m b K;simp only[List.cons_append,aimsM,List.length_cons,List.getElem?_cons_succ];exact ih m b _
  have hl:(r.aims.take i).length=i:=by rw[List.length_take];have:=(List.getElem?_eq_some_iff.1 ha).1;omega
  have:=gen (r.aims.take i) (r.aims.drop (i+1)) a K
  rw[hl,← e] at this
  rw[hxs];exact this
 rw[← hxs]
 refine jcalls_st Tryz.func111 rfl (by kernel_rfl) Tryz.ntmps111 rfl (by simp) fun C ll=>?_
 rw[visR_A]
 apply zq
 refine awp_long ?_
 refine sops_take 1 (by kernel_rfl) fun K hK=>?_
 simp only[go_sem,List.take_succ_cons,List.take_zero,List.drop_succ_cons,List.drop_zero,List.append_eq,List.cons_append,List.nil_append,argL]
 refine hK _ rfl ?_
 clear hK K
 refine sops_sub (sub_vl 6 (k:=1000) (u:=u) (us:=[.pointer (some u)]) (by try simp only[go_sem]) (by rfl)) ?_
 refine sops_sub (sub_unname 6 (k:=1000) (m:=0) (u:=u) (by try simp only[go_sem])) ?_
 refine sops_sub (zk [0,1,2,3,6]) ?_
 simp only[go_sem]
 refine sops_end (by kernel_rfl) fun K hK=>?_
 simp only[go_sem,List.drop_succ_cons,List.drop_zero,List.append_eq,List.cons_append,List.nil_append,ty203]
 intro _
 apply hK;clear hK K;apply zw (zk [0,1,2,3,14,15,16]);simp only[go_sem];apply zd
 refine awp_upto0 (n:=29) r.aims.length (fun i vs=>[(0,.r (.yl ll)),(1,.r (.rp [.vl u])),(2,.r (.rp [i64 (left:Int)])),(3,.r (.rp [i64 ((k:Int)+1)])),(14,.r (aimsR r.aims)),(15,.r (i64 r.aims.length)),(16,.r (i64 i))])
  (fun i=>[(998,.sus [.pu 1000 0 u] [.pointer (some u)]),(999,.gh Tryz.prog ll true (some ((enumM xs).drop i))),(1000,.box (visA r s nums st (aimsM r s (ownV nums st) left f (r.aims.take i) K).2))]) (fun _=>True) 0 (fit0_of [] (by intro j hj;(try simp only[upd]);(repeat' split);all_goals first|rfl|omega) ?_ ?_) (by omega) trivial ?_
 ·try simp only[go_sem]
 ·try simp only[go_sem]
  rfl
 ·intro i vs hvl hi _
  have hv0:=hvl 1000 (by omega)
  apply zq
  refine zb fun K hK=>?_;simp only[go_sem];apply hK;clear hK K;apply zw (zk [0,1,2,3,14,15,16,17]);simp only[go_sem]
  apply zq
  apply zc rfl<;>intro hc<;>(try simp only[go_sem] at hc)
  ·have hci:=hc
   obtain⟨a,ha⟩:=zol hci
   have hcall:=hmn i a ha _ (hst' i)
   have hx:=hxat i a ha
   have hsn:aimsM r s (ownV nums st) left f (r.aims.take (i+1)) K=((aimsM r s (ownV nums st) left f (r.aims.take i) K).1++[(meanM r s (ownV nums st) left f a (aimsM r s (ownV nums st) left f (r.aims.take i) K).2).1],(meanM r s (ownV nums st) left f a (aimsM r s (ownV nums st) left f (r.aims.take i) K).2).2):=by
    rw[zto ha,aimsM_snoc]
   rw[hsn]
   generalize aimsM r s (ownV nums st) left f (r.aims.take i) K=B at *
   generalize meanM r s (ownV nums st) left f a B.2=N at *
   have he:(enumM xs).drop i=[i64 (i:Int),i64 N.1]::(enumM xs).drop (i+1):=by
    refine drop_of_opt ?_
    simp [enumM,hx]
   apply zx
   try simp only[go_sem]
   apply zq
   apply zd
   apply zq
   refine zb fun K hK=>?_;simp only[go_sem];apply hK;clear hK K;apply zw (zk [0,1,2,3,5,14,15,16]);simp only[go_sem]
   apply zq
   refine awp_long ?_
   refine sops_take 3 (by kernel_rfl) fun K hK=>?_
   simp only[go_sem,List.take_succ_cons,List.take_zero,List.drop_succ_cons,List.drop_zero,List.append_eq,List.cons_append,List.nil_append]
   refine hK _ rfl ?_
   clear hK K
   refine sops_sub (sub_vl 21 (k:=1000) (u:=u) (us:=[.pointer (some u)]) (by try simp only[go_sem]) (by rfl)) ?_
   refine sops_sub (sub_unname 21 (k:=1000) (m:=0) (u:=u) (by try simp only[go_sem])) ?_
   refine sops_sub (zk [0,1,2,3,5,14,15,16,19,20,21]) ?_
   simp only[go_sem]
   refine sops_take 4 (by kernel_rfl) fun K hK=>?_
   simp only[go_sem,List.take_succ_cons,List.take_zero,List.drop_succ_cons,List.drop_zero,List.append_eq,List.cons_append,List.nil_append]
   refine xcall_mut (hcall) [(1000,1000)] rfl (by simp only[go_sem,i64,ints,lend_tA,back_tA,hv0]) (by simp only[go_sem,i64,ints,lend_tA,back_tA,hv0]) (by rfl) (by rfl) ?_
   (try simp only[go_sem,lend_tA,back_tA,hv0])
   refine hK _ rfl ?_
   clear hK K
   refine sops_sub (zk [0,1,2,3,14,15,16,19,20,25]) ?_
   simp only[go_sem]
   refine sops_end (by kernel_rfl) fun K hK=>?_
   simp only[go_sem,List.drop_succ_cons,List.drop_zero,List.append_eq,List.cons_append,List.nil_append]
   refine xcall_yield (z:=true) (e:=[i64 (i:Int),i64 N.1]) (rest:=(enumM xs).drop (i+1)) (by simp only[go_sem,he]) rfl (by simp only[go_sem]) (.inl rfl) ?_ ?_
   ·simp only[go_sem];apply hK;clear hK K;apply zw (zk [0,1,2,3,14,15,16,27]);simp only[go_sem]
    apply zc rfl<;>intro hc<;>(try simp only[go_sem] at hc)
    apply zx
    try simp only[go_sem]
    refine zb fun K hK=>?_;simp only[go_sem];(try simp (disch:=omega) only[zI]);apply hK;clear hK K
    try simp only[go_sem]
    refine⟨hci,fit0_of [] (by intro j hj;(try simp only[upd]);(repeat' split);all_goals first|rfl|omega|exact hvl _ hj) ?_ ?_⟩
    ·try simp only[go_sem]
    ·try simp only[go_sem]
   ·simp only[go_sem];apply hK;clear hK K;apply zw (zk [27]);simp only[go_sem]
    apply zc rfl<;>intro hc<;>(try simp only[go_sem] at hc)
    apply ze;simp only[go_sem];exact .inl ⟨_,_,rfl⟩
  ·apply zf;simp only[go_sem]
   have hil:i=r.aims.length:=by omega
   subst hil
   have h0:(enumM xs).drop r.aims.length=[]:=List.drop_eq_nil_of_le (by simp [enumM];omega)
   have e3:r.aims.take r.aims.length=r.aims:=List.take_length
   rw[h0,e3]
   refine .inr ⟨⟨ll,true,by simp only[go_sem]⟩,?_⟩
   rw[visR_A]
   try simp only[go_sem]
set_option maxHeartbeats 4000000
theorem visA_drop {r:Rk}{s:Bool}{nums:List Int}{st:Nat}{K:List Int}{j:Nat}{x:Int}(h:K[j]? = some x):(visA r s nums st K).drop (2+j) = .r (i64 x)::(visA r s nums st K).drop (2+j+1):=by
 refine drop_of_opt ?_
 rw[show 2+j=j+1+1 by omega,List.getElem?_cons_succ,List.getElem?_cons_succ,List.getElem?_map,h]
 rfl
theorem visA_set {r:Rk}{s:Bool}{nums:List Int}{st:Nat}{K:List Int}{j:Nat}{y:Int}(h:j<K.length):(visA r s nums st K).take (2+j)++(AV.r (i64 y)::(visA r s nums st K).drop (2+j+1))=visA r s nums st (K.set j y):=by
 have e:(visA r s nums st K).take (2+j)++(AV.r (i64 y)::(visA r s nums st K).drop (2+j+1))=(visA r s nums st K).set (2+j) (AV.r (i64 y)):=by
  rw[List.set_eq_take_append_cons_drop,if_pos (by simp;omega)]
 rw[e,show 2+j=j+1+1 by omega,List.set_cons_succ,List.set_cons_succ]
 simp [List.map_set]
theorem value0_ok {r:Rk}{s:Bool}{nums:List Int}{st:Nat}(h:VsOk r s nums st):ValC r s nums st 0:=fun left K hlo hle hK=>by
 have hst:=h.ok.start
 have hst2:=h.hi
 have hopt:=h.opt (x:=left) (by omega) (by omega)
 simp only[Int.toNat_natCast] at hopt
 have hnl:left<nums.length:=by rw[h.len];omega
 have e:valM r s nums (ownV nums st) 0 left K=(nums.getD left 0,K):=by simp [valM]
 rw[e]
 refine mcalls_st (n:=51) (rs:=[.r (i64 (nums.getD left 0))]) _ _ [.cell 6 3] Tryz.func160 rfl (by kernel_rfl) Tryz.ntmps160 rfl (by simp) rfl rfl fun C=>?_
 apply zq
 refine zb fun K hK=>?_;simp only[go_sem];apply hK;clear hK K;apply zw (zk [0,1,2,6]);simp only[go_sem]
 repeat apply zq
 refine zb fun K hK=>?_;simp only[go_sem];apply hK;clear hK K;apply zw (zk [0,1,2,6,11]);simp only[go_sem]
 apply zc rfl<;>intro hc<;>(try simp only[go_sem] at hc)
 apply zq
 refine zb fun K hK=>?_;simp only[go_sem,ty203,hopt,hnl];apply hK;clear hK K;apply zw (zk [6]);simp only[go_sem];apply ze;simp only[go_sem];exact⟨frzPL_tA _ _ _,by rw[frzL_tA]⟩
theorem value1_ok {r:Rk}{s:Bool}{nums:List Int}{st:Nat}(h:VsOk r s nums st) {k:Nat}(hk:k≤2) (hV:ValC r s nums st k):ValC r s nums st (k+1):=fun left K hlo hle hK=>by
 have hst:=h.ok.start
 have hst2:=h.hi
 have hlg:=lowG_le r.out
 have hix:ixK (k+1) (left:Int)=61*(k+1)+left:=by simp [ixK]
 obtain⟨j,hj⟩:∃ j,j=61*(k+1)+left:=⟨_,rfl⟩
 have hjl:j<K.length:=by rw[hK.len];omega
 obtain⟨x,hx⟩:=zol hjl
 have gx:K.getD j 0=x:=by simp [List.getD,hx]
 have hx0:0≤x∧x≤2000000001:=by
  have h1:=hK.at_ (k+1) left (by omega) (by omega)
  have h2:=valA_le h.ok (s:=s) h.nums h.own (k+1) left
  rw[← hj,gx] at h1
  omega
 have hd:=visA_drop (r:=r) (s:=s) (nums:=nums) (st:=st) hx
 have hval:valM r s nums (ownV nums st) (k+1) left K=if 0<x then (x-1,K) else
  (leastA (aimsM r s (ownV nums st) left (valM r s nums (ownV nums st) k) r.aims K).1,
   (aimsM r s (ownV nums st) left (valM r s nums (ownV nums st) k) r.aims K).2.set j (leastA (aimsM r s (ownV nums st) left (valM r s nums (ownV nums st) k) r.aims K).1+1)):=by
  simp only[valM,hix,← hj,gx]
 rw[hval]
 have w1:IntKind.i64.wrap (x-1)=x-1:=by rw[zI]<;>omega
 refine mcalls_stO (n:=51) (rs:=[.r (i64 (if 0<x then (x-1,K) else
  (leastA (aimsM r s (ownV nums st) left (valM r s nums (ownV nums st) k) r.aims K).1,
   (aimsM r s (ownV nums st) left (valM r s nums (ownV nums st) k) r.aims K).2.set j (leastA (aimsM r s (ownV nums st) left (valM r s nums (ownV nums st) k) r.aims K).1+1))).1)]) _ _ [.cell 6 3] Tryz.func160 rfl (by kernel_rfl) Tryz.ntmps160 rfl (by simp) rfl rfl fun C hC=>?_
 apply zq
 refine zb fun K hK=>?_;simp only[go_sem];apply hK;clear hK K;apply zw (zk [0,1,2,6]);simp only[go_sem]
 have ek:(((k:Int)+1:Int) == 0)=false:=by simp;omega
 repeat apply zq
 refine zb fun K hK=>?_;simp only[go_sem,ek];apply hK;clear hK K;apply zw (zk [0,1,2,6,11]);simp only[go_sem]
 apply zc rfl<;>intro hc<;>(try simp only[go_sem] at hc)
 apply zx
 try simp only[go_sem]
 have ej:2+(k+1)*61+left*1=2+j:=by omega
 apply zq
 refine zb fun K hK=>?_;simp only[go_sem,ty203,ty201,ty200]
 refine⟨⟨by omega,by omega⟩,by omega,?_⟩
 rw[ej]
 apply hK;clear hK K;apply zw (zk [0,1,2,6,7]);simp only[go_sem]
 repeat apply zq
 refine zb fun K hK=>?_;simp only[go_sem,hd];apply hK;clear hK K;apply zw (zk [0,1,2,6,7,32]);simp only[go_sem]
 by_cases hp:0<x
 ·have ep:decide (0<x)=true:=by simpa using hp
  rw[if_pos hp]
  apply zc rfl<;>intro hc<;>(try simp only[go_sem] at hc)
  ·apply zq
   refine zb fun K hK=>?_;simp only[go_sem,hd,w1];apply hK;clear hK K;apply zw (zk [6]);simp only[go_sem];apply ze;simp only[go_sem];exact⟨frzPL_tA _ _ _,by rw[frzL_tA]⟩
  ·exact absurd hp hc
 ·have ep:decide (0<x)=false:=by simpa using hp
  rw[if_neg hp]
  apply zc rfl<;>intro hc<;>(try simp only[go_sem] at hc)
  ·exact absurd hc hp
  apply zx
  try simp only[go_sem]
  apply zq
  refine zb fun K hK=>?_;simp only[go_sem];apply hK;clear hK K;apply zw (zk [0,1,2,6,7]);simp only[go_sem]
  refine awp_name 0 rfl fun u=>?_
  obtain⟨A,hA⟩:∃ A,A=aimsM r s (ownV nums st) left (valM r s nums (ownV nums st) k) r.aims K:=⟨_,rfl⟩
  have hJ:=means1_ok h hk hV u left K hlo hle hK
  have hMf:MfOk r s nums (ownV nums st) left (valM r s nums (ownV nums st) k) (valA r s nums (ownV nums st) k):=fun x K' q1 q2 q3=>valM_ok h.ok h.nums h.own k (by omega) x K' q1 (by omega) q3
  obtain⟨hA1,hA2⟩:=aimsM_ok hMf r.aims K h.ok.aims hK
  rw[← hA] at hJ hA1 hA2 ⊢
  have hAv:∀ x∈A.1,VOk x:=fun x hx=>by
   rw[hA1] at hx
   obtain⟨a,ha,rfl⟩:=List.mem_map.1 hx
   exact meanA_vok h.own (valA_vok h.ok h.nums h.own k) (h.ok.aims a ha)
  repeat apply zq
  refine zb fun K hK=>?_;simp only[go_sem]
  refine zh (means_ok u left k) rfl (by simp only[go_sem,i64,ints]) (by simp only[go_sem,i64,ints]) ?_
  (try simp only[go_sem]);apply hK;clear hK K;apply zw (zk [0,6,7,40]);simp only[go_sem];apply zd
  refine Eq.mp (congrArg (fun z=>awp _ _ _ _ (Go.Oc.st 51 _ _ [_,(1000,RowC.box z)])) (visR_A r s nums st K)) ?_
  refine awp_rangeM (n:=51) (t:=40) ⟨hC.1,hC.2.1⟩ 1000 0 u (by omega) (hC.2.2 1000 rfl) (visR r s nums st K) (visR r s nums st A.2) (enumM A.1) hJ [0,6,7,40] (by decide)
   (fun vs=>[(0,.pu 1000 0 u),(6,.pt 6 (vs 6) 0),(7,.pt 1000 0 (2+j)),(40,.r (.fn 111 (capM u left k)))])
   (fun vs=>[(0,.r (.vl u)),(6,.pt 6 (vs 6) 0),(7,.r (.vl ⟨u.block,2+j,none⟩)),(40,.r (.fn 111 (capM u left k)))])
   (fun i vs=>[(6,.box [.r (i64 ((A.1.take i).foldl min 2000000000))])]) (fun _=>True) (upd (upd (fun _=>0) 6 1) 6 1) ?_ trivial ?_ ?_ ?_ (fun _ _=>rfl) (fun _=>rfl) (fun _=>rfl) ?_ (fun _ _=>rfl) ?_ ?_ ?_ ?_
  ·intro j hj;(try simp only[upd]);(repeat' split);all_goals first|rfl|omega
  ·rfl
  ·simp [AV.park,AV.parkL]
  ·simp [RowC.park,AV.park,AV.parkL]
  ·rfl
  ·decide
  ·intro e he
   obtain⟨i,hi⟩:=List.getElem?_of_mem he
   simp only[enumM,List.getElem?_mapIdx,Option.map_eq_some_iff] at hi
   obtain⟨a,_,rfl⟩:=hi
   rfl
  ·intro i e vs us C' he _ hvl
   obtain⟨n,hn⟩:∃ n,A.1[i]? = some n:=by
    simp only[enumM,List.getElem?_mapIdx,Option.map_eq_some_iff] at he
    obtain⟨a,ha,_⟩:=he
    exact⟨a,ha⟩
   have he':e=[i64 (i:Int),i64 n]:=by
    simp only[enumM,List.getElem?_mapIdx,hn,Option.map_some,Option.some.injEq] at he
    exact he.symm
   subst he'
   have hsn:(A.1.take (i+1)).foldl min 2000000000=min ((A.1.take i).foldl min 2000000000) n:=by
    rw[zto hn,List.foldl_append];rfl
   refine zb fun K hK=>?_;simp only[go_sem];apply hK;clear hK K
   refine⟨rfl,fun C''=>?_⟩
   apply zw (zk [0,6,7,9,40]);simp only[go_sem];apply zd;refine zb fun K hK=>?_;simp only[go_sem];apply hK;clear hK K
   try simp only[go_sem]
   rw[hsn]
   refine⟨vs,hvl,?_⟩
   exact sub_look _ (allEq_mem (by simp only[go_sem]))
  ·intro vs us hvl _
   have hv0:=hvl 1000 (by omega)
   have hel:(enumM A.1).length=A.1.length:=by simp [enumM]
   have hleast:A.1.foldl min 2000000000=leastA A.1:=rfl
   have hlv:=leastA_vok hAv
   have hjA:j<A.2.length:=by rw[hA2.len];omega
   obtain⟨y,hy⟩:=zol hjA
   have hdA:=visA_drop (r:=r) (s:=s) (nums:=nums) (st:=st) hy
   have hsA:=visA_set (r:=r) (s:=s) (nums:=nums) (st:=st) (y:=leastA A.1+1) hjA
   rw[hel,List.take_length,visR_A,hleast]
   generalize leastA A.1=m at *
   have wm:IntKind.i64.wrap (m+1)=m+1:=by unfold VOk at hlv;rw[zI]<;>omega
   try simp only[go_sem]
   refine zw (sub_wake rfl) ?_;refine zw (sub_vlo 7 0 (k:=1000) (off:=2+j) (u:=u) rfl rfl hv0) ?_;refine zw (sub_unname 0 rfl) ?_;apply zw (zk [0,6,7]);simp only[go_sem]
   have hs2:List.take (2+j) (visA r s nums st A.2)++AV.r (RV.it IntKind.i64 (m+1))::List.drop (2+j) (AV.r (i64 (st:Int))::tA A.2)=visA r s nums st (A.2.set j (m+1)):=hsA
   apply zq
   refine zb fun K hK=>?_;simp only[go_sem,hdA,wm]
   repeat refine⟨by omega,?_⟩
   apply hK;clear hK K;rw[hs2]
   apply zw (zk [6]);simp only[go_sem]
   apply zq
   refine zb fun K hK=>?_;simp only[go_sem];apply hK;clear hK K;apply zw (zk [6]);simp only[go_sem];apply ze;simp only[go_sem];exact⟨frzPL_tA _ _ _,by rw[frzL_tA]⟩
theorem value_ok {r:Rk}{s:Bool}{nums:List Int}{st:Nat}(h:VsOk r s nums st):∀ k,k≤3→ValC r s nums st k
 | 0,_=>value0_ok h
 | k+1,hk=>value1_ok h (by omega) (value_ok h k (by omega))
def zhA (r:Rk) (s:Bool) (nums:List Int) (st:Nat):Bool :=
 if s then decide (nums.getD st 0≤1000000+valA r s nums (nums.getD st 0) 3 st)
 else decide (1000000+valA r s nums (nums.getD st 0) 3 st≤nums.getD st 0) || decide (nums.getD st 0=2000000000)
def srch (f:Nat→Bool) (i j:Nat):Nat :=
 if h:i<j then (if f ((i+j) / 2) then srch f i ((i+j) / 2) else srch f ((i+j) / 2+1) j) else i
termination_by j-i
decreasing_by all_goals omega
theorem srch_spec (f:Nat→Bool) (i j:Nat) (hij:i≤j) (mono:∀ a b,i≤a→a≤b→b<j→f a=true→f b=true) :
 i≤srch f i j∧srch f i j≤j∧(∀ x,i≤x→x<srch f i j→f x=false)∧(srch f i j<j→f (srch f i j)=true):=by
 by_cases h:i<j
 ·rw[srch,dif_pos h]
  cases hf:f ((i+j) / 2)
  ·rw[if_neg (by simp)]
   obtain⟨h1,h2,h3,h4⟩:=srch_spec f ((i+j) / 2+1) j (by omega) fun a b q1 q2 q3 q4=>mono a b (by omega) q2 q3 q4
   refine⟨by omega,h2,fun x hx hx2=>?_,h4⟩
   by_cases hm:x≤(i+j) / 2
   ·cases hfx:f x
    ·rfl
    ·have:=mono x _ hx hm (by omega) hfx
     rw[hf] at this;cases this
   ·exact h3 x (by omega) hx2
  ·rw[if_pos rfl]
   obtain⟨h1,h2,h3,h4⟩:=srch_spec f i ((i+j) / 2) (by omega) fun a b q1 q2 q3 q4=>mono a b q1 q2 (by omega) q4
   refine⟨h1,by omega,h3,fun hlt=>?_⟩
   by_cases he:srch f i ((i+j) / 2)<(i+j) / 2
   ·exact h4 he
   ·have:srch f i ((i+j) / 2)=(i+j) / 2:=by omega
    rw[this];exact hf
 ·rw[srch,dif_neg h]
  exact⟨Nat.le_refl _,hij,fun x h1 h2=>by omega,fun h'=>by omega⟩
termination_by j-i
decreasing_by all_goals omega
def halv (f:Int→Bool) (good bad:Int):Int :=
 if h:1<max good bad-min good bad then
  (if f (min good bad+(max good bad-min good bad) / 2) then halv f (min good bad+(max good bad-min good bad) / 2) bad else halv f good (min good bad+(max good bad-min good bad) / 2))
 else good
termination_by (max good bad-min good bad).toNat
decreasing_by all_goals omega
theorem halv_up (f:Int→Bool) (good bad:Int) (h:bad<good) (mono:∀ a b,bad<a→a≤b→b<good→f a=true→f b=true) :
 bad<halv f good bad∧halv f good bad≤good∧(halv f good bad<good→f (halv f good bad)=true)∧∀ x,bad<x→x<halv f good bad→f x=false:=by
 rw[halv]
 have e1:max good bad=good:=by omega
 have e2:min good bad=bad:=by omega
 rw[e1,e2]
 split
 ·rename_i h1
  generalize hm:bad+(good-bad) / 2=m
  have hmr:bad<m∧m<good:=by omega
  cases hf:f m
  ·rw[if_neg (by simp)]
   obtain⟨g1,g2,g3,g4⟩:=halv_up f good m hmr.2 fun a b q1 q2 q3 q4=>mono a b (by omega) q2 q3 q4
   refine⟨by omega,g2,g3,fun x hx hx2=>?_⟩
   by_cases hxm:x≤m
   ·cases hfx:f x
    ·rfl
    ·have:=mono x m hx hxm hmr.2 hfx
     rw[hf] at this;cases this
   ·exact g4 x (by omega) hx2
  ·rw[if_pos rfl]
   obtain⟨g1,g2,g3,g4⟩:=halv_up f m bad hmr.1 fun a b q1 q2 q3 q4=>mono a b q1 q2 (by omega) q4
   refine⟨g1,by omega,fun hlt=>?_,g4⟩
   by_cases he:halv f m bad<m
   ·exact g3 he
   ·have:halv f m bad=m:=by omega
    rw[this];exact hf
 ·exact⟨h,Int.le_refl _,fun h'=>by omega,fun x q1 q2=>by omega⟩
termination_by (good-bad).toNat
decreasing_by all_goals omega
theorem halv_down (f:Int→Bool) (good bad:Int) (h:good<bad) (mono:∀ a b,good<a→a≤b→b<bad→f b=true→f a=true) :
 good≤halv f good bad∧halv f good bad<bad∧(good<halv f good bad→f (halv f good bad)=true)∧∀ x,halv f good bad<x→x<bad→f x=false:=by
 rw[halv]
 have e1:max good bad=bad:=by omega
 have e2:min good bad=good:=by omega
 rw[e1,e2]
 split
 ·rename_i h1
  generalize hm:good+(bad-good) / 2=m
  have hmr:good<m∧m<bad:=by omega
  cases hf:f m
  ·rw[if_neg (by simp)]
   obtain⟨g1,g2,g3,g4⟩:=halv_down f good m hmr.1 fun a b q1 q2 q3 q4=>mono a b q1 q2 (by omega) q4
   refine⟨g1,by omega,g3,fun x hx hx2=>?_⟩
   by_cases hxm:m≤x
   ·cases hfx:f x
    ·rfl
    ·have:=mono m x hmr.1 hxm hx2 hfx
     rw[hf] at this;cases this
   ·exact g4 x hx (by omega)
  ·rw[if_pos rfl]
   obtain⟨g1,g2,g3,g4⟩:=halv_down f m bad hmr.2 fun a b q1 q2 q3 q4=>mono a b (by omega) q2 q3 q4
   refine⟨by omega,g2,fun hlt=>?_,g4⟩
   by_cases he:m<halv f m bad
   ·exact g3 he
   ·have:halv f m bad=m:=by omega
    rw[this];exact hf
 ·exact⟨Int.le_refl _,h,fun h'=>by omega,fun x q1 q2=>by omega⟩
termination_by (bad-good).toNat
decreasing_by all_goals omega
def numA (r:Rk) (s:Bool) (nums:List Int) (st:Nat):Int :=
 if s then ((srch (fun k=>!zhA r s (nums.set st ((k:Int)+1)) st) 0 1000000000:Nat):Int)
 else if 1000000000<1000000+((srch (fun k=>zhA r s (nums.set st (1000000+(k:Int))) st) 0 999000001:Nat):Int) then 2000000000
 else 1000000+((srch (fun k=>zhA r s (nums.set st (1000000+(k:Int))) st) 0 999000001:Nat):Int)
def numB (r:Rk) (s:Bool) (nums:List Int) (st:Nat):Int :=
 let x:=if s then halv (fun n=>zhA r s (nums.set st n) st) 0 1000000001 else halv (fun n=>zhA r s (nums.set st n) st) 1000000001 999999
 if 1000000000<x then 2000000000 else x
theorem set_vok {nums:List Int}(h:∀ x∈nums,VOk x) (st:Nat) {n:Int}(hn:VOk n):∀ x∈nums.set st n,VOk x:=fun x hx=>by
 rcases List.mem_or_eq_of_mem_set hx with hx|rfl
 ·exact h x hx
 ·exact hn
theorem getD_set {nums:List Int}{st:Nat}(h:st<nums.length) (n:Int) (i:Nat):(nums.set st n).getD i 0=if st=i then n else nums.getD i 0:=by
 rw[List.getD_eq_getElem?_getD]
 split
 ·rename_i e;subst e;rw[List.getElem?_set_self h];rfl
 ·rename_i e;rw[List.getElem?_set_ne e,← List.getD_eq_getElem?_getD]
theorem val_step {r:Rk}(hr:ROk r) {s:Bool}{nums:List Int}{st:Nat}(hn:∀ x∈nums,VOk x) (hst:st<nums.length) (hlo:lowG r.out≤st) {n:Int}(h0:0≤n) (h1:n<1000000000) :
 LeV 1 (valA r s (nums.set st (n+1)) (n+1) 3 st) (valA r s (nums.set st n) n 3 st):=by
 refine valA_mono hr (by omega) (set_vok hn st (.inl ⟨by omega,by omega⟩)) (set_vok hn st (.inl ⟨by omega,by omega⟩)) (.inl ⟨by omega,by omega⟩) (.inl ⟨by omega,by omega⟩) (fun _=>⟨by omega,by omega⟩) (st:=st) (fun x _ _=>?_) 3 st hlo (Int.le_refl _)
 rw[getD_set hst,getD_set hst]
 split
 ·exact fun _=>⟨by omega,by omega⟩
 ·exact fun h=>⟨by omega,h⟩
theorem holds_up {r:Rk}(hr:ROk r) {nums:List Int}{st:Nat}(hn:∀ x∈nums,VOk x) (hst:st<nums.length) (hlo:lowG r.out≤st) {a b:Int}(h0:0≤a) (hab:a≤b) (h1:b≤1000000000) (ha:zhA r false (nums.set st a) st=true):zhA r false (nums.set st b) st=true:=by
 obtain⟨k,rfl⟩:∃ k:Nat,b=a+k:=⟨(b-a).toNat,by omega⟩
 clear hab
 induction k with
 | zero=>simpa using ha
 | succ k ih =>
   have ih:=ih (by omega)
   have hv:=val_step hr (s:=false) hn hst hlo (n:=a+k) (by omega) (by omega)
   have hle:=valA_le hr (s:=false) (set_vok hn st (n:=a+k) (.inl ⟨by omega,by omega⟩)) (own:=a+k) (.inl ⟨by omega,by omega⟩) 3 st
   have e:a+((k+1:Nat):Int)=a+k+1:=by omega
   rw[e]
   unfold zhA at ih ⊢
   simp only[getD_set hst,if_true,Bool.false_eq_true,if_false,Bool.or_eq_true,decide_eq_true_eq] at ih ⊢
   have h3:=hv (by omega)
   left;omega
theorem holds_down {r:Rk}(hr:ROk r) {nums:List Int}{st:Nat}(hn:∀ x∈nums,VOk x) (hst:st<nums.length) (hlo:lowG r.out≤st) {a b:Int}(h0:0≤a) (hab:a≤b) (h1:b≤1000000000) (ha:zhA r true (nums.set st b) st=true):zhA r true (nums.set st a) st=true:=by
 obtain⟨k,rfl⟩:∃ k:Nat,b=a+k:=⟨(b-a).toNat,by omega⟩
 clear hab
 induction k with
 | zero=>simpa using ha
 | succ k ih =>
   refine ih (by omega) ?_
   have hv:=val_step hr (s:=true) hn hst hlo (n:=a+k) (by omega) (by omega)
   have e:a+((k+1:Nat):Int)=a+k+1:=by omega
   rw[e] at ha
   unfold zhA at ha ⊢
   simp only[getD_set hst,if_true,decide_eq_true_eq] at ha ⊢
   by_cases hN:valA r true (nums.set st (a+k)) (a+k) 3 st=2000000000
   ·rw[hN];omega
   ·have:=hv hN;omega
theorem num_eq {r:Rk}(hr:ROk r) {s:Bool}{nums:List Int}{st:Nat}(hn:∀ x∈nums,VOk x) (hst:st<nums.length) (hlo:lowG r.out≤st):numA r s nums st=numB r s nums st:=by
 cases s
 ·obtain⟨h1,h2,h3,h4⟩:=srch_spec (fun k=>zhA r false (nums.set st (1000000+(k:Int))) st) 0 999000001 (by omega) fun a b q1 q2 q3 q4=>holds_up hr hn hst hlo (by omega) (by omega) (by omega) q4
  obtain⟨g1,g2,g3,g4⟩:=halv_up (fun n=>zhA r false (nums.set st n) st) 1000000001 999999 (by omega) fun a b q1 q2 q3 q4=>holds_up hr hn hst hlo (by omega) q2 (by omega) q4
  unfold numA numB
  simp only[Bool.false_eq_true,if_false]
  generalize srch (fun k=>zhA r false (nums.set st (1000000+(k:Int))) st) 0 999000001=k at *
  generalize halv (fun n=>zhA r false (nums.set st n) st) 1000000001 999999=x at *
  have:(1000000:Int)+k=x:=by
   rcases Int.lt_trichotomy (1000000+(k:Int)) x with h|h|h
   ·have e1:=g4 (1000000+(k:Int)) (by omega) h
    have e2:=h4 (by omega)
    exact absurd (e1.symm.trans e2) (by decide)
   ·exact h
   ·obtain⟨j,rfl⟩:∃ j:Nat,x=1000000+j:=⟨(x-1000000).toNat,by omega⟩
    have e1:=h3 j (by omega) (by omega)
    have e2:=g3 (by omega)
    exact absurd (e1.symm.trans e2) (by decide)
  rw[this]
 ·obtain⟨h1,h2,h3,h4⟩:=srch_spec (fun k=>!zhA r true (nums.set st ((k:Int)+1)) st) 0 1000000000 (by omega) fun a b q1 q2 q3 q4=>by
   simp only[Bool.not_eq_true'] at q4 ⊢
   cases hb:zhA r true (nums.set st ((b:Int)+1)) st
   ·rfl
   ·have:=holds_down hr hn hst hlo (a:=(a:Int)+1) (by omega) (by omega) (by omega) hb
    rw[q4] at this;cases this
  obtain⟨g1,g2,g3,g4⟩:=halv_down (fun n=>zhA r true (nums.set st n) st) 0 1000000001 (by omega) fun a b q1 q2 q3 q4=>holds_down hr hn hst hlo (by omega) q2 (by omega) q4
  unfold numA numB
  simp only[if_true]
  generalize srch (fun k=>!zhA r true (nums.set st ((k:Int)+1)) st) 0 1000000000=k at *
  generalize halv (fun n=>zhA r true (nums.set st n) st) 0 1000000001=x at *
  rw[if_neg (by omega)]
  rcases Int.lt_trichotomy (k:Int) x with h|h|h
  ·have e1:=g3 (by omega)
   have e2:=h4 (by omega)
   simp only[Bool.not_eq_true'] at e1 e2
   have:=holds_down hr hn hst hlo (a:=(k:Int)+1) (by omega) (by omega) (by omega) e1
   rw[e2] at this;cases this
  ·exact h
  ·have e1:=g4 k h (by omega)
   have e2:=h3 (k-1) (by omega) (by omega)
   have e:((k-1:Nat):Int)+1=k:=by omega
   simp only[Bool.not_eq_false'] at e1 e2
   rw[e,e1] at e2;cases e2
theorem numA_vok {r:Rk}(hr:ROk r) {s:Bool}{nums:List Int}{st:Nat}(hn:∀ x∈nums,VOk x) (hst:st<nums.length) (hlo:lowG r.out≤st):VOk (numA r s nums st):=by
 cases s
 ·have h2:=(srch_spec (fun k=>zhA r false (nums.set st (1000000+(k:Int))) st) 0 999000001 (by omega) fun a b q1 q2 q3 q4=>holds_up hr hn hst hlo (by omega) (by omega) (by omega) q4).2.1
  unfold numA VOk
  simp only[Bool.false_eq_true,if_false]
  split<;>omega
 ·have h2:=(srch_spec (fun k=>!zhA r true (nums.set st ((k:Int)+1)) st) 0 1000000000 (by omega) fun a b q1 q2 q3 q4=>by
   simp only[Bool.not_eq_true'] at q4 ⊢
   cases hb:zhA r true (nums.set st ((b:Int)+1)) st
   ·rfl
   ·have:=holds_down hr hn hst hlo (a:=(a:Int)+1) (by omega) (by omega) (by omega) hb
    rw[q4] at this;cases this).2.1
  unfold numA VOk
  simp only[if_true]
  omega
theorem numA_upper {r:Rk}(hr:ROk r) {nums:List Int}{st:Nat}(hn:∀ x∈nums,VOk x) (hst:st<nums.length) (hlo:lowG r.out≤st) {n:Int}(h0:1000000≤n∧n≤1000000000) (h1:zhA r false (nums.set st n) st=true) (h2:n=1000000∨zhA r false (nums.set st (n-1)) st=false):numA r false nums st=n:=by
 obtain⟨g1,g2,g3,g4⟩:=srch_spec (fun k=>zhA r false (nums.set st (1000000+(k:Int))) st) 0 999000001 (by omega) fun a b q1 q2 q3 q4=>holds_up hr hn hst hlo (by omega) (by omega) (by omega) q4
 unfold numA
 simp only[Bool.false_eq_true,if_false]
 generalize srch (fun k=>zhA r false (nums.set st (1000000+(k:Int))) st) 0 999000001=k at *
 have:(1000000:Int)+k=n:=by
  rcases Int.lt_trichotomy (1000000+(k:Int)) n with h|h|h
  ·have e:=g4 (by omega)
   rcases h2 with h2|h2
   ·omega
   ·have:=holds_up hr hn hst hlo (b:=n-1) (by omega) (by omega) (by omega) e
    rw[h2] at this;cases this
  ·exact h
  ·obtain⟨j,rfl⟩:∃ j:Nat,n=1000000+j:=⟨(n-1000000).toNat,by omega⟩
   have e:=g3 j (by omega) (by omega)
   exact absurd (h1.symm.trans e) (by decide)
 rw[this,if_neg (by omega)]
theorem numA_never {r:Rk}(hr:ROk r) {nums:List Int}{st:Nat}(hn:∀ x∈nums,VOk x) (hst:st<nums.length) (hlo:lowG r.out≤st) (h1:zhA r false (nums.set st 1000000000) st=false):numA r false nums st=2000000000:=by
 obtain⟨g1,g2,g3,g4⟩:=srch_spec (fun k=>zhA r false (nums.set st (1000000+(k:Int))) st) 0 999000001 (by omega) fun a b q1 q2 q3 q4=>holds_up hr hn hst hlo (by omega) (by omega) (by omega) q4
 unfold numA
 simp only[Bool.false_eq_true,if_false]
 generalize srch (fun k=>zhA r false (nums.set st (1000000+(k:Int))) st) 0 999000001=k at *
 rw[if_pos]
 by_cases h:k<999000001
 ·have:=holds_up hr hn hst hlo (b:=1000000000) (by omega) (by omega) (by omega) (g4 h)
  rw[h1] at this;cases this
 ·omega
theorem numA_lower {r:Rk}(hr:ROk r) {nums:List Int}{st:Nat}(hn:∀ x∈nums,VOk x) (hst:st<nums.length) (hlo:lowG r.out≤st) {n:Int}(h0:0≤n∧n≤1000000000) (h1:n=0∨zhA r true (nums.set st n) st=true) (h2:n=1000000000∨zhA r true (nums.set st (n+1)) st=false):numA r true nums st=n:=by
 obtain⟨g1,g2,g3,g4⟩:=srch_spec (fun k=>!zhA r true (nums.set st ((k:Int)+1)) st) 0 1000000000 (by omega) fun a b q1 q2 q3 q4=>by
  simp only[Bool.not_eq_true'] at q4 ⊢
  cases hb:zhA r true (nums.set st ((b:Int)+1)) st
  ·rfl
  ·have:=holds_down hr hn hst hlo (a:=(a:Int)+1) (by omega) (by omega) (by omega) hb
   rw[q4] at this;cases this
 unfold numA
 simp only[if_true]
 generalize srch (fun k=>!zhA r true (nums.set st ((k:Int)+1)) st) 0 1000000000=k at *
 rcases Int.lt_trichotomy (k:Int) n with h|h|h
 ·have e:=g4 (by omega)
  simp only[Bool.not_eq_true'] at e
  rcases h1 with h1|h1
  ·omega
  ·have:=holds_down hr hn hst hlo (a:=(k:Int)+1) (by omega) (by omega) (by omega) h1
   rw[e] at this;cases this
 ·exact h
 ·obtain⟨j,rfl⟩:∃ j:Nat,n=j:=⟨n.toNat,by omega⟩
  have e:=g3 j (by omega) (by omega)
  simp only[Bool.not_eq_false'] at e
  rcases h2 with h2|h2
  ·omega
  ·rw[h2] at e;cases e
def tabA (r:Rk) (s:Bool):Nat→List Int
 | 0=>List.replicate (r.start+1).toNat 0
 | i+1=>(tabA r s i).set ((lowG r.out).toNat+i) (numA r s (tabA r s i) ((lowG r.out).toNat+i))
def tabB (r:Rk) (s:Bool):Nat→List Int
 | 0=>List.replicate (r.start+1).toNat 0
 | i+1=>(tabB r s i).set ((lowG r.out).toNat+i) (numB r s (tabB r s i) ((lowG r.out).toNat+i))
def cntA (r:Rk):Nat:=(r.start+1-lowG r.out).toNat
theorem tab_eq {r:Rk}(hr:ROk r) (s:Bool):∀ i,i≤cntA r→tabA r s i=tabB r s i∧(tabA r s i).length=(r.start+1).toNat∧∀ x∈tabA r s i,VOk x
 | 0,_=>⟨rfl,by simp [tabA],fun x hx=>.inl (by have:=List.eq_of_mem_replicate hx;omega)⟩
 | i+1, hi=>by
   obtain⟨h1,h2,h3⟩:=tab_eq hr s i (by omega)
   have hl:=lowG_le r.out
   have hs:=hr.start
   have hlen:(lowG r.out).toNat+i<(tabA r s i).length:=by rw[h2];unfold cntA at hi;omega
   have hlo:lowG r.out≤((lowG r.out).toNat+i:Nat):=by omega
   refine⟨?_,by simp [tabA,h2],?_⟩
   ·simp only[tabA,tabB];rw[num_eq hr h3 hlen hlo,h1]
   ·exact set_vok h3 _ (numA_vok hr h3 hlen hlo)
set_option maxHeartbeats 4000000
theorem from_ok (r:Rk) (s:Bool) (nums:List Int) (st:Nat):NCalls Tryz.prog 77 [.rp (tabC r s nums),i64 (st:Int)] [(8,.box (visA r s nums st (List.replicate 244 0)))] (.pt 8 0 0):=by
 have e:tA (List.replicate 244 0)=List.replicate 244 (AV.r (i64 0)):=by simp
 refine ncalls_st (n:=9) _ _ (.tmp 4) Tryz.func77 rfl (by kernel_rfl) Tryz.ntmps77 rfl (by simp) rfl rfl fun C hC=>?_
 repeat apply zq
 refine zb fun K hK=>?_;simp only[go_sem,argL];(try simp (disch:=omega) only[zI]);repeat first|intro _|refine⟨by omega,?_⟩
 apply hK;clear hK K
 repeat apply zq
 refine zb fun K hK=>?_;simp only[go_sem,ty203];(try simp (disch:=omega) only[zI]);repeat first|intro _|refine⟨by omega,?_⟩
 apply hK;clear hK K;apply zw (zk [4]);simp only[go_sem];apply ze
 try simp only[go_sem]
 rfl
theorem holds_ok {r:Rk}{s:Bool}{nums:List Int}{st:Nat}(h:VsOk r s nums st):ACalls Tryz.prog 119 [.rp (tabC r s nums),i64 (st:Int)] (.bo (zhA r s nums st)):=by
 have hst:=h.ok.start
 have hst2:=h.hi
 have hlg:=lowG_le r.out
 have hopt:=h.opt (x:=st) (by omega) (by omega)
 simp only[Int.toNat_natCast] at hopt
 have hnl:st<nums.length:=by rw[h.len];omega
 have hv:=(valM_ok h.ok h.nums h.own 3 (by omega) st (List.replicate 244 0) h.lo (by omega) (okK_zero r s nums (ownV nums st))).1
 have hcall:=value_ok h 3 (by omega) st (List.replicate 244 0) h.lo (Nat.le_refl _) (okK_zero r s nums (ownV nums st))
 rw[hv] at hcall
 generalize (valM r s nums (ownV nums st) 3 (st:Int) (List.replicate 244 0)).2=K' at hcall
 have hf:=from_ok r s nums st
 generalize List.replicate 244 (0:Int)=K0 at *
 have hb:=valA_le h.ok (s:=s) h.nums h.own 3 st
 have hH:zhA r s nums st=if s then decide (nums.getD st 0≤1000000+valA r s nums (ownV nums st) 3 st) else decide (1000000+valA r s nums (ownV nums st) 3 st≤nums.getD st 0) || decide (nums.getD st 0=2000000000):=rfl
 rw[hH]
 generalize valA r s nums (ownV nums st) 3 (st:Int)=v at *
 generalize nums.getD st 0=x at *
 have w1:IntKind.i64.wrap (1000000+v)=1000000+v:=by rw[zI]<;>omega
 refine zas (rs:=[.bo (if s then decide (x≤1000000+v) else decide (1000000+v≤x) || decide (x=2000000000))]) [.tmp 4] Tryz.func119 rfl (by kernel_rfl) Tryz.ntmps119 rfl (by simp) rfl fun C vs=>?_
 repeat apply zq
 refine zb fun K hK=>?_;simp only[go_sem];(try simp (disch:=omega) only[zI]);repeat first|intro _|refine⟨by omega,?_⟩
 apply hK;clear hK K;apply zw (zk [0,1]);simp only[go_sem]
 repeat apply zq
 refine awp_long ?_
 refine sops_take 3 (by kernel_rfl) fun K hK=>?_
 simp only[go_sem,List.take_succ_cons,List.take_zero,List.drop_succ_cons,List.drop_zero,List.append_eq,List.cons_append,List.nil_append];(try simp (disch:=omega) only[zI])
 refine xcall_new hf [(8,30)] rfl (by rfl) (by rfl) (by rfl) (by rfl) (by rfl) ?_
 simp only[go_sem,idK,backA,backC,backL,back_tA,pinOf,zLk];repeat first|intro _|refine⟨by omega,?_⟩
 refine hK _ rfl ?_
 clear hK K
 refine sops_end (by kernel_rfl) fun K hK=>?_
 simp only[go_sem,List.drop_succ_cons,List.drop_zero,List.append_eq,List.cons_append,List.nil_append,w1];(try simp (disch:=omega) only[zI])
 refine xcall_mut (hcall) [(1000,30)] rfl (by simp only[go_sem,i64,ints,lend_tA,back_tA,w1]) (by simp only[go_sem,i64,ints,lend_tA,back_tA,w1]) (by rfl) (by rfl) ?_
 (try simp only[go_sem,lend_tA,back_tA,w1]);(try simp (disch:=omega) only[zI]);repeat first|intro _|refine⟨by omega,?_⟩
 apply hK;clear hK K;apply zw (zk [0,1,5]);simp only[go_sem]
 repeat apply zq
 refine zb fun K hK=>?_;simp only[go_sem];(try simp (disch:=omega) only[zI]);repeat first|intro _|refine⟨by omega,?_⟩
 apply hK;clear hK K;apply zw (zk [0,1,5,16]);simp only[go_sem]
 cases s
 ·repeat apply zq
  apply zc rfl<;>intro hc<;>(try simp only[go_sem] at hc)
  apply zx
  try simp only[go_sem]
  by_cases hle:1000000+v≤x
  ·have e1:decide (1000000+v≤x)=true:=by simpa using hle
   repeat apply zq
   refine zb fun K hK=>?_;simp only[go_sem,hopt,hnl,e1];(try simp (disch:=omega) only[zI]);repeat first|intro _|refine⟨by omega,?_⟩
   apply hK;clear hK K;apply zw (zk [4]);simp only[go_sem];apply ze;simp only[go_sem]
   first|(simp [e1];done)|(rw[Bool.eq_iff_iff];simp [e1])
  ·have e1:decide (1000000+v≤x)=false:=by simpa using hle
   repeat apply zq
   refine zb fun K hK=>?_;simp only[go_sem,hopt,hnl,e1];(try simp (disch:=omega) only[zI]);repeat first|intro _|refine⟨by omega,?_⟩
   apply hK;clear hK K;apply zw (zk [4]);simp only[go_sem];apply ze;simp only[go_sem]
   first|(simp [e1];done)|(rw[Bool.eq_iff_iff];simp [e1])
 ·have hss:=(rfl:true=true)
  repeat apply zq
  apply zc rfl<;>intro hc<;>(try simp only[go_sem] at hc)
  ·repeat apply zq
   refine zb fun K hK=>?_;simp only[go_sem,hopt,hnl];(try simp (disch:=omega) only[zI]);repeat first|intro _|refine⟨by omega,?_⟩
   apply hK;clear hK K;apply zw (zk [4]);simp only[go_sem];apply ze;simp only[go_sem]
   try simp
  ·exact absurd rfl hc
theorem awp_while0 {P:Program}{C:Ctx}{c:Code}{Q:Exit→AS→Prop}{s:AS}{n:Nat}{α:Type}(F:α→(Nat→Nat)→List (Nat × AV)) (R:α→List (Nat × RowC)) (I:α→Prop) (m:α→Nat) (x0:α)
 (h0:Fit0 n (F x0) (R x0) s) (hI:I x0)
 (round:∀ x vs,Lent vs→I x→awp P C c (andThen (fun s'=>∃ y,I y∧m y<m x∧Fit0 n (F y) (R y) s') Q) (Go.Oc.st n (F x vs) vs (R x))):awp P C (.loop c) Q s:=by
 refine awp_loop (fun k s=>∃ x,I x∧m x=k∧Fit0 n (F x) (R x) s) (m x0) ⟨x0,hI,rfl,h0⟩ ?_
 rintro k s ⟨x,hx,rfl,vs,hv,hs⟩
 refine zw hs (awp_mono ?_ (round x vs hv hx))
 intro e s' hq
 cases e with
 | normal =>
   obtain⟨y,hy,hlt,hf⟩:=hq
   exact⟨m y,hlt,y,hy,rfl,hf⟩
 | _=>exact hq
def lastN (f:Nat→Bool) (i j:Nat) (x:Option Nat):Option Nat :=
 if h:i<j then (if f ((i+j) / 2) then lastN f i ((i+j) / 2) (some ((i+j) / 2)) else lastN f ((i+j) / 2+1) j (some ((i+j) / 2))) else x
termination_by j-i
decreasing_by all_goals omega
abbrev tabA' (r:Rk) (s:Bool) (len:Nat):List AV:=[.r (i64 r.d),.r (aimsR r.aims),.r (i64 r.start),.r (i64 r.out),.r (.bo s),.os 1001 0 1 0 len]
abbrev fillL (r:Rk) (s:Bool) (nums:List Int):List (Nat × RowC):=[(1000,.box (tabA' r s nums.length)),(1001,.arr 3 1 (arrV nums)),(1002,.box [.pt 1000 0 0])]
theorem tried_ok {r:Rk}{s:Bool}{nums:List Int}{st:Nat}(h:VsOk r s nums st) (n:Int) (hn:VOk n) :
 MCalls Tryz.prog 118 (fillL r s nums) (fillL r s (nums.set st n)) [.r (i64 n),.pt 1002 0 0,.r (.rp [i64 (st:Int)])] (.r (.bo (zhA r s (nums.set st n) st))):=by
 have hst:=h.ok.start
 have hst2:=h.hi
 have hlg:=lowG_le r.out
 have hlo:=h.lo
 have hnl:st<nums.length:=by rw[h.len];omega
 have hopt:=h.opt (x:=st) (by omega) (by omega)
 simp only[Int.toNat_natCast] at hopt
 have h':VsOk r s (nums.set st n) st:=⟨h.ok,by simp [h.len],set_vok h.nums st hn,h.lo,h.hi⟩
 have hh:=holds_ok h'
 have hset:(arrV nums).set st [RV.it IntKind.i64 n]=arrV (nums.set st n):=(arrV_set nums st n).symm
 have hlen:(nums.set st n).length=nums.length:=by simp
 refine mcalls_st (n:=15) (rs:=[.r (.bo (zhA r s (nums.set st n) st))]) _ _ [.tmp 4] Tryz.func118 rfl (by kernel_rfl) Tryz.ntmps118 rfl (by simp) rfl rfl fun C=>?_
 apply zq
 refine zb fun K hK=>?_;simp only[go_sem];apply hK;apply zw (zk [0,1,2]);simp only[go_sem]
 apply zq
 refine awp_dreg2 [(0,none),(1,some 1002),(2,none)] follows (by decide +kernel) (by kernel_rfl) (by simp only[keysOk,List.mem_cons,List.not_mem_nil,forall_eq_or_imp,Oc.keyOf,go_sem];simp) fun K hK=>?_
 simp only[go_sem,hnl,hopt,List.length_map];apply hK;rw[hset,← hlen]
 generalize nums.set st n=N at *
 apply zw (zk [1,2]);simp only[go_sem]
 have htk:(arrV N).take N.length=arrV N:=List.take_of_length_le (by simp)
 apply zq
 refine zb fun K hK=>?_;simp only[go_sem]
 refine zh (hh) rfl (by simp only[go_sem,i64,ints,htk,List.length_map,List.drop_zero]) (by simp only[go_sem,i64,ints,htk,List.length_map,List.drop_zero]) ?_
 (try simp only[go_sem,htk,List.length_map,List.drop_zero]);apply hK;apply zw (zk [4]);simp only[go_sem];apply ze;simp only[go_sem]
abbrev fillM (r:Rk) (s:Bool) (nums:List Int) (st:Nat):List (Nat × RowC):=fillL r s nums++[(1003,.box [.fn 118 [.pt 1002 0 0,.r (.rp [i64 (st:Int)])]])]
theorem down_ok {r:Rk}{s:Bool}{nums:List Int}{st:Nat}(h:VsOk r s nums st) (k:Nat) (hk:k<1000000000) :
 MCalls Tryz.prog 121 (fillM r s nums st) (fillM r s (nums.set st ((k:Int)+1)) st) [.r (i64 (k:Int)),.pt 1003 0 0] (.r (.bo (!zhA r s (nums.set st ((k:Int)+1)) st))):=by
 have hc:=tried_ok h ((k:Int)+1) (.inl ⟨by omega,by omega⟩)
 refine mcalls_st (n:=9) (rs:=[.r (.bo (!zhA r s (nums.set st ((k:Int)+1)) st))]) _ _ [.tmp 3] Tryz.func121 rfl (by kernel_rfl) Tryz.ntmps121 rfl (by simp) rfl rfl fun C=>?_
 have w1:IntKind.i64.wrap ((k:Int)+1)=(k:Int)+1:=by rw[zI]<;>omega
 apply zq
 refine zb fun K hK=>?_;simp only[go_sem];apply hK;apply zw (zk [0,1]);simp only[go_sem]
 apply zq
 refine zb fun K hK=>?_;simp only[go_sem,w1]
 refine xcall_mut (hc) [(1000,1000),(1001,1001),(1002,1002)] rfl (by simp only[go_sem,i64,ints]) (by simp only[go_sem,i64,ints]) (by rfl) (by rfl) ?_
 (try simp only[go_sem]);apply hK;apply zw (zk [3]);simp only[go_sem];apply ze;simp only[go_sem]
 rfl
theorem up_ok {r:Rk}{s:Bool}{nums:List Int}{st:Nat}(h:VsOk r s nums st) (k:Nat) (hk:k<999000001) :
 MCalls Tryz.prog 122 (fillM r s nums st) (fillM r s (nums.set st (1000000+(k:Int))) st) [.r (i64 (k:Int)),.pt 1003 0 0] (.r (.bo (zhA r s (nums.set st (1000000+(k:Int))) st))):=by
 have hc:=tried_ok h (1000000+(k:Int)) (.inl ⟨by omega,by omega⟩)
 refine mcalls_st (n:=8) (rs:=[.r (.bo (zhA r s (nums.set st (1000000+(k:Int))) st))]) _ _ [.tmp 3] Tryz.func122 rfl (by kernel_rfl) Tryz.ntmps122 rfl (by simp) rfl rfl fun C=>?_
 have w1:IntKind.i64.wrap (1000000+(k:Int))=1000000+(k:Int):=by rw[zI]<;>omega
 apply zq
 refine zb fun K hK=>?_;simp only[go_sem];apply hK;apply zw (zk [0,1]);simp only[go_sem]
 apply zq
 refine zb fun K hK=>?_;simp only[go_sem,w1]
 refine xcall_mut (hc) [(1000,1000),(1001,1001),(1002,1002)] rfl (by simp only[go_sem,i64,ints]) (by simp only[go_sem,i64,ints]) (by rfl) (by rfl) ?_
 (try simp only[go_sem]);apply hK;apply zw (zk [3]);simp only[go_sem];apply ze;simp only[go_sem]
 rfl
def setO (nums:List Int) (st:Nat) (m:Nat→Int):Option Nat→List Int
 | none=>nums
 | some k=>nums.set st (m k)
theorem setO_len (nums:List Int) (st:Nat) (m:Nat→Int) (o:Option Nat):(setO nums st m o).length=nums.length:=by cases o<;>simp [setO]
theorem setO_set (nums:List Int) (st:Nat) (m:Nat→Int) (o:Option Nat) (n:Int):(setO nums st m o).set st n=nums.set st n:=by cases o<;>simp [setO]
theorem search_ok {r:Rk}{s:Bool}{nums:List Int}{st:Nat}(F:Nat) (N:Nat) (hN:N≤1000000000) (f:Nat→Bool) (m:Nat→Int)
 (hf:∀ o k,(∀ q,o=some q→q<N)→k<N→MCalls Tryz.prog F (fillM r s (setO nums st m o) st) (fillM r s (setO nums st m (some k)) st) [.r (i64 (k:Int)),.pt 1003 0 0] (.r (.bo (f k)))) :
 MCalls Tryz.prog 120 (fillM r s nums st) (fillM r s (setO nums st m (lastN f 0 N none)) st) [.r (i64 (N:Int)),.fn F [.pt 1003 0 0]] (.r (i64 (srch f 0 N:Nat))):=by
 refine mcalls_st (n:=26) (rs:=[.r (i64 (srch f 0 N:Nat))]) _ _ [.tmp 4] Tryz.func120 rfl (by kernel_rfl) Tryz.ntmps120 rfl (by simp) rfl rfl fun C=>?_
 apply zq
 refine zb fun K hK=>?_;simp only[go_sem];apply hK;apply zw (zk [0,1]);simp only[go_sem]
 apply zq
 refine zb fun K hK=>?_;simp only[go_sem];apply hK;apply zw (zk [1,5,6]);simp only[go_sem]
 apply zq
 apply zd
 refine awp_while0 (n:=26) (α:=Nat × Nat × Option Nat) (fun x vs=>[(1,.fn F [.pt 1003 0 0]),(5,.r (i64 (x.1:Int))),(6,.r (i64 (x.2.1:Int)))])
  (fun x=>fillM r s (setO nums st m x.2.2) st) (fun x=>x.1≤x.2.1∧x.2.1≤N∧srch f x.1 x.2.1=srch f 0 N∧lastN f x.1 x.2.1 x.2.2=lastN f 0 N none∧∀ q,x.2.2=some q→q<N) (fun x=>x.2.1-x.1) (0,N,none) (fit0_of [] lent_zero ?_ ?_) ⟨Nat.zero_le _,Nat.le_refl _,rfl,rfl,fun q hq=>by cases hq⟩ ?_
 ·try simp only[go_sem]
 ·try simp only[go_sem]
  try rfl
 ·rintro ⟨i,j,o⟩ vs hvl ⟨hij,hjN,hs1,hs2,hq⟩
  have hv0:=hvl 1000 (by omega)
  have hv1:=hvl 1001 (by omega)
  have hv2:=hvl 1002 (by omega)
  have hv3:=hvl 1003 (by omega)
  simp only at hij hjN hs1 hs2 hq ⊢
  rw[srch] at hs1
  rw[lastN] at hs2
  repeat apply zq
  refine zb fun K hK=>?_;simp only[go_sem];apply hK;apply zw (zk [1,5,6,11]);simp only[go_sem]
  by_cases hlt:i<j
  ·rw[dif_pos hlt] at hs1 hs2
   have hm:(i+j) / 2<N:=by omega
   obtain⟨c,hcm⟩:∃ c,c=(i+j) / 2:=⟨_,rfl⟩
   rw[← hcm] at hs1 hs2 hm
   have hcall:=hf o c hq hm
   apply zc rfl<;>intro hc<;>(try simp only[go_sem] at hc)
   ·apply zx
    try simp only[go_sem]
    apply zd
    have wa:IntKind.i64.wrap ((i:Int)+j)=(i:Int)+j:=by rw[zI]<;>omega
    have wb:IntKind.u64.wrap ((i:Int)+j)=(i:Int)+j:=by
     show ((i:Int)+j) % 18446744073709551616=_
     omega
    have wsh:shrI IntKind.u64 ((i:Int)+j) 1=(c:Int):=by
     show ((i:Int)+j).fdiv 2=_
     rw[Int.fdiv_eq_ediv_of_nonneg _ (by omega)]
     omega
    have wc:IntKind.i64.wrap (c:Int)=c:=by rw[zI]<;>omega
    apply zq
    refine zb fun K hK=>?_;simp only[go_sem,wa,wb,wsh,wc];apply hK;apply zw (zk [1,5,6,7]);simp only[go_sem]
    apply zq
    refine zb fun K hK=>?_;simp only[go_sem]
    refine xcall_mut (hcall) [(1000,1000),(1001,1001),(1002,1002),(1003,1003)] rfl (by simp only[go_sem,i64,ints,hv0,hv1,hv2,hv3]) (by simp only[go_sem,i64,ints,hv0,hv1,hv2,hv3]) (by rfl) (by rfl) ?_
    (try simp only[go_sem,hv0,hv1,hv2,hv3]);apply hK;apply zw (zk [1,5,6,7,21]);simp only[go_sem]
    cases hfc:f c
    ·rw[hfc] at hs1 hs2
     simp only[Bool.false_eq_true,if_false] at hs1 hs2
     apply zc rfl<;>intro hc<;>(try simp only[go_sem] at hc)
     refine zb fun K hK=>?_;simp only[go_sem];(try simp (disch:=omega) only[zI]);apply hK
     try simp only[go_sem]
     refine⟨(c+1,j,some c),⟨by show c+1≤j;omega,hjN,hs1,hs2,fun q hq=>by injection hq with hq;omega⟩,by show j-(c+1)<j-i;omega,fit0_of [] (by intro j hj;(try simp only[upd]);(repeat' split);all_goals first|rfl|omega|exact hvl _ hj) ?_ ?_⟩
     ·try simp only[go_sem]
     ·try simp only[go_sem]
    ·rw[hfc] at hs1 hs2
     simp only[if_true] at hs1 hs2
     apply zc rfl<;>intro hc<;>(try simp only[go_sem] at hc)
     refine zb fun K hK=>?_;simp only[go_sem];apply hK
     try simp only[go_sem]
     refine⟨(i,c,some c),⟨by show i≤c;omega,by show c≤N;omega,hs1,hs2,fun q hq=>by injection hq with hq;omega⟩,by show c-i<j-i;omega,fit0_of [] (by intro j hj;(try simp only[upd]);(repeat' split);all_goals first|rfl|omega|exact hvl _ hj) ?_ ?_⟩
     ·try simp only[go_sem]
     ·try simp only[go_sem]
   ·exact absurd hlt hc
  ·rw[dif_neg hlt] at hs1 hs2
   apply zc rfl<;>intro hc<;>(try simp only[go_sem] at hc)
   ·exact absurd hc hlt
   apply zf;simp only[go_sem];rw[hs1,hs2]
   apply zq
   refine zb fun K hK=>?_;simp only[go_sem];apply hK;apply zw (zk [4]);simp only[go_sem];apply ze;simp only[go_sem]
   rfl
theorem VsOk.set {r:Rk}{s:Bool}{nums:List Int}{st:Nat}(h:VsOk r s nums st) {n:Int}(hn:VOk n):VsOk r s (nums.set st n) st:=⟨h.ok,by simp [h.len],set_vok h.nums st hn,h.lo,h.hi⟩
theorem VsOk.setO {r:Rk}{s:Bool}{nums:List Int}{st:Nat}(h:VsOk r s nums st) {m:Nat→Int}{N:Nat}(hm:∀ k,k<N→VOk (m k)):∀ o:Option Nat,(∀ q,o=some q→q<N)→VsOk r s (setO nums st m o) st
 | none,_=>h
 | some k,hq=>h.set (hm k (hq k rfl))
theorem srch_le (f:Nat→Bool) (i j:Nat) (h:i≤j):srch f i j≤j:=by
 rw[srch]
 split
 ·rename_i hlt
  split
  ·have:=srch_le f i ((i+j) / 2) (by omega);omega
  ·exact srch_le f ((i+j) / 2+1) j (by omega)
 ·exact h
termination_by j-i
decreasing_by all_goals omega
abbrev fillT (r:Rk) (s:Bool) (nums:List Int):List (Nat × RowC):=[(1000,.box (tabA' r s nums.length)),(1001,.arr 3 1 (arrV nums))]
theorem fill_ok {r:Rk}{s:Bool}{nums:List Int}{st:Nat}(h:VsOk r s nums st) :
 MCalls Tryz.prog 86 (fillT r s nums) (fillT r s (nums.set st (numA r s nums st))) [.pt 1000 0 0,.r (i64 (st:Int))] (.tu []):=by
 have hst:=h.ok.start
 have hst2:=h.hi
 have hlg:=lowG_le r.out
 have hlo:=h.lo
 have hnl:st<nums.length:=by rw[h.len];omega
 have hD:=search_ok (r:=r) (s:=s) (nums:=nums) (st:=st) (F:=121) 1000000000 (by omega) (fun k=>!zhA r s (nums.set st ((k:Int)+1)) st) (fun k=>(k:Int)+1) (fun o k hq hk=>by
  have:=down_ok (h.setO (m:=fun k=>(k:Int)+1) (N:=1000000000) (fun k hk=>.inl ⟨by omega,by omega⟩) o hq) k hk
  rw[setO_set] at this
  exact this)
 have hU:=search_ok (r:=r) (s:=s) (nums:=nums) (st:=st) (F:=122) 999000001 (by omega) (fun k=>zhA r s (nums.set st (1000000+(k:Int))) st) (fun k=>1000000+(k:Int)) (fun o k hq hk=>by
  have:=up_ok (h.setO (m:=fun k=>1000000+(k:Int)) (N:=999000001) (fun k hk=>.inl ⟨by omega,by omega⟩) o hq) k hk
  rw[setO_set] at this
  exact this)
 refine mcalls_st (n:=46) (rs:=[]) _ _ [] Tryz.func86 rfl (by kernel_rfl) Tryz.ntmps86 rfl (by simp) rfl rfl fun C=>?_
 apply zq
 refine zb fun K hK=>?_;simp only[go_sem];apply hK;refine zw (zfP 3 3 [i64 (st:Int)] (by omega) rfl rfl) ?_;apply zw (zk [2,3]);simp only[go_sem]
 apply zq
 refine zb fun K hK=>?_;simp only[go_sem];apply hK;apply zw (zk [2,3,4]);simp only[go_sem]
 repeat apply zq
 refine zb fun K hK=>?_;simp only[go_sem];apply hK;apply zw (zk [2,3,4,12]);simp only[go_sem]
 cases s
 ·skip
  apply zc rfl<;>intro hc<;>(try simp only[go_sem] at hc)
  apply zx
  try simp only[go_sem]
  have hA:numA r false nums st=if 1000000000<1000000+((srch (fun k=>zhA r false (nums.set st (1000000+(k:Int))) st) 0 999000001:Nat):Int) then 2000000000 else 1000000+((srch (fun k=>zhA r false (nums.set st (1000000+(k:Int))) st) 0 999000001:Nat):Int):=by unfold numA;rfl
  have hsb:=srch_le (fun k=>zhA r false (nums.set st (1000000+(k:Int))) st) 0 999000001 (by omega)
  rw[hA]
  apply zq
  refine zb fun K hK=>?_;simp only[go_sem]
  refine xcall_mut (hU) [(1000,1000),(1001,1001),(1002,2),(1003,4)] rfl (by simp only[go_sem,i64,ints]) (by simp only[go_sem,i64,ints]) (by rfl) (by rfl) ?_
  (try simp only[go_sem]);apply hK
  have hNl:=setO_len nums st (fun k=>1000000+(k:Int)) (lastN (fun k=>zhA r false (nums.set st (1000000+(k:Int))) st) 0 999000001 none)
  have hNs:=setO_set nums st (fun k=>1000000+(k:Int)) (lastN (fun k=>zhA r false (nums.set st (1000000+(k:Int))) st) 0 999000001 none)
  generalize srch (fun k=>zhA r false (nums.set st (1000000+(k:Int))) st) 0 999000001=n at *
  generalize setO nums st (fun k=>1000000+(k:Int)) (lastN (fun k=>zhA r false (nums.set st (1000000+(k:Int))) st) 0 999000001 none)=N1 at *
  have hN1:st<N1.length:=by omega
  obtain⟨y,hy⟩:=zol hN1
  have w1:IntKind.i64.wrap (1000000+(n:Int))=1000000+(n:Int):=by rw[zI]<;>omega
  have hset:∀ v:Int,(arrV N1).set st [RV.it IntKind.i64 v]=arrV (nums.set st v):=fun v=>by rw[← hNs v];exact (arrV_set N1 st v).symm
  apply zw (zk [2,3,6]);simp only[go_sem]
  apply zq
  refine awp_dreg2 [(2,some 2),(3,none),(6,none)] follows (by decide +kernel) (by kernel_rfl) (by simp only[keysOk,List.mem_cons,List.not_mem_nil,forall_eq_or_imp,Oc.keyOf,go_sem];simp) fun K hK=>?_
  simp only[go_sem,hy,hN1,w1,List.length_map];apply hK;rw[hset,hNl]
  have hlen2:(nums.set st (1000000+(n:Int))).length=nums.length:=by simp
  have hget2:(nums.set st (1000000+(n:Int)))[st]? = some (1000000+(n:Int)):=by rw[List.getElem?_set_self hnl]
  have hss2:∀ v:Int,(arrV (nums.set st (1000000+(n:Int)))).set st [RV.it IntKind.i64 v]=arrV (nums.set st v):=fun v=>by
   have:=(arrV_set (nums.set st (1000000+(n:Int))) st v).symm
   rw[List.set_set] at this
   exact this
  generalize hM:nums.set st (1000000+(n:Int))=M at *
  have hMl:st<M.length:=by omega
  apply zw (zk [2,3]);simp only[go_sem]
  apply zq
  refine awp_dreg2 [(2,some 2),(3,none)] follows (by decide +kernel) (by kernel_rfl) (by simp only[keysOk,List.mem_cons,List.not_mem_nil,forall_eq_or_imp,Oc.keyOf,go_sem];simp) fun K hK=>?_
  simp only[go_sem,hget2,hMl,List.length_map]
  refine⟨by omega,?_⟩
  apply hK;apply zw (zk [2,3,39]);simp only[go_sem]
  by_cases hbig:1000000000<1000000+(n:Int)
  ·rw[if_pos hbig]
   apply zc rfl<;>intro hc<;>(try simp only[go_sem] at hc)
   ·skip
    refine awp_dreg2 [(2,some 2),(3,none)] follows (by decide +kernel) (by kernel_rfl) (by simp only[keysOk,List.mem_cons,List.not_mem_nil,forall_eq_or_imp,Oc.keyOf,go_sem];simp) fun K hK=>?_
    simp only[go_sem,hget2,hMl,List.length_map]
    refine⟨by omega,?_⟩
    apply hK;rw[hss2]
    try simp only[go_sem]
    try simp
   ·exact absurd hbig hc
  ·rw[if_neg hbig]
   apply zc rfl<;>intro hc<;>(try simp only[go_sem] at hc)
   ·exact absurd hc hbig
   ·apply zx
    try simp only[go_sem]
    rw[hM]
    exact⟨by rw[hlen2],rfl⟩
 ·have hss:=(rfl:true=true)
  apply zc rfl<;>intro hc<;>(try simp only[go_sem] at hc)
  ·apply zq
   refine zb fun K hK=>?_;simp only[go_sem]
   refine xcall_mut (hD) [(1000,1000),(1001,1001),(1002,2),(1003,4)] rfl (by simp only[go_sem,i64,ints]) (by simp only[go_sem,i64,ints]) (by rfl) (by rfl) ?_
   (try simp only[go_sem]);apply hK
   have hNl:=setO_len nums st (fun k=>(k:Int)+1) (lastN (fun k=>!zhA r true (nums.set st ((k:Int)+1)) st) 0 1000000000 none)
   have hNs:=setO_set nums st (fun k=>(k:Int)+1) (lastN (fun k=>!zhA r true (nums.set st ((k:Int)+1)) st) 0 1000000000 none)
   have hA:numA r true nums st=((srch (fun k=>!zhA r true (nums.set st ((k:Int)+1)) st) 0 1000000000:Nat):Int):=by unfold numA;rfl
   rw[hA]
   generalize srch (fun k=>!zhA r true (nums.set st ((k:Int)+1)) st) 0 1000000000=n at *
   generalize setO nums st (fun k=>(k:Int)+1) (lastN (fun k=>!zhA r true (nums.set st ((k:Int)+1)) st) 0 1000000000 none)=N1 at *
   have hN1:st<N1.length:=by omega
   obtain⟨y,hy⟩:=zol hN1
   have hset:∀ v:Int,(arrV N1).set st [RV.it IntKind.i64 v]=arrV (nums.set st v):=fun v=>by rw[← hNs v];exact (arrV_set N1 st v).symm
   apply zw (zk [2,3,5]);simp only[go_sem]
   apply zq
   refine awp_dreg2 [(2,some 2),(3,none),(5,none)] follows (by decide +kernel) (by kernel_rfl) (by simp only[keysOk,List.mem_cons,List.not_mem_nil,forall_eq_or_imp,Oc.keyOf,go_sem];simp) fun K hK=>?_
   simp only[go_sem,hy,hN1,List.length_map];apply hK;rw[hset,hNl]
   apply zw (zk [2]);simp only[go_sem];apply ze;simp only[go_sem]
   try simp
  ·exact absurd rfl hc
def checkR (r:Rk):Int:=if checkV r.d r.aims=0 then (if (2≤r.start∧r.start≤60)∧0≤r.out∧r.out≤2 then 0 else 2) else checkV r.d r.aims
theorem seqOk_bed:∀ (l:List Bd) (p:Option Int),seqOk p l=true→∀ c∈l,c.b=0∨bedOk c.b=true
 | [],_,_=>fun c hc=>by cases hc
 | x::l, p, h=>fun c hc=>by
   simp only[seqOk,Bool.and_eq_true,Bool.or_eq_true,decide_eq_true_eq] at h
   rcases List.mem_cons.1 hc with rfl|hc
   ·exact h.1.1
   ·exact seqOk_bed l _ h.2 c hc
theorem checkR_zero {r:Rk}(h:checkR r=0):checkV r.d r.aims=0∧ROk r:=by
 have hc:checkV r.d r.aims=0:=by
  by_cases hc:checkV r.d r.aims=0
  ·exact hc
  ·unfold checkR at h;rw[if_neg hc] at h;exact (hc h).elim
 have hs:(2≤r.start∧r.start≤60)∧0≤r.out∧r.out≤2:=by
  unfold checkR at h
  rw[if_pos hc] at h
  split at h
  ·assumption
  ·cases h
 obtain⟨h1,h2,h3,h4,h5⟩:=checkV_zero hc
 refine⟨hc,fun a ha=>?_,h3,h1,hs.1,hs.2⟩
 obtain⟨g1,g2,g3,g4,g5,g6⟩:=aimOk_facts (h5 a ha)
 exact⟨h4,g4,g5,g6,h2 a ha,g2,seqOk_bed _ _ g3⟩
abbrev rkR (r:Rk):RV:=.ag [i64 r.d,aimsR r.aims,i64 r.start,i64 r.out]
end Go.Proofs.YtgfbenanljjgaaaGreat.Du.Th.Ai

namespace Go.Oc
open Go Go.RowKit
def PeekI (u:Addr) (pk:List (Nat × Int)) (w:World):Prop:=∀ x∈pk,w.cell? (u.add x.1)=some (.int .i64 x.2)
theorem avs_mem {w:World}{p:Plan}{ver:Nat→Nat}:∀ {avs:List AV}{us:List Value},AV.relV w p ver avs us→∀ x∈avs,∃ v,AV.rel w p ver x v
 | [],_,_=>fun x hx=>by cases hx
 | y::avs, us, h=>fun x hx=>by
   simp only[AV.relV] at h
   obtain⟨v,us',_,h1,h2⟩:=h
   rcases List.mem_cons.1 hx with rfl|hx
   ·exact⟨v,h1⟩
   ·exact avs_mem h2 x hx
theorem avs_get {w:World}{p:Plan}{ver:Nat→Nat}:∀ {avs:List AV}{us:List Value}{i:Nat}{x:AV},AV.relV w p ver avs us→avs[i]? = some x→∃ v,us[i]? = some v∧AV.rel w p ver x v
 | [],_,i,x,_,h=>by simp at h
 | y::avs, us, 0, x, hr, h=>by
   simp only[AV.relV] at hr
   obtain⟨v,us',rfl,h1,_⟩:=hr
   simp at h
   subst h
   exact⟨v,rfl,h1⟩
 | y::avs, us, i+1, x, hr, h=>by
   simp only[AV.relV] at hr
   obtain⟨v,us',rfl,_,h2⟩:=hr
   simpa using avs_get h2 (by simpa using h)
theorem peek_of {C:Ctx}{p:Plan}{n:Nat}{vs:Nat→Nat}{cs:List (Nat × RowC)}{a:Act}{w:World}{avs:List AV}{us:List Value}{k:Nat}{u:Addr}{pk:List (Nat × Int)}{c:List AV}(h:SR C p (st n [] vs ((0,.sus avs us)::cs)) a w)
 (hc:lookc ((0,RowC.sus avs us)::cs) k = .box c) (hpk:∀ x∈pk,c[x.1]? = some (.r (.it .i64 x.2))) (hu:AV.pu k (vs k) u∈avs):PeekI u pk w:=fun x hx=>by
 have h0:=h.rw 0
 have e0:((st n [] vs ((0,RowC.sus avs us)::cs)).rows 0).c = .sus avs us:=by show lookc ((0,RowC.sus avs us)::cs) 0=_;rw[zlc,if_pos rfl]
 rw[e0] at h0
 simp only[zrl] at h0
 obtain⟨v,hv⟩:=avs_mem h0.2.2 _ hu
 simp only[AV.rel] at hv
 obtain⟨b,hb,hbv⟩:=hv.2.2 rfl
 have hub:u=⟨b,0,none⟩:=by
  have:=hv.1.symm.trans hbv
  injection this with this
  injection this
 have hr:=h.rw k
 have e1:((st n [] vs ((0,RowC.sus avs us)::cs)).rows k).c = .box c:=hc
 rw[e1] at hr
 simp only[zrl] at hr
 obtain⟨b',cells,ty,hβ,hheap,hcells,_⟩:=hr
 rw[hb] at hβ
 injection hβ with hβ
 subst hβ
 obtain⟨v',hv',hrel⟩:=avs_get hcells (hpk x hx)
 simp only[AV.rel,RV.rel] at hrel
 subst hub
 subst hrel
 rw[add_at]
 simpa [World.cell?,hheap] using hv'
def HBCalls (P:Program) (u:Addr) (pk:List (Nat × Int)) (z:Bool) (F:FuncId) (caps:List RV) (xs:List (List RV)):Prop :=
 callable P F=true∧∀ (w:World) (R:Nat→Prop) (vs:Array Value) (X:XS) (Ψ Θ:Nat→Prop),(∀ b,R b→b<w.heap.size)→RV.relV w R caps vs.toList→X.z=z→(z=false→∀ b,R b→X.R b)→X.n0≤w.heap.size→YOk P X →
  (∀ b,Ψ b→b<w.heap.size)→(∀ b,Θ b→b<w.heap.size)→(∀ b,R b→¬ Θ b)→(∀ o w Ψ Θ,X.X (some o) w Ψ Θ→PeekI u pk w)→X.X (some xs) w Ψ Θ →
  Calls P F (vs ++ #[.func (.yield X.l) #[] #[]]) w fun e w'=>(∃ v,e = .returned v)∧(∃ Ψ' Θ',X.X (some []) w' Ψ' Θ'∨X.X none w' Ψ' Θ')
theorem hbcalls_st {P:Program}{u:Addr}{pk:List (Nat × Int)}{z:Bool}{f:FuncId}{fn:Func}{c:Code}{n:Nat}{caps:List RV}{xs:List (List RV)}(hf:P.funcs[f]? = some fn) (hb:fn.body=some c) (hc:callable P f=true) (hn:fn.ntmps=n) (hres:fn.results.toList=[])
 (hargs:caps.length+1≤n) (h:∀ C l,(∀ o w Ψ Θ,C.X.X (some o) w Ψ Θ→PeekI u pk w)→awp P C c (ipost P) (st n (argL 0 (caps++[.yl l])) (fun _=>0) [(999,.gh P l z (some xs))])):HBCalls P u pk z f caps xs:=by
 refine⟨hc,fun w R vs0 X Ψ Θ hR hV0 hz hzR hn0 hY hΨ hΘ hRΘ hPk hX=>?_⟩
 have hV:RV.relV w R (caps++[.yl X.l]) (vs0 ++ #[Value.func (.yield X.l) #[] #[]]).toList:=by
  rw[Array.toList_append]
  refine RV.relV_append hV0 ?_
  simp only[RV.relV];exact⟨Value.func (.yield X.l) #[] #[],[],by simp,by simp only[RV.rel],rfl⟩
 generalize vs0 ++ #[Value.func (.yield X.l) #[] #[]]=vs at hV
 have hlen:=RV.relV_length hV
 simp only[Array.length_toList,List.length_append,List.length_cons,List.length_nil] at hlen
 let C:Ctx:={ w0:=w,R0:=R,bor:=Θ,pin:=fun _=>none,X:=X }
 let p:Plan:={ R:=R,β:=fun _=>none,γ:=fun _=>1,X:=X,Ψ:=Ψ,Θ:=Θ }
 have hs:SR C p (st n (argL 0 (caps++[.yl X.l])) (fun _=>0) [(999,.gh P X.l z (some xs))]) { tmps:=vs++Array.replicate (fn.ntmps-vs.size) undef,defers:=[] } w:={
  base:=⟨rfl,rfl,rfl,Nat.le_refl _,fun _ _ _ _=>rfl⟩
  r0:=fun _ h=>h
  rn:=fun _ h=>.inl h
  rb:=hR
  tm:=fun t=>by
   show (look (argL 0 (caps++[.yl X.l])) t).rel _ _ _ _
   by_cases hmem:∃ x,(t,x)∈argL 0 (caps++[RV.yl X.l])
   ·cases e:(caps++[RV.yl X.l])[t]? with
    | none =>
      obtain⟨x,hx⟩:=hmem
      obtain⟨i,y,h1,h2⟩:=argL_mem _ hx
      simp only[Nat.zero_add,Prod.mk.injEq] at h1
      rw[← h1.1,e] at h2;cases h2
    | some x =>
      obtain⟨u,hu,hx⟩:=RV.relV_get hV e
      have:(vs++Array.replicate (fn.ntmps-vs.size) undef).getD t undef=u:=by
       have ht:t<vs.size:=by have:=(List.getElem?_eq_some_iff.1 hu).1;simpa using this
       rw[Array.getD_eq_getD_getElem?,Array.getElem?_append_left ht]
       simp only[Array.getElem?_toList] at hu
       rw[hu];rfl
      have e2:=argL_look (k:=0) e
      rw[Nat.zero_add] at e2
      rw[this,e2]
      simpa only[AV.rel] using hx
   ·rw[look_none hmem]
    exact AV.rel_un _ _ _ _
  sz:=by simp only[Array.size_append,Array.size_replicate,st];omega
  ex:={
   px:=rfl
   n0:=hn0
   ψ0:=fun hz' b hb=>hzR (hz▸hz') b hb
   ψl:=hΨ
   θl:=hΘ
   ψb:=fun k b h=>by cases h
   ψr:=hRΘ
   ψo:=fun b h=>h.elim
   θo:=fun b h _=>h
   bo:=fun b h=>h.elim (hΘ b) (fun h=>h.elim)
   ψn:=fun hn=>(hn _ _ _ _ hX).elim
   hd:=fun b h=>h.elim
   rm:=fun _=>rfl
   df:=⟨[],rfl,List.nodup_nil,fun D hD=>by cases hD⟩ }
  rw:=fun k=>by
   show zrl w p _ k (lookc [(999,RowC.gh P X.l z (some xs))] k)
   rw[zlc,lookc_nil]
   split
   ·rename_i e
    simp only[zrl];exact⟨e,rfl,rfl,rfl,hz,hY,hX⟩
   ·simp only[zrl];exact⟨rfl,rfl⟩
  bl:=fun k b h=>by simp [p] at h
  ij:=fun k k' b h=>by simp [p] at h
  cap:=fun k=>by simp [p,maxLen]
  pn:=fun k x h=>by cases h
  lk:=fun j km n l cur h _=>by
   have h':lookc [(999,RowC.gh P X.l z (some xs))] j = .mi km n l cur:=h
   rw[zlc,lookc_nil] at h'
   split at h'<;>cases h' }
 refine callsIn_wide.1 (callsIn_of_wp_marks (n:=0) hf hb trivial (wpIn_mono (h C X.l hPk _ w ⟨p,hs⟩) ?_))
 rintro e a' w' ⟨s',⟨p',hs'⟩,hq⟩
 have fin:∀ (a':Act) (w':World),SR C p' s' a' w'→(∃ l z,(s'.rows 999).c = .gh P l z (some [])∨(s'.rows 999).c = .gh P l z none) →
  ∃ v,(results fn a'.tmps).run P w' = .ok v w'∧((∃ v',Ending.returned v = .returned v')∧∃ Ψ' Θ',X.X (some []) w' Ψ' Θ'∨X.X none w' Ψ' Θ'):=fun a' w' hs' ⟨l,z',hq⟩=>by
  have hm:(fn.results.mapM (resOp a'.tmps)).run P w' = .ok #[] w':=by
   rw[Array.mapM_eq_mapM_toList,hres]
   simp only[Sem.run_map,List.mapM_nil,Sem.run_pure,Result.andThen_ok]
  refine⟨.tuple #[],by rw[results_eq,Sem.run_bind,hm];simp,⟨_,rfl⟩,p'.Ψ,p'.Θ,?_⟩
  have hpx:p'.X=X:=hs'.ex.px
  have hr:=hs'.rw 999
  rcases hq with hq|hq
  ·rw[hq] at hr
   simp only[zrl] at hr
   rw[hpx] at hr
   exact .inl hr.2.2.2.2.2.2
  ·rw[hq] at hr
   simp only[zrl] at hr
   rw[hpx] at hr
   exact .inr hr.2.2.2.2.2.2
 cases e with
 | normal=>exact hs'.leave fun a'' w'' _ hs''=>fin a'' w'' hs'' hq
 | ret=>exact hs'.leave fun a'' w'' _ hs''=>fin a'' w'' hs'' hq
 | _=>exact hq.elim
section
variable {P:Program}{C:Ctx}{p:Plan}{s:AS}{a:Act}{w:World}
set_option maxHeartbeats 400000 in
theorem awp_rangeFuncH {u:Addr}{pk:List (Nat × Int)}{g:Operand}{ps:Array Tmp}{assign body:Code}{Q:Exit→AS→Prop}(hrd:C.rd=none) (hC:C.X=XS.none) {F:FuncId}{args:List RV}{xs:List (List RV)}{z:Bool}
 (hF:s.ev g = .r (.bf F args)) (hI:HBCalls P u pk z F args xs) (hdead:(s.rows 0).c = .dead) (ts:List Nat) (hps:∀ t∈ps.toList,t<s.n)
 (I:List (List RV)→List Value→AS→Prop) (J:Code→List Value→AS→Prop)
 (hpk:∀ left us s',I left us s'→∀ p' a' w',SR C p' s' a' w'→PeekI u pk w')
 (h0:∀ us,I xs us { n:=s.n,tm:=look [],rows:=upd s.rows 0 ⟨(s.rows 0).ver,.sus (ts.map s.tm) us⟩ })
 (round:∀ e rest us s',s'.n=s.n→I (e::rest) us s'→e.length=ps.size∧∃ avs,(s'.rows 0).c = .sus avs us∧∀ C,awp P C assign (fun x s2=>x = .normal∧∀ C,awp P C body (rpost s.n I J rest us) s2) ⟨s.n,psA ps.toList e (look (ts.zip avs)),s'.rows⟩)
 (done:∀ us s',s'.n=s.n→I [] us s'→∃ avs,(s'.rows 0).c = .sus avs us∧Q .normal ⟨s.n,look (ts.zip avs),s'.rows⟩)
 (stop:∀ c us s',s'.n=s.n→J c us s'→∃ avs,(s'.rows 0).c = .sus avs us∧awp P C c Q ⟨s.n,look (ts.zip avs),s'.rows⟩):awp P C (.rangeFunc g ps assign body) Q s:=by
 rintro a w ⟨p,hS⟩
 have hn:∀ o w Ψ Θ,¬ C.X.X o w Ψ Θ:=fun o w Ψ Θ h=>by rw[hC] at h;exact h
 have hF0:fnc C.rd=Fence.wide:=by rw[hrd];rfl
 rw[hF0]
 refine wpIn_rangeFunc fun fn _=>?_
 obtain⟨vsC,hgv,hcs⟩:∃ vs:Array Value,a.eval g = .func (.func F) vs #[]∧RV.relV w p.R args vs.toList:=by
  have:=hS.ev g
  rw[hF] at this
  simpa only[AV.rel,RV.rel] using this
 have hψ0:=hS.ex.ψn hn
 obtain⟨rec,hrec⟩:∃ rec:LoopState→Option Code→Loop,rec=fun st pe=>{ state:=st,pending:=pe,fn,tmps:=a.tmps,params:=ps,assign,body,defers:=w.heap.size }:=⟨_,rfl⟩
 obtain⟨w1,hw1⟩:∃ w1,(w.alloc (.deferred (some []))).alloc (.loop (rec .ready none))=w1:=⟨_,rfl⟩
 obtain⟨L,hLdef⟩:∃ L,L=w.heap.size+1:=⟨_,rfl⟩
 obtain⟨aL,haL⟩:∃ aL:Act,aL={ tmps:=a.tmps,defers:={ target:=.collected w.heap.size,args:=#[] }::a.defers }:=⟨_,rfl⟩
 have hS1:SR C p s aL w1:=by rw[haL,← hw1];exact hS.enter hrd _
 have hsz1:w1.heap.size=w.heap.size+2:=by rw[← hw1];simp
 have hL1:w1.heap[L]? = some (.loop (rec .ready none)):=by
  rw[← hw1,hLdef];have:=World.alloc_heap_new (w.alloc (.deferred (some []))) (.loop (rec .ready none));rwa [World.size_alloc] at this
 have hLR:¬ p.R L:=fun h=>by have:=hS.rb L h;omega
 have hLβ:∀ k,p.β k≠some L:=fun k h=>by have:=(hS.bl k L h).1;omega
 have hL0:C.w0.heap.size≤L:=by have:=hS.base.size;omega
 have hLm:∀ d∈aL.defers,d.target ≠ .collected L:=fun d hd e=>by
  obtain⟨Ds,g1,_,g3⟩:=hS1.ex.df
  rw[g1] at hd
  obtain⟨D,hD,rfl⟩:=List.mem_map.1 hd
  injection e with e
  subst e
  have:=(g3 _ hD).1
  rw[hL1] at this;cases this
 obtain⟨us,hus⟩:∃ us,us=ts.map fun t=>aL.tmps.getD t undef:=⟨_,rfl⟩
 have hS2:=hS1.wait hdead ts
 rw[← hus,← look_nil'] at hS2
 have htmps:aL.tmps=a.tmps:=by rw[haL]
 have hsn:s.n=aL.tmps.size:=by rw[htmps];exact hS.sz.symm
 let X:XS:={ l:=L,z:=z,n0:=w1.heap.size,R:=p.R,X:=XJ C aL L rec (fun left s'=>I left us s') (fun c s'=>J c us s'),st:=XJ.st hn }
 have hcap:RV.relV w1 p.R args vsC.toList:=RV.relV_mono (fun _ h=>h) (fun ad hr=>World.cell?_of_block (by rw[← hw1];exact (Below.heap_alloc _ _ _ (by have:=hS.rb _ hr;simp;omega)).trans (Below.heap_alloc _ _ _ (hS.rb _ hr)))) _ _ hcs
 have hY:YOk P X:=by
  intro e rest wv Ψ Θ R vs hX hR hV
  obtain⟨pv,sv,hSv,hsnv,⟨hIv,hLv⟩,hLRv,hLβv,hΨv,hΘv⟩:=hX
  have hψv:=hSv.ex.ψn hn
  obtain⟨hlen,avs,hrow,hround⟩:=round e rest us sv (hsnv.trans hsn.symm) hIv
  have hvs:vs.size=ps.size:=by have:=RV.relV_length hV;simp only[Array.length_toList] at this;omega
  have hltv:L<wv.heap.size:=(Array.getElem?_eq_some_iff.1 hLv).1
  have hy:=run_yield (P:=P) (args:=vs) hLv (by rw[hrec];exact hvs)
  rw[hrec] at hy
  refine⟨fn,_,assign,body,hy,?_⟩
  have hRβ:∀ b,R b→b<wv.heap.size∧∀ k,pv.β k≠some b:=fun b hb=>⟨(hR b hb).1,fun k hk=>(hR b hb).2.1 ((hΘv b).2 (.inl ⟨k,hk⟩))⟩
  have hRL:¬ R L:=fun hb=>(hR L hb).2.1 ((hΘv L).2 (.inr rfl))
  have hkv:Kept wv wv pv { pv with R:=fun b=>pv.R b∨R b } sv.ver sv.ver:=⟨fun _ h=>.inl h,fun _ _=>rfl,fun _=>Nat.le_refl _,fun _ _=>⟨rfl,rfl⟩⟩
  have haw:=hSv.awake (by rw[hrow,hus])
  have hzip:(ps.zip vs).foldl (fun tmps (x:Nat × Value)=>tmps.setIfInBounds x.1 x.2) a.tmps=(ps.toList.zip vs.toList).foldl (fun tmps (x:Nat × Value)=>tmps.setIfInBounds x.1 x.2) a.tmps:=by
   rw[← Array.foldl_toList,Array.toList_zip]
  obtain⟨hpsz,hprel⟩:=psA_rel (w:=wv) (p:={ pv with R:=fun b=>pv.R b∨R b }) (ver:=sv.ver) ps.toList e vs.toList (look (ts.zip avs)) a.tmps (RV.relV_mono (fun _ h=>.inr h) (fun _ _=>rfl) _ _ hV)
   (fun t ht=>by rw[← htmps,← hsn];exact hps t ht) (fun t=>by rw[← htmps];exact AV.rel_mono hkv _ _ (haw.tm t))
  let Hd:Nat→Prop:=fun b=>b=L∨∃ d∈aL.defers,d.target = .collected b
  have hHd:∀ b,Hd b→b<wv.heap.size∧¬ C.bor b∧¬ pv.R b∧¬ R b∧∀ k,pv.β k≠some b:=fun b hb=>by
   rcases hb with rfl|⟨d,hd,hdt⟩
   ·exact⟨hltv,fun hb=>by have:=hS.ex.bo b (.inl hb);omega,hLRv,hRL,hLβv⟩
   ·obtain⟨Ds,g1,_,g3⟩:=hSv.ex.df
    rw[g1] at hd
    obtain⟨D,hD,rfl⟩:=List.mem_map.1 hd
    injection hdt with hdt
    subst hdt
    obtain⟨k1,k2,k3,k4,k5,k6⟩:=g3 D hD
    refine⟨(Array.getElem?_eq_some_iff.1 k1).1,fun hb=>by have:=hS.ex.bo D (.inl hb);omega,k3,fun hr=>?_,k4⟩
    have hD1:D<w1.heap.size:=by
     obtain⟨Ds',q1,_,q3⟩:=hS1.ex.df
     have:Ds'=Ds:=marks_inj (q1.symm.trans g1)
     subst this
     exact (Array.getElem?_eq_some_iff.1 (q3 D hD).1).1
    rcases (hR D hr).2.2 with q|q
    ·obtain⟨Ds',q1,_,q3⟩:=hS1.ex.df
     have:Ds'=Ds:=marks_inj (q1.symm.trans g1)
     subst this
     exact (q3 D hD).2.2.1 q
    ·have q':w1.heap.size≤D:=q
     omega
  have hSa:=hSv.into (L:=L) (w2:=wv) (R:=R) (rd:=some L) (Hd:=Hd) (a':={ tmps:=(ps.zip vs).foldl (fun tmps (x:Nat × Value)=>tmps.setIfInBounds x.1 x.2) a.tmps,defers:=[] }) (tm':=psA ps.toList e (look (ts.zip avs)))
   hn rfl rfl rfl rfl (fun _ _=>rfl) hLRv hLβv hRβ (fun t=>by rw[hzip];exact hprel t) (by rw[hzip,hpsz,← htmps];exact hsnv.symm) rfl hHd hC
  have hna:=hsnv.trans hsn.symm
  refine roundIn_of_wpIn trivial ?_
  have hassign:=hround (Cin C pv R wv (some L) Hd) _ _ ⟨_,hna▸hSa⟩
  refine wpIn_mono hassign ?_
  rintro x a1 wa ⟨s1,⟨p1,hS1a⟩,rfl,hbody⟩
  have hLa:wa.heap[L]? = some (.loop (rec .ready none)):=(hS1a.base.block L hltv (fun ⟨hb,_⟩=>(hHd L (.inl rfl)).2.1 hb) (fun ⟨k,hk,_⟩=>hLβv k hk)).trans hLv
  have hlta:L<wa.heap.size:=(Array.getElem?_eq_some_iff.1 hLa).1
  refine⟨_,run_beginRound hLa (by rw[hrec]),?_⟩
  have hop1:=Hop.of (L:=L) (w:=wv) (w2:=wv) rfl rfl rfl rfl (fun _ _=>rfl) hS1a
  have hHd1:∀ b,Hd b→b<wa.heap.size∧¬ (Cin C pv R wv (some L) Hd).bor b∧¬ p1.R b∧¬ False∧∀ k,p1.β k≠some b:=fun b hb=>by
   obtain⟨_,q2,_,q4,q5,_,_,q8⟩:=hS1a.ex.hd b hb
   exact⟨q4,q2,q5,fun h=>h,q8⟩
  have hS1b:=hS1a.into (L:=L) (w2:=wa.putObj L (.loop { rec .ready none with state:=.busy })) (R:=fun _=>False) (rd:=some L) (Hd:=Hd) (a':=a1) (tm':=s1.tm) hn rfl rfl rfl World.putObj_size putObj_other
   (hHd1 L (.inl rfl)).2.2.1 (hHd1 L (.inl rfl)).2.2.2.2 (fun _ h=>h.elim) (fun t=>by
    have hk1:Kept wa (wa.putObj L (.loop { rec .ready none with state:=.busy })) p1 { p1 with R:=fun b=>p1.R b∨False } s1.ver s1.ver :=
     ⟨fun _ h=>.inl h,fun ad hr=>World.cell?_of_block (putObj_other _ fun e=>(hHd1 L (.inl rfl)).2.2.1 (e▸hr)),fun _=>Nat.le_refl _,fun _ _=>⟨rfl,rfl⟩⟩
    exact AV.rel_mono hk1 _ _ (hS1a.tm t)) hS1a.sz (hS1a.ex.rm rfl) hHd1 hC
  refine wpIn_mono (hbody _ _ _ ⟨_,hS1b⟩) ?_
  have hLb:(wa.putObj L (.loop { rec .ready none with state:=.busy })).heap[L]? = some (.loop { rec .ready none with state:=.busy }):=World.putObj_heap_same hlta
  have hRo:∀ b,R b→b<wv.heap.size∧(∀ d∈aL.defers,d.target ≠ .collected b)∧¬ C.hd b∧(C.R0 b∨C.w0.heap.size≤b∨C.own b):=fun b hb=>by
   have hsz0:=hS.base.size
   refine⟨(hR b hb).1,fun d hd hdt=>(hHd b (.inr ⟨d,hd,hdt⟩)).2.2.2.1 hb,fun hh=>?_,?_⟩
   ·obtain⟨q1,_,_,_,q5,_⟩:=hS.ex.hd b hh
    rcases (hR b hb).2.2 with q|q
    ·exact q5 q
    ·have q':w1.heap.size≤b:=q;omega
   ·rcases (hR b hb).2.2 with q|q
    ·exact hS.rn b q
    ·have q':w1.heap.size≤b:=q;exact .inr (.inl (by omega))
  have fin:∀ (jump:Option Code) (s3:AS) (p3:Plan) (a3:Act) (w3:World),SR (Cin (Cin C pv R wv (some L) Hd) p1 (fun _=>False) (wa.putObj L (.loop { rec .ready none with state:=.busy })) (some L) Hd) p3 s3 a3 w3 →
   (match jump with|none=>∃ s4,Sub s3 s4∧I rest us ⟨s.n,look [],s4.rows⟩|some c=>∃ s4,Sub s3 s4∧J c us ⟨s.n,look [],s4.rows⟩) →
   ∃ v w', (Instr.endRound L jump).run P w3 = .ok v w'∧(w'.os=wv.os∧w'.tape=wv.tape∧w'.output=wv.output∧wv.heap.size≤w'.heap.size∧(∀ b, b<wv.heap.size→¬ Θ b→w'.heap[b]? = wv.heap[b]?) ∧
     ∃ Ψ' Θ':Nat→Prop,(∀ b,Ψ' b→Ψ b∨R b∨wv.heap.size≤b)∧(∀ b,Θ' b→Θ b∨wv.heap.size≤b)∧(∀ b,Ψ' b→b<w'.heap.size)∧(∀ b,Θ' b→b<w'.heap.size) ∧
     ((Ending.returned v = .returned (.bool true)∧X.X (some rest) w' Ψ' Θ')∨(Ending.returned v = .returned (.bool false)∧X.X Option.none w' Ψ' Θ'))):=by
   intro jump s30 p30 a3 w3 h30 hj0
   obtain⟨s3,hsub,hj⟩:∃ s4,Sub s30 s4∧(match jump with|none=>I rest us ⟨s.n,look [],s4.rows⟩|some c=>J c us ⟨s.n,look [],s4.rows⟩):=by
    cases jump with
    | none=>exact hj0
    | some c=>exact hj0
   obtain⟨p3,h3⟩:=hsub _ _ _ ⟨p30,h30⟩
   have hL3:w3.heap[L]? = some (.loop { rec .ready none with state:=.busy }):=by
    refine (h3.base.block L (by show L<(wa.putObj L _).heap.size;rw[World.putObj_size];exact hlta) (fun ⟨hb,_⟩=>(hHd1 L (.inl rfl)).2.1 hb) (fun ⟨k,hk,_⟩=>(hHd1 L (.inl rfl)).2.2.2.2 k hk)).trans hLb
   obtain⟨_,_,_,_,e5,_,_,e8⟩:=h3.ex.hd L (.inl rfl)
   have hend:=run_endRound (P:=P) jump hL3
   have hlt3:L<w3.heap.size:=(Array.getElem?_eq_some_iff.1 hL3).1
   have hop2:=Hop.of (C:=Cin C pv R wv (some L) Hd) (p:=p1) (L:=L) (w:=wa) (w2:=wa.putObj L (.loop { rec .ready none with state:=.busy })) (R:=fun _=>False) rfl rfl rfl World.putObj_size putObj_other h3
   obtain⟨o4,ho4⟩:∃ o4,o4=Obj.loop { { rec .ready none with state:=.busy } with state:=if jump.isNone then .ready else .done,pending:=jump }:=⟨_,rfl⟩
   rw[← ho4] at hend
   have hop:=(Hop.trans (C':=Cin C pv R wv (some L) Hd) hop1 (fun _=>Iff.rfl) hop2).put (o:=o4)
   have hL4:(w3.putObj L o4).heap[L]? = some (.loop (rec (if jump.isNone then .ready else .done) jump)):=by
    rw[World.putObj_heap_same hlt3,ho4,hrec]
   have hS4:SR C p3 ⟨s.n,look [],s3.rows⟩ aL (w3.putObj L o4):=by
    have:=hSv.land (C':=Cin (Cin C pv R wv (some L) Hd) p1 (fun _=>False) (wa.putObj L (.loop { rec .ready none with state:=.busy })) (some L) Hd) hn hL0 hLm hop hRo rfl rfl h3 e5 e8 rfl rfl rfl World.putObj_size putObj_other
    rw[hna,← look_nil'] at this
    exact this
   have hψ4:=hS4.ex.ψn hn
   refine⟨_,_,hend,hop.os,hop.tape,hop.output,hop.size,fun b hb hθ=>hop.heap b hb (fun k hk=>hθ ((hΘv b).2 (.inl ⟨k,hk⟩))) (fun e=>hθ ((hΘv b).2 (.inr e))),
    fun b=>p3.R b∨(∃ k,p3.β k=some b)∨(b<C.w0.heap.size∧¬ C.bor b∧¬ C.own b)∨b=L∨C.hd b∨∃ d∈aL.defers,d.target = .collected b,fun b=>(∃ k,p3.β k=some b)∨b=L,fun b hb=>?_,fun b hb=>?_,fun b hb=>?_,fun b hb=>?_,?_⟩
   ·rcases hb with g|⟨k,g⟩|g|g|g|g
    ·rcases hop.rn b g with q|q|q|⟨k,q,_⟩
     ·exact .inl ((hΨv b).2 (.inl q))
     ·exact .inr (.inl q)
     ·exact .inr (.inr q)
     ·exact .inl ((hΨv b).2 (.inr (.inl ⟨k,q⟩)))
    ·rcases hop.bl k b g with q|⟨_,_,k',_,q⟩|⟨k',q,_⟩
     ·exact .inr (.inr q)
     ·exact .inl ((hΨv b).2 (.inr (.inl ⟨k',q⟩)))
     ·exact .inl ((hΨv b).2 (.inr (.inl ⟨k',q⟩)))
    ·exact .inl ((hΨv b).2 (.inr (.inr (.inl g))))
    ·exact .inl ((hΨv b).2 (.inr (.inr (.inr (.inl g)))))
    ·exact .inl ((hΨv b).2 (.inr (.inr (.inr (.inr (.inl g))))))
    ·exact .inl ((hΨv b).2 (.inr (.inr (.inr (.inr (.inr g))))))
   ·rcases hb with⟨k,g⟩|g
    ·rcases hop.bl k b g with q|⟨_,_,k',_,q⟩|⟨k',q,_⟩
     ·exact .inr q
     ·exact .inl ((hΘv b).2 (.inl ⟨k',q⟩))
     ·exact .inl ((hΘv b).2 (.inl ⟨k',q⟩))
    ·exact .inl ((hΘv b).2 (.inr g))
   ·have hsz4:=hS4.base.size
    rcases hb with g|⟨k,g⟩|g|rfl|g|⟨d,hd,hdt⟩
    ·exact hS4.rb b g
    ·exact (hS4.bl k b g).1
    ·omega
    ·rw[World.putObj_size];exact hlt3
    ·exact (hS4.ex.hd b g).2.2.2.1
    ·exact Nat.lt_of_lt_of_le (hHd b (.inr ⟨d,hd,hdt⟩)).1 hop.size
   ·rcases hb with⟨k,g⟩|rfl
    ·exact (hS4.bl k b g).1
    ·rw[World.putObj_size];exact hlt3
   ·cases jump with
    | none=>exact .inl ⟨rfl,p3,_,hS4,hsn,⟨hj,hL4⟩,e5,e8,fun _=>Iff.rfl,fun _=>Iff.rfl⟩
    | some c=>exact .inr ⟨rfl,p3,_,hS4,hsn,⟨c,hj,hL4⟩,e5,e8,fun _=>Iff.rfl,fun _=>Iff.rfl⟩
  rintro en a3 w3 ⟨s3,⟨p3,h3⟩,hq⟩
  cases en with
  | normal=>exact fin none s3 p3 a3 w3 h3 hq
  | ret=>exact fin (some .ret) s3 p3 a3 w3 h3 hq
  | exit id=>exact fin (some (.exit id)) s3 p3 a3 w3 h3 hq
  | goto l=>exact fin (some (.goto l)) s3 p3 a3 w3 h3 hq
  | panic ch=>exact hq.elim
  | outgrown=>exact hq.elim
 have hX0:X.X (some xs) w1 (fun b=>p.R b∨(∃ k,p.β k=some b)∨(b<C.w0.heap.size∧¬ C.bor b∧¬ C.own b)∨b=L∨C.hd b∨∃ d∈aL.defers,d.target = .collected b) (fun b=>(∃ k,p.β k=some b)∨b=L) :=
  ⟨p,_,hS2,hsn,⟨h0 us,hL1⟩,hLR,hLβ,fun _=>Iff.rfl,fun _=>Iff.rfl⟩
 have hlt1:L<w1.heap.size:=(Array.getElem?_eq_some_iff.1 hL1).1
 have hcall:=hI.2 w1 p.R vsC X _ _ hS1.rb hcap rfl (fun hz b hb=>hb) (Nat.le_refl _) hY (fun b hb=>by
  have hszw:=hS1.base.size
  rcases hb with g|⟨k,g⟩|g|rfl|g|⟨d,hd,hdt⟩
  ·exact hS1.rb b g
  ·exact (hS1.bl k b g).1
  ·omega
  ·exact hlt1
  ·exact (hS1.ex.hd b g).2.2.2.1
  ·obtain⟨Ds,g1,_,g3⟩:=hS1.ex.df
   rw[g1] at hd
   obtain⟨D,hD,rfl⟩:=List.mem_map.1 hd
   injection hdt with hdt
   subst hdt
   exact (Array.getElem?_eq_some_iff.1 (g3 D hD).1).1) (fun b hb=>by
  rcases hb with⟨k,g⟩|rfl
  ·exact (hS1.bl k b g).1
  ·exact hlt1) (fun b hb hθ=>by
  rcases hθ with⟨k,g⟩|rfl
  ·exact (hS1.bl k b g).2.1 hb
  ·exact hLR hb) (fun o w' Ψ' Θ' hx=>by
   obtain⟨p',s',hS',_,⟨hI',_⟩,_⟩:=hx
   exact hpk _ _ _ hI' _ _ _ hS') hX0
 have e1:(Instr.enterLoop fn a.tmps ps assign body none).run P w = .ok (L,[{ target:=.collected w.heap.size,args:=#[] }]) w1:=by
  rw[run_enterLoop_outer,← hw1,hrec,hLdef]
 have e2:(resolve a.eval (rangeCall g L) 0).run P w1 = .ok { target:=.fn (.func F) #[],args:=vsC ++ #[.func (.yield L) #[] #[]] } w1:=by
  simp only[resolve,hgv,Sem.run_bind,Deferred.ofValue,Sem.run_pure,Result.andThen_ok]
  simp [Act.eval]
 have e3:(invoke (.fn (.func F) #[]) (vsC ++ #[.func (.yield L) #[] #[]])).run P w1 = .ok (.enter F (vsC ++ #[.func (.yield L) #[] #[]])) w1:=by
  simp only[invoke]
  have:=run_callFunc hI.1 (vsC ++ #[.func (.yield L) #[] #[]] ++ #[]) w1
  simpa using this
 have e4:Fence.wide.depth.isSome=true→1≤0:=fun h=>by simp [Fence.wide] at h
 refine⟨L,_,w1,_,w1,F,_,w1,e1,e2,?_,e3,e4,?_⟩
 ·intro f' _;exact trivial
 ·refine callsIn_wide.2 (hcall.mono ?_)
  have haL':({ a with defers:=[{ target:=.collected w.heap.size,args:=#[] }]++a.defers }:Act)=aL:=by rw[haL];rfl
  rintro e w' ⟨⟨v,rfl⟩,Ψ',Θ',hX|hX⟩
  ·obtain⟨p',s',hS',hsn',⟨hI',hL'⟩,hLR',hLβ',_⟩:=hX
   have hend:=run_endLoop (P:=P) hL' (by rw[hrec];simp)
   have hp:(rec .ready none).pending=none:=by rw[hrec]
   rw[hp] at hend
   refine⟨none,_,hend,?_⟩
   obtain⟨avs,hrow,hQ⟩:=done us s' (hsn'.trans hsn.symm) hI'
   have hS4:∀ o,SR C p' ⟨s.n,look (ts.zip avs),s'.rows⟩ aL (w'.putObj L o):=fun o=>by
    have:=(hS'.turn (o:=o) hLR' hLβ' hL0 (hS'.ex.ψn hn) hLm).awake (by rw[hrow,hus])
    rw[hsn'.trans hsn.symm] at this
    exact this
   rw[haL']
   exact⟨_,⟨_,hS4 _⟩,hQ⟩
  ·obtain⟨p',s',hS',hsn',⟨c,hJ',hL'⟩,hLR',hLβ',_⟩:=hX
   have hend:=run_endLoop (P:=P) hL' (by rw[hrec];simp)
   have hp:(rec .done (some c)).pending=some c:=by rw[hrec]
   rw[hp] at hend
   refine⟨some c,_,hend,?_⟩
   obtain⟨avs,hrow,hQ⟩:=stop c us s' (hsn'.trans hsn.symm) hJ'
   have hS4:∀ o,SR C p' ⟨s.n,look (ts.zip avs),s'.rows⟩ aL (w'.putObj L o):=fun o=>by
    have:=(hS'.turn (o:=o) hLR' hLβ' hL0 (hS'.ex.ψn hn) hLm).awake (by rw[hrow,hus])
    rw[hsn'.trans hsn.symm] at this
    exact this
   have hQ':=fun o=>hQ _ _ ⟨_,hS4 o⟩
   rw[hF0] at hQ'
   rw[haL']
   exact hQ' _
end
theorem awp_rangeFH {P:Program}{C:Ctx}{u:Addr}{pk:List (Nat × Int)}{n:Nat}{s:AS}{t:Nat}{ps:Array Tmp}{assign body:Code}{Q:Exit→AS→Prop}(hC:C.rd=none∧C.X=XS.none) {f:FuncId}{caps:List RV}{z:Bool}(xs:List (List RV)) (hI:HBCalls P u pk z f caps xs) (k t0:Nat)
 (ts:List Nat) (hnd:ts.Nodup) (F:(Nat→Nat)→List (Nat × AV)) (R:Nat→(Nat→Nat)→List (Nat × RowC)) (I:Nat→Prop) (h0:FitV n F (R 0) s) (hi0:I 0)
 (hu:∀ vs,(t0,AV.pu k (vs k) u)∈F vs) (hbx:∀ i vs,∃ cs,lookc (R i vs) k = .box cs∧∀ x∈pk,cs[x.1]? = some (.r (.it .i64 x.2))) (hk0:k≠0) (hts:∀ vs,(F vs).map (·.1)=ts) (hg:∀ vs,look (F vs) t = .r (.bf f caps)) (hd:∀ i vs,lookc (R i vs) 0 = .dead) (hps:∀ t∈ps.toList,t<n) (hlen:∀ e∈xs,e.length=ps.size)
 (round:∀ i e vs us C,xs[i]? = some e→I i→awp P C assign (fun x s2=>x = .normal∧∀ C,awp P C body (rfpost n ts Q (fun s3=>I (i+1)∧∃ vs',Sub s3 (st n [] vs' ((0,.sus ((F vs').map (·.2)) us)::R (i+1) vs'))) us) s2)
  (st n (psL ps.toList e (F vs)) vs ((0,.sus ((F vs).map (·.2)) us)::R i vs)))
 (done:∀ vs us,I xs.length→Q .normal (st n (F vs) vs ((0,.sus ((F vs).map (·.2)) us)::R xs.length vs))):awp P C (.rangeFunc (.tmp t) ps assign body) Q s:=by
 obtain⟨vs0,h0⟩:=h0
 refine zw h0 ?_
 have hdrop:∀ i e rest,xs.drop i=e::rest→xs[i]? = some e∧xs.drop (i+1)=rest:=fun i e rest h=>by
  refine⟨?_,by rw[← List.drop_drop,h];rfl⟩
  have:(xs.drop i)[0]? = some e:=by rw[h];rfl
  simpa using this
 have hz:∀ vs,ts.zip ((F vs).map (·.2))=F vs:=fun vs=>by rw[← hts vs];exact zip_keys _
 refine awp_rangeFuncH hC.1 hC.2 (F:=f) (args:=caps) (xs:=xs) (z:=z) (by
  show look (F vs0) t=_
  rw[hg]) hI (hd 0 vs0) ts hps
  (fun left us s'=>∃ i vs,left=xs.drop i∧i≤xs.length∧I i∧s'=st n [] vs ((0,.sus ((F vs).map (·.2)) us)::R i vs))
  (fun c us s'=>∃ avs,(s'.rows 0).c = .sus avs us∧((c = .ret∧Q .ret ⟨n,look (ts.zip avs),s'.rows⟩)∨∃ id,c = .exit id∧Q (.exit id) ⟨n,look (ts.zip avs),s'.rows⟩))
  (by
   rintro left us s' ⟨i,vs,_,_,_,rfl⟩ p' a' w' hS'
   obtain⟨cs,hcs,hpk⟩:=hbx i vs
   exact peek_of hS' (by rw[zlc,if_neg hk0];exact hcs) hpk (List.mem_map.2 ⟨_,hu vs,rfl⟩:AV.pu k (vs k) u∈(F vs).map (·.2)))
  (fun us=>⟨0,vs0,rfl,Nat.zero_le _,hi0,?_⟩) ?_ ?_ ?_
 ·refine (upd_rows_st (c:=.sus (ts.map (st n (F vs0) vs0 (R 0 vs0)).tm) us)).trans ?_
  congr 3
  have hk:(F vs0).map (·.2)=ts.map (look (F vs0)):=by
   have:=look_keys (F vs0) (by rw[hts vs0];exact hnd)
   rw[hts vs0] at this
   exact this
  rw[hk];rfl
 ·rintro e rest us s' _ ⟨i,vs,hl,hle,hI',rfl⟩
  obtain⟨h1,h2⟩:=hdrop i e rest hl.symm
  refine⟨hlen e (List.mem_of_getElem? h1),(F vs).map (·.2),rfl,fun C'=>?_⟩
  have hr:=round i e vs us C' h1 hI'
  rw[hz,psA_look]
  refine awp_mono ?_ hr
  rintro x s2 ⟨hx,hbody⟩
  refine⟨hx,fun C''=>awp_mono ?_ (hbody C'')⟩
  intro x s3 hq
  cases x with
  | normal =>
    obtain⟨hI3,vs',hsub⟩:=hq
    refine⟨_,hsub,i+1,vs',h2.symm,?_,hI3,rfl⟩
    have:=(List.getElem?_eq_some_iff.1 h1).1
    omega
  | ret =>
    obtain⟨avs,h3,h4⟩:=hq
    exact⟨s3,Sub.refl _,avs,h3,.inl ⟨rfl,h4⟩⟩
  | exit id =>
    obtain⟨avs,h3,h4⟩:=hq
    exact⟨s3,Sub.refl _,avs,h3,.inr ⟨id,rfl,h4⟩⟩
  | goto l=>exact hq.elim
  | panic c=>exact hq.elim
  | outgrown=>exact hq.elim
 ·rintro us s' _ ⟨i,vs,hl,hle,hI',rfl⟩
  have hi:i=xs.length:=by
   have:(xs.drop i).length=0:=by rw[← hl];rfl
   rw[List.length_drop] at this;omega
  subst hi
  refine⟨(F vs).map (·.2),rfl,?_⟩
  have:=done vs us hI'
  rw[hz]
  exact this
 ·rintro c us s' _ ⟨avs,h3,h4⟩
  refine⟨avs,h3,?_⟩
  rcases h4 with⟨rfl,h4⟩|⟨id,rfl,h4⟩
  ·exact ze h4
  ·exact zf h4
theorem gop_vlNil {P:Program}{s:AS}{o:Oper}{x:Operand}{K:AS→Prop}(ho:o.op = .nilCheck x) {u:Addr}(hx:s.ev x = .r (.vl u)) (hK:K (s.put o.dst (.r (.vl u)))):gop P o K s:=by
 intro C p a w h hd hnd KW Q hKW
 have hv:a.eval x = .pointer (some u):=by
  have:=h.ev x
  rw[hx] at this
  simpa only[AV.rel,RV.rel] using this
 have hr:(execOp a.eval o).run P w = .ok (.value (.pointer (some u))) w:=by simp [execOp,ho,hv]
 refine wpIn_of_wp hnd ?_
 unfold Oper.wp
 rw[hr]
 have hput:=h.put' (d:=o.dst) (av:=.r (.vl u)) (v:=.pointer (some u)) (by simp only[AV.rel,RV.rel]) hd
 exact hKW _ _ p _ hput (app_n' _ _ _) hK
theorem gop_vlField {P:Program}{s:AS}{o:Oper}{x:Operand}{t:TypeId}{f:Nat}{K:AS→Prop}(ho:o.op = .fieldAddr t x f) {u:Addr}(hx:s.ev x = .r (.vl u)) {fs:List (Nat × Nat × Bool)}{sz:Nat}{agg:Bool}{z:List RV}(e1:tyq P t=some ⟨.struct fs,sz,agg,z⟩) {off sz2:Nat}{agg2:Bool}(e2:fs[f]? = some (off,sz2,agg2))
 (hK:K (s.put o.dst (.r (.vl (u.add off))))):gop P o K s:=by
 intro C p a w h hd hnd KW Q hKW
 have hv:a.eval x = .pointer (some u):=by
  have:=h.ev x
  rw[hx] at this
  simpa only[AV.rel,RV.rel] using this
 obtain⟨fields,hu,hfs,hall⟩:=tyq_struct e1
 rw[hfs] at e2
 obtain⟨g,hg,hx2,hm⟩:=fields_get e2
 injection hx2 with hx1 hx2
 subst hx1
 obtain⟨hok,hz⟩:=hall g hm
 have hr:(execOp a.eval o).run P w = .ok (.value (.pointer (some (u.add g.offset)))) w:=by simp [execOp,ho,hv,run_fieldAt hu hg hok hz]
 refine wpIn_of_wp hnd ?_
 unfold Oper.wp
 rw[hr]
 have hput:=h.put' (d:=o.dst) (av:=.r (.vl (u.add g.offset))) (v:=.pointer (some (u.add g.offset))) (by simp only[AV.rel,RV.rel]) hd
 exact hKW _ _ p _ hput (app_n' _ _ _) hK
theorem sops_vlLoad {P:Program}{C:Ctx}{n:Nat}{l:List (Nat × AV)}{vs:Nat→Nat}{cs:List (Nat × RowC)}{Q:Exit→AS→Prop}{ops:Array Oper}{o:Oper}{rest:List Oper}{x:Operand}{t:TypeId}{u:Addr}{pk:List (Nat × Int)}(hPk:∀ o w Ψ Θ,C.X.X (some o) w Ψ Θ→PeekI u pk w) (hg:o.guard=none) (hd:∀ t,o.dst=some t→t<n) (hnd:∀ c,o.op ≠ .defer c)
 (ho:o.op = .load t x) {T:TI}(e1:tyq P t=some T) (hagg:T.agg=false) {off:Nat}{m:Int}(hm:(off,m)∈pk) (hx:(st n l vs cs).ev x = .r (.vl (u.add off))) {ll:Nat}{z:Bool}{xs:List (List RV)}(hrow:lookc cs 999 = .gh P ll z (some xs))
 (hK:sops P C ops rest Q ((st n l vs cs).put o.dst (.r (.it .i64 m)))):sops P C ops (o::rest) Q (st n l vs cs):=fun a w ⟨p,hs⟩=>by
 unfold wpListIn
 rw[if_pos (wantA_sound hs (by simp [wantA,hg]))]
 have hv:a.eval x = .pointer (some (u.add off)):=by
  have:=hs.ev x
  rw[hx] at this
  simpa only[AV.rel,RV.rel] using this
 have hr:=hs.rw 999
 have e9:((st n l vs cs).rows 999).c = .gh P ll z (some xs):=hrow
 rw[e9] at hr
 simp only[zrl] at hr
 have hXX:=hr.2.2.2.2.2.2
 rw[hs.ex.px] at hXX
 have hcell:=hPk _ _ _ _ hXX _ hm
 have hrun:=run_loadVar_list (w:=w) e1 (ad:=u.add off) (us:=[.int .i64 m]) (fun i v hi=>by
  match i,hi with
  | 0, hi =>
    simp at hi
    subst hi
    simpa [Addr.add] using hcell) (by simp [need,hagg])
 rw[hagg] at hrun
 have hr:(execOp a.eval o).run P w = .ok (.value (.int .i64 m)) w:=by simp [execOp,ho,hv,Instr.loadAt,Instr.sureAddr,hrun]
 refine wpIn_of_wp hnd ?_
 unfold Oper.wp
 rw[hr]
 have hput:=hs.put' (d:=o.dst) (av:=.r (.it .i64 m)) (v:=.int .i64 m) (by simp only[AV.rel,RV.rel]) hd
 exact hK _ _ ⟨p,hput⟩
theorem awp_rangeGJ {P:Program}{C:Ctx}{s:AS}{g:Operand}{ps:Array Tmp}{assign body:Code}{Q:Exit→AS→Prop}(hC:C.rd=none∧C.X=XS.none) (k t0:Nat) (u:Addr) (rs rs':List RV) (ht0:s.tm t0 = .pu k (s.rows k).ver u) (hk:k<1000) (hk0:k≠0) (hc:(s.rows k).c = .box (rs.map .r))
 {F:FuncId}{args:List RV}{xs:List (List RV)}(hF:callee? (AS.ev { s with rows:=upd s.rows k ⟨(s.rows k).ver+1,.dead⟩ } g)=some (F,args.map .r)) (hI:JCalls P F u rs rs' args xs) (hdead:(s.rows 0).c = .dead) (ts:List Nat) (hps:∀ t∈ps.toList,t<s.n) (I:List (List RV)→List Value→AS→Prop)
 (h0:∀ us,I xs us { n:=s.n,tm:=look [],rows:=upd (upd s.rows k ⟨(s.rows k).ver+1,.dead⟩) 0 ⟨(s.rows 0).ver,.sus (ts.map s.tm) us⟩ })
 (round:∀ e rest us s',s'.n=s.n→I (e::rest) us s'→e.length=ps.size∧∃ avs,(s'.rows 0).c = .sus avs us∧∀ C,awp P C assign (fun x s2=>x = .normal∧∀ C,awp P C body (rpost s.n I (fun _ _ _=>False) rest us) s2) ⟨s.n,psA ps.toList e (look (ts.zip avs)),s'.rows⟩)
 (done:∀ us s',s'.n=s.n→I [] us s'→∃ avs,(s'.rows 0).c = .sus avs us∧Q .normal ⟨s.n,look (ts.zip avs),s'.rows⟩):awp P C (.rangeFunc g ps assign body) Q s:=by
 rintro a w ⟨p,hS⟩
 have hF0:fnc C.rd=Fence.wide:=by rw[hC.1];rfl
 rw[hF0]
 have hrow:=hS.rw k
 rw[hc] at hrow
 simp only[zrl] at hrow
 obtain⟨b0,cells,ty,hβ,hheap,hcells,hone⟩:=hrow
 have hub:u=⟨b0,0,none⟩:=by
  have hx:=hS.tm t0
  rw[ht0] at hx
  simp only[AV.rel] at hx
  obtain⟨b,hb,hbv⟩:=hx.2.2 rfl
  rw[hβ] at hb
  injection hb with hb
  subst hb
  have:=hx.1.symm.trans hbv
  injection this with this
  injection this
 have hS2:=hS.reRow (w':=w) k hk .dead rfl none 1 (by simp [maxLen]) rfl rfl rfl (Nat.le_refl _) (fun _ _ _=>rfl) (fun _ h=>by cases h) (fun p' ver' _ hβ hγ _=>by simp only[zrl];exact⟨hβ,hγ⟩)
 have hcr:RV.relV w p.R rs cells.toList:=(relV_plain rs _).1 hcells
 have hbl:=hS.bl k b0 hβ
 have e0:(upd s.rows k ⟨(s.rows k).ver+1,.dead⟩) 0=s.rows 0:=zuo _ _ (Ne.symm hk0)
 refine range_lent (C0:=C) hS2 hC.1 hC.2 hF hI (by show ((upd s.rows k ⟨(s.rows k).ver+1,.dead⟩) 0).c = .dead;rw[e0];exact hdead) ts hps hub hheap hcr hone (fun g=>?_) (fun g=>?_) hbl.2.1 (fun j hj=>?_) I (fun us=>?_) round ?_
 ·rcases hbl.2.2 with q|q|q
  ·omega
  ·omega
  ·exact g.2.2 q
 ·obtain⟨_,_,_,_,_,_,_,g8⟩:=hS.ex.hd b0 g
  exact g8 k hβ
 ·have hj':upd p.β k none j=some b0:=hj
  by_cases e:j=k
  ·subst e;rw[zus] at hj';cases hj'
  ·rw[zuo _ _ e] at hj'
   exact e (hS.ij j k b0 hj' hβ)
 ·have:=h0 us
  show I xs us { n:=s.n,tm:=look [],rows:=upd (upd s.rows k ⟨(s.rows k).ver+1,.dead⟩) 0 ⟨((upd s.rows k ⟨(s.rows k).ver+1,.dead⟩) 0).ver,_⟩ }
  rw[e0];exact this
 ·intro us p' s' R' a' w' cells' t' hsn hI' hS' hta hus _ _ _ _ _ _ _ _ _
  obtain⟨avs,hrow,hQ⟩:=done us s' hsn hI'
  have haw:=hS'.awake (avs:=avs) (ts:=ts) (by rw[hrow,hus])
  refine⟨_,⟨_,haw⟩,?_⟩
  show Q .normal ⟨s'.n,_,_⟩
  rw[hsn]
  exact hQ
theorem awp_rangeG {P:Program}{C:Ctx}{n:Nat}{Q:Exit→AS→Prop}{t:Nat}{ps:Array Tmp}{assign body:Code}(hC:C.rd=none∧C.X=XS.none) (k t0:Nat) (u:Addr) (hk:k<1000) (hk0:k≠0) (rs rs':List RV)
 {f:FuncId}{args:List RV}(xs:List (List RV)) (hI:JCalls P f u rs rs' args xs) (ts:List Nat) (hnd:ts.Nodup) (ht0:t0 ∉ ts) (htt:t≠t0) (F:(Nat→Nat)→List (Nat × AV)) (R:Nat→(Nat→Nat)→List (Nat × RowC)) (I:Nat→Prop) (vs0:Nat→Nat) (hi0:I 0)
 (hF:F (upd vs0 k (vs0 k+1))=F vs0) (hR:R 0 (upd vs0 k (vs0 k+1))=R 0 vs0) (hdk:lookc (R 0 vs0) k = .dead)
 (hts:∀ vs,(F vs).map (·.1)=ts) (hg:callee? (look (F vs0) t)=some (f,args.map .r)) (hd:∀ i vs,lookc (R i vs) 0 = .dead) (hps:∀ t∈ps.toList,t<n) (hlen:∀ e∈xs,e.length=ps.size)
 (round:∀ i e vs us C,xs[i]? = some e→I i→awp P C assign (fun x s2=>x = .normal∧∀ C,awp P C body (fun x s3=>x = .normal∧I (i+1)∧∃ vs',Sub s3 (st n [] vs' ((0,.sus ((F vs').map (·.2)) us)::R (i+1) vs'))) s2)
  (st n (psL ps.toList e (F vs)) vs ((0,.sus ((F vs).map (·.2)) us)::R i vs)))
 (done:∀ vs us,I xs.length→Q .normal (st n (F vs) vs ((0,.sus ((F vs).map (·.2)) us)::R xs.length vs))) :
 awp P C (.rangeFunc (.tmp t) ps assign body) Q (st n ((t0,.pu k (vs0 k) u)::F vs0) vs0 (insc (R 0 vs0) k (.box (rs.map .r)))):=by
 have hdrop:∀ i e rest,xs.drop i=e::rest→xs[i]? = some e∧xs.drop (i+1)=rest:=fun i e rest h=>by
  refine⟨?_,by rw[← List.drop_drop,h];rfl⟩
  have:(xs.drop i)[0]? = some e:=by rw[h];rfl
  simpa using this
 have hz:∀ vs,ts.zip ((F vs).map (·.2))=F vs:=fun vs=>by rw[← hts vs];exact zip_keys _
 have hrw:upd (st n ((t0,.pu k (vs0 k) u)::F vs0) vs0 (insc (R 0 vs0) k (.box (rs.map .r)))).rows k ⟨((st n ((t0,.pu k (vs0 k) u)::F vs0) vs0 (insc (R 0 vs0) k (.box (rs.map .r)))).rows k).ver+1,.dead⟩=(st n [] (upd vs0 k (vs0 k+1)) (R 0 vs0)).rows:=by
  funext j
  by_cases e:j=k
  ·subst e
   rw[zus]
   show (⟨vs0 j+1,.dead⟩:Row)=⟨upd vs0 j (vs0 j+1) j,lookc (R 0 vs0) j⟩
   rw[zus,hdk]
  ·rw[zuo _ _ e]
   show (⟨vs0 j,lookc (insc (R 0 vs0) k (.box (rs.map .r))) j⟩:Row)=⟨upd vs0 k (vs0 k+1) j,lookc (R 0 vs0) j⟩
   rw[lookc_insc,if_neg e,zuo _ _ e]
 refine awp_rangeGJ hC k t0 u rs rs' (by show look ((t0,AV.pu k (vs0 k) u)::F vs0) t0=_;rw[look_cons,if_pos rfl];rfl) hk hk0 (by show lookc (insc (R 0 vs0) k _) k=_;rw[lookc_insc,if_pos rfl]) (F:=f) (args:=args) (xs:=xs)
  (by show callee? (look ((t0,AV.pu k (vs0 k) u)::F vs0) t)=_;rw[look_cons,if_neg htt];exact hg) hI (by show lookc (insc (R 0 vs0) k _) 0=_;rw[lookc_insc,if_neg (Ne.symm hk0)];exact hd 0 vs0) ts hps
  (fun left us s'=>∃ i vs,left=xs.drop i∧i≤xs.length∧I i∧s'=st n [] vs ((0,.sus ((F vs).map (·.2)) us)::R i vs))
  (fun us=>⟨0,upd vs0 k (vs0 k+1),rfl,Nat.zero_le _,hi0,?_⟩) ?_ ?_
 ·rw[hrw]
  refine (show _=_ from ?_)
  have hkk:(F vs0).map (·.2)=ts.map (st n ((t0,.pu k (vs0 k) u)::F vs0) vs0 (insc (R 0 vs0) k (.box (rs.map .r)))).tm:=by
   have h1:=look_keys (F vs0) (by rw[hts vs0];exact hnd)
   rw[hts vs0] at h1
   rw[h1]
   refine List.map_congr_left fun j hj=>?_
   show look (F vs0) j=look ((t0,AV.pu k (vs0 k) u)::F vs0) j
   rw[look_cons,if_neg (by intro e;subst e;exact ht0 hj)]
  rw[← hkk,hF,hR]
  have hv0:((st n ((t0,.pu k (vs0 k) u)::F vs0) vs0 (insc (R 0 vs0) k (.box (rs.map .r)))).rows 0).ver=((st n [] (upd vs0 k (vs0 k+1)) (R 0 vs0)).rows 0).ver:=by
   show vs0 0=upd vs0 k (vs0 k+1) 0
   rw[zuo _ _ (Ne.symm hk0)]
  rw[hv0]
  exact upd_rows_st (c:=.sus ((F vs0).map (·.2)) us)
 ·rintro e rest us s' _ ⟨i,vs,hl,hle,hI',rfl⟩
  obtain⟨h1,h2⟩:=hdrop i e rest hl.symm
  refine⟨hlen e (List.mem_of_getElem? h1),(F vs).map (·.2),rfl,fun C'=>?_⟩
  have hr:=round i e vs us C' h1 hI'
  show awp P C' assign _ ⟨n,psA ps.toList e (look (ts.zip ((F vs).map (·.2)))),_⟩
  rw[hz,psA_look]
  refine awp_mono ?_ hr
  rintro x s2 ⟨hx,hbody⟩
  refine⟨hx,fun C''=>awp_mono ?_ (hbody C'')⟩
  rintro x s3 ⟨rfl,hI3,vs',hsub⟩
  refine⟨_,hsub,i+1,vs',h2.symm,?_,hI3,rfl⟩
  have:=(List.getElem?_eq_some_iff.1 h1).1
  omega
 ·rintro us s' _ ⟨i,vs,hl,hle,hI',rfl⟩
  have hi:i=xs.length:=by
   have:(xs.drop i).length=0:=by rw[← hl];rfl
   rw[List.length_drop] at this;omega
  subst hi
  refine⟨(F vs).map (·.2),rfl,?_⟩
  have hq:=done vs us hI'
  rw[hz]
  exact hq
theorem sub_ptvl {n:Nat}{l:List (Nat × AV)}{vs:Nat→Nat}{cs:List (Nat × RowC)}(t t0:Nat) {k:Nat}{u:Addr}(ht0:look l t0 = .pu k (vs k) u) (ht:look l t = .pt k (vs k) 0):Sub (st n l vs cs) (st n ((t,.r (.vl u))::l) vs cs):=fun C a w ⟨p,hp⟩=>by
 have h0:=hp.tm t0
 have e0:(st n l vs cs).tm t0 = .pu k (vs k) u:=ht0
 rw[e0] at h0
 simp only[AV.rel] at h0
 obtain⟨hv1,hv2,hv3⟩:=h0
 refine⟨p,{ hp with tm:=fun j=>?_ }⟩
 show AV.rel w _ _ (look ((t,.r (.vl u))::l) j) _
 rw[look_cons]
 split
 ·rename_i e
  subst e
  have hx:=hp.tm j
  have e2:(st n l vs cs).tm j = .pt k (vs k) 0:=ht
  rw[e2] at hx
  simp only[AV.rel,RV.rel] at hx ⊢
  obtain⟨b,hb,hbv⟩:=hv3 rfl
  obtain⟨b',hb',hbv'⟩:=hx.2 rfl
  rw[hb] at hb'
  injection hb' with hb'
  subst hb'
  rw[hbv']
  exact hbv.symm.trans hv1
 ·exact hp.tm j
end Go.Oc

namespace Go.Proofs.YtgfbenanljjgaaaGreat.Du.Th.Ai
open Go Go.Oc
set_option maxRecDepth 8000
set_option maxHeartbeats 4000000
theorem newTable_ok (r:Rk) (s:Bool) (h0:0≤r.start+1) (h1:r.start≤1000):NCalls Tryz.prog 85 [rkR r,.bo s] [(10,.arr 3 1 (arrV (List.replicate (r.start+1).toNat 0))),(12,.box [.r (i64 r.d),.r (aimsR r.aims),.r (i64 r.start),.r (i64 r.out),.r (.bo s),.os 10 0 1 0 (r.start+1).toNat])] (.pt 12 0 0):=by
 have w1:IntKind.i64.wrap (r.start+1)=r.start+1:=by rw[zI]<;>omega
 refine ncalls_st (n:=13) _ _ (.tmp 4) Tryz.func85 rfl (by kernel_rfl) Tryz.ntmps85 rfl (by simp) rfl rfl fun C hC=>?_
 apply zq
 refine zb fun K hK=>?_;simp only[go_sem,argL];apply hK;clear hK K;refine zw (zfP 2 2 [i64 r.d,aimsR r.aims,i64 r.start,i64 r.out] (by omega) rfl rfl) ?_;apply zw (zk [1,2]);simp only[go_sem]
 apply zq
 refine awp_dreg2 [(1,none),(2,none)] follows (by decide +kernel) (by kernel_rfl) (by simp only[keysOk,List.mem_cons,List.not_mem_nil,forall_eq_or_imp,Oc.keyOf,go_sem];simp) fun K hK=>?_
 simp only[go_sem,w1]
 refine⟨⟨h0,by omega,by omega⟩,?_⟩
 apply hK;clear hK K;apply zw (zk [4]);simp only[go_sem];apply ze
 try simp only[go_sem]
 simp
theorem scores_ok (r:Rk) (u:Addr) (hs:r.start≤1000):HBCalls Tryz.prog u [(2,r.start),(3,r.out)] true 75 [.vl u] ((List.range (cntA r)).map fun (i:Nat)=>[i64 (lowG r.out+(i:Int))]):=by
 have hlg:=lowG_le r.out
 refine hbcalls_st Tryz.func75 rfl (by kernel_rfl) Tryz.ntmps75 rfl (by simp) fun C ll hPk=>?_
 apply zq
 refine awp_long ?_
 refine sops_take 1 (by kernel_rfl) fun K hK=>?_
 simp only[go_sem,List.take_succ_cons,List.take_zero,List.drop_succ_cons,List.drop_zero,List.append_eq,List.cons_append,List.nil_append,argL]
 refine hK _ rfl ?_
 clear hK K
 refine sops_gop rfl (by intro t h;injection h with h;subst h;show 6<25;decide) (by intro c h;cases h) (gop_vlNil rfl (u:=u) (by simp only[go_sem]) ?_)
 try simp only[go_sem]
 refine sops_gop rfl (by intro t h;injection h with h;subst h;show 7<25;decide) (by intro c h;cases h) (gop_vlField rfl (u:=u) (by simp only[go_sem]) ty113 (off:=0) rfl ?_)
 try simp only[go_sem]
 refine sops_gop rfl (by intro t h;injection h with h;subst h;show 8<25;decide) (by intro c h;cases h) (gop_vlField rfl (u:=u) (by simp only[go_sem]) ty27 (off:=3) rfl ?_)
 try simp only[go_sem]
 refine sops_vlLoad hPk rfl (by intro t h;injection h with h;subst h;show 9<25;decide) (by intro c h;cases h) rfl (t:=25) (by simp only[go_sem];rfl) rfl (off:=3) (m:=r.out) (by simp) (by simp only[go_sem]) (by simp only[go_sem];rfl) ?_
 try simp only[go_sem]
 refine sops_end (by kernel_rfl) fun K hK=>?_
 simp only[go_sem,List.drop_succ_cons,List.drop_zero,List.append_eq,List.cons_append,List.nil_append]
 refine zh (alow_ok r.out) rfl (by simp only[go_sem,i64,ints]) (by simp only[go_sem,i64,ints]) ?_
 (try simp only[go_sem]);apply hK;clear hK K;apply zw (zk [0,1,4]);simp only[go_sem];apply zd
 obtain⟨xs,hxs⟩:∃ xs:List (List RV),xs=(List.range (cntA r)).map fun (i:Nat)=>[i64 (lowG r.out+(i:Int))]:=⟨_,rfl⟩
 rw[← hxs]
 have hxl:xs.length=cntA r:=by rw[hxs];simp
 have hcnt:(cntA r:Int)=max 0 (r.start+1-lowG r.out):=by unfold cntA;omega
 refine zup (n:=25) (cntA r) (fun i vs=>[(0,.r (.vl u)),(1,.r (.yl ll)),(4,.r (i64 (lowG r.out+(i:Int))))])
  (fun i=>[(999,.gh Tryz.prog ll true (some (xs.drop i)))]) (fun _=>True) 0 (zfo [] ?_ ?_) (Nat.zero_le _) trivial ?_
 ·try simp only[go_sem]
  try simp
 ·try simp only[go_sem]
 ·intro i vs hi _
  have w1:IntKind.i64.wrap (lowG r.out+(i:Int)+1)=lowG r.out+(i:Int)+1:=by rw[zI]<;>omega
  have e1:lowG r.out+(i:Int)+1=lowG r.out+((i+1:Nat):Int):=by omega
  repeat apply zq
  refine awp_long ?_
  refine sops_take 2 (by kernel_rfl) fun K hK=>?_
  simp only[go_sem,List.take_succ_cons,List.take_zero,List.drop_succ_cons,List.drop_zero,List.append_eq,List.cons_append,List.nil_append]
  refine hK _ rfl ?_
  clear hK K
  refine sops_gop rfl (by intro t h;injection h with h;subst h;show 13<25;decide) (by intro c h;cases h) (gop_vlNil rfl (u:=u) (by simp only[go_sem]) ?_)
  try simp only[go_sem]
  refine sops_gop rfl (by intro t h;injection h with h;subst h;show 14<25;decide) (by intro c h;cases h) (gop_vlField rfl (u:=u) (by simp only[go_sem]) ty113 (off:=0) rfl ?_)
  try simp only[go_sem]
  refine sops_gop rfl (by intro t h;injection h with h;subst h;show 15<25;decide) (by intro c h;cases h) (gop_vlField rfl (u:=u) (by simp only[go_sem]) ty27 (off:=2) rfl ?_)
  try simp only[go_sem]
  refine sops_vlLoad hPk rfl (by intro t h;injection h with h;subst h;show 16<25;decide) (by intro c h;cases h) rfl (t:=3) (by simp only[go_sem];rfl) rfl (off:=2) (m:=r.start) (by simp) (by simp only[go_sem]) (by simp only[go_sem];rfl) ?_
  try simp only[go_sem]
  by_cases hlt:i<cntA r
  ·have e2:decide (lowG r.out+(i:Int)≤r.start)=true:=by simp;omega
   have he:xs.drop i=[i64 (lowG r.out+(i:Int))]::xs.drop (i+1):=by
    refine drop_of_opt ?_
    rw[hxs]
    simp [hlt]
   refine sops_end (by kernel_rfl) fun K hK=>?_
   simp only[go_sem,List.drop_succ_cons,List.drop_zero,List.append_eq,List.cons_append,List.nil_append,e2]
   refine xcall_yield (z:=true) (e:=[i64 (lowG r.out+(i:Int))]) (rest:=xs.drop (i+1)) (by simp only[go_sem,he]) rfl (by simp only[go_sem]) (.inl rfl) ?_ ?_
   ·simp only[go_sem];apply hK;clear hK K;apply zw (zk [0,1,4,22]);simp only[go_sem]
    apply zc rfl<;>intro hc<;>(try simp only[go_sem] at hc)
    apply zx
    try simp only[go_sem]
    apply zq
    apply zd;apply zx
    try simp only[go_sem]
    refine zb fun K hK=>?_;simp only[go_sem,w1];apply hK;clear hK K
    try simp only[go_sem]
    refine⟨hlt,zfo [] ?_ ?_⟩
    ·try simp only[go_sem]
     omega
    ·try simp only[go_sem]
   ·simp only[go_sem];apply hK;clear hK K;apply zw (zk [22]);simp only[go_sem]
    apply zc rfl<;>intro hc<;>(try simp only[go_sem] at hc)
    apply zf;simp only[go_sem];exact⟨_,_,.inr rfl⟩
  ·have e2:decide (lowG r.out+(i:Int)≤r.start)=false:=by simp;omega
   have h0:xs.drop i=[]:=List.drop_eq_nil_of_le (by omega)
   rw[h0]
   refine sops_end (by kernel_rfl) fun K hK=>?_
   simp only[go_sem,List.drop_succ_cons,List.drop_zero,List.append_eq,List.cons_append,List.nil_append,e2];apply hK;clear hK K;apply zw (zk [22]);simp only[go_sem]
   apply zc rfl<;>intro hc<;>(try simp only[go_sem] at hc)
   apply zf;simp only[go_sem];exact⟨_,_,.inl rfl⟩
abbrev tabT (r:Rk) (s:Bool):List Int:=tabA r s (cntA r)
theorem filled_ok (r:Rk) (s:Bool) (hr:ROk r):ACalls Tryz.prog 59 [rkR r,.bo s] (.rp (tabC r s (tabT r s))):=by
 have hst:=hr.start
 have hlg:=lowG_le r.out
 have hnt:=newTable_ok r s (by omega) (by omega)
 obtain⟨len,hlen⟩:∃ len,len=(r.start+1).toNat:=⟨_,rfl⟩
 rw[← hlen] at hnt
 have hz:tabA r s 0=List.replicate len 0:=by rw[hlen];rfl
 rw[← hz] at hnt
 refine acalls_stR (rs:=[.rp (tabC r s (tabT r s))]) [.tmp 4] Tryz.func59 rfl (by kernel_rfl) Tryz.ntmps59 rfl (by simp) rfl fun C hC vs=>?_
 apply zq
 refine zb fun K hK=>?_;simp only[go_sem,argL];apply hK;clear hK K;refine zw (zfP 2 2 [i64 r.d,aimsR r.aims,i64 r.start,i64 r.out] (by omega) rfl rfl) ?_;apply zw (zk [1,2]);simp only[go_sem]
 apply zq
 refine awp_long ?_
 refine sops_take 3 (by kernel_rfl) fun K hK=>?_
 simp only[go_sem,List.take_succ_cons,List.take_zero,List.drop_succ_cons,List.drop_zero,List.append_eq,List.cons_append,List.nil_append]
 refine xcall_new hnt [(10,30),(12,31)] rfl (by rfl) (by rfl) (by rfl) (by rfl) (by rfl) ?_
 simp only[go_sem,idK,backA,backC,backL,pinOf,zLk]
 refine hK _ rfl ?_
 clear hK K
 refine sops_sub (zk [9]) ?_
 simp only[go_sem]
 refine sops_end (by kernel_rfl) fun K hK=>?_
 simp only[go_sem,List.drop_succ_cons,List.drop_zero,List.append_eq,List.cons_append,List.nil_append];apply hK;clear hK K;apply zw (zk [5,9]);simp only[go_sem]
 refine awp_name 9 rfl fun u=>?_
 repeat apply zq
 refine awp_long ?_
 refine sops_take 1 (by kernel_rfl) fun K hK=>?_
 simp only[go_sem,List.take_succ_cons,List.take_zero,List.drop_succ_cons,List.drop_zero,List.append_eq,List.cons_append,List.nil_append]
 refine hK _ rfl ?_
 clear hK K
 refine sops_sub (sub_ptvl 10 9 (k:=31) (u:=u) (by try simp only[go_sem]) (by try simp only[go_sem])) ?_
 refine sops_sub (zk [5,9,10]) ?_
 simp only[go_sem]
 refine sops_gop rfl (by intro t h;injection h with h;subst h;show 11<17;decide) (by intro c h;cases h) (gop_method rfl (v:=.vl u) (by simp only[go_sem]) ?_)
 try simp only[go_sem]
 refine sops_end (by kernel_rfl) fun K hK=>?_
 simp only[go_sem,List.drop_succ_cons,List.drop_zero,List.append_eq,List.cons_append,List.nil_append];apply hK;clear hK K;apply zw (zk [5,9,11]);simp only[go_sem]
 have hcnt:(cntA r:Int)=r.start+1-lowG r.out:=by unfold cntA;omega
 have htab:=fun i (hi:i≤cntA r)=>tab_eq hr s i hi
 have hll:∀ i,i≤cntA r→(tabA r s i).length=len:=fun i hi=>by rw[(htab i hi).2.1,hlen]
 apply zd
 refine awp_rangeFH (n:=17) hC ((List.range (cntA r)).map fun (i:Nat)=>[i64 (lowG r.out+(i:Int))]) (scores_ok r u (by omega)) 31 9 [5,9,11] (by decide)
  (fun vs=>[(5,.pt 5 (vs 5) 0),(9,.pu 31 (vs 31) u),(11,.r (.bf 75 [.vl u]))])
  (fun i vs=>[(5,.box [.pt 31 (vs 31) 0]),(30,.arr 3 1 (arrV (tabA r s i))),(31,.box [.r (i64 r.d),.r (aimsR r.aims),.r (i64 r.start),.r (i64 r.out),.r (.bo s),.os 30 (vs 30) 1 0 len])]) (fun i=>i≤cntA r) (zj [] ?_ ?_) (Nat.zero_le _)
  (fun vs=>by simp) (fun i vs=>⟨_,rfl,fun x hx=>by simp at hx;rcases hx with rfl|rfl<;>rfl⟩) (by decide) (fun _=>rfl) (fun _=>rfl) (fun _ _=>rfl) (by decide) (fun e he=>by obtain⟨i,_,rfl⟩:=List.mem_map.1 he;rfl) ?_ ?_
 ·try simp only[go_sem]
 ·try simp only[go_sem]
 ·intro i e vs us C' he hi
  have hil:i<cntA r:=by
   have:=(List.getElem?_eq_some_iff.1 he).1
   simpa using this
  have he':e=[i64 (((lowG r.out).toNat+i:Nat):Int)]:=by
   simp [hil] at he
   rw[← he]
   have:lowG r.out+(i:Int)=(((lowG r.out).toNat+i:Nat):Int):=by omega
   rw[this]
  subst he'
  have hvs:VsOk r s (tabA r s i) ((lowG r.out).toNat+i):=⟨hr,(htab i hi).2.1,(htab i hi).2.2,by omega,by omega⟩
  have hfl:=fill_ok hvs
  have hn:(tabA r s i).set ((lowG r.out).toNat+i) (numA r s (tabA r s i) ((lowG r.out).toNat+i))=tabA r s (i+1):=rfl
  rw[hn] at hfl
  unfold fillT tabA' at hfl
  rw[hll i hi,hll (i+1) (by omega)] at hfl
  refine zb fun K hK=>?_;simp only[go_sem];apply hK;clear hK K
  refine⟨rfl,fun C''=>?_⟩
  apply zw (zk [5,6]);simp only[go_sem];apply zd;refine zb fun K hK=>?_;simp only[go_sem]
  refine xcall_mut (hfl) [(1000,31),(1001,30)] rfl (by simp only[go_sem,i64,ints]) (by simp only[go_sem,i64,ints]) (by rfl) (by rfl) ?_
  (try simp only[go_sem]);apply hK;clear hK K
  try simp only[go_sem]
  exact⟨by omega,vs,sub_look _ (allEq_mem (by simp only[go_sem]))⟩
 ·intro vs us hi
  have hel:((List.range (cntA r)).map fun (i:Nat)=>[i64 (lowG r.out+(i:Int))]).length=cntA r:=by simp
  rw[hel]
  try simp only[go_sem]
  refine zw (sub_wake rfl) ?_;apply zw (zk [5]);simp only[go_sem]
  apply zq
  refine zb fun K hK=>?_;simp only[go_sem];apply hK;clear hK K;apply zw (zk [4]);simp only[go_sem]
  have hlt:=hll (cntA r) (Nat.le_refl _)
  have htk:((arrV (tabA r s (cntA r))).drop 0).take len=arrV (tabA r s (cntA r)):=by rw[List.drop_zero,List.take_of_length_le (by simp [hlt])]
  refine zw (sub_frzB 31 5 30 (ty:=3) (sz:=1) (off:=0) (m:=len) (es:=arrV (tabA r s (cntA r))) (by omega) (by omega) rfl (by simp only[go_sem,List.getElem?_cons_succ,List.getElem?_cons_zero]) (by rfl) (by simp [hlt])) ?_;rw[htk]
  try simp only[go_sem]
  refine zw (zfP 4 31 (tabC r s (tabT r s)) (by omega) (by try simp only[go_sem]) (by try simp only[go_sem])) ?_;apply zw (zk [4]);simp only[go_sem];apply ze;simp only[go_sem];exact leL_refl.le_refl _
theorem acheck_ok (r:Rk) (hw:WfL r.d r.aims):ACalls Tryz.prog 58 [rkR r] (i64 (checkR r)):=by
 have hch:=check_ok r.d r.aims hw
 have ha:=awithin_ok 2 60 [r.start]
 have hb:=awithin_ok 0 2 [r.out]
 have ea:withinL 2 60 [r.start]=decide (2≤r.start∧r.start≤60):=by simp [withinL]
 have eb:withinL 0 2 [r.out]=decide (0≤r.out∧r.out≤2):=by simp [withinL]
 rw[ea] at ha
 rw[eb] at hb
 unfold checkR
 refine zas (rs:=[i64 (if checkV r.d r.aims=0 then (if (2≤r.start∧r.start≤60)∧0≤r.out∧r.out≤2 then 0 else 2) else checkV r.d r.aims)]) [.tmp 2] Tryz.func58 rfl (by kernel_rfl) Tryz.ntmps58 rfl (by simp) rfl fun C vs=>?_
 apply zq
 refine zb fun K hK=>?_;simp only[go_sem];apply hK;clear hK K;refine zw (zfP 1 1 [i64 r.d,aimsR r.aims,i64 r.start,i64 r.out] (by omega) rfl rfl) ?_;apply zw (zk [1]);simp only[go_sem]
 repeat apply zq
 refine zb fun K hK=>?_;simp only[go_sem]
 refine zh (hch) rfl (by simp only[go_sem,i64,ints]) (by simp only[go_sem,i64,ints]) ?_
 (try simp only[go_sem]);apply hK;clear hK K;apply zw (zk [1,3]);simp only[go_sem]
 apply zq
 refine zb fun K hK=>?_;simp only[go_sem];apply hK;clear hK K;apply zw (zk [1,3,8]);simp only[go_sem]
 by_cases h0:checkV r.d r.aims=0
 ·have e0:(checkV r.d r.aims != 0)=false:=by simp [h0]
  rw[if_pos h0,e0]
  apply zc rfl<;>intro hc<;>(try simp only[go_sem] at hc)
  apply zx
  try simp only[go_sem]
  by_cases h1:2≤r.start∧r.start≤60
  ·rw[decide_eq_true h1] at ha
   by_cases h2:0≤r.out∧r.out≤2
   ·rw[decide_eq_true h2] at hb
    rw[if_pos ⟨h1,h2⟩]
    repeat apply zq
    refine zb fun K hK=>?_;simp only[go_sem]
    refine zh (ha) rfl (by simp only[go_sem,i64,ints]) (by simp only[go_sem,i64,ints]) ?_
    (try simp only[go_sem])
    refine zh (hb) rfl (by simp only[go_sem,i64,ints]) (by simp only[go_sem,i64,ints]) ?_
    (try simp only[go_sem]);apply hK;clear hK K;apply zw (zk [1,21]);simp only[go_sem]
    apply zc rfl<;>intro hc<;>(try simp only[go_sem] at hc)
    apply zx
    try simp only[go_sem]
    apply zq
    refine zb fun K hK=>?_;simp only[go_sem];apply hK;clear hK K;apply zw (zk [2]);simp only[go_sem];apply ze;simp only[go_sem]
   ·rw[decide_eq_false h2] at hb
    rw[if_neg (fun h=>h2 h.2)]
    repeat apply zq
    refine zb fun K hK=>?_;simp only[go_sem]
    refine zh (ha) rfl (by simp only[go_sem,i64,ints]) (by simp only[go_sem,i64,ints]) ?_
    (try simp only[go_sem])
    refine zh (hb) rfl (by simp only[go_sem,i64,ints]) (by simp only[go_sem,i64,ints]) ?_
    (try simp only[go_sem]);apply hK;clear hK K;apply zw (zk [1,21]);simp only[go_sem]
    apply zc rfl<;>intro hc<;>(try simp only[go_sem] at hc)
    apply zq
    refine zb fun K hK=>?_;simp only[go_sem];apply hK;clear hK K;apply zw (zk [2]);simp only[go_sem];apply ze;simp only[go_sem]
  ·rw[decide_eq_false h1] at ha
   rw[if_neg (fun h=>h1 h.1)]
   repeat apply zq
   refine zb fun K hK=>?_;simp only[go_sem]
   refine zh (ha) rfl (by simp only[go_sem,i64,ints]) (by simp only[go_sem,i64,ints]) ?_
   (try simp only[go_sem]);apply hK;clear hK K;apply zw (zk [1,21]);simp only[go_sem]
   apply zc rfl<;>intro hc<;>(try simp only[go_sem] at hc)
   apply zq
   refine zb fun K hK=>?_;simp only[go_sem];apply hK;clear hK K;apply zw (zk [2]);simp only[go_sem];apply ze;simp only[go_sem]
 ·have e0:(checkV r.d r.aims != 0)=true:=by simpa using h0
  rw[if_neg h0,e0]
  apply zc rfl<;>intro hc<;>(try simp only[go_sem] at hc)
  apply zq
  refine zb fun K hK=>?_;simp only[go_sem];apply hK;clear hK K;apply zw (zk [2]);simp only[go_sem];apply ze;simp only[go_sem]
theorem table_ok (r:Rk) (hw:WfL r.d r.aims):ACalls Tryz.prog 22 [rkR r] (.tu [if checkR r=0 then ints (tabT r false) else .ns,if checkR r=0 then ints (tabT r true) else .ns,i64 (checkR r)]):=by
 have hch:=acheck_ok r hw
 refine zas (rs:=[if checkR r=0 then ints (tabT r false) else .ns,if checkR r=0 then ints (tabT r true) else .ns,i64 (checkR r)]) [.tmp 2,.tmp 3,.tmp 4] Tryz.func22 rfl (by kernel_rfl) Tryz.ntmps22 rfl (by simp) rfl fun C vs=>?_
 apply zq
 refine zb fun K hK=>?_;simp only[go_sem];apply hK;clear hK K;refine zw (zfP 1 1 [i64 r.d,aimsR r.aims,i64 r.start,i64 r.out] (by omega) rfl rfl) ?_;apply zw (zk [1]);simp only[go_sem]
 repeat apply zq
 refine zb fun K hK=>?_;simp only[go_sem]
 refine zh (hch) rfl (by simp only[go_sem,i64,ints]) (by simp only[go_sem,i64,ints]) ?_
 (try simp only[go_sem]);apply hK;clear hK K;apply zw (zk [1,5]);simp only[go_sem]
 apply zq
 refine zb fun K hK=>?_;simp only[go_sem];apply hK;clear hK K;apply zw (zk [1,5,9]);simp only[go_sem]
 by_cases h0:checkR r=0
 ·obtain⟨_,hr⟩:=checkR_zero h0
  have hf:=filled_ok r false hr
  have ht:=filled_ok r true hr
  have e0:(checkR r != 0)=false:=by simp [h0]
  rw[if_pos h0,if_pos h0,e0]
  apply zc rfl<;>intro hc<;>(try simp only[go_sem] at hc)
  apply zx
  try simp only[go_sem]
  apply zq
  refine awp_dreg2 [(1,none)] follows (by decide +kernel) (by kernel_rfl) (by simp only[keysOk,List.mem_cons,List.not_mem_nil,forall_eq_or_imp,Oc.keyOf,go_sem];simp) fun K hK=>?_
  simp only[go_sem]
  refine zh (hf) rfl (by simp only[go_sem,i64,ints]) (by simp only[go_sem,i64,ints]) ?_
  (try simp only[go_sem])
  refine zh (ht) rfl (by simp only[go_sem,i64,ints]) (by simp only[go_sem,i64,ints]) ?_
  (try simp only[go_sem]);apply hK;clear hK K;apply zw (zk [2,3,4]);simp only[go_sem];apply ze;simp only[go_sem];exact h0.symm
 ·have e0:(checkR r != 0)=true:=by simpa using h0
  rw[if_neg h0,if_neg h0,e0]
  apply zc rfl<;>intro hc<;>(try simp only[go_sem] at hc)
  apply zq
  refine zb fun K hK=>?_;simp only[go_sem];apply hK;clear hK K;apply zw (zk [2,3,4]);simp only[go_sem];apply ze;simp only[go_sem]
set_option maxHeartbeats 8000000
theorem nextA_cg {out own left:Int}{f g:Int→Int}(h:∀ x,lowG out≤x→x≤left→f x=g x) {b:Int}(hb:0≤b∧b≤499):nextA out own left f b=nextA out own left g b:=by
 have hs:=score_nn hb
 unfold nextA
 split
 ·rfl
 ·split
  ·rfl
  ·exact h _ (by omega) (by omega)
theorem meanA_cg {r:Rk}{s:Bool}{own left:Int}{f g:Int→Int}(h:∀ x,lowG r.out≤x→x≤left→f x=g x) {a:Am}(ha:AOk r.d a.beds):meanA r s own left f a=meanA r s own left g a:=by
 unfold meanA
 congr 1
 exact List.map_congr_left fun b hb=>nextA_cg h (ha.bed b hb)
theorem valA_cg {r:Rk}(hr:ROk r) {s:Bool}{T U:List Int}{own:Int}{st:Nat}(h:∀ x,x≤st→T.getD x 0=U.getD x 0):∀ (k:Nat) (left:Int),lowG r.out≤left→left≤st→valA r s T own k left=valA r s U own k left
 | 0,left,h1,h2=>h _ (by omega)
 | k+1, left, h1, h2=>by
   unfold valA
   congr 1
   exact List.map_congr_left fun a ha=>meanA_cg (fun x q1 q2=>valA_cg hr h k x q1 (by omega)) (hr.aims a ha)
theorem holds_cg {r:Rk}(hr:ROk r) {s:Bool}{T U:List Int}{st:Nat}(hlo:lowG r.out≤st) (h:∀ x,x≤st→T.getD x 0=U.getD x 0):zhA r s T st=zhA r s U st:=by
 have h1:=h st (Nat.le_refl _)
 have h2:=valA_cg hr (s:=s) (own:=U.getD st 0) h 3 st hlo (Int.le_refl _)
 unfold zhA
 rw[h1,h2]
theorem numA_false {r:Rk}(hr:ROk r) {nums:List Int}{st:Nat}(hn:∀ x∈nums,VOk x) (hst:st<nums.length) (hlo:lowG r.out≤st) :
 numA r false nums st=2000000000∨((1000000≤numA r false nums st∧numA r false nums st≤1000000000)∧zhA r false (nums.set st (numA r false nums st)) st=true∧zhA r false (nums.set st (numA r false nums st-1)) st=false):=by
 obtain⟨g1,g2,g3,g4⟩:=srch_spec (fun k=>zhA r false (nums.set st (1000000+(k:Int))) st) 0 999000001 (by omega) fun a b q1 q2 q3 q4=>holds_up hr hn hst hlo (by omega) (by omega) (by omega) q4
 unfold numA
 simp only[Bool.false_eq_true,if_false]
 generalize srch (fun k=>zhA r false (nums.set st (1000000+(k:Int))) st) 0 999000001=k at *
 by_cases h:1000000000<1000000+(k:Int)
 ·left;rw[if_pos h]
 ·right
  rw[if_neg h]
  refine⟨by omega,g4 (by omega),?_⟩
  by_cases hk:k=0
  ·subst hk
   have hv:=valA_le hr (s:=false) (set_vok hn st (n:=999999) (.inl ⟨by omega,by omega⟩)) (own:=999999) (.inl ⟨by omega,by omega⟩) 3 st
   have e:(1000000:Int)+((0:Nat):Int)-1=999999:=by omega
   rw[e]
   unfold zhA
   simp only[Bool.false_eq_true,if_false,getD_set hst,if_true];rw[Bool.or_eq_false_iff,decide_eq_false_iff_not,decide_eq_false_iff_not]
   omega
  ·have:=g3 (k-1) (by omega) (by omega)
   have e:(1000000:Int)+((k-1:Nat):Int)=1000000+(k:Int)-1:=by omega
   rw[e] at this
   exact this
theorem numA_true {r:Rk}(hr:ROk r) {nums:List Int}{st:Nat}(hn:∀ x∈nums,VOk x) (hst:st<nums.length) (hlo:lowG r.out≤st) :
 (0≤numA r true nums st∧numA r true nums st≤1000000000)∧zhA r true (nums.set st (numA r true nums st)) st=true∧(numA r true nums st<1000000000→zhA r true (nums.set st (numA r true nums st+1)) st=false):=by
 obtain⟨g1,g2,g3,g4⟩:=srch_spec (fun k=>!zhA r true (nums.set st ((k:Int)+1)) st) 0 1000000000 (by omega) fun a b q1 q2 q3 q4=>by
  simp only[Bool.not_eq_true'] at q4 ⊢
  cases hb:zhA r true (nums.set st ((b:Int)+1)) st
  ·rfl
  ·have:=holds_down hr hn hst hlo (a:=(a:Int)+1) (by omega) (by omega) (by omega) hb
   rw[q4] at this;cases this
 unfold numA
 simp only[if_true]
 generalize srch (fun k=>!zhA r true (nums.set st ((k:Int)+1)) st) 0 1000000000=k at *
 refine⟨by omega,?_,fun h=>?_⟩
 ·by_cases hk:k=0
  ·subst hk
   have hv:=valA_le hr (s:=true) (set_vok hn st (n:=0) (.inl ⟨by omega,by omega⟩)) (own:=0) (.inl ⟨by omega,by omega⟩) 3 st
   show zhA r true (nums.set st 0) st=true
   unfold zhA
   simp only[if_true,getD_set hst];rw[decide_eq_true_eq]
   omega
  ·have:=g3 (k-1) (by omega) (by omega)
   have e:((k-1:Nat):Int)+1=(k:Int):=by omega
   simp only[e,Bool.not_eq_false'] at this
   exact this
 ·have:=g4 (by omega)
  simpa using this
theorem tabA_pre {r:Rk}(s:Bool) (i:Nat) (x:Nat) (hx:x≤(lowG r.out).toNat+i):∀ m,(tabA r s (i+1+m)).getD x 0=(tabA r s (i+1)).getD x 0
 | 0=>rfl
 | m+1=>by
   rw[← tabA_pre s i x hx m]
   show ((tabA r s (i+1+m)).set ((lowG r.out).toNat+(i+1+m)) _).getD x 0=_
   rw[List.getD_eq_getElem?_getD,List.getElem?_set_ne (by omega),← List.getD_eq_getElem?_getD]
theorem tabT_at {r:Rk}(hr:ROk r) (s:Bool) {st:Nat}(h1:lowG r.out≤st) (h2:(st:Int)≤r.start):∃ nums:List Int,(∀ x∈nums,VOk x)∧st<nums.length∧(tabT r s).getD st 0=numA r s nums st∧(∀ v,∀ x,x≤st→((tabT r s).set st v).getD x 0=(nums.set st v).getD x 0) ∧
 (∀ x,x≤st→(tabT r s).getD x 0=(nums.set st (numA r s nums st)).getD x 0):=by
 have hl:=lowG_le r.out
 obtain⟨i,hi⟩:∃ i,st=(lowG r.out).toNat+i:=⟨st-(lowG r.out).toNat,by omega⟩
 have hic:i<cntA r:=by unfold cntA;omega
 obtain⟨_,e2,e3⟩:=tab_eq hr s i (by omega)
 obtain⟨_,f2,f3⟩:=tab_eq hr s (cntA r) (Nat.le_refl _)
 have hlen:st<(tabA r s i).length:=by rw[e2];omega
 obtain⟨m,hm⟩:∃ m,cntA r=i+1+m:=⟨cntA r-(i+1),by omega⟩
 have hpre:=fun x (hx:x≤st)=>tabA_pre (r:=r) s i x (by omega) m
 rw[← hm] at hpre
 have hsu:tabA r s (i+1)=(tabA r s i).set st (numA r s (tabA r s i) st):=by rw[hi];rfl
 rw[hsu] at hpre
 have hlT:st<(tabT r s).length:=by unfold tabT;rw[f2];omega
 refine⟨tabA r s i,e3,hlen,?_,fun v x hx=>?_,hpre⟩
 ·have:=hpre st (Nat.le_refl _)
  rw[getD_set hlen,if_pos rfl] at this
  exact this
 ·rw[getD_set hlT,getD_set hlen]
  split
  ·rfl
  ·rename_i hne
   have:=hpre x hx
   rw[getD_set hlen,if_neg hne] at this
   exact this
theorem tabT_holds {r:Rk}(hr:ROk r) (s:Bool) {st:Nat}(h1:lowG r.out≤st) (h2:(st:Int)≤r.start):zhA r s (tabT r s) st=true:=by
 obtain⟨nums,hn,hst,g1,g2,g3⟩:=tabT_at hr s h1 h2
 rw[holds_cg hr h1 g3]
 cases s
 ·rcases numA_false hr hn hst h1 with h|⟨_,h,_⟩
  ·rw[h]
   unfold zhA
   simp only[Bool.false_eq_true,if_false,getD_set hst,if_true,decide_true,Bool.or_true]
  ·exact h
 ·exact (numA_true hr hn hst h1).2.1
theorem tabT_len {r:Rk}(hr:ROk r) (s:Bool):((tabT r s).length:Int)=r.start+1:=by
 have:=(tab_eq hr s (cntA r) (Nat.le_refl _)).2.1
 have hs:=hr.start
 unfold tabT;rw[this];omega
end Go.Proofs.YtgfbenanljjgaaaGreat.Du.Th.Ai

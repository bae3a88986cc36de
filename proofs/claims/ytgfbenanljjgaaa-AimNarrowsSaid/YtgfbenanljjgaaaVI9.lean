/- Part 9 of the texts of this claim. -/
import Derived.Test.YtgfbenanljjgaaaVI8
import Derived.Test.YtgfbenanljjgaaaVI7
import Derived.Test.YtgfbenanljjgaaaVI6
set_option linter.unusedSimpArgs false
set_option linter.unusedVariables false
namespace Go.Proofs.Ytgfbenanljjgaaa.Du.Th.Ai
open Go Go.Oc
set_option maxRecDepth 8000
set_option maxHeartbeats 2000000
abbrev capM (u : Addr) (left : Nat) (k : Nat) : List RV:=[.rp [.vl u],.rp [i64 (left : Int)],.rp [i64 ((k : Int) + 1)]]
theorem means_ok (u : Addr) (left k : Nat) : ACalls Try.prog 97 [.vl u,i64 (left : Int),i64 ((k : Int) + 1)] (.fn 130 (capM u left k)):=by
 refine zas (rs:=[.fn 130 (capM u left k)]) [.tmp 6] Try.func97 rfl (by kernel_rfl) Try.ntmps97 rfl (by simp) rfl fun C vs=>?_
 refine zq ?_
 refine zb fun K hK=>?_;simp only [go_sem];refine hK _ ?_;clear hK K
 refine zq ?_
 refine zb fun K hK=>?_;simp only [go_sem];refine hK _ ?_;clear hK K;refine zw (zk [3,4,5,6]) ?_;simp only [go_sem];refine ze ?_;simp only [go_sem];exact leL_refl.le_refl _
theorem visR_A (r : Rk) (s : Bool) (nums : List Int) (st : Nat) (K : List Int) : (visR r s nums st K).map AV.r = visA r s nums st K:=by simp [Function.comp]
def enumM (l : List Int) : List (List RV):=l.mapIdx fun i n=>[i64 (i : Int),i64 n]
theorem means1_ok {r : Rk} {s : Bool} {nums : List Int} {st : Nat} (h : VsOk r s nums st) {k : Nat} (hk : k ≤ 2) (hV : ValC r s nums st k) (u : Addr) (left : Nat) (K : List Int) (hlo : lowG r.out ≤ left) (hle : left ≤ st) (hK : OkK r s nums (ownV nums st) K) :
 JCalls Try.prog 130 u (visR r s nums st K) (visR r s nums st (aimsM r s (ownV nums st) left (valM r s nums (ownV nums st) k) r.aims K).2) (capM u left k) (enumM (aimsM r s (ownV nums st) left (valM r s nums (ownV nums st) k) r.aims K).1):=by
 have hst:=h.ok.start
 have hst2:=h.hi
 obtain ⟨f,hf⟩ : ∃ f,f = valM r s nums (ownV nums st) k:=⟨_,rfl⟩
 have hMf : MfOk r s nums (ownV nums st) left f (valA r s nums (ownV nums st) k):=fun x K' q1 q2 q3=>by rw [hf];exact valM_ok h.ok h.nums h.own k (by omega) x K' q1 (by omega) q3
 have hmn:=fun ix a ha K' (hK' : OkK r s nums (ownV nums st) K')=>mean_ok h hk hV ix a ha left K' hlo hle hK'
 rw [← hf] at hmn ⊢
 have hst' : ∀ i,OkK r s nums (ownV nums st) (aimsM r s (ownV nums st) left f (r.aims.take i) K).2:=fun i=>(aimsM_ok hMf _ K (fun a ha=>h.ok.aims a (List.mem_of_mem_take ha)) hK).2
 obtain ⟨xs,hxs⟩ : ∃ xs,xs = (aimsM r s (ownV nums st) left f r.aims K).1:=⟨_,rfl⟩
 have hxl : xs.length = r.aims.length:=by rw [hxs,aimsM_len]
 have hxat : ∀ i a,r.aims[i]? = some a → xs[i]? = some (meanM r s (ownV nums st) left f a (aimsM r s (ownV nums st) left f (r.aims.take i) K).2).1:=fun i a ha=>by
  have e : r.aims = r.aims.take i ++ a :: r.aims.drop (i + 1):=by
   have:=drop_of_opt ha
   rw [← this,List.take_append_drop]
  have gen : ∀ (l m : List Am) (b : Am) (K : List Int),(aimsM r s (ownV nums st) left f (l ++ b :: m) K).1[l.length]? = some (meanM r s (ownV nums st) left f b (aimsM r s (ownV nums st) left f l K).2).1:=by
   intro l
   induction l with
   | nil=>intro m b K;rfl
   | cons c l ih=>intro m b K;simp only [List.cons_append,aimsM,List.length_cons,List.getElem?_cons_succ];exact ih m b _
  have hl : (r.aims.take i).length = i:=by rw [List.length_take];have:=(List.getElem?_eq_some_iff.1 ha).1;omega
  have:=gen (r.aims.take i) (r.aims.drop (i + 1)) a K
  rw [hl,← e] at this
  rw [hxs];exact this
 rw [← hxs]
 refine jcalls_st Try.func130 rfl (by kernel_rfl) Try.ntmps130 rfl (by simp) fun C ll=>?_
 rw [visR_A]
 refine zq ?_
 refine awp_long ?_
 refine sops_take 1 (by kernel_rfl) fun K hK=>?_
 simp only [go_sem,List.take_succ_cons,List.take_zero,List.drop_succ_cons,List.drop_zero,List.append_eq,List.cons_append,List.nil_append,argL]
 refine hK _ rfl ?_
 clear hK K
 refine sops_sub (sub_vl 6 (k:=1000) (u:=u) (us:=[.pointer (some u)]) (by try simp only [go_sem]) (by rfl)) ?_
 refine sops_sub (sub_unname 6 (k:=1000) (m:=0) (u:=u) (by try simp only [go_sem])) ?_
 refine sops_sub (zk [0,1,2,3,6]) ?_
 simp only [go_sem]
 refine sops_end (by kernel_rfl) fun K hK=>?_
 simp only [go_sem,List.drop_succ_cons,List.drop_zero,List.append_eq,List.cons_append,List.nil_append,ty196]
 intro _
 refine hK _ ?_;clear hK K;refine zw (zk [0,1,2,3,14,15,16]) ?_;simp only [go_sem];refine zd ?_
 refine awp_upto0 (n:=29) r.aims.length (fun i vs=>[(0,.r (.yl ll)),(1,.r (.rp [.vl u])),(2,.r (.rp [i64 (left : Int)])),(3,.r (.rp [i64 ((k : Int) + 1)])),(14,.r (aimsR r.aims)),(15,.r (i64 r.aims.length)),(16,.r (i64 i))])
  (fun i=>[(998,.sus [.pu 1000 0 u] [.pointer (some u)]),(999,.gh Try.prog ll true (some ((enumM xs).drop i))),(1000,.box (visA r s nums st (aimsM r s (ownV nums st) left f (r.aims.take i) K).2))]) (fun _=>True) 0 (fit0_of [] (by intro j hj;(try simp only [upd]);(repeat' split);all_goals first | rfl | omega) ?_ ?_) (by omega) trivial ?_
 · try simp only [go_sem]
 · try simp only [go_sem]
   rfl
 · intro i vs hvl hi _
   have hv0:=hvl 1000 (by omega)
   refine zq ?_
   refine zb fun K hK=>?_;simp only [go_sem];refine hK _ ?_;clear hK K;refine zw (zk [0,1,2,3,14,15,16,17]) ?_;simp only [go_sem]
   refine zq ?_
   refine zc rfl (fun hc=>?_) (fun hc=>?_) <;> (try simp only [go_sem] at hc)
   · have hci:=hc
     obtain ⟨a,ha⟩:=zol hci
     have hcall:=hmn i a ha _ (hst' i)
     have hx:=hxat i a ha
     have hsn : aimsM r s (ownV nums st) left f (r.aims.take (i + 1)) K = ((aimsM r s (ownV nums st) left f (r.aims.take i) K).1 ++ [(meanM r s (ownV nums st) left f a (aimsM r s (ownV nums st) left f (r.aims.take i) K).2).1],(meanM r s (ownV nums st) left f a (aimsM r s (ownV nums st) left f (r.aims.take i) K).2).2):=by
      rw [zto ha,aimsM_snoc]
     rw [hsn]
     generalize aimsM r s (ownV nums st) left f (r.aims.take i) K = B at *
     generalize meanM r s (ownV nums st) left f a B.2 = N at *
     have he : (enumM xs).drop i = [i64 (i : Int),i64 N.1] :: (enumM xs).drop (i + 1):=by
      refine drop_of_opt ?_
      simp [enumM,hx]
     refine zx ?_
     try simp only [go_sem]
     refine zq ?_
     refine zd ?_
     refine zq ?_
     refine zb fun K hK=>?_;simp only [go_sem];refine hK _ ?_;clear hK K;refine zw (zk [0,1,2,3,5,14,15,16]) ?_;simp only [go_sem]
     refine zq ?_
     refine awp_long ?_
     refine sops_take 3 (by kernel_rfl) fun K hK=>?_
     simp only [go_sem,List.take_succ_cons,List.take_zero,List.drop_succ_cons,List.drop_zero,List.append_eq,List.cons_append,List.nil_append]
     refine hK _ rfl ?_
     clear hK K
     refine sops_sub (sub_vl 21 (k:=1000) (u:=u) (us:=[.pointer (some u)]) (by try simp only [go_sem]) (by rfl)) ?_
     refine sops_sub (sub_unname 21 (k:=1000) (m:=0) (u:=u) (by try simp only [go_sem])) ?_
     refine sops_sub (zk [0,1,2,3,5,14,15,16,19,20,21]) ?_
     simp only [go_sem]
     refine sops_take 4 (by kernel_rfl) fun K hK=>?_
     simp only [go_sem,List.take_succ_cons,List.take_zero,List.drop_succ_cons,List.drop_zero,List.append_eq,List.cons_append,List.nil_append]
     refine xcall_mut (hcall) [(1000,1000)] rfl (by simp only [go_sem,i64,ints,lend_tA,back_tA,hv0]) (by simp only [go_sem,i64,ints,lend_tA,back_tA,hv0]) (by rfl) (by rfl) ?_
     (try simp only [go_sem,lend_tA,back_tA,hv0])
     refine hK _ rfl ?_
     clear hK K
     refine sops_sub (zk [0,1,2,3,14,15,16,19,20,25]) ?_
     simp only [go_sem]
     refine sops_end (by kernel_rfl) fun K hK=>?_
     simp only [go_sem,List.drop_succ_cons,List.drop_zero,List.append_eq,List.cons_append,List.nil_append]
     refine xcall_yield (z:=true) (e:=[i64 (i : Int),i64 N.1]) (rest:=(enumM xs).drop (i + 1)) (by simp only [go_sem,he]) rfl (by simp only [go_sem]) (.inl rfl) ?_ ?_
     · simp only [go_sem];refine hK _ ?_;clear hK K;refine zw (zk [0,1,2,3,14,15,16,27]) ?_;simp only [go_sem]
       refine zc rfl (fun hc=>?_) (fun hc=>?_) <;> (try simp only [go_sem] at hc)
       refine zx ?_
       try simp only [go_sem]
       refine zb fun K hK=>?_;simp only [go_sem];(try simp (disch:=omega) only [zI]);refine hK _ ?_;clear hK K
       try simp only [go_sem]
       refine ⟨hci,fit0_of [] (by intro j hj;(try simp only [upd]);(repeat' split);all_goals first | rfl | omega | exact hvl _ hj) ?_ ?_⟩
       · try simp only [go_sem]
       · try simp only [go_sem]
     · simp only [go_sem];refine hK _ ?_;clear hK K;refine zw (zk [27]) ?_;simp only [go_sem]
       refine zc rfl (fun hc=>?_) (fun hc=>?_) <;> (try simp only [go_sem] at hc)
       refine ze ?_;simp only [go_sem];exact .inl ⟨_,_,rfl⟩
   · refine zf ?_;simp only [go_sem]
     have hil : i = r.aims.length:=by omega
     subst hil
     have h0 : (enumM xs).drop r.aims.length = []:=List.drop_eq_nil_of_le (by simp [enumM];omega)
     have e3 : r.aims.take r.aims.length = r.aims:=List.take_length
     rw [h0,e3]
     refine .inr ⟨⟨ll,true,by simp only [go_sem]⟩,?_⟩
     rw [visR_A]
     try simp only [go_sem]
set_option maxHeartbeats 4000000
theorem visA_drop {r : Rk} {s : Bool} {nums : List Int} {st : Nat} {K : List Int} {j : Nat} {x : Int} (h : K[j]? = some x) : (visA r s nums st K).drop (2 + j) = .r (i64 x) :: (visA r s nums st K).drop (2 + j + 1):=by
 refine drop_of_opt ?_
 rw [show 2 + j = j + 1 + 1 by omega,List.getElem?_cons_succ,List.getElem?_cons_succ,List.getElem?_map,h]
 rfl
theorem visA_set {r : Rk} {s : Bool} {nums : List Int} {st : Nat} {K : List Int} {j : Nat} {y : Int} (h : j < K.length) : (visA r s nums st K).take (2 + j) ++ (AV.r (i64 y) :: (visA r s nums st K).drop (2 + j + 1)) = visA r s nums st (K.set j y):=by
 have e : (visA r s nums st K).take (2 + j) ++ (AV.r (i64 y) :: (visA r s nums st K).drop (2 + j + 1)) = (visA r s nums st K).set (2 + j) (AV.r (i64 y)):=by
  rw [List.set_eq_take_append_cons_drop,if_pos (by simp;omega)]
 rw [e,show 2 + j = j + 1 + 1 by omega,List.set_cons_succ,List.set_cons_succ]
 simp [List.map_set]
theorem value0_ok {r : Rk} {s : Bool} {nums : List Int} {st : Nat} (h : VsOk r s nums st) : ValC r s nums st 0:=fun left K hlo hle hK=>by
 have hst:=h.ok.start
 have hst2:=h.hi
 have hopt:=h.opt (x:=left) (by omega) (by omega)
 simp only [Int.toNat_natCast] at hopt
 have hnl : left < nums.length:=by rw [h.len];omega
 have e : valM r s nums (ownV nums st) 0 left K = (nums.getD left 0,K):=by simp [valM]
 rw [e]
 refine mcalls_st (n:=51) (rs:=[.r (i64 (nums.getD left 0))]) _ _ [.cell 6 3] Try.func101 rfl (by kernel_rfl) Try.ntmps101 rfl (by simp) rfl rfl fun C=>?_
 refine zq ?_
 refine zb fun K hK=>?_;simp only [go_sem];refine hK _ ?_;clear hK K;refine zw (zk [0,1,2,6]) ?_;simp only [go_sem]
 repeat refine zq ?_
 refine zb fun K hK=>?_;simp only [go_sem];refine hK _ ?_;clear hK K;refine zw (zk [0,1,2,6,11]) ?_;simp only [go_sem]
 refine zc rfl (fun hc=>?_) (fun hc=>?_) <;> (try simp only [go_sem] at hc)
 refine zq ?_
 refine zb fun K hK=>?_;simp only [go_sem,ty196,hopt,hnl];refine hK _ ?_;clear hK K;refine zw (zk [6]) ?_;simp only [go_sem];refine ze ?_;simp only [go_sem];exact ⟨frzPL_tA _ _ _,by rw [frzL_tA]⟩
theorem value1_ok {r : Rk} {s : Bool} {nums : List Int} {st : Nat} (h : VsOk r s nums st) {k : Nat} (hk : k ≤ 2) (hV : ValC r s nums st k) : ValC r s nums st (k + 1):=fun left K hlo hle hK=>by
 have hst:=h.ok.start
 have hst2:=h.hi
 have hlg:=lowG_le r.out
 have hix : ixK (k + 1) (left : Int) = 61 * (k + 1) + left:=by simp [ixK]
 obtain ⟨j,hj⟩ : ∃ j,j = 61 * (k + 1) + left:=⟨_,rfl⟩
 have hjl : j < K.length:=by rw [hK.len];omega
 obtain ⟨x,hx⟩:=zol hjl
 have gx : K.getD j 0 = x:=by simp [List.getD,hx]
 have hx0 : 0 ≤ x ∧ x ≤ 2000000001:=by
  have h1:=hK.at_ (k + 1) left (by omega) (by omega)
  have h2:=valA_le h.ok (s:=s) h.nums h.own (k + 1) left
  rw [← hj,gx] at h1
  omega
 have hd:=visA_drop (r:=r) (s:=s) (nums:=nums) (st:=st) hx
 have hval : valM r s nums (ownV nums st) (k + 1) left K = if 0 < x then (x - 1,K) else
  (leastA (aimsM r s (ownV nums st) left (valM r s nums (ownV nums st) k) r.aims K).1,
   (aimsM r s (ownV nums st) left (valM r s nums (ownV nums st) k) r.aims K).2.set j (leastA (aimsM r s (ownV nums st) left (valM r s nums (ownV nums st) k) r.aims K).1 + 1)):=by
  simp only [valM,hix,← hj,gx]
 rw [hval]
 have w1 : IntKind.i64.wrap (x - 1) = x - 1:=by rw [zI] <;> omega
 refine mcalls_stO (n:=51) (rs:=[.r (i64 (if 0 < x then (x - 1,K) else
  (leastA (aimsM r s (ownV nums st) left (valM r s nums (ownV nums st) k) r.aims K).1,
   (aimsM r s (ownV nums st) left (valM r s nums (ownV nums st) k) r.aims K).2.set j (leastA (aimsM r s (ownV nums st) left (valM r s nums (ownV nums st) k) r.aims K).1 + 1))).1)]) _ _ [.cell 6 3] Try.func101 rfl (by kernel_rfl) Try.ntmps101 rfl (by simp) rfl rfl fun C hC=>?_
 refine zq ?_
 refine zb fun K hK=>?_;simp only [go_sem];refine hK _ ?_;clear hK K;refine zw (zk [0,1,2,6]) ?_;simp only [go_sem]
 have ek : (((k : Int) + 1 : Int) == 0) = false:=by simp;omega
 repeat refine zq ?_
 refine zb fun K hK=>?_;simp only [go_sem,ek];refine hK _ ?_;clear hK K;refine zw (zk [0,1,2,6,11]) ?_;simp only [go_sem]
 refine zc rfl (fun hc=>?_) (fun hc=>?_) <;> (try simp only [go_sem] at hc)
 refine zx ?_
 try simp only [go_sem]
 have ej : 2 + (k + 1) * 61 + left * 1 = 2 + j:=by omega
 refine zq ?_
 refine zb fun K hK=>?_;simp only [go_sem,ty196,ty194,ty193]
 refine ⟨⟨by omega,by omega⟩,by omega,?_⟩
 rw [ej]
 refine hK _ ?_;clear hK K;refine zw (zk [0,1,2,6,7]) ?_;simp only [go_sem]
 repeat refine zq ?_
 refine zb fun K hK=>?_;simp only [go_sem,hd];refine hK _ ?_;clear hK K;refine zw (zk [0,1,2,6,7,32]) ?_;simp only [go_sem]
 by_cases hp : 0 < x
 · have ep : decide (0 < x) = true:=by simpa using hp
   rw [if_pos hp]
   refine zc rfl (fun hc=>?_) (fun hc=>?_) <;> (try simp only [go_sem] at hc)
   · refine zq ?_
     refine zb fun K hK=>?_;simp only [go_sem,hd,w1];refine hK _ ?_;clear hK K;refine zw (zk [6]) ?_;simp only [go_sem];refine ze ?_;simp only [go_sem];exact ⟨frzPL_tA _ _ _,by rw [frzL_tA]⟩
   · exact absurd hp hc
 · have ep : decide (0 < x) = false:=by simpa using hp
   rw [if_neg hp]
   refine zc rfl (fun hc=>?_) (fun hc=>?_) <;> (try simp only [go_sem] at hc)
   · exact absurd hc hp
   refine zx ?_
   try simp only [go_sem]
   refine zq ?_
   refine zb fun K hK=>?_;simp only [go_sem];refine hK _ ?_;clear hK K;refine zw (zk [0,1,2,6,7]) ?_;simp only [go_sem]
   refine awp_name 0 rfl fun u=>?_
   obtain ⟨A,hA⟩ : ∃ A,A = aimsM r s (ownV nums st) left (valM r s nums (ownV nums st) k) r.aims K:=⟨_,rfl⟩
   have hJ:=means1_ok h hk hV u left K hlo hle hK
   have hMf : MfOk r s nums (ownV nums st) left (valM r s nums (ownV nums st) k) (valA r s nums (ownV nums st) k):=fun x K' q1 q2 q3=>valM_ok h.ok h.nums h.own k (by omega) x K' q1 (by omega) q3
   obtain ⟨hA1,hA2⟩:=aimsM_ok hMf r.aims K h.ok.aims hK
   rw [← hA] at hJ hA1 hA2 ⊢
   have hAv : ∀ x ∈ A.1,VOk x:=fun x hx=>by
    rw [hA1] at hx
    obtain ⟨a,ha,rfl⟩:=List.mem_map.1 hx
    exact meanA_vok h.own (valA_vok h.ok h.nums h.own k) (h.ok.aims a ha)
   repeat refine zq ?_
   refine zb fun K hK=>?_;simp only [go_sem]
   refine zh (means_ok u left k) rfl (by simp only [go_sem,i64,ints]) (by simp only [go_sem,i64,ints]) (by first | exact .inl rfl | exact .inr rfl) ?_
   (try simp only [go_sem]);refine hK _ ?_;clear hK K;refine zw (zk [0,6,7,40]) ?_;simp only [go_sem];refine zd ?_
   refine Eq.mp (congrArg (fun z=>awp _ _ _ _ (Go.Oc.st 51 _ _ [_,(1000,RowC.box z)])) (visR_A r s nums st K)) ?_
   refine awp_rangeM (n:=51) (t:=40) ⟨hC.1,hC.2.1⟩ 1000 0 u (by omega) (hC.2.2 1000 rfl) (visR r s nums st K) (visR r s nums st A.2) (enumM A.1) hJ [0,6,7,40] (by decide)
    (fun vs=>[(0,.pu 1000 0 u),(6,.pt 6 (vs 6) 0),(7,.pt 1000 0 (2 + j)),(40,.r (.fn 130 (capM u left k)))])
    (fun vs=>[(0,.r (.vl u)),(6,.pt 6 (vs 6) 0),(7,.r (.vl ⟨u.block,2 + j,none⟩)),(40,.r (.fn 130 (capM u left k)))])
    (fun i vs=>[(6,.box [.r (i64 ((A.1.take i).foldl min 2000000000))])]) (fun _=>True) (upd (upd (fun _=>0) 6 1) 6 1) ?_ trivial ?_ ?_ ?_ (fun _ _=>rfl) (fun _=>rfl) (fun _=>rfl) ?_ (fun _ _=>rfl) ?_ ?_ ?_ ?_
   · intro j hj;(try simp only [upd]);(repeat' split);all_goals first | rfl | omega
   · rfl
   · simp [AV.park,AV.parkL]
   · simp [RowC.park,AV.park,AV.parkL]
   · rfl
   · decide
   · intro e he
     obtain ⟨i,hi⟩:=List.getElem?_of_mem he
     simp only [enumM,List.getElem?_mapIdx,Option.map_eq_some_iff] at hi
     obtain ⟨a,_,rfl⟩:=hi
     rfl
   · intro i e vs us C' he _ hvl
     obtain ⟨n,hn⟩ : ∃ n,A.1[i]? = some n:=by
      simp only [enumM,List.getElem?_mapIdx,Option.map_eq_some_iff] at he
      obtain ⟨a,ha,_⟩:=he
      exact ⟨a,ha⟩
     have he' : e = [i64 (i : Int),i64 n]:=by
      simp only [enumM,List.getElem?_mapIdx,hn,Option.map_some,Option.some.injEq] at he
      exact he.symm
     subst he'
     have hsn : (A.1.take (i + 1)).foldl min 2000000000 = min ((A.1.take i).foldl min 2000000000) n:=by
      rw [zto hn,List.foldl_append];rfl
     refine zb fun K hK=>?_;simp only [go_sem];refine hK _ ?_;clear hK K
     refine ⟨rfl,fun C''=>?_⟩
     refine zw (zk [0,6,7,9,40]) ?_;simp only [go_sem];refine zd ?_;refine zb fun K hK=>?_;simp only [go_sem];refine hK _ ?_;clear hK K
     try simp only [go_sem]
     rw [hsn]
     refine ⟨vs,hvl,?_⟩
     exact sub_look _ (allEq_mem (by simp only [go_sem]))
   · intro vs us hvl _
     have hv0:=hvl 1000 (by omega)
     have hel : (enumM A.1).length = A.1.length:=by simp [enumM]
     have hleast : A.1.foldl min 2000000000 = leastA A.1:=rfl
     have hlv:=leastA_vok hAv
     have hjA : j < A.2.length:=by rw [hA2.len];omega
     obtain ⟨y,hy⟩:=zol hjA
     have hdA:=visA_drop (r:=r) (s:=s) (nums:=nums) (st:=st) hy
     have hsA:=visA_set (r:=r) (s:=s) (nums:=nums) (st:=st) (y:=leastA A.1 + 1) hjA
     rw [hel,List.take_length,visR_A,hleast]
     generalize leastA A.1 = m at *
     have wm : IntKind.i64.wrap (m + 1) = m + 1:=by unfold VOk at hlv;rw [zI] <;> omega
     try simp only [go_sem]
     refine zw (sub_wake rfl) ?_;refine zw (sub_vlo 7 0 (k:=1000) (off:=2 + j) (u:=u) rfl rfl hv0) ?_;refine zw (sub_unname 0 rfl) ?_;refine zw (zk [0,6,7]) ?_;simp only [go_sem]
     have hs2 : List.take (2 + j) (visA r s nums st A.2) ++ AV.r (RV.it IntKind.i64 (m + 1)) :: List.drop (2 + j) (AV.r (i64 (st : Int)) :: tA A.2) = visA r s nums st (A.2.set j (m + 1)):=hsA
     refine zq ?_
     refine zb fun K hK=>?_;simp only [go_sem,hdA,wm]
     repeat refine ⟨by omega,?_⟩
     refine hK _ ?_;clear hK K;rw [hs2]
     refine zw (zk [6]) ?_;simp only [go_sem]
     refine zq ?_
     refine zb fun K hK=>?_;simp only [go_sem];refine hK _ ?_;clear hK K;refine zw (zk [6]) ?_;simp only [go_sem];refine ze ?_;simp only [go_sem];exact ⟨frzPL_tA _ _ _,by rw [frzL_tA]⟩
theorem value_ok {r : Rk} {s : Bool} {nums : List Int} {st : Nat} (h : VsOk r s nums st) : ∀ k,k ≤ 3 → ValC r s nums st k
 | 0,_=>value0_ok h
 | k + 1,hk=>value1_ok h (by omega) (value_ok h k (by omega))
theorem from_ok (r : Rk) (s : Bool) (nums : List Int) (st : Nat) : NCalls Try.prog 96 [.rp (tabC r s nums),i64 (st : Int)] [(8,.box (visA r s nums st (List.replicate 244 0)))] (.pt 8 0 0):=by
 have e : tA (List.replicate 244 0) = List.replicate 244 (AV.r (i64 0)):=by simp
 refine ncalls_st (n:=9) _ _ (.tmp 4) Try.func96 rfl (by kernel_rfl) Try.ntmps96 rfl (by simp) rfl rfl fun C hC=>?_
 refine zq ?_
 refine zb fun K hK=>?_;simp only [go_sem,argL];refine hK _ ?_;clear hK K
 refine zq ?_
 refine zb fun K hK=>?_;simp only [go_sem,ty196];refine hK _ ?_;clear hK K;refine zw (zk [4]) ?_;simp only [go_sem];refine ze ?_
 try simp only [go_sem]
 rfl
theorem holds_ok {r : Rk} {s : Bool} {nums : List Int} {st : Nat} (h : VsOk r s nums st) : ACalls Try.prog 70 [.rp (tabC r s nums),i64 (st : Int)] (.bo (zhA r s nums st)):=by
 have hst:=h.ok.start
 have hst2:=h.hi
 have hlg:=lowG_le r.out
 have hopt:=h.opt (x:=st) (by omega) (by omega)
 simp only [Int.toNat_natCast] at hopt
 have hnl : st < nums.length:=by rw [h.len];omega
 have hv:=(valM_ok h.ok h.nums h.own 3 (by omega) st (List.replicate 244 0) h.lo (by omega) (okK_zero r s nums (ownV nums st))).1
 have hcall:=value_ok h 3 (by omega) st (List.replicate 244 0) h.lo (Nat.le_refl _) (okK_zero r s nums (ownV nums st))
 rw [hv] at hcall
 generalize (valM r s nums (ownV nums st) 3 (st : Int) (List.replicate 244 0)).2 = K' at hcall
 have hf:=from_ok r s nums st
 generalize List.replicate 244 (0 : Int) = K0 at *
 have hb:=valA_le h.ok (s:=s) h.nums h.own 3 st
 have hH : zhA r s nums st = if s then decide (nums.getD st 0 ≤ 1000000 + valA r s nums (ownV nums st) 3 st) else decide (1000000 + valA r s nums (ownV nums st) 3 st ≤ nums.getD st 0) || decide (nums.getD st 0 = 2000000000):=rfl
 rw [hH]
 generalize valA r s nums (ownV nums st) 3 (st : Int) = v at *
 generalize nums.getD st 0 = x at *
 have w1 : IntKind.i64.wrap (1000000 + v) = 1000000 + v:=by rw [zI] <;> omega
 refine zas (rs:=[.bo (if s then decide (x ≤ 1000000 + v) else decide (1000000 + v ≤ x) || decide (x = 2000000000))]) [.tmp 4] Try.func70 rfl (by kernel_rfl) Try.ntmps70 rfl (by simp) rfl fun C vs=>?_
 refine zq ?_
 refine zb fun K hK=>?_;simp only [go_sem];refine hK _ ?_;clear hK K;refine zw (zk [0,1]) ?_;simp only [go_sem]
 refine zq ?_
 refine awp_long ?_
 refine sops_take 3 (by kernel_rfl) fun K hK=>?_
 simp only [go_sem,List.take_succ_cons,List.take_zero,List.drop_succ_cons,List.drop_zero,List.append_eq,List.cons_append,List.nil_append]
 refine xcall_new hf [(8,30)] rfl (by rfl) (by rfl) (by rfl) (by rfl) (by rfl) ?_
 simp only [go_sem,idK,backA,backC,backL,back_tA,pinOf,zLk]
 refine hK _ rfl ?_
 clear hK K
 refine sops_end (by kernel_rfl) fun K hK=>?_
 simp only [go_sem,List.drop_succ_cons,List.drop_zero,List.append_eq,List.cons_append,List.nil_append,w1]
 refine xcall_mut (hcall) [(1000,30)] rfl (by simp only [go_sem,i64,ints,lend_tA,back_tA,w1]) (by simp only [go_sem,i64,ints,lend_tA,back_tA,w1]) (by rfl) (by rfl) ?_
 (try simp only [go_sem,lend_tA,back_tA,w1]);refine hK _ ?_;clear hK K;refine zw (zk [0,1,5]) ?_;simp only [go_sem]
 repeat refine zq ?_
 refine zb fun K hK=>?_;simp only [go_sem];refine hK _ ?_;clear hK K;refine zw (zk [0,1,5,16]) ?_;simp only [go_sem]
 cases s
 · skip
   refine zc rfl (fun hc=>?_) (fun hc=>?_) <;> (try simp only [go_sem] at hc)
   refine zx ?_
   try simp only [go_sem]
   by_cases hle : 1000000 + v ≤ x
   · have e1 : decide (1000000 + v ≤ x) = true:=by simpa using hle
     refine zq ?_
     refine zb fun K hK=>?_;simp only [go_sem,hopt,hnl,e1];refine hK _ ?_;clear hK K;refine zw (zk [4]) ?_;simp only [go_sem];refine ze ?_;simp only [go_sem]
     first | (simp [e1];done) | (rw [Bool.eq_iff_iff];simp [e1])
   · have e1 : decide (1000000 + v ≤ x) = false:=by simpa using hle
     refine zq ?_
     refine zb fun K hK=>?_;simp only [go_sem,hopt,hnl,e1];refine hK _ ?_;clear hK K;refine zw (zk [4]) ?_;simp only [go_sem];refine ze ?_;simp only [go_sem]
     first | (simp [e1];done) | (rw [Bool.eq_iff_iff];simp [e1])
 · have hss:=(rfl : true = true)
   refine zc rfl (fun hc=>?_) (fun hc=>?_) <;> (try simp only [go_sem] at hc)
   · refine zq ?_
     refine zb fun K hK=>?_;simp only [go_sem,hopt,hnl];refine hK _ ?_;clear hK K;refine zw (zk [4]) ?_;simp only [go_sem];refine ze ?_;simp only [go_sem]
     try simp
   · exact absurd rfl hc
theorem awp_while0 {P : Program} {C : Ctx} {c : Code} {Q : Exit → AS → Prop} {s : AS} {n : Nat} {α : Type} (F : α → (Nat → Nat) → List (Nat × AV)) (R : α → List (Nat × RowC)) (I : α → Prop) (m : α → Nat) (x0 : α)
 (h0 : Fit0 n (F x0) (R x0) s) (hI : I x0)
 (round : ∀ x vs,Lent vs → I x → awp P C c (andThen (fun s'=>∃ y,I y ∧ m y < m x ∧ Fit0 n (F y) (R y) s') Q) (Go.Oc.st n (F x vs) vs (R x))) : awp P C (.loop c) Q s:=by
 refine awp_loop (fun k s=>∃ x,I x ∧ m x = k ∧ Fit0 n (F x) (R x) s) (m x0) ⟨x0,hI,rfl,h0⟩ ?_
 rintro k s ⟨x,hx,rfl,vs,hv,hs⟩
 refine zw hs (awp_mono ?_ (round x vs hv hx))
 intro e s' hq
 cases e with
 | normal =>
   obtain ⟨y,hy,hlt,hf⟩:=hq
   exact ⟨m y,hlt,y,hy,rfl,hf⟩
 | _=>exact hq
def lastN (f : Nat → Bool) (i j : Nat) (x : Option Nat) : Option Nat :=
 if h : i < j then (if f ((i + j) / 2) then lastN f i ((i + j) / 2) (some ((i + j) / 2)) else lastN f ((i + j) / 2 + 1) j (some ((i + j) / 2))) else x
termination_by j - i
decreasing_by all_goals omega
abbrev tabA' (r : Rk) (s : Bool) (len : Nat) : List AV:=[.r (i64 r.d),.r (aimsR r.aims),.r (i64 r.start),.r (i64 r.out),.r (.bo s),.os 1001 0 1 0 len]
abbrev fillL (r : Rk) (s : Bool) (nums : List Int) : List (Nat × RowC):=[(1000,.box (tabA' r s nums.length)),(1001,.arr 3 1 (arrV nums)),(1002,.box [.pt 1000 0 0])]
theorem tried_ok {r : Rk} {s : Bool} {nums : List Int} {st : Nat} (h : VsOk r s nums st) (n : Int) (hn : VOk n) :
 MCalls Try.prog 125 (fillL r s nums) (fillL r s (nums.set st n)) [.r (i64 n),.pt 1002 0 0,.r (.rp [i64 (st : Int)])] (.r (.bo (zhA r s (nums.set st n) st))):=by
 have hst:=h.ok.start
 have hst2:=h.hi
 have hlg:=lowG_le r.out
 have hlo:=h.lo
 have hnl : st < nums.length:=by rw [h.len];omega
 have hopt:=h.opt (x:=st) (by omega) (by omega)
 simp only [Int.toNat_natCast] at hopt
 have h' : VsOk r s (nums.set st n) st:=⟨h.ok,by simp [h.len],set_vok h.nums st hn,h.lo,h.hi⟩
 have hh:=holds_ok h'
 have hset : (arrV nums).set st [RV.it IntKind.i64 n] = arrV (nums.set st n):=(arrV_set nums st n).symm
 have hlen : (nums.set st n).length = nums.length:=by simp
 refine mcalls_st (n:=15) (rs:=[.r (.bo (zhA r s (nums.set st n) st))]) _ _ [.tmp 4] Try.func125 rfl (by kernel_rfl) Try.ntmps125 rfl (by simp) rfl rfl fun C=>?_
 refine zq ?_
 refine zb fun K hK=>?_;simp only [go_sem];refine hK _ ?_;clear hK K;refine zw (zk [0,1,2]) ?_;simp only [go_sem]
 refine zq ?_
 refine awp_dreg2 [(0,none),(1,some 1002),(2,none)] follows (by decide +kernel) (by kernel_rfl) (by simp only [keysOk,List.mem_cons,List.not_mem_nil,forall_eq_or_imp,Oc.keyOf,go_sem];simp) fun K hK=>?_
 simp only [go_sem,hnl,hopt,List.length_map];refine hK _ ?_;clear hK K;rw [hset,← hlen]
 generalize nums.set st n = N at *
 refine zw (zk [1,2]) ?_;simp only [go_sem]
 have htk : (arrV N).take N.length = arrV N:=List.take_of_length_le (by simp)
 refine zq ?_
 refine zb fun K hK=>?_;simp only [go_sem]
 refine zh (hh) rfl (by simp only [go_sem,i64,ints,htk,List.length_map,List.drop_zero]) (by simp only [go_sem,i64,ints,htk,List.length_map,List.drop_zero]) (by first | exact .inl rfl | exact .inr rfl) ?_
 (try simp only [go_sem,htk,List.length_map,List.drop_zero]);refine hK _ ?_;clear hK K;refine zw (zk [4]) ?_;simp only [go_sem];refine ze ?_;simp only [go_sem]
abbrev fillM (r : Rk) (s : Bool) (nums : List Int) (st : Nat) : List (Nat × RowC):=fillL r s nums ++ [(1003,.box [.fn 125 [.pt 1002 0 0,.r (.rp [i64 (st : Int)])]])]
theorem down_ok {r : Rk} {s : Bool} {nums : List Int} {st : Nat} (h : VsOk r s nums st) (k : Nat) (hk : k < 1000000000) :
 MCalls Try.prog 127 (fillM r s nums st) (fillM r s (nums.set st ((k : Int) + 1)) st) [.r (i64 (k : Int)),.pt 1003 0 0] (.r (.bo (!zhA r s (nums.set st ((k : Int) + 1)) st))):=by
 have hc:=tried_ok h ((k : Int) + 1) (.inl ⟨by omega,by omega⟩)
 refine mcalls_st (n:=9) (rs:=[.r (.bo (!zhA r s (nums.set st ((k : Int) + 1)) st))]) _ _ [.tmp 3] Try.func127 rfl (by kernel_rfl) Try.ntmps127 rfl (by simp) rfl rfl fun C=>?_
 have w1 : IntKind.i64.wrap ((k : Int) + 1) = (k : Int) + 1:=by rw [zI] <;> omega
 refine zq ?_
 refine zb fun K hK=>?_;simp only [go_sem];refine hK _ ?_;clear hK K;refine zw (zk [0,1]) ?_;simp only [go_sem]
 refine zq ?_
 refine zb fun K hK=>?_;simp only [go_sem,w1]
 refine xcall_mut (hc) [(1000,1000),(1001,1001),(1002,1002)] rfl (by simp only [go_sem,i64,ints]) (by simp only [go_sem,i64,ints]) (by rfl) (by rfl) ?_
 (try simp only [go_sem]);refine hK _ ?_;clear hK K;refine zw (zk [3]) ?_;simp only [go_sem];refine ze ?_;simp only [go_sem]
 rfl
theorem up_ok {r : Rk} {s : Bool} {nums : List Int} {st : Nat} (h : VsOk r s nums st) (k : Nat) (hk : k < 999000001) :
 MCalls Try.prog 128 (fillM r s nums st) (fillM r s (nums.set st (1000000 + (k : Int))) st) [.r (i64 (k : Int)),.pt 1003 0 0] (.r (.bo (zhA r s (nums.set st (1000000 + (k : Int))) st))):=by
 have hc:=tried_ok h (1000000 + (k : Int)) (.inl ⟨by omega,by omega⟩)
 refine mcalls_st (n:=8) (rs:=[.r (.bo (zhA r s (nums.set st (1000000 + (k : Int))) st))]) _ _ [.tmp 3] Try.func128 rfl (by kernel_rfl) Try.ntmps128 rfl (by simp) rfl rfl fun C=>?_
 have w1 : IntKind.i64.wrap (1000000 + (k : Int)) = 1000000 + (k : Int):=by rw [zI] <;> omega
 refine zq ?_
 refine zb fun K hK=>?_;simp only [go_sem];refine hK _ ?_;clear hK K;refine zw (zk [0,1]) ?_;simp only [go_sem]
 refine zq ?_
 refine zb fun K hK=>?_;simp only [go_sem,w1]
 refine xcall_mut (hc) [(1000,1000),(1001,1001),(1002,1002)] rfl (by simp only [go_sem,i64,ints]) (by simp only [go_sem,i64,ints]) (by rfl) (by rfl) ?_
 (try simp only [go_sem]);refine hK _ ?_;clear hK K;refine zw (zk [3]) ?_;simp only [go_sem];refine ze ?_;simp only [go_sem]
 rfl
def setO (nums : List Int) (st : Nat) (m : Nat → Int) : Option Nat → List Int
 | none=>nums
 | some k=>nums.set st (m k)
theorem setO_len (nums : List Int) (st : Nat) (m : Nat → Int) (o : Option Nat) : (setO nums st m o).length = nums.length:=by cases o <;> simp [setO]
theorem setO_set (nums : List Int) (st : Nat) (m : Nat → Int) (o : Option Nat) (n : Int) : (setO nums st m o).set st n = nums.set st n:=by cases o <;> simp [setO]
theorem search_ok {r : Rk} {s : Bool} {nums : List Int} {st : Nat} (F : Nat) (N : Nat) (hN : N ≤ 1000000000) (f : Nat → Bool) (m : Nat → Int)
 (hf : ∀ o k,(∀ q,o = some q → q < N) → k < N → MCalls Try.prog F (fillM r s (setO nums st m o) st) (fillM r s (setO nums st m (some k)) st) [.r (i64 (k : Int)),.pt 1003 0 0] (.r (.bo (f k)))) :
 MCalls Try.prog 126 (fillM r s nums st) (fillM r s (setO nums st m (lastN f 0 N none)) st) [.r (i64 (N : Int)),.fn F [.pt 1003 0 0]] (.r (i64 (srch f 0 N : Nat))):=by
 refine mcalls_st (n:=26) (rs:=[.r (i64 (srch f 0 N : Nat))]) _ _ [.tmp 4] Try.func126 rfl (by kernel_rfl) Try.ntmps126 rfl (by simp) rfl rfl fun C=>?_
 refine zq ?_
 refine zb fun K hK=>?_;simp only [go_sem];refine hK _ ?_;clear hK K;refine zw (zk [0,1]) ?_;simp only [go_sem]
 refine zq ?_
 refine zb fun K hK=>?_;simp only [go_sem];refine hK _ ?_;clear hK K;refine zw (zk [1,5,6]) ?_;simp only [go_sem]
 refine zq ?_
 refine zd ?_
 refine awp_while0 (n:=26) (α:=Nat × Nat × Option Nat) (fun x vs=>[(1,.fn F [.pt 1003 0 0]),(5,.r (i64 (x.1 : Int))),(6,.r (i64 (x.2.1 : Int)))])
  (fun x=>fillM r s (setO nums st m x.2.2) st) (fun x=>x.1 ≤ x.2.1 ∧ x.2.1 ≤ N ∧ srch f x.1 x.2.1 = srch f 0 N ∧ lastN f x.1 x.2.1 x.2.2 = lastN f 0 N none ∧ ∀ q,x.2.2 = some q → q < N) (fun x=>x.2.1 - x.1) (0,N,none) (fit0_of [] lent_zero ?_ ?_) ⟨Nat.zero_le _,Nat.le_refl _,rfl,rfl,fun q hq=>by cases hq⟩ ?_
 · try simp only [go_sem]
 · try simp only [go_sem]
   try rfl
 · rintro ⟨i,j,o⟩ vs hvl ⟨hij,hjN,hs1,hs2,hq⟩
   have hv0:=hvl 1000 (by omega)
   have hv1:=hvl 1001 (by omega)
   have hv2:=hvl 1002 (by omega)
   have hv3:=hvl 1003 (by omega)
   simp only at hij hjN hs1 hs2 hq ⊢
   rw [srch] at hs1
   rw [lastN] at hs2
   repeat refine zq ?_
   refine zb fun K hK=>?_;simp only [go_sem];refine hK _ ?_;clear hK K;refine zw (zk [1,5,6,11]) ?_;simp only [go_sem]
   by_cases hlt : i < j
   · rw [dif_pos hlt] at hs1 hs2
     have hm : (i + j) / 2 < N:=by omega
     obtain ⟨c,hcm⟩ : ∃ c,c = (i + j) / 2:=⟨_,rfl⟩
     rw [← hcm] at hs1 hs2 hm
     have hcall:=hf o c hq hm
     refine zc rfl (fun hc=>?_) (fun hc=>?_) <;> (try simp only [go_sem] at hc)
     · refine zx ?_
       try simp only [go_sem]
       refine zd ?_
       have wa : IntKind.i64.wrap ((i : Int) + j) = (i : Int) + j:=by rw [zI] <;> omega
       have wb : IntKind.u64.wrap ((i : Int) + j) = (i : Int) + j:=by
        show ((i : Int) + j) % 18446744073709551616 = _
        omega
       have wsh : shrI IntKind.u64 ((i : Int) + j) 1 = (c : Int):=by
        show ((i : Int) + j).fdiv 2 = _
        rw [Int.fdiv_eq_ediv_of_nonneg _ (by omega)]
        omega
       have wc : IntKind.i64.wrap (c : Int) = c:=by rw [zI] <;> omega
       refine zq ?_
       refine zb fun K hK=>?_;simp only [go_sem,wa,wb,wsh,wc];refine hK _ ?_;clear hK K;refine zw (zk [1,5,6,7]) ?_;simp only [go_sem]
       refine zq ?_
       refine zb fun K hK=>?_;simp only [go_sem]
       refine xcall_mut (hcall) [(1000,1000),(1001,1001),(1002,1002),(1003,1003)] rfl (by simp only [go_sem,i64,ints,hv0,hv1,hv2,hv3]) (by simp only [go_sem,i64,ints,hv0,hv1,hv2,hv3]) (by rfl) (by rfl) ?_
       (try simp only [go_sem,hv0,hv1,hv2,hv3]);refine hK _ ?_;clear hK K;refine zw (zk [1,5,6,7,21]) ?_;simp only [go_sem]
       cases hfc : f c
       · rw [hfc] at hs1 hs2
         simp only [Bool.false_eq_true,if_false] at hs1 hs2
         refine zc rfl (fun hc=>?_) (fun hc=>?_) <;> (try simp only [go_sem] at hc)
         refine zb fun K hK=>?_;simp only [go_sem];(try simp (disch:=omega) only [zI]);refine hK _ ?_;clear hK K
         try simp only [go_sem]
         refine ⟨(c + 1,j,some c),⟨by show c + 1 ≤ j;omega,hjN,hs1,hs2,fun q hq=>by injection hq with hq;omega⟩,by show j - (c + 1) < j - i;omega,fit0_of [] (by intro j hj;(try simp only [upd]);(repeat' split);all_goals first | rfl | omega | exact hvl _ hj) ?_ ?_⟩
         · try simp only [go_sem]
         · try simp only [go_sem]
       · rw [hfc] at hs1 hs2
         simp only [if_true] at hs1 hs2
         refine zc rfl (fun hc=>?_) (fun hc=>?_) <;> (try simp only [go_sem] at hc)
         refine zb fun K hK=>?_;simp only [go_sem];refine hK _ ?_;clear hK K
         try simp only [go_sem]
         refine ⟨(i,c,some c),⟨by show i ≤ c;omega,by show c ≤ N;omega,hs1,hs2,fun q hq=>by injection hq with hq;omega⟩,by show c - i < j - i;omega,fit0_of [] (by intro j hj;(try simp only [upd]);(repeat' split);all_goals first | rfl | omega | exact hvl _ hj) ?_ ?_⟩
         · try simp only [go_sem]
         · try simp only [go_sem]
     · exact absurd hlt hc
   · rw [dif_neg hlt] at hs1 hs2
     refine zc rfl (fun hc=>?_) (fun hc=>?_) <;> (try simp only [go_sem] at hc)
     · exact absurd hc hlt
     refine zf ?_;simp only [go_sem];rw [hs1,hs2]
     refine zq ?_
     refine zb fun K hK=>?_;simp only [go_sem];refine hK _ ?_;clear hK K;refine zw (zk [4]) ?_;simp only [go_sem];refine ze ?_;simp only [go_sem]
     rfl
theorem VsOk.set {r : Rk} {s : Bool} {nums : List Int} {st : Nat} (h : VsOk r s nums st) {n : Int} (hn : VOk n) : VsOk r s (nums.set st n) st:=⟨h.ok,by simp [h.len],set_vok h.nums st hn,h.lo,h.hi⟩
theorem VsOk.setO {r : Rk} {s : Bool} {nums : List Int} {st : Nat} (h : VsOk r s nums st) {m : Nat → Int} {N : Nat} (hm : ∀ k,k < N → VOk (m k)) : ∀ o : Option Nat,(∀ q,o = some q → q < N) → VsOk r s (setO nums st m o) st
 | none,_=>h
 | some k,hq=>h.set (hm k (hq k rfl))
theorem srch_le (f : Nat → Bool) (i j : Nat) (h : i ≤ j) : srch f i j ≤ j:=by
 rw [srch]
 split
 · rename_i hlt
   split
   · have:=srch_le f i ((i + j) / 2) (by omega);omega
   · exact srch_le f ((i + j) / 2 + 1) j (by omega)
 · exact h
termination_by j - i
decreasing_by all_goals omega
abbrev fillT (r : Rk) (s : Bool) (nums : List Int) : List (Nat × RowC):=[(1000,.box (tabA' r s nums.length)),(1001,.arr 3 1 (arrV nums))]
theorem fill_ok {r : Rk} {s : Bool} {nums : List Int} {st : Nat} (h : VsOk r s nums st) :
 MCalls Try.prog 93 (fillT r s nums) (fillT r s (nums.set st (numA r s nums st))) [.pt 1000 0 0,.r (i64 (st : Int))] (.tu []):=by
 have hst:=h.ok.start
 have hst2:=h.hi
 have hlg:=lowG_le r.out
 have hlo:=h.lo
 have hnl : st < nums.length:=by rw [h.len];omega
 have hD:=search_ok (r:=r) (s:=s) (nums:=nums) (st:=st) (F:=127) 1000000000 (by omega) (fun k=>!zhA r s (nums.set st ((k : Int) + 1)) st) (fun k=>(k : Int) + 1) (fun o k hq hk=>by
  have:=down_ok (h.setO (m:=fun k=>(k : Int) + 1) (N:=1000000000) (fun k hk=>.inl ⟨by omega,by omega⟩) o hq) k hk
  rw [setO_set] at this
  exact this)
 have hU:=search_ok (r:=r) (s:=s) (nums:=nums) (st:=st) (F:=128) 999000001 (by omega) (fun k=>zhA r s (nums.set st (1000000 + (k : Int))) st) (fun k=>1000000 + (k : Int)) (fun o k hq hk=>by
  have:=up_ok (h.setO (m:=fun k=>1000000 + (k : Int)) (N:=999000001) (fun k hk=>.inl ⟨by omega,by omega⟩) o hq) k hk
  rw [setO_set] at this
  exact this)
 refine mcalls_st (n:=46) (rs:=[]) _ _ [] Try.func93 rfl (by kernel_rfl) Try.ntmps93 rfl (by simp) rfl rfl fun C=>?_
 refine zq ?_
 refine zb fun K hK=>?_;simp only [go_sem];refine hK _ ?_;clear hK K;refine zw (zfP 3 3 [i64 (st : Int)] (by omega) rfl rfl) ?_;refine zw (zk [2,3]) ?_;simp only [go_sem]
 refine zq ?_
 refine zb fun K hK=>?_;simp only [go_sem];refine hK _ ?_;clear hK K;refine zw (zk [2,3,4]) ?_;simp only [go_sem]
 repeat refine zq ?_
 refine zb fun K hK=>?_;simp only [go_sem];refine hK _ ?_;clear hK K;refine zw (zk [2,3,4,12]) ?_;simp only [go_sem]
 cases s
 · skip
   refine zc rfl (fun hc=>?_) (fun hc=>?_) <;> (try simp only [go_sem] at hc)
   refine zx ?_
   try simp only [go_sem]
   have hA : numA r false nums st = if 1000000000 < 1000000 + ((srch (fun k=>zhA r false (nums.set st (1000000 + (k : Int))) st) 0 999000001 : Nat) : Int) then 2000000000 else 1000000 + ((srch (fun k=>zhA r false (nums.set st (1000000 + (k : Int))) st) 0 999000001 : Nat) : Int):=by unfold numA;rfl
   have hsb:=srch_le (fun k=>zhA r false (nums.set st (1000000 + (k : Int))) st) 0 999000001 (by omega)
   rw [hA]
   refine zq ?_
   refine zb fun K hK=>?_;simp only [go_sem]
   refine xcall_mut (hU) [(1000,1000),(1001,1001),(1002,2),(1003,4)] rfl (by simp only [go_sem,i64,ints]) (by simp only [go_sem,i64,ints]) (by rfl) (by rfl) ?_
   (try simp only [go_sem]);refine hK _ ?_;clear hK K
   have hNl:=setO_len nums st (fun k=>1000000 + (k : Int)) (lastN (fun k=>zhA r false (nums.set st (1000000 + (k : Int))) st) 0 999000001 none)
   have hNs:=setO_set nums st (fun k=>1000000 + (k : Int)) (lastN (fun k=>zhA r false (nums.set st (1000000 + (k : Int))) st) 0 999000001 none)
   generalize srch (fun k=>zhA r false (nums.set st (1000000 + (k : Int))) st) 0 999000001 = n at *
   generalize setO nums st (fun k=>1000000 + (k : Int)) (lastN (fun k=>zhA r false (nums.set st (1000000 + (k : Int))) st) 0 999000001 none) = N1 at *
   have hN1 : st < N1.length:=by omega
   obtain ⟨y,hy⟩:=zol hN1
   have w1 : IntKind.i64.wrap (1000000 + (n : Int)) = 1000000 + (n : Int):=by rw [zI] <;> omega
   have hset : ∀ v : Int,(arrV N1).set st [RV.it IntKind.i64 v] = arrV (nums.set st v):=fun v=>by rw [← hNs v];exact (arrV_set N1 st v).symm
   refine zw (zk [2,3,6]) ?_;simp only [go_sem]
   refine zq ?_
   refine awp_dreg2 [(2,some 2),(3,none),(6,none)] follows (by decide +kernel) (by kernel_rfl) (by simp only [keysOk,List.mem_cons,List.not_mem_nil,forall_eq_or_imp,Oc.keyOf,go_sem];simp) fun K hK=>?_
   simp only [go_sem,hy,hN1,w1,List.length_map];refine hK _ ?_;clear hK K;rw [hset,hNl]
   have hlen2 : (nums.set st (1000000 + (n : Int))).length = nums.length:=by simp
   have hget2 : (nums.set st (1000000 + (n : Int)))[st]? = some (1000000 + (n : Int)):=by rw [List.getElem?_set_self hnl]
   have hss2 : ∀ v : Int,(arrV (nums.set st (1000000 + (n : Int)))).set st [RV.it IntKind.i64 v] = arrV (nums.set st v):=fun v=>by
    have:=(arrV_set (nums.set st (1000000 + (n : Int))) st v).symm
    rw [List.set_set] at this
    exact this
   generalize hM : nums.set st (1000000 + (n : Int)) = M at *
   have hMl : st < M.length:=by omega
   refine zw (zk [2,3]) ?_;simp only [go_sem]
   refine zq ?_
   refine awp_dreg2 [(2,some 2),(3,none)] follows (by decide +kernel) (by kernel_rfl) (by simp only [keysOk,List.mem_cons,List.not_mem_nil,forall_eq_or_imp,Oc.keyOf,go_sem];simp) fun K hK=>?_
   simp only [go_sem,hget2,hMl,List.length_map]
   refine ⟨by omega,?_⟩
   refine hK _ ?_;clear hK K;refine zw (zk [2,3,39]) ?_;simp only [go_sem]
   by_cases hbig : 1000000000 < 1000000 + (n : Int)
   · rw [if_pos hbig]
     refine zc rfl (fun hc=>?_) (fun hc=>?_) <;> (try simp only [go_sem] at hc)
     · skip
       refine awp_dreg2 [(2,some 2),(3,none)] follows (by decide +kernel) (by kernel_rfl) (by simp only [keysOk,List.mem_cons,List.not_mem_nil,forall_eq_or_imp,Oc.keyOf,go_sem];simp) fun K hK=>?_
       simp only [go_sem,hget2,hMl,List.length_map]
       refine ⟨by omega,?_⟩
       refine hK _ ?_;clear hK K;rw [hss2]
       try simp only [go_sem]
       try simp
     · exact absurd hbig hc
   · rw [if_neg hbig]
     refine zc rfl (fun hc=>?_) (fun hc=>?_) <;> (try simp only [go_sem] at hc)
     · exact absurd hc hbig
     · refine zx ?_
       try simp only [go_sem]
       rw [hM]
       exact ⟨by rw [hlen2],rfl⟩
 · have hss:=(rfl : true = true)
   refine zc rfl (fun hc=>?_) (fun hc=>?_) <;> (try simp only [go_sem] at hc)
   · refine zq ?_
     refine zb fun K hK=>?_;simp only [go_sem]
     refine xcall_mut (hD) [(1000,1000),(1001,1001),(1002,2),(1003,4)] rfl (by simp only [go_sem,i64,ints]) (by simp only [go_sem,i64,ints]) (by rfl) (by rfl) ?_
     (try simp only [go_sem]);refine hK _ ?_;clear hK K
     have hNl:=setO_len nums st (fun k=>(k : Int) + 1) (lastN (fun k=>!zhA r true (nums.set st ((k : Int) + 1)) st) 0 1000000000 none)
     have hNs:=setO_set nums st (fun k=>(k : Int) + 1) (lastN (fun k=>!zhA r true (nums.set st ((k : Int) + 1)) st) 0 1000000000 none)
     have hA : numA r true nums st = ((srch (fun k=>!zhA r true (nums.set st ((k : Int) + 1)) st) 0 1000000000 : Nat) : Int):=by unfold numA;rfl
     rw [hA]
     generalize srch (fun k=>!zhA r true (nums.set st ((k : Int) + 1)) st) 0 1000000000 = n at *
     generalize setO nums st (fun k=>(k : Int) + 1) (lastN (fun k=>!zhA r true (nums.set st ((k : Int) + 1)) st) 0 1000000000 none) = N1 at *
     have hN1 : st < N1.length:=by omega
     obtain ⟨y,hy⟩:=zol hN1
     have hset : ∀ v : Int,(arrV N1).set st [RV.it IntKind.i64 v] = arrV (nums.set st v):=fun v=>by rw [← hNs v];exact (arrV_set N1 st v).symm
     refine zw (zk [2,3,5]) ?_;simp only [go_sem]
     refine zq ?_
     refine awp_dreg2 [(2,some 2),(3,none),(5,none)] follows (by decide +kernel) (by kernel_rfl) (by simp only [keysOk,List.mem_cons,List.not_mem_nil,forall_eq_or_imp,Oc.keyOf,go_sem];simp) fun K hK=>?_
     simp only [go_sem,hy,hN1,List.length_map];refine hK _ ?_;clear hK K;rw [hset,hNl]
     refine zw (zk [2]) ?_;simp only [go_sem];refine ze ?_;simp only [go_sem]
     try simp
   · exact absurd rfl hc
end Go.Proofs.Ytgfbenanljjgaaa.Du.Th.Ai

namespace Go.Oc
open Go Go.RowKit
def IBCalls (P : Program) (z : Bool) (F : FuncId) (caps : List RV) (xs : List (List RV)) : Prop :=
 callable P F = true ∧ ∀ (w : World) (R : Nat → Prop) (vs : Array Value) (X : XS) (Ψ Θ : Nat → Prop),(∀ b,R b → b < w.heap.size) → RV.relV w R caps vs.toList → X.z = z → (z = false → ∀ b,R b → X.R b) → X.n0 ≤ w.heap.size → YOk P X →
  (∀ b,Ψ b → b < w.heap.size) → (∀ b,Θ b → b < w.heap.size) → (∀ b,R b → ¬ Θ b) → X.X (some xs) w Ψ Θ →
  Calls P F (vs ++ #[.func (.yield X.l) #[] #[]]) w fun e w'=>(∃ v,e = .returned v) ∧ (∃ Ψ' Θ',X.X (some []) w' Ψ' Θ' ∨ X.X none w' Ψ' Θ')
theorem ibcalls_st {P : Program} {z : Bool} {f : FuncId} {fn : Func} {c : Code} {n : Nat} {caps : List RV} {xs : List (List RV)} (hf : P.funcs[f]? = some fn) (hb : fn.body = some c) (hc : callable P f = true) (hn : fn.ntmps = n) (hres : fn.results.toList = [])
 (hargs : caps.length + 1 ≤ n) (h : ∀ C l,awp P C c (ipost P) (st n (argL 0 (caps ++ [.yl l])) (fun _=>0) [(999,.gh P l z (some xs))])) : IBCalls P z f caps xs:=by
 refine ⟨hc,fun w R vs0 X Ψ Θ hR hV0 hz hzR hn0 hY hΨ hΘ hRΘ hX=>?_⟩
 have hV : RV.relV w R (caps ++ [.yl X.l]) (vs0 ++ #[Value.func (.yield X.l) #[] #[]]).toList:=by
  rw [Array.toList_append]
  refine RV.relV_append hV0 ?_
  simp only [RV.relV];exact ⟨Value.func (.yield X.l) #[] #[],[],by simp,by simp only [RV.rel],rfl⟩
 generalize vs0 ++ #[Value.func (.yield X.l) #[] #[]] = vs at hV
 have hlen:=RV.relV_length hV
 simp only [Array.length_toList,List.length_append,List.length_cons,List.length_nil] at hlen
 let C : Ctx:={ w0:=w,R0:=R,bor:=Θ,pin:=fun _=>none,X:=X }
 let p : Plan:={ R:=R,β:=fun _=>none,γ:=fun _=>1,X:=X,Ψ:=Ψ,Θ:=Θ }
 have hs : SR C p (st n (argL 0 (caps ++ [.yl X.l])) (fun _=>0) [(999,.gh P X.l z (some xs))]) { tmps:=vs ++ Array.replicate (fn.ntmps - vs.size) undef,defers:=[] } w:={
  base:=⟨rfl,rfl,rfl,Nat.le_refl _,fun _ _ _ _=>rfl⟩
  r0:=fun _ h=>h
  rn:=fun _ h=>.inl h
  rb:=hR
  tm:=fun t=>by
   show (look (argL 0 (caps ++ [.yl X.l])) t).rel _ _ _ _
   by_cases hmem : ∃ x,(t,x) ∈ argL 0 (caps ++ [RV.yl X.l])
   · cases e : (caps ++ [RV.yl X.l])[t]? with
     | none =>
       obtain ⟨x,hx⟩:=hmem
       obtain ⟨i,y,h1,h2⟩:=argL_mem _ hx
       simp only [Nat.zero_add,Prod.mk.injEq] at h1
       rw [← h1.1,e] at h2;cases h2
     | some x =>
       obtain ⟨u,hu,hx⟩:=RV.relV_get hV e
       have : (vs ++ Array.replicate (fn.ntmps - vs.size) undef).getD t undef = u:=by
        have ht : t < vs.size:=by have:=(List.getElem?_eq_some_iff.1 hu).1;simpa using this
        rw [Array.getD_eq_getD_getElem?,Array.getElem?_append_left ht]
        simp only [Array.getElem?_toList] at hu
        rw [hu];rfl
       have e2:=argL_look (k:=0) e
       rw [Nat.zero_add] at e2
       rw [this,e2]
       simpa only [AV.rel] using hx
   · rw [look_none hmem]
     exact AV.rel_un _ _ _ _
  sz:=by simp only [Array.size_append,Array.size_replicate,st];omega
  ex:={
   px:=rfl
   n0:=hn0
   ψ0:=fun hz' b hb=>hzR (hz ▸ hz') b hb
   ψl:=hΨ
   θl:=hΘ
   ψb:=fun k b h=>by cases h
   ψr:=hRΘ
   ψo:=fun b h=>h.elim
   θo:=fun b h _=>h
   bo:=fun b h=>h.elim (hΘ b) (fun h=>h.elim)
   ψn:=fun hn=>(hn _ _ _ _ hX).elim
   hd:=fun b h=>h.elim
   rm:=fun _=>rfl
   df:=⟨[],rfl,List.nodup_nil,fun D hD=>by cases hD⟩ }
  rw:=fun k=>by
   show zrl w p _ k (lookc [(999,RowC.gh P X.l z (some xs))] k)
   rw [zlc,lookc_nil]
   split
   · rename_i e
     simp only [zrl];exact ⟨e,rfl,rfl,rfl,hz,hY,hX⟩
   · simp only [zrl];exact ⟨rfl,rfl⟩
  bl:=fun k b h=>by simp [p] at h
  ij:=fun k k' b h=>by simp [p] at h
  cap:=fun k=>by simp [p,maxLen]
  pn:=fun k x h=>by cases h
  lk:=fun j km n l cur h _=>by
   have h' : lookc [(999,RowC.gh P X.l z (some xs))] j = .mi km n l cur:=h
   rw [zlc,lookc_nil] at h'
   split at h' <;> cases h' }
 refine callsIn_wide.1 (callsIn_of_wp_marks (n:=0) hf hb trivial (wpIn_mono (h C X.l _ w ⟨p,hs⟩) ?_))
 rintro e a' w' ⟨s',⟨p',hs'⟩,hq⟩
 have fin : ∀ (a' : Act) (w' : World),SR C p' s' a' w' → (∃ l z,(s'.rows 999).c = .gh P l z (some []) ∨ (s'.rows 999).c = .gh P l z none) →
  ∃ v,(results fn a'.tmps).run P w' = .ok v w' ∧ ((∃ v',Ending.returned v = .returned v') ∧ ∃ Ψ' Θ',X.X (some []) w' Ψ' Θ' ∨ X.X none w' Ψ' Θ'):=fun a' w' hs' ⟨l,z',hq⟩=>by
  have hm : (fn.results.mapM (resOp a'.tmps)).run P w' = .ok #[] w':=by
   rw [Array.mapM_eq_mapM_toList,hres]
   simp only [Sem.run_map,List.mapM_nil,Sem.run_pure,Result.andThen_ok]
  refine ⟨.tuple #[],by rw [results_eq,Sem.run_bind,hm];simp,⟨_,rfl⟩,p'.Ψ,p'.Θ,?_⟩
  have hpx : p'.X = X:=hs'.ex.px
  have hr:=hs'.rw 999
  rcases hq with hq | hq
  · rw [hq] at hr
    simp only [zrl] at hr
    rw [hpx] at hr
    exact .inl hr.2.2.2.2.2.2
  · rw [hq] at hr
    simp only [zrl] at hr
    rw [hpx] at hr
    exact .inr hr.2.2.2.2.2.2
 cases e with
 | normal=>exact hs'.leave fun a'' w'' _ hs''=>fin a'' w'' hs'' hq
 | ret=>exact hs'.leave fun a'' w'' _ hs''=>fin a'' w'' hs'' hq
 | _=>exact hq.elim
section
variable {P : Program} {C : Ctx} {p : Plan} {s : AS} {a : Act} {w : World}
set_option maxHeartbeats 400000 in
theorem awp_rangeFuncB {g : Operand} {ps : Array Tmp} {assign body : Code} {Q : Exit → AS → Prop} (hrd : C.rd = none) (hC : C.X = XS.none) {F : FuncId} {args : List RV} {xs : List (List RV)} {z : Bool}
 (hF : s.ev g = .r (.bf F args)) (hI : IBCalls P z F args xs) (hdead : (s.rows 0).c = .dead) (ts : List Nat) (hps : ∀ t ∈ ps.toList,t < s.n)
 (I : List (List RV) → List Value → AS → Prop) (J : Code → List Value → AS → Prop)
 (h0 : ∀ us,I xs us { n:=s.n,tm:=look [],rows:=upd s.rows 0 ⟨(s.rows 0).ver,.sus (ts.map s.tm) us⟩ })
 (round : ∀ e rest us s',s'.n = s.n → I (e :: rest) us s' → e.length = ps.size ∧ ∃ avs,(s'.rows 0).c = .sus avs us ∧ ∀ C,awp P C assign (fun x s2=>x = .normal ∧ ∀ C,awp P C body (rpost s.n I J rest us) s2) ⟨s.n,psA ps.toList e (look (ts.zip avs)),s'.rows⟩)
 (done : ∀ us s',s'.n = s.n → I [] us s' → ∃ avs,(s'.rows 0).c = .sus avs us ∧ Q .normal ⟨s.n,look (ts.zip avs),s'.rows⟩)
 (stop : ∀ c us s',s'.n = s.n → J c us s' → ∃ avs,(s'.rows 0).c = .sus avs us ∧ awp P C c Q ⟨s.n,look (ts.zip avs),s'.rows⟩) : awp P C (.rangeFunc g ps assign body) Q s:=by
 rintro a w ⟨p,hS⟩
 have hn : ∀ o w Ψ Θ,¬ C.X.X o w Ψ Θ:=fun o w Ψ Θ h=>by rw [hC] at h;exact h
 have hF0 : fnc C.rd = Fence.wide:=by rw [hrd];rfl
 rw [hF0]
 refine wpIn_rangeFunc fun fn _=>?_
 obtain ⟨vsC,hgv,hcs⟩ : ∃ vs : Array Value,a.eval g = .func (.func F) vs #[] ∧ RV.relV w p.R args vs.toList:=by
  have:=hS.ev g
  rw [hF] at this
  simpa only [AV.rel,RV.rel] using this
 have hψ0:=hS.ex.ψn hn
 obtain ⟨rec,hrec⟩ : ∃ rec : LoopState → Option Code → Loop,rec = fun st pe=>{ state:=st,pending:=pe,fn,tmps:=a.tmps,params:=ps,assign,body,defers:=w.heap.size }:=⟨_,rfl⟩
 obtain ⟨w1,hw1⟩ : ∃ w1,(w.alloc (.deferred (some []))).alloc (.loop (rec .ready none)) = w1:=⟨_,rfl⟩
 obtain ⟨L,hLdef⟩ : ∃ L,L = w.heap.size + 1:=⟨_,rfl⟩
 obtain ⟨aL,haL⟩ : ∃ aL : Act,aL = { tmps:=a.tmps,defers:={ target:=.collected w.heap.size,args:=#[] } :: a.defers }:=⟨_,rfl⟩
 have hS1 : SR C p s aL w1:=by rw [haL,← hw1];exact hS.enter hrd _
 have hsz1 : w1.heap.size = w.heap.size + 2:=by rw [← hw1];simp
 have hL1 : w1.heap[L]? = some (.loop (rec .ready none)):=by
  rw [← hw1,hLdef];have:=World.alloc_heap_new (w.alloc (.deferred (some []))) (.loop (rec .ready none));rwa [World.size_alloc] at this
 have hLR : ¬ p.R L:=fun h=>by have:=hS.rb L h;omega
 have hLβ : ∀ k,p.β k ≠ some L:=fun k h=>by have:=(hS.bl k L h).1;omega
 have hL0 : C.w0.heap.size ≤ L:=by have:=hS.base.size;omega
 have hLm : ∀ d ∈ aL.defers,d.target ≠ .collected L:=fun d hd e=>by
  obtain ⟨Ds,g1,_,g3⟩:=hS1.ex.df
  rw [g1] at hd
  obtain ⟨D,hD,rfl⟩:=List.mem_map.1 hd
  injection e with e
  subst e
  have:=(g3 _ hD).1
  rw [hL1] at this;cases this
 obtain ⟨us,hus⟩ : ∃ us,us = ts.map fun t=>aL.tmps.getD t undef:=⟨_,rfl⟩
 have hS2:=hS1.wait hdead ts
 rw [← hus,← look_nil'] at hS2
 have htmps : aL.tmps = a.tmps:=by rw [haL]
 have hsn : s.n = aL.tmps.size:=by rw [htmps];exact hS.sz.symm
 let X : XS:={ l:=L,z:=z,n0:=w1.heap.size,R:=p.R,X:=XJ C aL L rec (fun left s'=>I left us s') (fun c s'=>J c us s'),st:=XJ.st hn }
 have hcap : RV.relV w1 p.R args vsC.toList:=RV.relV_mono (fun _ h=>h) (fun ad hr=>World.cell?_of_block (by rw [← hw1];exact (Below.heap_alloc _ _ _ (by have:=hS.rb _ hr;simp;omega)).trans (Below.heap_alloc _ _ _ (hS.rb _ hr)))) _ _ hcs
 have hY : YOk P X:=by
  intro e rest wv Ψ Θ R vs hX hR hV
  obtain ⟨pv,sv,hSv,hsnv,⟨hIv,hLv⟩,hLRv,hLβv,hΨv,hΘv⟩:=hX
  have hψv:=hSv.ex.ψn hn
  obtain ⟨hlen,avs,hrow,hround⟩:=round e rest us sv (hsnv.trans hsn.symm) hIv
  have hvs : vs.size = ps.size:=by have:=RV.relV_length hV;simp only [Array.length_toList] at this;omega
  have hltv : L < wv.heap.size:=(Array.getElem?_eq_some_iff.1 hLv).1
  have hy:=run_yield (P:=P) (args:=vs) hLv (by rw [hrec];exact hvs)
  rw [hrec] at hy
  refine ⟨fn,_,assign,body,hy,?_⟩
  have hRβ : ∀ b,R b → b < wv.heap.size ∧ ∀ k,pv.β k ≠ some b:=fun b hb=>⟨(hR b hb).1,fun k hk=>(hR b hb).2.1 ((hΘv b).2 (.inl ⟨k,hk⟩))⟩
  have hRL : ¬ R L:=fun hb=>(hR L hb).2.1 ((hΘv L).2 (.inr rfl))
  have hkv : Kept wv wv pv { pv with R:=fun b=>pv.R b ∨ R b } sv.ver sv.ver:=⟨fun _ h=>.inl h,fun _ _=>rfl,fun _=>Nat.le_refl _,fun _ _=>⟨rfl,rfl⟩⟩
  have haw:=hSv.awake (by rw [hrow,hus])
  have hzip : (ps.zip vs).foldl (fun tmps (x : Nat × Value)=>tmps.setIfInBounds x.1 x.2) a.tmps = (ps.toList.zip vs.toList).foldl (fun tmps (x : Nat × Value)=>tmps.setIfInBounds x.1 x.2) a.tmps:=by
   rw [← Array.foldl_toList,Array.toList_zip]
  obtain ⟨hpsz,hprel⟩:=psA_rel (w:=wv) (p:={ pv with R:=fun b=>pv.R b ∨ R b }) (ver:=sv.ver) ps.toList e vs.toList (look (ts.zip avs)) a.tmps (RV.relV_mono (fun _ h=>.inr h) (fun _ _=>rfl) _ _ hV)
   (fun t ht=>by rw [← htmps,← hsn];exact hps t ht) (fun t=>by rw [← htmps];exact AV.rel_mono hkv _ _ (haw.tm t))
  let Hd : Nat → Prop:=fun b=>b = L ∨ ∃ d ∈ aL.defers,d.target = .collected b
  have hHd : ∀ b,Hd b → b < wv.heap.size ∧ ¬ C.bor b ∧ ¬ pv.R b ∧ ¬ R b ∧ ∀ k,pv.β k ≠ some b:=fun b hb=>by
   rcases hb with rfl | ⟨d,hd,hdt⟩
   · exact ⟨hltv,fun hb=>by have:=hS.ex.bo b (.inl hb);omega,hLRv,hRL,hLβv⟩
   · obtain ⟨Ds,g1,_,g3⟩:=hSv.ex.df
     rw [g1] at hd
     obtain ⟨D,hD,rfl⟩:=List.mem_map.1 hd
     injection hdt with hdt
     subst hdt
     obtain ⟨k1,k2,k3,k4,k5,k6⟩:=g3 D hD
     refine ⟨(Array.getElem?_eq_some_iff.1 k1).1,fun hb=>by have:=hS.ex.bo D (.inl hb);omega,k3,fun hr=>?_,k4⟩
     have hD1 : D < w1.heap.size:=by
      obtain ⟨Ds',q1,_,q3⟩:=hS1.ex.df
      have : Ds' = Ds:=marks_inj (q1.symm.trans g1)
      subst this
      exact (Array.getElem?_eq_some_iff.1 (q3 D hD).1).1
     rcases (hR D hr).2.2 with q | q
     · obtain ⟨Ds',q1,_,q3⟩:=hS1.ex.df
       have : Ds' = Ds:=marks_inj (q1.symm.trans g1)
       subst this
       exact (q3 D hD).2.2.1 q
     · have q' : w1.heap.size ≤ D:=q
       omega
  have hSa:=hSv.into (L:=L) (w2:=wv) (R:=R) (rd:=some L) (Hd:=Hd) (a':={ tmps:=(ps.zip vs).foldl (fun tmps (x : Nat × Value)=>tmps.setIfInBounds x.1 x.2) a.tmps,defers:=[] }) (tm':=psA ps.toList e (look (ts.zip avs)))
   hn rfl rfl rfl rfl (fun _ _=>rfl) hLRv hLβv hRβ (fun t=>by rw [hzip];exact hprel t) (by rw [hzip,hpsz,← htmps];exact hsnv.symm) rfl hHd hC
  have hna:=hsnv.trans hsn.symm
  refine roundIn_of_wpIn trivial ?_
  have hassign:=hround (Cin C pv R wv (some L) Hd) _ _ ⟨_,hna ▸ hSa⟩
  refine wpIn_mono hassign ?_
  rintro x a1 wa ⟨s1,⟨p1,hS1a⟩,rfl,hbody⟩
  have hLa : wa.heap[L]? = some (.loop (rec .ready none)):=(hS1a.base.block L hltv (fun ⟨hb,_⟩=>(hHd L (.inl rfl)).2.1 hb) (fun ⟨k,hk,_⟩=>hLβv k hk)).trans hLv
  have hlta : L < wa.heap.size:=(Array.getElem?_eq_some_iff.1 hLa).1
  refine ⟨_,run_beginRound hLa (by rw [hrec]),?_⟩
  have hop1:=Hop.of (L:=L) (w:=wv) (w2:=wv) rfl rfl rfl rfl (fun _ _=>rfl) hS1a
  have hHd1 : ∀ b,Hd b → b < wa.heap.size ∧ ¬ (Cin C pv R wv (some L) Hd).bor b ∧ ¬ p1.R b ∧ ¬ False ∧ ∀ k,p1.β k ≠ some b:=fun b hb=>by
   obtain ⟨_,q2,_,q4,q5,_,_,q8⟩:=hS1a.ex.hd b hb
   exact ⟨q4,q2,q5,fun h=>h,q8⟩
  have hS1b:=hS1a.into (L:=L) (w2:=wa.putObj L (.loop { rec .ready none with state:=.busy })) (R:=fun _=>False) (rd:=some L) (Hd:=Hd) (a':=a1) (tm':=s1.tm) hn rfl rfl rfl World.putObj_size putObj_other
   (hHd1 L (.inl rfl)).2.2.1 (hHd1 L (.inl rfl)).2.2.2.2 (fun _ h=>h.elim) (fun t=>by
    have hk1 : Kept wa (wa.putObj L (.loop { rec .ready none with state:=.busy })) p1 { p1 with R:=fun b=>p1.R b ∨ False } s1.ver s1.ver :=
     ⟨fun _ h=>.inl h,fun ad hr=>World.cell?_of_block (putObj_other _ fun e=>(hHd1 L (.inl rfl)).2.2.1 (e ▸ hr)),fun _=>Nat.le_refl _,fun _ _=>⟨rfl,rfl⟩⟩
    exact AV.rel_mono hk1 _ _ (hS1a.tm t)) hS1a.sz (hS1a.ex.rm rfl) hHd1 hC
  refine wpIn_mono (hbody _ _ _ ⟨_,hS1b⟩) ?_
  have hLb : (wa.putObj L (.loop { rec .ready none with state:=.busy })).heap[L]? = some (.loop { rec .ready none with state:=.busy }):=World.putObj_heap_same hlta
  have hRo : ∀ b,R b → b < wv.heap.size ∧ (∀ d ∈ aL.defers,d.target ≠ .collected b) ∧ ¬ C.hd b ∧ (C.R0 b ∨ C.w0.heap.size ≤ b ∨ C.own b):=fun b hb=>by
   have hsz0:=hS.base.size
   refine ⟨(hR b hb).1,fun d hd hdt=>(hHd b (.inr ⟨d,hd,hdt⟩)).2.2.2.1 hb,fun hh=>?_,?_⟩
   · obtain ⟨q1,_,_,_,q5,_⟩:=hS.ex.hd b hh
     rcases (hR b hb).2.2 with q | q
     · exact q5 q
     · have q' : w1.heap.size ≤ b:=q;omega
   · rcases (hR b hb).2.2 with q | q
     · exact hS.rn b q
     · have q' : w1.heap.size ≤ b:=q;exact .inr (.inl (by omega))
  have fin : ∀ (jump : Option Code) (s3 : AS) (p3 : Plan) (a3 : Act) (w3 : World),SR (Cin (Cin C pv R wv (some L) Hd) p1 (fun _=>False) (wa.putObj L (.loop { rec .ready none with state:=.busy })) (some L) Hd) p3 s3 a3 w3 →
   (match jump with | none=>∃ s4,Sub s3 s4 ∧ I rest us ⟨s.n,look [],s4.rows⟩ | some c=>∃ s4,Sub s3 s4 ∧ J c us ⟨s.n,look [],s4.rows⟩) →
   ∃ v w', (Instr.endRound L jump).run P w3 = .ok v w' ∧ (w'.os = wv.os ∧ w'.tape = wv.tape ∧ w'.output = wv.output ∧ wv.heap.size ≤ w'.heap.size ∧ (∀ b, b < wv.heap.size → ¬ Θ b → w'.heap[b]? = wv.heap[b]?) ∧
     ∃ Ψ' Θ' : Nat → Prop,(∀ b,Ψ' b → Ψ b ∨ R b ∨ wv.heap.size ≤ b) ∧ (∀ b,Θ' b → Θ b ∨ wv.heap.size ≤ b) ∧ (∀ b,Ψ' b → b < w'.heap.size) ∧ (∀ b,Θ' b → b < w'.heap.size) ∧
     ((Ending.returned v = .returned (.bool true) ∧ X.X (some rest) w' Ψ' Θ') ∨ (Ending.returned v = .returned (.bool false) ∧ X.X Option.none w' Ψ' Θ'))):=by
   intro jump s30 p30 a3 w3 h30 hj0
   obtain ⟨s3,hsub,hj⟩ : ∃ s4,Sub s30 s4 ∧ (match jump with | none=>I rest us ⟨s.n,look [],s4.rows⟩ | some c=>J c us ⟨s.n,look [],s4.rows⟩):=by
    cases jump with
    | none=>exact hj0
    | some c=>exact hj0
   obtain ⟨p3,h3⟩:=hsub _ _ _ ⟨p30,h30⟩
   have hL3 : w3.heap[L]? = some (.loop { rec .ready none with state:=.busy }):=by
    refine (h3.base.block L (by show L < (wa.putObj L _).heap.size;rw [World.putObj_size];exact hlta) (fun ⟨hb,_⟩=>(hHd1 L (.inl rfl)).2.1 hb) (fun ⟨k,hk,_⟩=>(hHd1 L (.inl rfl)).2.2.2.2 k hk)).trans hLb
   obtain ⟨_,_,_,_,e5,_,_,e8⟩:=h3.ex.hd L (.inl rfl)
   have hend:=run_endRound (P:=P) jump hL3
   have hlt3 : L < w3.heap.size:=(Array.getElem?_eq_some_iff.1 hL3).1
   have hop2:=Hop.of (C:=Cin C pv R wv (some L) Hd) (p:=p1) (L:=L) (w:=wa) (w2:=wa.putObj L (.loop { rec .ready none with state:=.busy })) (R:=fun _=>False) rfl rfl rfl World.putObj_size putObj_other h3
   obtain ⟨o4,ho4⟩ : ∃ o4,o4 = Obj.loop { { rec .ready none with state:=.busy } with state:=if jump.isNone then .ready else .done,pending:=jump }:=⟨_,rfl⟩
   rw [← ho4] at hend
   have hop:=(Hop.trans (C':=Cin C pv R wv (some L) Hd) hop1 (fun _=>Iff.rfl) hop2).put (o:=o4)
   have hL4 : (w3.putObj L o4).heap[L]? = some (.loop (rec (if jump.isNone then .ready else .done) jump)):=by
    rw [World.putObj_heap_same hlt3,ho4,hrec]
   have hS4 : SR C p3 ⟨s.n,look [],s3.rows⟩ aL (w3.putObj L o4):=by
    have:=hSv.land (C':=Cin (Cin C pv R wv (some L) Hd) p1 (fun _=>False) (wa.putObj L (.loop { rec .ready none with state:=.busy })) (some L) Hd) hn hL0 hLm hop hRo rfl rfl h3 e5 e8 rfl rfl rfl World.putObj_size putObj_other
    rw [hna,← look_nil'] at this
    exact this
   have hψ4:=hS4.ex.ψn hn
   refine ⟨_,_,hend,hop.os,hop.tape,hop.output,hop.size,fun b hb hθ=>hop.heap b hb (fun k hk=>hθ ((hΘv b).2 (.inl ⟨k,hk⟩))) (fun e=>hθ ((hΘv b).2 (.inr e))),
    fun b=>p3.R b ∨ (∃ k,p3.β k = some b) ∨ (b < C.w0.heap.size ∧ ¬ C.bor b ∧ ¬ C.own b) ∨ b = L ∨ C.hd b ∨ ∃ d ∈ aL.defers,d.target = .collected b,fun b=>(∃ k,p3.β k = some b) ∨ b = L,fun b hb=>?_,fun b hb=>?_,fun b hb=>?_,fun b hb=>?_,?_⟩
   · rcases hb with g | ⟨k,g⟩ | g | g | g | g
     · rcases hop.rn b g with q | q | q | ⟨k,q,_⟩
       · exact .inl ((hΨv b).2 (.inl q))
       · exact .inr (.inl q)
       · exact .inr (.inr q)
       · exact .inl ((hΨv b).2 (.inr (.inl ⟨k,q⟩)))
     · rcases hop.bl k b g with q | ⟨_,_,k',_,q⟩ | ⟨k',q,_⟩
       · exact .inr (.inr q)
       · exact .inl ((hΨv b).2 (.inr (.inl ⟨k',q⟩)))
       · exact .inl ((hΨv b).2 (.inr (.inl ⟨k',q⟩)))
     · exact .inl ((hΨv b).2 (.inr (.inr (.inl g))))
     · exact .inl ((hΨv b).2 (.inr (.inr (.inr (.inl g)))))
     · exact .inl ((hΨv b).2 (.inr (.inr (.inr (.inr (.inl g))))))
     · exact .inl ((hΨv b).2 (.inr (.inr (.inr (.inr (.inr g))))))
   · rcases hb with ⟨k,g⟩ | g
     · rcases hop.bl k b g with q | ⟨_,_,k',_,q⟩ | ⟨k',q,_⟩
       · exact .inr q
       · exact .inl ((hΘv b).2 (.inl ⟨k',q⟩))
       · exact .inl ((hΘv b).2 (.inl ⟨k',q⟩))
     · exact .inl ((hΘv b).2 (.inr g))
   · have hsz4:=hS4.base.size
     rcases hb with g | ⟨k,g⟩ | g | rfl | g | ⟨d,hd,hdt⟩
     · exact hS4.rb b g
     · exact (hS4.bl k b g).1
     · omega
     · rw [World.putObj_size];exact hlt3
     · exact (hS4.ex.hd b g).2.2.2.1
     · exact Nat.lt_of_lt_of_le (hHd b (.inr ⟨d,hd,hdt⟩)).1 hop.size
   · rcases hb with ⟨k,g⟩ | rfl
     · exact (hS4.bl k b g).1
     · rw [World.putObj_size];exact hlt3
   · cases jump with
     | none=>exact .inl ⟨rfl,p3,_,hS4,hsn,⟨hj,hL4⟩,e5,e8,fun _=>Iff.rfl,fun _=>Iff.rfl⟩
     | some c=>exact .inr ⟨rfl,p3,_,hS4,hsn,⟨c,hj,hL4⟩,e5,e8,fun _=>Iff.rfl,fun _=>Iff.rfl⟩
  rintro en a3 w3 ⟨s3,⟨p3,h3⟩,hq⟩
  cases en with
  | normal=>exact fin none s3 p3 a3 w3 h3 hq
  | ret=>exact fin (some .ret) s3 p3 a3 w3 h3 hq
  | exit id=>exact fin (some (.exit id)) s3 p3 a3 w3 h3 hq
  | goto l=>exact fin (some (.goto l)) s3 p3 a3 w3 h3 hq
  | panic ch=>exact hq.elim
  | outgrown=>exact hq.elim
 have hX0 : X.X (some xs) w1 (fun b=>p.R b ∨ (∃ k,p.β k = some b) ∨ (b < C.w0.heap.size ∧ ¬ C.bor b ∧ ¬ C.own b) ∨ b = L ∨ C.hd b ∨ ∃ d ∈ aL.defers,d.target = .collected b) (fun b=>(∃ k,p.β k = some b) ∨ b = L) :=
  ⟨p,_,hS2,hsn,⟨h0 us,hL1⟩,hLR,hLβ,fun _=>Iff.rfl,fun _=>Iff.rfl⟩
 have hlt1 : L < w1.heap.size:=(Array.getElem?_eq_some_iff.1 hL1).1
 have hcall:=hI.2 w1 p.R vsC X _ _ hS1.rb hcap rfl (fun hz b hb=>hb) (Nat.le_refl _) hY (fun b hb=>by
  have hszw:=hS1.base.size
  rcases hb with g | ⟨k,g⟩ | g | rfl | g | ⟨d,hd,hdt⟩
  · exact hS1.rb b g
  · exact (hS1.bl k b g).1
  · omega
  · exact hlt1
  · exact (hS1.ex.hd b g).2.2.2.1
  · obtain ⟨Ds,g1,_,g3⟩:=hS1.ex.df
    rw [g1] at hd
    obtain ⟨D,hD,rfl⟩:=List.mem_map.1 hd
    injection hdt with hdt
    subst hdt
    exact (Array.getElem?_eq_some_iff.1 (g3 D hD).1).1) (fun b hb=>by
  rcases hb with ⟨k,g⟩ | rfl
  · exact (hS1.bl k b g).1
  · exact hlt1) (fun b hb hθ=>by
  rcases hθ with ⟨k,g⟩ | rfl
  · exact (hS1.bl k b g).2.1 hb
  · exact hLR hb) hX0
 have e1 : (Instr.enterLoop fn a.tmps ps assign body none).run P w = .ok (L,[{ target:=.collected w.heap.size,args:=#[] }]) w1:=by
  rw [run_enterLoop_outer,← hw1,hrec,hLdef]
 have e2 : (resolve a.eval (rangeCall g L) 0).run P w1 = .ok { target:=.fn (.func F) #[],args:=vsC ++ #[.func (.yield L) #[] #[]] } w1:=by
  simp only [resolve,hgv,Sem.run_bind,Deferred.ofValue,Sem.run_pure,Result.andThen_ok]
  simp [Act.eval]
 have e3 : (invoke (.fn (.func F) #[]) (vsC ++ #[.func (.yield L) #[] #[]])).run P w1 = .ok (.enter F (vsC ++ #[.func (.yield L) #[] #[]])) w1:=by
  simp only [invoke]
  have:=run_callFunc hI.1 (vsC ++ #[.func (.yield L) #[] #[]] ++ #[]) w1
  simpa using this
 have e4 : Fence.wide.depth.isSome = true → 1 ≤ 0:=fun h=>by simp [Fence.wide] at h
 refine ⟨L,_,w1,_,w1,F,_,w1,e1,e2,?_,e3,e4,?_⟩
 · intro f' _;exact trivial
 · refine callsIn_wide.2 (hcall.mono ?_)
   have haL' : ({ a with defers:=[{ target:=.collected w.heap.size,args:=#[] }] ++ a.defers } : Act) = aL:=by rw [haL];rfl
   rintro e w' ⟨⟨v,rfl⟩,Ψ',Θ',hX | hX⟩
   · obtain ⟨p',s',hS',hsn',⟨hI',hL'⟩,hLR',hLβ',_⟩:=hX
     have hend:=run_endLoop (P:=P) hL' (by rw [hrec];simp)
     have hp : (rec .ready none).pending = none:=by rw [hrec]
     rw [hp] at hend
     refine ⟨none,_,hend,?_⟩
     obtain ⟨avs,hrow,hQ⟩:=done us s' (hsn'.trans hsn.symm) hI'
     have hS4 : ∀ o,SR C p' ⟨s.n,look (ts.zip avs),s'.rows⟩ aL (w'.putObj L o):=fun o=>by
      have:=(hS'.turn (o:=o) hLR' hLβ' hL0 (hS'.ex.ψn hn) hLm).awake (by rw [hrow,hus])
      rw [hsn'.trans hsn.symm] at this
      exact this
     rw [haL']
     exact ⟨_,⟨_,hS4 _⟩,hQ⟩
   · obtain ⟨p',s',hS',hsn',⟨c,hJ',hL'⟩,hLR',hLβ',_⟩:=hX
     have hend:=run_endLoop (P:=P) hL' (by rw [hrec];simp)
     have hp : (rec .done (some c)).pending = some c:=by rw [hrec]
     rw [hp] at hend
     refine ⟨some c,_,hend,?_⟩
     obtain ⟨avs,hrow,hQ⟩:=stop c us s' (hsn'.trans hsn.symm) hJ'
     have hS4 : ∀ o,SR C p' ⟨s.n,look (ts.zip avs),s'.rows⟩ aL (w'.putObj L o):=fun o=>by
      have:=(hS'.turn (o:=o) hLR' hLβ' hL0 (hS'.ex.ψn hn) hLm).awake (by rw [hrow,hus])
      rw [hsn'.trans hsn.symm] at this
      exact this
     have hQ':=fun o=>hQ _ _ ⟨_,hS4 o⟩
     rw [hF0] at hQ'
     rw [haL']
     exact hQ' _
end
theorem awp_rangeFB {P : Program} {C : Ctx} {n : Nat} {s : AS} {t : Nat} {ps : Array Tmp} {assign body : Code} {Q : Exit → AS → Prop} (hC : C.rd = none ∧ C.X = XS.none) {f : FuncId} {caps : List RV} {z : Bool} (xs : List (List RV)) (hI : IBCalls P z f caps xs)
 (ts : List Nat) (hnd : ts.Nodup) (F : (Nat → Nat) → List (Nat × AV)) (R : Nat → (Nat → Nat) → List (Nat × RowC)) (I : Nat → Prop) (h0 : FitV n F (R 0) s) (hi0 : I 0)
 (hts : ∀ vs,(F vs).map (·.1) = ts) (hg : ∀ vs,look (F vs) t = .r (.bf f caps)) (hd : ∀ i vs,lookc (R i vs) 0 = .dead) (hps : ∀ t ∈ ps.toList,t < n) (hlen : ∀ e ∈ xs,e.length = ps.size)
 (round : ∀ i e vs us C,xs[i]? = some e → I i → awp P C assign (fun x s2=>x = .normal ∧ ∀ C,awp P C body (rfpost n ts Q (fun s3=>I (i + 1) ∧ ∃ vs',Sub s3 (st n [] vs' ((0,.sus ((F vs').map (·.2)) us) :: R (i + 1) vs'))) us) s2)
  (st n (psL ps.toList e (F vs)) vs ((0,.sus ((F vs).map (·.2)) us) :: R i vs)))
 (done : ∀ vs us,I xs.length → Q .normal (st n (F vs) vs ((0,.sus ((F vs).map (·.2)) us) :: R xs.length vs))) : awp P C (.rangeFunc (.tmp t) ps assign body) Q s:=by
 obtain ⟨vs0,h0⟩:=h0
 refine zw h0 ?_
 have hdrop : ∀ i e rest,xs.drop i = e :: rest → xs[i]? = some e ∧ xs.drop (i + 1) = rest:=fun i e rest h=>by
  refine ⟨?_,by rw [← List.drop_drop,h];rfl⟩
  have : (xs.drop i)[0]? = some e:=by rw [h];rfl
  simpa using this
 have hz : ∀ vs,ts.zip ((F vs).map (·.2)) = F vs:=fun vs=>by rw [← hts vs];exact zip_keys _
 refine awp_rangeFuncB hC.1 hC.2 (F:=f) (args:=caps) (xs:=xs) (z:=z) (by
  show look (F vs0) t = _
  rw [hg]) hI (hd 0 vs0) ts hps
  (fun left us s'=>∃ i vs,left = xs.drop i ∧ i ≤ xs.length ∧ I i ∧ s' = st n [] vs ((0,.sus ((F vs).map (·.2)) us) :: R i vs))
  (fun c us s'=>∃ avs,(s'.rows 0).c = .sus avs us ∧ ((c = .ret ∧ Q .ret ⟨n,look (ts.zip avs),s'.rows⟩) ∨ ∃ id,c = .exit id ∧ Q (.exit id) ⟨n,look (ts.zip avs),s'.rows⟩))
  (fun us=>⟨0,vs0,rfl,Nat.zero_le _,hi0,?_⟩) ?_ ?_ ?_
 · refine (upd_rows_st (c:=.sus (ts.map (st n (F vs0) vs0 (R 0 vs0)).tm) us)).trans ?_
   congr 3
   have hk : (F vs0).map (·.2) = ts.map (look (F vs0)):=by
    have:=look_keys (F vs0) (by rw [hts vs0];exact hnd)
    rw [hts vs0] at this
    exact this
   rw [hk];rfl
 · rintro e rest us s' _ ⟨i,vs,hl,hle,hI',rfl⟩
   obtain ⟨h1,h2⟩:=hdrop i e rest hl.symm
   refine ⟨hlen e (List.mem_of_getElem? h1),(F vs).map (·.2),rfl,fun C'=>?_⟩
   have hr:=round i e vs us C' h1 hI'
   rw [hz,psA_look]
   refine awp_mono ?_ hr
   rintro x s2 ⟨hx,hbody⟩
   refine ⟨hx,fun C''=>awp_mono ?_ (hbody C'')⟩
   intro x s3 hq
   cases x with
   | normal =>
     obtain ⟨hI3,vs',hsub⟩:=hq
     refine ⟨_,hsub,i + 1,vs',h2.symm,?_,hI3,rfl⟩
     have:=(List.getElem?_eq_some_iff.1 h1).1
     omega
   | ret =>
     obtain ⟨avs,h3,h4⟩:=hq
     exact ⟨s3,Sub.refl _,avs,h3,.inl ⟨rfl,h4⟩⟩
   | exit id =>
     obtain ⟨avs,h3,h4⟩:=hq
     exact ⟨s3,Sub.refl _,avs,h3,.inr ⟨id,rfl,h4⟩⟩
   | goto l=>exact hq.elim
   | panic c=>exact hq.elim
   | outgrown=>exact hq.elim
 · rintro us s' _ ⟨i,vs,hl,hle,hI',rfl⟩
   have hi : i = xs.length:=by
    have : (xs.drop i).length = 0:=by rw [← hl];rfl
    rw [List.length_drop] at this;omega
   subst hi
   refine ⟨(F vs).map (·.2),rfl,?_⟩
   have:=done vs us hI'
   rw [hz]
   exact this
 · rintro c us s' _ ⟨avs,h3,h4⟩
   refine ⟨avs,h3,?_⟩
   rcases h4 with ⟨rfl,h4⟩ | ⟨id,rfl,h4⟩
   · exact ze h4
   · exact zf h4
theorem gop_method {P : Program} {s : AS} {o : Oper} {F : FuncId} {x : Operand} {K : AS → Prop} (ho : o.op = .makeFunc (.func F) #[x] #[]) {v : RV} (hx : s.ev x = .r v) (hK : K (s.put o.dst (.r (.bf F [v])))) : gop P o K s:=by
 intro C p a w h hd hnd KW Q hKW
 have hv : v.rel w p.R (a.eval x):=by
  have:=h.ev x
  rw [hx] at this
  simpa only [AV.rel] using this
 have hr : (execOp a.eval o).run P w = .ok (.value (.func (.func F) #[a.eval x] #[])) w:=by
  simp [execOp,ho,Instr.makeFunc]
 refine wpIn_of_wp hnd ?_
 unfold Oper.wp
 rw [hr]
 have hput:=h.put' (d:=o.dst) (av:=.r (.bf F [v])) (v:=.func (.func F) #[a.eval x] #[]) (by simp only [AV.rel,RV.rel,RV.relV];exact ⟨_,rfl,_,_,rfl,hv,rfl⟩) hd
 exact hKW _ _ p _ hput (app_n' _ _ _) hK
end Go.Oc

namespace Go.Oc
open Go Go.RowKit
def PeekI (u : Addr) (pk : List (Nat × Int)) (w : World) : Prop:=∀ x ∈ pk,w.cell? (u.add x.1) = some (.int .i64 x.2)
theorem avs_mem {w : World} {p : Plan} {ver : Nat → Nat} : ∀ {avs : List AV} {us : List Value},AV.relV w p ver avs us → ∀ x ∈ avs,∃ v,AV.rel w p ver x v
 | [],_,_=>fun x hx=>by cases hx
 | y :: avs, us, h => fun x hx => by
   simp only [AV.relV] at h
   obtain ⟨v,us',_,h1,h2⟩:=h
   rcases List.mem_cons.1 hx with rfl | hx
   · exact ⟨v,h1⟩
   · exact avs_mem h2 x hx
theorem avs_get {w : World} {p : Plan} {ver : Nat → Nat} : ∀ {avs : List AV} {us : List Value} {i : Nat} {x : AV},AV.relV w p ver avs us → avs[i]? = some x → ∃ v,us[i]? = some v ∧ AV.rel w p ver x v
 | [],_,i,x,_,h=>by simp at h
 | y :: avs, us, 0, x, hr, h => by
   simp only [AV.relV] at hr
   obtain ⟨v,us',rfl,h1,_⟩:=hr
   simp at h
   subst h
   exact ⟨v,rfl,h1⟩
 | y :: avs, us, i + 1, x, hr, h => by
   simp only [AV.relV] at hr
   obtain ⟨v,us',rfl,_,h2⟩:=hr
   simpa using avs_get h2 (by simpa using h)
theorem peek_of {C : Ctx} {p : Plan} {n : Nat} {vs : Nat → Nat} {cs : List (Nat × RowC)} {a : Act} {w : World} {avs : List AV} {us : List Value} {k : Nat} {u : Addr} {pk : List (Nat × Int)} {c : List AV} (h : SR C p (st n [] vs ((0,.sus avs us) :: cs)) a w)
 (hc : lookc ((0,RowC.sus avs us) :: cs) k = .box c) (hpk : ∀ x ∈ pk,c[x.1]? = some (.r (.it .i64 x.2))) (hu : AV.pu k (vs k) u ∈ avs) : PeekI u pk w:=fun x hx=>by
 have h0:=h.rw 0
 have e0 : ((st n [] vs ((0,RowC.sus avs us) :: cs)).rows 0).c = .sus avs us:=by show lookc ((0,RowC.sus avs us) :: cs) 0 = _;rw [zlc,if_pos rfl]
 rw [e0] at h0
 simp only [zrl] at h0
 obtain ⟨v,hv⟩:=avs_mem h0.2.2 _ hu
 simp only [AV.rel] at hv
 obtain ⟨b,hb,hbv⟩:=hv.2.2 rfl
 have hub : u = ⟨b,0,none⟩:=by
  have:=hv.1.symm.trans hbv
  injection this with this
  injection this
 have hr:=h.rw k
 have e1 : ((st n [] vs ((0,RowC.sus avs us) :: cs)).rows k).c = .box c:=hc
 rw [e1] at hr
 simp only [zrl] at hr
 obtain ⟨b',cells,ty,hβ,hheap,hcells,_⟩:=hr
 rw [hb] at hβ
 injection hβ with hβ
 subst hβ
 obtain ⟨v',hv',hrel⟩:=avs_get hcells (hpk x hx)
 simp only [AV.rel,RV.rel] at hrel
 subst hub
 subst hrel
 rw [add_at]
 simpa [World.cell?,hheap] using hv'
def HBCalls (P : Program) (u : Addr) (pk : List (Nat × Int)) (z : Bool) (F : FuncId) (caps : List RV) (xs : List (List RV)) : Prop :=
 callable P F = true ∧ ∀ (w : World) (R : Nat → Prop) (vs : Array Value) (X : XS) (Ψ Θ : Nat → Prop),(∀ b,R b → b < w.heap.size) → RV.relV w R caps vs.toList → X.z = z → (z = false → ∀ b,R b → X.R b) → X.n0 ≤ w.heap.size → YOk P X →
  (∀ b,Ψ b → b < w.heap.size) → (∀ b,Θ b → b < w.heap.size) → (∀ b,R b → ¬ Θ b) → (∀ o w Ψ Θ,X.X (some o) w Ψ Θ → PeekI u pk w) → X.X (some xs) w Ψ Θ →
  Calls P F (vs ++ #[.func (.yield X.l) #[] #[]]) w fun e w'=>(∃ v,e = .returned v) ∧ (∃ Ψ' Θ',X.X (some []) w' Ψ' Θ' ∨ X.X none w' Ψ' Θ')
theorem hbcalls_st {P : Program} {u : Addr} {pk : List (Nat × Int)} {z : Bool} {f : FuncId} {fn : Func} {c : Code} {n : Nat} {caps : List RV} {xs : List (List RV)} (hf : P.funcs[f]? = some fn) (hb : fn.body = some c) (hc : callable P f = true) (hn : fn.ntmps = n) (hres : fn.results.toList = [])
 (hargs : caps.length + 1 ≤ n) (h : ∀ C l,(∀ o w Ψ Θ,C.X.X (some o) w Ψ Θ → PeekI u pk w) → awp P C c (ipost P) (st n (argL 0 (caps ++ [.yl l])) (fun _=>0) [(999,.gh P l z (some xs))])) : HBCalls P u pk z f caps xs:=by
 refine ⟨hc,fun w R vs0 X Ψ Θ hR hV0 hz hzR hn0 hY hΨ hΘ hRΘ hPk hX=>?_⟩
 have hV : RV.relV w R (caps ++ [.yl X.l]) (vs0 ++ #[Value.func (.yield X.l) #[] #[]]).toList:=by
  rw [Array.toList_append]
  refine RV.relV_append hV0 ?_
  simp only [RV.relV];exact ⟨Value.func (.yield X.l) #[] #[],[],by simp,by simp only [RV.rel],rfl⟩
 generalize vs0 ++ #[Value.func (.yield X.l) #[] #[]] = vs at hV
 have hlen:=RV.relV_length hV
 simp only [Array.length_toList,List.length_append,List.length_cons,List.length_nil] at hlen
 let C : Ctx:={ w0:=w,R0:=R,bor:=Θ,pin:=fun _=>none,X:=X }
 let p : Plan:={ R:=R,β:=fun _=>none,γ:=fun _=>1,X:=X,Ψ:=Ψ,Θ:=Θ }
 have hs : SR C p (st n (argL 0 (caps ++ [.yl X.l])) (fun _=>0) [(999,.gh P X.l z (some xs))]) { tmps:=vs ++ Array.replicate (fn.ntmps - vs.size) undef,defers:=[] } w:={
  base:=⟨rfl,rfl,rfl,Nat.le_refl _,fun _ _ _ _=>rfl⟩
  r0:=fun _ h=>h
  rn:=fun _ h=>.inl h
  rb:=hR
  tm:=fun t=>by
   show (look (argL 0 (caps ++ [.yl X.l])) t).rel _ _ _ _
   by_cases hmem : ∃ x,(t,x) ∈ argL 0 (caps ++ [RV.yl X.l])
   · cases e : (caps ++ [RV.yl X.l])[t]? with
     | none =>
       obtain ⟨x,hx⟩:=hmem
       obtain ⟨i,y,h1,h2⟩:=argL_mem _ hx
       simp only [Nat.zero_add,Prod.mk.injEq] at h1
       rw [← h1.1,e] at h2;cases h2
     | some x =>
       obtain ⟨u,hu,hx⟩:=RV.relV_get hV e
       have : (vs ++ Array.replicate (fn.ntmps - vs.size) undef).getD t undef = u:=by
        have ht : t < vs.size:=by have:=(List.getElem?_eq_some_iff.1 hu).1;simpa using this
        rw [Array.getD_eq_getD_getElem?,Array.getElem?_append_left ht]
        simp only [Array.getElem?_toList] at hu
        rw [hu];rfl
       have e2:=argL_look (k:=0) e
       rw [Nat.zero_add] at e2
       rw [this,e2]
       simpa only [AV.rel] using hx
   · rw [look_none hmem]
     exact AV.rel_un _ _ _ _
  sz:=by simp only [Array.size_append,Array.size_replicate,st];omega
  ex:={
   px:=rfl
   n0:=hn0
   ψ0:=fun hz' b hb=>hzR (hz ▸ hz') b hb
   ψl:=hΨ
   θl:=hΘ
   ψb:=fun k b h=>by cases h
   ψr:=hRΘ
   ψo:=fun b h=>h.elim
   θo:=fun b h _=>h
   bo:=fun b h=>h.elim (hΘ b) (fun h=>h.elim)
   ψn:=fun hn=>(hn _ _ _ _ hX).elim
   hd:=fun b h=>h.elim
   rm:=fun _=>rfl
   df:=⟨[],rfl,List.nodup_nil,fun D hD=>by cases hD⟩ }
  rw:=fun k=>by
   show zrl w p _ k (lookc [(999,RowC.gh P X.l z (some xs))] k)
   rw [zlc,lookc_nil]
   split
   · rename_i e
     simp only [zrl];exact ⟨e,rfl,rfl,rfl,hz,hY,hX⟩
   · simp only [zrl];exact ⟨rfl,rfl⟩
  bl:=fun k b h=>by simp [p] at h
  ij:=fun k k' b h=>by simp [p] at h
  cap:=fun k=>by simp [p,maxLen]
  pn:=fun k x h=>by cases h
  lk:=fun j km n l cur h _=>by
   have h' : lookc [(999,RowC.gh P X.l z (some xs))] j = .mi km n l cur:=h
   rw [zlc,lookc_nil] at h'
   split at h' <;> cases h' }
 refine callsIn_wide.1 (callsIn_of_wp_marks (n:=0) hf hb trivial (wpIn_mono (h C X.l hPk _ w ⟨p,hs⟩) ?_))
 rintro e a' w' ⟨s',⟨p',hs'⟩,hq⟩
 have fin : ∀ (a' : Act) (w' : World),SR C p' s' a' w' → (∃ l z,(s'.rows 999).c = .gh P l z (some []) ∨ (s'.rows 999).c = .gh P l z none) →
  ∃ v,(results fn a'.tmps).run P w' = .ok v w' ∧ ((∃ v',Ending.returned v = .returned v') ∧ ∃ Ψ' Θ',X.X (some []) w' Ψ' Θ' ∨ X.X none w' Ψ' Θ'):=fun a' w' hs' ⟨l,z',hq⟩=>by
  have hm : (fn.results.mapM (resOp a'.tmps)).run P w' = .ok #[] w':=by
   rw [Array.mapM_eq_mapM_toList,hres]
   simp only [Sem.run_map,List.mapM_nil,Sem.run_pure,Result.andThen_ok]
  refine ⟨.tuple #[],by rw [results_eq,Sem.run_bind,hm];simp,⟨_,rfl⟩,p'.Ψ,p'.Θ,?_⟩
  have hpx : p'.X = X:=hs'.ex.px
  have hr:=hs'.rw 999
  rcases hq with hq | hq
  · rw [hq] at hr
    simp only [zrl] at hr
    rw [hpx] at hr
    exact .inl hr.2.2.2.2.2.2
  · rw [hq] at hr
    simp only [zrl] at hr
    rw [hpx] at hr
    exact .inr hr.2.2.2.2.2.2
 cases e with
 | normal=>exact hs'.leave fun a'' w'' _ hs''=>fin a'' w'' hs'' hq
 | ret=>exact hs'.leave fun a'' w'' _ hs''=>fin a'' w'' hs'' hq
 | _=>exact hq.elim
section
variable {P : Program} {C : Ctx} {p : Plan} {s : AS} {a : Act} {w : World}
set_option maxHeartbeats 400000 in
theorem awp_rangeFuncH {u : Addr} {pk : List (Nat × Int)} {g : Operand} {ps : Array Tmp} {assign body : Code} {Q : Exit → AS → Prop} (hrd : C.rd = none) (hC : C.X = XS.none) {F : FuncId} {args : List RV} {xs : List (List RV)} {z : Bool}
 (hF : s.ev g = .r (.bf F args)) (hI : HBCalls P u pk z F args xs) (hdead : (s.rows 0).c = .dead) (ts : List Nat) (hps : ∀ t ∈ ps.toList,t < s.n)
 (I : List (List RV) → List Value → AS → Prop) (J : Code → List Value → AS → Prop)
 (hpk : ∀ left us s',I left us s' → ∀ p' a' w',SR C p' s' a' w' → PeekI u pk w')
 (h0 : ∀ us,I xs us { n:=s.n,tm:=look [],rows:=upd s.rows 0 ⟨(s.rows 0).ver,.sus (ts.map s.tm) us⟩ })
 (round : ∀ e rest us s',s'.n = s.n → I (e :: rest) us s' → e.length = ps.size ∧ ∃ avs,(s'.rows 0).c = .sus avs us ∧ ∀ C,awp P C assign (fun x s2=>x = .normal ∧ ∀ C,awp P C body (rpost s.n I J rest us) s2) ⟨s.n,psA ps.toList e (look (ts.zip avs)),s'.rows⟩)
 (done : ∀ us s',s'.n = s.n → I [] us s' → ∃ avs,(s'.rows 0).c = .sus avs us ∧ Q .normal ⟨s.n,look (ts.zip avs),s'.rows⟩)
 (stop : ∀ c us s',s'.n = s.n → J c us s' → ∃ avs,(s'.rows 0).c = .sus avs us ∧ awp P C c Q ⟨s.n,look (ts.zip avs),s'.rows⟩) : awp P C (.rangeFunc g ps assign body) Q s:=by
 rintro a w ⟨p,hS⟩
 have hn : ∀ o w Ψ Θ,¬ C.X.X o w Ψ Θ:=fun o w Ψ Θ h=>by rw [hC] at h;exact h
 have hF0 : fnc C.rd = Fence.wide:=by rw [hrd];rfl
 rw [hF0]
 refine wpIn_rangeFunc fun fn _=>?_
 obtain ⟨vsC,hgv,hcs⟩ : ∃ vs : Array Value,a.eval g = .func (.func F) vs #[] ∧ RV.relV w p.R args vs.toList:=by
  have:=hS.ev g
  rw [hF] at this
  simpa only [AV.rel,RV.rel] using this
 have hψ0:=hS.ex.ψn hn
 obtain ⟨rec,hrec⟩ : ∃ rec : LoopState → Option Code → Loop,rec = fun st pe=>{ state:=st,pending:=pe,fn,tmps:=a.tmps,params:=ps,assign,body,defers:=w.heap.size }:=⟨_,rfl⟩
 obtain ⟨w1,hw1⟩ : ∃ w1,(w.alloc (.deferred (some []))).alloc (.loop (rec .ready none)) = w1:=⟨_,rfl⟩
 obtain ⟨L,hLdef⟩ : ∃ L,L = w.heap.size + 1:=⟨_,rfl⟩
 obtain ⟨aL,haL⟩ : ∃ aL : Act,aL = { tmps:=a.tmps,defers:={ target:=.collected w.heap.size,args:=#[] } :: a.defers }:=⟨_,rfl⟩
 have hS1 : SR C p s aL w1:=by rw [haL,← hw1];exact hS.enter hrd _
 have hsz1 : w1.heap.size = w.heap.size + 2:=by rw [← hw1];simp
 have hL1 : w1.heap[L]? = some (.loop (rec .ready none)):=by
  rw [← hw1,hLdef];have:=World.alloc_heap_new (w.alloc (.deferred (some []))) (.loop (rec .ready none));rwa [World.size_alloc] at this
 have hLR : ¬ p.R L:=fun h=>by have:=hS.rb L h;omega
 have hLβ : ∀ k,p.β k ≠ some L:=fun k h=>by have:=(hS.bl k L h).1;omega
 have hL0 : C.w0.heap.size ≤ L:=by have:=hS.base.size;omega
 have hLm : ∀ d ∈ aL.defers,d.target ≠ .collected L:=fun d hd e=>by
  obtain ⟨Ds,g1,_,g3⟩:=hS1.ex.df
  rw [g1] at hd
  obtain ⟨D,hD,rfl⟩:=List.mem_map.1 hd
  injection e with e
  subst e
  have:=(g3 _ hD).1
  rw [hL1] at this;cases this
 obtain ⟨us,hus⟩ : ∃ us,us = ts.map fun t=>aL.tmps.getD t undef:=⟨_,rfl⟩
 have hS2:=hS1.wait hdead ts
 rw [← hus,← look_nil'] at hS2
 have htmps : aL.tmps = a.tmps:=by rw [haL]
 have hsn : s.n = aL.tmps.size:=by rw [htmps];exact hS.sz.symm
 let X : XS:={ l:=L,z:=z,n0:=w1.heap.size,R:=p.R,X:=XJ C aL L rec (fun left s'=>I left us s') (fun c s'=>J c us s'),st:=XJ.st hn }
 have hcap : RV.relV w1 p.R args vsC.toList:=RV.relV_mono (fun _ h=>h) (fun ad hr=>World.cell?_of_block (by rw [← hw1];exact (Below.heap_alloc _ _ _ (by have:=hS.rb _ hr;simp;omega)).trans (Below.heap_alloc _ _ _ (hS.rb _ hr)))) _ _ hcs
 have hY : YOk P X:=by
  intro e rest wv Ψ Θ R vs hX hR hV
  obtain ⟨pv,sv,hSv,hsnv,⟨hIv,hLv⟩,hLRv,hLβv,hΨv,hΘv⟩:=hX
  have hψv:=hSv.ex.ψn hn
  obtain ⟨hlen,avs,hrow,hround⟩:=round e rest us sv (hsnv.trans hsn.symm) hIv
  have hvs : vs.size = ps.size:=by have:=RV.relV_length hV;simp only [Array.length_toList] at this;omega
  have hltv : L < wv.heap.size:=(Array.getElem?_eq_some_iff.1 hLv).1
  have hy:=run_yield (P:=P) (args:=vs) hLv (by rw [hrec];exact hvs)
  rw [hrec] at hy
  refine ⟨fn,_,assign,body,hy,?_⟩
  have hRβ : ∀ b,R b → b < wv.heap.size ∧ ∀ k,pv.β k ≠ some b:=fun b hb=>⟨(hR b hb).1,fun k hk=>(hR b hb).2.1 ((hΘv b).2 (.inl ⟨k,hk⟩))⟩
  have hRL : ¬ R L:=fun hb=>(hR L hb).2.1 ((hΘv L).2 (.inr rfl))
  have hkv : Kept wv wv pv { pv with R:=fun b=>pv.R b ∨ R b } sv.ver sv.ver:=⟨fun _ h=>.inl h,fun _ _=>rfl,fun _=>Nat.le_refl _,fun _ _=>⟨rfl,rfl⟩⟩
  have haw:=hSv.awake (by rw [hrow,hus])
  have hzip : (ps.zip vs).foldl (fun tmps (x : Nat × Value)=>tmps.setIfInBounds x.1 x.2) a.tmps = (ps.toList.zip vs.toList).foldl (fun tmps (x : Nat × Value)=>tmps.setIfInBounds x.1 x.2) a.tmps:=by
   rw [← Array.foldl_toList,Array.toList_zip]
  obtain ⟨hpsz,hprel⟩:=psA_rel (w:=wv) (p:={ pv with R:=fun b=>pv.R b ∨ R b }) (ver:=sv.ver) ps.toList e vs.toList (look (ts.zip avs)) a.tmps (RV.relV_mono (fun _ h=>.inr h) (fun _ _=>rfl) _ _ hV)
   (fun t ht=>by rw [← htmps,← hsn];exact hps t ht) (fun t=>by rw [← htmps];exact AV.rel_mono hkv _ _ (haw.tm t))
  let Hd : Nat → Prop:=fun b=>b = L ∨ ∃ d ∈ aL.defers,d.target = .collected b
  have hHd : ∀ b,Hd b → b < wv.heap.size ∧ ¬ C.bor b ∧ ¬ pv.R b ∧ ¬ R b ∧ ∀ k,pv.β k ≠ some b:=fun b hb=>by
   rcases hb with rfl | ⟨d,hd,hdt⟩
   · exact ⟨hltv,fun hb=>by have:=hS.ex.bo b (.inl hb);omega,hLRv,hRL,hLβv⟩
   · obtain ⟨Ds,g1,_,g3⟩:=hSv.ex.df
     rw [g1] at hd
     obtain ⟨D,hD,rfl⟩:=List.mem_map.1 hd
     injection hdt with hdt
     subst hdt
     obtain ⟨k1,k2,k3,k4,k5,k6⟩:=g3 D hD
     refine ⟨(Array.getElem?_eq_some_iff.1 k1).1,fun hb=>by have:=hS.ex.bo D (.inl hb);omega,k3,fun hr=>?_,k4⟩
     have hD1 : D < w1.heap.size:=by
      obtain ⟨Ds',q1,_,q3⟩:=hS1.ex.df
      have : Ds' = Ds:=marks_inj (q1.symm.trans g1)
      subst this
      exact (Array.getElem?_eq_some_iff.1 (q3 D hD).1).1
     rcases (hR D hr).2.2 with q | q
     · obtain ⟨Ds',q1,_,q3⟩:=hS1.ex.df
       have : Ds' = Ds:=marks_inj (q1.symm.trans g1)
       subst this
       exact (q3 D hD).2.2.1 q
     · have q' : w1.heap.size ≤ D:=q
       omega
  have hSa:=hSv.into (L:=L) (w2:=wv) (R:=R) (rd:=some L) (Hd:=Hd) (a':={ tmps:=(ps.zip vs).foldl (fun tmps (x : Nat × Value)=>tmps.setIfInBounds x.1 x.2) a.tmps,defers:=[] }) (tm':=psA ps.toList e (look (ts.zip avs)))
   hn rfl rfl rfl rfl (fun _ _=>rfl) hLRv hLβv hRβ (fun t=>by rw [hzip];exact hprel t) (by rw [hzip,hpsz,← htmps];exact hsnv.symm) rfl hHd hC
  have hna:=hsnv.trans hsn.symm
  refine roundIn_of_wpIn trivial ?_
  have hassign:=hround (Cin C pv R wv (some L) Hd) _ _ ⟨_,hna ▸ hSa⟩
  refine wpIn_mono hassign ?_
  rintro x a1 wa ⟨s1,⟨p1,hS1a⟩,rfl,hbody⟩
  have hLa : wa.heap[L]? = some (.loop (rec .ready none)):=(hS1a.base.block L hltv (fun ⟨hb,_⟩=>(hHd L (.inl rfl)).2.1 hb) (fun ⟨k,hk,_⟩=>hLβv k hk)).trans hLv
  have hlta : L < wa.heap.size:=(Array.getElem?_eq_some_iff.1 hLa).1
  refine ⟨_,run_beginRound hLa (by rw [hrec]),?_⟩
  have hop1:=Hop.of (L:=L) (w:=wv) (w2:=wv) rfl rfl rfl rfl (fun _ _=>rfl) hS1a
  have hHd1 : ∀ b,Hd b → b < wa.heap.size ∧ ¬ (Cin C pv R wv (some L) Hd).bor b ∧ ¬ p1.R b ∧ ¬ False ∧ ∀ k,p1.β k ≠ some b:=fun b hb=>by
   obtain ⟨_,q2,_,q4,q5,_,_,q8⟩:=hS1a.ex.hd b hb
   exact ⟨q4,q2,q5,fun h=>h,q8⟩
  have hS1b:=hS1a.into (L:=L) (w2:=wa.putObj L (.loop { rec .ready none with state:=.busy })) (R:=fun _=>False) (rd:=some L) (Hd:=Hd) (a':=a1) (tm':=s1.tm) hn rfl rfl rfl World.putObj_size putObj_other
   (hHd1 L (.inl rfl)).2.2.1 (hHd1 L (.inl rfl)).2.2.2.2 (fun _ h=>h.elim) (fun t=>by
    have hk1 : Kept wa (wa.putObj L (.loop { rec .ready none with state:=.busy })) p1 { p1 with R:=fun b=>p1.R b ∨ False } s1.ver s1.ver :=
     ⟨fun _ h=>.inl h,fun ad hr=>World.cell?_of_block (putObj_other _ fun e=>(hHd1 L (.inl rfl)).2.2.1 (e ▸ hr)),fun _=>Nat.le_refl _,fun _ _=>⟨rfl,rfl⟩⟩
    exact AV.rel_mono hk1 _ _ (hS1a.tm t)) hS1a.sz (hS1a.ex.rm rfl) hHd1 hC
  refine wpIn_mono (hbody _ _ _ ⟨_,hS1b⟩) ?_
  have hLb : (wa.putObj L (.loop { rec .ready none with state:=.busy })).heap[L]? = some (.loop { rec .ready none with state:=.busy }):=World.putObj_heap_same hlta
  have hRo : ∀ b,R b → b < wv.heap.size ∧ (∀ d ∈ aL.defers,d.target ≠ .collected b) ∧ ¬ C.hd b ∧ (C.R0 b ∨ C.w0.heap.size ≤ b ∨ C.own b):=fun b hb=>by
   have hsz0:=hS.base.size
   refine ⟨(hR b hb).1,fun d hd hdt=>(hHd b (.inr ⟨d,hd,hdt⟩)).2.2.2.1 hb,fun hh=>?_,?_⟩
   · obtain ⟨q1,_,_,_,q5,_⟩:=hS.ex.hd b hh
     rcases (hR b hb).2.2 with q | q
     · exact q5 q
     · have q' : w1.heap.size ≤ b:=q;omega
   · rcases (hR b hb).2.2 with q | q
     · exact hS.rn b q
     · have q' : w1.heap.size ≤ b:=q;exact .inr (.inl (by omega))
  have fin : ∀ (jump : Option Code) (s3 : AS) (p3 : Plan) (a3 : Act) (w3 : World),SR (Cin (Cin C pv R wv (some L) Hd) p1 (fun _=>False) (wa.putObj L (.loop { rec .ready none with state:=.busy })) (some L) Hd) p3 s3 a3 w3 →
   (match jump with | none=>∃ s4,Sub s3 s4 ∧ I rest us ⟨s.n,look [],s4.rows⟩ | some c=>∃ s4,Sub s3 s4 ∧ J c us ⟨s.n,look [],s4.rows⟩) →
   ∃ v w', (Instr.endRound L jump).run P w3 = .ok v w' ∧ (w'.os = wv.os ∧ w'.tape = wv.tape ∧ w'.output = wv.output ∧ wv.heap.size ≤ w'.heap.size ∧ (∀ b, b < wv.heap.size → ¬ Θ b → w'.heap[b]? = wv.heap[b]?) ∧
     ∃ Ψ' Θ' : Nat → Prop,(∀ b,Ψ' b → Ψ b ∨ R b ∨ wv.heap.size ≤ b) ∧ (∀ b,Θ' b → Θ b ∨ wv.heap.size ≤ b) ∧ (∀ b,Ψ' b → b < w'.heap.size) ∧ (∀ b,Θ' b → b < w'.heap.size) ∧
     ((Ending.returned v = .returned (.bool true) ∧ X.X (some rest) w' Ψ' Θ') ∨ (Ending.returned v = .returned (.bool false) ∧ X.X Option.none w' Ψ' Θ'))):=by
   intro jump s30 p30 a3 w3 h30 hj0
   obtain ⟨s3,hsub,hj⟩ : ∃ s4,Sub s30 s4 ∧ (match jump with | none=>I rest us ⟨s.n,look [],s4.rows⟩ | some c=>J c us ⟨s.n,look [],s4.rows⟩):=by
    cases jump with
    | none=>exact hj0
    | some c=>exact hj0
   obtain ⟨p3,h3⟩:=hsub _ _ _ ⟨p30,h30⟩
   have hL3 : w3.heap[L]? = some (.loop { rec .ready none with state:=.busy }):=by
    refine (h3.base.block L (by show L < (wa.putObj L _).heap.size;rw [World.putObj_size];exact hlta) (fun ⟨hb,_⟩=>(hHd1 L (.inl rfl)).2.1 hb) (fun ⟨k,hk,_⟩=>(hHd1 L (.inl rfl)).2.2.2.2 k hk)).trans hLb
   obtain ⟨_,_,_,_,e5,_,_,e8⟩:=h3.ex.hd L (.inl rfl)
   have hend:=run_endRound (P:=P) jump hL3
   have hlt3 : L < w3.heap.size:=(Array.getElem?_eq_some_iff.1 hL3).1
   have hop2:=Hop.of (C:=Cin C pv R wv (some L) Hd) (p:=p1) (L:=L) (w:=wa) (w2:=wa.putObj L (.loop { rec .ready none with state:=.busy })) (R:=fun _=>False) rfl rfl rfl World.putObj_size putObj_other h3
   obtain ⟨o4,ho4⟩ : ∃ o4,o4 = Obj.loop { { rec .ready none with state:=.busy } with state:=if jump.isNone then .ready else .done,pending:=jump }:=⟨_,rfl⟩
   rw [← ho4] at hend
   have hop:=(Hop.trans (C':=Cin C pv R wv (some L) Hd) hop1 (fun _=>Iff.rfl) hop2).put (o:=o4)
   have hL4 : (w3.putObj L o4).heap[L]? = some (.loop (rec (if jump.isNone then .ready else .done) jump)):=by
    rw [World.putObj_heap_same hlt3,ho4,hrec]
   have hS4 : SR C p3 ⟨s.n,look [],s3.rows⟩ aL (w3.putObj L o4):=by
    have:=hSv.land (C':=Cin (Cin C pv R wv (some L) Hd) p1 (fun _=>False) (wa.putObj L (.loop { rec .ready none with state:=.busy })) (some L) Hd) hn hL0 hLm hop hRo rfl rfl h3 e5 e8 rfl rfl rfl World.putObj_size putObj_other
    rw [hna,← look_nil'] at this
    exact this
   have hψ4:=hS4.ex.ψn hn
   refine ⟨_,_,hend,hop.os,hop.tape,hop.output,hop.size,fun b hb hθ=>hop.heap b hb (fun k hk=>hθ ((hΘv b).2 (.inl ⟨k,hk⟩))) (fun e=>hθ ((hΘv b).2 (.inr e))),
    fun b=>p3.R b ∨ (∃ k,p3.β k = some b) ∨ (b < C.w0.heap.size ∧ ¬ C.bor b ∧ ¬ C.own b) ∨ b = L ∨ C.hd b ∨ ∃ d ∈ aL.defers,d.target = .collected b,fun b=>(∃ k,p3.β k = some b) ∨ b = L,fun b hb=>?_,fun b hb=>?_,fun b hb=>?_,fun b hb=>?_,?_⟩
   · rcases hb with g | ⟨k,g⟩ | g | g | g | g
     · rcases hop.rn b g with q | q | q | ⟨k,q,_⟩
       · exact .inl ((hΨv b).2 (.inl q))
       · exact .inr (.inl q)
       · exact .inr (.inr q)
       · exact .inl ((hΨv b).2 (.inr (.inl ⟨k,q⟩)))
     · rcases hop.bl k b g with q | ⟨_,_,k',_,q⟩ | ⟨k',q,_⟩
       · exact .inr (.inr q)
       · exact .inl ((hΨv b).2 (.inr (.inl ⟨k',q⟩)))
       · exact .inl ((hΨv b).2 (.inr (.inl ⟨k',q⟩)))
     · exact .inl ((hΨv b).2 (.inr (.inr (.inl g))))
     · exact .inl ((hΨv b).2 (.inr (.inr (.inr (.inl g)))))
     · exact .inl ((hΨv b).2 (.inr (.inr (.inr (.inr (.inl g))))))
     · exact .inl ((hΨv b).2 (.inr (.inr (.inr (.inr (.inr g))))))
   · rcases hb with ⟨k,g⟩ | g
     · rcases hop.bl k b g with q | ⟨_,_,k',_,q⟩ | ⟨k',q,_⟩
       · exact .inr q
       · exact .inl ((hΘv b).2 (.inl ⟨k',q⟩))
       · exact .inl ((hΘv b).2 (.inl ⟨k',q⟩))
     · exact .inl ((hΘv b).2 (.inr g))
   · have hsz4:=hS4.base.size
     rcases hb with g | ⟨k,g⟩ | g | rfl | g | ⟨d,hd,hdt⟩
     · exact hS4.rb b g
     · exact (hS4.bl k b g).1
     · omega
     · rw [World.putObj_size];exact hlt3
     · exact (hS4.ex.hd b g).2.2.2.1
     · exact Nat.lt_of_lt_of_le (hHd b (.inr ⟨d,hd,hdt⟩)).1 hop.size
   · rcases hb with ⟨k,g⟩ | rfl
     · exact (hS4.bl k b g).1
     · rw [World.putObj_size];exact hlt3
   · cases jump with
     | none=>exact .inl ⟨rfl,p3,_,hS4,hsn,⟨hj,hL4⟩,e5,e8,fun _=>Iff.rfl,fun _=>Iff.rfl⟩
     | some c=>exact .inr ⟨rfl,p3,_,hS4,hsn,⟨c,hj,hL4⟩,e5,e8,fun _=>Iff.rfl,fun _=>Iff.rfl⟩
  rintro en a3 w3 ⟨s3,⟨p3,h3⟩,hq⟩
  cases en with
  | normal=>exact fin none s3 p3 a3 w3 h3 hq
  | ret=>exact fin (some .ret) s3 p3 a3 w3 h3 hq
  | exit id=>exact fin (some (.exit id)) s3 p3 a3 w3 h3 hq
  | goto l=>exact fin (some (.goto l)) s3 p3 a3 w3 h3 hq
  | panic ch=>exact hq.elim
  | outgrown=>exact hq.elim
 have hX0 : X.X (some xs) w1 (fun b=>p.R b ∨ (∃ k,p.β k = some b) ∨ (b < C.w0.heap.size ∧ ¬ C.bor b ∧ ¬ C.own b) ∨ b = L ∨ C.hd b ∨ ∃ d ∈ aL.defers,d.target = .collected b) (fun b=>(∃ k,p.β k = some b) ∨ b = L) :=
  ⟨p,_,hS2,hsn,⟨h0 us,hL1⟩,hLR,hLβ,fun _=>Iff.rfl,fun _=>Iff.rfl⟩
 have hlt1 : L < w1.heap.size:=(Array.getElem?_eq_some_iff.1 hL1).1
 have hcall:=hI.2 w1 p.R vsC X _ _ hS1.rb hcap rfl (fun hz b hb=>hb) (Nat.le_refl _) hY (fun b hb=>by
  have hszw:=hS1.base.size
  rcases hb with g | ⟨k,g⟩ | g | rfl | g | ⟨d,hd,hdt⟩
  · exact hS1.rb b g
  · exact (hS1.bl k b g).1
  · omega
  · exact hlt1
  · exact (hS1.ex.hd b g).2.2.2.1
  · obtain ⟨Ds,g1,_,g3⟩:=hS1.ex.df
    rw [g1] at hd
    obtain ⟨D,hD,rfl⟩:=List.mem_map.1 hd
    injection hdt with hdt
    subst hdt
    exact (Array.getElem?_eq_some_iff.1 (g3 D hD).1).1) (fun b hb=>by
  rcases hb with ⟨k,g⟩ | rfl
  · exact (hS1.bl k b g).1
  · exact hlt1) (fun b hb hθ=>by
  rcases hθ with ⟨k,g⟩ | rfl
  · exact (hS1.bl k b g).2.1 hb
  · exact hLR hb) (fun o w' Ψ' Θ' hx=>by
    obtain ⟨p',s',hS',_,⟨hI',_⟩,_⟩:=hx
    exact hpk _ _ _ hI' _ _ _ hS') hX0
 have e1 : (Instr.enterLoop fn a.tmps ps assign body none).run P w = .ok (L,[{ target:=.collected w.heap.size,args:=#[] }]) w1:=by
  rw [run_enterLoop_outer,← hw1,hrec,hLdef]
 have e2 : (resolve a.eval (rangeCall g L) 0).run P w1 = .ok { target:=.fn (.func F) #[],args:=vsC ++ #[.func (.yield L) #[] #[]] } w1:=by
  simp only [resolve,hgv,Sem.run_bind,Deferred.ofValue,Sem.run_pure,Result.andThen_ok]
  simp [Act.eval]
 have e3 : (invoke (.fn (.func F) #[]) (vsC ++ #[.func (.yield L) #[] #[]])).run P w1 = .ok (.enter F (vsC ++ #[.func (.yield L) #[] #[]])) w1:=by
  simp only [invoke]
  have:=run_callFunc hI.1 (vsC ++ #[.func (.yield L) #[] #[]] ++ #[]) w1
  simpa using this
 have e4 : Fence.wide.depth.isSome = true → 1 ≤ 0:=fun h=>by simp [Fence.wide] at h
 refine ⟨L,_,w1,_,w1,F,_,w1,e1,e2,?_,e3,e4,?_⟩
 · intro f' _;exact trivial
 · refine callsIn_wide.2 (hcall.mono ?_)
   have haL' : ({ a with defers:=[{ target:=.collected w.heap.size,args:=#[] }] ++ a.defers } : Act) = aL:=by rw [haL];rfl
   rintro e w' ⟨⟨v,rfl⟩,Ψ',Θ',hX | hX⟩
   · obtain ⟨p',s',hS',hsn',⟨hI',hL'⟩,hLR',hLβ',_⟩:=hX
     have hend:=run_endLoop (P:=P) hL' (by rw [hrec];simp)
     have hp : (rec .ready none).pending = none:=by rw [hrec]
     rw [hp] at hend
     refine ⟨none,_,hend,?_⟩
     obtain ⟨avs,hrow,hQ⟩:=done us s' (hsn'.trans hsn.symm) hI'
     have hS4 : ∀ o,SR C p' ⟨s.n,look (ts.zip avs),s'.rows⟩ aL (w'.putObj L o):=fun o=>by
      have:=(hS'.turn (o:=o) hLR' hLβ' hL0 (hS'.ex.ψn hn) hLm).awake (by rw [hrow,hus])
      rw [hsn'.trans hsn.symm] at this
      exact this
     rw [haL']
     exact ⟨_,⟨_,hS4 _⟩,hQ⟩
   · obtain ⟨p',s',hS',hsn',⟨c,hJ',hL'⟩,hLR',hLβ',_⟩:=hX
     have hend:=run_endLoop (P:=P) hL' (by rw [hrec];simp)
     have hp : (rec .done (some c)).pending = some c:=by rw [hrec]
     rw [hp] at hend
     refine ⟨some c,_,hend,?_⟩
     obtain ⟨avs,hrow,hQ⟩:=stop c us s' (hsn'.trans hsn.symm) hJ'
     have hS4 : ∀ o,SR C p' ⟨s.n,look (ts.zip avs),s'.rows⟩ aL (w'.putObj L o):=fun o=>by
      have:=(hS'.turn (o:=o) hLR' hLβ' hL0 (hS'.ex.ψn hn) hLm).awake (by rw [hrow,hus])
      rw [hsn'.trans hsn.symm] at this
      exact this
     have hQ':=fun o=>hQ _ _ ⟨_,hS4 o⟩
     rw [hF0] at hQ'
     rw [haL']
     exact hQ' _
end
theorem awp_rangeFH {P : Program} {C : Ctx} {u : Addr} {pk : List (Nat × Int)} {n : Nat} {s : AS} {t : Nat} {ps : Array Tmp} {assign body : Code} {Q : Exit → AS → Prop} (hC : C.rd = none ∧ C.X = XS.none) {f : FuncId} {caps : List RV} {z : Bool} (xs : List (List RV)) (hI : HBCalls P u pk z f caps xs) (k t0 : Nat)
 (ts : List Nat) (hnd : ts.Nodup) (F : (Nat → Nat) → List (Nat × AV)) (R : Nat → (Nat → Nat) → List (Nat × RowC)) (I : Nat → Prop) (h0 : FitV n F (R 0) s) (hi0 : I 0)
 (hu : ∀ vs,(t0,AV.pu k (vs k) u) ∈ F vs) (hbx : ∀ i vs,∃ cs,lookc (R i vs) k = .box cs ∧ ∀ x ∈ pk,cs[x.1]? = some (.r (.it .i64 x.2))) (hk0 : k ≠ 0) (hts : ∀ vs,(F vs).map (·.1) = ts) (hg : ∀ vs,look (F vs) t = .r (.bf f caps)) (hd : ∀ i vs,lookc (R i vs) 0 = .dead) (hps : ∀ t ∈ ps.toList,t < n) (hlen : ∀ e ∈ xs,e.length = ps.size)
 (round : ∀ i e vs us C,xs[i]? = some e → I i → awp P C assign (fun x s2=>x = .normal ∧ ∀ C,awp P C body (rfpost n ts Q (fun s3=>I (i + 1) ∧ ∃ vs',Sub s3 (st n [] vs' ((0,.sus ((F vs').map (·.2)) us) :: R (i + 1) vs'))) us) s2)
  (st n (psL ps.toList e (F vs)) vs ((0,.sus ((F vs).map (·.2)) us) :: R i vs)))
 (done : ∀ vs us,I xs.length → Q .normal (st n (F vs) vs ((0,.sus ((F vs).map (·.2)) us) :: R xs.length vs))) : awp P C (.rangeFunc (.tmp t) ps assign body) Q s:=by
 obtain ⟨vs0,h0⟩:=h0
 refine zw h0 ?_
 have hdrop : ∀ i e rest,xs.drop i = e :: rest → xs[i]? = some e ∧ xs.drop (i + 1) = rest:=fun i e rest h=>by
  refine ⟨?_,by rw [← List.drop_drop,h];rfl⟩
  have : (xs.drop i)[0]? = some e:=by rw [h];rfl
  simpa using this
 have hz : ∀ vs,ts.zip ((F vs).map (·.2)) = F vs:=fun vs=>by rw [← hts vs];exact zip_keys _
 refine awp_rangeFuncH hC.1 hC.2 (F:=f) (args:=caps) (xs:=xs) (z:=z) (by
  show look (F vs0) t = _
  rw [hg]) hI (hd 0 vs0) ts hps
  (fun left us s'=>∃ i vs,left = xs.drop i ∧ i ≤ xs.length ∧ I i ∧ s' = st n [] vs ((0,.sus ((F vs).map (·.2)) us) :: R i vs))
  (fun c us s'=>∃ avs,(s'.rows 0).c = .sus avs us ∧ ((c = .ret ∧ Q .ret ⟨n,look (ts.zip avs),s'.rows⟩) ∨ ∃ id,c = .exit id ∧ Q (.exit id) ⟨n,look (ts.zip avs),s'.rows⟩))
  (by
   rintro left us s' ⟨i,vs,_,_,_,rfl⟩ p' a' w' hS'
   obtain ⟨cs,hcs,hpk⟩:=hbx i vs
   exact peek_of hS' (by rw [zlc,if_neg hk0];exact hcs) hpk (List.mem_map.2 ⟨_,hu vs,rfl⟩ : AV.pu k (vs k) u ∈ (F vs).map (·.2)))
  (fun us=>⟨0,vs0,rfl,Nat.zero_le _,hi0,?_⟩) ?_ ?_ ?_
 · refine (upd_rows_st (c:=.sus (ts.map (st n (F vs0) vs0 (R 0 vs0)).tm) us)).trans ?_
   congr 3
   have hk : (F vs0).map (·.2) = ts.map (look (F vs0)):=by
    have:=look_keys (F vs0) (by rw [hts vs0];exact hnd)
    rw [hts vs0] at this
    exact this
   rw [hk];rfl
 · rintro e rest us s' _ ⟨i,vs,hl,hle,hI',rfl⟩
   obtain ⟨h1,h2⟩:=hdrop i e rest hl.symm
   refine ⟨hlen e (List.mem_of_getElem? h1),(F vs).map (·.2),rfl,fun C'=>?_⟩
   have hr:=round i e vs us C' h1 hI'
   rw [hz,psA_look]
   refine awp_mono ?_ hr
   rintro x s2 ⟨hx,hbody⟩
   refine ⟨hx,fun C''=>awp_mono ?_ (hbody C'')⟩
   intro x s3 hq
   cases x with
   | normal =>
     obtain ⟨hI3,vs',hsub⟩:=hq
     refine ⟨_,hsub,i + 1,vs',h2.symm,?_,hI3,rfl⟩
     have:=(List.getElem?_eq_some_iff.1 h1).1
     omega
   | ret =>
     obtain ⟨avs,h3,h4⟩:=hq
     exact ⟨s3,Sub.refl _,avs,h3,.inl ⟨rfl,h4⟩⟩
   | exit id =>
     obtain ⟨avs,h3,h4⟩:=hq
     exact ⟨s3,Sub.refl _,avs,h3,.inr ⟨id,rfl,h4⟩⟩
   | goto l=>exact hq.elim
   | panic c=>exact hq.elim
   | outgrown=>exact hq.elim
 · rintro us s' _ ⟨i,vs,hl,hle,hI',rfl⟩
   have hi : i = xs.length:=by
    have : (xs.drop i).length = 0:=by rw [← hl];rfl
    rw [List.length_drop] at this;omega
   subst hi
   refine ⟨(F vs).map (·.2),rfl,?_⟩
   have:=done vs us hI'
   rw [hz]
   exact this
 · rintro c us s' _ ⟨avs,h3,h4⟩
   refine ⟨avs,h3,?_⟩
   rcases h4 with ⟨rfl,h4⟩ | ⟨id,rfl,h4⟩
   · exact ze h4
   · exact zf h4
theorem gop_vlNil {P : Program} {s : AS} {o : Oper} {x : Operand} {K : AS → Prop} (ho : o.op = .nilCheck x) {u : Addr} (hx : s.ev x = .r (.vl u)) (hK : K (s.put o.dst (.r (.vl u)))) : gop P o K s:=by
 intro C p a w h hd hnd KW Q hKW
 have hv : a.eval x = .pointer (some u):=by
  have:=h.ev x
  rw [hx] at this
  simpa only [AV.rel,RV.rel] using this
 have hr : (execOp a.eval o).run P w = .ok (.value (.pointer (some u))) w:=by simp [execOp,ho,hv]
 refine wpIn_of_wp hnd ?_
 unfold Oper.wp
 rw [hr]
 have hput:=h.put' (d:=o.dst) (av:=.r (.vl u)) (v:=.pointer (some u)) (by simp only [AV.rel,RV.rel]) hd
 exact hKW _ _ p _ hput (app_n' _ _ _) hK
theorem gop_vlField {P : Program} {s : AS} {o : Oper} {x : Operand} {t : TypeId} {f : Nat} {K : AS → Prop} (ho : o.op = .fieldAddr t x f) {u : Addr} (hx : s.ev x = .r (.vl u)) {fs : List (Nat × Nat × Bool)} {sz : Nat} {agg : Bool} {z : List RV} (e1 : tyq P t = some ⟨.struct fs,sz,agg,z⟩) {off sz2 : Nat} {agg2 : Bool} (e2 : fs[f]? = some (off,sz2,agg2))
 (hK : K (s.put o.dst (.r (.vl (u.add off))))) : gop P o K s:=by
 intro C p a w h hd hnd KW Q hKW
 have hv : a.eval x = .pointer (some u):=by
  have:=h.ev x
  rw [hx] at this
  simpa only [AV.rel,RV.rel] using this
 obtain ⟨fields,hu,hfs,hall⟩:=tyq_struct e1
 rw [hfs] at e2
 obtain ⟨g,hg,hx2,hm⟩:=fields_get e2
 injection hx2 with hx1 hx2
 subst hx1
 obtain ⟨hok,hz⟩:=hall g hm
 have hr : (execOp a.eval o).run P w = .ok (.value (.pointer (some (u.add g.offset)))) w:=by simp [execOp,ho,hv,run_fieldAt hu hg hok hz]
 refine wpIn_of_wp hnd ?_
 unfold Oper.wp
 rw [hr]
 have hput:=h.put' (d:=o.dst) (av:=.r (.vl (u.add g.offset))) (v:=.pointer (some (u.add g.offset))) (by simp only [AV.rel,RV.rel]) hd
 exact hKW _ _ p _ hput (app_n' _ _ _) hK
theorem sops_vlLoad {P : Program} {C : Ctx} {n : Nat} {l : List (Nat × AV)} {vs : Nat → Nat} {cs : List (Nat × RowC)} {Q : Exit → AS → Prop} {ops : Array Oper} {o : Oper} {rest : List Oper} {x : Operand} {t : TypeId} {u : Addr} {pk : List (Nat × Int)} (hPk : ∀ o w Ψ Θ,C.X.X (some o) w Ψ Θ → PeekI u pk w) (hg : o.guard = none) (hd : ∀ t,o.dst = some t → t < n) (hnd : ∀ c,o.op ≠ .defer c)
 (ho : o.op = .load t x) {T : TI} (e1 : tyq P t = some T) (hagg : T.agg = false) {off : Nat} {m : Int} (hm : (off,m) ∈ pk) (hx : (st n l vs cs).ev x = .r (.vl (u.add off))) {ll : Nat} {z : Bool} {xs : List (List RV)} (hrow : lookc cs 999 = .gh P ll z (some xs))
 (hK : sops P C ops rest Q ((st n l vs cs).put o.dst (.r (.it .i64 m)))) : sops P C ops (o :: rest) Q (st n l vs cs):=fun a w ⟨p,hs⟩=>by
 unfold wpListIn
 rw [if_pos (wantA_sound hs (by simp [wantA,hg]))]
 have hv : a.eval x = .pointer (some (u.add off)):=by
  have:=hs.ev x
  rw [hx] at this
  simpa only [AV.rel,RV.rel] using this
 have hr:=hs.rw 999
 have e9 : ((st n l vs cs).rows 999).c = .gh P ll z (some xs):=hrow
 rw [e9] at hr
 simp only [zrl] at hr
 have hXX:=hr.2.2.2.2.2.2
 rw [hs.ex.px] at hXX
 have hcell:=hPk _ _ _ _ hXX _ hm
 have hrun:=run_loadVar_list (w:=w) e1 (ad:=u.add off) (us:=[.int .i64 m]) (fun i v hi=>by
  match i,hi with
  | 0, hi =>
    simp at hi
    subst hi
    simpa [Addr.add] using hcell) (by simp [need,hagg])
 rw [hagg] at hrun
 have hr : (execOp a.eval o).run P w = .ok (.value (.int .i64 m)) w:=by simp [execOp,ho,hv,Instr.loadAt,Instr.sureAddr,hrun]
 refine wpIn_of_wp hnd ?_
 unfold Oper.wp
 rw [hr]
 have hput:=hs.put' (d:=o.dst) (av:=.r (.it .i64 m)) (v:=.int .i64 m) (by simp only [AV.rel,RV.rel]) hd
 exact hK _ _ ⟨p,hput⟩
theorem awp_rangeGJ {P : Program} {C : Ctx} {s : AS} {g : Operand} {ps : Array Tmp} {assign body : Code} {Q : Exit → AS → Prop} (hC : C.rd = none ∧ C.X = XS.none) (k t0 : Nat) (u : Addr) (rs rs' : List RV) (ht0 : s.tm t0 = .pu k (s.rows k).ver u) (hk : k < 1000) (hk0 : k ≠ 0) (hc : (s.rows k).c = .box (rs.map .r))
 {F : FuncId} {args : List RV} {xs : List (List RV)} (hF : callee? (AS.ev { s with rows:=upd s.rows k ⟨(s.rows k).ver + 1,.dead⟩ } g) = some (F,args.map .r)) (hI : JCalls P F u rs rs' args xs) (hdead : (s.rows 0).c = .dead) (ts : List Nat) (hps : ∀ t ∈ ps.toList,t < s.n) (I : List (List RV) → List Value → AS → Prop)
 (h0 : ∀ us,I xs us { n:=s.n,tm:=look [],rows:=upd (upd s.rows k ⟨(s.rows k).ver + 1,.dead⟩) 0 ⟨(s.rows 0).ver,.sus (ts.map s.tm) us⟩ })
 (round : ∀ e rest us s',s'.n = s.n → I (e :: rest) us s' → e.length = ps.size ∧ ∃ avs,(s'.rows 0).c = .sus avs us ∧ ∀ C,awp P C assign (fun x s2=>x = .normal ∧ ∀ C,awp P C body (rpost s.n I (fun _ _ _=>False) rest us) s2) ⟨s.n,psA ps.toList e (look (ts.zip avs)),s'.rows⟩)
 (done : ∀ us s',s'.n = s.n → I [] us s' → ∃ avs,(s'.rows 0).c = .sus avs us ∧ Q .normal ⟨s.n,look (ts.zip avs),s'.rows⟩) : awp P C (.rangeFunc g ps assign body) Q s:=by
 rintro a w ⟨p,hS⟩
 have hF0 : fnc C.rd = Fence.wide:=by rw [hC.1];rfl
 rw [hF0]
 have hrow:=hS.rw k
 rw [hc] at hrow
 simp only [zrl] at hrow
 obtain ⟨b0,cells,ty,hβ,hheap,hcells,hone⟩:=hrow
 have hub : u = ⟨b0,0,none⟩:=by
  have hx:=hS.tm t0
  rw [ht0] at hx
  simp only [AV.rel] at hx
  obtain ⟨b,hb,hbv⟩:=hx.2.2 rfl
  rw [hβ] at hb
  injection hb with hb
  subst hb
  have:=hx.1.symm.trans hbv
  injection this with this
  injection this
 have hS2:=hS.reRow (w':=w) k hk .dead rfl none 1 (by simp [maxLen]) rfl rfl rfl (Nat.le_refl _) (fun _ _ _=>rfl) (fun _ h=>by cases h) (fun p' ver' _ hβ hγ _=>by simp only [zrl];exact ⟨hβ,hγ⟩)
 have hcr : RV.relV w p.R rs cells.toList:=(relV_plain rs _).1 hcells
 have hbl:=hS.bl k b0 hβ
 have e0 : (upd s.rows k ⟨(s.rows k).ver + 1,.dead⟩) 0 = s.rows 0:=zuo _ _ (Ne.symm hk0)
 refine range_lent (C0:=C) hS2 hC.1 hC.2 hF hI (by show ((upd s.rows k ⟨(s.rows k).ver + 1,.dead⟩) 0).c = .dead;rw [e0];exact hdead) ts hps hub hheap hcr hone (fun g=>?_) (fun g=>?_) hbl.2.1 (fun j hj=>?_) I (fun us=>?_) round ?_
 · rcases hbl.2.2 with q | q | q
   · omega
   · omega
   · exact g.2.2 q
 · obtain ⟨_,_,_,_,_,_,_,g8⟩:=hS.ex.hd b0 g
   exact g8 k hβ
 · have hj' : upd p.β k none j = some b0:=hj
   by_cases e : j = k
   · subst e;rw [zus] at hj';cases hj'
   · rw [zuo _ _ e] at hj'
     exact e (hS.ij j k b0 hj' hβ)
 · have:=h0 us
   show I xs us { n:=s.n,tm:=look [],rows:=upd (upd s.rows k ⟨(s.rows k).ver + 1,.dead⟩) 0 ⟨((upd s.rows k ⟨(s.rows k).ver + 1,.dead⟩) 0).ver,_⟩ }
   rw [e0];exact this
 · intro us p' s' R' a' w' cells' t' hsn hI' hS' hta hus _ _ _ _ _ _ _ _ _
   obtain ⟨avs,hrow,hQ⟩:=done us s' hsn hI'
   have haw:=hS'.awake (avs:=avs) (ts:=ts) (by rw [hrow,hus])
   refine ⟨_,⟨_,haw⟩,?_⟩
   show Q .normal ⟨s'.n,_,_⟩
   rw [hsn]
   exact hQ
theorem awp_rangeG {P : Program} {C : Ctx} {n : Nat} {Q : Exit → AS → Prop} {t : Nat} {ps : Array Tmp} {assign body : Code} (hC : C.rd = none ∧ C.X = XS.none) (k t0 : Nat) (u : Addr) (hk : k < 1000) (hk0 : k ≠ 0) (rs rs' : List RV)
 {f : FuncId} {args : List RV} (xs : List (List RV)) (hI : JCalls P f u rs rs' args xs) (ts : List Nat) (hnd : ts.Nodup) (ht0 : t0 ∉ ts) (htt : t ≠ t0) (F : (Nat → Nat) → List (Nat × AV)) (R : Nat → (Nat → Nat) → List (Nat × RowC)) (I : Nat → Prop) (vs0 : Nat → Nat) (hi0 : I 0)
 (hF : F (upd vs0 k (vs0 k + 1)) = F vs0) (hR : R 0 (upd vs0 k (vs0 k + 1)) = R 0 vs0) (hdk : lookc (R 0 vs0) k = .dead)
 (hts : ∀ vs,(F vs).map (·.1) = ts) (hg : callee? (look (F vs0) t) = some (f,args.map .r)) (hd : ∀ i vs,lookc (R i vs) 0 = .dead) (hps : ∀ t ∈ ps.toList,t < n) (hlen : ∀ e ∈ xs,e.length = ps.size)
 (round : ∀ i e vs us C,xs[i]? = some e → I i → awp P C assign (fun x s2=>x = .normal ∧ ∀ C,awp P C body (fun x s3=>x = .normal ∧ I (i + 1) ∧ ∃ vs',Sub s3 (st n [] vs' ((0,.sus ((F vs').map (·.2)) us) :: R (i + 1) vs'))) s2)
  (st n (psL ps.toList e (F vs)) vs ((0,.sus ((F vs).map (·.2)) us) :: R i vs)))
 (done : ∀ vs us,I xs.length → Q .normal (st n (F vs) vs ((0,.sus ((F vs).map (·.2)) us) :: R xs.length vs))) :
 awp P C (.rangeFunc (.tmp t) ps assign body) Q (st n ((t0,.pu k (vs0 k) u) :: F vs0) vs0 (insc (R 0 vs0) k (.box (rs.map .r)))):=by
 have hdrop : ∀ i e rest,xs.drop i = e :: rest → xs[i]? = some e ∧ xs.drop (i + 1) = rest:=fun i e rest h=>by
  refine ⟨?_,by rw [← List.drop_drop,h];rfl⟩
  have : (xs.drop i)[0]? = some e:=by rw [h];rfl
  simpa using this
 have hz : ∀ vs,ts.zip ((F vs).map (·.2)) = F vs:=fun vs=>by rw [← hts vs];exact zip_keys _
 have hrw : upd (st n ((t0,.pu k (vs0 k) u) :: F vs0) vs0 (insc (R 0 vs0) k (.box (rs.map .r)))).rows k ⟨((st n ((t0,.pu k (vs0 k) u) :: F vs0) vs0 (insc (R 0 vs0) k (.box (rs.map .r)))).rows k).ver + 1,.dead⟩ = (st n [] (upd vs0 k (vs0 k + 1)) (R 0 vs0)).rows:=by
  funext j
  by_cases e : j = k
  · subst e
    rw [zus]
    show (⟨vs0 j + 1,.dead⟩ : Row) = ⟨upd vs0 j (vs0 j + 1) j,lookc (R 0 vs0) j⟩
    rw [zus,hdk]
  · rw [zuo _ _ e]
    show (⟨vs0 j,lookc (insc (R 0 vs0) k (.box (rs.map .r))) j⟩ : Row) = ⟨upd vs0 k (vs0 k + 1) j,lookc (R 0 vs0) j⟩
    rw [lookc_insc,if_neg e,zuo _ _ e]
 refine awp_rangeGJ hC k t0 u rs rs' (by show look ((t0,AV.pu k (vs0 k) u) :: F vs0) t0 = _;rw [look_cons,if_pos rfl];rfl) hk hk0 (by show lookc (insc (R 0 vs0) k _) k = _;rw [lookc_insc,if_pos rfl]) (F:=f) (args:=args) (xs:=xs)
  (by show callee? (look ((t0,AV.pu k (vs0 k) u) :: F vs0) t) = _;rw [look_cons,if_neg htt];exact hg) hI (by show lookc (insc (R 0 vs0) k _) 0 = _;rw [lookc_insc,if_neg (Ne.symm hk0)];exact hd 0 vs0) ts hps
  (fun left us s'=>∃ i vs,left = xs.drop i ∧ i ≤ xs.length ∧ I i ∧ s' = st n [] vs ((0,.sus ((F vs).map (·.2)) us) :: R i vs))
  (fun us=>⟨0,upd vs0 k (vs0 k + 1),rfl,Nat.zero_le _,hi0,?_⟩) ?_ ?_
 · rw [hrw]
   refine (show _ = _ from ?_)
   have hkk : (F vs0).map (·.2) = ts.map (st n ((t0,.pu k (vs0 k) u) :: F vs0) vs0 (insc (R 0 vs0) k (.box (rs.map .r)))).tm:=by
    have h1:=look_keys (F vs0) (by rw [hts vs0];exact hnd)
    rw [hts vs0] at h1
    rw [h1]
    refine List.map_congr_left fun j hj=>?_
    show look (F vs0) j = look ((t0,AV.pu k (vs0 k) u) :: F vs0) j
    rw [look_cons,if_neg (by intro e;subst e;exact ht0 hj)]
   rw [← hkk,hF,hR]
   have hv0 : ((st n ((t0,.pu k (vs0 k) u) :: F vs0) vs0 (insc (R 0 vs0) k (.box (rs.map .r)))).rows 0).ver = ((st n [] (upd vs0 k (vs0 k + 1)) (R 0 vs0)).rows 0).ver:=by
    show vs0 0 = upd vs0 k (vs0 k + 1) 0
    rw [zuo _ _ (Ne.symm hk0)]
   rw [hv0]
   exact upd_rows_st (c:=.sus ((F vs0).map (·.2)) us)
 · rintro e rest us s' _ ⟨i,vs,hl,hle,hI',rfl⟩
   obtain ⟨h1,h2⟩:=hdrop i e rest hl.symm
   refine ⟨hlen e (List.mem_of_getElem? h1),(F vs).map (·.2),rfl,fun C'=>?_⟩
   have hr:=round i e vs us C' h1 hI'
   show awp P C' assign _ ⟨n,psA ps.toList e (look (ts.zip ((F vs).map (·.2)))),_⟩
   rw [hz,psA_look]
   refine awp_mono ?_ hr
   rintro x s2 ⟨hx,hbody⟩
   refine ⟨hx,fun C''=>awp_mono ?_ (hbody C'')⟩
   rintro x s3 ⟨rfl,hI3,vs',hsub⟩
   refine ⟨_,hsub,i + 1,vs',h2.symm,?_,hI3,rfl⟩
   have:=(List.getElem?_eq_some_iff.1 h1).1
   omega
 · rintro us s' _ ⟨i,vs,hl,hle,hI',rfl⟩
   have hi : i = xs.length:=by
    have : (xs.drop i).length = 0:=by rw [← hl];rfl
    rw [List.length_drop] at this;omega
   subst hi
   refine ⟨(F vs).map (·.2),rfl,?_⟩
   have hq:=done vs us hI'
   rw [hz]
   exact hq
theorem sub_ptvl {n : Nat} {l : List (Nat × AV)} {vs : Nat → Nat} {cs : List (Nat × RowC)} (t t0 : Nat) {k : Nat} {u : Addr} (ht0 : look l t0 = .pu k (vs k) u) (ht : look l t = .pt k (vs k) 0) : Sub (st n l vs cs) (st n ((t,.r (.vl u)) :: l) vs cs):=fun C a w ⟨p,hp⟩=>by
 have h0:=hp.tm t0
 have e0 : (st n l vs cs).tm t0 = .pu k (vs k) u:=ht0
 rw [e0] at h0
 simp only [AV.rel] at h0
 obtain ⟨hv1,hv2,hv3⟩:=h0
 refine ⟨p,{ hp with tm:=fun j=>?_ }⟩
 show AV.rel w _ _ (look ((t,.r (.vl u)) :: l) j) _
 rw [look_cons]
 split
 · rename_i e
   subst e
   have hx:=hp.tm j
   have e2 : (st n l vs cs).tm j = .pt k (vs k) 0:=ht
   rw [e2] at hx
   simp only [AV.rel,RV.rel] at hx ⊢
   obtain ⟨b,hb,hbv⟩:=hv3 rfl
   obtain ⟨b',hb',hbv'⟩:=hx.2 rfl
   rw [hb] at hb'
   injection hb' with hb'
   subst hb'
   rw [hbv']
   exact hbv.symm.trans hv1
 · exact hp.tm j
end Go.Oc

namespace Go.Proofs.Ytgfbenanljjgaaa.Du.Th.Ai
open Go Go.Oc
set_option maxRecDepth 8000
set_option maxHeartbeats 4000000
theorem newTable_ok (r : Rk) (s : Bool) (h0 : 0 ≤ r.start + 1) (h1 : r.start ≤ 1000) : NCalls Try.prog 92 [rkR r,.bo s] [(10,.arr 3 1 (arrV (List.replicate (r.start + 1).toNat 0))),(12,.box [.r (i64 r.d),.r (aimsR r.aims),.r (i64 r.start),.r (i64 r.out),.r (.bo s),.os 10 0 1 0 (r.start + 1).toNat])] (.pt 12 0 0):=by
 have w1 : IntKind.i64.wrap (r.start + 1) = r.start + 1:=by rw [zI] <;> omega
 refine ncalls_st (n:=13) _ _ (.tmp 4) Try.func92 rfl (by kernel_rfl) Try.ntmps92 rfl (by simp) rfl rfl fun C hC=>?_
 refine zq ?_
 refine zb fun K hK=>?_;simp only [go_sem,argL];refine hK _ ?_;clear hK K;refine zw (zfP 2 2 [i64 r.d,aimsR r.aims,i64 r.start,i64 r.out] (by omega) rfl rfl) ?_;refine zw (zk [1,2]) ?_;simp only [go_sem]
 refine zq ?_
 refine awp_dreg2 [(1,none),(2,none)] follows (by decide +kernel) (by kernel_rfl) (by simp only [keysOk,List.mem_cons,List.not_mem_nil,forall_eq_or_imp,Oc.keyOf,go_sem];simp) fun K hK=>?_
 simp only [go_sem,w1]
 refine ⟨⟨h0,by omega,by omega⟩,?_⟩
 refine hK _ ?_;clear hK K;refine zw (zk [4]) ?_;simp only [go_sem];refine ze ?_
 try simp only [go_sem]
 simp
theorem scores_ok (r : Rk) (u : Addr) (hs : r.start ≤ 1000) : HBCalls Try.prog u [(2,r.start),(3,r.out)] true 57 [.vl u] ((List.range (cntA r)).map fun (i : Nat)=>[i64 (lowG r.out + (i : Int))]):=by
 have hlg:=lowG_le r.out
 refine hbcalls_st Try.func57 rfl (by kernel_rfl) Try.ntmps57 rfl (by simp) fun C ll hPk=>?_
 refine zq ?_
 refine awp_long ?_
 refine sops_take 1 (by kernel_rfl) fun K hK=>?_
 simp only [go_sem,List.take_succ_cons,List.take_zero,List.drop_succ_cons,List.drop_zero,List.append_eq,List.cons_append,List.nil_append,argL]
 refine hK _ rfl ?_
 clear hK K
 refine sops_gop rfl (by intro t h;injection h with h;subst h;show 6 < 25;decide) (by intro c h;cases h) (gop_vlNil rfl (u:=u) (by simp only [go_sem]) ?_)
 try simp only [go_sem]
 refine sops_gop rfl (by intro t h;injection h with h;subst h;show 7 < 25;decide) (by intro c h;cases h) (gop_vlField rfl (u:=u) (by simp only [go_sem]) ty113 (off:=0) rfl ?_)
 try simp only [go_sem]
 refine sops_gop rfl (by intro t h;injection h with h;subst h;show 8 < 25;decide) (by intro c h;cases h) (gop_vlField rfl (u:=u) (by simp only [go_sem]) ty27 (off:=3) rfl ?_)
 try simp only [go_sem]
 refine sops_vlLoad hPk rfl (by intro t h;injection h with h;subst h;show 9 < 25;decide) (by intro c h;cases h) rfl (t:=25) (by simp only [go_sem];rfl) rfl (off:=3) (m:=r.out) (by simp) (by simp only [go_sem]) (by simp only [go_sem];rfl) ?_
 try simp only [go_sem]
 refine sops_end (by kernel_rfl) fun K hK=>?_
 simp only [go_sem,List.drop_succ_cons,List.drop_zero,List.append_eq,List.cons_append,List.nil_append]
 refine zh (alow_ok r.out) rfl (by simp only [go_sem,i64,ints]) (by simp only [go_sem,i64,ints]) (by first | exact .inl rfl | exact .inr rfl) ?_
 (try simp only [go_sem]);refine hK _ ?_;clear hK K;refine zw (zk [0,1,4]) ?_;simp only [go_sem];refine zd ?_
 obtain ⟨xs,hxs⟩ : ∃ xs : List (List RV),xs = (List.range (cntA r)).map fun (i : Nat)=>[i64 (lowG r.out + (i : Int))]:=⟨_,rfl⟩
 rw [← hxs]
 have hxl : xs.length = cntA r:=by rw [hxs];simp
 have hcnt : (cntA r : Int) = max 0 (r.start + 1 - lowG r.out):=by unfold cntA;omega
 refine zup (n:=25) (cntA r) (fun i vs=>[(0,.r (.vl u)),(1,.r (.yl ll)),(4,.r (i64 (lowG r.out + (i : Int))))])
  (fun i=>[(999,.gh Try.prog ll true (some (xs.drop i)))]) (fun _=>True) 0 (zfo [] ?_ ?_) (Nat.zero_le _) trivial ?_
 · try simp only [go_sem]
   try simp
 · try simp only [go_sem]
 · intro i vs hi _
   have w1 : IntKind.i64.wrap (lowG r.out + (i : Int) + 1) = lowG r.out + (i : Int) + 1:=by rw [zI] <;> omega
   have e1 : lowG r.out + (i : Int) + 1 = lowG r.out + ((i + 1 : Nat) : Int):=by omega
   repeat refine zq ?_
   refine awp_long ?_
   refine sops_take 2 (by kernel_rfl) fun K hK=>?_
   simp only [go_sem,List.take_succ_cons,List.take_zero,List.drop_succ_cons,List.drop_zero,List.append_eq,List.cons_append,List.nil_append]
   refine hK _ rfl ?_
   clear hK K
   refine sops_gop rfl (by intro t h;injection h with h;subst h;show 13 < 25;decide) (by intro c h;cases h) (gop_vlNil rfl (u:=u) (by simp only [go_sem]) ?_)
   try simp only [go_sem]
   refine sops_gop rfl (by intro t h;injection h with h;subst h;show 14 < 25;decide) (by intro c h;cases h) (gop_vlField rfl (u:=u) (by simp only [go_sem]) ty113 (off:=0) rfl ?_)
   try simp only [go_sem]
   refine sops_gop rfl (by intro t h;injection h with h;subst h;show 15 < 25;decide) (by intro c h;cases h) (gop_vlField rfl (u:=u) (by simp only [go_sem]) ty27 (off:=2) rfl ?_)
   try simp only [go_sem]
   refine sops_vlLoad hPk rfl (by intro t h;injection h with h;subst h;show 16 < 25;decide) (by intro c h;cases h) rfl (t:=3) (by simp only [go_sem];rfl) rfl (off:=2) (m:=r.start) (by simp) (by simp only [go_sem]) (by simp only [go_sem];rfl) ?_
   try simp only [go_sem]
   by_cases hlt : i < cntA r
   · have e2 : decide (lowG r.out + (i : Int) ≤ r.start) = true:=by simp;omega
     have he : xs.drop i = [i64 (lowG r.out + (i : Int))] :: xs.drop (i + 1):=by
      refine drop_of_opt ?_
      rw [hxs]
      simp [hlt]
     refine sops_end (by kernel_rfl) fun K hK=>?_
     simp only [go_sem,List.drop_succ_cons,List.drop_zero,List.append_eq,List.cons_append,List.nil_append,e2]
     refine xcall_yield (z:=true) (e:=[i64 (lowG r.out + (i : Int))]) (rest:=xs.drop (i + 1)) (by simp only [go_sem,he]) rfl (by simp only [go_sem]) (.inl rfl) ?_ ?_
     · simp only [go_sem];refine hK _ ?_;clear hK K;refine zw (zk [0,1,4,22]) ?_;simp only [go_sem]
       refine zc rfl (fun hc=>?_) (fun hc=>?_) <;> (try simp only [go_sem] at hc)
       refine zx ?_
       try simp only [go_sem]
       refine zq ?_
       refine zd ?_;refine zx ?_
       try simp only [go_sem]
       refine zb fun K hK=>?_;simp only [go_sem,w1];refine hK _ ?_;clear hK K
       try simp only [go_sem]
       refine ⟨hlt,zfo [] ?_ ?_⟩
       · try simp only [go_sem]
         omega
       · try simp only [go_sem]
     · simp only [go_sem];refine hK _ ?_;clear hK K;refine zw (zk [22]) ?_;simp only [go_sem]
       refine zc rfl (fun hc=>?_) (fun hc=>?_) <;> (try simp only [go_sem] at hc)
       refine zf ?_;simp only [go_sem];exact ⟨_,_,.inr rfl⟩
   · have e2 : decide (lowG r.out + (i : Int) ≤ r.start) = false:=by simp;omega
     have h0 : xs.drop i = []:=List.drop_eq_nil_of_le (by omega)
     rw [h0]
     refine sops_end (by kernel_rfl) fun K hK=>?_
     simp only [go_sem,List.drop_succ_cons,List.drop_zero,List.append_eq,List.cons_append,List.nil_append,e2];refine hK _ ?_;clear hK K;refine zw (zk [22]) ?_;simp only [go_sem]
     refine zc rfl (fun hc=>?_) (fun hc=>?_) <;> (try simp only [go_sem] at hc)
     refine zf ?_;simp only [go_sem];exact ⟨_,_,.inl rfl⟩
abbrev tabT (r : Rk) (s : Bool) : List Int:=tabA r s (cntA r)
theorem filled_ok (r : Rk) (s : Bool) (hr : ROk r) : ACalls Try.prog 56 [rkR r,.bo s] (.rp (tabC r s (tabT r s))):=by
 have hst:=hr.start
 have hlg:=lowG_le r.out
 have hnt:=newTable_ok r s (by omega) (by omega)
 obtain ⟨len,hlen⟩ : ∃ len,len = (r.start + 1).toNat:=⟨_,rfl⟩
 rw [← hlen] at hnt
 have hz : tabA r s 0 = List.replicate len 0:=by rw [hlen];rfl
 rw [← hz] at hnt
 refine acalls_stR (rs:=[.rp (tabC r s (tabT r s))]) [.tmp 4] Try.func56 rfl (by kernel_rfl) Try.ntmps56 rfl (by simp) rfl fun C hC vs=>?_
 refine zq ?_
 refine zb fun K hK=>?_;simp only [go_sem,argL];refine hK _ ?_;clear hK K;refine zw (zfP 2 2 [i64 r.d,aimsR r.aims,i64 r.start,i64 r.out] (by omega) rfl rfl) ?_;refine zw (zk [1,2]) ?_;simp only [go_sem]
 refine zq ?_
 refine awp_long ?_
 refine sops_take 3 (by kernel_rfl) fun K hK=>?_
 simp only [go_sem,List.take_succ_cons,List.take_zero,List.drop_succ_cons,List.drop_zero,List.append_eq,List.cons_append,List.nil_append]
 refine xcall_new hnt [(10,30),(12,31)] rfl (by rfl) (by rfl) (by rfl) (by rfl) (by rfl) ?_
 simp only [go_sem,idK,backA,backC,backL,pinOf,zLk]
 refine hK _ rfl ?_
 clear hK K
 refine sops_sub (zk [9]) ?_
 simp only [go_sem]
 refine sops_end (by kernel_rfl) fun K hK=>?_
 simp only [go_sem,List.drop_succ_cons,List.drop_zero,List.append_eq,List.cons_append,List.nil_append];refine hK _ ?_;clear hK K;refine zw (zk [5,9]) ?_;simp only [go_sem]
 refine awp_name 9 rfl fun u=>?_
 repeat refine zq ?_
 refine awp_long ?_
 refine sops_take 1 (by kernel_rfl) fun K hK=>?_
 simp only [go_sem,List.take_succ_cons,List.take_zero,List.drop_succ_cons,List.drop_zero,List.append_eq,List.cons_append,List.nil_append]
 refine hK _ rfl ?_
 clear hK K
 refine sops_sub (sub_ptvl 10 9 (k:=31) (u:=u) (by try simp only [go_sem]) (by try simp only [go_sem])) ?_
 refine sops_sub (zk [5,9,10]) ?_
 simp only [go_sem]
 refine sops_gop rfl (by intro t h;injection h with h;subst h;show 11 < 17;decide) (by intro c h;cases h) (gop_method rfl (v:=.vl u) (by simp only [go_sem]) ?_)
 try simp only [go_sem]
 refine sops_end (by kernel_rfl) fun K hK=>?_
 simp only [go_sem,List.drop_succ_cons,List.drop_zero,List.append_eq,List.cons_append,List.nil_append];refine hK _ ?_;clear hK K;refine zw (zk [5,9,11]) ?_;simp only [go_sem]
 have hcnt : (cntA r : Int) = r.start + 1 - lowG r.out:=by unfold cntA;omega
 have htab:=fun i (hi : i ≤ cntA r)=>tab_eq hr s i hi
 have hll : ∀ i,i ≤ cntA r → (tabA r s i).length = len:=fun i hi=>by rw [(htab i hi).2.1,hlen]
 refine zd ?_
 refine awp_rangeFH (n:=17) hC ((List.range (cntA r)).map fun (i : Nat)=>[i64 (lowG r.out + (i : Int))]) (scores_ok r u (by omega)) 31 9 [5,9,11] (by decide)
  (fun vs=>[(5,.pt 5 (vs 5) 0),(9,.pu 31 (vs 31) u),(11,.r (.bf 57 [.vl u]))])
  (fun i vs=>[(5,.box [.pt 31 (vs 31) 0]),(30,.arr 3 1 (arrV (tabA r s i))),(31,.box [.r (i64 r.d),.r (aimsR r.aims),.r (i64 r.start),.r (i64 r.out),.r (.bo s),.os 30 (vs 30) 1 0 len])]) (fun i=>i ≤ cntA r) (zj [] ?_ ?_) (Nat.zero_le _)
  (fun vs=>by simp) (fun i vs=>⟨_,rfl,fun x hx=>by simp at hx;rcases hx with rfl | rfl <;> rfl⟩) (by decide) (fun _=>rfl) (fun _=>rfl) (fun _ _=>rfl) (by decide) (fun e he=>by obtain ⟨i,_,rfl⟩:=List.mem_map.1 he;rfl) ?_ ?_
 · try simp only [go_sem]
 · try simp only [go_sem]
 · intro i e vs us C' he hi
   have hil : i < cntA r:=by
    have:=(List.getElem?_eq_some_iff.1 he).1
    simpa using this
   have he' : e = [i64 (((lowG r.out).toNat + i : Nat) : Int)]:=by
    simp [hil] at he
    rw [← he]
    have : lowG r.out + (i : Int) = (((lowG r.out).toNat + i : Nat) : Int):=by omega
    rw [this]
   subst he'
   have hvs : VsOk r s (tabA r s i) ((lowG r.out).toNat + i):=⟨hr,(htab i hi).2.1,(htab i hi).2.2,by omega,by omega⟩
   have hfl:=fill_ok hvs
   have hn : (tabA r s i).set ((lowG r.out).toNat + i) (numA r s (tabA r s i) ((lowG r.out).toNat + i)) = tabA r s (i + 1):=rfl
   rw [hn] at hfl
   unfold fillT tabA' at hfl
   rw [hll i hi,hll (i + 1) (by omega)] at hfl
   refine zb fun K hK=>?_;simp only [go_sem];refine hK _ ?_;clear hK K
   refine ⟨rfl,fun C''=>?_⟩
   refine zw (zk [5,6]) ?_;simp only [go_sem];refine zd ?_;refine zb fun K hK=>?_;simp only [go_sem]
   refine xcall_mut (hfl) [(1000,31),(1001,30)] rfl (by simp only [go_sem,i64,ints]) (by simp only [go_sem,i64,ints]) (by rfl) (by rfl) ?_
   (try simp only [go_sem]);refine hK _ ?_;clear hK K
   try simp only [go_sem]
   exact ⟨by omega,vs,sub_look _ (allEq_mem (by simp only [go_sem]))⟩
 · intro vs us hi
   have hel : ((List.range (cntA r)).map fun (i : Nat)=>[i64 (lowG r.out + (i : Int))]).length = cntA r:=by simp
   rw [hel]
   try simp only [go_sem]
   refine zw (sub_wake rfl) ?_;refine zw (zk [5]) ?_;simp only [go_sem]
   refine zq ?_
   refine zb fun K hK=>?_;simp only [go_sem];refine hK _ ?_;clear hK K;refine zw (zk [4]) ?_;simp only [go_sem]
   have hlt:=hll (cntA r) (Nat.le_refl _)
   have htk : ((arrV (tabA r s (cntA r))).drop 0).take len = arrV (tabA r s (cntA r)):=by rw [List.drop_zero,List.take_of_length_le (by simp [hlt])]
   refine zw (sub_frzB 31 5 30 (ty:=3) (sz:=1) (off:=0) (m:=len) (es:=arrV (tabA r s (cntA r))) (by omega) (by omega) rfl (by simp only [go_sem,List.getElem?_cons_succ,List.getElem?_cons_zero]) (by rfl) (by simp [hlt])) ?_;rw [htk]
   try simp only [go_sem]
   refine zw (zfP 4 31 (tabC r s (tabT r s)) (by omega) (by try simp only [go_sem]) (by try simp only [go_sem])) ?_;refine zw (zk [4]) ?_;simp only [go_sem];refine ze ?_;simp only [go_sem];exact leL_refl.le_refl _
theorem acheck_ok (r : Rk) (hw : WfL r.d r.aims) : ACalls Try.prog 16 [rkR r] (i64 (checkR r)):=by
 have hch:=check_ok r.d r.aims hw
 have ha:=awithin_ok 2 60 [r.start]
 have hb:=awithin_ok 0 2 [r.out]
 have ea : withinL 2 60 [r.start] = decide (2 ≤ r.start ∧ r.start ≤ 60):=by simp [withinL]
 have eb : withinL 0 2 [r.out] = decide (0 ≤ r.out ∧ r.out ≤ 2):=by simp [withinL]
 rw [ea] at ha
 rw [eb] at hb
 unfold checkR
 refine zas (rs:=[i64 (if checkV r.d r.aims = 0 then (if (2 ≤ r.start ∧ r.start ≤ 60) ∧ 0 ≤ r.out ∧ r.out ≤ 2 then 0 else 2) else checkV r.d r.aims)]) [.tmp 2] Try.func16 rfl (by kernel_rfl) Try.ntmps16 rfl (by simp) rfl fun C vs=>?_
 refine zq ?_
 refine zb fun K hK=>?_;simp only [go_sem];refine hK _ ?_;clear hK K;refine zw (zfP 1 1 [i64 r.d,aimsR r.aims,i64 r.start,i64 r.out] (by omega) rfl rfl) ?_;refine zw (zk [1]) ?_;simp only [go_sem]
 repeat refine zq ?_
 refine zb fun K hK=>?_;simp only [go_sem]
 refine zh (hch) rfl (by simp only [go_sem,i64,ints]) (by simp only [go_sem,i64,ints]) (by first | exact .inl rfl | exact .inr rfl) ?_
 (try simp only [go_sem]);refine hK _ ?_;clear hK K;refine zw (zk [1,3]) ?_;simp only [go_sem]
 refine zq ?_
 refine zb fun K hK=>?_;simp only [go_sem];refine hK _ ?_;clear hK K;refine zw (zk [1,3,8]) ?_;simp only [go_sem]
 by_cases h0 : checkV r.d r.aims = 0
 · have e0 : (checkV r.d r.aims != 0) = false:=by simp [h0]
   rw [if_pos h0,e0]
   refine zc rfl (fun hc=>?_) (fun hc=>?_) <;> (try simp only [go_sem] at hc)
   refine zx ?_
   try simp only [go_sem]
   by_cases h1 : 2 ≤ r.start ∧ r.start ≤ 60
   · rw [decide_eq_true h1] at ha
     by_cases h2 : 0 ≤ r.out ∧ r.out ≤ 2
     · rw [decide_eq_true h2] at hb
       rw [if_pos ⟨h1,h2⟩]
       repeat refine zq ?_
       refine zb fun K hK=>?_;simp only [go_sem]
       refine zh (ha) rfl (by simp only [go_sem,i64,ints]) (by simp only [go_sem,i64,ints]) (by first | exact .inl rfl | exact .inr rfl) ?_
       (try simp only [go_sem])
       refine zh (hb) rfl (by simp only [go_sem,i64,ints]) (by simp only [go_sem,i64,ints]) (by first | exact .inl rfl | exact .inr rfl) ?_
       (try simp only [go_sem]);refine hK _ ?_;clear hK K;refine zw (zk [1,21]) ?_;simp only [go_sem]
       refine zc rfl (fun hc=>?_) (fun hc=>?_) <;> (try simp only [go_sem] at hc)
       refine zx ?_
       try simp only [go_sem]
       refine zq ?_
       refine zb fun K hK=>?_;simp only [go_sem];refine hK _ ?_;clear hK K;refine zw (zk [2]) ?_;simp only [go_sem];refine ze ?_;simp only [go_sem]
     · rw [decide_eq_false h2] at hb
       rw [if_neg (fun h=>h2 h.2)]
       repeat refine zq ?_
       refine zb fun K hK=>?_;simp only [go_sem]
       refine zh (ha) rfl (by simp only [go_sem,i64,ints]) (by simp only [go_sem,i64,ints]) (by first | exact .inl rfl | exact .inr rfl) ?_
       (try simp only [go_sem])
       refine zh (hb) rfl (by simp only [go_sem,i64,ints]) (by simp only [go_sem,i64,ints]) (by first | exact .inl rfl | exact .inr rfl) ?_
       (try simp only [go_sem]);refine hK _ ?_;clear hK K;refine zw (zk [1,21]) ?_;simp only [go_sem]
       refine zc rfl (fun hc=>?_) (fun hc=>?_) <;> (try simp only [go_sem] at hc)
       refine zq ?_
       refine zb fun K hK=>?_;simp only [go_sem];refine hK _ ?_;clear hK K;refine zw (zk [2]) ?_;simp only [go_sem];refine ze ?_;simp only [go_sem]
   · rw [decide_eq_false h1] at ha
     rw [if_neg (fun h=>h1 h.1)]
     repeat refine zq ?_
     refine zb fun K hK=>?_;simp only [go_sem]
     refine zh (ha) rfl (by simp only [go_sem,i64,ints]) (by simp only [go_sem,i64,ints]) (by first | exact .inl rfl | exact .inr rfl) ?_
     (try simp only [go_sem]);refine hK _ ?_;clear hK K;refine zw (zk [1,21]) ?_;simp only [go_sem]
     refine zc rfl (fun hc=>?_) (fun hc=>?_) <;> (try simp only [go_sem] at hc)
     refine zq ?_
     refine zb fun K hK=>?_;simp only [go_sem];refine hK _ ?_;clear hK K;refine zw (zk [2]) ?_;simp only [go_sem];refine ze ?_;simp only [go_sem]
 · have e0 : (checkV r.d r.aims != 0) = true:=by simpa using h0
   rw [if_neg h0,e0]
   refine zc rfl (fun hc=>?_) (fun hc=>?_) <;> (try simp only [go_sem] at hc)
   refine zq ?_
   refine zb fun K hK=>?_;simp only [go_sem];refine hK _ ?_;clear hK K;refine zw (zk [2]) ?_;simp only [go_sem];refine ze ?_;simp only [go_sem]
theorem table_ok (r : Rk) (hw : WfL r.d r.aims) : ACalls Try.prog 17 [rkR r] (.tu [if checkR r = 0 then ints (tabT r false) else .ns,if checkR r = 0 then ints (tabT r true) else .ns,i64 (checkR r)]):=by
 have hch:=acheck_ok r hw
 refine zas (rs:=[if checkR r = 0 then ints (tabT r false) else .ns,if checkR r = 0 then ints (tabT r true) else .ns,i64 (checkR r)]) [.tmp 2,.tmp 3,.tmp 4] Try.func17 rfl (by kernel_rfl) Try.ntmps17 rfl (by simp) rfl fun C vs=>?_
 refine zq ?_
 refine zb fun K hK=>?_;simp only [go_sem];refine hK _ ?_;clear hK K;refine zw (zfP 1 1 [i64 r.d,aimsR r.aims,i64 r.start,i64 r.out] (by omega) rfl rfl) ?_;refine zw (zk [1]) ?_;simp only [go_sem]
 repeat refine zq ?_
 refine zb fun K hK=>?_;simp only [go_sem]
 refine zh (hch) rfl (by simp only [go_sem,i64,ints]) (by simp only [go_sem,i64,ints]) (by first | exact .inl rfl | exact .inr rfl) ?_
 (try simp only [go_sem]);refine hK _ ?_;clear hK K;refine zw (zk [1,5]) ?_;simp only [go_sem]
 refine zq ?_
 refine zb fun K hK=>?_;simp only [go_sem];refine hK _ ?_;clear hK K;refine zw (zk [1,5,9]) ?_;simp only [go_sem]
 by_cases h0 : checkR r = 0
 · obtain ⟨_,hr⟩:=checkR_zero h0
   have hf:=filled_ok r false hr
   have ht:=filled_ok r true hr
   have e0 : (checkR r != 0) = false:=by simp [h0]
   rw [if_pos h0,if_pos h0,e0]
   refine zc rfl (fun hc=>?_) (fun hc=>?_) <;> (try simp only [go_sem] at hc)
   refine zx ?_
   try simp only [go_sem]
   refine zq ?_
   refine awp_dreg2 [(1,none)] follows (by decide +kernel) (by kernel_rfl) (by simp only [keysOk,List.mem_cons,List.not_mem_nil,forall_eq_or_imp,Oc.keyOf,go_sem];simp) fun K hK=>?_
   simp only [go_sem]
   refine zh (hf) rfl (by simp only [go_sem,i64,ints]) (by simp only [go_sem,i64,ints]) (by first | exact .inl rfl | exact .inr rfl) ?_
   (try simp only [go_sem])
   refine zh (ht) rfl (by simp only [go_sem,i64,ints]) (by simp only [go_sem,i64,ints]) (by first | exact .inl rfl | exact .inr rfl) ?_
   (try simp only [go_sem]);refine hK _ ?_;clear hK K;refine zw (zk [2,3,4]) ?_;simp only [go_sem];refine ze ?_;simp only [go_sem];exact h0.symm
 · have e0 : (checkR r != 0) = true:=by simpa using h0
   rw [if_neg h0,if_neg h0,e0]
   refine zc rfl (fun hc=>?_) (fun hc=>?_) <;> (try simp only [go_sem] at hc)
   refine zq ?_
   refine zb fun K hK=>?_;simp only [go_sem];refine hK _ ?_;clear hK K;refine zw (zk [2,3,4]) ?_;simp only [go_sem];refine ze ?_;simp only [go_sem]
theorem scoresP_ok (r : Rk) (s : Bool) (nums : List Int) (hs : r.start ≤ 1000) : IBCalls Try.prog true 57 [.rp (tabC r s nums)] ((List.range (cntA r)).map fun (i : Nat)=>[i64 (lowG r.out + (i : Int))]):=by
 have hlg:=lowG_le r.out
 refine ibcalls_st Try.func57 rfl (by kernel_rfl) Try.ntmps57 rfl (by simp) fun C ll=>?_
 refine zq ?_
 refine zb fun K hK=>?_;simp only [go_sem,argL]
 refine zh (alow_ok r.out) rfl (by simp only [go_sem,i64,ints]) (by simp only [go_sem,i64,ints]) (by first | exact .inl rfl | exact .inr rfl) ?_
 (try simp only [go_sem]);refine hK _ ?_;clear hK K;refine zw (zk [0,1,4]) ?_;simp only [go_sem];refine zd ?_
 obtain ⟨xs,hxs⟩ : ∃ xs : List (List RV),xs = (List.range (cntA r)).map fun (i : Nat)=>[i64 (lowG r.out + (i : Int))]:=⟨_,rfl⟩
 rw [← hxs]
 have hxl : xs.length = cntA r:=by rw [hxs];simp
 have hcnt : (cntA r : Int) = max 0 (r.start + 1 - lowG r.out):=by unfold cntA;omega
 refine zup (n:=25) (cntA r) (fun i vs=>[(0,.r (.rp (tabC r s nums))),(1,.r (.yl ll)),(4,.r (i64 (lowG r.out + (i : Int))))])
  (fun i=>[(999,.gh Try.prog ll true (some (xs.drop i)))]) (fun _=>True) 0 (zfo [] ?_ ?_) (Nat.zero_le _) trivial ?_
 · try simp only [go_sem]
   try simp
 · try simp only [go_sem]
 · intro i vs hi _
   have w1 : IntKind.i64.wrap (lowG r.out + (i : Int) + 1) = lowG r.out + (i : Int) + 1:=by rw [zI] <;> omega
   by_cases hlt : i < cntA r
   · have e2 : decide (lowG r.out + (i : Int) ≤ r.start) = true:=by simp;omega
     have he : xs.drop i = [i64 (lowG r.out + (i : Int))] :: xs.drop (i + 1):=by
      refine drop_of_opt ?_
      rw [hxs]
      simp [hlt]
     repeat refine zq ?_
     refine zb fun K hK=>?_;simp only [go_sem,e2]
     refine xcall_yield (z:=true) (e:=[i64 (lowG r.out + (i : Int))]) (rest:=xs.drop (i + 1)) (by simp only [go_sem,he]) rfl (by simp only [go_sem]) (.inl rfl) ?_ ?_
     · simp only [go_sem];refine hK _ ?_;clear hK K;refine zw (zk [0,1,4,22]) ?_;simp only [go_sem]
       refine zc rfl (fun hc=>?_) (fun hc=>?_) <;> (try simp only [go_sem] at hc)
       refine zx ?_
       try simp only [go_sem]
       refine zq ?_
       refine zd ?_;refine zx ?_
       try simp only [go_sem]
       refine zb fun K hK=>?_;simp only [go_sem,w1];refine hK _ ?_;clear hK K
       try simp only [go_sem]
       refine ⟨hlt,zfo [] ?_ ?_⟩
       · try simp only [go_sem]
         omega
       · try simp only [go_sem]
     · simp only [go_sem];refine hK _ ?_;clear hK K;refine zw (zk [22]) ?_;simp only [go_sem]
       refine zc rfl (fun hc=>?_) (fun hc=>?_) <;> (try simp only [go_sem] at hc)
       refine zf ?_;simp only [go_sem];exact ⟨_,_,.inr rfl⟩
   · have e2 : decide (lowG r.out + (i : Int) ≤ r.start) = false:=by simp;omega
     have h0 : xs.drop i = []:=List.drop_eq_nil_of_le (by omega)
     rw [h0]
     repeat refine zq ?_
     refine zb fun K hK=>?_;simp only [go_sem,e2];refine hK _ ?_;clear hK K;refine zw (zk [22]) ?_;simp only [go_sem]
     refine zc rfl (fun hc=>?_) (fun hc=>?_) <;> (try simp only [go_sem] at hc)
     refine zf ?_;simp only [go_sem];exact ⟨_,_,.inl rfl⟩
def nevL (r : Rk) (T : List Int) (i : Nat) : List Int:=((List.range i).filter fun j=>decide (T.getD ((lowG r.out).toNat + j) 0 = 2000000000)).map fun (j : Nat)=>lowG r.out + (j : Int)
theorem nevL_succ (r : Rk) (T : List Int) (i : Nat) : nevL r T (i + 1) = if T.getD ((lowG r.out).toNat + i) 0 = 2000000000 then nevL r T i ++ [lowG r.out + (i : Int)] else nevL r T i:=by
 unfold nevL
 rw [List.range_succ,List.filter_append,List.map_append]
 by_cases h : T.getD ((lowG r.out).toNat + i) 0 = 2000000000
 · have e : ([i].filter fun j=>decide (T.getD ((lowG r.out).toNat + j) 0 = 2000000000)) = [i]:=by rw [List.filter_cons,if_pos (decide_eq_true h)];rfl
   rw [if_pos h,e];rfl
 · have e : ([i].filter fun j=>decide (T.getD ((lowG r.out).toNat + j) 0 = 2000000000)) = []:=by rw [List.filter_cons,if_neg (by rw [decide_eq_false h];decide)];rfl
   rw [if_neg h,e];simp
theorem nevL_len (r : Rk) (T : List Int) (i : Nat) : (nevL r T i).length ≤ i:=by
 unfold nevL
 rw [List.length_map]
 have:=List.length_filter_le (fun j=>decide (T.getD ((lowG r.out).toNat + j) 0 = 2000000000)) (List.range i)
 simpa using this
theorem never_ok (r : Rk) (hw : WfL r.d r.aims) : ACalls Try.prog 18 [rkR r] (.tu [if checkR r = 0 then ints (nevL r (tabT r false) (cntA r)) else .ns,i64 (checkR r)]):=by
 have hch:=acheck_ok r hw
 refine acalls_stR (rs:=[if checkR r = 0 then ints (nevL r (tabT r false) (cntA r)) else .ns,i64 (checkR r)]) [.cell 2 33,.tmp 3] Try.func18 rfl (by kernel_rfl) Try.ntmps18 rfl (by simp) rfl fun C hC vs=>?_
 refine zq ?_
 refine zb fun K hK=>?_;simp only [go_sem];refine hK _ ?_;clear hK K;refine zw (zfP 1 1 [i64 r.d,aimsR r.aims,i64 r.start,i64 r.out] (by omega) rfl rfl) ?_;refine zw (zk [1,2,3]) ?_;simp only [go_sem]
 repeat refine zq ?_
 refine zb fun K hK=>?_;simp only [go_sem]
 refine zh (hch) rfl (by simp only [go_sem,i64,ints]) (by simp only [go_sem,i64,ints]) (by first | exact .inl rfl | exact .inr rfl) ?_
 (try simp only [go_sem]);refine hK _ ?_;clear hK K;refine zw (zk [1,2,3,4]) ?_;simp only [go_sem]
 refine zq ?_
 refine zb fun K hK=>?_;simp only [go_sem];refine hK _ ?_;clear hK K;refine zw (zk [1,2,3,4,10]) ?_;simp only [go_sem]
 by_cases h0 : checkR r = 0
 · have e0 : (checkR r != 0) = false:=by simp [h0]
   obtain ⟨_,hr⟩:=checkR_zero h0
   have hf:=filled_ok r false hr
   have hst:=hr.start
   have hlg:=lowG_le r.out
   have htl : (tabT r false).length = (r.start + 1).toNat:=(tab_eq hr false (cntA r) (Nat.le_refl _)).2.1
   have hcnt : (cntA r : Int) = r.start + 1 - lowG r.out:=by unfold cntA;omega
   rw [if_pos h0,e0,h0]
   generalize tabT r false = T at *
   refine zc rfl (fun hc=>?_) (fun hc=>?_) <;> (try simp only [go_sem] at hc)
   refine zx ?_
   try simp only [go_sem]
   refine zq ?_
   refine zb fun K hK=>?_;simp only [go_sem]
   refine zh (hf) rfl (by simp only [go_sem,i64,ints]) (by simp only [go_sem,i64,ints]) (by first | exact .inl rfl | exact .inr rfl) ?_
   (try simp only [go_sem]);refine hK _ ?_;clear hK K;refine zw (zfP 5 5 [.rp (tabC r false T)] (by omega) rfl rfl) ?_;refine zw (zk [2,3,5]) ?_;simp only [go_sem]
   repeat refine zq ?_
   refine awp_long ?_
   refine sops_take 1 (by kernel_rfl) fun K hK=>?_
   simp only [go_sem,List.take_succ_cons,List.take_zero,List.drop_succ_cons,List.drop_zero,List.append_eq,List.cons_append,List.nil_append]
   refine hK _ rfl ?_
   clear hK K
   refine sops_gop rfl (by intro t h;injection h with h;subst h;show 15 < 30;decide) (by intro c h;cases h) (gop_method rfl (v:=.rp (tabC r false T)) (by simp only [go_sem]) ?_)
   try simp only [go_sem]
   refine sops_end (by kernel_rfl) fun K hK=>?_
   simp only [go_sem,List.drop_succ_cons,List.drop_zero,List.append_eq,List.cons_append,List.nil_append];refine hK _ ?_;clear hK K;refine zw (sub_ownB 2 0 28 3 1 (by omega) (by omega) rfl (by rfl)) ?_
   try simp only [go_sem]
   refine zw (zk [2,3,5,15]) ?_;simp only [go_sem];refine zd ?_
   refine awp_rangeFB (n:=30) hC ((List.range (cntA r)).map fun (i : Nat)=>[i64 (lowG r.out + (i : Int))]) (scoresP_ok r false T (by omega)) [2,3,5,15] (by decide)
    (fun vs=>[(2,.pt 2 (vs 2) 0),(3,.r (i64 0)),(5,.r (.rp [.rp (tabC r false T)])),(15,.r (.bf 57 [.rp (tabC r false T)]))])
    (fun i vs=>[(2,.box [.os 28 (vs 28) 1 0 (nevL r T i).length]),(28,.arr 3 1 (arrV (nevL r T i)))]) (fun i=>i ≤ cntA r) (zj [] ?_ ?_) (Nat.zero_le _)
    (fun _=>rfl) (fun _=>rfl) (fun _ _=>rfl) (by decide) (fun e he=>by obtain ⟨i,_,rfl⟩:=List.mem_map.1 he;rfl) ?_ ?_
   · try simp only [go_sem]
   · try simp only [go_sem]
     rfl
   · intro i e vs us C' he hi
     have hil : i < cntA r:=by
      have:=(List.getElem?_eq_some_iff.1 he).1
      simpa using this
     obtain ⟨q,hq⟩ : ∃ q,q = (lowG r.out).toNat + i:=⟨_,rfl⟩
     have hqi : lowG r.out + (i : Int) = (q : Int):=by omega
     have he' : e = [i64 (q : Int)]:=by
      simp [hil] at he
      rw [← he,hqi]
     subst he'
     have hql : q < T.length:=by rw [htl];omega
     obtain ⟨x,hx⟩:=zol hql
     have gx : T.getD q 0 = x:=by simp [List.getD,hx]
     have hsn:=nevL_succ r T i
     rw [← hq,gx,hqi] at hsn
     have hnl:=nevL_len r T i
     refine zb fun K hK=>?_;simp only [go_sem];refine hK _ ?_;clear hK K
     refine ⟨rfl,fun C''=>?_⟩
     refine zw (zk [2,5,6]) ?_;simp only [go_sem];refine zd ?_
     refine zq ?_
     refine zb fun K hK=>?_;simp only [go_sem,hx,hql];refine hK _ ?_;clear hK K;refine zw (zk [2,6,24]) ?_;simp only [go_sem]
     by_cases hxn : x = 2000000000
     · have e1 : (x == 2000000000) = true:=by simpa using hxn
       rw [if_pos hxn] at hsn
       rw [e1]
       refine zc rfl (fun hc=>?_) (fun hc=>?_) <;> (try simp only [go_sem] at hc)
       refine zb fun K hK=>?_;simp only [go_sem,List.length_map]
       refine ⟨by omega,?_⟩
       refine hK _ ?_;clear hK K
       try simp only [go_sem]
       refine ⟨by omega,?_⟩
       rw [hsn]
       refine zj (F:=fun _=>[]) [] ?_ ?_
       · try simp only [go_sem]
       · try simp only [go_sem]
         simp
     · have e1 : (x == 2000000000) = false:=by simpa using hxn
       rw [if_neg hxn] at hsn
       rw [e1]
       refine zc rfl (fun hc=>?_) (fun hc=>?_) <;> (try simp only [go_sem] at hc)
       refine zx ?_
       try simp only [go_sem]
       rw [hsn]
       exact ⟨by omega,vs,sub_look _ (allEq_mem (by simp only [go_sem]))⟩
   · intro vs us hi
     have hel : ((List.range (cntA r)).map fun (i : Nat)=>[i64 (lowG r.out + (i : Int))]).length = cntA r:=by simp
     rw [hel]
     have hnl:=nevL_len r T (cntA r)
     generalize nevL r T (cntA r) = N at *
     have htk : (arrV N).take N.length = arrV N:=List.take_of_length_le (by simp)
     try simp only [go_sem]
     refine zw (sub_wake rfl) ?_;refine zw (zk [2]) ?_;simp only [go_sem]
     refine zq ?_
     refine zb fun K hK=>?_;simp only [go_sem];refine hK _ ?_;clear hK K;refine zw (zk [2,3]) ?_;simp only [go_sem];refine ze ?_;simp only [go_sem]
 · have e0 : (checkR r != 0) = true:=by simpa using h0
   rw [if_neg h0,e0]
   refine zc rfl (fun hc=>?_) (fun hc=>?_) <;> (try simp only [go_sem] at hc)
   refine zq ?_
   refine zb fun K hK=>?_;simp only [go_sem];refine hK _ ?_;clear hK K;refine zw (zk [2,3]) ?_;simp only [go_sem];refine ze ?_;simp only [go_sem]
end Go.Proofs.Ytgfbenanljjgaaa.Du.Th.Ai

namespace Go.Oc
open Go Go.RowKit
def NamedU (n : Nat) (F : Addr → (Nat → Nat) → List (Nat × AV)) (R : Addr → (Nat → Nat) → List (Nat × RowC)) (s : AS) : Prop:=∀ C a w,SRel C s a w → ∃ x vs,SRel C (st n (F x vs) vs (R x vs)) a w
theorem named_fit {n : Nat} {F : Addr → (Nat → Nat) → List (Nat × AV)} {R : Addr → (Nat → Nat) → List (Nat × RowC)} {x : Addr} {s : AS} (h : FitV n (F x) (R x) s) : NamedU n F R s:=fun C a w hs=>by
 obtain ⟨vs,hsub⟩:=h
 exact ⟨x,vs,hsub C a w hs⟩
theorem named_name {n : Nat} {F : Addr → (Nat → Nat) → List (Nat × AV)} {R : Addr → (Nat → Nat) → List (Nat × RowC)} {l : List (Nat × AV)} {vs : Nat → Nat} {cs : List (Nat × RowC)} (t : Nat) {k v : Nat} (ht : look l t = .pt k v 0) (hv : v = vs k) (h : ∀ u,FitV n (F u) (R u) (st n ((t,.pu k v u) :: l) vs cs)) : NamedU n F R (st n l vs cs):=fun C a w ⟨p,hp⟩=>by
 have hx:=hp.tm t
 have e2 : (st n l vs cs).tm t = .pt k v 0:=ht
 rw [e2] at hx
 simp only [AV.rel] at hx
 obtain ⟨b,hb,hbv⟩:=hx.2 (by rw [hv];rfl)
 obtain ⟨vs',hsub⟩:=h ⟨b,0,none⟩
 refine ⟨⟨b,0,none⟩,vs',hsub C a w ⟨p,{ hp with tm:=fun j=>?_ }⟩⟩
 show AV.rel w _ _ (look ((t,.pu k v ⟨b,0,none⟩) :: l) j) _
 rw [look_cons]
 split
 · rename_i e
   subst e
   simp only [AV.rel];exact ⟨hbv,hx⟩
 · exact hp.tm j
def stepAllU (P : Program) (ops : Array Oper) (n : Nat) (F : Addr → (Nat → Bool) → (Nat → Nat) → List (Nat × AV)) (R : Addr → (Nat → Bool) → (Nat → Nat) → List (Nat × RowC)) : Nat → List Oper → Prop
 | _,[]=>True
 | k,o :: rest=>(∀ x b vs,(∀ j e,j < ops.size → (deps ops j).contains e = true → b j = true → b e = true) → b k = false → (∀ e ∈ deps ops k,b e = true) →
  xop P false o (NamedU n (fun x=>F x (upd b k true)) (fun x=>R x (upd b k true))) (st n (F x b vs) vs (R x b vs))) ∧ stepAllU P ops n F R (k + 1) rest
theorem stepAllU_get {P : Program} {ops : Array Oper} {n : Nat} {F : Addr → (Nat → Bool) → (Nat → Nat) → List (Nat × AV)} {R : Addr → (Nat → Bool) → (Nat → Nat) → List (Nat × RowC)} : ∀ {l : List Oper} {k i : Nat} {o : Oper},stepAllU P ops n F R k l → l[i]? = some o →
 ∀ x b vs, (∀ j e, j < ops.size → (deps ops j).contains e = true → b j = true → b e = true) → b (k + i) = false → (∀ e ∈ deps ops (k + i), b e = true) →
   xop P false o (NamedU n (fun x=>F x (upd b (k + i) true)) (fun x=>R x (upd b (k + i) true))) (st n (F x b vs) vs (R x b vs))
 | [],_,_,_,_,h=>by simp at h
 | x :: l, k, 0, o, hs, h => by
   simp at h
   subst h
   exact hs.1
 | x :: l, k, i + 1, o, hs, h => by
   have:=stepAllU_get (k:=k + 1) (i:=i) hs.2 (by simpa using h)
   rwa [show k + 1 + i = k + (i + 1) by omega] at this
section
variable {P : Program} {C : Ctx} {s : AS} {a : Act} {w : World} {ops : Array Oper}
theorem inv_anyU {Q : AS → Prop} {Q' : Exit → Act → World → Prop} (hQ : ∀ s a w,Q s → SRel C s a w → Q' .normal a w) {n : Nat} {F : Addr → (Nat → Bool) → (Nat → Nat) → List (Nat × AV)} {R : Addr → (Nat → Bool) → (Nat → Nat) → List (Nat × RowC)}
 (hd : dstOk ops n = true) (hg : ops.all (fun o=>o.guard.isNone) = true) (hu : upOk ops = true) (hstep : stepAllU P ops n F R 0 ops.toList)
 (hend : ∀ x b vs,(∀ j,b j = true) → Q (st n (F x b vs) vs (R x b vs))) :
 ∀ (fuel : Nat) (x : Addr) (vs : Nat → Nat) (listed : Array Bool) (a : Act) (w : World), listed.size = ops.size → down ops listed → unl listed ops.size ≤ fuel → SRel C (st n (F x (fun j => listed.getD j true) vs) vs (R x (fun j => listed.getD j true) vs)) a w →
   wpAnyIn (fnc C.rd) 0 P .any ops Q' fuel listed a w:=by
 have all : ∀ {listed : Array Bool},listed.size = ops.size → (∀ j,j < ops.size → listed.getD j true = true) → ∀ j,(fun j=>listed.getD j true) j = true:=fun {listed} hsz h j=>by
  by_cases hj : j < ops.size
  · exact h j hj
  · show listed.getD j true = true
    have : ¬ j < listed.size:=by omega
    simp [this]
 intro fuel
 induction fuel with
 | zero =>
   intro x vs listed a w hsz hdn hf hs
   have h0:=unl_zero (listed:=listed) ops.size (by omega)
   refine ⟨List.eq_nil_iff_forall_not_mem.2 fun j hj=>?_,hQ _ _ _ (hend _ _ _ (all hsz h0)) hs⟩
   obtain ⟨h1,o,ho,_⟩:=mem_ready.1 hj
   have:=h0 j (Array.getElem?_eq_some_iff.1 ho).1
   rw [this] at h1
   cases h1
 | succ fuel ih =>
   intro x vs listed a w hsz hdn hf hs
   refine ⟨fun h0=>hQ _ _ _ (hend _ _ _ (all hsz (ready_nil hu h0 hsz))) hs,fun i hi=>?_⟩
   obtain ⟨hi1,o,ho,hall⟩:=mem_ready.1 hi
   unfold wpOpIn
   rw [ho]
   simp only
   have hil : i < ops.size:=(Array.getElem?_eq_some_iff.1 ho).1
   have hgo : o.guard = none:=by
    have:=Array.all_eq_true_iff_forall_mem.1 hg o (Array.mem_of_getElem? ho)
    simpa using this
   obtain ⟨p,hp⟩:=hs
   rw [if_pos (wantA_sound hp (by simp [wantA,hgo]))]
   have hx:=stepAllU_get (k:=0) (i:=i) hstep (by rw [Array.getElem?_toList];exact ho) x (fun j=>listed.getD j true) vs (fun j e hj he hb=>?_) (by rw [Nat.zero_add];exact hi1) (fun e he=>?_)
   · rw [Nat.zero_add] at hx
     refine xop_sound hp hx (dstOk_get hd ho) (fun a' w' p' s' hs' hn hK=>?_) (dstOk_nd hd ho)
     obtain ⟨x',vs',hsub⟩:=hK C a' w' ⟨p',hs'⟩
     have e : upd (fun j=>listed.getD j true) i true = fun j=>(listed.setIfInBounds i true).getD j true:=by
      funext j
      rw [getD_setT]
      rfl
     rw [e] at hsub
     exact ih x' vs' _ a' w' (by simpa using hsz) (down_set hdn hi) (by have:=unl_set hi1 ops.size hil;omega) hsub
   · have hjs : j < listed.size:=by omega
     have hb' : listed.getD j true = true:=hb
     have h2:=hdn j (by simpa [hjs] using hb') e (by simpa using he)
     show listed.getD e true = true
     by_cases hes : e < listed.size
     · simpa [hes] using h2
     · simp [hes]
   · have h2:=ready_deps hi e (by simpa using he)
     show listed.getD e true = true
     by_cases hes : e < listed.size
     · simpa [hes] using h2
     · simp [hes]
end
theorem awp_invU {P : Program} {C : Ctx} {id : Nat} {l : List Oper} {n : Nat} {Q : Exit → AS → Prop} {s : AS} (F : Addr → (Nat → Bool) → (Nat → Nat) → List (Nat × AV)) (R : Addr → (Nat → Bool) → (Nat → Nat) → List (Nat × RowC)) (x0 : Addr) (hm : P.follows .mixedOrders = true)
 (hd : dstOk l.toArray n = true) (hg : l.toArray.all (fun o=>o.guard.isNone) = true) (hu : upOk l.toArray = true) (h0 : FitV n (F x0 fun j=>decide (l.length ≤ j)) (R x0 fun j=>decide (l.length ≤ j)) s)
 (hstep : stepAllU P l.toArray n F R 0 l) (hend : ∀ x b vs,(∀ j,b j = true) → Q .normal (st n (F x b vs) vs (R x b vs))) : awp P C (.region id l.toArray true) Q s:=fun a w hs=>by
 obtain ⟨vs,hsub⟩:=h0
 obtain ⟨p,hp⟩:=hsub C a w hs
 have hs' : SR C p _ a { w with drawn:=w.drawn + 1 }:=hp.below (w':=w.drew) ((Below.refl _ _).drew) (fun _ h=>h) (fun _ h=>.inl h) hp.rb
 refine wpIn_region_any hm ?_
 have e : (fun j=>(Array.replicate l.toArray.size false).getD j true) = fun j=>decide (l.length ≤ j):=by
  funext j
  by_cases h : j < l.length
  · have : ¬ l.length ≤ j:=by omega
    simp [h,this]
  · have : l.length ≤ j:=by omega
    simp [h,this]
 refine inv_anyU (Q:=fun s=>Q .normal s) (n:=n) (F:=F) (R:=R) (fun s a w hq hs=>⟨s,hs,hq⟩) hd hg hu (by simpa using hstep) hend _ x0 vs _ _ _ (by simp) (fun j hj=>?_) ?_ ?_
 · exfalso
   simp only [Array.getD_eq_getD_getElem?,Array.getElem?_replicate] at hj
   split at hj <;> simp at hj
 · have : ∀ m,unl (Array.replicate l.toArray.size false) m ≤ m:=by
    intro m
    induction m with
    | zero=>exact Nat.le_refl _
    | succ m ih=>simp only [unl];split <;> omega
   exact this _
 · rw [e]
   exact ⟨p,hs'⟩
end Go.Oc

namespace Go.Proofs.Ytgfbenanljjgaaa.Du.Th.Ai.At
open Go Go.Oc
set_option maxRecDepth 8000
set_option maxHeartbeats 8000000
def atV (r : Rk) (s : Bool) (T : List Int) (st left k : Nat) : List Int:=r.aims.map (meanA r s (T.getD st 0) (left : Int) (valA r s T (T.getD st 0) k))
def vY (b : Nat → Bool) (j : Nat) (v : AV) : AV:=if b j then v else .r .un
def mkF (r : Rk) (s : Bool) (T : List Int) (st left k : Nat) (u : Addr) (b : Nat → Bool) (vs : Nat → Nat) : List (Nat × AV) :=
 [(2,.r (.bo s)),(3,.r (.rp [i64 r.d,aimsR r.aims,i64 r.start,i64 r.out])),(4,.r (.rp [i64 (st : Int),i64 (left : Int),i64 ((k : Int) + 1)])),(6,.pt 6 (vs 6) 0),
  (9,vY b 0 (.r (rkR r))),
  (10,vY b 1 (.r (.bo s))),
  (11,vY b 2 (.r (.rp (tabC r s T)))),
  (12,vY b 3 (.r (.rp [i64 (st : Int),i64 (left : Int),i64 ((k : Int) + 1)]))),
  (13,vY b 4 (.r (i64 (st : Int)))),
  (14,vY b 5 (.pu 30 (vs 30) u)),
  (15,vY b 6 (.r (.rp [i64 (left : Int),i64 ((k : Int) + 1)]))),
  (16,vY b 7 (.r (i64 (left : Int)))),
  (17,vY b 8 (.r (.rp [i64 ((k : Int) + 1)]))),
  (18,vY b 9 (.r (i64 ((k : Int) + 1)))),
  (19,vY b 10 (.r (.fn 130 (capM u left k))))]
def mkR (vis : List AV) (u : Addr) (b : Nat → Bool) (vs : Nat → Nat) : List (Nat × RowC) :=
 bif b 5 then [(6,.box [.r .ns]),(30,.box vis)] else [(6,.box [.r .ns])]
theorem at_ok {r : Rk} (hr : ROk r) (s : Bool) (st left k : Nat) (hk : k ≤ 2) (hlo : lowG r.out ≤ left) (hle : left ≤ st) (hst : (st : Int) ≤ r.start) :
 ACalls Try.prog 61 [rkR r,.ag [i64 (st : Int),i64 (left : Int),i64 ((k : Int) + 1)],.bo s] (ints (atV r s (tabT r s) st left k)):=by
 have hrs:=hr.start
 have hlg:=lowG_le r.out
 have htt:=tab_eq hr s (cntA r) (Nat.le_refl _)
 have hfi:=filled_ok r s hr
 obtain ⟨T,hT⟩ : ∃ T,T = tabT r s:=⟨_,rfl⟩
 have hTl : T.length = (r.start + 1).toNat:=by rw [hT];exact htt.2.1
 have hTv : ∀ x ∈ T,VOk x:=by rw [hT];exact htt.2.2
 rw [← hT] at hfi ⊢
 have hvs : VsOk r s T st:=⟨hr,hTl,hTv,by omega,hst⟩
 have hK0:=okK_zero r s T (ownV T st)
 have hfr:=from_ok r s T st
 generalize List.replicate 244 (0 : Int) = K0 at *
 have hMf : MfOk r s T (ownV T st) left (valM r s T (ownV T st) k) (valA r s T (ownV T st) k):=fun x K' q1 q2 q3=>valM_ok hr hTv hvs.own k (by omega) x K' q1 (by omega) q3
 have hA1:=(aimsM_ok hMf r.aims K0 hr.aims hK0).1
 have hM : atV r s T st left k = (aimsM r s (ownV T st) left (valM r s T (ownV T st) k) r.aims K0).1:=by rw [hA1];rfl
 have hJ:=fun u=>means1_ok hvs hk (value_ok hvs k (by omega)) u left K0 hlo hle hK0
 rw [hM]
 generalize aimsM r s (ownV T st) left (valM r s T (ownV T st) k) r.aims K0 = A at *
 have hAl : A.1.length ≤ 20:=by rw [hA1,List.length_map];exact hr.len
 have follows : Try.prog.follows .mixedOrders = true:=by kernel_rfl
 refine acalls_stR (rs:=[ints A.1]) [.cell 6 33] Try.func61 rfl (by kernel_rfl) Try.ntmps61 rfl (by simp) rfl fun C hC vs=>?_
 refine zq ?_
 refine zb fun K hK=>?_;simp only [go_sem];refine hK _ ?_;clear hK K;refine zw (zfP 3 3 [i64 r.d,aimsR r.aims,i64 r.start,i64 r.out] (by omega) rfl rfl) ?_;refine zw (zfP 4 4 [i64 (st : Int),i64 (left : Int),i64 ((k : Int) + 1)] (by omega) rfl rfl) ?_;refine zw (zk [2,3,4,6]) ?_;simp only [go_sem]
 repeat refine zq ?_
 refine awp_invU (n:=27) (mkF r s T st left k) (mkR (visA r s T st K0)) ⟨0,0,none⟩ follows (by kernel_rfl) (by kernel_rfl) (by decide +kernel) (zj [] ?_ ?_) ?_ ?_
 · simp only [go_sem,mkF,vY,if_true,if_false,Bool.false_eq_true,cond_false]
 · simp only [go_sem,mkR,cond_false,List.cons_append,List.nil_append]
 · refine ⟨fun u b vs hdn hbk hde=>?_,fun u b vs hdn hbk hde=>?_,fun u b vs hdn hbk hde=>?_,fun u b vs hdn hbk hde=>?_,fun u b vs hdn hbk hde=>?_,fun u b vs hdn hbk hde=>?_,fun u b vs hdn hbk hde=>?_,fun u b vs hdn hbk hde=>?_,fun u b vs hdn hbk hde=>?_,fun u b vs hdn hbk hde=>?_,fun u b vs hdn hbk hde=>?_,trivial⟩
   · skip
     have G:=dnT hdn hbk [2,5,10] (by decide +kernel)
     simp only [allB,and_true] at G
     (simp only [go_sem,mkF,mkR,upd,vY,cond_true,cond_false,if_true,Bool.false_eq_true,if_false,hbk,G])
     all_goals (refine named_fit (x:=u) (zj [] ?_ ?_) <;> (simp only [go_sem,mkF,mkR,upd,vY,cond_true,cond_false,if_true,Bool.false_eq_true,if_false,hbk,G]))
   · skip
     have G:=dnT hdn hbk [2,5,10] (by decide +kernel)
     simp only [allB,and_true] at G
     (simp only [go_sem,mkF,mkR,upd,vY,cond_true,cond_false,if_true,Bool.false_eq_true,if_false,hbk,G])
     all_goals (refine named_fit (x:=u) (zj [] ?_ ?_) <;> (simp only [go_sem,mkF,mkR,upd,vY,cond_true,cond_false,if_true,Bool.false_eq_true,if_false,hbk,G]))
   · skip
     have H:=upT hdn hde [0,1] (by decide +kernel)
     have G:=dnT hdn hbk [5,10] (by decide +kernel)
     simp only [allB,and_true] at H G
     (simp only [go_sem,mkF,mkR,upd,vY,cond_true,cond_false,if_true,Bool.false_eq_true,if_false,hbk,H,G])
     all_goals (refine zh hfi rfl (by simp only [go_sem,i64,ints]) (by simp only [go_sem,i64,ints]) (by first | exact .inl rfl | exact .inr rfl) ?_)
     all_goals (simp only [go_sem,mkF,mkR,vY,cond_true,cond_false,if_true,Bool.false_eq_true,if_false,hbk,H,G])
     all_goals (refine named_fit (x:=u) (zj [] ?_ ?_) <;> (simp only [go_sem,mkF,mkR,upd,vY,cond_true,cond_false,if_true,Bool.false_eq_true,if_false,hbk,H,G]))
   · skip
     have G:=dnT hdn hbk [4,5,10] (by decide +kernel)
     simp only [allB,and_true] at G
     (simp only [go_sem,mkF,mkR,upd,vY,cond_true,cond_false,if_true,Bool.false_eq_true,if_false,hbk,G])
     all_goals (refine named_fit (x:=u) (zj [] ?_ ?_) <;> (simp only [go_sem,mkF,mkR,upd,vY,cond_true,cond_false,if_true,Bool.false_eq_true,if_false,hbk,G]))
   · skip
     have H:=upT hdn hde [3] (by decide +kernel)
     have G:=dnT hdn hbk [5,10] (by decide +kernel)
     simp only [allB,and_true] at H G
     (simp only [go_sem,mkF,mkR,upd,vY,cond_true,cond_false,if_true,Bool.false_eq_true,if_false,hbk,H,G])
     all_goals (refine named_fit (x:=u) (zj [] ?_ ?_) <;> (simp only [go_sem,mkF,mkR,upd,vY,cond_true,cond_false,if_true,Bool.false_eq_true,if_false,hbk,H,G]))
   · skip
     have H:=upT hdn hde [2,2,4,0,1,3] (by decide +kernel)
     have G:=dnT hdn hbk [10] (by decide +kernel)
     simp only [allB,and_true] at H G
     (simp only [go_sem,mkF,mkR,upd,vY,cond_true,cond_false,if_true,Bool.false_eq_true,if_false,hbk,H,G])
     all_goals (refine xcall_new hfr [(8,30)] rfl (by rfl) (by rfl) (by rfl) (by rfl) (by rfl) ?_)
     all_goals (simp only [go_sem,idK,backA,backC,backL,back_tA,pinOf,zLk])
     all_goals (refine named_name 14 (by rfl) (by rfl) fun u=>?_)
     all_goals (refine zj [] ?_ ?_ <;> (simp only [go_sem,mkF,mkR,upd,vY,cond_true,cond_false,if_true,Bool.false_eq_true,if_false,hbk,H,G]))
   · skip
     have G:=dnT hdn hbk [7,10] (by decide +kernel)
     simp only [allB,and_true] at G
     cases g5 : b 5
     all_goals (simp only [go_sem,mkF,mkR,upd,vY,cond_true,cond_false,if_true,Bool.false_eq_true,if_false,hbk,G,g5])
     all_goals (refine named_fit (x:=u) (zj [] ?_ ?_) <;> (simp only [go_sem,mkF,mkR,upd,vY,cond_true,cond_false,if_true,Bool.false_eq_true,if_false,hbk,G,g5]))
   · skip
     have H:=upT hdn hde [6] (by decide +kernel)
     have G:=dnT hdn hbk [10] (by decide +kernel)
     simp only [allB,and_true] at H G
     cases g5 : b 5
     all_goals (simp only [go_sem,mkF,mkR,upd,vY,cond_true,cond_false,if_true,Bool.false_eq_true,if_false,hbk,H,G,g5])
     all_goals (refine named_fit (x:=u) (zj [] ?_ ?_) <;> (simp only [go_sem,mkF,mkR,upd,vY,cond_true,cond_false,if_true,Bool.false_eq_true,if_false,hbk,H,G,g5]))
   · skip
     have G:=dnT hdn hbk [9,10] (by decide +kernel)
     simp only [allB,and_true] at G
     cases g5 : b 5
     all_goals (simp only [go_sem,mkF,mkR,upd,vY,cond_true,cond_false,if_true,Bool.false_eq_true,if_false,hbk,G,g5])
     all_goals (refine named_fit (x:=u) (zj [] ?_ ?_) <;> (simp only [go_sem,mkF,mkR,upd,vY,cond_true,cond_false,if_true,Bool.false_eq_true,if_false,hbk,G,g5]))
   · skip
     have H:=upT hdn hde [8] (by decide +kernel)
     have G:=dnT hdn hbk [10] (by decide +kernel)
     simp only [allB,and_true] at H G
     cases g5 : b 5
     all_goals (simp only [go_sem,mkF,mkR,upd,vY,cond_true,cond_false,if_true,Bool.false_eq_true,if_false,hbk,H,G,g5])
     all_goals (refine named_fit (x:=u) (zj [] ?_ ?_) <;> (simp only [go_sem,mkF,mkR,upd,vY,cond_true,cond_false,if_true,Bool.false_eq_true,if_false,hbk,H,G,g5]))
   · skip
     have H:=upT hdn hde [5,5,7,9,2,4,6,8,0,1,3] (by decide +kernel)
     simp only [allB,and_true] at H
     (simp only [go_sem,mkF,mkR,upd,vY,cond_true,cond_false,if_true,Bool.false_eq_true,if_false,hbk,H])
     all_goals (refine zh (means_ok u left k) rfl (by simp only [go_sem,i64,ints]) (by simp only [go_sem,i64,ints]) (by first | exact .inl rfl | exact .inr rfl) ?_)
     all_goals (simp only [go_sem,mkF,mkR,vY,cond_true,cond_false,if_true,Bool.false_eq_true,if_false,hbk,H])
     all_goals (refine named_fit (x:=u) (zj [] ?_ ?_) <;> (simp only [go_sem,mkF,mkR,upd,vY,cond_true,cond_false,if_true,Bool.false_eq_true,if_false,hbk,H]))
 intro u b vs hb
 simp only [go_sem,mkF,mkR,vY,hb,if_true,cond_true,List.cons_append,List.nil_append];refine zw (sub_ownB 6 0 25 3 1 (by omega) (by omega) rfl (by rfl)) ?_
 try simp only [go_sem]
 refine zw (zk [14,6,19]) ?_;simp only [go_sem];refine zd ?_
 refine Eq.mp (congrArg (fun z=>awp _ _ _ _ (Go.Oc.st 27 _ _ [_,_,(30,RowC.box z)])) (visR_A r s T st K0)) ?_
 have hlen : (enumM A.1).length = A.1.length:=by simp [enumM]
 refine awp_rangeG (n:=27) (t:=19) hC 30 14 u (by omega) (by omega) (visR r s T st K0) (visR r s T st A.2) (enumM A.1) (hJ u) [6,19] (by decide) (by decide) (by decide)
  (fun vs=>[(6,.pt 6 (vs 6) 0),(19,.r (.fn 130 (capM u left k)))])
  (fun i vs=>[(6,.box [.os 25 (vs 25) 1 0 i]),(25,.arr 3 1 (arrV (A.1.take i)))]) (fun i=>i ≤ A.1.length) (upd vs 25 (vs 25 + 1)) (Nat.zero_le _) ?_ ?_ ?_ (fun _=>rfl) ?_ (fun _ _=>rfl) ?_ ?_ ?_ ?_
 · rfl
 · rfl
 · rfl
 · rfl
 · decide
 · intro e he
   obtain ⟨i,hi⟩:=List.getElem?_of_mem he
   simp only [enumM,List.getElem?_mapIdx,Option.map_eq_some_iff] at hi
   obtain ⟨a,_,rfl⟩:=hi
   rfl
 · intro i e vs us C' he hi
   obtain ⟨x,hn⟩ : ∃ x,A.1[i]? = some x:=by
    simp only [enumM,List.getElem?_mapIdx,Option.map_eq_some_iff] at he
    obtain ⟨a,ha,_⟩:=he
    exact ⟨a,ha⟩
   have he' : e = [i64 (i : Int),i64 x]:=by
    simp only [enumM,List.getElem?_mapIdx,hn,Option.map_some,Option.some.injEq] at he
    exact he.symm
   subst he'
   have hil : i < A.1.length:=(List.getElem?_eq_some_iff.1 hn).1
   have hsn : A.1.take (i + 1) = A.1.take i ++ [x]:=zto hn
   have hil2 : (A.1.take i).length = i:=by rw [List.length_take];omega
   rw [hsn]
   generalize A.1.take i = B at *
   refine zb fun K hK=>?_;simp only [go_sem];refine hK _ ?_;clear hK K
   refine ⟨rfl,fun C''=>?_⟩
   refine zw (zk [6,8,19]) ?_;simp only [go_sem];refine zd ?_;refine zb fun K hK=>?_;simp only [go_sem,hil2,List.length_map]
   refine ⟨by omega,?_⟩
   refine hK _ ?_;clear hK K
   try simp only [go_sem]
   refine ⟨by omega,?_⟩
   refine zj (F:=fun _=>[]) [] ?_ ?_
   · try simp only [go_sem]
   · try simp only [go_sem]
     simp
 · intro vs us hi
   rw [hlen,List.take_length]
   have htk : (arrV A.1).take A.1.length = arrV A.1:=List.take_of_length_le (by simp)
   try simp only [go_sem]
   refine zw (sub_wake rfl) ?_;refine zw (zk [6]) ?_;simp only [go_sem]
   refine zq ?_
   refine zb fun K hK=>?_;simp only [go_sem];refine hK _ ?_;clear hK K;refine zw (zk [6]) ?_;simp only [go_sem];refine ze ?_;simp only [go_sem]
end Go.Proofs.Ytgfbenanljjgaaa.Du.Th.Ai.At

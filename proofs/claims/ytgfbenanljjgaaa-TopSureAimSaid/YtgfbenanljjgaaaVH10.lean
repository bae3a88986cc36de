/- Part 10 of the texts of this claim. -/
import Derived.Test.YtgfbenanljjgaaaVH9
import Derived.Test.YtgfbenanljjgaaaVH6
namespace Go.Proofs.Ytgfbenanljjgaaa.Du.Th.Ai
open Go Go.Oc
set_option linter.unusedSimpArgs false
set_option linter.unusedVariables false
set_option maxRecDepth 8000
set_option maxHeartbeats 4000000
theorem newTable_ok (r : Rk) (s : Bool) (h0 : 0 ≤ r.start + 1) (h1 : r.start ≤ 1000) : NCalls Try.prog 92 [rkR r,.bo s] [(10,.arr 3 1 (arrV (List.replicate (r.start + 1).toNat 0))),(12,.box [.r (i64 r.d),.r (aimsR r.aims),.r (i64 r.start),.r (i64 r.out),.r (.bo s),.os 10 0 1 0 (r.start + 1).toNat])] (.pt 12 0 0):=by
 have w1 : IntKind.i64.wrap (r.start + 1) = r.start + 1:=by rw [zI] <;> omega
 refine ncalls_st (n:=13) _ _ (.tmp 4) Try.func92 rfl (by kernel_rfl) Try.ntmps92 rfl (by simp) rfl rfl fun C hC=>?_
 refine zq ?_
 refine zb fun K hK=>?_;simp only [go_sem,argL];refine hK _ ?_;clear hK K;refine zw (sub_frzP 2 2 [i64 r.d,aimsR r.aims,i64 r.start,i64 r.out] (by omega) rfl rfl) ?_;refine zw (zk [1,2]) ?_;simp only [go_sem]
 refine zq ?_
 refine awp_dreg2 [(1,none),(2,none)] follows (by decide +kernel) (by kernel_rfl) (by simp only [keysOk,List.mem_cons,List.not_mem_nil,forall_eq_or_imp,Oc.keyOf,go_sem]; simp) fun K hK=>?_
 simp only [go_sem,w1]
 refine ⟨⟨h0,by omega,by omega⟩,?_⟩
 refine hK _ ?_;clear hK K;refine zw (zk [4]) ?_;simp only [go_sem];refine ze ?_
 try simp only [go_sem]
 simp
theorem scores_ok (r : Rk) (u : Addr) (hs : r.start ≤ 1000) : HBCalls Try.prog u [(2,r.start),(3,r.out)] true 57 [.vl u] ((List.range (cntA r)).map fun (i : Nat)=>[i64 (lowG r.out + (i : Int))]):=by
 have hlg:=lowG_le r.out
 refine hbcalls_st Try.func57 rfl (by kernel_rfl) Try.ntmps57 rfl (by simp) fun C ll hPk=>?_
 refine zq ?_
 refine awp_long ?_
 refine sops_take 1 (by kernel_rfl) fun K hK=>?_
 simp only [go_sem,List.take_succ_cons,List.take_zero,List.drop_succ_cons,List.drop_zero,List.append_eq,List.cons_append,List.nil_append,argL]
 refine hK _ rfl ?_
 clear hK K
 refine sops_gop rfl (by intro t h; injection h with h; subst h; show 6 < 25; decide) (by intro c h; cases h) (gop_vlNil rfl (u:=u) (by simp only [go_sem]) ?_)
 try simp only [go_sem]
 refine sops_gop rfl (by intro t h; injection h with h; subst h; show 7 < 25; decide) (by intro c h; cases h) (gop_vlField rfl (u:=u) (by simp only [go_sem]) ty113 (off:=0) rfl ?_)
 try simp only [go_sem]
 refine sops_gop rfl (by intro t h; injection h with h; subst h; show 8 < 25; decide) (by intro c h; cases h) (gop_vlField rfl (u:=u) (by simp only [go_sem]) ty27 (off:=3) rfl ?_)
 try simp only [go_sem]
 refine sops_vlLoad hPk rfl (by intro t h; injection h with h; subst h; show 9 < 25; decide) (by intro c h; cases h) rfl (t:=25) (by simp only [go_sem]; rfl) rfl (off:=3) (m:=r.out) (by simp) (by simp only [go_sem]) (by simp only [go_sem]; rfl) ?_
 try simp only [go_sem]
 refine sops_end (by kernel_rfl) fun K hK=>?_
 simp only [go_sem,List.drop_succ_cons,List.drop_zero,List.append_eq,List.cons_append,List.nil_append]
 refine zh (alow_ok r.out) rfl (by simp only [go_sem,i64,ints]) (by simp only [go_sem,i64,ints]) (by first | exact .inl rfl | exact .inr rfl) ?_
 (try simp only [go_sem]);refine hK _ ?_;clear hK K;refine zw (zk [0,1,4]) ?_;simp only [go_sem];refine zd ?_
 obtain ⟨xs,hxs⟩ : ∃ xs : List (List RV),xs = (List.range (cntA r)).map fun (i : Nat)=>[i64 (lowG r.out + (i : Int))]:=⟨_,rfl⟩
 rw [← hxs]
 have hxl : xs.length = cntA r:=by rw [hxs]; simp
 have hcnt : (cntA r : Int) = max 0 (r.start + 1 - lowG r.out):=by unfold cntA; omega
 refine awp_upto (n:=25) (cntA r) (fun i vs=>[(0,.r (.vl u)),(1,.r (.yl ll)),(4,.r (i64 (lowG r.out + (i : Int))))])
  (fun i=>[(999,.gh Try.prog ll true (some (xs.drop i)))]) (fun _=>True) 0 (fit_of [] ?_ ?_) (Nat.zero_le _) trivial ?_
 · try simp only [go_sem]
   try simp
 · try simp only [go_sem]
 · intro i vs hi _
   have w1 : IntKind.i64.wrap (lowG r.out + (i : Int) + 1) = lowG r.out + (i : Int) + 1:=by rw [zI] <;> omega
   have e1 : lowG r.out + (i : Int) + 1 = lowG r.out + ((i + 1 : Nat) : Int):=by omega
   repeat refine zq ?_
   refine awp_long ?_
   refine sops_take 2 (by kernel_rfl) fun K hK=>?_
   simp only [go_sem,List.take_succ_cons,List.take_zero,List.drop_succ_cons,List.drop_zero,List.append_eq,List.cons_append,List.nil_append]
   refine hK _ rfl ?_
   clear hK K
   refine sops_gop rfl (by intro t h; injection h with h; subst h; show 13 < 25; decide) (by intro c h; cases h) (gop_vlNil rfl (u:=u) (by simp only [go_sem]) ?_)
   try simp only [go_sem]
   refine sops_gop rfl (by intro t h; injection h with h; subst h; show 14 < 25; decide) (by intro c h; cases h) (gop_vlField rfl (u:=u) (by simp only [go_sem]) ty113 (off:=0) rfl ?_)
   try simp only [go_sem]
   refine sops_gop rfl (by intro t h; injection h with h; subst h; show 15 < 25; decide) (by intro c h; cases h) (gop_vlField rfl (u:=u) (by simp only [go_sem]) ty27 (off:=2) rfl ?_)
   try simp only [go_sem]
   refine sops_vlLoad hPk rfl (by intro t h; injection h with h; subst h; show 16 < 25; decide) (by intro c h; cases h) rfl (t:=3) (by simp only [go_sem]; rfl) rfl (off:=2) (m:=r.start) (by simp) (by simp only [go_sem]) (by simp only [go_sem]; rfl) ?_
   try simp only [go_sem]
   by_cases hlt : i < cntA r
   · have e2 : decide (lowG r.out + (i : Int) ≤ r.start) = true:=by simp; omega
     have he : xs.drop i = [i64 (lowG r.out + (i : Int))] :: xs.drop (i + 1):=by
      refine drop_of_opt ?_
      rw [hxs]
      simp [hlt]
     refine sops_end (by kernel_rfl) fun K hK=>?_
     simp only [go_sem,List.drop_succ_cons,List.drop_zero,List.append_eq,List.cons_append,List.nil_append,e2]
     refine xcall_yield (z:=true) (e:=[i64 (lowG r.out + (i : Int))]) (rest:=xs.drop (i + 1)) (by simp only [go_sem,he]) rfl (by simp only [go_sem]) (.inl rfl) ?_ ?_
     · simp only [go_sem];refine hK _ ?_;clear hK K;refine zw (zk [0,1,4,22]) ?_;simp only [go_sem]
       refine zc rfl (fun hc=>?_) (fun hc=>?_) <;> (try simp only [go_sem] at hc)
       refine zx ?_
       try simp only [go_sem]
       refine zq ?_
       refine zd ?_;refine zx ?_
       try simp only [go_sem]
       refine zb fun K hK=>?_;simp only [go_sem,w1];refine hK _ ?_;clear hK K
       try simp only [go_sem]
       refine ⟨hlt,fit_of [] ?_ ?_⟩
       · try simp only [go_sem]
         omega
       · try simp only [go_sem]
     · simp only [go_sem];refine hK _ ?_;clear hK K;refine zw (zk [22]) ?_;simp only [go_sem]
       refine zc rfl (fun hc=>?_) (fun hc=>?_) <;> (try simp only [go_sem] at hc)
       refine zf ?_;simp only [go_sem];exact ⟨_,_,.inr rfl⟩
   · have e2 : decide (lowG r.out + (i : Int) ≤ r.start) = false:=by simp; omega
     have h0 : xs.drop i = []:=List.drop_eq_nil_of_le (by omega)
     rw [h0]
     refine sops_end (by kernel_rfl) fun K hK=>?_
     simp only [go_sem,List.drop_succ_cons,List.drop_zero,List.append_eq,List.cons_append,List.nil_append,e2];refine hK _ ?_;clear hK K;refine zw (zk [22]) ?_;simp only [go_sem]
     refine zc rfl (fun hc=>?_) (fun hc=>?_) <;> (try simp only [go_sem] at hc)
     refine zf ?_;simp only [go_sem];exact ⟨_,_,.inl rfl⟩
abbrev tabT (r : Rk) (s : Bool) : List Int:=tabA r s (cntA r)
theorem filled_ok (r : Rk) (s : Bool) (hr : ROk r) : ACalls Try.prog 56 [rkR r,.bo s] (.rp (tabC r s (tabT r s))):=by
 have hst:=hr.start
 have hlg:=lowG_le r.out
 have hnt:=newTable_ok r s (by omega) (by omega)
 obtain ⟨len,hlen⟩ : ∃ len,len = (r.start + 1).toNat:=⟨_,rfl⟩
 rw [← hlen] at hnt
 have hz : tabA r s 0 = List.replicate len 0:=by rw [hlen]; rfl
 rw [← hz] at hnt
 refine acalls_stR (rs:=[.rp (tabC r s (tabT r s))]) [.tmp 4] Try.func56 rfl (by kernel_rfl) Try.ntmps56 rfl (by simp) rfl fun C hC vs=>?_
 refine zq ?_
 refine zb fun K hK=>?_;simp only [go_sem,argL];refine hK _ ?_;clear hK K;refine zw (sub_frzP 2 2 [i64 r.d,aimsR r.aims,i64 r.start,i64 r.out] (by omega) rfl rfl) ?_;refine zw (zk [1,2]) ?_;simp only [go_sem]
 refine zq ?_
 refine awp_long ?_
 refine sops_take 3 (by kernel_rfl) fun K hK=>?_
 simp only [go_sem,List.take_succ_cons,List.take_zero,List.drop_succ_cons,List.drop_zero,List.append_eq,List.cons_append,List.nil_append]
 refine xcall_new hnt [(10,30),(12,31)] rfl (by rfl) (by rfl) (by rfl) (by rfl) (by rfl) ?_
 simp only [go_sem,idK,backA,backC,backL,pinOf,lendKey]
 refine hK _ rfl ?_
 clear hK K
 refine sops_sub (zk [9]) ?_
 simp only [go_sem]
 refine sops_end (by kernel_rfl) fun K hK=>?_
 simp only [go_sem,List.drop_succ_cons,List.drop_zero,List.append_eq,List.cons_append,List.nil_append];refine hK _ ?_;clear hK K;refine zw (zk [5,9]) ?_;simp only [go_sem]
 refine awp_name 9 rfl fun u=>?_
 repeat refine zq ?_
 refine awp_long ?_
 refine sops_take 1 (by kernel_rfl) fun K hK=>?_
 simp only [go_sem,List.take_succ_cons,List.take_zero,List.drop_succ_cons,List.drop_zero,List.append_eq,List.cons_append,List.nil_append]
 refine hK _ rfl ?_
 clear hK K
 refine sops_sub (sub_ptvl 10 9 (k:=31) (u:=u) (by try simp only [go_sem]) (by try simp only [go_sem])) ?_
 refine sops_sub (zk [5,9,10]) ?_
 simp only [go_sem]
 refine sops_gop rfl (by intro t h; injection h with h; subst h; show 11 < 17; decide) (by intro c h; cases h) (gop_method rfl (v:=.vl u) (by simp only [go_sem]) ?_)
 try simp only [go_sem]
 refine sops_end (by kernel_rfl) fun K hK=>?_
 simp only [go_sem,List.drop_succ_cons,List.drop_zero,List.append_eq,List.cons_append,List.nil_append];refine hK _ ?_;clear hK K;refine zw (zk [5,9,11]) ?_;simp only [go_sem]
 have hcnt : (cntA r : Int) = r.start + 1 - lowG r.out:=by unfold cntA; omega
 have htab:=fun i (hi : i ≤ cntA r)=>tab_eq hr s i hi
 have hll : ∀ i,i ≤ cntA r → (tabA r s i).length = len:=fun i hi=>by rw [(htab i hi).2.1,hlen]
 refine zd ?_
 refine awp_rangeFH (n:=17) hC ((List.range (cntA r)).map fun (i : Nat)=>[i64 (lowG r.out + (i : Int))]) (scores_ok r u (by omega)) 31 9 [5,9,11] (by decide)
  (fun vs=>[(5,.pt 5 (vs 5) 0),(9,.pu 31 (vs 31) u),(11,.r (.bf 57 [.vl u]))])
  (fun i vs=>[(5,.box [.pt 31 (vs 31) 0]),(30,.arr 3 1 (arrV (tabA r s i))),(31,.box [.r (i64 r.d),.r (aimsR r.aims),.r (i64 r.start),.r (i64 r.out),.r (.bo s),.os 30 (vs 30) 1 0 len])]) (fun i=>i ≤ cntA r) (zj [] ?_ ?_) (Nat.zero_le _)
  (fun vs=>by simp) (fun i vs=>⟨_,rfl,fun x hx=>by simp at hx; rcases hx with rfl | rfl <;> rfl⟩) (by decide) (fun _=>rfl) (fun _=>rfl) (fun _ _=>rfl) (by decide) (fun e he=>by obtain ⟨i,_,rfl⟩:=List.mem_map.1 he; rfl) ?_ ?_
 · try simp only [go_sem]
 · try simp only [go_sem]
 · intro i e vs us C' he hi
   have hil : i < cntA r:=by
    have:=(List.getElem?_eq_some_iff.1 he).1
    simpa using this
   have he' : e = [i64 (((lowG r.out).toNat + i : Nat) : Int)]:=by
    simp [hil] at he
    rw [← he]
    have : lowG r.out + (i : Int) = (((lowG r.out).toNat + i : Nat) : Int):=by omega
    rw [this]
   subst he'
   have hvs : VsOk r s (tabA r s i) ((lowG r.out).toNat + i):=⟨hr,(htab i hi).2.1,(htab i hi).2.2,by omega,by omega⟩
   have hfl:=fill_ok hvs
   have hn : (tabA r s i).set ((lowG r.out).toNat + i) (numA r s (tabA r s i) ((lowG r.out).toNat + i)) = tabA r s (i + 1):=rfl
   rw [hn] at hfl
   unfold fillT tabA' at hfl
   rw [hll i hi,hll (i + 1) (by omega)] at hfl
   refine zb fun K hK=>?_;simp only [go_sem];refine hK _ ?_;clear hK K
   refine ⟨rfl,fun C''=>?_⟩
   refine zw (zk [5,6]) ?_;simp only [go_sem];refine zd ?_;refine zb fun K hK=>?_;simp only [go_sem]
   refine xcall_mut (hfl) [(1000,31),(1001,30)] rfl (by simp only [go_sem,i64,ints]) (by simp only [go_sem,i64,ints]) (by rfl) (by rfl) ?_
   (try simp only [go_sem]);refine hK _ ?_;clear hK K
   try simp only [go_sem]
   exact ⟨by omega,vs,sub_look _ (allEq_mem (by simp only [go_sem]))⟩
 · intro vs us hi
   have hel : ((List.range (cntA r)).map fun (i : Nat)=>[i64 (lowG r.out + (i : Int))]).length = cntA r:=by simp
   rw [hel]
   try simp only [go_sem]
   refine zw (sub_wake rfl) ?_;refine zw (zk [5]) ?_;simp only [go_sem]
   refine zq ?_
   refine zb fun K hK=>?_;simp only [go_sem];refine hK _ ?_;clear hK K;refine zw (zk [4]) ?_;simp only [go_sem]
   have hlt:=hll (cntA r) (Nat.le_refl _)
   have htk : ((arrV (tabA r s (cntA r))).drop 0).take len = arrV (tabA r s (cntA r)):=by rw [List.drop_zero,List.take_of_length_le (by simp [hlt])]
   refine zw (sub_frzB 31 5 30 (ty:=3) (sz:=1) (off:=0) (m:=len) (es:=arrV (tabA r s (cntA r))) (by omega) (by omega) rfl (by simp only [go_sem,List.getElem?_cons_succ,List.getElem?_cons_zero]) (by rfl) (by simp [hlt])) ?_;rw [htk]
   try simp only [go_sem]
   refine zw (sub_frzP 4 31 (tabC r s (tabT r s)) (by omega) (by try simp only [go_sem]) (by try simp only [go_sem])) ?_;refine zw (zk [4]) ?_;simp only [go_sem];refine ze ?_;simp only [go_sem];exact leL_refl.le_refl _
theorem acheck_ok (r : Rk) (hw : WfL r.d r.aims) : ACalls Try.prog 16 [rkR r] (i64 (checkR r)):=by
 have hch:=check_ok r.d r.aims hw
 have ha:=awithin_ok 2 60 [r.start]
 have hb:=awithin_ok 0 2 [r.out]
 have ea : withinL 2 60 [r.start] = decide (2 ≤ r.start ∧ r.start ≤ 60):=by simp [withinL]
 have eb : withinL 0 2 [r.out] = decide (0 ≤ r.out ∧ r.out ≤ 2):=by simp [withinL]
 rw [ea] at ha
 rw [eb] at hb
 unfold checkR
 refine acalls_st (rs:=[i64 (if checkV r.d r.aims = 0 then (if (2 ≤ r.start ∧ r.start ≤ 60) ∧ 0 ≤ r.out ∧ r.out ≤ 2 then 0 else 2) else checkV r.d r.aims)]) [.tmp 2] Try.func16 rfl (by kernel_rfl) Try.ntmps16 rfl (by simp) rfl fun C vs=>?_
 refine zq ?_
 refine zb fun K hK=>?_;simp only [go_sem];refine hK _ ?_;clear hK K;refine zw (sub_frzP 1 1 [i64 r.d,aimsR r.aims,i64 r.start,i64 r.out] (by omega) rfl rfl) ?_;refine zw (zk [1]) ?_;simp only [go_sem]
 repeat refine zq ?_
 refine zb fun K hK=>?_;simp only [go_sem]
 refine zh (hch) rfl (by simp only [go_sem,i64,ints]) (by simp only [go_sem,i64,ints]) (by first | exact .inl rfl | exact .inr rfl) ?_
 (try simp only [go_sem]);refine hK _ ?_;clear hK K;refine zw (zk [1,3]) ?_;simp only [go_sem]
 refine zq ?_
 refine zb fun K hK=>?_;simp only [go_sem];refine hK _ ?_;clear hK K;refine zw (zk [1,3,8]) ?_;simp only [go_sem]
 by_cases h0 : checkV r.d r.aims = 0
 · have e0 : (checkV r.d r.aims != 0) = false:=by simp [h0]
   rw [if_pos h0,e0]
   refine zc rfl (fun hc=>?_) (fun hc=>?_) <;> (try simp only [go_sem] at hc)
   refine zx ?_
   try simp only [go_sem]
   by_cases h1 : 2 ≤ r.start ∧ r.start ≤ 60
   · rw [decide_eq_true h1] at ha
     by_cases h2 : 0 ≤ r.out ∧ r.out ≤ 2
     · rw [decide_eq_true h2] at hb
       rw [if_pos ⟨h1,h2⟩]
       repeat refine zq ?_
       refine zb fun K hK=>?_;simp only [go_sem]
       refine zh (ha) rfl (by simp only [go_sem,i64,ints]) (by simp only [go_sem,i64,ints]) (by first | exact .inl rfl | exact .inr rfl) ?_
       (try simp only [go_sem])
       refine zh (hb) rfl (by simp only [go_sem,i64,ints]) (by simp only [go_sem,i64,ints]) (by first | exact .inl rfl | exact .inr rfl) ?_
       (try simp only [go_sem]);refine hK _ ?_;clear hK K;refine zw (zk [1,21]) ?_;simp only [go_sem]
       refine zc rfl (fun hc=>?_) (fun hc=>?_) <;> (try simp only [go_sem] at hc)
       refine zx ?_
       try simp only [go_sem]
       refine zq ?_
       refine zb fun K hK=>?_;simp only [go_sem];refine hK _ ?_;clear hK K;refine zw (zk [2]) ?_;simp only [go_sem];refine ze ?_;simp only [go_sem]
     · rw [decide_eq_false h2] at hb
       rw [if_neg (fun h=>h2 h.2)]
       repeat refine zq ?_
       refine zb fun K hK=>?_;simp only [go_sem]
       refine zh (ha) rfl (by simp only [go_sem,i64,ints]) (by simp only [go_sem,i64,ints]) (by first | exact .inl rfl | exact .inr rfl) ?_
       (try simp only [go_sem])
       refine zh (hb) rfl (by simp only [go_sem,i64,ints]) (by simp only [go_sem,i64,ints]) (by first | exact .inl rfl | exact .inr rfl) ?_
       (try simp only [go_sem]);refine hK _ ?_;clear hK K;refine zw (zk [1,21]) ?_;simp only [go_sem]
       refine zc rfl (fun hc=>?_) (fun hc=>?_) <;> (try simp only [go_sem] at hc)
       refine zq ?_
       refine zb fun K hK=>?_;simp only [go_sem];refine hK _ ?_;clear hK K;refine zw (zk [2]) ?_;simp only [go_sem];refine ze ?_;simp only [go_sem]
   · rw [decide_eq_false h1] at ha
     rw [if_neg (fun h=>h1 h.1)]
     repeat refine zq ?_
     refine zb fun K hK=>?_;simp only [go_sem]
     refine zh (ha) rfl (by simp only [go_sem,i64,ints]) (by simp only [go_sem,i64,ints]) (by first | exact .inl rfl | exact .inr rfl) ?_
     (try simp only [go_sem]);refine hK _ ?_;clear hK K;refine zw (zk [1,21]) ?_;simp only [go_sem]
     refine zc rfl (fun hc=>?_) (fun hc=>?_) <;> (try simp only [go_sem] at hc)
     refine zq ?_
     refine zb fun K hK=>?_;simp only [go_sem];refine hK _ ?_;clear hK K;refine zw (zk [2]) ?_;simp only [go_sem];refine ze ?_;simp only [go_sem]
 · have e0 : (checkV r.d r.aims != 0) = true:=by simpa using h0
   rw [if_neg h0,e0]
   refine zc rfl (fun hc=>?_) (fun hc=>?_) <;> (try simp only [go_sem] at hc)
   refine zq ?_
   refine zb fun K hK=>?_;simp only [go_sem];refine hK _ ?_;clear hK K;refine zw (zk [2]) ?_;simp only [go_sem];refine ze ?_;simp only [go_sem]
theorem table_ok (r : Rk) (hw : WfL r.d r.aims) : ACalls Try.prog 17 [rkR r] (.tu [if checkR r = 0 then ints (tabT r false) else .ns,if checkR r = 0 then ints (tabT r true) else .ns,i64 (checkR r)]):=by
 have hch:=acheck_ok r hw
 refine acalls_st (rs:=[if checkR r = 0 then ints (tabT r false) else .ns,if checkR r = 0 then ints (tabT r true) else .ns,i64 (checkR r)]) [.tmp 2,.tmp 3,.tmp 4] Try.func17 rfl (by kernel_rfl) Try.ntmps17 rfl (by simp) rfl fun C vs=>?_
 refine zq ?_
 refine zb fun K hK=>?_;simp only [go_sem];refine hK _ ?_;clear hK K;refine zw (sub_frzP 1 1 [i64 r.d,aimsR r.aims,i64 r.start,i64 r.out] (by omega) rfl rfl) ?_;refine zw (zk [1]) ?_;simp only [go_sem]
 repeat refine zq ?_
 refine zb fun K hK=>?_;simp only [go_sem]
 refine zh (hch) rfl (by simp only [go_sem,i64,ints]) (by simp only [go_sem,i64,ints]) (by first | exact .inl rfl | exact .inr rfl) ?_
 (try simp only [go_sem]);refine hK _ ?_;clear hK K;refine zw (zk [1,5]) ?_;simp only [go_sem]
 refine zq ?_
 refine zb fun K hK=>?_;simp only [go_sem];refine hK _ ?_;clear hK K;refine zw (zk [1,5,9]) ?_;simp only [go_sem]
 by_cases h0 : checkR r = 0
 · obtain ⟨_,hr⟩:=checkR_zero h0
   have hf:=filled_ok r false hr
   have ht:=filled_ok r true hr
   have e0 : (checkR r != 0) = false:=by simp [h0]
   rw [if_pos h0,if_pos h0,e0]
   refine zc rfl (fun hc=>?_) (fun hc=>?_) <;> (try simp only [go_sem] at hc)
   refine zx ?_
   try simp only [go_sem]
   refine zq ?_
   refine awp_dreg2 [(1,none)] follows (by decide +kernel) (by kernel_rfl) (by simp only [keysOk,List.mem_cons,List.not_mem_nil,forall_eq_or_imp,Oc.keyOf,go_sem]; simp) fun K hK=>?_
   simp only [go_sem]
   refine zh (hf) rfl (by simp only [go_sem,i64,ints]) (by simp only [go_sem,i64,ints]) (by first | exact .inl rfl | exact .inr rfl) ?_
   (try simp only [go_sem])
   refine zh (ht) rfl (by simp only [go_sem,i64,ints]) (by simp only [go_sem,i64,ints]) (by first | exact .inl rfl | exact .inr rfl) ?_
   (try simp only [go_sem]);refine hK _ ?_;clear hK K;refine zw (zk [2,3,4]) ?_;simp only [go_sem];refine ze ?_;simp only [go_sem];exact h0.symm
 · have e0 : (checkR r != 0) = true:=by simpa using h0
   rw [if_neg h0,if_neg h0,e0]
   refine zc rfl (fun hc=>?_) (fun hc=>?_) <;> (try simp only [go_sem] at hc)
   refine zq ?_
   refine zb fun K hK=>?_;simp only [go_sem];refine hK _ ?_;clear hK K;refine zw (zk [2,3,4]) ?_;simp only [go_sem];refine ze ?_;simp only [go_sem]
theorem scoresP_ok (r : Rk) (s : Bool) (nums : List Int) (hs : r.start ≤ 1000) : IBCalls Try.prog true 57 [.rp (tabC r s nums)] ((List.range (cntA r)).map fun (i : Nat)=>[i64 (lowG r.out + (i : Int))]):=by
 have hlg:=lowG_le r.out
 refine ibcalls_st Try.func57 rfl (by kernel_rfl) Try.ntmps57 rfl (by simp) fun C ll=>?_
 refine zq ?_
 refine zb fun K hK=>?_;simp only [go_sem,argL]
 refine zh (alow_ok r.out) rfl (by simp only [go_sem,i64,ints]) (by simp only [go_sem,i64,ints]) (by first | exact .inl rfl | exact .inr rfl) ?_
 (try simp only [go_sem]);refine hK _ ?_;clear hK K;refine zw (zk [0,1,4]) ?_;simp only [go_sem];refine zd ?_
 obtain ⟨xs,hxs⟩ : ∃ xs : List (List RV),xs = (List.range (cntA r)).map fun (i : Nat)=>[i64 (lowG r.out + (i : Int))]:=⟨_,rfl⟩
 rw [← hxs]
 have hxl : xs.length = cntA r:=by rw [hxs]; simp
 have hcnt : (cntA r : Int) = max 0 (r.start + 1 - lowG r.out):=by unfold cntA; omega
 refine awp_upto (n:=25) (cntA r) (fun i vs=>[(0,.r (.rp (tabC r s nums))),(1,.r (.yl ll)),(4,.r (i64 (lowG r.out + (i : Int))))])
  (fun i=>[(999,.gh Try.prog ll true (some (xs.drop i)))]) (fun _=>True) 0 (fit_of [] ?_ ?_) (Nat.zero_le _) trivial ?_
 · try simp only [go_sem]
   try simp
 · try simp only [go_sem]
 · intro i vs hi _
   have w1 : IntKind.i64.wrap (lowG r.out + (i : Int) + 1) = lowG r.out + (i : Int) + 1:=by rw [zI] <;> omega
   by_cases hlt : i < cntA r
   · have e2 : decide (lowG r.out + (i : Int) ≤ r.start) = true:=by simp; omega
     have he : xs.drop i = [i64 (lowG r.out + (i : Int))] :: xs.drop (i + 1):=by
      refine drop_of_opt ?_
      rw [hxs]
      simp [hlt]
     repeat refine zq ?_
     refine zb fun K hK=>?_;simp only [go_sem,e2]
     refine xcall_yield (z:=true) (e:=[i64 (lowG r.out + (i : Int))]) (rest:=xs.drop (i + 1)) (by simp only [go_sem,he]) rfl (by simp only [go_sem]) (.inl rfl) ?_ ?_
     · simp only [go_sem];refine hK _ ?_;clear hK K;refine zw (zk [0,1,4,22]) ?_;simp only [go_sem]
       refine zc rfl (fun hc=>?_) (fun hc=>?_) <;> (try simp only [go_sem] at hc)
       refine zx ?_
       try simp only [go_sem]
       refine zq ?_
       refine zd ?_;refine zx ?_
       try simp only [go_sem]
       refine zb fun K hK=>?_;simp only [go_sem,w1];refine hK _ ?_;clear hK K
       try simp only [go_sem]
       refine ⟨hlt,fit_of [] ?_ ?_⟩
       · try simp only [go_sem]
         omega
       · try simp only [go_sem]
     · simp only [go_sem];refine hK _ ?_;clear hK K;refine zw (zk [22]) ?_;simp only [go_sem]
       refine zc rfl (fun hc=>?_) (fun hc=>?_) <;> (try simp only [go_sem] at hc)
       refine zf ?_;simp only [go_sem];exact ⟨_,_,.inr rfl⟩
   · have e2 : decide (lowG r.out + (i : Int) ≤ r.start) = false:=by simp; omega
     have h0 : xs.drop i = []:=List.drop_eq_nil_of_le (by omega)
     rw [h0]
     repeat refine zq ?_
     refine zb fun K hK=>?_;simp only [go_sem,e2];refine hK _ ?_;clear hK K;refine zw (zk [22]) ?_;simp only [go_sem]
     refine zc rfl (fun hc=>?_) (fun hc=>?_) <;> (try simp only [go_sem] at hc)
     refine zf ?_;simp only [go_sem];exact ⟨_,_,.inl rfl⟩
def nevL (r : Rk) (T : List Int) (i : Nat) : List Int:=((List.range i).filter fun j=>decide (T.getD ((lowG r.out).toNat + j) 0 = 2000000000)).map fun (j : Nat)=>lowG r.out + (j : Int)
theorem nevL_succ (r : Rk) (T : List Int) (i : Nat) : nevL r T (i + 1) = if T.getD ((lowG r.out).toNat + i) 0 = 2000000000 then nevL r T i ++ [lowG r.out + (i : Int)] else nevL r T i:=by
 unfold nevL
 rw [List.range_succ,List.filter_append,List.map_append]
 by_cases h : T.getD ((lowG r.out).toNat + i) 0 = 2000000000
 · have e : ([i].filter fun j=>decide (T.getD ((lowG r.out).toNat + j) 0 = 2000000000)) = [i]:=by rw [List.filter_cons,if_pos (decide_eq_true h)]; rfl
   rw [if_pos h,e]; rfl
 · have e : ([i].filter fun j=>decide (T.getD ((lowG r.out).toNat + j) 0 = 2000000000)) = []:=by rw [List.filter_cons,if_neg (by rw [decide_eq_false h]; decide)]; rfl
   rw [if_neg h,e]; simp
theorem nevL_len (r : Rk) (T : List Int) (i : Nat) : (nevL r T i).length ≤ i:=by
 unfold nevL
 rw [List.length_map]
 have:=List.length_filter_le (fun j=>decide (T.getD ((lowG r.out).toNat + j) 0 = 2000000000)) (List.range i)
 simpa using this
theorem never_ok (r : Rk) (hw : WfL r.d r.aims) : ACalls Try.prog 18 [rkR r] (.tu [if checkR r = 0 then ints (nevL r (tabT r false) (cntA r)) else .ns,i64 (checkR r)]):=by
 have hch:=acheck_ok r hw
 refine acalls_stR (rs:=[if checkR r = 0 then ints (nevL r (tabT r false) (cntA r)) else .ns,i64 (checkR r)]) [.cell 2 33,.tmp 3] Try.func18 rfl (by kernel_rfl) Try.ntmps18 rfl (by simp) rfl fun C hC vs=>?_
 refine zq ?_
 refine zb fun K hK=>?_;simp only [go_sem];refine hK _ ?_;clear hK K;refine zw (sub_frzP 1 1 [i64 r.d,aimsR r.aims,i64 r.start,i64 r.out] (by omega) rfl rfl) ?_;refine zw (zk [1,2,3]) ?_;simp only [go_sem]
 repeat refine zq ?_
 refine zb fun K hK=>?_;simp only [go_sem]
 refine zh (hch) rfl (by simp only [go_sem,i64,ints]) (by simp only [go_sem,i64,ints]) (by first | exact .inl rfl | exact .inr rfl) ?_
 (try simp only [go_sem]);refine hK _ ?_;clear hK K;refine zw (zk [1,2,3,4]) ?_;simp only [go_sem]
 refine zq ?_
 refine zb fun K hK=>?_;simp only [go_sem];refine hK _ ?_;clear hK K;refine zw (zk [1,2,3,4,10]) ?_;simp only [go_sem]
 by_cases h0 : checkR r = 0
 · have e0 : (checkR r != 0) = false:=by simp [h0]
   obtain ⟨_,hr⟩:=checkR_zero h0
   have hf:=filled_ok r false hr
   have hst:=hr.start
   have hlg:=lowG_le r.out
   have htl : (tabT r false).length = (r.start + 1).toNat:=(tab_eq hr false (cntA r) (Nat.le_refl _)).2.1
   have hcnt : (cntA r : Int) = r.start + 1 - lowG r.out:=by unfold cntA; omega
   rw [if_pos h0,e0,h0]
   generalize tabT r false = T at *
   refine zc rfl (fun hc=>?_) (fun hc=>?_) <;> (try simp only [go_sem] at hc)
   refine zx ?_
   try simp only [go_sem]
   refine zq ?_
   refine zb fun K hK=>?_;simp only [go_sem]
   refine zh (hf) rfl (by simp only [go_sem,i64,ints]) (by simp only [go_sem,i64,ints]) (by first | exact .inl rfl | exact .inr rfl) ?_
   (try simp only [go_sem]);refine hK _ ?_;clear hK K;refine zw (sub_frzP 5 5 [.rp (tabC r false T)] (by omega) rfl rfl) ?_;refine zw (zk [2,3,5]) ?_;simp only [go_sem]
   repeat refine zq ?_
   refine awp_long ?_
   refine sops_take 1 (by kernel_rfl) fun K hK=>?_
   simp only [go_sem,List.take_succ_cons,List.take_zero,List.drop_succ_cons,List.drop_zero,List.append_eq,List.cons_append,List.nil_append]
   refine hK _ rfl ?_
   clear hK K
   refine sops_gop rfl (by intro t h; injection h with h; subst h; show 15 < 30; decide) (by intro c h; cases h) (gop_method rfl (v:=.rp (tabC r false T)) (by simp only [go_sem]) ?_)
   try simp only [go_sem]
   refine sops_end (by kernel_rfl) fun K hK=>?_
   simp only [go_sem,List.drop_succ_cons,List.drop_zero,List.append_eq,List.cons_append,List.nil_append];refine hK _ ?_;clear hK K;refine zw (sub_ownB 2 0 28 3 1 (by omega) (by omega) rfl (by rfl)) ?_
   try simp only [go_sem]
   refine zw (zk [2,3,5,15]) ?_;simp only [go_sem];refine zd ?_
   refine awp_rangeFB (n:=30) hC ((List.range (cntA r)).map fun (i : Nat)=>[i64 (lowG r.out + (i : Int))]) (scoresP_ok r false T (by omega)) [2,3,5,15] (by decide)
    (fun vs=>[(2,.pt 2 (vs 2) 0),(3,.r (i64 0)),(5,.r (.rp [.rp (tabC r false T)])),(15,.r (.bf 57 [.rp (tabC r false T)]))])
    (fun i vs=>[(2,.box [.os 28 (vs 28) 1 0 (nevL r T i).length]),(28,.arr 3 1 (arrV (nevL r T i)))]) (fun i=>i ≤ cntA r) (zj [] ?_ ?_) (Nat.zero_le _)
    (fun _=>rfl) (fun _=>rfl) (fun _ _=>rfl) (by decide) (fun e he=>by obtain ⟨i,_,rfl⟩:=List.mem_map.1 he; rfl) ?_ ?_
   · try simp only [go_sem]
   · try simp only [go_sem]
     rfl
   · intro i e vs us C' he hi
     have hil : i < cntA r:=by
      have:=(List.getElem?_eq_some_iff.1 he).1
      simpa using this
     obtain ⟨q,hq⟩ : ∃ q,q = (lowG r.out).toNat + i:=⟨_,rfl⟩
     have hqi : lowG r.out + (i : Int) = (q : Int):=by omega
     have he' : e = [i64 (q : Int)]:=by
      simp [hil] at he
      rw [← he,hqi]
     subst he'
     have hql : q < T.length:=by rw [htl]; omega
     obtain ⟨x,hx⟩:=opt_of_lt hql
     have gx : T.getD q 0 = x:=by simp [List.getD,hx]
     have hsn:=nevL_succ r T i
     rw [← hq,gx,hqi] at hsn
     have hnl:=nevL_len r T i
     refine zb fun K hK=>?_;simp only [go_sem];refine hK _ ?_;clear hK K
     refine ⟨rfl,fun C''=>?_⟩
     refine zw (zk [2,5,6]) ?_;simp only [go_sem];refine zd ?_
     refine zq ?_
     refine zb fun K hK=>?_;simp only [go_sem,hx,hql];refine hK _ ?_;clear hK K;refine zw (zk [2,6,24]) ?_;simp only [go_sem]
     by_cases hxn : x = 2000000000
     · have e1 : (x == 2000000000) = true:=by simpa using hxn
       rw [if_pos hxn] at hsn
       rw [e1]
       refine zc rfl (fun hc=>?_) (fun hc=>?_) <;> (try simp only [go_sem] at hc)
       refine zb fun K hK=>?_;simp only [go_sem,List.length_map]
       refine ⟨by omega,?_⟩
       refine hK _ ?_;clear hK K
       try simp only [go_sem]
       refine ⟨by omega,?_⟩
       rw [hsn]
       refine zj (F:=fun _=>[]) [] ?_ ?_
       · try simp only [go_sem]
       · try simp only [go_sem]
         simp
     · have e1 : (x == 2000000000) = false:=by simpa using hxn
       rw [if_neg hxn] at hsn
       rw [e1]
       refine zc rfl (fun hc=>?_) (fun hc=>?_) <;> (try simp only [go_sem] at hc)
       refine zx ?_
       try simp only [go_sem]
       rw [hsn]
       exact ⟨by omega,vs,sub_look _ (allEq_mem (by simp only [go_sem]))⟩
   · intro vs us hi
     have hel : ((List.range (cntA r)).map fun (i : Nat)=>[i64 (lowG r.out + (i : Int))]).length = cntA r:=by simp
     rw [hel]
     have hnl:=nevL_len r T (cntA r)
     generalize nevL r T (cntA r) = N at *
     have htk : (arrV N).take N.length = arrV N:=List.take_of_length_le (by simp)
     try simp only [go_sem]
     refine zw (sub_wake rfl) ?_;refine zw (zk [2]) ?_;simp only [go_sem]
     refine zq ?_
     refine zb fun K hK=>?_;simp only [go_sem];refine hK _ ?_;clear hK K;refine zw (zk [2,3]) ?_;simp only [go_sem];refine ze ?_;simp only [go_sem]
 · have e0 : (checkR r != 0) = true:=by simpa using h0
   rw [if_neg h0,e0]
   refine zc rfl (fun hc=>?_) (fun hc=>?_) <;> (try simp only [go_sem] at hc)
   refine zq ?_
   refine zb fun K hK=>?_;simp only [go_sem];refine hK _ ?_;clear hK K;refine zw (zk [2,3]) ?_;simp only [go_sem];refine ze ?_;simp only [go_sem]
end Go.Proofs.Ytgfbenanljjgaaa.Du.Th.Ai

namespace Go.Oc
open Go Go.RowKit
end Go.Oc
namespace Go.Proofs.Ytgfbenanljjgaaa.Du.Th.Ai
open Go Go.Oc
set_option linter.unusedSimpArgs false
set_option linter.unusedVariables false
set_option maxRecDepth 8000
set_option maxHeartbeats 8000000
def isN (s : Bool) (n : Int) : Bool:=decide (0 ≤ n ∧ n ≤ 1000000000) || (decide (n = 2000000000) && !s)
def formR (r : Rk) (s : Bool) (T : List Int) : Int:=if (T.length : Int) ≠ r.start + 1 then 4 else if withinL 0 0 (T.take (lowG r.out).toNat) = false then 4 else if (T.drop (lowG r.out).toNat).any (fun n=>!isN s n) = true then 2 else 0
def fstR (f : Nat → Bool) : Nat → Nat → Int
 | 0,_=>0
 | n + 1,i=>if f i then fstR f n (i + 1) else (i : Int)
def firstR (r : Rk) (s : Bool) (T : List Int) : Int:=fstR (holdsA r s T) (cntA r) (lowG r.out).toNat
def provR (r : Rk) (s : Bool) (T : List Int) : Int × Int:=if checkR r = 0 then (if formR r s T = 0 then (firstR r s T,0) else (0,formR r s T)) else (0,checkR r)
end Go.Proofs.Ytgfbenanljjgaaa.Du.Th.Ai

namespace Go.Proofs.Ytgfbenanljjgaaa.Du.Th.Ai
open Go Go.Oc
set_option linter.unusedSimpArgs false
set_option linter.unusedVariables false
set_option maxRecDepth 8000
theorem nextA_cg {out own left : Int} {f g : Int → Int} (h : ∀ x,lowG out ≤ x → x ≤ left → f x = g x) {b : Int} (hb : 0 ≤ b ∧ b ≤ 499) : nextA out own left f b = nextA out own left g b:=by
 have hs:=score_nn hb
 unfold nextA
 split
 · rfl
 · split
   · rfl
   · exact h _ (by omega) (by omega)
theorem meanA_cg {r : Rk} {s : Bool} {own left : Int} {f g : Int → Int} (h : ∀ x,lowG r.out ≤ x → x ≤ left → f x = g x) {a : Am} (ha : AOk r.d a.beds) : meanA r s own left f a = meanA r s own left g a:=by
 unfold meanA
 congr 1
 exact List.map_congr_left fun b hb=>nextA_cg h (ha.bed b hb)
theorem valA_cg {r : Rk} (hr : ROk r) {s : Bool} {T U : List Int} {own : Int} {st : Nat} (h : ∀ x,x ≤ st → T.getD x 0 = U.getD x 0) : ∀ (k : Nat) (left : Int),lowG r.out ≤ left → left ≤ st → valA r s T own k left = valA r s U own k left
 | 0,left,h1,h2=>h _ (by omega)
 | k + 1, left, h1, h2 => by
   unfold valA
   congr 1
   exact List.map_congr_left fun a ha=>meanA_cg (fun x q1 q2=>valA_cg hr h k x q1 (by omega)) (hr.aims a ha)
theorem holds_cg {r : Rk} (hr : ROk r) {s : Bool} {T U : List Int} {st : Nat} (hlo : lowG r.out ≤ st) (h : ∀ x,x ≤ st → T.getD x 0 = U.getD x 0) : holdsA r s T st = holdsA r s U st:=by
 have h1:=h st (Nat.le_refl _)
 have h2:=valA_cg hr (s:=s) (own:=U.getD st 0) h 3 st hlo (Int.le_refl _)
 unfold holdsA
 rw [h1,h2]
theorem numA_false {r : Rk} (hr : ROk r) {nums : List Int} {st : Nat} (hn : ∀ x ∈ nums,VOk x) (hst : st < nums.length) (hlo : lowG r.out ≤ st) :
 numA r false nums st = 2000000000 ∨ ((1000000 ≤ numA r false nums st ∧ numA r false nums st ≤ 1000000000) ∧ holdsA r false (nums.set st (numA r false nums st)) st = true ∧ holdsA r false (nums.set st (numA r false nums st - 1)) st = false):=by
 obtain ⟨g1,g2,g3,g4⟩:=srch_spec (fun k=>holdsA r false (nums.set st (1000000 + (k : Int))) st) 0 999000001 (by omega) fun a b q1 q2 q3 q4=>holds_up hr hn hst hlo (by omega) (by omega) (by omega) q4
 unfold numA
 simp only [Bool.false_eq_true,if_false]
 generalize srch (fun k=>holdsA r false (nums.set st (1000000 + (k : Int))) st) 0 999000001 = k at *
 by_cases h : 1000000000 < 1000000 + (k : Int)
 · left; rw [if_pos h]
 · right
   rw [if_neg h]
   refine ⟨by omega,g4 (by omega),?_⟩
   by_cases hk : k = 0
   · subst hk
     have hv:=valA_le hr (s:=false) (set_vok hn st (n:=999999) (.inl ⟨by omega,by omega⟩)) (own:=999999) (.inl ⟨by omega,by omega⟩) 3 st
     have e : (1000000 : Int) + ((0 : Nat) : Int) - 1 = 999999:=by omega
     rw [e]
     unfold holdsA
     simp only [Bool.false_eq_true,if_false,getD_set hst,if_true];rw [Bool.or_eq_false_iff,decide_eq_false_iff_not,decide_eq_false_iff_not]
     omega
   · have:=g3 (k - 1) (by omega) (by omega)
     have e : (1000000 : Int) + ((k - 1 : Nat) : Int) = 1000000 + (k : Int) - 1:=by omega
     rw [e] at this
     exact this
theorem numA_true {r : Rk} (hr : ROk r) {nums : List Int} {st : Nat} (hn : ∀ x ∈ nums,VOk x) (hst : st < nums.length) (hlo : lowG r.out ≤ st) :
 (0 ≤ numA r true nums st ∧ numA r true nums st ≤ 1000000000) ∧ holdsA r true (nums.set st (numA r true nums st)) st = true ∧ (numA r true nums st < 1000000000 → holdsA r true (nums.set st (numA r true nums st + 1)) st = false):=by
 obtain ⟨g1,g2,g3,g4⟩:=srch_spec (fun k=>!holdsA r true (nums.set st ((k : Int) + 1)) st) 0 1000000000 (by omega) fun a b q1 q2 q3 q4=>by
  simp only [Bool.not_eq_true'] at q4 ⊢
  cases hb : holdsA r true (nums.set st ((b : Int) + 1)) st
  · rfl
  · have:=holds_down hr hn hst hlo (a:=(a : Int) + 1) (by omega) (by omega) (by omega) hb
    rw [q4] at this; cases this
 unfold numA
 simp only [if_true]
 generalize srch (fun k=>!holdsA r true (nums.set st ((k : Int) + 1)) st) 0 1000000000 = k at *
 refine ⟨by omega,?_,fun h=>?_⟩
 · by_cases hk : k = 0
   · subst hk
     have hv:=valA_le hr (s:=true) (set_vok hn st (n:=0) (.inl ⟨by omega,by omega⟩)) (own:=0) (.inl ⟨by omega,by omega⟩) 3 st
     show holdsA r true (nums.set st 0) st = true
     unfold holdsA
     simp only [if_true,getD_set hst];rw [decide_eq_true_eq]
     omega
   · have:=g3 (k - 1) (by omega) (by omega)
     have e : ((k - 1 : Nat) : Int) + 1 = (k : Int):=by omega
     simp only [e,Bool.not_eq_false'] at this
     exact this
 · have:=g4 (by omega)
   simpa using this
theorem tabA_pre {r : Rk} (s : Bool) (i : Nat) (x : Nat) (hx : x ≤ (lowG r.out).toNat + i) : ∀ m,(tabA r s (i + 1 + m)).getD x 0 = (tabA r s (i + 1)).getD x 0
 | 0=>rfl
 | m + 1 => by
   rw [← tabA_pre s i x hx m]
   show ((tabA r s (i + 1 + m)).set ((lowG r.out).toNat + (i + 1 + m)) _).getD x 0 = _
   rw [List.getD_eq_getElem?_getD,List.getElem?_set_ne (by omega),← List.getD_eq_getElem?_getD]
theorem tabT_at {r : Rk} (hr : ROk r) (s : Bool) {st : Nat} (h1 : lowG r.out ≤ st) (h2 : (st : Int) ≤ r.start) : ∃ nums : List Int,(∀ x ∈ nums,VOk x) ∧ st < nums.length ∧ (tabT r s).getD st 0 = numA r s nums st ∧ (∀ v,∀ x,x ≤ st → ((tabT r s).set st v).getD x 0 = (nums.set st v).getD x 0) ∧
 (∀ x,x ≤ st → (tabT r s).getD x 0 = (nums.set st (numA r s nums st)).getD x 0):=by
 have hl:=lowG_le r.out
 obtain ⟨i,hi⟩ : ∃ i,st = (lowG r.out).toNat + i:=⟨st - (lowG r.out).toNat,by omega⟩
 have hic : i < cntA r:=by unfold cntA; omega
 obtain ⟨_,e2,e3⟩:=tab_eq hr s i (by omega)
 obtain ⟨_,f2,f3⟩:=tab_eq hr s (cntA r) (Nat.le_refl _)
 have hlen : st < (tabA r s i).length:=by rw [e2]; omega
 obtain ⟨m,hm⟩ : ∃ m,cntA r = i + 1 + m:=⟨cntA r - (i + 1),by omega⟩
 have hpre:=fun x (hx : x ≤ st)=>tabA_pre (r:=r) s i x (by omega) m
 rw [← hm] at hpre
 have hsu : tabA r s (i + 1) = (tabA r s i).set st (numA r s (tabA r s i) st):=by rw [hi]; rfl
 rw [hsu] at hpre
 have hlT : st < (tabT r s).length:=by unfold tabT; rw [f2]; omega
 refine ⟨tabA r s i,e3,hlen,?_,fun v x hx=>?_,hpre⟩
 · have:=hpre st (Nat.le_refl _)
   rw [getD_set hlen,if_pos rfl] at this
   exact this
 · rw [getD_set hlT,getD_set hlen]
   split
   · rfl
   · rename_i hne
     have:=hpre x hx
     rw [getD_set hlen,if_neg hne] at this
     exact this
theorem tabT_holds {r : Rk} (hr : ROk r) (s : Bool) {st : Nat} (h1 : lowG r.out ≤ st) (h2 : (st : Int) ≤ r.start) : holdsA r s (tabT r s) st = true:=by
 obtain ⟨nums,hn,hst,g1,g2,g3⟩:=tabT_at hr s h1 h2
 rw [holds_cg hr h1 g3]
 cases s
 · rcases numA_false hr hn hst h1 with h | ⟨_,h,_⟩
   · rw [h]
     unfold holdsA
     simp only [Bool.false_eq_true,if_false,getD_set hst,if_true,decide_true,Bool.or_true]
   · exact h
 · exact (numA_true hr hn hst h1).2.1
theorem tabT_len {r : Rk} (hr : ROk r) (s : Bool) : ((tabT r s).length : Int) = r.start + 1:=by
 have:=(tab_eq hr s (cntA r) (Nat.le_refl _)).2.1
 have hs:=hr.start
 unfold tabT; rw [this]; omega
def OrdP (p q x y : Int) : Prop:=y = 2000000000 ∨ (x ≠ 2000000000 ∧ x * p ≤ y * q)
end Go.Proofs.Ytgfbenanljjgaaa.Du.Th.Ai

namespace Go.Proofs.Ytgfbenanljjgaaa.Du.Th
open Go Go.Oc
set_option linter.unusedSimpArgs false
set_option maxRecDepth 8000
set_option linter.unusedVariables false
def atE (l : List Int) (v : Int) : Int:=indexF (fun x=>v == x) l
abbrev tR (t : List Int) : List RV:=t.map fun x=>i64 x
abbrev tA (t : List Int) : List AV:=(tR t).map AV.r
abbrev zeroT : List Int:=[0,0,0,0,0,0,0,0,0,0]
def incT (t : List Int) (i : Nat) : List Int:=t.set i (t.getD i 0 + 1)
def tallyK (beds : List Int) : List Int → List Int → Option (List Int)
 | t,[]=>some t
 | t,d :: ds=>if atE beds d < 0 then none else tallyK beds (incT t (atE beds d).toNat) ds
def knownXs (beds ds : List Int) : List (List RV):=match tallyK beds zeroT ds with | some t=>[[.ag (tR t)]] | none=>[]
abbrev sheetR (beds le mo : List Int) : List RV:=ints beds :: (tR le ++ tR mo)
def SmallT (b : Int) (t : List Int) : Prop:=t.length = 10 ∧ ∀ x ∈ t,0 ≤ x ∧ x ≤ b
theorem known_ok (u : Addr) (ds : List Int) : ACalls Try.prog 136 [.vl u,ints ds] (.fn 155 [.rp [ints ds],.rp [.vl u]]):=by
 refine acalls_st (rs:=[.fn 155 [.rp [ints ds],.rp [.vl u]]]) [.tmp 4] Try.func136 rfl (by kernel_rfl) Try.ntmps136 rfl (by simp) rfl fun C vs=>?_
 refine zq ?_
 refine zb fun K hK=>?_;simp only [go_sem];refine hK _ ?_;clear hK K;refine zw (zk [2,3]) ?_;simp only [go_sem];refine zw (sub_frzP 2 2 [.vl u] (by omega) rfl rfl) ?_;refine zw (sub_frzP 3 3 [ints ds] (by omega) rfl rfl) ?_
 refine zq ?_
 refine zb fun K hK=>?_;simp only [go_sem];refine hK _ ?_;clear hK K;refine ze ?_;simp only [go_sem]
 simp [RV.le,leL_refl.le_refl,leL_refl]
def shA (beds le mo : List Int) : List AV:=(sheetR beds le mo).map AV.r
def leastT (b : Bool) (le t : List Int) : List Int:=if b then List.zipWith min le t else t
def mostT (mo t : List Int) : List Int:=List.zipWith max mo t
def accT (s : Bool × List Int × List Int) (t : List Int) : Bool × List Int × List Int:=(true,leastT s.1 s.2.1 t,mostT s.2.2 t)
def accL (xs : List (List Int)) : Bool × List Int × List Int:=xs.foldl accT (false,zeroT,zeroT)
def mixT (new old : List Int) (k : Nat) : List Int:=new.take k ++ old.drop k
def addT (a b : List Int) : List Int:=List.zipWith (· + ·) a b
set_option maxHeartbeats 1000000
def BedsOk (beds : List Int) : Prop:=beds.length ≤ 10 ∧ ∀ b ∈ beds,0 ≤ b ∧ b ≤ 499
def tally3 (i k m : Nat) : List Int:=incT (incT (incT zeroT i) k) m
def cell3 (beds : List Int) (n : Int) (i k m : Nat) : List (List Int) :=
 if scoreOf (beds.getD i 0) + scoreOf (beds.getD k 0) + scoreOf (beds.getD m 0) = n then [tally3 i k m] else []
def rowM (beds : List Int) (n : Int) (i k m : Nat) : List (List Int):=((List.range beds.length).drop m).flatMap (cell3 beds n i k)
def rowK (beds : List Int) (n : Int) (i k : Nat) : List (List Int):=((List.range beds.length).drop k).flatMap fun k=>rowM beds n i k k
def rowI (beds : List Int) (n : Int) (i : Nat) : List (List Int):=((List.range beds.length).drop i).flatMap fun i=>rowK beds n i i
def threeT (beds : List Int) (n : Int) : List (List Int):=rowI beds n 0
abbrev yl1 (l : List (List Int)) : List (List RV):=l.map fun t=>[.ag (tR t)]
def truthsK (beds ds : List Int) : List (List Int):=match tallyK beds zeroT ds with | some t=>[t] | none=>[]
def truthsV (beds ds : List Int) (n : Int) : List (List Int):=if ds = [] then threeT beds n else truthsK beds ds
def visitE (beds ds : List Int) (n : Int) : Int :=
 if ds ≠ [] ∧ (ds.length ≠ 3 ∨ n ≠ 0) then 4 else if ¬ (0 ≤ n ∧ n ≤ 240) then 3 else if (truthsV beds ds n).isEmpty then 9 else 0
def leV (beds le ds : List Int) (n : Int) : List Int:=if visitE beds ds n = 0 then addT le (accL (truthsV beds ds n)).2.1 else le
def moV (beds mo ds : List Int) (n : Int) : List Int:=if visitE beds ds n = 0 then addT mo (accL (truthsV beds ds n)).2.2 else mo
set_option maxHeartbeats 1000000
structure Vi where
 ds : List Int
 n : Int
abbrev viC (v : Vi) : List RV:=[ints v.ds,i64 v.n]
abbrev visR (l : List Vi) : RV:=.sl 2 (l.map viC)
def runF (bs : List Int) : List Int → List Int → Nat → List Vi → List Int × List Int × Option (Nat × Int)
 | le,mo,_,[]=>(le,mo,none)
 | le,mo,i,v :: l=>if visitE bs v.ds v.n = 0 then runF bs (leV bs le v.ds v.n) (moV bs mo v.ds v.n) (i + 1) l else (le,mo,some (i,visitE bs v.ds v.n))
def bedAt (bs le mo : List Int) (i : Nat) : Bd:=⟨bs.getD i 0,le.getD i 0,mo.getD i 0⟩
def fitV (a : Am) (l : List Vi) : Am × Int × Int × Int :=
 if 10 < a.beds.length then (⟨0,[]⟩,0,0,5) else if (bedOk a.at_ && !a.beds.isEmpty && seqOk none a.beds) = false then (⟨0,[]⟩,0,0,2) else if l = [] then (⟨0,[]⟩,0,0,7) else if 1000 < l.length then (⟨0,[]⟩,0,0,5) else
 match runF (a.beds.map (·.b)) zeroT zeroT 0 l with
 | (_,_,some (i,e))=>(⟨0,[]⟩,0,i,e)
 | (le,mo,none)=>(⟨a.at_,(List.range a.beds.length).map (bedAt (a.beds.map (·.b)) le mo)⟩,3 * l.length,0,0)
theorem SmallT.mono {b c : Int} {t : List Int} (h : SmallT b t) (hc : b ≤ c) : SmallT c t:=⟨h.1,fun x hx=>by have:=h.2 x hx; omega⟩
theorem bedOk_le {b : Int} (h : bedOk b = true) : 0 ≤ b ∧ b ≤ 499:=by
 simp only [bedOk,Bool.or_eq_true,Bool.and_eq_true,decide_eq_true_eq] at h
 omega
end Go.Proofs.Ytgfbenanljjgaaa.Du.Th

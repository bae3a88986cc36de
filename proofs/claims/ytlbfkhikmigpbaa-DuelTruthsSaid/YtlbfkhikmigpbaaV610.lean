/- Part 10 of the texts of this claim. -/
import Derived.Test.YtlbfkhikmigpbaaV69
import Derived.Test.YtlbfkhikmigpbaaV68
namespace Go.Proofs.Ytlbfkhikmigpbaa
open Go Go.Oc
set_option linter.unusedSimpArgs false
set_option linter.unusedVariables false
set_option maxRecDepth 8000
set_option maxHeartbeats 4000000
theorem cvalue_ok {c : Cu} (hW : CuW c) {k st left d : Nat} (hP : PosC c k st left d) {nr val : Nat → Pv} {v : Pv} (hv : v = cvA c k st left (d + 1))
 (he : v = meanC c (aimC c k st left (d + 1)) (cellC c nr val k st (decide (d = 0)) left))
 (hb : ∀ b,0 ≤ b → b ≤ 499 → b = 0 ∨ 0 < scoreOf b → (0 ≤ (cellC c nr val k st (decide (d = 0)) left b).1 ∧ (cellC c nr val k st (decide (d = 0)) left b).1 ≤ 1000000) ∧ 0 ≤ (cellC c nr val k st (decide (d = 0)) left b).2 ∧ (cellC c nr val k st (decide (d = 0)) left b).2 ≤ 1000000)
 (hval : d ≠ 0 → ∀ y : Nat,lowestR c.r ≤ y → y ≤ left → MCalls Try.prog 34 (couL c) (couL c) [.pt 1000 0 0,.r (posN4 k st y d)] (.tu [.r (i64 (val y).1),.r (i64 (val y).2)]))
 (hnr : k + 1 < c.r.ends.length → ∀ y : Nat,lowestR c.r ≤ y → (y : Int) ≤ c.r.start → MCalls Try.prog 34 (couL c) (couL c) [.pt 1000 0 0,.r (posN4 (k + 1) y y 3)] (.tu [.r (i64 (nr y).1),.r (i64 (nr y).2)]))
 (hnb : k + 1 < c.r.ends.length → ∀ y : Nat,lowestR c.r ≤ y → (y : Int) ≤ c.r.start → (0 ≤ (nr y).1 ∧ (nr y).1 ≤ 1000000) ∧ 0 ≤ (nr y).2 ∧ (nr y).2 ≤ 1000000) :
 MCalls Try.prog 34 (couL c) (couL c) [.pt 1000 0 0,.r (posN4 k st left (d + 1))] (.tu [.r (i64 v.1),.r (i64 v.2)]):=by
 have hA:=hW.g.g.aims
 have hden0:=hA.den0
 have hden1:=hA.den1
 have hs40:=hW.g.g.s40
 have hh10:=hW.g.g.h10
 have hk:=hP.k
 have hs1:=hP.s1
 have hl1:=hP.l1
 have hd2:=hP.d2
 have ecast : (((d + 1 : Nat)) : Int) = (d : Int) + 1:=by omega
 have hlt:=aimC_lt (c:=c) hA.ne k st left (d + 1)
 have hale:=hA.len
 obtain ⟨aim,haim⟩ : ∃ aim,aim = aimC c k st left (d + 1):=⟨_,rfl⟩
 rw [← haim] at he hlt
 refine mcalls_st (n:=300) (rs:=[.r (i64 v.1),.r (i64 v.2)]) _ _ [.tmp 4,.tmp 5] Try.func34 rfl (by kernel_rfl) Try.ntmps34 rfl (by simp) rfl rfl fun C=>?_
 repeat refine zq ?_
 refine zb (by kernel_rfl) fun K hK=>?_
 simp only [go_sem]
 (try simp (disch:=omega) only [zI])
 repeat first | intro _ | refine ⟨by omega,?_⟩ | refine ⟨⟨by omega,by omega⟩,?_⟩
 refine hK _ ?_
 clear hK K
 refine zw (sub_frzP 3 3 [i64 (k : Int),i64 (st : Int),i64 (left : Int),i64 ((d : Int) + 1)] (by omega) rfl (by simp only [go_sem,posN4,ecast])) ?_
 refine zw (zk [0,3]) ?_
 simp only [go_sem]
 repeat refine zq ?_
 refine awp_openM 1001 (by rfl) fun m hm=>?_
 try simp only [go_sem]
 rcases memoC_find (k:=k) (st:=st) (left:=left) (d:=d + 1) (i:=0) hm with hf | ⟨j,hf⟩
 · unfold posN4 at hf
   rw [ecast] at hf
   repeat refine zq ?_
   refine awp_dreg2 [(0,some 1000),(3,none)] follows (by decide +kernel) (by kernel_rfl) (by simp only [keysOk,List.mem_cons,List.not_mem_nil,forall_eq_or_imp,Oc.keyOf,go_sem]; simp) fun K hK=>?_
   simp only [go_sem,hf,Bool.and_self,eq_self,true_and]
   (try simp (disch:=omega) only [zI])
   repeat first | intro _ | refine ⟨by omega,?_⟩ | refine ⟨⟨by omega,by omega⟩,?_⟩
   refine hK _ ?_
   clear hK K
   refine zw (sub_shutM (memoC c) 1001 (by rfl) hm) ?_
   refine zw (zk [0,3,7]) ?_
   simp only [go_sem]
   repeat refine zq ?_
   refine zb (by kernel_rfl) fun K hK=>?_
   simp only [go_sem]
   (try simp (disch:=omega) only [zI])
   repeat first | intro _ | refine ⟨by omega,?_⟩ | refine ⟨⟨by omega,by omega⟩,?_⟩
   refine hK _ ?_
   clear hK K
   refine zw (zk [0,3,31]) ?_
   simp only [go_sem]
   repeat refine zq ?_
   refine zc rfl (fun hc=>?_) (fun hc=>?_) <;> (try simp only [go_sem] at hc)
   refine zx ?_
   try simp only [go_sem]
   repeat refine zq ?_
   refine zb (by kernel_rfl) fun K hK=>?_
   simp only [go_sem]
   (try simp (disch:=omega) only [zI])
   repeat first | intro _ | refine ⟨by omega,?_⟩ | refine ⟨⟨by omega,by omega⟩,?_⟩
   refine hK _ ?_
   clear hK K
   refine zw (zk [0,3,8]) ?_
   simp only [go_sem]
   repeat refine zq ?_
   refine zb (by kernel_rfl) fun K hK=>?_
   simp only [go_sem]
   (try simp (disch:=omega) only [zI])
   repeat first | intro _ | refine ⟨by omega,?_⟩ | refine ⟨⟨by omega,by omega⟩,?_⟩
   refine hK _ ?_
   clear hK K
   refine zw (zk [0,3,8,41]) ?_
   simp only [go_sem]
   repeat refine zq ?_
   refine awp_join0 (n:=300) (fun (_ : Unit) vs=>[(0,.pt 1000 0 0),(3,.r (.rp [i64 (k : Int),i64 (st : Int),i64 (left : Int),i64 ((d : Int) + 1)])),(8,.r (i64 (if c.bs.length = 0 then 0 else (((c.bs.getD ((k + 3 * left + (d + 1)) % c.bs.length) 0).toNat % c.r.aims.length : Nat) : Int))))]) (fun _=>couL c) (fun _=>True) (fun _ h=>h) ?_ ?_
   · repeat refine zq ?_
     refine zc rfl (fun hc=>?_) (fun hc=>?_) <;> (try simp only [go_sem] at hc)
     · have hbl : 0 < c.bs.length:=by omega
       have hlt8:=Nat.mod_lt (k + 3 * left + (d + 1)) hbl
       obtain ⟨q,hq⟩:=opt_of_lt hlt8
       have hqq:=hW.bs q (mem_of_opt hq)
       have hqd : c.bs.getD ((k + 3 * left + (d + 1)) % c.bs.length) 0 = q:=by simp [List.getD_eq_getElem?_getD,hq]
       have hapos : 0 < c.r.aims.length:=List.length_pos_iff.2 hA.ne
       have hmod : ((k : Int) + 3 * (left : Int) + ((d : Int) + 1)).tmod (c.bs.length : Int) = (((k + 3 * left + (d + 1)) % c.bs.length : Nat) : Int):=by
        rw [Int.tmod_eq_emod_of_nonneg (by omega)]; simp
       have hmod2 : q.tmod (c.r.aims.length : Int) = ((q.toNat % c.r.aims.length : Nat) : Int):=by
        rw [Int.tmod_eq_emod_of_nonneg hqq.1]
        simp only [Int.natCast_emod]; congr 1; omega
       repeat refine zq ?_
       refine zg follows (by decide +kernel) (by kernel_rfl) fun K hK=>?_
       simp only [go_sem,hmod,hq,hlt8,hmod2]
       (try simp (disch:=omega) only [zI])
       simp only [go_sem,hmod,hq,hmod2,Int.toNat_natCast,List.headD_cons,List.length_cons,List.length_nil]
       try simp (disch:=omega) only [zI]
       simp only [go_sem,hmod,hq,hmod2]
       repeat first | intro _ | refine ⟨by omega,?_⟩ | refine ⟨⟨by omega,by omega⟩,?_⟩
       refine hK _ ?_
       clear hK K
       refine ⟨(),trivial,fit0_of [6] (by repeat (first | exact lent_zero | refine lent_upd (by omega) ?_)) ?_ ?_⟩
       · try simp only [go_sem]
         rw [if_neg (by omega),hqd]
       · try simp only [go_sem]
     · have hbl : c.bs.length = 0:=by omega
       refine zx ?_
       try simp only [go_sem]
       refine ⟨(),fit0_of [6] (by repeat (first | exact lent_zero | refine lent_upd (by omega) ?_)) ?_ ?_⟩
       · try simp only [go_sem]
         rw [if_pos hbl]
       · try simp only [go_sem]
   intro _ vs hv0 _
   have hv00:=hv0 1000 (by omega)
   have hv01:=hv0 1001 (by omega)
   repeat refine zq ?_
   refine zb (by kernel_rfl) fun K hK=>?_
   simp only [go_sem]
   (try simp (disch:=omega) only [zI])
   repeat first | intro _ | refine ⟨by omega,?_⟩ | refine ⟨⟨by omega,by omega⟩,?_⟩
   refine hK _ ?_
   clear hK K
   refine zw (zk [0,3,8,75]) ?_
   simp only [go_sem]
   repeat refine zq ?_
   refine awp_join0 (n:=300) (fun (_ : Unit) vs=>[(0,.pt 1000 0 0),(3,.r (.rp [i64 (k : Int),i64 (st : Int),i64 (left : Int),i64 ((d : Int) + 1)])),(8,.r (i64 (aim : Int)))]) (fun _=>couL c) (fun _=>True) (fun _ h=>h) ?_ ?_
   · repeat refine zq ?_
     refine zc rfl (fun hc=>?_) (fun hc=>?_) <;> (try simp only [go_sem] at hc)
     · have hw : c.wise = true:=by simpa using hc
       have hai : bestL (oddsS c.r k st left d) = aim:=by
        obtain ⟨b,b1,b2,b3⟩:=best_max (r:=c.r) (k:=k) (st:=st) (left:=left) (d:=d) hA.ne
        rw [haim,b1]; unfold aimC; rw [if_pos hw,Nat.add_sub_cancel,b1]; rfl
       have hpo : posOk c.r (pos k st left d) = true:=by
        have h1:=hP.s0
        have h2:=hP.l0
        have h3:=hP.full
        simp only [posOk,pos,inB,Bool.and_eq_true,Bool.or_eq_true,decide_eq_true_eq,beq_iff_eq]
        refine ⟨⟨by omega,by omega⟩,⟨by omega,by omega⟩,⟨by omega,by omega⟩,⟨by omega,by omega⟩,?_⟩
        by_cases hd : d = 2
        · right; have:=h3 hd; omega
        · left; omega
       have hE : oddsE c.r (pos k st left d) = 0:=by unfold oddsE; rw [if_pos hW.e,if_pos hpo]
       have hol : oddsL c.r (pos k st left d) = oddsS c.r k st left d:=by
        simp only [oddsL,pos,Int.toNat_natCast,Int.add_sub_cancel]
       have hao:=aim_ok c.r hW.wf (pos k st left d)
       rw [hE,if_pos rfl,if_pos rfl,hol,hai] at hao
       generalize lowL (oddsS c.r k st left d) = low at hao
       have hru:=rules_ok c.r (by omega) (by omega) fun a ha=>by have:=(hA.beds a ha).1; omega
       repeat refine zq ?_
       refine zg follows (by decide +kernel) (by kernel_rfl) fun K hK=>?_
       simp only [go_sem,hv00]
       (try simp (disch:=omega) only [zI])
       refine zh (hru) rfl (by simp only [go_sem,i64,ints]) (by simp only [go_sem,i64,ints]) (by first | exact .inl rfl | exact .inr rfl) ?_
       (try simp only [go_sem])
       (try simp (disch:=omega) only [zI])
       refine zh (hao) rfl (by simp only [go_sem,i64,ints]) (by simp only [go_sem,i64,ints]) (by first | exact .inl rfl | exact .inr rfl) ?_
       (try simp only [go_sem])
       (try simp (disch:=omega) only [zI])
       repeat first | intro _ | refine ⟨by omega,?_⟩ | refine ⟨⟨by omega,by omega⟩,?_⟩
       refine hK _ ?_
       clear hK K
       refine zw (zk [0,3,9,11]) ?_
       simp only [go_sem]
       have d1 : ((0 : Int) != 0) = false:=rfl
       have d2 : decide ((aim : Int) < 0) = false:=by simp
       have d3 : decide (c.r.aims.length ≤ aim) = false:=by simpa using hlt
       have d4 : ¬ ((aim : Int) < 0):=by omega
       repeat refine zq ?_
       refine zb (by kernel_rfl) fun K hK=>?_
       simp only [go_sem,hv00,d1,d2,d3,d4]
       (try simp (disch:=omega) only [zI])
       repeat first | intro _ | refine ⟨by omega,?_⟩ | refine ⟨⟨by omega,by omega⟩,?_⟩
       refine hK _ ?_
       clear hK K
       refine zw (zk [0,3,9,103]) ?_
       simp only [go_sem]
       repeat refine zq ?_
       refine zc rfl (fun hc=>?_) (fun hc=>?_) <;> (try simp only [go_sem] at hc)
       refine zx ?_
       try simp only [go_sem]
       repeat refine zq ?_
       refine zb (by kernel_rfl) fun K hK=>?_
       simp only [go_sem]
       (try simp (disch:=omega) only [zI])
       repeat first | intro _ | refine ⟨by omega,?_⟩ | refine ⟨⟨by omega,by omega⟩,?_⟩
       refine hK _ ?_
       clear hK K
       refine ⟨(),fit0_of [] (by repeat (first | exact hv0 | exact lent_zero | refine lent_upd (by omega) ?_)) ?_ ?_⟩
       · try simp only [go_sem]
       · try simp only [go_sem]
     · have hw : c.wise = false:=by simpa using hc
       have hai : (aim : Int) = if c.bs.length = 0 then 0 else (((c.bs.getD ((k + 3 * left + (d + 1)) % c.bs.length) 0).toNat % c.r.aims.length : Nat) : Int):=by
        rw [haim]; unfold aimC; rw [hw,if_neg (by simp)]; split <;> rfl
       rw [← hai]
       refine zx ?_
       try simp only [go_sem]
       refine ⟨(),fit0_of [] (by repeat (first | exact hv0 | exact lent_zero | refine lent_upd (by omega) ?_)) ?_ ?_⟩
       · try simp only [go_sem]
       · try simp only [go_sem]
   clear hv00 hv01 hv0
   intro _ vs hv0 _
   have hv00:=hv0 1000 (by omega)
   have hv01:=hv0 1001 (by omega)
   repeat refine zq ?_
   refine zb (by kernel_rfl) fun K hK=>?_
   simp only [go_sem]
   (try simp (disch:=omega) only [zI])
   repeat first | intro _ | refine ⟨by omega,?_⟩ | refine ⟨⟨by omega,by omega⟩,?_⟩
   refine hK _ ?_
   clear hK K
   refine zw (zk [0,3,8,12]) ?_
   simp only [go_sem]
   repeat refine zq ?_
   refine zb (by kernel_rfl) fun K hK=>?_
   simp only [go_sem]
   (try simp (disch:=omega) only [zI])
   repeat first | intro _ | refine ⟨by omega,?_⟩ | refine ⟨⟨by omega,by omega⟩,?_⟩
   refine hK _ ?_
   clear hK K
   refine zw (zk [0,3,8,12,113]) ?_
   simp only [go_sem]
   repeat refine zq ?_
   refine awp_join0 (n:=300) (fun (_ : Unit) vs=>[(0,.pt 1000 0 0),(3,.r (.rp [i64 (k : Int),i64 (st : Int),i64 (left : Int),i64 ((d : Int) + 1)])),(8,.r (i64 (aim : Int))),(12,.r (i64 (lowestR c.r)))]) (fun _=>couL c) (fun _=>True) (fun _ h=>h) ?_ ?_
   · repeat refine zq ?_
     refine zc rfl (fun hc=>?_) (fun hc=>?_) <;> (try simp only [go_sem] at hc)
     · have ho : c.r.out = 0:=by simpa using hc
       repeat refine zq ?_
       refine zb (by kernel_rfl) fun K hK=>?_
       simp only [go_sem]
       (try simp (disch:=omega) only [zI])
       repeat first | intro _ | refine ⟨by omega,?_⟩ | refine ⟨⟨by omega,by omega⟩,?_⟩
       refine hK _ ?_
       clear hK K
       refine ⟨(),trivial,fit0_of [] (by repeat (first | exact hv0 | exact lent_zero | refine lent_upd (by omega) ?_)) ?_ ?_⟩
       · try simp only [go_sem]
         unfold lowestR; rw [if_pos ho]
       · try simp only [go_sem]
     · have ho : c.r.out ≠ 0:=by simpa using hc
       refine zx ?_
       try simp only [go_sem]
       refine ⟨(),fit0_of [] (by repeat (first | exact hv0 | exact lent_zero | refine lent_upd (by omega) ?_)) ?_ ?_⟩
       · try simp only [go_sem]
         unfold lowestR; rw [if_neg ho]
       · try simp only [go_sem]
   clear hv00 hv01 hv0
   intro _ vs hv0 _
   have hv00:=hv0 1000 (by omega)
   have hv01:=hv0 1001 (by omega)
   repeat refine zq ?_
   refine zb (by kernel_rfl) fun K hK=>?_
   simp only [go_sem]
   (try simp (disch:=omega) only [zI])
   repeat first | intro _ | refine ⟨by omega,?_⟩ | refine ⟨⟨by omega,by omega⟩,?_⟩
   refine hK _ ?_
   clear hK K
   refine zw (zk [0,3,8,12,13,14]) ?_
   simp only [go_sem]
   repeat refine zq ?_
   refine zb (by kernel_rfl) fun K hK=>?_
   simp only [go_sem]
   (try simp (disch:=omega) only [zI])
   repeat first | intro _ | refine ⟨by omega,?_⟩ | refine ⟨⟨by omega,by omega⟩,?_⟩
   refine hK _ ?_
   clear hK K
   refine zw (zk [0,3,8,12,13,14,15]) ?_
   simp only [go_sem]
   obtain ⟨X,hX⟩ : ∃ X,X = c.xs.getD aim []:=⟨_,rfl⟩
   obtain ⟨L,hL⟩ : ∃ L,L = bedsC c aim:=⟨_,rfl⟩
   obtain ⟨F,hF⟩ : ∃ F,F = cellC c nr val k st (decide (d = 0)) left:=⟨_,rfl⟩
   have hxlen : aim < c.xs.length:=by rw [hW.xl]; exact hlt
   have hxl : c.xs[aim]? = some X:=by rw [hX,List.getD_eq_getElem?_getD,List.getElem?_eq_getElem hxlen]; rfl
   have hXl : X.length = L.length:=by rw [hX,hL]; exact hW.xa aim hlt
   obtain ⟨a,hai⟩:=opt_of_lt hlt
   have hab : a.beds = L:=by rw [hL]; unfold bedsC; rw [List.getD_eq_getElem?_getD,hai]; rfl
   obtain ⟨hL19,hLb⟩:=hW.beds hlt
   rw [← hL] at hL19 hLb
   have hLs : ∀ x ∈ L,x.b = 0 ∨ 0 < scoreOf x.b:=fun x hx=>hW.g.h.beds a (mem_of_opt hai) x (by rw [hab]; exact hx)
   have hFb : ∀ x ∈ L,(0 ≤ (F x.b).1 ∧ (F x.b).1 ≤ 1000000) ∧ 0 ≤ (F x.b).2 ∧ (F x.b).2 ≤ 1000000:=fun x hx=>by rw [hF]; exact hb _ (hLb x hx).1.1 (hLb x hx).1.2 (hLs x hx)
   have hXb : ∀ i,i < L.length → 0 ≤ X.getD i 0 ∧ X.getD i 0 ≤ 3000:=fun i hi=>by
    have h1:=(hW.g.xs aim hlt).each i (by rw [← hL]; exact hi)
    rw [← hL,← hX] at h1
    have h2:=hLb _ (bAt_mem hi)
    omega
   have hSb:=sumC_le hXb hFb
   have hve : v = ((sumC X L F L.length).1 / c.r.d,((sumC X L F L.length).2 + c.r.d - 1) / c.r.d):=by rw [he,hX,hL,hF]; rfl
   repeat refine zq ?_
   refine zd ?_
   refine awp_upto0 (n:=300) L.length (fun i vs=>[(0,.pt 1000 0 0),(3,.r (.rp [i64 (k : Int),i64 (st : Int),i64 (left : Int),i64 ((d : Int) + 1)])),(8,.r (i64 (aim : Int))),(12,.r (i64 (lowestR c.r))),(13,.r (i64 (sumC X L F i).1)),(14,.r (i64 (sumC X L F i).2)),(15,.r (i64 (i : Int)))]) (fun i=>couL c) (fun _=>True) 0 (fit0_of [] (by repeat (first | exact hv0 | exact lent_zero | refine lent_upd (by omega) ?_)) ?_ ?_) (Nat.zero_le _) trivial ?_
   · try simp only [go_sem]
     exact ⟨rfl,rfl⟩
   · try simp only [go_sem]
   · clear hv00 hv01 hv0
     intro i vs hv0 hi _
     have hv00:=hv0 1000 (by omega)
     have hv01:=hv0 1001 (by omega)
     by_cases hci : i < L.length
     · have d1 : decide (i < X.length) = true:=by simpa [hXl] using hci
       have d2 : (i : Int) < (X.length : Int):=by omega
       repeat refine zq ?_
       refine zb (by kernel_rfl) fun K hK=>?_
       simp only [go_sem,hv00,hxl,hxlen,d1,d2]
       (try simp (disch:=omega) only [zI])
       repeat first | intro _ | refine ⟨by omega,?_⟩ | refine ⟨⟨by omega,by omega⟩,?_⟩
       refine hK _ ?_
       clear hK K
       refine zw (zk [0,3,8,12,13,14,15,130]) ?_
       simp only [go_sem]
       repeat refine zq ?_
       refine zc rfl (fun hc=>?_) (fun hc=>?_) <;> (try simp only [go_sem] at hc)
       refine zx ?_
       try simp only [go_sem]
       obtain ⟨bd,hbd⟩:=opt_of_lt hci
       obtain ⟨x,hx⟩ : ∃ x,x = X.getD i 0:=⟨_,rfl⟩
       have hxi : X[i]? = some x:=by rw [hx,List.getD_eq_getElem?_getD,List.getElem?_eq_getElem (by omega)]; rfl
       have hbt : bAt L i = bd:=by simp [bAt,List.getD,hbd]
       have hxb:=hXb i hci
       rw [← hx] at hxb
       obtain ⟨⟨b0,b1⟩,_⟩:=hLb bd (mem_of_opt hbd)
       have hbs:=hLs bd (mem_of_opt hbd)
       have hfb:=hFb bd (mem_of_opt hbd)
       have hs1i:=hSb (i + 1) (by omega)
       have hs0i:=hSb i (by omega)
       have hsx : sumC X L F (i + 1) = ((sumC X L F i).1 + x * (F bd.b).1,(sumC X L F i).2 + x * (F bd.b).2):=by rw [hx,← hbt]; rfl
       rw [hsx] at hs1i
       have hiX : i < X.length:=by omega
       have hcb : i < a.beds.length:=by rw [hab]; exact hci
       have hbda : a.beds[i]? = some bd:=by rw [hab]; exact hbd
       repeat refine zq ?_
       refine zd ?_
       repeat refine zq ?_
       refine zg follows (by decide +kernel) (by kernel_rfl) fun K hK=>?_
       simp only [go_sem,hv00,hxl,hxlen,hxi,hiX,hai,hlt,aimR,hbda,hcb,bedR]
       (try simp (disch:=omega) only [zI])
       repeat first | intro _ | refine ⟨by omega,?_⟩ | refine ⟨⟨by omega,by omega⟩,?_⟩
       refine hK _ ?_
       clear hK K
       refine zw (zk [0,3,8,12,13,14,15,16,17]) ?_
       simp only [go_sem]
       repeat refine zq ?_
       refine zb (by kernel_rfl) fun K hK=>?_
       simp only [go_sem]
       (try simp (disch:=omega) only [zI])
       repeat first | intro _ | refine ⟨by omega,?_⟩ | refine ⟨⟨by omega,by omega⟩,?_⟩
       refine hK _ ?_
       clear hK K
       refine zw (zk [0,3,8,12,13,14,15,16,17,158]) ?_
       simp only [go_sem]
       repeat refine zq ?_
       refine zc rfl (fun hc=>?_) (fun hc=>?_) <;> (try simp only [go_sem] at hc)
       · have hx0 : x = 0:=by simpa using hc
         refine zf ?_
         simp only [go_sem]
         repeat refine zq ?_
         refine zb (by kernel_rfl) fun K hK=>?_
         simp only [go_sem]
         (try simp (disch:=omega) only [zI])
         repeat first | intro _ | refine ⟨by omega,?_⟩ | refine ⟨⟨by omega,by omega⟩,?_⟩
         refine hK _ ?_
         clear hK K
         try simp only [go_sem]
         refine ⟨hci,fit0_of [] (by repeat (first | exact hv0 | exact lent_zero | refine lent_upd (by omega) ?_)) ?_ ?_⟩
         · try simp only [go_sem]
           rw [hsx,hx0]
           simp
         · try simp only [go_sem]
       · have hx0 : x ≠ 0:=by simpa using hc
         obtain ⟨sc0,sc1⟩:=score_le b0 b1
         have hlsc:=lscore_ok bd.b b0 b1
         obtain ⟨y,hy⟩ : ∃ y,y = (left : Int) - scoreOf bd.b:=⟨_,rfl⟩
         have hyw : IntKind.i64.wrap ((left : Int) - scoreOf bd.b) = y:=by rw [zI] <;> omega
         have hFd : F bd.b = cellC c nr val k st (decide (d = 0)) left bd.b:=by rw [hF]
         have hlow:=lowest_le c.r
         unfold cellC at hFd
         rw [← hy] at hFd
         have hop:=lopens_ok c.r.out bd.b b0 b1 hW.g.h.out
         refine zx ?_
         try simp only [go_sem]
         repeat refine zq ?_
         refine zb (by kernel_rfl) fun K hK=>?_
         simp only [go_sem]
         (try simp (disch:=omega) only [zI])
         repeat first | intro _ | refine ⟨by omega,?_⟩ | refine ⟨⟨by omega,by omega⟩,?_⟩
         refine hK _ ?_
         clear hK K
         refine zw (zk [0,3,8,12,13,14,15,16,17,18,19,20]) ?_
         simp only [go_sem]
         repeat refine zq ?_
         refine awp_dreg2 [(18,some 18),(17,none)] follows (by decide +kernel) (by kernel_rfl) (by simp only [keysOk,List.mem_cons,List.not_mem_nil,forall_eq_or_imp,Oc.keyOf,go_sem]; simp) fun K hK=>?_
         simp only [go_sem]
         (try simp (disch:=omega) only [zI])
         refine zh (hlsc) rfl (by simp only [go_sem,i64,ints]) (by simp only [go_sem,i64,ints]) (by first | exact .inl rfl | exact .inr rfl) ?_
         (try simp only [go_sem])
         (try simp (disch:=omega) only [zI])
         repeat first | intro _ | refine ⟨by omega,?_⟩ | refine ⟨⟨by omega,by omega⟩,?_⟩
         refine hK _ ?_
         clear hK K
         try simp only [go_sem,hyw]
         refine zw (zk [0,3,8,12,13,14,15,16,17,18,19,20]) ?_
         simp only [go_sem]
         repeat refine zq ?_
         refine zb (by kernel_rfl) fun K hK=>?_
         simp only [go_sem]
         (try simp (disch:=omega) only [zI])
         repeat first | intro _ | refine ⟨by omega,?_⟩ | refine ⟨⟨by omega,by omega⟩,?_⟩
         refine hK _ ?_
         clear hK K
         refine zw (zk [0,3,8,12,13,14,15,16,17,18,19,20]) ?_
         simp only [go_sem]
         rw [← hy,Int.add_sub_cancel]
         obtain ⟨B,hB⟩ : ∃ B,B = decide (bd.b ≠ 0 ∧ y = 0 ∧ opensD c.r.out bd.b = true):=⟨_,rfl⟩
         repeat refine zq ?_
         refine awp_join0 (n:=300) (fun (_ : Unit) vs=>[(0,.pt 1000 0 0),(3,.r (.rp [i64 (k : Int),i64 (st : Int),i64 (left : Int),i64 ((d : Int) + 1)])),(8,.r (i64 (aim : Int))),(12,.r (i64 (lowestR c.r))),(13,.r (i64 (sumC X L F i).1)),(14,.r (i64 (sumC X L F i).2)),(15,.r (i64 (i : Int))),(16,.r (i64 x)),(19,.r (i64 (F bd.b).1)),(20,.r (i64 (F bd.b).2))]) (fun _=>couL c) (fun _=>True) (fun _ h=>h) ?_ ?_
         · repeat refine zq ?_
           refine zd ?_
           repeat refine zq ?_
           refine awp_join0 (n:=300) (fun (_ : Unit) vs=>[(0,.pt 1000 0 0),(3,.r (.rp [i64 (k : Int),i64 (st : Int),i64 (left : Int),i64 ((d : Int) + 1)])),(8,.r (i64 (aim : Int))),(12,.r (i64 (lowestR c.r))),(13,.r (i64 (sumC X L F i).1)),(14,.r (i64 (sumC X L F i).2)),(15,.r (i64 (i : Int))),(16,.r (i64 x)),(18,.pt 18 (vs 18) 0),(19,.r (i64 0)),(20,.r (i64 0)),(170,.r (.bo B))]) (fun _=>(18,.box [.r (i64 (k : Int)),.r (i64 (st : Int)),.r (i64 y),.r (i64 (d : Int))]) :: couL c) (fun _=>True) (fun _ h=>h) ?_ ?_
           · by_cases q1 : bd.b = 0
             · have e1 : (bd.b != 0) = false:=by simp [q1]
               have hBf : B = false:=by rw [hB]; simp [q1]
               repeat refine zq ?_
               refine zb (by kernel_rfl) fun K hK=>?_
               simp only [go_sem,e1]
               (try simp (disch:=omega) only [zI])
               repeat first | intro _ | refine ⟨by omega,?_⟩ | refine ⟨⟨by omega,by omega⟩,?_⟩
               refine hK _ ?_
               clear hK K
               refine ⟨(),trivial,fit0_of [] (by repeat (first | exact hv0 | exact lent_zero | refine lent_upd (by omega) ?_)) ?_ ?_⟩
               · try simp only [go_sem]
                 exact hBf.symm
               · try simp only [go_sem]
             · have e1 : (bd.b != 0) = true:=by simp [q1]
               by_cases q2 : y = 0
               · have e2 : (y == 0) = true:=by simp [q2]
                 have hBt : B = (decide (bd.b ≠ 0) && opensD c.r.out bd.b):=by rw [hB,Bool.eq_iff_iff]; simp [q2]
                 repeat refine zq ?_
                 refine zb (by kernel_rfl) fun K hK=>?_
                 simp only [go_sem,hv00,e1,e2]
                 (try simp (disch:=omega) only [zI])
                 refine zh (hop) rfl (by simp only [go_sem,i64,ints,hv00,e1,e2]) (by simp only [go_sem,i64,ints,hv00,e1,e2]) (by first | exact .inl rfl | exact .inr rfl) ?_
                 (try simp only [go_sem,hv00,e1,e2])
                 (try simp (disch:=omega) only [zI])
                 repeat first | intro _ | refine ⟨by omega,?_⟩ | refine ⟨⟨by omega,by omega⟩,?_⟩
                 refine hK _ ?_
                 clear hK K
                 refine ⟨(),trivial,fit0_of [] (by repeat (first | exact hv0 | exact lent_zero | refine lent_upd (by omega) ?_)) ?_ ?_⟩
                 · try simp only [go_sem]
                   exact hBt.symm
                 · try simp only [go_sem]
               · have e2 : (y == 0) = false:=by simp [q2]
                 have hBf : B = false:=by rw [hB]; simp [q2]
                 repeat refine zq ?_
                 refine zb (by kernel_rfl) fun K hK=>?_
                 simp only [go_sem,e1,e2]
                 (try simp (disch:=omega) only [zI])
                 repeat first | intro _ | refine ⟨by omega,?_⟩ | refine ⟨⟨by omega,by omega⟩,?_⟩
                 refine hK _ ?_
                 clear hK K
                 refine ⟨(),trivial,fit0_of [] (by repeat (first | exact hv0 | exact lent_zero | refine lent_upd (by omega) ?_)) ?_ ?_⟩
                 · try simp only [go_sem]
                   exact hBf.symm
                 · try simp only [go_sem]
           clear hv00 hv01 hv0
           intro _ vs hv0 _
           have hv00:=hv0 1000 (by omega)
           have hv01:=hv0 1001 (by omega)
           repeat refine zq ?_
           refine zc rfl (fun hc=>?_) (fun hc=>?_) <;> (try simp only [go_sem] at hc)
           · have hBt:=hB ▸ hc
             rw [decide_eq_true_eq] at hBt
             rw [if_pos hBt] at hFd
             repeat refine zq ?_
             refine zb (by kernel_rfl) fun K hK=>?_
             simp only [go_sem]
             (try simp (disch:=omega) only [zI])
             repeat first | intro _ | refine ⟨by omega,?_⟩ | refine ⟨⟨by omega,by omega⟩,?_⟩
             refine hK _ ?_
             clear hK K
             try simp only [go_sem]
             refine ⟨(),fit0_of [18] (by repeat (first | exact hv0 | exact lent_zero | refine lent_upd (by omega) ?_)) ?_ ?_⟩
             · try simp only [go_sem]
               rw [hFd]
               exact ⟨rfl,rfl⟩
             · try simp only [go_sem]
           · have hBf : ¬ (bd.b ≠ 0 ∧ y = 0 ∧ opensD c.r.out bd.b = true):=by
              rw [hB] at hc; simpa using hc
             rw [if_neg hBf] at hFd
             by_cases q3 : d ≠ 0 ∧ lowestR c.r ≤ y
             · obtain ⟨y',hy'⟩ : ∃ y' : Nat,y = y':=⟨y.toNat,by omega⟩
               have e3 : decide ((0 : Int) < (d : Int)) = true:=by simp; omega
               have e3' : decide (0 < d) = true:=by simp; omega
               have e4 : decide (lowestR c.r ≤ y) = true:=by simpa using q3.2
               rw [if_pos (show decide (d = 0) = false ∧ lowestR c.r ≤ y from ⟨by simpa using q3.1,q3.2⟩),hy',Int.toNat_natCast] at hFd
               have hvc:=hval q3.1 y' (by omega) (by omega)
               repeat refine zq ?_
               refine zb (by kernel_rfl) fun K hK=>?_
               simp only [go_sem,e3,e3',e4]
               (try simp (disch:=omega) only [zI])
               repeat first | intro _ | refine ⟨by omega,?_⟩ | refine ⟨⟨by omega,by omega⟩,?_⟩
               refine hK _ ?_
               clear hK K
               refine zw (zk [0,3,8,12,13,14,15,16,18,19,20,187]) ?_
               simp only [go_sem]
               rw [hy']
               repeat refine zq ?_
               refine zc rfl (fun hc=>?_) (fun hc=>?_) <;> (try simp only [go_sem] at hc)
               repeat refine zq ?_
               refine zb (by kernel_rfl) fun K hK=>?_
               simp only [go_sem,hv00]
               (try simp (disch:=omega) only [zI])
               refine xcall_mut (mcalls_ag hvc) [(1000,1000),(1001,1001)] rfl (by simp only [go_sem,i64,ints,hv00,hv01]) (by simp only [go_sem,i64,ints,hv00,hv01]) (by rfl) (by rfl) ?_
               (try simp only [go_sem,hv00,hv01])
               (try simp (disch:=omega) only [zI])
               repeat first | intro _ | refine ⟨by omega,?_⟩ | refine ⟨⟨by omega,by omega⟩,?_⟩
               refine hK _ ?_
               clear hK K
               try simp only [go_sem]
               refine ⟨(),fit0_of [18] (by repeat (first | exact hv0 | exact lent_zero | refine lent_upd (by omega) ?_)) ?_ ?_⟩
               · try simp only [go_sem]
                 rw [hFd]
                 exact ⟨rfl,rfl⟩
               · try simp only [go_sem]
             · rw [if_neg (show ¬ (decide (d = 0) = false ∧ lowestR c.r ≤ y) by simpa using q3)] at hFd
               repeat refine zq ?_
               refine awp_join0 (n:=300) (fun (_ : Unit) vs=>[(0,.pt 1000 0 0),(3,.r (.rp [i64 (k : Int),i64 (st : Int),i64 (left : Int),i64 ((d : Int) + 1)])),(8,.r (i64 (aim : Int))),(12,.r (i64 (lowestR c.r))),(13,.r (i64 (sumC X L F i).1)),(14,.r (i64 (sumC X L F i).2)),(15,.r (i64 (i : Int))),(16,.r (i64 x)),(18,.pt 18 (vs 18) 0),(19,.r (i64 0)),(20,.r (i64 0)),(187,.r (.bo false))]) (fun _=>(18,.box [.r (i64 (k : Int)),.r (i64 (st : Int)),.r (i64 y),.r (i64 (d : Int))]) :: couL c) (fun _=>True) (fun _ h=>h) ?_ ?_
               · by_cases q5 : d = 0
                 · have e3 : decide ((0 : Int) < (d : Int)) = false:=by simp [q5]
                   have e3' : decide (0 < d) = false:=by simp [q5]
                   repeat refine zq ?_
                   refine zb (by kernel_rfl) fun K hK=>?_
                   simp only [go_sem,e3,e3']
                   (try simp (disch:=omega) only [zI])
                   repeat first | intro _ | refine ⟨by omega,?_⟩ | refine ⟨⟨by omega,by omega⟩,?_⟩
                   refine hK _ ?_
                   clear hK K
                   refine ⟨(),trivial,fit0_of [] (by repeat (first | exact hv0 | exact lent_zero | refine lent_upd (by omega) ?_)) ?_ ?_⟩
                   · try simp only [go_sem]
                   · try simp only [go_sem]
                 · have e3 : decide ((0 : Int) < (d : Int)) = true:=by simp; omega
                   have e3' : decide (0 < d) = true:=by simp; omega
                   have e4 : decide (lowestR c.r ≤ y) = false:=by simp; omega
                   repeat refine zq ?_
                   refine zb (by kernel_rfl) fun K hK=>?_
                   simp only [go_sem,e3,e3',e4]
                   (try simp (disch:=omega) only [zI])
                   repeat first | intro _ | refine ⟨by omega,?_⟩ | refine ⟨⟨by omega,by omega⟩,?_⟩
                   refine hK _ ?_
                   clear hK K
                   refine ⟨(),trivial,fit0_of [] (by repeat (first | exact hv0 | exact lent_zero | refine lent_upd (by omega) ?_)) ?_ ?_⟩
                   · try simp only [go_sem]
                   · try simp only [go_sem]
               clear hv00 hv01 hv0
               intro _ vs hv0 _
               have hv00:=hv0 1000 (by omega)
               have hv01:=hv0 1001 (by omega)
               repeat refine zq ?_
               refine zc rfl (fun hc=>?_) (fun hc=>?_) <;> (try simp only [go_sem] at hc)
               by_cases q4 : k + 1 < c.r.ends.length
               · rw [if_pos q4] at hFd
                 have e5 : decide ((k : Int) + 1 < (c.r.ends.length : Int)) = true:=by simp; omega
                 repeat refine zq ?_
                 refine zg follows (by decide +kernel) (by kernel_rfl) fun K hK=>?_
                 simp only [go_sem,hv00,e5]
                 (try simp (disch:=omega) only [zI])
                 simp only [go_sem,e5]
                 repeat first | intro _ | refine ⟨by omega,?_⟩ | refine ⟨⟨by omega,by omega⟩,?_⟩
                 refine hK _ ?_
                 clear hK K
                 refine zw (zk [0,3,8,12,13,14,15,16,18,19,20,203]) ?_
                 simp only [go_sem]
                 repeat refine zq ?_
                 refine zc rfl (fun hc=>?_) (fun hc=>?_) <;> (try simp only [go_sem] at hc)
                 repeat refine zq ?_
                 refine zb (by kernel_rfl) fun K hK=>?_
                 simp only [go_sem]
                 (try simp (disch:=omega) only [zI])
                 repeat first | intro _ | refine ⟨by omega,?_⟩ | refine ⟨⟨by omega,by omega⟩,?_⟩
                 refine hK _ ?_
                 clear hK K
                 refine zw (zk [0,3,8,12,13,14,15,16,18,217]) ?_
                 simp only [go_sem]
                 obtain ⟨z,hz⟩ : ∃ z,z = if y < lowestR c.r then st else y.toNat:=⟨_,rfl⟩
                 rw [← hz] at hFd
                 have hz0 : lowestR c.r ≤ z ∧ (z : Int) ≤ c.r.start:=by
                  have:=hP.s0
                  rw [hz]; split <;> omega
                 repeat refine zq ?_
                 refine awp_join0 (n:=300) (fun (_ : Unit) vs=>[(0,.pt 1000 0 0),(3,.r (.rp [i64 (k : Int),i64 (st : Int),i64 (left : Int),i64 ((d : Int) + 1)])),(8,.r (i64 (aim : Int))),(12,.r (i64 (lowestR c.r))),(13,.r (i64 (sumC X L F i).1)),(14,.r (i64 (sumC X L F i).2)),(15,.r (i64 (i : Int))),(16,.r (i64 x)),(18,.pt 18 (vs 18) 0)]) (fun _=>(18,.box [.r (i64 (k : Int)),.r (i64 (st : Int)),.r (i64 (z : Int)),.r (i64 (d : Int))]) :: couL c) (fun _=>True) (fun _ h=>h) ?_ ?_
                 · repeat refine zq ?_
                   refine zc rfl (fun hc=>?_) (fun hc=>?_) <;> (try simp only [go_sem] at hc)
                   · have hzs : z = st:=by rw [hz,if_pos (by simpa using hc)]
                     repeat refine zq ?_
                     refine zb (by kernel_rfl) fun K hK=>?_
                     simp only [go_sem]
                     (try simp (disch:=omega) only [zI])
                     repeat first | intro _ | refine ⟨by omega,?_⟩ | refine ⟨⟨by omega,by omega⟩,?_⟩
                     refine hK _ ?_
                     clear hK K
                     refine ⟨(),trivial,fit0_of [] (by repeat (first | exact hv0 | exact lent_zero | refine lent_upd (by omega) ?_)) ?_ ?_⟩
                     · try simp only [go_sem]
                     · try simp only [go_sem]
                       rw [hzs]
                   · have hzs : (z : Int) = y:=by
                      have hcc : ¬ y < lowestR c.r:=by simpa using hc
                      rw [hz,if_neg hcc]; omega
                     rw [← hzs]
                     refine zx ?_
                     try simp only [go_sem]
                     refine ⟨(),fit0_of [] (by repeat (first | exact hv0 | exact lent_zero | refine lent_upd (by omega) ?_)) ?_ ?_⟩
                     · try simp only [go_sem]
                     · try simp only [go_sem]
                 clear hv00 hv01 hv0
                 intro _ vs hv0 _
                 have hv00:=hv0 1000 (by omega)
                 have hv01:=hv0 1001 (by omega)
                 have hnc:=hnr q4 z hz0.1 hz0.2
                 obtain ⟨⟨n0,n1⟩,n2,n3⟩:=hnb q4 z hz0.1 hz0.2
                 have ek : (((k + 1 : Nat)) : Int) = (k : Int) + 1:=by omega
                 simp only [posN4,ek] at hnc
                 repeat refine zq ?_
                 refine zb (by kernel_rfl) fun K hK=>?_
                 simp only [go_sem,hv00]
                 (try simp (disch:=omega) only [zI])
                 refine xcall_mut (mcalls_ag hnc) [(1000,1000),(1001,1001)] rfl (by simp only [go_sem,i64,ints,hv00,hv01]) (by simp only [go_sem,i64,ints,hv00,hv01]) (by rfl) (by rfl) ?_
                 (try simp only [go_sem,hv00,hv01])
                 (try simp (disch:=omega) only [zI])
                 repeat first | intro _ | refine ⟨by omega,?_⟩ | refine ⟨⟨by omega,by omega⟩,?_⟩
                 refine hK _ ?_
                 clear hK K
                 refine zw (zk [0,3,8,12,13,14,15,16,19,20]) ?_
                 simp only [go_sem]
                 obtain ⟨es,hes⟩:=opt_of_lt (show k < c.es.length by rw [hW.el]; exact hk)
                 have hkes : k < c.es.length:=by rw [hW.el]; exact hk
                 have hesd : c.es.getD k 0 = es:=by simp [List.getD_eq_getElem?_getD,hes]
                 have heb:=hW.g.es k hk
                 obtain ⟨g1,g2,g3⟩:=endOk_le (hW.g.g.ends _ (show c.r.ends.getD k (0,0) ∈ c.r.ends by
                  rw [List.getD_eq_getElem?_getD,List.getElem?_eq_getElem hk]; exact List.getElem_mem _))
                 rw [hesd] at heb
                 unfold afterC at hFd
                 rw [hesd] at hFd
                 obtain ⟨p1,hp1⟩ : ∃ p1,p1 = (nr z).1:=⟨_,rfl⟩
                 obtain ⟨p2,hp2⟩ : ∃ p2,p2 = (nr z).2:=⟨_,rfl⟩
                 rw [← hp1] at n0 n1 hFd ⊢
                 rw [← hp2] at n2 n3 hFd ⊢
                 have t1:=Int.mul_nonneg n0 (show 0 ≤ 1000000 - es by omega)
                 have t2:=Int.mul_nonneg n2 (show 0 ≤ 1000000 - es by omega)
                 have t3:=Int.mul_le_mul n1 (show 1000000 - es ≤ 1000000 by omega) (by omega) (by omega)
                 have t4:=Int.mul_le_mul n3 (show 1000000 - es ≤ 1000000 by omega) (by omega) (by omega)
                 have w1 : IntKind.i64.wrap (p1 * (1000000 - es)) = p1 * (1000000 - es):=by rw [zI] <;> omega
                 have w2 : IntKind.i64.wrap (p2 * (1000000 - es)) = p2 * (1000000 - es):=by rw [zI] <;> omega
                 have w3 : (p1 * (1000000 - es)).tdiv 1000000 = p1 * (1000000 - es) / 1000000:=Int.tdiv_eq_ediv_of_nonneg t1
                 have w4 : (p2 * (1000000 - es) + 1000000 - 1).tdiv 1000000 = (p2 * (1000000 - es) + 1000000 - 1) / 1000000:=Int.tdiv_eq_ediv_of_nonneg (by omega)
                 repeat refine zq ?_
                 refine zg follows (by decide +kernel) (by kernel_rfl) fun K hK=>?_
                 simp only [go_sem,hv00,hes,hkes]
                 (try simp (disch:=omega) only [zI])
                 try simp only [go_sem,w1,w2,w3,w4]
                 try simp (disch:=omega) only [zI]
                 try simp only [go_sem,w1,w2,w3,w4]
                 try simp (disch:=omega) only [zI]
                 repeat first | intro _ | refine ⟨by omega,?_⟩ | refine ⟨⟨by omega,by omega⟩,?_⟩
                 refine hK _ ?_
                 clear hK K
                 refine ⟨(),fit0_of [18] (by repeat (first | exact hv0 | exact lent_zero | refine lent_upd (by omega) ?_)) ?_ ?_⟩
                 · try simp only [go_sem]
                   rw [hFd]
                   exact ⟨rfl,rfl⟩
                 · try simp only [go_sem]
               · rw [if_neg q4] at hFd
                 have e5 : decide ((k : Int) + 1 < (c.r.ends.length : Int)) = false:=by simp; omega
                 repeat refine zq ?_
                 refine zg follows (by decide +kernel) (by kernel_rfl) fun K hK=>?_
                 simp only [go_sem,hv00,e5]
                 (try simp (disch:=omega) only [zI])
                 simp only [go_sem,e5]
                 repeat first | intro _ | refine ⟨by omega,?_⟩ | refine ⟨⟨by omega,by omega⟩,?_⟩
                 refine hK _ ?_
                 clear hK K
                 refine zw (zk [0,3,8,12,13,14,15,16,18,19,20,203]) ?_
                 simp only [go_sem]
                 repeat refine zq ?_
                 refine zc rfl (fun hc=>?_) (fun hc=>?_) <;> (try simp only [go_sem] at hc)
                 refine zx ?_
                 try simp only [go_sem]
                 refine ⟨(),fit0_of [18] (by repeat (first | exact hv0 | exact lent_zero | refine lent_upd (by omega) ?_)) ?_ ?_⟩
                 · try simp only [go_sem]
                   rw [hFd]
                   exact ⟨rfl,rfl⟩
                 · try simp only [go_sem]
         clear hv00 hv01 hv0
         intro _ vs hv0 _
         have hv00:=hv0 1000 (by omega)
         have hv01:=hv0 1001 (by omega)
         have m1:=Int.mul_nonneg hxb.1 hfb.1.1
         have m2:=Int.mul_le_mul hxb.2 hfb.1.2 hfb.1.1 (by omega)
         have m3:=Int.mul_nonneg hxb.1 hfb.2.1
         have m4:=Int.mul_le_mul hxb.2 hfb.2.2 hfb.2.1 (by omega)
         have w1 : IntKind.i64.wrap (x * (F bd.b).1) = x * (F bd.b).1:=by rw [zI] <;> omega
         have w2 : IntKind.i64.wrap (x * (F bd.b).2) = x * (F bd.b).2:=by rw [zI] <;> omega
         repeat refine zq ?_
         refine zb (by kernel_rfl) fun K hK=>?_
         simp only [go_sem,w1,w2]
         (try simp (disch:=omega) only [zI])
         repeat first | intro _ | refine ⟨by omega,?_⟩ | refine ⟨⟨by omega,by omega⟩,?_⟩
         refine hK _ ?_
         clear hK K
         refine zw (zk [0,3,8,12,13,14,15]) ?_
         simp only [go_sem]
         repeat refine zq ?_
         refine zb (by kernel_rfl) fun K hK=>?_
         simp only [go_sem]
         (try simp (disch:=omega) only [zI])
         repeat first | intro _ | refine ⟨by omega,?_⟩ | refine ⟨⟨by omega,by omega⟩,?_⟩
         refine hK _ ?_
         clear hK K
         try simp only [go_sem]
         refine ⟨hci,fit0_of [] (by repeat (first | exact hv0 | exact lent_zero | refine lent_upd (by omega) ?_)) ?_ ?_⟩
         · try simp only [go_sem]
           rw [hsx]
           exact ⟨rfl,rfl⟩
         · try simp only [go_sem]
     · have hie : i = L.length:=by omega
       subst hie
       have d1 : decide (L.length < X.length) = false:=by simp [hXl]
       have d2 : ¬ ((L.length : Int) < (X.length : Int)):=by omega
       have hSl:=hSb L.length (Nat.le_refl _)
       repeat refine zq ?_
       refine zb (by kernel_rfl) fun K hK=>?_
       simp only [go_sem,hv00,hxl,hxlen,d1,d2]
       (try simp (disch:=omega) only [zI])
       repeat first | intro _ | refine ⟨by omega,?_⟩ | refine ⟨⟨by omega,by omega⟩,?_⟩
       refine hK _ ?_
       clear hK K
       refine zw (zk [0,3,8,12,13,14,15,130]) ?_
       simp only [go_sem]
       repeat refine zq ?_
       refine zc rfl (fun hc=>?_) (fun hc=>?_) <;> (try simp only [go_sem] at hc)
       refine zf ?_
       simp only [go_sem]
       repeat refine zq ?_
       refine zb (by kernel_rfl) fun K hK=>?_
       simp only [go_sem,hv00]
       (try simp (disch:=omega) only [zI])
       repeat first | intro _ | refine ⟨by omega,?_⟩ | refine ⟨⟨by omega,by omega⟩,?_⟩
       refine hK _ ?_
       clear hK K
       refine zw (zk [0,3,13,14,21]) ?_
       simp only [go_sem]
       obtain ⟨lo,hlo⟩ : ∃ lo,lo = (sumC X L F L.length).1:=⟨_,rfl⟩
       obtain ⟨hi',hhi⟩ : ∃ hi,hi = (sumC X L F L.length).2:=⟨_,rfl⟩
       rw [← hlo,← hhi] at hSl hve ⊢
       have q1 : lo.tdiv c.r.d = lo / c.r.d:=Int.tdiv_eq_ediv_of_nonneg hSl.1.1
       have q2 : (hi' + c.r.d - 1).tdiv c.r.d = (hi' + c.r.d - 1) / c.r.d:=Int.tdiv_eq_ediv_of_nonneg (by omega)
       have q3 : lo / c.r.d ≤ lo:=Int.ediv_le_self _ hSl.1.1
       have q4 : (hi' + c.r.d - 1) / c.r.d ≤ hi' + c.r.d - 1:=Int.ediv_le_self _ (by omega)
       have q5 : 0 ≤ lo / c.r.d:=Int.ediv_nonneg hSl.1.1 (by omega)
       have q6 : 0 ≤ (hi' + c.r.d - 1) / c.r.d:=Int.ediv_nonneg (by omega) (by omega)
       have w3 : IntKind.i64.wrap (lo / c.r.d) = lo / c.r.d:=by rw [zI] <;> omega
       have w4 : IntKind.i64.wrap ((hi' + c.r.d - 1) / c.r.d) = (hi' + c.r.d - 1) / c.r.d:=by rw [zI] <;> omega
       have hdn : (c.r.d == 0) = false:=by simp; omega
       have hdn2 : c.r.d ≠ 0:=by omega
       repeat refine zq ?_
       refine awp_openM 1001 (by rfl) fun m' hm'=>?_
       try simp only [go_sem]
       rcases memoC_find (k:=k) (st:=st) (left:=left) (d:=d + 1) (i:=0) hm' with hf' | ⟨j,hf'⟩
       · unfold posN4 at hf'
         rw [ecast] at hf'
         repeat refine zq ?_
         refine awp_dreg2 [(0,some 1000),(3,none),(13,none),(14,none),(21,none)] follows (by decide +kernel) (by kernel_rfl) (by simp only [keysOk,List.mem_cons,List.not_mem_nil,forall_eq_or_imp,Oc.keyOf,go_sem]; simp) fun K hK=>?_
         simp only [go_sem,hv00,hf',q1,hdn,hdn2,Bool.and_self,eq_self,true_and]
         (try simp (disch:=omega) only [zI])
         simp only [go_sem,q1,q2,w3,w4,hdn,hdn2]
         try simp (disch:=omega) only [zI]
         repeat first | intro _ | refine ⟨by omega,?_⟩ | refine ⟨⟨by omega,by omega⟩,?_⟩
         refine hK _ ?_
         clear hK K
         refine zw (sub_shutM (memoC c) 1001 (by rfl) (by have h:=memoC_app (k:=k) (st:=st) (left:=left) (d:=d + 1) hm'; simp only [posN4,pairR,ecast,← hv,hve] at h; exact h)) ?_
         refine zw (zk [13,14,21]) ?_
         simp only [go_sem]
         repeat refine zq ?_
         refine zg follows (by decide +kernel) (by kernel_rfl) fun K hK=>?_
         simp only [go_sem,q1,hdn,hdn2]
         (try simp (disch:=omega) only [zI])
         simp only [go_sem,q1,q2,w3,w4,hdn,hdn2]
         try simp (disch:=omega) only [zI]
         repeat first | intro _ | refine ⟨by omega,?_⟩ | refine ⟨⟨by omega,by omega⟩,?_⟩
         refine hK _ ?_
         clear hK K
         refine zw (zk [4,5]) ?_
         simp only [go_sem]
         refine ze ?_
         simp only [go_sem]
         rw [hve]
         exact ⟨rfl,rfl⟩
       · unfold posN4 at hf'
         rw [ecast] at hf'
         repeat refine zq ?_
         refine awp_dreg2 [(0,some 1000),(3,none),(13,none),(14,none),(21,none)] follows (by decide +kernel) (by kernel_rfl) (by simp only [keysOk,List.mem_cons,List.not_mem_nil,forall_eq_or_imp,Oc.keyOf,go_sem]; simp) fun K hK=>?_
         simp only [go_sem,hv00,hf',q1,hdn,hdn2,Bool.and_self,eq_self,true_and]
         (try simp (disch:=omega) only [zI])
         simp only [go_sem,q1,q2,w3,w4,hdn,hdn2]
         try simp (disch:=omega) only [zI]
         repeat first | intro _ | refine ⟨by omega,?_⟩ | refine ⟨⟨by omega,by omega⟩,?_⟩
         refine hK _ ?_
         clear hK K
         refine zw (sub_shutM (memoC c) 1001 (by rfl) (by have h:=memoC_set (k:=k) (st:=st) (left:=left) (d:=d + 1) hm' j; simp only [posN4,pairR,ecast,← hv,hve] at h; exact h)) ?_
         refine zw (zk [13,14,21]) ?_
         simp only [go_sem]
         repeat refine zq ?_
         refine zg follows (by decide +kernel) (by kernel_rfl) fun K hK=>?_
         simp only [go_sem,q1,hdn,hdn2]
         (try simp (disch:=omega) only [zI])
         simp only [go_sem,q1,q2,w3,w4,hdn,hdn2]
         try simp (disch:=omega) only [zI]
         repeat first | intro _ | refine ⟨by omega,?_⟩ | refine ⟨⟨by omega,by omega⟩,?_⟩
         refine hK _ ?_
         clear hK K
         refine zw (zk [4,5]) ?_
         simp only [go_sem]
         refine ze ?_
         simp only [go_sem]
         rw [hve]
         exact ⟨rfl,rfl⟩
 · unfold posN4 at hf
   rw [ecast] at hf
   repeat refine zq ?_
   refine awp_dreg2 [(0,some 1000),(3,none)] follows (by decide +kernel) (by kernel_rfl) (by simp only [keysOk,List.mem_cons,List.not_mem_nil,forall_eq_or_imp,Oc.keyOf,go_sem]; simp) fun K hK=>?_
   simp only [go_sem,hf,Bool.and_self,eq_self,true_and]
   (try simp (disch:=omega) only [zI])
   repeat first | intro _ | refine ⟨by omega,?_⟩ | refine ⟨⟨by omega,by omega⟩,?_⟩
   refine hK _ ?_
   clear hK K
   refine zw (sub_shutM (memoC c) 1001 (by rfl) hm) ?_
   refine zw (zk [6,7]) ?_
   simp only [go_sem]
   repeat refine zq ?_
   refine zb (by kernel_rfl) fun K hK=>?_
   simp only [go_sem]
   (try simp (disch:=omega) only [zI])
   repeat first | intro _ | refine ⟨by omega,?_⟩ | refine ⟨⟨by omega,by omega⟩,?_⟩
   refine hK _ ?_
   clear hK K
   refine zw (zk [6,31]) ?_
   simp only [go_sem]
   repeat refine zq ?_
   refine zc rfl (fun hc=>?_) (fun hc=>?_) <;> (try simp only [go_sem] at hc)
   repeat refine zq ?_
   refine zg follows (by decide +kernel) (by kernel_rfl) fun K hK=>?_
   simp only [go_sem]
   (try simp (disch:=omega) only [zI])
   repeat first | intro _ | refine ⟨by omega,?_⟩ | refine ⟨⟨by omega,by omega⟩,?_⟩
   refine hK _ ?_
   clear hK K
   refine zw (zk [4,5]) ?_
   simp only [go_sem]
   refine ze ?_
   simp only [go_sem]
   rw [hv]
   exact ⟨rfl,rfl⟩
def nrC (c : Cu) : Nat → Nat → Nat → Pv
 | 0,_=>fun _=>(0,0)
 | n + 1,k=>fun y=>cvP c n (k + 1) y 3 y
theorem cvP_eq (c : Cu) (n k st d left : Nat) : cvP c n k st d left = cvV c (nrC c n k) k st d left:=by cases n <;> rfl
theorem nrC_ok {c : Cu} (hC : CuG c) {n k : Nat} (hk : k + n + 1 = c.r.ends.length) (hk1 : k + 1 < c.r.ends.length) (y : Nat) (y0 : lowestR c.r ≤ y) (y1 : (y : Int) ≤ c.r.start) :
 OkC c.wise (((tabF c.r false).getD (k + 1) []).getD y 0) (((tabF c.r true).getD (k + 1) []).getD y 0) (nrC c n k y):=by
 obtain ⟨n',rfl⟩ : ∃ n',n = n' + 1:=⟨n - 1,by omega⟩
 have e:=fun m=>tabF_val (r:=c.r) m hk1 y1
 simp only [show ¬ (y : Int) < lowestR c.r by omega,if_false] at e
 rw [e,e]
 exact cvP_okC hC n' (k + 1) (by omega) y 3 y y0 y1 y0 y1
theorem OkC.bnd {w : Bool} {lo hi : Int} {p : Pv} (h : OkC w lo hi p) : (0 ≤ p.1 ∧ p.1 ≤ 1000000) ∧ 0 ≤ p.2 ∧ p.2 ≤ 1000000:=by
 obtain ⟨h1,h2,h3,_⟩:=h
 omega
theorem cval_ok {c : Cu} (hW : CuW c) : ∀ n k : Nat,k + n + 1 = c.r.ends.length → ∀ d st left : Nat,PosC c k st left d →
 MCalls Try.prog 34 (couL c) (couL c) [.pt 1000 0 0,.r (posN4 k st left (d + 1))] (.tu [.r (i64 (cvP c n k st (d + 1) left).1),.r (i64 (cvP c n k st (d + 1) left).2)])
 | n, k, hk, d, st, left, hP => by
   have hN : c.r.ends.length - 1 - k = n:=by omega
   have hv : cvP c n k st (d + 1) left = cvA c k st left (d + 1):=by unfold cvA; rw [hN]
   have hs0:=hP.s0
   have hs1:=hP.s1
   have hl0:=hP.l0
   have hl1:=hP.l1
   have hcell : ∀ b,0 ≤ b → b ≤ 499 → b = 0 ∨ 0 < scoreOf b → _:=fun b b0 b1 b2 =>
    (cell_okC (last:=decide (d = 0)) hW.g hP.k hs0 hs1 hl0 (show (left : Int) ≤ c.r.start by omega) b0 b1 b2 (fun hk1 y y0 y1=>nrC_ok hW.g hk hk1 y y0 y1)
     fun _ y y0 y1=>cvV_okC hW.g hP.k hs0 hs1 (fun hk1 y y0 y1=>nrC_ok hW.g hk hk1 y y0 y1) d y y0 y1).bnd
   refine cvalue_ok (nr:=nrC c n k) (val:=cvV c (nrC c n k) k st d) hW hP hv ?_ hcell ?_ ?_ fun hk1 y y0 y1=>(nrC_ok hW.g hk hk1 y y0 y1).bnd
   · rw [cvP_eq]; rfl
   · intro hd y y0 y1
     obtain ⟨d',rfl⟩ : ∃ d',d = d' + 1:=⟨d - 1,by omega⟩
     have:=cval_ok hW n k hk d' st y ⟨hP.k,hs0,hs1,y0,by omega,by have:=hP.d2; omega,fun h=>by have:=hP.d2; omega⟩
     rw [cvP_eq] at this
     exact this
   · intro hk1 y y0 y1
     obtain ⟨n',rfl⟩ : ∃ n',n = n' + 1:=⟨n - 1,by omega⟩
     exact cval_ok hW n' (k + 1) (by omega) 2 y y ⟨by omega,y0,y1,y0,Nat.le_refl _,Nat.le_refl _,fun _=>rfl⟩
termination_by n _ _ d=>(n,d)
end Go.Proofs.Ytlbfkhikmigpbaa

namespace Go.Proofs.Ytlbfkhikmigpbaa
open Go Go.Oc
set_option linter.unusedSimpArgs false
set_option linter.unusedVariables false
set_option maxRecDepth 8000
set_option maxHeartbeats 4000000
abbrev aimsN (m : Mt) (i : Nat) : List Am:=(List.range i).map (aimM m)
theorem aimsN_succ (m : Mt) (i : Nat) : aimsN m (i + 1) = aimsN m i ++ [aimM m i]:=by simp only [aimsN,List.range_succ,List.map_append,List.map_cons,List.map_nil]
theorem aimN_lt (m : Mt) (i : Nat) : i < aimN m ↔ i = 0 ∨ (i < m.aims.length ∧ i < 3):=by unfold aimN; omega
def vI (b : Nat → Bool) (j : Nat) (v : AV) : AV:=if b j then v else .r .un
theorem dI {ops : Array Oper} {b : Nat → Bool} (h : ∀ j e,j < ops.size → (deps ops j).contains e = true → b j = true → b e = true) (j e : Nat) (h1 : j < ops.size) (h2 : (deps ops j).contains e = true) (he : b e = false) : b j = false:=by
 cases hb : b j
 · rfl
 · rw [h j e h1 h2 hb] at he; cases he
def ibF (A : List RV) (i k j : Nat) (left : Int) (c : Bd) (l : List Bd) (b : Nat → Bool) (vs : Nat → Nat) : List (Nat × AV) :=
 [(1,.r (.rp A)),(2,.pt 2 (vs 2) 0),(3,.pt 3 (vs 3) 0),(4,.r (i64 (i : Int))),(5,.pt 5 (vs 5) 0),(6,.r (i64 left)),(7,.r (i64 (k : Int))),(10,.r (i64 (j : Int))),(13,.r (.rp (bedR c))),
  (123,vI b 0 (.r .ns)),
  (124,vI b 1 (.pt 5 (vs 5) 1)),
  (125,vI b 2 (.r (.sl 3 (l.map bedR)))),
  (126,vI b 3 (.r (i64 (j : Int)))),
  (127,vI b 4 (.r (.sl 3 ((l.map bedR).take j)))),
  (128,vI b 5 (.os 128 (vs 128 - (bif b 13 then 2 else bif b 8 then 1 else 0)) 3 0 j)),
  (129,vI b 6 (.r (.ag (bedR c)))),
  (130,vI b 7 (.r (.sl 3 [bedR c]))),
  (131,vI b 8 (.os 128 (vs 128 - (bif b 13 then 1 else 0)) 3 0 (j + 1))),
  (132,vI b 9 (.pt 5 (vs 5) 1)),
  (133,vI b 10 (.r (.sl 3 (l.map bedR)))),
  (134,vI b 11 (.r (i64 (j : Int)))),
  (135,vI b 12 (.r (.sl 3 ((l.map bedR).drop j)))),
  (136,vI b 13 (.os 128 (vs 128) 3 0 (l.length + 1))),
  (137,vI b 14 (.pt 5 (vs 5) 1))]
def ibR (d s o : Int) (i j : Nat) (aa : List (List RV)) (c : Bd) (l : List Bd) (b : Nat → Bool) (vs : Nat → Nat) : List (Nat × RowC) :=
 bif b 15 then [(2,.box [.r (i64 0),.r .ns,.r (i64 0),.r (i64 0),.r .ns]),(3,.box [.r (i64 d),.os 158 (vs 158) 2 0 i,.r (i64 s),.r (i64 o),.r .ns]),(5,.box [.r (i64 201),.os 128 (vs 128) 3 0 (l.length + 1)]),(128,.arr 90 3 ((l.map bedR).take j ++ bedR c :: (l.map bedR).drop j)),(158,.arr 78 2 aa)]
 else bif b 13 then [(2,.box [.r (i64 0),.r .ns,.r (i64 0),.r (i64 0),.r .ns]),(3,.box [.r (i64 d),.os 158 (vs 158) 2 0 i,.r (i64 s),.r (i64 o),.r .ns]),(5,.box [.r (i64 201),.r (.sl 3 (l.map bedR))]),(128,.arr 90 3 ((l.map bedR).take j ++ bedR c :: (l.map bedR).drop j)),(158,.arr 78 2 aa)]
 else bif b 8 then [(2,.box [.r (i64 0),.r .ns,.r (i64 0),.r (i64 0),.r .ns]),(3,.box [.r (i64 d),.os 158 (vs 158) 2 0 i,.r (i64 s),.r (i64 o),.r .ns]),(5,.box [.r (i64 201),.r (.sl 3 (l.map bedR))]),(128,.arr 90 3 ((l.map bedR).take j ++ [bedR c])),(158,.arr 78 2 aa)]
 else bif b 5 then [(2,.box [.r (i64 0),.r .ns,.r (i64 0),.r (i64 0),.r .ns]),(3,.box [.r (i64 d),.os 158 (vs 158) 2 0 i,.r (i64 s),.r (i64 o),.r .ns]),(5,.box [.r (i64 201),.r (.sl 3 (l.map bedR))]),(128,.arr 90 3 ((l.map bedR).take j)),(158,.arr 78 2 aa)]
 else [(2,.box [.r (i64 0),.r .ns,.r (i64 0),.r (i64 0),.r .ns]),(3,.box [.r (i64 d),.os 158 (vs 158) 2 0 i,.r (i64 s),.r (i64 o),.r .ns]),(5,.box [.r (i64 201),.r (.sl 3 (l.map bedR))]),(158,.arr 78 2 aa)]
theorem awp_fitV {P : Program} {C : Ctx} {c : Code} {Q : Exit → AS → Prop} {n : Nat} {F : (Nat → Nat) → List (Nat × AV)} {R : (Nat → Nat) → List (Nat × RowC)} {s : AS} (h : FitV n F R s) (hQ : ∀ vs,awp P C c Q (st n (F vs) vs (R vs))) : awp P C c Q s:=by
 obtain ⟨vs,hs⟩:=h
 exact zw hs (hQ vs)
theorem mrules_walk (m : Mt) (hw : WfM m) : ∃ c,Try.f32.body = some c ∧ ∀ (C : Ctx) (vs0 : Nat → Nat) (Q : Exit → AS → Prop),
 (∀ vs,awp Try.prog C .ret Q (st 205 [(2,.pt 2 (vs 2) 0)] vs [(2,.box [.r (i64 (ruM m).d),.r (aimsR (ruM m).aims),.r (i64 (ruM m).start),.r (i64 (ruM m).out),.os 196 (vs 196) 2 0 (ruM m).ends.length]),(196,.arr 52 2 ((ruM m).ends.map spanR))])) →
 awp Try.prog C c Q (st 205 (argL 0 [.ag (mtC m)]) vs0 []):=by
 have hone:=one_ok 1000000
 obtain ⟨d0,d1⟩:=hw.den
 obtain ⟨s0,s1⟩:=hw.start
 obtain ⟨o0,o1⟩:=hw.out
 have q1 : IntKind.i64.wrap m.den = m.den:=by rw [zI] <;> omega
 have q2 : IntKind.i64.wrap m.start = m.start:=by rw [zI] <;> omega
 have q3 : IntKind.i64.wrap m.out = m.out:=by rw [zI] <;> omega
 have q4 : m.start.tmod 7 = m.start % 7:=Int.tmod_eq_emod_of_nonneg s0
 have q5 : m.out.tmod 3 = m.out % 3:=Int.tmod_eq_emod_of_nonneg o0
 refine ⟨_,rfl,fun C vs0 Q hQ=>?_⟩
 repeat refine zq ?_
 refine zb (by kernel_rfl) fun K hK=>?_
 simp only [go_sem]
 (try simp (disch:=omega) only [zI])
 repeat first | intro _ | refine ⟨by omega,?_⟩ | refine ⟨⟨by omega,by omega⟩,?_⟩
 refine hK _ ?_
 clear hK K
 refine zw (sub_frzP 1 1 (mtC m) (by omega) rfl rfl) ?_
 refine zw (zk [1,2]) ?_
 simp only [go_sem]
 repeat refine zq ?_
 refine zb (by kernel_rfl) fun K hK=>?_
 simp only [go_sem,q1,q2,q3,q4,q5]
 (try simp (disch:=omega) only [zI])
 repeat first | intro _ | refine ⟨by omega,?_⟩ | refine ⟨⟨by omega,by omega⟩,?_⟩
 refine hK _ ?_
 clear hK K
 refine zw (zk [1,2,3]) ?_
 simp only [go_sem]
 repeat refine zq ?_
 refine zb (by kernel_rfl) fun K hK=>?_
 simp only [go_sem]
 (try simp (disch:=omega) only [zI])
 repeat first | intro _ | refine ⟨by omega,?_⟩ | refine ⟨⟨by omega,by omega⟩,?_⟩
 refine hK _ ?_
 clear hK K
 refine zw (zk [1,2,3,4]) ?_
 simp only [go_sem]
 repeat refine zq ?_
 refine zd ?_
 refine zw (sub_ownB 3 1 158 78 2 (by omega) (by omega) rfl rfl) ?_
 try simp only [go_sem]
 refine awp_whileV (n:=205) (fun (i : Nat) vs=>[(1,.r (.rp (mtC m))),(2,.pt 2 (vs 2) 0),(3,.pt 3 (vs 3) 0),(4,.r (i64 i))])
  (fun i vs=>[(2,.box [.r (i64 0),.r .ns,.r (i64 0),.r (i64 0),.r .ns]),(3,.box [.r (i64 (4 + m.den)),.os 158 (vs 158) 2 0 i,.r (i64 (2 + m.start % 7)),.r (i64 (m.out % 3)),.r .ns]),(158,.arr 78 2 ((aimsN m i).map aimR))])
  (fun i=>i ≤ aimN m) (fun i=>aimN m - i) 0 (zj [] ?_ ?_) (Nat.zero_le _) ?_
 · try simp only [go_sem]
 · try simp only [go_sem]
   rfl
 · intro i vs hi
   have hml:=aimN_lt m i
   repeat refine zq ?_
   refine awp_joinV (n:=205) (fun (_ : Unit) vs=>[(1,.r (.rp (mtC m))),(2,.pt 2 (vs 2) 0),(3,.pt 3 (vs 3) 0),(4,.r (i64 i)),(43,.r (.bo (decide (i < aimN m))))])
    (fun _ vs=>[(2,.box [.r (i64 0),.r .ns,.r (i64 0),.r (i64 0),.r .ns]),(3,.box [.r (i64 (4 + m.den)),.os 158 (vs 158) 2 0 i,.r (i64 (2 + m.start % 7)),.r (i64 (m.out % 3)),.r .ns]),(158,.arr 78 2 ((aimsN m i).map aimR))]) (fun _=>True) (fun _ h=>h) ?_ ?_
   · repeat refine zq ?_
     refine zb (by kernel_rfl) fun K hK=>?_
     simp only [go_sem]
     (try simp (disch:=omega) only [zI])
     repeat' first | intro _ | refine And.intro ?_ ?_
     all_goals first | omega | skip
     all_goals (refine hK _ ?_; clear hK K)
     all_goals (try simp only [go_sem])
     all_goals (refine ⟨(),zj [] ?_ ?_⟩ <;> try simp only [go_sem])
     all_goals (rw [Bool.eq_iff_iff]; simp; omega)
   · intro _ vs _
     repeat refine zq ?_
     refine zc rfl (fun hc=>?_) (fun hc=>?_) <;> (try simp only [go_sem] at hc)
     · have hil : i < aimN m:=by simpa using hc
       refine zx ?_
       try simp only [go_sem]
       repeat refine zq ?_
       refine zd ?_
       repeat refine zq ?_
       refine zb (by kernel_rfl) fun K hK=>?_
       simp only [go_sem]
       (try simp (disch:=omega) only [zI])
       repeat first | intro _ | refine ⟨by omega,?_⟩ | refine ⟨⟨by omega,by omega⟩,?_⟩
       refine hK _ ?_
       clear hK K
       refine zw (zk [1,2,3,4,5]) ?_
       simp only [go_sem]
       repeat refine zq ?_
       refine zb (by kernel_rfl) fun K hK=>?_
       simp only [go_sem]
       (try simp (disch:=omega) only [zI])
       repeat first | intro _ | refine ⟨by omega,?_⟩ | refine ⟨⟨by omega,by omega⟩,?_⟩
       refine hK _ ?_
       clear hK K
       refine zw (zk [1,2,3,4,5,6]) ?_
       simp only [go_sem]
       repeat refine zq ?_
       refine zb (by kernel_rfl) fun K hK=>?_
       simp only [go_sem]
       (try simp (disch:=omega) only [zI])
       repeat first | intro _ | refine ⟨by omega,?_⟩ | refine ⟨⟨by omega,by omega⟩,?_⟩
       refine hK _ ?_
       clear hK K
       refine zw (sub_ownB 5 1 128 90 3 (by omega) (by omega) rfl rfl) ?_
       refine zw (zk [1,2,3,4,5,6,7]) ?_
       simp only [go_sem]
       repeat refine zq ?_
       refine zd ?_
       generalize hee : m.aims.getD i [] = e
       have heL : i < m.aims.length → m.aims[i]? = some e ∧ e.length = 12 ∧ ∀ x ∈ e,0 ≤ x ∧ x ≤ 255:=fun h=>by
        obtain ⟨e',he'⟩:=opt_of_lt h
        have : e' = e:=by rw [← hee]; simp [List.getD,he']
        subst this
        exact ⟨he',hw.aims e' (mem_of_opt he')⟩
       obtain ⟨N,hN⟩ : ∃ N : Nat,N = if i < m.aims.length then 4 else 0:=⟨_,rfl⟩
       refine awp_uptoV (n:=205) N (fun k vs=>[(1,.r (.rp (mtC m))),(2,.pt 2 (vs 2) 0),(3,.pt 3 (vs 3) 0),(4,.r (i64 i)),(5,.pt 5 (vs 5) 0),(6,.r (i64 (stB (4 + m.den) e k).2)),(7,.r (i64 (k : Int)))])
        (fun k vs=>[(2,.box [.r (i64 0),.r .ns,.r (i64 0),.r (i64 0),.r .ns]),(3,.box [.r (i64 (4 + m.den)),.os 158 (vs 158) 2 0 i,.r (i64 (2 + m.start % 7)),.r (i64 (m.out % 3)),.r .ns]),(5,.box [.r (i64 201),.os 128 (vs 128) 3 0 (stB (4 + m.den) e k).1.length]),(128,.arr 90 3 ((stB (4 + m.den) e k).1.map bedR)),(158,.arr 78 2 ((aimsN m i).map aimR))]) (fun _=>True) 0 (zj [] ?_ ?_) (Nat.zero_le _) trivial ?_
       · try simp only [go_sem]
         simp [stB]
       · try simp only [go_sem]
         simp [stB]
       · intro k vs hk _
         repeat refine zq ?_
         refine awp_joinV (n:=205) (fun (_ : Unit) vs=>[(1,.r (.rp (mtC m))),(2,.pt 2 (vs 2) 0),(3,.pt 3 (vs 3) 0),(4,.r (i64 i)),(5,.pt 5 (vs 5) 0),(6,.r (i64 (stB (4 + m.den) e k).2)),(7,.r (i64 (k : Int))),(58,.r (.bo (decide (k < N))))])
          (fun _ vs=>[(2,.box [.r (i64 0),.r .ns,.r (i64 0),.r (i64 0),.r .ns]),(3,.box [.r (i64 (4 + m.den)),.os 158 (vs 158) 2 0 i,.r (i64 (2 + m.start % 7)),.r (i64 (m.out % 3)),.r .ns]),(5,.box [.r (i64 201),.os 128 (vs 128) 3 0 (stB (4 + m.den) e k).1.length]),(128,.arr 90 3 ((stB (4 + m.den) e k).1.map bedR)),(158,.arr 78 2 ((aimsN m i).map aimR))]) (fun _=>True) (fun _ h=>h) ?_ ?_
         · repeat refine zq ?_
           refine zb (by kernel_rfl) fun K hK=>?_
           simp only [go_sem]
           (try simp (disch:=omega) only [zI])
           repeat' first | intro _ | refine And.intro ?_ ?_
           all_goals first | omega | skip
           all_goals (refine hK _ ?_; clear hK K)
           all_goals (try simp only [go_sem])
           all_goals (refine ⟨(),zj [] ?_ ?_⟩ <;> try simp only [go_sem])
           all_goals (rw [Bool.eq_iff_iff]; simp; first | omega | (split at hN <;> omega))
         · intro _ vs _
           repeat refine zq ?_
           refine zc rfl (fun hc=>?_) (fun hc=>?_) <;> (try simp only [go_sem] at hc)
           · have hkN : k < N:=by simpa using hc
             have hiL : i < m.aims.length:=by
              by_cases h : i < m.aims.length
              · exact h
              · rw [if_neg h] at hN; omega
             have hk4 : k < 4:=by rw [if_pos hiL] at hN; omega
             obtain ⟨he1,he2,he3⟩:=heL hiL
             obtain ⟨hv1,hv2⟩:=v_drop he2 hk4
             obtain ⟨⟨vx0,vx1⟩,⟨vy0,vy1⟩,vz0,vz1⟩:=v_le he3 k
             have hst:=(stB_ok (den:=4 + m.den) (by omega) he3 k).1
             have hsl:=(stB_ok (den:=4 + m.den) (by omega) he3 k).2
             have hnx : stB (4 + m.den) e (k + 1) = addB (4 + m.den) (stB (4 + m.den) e k) (vAt e k):=rfl
             generalize hS : stB (4 + m.den) e k = S at hst hsl hnx ⊢
             obtain ⟨l,left⟩:=S
             simp only at hsl
             generalize hv : vAt e k = v at *
             obtain ⟨x,y,z⟩:=v
             simp only at hv1 vx0 vx1 vy0 vy1 vz0 vz1
             refine zx ?_
             try simp only [go_sem]
             repeat refine zq ?_
             refine zd ?_
             repeat refine zq ?_
             refine zb (by kernel_rfl) fun K hK=>?_
             simp only [go_sem,he1,hiL,hv1,hv2]
             (try simp (disch:=omega) only [zI])
             repeat first | intro _ | refine ⟨by omega,?_⟩ | refine ⟨⟨by omega,by omega⟩,?_⟩
             refine hK _ ?_
             clear hK K
             refine zw (sub_frzP 8 8 [it8 x,it8 y,it8 z] (by omega) rfl rfl) ?_
             refine zw (zk [1,2,3,4,5,6,7,8]) ?_
             simp only [go_sem]
             have hbed:=bed_ok x vx0 vx1
             repeat refine zq ?_
             refine zb (by kernel_rfl) fun K hK=>?_
             simp only [go_sem]
             (try simp (disch:=omega) only [zI])
             refine zh (hbed) rfl (by simp only [go_sem,i64,ints]) (by simp only [go_sem,i64,ints]) (by first | exact .inl rfl | exact .inr rfl) ?_
             (try simp only [go_sem])
             (try simp (disch:=omega) only [zI])
             repeat first | intro _ | refine ⟨by omega,?_⟩ | refine ⟨⟨by omega,by omega⟩,?_⟩
             refine hK _ ?_
             clear hK K
             refine zw (zk [1,2,3,4,5,6,7,8,9,10]) ?_
             simp only [go_sem]
             repeat refine zq ?_
             refine zb (by kernel_rfl) fun K hK=>?_
             simp only [go_sem]
             (try simp (disch:=omega) only [zI])
             repeat first | intro _ | refine ⟨by omega,?_⟩ | refine ⟨⟨by omega,by omega⟩,?_⟩
             refine hK _ ?_
             clear hK K
             refine zw (zk [1,2,3,4,5,6,7,8,9,10,11]) ?_
             simp only [go_sem]
             repeat refine zq ?_
             refine zd ?_
             refine awp_uptoV (n:=205) (frontB (bedN x) l).length (fun j vs=>[(1,.r (.rp (mtC m))),(2,.pt 2 (vs 2) 0),(3,.pt 3 (vs 3) 0),(4,.r (i64 i)),(5,.pt 5 (vs 5) 0),(6,.r (i64 left)),(7,.r (i64 (k : Int))),(8,.r (.rp [it8 x,it8 y,it8 z])),(9,.r (i64 (bedN x))),(10,.r (i64 (j : Int))),(11,.r (.bo (((frontB (bedN x) l).take j).any fun c=>decide (c.b = bedN x))))])
              (fun j vs=>[(2,.box [.r (i64 0),.r .ns,.r (i64 0),.r (i64 0),.r .ns]),(3,.box [.r (i64 (4 + m.den)),.os 158 (vs 158) 2 0 i,.r (i64 (2 + m.start % 7)),.r (i64 (m.out % 3)),.r .ns]),(5,.box [.r (i64 201),.os 128 (vs 128) 3 0 l.length]),(128,.arr 90 3 (l.map bedR)),(158,.arr 78 2 ((aimsN m i).map aimR))]) (fun _=>True) 0 (zj [] ?_ ?_) (Nat.zero_le _) trivial ?_
             · try simp only [go_sem]
               rfl
             · try simp only [go_sem]
             · intro j vs hj _
               have hfl:=front_le (bedN x) l
               by_cases hjN : j < (frontB (bedN x) l).length
               · obtain ⟨c,hc1,hc2,hc3⟩:=front_get hjN
                 have hjl : j < l.length:=by omega
                 repeat refine zq ?_
                 refine zb (by kernel_rfl) fun K hK=>?_
                 simp only [go_sem,hc1,hc3,hjl,bedR,List.headD_cons]
                 (try simp (disch:=omega) only [zI])
                 repeat first | intro _ | refine ⟨by omega,?_⟩ | refine ⟨⟨by omega,by omega⟩,?_⟩
                 refine hK _ ?_
                 clear hK K
                 refine zw (zk [1,2,3,4,5,6,7,8,9,10,11,85]) ?_
                 simp only [go_sem]
                 repeat refine zq ?_
                 refine zc rfl (fun hc=>?_) (fun hc=>?_) <;> (try simp only [go_sem] at hc)
                 refine zx ?_
                 try simp only [go_sem]
                 repeat refine zq ?_
                 refine zd ?_
                 have hts : ((frontB (bedN x) l).take (j + 1)).any (fun c=>decide (c.b = bedN x)) = (((frontB (bedN x) l).take j).any (fun c=>decide (c.b = bedN x)) || decide (c.b = bedN x)):=by
                  rw [List.take_add_one,hc2]; simp
                 have hj1 : IntKind.i64.wrap ((j : Int) + 1) = ((j + 1 : Nat) : Int):=by rw [zI] <;> omega
                 cases hA : ((frontB (bedN x) l).take j).any (fun c=>decide (c.b = bedN x)) with
                 | true =>
                   rw [hA,Bool.true_or] at hts
                   repeat refine zq ?_
                   refine zb (by kernel_rfl) fun K hK=>?_
                   simp only [go_sem]
                   (try simp (disch:=omega) only [zI])
                   repeat first | intro _ | refine ⟨by omega,?_⟩ | refine ⟨⟨by omega,by omega⟩,?_⟩
                   refine hK _ ?_
                   clear hK K
                   refine zw (zk [1,2,3,4,5,6,7,8,9,10,11]) ?_
                   simp only [go_sem]
                   repeat refine zq ?_
                   refine zb (by kernel_rfl) fun K hK=>?_
                   simp only [go_sem]
                   (try simp (disch:=omega) only [zI])
                   repeat first | intro _ | refine ⟨by omega,?_⟩ | refine ⟨⟨by omega,by omega⟩,?_⟩
                   refine hK _ ?_
                   clear hK K
                   try simp only [go_sem]
                   refine ⟨hjN,zj [] ?_ ?_⟩
                   · try simp only [go_sem]
                     simpa using hts
                   · try simp only [go_sem]
                 | false =>
                   rw [hA,Bool.false_or] at hts
                   repeat refine zq ?_
                   refine zb (by kernel_rfl) fun K hK=>?_
                   simp only [go_sem,hc1,hjl,bedR,List.headD_cons]
                   (try simp (disch:=omega) only [zI])
                   repeat first | intro _ | refine ⟨by omega,?_⟩ | refine ⟨⟨by omega,by omega⟩,?_⟩
                   refine hK _ ?_
                   clear hK K
                   refine zw (zk [1,2,3,4,5,6,7,8,9,10,11]) ?_
                   simp only [go_sem]
                   repeat refine zq ?_
                   refine zb (by kernel_rfl) fun K hK=>?_
                   simp only [go_sem]
                   (try simp (disch:=omega) only [zI])
                   repeat first | intro _ | refine ⟨by omega,?_⟩ | refine ⟨⟨by omega,by omega⟩,?_⟩
                   refine hK _ ?_
                   clear hK K
                   try simp only [go_sem]
                   refine ⟨hjN,zj [] ?_ ?_⟩
                   · try simp only [go_sem]
                     rw [hts]; rfl
                   · try simp only [go_sem]
               · have hjN : j = (frontB (bedN x) l).length:=by omega
                 have hft : (frontB (bedN x) l).take j = frontB (bedN x) l:=by rw [hjN]; exact List.take_length
                 rw [hft]
                 generalize hany : (frontB (bedN x) l).any (fun c=>decide (c.b = bedN x)) = an at *
                 repeat refine zq ?_
                 refine awp_joinV (n:=205) (fun (_ : Unit) vs=>[(1,.r (.rp (mtC m))),(2,.pt 2 (vs 2) 0),(3,.pt 3 (vs 3) 0),(4,.r (i64 i)),(5,.pt 5 (vs 5) 0),(6,.r (i64 left)),(7,.r (i64 (k : Int))),(8,.r (.rp [it8 x,it8 y,it8 z])),(9,.r (i64 (bedN x))),(10,.r (i64 (j : Int))),(11,.r (.bo an)),(85,.r (.bo false))])
                  (fun _ vs=>[(2,.box [.r (i64 0),.r .ns,.r (i64 0),.r (i64 0),.r .ns]),(3,.box [.r (i64 (4 + m.den)),.os 158 (vs 158) 2 0 i,.r (i64 (2 + m.start % 7)),.r (i64 (m.out % 3)),.r .ns]),(5,.box [.r (i64 201),.os 128 (vs 128) 3 0 l.length]),(128,.arr 90 3 (l.map bedR)),(158,.arr 78 2 ((aimsN m i).map aimR))]) (fun _=>True) (fun _ h=>h) ?_ ?_
                 · by_cases hjl : j < l.length
                   · obtain ⟨c,hc1⟩:=opt_of_lt hjl
                     have hgt : bedN x < c.b:=front_end (by rw [← hjN]; exact hc1)
                     have hcle : (decide (c.b ≤ bedN x)) = false:=by simp; omega
                     repeat refine zq ?_
                     refine zb (by kernel_rfl) fun K hK=>?_
                     simp only [go_sem,hc1,hjl,hcle,bedR,List.headD_cons]
                     (try simp (disch:=omega) only [zI])
                     repeat first | intro _ | refine ⟨by omega,?_⟩ | refine ⟨⟨by omega,by omega⟩,?_⟩
                     refine hK _ ?_
                     clear hK K
                     try simp only [go_sem]
                     exact ⟨(),zj [] (by try simp only [go_sem]) (by try simp only [go_sem])⟩
                   · repeat refine zq ?_
                     refine zb (by kernel_rfl) fun K hK=>?_
                     simp only [go_sem,hjl]
                     (try simp (disch:=omega) only [zI])
                     repeat first | intro _ | refine ⟨by omega,?_⟩ | refine ⟨⟨by omega,by omega⟩,?_⟩
                     refine hK _ ?_
                     clear hK K
                     try simp only [go_sem]
                     exact ⟨(),zj [] (by try simp only [go_sem]) (by try simp only [go_sem])⟩
                 intro _ vs _
                 repeat refine zq ?_
                 refine zc rfl (fun hc=>?_) (fun hc=>?_) <;> (try simp only [go_sem] at hc)
                 refine zf ?_
                 simp only [go_sem]
                 repeat refine zq ?_
                 refine zb (by kernel_rfl) fun K hK=>?_
                 simp only [go_sem]
                 (try simp (disch:=omega) only [zI])
                 repeat first | intro _ | refine ⟨by omega,?_⟩ | refine ⟨⟨by omega,by omega⟩,?_⟩
                 refine hK _ ?_
                 clear hK K
                 refine zw (zk [1,2,3,4,5,6,7,8,9,10,99]) ?_
                 simp only [go_sem]
                 repeat refine zq ?_
                 refine zc rfl (fun hc=>?_) (fun hc=>?_) <;> (try simp only [go_sem] at hc)
                 · have hnx2 : stB (4 + m.den) e (k + 1) = (l,left):=by
                    rw [hnx]
                    simp [addB,hany,hc]
                   refine zf ?_
                   simp only [go_sem]
                   repeat refine zq ?_
                   refine zb (by kernel_rfl) fun K hK=>?_
                   simp only [go_sem]
                   (try simp (disch:=omega) only [zI])
                   repeat first | intro _ | refine ⟨by omega,?_⟩ | refine ⟨⟨by omega,by omega⟩,?_⟩
                   refine hK _ ?_
                   clear hK K
                   try simp only [go_sem]
                   refine ⟨hkN,zj [] ?_ ?_⟩
                   · try simp only [go_sem]
                     simp [hnx2]
                   · try simp only [go_sem]
                     simp [hnx2]
                 · have hll:=beds_left hst
                   simp only at hll
                   have hlf0 : 0 ≤ left:=hst.left0
                   have hly0 : 0 ≤ left * y:=Int.mul_nonneg hlf0 vy0
                   have hly : left * y ≤ 259 * 255:=Int.mul_le_mul (by omega) vy1 vy0 (by omega)
                   have hnx2 : stB (4 + m.den) e (k + 1) = (l.take (frontB (bedN x) l).length ++ (⟨bedN x,left * y / 512,min (4 + m.den) (left * y / 512 + z % 50)⟩ :: l.drop (frontB (bedN x) l).length),left - left * y / 512):=by
                    rw [hnx]
                    simp [addB,hany,hc]
                   have w1 : IntKind.i64.wrap (left * y) = left * y:=by rw [zI] <;> omega
                   have w2 : IntKind.i64.wrap ((left * y).tdiv 512) = left * y / 512:=by rw [Int.tdiv_eq_ediv_of_nonneg hly0,zI] <;> omega
                   have w3 : z.tmod 50 = z % 50:=Int.tmod_eq_emod_of_nonneg vz0
                   have w4 : IntKind.i64.wrap y = y:=by rw [zI] <;> omega
                   have w5 : IntKind.i64.wrap z = z:=by rw [zI] <;> omega
                   have hlo0 : 0 ≤ left * y / 512 ∧ left * y / 512 ≤ 200:=by omega
                   refine zx ?_
                   try simp only [go_sem]
                   repeat refine zq ?_
                   refine zb (by kernel_rfl) fun K hK=>?_
                   simp only [go_sem,w1,w2,w4]
                   (try simp (disch:=omega) only [zI])
                   repeat first | intro _ | refine ⟨by omega,?_⟩ | refine ⟨⟨by omega,by omega⟩,?_⟩
                   refine hK _ ?_
                   clear hK K
                   generalize hlow : left * y / 512 = low at *
                   refine zw (zk [1,2,3,4,5,6,7,8,9,10,12]) ?_
                   simp only [go_sem]
                   repeat refine zq ?_
                   refine zb (by kernel_rfl) fun K hK=>?_
                   simp only [go_sem,w3,w5]
                   (try simp (disch:=omega) only [zI])
                   repeat first | intro _ | refine ⟨by omega,?_⟩ | refine ⟨⟨by omega,by omega⟩,?_⟩
                   refine hK _ ?_
                   clear hK K
                   refine zw (sub_frzP 13 13 [i64 (bedN x),i64 low,i64 (min (4 + m.den) (low + z % 50))] (by omega) rfl rfl) ?_
                   refine zw (zk [1,2,3,4,5,6,7,10,12,13]) ?_
                   simp only [go_sem]
                   repeat refine zq ?_
                   refine zb (by kernel_rfl) fun K hK=>?_
                   simp only [go_sem]
                   (try simp (disch:=omega) only [zI])
                   repeat first | intro _ | refine ⟨by omega,?_⟩ | refine ⟨⟨by omega,by omega⟩,?_⟩
                   refine hK _ ?_
                   clear hK K
                   refine zw (zk [1,2,3,4,5,6,7,10,13]) ?_
                   simp only [go_sem]
                   refine zw (sub_frzB 5 1 128 (by omega) (by omega) rfl rfl rfl (by simp)) ?_
                   try simp only [go_sem]
                   have hfl2:=front_le (bedN x) l
                   have hjl : j ≤ l.length:=by omega
                   have hmin : min j l.length = j:=by omega
                   have hj1 : j + 1 + (l.length - j) = l.length + 1:=by omega
                   have ha1 : ∀ n : Nat,n + 1 - 1 = n:=fun n=>by omega
                   have ha2 : ∀ n : Nat,n + 1 - 2 = n - 1:=fun n=>by omega
                   have hcb : (⟨bedN x,low,min (4 + m.den) (low + z % 50)⟩ : Bd) = (⟨bedN x,low,min (4 + m.den) (low + z % 50)⟩ : Bd):=rfl
                   generalize hcd : (⟨bedN x,low,min (4 + m.den) (low + z % 50)⟩ : Bd) = c at hcb
                   have hcR : [i64 (bedN x),i64 low,i64 (min (4 + m.den) (low + z % 50))] = bedR c:=by rw [← hcd]; rfl
                   rw [hcR]
                   repeat refine zq ?_
                   refine awp_inv (n:=205) (ibF (mtC m) i k j (left - low) c l) (ibR (4 + m.den) (2 + m.start % 7) (m.out % 3) i j ((aimsN m i).map aimR) c l) follows (by kernel_rfl) (by kernel_rfl) (by decide +kernel) (zj [] ?_ ?_) ?_ ?_
                   · simp only [go_sem,ibF,vI,if_true,if_false,Bool.false_eq_true]
                   · simp only [go_sem,ibR]
                   · refine ⟨fun b vs hdn hbk hde=>?_,fun b vs hdn hbk hde=>?_,fun b vs hdn hbk hde=>?_,fun b vs hdn hbk hde=>?_,fun b vs hdn hbk hde=>?_,fun b vs hdn hbk hde=>?_,fun b vs hdn hbk hde=>?_,fun b vs hdn hbk hde=>?_,fun b vs hdn hbk hde=>?_,fun b vs hdn hbk hde=>?_,fun b vs hdn hbk hde=>?_,fun b vs hdn hbk hde=>?_,fun b vs hdn hbk hde=>?_,fun b vs hdn hbk hde=>?_,fun b vs hdn hbk hde=>?_,fun b vs hdn hbk hde=>?_,trivial⟩
                     · skip
                       have f5 : b 5 = false:=dI hdn 5 0 (by decide +kernel) (by decide +kernel) hbk
                       have f14 : b 14 = false:=dI hdn 14 0 (by decide +kernel) (by decide +kernel) hbk
                       have f15 : b 15 = false:=dI hdn 15 0 (by decide +kernel) (by decide +kernel) hbk
                       have f8 : b 8 = false:=dI hdn 8 5 (by decide +kernel) (by decide +kernel) f5
                       have f13 : b 13 = false:=dI hdn 13 8 (by decide +kernel) (by decide +kernel) f8
                       (simp only [go_sem,ibF,ibR,upd,vI,cond_true,cond_false,if_true,Bool.false_eq_true,if_false,hbk,f5,f8,f13,f14,f15,hmin,Nat.sub_zero,hj1,bedR,List.length_map,List.length_take,List.length_drop,List.length_append,List.length_cons,List.length_nil,Nat.zero_add])
                       all_goals (refine zj [] ?_ ?_ <;> (simp only [go_sem,ibF,ibR,upd,vI,cond_true,cond_false,if_true,Bool.false_eq_true,if_false,hbk,f5,f8,f13,f14,f15,hj1,ha1,ha2,Nat.sub_zero,List.append_assoc,List.cons_append,List.nil_append,bedR]))
                     · skip
                       have f2 : b 2 = false:=dI hdn 2 1 (by decide +kernel) (by decide +kernel) hbk
                       have f14 : b 14 = false:=dI hdn 14 1 (by decide +kernel) (by decide +kernel) hbk
                       have f15 : b 15 = false:=dI hdn 15 1 (by decide +kernel) (by decide +kernel) hbk
                       have f4 : b 4 = false:=dI hdn 4 2 (by decide +kernel) (by decide +kernel) f2
                       have f5 : b 5 = false:=dI hdn 5 4 (by decide +kernel) (by decide +kernel) f4
                       have f8 : b 8 = false:=dI hdn 8 5 (by decide +kernel) (by decide +kernel) f5
                       have f13 : b 13 = false:=dI hdn 13 8 (by decide +kernel) (by decide +kernel) f8
                       (simp only [go_sem,ibF,ibR,upd,vI,cond_true,cond_false,if_true,Bool.false_eq_true,if_false,hbk,f2,f4,f5,f8,f13,f14,f15,hmin,Nat.sub_zero,hj1,bedR,List.length_map,List.length_take,List.length_drop,List.length_append,List.length_cons,List.length_nil,Nat.zero_add])
                       all_goals (refine zj [] ?_ ?_ <;> (simp only [go_sem,ibF,ibR,upd,vI,cond_true,cond_false,if_true,Bool.false_eq_true,if_false,hbk,f2,f4,f5,f8,f13,f14,f15,hj1,ha1,ha2,Nat.sub_zero,List.append_assoc,List.cons_append,List.nil_append,bedR]))
                     · skip
                       have h1 : b 1 = true:=hde 1 (by decide +kernel)
                       have f4 : b 4 = false:=dI hdn 4 2 (by decide +kernel) (by decide +kernel) hbk
                       have f14 : b 14 = false:=dI hdn 14 2 (by decide +kernel) (by decide +kernel) hbk
                       have f15 : b 15 = false:=dI hdn 15 2 (by decide +kernel) (by decide +kernel) hbk
                       have f5 : b 5 = false:=dI hdn 5 4 (by decide +kernel) (by decide +kernel) f4
                       have f8 : b 8 = false:=dI hdn 8 5 (by decide +kernel) (by decide +kernel) f5
                       have f13 : b 13 = false:=dI hdn 13 8 (by decide +kernel) (by decide +kernel) f8
                       (simp only [go_sem,ibF,ibR,upd,vI,cond_true,cond_false,if_true,Bool.false_eq_true,if_false,h1,hbk,f4,f5,f8,f13,f14,f15,hmin,Nat.sub_zero,hj1,bedR,List.length_map,List.length_take,List.length_drop,List.length_append,List.length_cons,List.length_nil,Nat.zero_add])
                       all_goals (refine zj [] ?_ ?_ <;> (simp only [go_sem,ibF,ibR,upd,vI,cond_true,cond_false,if_true,Bool.false_eq_true,if_false,h1,hbk,f4,f5,f8,f13,f14,f15,hj1,ha1,ha2,Nat.sub_zero,List.append_assoc,List.cons_append,List.nil_append,bedR]))
                     · skip
                       have f4 : b 4 = false:=dI hdn 4 3 (by decide +kernel) (by decide +kernel) hbk
                       have f14 : b 14 = false:=dI hdn 14 3 (by decide +kernel) (by decide +kernel) hbk
                       have f15 : b 15 = false:=dI hdn 15 3 (by decide +kernel) (by decide +kernel) hbk
                       have f5 : b 5 = false:=dI hdn 5 4 (by decide +kernel) (by decide +kernel) f4
                       have f8 : b 8 = false:=dI hdn 8 5 (by decide +kernel) (by decide +kernel) f5
                       have f13 : b 13 = false:=dI hdn 13 8 (by decide +kernel) (by decide +kernel) f8
                       (simp only [go_sem,ibF,ibR,upd,vI,cond_true,cond_false,if_true,Bool.false_eq_true,if_false,hbk,f4,f5,f8,f13,f14,f15,hmin,Nat.sub_zero,hj1,bedR,List.length_map,List.length_take,List.length_drop,List.length_append,List.length_cons,List.length_nil,Nat.zero_add])
                       all_goals (refine zj [] ?_ ?_ <;> (simp only [go_sem,ibF,ibR,upd,vI,cond_true,cond_false,if_true,Bool.false_eq_true,if_false,hbk,f4,f5,f8,f13,f14,f15,hj1,ha1,ha2,Nat.sub_zero,List.append_assoc,List.cons_append,List.nil_append,bedR]))
                     · skip
                       have h2 : b 2 = true:=hde 2 (by decide +kernel)
                       have h3 : b 3 = true:=hde 3 (by decide +kernel)
                       have h1 : b 1 = true:=hdn 2 1 (by decide +kernel) (by decide +kernel) h2
                       have f5 : b 5 = false:=dI hdn 5 4 (by decide +kernel) (by decide +kernel) hbk
                       have f14 : b 14 = false:=dI hdn 14 4 (by decide +kernel) (by decide +kernel) hbk
                       have f15 : b 15 = false:=dI hdn 15 4 (by decide +kernel) (by decide +kernel) hbk
                       have f8 : b 8 = false:=dI hdn 8 5 (by decide +kernel) (by decide +kernel) f5
                       have f13 : b 13 = false:=dI hdn 13 8 (by decide +kernel) (by decide +kernel) f8
                       (simp only [go_sem,ibF,ibR,upd,vI,cond_true,cond_false,if_true,Bool.false_eq_true,if_false,h1,h2,h3,hbk,f5,f8,f13,f14,f15,hmin,Nat.sub_zero,hj1,bedR,List.length_map,List.length_take,List.length_drop,List.length_append,List.length_cons,List.length_nil,Nat.zero_add])
                       all_goals refine ⟨by omega,?_⟩
                       all_goals (refine zj [] ?_ ?_ <;> (simp only [go_sem,ibF,ibR,upd,vI,cond_true,cond_false,if_true,Bool.false_eq_true,if_false,h1,h2,h3,hbk,f5,f8,f13,f14,f15,hj1,ha1,ha2,Nat.sub_zero,List.append_assoc,List.cons_append,List.nil_append,bedR]))
                     · skip
                       have h0 : b 0 = true:=hde 0 (by decide +kernel)
                       have h4 : b 4 = true:=hde 4 (by decide +kernel)
                       have h2 : b 2 = true:=hdn 4 2 (by decide +kernel) (by decide +kernel) h4
                       have h3 : b 3 = true:=hdn 4 3 (by decide +kernel) (by decide +kernel) h4
                       have h1 : b 1 = true:=hdn 2 1 (by decide +kernel) (by decide +kernel) h2
                       have f8 : b 8 = false:=dI hdn 8 5 (by decide +kernel) (by decide +kernel) hbk
                       have f14 : b 14 = false:=dI hdn 14 5 (by decide +kernel) (by decide +kernel) hbk
                       have f15 : b 15 = false:=dI hdn 15 5 (by decide +kernel) (by decide +kernel) hbk
                       have f13 : b 13 = false:=dI hdn 13 8 (by decide +kernel) (by decide +kernel) f8
                       (simp only [go_sem,ibF,ibR,upd,vI,cond_true,cond_false,if_true,Bool.false_eq_true,if_false,h0,h1,h2,h3,h4,hbk,f8,f13,f14,f15,hmin,Nat.sub_zero,hj1,bedR,List.length_map,List.length_take,List.length_drop,List.length_append,List.length_cons,List.length_nil,Nat.zero_add])
                       all_goals refine ⟨by omega,?_⟩
                       all_goals (refine zj [] ?_ ?_ <;> (simp only [go_sem,ibF,ibR,upd,vI,cond_true,cond_false,if_true,Bool.false_eq_true,if_false,h0,h1,h2,h3,h4,hbk,f8,f13,f14,f15,hj1,ha1,ha2,Nat.sub_zero,List.append_assoc,List.cons_append,List.nil_append,bedR]))
                     · skip
                       have f7 : b 7 = false:=dI hdn 7 6 (by decide +kernel) (by decide +kernel) hbk
                       have f14 : b 14 = false:=dI hdn 14 6 (by decide +kernel) (by decide +kernel) hbk
                       have f15 : b 15 = false:=dI hdn 15 6 (by decide +kernel) (by decide +kernel) hbk
                       have f8 : b 8 = false:=dI hdn 8 7 (by decide +kernel) (by decide +kernel) f7
                       have f13 : b 13 = false:=dI hdn 13 8 (by decide +kernel) (by decide +kernel) f8
                       cases g5 : b 5
                       all_goals (simp only [go_sem,ibF,ibR,upd,vI,cond_true,cond_false,if_true,Bool.false_eq_true,if_false,hbk,f7,f8,f13,f14,f15,g5,hmin,Nat.sub_zero,hj1,bedR,List.length_map,List.length_take,List.length_drop,List.length_append,List.length_cons,List.length_nil,Nat.zero_add])
                       all_goals (refine zj [] ?_ ?_ <;> (simp only [go_sem,ibF,ibR,upd,vI,cond_true,cond_false,if_true,Bool.false_eq_true,if_false,hbk,f7,f8,f13,f14,f15,g5,hj1,ha1,ha2,Nat.sub_zero,List.append_assoc,List.cons_append,List.nil_append,bedR]))
                     · skip
                       have h6 : b 6 = true:=hde 6 (by decide +kernel)
                       have f8 : b 8 = false:=dI hdn 8 7 (by decide +kernel) (by decide +kernel) hbk
                       have f14 : b 14 = false:=dI hdn 14 7 (by decide +kernel) (by decide +kernel) hbk
                       have f15 : b 15 = false:=dI hdn 15 7 (by decide +kernel) (by decide +kernel) hbk
                       have f13 : b 13 = false:=dI hdn 13 8 (by decide +kernel) (by decide +kernel) f8
                       cases g5 : b 5
                       all_goals (simp only [go_sem,ibF,ibR,upd,vI,cond_true,cond_false,if_true,Bool.false_eq_true,if_false,h6,hbk,f8,f13,f14,f15,g5,hmin,Nat.sub_zero,hj1,bedR,List.length_map,List.length_take,List.length_drop,List.length_append,List.length_cons,List.length_nil,Nat.zero_add])
                       all_goals (refine zj [] ?_ ?_ <;> (simp only [go_sem,ibF,ibR,upd,vI,cond_true,cond_false,if_true,Bool.false_eq_true,if_false,h6,hbk,f8,f13,f14,f15,g5,hj1,ha1,ha2,Nat.sub_zero,List.append_assoc,List.cons_append,List.nil_append,bedR]))
                     · skip
                       have h5 : b 5 = true:=hde 5 (by decide +kernel)
                       have h7 : b 7 = true:=hde 7 (by decide +kernel)
                       have h0 : b 0 = true:=hdn 5 0 (by decide +kernel) (by decide +kernel) h5
                       have h4 : b 4 = true:=hdn 5 4 (by decide +kernel) (by decide +kernel) h5
                       have h6 : b 6 = true:=hdn 7 6 (by decide +kernel) (by decide +kernel) h7
                       have h2 : b 2 = true:=hdn 4 2 (by decide +kernel) (by decide +kernel) h4
                       have h3 : b 3 = true:=hdn 4 3 (by decide +kernel) (by decide +kernel) h4
                       have h1 : b 1 = true:=hdn 2 1 (by decide +kernel) (by decide +kernel) h2
                       have f13 : b 13 = false:=dI hdn 13 8 (by decide +kernel) (by decide +kernel) hbk
                       have f14 : b 14 = false:=dI hdn 14 8 (by decide +kernel) (by decide +kernel) hbk
                       have f15 : b 15 = false:=dI hdn 15 8 (by decide +kernel) (by decide +kernel) hbk
                       (simp only [go_sem,ibF,ibR,upd,vI,cond_true,cond_false,if_true,Bool.false_eq_true,if_false,h0,h1,h2,h3,h4,h5,h6,h7,hbk,f13,f14,f15,hmin,Nat.sub_zero,hj1,bedR,List.length_map,List.length_take,List.length_drop,List.length_append,List.length_cons,List.length_nil,Nat.zero_add])
                       all_goals refine ⟨by omega,?_⟩
                       all_goals (refine zj [] ?_ ?_ <;> (simp only [go_sem,ibF,ibR,upd,vI,cond_true,cond_false,if_true,Bool.false_eq_true,if_false,h0,h1,h2,h3,h4,h5,h6,h7,hbk,f13,f14,f15,hj1,ha1,ha2,Nat.sub_zero,List.append_assoc,List.cons_append,List.nil_append,bedR]))
                     · skip
                       have f10 : b 10 = false:=dI hdn 10 9 (by decide +kernel) (by decide +kernel) hbk
                       have f14 : b 14 = false:=dI hdn 14 9 (by decide +kernel) (by decide +kernel) hbk
                       have f15 : b 15 = false:=dI hdn 15 9 (by decide +kernel) (by decide +kernel) hbk
                       have f12 : b 12 = false:=dI hdn 12 10 (by decide +kernel) (by decide +kernel) f10
                       have f13 : b 13 = false:=dI hdn 13 12 (by decide +kernel) (by decide +kernel) f12
                       cases g5 : b 5 <;> cases g8 : b 8
                       all_goals (simp only [go_sem,ibF,ibR,upd,vI,cond_true,cond_false,if_true,Bool.false_eq_true,if_false,hbk,f10,f12,f13,f14,f15,g5,g8,hmin,Nat.sub_zero,hj1,bedR,List.length_map,List.length_take,List.length_drop,List.length_append,List.length_cons,List.length_nil,Nat.zero_add])
                       all_goals (refine zj [] ?_ ?_ <;> (simp only [go_sem,ibF,ibR,upd,vI,cond_true,cond_false,if_true,Bool.false_eq_true,if_false,hbk,f10,f12,f13,f14,f15,g5,g8,hj1,ha1,ha2,Nat.sub_zero,List.append_assoc,List.cons_append,List.nil_append,bedR]))
                     · skip
                       have h9 : b 9 = true:=hde 9 (by decide +kernel)
                       have f12 : b 12 = false:=dI hdn 12 10 (by decide +kernel) (by decide +kernel) hbk
                       have f14 : b 14 = false:=dI hdn 14 10 (by decide +kernel) (by decide +kernel) hbk
                       have f15 : b 15 = false:=dI hdn 15 10 (by decide +kernel) (by decide +kernel) hbk
                       have f13 : b 13 = false:=dI hdn 13 12 (by decide +kernel) (by decide +kernel) f12
                       cases g5 : b 5 <;> cases g8 : b 8
                       all_goals (simp only [go_sem,ibF,ibR,upd,vI,cond_true,cond_false,if_true,Bool.false_eq_true,if_false,h9,hbk,f12,f13,f14,f15,g5,g8,hmin,Nat.sub_zero,hj1,bedR,List.length_map,List.length_take,List.length_drop,List.length_append,List.length_cons,List.length_nil,Nat.zero_add])
                       all_goals (refine zj [] ?_ ?_ <;> (simp only [go_sem,ibF,ibR,upd,vI,cond_true,cond_false,if_true,Bool.false_eq_true,if_false,h9,hbk,f12,f13,f14,f15,g5,g8,hj1,ha1,ha2,Nat.sub_zero,List.append_assoc,List.cons_append,List.nil_append,bedR]))
                     · skip
                       have f12 : b 12 = false:=dI hdn 12 11 (by decide +kernel) (by decide +kernel) hbk
                       have f14 : b 14 = false:=dI hdn 14 11 (by decide +kernel) (by decide +kernel) hbk
                       have f15 : b 15 = false:=dI hdn 15 11 (by decide +kernel) (by decide +kernel) hbk
                       have f13 : b 13 = false:=dI hdn 13 12 (by decide +kernel) (by decide +kernel) f12
                       cases g5 : b 5 <;> cases g8 : b 8
                       all_goals (simp only [go_sem,ibF,ibR,upd,vI,cond_true,cond_false,if_true,Bool.false_eq_true,if_false,hbk,f12,f13,f14,f15,g5,g8,hmin,Nat.sub_zero,hj1,bedR,List.length_map,List.length_take,List.length_drop,List.length_append,List.length_cons,List.length_nil,Nat.zero_add])
                       all_goals (refine zj [] ?_ ?_ <;> (simp only [go_sem,ibF,ibR,upd,vI,cond_true,cond_false,if_true,Bool.false_eq_true,if_false,hbk,f12,f13,f14,f15,g5,g8,hj1,ha1,ha2,Nat.sub_zero,List.append_assoc,List.cons_append,List.nil_append,bedR]))
                     · skip
                       have h10 : b 10 = true:=hde 10 (by decide +kernel)
                       have h11 : b 11 = true:=hde 11 (by decide +kernel)
                       have h9 : b 9 = true:=hdn 10 9 (by decide +kernel) (by decide +kernel) h10
                       have f13 : b 13 = false:=dI hdn 13 12 (by decide +kernel) (by decide +kernel) hbk
                       have f14 : b 14 = false:=dI hdn 14 12 (by decide +kernel) (by decide +kernel) hbk
                       have f15 : b 15 = false:=dI hdn 15 12 (by decide +kernel) (by decide +kernel) hbk
                       cases g5 : b 5 <;> cases g8 : b 8
                       all_goals (simp only [go_sem,ibF,ibR,upd,vI,cond_true,cond_false,if_true,Bool.false_eq_true,if_false,h9,h10,h11,hbk,f13,f14,f15,g5,g8,hmin,Nat.sub_zero,hj1,bedR,List.length_map,List.length_take,List.length_drop,List.length_append,List.length_cons,List.length_nil,Nat.zero_add])
                       all_goals refine ⟨by omega,?_⟩
                       all_goals (refine zj [] ?_ ?_ <;> (simp only [go_sem,ibF,ibR,upd,vI,cond_true,cond_false,if_true,Bool.false_eq_true,if_false,h9,h10,h11,hbk,f13,f14,f15,g5,g8,hj1,ha1,ha2,Nat.sub_zero,List.append_assoc,List.cons_append,List.nil_append,bedR]))
                     · skip
                       have h8 : b 8 = true:=hde 8 (by decide +kernel)
                       have h12 : b 12 = true:=hde 12 (by decide +kernel)
                       have h5 : b 5 = true:=hdn 8 5 (by decide +kernel) (by decide +kernel) h8
                       have h7 : b 7 = true:=hdn 8 7 (by decide +kernel) (by decide +kernel) h8
                       have h10 : b 10 = true:=hdn 12 10 (by decide +kernel) (by decide +kernel) h12
                       have h11 : b 11 = true:=hdn 12 11 (by decide +kernel) (by decide +kernel) h12
                       have h0 : b 0 = true:=hdn 5 0 (by decide +kernel) (by decide +kernel) h5
                       have h4 : b 4 = true:=hdn 5 4 (by decide +kernel) (by decide +kernel) h5
                       have h6 : b 6 = true:=hdn 7 6 (by decide +kernel) (by decide +kernel) h7
                       have h9 : b 9 = true:=hdn 10 9 (by decide +kernel) (by decide +kernel) h10
                       have h2 : b 2 = true:=hdn 4 2 (by decide +kernel) (by decide +kernel) h4
                       have h3 : b 3 = true:=hdn 4 3 (by decide +kernel) (by decide +kernel) h4
                       have h1 : b 1 = true:=hdn 2 1 (by decide +kernel) (by decide +kernel) h2
                       have f14 : b 14 = false:=dI hdn 14 13 (by decide +kernel) (by decide +kernel) hbk
                       have f15 : b 15 = false:=dI hdn 15 13 (by decide +kernel) (by decide +kernel) hbk
                       (simp only [go_sem,ibF,ibR,upd,vI,cond_true,cond_false,if_true,Bool.false_eq_true,if_false,h0,h1,h2,h3,h4,h5,h6,h7,h8,h9,h10,h11,h12,hbk,f14,f15,hmin,Nat.sub_zero,hj1,bedR,List.length_map,List.length_take,List.length_drop,List.length_append,List.length_cons,List.length_nil,Nat.zero_add])
                       all_goals refine ⟨by omega,?_⟩
                       all_goals (refine zj [] ?_ ?_ <;> (simp only [go_sem,ibF,ibR,upd,vI,cond_true,cond_false,if_true,Bool.false_eq_true,if_false,h0,h1,h2,h3,h4,h5,h6,h7,h8,h9,h10,h11,h12,hbk,f14,f15,hj1,ha1,ha2,Nat.sub_zero,List.append_assoc,List.cons_append,List.nil_append,bedR]))
                     · skip
                       have h0 : b 0 = true:=hde 0 (by decide +kernel)
                       have h1 : b 1 = true:=hde 1 (by decide +kernel)
                       have h2 : b 2 = true:=hde 2 (by decide +kernel)
                       have h3 : b 3 = true:=hde 3 (by decide +kernel)
                       have h4 : b 4 = true:=hde 4 (by decide +kernel)
                       have h5 : b 5 = true:=hde 5 (by decide +kernel)
                       have h6 : b 6 = true:=hde 6 (by decide +kernel)
                       have h7 : b 7 = true:=hde 7 (by decide +kernel)
                       have h8 : b 8 = true:=hde 8 (by decide +kernel)
                       have h9 : b 9 = true:=hde 9 (by decide +kernel)
                       have h10 : b 10 = true:=hde 10 (by decide +kernel)
                       have h11 : b 11 = true:=hde 11 (by decide +kernel)
                       have h12 : b 12 = true:=hde 12 (by decide +kernel)
                       have h13 : b 13 = true:=hde 13 (by decide +kernel)
                       have f15 : b 15 = false:=dI hdn 15 14 (by decide +kernel) (by decide +kernel) hbk
                       (simp only [go_sem,ibF,ibR,upd,vI,cond_true,cond_false,if_true,Bool.false_eq_true,if_false,h0,h1,h2,h3,h4,h5,h6,h7,h8,h9,h10,h11,h12,h13,hbk,f15,hmin,Nat.sub_zero,hj1,bedR,List.length_map,List.length_take,List.length_drop,List.length_append,List.length_cons,List.length_nil,Nat.zero_add])
                       all_goals (refine zj [] ?_ ?_ <;> (simp only [go_sem,ibF,ibR,upd,vI,cond_true,cond_false,if_true,Bool.false_eq_true,if_false,h0,h1,h2,h3,h4,h5,h6,h7,h8,h9,h10,h11,h12,h13,hbk,f15,hj1,ha1,ha2,Nat.sub_zero,List.append_assoc,List.cons_append,List.nil_append,bedR]))
                     · skip
                       have h0 : b 0 = true:=hde 0 (by decide +kernel)
                       have h1 : b 1 = true:=hde 1 (by decide +kernel)
                       have h2 : b 2 = true:=hde 2 (by decide +kernel)
                       have h3 : b 3 = true:=hde 3 (by decide +kernel)
                       have h4 : b 4 = true:=hde 4 (by decide +kernel)
                       have h5 : b 5 = true:=hde 5 (by decide +kernel)
                       have h6 : b 6 = true:=hde 6 (by decide +kernel)
                       have h7 : b 7 = true:=hde 7 (by decide +kernel)
                       have h8 : b 8 = true:=hde 8 (by decide +kernel)
                       have h9 : b 9 = true:=hde 9 (by decide +kernel)
                       have h10 : b 10 = true:=hde 10 (by decide +kernel)
                       have h11 : b 11 = true:=hde 11 (by decide +kernel)
                       have h12 : b 12 = true:=hde 12 (by decide +kernel)
                       have h13 : b 13 = true:=hde 13 (by decide +kernel)
                       have h14 : b 14 = true:=hde 14 (by decide +kernel)
                       (simp only [go_sem,ibF,ibR,upd,vI,cond_true,cond_false,if_true,Bool.false_eq_true,if_false,h0,h1,h2,h3,h4,h5,h6,h7,h8,h9,h10,h11,h12,h13,h14,hbk,hmin,Nat.sub_zero,hj1,bedR,List.length_map,List.length_take,List.length_drop,List.length_append,List.length_cons,List.length_nil,Nat.zero_add])
                       all_goals (refine zj [] ?_ ?_ <;> (simp only [go_sem,ibF,ibR,upd,vI,cond_true,cond_false,if_true,Bool.false_eq_true,if_false,h0,h1,h2,h3,h4,h5,h6,h7,h8,h9,h10,h11,h12,h13,h14,hbk,hj1,ha1,ha2,Nat.sub_zero,List.append_assoc,List.cons_append,List.nil_append,bedR]))
                   · intro b vs hb
                     have fb : ∀ j v,vI b j v = v:=fun j v=>by rw [vI,if_pos (hb j)]
                     have hk1 : IntKind.i64.wrap ((k : Int) + 1) = ((k + 1 : Nat) : Int):=by rw [zI] <;> omega
                     have hlen : (l.take j ++ c :: l.drop j).length = l.length + 1:=by simp; omega
                     rw [hcd,← hjN] at hnx2
                     simp only [go_sem,ibF,ibR,fb,hb 15,cond_true]
                     refine zw (zk [1,2,3,4,5,6,7]) ?_
                     simp only [go_sem]
                     repeat refine zq ?_
                     refine zb (by kernel_rfl) fun K hK=>?_
                     simp only [go_sem,hk1]
                     (try simp (disch:=omega) only [zI])
                     repeat first | intro _ | refine ⟨by omega,?_⟩ | refine ⟨⟨by omega,by omega⟩,?_⟩
                     refine hK _ ?_
                     clear hK K
                     try simp only [go_sem]
                     refine ⟨hkN,zj [] ?_ ?_⟩
                     · try simp only [go_sem]
                       simp [hnx2]
                     · try simp only [go_sem]
                       simp [hnx2,hmin]
                       omega
           · have hkN' : k = N:=by
              have : ¬ k < N:=by simpa using hc
              omega
             have hB : (stB (4 + m.den) e k).1 = bedsM m i ∧ (stB (4 + m.den) e k).1.length ≤ 4:=by
              by_cases hiL : i < m.aims.length
              · obtain ⟨he1,he2,he3⟩:=heL hiL
                rw [if_pos hiL] at hN
                have hst:=(stB_ok (den:=4 + m.den) (by omega) he3 k).2
                refine ⟨?_,by omega⟩
                rw [hkN',hN]
                simp only [bedsM,if_pos hiL,hee]
              · rw [if_neg hiL] at hN
                rw [hkN',hN]
                simp [bedsM,if_neg hiL,stB]
             generalize (stB (4 + m.den) e k).2 = left
             generalize (stB (4 + m.den) e k).1 = bs at hB ⊢
             obtain ⟨hB,hB4⟩:=hB
             have hfin : aimM m i = ⟨201,finB (4 + m.den) bs⟩:=by rw [hB]; rfl
             have hsucc:=aimsN_succ m i
             have hi1 : IntKind.i64.wrap ((i : Int) + 1) = ((i + 1 : Nat) : Int):=by rw [zI] <;> omega
             have hml : i < 3:=by omega
             have hal : (aimsN m i).length = i:=by simp [aimsN]
             refine zf ?_
             simp only [go_sem]
             repeat refine zq ?_
             refine zb (by kernel_rfl) fun K hK=>?_
             simp only [go_sem]
             (try simp (disch:=omega) only [zI])
             repeat first | intro _ | refine ⟨by omega,?_⟩ | refine ⟨⟨by omega,by omega⟩,?_⟩
             refine hK _ ?_
             clear hK K
             refine zw (zk [1,2,3,4,5,141]) ?_
             simp only [go_sem]
             cases bs with
             | nil =>
               repeat refine zq ?_
               refine zc rfl (fun hc=>?_) (fun hc=>?_) <;> (try simp only [go_sem] at hc)
               repeat refine zq ?_
               refine awp_long ?_
               refine sops_take 1 (by kernel_rfl) fun K hK=>?_
               simp only [go_sem,List.take_succ_cons,List.take_zero,List.drop_succ_cons,List.drop_zero,List.append_eq,List.cons_append,List.nil_append]
               (try simp (disch:=omega) only [zI])
               repeat first | intro _ | refine ⟨by omega,?_⟩ | refine ⟨⟨by omega,by omega⟩,?_⟩
               refine hK _ rfl ?_
               clear hK K
               refine sops_litB (by simp [go_sem]) ?_
               simp only [go_sem,sLitBox,lay,List.replicate_succ,List.replicate_zero,List.flatten_cons,List.flatten_nil,List.map_cons,List.map_nil,List.cons_append,List.nil_append]
               repeat first | refine ⟨by omega,?_⟩ | refine ⟨⟨by omega,by omega⟩,?_⟩
               refine sops_end (by kernel_rfl) fun K hK=>?_
               simp only [go_sem,List.drop_succ_cons,List.drop_zero,List.append_eq,List.cons_append,List.nil_append]
               (try simp (disch:=omega) only [zI])
               repeat first | intro _ | refine ⟨by omega,?_⟩ | refine ⟨⟨by omega,by omega⟩,?_⟩
               refine hK _ ?_
               clear hK K
               refine zw (sub_arr 143 [[i64 201,i64 0,i64 0]] rfl (by rfl) (by simp) (by omega)) ?_
               refine zw (zk [1,2,3,4,5]) ?_
               simp only [go_sem]
               repeat refine zq ?_
               refine zb (by kernel_rfl) fun K hK=>?_
               simp only [go_sem]
               (try simp (disch:=omega) only [zI])
               repeat first | intro _ | refine ⟨by omega,?_⟩ | refine ⟨⟨by omega,by omega⟩,?_⟩
               refine hK _ ?_
               clear hK K
               refine zw (zk [1,2,3,4,5]) ?_
               simp only [go_sem]
               refine zw (sub_frzB 5 1 143 (by omega) (by omega) rfl rfl rfl (by simp)) ?_
               try simp only [go_sem]
               repeat refine zq ?_
               refine zb (by kernel_rfl) fun K hK=>?_
               simp only [go_sem,hal,List.length_map]
               (try simp (disch:=omega) only [zI])
               repeat first | intro _ | refine ⟨by omega,?_⟩ | refine ⟨⟨by omega,by omega⟩,?_⟩
               refine hK _ ?_
               clear hK K
               refine zw (zk [1,2,3,4]) ?_
               simp only [go_sem]
               repeat refine zq ?_
               refine zb (by kernel_rfl) fun K hK=>?_
               simp only [go_sem,hi1]
               (try simp (disch:=omega) only [zI])
               repeat first | intro _ | refine ⟨by omega,?_⟩ | refine ⟨⟨by omega,by omega⟩,?_⟩
               refine hK _ ?_
               clear hK K
               try simp only [go_sem]
               refine ⟨i + 1,by omega,by omega,zj [5,128] ?_ ?_⟩
               · try simp only [go_sem]
               · rw [hsucc,hfin]
                 try simp only [go_sem]
                 simp [aimR,bedR,finB]
             | cons c rest =>
               repeat refine zq ?_
               refine zc rfl (fun hc=>?_) (fun hc=>?_) <;> (try simp only [go_sem] at hc)
               · exfalso
                 omega
               refine zx ?_
               try simp only [go_sem]
               repeat refine zq ?_
               refine zb (by kernel_rfl) fun K hK=>?_
               simp only [go_sem,bedR]
               (try simp (disch:=omega) only [zI])
               repeat first | intro _ | refine ⟨by omega,?_⟩ | refine ⟨⟨by omega,by omega⟩,?_⟩
               refine hK _ ?_
               clear hK K
               refine zw (zk [1,2,3,4,5]) ?_
               simp only [go_sem]
               refine zw (sub_frzB 5 1 128 (by omega) (by omega) rfl rfl rfl (by simp)) ?_
               try simp only [go_sem]
               repeat refine zq ?_
               refine zb (by kernel_rfl) fun K hK=>?_
               simp only [go_sem,hal,List.length_map]
               (try simp (disch:=omega) only [zI])
               repeat first | intro _ | refine ⟨by omega,?_⟩ | refine ⟨⟨by omega,by omega⟩,?_⟩
               refine hK _ ?_
               clear hK K
               refine zw (zk [1,2,3,4]) ?_
               simp only [go_sem]
               repeat refine zq ?_
               refine zb (by kernel_rfl) fun K hK=>?_
               simp only [go_sem,hi1]
               (try simp (disch:=omega) only [zI])
               repeat first | intro _ | refine ⟨by omega,?_⟩ | refine ⟨⟨by omega,by omega⟩,?_⟩
               refine hK _ ?_
               clear hK K
               try simp only [go_sem]
               refine ⟨i + 1,by omega,by omega,zj [5,128] ?_ ?_⟩
               · try simp only [go_sem]
               · rw [hsucc,hfin]
                 try simp only [go_sem]
                 simp [aimR,bedR,finB]
     · have : i = aimN m:=by
        have : ¬ i < aimN m:=by simpa using hc
        omega
       subst this
       have hal : (aimsN m (aimN m)).length = aimN m:=by simp [aimsN]
       refine zw (sub_frzB 3 1 158 (by omega) (by omega) rfl rfl rfl (by simp [aimsN])) ?_
       refine zf ?_
       simp only [go_sem]
       try simp only [go_sem]
       refine zw (sub_ownB 3 4 196 52 2 (by omega) (by omega) rfl rfl) ?_
       repeat refine zq ?_
       refine zb (by kernel_rfl) fun K hK=>?_
       simp only [go_sem]
       (try simp (disch:=omega) only [zI])
       repeat first | intro _ | refine ⟨by omega,?_⟩ | refine ⟨⟨by omega,by omega⟩,?_⟩
       refine hK _ ?_
       clear hK K
       refine zw (zk [1,2,3,14]) ?_
       simp only [go_sem]
       repeat refine zq ?_
       refine zd ?_
       have hE1 : ∀ e ∈ m.ends,0 ≤ e.1 * 15 ∧ e.1 * 15 ≤ 1000000:=fun e he=>by
        have:=(hw.ends e he).1
        omega
       refine awp_uptoV (n:=205) (min 3 m.ends.length) (fun k vs=>[(1,.r (.rp (mtC m))),(2,.pt 2 (vs 2) 0),(3,.pt 3 (vs 3) 0),(14,.r (i64 (k : Int)))])
        (fun k vs=>[(2,.box [.r (i64 0),.r .ns,.r (i64 0),.r (i64 0),.r .ns]),(3,.box [.r (i64 (4 + m.den)),.r (aimsR (ruM m).aims),.r (i64 (2 + m.start % 7)),.r (i64 (m.out % 3)),.os 196 (vs 196) 2 0 k]),(196,.arr 52 2 (((m.ends.take k).map endM).map spanR))]) (fun _=>True) 0 (zj [] ?_ ?_) (Nat.zero_le _) trivial ?_
       · try simp only [go_sem]
       · try simp only [go_sem]
         rw [show List.take (aimN m) (List.map aimR (aimsN m (aimN m))) = List.map aimR (ruM m).aims from List.take_of_length_le (by simp [aimsN])]
       · intro k vs hk _
         repeat refine zq ?_
         refine awp_joinV (n:=205) (fun (_ : Unit) vs=>[(1,.r (.rp (mtC m))),(2,.pt 2 (vs 2) 0),(3,.pt 3 (vs 3) 0),(14,.r (i64 (k : Int))),(169,.r (.bo (decide (k < min 3 m.ends.length))))])
          (fun _ vs=>[(2,.box [.r (i64 0),.r .ns,.r (i64 0),.r (i64 0),.r .ns]),(3,.box [.r (i64 (4 + m.den)),.r (aimsR (ruM m).aims),.r (i64 (2 + m.start % 7)),.r (i64 (m.out % 3)),.os 196 (vs 196) 2 0 k]),(196,.arr 52 2 (((m.ends.take k).map endM).map spanR))]) (fun _=>True) (fun _ h=>h) ?_ ?_
         · repeat refine zq ?_
           refine zb (by kernel_rfl) fun K hK=>?_
           simp only [go_sem]
           (try simp (disch:=omega) only [zI])
           repeat' first | intro _ | refine And.intro ?_ ?_
           all_goals first | omega | skip
           all_goals (refine hK _ ?_; clear hK K)
           all_goals (try simp only [go_sem])
           all_goals (refine ⟨(),zj [] ?_ ?_⟩ <;> try simp only [go_sem])
           all_goals (rw [Bool.eq_iff_iff]; simp; omega)
         · intro _ vs _
           repeat refine zq ?_
           refine zc rfl (fun hc=>?_) (fun hc=>?_) <;> (try simp only [go_sem] at hc)
           · have hkl : k < min 3 m.ends.length:=by simpa using hc
             obtain ⟨e,he⟩:=opt_of_lt (show k < m.ends.length by omega)
             obtain ⟨⟨a0,a1⟩,b0,b1⟩:=hw.ends e (mem_of_opt he)
             have hel : (m.ends.take k).length = k:=by simp; omega
             have ht : m.ends.take (k + 1) = m.ends.take k ++ [e]:=by rw [List.take_add_one,he]; rfl
             have v1 : IntKind.i64.wrap e.1 = e.1:=by rw [zI] <;> omega
             have v2 : IntKind.i64.wrap e.2 = e.2:=by rw [zI] <;> omega
             have hk1 : IntKind.i64.wrap ((k : Int) + 1) = ((k + 1 : Nat) : Int):=by rw [zI] <;> omega
             refine zx ?_
             try simp only [go_sem]
             repeat refine zq ?_
             refine zd ?_
             repeat refine zq ?_
             refine zb (by kernel_rfl) fun K hK=>?_
             simp only [go_sem,he,v1]
             (try simp (disch:=omega) only [zI])
             repeat first | intro _ | refine ⟨by omega,?_⟩ | refine ⟨⟨by omega,by omega⟩,?_⟩
             refine hK _ ?_
             clear hK K
             refine zw (zk [1,2,3,14,15]) ?_
             simp only [go_sem]
             repeat refine zq ?_
             refine awp_dreg3 [(1,none),(3,some 3),(14,none),(15,none)] [3] follows (by decide +kernel) (by kernel_rfl) (by simp only [keysOk,List.mem_cons,List.not_mem_nil,forall_eq_or_imp,Oc.keyOf,go_sem]; simp) (by intro k hk; simp only [List.mem_cons,List.not_mem_nil,or_false] at hk; first | (subst hk; exact ⟨_,rfl⟩) | (rcases hk with rfl | rfl <;> exact ⟨_,rfl⟩) | (rcases hk with rfl | rfl | rfl <;> exact ⟨_,rfl⟩)) fun K hK=>?_
             simp only [go_sem,he,v2,List.length_map,hel]
             (try simp (disch:=omega) only [zI])
             repeat first | intro _ | refine ⟨by omega,?_⟩ | refine ⟨⟨by omega,by omega⟩,?_⟩
             refine hK _ ?_
             clear hK K
             refine zw (zk [1,2,3,14]) ?_
             simp only [go_sem]
             repeat refine zq ?_
             refine zb (by kernel_rfl) fun K hK=>?_
             simp only [go_sem,hk1]
             (try simp (disch:=omega) only [zI])
             repeat first | intro _ | refine ⟨by omega,?_⟩ | refine ⟨⟨by omega,by omega⟩,?_⟩
             refine hK _ ?_
             clear hK K
             try simp only [go_sem]
             refine ⟨hkl,zj [] ?_ ?_⟩
             · try simp only [go_sem]
             · try simp only [go_sem]
               simp [ht,endM,spanR]
           · have hkl : k = min 3 m.ends.length:=by
              have : ¬ k < min 3 m.ends.length:=by simpa using hc
              omega
             have hel : (m.ends.take k).length = k:=by simp; omega
             have htk : m.ends.take k = m.ends.take 3:=by
              rw [List.take_eq_take_iff]
              omega
             refine zf ?_
             simp only [go_sem]
             have hkm : min k m.ends.length = k:=by omega
             repeat refine zq ?_
             refine awp_dreg3 [(3,some 3)] [3] follows (by decide +kernel) (by kernel_rfl) (by simp only [keysOk,List.mem_cons,List.not_mem_nil,forall_eq_or_imp,Oc.keyOf,go_sem]; simp) (by intro k hk; simp only [List.mem_cons,List.not_mem_nil,or_false] at hk; first | (subst hk; exact ⟨_,rfl⟩) | (rcases hk with rfl | rfl <;> exact ⟨_,rfl⟩) | (rcases hk with rfl | rfl | rfl <;> exact ⟨_,rfl⟩)) fun K hK=>?_
             simp only [go_sem,List.length_map,hkm]
             (try simp (disch:=omega) only [zI])
             refine zh (hone) rfl (by simp only [go_sem,i64,ints,List.length_map,hkm]) (by simp only [go_sem,i64,ints,List.length_map,hkm]) (by first | exact .inl rfl | exact .inr rfl) ?_
             (try simp only [go_sem,List.length_map,hkm])
             (try simp (disch:=omega) only [zI])
             repeat first | intro _ | refine ⟨by omega,?_⟩ | refine ⟨⟨by omega,by omega⟩,?_⟩
             refine hK _ ?_
             clear hK K
             refine zw (zk [2,3]) ?_
             simp only [go_sem]
             have hen : (m.ends.take k).map endM ++ [(1000000,1000000)] = (ruM m).ends:=by rw [htk]; rfl
             have hel2 : (ruM m).ends.length = k + 1:=by rw [← hen]; simp [hkm]
             repeat refine zq ?_
             refine zb (by kernel_rfl) fun K hK=>?_
             simp only [go_sem]
             (try simp (disch:=omega) only [zI])
             repeat first | intro _ | refine ⟨by omega,?_⟩ | refine ⟨⟨by omega,by omega⟩,?_⟩
             refine hK _ ?_
             clear hK K
             refine zw (zk [2]) ?_
             simp only [go_sem]
             refine awp_fitV (F:=fun vs=>[(2,.pt 2 (vs 2) 0)]) (R:=fun vs=>[(2,.box [.r (i64 (ruM m).d),.r (aimsR (ruM m).aims),.r (i64 (ruM m).start),.r (i64 (ruM m).out),.os 196 (vs 196) 2 0 (ruM m).ends.length]),(196,.arr 52 2 ((ruM m).ends.map spanR))]) (zj [3] ?_ ?_) hQ
             · try simp only [go_sem]
             · try simp only [go_sem]
               rw [hel2,← hen,List.map_append]
               rfl
theorem mrules_ok (m : Mt) (hw : WfM m) : ACalls Try.prog 32 [.ag (mtC m)] (ruV (ruM m)):=by
 obtain ⟨c,hc,hwalk⟩:=mrules_walk m hw
 refine acalls_st (rs:=[ruV (ruM m)]) [.cell 2 28] Try.func32 hc (by kernel_rfl) Try.ntmps32 rfl (by simp) rfl fun C vs=>hwalk C vs _ fun vs=>?_
 refine zw (sub_frzB 2 4 196 (by omega) (by omega) rfl rfl rfl (by simp)) ?_
 try simp only [go_sem]
 refine ze ?_
 simp only [go_sem]
end Go.Proofs.Ytlbfkhikmigpbaa

namespace Go.Proofs.Ytlbfkhikmigpbaa
open Go Go.Oc
set_option linter.unusedSimpArgs false
set_option linter.unusedVariables false
set_option maxRecDepth 8000
theorem seqOk_of : ∀ {l : List Bd} {p : Option Int},l.Pairwise (fun a b=>a.b < b.b) → (∀ c ∈ l,c.b = 0 ∨ bedOk c.b = true) → (∀ q,p = some q → ∀ c ∈ l,q < c.b) → seqOk p l = true
 | [],_,_,_,_=>by simp [seqOk]
 | c :: l, p, hp, hb, hq => by
   obtain ⟨h1,h2⟩:=List.pairwise_cons.1 hp
   have ih:=seqOk_of (p:=some c.b) h2 (fun x hx=>hb x (by simp [hx])) fun q e x hx=>by injection e with e; subst e; exact h1 x hx
   have hc:=hb c (by simp)
   unfold seqOk
   rw [ih,Bool.and_true,Bool.and_eq_true]
   refine ⟨by simpa using hc,?_⟩
   cases p with
   | none=>rfl
   | some q=>simpa using hq q rfl c (by simp)
theorem bedsM_ok (m : Mt) (hw : WfM m) (i : Nat) : BedsI (4 + m.den) ((bedsM m i),4 + m.den - loS (bedsM m i)) ∧ (bedsM m i).length ≤ 4:=by
 obtain ⟨d0,d1⟩:=hw.den
 unfold bedsM
 split
 · rename_i h
   obtain ⟨e,he⟩:=opt_of_lt h
   have e2 : m.aims.getD i [] = e:=by simp [List.getD,he]
   rw [e2]
   obtain ⟨h1,h2⟩:=stB_ok (den:=4 + m.den) (by omega) (hw.aims e (mem_of_opt he)).2 4
   have hs:=h1.sum
   have h0:=h1.left0
   exact ⟨⟨h1.up,h1.ok,by simp only; omega,by simp only; omega⟩,h2⟩
 · exact ⟨⟨by simp,by simp,by simp [loS],by simp only [loS,List.map_nil,List.sum_nil]; omega⟩,by simp⟩
theorem aimM_ok (m : Mt) (hw : WfM m) (i : Nat) : aimOk (4 + m.den) (aimM m i) = true ∧ WfA (aimM m i) ∧ (aimM m i).beds.length ≤ 4:=by
 obtain ⟨d0,d1⟩:=hw.den
 obtain ⟨h,h4⟩:=bedsM_ok m hw i
 unfold aimM
 generalize bedsM m i = l at *
 have key : ∀ k : List Bd,k ≠ [] → k.length ≤ 4 → k.Pairwise (fun a b=>a.b < b.b) → (∀ c ∈ k,(c.b = 0 ∨ bedOk c.b = true) ∧ 0 ≤ c.lo ∧ c.lo ≤ c.hi ∧ c.hi ≤ 4 + m.den) → loS k ≤ 4 + m.den → 4 + m.den ≤ hiS k →
  aimOk (4 + m.den) ⟨201,k⟩ = true ∧ WfA ⟨201,k⟩ ∧ k.length ≤ 4:=fun k hne hl hp hc hlo hhi=>by
  refine ⟨?_,⟨by unfold I64; simp only; omega,fun c hx=>?_⟩,hl⟩
  · have h1 : seqOk none k = true:=seqOk_of hp (fun c hx=>(hc c hx).1) fun q e=>by cases e
    have h2 : chOk (4 + m.den) k = true:=by
     simp only [chOk,List.all_eq_true,Bool.and_eq_true,decide_eq_true_eq]
     exact fun c hx=>⟨⟨(hc c hx).2.1,(hc c hx).2.2.1⟩,(hc c hx).2.2.2⟩
    simp only [aimOk,h1,h2,Bool.and_true,Bool.and_eq_true,decide_eq_true_eq]
    refine ⟨⟨⟨by decide,?_⟩,hlo⟩,hhi⟩
    cases k with
    | nil=>exact absurd rfl hne
    | cons c k=>rfl
  · obtain ⟨g1,g2,g3,g4⟩:=hc c hx
    have hb : 0 ≤ c.b ∧ c.b ≤ 499:=by
     rcases g1 with g | g
     · omega
     · exact bedOk_le g
    unfold I64
    omega
 cases l with
 | nil =>
   refine key [⟨201,0,4 + m.den⟩] (by simp) (by simp) (by simp) (fun c hc=>?_) (by simp [loS]; omega) (by simp [hiS])
   simp only [List.mem_singleton] at hc
   subst hc
   exact ⟨.inr (show bedOk 201 = true by decide),by simp only; omega,by simp only; omega,by simp only; omega⟩
 | cons c l =>
   have hs:=h.sum
   have hl0:=h.left0
   have hup:=List.pairwise_cons.1 h.up
   have hc:=h.ok c (by simp)
   simp only at hs hl0
   have hlo : loS ((⟨c.b,c.lo,4 + m.den⟩ : Bd) :: l) = loS (c :: l):=by simp [loS]
   have hhi : 4 + m.den ≤ hiS ((⟨c.b,c.lo,4 + m.den⟩ : Bd) :: l):=by
    have : ∀ k : List Bd,(∀ x ∈ k,0 ≤ x.hi) → 0 ≤ hiS k:=by
     intro k
     induction k with
     | nil=>intro _; simp [hiS]
     | cons x k ih=>intro hk; have h1:=hk x (by simp); have h2:=ih fun y hy=>hk y (by simp [hy]); simp only [hiS,List.map_cons,List.sum_cons] at h2 ⊢; omega
    have h3:=this l fun x hx=>by have:=(h.ok x (by simp [hx])).2; omega
    simp only [hiS,List.map_cons,List.sum_cons] at h3 ⊢
    omega
   refine key (⟨c.b,c.lo,4 + m.den⟩ :: l) (by simp) (by simpa using h4) (List.pairwise_cons.2 ⟨hup.1,hup.2⟩) (fun x hx=>?_) (by rw [hlo]; omega) hhi
   rcases List.mem_cons.1 hx with rfl | hx
   · exact ⟨hc.1,hc.2.1,by simp only; omega,by simp only; omega⟩
   · exact h.ok x (by simp [hx])
theorem ruM_wf (m : Mt) (hw : WfM m) : WfR (ruM m):=by
 obtain ⟨d0,d1⟩:=hw.den
 refine ⟨⟨by unfold I64; simp only [ruM]; omega,fun a ha=>?_⟩⟩
 obtain ⟨i,_,rfl⟩:=List.mem_map.1 (show a ∈ (List.range (aimN m)).map (aimM m) from ha)
 exact (aimM_ok m hw i).2.1
theorem ends_ok (m : Mt) (hw : WfM m) : ∀ x ∈ (ruM m).ends,endOk x = true:=fun x hx=>by
 rcases List.mem_append.1 (show x ∈ ((m.ends.take 3).map endM) ++ [(1000000,1000000)] from hx) with hx | hx
 · obtain ⟨e,he,rfl⟩:=List.mem_map.1 hx
   obtain ⟨⟨a0,a1⟩,b0,b1⟩:=hw.ends e (List.mem_of_mem_take he)
   simp only [endOk,endM,withinL,List.all_cons,List.all_nil,Bool.and_true,Bool.and_eq_true,decide_eq_true_eq]
   refine ⟨?_,⟨?_,?_⟩,?_,?_⟩
   · exact decide_eq_true (by omega)
   all_goals omega
 · simp only [List.mem_singleton] at hx
   subst hx
   decide
theorem ruM_ok (m : Mt) (hw : WfM m) : ruE (ruM m) = 0:=by
 obtain ⟨d0,d1⟩:=hw.den
 have hc : checkV (ruM m).d (ruM m).aims = 0:=by
  have hn : 1 ≤ aimN m ∧ aimN m ≤ 3:=by unfold aimN; omega
  have h1 : (decide (20 < (ruM m).aims.length) || (ruM m).aims.any fun a=>decide (10 < a.beds.length)) = false:=by
   simp only [ruM,List.length_map,List.length_range,Bool.or_eq_false_iff,decide_eq_false_iff_not,List.any_eq_false]
   refine ⟨by omega,fun a ha=>?_⟩
   obtain ⟨i,_,rfl⟩:=List.mem_map.1 ha
   have:=(aimM_ok m hw i).2.2
   simp; omega
  have h2 : ((ruM m).aims.isEmpty || !(decide (1 ≤ (ruM m).d) && decide ((ruM m).d ≤ 3000))) = false:=by
   have e1 : (ruM m).aims.isEmpty = false:=by
    cases h : (ruM m).aims with
    | nil=>have:=congrArg List.length h; simp [ruM] at this; omega
    | cons=>rfl
   have e2 : 1 ≤ (ruM m).d ∧ (ruM m).d ≤ 3000:=by simp only [ruM]; omega
   rw [e1]
   simp only [Bool.false_or,Bool.not_eq_false',Bool.and_eq_true,decide_eq_true_eq]
   exact e2
  have h3 : (ruM m).aims.all (aimOk (ruM m).d) = true:=List.all_eq_true.2 fun a ha=>by
   obtain ⟨i,_,rfl⟩:=List.mem_map.1 (show a ∈ (List.range (aimN m)).map (aimM m) from ha)
   exact (aimM_ok m hw i).1
  simp only [checkV,h1,h2,h3,Bool.false_eq_true,if_false,if_true]
 have he:=List.all_eq_true.2 (ends_ok m hw)
 have hl : lastE (ruM m) = 1000000:=by
  unfold lastE
  simp [ruM]
 have s : 2 ≤ (ruM m).start ∧ (ruM m).start ≤ 40:=by simp only [ruM]; omega
 have o : 0 ≤ (ruM m).out ∧ (ruM m).out ≤ 2:=by simp only [ruM]; omega
 have n : 1 ≤ (ruM m).ends.length ∧ (ruM m).ends.length ≤ 10:=by simp only [ruM,List.length_append,List.length_map,List.length_take,List.length_singleton]; omega
 simp [ruE,hc,he,hl,s,o,n]
end Go.Proofs.Ytlbfkhikmigpbaa

namespace Go.Proofs.Ytlbfkhikmigpbaa
open Go Go.Oc
set_option linter.unusedSimpArgs false
set_option linter.unusedVariables false
set_option maxRecDepth 8000
def cutR (r : Ru) : Ru:=⟨r.d,r.aims,min r.start 6,r.out,r.ends.drop (r.ends.length - 2)⟩
theorem cutR_ok {r : Ru} (h : ruE r = 0) : ruE (cutR r) = 0 ∧ (cutR r).start ≤ 6 ∧ (cutR r).ends.length ≤ 2:=by
 refine ⟨?_,by simp only [cutR]; omega,by simp only [cutR,List.length_drop]; omega⟩
 unfold ruE at h ⊢
 split at h
 · rename_i h1; exact absurd h h1
 · rename_i h1
   have h1' : ¬ checkV (cutR r).d (cutR r).aims ≠ 0:=h1
   rw [if_neg h1']
   split at h
   · rename_i h2
     simp only [Bool.and_eq_true,decide_eq_true_eq] at h2
     obtain ⟨⟨⟨⟨⟨⟨⟨a1,a2⟩,a3⟩,a4⟩,a5⟩,a6⟩,a7⟩,a8⟩:=h2
     refine if_pos ?_
     simp only [Bool.and_eq_true,decide_eq_true_eq,cutR,List.length_drop]
     refine ⟨⟨⟨⟨⟨⟨⟨decide_eq_true (by omega),decide_eq_true (by omega)⟩,decide_eq_true a3⟩,decide_eq_true a4⟩,by first | omega | exact decide_eq_true (by omega)⟩,by first | omega | exact decide_eq_true (by omega)⟩,?_⟩,decide_eq_true ?_⟩
     · rw [List.all_eq_true] at a7 ⊢
       exact fun x hx=>a7 x (List.mem_of_mem_drop hx)
     · unfold lastE at a8 ⊢
       simp only [List.length_drop,List.getD_eq_getElem?_getD,List.getElem?_drop] at a8 ⊢
       rw [show r.ends.length - 2 + (r.ends.length - (r.ends.length - 2) - 1) = r.ends.length - 1 by omega]
       exact a8
   · cases h
def xsT (r : Ru) (b : List Int) : List (List Int):=r.aims.map fun a=>truthL a.beds r.d b
def nT (b : List Int) (k : Nat) : Int:=if b.length = 0 then 0 else b.getD (k % b.length) 0
def endT (b : List Int) (k : Nat) (e : Int × Int) : Int:=e.1 + (e.2 - e.1) * nT b k / 255
def esT (r : Ru) (b : List Int) : List Int:=(List.range r.ends.length).map fun k=>endT b k (r.ends.getD k (0,0))
def couT (r : Ru) (b0 b1 b2 : List Int) (w : Bool) : Cu:=⟨r,xsT r b0,esT r b2,b1,w⟩
theorem nT_le {b : List Int} (hb : ∀ n ∈ b,0 ≤ n ∧ n ≤ 255) (k : Nat) : 0 ≤ nT b k ∧ nT b k ≤ 255:=by
 unfold nT
 split
 · omega
 · have hlt : k % b.length < b.length:=Nat.mod_lt _ (by omega)
   rw [List.getD_eq_getElem?_getD,List.getElem?_eq_getElem hlt]
   exact hb _ (List.getElem_mem _)
theorem couT_ok {r : Ru} (hw : WfR r) (hE : ruE r = 0) {b0 b1 b2 : List Int} (h0 : ∀ n ∈ b0,0 ≤ n ∧ n ≤ 255) (h1 : ∀ n ∈ b1,0 ≤ n ∧ n ≤ 255) (h2 : ∀ n ∈ b2,0 ≤ n ∧ n ≤ 255) (w : Bool) : CuW (couT r b0 b1 b2 w):=by
 obtain ⟨hG,e1,_,_⟩:=ruG_of hE
 have hH:=refH_of hE
 have ht : ∀ a,a < r.aims.length → ((couT r b0 b1 b2 w).xs.getD a []) = truthL (bedsC (couT r b0 b1 b2 w) a) r.d b0 ∧ TruthN r.d (bedsC (couT r b0 b1 b2 w) a) (fun i=>(truthL (bedsC (couT r b0 b1 b2 w) a) r.d b0).getD i 0) ∧ (truthL (bedsC (couT r b0 b1 b2 w) a) r.d b0).length = (bedsC (couT r b0 b1 b2 w) a).length:=fun a ha=>by
  obtain ⟨q1,q2⟩:=bedsC_mem (c:=couT r b0 b1 b2 w) ha
  obtain ⟨_,g2,g3⟩:=hG.aims.beds _ q2
  refine ⟨?_,truth_ok h0 g2 (fun c hc=>(g3 c hc).2.2.1) (hH.hi _ q2)⟩
  have q3 : r.aims[a]? = some ((couT r b0 b1 b2 w).r.aims.getD a ⟨0,[]⟩):=q1
  show (xsT r b0).getD a [] = _
  unfold xsT
  rw [List.getD_eq_getElem?_getD,List.getElem?_map,q3]
  rfl
 refine ⟨⟨hG,hH,fun a ha=>?_,fun k hk=>?_⟩,hw,hE,by simp [couT,xsT],fun a ha=>?_,by simp [couT,esT],h1⟩
 · obtain ⟨g1,g2,_⟩:=ht a ha
   rw [g1]; exact g2
 · have hk' : k < r.ends.length:=hk
   have e : (couT r b0 b1 b2 w).es.getD k 0 = endT b2 k (r.ends.getD k (0,0)):=by
    show (esT r b2).getD k 0 = _
    unfold esT
    rw [List.getD_eq_getElem?_getD,List.getElem?_map,List.getElem?_range hk']
    rfl
   have hm : r.ends.getD k (0,0) ∈ r.ends:=by
    rw [List.getD_eq_getElem?_getD,List.getElem?_eq_getElem hk']; exact List.getElem_mem _
   obtain ⟨g1,g2,g3⟩:=endOk_le (hG.ends _ hm)
   obtain ⟨n0,n1⟩:=nT_le h2 k
   rw [e]
   show (r.ends.getD k (0,0)).1 ≤ _ ∧ _ ≤ (r.ends.getD k (0,0)).2
   generalize r.ends.getD k (0,0) = x at *
   unfold endT
   have m0:=Int.mul_nonneg (show 0 ≤ x.2 - x.1 by omega) n0
   have m1:=Int.mul_le_mul_of_nonneg_left n1 (show 0 ≤ x.2 - x.1 by omega)
   omega
 · obtain ⟨g1,_,g3⟩:=ht a ha
   rw [g1]; exact g3
theorem couT_val {r : Ru} {b0 b1 b2 : List Int} {w : Bool} (h : CuW (couT r b0 b1 b2 w)) {s : Nat} (s0 : 2 ≤ s) (s1 : (s : Int) ≤ r.start) :
 MCalls Try.prog 34 (couL (couT r b0 b1 b2 w)) (couL (couT r b0 b1 b2 w)) [.pt 1000 0 0,.r (posN4 0 s s 3)] (.tu [.r (i64 (cvA (couT r b0 b1 b2 w) 0 s s 3).1),.r (i64 (cvA (couT r b0 b1 b2 w) 0 s s 3).2)]) ∧
 (cvA (couT r b0 b1 b2 w) 0 s s 3).1 ≤ ((tabF r true).getD 0 []).getD s 0 ∧ (w = true → ((tabF r false).getD 0 []).getD s 0 ≤ (cvA (couT r b0 b1 b2 w) 0 s s 3).2):=by
 have e1:=h.g.g.e1
 have hlow:=lowest_le r
 have hN : 0 + (r.ends.length - 1) + 1 = r.ends.length:=by
  have : 1 ≤ r.ends.length:=e1
  omega
 have hk0 : 0 < r.ends.length:=by omega
 have hc:=cval_ok h (r.ends.length - 1) 0 hN 2 s s ⟨hk0,by show lowestR r ≤ _; omega,s1,by show lowestR r ≤ _; omega,Nat.le_refl _,Nat.le_refl _,fun _=>rfl⟩
 have hv:=cvP_okC h.g (r.ends.length - 1) 0 hN s 3 s (by show lowestR r ≤ _; omega) s1 (by show lowestR r ≤ _; omega) s1
 have e : ∀ m,((tabF r m).getD 0 []).getD s 0 = valV r m (tabF r m) 0 s 3 s:=fun m=>by
  rw [tabF_val m hk0 s1,if_neg (by omega)]
 rw [e,e]
 exact ⟨hc,hv.1.2,hv.2.2.2⟩
end Go.Proofs.Ytlbfkhikmigpbaa

namespace Go.Proofs.Ytlbfkhikmigpbaa
open Go Go.Oc
set_option linter.unusedSimpArgs false
set_option linter.unusedVariables false
set_option maxRecDepth 8000
def setT (T : List (List Int)) (k p : Nat) (n : Int) : List (List Int):=T.set k ((T.getD k []).set p n)
theorem tabF_rowlen {r : Ru} (most : Bool) {k : Nat} (hk : k < r.ends.length) : ((tabF r most).getD k []).length = r.start.toNat + 1:=by rw [tabF_row most hk,rowV_len]
section
variable {r : Ru} {most : Bool} {k0 p : Nat} {n : Int}
end
end Go.Proofs.Ytlbfkhikmigpbaa

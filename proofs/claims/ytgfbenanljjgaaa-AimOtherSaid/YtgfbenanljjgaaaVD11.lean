/- For all rules and positions made of bytes, the given function AimOther returns true: the listed aim is among those that may be the best, none has a smaller worst mean, and no best mean is greater than the worst one. No conditions beyond those of the given statement. -/
import Derived.Test.YtgfbenanljjgaaaVD10
import Derived.Test.YtgfbenanljjgaaaVD5
import Derived.ChangeShapes
import Derived.WideShapes
import Derived.OpenShut
import Derived.ShutString
import Derived.ChangeOld
import Derived.Carry
import Derived.Below
import Derived.Test.YtgfbenanljjgaaaRows
import Derived.JoinedOf
namespace Go.Proofs.Ytgfbenanljjgaaa.Du.Th.Ai
open Go Go.Oc
set_option linter.unusedSimpArgs false
set_option linter.unusedVariables false
set_option maxRecDepth 8000
set_option maxHeartbeats 8000000
theorem law_other {x : Rx} (hx : WfRx x) {b0 b1 b2 : Int} (hb0 : 0 ≤ b0 ∧ b0 ≤ 255) (hb1 : 0 ≤ b1 ∧ b1 ≤ 255) (hb2 : 0 ≤ b2 ∧ b2 ≤ 255) : ACalls Try.prog 9 [.ag (rxC x),.ag [.it .u8 b0,.it .u8 b1,.it .u8 b2]] (.bo true):=by
 have hru:=rules_ok hx 3 (by omega)
 have hst : 2 ≤ (ruleX x 3).start ∧ (ruleX x 3).start ≤ 6:=by
  have:=hx.start
  simp only [ruleX]; omega
 obtain ⟨R,hR⟩ : ∃ R,R = ruleX x 3:=⟨_,rfl⟩
 have hck : checkR R = 0:=by rw [hR]; exact ruleX_check hx (by omega)
 have hwf : WfL R.d R.aims:=by rw [hR]; exact ruleX_wf hx
 have hle : R.aims.length ≤ 20 ∧ ∀ a ∈ R.aims,a.beds.length ≤ 5:=by
  rw [hR]
  refine ⟨?_,fun a ha=>(ruleX_aim hx ha).2⟩
  rw [ruleX_len]; unfold cntX; omega
 rw [← hR] at hru hst
 have hown:=own_ok R (by omega) (fun a ha=>by have:=hle.2 a ha; omega)
 have hkn:=known_ok
 have hlow:=lowest_ok R.out
 have hlg:=lowG_le R.out
 obtain ⟨m0,hm0⟩ : ∃ m0,m0 = b0.tmod (R.start - lowG R.out + 1):=⟨_,rfl⟩
 have hm0b : 0 ≤ m0 ∧ m0 ≤ R.start - lowG R.out:=by
  rw [hm0,Int.tmod_eq_emod_of_nonneg (by omega)]
  have:=Int.emod_nonneg b0 (show R.start - lowG R.out + 1 ≠ 0 by omega)
  have:=Int.emod_lt_of_pos b0 (show 0 < R.start - lowG R.out + 1 by omega)
  omega
 obtain ⟨m1,hm1⟩ : ∃ m1,m1 = b1.tmod (m0 + 1):=⟨_,rfl⟩
 have hm1b : 0 ≤ m1 ∧ m1 ≤ m0:=by
  rw [hm1,Int.tmod_eq_emod_of_nonneg (by omega)]
  have:=Int.emod_nonneg b1 (show m0 + 1 ≠ 0 by omega)
  have:=Int.emod_lt_of_pos b1 (show 0 < m0 + 1 by omega)
  omega
 obtain ⟨m2,hm2⟩ : ∃ m2,m2 = b2.tmod 3:=⟨_,rfl⟩
 have hm2b : 0 ≤ m2 ∧ m2 ≤ 2:=by
  rw [hm2,Int.tmod_eq_emod_of_nonneg (by omega)]
  omega
 have wb0 : IntKind.i64.wrap b0 = b0:=by rw [zI] <;> omega
 have wb1 : IntKind.i64.wrap b1 = b1:=by rw [zI] <;> omega
 have wb2 : IntKind.i64.wrap b2 = b2:=by rw [zI] <;> omega
 have ws0 : IntKind.i64.wrap (R.start - lowG R.out) = R.start - lowG R.out:=by rw [zI] <;> omega
 have ws1 : IntKind.i64.wrap (R.start - lowG R.out + 1) = R.start - lowG R.out + 1:=by rw [zI] <;> omega
 have nz0 : ((R.start - lowG R.out + 1) == 0) = false:=by simp; omega
 have nz1 : ((m0 + 1) == 0) = false:=by simp; omega
 obtain ⟨st,hste⟩ : ∃ st,st = lowG R.out + m0:=⟨_,rfl⟩
 have ws2 : IntKind.i64.wrap (lowG R.out + m0 - lowG R.out) = m0:=by rw [zI] <;> omega
 have ws3 : IntKind.i64.wrap (m0 + 1) = m0 + 1:=by rw [zI] <;> omega
 obtain ⟨p,hp⟩ : ∃ p : Ps,p = ⟨st,if m2 = 2 then st else lowG R.out + m1,1 + m2⟩:=⟨_,rfl⟩
 have hpo : posOk R p = true:=by
  rw [hp]
  simp only [posOk,decide_eq_true_eq]
  split <;> omega
 have hop : openR R p = 0:=by unfold openR; rw [if_pos hck,if_pos hpo]
 have hQ:=other_ok hop
 have haim:=aim_ok R p hwf
 have hcost:=costs_ok R p hwf
 have hmay:=may_ok R p hwf
 rw [if_pos hop,hop] at hcost hmay
 generalize costL R p = L at *
 generalize mayL R p = Y at *
 generalize aimQ R p = q at *
 obtain ⟨a,w,e⟩:=q
 simp only at hQ haim
 have hln:=hQ.len
 have hYn:=hQ.ne
 have hYl:=hQ.lenY
 refine acalls_st (rs:=[.bo true]) [.tmp 4] Try.func9 rfl (by kernel_rfl) Try.ntmps9 rfl (by simp) rfl fun C vs=>?_
 refine zq ?_
 refine zb fun K hK=>?_;simp only [go_sem];refine hK _ ?_;clear hK K;refine zw (sub_frzP 2 2 (rxC x) (by omega) rfl rfl) ?_;refine zw (sub_frzP 3 3 [.it .u8 b0,.it .u8 b1,.it .u8 b2] (by omega) rfl rfl) ?_;refine zw (zk [2,3]) ?_;simp only [go_sem]
 refine zq ?_
 refine zb fun K hK=>?_;simp only [go_sem]
 refine zh (hru) rfl (by simp only [go_sem,i64,ints]) (by simp only [go_sem,i64,ints]) (by first | exact .inl rfl | exact .inr rfl) ?_
 (try simp only [go_sem]);refine hK _ ?_;clear hK K;refine zw (sub_frzP 5 5 [i64 R.d,aimsR R.aims,i64 R.start,i64 R.out] (by omega) (by try simp only [go_sem]) (by try simp only [go_sem])) ?_;refine zw (zk [3,5]) ?_;simp only [go_sem]
 refine zq ?_
 refine zb fun K hK=>?_;simp only [go_sem]
 refine zh (hlow) rfl (by simp only [go_sem,i64,ints]) (by simp only [go_sem,i64,ints]) (by first | exact .inl rfl | exact .inr rfl) ?_
 (try simp only [go_sem]);refine hK _ ?_;clear hK K;refine zw (zk [3,5,6]) ?_;simp only [go_sem]
 refine zq ?_
 refine zg follows (by decide +kernel) (by kernel_rfl) fun K hK=>?_;simp only [go_sem,wb0,wb2,ws0,ws1,hm0.symm,hm2.symm,nz0];(try simp (disch:=omega) only [zI])
 intros
 refine ⟨by omega,?_⟩
 refine hK _ ?_;clear hK K;refine zw (zk [3,5,6,7]) ?_;simp only [go_sem]
 refine zq ?_
 refine zb fun K hK=>?_;simp only [go_sem,wb1,ws2,ws3,hm1.symm,nz1];(try simp (disch:=omega) only [zI])
 intros
 refine ⟨by omega,?_⟩
 refine hK _ ?_;clear hK K;refine zw (zk [5,7]) ?_;simp only [go_sem]
 repeat refine zq ?_
 refine zb fun K hK=>?_;simp only [go_sem];refine hK _ ?_;clear hK K;refine zw (zk [5,7,54]) ?_;simp only [go_sem]
 refine awp_join (n:=202) (fun (_ : Unit) vs=>[(5,.r (.rp [i64 R.d,aimsR R.aims,i64 R.start,i64 R.out])),(7,.pt 7 (vs 7) 0)]) (fun _=>[(7,.box [.r (i64 p.st),.r (i64 p.left),.r (i64 p.darts)])]) (fun _=>True) (fun _ h=>h) ?_ ?_
 · by_cases h2 : m2 = 2
   · have e3 : ((1 + m2) == 3) = true:=by simp [h2]
     rw [e3]
     rw [if_pos h2] at hp
     refine zc rfl (fun hc=>?_) (fun hc=>?_) <;> (try simp only [go_sem] at hc)
     refine zb fun K hK=>?_;simp only [go_sem];refine hK _ ?_;clear hK K;exact ⟨(),trivial,fit_of [] (by try simp only [go_sem]) (by try simp only [go_sem]; rw [hp,hste])⟩
   · have e3 : ((1 + m2) == 3) = false:=by simp; omega
     rw [e3]
     rw [if_neg h2] at hp
     refine zc rfl (fun hc=>?_) (fun hc=>?_) <;> (try simp only [go_sem] at hc)
     refine zx ?_
     try simp only [go_sem]
     exact ⟨(),fit_of [] (by try simp only [go_sem]) (by try simp only [go_sem]; rw [hp,hste])⟩
 intro _ vs _
 refine zw (sub_frzP 7 7 [i64 p.st,i64 p.left,i64 p.darts] (by omega) rfl rfl) ?_;refine zw (zk [5,7]) ?_;simp only [go_sem]
 refine zq ?_
 refine zg follows (by decide +kernel) (by kernel_rfl) fun K hK=>?_;simp only [go_sem]
 refine zh (hown) rfl (by simp only [go_sem,i64,ints]) (by simp only [go_sem,i64,ints]) (by first | exact .inl rfl | exact .inr rfl) ?_
 (try simp only [go_sem])
 refine zh (haim) rfl (by simp only [go_sem,i64,ints]) (by simp only [go_sem,i64,ints]) (by first | exact .inl rfl | exact .inr rfl) ?_
 (try simp only [go_sem]);refine hK _ ?_;clear hK K;refine zw (zk [5,7,8,9,10]) ?_;simp only [go_sem]
 refine zq ?_
 refine zg follows (by decide +kernel) (by kernel_rfl) fun K hK=>?_;simp only [go_sem]
 refine zh (hown) rfl (by simp only [go_sem,i64,ints]) (by simp only [go_sem,i64,ints]) (by first | exact .inl rfl | exact .inr rfl) ?_
 (try simp only [go_sem])
 refine zh (hcost) rfl (by simp only [go_sem,i64,ints]) (by simp only [go_sem,i64,ints]) (by first | exact .inl rfl | exact .inr rfl) ?_
 (try simp only [go_sem]);refine hK _ ?_;clear hK K;refine zw (zk [5,7,8,9,10,11,12]) ?_;simp only [go_sem]
 refine zq ?_
 refine zg follows (by decide +kernel) (by kernel_rfl) fun K hK=>?_;simp only [go_sem]
 refine zh (hown) rfl (by simp only [go_sem,i64,ints]) (by simp only [go_sem,i64,ints]) (by first | exact .inl rfl | exact .inr rfl) ?_
 (try simp only [go_sem])
 refine zh (hmay) rfl (by simp only [go_sem,i64,ints]) (by simp only [go_sem,i64,ints]) (by first | exact .inl rfl | exact .inr rfl) ?_
 (try simp only [go_sem]);refine hK _ ?_;clear hK K;refine zw (zk [5,8,9,10,11,12,13,14]) ?_;simp only [go_sem]
 have e00 : ((0 : Int) != 0) = false:=rfl
 have eL : ((L.length : Int) != (R.aims.length : Int)) = false:=by rw [hln]; simp
 have eY : decide ((Y.length : Int) < 1) = false:=by simp; omega
 have ee : (e != 0 && e != 7) = false:=by rcases hQ.err with h | h <;> rw [h] <;> rfl
 rcases hQ.err with he | he
 · subst he
   have e7 : ((0 : Int) == 7) = false:=rfl
   have hF : (false || Y.any fun y=>decide (y = a)) = true:=by
    rw [Bool.false_or,List.any_eq_true]
    exact ⟨a,hQ.found rfl,by simp⟩
   repeat refine zq ?_
   refine zb fun K hK=>?_;simp only [go_sem,e00,eL,eY,List.length_map]
   (try intros)
   refine hK _ ?_;clear hK K;refine zw (zk [8,9,10,11,13,107]) ?_;simp only [go_sem]
   refine zc rfl (fun hc=>?_) (fun hc=>?_) <;> (try simp only [go_sem] at hc)
   refine zx ?_
   try simp only [go_sem]
   refine zq ?_
   refine zb fun K hK=>?_;simp only [go_sem];refine hK _ ?_;clear hK K;refine zw (zk [8,9,10,11,13,15]) ?_;simp only [go_sem]
   repeat refine zq ?_
   refine zb fun K hK=>?_;simp only [go_sem];refine hK _ ?_;clear hK K;refine zw (zk [8,9,10,11,13,15,16]) ?_;simp only [go_sem];refine zd ?_
   refine awp_upto (n:=202) Y.length (fun i vs=>[(8,.r (i64 a)),(9,.r (i64 w)),(10,.r (i64 0)),(11,.r (spsR L)),(13,.r (ints Y)),(15,.r (.bo (false || (Y.take i).any fun y=>decide (y = a)))),(16,.r (i64 (i : Int)))])
    (fun i=>[]) (fun _=>True) 0 (fit_of [] ?_ ?_) (Nat.zero_le _) trivial ?_
   · try simp only [go_sem]
     try simp
   · try simp only [go_sem]
   intro i vs hi _
   by_cases hiY : i < Y.length
   · obtain ⟨y,hy⟩:=opt_of_lt hiY
     have hsn : (false || (Y.take (i + 1)).any fun y=>decide (y = a)) = ((false || (Y.take i).any fun y=>decide (y = a)) || (y == a)):=by
      rw [take_of_opt hy,List.any_append]
      simp [Bool.or_assoc]
      try rfl
     rw [hsn]
     generalize (false || (Y.take i).any fun y=>decide (y = a)) = bb at *
     repeat refine zq ?_
     refine zb fun K hK=>?_;simp only [go_sem,List.length_map,hiY]
     intro _
     refine hK _ ?_;clear hK K;refine zw (zk [8,9,10,11,13,15,16,113]) ?_;simp only [go_sem]
     refine zc rfl (fun hc=>?_) (fun hc=>?_) <;> (try simp only [go_sem] at hc)
     refine zx ?_
     try simp only [go_sem]
     refine zq ?_
     refine zd ?_
     have wi : IntKind.i64.wrap ((i : Int) + 1) = (i : Int) + 1:=by rw [zI] <;> omega
     cases bb
     · skip
       refine zb fun K hK=>?_;simp only [go_sem,hy,hiY,List.length_map];refine hK _ ?_;clear hK K;refine zw (zk [8,9,10,11,13,15,16]) ?_;simp only [go_sem];refine zb fun K hK=>?_;simp only [go_sem,wi];refine hK _ ?_;clear hK K
       try simp only [go_sem]
       refine ⟨hiY,fit_of [] ?_ ?_⟩
       · try simp only [go_sem]
         try simp
       · try simp only [go_sem]
     · skip
       refine zb fun K hK=>?_;simp only [go_sem,hy,hiY,List.length_map];refine hK _ ?_;clear hK K;refine zw (zk [8,9,10,11,13,15,16]) ?_;simp only [go_sem];refine zb fun K hK=>?_;simp only [go_sem,wi];refine hK _ ?_;clear hK K
       try simp only [go_sem]
       refine ⟨hiY,fit_of [] ?_ ?_⟩
       · try simp only [go_sem]
         try simp
       · try simp only [go_sem]
   have hie : i = Y.length:=by omega
   subst hie
   rw [List.take_length,hF]
   repeat refine zq ?_
   refine zb fun K hK=>?_;simp only [go_sem,List.length_map,Nat.lt_irrefl]
   intro _
   refine hK _ ?_;clear hK K;refine zw (zk [8,9,10,11,13,15,16,113]) ?_;simp only [go_sem]
   refine zc rfl (fun hc=>?_) (fun hc=>?_) <;> (try simp only [go_sem] at hc)
   refine zf ?_;simp only [go_sem]
   repeat refine zq ?_
   refine zb fun K hK=>?_;simp only [go_sem];refine hK _ ?_;clear hK K;refine zw (zk [8,9,10,11,15,17]) ?_;simp only [go_sem];refine zd ?_
   refine awp_upto (n:=202) L.length (fun i vs=>[(8,.r (i64 a)),(9,.r (i64 w)),(10,.r (i64 0)),(11,.r (spsR L)),(15,.r (.bo true)),(17,.r (i64 (i : Int)))])
    (fun i=>[]) (fun _=>True) 0 (fit_of [] ?_ ?_) (Nat.zero_le _) trivial ?_
   · try simp only [go_sem]
     try simp
   · try simp only [go_sem]
   intro i vs hi _
   by_cases hiL : i < L.length
   · obtain ⟨⟨x1,x2⟩,hx⟩:=opt_of_lt hiL
     obtain ⟨g1,g2,g3,g4⟩:=hQ.each _ (mem_of_opt hx)
     simp only at g1 g2 g3 g4
     have d1 : decide (x1 < 0) = false:=decide_eq_false (by omega)
     have d2 : decide (x2 < x1) = false:=decide_eq_false (by omega)
     have d3 : decide (x2 < w) = false:=decide_eq_false (by have:=g3 trivial; omega)
     have wi : IntKind.i64.wrap ((i : Int) + 1) = (i : Int) + 1:=by rw [zI] <;> omega
     repeat refine zq ?_
     refine zb fun K hK=>?_;simp only [go_sem,List.length_map,hiL]
     intro _
     refine hK _ ?_;clear hK K;refine zw (zk [8,9,10,11,15,17,128]) ?_;simp only [go_sem]
     refine zc rfl (fun hc=>?_) (fun hc=>?_) <;> (try simp only [go_sem] at hc)
     refine zx ?_
     try simp only [go_sem]
     refine zq ?_
     refine zd ?_
     refine zq ?_
     refine zg follows (by decide +kernel) (by kernel_rfl) fun K hK=>?_;simp only [go_sem,hx,hiL,List.length_map,d1,d2,d3,e00,e7];refine hK _ ?_;clear hK K;refine zw (zk [8,9,10,11,15,17,174]) ?_;simp only [go_sem]
     refine zc rfl (fun hc=>?_) (fun hc=>?_) <;> (try simp only [go_sem] at hc)
     refine zx ?_
     try simp only [go_sem]
     refine zb fun K hK=>?_;simp only [go_sem,wi];refine hK _ ?_;clear hK K
     try simp only [go_sem]
     refine ⟨hiL,fit_of [] ?_ ?_⟩
     · try simp only [go_sem]
       try simp
     · try simp only [go_sem]
   have hie : i = L.length:=by omega
   subst hie
   repeat refine zq ?_
   refine zb fun K hK=>?_;simp only [go_sem,List.length_map,Nat.lt_irrefl]
   intro _
   refine hK _ ?_;clear hK K;refine zw (zk [8,9,10,11,15,17,128]) ?_;simp only [go_sem]
   refine zc rfl (fun hc=>?_) (fun hc=>?_) <;> (try simp only [go_sem] at hc)
   refine zf ?_;simp only [go_sem]
   obtain ⟨j,xj,haj,hjL,hLj⟩:=hQ.pos rfl
   subst haj
   have dj : decide (0 ≤ (j : Int)) = true:=decide_eq_true (by omega)
   have dl : decide ((j : Int) < (L.length : Int)) = true:=decide_eq_true (by omega)
   have ew : (w == w) = true:=by simp
   refine zq ?_
   refine zb fun K hK=>?_;simp only [go_sem,hLj,hjL,List.length_map,e00,dj,dl,ew]
   intro _
   refine zh (hkn) rfl (by simp only [go_sem,i64,ints]) (by simp only [go_sem,i64,ints]) (by first | exact .inl rfl | exact .inr rfl) ?_
   (try simp only [go_sem]);refine hK _ ?_;clear hK K;refine zw (zk [4]) ?_;simp only [go_sem];refine ze ?_;simp only [go_sem]
 · subst he
   have e7 : ((7 : Int) == 0) = false:=rfl
   have e70 : ((7 : Int) != 0) = true:=rfl
   have e77 : ((7 : Int) != 7) = false:=rfl
   have e78 : ((7 : Int) == 7) = true:=rfl
   have hF : (true || Y.any fun y=>decide (y = a)) = true:=rfl
   repeat refine zq ?_
   refine zb fun K hK=>?_;simp only [go_sem,e00,e70,e77,eL,eY,List.length_map]
   (try intros)
   refine hK _ ?_;clear hK K;refine zw (zk [8,9,10,11,13,107]) ?_;simp only [go_sem]
   refine zc rfl (fun hc=>?_) (fun hc=>?_) <;> (try simp only [go_sem] at hc)
   refine zx ?_
   try simp only [go_sem]
   refine zq ?_
   refine zb fun K hK=>?_;simp only [go_sem,e78];refine hK _ ?_;clear hK K;refine zw (zk [8,9,10,11,13,15]) ?_;simp only [go_sem]
   repeat refine zq ?_
   refine zb fun K hK=>?_;simp only [go_sem];refine hK _ ?_;clear hK K;refine zw (zk [8,9,10,11,13,15,16]) ?_;simp only [go_sem];refine zd ?_
   refine awp_upto (n:=202) Y.length (fun i vs=>[(8,.r (i64 a)),(9,.r (i64 w)),(10,.r (i64 7)),(11,.r (spsR L)),(13,.r (ints Y)),(15,.r (.bo (true || (Y.take i).any fun y=>decide (y = a)))),(16,.r (i64 (i : Int)))])
    (fun i=>[]) (fun _=>True) 0 (fit_of [] ?_ ?_) (Nat.zero_le _) trivial ?_
   · try simp only [go_sem]
     try simp
   · try simp only [go_sem]
   intro i vs hi _
   by_cases hiY : i < Y.length
   · obtain ⟨y,hy⟩:=opt_of_lt hiY
     have hsn : (true || (Y.take (i + 1)).any fun y=>decide (y = a)) = ((true || (Y.take i).any fun y=>decide (y = a)) || (y == a)):=by
      rw [take_of_opt hy,List.any_append]
      simp [Bool.or_assoc]
      try rfl
     rw [hsn]
     generalize (true || (Y.take i).any fun y=>decide (y = a)) = bb at *
     repeat refine zq ?_
     refine zb fun K hK=>?_;simp only [go_sem,List.length_map,hiY]
     intro _
     refine hK _ ?_;clear hK K;refine zw (zk [8,9,10,11,13,15,16,113]) ?_;simp only [go_sem]
     refine zc rfl (fun hc=>?_) (fun hc=>?_) <;> (try simp only [go_sem] at hc)
     refine zx ?_
     try simp only [go_sem]
     refine zq ?_
     refine zd ?_
     have wi : IntKind.i64.wrap ((i : Int) + 1) = (i : Int) + 1:=by rw [zI] <;> omega
     cases bb
     · skip
       refine zb fun K hK=>?_;simp only [go_sem,hy,hiY,List.length_map];refine hK _ ?_;clear hK K;refine zw (zk [8,9,10,11,13,15,16]) ?_;simp only [go_sem];refine zb fun K hK=>?_;simp only [go_sem,wi];refine hK _ ?_;clear hK K
       try simp only [go_sem]
       refine ⟨hiY,fit_of [] ?_ ?_⟩
       · try simp only [go_sem]
         try simp
       · try simp only [go_sem]
     · skip
       refine zb fun K hK=>?_;simp only [go_sem,hy,hiY,List.length_map];refine hK _ ?_;clear hK K;refine zw (zk [8,9,10,11,13,15,16]) ?_;simp only [go_sem];refine zb fun K hK=>?_;simp only [go_sem,wi];refine hK _ ?_;clear hK K
       try simp only [go_sem]
       refine ⟨hiY,fit_of [] ?_ ?_⟩
       · try simp only [go_sem]
         try simp
       · try simp only [go_sem]
   have hie : i = Y.length:=by omega
   subst hie
   rw [List.take_length,hF]
   repeat refine zq ?_
   refine zb fun K hK=>?_;simp only [go_sem,List.length_map,Nat.lt_irrefl]
   intro _
   refine hK _ ?_;clear hK K;refine zw (zk [8,9,10,11,13,15,16,113]) ?_;simp only [go_sem]
   refine zc rfl (fun hc=>?_) (fun hc=>?_) <;> (try simp only [go_sem] at hc)
   refine zf ?_;simp only [go_sem]
   repeat refine zq ?_
   refine zb fun K hK=>?_;simp only [go_sem];refine hK _ ?_;clear hK K;refine zw (zk [8,9,10,11,15,17]) ?_;simp only [go_sem];refine zd ?_
   refine awp_upto (n:=202) L.length (fun i vs=>[(8,.r (i64 a)),(9,.r (i64 w)),(10,.r (i64 7)),(11,.r (spsR L)),(15,.r (.bo true)),(17,.r (i64 (i : Int)))])
    (fun i=>[]) (fun _=>True) 0 (fit_of [] ?_ ?_) (Nat.zero_le _) trivial ?_
   · try simp only [go_sem]
     try simp
   · try simp only [go_sem]
   intro i vs hi _
   by_cases hiL : i < L.length
   · obtain ⟨⟨x1,x2⟩,hx⟩:=opt_of_lt hiL
     obtain ⟨g1,g2,g3,g4⟩:=hQ.each _ (mem_of_opt hx)
     simp only at g1 g2 g3 g4
     have d1 : decide (x1 < 0) = false:=decide_eq_false (by omega)
     have d2 : decide (x2 < x1) = false:=decide_eq_false (by omega)
     have d3 : (x2 != 2000000000) = false:=by rw [g4 (by omega)]; rfl
     have wi : IntKind.i64.wrap ((i : Int) + 1) = (i : Int) + 1:=by rw [zI] <;> omega
     repeat refine zq ?_
     refine zb fun K hK=>?_;simp only [go_sem,List.length_map,hiL]
     intro _
     refine hK _ ?_;clear hK K;refine zw (zk [8,9,10,11,15,17,128]) ?_;simp only [go_sem]
     refine zc rfl (fun hc=>?_) (fun hc=>?_) <;> (try simp only [go_sem] at hc)
     refine zx ?_
     try simp only [go_sem]
     refine zq ?_
     refine zd ?_
     refine zq ?_
     refine zg follows (by decide +kernel) (by kernel_rfl) fun K hK=>?_;simp only [go_sem,hx,hiL,List.length_map,d1,d2,d3,e00,e7,e70];refine hK _ ?_;clear hK K;refine zw (zk [8,9,10,11,15,17,174]) ?_;simp only [go_sem]
     refine zc rfl (fun hc=>?_) (fun hc=>?_) <;> (try simp only [go_sem] at hc)
     refine zx ?_
     try simp only [go_sem]
     refine zb fun K hK=>?_;simp only [go_sem,wi];refine hK _ ?_;clear hK K
     try simp only [go_sem]
     refine ⟨hiL,fit_of [] ?_ ?_⟩
     · try simp only [go_sem]
       try simp
     · try simp only [go_sem]
   have hie : i = L.length:=by omega
   subst hie
   repeat refine zq ?_
   refine zb fun K hK=>?_;simp only [go_sem,List.length_map,Nat.lt_irrefl]
   intro _
   refine hK _ ?_;clear hK K;refine zw (zk [8,9,10,11,15,17,128]) ?_;simp only [go_sem]
   refine zc rfl (fun hc=>?_) (fun hc=>?_) <;> (try simp only [go_sem] at hc)
   refine zf ?_;simp only [go_sem]
   refine zq ?_
   refine zb fun K hK=>?_;simp only [go_sem,e70]
   refine zh (hkn) rfl (by simp only [go_sem,i64,ints]) (by simp only [go_sem,i64,ints]) (by first | exact .inl rfl | exact .inr rfl) ?_
   (try simp only [go_sem]);refine hK _ ?_;clear hK K;refine zw (zk [4]) ?_;simp only [go_sem];refine ze ?_;simp only [go_sem]
end Go.Proofs.Ytgfbenanljjgaaa.Du.Th.Ai

namespace Go.Oc
open Go Go.RowKit Go.ChangeShapes Go.WideShapes
inductive Sh where
 | int (k : IntKind)
 | bool
 | sl (es : List Sh)
def fieldsSh (P : Program) (sh : TypeId → Option (List Sh)) : List Field → Nat → Option (List Sh)
 | [],_=>some []
 | f :: fs, o =>
   match sh f.type with
   | some ss=>if f.offset == o && ss.length == P.cellsOf f.type then match fieldsSh P sh fs (o + ss.length) with | some q=>some (ss ++ q) | none=>none else none
   | none=>none
def shape (P : Program) : Nat → TypeId → Option (List Sh)
 | 0,_=>none
 | n + 1, t =>
   match P.underlying t with
   | some (.int k)=>some [.int k]
   | some .bool=>some [.bool]
   | some (.slice e) =>
     match shape P n e with
     | some ss=>if ss.length == P.cellsOf e && decide (0 < ss.length) then some [.sl ss] else none
     | none=>none
   | some (.array m e) =>
     match shape P n e with
     | some ss=>if ss.length == P.cellsOf e && P.cellsOf t == m * ss.length then some (List.replicate m ss).flatten else none
     | none=>none
   | some (.struct fs) =>
     match fieldsSh P (shape P n) fs.toList 0 with
     | some ss=>if ss.length == P.cellsOf t then some ss else none
     | none=>none
   | _=>none
mutual
def Fits : Sh → RV → Prop
 | .int k,x=>∃ n,x = .it k n ∧ (Lit.int k n).wf = true
 | .bool,x=>∃ b,x = .bo b
 | .sl ss,x=>∃ es,x = .sl ss.length es ∧ FitsE ss es
def FitsL : List Sh → List RV → Prop
 | [],xs=>xs = []
 | s :: ss,xs=>∃ y ys,xs = y :: ys ∧ Fits s y ∧ FitsL ss ys
def FitsE (ss : List Sh) : List (List RV) → Prop
 | []=>True
 | e :: es=>FitsL ss e ∧ FitsE ss es
end
theorem fitsL_append : ∀ {s1 s2 : List Sh} {x1 x2 : List RV},FitsL s1 x1 → FitsL s2 x2 → FitsL (s1 ++ s2) (x1 ++ x2)
 | [],_,_,_,h1,h2=>by simp only [FitsL] at h1; subst h1; simpa using h2
 | s :: ss, s2, x1, x2, h1, h2 => by
   simp only [FitsL] at h1
   obtain ⟨y,ys,rfl,h3,h4⟩:=h1
   simp only [List.cons_append,FitsL];exact ⟨y,_,rfl,h3,fitsL_append h4 h2⟩
theorem fitsL_length : ∀ {ss : List Sh} {xs : List RV},FitsL ss xs → xs.length = ss.length
 | [],_,h=>by simp only [FitsL] at h; subst h; rfl
 | s :: ss, _, h => by
   simp only [FitsL] at h
   obtain ⟨y,ys,rfl,_,h⟩:=h
   simp [fitsL_length h]
theorem fitsE_of : ∀ {ss : List Sh} {es : List (List RV)},(∀ e ∈ es,FitsL ss e) → FitsE ss es
 | _,[],_=>by simp only [FitsE]
 | ss,e :: es,h=>by simp only [FitsE]; exact ⟨h e (by simp),fitsE_of fun x hx=>h x (by simp [hx])⟩
theorem choice {α : Type} {Q : Nat → α → Prop} : ∀ (n : Nat),(∀ i,i < n → ∃ x,Q i x) → ∃ xs : List α,xs.length = n ∧ ∀ i x,xs[i]? = some x → Q i x
 | 0,_=>⟨[],rfl,by simp⟩
 | n + 1, h => by
   obtain ⟨xs,hl,hx⟩:=choice n fun i hi=>h i (by omega)
   obtain ⟨y,hy⟩:=h n (by omega)
   refine ⟨xs ++ [y],by simp [hl],fun i x hi=>?_⟩
   by_cases h1 : i < n
   · rw [List.getElem?_append_left (by omega)] at hi; exact hx i x hi
   · rw [List.getElem?_append_right (by omega)] at hi
     have : i = n:=by have:=(List.getElem?_eq_some_iff.1 hi).1; simp at this; omega
     subst this
     simp [hl] at hi
     exact hi ▸ hy
section
variable {w : World} {P : Program}
theorem cells?_get {base n : Nat} {a : Addr} {cs : List Value} (h : w.cells? base a n = some cs) : cs.length = n ∧ ∀ i,i < n → w.cell? (a.add i) = cs[i]?:=by
 unfold World.cells? at h
 split at h
 · exact ⟨by simpa using mapM_some_length h,fun i hi=>mapM_some_get h i i (by simp [hi])⟩
 · cases h
theorem cell_lt {a : Addr} {v : Value} (h : w.cell? a = some v) : a.block < w.heap.size:=by
 refine Decidable.byContradiction fun hn=>?_
 have : w.heap[a.block]? = none:=by simp; omega
 simp [World.cell?,this] at h
def old (w : World) : Nat → Prop:=fun b=>b < w.heap.size
theorem relC_of_cells {xs : List RV} {cs : List Value} {ad : Addr} (hV : RV.relV w (old w) xs cs) (hone : ∀ u ∈ cs,u.oneCell' = true) (hc : ∀ i,i < cs.length → w.cell? (ad.add i) = cs[i]?) : RV.relC w (old w) xs ad 0:=by
 refine RV.relC_of_get fun i x hx=>?_
 obtain ⟨u,hu,hr⟩:=RV.relV_get hV hx
 have hi:=(List.getElem?_eq_some_iff.1 hu).1
 refine ⟨u,?_,hone u (List.mem_of_getElem? hu),hr⟩
 rw [Nat.zero_add,hc i hi,hu]
variable {H : Type} {enc : TypeId × Value → H} {base : Nat} {spare : Nat → Bool} {held : Bool}
def Good3 (w : World) (ss : List Sh) (cs : List Value) : Prop:=∃ xs,FitsL ss xs ∧ RV.relV w (old w) xs cs ∧ ∀ u ∈ cs,u.oneCell' = true
theorem good3_append {s1 s2 : List Sh} {c1 c2 : List Value} (h1 : Good3 w s1 c1) (h2 : Good3 w s2 c2) : Good3 w (s1 ++ s2) (c1 ++ c2):=by
 obtain ⟨x1,f1,r1,o1⟩:=h1
 obtain ⟨x2,f2,r2,o2⟩:=h2
 refine ⟨x1 ++ x2,fitsL_append f1 f2,RV.relV_append r1 r2,fun u hu=>?_⟩
 rcases List.mem_append.1 hu with hu | hu
 · exact o1 u hu
 · exact o2 u hu
theorem good3_length {ss : List Sh} {cs : List Value} (h : Good3 w ss cs) : cs.length = ss.length:=by
 obtain ⟨xs,f,r,_⟩:=h
 rw [RV.relV_length r,fitsL_length f]
theorem trod_fits : ∀ (fuel n : Nat) (t : TypeId) (cs : List Value) (x : DataW H × List MemPlace) (ss : List Sh),DataW.trod enc P w base spare held fuel t cs = some x → shape P n t = some ss → Good3 w ss cs:=by
 intro fuel
 induction fuel with
 | zero=>intro n t cs x ss h; simp [DataW.trod] at h
 | succ fuel ih =>
   intro n t cs x ss h hs
   cases n with
   | zero=>simp [shape] at hs
   | succ n =>
     unfold shape at hs
     split at hs
     · rename_i k ht
       injection hs with hs; subst hs
       obtain ⟨m,rfl,_,hw⟩:=DataW.trod_int ht h
       exact ⟨[.it k m],by simp only [FitsL,Fits]; exact ⟨_,[],rfl,⟨m,rfl,hw⟩,rfl⟩,by simp only [RV.relV,RV.rel]; exact ⟨_,[],rfl,rfl,rfl⟩,by simp [Value.oneCell']⟩
     · rename_i ht
       injection hs with hs; subst hs
       obtain ⟨b,rfl,_⟩:=DataW.trod_bool ht h
       exact ⟨[.bo b],by simp only [FitsL,Fits]; exact ⟨_,[],rfl,⟨b,rfl⟩,rfl⟩,by simp only [RV.relV,RV.rel]; exact ⟨_,[],rfl,rfl,rfl⟩,by simp [Value.oneCell']⟩
     · rename_i e ht
       split at hs
       · rename_i es hes
         split at hs
         · rename_i hc
           simp only [Bool.and_eq_true,beq_iff_eq,decide_eq_true_eq] at hc
           injection hs with hs; subst hs
           rcases DataW.trod_slice ht h with ⟨rfl,_⟩ | ⟨a,len,cap,elems,rest,m,hm,rfl,_,_,hlc,hcm,hel,hget,_⟩
           · refine ⟨[.sl es.length []],?_,?_,by simp [Value.oneCell']⟩
             · simp only [FitsL,Fits];exact ⟨_,[],rfl,⟨[],rfl,by simp only [FitsE]⟩,rfl⟩
             · simp only [RV.relV,RV.rel];exact ⟨_,[],rfl,⟨none,0,rfl,Nat.le_refl _,Nat.zero_le _,fun h=>absurd rfl h⟩,rfl⟩
           · injection hm with hm; subst hm
             have hall : ∀ i,i < len → ∃ e',FitsL es e' ∧ e'.length = es.length ∧ RV.relC w (old w) e' (a.add (i * es.length)) 0 ∧ a.block < w.heap.size:=fun i hi=>by
              have h1:=hget i hi
              have h2 : i < elems.length:=by omega
              rw [List.getElem?_eq_getElem h2] at h1
              obtain ⟨ci,hci,htr⟩:=Option.bind_eq_some_iff.1 h1
              rw [← hc.1] at hci
              obtain ⟨hl,hcell⟩:=cells?_get hci
              obtain ⟨xs,f,r,o⟩:=ih n e ci _ es htr hes
              refine ⟨xs,f,fitsL_length f,relC_of_cells r o (fun j hj=>hcell j (by omega)),?_⟩
              have h3:=hcell 0 hc.2
              have h4 : 0 < ci.length:=by omega
              rw [List.getElem?_eq_getElem h4] at h3
              have:=cell_lt h3
              rwa [block_add,block_add] at this
             obtain ⟨els,hlen,hels⟩:=choice len hall
             refine ⟨[.sl es.length els],?_,?_,by simp [Value.oneCell']⟩
             · simp only [FitsL,Fits]
               refine ⟨_,[],rfl,⟨els,rfl,fitsE_of fun e' he'=>?_⟩,rfl⟩
               obtain ⟨i,hi⟩:=List.getElem?_of_mem he'
               exact (hels i e' hi).1
             · simp only [RV.relV,RV.rel]
               refine ⟨_,[],rfl,⟨some a,cap,by rw [hlen],by omega,hcm,fun hne=>?_⟩,rfl⟩
               obtain ⟨e0,he0⟩ : ∃ e0,els[0]? = some e0:=by
                cases els with
                | nil=>exact absurd rfl hne
                | cons a l=>exact ⟨a,rfl⟩
               refine ⟨a,rfl,(hels 0 e0 he0).2.2.2,RV.relE_of_get fun i e' he'=>?_⟩
               obtain ⟨_,q1,q2,_⟩:=hels i e' he'
               exact ⟨q1,RV.relC_unbase _ q2⟩
         · cases hs
       · cases hs
     · rename_i m e ht
       split at hs
       · rename_i es hes
         split at hs
         · rename_i hc
           simp only [Bool.and_eq_true,beq_iff_eq] at hc
           injection hs with hs; subst hs
           obtain ⟨xs,fm,hm,_,hcl,hxl,hget⟩:=DataW.trod_array ht h
           injection hm with hm; subst hm
           have key : ∀ j,j ≤ m → Good3 w (List.replicate j es).flatten (cs.take (j * es.length)):=by
            intro j
            induction j with
            | zero=>intro _; exact ⟨[],by simp [FitsL],by simp [RV.relV],by simp⟩
            | succ j ihj =>
              intro hj
              have h1:=hget j (by omega)
              have h2 : j < xs.length:=by omega
              rw [List.getElem?_eq_getElem h2,← hc.1] at h1
              have h3:=ih n e _ _ es h1 hes
              have:=good3_append (ihj (by omega)) h3
              rw [← List.take_add] at this
              rw [List.replicate_succ',List.flatten_append,Nat.add_mul]
              simpa using this
           have:=key m (Nat.le_refl _)
           rwa [← hc.2,← hcl,List.take_length] at this
         · cases hs
       · cases hs
     · rename_i fs ht
       split at hs
       · rename_i q hq
         split at hs
         · rename_i hc
           simp only [beq_iff_eq] at hc
           injection hs with hs; subst hs
           obtain ⟨xs,fm,hm,_,hcl,hxl,hget⟩:=DataW.trod_struct ht h
           injection hm with hm; subst hm
           have key : ∀ (l : List Field) (o : Nat) (q : List Sh),(∀ f ∈ l,∃ y,DataW.trod enc P w base spare held fuel f.type ((cs.drop f.offset).take (P.cellsOf f.type)) = some y) → fieldsSh P (shape P n) l o = some q → Good3 w q ((cs.drop o).take q.length):=by
            intro l
            induction l with
            | nil =>
              intro o q _ hq
              simp only [fieldsSh,Option.some.injEq] at hq
              subst hq
              exact ⟨[],by simp [FitsL],by simp [RV.relV],by simp⟩
            | cons f l ihl =>
              intro o q hall hq
              simp only [fieldsSh] at hq
              split at hq
              · rename_i s1 hs1
                split at hq
                · rename_i hc1
                  simp only [Bool.and_eq_true,beq_iff_eq] at hc1
                  split at hq
                  · rename_i q2 hq2
                    injection hq with hq; subst hq
                    obtain ⟨y,hy⟩:=hall f (by simp)
                    have g1:=ih n f.type _ _ s1 hy hs1
                    have g2:=ihl (o + s1.length) q2 (fun f' hf'=>hall f' (by simp [hf'])) hq2
                    rw [hc1.1,← hc1.2] at g1
                    have:=good3_append g1 g2
                    rw [← List.drop_drop,← List.take_add] at this
                    simpa using this
                  · cases hq
                · cases hq
              · cases hq
           have:=key fs.toList 0 q (fun f hf=>by
            obtain ⟨i,hi⟩:=List.getElem?_of_mem hf
            have hi' : fs[i]? = some f:=by simpa using hi
            have h1:=hget i f hi'
            have h2 : i < xs.length:=by have:=(Array.getElem?_eq_some_iff.1 hi').1; omega
            exact ⟨xs[i],by rw [h1]; exact List.getElem?_eq_getElem h2⟩) hq
           rwa [List.drop_zero,hc,← hcl,List.take_length] at this
         · cases hs
       · cases hs
     · cases hs
def FitsT (P : Program) (n : Nat) (t : TypeId) (x : RV) : Prop:=∃ ss,shape P n t = some ss ∧ if aggOf P t then ∃ xs,x = .ag xs ∧ FitsL ss xs else FitsL ss [x]
theorem arg_fits {n : Nat} {t : TypeId} {v : Value} {d : DataW H} {ps : List MemPlace} {r : Reach} {b0 : Nat} (hs : (shape P n t).isSome = true) (hval : Value.okWide P w r b0 t v) (h : DataW.Trod enc P w base spare held t v d ps) :
 ∃ x,FitsT P n t x ∧ x.rel w (old w) v:=by
 obtain ⟨ss,hss⟩:=Option.isSome_iff_exists.1 hs
 obtain ⟨fuel,hf⟩:=h
 obtain ⟨xs,f,r,o⟩:=trod_fits fuel n t _ _ ss hf hss
 have one : aggOf P t = false → v.cells.toList = [v] → ∃ x,FitsT P n t x ∧ x.rel w (old w) v:=fun ha hc=>by
  rw [hc] at r
  match xs,r with
  | [x], r =>
    simp only [RV.relV] at r
    obtain ⟨u,us,e,hr,_⟩:=r
    injection e with e1 e2
    subst e1
    exact ⟨x,⟨ss,hss,by rw [ha]; exact f⟩,hr⟩
  | [],r=>simp [RV.relV] at r
  | _ :: _ :: _, r =>
    simp only [RV.relV] at r
    obtain ⟨u,us,e,_,u2,us2,e2,_⟩:=r
    injection e with _ e
    rw [e2] at e; cases e
 cases n with
 | zero=>simp [shape] at hss
 | succ n =>
   have hss':=hss
   unfold shape at hss'
   split at hss'
   · rename_i k ht
     obtain ⟨m,rfl⟩:=okWide_int ht hval
     exact one (by simp [aggOf,ht]) rfl
   · rename_i ht
     obtain ⟨b,rfl⟩:=okWide_bool ht hval
     exact one (by simp [aggOf,ht]) rfl
   · rename_i e ht
     obtain ⟨a,l,c,rfl⟩:=okWide_slice ht hval
     exact one (by simp [aggOf,ht]) rfl
   · rename_i m e ht
     obtain ⟨cs,rfl⟩ : ∃ cs,v = .agg cs:=by
      simp only [Value.okWide,ht] at hval
      obtain ⟨cs,h1,_⟩:=hval
      exact ⟨cs,h1⟩
     exact ⟨.ag xs,⟨ss,hss,by simp only [aggOf,ht,if_true]; exact ⟨xs,rfl,f⟩⟩,by simp only [RV.rel]; exact ⟨cs,rfl,o,r⟩⟩
   · rename_i fs ht
     obtain ⟨cs,rfl,_⟩:=okWide_struct ht hval
     exact ⟨.ag xs,⟨ss,hss,by simp only [aggOf,ht,if_true]; exact ⟨xs,rfl,f⟩⟩,by simp only [RV.rel]; exact ⟨cs,rfl,o,r⟩⟩
   · cases hss'
theorem wf_i64 {n : Int} (h : (Lit.int .i64 n).wf = true) : -9223372036854775808 ≤ n ∧ n ≤ 9223372036854775807:=by
 simp only [Lit.wf,Bool.and_eq_true,decide_eq_true_eq] at h
 have h1 : IntKind.min .i64 = -9223372036854775808:=by decide
 have h2 : IntKind.max .i64 = 9223372036854775807:=by decide
 rw [h1,h2] at h
 exact h
theorem fitsE_ints : ∀ {es : List (List RV)},FitsE [.int .i64] es → ∃ l : List Int,es = l.map (fun x=>[.it .i64 x]) ∧ ∀ x ∈ l,-9223372036854775808 ≤ x ∧ x ≤ 9223372036854775807
 | [],_=>⟨[],rfl,by simp⟩
 | e :: es, h => by
   simp only [FitsE,FitsL,Fits] at h
   obtain ⟨⟨y,ys,rfl,⟨n,rfl,hn⟩,rfl⟩,h⟩:=h
   obtain ⟨l,rfl,hl⟩:=fitsE_ints h
   refine ⟨n :: l,rfl,fun x hx=>?_⟩
   rcases List.mem_cons.1 hx with rfl | hx
   · exact wf_i64 hn
   · exact hl x hx
theorem fitsT_ag {n : Nat} {t : TypeId} {x : RV} {ss : List Sh} (h : FitsT P n t x) (hs : shape P n t = some ss) (ha : aggOf P t = true) : ∃ xs,x = .ag xs ∧ FitsL ss xs:=by
 obtain ⟨s',h1,h2⟩:=h
 rw [hs] at h1; injection h1 with h1; subst h1
 rw [ha] at h2
 exact h2
theorem fitsT_one {n : Nat} {t : TypeId} {x : RV} {s : Sh} (h : FitsT P n t x) (hs : shape P n t = some [s]) (ha : aggOf P t = false) : Fits s x:=by
 obtain ⟨s',h1,h2⟩:=h
 rw [hs] at h1; injection h1 with h1; subst h1
 rw [ha] at h2
 simp only [Bool.false_eq_true,if_false,FitsL] at h2
 obtain ⟨y,ys,e,h3,_⟩:=h2
 injection e with e1 e2
 subst e1
 exact h3
theorem fitsT_int {n : Nat} {t : TypeId} {x : RV} (h : FitsT P n t x) (hs : shape P n t = some [.int .i64]) (ha : aggOf P t = false) : ∃ m,x = .it .i64 m ∧ -9223372036854775808 ≤ m ∧ m ≤ 9223372036854775807:=by
 have:=fitsT_one h hs ha
 simp only [Fits] at this
 obtain ⟨m,h1,h2⟩:=this
 exact ⟨m,h1,wf_i64 h2⟩
theorem fitsT_ints {n : Nat} {t : TypeId} {x : RV} (h : FitsT P n t x) (hs : shape P n t = some [.sl [.int .i64]]) (ha : aggOf P t = false) : ∃ l : List Int,x = .sl 1 (l.map (fun x=>[.it .i64 x])) ∧ ∀ x ∈ l,-9223372036854775808 ≤ x ∧ x ≤ 9223372036854775807:=by
 have:=fitsT_one h hs ha
 simp only [Fits] at this
 obtain ⟨es,h1,h2⟩:=this
 obtain ⟨l,rfl,hl⟩:=fitsE_ints h2
 exact ⟨l,h1,hl⟩
end
end Go.Oc

namespace Go.Oc
open Go Go.RowKit
theorem wf_u8 {n : Int} (h : (Lit.int .u8 n).wf = true) : 0 ≤ n ∧ n ≤ 255:=by
 simp only [Lit.wf,Bool.and_eq_true,decide_eq_true_eq] at h
 have h1 : IntKind.min .u8 = 0:=by decide
 have h2 : IntKind.max .u8 = 255:=by decide
 rw [h1,h2] at h
 exact h
theorem wf_u16 {n : Int} (h : (Lit.int .u16 n).wf = true) : 0 ≤ n ∧ n ≤ 65535:=by
 simp only [Lit.wf,Bool.and_eq_true,decide_eq_true_eq] at h
 have h1 : IntKind.min .u16 = 0:=by decide
 have h2 : IntKind.max .u16 = 65535:=by decide
 rw [h1,h2] at h
 exact h
theorem wf_u32 {n : Int} (h : (Lit.int .u32 n).wf = true) : 0 ≤ n ∧ n ≤ 4294967295:=by
 simp only [Lit.wf,Bool.and_eq_true,decide_eq_true_eq] at h
 have h1 : IntKind.min .u32 = 0:=by decide
 have h2 : IntKind.max .u32 = 4294967295:=by decide
 rw [h1,h2] at h
 exact h
theorem fitsE_u8 : ∀ {es : List (List RV)},FitsE [.int .u8] es → ∃ l : List Int,es = l.map (fun x=>[.it .u8 x]) ∧ ∀ x ∈ l,0 ≤ x ∧ x ≤ 255
 | [],_=>⟨[],rfl,by simp⟩
 | e :: es, h => by
   simp only [FitsE,FitsL,Fits] at h
   obtain ⟨⟨y,ys,rfl,⟨n,rfl,hn⟩,rfl⟩,h⟩:=h
   obtain ⟨l,rfl,hl⟩:=fitsE_u8 h
   refine ⟨n :: l,rfl,fun x hx=>?_⟩
   rcases List.mem_cons.1 hx with rfl | hx
   · exact wf_u8 hn
   · exact hl x hx
theorem fitsE_u16 : ∀ {es : List (List RV)},FitsE [.int .u16] es → ∃ l : List Int,es = l.map (fun x=>[.it .u16 x]) ∧ ∀ x ∈ l,0 ≤ x ∧ x ≤ 65535
 | [],_=>⟨[],rfl,by simp⟩
 | e :: es, h => by
   simp only [FitsE,FitsL,Fits] at h
   obtain ⟨⟨y,ys,rfl,⟨n,rfl,hn⟩,rfl⟩,h⟩:=h
   obtain ⟨l,rfl,hl⟩:=fitsE_u16 h
   refine ⟨n :: l,rfl,fun x hx=>?_⟩
   rcases List.mem_cons.1 hx with rfl | hx
   · exact wf_u16 hn
   · exact hl x hx
end Go.Oc

namespace Go.Proofs.Ytgfbenanljjgaaa.Du.Th.Ai
open Go Go.Oc
theorem fitsE_u16 : ∀ {es : List (List RV)},FitsE [.int .u16] es → ∃ l : List Int,es = l.map (fun x=>[.it .u16 x]) ∧ ∀ x ∈ l,0 ≤ x ∧ x ≤ 65535
 | [],_=>⟨[],rfl,by simp⟩
 | e :: es, h => by
   simp only [FitsE,FitsL,Oc.Fits] at h
   obtain ⟨⟨y,ys,rfl,⟨n,rfl,hn⟩,rfl⟩,h⟩:=h
   obtain ⟨l,rfl,hl⟩:=fitsE_u16 h
   refine ⟨n :: l,rfl,fun x hx=>?_⟩
   rcases List.mem_cons.1 hx with rfl | hx
   · exact wf_u16 hn
   · exact hl x hx
theorem fits45 {x : RV} (h : FitsT Try.prog 9 45 x) : ∃ y,x = .ag (rxC y) ∧ WfRx y:=by
 obtain ⟨xs,rfl,hx⟩:=fitsT_ag (ss:=[.sl [.int .u16],.sl [.int .u8],.sl [.int .u8],.int .u8,.int .u8]) h (by kernel_rfl) (by kernel_rfl)
 simp only [Oc.FitsL,Oc.Fits] at hx
 obtain ⟨_,_,rfl,⟨es,rfl,hes⟩,_,_,rfl,⟨es1,rfl,hes1⟩,_,_,rfl,⟨es2,rfl,hes2⟩,_,_,rfl,⟨r,rfl,hr⟩,_,_,rfl,⟨o,rfl,ho⟩,rfl⟩:=hx
 obtain ⟨l,rfl,hl⟩:=fitsE_u16 hes
 obtain ⟨l1,rfl,hl1⟩:=fitsE_u8 hes1
 obtain ⟨l2,rfl,hl2⟩:=fitsE_u8 hes2
 exact ⟨⟨l,l1,l2,r,o⟩,rfl,⟨hl,hl1,hl2,wf_u8 hr,wf_u8 ho⟩⟩
theorem fits75 {x : RV} (h : FitsT Try.prog 9 75 x) : ∃ b0 b1 b2 : Int,x = .ag [.it .u8 b0,.it .u8 b1,.it .u8 b2] ∧ (0 ≤ b0 ∧ b0 ≤ 255) ∧ (0 ≤ b1 ∧ b1 ≤ 255) ∧ (0 ≤ b2 ∧ b2 ≤ 255):=by
 obtain ⟨xs,rfl,hx⟩:=fitsT_ag (ss:=[.int .u8,.int .u8,.int .u8]) h (by kernel_rfl) (by kernel_rfl)
 simp only [Oc.FitsL,Oc.Fits] at hx
 obtain ⟨_,_,rfl,⟨a,rfl,ha⟩,_,_,rfl,⟨b,rfl,hb⟩,_,_,rfl,⟨c,rfl,hc⟩,rfl⟩:=hx
 exact ⟨a,b,c,rfl,wf_u8 ha,wf_u8 hb,wf_u8 hc⟩
theorem fits43 {x : RV} (h : FitsT Try.prog 9 43 x) : ∃ l : List Int,x = u8s l ∧ ∀ n ∈ l,0 ≤ n ∧ n ≤ 255:=by
 have:=fitsT_one (s:=.sl [.int .u8]) h (by kernel_rfl) (by kernel_rfl)
 simp only [Oc.Fits] at this
 obtain ⟨es,rfl,hes⟩:=this
 obtain ⟨l,rfl,hl⟩:=fitsE_u8 hes
 exact ⟨l,rfl,hl⟩
end Go.Proofs.Ytgfbenanljjgaaa.Du.Th.Ai

namespace Go.Proofs.Ytgfbenanljjgaaa
open Go Go.Oc
theorem law9' {x0 x1 : RV} (h0 : FitsT Try.prog 9 45 x0) (h1 : FitsT Try.prog 9 75 x1) : ACalls Try.prog 9 [x0,x1] (.bo true):=by
 obtain ⟨x,rfl,hx⟩:=Du.Th.Ai.fits45 h0
 obtain ⟨b0,b1,b2,rfl,g0,g1,g2⟩:=Du.Th.Ai.fits75 h1
 exact Du.Th.Ai.law_other hx g0 g1 g2
end Go.Proofs.Ytgfbenanljjgaaa


namespace Go.Proofs.Ytgfbenanljjgaaa
open Go Go.Oc Go.ChangeShapes Go.WideShapes Go.RowKit
set_option linter.unusedVariables false
theorem own : ownKnob Try.prog.godebug = none := by kernel_rfl
theorem laidOut : laidOutB Try.prog = true := by kernel_rfl
set_option maxRecDepth 100000 in
theorem lifted (os : Os) (started : os.Started) (H : Type) (enc : TypeId × Value → H) :
    ReturnsInHanded {} Try.checked os 9 .any (Rows.aimOtherSpec.pre6 enc Try.prog Try.f9 Rows.aimOtherRow.domain false) (Rows.aimOtherSpec.post enc Try.prog Try.f9 false true false false) := by
  refine returnsInHanded_of_change (C := Try.checked) own started (by kernel_rfl) Try.func9
    (ChangeSpec.witness6 (enc := enc) (C := Try.checked) false ⟨#[], #[.agg #[.slice none 0 0, .slice none 0 0, .slice none 0 0, .int .u8 0, .int .u8 0], .agg #[.int .u8 0, .int .u8 0, .int .u8 0]], []⟩ 8 (by kernel_rfl) (by kernel_rfl) (by kernel_rfl) (by kernel_rfl)) ?_
  intro W base args ds gs before hval0 hW hcnd _
  have hval : ∀ (j : Nat) t v, Try.f9.params[j]? = some t → args[j]? = some v → Value.okWide Try.prog W .any base t v := hval0
  have hW' := hW
  obtain ⟨p, q, hA0, hV, rfl, hfz, hnd⟩ := hW
  have hA : DataW.TrodAll enc Try.prog W 0 (fun _ => true) true Try.f9.params.toList args.toList ds p := hA0
  rw [Try.params9] at hA hval
  obtain ⟨v0, vs0, d0, ds0, p0, q0, hargs, rfl, rfl, h0, r0⟩ := trodAll_cons hA
  obtain ⟨v1, vs1, d1, ds1, p1, q1, rfl, rfl, rfl, h1, r1⟩ := trodAll_cons r0
  obtain ⟨rfl, rfl, rfl⟩ := trodAll_nil r1
  obtain rfl : args = #[v0, v1] := by cases args; simp_all
  obtain ⟨rfl, rfl⟩ := trodVars_none hV
  have lt0 : ∀ x ∈ p0, x.block < W.heap.size := by obtain ⟨m, hm⟩ := h0; exact DataW.trod_lt m _ _ _ hm
  have lt1 : ∀ x ∈ p1, x.block < W.heap.size := by obtain ⟨m, hm⟩ := h1; exact DataW.trod_lt m _ _ _ hm
  obtain ⟨x0, g0, e0⟩ := arg_fits (n := 9) (by kernel_rfl) (hval 0 45 v0 rfl rfl) h0
  obtain ⟨x1, g1, e1⟩ := arg_fits (n := 9) (by kernel_rfl) (hval 1 75 v1 rfl rfl) h1
  clear hA0 hval0
  refine ((law9' g0 g1).2 W (old W) #[v0, v1] (fun _ h => h) (by simp only [RV.relV]; exact ⟨_, _, rfl, e0, _, _, rfl, e1, rfl⟩)).mono fun e W' he => ?_
  obtain ⟨v, R', rfl, bel, _, _, _, hr⟩ := he
  simp only [RV.rel] at hr
  subst hr
  exact ⟨_, rfl, _, _, _, [], _, [], hW', trodAll_mk1 (shut_bool Try.underlying4 _), (trodAll_cons_mk (Below.trod laidOut (by kernel_rfl) (of_decide_eq_true (by kernel_rfl)) h0 bel lt0) (trodAll_cons_mk (Below.trod laidOut (by kernel_rfl) (of_decide_eq_true (by kernel_rfl)) h1 bel lt1) trodAll_mk0)), rfl, bel.frame _, fun h => by cases h⟩
theorem over : Rows.aimOtherRow.holds Try.pinned (OpenSpec.ofChange Rows.aimOtherSpec) :=
  OpenClaim.holds_of_wide 9 Try.f9 rfl rfl rfl rfl rfl rfl rfl ⟨rfl, rfl, rfl, rfl, rfl⟩ rfl rfl rfl rfl rfl (by kernel_rfl) Try.func9 (by kernel_rfl)
    (of_decide_eq_true (by kernel_rfl)) (by unfold Func.isWrapper; first | (rw [if_pos (by decide +kernel)]; kernel_rfl) | (rw [if_neg (by decide +kernel)]; exact ⟨rfl, rfl⟩))
    (fun os started H enc _ => lifted os started H enc)
theorem aimOther_holds : Rows.AimOtherSaid := over
#print axioms aimOther_holds
end Go.Proofs.Ytgfbenanljjgaaa

/- Part 8 of the texts of this claim. -/
import Derived.Test.YtgfbenanljjgaaaVG7
import Derived.Test.YtgfbenanljjgaaaVG6
namespace Go.Proofs.Ytgfbenanljjgaaa.Du.Th
open Go Go.Oc
set_option linter.unusedSimpArgs false
set_option linter.unusedVariables false
set_option maxRecDepth 8000
set_option maxHeartbeats 4000000
abbrev trisR (H : List (List Nat)) : RV:=.sl 3 (H.map fun a=>a.map u8Q)
theorem fits_ok (l : List Nat) (hl : ∀ n ∈ l,n < 256) (H : List (List Nat)) (hH : ∀ a ∈ H,a.length = 3 ∧ ∀ n ∈ a,n < 256) :
 ACalls Try.prog 37 [bytR l,trisR H] (.tu [aimV ⟨201,fitB (bsP l 5) H true⟩,aimV ⟨201,fitB (bsP l 5) H false⟩,i64 (3 * (visN H : Int)),.bo true]):=by
 have hbs:=bsP_ok hl (most:=5) (by omega)
 have hpb:=pbeds_ok l 5 hl (by omega)
 have hkn:=fit_known hbs H
 have hto:=fit_total hbs H
 have hint : intsN (bedsP l 5) = ints (bsP l 5):=rfl
 rw [hint] at hpb
 have hpos : 0 < (bsP l 5).length:=List.length_pos_iff.2 hbs.ne
 have hb10:=hbs.len
 generalize bsP l 5 = bs at *
 have hvn : 1 ≤ visN H ∧ visN H ≤ 20:=by unfold visN; omega
 refine acalls_st (rs:=[aimV ⟨201,fitB bs H true⟩,aimV ⟨201,fitB bs H false⟩,i64 (3 * (visN H : Int)),.bo true]) [.cell 4 63,.cell 5 63,.tmp 6,.tmp 7] Try.func37 rfl (by kernel_rfl) Try.ntmps37 rfl (by simp) rfl fun C vs=>?_
 refine zq ?_
 refine zb fun K hK=>?_;simp only [go_sem];refine hK _ ?_;clear hK K;refine zw (zk [0,1,4,5]) ?_;simp only [go_sem]
 refine zq ?_
 refine zb fun K hK=>?_;simp only [go_sem]
 refine zh (hpb) rfl (by simp only [go_sem,i64,ints]) (by simp only [go_sem,i64,ints]) (by first | exact .inl rfl | exact .inr rfl) ?_
 (try simp only [go_sem]);refine hK _ ?_;clear hK K;refine zw (sub_ownB 9 1 319 68 3 (by omega) (by omega) rfl (by simp only [go_sem,List.getElem?_cons_succ,List.getElem?_cons_zero])) ?_;refine zw (zk [1,4,5,8,9]) ?_;simp only [go_sem]
 repeat refine zq ?_
 refine zb fun K hK=>?_;simp only [go_sem];refine hK _ ?_;clear hK K;refine zw (zk [1,4,5,8,9,10]) ?_;simp only [go_sem];refine zd ?_
 refine awp_uptoV (n:=141) bs.length (fun i vs=>[(1,.r (trisR H)),(4,.pt 4 (vs 4) 0),(5,.pt 5 (vs 5) 0),(8,.r (ints bs)),(9,.pt 9 (vs 9) 0),(10,.r (i64 (i : Int)))])
  (fun i vs=>[(4,.box [.r (i64 0),.r .ns]),(5,.box [.r (i64 0),.r .ns]),(9,.box [.r (i64 201),.os 319 (vs 319) 3 0 i]),(319,.arr 68 3 ((bs.take i).map fun b=>[i64 b,i64 0,i64 0]))]) (fun _=>True) 0 (zj [] ?_ ?_) (Nat.zero_le _) trivial ?_
 · try simp only [go_sem]
   try rfl
 · try simp only [go_sem]
   try rfl
 · intro i vs hi _
   by_cases hin : i < bs.length
   · obtain ⟨b,hb⟩:=opt_of_lt hin
     have hlt : (bs.take i).length = i:=by rw [List.length_take]; omega
     rw [take_of_opt hb]
     repeat refine zq ?_
     refine zb fun K hK=>?_;simp only [go_sem,hin,List.length_map]
     intro _
     refine hK _ ?_;clear hK K;refine zw (zk [1,4,5,8,9,10,30]) ?_;simp only [go_sem]
     refine zc rfl (fun hc=>?_) (fun hc=>?_) <;> (try simp only [go_sem] at hc)
     refine zx ?_
     try simp only [go_sem]
     refine zq ?_
     refine zd ?_
     refine awp_dreg3 [(9,some 9),(8,none),(10,none)] [9] follows (by decide +kernel) (by kernel_rfl) (by simp only [keysOk,List.mem_cons,List.not_mem_nil,forall_eq_or_imp,Oc.keyOf,go_sem]; simp) (by intro k hk; simp only [List.mem_cons,List.not_mem_nil,or_false] at hk; first | (subst hk; exact ⟨_,rfl⟩) | (rcases hk with rfl | rfl <;> exact ⟨_,rfl⟩) | (rcases hk with rfl | rfl | rfl <;> exact ⟨_,rfl⟩)) fun K hK=>?_
     simp only [go_sem,hb,hin,hlt,List.length_map]
     refine ⟨by omega,?_⟩
     refine hK _ ?_;clear hK K;refine zw (zk [1,4,5,8,9,10]) ?_;simp only [go_sem];refine zb fun K hK=>?_;simp only [go_sem];(try simp (disch:=omega) only [zI]);refine hK _ ?_;clear hK K
     try simp only [go_sem]
     refine ⟨by omega,zj [] ?_ ?_⟩
     · try simp only [go_sem]
     · try simp only [go_sem]
       try simp
   · have hie : i = bs.length:=by omega
     subst hie
     repeat refine zq ?_
     refine zb fun K hK=>?_;simp only [go_sem,Nat.lt_irrefl,List.length_map]
     intro _
     refine hK _ ?_;clear hK K;refine zw (zk [1,4,5,8,9,30]) ?_;simp only [go_sem]
     refine zc rfl (fun hc=>?_) (fun hc=>?_) <;> (try simp only [go_sem] at hc)
     refine zf ?_;simp only [go_sem];rw [List.take_length]
     refine zw (sub_frzB 9 1 319 (ty:=68) (sz:=3) (off:=0) (m:=bs.length) (es:=bs.map fun b=>[i64 b,i64 0,i64 0]) (by omega) (by omega) rfl (by simp only [go_sem,List.getElem?_cons_succ,List.getElem?_cons_zero]) (by rfl) (by simp)) ?_
     have tk1 : List.take bs.length ((Th.aimB bs).beds.map bedR) = (Th.aimB bs).beds.map bedR:=List.take_of_length_le (by simp [Th.aimB])
     have haim : (bs.map fun b=>[i64 b,i64 0,i64 0]) = (Th.aimB bs).beds.map bedR:=by
      simp only [Th.aimB,List.map_map]; rfl
     simp only [go_sem,List.drop_zero,haim,tk1,List.set_cons_succ,List.set_cons_zero];refine zw (sub_frzP 9 9 [i64 201,bedsR (Th.aimB bs).beds] (by omega) rfl rfl) ?_;refine zw (zk [1,4,5,8,9]) ?_;simp only [go_sem]
     refine zq ?_
     refine zb fun K hK=>?_;simp only [go_sem];refine hK _ ?_;clear hK K;refine zw (sub_own 11 311 131 2 (by omega) rfl) ?_;refine zw (sub_own 12 312 131 2 (by omega) rfl) ?_;refine zw (zk [1,4,5,8,9,11,12]) ?_;simp only [go_sem]
     repeat refine zq ?_
     refine zb fun K hK=>?_;simp only [go_sem];refine hK _ ?_;clear hK K;refine zw (zk [1,4,5,8,9,11,12,13]) ?_;simp only [go_sem];refine zd ?_
     refine awp_uptoV (n:=141) (visN H) (fun i vs=>[(1,.r (trisR H)),(4,.pt 4 (vs 4) 0),(5,.pt 5 (vs 5) 0),(8,.r (ints bs)),(9,.r (.rp [i64 201,bedsR (Th.aimB bs).beds])),(11,.os 311 (vs 311) 2 0 i),(12,.os 312 (vs 312) 2 0 i),(13,.r (i64 (i : Int)))])
      (fun i vs=>[(4,.box [.r (i64 0),.r .ns]),(5,.box [.r (i64 0),.r .ns]),(311,.arr 131 2 (knL bs H i)),(312,.arr 131 2 ((toL bs H i).map fun n=>[.ns,i64 n]))]) (fun _=>True) 0 (zj [] ?_ ?_) (Nat.zero_le _) trivial ?_
     · try simp only [go_sem]
       try rfl
     · try simp only [go_sem]
       try rfl
     · intro i vs hi _
       by_cases hin : i < visN H
       · have hkl:=kn_len bs H i
         have htl:=to_len bs H i
         rw [kn_snoc,to_snoc]
         generalize hKN : knL bs H i = KN at *
         generalize hTO : toL bs H i = TO at *
         repeat refine zq ?_
         refine awp_joinV (n:=141) (fun (_ : Unit) vs=>[(1,.r (trisR H)),(4,.pt 4 (vs 4) 0),(5,.pt 5 (vs 5) 0),(8,.r (ints bs)),(9,.r (.rp [i64 201,bedsR (Th.aimB bs).beds])),(11,.os 311 (vs 311) 2 0 i),(12,.os 312 (vs 312) 2 0 i),(13,.r (i64 (i : Int))),(56,.r (.bo true))])
          (fun _ vs=>[(4,.box [.r (i64 0),.r .ns]),(5,.box [.r (i64 0),.r .ns]),(311,.arr 131 2 (KN)),(312,.arr 131 2 ((TO).map fun n=>[.ns,i64 n]))]) (fun _=>True) (fun _ h=>h) ?_ ?_
         · by_cases hi0 : i = 0
           · subst hi0
             refine zb fun K hK=>?_;simp only [go_sem,beq_self_eq_true];refine hK _ ?_;clear hK K
             try simp only [go_sem]
             refine ⟨(),zj [] ?_ ?_⟩
             · try simp only [go_sem]
             · try simp only [go_sem]
           · have q0 : ((i : Int) == 0) = false:=by rw [beq_eq_false_iff_ne]; omega
             have q0' : (i == 0) = false:=by rw [beq_eq_false_iff_ne]; omega
             have q1 : i < H.length:=by unfold visN at hin; omega
             have q2 : decide ((i : Int) < 20) = true:=decide_eq_true (by omega)
             refine zb fun K hK=>?_;simp only [go_sem,q0,q0',q1,q2,List.length_map]
             intro _
             refine hK _ ?_;clear hK K
             try simp only [go_sem]
             refine ⟨(),zj [] ?_ ?_⟩
             · try simp only [go_sem]
             · try simp only [go_sem]
         intro _ vs _
         refine zc rfl (fun hc=>?_) (fun hc=>?_) <;> (try simp only [go_sem] at hc)
         refine zx ?_
         try simp only [go_sem]
         refine zq ?_
         refine zd ?_
         refine zq ?_
         refine zb fun K hK=>?_;simp only [go_sem];refine hK _ ?_;clear hK K;refine zw (sub_ownB 14 0 314 60 1 (by omega) (by omega) rfl (by simp only [go_sem,List.getElem?_cons_succ,List.getElem?_cons_zero])) ?_;refine zw (zk [1,4,5,8,9,11,12,13,14,15]) ?_;simp only [go_sem]
         repeat refine zq ?_
         refine zb fun K hK=>?_;simp only [go_sem];refine hK _ ?_;clear hK K;refine zw (zk [1,4,5,8,9,11,12,13,14,15,16]) ?_;simp only [go_sem]
         have hdl:=darts_len bs H i
         have htt:=tot_le hbs H i
         refine zd ?_
         refine awp_uptoV (n:=141) 3 (fun k vs=>[(1,.r (trisR H)),(4,.pt 4 (vs 4) 0),(5,.pt 5 (vs 5) 0),(8,.r (ints bs)),(9,.r (.rp [i64 201,bedsR (Th.aimB bs).beds])),(11,.os 311 (vs 311) 2 0 i),(12,.os 312 (vs 312) 2 0 i),(13,.r (i64 (i : Int))),(14,.pt 14 (vs 14) 0),(15,.r (i64 (totL bs H i k))),(16,.r (i64 (k : Int)))])
          (fun k vs=>[(4,.box [.r (i64 0),.r .ns]),(5,.box [.r (i64 0),.r .ns]),(14,.box [.os 314 (vs 314) 1 0 k,.r (i64 0)]),(311,.arr 131 2 KN),(312,.arr 131 2 (TO.map fun n=>[.ns,i64 n])),(314,.arr 60 1 ((dartsL bs H i k).map fun b=>[i64 b]))]) (fun _=>True) 0 (zj [] ?_ ?_) (Nat.zero_le _) trivial ?_
         · try simp only [go_sem]
           try rfl
         · try simp only [go_sem]
           try rfl
         · intro k vs hk _
           by_cases hkn : k < 3
           · have g1 : decide ((k : Int) < 3) = true:=decide_eq_true (by omega)
             have hdk:=hdl k
             have htk:=htt k
             obtain ⟨N,hN⟩ : ∃ N,N = hitN H i k:=⟨_,rfl⟩
             have hmN:=Nat.mod_lt N hpos
             obtain ⟨b,hb⟩:=opt_of_lt (l:=bs) (i:=N % bs.length) hmN
             have hbr:=hbs.bed b (mem_of_opt hb)
             have hgb : bs.getD (triN bs.length H i k) 0 = b:=by unfold triN; rw [← hN,List.getD_eq_getElem?_getD,hb]; rfl
             have hbq : 0 ≤ b ∧ b ≤ 499:=by
              rcases hbr.1 with h | h
              · omega
              · exact bedOk_le h
             rw [darts_snoc,tot_snoc,hgb]
             generalize hDL : dartsL bs H i k = DL at *
             generalize hTT : totL bs H i k = TT at *
             repeat refine zq ?_
             refine zb fun K hK=>?_;simp only [go_sem,g1];refine hK _ ?_;clear hK K;refine zw (zk [1,4,5,8,9,11,12,13,14,15,16,61]) ?_;simp only [go_sem]
             refine zc rfl (fun hc=>?_) (fun hc=>?_) <;> (try simp only [go_sem] at hc)
             refine zx ?_
             try simp only [go_sem]
             refine zq ?_
             refine zd ?_
             refine zq ?_
             refine zb fun K hK=>?_;simp only [go_sem];refine hK _ ?_;clear hK K;refine zw (zk [1,4,5,8,9,11,12,13,14,15,16,17]) ?_;simp only [go_sem]
             repeat refine zq ?_
             refine awp_joinV (n:=141) (fun (_ : Unit) vs=>[(1,.r (trisR H)),(4,.pt 4 (vs 4) 0),(5,.pt 5 (vs 5) 0),(8,.r (ints bs)),(9,.r (.rp [i64 201,bedsR (Th.aimB bs).beds])),(11,.os 311 (vs 311) 2 0 i),(12,.os 312 (vs 312) 2 0 i),(13,.r (i64 (i : Int))),(14,.pt 14 (vs 14) 0),(15,.r (i64 TT)),(16,.r (i64 (k : Int))),(17,.r (i64 0)),(67,.r (.bo (decide (i < H.length))))])
              (fun _ vs=>[(4,.box [.r (i64 0),.r .ns]),(5,.box [.r (i64 0),.r .ns]),(14,.box [.os 314 (vs 314) 1 0 k,.r (i64 0)]),(311,.arr 131 2 KN),(312,.arr 131 2 (TO.map fun n=>[.ns,i64 n])),(314,.arr 60 1 (DL.map fun b=>[i64 b]))]) (fun _=>True) (fun _ h=>h) ?_ ?_
             · skip
               refine zb fun K hK=>?_;simp only [go_sem,List.length_map]
               intro _
               refine hK _ ?_;clear hK K
               try simp only [go_sem]
               refine ⟨(),zj [] ?_ ?_⟩
               · try simp only [go_sem]
               · try simp only [go_sem]
             intro _ vs _
             refine awp_joinV (n:=141) (fun (_ : Unit) vs=>[(1,.r (trisR H)),(4,.pt 4 (vs 4) 0),(5,.pt 5 (vs 5) 0),(8,.r (ints bs)),(9,.r (.rp [i64 201,bedsR (Th.aimB bs).beds])),(11,.os 311 (vs 311) 2 0 i),(12,.os 312 (vs 312) 2 0 i),(13,.r (i64 (i : Int))),(14,.pt 14 (vs 14) 0),(15,.r (i64 TT)),(16,.r (i64 (k : Int))),(17,.r (i64 (N : Int)))])
              (fun _ vs=>[(4,.box [.r (i64 0),.r .ns]),(5,.box [.r (i64 0),.r .ns]),(14,.box [.os 314 (vs 314) 1 0 k,.r (i64 0)]),(311,.arr 131 2 KN),(312,.arr 131 2 (TO.map fun n=>[.ns,i64 n])),(314,.arr 60 1 (DL.map fun b=>[i64 b]))]) (fun _=>True) (fun _ h=>h) ?_ ?_
             · by_cases hq : i < H.length
               · have hd : decide (i < H.length) = true:=decide_eq_true hq
                 obtain ⟨a,ha⟩:=opt_of_lt hq
                 obtain ⟨a3,a8⟩:=hH a (mem_of_opt ha)
                 obtain ⟨y,hy⟩:=opt_of_lt (l:=a) (i:=k) (by omega)
                 have hNy : N = y:=by rw [hN]; unfold hitN; rw [if_pos hq]; simp only [List.getD_eq_getElem?_getD,ha,Option.getD_some,hy]
                 have y8:=a8 y (mem_of_opt hy)
                 have k8 : IntKind.i64.wrap (y : Int) = y:=by rw [zI] <;> omega
                 have hkl3 : k < a.length:=by omega
                 rw [hd,hNy]
                 refine zc rfl (fun hc=>?_) (fun hc=>?_) <;> (try simp only [go_sem] at hc)
                 have hdrp : (List.drop k (a.map u8Q)).headD RV.un = u8Q y:=by
                  rw [show (List.drop k (a.map u8Q)) = u8Q y :: List.drop (k + 1) (a.map u8Q) from drop_of_opt (by rw [List.getElem?_map,hy]; rfl)]; rfl
                 refine zb fun K hK=>?_;simp only [go_sem,ha,hq,hkl3,a3,k8,hdrp,hkn,List.length_map,Nat.mul_one]
                 repeat refine ⟨by omega,?_⟩
                 refine hK _ ?_;clear hK K
                 try simp only [go_sem]
                 refine ⟨(),zj [] ?_ ?_⟩
                 · try simp only [go_sem]
                 · try simp only [go_sem]
               · have hd : decide (i < H.length) = false:=decide_eq_false hq
                 have hNy : N = 0:=by rw [hN]; unfold hitN; rw [if_neg hq]
                 rw [hd,hNy]
                 refine zc rfl (fun hc=>?_) (fun hc=>?_) <;> (try simp only [go_sem] at hc)
                 refine zx ?_
                 try simp only [go_sem]
                 refine ⟨(),zj [] ?_ ?_⟩
                 · try simp only [go_sem]
                   try rfl
                 · try simp only [go_sem]
             intro _ vs _
             have n0 : N < 256:=by
              rw [hN]
              unfold hitN
              split
              · rename_i hq
                obtain ⟨a,ha⟩:=opt_of_lt hq
                obtain ⟨a3,a8⟩:=hH a (mem_of_opt ha)
                obtain ⟨y,hy⟩:=opt_of_lt (l:=a) (i:=k) (by omega)
                simp only [List.getD_eq_getElem?_getD,ha,Option.getD_some,hy];exact a8 y (mem_of_opt hy)
              · omega
             have r1 : Int.tmod (N : Int) (bs.length : Int) = ((N % bs.length : Nat) : Int):=rfl
             have r2 : IntKind.i64.wrap ((N % bs.length : Nat) : Int) = ((N % bs.length : Nat) : Int):=by rw [zI] <;> omega
             have r3 : (bs.length : Int) ≠ 0:=by omega
             generalize hM : N % bs.length = M at *
             refine zq ?_
             refine awp_dreg3 [(14,some 14),(8,none),(17,none)] [14] follows (by decide +kernel) (by kernel_rfl) (by simp only [keysOk,List.mem_cons,List.not_mem_nil,forall_eq_or_imp,Oc.keyOf,go_sem]; simp) (by intro k hk; simp only [List.mem_cons,List.not_mem_nil,or_false] at hk; first | (subst hk; exact ⟨_,rfl⟩) | (rcases hk with rfl | rfl <;> exact ⟨_,rfl⟩) | (rcases hk with rfl | rfl | rfl <;> exact ⟨_,rfl⟩)) fun K hK=>?_
             simp only [go_sem,hb,hmN,hM,r1,r2,r3,hdk,List.length_map];repeat first | intro _ | refine ⟨by omega,?_⟩
             refine hK _ ?_;clear hK K;refine zw (zk [1,4,5,8,9,11,12,13,14,15,16]) ?_;simp only [go_sem]
             have hwo:=worth_ok b hbq
             have hlk : k < (DL.map (fun b=>[i64 b]) ++ [[RV.it IntKind.i64 b]]).length:=by simp; omega
             have hgk : (DL.map (fun b=>[i64 b]) ++ [[RV.it IntKind.i64 b]]).getD k [] = [i64 b]:=by
              rw [List.getD_eq_getElem?_getD,List.getElem?_append_right (by simp; omega),List.length_map,hdk,Nat.sub_self]; rfl
             have hok : (DL.map (fun b=>[i64 b]) ++ [[RV.it IntKind.i64 b]])[k]? = some [i64 b]:=by
              rw [List.getElem?_append_right (by simp; omega),List.length_map,hdk,Nat.sub_self]; rfl
             have hw18 : IntKind.i64.wrap (TT + scoreOf b) = TT + scoreOf b:=by rw [zI] <;> omega
             refine zb fun K hK=>?_;simp only [go_sem,hgk,hok,hlk,hdk]
             refine ⟨by omega,?_⟩
             refine zh (hwo) rfl (by simp only [go_sem,i64,ints,hw18]) (by simp only [go_sem,i64,ints,hw18]) (by first | exact .inl rfl | exact .inr rfl) ?_
             (try simp only [go_sem,hw18]);refine hK _ ?_;clear hK K;refine zw (zk [1,4,5,8,9,11,12,13,14,15,16]) ?_;simp only [go_sem];refine zb fun K hK=>?_;simp only [go_sem];(try simp (disch:=omega) only [zI]);refine hK _ ?_;clear hK K
             try simp only [go_sem]
             refine ⟨by omega,zj [] ?_ ?_⟩
             · try simp only [go_sem]
             · try simp only [go_sem]
               try simp
           · have hke : k = 3:=by omega
             subst hke
             repeat refine zq ?_
             refine zb fun K hK=>?_;simp only [go_sem];refine hK _ ?_;clear hK K;refine zw (zk [1,4,5,8,9,11,12,13,14,15,61]) ?_;simp only [go_sem]
             refine zc rfl (fun hc=>?_) (fun hc=>?_) <;> (try simp only [go_sem] at hc)
             refine zf ?_;simp only [go_sem]
             have hd3:=hdl 3
             generalize hDL : dartsL bs H i 3 = DL at *
             generalize hTT : totL bs H i 3 = TT at *
             refine zw (sub_frzB 14 0 314 (ty:=60) (sz:=1) (off:=0) (m:=3) (es:=DL.map fun b=>[i64 b]) (by omega) (by omega) rfl (by simp only [go_sem,List.getElem?_cons_succ,List.getElem?_cons_zero]) (by rfl) (by simp [hd3])) ?_
             have tk1 : List.take 3 (DL.map fun b=>[i64 b]) = DL.map fun b=>[i64 b]:=List.take_of_length_le (by simp [hd3])
             simp only [go_sem,List.drop_zero,tk1,List.set_cons_succ,List.set_cons_zero];refine zw (sub_frzP 14 14 [ints DL,i64 0] (by omega) rfl rfl) ?_;refine zw (zk [1,4,5,8,9,11,12,13,14,15]) ?_;simp only [go_sem];refine zb fun K hK=>?_;simp only [go_sem,hkl,htl,List.length_map]
             repeat refine ⟨by omega,?_⟩
             refine hK _ ?_;clear hK K;refine zw (zk [1,4,5,8,9,11,12,13]) ?_;simp only [go_sem];refine zb fun K hK=>?_;simp only [go_sem];(try simp (disch:=omega) only [zI]);refine hK _ ?_;clear hK K
             try simp only [go_sem]
             refine ⟨by omega,zj [] ?_ ?_⟩
             · try simp only [go_sem]
             · try simp only [go_sem]
               try simp
       · have hie : i = visN H:=by omega
         subst hie
         have q0 : (((visN H : Nat) : Int) == 0) = false:=by rw [beq_eq_false_iff_ne]; omega
         have q0' : (visN H == 0) = false:=by rw [beq_eq_false_iff_ne]; omega
         have hkl:=kn_len bs H (visN H)
         have htl:=to_len bs H (visN H)
         generalize hVN : visN H = V at *
         generalize hKN : knL bs H V = KN at *
         generalize hTO : toL bs H V = TO at *
         repeat refine zq ?_
         refine awp_joinV (n:=141) (fun (_ : Unit) vs=>[(4,.pt 4 (vs 4) 0),(5,.pt 5 (vs 5) 0),(9,.r (.rp [i64 201,bedsR (Th.aimB bs).beds])),(11,.os 311 (vs 311) 2 0 V),(12,.os 312 (vs 312) 2 0 V),(56,.r (.bo false))])
          (fun _ vs=>[(4,.box [.r (i64 0),.r .ns]),(5,.box [.r (i64 0),.r .ns]),(311,.arr 131 2 KN),(312,.arr 131 2 (TO.map fun n=>[.ns,i64 n]))]) (fun _=>True) (fun _ h=>h) ?_ ?_
         · by_cases hq : V < H.length
           · have hq2 : decide ((V : Int) < 20) = false:=decide_eq_false (by unfold visN at hVN; omega)
             refine zb fun K hK=>?_;simp only [go_sem,q0,q0',hq,hq2,List.length_map]
             intro _
             refine hK _ ?_;clear hK K
             try simp only [go_sem]
             refine ⟨(),zj [] ?_ ?_⟩
             · try simp only [go_sem]
             · try simp only [go_sem]
           · skip
             refine zb fun K hK=>?_;simp only [go_sem,q0,q0',hq,List.length_map]
             intro _
             refine hK _ ?_;clear hK K
             try simp only [go_sem]
             refine ⟨(),zj [] ?_ ?_⟩
             · try simp only [go_sem]
             · try simp only [go_sem]
         intro _ vs _
         refine zc rfl (fun hc=>?_) (fun hc=>?_) <;> (try simp only [go_sem] at hc)
         refine zf ?_;simp only [go_sem];refine zw (sub_frz (ty:=131) (sz:=2) (off:=0) (m:=V) (es:=KN) 11 311 (by omega) rfl (by rfl) (by simp [hkl])) ?_;refine zw (sub_frz (ty:=131) (sz:=2) (off:=0) (m:=V) (es:=TO.map fun n=>[.ns,i64 n]) 12 312 (by omega) rfl (by rfl) (by simp [htl])) ?_
         have tkk : List.take V KN = KN:=List.take_of_length_le (by omega)
         have tkt : List.take V (TO.map fun n=>[RV.ns,i64 n]) = TO.map fun n=>[.ns,i64 n]:=List.take_of_length_le (by simp [htl])
         simp only [go_sem,List.drop_zero,tkk,tkt]
         have hwm : IntKind.i64.wrap (3 * (V : Int)) = 3 * (V : Int):=by rw [zI] <;> omega
         refine zq ?_
         refine zb fun K hK=>?_;simp only [go_sem]
         have hat : (Th.aimB bs).at_ = 201:=rfl
         refine zh (hkn) rfl (by simp only [go_sem,i64,ints,aimV,hat]) (by simp only [go_sem,i64,ints,aimV,hat]) (by first | exact .inl rfl | exact .inr rfl) ?_
         (try simp only [go_sem,aimV,hat]);refine hK _ ?_;clear hK K;refine zw (zk [4,5,9,11,12,18,20]) ?_;simp only [go_sem]
         refine zq ?_
         refine zb fun K hK=>?_;simp only [go_sem]
         refine zh (hto) rfl (by simp only [go_sem,i64,ints,aimV,hat,totR]) (by simp only [go_sem,i64,ints,aimV,hat,totR]) (by first | exact .inl rfl | exact .inr rfl) ?_
         (try simp only [go_sem,aimV,hat,totR]);refine hK _ ?_;clear hK K;refine zw (zk [4,5,11,18,20,21,23]) ?_;simp only [go_sem]
         refine zq ?_
         refine awp_dreg2 [(4,some 4),(5,some 5)] follows (by decide +kernel) (by kernel_rfl) (by simp only [keysOk,List.mem_cons,List.not_mem_nil,forall_eq_or_imp,Oc.keyOf,go_sem]; simp) fun K hK=>?_
         simp only [go_sem,hkl,hwm,beq_self_eq_true,List.length_map]
         intro _
         refine hK _ ?_;clear hK K;refine zw (zk [4,5,6,7]) ?_;simp only [go_sem];refine ze ?_;simp only [go_sem]
         try rfl
def cmpI (x y : Int) : Int:=if x < y then -1 else if y < x then 1 else 0
theorem nan_ok (n : Int) : ACalls Try.prog 103 [i64 n] (.bo false):=by
 refine acalls_st (rs:=[.bo false]) [.tmp 2] Try.func103 rfl (by kernel_rfl) Try.ntmps103 rfl (by simp) rfl fun C vs=>?_
 refine zq ?_
 refine zb fun K hK=>?_;simp only [go_sem];refine hK _ ?_;clear hK K
 refine zq ?_
 refine zb fun K hK=>?_;simp only [go_sem];refine hK _ ?_;clear hK K;refine ze ?_;simp only [go_sem]
 simp
theorem compare_ok (x y : Int) : ACalls Try.prog 74 [i64 x,i64 y] (i64 (cmpI x y)):=by
 refine acalls_st (rs:=[i64 (cmpI x y)]) [.tmp 4] Try.func74 rfl (by kernel_rfl) Try.ntmps74 rfl (by simp) rfl fun C vs=>?_
 refine zq ?_
 refine zb fun K hK=>?_;simp only [go_sem];refine hK _ ?_;clear hK K
 refine zq ?_
 refine zb fun K hK=>?_;simp only [go_sem]
 refine zh (nan_ok x) rfl (by simp only [go_sem,i64,ints]) (by simp only [go_sem,i64,ints]) (by first | exact .inl rfl | exact .inr rfl) ?_
 (try simp only [go_sem]);refine hK _ ?_;clear hK K
 refine zq ?_
 refine zb fun K hK=>?_;simp only [go_sem]
 refine zh (nan_ok y) rfl (by simp only [go_sem,i64,ints]) (by simp only [go_sem,i64,ints]) (by first | exact .inl rfl | exact .inr rfl) ?_
 (try simp only [go_sem]);refine hK _ ?_;clear hK K
 repeat refine zq ?_
 refine zb fun K hK=>?_;simp only [go_sem];refine hK _ ?_;clear hK K
 refine zc rfl (fun hc=>?_) (fun hc=>?_) <;> (try simp only [go_sem] at hc)
 refine zx ?_
 try simp only [go_sem]
 repeat refine zq ?_
 refine zb fun K hK=>?_;simp only [go_sem];refine hK _ ?_;clear hK K
 refine zc rfl (fun hc=>?_) (fun hc=>?_) <;> (try simp only [go_sem] at hc)
 refine zx ?_
 try simp only [go_sem]
 repeat refine zq ?_
 refine zb fun K hK=>?_;simp only [go_sem];refine hK _ ?_;clear hK K
 refine zc rfl (fun hc=>?_) (fun hc=>?_) <;> (try simp only [go_sem] at hc)
 · refine zq ?_
   refine zb fun K hK=>?_;simp only [go_sem];refine hK _ ?_;clear hK K;refine ze ?_;simp only [go_sem]
   simp [cmpI,hc]
 refine zx ?_
 try simp only [go_sem]
 repeat refine zq ?_
 refine zb fun K hK=>?_;simp only [go_sem];refine hK _ ?_;clear hK K
 have h1:=hc
 refine zc rfl (fun hc=>?_) (fun hc=>?_) <;> (try simp only [go_sem] at hc)
 · refine zq ?_
   refine zb fun K hK=>?_;simp only [go_sem];refine hK _ ?_;clear hK K;refine ze ?_;simp only [go_sem]
   have : ¬ x < y:=by omega
   simp [cmpI,hc,this]
 refine zx ?_
 try simp only [go_sem]
 refine zq ?_
 refine zb fun K hK=>?_;simp only [go_sem];refine hK _ ?_;clear hK K;refine ze ?_;simp only [go_sem]
 have h2 : ¬ x < y:=by omega
 have h3 : ¬ y < x:=by omega
 simp [cmpI,h2,h3]
def insB (lt : Nat → Nat → Bool) (x : Nat) : List Nat → List Nat
 | []=>[x]
 | y :: ys=>if lt x y then y :: insB lt x ys else x :: y :: ys
def sortB (lt : Nat → Nat → Bool) : List Nat → List Nat → List Nat
 | [],R=>R
 | x :: xs,R=>sortB lt xs (insB lt x R)
def sortN (lt : Nat → Nat → Bool) (l : List Nat) : List Nat:=(sortB lt l []).reverse
theorem insB_len (lt : Nat → Nat → Bool) (x : Nat) : ∀ R,(insB lt x R).length = R.length + 1
 | []=>rfl
 | y :: R => by
   unfold insB
   split
   · simp [insB_len lt x R]
   · rfl
theorem insB_skip (lt : Nat → Nat → Bool) (x : Nat) : ∀ (R : List Nat) (k : Nat),(∀ y ∈ R.take k,lt x y = true) → insB lt x R = R.take k ++ insB lt x (R.drop k)
 | R,0,_=>by simp
 | [],k + 1,_=>by simp
 | y :: R, k + 1, h => by
   have hy : lt x y = true:=h y (by simp)
   have ih:=insB_skip lt x R k fun z hz=>h z (by simp [hz])
   simp only [List.take_succ_cons,List.drop_succ_cons,List.cons_append];rw [← ih]
   simp [insB,hy]
theorem sortB_snoc (lt : Nat → Nat → Bool) : ∀ (l : List Nat) (x : Nat) (R : List Nat),sortB lt (l ++ [x]) R = insB lt x (sortB lt l R)
 | [],_,_=>rfl
 | y :: l,x,R=>by simp only [List.cons_append,sortB]; exact sortB_snoc lt l x _
theorem sortB_len (lt : Nat → Nat → Bool) : ∀ (l R : List Nat),(sortB lt l R).length = l.length + R.length
 | [],R=>by simp [sortB]
 | x :: l,R=>by simp only [sortB]; rw [sortB_len lt l,insB_len]; simp; omega
theorem mem_insB (lt : Nat → Nat → Bool) (x z : Nat) : ∀ R,z ∈ insB lt x R ↔ z = x ∨ z ∈ R
 | []=>by simp [insB]
 | y :: R => by
   unfold insB
   split
   · simp only [List.mem_cons,mem_insB lt x z R]
     constructor
     · rintro (h | h | h) <;> simp [h]
     · rintro (h | h | h) <;> simp [h]
   · simp
theorem mem_sortB (lt : Nat → Nat → Bool) (z : Nat) : ∀ l R,z ∈ sortB lt l R ↔ z ∈ l ∨ z ∈ R
 | [],R=>by simp [sortB]
 | x :: l, R => by
   simp only [sortB];rw [mem_sortB lt z l,mem_insB]
   simp only [List.mem_cons]
   constructor
   · rintro (h | h | h) <;> simp [h]
   · rintro ((h | h) | h) <;> simp [h]
def holeL (R : List Nat) (x k : Nat) (rest : List Nat) : List Nat:=(R.drop k).reverse ++ x :: ((R.take k).reverse ++ rest)
theorem hole_len (R : List Nat) (x k : Nat) (rest : List Nat) (hk : k ≤ R.length) : (holeL R x k rest).length = R.length + 1 + rest.length:=by
 simp [holeL]; omega
theorem hole_at (R : List Nat) (x k : Nat) (rest : List Nat) (hk : k ≤ R.length) : (holeL R x k rest)[R.length - k]? = some x:=by
 unfold holeL
 rw [List.getElem?_append_right (by simp)]
 simp
theorem hole_next {R : List Nat} {x k y : Nat} {rest : List Nat} (hy : R[k]? = some y) : (holeL R x k rest)[R.length - k - 1]? = some y ∧ (holeL R x k rest) = (R.drop (k + 1)).reverse ++ y :: x :: ((R.take k).reverse ++ rest) ∧ holeL R x (k + 1) rest = (R.drop (k + 1)).reverse ++ x :: y :: ((R.take k).reverse ++ rest):=by
 have hk:=(List.getElem?_eq_some_iff.1 hy).1
 have hd:=drop_of_opt hy
 have ht:=take_of_opt hy
 have e1 : (holeL R x k rest) = (R.drop (k + 1)).reverse ++ y :: x :: ((R.take k).reverse ++ rest):=by
  unfold holeL; rw [hd]; simp
 refine ⟨?_,e1,by unfold holeL; rw [ht]; simp⟩
 rw [e1,List.getElem?_append_right (by simp; omega)]
 have : R.length - k - 1 - (R.drop (k + 1)).reverse.length = 0:=by simp; omega
 rw [this]; rfl
theorem hole_swap {α : Type} (g : Nat → α) {R : List Nat} {x k y : Nat} {rest : List Nat} (hy : R[k]? = some y) :
 (((holeL R x k rest).map g).set (R.length - k) (g y)).set (R.length - k - 1) (g x) = (holeL R x (k + 1) rest).map g:=by
 obtain ⟨_,e1,e2⟩:=hole_next (x:=x) (rest:=rest) hy
 have hk:=(List.getElem?_eq_some_iff.1 hy).1
 rw [e1,e2,← List.map_set,← List.map_set]
 congr 1
 have hl : (R.drop (k + 1)).reverse.length = R.length - k - 1:=by simp; omega
 generalize (R.drop (k + 1)).reverse = A at hl
 generalize (R.take k).reverse ++ rest = B
 have e3 : R.length - k = A.length + 1:=by omega
 rw [e3,Nat.add_sub_cancel]
 rw [List.set_append_right _ _ (by omega)]
 simp only [Nat.add_sub_cancel_left,List.set_cons_succ,List.set_cons_zero];rw [List.set_append_right _ _ (by omega)]
 simp
theorem lent_put {vs : Nat → Nat} {k : Nat} (h : Lent vs) : Lent (upd vs k 0):=fun j hj=>by
 unfold upd; split
 · rfl
 · exact h j hj
abbrev idx (l : List Nat) : List (List RV):=l.map fun (x : Nat)=>[i64 (x : Int)]
end Go.Proofs.Ytgfbenanljjgaaa.Du.Th

namespace Go.Proofs.Ytgfbenanljjgaaa.Du.Th.Ai
open Go Go.Oc
set_option linter.unusedSimpArgs false
set_option linter.unusedVariables false
set_option maxRecDepth 8000
abbrev arrV (l : List Int) : List (List RV):=l.map fun n=>[i64 n]
abbrev fnS (s : Bool) : AV:=.fn 166 [.r (.rp [.bo s]),.pt 1001 0 0]
abbrev rowsV (l : List Nat) (vals : List Int) : List (Nat × RowC):=[(1000,.arr 3 1 (idx l)),(1001,.box [.os 1002 0 1 0 vals.length]),(1002,.arr 3 1 (arrV vals))]
theorem insertionV_ok (lt : Nat → Nat → Bool) (c : Nat → Nat → Int) (s : Bool) (vals : List Int) (l : List Nat) (hl : l.length ≤ 1000) (hlt : ∀ x y,lt x y = decide (c x y < 0))
 (hcc : ∀ x ∈ l,∀ y ∈ l,ACalls Try.prog 166 [i64 (x : Int),i64 (y : Int),.rp [.bo s],.rp [ints vals]] (i64 (c x y))) :
 MCalls Try.prog 172 (rowsV l vals) (rowsV (sortN lt l) vals) [.os 1000 0 1 0 l.length,.r (i64 0),.r (i64 l.length),fnS s] (.tu []):=by
 refine mcalls_st (n:=53) (rs:=[]) _ _ [] Try.func172 rfl (by kernel_rfl) Try.ntmps172 rfl (by simp) rfl rfl fun C=>?_
 have hmem : ∀ i z,z ∈ sortB lt (l.take i) [] → z ∈ l:=fun i z hz=>by
  rw [mem_sortB] at hz
  rcases hz with hz | hz
  · exact List.mem_of_mem_take hz
  · cases hz
 refine zq ?_
 refine zb fun K hK=>?_;simp only [go_sem];(try simp (disch:=omega) only [zI]);refine hK _ ?_;clear hK K;refine zw (zk [0,1,2,3,8]) ?_;simp only [go_sem];refine zd ?_
 refine awp_upto0 (n:=53) (max l.length 1) (fun i vs=>[(0,.os 1000 0 1 0 l.length),(1,.r (i64 0)),(2,.r (i64 l.length)),(3,fnS s),(8,.r (i64 i))])
  (fun i=>[(1000,.arr 3 1 (idx ((sortB lt (l.take i) []).reverse ++ l.drop i))),(1001,.box [.os 1002 0 1 0 vals.length]),(1002,.arr 3 1 (arrV vals))]) (fun i=>1 ≤ i) 1 (fit0_of [] lent_zero ?_ ?_) (by omega) (Nat.le_refl _) ?_
 · try simp only [go_sem]
 · simp only [go_sem]
   cases l with
   | nil=>rfl
   | cons x l=>simp [sortB,insB]
 · intro i vs hv hi hi1
   have hv0:=hv 1000 (by omega)
   have hv1:=hv 1001 (by omega)
   have hv2:=hv 1002 (by omega)
   repeat refine zq ?_
   refine zb fun K hK=>?_;simp only [go_sem];refine hK _ ?_;clear hK K;refine zw (zk [0,1,2,3,8,14]) ?_;simp only [go_sem]
   refine zc rfl (fun hc=>?_) (fun hc=>?_) <;> (try simp only [go_sem] at hc)
   · have hci : i < l.length:=by omega
     obtain ⟨x,hx⟩:=opt_of_lt hci
     obtain ⟨R,hR⟩ : ∃ R,R = sortB lt (l.take i) []:=⟨_,rfl⟩
     have hRl : R.length = i:=by rw [hR,sortB_len]; simp; omega
     have hRm : ∀ z ∈ R,z ∈ l:=fun z hz=>hmem i z (hR ▸ hz)
     have hnx : sortB lt (l.take (i + 1)) [] = insB lt x R:=by rw [take_of_opt hx,sortB_snoc,hR]
     have hst : (sortB lt (l.take i) []).reverse ++ l.drop i = holeL R x 0 (l.drop (i + 1)):=by rw [← hR,drop_of_opt hx]; simp [holeL]
     rw [hst]
     refine zx ?_
     refine zq ?_
     refine zd ?_
     refine zq ?_
     refine zb fun K hK=>?_;simp only [go_sem];refine hK _ ?_;clear hK K;refine zw (zk [0,1,2,3,8,9]) ?_;simp only [go_sem];refine zd ?_
     refine awp_upto0 (n:=53) i (fun k vs=>[(0,.os 1000 0 1 0 l.length),(1,.r (i64 0)),(2,.r (i64 l.length)),(3,fnS s),(8,.r (i64 i)),(9,.r (i64 (i - k : Nat)))])
      (fun k=>[(1000,.arr 3 1 (idx (holeL R x k (l.drop (i + 1))))),(1001,.box [.os 1002 0 1 0 vals.length]),(1002,.arr 3 1 (arrV vals))]) (fun k=>∀ y ∈ R.take k,lt x y = true) 0 (fit0_of [] hv ?_ ?_) (Nat.zero_le _) (by simp) ?_
     · try simp only [go_sem]
     · try simp only [go_sem]
     · intro k vs hv hk hI
       have hv0:=hv 1000 (by omega)
       have hv1:=hv 1001 (by omega)
       have hv2:=hv 1002 (by omega)
       have hins:=insB_skip lt x R k hI
       have done : insB lt x (R.drop k) = x :: R.drop k → sortB lt (l.take (i + 1)) [] = R.take k ++ x :: R.drop k:=fun h=>by rw [hnx,hins,h]
       by_cases hk0 : k = i
       · have e0 : i - k = 0:=by omega
         repeat refine zq ?_
         refine awp_dreg2 [(0,some 1000)] follows (by decide +kernel) (by kernel_rfl) (by simp only [keysOk,List.mem_cons,List.not_mem_nil,forall_eq_or_imp,Oc.keyOf,go_sem]; simp) fun K hK=>?_
         simp only [go_sem,hv0,hv1,hv2,e0];refine hK _ ?_;clear hK K;refine zw (zk [0,1,2,3,8,9,34]) ?_;simp only [go_sem]
         refine zc rfl (fun hc=>?_) (fun hc=>?_) <;> (try simp only [go_sem] at hc)
         refine zf ?_;simp only [go_sem];refine zb fun K hK=>?_;simp only [go_sem];(try simp (disch:=omega) only [zI]);refine hK _ ?_;clear hK K
         try simp only [go_sem]
         refine ⟨by omega,fit0_of [] hv ?_ ?_⟩
         · try simp only [go_sem]
         · have hd0 : R.drop k = []:=List.drop_eq_nil_of_le (by omega)
           have:=done (by rw [hd0]; rfl)
           simp only [go_sem,this]
           simp [holeL]
       · obtain ⟨y,hy⟩:=opt_of_lt (l:=R) (i:=k) (by omega)
         obtain ⟨j,hj⟩ : ∃ j,i - k = j + 1:=⟨i - k - 1,by omega⟩
         have hjs : IntKind.i64.wrap ((j : Int) + 1 - 1) = j:=by rw [zI] <;> omega
         have hlen : (holeL R x k (l.drop (i + 1))).length = l.length:=by rw [hole_len _ _ _ _ (by omega),List.length_drop]; omega
         have hxa : (holeL R x k (l.drop (i + 1)))[j + 1]? = some x:=by rw [← hj,← hRl]; exact hole_at R x k _ (by omega)
         have hya : (holeL R x k (l.drop (i + 1)))[j]? = some y:=by
          have:=(hole_next (x:=x) (rest:=l.drop (i + 1)) hy).1
          rw [hRl,hj] at this
          exact this
         have hcall:=hcc x (mem_of_opt hx) y (hRm y (mem_of_opt hy))
         have hpos : (0 < (j : Int) + 1) = True:=by simp
         have hlxy:=hlt x y
         repeat refine zq ?_
         refine awp_dreg2 [(0,some 1000)] follows (by decide +kernel) (by kernel_rfl) (by simp only [keysOk,List.mem_cons,List.not_mem_nil,forall_eq_or_imp,Oc.keyOf,go_sem]; simp) fun K hK=>?_
         simp only [go_sem,hv0,hv1,hv2,hj,hjs,hxa,hya,hlen,hpos]
         refine ⟨by omega,by omega,?_⟩
         refine zh (hcall) rfl (by simp only [go_sem,i64,ints,hv0,hv1,hv2,fnS]) (by simp only [go_sem,i64,ints,hv0,hv1,hv2,fnS]) (by first | exact .inl rfl | exact .inr rfl) ?_
         (try simp only [go_sem,hv0,hv1,hv2,fnS]);refine hK _ ?_;clear hK K;refine zw (zk [0,1,2,3,8,9,34]) ?_;simp only [go_sem]
         cases hcx : decide (c x y < 0)
         · skip
           refine zc rfl (fun hc=>?_) (fun hc=>?_) <;> (try simp only [go_sem] at hc)
           refine zf ?_;simp only [go_sem];refine zb fun K hK=>?_;simp only [go_sem];(try simp (disch:=omega) only [zI]);refine hK _ ?_;clear hK K
           try simp only [go_sem]
           refine ⟨by omega,fit0_of [] hv ?_ ?_⟩
           · try simp only [go_sem]
           · have:=done (by rw [drop_of_opt hy]; simp [insB,hlxy,hcx])
             simp only [go_sem,this]
             simp [holeL]
         · skip
           refine zc rfl (fun hc=>?_) (fun hc=>?_) <;> (try simp only [go_sem] at hc)
           refine zx ?_
           try simp only [go_sem]
           refine zq ?_
           refine zd ?_
           have hset : ((idx (holeL R x k (l.drop (i + 1)))).set (j + 1) [i64 (y : Int)]).getD j [] = [i64 (y : Int)]:=by
            rw [List.getD_eq_getElem?_getD,List.getElem?_set_ne (by omega),List.getElem?_map,hya]; rfl
           have hsw:=hole_swap (fun (x : Nat)=>[i64 (x : Int)]) (x:=x) (rest:=l.drop (i + 1)) hy
           rw [hRl,hj] at hsw
           simp only [Nat.add_sub_cancel] at hsw
           refine awp_dreg2 [(0,some 1000)] follows (by decide +kernel) (by kernel_rfl) (by simp only [keysOk,List.mem_cons,List.not_mem_nil,forall_eq_or_imp,Oc.keyOf,go_sem]; simp) fun K hK=>?_
           simp only [go_sem,hv0,hv1,hv2,hj,hjs,hxa,hya,hlen,hset,List.length_set]
           repeat' first | intro _ | refine And.intro ?_ ?_
           all_goals first | omega | skip
           all_goals (refine hK _ ?_; clear hK K)
           refine zw (zk [0,1,2,3,8,9]) ?_;simp only [go_sem];refine zb fun K hK=>?_;simp only [go_sem,hjs];refine hK _ ?_;clear hK K
           try simp only [go_sem]
           have hj2 : i - (k + 1) = j:=by omega
           refine ⟨by omega,?_,fit0_of [] (lent_put (lent_put hv)) ?_ ?_⟩
           · rw [take_of_opt hy]
             intro z hz
             rcases List.mem_append.1 hz with hz | hz
             · exact hI z hz
             · simp only [List.mem_singleton] at hz
               subst hz
               rw [hlxy,hcx]
           · simp only [go_sem,hj2]
           · simp only [go_sem];exact congrArg (fun z=>[(1000,RowC.arr 3 1 z),(1001,RowC.box [.os 1002 0 1 0 vals.length]),(1002,RowC.arr 3 1 (arrV vals))]) hsw
   · refine zf ?_;simp only [go_sem]
     have h1 : l.take i = l:=List.take_of_length_le (by omega)
     have h2 : l.drop i = []:=List.drop_eq_nil_of_le (by omega)
     rw [h1,h2,List.append_nil]
     rfl
set_option maxHeartbeats 4000000
theorem ascore_ok (b : Int) (hb : 0 ≤ b ∧ b ≤ 499) : ACalls Try.prog 162 [i64 b] (i64 (scoreOf b)):=by
 have e1 : Int.tdiv b 100 = b / 100:=Int.tdiv_eq_ediv_of_nonneg hb.1
 have e2 : Int.tmod b 100 = b % 100:=Int.tmod_eq_emod_of_nonneg hb.1
 have h1 : 0 ≤ b / 100 ∧ b / 100 ≤ 4:=by omega
 have h2 : 0 ≤ b % 100 ∧ b % 100 ≤ 99:=by omega
 have h3:=Int.mul_nonneg h1.1 h2.1
 have h4:=Int.mul_le_mul h1.2 h2.2 h2.1 (show (0 : Int) ≤ 4 by omega)
 have w1 : IntKind.i64.wrap (b / 100) = b / 100:=by rw [zI] <;> omega
 have w2 : IntKind.i64.wrap (b % 100) = b % 100:=by rw [zI] <;> omega
 have w3 : IntKind.i64.wrap (b / 100 * (b % 100)) = b / 100 * (b % 100):=by rw [zI] <;> omega
 have hs : scoreOf b = b / 100 * (b % 100):=rfl
 rw [hs]
 refine acalls_st (rs:=[i64 (b / 100 * (b % 100))]) [.tmp 2] Try.func162 rfl (by kernel_rfl) Try.ntmps162 rfl (by simp) rfl fun C vs=>?_
 refine zq ?_
 refine zb fun K hK=>?_;simp only [go_sem];refine hK _ ?_;clear hK K;refine zw (zk [0]) ?_;simp only [go_sem]
 refine zq ?_
 refine zb fun K hK=>?_;simp only [go_sem,e1,e2,w1,w2,w3];refine hK _ ?_;clear hK K;refine zw (zk [2]) ?_;simp only [go_sem];refine ze ?_;simp only [go_sem]
def opA (g b : Int) : Bool:=if g = 1 then decide (b / 100 = 2) else if g = 2 then decide (2 ≤ b / 100) else decide (b ≠ 0)
theorem aopens_ok (b g : Int) (hb : 0 ≤ b ∧ b ≤ 499) : ACalls Try.prog 163 [i64 b,i64 g] (.bo (opA g b)):=by
 have e1 : Int.tdiv b 100 = b / 100:=Int.tdiv_eq_ediv_of_nonneg hb.1
 have w1 : IntKind.i64.wrap (b / 100) = b / 100:=by rw [zI] <;> omega
 refine acalls_st (rs:=[.bo (opA g b)]) [.tmp 4] Try.func163 rfl (by kernel_rfl) Try.ntmps163 rfl (by simp) rfl fun C vs=>?_
 refine zq ?_
 refine zb fun K hK=>?_;simp only [go_sem];refine hK _ ?_;clear hK K;refine zw (zk [0,1]) ?_;simp only [go_sem]
 refine zq ?_
 refine zb fun K hK=>?_;simp only [go_sem,e1,w1];refine hK _ ?_;clear hK K;refine zw (zk [0,1,5]) ?_;simp only [go_sem]
 repeat refine zq ?_
 refine zb fun K hK=>?_;simp only [go_sem];refine hK _ ?_;clear hK K;refine zw (zk [0,5,8]) ?_;simp only [go_sem];refine zd ?_
 refine zq ?_
 refine zb fun K hK=>?_;simp only [go_sem];refine hK _ ?_;clear hK K;refine zw (zk [0,5,8,9]) ?_;simp only [go_sem]
 by_cases h1 : g = 1
 · subst h1
   refine zc rfl (fun hc=>?_) (fun hc=>?_) <;> (try simp only [go_sem] at hc)
   refine zq ?_
   refine zb fun K hK=>?_;simp only [go_sem];refine hK _ ?_;clear hK K;refine zw (zk [4]) ?_;simp only [go_sem];refine ze ?_;simp only [go_sem];rw [Bool.eq_iff_iff]
   simp [opA]
 · have e1 : (g == 1) = false:=by simpa using h1
   rw [e1]
   refine zc rfl (fun hc=>?_) (fun hc=>?_) <;> (try simp only [go_sem] at hc)
   refine zq ?_
   refine zb fun K hK=>?_;simp only [go_sem];refine hK _ ?_;clear hK K;refine zw (zk [0,5,13]) ?_;simp only [go_sem]
   by_cases h2 : g = 2
   · subst h2
     refine zc rfl (fun hc=>?_) (fun hc=>?_) <;> (try simp only [go_sem] at hc)
     refine zq ?_
     refine zb fun K hK=>?_;simp only [go_sem];refine hK _ ?_;clear hK K;refine zw (zk [4]) ?_;simp only [go_sem];refine ze ?_;simp only [go_sem]
     simp [opA]
   · have e2 : (g == 2) = false:=by simpa using h2
     rw [e2]
     refine zc rfl (fun hc=>?_) (fun hc=>?_) <;> (try simp only [go_sem] at hc)
     refine zx ?_
     try simp only [go_sem]
     refine zq ?_
     refine zb fun K hK=>?_;simp only [go_sem];refine hK _ ?_;clear hK K;refine zw (zk [4]) ?_;simp only [go_sem];refine ze ?_;simp only [go_sem];rw [Bool.eq_iff_iff]
     simp [opA,h1,h2]
def lowG (g : Int) : Int:=if g = 0 then 1 else 2
theorem alow_ok (g : Int) : ACalls Try.prog 66 [i64 g] (i64 (lowG g)):=by
 refine acalls_st (rs:=[i64 (lowG g)]) [.tmp 2] Try.func66 rfl (by kernel_rfl) Try.ntmps66 rfl (by simp) rfl fun C vs=>?_
 refine zq ?_
 refine zb fun K hK=>?_;simp only [go_sem];refine hK _ ?_;clear hK K;refine zw (zk [0]) ?_;simp only [go_sem]
 repeat refine zq ?_
 refine zb fun K hK=>?_;simp only [go_sem];refine hK _ ?_;clear hK K;refine zw (zk [4]) ?_;simp only [go_sem]
 by_cases h : g = 0
 · subst h
   refine zc rfl (fun hc=>?_) (fun hc=>?_) <;> (try simp only [go_sem] at hc)
   refine zq ?_
   refine zb fun K hK=>?_;simp only [go_sem];refine hK _ ?_;clear hK K;refine ze ?_;simp only [go_sem]
   rfl
 · have e : (g == 0) = false:=by simpa using h
   rw [e]
   refine zc rfl (fun hc=>?_) (fun hc=>?_) <;> (try simp only [go_sem] at hc)
   refine zx ?_
   try simp only [go_sem]
   refine zq ?_
   refine zb fun K hK=>?_;simp only [go_sem];refine hK _ ?_;clear hK K;refine ze ?_;simp only [go_sem]
   simp [lowG,h]
theorem awithin1_ok (n a b : Int) : ACalls Try.prog 91 [i64 n,.rp [i64 a],.rp [i64 b]] (.bo (decide (n < a) || decide (b < n))):=by
 refine acalls_st (rs:=[.bo (decide (n < a) || decide (b < n))]) [.tmp 4] Try.func91 rfl (by kernel_rfl) Try.ntmps91 rfl (by simp) rfl fun C vs=>?_
 refine zq ?_
 refine zb fun K hK=>?_;simp only [go_sem];refine hK _ ?_;clear hK K
 refine zq ?_
 refine zb fun K hK=>?_;simp only [go_sem]
 refine ⟨fun h=>?_,fun h=>?_⟩ <;>
 · skip
   refine hK _ ?_;clear hK K;refine ze ?_;simp only [go_sem]
   try simp [h]
theorem awithin_ok (a b : Int) (l : List Int) : ACalls Try.prog 55 [i64 a,i64 b,ints l] (.bo (withinL a b l)):=by
 refine acalls_st (rs:=[.bo (withinL a b l)]) [.tmp 6] Try.func55 rfl (by kernel_rfl) Try.ntmps55 rfl (by simp) rfl fun C vs=>?_
 refine zq ?_
 refine zb fun K hK=>?_;simp only [go_sem];refine hK _ ?_;clear hK K
 refine zq ?_
 refine zb fun K hK=>?_;simp only [go_sem]
 refine zh (contains_ok (fun n=>decide (n < a) || decide (b < n)) 91 [.rp [i64 a],.rp [i64 b]] l fun x _=>awithin1_ok x a b) rfl (by simp only [go_sem,i64,ints]) (by simp only [go_sem,i64,ints]) (by first | exact .inl rfl | exact .inr rfl) ?_
 (try simp only [go_sem]);refine hK _ ?_;clear hK K;refine ze ?_;simp only [go_sem];rw [← withinL_not]
def canA (beds : List Bd) (i : Nat) (d : Int) : Int:=min (d - (loS beds - (beds.getD i ⟨0,0,0⟩).lo)) (beds.getD i ⟨0,0,0⟩).hi
def denA (beds : List Bd) (i : Nat) (d : Int) (k : Nat) : Int:=d - (loS (beds.take k) - if i < k then (beds.getD i ⟨0,0,0⟩).lo else 0)
theorem can_ok (beds : List Bd) (i : Nat) (d : Int) (hi : i < beds.length) (hl : beds.length ≤ 1000) (hs : Small beds) (hd : 0 ≤ d ∧ d ≤ 6000) : ACalls Try.prog 164 [bedsR beds,i64 (i : Int),i64 d] (i64 (canA beds i d)):=by
 obtain ⟨bi,hbi⟩:=opt_of_lt hi
 have hgi : beds.getD i ⟨0,0,0⟩ = bi:=by rw [List.getD_eq_getElem?_getD,hbi]; rfl
 have hbis:=hs bi (mem_of_opt hbi)
 have hbnd : ∀ k,k ≤ beds.length → -6000000 ≤ denA beds i d k ∧ denA beds i d k ≤ 12000:=fun k hk=>by
  have h1:=(sums_le (hs.take k)).1
  have h2 : (beds.take k).length ≤ 1000:=by rw [List.length_take]; omega
  unfold denA
  rw [hgi]
  have h3 : (6000 : Int) * ((beds.take k).length : Int) ≤ 6000 * 1000:=Int.mul_le_mul_of_nonneg_left (by omega) (by omega)
  split <;> omega
 refine acalls_st (rs:=[i64 (canA beds i d)]) [.tmp 6] Try.func164 rfl (by kernel_rfl) Try.ntmps164 rfl (by simp) rfl fun C vs=>?_
 refine zq ?_
 refine zb fun K hK=>?_;simp only [go_sem];refine hK _ ?_;clear hK K;refine zw (zk [0,1,2]) ?_;simp only [go_sem]
 repeat refine zq ?_
 refine zb fun K hK=>?_;simp only [go_sem,List.length_map]
 intro _
 refine hK _ ?_;clear hK K;refine zw (zk [0,1,2,9,10,11]) ?_;simp only [go_sem];refine zd ?_
 refine awp_upto (n:=33) beds.length (fun k vs=>[(0,.r (bedsR beds)),(1,.r (i64 (i : Int))),(2,.r (i64 (denA beds i d k))),(9,.r (bedsR beds)),(10,.r (i64 (beds.length : Int))),(11,.r (i64 (k : Int)))])
  (fun k=>[]) (fun _=>True) 0 (fit_of [] ?_ ?_) (Nat.zero_le _) trivial ?_
 · try simp only [go_sem]
   try simp [denA,loS]
 · try simp only [go_sem]
 · intro k vs hk _
   by_cases hkn : k < beds.length
   · obtain ⟨c,hcb⟩:=opt_of_lt hkn
     have hcs:=hs c (mem_of_opt hcb)
     have hb0:=hbnd k (by omega)
     have hb1:=hbnd (k + 1) (by omega)
     have hlo : loS (beds.take (k + 1)) = loS (beds.take k) + c.lo:=by rw [take_of_opt hcb,loS_snoc]
     refine zq ?_
     refine zb fun K hK=>?_;simp only [go_sem,hkn];refine hK _ ?_;clear hK K;refine zw (zk [0,1,2,9,10,11,12]) ?_;simp only [go_sem]
     refine zq ?_
     refine zc rfl (fun hc=>?_) (fun hc=>?_) <;> (try simp only [go_sem] at hc)
     refine zx ?_
     try simp only [go_sem]
     refine zq ?_
     refine zd ?_
     refine zq ?_
     refine zb fun K hK=>?_;simp only [go_sem,hcb,hkn,bedR,List.length_map];refine hK _ ?_;clear hK K;refine zw (sub_frzP 8 8 [i64 c.b,i64 c.lo,i64 c.hi] (by omega) rfl rfl) ?_;refine zw (zk [0,1,2,7,8,9,10,11]) ?_;simp only [go_sem]
     by_cases hki : k = i
     · subst hki
       have hcbi : c = bi:=by rw [hcb] at hbi; injection hbi
       have hnx : denA beds k d (k + 1) = denA beds k d k:=by
        unfold denA
        rw [hlo,hgi,if_pos (by omega),if_neg (by omega),hcbi]; omega
       rw [hnx]
       refine zq ?_
       refine zb fun K hK=>?_;simp only [go_sem,bne_self_eq_false];refine hK _ ?_;clear hK K;refine zw (zk [0,1,2,9,10,11,18]) ?_;simp only [go_sem]
       refine zc rfl (fun hc=>?_) (fun hc=>?_) <;> (try simp only [go_sem] at hc)
       refine zx ?_
       try simp only [go_sem]
       refine zb fun K hK=>?_;simp only [go_sem];(try simp (disch:=omega) only [zI]);refine hK _ ?_;clear hK K
       try simp only [go_sem]
       refine ⟨by omega,fit_of [] ?_ ?_⟩
       · try simp only [go_sem]
       · try simp only [go_sem]
     · have hne : ((k : Int) != (i : Int)) = true:=by rw [bne_iff_ne]; omega
       have hne' : (k != i) = true:=by simpa using hki
       have hnx : denA beds i d (k + 1) = denA beds i d k - c.lo:=by
        unfold denA
        rw [hlo]
        by_cases h : i < k
        · rw [if_pos (by omega),if_pos h]; omega
        · rw [if_neg (by omega),if_neg h]; omega
       rw [hnx] at hb1 ⊢
       generalize denA beds i d k = Z at *
       have wz : IntKind.i64.wrap (Z - c.lo) = Z - c.lo:=by rw [zI] <;> omega
       refine zq ?_
       refine zb fun K hK=>?_;simp only [go_sem,hne,hne'];refine hK _ ?_;clear hK K;refine zw (zk [0,1,2,8,9,10,11,18]) ?_;simp only [go_sem]
       refine zc rfl (fun hc=>?_) (fun hc=>?_) <;> (try simp only [go_sem] at hc)
       refine zb fun K hK=>?_;simp only [go_sem,wz];refine hK _ ?_;clear hK K;refine zw (zk [0,1,2,9,10,11]) ?_;simp only [go_sem];refine zb fun K hK=>?_;simp only [go_sem];(try simp (disch:=omega) only [zI]);refine hK _ ?_;clear hK K
       try simp only [go_sem]
       refine ⟨by omega,fit_of [] ?_ ?_⟩
       · try simp only [go_sem]
       · try simp only [go_sem]
   · have hke : k = beds.length:=by omega
     subst hke
     have hfin : denA beds i d beds.length = d - (loS beds - bi.lo):=by unfold denA; rw [List.take_length,if_pos hi,hgi]
     rw [hfin]
     have hcan : canA beds i d = min (d - (loS beds - bi.lo)) bi.hi:=by unfold canA; rw [hgi]
     rw [hcan]
     refine zq ?_
     refine zb fun K hK=>?_;simp only [go_sem,Nat.lt_irrefl];refine hK _ ?_;clear hK K;refine zw (zk [0,1,2,12]) ?_;simp only [go_sem]
     refine zq ?_
     refine zc rfl (fun hc=>?_) (fun hc=>?_) <;> (try simp only [go_sem] at hc)
     refine zf ?_;simp only [go_sem]
     refine zq ?_
     refine zb fun K hK=>?_;simp only [go_sem,hbi,hi,bedR,List.length_map];refine hK _ ?_;clear hK K;refine zw (zk [6]) ?_;simp only [go_sem];refine ze ?_;simp only [go_sem]
def cmpS (s : Bool) (vals : List Int) (x y : Nat) : Int:=if s then cmpI (vals.getD x 0) (vals.getD y 0) else cmpI (vals.getD y 0) (vals.getD x 0)
theorem cmpS_ok (s : Bool) (vals : List Int) (x y : Nat) (hx : x < vals.length) (hy : y < vals.length) : ACalls Try.prog 166 [i64 (x : Int),i64 (y : Int),.rp [.bo s],.rp [ints vals]] (i64 (cmpS s vals x y)):=by
 obtain ⟨a,ha⟩:=opt_of_lt hx
 obtain ⟨b,hb⟩:=opt_of_lt hy
 have ga : vals.getD x 0 = a:=by rw [List.getD_eq_getElem?_getD,ha]; rfl
 have gb : vals.getD y 0 = b:=by rw [List.getD_eq_getElem?_getD,hb]; rfl
 have h1:=compare_ok a b
 have h2:=compare_ok b a
 unfold cmpS
 rw [ga,gb]
 refine acalls_st (rs:=[i64 (if s = true then cmpI a b else cmpI b a)]) [.tmp 6] Try.func166 rfl (by kernel_rfl) Try.ntmps166 rfl (by simp) rfl fun C vs=>?_
 refine zq ?_
 refine zb fun K hK=>?_;simp only [go_sem];refine hK _ ?_;clear hK K;refine zw (zk [0,1,2,3]) ?_;simp only [go_sem]
 repeat refine zq ?_
 refine zb fun K hK=>?_;simp only [go_sem];refine hK _ ?_;clear hK K;refine zw (zk [0,1,3,8]) ?_;simp only [go_sem]
 cases s
 · skip
   refine zc rfl (fun hc=>?_) (fun hc=>?_) <;> (try simp only [go_sem] at hc)
   refine zx ?_
   try simp only [go_sem]
   refine zq ?_
   refine zg follows (by decide +kernel) (by kernel_rfl) fun K hK=>?_;simp only [go_sem,ha,hb,hx,hy,List.length_map]
   refine zh (h2) rfl (by simp only [go_sem,i64,ints,ha,hb,hx,hy,List.length_map]) (by simp only [go_sem,i64,ints,ha,hb,hx,hy,List.length_map]) (by first | exact .inl rfl | exact .inr rfl) ?_
   (try simp only [go_sem,ha,hb,hx,hy,List.length_map]);refine hK _ ?_;clear hK K;refine zw (zk [6]) ?_;simp only [go_sem];refine ze ?_;simp only [go_sem]
   try rfl
 · have hss:=(rfl : true = true)
   refine zc rfl (fun hc=>?_) (fun hc=>?_) <;> (try simp only [go_sem] at hc)
   rotate_left
   · exact absurd rfl hc
   refine zq ?_
   refine zg follows (by decide +kernel) (by kernel_rfl) fun K hK=>?_;simp only [go_sem,ha,hb,hx,hy,List.length_map]
   refine zh (h1) rfl (by simp only [go_sem,i64,ints,ha,hb,hx,hy,List.length_map]) (by simp only [go_sem,i64,ints,ha,hb,hx,hy,List.length_map]) (by first | exact .inl rfl | exact .inr rfl) ?_
   (try simp only [go_sem,ha,hb,hx,hy,List.length_map]);refine hK _ ?_;clear hK K;refine zw (zk [6]) ?_;simp only [go_sem];refine ze ?_;simp only [go_sem]
   try rfl
end Go.Proofs.Ytgfbenanljjgaaa.Du.Th.Ai

namespace Go.Proofs.Ytgfbenanljjgaaa.Du.Th
open Go Go.Oc
set_option linter.unusedSimpArgs false
set_option linter.unusedVariables false
set_option maxRecDepth 8000
def moreS (l : List Bd) (o : List Int) (m : Int) (i : Nat) : Int:=min m ((l[i]?.map (·.hi)).getD 0 - (o[i]?).getD 0)
def fillS (l : List Bd) : List Nat → List Int × Int → List Int × Int
 | [],x=>x
 | i :: is,x=>fillS l is (x.1.set i ((x.1[i]?).getD 0 + moreS l x.1 x.2 i),x.2 - moreS l x.1 x.2 i)
def FillOk (l : List Bd) (x : List Int × Int) : Prop:=x.1.length = l.length ∧ (0 ≤ x.2 ∧ x.2 ≤ 6000) ∧ ∀ (i : Nat) (b : Bd) (o : Int),l[i]? = some b → x.1[i]? = some o → b.lo ≤ o ∧ o ≤ b.hi
def startF (d : Int) (l : List Bd) : List Int × Int:=(l.map (·.lo),d - loS l)
def keyLt (cm : Int → Int → Int) (vals : List Int) (i k : Nat) : Bool:=decide (cm ((vals[i]?).getD 0) ((vals[k]?).getD 0) < 0)
def filledV (cm : Int → Int → Int) (d : Int) (l : List Bd) (vals : List Int) : List Int:=(fillS l (sortN (keyLt cm vals) (List.range l.length)) (startF d l)).1
theorem mem_sortN {lt : Nat → Nat → Bool} {l : List Nat} {z : Nat} : z ∈ sortN lt l ↔ z ∈ l:=by
 unfold sortN
 rw [List.mem_reverse,mem_sortB]
 simp
theorem sortN_len (lt : Nat → Nat → Bool) (l : List Nat) : (sortN lt l).length = l.length:=by
 unfold sortN
 rw [List.length_reverse,sortB_len]
 simp
theorem rep_at {g : List (List RV)} {z : List RV} {n i : Nat} (hg : g.length = i) (hi : i < n) : (g ++ List.replicate (n - i) z).getD i [] = z:=by
 rw [List.getD_eq_getElem?_getD,List.getElem?_append_right (by omega),hg,Nat.sub_self,List.getElem?_replicate,if_pos (by omega)]
 rfl
theorem rep_len {g : List (List RV)} {z : List RV} {n i : Nat} (hg : g.length = i) (hi : i < n) : (g ++ List.replicate (n - i) z).length = n:=by simp; omega
theorem rep_set {g : List (List RV)} {z v : List RV} {n i : Nat} (hg : g.length = i) (hi : i < n) : (g ++ List.replicate (n - i) z).set i v = (g ++ [v]) ++ List.replicate (n - (i + 1)) z:=by
 rw [List.set_append_right _ _ (by omega),hg,Nat.sub_self]
 have : n - i = (n - (i + 1)) + 1:=by omega
 rw [this,List.replicate_succ,List.set_cons_zero]
 simp
def dotV : List Int → List Int → Int
 | x :: xs,y :: ys=>x * y + dotV xs ys
 | _,_=>0
theorem dotV_snoc : ∀ {xs ys : List Int} {x y : Int},xs.length = ys.length → dotV (xs ++ [x]) (ys ++ [y]) = dotV xs ys + x * y
 | [],[],x,y,_=>by simp [dotV]
 | _ :: xs,_ :: ys,x,y,h=>by simp only [List.cons_append,dotV]; rw [dotV_snoc (by simpa using h)]; omega
 | [],_ :: _,_,_,h=>by simp at h
 | _ :: _,[],_,_,h=>by simp at h
def Vals (l : List Int) : Prop:=∀ x ∈ l,-1000000000000 ≤ x ∧ x ≤ 1000000000000
def meanLo (d : Int) (l : List Bd) (vals : List Int) : Int:=dotV (filledV cmpI d l vals) vals
def meanHi (d : Int) (l : List Bd) (vals : List Int) : Int:=dotV (filledV (fun x y=>cmpI y x) d l vals) vals
abbrev Pv:=Int × Int
def fillP : List Pv → Int × Int → Int × Int
 | [],x=>x
 | c :: cs,x=>fillP cs (x.1 - min x.1 c.1,x.2 + min x.1 c.1 * c.2)
def dotP : List Pv → List Int → Int
 | c :: S,y :: ys=>y * c.2 + dotP S ys
 | _,_=>0
inductive FeasP : List Pv → List Int → Prop where
 | nil : FeasP [] []
 | cons {c : Pv} {S : List Pv} {y : Int} {ys : List Int} (h : 0 ≤ y ∧ y ≤ c.1) (t : FeasP S ys) : FeasP (c :: S) (y :: ys)
theorem feas_sum {S : List Pv} {ys : List Int} (h : FeasP S ys) : 0 ≤ ys.sum:=by
 induction h with
 | nil=>simp
 | cons h t ih=>simp only [List.sum_cons]; omega
theorem feas_less {v : Int} {S : List Pv} {ys : List Int} (h : FeasP S ys) : ∀ δ : Int,0 ≤ δ → δ ≤ ys.sum → (∀ c ∈ S,v ≤ c.2) → ∃ zs,FeasP S zs ∧ zs.sum = ys.sum - δ ∧ dotP S zs + δ * v ≤ dotP S ys:=by
 induction h with
 | nil =>
   intro δ h0 h1 _
   simp only [List.sum_nil] at h1
   have : δ = 0:=by omega
   subst this
   exact ⟨[],.nil,by simp,by simp [dotP]⟩
 | @cons c S y ys h t ih =>
   intro δ h0 h1 hv
   simp only [List.sum_cons] at h1
   have hs:=feas_sum t
   obtain ⟨zs,g1,g2,g3⟩:=ih (δ - min δ y) (by omega) (by omega) fun x hx=>hv x (by simp [hx])
   have hc:=hv c (by simp)
   have e0 : 0 ≤ min δ y:=by omega
   have p:=Int.mul_nonneg e0 (show 0 ≤ c.2 - v by omega)
   refine ⟨(y - min δ y) :: zs,.cons ⟨by omega,by omega⟩ g1,by simp only [List.sum_cons]; omega,?_⟩
   simp only [dotP]
   generalize min δ y = e at *
   rw [Int.mul_sub] at p
   rw [Int.sub_mul] at g3
   rw [Int.sub_mul]
   omega
theorem fill_min : ∀ {S : List Pv} {ys : List Int},FeasP S ys → ∀ (left s : Int),S.Pairwise (fun a b=>a.2 ≤ b.2) → ys.sum = left → (fillP S (left,s)).2 ≤ s + dotP S ys
 | [],_,h,left,s,_,_=>by cases h; simp [fillP,dotP]
 | c :: S, _, h, left, s, hp, hsum => by
   cases h with
   | @cons _ _ y ys h t =>
     obtain ⟨hp1,hp2⟩:=List.pairwise_cons.1 hp
     simp only [List.sum_cons] at hsum
     have hs:=feas_sum t
     obtain ⟨zs,g1,g2,g3⟩:=feas_less t (min left c.1 - y) (by omega) (by omega) hp1
     have:=fill_min g1 (left - min left c.1) (s + min left c.1 * c.2) hp2 (by omega)
     simp only [fillP,dotP]
     rw [Int.sub_mul] at g3
     omega
def negP (S : List Pv) : List Pv:=S.map fun c=>(c.1,-c.2)
theorem fill_neg : ∀ (S : List Pv) (x y : Int),(fillP (negP S) (x,-y)).2 = -(fillP S (x,y)).2
 | [],_,_=>rfl
 | c :: S, x, y => by
   have:=fill_neg S (x - min x c.1) (y + min x c.1 * c.2)
   simp only [negP,List.map_cons,fillP] at this ⊢
   rw [← this]
   congr 3
   rw [Int.mul_neg]; omega
theorem dot_neg : ∀ (S : List Pv) (ys : List Int),dotP (negP S) ys = -dotP S ys
 | [],_=>by simp [negP,dotP]
 | _ :: _,[]=>by simp [negP,dotP]
 | c :: S, y :: ys => by
   have:=dot_neg S ys
   simp only [negP,List.map_cons,dotP] at this ⊢
   rw [this,Int.mul_neg]; omega
theorem feas_neg : ∀ {S : List Pv} {ys : List Int},FeasP S ys → FeasP (negP S) ys
 | _,_,.nil=>.nil
 | _,_,.cons h t=>.cons h (feas_neg t)
theorem fill_max {S : List Pv} {ys : List Int} (h : FeasP S ys) (left s : Int) (hp : S.Pairwise (fun a b=>b.2 ≤ a.2)) (hs : ys.sum = left) : s + dotP S ys ≤ (fillP S (left,s)).2:=by
 have:=fill_min (feas_neg h) left (-s) (by unfold negP; exact List.Pairwise.map _ (fun a b h=>by simp only; omega) hp) hs
 rw [fill_neg,dot_neg] at this
 omega
theorem insB_perm (lt : Nat → Nat → Bool) (x : Nat) : ∀ R,(insB lt x R).Perm (x :: R)
 | []=>.refl _
 | y :: R => by
   unfold insB
   split
   · exact ((insB_perm lt x R).cons y).trans (.swap x y R)
   · exact .refl _
theorem sortB_perm (lt : Nat → Nat → Bool) : ∀ l R,(sortB lt l R).Perm (l ++ R)
 | [],R=>.refl _
 | x :: l, R => by
   simp only [sortB]
   refine (sortB_perm lt l _).trans ?_
   refine ((insB_perm lt x R).append_left l).trans ?_
   exact List.perm_middle
theorem sortN_perm (lt : Nat → Nat → Bool) (l : List Nat) : (sortN lt l).Perm l:=by
 unfold sortN
 refine (List.reverse_perm _).trans ?_
 have:=sortB_perm lt l []
 rwa [List.append_nil] at this
theorem insB_pw {K : Nat → Int} {lt : Nat → Nat → Bool} (hlt : ∀ x y,lt x y = decide (K x < K y)) {x : Nat} : ∀ {R : List Nat},R.Pairwise (fun y z=>K z ≤ K y) → (insB lt x R).Pairwise (fun y z=>K z ≤ K y)
 | [],_=>by simp [insB]
 | y :: R, h => by
   obtain ⟨h1,h2⟩:=List.pairwise_cons.1 h
   unfold insB
   split
   · rename_i hc
     rw [hlt,decide_eq_true_eq] at hc
     refine List.pairwise_cons.2 ⟨fun z hz=>?_,insB_pw hlt h2⟩
     rcases (mem_insB lt x z R).1 hz with rfl | hz
     · omega
     · exact h1 z hz
   · rename_i hc
     rw [hlt,decide_eq_true_eq] at hc
     refine List.pairwise_cons.2 ⟨fun z hz=>?_,h⟩
     rcases List.mem_cons.1 hz with rfl | hz
     · omega
     · have:=h1 z hz; omega
theorem sortB_pw {K : Nat → Int} {lt : Nat → Nat → Bool} (hlt : ∀ x y,lt x y = decide (K x < K y)) : ∀ {l R : List Nat},R.Pairwise (fun y z=>K z ≤ K y) → (sortB lt l R).Pairwise (fun y z=>K z ≤ K y)
 | [],_,h=>h
 | x :: l,R,h=>by simp only [sortB]; exact sortB_pw hlt (insB_pw hlt h)
theorem sortN_pw {K : Nat → Int} {lt : Nat → Nat → Bool} (hlt : ∀ x y,lt x y = decide (K x < K y)) (l : List Nat) : (sortN lt l).Pairwise (fun y z=>K y ≤ K z):=by
 unfold sortN
 rw [List.pairwise_reverse]
 exact sortB_pw hlt (by simp)
theorem dotV_sum : ∀ {o vals : List Int},o.length = vals.length → dotV o vals = ((List.range o.length).map fun i=>o.getD i 0 * vals.getD i 0).sum
 | [],[],_=>rfl
 | x :: o, y :: vals, h => by
   have ih:=dotV_sum (o:=o) (vals:=vals) (by simpa using h)
   simp only [dotV,List.length_cons,List.range_succ_eq_map,List.map_cons,List.sum_cons,List.map_map,ih]
   rfl
 | [],_ :: _,h=>by simp at h
 | _ :: _,[],h=>by simp at h
theorem dotV_set : ∀ {o vals : List Int} {i : Nat} {y : Int},i < o.length → o.length = vals.length → dotV (o.set i y) vals = dotV o vals + (y - o.getD i 0) * vals.getD i 0
 | x :: o,v :: vals,0,y,_,_=>by simp only [List.set_cons_zero,dotV,List.getD_cons_zero,Int.sub_mul]; omega
 | x :: o, v :: vals, i + 1, y, h, hl => by
   have ih:=dotV_set (o:=o) (vals:=vals) (i:=i) (y:=y) (by simpa using h) (by simpa using hl)
   simp only [List.set_cons_succ,dotV,List.getD_cons_succ,ih]; omega
 | x :: o,[],_,_,_,hl=>by simp at hl
 | [],_,_,_,h,_=>by simp at h
theorem fillS_dot {l : List Bd} {vals : List Int} : ∀ {I : List Nat} {o : List Int} {left : Int},I.Nodup → o.length = l.length → vals.length = l.length → (∀ i ∈ I,i < l.length) →
 dotV (fillS l I (o,left)).1 vals = (fillP (I.map fun i=>((bAt l i).hi - o.getD i 0,vals.getD i 0)) (left,dotV o vals)).2 ∧ (fillS l I (o,left)).1.length = l.length
 | [],o,left,_,ho,_,_=>⟨rfl,ho⟩
 | i :: I, o, left, hn, ho, hv, hi => by
   obtain ⟨n1,n2⟩:=List.nodup_cons.1 hn
   have hil:=hi i (by simp)
   have hm : moreS l o left i = min left ((bAt l i).hi - o.getD i 0):=by
    unfold moreS bAt
    rw [List.getD_eq_getElem?_getD,List.getD_eq_getElem?_getD,List.getElem?_eq_getElem hil]
    rfl
   have hs : (o[i]?).getD 0 = o.getD i 0:=by rw [List.getD_eq_getElem?_getD]
   simp only [fillS,List.map_cons,fillP];rw [hm,hs]
   obtain ⟨h1,h2⟩:=fillS_dot (l:=l) (vals:=vals) (I:=I) (o:=o.set i (o.getD i 0 + min left ((bAt l i).hi - o.getD i 0))) (left:=left - min left ((bAt l i).hi - o.getD i 0)) n2 (by simp [ho]) hv fun j hj=>hi j (by simp [hj])
   refine ⟨?_,h2⟩
   rw [h1,dotV_set (by omega) (by omega)]
   have e1 : (I.map fun j=>((bAt l j).hi - (o.set i (o.getD i 0 + min left ((bAt l i).hi - o.getD i 0))).getD j 0,vals.getD j 0)) = I.map fun j=>((bAt l j).hi - o.getD j 0,vals.getD j 0) :=
    List.map_congr_left fun j hj=>by
     have hji : ¬ j = i:=fun e=>n1 (e ▸ hj)
     rw [getD_set _ _ _ _ (by omega),if_neg hji]
   rw [e1]
   congr 3
   rw [show o.getD i 0 + min left ((bAt l i).hi - o.getD i 0) - o.getD i 0 = min left ((bAt l i).hi - o.getD i 0) by omega]
structure TruthN (den : Int) (l : List Bd) (y : List Int) : Prop where
 len : y.length = l.length
 each : ∀ i,i < l.length → (bAt l i).lo ≤ y.getD i 0 ∧ y.getD i 0 ≤ (bAt l i).hi
 sum : y.sum = den
theorem feas_mapL {m v x : Nat → Int} : ∀ {I : List Nat},(∀ i ∈ I,0 ≤ x i ∧ x i ≤ m i) → FeasP (I.map fun i=>(m i,v i)) (I.map x)
 | [],_=>.nil
 | i :: I,h=>.cons (h i (by simp)) (feas_mapL fun j hj=>h j (by simp [hj]))
theorem dot_mapL {m v x : Nat → Int} : ∀ I : List Nat,dotP (I.map fun i=>(m i,v i)) (I.map x) = (I.map fun i=>x i * v i).sum
 | []=>rfl
 | i :: I=>by simp only [List.map_cons,dotP,List.sum_cons,dot_mapL I]
theorem perm_sumL {f : Nat → Int} {I J : List Nat} (h : I.Perm J) : (I.map f).sum = (J.map f).sum:=by
 induction h with
 | nil=>rfl
 | cons x _ ih=>simp only [List.map_cons,List.sum_cons,ih]
 | swap x y l=>simp only [List.map_cons,List.sum_cons]; omega
 | trans _ _ h1 h2=>rw [h1,h2]
theorem sum_addL {f g : Nat → Int} : ∀ I : List Nat,(I.map fun i=>f i + g i).sum = (I.map f).sum + (I.map g).sum
 | []=>by simp
 | i :: I=>by simp only [List.map_cons,List.sum_cons,sum_addL I]; omega
theorem sum_subL {f g : Nat → Int} : ∀ I : List Nat,(I.map fun i=>f i - g i).sum = (I.map f).sum - (I.map g).sum
 | []=>by simp
 | i :: I=>by simp only [List.map_cons,List.sum_cons,sum_subL I]; omega
theorem filled_bound {d : Int} {l : List Bd} {vals y : List Int} (hv : vals.length = l.length) (hy : TruthN d l y) : meanLo d l vals ≤ dotV y vals ∧ dotV y vals ≤ meanHi d l vals:=by
 have hyl:=hy.len
 have hlo : (l.map (·.lo)).length = l.length:=by simp
 have hgl : ∀ i,i < l.length → (l.map (·.lo)).getD i 0 = (bAt l i).lo:=fun i hi=>by simp [bAt,List.getD,List.getElem?_eq_getElem hi]
 have key : ∀ cm : Int → Int → Int,∀ I : List Nat,I.Perm (List.range l.length) → I = sortN (keyLt cm vals) (List.range l.length) →
  dotV (filledV cm d l vals) vals = (fillP (I.map fun i=>((bAt l i).hi - (bAt l i).lo,vals.getD i 0)) (d - loS l,dotV (l.map (·.lo)) vals)).2 ∧
  FeasP (I.map fun i=>((bAt l i).hi - (bAt l i).lo,vals.getD i 0)) (I.map fun i=>y.getD i 0 - (bAt l i).lo) ∧ (I.map fun i=>y.getD i 0 - (bAt l i).lo).sum = d - loS l ∧
  dotV (l.map (·.lo)) vals + dotP (I.map fun i=>((bAt l i).hi - (bAt l i).lo,vals.getD i 0)) (I.map fun i=>y.getD i 0 - (bAt l i).lo) = dotV y vals:=fun cm I hp he=>by
  have hI : ∀ i ∈ I,i < l.length:=fun i hi=>List.mem_range.1 (hp.mem_iff.1 hi)
  have hn : I.Nodup:=hp.nodup_iff.2 List.nodup_range
  refine ⟨?_,feas_mapL fun i hi=>?_,?_,?_⟩
  · unfold filledV startF
    rw [← he,(fillS_dot (l:=l) (vals:=vals) (o:=l.map (·.lo)) (left:=d - loS l) hn hlo hv hI).1]
    have e : (I.map fun i=>((bAt l i).hi - (l.map (·.lo)).getD i 0,vals.getD i 0)) = I.map fun i=>((bAt l i).hi - (bAt l i).lo,vals.getD i 0):=List.map_congr_left fun i hi=>by rw [hgl i (hI i hi)]
    rw [e]
  · have:=hy.each i (hI i hi); omega
  · rw [perm_sumL (f:=fun i=>y.getD i 0 - (bAt l i).lo) hp,sum_subL]
    have e1 : ((List.range l.length).map fun i=>y.getD i 0).sum = d:=by rw [← hyl,sum_getD,hy.sum]
    have e2 : ((List.range l.length).map fun i=>(bAt l i).lo).sum = loS l:=by
     conv=>rhs; rw [loS,← range_bAt l,List.map_map]
     rfl
    rw [e1,e2]
  · rw [dot_mapL,perm_sumL (f:=fun i=>(y.getD i 0 - (bAt l i).lo) * vals.getD i 0) hp,dotV_sum (by rw [hlo,hv]),dotV_sum (by rw [hyl,hv]),hlo,hyl,← sum_addL]
    congr 1
    refine List.map_congr_left fun i hi=>?_
    rw [hgl i (List.mem_range.1 hi),Int.sub_mul]; omega
 constructor
 · obtain ⟨k1,k2,k3,k4⟩:=key cmpI _ (sortN_perm _ _) rfl
   unfold meanLo
   rw [k1,← k4]
   refine fill_min k2 _ _ ?_ k3
   refine List.pairwise_map.2 ((sortN_pw (K:=fun i=>vals.getD i 0) (fun x y=>?_) _).imp fun h=>h)
   unfold keyLt cmpI
   simp only [List.getD_eq_getElem?_getD];rw [Bool.eq_iff_iff,decide_eq_true_eq,decide_eq_true_eq]
   split
   · omega
   · split <;> omega
 · obtain ⟨k1,k2,k3,k4⟩:=key (fun x y=>cmpI y x) _ (sortN_perm _ _) rfl
   unfold meanHi
   rw [k1,← k4]
   refine fill_max k2 _ _ ?_ k3
   refine List.pairwise_map.2 ((sortN_pw (K:=fun i=>-vals.getD i 0) (fun x y=>?_) _).imp fun h=>by simp only; omega)
   unfold keyLt cmpI
   simp only [List.getD_eq_getElem?_getD];rw [Bool.eq_iff_iff,decide_eq_true_eq,decide_eq_true_eq]
   split
   · omega
   · split <;> omega
def aimAt (l : List Am) (i : Int) : Am:=(l[i.toNat]?).getD ⟨0,[]⟩
def pickE (d : Int) (l : List Am) (i : Int) (vals : List Int) : Int :=
 if checkV d l ≠ 0 then checkV d l
 else if ¬ (0 ≤ i ∧ i < l.length) then 7
 else if vals.length ≠ (aimAt l i).beds.length then 4
 else if withinL (-1000000000000) 1000000000000 vals = false then 2 else 0
def meanV (d : Int) (l : List Am) (i : Int) (vals : List Int) : Int × Int:=if pickE d l i vals = 0 then (meanLo d (aimAt l i).beds vals,meanHi d (aimAt l i).beds vals) else (0,0)
def truthV (d : Int) (l : List Am) (i : Int) (vals : List Int) (g : Bool) : List Int:=if pickE d l i vals = 0 then filledV (if g then fun x y=>cmpI y x else cmpI) d (aimAt l i).beds vals else []
theorem fillS_TI {l : List Bd} {d : Int} : ∀ (I : List Nat) (x : List Int × Int),(∀ i ∈ I,i < l.length) → TI l d x → TI l d (fillS l I x) ∧ ∀ i,i < l.length → x.1.getD i 0 ≤ (fillS l I x).1.getD i 0 ∧ ((fillS l I x).2 = 0 ∨ (i ∈ I → (fillS l I x).1.getD i 0 = (bAt l i).hi))
 | [],x,_,h=>⟨h,fun i hi=>⟨Int.le_refl _,.inr fun h=>by cases h⟩⟩
 | j :: I, x, hI, h => by
   have hj:=hI j (by simp)
   have hl:=h.len
   have hm : moreS l x.1 x.2 j = takeU l j x:=by
    unfold moreS takeU bAt
    rw [List.getD_eq_getElem?_getD,List.getD_eq_getElem?_getD,List.getElem?_eq_getElem hj]; rfl
   have e : (x.1.set j ((x.1[j]?).getD 0 + moreS l x.1 x.2 j),x.2 - moreS l x.1 x.2 j) = giveU j (takeU l j x) x:=by
    rw [hm,← List.getD_eq_getElem?_getD]; rfl
   have ht:=h.take hj
   have hg:=h.give hj ⟨ht,Int.le_refl _⟩
   simp only [fillS];rw [e]
   obtain ⟨h1,h2⟩:=fillS_TI I (giveU j (takeU l j x) x) (fun i hi=>hI i (by simp [hi])) hg
   refine ⟨h1,fun i hi=>?_⟩
   obtain ⟨k1,k2⟩:=h2 i hi
   have hgi : (giveU j (takeU l j x) x).1.getD i 0 = if i = j then x.1.getD j 0 + takeU l j x else x.1.getD i 0:=by
    unfold giveU; exact getD_set _ _ _ _ (by omega)
   rw [hgi] at k1
   have h6:=h1.each i hi
   refine ⟨by
    split at k1
    · rename_i e; subst e; omega
    · exact k1,?_⟩
   rcases k2 with k2 | k2
   · exact .inl k2
   · by_cases e : i = j
     · subst e
       rw [if_pos rfl] at k1
       have h3:=h.each i hi
       by_cases c : x.2 ≤ (bAt l i).hi - x.1.getD i 0
       · left
         have h4:=h1.sum
         have h5:=h1.left
         have : (giveU i (takeU l i x) x).2 = 0:=by unfold giveU takeU; simp only; omega
         have hle : ∀ (I : List Nat) (y : List Int × Int),(∀ i ∈ I,i < l.length) → TI l d y → (fillS l I y).2 ≤ y.2:=by
          intro I
          induction I with
          | nil=>intro y _ _; exact Int.le_refl _
          | cons a I ih =>
            intro y hI hy
            have ha:=hI a (by simp)
            have hm : moreS l y.1 y.2 a = takeU l a y:=by
             unfold moreS takeU bAt
             rw [List.getD_eq_getElem?_getD,List.getD_eq_getElem?_getD,List.getElem?_eq_getElem ha]; rfl
            have e : (y.1.set a ((y.1[a]?).getD 0 + moreS l y.1 y.2 a),y.2 - moreS l y.1 y.2 a) = giveU a (takeU l a y) y:=by
             rw [hm,← List.getD_eq_getElem?_getD]; rfl
            have ht:=hy.take ha
            simp only [fillS];rw [e]
            have:=ih (giveU a (takeU l a y) y) (fun i hi=>hI i (by simp [hi])) (hy.give ha ⟨ht,Int.le_refl _⟩)
            simp only [giveU] at this ⊢
            omega
         have:=hle I (giveU i (takeU l i x) x) (fun i hi=>hI i (by simp [hi])) hg
         omega
       · right; intro _
         have : takeU l i x = (bAt l i).hi - x.1.getD i 0:=by unfold takeU; omega
         omega
     · right; intro hi'
       rcases List.mem_cons.1 hi' with h | h
       · exact absurd h e
       · exact k2 h
theorem hiS_eq (l : List Bd) : hiS l = ((List.range l.length).map fun i=>(bAt l i).hi).sum:=by
 conv=>lhs; rw [hiS,← range_bAt l,List.map_map]
 rfl
theorem filled_truth {cm : Int → Int → Int} {d : Int} {l : List Bd} {vals : List Int} (h1 : ∀ c ∈ l,c.lo ≤ c.hi) (h : loS l ≤ d) (hh : d ≤ hiS l) : TruthN d l (filledV cm d l vals):=by
 have h0 : TI l d (startF d l):=by
  refine ⟨by simp [startF],fun i hi=>?_,by simp only [startF,loS]; omega,by simp only [startF]; omega⟩
  have:=h1 _ (bAt_mem hi)
  have e : (startF d l).1.getD i 0 = (bAt l i).lo:=by simp [startF,bAt,List.getD,List.getElem?_eq_getElem hi]
  rw [e]; omega
 obtain ⟨hT,hF⟩:=fillS_TI (sortN (keyLt cm vals) (List.range l.length)) (startF d l) (fun i hi=>by rw [mem_sortN,List.mem_range] at hi; exact hi) h0
 have hz : (fillS l (sortN (keyLt cm vals) (List.range l.length)) (startF d l)).2 = 0:=by
  by_cases c : (fillS l (sortN (keyLt cm vals) (List.range l.length)) (startF d l)).2 = 0
  · exact c
  · have hs:=hT.sum
    have hl:=hT.left
    have : (fillS l (sortN (keyLt cm vals) (List.range l.length)) (startF d l)).1.sum = hiS l:=by
     rw [← sum_getD,hT.len,hiS_eq]
     congr 1
     refine List.map_congr_left fun i hi=>?_
     rcases (hF i (List.mem_range.1 hi)).2 with h | h
     · exact absurd h c
     · exact h (by rw [mem_sortN]; exact hi)
    omega
 refine ⟨hT.len,hT.each,?_⟩
 have:=hT.sum
 unfold filledV
 omega
def oneV (n k : Nat) : List Int:=(List.replicate n 0).set k 1
end Go.Proofs.Ytgfbenanljjgaaa.Du.Th

namespace Go.Proofs.Ytgfbenanljjgaaa.Du.Th.Ai
open Go Go.Oc
set_option linter.unusedSimpArgs false
set_option linter.unusedVariables false
set_option maxRecDepth 8000
def zN (v : Int) : Int:=if v = 2000000000 then 0 else v
abbrev VOk (v : Int) : Prop:=(0 ≤ v ∧ v ≤ 1000000000) ∨ v = 2000000000
theorem zN_ok {v : Int} (h : VOk v) : 0 ≤ zN v ∧ zN v ≤ 1000000000:=by
 unfold zN; unfold VOk at h; split <;> omega
def badA (beds : List Bd) (d : Int) (vals : List Int) (i : Nat) : Bool:=decide (vals.getD i 0 = 2000000000) && decide (0 < canA beds i d)
def meanZ (s : Bool) (d : Int) (beds : List Bd) (v : List Int) : Int:=if s then meanLo d beds v / d else (meanHi d beds v + (d - 1)) / d
def meanS (s : Bool) (d : Int) (beds : List Bd) (vals : List Int) : Int:=if (List.range beds.length).any (badA beds d vals) then 2000000000 else meanZ s d beds (vals.map zN)
structure AOk (d : Int) (l : List Bd) : Prop where
 d1 : 1 ≤ d ∧ d ≤ 3000
 ch : chOk d l = true
 lo : loS l ≤ d
 hi : d ≤ hiS l
 len : l.length ≤ 10
 ne : l ≠ []
 beds : ∀ c ∈ l,c.b = 0 ∨ bedOk c.b = true
theorem AOk.each {d : Int} {l : List Bd} (h : AOk d l) : ∀ c ∈ l,0 ≤ c.lo ∧ c.lo ≤ c.hi ∧ c.hi ≤ d:=fun c hc=>by
 have:=List.all_eq_true.1 h.ch c hc
 simp only [Bool.and_eq_true,decide_eq_true_eq] at this
 omega
theorem AOk.bed {d : Int} {l : List Bd} (h : AOk d l) : ∀ c ∈ l,0 ≤ c.b ∧ c.b ≤ 499:=fun c hc=>by
 rcases h.beds c hc with h | h
 · omega
 · unfold bedOk at h; simp at h; omega
theorem AOk.small {d : Int} {l : List Bd} (h : AOk d l) : Small l:=fun c hc=>by
 have:=h.each c hc; have:=h.d1; omega
theorem AOk.truth {d : Int} {l : List Bd} (h : AOk d l) (cm : Int → Int → Int) (vals : List Int) : TruthN d l (filledV cm d l vals) :=
 filled_truth (fun c hc=>(h.each c hc).2.1) h.lo h.hi
theorem sum_nn : ∀ {l : List Int},(∀ x ∈ l,0 ≤ x) → 0 ≤ l.sum
 | [],_=>by simp
 | x :: l, h => by
   have:=sum_nn (l:=l) fun y hy=>h y (by simp [hy])
   have:=h x (by simp)
   simp only [List.sum_cons]; omega
theorem sum_but : ∀ {l : List Bd} {y : List Int} {i : Nat},y.length = l.length → (∀ i,i < l.length → (bAt l i).lo ≤ y.getD i 0) → i < l.length → loS l - (bAt l i).lo ≤ y.sum - y.getD i 0
 | b :: l, x :: y, 0, hl, h, _ => by
   have : ∀ {l : List Bd} {y : List Int},y.length = l.length → (∀ i,i < l.length → (bAt l i).lo ≤ y.getD i 0) → loS l ≤ y.sum:=by
    intro l
    induction l with
    | nil=>intro y hy _; cases y with | nil=>simp [loS] | cons _ _=>simp at hy
    | cons b l ih =>
      intro y hy h
      cases y with
      | nil=>simp at hy
      | cons x y =>
        have h0:=h 0 (by simp)
        have:=ih (y:=y) (by simpa using hy) fun i hi=>by simpa [bAt] using h (i + 1) (by simpa using hi)
        simp only [loS,List.map_cons,List.sum_cons] at this ⊢
        simp [bAt] at h0
        omega
   have g:=this (l:=l) (y:=y) (by simpa using hl) fun i hi=>by simpa [bAt] using h (i + 1) (by simpa using hi)
   simp [loS,bAt] at *; omega
 | b :: l, x :: y, i + 1, hl, h, hi => by
   have ih:=sum_but (l:=l) (y:=y) (i:=i) (by simpa using hl) (fun j hj=>by simpa [bAt] using h (j + 1) (by simpa using hj)) (by simpa using hi)
   have h0:=h 0 (by simp)
   simp [bAt] at h0
   have e : bAt (b :: l) (i + 1) = bAt l i:=by simp [bAt]
   have e2 : (x :: y).getD (i + 1) 0 = y.getD i 0:=by simp
   rw [e,e2]
   simp only [loS,List.map_cons,List.sum_cons] at ih ⊢
   omega
 | [],_,_,_,_,hi=>by simp at hi
 | _ :: _,[],_,hl,_,_=>by simp at hl
theorem canA_bAt (l : List Bd) (i : Nat) (d : Int) : canA l i d = min (d - (loS l - (bAt l i).lo)) (bAt l i).hi:=rfl
theorem truth_can {d : Int} {l : List Bd} {y : List Int} (h : TruthN d l y) {i : Nat} (hi : i < l.length) : y.getD i 0 ≤ canA l i d:=by
 have h1:=sum_but h.len (fun j hj=>(h.each j hj).1) hi
 have h2:=(h.each i hi).2
 rw [canA_bAt,← h.sum]
 omega
theorem truth_nn {d : Int} {l : List Bd} {y : List Int} (h : TruthN d l y) (h0 : ∀ c ∈ l,0 ≤ c.lo) : ∀ x ∈ y,0 ≤ x:=fun x hx=>by
 obtain ⟨i,hi⟩:=List.getElem?_of_mem hx
 have hil : i < l.length:=by rw [← h.len]; exact (List.getElem?_eq_some_iff.1 hi).1
 have h1:=(h.each i hil).1
 have h2:=h0 _ (bAt_mem hil)
 have e : y.getD i 0 = x:=by simp [List.getD,hi]
 omega
theorem dotV_le : ∀ {xs ys : List Int} {M : Int},(∀ x ∈ xs,0 ≤ x) → (∀ y ∈ ys,0 ≤ y ∧ y ≤ M) → 0 ≤ M → 0 ≤ dotV xs ys ∧ dotV xs ys ≤ xs.sum * M
 | [],_,M,_,_,_=>by simp [dotV]
 | x :: xs, [], M, h, _, hM => by
   simp only [dotV];exact ⟨Int.le_refl _,Int.mul_nonneg (sum_nn h) hM⟩
 | x :: xs, y :: ys, M, h, g, hM => by
   obtain ⟨i1,i2⟩:=dotV_le (xs:=xs) (ys:=ys) (M:=M) (fun z hz=>h z (by simp [hz])) (fun z hz=>g z (by simp [hz])) hM
   have hx:=h x (by simp)
   have hy:=g y (by simp)
   have p0:=Int.mul_nonneg hx hy.1
   have p1:=Int.mul_le_mul_of_nonneg_left hy.2 hx
   simp only [dotV,List.sum_cons,Int.add_mul]
   omega
theorem dotV_leI : ∀ {y u v : List Int} {c : Int},y.length = u.length → y.length = v.length → (∀ i,i < y.length → 0 ≤ y.getD i 0 ∧ (0 < y.getD i 0 → u.getD i 0 ≤ v.getD i 0 + c)) → dotV y u ≤ dotV y v + y.sum * c
 | [],[],[],c,_,_,_=>by simp [dotV]
 | x :: y, a :: u, b :: v, c, h1, h2, h => by
   have ih:=dotV_leI (y:=y) (u:=u) (v:=v) (c:=c) (by simpa using h1) (by simpa using h2) fun i hi=>by simpa using h (i + 1) (by simpa using hi)
   have h0:=h 0 (by simp)
   simp at h0
   have : x * a ≤ x * b + x * c:=by
    rw [← Int.mul_add]
    by_cases hx : 0 < x
    · exact Int.mul_le_mul_of_nonneg_left (h0.2 hx) h0.1
    · have : x = 0:=by omega
      subst this; simp
   simp only [dotV,List.sum_cons,Int.add_mul]
   omega
 | [],_ :: _,_,_,h,_,_=>by simp at h
 | [],_,_ :: _,_,_,h,_=>by simp at h
 | _ :: _,[],_,_,h,_,_=>by simp at h
 | _ :: _,_,[],_,_,h,_=>by simp at h
theorem meanZ_bound (s : Bool) {d : Int} {l : List Bd} (h : AOk d l) {v : List Int} {M : Int} (hM : 0 ≤ M) (hv : ∀ x ∈ v,0 ≤ x ∧ x ≤ M) : 0 ≤ meanZ s d l v ∧ meanZ s d l v ≤ M:=by
 have hd:=h.d1
 have key : ∀ cm,0 ≤ dotV (filledV cm d l v) v ∧ dotV (filledV cm d l v) v ≤ d * M:=fun cm=>by
  have ht:=h.truth cm v
  have:=dotV_le (M:=M) (truth_nn ht fun c hc=>(h.each c hc).1) hv hM
  rw [ht.sum] at this
  exact this
 unfold meanZ meanLo meanHi
 cases s
 · obtain ⟨k1,k2⟩:=key (fun x y=>cmpI y x)
   simp only [Bool.false_eq_true,if_false]
   generalize dotV (filledV (fun x y=>cmpI y x) d l v) v = X at *
   refine ⟨Int.ediv_nonneg (by omega) (by omega),?_⟩
   have : (X + (d - 1)) / d < M + 1:=Int.ediv_lt_of_lt_mul (by omega) (by rw [Int.add_mul,Int.mul_comm M]; omega)
   omega
 · obtain ⟨k1,k2⟩:=key cmpI
   simp only [if_true]
   generalize dotV (filledV cmpI d l v) v = X at *
   refine ⟨Int.ediv_nonneg (by omega) (by omega),?_⟩
   have : X / d < M + 1:=Int.ediv_lt_of_lt_mul (by omega) (by rw [Int.add_mul,Int.mul_comm M]; omega)
   omega
theorem meanZ_le (s : Bool) {d : Int} {l : List Bd} (h : AOk d l) {u v : List Int} {c : Int} (hu : u.length = l.length) (hv : v.length = l.length) (huv : ∀ i,i < l.length → 0 < canA l i d → u.getD i 0 ≤ v.getD i 0 + c) : meanZ s d l u ≤ meanZ s d l v + c:=by
 have hd:=h.d1
 have key : ∀ y,TruthN d l y → dotV y u ≤ dotV y v + d * c:=fun y hy=>by
  rw [← hy.sum]
  refine dotV_leI (by rw [hy.len,hu]) (by rw [hy.len,hv]) fun i hi=>?_
  have hil : i < l.length:=by rw [← hy.len]; exact hi
  refine ⟨?_,fun h0=>huv i hil ?_⟩
  · have h1:=(hy.each i hil).1
    have h2:=(h.each _ (bAt_mem hil)).1
    omega
  · have:=truth_can hy hil; omega
 unfold meanZ
 cases s
 · simp only [Bool.false_eq_true,if_false]
   have h1:=key _ (h.truth (fun x y=>cmpI y x) u)
   have h2:=(filled_bound hv (h.truth (fun x y=>cmpI y x) u)).2
   have h3 : meanHi d l u ≤ meanHi d l v + d * c:=by unfold meanHi at *; omega
   calc (meanHi d l u + (d - 1)) / d ≤ ((meanHi d l v + (d - 1)) + d * c) / d:=Int.ediv_le_ediv (by omega) (by omega)
    _ = (meanHi d l v + (d - 1)) / d + c:=Int.add_mul_ediv_left _ _ (by omega)
 · simp only [if_true]
   have h1:=key _ (h.truth cmpI v)
   have h2:=(filled_bound hu (h.truth cmpI v)).1
   have h3 : meanLo d l u ≤ meanLo d l v + d * c:=by unfold meanLo at *; omega
   calc meanLo d l u / d ≤ (meanLo d l v + d * c) / d:=Int.ediv_le_ediv (by omega) h3
    _ = meanLo d l v / d + c:=Int.add_mul_ediv_left _ _ (by omega)
theorem meanS_vok (s : Bool) {d : Int} {l : List Bd} (h : AOk d l) {v : List Int} (hv : ∀ x ∈ v,VOk x) : VOk (meanS s d l v):=by
 unfold meanS
 split
 · exact .inr rfl
 · refine .inl (meanZ_bound s h (by omega) fun x hx=>?_)
   obtain ⟨y,hy,rfl⟩:=List.mem_map.1 hx
   exact zN_ok (hv y hy)
theorem getD_mapz {v : List Int} {i : Nat} : (v.map zN).getD i 0 = zN (v.getD i 0):=by
 simp only [List.getD_eq_getElem?_getD,List.getElem?_map]
 cases v[i]? <;> simp [zN]
theorem meanS_le (s : Bool) {d : Int} {l : List Bd} (h : AOk d l) {u v : List Int} {c : Int} (hc : 0 ≤ c) (hu : u.length = l.length) (hv : v.length = l.length) (hvu : ∀ x ∈ u,VOk x) (hvv : ∀ x ∈ v,VOk x)
 (huv : ∀ i,i < l.length → v.getD i 0 ≠ 2000000000 → u.getD i 0 ≤ v.getD i 0 + c ∧ u.getD i 0 ≠ 2000000000) : meanS s d l u ≤ meanS s d l v + c:=by
 have hle : ∀ {w},VOk w → w ≤ 2000000000:=fun {w} hw=>by unfold VOk at hw; omega
 by_cases hb : (List.range l.length).any (badA l d v) = true
 · have e : meanS s d l v = 2000000000:=by unfold meanS; rw [if_pos hb]
   rw [e]
   have:=hle (meanS_vok s h hvu)
   omega
 · have hgood : ∀ i,i < l.length → 0 < canA l i d → v.getD i 0 ≠ 2000000000:=fun i hi h0 hn=>hb (List.any_eq_true.2 ⟨i,List.mem_range.2 hi,by simp [badA,hn,h0]; exact hn⟩)
   have hbu : ¬ (List.range l.length).any (badA l d u) = true:=fun hh=>by
    obtain ⟨i,hi,hbi⟩:=List.any_eq_true.1 hh
    have hil:=List.mem_range.1 hi
    simp only [badA,Bool.and_eq_true,decide_eq_true_eq] at hbi
    exact (huv i hil (hgood i hil hbi.2)).2 hbi.1
   unfold meanS
   rw [if_neg hb,if_neg hbu]
   refine meanZ_le s h (by simpa using hu) (by simpa using hv) fun i hi h0=>?_
   have hn:=hgood i hi h0
   obtain ⟨q1,q2⟩:=huv i hi hn
   rw [getD_mapz,getD_mapz]
   unfold zN
   rw [if_neg q2,if_neg hn]
   exact q1
structure Rk where
 d : Int
 aims : List Am
 start : Int
 out : Int
structure ROk (r : Rk) : Prop where
 aims : ∀ a ∈ r.aims,AOk r.d a.beds
 ne : r.aims ≠ []
 len : r.aims.length ≤ 20
 start : 2 ≤ r.start ∧ r.start ≤ 60
 out : 0 ≤ r.out ∧ r.out ≤ 2
theorem lowG_le (g : Int) : 1 ≤ lowG g ∧ lowG g ≤ 2:=by unfold lowG; split <;> omega
theorem score_nn {b : Int} (h : 0 ≤ b ∧ b ≤ 499) : 0 ≤ scoreOf b ∧ scoreOf b ≤ 396:=by
 have h1 : 0 ≤ b / 100 ∧ b / 100 ≤ 4:=by omega
 have h2 : 0 ≤ b % 100 ∧ b % 100 ≤ 99:=by omega
 have h3:=Int.mul_nonneg h1.1 h2.1
 have h4:=Int.mul_le_mul h1.2 h2.2 h2.1 (show (0 : Int) ≤ 4 by omega)
 unfold scoreOf; omega
def nextA (out own left : Int) (f : Int → Int) (b : Int) : Int :=
 if (decide (left - scoreOf b = 0) && opA out b) = true then 0 else if left - scoreOf b < lowG out then own else f (left - scoreOf b)
def meanA (r : Rk) (s : Bool) (own left : Int) (f : Int → Int) (a : Am) : Int:=meanS s r.d a.beds (a.beds.map fun b=>nextA r.out own left f b.b)
def leastA (l : List Int) : Int:=l.foldl min 2000000000
def valA (r : Rk) (s : Bool) (nums : List Int) (own : Int) : Nat → Int → Int
 | 0,left=>nums.getD left.toNat 0
 | k + 1,left=>leastA (r.aims.map (meanA r s own left (valA r s nums own k)))
theorem foldl_min : ∀ (l : List Int) (m : Int),l.foldl min m ≤ m ∧ (∀ x ∈ l,l.foldl min m ≤ x) ∧ (l.foldl min m = m ∨ l.foldl min m ∈ l)
 | [],m=>⟨Int.le_refl _,by simp,by simp⟩
 | y :: l, m => by
   obtain ⟨h1,h2,h3⟩:=foldl_min l (min m y)
   simp only [List.foldl_cons]
   refine ⟨by omega,fun x hx=>?_,?_⟩
   · rcases List.mem_cons.1 hx with rfl | hx
     · omega
     · exact h2 x hx
   · rcases h3 with h3 | h3
     · rw [h3]
       by_cases h : m ≤ y
       · left; omega
       · right; simp; left; omega
     · right; simp [h3]
theorem leastA_vok {l : List Int} (h : ∀ x ∈ l,VOk x) : VOk (leastA l):=by
 obtain ⟨_,_,h3⟩:=foldl_min l 2000000000
 rcases h3 with h3 | h3
 · exact .inr h3
 · exact h _ h3
theorem nextA_vok {out own left : Int} {f : Int → Int} (ho : VOk own) (hf : ∀ x,VOk (f x)) (b : Int) : VOk (nextA out own left f b):=by
 unfold nextA
 split
 · exact .inl ⟨by omega,by omega⟩
 · split
   · exact ho
   · exact hf _
theorem meanA_vok {r : Rk} {s : Bool} {own left : Int} {f : Int → Int} (ho : VOk own) (hf : ∀ x,VOk (f x)) {a : Am} (ha : AOk r.d a.beds) : VOk (meanA r s own left f a) :=
 meanS_vok s ha fun x hx=>by
  obtain ⟨b,_,rfl⟩:=List.mem_map.1 hx
  exact nextA_vok ho hf _
theorem getD_vok {nums : List Int} (h : ∀ x ∈ nums,VOk x) (i : Nat) : VOk (nums.getD i 0):=by
 rw [List.getD_eq_getElem?_getD]
 cases e : nums[i]? with
 | none=>exact .inl ⟨by simp,by simp⟩
 | some x=>exact h x (List.mem_of_getElem? e)
theorem valA_vok {r : Rk} (hr : ROk r) {s : Bool} {nums : List Int} {own : Int} (hn : ∀ x ∈ nums,VOk x) (ho : VOk own) : ∀ k left,VOk (valA r s nums own k left)
 | 0,left=>getD_vok hn _
 | k + 1, left => leastA_vok fun x hx => by
   obtain ⟨a,ha,rfl⟩:=List.mem_map.1 hx
   exact meanA_vok ho (valA_vok hr hn ho k) (hr.aims a ha)
theorem valA_le {r : Rk} (hr : ROk r) {s : Bool} {nums : List Int} {own : Int} (hn : ∀ x ∈ nums,VOk x) (ho : VOk own) (k : Nat) (left : Int) : 0 ≤ valA r s nums own k left ∧ valA r s nums own k left ≤ 2000000000:=by
 have:=valA_vok hr (s:=s) hn ho k left
 unfold VOk at this; omega
abbrev Mf:=Int → List Int → Int × List Int
def nextM (out own left : Int) (f : Mf) (b : Int) (K : List Int) : Int × List Int :=
 if (decide (left - scoreOf b = 0) && opA out b) = true then (0,K) else if left - scoreOf b < lowG out then (own,K) else f (left - scoreOf b) K
def bedsM (out own left : Int) (f : Mf) : List Bd → List Int → List Int × List Int
 | [],K=>([],K)
 | b :: l,K=>((nextM out own left f b.b K).1 :: (bedsM out own left f l (nextM out own left f b.b K).2).1,(bedsM out own left f l (nextM out own left f b.b K).2).2)
theorem bedsM_snoc (out own left : Int) (f : Mf) : ∀ (l : List Bd) (b : Bd) (K : List Int),bedsM out own left f (l ++ [b]) K =
 ((bedsM out own left f l K).1 ++ [(nextM out own left f b.b (bedsM out own left f l K).2).1],(nextM out own left f b.b (bedsM out own left f l K).2).2)
 | [],b,K=>by simp [bedsM]
 | c :: l, b, K => by
   simp only [List.cons_append,bedsM];rw [bedsM_snoc out own left f l b]
theorem bedsM_len (out own left : Int) (f : Mf) : ∀ (l : List Bd) (K : List Int),(bedsM out own left f l K).1.length = l.length
 | [],K=>rfl
 | c :: l,K=>by simp only [bedsM,List.length_cons]; rw [bedsM_len out own left f l]
def meanM (r : Rk) (s : Bool) (own left : Int) (f : Mf) (a : Am) (K : List Int) : Int × List Int :=
 (meanS s r.d a.beds (bedsM r.out own left f a.beds K).1,(bedsM r.out own left f a.beds K).2)
def aimsM (r : Rk) (s : Bool) (own left : Int) (f : Mf) : List Am → List Int → List Int × List Int
 | [],K=>([],K)
 | b :: l,K=>((meanM r s own left f b K).1 :: (aimsM r s own left f l (meanM r s own left f b K).2).1,(aimsM r s own left f l (meanM r s own left f b K).2).2)
theorem aimsM_snoc (r : Rk) (s : Bool) (own left : Int) (f : Mf) : ∀ (l : List Am) (b : Am) (K : List Int),aimsM r s own left f (l ++ [b]) K =
 ((aimsM r s own left f l K).1 ++ [(meanM r s own left f b (aimsM r s own left f l K).2).1],(meanM r s own left f b (aimsM r s own left f l K).2).2)
 | [],b,K=>by simp [aimsM]
 | c :: l, b, K => by
   simp only [List.cons_append,aimsM];rw [aimsM_snoc r s own left f l b]
theorem aimsM_len (r : Rk) (s : Bool) (own left : Int) (f : Mf) : ∀ (l : List Am) (K : List Int),(aimsM r s own left f l K).1.length = l.length
 | [],K=>rfl
 | c :: l,K=>by simp only [aimsM,List.length_cons]; rw [aimsM_len r s own left f l]
def ixK (k : Nat) (left : Int) : Nat:=61 * k + left.toNat
def valM (r : Rk) (s : Bool) (nums : List Int) (own : Int) : Nat → Mf
 | 0,left,K=>(nums.getD left.toNat 0,K)
 | k + 1, left, K => if 0 < K.getD (ixK (k + 1) left) 0 then (K.getD (ixK (k + 1) left) 0 - 1, K) else
     (leastA (aimsM r s own left (valM r s nums own k) r.aims K).1,
      (aimsM r s own left (valM r s nums own k) r.aims K).2.set (ixK (k + 1) left) (leastA (aimsM r s own left (valM r s nums own k) r.aims K).1 + 1))
structure OkK (r : Rk) (s : Bool) (nums : List Int) (own : Int) (K : List Int) : Prop where
 len : K.length = 244
 at_ : ∀ k left : Nat,k ≤ 3 → left ≤ 60 → K.getD (61 * k + left) 0 = 0 ∨ K.getD (61 * k + left) 0 = valA r s nums own k left + 1
theorem okK_zero (r : Rk) (s : Bool) (nums : List Int) (own : Int) : OkK r s nums own (List.replicate 244 0) :=
 ⟨by simp,fun k left _ _=>.inl (by rw [List.getD_eq_getElem?_getD,List.getElem?_replicate]; split <;> rfl)⟩
def MfOk (r : Rk) (s : Bool) (nums : List Int) (own : Int) (most : Int) (f : Mf) (g : Int → Int) : Prop :=
 ∀ left K,lowG r.out ≤ left → left ≤ most → OkK r s nums own K → (f left K).1 = g left ∧ OkK r s nums own (f left K).2
theorem nextM_ok {r : Rk} {s : Bool} {nums : List Int} {own left : Int} {f : Mf} {g : Int → Int} (hf : MfOk r s nums own left f g) {b : Int} (hb : 0 ≤ b ∧ b ≤ 499) {K : List Int} (hK : OkK r s nums own K) :
 (nextM r.out own left f b K).1 = nextA r.out own left g b ∧ OkK r s nums own (nextM r.out own left f b K).2:=by
 have hs:=score_nn hb
 unfold nextM nextA
 split
 · exact ⟨rfl,hK⟩
 · split
   · exact ⟨rfl,hK⟩
   · exact hf _ _ (by omega) (by omega) hK
theorem bedsM_ok {r : Rk} {s : Bool} {nums : List Int} {own left : Int} {f : Mf} {g : Int → Int} (hf : MfOk r s nums own left f g) : ∀ (l : List Bd) (K : List Int),(∀ b ∈ l,0 ≤ b.b ∧ b.b ≤ 499) → OkK r s nums own K →
 (bedsM r.out own left f l K).1 = l.map (fun b=>nextA r.out own left g b.b) ∧ OkK r s nums own (bedsM r.out own left f l K).2
 | [],K,_,hK=>⟨rfl,hK⟩
 | b :: l, K, hb, hK => by
   obtain ⟨h1,h2⟩:=nextM_ok hf (hb b (by simp)) hK
   obtain ⟨h3,h4⟩:=bedsM_ok hf l _ (fun c hc=>hb c (by simp [hc])) h2
   simp only [bedsM,List.map_cons];exact ⟨by rw [h1,h3],h4⟩
theorem aimsM_ok {r : Rk} {s : Bool} {nums : List Int} {own left : Int} {f : Mf} {g : Int → Int} (hf : MfOk r s nums own left f g) : ∀ (l : List Am) (K : List Int),(∀ a ∈ l,AOk r.d a.beds) → OkK r s nums own K →
 (aimsM r s own left f l K).1 = l.map (meanA r s own left g) ∧ OkK r s nums own (aimsM r s own left f l K).2
 | [],K,_,hK=>⟨rfl,hK⟩
 | a :: l, K, ha, hK => by
   obtain ⟨h1,h2⟩:=bedsM_ok hf a.beds K (ha a (by simp)).bed hK
   obtain ⟨h3,h4⟩:=aimsM_ok hf l _ (fun c hc=>ha c (by simp [hc])) h2
   simp only [aimsM,List.map_cons]
   refine ⟨?_,h4⟩
   have e : (meanM r s own left f a K).1 = meanA r s own left g a:=by unfold meanM meanA; rw [h1]
   have h3' : (aimsM r s own left f l (meanM r s own left f a K).2).1 = l.map (meanA r s own left g):=h3
   rw [e,h3']
theorem valM_ok {r : Rk} (hr : ROk r) {s : Bool} {nums : List Int} {own : Int} (hn : ∀ x ∈ nums,VOk x) (ho : VOk own) : ∀ k,k ≤ 3 → MfOk r s nums own 60 (valM r s nums own k) (valA r s nums own k)
 | 0,_=>fun left K _ _ hK=>⟨rfl,hK⟩
 | k + 1, hk => fun left K h1 h2 hK => by
   have hl:=lowG_le r.out
   have ih:=valM_ok hr (s:=s) hn ho k (by omega)
   obtain ⟨n,rfl⟩ : ∃ n : Nat,left = n:=⟨left.toNat,by omega⟩
   have hix : ixK (k + 1) (n : Int) = 61 * (k + 1) + n:=by simp [ixK]
   have hv:=valA_le hr (s:=s) hn ho (k + 1) n
   have hat:=hK.at_ (k + 1) n hk (by omega)
   simp only [valM,hix]
   split
   · rename_i hp
     rcases hat with h | h
     · omega
     · exact ⟨by simp only; omega,hK⟩
   · obtain ⟨g1,g2⟩:=aimsM_ok (left:=n) (fun left' K' q1 q2 q3=>ih left' K' q1 (by omega) q3) r.aims K hr.aims hK
     have e : leastA (aimsM r s own n (valM r s nums own k) r.aims K).1 = valA r s nums own (k + 1) n:=by rw [g1]; rfl
     rw [e]
     refine ⟨rfl,by simp [g2.len],fun k' l' hk' hl'=>?_⟩
     by_cases he : 61 * (k + 1) + n = 61 * k' + l'
     · have e1 : k' = k + 1:=by omega
       have e2 : l' = n:=by omega
       subst e1 e2
       right
       rw [List.getD_eq_getElem?_getD,List.getElem?_set_self (by rw [g2.len]; omega)]
       rfl
     · have:=g2.at_ k' l' hk' hl'
       rw [List.getD_eq_getElem?_getD,List.getElem?_set_ne he,← List.getD_eq_getElem?_getD]
       exact this
def LeV (c u v : Int) : Prop:=v ≠ 2000000000 → u ≤ v + c ∧ u ≠ 2000000000
theorem nextA_le {out own own' left : Int} {f g : Int → Int} {c : Int} (hc : 0 ≤ c) (ho : LeV c own own') (hf : ∀ x,lowG out ≤ x → x ≤ left → LeV c (f x) (g x)) {b : Int} (hb : 0 ≤ b ∧ b ≤ 499) : LeV c (nextA out own left f b) (nextA out own' left g b):=by
 have hs:=score_nn hb
 unfold nextA
 split
 · intro _; exact ⟨by omega,by decide⟩
 · split
   · exact ho
   · exact hf _ (by omega) (by omega)
theorem meanA_le {r : Rk} {s : Bool} {own own' left : Int} {f g : Int → Int} {c : Int} (hc : 0 ≤ c ∧ c ≤ 100000000) (ho : LeV c own own') (hf : ∀ x,lowG r.out ≤ x → x ≤ left → LeV c (f x) (g x)) (vo : VOk own) (vo' : VOk own') (vf : ∀ x,VOk (f x)) (vg : ∀ x,VOk (g x)) {a : Am} (ha : AOk r.d a.beds) :
 LeV c (meanA r s own left f a) (meanA r s own' left g a):=fun hN=>by
 have h1:=meanA_vok (s:=s) (left:=left) vo vf ha
 have h2:=meanA_vok (s:=s) (left:=left) vo' vg ha
 have h3 : meanA r s own left f a ≤ meanA r s own' left g a + c:=by
  unfold meanA
  refine meanS_le s ha hc.1 (by simp) (by simp) (fun x hx=>?_) (fun x hx=>?_) fun i hi=>?_
  · obtain ⟨b,_,rfl⟩:=List.mem_map.1 hx; exact nextA_vok vo vf _
  · obtain ⟨b,_,rfl⟩:=List.mem_map.1 hx; exact nextA_vok vo' vg _
  · obtain ⟨b,hb⟩:=opt_of_lt hi
    have e : ∀ F : Bd → Int,(a.beds.map F).getD i 0 = F b:=fun F=>by rw [List.getD_eq_getElem?_getD,List.getElem?_map,hb]; rfl
    rw [e,e]
    exact nextA_le hc.1 ho hf (ha.bed b (mem_of_opt hb))
 unfold VOk at h1 h2
 omega
theorem leastA_le {r : Rk} {c : Int} (hc : 0 ≤ c ∧ c ≤ 100000000) {F G : Am → Int} (hF : ∀ a ∈ r.aims,VOk (F a)) (hG : ∀ a ∈ r.aims,VOk (G a)) (h : ∀ a ∈ r.aims,LeV c (F a) (G a)) : LeV c (leastA (r.aims.map F)) (leastA (r.aims.map G)):=fun hN=>by
 obtain ⟨_,f2,_⟩:=foldl_min (r.aims.map F) 2000000000
 obtain ⟨_,g2,g3⟩:=foldl_min (r.aims.map G) 2000000000
 rcases g3 with g3 | g3
 · exact (hN g3).elim
 · obtain ⟨a,ha,he⟩:=List.mem_map.1 g3
   have hga : G a ≠ 2000000000:=by rw [he]; exact hN
   have h1:=h a ha hga
   have h2:=f2 (F a) (List.mem_map.2 ⟨a,ha,rfl⟩)
   have h3:=hF a ha
   have h4:=hG a ha
   unfold leastA at *
   unfold VOk at h3 h4
   rw [← he]
   omega
theorem valA_mono {r : Rk} (hr : ROk r) {s : Bool} {nums nums' : List Int} {own own' c : Int} (hc : 0 ≤ c ∧ c ≤ 100000000) (hn : ∀ x ∈ nums,VOk x) (hn' : ∀ x ∈ nums',VOk x) (vo : VOk own) (vo' : VOk own') (ho : LeV c own own') {st : Int}
 (h : ∀ x : Int,lowG r.out ≤ x → x ≤ st → LeV c (nums.getD x.toNat 0) (nums'.getD x.toNat 0)) : ∀ k left,lowG r.out ≤ left → left ≤ st → LeV c (valA r s nums own k left) (valA r s nums' own' k left)
 | 0,left,h1,h2=>h left h1 h2
 | k + 1, left, h1, h2 => by
   refine leastA_le hc (fun a ha=>meanA_vok vo (valA_vok hr hn vo k) (hr.aims a ha)) (fun a ha=>meanA_vok vo' (valA_vok hr hn' vo' k) (hr.aims a ha)) fun a ha=>?_
   exact meanA_le hc ho (fun x q1 q2=>valA_mono hr hc hn hn' vo vo' ho h k x q1 (by omega)) vo vo' (valA_vok hr hn vo k) (valA_vok hr hn' vo' k) (hr.aims a ha)
def holdsA (r : Rk) (s : Bool) (nums : List Int) (st : Nat) : Bool :=
 if s then decide (nums.getD st 0 ≤ 1000000 + valA r s nums (nums.getD st 0) 3 st)
 else decide (1000000 + valA r s nums (nums.getD st 0) 3 st ≤ nums.getD st 0) || decide (nums.getD st 0 = 2000000000)
def srch (f : Nat → Bool) (i j : Nat) : Nat :=
 if h : i < j then (if f ((i + j) / 2) then srch f i ((i + j) / 2) else srch f ((i + j) / 2 + 1) j) else i
termination_by j - i
decreasing_by all_goals omega
theorem srch_spec (f : Nat → Bool) (i j : Nat) (hij : i ≤ j) (mono : ∀ a b,i ≤ a → a ≤ b → b < j → f a = true → f b = true) :
 i ≤ srch f i j ∧ srch f i j ≤ j ∧ (∀ x,i ≤ x → x < srch f i j → f x = false) ∧ (srch f i j < j → f (srch f i j) = true):=by
 by_cases h : i < j
 · rw [srch,dif_pos h]
   cases hf : f ((i + j) / 2)
   · rw [if_neg (by simp)]
     obtain ⟨h1,h2,h3,h4⟩:=srch_spec f ((i + j) / 2 + 1) j (by omega) fun a b q1 q2 q3 q4=>mono a b (by omega) q2 q3 q4
     refine ⟨by omega,h2,fun x hx hx2=>?_,h4⟩
     by_cases hm : x ≤ (i + j) / 2
     · cases hfx : f x
       · rfl
       · have:=mono x _ hx hm (by omega) hfx
         rw [hf] at this; cases this
     · exact h3 x (by omega) hx2
   · rw [if_pos rfl]
     obtain ⟨h1,h2,h3,h4⟩:=srch_spec f i ((i + j) / 2) (by omega) fun a b q1 q2 q3 q4=>mono a b q1 q2 (by omega) q4
     refine ⟨h1,by omega,h3,fun hlt=>?_⟩
     by_cases he : srch f i ((i + j) / 2) < (i + j) / 2
     · exact h4 he
     · have : srch f i ((i + j) / 2) = (i + j) / 2:=by omega
       rw [this]; exact hf
 · rw [srch,dif_neg h]
   exact ⟨Nat.le_refl _,hij,fun x h1 h2=>by omega,fun h'=>by omega⟩
termination_by j - i
decreasing_by all_goals omega
def halv (f : Int → Bool) (good bad : Int) : Int :=
 if h : 1 < max good bad - min good bad then
  (if f (min good bad + (max good bad - min good bad) / 2) then halv f (min good bad + (max good bad - min good bad) / 2) bad else halv f good (min good bad + (max good bad - min good bad) / 2))
 else good
termination_by (max good bad - min good bad).toNat
decreasing_by all_goals omega
theorem halv_up (f : Int → Bool) (good bad : Int) (h : bad < good) (mono : ∀ a b,bad < a → a ≤ b → b < good → f a = true → f b = true) :
 bad < halv f good bad ∧ halv f good bad ≤ good ∧ (halv f good bad < good → f (halv f good bad) = true) ∧ ∀ x,bad < x → x < halv f good bad → f x = false:=by
 rw [halv]
 have e1 : max good bad = good:=by omega
 have e2 : min good bad = bad:=by omega
 rw [e1,e2]
 split
 · rename_i h1
   generalize hm : bad + (good - bad) / 2 = m
   have hmr : bad < m ∧ m < good:=by omega
   cases hf : f m
   · rw [if_neg (by simp)]
     obtain ⟨g1,g2,g3,g4⟩:=halv_up f good m hmr.2 fun a b q1 q2 q3 q4=>mono a b (by omega) q2 q3 q4
     refine ⟨by omega,g2,g3,fun x hx hx2=>?_⟩
     by_cases hxm : x ≤ m
     · cases hfx : f x
       · rfl
       · have:=mono x m hx hxm hmr.2 hfx
         rw [hf] at this; cases this
     · exact g4 x (by omega) hx2
   · rw [if_pos rfl]
     obtain ⟨g1,g2,g3,g4⟩:=halv_up f m bad hmr.1 fun a b q1 q2 q3 q4=>mono a b q1 q2 (by omega) q4
     refine ⟨g1,by omega,fun hlt=>?_,g4⟩
     by_cases he : halv f m bad < m
     · exact g3 he
     · have : halv f m bad = m:=by omega
       rw [this]; exact hf
 · exact ⟨h,Int.le_refl _,fun h'=>by omega,fun x q1 q2=>by omega⟩
termination_by (good - bad).toNat
decreasing_by all_goals omega
theorem halv_down (f : Int → Bool) (good bad : Int) (h : good < bad) (mono : ∀ a b,good < a → a ≤ b → b < bad → f b = true → f a = true) :
 good ≤ halv f good bad ∧ halv f good bad < bad ∧ (good < halv f good bad → f (halv f good bad) = true) ∧ ∀ x,halv f good bad < x → x < bad → f x = false:=by
 rw [halv]
 have e1 : max good bad = bad:=by omega
 have e2 : min good bad = good:=by omega
 rw [e1,e2]
 split
 · rename_i h1
   generalize hm : good + (bad - good) / 2 = m
   have hmr : good < m ∧ m < bad:=by omega
   cases hf : f m
   · rw [if_neg (by simp)]
     obtain ⟨g1,g2,g3,g4⟩:=halv_down f good m hmr.1 fun a b q1 q2 q3 q4=>mono a b q1 q2 (by omega) q4
     refine ⟨g1,by omega,g3,fun x hx hx2=>?_⟩
     by_cases hxm : m ≤ x
     · cases hfx : f x
       · rfl
       · have:=mono m x hmr.1 hxm hx2 hfx
         rw [hf] at this; cases this
     · exact g4 x hx (by omega)
   · rw [if_pos rfl]
     obtain ⟨g1,g2,g3,g4⟩:=halv_down f m bad hmr.2 fun a b q1 q2 q3 q4=>mono a b (by omega) q2 q3 q4
     refine ⟨by omega,g2,fun hlt=>?_,g4⟩
     by_cases he : m < halv f m bad
     · exact g3 he
     · have : halv f m bad = m:=by omega
       rw [this]; exact hf
 · exact ⟨Int.le_refl _,h,fun h'=>by omega,fun x q1 q2=>by omega⟩
termination_by (bad - good).toNat
decreasing_by all_goals omega
def numA (r : Rk) (s : Bool) (nums : List Int) (st : Nat) : Int :=
 if s then ((srch (fun k=>!holdsA r s (nums.set st ((k : Int) + 1)) st) 0 1000000000 : Nat) : Int)
 else if 1000000000 < 1000000 + ((srch (fun k=>holdsA r s (nums.set st (1000000 + (k : Int))) st) 0 999000001 : Nat) : Int) then 2000000000
 else 1000000 + ((srch (fun k=>holdsA r s (nums.set st (1000000 + (k : Int))) st) 0 999000001 : Nat) : Int)
def numB (r : Rk) (s : Bool) (nums : List Int) (st : Nat) : Int :=
 let x:=if s then halv (fun n=>holdsA r s (nums.set st n) st) 0 1000000001 else halv (fun n=>holdsA r s (nums.set st n) st) 1000000001 999999
 if 1000000000 < x then 2000000000 else x
theorem set_vok {nums : List Int} (h : ∀ x ∈ nums,VOk x) (st : Nat) {n : Int} (hn : VOk n) : ∀ x ∈ nums.set st n,VOk x:=fun x hx=>by
 rcases List.mem_or_eq_of_mem_set hx with hx | rfl
 · exact h x hx
 · exact hn
theorem getD_set {nums : List Int} {st : Nat} (h : st < nums.length) (n : Int) (i : Nat) : (nums.set st n).getD i 0 = if st = i then n else nums.getD i 0:=by
 rw [List.getD_eq_getElem?_getD]
 split
 · rename_i e; subst e; rw [List.getElem?_set_self h]; rfl
 · rename_i e; rw [List.getElem?_set_ne e,← List.getD_eq_getElem?_getD]
theorem val_step {r : Rk} (hr : ROk r) {s : Bool} {nums : List Int} {st : Nat} (hn : ∀ x ∈ nums,VOk x) (hst : st < nums.length) (hlo : lowG r.out ≤ st) {n : Int} (h0 : 0 ≤ n) (h1 : n < 1000000000) :
 LeV 1 (valA r s (nums.set st (n + 1)) (n + 1) 3 st) (valA r s (nums.set st n) n 3 st):=by
 refine valA_mono hr (by omega) (set_vok hn st (.inl ⟨by omega,by omega⟩)) (set_vok hn st (.inl ⟨by omega,by omega⟩)) (.inl ⟨by omega,by omega⟩) (.inl ⟨by omega,by omega⟩) (fun _=>⟨by omega,by omega⟩) (st:=st) (fun x _ _=>?_) 3 st hlo (Int.le_refl _)
 rw [getD_set hst,getD_set hst]
 split
 · exact fun _=>⟨by omega,by omega⟩
 · exact fun h=>⟨by omega,h⟩
theorem holds_up {r : Rk} (hr : ROk r) {nums : List Int} {st : Nat} (hn : ∀ x ∈ nums,VOk x) (hst : st < nums.length) (hlo : lowG r.out ≤ st) {a b : Int} (h0 : 0 ≤ a) (hab : a ≤ b) (h1 : b ≤ 1000000000) (ha : holdsA r false (nums.set st a) st = true) : holdsA r false (nums.set st b) st = true:=by
 obtain ⟨k,rfl⟩ : ∃ k : Nat,b = a + k:=⟨(b - a).toNat,by omega⟩
 clear hab
 induction k with
 | zero=>simpa using ha
 | succ k ih =>
   have ih:=ih (by omega)
   have hv:=val_step hr (s:=false) hn hst hlo (n:=a + k) (by omega) (by omega)
   have hle:=valA_le hr (s:=false) (set_vok hn st (n:=a + k) (.inl ⟨by omega,by omega⟩)) (own:=a + k) (.inl ⟨by omega,by omega⟩) 3 st
   have e : a + ((k + 1 : Nat) : Int) = a + k + 1:=by omega
   rw [e]
   unfold holdsA at ih ⊢
   simp only [getD_set hst,if_true,Bool.false_eq_true,if_false,Bool.or_eq_true,decide_eq_true_eq] at ih ⊢
   have h3:=hv (by omega)
   left; omega
theorem holds_down {r : Rk} (hr : ROk r) {nums : List Int} {st : Nat} (hn : ∀ x ∈ nums,VOk x) (hst : st < nums.length) (hlo : lowG r.out ≤ st) {a b : Int} (h0 : 0 ≤ a) (hab : a ≤ b) (h1 : b ≤ 1000000000) (ha : holdsA r true (nums.set st b) st = true) : holdsA r true (nums.set st a) st = true:=by
 obtain ⟨k,rfl⟩ : ∃ k : Nat,b = a + k:=⟨(b - a).toNat,by omega⟩
 clear hab
 induction k with
 | zero=>simpa using ha
 | succ k ih =>
   refine ih (by omega) ?_
   have hv:=val_step hr (s:=true) hn hst hlo (n:=a + k) (by omega) (by omega)
   have e : a + ((k + 1 : Nat) : Int) = a + k + 1:=by omega
   rw [e] at ha
   unfold holdsA at ha ⊢
   simp only [getD_set hst,if_true,decide_eq_true_eq] at ha ⊢
   by_cases hN : valA r true (nums.set st (a + k)) (a + k) 3 st = 2000000000
   · rw [hN]; omega
   · have:=hv hN; omega
theorem num_eq {r : Rk} (hr : ROk r) {s : Bool} {nums : List Int} {st : Nat} (hn : ∀ x ∈ nums,VOk x) (hst : st < nums.length) (hlo : lowG r.out ≤ st) : numA r s nums st = numB r s nums st:=by
 cases s
 · obtain ⟨h1,h2,h3,h4⟩:=srch_spec (fun k=>holdsA r false (nums.set st (1000000 + (k : Int))) st) 0 999000001 (by omega) fun a b q1 q2 q3 q4=>holds_up hr hn hst hlo (by omega) (by omega) (by omega) q4
   obtain ⟨g1,g2,g3,g4⟩:=halv_up (fun n=>holdsA r false (nums.set st n) st) 1000000001 999999 (by omega) fun a b q1 q2 q3 q4=>holds_up hr hn hst hlo (by omega) q2 (by omega) q4
   unfold numA numB
   simp only [Bool.false_eq_true,if_false]
   generalize srch (fun k=>holdsA r false (nums.set st (1000000 + (k : Int))) st) 0 999000001 = k at *
   generalize halv (fun n=>holdsA r false (nums.set st n) st) 1000000001 999999 = x at *
   have : (1000000 : Int) + k = x:=by
    rcases Int.lt_trichotomy (1000000 + (k : Int)) x with h | h | h
    · have e1:=g4 (1000000 + (k : Int)) (by omega) h
      have e2:=h4 (by omega)
      exact absurd (e1.symm.trans e2) (by decide)
    · exact h
    · obtain ⟨j,rfl⟩ : ∃ j : Nat,x = 1000000 + j:=⟨(x - 1000000).toNat,by omega⟩
      have e1:=h3 j (by omega) (by omega)
      have e2:=g3 (by omega)
      exact absurd (e1.symm.trans e2) (by decide)
   rw [this]
 · obtain ⟨h1,h2,h3,h4⟩:=srch_spec (fun k=>!holdsA r true (nums.set st ((k : Int) + 1)) st) 0 1000000000 (by omega) fun a b q1 q2 q3 q4=>by
    simp only [Bool.not_eq_true'] at q4 ⊢
    cases hb : holdsA r true (nums.set st ((b : Int) + 1)) st
    · rfl
    · have:=holds_down hr hn hst hlo (a:=(a : Int) + 1) (by omega) (by omega) (by omega) hb
      rw [q4] at this; cases this
   obtain ⟨g1,g2,g3,g4⟩:=halv_down (fun n=>holdsA r true (nums.set st n) st) 0 1000000001 (by omega) fun a b q1 q2 q3 q4=>holds_down hr hn hst hlo (by omega) q2 (by omega) q4
   unfold numA numB
   simp only [if_true]
   generalize srch (fun k=>!holdsA r true (nums.set st ((k : Int) + 1)) st) 0 1000000000 = k at *
   generalize halv (fun n=>holdsA r true (nums.set st n) st) 0 1000000001 = x at *
   rw [if_neg (by omega)]
   rcases Int.lt_trichotomy (k : Int) x with h | h | h
   · have e1:=g3 (by omega)
     have e2:=h4 (by omega)
     simp only [Bool.not_eq_true'] at e1 e2
     have:=holds_down hr hn hst hlo (a:=(k : Int) + 1) (by omega) (by omega) (by omega) e1
     rw [e2] at this; cases this
   · exact h
   · have e1:=g4 k h (by omega)
     have e2:=h3 (k - 1) (by omega) (by omega)
     have e : ((k - 1 : Nat) : Int) + 1 = k:=by omega
     simp only [Bool.not_eq_false'] at e1 e2
     rw [e,e1] at e2; cases e2
theorem numA_vok {r : Rk} (hr : ROk r) {s : Bool} {nums : List Int} {st : Nat} (hn : ∀ x ∈ nums,VOk x) (hst : st < nums.length) (hlo : lowG r.out ≤ st) : VOk (numA r s nums st):=by
 cases s
 · have h2:=(srch_spec (fun k=>holdsA r false (nums.set st (1000000 + (k : Int))) st) 0 999000001 (by omega) fun a b q1 q2 q3 q4=>holds_up hr hn hst hlo (by omega) (by omega) (by omega) q4).2.1
   unfold numA VOk
   simp only [Bool.false_eq_true,if_false]
   split <;> omega
 · have h2:=(srch_spec (fun k=>!holdsA r true (nums.set st ((k : Int) + 1)) st) 0 1000000000 (by omega) fun a b q1 q2 q3 q4=>by
    simp only [Bool.not_eq_true'] at q4 ⊢
    cases hb : holdsA r true (nums.set st ((b : Int) + 1)) st
    · rfl
    · have:=holds_down hr hn hst hlo (a:=(a : Int) + 1) (by omega) (by omega) (by omega) hb
      rw [q4] at this; cases this).2.1
   unfold numA VOk
   simp only [if_true]
   omega
theorem numA_upper {r : Rk} (hr : ROk r) {nums : List Int} {st : Nat} (hn : ∀ x ∈ nums,VOk x) (hst : st < nums.length) (hlo : lowG r.out ≤ st) {n : Int} (h0 : 1000000 ≤ n ∧ n ≤ 1000000000) (h1 : holdsA r false (nums.set st n) st = true) (h2 : n = 1000000 ∨ holdsA r false (nums.set st (n - 1)) st = false) : numA r false nums st = n:=by
 obtain ⟨g1,g2,g3,g4⟩:=srch_spec (fun k=>holdsA r false (nums.set st (1000000 + (k : Int))) st) 0 999000001 (by omega) fun a b q1 q2 q3 q4=>holds_up hr hn hst hlo (by omega) (by omega) (by omega) q4
 unfold numA
 simp only [Bool.false_eq_true,if_false]
 generalize srch (fun k=>holdsA r false (nums.set st (1000000 + (k : Int))) st) 0 999000001 = k at *
 have : (1000000 : Int) + k = n:=by
  rcases Int.lt_trichotomy (1000000 + (k : Int)) n with h | h | h
  · have e:=g4 (by omega)
    rcases h2 with h2 | h2
    · omega
    · have:=holds_up hr hn hst hlo (b:=n - 1) (by omega) (by omega) (by omega) e
      rw [h2] at this; cases this
  · exact h
  · obtain ⟨j,rfl⟩ : ∃ j : Nat,n = 1000000 + j:=⟨(n - 1000000).toNat,by omega⟩
    have e:=g3 j (by omega) (by omega)
    exact absurd (h1.symm.trans e) (by decide)
 rw [this,if_neg (by omega)]
theorem numA_never {r : Rk} (hr : ROk r) {nums : List Int} {st : Nat} (hn : ∀ x ∈ nums,VOk x) (hst : st < nums.length) (hlo : lowG r.out ≤ st) (h1 : holdsA r false (nums.set st 1000000000) st = false) : numA r false nums st = 2000000000:=by
 obtain ⟨g1,g2,g3,g4⟩:=srch_spec (fun k=>holdsA r false (nums.set st (1000000 + (k : Int))) st) 0 999000001 (by omega) fun a b q1 q2 q3 q4=>holds_up hr hn hst hlo (by omega) (by omega) (by omega) q4
 unfold numA
 simp only [Bool.false_eq_true,if_false]
 generalize srch (fun k=>holdsA r false (nums.set st (1000000 + (k : Int))) st) 0 999000001 = k at *
 rw [if_pos]
 by_cases h : k < 999000001
 · have:=holds_up hr hn hst hlo (b:=1000000000) (by omega) (by omega) (by omega) (g4 h)
   rw [h1] at this; cases this
 · omega
theorem numA_lower {r : Rk} (hr : ROk r) {nums : List Int} {st : Nat} (hn : ∀ x ∈ nums,VOk x) (hst : st < nums.length) (hlo : lowG r.out ≤ st) {n : Int} (h0 : 0 ≤ n ∧ n ≤ 1000000000) (h1 : n = 0 ∨ holdsA r true (nums.set st n) st = true) (h2 : n = 1000000000 ∨ holdsA r true (nums.set st (n + 1)) st = false) : numA r true nums st = n:=by
 obtain ⟨g1,g2,g3,g4⟩:=srch_spec (fun k=>!holdsA r true (nums.set st ((k : Int) + 1)) st) 0 1000000000 (by omega) fun a b q1 q2 q3 q4=>by
  simp only [Bool.not_eq_true'] at q4 ⊢
  cases hb : holdsA r true (nums.set st ((b : Int) + 1)) st
  · rfl
  · have:=holds_down hr hn hst hlo (a:=(a : Int) + 1) (by omega) (by omega) (by omega) hb
    rw [q4] at this; cases this
 unfold numA
 simp only [if_true]
 generalize srch (fun k=>!holdsA r true (nums.set st ((k : Int) + 1)) st) 0 1000000000 = k at *
 rcases Int.lt_trichotomy (k : Int) n with h | h | h
 · have e:=g4 (by omega)
   simp only [Bool.not_eq_true'] at e
   rcases h1 with h1 | h1
   · omega
   · have:=holds_down hr hn hst hlo (a:=(k : Int) + 1) (by omega) (by omega) (by omega) h1
     rw [e] at this; cases this
 · exact h
 · obtain ⟨j,rfl⟩ : ∃ j : Nat,n = j:=⟨n.toNat,by omega⟩
   have e:=g3 j (by omega) (by omega)
   simp only [Bool.not_eq_false'] at e
   rcases h2 with h2 | h2
   · omega
   · rw [h2] at e; cases e
def tabA (r : Rk) (s : Bool) : Nat → List Int
 | 0=>List.replicate (r.start + 1).toNat 0
 | i + 1=>(tabA r s i).set ((lowG r.out).toNat + i) (numA r s (tabA r s i) ((lowG r.out).toNat + i))
def tabB (r : Rk) (s : Bool) : Nat → List Int
 | 0=>List.replicate (r.start + 1).toNat 0
 | i + 1=>(tabB r s i).set ((lowG r.out).toNat + i) (numB r s (tabB r s i) ((lowG r.out).toNat + i))
def cntA (r : Rk) : Nat:=(r.start + 1 - lowG r.out).toNat
theorem tab_eq {r : Rk} (hr : ROk r) (s : Bool) : ∀ i,i ≤ cntA r → tabA r s i = tabB r s i ∧ (tabA r s i).length = (r.start + 1).toNat ∧ ∀ x ∈ tabA r s i,VOk x
 | 0,_=>⟨rfl,by simp [tabA],fun x hx=>.inl (by have:=List.eq_of_mem_replicate hx; omega)⟩
 | i + 1, hi => by
   obtain ⟨h1,h2,h3⟩:=tab_eq hr s i (by omega)
   have hl:=lowG_le r.out
   have hs:=hr.start
   have hlen : (lowG r.out).toNat + i < (tabA r s i).length:=by rw [h2]; unfold cntA at hi; omega
   have hlo : lowG r.out ≤ ((lowG r.out).toNat + i : Nat):=by omega
   refine ⟨?_,by simp [tabA,h2],?_⟩
   · simp only [tabA,tabB];rw [num_eq hr h3 hlen hlo,h1]
   · exact set_vok h3 _ (numA_vok hr h3 hlen hlo)
def checkR (r : Rk) : Int:=if checkV r.d r.aims = 0 then (if (2 ≤ r.start ∧ r.start ≤ 60) ∧ 0 ≤ r.out ∧ r.out ≤ 2 then 0 else 2) else checkV r.d r.aims
theorem seqOk_bed : ∀ (l : List Bd) (p : Option Int),seqOk p l = true → ∀ c ∈ l,c.b = 0 ∨ bedOk c.b = true
 | [],_,_=>fun c hc=>by cases hc
 | x :: l, p, h => fun c hc => by
   simp only [seqOk,Bool.and_eq_true,Bool.or_eq_true,decide_eq_true_eq] at h
   rcases List.mem_cons.1 hc with rfl | hc
   · exact h.1.1
   · exact seqOk_bed l _ h.2 c hc
theorem checkR_zero {r : Rk} (h : checkR r = 0) : checkV r.d r.aims = 0 ∧ ROk r:=by
 have hc : checkV r.d r.aims = 0:=by
  by_cases hc : checkV r.d r.aims = 0
  · exact hc
  · unfold checkR at h; rw [if_neg hc] at h; exact (hc h).elim
 have hs : (2 ≤ r.start ∧ r.start ≤ 60) ∧ 0 ≤ r.out ∧ r.out ≤ 2:=by
  unfold checkR at h
  rw [if_pos hc] at h
  split at h
  · assumption
  · cases h
 obtain ⟨h1,h2,h3,h4,h5⟩:=checkV_zero hc
 refine ⟨hc,fun a ha=>?_,h3,h1,hs.1,hs.2⟩
 obtain ⟨g1,g2,g3,g4,g5,g6⟩:=aimOk_facts (h5 a ha)
 exact ⟨h4,g4,g5,g6,h2 a ha,g2,seqOk_bed _ _ g3⟩
abbrev rkR (r : Rk) : RV:=.ag [i64 r.d,aimsR r.aims,i64 r.start,i64 r.out]
set_option maxHeartbeats 8000000
theorem any_step {α : Type} {p : α → Bool} {l : List α} {k : Nat} {y : α} (hy : l[k]? = some y) : (l.take (k + 1)).any p = ((l.take k).any p || p y):=by rw [take_of_opt hy]; simp
theorem any_of {α : Type} {p : α → Bool} {l : List α} {k : Nat} {y : α} (hy : l[k]? = some y) (h : p y = true) : l.any p = true:=List.any_eq_true.2 ⟨y,mem_of_opt hy,h⟩
def bigB (a : Am) : Bool:=decide ((6 < a.beds.length ∧ a.beds.length ≤ 10) ∨ 12 < a.beds.length)
def greatR (r : Rk) : Bool:=decide ((24 < r.start ∧ r.start ≤ 60) ∨ (4 < r.aims.length ∧ r.aims.length ≤ 20) ∨ 25 < r.aims.length) || r.aims.any bigB
end Go.Proofs.Ytgfbenanljjgaaa.Du.Th.Ai

namespace Go.Oc
open Go Go.RowKit
set_option linter.unusedVariables false
set_option linter.unusedSimpArgs false
def unl (listed : Array Bool) : Nat → Nat
 | 0=>0
 | m + 1=>unl listed m + if listed.getD m true then 0 else 1
theorem getD_setT {listed : Array Bool} {i j : Nat} : (listed.setIfInBounds i true).getD j true = if j = i then true else listed.getD j true:=by
 split
 · rename_i e
   subst e
   simp only [Array.getD_eq_getD_getElem?,Array.getElem?_setIfInBounds]
   split
   · split <;> simp_all
   · simp_all
 · rename_i e
   simp only [Array.getD_eq_getD_getElem?,Array.getElem?_setIfInBounds];rw [if_neg (fun h=>e h.symm)]
theorem unl_same {listed : Array Bool} {i : Nat} : ∀ m,m ≤ i → unl (listed.setIfInBounds i true) m = unl listed m
 | 0,_=>rfl
 | m + 1, h => by
   have e2 : m ≠ i:=by omega
   have e3:=unl_same (listed:=listed) (i:=i) m (by omega)
   simp only [unl,getD_setT,e3,if_neg e2]
theorem unl_set {listed : Array Bool} {i : Nat} (hi : listed.getD i true = false) : ∀ m,i < m → unl (listed.setIfInBounds i true) m + 1 = unl listed m
 | 0,h=>by omega
 | m + 1, h => by
   simp only [unl,getD_setT]
   by_cases e : i = m
   · subst e
     rw [unl_same _ (Nat.le_refl _)]
     simp [hi]
   · have:=unl_set hi m (by omega)
     have e2 : m ≠ i:=fun h=>e h.symm
     rw [if_neg e2]
     omega
theorem unl_zero {listed : Array Bool} : ∀ m,unl listed m = 0 → ∀ j,j < m → listed.getD j true = true
 | 0,_,j,h=>by omega
 | m + 1, h, j, hj => by
   simp only [unl] at h
   by_cases e : j = m
   · subst e
     by_cases hx : listed.getD j true = true
     · exact hx
     · simp [hx] at h
   · exact unl_zero m (by omega) j (by omega)
def stepAll (P : Program) (ops : Array Oper) (n : Nat) (F : (Nat → Bool) → (Nat → Nat) → List (Nat × AV)) (R : (Nat → Bool) → (Nat → Nat) → List (Nat × RowC)) : Nat → List Oper → Prop
 | _,[]=>True
 | k,o :: rest=>(∀ b vs,(∀ j e,j < ops.size → (deps ops j).contains e = true → b j = true → b e = true) → b k = false → (∀ e ∈ deps ops k,b e = true) →
  xop P false o (FitV n (F (upd b k true)) (R (upd b k true))) (st n (F b vs) vs (R b vs))) ∧ stepAll P ops n F R (k + 1) rest
theorem stepAll_get {P : Program} {ops : Array Oper} {n : Nat} {F : (Nat → Bool) → (Nat → Nat) → List (Nat × AV)} {R : (Nat → Bool) → (Nat → Nat) → List (Nat × RowC)} : ∀ {l : List Oper} {k i : Nat} {o : Oper},stepAll P ops n F R k l → l[i]? = some o →
 ∀ b vs, (∀ j e, j < ops.size → (deps ops j).contains e = true → b j = true → b e = true) → b (k + i) = false → (∀ e ∈ deps ops (k + i), b e = true) →
   xop P false o (FitV n (F (upd b (k + i) true)) (R (upd b (k + i) true))) (st n (F b vs) vs (R b vs))
 | [],_,_,_,_,h=>by simp at h
 | x :: l, k, 0, o, hs, h => by
   simp only [List.getElem?_cons_zero,Option.some.injEq] at h
   subst h
   exact hs.1
 | x :: l, k, i + 1, o, hs, h => by
   have:=stepAll_get (k:=k + 1) (i:=i) hs.2 (by simpa using h)
   rwa [show k + 1 + i = k + (i + 1) by omega] at this
def upOk (ops : Array Oper) : Bool:=(List.range ops.size).all fun j=>(deps ops j).all fun e=>decide (e < j)
section
variable {P : Program} {C : Ctx} {s : AS} {a : Act} {w : World} {ops : Array Oper}
theorem ready_nil {listed : Array Bool} (hu : upOk ops = true) (h : Region.ready .any ops listed = []) (hsz : listed.size = ops.size) : ∀ j,j < ops.size → listed.getD j true = true:=by
 intro j
 induction j using Nat.strongRecOn with
 | _ j ih =>
   intro hj
   by_cases hx : listed.getD j true = true
   · exact hx
   · exfalso
     have ho : ops[j]? = some ops[j]:=Array.getElem?_eq_getElem hj
     have hr : j ∈ Region.ready .any ops listed:=by
      refine mem_ready.2 ⟨by simpa using hx,ops[j],ho,fun e he hb=>?_⟩
      have hm : e.on ∈ deps ops j:=by unfold deps; rw [ho]; exact List.mem_map.2 ⟨e,List.mem_filter.2 ⟨by simpa using he,hb⟩,rfl⟩
      have hlt:=List.all_eq_true.1 (List.all_eq_true.1 hu j (by simpa using hj)) e.on hm
      simp only [decide_eq_true_eq] at hlt
      have:=ih e.on hlt (by omega)
      have h2 : e.on < listed.size:=by omega
      simpa [h2] using this
     rw [h] at hr
     cases hr
theorem inv_any {Q : AS → Prop} {Q' : Exit → Act → World → Prop} (hQ : ∀ s a w,Q s → SRel C s a w → Q' .normal a w) {n : Nat} {F : (Nat → Bool) → (Nat → Nat) → List (Nat × AV)} {R : (Nat → Bool) → (Nat → Nat) → List (Nat × RowC)}
 (hd : dstOk ops n = true) (hg : ops.all (fun o=>o.guard.isNone) = true) (hu : upOk ops = true) (hstep : stepAll P ops n F R 0 ops.toList)
 (hend : ∀ b vs,(∀ j,b j = true) → Q (st n (F b vs) vs (R b vs))) :
 ∀ (fuel : Nat) (vs : Nat → Nat) (listed : Array Bool) (a : Act) (w : World), listed.size = ops.size → down ops listed → unl listed ops.size ≤ fuel → SRel C (st n (F (fun j => listed.getD j true) vs) vs (R (fun j => listed.getD j true) vs)) a w →
   wpAnyIn (fnc C.rd) 0 P .any ops Q' fuel listed a w:=by
 have all : ∀ {listed : Array Bool},listed.size = ops.size → (∀ j,j < ops.size → listed.getD j true = true) → ∀ j,(fun j=>listed.getD j true) j = true:=fun {listed} hsz h j=>by
  by_cases hj : j < ops.size
  · exact h j hj
  · show listed.getD j true = true
    have : ¬ j < listed.size:=by omega
    simp [this]
 intro fuel
 induction fuel with
 | zero =>
   intro vs listed a w hsz hdn hf hs
   have h0:=unl_zero (listed:=listed) ops.size (by omega)
   refine ⟨List.eq_nil_iff_forall_not_mem.2 fun j hj=>?_,hQ _ _ _ (hend _ _ (all hsz h0)) hs⟩
   obtain ⟨h1,o,ho,_⟩:=mem_ready.1 hj
   have:=h0 j (Array.getElem?_eq_some_iff.1 ho).1
   rw [this] at h1
   cases h1
 | succ fuel ih =>
   intro vs listed a w hsz hdn hf hs
   refine ⟨fun h0=>hQ _ _ _ (hend _ _ (all hsz (ready_nil hu h0 hsz))) hs,fun i hi=>?_⟩
   obtain ⟨hi1,o,ho,hall⟩:=mem_ready.1 hi
   unfold wpOpIn
   rw [ho]
   simp only
   have hil : i < ops.size:=(Array.getElem?_eq_some_iff.1 ho).1
   have hgo : o.guard = none:=by
    have:=Array.all_eq_true_iff_forall_mem.1 hg o (Array.mem_of_getElem? ho)
    simpa using this
   obtain ⟨p,hp⟩:=hs
   rw [if_pos (wantA_sound hp (by simp [wantA,hgo]))]
   have hx:=stepAll_get (k:=0) (i:=i) hstep (by rw [Array.getElem?_toList]; exact ho) (fun j=>listed.getD j true) vs (fun j e hj he hb=>?_) (by rw [Nat.zero_add]; exact hi1) (fun e he=>?_)
   · rw [Nat.zero_add] at hx
     refine xop_sound hp hx (dstOk_get hd ho) (fun a' w' p' s' hs' hn hK=>?_) (dstOk_nd hd ho)
     obtain ⟨vs',hsub⟩:=hK
     have e : upd (fun j=>listed.getD j true) i true = fun j=>(listed.setIfInBounds i true).getD j true:=by
      funext j
      rw [getD_setT]
      rfl
     rw [e] at hsub
     exact ih vs' _ a' w' (by simpa using hsz) (down_set hdn hi) (by have:=unl_set hi1 ops.size hil; omega) (hsub C a' w' ⟨p',hs'⟩)
   · have hjs : j < listed.size:=by omega
     have hb' : listed.getD j true = true:=hb
     have h2:=hdn j (by simpa [hjs] using hb') e (by simpa using he)
     show listed.getD e true = true
     by_cases hes : e < listed.size
     · simpa [hes] using h2
     · simp [hes]
   · have h2:=ready_deps hi e (by simpa using he)
     show listed.getD e true = true
     by_cases hes : e < listed.size
     · simpa [hes] using h2
     · simp [hes]
end
theorem awp_inv {P : Program} {C : Ctx} {id : Nat} {l : List Oper} {n : Nat} {Q : Exit → AS → Prop} {s : AS} (F : (Nat → Bool) → (Nat → Nat) → List (Nat × AV)) (R : (Nat → Bool) → (Nat → Nat) → List (Nat × RowC)) (hm : P.follows .mixedOrders = true)
 (hd : dstOk l.toArray n = true) (hg : l.toArray.all (fun o=>o.guard.isNone) = true) (hu : upOk l.toArray = true) (h0 : FitV n (F fun j=>decide (l.length ≤ j)) (R fun j=>decide (l.length ≤ j)) s)
 (hstep : stepAll P l.toArray n F R 0 l) (hend : ∀ b vs,(∀ j,b j = true) → Q .normal (st n (F b vs) vs (R b vs))) : awp P C (.region id l.toArray true) Q s:=fun a w hs=>by
 obtain ⟨vs,hsub⟩:=h0
 obtain ⟨p,hp⟩:=hsub C a w hs
 have hs' : SR C p _ a { w with drawn:=w.drawn + 1 }:=hp.below (w':=w.drew) ((Below.refl _ _).drew) (fun _ h=>h) (fun _ h=>.inl h) hp.rb
 refine wpIn_region_any hm ?_
 have e : (fun j=>(Array.replicate l.toArray.size false).getD j true) = fun j=>decide (l.length ≤ j):=by
  funext j
  by_cases h : j < l.length
  · have : ¬ l.length ≤ j:=by omega
    simp [h,this]
  · have : l.length ≤ j:=by omega
    simp [h,this]
 refine inv_any (Q:=fun s=>Q .normal s) (n:=n) (F:=F) (R:=R) (fun s a w hq hs=>⟨s,hs,hq⟩) hd hg hu (by simpa using hstep) hend _ vs _ _ _ (by simp) (fun j hj=>?_) ?_ ?_
 · exfalso
   simp only [Array.getD_eq_getD_getElem?,Array.getElem?_replicate] at hj
   split at hj <;> simp at hj
 · have : ∀ m,unl (Array.replicate l.toArray.size false) m ≤ m:=by
    intro m
    induction m with
    | zero=>exact Nat.le_refl _
    | succ m ih=>simp only [unl]; split <;> omega
   exact this _
 · rw [e]
   exact ⟨p,hs'⟩
def allB (b : Nat → Bool) (v : Bool) : List Nat → Prop
 | []=>True
 | e :: es=>b e = v ∧ allB b v es
def chU (ops : Array Oper) (n : Nat) : List Nat → List Nat → Bool
 | _,[]=>true
 | seen,e :: es=>((deps ops n).contains e || seen.any fun j=>decide (j < ops.size) && (deps ops j).contains e) && chU ops n (e :: seen) es
def chD (ops : Array Oper) (n : Nat) : List Nat → List Nat → Bool
 | _,[]=>true
 | seen,e :: es=>(decide (e < ops.size) && ((deps ops e).contains n || seen.any fun j=>(deps ops e).contains j)) && chD ops n (e :: seen) es
theorem upT0 {ops : Array Oper} {b : Nat → Bool} {n : Nat} (hdn : ∀ j e,j < ops.size → (deps ops j).contains e = true → b j = true → b e = true) (hde : ∀ e ∈ deps ops n,b e = true) : ∀ (es seen : List Nat),(∀ j ∈ seen,b j = true) → chU ops n seen es = true → allB b true es
 | [],_,_,_=>trivial
 | e :: es, seen, hs, h => by
   simp only [chU,Bool.and_eq_true,Bool.or_eq_true,List.any_eq_true,decide_eq_true_eq] at h
   have he : b e = true:=by
    rcases h.1 with h1 | ⟨j,hj,h1,h2⟩
    · exact hde e (by simpa using h1)
    · exact hdn j e h1 h2 (hs j hj)
   refine ⟨he,upT0 hdn hde es (e :: seen) (fun j hj=>?_) h.2⟩
   rcases List.mem_cons.1 hj with rfl | hj
   · exact he
   · exact hs j hj
theorem upT {ops : Array Oper} {b : Nat → Bool} {n : Nat} (hdn : ∀ j e,j < ops.size → (deps ops j).contains e = true → b j = true → b e = true) (hde : ∀ e ∈ deps ops n,b e = true) (es : List Nat) (h : chU ops n [] es = true) : allB b true es:=upT0 hdn hde es [] (by simp) h
theorem dnT0 {ops : Array Oper} {b : Nat → Bool} {n : Nat} (hdn : ∀ j e,j < ops.size → (deps ops j).contains e = true → b j = true → b e = true) (hbk : b n = false) : ∀ (es seen : List Nat),(∀ j ∈ seen,b j = false) → chD ops n seen es = true → allB b false es
 | [],_,_,_=>trivial
 | e :: es, seen, hs, h => by
   simp only [chD,Bool.and_eq_true,Bool.or_eq_true,List.any_eq_true,decide_eq_true_eq] at h
   have he : b e = false:=by
    cases hb : b e
    · rfl
    · rcases h.1.2 with h1 | ⟨j,hj,h2⟩
      · rw [hdn e n h.1.1 h1 hb] at hbk; cases hbk
      · have:=hs j hj
        rw [hdn e j h.1.1 h2 hb] at this; cases this
   refine ⟨he,dnT0 hdn hbk es (e :: seen) (fun j hj=>?_) h.2⟩
   rcases List.mem_cons.1 hj with rfl | hj
   · exact he
   · exact hs j hj
theorem dnT {ops : Array Oper} {b : Nat → Bool} {n : Nat} (hdn : ∀ j e,j < ops.size → (deps ops j).contains e = true → b j = true → b e = true) (hbk : b n = false) (es : List Nat) (h : chD ops n [] es = true) : allB b false es:=dnT0 hdn hbk es [] (by simp) h
end Go.Oc

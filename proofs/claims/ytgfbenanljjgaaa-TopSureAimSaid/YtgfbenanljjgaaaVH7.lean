/- Part 7 of the texts of this claim. -/
import Derived.Test.YtgfbenanljjgaaaVH6
namespace Go.Proofs.Ytgfbenanljjgaaa.Du
open Go Go.Oc
set_option linter.unusedSimpArgs false
set_option linter.unusedVariables false
set_option maxRecDepth 8000
set_option maxHeartbeats 4000000
abbrev mkL (bs : List Int) (g : Int) (cs : List (List Int)) : List (Nat × RowC):=[(1000,.box [.os 1001 0 1 0 bs.length,.r (i64 g),.os 1002 0 1 0 cs.length]),(1001,.arr 146 1 (arrN bs)),(1002,.arr 33 1 (cs.map fun r=>[ints r]))]
theorem last1_ok (bs : List Int) (g : Int) (cs : List (List Int)) (l : List Int) (hl : cs[cs.length - 1]? = some l) (h1 : 1 ≤ cs.length ∧ cs.length ≤ 100) :
 MCalls Try.prog 114 (mkL bs g cs) (mkL bs g cs) [.pt 1000 0 0] (.r (ints l)):=by
 have w1 : IntKind.i64.wrap ((cs.length : Int) - 1) = (cs.length : Int) - 1:=by rw [zI] <;> omega
 have hx : cs[((cs.length : Int) - 1).toNat]? = some l:=by rw [show ((cs.length : Int) - 1).toNat = cs.length - 1 by omega]; exact hl
 refine mcalls_st (n:=15) (rs:=[.r (ints l)]) _ _ [.tmp 2] Try.func114 rfl (by kernel_rfl) Try.ntmps114 rfl (by simp) rfl rfl fun C=>?_
 refine zq ?_
 refine zb fun K hK=>?_;simp only [go_sem];refine hK _ ?_;clear hK K;refine zw (zk [0]) ?_;simp only [go_sem]
 refine zq ?_
 refine awp_dreg3 [(0,some 1000)] [1000] follows (by decide +kernel) (by kernel_rfl) (by simp only [keysOk,List.mem_cons,List.not_mem_nil,forall_eq_or_imp,Oc.keyOf,go_sem]; simp) (by intro k hk; simp only [List.mem_cons,List.not_mem_nil,or_false] at hk; first | (subst hk; exact ⟨_,rfl⟩) | (rcases hk with rfl | rfl <;> exact ⟨_,rfl⟩) | (rcases hk with rfl | rfl | rfl <;> exact ⟨_,rfl⟩)) fun K hK=>?_
 simp only [go_sem,w1,hx,List.length_map];repeat first | intro _ | refine ⟨by omega,?_⟩
 refine hK _ ?_;clear hK K;refine zw (zk [2]) ?_;simp only [go_sem];refine ze ?_;simp only [go_sem]
def wonO (m : Nat) : List Int:=1 :: List.replicate m 0
def rowN (g : Int) (bs : List Int) (m : Nat) : Nat → List Int
 | 0=>wonO m
 | k + 1=>rowO g bs (rowN g bs m k)
def cntO (g : Int) (bs : List Int) (m k : Nat) : List (List Int):=(List.range (k + 1)).map (rowN g bs m)
theorem rowN_len (g : Int) (bs : List Int) (m : Nat) : ∀ k,(rowN g bs m k).length = m + 1
 | 0=>by simp [rowN,wonO]
 | k + 1=>by simp [rowN,rowO,rowN_len g bs m k]
theorem cnt_len (g : Int) (bs : List Int) (m k : Nat) : (cntO g bs m k).length = k + 1:=by simp [cntO]
theorem cnt_snoc (g : Int) (bs : List Int) (m k : Nat) : cntO g bs m (k + 1) = cntO g bs m k ++ [rowN g bs m (k + 1)]:=by
 unfold cntO
 rw [List.range_succ,List.map_append]; rfl
theorem cnt_last (g : Int) (bs : List Int) (m k : Nat) : (cntO g bs m k)[(cntO g bs m k).length - 1]? = some (rowN g bs m k):=by
 rw [cnt_len]
 simp [cntO]
theorem rowN_le (g : Int) (bs : List Int) (hl : bs.length ≤ 82) (m : Nat) : ∀ k,∀ x ∈ rowN g bs m k,0 ≤ x ∧ x ≤ (82 ^ k : Nat)
 | 0, x, hx => by
   unfold rowN wonO at hx
   rw [List.mem_cons] at hx
   rcases hx with rfl | hx
   · simp
   · rw [List.eq_of_mem_replicate hx]; simp
 | k + 1, x, hx => by
   unfold rowN rowO at hx
   obtain ⟨s,_,rfl⟩:=List.mem_map.1 hx
   have h:=sumT_le (M:=((82 ^ k : Nat) : Int)) (rowN_le g bs hl m k) (Int.natCast_nonneg _) (throwsO g s bs)
   have hlen:=throws_len bs g s
   rw [Nat.pow_succ]
   generalize 82 ^ k = P at *
   have h2 : (P : Int) * ((throwsO g s bs).length : Int) ≤ (P : Int) * 82:=Int.mul_le_mul_of_nonneg_left (by omega) (by omega)
   refine ⟨h.1,?_⟩
   push_cast
   omega
theorem rowN_le6 (g : Int) (bs : List Int) (hl : bs.length ≤ 82) (m : Nat) {k : Nat} (hk : k ≤ 6) : ∀ x ∈ rowN g bs m k,0 ≤ x ∧ x ≤ 1000000000000:=fun x hx=>by
 have h:=rowN_le g bs hl m k x hx
 have h2 : 82 ^ k ≤ 82 ^ 6:=Nat.pow_le_pow_right (by omega) hk
 have h3 : (82 : Nat) ^ 6 = 304006671424:=by decide
 omega
def vY (b : Nat → Bool) (j : Nat) (v : AV) : AV:=if b j then v else .r .un
def mkF (dn k : Nat) (la nw : List Int) (b : Nat → Bool) (vs : Nat → Nat) : List (Nat × AV) :=
 [(9,.pt 15 (vs 15) 0),(49,.r (i64 (dn : Int))),(50,.r (i64 (k : Int))),
  (52,vY b 0 (.pt 15 (vs 15) 0)),
  (53,vY b 1 (.pt 15 (vs 15) 0)),
  (54,vY b 2 (.pt 15 (vs 15) 0)),
  (55,vY b 3 (.pt 15 (vs 15) 2)),
  (56,vY b 4 (bif b 10 then .r .un else .os 316 (vs 316) 1 0 (k + 1))),
  (57,vY b 5 (.pt 15 (vs 15) 0)),
  (58,vY b 6 (.pt 15 (vs 15) 0)),
  (59,vY b 7 (.r (ints la))),
  (60,vY b 8 (.r (ints nw))),
  (61,vY b 9 (.r (.sl 1 [[ints nw]]))),
  (62,vY b 10 (.os 316 (vs 316) 1 0 (k + 1 + 1))),
  (63,vY b 11 (.pt 15 (vs 15) 0)),
  (64,vY b 12 (.pt 15 (vs 15) 2))]
def mkR (bs : List Int) (g : Int) (k : Nat) (cs : List (List Int)) (nw : List Int) (b : Nat → Bool) (vs : Nat → Nat) : List (Nat × RowC) :=
 [(15,.box [.os 315 (vs 315) 1 0 bs.length,.r (i64 g),bif b 13 then .os 316 (vs 316) 1 0 (k + 1 + 1) else (bif b 10 then .os 316 (vs 316 - 1) 1 0 (k + 1) else .os 316 (vs 316) 1 0 (k + 1))]),(315,.arr 146 1 (arrN bs)),(316,.arr 33 1 (bif b 10 then (cs.map fun r=>[ints r]) ++ [[ints nw]] else cs.map fun r=>[ints r]))]
theorem fitV_subY {n : Nat} {F : (Nat → Nat) → List (Nat × AV)} {R : (Nat → Nat) → List (Nat × RowC)} {s s' : AS} (h : Sub s s') (hf : FitV n F R s') : FitV n F R s:=by
 obtain ⟨vs,hs⟩:=hf
 exact ⟨vs,fun C a w hw=>hs C a w (h C a w hw)⟩
theorem board_ok (bs : List Int) (g : Int) (dn m : Nat) (hb : ∀ b ∈ bs,bedOk b = true ∧ 0 ≤ b ∧ b ≤ 499) (hbl : bs.length ≤ 82) (hd : dn ≤ 6) (hm : m ≤ 1000) :
 ACalls Try.prog 83 [ints bs,i64 g,i64 (dn : Int),i64 (m : Int)] (brdP bs g (cntO g bs m dn)):=by
 have wm : IntKind.i64.wrap ((m : Int) + 1) = (m : Int) + 1:=by rw [zI] <;> omega
 refine acalls_st (rs:=[brdP bs g (cntO g bs m dn)]) [.tmp 8] Try.func83 rfl (by kernel_rfl) Try.ntmps83 rfl (by simp) rfl fun C vs=>?_
 refine zq ?_
 refine zb fun K hK=>?_;simp only [go_sem];refine hK _ ?_;clear hK K;refine zw (zk [0,1,2,3]) ?_;simp only [go_sem]
 refine zq ?_
 refine zb fun K hK=>?_;simp only [go_sem];refine hK _ ?_;clear hK K;refine zw (sub_ownB 15 0 315 146 1 (by omega) (by omega) rfl (by simp only [go_sem,List.getElem?_cons_succ,List.getElem?_cons_zero])) ?_;refine zw (sub_ownB 15 2 316 33 1 (by omega) (by omega) rfl (by simp only [go_sem,List.getElem?_cons_succ,List.getElem?_cons_zero,List.set_cons_zero])) ?_;refine zw (zk [0,2,3,9]) ?_;simp only [go_sem]
 repeat refine zq ?_
 refine zb fun K hK=>?_;simp only [go_sem,List.length_map]
 intro _
 refine hK _ ?_;clear hK K;refine zw (zk [2,3,9,16,17,18]) ?_;simp only [go_sem];refine zd ?_
 refine awp_uptoV (n:=67) bs.length (fun i vs=>[(2,.r (i64 (dn : Int))),(3,.r (i64 (m : Int))),(9,.pt 15 (vs 15) 0),(16,.r (ints bs)),(17,.r (i64 (bs.length : Int))),(18,.r (i64 (i : Int)))])
  (fun i vs=>[(15,.box [.os 315 (vs 315) 1 0 i,.r (i64 g),.os 316 (vs 316) 1 0 0]),(315,.arr 146 1 (arrN (bs.take i))),(316,.arr 33 1 [])]) (fun _=>True) 0 (zj [] ?_ ?_) (Nat.zero_le _) trivial ?_
 · try simp only [go_sem]
   try rfl
 · try simp only [go_sem]
   try rfl
 · intro i vs hi _
   by_cases hin : i < bs.length
   · obtain ⟨x,hx⟩:=opt_of_lt hin
     have hlt : (bs.take i).length = i:=by rw [List.length_take]; omega
     rw [take_of_opt hx]
     refine zq ?_
     refine zb fun K hK=>?_;simp only [go_sem,hin];refine hK _ ?_;clear hK K;refine zw (zk [2,3,9,16,17,18,19]) ?_;simp only [go_sem]
     refine zq ?_
     refine zc rfl (fun hc=>?_) (fun hc=>?_) <;> (try simp only [go_sem] at hc)
     refine zx ?_
     try simp only [go_sem]
     refine zq ?_
     refine zd ?_
     refine zq ?_
     refine zb fun K hK=>?_;simp only [go_sem,hx,hin,List.length_map];refine hK _ ?_;clear hK K;refine zw (zk [2,3,9,11,16,17,18]) ?_;simp only [go_sem];refine zb fun K hK=>?_;simp only [go_sem,hlt,List.length_map]
     refine ⟨by omega,?_⟩
     refine hK _ ?_;clear hK K;refine zw (zk [2,3,9,16,17,18]) ?_;simp only [go_sem];refine zb fun K hK=>?_;simp only [go_sem];(try simp (disch:=omega) only [zI]);refine hK _ ?_;clear hK K
     try simp only [go_sem]
     refine ⟨by omega,zj [] ?_ ?_⟩
     · try simp only [go_sem]
     · try simp only [go_sem]
       try simp
   · have hie : i = bs.length:=by omega
     subst hie
     refine zq ?_
     refine zb fun K hK=>?_;simp only [go_sem,Nat.lt_irrefl];refine hK _ ?_;clear hK K;refine zw (zk [2,3,9,19]) ?_;simp only [go_sem]
     refine zq ?_
     refine zc rfl (fun hc=>?_) (fun hc=>?_) <;> (try simp only [go_sem] at hc)
     refine zf ?_;simp only [go_sem];rw [List.take_length]
     refine zq ?_
     refine zb fun K hK=>?_;simp only [go_sem,wm]
     refine ⟨by omega,?_⟩
     refine hK _ ?_;clear hK K;refine zw (zk [2,9,12]) ?_;simp only [go_sem]
     refine zq ?_
     refine zb fun K hK=>?_;simp only [go_sem,List.length_replicate]
     repeat refine ⟨by omega,?_⟩
     refine hK _ ?_;clear hK K
     have hwon : [RV.it IntKind.i64 1] :: List.replicate m [RV.it IntKind.i64 0] = arrN (wonO m):=by simp [wonO]
     refine zw (sub_frz (ty:=3) (sz:=1) (off:=0) (m:=m + 1) (es:=arrN (wonO m)) 12 36 (by omega) rfl (by simp only [go_sem]; rw [hwon]) (by simp [wonO])) ?_
     have tk1 : List.take (m + 1) (arrN (wonO m)) = arrN (wonO m):=List.take_of_length_le (by simp [wonO])
     simp only [go_sem,List.drop_zero,tk1];refine zw (zk [2,9,12]) ?_;simp only [go_sem]
     refine zq ?_
     refine zb fun K hK=>?_;simp only [go_sem];refine hK _ ?_;clear hK K;refine zw (zk [2,9]) ?_;simp only [go_sem]
     repeat refine zq ?_
     refine zb fun K hK=>?_;simp only [go_sem];refine hK _ ?_;clear hK K;refine zw (zk [9,49,50]) ?_;simp only [go_sem];refine zd ?_
     refine awp_uptoV (n:=67) dn (fun k vs=>[(9,.pt 15 (vs 15) 0),(49,.r (i64 (dn : Int))),(50,.r (i64 (k : Int)))])
      (fun k vs=>[(15,.box [.os 315 (vs 315) 1 0 bs.length,.r (i64 g),.os 316 (vs 316) 1 0 (k + 1)]),(315,.arr 146 1 (arrN bs)),(316,.arr 33 1 ((cntO g bs m k).map fun r=>[ints r]))]) (fun _=>True) 0 (zj [] ?_ ?_) (Nat.zero_le _) trivial ?_
     · try simp only [go_sem]
       try rfl
     · try simp only [go_sem]
       try rfl
     · intro k vs hk _
       by_cases hkn : k < dn
       · have hcl:=cnt_len g bs m k
         have hcla:=cnt_last g bs m k
         have hll:=rowN_len g bs m k
         have hnl : (rowN g bs m (k + 1)).length = m + 1:=rowN_len g bs m (k + 1)
         have hla:=last1_ok bs g (cntO g bs m k) (rowN g bs m k) hcla (by omega)
         have hro:=row_ok bs g (cntO g bs m k) (rowN g bs m k) hb (by omega) hbl (rowN_le6 g bs hbl m (by omega))
         have hnx : rowO g bs (rowN g bs m k) = rowN g bs m (k + 1):=rfl
         rw [hnx] at hro
         rw [cnt_snoc]
         generalize hcs : cntO g bs m k = cs at *
         generalize rowN g bs m k = la at *
         generalize rowN g bs m (k + 1) = nw at *
         simp only [mkL,hcl] at hla
         have htc : List.take (k + 1) (cs.map fun r=>[ints r]) = cs.map fun r=>[ints r]:=List.take_of_length_le (by simp [hcl])
         have htk : List.take (m + 1) (arrN nw) = arrN nw:=List.take_of_length_le (by simp [hnl])
         refine zq ?_
         refine zb fun K hK=>?_;simp only [go_sem,hkn];refine hK _ ?_;clear hK K;refine zw (zk [9,49,50,51]) ?_;simp only [go_sem]
         refine zq ?_
         refine zc rfl (fun hc=>?_) (fun hc=>?_) <;> (try simp only [go_sem] at hc)
         refine zx ?_
         try simp only [go_sem]
         refine zq ?_
         refine zd ?_
         refine awp_inv (n:=67) (mkF dn k la nw) (mkR bs g k cs nw) follows (by kernel_rfl) (by kernel_rfl) (by decide +kernel) (zj [] ?_ ?_) ?_ ?_
         · simp only [go_sem,mkF,vY,if_true,if_false,Bool.false_eq_true,cond_false]
         · simp only [go_sem,mkR,cond_false,List.cons_append,List.nil_append]
         · refine ⟨fun b vs hdn hbk hde=>?_,fun b vs hdn hbk hde=>?_,fun b vs hdn hbk hde=>?_,fun b vs hdn hbk hde=>?_,fun b vs hdn hbk hde=>?_,fun b vs hdn hbk hde=>?_,fun b vs hdn hbk hde=>?_,fun b vs hdn hbk hde=>?_,fun b vs hdn hbk hde=>?_,fun b vs hdn hbk hde=>?_,fun b vs hdn hbk hde=>?_,fun b vs hdn hbk hde=>?_,fun b vs hdn hbk hde=>?_,fun b vs hdn hbk hde=>?_,trivial⟩
           · skip
             have G:=dnT hdn hbk [11,12,13] (by decide +kernel)
             simp only [allB,and_true] at G
             cases g4 : b 4 <;> cases g8 : b 8 <;> cases g10 : b 10
             all_goals (simp only [go_sem,mkF,mkR,upd,vY,cond_true,cond_false,if_true,Bool.false_eq_true,if_false,hbk,G,g4,g8,g10,hcl,hnl,hll,htc,List.length_map,Nat.add_sub_cancel,List.length_append,List.length_cons,List.length_nil,Nat.zero_add])
             all_goals (refine zj [] ?_ ?_ <;> (simp only [go_sem,mkF,mkR,upd,vY,cond_true,cond_false,if_true,Bool.false_eq_true,if_false,hbk,G,g4,g8,g10,hcl,hnl,hll,htc,List.length_map,Nat.add_sub_cancel,List.length_append,List.length_cons,List.length_nil,Nat.zero_add]))
           · skip
             have G:=dnT hdn hbk [2,11,12,13,3,4,10] (by decide +kernel)
             simp only [allB,and_true] at G
             cases g8 : b 8
             all_goals (simp only [go_sem,mkF,mkR,upd,vY,cond_true,cond_false,if_true,Bool.false_eq_true,if_false,hbk,G,g8,hcl,hnl,hll,htc,List.length_map,Nat.add_sub_cancel,List.length_append,List.length_cons,List.length_nil,Nat.zero_add])
             all_goals (refine zj [] ?_ ?_ <;> (simp only [go_sem,mkF,mkR,upd,vY,cond_true,cond_false,if_true,Bool.false_eq_true,if_false,hbk,G,g8,hcl,hnl,hll,htc,List.length_map,Nat.add_sub_cancel,List.length_append,List.length_cons,List.length_nil,Nat.zero_add]))
           · skip
             have H:=upT hdn hde [1] (by decide +kernel)
             have G:=dnT hdn hbk [3,11,12,13,4,10] (by decide +kernel)
             simp only [allB,and_true] at H G
             cases g8 : b 8
             all_goals (simp only [go_sem,mkF,mkR,upd,vY,cond_true,cond_false,if_true,Bool.false_eq_true,if_false,hbk,H,G,g8,hcl,hnl,hll,htc,List.length_map,Nat.add_sub_cancel,List.length_append,List.length_cons,List.length_nil,Nat.zero_add])
             all_goals (refine zj [] ?_ ?_ <;> (simp only [go_sem,mkF,mkR,upd,vY,cond_true,cond_false,if_true,Bool.false_eq_true,if_false,hbk,H,G,g8,hcl,hnl,hll,htc,List.length_map,Nat.add_sub_cancel,List.length_append,List.length_cons,List.length_nil,Nat.zero_add]))
           · skip
             have H:=upT hdn hde [2,1] (by decide +kernel)
             have G:=dnT hdn hbk [4,11,12,13,10] (by decide +kernel)
             simp only [allB,and_true] at H G
             cases g8 : b 8
             all_goals (simp only [go_sem,mkF,mkR,upd,vY,cond_true,cond_false,if_true,Bool.false_eq_true,if_false,hbk,H,G,g8,hcl,hnl,hll,htc,List.length_map,Nat.add_sub_cancel,List.length_append,List.length_cons,List.length_nil,Nat.zero_add])
             all_goals (refine zj [] ?_ ?_ <;> (simp only [go_sem,mkF,mkR,upd,vY,cond_true,cond_false,if_true,Bool.false_eq_true,if_false,hbk,H,G,g8,hcl,hnl,hll,htc,List.length_map,Nat.add_sub_cancel,List.length_append,List.length_cons,List.length_nil,Nat.zero_add]))
           · skip
             have H:=upT hdn hde [3,2,1] (by decide +kernel)
             have G:=dnT hdn hbk [10,11,12,13] (by decide +kernel)
             simp only [allB,and_true] at H G
             cases g8 : b 8
             all_goals (simp only [go_sem,mkF,mkR,upd,vY,cond_true,cond_false,if_true,Bool.false_eq_true,if_false,hbk,H,G,g8,hcl,hnl,hll,htc,List.length_map,Nat.add_sub_cancel,List.length_append,List.length_cons,List.length_nil,Nat.zero_add])
             all_goals (refine zj [] ?_ ?_ <;> (simp only [go_sem,mkF,mkR,upd,vY,cond_true,cond_false,if_true,Bool.false_eq_true,if_false,hbk,H,G,g8,hcl,hnl,hll,htc,List.length_map,Nat.add_sub_cancel,List.length_append,List.length_cons,List.length_nil,Nat.zero_add]))
           · skip
             have G:=dnT hdn hbk [8,11,12,13,9,10] (by decide +kernel)
             simp only [allB,and_true] at G
             cases g4 : b 4
             all_goals (simp only [go_sem,mkF,mkR,upd,vY,cond_true,cond_false,if_true,Bool.false_eq_true,if_false,hbk,G,g4,hcl,hnl,hll,htc,List.length_map,Nat.add_sub_cancel,List.length_append,List.length_cons,List.length_nil,Nat.zero_add])
             all_goals (refine zj [] ?_ ?_ <;> (simp only [go_sem,mkF,mkR,upd,vY,cond_true,cond_false,if_true,Bool.false_eq_true,if_false,hbk,G,g4,hcl,hnl,hll,htc,List.length_map,Nat.add_sub_cancel,List.length_append,List.length_cons,List.length_nil,Nat.zero_add]))
           · skip
             have G:=dnT hdn hbk [7,11,12,13,8,9,10] (by decide +kernel)
             simp only [allB,and_true] at G
             cases g4 : b 4
             all_goals (simp only [go_sem,mkF,mkR,upd,vY,cond_true,cond_false,if_true,Bool.false_eq_true,if_false,hbk,G,g4,hcl,hnl,hll,htc,List.length_map,Nat.add_sub_cancel,List.length_append,List.length_cons,List.length_nil,Nat.zero_add])
             all_goals (refine zj [] ?_ ?_ <;> (simp only [go_sem,mkF,mkR,upd,vY,cond_true,cond_false,if_true,Bool.false_eq_true,if_false,hbk,G,g4,hcl,hnl,hll,htc,List.length_map,Nat.add_sub_cancel,List.length_append,List.length_cons,List.length_nil,Nat.zero_add]))
           · skip
             have H:=upT hdn hde [6] (by decide +kernel)
             have G:=dnT hdn hbk [8,11,12,13,9,10] (by decide +kernel)
             simp only [allB,and_true] at H G
             cases g4 : b 4
             all_goals (simp only [go_sem,mkF,mkR,upd,vY,cond_true,cond_false,if_true,Bool.false_eq_true,if_false,hbk,H,G,g4,hcl,hnl,hll,htc,List.length_map,Nat.add_sub_cancel,List.length_append,List.length_cons,List.length_nil,Nat.zero_add])
             all_goals (refine xcall_mut hla [(1000,15),(1001,315),(1002,316)] rfl (by simp only [go_sem,i64,ints]) (by simp only [go_sem,i64,ints,hcl,List.length_map]; try simp) (by rfl) (by rfl) ?_)
             all_goals (simp only [go_sem,mkF,mkR,vY,cond_true,cond_false,if_true,Bool.false_eq_true,if_false,hbk,H,G,hcl,hnl,hll,htc,List.length_map,Nat.add_sub_cancel,List.length_append,List.length_cons,List.length_nil,Nat.zero_add])
             all_goals (refine zj [] ?_ ?_ <;> (simp only [go_sem,mkF,mkR,upd,vY,cond_true,cond_false,if_true,Bool.false_eq_true,if_false,hbk,H,G,g4,hcl,hnl,hll,htc,List.length_map,Nat.add_sub_cancel,List.length_append,List.length_cons,List.length_nil,Nat.zero_add]))
           · skip
             have H:=upT hdn hde [5,7,7,6] (by decide +kernel)
             have G:=dnT hdn hbk [9,10,11,12,13] (by decide +kernel)
             simp only [allB,and_true] at H G
             cases g4 : b 4
             all_goals (simp only [go_sem,mkF,mkR,upd,vY,cond_true,cond_false,if_true,Bool.false_eq_true,if_false,hbk,H,G,g4,hcl,hnl,hll,htc,List.length_map,Nat.add_sub_cancel,List.length_append,List.length_cons,List.length_nil,Nat.zero_add])
             all_goals (refine xcall_own hro rfl (by simp only [go_sem,i64,ints,hcl,hnl,hll,htc,List.length_map,Nat.add_sub_cancel,List.length_append,List.length_cons,List.length_nil,Nat.zero_add]) (by simp only [go_sem,i64,ints,brdP,brdC,tabR,hcl,hnl,hll,htc,List.length_map,Nat.add_sub_cancel,List.length_append,List.length_cons,List.length_nil,Nat.zero_add]) (by decide) (by intro h; first | (cases h; done) | rfl) ?_)
             all_goals simp only [go_sem,mkF,mkR,vY,cond_true,cond_false,if_true,Bool.false_eq_true,if_false,hbk,H,G,hcl,hnl,hll,htc,List.length_map,Nat.add_sub_cancel,List.length_append,List.length_cons,List.length_nil,Nat.zero_add]
             all_goals refine fitV_subY (sub_frz (ty:=3) (sz:=1) (off:=0) (m:=m + 1) (es:=arrN nw) 60 60 (by omega) rfl (by rfl) (by simp [hnl,hll])) ?_
             all_goals simp only [go_sem,List.drop_zero,htk]
             all_goals (refine zj [] ?_ ?_ <;> (simp only [go_sem,mkF,mkR,upd,vY,cond_true,cond_false,if_true,Bool.false_eq_true,if_false,hbk,H,G,g4,hcl,hnl,hll,htc,List.length_map,Nat.add_sub_cancel,List.length_append,List.length_cons,List.length_nil,Nat.zero_add]))
           · skip
             have H:=upT hdn hde [8,5,7,6] (by decide +kernel)
             have G:=dnT hdn hbk [10,11,12,13] (by decide +kernel)
             simp only [allB,and_true] at H G
             cases g4 : b 4
             all_goals (simp only [go_sem,mkF,mkR,upd,vY,cond_true,cond_false,if_true,Bool.false_eq_true,if_false,hbk,H,G,g4,hcl,hnl,hll,htc,List.length_map,Nat.add_sub_cancel,List.length_append,List.length_cons,List.length_nil,Nat.zero_add])
             all_goals (refine zj [] ?_ ?_ <;> (simp only [go_sem,mkF,mkR,upd,vY,cond_true,cond_false,if_true,Bool.false_eq_true,if_false,hbk,H,G,g4,hcl,hnl,hll,htc,List.length_map,Nat.add_sub_cancel,List.length_append,List.length_cons,List.length_nil,Nat.zero_add]))
           · skip
             have H:=upT hdn hde [4,8,9,3,5,7,2,6,1] (by decide +kernel)
             have G:=dnT hdn hbk [11,12,13] (by decide +kernel)
             simp only [allB,and_true] at H G
             (simp only [go_sem,mkF,mkR,upd,vY,cond_true,cond_false,if_true,Bool.false_eq_true,if_false,hbk,H,G,hcl,hnl,hll,htc,List.length_map,Nat.add_sub_cancel,List.length_append,List.length_cons,List.length_nil,Nat.zero_add])
             all_goals (try refine ⟨⟨by omega,by omega⟩,?_⟩)
             all_goals refine fitV_subY (zk [9,49,50,52,53,54,55,57,58,59,60,61,62,63,64]) ?_
             all_goals simp only [go_sem]
             all_goals (refine zj [] ?_ ?_ <;> (simp only [go_sem,mkF,mkR,upd,vY,cond_true,cond_false,if_true,Bool.false_eq_true,if_false,hbk,H,G,hcl,hnl,hll,htc,List.length_map,Nat.add_sub_cancel,List.length_append,List.length_cons,List.length_nil,Nat.zero_add]))
           · skip
             have H:=upT hdn hde [0,0,1,2,3,4,5,6,7,8,9,10] (by decide +kernel)
             have G:=dnT hdn hbk [12,13] (by decide +kernel)
             simp only [allB,and_true] at H G
             (simp only [go_sem,mkF,mkR,upd,vY,cond_true,cond_false,if_true,Bool.false_eq_true,if_false,hbk,H,G,hcl,hnl,hll,htc,List.length_map,Nat.add_sub_cancel,List.length_append,List.length_cons,List.length_nil,Nat.zero_add])
             all_goals (refine zj [] ?_ ?_ <;> (simp only [go_sem,mkF,mkR,upd,vY,cond_true,cond_false,if_true,Bool.false_eq_true,if_false,hbk,H,G,hcl,hnl,hll,htc,List.length_map,Nat.add_sub_cancel,List.length_append,List.length_cons,List.length_nil,Nat.zero_add]))
           · skip
             have H:=upT hdn hde [0,1,2,3,4,5,6,7,8,9,10,11] (by decide +kernel)
             have G:=dnT hdn hbk [13] (by decide +kernel)
             simp only [allB,and_true] at H G
             (simp only [go_sem,mkF,mkR,upd,vY,cond_true,cond_false,if_true,Bool.false_eq_true,if_false,hbk,H,G,hcl,hnl,hll,htc,List.length_map,Nat.add_sub_cancel,List.length_append,List.length_cons,List.length_nil,Nat.zero_add])
             all_goals (refine zj [] ?_ ?_ <;> (simp only [go_sem,mkF,mkR,upd,vY,cond_true,cond_false,if_true,Bool.false_eq_true,if_false,hbk,H,G,hcl,hnl,hll,htc,List.length_map,Nat.add_sub_cancel,List.length_append,List.length_cons,List.length_nil,Nat.zero_add]))
           · skip
             have H:=upT hdn hde [0,1,2,3,4,5,6,7,8,9,10,10,10,12,11] (by decide +kernel)
             simp only [allB,and_true] at H
             (simp only [go_sem,mkF,mkR,upd,vY,cond_true,cond_false,if_true,Bool.false_eq_true,if_false,hbk,H,hcl,hnl,hll,htc,List.length_map,Nat.add_sub_cancel,List.length_append,List.length_cons,List.length_nil,Nat.zero_add])
             all_goals (refine zj [] ?_ ?_ <;> (simp only [go_sem,mkF,mkR,upd,vY,cond_true,cond_false,if_true,Bool.false_eq_true,if_false,hbk,H,hcl,hnl,hll,htc,List.length_map,Nat.add_sub_cancel,List.length_append,List.length_cons,List.length_nil,Nat.zero_add]))
         intro b vs hb
         simp only [go_sem,mkF,mkR,vY,hb,if_true,cond_true,List.cons_append,List.nil_append];refine zw (zk [9,49,50]) ?_;simp only [go_sem];refine zb fun K hK=>?_;simp only [go_sem];(try simp (disch:=omega) only [zI]);refine hK _ ?_;clear hK K
         try simp only [go_sem]
         refine ⟨by omega,zj [] ?_ ?_⟩
         · try simp only [go_sem]
         · try simp only [go_sem]
           try simp
       · have hke : k = dn:=by omega
         subst hke
         have hcl:=cnt_len g bs m k
         generalize hcs : cntO g bs m k = cs at *
         refine zq ?_
         refine zb fun K hK=>?_;simp only [go_sem,Nat.lt_irrefl];refine hK _ ?_;clear hK K;refine zw (zk [9,51]) ?_;simp only [go_sem]
         refine zq ?_
         refine zc rfl (fun hc=>?_) (fun hc=>?_) <;> (try simp only [go_sem] at hc)
         refine zf ?_;simp only [go_sem];refine zw (sub_frzB 15 0 315 (ty:=146) (sz:=1) (off:=0) (m:=bs.length) (es:=arrN bs) (by omega) (by omega) rfl (by simp only [go_sem,List.getElem?_cons_succ,List.getElem?_cons_zero]) (by rfl) (by simp)) ?_
         have tk1 : List.take bs.length (arrN bs) = arrN bs:=List.take_of_length_le (by simp)
         simp only [go_sem,List.drop_zero,tk1,List.set_cons_succ,List.set_cons_zero];refine zw (sub_frzB 15 2 316 (ty:=33) (sz:=1) (off:=0) (m:=k + 1) (es:=cs.map fun r=>[ints r]) (by omega) (by omega) rfl (by simp only [go_sem,List.getElem?_cons_succ,List.getElem?_cons_zero]) (by rfl) (by simp [hcl])) ?_
         have tk2 : List.take (k + 1) (cs.map fun r=>[ints r]) = cs.map fun r=>[ints r]:=List.take_of_length_le (by simp [hcl])
         simp only [go_sem,List.drop_zero,tk2,List.set_cons_succ,List.set_cons_zero];refine zw (sub_frzP 9 15 (brdC bs g cs) (by omega) rfl rfl) ?_;refine zw (zk [9]) ?_;simp only [go_sem]
         refine zq ?_
         refine zb fun K hK=>?_;simp only [go_sem];refine hK _ ?_;clear hK K;refine zw (zk [8]) ?_;simp only [go_sem];refine ze ?_;simp only [go_sem];exact rv_le _
def totO (cs : List (List Int)) (s : Nat) : Int:=((cs.drop 1).map fun r=>r.getD s 0).sum
theorem total_ok (bs : List Int) (g : Int) (cs : List (List Int)) (s n : Nat) (h1 : 1 ≤ cs.length ∧ cs.length ≤ 10) (hr : ∀ r ∈ cs,r.length = n ∧ ∀ x ∈ r,0 ≤ x ∧ x ≤ 1000000000000) (hs : s < n) :
 ACalls Try.prog 118 [brdP bs g cs,i64 (s : Int)] (i64 (totO cs s)):=by
 obtain ⟨ds,hds⟩ : ∃ ds,ds = cs.drop 1:=⟨_,rfl⟩
 have hdl : ds.length ≤ 9:=by rw [hds,List.length_drop]; omega
 have hdr : ∀ r ∈ ds,r.length = n ∧ ∀ x ∈ r,0 ≤ x ∧ x ≤ 1000000000000:=fun r hr'=>hr r (by rw [hds] at hr'; exact List.mem_of_mem_drop hr')
 have hto : totO cs s = (ds.map fun r=>r.getD s 0).sum:=by rw [hds]; rfl
 have hdm : List.drop 1 (cs.map fun r=>[ints r]) = ds.map fun r=>[ints r]:=by rw [hds,List.map_drop]
 rw [hto]
 refine acalls_st (rs:=[i64 ((ds.map fun r=>r.getD s 0).sum)]) [.tmp 4] Try.func118 rfl (by kernel_rfl) Try.ntmps118 rfl (by simp) rfl fun C vs=>?_
 refine zq ?_
 refine zb fun K hK=>?_;simp only [go_sem];refine hK _ ?_;clear hK K;refine zw (zk [0,1,4]) ?_;simp only [go_sem]
 repeat refine zq ?_
 refine zb fun K hK=>?_;simp only [go_sem,hdm,List.length_map];repeat first | intro _ | refine ⟨by omega,?_⟩
 refine hK _ ?_;clear hK K;refine zw (zk [1,4,11,12,13]) ?_;simp only [go_sem];refine zd ?_
 refine awp_upto (n:=25) ds.length (fun i vs=>[(1,.r (i64 (s : Int))),(4,.r (i64 (((ds.take i).map fun r=>r.getD s 0).sum))),(11,.r (tabR ds)),(12,.r (i64 (ds.length : Int))),(13,.r (i64 (i : Int)))])
  (fun i=>[]) (fun _=>True) 0 (fit_of [] ?_ ?_) (Nat.zero_le _) trivial ?_
 · try simp only [go_sem]
   try rfl
 · try simp only [go_sem]
 · intro i vs hi _
   by_cases hin : i < ds.length
   · obtain ⟨r,hri⟩:=opt_of_lt hin
     obtain ⟨r1,r2⟩:=hdr r (mem_of_opt hri)
     obtain ⟨v,hv⟩:=opt_of_lt (l:=r) (i:=s) (by omega)
     have hvM:=r2 v (mem_of_opt hv)
     have hsr : s < r.length:=by omega
     have hsum : ∀ j,j ≤ ds.length → 0 ≤ ((ds.take j).map fun r=>r.getD s 0).sum ∧ ((ds.take j).map fun r=>r.getD s 0).sum ≤ 1000000000000 * j:=by
      intro j
      induction j with
      | zero=>intro _; simp
      | succ j ih =>
        intro hj
        obtain ⟨q,hq⟩:=opt_of_lt (l:=ds) (i:=j) (by omega)
        obtain ⟨q1,q2⟩:=hdr q (mem_of_opt hq)
        obtain ⟨y,hy⟩:=opt_of_lt (l:=q) (i:=s) (by omega)
        have hyM:=q2 y (mem_of_opt hy)
        have:=ih (by omega)
        rw [take_of_opt hq,List.map_append,List.sum_append]
        simp only [List.map_cons,List.map_nil,List.sum_cons,List.sum_nil,List.getD_eq_getElem?_getD,hy,Option.getD_some] at *
        omega
     have hsi:=hsum i (by omega)
     rw [take_of_opt hri,List.map_append,List.sum_append]
     have hgv : ([r].map fun r=>r.getD s 0).sum = v:=by simp [hv]
     rw [hgv]
     generalize ((ds.take i).map fun r=>r.getD s 0).sum = Z at *
     have wz : IntKind.i64.wrap (Z + v) = Z + v:=by rw [zI] <;> omega
     refine zq ?_
     refine zb fun K hK=>?_;simp only [go_sem,hin];refine hK _ ?_;clear hK K;refine zw (zk [1,4,11,12,13,14]) ?_;simp only [go_sem]
     refine zq ?_
     refine zc rfl (fun hc=>?_) (fun hc=>?_) <;> (try simp only [go_sem] at hc)
     refine zx ?_
     try simp only [go_sem]
     refine zq ?_
     refine zd ?_
     refine zq ?_
     refine zb fun K hK=>?_;simp only [go_sem,hri,hin,List.length_map];refine hK _ ?_;clear hK K;refine zw (zk [1,4,6,11,12,13]) ?_;simp only [go_sem];refine zb fun K hK=>?_;simp only [go_sem,hv,hsr,wz,List.length_map];refine hK _ ?_;clear hK K;refine zw (zk [1,4,11,12,13]) ?_;simp only [go_sem];refine zb fun K hK=>?_;simp only [go_sem];(try simp (disch:=omega) only [zI]);refine hK _ ?_;clear hK K
     try simp only [go_sem]
     refine ⟨by omega,fit_of [] ?_ ?_⟩
     · try simp only [go_sem]
     · try simp only [go_sem]
   · have hie : i = ds.length:=by omega
     subst hie
     rw [List.take_length]
     refine zq ?_
     refine zb fun K hK=>?_;simp only [go_sem,Nat.lt_irrefl];refine hK _ ?_;clear hK K;refine zw (zk [4,14]) ?_;simp only [go_sem]
     refine zq ?_
     refine zc rfl (fun hc=>?_) (fun hc=>?_) <;> (try simp only [go_sem] at hc)
     refine zf ?_;simp only [go_sem]
     refine zq ?_
     refine zb fun K hK=>?_;simp only [go_sem];refine hK _ ?_;clear hK K;refine zw (zk [4]) ?_;simp only [go_sem];refine ze ?_;simp only [go_sem]
def stepB (l : List Int) (b : Int) (x : Int × Int) : Int:=if l.getD x.2.toNat 0 ≠ -1 ∧ (b = -1 ∨ l.getD x.2.toNat 0 + 1 < b) then l.getD x.2.toNat 0 + 1 else b
def bestF (l : List Int) (T : List (Int × Int)) : Int:=T.foldl (stepB l) (-1)
def fewO (g : Int) (bs : List Int) : Nat → List Int
 | 0=>[0]
 | n + 1=>fewO g bs n ++ [bestF (fewO g bs n) (throwsO g ((n + 1 : Nat) : Int) bs)]
theorem few_len (g : Int) (bs : List Int) : ∀ n,(fewO g bs n).length = n + 1
 | 0=>rfl
 | n + 1=>by simp [fewO,few_len g bs n]
theorem best_snoc (l : List Int) (T : List (Int × Int)) (x : Int × Int) : bestF l (T ++ [x]) = stepB l (bestF l T) x:=by simp [bestF]
theorem best_le {l : List Int} {M : Int} (h : ∀ x ∈ l,-1 ≤ x ∧ x ≤ M) (h0 : 0 ≤ M) : ∀ T : List (Int × Int),∀ b : Int,-1 ≤ b ∧ b ≤ M + 1 → -1 ≤ T.foldl (stepB l) b ∧ T.foldl (stepB l) b ≤ M + 1
 | [],b,hb=>hb
 | x :: T, b, hb => by
   rw [List.foldl_cons]
   refine best_le h h0 T _ ?_
   have hx : -1 ≤ l.getD x.2.toNat 0 ∧ l.getD x.2.toNat 0 ≤ M:=by
    rw [List.getD_eq_getElem?_getD]
    cases e : l[x.2.toNat]? with
    | none=>simp; omega
    | some y=>exact h y (mem_of_opt e)
   unfold stepB
   split <;> omega
theorem few_le (g : Int) (bs : List Int) : ∀ n,∀ x ∈ fewO g bs n,-1 ≤ x ∧ x ≤ n
 | 0,x,hx=>by simp [fewO] at hx; omega
 | n + 1, x, hx => by
   unfold fewO at hx
   rw [List.mem_append,List.mem_singleton] at hx
   rcases hx with hx | rfl
   · have:=few_le g bs n x hx; omega
   · have:=best_le (few_le g bs n) (by omega) (throwsO g ((n + 1 : Nat) : Int) bs) (-1) (by omega)
     unfold bestF; omega
theorem fewest_ok (bs : List Int) (g k : Int) (m : Nat) (h : BdsO bs) (hg : 0 ≤ g ∧ g ≤ 2) (hk : 1 ≤ k ∧ k ≤ 9) (hm : m ≤ 1000) :
 ACalls Try.prog 49 [ouR bs g k,i64 (m : Int)] (.tu [ints (fewO g bs m),i64 0]):=by
 have hcm:=checkMost_ok bs g k m h hg hk (by omega)
 have hB : ∀ b ∈ bs,bedOk b = true:=fun b hb=>(h.bed b hb).1
 have hbd:=board_ok bs g 0 0 (fun b hb=>h.bed b hb) h.len (by omega) (by omega)
 have hz0 : ((0 : Int) != 0) = false:=rfl
 generalize cntO g bs 0 0 = cs at *
 have hth:=throws_ok bs g cs
 refine acalls_stR (rs:=[ints (fewO g bs m),i64 0]) [.cell 4 33,.tmp 5] Try.func49 rfl (by kernel_rfl) Try.ntmps49 rfl (by simp) rfl fun C hC vs=>?_
 refine zq ?_
 refine zb fun K hK=>?_;simp only [go_sem];refine hK _ ?_;clear hK K;refine zw (sub_frzP 2 2 [ints bs,i64 g,i64 k] (by omega) rfl rfl) ?_;refine zw (zk [1,2,4,5]) ?_;simp only [go_sem]
 repeat refine zq ?_
 refine zb fun K hK=>?_;simp only [go_sem]
 refine zh (hcm) rfl (by simp only [go_sem,i64,ints]) (by simp only [go_sem,i64,ints]) (by first | exact .inl rfl | exact .inr rfl) ?_
 (try simp only [go_sem]);refine hK _ ?_;clear hK K;refine zw (zk [1,2,4,5,6]) ?_;simp only [go_sem]
 refine zq ?_
 refine zb fun K hK=>?_;simp only [go_sem,hz0];refine hK _ ?_;clear hK K;refine zw (zk [1,2,4,5,17]) ?_;simp only [go_sem]
 refine zc rfl (fun hc=>?_) (fun hc=>?_) <;> (try simp only [go_sem] at hc)
 refine zx ?_
 try simp only [go_sem]
 refine zq ?_
 refine zb fun K hK=>?_;simp only [go_sem]
 refine zh (hbd) rfl (by simp only [go_sem,i64,ints]) (by simp only [go_sem,i64,ints]) (by first | exact .inl rfl | exact .inr rfl) ?_
 (try simp only [go_sem]);refine hK _ ?_;clear hK K;refine zw (sub_ownB 4 0 304 3 1 (by omega) (by omega) rfl (by simp only [go_sem,List.getElem?_cons_succ,List.getElem?_cons_zero])) ?_;refine zw (zk [1,4,7]) ?_;simp only [go_sem]
 refine zq ?_
 refine zb fun K hK=>?_;simp only [go_sem];refine hK _ ?_;clear hK K;refine zw (zk [1,4,7]) ?_;simp only [go_sem]
 repeat refine zq ?_
 refine zb fun K hK=>?_;simp only [go_sem];refine hK _ ?_;clear hK K;refine zw (zk [4,7,27,28]) ?_;simp only [go_sem];refine zd ?_
 refine awp_uptoV (n:=61) m (fun i vs=>[(4,.pt 4 (vs 4) 0),(7,.r (brdP bs g cs)),(27,.r (i64 (m : Int))),(28,.r (i64 (i : Int)))])
  (fun i vs=>[(4,.box [.os 304 (vs 304) 1 0 (i + 1)]),(304,.arr 3 1 (arrN (fewO g bs i)))]) (fun _=>True) 0 (zj [] ?_ ?_) (Nat.zero_le _) trivial ?_
 · try simp only [go_sem]
   try rfl
 · try simp only [go_sem]
   try rfl
 · intro i vs hi _
   by_cases hin : i < m
   · have hfl:=few_len g bs i
     have hfe:=few_le g bs i
     have hfs : fewO g bs (i + 1) = fewO g bs i ++ [bestF (fewO g bs i) (throwsO g ((i + 1 : Nat) : Int) bs)]:=rfl
     have hmem:=fun x (hx : x ∈ throwsO g ((i + 1 : Nat) : Int) bs)=>throws_mem hB hx
     have hit:=throws1_ok bs g cs ((i + 1 : Nat) : Int) (by omega) (fun b hb=>(h.bed b hb).2)
     have hti:=hth ((i + 1 : Nat) : Int)
     have wi : IntKind.i64.wrap ((i : Int) + 1) = ((i + 1 : Nat) : Int):=by rw [zI] <;> omega
     rw [hfs]
     generalize hL : fewO g bs i = L at *
     generalize hT : throwsO g ((i + 1 : Nat) : Int) bs = T at *
     have hbsn:=best_snoc L
     have hble:=fun U=>best_le hfe (by omega) U (-1) (by omega)
     refine zq ?_
     refine zb fun K hK=>?_;simp only [go_sem,hin];refine hK _ ?_;clear hK K;refine zw (zk [4,7,27,28,29]) ?_;simp only [go_sem]
     refine zq ?_
     refine zc rfl (fun hc=>?_) (fun hc=>?_) <;> (try simp only [go_sem] at hc)
     refine zx ?_
     try simp only [go_sem]
     refine zq ?_
     refine zd ?_
     refine zq ?_
     refine zb fun K hK=>?_;simp only [go_sem];refine hK _ ?_;clear hK K;refine zw (zk [4,7,8,27,28]) ?_;simp only [go_sem]
     refine zq ?_
     refine zb fun K hK=>?_;simp only [go_sem];refine hK _ ?_;clear hK K;refine zw (zk [4,7,8,9,27,28]) ?_;simp only [go_sem]
     repeat refine zq ?_
     refine zb fun K hK=>?_;simp only [go_sem,wi]
     refine zh (hti) rfl (by simp only [go_sem,i64,ints,wi]) (by simp only [go_sem,i64,ints,wi]) (by first | exact .inl rfl | exact .inr rfl) ?_
     (try simp only [go_sem,wi]);refine hK _ ?_;clear hK K;refine zw (zk [4,7,9,27,28,34]) ?_;simp only [go_sem];refine zd ?_
     refine awp_rangeF hC (T.map thrR) hit [4,7,9,27,28,34] (by decide) (fun vs=>[(4,.pt 4 (vs 4) 0),(7,.r (brdP bs g cs)),(9,.pt 9 (vs 9) 0),(27,.r (i64 (m : Int))),(28,.r (i64 (i : Int))),(34,.r (.fn 115 [.rp [brdP bs g cs],.rp [i64 ((i + 1 : Nat) : Int)]]))])
      (fun j vs=>[(4,.box [.os 304 (vs 304) 1 0 (i + 1)]),(9,.box [.r (i64 (bestF L (T.take j)))]),(304,.arr 3 1 (arrN L))]) (fun _=>True) (zj [] ?_ ?_) trivial (fun _=>rfl) (fun _=>rfl) (fun _ _=>rfl) (by simp) (fun e he=>by obtain ⟨x,_,rfl⟩:=List.mem_map.1 he; rfl) ?_ ?_
     · try simp only [go_sem]
       try rfl
     · try simp only [go_sem]
       try rfl
     · intro j e vs us C' he _
       rw [List.getElem?_map] at he
       obtain ⟨x,hx,rfl⟩:=Option.map_eq_some_iff.1 he
       obtain ⟨m1,m2,m3,m4⟩:=hmem x (mem_of_opt hx)
       have hj:=(List.getElem?_eq_some_iff.1 hx).1
       refine zb fun K hK=>?_;simp only [go_sem];refine hK _ ?_;clear hK K
       refine ⟨rfl,fun C'=>?_⟩
       refine zw (zk [4,7,9,11,27,28,34]) ?_;simp only [go_sem];rw [take_of_opt hx,hbsn]
       have hv : -1 ≤ bestF L (T.take j) ∧ bestF L (T.take j) ≤ (i : Int) + 1:=hble (T.take j)
       have hx2 : x.2 = ((x.2.toNat : Nat) : Int):=by omega
       have hx3 : x.2.toNat < i + 1:=by omega
       obtain ⟨y,hy⟩:=opt_of_lt (l:=L) (i:=x.2.toNat) (by omega)
       have hyM:=hfe y (mem_of_opt hy)
       have hst : stepB L (bestF L (T.take j)) x = if y ≠ -1 ∧ (bestF L (T.take j) = -1 ∨ y + 1 < bestF L (T.take j)) then y + 1 else bestF L (T.take j):=by
        unfold stepB
        rw [List.getD_eq_getElem?_getD,hy]; rfl
       rw [hst]
       generalize bestF L (T.take j) = B at *
       rw [hx2]
       generalize x.2.toNat = q at *
       have hqL : q < L.length:=by omega
       have wy : IntKind.i64.wrap (y + 1) = y + 1:=by rw [zI] <;> omega
       refine zd ?_
       refine zq ?_
       refine zb fun K hK=>?_;simp only [go_sem,hy,hqL,hx3,hfl,List.length_map]
       refine ⟨by omega,?_⟩
       refine hK _ ?_;clear hK K;refine zw (zk [4,7,9,12,27,28,34]) ?_;simp only [go_sem]
       by_cases c0 : y = -1
       · have e0 : (y != -1) = false:=by simp [c0]
         rw [if_neg (fun hh=>hh.1 c0)]
         refine zq ?_
         refine zb fun K hK=>?_;simp only [go_sem,e0];refine hK _ ?_;clear hK K;refine zw (zk [4,7,9,12,27,28,34,52]) ?_;simp only [go_sem]
         refine zc rfl (fun hc=>?_) (fun hc=>?_) <;> (try simp only [go_sem] at hc)
         refine zx ?_
         try simp only [go_sem]
         refine zj (F:=fun _=>[]) [] ?_ ?_
         · try simp only [go_sem]
         · try simp only [go_sem]
       · have e0 : (y != -1) = true:=by simp [c0]
         by_cases c1 : B = -1
         · have e1 : (B == -1) = true:=by simp [c1]
           rw [if_pos ⟨c0,.inl c1⟩]
           refine zq ?_
           refine zb fun K hK=>?_;simp only [go_sem,e0,e1];refine hK _ ?_;clear hK K;refine zw (zk [4,7,9,12,27,28,34,52]) ?_;simp only [go_sem]
           refine zc rfl (fun hc=>?_) (fun hc=>?_) <;> (try simp only [go_sem] at hc)
           refine zb fun K hK=>?_;simp only [go_sem,wy];refine hK _ ?_;clear hK K
           try simp only [go_sem]
           refine zj (F:=fun _=>[]) [] ?_ ?_
           · try simp only [go_sem]
           · try simp only [go_sem]
         · have e1 : (B == -1) = false:=by simp [c1]
           by_cases c2 : y + 1 < B
           · have e2 : decide (y + 1 < B) = true:=decide_eq_true c2
             rw [if_pos ⟨c0,.inr c2⟩]
             refine zq ?_
             refine zb fun K hK=>?_;simp only [go_sem,e0,e1,wy,e2];refine hK _ ?_;clear hK K;refine zw (zk [4,7,9,12,27,28,34,52]) ?_;simp only [go_sem]
             refine zc rfl (fun hc=>?_) (fun hc=>?_) <;> (try simp only [go_sem] at hc)
             refine zb fun K hK=>?_;simp only [go_sem,wy];refine hK _ ?_;clear hK K
             try simp only [go_sem]
             refine zj (F:=fun _=>[]) [] ?_ ?_
             · try simp only [go_sem]
             · try simp only [go_sem]
           · have e2 : decide (y + 1 < B) = false:=decide_eq_false c2
             rw [if_neg (fun hh=>hh.2.elim c1 c2)]
             refine zq ?_
             refine zb fun K hK=>?_;simp only [go_sem,e0,e1,wy,e2];refine hK _ ?_;clear hK K;refine zw (zk [4,7,9,12,27,28,34,52]) ?_;simp only [go_sem]
             refine zc rfl (fun hc=>?_) (fun hc=>?_) <;> (try simp only [go_sem] at hc)
             refine zx ?_
             try simp only [go_sem]
             refine zj (F:=fun _=>[]) [] ?_ ?_
             · try simp only [go_sem]
             · try simp only [go_sem]
     · intro vs us _
       try simp only [go_sem]
       refine zw (sub_wake rfl) ?_
       try simp only [List.length_map,List.take_length]
       refine zb fun K hK=>?_;simp only [go_sem,hfl,List.length_map]
       refine ⟨by omega,?_⟩
       refine hK _ ?_;clear hK K;refine zw (zk [4,7,27,28]) ?_;simp only [go_sem];refine zb fun K hK=>?_;simp only [go_sem];(try simp (disch:=omega) only [zI]);refine hK _ ?_;clear hK K
       try simp only [go_sem]
       refine ⟨by omega,zj [9] ?_ ?_⟩
       · try simp only [go_sem]
       · try simp only [go_sem]
         try simp
   · have hie : i = m:=by omega
     subst hie
     have hfl:=few_len g bs i
     generalize fewO g bs i = L at *
     refine zq ?_
     refine zb fun K hK=>?_;simp only [go_sem,Nat.lt_irrefl];refine hK _ ?_;clear hK K;refine zw (zk [4,29]) ?_;simp only [go_sem]
     refine zq ?_
     refine zc rfl (fun hc=>?_) (fun hc=>?_) <;> (try simp only [go_sem] at hc)
     refine zf ?_;simp only [go_sem];refine zw (sub_frzB 4 0 304 (ty:=3) (sz:=1) (off:=0) (m:=i + 1) (es:=arrN L) (by omega) (by omega) rfl (by simp only [go_sem,List.getElem?_cons_succ,List.getElem?_cons_zero]) (by rfl) (by simp [hfl])) ?_
     have tk1 : List.take (i + 1) (arrN L) = arrN L:=List.take_of_length_le (by simp [hfl])
     simp only [go_sem,List.drop_zero,tk1,List.set_cons_succ,List.set_cons_zero]
     refine zq ?_
     refine zb fun K hK=>?_;simp only [go_sem];refine hK _ ?_;clear hK K;refine zw (zk [4,5]) ?_;simp only [go_sem];refine ze ?_;simp only [go_sem]
abbrev finC (bs : List Int) (g k : Int) (dn s : Nat) : List RV:=[brdP bs g (cntO g bs s dn),ints bs,i64 g,i64 k,i64 (s : Int)]
theorem newFinish_ok (bs : List Int) (g : Int) (dn s : Nat) (h : BdsO bs) (hg : 0 ≤ g ∧ g ≤ 2) (hk : 1 ≤ dn ∧ dn ≤ 6) (hs : 1 ≤ s ∧ s ≤ 1000) :
 ACalls Try.prog 117 [ouR bs g (dn : Int),i64 (s : Int)] (.tu [.ag (finC bs g (dn : Int) dn s),i64 0]):=by
 have hch:=ocheck_ok bs g (dn : Int) h hg (by omega)
 have w1 : withinL 1 1001 [(s : Int)] = true:=by simp [withinL]; omega
 have c1:=owithin_ok 1 1001 [(s : Int)]
 rw [w1] at c1
 have hbd:=board_ok bs g dn s (fun b hb=>h.bed b hb) h.len (by omega) (by omega)
 have z0 : ((0 : Int) != 0) = false:=rfl
 refine acalls_st (rs:=[.ag (finC bs g (dn : Int) dn s),i64 0]) [.cell 4 183,.tmp 5] Try.func117 rfl (by kernel_rfl) Try.ntmps117 rfl (by simp) rfl fun C vs=>?_
 refine zq ?_
 refine zb fun K hK=>?_;simp only [go_sem];refine hK _ ?_;clear hK K;refine zw (sub_frzP 2 2 [ints bs,i64 g,i64 (dn : Int)] (by omega) rfl rfl) ?_;refine zw (zk [1,2,4]) ?_;simp only [go_sem]
 refine zq ?_
 refine zd ?_
 refine zq ?_
 refine zb fun K hK=>?_;simp only [go_sem]
 refine zh (hch) rfl (by simp only [go_sem,i64,ints,z0]) (by simp only [go_sem,i64,ints,z0]) (by first | exact .inl rfl | exact .inr rfl) ?_
 (try simp only [go_sem,z0]);refine hK _ ?_;clear hK K;refine zw (zk [1,2,4,6]) ?_;simp only [go_sem]
 refine zc rfl (fun hc=>?_) (fun hc=>?_) <;> (try simp only [go_sem] at hc)
 refine zq ?_
 refine zb fun K hK=>?_;simp only [go_sem]
 refine zh (c1) rfl (by simp only [go_sem,i64,ints]) (by simp only [go_sem,i64,ints]) (by first | exact .inl rfl | exact .inr rfl) ?_
 (try simp only [go_sem]);refine hK _ ?_;clear hK K;refine zw (zk [1,2,4,11]) ?_;simp only [go_sem]
 refine zc rfl (fun hc=>?_) (fun hc=>?_) <;> (try simp only [go_sem] at hc)
 refine zx ?_
 try simp only [go_sem]
 refine zq ?_
 refine awp_dreg2 [(2,none),(4,some 4)] follows (by decide +kernel) (by kernel_rfl) (by simp only [keysOk,List.mem_cons,List.not_mem_nil,forall_eq_or_imp,Oc.keyOf,go_sem]; simp) fun K hK=>?_
 simp only [go_sem]
 refine zh (hbd) rfl (by simp only [go_sem,i64,ints]) (by simp only [go_sem,i64,ints]) (by first | exact .inl rfl | exact .inr rfl) ?_
 (try simp only [go_sem]);refine hK _ ?_;clear hK K;refine zw (zk [4,5]) ?_;simp only [go_sem];refine ze ?_;simp only [go_sem]
 try exact rv_le _
theorem number_ok2 (bs : List Int) (g : Int) (dn s : Nat) (h : BdsO bs) (hg : 0 ≤ g ∧ g ≤ 2) (hk : 1 ≤ dn ∧ dn ≤ 6) (hs : 1 ≤ s ∧ s ≤ 1000) :
 ACalls Try.prog 85 [ouR bs g (dn : Int),i64 (s : Int)] (.tu [i64 (totO (cntO g bs s dn) s),i64 0]):=by
 have hnf:=newFinish_ok bs g dn s h hg hk hs
 have hcl:=cnt_len g bs s dn
 have hto:=total_ok bs g (cntO g bs s dn) s (s + 1) (by omega) (fun r hr=>by
  obtain ⟨j,hj,rfl⟩:=List.mem_map.1 hr
  have hj:=List.mem_range.1 hj
  exact ⟨rowN_len g bs s j,rowN_le6 g bs h.len s (by omega)⟩) (by omega)
 have z0 : ((0 : Int) != 0) = false:=rfl
 generalize totO (cntO g bs s dn) s = T at *
 refine acalls_st (rs:=[i64 T,i64 0]) [.tmp 4,.tmp 5] Try.func85 rfl (by kernel_rfl) Try.ntmps85 rfl (by simp) rfl fun C vs=>?_
 refine zq ?_
 refine zb fun K hK=>?_;simp only [go_sem];refine hK _ ?_;clear hK K;refine zw (sub_frzP 2 2 [ints bs,i64 g,i64 (dn : Int)] (by omega) rfl rfl) ?_;refine zw (zk [1,2]) ?_;simp only [go_sem]
 refine zq ?_
 refine zb fun K hK=>?_;simp only [go_sem]
 refine zh (hnf) rfl (by simp only [go_sem,i64,ints]) (by simp only [go_sem,i64,ints]) (by first | exact .inl rfl | exact .inr rfl) ?_
 (try simp only [go_sem]);refine hK _ ?_;clear hK K;refine zw (sub_frzP 6 6 (finC bs g (dn : Int) dn s) (by omega) rfl rfl) ?_;refine zw (zk [1,6,7]) ?_;simp only [go_sem]
 repeat refine zq ?_
 refine zb fun K hK=>?_;simp only [go_sem,z0];refine hK _ ?_;clear hK K;refine zw (zk [1,6,15]) ?_;simp only [go_sem]
 refine zc rfl (fun hc=>?_) (fun hc=>?_) <;> (try simp only [go_sem] at hc)
 refine zx ?_
 try simp only [go_sem]
 refine zq ?_
 refine zb fun K hK=>?_;simp only [go_sem]
 refine zh (hto) rfl (by simp only [go_sem,i64,ints]) (by simp only [go_sem,i64,ints]) (by first | exact .inl rfl | exact .inr rfl) ?_
 (try simp only [go_sem]);refine hK _ ?_;clear hK K;refine zw (zk [4,5]) ?_;simp only [go_sem];refine ze ?_;simp only [go_sem]
def sixO : List Int:=[120,125,205,220,225,320]
theorem sixO_ok : BdsO sixO:=⟨by decide,by decide,by decide,by decide⟩
theorem pubOut_ok : ACalls Try.prog 52 [] (.bo true):=by
 have h1:=number_ok2 sixO 1 2 60 sixO_ok (by omega) (by omega) (by omega)
 have h2:=fewest_ok sixO 1 2 40 sixO_ok (by omega) (by omega) (by omega)
 have e1 : totO (cntO 1 sixO 60 2) 60 = 3:=by decide +kernel
 have e2 : (fewO 1 sixO 40)[35]? = some 2:=by decide +kernel
 have e3 : (fewO 1 sixO 40)[25]? = some (-1):=by decide +kernel
 have e4:=few_len 1 sixO 40
 rw [e1] at h1
 generalize fewO 1 sixO 40 = F at *
 have z0 : ((0 : Int) == 0) = true:=rfl
 have l35 : 35 < F.length:=by omega
 have l25 : 25 < F.length:=by omega
 refine acalls_st (rs:=[.bo true]) [.tmp 0] Try.func52 rfl (by kernel_rfl) Try.ntmps52 rfl (by simp) rfl fun C vs=>?_
 refine zq ?_
 refine zb fun K hK=>?_;simp only [go_sem];refine hK _ ?_;clear hK K;refine zw (zk [0]) ?_;simp only [go_sem]
 refine zq ?_
 refine zb fun K hK=>?_;simp only [go_sem];refine hK _ ?_;clear hK K;refine zw (sub_frzP 1 1 [ints sixO,i64 1,i64 2] (by omega) rfl rfl) ?_;refine zw (zk [0,1]) ?_;simp only [go_sem]
 refine zq ?_
 refine zb fun K hK=>?_;simp only [go_sem]
 refine zh (h1) rfl (by simp only [go_sem,i64,ints]) (by simp only [go_sem,i64,ints]) (by first | exact .inl rfl | exact .inr rfl) ?_
 (try simp only [go_sem]);refine hK _ ?_;clear hK K;refine zw (zk [0,1,2,3]) ?_;simp only [go_sem]
 refine zq ?_
 refine zb fun K hK=>?_;simp only [go_sem]
 refine zh (h2) rfl (by simp only [go_sem,i64,ints]) (by simp only [go_sem,i64,ints]) (by first | exact .inl rfl | exact .inr rfl) ?_
 (try simp only [go_sem]);refine hK _ ?_;clear hK K;refine zw (zk [0,2,3,4,5]) ?_;simp only [go_sem]
 refine zq ?_
 refine zb fun K hK=>?_;simp only [go_sem,z0,e2,e3,e4,l35,l25,List.length_map,beq_self_eq_true];refine hK _ ?_;clear hK K;refine zw (zk [0]) ?_;simp only [go_sem];refine ze ?_;simp only [go_sem]
 try rfl
end Go.Proofs.Ytgfbenanljjgaaa.Du

namespace Go.Proofs.Ytgfbenanljjgaaa.Du.Th
open Go Go.Oc
set_option linter.unusedSimpArgs false
set_option linter.unusedVariables false
set_option maxRecDepth 8000
def tightB (d L H : Int) (x : Bd) : Bd:=⟨x.b,max x.lo (d - (H - x.hi)),min x.hi (d - (L - x.lo))⟩
def tightL (d : Int) (l : List Bd) : List Bd:=l.map (tightB d (loS l) (hiS l))
theorem aimOk_facts {d : Int} {a : Am} (h : aimOk d a = true) : bedOk a.at_ = true ∧ a.beds ≠ [] ∧ seqOk none a.beds = true ∧ chOk d a.beds = true ∧ loS a.beds ≤ d ∧ d ≤ hiS a.beds:=by
 simp only [aimOk,Bool.and_eq_true,decide_eq_true_eq,Bool.not_eq_true'] at h
 obtain ⟨⟨⟨⟨⟨h1,h2⟩,h3⟩,h4⟩,h5⟩,h6⟩:=h
 exact ⟨h1,fun e=>(by rw [e] at h2; cases h2),h3,h4,h5,h6⟩
theorem checkV_zero {d : Int} {l : List Am} (h : checkV d l = 0) : l.length ≤ 20 ∧ (∀ a ∈ l,a.beds.length ≤ 10) ∧ l ≠ [] ∧ (1 ≤ d ∧ d ≤ 3000) ∧ ∀ a ∈ l,aimOk d a = true:=by
 unfold checkV at h
 split at h
 · cases h
 rename_i h1
 split at h
 · cases h
 rename_i h2
 split at h
 · rename_i h3
   simp only [Bool.or_eq_true,decide_eq_true_eq,List.any_eq_true,not_or,not_exists,not_and,Nat.not_lt,Bool.not_eq_true,Bool.not_eq_false',Bool.and_eq_true] at h1 h2
   refine ⟨h1.1,h1.2,fun e=>?_,by simpa using h2.2,List.all_eq_true.1 h3⟩
   rw [e] at h2
   simp at h2
 · cases h
def tightA (d : Int) (a : Am) : Am:=⟨a.at_,tightL d a.beds⟩
def cmpI (x y : Int) : Int:=if x < y then -1 else if y < x then 1 else 0
theorem nan_ok (n : Int) : ACalls Try.prog 103 [i64 n] (.bo false):=by
 refine acalls_st (rs:=[.bo false]) [.tmp 2] Try.func103 rfl (by kernel_rfl) Try.ntmps103 rfl (by simp) rfl fun C vs=>?_
 refine zq ?_
 refine zb fun K hK=>?_;simp only [go_sem];refine hK _ ?_;clear hK K
 refine zq ?_
 refine zb fun K hK=>?_;simp only [go_sem];refine hK _ ?_;clear hK K;refine ze ?_;simp only [go_sem]
 simp
theorem compare_ok (x y : Int) : ACalls Try.prog 74 [i64 x,i64 y] (i64 (cmpI x y)):=by
 refine acalls_st (rs:=[i64 (cmpI x y)]) [.tmp 4] Try.func74 rfl (by kernel_rfl) Try.ntmps74 rfl (by simp) rfl fun C vs=>?_
 refine zq ?_
 refine zb fun K hK=>?_;simp only [go_sem];refine hK _ ?_;clear hK K
 refine zq ?_
 refine zb fun K hK=>?_;simp only [go_sem]
 refine zh (nan_ok x) rfl (by simp only [go_sem,i64,ints]) (by simp only [go_sem,i64,ints]) (by first | exact .inl rfl | exact .inr rfl) ?_
 (try simp only [go_sem]);refine hK _ ?_;clear hK K
 refine zq ?_
 refine zb fun K hK=>?_;simp only [go_sem]
 refine zh (nan_ok y) rfl (by simp only [go_sem,i64,ints]) (by simp only [go_sem,i64,ints]) (by first | exact .inl rfl | exact .inr rfl) ?_
 (try simp only [go_sem]);refine hK _ ?_;clear hK K
 repeat refine zq ?_
 refine zb fun K hK=>?_;simp only [go_sem];refine hK _ ?_;clear hK K
 refine zc rfl (fun hc=>?_) (fun hc=>?_) <;> (try simp only [go_sem] at hc)
 refine zx ?_
 try simp only [go_sem]
 repeat refine zq ?_
 refine zb fun K hK=>?_;simp only [go_sem];refine hK _ ?_;clear hK K
 refine zc rfl (fun hc=>?_) (fun hc=>?_) <;> (try simp only [go_sem] at hc)
 refine zx ?_
 try simp only [go_sem]
 repeat refine zq ?_
 refine zb fun K hK=>?_;simp only [go_sem];refine hK _ ?_;clear hK K
 refine zc rfl (fun hc=>?_) (fun hc=>?_) <;> (try simp only [go_sem] at hc)
 · refine zq ?_
   refine zb fun K hK=>?_;simp only [go_sem];refine hK _ ?_;clear hK K;refine ze ?_;simp only [go_sem]
   simp [cmpI,hc]
 refine zx ?_
 try simp only [go_sem]
 repeat refine zq ?_
 refine zb fun K hK=>?_;simp only [go_sem];refine hK _ ?_;clear hK K
 have h1:=hc
 refine zc rfl (fun hc=>?_) (fun hc=>?_) <;> (try simp only [go_sem] at hc)
 · refine zq ?_
   refine zb fun K hK=>?_;simp only [go_sem];refine hK _ ?_;clear hK K;refine ze ?_;simp only [go_sem]
   have : ¬ x < y:=by omega
   simp [cmpI,hc,this]
 refine zx ?_
 try simp only [go_sem]
 refine zq ?_
 refine zb fun K hK=>?_;simp only [go_sem];refine hK _ ?_;clear hK K;refine ze ?_;simp only [go_sem]
 have h2 : ¬ x < y:=by omega
 have h3 : ¬ y < x:=by omega
 simp [cmpI,h2,h3]
def insB (lt : Nat → Nat → Bool) (x : Nat) : List Nat → List Nat
 | []=>[x]
 | y :: ys=>if lt x y then y :: insB lt x ys else x :: y :: ys
def sortB (lt : Nat → Nat → Bool) : List Nat → List Nat → List Nat
 | [],R=>R
 | x :: xs,R=>sortB lt xs (insB lt x R)
def sortN (lt : Nat → Nat → Bool) (l : List Nat) : List Nat:=(sortB lt l []).reverse
theorem insB_len (lt : Nat → Nat → Bool) (x : Nat) : ∀ R,(insB lt x R).length = R.length + 1
 | []=>rfl
 | y :: R => by
   unfold insB
   split
   · simp [insB_len lt x R]
   · rfl
theorem insB_skip (lt : Nat → Nat → Bool) (x : Nat) : ∀ (R : List Nat) (k : Nat),(∀ y ∈ R.take k,lt x y = true) → insB lt x R = R.take k ++ insB lt x (R.drop k)
 | R,0,_=>by simp
 | [],k + 1,_=>by simp
 | y :: R, k + 1, h => by
   have hy : lt x y = true:=h y (by simp)
   have ih:=insB_skip lt x R k fun z hz=>h z (by simp [hz])
   simp only [List.take_succ_cons,List.drop_succ_cons,List.cons_append];rw [← ih]
   simp [insB,hy]
theorem sortB_snoc (lt : Nat → Nat → Bool) : ∀ (l : List Nat) (x : Nat) (R : List Nat),sortB lt (l ++ [x]) R = insB lt x (sortB lt l R)
 | [],_,_=>rfl
 | y :: l,x,R=>by simp only [List.cons_append,sortB]; exact sortB_snoc lt l x _
theorem sortB_len (lt : Nat → Nat → Bool) : ∀ (l R : List Nat),(sortB lt l R).length = l.length + R.length
 | [],R=>by simp [sortB]
 | x :: l,R=>by simp only [sortB]; rw [sortB_len lt l,insB_len]; simp; omega
theorem mem_insB (lt : Nat → Nat → Bool) (x z : Nat) : ∀ R,z ∈ insB lt x R ↔ z = x ∨ z ∈ R
 | []=>by simp [insB]
 | y :: R => by
   unfold insB
   split
   · simp only [List.mem_cons,mem_insB lt x z R]
     constructor
     · rintro (h | h | h) <;> simp [h]
     · rintro (h | h | h) <;> simp [h]
   · simp
theorem mem_sortB (lt : Nat → Nat → Bool) (z : Nat) : ∀ l R,z ∈ sortB lt l R ↔ z ∈ l ∨ z ∈ R
 | [],R=>by simp [sortB]
 | x :: l, R => by
   simp only [sortB];rw [mem_sortB lt z l,mem_insB]
   simp only [List.mem_cons]
   constructor
   · rintro (h | h | h) <;> simp [h]
   · rintro ((h | h) | h) <;> simp [h]
def holeL (R : List Nat) (x k : Nat) (rest : List Nat) : List Nat:=(R.drop k).reverse ++ x :: ((R.take k).reverse ++ rest)
theorem hole_len (R : List Nat) (x k : Nat) (rest : List Nat) (hk : k ≤ R.length) : (holeL R x k rest).length = R.length + 1 + rest.length:=by
 simp [holeL]; omega
theorem hole_at (R : List Nat) (x k : Nat) (rest : List Nat) (hk : k ≤ R.length) : (holeL R x k rest)[R.length - k]? = some x:=by
 unfold holeL
 rw [List.getElem?_append_right (by simp)]
 simp
theorem hole_next {R : List Nat} {x k y : Nat} {rest : List Nat} (hy : R[k]? = some y) : (holeL R x k rest)[R.length - k - 1]? = some y ∧ (holeL R x k rest) = (R.drop (k + 1)).reverse ++ y :: x :: ((R.take k).reverse ++ rest) ∧ holeL R x (k + 1) rest = (R.drop (k + 1)).reverse ++ x :: y :: ((R.take k).reverse ++ rest):=by
 have hk:=(List.getElem?_eq_some_iff.1 hy).1
 have hd:=drop_of_opt hy
 have ht:=take_of_opt hy
 have e1 : (holeL R x k rest) = (R.drop (k + 1)).reverse ++ y :: x :: ((R.take k).reverse ++ rest):=by
  unfold holeL; rw [hd]; simp
 refine ⟨?_,e1,by unfold holeL; rw [ht]; simp⟩
 rw [e1,List.getElem?_append_right (by simp; omega)]
 have : R.length - k - 1 - (R.drop (k + 1)).reverse.length = 0:=by simp; omega
 rw [this]; rfl
theorem hole_swap {α : Type} (g : Nat → α) {R : List Nat} {x k y : Nat} {rest : List Nat} (hy : R[k]? = some y) :
 (((holeL R x k rest).map g).set (R.length - k) (g y)).set (R.length - k - 1) (g x) = (holeL R x (k + 1) rest).map g:=by
 obtain ⟨_,e1,e2⟩:=hole_next (x:=x) (rest:=rest) hy
 have hk:=(List.getElem?_eq_some_iff.1 hy).1
 rw [e1,e2,← List.map_set,← List.map_set]
 congr 1
 have hl : (R.drop (k + 1)).reverse.length = R.length - k - 1:=by simp; omega
 generalize (R.drop (k + 1)).reverse = A at hl
 generalize (R.take k).reverse ++ rest = B
 have e3 : R.length - k = A.length + 1:=by omega
 rw [e3,Nat.add_sub_cancel]
 rw [List.set_append_right _ _ (by omega)]
 simp only [Nat.add_sub_cancel_left,List.set_cons_succ,List.set_cons_zero];rw [List.set_append_right _ _ (by omega)]
 simp
theorem lent_put {vs : Nat → Nat} {k : Nat} (h : Lent vs) : Lent (upd vs k 0):=fun j hj=>by
 unfold upd; split
 · rfl
 · exact h j hj
abbrev idx (l : List Nat) : List (List RV):=l.map fun (x : Nat)=>[i64 (x : Int)]
end Go.Proofs.Ytgfbenanljjgaaa.Du.Th

namespace Go.Proofs.Ytgfbenanljjgaaa.Du.Th.Ai
open Go Go.Oc
set_option linter.unusedSimpArgs false
set_option linter.unusedVariables false
set_option maxRecDepth 8000
abbrev arrV (l : List Int) : List (List RV):=l.map fun n=>[i64 n]
abbrev fnS (s : Bool) : AV:=.fn 166 [.r (.rp [.bo s]),.pt 1001 0 0]
abbrev rowsV (l : List Nat) (vals : List Int) : List (Nat × RowC):=[(1000,.arr 3 1 (idx l)),(1001,.box [.os 1002 0 1 0 vals.length]),(1002,.arr 3 1 (arrV vals))]
theorem insertionV_ok (lt : Nat → Nat → Bool) (c : Nat → Nat → Int) (s : Bool) (vals : List Int) (l : List Nat) (hl : l.length ≤ 1000) (hlt : ∀ x y,lt x y = decide (c x y < 0))
 (hcc : ∀ x ∈ l,∀ y ∈ l,ACalls Try.prog 166 [i64 (x : Int),i64 (y : Int),.rp [.bo s],.rp [ints vals]] (i64 (c x y))) :
 MCalls Try.prog 172 (rowsV l vals) (rowsV (sortN lt l) vals) [.os 1000 0 1 0 l.length,.r (i64 0),.r (i64 l.length),fnS s] (.tu []):=by
 refine mcalls_st (n:=53) (rs:=[]) _ _ [] Try.func172 rfl (by kernel_rfl) Try.ntmps172 rfl (by simp) rfl rfl fun C=>?_
 have hmem : ∀ i z,z ∈ sortB lt (l.take i) [] → z ∈ l:=fun i z hz=>by
  rw [mem_sortB] at hz
  rcases hz with hz | hz
  · exact List.mem_of_mem_take hz
  · cases hz
 refine zq ?_
 refine zb fun K hK=>?_;simp only [go_sem];(try simp (disch:=omega) only [zI]);refine hK _ ?_;clear hK K;refine zw (zk [0,1,2,3,8]) ?_;simp only [go_sem];refine zd ?_
 refine awp_upto0 (n:=53) (max l.length 1) (fun i vs=>[(0,.os 1000 0 1 0 l.length),(1,.r (i64 0)),(2,.r (i64 l.length)),(3,fnS s),(8,.r (i64 i))])
  (fun i=>[(1000,.arr 3 1 (idx ((sortB lt (l.take i) []).reverse ++ l.drop i))),(1001,.box [.os 1002 0 1 0 vals.length]),(1002,.arr 3 1 (arrV vals))]) (fun i=>1 ≤ i) 1 (fit0_of [] lent_zero ?_ ?_) (by omega) (Nat.le_refl _) ?_
 · try simp only [go_sem]
 · simp only [go_sem]
   cases l with
   | nil=>rfl
   | cons x l=>simp [sortB,insB]
 · intro i vs hv hi hi1
   have hv0:=hv 1000 (by omega)
   have hv1:=hv 1001 (by omega)
   have hv2:=hv 1002 (by omega)
   repeat refine zq ?_
   refine zb fun K hK=>?_;simp only [go_sem];refine hK _ ?_;clear hK K;refine zw (zk [0,1,2,3,8,14]) ?_;simp only [go_sem]
   refine zc rfl (fun hc=>?_) (fun hc=>?_) <;> (try simp only [go_sem] at hc)
   · have hci : i < l.length:=by omega
     obtain ⟨x,hx⟩:=opt_of_lt hci
     obtain ⟨R,hR⟩ : ∃ R,R = sortB lt (l.take i) []:=⟨_,rfl⟩
     have hRl : R.length = i:=by rw [hR,sortB_len]; simp; omega
     have hRm : ∀ z ∈ R,z ∈ l:=fun z hz=>hmem i z (hR ▸ hz)
     have hnx : sortB lt (l.take (i + 1)) [] = insB lt x R:=by rw [take_of_opt hx,sortB_snoc,hR]
     have hst : (sortB lt (l.take i) []).reverse ++ l.drop i = holeL R x 0 (l.drop (i + 1)):=by rw [← hR,drop_of_opt hx]; simp [holeL]
     rw [hst]
     refine zx ?_
     refine zq ?_
     refine zd ?_
     refine zq ?_
     refine zb fun K hK=>?_;simp only [go_sem];refine hK _ ?_;clear hK K;refine zw (zk [0,1,2,3,8,9]) ?_;simp only [go_sem];refine zd ?_
     refine awp_upto0 (n:=53) i (fun k vs=>[(0,.os 1000 0 1 0 l.length),(1,.r (i64 0)),(2,.r (i64 l.length)),(3,fnS s),(8,.r (i64 i)),(9,.r (i64 (i - k : Nat)))])
      (fun k=>[(1000,.arr 3 1 (idx (holeL R x k (l.drop (i + 1))))),(1001,.box [.os 1002 0 1 0 vals.length]),(1002,.arr 3 1 (arrV vals))]) (fun k=>∀ y ∈ R.take k,lt x y = true) 0 (fit0_of [] hv ?_ ?_) (Nat.zero_le _) (by simp) ?_
     · try simp only [go_sem]
     · try simp only [go_sem]
     · intro k vs hv hk hI
       have hv0:=hv 1000 (by omega)
       have hv1:=hv 1001 (by omega)
       have hv2:=hv 1002 (by omega)
       have hins:=insB_skip lt x R k hI
       have done : insB lt x (R.drop k) = x :: R.drop k → sortB lt (l.take (i + 1)) [] = R.take k ++ x :: R.drop k:=fun h=>by rw [hnx,hins,h]
       by_cases hk0 : k = i
       · have e0 : i - k = 0:=by omega
         repeat refine zq ?_
         refine awp_dreg2 [(0,some 1000)] follows (by decide +kernel) (by kernel_rfl) (by simp only [keysOk,List.mem_cons,List.not_mem_nil,forall_eq_or_imp,Oc.keyOf,go_sem]; simp) fun K hK=>?_
         simp only [go_sem,hv0,hv1,hv2,e0];refine hK _ ?_;clear hK K;refine zw (zk [0,1,2,3,8,9,34]) ?_;simp only [go_sem]
         refine zc rfl (fun hc=>?_) (fun hc=>?_) <;> (try simp only [go_sem] at hc)
         refine zf ?_;simp only [go_sem];refine zb fun K hK=>?_;simp only [go_sem];(try simp (disch:=omega) only [zI]);refine hK _ ?_;clear hK K
         try simp only [go_sem]
         refine ⟨by omega,fit0_of [] hv ?_ ?_⟩
         · try simp only [go_sem]
         · have hd0 : R.drop k = []:=List.drop_eq_nil_of_le (by omega)
           have:=done (by rw [hd0]; rfl)
           simp only [go_sem,this]
           simp [holeL]
       · obtain ⟨y,hy⟩:=opt_of_lt (l:=R) (i:=k) (by omega)
         obtain ⟨j,hj⟩ : ∃ j,i - k = j + 1:=⟨i - k - 1,by omega⟩
         have hjs : IntKind.i64.wrap ((j : Int) + 1 - 1) = j:=by rw [zI] <;> omega
         have hlen : (holeL R x k (l.drop (i + 1))).length = l.length:=by rw [hole_len _ _ _ _ (by omega),List.length_drop]; omega
         have hxa : (holeL R x k (l.drop (i + 1)))[j + 1]? = some x:=by rw [← hj,← hRl]; exact hole_at R x k _ (by omega)
         have hya : (holeL R x k (l.drop (i + 1)))[j]? = some y:=by
          have:=(hole_next (x:=x) (rest:=l.drop (i + 1)) hy).1
          rw [hRl,hj] at this
          exact this
         have hcall:=hcc x (mem_of_opt hx) y (hRm y (mem_of_opt hy))
         have hpos : (0 < (j : Int) + 1) = True:=by simp
         have hlxy:=hlt x y
         repeat refine zq ?_
         refine awp_dreg2 [(0,some 1000)] follows (by decide +kernel) (by kernel_rfl) (by simp only [keysOk,List.mem_cons,List.not_mem_nil,forall_eq_or_imp,Oc.keyOf,go_sem]; simp) fun K hK=>?_
         simp only [go_sem,hv0,hv1,hv2,hj,hjs,hxa,hya,hlen,hpos]
         refine ⟨by omega,by omega,?_⟩
         refine zh (hcall) rfl (by simp only [go_sem,i64,ints,hv0,hv1,hv2,fnS]) (by simp only [go_sem,i64,ints,hv0,hv1,hv2,fnS]) (by first | exact .inl rfl | exact .inr rfl) ?_
         (try simp only [go_sem,hv0,hv1,hv2,fnS]);refine hK _ ?_;clear hK K;refine zw (zk [0,1,2,3,8,9,34]) ?_;simp only [go_sem]
         cases hcx : decide (c x y < 0)
         · skip
           refine zc rfl (fun hc=>?_) (fun hc=>?_) <;> (try simp only [go_sem] at hc)
           refine zf ?_;simp only [go_sem];refine zb fun K hK=>?_;simp only [go_sem];(try simp (disch:=omega) only [zI]);refine hK _ ?_;clear hK K
           try simp only [go_sem]
           refine ⟨by omega,fit0_of [] hv ?_ ?_⟩
           · try simp only [go_sem]
           · have:=done (by rw [drop_of_opt hy]; simp [insB,hlxy,hcx])
             simp only [go_sem,this]
             simp [holeL]
         · skip
           refine zc rfl (fun hc=>?_) (fun hc=>?_) <;> (try simp only [go_sem] at hc)
           refine zx ?_
           try simp only [go_sem]
           refine zq ?_
           refine zd ?_
           have hset : ((idx (holeL R x k (l.drop (i + 1)))).set (j + 1) [i64 (y : Int)]).getD j [] = [i64 (y : Int)]:=by
            rw [List.getD_eq_getElem?_getD,List.getElem?_set_ne (by omega),List.getElem?_map,hya]; rfl
           have hsw:=hole_swap (fun (x : Nat)=>[i64 (x : Int)]) (x:=x) (rest:=l.drop (i + 1)) hy
           rw [hRl,hj] at hsw
           simp only [Nat.add_sub_cancel] at hsw
           refine awp_dreg2 [(0,some 1000)] follows (by decide +kernel) (by kernel_rfl) (by simp only [keysOk,List.mem_cons,List.not_mem_nil,forall_eq_or_imp,Oc.keyOf,go_sem]; simp) fun K hK=>?_
           simp only [go_sem,hv0,hv1,hv2,hj,hjs,hxa,hya,hlen,hset,List.length_set]
           repeat' first | intro _ | refine And.intro ?_ ?_
           all_goals first | omega | skip
           all_goals (refine hK _ ?_; clear hK K)
           refine zw (zk [0,1,2,3,8,9]) ?_;simp only [go_sem];refine zb fun K hK=>?_;simp only [go_sem,hjs];refine hK _ ?_;clear hK K
           try simp only [go_sem]
           have hj2 : i - (k + 1) = j:=by omega
           refine ⟨by omega,?_,fit0_of [] (lent_put (lent_put hv)) ?_ ?_⟩
           · rw [take_of_opt hy]
             intro z hz
             rcases List.mem_append.1 hz with hz | hz
             · exact hI z hz
             · simp only [List.mem_singleton] at hz
               subst hz
               rw [hlxy,hcx]
           · simp only [go_sem,hj2]
           · simp only [go_sem];exact congrArg (fun z=>[(1000,RowC.arr 3 1 z),(1001,RowC.box [.os 1002 0 1 0 vals.length]),(1002,RowC.arr 3 1 (arrV vals))]) hsw
   · refine zf ?_;simp only [go_sem]
     have h1 : l.take i = l:=List.take_of_length_le (by omega)
     have h2 : l.drop i = []:=List.drop_eq_nil_of_le (by omega)
     rw [h1,h2,List.append_nil]
     rfl
set_option maxHeartbeats 4000000
theorem ascore_ok (b : Int) (hb : 0 ≤ b ∧ b ≤ 499) : ACalls Try.prog 162 [i64 b] (i64 (scoreOf b)):=by
 have e1 : Int.tdiv b 100 = b / 100:=Int.tdiv_eq_ediv_of_nonneg hb.1
 have e2 : Int.tmod b 100 = b % 100:=Int.tmod_eq_emod_of_nonneg hb.1
 have h1 : 0 ≤ b / 100 ∧ b / 100 ≤ 4:=by omega
 have h2 : 0 ≤ b % 100 ∧ b % 100 ≤ 99:=by omega
 have h3:=Int.mul_nonneg h1.1 h2.1
 have h4:=Int.mul_le_mul h1.2 h2.2 h2.1 (show (0 : Int) ≤ 4 by omega)
 have w1 : IntKind.i64.wrap (b / 100) = b / 100:=by rw [zI] <;> omega
 have w2 : IntKind.i64.wrap (b % 100) = b % 100:=by rw [zI] <;> omega
 have w3 : IntKind.i64.wrap (b / 100 * (b % 100)) = b / 100 * (b % 100):=by rw [zI] <;> omega
 have hs : scoreOf b = b / 100 * (b % 100):=rfl
 rw [hs]
 refine acalls_st (rs:=[i64 (b / 100 * (b % 100))]) [.tmp 2] Try.func162 rfl (by kernel_rfl) Try.ntmps162 rfl (by simp) rfl fun C vs=>?_
 refine zq ?_
 refine zb fun K hK=>?_;simp only [go_sem];refine hK _ ?_;clear hK K;refine zw (zk [0]) ?_;simp only [go_sem]
 refine zq ?_
 refine zb fun K hK=>?_;simp only [go_sem,e1,e2,w1,w2,w3];refine hK _ ?_;clear hK K;refine zw (zk [2]) ?_;simp only [go_sem];refine ze ?_;simp only [go_sem]
def opA (g b : Int) : Bool:=if g = 1 then decide (b / 100 = 2) else if g = 2 then decide (2 ≤ b / 100) else decide (b ≠ 0)
theorem aopens_ok (b g : Int) (hb : 0 ≤ b ∧ b ≤ 499) : ACalls Try.prog 163 [i64 b,i64 g] (.bo (opA g b)):=by
 have e1 : Int.tdiv b 100 = b / 100:=Int.tdiv_eq_ediv_of_nonneg hb.1
 have w1 : IntKind.i64.wrap (b / 100) = b / 100:=by rw [zI] <;> omega
 refine acalls_st (rs:=[.bo (opA g b)]) [.tmp 4] Try.func163 rfl (by kernel_rfl) Try.ntmps163 rfl (by simp) rfl fun C vs=>?_
 refine zq ?_
 refine zb fun K hK=>?_;simp only [go_sem];refine hK _ ?_;clear hK K;refine zw (zk [0,1]) ?_;simp only [go_sem]
 refine zq ?_
 refine zb fun K hK=>?_;simp only [go_sem,e1,w1];refine hK _ ?_;clear hK K;refine zw (zk [0,1,5]) ?_;simp only [go_sem]
 repeat refine zq ?_
 refine zb fun K hK=>?_;simp only [go_sem];refine hK _ ?_;clear hK K;refine zw (zk [0,5,8]) ?_;simp only [go_sem];refine zd ?_
 refine zq ?_
 refine zb fun K hK=>?_;simp only [go_sem];refine hK _ ?_;clear hK K;refine zw (zk [0,5,8,9]) ?_;simp only [go_sem]
 by_cases h1 : g = 1
 · subst h1
   refine zc rfl (fun hc=>?_) (fun hc=>?_) <;> (try simp only [go_sem] at hc)
   refine zq ?_
   refine zb fun K hK=>?_;simp only [go_sem];refine hK _ ?_;clear hK K;refine zw (zk [4]) ?_;simp only [go_sem];refine ze ?_;simp only [go_sem];rw [Bool.eq_iff_iff]
   simp [opA]
 · have e1 : (g == 1) = false:=by simpa using h1
   rw [e1]
   refine zc rfl (fun hc=>?_) (fun hc=>?_) <;> (try simp only [go_sem] at hc)
   refine zq ?_
   refine zb fun K hK=>?_;simp only [go_sem];refine hK _ ?_;clear hK K;refine zw (zk [0,5,13]) ?_;simp only [go_sem]
   by_cases h2 : g = 2
   · subst h2
     refine zc rfl (fun hc=>?_) (fun hc=>?_) <;> (try simp only [go_sem] at hc)
     refine zq ?_
     refine zb fun K hK=>?_;simp only [go_sem];refine hK _ ?_;clear hK K;refine zw (zk [4]) ?_;simp only [go_sem];refine ze ?_;simp only [go_sem]
     simp [opA]
   · have e2 : (g == 2) = false:=by simpa using h2
     rw [e2]
     refine zc rfl (fun hc=>?_) (fun hc=>?_) <;> (try simp only [go_sem] at hc)
     refine zx ?_
     try simp only [go_sem]
     refine zq ?_
     refine zb fun K hK=>?_;simp only [go_sem];refine hK _ ?_;clear hK K;refine zw (zk [4]) ?_;simp only [go_sem];refine ze ?_;simp only [go_sem];rw [Bool.eq_iff_iff]
     simp [opA,h1,h2]
def lowG (g : Int) : Int:=if g = 0 then 1 else 2
theorem alow_ok (g : Int) : ACalls Try.prog 66 [i64 g] (i64 (lowG g)):=by
 refine acalls_st (rs:=[i64 (lowG g)]) [.tmp 2] Try.func66 rfl (by kernel_rfl) Try.ntmps66 rfl (by simp) rfl fun C vs=>?_
 refine zq ?_
 refine zb fun K hK=>?_;simp only [go_sem];refine hK _ ?_;clear hK K;refine zw (zk [0]) ?_;simp only [go_sem]
 repeat refine zq ?_
 refine zb fun K hK=>?_;simp only [go_sem];refine hK _ ?_;clear hK K;refine zw (zk [4]) ?_;simp only [go_sem]
 by_cases h : g = 0
 · subst h
   refine zc rfl (fun hc=>?_) (fun hc=>?_) <;> (try simp only [go_sem] at hc)
   refine zq ?_
   refine zb fun K hK=>?_;simp only [go_sem];refine hK _ ?_;clear hK K;refine ze ?_;simp only [go_sem]
   rfl
 · have e : (g == 0) = false:=by simpa using h
   rw [e]
   refine zc rfl (fun hc=>?_) (fun hc=>?_) <;> (try simp only [go_sem] at hc)
   refine zx ?_
   try simp only [go_sem]
   refine zq ?_
   refine zb fun K hK=>?_;simp only [go_sem];refine hK _ ?_;clear hK K;refine ze ?_;simp only [go_sem]
   simp [lowG,h]
theorem awithin1_ok (n a b : Int) : ACalls Try.prog 91 [i64 n,.rp [i64 a],.rp [i64 b]] (.bo (decide (n < a) || decide (b < n))):=by
 refine acalls_st (rs:=[.bo (decide (n < a) || decide (b < n))]) [.tmp 4] Try.func91 rfl (by kernel_rfl) Try.ntmps91 rfl (by simp) rfl fun C vs=>?_
 refine zq ?_
 refine zb fun K hK=>?_;simp only [go_sem];refine hK _ ?_;clear hK K
 refine zq ?_
 refine zb fun K hK=>?_;simp only [go_sem]
 refine ⟨fun h=>?_,fun h=>?_⟩ <;>
 · skip
   refine hK _ ?_;clear hK K;refine ze ?_;simp only [go_sem]
   try simp [h]
theorem awithin_ok (a b : Int) (l : List Int) : ACalls Try.prog 55 [i64 a,i64 b,ints l] (.bo (withinL a b l)):=by
 refine acalls_st (rs:=[.bo (withinL a b l)]) [.tmp 6] Try.func55 rfl (by kernel_rfl) Try.ntmps55 rfl (by simp) rfl fun C vs=>?_
 refine zq ?_
 refine zb fun K hK=>?_;simp only [go_sem];refine hK _ ?_;clear hK K
 refine zq ?_
 refine zb fun K hK=>?_;simp only [go_sem]
 refine zh (contains_ok (fun n=>decide (n < a) || decide (b < n)) 91 [.rp [i64 a],.rp [i64 b]] l fun x _=>awithin1_ok x a b) rfl (by simp only [go_sem,i64,ints]) (by simp only [go_sem,i64,ints]) (by first | exact .inl rfl | exact .inr rfl) ?_
 (try simp only [go_sem]);refine hK _ ?_;clear hK K;refine ze ?_;simp only [go_sem];rw [← withinL_not]
def canA (beds : List Bd) (i : Nat) (d : Int) : Int:=min (d - (loS beds - (beds.getD i ⟨0,0,0⟩).lo)) (beds.getD i ⟨0,0,0⟩).hi
def denA (beds : List Bd) (i : Nat) (d : Int) (k : Nat) : Int:=d - (loS (beds.take k) - if i < k then (beds.getD i ⟨0,0,0⟩).lo else 0)
theorem can_ok (beds : List Bd) (i : Nat) (d : Int) (hi : i < beds.length) (hl : beds.length ≤ 1000) (hs : Small beds) (hd : 0 ≤ d ∧ d ≤ 6000) : ACalls Try.prog 164 [bedsR beds,i64 (i : Int),i64 d] (i64 (canA beds i d)):=by
 obtain ⟨bi,hbi⟩:=opt_of_lt hi
 have hgi : beds.getD i ⟨0,0,0⟩ = bi:=by rw [List.getD_eq_getElem?_getD,hbi]; rfl
 have hbis:=hs bi (mem_of_opt hbi)
 have hbnd : ∀ k,k ≤ beds.length → -6000000 ≤ denA beds i d k ∧ denA beds i d k ≤ 12000:=fun k hk=>by
  have h1:=(sums_le (hs.take k)).1
  have h2 : (beds.take k).length ≤ 1000:=by rw [List.length_take]; omega
  unfold denA
  rw [hgi]
  have h3 : (6000 : Int) * ((beds.take k).length : Int) ≤ 6000 * 1000:=Int.mul_le_mul_of_nonneg_left (by omega) (by omega)
  split <;> omega
 refine acalls_st (rs:=[i64 (canA beds i d)]) [.tmp 6] Try.func164 rfl (by kernel_rfl) Try.ntmps164 rfl (by simp) rfl fun C vs=>?_
 refine zq ?_
 refine zb fun K hK=>?_;simp only [go_sem];refine hK _ ?_;clear hK K;refine zw (zk [0,1,2]) ?_;simp only [go_sem]
 repeat refine zq ?_
 refine zb fun K hK=>?_;simp only [go_sem,List.length_map]
 intro _
 refine hK _ ?_;clear hK K;refine zw (zk [0,1,2,9,10,11]) ?_;simp only [go_sem];refine zd ?_
 refine awp_upto (n:=33) beds.length (fun k vs=>[(0,.r (bedsR beds)),(1,.r (i64 (i : Int))),(2,.r (i64 (denA beds i d k))),(9,.r (bedsR beds)),(10,.r (i64 (beds.length : Int))),(11,.r (i64 (k : Int)))])
  (fun k=>[]) (fun _=>True) 0 (fit_of [] ?_ ?_) (Nat.zero_le _) trivial ?_
 · try simp only [go_sem]
   try simp [denA,loS]
 · try simp only [go_sem]
 · intro k vs hk _
   by_cases hkn : k < beds.length
   · obtain ⟨c,hcb⟩:=opt_of_lt hkn
     have hcs:=hs c (mem_of_opt hcb)
     have hb0:=hbnd k (by omega)
     have hb1:=hbnd (k + 1) (by omega)
     have hlo : loS (beds.take (k + 1)) = loS (beds.take k) + c.lo:=by rw [take_of_opt hcb,loS_snoc]
     refine zq ?_
     refine zb fun K hK=>?_;simp only [go_sem,hkn];refine hK _ ?_;clear hK K;refine zw (zk [0,1,2,9,10,11,12]) ?_;simp only [go_sem]
     refine zq ?_
     refine zc rfl (fun hc=>?_) (fun hc=>?_) <;> (try simp only [go_sem] at hc)
     refine zx ?_
     try simp only [go_sem]
     refine zq ?_
     refine zd ?_
     refine zq ?_
     refine zb fun K hK=>?_;simp only [go_sem,hcb,hkn,bedR,List.length_map];refine hK _ ?_;clear hK K;refine zw (sub_frzP 8 8 [i64 c.b,i64 c.lo,i64 c.hi] (by omega) rfl rfl) ?_;refine zw (zk [0,1,2,7,8,9,10,11]) ?_;simp only [go_sem]
     by_cases hki : k = i
     · subst hki
       have hcbi : c = bi:=by rw [hcb] at hbi; injection hbi
       have hnx : denA beds k d (k + 1) = denA beds k d k:=by
        unfold denA
        rw [hlo,hgi,if_pos (by omega),if_neg (by omega),hcbi]; omega
       rw [hnx]
       refine zq ?_
       refine zb fun K hK=>?_;simp only [go_sem,bne_self_eq_false];refine hK _ ?_;clear hK K;refine zw (zk [0,1,2,9,10,11,18]) ?_;simp only [go_sem]
       refine zc rfl (fun hc=>?_) (fun hc=>?_) <;> (try simp only [go_sem] at hc)
       refine zx ?_
       try simp only [go_sem]
       refine zb fun K hK=>?_;simp only [go_sem];(try simp (disch:=omega) only [zI]);refine hK _ ?_;clear hK K
       try simp only [go_sem]
       refine ⟨by omega,fit_of [] ?_ ?_⟩
       · try simp only [go_sem]
       · try simp only [go_sem]
     · have hne : ((k : Int) != (i : Int)) = true:=by rw [bne_iff_ne]; omega
       have hne' : (k != i) = true:=by simpa using hki
       have hnx : denA beds i d (k + 1) = denA beds i d k - c.lo:=by
        unfold denA
        rw [hlo]
        by_cases h : i < k
        · rw [if_pos (by omega),if_pos h]; omega
        · rw [if_neg (by omega),if_neg h]; omega
       rw [hnx] at hb1 ⊢
       generalize denA beds i d k = Z at *
       have wz : IntKind.i64.wrap (Z - c.lo) = Z - c.lo:=by rw [zI] <;> omega
       refine zq ?_
       refine zb fun K hK=>?_;simp only [go_sem,hne,hne'];refine hK _ ?_;clear hK K;refine zw (zk [0,1,2,8,9,10,11,18]) ?_;simp only [go_sem]
       refine zc rfl (fun hc=>?_) (fun hc=>?_) <;> (try simp only [go_sem] at hc)
       refine zb fun K hK=>?_;simp only [go_sem,wz];refine hK _ ?_;clear hK K;refine zw (zk [0,1,2,9,10,11]) ?_;simp only [go_sem];refine zb fun K hK=>?_;simp only [go_sem];(try simp (disch:=omega) only [zI]);refine hK _ ?_;clear hK K
       try simp only [go_sem]
       refine ⟨by omega,fit_of [] ?_ ?_⟩
       · try simp only [go_sem]
       · try simp only [go_sem]
   · have hke : k = beds.length:=by omega
     subst hke
     have hfin : denA beds i d beds.length = d - (loS beds - bi.lo):=by unfold denA; rw [List.take_length,if_pos hi,hgi]
     rw [hfin]
     have hcan : canA beds i d = min (d - (loS beds - bi.lo)) bi.hi:=by unfold canA; rw [hgi]
     rw [hcan]
     refine zq ?_
     refine zb fun K hK=>?_;simp only [go_sem,Nat.lt_irrefl];refine hK _ ?_;clear hK K;refine zw (zk [0,1,2,12]) ?_;simp only [go_sem]
     refine zq ?_
     refine zc rfl (fun hc=>?_) (fun hc=>?_) <;> (try simp only [go_sem] at hc)
     refine zf ?_;simp only [go_sem]
     refine zq ?_
     refine zb fun K hK=>?_;simp only [go_sem,hbi,hi,bedR,List.length_map];refine hK _ ?_;clear hK K;refine zw (zk [6]) ?_;simp only [go_sem];refine ze ?_;simp only [go_sem]
def cmpS (s : Bool) (vals : List Int) (x y : Nat) : Int:=if s then cmpI (vals.getD x 0) (vals.getD y 0) else cmpI (vals.getD y 0) (vals.getD x 0)
theorem cmpS_ok (s : Bool) (vals : List Int) (x y : Nat) (hx : x < vals.length) (hy : y < vals.length) : ACalls Try.prog 166 [i64 (x : Int),i64 (y : Int),.rp [.bo s],.rp [ints vals]] (i64 (cmpS s vals x y)):=by
 obtain ⟨a,ha⟩:=opt_of_lt hx
 obtain ⟨b,hb⟩:=opt_of_lt hy
 have ga : vals.getD x 0 = a:=by rw [List.getD_eq_getElem?_getD,ha]; rfl
 have gb : vals.getD y 0 = b:=by rw [List.getD_eq_getElem?_getD,hb]; rfl
 have h1:=compare_ok a b
 have h2:=compare_ok b a
 unfold cmpS
 rw [ga,gb]
 refine acalls_st (rs:=[i64 (if s = true then cmpI a b else cmpI b a)]) [.tmp 6] Try.func166 rfl (by kernel_rfl) Try.ntmps166 rfl (by simp) rfl fun C vs=>?_
 refine zq ?_
 refine zb fun K hK=>?_;simp only [go_sem];refine hK _ ?_;clear hK K;refine zw (zk [0,1,2,3]) ?_;simp only [go_sem]
 repeat refine zq ?_
 refine zb fun K hK=>?_;simp only [go_sem];refine hK _ ?_;clear hK K;refine zw (zk [0,1,3,8]) ?_;simp only [go_sem]
 cases s
 · skip
   refine zc rfl (fun hc=>?_) (fun hc=>?_) <;> (try simp only [go_sem] at hc)
   refine zx ?_
   try simp only [go_sem]
   refine zq ?_
   refine zg follows (by decide +kernel) (by kernel_rfl) fun K hK=>?_;simp only [go_sem,ha,hb,hx,hy,List.length_map]
   refine zh (h2) rfl (by simp only [go_sem,i64,ints,ha,hb,hx,hy,List.length_map]) (by simp only [go_sem,i64,ints,ha,hb,hx,hy,List.length_map]) (by first | exact .inl rfl | exact .inr rfl) ?_
   (try simp only [go_sem,ha,hb,hx,hy,List.length_map]);refine hK _ ?_;clear hK K;refine zw (zk [6]) ?_;simp only [go_sem];refine ze ?_;simp only [go_sem]
   try rfl
 · have hss:=(rfl : true = true)
   refine zc rfl (fun hc=>?_) (fun hc=>?_) <;> (try simp only [go_sem] at hc)
   rotate_left
   · exact absurd rfl hc
   refine zq ?_
   refine zg follows (by decide +kernel) (by kernel_rfl) fun K hK=>?_;simp only [go_sem,ha,hb,hx,hy,List.length_map]
   refine zh (h1) rfl (by simp only [go_sem,i64,ints,ha,hb,hx,hy,List.length_map]) (by simp only [go_sem,i64,ints,ha,hb,hx,hy,List.length_map]) (by first | exact .inl rfl | exact .inr rfl) ?_
   (try simp only [go_sem,ha,hb,hx,hy,List.length_map]);refine hK _ ?_;clear hK K;refine zw (zk [6]) ?_;simp only [go_sem];refine ze ?_;simp only [go_sem]
   try rfl
end Go.Proofs.Ytgfbenanljjgaaa.Du.Th.Ai

namespace Go.Oc
open Go Go.RowKit
set_option linter.unusedVariables false
set_option linter.unusedSimpArgs false
def sAppB (P : Program) (s : AS) (d : Nat) (t t' : TypeId) (x y : AV) : Res :=
 match tyq P t,decide (t = t'),x,y with
 | some ⟨.slice e esz eb _, _, _, _⟩, true, .os k n sz off m, .os j n2 sz2 off2 m2 =>
   match s.rows k,s.rows j with
   | ⟨n',.ara e' sz' cs⟩,⟨n2',.ara e2 sz2' ds⟩=>⟨(n = n' ∧ n2 = n2') ∧ (e' = e ∧ e2 = e) ∧ (sz = esz ∧ sz' = esz ∧ sz2 = esz ∧ sz2' = esz) ∧ (off = 0 ∧ off2 = 0) ∧ (cs.length = m * esz ∧ ds.length = m2 * esz) ∧ (0 < m ∧ 0 < m2 ∧ 0 < esz) ∧ (m + m2) * eb ≤ 140737488355328 ∧ m + m2 ≤ 9223372036854775807 ∧ k < 1000,True,
    ⟨.os k (n' + 1) esz 0 (m + m2),[(k,⟨n' + 1,.ara e esz (cs ++ ds)⟩)]⟩⟩
   | _,_=>.bad
 | some ⟨.slice e esz eb _, _, _, _⟩, true, .r .ns, .os j n2 sz2 off2 m2 =>
   match s.rows j with
   | ⟨n2',.ara e2 sz2' ds⟩=>⟨n2 = n2' ∧ e2 = e ∧ (sz2 = esz ∧ sz2' = esz) ∧ off2 = 0 ∧ ds.length = m2 * esz ∧ (0 < m2 ∧ 0 < esz) ∧ m2 * eb ≤ 140737488355328 ∧ m2 ≤ 9223372036854775807 ∧ d < 1000,True,
    ⟨.os d ((s.rows d).ver + 1) esz 0 m2,[(d,⟨(s.rows d).ver + 1,.ara e esz ds⟩)]⟩⟩
   | _=>.bad
 | _,_,_,_=>.bad
section
variable {P : Program} {C : Ctx} {p : Plan} {s : AS} {a : Act} {w : World} {o : Oper}
variable {Q : Exit → AS → Prop} {ops : Array Oper}
end
end Go.Oc

namespace Go.Oc
open Go Go.RowKit
set_option linter.unusedVariables false
set_option linter.unusedSimpArgs false
def fam (f : Nat → RowC) : Nat → List (Nat × RowC)
 | 0=>[]
 | n + 1=>fam f n ++ [(n + 600,f n)]
def xlit (P : Program) (o : Oper) (K : AS → Prop) (s : AS) : Prop :=
 match o.op,o.dst with
 | .buildSlice t n ps,some d=>aR s (some d) (sLitBox P s d t n (ps.toList.map fun (i,x)=>(i,s.ev x))) K
 | _,_=>False
def xappB (P : Program) (o : Oper) (K : AS → Prop) (s : AS) : Prop :=
 match o.op,o.dst with
 | .call ⟨.builtin .append,⟨[x,y]⟩,⟨[t,t']⟩⟩,some d=>aR s (some d) (sAppB P s d t t' (s.ev x) (s.ev y)) K
 | _,_=>False
def xopL (P : Program) (o : Oper) (K : AS → Prop) (s : AS) : Prop:=xop P false o K s ∨ xlit P o K s ∨ xappB P o K s
section
variable {P : Program} {C : Ctx} {s : AS}
end
def stepAllL (P : Program) (ops : Array Oper) (n : Nat) (F : (Nat → Bool) → (Nat → Nat) → List (Nat × AV)) (R : (Nat → Bool) → (Nat → Nat) → List (Nat × RowC)) : Nat → List Oper → Prop
 | _,[]=>True
 | k,o :: rest=>(∀ b vs,(∀ j e,j < ops.size → (deps ops j).contains e = true → b j = true → b e = true) → b k = false → (∀ e ∈ deps ops k,b e = true) →
  xopL P o (FitV n (F (upd b k true)) (R (upd b k true))) (st n (F b vs) vs (R b vs))) ∧ stepAllL P ops n F R (k + 1) rest
section
variable {P : Program} {C : Ctx} {s : AS} {a : Act} {w : World} {ops : Array Oper}
end
end Go.Oc

namespace Go.Oc
open Go Go.RowKit
set_option linter.unusedSimpArgs false
set_option linter.unusedVariables false
def YCalls (P : Program) (F : FuncId) (args : Nat → List RV) (xs : List (List RV)) : Prop :=
 callable P F = true ∧ ∀ (rest : List (List RV)) (w : World) (R : Nat → Prop) (vs : Array Value) (X : XS) (Ψ Θ : Nat → Prop),(∀ b,R b → b < w.heap.size) → RV.relV w R (args X.l) vs.toList → X.z = false → (∀ b,R b → X.R b ∨ X.n0 ≤ b) → X.n0 ≤ w.heap.size → YOk P X →
  (∀ b,Ψ b → b < w.heap.size) → (∀ b,Θ b → b < w.heap.size) → (∀ b,R b → ¬ Θ b) → X.X (some (xs ++ rest)) w Ψ Θ →
  Calls P F vs w fun e w'=>w'.os = w.os ∧ w'.tape = w.tape ∧ w'.output = w.output ∧ w.heap.size ≤ w'.heap.size ∧ (∀ b,b < w.heap.size → ¬ Θ b → w'.heap[b]? = w.heap[b]?) ∧
   ∃ Ψ' Θ' : Nat → Prop,(∀ b,Ψ' b → Ψ b ∨ R b ∨ w.heap.size ≤ b) ∧ (∀ b,Θ' b → Θ b ∨ w.heap.size ≤ b) ∧ (∀ b,Ψ' b → b < w'.heap.size) ∧ (∀ b,Θ' b → b < w'.heap.size) ∧
   ((e = .returned (.bool true) ∧ X.X (some rest) w' Ψ' Θ') ∨ (e = .returned (.bool false) ∧ X.X none w' Ψ' Θ'))
def XS.since (X : XS) (n : Nat) (R Ψ0 Θ0 : Nat → Prop) : XS where
 l:=X.l
 z:=X.z
 n0:=n
 R:=R
 X:=fun o w Ψ Θ=>X.X o w Ψ Θ ∧ n ≤ w.heap.size ∧ (∀ b,Ψ b → Ψ0 b ∨ R b ∨ n ≤ b) ∧ ∀ b,Θ b → Θ0 b ∨ n ≤ b
 st:=fun h h1 h2 h3 h4 h5=>⟨X.st h.1 h1 h2 h3 h4 h5,Nat.le_trans h.2.1 h4,h.2.2⟩
theorem YOk.since {P : Program} {X : XS} (hY : YOk P X) {n : Nat} {R Ψ0 Θ0 : Nat → Prop} (hR : ∀ b,R b → X.R b ∨ X.n0 ≤ b) (hn : X.n0 ≤ n) : YOk P (X.since n R Ψ0 Θ0):=by
 intro e rest w Ψ Θ R' vs hX hR' hV
 obtain ⟨hX1,hX2,hX3,hX4⟩:=hX
 obtain ⟨fn,tmps,assign,body,hrun,hround⟩:=hY e rest w Ψ Θ R' vs hX1 (fun b hb=>by
  obtain ⟨g1,g2,g3⟩:=hR' b hb
  refine ⟨g1,g2,?_⟩
  rcases g3 with g | g
  · exact hR b g
  · exact .inr (Nat.le_trans hn g)) hV
 refine ⟨fn,tmps,assign,body,hrun,hround.mono ?_⟩
 rintro en w' ⟨g1,g2,g3,g4,g5,Ψ',Θ',g6,g7,g8,g9,g10⟩
 have a1 : ∀ b,Ψ' b → Ψ0 b ∨ R b ∨ n ≤ b:=fun b hb=>by
  rcases g6 b hb with g | g | g
  · exact hX3 b g
  · rcases (hR' b g).2.2 with q | q
    · exact .inr (.inl q)
    · exact .inr (.inr q)
  · exact .inr (.inr (Nat.le_trans hX2 g))
 have a2 : ∀ b,Θ' b → Θ0 b ∨ n ≤ b:=fun b hb=>by
  rcases g7 b hb with g | g
  · exact hX4 b g
  · exact .inr (Nat.le_trans hX2 g)
 refine ⟨g1,g2,g3,g4,g5,Ψ',Θ',g6,g7,g8,g9,?_⟩
 rcases g10 with ⟨rfl,g⟩ | ⟨rfl,g⟩
 · exact .inl ⟨rfl,g,Nat.le_trans hX2 g4,a1,a2⟩
 · exact .inr ⟨rfl,g,Nat.le_trans hX2 g4,a1,a2⟩
def ypost (P : Program) (t : Nat) (rest : List (List RV)) : Exit → AS → Prop
 | .normal,s=>∃ b l,s.tm t = .r (.bo b) ∧ (s.rows 999).c = .gh P l false (if b then some rest else none)
 | .ret,s=>∃ b l,s.tm t = .r (.bo b) ∧ (s.rows 999).c = .gh P l false (if b then some rest else none)
 | _,_=>False
section
variable {P : Program} {C : Ctx} {s : AS} {Q : Exit → AS → Prop} {ops : Array Oper}
end
section
variable {n : Nat} {l : List (Nat × AV)} {vs : Nat → Nat} {cs : List (Nat × RowC)}
end
end Go.Oc

namespace Go.Oc
open Go Go.RowKit
set_option linter.unusedVariables false
set_option linter.unusedSimpArgs false
def gop (P : Program) (o : Oper) (K : AS → Prop) (s : AS) : Prop :=
 ∀ (C : Ctx) (p : Plan) (a : Act) (w : World), SR C p s a w → (∀ t, o.dst = some t → t < s.n) → (∀ c, o.op ≠ .defer c) → ∀ (KW : Act → World → Prop) (Q : Exit → Act → World → Prop),
   (∀ a' w' p' s',SR C p' s' a' w' → s'.n = s.n → K s' → KW a' w') → o.wpIn (fnc C.rd) 0 P a w KW Q
section
variable {P : Program} {C : Ctx} {s : AS} {Q : Exit → AS → Prop} {ops : Array Oper}
theorem sops_gop {o : Oper} {l : List Oper} (hg : o.guard = none) (hd : ∀ t,o.dst = some t → t < s.n) (hnd : ∀ c,o.op ≠ .defer c) (h : gop P o (fun s'=>sops P C ops l Q s') s) : sops P C ops (o :: l) Q s:=fun a w ⟨p,hs⟩=>by
 unfold wpListIn
 rw [if_pos (wantA_sound hs (by simp [wantA,hg]))]
 exact h C p a w hs hd hnd _ _ fun a' w' p' s' hs' hn hK=>hK a' w' ⟨p',hs'⟩
theorem app_n' (s : AS) (d : Option Nat) (v : AV) : (s.put d v).n = s.n:=by cases d <;> rfl
theorem gop_strIndex {o : Oper} {x i : Operand} {t : TypeId} {K : AS → Prop} (ho : o.op = .index t x i) {str : ByteArray} {k : IntKind} {j : Int} {b : UInt8} (hx : s.ev x = .r (.st str)) (hi : s.ev i = .r (.it k j)) (hu : P.underlying t = some .string) (h0 : 0 ≤ j) (hb : str[j.toNat]? = some b)
 (hK : K (s.put o.dst (.r (.it .u8 b.toNat)))) : gop P o K s:=by
 intro C p a w h hd hnd KW Q hKW
 have hxv : a.eval x = .string str:=by
  have:=h.ev x
  rw [hx] at this
  simpa only [AV.rel,RV.rel] using this
 have hiv:=ev_it h hi
 have hr : (execOp a.eval o).run P w = .ok (.value (.int .u8 b.toNat)) w:=by
  simp [execOp,ho,hxv,hiv,Instr.index,asIntOf,run_underlying hu,h0,hb]
 refine wpIn_of_wp hnd ?_
 unfold Oper.wp
 rw [hr]
 have hput:=h.put' (d:=o.dst) (av:=.r (.it .u8 b.toNat)) (v:=.int .u8 b.toNat) (by simp only [AV.rel,RV.rel]) hd
 exact hKW _ _ p _ hput (by cases o.dst <;> rfl) hK
end
section
variable {P : Program} {s : AS}
end
def stepAllG (P : Program) (ops : Array Oper) (n : Nat) (F : (Nat → Bool) → (Nat → Nat) → List (Nat × AV)) (R : (Nat → Bool) → (Nat → Nat) → List (Nat × RowC)) : Nat → List Oper → Prop
 | _,[]=>True
 | k,o :: rest=>(∀ b vs,(∀ j e,j < ops.size → (deps ops j).contains e = true → b j = true → b e = true) → b k = false → (∀ e ∈ deps ops k,b e = true) →
  gop P o (FitV n (F (upd b k true)) (R (upd b k true))) (st n (F b vs) vs (R b vs))) ∧ stepAllG P ops n F R (k + 1) rest
section
variable {P : Program} {C : Ctx} {s : AS} {a : Act} {w : World} {ops : Array Oper}
end
def stepAllZ {α : Type} (P : Program) (ops : Array Oper) (n : Nat) (F : (Nat → Bool) → α → (Nat → Nat) → List (Nat × AV)) (R : (Nat → Bool) → α → (Nat → Nat) → List (Nat × RowC)) : Nat → List Oper → Prop
 | _,[]=>True
 | k,o :: rest=>(∀ b z vs,(∀ j e,j < ops.size → (deps ops j).contains e = true → b j = true → b e = true) → b k = false → (∀ e ∈ deps ops k,b e = true) →
  gop P o (fun s'=>∃ z',FitV n (F (upd b k true) z') (R (upd b k true) z') s') (st n (F b z vs) vs (R b z vs))) ∧ stepAllZ P ops n F R (k + 1) rest
section
variable {P : Program} {C : Ctx} {s : AS} {a : Act} {w : World} {ops : Array Oper}
end
end Go.Oc

namespace Go.Proofs.Ytgfbenanljjgaaa.Du.Th.Ai
open Go Go.Oc
set_option linter.unusedSimpArgs false
set_option linter.unusedVariables false
set_option maxRecDepth 8000
set_option maxHeartbeats 2000000
def lensL : List (Nat × Nat):=[(1,1),(2,2),(3,2),(4,3),(5,3),(6,3),(7,3),(8,4),(9,4),(10,4)]
theorem len64_ok (n c : Nat) (h : (n,c) ∈ lensL) : ACalls Try.prog 181 [.it .u64 (n : Int)] (i64 (c : Int)):=by
 simp only [lensL,List.mem_cons,List.not_mem_nil,or_false,Prod.mk.injEq] at h
 rcases h with ⟨rfl,rfl⟩ | ⟨rfl,rfl⟩ | ⟨rfl,rfl⟩ | ⟨rfl,rfl⟩ | ⟨rfl,rfl⟩ | ⟨rfl,rfl⟩ | ⟨rfl,rfl⟩ | ⟨rfl,rfl⟩ | ⟨rfl,rfl⟩ | ⟨rfl,rfl⟩ <;>
 · refine acalls_st (rs:=[i64 _]) [.tmp 2] Try.func181 rfl (by kernel_rfl) Try.ntmps181 rfl (by simp) rfl fun C vs=>?_
   repeat refine zq ?_
   refine zb fun K hK=>?_;simp only [go_sem];refine hK _ ?_;clear hK K;refine zw (zk [0,2]) ?_;simp only [go_sem]
   repeat refine zq ?_
   refine zb fun K hK=>?_;simp only [go_sem];refine hK _ ?_;clear hK K;refine zw (zk [0,2,4]) ?_;simp only [go_sem]
   refine zc rfl (fun hc=>?_) (fun hc=>?_) <;> (try simp only [go_sem] at hc)
   refine zx ?_
   try simp only [go_sem]
   repeat refine zq ?_
   refine zb fun K hK=>?_;simp only [go_sem];refine hK _ ?_;clear hK K;refine zw (zk [0,2,8]) ?_;simp only [go_sem]
   refine zc rfl (fun hc=>?_) (fun hc=>?_) <;> (try simp only [go_sem] at hc)
   refine zx ?_
   try simp only [go_sem]
   repeat refine zq ?_
   refine zb fun K hK=>?_;simp only [go_sem];refine hK _ ?_;clear hK K;refine zw (zk [0,2,14]) ?_;simp only [go_sem]
   refine zc rfl (fun hc=>?_) (fun hc=>?_) <;> (try simp only [go_sem] at hc)
   refine zx ?_
   try simp only [go_sem]
   repeat refine zq ?_
   refine awp_long ?_
   refine sops_take 3 (by kernel_rfl) fun K hK=>?_
   simp only [go_sem,List.take_succ_cons,List.take_zero,List.drop_succ_cons,List.drop_zero,List.append_eq,List.cons_append,List.nil_append]
   refine hK _ rfl ?_
   clear hK K
   refine sops_gop rfl (by intro t h; injection h with h; subst h; show 22 < 25; decide) (by intro c h; cases h) (gop_strIndex rfl (s:=_) rfl rfl (by kernel_rfl) (by decide) rfl ?_)
   try simp only [go_sem]
   refine sops_end (by kernel_rfl) fun K hK=>?_
   simp only [go_sem,List.drop_succ_cons,List.drop_zero,List.append_eq,List.cons_append,List.nil_append];refine hK _ ?_;clear hK K;refine zw (zk [2]) ?_;simp only [go_sem];refine ze ?_;simp only [go_sem]
   kernel_rfl
theorem len_ok (n c : Nat) (h : (n,c) ∈ lensL) : ACalls Try.prog 171 [.it .u64 (n : Int)] (i64 (c : Int)):=by
 refine acalls_st (rs:=[i64 (c : Int)]) [.tmp 2] Try.func171 rfl (by kernel_rfl) Try.ntmps171 rfl (by simp) rfl fun C vs=>?_
 refine zq ?_
 refine zb fun K hK=>?_;simp only [go_sem];refine hK _ ?_;clear hK K
 refine zq ?_
 refine zc rfl (fun hc=>?_) (fun hc=>?_) <;> (try simp only [go_sem] at hc)
 refine zx ?_
 try simp only [go_sem]
 refine zq ?_
 refine zb fun K hK=>?_;simp only [go_sem]
 refine zh (len64_ok n c h) rfl (by simp only [go_sem,i64,ints]) (by simp only [go_sem,i64,ints]) (by first | exact .inl rfl | exact .inr rfl) ?_
 (try simp only [go_sem]);refine hK _ ?_;clear hK K;refine zw (zk [2]) ?_;simp only [go_sem];refine ze ?_;simp only [go_sem]
theorem pdqV_ok (lt : Nat → Nat → Bool) (c : Nat → Nat → Int) (s : Bool) (vals : List Int) (l : List Nat) (hl : l.length ≤ 12) (hlt : ∀ x y,lt x y = decide (c x y < 0))
 (hcc : ∀ x ∈ l,∀ y ∈ l,ACalls Try.prog 166 [i64 (x : Int),i64 (y : Int),.rp [.bo s],.rp [ints vals]] (i64 (c x y))) (b : Int) :
 MCalls Try.prog 170 (rowsV l vals) (rowsV (sortN lt l) vals) [.os 1000 0 1 0 l.length,.r (i64 0),.r (i64 l.length),.r (i64 b),fnS s] (.tu []):=by
 refine mcalls_st (n:=148) (rs:=[]) _ _ [] Try.func170 rfl (by kernel_rfl) Try.ntmps170 rfl (by simp) rfl rfl fun C=>?_
 have hw : IntKind.i64.wrap ((l.length : Int) - 0) = l.length:=by rw [zI] <;> omega
 have hle : decide ((l.length : Int) ≤ 12) = true:=by simp; omega
 have hle' : decide (l.length ≤ 12) = true:=by simp; omega
 refine zq ?_
 refine zb fun K hK=>?_;simp only [go_sem];refine hK _ ?_;clear hK K
 refine zq ?_
 refine zb fun K hK=>?_;simp only [go_sem];refine hK _ ?_;clear hK K;refine zw (zk [0,1,2,3,4]) ?_;simp only [go_sem];refine zd ?_
 refine awp_upto0 (n:=148) 0 (fun i vs=>[(0,.os 1000 0 1 0 l.length),(1,.r (i64 0)),(2,.r (i64 l.length)),(3,.r (i64 b)),(4,fnS s)])
  (fun i=>rowsV l vals) (fun i=>True) 0 (fit0_of [] lent_zero ?_ ?_) (Nat.zero_le _) trivial ?_
 · try simp only [go_sem]
 · try simp only [go_sem]
 intro i vs hv _ _
 have hv0:=hv 1000 (by omega)
 have hv1:=hv 1001 (by omega)
 have hv2:=hv 1002 (by omega)
 refine zd ?_
 refine zq ?_
 refine zb fun K hK=>?_;simp only [go_sem,hw];(try simp (disch:=omega) only [zI]);refine hK _ ?_;clear hK K;refine zw (zk [0,1,2,3,4,12]) ?_;simp only [go_sem]
 repeat refine zq ?_
 refine zb fun K hK=>?_;simp only [go_sem,hle,hle'];refine hK _ ?_;clear hK K;refine zw (zk [0,1,2,3,4,25]) ?_;simp only [go_sem]
 refine zc rfl (fun hc=>?_) (fun hc=>?_) <;> (try simp only [go_sem] at hc)
 refine zq ?_
 refine zb fun K hK=>?_;simp only [go_sem]
 refine xcall_mut (insertionV_ok lt c s vals l (by omega) hlt hcc) [(1000,1000),(1001,1001),(1002,1002)] rfl (by simp only [go_sem,i64,ints,hv0,hv1,hv2]) (by simp only [go_sem,i64,ints,hv0,hv1,hv2]) (by rfl) (by rfl) ?_
 (try simp only [go_sem,hv0,hv1,hv2]);refine hK _ ?_;clear hK K;refine ze ?_
 try simp only [go_sem]
theorem sortV_ok (lt : Nat → Nat → Bool) (c : Nat → Nat → Int) (s : Bool) (vals : List Int) (l : List Nat) (hl : 1 ≤ l.length ∧ l.length ≤ 10) (hlt : ∀ x y,lt x y = decide (c x y < 0))
 (hcc : ∀ x ∈ l,∀ y ∈ l,ACalls Try.prog 166 [i64 (x : Int),i64 (y : Int),.rp [.bo s],.rp [ints vals]] (i64 (c x y))) :
 MCalls Try.prog 165 (rowsV l vals) (rowsV (sortN lt l) vals) [.os 1000 0 1 0 l.length,fnS s] (.tu []):=by
 obtain ⟨k,hk⟩ : ∃ k,(l.length,k) ∈ lensL:=by
  have : l.length = 1 ∨ l.length = 2 ∨ l.length = 3 ∨ l.length = 4 ∨ l.length = 5 ∨ l.length = 6 ∨ l.length = 7 ∨ l.length = 8 ∨ l.length = 9 ∨ l.length = 10:=by omega
  rcases this with h | h | h | h | h | h | h | h | h | h <;> rw [h]
  · exact ⟨1,by decide⟩
  · exact ⟨2,by decide⟩
  · exact ⟨2,by decide⟩
  · exact ⟨3,by decide⟩
  · exact ⟨3,by decide⟩
  · exact ⟨3,by decide⟩
  · exact ⟨3,by decide⟩
  · exact ⟨4,by decide⟩
  · exact ⟨4,by decide⟩
  · exact ⟨4,by decide⟩
 have hlen:=len_ok _ k hk
 have hw : IntKind.u64.wrap (l.length : Int) = l.length:=by
  have : l.length = 1 ∨ l.length = 2 ∨ l.length = 3 ∨ l.length = 4 ∨ l.length = 5 ∨ l.length = 6 ∨ l.length = 7 ∨ l.length = 8 ∨ l.length = 9 ∨ l.length = 10:=by omega
  rcases this with h | h | h | h | h | h | h | h | h | h <;> rw [h] <;> rfl
 refine mcalls_st (n:=14) (rs:=[]) _ _ [] Try.func165 rfl (by kernel_rfl) Try.ntmps165 rfl (by simp) rfl rfl fun C=>?_
 refine zq ?_
 refine zb fun K hK=>?_;simp only [go_sem]
 intro _
 refine hK _ ?_;clear hK K;refine zw (zk [0,1,4]) ?_;simp only [go_sem];refine zb fun K hK=>?_;simp only [go_sem,hw]
 refine zh (hlen) rfl (by simp only [go_sem,i64,ints,hw]) (by simp only [go_sem,i64,ints,hw]) (by first | exact .inl rfl | exact .inr rfl) ?_
 (try simp only [go_sem,hw])
 refine xcall_mut (pdqV_ok lt c s vals l (by omega) hlt hcc k) [(1000,1000),(1001,1001),(1002,1002)] rfl (by simp only [go_sem,i64,ints]) (by simp only [go_sem,i64,ints]) (by rfl) (by rfl) ?_
 (try simp only [go_sem]);refine hK _ ?_;clear hK K
 try simp only [go_sem]
end Go.Proofs.Ytgfbenanljjgaaa.Du.Th.Ai

namespace Go.Proofs.Ytgfbenanljjgaaa.Du.Th
open Go Go.Oc
set_option linter.unusedSimpArgs false
set_option linter.unusedVariables false
set_option maxRecDepth 8000
abbrev u8s (l : List Int) : RV:=.sl 1 (l.map fun x=>[.it .u8 x])
def byteL (l : List Int) (i : Nat) : Int:=if l = [] then 0 else l.getD (i % l.length) 0
def beds13 : List Int:=[0,101,105,112,120,125,205,220,225,301,305,312,320]
def bedT (k : Nat) : Int:=beds13.getD k 0
structure Lw where
 which : List Int
 low : List Int
 more : List Int
 rest : Int
structure WfLw (x : Lw) : Prop where
 which : ∀ n ∈ x.which,0 ≤ n ∧ n ≤ 65535
 low : ∀ n ∈ x.low,0 ≤ n ∧ n ≤ 255
 more : ∀ n ∈ x.more,0 ≤ n ∧ n ≤ 255
 rest : 0 ≤ x.rest ∧ x.rest ≤ 255
theorem byteL_le {l : List Int} (h : ∀ n ∈ l,0 ≤ n ∧ n ≤ 255) (i : Nat) : 0 ≤ byteL l i ∧ byteL l i ≤ 255:=by
 unfold byteL
 split
 · omega
 · rename_i hne
   have hlt : i % l.length < l.length:=Nat.mod_lt _ (List.length_pos_iff.2 hne)
   rw [List.getD_eq_getElem?_getD,List.getElem?_eq_getElem hlt]
   exact h _ (List.getElem_mem _)
def hasB (w : Int) (k : Nat) : Bool:=bitAnd IntKind.u16 (shrI IntKind.u16 w (IntKind.u64.wrap (k : Int))) 1 == 1
def addM (x : Lw) (most w : Int) (k : Nat) (p : List Bd × Nat) : List Bd × Nat :=
 if p.1.length < 10 ∧ (hasB w k = true ∨ (k = 12 ∧ p.1.length = 0)) then
  (p.1 ++ [⟨bedT k,byteL x.low p.2 % (most + 1),byteL x.low p.2 % (most + 1) + byteL x.more p.2 % (most + 1)⟩],p.2 + 1) else p
def iterM (x : Lw) (most w : Int) (n : Nat) : Nat → List Bd × Nat
 | 0=>([],n)
 | k + 1=>addM x most w k (iterM x most w n k)
def nM (x : Lw) (most : Int) : Nat → Nat
 | 0=>0
 | i + 1=>(iterM x most (x.which.getD i 0) (nM x most i) 13).2
def bedsM (x : Lw) (most : Int) (i : Nat) : List Bd:=(iterM x most (x.which.getD i 0) (nM x most i) 13).1
def atM (i : Nat) : Int:=bedT (1 + i % 12)
def cntM (x : Lw) : Nat:=min 6 x.which.length
structure IterI (most : Int) (k : Nat) (l : List Bd) : Prop where
 len : l.length ≤ 10
 each : ∀ c ∈ l,(∃ j,j < k ∧ c.b = bedT j) ∧ 0 ≤ c.lo ∧ c.lo ≤ most ∧ c.lo ≤ c.hi ∧ c.hi ≤ 2 * most
 up : l.Pairwise fun a b=>a.b < b.b
def rawM (x : Lw) (most : Int) : List Am:=if cntM x = 0 then [⟨320,[⟨320,x.rest,x.rest⟩]⟩] else (List.range (cntM x)).map fun i=>⟨atM i,bedsM x most i⟩
def sumsM (l : List Am) : Int:=l.foldl (fun d a=>max d (loS a.beds)) 0
def denM (x : Lw) (most : Int) : Int:=max 1 (sumsM (rawM x most) + x.rest % 20)
def capB (den : Int) (l : List Bd) : List Bd:=l.map fun c=>⟨c.b,c.lo,min c.hi den⟩
def raiseB (den : Int) (l : List Bd) (k : Nat) : List Bd :=
 if hiS l < den then l.set k ⟨(l.getD k ⟨0,0,0⟩).b,(l.getD k ⟨0,0,0⟩).lo,min den ((l.getD k ⟨0,0,0⟩).hi + den - hiS l)⟩ else l
def raiseN (den : Int) (l : List Bd) : Nat → List Bd
 | 0=>l
 | k + 1=>raiseB den (raiseN den l k) k
def restK (x : Lw) (l : List Bd) : Nat:=x.rest.toNat % l.length
def fixM (x : Lw) (den : Int) (l : List Bd) : List Bd:=raiseN den (raiseB den (capB den l) (restK x l)) l.length
def aimsM (x : Lw) (most : Int) : List Am:=(rawM x most).map fun a=>⟨a.at_,fixM x (denM x most) a.beds⟩
end Go.Proofs.Ytgfbenanljjgaaa.Du.Th

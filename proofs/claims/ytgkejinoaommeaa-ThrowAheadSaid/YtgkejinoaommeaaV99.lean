/- Part 9 of the texts of this claim. -/
import Derived.Test.YtgkejinoaommeaaV98
namespace Go.Proofs.Ytgkejinoaommeaa
open Go Go.Oc
set_option linter.unusedSimpArgs false
set_option linter.unusedVariables false
set_option maxRecDepth 8000
set_option maxHeartbeats 1000000
structure Vi where
 ds : List Int
 n : Int
abbrev viC (v : Vi) : List RV:=[ints v.ds,i64 v.n]
abbrev visR (l : List Vi) : RV:=.sl 2 (l.map viC)
def runF (bs : List Int) : List Int → List Int → Nat → List Vi → List Int × List Int × Option (Nat × Int)
 | le,mo,_,[]=>(le,mo,none)
 | le,mo,i,v :: l=>if visitE bs v.ds v.n = 0 then runF bs (leV bs le v.ds v.n) (moV bs mo v.ds v.n) (i + 1) l else (le,mo,some (i,visitE bs v.ds v.n))
def bedAt (bs le mo : List Int) (i : Nat) : Bd:=⟨bs.getD i 0,le.getD i 0,mo.getD i 0⟩
def fitV (a : Am) (l : List Vi) : Am × Int × Int × Int :=
 if 10 < a.beds.length then (⟨0,[]⟩,0,0,5) else if (bedOk a.at_ && !a.beds.isEmpty && seqOk none a.beds) = false then (⟨0,[]⟩,0,0,2) else if l = [] then (⟨0,[]⟩,0,0,7) else if 1000 < l.length then (⟨0,[]⟩,0,0,5) else
 match runF (a.beds.map (·.b)) zeroT zeroT 0 l with
 | (_,_,some (i,e))=>(⟨0,[]⟩,0,i,e)
 | (le,mo,none)=>(⟨a.at_,(List.range a.beds.length).map (bedAt (a.beds.map (·.b)) le mo)⟩,3 * l.length,0,0)
theorem SmallT.mono {b c : Int} {t : List Int} (h : SmallT b t) (hc : b ≤ c) : SmallT c t:=⟨h.1,fun x hx=>by have:=h.2 x hx; omega⟩
theorem truthsV_small {bs ds : List Int} {n : Int} (h : visitE bs ds n = 0) : ∀ t ∈ truthsV bs ds n,SmallT 3 t:=by
 unfold truthsV
 split
 · exact threeT_small
 · rename_i hds
   refine truthsK_small ?_
   unfold visitE at h
   split at h
   · cases h
   · rename_i h1
     have : ¬ (ds.length ≠ 3):=fun h2=>h1 ⟨hds,.inl h2⟩
     omega
theorem addT_small {b c : Int} {s t : List Int} (h1 : SmallT b s) (h2 : SmallT c t) : SmallT (b + c) (addT s t):=by
 refine ⟨by unfold addT; rw [List.length_zipWith,h1.1,h2.1]; rfl,fun x hx=>?_⟩
 obtain ⟨y,hy,z,hz,rfl⟩:=mem_zipW hx
 have:=h1.2 y hy
 have:=h2.2 z hz
 omega
theorem leV_small {b : Int} {bs le ds : List Int} {n : Int} (h : SmallT b le) : SmallT (b + 3) (leV bs le ds n) ∧ True:=by
 refine ⟨?_,trivial⟩
 unfold leV
 split
 · rename_i h0
   exact addT_small h (accL_small (by omega) _ (truthsV_small h0)).1
 · exact h.mono (by omega)
theorem moV_small {b : Int} {bs mo ds : List Int} {n : Int} (h : SmallT b mo) : SmallT (b + 3) (moV bs mo ds n):=by
 unfold moV
 split
 · rename_i h0
   exact addT_small h (accL_small (by omega) _ (truthsV_small h0)).2
 · exact h.mono (by omega)
theorem bedOk_le {b : Int} (h : bedOk b = true) : 0 ≤ b ∧ b ≤ 499:=by
 simp only [bedOk,Bool.or_eq_true,Bool.and_eq_true,decide_eq_true_eq] at h
 omega
theorem seqOk_le : ∀ {l : List Bd} {p : Option Int},seqOk p l = true → ∀ x ∈ l,0 ≤ x.b ∧ x.b ≤ 499
 | [],_,_=>by simp
 | y :: l, p, h => by
   simp only [seqOk,Bool.and_eq_true,Bool.or_eq_true,decide_eq_true_eq] at h
   intro x hx
   rcases List.mem_cons.1 hx with rfl | hx
   · rcases h.1.1 with h1 | h1
     · omega
     · exact bedOk_le h1
   · exact seqOk_le h.2 x hx
theorem fit_ok (a : Am) (l : List Vi) (hw : WfA a) : ACalls Try.prog 28 [aimV a,visR l] (.tu [aimV (fitV a l).1,i64 (fitV a l).2.1,i64 (fitV a l).2.2.1,i64 (fitV a l).2.2.2]):=by
 refine acalls_st (rs:=[aimV (fitV a l).1,i64 (fitV a l).2.1,i64 (fitV a l).2.2.1,i64 (fitV a l).2.2.2]) [.cell 4 36,.tmp 5,.tmp 6,.tmp 7] Try.func28 rfl (by kernel_rfl) Try.ntmps28 rfl (by simp) rfl fun C vs=>?_
 repeat refine zq ?_
 refine zb (by kernel_rfl) fun K hK=>?_
 simp only [go_sem]
 (try simp (disch:=omega) only [zI])
 repeat first | intro _ | refine ⟨by omega,?_⟩ | refine ⟨⟨by omega,by omega⟩,?_⟩
 refine hK _ ?_
 clear hK K
 refine zw (sub_frzP 2 2 (aimR a) (by omega) rfl rfl) ?_
 refine zw (zk [1,2,4]) ?_
 simp only [go_sem]
 repeat refine zq ?_
 refine zb (by kernel_rfl) fun K hK=>?_
 simp only [go_sem,aimR]
 (try simp (disch:=omega) only [zI])
 repeat first | intro _ | refine ⟨by omega,?_⟩ | refine ⟨⟨by omega,by omega⟩,?_⟩
 refine hK _ ?_
 clear hK K
 refine zw (sub_frzP 8 8 [i64 a.at_,bedsR a.beds,i64 0] (by omega) rfl rfl) ?_
 refine zw (zk [1,2,4,8]) ?_
 simp only [go_sem]
 repeat refine zq ?_
 refine zd ?_
 by_cases h1 : 10 < a.beds.length
 · have c1 : decide ((10 : Int) < (a.beds.length : Int)) = true:=by simp; omega
   have hv : fitV a l = (⟨0,[]⟩,0,0,5):=by rw [fitV,if_pos h1]
   rw [hv]
   repeat refine zq ?_
   refine zb (by kernel_rfl) fun K hK=>?_
   simp only [go_sem,c1,aimR]
   (try simp (disch:=omega) only [zI])
   intros
   repeat first | intro _ | refine ⟨by omega,?_⟩ | refine ⟨⟨by omega,by omega⟩,?_⟩
   refine hK _ ?_
   clear hK K
   refine zw (zk [1,2,4,8,19]) ?_
   simp only [go_sem]
   repeat refine zq ?_
   refine zc rfl (fun hc=>?_) (fun hc=>?_) <;> (try simp only [go_sem] at hc)
   repeat refine zq ?_
   refine zb (by kernel_rfl) fun K hK=>?_
   simp only [go_sem]
   (try simp (disch:=omega) only [zI])
   repeat first | intro _ | refine ⟨by omega,?_⟩ | refine ⟨⟨by omega,by omega⟩,?_⟩
   refine hK _ ?_
   clear hK K
   refine zw (zk [4,5,6,7]) ?_
   simp only [go_sem]
   refine ze ?_
   simp only [go_sem]
 have c1 : decide ((10 : Int) < (a.beds.length : Int)) = false:=by simp; omega
 repeat refine zq ?_
 refine zb (by kernel_rfl) fun K hK=>?_
 simp only [go_sem,c1,aimR]
 (try simp (disch:=omega) only [zI])
 intros
 repeat first | intro _ | refine ⟨by omega,?_⟩ | refine ⟨⟨by omega,by omega⟩,?_⟩
 refine hK _ ?_
 clear hK K
 refine zw (zk [1,2,4,8,19]) ?_
 simp only [go_sem]
 repeat refine zq ?_
 refine zc rfl (fun hc=>?_) (fun hc=>?_) <;> (try simp only [go_sem] at hc)
 repeat refine zq ?_
 refine zb (by kernel_rfl) fun K hK=>?_
 simp only [go_sem]
 (try simp (disch:=omega) only [zI])
 refine zh (areBeds_ok a.at_ a.beds 0 hw.1 hw.2) rfl (by simp only [go_sem,i64,ints]) (by simp only [go_sem,i64,ints]) (by first | exact .inl rfl | exact .inr rfl) ?_
 (try simp only [go_sem])
 (try simp (disch:=omega) only [zI])
 repeat first | intro _ | refine ⟨by omega,?_⟩ | refine ⟨⟨by omega,by omega⟩,?_⟩
 refine hK _ ?_
 clear hK K
 refine zw (zk [1,2,4,25]) ?_
 simp only [go_sem]
 cases h2 : (bedOk a.at_ && !a.beds.isEmpty && seqOk none a.beds)
 · have hv : fitV a l = (⟨0,[]⟩,0,0,2):=by rw [fitV,if_neg h1,if_pos h2]
   rw [hv]
   repeat refine zq ?_
   refine zc rfl (fun hc=>?_) (fun hc=>?_) <;> (try simp only [go_sem] at hc)
   repeat refine zq ?_
   refine zb (by kernel_rfl) fun K hK=>?_
   simp only [go_sem]
   (try simp (disch:=omega) only [zI])
   repeat first | intro _ | refine ⟨by omega,?_⟩ | refine ⟨⟨by omega,by omega⟩,?_⟩
   refine hK _ ?_
   clear hK K
   refine zw (zk [4,5,6,7]) ?_
   simp only [go_sem]
   refine ze ?_
   simp only [go_sem]
 repeat refine zq ?_
 refine zc rfl (fun hc=>?_) (fun hc=>?_) <;> (try simp only [go_sem] at hc)
 by_cases h3 : l = []
 · have c3 : ((l.length : Int) == 0) = true:=by simp [h3]
   have hv : fitV a l = (⟨0,[]⟩,0,0,7):=by rw [fitV,if_neg h1,if_neg (by rw [h2]; decide),if_pos h3]
   rw [hv]
   repeat refine zq ?_
   refine zb (by kernel_rfl) fun K hK=>?_
   simp only [go_sem,c3]
   (try simp (disch:=omega) only [zI])
   intros
   repeat first | intro _ | refine ⟨by omega,?_⟩ | refine ⟨⟨by omega,by omega⟩,?_⟩
   refine hK _ ?_
   clear hK K
   refine zw (zk [1,2,4,30]) ?_
   simp only [go_sem]
   repeat refine zq ?_
   refine zc rfl (fun hc=>?_) (fun hc=>?_) <;> (try simp only [go_sem] at hc)
   repeat refine zq ?_
   refine zb (by kernel_rfl) fun K hK=>?_
   simp only [go_sem]
   (try simp (disch:=omega) only [zI])
   repeat first | intro _ | refine ⟨by omega,?_⟩ | refine ⟨⟨by omega,by omega⟩,?_⟩
   refine hK _ ?_
   clear hK K
   refine zw (zk [4,5,6,7]) ?_
   simp only [go_sem]
   refine ze ?_
   simp only [go_sem]
 have c3 : ((l.length : Int) == 0) = false:=by simpa using h3
 repeat refine zq ?_
 refine zb (by kernel_rfl) fun K hK=>?_
 simp only [go_sem,c3]
 (try simp (disch:=omega) only [zI])
 intros
 repeat first | intro _ | refine ⟨by omega,?_⟩ | refine ⟨⟨by omega,by omega⟩,?_⟩
 refine hK _ ?_
 clear hK K
 refine zw (zk [1,2,4,30]) ?_
 simp only [go_sem]
 repeat refine zq ?_
 refine zc rfl (fun hc=>?_) (fun hc=>?_) <;> (try simp only [go_sem] at hc)
 by_cases h4 : 1000 < l.length
 · have c4 : decide ((1000 : Int) < (l.length : Int)) = true:=by simp; omega
   have hv : fitV a l = (⟨0,[]⟩,0,0,5):=by rw [fitV,if_neg h1,if_neg (by rw [h2]; decide),if_neg h3,if_pos h4]
   rw [hv]
   repeat refine zq ?_
   refine zb (by kernel_rfl) fun K hK=>?_
   simp only [go_sem,c4]
   (try simp (disch:=omega) only [zI])
   intros
   repeat first | intro _ | refine ⟨by omega,?_⟩ | refine ⟨⟨by omega,by omega⟩,?_⟩
   refine hK _ ?_
   clear hK K
   refine zw (zk [1,2,4,35]) ?_
   simp only [go_sem]
   repeat refine zq ?_
   refine zc rfl (fun hc=>?_) (fun hc=>?_) <;> (try simp only [go_sem] at hc)
   repeat refine zq ?_
   refine zb (by kernel_rfl) fun K hK=>?_
   simp only [go_sem]
   (try simp (disch:=omega) only [zI])
   repeat first | intro _ | refine ⟨by omega,?_⟩ | refine ⟨⟨by omega,by omega⟩,?_⟩
   refine hK _ ?_
   clear hK K
   refine zw (zk [4,5,6,7]) ?_
   simp only [go_sem]
   refine ze ?_
   simp only [go_sem]
 have c4 : decide ((1000 : Int) < (l.length : Int)) = false:=by simp; omega
 repeat refine zq ?_
 refine zb (by kernel_rfl) fun K hK=>?_
 simp only [go_sem,c4]
 (try simp (disch:=omega) only [zI])
 intros
 repeat first | intro _ | refine ⟨by omega,?_⟩ | refine ⟨⟨by omega,by omega⟩,?_⟩
 refine hK _ ?_
 clear hK K
 refine zw (zk [1,2,4,35]) ?_
 simp only [go_sem]
 repeat refine zq ?_
 refine zc rfl (fun hc=>?_) (fun hc=>?_) <;> (try simp only [go_sem] at hc)
 refine zx ?_
 try simp only [go_sem]
 have hV : fitV a l = match runF (a.beds.map (·.b)) zeroT zeroT 0 l with
  | (_,_,some (i,e))=>(⟨0,[]⟩,0,i,e)
  | (le,mo,none)=>(⟨a.at_,(List.range a.beds.length).map (bedAt (a.beds.map (·.b)) le mo)⟩,3 * l.length,0,0):=by
  rw [fitV,if_neg h1,if_neg (by rw [h2]; decide),if_neg h3,if_neg h4]
 have hseq : seqOk none a.beds = true:=by
  simp only [Bool.and_eq_true] at h2
  exact h2.2
 have hle:=seqOk_le hseq
 obtain ⟨bs,hbs⟩ : ∃ bs,bs = a.beds.map (·.b):=⟨_,rfl⟩
 have hbl : bs.length = a.beds.length:=by rw [hbs]; simp
 have hbo : BedsOk bs:=⟨by omega,fun b hb=>by
  rw [hbs] at hb
  obtain ⟨x,hx,rfl⟩:=List.mem_map.1 hb
  exact hle x hx⟩
 rw [← hbs] at hV
 repeat refine zq ?_
 refine zb (by kernel_rfl) fun K hK=>?_
 simp only [go_sem]
 (try simp (disch:=omega) only [zI])
 repeat first | intro _ | refine ⟨by omega,?_⟩ | refine ⟨⟨by omega,by omega⟩,?_⟩
 refine hK _ ?_
 clear hK K
 refine zw (zk [1,2,4,9]) ?_
 simp only [go_sem]
 repeat refine zq ?_
 refine zb (by kernel_rfl) fun K hK=>?_
 simp only [go_sem,aimR]
 (try simp (disch:=omega) only [zI])
 intros
 repeat first | intro _ | refine ⟨by omega,?_⟩ | refine ⟨⟨by omega,by omega⟩,?_⟩
 refine hK _ ?_
 clear hK K
 refine zw (zk [1,2,4,9,43,44,45]) ?_
 simp only [go_sem]
 repeat refine zq ?_
 refine zd ?_
 refine zw (sub_ownB 41 0 57 33 1 (by omega) (by omega) rfl rfl) ?_
 try simp only [go_sem]
 refine awp_uptoV (n:=115) a.beds.length (fun i vs=>[(1,.r (visR l)),(2,.r (.rp [i64 a.at_,bedsR a.beds])),(4,.pt 4 (vs 4) 0),(9,.pt 41 (vs 41) 0),(43,.r (bedsR a.beds)),(44,.r (i64 a.beds.length)),(45,.r (i64 i))])
  (fun i vs=>[(4,.box [.r (i64 0),.r .ns]),(41,.box (.os 57 (vs 57) 1 0 i :: (tA zeroT ++ tA zeroT))),(57,.arr 33 1 ((bs.take i).map fun x=>[i64 x]))]) (fun _=>True) 0 (zj [8] ?_ ?_) (Nat.zero_le _) trivial ?_
 · try simp only [go_sem]
 · try simp only [go_sem]
   try simp
 · intro i vs hi _
   repeat refine zq ?_
   refine zb (by kernel_rfl) fun K hK=>?_
   simp only [go_sem]
   (try simp (disch:=omega) only [zI])
   repeat first | intro _ | refine ⟨by omega,?_⟩ | refine ⟨⟨by omega,by omega⟩,?_⟩
   refine hK _ ?_
   clear hK K
   refine zw (zk [1,2,4,9,43,44,45,46]) ?_
   simp only [go_sem]
   repeat refine zq ?_
   refine zc rfl (fun hc=>?_) (fun hc=>?_) <;> (try simp only [go_sem] at hc)
   · have hci:=hc
     obtain ⟨x,hx⟩:=opt_of_lt hci
     have hbx : bs[i]? = some x.b:=by rw [hbs,List.getElem?_map,hx]; rfl
     have htl : (bs.take i).length = i:=by rw [List.length_take]; omega
     refine zx ?_
     try simp only [go_sem]
     repeat refine zq ?_
     refine zd ?_
     repeat refine zq ?_
     refine zb (by kernel_rfl) fun K hK=>?_
     simp only [go_sem,hx,hci,bedR]
     (try simp (disch:=omega) only [zI])
     repeat first | intro _ | refine ⟨by omega,?_⟩ | refine ⟨⟨by omega,by omega⟩,?_⟩
     refine hK _ ?_
     clear hK K
     refine zw (zk [1,2,4,9,11,43,44,45]) ?_
     simp only [go_sem]
     repeat refine zq ?_
     refine awp_dreg3 [(9,some 41),(11,some 11)] [41,11] follows (by decide +kernel) (by kernel_rfl) (by simp only [keysOk,List.mem_cons,List.not_mem_nil,forall_eq_or_imp,Oc.keyOf,go_sem]; simp) (by intro k hk; simp only [List.mem_cons,List.not_mem_nil,or_false] at hk; first | (subst hk; exact ⟨_,rfl⟩) | (rcases hk with rfl | rfl <;> exact ⟨_,rfl⟩) | (rcases hk with rfl | rfl | rfl <;> exact ⟨_,rfl⟩)) fun K hK=>?_
     simp only [go_sem,htl,List.length_map]
     (try simp (disch:=omega) only [zI])
     refine ⟨⟨by omega,by omega⟩,?_⟩
     repeat first | intro _ | refine ⟨by omega,?_⟩ | refine ⟨⟨by omega,by omega⟩,?_⟩
     refine hK _ ?_
     clear hK K
     refine zw (zk [1,2,4,9,43,44,45]) ?_
     simp only [go_sem]
     repeat refine zq ?_
     refine zb (by kernel_rfl) fun K hK=>?_
     simp only [go_sem]
     (try simp (disch:=omega) only [zI])
     repeat first | intro _ | refine ⟨by omega,?_⟩ | refine ⟨⟨by omega,by omega⟩,?_⟩
     refine hK _ ?_
     clear hK K
     try simp only [go_sem]
     refine ⟨hci,zj [11] ?_ ?_⟩
     · try simp only [go_sem]
     · try simp only [go_sem]
       rw [take_of_opt hbx]
       simp
   · have hil : i = a.beds.length:=by omega
     subst hil
     have etk : bs.take a.beds.length = bs:=by rw [← hbl,List.take_length]
     have etl : List.take a.beds.length (bs.map fun x=>[i64 x]) = bs.map fun x=>[i64 x]:=List.take_of_length_le (by rw [List.length_map]; omega)
     rw [etk]
     refine zf ?_
     simp only [go_sem]
     refine zw (sub_frzB 41 0 57 (by omega) (by omega) rfl rfl rfl (by rw [List.length_map]; omega)) ?_
     simp only [go_sem,List.drop_zero,etl,List.set_cons_zero]
     have esh : (AV.r (RV.sl 1 (bs.map fun x=>[i64 x])) :: (tA zeroT ++ tA zeroT)) = shA bs zeroT zeroT:=(shA_eq bs zeroT zeroT).symm
     rw [esh]
     refine zw (zk [1,2,4,9]) ?_
     simp only [go_sem]
     repeat refine zq ?_
     refine zb (by kernel_rfl) fun K hK=>?_
     simp only [go_sem]
     (try simp (disch:=omega) only [zI])
     intros
     repeat first | intro _ | refine ⟨by omega,?_⟩ | refine ⟨⟨by omega,by omega⟩,?_⟩
     refine hK _ ?_
     clear hK K
     refine zw (zk [1,2,4,9,61,62,63]) ?_
     simp only [go_sem]
     repeat refine zq ?_
     refine zd ?_
     refine awp_whileV (n:=115) (fun (y : Nat × List Int × List Int) vs=>[(1,.r (visR l)),(2,.r (.rp [i64 a.at_,bedsR a.beds])),(4,.pt 4 (vs 4) 0),(9,.pt 41 (vs 41) 0),(61,.r (visR l)),(62,.r (i64 l.length)),(63,.r (i64 y.1))])
      (fun y vs=>[(4,.box [.r (i64 0),.r .ns]),(41,.box (shA bs y.2.1 y.2.2))])
      (fun y=>y.1 ≤ l.length ∧ SmallT (3 * (y.1 : Int)) y.2.1 ∧ SmallT (3 * (y.1 : Int)) y.2.2 ∧ runF bs zeroT zeroT 0 l = runF bs y.2.1 y.2.2 y.1 (l.drop y.1)) (fun y=>l.length - y.1) (0,zeroT,zeroT) (zj [] ?_ ?_) ⟨Nat.zero_le _,zeroT_small (by simp),zeroT_small (by simp),rfl⟩ ?_
     · try simp only [go_sem]
     · try simp only [go_sem]
     · rintro ⟨i,le,mo⟩ vs ⟨hi,hs1,hs2,hR⟩
       simp only at hi hs1 hs2 hR
       have hlel:=hs1.1
       have hmol:=hs2.1
       repeat refine zq ?_
       refine zb (by kernel_rfl) fun K hK=>?_
       simp only [go_sem]
       (try simp (disch:=omega) only [zI])
       repeat first | intro _ | refine ⟨by omega,?_⟩ | refine ⟨⟨by omega,by omega⟩,?_⟩
       refine hK _ ?_
       clear hK K
       refine zw (zk [1,2,4,9,61,62,63,64]) ?_
       simp only [go_sem]
       repeat refine zq ?_
       refine zc rfl (fun hc=>?_) (fun hc=>?_) <;> (try simp only [go_sem] at hc)
       · have hci : i < l.length:=by first | exact hc | omega
         obtain ⟨v,hx⟩:=opt_of_lt hci
         rw [drop_of_opt hx,runF] at hR
         refine zx ?_
         try simp only [go_sem]
         repeat refine zq ?_
         refine zd ?_
         repeat refine zq ?_
         refine zb (by kernel_rfl) fun K hK=>?_
         simp only [go_sem,hx,hci]
         (try simp (disch:=omega) only [zI])
         repeat first | intro _ | refine ⟨by omega,?_⟩ | refine ⟨⟨by omega,by omega⟩,?_⟩
         refine hK _ ?_
         clear hK K
         refine zw (zk [1,2,4,9,12,13,61,62,63]) ?_
         simp only [go_sem]
         repeat refine zq ?_
         refine zb (by kernel_rfl) fun K hK=>?_
         simp only [go_sem]
         (try simp (disch:=omega) only [zI])
         refine xcall_mut (visit_ok bs le mo v.ds v.n hbo (hs1.mono (by omega)) (hs2.mono (by omega))) [(1000,41)] rfl (by simp only [go_sem,i64,ints,shA_lend,shA_back]) (by simp only [go_sem,i64,ints,shA_lend,shA_back]) (by rfl) (by rfl) ?_
         (try simp only [go_sem,shA_lend,shA_back])
         (try simp (disch:=omega) only [zI])
         repeat first | intro _ | refine ⟨by omega,?_⟩ | refine ⟨⟨by omega,by omega⟩,?_⟩
         refine hK _ ?_
         clear hK K
         refine zw (zk [1,2,4,9,12,14,61,62,63]) ?_
         simp only [go_sem]
         by_cases hv0 : visitE bs v.ds v.n = 0
         · have c5 : (visitE bs v.ds v.n != 0) = false:=by simp [hv0]
           rw [if_pos hv0] at hR
           repeat refine zq ?_
           refine zb (by kernel_rfl) fun K hK=>?_
           simp only [go_sem,c5]
           (try simp (disch:=omega) only [zI])
           repeat first | intro _ | refine ⟨by omega,?_⟩ | refine ⟨⟨by omega,by omega⟩,?_⟩
           refine hK _ ?_
           clear hK K
           refine zw (zk [1,2,4,9,12,14,61,62,63,72]) ?_
           simp only [go_sem]
           repeat refine zq ?_
           refine zc rfl (fun hc=>?_) (fun hc=>?_) <;> (try simp only [go_sem] at hc)
           refine zx ?_
           try simp only [go_sem]
           repeat refine zq ?_
           refine zb (by kernel_rfl) fun K hK=>?_
           simp only [go_sem]
           (try simp (disch:=omega) only [zI])
           repeat first | intro _ | refine ⟨by omega,?_⟩ | refine ⟨⟨by omega,by omega⟩,?_⟩
           refine hK _ ?_
           clear hK K
           try simp only [go_sem]
           refine ⟨(i + 1,leV bs le v.ds v.n,moV bs mo v.ds v.n),⟨by omega,?_,?_,hR⟩,by simp only; omega,zj [13] ?_ ?_⟩
           · have:=(leV_small (bs:=bs) (ds:=v.ds) (n:=v.n) hs1).1
             simpa [Int.mul_add] using this
           · have:=moV_small (bs:=bs) (ds:=v.ds) (n:=v.n) hs2
             simpa [Int.mul_add] using this
           · try simp only [go_sem]
           · try simp only [go_sem]
         · have c5 : (visitE bs v.ds v.n != 0) = true:=by simpa using hv0
           rw [if_neg hv0] at hR
           have hv : fitV a l = (⟨0,[]⟩,0,(i : Int),visitE bs v.ds v.n):=by rw [hV,hR]
           rw [hv]
           repeat refine zq ?_
           refine zb (by kernel_rfl) fun K hK=>?_
           simp only [go_sem,c5]
           (try simp (disch:=omega) only [zI])
           repeat first | intro _ | refine ⟨by omega,?_⟩ | refine ⟨⟨by omega,by omega⟩,?_⟩
           refine hK _ ?_
           clear hK K
           refine zw (zk [1,2,4,9,12,14,61,62,63,72]) ?_
           simp only [go_sem]
           repeat refine zq ?_
           refine zc rfl (fun hc=>?_) (fun hc=>?_) <;> (try simp only [go_sem] at hc)
           repeat refine zq ?_
           refine zb (by kernel_rfl) fun K hK=>?_
           simp only [go_sem]
           (try simp (disch:=omega) only [zI])
           repeat first | intro _ | refine ⟨by omega,?_⟩ | refine ⟨⟨by omega,by omega⟩,?_⟩
           refine hK _ ?_
           clear hK K
           refine zw (zk [4,5,6,7]) ?_
           simp only [go_sem]
           refine ze ?_
           simp only [go_sem]
       · have hil : i = l.length:=by omega
         subst hil
         rw [List.drop_length,runF] at hR
         have hv : fitV a l = (⟨a.at_,(List.range a.beds.length).map (bedAt bs le mo)⟩,3 * (l.length : Int),0,0):=by rw [hV,hR]
         rw [hv]
         have hll : l.length ≤ 1000:=by omega
         refine zf ?_
         simp only [go_sem]
         refine zw (sub_frzP 9 41 (sheetR bs le mo) (by omega) rfl rfl) ?_
         try simp only [go_sem]
         refine zw (zk [1,2,4,9]) ?_
         simp only [go_sem]
         repeat refine zq ?_
         refine zb (by kernel_rfl) fun K hK=>?_
         simp only [go_sem]
         (try simp (disch:=omega) only [zI])
         repeat first | intro _ | refine ⟨by omega,?_⟩ | refine ⟨⟨by omega,by omega⟩,?_⟩
         refine hK _ ?_
         clear hK K
         refine zw (zk [1,4,9]) ?_
         simp only [go_sem]
         repeat refine zq ?_
         refine zb (by kernel_rfl) fun K hK=>?_
         simp only [go_sem,hbl]
         (try simp (disch:=omega) only [zI])
         intros
         repeat first | intro _ | refine ⟨by omega,?_⟩ | refine ⟨⟨by omega,by omega⟩,?_⟩
         refine hK _ ?_
         clear hK K
         refine zw (zk [1,4,9,83,84,85]) ?_
         simp only [go_sem]
         repeat refine zq ?_
         refine zd ?_
         refine zw (sub_ownB 4 1 108 67 3 (by omega) (by omega) rfl rfl) ?_
         try simp only [go_sem]
         refine awp_uptoV (n:=115) a.beds.length (fun k vs=>[(1,.r (visR l)),(4,.pt 4 (vs 4) 0),(9,.r (.rp (sheetR bs le mo))),(83,.r (ints bs)),(84,.r (i64 a.beds.length)),(85,.r (i64 k))])
          (fun k vs=>[(4,.box [.r (i64 a.at_),.os 108 (vs 108) 3 0 k]),(108,.arr 67 3 (((List.range k).map (bedAt bs le mo)).map bedR))]) (fun _=>True) 0 (zj [13] ?_ ?_) (Nat.zero_le _) trivial ?_
         · try simp only [go_sem]
         · try simp only [go_sem]
           try simp
         · intro k vs hk _
           repeat refine zq ?_
           refine zb (by kernel_rfl) fun K hK=>?_
           simp only [go_sem]
           (try simp (disch:=omega) only [zI])
           repeat first | intro _ | refine ⟨by omega,?_⟩ | refine ⟨⟨by omega,by omega⟩,?_⟩
           refine hK _ ?_
           clear hK K
           refine zw (zk [1,4,9,83,84,85,86]) ?_
           simp only [go_sem]
           repeat refine zq ?_
           refine zc rfl (fun hc=>?_) (fun hc=>?_) <;> (try simp only [go_sem] at hc)
           · have hck : k < a.beds.length:=by first | exact hc | omega
             have hkb : k < bs.length:=by omega
             obtain ⟨b,hbx⟩:=opt_of_lt hkb
             obtain ⟨x,hxl⟩:=opt_of_lt (l:=le) (i:=k) (by omega)
             obtain ⟨y,hyl⟩:=opt_of_lt (l:=mo) (i:=k) (by omega)
             have hat : bedAt bs le mo k = ⟨b,x,y⟩:=by simp [bedAt,List.getD_eq_getElem?_getD,hbx,hxl,hyl]
             have hrl : ((List.range k).map (bedAt bs le mo)).length = k:=by simp
             have hk10 : (k : Int) < 10:=by omega
             have d1 : List.drop k (tR le ++ tR mo) = i64 x :: List.drop (k + 1) (tR le ++ tR mo):=drop_of_opt (by
              rw [List.getElem?_append_left (by simp; omega)]
              simp [hxl])
             have d0 : List.drop 10 (tR le ++ tR mo) = tR mo:=by
              rw [List.drop_append_of_le_length (by simp; omega),List.drop_of_length_le (by simp; omega),List.nil_append]
             have d2 : List.drop k (tR mo) = i64 y :: List.drop (k + 1) (tR mo):=drop_of_opt (by simp [hyl])
             have hL20 : (tR le ++ tR mo).length = 20:=by simp; omega
             refine zx ?_
             try simp only [go_sem]
             repeat refine zq ?_
             refine zd ?_
             repeat refine zq ?_
             refine zb (by kernel_rfl) fun K hK=>?_
             simp only [go_sem,hbx,hkb]
             (try simp (disch:=omega) only [zI])
             repeat first | intro _ | refine ⟨by omega,?_⟩ | refine ⟨⟨by omega,by omega⟩,?_⟩
             refine hK _ ?_
             clear hK K
             refine zw (zk [1,4,9,15,16,83,84,85]) ?_
             simp only [go_sem]
             repeat refine zq ?_
             refine awp_dreg3 [(4,some 4),(9,none)] [4] follows (by decide +kernel) (by kernel_rfl) (by simp only [keysOk,List.mem_cons,List.not_mem_nil,forall_eq_or_imp,Oc.keyOf,go_sem]; simp) (by intro k hk; simp only [List.mem_cons,List.not_mem_nil,or_false] at hk; first | (subst hk; exact ⟨_,rfl⟩) | (rcases hk with rfl | rfl <;> exact ⟨_,rfl⟩) | (rcases hk with rfl | rfl | rfl <;> exact ⟨_,rfl⟩)) fun K hK=>?_
             simp only [go_sem,Nat.mul_one,hrl,List.length_map,d0,d1,d2,hL20,List.headD_cons,List.length_cons]
             (try simp (disch:=omega) only [zI])
             refine ⟨by omega,by omega,⟨by omega,by omega⟩,?_⟩
             repeat first | intro _ | refine ⟨by omega,?_⟩ | refine ⟨⟨by omega,by omega⟩,?_⟩
             refine hK _ ?_
             clear hK K
             refine zw (zk [1,4,9,83,84,85]) ?_
             simp only [go_sem]
             repeat refine zq ?_
             refine zb (by kernel_rfl) fun K hK=>?_
             simp only [go_sem]
             (try simp (disch:=omega) only [zI])
             repeat first | intro _ | refine ⟨by omega,?_⟩ | refine ⟨⟨by omega,by omega⟩,?_⟩
             refine hK _ ?_
             clear hK K
             try simp only [go_sem]
             refine ⟨hck,zj [] ?_ ?_⟩
             · try simp only [go_sem]
             · try simp only [go_sem]
               simp [List.range_succ,hat,bedR]
           · have hkl : k = a.beds.length:=by omega
             subst hkl
             have etl2 : List.take a.beds.length (((List.range a.beds.length).map (bedAt bs le mo)).map bedR) = ((List.range a.beds.length).map (bedAt bs le mo)).map bedR:=List.take_of_length_le (by simp)
             refine zf ?_
             simp only [go_sem]
             refine zw (sub_frzB 4 1 108 (by omega) (by omega) rfl rfl rfl (by simp)) ?_
             simp only [go_sem,List.drop_zero,etl2,List.set_cons_succ,List.set_cons_zero]
             refine zw (zk [1,4]) ?_
             simp only [go_sem]
             repeat refine zq ?_
             refine zb (by kernel_rfl) fun K hK=>?_
             simp only [go_sem]
             (try simp (disch:=omega) only [zI])
             intros
             repeat first | intro _ | refine ⟨by omega,?_⟩ | refine ⟨⟨by omega,by omega⟩,?_⟩
             refine hK _ ?_
             clear hK K
             refine zw (zk [4,5,6,7]) ?_
             simp only [go_sem]
             refine ze ?_
             simp only [go_sem]
             done
end Go.Proofs.Ytgkejinoaommeaa

/- Part 9 of the texts of this claim. -/
import Derived.Test.YtgkejinoaommeaaVA8
import Derived.Test.YtgkejinoaommeaaVA7
namespace Go.Proofs.Ytgkejinoaommeaa
open Go Go.Oc
set_option linter.unusedSimpArgs false
set_option linter.unusedVariables false
set_option maxRecDepth 8000
set_option maxHeartbeats 1000000
structure Vi where
 ds : List Int
 n : Int
abbrev viC (v : Vi) : List RV:=[ints v.ds,i64 v.n]
abbrev visR (l : List Vi) : RV:=.sl 2 (l.map viC)
def runF (bs : List Int) : List Int → List Int → Nat → List Vi → List Int × List Int × Option (Nat × Int)
 | le,mo,_,[]=>(le,mo,none)
 | le,mo,i,v :: l=>if visitE bs v.ds v.n = 0 then runF bs (leV bs le v.ds v.n) (moV bs mo v.ds v.n) (i + 1) l else (le,mo,some (i,visitE bs v.ds v.n))
def bedAt (bs le mo : List Int) (i : Nat) : Bd:=⟨bs.getD i 0,le.getD i 0,mo.getD i 0⟩
def fitV (a : Am) (l : List Vi) : Am × Int × Int × Int :=
 if 10 < a.beds.length then (⟨0,[]⟩,0,0,5) else if (bedOk a.at_ && !a.beds.isEmpty && seqOk none a.beds) = false then (⟨0,[]⟩,0,0,2) else if l = [] then (⟨0,[]⟩,0,0,7) else if 1000 < l.length then (⟨0,[]⟩,0,0,5) else
 match runF (a.beds.map (·.b)) zeroT zeroT 0 l with
 | (_,_,some (i,e))=>(⟨0,[]⟩,0,i,e)
 | (le,mo,none)=>(⟨a.at_,(List.range a.beds.length).map (bedAt (a.beds.map (·.b)) le mo)⟩,3 * l.length,0,0)
theorem SmallT.mono {b c : Int} {t : List Int} (h : SmallT b t) (hc : b ≤ c) : SmallT c t:=⟨h.1,fun x hx=>by have:=h.2 x hx; omega⟩
theorem truthsV_small {bs ds : List Int} {n : Int} (h : visitE bs ds n = 0) : ∀ t ∈ truthsV bs ds n,SmallT 3 t:=by
 unfold truthsV
 split
 · exact threeT_small
 · rename_i hds
   refine truthsK_small ?_
   unfold visitE at h
   split at h
   · cases h
   · rename_i h1
     have : ¬ (ds.length ≠ 3):=fun h2=>h1 ⟨hds,.inl h2⟩
     omega
theorem addT_small {b c : Int} {s t : List Int} (h1 : SmallT b s) (h2 : SmallT c t) : SmallT (b + c) (addT s t):=by
 refine ⟨by unfold addT; rw [List.length_zipWith,h1.1,h2.1]; rfl,fun x hx=>?_⟩
 obtain ⟨y,hy,z,hz,rfl⟩:=mem_zipW hx
 have:=h1.2 y hy
 have:=h2.2 z hz
 omega
theorem leV_small {b : Int} {bs le ds : List Int} {n : Int} (h : SmallT b le) : SmallT (b + 3) (leV bs le ds n) ∧ True:=by
 refine ⟨?_,trivial⟩
 unfold leV
 split
 · rename_i h0
   exact addT_small h (accL_small (by omega) _ (truthsV_small h0)).1
 · exact h.mono (by omega)
theorem moV_small {b : Int} {bs mo ds : List Int} {n : Int} (h : SmallT b mo) : SmallT (b + 3) (moV bs mo ds n):=by
 unfold moV
 split
 · rename_i h0
   exact addT_small h (accL_small (by omega) _ (truthsV_small h0)).2
 · exact h.mono (by omega)
theorem bedOk_le {b : Int} (h : bedOk b = true) : 0 ≤ b ∧ b ≤ 499:=by
 simp only [bedOk,Bool.or_eq_true,Bool.and_eq_true,decide_eq_true_eq] at h
 omega
theorem seqOk_le : ∀ {l : List Bd} {p : Option Int},seqOk p l = true → ∀ x ∈ l,0 ≤ x.b ∧ x.b ≤ 499
 | [],_,_=>by simp
 | y :: l, p, h => by
   simp only [seqOk,Bool.and_eq_true,Bool.or_eq_true,decide_eq_true_eq] at h
   intro x hx
   rcases List.mem_cons.1 hx with rfl | hx
   · rcases h.1.1 with h1 | h1
     · omega
     · exact bedOk_le h1
   · exact seqOk_le h.2 x hx
theorem fit_ok (a : Am) (l : List Vi) (hw : WfA a) : ACalls Try.prog 28 [aimV a,visR l] (.tu [aimV (fitV a l).1,i64 (fitV a l).2.1,i64 (fitV a l).2.2.1,i64 (fitV a l).2.2.2]):=by
 refine acalls_st (rs:=[aimV (fitV a l).1,i64 (fitV a l).2.1,i64 (fitV a l).2.2.1,i64 (fitV a l).2.2.2]) [.cell 4 36,.tmp 5,.tmp 6,.tmp 7] Try.func28 rfl (by kernel_rfl) Try.ntmps28 rfl (by simp) rfl fun C vs=>?_
 repeat refine zq ?_
 refine zb (by kernel_rfl) fun K hK=>?_
 simp only [go_sem]
 (try simp (disch:=omega) only [zI])
 repeat first | intro _ | refine ⟨by omega,?_⟩ | refine ⟨⟨by omega,by omega⟩,?_⟩
 refine hK _ ?_
 clear hK K
 refine zw (sub_frzP 2 2 (aimR a) (by omega) rfl rfl) ?_
 refine zw (zk [1,2,4]) ?_
 simp only [go_sem]
 repeat refine zq ?_
 refine zb (by kernel_rfl) fun K hK=>?_
 simp only [go_sem,aimR]
 (try simp (disch:=omega) only [zI])
 repeat first | intro _ | refine ⟨by omega,?_⟩ | refine ⟨⟨by omega,by omega⟩,?_⟩
 refine hK _ ?_
 clear hK K
 refine zw (sub_frzP 8 8 [i64 a.at_,bedsR a.beds,i64 0] (by omega) rfl rfl) ?_
 refine zw (zk [1,2,4,8]) ?_
 simp only [go_sem]
 repeat refine zq ?_
 refine zd ?_
 by_cases h1 : 10 < a.beds.length
 · have c1 : decide ((10 : Int) < (a.beds.length : Int)) = true:=by simp; omega
   have hv : fitV a l = (⟨0,[]⟩,0,0,5):=by rw [fitV,if_pos h1]
   rw [hv]
   repeat refine zq ?_
   refine zb (by kernel_rfl) fun K hK=>?_
   simp only [go_sem,c1,aimR]
   (try simp (disch:=omega) only [zI])
   intros
   repeat first | intro _ | refine ⟨by omega,?_⟩ | refine ⟨⟨by omega,by omega⟩,?_⟩
   refine hK _ ?_
   clear hK K
   refine zw (zk [1,2,4,8,19]) ?_
   simp only [go_sem]
   repeat refine zq ?_
   refine zc rfl (fun hc=>?_) (fun hc=>?_) <;> (try simp only [go_sem] at hc)
   repeat refine zq ?_
   refine zb (by kernel_rfl) fun K hK=>?_
   simp only [go_sem]
   (try simp (disch:=omega) only [zI])
   repeat first | intro _ | refine ⟨by omega,?_⟩ | refine ⟨⟨by omega,by omega⟩,?_⟩
   refine hK _ ?_
   clear hK K
   refine zw (zk [4,5,6,7]) ?_
   simp only [go_sem]
   refine ze ?_
   simp only [go_sem]
 have c1 : decide ((10 : Int) < (a.beds.length : Int)) = false:=by simp; omega
 repeat refine zq ?_
 refine zb (by kernel_rfl) fun K hK=>?_
 simp only [go_sem,c1,aimR]
 (try simp (disch:=omega) only [zI])
 intros
 repeat first | intro _ | refine ⟨by omega,?_⟩ | refine ⟨⟨by omega,by omega⟩,?_⟩
 refine hK _ ?_
 clear hK K
 refine zw (zk [1,2,4,8,19]) ?_
 simp only [go_sem]
 repeat refine zq ?_
 refine zc rfl (fun hc=>?_) (fun hc=>?_) <;> (try simp only [go_sem] at hc)
 repeat refine zq ?_
 refine zb (by kernel_rfl) fun K hK=>?_
 simp only [go_sem]
 (try simp (disch:=omega) only [zI])
 refine zh (areBeds_ok a.at_ a.beds 0 hw.1 hw.2) rfl (by simp only [go_sem,i64,ints]) (by simp only [go_sem,i64,ints]) (by first | exact .inl rfl | exact .inr rfl) ?_
 (try simp only [go_sem])
 (try simp (disch:=omega) only [zI])
 repeat first | intro _ | refine ⟨by omega,?_⟩ | refine ⟨⟨by omega,by omega⟩,?_⟩
 refine hK _ ?_
 clear hK K
 refine zw (zk [1,2,4,25]) ?_
 simp only [go_sem]
 cases h2 : (bedOk a.at_ && !a.beds.isEmpty && seqOk none a.beds)
 · have hv : fitV a l = (⟨0,[]⟩,0,0,2):=by rw [fitV,if_neg h1,if_pos h2]
   rw [hv]
   repeat refine zq ?_
   refine zc rfl (fun hc=>?_) (fun hc=>?_) <;> (try simp only [go_sem] at hc)
   repeat refine zq ?_
   refine zb (by kernel_rfl) fun K hK=>?_
   simp only [go_sem]
   (try simp (disch:=omega) only [zI])
   repeat first | intro _ | refine ⟨by omega,?_⟩ | refine ⟨⟨by omega,by omega⟩,?_⟩
   refine hK _ ?_
   clear hK K
   refine zw (zk [4,5,6,7]) ?_
   simp only [go_sem]
   refine ze ?_
   simp only [go_sem]
 repeat refine zq ?_
 refine zc rfl (fun hc=>?_) (fun hc=>?_) <;> (try simp only [go_sem] at hc)
 by_cases h3 : l = []
 · have c3 : ((l.length : Int) == 0) = true:=by simp [h3]
   have hv : fitV a l = (⟨0,[]⟩,0,0,7):=by rw [fitV,if_neg h1,if_neg (by rw [h2]; decide),if_pos h3]
   rw [hv]
   repeat refine zq ?_
   refine zb (by kernel_rfl) fun K hK=>?_
   simp only [go_sem,c3]
   (try simp (disch:=omega) only [zI])
   intros
   repeat first | intro _ | refine ⟨by omega,?_⟩ | refine ⟨⟨by omega,by omega⟩,?_⟩
   refine hK _ ?_
   clear hK K
   refine zw (zk [1,2,4,30]) ?_
   simp only [go_sem]
   repeat refine zq ?_
   refine zc rfl (fun hc=>?_) (fun hc=>?_) <;> (try simp only [go_sem] at hc)
   repeat refine zq ?_
   refine zb (by kernel_rfl) fun K hK=>?_
   simp only [go_sem]
   (try simp (disch:=omega) only [zI])
   repeat first | intro _ | refine ⟨by omega,?_⟩ | refine ⟨⟨by omega,by omega⟩,?_⟩
   refine hK _ ?_
   clear hK K
   refine zw (zk [4,5,6,7]) ?_
   simp only [go_sem]
   refine ze ?_
   simp only [go_sem]
 have c3 : ((l.length : Int) == 0) = false:=by simpa using h3
 repeat refine zq ?_
 refine zb (by kernel_rfl) fun K hK=>?_
 simp only [go_sem,c3]
 (try simp (disch:=omega) only [zI])
 intros
 repeat first | intro _ | refine ⟨by omega,?_⟩ | refine ⟨⟨by omega,by omega⟩,?_⟩
 refine hK _ ?_
 clear hK K
 refine zw (zk [1,2,4,30]) ?_
 simp only [go_sem]
 repeat refine zq ?_
 refine zc rfl (fun hc=>?_) (fun hc=>?_) <;> (try simp only [go_sem] at hc)
 by_cases h4 : 1000 < l.length
 · have c4 : decide ((1000 : Int) < (l.length : Int)) = true:=by simp; omega
   have hv : fitV a l = (⟨0,[]⟩,0,0,5):=by rw [fitV,if_neg h1,if_neg (by rw [h2]; decide),if_neg h3,if_pos h4]
   rw [hv]
   repeat refine zq ?_
   refine zb (by kernel_rfl) fun K hK=>?_
   simp only [go_sem,c4]
   (try simp (disch:=omega) only [zI])
   intros
   repeat first | intro _ | refine ⟨by omega,?_⟩ | refine ⟨⟨by omega,by omega⟩,?_⟩
   refine hK _ ?_
   clear hK K
   refine zw (zk [1,2,4,35]) ?_
   simp only [go_sem]
   repeat refine zq ?_
   refine zc rfl (fun hc=>?_) (fun hc=>?_) <;> (try simp only [go_sem] at hc)
   repeat refine zq ?_
   refine zb (by kernel_rfl) fun K hK=>?_
   simp only [go_sem]
   (try simp (disch:=omega) only [zI])
   repeat first | intro _ | refine ⟨by omega,?_⟩ | refine ⟨⟨by omega,by omega⟩,?_⟩
   refine hK _ ?_
   clear hK K
   refine zw (zk [4,5,6,7]) ?_
   simp only [go_sem]
   refine ze ?_
   simp only [go_sem]
 have c4 : decide ((1000 : Int) < (l.length : Int)) = false:=by simp; omega
 repeat refine zq ?_
 refine zb (by kernel_rfl) fun K hK=>?_
 simp only [go_sem,c4]
 (try simp (disch:=omega) only [zI])
 intros
 repeat first | intro _ | refine ⟨by omega,?_⟩ | refine ⟨⟨by omega,by omega⟩,?_⟩
 refine hK _ ?_
 clear hK K
 refine zw (zk [1,2,4,35]) ?_
 simp only [go_sem]
 repeat refine zq ?_
 refine zc rfl (fun hc=>?_) (fun hc=>?_) <;> (try simp only [go_sem] at hc)
 refine zx ?_
 try simp only [go_sem]
 have hV : fitV a l = match runF (a.beds.map (·.b)) zeroT zeroT 0 l with
  | (_,_,some (i,e))=>(⟨0,[]⟩,0,i,e)
  | (le,mo,none)=>(⟨a.at_,(List.range a.beds.length).map (bedAt (a.beds.map (·.b)) le mo)⟩,3 * l.length,0,0):=by
  rw [fitV,if_neg h1,if_neg (by rw [h2]; decide),if_neg h3,if_neg h4]
 have hseq : seqOk none a.beds = true:=by
  simp only [Bool.and_eq_true] at h2
  exact h2.2
 have hle:=seqOk_le hseq
 obtain ⟨bs,hbs⟩ : ∃ bs,bs = a.beds.map (·.b):=⟨_,rfl⟩
 have hbl : bs.length = a.beds.length:=by rw [hbs]; simp
 have hbo : BedsOk bs:=⟨by omega,fun b hb=>by
  rw [hbs] at hb
  obtain ⟨x,hx,rfl⟩:=List.mem_map.1 hb
  exact hle x hx⟩
 rw [← hbs] at hV
 repeat refine zq ?_
 refine zb (by kernel_rfl) fun K hK=>?_
 simp only [go_sem]
 (try simp (disch:=omega) only [zI])
 repeat first | intro _ | refine ⟨by omega,?_⟩ | refine ⟨⟨by omega,by omega⟩,?_⟩
 refine hK _ ?_
 clear hK K
 refine zw (zk [1,2,4,9]) ?_
 simp only [go_sem]
 repeat refine zq ?_
 refine zb (by kernel_rfl) fun K hK=>?_
 simp only [go_sem,aimR]
 (try simp (disch:=omega) only [zI])
 intros
 repeat first | intro _ | refine ⟨by omega,?_⟩ | refine ⟨⟨by omega,by omega⟩,?_⟩
 refine hK _ ?_
 clear hK K
 refine zw (zk [1,2,4,9,43,44,45]) ?_
 simp only [go_sem]
 repeat refine zq ?_
 refine zd ?_
 refine zw (sub_ownB 41 0 57 33 1 (by omega) (by omega) rfl rfl) ?_
 try simp only [go_sem]
 refine awp_uptoV (n:=115) a.beds.length (fun i vs=>[(1,.r (visR l)),(2,.r (.rp [i64 a.at_,bedsR a.beds])),(4,.pt 4 (vs 4) 0),(9,.pt 41 (vs 41) 0),(43,.r (bedsR a.beds)),(44,.r (i64 a.beds.length)),(45,.r (i64 i))])
  (fun i vs=>[(4,.box [.r (i64 0),.r .ns]),(41,.box (.os 57 (vs 57) 1 0 i :: (tA zeroT ++ tA zeroT))),(57,.arr 33 1 ((bs.take i).map fun x=>[i64 x]))]) (fun _=>True) 0 (zj [8] ?_ ?_) (Nat.zero_le _) trivial ?_
 · try simp only [go_sem]
 · try simp only [go_sem]
   try simp
 · intro i vs hi _
   repeat refine zq ?_
   refine zb (by kernel_rfl) fun K hK=>?_
   simp only [go_sem]
   (try simp (disch:=omega) only [zI])
   repeat first | intro _ | refine ⟨by omega,?_⟩ | refine ⟨⟨by omega,by omega⟩,?_⟩
   refine hK _ ?_
   clear hK K
   refine zw (zk [1,2,4,9,43,44,45,46]) ?_
   simp only [go_sem]
   repeat refine zq ?_
   refine zc rfl (fun hc=>?_) (fun hc=>?_) <;> (try simp only [go_sem] at hc)
   · have hci:=hc
     obtain ⟨x,hx⟩:=opt_of_lt hci
     have hbx : bs[i]? = some x.b:=by rw [hbs,List.getElem?_map,hx]; rfl
     have htl : (bs.take i).length = i:=by rw [List.length_take]; omega
     refine zx ?_
     try simp only [go_sem]
     repeat refine zq ?_
     refine zd ?_
     repeat refine zq ?_
     refine zb (by kernel_rfl) fun K hK=>?_
     simp only [go_sem,hx,hci,bedR]
     (try simp (disch:=omega) only [zI])
     repeat first | intro _ | refine ⟨by omega,?_⟩ | refine ⟨⟨by omega,by omega⟩,?_⟩
     refine hK _ ?_
     clear hK K
     refine zw (zk [1,2,4,9,11,43,44,45]) ?_
     simp only [go_sem]
     repeat refine zq ?_
     refine awp_dreg3 [(9,some 41),(11,some 11)] [41,11] follows (by decide +kernel) (by kernel_rfl) (by simp only [keysOk,List.mem_cons,List.not_mem_nil,forall_eq_or_imp,Oc.keyOf,go_sem]; simp) (by intro k hk; simp only [List.mem_cons,List.not_mem_nil,or_false] at hk; first | (subst hk; exact ⟨_,rfl⟩) | (rcases hk with rfl | rfl <;> exact ⟨_,rfl⟩) | (rcases hk with rfl | rfl | rfl <;> exact ⟨_,rfl⟩)) fun K hK=>?_
     simp only [go_sem,htl,List.length_map]
     (try simp (disch:=omega) only [zI])
     refine ⟨⟨by omega,by omega⟩,?_⟩
     repeat first | intro _ | refine ⟨by omega,?_⟩ | refine ⟨⟨by omega,by omega⟩,?_⟩
     refine hK _ ?_
     clear hK K
     refine zw (zk [1,2,4,9,43,44,45]) ?_
     simp only [go_sem]
     repeat refine zq ?_
     refine zb (by kernel_rfl) fun K hK=>?_
     simp only [go_sem]
     (try simp (disch:=omega) only [zI])
     repeat first | intro _ | refine ⟨by omega,?_⟩ | refine ⟨⟨by omega,by omega⟩,?_⟩
     refine hK _ ?_
     clear hK K
     try simp only [go_sem]
     refine ⟨hci,zj [11] ?_ ?_⟩
     · try simp only [go_sem]
     · try simp only [go_sem]
       rw [take_of_opt hbx]
       simp
   · have hil : i = a.beds.length:=by omega
     subst hil
     have etk : bs.take a.beds.length = bs:=by rw [← hbl,List.take_length]
     have etl : List.take a.beds.length (bs.map fun x=>[i64 x]) = bs.map fun x=>[i64 x]:=List.take_of_length_le (by rw [List.length_map]; omega)
     rw [etk]
     refine zf ?_
     simp only [go_sem]
     refine zw (sub_frzB 41 0 57 (by omega) (by omega) rfl rfl rfl (by rw [List.length_map]; omega)) ?_
     simp only [go_sem,List.drop_zero,etl,List.set_cons_zero]
     have esh : (AV.r (RV.sl 1 (bs.map fun x=>[i64 x])) :: (tA zeroT ++ tA zeroT)) = shA bs zeroT zeroT:=(shA_eq bs zeroT zeroT).symm
     rw [esh]
     refine zw (zk [1,2,4,9]) ?_
     simp only [go_sem]
     repeat refine zq ?_
     refine zb (by kernel_rfl) fun K hK=>?_
     simp only [go_sem]
     (try simp (disch:=omega) only [zI])
     intros
     repeat first | intro _ | refine ⟨by omega,?_⟩ | refine ⟨⟨by omega,by omega⟩,?_⟩
     refine hK _ ?_
     clear hK K
     refine zw (zk [1,2,4,9,61,62,63]) ?_
     simp only [go_sem]
     repeat refine zq ?_
     refine zd ?_
     refine awp_whileV (n:=115) (fun (y : Nat × List Int × List Int) vs=>[(1,.r (visR l)),(2,.r (.rp [i64 a.at_,bedsR a.beds])),(4,.pt 4 (vs 4) 0),(9,.pt 41 (vs 41) 0),(61,.r (visR l)),(62,.r (i64 l.length)),(63,.r (i64 y.1))])
      (fun y vs=>[(4,.box [.r (i64 0),.r .ns]),(41,.box (shA bs y.2.1 y.2.2))])
      (fun y=>y.1 ≤ l.length ∧ SmallT (3 * (y.1 : Int)) y.2.1 ∧ SmallT (3 * (y.1 : Int)) y.2.2 ∧ runF bs zeroT zeroT 0 l = runF bs y.2.1 y.2.2 y.1 (l.drop y.1)) (fun y=>l.length - y.1) (0,zeroT,zeroT) (zj [] ?_ ?_) ⟨Nat.zero_le _,zeroT_small (by simp),zeroT_small (by simp),rfl⟩ ?_
     · try simp only [go_sem]
     · try simp only [go_sem]
     · rintro ⟨i,le,mo⟩ vs ⟨hi,hs1,hs2,hR⟩
       simp only at hi hs1 hs2 hR
       have hlel:=hs1.1
       have hmol:=hs2.1
       repeat refine zq ?_
       refine zb (by kernel_rfl) fun K hK=>?_
       simp only [go_sem]
       (try simp (disch:=omega) only [zI])
       repeat first | intro _ | refine ⟨by omega,?_⟩ | refine ⟨⟨by omega,by omega⟩,?_⟩
       refine hK _ ?_
       clear hK K
       refine zw (zk [1,2,4,9,61,62,63,64]) ?_
       simp only [go_sem]
       repeat refine zq ?_
       refine zc rfl (fun hc=>?_) (fun hc=>?_) <;> (try simp only [go_sem] at hc)
       · have hci : i < l.length:=by first | exact hc | omega
         obtain ⟨v,hx⟩:=opt_of_lt hci
         rw [drop_of_opt hx,runF] at hR
         refine zx ?_
         try simp only [go_sem]
         repeat refine zq ?_
         refine zd ?_
         repeat refine zq ?_
         refine zb (by kernel_rfl) fun K hK=>?_
         simp only [go_sem,hx,hci]
         (try simp (disch:=omega) only [zI])
         repeat first | intro _ | refine ⟨by omega,?_⟩ | refine ⟨⟨by omega,by omega⟩,?_⟩
         refine hK _ ?_
         clear hK K
         refine zw (zk [1,2,4,9,12,13,61,62,63]) ?_
         simp only [go_sem]
         repeat refine zq ?_
         refine zb (by kernel_rfl) fun K hK=>?_
         simp only [go_sem]
         (try simp (disch:=omega) only [zI])
         refine xcall_mut (visit_ok bs le mo v.ds v.n hbo (hs1.mono (by omega)) (hs2.mono (by omega))) [(1000,41)] rfl (by simp only [go_sem,i64,ints,shA_lend,shA_back]) (by simp only [go_sem,i64,ints,shA_lend,shA_back]) (by rfl) (by rfl) ?_
         (try simp only [go_sem,shA_lend,shA_back])
         (try simp (disch:=omega) only [zI])
         repeat first | intro _ | refine ⟨by omega,?_⟩ | refine ⟨⟨by omega,by omega⟩,?_⟩
         refine hK _ ?_
         clear hK K
         refine zw (zk [1,2,4,9,12,14,61,62,63]) ?_
         simp only [go_sem]
         by_cases hv0 : visitE bs v.ds v.n = 0
         · have c5 : (visitE bs v.ds v.n != 0) = false:=by simp [hv0]
           rw [if_pos hv0] at hR
           repeat refine zq ?_
           refine zb (by kernel_rfl) fun K hK=>?_
           simp only [go_sem,c5]
           (try simp (disch:=omega) only [zI])
           repeat first | intro _ | refine ⟨by omega,?_⟩ | refine ⟨⟨by omega,by omega⟩,?_⟩
           refine hK _ ?_
           clear hK K
           refine zw (zk [1,2,4,9,12,14,61,62,63,72]) ?_
           simp only [go_sem]
           repeat refine zq ?_
           refine zc rfl (fun hc=>?_) (fun hc=>?_) <;> (try simp only [go_sem] at hc)
           refine zx ?_
           try simp only [go_sem]
           repeat refine zq ?_
           refine zb (by kernel_rfl) fun K hK=>?_
           simp only [go_sem]
           (try simp (disch:=omega) only [zI])
           repeat first | intro _ | refine ⟨by omega,?_⟩ | refine ⟨⟨by omega,by omega⟩,?_⟩
           refine hK _ ?_
           clear hK K
           try simp only [go_sem]
           refine ⟨(i + 1,leV bs le v.ds v.n,moV bs mo v.ds v.n),⟨by omega,?_,?_,hR⟩,by simp only; omega,zj [13] ?_ ?_⟩
           · have:=(leV_small (bs:=bs) (ds:=v.ds) (n:=v.n) hs1).1
             simpa [Int.mul_add] using this
           · have:=moV_small (bs:=bs) (ds:=v.ds) (n:=v.n) hs2
             simpa [Int.mul_add] using this
           · try simp only [go_sem]
           · try simp only [go_sem]
         · have c5 : (visitE bs v.ds v.n != 0) = true:=by simpa using hv0
           rw [if_neg hv0] at hR
           have hv : fitV a l = (⟨0,[]⟩,0,(i : Int),visitE bs v.ds v.n):=by rw [hV,hR]
           rw [hv]
           repeat refine zq ?_
           refine zb (by kernel_rfl) fun K hK=>?_
           simp only [go_sem,c5]
           (try simp (disch:=omega) only [zI])
           repeat first | intro _ | refine ⟨by omega,?_⟩ | refine ⟨⟨by omega,by omega⟩,?_⟩
           refine hK _ ?_
           clear hK K
           refine zw (zk [1,2,4,9,12,14,61,62,63,72]) ?_
           simp only [go_sem]
           repeat refine zq ?_
           refine zc rfl (fun hc=>?_) (fun hc=>?_) <;> (try simp only [go_sem] at hc)
           repeat refine zq ?_
           refine zb (by kernel_rfl) fun K hK=>?_
           simp only [go_sem]
           (try simp (disch:=omega) only [zI])
           repeat first | intro _ | refine ⟨by omega,?_⟩ | refine ⟨⟨by omega,by omega⟩,?_⟩
           refine hK _ ?_
           clear hK K
           refine zw (zk [4,5,6,7]) ?_
           simp only [go_sem]
           refine ze ?_
           simp only [go_sem]
       · have hil : i = l.length:=by omega
         subst hil
         rw [List.drop_length,runF] at hR
         have hv : fitV a l = (⟨a.at_,(List.range a.beds.length).map (bedAt bs le mo)⟩,3 * (l.length : Int),0,0):=by rw [hV,hR]
         rw [hv]
         have hll : l.length ≤ 1000:=by omega
         refine zf ?_
         simp only [go_sem]
         refine zw (sub_frzP 9 41 (sheetR bs le mo) (by omega) rfl rfl) ?_
         try simp only [go_sem]
         refine zw (zk [1,2,4,9]) ?_
         simp only [go_sem]
         repeat refine zq ?_
         refine zb (by kernel_rfl) fun K hK=>?_
         simp only [go_sem]
         (try simp (disch:=omega) only [zI])
         repeat first | intro _ | refine ⟨by omega,?_⟩ | refine ⟨⟨by omega,by omega⟩,?_⟩
         refine hK _ ?_
         clear hK K
         refine zw (zk [1,4,9]) ?_
         simp only [go_sem]
         repeat refine zq ?_
         refine zb (by kernel_rfl) fun K hK=>?_
         simp only [go_sem,hbl]
         (try simp (disch:=omega) only [zI])
         intros
         repeat first | intro _ | refine ⟨by omega,?_⟩ | refine ⟨⟨by omega,by omega⟩,?_⟩
         refine hK _ ?_
         clear hK K
         refine zw (zk [1,4,9,83,84,85]) ?_
         simp only [go_sem]
         repeat refine zq ?_
         refine zd ?_
         refine zw (sub_ownB 4 1 108 67 3 (by omega) (by omega) rfl rfl) ?_
         try simp only [go_sem]
         refine awp_uptoV (n:=115) a.beds.length (fun k vs=>[(1,.r (visR l)),(4,.pt 4 (vs 4) 0),(9,.r (.rp (sheetR bs le mo))),(83,.r (ints bs)),(84,.r (i64 a.beds.length)),(85,.r (i64 k))])
          (fun k vs=>[(4,.box [.r (i64 a.at_),.os 108 (vs 108) 3 0 k]),(108,.arr 67 3 (((List.range k).map (bedAt bs le mo)).map bedR))]) (fun _=>True) 0 (zj [13] ?_ ?_) (Nat.zero_le _) trivial ?_
         · try simp only [go_sem]
         · try simp only [go_sem]
           try simp
         · intro k vs hk _
           repeat refine zq ?_
           refine zb (by kernel_rfl) fun K hK=>?_
           simp only [go_sem]
           (try simp (disch:=omega) only [zI])
           repeat first | intro _ | refine ⟨by omega,?_⟩ | refine ⟨⟨by omega,by omega⟩,?_⟩
           refine hK _ ?_
           clear hK K
           refine zw (zk [1,4,9,83,84,85,86]) ?_
           simp only [go_sem]
           repeat refine zq ?_
           refine zc rfl (fun hc=>?_) (fun hc=>?_) <;> (try simp only [go_sem] at hc)
           · have hck : k < a.beds.length:=by first | exact hc | omega
             have hkb : k < bs.length:=by omega
             obtain ⟨b,hbx⟩:=opt_of_lt hkb
             obtain ⟨x,hxl⟩:=opt_of_lt (l:=le) (i:=k) (by omega)
             obtain ⟨y,hyl⟩:=opt_of_lt (l:=mo) (i:=k) (by omega)
             have hat : bedAt bs le mo k = ⟨b,x,y⟩:=by simp [bedAt,List.getD_eq_getElem?_getD,hbx,hxl,hyl]
             have hrl : ((List.range k).map (bedAt bs le mo)).length = k:=by simp
             have hk10 : (k : Int) < 10:=by omega
             have d1 : List.drop k (tR le ++ tR mo) = i64 x :: List.drop (k + 1) (tR le ++ tR mo):=drop_of_opt (by
              rw [List.getElem?_append_left (by simp; omega)]
              simp [hxl])
             have d0 : List.drop 10 (tR le ++ tR mo) = tR mo:=by
              rw [List.drop_append_of_le_length (by simp; omega),List.drop_of_length_le (by simp; omega),List.nil_append]
             have d2 : List.drop k (tR mo) = i64 y :: List.drop (k + 1) (tR mo):=drop_of_opt (by simp [hyl])
             have hL20 : (tR le ++ tR mo).length = 20:=by simp; omega
             refine zx ?_
             try simp only [go_sem]
             repeat refine zq ?_
             refine zd ?_
             repeat refine zq ?_
             refine zb (by kernel_rfl) fun K hK=>?_
             simp only [go_sem,hbx,hkb]
             (try simp (disch:=omega) only [zI])
             repeat first | intro _ | refine ⟨by omega,?_⟩ | refine ⟨⟨by omega,by omega⟩,?_⟩
             refine hK _ ?_
             clear hK K
             refine zw (zk [1,4,9,15,16,83,84,85]) ?_
             simp only [go_sem]
             repeat refine zq ?_
             refine awp_dreg3 [(4,some 4),(9,none)] [4] follows (by decide +kernel) (by kernel_rfl) (by simp only [keysOk,List.mem_cons,List.not_mem_nil,forall_eq_or_imp,Oc.keyOf,go_sem]; simp) (by intro k hk; simp only [List.mem_cons,List.not_mem_nil,or_false] at hk; first | (subst hk; exact ⟨_,rfl⟩) | (rcases hk with rfl | rfl <;> exact ⟨_,rfl⟩) | (rcases hk with rfl | rfl | rfl <;> exact ⟨_,rfl⟩)) fun K hK=>?_
             simp only [go_sem,Nat.mul_one,hrl,List.length_map,d0,d1,d2,hL20,List.headD_cons,List.length_cons]
             (try simp (disch:=omega) only [zI])
             refine ⟨by omega,by omega,⟨by omega,by omega⟩,?_⟩
             repeat first | intro _ | refine ⟨by omega,?_⟩ | refine ⟨⟨by omega,by omega⟩,?_⟩
             refine hK _ ?_
             clear hK K
             refine zw (zk [1,4,9,83,84,85]) ?_
             simp only [go_sem]
             repeat refine zq ?_
             refine zb (by kernel_rfl) fun K hK=>?_
             simp only [go_sem]
             (try simp (disch:=omega) only [zI])
             repeat first | intro _ | refine ⟨by omega,?_⟩ | refine ⟨⟨by omega,by omega⟩,?_⟩
             refine hK _ ?_
             clear hK K
             try simp only [go_sem]
             refine ⟨hck,zj [] ?_ ?_⟩
             · try simp only [go_sem]
             · try simp only [go_sem]
               simp [List.range_succ,hat,bedR]
           · have hkl : k = a.beds.length:=by omega
             subst hkl
             have etl2 : List.take a.beds.length (((List.range a.beds.length).map (bedAt bs le mo)).map bedR) = ((List.range a.beds.length).map (bedAt bs le mo)).map bedR:=List.take_of_length_le (by simp)
             refine zf ?_
             simp only [go_sem]
             refine zw (sub_frzB 4 1 108 (by omega) (by omega) rfl rfl rfl (by simp)) ?_
             simp only [go_sem,List.drop_zero,etl2,List.set_cons_succ,List.set_cons_zero]
             refine zw (zk [1,4]) ?_
             simp only [go_sem]
             repeat refine zq ?_
             refine zb (by kernel_rfl) fun K hK=>?_
             simp only [go_sem]
             (try simp (disch:=omega) only [zI])
             intros
             repeat first | intro _ | refine ⟨by omega,?_⟩ | refine ⟨⟨by omega,by omega⟩,?_⟩
             refine hK _ ?_
             clear hK K
             refine zw (zk [4,5,6,7]) ?_
             simp only [go_sem]
             refine ze ?_
             simp only [go_sem]
             done
end Go.Proofs.Ytgkejinoaommeaa

namespace Go.Proofs.Ytgkejinoaommeaa
open Go Go.Oc
set_option linter.unusedSimpArgs false
set_option linter.unusedVariables false
set_option maxRecDepth 8000
theorem bedOk_range {b : Int} (h : bedOk b = true) : 100 ≤ b ∧ b ≤ 499:=by
 simp only [bedOk,Bool.or_eq_true,Bool.and_eq_true,decide_eq_true_eq] at h
 omega
theorem seqOk_mem : ∀ {p : Option Int} {l : List Bd},seqOk p l = true → ∀ x ∈ l,0 ≤ x.b ∧ x.b ≤ 499
 | _,[],_,x,hx=>by cases hx
 | p, y :: l, h, x, hx => by
   simp only [seqOk,Bool.and_eq_true,Bool.or_eq_true,decide_eq_true_eq] at h
   rcases List.mem_cons.1 hx with rfl | hx
   · rcases h.1.1 with h0 | h0
     · omega
     · have:=bedOk_range h0; omega
   · exact seqOk_mem h.2 x hx
def scoresOf (l : List Bd) : List Int:=l.map fun x=>scoreOf x.b
def spanOf (d : Int) (a : Am) : Int × Int:=(meanLo d a.beds (scoresOf a.beds),meanHi d a.beds (scoresOf a.beds))
abbrev spansR (l : List (Int × Int)) : RV:=.sl 2 (l.map fun x=>[i64 x.1,i64 x.2])
def spansV (d : Int) (l : List Am) : List (Int × Int):=if checkV d l = 0 then l.map (spanOf d) else []
theorem Score_ok (d : Int) (l : List Am) (hw : WfL d l) : ACalls Try.prog 21 [lawV d l] (.tu [spansR (spansV d l),i64 (checkV d l)]):=by
 refine acalls_stR (rs:=[spansR (spansV d l),i64 (checkV d l)]) [.cell 2 38,.tmp 3] Try.func21 rfl (by kernel_rfl) Try.ntmps21 rfl (by simp) rfl fun C hC vs=>?_
 repeat refine zq ?_
 refine zb (by kernel_rfl) fun K hK=>?_
 simp only [go_sem]
 (try simp (disch:=omega) only [zI])
 repeat first | intro _ | refine ⟨by omega,?_⟩ | refine ⟨⟨by omega,by omega⟩,?_⟩
 refine hK _ ?_
 clear hK K
 repeat refine zq ?_
 refine zb (by kernel_rfl) fun K hK=>?_
 simp only [go_sem]
 (try simp (disch:=omega) only [zI])
 refine zh (check_ok d l hw) rfl (by simp only [go_sem,i64,ints]) (by simp only [go_sem,i64,ints]) (by first | exact .inl rfl | exact .inr rfl) ?_
 (try simp only [go_sem])
 (try simp (disch:=omega) only [zI])
 repeat first | intro _ | refine ⟨by omega,?_⟩ | refine ⟨⟨by omega,by omega⟩,?_⟩
 refine hK _ ?_
 clear hK K
 repeat refine zq ?_
 refine zb (by kernel_rfl) fun K hK=>?_
 simp only [go_sem]
 (try simp (disch:=omega) only [zI])
 cases hE : checkV d l != 0
 case true =>
  repeat first | intro _ | refine ⟨by omega,?_⟩ | refine ⟨⟨by omega,by omega⟩,?_⟩
  refine hK _ ?_
  clear hK K
  have hne : ¬ checkV d l = 0:=by simpa using hE
  repeat refine zq ?_
  refine zc rfl (fun hc=>?_) (fun hc=>?_) <;> (try simp only [go_sem] at hc)
  repeat refine zq ?_
  refine zb (by kernel_rfl) fun K hK=>?_
  simp only [go_sem]
  (try simp (disch:=omega) only [zI])
  repeat first | intro _ | refine ⟨by omega,?_⟩ | refine ⟨⟨by omega,by omega⟩,?_⟩
  refine hK _ ?_
  clear hK K
  refine ze ?_
  simp only [go_sem]
  simp [hne,spansV]
 have h0 : checkV d l = 0:=by simpa using hE
 obtain ⟨c1,c2,c3,c4,c5⟩:=checkV_zero h0
 repeat first | intro _ | refine ⟨by omega,?_⟩ | refine ⟨⟨by omega,by omega⟩,?_⟩
 refine hK _ ?_
 clear hK K
 repeat refine zq ?_
 refine zc rfl (fun hc=>?_) (fun hc=>?_) <;> (try simp only [go_sem] at hc)
 refine zx ?_
 try simp only [go_sem]
 repeat refine zq ?_
 refine zb (by kernel_rfl) fun K hK=>?_
 simp only [go_sem]
 (try simp (disch:=omega) only [zI])
 refine zh (all_ok d l) rfl (by simp only [go_sem,i64,ints]) (by simp only [go_sem,i64,ints]) (by first | exact .inl rfl | exact .inr rfl) ?_
 (try simp only [go_sem])
 (try simp (disch:=omega) only [zI])
 repeat first | intro _ | refine ⟨by omega,?_⟩ | refine ⟨⟨by omega,by omega⟩,?_⟩
 refine hK _ ?_
 clear hK K
 refine zw (zk [2,16]) ?_
 simp only [go_sem]
 repeat refine zq ?_
 refine zd ?_
 refine zw (sub_ownB 2 0 39 46 2 (by omega) (by omega) rfl rfl) ?_
 try simp only [go_sem]
 refine awp_rangeF hC (enumA d l) (all1_ok d l) [2,16] (by decide) (fun vs=>[(2,.pt 2 (vs 2) 0),(16,.r (.fn 73 [.rp [i64 d,aimsR l]]))])
  (fun i vs=>[(2,.box [.os 39 (vs 39) 2 0 i]),(39,.arr 46 2 (((l.map (spanOf d)).take i).map fun x=>[i64 x.1,i64 x.2]))])
  (fun i=>True) (zj [1] ?_ ?_) trivial (fun _=>rfl) (fun _=>rfl) (fun _ _=>rfl) (by simp) (fun e he=>enumA_len he) ?_ ?_
 · try simp only [go_sem]
 · try simp only [go_sem]
 · intro i e vs us C he _
   obtain ⟨x,hx,rfl⟩:=enumA_get he
   obtain ⟨_,_,k3,k4,k5,_⟩:=aimOk_facts (c5 x (mem_of_opt hx))
   have hsq:=seqOk_mem k3
   have hbl:=c2 x (mem_of_opt hx)
   have hil : i < l.length:=(List.getElem?_eq_some_iff.1 hx).1
   have hlt : ((l.map (spanOf d)).take i).length = i:=by rw [List.length_take]; simp; omega
   have htx : (l.map (spanOf d)).take (i + 1) = (l.map (spanOf d)).take i ++ [spanOf d x]:=take_of_opt (by simp [hx])
   have hvals : Vals (scoresOf x.beds):=fun v hv=>by
    obtain ⟨y,hy,rfl⟩:=List.mem_map.1 hv
    have:=score_le (hsq y hy).1 (hsq y hy).2
    omega
   repeat refine zq ?_
   refine zb (by kernel_rfl) fun K hK=>?_
   simp only [go_sem]
   (try simp (disch:=omega) only [zI])
   repeat first | intro _ | refine ⟨by omega,?_⟩ | refine ⟨⟨by omega,by omega⟩,?_⟩
   refine hK _ ?_
   clear hK K
   refine ⟨rfl,fun C'=>?_⟩
   refine zw (zk [2,6,16]) ?_
   simp only [go_sem]
   repeat refine zq ?_
   refine zd ?_
   repeat refine zq ?_
   refine zb (by kernel_rfl) fun K hK=>?_
   simp only [go_sem]
   (try simp (disch:=omega) only [zI])
   repeat first | intro _ | refine ⟨by omega,?_⟩ | refine ⟨⟨by omega,by omega⟩,?_⟩
   refine hK _ ?_
   clear hK K
   repeat refine zq ?_
   refine zb (by kernel_rfl) fun K hK=>?_
   simp only [go_sem]
   (try simp (disch:=omega) only [zI])
   intro _
   repeat first | intro _ | refine ⟨by omega,?_⟩ | refine ⟨⟨by omega,by omega⟩,?_⟩
   refine hK _ ?_
   clear hK K
   refine zw (zk [2,6,7,16,21,22,23]) ?_
   simp only [go_sem]
   refine zw (sub_own 7 32 3 1 (by omega) rfl) ?_
   try simp only [go_sem]
   repeat refine zq ?_
   refine zd ?_
   refine awp_uptoV (n:=41) x.beds.length (fun k vs=>[(2,.pt 2 (vs 2) 0),(6,.pt 6 (vs 6) 0),(7,.os 32 (vs 32) 1 0 k),(16,.r (.fn 73 [.rp [i64 d,aimsR l]])),(21,.r (bedsR x.beds)),(22,.r (i64 x.beds.length)),(23,.r (i64 k))])
    (fun k vs=>[(0,.sus [.pt 2 (vs 2) 0,.r (.fn 73 [.rp [i64 d,aimsR l]])] us),(2,.box [.os 39 (vs 39) 2 0 i]),(6,.box [.r (i64 x.at_),.r (bedsR x.beds),.r (i64 d)]),(32,.arr 3 1 (((scoresOf x.beds).take k).map fun x=>[i64 x])),(39,.arr 46 2 (((l.map (spanOf d)).take i).map fun x=>[i64 x.1,i64 x.2]))])
    (fun _=>True) 0 (zj [] ?_ ?_) (Nat.zero_le _) trivial ?_
   · try simp only [go_sem]
   · try simp only [go_sem]
   · intro k vs hk _
     have hlk : ((scoresOf x.beds).take k).length = k:=by rw [List.length_take]; simp [scoresOf]; omega
     repeat refine zq ?_
     refine zb (by kernel_rfl) fun K hK=>?_
     simp only [go_sem]
     (try simp (disch:=omega) only [zI])
     repeat first | intro _ | refine ⟨by omega,?_⟩ | refine ⟨⟨by omega,by omega⟩,?_⟩
     refine hK _ ?_
     clear hK K
     repeat refine zq ?_
     refine zc rfl (fun hc=>?_) (fun hc=>?_) <;> (try simp only [go_sem] at hc)
     · have hci:=hc
       obtain ⟨y,hy⟩:=opt_of_lt hc
       have hsy:=hsq y (mem_of_opt hy)
       have htk : (scoresOf x.beds).take (k + 1) = (scoresOf x.beds).take k ++ [scoreOf y.b]:=take_of_opt (by simp [scoresOf,hy])
       refine zx ?_
       repeat refine zq ?_
       refine zd ?_
       repeat refine zq ?_
       refine zb (by kernel_rfl) fun K hK=>?_
       simp only [go_sem,hy,hc,bedR]
       (try simp (disch:=omega) only [zI])
       repeat first | intro _ | refine ⟨by omega,?_⟩ | refine ⟨⟨by omega,by omega⟩,?_⟩
       refine hK _ ?_
       clear hK K
       refine zw (zk [2,6,7,9,16,21,22,23]) ?_
       simp only [go_sem]
       repeat refine zq ?_
       refine zb (by kernel_rfl) fun K hK=>?_
       simp only [go_sem,hlk]
       (try simp (disch:=omega) only [zI])
       refine zh (score_ok y.b hsy.1 hsy.2) rfl (by simp only [go_sem,i64,ints,hlk]) (by simp only [go_sem,i64,ints,hlk]) (by first | exact .inl rfl | exact .inr rfl) ?_
       (try simp only [go_sem,hlk])
       (try simp (disch:=omega) only [zI])
       repeat first | intro _ | refine ⟨by omega,?_⟩ | refine ⟨⟨by omega,by omega⟩,?_⟩
       refine hK _ ?_
       clear hK K
       refine zw (zk [2,6,7,16,21,22,23]) ?_
       simp only [go_sem]
       repeat refine zq ?_
       refine zb (by kernel_rfl) fun K hK=>?_
       simp only [go_sem]
       (try simp (disch:=omega) only [zI])
       repeat first | intro _ | refine ⟨by omega,?_⟩ | refine ⟨⟨by omega,by omega⟩,?_⟩
       refine hK _ ?_
       clear hK K
       try simp only [go_sem]
       refine ⟨hci,zj [9] ?_ ?_⟩
       · try simp only [go_sem]
       · try simp only [go_sem]
         rw [htk]
         simp
     · refine zf ?_
       simp only [go_sem]
       have hkk : k = x.beds.length:=by omega
       subst hkk
       have e1 : (scoresOf x.beds).take x.beds.length = scoresOf x.beds:=List.take_of_length_le (by simp [scoresOf])
       rw [e1]
       have hvl : (scoresOf x.beds).length = x.beds.length:=by simp [scoresOf]
       refine zw (sub_frz (ty:=3) (sz:=1) (off:=0) (m:=x.beds.length) (es:=(scoresOf x.beds).map fun x=>[i64 x]) 7 32 (by omega) (by try simp only [go_sem]) (by try simp only [go_sem]) (by simp [hvl])) ?_
       have e2 : (((scoresOf x.beds).map fun x=>[i64 x]).drop 0).take x.beds.length = (scoresOf x.beds).map fun x=>[i64 x]:=by
        rw [List.drop_zero,List.take_of_length_le (by simp [hvl])]
       rw [e2]
       try simp only [go_sem]
       repeat refine zq ?_
       refine awp_dreg3 [(2,some 2),(6,some 6),(7,none)] [2,6] follows (by decide +kernel) (by kernel_rfl) (by simp only [keysOk,List.mem_cons,List.not_mem_nil,forall_eq_or_imp,Oc.keyOf,go_sem]; simp) (by intro k hk; simp only [List.mem_cons,List.not_mem_nil,or_false] at hk; first | (subst hk; exact ⟨_,rfl⟩) | (rcases hk with rfl | rfl <;> exact ⟨_,rfl⟩) | (rcases hk with rfl | rfl | rfl <;> exact ⟨_,rfl⟩)) fun K hK=>?_
       simp only [go_sem,hlt]
       (try simp (disch:=omega) only [zI])
       refine zh (mean_ok x.at_ x.beds d (scoresOf x.beds) hvl (by omega) k4 (by omega) k5 hvals) rfl (by simp only [go_sem,i64,ints,hlt]) (by simp only [go_sem,i64,ints,hlt]) (by first | exact .inl rfl | exact .inr rfl) ?_
       (try simp only [go_sem,hlt])
       (try simp (disch:=omega) only [zI])
       repeat first | intro _ | refine ⟨by omega,?_⟩ | refine ⟨⟨by omega,by omega⟩,?_⟩
       refine hK _ ?_
       clear hK K
       try simp only [go_sem]
       refine zj (F:=fun _=>[]) [6] (by try simp only [go_sem]) ?_
       try simp only [go_sem]
       rw [htx]
       simp [spanOf]
 · intro vs us _
   try simp only [go_sem]
   refine zw (sub_wake rfl) ?_
   repeat refine zq ?_
   refine zb (by kernel_rfl) fun K hK=>?_
   simp only [go_sem]
   (try simp (disch:=omega) only [zI])
   repeat first | intro _ | refine ⟨by omega,?_⟩ | refine ⟨⟨by omega,by omega⟩,?_⟩
   refine hK _ ?_
   clear hK K
   refine ze ?_
   simp only [go_sem]
   have hel : (enumA d l).length = l.length:=by simp [enumA]
   rw [hel,h0]
   have e1 : (l.map (spanOf d)).take l.length = l.map (spanOf d):=List.take_of_length_le (by simp)
   rw [e1]
   refine ⟨⟨by simp,?_⟩,rfl⟩
   rw [List.take_of_length_le (by simp),spansV,if_pos h0]
end Go.Proofs.Ytgkejinoaommeaa

namespace Go.Proofs.Ytgkejinoaommeaa
open Go Go.Oc
set_option linter.unusedSimpArgs false
set_option linter.unusedVariables false
set_option maxRecDepth 8000
abbrev spanR (x : Int × Int) : List RV:=[i64 x.1,i64 x.2]
def isP (x : Int × Int) (i : Nat) (t : (Int × Int) × Nat) : Bool:=decide (t.2 = i) || decide (t.1.2 ≤ x.1)
def mayP (x : Int × Int) (i : Nat) (t : (Int × Int) × Nat) : Bool:=decide (t.2 = i) || decide (t.1.1 ≤ x.2)
def bestL (q : Int × Int → Nat → (Int × Int) × Nat → Bool) (s : List (Int × Int)) : List Int:=(s.zipIdx.filter fun x=>s.zipIdx.all (q x.1 x.2)).map fun x=>(x.2 : Int)
def bestK (q : Int × Int → Nat → (Int × Int) × Nat → Bool) (s : List (Int × Int)) (i : Nat) : List Int:=((s.zipIdx.take i).filter fun x=>s.zipIdx.all (q x.1 x.2)).map fun x=>(x.2 : Int)
theorem bestK_step {q : Int × Int → Nat → (Int × Int) × Nat → Bool} {s : List (Int × Int)} {i : Nat} {x : Int × Int} (hx : s[i]? = some x) : bestK q s (i + 1) = bestK q s i ++ (if s.zipIdx.all (q x i) then [(i : Int)] else []):=by
 have : s.zipIdx[i]? = some (x,i):=by simp [hx]
 unfold bestK
 rw [take_of_opt this,List.filter_append,List.map_append]
 congr 1
 cases h : s.zipIdx.all (q x i) <;> simp [List.filter,h]
theorem all_step {α : Type} {p : α → Bool} {l : List α} {k : Nat} {y : α} (hy : l[k]? = some y) : (l.take (k + 1)).all p = ((l.take k).all p && p y):=by rw [take_of_opt hy]; simp
theorem bestK_len (q : Int × Int → Nat → (Int × Int) × Nat → Bool) (s : List (Int × Int)) (i : Nat) : (bestK q s i).length ≤ i:=by
 unfold bestK
 rw [List.length_map]
 refine Nat.le_trans (List.length_filter_le _ _) ?_
 rw [List.length_take]; omega
theorem Best_ok (d : Int) (l : List Am) (hw : WfL d l) : ACalls Try.prog 22 [lawV d l] (.tu [ints (bestL isP (spansV d l)),ints (bestL mayP (spansV d l)),i64 (checkV d l)]):=by
 have hsc:=Score_ok d l hw
 have hsl : (spansV d l).length ≤ 20:=by
  unfold spansV
  split
  · rename_i h; have:=(checkV_zero h).1; simpa using this
  · simp
 generalize spansV d l = s at hsc hsl
 refine acalls_st (rs:=[ints (bestL isP s),ints (bestL mayP s),i64 (checkV d l)]) [.tmp 2,.tmp 3,.tmp 4] Try.func22 rfl (by kernel_rfl) Try.ntmps22 rfl (by simp) rfl fun C vs=>?_
 repeat refine zq ?_
 refine zb (by kernel_rfl) fun K hK=>?_
 simp only [go_sem]
 (try simp (disch:=omega) only [zI])
 repeat first | intro _ | refine ⟨by omega,?_⟩ | refine ⟨⟨by omega,by omega⟩,?_⟩
 refine hK _ ?_
 clear hK K
 repeat refine zq ?_
 refine zb (by kernel_rfl) fun K hK=>?_
 simp only [go_sem]
 (try simp (disch:=omega) only [zI])
 refine zh (hsc) rfl (by simp only [go_sem,i64,ints]) (by simp only [go_sem,i64,ints]) (by first | exact .inl rfl | exact .inr rfl) ?_
 (try simp only [go_sem])
 (try simp (disch:=omega) only [zI])
 repeat first | intro _ | refine ⟨by omega,?_⟩ | refine ⟨⟨by omega,by omega⟩,?_⟩
 refine hK _ ?_
 clear hK K
 refine zw (zk [2,3,4,5]) ?_
 simp only [go_sem]
 repeat refine zq ?_
 refine zb (by kernel_rfl) fun K hK=>?_
 simp only [go_sem]
 (try simp (disch:=omega) only [zI])
 intro _
 repeat first | intro _ | refine ⟨by omega,?_⟩ | refine ⟨⟨by omega,by omega⟩,?_⟩
 refine hK _ ?_
 clear hK K
 refine zw (sub_own 2 62 3 1 (by omega) rfl) ?_
 try simp only [go_sem]
 refine zw (sub_own 3 67 3 1 (by omega) rfl) ?_
 refine zw (zk [2,3,4,5,17,18,19]) ?_
 simp only [go_sem]
 repeat refine zq ?_
 refine zd ?_
 refine awp_uptoV (n:=72) s.length (fun i vs=>[(2,.os 62 (vs 62) 1 0 (bestK isP s i).length),(3,.os 67 (vs 67) 1 0 (bestK mayP s i).length),(4,.r (i64 (checkV d l))),(5,.r (spansR s)),(17,.r (spansR s)),(18,.r (i64 s.length)),(19,.r (i64 i))])
  (fun i vs=>[(62,.arr 3 1 ((bestK isP s i).map fun x=>[i64 x])),(67,.arr 3 1 ((bestK mayP s i).map fun x=>[i64 x]))]) (fun _=>True) 0 (zj [1] ?_ ?_) (Nat.zero_le _) trivial ?_
 · try simp only [go_sem]
   simp [bestK]
 · try simp only [go_sem]
   simp [bestK]
 · intro i vs hi _
   repeat refine zq ?_
   refine zb (by kernel_rfl) fun K hK=>?_
   simp only [go_sem]
   (try simp (disch:=omega) only [zI])
   repeat first | intro _ | refine ⟨by omega,?_⟩ | refine ⟨⟨by omega,by omega⟩,?_⟩
   refine hK _ ?_
   clear hK K
   repeat refine zq ?_
   refine zc rfl (fun hc=>?_) (fun hc=>?_) <;> (try simp only [go_sem] at hc)
   · have hci:=hc
     obtain ⟨x,hx⟩:=opt_of_lt hci
     have st1:=bestK_step (q:=isP) hx
     have st2:=bestK_step (q:=mayP) hx
     have ln1:=bestK_len isP s i
     have ln2:=bestK_len mayP s i
     refine zx ?_
     repeat refine zq ?_
     refine zd ?_
     repeat refine zq ?_
     refine zb (by kernel_rfl) fun K hK=>?_
     simp only [go_sem,hx,hci]
     (try simp (disch:=omega) only [zI])
     repeat first | intro _ | refine ⟨by omega,?_⟩ | refine ⟨⟨by omega,by omega⟩,?_⟩
     refine hK _ ?_
     clear hK K
     repeat refine zq ?_
     refine zb (by kernel_rfl) fun K hK=>?_
     simp only [go_sem]
     (try simp (disch:=omega) only [zI])
     repeat first | intro _ | refine ⟨by omega,?_⟩ | refine ⟨⟨by omega,by omega⟩,?_⟩
     refine hK _ ?_
     clear hK K
     repeat refine zq ?_
     refine zb (by kernel_rfl) fun K hK=>?_
     simp only [go_sem]
     (try simp (disch:=omega) only [zI])
     intro _
     repeat first | intro _ | refine ⟨by omega,?_⟩ | refine ⟨⟨by omega,by omega⟩,?_⟩
     refine hK _ ?_
     clear hK K
     refine zw (zk [2,3,4,5,6,7,8,9,17,18,19,24,25,26]) ?_
     simp only [go_sem]
     repeat refine zq ?_
     refine zd ?_
     refine awp_uptoV (n:=72) s.length (fun k vs=>[(2,.os 62 (vs 62) 1 0 (bestK isP s i).length),(3,.os 67 (vs 67) 1 0 (bestK mayP s i).length),(4,.r (i64 (checkV d l))),(5,.r (spansR s)),(6,.r (i64 i)),(7,.pt 7 (vs 7) 0),(8,.r (.bo ((s.zipIdx.take k).all (isP x i)))),(9,.r (.bo ((s.zipIdx.take k).all (mayP x i)))),(17,.r (spansR s)),(18,.r (i64 s.length)),(19,.r (i64 i)),(24,.r (spansR s)),(25,.r (i64 s.length)),(26,.r (i64 k))])
      (fun k vs=>[(7,.box [.r (i64 x.1),.r (i64 x.2)]),(62,.arr 3 1 ((bestK isP s i).map fun x=>[i64 x])),(67,.arr 3 1 ((bestK mayP s i).map fun x=>[i64 x]))]) (fun _=>True) 0 (zj [] ?_ ?_) (Nat.zero_le _) trivial ?_
     · try simp only [go_sem]
       simp
     · try simp only [go_sem]
     · intro k vs hk _
       repeat refine zq ?_
       refine zb (by kernel_rfl) fun K hK=>?_
       simp only [go_sem]
       (try simp (disch:=omega) only [zI])
       repeat first | intro _ | refine ⟨by omega,?_⟩ | refine ⟨⟨by omega,by omega⟩,?_⟩
       refine hK _ ?_
       clear hK K
       repeat refine zq ?_
       refine zc rfl (fun hc=>?_) (fun hc=>?_) <;> (try simp only [go_sem] at hc)
       · have hck:=hc
         obtain ⟨y,hy⟩:=opt_of_lt hck
         have hyz : s.zipIdx[k]? = some (y,k):=by simp [hy]
         have a1:=all_step (p:=isP x i) hyz
         have a2:=all_step (p:=mayP x i) hyz
         generalize (s.zipIdx.take k).all (isP x i) = A at a1 ⊢
         generalize (s.zipIdx.take k).all (mayP x i) = B at a2 ⊢
         refine zx ?_
         repeat refine zq ?_
         refine zd ?_
         repeat refine zq ?_
         refine zb (by kernel_rfl) fun K hK=>?_
         simp only [go_sem,hy,hck]
         (try simp (disch:=omega) only [zI])
         repeat first | intro _ | refine ⟨by omega,?_⟩ | refine ⟨⟨by omega,by omega⟩,?_⟩
         refine hK _ ?_
         clear hK K
         refine zw (zk [2,3,4,5,6,7,8,9,10,11,17,18,19,24,25,26]) ?_
         simp only [go_sem]
         repeat refine zq ?_
         refine awp_dreg2 [(7,some 7),(11,some 11)] follows (by decide +kernel) (by kernel_rfl) (by simp only [keysOk,List.mem_cons,List.not_mem_nil,forall_eq_or_imp,Oc.keyOf,go_sem]; simp) fun K hK=>?_
         simp only [go_sem]
         (try simp (disch:=omega) only [zI])
         repeat' first | intro _ | refine And.intro ?_ ?_
         all_goals first | omega | skip
         all_goals (refine hK _ ?_; clear hK K)
         all_goals (refine zw (zk [2,3,4,5,6,7,8,9,17,18,19,24,25,26]) ?_; simp only [go_sem])
         all_goals (repeat refine zq ?_)
         all_goals (refine zb (by kernel_rfl) fun K hK=>?_; simp only [go_sem]; try simp (disch:=omega) only [zI])
         all_goals (refine hK _ ?_; clear hK K)
         all_goals (simp only [go_sem])
         all_goals (refine ⟨hck,zj [11] ?_ ?_⟩)
         all_goals (simp only [go_sem,a1,a2,isP,mayP])
         all_goals (by_cases hki : k = i <;> first | omega | simp_all)
       · refine zf ?_
         simp only [go_sem]
         have hks : k = s.length:=by omega
         have e1 : s.zipIdx.take k = s.zipIdx:=List.take_of_length_le (by simp; omega)
         rw [e1]
         repeat refine zq ?_
         refine zb (by kernel_rfl) fun K hK=>?_
         simp only [go_sem]
         (try simp (disch:=omega) only [zI])
         repeat first | intro _ | refine ⟨by omega,?_⟩ | refine ⟨⟨by omega,by omega⟩,?_⟩
         refine hK _ ?_
         clear hK K
         cases hA : s.zipIdx.all (isP x i)
         · rw [hA] at st1
           repeat refine zq ?_
           refine zc rfl (fun hc=>?_) (fun hc=>?_) <;> (try simp only [go_sem] at hc)
           refine zx ?_
           try simp only [go_sem]
           repeat refine zq ?_
           refine zb (by kernel_rfl) fun K hK=>?_
           simp only [go_sem]
           (try simp (disch:=omega) only [zI])
           repeat first | intro _ | refine ⟨by omega,?_⟩ | refine ⟨⟨by omega,by omega⟩,?_⟩
           refine hK _ ?_
           clear hK K
           cases hM : s.zipIdx.all (mayP x i)
           · rw [hM] at st2
             repeat refine zq ?_
             refine zc rfl (fun hc=>?_) (fun hc=>?_) <;> (try simp only [go_sem] at hc)
             refine zx ?_
             try simp only [go_sem]
             repeat refine zq ?_
             refine zb (by kernel_rfl) fun K hK=>?_
             simp only [go_sem]
             (try simp (disch:=omega) only [zI])
             repeat first | intro _ | refine ⟨by omega,?_⟩ | refine ⟨⟨by omega,by omega⟩,?_⟩
             refine hK _ ?_
             clear hK K
             try simp only [go_sem]
             refine ⟨hci,zj [7] ?_ ?_⟩
             · simp only [go_sem,st1,st2]
               try simp
             · simp only [go_sem,st1,st2]
               try simp
           · rw [hM] at st2
             repeat refine zq ?_
             refine zc rfl (fun hc=>?_) (fun hc=>?_) <;> (try simp only [go_sem] at hc)
             repeat refine zq ?_
             refine zb (by kernel_rfl) fun K hK=>?_
             simp only [go_sem]
             (try simp (disch:=omega) only [zI])
             repeat first | intro _ | refine ⟨by omega,?_⟩ | refine ⟨⟨by omega,by omega⟩,?_⟩
             refine hK _ ?_
             clear hK K
             repeat refine zq ?_
             refine zb (by kernel_rfl) fun K hK=>?_
             simp only [go_sem]
             (try simp (disch:=omega) only [zI])
             repeat first | intro _ | refine ⟨by omega,?_⟩ | refine ⟨⟨by omega,by omega⟩,?_⟩
             refine hK _ ?_
             clear hK K
             try simp only [go_sem]
             refine ⟨hci,zj [7] ?_ ?_⟩
             · simp only [go_sem,st1,st2]
               try simp
             · simp only [go_sem,st1,st2]
               try simp
         · rw [hA] at st1
           repeat refine zq ?_
           refine zc rfl (fun hc=>?_) (fun hc=>?_) <;> (try simp only [go_sem] at hc)
           repeat refine zq ?_
           refine zb (by kernel_rfl) fun K hK=>?_
           simp only [go_sem]
           (try simp (disch:=omega) only [zI])
           repeat first | intro _ | refine ⟨by omega,?_⟩ | refine ⟨⟨by omega,by omega⟩,?_⟩
           refine hK _ ?_
           clear hK K
           repeat refine zq ?_
           refine zb (by kernel_rfl) fun K hK=>?_
           simp only [go_sem]
           (try simp (disch:=omega) only [zI])
           repeat first | intro _ | refine ⟨by omega,?_⟩ | refine ⟨⟨by omega,by omega⟩,?_⟩
           refine hK _ ?_
           clear hK K
           cases hM : s.zipIdx.all (mayP x i)
           · rw [hM] at st2
             repeat refine zq ?_
             refine zc rfl (fun hc=>?_) (fun hc=>?_) <;> (try simp only [go_sem] at hc)
             refine zx ?_
             try simp only [go_sem]
             repeat refine zq ?_
             refine zb (by kernel_rfl) fun K hK=>?_
             simp only [go_sem]
             (try simp (disch:=omega) only [zI])
             repeat first | intro _ | refine ⟨by omega,?_⟩ | refine ⟨⟨by omega,by omega⟩,?_⟩
             refine hK _ ?_
             clear hK K
             try simp only [go_sem]
             refine ⟨hci,zj [7] ?_ ?_⟩
             · simp only [go_sem,st1,st2]
               try simp
             · simp only [go_sem,st1,st2]
               try simp
           · rw [hM] at st2
             repeat refine zq ?_
             refine zc rfl (fun hc=>?_) (fun hc=>?_) <;> (try simp only [go_sem] at hc)
             repeat refine zq ?_
             refine zb (by kernel_rfl) fun K hK=>?_
             simp only [go_sem]
             (try simp (disch:=omega) only [zI])
             repeat first | intro _ | refine ⟨by omega,?_⟩ | refine ⟨⟨by omega,by omega⟩,?_⟩
             refine hK _ ?_
             clear hK K
             repeat refine zq ?_
             refine zb (by kernel_rfl) fun K hK=>?_
             simp only [go_sem]
             (try simp (disch:=omega) only [zI])
             repeat first | intro _ | refine ⟨by omega,?_⟩ | refine ⟨⟨by omega,by omega⟩,?_⟩
             refine hK _ ?_
             clear hK K
             try simp only [go_sem]
             refine ⟨hci,zj [7] ?_ ?_⟩
             · simp only [go_sem,st1,st2]
               try simp
             · simp only [go_sem,st1,st2]
               try simp
   · refine zf ?_
     simp only [go_sem]
     have his : i = s.length:=by omega
     repeat refine zq ?_
     refine zb (by kernel_rfl) fun K hK=>?_
     simp only [go_sem]
     (try simp (disch:=omega) only [zI])
     repeat first | intro _ | refine ⟨by omega,?_⟩ | refine ⟨⟨by omega,by omega⟩,?_⟩
     refine hK _ ?_
     clear hK K
     refine ze ?_
     simp only [go_sem]
     have e1 : ∀ q,bestK q s i = bestL q s:=fun q=>by
      unfold bestK bestL
      rw [List.take_of_length_le (by simp; omega)]
     simp only [e1]
     exact ⟨trivial,trivial⟩
end Go.Proofs.Ytgkejinoaommeaa

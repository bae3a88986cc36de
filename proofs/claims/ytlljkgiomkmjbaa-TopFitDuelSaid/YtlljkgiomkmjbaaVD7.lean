/- Part 7 of the texts of this claim. -/
import Derived.Test.YtlljkgiomkmjbaaVD6
namespace Go.Proofs.Ytlljkgiomkmjbaa.Du.Th
open Go Go.Oc
set_option linter.unusedSimpArgs false
set_option linter.unusedVariables false
set_option maxRecDepth 8000
set_option maxHeartbeats 1000000
structure Vi where
 ds : List Int
 n : Int
abbrev viC (v : Vi) : List RV:=[ints v.ds,i64 v.n]
abbrev visR (l : List Vi) : RV:=.sl 2 (l.map viC)
def runF (bs : List Int) : List Int → List Int → Nat → List Vi → List Int × List Int × Option (Nat × Int)
 | le,mo,_,[]=>(le,mo,none)
 | le,mo,i,v :: l=>if visitE bs v.ds v.n = 0 then runF bs (leV bs le v.ds v.n) (moV bs mo v.ds v.n) (i + 1) l else (le,mo,some (i,visitE bs v.ds v.n))
def bedAt (bs le mo : List Int) (i : Nat) : Bd:=⟨bs.getD i 0,le.getD i 0,mo.getD i 0⟩
def fitV (a : Am) (l : List Vi) : Am × Int × Int × Int :=
 if 10 < a.beds.length then (⟨0,[]⟩,0,0,5) else if (bedOk a.at_ && !a.beds.isEmpty && seqOk none a.beds) = false then (⟨0,[]⟩,0,0,2) else if l = [] then (⟨0,[]⟩,0,0,7) else if 1000 < l.length then (⟨0,[]⟩,0,0,5) else
 match runF (a.beds.map (·.b)) zeroT zeroT 0 l with
 | (_,_,some (i,e))=>(⟨0,[]⟩,0,i,e)
 | (le,mo,none)=>(⟨a.at_,(List.range a.beds.length).map (bedAt (a.beds.map (·.b)) le mo)⟩,3 * l.length,0,0)
theorem SmallT.mono {b c : Int} {t : List Int} (h : SmallT b t) (hc : b ≤ c) : SmallT c t:=⟨h.1,fun x hx=>by have:=h.2 x hx; omega⟩
theorem truthsV_small {bs ds : List Int} {n : Int} (h : visitE bs ds n = 0) : ∀ t ∈ truthsV bs ds n,SmallT 3 t:=by
 unfold truthsV
 split
 · exact threeT_small
 · rename_i hds
   refine truthsK_small ?_
   unfold visitE at h
   split at h
   · cases h
   · rename_i h1
     have : ¬ (ds.length ≠ 3):=fun h2=>h1 ⟨hds,.inl h2⟩
     omega
theorem addT_small {b c : Int} {s t : List Int} (h1 : SmallT b s) (h2 : SmallT c t) : SmallT (b + c) (addT s t):=by
 refine ⟨by unfold addT; rw [List.length_zipWith,h1.1,h2.1]; rfl,fun x hx=>?_⟩
 obtain ⟨y,hy,z,hz,rfl⟩:=mem_zipW hx
 have:=h1.2 y hy
 have:=h2.2 z hz
 omega
theorem leV_small {b : Int} {bs le ds : List Int} {n : Int} (h : SmallT b le) : SmallT (b + 3) (leV bs le ds n) ∧ True:=by
 refine ⟨?_,trivial⟩
 unfold leV
 split
 · rename_i h0
   exact addT_small h (accL_small (by omega) _ (truthsV_small h0)).1
 · exact h.mono (by omega)
theorem moV_small {b : Int} {bs mo ds : List Int} {n : Int} (h : SmallT b mo) : SmallT (b + 3) (moV bs mo ds n):=by
 unfold moV
 split
 · rename_i h0
   exact addT_small h (accL_small (by omega) _ (truthsV_small h0)).2
 · exact h.mono (by omega)
theorem bedOk_le {b : Int} (h : bedOk b = true) : 0 ≤ b ∧ b ≤ 499:=by
 simp only [bedOk,Bool.or_eq_true,Bool.and_eq_true,decide_eq_true_eq] at h
 omega
theorem seqOk_le : ∀ {l : List Bd} {p : Option Int},seqOk p l = true → ∀ x ∈ l,0 ≤ x.b ∧ x.b ≤ 499
 | [],_,_=>by simp
 | y :: l, p, h => by
   simp only [seqOk,Bool.and_eq_true,Bool.or_eq_true,decide_eq_true_eq] at h
   intro x hx
   rcases List.mem_cons.1 hx with rfl | hx
   · rcases h.1.1 with h1 | h1
     · omega
     · exact bedOk_le h1
   · exact seqOk_le h.2 x hx
theorem fit_ok (a : Am) (l : List Vi) (hw : WfA a) : ACalls Try.prog 74 [aimV a,visR l] (.tu [aimV (fitV a l).1,i64 (fitV a l).2.1,i64 (fitV a l).2.2.1,i64 (fitV a l).2.2.2]):=by
 refine acalls_st (rs:=[aimV (fitV a l).1,i64 (fitV a l).2.1,i64 (fitV a l).2.2.1,i64 (fitV a l).2.2.2]) [.cell 4 81,.tmp 5,.tmp 6,.tmp 7] Try.func74 rfl (by kernel_rfl) Try.ntmps74 rfl (by simp) rfl fun C vs=>?_
 repeat refine zq ?_
 refine zb fun K hK=>?_;simp only [go_sem];(try simp (disch:=omega) only [zI]);repeat first | intro _ | refine ⟨by omega,?_⟩
 refine hK _ ?_;clear hK K;refine zw (sub_frzP 2 2 (aimR a) (by omega) rfl rfl) ?_;refine zw (zk [1,2,4]) ?_;simp only [go_sem]
 repeat refine zq ?_
 refine zb fun K hK=>?_;simp only [go_sem,aimR];(try simp (disch:=omega) only [zI]);repeat first | intro _ | refine ⟨by omega,?_⟩
 refine hK _ ?_;clear hK K;refine zw (sub_frzP 8 8 [i64 a.at_,bedsR a.beds,i64 0] (by omega) rfl rfl) ?_;refine zw (zk [1,2,4,8]) ?_;simp only [go_sem]
 repeat refine zq ?_
 refine zd ?_
 by_cases h1 : 10 < a.beds.length
 · have c1 : decide ((10 : Int) < (a.beds.length : Int)) = true:=by simp; omega
   have hv : fitV a l = (⟨0,[]⟩,0,0,5):=by rw [fitV,if_pos h1]
   rw [hv]
   repeat refine zq ?_
   refine zb fun K hK=>?_;simp only [go_sem,c1,aimR];(try simp (disch:=omega) only [zI])
   intros
   repeat first | intro _ | refine ⟨by omega,?_⟩
   refine hK _ ?_;clear hK K;refine zw (zk [1,2,4,8,19]) ?_;simp only [go_sem]
   repeat refine zq ?_
   refine zc rfl (fun hc=>?_) (fun hc=>?_) <;> (try simp only [go_sem] at hc)
   repeat refine zq ?_
   refine zb fun K hK=>?_;simp only [go_sem];(try simp (disch:=omega) only [zI]);repeat first | intro _ | refine ⟨by omega,?_⟩
   refine hK _ ?_;clear hK K;refine zw (zk [4,5,6,7]) ?_;simp only [go_sem];refine ze ?_;simp only [go_sem]
 have c1 : decide ((10 : Int) < (a.beds.length : Int)) = false:=by simp; omega
 repeat refine zq ?_
 refine zb fun K hK=>?_;simp only [go_sem,c1,aimR];(try simp (disch:=omega) only [zI])
 intros
 repeat first | intro _ | refine ⟨by omega,?_⟩
 refine hK _ ?_;clear hK K;refine zw (zk [1,2,4,8,19]) ?_;simp only [go_sem]
 repeat refine zq ?_
 refine zc rfl (fun hc=>?_) (fun hc=>?_) <;> (try simp only [go_sem] at hc)
 repeat refine zq ?_
 refine zb fun K hK=>?_;simp only [go_sem];(try simp (disch:=omega) only [zI])
 refine zh (areBeds_ok a.at_ a.beds 0 hw.1 hw.2) rfl (by simp only [go_sem,i64,ints]) (by simp only [go_sem,i64,ints]) (by first | exact .inl rfl | exact .inr rfl) ?_
 (try simp only [go_sem]);(try simp (disch:=omega) only [zI]);repeat first | intro _ | refine ⟨by omega,?_⟩
 refine hK _ ?_;clear hK K;refine zw (zk [1,2,4,25]) ?_;simp only [go_sem]
 cases h2 : (bedOk a.at_ && !a.beds.isEmpty && seqOk none a.beds)
 · have hv : fitV a l = (⟨0,[]⟩,0,0,2):=by rw [fitV,if_neg h1,if_pos h2]
   rw [hv]
   repeat refine zq ?_
   refine zc rfl (fun hc=>?_) (fun hc=>?_) <;> (try simp only [go_sem] at hc)
   repeat refine zq ?_
   refine zb fun K hK=>?_;simp only [go_sem];(try simp (disch:=omega) only [zI]);repeat first | intro _ | refine ⟨by omega,?_⟩
   refine hK _ ?_;clear hK K;refine zw (zk [4,5,6,7]) ?_;simp only [go_sem];refine ze ?_;simp only [go_sem]
 repeat refine zq ?_
 refine zc rfl (fun hc=>?_) (fun hc=>?_) <;> (try simp only [go_sem] at hc)
 by_cases h3 : l = []
 · have c3 : ((l.length : Int) == 0) = true:=by simp [h3]
   have hv : fitV a l = (⟨0,[]⟩,0,0,7):=by rw [fitV,if_neg h1,if_neg (by rw [h2]; decide),if_pos h3]
   rw [hv]
   repeat refine zq ?_
   refine zb fun K hK=>?_;simp only [go_sem,c3];(try simp (disch:=omega) only [zI])
   intros
   repeat first | intro _ | refine ⟨by omega,?_⟩
   refine hK _ ?_;clear hK K;refine zw (zk [1,2,4,30]) ?_;simp only [go_sem]
   repeat refine zq ?_
   refine zc rfl (fun hc=>?_) (fun hc=>?_) <;> (try simp only [go_sem] at hc)
   repeat refine zq ?_
   refine zb fun K hK=>?_;simp only [go_sem];(try simp (disch:=omega) only [zI]);repeat first | intro _ | refine ⟨by omega,?_⟩
   refine hK _ ?_;clear hK K;refine zw (zk [4,5,6,7]) ?_;simp only [go_sem];refine ze ?_;simp only [go_sem]
 have c3 : ((l.length : Int) == 0) = false:=by simpa using h3
 repeat refine zq ?_
 refine zb fun K hK=>?_;simp only [go_sem,c3];(try simp (disch:=omega) only [zI])
 intros
 repeat first | intro _ | refine ⟨by omega,?_⟩
 refine hK _ ?_;clear hK K;refine zw (zk [1,2,4,30]) ?_;simp only [go_sem]
 repeat refine zq ?_
 refine zc rfl (fun hc=>?_) (fun hc=>?_) <;> (try simp only [go_sem] at hc)
 by_cases h4 : 1000 < l.length
 · have c4 : decide ((1000 : Int) < (l.length : Int)) = true:=by simp; omega
   have hv : fitV a l = (⟨0,[]⟩,0,0,5):=by rw [fitV,if_neg h1,if_neg (by rw [h2]; decide),if_neg h3,if_pos h4]
   rw [hv]
   repeat refine zq ?_
   refine zb fun K hK=>?_;simp only [go_sem,c4];(try simp (disch:=omega) only [zI])
   intros
   repeat first | intro _ | refine ⟨by omega,?_⟩
   refine hK _ ?_;clear hK K;refine zw (zk [1,2,4,35]) ?_;simp only [go_sem]
   repeat refine zq ?_
   refine zc rfl (fun hc=>?_) (fun hc=>?_) <;> (try simp only [go_sem] at hc)
   repeat refine zq ?_
   refine zb fun K hK=>?_;simp only [go_sem];(try simp (disch:=omega) only [zI]);repeat first | intro _ | refine ⟨by omega,?_⟩
   refine hK _ ?_;clear hK K;refine zw (zk [4,5,6,7]) ?_;simp only [go_sem];refine ze ?_;simp only [go_sem]
 have c4 : decide ((1000 : Int) < (l.length : Int)) = false:=by simp; omega
 repeat refine zq ?_
 refine zb fun K hK=>?_;simp only [go_sem,c4];(try simp (disch:=omega) only [zI])
 intros
 repeat first | intro _ | refine ⟨by omega,?_⟩
 refine hK _ ?_;clear hK K;refine zw (zk [1,2,4,35]) ?_;simp only [go_sem]
 repeat refine zq ?_
 refine zc rfl (fun hc=>?_) (fun hc=>?_) <;> (try simp only [go_sem] at hc)
 refine zx ?_
 try simp only [go_sem]
 have hV : fitV a l = match runF (a.beds.map (·.b)) zeroT zeroT 0 l with
  | (_,_,some (i,e))=>(⟨0,[]⟩,0,i,e)
  | (le,mo,none)=>(⟨a.at_,(List.range a.beds.length).map (bedAt (a.beds.map (·.b)) le mo)⟩,3 * l.length,0,0):=by
  rw [fitV,if_neg h1,if_neg (by rw [h2]; decide),if_neg h3,if_neg h4]
 have hseq : seqOk none a.beds = true:=by
  simp only [Bool.and_eq_true] at h2
  exact h2.2
 have hle:=seqOk_le hseq
 obtain ⟨bs,hbs⟩ : ∃ bs,bs = a.beds.map (·.b):=⟨_,rfl⟩
 have hbl : bs.length = a.beds.length:=by rw [hbs]; simp
 have hbo : BedsOk bs:=⟨by omega,fun b hb=>by
  rw [hbs] at hb
  obtain ⟨x,hx,rfl⟩:=List.mem_map.1 hb
  exact hle x hx⟩
 rw [← hbs] at hV
 repeat refine zq ?_
 refine zb fun K hK=>?_;simp only [go_sem];(try simp (disch:=omega) only [zI]);repeat first | intro _ | refine ⟨by omega,?_⟩
 refine hK _ ?_;clear hK K;refine zw (zk [1,2,4,9]) ?_;simp only [go_sem]
 repeat refine zq ?_
 refine zb fun K hK=>?_;simp only [go_sem,aimR];(try simp (disch:=omega) only [zI])
 intros
 repeat first | intro _ | refine ⟨by omega,?_⟩
 refine hK _ ?_;clear hK K;refine zw (zk [1,2,4,9,43,44,45]) ?_;simp only [go_sem]
 repeat refine zq ?_
 refine zd ?_;refine zw (sub_ownB 41 0 57 69 1 (by omega) (by omega) rfl rfl) ?_
 try simp only [go_sem]
 refine awp_uptoV (n:=115) a.beds.length (fun i vs=>[(1,.r (visR l)),(2,.r (.rp [i64 a.at_,bedsR a.beds])),(4,.pt 4 (vs 4) 0),(9,.pt 41 (vs 41) 0),(43,.r (bedsR a.beds)),(44,.r (i64 a.beds.length)),(45,.r (i64 i))])
  (fun i vs=>[(4,.box [.r (i64 0),.r .ns]),(41,.box (.os 57 (vs 57) 1 0 i :: (tA zeroT ++ tA zeroT))),(57,.arr 69 1 ((bs.take i).map fun x=>[i64 x]))]) (fun _=>True) 0 (zj [8] ?_ ?_) (Nat.zero_le _) trivial ?_
 · try simp only [go_sem]
 · try simp only [go_sem]
   try simp
 · intro i vs hi _
   repeat refine zq ?_
   refine zb fun K hK=>?_;simp only [go_sem];(try simp (disch:=omega) only [zI]);repeat first | intro _ | refine ⟨by omega,?_⟩
   refine hK _ ?_;clear hK K;refine zw (zk [1,2,4,9,43,44,45,46]) ?_;simp only [go_sem]
   repeat refine zq ?_
   refine zc rfl (fun hc=>?_) (fun hc=>?_) <;> (try simp only [go_sem] at hc)
   · have hci:=hc
     obtain ⟨x,hx⟩:=opt_of_lt hci
     have hbx : bs[i]? = some x.b:=by rw [hbs,List.getElem?_map,hx]; rfl
     have htl : (bs.take i).length = i:=by rw [List.length_take]; omega
     refine zx ?_
     try simp only [go_sem]
     repeat refine zq ?_
     refine zd ?_
     repeat refine zq ?_
     refine zb fun K hK=>?_;simp only [go_sem,hx,hci,bedR];(try simp (disch:=omega) only [zI]);repeat first | intro _ | refine ⟨by omega,?_⟩
     refine hK _ ?_;clear hK K;refine zw (zk [1,2,4,9,11,43,44,45]) ?_;simp only [go_sem]
     repeat refine zq ?_
     refine awp_dreg3 [(9,some 41),(11,some 11)] [41,11] follows (by decide +kernel) (by kernel_rfl) (by simp only [keysOk,List.mem_cons,List.not_mem_nil,forall_eq_or_imp,Oc.keyOf,go_sem]; simp) (by intro k hk; simp only [List.mem_cons,List.not_mem_nil,or_false] at hk; first | (subst hk; exact ⟨_,rfl⟩) | (rcases hk with rfl | rfl <;> exact ⟨_,rfl⟩) | (rcases hk with rfl | rfl | rfl <;> exact ⟨_,rfl⟩)) fun K hK=>?_
     simp only [go_sem,htl,List.length_map];(try simp (disch:=omega) only [zI])
     refine ⟨⟨by omega,by omega⟩,?_⟩
     repeat first | intro _ | refine ⟨by omega,?_⟩
     refine hK _ ?_;clear hK K;refine zw (zk [1,2,4,9,43,44,45]) ?_;simp only [go_sem]
     repeat refine zq ?_
     refine zb fun K hK=>?_;simp only [go_sem];(try simp (disch:=omega) only [zI]);repeat first | intro _ | refine ⟨by omega,?_⟩
     refine hK _ ?_;clear hK K
     try simp only [go_sem]
     refine ⟨hci,zj [11] ?_ ?_⟩
     · try simp only [go_sem]
     · try simp only [go_sem]
       rw [take_of_opt hbx]
       simp
   · have hil : i = a.beds.length:=by omega
     subst hil
     have etk : bs.take a.beds.length = bs:=by rw [← hbl,List.take_length]
     have etl : List.take a.beds.length (bs.map fun x=>[i64 x]) = bs.map fun x=>[i64 x]:=List.take_of_length_le (by rw [List.length_map]; omega)
     rw [etk]
     refine zf ?_;simp only [go_sem];refine zw (sub_frzB 41 0 57 (by omega) (by omega) rfl rfl rfl (by rw [List.length_map]; omega)) ?_;simp only [go_sem,List.drop_zero,etl,List.set_cons_zero]
     have esh : (AV.r (RV.sl 1 (bs.map fun x=>[i64 x])) :: (tA zeroT ++ tA zeroT)) = shA bs zeroT zeroT:=(shA_eq bs zeroT zeroT).symm
     rw [esh]
     refine zw (zk [1,2,4,9]) ?_;simp only [go_sem]
     repeat refine zq ?_
     refine zb fun K hK=>?_;simp only [go_sem];(try simp (disch:=omega) only [zI])
     intros
     repeat first | intro _ | refine ⟨by omega,?_⟩
     refine hK _ ?_;clear hK K;refine zw (zk [1,2,4,9,61,62,63]) ?_;simp only [go_sem]
     repeat refine zq ?_
     refine zd ?_
     refine awp_whileV (n:=115) (fun (y : Nat × List Int × List Int) vs=>[(1,.r (visR l)),(2,.r (.rp [i64 a.at_,bedsR a.beds])),(4,.pt 4 (vs 4) 0),(9,.pt 41 (vs 41) 0),(61,.r (visR l)),(62,.r (i64 l.length)),(63,.r (i64 y.1))])
      (fun y vs=>[(4,.box [.r (i64 0),.r .ns]),(41,.box (shA bs y.2.1 y.2.2))])
      (fun y=>y.1 ≤ l.length ∧ SmallT (3 * (y.1 : Int)) y.2.1 ∧ SmallT (3 * (y.1 : Int)) y.2.2 ∧ runF bs zeroT zeroT 0 l = runF bs y.2.1 y.2.2 y.1 (l.drop y.1)) (fun y=>l.length - y.1) (0,zeroT,zeroT) (zj [] ?_ ?_) ⟨Nat.zero_le _,zeroT_small (by simp),zeroT_small (by simp),rfl⟩ ?_
     · try simp only [go_sem]
     · try simp only [go_sem]
     · rintro ⟨i,le,mo⟩ vs ⟨hi,hs1,hs2,hR⟩
       simp only at hi hs1 hs2 hR
       have hlel:=hs1.1
       have hmol:=hs2.1
       repeat refine zq ?_
       refine zb fun K hK=>?_;simp only [go_sem];(try simp (disch:=omega) only [zI]);repeat first | intro _ | refine ⟨by omega,?_⟩
       refine hK _ ?_;clear hK K;refine zw (zk [1,2,4,9,61,62,63,64]) ?_;simp only [go_sem]
       repeat refine zq ?_
       refine zc rfl (fun hc=>?_) (fun hc=>?_) <;> (try simp only [go_sem] at hc)
       · have hci : i < l.length:=by first | exact hc | omega
         obtain ⟨v,hx⟩:=opt_of_lt hci
         rw [drop_of_opt hx,runF] at hR
         refine zx ?_
         try simp only [go_sem]
         repeat refine zq ?_
         refine zd ?_
         repeat refine zq ?_
         refine zb fun K hK=>?_;simp only [go_sem,hx,hci];(try simp (disch:=omega) only [zI]);repeat first | intro _ | refine ⟨by omega,?_⟩
         refine hK _ ?_;clear hK K;refine zw (zk [1,2,4,9,12,13,61,62,63]) ?_;simp only [go_sem]
         repeat refine zq ?_
         refine zb fun K hK=>?_;simp only [go_sem];(try simp (disch:=omega) only [zI])
         refine xcall_mut (visit_ok bs le mo v.ds v.n hbo (hs1.mono (by omega)) (hs2.mono (by omega))) [(1000,41)] rfl (by simp only [go_sem,i64,ints,shA_lend,shA_back]) (by simp only [go_sem,i64,ints,shA_lend,shA_back]) (by rfl) (by rfl) ?_
         (try simp only [go_sem,shA_lend,shA_back]);(try simp (disch:=omega) only [zI]);repeat first | intro _ | refine ⟨by omega,?_⟩
         refine hK _ ?_;clear hK K;refine zw (zk [1,2,4,9,12,14,61,62,63]) ?_;simp only [go_sem]
         by_cases hv0 : visitE bs v.ds v.n = 0
         · have c5 : (visitE bs v.ds v.n != 0) = false:=by simp [hv0]
           rw [if_pos hv0] at hR
           repeat refine zq ?_
           refine zb fun K hK=>?_;simp only [go_sem,c5];(try simp (disch:=omega) only [zI]);repeat first | intro _ | refine ⟨by omega,?_⟩
           refine hK _ ?_;clear hK K;refine zw (zk [1,2,4,9,12,14,61,62,63,72]) ?_;simp only [go_sem]
           repeat refine zq ?_
           refine zc rfl (fun hc=>?_) (fun hc=>?_) <;> (try simp only [go_sem] at hc)
           refine zx ?_
           try simp only [go_sem]
           repeat refine zq ?_
           refine zb fun K hK=>?_;simp only [go_sem];(try simp (disch:=omega) only [zI]);repeat first | intro _ | refine ⟨by omega,?_⟩
           refine hK _ ?_;clear hK K
           try simp only [go_sem]
           refine ⟨(i + 1,leV bs le v.ds v.n,moV bs mo v.ds v.n),⟨by omega,?_,?_,hR⟩,by simp only; omega,zj [13] ?_ ?_⟩
           · have:=(leV_small (bs:=bs) (ds:=v.ds) (n:=v.n) hs1).1
             simpa [Int.mul_add] using this
           · have:=moV_small (bs:=bs) (ds:=v.ds) (n:=v.n) hs2
             simpa [Int.mul_add] using this
           · try simp only [go_sem]
           · try simp only [go_sem]
         · have c5 : (visitE bs v.ds v.n != 0) = true:=by simpa using hv0
           rw [if_neg hv0] at hR
           have hv : fitV a l = (⟨0,[]⟩,0,(i : Int),visitE bs v.ds v.n):=by rw [hV,hR]
           rw [hv]
           repeat refine zq ?_
           refine zb fun K hK=>?_;simp only [go_sem,c5];(try simp (disch:=omega) only [zI]);repeat first | intro _ | refine ⟨by omega,?_⟩
           refine hK _ ?_;clear hK K;refine zw (zk [1,2,4,9,12,14,61,62,63,72]) ?_;simp only [go_sem]
           repeat refine zq ?_
           refine zc rfl (fun hc=>?_) (fun hc=>?_) <;> (try simp only [go_sem] at hc)
           repeat refine zq ?_
           refine zb fun K hK=>?_;simp only [go_sem];(try simp (disch:=omega) only [zI]);repeat first | intro _ | refine ⟨by omega,?_⟩
           refine hK _ ?_;clear hK K;refine zw (zk [4,5,6,7]) ?_;simp only [go_sem];refine ze ?_;simp only [go_sem]
       · have hil : i = l.length:=by omega
         subst hil
         rw [List.drop_length,runF] at hR
         have hv : fitV a l = (⟨a.at_,(List.range a.beds.length).map (bedAt bs le mo)⟩,3 * (l.length : Int),0,0):=by rw [hV,hR]
         rw [hv]
         have hll : l.length ≤ 1000:=by omega
         refine zf ?_;simp only [go_sem];refine zw (sub_frzP 9 41 (sheetR bs le mo) (by omega) rfl rfl) ?_
         try simp only [go_sem]
         refine zw (zk [1,2,4,9]) ?_;simp only [go_sem]
         repeat refine zq ?_
         refine zb fun K hK=>?_;simp only [go_sem];(try simp (disch:=omega) only [zI]);repeat first | intro _ | refine ⟨by omega,?_⟩
         refine hK _ ?_;clear hK K;refine zw (zk [1,4,9]) ?_;simp only [go_sem]
         repeat refine zq ?_
         refine zb fun K hK=>?_;simp only [go_sem,hbl];(try simp (disch:=omega) only [zI])
         intros
         repeat first | intro _ | refine ⟨by omega,?_⟩
         refine hK _ ?_;clear hK K;refine zw (zk [1,4,9,83,84,85]) ?_;simp only [go_sem]
         repeat refine zq ?_
         refine zd ?_;refine zw (sub_ownB 4 1 108 83 3 (by omega) (by omega) rfl rfl) ?_
         try simp only [go_sem]
         refine awp_uptoV (n:=115) a.beds.length (fun k vs=>[(1,.r (visR l)),(4,.pt 4 (vs 4) 0),(9,.r (.rp (sheetR bs le mo))),(83,.r (ints bs)),(84,.r (i64 a.beds.length)),(85,.r (i64 k))])
          (fun k vs=>[(4,.box [.r (i64 a.at_),.os 108 (vs 108) 3 0 k]),(108,.arr 83 3 (((List.range k).map (bedAt bs le mo)).map bedR))]) (fun _=>True) 0 (zj [13] ?_ ?_) (Nat.zero_le _) trivial ?_
         · try simp only [go_sem]
         · try simp only [go_sem]
           try simp
         · intro k vs hk _
           repeat refine zq ?_
           refine zb fun K hK=>?_;simp only [go_sem];(try simp (disch:=omega) only [zI]);repeat first | intro _ | refine ⟨by omega,?_⟩
           refine hK _ ?_;clear hK K;refine zw (zk [1,4,9,83,84,85,86]) ?_;simp only [go_sem]
           repeat refine zq ?_
           refine zc rfl (fun hc=>?_) (fun hc=>?_) <;> (try simp only [go_sem] at hc)
           · have hck : k < a.beds.length:=by first | exact hc | omega
             have hkb : k < bs.length:=by omega
             obtain ⟨b,hbx⟩:=opt_of_lt hkb
             obtain ⟨x,hxl⟩:=opt_of_lt (l:=le) (i:=k) (by omega)
             obtain ⟨y,hyl⟩:=opt_of_lt (l:=mo) (i:=k) (by omega)
             have hat : bedAt bs le mo k = ⟨b,x,y⟩:=by simp [bedAt,List.getD_eq_getElem?_getD,hbx,hxl,hyl]
             have hrl : ((List.range k).map (bedAt bs le mo)).length = k:=by simp
             have hk10 : (k : Int) < 10:=by omega
             have d1 : List.drop k (tR le ++ tR mo) = i64 x :: List.drop (k + 1) (tR le ++ tR mo):=drop_of_opt (by
              rw [List.getElem?_append_left (by simp; omega)]
              simp [hxl])
             have d0 : List.drop 10 (tR le ++ tR mo) = tR mo:=by
              rw [List.drop_append_of_le_length (by simp; omega),List.drop_of_length_le (by simp; omega),List.nil_append]
             have d2 : List.drop k (tR mo) = i64 y :: List.drop (k + 1) (tR mo):=drop_of_opt (by simp [hyl])
             have hL20 : (tR le ++ tR mo).length = 20:=by simp; omega
             refine zx ?_
             try simp only [go_sem]
             repeat refine zq ?_
             refine zd ?_
             repeat refine zq ?_
             refine zb fun K hK=>?_;simp only [go_sem,hbx,hkb];(try simp (disch:=omega) only [zI]);repeat first | intro _ | refine ⟨by omega,?_⟩
             refine hK _ ?_;clear hK K;refine zw (zk [1,4,9,15,16,83,84,85]) ?_;simp only [go_sem]
             repeat refine zq ?_
             refine awp_dreg3 [(4,some 4),(9,none)] [4] follows (by decide +kernel) (by kernel_rfl) (by simp only [keysOk,List.mem_cons,List.not_mem_nil,forall_eq_or_imp,Oc.keyOf,go_sem]; simp) (by intro k hk; simp only [List.mem_cons,List.not_mem_nil,or_false] at hk; first | (subst hk; exact ⟨_,rfl⟩) | (rcases hk with rfl | rfl <;> exact ⟨_,rfl⟩) | (rcases hk with rfl | rfl | rfl <;> exact ⟨_,rfl⟩)) fun K hK=>?_
             simp only [go_sem,Nat.mul_one,hrl,List.length_map,d0,d1,d2,hL20,List.headD_cons,List.length_cons];(try simp (disch:=omega) only [zI])
             refine ⟨by omega,by omega,⟨by omega,by omega⟩,?_⟩
             repeat first | intro _ | refine ⟨by omega,?_⟩
             refine hK _ ?_;clear hK K;refine zw (zk [1,4,9,83,84,85]) ?_;simp only [go_sem]
             repeat refine zq ?_
             refine zb fun K hK=>?_;simp only [go_sem];(try simp (disch:=omega) only [zI]);repeat first | intro _ | refine ⟨by omega,?_⟩
             refine hK _ ?_;clear hK K
             try simp only [go_sem]
             refine ⟨hck,zj [] ?_ ?_⟩
             · try simp only [go_sem]
             · try simp only [go_sem]
               simp [List.range_succ,hat,bedR]
           · have hkl : k = a.beds.length:=by omega
             subst hkl
             have etl2 : List.take a.beds.length (((List.range a.beds.length).map (bedAt bs le mo)).map bedR) = ((List.range a.beds.length).map (bedAt bs le mo)).map bedR:=List.take_of_length_le (by simp)
             refine zf ?_;simp only [go_sem];refine zw (sub_frzB 4 1 108 (by omega) (by omega) rfl rfl rfl (by simp)) ?_;simp only [go_sem,List.drop_zero,etl2,List.set_cons_succ,List.set_cons_zero];refine zw (zk [1,4]) ?_;simp only [go_sem]
             repeat refine zq ?_
             refine zb fun K hK=>?_;simp only [go_sem];(try simp (disch:=omega) only [zI])
             intros
             repeat first | intro _ | refine ⟨by omega,?_⟩
             refine hK _ ?_;clear hK K;refine zw (zk [4,5,6,7]) ?_;simp only [go_sem];refine ze ?_;simp only [go_sem]
             done
def Len10 (xs : List (List Int)) : Prop:=∀ t ∈ xs,SmallT 3 t
theorem getD_zipWith {f : Int → Int → Int} {a b : List Int} {k : Nat} (h1 : k < a.length) (h2 : k < b.length) : (List.zipWith f a b).getD k 0 = f (a.getD k 0) (b.getD k 0):=by
 simp [List.getD_eq_getElem?_getD,List.getElem?_zipWith,List.getElem?_eq_getElem h1,List.getElem?_eq_getElem h2]
theorem accL_len {xs : List (List Int)} (h : Len10 xs) : (accL xs).2.1.length = 10 ∧ (accL xs).2.2.length = 10:=by
 obtain ⟨h1,h2⟩:=accL_small (b:=3) (by omega) xs h
 exact ⟨h1.1,h2.1⟩
theorem accL_least {k : Nat} (hk : k < 10) : ∀ (n : Nat) (xs : List (List Int)),xs.length = n → xs ≠ [] → Len10 xs →
 (∃ t ∈ xs,t.getD k 0 = (accL xs).2.1.getD k 0) ∧ ∀ t ∈ xs,(accL xs).2.1.getD k 0 ≤ t.getD k 0:=by
 intro n
 induction n with
 | zero=>intro xs h0 hne; exact absurd (List.length_eq_zero_iff.1 h0) hne
 | succ n ih =>
   intro xs hl hne hs
   rcases List.eq_nil_or_concat xs with rfl | ⟨ys,t,rfl⟩
   · exact absurd rfl hne
   rw [List.concat_eq_append] at *
   have ht:=hs t (by simp)
   have hys : Len10 ys:=fun x hx=>hs x (by simp [hx])
   rw [accL_snoc]
   simp only [accT]
   cases ys with
   | nil=>simp [accL,leastT]
   | cons y ys =>
     obtain ⟨⟨u,hu,e⟩,hle⟩:=ih (y :: ys) (by simpa using hl) (by simp) hys
     have hb : (accL (y :: ys)).1 = true:=by rw [accL_some]; rfl
     have hlen:=(accL_len hys).1
     simp only [hb,leastT,if_true]
     rw [getD_zipWith (by omega) (by rw [ht.1]; omega)]
     refine ⟨?_,fun x hx=>?_⟩
     · by_cases hc : (accL (y :: ys)).2.1.getD k 0 ≤ t.getD k 0
       · exact ⟨u,List.mem_append_left _ hu,by rw [e]; omega⟩
       · exact ⟨t,by simp,by omega⟩
     · rcases List.mem_append.1 hx with hx | hx
       · have:=hle x hx; omega
       · have : x = t:=by simpa using hx
         subst this; omega
theorem getD_nonneg {t : List Int} (h : SmallT 3 t) (k : Nat) : 0 ≤ t.getD k 0:=by
 by_cases hk : k < t.length
 · have:=h.2 (t.getD k 0) (by rw [List.getD_eq_getElem?_getD,List.getElem?_eq_getElem hk]; simp)
   exact this.1
 · rw [List.getD_eq_getElem?_getD,List.getElem?_eq_none (by omega)]; simp
theorem accL_most {k : Nat} (hk : k < 10) : ∀ (n : Nat) (xs : List (List Int)),xs.length = n → xs ≠ [] → Len10 xs →
 (∃ t ∈ xs,t.getD k 0 = (accL xs).2.2.getD k 0) ∧ ∀ t ∈ xs,t.getD k 0 ≤ (accL xs).2.2.getD k 0:=by
 intro n
 induction n with
 | zero=>intro xs h0 hne; exact absurd (List.length_eq_zero_iff.1 h0) hne
 | succ n ih =>
   intro xs hl hne hs
   rcases List.eq_nil_or_concat xs with rfl | ⟨ys,t,rfl⟩
   · exact absurd rfl hne
   rw [List.concat_eq_append] at *
   have ht:=hs t (by simp)
   have hys : Len10 ys:=fun x hx=>hs x (by simp [hx])
   have hn:=getD_nonneg ht k
   rw [accL_snoc]
   simp only [accT,mostT]
   cases ys with
   | nil =>
     rw [getD_zipWith (by rw [(accL_len (xs:=[]) (by simp [Len10])).2]; omega) (by rw [ht.1]; omega)]
     have hz : (accL []).2.2.getD k 0 = 0:=by
      simp only [accL,List.foldl_nil]
      rcases k with _ | _ | _ | _ | _ | _ | _ | _ | _ | _ | k <;> first | rfl | omega
     rw [hz]
     refine ⟨⟨t,by simp,by omega⟩,fun x hx=>?_⟩
     have : x = t:=by simpa using hx
     subst this; omega
   | cons y ys =>
     obtain ⟨⟨u,hu,e⟩,hle⟩:=ih (y :: ys) (by simpa using hl) (by simp) hys
     have hlen:=(accL_len hys).2
     rw [getD_zipWith (by omega) (by rw [ht.1]; omega)]
     refine ⟨?_,fun x hx=>?_⟩
     · by_cases hc : t.getD k 0 ≤ (accL (y :: ys)).2.2.getD k 0
       · exact ⟨u,List.mem_append_left _ hu,by rw [e]; omega⟩
       · exact ⟨t,by simp,by omega⟩
     · rcases List.mem_append.1 hx with hx | hx
       · have:=hle x hx; omega
       · have : x = t:=by simpa using hx
         subst this; omega
theorem incT_comm (t : List Int) (i k : Nat) : incT (incT t i) k = incT (incT t k) i:=by
 by_cases h : i = k
 · rw [h]
 · have hg : ∀ (t : List Int) (i k : Nat),i ≠ k → (t.set i (t.getD i 0 + 1)).getD k 0 = t.getD k 0:=by
    intro t i k h
    rw [List.getD_eq_getElem?_getD,List.getElem?_set_ne h,List.getD_eq_getElem?_getD]
   unfold incT
   rw [hg t i k h,hg t k i (Ne.symm h)]
   exact List.set_comm _ _ h
theorem tally3_12 (i k m : Nat) : tally3 i k m = tally3 k i m:=by unfold tally3; rw [incT_comm zeroT]
theorem tally3_23 (i k m : Nat) : tally3 i k m = tally3 i m k:=by unfold tally3; rw [incT_comm (incT zeroT i)]
theorem mem_rangeDrop {N m x : Nat} : x ∈ (List.range N).drop m ↔ m ≤ x ∧ x < N:=by
 rw [List.mem_iff_getElem?]
 constructor
 · rintro ⟨i,hi⟩
   rw [List.getElem?_drop] at hi
   obtain ⟨h1,h2⟩:=List.getElem?_eq_some_iff.1 hi
   simp at h1 h2
   omega
 · rintro ⟨h1,h2⟩
   refine ⟨x - m,?_⟩
   rw [List.getElem?_drop,show m + (x - m) = x by omega,List.getElem?_range h2]
def sum3 (beds : List Int) (x y z : Nat) : Int:=scoreOf (beds.getD x 0) + scoreOf (beds.getD y 0) + scoreOf (beds.getD z 0)
theorem mem_three {beds : List Int} {n : Int} {t : List Int} : t ∈ threeT beds n ↔ ∃ i k m,i ≤ k ∧ k ≤ m ∧ m < beds.length ∧ sum3 beds i k m = n ∧ t = tally3 i k m:=by
 simp only [threeT,rowI,rowK,rowM,List.mem_flatMap,mem_rangeDrop,cell3,sum3]
 constructor
 · rintro ⟨i,hi,k,hk,m,hm,ht⟩
   split at ht
   · exact ⟨i,k,m,hk.1,hm.1,hm.2,by assumption,by simpa using ht⟩
   · simp at ht
 · rintro ⟨i,k,m,h1,h2,h3,h4,rfl⟩
   refine ⟨i,⟨by omega,by omega⟩,k,⟨by omega,by omega⟩,m,⟨by omega,by omega⟩,?_⟩
   rw [if_pos h4]
   simp
theorem sum3_12 (beds : List Int) (x y z : Nat) : sum3 beds x y z = sum3 beds y x z:=by unfold sum3; omega
theorem sum3_23 (beds : List Int) (x y z : Nat) : sum3 beds x y z = sum3 beds x z y:=by unfold sum3; omega
theorem mem_three' {beds : List Int} {n : Int} {t : List Int} : t ∈ threeT beds n ↔ ∃ x y z,x < beds.length ∧ y < beds.length ∧ z < beds.length ∧ sum3 beds x y z = n ∧ t = tally3 x y z:=by
 rw [mem_three]
 constructor
 · rintro ⟨i,k,m,h1,h2,h3,h4,h5⟩
   exact ⟨i,k,m,by omega,by omega,h3,h4,h5⟩
 · rintro ⟨x,y,z,h1,h2,h3,h4,rfl⟩
   by_cases a : x ≤ y
   · by_cases b : y ≤ z
     · exact ⟨x,y,z,a,b,h3,h4,rfl⟩
     · by_cases c : x ≤ z
       · exact ⟨x,z,y,c,by omega,h2,by rw [← sum3_23]; exact h4,tally3_23 _ _ _⟩
       · exact ⟨z,x,y,by omega,a,h2,by rw [sum3_12,← sum3_23]; exact h4,by rw [tally3_23,tally3_12]⟩
   · by_cases b : x ≤ z
     · exact ⟨y,x,z,by omega,b,h3,by rw [← sum3_12]; exact h4,tally3_12 _ _ _⟩
     · by_cases c : y ≤ z
       · exact ⟨y,z,x,c,by omega,h1,by rw [← sum3_23,← sum3_12]; exact h4,by rw [tally3_12,tally3_23]⟩
       · exact ⟨z,y,x,by omega,by omega,h1,by rw [sum3_12,← sum3_23,← sum3_12]; exact h4,by rw [tally3_12,tally3_23,tally3_12]⟩
def hasV (beds ds : List Int) (n : Int) (x y z : Nat) : Bool :=
 if ds = [] then decide (sum3 beds x y z = n) else decide (ds.getD 0 0 = beds.getD x 0) && decide (ds.getD 1 0 = beds.getD y 0) && decide (ds.getD 2 0 = beds.getD z 0)
def tripT (beds ds : List Int) (n : Int) (i : Nat) : List (List Int) :=
 let N:=beds.length
 if hasV beds ds n (i / N / N) (i / N % N) (i % N) then [tally3 (i / N / N) (i / N % N) (i % N)] else []
def refTs (beds ds : List Int) (n : Int) (i : Nat) : List (List Int):=(List.range i).flatMap (tripT beds ds n)
theorem mem_refTs {beds ds : List Int} {n : Int} {t : List Int} : t ∈ refTs beds ds n (beds.length * beds.length * beds.length) ↔ ∃ x y z,x < beds.length ∧ y < beds.length ∧ z < beds.length ∧ hasV beds ds n x y z = true ∧ t = tally3 x y z:=by
 simp only [refTs,List.mem_flatMap,tripT,List.mem_range]
 generalize beds.length = N
 constructor
 · rintro ⟨i,hi,h⟩
   split at h
   · have ht:=List.mem_singleton.1 h
     have hN : 0 < N:=by
      rcases Nat.eq_zero_or_pos N with h0 | h0
      · rw [h0] at hi; simp at hi
      · exact h0
     refine ⟨i / N / N,i / N % N,i % N,?_,Nat.mod_lt _ hN,Nat.mod_lt _ hN,by assumption,ht⟩
     rw [Nat.div_div_eq_div_mul,Nat.div_lt_iff_lt_mul (Nat.mul_pos hN hN)]
     rw [Nat.mul_assoc] at hi
     exact hi
   · simp at h
 · rintro ⟨x,y,z,hx,hy,hz,hh,rfl⟩
   have hN : 0 < N:=by omega
   have e0 : (x * N * N + y * N + z) / N = x * N + y:=by
    rw [show x * N * N + y * N + z = z + (x * N + y) * N by rw [Nat.add_mul]; omega,Nat.add_mul_div_right _ _ hN,Nat.div_eq_of_lt hz,Nat.zero_add]
   have e1 : (x * N * N + y * N + z) % N = z:=by
    rw [show x * N * N + y * N + z = z + (x * N + y) * N by rw [Nat.add_mul]; omega,Nat.add_mul_mod_self_right,Nat.mod_eq_of_lt hz]
   have e2 : (x * N + y) / N = x:=by rw [Nat.add_comm,Nat.add_mul_div_right _ _ hN,Nat.div_eq_of_lt hy,Nat.zero_add]
   have e3 : (x * N + y) % N = y:=by rw [Nat.add_comm,Nat.add_mul_mod_self_right,Nat.mod_eq_of_lt hy]
   refine ⟨x * N * N + y * N + z,?_,?_⟩
   · have h1 : (x + 1) * N * N ≤ N * N * N:=Nat.mul_le_mul_right _ (Nat.mul_le_mul_right _ hx)
     have h2 : (y + 1) * N ≤ N * N:=Nat.mul_le_mul_right _ hy
     rw [Nat.add_mul,Nat.add_mul,Nat.one_mul] at h1
     rw [Nat.add_mul,Nat.one_mul] at h2
     omega
   · simp only [e0,e1,e2,e3,hh,if_true,List.mem_singleton]
theorem atE_mem (v : Int) : ∀ (l : List Int),(atE l v < 0 → v ∉ l) ∧ (0 ≤ atE l v → l[(atE l v).toNat]? = some v)
 | []=>by simp [atE,indexF]
 | x :: l => by
   obtain ⟨h1,h2⟩:=atE_mem v l
   unfold atE at *
   simp only [indexF]
   by_cases hv : v = x
   · subst hv
     simp
   · have hb : (v == x) = false:=by simpa using hv
     simp only [hb,Bool.false_eq_true,if_false]
     split
     · rename_i hlt
       refine ⟨fun _=>?_,fun h=>by omega⟩
       simp [hv,h1 hlt]
     · rename_i hge
       refine ⟨fun h=>by omega,fun _=>?_⟩
       have:=h2 (by omega)
       rw [show (indexF (fun x=>v == x) l + 1).toNat = (indexF (fun x=>v == x) l).toNat + 1 by omega,List.getElem?_cons_succ]
       exact this
theorem getD_inj {l : List Int} (h : l.Pairwise (· < ·)) {x y : Nat} (hx : x < l.length) (hy : y < l.length) (he : l.getD x 0 = l.getD y 0) : x = y:=by
 rw [List.getD_eq_getElem?_getD,List.getD_eq_getElem?_getD,List.getElem?_eq_getElem hx,List.getElem?_eq_getElem hy] at he
 simp only [Option.getD_some] at he
 rw [List.pairwise_iff_getElem] at h
 rcases Nat.lt_trichotomy x y with c | c | c
 · have:=h x y hx hy c; omega
 · exact c
 · have:=h y x hy hx c; omega
theorem atE_getD {l : List Int} (h : l.Pairwise (· < ·)) {x : Nat} (hx : x < l.length) : atE l (l.getD x 0) = x:=by
 have hm : l.getD x 0 ∈ l:=by
  rw [List.getD_eq_getElem?_getD,List.getElem?_eq_getElem hx]; simp
 obtain ⟨h1,h2⟩:=atE_mem (l.getD x 0) l
 have h0 : 0 ≤ atE l (l.getD x 0):=by
  rcases Int.lt_or_le (atE l (l.getD x 0)) 0 with c | c
  · exact absurd hm (h1 c)
  · exact c
 have:=h2 h0
 obtain ⟨a,b⟩:=List.getElem?_eq_some_iff.1 this
 have:=getD_inj h a hx (by rw [List.getD_eq_getElem?_getD,List.getElem?_eq_getElem a,b]; simp)
 omega
theorem mem_truthsV {bs ds : List Int} {n : Int} {t : List Int} (hp : bs.Pairwise (· < ·)) (hd : ds = [] ∨ ds.length = 3) : t ∈ truthsV bs ds n ↔ t ∈ refTs bs ds n (bs.length * bs.length * bs.length):=by
 rw [mem_refTs]
 unfold truthsV
 split
 · rename_i h0
   simp only [hasV,h0,if_true,decide_eq_true_eq];exact mem_three'
 · rename_i h0
   obtain ⟨d0,d1,d2,rfl⟩ : ∃ a b c,ds = [a,b,c]:=by
    rcases ds with _ | ⟨a,_ | ⟨b,_ | ⟨c,_ | ⟨d,l⟩⟩⟩⟩ <;> simp at hd h0 ⊢
   simp only [hasV,h0,if_false,List.getD_cons_zero,List.getD_cons_succ,Bool.and_eq_true,decide_eq_true_eq]
   constructor
   · intro h
     simp only [truthsK,tallyK] at h
     split at h
     · rename_i r he
       have hr:=List.mem_singleton.1 h
       subst hr
       split at he
       · cases he
       rename_i a0
       split at he
       · cases he
       rename_i a1
       split at he
       · cases he
       rename_i a2
       have b0:=(atE_mem d0 bs).2 (by omega)
       have b1:=(atE_mem d1 bs).2 (by omega)
       have b2:=(atE_mem d2 bs).2 (by omega)
       refine ⟨_,_,_,(List.getElem?_eq_some_iff.1 b0).1,(List.getElem?_eq_some_iff.1 b1).1,(List.getElem?_eq_some_iff.1 b2).1,⟨⟨?_,?_⟩,?_⟩,(Option.some.inj he).symm⟩
       · rw [List.getD_eq_getElem?_getD,b0]; rfl
       · rw [List.getD_eq_getElem?_getD,b1]; rfl
       · rw [List.getD_eq_getElem?_getD,b2]; rfl
     · cases h
   · rintro ⟨x,y,z,hx,hy,hz,⟨⟨rfl,rfl⟩,rfl⟩,rfl⟩
     simp only [truthsK,tallyK,atE_getD hp hx,atE_getD hp hy,atE_getD hp hz];rw [if_neg (by omega),if_neg (by omega),if_neg (by omega)]
     simp [tally3]
def spanAt (xs : List (List Int)) (k : Nat) : List RV:=[i64 ((accL xs).2.1.getD k 0),i64 ((accL xs).2.2.getD k 0)]
abbrev spansA (N : Nat) (xs : List (List Int)) : List (List RV):=(List.range N).map (spanAt xs)
def one1 (a k : Nat) : Int:=if a = k then 1 else 0
theorem getD_incT {t : List Int} {i k : Nat} (hi : i < t.length) : (incT t i).getD k 0 = t.getD k 0 + one1 i k:=by
 unfold incT one1
 by_cases h : i = k
 · subst h
   simp [List.getD_eq_getElem?_getD,List.getElem?_set_self hi]
 · simp [List.getD_eq_getElem?_getD,List.getElem?_set_ne h,h]
theorem getD_tally3 {x y z k : Nat} (hx : x < 10) (hy : y < 10) (hz : z < 10) (hk : k < 10) : (tally3 x y z).getD k 0 = one1 x k + one1 y k + one1 z k:=by
 unfold tally3
 rw [getD_incT (by simp [incT_len]; omega),getD_incT (by simp [incT_len]; omega),getD_incT (by simp; omega)]
 have : zeroT.getD k 0 = 0:=by
  rcases k with _ | _ | _ | _ | _ | _ | _ | _ | _ | _ | k <;> first | rfl | omega
 rw [this]; omega
set_option maxRecDepth 8000
abbrev viV (v : Vi) : RV:=.ag [ints v.ds,i64 v.n]
def mixF (N k : Nat) (f g : Nat → List RV) : List (List RV):=(List.range N).map fun j=>if j < k then f j else g j
theorem zeroT_getD {k : Nat} (hk : k < 10) : zeroT.getD k 0 = 0:=by
 rcases k with _ | _ | _ | _ | _ | _ | _ | _ | _ | _ | k <;> first | rfl | omega
theorem getD_addT {a b : List Int} {k : Nat} (h1 : k < a.length) (h2 : k < b.length) : (addT a b).getD k 0 = a.getD k 0 + b.getD k 0:=getD_zipWith h1 h2
theorem SmallT.getD {b : Int} {t : List Int} (h : SmallT b t) {k : Nat} (hk : k < 10) : 0 ≤ t.getD k 0 ∧ t.getD k 0 ≤ b:=by
 obtain ⟨x,hx⟩:=opt_of_lt (l:=t) (i:=k) (by rw [h.1]; exact hk)
 have:=h.2 x (mem_of_opt hx)
 rw [List.getD_eq_getElem?_getD,hx]
 exact this
abbrev outB (bs le mo : List Int) (k : Nat) : List RV:=bedR (bedAt bs le mo k)
def tightB (d L H : Int) (x : Bd) : Bd:=⟨x.b,max x.lo (d - (H - x.hi)),min x.hi (d - (L - x.lo))⟩
def tightL (d : Int) (l : List Bd) : List Bd:=l.map (tightB d (loS l) (hiS l))
theorem aimOk_facts {d : Int} {a : Am} (h : aimOk d a = true) : bedOk a.at_ = true ∧ a.beds ≠ [] ∧ seqOk none a.beds = true ∧ chOk d a.beds = true ∧ loS a.beds ≤ d ∧ d ≤ hiS a.beds:=by
 simp only [aimOk,Bool.and_eq_true,decide_eq_true_eq,Bool.not_eq_true'] at h
 obtain ⟨⟨⟨⟨⟨h1,h2⟩,h3⟩,h4⟩,h5⟩,h6⟩:=h
 exact ⟨h1,fun e=>(by rw [e] at h2; cases h2),h3,h4,h5,h6⟩
theorem checkV_zero {d : Int} {l : List Am} (h : checkV d l = 0) : l.length ≤ 20 ∧ (∀ a ∈ l,a.beds.length ≤ 10) ∧ l ≠ [] ∧ (1 ≤ d ∧ d ≤ 3000) ∧ ∀ a ∈ l,aimOk d a = true:=by
 unfold checkV at h
 split at h
 · cases h
 rename_i h1
 split at h
 · cases h
 rename_i h2
 split at h
 · rename_i h3
   simp only [Bool.or_eq_true,decide_eq_true_eq,List.any_eq_true,not_or,not_exists,not_and,Nat.not_lt,Bool.not_eq_true,Bool.not_eq_false',Bool.and_eq_true] at h1 h2
   refine ⟨h1.1,h1.2,fun e=>?_,by simpa using h2.2,List.all_eq_true.1 h3⟩
   rw [e] at h2
   simp at h2
 · cases h
def tightA (d : Int) (a : Am) : Am:=⟨a.at_,tightL d a.beds⟩
structure Th where
 x : Nat
 y : Nat
 z : Nat
 kn : Bool
def visF (bs : List Int) (p : Th) : Vi:=⟨[bs.getD p.x 0,bs.getD p.y 0,bs.getD p.z 0],0⟩
def visT (bs : List Int) (p : Th) : Vi:=⟨[],sum3 bs p.x p.y p.z⟩
def visP (bs : List Int) (p : Th) : Vi:=if p.kn then visF bs p else visT bs p
def tal (p : Th) : List Int:=tally3 p.x p.y p.z
structure BsOk (bs : List Int) : Prop where
 asc : bs.Pairwise (· < ·)
 ne : bs ≠ []
 len : bs.length ≤ 10
 bed : ∀ b ∈ bs,(b = 0 ∨ bedOk b = true) ∧ 0 ≤ scoreOf b ∧ scoreOf b ≤ 60
def InB (bs : List Int) (p : Th) : Prop:=p.x < bs.length ∧ p.y < bs.length ∧ p.z < bs.length
theorem mem_getD {bs : List Int} {k : Nat} (h : k < bs.length) : bs.getD k 0 ∈ bs:=by
 rw [List.getD_eq_getElem?_getD,List.getElem?_eq_getElem h]; simp
theorem visT_mem {bs : List Int} {p : Th} (hb : BsOk bs) (hp : InB bs p) : tal p ∈ truthsV bs (visT bs p).ds (visT bs p).n:=by
 refine (mem_truthsV hb.asc (.inl rfl)).2 (mem_refTs.2 ?_)
 exact ⟨p.x,p.y,p.z,hp.1,hp.2.1,hp.2.2,by simp [hasV,visT],rfl⟩
theorem visF_mem {bs : List Int} {p : Th} {u : List Int} (hb : BsOk bs) (hp : InB bs p) : u ∈ truthsV bs (visF bs p).ds (visF bs p).n ↔ u = tal p:=by
 refine (mem_truthsV hb.asc (.inr rfl)).trans (mem_refTs.trans ?_)
 constructor
 · rintro ⟨x,y,z,hx,hy,hz,hh,rfl⟩
   simp only [hasV,visF,List.getD_cons_zero,List.getD_cons_succ,reduceCtorEq,if_false,Bool.and_eq_true,decide_eq_true_eq] at hh
   obtain ⟨⟨h1,h2⟩,h3⟩:=hh
   rw [tal,getD_inj hb.asc hp.1 hx h1,getD_inj hb.asc hp.2.1 hy h2,getD_inj hb.asc hp.2.2 hz h3]
 · rintro rfl
   exact ⟨p.x,p.y,p.z,hp.1,hp.2.1,hp.2.2,by simp [hasV,visF],rfl⟩
theorem visP_mem {bs : List Int} {p : Th} (hb : BsOk bs) (hp : InB bs p) : tal p ∈ truthsV bs (visP bs p).ds (visP bs p).n:=by
 unfold visP
 split
 · exact (visF_mem hb hp).2 rfl
 · exact visT_mem hb hp
theorem sum3_le {bs : List Int} {p : Th} (hb : BsOk bs) (hp : InB bs p) : 0 ≤ sum3 bs p.x p.y p.z ∧ sum3 bs p.x p.y p.z ≤ 180:=by
 have h1:=(hb.bed _ (mem_getD hp.1)).2
 have h2:=(hb.bed _ (mem_getD hp.2.1)).2
 have h3:=(hb.bed _ (mem_getD hp.2.2)).2
 unfold sum3; omega
theorem visP_E {bs : List Int} {p : Th} (hb : BsOk bs) (hp : InB bs p) : visitE bs (visP bs p).ds (visP bs p).n = 0:=by
 have hm:=visP_mem hb hp
 have hne : (truthsV bs (visP bs p).ds (visP bs p).n).isEmpty = false:=by
  cases h : truthsV bs (visP bs p).ds (visP bs p).n with
  | nil=>rw [h] at hm; simp at hm
  | cons=>rfl
 have hs:=sum3_le hb hp
 unfold visitE
 rw [hne]
 have h0 : ¬ ((visP bs p).ds ≠ [] ∧ ((visP bs p).ds.length ≠ 3 ∨ (visP bs p).n ≠ 0)):=by
  unfold visP; split <;> simp [visF,visT]
 have h1 : 0 ≤ (visP bs p).n ∧ (visP bs p).n ≤ 240:=by
  unfold visP; split
  · simp [visF]
  · simp only [visT]; omega
 rw [if_neg h0,if_neg (by simpa using h1)]
 simp
def loK (bs : List Int) (k : Nat) (v : Vi) : Int:=(accL (truthsV bs v.ds v.n)).2.1.getD k 0
def hiK (bs : List Int) (k : Nat) (v : Vi) : Int:=(accL (truthsV bs v.ds v.n)).2.2.getD k 0
def tK (k : Nat) (p : Th) : Int:=(tal p).getD k 0
theorem visP_len {bs : List Int} {p : Th} (hb : BsOk bs) (hp : InB bs p) : Len10 (truthsV bs (visP bs p).ds (visP bs p).n):=truthsV_small (visP_E hb hp)
theorem visP_ne {bs : List Int} {p : Th} (hb : BsOk bs) (hp : InB bs p) : truthsV bs (visP bs p).ds (visP bs p).n ≠ []:=fun e=>by
 have:=visP_mem hb hp
 rw [e] at this; simp at this
theorem between {bs : List Int} {p : Th} {k : Nat} (hk : k < 10) (hb : BsOk bs) (hp : InB bs p) : loK bs k (visP bs p) ≤ tK k p ∧ tK k p ≤ hiK bs k (visP bs p) :=
 ⟨(accL_least hk _ _ rfl (visP_ne hb hp) (visP_len hb hp)).2 _ (visP_mem hb hp),(accL_most hk _ _ rfl (visP_ne hb hp) (visP_len hb hp)).2 _ (visP_mem hb hp)⟩
theorem bounds {bs : List Int} {p : Th} {k : Nat} (hk : k < 10) (hb : BsOk bs) (hp : InB bs p) : 0 ≤ loK bs k (visP bs p) ∧ hiK bs k (visP bs p) ≤ 3:=by
 obtain ⟨h1,h2⟩:=accL_small (b:=3) (by omega) _ (visP_len hb hp)
 exact ⟨(h1.getD hk).1,(h2.getD hk).2⟩
theorem visP_full {bs : List Int} {p : Th} (h : p.kn = true) : visP bs p = visF bs p:=by simp [visP,h]
theorem exact_ {bs : List Int} {p : Th} {k : Nat} (hk : k < 10) (hb : BsOk bs) (hp : InB bs p) (h : p.kn = true) : loK bs k (visP bs p) = tK k p ∧ hiK bs k (visP bs p) = tK k p:=by
 obtain ⟨t,ht,e1⟩:=(accL_least hk _ _ rfl (visP_ne hb hp) (visP_len hb hp)).1
 obtain ⟨u,hu,e2⟩:=(accL_most hk _ _ rfl (visP_ne hb hp) (visP_len hb hp)).1
 rw [visP_full h] at ht hu
 rw [visF_mem hb hp] at ht hu
 subst ht hu
 exact ⟨e1.symm,e2.symm⟩
theorem sum_le {α : Type} {f g : α → Int} : ∀ {l : List α},(∀ x ∈ l,f x ≤ g x) → (l.map f).sum ≤ (l.map g).sum
 | [],_=>by simp
 | x :: l, h => by
   have h1:=h x (by simp)
   have h2:=sum_le (l:=l) fun y hy=>h y (by simp [hy])
   simp only [List.map_cons,List.sum_cons]; omega
theorem sum_eq {α : Type} {f g : α → Int} {l : List α} (h : ∀ x ∈ l,f x = g x) : (l.map f).sum = (l.map g).sum:=by
 rw [List.map_congr_left h]
theorem sum_app : ∀ (a b : List Int),(a ++ b).sum = a.sum + b.sum
 | [],b=>by simp
 | x :: a,b=>by simp only [List.cons_append,List.sum_cons,sum_app a b]; omega
theorem sum_set {α : Type} {f : α → Int} : ∀ {l : List α} {i : Nat} {x y : α},l[i]? = some x → ((l.set i y).map f).sum = (l.map f).sum - f x + f y
 | [],i,x,y,h=>by simp at h
 | a :: l, 0, x, y, h => by
   simp only [List.getElem?_cons_zero,Option.some.injEq] at h
   subst h
   simp only [List.set_cons_zero,List.map_cons,List.sum_cons]; omega
 | a :: l, i + 1, x, y, h => by
   simp only [List.getElem?_cons_succ] at h
   simp only [List.set_cons_succ,List.map_cons,List.sum_cons,sum_set h]; omega
theorem sum_const {α : Type} {f : α → Int} {c : Int} : ∀ {l : List α},(∀ x ∈ l,f x = c) → (l.map f).sum = c * l.length
 | [],_=>by simp
 | x :: l, h => by
   simp only [List.map_cons,List.sum_cons,sum_const (l:=l) fun y hy=>h y (by simp [hy]),h x (by simp),List.length_cons,Int.natCast_add,Int.mul_add]; omega
theorem sum_bound {α : Type} {f : α → Int} {c : Int} {l : List α} (h : ∀ x ∈ l,f x ≤ c) : (l.map f).sum ≤ c * l.length:=by
 have:=sum_le (f:=f) (g:=fun _=>c) h
 rwa [sum_const (f:=fun _ : α=>c) (c:=c) (fun _ _=>rfl)] at this
theorem sum_nonneg {α : Type} {f : α → Int} {l : List α} (h : ∀ x ∈ l,0 ≤ f x) : 0 ≤ (l.map f).sum:=by
 have:=sum_le (f:=fun _=>0) (g:=f) h
 rwa [sum_const (f:=fun _ : α=>0) (c:=0) (fun _ _=>rfl),Int.zero_mul] at this
theorem sum_add {α : Type} {f g : α → Int} : ∀ {l : List α},(l.map fun x=>f x + g x).sum = (l.map f).sum + (l.map g).sum
 | []=>by simp
 | x :: l=>by simp only [List.map_cons,List.sum_cons,sum_add (l:=l)]; omega
theorem sum_swap {α β : Type} {f : α → β → Int} {l : List α} : ∀ {m : List β},(l.map fun x=>(m.map (f x)).sum).sum = (m.map fun y=>(l.map fun x=>f x y).sum).sum
 | []=>by simp only [List.map_nil,List.sum_nil]; exact (sum_const (f:=fun _ : α=>0) (fun _ _=>rfl)).trans (Int.zero_mul _)
 | y :: m => by
   simp only [List.map_cons,List.sum_cons,← sum_swap (l:=l) (m:=m)];exact sum_add
theorem sum_one1 {x : Nat} : ∀ {N : Nat},x < N → ((List.range N).map (one1 x)).sum = 1:=by
 have h0 : ∀ {N : Nat},N ≤ x → ((List.range N).map (one1 x)).sum = 0:=by
  intro N hN
  refine (sum_const (c:=0) fun k hk=>?_).trans (Int.zero_mul _)
  have:=List.mem_range.1 hk
  unfold one1; rw [if_neg (by omega)]
 intro N
 induction N with
 | zero=>intro h; omega
 | succ N ih =>
   intro h
   rw [List.range_succ,List.map_append,sum_app]
   by_cases e : x = N
   · subst e; rw [h0 (Nat.le_refl _)]; simp [one1]
   · rw [ih (by omega)]; simp [one1,e]
theorem foldl_addT {α : Type} {f : α → List Int} {k : Nat} (hk : k < 10) : ∀ {l : List α} {le : List Int},(∀ v ∈ l,(f v).length = 10) → le.length = 10 →
 (l.foldl (fun a v=>addT a (f v)) le).length = 10 ∧ (l.foldl (fun a v=>addT a (f v)) le).getD k 0 = le.getD k 0 + (l.map fun v=>(f v).getD k 0).sum
 | [],le,_,h=>by simp [h]
 | v :: l, le, hf, h => by
   have hv:=hf v (by simp)
   have hl : (addT le (f v)).length = 10:=by unfold addT; rw [List.length_zipWith]; omega
   obtain ⟨h1,h2⟩:=foldl_addT hk (l:=l) (le:=addT le (f v)) (fun u hu=>hf u (by simp [hu])) hl
   refine ⟨h1,?_⟩
   rw [List.foldl_cons,h2,getD_addT (by omega) (by omega),List.map_cons,List.sum_cons]; omega
theorem runF_all {bs : List Int} : ∀ {l : List Vi} {le mo : List Int} {i : Nat},(∀ v ∈ l,visitE bs v.ds v.n = 0) →
 runF bs le mo i l = (l.foldl (fun a v=>addT a (accL (truthsV bs v.ds v.n)).2.1) le,l.foldl (fun a v=>addT a (accL (truthsV bs v.ds v.n)).2.2) mo,none)
 | [],_,_,_,_=>rfl
 | v :: l, le, mo, i, h => by
   have hv:=h v (by simp)
   rw [runF,if_pos hv,runF_all fun u hu=>h u (by simp [hu]),leV,if_pos hv,moV,if_pos hv]
   rfl
def spB (bs : List Int) (l : List Vi) : List Bd:=(List.range bs.length).map fun k=>Bd.mk (bs.getD k 0) (l.map (loK bs k)).sum (l.map (hiK bs k)).sum
def aimB (bs : List Int) : Am:=⟨201,bs.map fun b=>Bd.mk b 0 0⟩
theorem seqOk_of : ∀ {l : List Bd} {p : Option Int},(l.map (·.b)).Pairwise (· < ·) → (∀ x ∈ l,x.b = 0 ∨ bedOk x.b = true) → (∀ q,p = some q → ∀ x ∈ l,q < x.b) → seqOk p l = true
 | [],_,_,_,_=>rfl
 | x :: l, p, h1, h2, h3 => by
   rw [List.map_cons,List.pairwise_cons] at h1
   have hx:=h2 x (by simp)
   have hr : seqOk (some x.b) l = true:=seqOk_of h1.2 (fun y hy=>h2 y (by simp [hy])) fun q hq y hy=>by
    injection hq with hq; subst hq
    exact h1.1 _ (List.mem_map.2 ⟨y,hy,rfl⟩)
   simp only [seqOk,hr,Bool.and_true,Bool.and_eq_true,Bool.or_eq_true,decide_eq_true_eq]
   refine ⟨hx,?_⟩
   cases p with
   | none=>rfl
   | some q=>simpa using h3 q rfl x (by simp)
theorem spB_b (bs : List Int) (l : List Vi) : (spB bs l).map (·.b) = bs:=by
 unfold spB
 rw [List.map_map]
 apply List.ext_getElem?
 intro k
 rw [List.getElem?_map]
 by_cases hk : k < bs.length
 · rw [List.getElem?_range hk,List.getElem?_eq_getElem hk]
   simp [List.getD_eq_getElem?_getD,List.getElem?_eq_getElem hk]
 · rw [List.getElem?_eq_none (by simpa using hk),List.getElem?_eq_none (by omega)]; rfl
theorem seqOk_bs {bs : List Int} {l : List Bd} (hb : BsOk bs) (h : l.map (·.b) = bs) : seqOk none l = true :=
 seqOk_of (by rw [h]; exact hb.asc) (fun x hx=>(hb.bed x.b (by rw [← h]; exact List.mem_map.2 ⟨x,hx,rfl⟩)).1) fun q hq=>by cases hq
theorem fitV_vis {bs : List Int} {l : List Vi} (hb : BsOk bs) (h0 : l ≠ []) (h1 : l.length ≤ 30) (hv : ∀ v ∈ l,visitE bs v.ds v.n = 0) : fitV (aimB bs) l = (Am.mk 201 (spB bs l),3 * (l.length : Int),0,0):=by
 have hm : (aimB bs).beds.map (·.b) = bs:=by simp [aimB,List.map_map,Function.comp_def]
 have hl : (aimB bs).beds.length = bs.length:=by simp [aimB]
 have hne : (aimB bs).beds.isEmpty = false:=by
  have:=hb.ne
  cases bs with
  | nil=>exact absurd rfl this
  | cons=>rfl
 have hg : (bedOk (aimB bs).at_ && !(aimB bs).beds.isEmpty && seqOk none (aimB bs).beds) = true:=by
  rw [hne,seqOk_bs hb hm]; rfl
 have hlen:=hb.len
 rw [fitV,if_neg (by omega),if_neg (by rw [hg]; decide),if_neg h0,if_neg (by omega),hm,runF_all hv]
 simp only [aimB,List.length_map,Prod.mk.injEq,Am.mk.injEq,and_true,true_and]
 unfold spB
 refine List.map_congr_left fun k hk=>?_
 have hk:=List.mem_range.1 hk
 have hA : ∀ v ∈ l,(accL (truthsV bs v.ds v.n)).2.1.length = 10 ∧ (accL (truthsV bs v.ds v.n)).2.2.length = 10:=fun v hv'=>accL_len (truthsV_small (hv v hv'))
 unfold bedAt
 rw [(foldl_addT (k:=k) (by omega) (fun v hv'=>(hA v hv').1) rfl).2,(foldl_addT (k:=k) (by omega) (fun v hv'=>(hA v hv').2) rfl).2,zeroT_getD (by omega),Int.zero_add,Int.zero_add]
 rfl
structure Ls (bs : List Int) (L : List Th) : Prop where
 b : BsOk bs
 ne : L ≠ []
 len : L.length ≤ 30
 in_ : ∀ p ∈ L,InB bs p
def cntK (L : List Th) (k : Nat) : Int:=(L.map (tK k)).sum
abbrev visL (bs : List Int) (L : List Th) : List Vi:=L.map (visP bs)
theorem fit_vis {bs : List Int} {L : List Th} (h : Ls bs L) : fitV (aimB bs) (visL bs L) = (Am.mk 201 (spB bs (visL bs L)),3 * (L.length : Int),0,0):=by
 have:=fitV_vis (l:=visL bs L) h.b (by simpa using h.ne) (by simpa using h.len) fun v hv=>by
  obtain ⟨p,hp,rfl⟩:=List.mem_map.1 hv
  exact visP_E h.b (h.in_ p hp)
 rwa [List.length_map] at this
theorem cnt_between {bs : List Int} {L : List Th} {k : Nat} (hk : k < 10) (h : Ls bs L) : ((visL bs L).map (loK bs k)).sum ≤ cntK L k ∧ cntK L k ≤ ((visL bs L).map (hiK bs k)).sum:=by
 simp only [visL,List.map_map];exact ⟨sum_le fun p hp=>(between hk h.b (h.in_ p hp)).1,sum_le fun p hp=>(between hk h.b (h.in_ p hp)).2⟩
theorem cnt_full {bs : List Int} {L : List Th} {k : Nat} (hk : k < 10) (h : Ls bs L) (hf : ∀ p ∈ L,p.kn = true) : ((visL bs L).map (loK bs k)).sum = cntK L k ∧ ((visL bs L).map (hiK bs k)).sum = cntK L k:=by
 simp only [visL,List.map_map];exact ⟨sum_eq fun p hp=>(exact_ hk h.b (h.in_ p hp) (hf p hp)).1,sum_eq fun p hp=>(exact_ hk h.b (h.in_ p hp) (hf p hp)).2⟩
def know (L : List Th) (i : Nat) : List Th:=match L[i]? with | some p=>L.set i { p with kn:=true } | none=>L
theorem sum_tK {N : Nat} {p : Th} (hN : N ≤ 10) (h : p.x < N ∧ p.y < N ∧ p.z < N) : ((List.range N).map fun k=>tK k p).sum = 3:=by
 have : ((List.range N).map fun k=>tK k p).sum = ((List.range N).map fun k=>(one1 p.x k + one1 p.y k) + one1 p.z k).sum:=sum_eq fun k hk=>by
  have hk:=List.mem_range.1 hk
  exact getD_tally3 (by omega) (by omega) (by omega) (by omega)
 rw [this,sum_add,sum_add,sum_one1 h.1,sum_one1 h.2.1,sum_one1 h.2.2]
 rfl
theorem sum_cnt {bs : List Int} {L : List Th} (h : Ls bs L) : ((List.range bs.length).map (cntK L)).sum = 3 * L.length:=by
 unfold cntK
 rw [sum_swap (f:=fun k p=>tK k p)]
 exact sum_const fun p hp=>sum_tK h.b.len (h.in_ p hp)
theorem spB_check {bs : List Int} {L : List Th} (h : Ls bs L) : checkV (3 * L.length) [⟨201,spB bs (visL bs L)⟩] = 0:=by
 have hpos : 0 < L.length:=List.length_pos_iff.2 h.ne
 have hl:=h.len
 have hbl:=h.b.len
 have hlen : (spB bs (visL bs L)).length = bs.length:=by simp [spB]
 have hseq:=seqOk_bs h.b (spB_b bs (visL bs L))
 have hne : (spB bs (visL bs L)).isEmpty = false:=by
  have:=h.b.ne
  cases hq : spB bs (visL bs L) with
  | nil=>rw [hq] at hlen; exact absurd (List.length_eq_zero_iff.1 hlen.symm) this
  | cons=>rfl
 have hch : chOk (3 * L.length) (spB bs (visL bs L)) = true:=by
  unfold chOk
  rw [List.all_eq_true]
  intro x hx
  obtain ⟨k,hk,rfl⟩:=List.mem_map.1 hx
  have hk:=List.mem_range.1 hk
  have h1:=cnt_between (k:=k) (by omega) h
  have h2 : 0 ≤ ((visL bs L).map (loK bs k)).sum:=by
   simp only [visL,List.map_map];exact sum_nonneg fun p hp=>(bounds (by omega) h.b (h.in_ p hp)).1
  have h3 : ((visL bs L).map (hiK bs k)).sum ≤ 3 * L.length:=by
   simp only [visL,List.map_map];exact sum_bound fun p hp=>(bounds (by omega) h.b (h.in_ p hp)).2
  simp only [Bool.and_eq_true,decide_eq_true_eq]
  omega
 have hlo : loS (spB bs (visL bs L)) ≤ 3 * L.length:=by
  rw [← sum_cnt h,loS,spB,List.map_map]
  exact sum_le fun k hk=>(cnt_between (by have:=List.mem_range.1 hk; omega) h).1
 have hhi : 3 * (L.length : Int) ≤ hiS (spB bs (visL bs L)):=by
  rw [← sum_cnt h,hiS,spB,List.map_map]
  exact sum_le fun k hk=>(cnt_between (by have:=List.mem_range.1 hk; omega) h).2
 have ha : aimOk (3 * L.length) ⟨201,spB bs (visL bs L)⟩ = true:=by
  have h201 : bedOk 201 = true:=rfl
  simp only [aimOk,h201,hne,hseq,hch,Bool.not_false,Bool.and_self,Bool.true_and,Bool.and_eq_true,decide_eq_true_eq];exact ⟨hlo,hhi⟩
 unfold checkV
 rw [if_neg (by simp; omega),if_neg (by simp; omega),if_pos (by simp [ha])]
end Go.Proofs.Ytlljkgiomkmjbaa.Du.Th

namespace Go.Oc
open Go Go.RowKit
set_option linter.unusedVariables false
section
variable {ρ : List (Nat × Nat)} {ver ver' : Nat → Nat}
mutual
theorem lendA_congr (hv : ∀ k,(lendKey ρ k).isSome = true → ver' k = ver k) : ∀ x : AV,lendA ρ ver' x = lendA ρ ver x
 | .r _=>by simp only [lendA]
 | .tu _=>by simp only [lendA]
 | .mi _ _=>by simp only [lendA]
 | .pt k _ _=>by simp only [lendA]; cases e : lendKey ρ k with | none=>rfl | some pk=>rw [hv k (by rw [e]; rfl)]
 | .pe k _ _ _ _=>by simp only [lendA]; cases e : lendKey ρ k with | none=>rfl | some pk=>rw [hv k (by rw [e]; rfl)]
 | .os k _ _ _ _=>by simp only [lendA]; cases e : lendKey ρ k with | none=>rfl | some pk=>rw [hv k (by rw [e]; rfl)]
 | .mp k _=>by simp only [lendA]; cases e : lendKey ρ k with | none=>rfl | some pk=>rw [hv k (by rw [e]; rfl)]
 | .pu k _ _=>by simp only [lendA]; cases e : lendKey ρ k with | none=>rfl | some pk=>rw [hv k (by rw [e]; rfl)]
 | .fn _ cs=>by simp only [lendA]; rw [lendL_congr hv cs]
 | .ag cs=>by simp only [lendA]; rw [lendL_congr hv cs]
theorem lendL_congr (hv : ∀ k,(lendKey ρ k).isSome = true → ver' k = ver k) : ∀ xs : List AV,lendL ρ ver' xs = lendL ρ ver xs
 | []=>by simp only [lendL]
 | x :: xs=>by simp only [lendL]; rw [lendA_congr hv x,lendL_congr hv xs]
end
theorem lendC_congr (hv : ∀ k,(lendKey ρ k).isSome = true → ver' k = ver k) (c : RowC) : lendC ρ ver' c = lendC ρ ver c:=by
 cases c <;> simp only [lendC]
 all_goals rw [lendL_congr hv]
theorem key_of_pin : ∀ {ρ : List (Nat × Nat)} {j ck : Nat},pinOf ρ j = some ck → (lendKey ρ ck).isSome = true
 | [],_,_,h=>by simp [pinOf] at h
 | (x, y) :: ρ, j, ck, h => by
   simp only [pinOf] at h
   simp only [lendKey]
   split at h
   · injection h with h; subst h; simp
   · split
     · rfl
     · exact key_of_pin h
mutual
theorem backA_congr (hv : ∀ k,(lendKey ρ k).isSome = true → ver' k = ver k) : ∀ x : AV,backA ρ ver' x = backA ρ ver x
 | .r _=>by simp only [backA]
 | .mi _ _=>by simp only [backA]
 | .pt k _ _=>by simp only [backA]; cases e : pinOf ρ k with | none=>rfl | some ck=>simp only [hv ck (key_of_pin e)]
 | .pe k _ _ _ _=>by simp only [backA]; cases e : pinOf ρ k with | none=>rfl | some ck=>simp only [hv ck (key_of_pin e)]
 | .os k _ _ _ _=>by simp only [backA]; cases e : pinOf ρ k with | none=>rfl | some ck=>simp only [hv ck (key_of_pin e)]
 | .mp k _=>by simp only [backA]; cases e : pinOf ρ k with | none=>rfl | some ck=>simp only [hv ck (key_of_pin e)]
 | .pu k _ _=>by simp only [backA]; cases e : pinOf ρ k with | none=>rfl | some ck=>simp only [hv ck (key_of_pin e)]
 | .tu cs=>by simp only [backA]; rw [backL_congr hv cs]
 | .fn _ cs=>by simp only [backA]; rw [backL_congr hv cs]
 | .ag cs=>by simp only [backA]; rw [backL_congr hv cs]
theorem backL_congr (hv : ∀ k,(lendKey ρ k).isSome = true → ver' k = ver k) : ∀ xs : List AV,backL ρ ver' xs = backL ρ ver xs
 | []=>by simp only [backL]
 | x :: xs=>by simp only [backL]; rw [backA_congr hv x,backL_congr hv xs]
end
theorem backC_congr (hv : ∀ k,(lendKey ρ k).isSome = true → ver' k = ver k) (c : RowC) : backC ρ ver' c = backC ρ ver c:=by
 cases c <;> simp only [backC]
 all_goals rw [backL_congr hv]
theorem lendOk_congr {s s' : AS} (hr : ∀ k,(lendKey ρ k).isSome = true → s'.rows k = s.rows k) : ∀ {l : List (Nat × Nat)} {L : List (Nat × RowC)},(∀ x ∈ l,(lendKey ρ x.2).isSome = true) → lendOk ρ s l L → lendOk ρ s' l L
 | [],[],_,h=>h
 | [],_ :: _,_,h=>h.elim
 | _ :: _,[],_,h=>h.elim
 | (a, b) :: l, (k, c) :: L, hl, h => by
   simp only [lendOk] at h ⊢
   obtain ⟨h1,h2,h3⟩:=h
   refine ⟨h1,?_,lendOk_congr hr (fun x hx=>hl x (by simp [hx])) h3⟩
   rw [hr b (hl (a,b) (by simp)),lendC_congr (ver:=s.ver) fun k hk=>by show (s'.rows k).ver = _; rw [hr k hk]; rfl]
   exact h2
theorem lendKey_mem : ∀ {ρ : List (Nat × Nat)} {x : Nat × Nat},x ∈ ρ → (lendKey ρ x.2).isSome = true
 | (a, b) :: ρ, x, h => by
   simp only [lendKey]
   split
   · rfl
   · rename_i hne
     rcases List.mem_cons.1 h with h | h
     · subst h; exact absurd rfl hne
     · exact lendKey_mem h
theorem mem_of_key : ∀ {ρ : List (Nat × Nat)} {k : Nat},(lendKey ρ k).isSome = true → ∃ x ∈ ρ,x.2 = k
 | [],_,h=>by simp [lendKey] at h
 | (a, b) :: ρ, k, h => by
   simp only [lendKey] at h
   split at h
   · rename_i e; exact ⟨(a,b),by simp,e.symm⟩
   · obtain ⟨x,h1,h2⟩:=mem_of_key h
     exact ⟨x,by simp [h1],h2⟩
theorem pin_mem : ∀ {ρ : List (Nat × Nat)} {j ck : Nat},pinOf ρ j = some ck → (j,ck) ∈ ρ
 | [],_,_,h=>by simp [pinOf] at h
 | (x, y) :: ρ, j, ck, h => by
   simp only [pinOf] at h
   split at h
   · rename_i e; injection h with h; subst h e; simp
   · exact List.mem_cons_of_mem _ (pin_mem h)
end
section
variable {P : Program} {s : AS}
def found (s : AS) (ρ : List (Nat × Nat)) (xs : List AV) : Prop :=
 ∀ x ∈ ρ,¬ AV.nrL x.2 (s.ver x.2) xs ∨ ∃ y ∈ ρ,∃ cs,¬ AV.nrL y.2 (s.ver y.2) xs ∧ (s.rows y.2).c = .box cs ∧ ¬ AV.nrL x.2 (s.ver x.2) cs
theorem bcall_of {f : AV} {xs : List AV} {ρ : List (Nat × Nat)} {L : List (Nat × RowC)} {args : List AV} {F : FuncId} {cs : List AV} {r : RV} (hM : MCalls P F L L args (.r r)) (hF : callee? f = some (F,cs)) (hl : lendL ρ s.ver (xs ++ cs) = some args)
 (hL : lendOk ρ s ρ L) (hap : apart ρ = true) (hsk : sameKeys ρ L = true) (hback : ∀ x ∈ ρ,backC ρ s.ver (lookc L x.1) = (s.rows x.2).c) (hre : found s ρ (f :: xs)) : BCallOk P s f xs r:=by
 refine ⟨fun k=>(lendKey ρ k).isSome = true,fun k hk=>?_,fun s' hs'=>?_⟩
 · obtain ⟨x,hx,rfl⟩:=mem_of_key hk
   rcases hre x hx with h | ⟨y,hy,cs',h1,h2,h3⟩
   · exact .inl h
   · exact .inr ⟨y.2,cs',lendKey_mem hy,h1,h2,h3⟩
 · have hv : ∀ k,(lendKey ρ k).isSome = true → s'.ver k = s.ver k:=fun k hk=>by show (s'.rows k).ver = _; rw [hs' k hk]; rfl
   have hbk : s'.backs ρ L = s':=by
    unfold AS.backs
    refine AS.ext rfl rfl ?_
    funext j
    obtain ⟨g1,g2⟩:=backRows_get (ρ:=ρ) (ver:=s'.ver) (L':=L) (l:=ρ) (rows:=s'.rows) hap j
    cases e : lendKey ρ j with
    | none=>exact g1 e
    | some pk =>
      have hj : (lendKey ρ j).isSome = true:=by rw [e]; rfl
      have hp:=pin_lend hap e
      have hx : (pk,j) ∈ ρ:=pin_mem hp
      refine (g2 pk e).trans ?_
      rw [backC_congr hv,hback _ hx,← hs' j hj]
      rfl
   intro C p a w o g as1 ts hs ho hg has hd K Q hK
   subst hg has
   refine mcall_sound hs ho (KA:=fun t=>t = s'.put o.dst (.r r)) ⟨F,cs,ρ,L,L,args,.r r,hF,by rw [lendL_congr hv]; exact hl,lendOk_congr hs' (fun x hx=>lendKey_mem hx) hL,hap,hsk,hM,?_⟩ hd ?_
   · rw [hbk]; simp only [backA]
   · rintro a' w' p' t ht _ rfl
     exact hK a' w' p' ht
theorem xcall_keep {D : Bool} {n : Nat} {l : List (Nat × AV)} {vs : Nat → Nat} {rw : List (Nat × RowC)} {f : AV} {xs : List AV} {L : List (Nat × RowC)} {args : List AV} {F : FuncId} {caps : List AV} {r : RV} {d : Option Nat} {K : AS → Prop} (hM : MCalls P F L L args (.r r)) (ρ : List (Nat × Nat)) (hF : callee? f = some (F,caps))
 (hl : lendL ρ vs (xs ++ caps) = some args) (hL : lendOk ρ (st n l vs rw) ρ L) (hap : apart ρ = true) (hsk : sameKeys ρ L = true) (hback : ∀ x ∈ ρ,backC ρ vs (lookc L x.1) = lookc rw x.2) (hre : found (st n l vs rw) ρ (f :: xs)) (hK : K ((st n l vs rw).put d (.r r))) : xcall P D (st n l vs rw) d f xs K :=
 .inl ⟨r,.inr (bcall_of hM hF hl hL hap hsk hback hre),hK⟩
end
section
variable {P : Program} {C : Ctx} {Q : Exit → AS → Prop} {s : AS} {Φ : List (RV × RV) → Prop}
theorem awp_openMR {c : Code} (k : Nat) (hc : (s.rows k).c = .mem Φ) (h : ∀ m,Φ m → awp P C c Q { s with rows:=upd s.rows k ⟨(s.rows k).ver,.mp m⟩ }) : awp P C c Q s:=fun a w ⟨p,hs⟩=>by
 have hrow:=hs.rw k
 rw [hc] at hrow
 simp only [rowRel] at hrow
 obtain ⟨m,b,hΦ,hβ,hm⟩:=hrow
 have hset:=hs.setRow (w':=w) k (.mp m) (by rw [hc]; rfl) (fun _ _ _ _ h=>by cases h) hβ rfl rfl rfl rfl (fun i _=>rfl) (fun _=>by
  simp only [rowRel];exact ⟨b,hβ,hm⟩)
 exact h m hΦ a w ⟨p,hset⟩
theorem sub_shutMR (k : Nat) {m : List (RV × RV)} (hc : (s.rows k).c = .mp m) (hΦ : Φ m) : Sub s { s with rows:=upd s.rows k ⟨(s.rows k).ver,.mem Φ⟩ }:=fun C a w ⟨p,hs⟩=>by
 have hrow:=hs.rw k
 rw [hc] at hrow
 simp only [rowRel] at hrow
 obtain ⟨b,hβ,hm⟩:=hrow
 exact ⟨p,hs.setRow (w':=w) k (.mem Φ) (by rw [hc]; rfl) (fun _ _ _ _ h=>by cases h) hβ rfl rfl rfl rfl (fun i _=>rfl) (fun _=>by
  simp only [rowRel];exact ⟨m,b,hΦ,hβ,hm⟩)⟩
variable {n : Nat} {l : List (Nat × AV)} {vs : Nat → Nat} {cs : List (Nat × RowC)}
theorem st_rowQ (k : Nat) (c : RowC) : ({ st n l vs cs with rows:=upd (st n l vs cs).rows k ⟨((st n l vs cs).rows k).ver,c⟩ } : AS) = st n l vs (insc cs k c):=by
 simp only [st,AS.mk.injEq,true_and]
 funext j
 rw [lookc_insc]
 unfold upd
 split
 · rename_i e; subst e; rfl
 · rfl
theorem awp_openM {c : Code} (k : Nat) (hc : lookc cs k = .mem Φ) (h : ∀ m,Φ m → awp P C c Q (st n l vs (insc cs k (.mp m)))) : awp P C c Q (st n l vs cs) :=
 awp_openMR k hc fun m hm=>by rw [st_rowQ]; exact h m hm
theorem sub_shutM (Φ : List (RV × RV) → Prop) (k : Nat) {m : List (RV × RV)} (hc : lookc cs k = .mp m) (hΦ : Φ m) : Sub (st n l vs cs) (st n l vs (insc cs k (.mem Φ))):=by
 have:=sub_shutMR (s:=st n l vs cs) k hc hΦ
 rwa [st_rowQ] at this
end
end Go.Oc

namespace Go.Proofs.Ytlljkgiomkmjbaa.Du
open Go Go.Oc
set_option linter.unusedSimpArgs false
set_option linter.unusedVariables false
set_option maxRecDepth 8000
abbrev Sp:=Int × Int
def spanR (x : Int × Int) : List RV:=[i64 x.1,i64 x.2]
abbrev spanV (x : Int × Int) : RV:=.ag [i64 x.1,i64 x.2]
abbrev spansR (l : List (Int × Int)) : RV:=.sl 2 (l.map spanR)
structure Ru where
 d : Int
 aims : List Am
 start : Int
 out : Int
 ends : List (Int × Int)
abbrev ruC (r : Ru) : List RV:=[i64 r.d,aimsR r.aims,i64 r.start,i64 r.out,spansR r.ends]
abbrev ruV (r : Ru) : RV:=.ag (ruC r)
theorem indexS_ok (p : (Int × Int) → Bool) (f : Nat) (caps : List RV) (l : List (Int × Int)) (h : ∀ x ∈ l,ACalls Try.prog f (spanV x :: caps) (.bo (p x))) : ACalls Try.prog 210 [spansR l,.fn f caps] (i64 (indexF p l)):=by
 refine acalls_st (rs:=[i64 (indexF p l)]) [.tmp 4] Try.func210 rfl (by kernel_rfl) Try.ntmps210 rfl (by simp) rfl fun C vs=>?_
 refine zq ?_
 refine zb fun K hK=>?_;simp only [go_sem];refine hK _ ?_;clear hK K
 repeat refine zq ?_
 refine zb fun K hK=>?_;simp only [go_sem]
 intro hl
 refine hK _ ?_;clear hK K;refine zd ?_
 refine awp_upto (n:=19) l.length (fun i vs=>[(0,.r (spansR l)),(1,.r (.fn f caps)),(7,.r (i64 l.length)),(8,.r (i64 i))]) (fun _=>[])
  (fun i=>indexF p l = if indexF p (l.drop i) < 0 then -1 else i + indexF p (l.drop i)) 0 (fit_of [] ?_ rfl) (Nat.zero_le _) ?_ ?_
 · try simp only [go_sem]
 · simp only [List.drop_zero]
   have:=indexF_ge p l
   split
   · omega
   · simp
 · intro i vs hi hI
   refine zq ?_
   refine zb fun K hK=>?_;simp only [go_sem];refine hK _ ?_;clear hK K
   refine zq ?_
   refine zc rfl (fun hc=>?_) (fun hc=>?_) <;> (try simp only [go_sem] at hc)
   · obtain ⟨x,hx⟩:=opt_of_lt hc
     rw [drop_of_opt hx] at hI
     refine zx ?_
     refine zq ?_
     refine zd ?_
     refine zq ?_
     refine zb fun K hK=>?_;simp only [go_sem];refine hK _ ?_;clear hK K
     refine zq ?_
     refine zb fun K hK=>?_;simp only [go_sem,hx,hc,spanR]
     refine zh (h x (mem_of_opt hx)) rfl (by simp only [go_sem,i64,ints]) (by simp only [go_sem,i64,ints]) (by first | exact .inl rfl | exact .inr rfl) ?_
     (try simp only [go_sem]);refine hK _ ?_;clear hK K
     refine zc rfl (fun hc=>?_) (fun hc=>?_) <;> (try simp only [go_sem] at hc)
     · refine zq ?_
       refine zb fun K hK=>?_;simp only [go_sem];refine hK _ ?_;clear hK K;refine ze ?_;simp only [go_sem]
       simp [hI,indexF,hc]
     · refine zx ?_
       try simp only [go_sem]
       refine zb fun K hK=>?_;simp only [go_sem];(try simp (disch:=omega) only [zI]);refine hK _ ?_;clear hK K
       try simp only [go_sem]
       refine ⟨‹_›,?_,fit_of [] ?_ rfl⟩
       · rw [hI]
         simp only [indexF,hc,Bool.false_eq_true,if_false]
         have:=indexF_ge p (l.drop (i + 1))
         (repeat' split) <;> omega
       · try simp only [go_sem]
   · refine zf ?_;simp only [go_sem]
     refine zq ?_
     refine zb fun K hK=>?_;simp only [go_sem];refine hK _ ?_;clear hK K;refine ze ?_;simp only [go_sem]
     have : l.drop i = []:=List.drop_eq_nil_of_le (by omega)
     simp [hI,this,indexF]
theorem containsS_ok (p : (Int × Int) → Bool) (f : Nat) (caps : List RV) (l : List (Int × Int)) (h : ∀ x ∈ l,ACalls Try.prog f (spanV x :: caps) (.bo (p x))) : ACalls Try.prog 158 [spansR l,.fn f caps] (.bo (l.any p)):=by
 refine acalls_st (rs:=[.bo (l.any p)]) [.tmp 4] Try.func158 rfl (by kernel_rfl) Try.ntmps158 rfl (by simp) rfl fun C vs=>?_
 refine zq ?_
 refine zb fun K hK=>?_;simp only [go_sem];refine hK _ ?_;clear hK K
 refine zq ?_
 refine zb fun K hK=>?_;simp only [go_sem]
 refine zh (indexS_ok p f caps l h) rfl (by simp only [go_sem,i64,ints]) (by simp only [go_sem,i64,ints]) (by first | exact .inl rfl | exact .inr rfl) ?_
 (try simp only [go_sem]);refine hK _ ?_;clear hK K;refine ze ?_;simp only [go_sem];rw [← indexF_any]
theorem dwithin1_ok (n a b : Int) : ACalls Try.prog 178 [i64 n,.rp [i64 a],.rp [i64 b]] (.bo (decide (n < a) || decide (b < n))):=by
 refine acalls_st (rs:=[.bo (decide (n < a) || decide (b < n))]) [.tmp 4] Try.func178 rfl (by kernel_rfl) Try.ntmps178 rfl (by simp) rfl fun C vs=>?_
 refine zq ?_
 refine zb fun K hK=>?_;simp only [go_sem];refine hK _ ?_;clear hK K
 refine zq ?_
 refine zb fun K hK=>?_;simp only [go_sem]
 refine ⟨fun h=>?_,fun h=>?_⟩ <;>
 · skip
   refine hK _ ?_;clear hK K;refine ze ?_;simp only [go_sem]
   try simp [h]
theorem dwithin_ok (a b : Int) (l : List Int) : ACalls Try.prog 118 [i64 a,i64 b,ints l] (.bo (withinL a b l)):=by
 refine acalls_st (rs:=[.bo (withinL a b l)]) [.tmp 6] Try.func118 rfl (by kernel_rfl) Try.ntmps118 rfl (by simp) rfl fun C vs=>?_
 refine zq ?_
 refine zb fun K hK=>?_;simp only [go_sem];refine hK _ ?_;clear hK K
 refine zq ?_
 refine zb fun K hK=>?_;simp only [go_sem]
 refine zh (contains_ok (fun n=>decide (n < a) || decide (b < n)) 178 [.rp [i64 a],.rp [i64 b]] l fun x _=>dwithin1_ok x a b) rfl (by simp only [go_sem,i64,ints]) (by simp only [go_sem,i64,ints]) (by first | exact .inl rfl | exact .inr rfl) ?_
 (try simp only [go_sem]);refine hK _ ?_;clear hK K;refine ze ?_;simp only [go_sem];rw [← withinL_not]
def endOk (x : Int × Int) : Bool:=decide (x.1 ≤ x.2) && withinL 0 1000000 [x.1,x.2]
theorem isEnd_ok (x : Int × Int) : ACalls Try.prog 157 [spanV x] (.bo (endOk x)):=by
 refine acalls_st (rs:=[.bo (endOk x)]) [.tmp 2] Try.func157 rfl (by kernel_rfl) Try.ntmps157 rfl (by simp) rfl fun C vs=>?_
 refine zq ?_
 refine zb fun K hK=>?_;simp only [go_sem];refine hK _ ?_;clear hK K;refine zw (sub_frzP 1 1 [i64 x.1,i64 x.2] (by omega) rfl rfl) ?_;refine zw (zk [1]) ?_;simp only [go_sem]
 by_cases h : x.1 ≤ x.2
 · have c : decide (x.1 ≤ x.2) = true:=by simpa using h
   refine zq ?_
   refine zb fun K hK=>?_;simp only [go_sem,c]
   refine zh (dwithin_ok 0 1000000 [x.1,x.2]) rfl (by simp only [go_sem,i64,ints]) (by simp only [go_sem,i64,ints]) (by first | exact .inl rfl | exact .inr rfl) ?_
   (try simp only [go_sem]);refine hK _ ?_;clear hK K;refine zw (zk [2]) ?_;simp only [go_sem];refine ze ?_;simp only [go_sem]
   simp [endOk,h]
 · have c : decide (x.1 ≤ x.2) = false:=by simpa using h
   refine zq ?_
   refine zb fun K hK=>?_;simp only [go_sem,c];refine hK _ ?_;clear hK K;refine zw (zk [2]) ?_;simp only [go_sem];refine ze ?_;simp only [go_sem]
   simp [endOk,h]
theorem bad_ok (x : Int × Int) : ACalls Try.prog 156 [spanV x] (.bo (!endOk x)):=by
 refine acalls_st (rs:=[.bo (!endOk x)]) [.tmp 2] Try.func156 rfl (by kernel_rfl) Try.ntmps156 rfl (by simp) rfl fun C vs=>?_
 refine zq ?_
 refine zb fun K hK=>?_;simp only [go_sem];refine hK _ ?_;clear hK K;refine zw (sub_frzP 1 1 [i64 x.1,i64 x.2] (by omega) rfl rfl) ?_;refine zw (zk [1]) ?_;simp only [go_sem]
 refine zq ?_
 refine zb fun K hK=>?_;simp only [go_sem]
 refine zh (isEnd_ok x) rfl (by simp only [go_sem,i64,ints]) (by simp only [go_sem,i64,ints]) (by first | exact .inl rfl | exact .inr rfl) ?_
 (try simp only [go_sem]);refine hK _ ?_;clear hK K;refine zw (zk [2]) ?_;simp only [go_sem];refine ze ?_;simp only [go_sem]
def lowestR (r : Ru) : Int:=if r.out = 0 then 1 else 2
def lastE (r : Ru) : Int:=(r.ends.getD (r.ends.length - 1) (0,0)).1
def ruE (r : Ru) : Int :=
 if checkV r.d r.aims ≠ 0 then checkV r.d r.aims
 else if (decide (2 ≤ r.start) && decide (r.start ≤ 40) && decide (0 ≤ r.out) && decide (r.out ≤ 2) && decide (1 ≤ r.ends.length) && decide (r.ends.length ≤ 10) && r.ends.all endOk && decide (lastE r = 1000000)) = true then 0 else 2
theorem within1L (a b n : Int) : withinL a b [n] = (decide (a ≤ n) && decide (n ≤ b)):=by simp [withinL]
structure WfR (r : Ru) : Prop where
 law : WfL r.d r.aims
theorem dcheck_ok (r : Ru) (hw : WfR r) : ACalls Try.prog 88 [ruV r] (i64 (ruE r)):=by
 have hc:=check_ok r.d r.aims hw.law
 refine acalls_st (rs:=[i64 (ruE r)]) [.tmp 2] Try.func88 rfl (by kernel_rfl) Try.ntmps88 rfl (by simp) rfl fun C vs=>?_
 refine zq ?_
 refine zb fun K hK=>?_;simp only [go_sem];refine hK _ ?_;clear hK K;refine zw (sub_frzP 1 1 (ruC r) (by omega) rfl rfl) ?_;refine zw (zk [1]) ?_;simp only [go_sem]
 repeat refine zq ?_
 refine zb fun K hK=>?_;simp only [go_sem]
 refine zh (hc) rfl (by simp only [go_sem,i64,ints]) (by simp only [go_sem,i64,ints]) (by first | exact .inl rfl | exact .inr rfl) ?_
 (try simp only [go_sem]);refine hK _ ?_;clear hK K;refine zw (zk [1,3]) ?_;simp only [go_sem]
 by_cases h0 : checkV r.d r.aims = 0
 rotate_left
 · have c : (checkV r.d r.aims != 0) = true:=by simpa using h0
   have e : ruE r = checkV r.d r.aims:=by simp [ruE,h0]
   refine zq ?_
   refine zb fun K hK=>?_;simp only [go_sem,c];refine hK _ ?_;clear hK K;refine zw (zk [1,3,9]) ?_;simp only [go_sem]
   refine zc rfl (fun hc=>?_) (fun hc=>?_) <;> (try simp only [go_sem] at hc)
   refine zq ?_
   refine zb fun K hK=>?_;simp only [go_sem];refine hK _ ?_;clear hK K;refine zw (zk [2]) ?_;simp only [go_sem];refine ze ?_;simp only [go_sem];rw [e]
 rw [h0]
 refine zq ?_
 refine zb fun K hK=>?_;simp only [go_sem,bne_self_eq_false];refine hK _ ?_;clear hK K;refine zw (zk [1,3,9]) ?_;simp only [go_sem]
 refine zc rfl (fun hc=>?_) (fun hc=>?_) <;> (try simp only [go_sem] at hc)
 refine zx ?_
 try simp only [go_sem]
 refine zq ?_
 refine zb fun K hK=>?_;simp only [go_sem];refine hK _ ?_;clear hK K;refine zw (zk [1,4]) ?_;simp only [go_sem]
 repeat refine zq ?_
 refine awp_join (n:=49) (fun (b : Bool) vs=>[(48,.r (.bo b))]) (fun _=>[]) (fun b=>ruE r = if b then 2 else 0) (fun _ h=>h) ?_ ?_
 · have w1:=dwithin_ok 2 40 [r.start]
   have w2:=dwithin_ok 0 2 [r.out]
   have w3:=dwithin_ok 1 10 [(r.ends.length : Int)]
   have w4:=containsS_ok (fun x=>!endOk x) 156 [] r.ends fun x _=>bad_ok x
   rw [within1L] at w1 w2 w3
   cases b1 : (decide (2 ≤ r.start) && decide (r.start ≤ 40))
   · rw [b1] at w1
     refine zb fun K hK=>?_;simp only [go_sem]
     refine zh (w1) rfl (by simp only [go_sem,i64,ints]) (by simp only [go_sem,i64,ints]) (by first | exact .inl rfl | exact .inr rfl) ?_
     (try simp only [go_sem]);refine hK _ ?_;clear hK K
     try simp only [go_sem]
     exact ⟨true,by simp [ruE,h0,b1],fit_of [] (by try simp only [go_sem]) (by try simp only [go_sem])⟩
   rw [b1] at w1
   cases b2 : (decide (0 ≤ r.out) && decide (r.out ≤ 2))
   · rw [b2] at w2
     refine zb fun K hK=>?_;simp only [go_sem]
     refine zh (w1) rfl (by simp only [go_sem,i64,ints]) (by simp only [go_sem,i64,ints]) (by first | exact .inl rfl | exact .inr rfl) ?_
     (try simp only [go_sem])
     refine zh (w2) rfl (by simp only [go_sem,i64,ints]) (by simp only [go_sem,i64,ints]) (by first | exact .inl rfl | exact .inr rfl) ?_
     (try simp only [go_sem]);refine hK _ ?_;clear hK K
     try simp only [go_sem]
     exact ⟨true,by simp only [ruE,h0]; simp_all; omega,fit_of [] (by try simp only [go_sem]) (by try simp only [go_sem])⟩
   rw [b2] at w2
   cases b3 : (decide (1 ≤ (r.ends.length : Int)) && decide ((r.ends.length : Int) ≤ 10))
   · rw [b3] at w3
     refine zb fun K hK=>?_;simp only [go_sem]
     refine zh (w1) rfl (by simp only [go_sem,i64,ints]) (by simp only [go_sem,i64,ints]) (by first | exact .inl rfl | exact .inr rfl) ?_
     (try simp only [go_sem])
     refine zh (w2) rfl (by simp only [go_sem,i64,ints]) (by simp only [go_sem,i64,ints]) (by first | exact .inl rfl | exact .inr rfl) ?_
     (try simp only [go_sem])
     intros
     refine zh (w3) rfl (by simp only [go_sem,i64,ints]) (by simp only [go_sem,i64,ints]) (by first | exact .inl rfl | exact .inr rfl) ?_
     (try simp only [go_sem]);refine hK _ ?_;clear hK K
     try simp only [go_sem]
     exact ⟨true,by simp only [ruE,h0]; simp_all; omega,fit_of [] (by try simp only [go_sem]) (by try simp only [go_sem])⟩
   rw [b3] at w3
   cases b4 : (r.ends.any fun x=>!endOk x)
   rotate_left
   · rw [b4] at w4
     have e4 : r.ends.all endOk = false:=by
      rw [List.any_eq_true] at b4
      obtain ⟨x,hx,h⟩:=b4
      exact Bool.eq_false_iff.2 fun h2=>by
       have:=List.all_eq_true.1 h2 x hx
       rw [this] at h; cases h
     refine zb fun K hK=>?_;simp only [go_sem]
     refine zh (w1) rfl (by simp only [go_sem,i64,ints]) (by simp only [go_sem,i64,ints]) (by first | exact .inl rfl | exact .inr rfl) ?_
     (try simp only [go_sem])
     refine zh (w2) rfl (by simp only [go_sem,i64,ints]) (by simp only [go_sem,i64,ints]) (by first | exact .inl rfl | exact .inr rfl) ?_
     (try simp only [go_sem])
     intros
     refine zh (w3) rfl (by simp only [go_sem,i64,ints]) (by simp only [go_sem,i64,ints]) (by first | exact .inl rfl | exact .inr rfl) ?_
     (try simp only [go_sem])
     refine zh (w4) rfl (by simp only [go_sem,i64,ints]) (by simp only [go_sem,i64,ints]) (by first | exact .inl rfl | exact .inr rfl) ?_
     (try simp only [go_sem]);refine hK _ ?_;clear hK K
     try simp only [go_sem]
     exact ⟨true,by simp [ruE,h0,e4],fit_of [] (by try simp only [go_sem]) (by try simp only [go_sem])⟩
   rw [b4] at w4
   have e4 : r.ends.all endOk = true:=by
    rw [List.all_eq_true]
    intro x hx
    have:=List.any_eq_false.1 b4 x hx
    simpa using this
   have hpos : 1 ≤ r.ends.length:=by
    simp only [Bool.and_eq_true,decide_eq_true_eq] at b3; omega
   have h10 : r.ends.length ≤ 10:=by
    simp only [Bool.and_eq_true,decide_eq_true_eq] at b3; omega
   obtain ⟨x,hx⟩:=opt_of_lt (l:=r.ends) (i:=r.ends.length - 1) (by omega)
   have hl : lastE r = x.1:=by simp [lastE,List.getD_eq_getElem?_getD,hx]
   have hsb : IntKind.i64.wrap ((r.ends.length : Int) - 1) = ((r.ends.length - 1 : Nat) : Int):=by rw [zI] <;> omega
   have hlt : r.ends.length - 1 < r.ends.length:=by omega
   refine zb fun K hK=>?_;simp only [go_sem]
   refine zh (w1) rfl (by simp only [go_sem,i64,ints]) (by simp only [go_sem,i64,ints]) (by first | exact .inl rfl | exact .inr rfl) ?_
   (try simp only [go_sem])
   refine zh (w2) rfl (by simp only [go_sem,i64,ints]) (by simp only [go_sem,i64,ints]) (by first | exact .inl rfl | exact .inr rfl) ?_
   (try simp only [go_sem])
   intros
   refine zh (w3) rfl (by simp only [go_sem,i64,ints]) (by simp only [go_sem,i64,ints]) (by first | exact .inl rfl | exact .inr rfl) ?_
   (try simp only [go_sem])
   refine zh (w4) rfl (by simp only [go_sem,i64,ints,hsb,hx,hlt,spanR]) (by simp only [go_sem,i64,ints,hsb,hx,hlt,spanR]) (by first | exact .inl rfl | exact .inr rfl) ?_
   (try simp only [go_sem,hsb,hx,hlt,spanR])
   intros
   refine hK _ ?_;clear hK K
   try simp only [go_sem]
   refine ⟨x.1 != 1000000,?_,fit_of [] (by try simp only [go_sem]) (by try simp only [go_sem])⟩
   have b3' : (decide (1 ≤ r.ends.length) && decide (r.ends.length ≤ 10)) = true:=by simp; omega
   simp only [Bool.and_eq_true,decide_eq_true_eq] at b1 b2
   unfold ruE
   rw [if_neg (by simp [h0]),hl,e4]
   by_cases q : x.1 = 1000000
   · simp [q,b1,b2,hpos,h10]
   · simp [q]
 intro b vs hb
 cases b
 · skip
   refine zc rfl (fun hc=>?_) (fun hc=>?_) <;> (try simp only [go_sem] at hc)
   refine zx ?_
   try simp only [go_sem]
   refine zq ?_
   refine zb fun K hK=>?_;simp only [go_sem];refine hK _ ?_;clear hK K;refine zw (zk [2]) ?_;simp only [go_sem];refine ze ?_;simp only [go_sem]
   rw [hb]; rfl
 · skip
   refine zc rfl (fun hc=>?_) (fun hc=>?_) <;> (try simp only [go_sem] at hc)
   refine zq ?_
   refine zb fun K hK=>?_;simp only [go_sem];refine hK _ ?_;clear hK K;refine zw (zk [2]) ?_;simp only [go_sem];refine ze ?_;simp only [go_sem]
   rw [hb]; rfl
def inB (n a b : Int) : Bool:=decide (a ≤ n) && decide (n ≤ b)
def stepOk (d : Int) (p : Option Int) (x : Bd) : Bool:=(decide (x.b = 0) || bedOk x.b) && (match p with | none=>true | some q=>decide (q < x.b)) && (decide (0 ≤ x.lo) && decide (x.lo ≤ x.hi) && decide (x.hi ≤ d))
def restOk (d : Int) (l : List Bd) (k : Nat) : Bool:=seqOk (prevB l k) (l.drop k) && chOk d (l.drop k)
set_option maxHeartbeats 4000000
theorem dlowest_ok (r : Ru) : ACalls Try.prog 119 [ruV r] (i64 (lowestR r)):=by
 refine acalls_st (rs:=[i64 (lowestR r)]) [.tmp 2] Try.func119 rfl (by kernel_rfl) Try.ntmps119 rfl (by simp) rfl fun C vs=>?_
 repeat refine zq ?_
 refine zb fun K hK=>?_;simp only [go_sem];(try simp (disch:=omega) only [zI]);repeat first | intro _ | refine ⟨by omega,?_⟩
 refine hK _ ?_;clear hK K;refine zw (sub_frzP 1 1 (ruC r) (by omega) rfl rfl) ?_;refine zw (zk [1]) ?_;simp only [go_sem]
 by_cases h : r.out = 0
 · have c : (r.out == 0) = true:=by simpa using h
   repeat refine zq ?_
   refine zb fun K hK=>?_;simp only [go_sem,c];(try simp (disch:=omega) only [zI]);repeat first | intro _ | refine ⟨by omega,?_⟩
   refine hK _ ?_;clear hK K;refine zw (zk [1,6]) ?_;simp only [go_sem]
   repeat refine zq ?_
   refine zc rfl (fun hc=>?_) (fun hc=>?_) <;> (try simp only [go_sem] at hc)
   repeat refine zq ?_
   refine zb fun K hK=>?_;simp only [go_sem];(try simp (disch:=omega) only [zI]);repeat first | intro _ | refine ⟨by omega,?_⟩
   refine hK _ ?_;clear hK K;refine zw (zk [2]) ?_;simp only [go_sem];refine ze ?_;simp only [go_sem]
   simp [lowestR,h]
 · have c : (r.out == 0) = false:=by simpa using h
   repeat refine zq ?_
   refine zb fun K hK=>?_;simp only [go_sem,c];(try simp (disch:=omega) only [zI]);repeat first | intro _ | refine ⟨by omega,?_⟩
   refine hK _ ?_;clear hK K;refine zw (zk [1,6]) ?_;simp only [go_sem]
   repeat refine zq ?_
   refine zc rfl (fun hc=>?_) (fun hc=>?_) <;> (try simp only [go_sem] at hc)
   refine zx ?_
   try simp only [go_sem]
   repeat refine zq ?_
   refine zb fun K hK=>?_;simp only [go_sem];(try simp (disch:=omega) only [zI]);repeat first | intro _ | refine ⟨by omega,?_⟩
   refine hK _ ?_;clear hK K;refine zw (zk [2]) ?_;simp only [go_sem];refine ze ?_;simp only [go_sem]
   simp [lowestR,h]
def insB (lt : Bd → Bd → Bool) (x : Bd) : List Bd → List Bd
 | []=>[x]
 | y :: ys=>if lt x y then y :: insB lt x ys else x :: y :: ys
def sortB (lt : Bd → Bd → Bool) : List Bd → List Bd → List Bd
 | [],R=>R
 | x :: xs,R=>sortB lt xs (insB lt x R)
def sortN (lt : Bd → Bd → Bool) (l : List Bd) : List Bd:=(sortB lt l []).reverse
theorem insB_len (lt : Bd → Bd → Bool) (x : Bd) : ∀ R,(insB lt x R).length = R.length + 1
 | []=>rfl
 | y :: R => by
   unfold insB
   split
   · simp [insB_len lt x R]
   · rfl
theorem insB_skip (lt : Bd → Bd → Bool) (x : Bd) : ∀ (R : List Bd) (k : Nat),(∀ y ∈ R.take k,lt x y = true) → insB lt x R = R.take k ++ insB lt x (R.drop k)
 | R,0,_=>by simp
 | [],k + 1,_=>by simp
 | y :: R, k + 1, h => by
   have hy : lt x y = true:=h y (by simp)
   have ih:=insB_skip lt x R k fun z hz=>h z (by simp [hz])
   simp only [List.take_succ_cons,List.drop_succ_cons,List.cons_append];rw [← ih]
   simp [insB,hy]
theorem sortB_snoc (lt : Bd → Bd → Bool) : ∀ (l : List Bd) (x : Bd) (R : List Bd),sortB lt (l ++ [x]) R = insB lt x (sortB lt l R)
 | [],_,_=>rfl
 | y :: l,x,R=>by simp only [List.cons_append,sortB]; exact sortB_snoc lt l x _
theorem sortB_len (lt : Bd → Bd → Bool) : ∀ (l R : List Bd),(sortB lt l R).length = l.length + R.length
 | [],R=>by simp [sortB]
 | x :: l,R=>by simp only [sortB]; rw [sortB_len lt l,insB_len]; simp; omega
theorem mem_insB (lt : Bd → Bd → Bool) (x z : Bd) : ∀ R,z ∈ insB lt x R ↔ z = x ∨ z ∈ R
 | []=>by simp [insB]
 | y :: R => by
   unfold insB
   split
   · simp only [List.mem_cons,mem_insB lt x z R]
     constructor
     · rintro (h | h | h) <;> simp [h]
     · rintro (h | h | h) <;> simp [h]
   · simp
theorem mem_sortB (lt : Bd → Bd → Bool) (z : Bd) : ∀ l R,z ∈ sortB lt l R ↔ z ∈ l ∨ z ∈ R
 | [],R=>by simp [sortB]
 | x :: l, R => by
   simp only [sortB];rw [mem_sortB lt z l,mem_insB]
   simp only [List.mem_cons]
   constructor
   · rintro (h | h | h) <;> simp [h]
   · rintro ((h | h) | h) <;> simp [h]
def holeL (R : List Bd) (x : Bd) (k : Nat) (rest : List Bd) : List Bd:=(R.drop k).reverse ++ x :: ((R.take k).reverse ++ rest)
theorem hole_len (R : List Bd) (x : Bd) (k : Nat) (rest : List Bd) (hk : k ≤ R.length) : (holeL R x k rest).length = R.length + 1 + rest.length:=by
 simp [holeL]; omega
theorem hole_at (R : List Bd) (x : Bd) (k : Nat) (rest : List Bd) (hk : k ≤ R.length) : (holeL R x k rest)[R.length - k]? = some x:=by
 unfold holeL
 rw [List.getElem?_append_right (by simp)]
 simp
theorem hole_next {R : List Bd} {x y : Bd} {k : Nat} {rest : List Bd} (hy : R[k]? = some y) : (holeL R x k rest)[R.length - k - 1]? = some y ∧ (holeL R x k rest) = (R.drop (k + 1)).reverse ++ y :: x :: ((R.take k).reverse ++ rest) ∧ holeL R x (k + 1) rest = (R.drop (k + 1)).reverse ++ x :: y :: ((R.take k).reverse ++ rest):=by
 have hk:=(List.getElem?_eq_some_iff.1 hy).1
 have hd:=drop_of_opt hy
 have ht:=take_of_opt hy
 have e1 : (holeL R x k rest) = (R.drop (k + 1)).reverse ++ y :: x :: ((R.take k).reverse ++ rest):=by
  unfold holeL; rw [hd]; simp
 refine ⟨?_,e1,by unfold holeL; rw [ht]; simp⟩
 rw [e1,List.getElem?_append_right (by simp; omega)]
 have : R.length - k - 1 - (R.drop (k + 1)).reverse.length = 0:=by simp; omega
 rw [this]; rfl
theorem hole_swap {α : Type} (g : Bd → α) {R : List Bd} {x y : Bd} {k : Nat} {rest : List Bd} (hy : R[k]? = some y) :
 (((holeL R x k rest).map g).set (R.length - k) (g y)).set (R.length - k - 1) (g x) = (holeL R x (k + 1) rest).map g:=by
 obtain ⟨_,e1,e2⟩:=hole_next (x:=x) (rest:=rest) hy
 have hk:=(List.getElem?_eq_some_iff.1 hy).1
 rw [e1,e2,← List.map_set,← List.map_set]
 congr 1
 have hl : (R.drop (k + 1)).reverse.length = R.length - k - 1:=by simp; omega
 generalize (R.drop (k + 1)).reverse = A at hl
 generalize (R.take k).reverse ++ rest = B
 have e3 : R.length - k = A.length + 1:=by omega
 rw [e3,Nat.add_sub_cancel]
 rw [List.set_append_right _ _ (by omega)]
 simp only [Nat.add_sub_cancel_left,List.set_cons_succ,List.set_cons_zero];rw [List.set_append_right _ _ (by omega)]
 simp
theorem lent_put {vs : Nat → Nat} {k : Nat} (h : Lent vs) : Lent (upd vs k 0):=fun j hj=>by
 unfold upd; split
 · rfl
 · exact h j hj
abbrev idx (l : List Bd) : List (List RV):=l.map bedR
theorem insertion_ok (lt : Bd → Bd → Bool) (c : Bd → Bd → Int) (f : Nat) (caps : List RV) (l : List Bd) (hl : l.length ≤ 1000) (hlt : ∀ x y,lt x y = decide (c x y < 0))
 (hcc : ∀ x ∈ l,∀ y ∈ l,ACalls Try.prog f (bedV x :: bedV y :: caps) (i64 (c x y))) :
 MCalls Try.prog 238 [(1000,.arr 285 3 (idx l))] [(1000,.arr 285 3 (idx (sortN lt l)))] [.os 1000 0 3 0 l.length,.r (i64 0),.r (i64 l.length),.r (.fn f caps)] (.tu []):=by
 refine mcalls_st (n:=53) (rs:=[]) _ _ [] Try.func238 rfl (by kernel_rfl) Try.ntmps238 rfl (by simp) rfl rfl fun C=>?_
 have hmem : ∀ i z,z ∈ sortB lt (l.take i) [] → z ∈ l:=fun i z hz=>by
  rw [mem_sortB] at hz
  rcases hz with hz | hz
  · exact List.mem_of_mem_take hz
  · cases hz
 refine zq ?_
 refine zb fun K hK=>?_;simp only [go_sem];(try simp (disch:=omega) only [zI]);refine hK _ ?_;clear hK K;refine zw (zk [0,1,2,3,8]) ?_;simp only [go_sem];refine zd ?_
 refine awp_upto0 (n:=53) (max l.length 1) (fun i vs=>[(0,.os 1000 0 3 0 l.length),(1,.r (i64 0)),(2,.r (i64 l.length)),(3,.r (.fn f caps)),(8,.r (i64 i))])
  (fun i=>[(1000,.arr 285 3 (idx ((sortB lt (l.take i) []).reverse ++ l.drop i)))]) (fun i=>1 ≤ i) 1 (fit0_of [] lent_zero ?_ ?_) (by omega) (Nat.le_refl _) ?_
 · try simp only [go_sem]
 · simp only [go_sem]
   cases l with
   | nil=>rfl
   | cons x l=>simp [sortB,insB]
 · intro i vs hv hi hi1
   have hv0:=hv 1000 (by omega)
   repeat refine zq ?_
   refine zb fun K hK=>?_;simp only [go_sem];refine hK _ ?_;clear hK K;refine zw (zk [0,1,2,3,8,14]) ?_;simp only [go_sem]
   refine zc rfl (fun hc=>?_) (fun hc=>?_) <;> (try simp only [go_sem] at hc)
   · have hci : i < l.length:=by omega
     obtain ⟨x,hx⟩:=opt_of_lt hci
     obtain ⟨R,hR⟩ : ∃ R,R = sortB lt (l.take i) []:=⟨_,rfl⟩
     have hRl : R.length = i:=by rw [hR,sortB_len]; simp; omega
     have hRm : ∀ z ∈ R,z ∈ l:=fun z hz=>hmem i z (hR ▸ hz)
     have hnx : sortB lt (l.take (i + 1)) [] = insB lt x R:=by rw [take_of_opt hx,sortB_snoc,hR]
     have hst : (sortB lt (l.take i) []).reverse ++ l.drop i = holeL R x 0 (l.drop (i + 1)):=by rw [← hR,drop_of_opt hx]; simp [holeL]
     rw [hst]
     refine zx ?_
     refine zq ?_
     refine zd ?_
     refine zq ?_
     refine zb fun K hK=>?_;simp only [go_sem];refine hK _ ?_;clear hK K;refine zw (zk [0,1,2,3,8,9]) ?_;simp only [go_sem];refine zd ?_
     refine awp_upto0 (n:=53) i (fun k vs=>[(0,.os 1000 0 3 0 l.length),(1,.r (i64 0)),(2,.r (i64 l.length)),(3,.r (.fn f caps)),(8,.r (i64 i)),(9,.r (i64 (i - k : Nat)))])
      (fun k=>[(1000,.arr 285 3 (idx (holeL R x k (l.drop (i + 1)))))]) (fun k=>∀ y ∈ R.take k,lt x y = true) 0 (fit0_of [] hv ?_ ?_) (Nat.zero_le _) (by simp) ?_
     · try simp only [go_sem]
     · try simp only [go_sem]
     · intro k vs hv hk hI
       have hv0:=hv 1000 (by omega)
       have hins:=insB_skip lt x R k hI
       have done : insB lt x (R.drop k) = x :: R.drop k → sortB lt (l.take (i + 1)) [] = R.take k ++ x :: R.drop k:=fun h=>by rw [hnx,hins,h]
       by_cases hk0 : k = i
       · have e0 : i - k = 0:=by omega
         repeat refine zq ?_
         refine awp_dreg2 [(0,some 1000)] follows (by decide +kernel) (by kernel_rfl) (by simp only [keysOk,List.mem_cons,List.not_mem_nil,forall_eq_or_imp,Oc.keyOf,go_sem]; simp) fun K hK=>?_
         simp only [go_sem,hv0,e0];refine hK _ ?_;clear hK K;refine zw (zk [0,1,2,3,8,9,34]) ?_;simp only [go_sem]
         refine zc rfl (fun hc=>?_) (fun hc=>?_) <;> (try simp only [go_sem] at hc)
         refine zf ?_;simp only [go_sem];refine zb fun K hK=>?_;simp only [go_sem];(try simp (disch:=omega) only [zI]);refine hK _ ?_;clear hK K
         try simp only [go_sem]
         refine ⟨by omega,fit0_of [] hv ?_ ?_⟩
         · try simp only [go_sem]
         · have hd0 : R.drop k = []:=List.drop_eq_nil_of_le (by omega)
           have:=done (by rw [hd0]; rfl)
           simp only [go_sem,this]
           simp [holeL]
       · obtain ⟨y,hy⟩:=opt_of_lt (l:=R) (i:=k) (by omega)
         obtain ⟨j,hj⟩ : ∃ j,i - k = j + 1:=⟨i - k - 1,by omega⟩
         have hjs : IntKind.i64.wrap ((j : Int) + 1 - 1) = j:=by rw [zI] <;> omega
         have hlen : (holeL R x k (l.drop (i + 1))).length = l.length:=by rw [hole_len _ _ _ _ (by omega),List.length_drop]; omega
         have hxa : (holeL R x k (l.drop (i + 1)))[j + 1]? = some x:=by rw [← hj,← hRl]; exact hole_at R x k _ (by omega)
         have hya : (holeL R x k (l.drop (i + 1)))[j]? = some y:=by
          have:=(hole_next (x:=x) (rest:=l.drop (i + 1)) hy).1
          rw [hRl,hj] at this
          exact this
         have hcall:=hcc x (mem_of_opt hx) y (hRm y (mem_of_opt hy))
         have hpos : (0 < (j : Int) + 1) = True:=by simp
         have hlxy:=hlt x y
         repeat refine zq ?_
         refine awp_dreg2 [(0,some 1000)] follows (by decide +kernel) (by kernel_rfl) (by simp only [keysOk,List.mem_cons,List.not_mem_nil,forall_eq_or_imp,Oc.keyOf,go_sem]; simp) fun K hK=>?_
         simp only [go_sem,hv0,hj,hjs,hxa,hya,hlen,hpos,bedR]
         refine ⟨by omega,by omega,?_⟩
         refine zh (hcall) rfl (by simp only [go_sem,i64,ints,hv0]) (by simp only [go_sem,i64,ints,hv0]) (by first | exact .inl rfl | exact .inr rfl) ?_
         (try simp only [go_sem,hv0]);refine hK _ ?_;clear hK K;refine zw (zk [0,1,2,3,8,9,34]) ?_;simp only [go_sem]
         cases hcx : decide (c x y < 0)
         · skip
           refine zc rfl (fun hc=>?_) (fun hc=>?_) <;> (try simp only [go_sem] at hc)
           refine zf ?_;simp only [go_sem];refine zb fun K hK=>?_;simp only [go_sem];(try simp (disch:=omega) only [zI]);refine hK _ ?_;clear hK K
           try simp only [go_sem]
           refine ⟨by omega,fit0_of [] hv ?_ ?_⟩
           · try simp only [go_sem]
           · have:=done (by rw [drop_of_opt hy]; simp [insB,hlxy,hcx])
             simp only [go_sem,this]
             simp [holeL]
         · skip
           refine zc rfl (fun hc=>?_) (fun hc=>?_) <;> (try simp only [go_sem] at hc)
           refine zx ?_
           try simp only [go_sem]
           refine zq ?_
           refine zd ?_
           have hset : ((idx (holeL R x k (l.drop (i + 1)))).set (j + 1) [i64 y.b,i64 y.lo,i64 y.hi]).getD j [] = [i64 y.b,i64 y.lo,i64 y.hi]:=by
            rw [List.getD_eq_getElem?_getD,List.getElem?_set_ne (by omega),List.getElem?_map,hya]; rfl
           have hsw:=hole_swap bedR (x:=x) (rest:=l.drop (i + 1)) hy
           rw [hRl,hj] at hsw
           simp only [Nat.add_sub_cancel] at hsw
           refine awp_dreg2 [(0,some 1000)] follows (by decide +kernel) (by kernel_rfl) (by simp only [keysOk,List.mem_cons,List.not_mem_nil,forall_eq_or_imp,Oc.keyOf,go_sem]; simp) fun K hK=>?_
           simp only [go_sem,hv0,hj,hjs,hxa,hya,hlen,hset,List.length_set,bedR]
           repeat' first | intro _ | refine And.intro ?_ ?_
           all_goals first | omega | skip
           all_goals (refine hK _ ?_; clear hK K)
           refine zw (zk [0,1,2,3,8,9]) ?_;simp only [go_sem];refine zb fun K hK=>?_;simp only [go_sem,hjs];refine hK _ ?_;clear hK K
           try simp only [go_sem]
           have hj2 : i - (k + 1) = j:=by omega
           refine ⟨by omega,?_,fit0_of [] (lent_put (lent_put hv)) ?_ ?_⟩
           · rw [take_of_opt hy]
             intro z hz
             rcases List.mem_append.1 hz with hz | hz
             · exact hI z hz
             · simp only [List.mem_singleton] at hz
               subst hz
               rw [hlxy,hcx]
           · simp only [go_sem,hj2]
           · simp only [go_sem];exact congrArg (fun z=>[(1000,RowC.arr 285 3 z)]) hsw
   · refine zf ?_;simp only [go_sem]
     have h1 : l.take i = l:=List.take_of_length_le (by omega)
     have h2 : l.drop i = []:=List.drop_eq_nil_of_le (by omega)
     rw [h1,h2,List.append_nil]
     rfl
theorem stable_ok (lt : Bd → Bd → Bool) (c : Bd → Bd → Int) (f : Nat) (caps : List RV) (l : List Bd) (hl : l.length ≤ 19) (hlt : ∀ x y,lt x y = decide (c x y < 0))
 (hcc : ∀ x ∈ l,∀ y ∈ l,ACalls Try.prog f (bedV x :: bedV y :: caps) (i64 (c x y))) :
 MCalls Try.prog 220 [(1000,.arr 285 3 (idx l))] [(1000,.arr 285 3 (idx (sortN lt l)))] [.os 1000 0 3 0 l.length,.r (i64 l.length),.r (.fn f caps)] (.tu []):=by
 refine mcalls_st (n:=63) (rs:=[]) _ _ [] Try.func220 rfl (by kernel_rfl) Try.ntmps220 rfl (by simp) rfl rfl fun C=>?_
 refine zq ?_
 refine zb fun K hK=>?_;simp only [go_sem];refine hK _ ?_;clear hK K
 refine zq ?_
 refine zb fun K hK=>?_;simp only [go_sem];refine hK _ ?_;clear hK K;refine zw (zk [0,1,2,6,7,8]) ?_;simp only [go_sem]
 refine zq ?_
 refine zd ?_
 refine awp_upto0 (n:=63) 0 (fun i vs=>[(0,.os 1000 0 3 0 l.length),(1,.r (i64 l.length)),(2,.r (.fn f caps)),(6,.r (i64 20)),(7,.r (i64 0)),(8,.r (i64 20))])
  (fun i=>[(1000,.arr 285 3 (idx l))]) (fun i=>True) 0 (fit0_of [] lent_zero ?_ ?_) (Nat.zero_le _) trivial ?_
 · try simp only [go_sem]
 · try simp only [go_sem]
 intro i vs hv _ _
 have hv0:=hv 1000 (by omega)
 repeat refine zq ?_
 refine zb fun K hK=>?_;simp only [go_sem];refine hK _ ?_;clear hK K
 refine zc rfl (fun hc=>?_) (fun hc=>?_) <;> (try simp only [go_sem] at hc)
 · omega
 refine zf ?_;simp only [go_sem]
 refine zq ?_
 refine zb fun K hK=>?_;simp only [go_sem]
 refine xcall_mut (insertion_ok lt c f caps l (by omega) hlt hcc) [(1000,1000)] rfl (by simp only [go_sem,i64,ints,hv0]) (by simp only [go_sem,i64,ints,hv0]) (by rfl) (by rfl) ?_
 (try simp only [go_sem,hv0]);refine hK _ ?_;clear hK K
 try simp only [go_sem]
 refine zd ?_
 refine awp_upto0 (n:=63) 0 (fun i vs=>[(1,.r (i64 l.length)),(6,.r (i64 20))])
  (fun i=>[(1000,.arr 285 3 (idx (sortN lt l)))]) (fun i=>True) 0 (fit0_of [] hv ?_ ?_) (Nat.zero_le _) trivial ?_
 · try simp only [go_sem]
 · try simp only [go_sem]
 intro i vs hv _ _
 repeat refine zq ?_
 refine zb fun K hK=>?_;simp only [go_sem];refine hK _ ?_;clear hK K
 refine zc rfl (fun hc=>?_) (fun hc=>?_) <;> (try simp only [go_sem] at hc)
 · omega
 refine zf ?_;simp only [go_sem]
theorem sortStable_ok (lt : Bd → Bd → Bool) (c : Bd → Bd → Int) (f : Nat) (caps : List RV) (l : List Bd) (hl : l.length ≤ 19) (hlt : ∀ x y,lt x y = decide (c x y < 0))
 (hcc : ∀ x ∈ l,∀ y ∈ l,ACalls Try.prog f (bedV x :: bedV y :: caps) (i64 (c x y))) :
 MCalls Try.prog 181 [(1000,.arr 285 3 (idx l))] [(1000,.arr 285 3 (idx (sortN lt l)))] [.os 1000 0 3 0 l.length,.r (.fn f caps)] (.tu []):=by
 refine mcalls_st (n:=9) (rs:=[]) _ _ [] Try.func181 rfl (by kernel_rfl) Try.ntmps181 rfl (by simp) rfl rfl fun C=>?_
 refine zb fun K hK=>?_;simp only [go_sem]
 intro _
 refine xcall_mut (stable_ok lt c f caps l (by omega) hlt hcc) [(1000,1000)] rfl (by simp only [go_sem,i64,ints]) (by simp only [go_sem,i64,ints]) (by rfl) (by rfl) ?_
 (try simp only [go_sem]);refine hK _ ?_;clear hK K
 try simp only [go_sem]
theorem relV_unmap {w : World} {p : Plan} {ver : Nat → Nat} : ∀ {xs : List RV} {vs : List Value},AV.relV w p ver (xs.map .r) vs → RV.relV w p.R xs vs
 | [],_,h=>by simpa only [List.map_nil,AV.relV,RV.relV] using h
 | x :: xs, vs, h => by
   simp only [List.map_cons,AV.relV,AV.rel] at h
   simp only [RV.relV]
   obtain ⟨u,us,h1,h2,h3⟩:=h
   exact ⟨u,us,h1,h2,relV_unmap h3⟩
theorem mcalls_fn {F : Nat} {L L' : List (Nat × RowC)} {x r : AV} {f : Nat} {caps : List RV} (h : MCalls Try.prog F L L' [x,.r (.fn f caps)] r) : MCalls Try.prog F L L' [x,.fn f (caps.map .r)] r :=
 ⟨h.1,fun w p vs h1 h2 h3 h4 h5 h6 hV=>h.2 w p vs h1 h2 h3 h4 h5 h6 (by
  simp only [AV.relV] at hV ⊢
  obtain ⟨u,us,e1,k1,u',us',e2,k2,e3⟩:=hV
  refine ⟨u,us,e1,k1,u',us',e2,?_,e3⟩
  simp only [AV.rel,RV.rel] at k2 ⊢
  obtain ⟨ws,k3,k4⟩:=k2
  exact ⟨ws,k3,relV_unmap k4⟩)⟩
abbrev tabR (T : List (List Int)) : RV:=.sl 1 (T.map fun row=>[ints row])
abbrev sideC (r : Ru) (most : Bool) (T : List (List Int)) : List RV:=[i64 r.d,aimsR r.aims,i64 r.start,i64 r.out,spansR r.ends,.bo most,tabR T]
abbrev sideP (r : Ru) (most : Bool) (T : List (List Int)) : RV:=.rp (sideC r most T)
def overD (most : Bool) (n by_ : Int) : Int:=if most then (n + (by_ - 1)) / by_ else n / by_
theorem overD_le {most : Bool} {n by_ m : Int} (h0 : 0 ≤ n) (hb : 1 ≤ by_) (hm : n ≤ m * by_) : 0 ≤ overD most n by_ ∧ overD most n by_ ≤ m:=by
 unfold overD
 split
 · refine ⟨Int.ediv_nonneg (by omega) (by omega),?_⟩
   have : (n + (by_ - 1)) / by_ < m + 1:=Int.ediv_lt_of_lt_mul (by omega) (by rw [Int.add_mul]; omega)
   omega
 · refine ⟨Int.ediv_nonneg h0 (by omega),?_⟩
   have : n / by_ < m + 1:=Int.ediv_lt_of_lt_mul (by omega) (by rw [Int.add_mul]; omega)
   omega
theorem over_ok (r : Ru) (most : Bool) (T : List (List Int)) (n by_ : Int) (h0 : 0 ≤ n) (h1 : n ≤ 1000000000000000) (b0 : 1 ≤ by_) (b1 : by_ ≤ 1000000) : ACalls Try.prog 91 [sideP r most T,i64 n,i64 by_] (i64 (overD most n by_)):=by
 have hd : ∀ m : Int,0 ≤ m → m ≤ 2000000000000000 → IntKind.i64.wrap (m.tdiv by_) = m / by_:=fun m hm0 hm1=>by
  rw [Int.tdiv_eq_ediv_of_nonneg hm0]
  have:=Int.ediv_nonneg hm0 (b:=by_) (by omega)
  have h2 : m / by_ ≤ m:=Int.ediv_le_self _ hm0
  rw [zI] <;> omega
 have q1:=hd n h0 (by omega)
 have q2:=hd (n + (by_ - 1)) (by omega) (by omega)
 refine acalls_st (rs:=[i64 (overD most n by_)]) [.tmp 6] Try.func91 rfl (by kernel_rfl) Try.ntmps91 rfl (by simp) rfl fun C vs=>?_
 repeat refine zq ?_
 refine zb fun K hK=>?_;simp only [go_sem];(try simp (disch:=omega) only [zI]);repeat first | intro _ | refine ⟨by omega,?_⟩
 refine hK _ ?_;clear hK K;refine zw (zk [0,1,2]) ?_;simp only [go_sem]
 repeat refine zq ?_
 refine zb fun K hK=>?_;simp only [go_sem];(try simp (disch:=omega) only [zI]);repeat first | intro _ | refine ⟨by omega,?_⟩
 refine hK _ ?_;clear hK K;refine zw (zk [0,1,2,10]) ?_;simp only [go_sem]
 cases most
 · repeat refine zq ?_
   refine zc rfl (fun hc=>?_) (fun hc=>?_) <;> (try simp only [go_sem] at hc)
   refine zx ?_
   try simp only [go_sem]
   repeat refine zq ?_
   refine zb fun K hK=>?_;simp only [go_sem,q1];(try simp (disch:=omega) only [zI])
   refine ⟨by omega,?_⟩
   repeat first | intro _ | refine ⟨by omega,?_⟩
   refine hK _ ?_;clear hK K;refine zw (zk [6]) ?_;simp only [go_sem];refine ze ?_;simp only [go_sem]
   simp [overD,q1]
 · repeat refine zq ?_
   refine zc rfl (fun hc=>?_) (fun hc=>?_) <;> (try simp only [go_sem] at hc)
   repeat refine zq ?_
   refine zb fun K hK=>?_;simp only [go_sem];(try simp (disch:=omega) only [zI]);repeat first | intro _ | refine ⟨by omega,?_⟩
   refine hK _ ?_;clear hK K
   try simp only [go_sem]
   repeat refine zq ?_
   refine zb fun K hK=>?_;simp only [go_sem,q2];(try simp (disch:=omega) only [zI])
   refine ⟨by omega,?_⟩
   repeat first | intro _ | refine ⟨by omega,?_⟩
   refine hK _ ?_;clear hK K;refine zw (zk [6]) ?_;simp only [go_sem];refine ze ?_;simp only [go_sem]
   simp [overD,q2]
theorem last_ok (r : Ru) (h : r.ends.length ≤ 1000) : ACalls Try.prog 90 [ruV r] (i64 ((r.ends.length : Int) - 1)):=by
 refine acalls_st (rs:=[i64 ((r.ends.length : Int) - 1)]) [.tmp 2] Try.func90 rfl (by kernel_rfl) Try.ntmps90 rfl (by simp) rfl fun C vs=>?_
 repeat refine zq ?_
 refine zb fun K hK=>?_;simp only [go_sem];(try simp (disch:=omega) only [zI]);repeat first | intro _ | refine ⟨by omega,?_⟩
 refine hK _ ?_;clear hK K;refine zw (sub_frzP 1 1 (ruC r) (by omega) rfl rfl) ?_;refine zw (zk [1]) ?_;simp only [go_sem]
 repeat refine zq ?_
 refine zb fun K hK=>?_;simp only [go_sem];(try simp (disch:=omega) only [zI])
 intros
 repeat first | intro _ | refine ⟨by omega,?_⟩
 refine hK _ ?_;clear hK K;refine zw (zk [2]) ?_;simp only [go_sem];refine ze ?_;simp only [go_sem]
theorem cmp_ok (r : Ru) (most : Bool) (T : List (List Int)) (x y : Bd) (hx : 0 ≤ x.b ∧ x.b ≤ 1000000) (hy : 0 ≤ y.b ∧ y.b ≤ 1000000) : ACalls Try.prog 182 [bedV x,bedV y,.rp [sideP r most T]] (i64 (if most then y.b - x.b else x.b - y.b)):=by
 refine acalls_st (rs:=[i64 (if most then y.b - x.b else x.b - y.b)]) [.tmp 5] Try.func182 rfl (by kernel_rfl) Try.ntmps182 rfl (by simp) rfl fun C vs=>?_
 repeat refine zq ?_
 refine zb fun K hK=>?_;simp only [go_sem];(try simp (disch:=omega) only [zI]);repeat first | intro _ | refine ⟨by omega,?_⟩
 refine hK _ ?_;clear hK K;refine zw (zk [2,3,4]) ?_;simp only [go_sem]
 repeat refine zq ?_
 refine zb fun K hK=>?_;simp only [go_sem];(try simp (disch:=omega) only [zI]);repeat first | intro _ | refine ⟨by omega,?_⟩
 refine hK _ ?_;clear hK K;refine zw (zk [3,4,9]) ?_;simp only [go_sem]
 cases most
 · repeat refine zq ?_
   refine zc rfl (fun hc=>?_) (fun hc=>?_) <;> (try simp only [go_sem] at hc)
   refine zx ?_
   try simp only [go_sem]
   repeat refine zq ?_
   refine zb fun K hK=>?_;simp only [go_sem];(try simp (disch:=omega) only [zI]);repeat first | intro _ | refine ⟨by omega,?_⟩
   refine hK _ ?_;clear hK K;refine zw (zk [5]) ?_;simp only [go_sem];refine ze ?_;simp only [go_sem]
 · repeat refine zq ?_
   refine zc rfl (fun hc=>?_) (fun hc=>?_) <;> (try simp only [go_sem] at hc)
   repeat refine zq ?_
   refine zb fun K hK=>?_;simp only [go_sem];(try simp (disch:=omega) only [zI]);repeat first | intro _ | refine ⟨by omega,?_⟩
   refine hK _ ?_;clear hK K
   try simp only [go_sem]
   repeat refine zq ?_
   refine zb fun K hK=>?_;simp only [go_sem];(try simp (disch:=omega) only [zI]);repeat first | intro _ | refine ⟨by omega,?_⟩
   refine hK _ ?_;clear hK K;refine zw (zk [5]) ?_;simp only [go_sem];refine ze ?_;simp only [go_sem]
def endsD (most : Bool) (e : Int × Int) : Int:=if most then e.1 else e.2
def afterD (r : Ru) (most : Bool) (T : List (List Int)) (k left : Nat) : Int :=
 if k + 1 = r.ends.length then 0 else overD most (((T.getD (k + 1) []).getD left 0) * (1000000 - endsD most (r.ends.getD k (0,0)))) 1000000
theorem endOk_le {x : Int × Int} (h : endOk x = true) : 0 ≤ x.1 ∧ x.1 ≤ x.2 ∧ x.2 ≤ 1000000:=by
 simp only [endOk,withinL,List.all_cons,List.all_nil,Bool.and_true,Bool.and_eq_true,decide_eq_true_eq] at h
 omega
theorem after_ok (r : Ru) (most : Bool) (T : List (List Int)) (k left : Nat) (row : List Int) (v : Int) (hk : k < r.ends.length) (h10 : r.ends.length ≤ 10) (he : ∀ x ∈ r.ends,endOk x = true)
 (hT : k + 1 < r.ends.length → T[k + 1]? = some row ∧ row[left]? = some v ∧ 0 ≤ v ∧ v ≤ 1000000) : ACalls Try.prog 45 [sideP r most T,i64 k,i64 left] (i64 (afterD r most T k left)):=by
 obtain ⟨e,hek⟩:=opt_of_lt hk
 obtain ⟨g1,g2,g3⟩:=endOk_le (he e (mem_of_opt hek))
 have hl:=last_ok r (by omega)
 refine acalls_st (rs:=[i64 (afterD r most T k left)]) [.tmp 6] Try.func45 rfl (by kernel_rfl) Try.ntmps45 rfl (by simp) rfl fun C vs=>?_
 repeat refine zq ?_
 refine zb fun K hK=>?_;simp only [go_sem];(try simp (disch:=omega) only [zI]);repeat first | intro _ | refine ⟨by omega,?_⟩
 refine hK _ ?_;clear hK K;refine zw (zk [0,1,2]) ?_;simp only [go_sem]
 by_cases hlast : k + 1 = r.ends.length
 · have c : ((k : Int) == (r.ends.length : Int) - 1) = true:=by simp; omega
   repeat refine zq ?_
   refine zb fun K hK=>?_;simp only [go_sem,c];(try simp (disch:=omega) only [zI])
   refine zh (hl) rfl (by simp only [go_sem,i64,ints,c]) (by simp only [go_sem,i64,ints,c]) (by first | exact .inl rfl | exact .inr rfl) ?_
   (try simp only [go_sem,c]);(try simp (disch:=omega) only [zI]);repeat first | intro _ | refine ⟨by omega,?_⟩
   refine hK _ ?_;clear hK K;refine zw (zk [0,1,2,14]) ?_;simp only [go_sem]
   repeat refine zq ?_
   refine zc rfl (fun hc=>?_) (fun hc=>?_) <;> (try simp only [go_sem] at hc)
   repeat refine zq ?_
   refine zb fun K hK=>?_;simp only [go_sem];(try simp (disch:=omega) only [zI]);repeat first | intro _ | refine ⟨by omega,?_⟩
   refine hK _ ?_;clear hK K;refine zw (zk [6]) ?_;simp only [go_sem];refine ze ?_;simp only [go_sem]
   simp [afterD,hlast]
 have c : ((k : Int) == (r.ends.length : Int) - 1) = false:=by simp; omega
 obtain ⟨t1,t2,t3,t4⟩:=hT (by omega)
 have hk1 : k + 1 < T.length:=(List.getElem?_eq_some_iff.1 t1).1
 have hlf : left < row.length:=(List.getElem?_eq_some_iff.1 t2).1
 have hA : afterD r most T k left = overD most (v * (1000000 - endsD most e)) 1000000:=by
  simp [afterD,hlast,List.getD_eq_getElem?_getD,t1,t2,hek]
 rw [hA]
 have hm0 : ∀ q : Int,0 ≤ q → q ≤ 1000000 → 0 ≤ v * (1000000 - q) ∧ v * (1000000 - q) ≤ 1000000 * 1000000:=fun q h1 h2 =>
  ⟨Int.mul_nonneg t3 (by omega),Int.mul_le_mul t4 (by omega) (by omega) (by omega)⟩
 have htn : ((k : Int) + 1).toNat = k + 1:=by omega
 have hkw : IntKind.i64.wrap ((k : Int) + 1) = ((k + 1 : Nat) : Int):=by rw [zI] <;> omega
 repeat refine zq ?_
 refine zb fun K hK=>?_;simp only [go_sem,c];(try simp (disch:=omega) only [zI])
 refine zh (hl) rfl (by simp only [go_sem,i64,ints,c]) (by simp only [go_sem,i64,ints,c]) (by first | exact .inl rfl | exact .inr rfl) ?_
 (try simp only [go_sem,c]);(try simp (disch:=omega) only [zI]);repeat first | intro _ | refine ⟨by omega,?_⟩
 refine hK _ ?_;clear hK K;refine zw (zk [0,1,2,14]) ?_;simp only [go_sem]
 repeat refine zq ?_
 refine zc rfl (fun hc=>?_) (fun hc=>?_) <;> (try simp only [go_sem] at hc)
 refine zx ?_
 try simp only [go_sem]
 repeat refine zq ?_
 refine zb fun K hK=>?_;simp only [go_sem,hek,hk,spanR];(try simp (disch:=omega) only [zI]);repeat first | intro _ | refine ⟨by omega,?_⟩
 refine hK _ ?_;clear hK K;refine zw (zk [0,1,2,7]) ?_;simp only [go_sem]
 repeat refine zq ?_
 refine zb fun K hK=>?_;simp only [go_sem];(try simp (disch:=omega) only [zI]);repeat first | intro _ | refine ⟨by omega,?_⟩
 refine hK _ ?_;clear hK K;refine zw (zk [0,1,2,7,28]) ?_;simp only [go_sem]
 cases most
 · obtain ⟨m1,m2⟩:=hm0 e.2 (by omega) (by omega)
   have hov:=over_ok r false T (v * (1000000 - e.2)) 1000000 m1 (by omega) (by omega) (by omega)
   have hmw : IntKind.i64.wrap (v * (1000000 - e.2)) = v * (1000000 - e.2):=by rw [zI] <;> omega
   repeat refine zq ?_
   refine zc rfl (fun hc=>?_) (fun hc=>?_) <;> (try simp only [go_sem] at hc)
   refine zx ?_
   try simp only [go_sem]
   repeat refine zq ?_
   refine zb fun K hK=>?_;simp only [go_sem,hkw,t1,t2,hk1,hlf,htn,hmw];(try simp (disch:=omega) only [zI]);repeat first | intro _ | refine ⟨by omega,?_⟩
   refine zh (hov) rfl (by simp only [go_sem,i64,ints,hmw]) (by simp only [go_sem,i64,ints,hmw]) (by first | exact .inl rfl | exact .inr rfl) ?_
   (try simp only [go_sem,hmw]);(try simp (disch:=omega) only [zI]);repeat first | intro _ | refine ⟨by omega,?_⟩
   refine hK _ ?_;clear hK K;refine zw (zk [6]) ?_;simp only [go_sem];refine ze ?_;simp only [go_sem]
   simp [endsD]
 · obtain ⟨m1,m2⟩:=hm0 e.1 (by omega) (by omega)
   have hov:=over_ok r true T (v * (1000000 - e.1)) 1000000 m1 (by omega) (by omega) (by omega)
   have hmw : IntKind.i64.wrap (v * (1000000 - e.1)) = v * (1000000 - e.1):=by rw [zI] <;> omega
   repeat refine zq ?_
   refine zc rfl (fun hc=>?_) (fun hc=>?_) <;> (try simp only [go_sem] at hc)
   repeat refine zq ?_
   refine zb fun K hK=>?_;simp only [go_sem,hek,hk,spanR];(try simp (disch:=omega) only [zI]);repeat first | intro _ | refine ⟨by omega,?_⟩
   refine hK _ ?_;clear hK K
   try simp only [go_sem]
   repeat refine zq ?_
   refine zb fun K hK=>?_;simp only [go_sem,hkw,t1,t2,hk1,hlf,htn,hmw];(try simp (disch:=omega) only [zI]);repeat first | intro _ | refine ⟨by omega,?_⟩
   refine zh (hov) rfl (by simp only [go_sem,i64,ints,hmw]) (by simp only [go_sem,i64,ints,hmw]) (by first | exact .inl rfl | exact .inr rfl) ?_
   (try simp only [go_sem,hmw]);(try simp (disch:=omega) only [zI]);repeat first | intro _ | refine ⟨by omega,?_⟩
   refine hK _ ?_;clear hK K;refine zw (zk [6]) ?_;simp only [go_sem];refine ze ?_;simp only [go_sem]
   simp [endsD]
def opensD (out b : Int) : Bool:=if out = 1 then decide (b / 100 = 2) else if out = 2 then decide (2 ≤ b / 100) else true
theorem div100 {b : Int} (h0 : 0 ≤ b) (h1 : b ≤ 499) : IntKind.i64.wrap (b.tdiv 100) = b / 100 ∧ 0 ≤ b / 100 ∧ b / 100 ≤ 4:=by
 rw [Int.tdiv_eq_ediv_of_nonneg h0]
 refine ⟨?_,by omega,by omega⟩
 rw [zI] <;> omega
theorem opens_ok (r : Ru) (b : Int) (h0 : 0 ≤ b) (h1 : b ≤ 499) : ACalls Try.prog 179 [ruV r,i64 b] (.bo (opensD r.out b)):=by
 obtain ⟨hd,_,_⟩:=div100 h0 h1
 refine acalls_st (rs:=[.bo (opensD r.out b)]) [.tmp 4] Try.func179 rfl (by kernel_rfl) Try.ntmps179 rfl (by simp) rfl fun C vs=>?_
 repeat refine zq ?_
 refine zb fun K hK=>?_;simp only [go_sem];(try simp (disch:=omega) only [zI]);repeat first | intro _ | refine ⟨by omega,?_⟩
 refine hK _ ?_;clear hK K;refine zw (sub_frzP 2 2 (ruC r) (by omega) rfl rfl) ?_;refine zw (zk [1,2]) ?_;simp only [go_sem]
 repeat refine zq ?_
 refine zb fun K hK=>?_;simp only [go_sem,hd];(try simp (disch:=omega) only [zI]);repeat first | intro _ | refine ⟨by omega,?_⟩
 refine hK _ ?_;clear hK K;refine zw (zk [2,5]) ?_;simp only [go_sem]
 repeat refine zq ?_
 refine zb fun K hK=>?_;simp only [go_sem];(try simp (disch:=omega) only [zI]);repeat first | intro _ | refine ⟨by omega,?_⟩
 refine hK _ ?_;clear hK K;refine zw (zk [5,10]) ?_;simp only [go_sem]
 repeat refine zq ?_
 refine zd ?_
 by_cases c1 : r.out = 1
 · have e1 : (r.out == 1) = true:=by simpa using c1
   repeat refine zq ?_
   refine zb fun K hK=>?_;simp only [go_sem,e1];(try simp (disch:=omega) only [zI]);repeat first | intro _ | refine ⟨by omega,?_⟩
   refine hK _ ?_;clear hK K;refine zw (zk [5,10,11]) ?_;simp only [go_sem]
   repeat refine zq ?_
   refine zc rfl (fun hc=>?_) (fun hc=>?_) <;> (try simp only [go_sem] at hc)
   repeat refine zq ?_
   refine zb fun K hK=>?_;simp only [go_sem];(try simp (disch:=omega) only [zI]);repeat first | intro _ | refine ⟨by omega,?_⟩
   refine hK _ ?_;clear hK K;refine zw (zk [4]) ?_;simp only [go_sem];refine ze ?_;simp only [go_sem];simp only [opensD,c1,if_true]
   rfl
 have e1 : (r.out == 1) = false:=by simpa using c1
 repeat refine zq ?_
 refine zb fun K hK=>?_;simp only [go_sem,e1];(try simp (disch:=omega) only [zI]);repeat first | intro _ | refine ⟨by omega,?_⟩
 refine hK _ ?_;clear hK K;refine zw (zk [5,10,11]) ?_;simp only [go_sem]
 repeat refine zq ?_
 refine zc rfl (fun hc=>?_) (fun hc=>?_) <;> (try simp only [go_sem] at hc)
 by_cases c2 : r.out = 2
 · have e2 : (r.out == 2) = true:=by simpa using c2
   repeat refine zq ?_
   refine zb fun K hK=>?_;simp only [go_sem,e2];(try simp (disch:=omega) only [zI]);repeat first | intro _ | refine ⟨by omega,?_⟩
   refine hK _ ?_;clear hK K;refine zw (zk [5,15]) ?_;simp only [go_sem]
   repeat refine zq ?_
   refine zc rfl (fun hc=>?_) (fun hc=>?_) <;> (try simp only [go_sem] at hc)
   repeat refine zq ?_
   refine zb fun K hK=>?_;simp only [go_sem];(try simp (disch:=omega) only [zI]);repeat first | intro _ | refine ⟨by omega,?_⟩
   refine hK _ ?_;clear hK K;refine zw (zk [4]) ?_;simp only [go_sem];refine ze ?_;simp only [go_sem]
   simp [opensD,c2]
 have e2 : (r.out == 2) = false:=by simpa using c2
 repeat refine zq ?_
 refine zb fun K hK=>?_;simp only [go_sem,e2];(try simp (disch:=omega) only [zI]);repeat first | intro _ | refine ⟨by omega,?_⟩
 refine hK _ ?_;clear hK K;refine zw (zk [5,15]) ?_;simp only [go_sem]
 repeat refine zq ?_
 refine zc rfl (fun hc=>?_) (fun hc=>?_) <;> (try simp only [go_sem] at hc)
 refine zx ?_
 try simp only [go_sem]
 repeat refine zq ?_
 refine zb fun K hK=>?_;simp only [go_sem];(try simp (disch:=omega) only [zI]);repeat first | intro _ | refine ⟨by omega,?_⟩
 refine hK _ ?_;clear hK K;refine zw (zk [4]) ?_;simp only [go_sem];refine ze ?_;simp only [go_sem]
 simp [opensD,c1,c2]
def ltD (most : Bool) (x y : Bd) : Bool:=decide ((if most then y.b - x.b else x.b - y.b) < 0)
def loV (l : List Bd) : Int:=(l.map fun c=>c.lo * c.b).sum
theorem loV_snoc (l : List Bd) (x : Bd) : loV (l ++ [x]) = loV l + x.lo * x.b:=by simp [loV]
def fillG : List Bd → Int × Int → Int × Int
 | [],x=>x
 | c :: cs,x=>fillG cs (x.1 - min x.1 (c.hi - c.lo),x.2 + min x.1 (c.hi - c.lo) * c.b)
theorem fillG_snoc : ∀ (l : List Bd) (c : Bd) (x : Int × Int),fillG (l ++ [c]) x = ((fillG l x).1 - min (fillG l x).1 (c.hi - c.lo),(fillG l x).2 + min (fillG l x).1 (c.hi - c.lo) * c.b)
 | [],_,_=>rfl
 | d :: l,c,x=>by simp only [List.cons_append,fillG]; exact fillG_snoc l c _
def meanD (most : Bool) (den : Int) (l : List Bd) : Int:=overD most (fillG (sortN (ltD most) l) (den - loS (sortN (ltD most) l),loV (sortN (ltD most) l))).2 den
structure ChG (den : Int) (l : List Bd) : Prop where
 len : l.length ≤ 19
 den0 : 1 ≤ den
 den1 : den ≤ 3000
 low : loS l ≤ den
 each : ∀ c ∈ l,(0 ≤ c.b ∧ c.b ≤ 1000000) ∧ 0 ≤ c.lo ∧ c.lo ≤ c.hi ∧ c.hi ≤ 3000
theorem loV_le {l : List Bd} (h : ∀ c ∈ l,(0 ≤ c.b ∧ c.b ≤ 1000000) ∧ 0 ≤ c.lo ∧ c.lo ≤ c.hi ∧ c.hi ≤ 3000) : 0 ≤ loV l ∧ loV l ≤ 3000000000 * l.length:=by
 induction l with
 | nil=>simp [loV]
 | cons c l ih =>
   obtain ⟨h1,h2⟩:=ih fun x hx=>h x (by simp [hx])
   obtain ⟨⟨b0,b1⟩,g0,g1,g2⟩:=h c (by simp)
   have m0:=Int.mul_nonneg g0 b0
   have m1 : c.lo * c.b ≤ 3000 * 1000000:=Int.mul_le_mul (by omega) b1 b0 (by omega)
   simp only [loV,List.map_cons,List.sum_cons,List.length_cons] at h1 h2 ⊢
   omega
theorem insB_perm (lt : Bd → Bd → Bool) (x : Bd) : ∀ R,(insB lt x R).Perm (x :: R)
 | []=>List.Perm.refl _
 | y :: R => by
   unfold insB
   split
   · exact ((insB_perm lt x R).cons y).trans (List.Perm.swap _ _ _)
   · exact List.Perm.refl _
theorem sortB_perm (lt : Bd → Bd → Bool) : ∀ l R,(sortB lt l R).Perm (l ++ R)
 | [],R=>List.Perm.refl _
 | x :: l, R => by
   rw [sortB]
   refine (sortB_perm lt l _).trans ?_
   exact ((insB_perm lt x R).append_left l).trans List.perm_middle
theorem sortN_perm (lt : Bd → Bd → Bool) (l : List Bd) : (sortN lt l).Perm l:=by
 unfold sortN
 have:=sortB_perm lt l []
 rw [List.append_nil] at this
 exact (List.reverse_perm _).trans this
theorem perm_sum {α : Type} {f : α → Int} {l m : List α} (h : l.Perm m) : (l.map f).sum = (m.map f).sum:=by
 induction h with
 | nil=>rfl
 | cons x _ ih=>simp only [List.map_cons,List.sum_cons,ih]
 | swap x y l=>simp only [List.map_cons,List.sum_cons]; omega
 | trans _ _ h1 h2=>exact h1.trans h2
def GOk (x : Int × Int) : Prop:=(0 ≤ x.1 ∧ x.1 ≤ 3000) ∧ 0 ≤ x.2 ∧ x.2 ≤ 57000000000 + 1000000 * (3000 - x.1)
theorem gOk_step {c : Bd} {x : Int × Int} (h : GOk x) (hc : (0 ≤ c.b ∧ c.b ≤ 1000000) ∧ 0 ≤ c.lo ∧ c.lo ≤ c.hi ∧ c.hi ≤ 3000) :
 (0 ≤ min x.1 (c.hi - c.lo) ∧ min x.1 (c.hi - c.lo) ≤ x.1) ∧ (0 ≤ min x.1 (c.hi - c.lo) * c.b ∧ min x.1 (c.hi - c.lo) * c.b ≤ 3000000000) ∧ GOk (x.1 - min x.1 (c.hi - c.lo),x.2 + min x.1 (c.hi - c.lo) * c.b):=by
 obtain ⟨⟨h1,h2⟩,h3,h4⟩:=h
 obtain ⟨⟨b0,b1⟩,g0,g1,g2⟩:=hc
 generalize hm : min x.1 (c.hi - c.lo) = m
 have m0 : 0 ≤ m:=by omega
 have m1 : m ≤ x.1:=by omega
 have p0:=Int.mul_nonneg m0 b0
 have p1 : m * c.b ≤ m * 1000000:=Int.mul_le_mul_of_nonneg_left b1 m0
 refine ⟨⟨m0,m1⟩,⟨p0,by omega⟩,⟨by simp only; omega,by simp only; omega⟩,by simp only; omega,by simp only; omega⟩
theorem gOk_all {l : List Bd} : ∀ {x : Int × Int},(∀ c ∈ l,(0 ≤ c.b ∧ c.b ≤ 1000000) ∧ 0 ≤ c.lo ∧ c.lo ≤ c.hi ∧ c.hi ≤ 3000) → GOk x → GOk (fillG l x):=by
 induction l with
 | nil=>intro x _ h; exact h
 | cons c l ih =>
   intro x hc h
   exact ih (fun y hy=>hc y (by simp [hy])) (gOk_step h (hc c (by simp))).2.2
theorem mean_ok (r : Ru) (most : Bool) (T : List (List Int)) (l : List Bd) (h : ChG r.d l) :
 MCalls Try.prog 121 [(1000,.arr 285 3 (idx l))] [(1000,.arr 285 3 (idx (sortN (ltD most) l)))] [.r (sideP r most T),.os 1000 0 3 0 l.length] (.r (i64 (meanD most r.d l))):=by
 have hsort:=sortStable_ok (ltD most) (fun x y=>if most then y.b - x.b else x.b - y.b) 182 [.rp [sideP r most T]] l h.len (fun _ _=>rfl) (fun x hx y hy=>cmp_ok r most T x y (h.each x hx).1 (h.each y hy).1)
 obtain ⟨S,hS⟩ : ∃ S,S = sortN (ltD most) l:=⟨_,rfl⟩
 have hperm : S.Perm l:=hS ▸ sortN_perm _ _
 have hSl : S.length = l.length:=hperm.length_eq
 have hSe : ∀ c ∈ S,(0 ≤ c.b ∧ c.b ≤ 1000000) ∧ 0 ≤ c.lo ∧ c.lo ≤ c.hi ∧ c.hi ≤ 3000:=fun c hc=>h.each c (hperm.mem_iff.1 hc)
 have hlo : loS S = loS l:=perm_sum hperm
 have hl19:=h.len
 have hd0:=h.den0
 have hd1:=h.den1
 have hlow:=h.low
 rw [show meanD most r.d l = overD most (fillG S (r.d - loS S,loV S)).2 r.d by rw [meanD,← hS]]
 rw [← hS] at hsort ⊢
 have hsub : ∀ i,(0 ≤ loS (S.take i) ∧ loS (S.take i) ≤ 57000) ∧ 0 ≤ loV (S.take i) ∧ loV (S.take i) ≤ 57000000000:=fun i=>by
  have hm : ∀ c ∈ S.take i,(0 ≤ c.b ∧ c.b ≤ 1000000) ∧ 0 ≤ c.lo ∧ c.lo ≤ c.hi ∧ c.hi ≤ 3000:=fun c hc=>hSe c (List.mem_of_mem_take hc)
  have h1:=loV_le hm
  have h2 : 0 ≤ loS (S.take i) ∧ loS (S.take i) ≤ 3000 * (S.take i).length:=by
   generalize S.take i = L at hm
   clear h1
   induction L with
   | nil=>simp [loS]
   | cons c L ih =>
     obtain ⟨i1,i2⟩:=ih fun x hx=>hm x (by simp [hx])
     have:=hm c (by simp)
     simp only [loS,List.map_cons,List.sum_cons,List.length_cons] at i1 i2 ⊢
     omega
  have h3 : (S.take i).length ≤ 19:=by rw [List.length_take]; omega
  omega
 have hall:=hsub S.length
 rw [List.take_length] at hall
 have hG0 : GOk (r.d - loS S,loV S):=⟨⟨by simp only; omega,by simp only; omega⟩,by simp only; omega,by simp only; omega⟩
 refine mcalls_st (n:=77) (rs:=[.r (i64 (overD most (fillG S (r.d - loS S,loV S)).2 r.d))]) _ _ [.tmp 4] Try.func121 rfl (by kernel_rfl) Try.ntmps121 rfl (by simp) rfl rfl fun C=>?_
 repeat refine zq ?_
 refine zb fun K hK=>?_;simp only [go_sem];(try simp (disch:=omega) only [zI]);repeat first | intro _ | refine ⟨by omega,?_⟩
 refine hK _ ?_;clear hK K;refine zw (sub_frzP 2 2 [sideP r most T] (by omega) rfl rfl) ?_;refine zw (zk [1,2]) ?_;simp only [go_sem]
 repeat refine zq ?_
 refine zb fun K hK=>?_;simp only [go_sem];(try simp (disch:=omega) only [zI])
 refine xcall_mut (mcalls_fn hsort) [(1000,1000)] rfl (by simp only [go_sem,i64,ints]) (by simp only [go_sem,i64,ints]) (by rfl) (by rfl) ?_
 (try simp only [go_sem]);(try simp (disch:=omega) only [zI]);repeat first | intro _ | refine ⟨by omega,?_⟩
 refine hK _ ?_;clear hK K;refine zw (zk [1,2]) ?_;simp only [go_sem]
 repeat refine zq ?_
 refine zb fun K hK=>?_;simp only [go_sem];(try simp (disch:=omega) only [zI]);repeat first | intro _ | refine ⟨by omega,?_⟩
 refine hK _ ?_;clear hK K;refine zw (zk [1,2,5,6]) ?_;simp only [go_sem]
 repeat refine zq ?_
 refine zb fun K hK=>?_;simp only [go_sem];(try simp (disch:=omega) only [zI]);repeat first | intro _ | refine ⟨by omega,?_⟩
 refine hK _ ?_;clear hK K;refine zw (zk [1,2,5,6,22,23,24]) ?_;simp only [go_sem]
 repeat refine zq ?_
 refine zd ?_
 refine awp_uptoV (n:=77) l.length (fun i vs=>[(1,.os 1000 (vs 1000) 3 0 l.length),(2,.r (.rp [sideP r most T])),(5,.r (i64 (r.d - loS (S.take i)))),(6,.r (i64 (loV (S.take i)))),(22,.os 1000 (vs 1000) 3 0 l.length),(23,.r (i64 l.length)),(24,.r (i64 i))])
  (fun i vs=>[(1000,.arr 285 3 (idx S))]) (fun _=>True) 0 (zj [] ?_ ?_) (Nat.zero_le _) trivial ?_
 · try simp only [go_sem]
   simp [loS,loV]
 · try simp only [go_sem]
 · intro i vs hi _
   repeat refine zq ?_
   refine zb fun K hK=>?_;simp only [go_sem];(try simp (disch:=omega) only [zI]);repeat first | intro _ | refine ⟨by omega,?_⟩
   refine hK _ ?_;clear hK K;refine zw (zk [1,2,5,6,22,23,24,25]) ?_;simp only [go_sem]
   repeat refine zq ?_
   refine zc rfl (fun hc=>?_) (fun hc=>?_) <;> (try simp only [go_sem] at hc)
   · have hci : i < S.length:=by omega
     obtain ⟨c,hx⟩:=opt_of_lt hci
     obtain ⟨⟨b0,b1⟩,g0,g1,g2⟩:=hSe c (mem_of_opt hx)
     have m0:=Int.mul_nonneg g0 b0
     have m1 : c.lo * c.b ≤ 3000 * 1000000:=Int.mul_le_mul (by omega) b1 b0 (by omega)
     have hmw : IntKind.i64.wrap (c.lo * c.b) = c.lo * c.b:=by rw [zI] <;> omega
     have hs1:=hsub i
     have hlS : loS (S.take (i + 1)) = loS (S.take i) + c.lo:=by rw [take_of_opt hx,loS_snoc]
     have hlV : loV (S.take (i + 1)) = loV (S.take i) + c.lo * c.b:=by rw [take_of_opt hx,loV_snoc]
     refine zx ?_
     try simp only [go_sem]
     repeat refine zq ?_
     refine zd ?_
     repeat refine zq ?_
     refine zb fun K hK=>?_;simp only [go_sem,hx,hci,hSl,bedR];(try simp (disch:=omega) only [zI]);repeat first | intro _ | refine ⟨by omega,?_⟩
     repeat first | intro _ | refine ⟨by omega,?_⟩
     refine hK _ ?_;clear hK K;refine zw (sub_frzP 8 8 (bedR c) (by omega) rfl rfl) ?_;simp only [go_sem,bedR];refine zw (zk [1,2,5,6,8,22,23,24]) ?_;simp only [go_sem]
     repeat refine zq ?_
     refine zg follows (by decide +kernel) (by kernel_rfl) fun K hK=>?_;simp only [go_sem,hmw];(try simp (disch:=omega) only [zI]);repeat first | intro _ | refine ⟨by omega,?_⟩
     refine hK _ ?_;clear hK K;refine zw (zk [1,2,5,6,22,23,24]) ?_;simp only [go_sem]
     repeat refine zq ?_
     refine zb fun K hK=>?_;simp only [go_sem];(try simp (disch:=omega) only [zI]);repeat first | intro _ | refine ⟨by omega,?_⟩
     refine hK _ ?_;clear hK K
     try simp only [go_sem]
     refine ⟨by omega,zj [] ?_ ?_⟩
     · try simp only [go_sem]
       rw [hlS,hlV]
       exact ⟨by rw [Int.sub_sub],rfl⟩
     · try simp only [go_sem]
   · have hil : i = S.length:=by omega
     subst hil
     rw [List.take_length]
     refine zf ?_;simp only [go_sem]
     repeat refine zq ?_
     refine zb fun K hK=>?_;simp only [go_sem];(try simp (disch:=omega) only [zI]);repeat first | intro _ | refine ⟨by omega,?_⟩
     refine hK _ ?_;clear hK K;refine zw (zk [2,5,6,42,43,44]) ?_;simp only [go_sem]
     repeat refine zq ?_
     refine zd ?_
     refine awp_uptoV (n:=77) l.length (fun i vs=>[(2,.r (.rp [sideP r most T])),(5,.r (i64 (fillG (S.take i) (r.d - loS S,loV S)).1)),(6,.r (i64 (fillG (S.take i) (r.d - loS S,loV S)).2)),(42,.os 1000 (vs 1000) 3 0 l.length),(43,.r (i64 l.length)),(44,.r (i64 i))])
      (fun i vs=>[(1000,.arr 285 3 (idx S))]) (fun _=>True) 0 (zj [] ?_ ?_) (Nat.zero_le _) trivial ?_
     · try simp only [go_sem]
       simp [fillG]
     · try simp only [go_sem]
     · intro i vs hi2 _
       have hG : GOk (fillG (S.take i) (r.d - loS S,loV S)):=gOk_all (fun c hc=>hSe c (List.mem_of_mem_take hc)) hG0
       repeat refine zq ?_
       refine zb fun K hK=>?_;simp only [go_sem];(try simp (disch:=omega) only [zI]);repeat first | intro _ | refine ⟨by omega,?_⟩
       refine hK _ ?_;clear hK K;refine zw (zk [2,5,6,42,43,44,45]) ?_;simp only [go_sem]
       repeat refine zq ?_
       refine zc rfl (fun hc=>?_) (fun hc=>?_) <;> (try simp only [go_sem] at hc)
       · have hci : i < S.length:=by omega
         obtain ⟨c,hx⟩:=opt_of_lt hci
         obtain ⟨⟨b0,b1⟩,g0,g1,g2⟩:=hSe c (mem_of_opt hx)
         obtain ⟨⟨k0,k1⟩,⟨k2,k3⟩,k4⟩:=gOk_step hG (hSe c (mem_of_opt hx))
         rw [take_of_opt hx,fillG_snoc]
         obtain ⟨⟨q1,q2⟩,q3,q4⟩:=hG
         generalize fillG (S.take i) (r.d - loS S,loV S) = X at *
         obtain ⟨lf,sm⟩:=X
         simp only at *
         have hsw : IntKind.i64.wrap (c.hi - c.lo) = c.hi - c.lo:=by rw [zI] <;> omega
         generalize hmm : min lf (c.hi - c.lo) = m at *
         have hmw : IntKind.i64.wrap (m * c.b) = m * c.b:=by rw [zI] <;> omega
         refine zx ?_
         try simp only [go_sem]
         repeat refine zq ?_
         refine zd ?_
         repeat refine zq ?_
         refine zb fun K hK=>?_;simp only [go_sem,hx,hci,hSl,bedR];(try simp (disch:=omega) only [zI]);repeat first | intro _ | refine ⟨by omega,?_⟩
         repeat first | intro _ | refine ⟨by omega,?_⟩
         refine hK _ ?_;clear hK K;refine zw (sub_frzP 10 10 (bedR c) (by omega) rfl rfl) ?_;simp only [go_sem,bedR];refine zw (zk [2,5,6,10,42,43,44]) ?_;simp only [go_sem]
         repeat refine zq ?_
         refine zb fun K hK=>?_;simp only [go_sem,hsw,hmm];(try simp (disch:=omega) only [zI]);repeat first | intro _ | refine ⟨by omega,?_⟩
         refine hK _ ?_;clear hK K;refine zw (zk [2,5,6,10,11,42,43,44]) ?_;simp only [go_sem]
         repeat refine zq ?_
         refine zg follows (by decide +kernel) (by kernel_rfl) fun K hK=>?_;simp only [go_sem,hmw];(try simp (disch:=omega) only [zI]);repeat first | intro _ | refine ⟨by omega,?_⟩
         refine hK _ ?_;clear hK K;refine zw (zk [2,5,6,42,43,44]) ?_;simp only [go_sem]
         repeat refine zq ?_
         refine zb fun K hK=>?_;simp only [go_sem];(try simp (disch:=omega) only [zI]);repeat first | intro _ | refine ⟨by omega,?_⟩
         refine hK _ ?_;clear hK K
         try simp only [go_sem]
         refine ⟨by omega,zj [] ?_ ?_⟩
         · try simp only [go_sem]
         · try simp only [go_sem]
       · have hil : i = S.length:=by omega
         subst hil
         rw [List.take_length] at hG ⊢
         have hov:=over_ok r most T (fillG S (r.d - loS S,loV S)).2 r.d hG.2.1 (by have:=hG.1; have:=hG.2.2; omega) (by omega) (by omega)
         refine zf ?_;simp only [go_sem]
         repeat refine zq ?_
         refine zg follows (by decide +kernel) (by kernel_rfl) fun K hK=>?_;simp only [go_sem];(try simp (disch:=omega) only [zI])
         refine zh (hov) rfl (by simp only [go_sem,i64,ints]) (by simp only [go_sem,i64,ints]) (by first | exact .inl rfl | exact .inr rfl) ?_
         (try simp only [go_sem]);(try simp (disch:=omega) only [zI]);repeat first | intro _ | refine ⟨by omega,?_⟩
         refine hK _ ?_;clear hK K;refine zw (zk [4]) ?_;simp only [go_sem];refine ze ?_;simp only [go_sem]
abbrev visC (r : Ru) (most : Bool) (T : List (List Int)) (k st : Int) (m v : Nat) : List AV:=[.r (sideP r most T),.r (i64 k),.r (i64 st),.mp m v]
theorem newVisit_ok (r : Ru) (most : Bool) (T : List (List Int)) (k st : Int) :
 NCalls Try.prog 68 [sideP r most T,i64 k,i64 st] [(12,.box (visC r most T k st 10 0)),(10,.mp [])] (.pt 12 0 0):=by
 refine ncalls_st (n:=13) _ _ (.tmp 6) Try.func68 rfl (by kernel_rfl) Try.ntmps68 rfl (by simp) rfl rfl fun C hC=>?_
 repeat refine zq ?_
 refine zb fun K hK=>?_;simp only [go_sem];(try simp (disch:=omega) only [zI]);repeat first | intro _ | refine ⟨by omega,?_⟩
 refine hK _ ?_;clear hK K;refine zw (zk [0,1,2]) ?_;simp only [go_sem]
 repeat refine zq ?_
 refine zb fun K hK=>?_;simp only [go_sem];(try simp (disch:=omega) only [zI]);repeat first | intro _ | refine ⟨by omega,?_⟩
 refine hK _ ?_;clear hK K;refine zw (zk [6]) ?_;simp only [go_sem];refine ze ?_
 try simp only [go_sem]
def nextV (r : Ru) (most : Bool) (T : List (List Int)) (k st : Nat) (val : Nat → Int) (last : Bool) (left : Nat) (b : Int) : Int :=
 if decide (0 < scoreOf b) && (decide ((left : Int) - scoreOf b = 0) && opensD r.out b) then 1000000
 else if decide (0 < scoreOf b) && decide ((left : Int) - scoreOf b < lowestR r) then afterD r most T k st
 else if last then afterD r most T k ((left : Int) - scoreOf b).toNat
 else val ((left : Int) - scoreOf b).toNat
def maxL (l : List Int) : Int:=l.foldl max (l.headD 0)
def chW (f : Int → Int) (l : List Bd) : List Bd:=l.map fun c=>⟨f c.b,c.lo,c.hi⟩
def meansV (r : Ru) (most : Bool) (f : Int → Int) : List Int:=r.aims.map fun a=>meanD most r.d (chW f a.beds)
def valV (r : Ru) (most : Bool) (T : List (List Int)) (k st : Nat) : Nat → Nat → Int
 | 0,_=>0
 | n + 1,left=>maxL (meansV r most (nextV r most T k st (valV r most T k st n) (decide (n = 0)) left))
def memoV (r : Ru) (most : Bool) (T : List (List Int)) (k st : Nat) (m : List (RV × RV)) : Prop :=
 ∀ e ∈ m,∃ n left : Nat,e = (.ag [i64 (left : Int),i64 (n : Int)],i64 (valV r most T k st n left))
theorem memo_find {r : Ru} {most : Bool} {T : List (List Int)} {k st n left : Nat} : ∀ {m : List (RV × RV)} {i : Nat},memoV r most T k st m →
 findK (.ag [i64 (left : Int),i64 (n : Int)]) m i = some none ∨ ∃ j,findK (.ag [i64 (left : Int),i64 (n : Int)]) m i = some (some (j,i64 (valV r most T k st n left)))
 | [],i,_=>.inl rfl
 | e :: m, i, h => by
   obtain ⟨n',left',rfl⟩:=h e (by simp)
   have ih:=memo_find (n:=n) (left:=left) (m:=m) (i:=i + 1) fun x hx=>h x (by simp [hx])
   by_cases he : left = left' ∧ n = n'
   · obtain ⟨rfl,rfl⟩:=he
     exact .inr ⟨i,by simp [findK,sameK,cmpL,i64]⟩
   · have hf : sameK (.ag [i64 (left : Int),i64 (n : Int)]) (.ag [i64 (left' : Int),i64 (n' : Int)]) = some false:=by
      simp only [sameK,cmpL,i64,if_true,Option.some.injEq,Bool.and_true,Bool.and_eq_false_iff,beq_eq_false_iff_ne]
      omega
     simp only [findK,hf];exact ih
theorem memo_set {r : Ru} {most : Bool} {T : List (List Int)} {k st n left : Nat} {m : List (RV × RV)} (h : memoV r most T k st m) (i : Nat) : memoV r most T k st (m.set i (.ag [i64 (left : Int),i64 (n : Int)],i64 (valV r most T k st n left))):=fun e he=>by
 rcases List.mem_or_eq_of_mem_set he with he | rfl
 · exact h e he
 · exact ⟨n,left,rfl⟩
theorem memo_app {r : Ru} {most : Bool} {T : List (List Int)} {k st n left : Nat} {m : List (RV × RV)} (h : memoV r most T k st m) : memoV r most T k st (m ++ [(.ag [i64 (left : Int),i64 (n : Int)],i64 (valV r most T k st n left))]):=fun e he=>by
 rcases List.mem_append.1 he with he | he
 · exact h e he
 · rw [List.mem_singleton] at he; exact ⟨n,left,he⟩
abbrev visL (r : Ru) (most : Bool) (T : List (List Int)) (k st : Nat) : List (Nat × RowC):=[(1000,.box (visC r most T (k : Int) (st : Int) 1001 0)),(1001,.mem (memoV r most T k st))]
structure VisG (r : Ru) (T : List (List Int)) (k st : Nat) : Prop where
 kk : k < r.ends.length
 h10 : r.ends.length ≤ 10
 ends : ∀ x ∈ r.ends,endOk x = true
 st40 : (st : Int) ≤ r.start
 s40 : r.start ≤ 40
 tab : ∀ left : Nat,(left : Int) ≤ r.start → ∃ row v,k + 1 < r.ends.length → T[k + 1]? = some row ∧ row[left]? = some v ∧ 0 ≤ v ∧ v ≤ 1000000
theorem VisG.after {r : Ru} {T : List (List Int)} {k st : Nat} (h : VisG r T k st) (most : Bool) {left : Nat} (hl : (left : Int) ≤ r.start) : ACalls Try.prog 45 [sideP r most T,i64 k,i64 left] (i64 (afterD r most T k left)):=by
 obtain ⟨row,v,hv⟩:=h.tab left hl
 exact after_ok r most T k left row v h.kk h.h10 h.ends hv
theorem next_ok (r : Ru) (most : Bool) (T : List (List Int)) (k st n left : Nat) (b : Int) (hG : VisG r T k st) (hl1 : 1 ≤ left) (hl : (left : Int) ≤ r.start) (hn : n ≤ 100) (b0 : 0 ≤ b) (b1 : b ≤ 499)
 (hval : n ≠ 0 → ∀ left' : Nat,1 ≤ left' → (left' : Int) ≤ r.start → MCalls Try.prog 180 (visL r most T k st) (visL r most T k st) [.pt 1000 0 0,.r (.ag [i64 (left' : Int),i64 (n : Int)])] (.r (i64 (valV r most T k st n left')))) :
 MCalls Try.prog 120 (visL r most T k st) (visL r most T k st) [.pt 1000 0 0,.r (.ag [i64 (left : Int),i64 ((n : Int) + 1)]),.r (i64 b)] (.r (i64 (nextV r most T k st (valV r most T k st n) (decide (n = 0)) left b))):=by
 have h40:=hG.s40
 have hq:=tdiv100 (b:=b) ⟨by omega,by omega⟩
 have hm:=score_mul b0 b1
 obtain ⟨s0,s1⟩:=score_le b0 b1
 obtain ⟨x,hx⟩ : ∃ x,x = scoreOf b:=⟨_,rfl⟩
 have hdn : IntKind.i64.wrap ((n : Int) + 1 - 1) = n:=by rw [zI] <;> omega
 have hlx : IntKind.i64.wrap ((left : Int) - scoreOf b) = left - scoreOf b:=by rw [zI] <;> omega
 have hop:=opens_ok r b b0 b1
 have hlo : ACalls Try.prog 119 [ruV r] (i64 (lowestR r)):=dlowest_ok r
 refine mcalls_st (n:=88) (rs:=[.r (i64 (nextV r most T k st (valV r most T k st n) (decide (n = 0)) left b))]) _ _ [.tmp 6] Try.func120 rfl (by kernel_rfl) Try.ntmps120 rfl (by simp) rfl rfl fun C=>?_
 repeat refine zq ?_
 refine zb fun K hK=>?_;simp only [go_sem];(try simp (disch:=omega) only [zI]);repeat first | intro _ | refine ⟨by omega,?_⟩
 refine hK _ ?_;clear hK K;refine zw (zk [0,2,4]) ?_;simp only [go_sem]
 repeat refine zq ?_
 refine zb fun K hK=>?_;simp only [go_sem,hq,hm];(try simp (disch:=omega) only [zI]);repeat first | intro _ | refine ⟨by omega,?_⟩
 refine hK _ ?_;clear hK K;refine zw (zk [0,2,4,7]) ?_;simp only [go_sem]
 repeat refine zq ?_
 refine zb fun K hK=>?_;simp only [go_sem,hlx];(try simp (disch:=omega) only [zI]);repeat first | intro _ | refine ⟨by omega,?_⟩
 refine hK _ ?_;clear hK K;refine zw (zk [0,2,4,7]) ?_;simp only [go_sem]
 repeat refine zq ?_
 refine zb fun K hK=>?_;simp only [go_sem,hdn];(try simp (disch:=omega) only [zI]);repeat first | intro _ | refine ⟨by omega,?_⟩
 refine hK _ ?_;clear hK K;refine zw (zk [0,2,4,7]) ?_;simp only [go_sem]
 rw [← hx] at hlx ⊢
 repeat refine zq ?_
 refine zd ?_
 have hst:=hG.after most hG.st40
 have hv : nextV r most T k st (valV r most T k st n) (decide (n = 0)) left b = if decide (0 < x) && (decide ((left : Int) - x = 0) && opensD r.out b) then 1000000
  else if decide (0 < x) && decide ((left : Int) - x < lowestR r) then afterD r most T k st else if n = 0 then afterD r most T k ((left : Int) - x).toNat else valV r most T k st n ((left : Int) - x).toNat:=by
  unfold nextV; rw [← hx]; simp only [decide_eq_true_eq]
 by_cases c1 : 0 < x
 · have d1 : decide (0 < x) = true:=by simpa using c1
   by_cases c2 : (left : Int) - x = 0
   · have d2 : ((left : Int) - x == 0) = true:=by simpa using c2
     cases c3 : opensD r.out b
     · have c4 : (left : Int) - x < lowestR r:=by unfold lowestR; split <;> omega
       have d4 : decide ((left : Int) - x < lowestR r) = true:=by simpa using c4
       rw [c3] at hop
       repeat refine zq ?_
       refine zb fun K hK=>?_;simp only [go_sem,d1,d2];(try simp (disch:=omega) only [zI])
       refine zh (hop) rfl (by simp only [go_sem,i64,ints,d1,d2]) (by simp only [go_sem,i64,ints,d1,d2]) (by first | exact .inl rfl | exact .inr rfl) ?_
       (try simp only [go_sem,d1,d2]);(try simp (disch:=omega) only [zI]);repeat first | intro _ | refine ⟨by omega,?_⟩
       refine hK _ ?_;clear hK K;refine zw (zk [0,4,7,22]) ?_;simp only [go_sem]
       repeat refine zq ?_
       refine zc rfl (fun hc=>?_) (fun hc=>?_) <;> (try simp only [go_sem] at hc)
       repeat refine zq ?_
       refine zg follows (by decide +kernel) (by kernel_rfl) fun K hK=>?_;simp only [go_sem,d1,d4];(try simp (disch:=omega) only [zI])
       refine zh (hlo) rfl (by simp only [go_sem,i64,ints,d1,d4]) (by simp only [go_sem,i64,ints,d1,d4]) (by first | exact .inl rfl | exact .inr rfl) ?_
       (try simp only [go_sem,d1,d4]);(try simp (disch:=omega) only [zI]);repeat first | intro _ | refine ⟨by omega,?_⟩
       refine hK _ ?_;clear hK K;refine zw (zk [0,4,41]) ?_;simp only [go_sem]
       repeat refine zq ?_
       refine zc rfl (fun hc=>?_) (fun hc=>?_) <;> (try simp only [go_sem] at hc)
       repeat refine zq ?_
       refine zg follows (by decide +kernel) (by kernel_rfl) fun K hK=>?_;simp only [go_sem];(try simp (disch:=omega) only [zI])
       refine zh (hst) rfl (by simp only [go_sem,i64,ints]) (by simp only [go_sem,i64,ints]) (by first | exact .inl rfl | exact .inr rfl) ?_
       (try simp only [go_sem]);(try simp (disch:=omega) only [zI]);repeat first | intro _ | refine ⟨by omega,?_⟩
       refine hK _ ?_;clear hK K;refine zw (zk [6]) ?_;simp only [go_sem];refine ze ?_;simp only [go_sem]
       rw [hv]; simp [c1,c3,c4]
     · rw [c3] at hop
       repeat refine zq ?_
       refine zb fun K hK=>?_;simp only [go_sem,d1,d2];(try simp (disch:=omega) only [zI])
       refine zh (hop) rfl (by simp only [go_sem,i64,ints,d1,d2]) (by simp only [go_sem,i64,ints,d1,d2]) (by first | exact .inl rfl | exact .inr rfl) ?_
       (try simp only [go_sem,d1,d2]);(try simp (disch:=omega) only [zI]);repeat first | intro _ | refine ⟨by omega,?_⟩
       refine hK _ ?_;clear hK K;refine zw (zk [0,4,7,22]) ?_;simp only [go_sem]
       repeat refine zq ?_
       refine zc rfl (fun hc=>?_) (fun hc=>?_) <;> (try simp only [go_sem] at hc)
       repeat refine zq ?_
       refine zb fun K hK=>?_;simp only [go_sem];(try simp (disch:=omega) only [zI]);repeat first | intro _ | refine ⟨by omega,?_⟩
       refine hK _ ?_;clear hK K;refine zw (zk [6]) ?_;simp only [go_sem];refine ze ?_;simp only [go_sem]
       rw [hv]; simp [c1,c2,c3]
   · have d2 : ((left : Int) - x == 0) = false:=by simpa using c2
     repeat refine zq ?_
     refine zb fun K hK=>?_;simp only [go_sem,d1,d2];(try simp (disch:=omega) only [zI]);repeat first | intro _ | refine ⟨by omega,?_⟩
     refine hK _ ?_;clear hK K;refine zw (zk [0,4,7,22]) ?_;simp only [go_sem]
     repeat refine zq ?_
     refine zc rfl (fun hc=>?_) (fun hc=>?_) <;> (try simp only [go_sem] at hc)
     by_cases c4 : (left : Int) - x < lowestR r
     · have d4 : decide ((left : Int) - x < lowestR r) = true:=by simpa using c4
       repeat refine zq ?_
       refine zg follows (by decide +kernel) (by kernel_rfl) fun K hK=>?_;simp only [go_sem,d1,d4];(try simp (disch:=omega) only [zI])
       refine zh (hlo) rfl (by simp only [go_sem,i64,ints,d1,d4]) (by simp only [go_sem,i64,ints,d1,d4]) (by first | exact .inl rfl | exact .inr rfl) ?_
       (try simp only [go_sem,d1,d4]);(try simp (disch:=omega) only [zI]);repeat first | intro _ | refine ⟨by omega,?_⟩
       refine hK _ ?_;clear hK K;refine zw (zk [0,4,41]) ?_;simp only [go_sem]
       repeat refine zq ?_
       refine zc rfl (fun hc=>?_) (fun hc=>?_) <;> (try simp only [go_sem] at hc)
       repeat refine zq ?_
       refine zg follows (by decide +kernel) (by kernel_rfl) fun K hK=>?_;simp only [go_sem];(try simp (disch:=omega) only [zI])
       refine zh (hst) rfl (by simp only [go_sem,i64,ints]) (by simp only [go_sem,i64,ints]) (by first | exact .inl rfl | exact .inr rfl) ?_
       (try simp only [go_sem]);(try simp (disch:=omega) only [zI]);repeat first | intro _ | refine ⟨by omega,?_⟩
       refine hK _ ?_;clear hK K;refine zw (zk [6]) ?_;simp only [go_sem];refine ze ?_;simp only [go_sem]
       rw [hv]; simp [c1,c2,c4]
     · have d4 : decide ((left : Int) - x < lowestR r) = false:=by simpa using c4
       have hl1' : 1 ≤ lowestR r:=by unfold lowestR; split <;> omega
       obtain ⟨y,hy⟩ : ∃ y : Nat,(left : Int) - x = (y : Int):=⟨((left : Int) - x).toNat,by omega⟩
       have hyn : ((left : Int) - x).toNat = y:=by omega
       have haf:=hG.after most (left:=y) (by omega)
       rw [hy] at c2 c4
       repeat refine zq ?_
       refine zg follows (by decide +kernel) (by kernel_rfl) fun K hK=>?_;simp only [go_sem,d1,d4];(try simp (disch:=omega) only [zI])
       refine zh (hlo) rfl (by simp only [go_sem,i64,ints,d1,d4]) (by simp only [go_sem,i64,ints,d1,d4]) (by first | exact .inl rfl | exact .inr rfl) ?_
       (try simp only [go_sem,d1,d4]);(try simp (disch:=omega) only [zI]);repeat first | intro _ | refine ⟨by omega,?_⟩
       refine hK _ ?_;clear hK K;refine zw (zk [0,4,41]) ?_;simp only [go_sem]
       repeat refine zq ?_
       refine zc rfl (fun hc=>?_) (fun hc=>?_) <;> (try simp only [go_sem] at hc)
       by_cases c5 : n = 0
       · have d5 : ((n : Int) == 0) = true:=by simpa using c5
         repeat refine zq ?_
         refine zb fun K hK=>?_;simp only [go_sem,d5];(try simp (disch:=omega) only [zI]);repeat first | intro _ | refine ⟨by omega,?_⟩
         refine hK _ ?_;clear hK K;refine zw (zk [0,4,70]) ?_;simp only [go_sem]
         repeat refine zq ?_
         refine zc rfl (fun hc=>?_) (fun hc=>?_) <;> (try simp only [go_sem] at hc)
         repeat refine zq ?_
         refine zg follows (by decide +kernel) (by kernel_rfl) fun K hK=>?_;simp only [go_sem,hy];(try simp (disch:=omega) only [zI])
         refine zh (haf) rfl (by simp only [go_sem,i64,ints]) (by simp only [go_sem,i64,ints]) (by first | exact .inl rfl | exact .inr rfl) ?_
         (try simp only [go_sem]);(try simp (disch:=omega) only [zI]);repeat first | intro _ | refine ⟨by omega,?_⟩
         refine hK _ ?_;clear hK K;refine zw (zk [6]) ?_;simp only [go_sem];refine ze ?_;simp only [go_sem]
         have c2' : ¬ y = 0:=by omega
         rw [hv,hyn]; simp [c1,c2,c2',c4,c5,hy]
       · have d5 : ((n : Int) == 0) = false:=by simpa using c5
         have hvl:=hval c5 y (by omega) (by omega)
         repeat refine zq ?_
         refine zb fun K hK=>?_;simp only [go_sem,d5];(try simp (disch:=omega) only [zI]);repeat first | intro _ | refine ⟨by omega,?_⟩
         refine hK _ ?_;clear hK K;refine zw (zk [0,4,70]) ?_;simp only [go_sem]
         repeat refine zq ?_
         refine zc rfl (fun hc=>?_) (fun hc=>?_) <;> (try simp only [go_sem] at hc)
         refine zx ?_
         try simp only [go_sem]
         refine zw (sub_frzP 4 4 [i64 ((left : Int) - x),i64 (n : Int)] (by omega) rfl rfl) ?_;refine zw (zk [0,4]) ?_;simp only [go_sem]
         repeat refine zq ?_
         refine zb fun K hK=>?_;simp only [go_sem,hy];(try simp (disch:=omega) only [zI])
         refine xcall_mut (hvl) [(1000,1000),(1001,1001)] rfl (by simp only [go_sem,i64,ints]) (by simp only [go_sem,i64,ints]) (by rfl) (by rfl) ?_
         (try simp only [go_sem]);(try simp (disch:=omega) only [zI]);repeat first | intro _ | refine ⟨by omega,?_⟩
         refine hK _ ?_;clear hK K;refine zw (zk [6]) ?_;simp only [go_sem];refine ze ?_;simp only [go_sem]
         have c2' : ¬ y = 0:=by omega
         rw [hv,hyn]; simp [c1,c2,c2',c4,c5,hy]
 · have d1 : decide (0 < x) = false:=by simpa using c1
   have hx0 : x = 0:=by omega
   repeat refine zq ?_
   refine zb fun K hK=>?_;simp only [go_sem,d1];(try simp (disch:=omega) only [zI]);repeat first | intro _ | refine ⟨by omega,?_⟩
   refine hK _ ?_;clear hK K;refine zw (zk [0,4,7,22]) ?_;simp only [go_sem]
   repeat refine zq ?_
   refine zc rfl (fun hc=>?_) (fun hc=>?_) <;> (try simp only [go_sem] at hc)
   repeat refine zq ?_
   refine zg follows (by decide +kernel) (by kernel_rfl) fun K hK=>?_;simp only [go_sem,d1];(try simp (disch:=omega) only [zI]);repeat first | intro _ | refine ⟨by omega,?_⟩
   refine hK _ ?_;clear hK K;refine zw (zk [0,4,41]) ?_;simp only [go_sem]
   have haf:=hG.after most hl
   have hx1 : ((left : Int) - x).toNat = left:=by omega
   subst hx0
   simp only [Int.sub_zero] at hx1 ⊢
   repeat refine zq ?_
   refine zc rfl (fun hc=>?_) (fun hc=>?_) <;> (try simp only [go_sem] at hc)
   by_cases c5 : n = 0
   · have d5 : ((n : Int) == 0) = true:=by simpa using c5
     repeat refine zq ?_
     refine zb fun K hK=>?_;simp only [go_sem,d5];(try simp (disch:=omega) only [zI]);repeat first | intro _ | refine ⟨by omega,?_⟩
     refine hK _ ?_;clear hK K;refine zw (zk [0,4,70]) ?_;simp only [go_sem]
     repeat refine zq ?_
     refine zc rfl (fun hc=>?_) (fun hc=>?_) <;> (try simp only [go_sem] at hc)
     repeat refine zq ?_
     refine zg follows (by decide +kernel) (by kernel_rfl) fun K hK=>?_;simp only [go_sem];(try simp (disch:=omega) only [zI])
     refine zh (haf) rfl (by simp only [go_sem,i64,ints]) (by simp only [go_sem,i64,ints]) (by first | exact .inl rfl | exact .inr rfl) ?_
     (try simp only [go_sem]);(try simp (disch:=omega) only [zI]);repeat first | intro _ | refine ⟨by omega,?_⟩
     refine hK _ ?_;clear hK K;refine zw (zk [6]) ?_;simp only [go_sem];refine ze ?_;simp only [go_sem]
     rw [hv]; simp [c1,c5]
   · have d5 : ((n : Int) == 0) = false:=by simpa using c5
     have hvl:=hval c5 left (by omega) (by omega)
     repeat refine zq ?_
     refine zb fun K hK=>?_;simp only [go_sem,d5];(try simp (disch:=omega) only [zI]);repeat first | intro _ | refine ⟨by omega,?_⟩
     refine hK _ ?_;clear hK K;refine zw (zk [0,4,70]) ?_;simp only [go_sem]
     repeat refine zq ?_
     refine zc rfl (fun hc=>?_) (fun hc=>?_) <;> (try simp only [go_sem] at hc)
     refine zx ?_
     try simp only [go_sem]
     refine zw (sub_frzP 4 4 [i64 (left : Int),i64 (n : Int)] (by omega) rfl rfl) ?_;refine zw (zk [0,4]) ?_;simp only [go_sem]
     repeat refine zq ?_
     refine zb fun K hK=>?_;simp only [go_sem];(try simp (disch:=omega) only [zI])
     refine xcall_mut (hvl) [(1000,1000),(1001,1001)] rfl (by simp only [go_sem,i64,ints]) (by simp only [go_sem,i64,ints]) (by rfl) (by rfl) ?_
     (try simp only [go_sem]);(try simp (disch:=omega) only [zI]);repeat first | intro _ | refine ⟨by omega,?_⟩
     refine hK _ ?_;clear hK K;refine zw (zk [6]) ?_;simp only [go_sem];refine ze ?_;simp only [go_sem]
     rw [hv]; simp [c1,c5]
end Go.Proofs.Ytlljkgiomkmjbaa.Du

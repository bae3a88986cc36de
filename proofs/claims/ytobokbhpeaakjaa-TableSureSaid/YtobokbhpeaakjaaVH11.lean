/- For all bytes, the given function TableSure returns true: who is sure to go up is among the first ones of each final table, who is out is not, the same holds for going down, and with one match more played no span is wider. No conditions beyond those of the given statement. -/
import Derived.Test.YtobokbhpeaakjaaVH10
import Derived.Test.YtobokbhpeaakjaaVH9
import Derived.Test.YtobokbhpeaakjaaVH5
import Derived.ChangeShapes
import Derived.WideShapes
import Derived.OpenShut
import Derived.ShutString
import Derived.ChangeOld
import Derived.Carry
import Derived.Below
import Derived.Test.YtobokbhpeaakjaaRows
import Derived.JoinedOf
namespace Go.Proofs.Ytobokbhpeaakjaa
open Go Go.Oc
set_option linter.unusedSimpArgs false
set_option linter.unusedVariables false
set_option maxRecDepth 8000
set_option maxHeartbeats 4000000
theorem fill_table {r : Tr} (hr : RulesI r) {l : List Mt} (hl : ∀ m ∈ l,MatchI r m) (hll : l.length ≤ 180) (res : List Int) :
 ACalls Try.prog 24 [trV r,mtsR (fillL r res 0 l)] (.tu [rwsR (tabT r (fillL r res 0 l)),i64 0,i64 0]):=by
 have hM:=fill_match hr res l 0 hl
 have h:=table_ok _ _ (wf_good hr hM)
 rw [check_good hr hM (by rw [fillL_len]; exact hll),if_pos rfl] at h
 exact h
theorem places_good {r : Tr} (hr : RulesI r) {l : List Mt} (hl : ∀ m ∈ l,MatchI r m) (hll : l.length ≤ 180) (hle : (leftV l).length ≤ 10) :
 ACalls Try.prog 37 [trV r,mtsR l] (.tu [.sl 2 ((spansL r l).map spR),i64 0]):=by
 have h:=Places_ok r l (wf_good hr hl)
 have he : errV r l = 0:=by unfold errV; rw [check_good hr hl hll,if_pos rfl]; unfold fullV; rw [if_neg (by omega)]
 rw [he,if_pos rfl] at h
 exact h
theorem spans_at {r : Tr} {l : List Mt} {t : Nat} (ht : t < nT r) : (spansL r l)[t]? = some (spF r l t):=by
 unfold spansL; rw [List.getElem?_map,List.getElem?_range ht]; rfl
theorem any_law (x : Sm) (hx : WfS x) (bs : List Nat) (hbs : ∀ n ∈ bs,n < 256) (tm : Nat) (htm : tm < 256) : ACalls Try.prog 7 [smV x,bytesR bs,u8 tm] (.bo true):=by
 have hkn:=known_ok
 have hdi:=division_ok x hx
 have hR:=divR_ok x
 have hM:=divL_ok x
 have hll:=divL_len x
 have hle:=left_div x
 have how:=own_ok (divR x) (by have:=ded_len hR; omega)
 have hco:=copied_ok (divL x) (by omega)
 have hso:=some_ok (divR x) hR (divL x) (by omega) bs hbs
 have hfi:=fun res=>fill_ok (divR x) hR (divL x) hM (by omega) res
 have hft:=fun res=>fill_table hR hM (by omega) res
 have hpl:=places_good hR hM (by omega) (by omega)
 have hwy:=Way_ok (divR x) (divL x) (wf_good hR hM)
 have hwl:=fun t ht=>way_low hR hM (by omega) (by omega) (t:=t) ht
 have hwh:=fun t ht=>way_high hR hM (by omega) (by omega) (t:=t) ht
 have hap:=fun res (h : ResI (divR x) (divL x) res) i w hw=>any_place hR hM h (i:=i) (w:=w) hw
 have hfm:=fun res (h : ResI (divR x) (divL x) res) t ht=>fill_more hR hM h (t:=t) ht
 have hfs:=fun res (h : ResI (divR x) (divL x) res) t ht=>fill_same hR hM h (t:=t) ht
 have hsr:=some_res hR (divL x) bs
 have hsb:=fun t ht=>sp_bounds hR hM (t:=t) ht
 have hsg:=fun t ht=>spans_at (r:=divR x) (l:=divL x) (t:=t) ht
 have hsn : (spansL (divR x) (divL x)).length = nT (divR x):=spansL_len _ _
 have htl:=fun res=>tab_len (divR x) (fillL (divR x) res 0 (divL x))
 have hme:=fun res t ht=>mine_eq (r:=divR x) (l:=fillL (divR x) res 0 (divL x)) (t:=t) ht
 obtain ⟨hn,hn2,hn10⟩:=nT_eq hR
 have hrt:=hR.teams
 refine acalls_st (rs:=[.bo true]) [.tmp 6] Try.func7 rfl (by kernel_rfl) Try.ntmps7 rfl (by simp) rfl fun C vs=>?_
 refine zq ?_
 refine zb fun K hK=>?_;simp only [go_sem];refine hK _ ?_;clear hK K;refine zw (sub_frzP 3 3 (smC x) (by omega) rfl rfl) ?_;refine zw (zk [1,2,3]) ?_;simp only [go_sem]
 refine zq ?_
 refine zb fun K hK=>?_;simp only [go_sem]
 refine zh (hdi) rfl (by simp only [go_sem,i64,ints]) (by simp only [go_sem,i64,ints]) (by first | exact .inl rfl | exact .inr rfl) ?_
 (try simp only [go_sem]);refine hK _ ?_;clear hK K;refine zw (sub_frzP 7 7 (trC (divR x)) (by omega) rfl rfl) ?_;refine zw (zk [1,2,7,8]) ?_;simp only [go_sem]
 clear hdi hx
 generalize hSS : spansL (divR x) (divL x) = SS at *
 generalize divL x = l at *
 generalize divR x = r at *
 have hn' : r.teams = (nT r : Int):=hn.symm
 refine zq ?_
 refine zb fun K hK=>?_;simp only [go_sem]
 refine zh (how) rfl (by simp only [go_sem,i64,ints]) (by simp only [go_sem,i64,ints]) (by first | exact .inl rfl | exact .inr rfl) ?_
 (try simp only [go_sem])
 refine zh (hco) rfl (by simp only [go_sem,i64,ints]) (by simp only [go_sem,i64,ints]) (by first | exact .inl rfl | exact .inr rfl) ?_
 (try simp only [go_sem])
 refine zh (hpl) rfl (by simp only [go_sem,i64,ints]) (by simp only [go_sem,i64,ints]) (by first | exact .inl rfl | exact .inr rfl) ?_
 (try simp only [go_sem]);refine hK _ ?_;clear hK K;refine zw (zk [1,2,7,8,9,10]) ?_;simp only [go_sem]
 have hta1:=hft (someV r l bs)
 have hT1:=htl (someV r l bs)
 have hap1:=hap _ hsr
 have hfi1:=hfi (someV r l bs)
 generalize tabT r (fillL r (someV r l bs) 0 l) = T1 at *
 refine zq ?_
 refine zg follows (by decide +kernel) (by kernel_rfl) fun K hK=>?_;simp only [go_sem]
 refine zh (how) rfl (by simp only [go_sem,i64,ints]) (by simp only [go_sem,i64,ints]) (by first | exact .inl rfl | exact .inr rfl) ?_
 (try simp only [go_sem])
 refine zh (hso) rfl (by simp only [go_sem,i64,ints]) (by simp only [go_sem,i64,ints]) (by first | exact .inl rfl | exact .inr rfl) ?_
 (try simp only [go_sem])
 refine zh (hfi1) rfl (by simp only [go_sem,i64,ints]) (by simp only [go_sem,i64,ints]) (by first | exact .inl rfl | exact .inr rfl) ?_
 (try simp only [go_sem])
 refine zh (hta1) rfl (by simp only [go_sem,i64,ints]) (by simp only [go_sem,i64,ints]) (by first | exact .inl rfl | exact .inr rfl) ?_
 (try simp only [go_sem]);refine hK _ ?_;clear hK K;refine zw (zk [2,7,8,9,10,11,13]) ?_;simp only [go_sem]
 have hz : ((0 : Int) != 0) = false:=rfl
 have hnn : ((nT r : Int) != (nT r : Int)) = false:=bne_self_eq_false _
 repeat refine zq ?_
 refine zb fun K hK=>?_;simp only [go_sem,hz,hnn,hT1,hsn,hn']
 repeat intro _
 refine hK _ ?_;clear hK K;refine zw (zk [2,7,8,9,11,75]) ?_;simp only [go_sem]
 refine zc rfl (fun hc=>?_) (fun hc=>?_) <;> (try simp only [go_sem] at hc)
 refine zx ?_
 try simp only [go_sem]
 repeat refine zq ?_
 refine zb fun K hK=>?_;simp only [go_sem];refine hK _ ?_;clear hK K;refine zw (zk [2,7,8,9,11,14]) ?_;simp only [go_sem];refine zd ?_
 refine awp_uptoV (n:=243) T1.length (fun i vs=>[(2,.r (u8 tm)),(7,.r (.rp (trC r))),(8,.r (mtsR l)),(9,.r (.sl 2 (SS.map spR))),(11,.r (rwsR T1)),(14,.r (i64 (i : Int)))])
  (fun i vs=>[]) (fun _=>True) 0 (zj [] ?_ ?_) (Nat.zero_le _) trivial ?_
 · try simp only [go_sem]
   try rfl
 · try simp only [go_sem]
 · intro i vs hi _
   repeat refine zq ?_
   refine zb fun K hK=>?_;simp only [go_sem]
   intro _
   refine hK _ ?_;clear hK K;refine zw (zk [2,7,8,9,11,14,79]) ?_;simp only [go_sem]
   refine zc rfl (fun hc=>?_) (fun hc=>?_) <;> (try simp only [go_sem] at hc)
   · have hil : i < T1.length:=by omega
     obtain ⟨w,hw⟩:=opt_of_lt hil
     obtain ⟨t,htn,hwt,_,hs1,hs2⟩:=hap1 i w hw
     have hst:=hsg t htn
     have hSl : t < SS.length:=by omega
     have c1 : decide ((t : Int) < 0) = false:=decide_eq_false (by omega)
     have c2 : decide ((nT r : Int) ≤ (t : Int)) = false:=decide_eq_false (by omega)
     have c3 : ¬ nT r ≤ t:=by omega
     generalize spF r l t = sp at *
     have e1 : decide ((i : Int) + 1 < sp.1) = false:=decide_eq_false (by omega)
     have e2 : decide (sp.2 < (i : Int) + 1) = false:=decide_eq_false (by omega)
     have wi : IntKind.i64.wrap ((i : Int) + 1) = (i : Int) + 1:=by rw [zI] <;> omega
     refine zx ?_
     try simp only [go_sem]
     refine zq ?_
     refine zd ?_
     refine zq ?_
     refine zb fun K hK=>?_;simp only [go_sem,hw,hil,hwt];refine hK _ ?_;clear hK K;refine zw (zk [2,7,8,9,11,14,15]) ?_;simp only [go_sem]
     refine zq ?_
     refine zb fun K hK=>?_;simp only [go_sem,hwt,c1,hn',c2,c3,wi,hst,hSl,e1,e2];refine hK _ ?_;clear hK K;refine zw (zk [2,7,8,9,11,14,114]) ?_;simp only [go_sem]
     refine zc rfl (fun hc=>?_) (fun hc=>?_) <;> (try simp only [go_sem] at hc)
     refine zx ?_
     try simp only [go_sem]
     refine zb fun K hK=>?_;simp only [go_sem];(try simp (disch:=omega) only [zI]);refine hK _ ?_;clear hK K
     try simp only [go_sem]
     refine ⟨by omega,zj [] ?_ ?_⟩
     · try simp only [go_sem]
     · try simp only [go_sem]
   · refine zf ?_;simp only [go_sem];refine zw (zk [2,7,8,9]) ?_;simp only [go_sem]
     have wt : IntKind.i64.wrap (tm : Int) = tm:=by rw [zI] <;> omega
     have hq : Int.tmod (tm : Int) (nT r : Int) = ((tm % nT r : Nat) : Int):=rfl
     have hnz : ¬ nT r = 0:=by omega
     have htn : tm % nT r < nT r:=Nat.mod_lt _ (by omega)
     refine zq ?_
     refine zb fun K hK=>?_;simp only [go_sem,hn',wt,hq,hnz]
     refine ⟨by omega,?_⟩
     refine hK _ ?_;clear hK K;refine zw (zk [7,8,9,16]) ?_;simp only [go_sem]
     generalize tm % nT r = t at *
     have hst:=hsg t htn
     have hSl : t < SS.length:=by omega
     have hb:=hsb t htn
     have hwl:=hwl t htn
     have hwh:=hwh t htn
     repeat refine zq ?_
     refine zb fun K hK=>?_;simp only [go_sem];refine hK _ ?_;clear hK K;refine zw (zk [7,8,9,16,17]) ?_;simp only [go_sem];refine zd ?_
     refine awp_uptoV (n:=243) 2 (fun k vs=>[(7,.r (.rp (trC r))),(8,.r (mtsR l)),(9,.r (.sl 2 (SS.map spR))),(16,.r (i64 (t : Int))),(17,.r (i64 (k : Int)))])
      (fun k vs=>[]) (fun _=>True) 0 (zj [] ?_ ?_) (Nat.zero_le _) trivial ?_
     · try simp only [go_sem]
       try rfl
     · try simp only [go_sem]
     · intro k vs hk _
       repeat refine zq ?_
       refine zb fun K hK=>?_;simp only [go_sem];refine hK _ ?_;clear hK K;refine zw (zk [7,8,9,16,17,121]) ?_;simp only [go_sem]
       refine zc rfl (fun hc=>?_) (fun hc=>?_) <;> (try simp only [go_sem] at hc)
       · have hk2 : k < 2:=by omega
         obtain ⟨b,hkb⟩ : ∃ b,((k : Int) == 1) = b:=⟨_,rfl⟩
         have hk0 : ((k : Int) == 0) = !b:=by
          rcases (show k = 0 ∨ k = 1 by omega) with rfl | rfl <;> subst hkb <;> rfl
         obtain ⟨P,hP⟩ : ∃ P,P = if b then (spF r l t).2 - 1 else (spF r l t).1:=⟨_,rfl⟩
         refine zx ?_
         try simp only [go_sem]
         refine zq ?_
         refine zd ?_
         refine zq ?_
         refine zb fun K hK=>?_;simp only [go_sem,hst,hSl];refine hK _ ?_;clear hK K;refine zw (zk [7,8,9,16,17,18]) ?_;simp only [go_sem]
         repeat refine zq ?_
         refine zb fun K hK=>?_;simp only [go_sem,hkb];refine hK _ ?_;clear hK K;refine zw (zk [7,8,9,16,17,18,130]) ?_;simp only [go_sem]
         refine awp_joinV (n:=243) (fun (_ : Unit) vs=>[(7,.r (.rp (trC r))),(8,.r (mtsR l)),(9,.r (.sl 2 (SS.map spR))),(16,.r (i64 (t : Int))),(17,.r (i64 (k : Int))),(18,.r (i64 P))]) (fun _ vs=>[]) (fun _=>True) (fun _ h=>h) ?_ ?_
         · cases b with
           | true =>
             rw [if_pos rfl] at hP
             subst hP
             refine zc rfl (fun hc=>?_) (fun hc=>?_) <;> (try simp only [go_sem] at hc)
             refine zb fun K hK=>?_;simp only [go_sem,hst,hSl];(try simp (disch:=omega) only [zI]);refine hK _ ?_;clear hK K
             refine ⟨(),trivial,zj [] ?_ ?_⟩
             · try simp only [go_sem]
             · try simp only [go_sem]
           | false =>
             simp only [Bool.false_eq_true,if_false] at hP
             subst hP
             refine zc rfl (fun hc=>?_) (fun hc=>?_) <;> (try simp only [go_sem] at hc)
             refine zx ?_
             try simp only [go_sem]
             refine ⟨(),zj [] ?_ ?_⟩
             · try simp only [go_sem]
             · try simp only [go_sem]
         intro _ vs _
         repeat refine zq ?_
         refine zb fun K hK=>?_;simp only [go_sem];refine hK _ ?_;clear hK K;refine zw (zk [7,8,9,16,17,18,138]) ?_;simp only [go_sem]
         by_cases hP1 : P < 1
         · skip
           refine zc rfl (fun hc=>?_) (fun hc=>?_) <;> (try simp only [go_sem] at hc)
           · refine zf ?_;simp only [go_sem];refine zb fun K hK=>?_;simp only [go_sem];(try simp (disch:=omega) only [zI]);refine hK _ ?_;clear hK K
             try simp only [go_sem]
             refine ⟨by omega,zj [] ?_ ?_⟩
             · try simp only [go_sem]
             · try simp only [go_sem]
           · exact absurd hP1 (by first | omega | (simp at hc; omega))
         obtain ⟨res,hres,hwv,hpb⟩ : ∃ res,ResI r l res ∧ wayV r l (t : Int) P b = (ints res,0) ∧ (if b then (placesV (nT r) (trR r l res) t).2 = (spF r l t).2 else (placesV (nT r) (trR r l res) t).1 = (spF r l t).1):=by
          cases b with
          | true =>
            rw [if_pos rfl] at hP
            subst hP
            obtain ⟨res,h1,h2,h3⟩:=hwh (by omega)
            exact ⟨res,h1,h2,by rw [if_pos rfl]; exact h3⟩
          | false =>
            simp only [Bool.false_eq_true,if_false] at hP
            subst hP
            obtain ⟨res,h1,h2,h3⟩:=hwl
            exact ⟨res,h1,h2,by simp only [Bool.false_eq_true,if_false]; exact h3⟩
         have hwc:=hwy (t : Int) P b
         rw [hwv] at hwc
         have hta2:=hft res
         have hT2:=htl res
         have hap2:=hap _ hres
         have hfi2:=hfi res
         have hmi:=hme res t htn
         have hmo:=hfm res hres t htn
         have hsa:=hfs res hres t htn
         have hc1:=fun i=>cnt_le (p:=fun v : Rw=>(rowT r (fillL r res 0 l) t).pts < v.pts) ((tabT r (fillL r res 0 l)).take i)
         have hc2:=fun i=>cnt_le (p:=fun v : Rw=>(rowT r (fillL r res 0 l) t).pts ≤ v.pts) ((tabT r (fillL r res 0 l)).take i)
         generalize (rowT r (fillL r res 0 l) t).pts = p at *
         generalize tabT r (fillL r res 0 l) = T2 at *
         refine zc rfl (fun hc=>?_) (fun hc=>?_) <;> (try simp only [go_sem] at hc)
         · exact absurd hP1 (by first | omega | (simp at hc; omega))
         refine zx ?_
         try simp only [go_sem]
         refine zq ?_
         refine zb fun K hK=>?_;simp only [go_sem,hkb]
         refine zh (how) rfl (by simp only [go_sem,i64,ints,hkb]) (by simp only [go_sem,i64,ints,hkb]) (by first | exact .inl rfl | exact .inr rfl) ?_
         (try simp only [go_sem,hkb])
         refine zh (hco) rfl (by simp only [go_sem,i64,ints,hkb]) (by simp only [go_sem,i64,ints,hkb]) (by first | exact .inl rfl | exact .inr rfl) ?_
         (try simp only [go_sem,hkb])
         refine zh (hwc) rfl (by simp only [go_sem,i64,ints,hkb]) (by simp only [go_sem,i64,ints,hkb]) (by first | exact .inl rfl | exact .inr rfl) ?_
         (try simp only [go_sem,hkb]);refine hK _ ?_;clear hK K;refine zw (zk [7,8,9,16,17,19,20]) ?_;simp only [go_sem]
         refine zq ?_
         refine zg follows (by decide +kernel) (by kernel_rfl) fun K hK=>?_;simp only [go_sem]
         refine zh (how) rfl (by simp only [go_sem,i64,ints]) (by simp only [go_sem,i64,ints]) (by first | exact .inl rfl | exact .inr rfl) ?_
         (try simp only [go_sem])
         refine zh (hfi2) rfl (by simp only [go_sem,i64,ints]) (by simp only [go_sem,i64,ints]) (by first | exact .inl rfl | exact .inr rfl) ?_
         (try simp only [go_sem])
         refine zh (hta2) rfl (by simp only [go_sem,i64,ints]) (by simp only [go_sem,i64,ints]) (by first | exact .inl rfl | exact .inr rfl) ?_
         (try simp only [go_sem]);refine hK _ ?_;clear hK K;refine zw (zk [7,8,9,16,17,20,21,23]) ?_;simp only [go_sem]
         repeat refine zq ?_
         refine zb fun K hK=>?_;simp only [go_sem,hz,hnn,hT2,hn']
         intro _
         refine hK _ ?_;clear hK K;refine zw (zk [7,8,9,16,17,21,174]) ?_;simp only [go_sem]
         refine zc rfl (fun hc=>?_) (fun hc=>?_) <;> (try simp only [go_sem] at hc)
         refine zx ?_
         try simp only [go_sem]
         refine zq ?_
         refine zb fun K hK=>?_;simp only [go_sem];refine hK _ ?_;clear hK K;refine zw (zk [7,8,9,16,17,21,24,25,26]) ?_;simp only [go_sem]
         repeat refine zq ?_
         refine zb fun K hK=>?_;simp only [go_sem];refine hK _ ?_;clear hK K;refine zw (zk [7,8,9,16,17,21,24,25,26,27]) ?_;simp only [go_sem];refine zd ?_
         refine awp_uptoV (n:=243) T2.length (fun j vs=>[(7,.r (.rp (trC r))),(8,.r (mtsR l)),(9,.r (.sl 2 (SS.map spR))),(16,.r (i64 (t : Int))),(17,.r (i64 (k : Int))),(21,.r (rwsR T2)),(24,.r (i64 (mineF t (T2.take j)))),(25,.r (i64 0)),(26,.r (i64 0)),(27,.r (i64 (j : Int)))])
          (fun j vs=>[]) (fun _=>True) 0 (zj [] ?_ ?_) (Nat.zero_le _) trivial ?_
         · try simp only [go_sem]
           try rfl
         · try simp only [go_sem]
         · intro j vs hj _
           repeat refine zq ?_
           refine zb fun K hK=>?_;simp only [go_sem]
           intro _
           refine hK _ ?_;clear hK K;refine zw (zk [7,8,9,16,17,21,24,25,26,27,178]) ?_;simp only [go_sem]
           refine zc rfl (fun hc=>?_) (fun hc=>?_) <;> (try simp only [go_sem] at hc)
           · have hjl : j < T2.length:=by omega
             obtain ⟨w,hw⟩:=opt_of_lt hjl
             have hms:=mineF_snoc t (T2.take j) w
             rw [← take_of_opt hw] at hms
             refine zx ?_
             try simp only [go_sem]
             refine zq ?_
             refine zd ?_
             by_cases hwt : w.team = (t : Int)
             · have hwb : (w.team == (t : Int)) = true:=by simpa using hwt
               rw [if_pos hwt] at hms
               rw [hms]
               refine zq ?_
               refine zb fun K hK=>?_;simp only [go_sem,hw,hjl,hwb];refine hK _ ?_;clear hK K;refine zw (zk [7,8,9,16,17,21,24,25,26,27,187]) ?_;simp only [go_sem]
               refine zc rfl (fun hc=>?_) (fun hc=>?_) <;> (try simp only [go_sem] at hc)
               refine zb fun K hK=>?_;simp only [go_sem,hw,hjl];refine hK _ ?_;clear hK K;refine zw (zk [7,8,9,16,17,21,24,25,26,27]) ?_;simp only [go_sem];refine zb fun K hK=>?_;simp only [go_sem];(try simp (disch:=omega) only [zI]);refine hK _ ?_;clear hK K
               try simp only [go_sem]
               refine ⟨by omega,zj [] ?_ ?_⟩
               · try simp only [go_sem]
               · try simp only [go_sem]
             · have hwb : (w.team == (t : Int)) = false:=by simpa using hwt
               rw [if_neg hwt] at hms
               rw [hms]
               refine zq ?_
               refine zb fun K hK=>?_;simp only [go_sem,hw,hjl,hwb];refine hK _ ?_;clear hK K;refine zw (zk [7,8,9,16,17,21,24,25,26,27,187]) ?_;simp only [go_sem]
               refine zc rfl (fun hc=>?_) (fun hc=>?_) <;> (try simp only [go_sem] at hc)
               refine zx ?_
               try simp only [go_sem]
               refine zb fun K hK=>?_;simp only [go_sem];(try simp (disch:=omega) only [zI]);refine hK _ ?_;clear hK K
               try simp only [go_sem]
               refine ⟨by omega,zj [] ?_ ?_⟩
               · try simp only [go_sem]
               · try simp only [go_sem]
           · have hjl : j = T2.length:=by omega
             subst hjl
             rw [List.take_length,hmi]
             refine zf ?_;simp only [go_sem];refine zw (zk [7,8,9,16,17,21,24,25,26]) ?_;simp only [go_sem]
             repeat refine zq ?_
             refine zb fun K hK=>?_;simp only [go_sem];refine hK _ ?_;clear hK K;refine zw (zk [7,8,9,16,17,21,24,25,26,28]) ?_;simp only [go_sem];refine zd ?_
             refine awp_uptoV (n:=243) T2.length (fun j vs=>[(7,.r (.rp (trC r))),(8,.r (mtsR l)),(9,.r (.sl 2 (SS.map spR))),(16,.r (i64 (t : Int))),(17,.r (i64 (k : Int))),(21,.r (rwsR T2)),(24,.r (i64 p)),(25,.r (i64 (sumF (fun v : Rw=>b1 (p < v.pts)) (T2.take j)))),(26,.r (i64 (sumF (fun v : Rw=>b1 (p ≤ v.pts)) (T2.take j)))),(28,.r (i64 (j : Int)))])
              (fun j vs=>[]) (fun _=>True) 0 (zj [] ?_ ?_) (Nat.zero_le _) trivial ?_
             · try simp only [go_sem]
               exact ⟨rfl,rfl⟩
             · try simp only [go_sem]
             · intro j vs hj _
               repeat refine zq ?_
               refine zb fun K hK=>?_;simp only [go_sem]
               intro _
               refine hK _ ?_;clear hK K;refine zw (zk [7,8,9,16,17,21,24,25,26,28,196]) ?_;simp only [go_sem]
               refine zc rfl (fun hc=>?_) (fun hc=>?_) <;> (try simp only [go_sem] at hc)
               · have hjl : j < T2.length:=by omega
                 obtain ⟨w,hw⟩:=opt_of_lt hjl
                 have hs1 : sumF (fun v : Rw=>b1 (p < v.pts)) (T2.take (j + 1)) = sumF (fun v : Rw=>b1 (p < v.pts)) (T2.take j) + b1 (p < w.pts):=by rw [take_of_opt hw,sumF_app]; simp [sumF]
                 have hs2 : sumF (fun v : Rw=>b1 (p ≤ v.pts)) (T2.take (j + 1)) = sumF (fun v : Rw=>b1 (p ≤ v.pts)) (T2.take j) + b1 (p ≤ w.pts):=by rw [take_of_opt hw,sumF_app]; simp [sumF]
                 have hb1:=hc1 j
                 have hb2:=hc2 j
                 have hbl : (T2.take j).length ≤ 10:=by rw [List.length_take]; omega
                 rw [hs1,hs2]
                 generalize sumF (fun v : Rw=>b1 (p < v.pts)) (T2.take j) = A at *
                 generalize sumF (fun v : Rw=>b1 (p ≤ v.pts)) (T2.take j) = B at *
                 refine zx ?_
                 try simp only [go_sem]
                 refine zq ?_
                 refine zd ?_
                 by_cases q1 : p < w.pts
                 · have q1b : decide (p < w.pts) = true:=decide_eq_true q1
                   have q2b : decide (p ≤ w.pts) = true:=decide_eq_true (by omega)
                   have z1 : b1 (p < w.pts) = 1:=by unfold b1; rw [if_pos q1]
                   have z2 : b1 (p ≤ w.pts) = 1:=by unfold b1; rw [if_pos (by omega)]
                   rw [z1,z2]
                   repeat refine zq ?_
                   refine zb fun K hK=>?_;simp only [go_sem,hw,hjl,q1b];refine hK _ ?_;clear hK K;refine zw (zk [7,8,9,16,17,21,24,25,26,28,205]) ?_;simp only [go_sem]
                   refine zc rfl (fun hc=>?_) (fun hc=>?_) <;> (try simp only [go_sem] at hc)
                   refine zb fun K hK=>?_;simp only [go_sem];(try simp (disch:=omega) only [zI]);refine hK _ ?_;clear hK K;refine zw (zk [7,8,9,16,17,21,24,25,26,28]) ?_;simp only [go_sem]
                   refine zq ?_
                   refine zb fun K hK=>?_;simp only [go_sem,hw,hjl,q2b];refine hK _ ?_;clear hK K;refine zw (zk [7,8,9,16,17,21,24,25,26,28,214]) ?_;simp only [go_sem]
                   refine zc rfl (fun hc=>?_) (fun hc=>?_) <;> (try simp only [go_sem] at hc)
                   refine zb fun K hK=>?_;simp only [go_sem];(try simp (disch:=omega) only [zI]);refine hK _ ?_;clear hK K;refine zw (zk [7,8,9,16,17,21,24,25,26,28]) ?_;simp only [go_sem];refine zb fun K hK=>?_;simp only [go_sem];(try simp (disch:=omega) only [zI]);refine hK _ ?_;clear hK K
                   try simp only [go_sem]
                   refine ⟨by omega,zj [] ?_ ?_⟩
                   · try simp only [go_sem]
                   · try simp only [go_sem]
                 · have q1b : decide (p < w.pts) = false:=decide_eq_false q1
                   have z1 : b1 (p < w.pts) = 0:=by unfold b1; rw [if_neg q1]
                   rw [z1]
                   repeat refine zq ?_
                   refine zb fun K hK=>?_;simp only [go_sem,hw,hjl,q1b];refine hK _ ?_;clear hK K;refine zw (zk [7,8,9,16,17,21,24,25,26,28,205]) ?_;simp only [go_sem]
                   refine zc rfl (fun hc=>?_) (fun hc=>?_) <;> (try simp only [go_sem] at hc)
                   refine zx ?_
                   try simp only [go_sem]
                   by_cases q2 : p ≤ w.pts
                   · have q2b : decide (p ≤ w.pts) = true:=decide_eq_true q2
                     have z2 : b1 (p ≤ w.pts) = 1:=by unfold b1; rw [if_pos q2]
                     rw [z2]
                     refine zq ?_
                     refine zb fun K hK=>?_;simp only [go_sem,hw,hjl,q2b];refine hK _ ?_;clear hK K;refine zw (zk [7,8,9,16,17,21,24,25,26,28,214]) ?_;simp only [go_sem]
                     refine zc rfl (fun hc=>?_) (fun hc=>?_) <;> (try simp only [go_sem] at hc)
                     refine zb fun K hK=>?_;simp only [go_sem];(try simp (disch:=omega) only [zI]);refine hK _ ?_;clear hK K;refine zw (zk [7,8,9,16,17,21,24,25,26,28]) ?_;simp only [go_sem];refine zb fun K hK=>?_;simp only [go_sem];(try simp (disch:=omega) only [zI]);refine hK _ ?_;clear hK K
                     try simp only [go_sem]
                     refine ⟨by omega,zj [] ?_ ?_⟩
                     · try simp only [go_sem]
                       try simp
                     · try simp only [go_sem]
                   · have q2b : decide (p ≤ w.pts) = false:=decide_eq_false q2
                     have z2 : b1 (p ≤ w.pts) = 0:=by unfold b1; rw [if_neg q2]
                     rw [z2]
                     refine zq ?_
                     refine zb fun K hK=>?_;simp only [go_sem,hw,hjl,q2b];refine hK _ ?_;clear hK K;refine zw (zk [7,8,9,16,17,21,24,25,26,28,214]) ?_;simp only [go_sem]
                     refine zc rfl (fun hc=>?_) (fun hc=>?_) <;> (try simp only [go_sem] at hc)
                     refine zx ?_
                     try simp only [go_sem]
                     refine zb fun K hK=>?_;simp only [go_sem];(try simp (disch:=omega) only [zI]);refine hK _ ?_;clear hK K
                     try simp only [go_sem]
                     refine ⟨by omega,zj [] ?_ ?_⟩
                     · try simp only [go_sem]
                       try simp
                     · try simp only [go_sem]
               · have hjl : j = T2.length:=by omega
                 subst hjl
                 have hb1:=hc1 T2.length
                 have hb2:=hc2 T2.length
                 rw [List.take_length] at hb1 hb2 ⊢
                 refine zf ?_;simp only [go_sem];refine zw (zk [7,8,9,16,17,25,26]) ?_;simp only [go_sem]
                 refine zq ?_
                 refine awp_joinV (n:=243) (fun (_ : Unit) vs=>[(7,.r (.rp (trC r))),(8,.r (mtsR l)),(9,.r (.sl 2 (SS.map spR))),(16,.r (i64 (t : Int))),(17,.r (i64 (k : Int))),(241,.r (.bo false))]) (fun _ vs=>[]) (fun _=>True) (fun _ h=>h) ?_ ?_
                 · generalize sumF (fun v : Rw=>b1 (p < v.pts)) T2 = A at *
                   generalize sumF (fun v : Rw=>b1 (p ≤ v.pts)) T2 = B at *
                   generalize spF r l t = sp at *
                   cases b with
                   | true =>
                     rw [if_pos rfl] at hpb
                     have e1 : (B != sp.2) = false:=bne_eq_false_iff_eq.2 (by omega)
                     refine zb fun K hK=>?_;simp only [go_sem,hkb,hk0,Bool.not_true,hst,hSl,e1];refine hK _ ?_;clear hK K
                     refine ⟨(),trivial,zj [] ?_ ?_⟩
                     · try simp only [go_sem]
                     · try simp only [go_sem]
                   | false =>
                     simp only [Bool.false_eq_true,if_false] at hpb
                     have wa : IntKind.i64.wrap (1 + A) = 1 + A:=by rw [zI] <;> omega
                     have e1 : (1 + A != sp.1) = false:=bne_eq_false_iff_eq.2 (by omega)
                     refine zb fun K hK=>?_;simp only [go_sem,hkb,hk0,Bool.not_false,hst,hSl,wa,e1];refine hK _ ?_;clear hK K
                     refine ⟨(),trivial,zj [] ?_ ?_⟩
                     · try simp only [go_sem]
                     · try simp only [go_sem]
                 intro _ vs _
                 refine zc rfl (fun hc=>?_) (fun hc=>?_) <;> (try simp only [go_sem] at hc)
                 refine zx ?_
                 try simp only [go_sem]
                 refine zb fun K hK=>?_;simp only [go_sem];(try simp (disch:=omega) only [zI]);refine hK _ ?_;clear hK K
                 try simp only [go_sem]
                 refine ⟨by omega,zj [] ?_ ?_⟩
                 · try simp only [go_sem]
                 · try simp only [go_sem]
       · refine zf ?_;simp only [go_sem]
         refine zq ?_
         refine zb fun K hK=>?_;simp only [go_sem]
         refine zh (hkn) rfl (by simp only [go_sem,i64,ints]) (by simp only [go_sem,i64,ints]) (by first | exact .inl rfl | exact .inr rfl) ?_
         (try simp only [go_sem]);refine hK _ ?_;clear hK K;refine zw (zk [6]) ?_;simp only [go_sem];refine ze ?_;simp only [go_sem]
theorem fill_own (r : Tr) (hr : RulesI r) (l : List Mt) (hl : ∀ m ∈ l,MatchI r m) (hll : l.length ≤ 1000) (res : List Int) : OCalls Try.prog 38 [trV r,mtsR l,ints res] 70 5 ((fillL r res 0 l).map mtR) l.length:=by
 have hco:=copied_own l hll
 have hleg:=hr.legs
 have hlen:=mixL_len r res l
 have hfl:=fillL_len r res l 0
 refine ocalls_st (n:=79) (.tmp 6) Try.func38 rfl (by kernel_rfl) Try.ntmps38 rfl (by simp) (fun e he=>by obtain ⟨x,_,rfl⟩:=List.mem_map.1 he; rfl) fun C vs=>?_
 refine zq ?_
 refine zb fun K hK=>?_;simp only [go_sem];refine hK _ ?_;clear hK K;refine zw (sub_frzP 3 3 (trC r) (by omega) rfl rfl) ?_;refine zw (zk [1,2,3]) ?_;simp only [go_sem]
 refine zq ?_
 refine zb fun K hK=>?_;simp only [go_sem]
 refine xcall_own (hco) rfl (by simp only [go_sem,i64,ints]) (by simp only [go_sem,i64,ints]) (by decide) (by intro h; first | (cases h; done) | rfl) ?_
 (try simp only [go_sem]);refine hK _ ?_;clear hK K;refine zw (zk [2,3,7,8]) ?_;simp only [go_sem]
 repeat refine zq ?_
 refine zb fun K hK=>?_;simp only [go_sem];refine hK _ ?_;clear hK K;refine zw (zk [2,3,7,8,9]) ?_;simp only [go_sem];refine zd ?_
 have hm0 : mixL r res l 0 = l:=by unfold mixL; simp [fillL]
 refine awp_uptoV (n:=79) l.length (fun i vs=>[(2,.r (ints res)),(3,.r (.rp (trC r))),(7,.os 11 (vs 11) 5 0 l.length),(8,.r (i64 ((leftV (l.take i)).length : Int))),(9,.r (i64 (i : Int)))])
  (fun i vs=>[(11,.arr 70 5 ((mixL r res l i).map mtR))]) (fun _=>True) 0 (zj [] ?_ ?_) (Nat.zero_le _) trivial ?_
 · try simp only [go_sem]
   try rfl
 · try simp only [go_sem]
   rw [hm0]
 · intro i vs hi _
   have hE:=hlen i
   repeat refine zq ?_
   refine zb fun K hK=>?_;simp only [go_sem]
   intro _
   refine hK _ ?_;clear hK K;refine zw (zk [2,3,7,8,9,15]) ?_;simp only [go_sem]
   refine zc rfl (fun hc=>?_) (fun hc=>?_) <;> (try simp only [go_sem] at hc)
   · have hil : i < l.length:=by omega
     obtain ⟨m,hm⟩:=opt_of_lt hil
     have hmi:=hl m (mem_of_opt hm)
     have hge:=mixL_get (r:=r) (res:=res) hm
     have hse:=mixL_set (r:=r) (res:=res) hm
     have hls:=left_step hm
     have hlk : (leftV (l.take i)).length ≤ i:=by have:=left_len (l.take i); rw [List.length_take] at this; omega
     have hE2:=hlen (i + 1)
     generalize mixL r res l i = E at *
     generalize mixL r res l (i + 1) = E' at *
     generalize (leftV (l.take i)) = K at *
     refine zx ?_
     try simp only [go_sem]
     refine zq ?_
     refine zd ?_
     repeat refine zq ?_
     refine zb fun K hK=>?_;simp only [go_sem,hge,hE]
     refine ⟨by omega,?_⟩
     refine hK _ ?_;clear hK K;refine zw (zk [2,3,7,8,9,22]) ?_;simp only [go_sem]
     cases hp : m.p with
     | true =>
       rw [hp,if_pos rfl] at hse
       rw [hp,if_pos rfl,List.append_nil] at hls
       have hee : E' = E:=by rw [hse,set_same hge]
       rw [hls,hee]
       refine zc rfl (fun hc=>?_) (fun hc=>?_) <;> (try simp only [go_sem] at hc)
       refine zf ?_;simp only [go_sem];refine zb fun K hK=>?_;simp only [go_sem];(try simp (disch:=omega) only [zI]);refine hK _ ?_;clear hK K
       try simp only [go_sem]
       refine ⟨by omega,zj [] ?_ ?_⟩
       · try simp only [go_sem]
       · try simp only [go_sem]
     | false =>
       rw [hp] at hse hls
       simp only [Bool.false_eq_true,if_false] at hse hls
       have hlg : legsOf r m = 0:=by unfold legsOf; rw [hp]; rfl
       have hmf:=hmi.f
       rw [hlg] at hmf
       have hgd : ∀ X,((E.map mtR).set i X).getD i [] = X:=fun X=>by rw [List.getD_eq_getElem?_getD,List.getElem?_set_self (by rw [List.length_map]; omega)]; rfl
       have hgo : ∀ X,((E.map mtR).set i X)[i]? = some X:=fun X=>List.getElem?_set_self (by rw [List.length_map]; omega)
       obtain ⟨F,hF⟩ : ∃ F,F = forV r res K.length m.f:=⟨_,rfl⟩
       have htd : Int.tdiv r.legs 2 = r.legs / 2:=Int.tdiv_eq_ediv_of_nonneg (by omega)
       have hFb : 0 ≤ F ∧ F ≤ 25:=by rw [hF]; unfold forV; split <;> (try split) <;> omega
       refine zc rfl (fun hc=>?_) (fun hc=>?_) <;> (try simp only [go_sem] at hc)
       refine zx ?_
       try simp only [go_sem]
       refine zq ?_
       refine zb fun K hK=>?_;simp only [go_sem,hge,hE,hgd,hgo,List.length_set]
       repeat refine ⟨by omega,?_⟩
       refine hK _ ?_;clear hK K;refine zw (zk [2,3,7,8,9]) ?_;simp only [go_sem]
       refine zq ?_
       refine awp_joinV (n:=79) (fun (_ : Unit) vs=>[(2,.r (ints res)),(3,.r (.rp (trC r))),(7,.os 11 (vs 11) 5 0 l.length),(8,.r (i64 (K.length : Int))),(9,.r (i64 (i : Int)))])
        (fun _ vs=>[(11,.arr 70 5 ((E.map mtR).set i [i64 m.h,i64 m.a,.bo true,i64 F,i64 m.g]))]) (fun _=>True) (fun _ h=>h) ?_ ?_
       · skip
         refine zd ?_
         cases hk : res[K.length]? with
         | none =>
           have hkl : ¬ K.length < res.length:=fun h=>by rw [List.getElem?_eq_getElem h] at hk; cases hk
           have hF2 : F = m.f:=by rw [hF]; unfold forV; rw [hk]; simp
           rw [hF2]
           refine zq ?_
           refine zb fun K hK=>?_;simp only [go_sem,hkl]
           intro _
           refine hK _ ?_;clear hK K;refine zw (zk [2,3,7,8,9,27]) ?_;simp only [go_sem]
           refine zc rfl (fun hc=>?_) (fun hc=>?_) <;> (try simp only [go_sem] at hc)
           refine zq ?_
           refine zb fun K hK=>?_;simp only [go_sem,hkl]
           intro _
           refine hK _ ?_;clear hK K;refine zw (zk [2,3,7,8,9,45]) ?_;simp only [go_sem]
           refine zc rfl (fun hc=>?_) (fun hc=>?_) <;> (try simp only [go_sem] at hc)
           refine zx ?_
           try simp only [go_sem]
           refine ⟨(),zj [] ?_ ?_⟩
           · try simp only [go_sem]
           · try simp only [go_sem]
         | some v =>
           have hkl : K.length < res.length:=(List.getElem?_eq_some_iff.1 hk).1
           by_cases v0 : v = 0
           · subst v0
             have hF2 : F = r.legs:=by rw [hF]; unfold forV; rw [hk]; simp
             rw [hF2]
             refine zq ?_
             refine zb fun K hK=>?_;simp only [go_sem,hk,hkl]
             intro _
             refine hK _ ?_;clear hK K;refine zw (zk [2,3,7,8,9,27]) ?_;simp only [go_sem]
             refine zc rfl (fun hc=>?_) (fun hc=>?_) <;> (try simp only [go_sem] at hc)
             refine zb fun K hK=>?_;simp only [go_sem,hge,hE,hgd,hgo,List.length_set,List.set_set]
             repeat refine ⟨by omega,?_⟩
             refine hK _ ?_;clear hK K
             refine ⟨(),zj [] ?_ ?_⟩
             · try simp only [go_sem]
             · try simp only [go_sem]
           have c0 : (v == 0) = false:=by simpa using v0
           by_cases v1 : v = 1
           · subst v1
             have hF2 : F = r.legs / 2:=by rw [hF]; unfold forV; rw [hk]; simp
             rw [hF2]
             refine zq ?_
             refine zb fun K hK=>?_;simp only [go_sem,hk,hkl,c0]
             intro _
             refine hK _ ?_;clear hK K;refine zw (zk [2,3,7,8,9,27]) ?_;simp only [go_sem]
             refine zc rfl (fun hc=>?_) (fun hc=>?_) <;> (try simp only [go_sem] at hc)
             refine zq ?_
             refine zb fun K hK=>?_;simp only [go_sem,hk,hkl]
             intro _
             refine hK _ ?_;clear hK K;refine zw (zk [2,3,7,8,9,45]) ?_;simp only [go_sem]
             refine zc rfl (fun hc=>?_) (fun hc=>?_) <;> (try simp only [go_sem] at hc)
             refine zb fun K hK=>?_;simp only [go_sem,hge,hE,hgd,hgo,htd,List.length_set,List.set_set];(try simp (disch:=omega) only [zI])
             repeat refine ⟨by omega,?_⟩
             refine hK _ ?_;clear hK K
             refine ⟨(),zj [] ?_ ?_⟩
             · try simp only [go_sem]
             · try simp only [go_sem]
           have c1 : (v == 1) = false:=by simpa using v1
           have hF2 : F = m.f:=by rw [hF]; unfold forV; rw [hk]; simp [v0,v1]
           rw [hF2]
           refine zq ?_
           refine zb fun K hK=>?_;simp only [go_sem,hk,hkl,c0]
           intro _
           refine hK _ ?_;clear hK K;refine zw (zk [2,3,7,8,9,27]) ?_;simp only [go_sem]
           refine zc rfl (fun hc=>?_) (fun hc=>?_) <;> (try simp only [go_sem] at hc)
           refine zq ?_
           refine zb fun K hK=>?_;simp only [go_sem,hk,hkl,c1]
           intro _
           refine hK _ ?_;clear hK K;refine zw (zk [2,3,7,8,9,45]) ?_;simp only [go_sem]
           refine zc rfl (fun hc=>?_) (fun hc=>?_) <;> (try simp only [go_sem] at hc)
           refine zx ?_
           try simp only [go_sem]
           refine ⟨(),zj [] ?_ ?_⟩
           · try simp only [go_sem]
           · try simp only [go_sem]
       intro _ vs _
       refine zq ?_
       refine awp_dreg2 [(7,some 11),(3,none),(9,none)] follows (by decide +kernel) (by kernel_rfl) (by simp only [keysOk,List.mem_cons,List.not_mem_nil,forall_eq_or_imp,Oc.keyOf,go_sem]; simp) fun K hK=>?_
       simp only [go_sem,hge,hE,hgd,hgo,List.length_set,List.set_set];(try simp (disch:=omega) only [zI])
       repeat refine ⟨by omega,?_⟩
       refine hK _ ?_;clear hK K;refine zw (zk [2,3,7,8,9]) ?_;simp only [go_sem]
       have hse2 : (E.map mtR).set i [i64 m.h,i64 m.a,.bo true,i64 F,i64 (r.legs - F)] = E'.map mtR:=by
        rw [hse,List.map_set,hF]; rfl
       rw [hse2]
       refine zb fun K hK=>?_;simp only [go_sem];(try simp (disch:=omega) only [zI]);refine hK _ ?_;clear hK K;refine zw (zk [2,3,7,8,9]) ?_;simp only [go_sem];refine zb fun K hK=>?_;simp only [go_sem];(try simp (disch:=omega) only [zI]);refine hK _ ?_;clear hK K
       try simp only [go_sem]
       refine ⟨by omega,zj [] ?_ ?_⟩
       · try simp only [go_sem]
         rw [hls]
         simp
       · try simp only [go_sem]
   · have hil : i = l.length:=by omega
     subst hil
     have hmx : mixL r res l l.length = fillL r res 0 l:=by unfold mixL; rw [List.take_length,List.drop_length,List.append_nil]
     rw [hmx]
     refine zf ?_;simp only [go_sem]
     refine zq ?_
     refine zb fun K hK=>?_;simp only [go_sem];refine hK _ ?_;clear hK K;refine zw (zk [6]) ?_;simp only [go_sem];refine ze ?_
     try simp only [go_sem]
     refine ⟨11,vs 11,rfl,?_⟩
     simp
theorem fates_good {r : Tr} (hr : RulesI r) {l : List Mt} (hl : ∀ m ∈ l,MatchI r m) (hll : l.length ≤ 180) (hle : (leftV l).length ≤ 10) :
 ACalls Try.prog 40 [trV r,mtsR l] (.tu [.sl 2 ((spansL r l).map (fateR r)),i64 0]):=by
 have he : errV r l = 0:=by unfold errV; rw [check_good hr hl hll,if_pos rfl]; unfold fullV; rw [if_neg (by omega)]
 exact Fates_ok r l (wf_good hr hl) he
theorem one_at (r : Tr) (res : List Int) : ∀ (l : List Mt) (i : Nat) (m : Mt),leftV (l.take i) = [] → l[i]? = some m → m.p = false → oneL r res l = l.set i (putM r res 0 m) ∧ (fillL r res 0 l)[i]? = some (putM r res 0 m)
 | [],i,m,_,h,_=>by simp at h
 | y :: ms, 0, m, _, h, hp => by
   have : y = m:=by simpa using h
   subst this
   unfold oneL fillL
   rw [hp]
   exact ⟨rfl,rfl⟩
 | y :: ms, i + 1, m, h1, h, hp => by
   rw [List.take_succ_cons,leftV_cons] at h1
   cases hy : y.p with
   | false=>rw [hy] at h1; simp at h1
   | true =>
     rw [hy,if_pos rfl] at h1
     obtain ⟨a,b⟩:=one_at r res ms i m h1 (by simpa using h) hp
     unfold oneL fillL
     rw [hy,if_pos rfl,if_pos rfl,a]
     exact ⟨rfl,by simpa using b⟩
theorem one_none (r : Tr) (res : List Int) : ∀ l : List Mt,leftV l = [] → oneL r res l = l
 | [],_=>rfl
 | y :: ms, h => by
   rw [leftV_cons] at h
   cases hy : y.p with
   | false=>rw [hy] at h; simp at h
   | true =>
     rw [hy,if_pos rfl] at h
     unfold oneL
     rw [hy,if_pos rfl,one_none r res ms h]
theorem sure_law (x : Sm) (hx : WfS x) (bs : List Nat) (hbs : ∀ n ∈ bs,n < 256) : ACalls Try.prog 10 [smV x,bytesR bs] (.bo true):=by
 have hkn:=known_ok
 have hdi:=division_ok x hx
 have hR:=divR_ok x
 have hM:=divL_ok x
 have hll:=divL_len x
 have hle:=left_div x
 have how:=own_ok (divR x) (by have:=ded_len hR; omega)
 have hco:=copied_ok (divL x) (by omega)
 have hcw:=copied_own (divL x) (by omega)
 have hso:=some_ok (divR x) hR (divL x) (by omega) bs hbs
 have hfi:=fill_ok (divR x) hR (divL x) hM (by omega) (someV (divR x) (divL x) bs)
 have hft:=fill_table hR hM (by omega) (someV (divR x) (divL x) bs)
 have hfo:=fill_own (divR x) hR (divL x) hM (by omega) (someV (divR x) (divL x) bs)
 have hpl:=places_good hR hM (by omega) (by omega)
 have hfa:=fates_good hR hM (by omega) (by omega)
 have hsr:=some_res hR (divL x) bs
 obtain ⟨hM1,hl1,hle1⟩:=one_good hR hM (someV (divR x) (divL x) bs)
 have hco1:=copied_ok (oneL (divR x) (someV (divR x) (divL x) bs) (divL x)) (by omega)
 have hpl1:=places_good hR hM1 (by omega) (by omega)
 have hfa1:=fates_good hR hM1 (by omega) (by omega)
 have hos:=fun t ht=>one_span hR hM hsr (t:=t) ht
 have hsb:=fun t ht=>sp_bounds hR hM (t:=t) ht
 have hsb1:=fun t ht=>sp_bounds hR hM1 (t:=t) ht
 have hap:=fun i w hw=>any_place hR hM hsr (i:=i) (w:=w) hw
 have hsg:=fun t ht=>spans_at (r:=divR x) (l:=divL x) (t:=t) ht
 have hsg1:=fun t ht=>spans_at (r:=divR x) (l:=oneL (divR x) (someV (divR x) (divL x) bs) (divL x)) (t:=t) ht
 have hsn : (spansL (divR x) (divL x)).length = nT (divR x):=spansL_len _ _
 have hsn1 : (spansL (divR x) (oneL (divR x) (someV (divR x) (divL x) bs) (divL x))).length = nT (divR x):=spansL_len _ _
 have htl:=tab_len (divR x) (fillL (divR x) (someV (divR x) (divL x) bs) 0 (divL x))
 have hoa:=fun i m=>one_at (divR x) (someV (divR x) (divL x) bs) (divL x) i m
 have hon:=one_none (divR x) (someV (divR x) (divL x) bs) (divL x)
 have hfl:=fillL_len (divR x) (someV (divR x) (divL x) bs) (divL x) 0
 obtain ⟨hn,hn2,hn10⟩:=nT_eq hR
 have hrt:=hR.teams
 have hru:=hR.up
 have hrd:=hR.down
 refine acalls_st (rs:=[.bo true]) [.tmp 4] Try.func10 rfl (by kernel_rfl) Try.ntmps10 rfl (by simp) rfl fun C vs=>?_
 refine zq ?_
 refine zb fun K hK=>?_;simp only [go_sem];refine hK _ ?_;clear hK K;refine zw (sub_frzP 2 2 (smC x) (by omega) rfl rfl) ?_;refine zw (zk [1,2]) ?_;simp only [go_sem]
 refine zq ?_
 refine zb fun K hK=>?_;simp only [go_sem]
 refine zh (hdi) rfl (by simp only [go_sem,i64,ints]) (by simp only [go_sem,i64,ints]) (by first | exact .inl rfl | exact .inr rfl) ?_
 (try simp only [go_sem]);refine hK _ ?_;clear hK K;refine zw (sub_frzP 5 5 (trC (divR x)) (by omega) rfl rfl) ?_;refine zw (zk [1,5,6]) ?_;simp only [go_sem]
 clear hdi hx
 generalize divL x = l at *
 generalize divR x = r at *
 generalize hres : someV r l bs = res at *
 generalize tabT r (fillL r res 0 l) = T at *
 generalize fillL r res 0 l = FL at *
 generalize hO : oneL r res l = O at *
 generalize spansL r O = SO at *
 generalize spansL r l = SS at *
 have hn' : r.teams = (nT r : Int):=hn.symm
 refine zq ?_
 refine zb fun K hK=>?_;simp only [go_sem]
 refine zh (how) rfl (by simp only [go_sem,i64,ints]) (by simp only [go_sem,i64,ints]) (by first | exact .inl rfl | exact .inr rfl) ?_
 (try simp only [go_sem])
 refine zh (hco) rfl (by simp only [go_sem,i64,ints]) (by simp only [go_sem,i64,ints]) (by first | exact .inl rfl | exact .inr rfl) ?_
 (try simp only [go_sem])
 refine zh (hfa) rfl (by simp only [go_sem,i64,ints]) (by simp only [go_sem,i64,ints]) (by first | exact .inl rfl | exact .inr rfl) ?_
 (try simp only [go_sem]);refine hK _ ?_;clear hK K;refine zw (zk [1,5,6,7,8]) ?_;simp only [go_sem]
 refine zq ?_
 refine zb fun K hK=>?_;simp only [go_sem]
 refine zh (how) rfl (by simp only [go_sem,i64,ints]) (by simp only [go_sem,i64,ints]) (by first | exact .inl rfl | exact .inr rfl) ?_
 (try simp only [go_sem])
 refine zh (hco) rfl (by simp only [go_sem,i64,ints]) (by simp only [go_sem,i64,ints]) (by first | exact .inl rfl | exact .inr rfl) ?_
 (try simp only [go_sem])
 refine zh (hpl) rfl (by simp only [go_sem,i64,ints]) (by simp only [go_sem,i64,ints]) (by first | exact .inl rfl | exact .inr rfl) ?_
 (try simp only [go_sem]);refine hK _ ?_;clear hK K;refine zw (zk [1,5,6,7,8,9,10]) ?_;simp only [go_sem]
 refine zq ?_
 refine zb fun K hK=>?_;simp only [go_sem]
 refine zh (hso) rfl (by simp only [go_sem,i64,ints]) (by simp only [go_sem,i64,ints]) (by first | exact .inl rfl | exact .inr rfl) ?_
 (try simp only [go_sem]);refine hK _ ?_;clear hK K;refine zw (zk [5,6,7,8,9,10,11]) ?_;simp only [go_sem]
 refine zq ?_
 refine zg follows (by decide +kernel) (by kernel_rfl) fun K hK=>?_;simp only [go_sem]
 refine zh (how) rfl (by simp only [go_sem,i64,ints]) (by simp only [go_sem,i64,ints]) (by first | exact .inl rfl | exact .inr rfl) ?_
 (try simp only [go_sem])
 refine zh (hfi) rfl (by simp only [go_sem,i64,ints]) (by simp only [go_sem,i64,ints]) (by first | exact .inl rfl | exact .inr rfl) ?_
 (try simp only [go_sem])
 refine zh (hft) rfl (by simp only [go_sem,i64,ints]) (by simp only [go_sem,i64,ints]) (by first | exact .inl rfl | exact .inr rfl) ?_
 (try simp only [go_sem]);refine hK _ ?_;clear hK K;refine zw (zk [5,6,7,8,9,10,11,12,14]) ?_;simp only [go_sem]
 have hz : ((0 : Int) != 0) = false:=rfl
 have hnn : ((nT r : Int) != (nT r : Int)) = false:=bne_self_eq_false _
 repeat refine zq ?_
 refine zb fun K hK=>?_;simp only [go_sem,hz,hnn,htl,hsn,hn']
 repeat intro _
 refine hK _ ?_;clear hK K;refine zw (zk [5,6,7,9,11,12,90]) ?_;simp only [go_sem]
 refine zc rfl (fun hc=>?_) (fun hc=>?_) <;> (try simp only [go_sem] at hc)
 refine zx ?_
 try simp only [go_sem]
 repeat refine zq ?_
 refine zb fun K hK=>?_;simp only [go_sem];refine hK _ ?_;clear hK K;refine zw (zk [5,6,7,9,11,12,15]) ?_;simp only [go_sem];refine zd ?_
 refine awp_uptoV (n:=314) T.length (fun i vs=>[(5,.r (.rp (trC r))),(6,.r (mtsR l)),(7,.r (.sl 2 (SS.map (fateR r)))),(9,.r (.sl 2 (SS.map spR))),(11,.r (ints res)),(12,.r (rwsR T)),(15,.r (i64 (i : Int)))])
  (fun i vs=>[]) (fun _=>True) 0 (zj [] ?_ ?_) (Nat.zero_le _) trivial ?_
 · try simp only [go_sem]
   try rfl
 · try simp only [go_sem]
 · intro i vs hi _
   repeat refine zq ?_
   refine zb fun K hK=>?_;simp only [go_sem]
   intro _
   refine hK _ ?_;clear hK K;refine zw (zk [5,6,7,9,11,12,15,94]) ?_;simp only [go_sem]
   refine zc rfl (fun hc=>?_) (fun hc=>?_) <;> (try simp only [go_sem] at hc)
   · have hil : i < T.length:=by omega
     obtain ⟨w,hw⟩:=opt_of_lt hil
     obtain ⟨t,htn,hwt,_,hs1,hs2⟩:=hap i w hw
     have hst:=hsg t htn
     have hSl : t < SS.length:=by omega
     have hsbt:=hsb t htn
     have c1 : decide ((t : Int) < 0) = false:=decide_eq_false (by omega)
     have c2 : decide ((nT r : Int) ≤ (t : Int)) = false:=decide_eq_false (by omega)
     have c3 : ¬ nT r ≤ t:=by omega
     generalize spF r l t = sp at *
     have hU:=up_cases r hs1 hs2
     have hD:=dn_cases r hs1 hs2
     have hUD:=not_both hR (s:=sp) (by omega)
     have wd : IntKind.i64.wrap (r.teams - r.down) = r.teams - r.down:=by rw [zI] <;> omega
     generalize hB1 : decide ((i : Int) < r.up) = B1 at *
     generalize hB2 : decide (r.teams - r.down ≤ (i : Int)) = B2 at *
     refine zx ?_
     try simp only [go_sem]
     refine zq ?_
     refine zd ?_
     refine zq ?_
     refine zb fun K hK=>?_;simp only [go_sem,hw,hil,hwt];refine hK _ ?_;clear hK K;refine zw (zk [5,6,7,9,11,12,15,16]) ?_;simp only [go_sem]
     repeat refine zq ?_
     refine zb fun K hK=>?_;simp only [go_sem,hwt,c1,hn',c2,c3];refine hK _ ?_;clear hK K;refine zw (zk [5,6,7,9,11,12,15,16,109]) ?_;simp only [go_sem]
     refine zc rfl (fun hc=>?_) (fun hc=>?_) <;> (try simp only [go_sem] at hc)
     refine zx ?_
     try simp only [go_sem]
     refine zq ?_
     refine zg follows (by decide +kernel) (by kernel_rfl) fun K hK=>?_;simp only [go_sem,wd,hB1,hB2];refine hK _ ?_;clear hK K;refine zw (zk [5,6,7,9,11,12,15,16,17,18]) ?_;simp only [go_sem]
     refine zq ?_
     refine awp_joinV (n:=314) (fun (_ : Unit) vs=>[(5,.r (.rp (trC r))),(6,.r (mtsR l)),(7,.r (.sl 2 (SS.map (fateR r)))),(9,.r (.sl 2 (SS.map spR))),(11,.r (ints res)),(12,.r (rwsR T)),(15,.r (i64 (i : Int))),(180,.r (.bo false))]) (fun _ vs=>[]) (fun _=>True) (fun _ h=>h) ?_ ?_
     · have n22 : ((2 : Int) == 2) = true:=rfl
       have n20 : ((2 : Int) == 0) = false:=rfl
       have n02 : ((0 : Int) == 2) = false:=rfl
       have n00 : ((0 : Int) == 0) = true:=rfl
       have n12 : ((1 : Int) == 2) = false:=rfl
       have n10 : ((1 : Int) == 0) = false:=rfl
       have hfr : fateR r sp = [i64 (upV r sp),i64 (dnV r sp)]:=rfl
       rcases hU with ⟨hu,hb1⟩ | ⟨hu,hb1⟩ | hu <;> rcases hD with ⟨hd,hb2⟩ | ⟨hd,hb2⟩ | hd
       · exact absurd (And.intro hu hd) hUD
       · skip
         refine awp_long ?_
         refine sops_take 21 (by kernel_rfl) fun K hK=>?_
         simp only [go_sem,List.take_succ_cons,List.take_zero,List.drop_succ_cons,List.drop_zero,List.append_eq,List.cons_append,List.nil_append,hfr,hu,hd,hst,hSl,n22,n20,n02,n00,n12,n10,Bool.not_true,Bool.not_false,hb1,hb2]
         refine hK _ rfl ?_
         clear hK K
         refine sops_sub (zk [5,6,7,9,11,12,15,16,17,18,141]) ?_
         simp only [go_sem]
         refine sops_take 23 (by kernel_rfl) fun K hK=>?_
         simp only [go_sem,List.take_succ_cons,List.take_zero,List.drop_succ_cons,List.drop_zero,List.append_eq,List.cons_append,List.nil_append,hfr,hu,hd,hst,hSl,n22,n20,n02,n00,n12,n10,Bool.not_true,Bool.not_false,hb1,hb2]
         refine hK _ rfl ?_
         clear hK K
         refine sops_sub (zk [5,6,7,9,11,12,15,16,17,18,164]) ?_
         simp only [go_sem]
         refine sops_end (by kernel_rfl) fun K hK=>?_
         simp only [go_sem,List.drop_succ_cons,List.drop_zero,List.append_eq,List.cons_append,List.nil_append,hfr,hu,hd,hst,hSl,n22,n20,n02,n00,n12,n10,Bool.not_true,Bool.not_false,hb1,hb2];refine hK _ ?_;clear hK K
         refine ⟨(),zj [] ?_ ?_⟩
         · try simp only [go_sem]
         · try simp only [go_sem]
       · skip
         refine awp_long ?_
         refine sops_take 21 (by kernel_rfl) fun K hK=>?_
         simp only [go_sem,List.take_succ_cons,List.take_zero,List.drop_succ_cons,List.drop_zero,List.append_eq,List.cons_append,List.nil_append,hfr,hu,hd,hst,hSl,n22,n20,n02,n00,n12,n10,Bool.not_true,Bool.not_false,hb1]
         refine hK _ rfl ?_
         clear hK K
         refine sops_sub (zk [5,6,7,9,11,12,15,16,17,18,141]) ?_
         simp only [go_sem]
         refine sops_take 23 (by kernel_rfl) fun K hK=>?_
         simp only [go_sem,List.take_succ_cons,List.take_zero,List.drop_succ_cons,List.drop_zero,List.append_eq,List.cons_append,List.nil_append,hfr,hu,hd,hst,hSl,n22,n20,n02,n00,n12,n10,Bool.not_true,Bool.not_false,hb1]
         refine hK _ rfl ?_
         clear hK K
         refine sops_sub (zk [5,6,7,9,11,12,15,16,17,18,164]) ?_
         simp only [go_sem]
         refine sops_end (by kernel_rfl) fun K hK=>?_
         simp only [go_sem,List.drop_succ_cons,List.drop_zero,List.append_eq,List.cons_append,List.nil_append,hfr,hu,hd,hst,hSl,n22,n20,n02,n00,n12,n10,Bool.not_true,Bool.not_false,hb1];refine hK _ ?_;clear hK K
         refine ⟨(),zj [] ?_ ?_⟩
         · try simp only [go_sem]
         · try simp only [go_sem]
       · skip
         refine awp_long ?_
         refine sops_take 21 (by kernel_rfl) fun K hK=>?_
         simp only [go_sem,List.take_succ_cons,List.take_zero,List.drop_succ_cons,List.drop_zero,List.append_eq,List.cons_append,List.nil_append,hfr,hu,hd,hst,hSl,n22,n20,n02,n00,n12,n10,Bool.not_true,Bool.not_false,hb1,hb2]
         refine hK _ rfl ?_
         clear hK K
         refine sops_sub (zk [5,6,7,9,11,12,15,16,17,18,141]) ?_
         simp only [go_sem]
         refine sops_take 23 (by kernel_rfl) fun K hK=>?_
         simp only [go_sem,List.take_succ_cons,List.take_zero,List.drop_succ_cons,List.drop_zero,List.append_eq,List.cons_append,List.nil_append,hfr,hu,hd,hst,hSl,n22,n20,n02,n00,n12,n10,Bool.not_true,Bool.not_false,hb1,hb2]
         refine hK _ rfl ?_
         clear hK K
         refine sops_sub (zk [5,6,7,9,11,12,15,16,17,18,164]) ?_
         simp only [go_sem]
         refine sops_end (by kernel_rfl) fun K hK=>?_
         simp only [go_sem,List.drop_succ_cons,List.drop_zero,List.append_eq,List.cons_append,List.nil_append,hfr,hu,hd,hst,hSl,n22,n20,n02,n00,n12,n10,Bool.not_true,Bool.not_false,hb1,hb2];refine hK _ ?_;clear hK K
         refine ⟨(),zj [] ?_ ?_⟩
         · try simp only [go_sem]
         · try simp only [go_sem]
       · skip
         refine awp_long ?_
         refine sops_take 21 (by kernel_rfl) fun K hK=>?_
         simp only [go_sem,List.take_succ_cons,List.take_zero,List.drop_succ_cons,List.drop_zero,List.append_eq,List.cons_append,List.nil_append,hfr,hu,hd,hst,hSl,n22,n20,n02,n00,n12,n10,Bool.not_true,Bool.not_false,hb1,hb2]
         refine hK _ rfl ?_
         clear hK K
         refine sops_sub (zk [5,6,7,9,11,12,15,16,17,18,141]) ?_
         simp only [go_sem]
         refine sops_take 23 (by kernel_rfl) fun K hK=>?_
         simp only [go_sem,List.take_succ_cons,List.take_zero,List.drop_succ_cons,List.drop_zero,List.append_eq,List.cons_append,List.nil_append,hfr,hu,hd,hst,hSl,n22,n20,n02,n00,n12,n10,Bool.not_true,Bool.not_false,hb1,hb2]
         refine hK _ rfl ?_
         clear hK K
         refine sops_sub (zk [5,6,7,9,11,12,15,16,17,18,164]) ?_
         simp only [go_sem]
         refine sops_end (by kernel_rfl) fun K hK=>?_
         simp only [go_sem,List.drop_succ_cons,List.drop_zero,List.append_eq,List.cons_append,List.nil_append,hfr,hu,hd,hst,hSl,n22,n20,n02,n00,n12,n10,Bool.not_true,Bool.not_false,hb1,hb2];refine hK _ ?_;clear hK K
         refine ⟨(),zj [] ?_ ?_⟩
         · try simp only [go_sem]
         · try simp only [go_sem]
       · skip
         refine awp_long ?_
         refine sops_take 21 (by kernel_rfl) fun K hK=>?_
         simp only [go_sem,List.take_succ_cons,List.take_zero,List.drop_succ_cons,List.drop_zero,List.append_eq,List.cons_append,List.nil_append,hfr,hu,hd,hst,hSl,n22,n20,n02,n00,n12,n10,Bool.not_true,Bool.not_false,hb1]
         refine hK _ rfl ?_
         clear hK K
         refine sops_sub (zk [5,6,7,9,11,12,15,16,17,18,141]) ?_
         simp only [go_sem]
         refine sops_take 23 (by kernel_rfl) fun K hK=>?_
         simp only [go_sem,List.take_succ_cons,List.take_zero,List.drop_succ_cons,List.drop_zero,List.append_eq,List.cons_append,List.nil_append,hfr,hu,hd,hst,hSl,n22,n20,n02,n00,n12,n10,Bool.not_true,Bool.not_false,hb1]
         refine hK _ rfl ?_
         clear hK K
         refine sops_sub (zk [5,6,7,9,11,12,15,16,17,18,164]) ?_
         simp only [go_sem]
         refine sops_end (by kernel_rfl) fun K hK=>?_
         simp only [go_sem,List.drop_succ_cons,List.drop_zero,List.append_eq,List.cons_append,List.nil_append,hfr,hu,hd,hst,hSl,n22,n20,n02,n00,n12,n10,Bool.not_true,Bool.not_false,hb1];refine hK _ ?_;clear hK K
         refine ⟨(),zj [] ?_ ?_⟩
         · try simp only [go_sem]
         · try simp only [go_sem]
       · skip
         refine awp_long ?_
         refine sops_take 21 (by kernel_rfl) fun K hK=>?_
         simp only [go_sem,List.take_succ_cons,List.take_zero,List.drop_succ_cons,List.drop_zero,List.append_eq,List.cons_append,List.nil_append,hfr,hu,hd,hst,hSl,n22,n20,n02,n00,n12,n10,Bool.not_true,Bool.not_false,hb2]
         refine hK _ rfl ?_
         clear hK K
         refine sops_sub (zk [5,6,7,9,11,12,15,16,17,18,141]) ?_
         simp only [go_sem]
         refine sops_take 23 (by kernel_rfl) fun K hK=>?_
         simp only [go_sem,List.take_succ_cons,List.take_zero,List.drop_succ_cons,List.drop_zero,List.append_eq,List.cons_append,List.nil_append,hfr,hu,hd,hst,hSl,n22,n20,n02,n00,n12,n10,Bool.not_true,Bool.not_false,hb2]
         refine hK _ rfl ?_
         clear hK K
         refine sops_sub (zk [5,6,7,9,11,12,15,16,17,18,164]) ?_
         simp only [go_sem]
         refine sops_end (by kernel_rfl) fun K hK=>?_
         simp only [go_sem,List.drop_succ_cons,List.drop_zero,List.append_eq,List.cons_append,List.nil_append,hfr,hu,hd,hst,hSl,n22,n20,n02,n00,n12,n10,Bool.not_true,Bool.not_false,hb2];refine hK _ ?_;clear hK K
         refine ⟨(),zj [] ?_ ?_⟩
         · try simp only [go_sem]
         · try simp only [go_sem]
       · skip
         refine awp_long ?_
         refine sops_take 21 (by kernel_rfl) fun K hK=>?_
         simp only [go_sem,List.take_succ_cons,List.take_zero,List.drop_succ_cons,List.drop_zero,List.append_eq,List.cons_append,List.nil_append,hfr,hu,hd,hst,hSl,n22,n20,n02,n00,n12,n10,Bool.not_true,Bool.not_false,hb2]
         refine hK _ rfl ?_
         clear hK K
         refine sops_sub (zk [5,6,7,9,11,12,15,16,17,18,141]) ?_
         simp only [go_sem]
         refine sops_take 23 (by kernel_rfl) fun K hK=>?_
         simp only [go_sem,List.take_succ_cons,List.take_zero,List.drop_succ_cons,List.drop_zero,List.append_eq,List.cons_append,List.nil_append,hfr,hu,hd,hst,hSl,n22,n20,n02,n00,n12,n10,Bool.not_true,Bool.not_false,hb2]
         refine hK _ rfl ?_
         clear hK K
         refine sops_sub (zk [5,6,7,9,11,12,15,16,17,18,164]) ?_
         simp only [go_sem]
         refine sops_end (by kernel_rfl) fun K hK=>?_
         simp only [go_sem,List.drop_succ_cons,List.drop_zero,List.append_eq,List.cons_append,List.nil_append,hfr,hu,hd,hst,hSl,n22,n20,n02,n00,n12,n10,Bool.not_true,Bool.not_false,hb2];refine hK _ ?_;clear hK K
         refine ⟨(),zj [] ?_ ?_⟩
         · try simp only [go_sem]
         · try simp only [go_sem]
       · skip
         refine awp_long ?_
         refine sops_take 21 (by kernel_rfl) fun K hK=>?_
         simp only [go_sem,List.take_succ_cons,List.take_zero,List.drop_succ_cons,List.drop_zero,List.append_eq,List.cons_append,List.nil_append,hfr,hu,hd,hst,hSl,n22,n20,n02,n00,n12,n10,Bool.not_true,Bool.not_false]
         refine hK _ rfl ?_
         clear hK K
         refine sops_sub (zk [5,6,7,9,11,12,15,16,17,18,141]) ?_
         simp only [go_sem]
         refine sops_take 23 (by kernel_rfl) fun K hK=>?_
         simp only [go_sem,List.take_succ_cons,List.take_zero,List.drop_succ_cons,List.drop_zero,List.append_eq,List.cons_append,List.nil_append,hfr,hu,hd,hst,hSl,n22,n20,n02,n00,n12,n10,Bool.not_true,Bool.not_false]
         refine hK _ rfl ?_
         clear hK K
         refine sops_sub (zk [5,6,7,9,11,12,15,16,17,18,164]) ?_
         simp only [go_sem]
         refine sops_end (by kernel_rfl) fun K hK=>?_
         simp only [go_sem,List.drop_succ_cons,List.drop_zero,List.append_eq,List.cons_append,List.nil_append,hfr,hu,hd,hst,hSl,n22,n20,n02,n00,n12,n10,Bool.not_true,Bool.not_false];refine hK _ ?_;clear hK K
         refine ⟨(),zj [] ?_ ?_⟩
         · try simp only [go_sem]
         · try simp only [go_sem]
     intro _ vs _
     refine zc rfl (fun hc=>?_) (fun hc=>?_) <;> (try simp only [go_sem] at hc)
     refine zx ?_
     try simp only [go_sem]
     refine zb fun K hK=>?_;simp only [go_sem];(try simp (disch:=omega) only [zI]);refine hK _ ?_;clear hK K
     try simp only [go_sem]
     refine ⟨by omega,zj [] ?_ ?_⟩
     · try simp only [go_sem]
     · try simp only [go_sem]
   · refine zf ?_;simp only [go_sem];refine zw (zk [5,6,7,9,11]) ?_;simp only [go_sem]
     refine zq ?_
     refine zb fun K hK=>?_;simp only [go_sem]
     refine xcall_own (hcw) rfl (by simp only [go_sem,i64,ints]) (by simp only [go_sem,i64,ints]) (by decide) (by intro h; first | (cases h; done) | rfl) ?_
     (try simp only [go_sem]);refine hK _ ?_;clear hK K;refine zw (zk [5,7,9,11,19]) ?_;simp only [go_sem]
     repeat refine zq ?_
     refine zb fun K hK=>?_;simp only [go_sem];refine hK _ ?_;clear hK K;refine zw (zk [5,7,9,11,19,20]) ?_;simp only [go_sem]
     refine awp_joinV (n:=314) (fun (_ : Unit) vs=>[(5,.r (.rp (trC r))),(7,.r (.sl 2 (SS.map (fateR r)))),(9,.r (.sl 2 (SS.map spR))),(19,.r (mtsR O))]) (fun _ vs=>[]) (fun _=>True) (fun _ h=>h) ?_ ?_
     · skip
       refine zd ?_
       refine awp_uptoV (n:=314) l.length (fun i vs=>[(5,.r (.rp (trC r))),(7,.r (.sl 2 (SS.map (fateR r)))),(9,.r (.sl 2 (SS.map spR))),(11,.r (ints res)),(19,.os 182 (vs 182) 5 0 l.length),(20,.r (i64 (i : Int)))])
        (fun i vs=>[(182,.arr 70 5 (l.map mtR))]) (fun i=>leftV (l.take i) = []) 0 (zj [] ?_ ?_) (Nat.zero_le _) rfl ?_
       · try simp only [go_sem]
         try rfl
       · try simp only [go_sem]
       · intro i vs hi hI
         repeat refine zq ?_
         refine zb fun K hK=>?_;simp only [go_sem]
         intro _
         refine hK _ ?_;clear hK K;refine zw (zk [5,7,9,11,19,20,186]) ?_;simp only [go_sem]
         refine zc rfl (fun hc=>?_) (fun hc=>?_) <;> (try simp only [go_sem] at hc)
         · have hil : i < l.length:=by omega
           obtain ⟨m,hm⟩:=opt_of_lt hil
           have hls:=left_step hm
           have hoai:=hoa i m hI hm
           refine zx ?_
           try simp only [go_sem]
           refine zq ?_
           refine zd ?_
           cases hp : m.p with
           | true =>
             rw [hp,if_pos rfl,List.append_nil,hI] at hls
             refine zq ?_
             refine zb fun K hK=>?_;simp only [go_sem,hm,hil,hp];refine hK _ ?_;clear hK K;refine zw (zk [5,7,9,11,19,20,194]) ?_;simp only [go_sem]
             refine zc rfl (fun hc=>?_) (fun hc=>?_) <;> (try simp only [go_sem] at hc)
             refine zx ?_
             try simp only [go_sem]
             refine zb fun K hK=>?_;simp only [go_sem];(try simp (disch:=omega) only [zI]);refine hK _ ?_;clear hK K
             try simp only [go_sem]
             refine ⟨by omega,hls,zj [] ?_ ?_⟩
             · try simp only [go_sem]
             · try simp only [go_sem]
           | false =>
             obtain ⟨ho1,ho2⟩:=hoai hp
             have hFi : i < FL.length:=by omega
             have htkl : List.take l.length (l.map mtR) = l.map mtR:=List.take_of_length_le (by simp)
             have hset : (l.set i (putM r res 0 m)).map mtR = (l.map mtR).set i (mtR (putM r res 0 m)):=List.map_set
             generalize putM r res 0 m = M at *
             refine zq ?_
             refine zb fun K hK=>?_;simp only [go_sem,hm,hil,hp,Bool.not_false];refine hK _ ?_;clear hK K;refine zw (zk [5,7,9,11,19,20,194]) ?_;simp only [go_sem]
             refine zc rfl (fun hc=>?_) (fun hc=>?_) <;> (try simp only [go_sem] at hc)
             refine zq ?_
             refine zb fun K hK=>?_;simp only [go_sem,htkl,hm,hil,ho2,hFi,hfl]
             refine xcall_own (hfo) rfl (by simp only [go_sem,i64,ints,htkl,hm,hil,ho2,hFi,hfl]) (by simp only [go_sem,i64,ints,htkl,hm,hil,ho2,hFi,hfl]) (by decide) (by intro h; first | (cases h; done) | rfl) ?_
             (try simp only [go_sem,htkl,hm,hil,ho2,hFi,hfl]);refine hK _ ?_;clear hK K;refine zw (zk [5,7,9,19]) ?_;simp only [go_sem]
             have hrow : (l.map mtR).set i (mtR M) = O.map mtR:=by rw [← hset,← ho1]
             rw [hrow]
             refine zw (sub_frz (ty:=70) (sz:=5) (off:=0) (m:=l.length) (es:=O.map mtR) 19 182 (by omega) rfl rfl (by simp; omega)) ?_;refine zw (zk [5,7,9,19]) ?_;simp only [go_sem]
             have htO : List.take l.length (O.map mtR) = O.map mtR:=List.take_of_length_le (by simp; omega)
             refine zf ?_;simp only [go_sem]
             refine ⟨(),zj [200] ?_ ?_⟩
             · try simp only [go_sem]
               try rw [htO]
             · try simp only [go_sem]
         · have hil : i = l.length:=by omega
           subst hil
           rw [List.take_length] at hI
           have hOl:=hon hI
           have htkl : List.take l.length (l.map mtR) = l.map mtR:=List.take_of_length_le (by simp)
           refine zw (sub_frz (ty:=70) (sz:=5) (off:=0) (m:=l.length) (es:=l.map mtR) 19 182 (by omega) rfl rfl (by simp)) ?_;refine zf ?_;simp only [go_sem]
           refine ⟨(),zj [] ?_ ?_⟩
           · try simp only [go_sem]
             rw [hOl]
             try rw [htkl]
           · try simp only [go_sem]
     intro _ vs _
     refine zq ?_
     refine zb fun K hK=>?_;simp only [go_sem]
     refine zh (how) rfl (by simp only [go_sem,i64,ints]) (by simp only [go_sem,i64,ints]) (by first | exact .inl rfl | exact .inr rfl) ?_
     (try simp only [go_sem])
     refine zh (hco1) rfl (by simp only [go_sem,i64,ints]) (by simp only [go_sem,i64,ints]) (by first | exact .inl rfl | exact .inr rfl) ?_
     (try simp only [go_sem])
     refine zh (hpl1) rfl (by simp only [go_sem,i64,ints]) (by simp only [go_sem,i64,ints]) (by first | exact .inl rfl | exact .inr rfl) ?_
     (try simp only [go_sem]);refine hK _ ?_;clear hK K;refine zw (zk [5,7,8,9,19,21]) ?_;simp only [go_sem]
     refine zq ?_
     refine zb fun K hK=>?_;simp only [go_sem]
     refine zh (how) rfl (by simp only [go_sem,i64,ints]) (by simp only [go_sem,i64,ints]) (by first | exact .inl rfl | exact .inr rfl) ?_
     (try simp only [go_sem])
     refine zh (hco1) rfl (by simp only [go_sem,i64,ints]) (by simp only [go_sem,i64,ints]) (by first | exact .inl rfl | exact .inr rfl) ?_
     (try simp only [go_sem])
     refine zh (hfa1) rfl (by simp only [go_sem,i64,ints]) (by simp only [go_sem,i64,ints]) (by first | exact .inl rfl | exact .inr rfl) ?_
     (try simp only [go_sem]);refine hK _ ?_;clear hK K;refine zw (zk [5,7,8,9,10,21,22]) ?_;simp only [go_sem]
     repeat refine zq ?_
     refine zb fun K hK=>?_;simp only [go_sem,hz,hnn,hsn1,hn']
     repeat intro _
     refine hK _ ?_;clear hK K;refine zw (zk [5,7,9,21,22,240]) ?_;simp only [go_sem]
     refine zc rfl (fun hc=>?_) (fun hc=>?_) <;> (try simp only [go_sem] at hc)
     refine zx ?_
     try simp only [go_sem]
     repeat refine zq ?_
     refine zb fun K hK=>?_;simp only [go_sem];refine hK _ ?_;clear hK K;refine zw (zk [5,7,9,21,22,23]) ?_;simp only [go_sem];refine zd ?_
     refine awp_uptoV (n:=314) (nT r) (fun t vs=>[(5,.r (.rp (trC r))),(7,.r (.sl 2 (SS.map (fateR r)))),(9,.r (.sl 2 (SS.map spR))),(21,.r (.sl 2 (SO.map spR))),(22,.r (.sl 2 (SO.map (fateR r)))),(23,.r (i64 (t : Int)))])
      (fun t vs=>[]) (fun _=>True) 0 (zj [] ?_ ?_) (Nat.zero_le _) trivial ?_
     · try simp only [go_sem]
       try rfl
     · try simp only [go_sem]
     · intro t vs ht _
       repeat refine zq ?_
       refine zb fun K hK=>?_;simp only [go_sem,hn'];refine hK _ ?_;clear hK K;refine zw (zk [5,7,9,21,22,23,244]) ?_;simp only [go_sem]
       refine zc rfl (fun hc=>?_) (fun hc=>?_) <;> (try simp only [go_sem] at hc)
       · have htn : t < nT r:=by omega
         have hst:=hsg t htn
         have hst1:=hsg1 t htn
         have hSl : t < SS.length:=by omega
         have hSl1 : t < SO.length:=by omega
         obtain ⟨a1,a2⟩:=hos t htn
         have hb1:=hsb1 t htn
         generalize spF r l t = sp at *
         generalize spF r O t = sq at *
         have hU:=up_keep r a1 a2 (by omega)
         have hD:=dn_keep r a1 a2 (by omega)
         have hfr : fateR r sp = [i64 (upV r sp),i64 (dnV r sp)]:=rfl
         have hfq : fateR r sq = [i64 (upV r sq),i64 (dnV r sq)]:=rfl
         have c1 : decide (sq.1 < sp.1) = false:=decide_eq_false (by omega)
         have c2 : decide (sp.2 < sq.2) = false:=decide_eq_false (by omega)
         refine zx ?_
         try simp only [go_sem]
         refine zq ?_
         refine zd ?_
         refine zq ?_
         refine awp_joinV (n:=314) (fun (_ : Unit) vs=>[(5,.r (.rp (trC r))),(7,.r (.sl 2 (SS.map (fateR r)))),(9,.r (.sl 2 (SS.map spR))),(21,.r (.sl 2 (SO.map spR))),(22,.r (.sl 2 (SO.map (fateR r)))),(23,.r (i64 (t : Int))),(312,.r (.bo false))]) (fun _ vs=>[]) (fun _=>True) (fun _ h=>h) ?_ ?_
         · have hne : ∀ y : Int,(y != y) = false:=fun y=>bne_self_eq_false y
           generalize upV r sp = u at *
           generalize upV r sq = u' at *
           generalize dnV r sp = d at *
           generalize dnV r sq = d' at *
           have hU2 : (u != 1) = false ∨ ((u != 1) = true ∧ u' = u):=by
            by_cases h : u = 1
            · left; simp [h]
            · exact .inr ⟨by simpa using h,hU.resolve_left h⟩
           have hD2 : (d != 1) = false ∨ ((d != 1) = true ∧ d' = d):=by
            by_cases h : d = 1
            · left; simp [h]
            · exact .inr ⟨by simpa using h,hD.resolve_left h⟩
           rcases hU2 with hu | ⟨hu,rfl⟩ <;> rcases hD2 with hd | ⟨hd,rfl⟩
           · skip
             refine zg follows (by decide +kernel) (by kernel_rfl) fun K hK=>?_;simp only [go_sem,List.append_eq,List.cons_append,List.nil_append,hst,hst1,hSl,hSl1,hfr,hfq,c1,c2,hu,hd,hne];refine hK _ ?_;clear hK K
             refine ⟨(),trivial,zj [] ?_ ?_⟩
             · try simp only [go_sem]
             · try simp only [go_sem]
           · skip
             refine zg follows (by decide +kernel) (by kernel_rfl) fun K hK=>?_;simp only [go_sem,List.append_eq,List.cons_append,List.nil_append,hst,hst1,hSl,hSl1,hfr,hfq,c1,c2,hu,hd,hne];refine hK _ ?_;clear hK K
             refine ⟨(),trivial,zj [] ?_ ?_⟩
             · try simp only [go_sem]
             · try simp only [go_sem]
           · skip
             refine zg follows (by decide +kernel) (by kernel_rfl) fun K hK=>?_;simp only [go_sem,List.append_eq,List.cons_append,List.nil_append,hst,hst1,hSl,hSl1,hfr,hfq,c1,c2,hu,hd,hne];refine hK _ ?_;clear hK K
             refine ⟨(),trivial,zj [] ?_ ?_⟩
             · try simp only [go_sem]
             · try simp only [go_sem]
           · skip
             refine zg follows (by decide +kernel) (by kernel_rfl) fun K hK=>?_;simp only [go_sem,List.append_eq,List.cons_append,List.nil_append,hst,hst1,hSl,hSl1,hfr,hfq,c1,c2,hu,hd,hne];refine hK _ ?_;clear hK K
             refine ⟨(),trivial,zj [] ?_ ?_⟩
             · try simp only [go_sem]
             · try simp only [go_sem]
         intro _ vs _
         refine zc rfl (fun hc=>?_) (fun hc=>?_) <;> (try simp only [go_sem] at hc)
         refine zx ?_
         try simp only [go_sem]
         refine zb fun K hK=>?_;simp only [go_sem];(try simp (disch:=omega) only [zI]);refine hK _ ?_;clear hK K
         try simp only [go_sem]
         refine ⟨by omega,zj [] ?_ ?_⟩
         · try simp only [go_sem]
         · try simp only [go_sem]
       · refine zf ?_;simp only [go_sem]
         refine zq ?_
         refine zb fun K hK=>?_;simp only [go_sem]
         refine zh (hkn) rfl (by simp only [go_sem,i64,ints]) (by simp only [go_sem,i64,ints]) (by first | exact .inl rfl | exact .inr rfl) ?_
         (try simp only [go_sem]);refine hK _ ?_;clear hK K;refine zw (zk [4]) ?_;simp only [go_sem];refine ze ?_;simp only [go_sem]
end Go.Proofs.Ytobokbhpeaakjaa

namespace Go.Oc
open Go Go.RowKit Go.ChangeShapes Go.WideShapes
inductive Sh where
 | int (k : IntKind)
 | bool
 | sl (es : List Sh)
def fieldsSh (P : Program) (sh : TypeId → Option (List Sh)) : List Field → Nat → Option (List Sh)
 | [],_=>some []
 | f :: fs, o =>
   match sh f.type with
   | some ss=>if f.offset == o && ss.length == P.cellsOf f.type then match fieldsSh P sh fs (o + ss.length) with | some q=>some (ss ++ q) | none=>none else none
   | none=>none
def shape (P : Program) : Nat → TypeId → Option (List Sh)
 | 0,_=>none
 | n + 1, t =>
   match P.underlying t with
   | some (.int k)=>some [.int k]
   | some .bool=>some [.bool]
   | some (.slice e) =>
     match shape P n e with
     | some ss=>if ss.length == P.cellsOf e && decide (0 < ss.length) then some [.sl ss] else none
     | none=>none
   | some (.array m e) =>
     match shape P n e with
     | some ss=>if ss.length == P.cellsOf e && P.cellsOf t == m * ss.length then some (List.replicate m ss).flatten else none
     | none=>none
   | some (.struct fs) =>
     match fieldsSh P (shape P n) fs.toList 0 with
     | some ss=>if ss.length == P.cellsOf t then some ss else none
     | none=>none
   | _=>none
mutual
def Fits : Sh → RV → Prop
 | .int k,x=>∃ n,x = .it k n ∧ (Lit.int k n).wf = true
 | .bool,x=>∃ b,x = .bo b
 | .sl ss,x=>∃ es,x = .sl ss.length es ∧ FitsE ss es
def FitsL : List Sh → List RV → Prop
 | [],xs=>xs = []
 | s :: ss,xs=>∃ y ys,xs = y :: ys ∧ Fits s y ∧ FitsL ss ys
def FitsE (ss : List Sh) : List (List RV) → Prop
 | []=>True
 | e :: es=>FitsL ss e ∧ FitsE ss es
end
theorem fitsL_append : ∀ {s1 s2 : List Sh} {x1 x2 : List RV},FitsL s1 x1 → FitsL s2 x2 → FitsL (s1 ++ s2) (x1 ++ x2)
 | [],_,_,_,h1,h2=>by simp only [FitsL] at h1; subst h1; simpa using h2
 | s :: ss, s2, x1, x2, h1, h2 => by
   simp only [FitsL] at h1
   obtain ⟨y,ys,rfl,h3,h4⟩:=h1
   simp only [List.cons_append,FitsL];exact ⟨y,_,rfl,h3,fitsL_append h4 h2⟩
theorem fitsL_length : ∀ {ss : List Sh} {xs : List RV},FitsL ss xs → xs.length = ss.length
 | [],_,h=>by simp only [FitsL] at h; subst h; rfl
 | s :: ss, _, h => by
   simp only [FitsL] at h
   obtain ⟨y,ys,rfl,_,h⟩:=h
   simp [fitsL_length h]
theorem fitsE_of : ∀ {ss : List Sh} {es : List (List RV)},(∀ e ∈ es,FitsL ss e) → FitsE ss es
 | _,[],_=>by simp only [FitsE]
 | ss,e :: es,h=>by simp only [FitsE]; exact ⟨h e (by simp),fitsE_of fun x hx=>h x (by simp [hx])⟩
theorem choice {α : Type} {Q : Nat → α → Prop} : ∀ (n : Nat),(∀ i,i < n → ∃ x,Q i x) → ∃ xs : List α,xs.length = n ∧ ∀ i x,xs[i]? = some x → Q i x
 | 0,_=>⟨[],rfl,by simp⟩
 | n + 1, h => by
   obtain ⟨xs,hl,hx⟩:=choice n fun i hi=>h i (by omega)
   obtain ⟨y,hy⟩:=h n (by omega)
   refine ⟨xs ++ [y],by simp [hl],fun i x hi=>?_⟩
   by_cases h1 : i < n
   · rw [List.getElem?_append_left (by omega)] at hi; exact hx i x hi
   · rw [List.getElem?_append_right (by omega)] at hi
     have : i = n:=by have:=(List.getElem?_eq_some_iff.1 hi).1; simp at this; omega
     subst this
     simp [hl] at hi
     exact hi ▸ hy
section
variable {w : World} {P : Program}
theorem cells?_get {base n : Nat} {a : Addr} {cs : List Value} (h : w.cells? base a n = some cs) : cs.length = n ∧ ∀ i,i < n → w.cell? (a.add i) = cs[i]?:=by
 unfold World.cells? at h
 split at h
 · exact ⟨by simpa using mapM_some_length h,fun i hi=>mapM_some_get h i i (by simp [hi])⟩
 · cases h
theorem cell_lt {a : Addr} {v : Value} (h : w.cell? a = some v) : a.block < w.heap.size:=by
 refine Decidable.byContradiction fun hn=>?_
 have : w.heap[a.block]? = none:=by simp; omega
 simp [World.cell?,this] at h
def old (w : World) : Nat → Prop:=fun b=>b < w.heap.size
theorem relC_of_cells {xs : List RV} {cs : List Value} {ad : Addr} (hV : RV.relV w (old w) xs cs) (hone : ∀ u ∈ cs,u.oneCell' = true) (hc : ∀ i,i < cs.length → w.cell? (ad.add i) = cs[i]?) : RV.relC w (old w) xs ad 0:=by
 refine RV.relC_of_get fun i x hx=>?_
 obtain ⟨u,hu,hr⟩:=RV.relV_get hV hx
 have hi:=(List.getElem?_eq_some_iff.1 hu).1
 refine ⟨u,?_,hone u (List.mem_of_getElem? hu),hr⟩
 rw [Nat.zero_add,hc i hi,hu]
variable {H : Type} {enc : TypeId × Value → H} {base : Nat} {spare : Nat → Bool} {held : Bool}
def Good3 (w : World) (ss : List Sh) (cs : List Value) : Prop:=∃ xs,FitsL ss xs ∧ RV.relV w (old w) xs cs ∧ ∀ u ∈ cs,u.oneCell' = true
theorem good3_append {s1 s2 : List Sh} {c1 c2 : List Value} (h1 : Good3 w s1 c1) (h2 : Good3 w s2 c2) : Good3 w (s1 ++ s2) (c1 ++ c2):=by
 obtain ⟨x1,f1,r1,o1⟩:=h1
 obtain ⟨x2,f2,r2,o2⟩:=h2
 refine ⟨x1 ++ x2,fitsL_append f1 f2,RV.relV_append r1 r2,fun u hu=>?_⟩
 rcases List.mem_append.1 hu with hu | hu
 · exact o1 u hu
 · exact o2 u hu
theorem good3_length {ss : List Sh} {cs : List Value} (h : Good3 w ss cs) : cs.length = ss.length:=by
 obtain ⟨xs,f,r,_⟩:=h
 rw [RV.relV_length r,fitsL_length f]
theorem trod_fits : ∀ (fuel n : Nat) (t : TypeId) (cs : List Value) (x : DataW H × List MemPlace) (ss : List Sh),DataW.trod enc P w base spare held fuel t cs = some x → shape P n t = some ss → Good3 w ss cs:=by
 intro fuel
 induction fuel with
 | zero=>intro n t cs x ss h; simp [DataW.trod] at h
 | succ fuel ih =>
   intro n t cs x ss h hs
   cases n with
   | zero=>simp [shape] at hs
   | succ n =>
     unfold shape at hs
     split at hs
     · rename_i k ht
       injection hs with hs; subst hs
       obtain ⟨m,rfl,_,hw⟩:=DataW.trod_int ht h
       exact ⟨[.it k m],by simp only [FitsL,Fits]; exact ⟨_,[],rfl,⟨m,rfl,hw⟩,rfl⟩,by simp only [RV.relV,RV.rel]; exact ⟨_,[],rfl,rfl,rfl⟩,by simp [Value.oneCell']⟩
     · rename_i ht
       injection hs with hs; subst hs
       obtain ⟨b,rfl,_⟩:=DataW.trod_bool ht h
       exact ⟨[.bo b],by simp only [FitsL,Fits]; exact ⟨_,[],rfl,⟨b,rfl⟩,rfl⟩,by simp only [RV.relV,RV.rel]; exact ⟨_,[],rfl,rfl,rfl⟩,by simp [Value.oneCell']⟩
     · rename_i e ht
       split at hs
       · rename_i es hes
         split at hs
         · rename_i hc
           simp only [Bool.and_eq_true,beq_iff_eq,decide_eq_true_eq] at hc
           injection hs with hs; subst hs
           rcases DataW.trod_slice ht h with ⟨rfl,_⟩ | ⟨a,len,cap,elems,rest,m,hm,rfl,_,_,hlc,hcm,hel,hget,_⟩
           · refine ⟨[.sl es.length []],?_,?_,by simp [Value.oneCell']⟩
             · simp only [FitsL,Fits];exact ⟨_,[],rfl,⟨[],rfl,by simp only [FitsE]⟩,rfl⟩
             · simp only [RV.relV,RV.rel];exact ⟨_,[],rfl,⟨none,0,rfl,Nat.le_refl _,Nat.zero_le _,fun h=>absurd rfl h⟩,rfl⟩
           · injection hm with hm; subst hm
             have hall : ∀ i,i < len → ∃ e',FitsL es e' ∧ e'.length = es.length ∧ RV.relC w (old w) e' (a.add (i * es.length)) 0 ∧ a.block < w.heap.size:=fun i hi=>by
              have h1:=hget i hi
              have h2 : i < elems.length:=by omega
              rw [List.getElem?_eq_getElem h2] at h1
              obtain ⟨ci,hci,htr⟩:=Option.bind_eq_some_iff.1 h1
              rw [← hc.1] at hci
              obtain ⟨hl,hcell⟩:=cells?_get hci
              obtain ⟨xs,f,r,o⟩:=ih n e ci _ es htr hes
              refine ⟨xs,f,fitsL_length f,relC_of_cells r o (fun j hj=>hcell j (by omega)),?_⟩
              have h3:=hcell 0 hc.2
              have h4 : 0 < ci.length:=by omega
              rw [List.getElem?_eq_getElem h4] at h3
              have:=cell_lt h3
              rwa [block_add,block_add] at this
             obtain ⟨els,hlen,hels⟩:=choice len hall
             refine ⟨[.sl es.length els],?_,?_,by simp [Value.oneCell']⟩
             · simp only [FitsL,Fits]
               refine ⟨_,[],rfl,⟨els,rfl,fitsE_of fun e' he'=>?_⟩,rfl⟩
               obtain ⟨i,hi⟩:=List.getElem?_of_mem he'
               exact (hels i e' hi).1
             · simp only [RV.relV,RV.rel]
               refine ⟨_,[],rfl,⟨some a,cap,by rw [hlen],by omega,hcm,fun hne=>?_⟩,rfl⟩
               obtain ⟨e0,he0⟩ : ∃ e0,els[0]? = some e0:=by
                cases els with
                | nil=>exact absurd rfl hne
                | cons a l=>exact ⟨a,rfl⟩
               refine ⟨a,rfl,(hels 0 e0 he0).2.2.2,RV.relE_of_get fun i e' he'=>?_⟩
               obtain ⟨_,q1,q2,_⟩:=hels i e' he'
               exact ⟨q1,RV.relC_unbase _ q2⟩
         · cases hs
       · cases hs
     · rename_i m e ht
       split at hs
       · rename_i es hes
         split at hs
         · rename_i hc
           simp only [Bool.and_eq_true,beq_iff_eq] at hc
           injection hs with hs; subst hs
           obtain ⟨xs,fm,hm,_,hcl,hxl,hget⟩:=DataW.trod_array ht h
           injection hm with hm; subst hm
           have key : ∀ j,j ≤ m → Good3 w (List.replicate j es).flatten (cs.take (j * es.length)):=by
            intro j
            induction j with
            | zero=>intro _; exact ⟨[],by simp [FitsL],by simp [RV.relV],by simp⟩
            | succ j ihj =>
              intro hj
              have h1:=hget j (by omega)
              have h2 : j < xs.length:=by omega
              rw [List.getElem?_eq_getElem h2,← hc.1] at h1
              have h3:=ih n e _ _ es h1 hes
              have:=good3_append (ihj (by omega)) h3
              rw [← List.take_add] at this
              rw [List.replicate_succ',List.flatten_append,Nat.add_mul]
              simpa using this
           have:=key m (Nat.le_refl _)
           rwa [← hc.2,← hcl,List.take_length] at this
         · cases hs
       · cases hs
     · rename_i fs ht
       split at hs
       · rename_i q hq
         split at hs
         · rename_i hc
           simp only [beq_iff_eq] at hc
           injection hs with hs; subst hs
           obtain ⟨xs,fm,hm,_,hcl,hxl,hget⟩:=DataW.trod_struct ht h
           injection hm with hm; subst hm
           have key : ∀ (l : List Field) (o : Nat) (q : List Sh),(∀ f ∈ l,∃ y,DataW.trod enc P w base spare held fuel f.type ((cs.drop f.offset).take (P.cellsOf f.type)) = some y) → fieldsSh P (shape P n) l o = some q → Good3 w q ((cs.drop o).take q.length):=by
            intro l
            induction l with
            | nil =>
              intro o q _ hq
              simp only [fieldsSh,Option.some.injEq] at hq
              subst hq
              exact ⟨[],by simp [FitsL],by simp [RV.relV],by simp⟩
            | cons f l ihl =>
              intro o q hall hq
              simp only [fieldsSh] at hq
              split at hq
              · rename_i s1 hs1
                split at hq
                · rename_i hc1
                  simp only [Bool.and_eq_true,beq_iff_eq] at hc1
                  split at hq
                  · rename_i q2 hq2
                    injection hq with hq; subst hq
                    obtain ⟨y,hy⟩:=hall f (by simp)
                    have g1:=ih n f.type _ _ s1 hy hs1
                    have g2:=ihl (o + s1.length) q2 (fun f' hf'=>hall f' (by simp [hf'])) hq2
                    rw [hc1.1,← hc1.2] at g1
                    have:=good3_append g1 g2
                    rw [← List.drop_drop,← List.take_add] at this
                    simpa using this
                  · cases hq
                · cases hq
              · cases hq
           have:=key fs.toList 0 q (fun f hf=>by
            obtain ⟨i,hi⟩:=List.getElem?_of_mem hf
            have hi' : fs[i]? = some f:=by simpa using hi
            have h1:=hget i f hi'
            have h2 : i < xs.length:=by have:=(Array.getElem?_eq_some_iff.1 hi').1; omega
            exact ⟨xs[i],by rw [h1]; exact List.getElem?_eq_getElem h2⟩) hq
           rwa [List.drop_zero,hc,← hcl,List.take_length] at this
         · cases hs
       · cases hs
     · cases hs
def FitsT (P : Program) (n : Nat) (t : TypeId) (x : RV) : Prop:=∃ ss,shape P n t = some ss ∧ if aggOf P t then ∃ xs,x = .ag xs ∧ FitsL ss xs else FitsL ss [x]
theorem arg_fits {n : Nat} {t : TypeId} {v : Value} {d : DataW H} {ps : List MemPlace} {r : Reach} {b0 : Nat} (hs : (shape P n t).isSome = true) (hval : Value.okWide P w r b0 t v) (h : DataW.Trod enc P w base spare held t v d ps) :
 ∃ x,FitsT P n t x ∧ x.rel w (old w) v:=by
 obtain ⟨ss,hss⟩:=Option.isSome_iff_exists.1 hs
 obtain ⟨fuel,hf⟩:=h
 obtain ⟨xs,f,r,o⟩:=trod_fits fuel n t _ _ ss hf hss
 have one : aggOf P t = false → v.cells.toList = [v] → ∃ x,FitsT P n t x ∧ x.rel w (old w) v:=fun ha hc=>by
  rw [hc] at r
  match xs,r with
  | [x], r =>
    simp only [RV.relV] at r
    obtain ⟨u,us,e,hr,_⟩:=r
    injection e with e1 e2
    subst e1
    exact ⟨x,⟨ss,hss,by rw [ha]; exact f⟩,hr⟩
  | [],r=>simp [RV.relV] at r
  | _ :: _ :: _, r =>
    simp only [RV.relV] at r
    obtain ⟨u,us,e,_,u2,us2,e2,_⟩:=r
    injection e with _ e
    rw [e2] at e; cases e
 cases n with
 | zero=>simp [shape] at hss
 | succ n =>
   have hss':=hss
   unfold shape at hss'
   split at hss'
   · rename_i k ht
     obtain ⟨m,rfl⟩:=okWide_int ht hval
     exact one (by simp [aggOf,ht]) rfl
   · rename_i ht
     obtain ⟨b,rfl⟩:=okWide_bool ht hval
     exact one (by simp [aggOf,ht]) rfl
   · rename_i e ht
     obtain ⟨a,l,c,rfl⟩:=okWide_slice ht hval
     exact one (by simp [aggOf,ht]) rfl
   · rename_i m e ht
     obtain ⟨cs,rfl⟩ : ∃ cs,v = .agg cs:=by
      simp only [Value.okWide,ht] at hval
      obtain ⟨cs,h1,_⟩:=hval
      exact ⟨cs,h1⟩
     exact ⟨.ag xs,⟨ss,hss,by simp only [aggOf,ht,if_true]; exact ⟨xs,rfl,f⟩⟩,by simp only [RV.rel]; exact ⟨cs,rfl,o,r⟩⟩
   · rename_i fs ht
     obtain ⟨cs,rfl,_⟩:=okWide_struct ht hval
     exact ⟨.ag xs,⟨ss,hss,by simp only [aggOf,ht,if_true]; exact ⟨xs,rfl,f⟩⟩,by simp only [RV.rel]; exact ⟨cs,rfl,o,r⟩⟩
   · cases hss'
theorem wf_i64 {n : Int} (h : (Lit.int .i64 n).wf = true) : -9223372036854775808 ≤ n ∧ n ≤ 9223372036854775807:=by
 simp only [Lit.wf,Bool.and_eq_true,decide_eq_true_eq] at h
 have h1 : IntKind.min .i64 = -9223372036854775808:=by decide
 have h2 : IntKind.max .i64 = 9223372036854775807:=by decide
 rw [h1,h2] at h
 exact h
theorem fitsE_ints : ∀ {es : List (List RV)},FitsE [.int .i64] es → ∃ l : List Int,es = l.map (fun x=>[.it .i64 x]) ∧ ∀ x ∈ l,-9223372036854775808 ≤ x ∧ x ≤ 9223372036854775807
 | [],_=>⟨[],rfl,by simp⟩
 | e :: es, h => by
   simp only [FitsE,FitsL,Fits] at h
   obtain ⟨⟨y,ys,rfl,⟨n,rfl,hn⟩,rfl⟩,h⟩:=h
   obtain ⟨l,rfl,hl⟩:=fitsE_ints h
   refine ⟨n :: l,rfl,fun x hx=>?_⟩
   rcases List.mem_cons.1 hx with rfl | hx
   · exact wf_i64 hn
   · exact hl x hx
theorem fitsT_ag {n : Nat} {t : TypeId} {x : RV} {ss : List Sh} (h : FitsT P n t x) (hs : shape P n t = some ss) (ha : aggOf P t = true) : ∃ xs,x = .ag xs ∧ FitsL ss xs:=by
 obtain ⟨s',h1,h2⟩:=h
 rw [hs] at h1; injection h1 with h1; subst h1
 rw [ha] at h2
 exact h2
theorem fitsT_one {n : Nat} {t : TypeId} {x : RV} {s : Sh} (h : FitsT P n t x) (hs : shape P n t = some [s]) (ha : aggOf P t = false) : Fits s x:=by
 obtain ⟨s',h1,h2⟩:=h
 rw [hs] at h1; injection h1 with h1; subst h1
 rw [ha] at h2
 simp only [Bool.false_eq_true,if_false,FitsL] at h2
 obtain ⟨y,ys,e,h3,_⟩:=h2
 injection e with e1 e2
 subst e1
 exact h3
theorem fitsT_int {n : Nat} {t : TypeId} {x : RV} (h : FitsT P n t x) (hs : shape P n t = some [.int .i64]) (ha : aggOf P t = false) : ∃ m,x = .it .i64 m ∧ -9223372036854775808 ≤ m ∧ m ≤ 9223372036854775807:=by
 have:=fitsT_one h hs ha
 simp only [Fits] at this
 obtain ⟨m,h1,h2⟩:=this
 exact ⟨m,h1,wf_i64 h2⟩
theorem fitsT_ints {n : Nat} {t : TypeId} {x : RV} (h : FitsT P n t x) (hs : shape P n t = some [.sl [.int .i64]]) (ha : aggOf P t = false) : ∃ l : List Int,x = .sl 1 (l.map (fun x=>[.it .i64 x])) ∧ ∀ x ∈ l,-9223372036854775808 ≤ x ∧ x ≤ 9223372036854775807:=by
 have:=fitsT_one h hs ha
 simp only [Fits] at this
 obtain ⟨es,h1,h2⟩:=this
 obtain ⟨l,rfl,hl⟩:=fitsE_ints h2
 exact ⟨l,h1,hl⟩
end
end Go.Oc

namespace Go.Proofs.Ytobokbhpeaakjaa
open Go Go.Oc
theorem wfb {n : Int} (h : (Lit.int .u8 n).wf = true) : ∃ k : Nat,n = k ∧ k < 256:=by
 simp only [Lit.wf,Bool.and_eq_true,decide_eq_true_eq] at h
 have h1 : IntKind.min .u8 = 0:=by decide
 have h2 : IntKind.max .u8 = 255:=by decide
 rw [h1,h2] at h
 obtain ⟨k,hk⟩:=Int.eq_ofNat_of_zero_le h.1
 exact ⟨k,hk,by omega⟩
theorem fitsE_by : ∀ {es : List (List RV)},FitsE [.int .u8] es → ∃ l : List Nat,es = l.map (fun n=>[u8 n]) ∧ ∀ n ∈ l,n < 256
 | [],_=>⟨[],rfl,by simp⟩
 | e :: es, h => by
   simp only [Oc.FitsE,Oc.FitsL,Oc.Fits] at h
   obtain ⟨⟨_,_,rfl,⟨a,rfl,ha⟩,rfl⟩,h⟩:=h
   obtain ⟨l,rfl,hl⟩:=fitsE_by h
   obtain ⟨k,rfl,kk⟩:=wfb ha
   refine ⟨k :: l,rfl,fun x hx=>?_⟩
   rcases List.mem_cons.1 hx with rfl | hx
   · exact kk
   · exact hl x hx
theorem fitsE_by3 : ∀ {es : List (List RV)},FitsE [.int .u8,.int .u8,.int .u8] es → ∃ l : List (Nat × Nat × Nat),es = l.map m3R ∧ ∀ v ∈ l,v.1 < 256 ∧ v.2.1 < 256 ∧ v.2.2 < 256
 | [],_=>⟨[],rfl,by simp⟩
 | e :: es, h => by
   simp only [Oc.FitsE,Oc.FitsL,Oc.Fits] at h
   obtain ⟨⟨_,_,rfl,⟨a,rfl,ha⟩,_,_,rfl,⟨b,rfl,hb⟩,_,_,rfl,⟨c,rfl,hc⟩,rfl⟩,h⟩:=h
   obtain ⟨l,rfl,hl⟩:=fitsE_by3 h
   obtain ⟨a,rfl,ka⟩:=wfb ha
   obtain ⟨b,rfl,kb⟩:=wfb hb
   obtain ⟨c,rfl,kc⟩:=wfb hc
   refine ⟨(a,b,c) :: l,rfl,fun x hx=>?_⟩
   rcases List.mem_cons.1 hx with rfl | hx
   · exact ⟨ka,kb,kc⟩
   · exact hl x hx
theorem fits66 {x : RV} (h : FitsT Try.prog 9 66 x) : ∃ r : Sm,x = smV r ∧ WfS r:=by
 obtain ⟨xs,rfl,hx⟩:=fitsT_ag (ss:=[.int .u8,.int .u8,.int .u8,.int .u8,.int .u8,.int .u8,.sl [.int .u8],.sl [.int .u8,.int .u8,.int .u8],.int .u8]) h (by kernel_rfl) (by kernel_rfl)
 simp only [Oc.FitsL,Oc.Fits] at hx
 obtain ⟨_,_,rfl,⟨a,rfl,ha⟩,_,_,rfl,⟨b,rfl,hb⟩,_,_,rfl,⟨c,rfl,hc⟩,_,_,rfl,⟨d,rfl,hd⟩,_,_,rfl,⟨u,rfl,hu⟩,_,_,rfl,⟨w,rfl,hw⟩,_,_,rfl,⟨es,rfl,hes⟩,_,_,rfl,⟨fs,rfl,hfs⟩,_,_,rfl,⟨q,rfl,hq⟩,rfl⟩:=hx
 obtain ⟨a,rfl,ka⟩:=wfb ha
 obtain ⟨b,rfl,kb⟩:=wfb hb
 obtain ⟨c,rfl,kc⟩:=wfb hc
 obtain ⟨d,rfl,kd⟩:=wfb hd
 obtain ⟨u,rfl,ku⟩:=wfb hu
 obtain ⟨w,rfl,kw⟩:=wfb hw
 obtain ⟨q,rfl,kq⟩:=wfb hq
 obtain ⟨l,rfl,hl⟩:=fitsE_by hes
 obtain ⟨m,rfl,hm⟩:=fitsE_by3 hfs
 exact ⟨⟨a,b,c,d,u,w,l,m,q⟩,rfl,⟨ka,kb,kc,kd,ku,kw,hl,hm,kq⟩⟩
theorem fits5 {x : RV} (h : FitsT Try.prog 9 5 x) : ∃ n : Nat,x = u8 n ∧ n < 256:=by
 have:=fitsT_one (s:=.int .u8) h (by kernel_rfl) (by kernel_rfl)
 simp only [Oc.Fits] at this
 obtain ⟨m,rfl,hm⟩:=this
 obtain ⟨k,rfl,kk⟩:=wfb hm
 exact ⟨k,rfl,kk⟩
theorem fits63 {x : RV} (h : FitsT Try.prog 9 63 x) : ∃ l : List Nat,x = bytesR l ∧ ∀ n ∈ l,n < 256:=by
 have:=fitsT_one (s:=.sl [.int .u8]) h (by kernel_rfl) (by kernel_rfl)
 simp only [Oc.Fits] at this
 obtain ⟨es,rfl,hes⟩:=this
 obtain ⟨l,rfl,hl⟩:=fitsE_by hes
 exact ⟨l,rfl,hl⟩
theorem fits81 {x : RV} (h : FitsT Try.prog 9 81 x) : ∃ a b : Nat,x = .ag [u8 a,u8 b] ∧ a < 256 ∧ b < 256:=by
 obtain ⟨xs,rfl,hx⟩:=fitsT_ag (ss:=[.int .u8,.int .u8]) h (by kernel_rfl) (by kernel_rfl)
 simp only [Oc.FitsL,Oc.Fits] at hx
 obtain ⟨_,_,rfl,⟨a,rfl,ha⟩,_,_,rfl,⟨b,rfl,hb⟩,rfl⟩:=hx
 obtain ⟨a,rfl,ka⟩:=wfb ha
 obtain ⟨b,rfl,kb⟩:=wfb hb
 exact ⟨a,b,rfl,ka,kb⟩
end Go.Proofs.Ytobokbhpeaakjaa

namespace Go.Oc
open Go Go.RowKit
theorem wf_u8 {n : Int} (h : (Lit.int .u8 n).wf = true) : 0 ≤ n ∧ n ≤ 255:=by
 simp only [Lit.wf,Bool.and_eq_true,decide_eq_true_eq] at h
 have h1 : IntKind.min .u8 = 0:=by decide
 have h2 : IntKind.max .u8 = 255:=by decide
 rw [h1,h2] at h
 exact h
theorem wf_u16 {n : Int} (h : (Lit.int .u16 n).wf = true) : 0 ≤ n ∧ n ≤ 65535:=by
 simp only [Lit.wf,Bool.and_eq_true,decide_eq_true_eq] at h
 have h1 : IntKind.min .u16 = 0:=by decide
 have h2 : IntKind.max .u16 = 65535:=by decide
 rw [h1,h2] at h
 exact h
theorem wf_u32 {n : Int} (h : (Lit.int .u32 n).wf = true) : 0 ≤ n ∧ n ≤ 4294967295:=by
 simp only [Lit.wf,Bool.and_eq_true,decide_eq_true_eq] at h
 have h1 : IntKind.min .u32 = 0:=by decide
 have h2 : IntKind.max .u32 = 4294967295:=by decide
 rw [h1,h2] at h
 exact h
theorem fitsE_u8 : ∀ {es : List (List RV)},FitsE [.int .u8] es → ∃ l : List Int,es = l.map (fun x=>[.it .u8 x]) ∧ ∀ x ∈ l,0 ≤ x ∧ x ≤ 255
 | [],_=>⟨[],rfl,by simp⟩
 | e :: es, h => by
   simp only [FitsE,FitsL,Fits] at h
   obtain ⟨⟨y,ys,rfl,⟨n,rfl,hn⟩,rfl⟩,h⟩:=h
   obtain ⟨l,rfl,hl⟩:=fitsE_u8 h
   refine ⟨n :: l,rfl,fun x hx=>?_⟩
   rcases List.mem_cons.1 hx with rfl | hx
   · exact wf_u8 hn
   · exact hl x hx
theorem fitsE_u16 : ∀ {es : List (List RV)},FitsE [.int .u16] es → ∃ l : List Int,es = l.map (fun x=>[.it .u16 x]) ∧ ∀ x ∈ l,0 ≤ x ∧ x ≤ 65535
 | [],_=>⟨[],rfl,by simp⟩
 | e :: es, h => by
   simp only [FitsE,FitsL,Fits] at h
   obtain ⟨⟨y,ys,rfl,⟨n,rfl,hn⟩,rfl⟩,h⟩:=h
   obtain ⟨l,rfl,hl⟩:=fitsE_u16 h
   refine ⟨n :: l,rfl,fun x hx=>?_⟩
   rcases List.mem_cons.1 hx with rfl | hx
   · exact wf_u16 hn
   · exact hl x hx
end Go.Oc

namespace Go.Proofs.Ytobokbhpeaakjaa
open Go Go.Oc
theorem law10' {x0 x1 : RV} (h0 : FitsT Try.prog 9 66 x0) (h1 : FitsT Try.prog 9 63 x1) : ACalls Try.prog 10 [x0,x1] (.bo true):=by
 obtain ⟨x,rfl,hx⟩:=fits66 h0
 obtain ⟨b,rfl,hb⟩:=fits63 h1
 exact sure_law x hx b hb
end Go.Proofs.Ytobokbhpeaakjaa


namespace Go.Proofs.Ytobokbhpeaakjaa
open Go Go.Oc Go.ChangeShapes Go.WideShapes Go.RowKit
set_option linter.unusedVariables false
theorem own : ownKnob Try.prog.godebug = none := by kernel_rfl
theorem laidOut : laidOutB Try.prog = true := by kernel_rfl
set_option maxRecDepth 100000 in
theorem lifted (os : Os) (started : os.Started) (H : Type) (enc : TypeId × Value → H) :
    ReturnsInHanded {} Try.checked os 10 .any (Rows.tableSureSpec.pre6 enc Try.prog Try.f10 Rows.tableSureRow.domain false) (Rows.tableSureSpec.post enc Try.prog Try.f10 false true false false) := by
  refine returnsInHanded_of_change (C := Try.checked) own started (by kernel_rfl) Try.func10
    (ChangeSpec.witness6 (enc := enc) (C := Try.checked) false ⟨#[], #[.agg #[.int .u8 0, .int .u8 0, .int .u8 0, .int .u8 0, .int .u8 0, .int .u8 0, .slice none 0 0, .slice none 0 0, .int .u8 0], .slice none 0 0], []⟩ 8 (by kernel_rfl) (by kernel_rfl) (by kernel_rfl) (by kernel_rfl)) ?_
  intro W base args ds gs before hval0 hW hcnd _
  have hval : ∀ (j : Nat) t v, Try.f10.params[j]? = some t → args[j]? = some v → Value.okWide Try.prog W .any base t v := hval0
  have hW' := hW
  obtain ⟨p, q, hA0, hV, rfl, hfz, hnd⟩ := hW
  have hA : DataW.TrodAll enc Try.prog W 0 (fun _ => true) true Try.f10.params.toList args.toList ds p := hA0
  rw [Try.params10] at hA hval
  obtain ⟨v0, vs0, d0, ds0, p0, q0, hargs, rfl, rfl, h0, r0⟩ := trodAll_cons hA
  obtain ⟨v1, vs1, d1, ds1, p1, q1, rfl, rfl, rfl, h1, r1⟩ := trodAll_cons r0
  obtain ⟨rfl, rfl, rfl⟩ := trodAll_nil r1
  obtain rfl : args = #[v0, v1] := by cases args; simp_all
  obtain ⟨rfl, rfl⟩ := trodVars_none hV
  have lt0 : ∀ x ∈ p0, x.block < W.heap.size := by obtain ⟨m, hm⟩ := h0; exact DataW.trod_lt m _ _ _ hm
  have lt1 : ∀ x ∈ p1, x.block < W.heap.size := by obtain ⟨m, hm⟩ := h1; exact DataW.trod_lt m _ _ _ hm
  obtain ⟨x0, g0, e0⟩ := arg_fits (n := 9) (by kernel_rfl) (hval 0 66 v0 rfl rfl) h0
  obtain ⟨x1, g1, e1⟩ := arg_fits (n := 9) (by kernel_rfl) (hval 1 63 v1 rfl rfl) h1
  clear hA0 hval0
  refine ((law10' g0 g1).2 W (old W) #[v0, v1] (fun _ h => h) (by simp only [RV.relV]; exact ⟨_, _, rfl, e0, _, _, rfl, e1, rfl⟩)).mono fun e W' he => ?_
  obtain ⟨v, R', rfl, bel, _, _, _, hr⟩ := he
  simp only [RV.rel] at hr
  subst hr
  exact ⟨_, rfl, _, _, _, [], _, [], hW', trodAll_mk1 (shut_bool Try.underlying4 _), (trodAll_cons_mk (Below.trod laidOut (by kernel_rfl) (of_decide_eq_true (by kernel_rfl)) h0 bel lt0) (trodAll_cons_mk (Below.trod laidOut (by kernel_rfl) (of_decide_eq_true (by kernel_rfl)) h1 bel lt1) trodAll_mk0)), rfl, bel.frame _, fun h => by cases h⟩
theorem over : Rows.tableSureRow.holds Try.pinned (OpenSpec.ofChange Rows.tableSureSpec) :=
  OpenClaim.holds_of_wide 10 Try.f10 rfl rfl rfl rfl rfl rfl rfl ⟨rfl, rfl, rfl, rfl, rfl⟩ rfl rfl rfl rfl rfl (by kernel_rfl) Try.func10 (by kernel_rfl)
    (of_decide_eq_true (by kernel_rfl)) (by unfold Func.isWrapper; first | (rw [if_pos (by decide +kernel)]; kernel_rfl) | (rw [if_neg (by decide +kernel)]; exact ⟨rfl, rfl⟩))
    (fun os started H enc _ => lifted os started H enc)
theorem tableSure_holds : Rows.TableSureSaid := over
#print axioms tableSure_holds
end Go.Proofs.Ytobokbhpeaakjaa

/- For all seasons, numbers of teams, and once or twice, the given function TableNights returns true: all matches of a season, or the error, and the clashes of any nights, or the error, are what the document says, and the nights are not changed. No conditions beyond those of the given statement. -/
import Derived.Test.YtobokbhpeaakjaaVI10
import Derived.Test.YtobokbhpeaakjaaVI9
import Derived.Test.YtobokbhpeaakjaaVI5
import Derived.ChangeShapes
import Derived.WideShapes
import Derived.OpenShut
import Derived.ShutString
import Derived.ChangeOld
import Derived.Carry
import Derived.Below
import Derived.Test.YtobokbhpeaakjaaRows
import Derived.JoinedOf
namespace Go.Proofs.Ytobokbhpeaakjaa
open Go Go.Oc
set_option linter.unusedSimpArgs false
set_option linter.unusedVariables false
set_option maxRecDepth 8000
set_option maxHeartbeats 4000000
theorem inc_case (M : List (Int × Int)) (k : Int) : (findK (i64 k) (M.map encI) 0 = some none ∧ getM M k = 0 ∧ (incM M k).map encI = M.map encI ++ [(i64 k,i64 1)]) ∨
 ∃ j,findK (i64 k) (M.map encI) 0 = some (some (j,i64 (getM M k))) ∧ (incM M k).map encI = (M.map encI).set j (i64 k,i64 (getM M k + 1)):=by
 rcases findI k M 0 with ⟨h1,h2,h3⟩ | ⟨j,h1,h2,h3⟩
 · exact .inl ⟨h1,h2,by rw [h3,List.map_append]; rfl⟩
 · rw [Nat.zero_add] at h1
   exact .inr ⟨j,h1,by rw [h2,List.map_set]⟩
theorem inc_le {M : List (Int × Int)} {B : Int} (h : ∀ z,0 ≤ getM M z ∧ getM M z ≤ B) (k z : Int) : 0 ≤ getM (incM M k) z ∧ getM (incM M k) z ≤ B + 1:=by
 have:=h z
 rw [getM_inc]; unfold b1; split <;> omega
theorem clashes_bad {N : List (List Mt)} {v b : List Int} (h : nightErr N v b ≠ 0) : ACalls Try.prog 46 [nightsR N,ints v,ints b] (.tu [.ns,i64 (nightErr N v b)]):=by
 have hch:=checkNights_ok N v b
 have hb : (nightErr N v b != 0) = true:=by simpa using h
 refine acalls_st (rs:=[.ns,i64 (nightErr N v b)]) [.tmp 6,.tmp 7] Try.func46 rfl (by kernel_rfl) Try.ntmps46 rfl (by simp) rfl fun C vs=>?_
 refine zq ?_
 refine zb fun K hK=>?_;simp only [go_sem];refine hK _ ?_;clear hK K;refine zw (zk [0,1,2,6]) ?_;simp only [go_sem]
 repeat refine zq ?_
 refine zb fun K hK=>?_;simp only [go_sem]
 refine zh (hch) rfl (by simp only [go_sem,i64,ints]) (by simp only [go_sem,i64,ints]) (by first | exact .inl rfl | exact .inr rfl) ?_
 (try simp only [go_sem]);refine hK _ ?_;clear hK K;refine zw (zk [0,1,2,6,8]) ?_;simp only [go_sem]
 refine zq ?_
 refine zb fun K hK=>?_;simp only [go_sem,hb];refine hK _ ?_;clear hK K;refine zw (zk [0,1,2,6,8,23]) ?_;simp only [go_sem]
 refine zc rfl (fun hc=>?_) (fun hc=>?_) <;> (try simp only [go_sem] at hc)
 refine zq ?_
 refine zb fun K hK=>?_;simp only [go_sem];refine hK _ ?_;clear hK K;refine zw (zk [6,7]) ?_;simp only [go_sem];refine ze ?_;simp only [go_sem]
theorem clashes_good {N : List (List Mt)} {v b : List Int} (h : nightErr N v b = 0) : ACalls Try.prog 46 [nightsR N,ints v,ints b] (.tu [.sl 3 ((clN N v b N.length).map clR),i64 0]):=by
 have hch:=checkNights_ok N v b
 rw [h] at hch
 obtain ⟨g1,g2,g3,g4,g5,g6,g7⟩:=night_good h
 have hz : ((0 : Int) != 0) = false:=rfl
 refine acalls_st (rs:=[.sl 3 ((clN N v b N.length).map clR),i64 0]) [.tmp 6,.tmp 7] Try.func46 rfl (by kernel_rfl) Try.ntmps46 rfl (by simp) rfl fun C vs=>?_
 refine zq ?_
 refine zb fun K hK=>?_;simp only [go_sem];refine hK _ ?_;clear hK K;refine zw (zk [0,1,2,6]) ?_;simp only [go_sem]
 repeat refine zq ?_
 refine zb fun K hK=>?_;simp only [go_sem]
 refine zh (hch) rfl (by simp only [go_sem,i64,ints]) (by simp only [go_sem,i64,ints]) (by first | exact .inl rfl | exact .inr rfl) ?_
 (try simp only [go_sem]);refine hK _ ?_;clear hK K;refine zw (zk [0,1,2,6,8]) ?_;simp only [go_sem]
 refine zq ?_
 refine zb fun K hK=>?_;simp only [go_sem,hz];refine hK _ ?_;clear hK K;refine zw (zk [0,1,2,6,8,23]) ?_;simp only [go_sem]
 refine zc rfl (fun hc=>?_) (fun hc=>?_) <;> (try simp only [go_sem] at hc)
 refine zx ?_
 try simp only [go_sem]
 refine zw (sub_own 6 73 105 3 (by omega) rfl) ?_
 repeat refine zq ?_
 refine zb fun K hK=>?_;simp only [go_sem]
 intro _
 refine hK _ ?_;clear hK K;refine zw (zk [1,2,6,25,26,27]) ?_;simp only [go_sem];refine zd ?_
 refine awp_uptoV (n:=96) N.length (fun i vs=>[(1,.r (ints v)),(2,.r (ints b)),(6,.os 73 (vs 73) 3 0 (clN N v b i).length),(25,.r (nightsR N)),(26,.r (i64 (N.length : Int))),(27,.r (i64 (i : Int)))])
  (fun i vs=>[(73,.arr 105 3 ((clN N v b i).map clR))]) (fun i=>(clN N v b i).length ≤ 20 * i) 0 (zj [] ?_ ?_) (Nat.zero_le _) (by simp [clN]) ?_
 · try simp only [go_sem]
   try rfl
 · try simp only [go_sem]
   try rfl
 · intro i vs hi hI
   refine zq ?_
   refine zb fun K hK=>?_;simp only [go_sem];refine hK _ ?_;clear hK K;refine zw (zk [1,2,6,25,26,27,28]) ?_;simp only [go_sem]
   refine zq ?_
   refine zc rfl (fun hc=>?_) (fun hc=>?_) <;> (try simp only [go_sem] at hc)
   · have hil : i < N.length:=by omega
     obtain ⟨l,hl⟩:=opt_of_lt hil
     have hll:=g2 l (mem_of_opt hl)
     have hms:=g7 l (mem_of_opt hl)
     have hsu:=clN_succ (v:=v) (b:=b) hl
     have hTl:=clT_len l i
     have hBl:=clB_len v b l i
     rw [hsu]
     generalize clN N v b i = C at *
     refine zx ?_
     try simp only [go_sem]
     refine zq ?_
     refine zd ?_
     refine zq ?_
     refine zb fun K hK=>?_;simp only [go_sem,hl,hil];refine hK _ ?_;clear hK K;refine zw (zk [1,2,6,9,10,25,26,27]) ?_;simp only [go_sem]
     refine zq ?_
     refine zb fun K hK=>?_;simp only [go_sem];refine hK _ ?_;clear hK K;refine zw (zk [1,2,6,9,10,11,12,25,26,27]) ?_;simp only [go_sem]
     repeat refine zq ?_
     refine zb fun K hK=>?_;simp only [go_sem]
     intro _
     refine hK _ ?_;clear hK K;refine zw (zk [1,2,6,9,10,11,12,25,26,27,34,35,36]) ?_;simp only [go_sem];refine zd ?_
     refine awp_uptoV (n:=96) l.length (fun j vs=>[(1,.r (ints v)),(2,.r (ints b)),(6,.os 73 (vs 73) 3 0 C.length),(9,.r (i64 (i : Int))),(11,.mp 32 (vs 32)),(12,.mp 33 (vs 33)),(25,.r (nightsR N)),(26,.r (i64 (N.length : Int))),(27,.r (i64 (i : Int))),(34,.r (mtsR l)),(35,.r (i64 (l.length : Int))),(36,.r (i64 (j : Int)))])
      (fun j vs=>[(32,.mp ((tmM (l.take j)).map encI)),(33,.mp ((vnM v (l.take j)).map encI)),(73,.arr 105 3 (C.map clR))]) (fun _=>True) 0 (zj [] ?_ ?_) (Nat.zero_le _) trivial ?_
     · try simp only [go_sem]
       try rfl
     · try simp only [go_sem]
       try rfl
     · intro j vs hj _
       refine zq ?_
       refine zb fun K hK=>?_;simp only [go_sem];refine hK _ ?_;clear hK K;refine zw (zk [1,2,6,9,11,12,25,26,27,34,35,36,37]) ?_;simp only [go_sem]
       refine zq ?_
       refine zc rfl (fun hc=>?_) (fun hc=>?_) <;> (try simp only [go_sem] at hc)
       · have hjl : j < l.length:=by omega
         obtain ⟨m,hm⟩:=opt_of_lt hjl
         obtain ⟨m1,m2,m3⟩:=hms m (mem_of_opt hm)
         obtain ⟨h,hh⟩:=Int.eq_ofNat_of_zero_le m1.1
         have hvl : h < v.length:=by omega
         obtain ⟨w,hw⟩:=opt_of_lt hvl
         have hwg : v.getD m.h.toNat 0 = w:=by rw [hh,Int.toNat_natCast,List.getD_eq_getElem?_getD,hw]; rfl
         have hts:=tmM_snoc (l.take j) m
         have hvs:=vnM_snoc v (l.take j) m
         rw [← take_of_opt hm] at hts hvs
         rw [hwg] at hvs
         have hb0 : ∀ z,0 ≤ getM (tmM (l.take j)) z ∧ getM (tmM (l.take j)) z ≤ 400:=fun z=>by
          rw [tmM_get]; have:=cntT_le (l.take j) z; rw [List.length_take] at this; omega
         have hb1:=inc_le hb0 m.h
         have hb2 : ∀ z,0 ≤ getM (vnM v (l.take j)) z ∧ getM (vnM v (l.take j)) z ≤ 400:=fun z=>by
          rw [vnM_get]; have:=cntV_le v (l.take j) z; rw [List.length_take] at this; omega
         rw [hts,hvs]
         generalize tmM (l.take j) = A at *
         generalize vnM v (l.take j) = D at *
         refine zx ?_
         try simp only [go_sem]
         refine zq ?_
         refine zd ?_
         refine zq ?_
         refine zb fun K hK=>?_;simp only [go_sem,hm,hjl];refine hK _ ?_;clear hK K;refine zw (sub_frzP 14 14 (mtR m) (by omega) rfl rfl) ?_;refine zw (zk [1,2,6,9,11,12,25,26,27,34,35,36,14]) ?_;simp only [go_sem]
         refine zq ?_
         refine awp_joinV (n:=96) (fun (_ : Unit) vs=>[(1,.r (ints v)),(2,.r (ints b)),(6,.os 73 (vs 73) 3 0 C.length),(9,.r (i64 (i : Int))),(11,.mp 32 (vs 32)),(12,.mp 33 (vs 33)),(25,.r (nightsR N)),(26,.r (i64 (N.length : Int))),(27,.r (i64 (i : Int))),(34,.r (mtsR l)),(35,.r (i64 (l.length : Int))),(36,.r (i64 (j : Int))),(14,.r (.rp (mtR m)))]) (fun _ vs=>[(32,.mp ((incM A m.h).map encI)),(33,.mp (D.map encI)),(73,.arr 105 3 (C.map clR))]) (fun _=>True) (fun _ h=>h) ?_ ?_
         · rcases inc_case (A) (m.h) with ⟨f1,f2,f3⟩ | ⟨q,f1,f3⟩
           · rw [f3]
             refine zb fun K hK=>?_;simp only [go_sem,f1,Option.map_some,Option.map_none];(try simp (disch:=omega) only [zI]);refine hK _ ?_;clear hK K
             refine ⟨(),trivial,zj [] ?_ ?_⟩
             · try simp only [go_sem]
             · try simp only [go_sem]
           · rw [f3]
             have fb:=hb0 m.h
             generalize getM (A) (m.h) = g at *
             refine zb fun K hK=>?_;simp only [go_sem,f1,Option.map_some,Option.map_none];(try simp (disch:=omega) only [zI]);refine hK _ ?_;clear hK K
             refine ⟨(),trivial,zj [] ?_ ?_⟩
             · try simp only [go_sem]
             · try simp only [go_sem]
         intro _ vs _
         refine zq ?_
         refine awp_joinV (n:=96) (fun (_ : Unit) vs=>[(1,.r (ints v)),(2,.r (ints b)),(6,.os 73 (vs 73) 3 0 C.length),(9,.r (i64 (i : Int))),(11,.mp 32 (vs 32)),(12,.mp 33 (vs 33)),(25,.r (nightsR N)),(26,.r (i64 (N.length : Int))),(27,.r (i64 (i : Int))),(34,.r (mtsR l)),(35,.r (i64 (l.length : Int))),(36,.r (i64 (j : Int))),(14,.r (.rp (mtR m)))]) (fun _ vs=>[(32,.mp ((incM (incM A m.h) m.a).map encI)),(33,.mp (D.map encI)),(73,.arr 105 3 (C.map clR))]) (fun _=>True) (fun _ h=>h) ?_ ?_
         · rcases inc_case (incM A m.h) (m.a) with ⟨f1,f2,f3⟩ | ⟨q,f1,f3⟩
           · rw [f3]
             refine zb fun K hK=>?_;simp only [go_sem,f1,Option.map_some,Option.map_none];(try simp (disch:=omega) only [zI]);refine hK _ ?_;clear hK K
             refine ⟨(),trivial,zj [] ?_ ?_⟩
             · try simp only [go_sem]
             · try simp only [go_sem]
           · rw [f3]
             have fb:=hb1 m.a
             generalize getM (incM A m.h) (m.a) = g at *
             refine zb fun K hK=>?_;simp only [go_sem,f1,Option.map_some,Option.map_none];(try simp (disch:=omega) only [zI]);refine hK _ ?_;clear hK K
             refine ⟨(),trivial,zj [] ?_ ?_⟩
             · try simp only [go_sem]
             · try simp only [go_sem]
         intro _ vs _
         refine awp_joinV (n:=96) (fun (_ : Unit) vs=>[(1,.r (ints v)),(2,.r (ints b)),(6,.os 73 (vs 73) 3 0 C.length),(9,.r (i64 (i : Int))),(11,.mp 32 (vs 32)),(12,.mp 33 (vs 33)),(25,.r (nightsR N)),(26,.r (i64 (N.length : Int))),(27,.r (i64 (i : Int))),(34,.r (mtsR l)),(35,.r (i64 (l.length : Int))),(36,.r (i64 (j : Int)))]) (fun _ vs=>[(32,.mp ((incM (incM A m.h) m.a).map encI)),(33,.mp ((incM D w).map encI)),(73,.arr 105 3 (C.map clR))]) (fun _=>True) (fun _ h=>h) ?_ ?_
         · rcases inc_case (D) (w) with ⟨f1,f2,f3⟩ | ⟨q,f1,f3⟩
           · rw [f3]
             refine zb fun K hK=>?_;simp only [go_sem,f1,Option.map_some,Option.map_none,hh,hw,hvl];(try simp (disch:=omega) only [zI]);refine hK _ ?_;clear hK K
             refine ⟨(),trivial,zj [] ?_ ?_⟩
             · try simp only [go_sem]
             · try simp only [go_sem]
               try rw [hh]
           · rw [f3]
             have fb:=hb2 w
             generalize getM (D) (w) = g at *
             refine zb fun K hK=>?_;simp only [go_sem,f1,Option.map_some,Option.map_none,hh,hw,hvl];(try simp (disch:=omega) only [zI]);refine hK _ ?_;clear hK K
             refine ⟨(),trivial,zj [] ?_ ?_⟩
             · try simp only [go_sem]
             · try simp only [go_sem]
               try rw [hh]
         intro _ vs _
         refine zb fun K hK=>?_;simp only [go_sem];(try simp (disch:=omega) only [zI]);refine hK _ ?_;clear hK K
         try simp only [go_sem]
         refine ⟨by omega,zj [] ?_ ?_⟩
         · try simp only [go_sem]
         · try simp only [go_sem]
       · have hjl : j = l.length:=by omega
         subst hjl
         rw [List.take_length]
         refine zf ?_;simp only [go_sem];refine zw (zk [1,2,6,9,11,12,25,26,27]) ?_;simp only [go_sem]
         have hgT:=fun q : Int=>tmM_get l q
         have hgV:=fun q : Int=>vnM_get v l q
         have hcT:=fun q : Int=>cntT_le l q
         have hcV:=fun q : Int=>cntV_le v l q
         repeat refine zq ?_
         refine zb fun K hK=>?_;simp only [go_sem]
         intro _
         refine hK _ ?_;clear hK K;refine zw (zk [1,2,6,9,11,12,25,26,27,59,60,61]) ?_;simp only [go_sem];refine zd ?_
         have hC0 : C ++ clT l i 0 = C:=by simp [clT]
         refine awp_uptoV (n:=96) v.length (fun q vs=>[(1,.r (ints v)),(2,.r (ints b)),(6,.os 73 (vs 73) 3 0 (C ++ clT l i q).length),(9,.r (i64 (i : Int))),(11,.mp 32 (vs 32)),(12,.mp 33 (vs 33)),(25,.r (nightsR N)),(26,.r (i64 (N.length : Int))),(27,.r (i64 (i : Int))),(59,.r (ints v)),(60,.r (i64 (v.length : Int))),(61,.r (i64 (q : Int)))])
          (fun q vs=>[(32,.mp ((tmM l).map encI)),(33,.mp ((vnM v l).map encI)),(73,.arr 105 3 ((C ++ clT l i q).map clR))]) (fun _=>True) 0 (zj [] ?_ ?_) (Nat.zero_le _) trivial ?_
         · try simp only [go_sem]
           rw [hC0]
         · try simp only [go_sem]
           rw [hC0]
         · intro q vs hq _
           refine zq ?_
           refine zb fun K hK=>?_;simp only [go_sem];refine hK _ ?_;clear hK K;refine zw (zk [1,2,6,9,11,12,25,26,27,59,60,61,62]) ?_;simp only [go_sem]
           refine zq ?_
           refine zc rfl (fun hc=>?_) (fun hc=>?_) <;> (try simp only [go_sem] at hc)
           · have hqv : q < v.length:=by omega
             have hcs:=clT_succ l i q
             have hgq:=hgT q
             have hcq:=hcT q
             have hEl : (C ++ clT l i q).length ≤ 20 * i + q:=by rw [List.length_append]; have:=hTl q; omega
             rw [hcs,← List.append_assoc]
             generalize C ++ clT l i q = E at *
             refine zx ?_
             try simp only [go_sem]
             refine zq ?_
             refine zd ?_
             refine zq ?_
             refine zb fun K hK=>?_;simp only [go_sem];refine hK _ ?_;clear hK K;refine zw (zk [1,2,6,9,11,12,15,25,26,27,59,60,61]) ?_;simp only [go_sem]
             refine zq ?_
             refine awp_joinV (n:=96) (fun (_ : Unit) vs=>[(1,.r (ints v)),(2,.r (ints b)),(6,.os 73 (vs 73) 3 0 E.length),(9,.r (i64 (i : Int))),(11,.mp 32 (vs 32)),(12,.mp 33 (vs 33)),(25,.r (nightsR N)),(26,.r (i64 (N.length : Int))),(27,.r (i64 (i : Int))),(59,.r (ints v)),(60,.r (i64 (v.length : Int))),(61,.r (i64 (q : Int))),(15,.r (i64 (q : Int))),(67,.r (.bo (decide (1 < cntT l q))))]) (fun _ vs=>[(32,.mp ((tmM l).map encI)),(33,.mp ((vnM v l).map encI)),(73,.arr 105 3 (E.map clR))]) (fun _=>True) (fun _ h=>h) ?_ ?_
             · rcases inc_case (tmM l) (q : Int) with ⟨f1,f2,_⟩ | ⟨p,f1,_⟩
               · rw [f2] at hgq
                 rw [← hgq]
                 refine zb fun K hK=>?_;simp only [go_sem,f1,Option.map_some,Option.map_none];refine hK _ ?_;clear hK K
                 refine ⟨(),trivial,zj [] ?_ ?_⟩
                 · try simp only [go_sem]
                 · try simp only [go_sem]
               · rw [hgq] at f1
                 generalize cntT l q = g at *
                 refine zb fun K hK=>?_;simp only [go_sem,f1,Option.map_some,Option.map_none];refine hK _ ?_;clear hK K
                 refine ⟨(),trivial,zj [] ?_ ?_⟩
                 · try simp only [go_sem]
                 · try simp only [go_sem]
             intro _ vs _
             by_cases hc1 : 1 < cntT l q
             · rw [if_pos hc1]
               refine zc rfl (fun hc=>?_) (fun hc=>?_) <;> (try simp only [go_sem] at hc)
               · skip
                 refine zb fun K hK=>?_;simp only [go_sem,List.length_map]
                 refine ⟨by omega,?_⟩
                 refine hK _ ?_;clear hK K;refine zw (zk [1,2,6,9,11,12,25,26,27,59,60,61]) ?_;simp only [go_sem];refine zb fun K hK=>?_;simp only [go_sem];(try simp (disch:=omega) only [zI]);refine hK _ ?_;clear hK K
                 try simp only [go_sem]
                 refine ⟨by omega,zj [] ?_ ?_⟩
                 · try simp only [go_sem]
                   simp
                 · try simp only [go_sem]
                   simp
               · exact absurd hc1 (by simpa using hc)
             · rw [if_neg hc1,List.append_nil]
               refine zc rfl (fun hc=>?_) (fun hc=>?_) <;> (try simp only [go_sem] at hc)
               · exact absurd (by simpa using hc) hc1
               · refine zx ?_
                 try simp only [go_sem]
                 refine zb fun K hK=>?_;simp only [go_sem];(try simp (disch:=omega) only [zI]);refine hK _ ?_;clear hK K
                 try simp only [go_sem]
                 refine ⟨by omega,zj [] ?_ ?_⟩
                 · try simp only [go_sem]
                 · try simp only [go_sem]
           · have hqv : q = v.length:=by omega
             subst hqv
             refine zf ?_;simp only [go_sem]
             have hEl : (C ++ clT l i v.length).length ≤ 20 * i + v.length:=by rw [List.length_append]; have:=hTl v.length; omega
             generalize C ++ clT l i v.length = E at *
             refine zw (zk [1,2,6,9,12,25,26,27]) ?_;simp only [go_sem]
             refine zq ?_
             refine zb fun K hK=>?_;simp only [go_sem]
             intro _
             refine hK _ ?_;clear hK K;refine zw (zk [1,2,6,9,12,25,26,27,75,76,77]) ?_;simp only [go_sem]
             have hE0 : E ++ clB v b l i 0 = E:=by simp [clB]
             refine zd ?_
             refine awp_uptoV (n:=96) b.length (fun z vs=>[(1,.r (ints v)),(2,.r (ints b)),(6,.os 73 (vs 73) 3 0 (E ++ clB v b l i z).length),(9,.r (i64 (i : Int))),(12,.mp 33 (vs 33)),(25,.r (nightsR N)),(26,.r (i64 (N.length : Int))),(27,.r (i64 (i : Int))),(75,.r (ints b)),(76,.r (i64 (b.length : Int))),(77,.r (i64 (z : Int)))])
              (fun z vs=>[(33,.mp ((vnM v l).map encI)),(73,.arr 105 3 ((E ++ clB v b l i z).map clR))]) (fun _=>True) 0 (zj [32] ?_ ?_) (Nat.zero_le _) trivial ?_
             · try simp only [go_sem]
               rw [hE0]
             · try simp only [go_sem]
               rw [hE0]
             · intro z vs hz2 _
               refine zq ?_
               refine zb fun K hK=>?_;simp only [go_sem];refine hK _ ?_;clear hK K;refine zw (zk [1,2,6,9,12,25,26,27,75,76,77,78]) ?_;simp only [go_sem]
               refine zq ?_
               refine zc rfl (fun hc=>?_) (fun hc=>?_) <;> (try simp only [go_sem] at hc)
               · have hzb : z < b.length:=by omega
                 obtain ⟨y,hy⟩:=opt_of_lt hzb
                 have hyg : b.getD z 0 = y:=by rw [List.getD_eq_getElem?_getD,hy]; rfl
                 have hcs:=clB_succ v b l i z
                 have hgz:=hgV z
                 have hcz:=hcV z
                 have hFl : (E ++ clB v b l i z).length ≤ 20 * i + v.length + z:=by rw [List.length_append]; have:=hBl z; omega
                 rw [hcs,hyg,← List.append_assoc]
                 generalize E ++ clB v b l i z = G at *
                 refine zx ?_
                 try simp only [go_sem]
                 refine zq ?_
                 refine zd ?_
                 refine zq ?_
                 refine zb fun K hK=>?_;simp only [go_sem,hy,hzb];refine hK _ ?_;clear hK K;refine zw (zk [1,2,6,9,12,16,17,25,26,27,75,76,77]) ?_;simp only [go_sem]
                 refine zq ?_
                 refine awp_joinV (n:=96) (fun (_ : Unit) vs=>[(1,.r (ints v)),(2,.r (ints b)),(6,.os 73 (vs 73) 3 0 G.length),(9,.r (i64 (i : Int))),(12,.mp 33 (vs 33)),(25,.r (nightsR N)),(26,.r (i64 (N.length : Int))),(27,.r (i64 (i : Int))),(75,.r (ints b)),(76,.r (i64 (b.length : Int))),(77,.r (i64 (z : Int))),(16,.r (i64 (z : Int))),(86,.r (.bo (decide (y < cntV v l z))))]) (fun _ vs=>[(33,.mp ((vnM v l).map encI)),(73,.arr 105 3 (G.map clR))]) (fun _=>True) (fun _ h=>h) ?_ ?_
                 · rcases inc_case (vnM v l) (z : Int) with ⟨f1,f2,_⟩ | ⟨p,f1,_⟩
                   · rw [f2] at hgz
                     rw [← hgz]
                     refine zb fun K hK=>?_;simp only [go_sem,f1,Option.map_some,Option.map_none];refine hK _ ?_;clear hK K
                     refine ⟨(),trivial,zj [] ?_ ?_⟩
                     · try simp only [go_sem]
                     · try simp only [go_sem]
                   · rw [hgz] at f1
                     generalize cntV v l z = g at *
                     refine zb fun K hK=>?_;simp only [go_sem,f1,Option.map_some,Option.map_none];refine hK _ ?_;clear hK K
                     refine ⟨(),trivial,zj [] ?_ ?_⟩
                     · try simp only [go_sem]
                     · try simp only [go_sem]
                 intro _ vs _
                 by_cases hc1 : y < cntV v l z
                 · rw [if_pos hc1]
                   refine zc rfl (fun hc=>?_) (fun hc=>?_) <;> (try simp only [go_sem] at hc)
                   · skip
                     refine zb fun K hK=>?_;simp only [go_sem,List.length_map]
                     refine ⟨by omega,?_⟩
                     refine hK _ ?_;clear hK K;refine zw (zk [1,2,6,9,12,25,26,27,75,76,77]) ?_;simp only [go_sem];refine zb fun K hK=>?_;simp only [go_sem];(try simp (disch:=omega) only [zI]);refine hK _ ?_;clear hK K
                     try simp only [go_sem]
                     refine ⟨by omega,zj [] ?_ ?_⟩
                     · try simp only [go_sem]
                       simp
                     · try simp only [go_sem]
                       simp
                   · exact absurd hc1 (by simpa using hc)
                 · rw [if_neg hc1,List.append_nil]
                   refine zc rfl (fun hc=>?_) (fun hc=>?_) <;> (try simp only [go_sem] at hc)
                   · exact absurd (by simpa using hc) hc1
                   · refine zx ?_
                     try simp only [go_sem]
                     refine zb fun K hK=>?_;simp only [go_sem];(try simp (disch:=omega) only [zI]);refine hK _ ?_;clear hK K
                     try simp only [go_sem]
                     refine ⟨by omega,zj [] ?_ ?_⟩
                     · try simp only [go_sem]
                     · try simp only [go_sem]
               · have hzb : z = b.length:=by omega
                 subst hzb
                 have hFl : (E ++ clB v b l i b.length).length ≤ 20 * i + 20:=by rw [List.length_append]; have:=hBl b.length; omega
                 generalize E ++ clB v b l i b.length = G at *
                 refine zf ?_;simp only [go_sem];refine zb fun K hK=>?_;simp only [go_sem];(try simp (disch:=omega) only [zI]);refine hK _ ?_;clear hK K
                 try simp only [go_sem]
                 refine ⟨by omega,by omega,zj [33] ?_ ?_⟩
                 · try simp only [go_sem]
                 · try simp only [go_sem]
   · have hil : i = N.length:=by omega
     subst hil
     refine zf ?_;simp only [go_sem]
     refine zq ?_
     refine zb fun K hK=>?_;simp only [go_sem];refine hK _ ?_;clear hK K;refine zw (zk [6,7]) ?_;simp only [go_sem];refine zw (sub_frz 6 73 (by omega) rfl rfl (by simp)) ?_;refine ze ?_;simp only [go_sem]
     try exact List.take_of_length_le (by simp)
abbrev inD (n a b : Int) : Bool:=decide (a ≤ n) && decide (n ≤ b)
theorem withinL_in (a b : Int) (l : List Int) : withinL a b l = l.all fun n=>inD n a b:=rfl
theorem badN_in (v : List Int) (m : Mt) : badN v m = !(inD m.h 0 ((v.length : Int) - 1) && (inD m.a 0 ((v.length : Int) - 1) && (m.h != m.a))):=by
 have e : badN v m = (!(inD m.h 0 ((v.length : Int) - 1) && (inD m.a 0 ((v.length : Int) - 1) && true)) || m.h == m.a):=rfl
 rw [e]
 generalize inD m.h 0 ((v.length : Int) - 1) = p
 generalize inD m.a 0 ((v.length : Int) - 1) = q
 have e2 : (m.h != m.a) = !(m.h == m.a):=rfl
 rw [e2]
 generalize (m.h == m.a) = w
 cases p <;> cases q <;> cases w <;> rfl
theorem refNights_ok (N : List (List Mt)) (v b : List Int) (hI : (∀ l ∈ N,∀ m ∈ l,WfM m) ∧ (∀ x ∈ v,I64 x) ∧ ∀ x ∈ b,I64 x) : ACalls Try.prog 48 [nightsR N,ints v,ints b] (i64 (nightErr N v b)):=by
 obtain ⟨k1,k2,k3⟩:=hI
 refine acalls_st (rs:=[i64 (nightErr N v b)]) [.tmp 6] Try.func48 rfl (by kernel_rfl) Try.ntmps48 rfl (by simp) rfl fun C vs=>?_
 refine zq ?_
 refine zb fun K hK=>?_;simp only [go_sem];refine hK _ ?_;clear hK K;refine zw (zk [0,1,2]) ?_;simp only [go_sem]
 have hlong : (N.any fun l=>decide (180 < l.length)) = true → nightErr N v b = 5:=fun h=>by unfold nightErr; rw [if_pos (.inr (.inl h))]
 repeat refine zq ?_
 refine awp_joinV (n:=110) (fun (_ : Unit) vs=>[(0,.r (nightsR N)),(1,.r (ints v)),(2,.r (ints b)),(25,.r (.bo (decide (100 < N.length ∨ 10 < v.length ∨ 10 < b.length))))]) (fun _ vs=>[]) (fun _=>True) (fun _ h=>h) ?_ ?_
 · by_cases h1 : 100 < N.length
   · have c1 : decide (100 < (N.length : Int)) = true:=decide_eq_true (by omega)
     refine zb fun K hK=>?_;simp only [go_sem,c1]
     intro _
     refine hK _ ?_;clear hK K
     refine ⟨(),trivial,zj [] ?_ ?_⟩
     · try simp only [go_sem]
       simp [h1]
     · try simp only [go_sem]
   · have c1 : decide (100 < (N.length : Int)) = false:=decide_eq_false (by omega)
     by_cases h3 : 10 < v.length
     · have c3 : decide (10 < (v.length : Int)) = true:=decide_eq_true (by omega)
       refine zb fun K hK=>?_;simp only [go_sem,c1,c3]
       repeat intro _
       refine hK _ ?_;clear hK K
       refine ⟨(),trivial,zj [] ?_ ?_⟩
       · try simp only [go_sem]
         simp [h3]
       · try simp only [go_sem]
     · have c3 : decide (10 < (v.length : Int)) = false:=decide_eq_false (by omega)
       refine zb fun K hK=>?_;simp only [go_sem,c1,c3]
       repeat intro _
       refine hK _ ?_;clear hK K
       refine ⟨(),trivial,zj [] ?_ ?_⟩
       · try simp only [go_sem]
         simp [h1,h3]
         try omega
       · try simp only [go_sem]
 intro _ vs _
 refine zc rfl (fun hc=>?_) (fun hc=>?_) <;> (try simp only [go_sem] at hc)
 · have hc' : 100 < N.length ∨ 10 < v.length ∨ 10 < b.length:=by simpa using hc
   have he : nightErr N v b = 5:=by unfold nightErr; rw [if_pos (hc'.elim .inl fun h=>h.elim (fun h=>.inr (.inr (.inl h))) fun h=>.inr (.inr (.inr h)))]
   rw [he]
   refine zq ?_
   refine zb fun K hK=>?_;simp only [go_sem];refine hK _ ?_;clear hK K;refine ze ?_;simp only [go_sem]
 have hc1 : ¬ (100 < N.length ∨ 10 < v.length ∨ 10 < b.length):=by simpa using hc
 refine zx ?_
 try simp only [go_sem]
 repeat refine zq ?_
 refine zb fun K hK=>?_;simp only [go_sem];refine hK _ ?_;clear hK K;refine zw (zk [0,1,2,7]) ?_;simp only [go_sem];refine zd ?_
 refine awp_uptoV (n:=110) N.length (fun i vs=>[(0,.r (nightsR N)),(1,.r (ints v)),(2,.r (ints b)),(7,.r (i64 (i : Int)))])
  (fun i vs=>[]) (fun i=>∀ l ∈ N.take i,l.length ≤ 180) 0 (zj [] ?_ ?_) (Nat.zero_le _) (by simp) ?_
 · try simp only [go_sem]
   try rfl
 · try simp only [go_sem]
 · intro i vs hi hA
   repeat refine zq ?_
   refine zb fun K hK=>?_;simp only [go_sem]
   intro _
   refine hK _ ?_;clear hK K;refine zw (zk [0,1,2,7,29]) ?_;simp only [go_sem]
   refine zc rfl (fun hc=>?_) (fun hc=>?_) <;> (try simp only [go_sem] at hc)
   · have hil : i < N.length:=by omega
     obtain ⟨l,hl⟩:=opt_of_lt hil
     refine zx ?_
     try simp only [go_sem]
     refine zq ?_
     refine zd ?_
     refine zq ?_
     refine zb fun K hK=>?_;simp only [go_sem,hl,hil]
     intro _
     refine hK _ ?_;clear hK K;refine zw (zk [0,1,2,7,37]) ?_;simp only [go_sem]
     by_cases hc2 : 180 < l.length
     · rw [hlong (List.any_eq_true.2 ⟨l,mem_of_opt hl,by simpa using hc2⟩)]
       refine zc rfl (fun hc=>?_) (fun hc=>?_) <;> (try simp only [go_sem] at hc)
       · refine zq ?_
         refine zb fun K hK=>?_;simp only [go_sem];refine hK _ ?_;clear hK K;refine ze ?_;simp only [go_sem]
       · exact absurd hc2 (by first | omega | (simp at hc; omega))
     · skip
       refine zc rfl (fun hc=>?_) (fun hc=>?_) <;> (try simp only [go_sem] at hc)
       · exact absurd (show 180 < l.length by first | omega | (simp at hc; omega)) hc2
       · refine zx ?_
         try simp only [go_sem]
         refine zb fun K hK=>?_;simp only [go_sem];(try simp (disch:=omega) only [zI]);refine hK _ ?_;clear hK K
         try simp only [go_sem]
         refine ⟨by omega,fun z hz=>?_,zj [] ?_ ?_⟩
         · rw [take_of_opt hl,List.mem_append,List.mem_singleton] at hz
           rcases hz with hz | rfl
           · exact hA z hz
           · omega
         · try simp only [go_sem]
         · try simp only [go_sem]
   · have hil : i = N.length:=by omega
     subst hil
     rw [List.take_length] at hA
     have hlg : (N.any fun l=>decide (180 < l.length)) = false:=by
      rw [List.any_eq_false]
      intro l hl
      have:=hA l hl
      simpa using this
     have he : nightErr N v b = if withinL 0 ((b.length : Int) - 1) v = false ∨ withinL 0 9 b = false then 2 else if (N.any fun l=>l.any (badN v)) = true then 2 else 0:=by
      unfold nightErr
      rw [if_neg (by rw [hlg]; simp only [not_or] at hc1 ⊢; exact ⟨hc1.1,by simp,hc1.2.1,hc1.2.2⟩)]
     rw [he]
     clear he
     refine zf ?_;simp only [go_sem]
     repeat refine zq ?_
     refine zb fun K hK=>?_;simp only [go_sem];refine hK _ ?_;clear hK K;refine zw (zk [0,1,2,8]) ?_;simp only [go_sem];refine zd ?_
     refine awp_uptoV (n:=110) v.length (fun i vs=>[(0,.r (nightsR N)),(1,.r (ints v)),(2,.r (ints b)),(8,.r (i64 (i : Int)))])
      (fun i vs=>[]) (fun i=>∀ y ∈ v.take i,inD y 0 ((b.length : Int) - 1) = true) 0 (zj [] ?_ ?_) (Nat.zero_le _) (by simp) ?_
     · try simp only [go_sem]
       try rfl
     · try simp only [go_sem]
     · intro i vs hi hV
       repeat refine zq ?_
       refine zb fun K hK=>?_;simp only [go_sem]
       intro _
       refine hK _ ?_;clear hK K;refine zw (zk [0,1,2,8,41]) ?_;simp only [go_sem]
       refine zc rfl (fun hc=>?_) (fun hc=>?_) <;> (try simp only [go_sem] at hc)
       · have hil : i < v.length:=by omega
         obtain ⟨y,hy⟩:=opt_of_lt hil
         have hyI:=k2 y (mem_of_opt hy)
         unfold I64 at hyI
         refine zx ?_
         try simp only [go_sem]
         refine zq ?_
         refine zd ?_
         refine zq ?_
         refine zb fun K hK=>?_;simp only [go_sem,hy,hil];(try simp (disch:=omega) only [zI])
         intro _
         try simp (disch:=omega) only [zI]
         refine zh (in_ok y 0 ((b.length : Int) - 1)) rfl (by simp only [go_sem,i64,ints,hy,hil]) (by simp only [go_sem,i64,ints,hy,hil]) (by first | exact .inl rfl | exact .inr rfl) ?_
         (try simp only [go_sem,hy,hil]);refine hK _ ?_;clear hK K;refine zw (zk [0,1,2,8,52]) ?_;simp only [go_sem]
         cases hb : inD y 0 ((b.length : Int) - 1) with
         | false =>
           have hw : withinL 0 ((b.length : Int) - 1) v = false:=by
            rw [withinL_in]
            exact List.all_eq_false.2 ⟨y,mem_of_opt hy,by rw [hb]; simp⟩
           rw [if_pos (.inl hw)]
           rw [show (decide (0 ≤ y) && decide (y ≤ (b.length : Int) - 1)) = false from hb]
           refine zc rfl (fun hc=>?_) (fun hc=>?_) <;> (try simp only [go_sem] at hc)
           refine zq ?_
           refine zb fun K hK=>?_;simp only [go_sem];refine hK _ ?_;clear hK K;refine ze ?_;simp only [go_sem]
         | true =>
           rw [show (decide (0 ≤ y) && decide (y ≤ (b.length : Int) - 1)) = true from hb]
           refine zc rfl (fun hc=>?_) (fun hc=>?_) <;> (try simp only [go_sem] at hc)
           refine zx ?_
           try simp only [go_sem]
           refine zb fun K hK=>?_;simp only [go_sem];(try simp (disch:=omega) only [zI]);refine hK _ ?_;clear hK K
           try simp only [go_sem]
           refine ⟨by omega,fun z hz=>?_,zj [] ?_ ?_⟩
           · rw [take_of_opt hy,List.mem_append,List.mem_singleton] at hz
             rcases hz with hz | rfl
             · exact hV z hz
             · exact hb
           · try simp only [go_sem]
           · try simp only [go_sem]
       · have hil : i = v.length:=by omega
         subst hil
         rw [List.take_length] at hV
         have hwV : withinL 0 ((b.length : Int) - 1) v = true:=by rw [withinL_in]; exact List.all_eq_true.2 hV
         refine zf ?_;simp only [go_sem]
         repeat refine zq ?_
         refine zb fun K hK=>?_;simp only [go_sem];refine hK _ ?_;clear hK K;refine zw (zk [0,1,2,9]) ?_;simp only [go_sem];refine zd ?_
         refine awp_uptoV (n:=110) b.length (fun i vs=>[(0,.r (nightsR N)),(1,.r (ints v)),(2,.r (ints b)),(9,.r (i64 (i : Int)))])
          (fun i vs=>[]) (fun i=>∀ y ∈ b.take i,inD y 0 9 = true) 0 (zj [] ?_ ?_) (Nat.zero_le _) (by simp) ?_
         · try simp only [go_sem]
           try rfl
         · try simp only [go_sem]
         · intro i vs hi hB
           repeat refine zq ?_
           refine zb fun K hK=>?_;simp only [go_sem]
           intro _
           refine hK _ ?_;clear hK K;refine zw (zk [0,1,2,9,56]) ?_;simp only [go_sem]
           refine zc rfl (fun hc=>?_) (fun hc=>?_) <;> (try simp only [go_sem] at hc)
           · have hil : i < b.length:=by omega
             obtain ⟨y,hy⟩:=opt_of_lt hil
             have hyI:=k3 y (mem_of_opt hy)
             unfold I64 at hyI
             refine zx ?_
             try simp only [go_sem]
             refine zq ?_
             refine zd ?_
             refine zq ?_
             refine zb fun K hK=>?_;simp only [go_sem,hy,hil]
             refine zh (in_ok y 0 9) rfl (by simp only [go_sem,i64,ints,hy,hil]) (by simp only [go_sem,i64,ints,hy,hil]) (by first | exact .inl rfl | exact .inr rfl) ?_
             (try simp only [go_sem,hy,hil]);refine hK _ ?_;clear hK K;refine zw (zk [0,1,2,9,64]) ?_;simp only [go_sem]
             cases hb : inD y 0 9 with
             | false =>
               have hw : withinL 0 9 b = false:=by
                rw [withinL_in]
                exact List.all_eq_false.2 ⟨y,mem_of_opt hy,by rw [hb]; simp⟩
               rw [if_pos (.inr hw)]
               rw [show (decide (0 ≤ y) && decide (y ≤ 9)) = false from hb]
               refine zc rfl (fun hc=>?_) (fun hc=>?_) <;> (try simp only [go_sem] at hc)
               refine zq ?_
               refine zb fun K hK=>?_;simp only [go_sem];refine hK _ ?_;clear hK K;refine ze ?_;simp only [go_sem]
             | true =>
               rw [show (decide (0 ≤ y) && decide (y ≤ 9)) = true from hb]
               refine zc rfl (fun hc=>?_) (fun hc=>?_) <;> (try simp only [go_sem] at hc)
               refine zx ?_
               try simp only [go_sem]
               refine zb fun K hK=>?_;simp only [go_sem];(try simp (disch:=omega) only [zI]);refine hK _ ?_;clear hK K
               try simp only [go_sem]
               refine ⟨by omega,fun z hz=>?_,zj [] ?_ ?_⟩
               · rw [take_of_opt hy,List.mem_append,List.mem_singleton] at hz
                 rcases hz with hz | rfl
                 · exact hB z hz
                 · exact hb
               · try simp only [go_sem]
               · try simp only [go_sem]
           · have hil : i = b.length:=by omega
             subst hil
             rw [List.take_length] at hB
             have hwB : withinL 0 9 b = true:=by rw [withinL_in]; exact List.all_eq_true.2 hB
             rw [if_neg (by rw [hwV,hwB]; simp)]
             refine zf ?_;simp only [go_sem]
             repeat refine zq ?_
             refine zb fun K hK=>?_;simp only [go_sem];refine hK _ ?_;clear hK K;refine zw (zk [0,1,10]) ?_;simp only [go_sem];refine zd ?_
             refine awp_uptoV (n:=110) N.length (fun i vs=>[(0,.r (nightsR N)),(1,.r (ints v)),(10,.r (i64 (i : Int)))])
              (fun i vs=>[]) (fun i=>∀ l ∈ N.take i,l.any (badN v) = false) 0 (zj [] ?_ ?_) (Nat.zero_le _) (by simp) ?_
             · try simp only [go_sem]
               try rfl
             · try simp only [go_sem]
             · intro i vs hi hM
               repeat refine zq ?_
               refine zb fun K hK=>?_;simp only [go_sem]
               intro _
               refine hK _ ?_;clear hK K;refine zw (zk [0,1,10,68]) ?_;simp only [go_sem]
               refine zc rfl (fun hc=>?_) (fun hc=>?_) <;> (try simp only [go_sem] at hc)
               · have hil : i < N.length:=by omega
                 obtain ⟨l,hl⟩:=opt_of_lt hil
                 refine zx ?_
                 try simp only [go_sem]
                 refine zq ?_
                 refine zd ?_
                 refine zq ?_
                 refine zb fun K hK=>?_;simp only [go_sem];refine hK _ ?_;clear hK K;refine zw (zk [0,1,10,11]) ?_;simp only [go_sem];refine zd ?_
                 refine awp_uptoV (n:=110) l.length (fun j vs=>[(0,.r (nightsR N)),(1,.r (ints v)),(10,.r (i64 (i : Int))),(11,.r (i64 (j : Int)))])
                  (fun j vs=>[]) (fun j=>∀ m ∈ l.take j,badN v m = false) 0 (zj [] ?_ ?_) (Nat.zero_le _) (by simp) ?_
                 · try simp only [go_sem]
                   try rfl
                 · try simp only [go_sem]
                 · intro j vs hj hJ
                   repeat refine zq ?_
                   refine zb fun K hK=>?_;simp only [go_sem,hl,hil]
                   intro _
                   refine hK _ ?_;clear hK K;refine zw (zk [0,1,10,11,77]) ?_;simp only [go_sem]
                   refine zc rfl (fun hc=>?_) (fun hc=>?_) <;> (try simp only [go_sem] at hc)
                   · have hjl : j < l.length:=by omega
                     obtain ⟨m,hm⟩:=opt_of_lt hjl
                     obtain ⟨w1,w2,w3,w4⟩:=k1 l (mem_of_opt hl) m (mem_of_opt hm)
                     unfold I64 at w1 w2
                     refine zx ?_
                     try simp only [go_sem]
                     refine zq ?_
                     refine zd ?_
                     refine zq ?_
                     refine zb fun K hK=>?_;simp only [go_sem,hl,hil,hm,hjl];refine hK _ ?_;clear hK K;refine zw (sub_frzP 12 12 (mtR m) (by omega) rfl rfl) ?_;refine zw (zk [0,1,10,11,12]) ?_;simp only [go_sem]
                     refine zq ?_
                     refine awp_joinV (n:=110) (fun (_ : Unit) vs=>[(0,.r (nightsR N)),(1,.r (ints v)),(10,.r (i64 (i : Int))),(11,.r (i64 (j : Int))),(109,.r (.bo (badN v m)))]) (fun _ vs=>[]) (fun _=>True) (fun _ h=>h) ?_ ?_
                     · rw [badN_in]
                       have hvl : (v.length : Int) ≤ 10:=by omega
                       cases q0 : inD m.h 0 ((v.length : Int) - 1) with
                       | false =>
                         refine zb fun K hK=>?_;simp only [go_sem,q0];(try simp (disch:=omega) only [zI])
                         intro _
                         try simp (disch:=omega) only [zI]
                         refine zh (in_ok m.h 0 ((v.length : Int) - 1)) rfl (by simp only [go_sem,i64,ints,q0]) (by simp only [go_sem,i64,ints,q0]) (by first | exact .inl rfl | exact .inr rfl) ?_
                         (try simp only [go_sem,q0]);refine hK _ ?_;clear hK K
                         refine ⟨(),trivial,zj [] ?_ ?_⟩
                         · try simp only [go_sem]
                           try simp
                         · try simp only [go_sem]
                       | true =>
                         cases q1 : inD m.a 0 ((v.length : Int) - 1) with
                         | false =>
                           refine zb fun K hK=>?_;simp only [go_sem,q0,q1];(try simp (disch:=omega) only [zI])
                           intro _
                           try simp (disch:=omega) only [zI]
                           refine zh (in_ok m.h 0 ((v.length : Int) - 1)) rfl (by simp only [go_sem,i64,ints,q0,q1]) (by simp only [go_sem,i64,ints,q0,q1]) (by first | exact .inl rfl | exact .inr rfl) ?_
                           (try simp only [go_sem,q0,q1]);(try simp (disch:=omega) only [zI])
                           intro _
                           try simp (disch:=omega) only [zI]
                           refine zh (in_ok m.a 0 ((v.length : Int) - 1)) rfl (by simp only [go_sem,i64,ints,q0,q1]) (by simp only [go_sem,i64,ints,q0,q1]) (by first | exact .inl rfl | exact .inr rfl) ?_
                           (try simp only [go_sem,q0,q1]);refine hK _ ?_;clear hK K
                           refine ⟨(),trivial,zj [] ?_ ?_⟩
                           · try simp only [go_sem]
                             try simp
                           · try simp only [go_sem]
                         | true =>
                           refine zb fun K hK=>?_;simp only [go_sem,q0,q1];(try simp (disch:=omega) only [zI])
                           intro _
                           try simp (disch:=omega) only [zI]
                           refine zh (in_ok m.h 0 ((v.length : Int) - 1)) rfl (by simp only [go_sem,i64,ints,q0,q1]) (by simp only [go_sem,i64,ints,q0,q1]) (by first | exact .inl rfl | exact .inr rfl) ?_
                           (try simp only [go_sem,q0,q1]);(try simp (disch:=omega) only [zI])
                           intro _
                           try simp (disch:=omega) only [zI]
                           refine zh (in_ok m.a 0 ((v.length : Int) - 1)) rfl (by simp only [go_sem,i64,ints,q0,q1]) (by simp only [go_sem,i64,ints,q0,q1]) (by first | exact .inl rfl | exact .inr rfl) ?_
                           (try simp only [go_sem,q0,q1]);refine hK _ ?_;clear hK K
                           refine ⟨(),trivial,zj [] ?_ ?_⟩
                           · try simp only [go_sem]
                             try simp [bne]
                           · try simp only [go_sem]
                     intro _ vs _
                     cases hb : badN v m with
                     | true =>
                       have hany : (N.any fun l=>l.any (badN v)) = true:=List.any_eq_true.2 ⟨l,mem_of_opt hl,List.any_eq_true.2 ⟨m,mem_of_opt hm,hb⟩⟩
                       rw [if_pos hany]
                       refine zc rfl (fun hc=>?_) (fun hc=>?_) <;> (try simp only [go_sem] at hc)
                       refine zq ?_
                       refine zb fun K hK=>?_;simp only [go_sem];refine hK _ ?_;clear hK K;refine ze ?_;simp only [go_sem]
                     | false =>
                       refine zc rfl (fun hc=>?_) (fun hc=>?_) <;> (try simp only [go_sem] at hc)
                       refine zx ?_
                       try simp only [go_sem]
                       refine zb fun K hK=>?_;simp only [go_sem];(try simp (disch:=omega) only [zI]);refine hK _ ?_;clear hK K
                       try simp only [go_sem]
                       refine ⟨by omega,fun z hz=>?_,zj [] ?_ ?_⟩
                       · rw [take_of_opt hm,List.mem_append,List.mem_singleton] at hz
                         rcases hz with hz | rfl
                         · exact hJ z hz
                         · exact hb
                       · try simp only [go_sem]
                       · try simp only [go_sem]
                   · have hjl : j = l.length:=by omega
                     subst hjl
                     rw [List.take_length] at hJ
                     refine zf ?_;simp only [go_sem];refine zb fun K hK=>?_;simp only [go_sem];(try simp (disch:=omega) only [zI]);refine hK _ ?_;clear hK K
                     try simp only [go_sem]
                     refine ⟨by omega,fun z hz=>?_,zj [] ?_ ?_⟩
                     · rw [take_of_opt hl,List.mem_append,List.mem_singleton] at hz
                       rcases hz with hz | rfl
                       · exact hM z hz
                       · rw [List.any_eq_false]
                         intro y hy
                         rw [hJ y hy]; simp
                     · try simp only [go_sem]
                     · try simp only [go_sem]
               · have hil : i = N.length:=by omega
                 subst hil
                 rw [List.take_length] at hM
                 have hany : ¬ (N.any fun l=>l.any (badN v)) = true:=by
                  rw [List.any_eq_true]
                  rintro ⟨l,h1,h2⟩
                  rw [hM l h1] at h2; cases h2
                 rw [if_neg hany]
                 refine zf ?_;simp only [go_sem]
                 refine zq ?_
                 refine zb fun K hK=>?_;simp only [go_sem];refine hK _ ?_;clear hK K;refine ze ?_;simp only [go_sem]
def hasT (t : Int) (m : Mt) : Int:=b1 (m.h = t ∨ m.a = t)
theorem cntT_or {l : List Mt} (h : ∀ m ∈ l,m.h ≠ m.a) (t : Int) : cntT l t = sumF (hasT t) l:=by
 unfold cntT
 refine sumF_congr fun m hm=>?_
 have:=h m hm
 unfold hasT b1
 (repeat' split) <;> omega
theorem has_le (t : Int) (l : List Mt) : 0 ≤ sumF (hasT t) l ∧ sumF (hasT t) l ≤ l.length:=by
 induction l with
 | nil=>simp [sumF]
 | cons m l ih=>simp only [sumF,hasT,b1,List.length_cons] at ih ⊢; (repeat' split) <;> omega
def venB (v : List Int) (z : Int) (m : Mt) : Int:=b1 (v.getD m.h.toNat 0 = z)
theorem refClashes_ok {N : List (List Mt)} {v b : List Int} (hE : nightErr N v b = 0) : ACalls Try.prog 49 [nightsR N,ints v,ints b] (.sl 3 ((clN N v b N.length).map clR)):=by
 obtain ⟨g1,g2,g3,g4,g5,g6,g7⟩:=night_good hE
 refine acalls_st (rs:=[.sl 3 ((clN N v b N.length).map clR)]) [.tmp 6] Try.func49 rfl (by kernel_rfl) Try.ntmps49 rfl (by simp) rfl fun C vs=>?_
 refine zq ?_
 refine zb fun K hK=>?_;simp only [go_sem];refine hK _ ?_;clear hK K;refine zw (zk [0,1,2]) ?_;simp only [go_sem]
 refine zq ?_
 refine zb fun K hK=>?_;simp only [go_sem];refine hK _ ?_;clear hK K;refine zw (sub_own 7 68 105 3 (by omega) rfl) ?_;refine zw (zk [0,1,2,7]) ?_;simp only [go_sem]
 repeat refine zq ?_
 refine zb fun K hK=>?_;simp only [go_sem];refine hK _ ?_;clear hK K;refine zw (zk [0,1,2,7,8]) ?_;simp only [go_sem];refine zd ?_
 refine awp_uptoV (n:=112) N.length (fun i vs=>[(0,.r (nightsR N)),(1,.r (ints v)),(2,.r (ints b)),(7,.os 68 (vs 68) 3 0 (clN N v b i).length),(8,.r (i64 (i : Int)))])
  (fun i vs=>[(68,.arr 105 3 ((clN N v b i).map clR))]) (fun i=>(clN N v b i).length ≤ 20 * i) 0 (zj [] ?_ ?_) (Nat.zero_le _) (by simp [clN]) ?_
 · try simp only [go_sem]
   try rfl
 · try simp only [go_sem]
   try rfl
 · intro i vs hi hI
   repeat refine zq ?_
   refine zb fun K hK=>?_;simp only [go_sem]
   intro _
   refine hK _ ?_;clear hK K;refine zw (zk [0,1,2,7,8,19]) ?_;simp only [go_sem]
   refine zc rfl (fun hc=>?_) (fun hc=>?_) <;> (try simp only [go_sem] at hc)
   · have hil : i < N.length:=by omega
     obtain ⟨l,hl⟩:=opt_of_lt hil
     have hll:=g2 l (mem_of_opt hl)
     have hms:=g7 l (mem_of_opt hl)
     have hsu:=clN_succ (v:=v) (b:=b) hl
     have hTl:=clT_len l i
     have hBl:=clB_len v b l i
     have hor:=fun t=>cntT_or (l:=l) (fun m hm=>(hms m hm).2.2) t
     rw [hsu]
     generalize clN N v b i = C at *
     refine zx ?_
     try simp only [go_sem]
     refine zq ?_
     refine zd ?_
     repeat refine zq ?_
     refine zb fun K hK=>?_;simp only [go_sem];refine hK _ ?_;clear hK K;refine zw (zk [0,1,2,7,8,9]) ?_;simp only [go_sem]
     have hC0 : C ++ clT l i 0 = C:=by simp [clT]
     refine zd ?_
     refine awp_uptoV (n:=112) v.length (fun q vs=>[(0,.r (nightsR N)),(1,.r (ints v)),(2,.r (ints b)),(7,.os 68 (vs 68) 3 0 (C ++ clT l i q).length),(8,.r (i64 (i : Int))),(9,.r (i64 (q : Int)))])
      (fun q vs=>[(68,.arr 105 3 ((C ++ clT l i q).map clR))]) (fun _=>True) 0 (zj [] ?_ ?_) (Nat.zero_le _) trivial ?_
     · try simp only [go_sem]
       rw [hC0]
     · try simp only [go_sem]
       rw [hC0]
     · intro q vs hq _
       repeat refine zq ?_
       refine zb fun K hK=>?_;simp only [go_sem]
       intro _
       refine hK _ ?_;clear hK K;refine zw (zk [0,1,2,7,8,9,25]) ?_;simp only [go_sem]
       refine zc rfl (fun hc=>?_) (fun hc=>?_) <;> (try simp only [go_sem] at hc)
       · have hqv : q < v.length:=by omega
         have hcs:=clT_succ l i q
         have hoq:=hor q
         have hEl : (C ++ clT l i q).length ≤ 20 * i + q:=by rw [List.length_append]; have:=hTl q; omega
         rw [hcs,← List.append_assoc]
         generalize C ++ clT l i q = E at *
         refine zx ?_
         try simp only [go_sem]
         refine zq ?_
         refine zd ?_
         refine zq ?_
         refine zb fun K hK=>?_;simp only [go_sem];refine hK _ ?_;clear hK K;refine zw (zk [0,1,2,7,8,9,10]) ?_;simp only [go_sem]
         repeat refine zq ?_
         refine zb fun K hK=>?_;simp only [go_sem];refine hK _ ?_;clear hK K;refine zw (zk [0,1,2,7,8,9,10,11]) ?_;simp only [go_sem];refine zd ?_
         refine awp_uptoV (n:=112) l.length (fun j vs=>[(0,.r (nightsR N)),(1,.r (ints v)),(2,.r (ints b)),(7,.os 68 (vs 68) 3 0 E.length),(8,.r (i64 (i : Int))),(9,.r (i64 (q : Int))),(10,.r (i64 (sumF (hasT (q : Int)) (l.take j)))),(11,.r (i64 (j : Int)))])
          (fun j vs=>[(68,.arr 105 3 (E.map clR))]) (fun _=>True) 0 (zj [] ?_ ?_) (Nat.zero_le _) trivial ?_
         · try simp only [go_sem]
           try rfl
         · try simp only [go_sem]
         · intro j vs hj _
           repeat refine zq ?_
           refine zb fun K hK=>?_;simp only [go_sem,hl,hil]
           intro _
           refine hK _ ?_;clear hK K;refine zw (zk [0,1,2,7,8,9,10,11,34]) ?_;simp only [go_sem]
           refine zc rfl (fun hc=>?_) (fun hc=>?_) <;> (try simp only [go_sem] at hc)
           · have hjl : j < l.length:=by omega
             obtain ⟨m,hm⟩:=opt_of_lt hjl
             have hst : sumF (hasT (q : Int)) (l.take (j + 1)) = sumF (hasT (q : Int)) (l.take j) + hasT (q : Int) m:=by rw [take_of_opt hm,sumF_app]; simp [sumF]
             have hbd:=has_le (q : Int) (l.take j)
             rw [List.length_take] at hbd
             rw [hst]
             generalize sumF (hasT (q : Int)) (l.take j) = S at *
             refine zx ?_
             try simp only [go_sem]
             refine zq ?_
             refine zd ?_
             by_cases x1 : m.h = (q : Int)
             · have y1 : (m.h == (q : Int)) = true:=by simpa using x1
               have z1 : hasT (q : Int) m = 1:=by unfold hasT b1; rw [if_pos (.inl x1)]
               rw [z1]
               refine zq ?_
               refine zb fun K hK=>?_;simp only [go_sem,hl,hil,hm,hjl,y1];refine hK _ ?_;clear hK K;refine zw (zk [0,1,2,7,8,9,10,11,58]) ?_;simp only [go_sem]
               refine zc rfl (fun hc=>?_) (fun hc=>?_) <;> (try simp only [go_sem] at hc)
               refine zb fun K hK=>?_;simp only [go_sem];(try simp (disch:=omega) only [zI]);refine hK _ ?_;clear hK K;refine zw (zk [0,1,2,7,8,9,10,11]) ?_;simp only [go_sem];refine zb fun K hK=>?_;simp only [go_sem];(try simp (disch:=omega) only [zI]);refine hK _ ?_;clear hK K
               try simp only [go_sem]
               refine ⟨by omega,zj [] ?_ ?_⟩
               · try simp only [go_sem]
               · try simp only [go_sem]
             · have y1 : (m.h == (q : Int)) = false:=by simpa using x1
               by_cases x2 : m.a = (q : Int)
               · have y2 : (m.a == (q : Int)) = true:=by simpa using x2
                 have z1 : hasT (q : Int) m = 1:=by unfold hasT b1; rw [if_pos (.inr x2)]
                 rw [z1]
                 refine zq ?_
                 refine zb fun K hK=>?_;simp only [go_sem,hl,hil,hm,hjl,y1,y2];refine hK _ ?_;clear hK K;refine zw (zk [0,1,2,7,8,9,10,11,58]) ?_;simp only [go_sem]
                 refine zc rfl (fun hc=>?_) (fun hc=>?_) <;> (try simp only [go_sem] at hc)
                 refine zb fun K hK=>?_;simp only [go_sem];(try simp (disch:=omega) only [zI]);refine hK _ ?_;clear hK K;refine zw (zk [0,1,2,7,8,9,10,11]) ?_;simp only [go_sem];refine zb fun K hK=>?_;simp only [go_sem];(try simp (disch:=omega) only [zI]);refine hK _ ?_;clear hK K
                 try simp only [go_sem]
                 refine ⟨by omega,zj [] ?_ ?_⟩
                 · try simp only [go_sem]
                 · try simp only [go_sem]
               · have y2 : (m.a == (q : Int)) = false:=by simpa using x2
                 have z1 : hasT (q : Int) m = 0:=by unfold hasT b1; rw [if_neg (fun h=>h.elim x1 x2)]
                 rw [z1]
                 refine zq ?_
                 refine zb fun K hK=>?_;simp only [go_sem,hl,hil,hm,hjl,y1,y2];refine hK _ ?_;clear hK K;refine zw (zk [0,1,2,7,8,9,10,11,58]) ?_;simp only [go_sem]
                 refine zc rfl (fun hc=>?_) (fun hc=>?_) <;> (try simp only [go_sem] at hc)
                 refine zx ?_
                 try simp only [go_sem]
                 refine zb fun K hK=>?_;simp only [go_sem];(try simp (disch:=omega) only [zI]);refine hK _ ?_;clear hK K
                 try simp only [go_sem]
                 refine ⟨by omega,zj [] ?_ ?_⟩
                 · try simp only [go_sem]
                   try simp
                 · try simp only [go_sem]
           · have hjl : j = l.length:=by omega
             subst hjl
             rw [List.take_length,← hoq]
             refine zf ?_;simp only [go_sem]
             by_cases hc1 : 1 < cntT l q
             · rw [if_pos hc1]
               generalize cntT l q = g at *
               refine zq ?_
               refine zb fun K hK=>?_;simp only [go_sem];refine hK _ ?_;clear hK K;refine zw (zk [0,1,2,7,8,9,62]) ?_;simp only [go_sem]
               refine zc rfl (fun hc=>?_) (fun hc=>?_) <;> (try simp only [go_sem] at hc)
               · skip
                 refine zb fun K hK=>?_;simp only [go_sem,List.length_map]
                 refine ⟨by omega,?_⟩
                 refine hK _ ?_;clear hK K;refine zw (zk [0,1,2,7,8,9]) ?_;simp only [go_sem];refine zb fun K hK=>?_;simp only [go_sem];(try simp (disch:=omega) only [zI]);refine hK _ ?_;clear hK K
                 try simp only [go_sem]
                 refine ⟨by omega,zj [] ?_ ?_⟩
                 · try simp only [go_sem]
                   simp
                 · try simp only [go_sem]
                   simp
               · exact absurd hc1 (by simpa using hc)
             · rw [if_neg hc1,List.append_nil]
               generalize cntT l q = g at *
               refine zq ?_
               refine zb fun K hK=>?_;simp only [go_sem];refine hK _ ?_;clear hK K;refine zw (zk [0,1,2,7,8,9,62]) ?_;simp only [go_sem]
               refine zc rfl (fun hc=>?_) (fun hc=>?_) <;> (try simp only [go_sem] at hc)
               · exact absurd (by simpa using hc) hc1
               · refine zx ?_
                 try simp only [go_sem]
                 refine zb fun K hK=>?_;simp only [go_sem];(try simp (disch:=omega) only [zI]);refine hK _ ?_;clear hK K
                 try simp only [go_sem]
                 refine ⟨by omega,zj [] ?_ ?_⟩
                 · try simp only [go_sem]
                 · try simp only [go_sem]
       · have hqv : q = v.length:=by omega
         subst hqv
         have hEl : (C ++ clT l i v.length).length ≤ 20 * i + v.length:=by rw [List.length_append]; have:=hTl v.length; omega
         generalize C ++ clT l i v.length = E at *
         refine zf ?_;simp only [go_sem]
         refine zq ?_
         refine zb fun K hK=>?_;simp only [go_sem];refine hK _ ?_;clear hK K;refine zw (zk [0,1,2,7,8,12]) ?_;simp only [go_sem]
         have hE0 : E ++ clB v b l i 0 = E:=by simp [clB]
         refine zd ?_
         refine awp_uptoV (n:=112) b.length (fun z vs=>[(0,.r (nightsR N)),(1,.r (ints v)),(2,.r (ints b)),(7,.os 68 (vs 68) 3 0 (E ++ clB v b l i z).length),(8,.r (i64 (i : Int))),(12,.r (i64 (z : Int)))])
          (fun z vs=>[(68,.arr 105 3 ((E ++ clB v b l i z).map clR))]) (fun _=>True) 0 (zj [] ?_ ?_) (Nat.zero_le _) trivial ?_
         · try simp only [go_sem]
           rw [hE0]
         · try simp only [go_sem]
           rw [hE0]
         · intro z vs hz2 _
           repeat refine zq ?_
           refine zb fun K hK=>?_;simp only [go_sem]
           intro _
           refine hK _ ?_;clear hK K;refine zw (zk [0,1,2,7,8,12,72]) ?_;simp only [go_sem]
           refine zc rfl (fun hc=>?_) (fun hc=>?_) <;> (try simp only [go_sem] at hc)
           · have hzb : z < b.length:=by omega
             obtain ⟨y,hy⟩:=opt_of_lt hzb
             have hyg : b.getD z 0 = y:=by rw [List.getD_eq_getElem?_getD,hy]; rfl
             have hcs:=clB_succ v b l i z
             have hFl : (E ++ clB v b l i z).length ≤ 20 * i + v.length + z:=by rw [List.length_append]; have:=hBl z; omega
             rw [hcs,hyg,← List.append_assoc]
             generalize E ++ clB v b l i z = G at *
             refine zx ?_
             try simp only [go_sem]
             refine zq ?_
             refine zd ?_
             refine zq ?_
             refine zb fun K hK=>?_;simp only [go_sem];refine hK _ ?_;clear hK K;refine zw (zk [0,1,2,7,8,12,13]) ?_;simp only [go_sem]
             repeat refine zq ?_
             refine zb fun K hK=>?_;simp only [go_sem];refine hK _ ?_;clear hK K;refine zw (zk [0,1,2,7,8,12,13,14]) ?_;simp only [go_sem];refine zd ?_
             refine awp_uptoV (n:=112) l.length (fun j vs=>[(0,.r (nightsR N)),(1,.r (ints v)),(2,.r (ints b)),(7,.os 68 (vs 68) 3 0 G.length),(8,.r (i64 (i : Int))),(12,.r (i64 (z : Int))),(13,.r (i64 (cntV v (l.take j) z))),(14,.r (i64 (j : Int)))])
              (fun j vs=>[(68,.arr 105 3 (G.map clR))]) (fun _=>True) 0 (zj [] ?_ ?_) (Nat.zero_le _) trivial ?_
             · try simp only [go_sem]
               try rfl
             · try simp only [go_sem]
             · intro j vs hj _
               repeat refine zq ?_
               refine zb fun K hK=>?_;simp only [go_sem,hl,hil]
               intro _
               refine hK _ ?_;clear hK K;refine zw (zk [0,1,2,7,8,12,13,14,81]) ?_;simp only [go_sem]
               refine zc rfl (fun hc=>?_) (fun hc=>?_) <;> (try simp only [go_sem] at hc)
               · have hjl : j < l.length:=by omega
                 obtain ⟨m,hm⟩:=opt_of_lt hjl
                 obtain ⟨m1,m2,m3⟩:=hms m (mem_of_opt hm)
                 obtain ⟨h,hh⟩:=Int.eq_ofNat_of_zero_le m1.1
                 have hvl : h < v.length:=by omega
                 obtain ⟨w,hw⟩:=opt_of_lt hvl
                 have hwg : v.getD m.h.toNat 0 = w:=by rw [hh,Int.toNat_natCast,List.getD_eq_getElem?_getD,hw]; rfl
                 have hst : cntV v (l.take (j + 1)) z = cntV v (l.take j) z + b1 (w = (z : Int)):=by rw [← hwg,take_of_opt hm]; unfold cntV; rw [sumF_app]; simp [sumF]
                 have hbd:=cntV_le v (l.take j) z
                 rw [List.length_take] at hbd
                 rw [hst]
                 generalize cntV v (l.take j) z = S at *
                 refine zx ?_
                 try simp only [go_sem]
                 refine zq ?_
                 refine zd ?_
                 by_cases x1 : w = (z : Int)
                 · have y1 : (w == (z : Int)) = true:=by simpa using x1
                   have z1 : b1 (w = (z : Int)) = 1:=by unfold b1; rw [if_pos x1]
                   rw [z1]
                   refine zq ?_
                   refine zb fun K hK=>?_;simp only [go_sem,hl,hil,hm,hjl,hh,hw,hvl,y1];refine hK _ ?_;clear hK K;refine zw (zk [0,1,2,7,8,12,13,14,96]) ?_;simp only [go_sem]
                   refine zc rfl (fun hc=>?_) (fun hc=>?_) <;> (try simp only [go_sem] at hc)
                   refine zb fun K hK=>?_;simp only [go_sem];(try simp (disch:=omega) only [zI]);refine hK _ ?_;clear hK K;refine zw (zk [0,1,2,7,8,12,13,14]) ?_;simp only [go_sem];refine zb fun K hK=>?_;simp only [go_sem];(try simp (disch:=omega) only [zI]);refine hK _ ?_;clear hK K
                   try simp only [go_sem]
                   refine ⟨by omega,zj [] ?_ ?_⟩
                   · try simp only [go_sem]
                   · try simp only [go_sem]
                 · have y1 : (w == (z : Int)) = false:=by simpa using x1
                   have z1 : b1 (w = (z : Int)) = 0:=by unfold b1; rw [if_neg x1]
                   rw [z1]
                   refine zq ?_
                   refine zb fun K hK=>?_;simp only [go_sem,hl,hil,hm,hjl,hh,hw,hvl,y1];refine hK _ ?_;clear hK K;refine zw (zk [0,1,2,7,8,12,13,14,96]) ?_;simp only [go_sem]
                   refine zc rfl (fun hc=>?_) (fun hc=>?_) <;> (try simp only [go_sem] at hc)
                   refine zx ?_
                   try simp only [go_sem]
                   refine zb fun K hK=>?_;simp only [go_sem];(try simp (disch:=omega) only [zI]);refine hK _ ?_;clear hK K
                   try simp only [go_sem]
                   refine ⟨by omega,zj [] ?_ ?_⟩
                   · try simp only [go_sem]
                     try simp
                   · try simp only [go_sem]
               · have hjl : j = l.length:=by omega
                 subst hjl
                 rw [List.take_length]
                 refine zf ?_;simp only [go_sem]
                 by_cases hc1 : y < cntV v l z
                 · rw [if_pos hc1]
                   generalize cntV v l z = g at *
                   refine zq ?_
                   refine zb fun K hK=>?_;simp only [go_sem,hy,hzb];refine hK _ ?_;clear hK K;refine zw (zk [0,1,2,7,8,12,104]) ?_;simp only [go_sem]
                   refine zc rfl (fun hc=>?_) (fun hc=>?_) <;> (try simp only [go_sem] at hc)
                   · skip
                     refine zb fun K hK=>?_;simp only [go_sem,List.length_map]
                     refine ⟨by omega,?_⟩
                     refine hK _ ?_;clear hK K;refine zw (zk [0,1,2,7,8,12]) ?_;simp only [go_sem];refine zb fun K hK=>?_;simp only [go_sem];(try simp (disch:=omega) only [zI]);refine hK _ ?_;clear hK K
                     try simp only [go_sem]
                     refine ⟨by omega,zj [] ?_ ?_⟩
                     · try simp only [go_sem]
                       simp
                     · try simp only [go_sem]
                       simp
                   · exact absurd hc1 (by simpa using hc)
                 · rw [if_neg hc1,List.append_nil]
                   generalize cntV v l z = g at *
                   refine zq ?_
                   refine zb fun K hK=>?_;simp only [go_sem,hy,hzb];refine hK _ ?_;clear hK K;refine zw (zk [0,1,2,7,8,12,104]) ?_;simp only [go_sem]
                   refine zc rfl (fun hc=>?_) (fun hc=>?_) <;> (try simp only [go_sem] at hc)
                   · exact absurd (by simpa using hc) hc1
                   · refine zx ?_
                     try simp only [go_sem]
                     refine zb fun K hK=>?_;simp only [go_sem];(try simp (disch:=omega) only [zI]);refine hK _ ?_;clear hK K
                     try simp only [go_sem]
                     refine ⟨by omega,zj [] ?_ ?_⟩
                     · try simp only [go_sem]
                     · try simp only [go_sem]
           · have hzb : z = b.length:=by omega
             subst hzb
             have hFl : (E ++ clB v b l i b.length).length ≤ 20 * i + 20:=by rw [List.length_append]; have:=hBl b.length; omega
             generalize E ++ clB v b l i b.length = G at *
             refine zf ?_;simp only [go_sem];refine zb fun K hK=>?_;simp only [go_sem];(try simp (disch:=omega) only [zI]);refine hK _ ?_;clear hK K
             try simp only [go_sem]
             refine ⟨by omega,by omega,zj [] ?_ ?_⟩
             · try simp only [go_sem]
             · try simp only [go_sem]
   · have hil : i = N.length:=by omega
     subst hil
     refine zf ?_;simp only [go_sem]
     refine zq ?_
     refine zb fun K hK=>?_;simp only [go_sem];refine hK _ ?_;clear hK K;refine zw (zk [6]) ?_;simp only [go_sem];refine zw (sub_frz 6 68 (by omega) rfl rfl (by simp)) ?_;refine ze ?_;simp only [go_sem]
     try exact List.take_of_length_le (by simp)
def abF (n k i : Nat) : Nat × Nat × Bool:=if i = 0 then (k,n - 1,k % 2 == 0) else ((k + i) % (n - 1),(k + n - 1 - i) % (n - 1),i % 2 == 1)
def swF (h : Nat) (x : Nat × Nat × Bool) : Nat × Nat:=if x.2.2 != (h == 0) then (x.2.1,x.1) else (x.1,x.2.1)
def refM (teams h k i : Nat) : List Mt:=if (swF h (abF (evenN teams) k i)).1 < teams ∧ (swF h (abF (evenN teams) k i)).2 < teams then [newM (swF h (abF (evenN teams) k i)).1 (swF h (abF (evenN teams) k i)).2] else []
def refP (teams h k i : Nat) : List Mt:=(List.range i).flatMap (refM teams h k)
def refN (teams h k : Nat) : List Mt:=refP teams h k (evenN teams / 2)
def cntH (teams : Nat) (twice : Bool) (h : Nat) : Nat:=if h = 0 ∨ twice = true then evenN teams - 1 else 0
def outR (teams : Nat) (twice : Bool) : Nat → List (List Mt)
 | 0=>[]
 | h + 1=>outR teams twice h ++ (List.range (cntH teams twice h)).map (refN teams h)
def ok18 (teams : Nat) (twice : Bool) : Bool:=decide (roundsV teams twice = outR teams twice 2)
theorem rounds_eq {teams : Nat} (twice : Bool) (h : 2 ≤ teams ∧ teams ≤ 10) : roundsV teams twice = outR teams twice 2:=by
 have h9 : teams = 2 ∨ teams = 3 ∨ teams = 4 ∨ teams = 5 ∨ teams = 6 ∨ teams = 7 ∨ teams = 8 ∨ teams = 9 ∨ teams = 10:=by omega
 rcases h9 with rfl | rfl | rfl | rfl | rfl | rfl | rfl | rfl | rfl <;> cases twice <;> decide +kernel
theorem refP_succ (teams h k i : Nat) : refP teams h k (i + 1) = refP teams h k i ++ refM teams h k i:=by simp [refP,List.range_succ]
theorem refM_len (teams h k i : Nat) : (refM teams h k i).length ≤ 1:=by unfold refM; split <;> simp
theorem refP_len (teams h k : Nat) : ∀ i,(refP teams h k i).length ≤ i
 | 0=>by simp [refP]
 | i + 1=>by rw [refP_succ,List.length_append]; have:=refP_len teams h k i; have:=refM_len teams h k i; omega
theorem outR_len (teams : Nat) (twice : Bool) (ht : teams ≤ 10) : ∀ h,(outR teams twice h).length ≤ 10 * h
 | 0=>by simp [outR]
 | h + 1 => by
   have ih:=outR_len teams twice ht h
   have : cntH teams twice h ≤ 10:=by unfold cntH evenN; split <;> omega
   simp only [outR,List.length_append,List.length_map,List.length_range]; omega
theorem refRounds_ok (teams : Nat) (twice : Bool) (ht : 2 ≤ teams ∧ teams ≤ 10) : ACalls Try.prog 44 [i64 (teams : Int),.bo twice] (nightsR (outR teams twice 2)):=by
 have hN : evenN teams % 2 = 0 ∧ teams ≤ evenN teams ∧ evenN teams ≤ 10 ∧ 2 ≤ evenN teams:=by unfold evenN; omega
 obtain ⟨n1,n2,n3,n4⟩:=hN
 have hol:=outR_len teams twice ht.2
 have hq : Int.tmod (teams : Int) 2 = ((teams % 2 : Nat) : Int):=rfl
 refine acalls_st (rs:=[nightsR (outR teams twice 2)]) [.tmp 4] Try.func44 rfl (by kernel_rfl) Try.ntmps44 rfl (by simp) rfl fun C vs=>?_
 refine zq ?_
 refine zb fun K hK=>?_;simp only [go_sem];refine hK _ ?_;clear hK K;refine zw (zk [0,1,4]) ?_;simp only [go_sem]
 refine zq ?_
 refine zb fun K hK=>?_;simp only [go_sem];refine hK _ ?_;clear hK K;refine zw (sub_own 6 94 36 1 (by omega) rfl) ?_;refine zw (zk [0,1,5,6]) ?_;simp only [go_sem]
 repeat refine zq ?_
 refine zb fun K hK=>?_;simp only [go_sem,hq];refine hK _ ?_;clear hK K;refine zw (zk [0,1,5,6,18]) ?_;simp only [go_sem]
 refine awp_joinV (n:=96) (fun (_ : Unit) vs=>[(0,.r (i64 (teams : Int))),(1,.r (.bo twice)),(5,.r (i64 (evenN teams : Int))),(6,.os 94 (vs 94) 1 0 0)]) (fun _ vs=>[(94,.arr 36 1 [])]) (fun _=>True) (fun _ h=>h) ?_ ?_
 · by_cases ho : teams % 2 = 1
   · have he : (evenN teams : Int) = (teams : Int) + 1:=by unfold evenN; omega
     rw [he]
     refine zc rfl (fun hc=>?_) (fun hc=>?_) <;> (try simp only [go_sem] at hc)
     · skip
       refine zb fun K hK=>?_;simp only [go_sem];(try simp (disch:=omega) only [zI]);refine hK _ ?_;clear hK K
       refine ⟨(),trivial,zj [] ?_ ?_⟩
       · try simp only [go_sem]
       · try simp only [go_sem]
     · exfalso; first | omega | (simp at hc; omega)
   · have he : (evenN teams : Int) = (teams : Int):=by unfold evenN; omega
     rw [he]
     refine zc rfl (fun hc=>?_) (fun hc=>?_) <;> (try simp only [go_sem] at hc)
     · exfalso; first | omega | (simp at hc; omega)
     · refine zx ?_
       try simp only [go_sem]
       refine ⟨(),zj [] ?_ ?_⟩
       · try simp only [go_sem]
       · try simp only [go_sem]
 intro _ vs _
 repeat refine zq ?_
 refine zb fun K hK=>?_;simp only [go_sem];refine hK _ ?_;clear hK K;refine zw (zk [0,1,5,6,7]) ?_;simp only [go_sem];refine zd ?_
 refine awp_uptoV (n:=96) 2 (fun h vs=>[(0,.r (i64 (teams : Int))),(1,.r (.bo twice)),(5,.r (i64 (evenN teams : Int))),(6,.os 94 (vs 94) 1 0 (outR teams twice h).length),(7,.r (i64 (h : Int)))])
  (fun h vs=>[(94,.arr 36 1 ((outR teams twice h).map fun l=>[mtsR l]))]) (fun _=>True) 0 (zj [] ?_ ?_) (Nat.zero_le _) trivial ?_
 · try simp only [go_sem]
   try rfl
 · try simp only [go_sem]
   try rfl
 · intro h vs hh _
   repeat refine zq ?_
   refine zb fun K hK=>?_;simp only [go_sem];refine hK _ ?_;clear hK K;refine zw (zk [0,1,5,6,7,22]) ?_;simp only [go_sem]
   refine zc rfl (fun hc=>?_) (fun hc=>?_) <;> (try simp only [go_sem] at hc)
   · have hh2 : h < 2:=by omega
     have hos : outR teams twice (h + 1) = outR teams twice h ++ (List.range (cntH teams twice h)).map (refN teams h):=rfl
     have hoh:=hol h
     rw [hos]
     generalize outR teams twice h = H at *
     have hct : cntH teams twice h ≤ evenN teams - 1:=by unfold cntH; split <;> omega
     have hh0 : ((h : Int) == 0) = (h == 0):=by rcases (show h = 0 ∨ h = 1 by omega) with rfl | rfl <;> rfl
     refine zx ?_
     try simp only [go_sem]
     refine zq ?_
     refine zd ?_
     refine zq ?_
     refine zb fun K hK=>?_;simp only [go_sem];refine hK _ ?_;clear hK K;refine zw (zk [0,1,5,6,7,8]) ?_;simp only [go_sem]
     have hH0 : H ++ (List.range 0).map (refN teams h) = H:=by simp
     refine zd ?_
     refine awp_uptoV (n:=96) (cntH teams twice h) (fun k vs=>[(0,.r (i64 (teams : Int))),(1,.r (.bo twice)),(5,.r (i64 (evenN teams : Int))),(6,.os 94 (vs 94) 1 0 (H ++ (List.range k).map (refN teams h)).length),(7,.r (i64 (h : Int))),(8,.r (i64 (k : Int)))])
      (fun k vs=>[(94,.arr 36 1 ((H ++ (List.range k).map (refN teams h)).map fun l=>[mtsR l]))]) (fun _=>True) 0 (zj [] ?_ ?_) (Nat.zero_le _) trivial ?_
     · try simp only [go_sem]
       try rw [hH0]
       try simp
     · try simp only [go_sem]
       try rw [hH0]
       try simp
     · intro k vs hk _
       have hEl : (H ++ (List.range k).map (refN teams h)).length = H.length + k:=by simp
       by_cases hkc : k < cntH teams twice h
       · have wn : IntKind.i64.wrap ((evenN teams : Int) - 1) = ((evenN teams - 1 : Nat) : Int):=by rw [zI] <;> omega
         have hrn : (List.range (k + 1)).map (refN teams h) = (List.range k).map (refN teams h) ++ [refN teams h k]:=by rw [List.range_succ,List.map_append]; rfl
         rw [hrn,← List.append_assoc]
         generalize hE : H ++ (List.range k).map (refN teams h) = E at *
         have hkn : k < evenN teams - 1:=by omega
         have c1 : decide ((k : Int) < ((evenN teams - 1 : Nat) : Int)) = true:=decide_eq_true (by omega)
         have hcc : h = 0 ∨ twice = true:=by
          by_cases hcc : h = 0 ∨ twice = true
          · exact hcc
          · unfold cntH at hkc; rw [if_neg hcc] at hkc; omega
         repeat refine zq ?_
         refine awp_joinV (n:=96) (fun (_ : Unit) vs=>[(0,.r (i64 (teams : Int))),(1,.r (.bo twice)),(5,.r (i64 (evenN teams : Int))),(6,.os 94 (vs 94) 1 0 E.length),(7,.r (i64 (h : Int))),(8,.r (i64 (k : Int))),(35,.r (.bo true))]) (fun _ vs=>[(94,.arr 36 1 (E.map fun l=>[mtsR l]))]) (fun _=>True) (fun _ h=>h) ?_ ?_
         · by_cases hh1 : h = 0
           · have hz : ((h : Int) == 0) = true:=by simp; omega
             refine zb fun K hK=>?_;simp only [go_sem,wn,c1,hkn,hz];refine hK _ ?_;clear hK K
             refine ⟨(),trivial,zj [] ?_ ?_⟩
             · try simp only [go_sem]
             · try simp only [go_sem]
           · have hz : ((h : Int) == 0) = false:=by simp; omega
             have ht0 : twice = true:=hcc.resolve_left hh1
             refine zb fun K hK=>?_;simp only [go_sem,wn,c1,hkn,hz,ht0];refine hK _ ?_;clear hK K
             refine ⟨(),trivial,zj [] ?_ ?_⟩
             · try simp only [go_sem]
               try exact ht0.symm
             · try simp only [go_sem]
         intro _ vs _
         refine zc rfl (fun hc=>?_) (fun hc=>?_) <;> (try simp only [go_sem] at hc)
         refine zx ?_
         try simp only [go_sem]
         refine zq ?_
         refine zd ?_
         refine zq ?_
         refine zb fun K hK=>?_;simp only [go_sem];refine hK _ ?_;clear hK K;refine zw (sub_own 9 90 70 5 (by omega) rfl) ?_;refine zw (zk [0,1,5,6,7,8,9]) ?_;simp only [go_sem]
         repeat refine zq ?_
         refine zb fun K hK=>?_;simp only [go_sem];refine hK _ ?_;clear hK K;refine zw (zk [0,1,5,6,7,8,9,10]) ?_;simp only [go_sem];refine zd ?_
         refine awp_uptoV (n:=96) (evenN teams / 2) (fun i vs=>[(0,.r (i64 (teams : Int))),(1,.r (.bo twice)),(5,.r (i64 (evenN teams : Int))),(6,.os 94 (vs 94) 1 0 E.length),(7,.r (i64 (h : Int))),(8,.r (i64 (k : Int))),(9,.os 90 (vs 90) 5 0 (refP teams h k i).length),(10,.r (i64 (i : Int)))])
          (fun i vs=>[(90,.arr 70 5 ((refP teams h k i).map mtR)),(94,.arr 36 1 (E.map fun l=>[mtsR l]))]) (fun _=>True) 0 (zj [] ?_ ?_) (Nat.zero_le _) trivial ?_
         · try simp only [go_sem]
           try rfl
         · try simp only [go_sem]
           try rfl
         · intro i vs hi _
           have hqn : Int.tdiv (evenN teams : Int) 2 = ((evenN teams / 2 : Nat) : Int):=rfl
           have hps:=refP_succ teams h k i
           have hpl:=refP_len teams h k i
           have hrm : refM teams h k i = if (swF h (abF (evenN teams) k i)).1 < teams ∧ (swF h (abF (evenN teams) k i)).2 < teams then [newM (swF h (abF (evenN teams) k i)).1 (swF h (abF (evenN teams) k i)).2] else []:=rfl
           repeat refine zq ?_
           refine zb fun K hK=>?_;simp only [go_sem,hqn];(try simp (disch:=omega) only [zI]);refine hK _ ?_;clear hK K;refine zw (zk [0,1,5,6,7,8,9,10,42]) ?_;simp only [go_sem]
           refine zc rfl (fun hc=>?_) (fun hc=>?_) <;> (try simp only [go_sem] at hc)
           · have hin : i < evenN teams / 2:=by omega
             rw [hps,hrm]
             generalize refP teams h k i = P at *
             have hka : Int.tmod (k : Int) 2 = ((k % 2 : Nat) : Int):=rfl
             have hkb : (((k % 2 : Nat) : Int) == 0) = (k % 2 == 0):=by rcases (show k % 2 = 0 ∨ k % 2 = 1 by omega) with h | h <;> rw [h] <;> rfl
             refine zx ?_
             try simp only [go_sem]
             refine zq ?_
             refine zd ?_
             refine zq ?_
             refine zb fun K hK=>?_;simp only [go_sem,wn,hka,hkb];refine hK _ ?_;clear hK K;refine zw (zk [0,1,5,6,7,8,9,10,11,12,13]) ?_;simp only [go_sem]
             repeat refine zq ?_
             refine zb fun K hK=>?_;simp only [go_sem];refine hK _ ?_;clear hK K;refine zw (zk [0,1,5,6,7,8,9,10,11,12,13,52]) ?_;simp only [go_sem]
             refine awp_joinV (n:=96) (fun (_ : Unit) vs=>[(0,.r (i64 (teams : Int))),(1,.r (.bo twice)),(5,.r (i64 (evenN teams : Int))),(6,.os 94 (vs 94) 1 0 E.length),(7,.r (i64 (h : Int))),(8,.r (i64 (k : Int))),(9,.os 90 (vs 90) 5 0 P.length),(10,.r (i64 (i : Int))),(11,.r (i64 ((abF (evenN teams) k i).1 : Int))),(12,.r (i64 ((abF (evenN teams) k i).2.1 : Int))),(13,.r (.bo (abF (evenN teams) k i).2.2))])
              (fun _ vs=>[(90,.arr 70 5 (P.map mtR)),(94,.arr 36 1 (E.map fun l=>[mtsR l]))]) (fun _=>True) (fun _ h=>h) ?_ ?_
             · by_cases hi0 : i = 0
               · have he : abF (evenN teams) k i = (k,evenN teams - 1,k % 2 == 0):=by unfold abF; rw [if_pos hi0]
                 rw [he]
                 refine zc rfl (fun hc=>?_) (fun hc=>?_) <;> (try simp only [go_sem] at hc)
                 · exfalso; first | omega | (simp at hc; omega)
                 · refine zx ?_
                   try simp only [go_sem]
                   refine ⟨(),zj [] ?_ ?_⟩
                   · try simp only [go_sem]
                   · try simp only [go_sem]
               · have he : abF (evenN teams) k i = ((k + i) % (evenN teams - 1),(k + evenN teams - 1 - i) % (evenN teams - 1),i % 2 == 1):=by unfold abF; rw [if_neg hi0]
                 rw [he]
                 have w1 : IntKind.i64.wrap ((k : Int) + i) = (k : Int) + i:=by rw [zI] <;> omega
                 have w2 : IntKind.i64.wrap ((k : Int) - i) = (k : Int) - i:=by rw [zI] <;> omega
                 have w3 : IntKind.i64.wrap ((k : Int) - i + (evenN teams : Int)) = (k : Int) - i + (evenN teams : Int):=by rw [zI] <;> omega
                 have w4 : IntKind.i64.wrap ((k : Int) - i + (evenN teams : Int) - 1) = ((k + evenN teams - 1 - i : Nat) : Int):=by rw [zI] <;> omega
                 have q1 : Int.tmod ((k : Int) + i) ((evenN teams - 1 : Nat) : Int) = (((k + i) % (evenN teams - 1) : Nat) : Int):=by rw [show (k : Int) + i = ((k + i : Nat) : Int) by omega]; rfl
                 have q2 : Int.tmod ((k + evenN teams - 1 - i : Nat) : Int) ((evenN teams - 1 : Nat) : Int) = (((k + evenN teams - 1 - i) % (evenN teams - 1) : Nat) : Int):=rfl
                 have q3 : Int.tmod (i : Int) 2 = ((i % 2 : Nat) : Int):=rfl
                 have q4 : (((i % 2 : Nat) : Int) == 1) = (i % 2 == 1):=by rcases (show i % 2 = 0 ∨ i % 2 = 1 by omega) with h | h <;> rw [h] <;> rfl
                 have hnz : ¬ evenN teams - 1 = 0:=by omega
                 refine zc rfl (fun hc=>?_) (fun hc=>?_) <;> (try simp only [go_sem] at hc)
                 · generalize (k + evenN teams - 1 - i) % (evenN teams - 1) = r2 at *
                   generalize (k + i) % (evenN teams - 1) = r1 at *
                   generalize k + evenN teams - 1 - i = s2 at *
                   generalize hn1 : evenN teams - 1 = nn at *
                   refine zg follows (by decide +kernel) (by kernel_rfl) fun K hK=>?_;simp only [go_sem,wn,w1,w2,w3,w4,q1,q2,q3,q4,hnz]
                   repeat refine ⟨by omega,?_⟩
                   refine hK _ ?_;clear hK K
                   refine ⟨(),trivial,zj [] ?_ ?_⟩
                   · try simp only [go_sem]
                   · try simp only [go_sem]
                 · exfalso; first | omega | (simp at hc; omega)
             intro _ vs _
             have hsw : swF h (abF (evenN teams) k i) = if (!((abF (evenN teams) k i).2.2 == (h == 0))) then ((abF (evenN teams) k i).2.1,(abF (evenN teams) k i).1) else ((abF (evenN teams) k i).1,(abF (evenN teams) k i).2.1):=rfl
             generalize abF (evenN teams) k i = ab at *
             repeat refine zq ?_
             refine zb fun K hK=>?_;simp only [go_sem,hh0];refine hK _ ?_;clear hK K;refine zw (zk [0,1,5,6,7,8,9,10,11,12,74]) ?_;simp only [go_sem]
             refine awp_joinV (n:=96) (fun (_ : Unit) vs=>[(0,.r (i64 (teams : Int))),(1,.r (.bo twice)),(5,.r (i64 (evenN teams : Int))),(6,.os 94 (vs 94) 1 0 E.length),(7,.r (i64 (h : Int))),(8,.r (i64 (k : Int))),(9,.os 90 (vs 90) 5 0 P.length),(10,.r (i64 (i : Int))),(11,.r (i64 ((swF h ab).1 : Int))),(12,.r (i64 ((swF h ab).2 : Int)))])
              (fun _ vs=>[(90,.arr 70 5 (P.map mtR)),(94,.arr 36 1 (E.map fun l=>[mtsR l]))]) (fun _=>True) (fun _ h=>h) ?_ ?_
             · cases hf : (!(ab.2.2 == (h == 0))) with
               | true =>
                 rw [hf,if_pos rfl] at hsw
                 rw [hsw]
                 refine zc rfl (fun hc=>?_) (fun hc=>?_) <;> (try simp only [go_sem] at hc)
                 refine zb fun K hK=>?_;simp only [go_sem];refine hK _ ?_;clear hK K
                 refine ⟨(),trivial,zj [] ?_ ?_⟩
                 · try simp only [go_sem]
                 · try simp only [go_sem]
               | false =>
                 rw [hf] at hsw
                 simp only [Bool.false_eq_true,if_false] at hsw
                 rw [hsw]
                 refine zc rfl (fun hc=>?_) (fun hc=>?_) <;> (try simp only [go_sem] at hc)
                 refine zx ?_
                 try simp only [go_sem]
                 refine ⟨(),zj [] ?_ ?_⟩
                 · try simp only [go_sem]
                 · try simp only [go_sem]
             intro _ vs _
             generalize swF h ab = ab' at *
             refine zq ?_
             refine awp_joinV (n:=96) (fun (_ : Unit) vs=>[(0,.r (i64 (teams : Int))),(1,.r (.bo twice)),(5,.r (i64 (evenN teams : Int))),(6,.os 94 (vs 94) 1 0 E.length),(7,.r (i64 (h : Int))),(8,.r (i64 (k : Int))),(9,.os 90 (vs 90) 5 0 P.length),(10,.r (i64 (i : Int))),(11,.r (i64 (ab'.1 : Int))),(12,.r (i64 (ab'.2 : Int))),(84,.r (.bo (decide (ab'.1 < teams ∧ ab'.2 < teams))))])
              (fun _ vs=>[(90,.arr 70 5 (P.map mtR)),(94,.arr 36 1 (E.map fun l=>[mtsR l]))]) (fun _=>True) (fun _ h=>h) ?_ ?_
             · by_cases y1 : ab'.1 < teams
               · have y1b : decide ((ab'.1 : Int) < (teams : Int)) = true:=decide_eq_true (by omega)
                 refine zb fun K hK=>?_;simp only [go_sem,y1b,y1];refine hK _ ?_;clear hK K
                 refine ⟨(),trivial,zj [] ?_ ?_⟩
                 · try simp only [go_sem]
                   try simp [y1]
                 · try simp only [go_sem]
               · have y1b : decide ((ab'.1 : Int) < (teams : Int)) = false:=decide_eq_false (by omega)
                 refine zb fun K hK=>?_;simp only [go_sem,y1b,y1];refine hK _ ?_;clear hK K
                 refine ⟨(),trivial,zj [] ?_ ?_⟩
                 · try simp only [go_sem]
                   try simp [y1]
                 · try simp only [go_sem]
             intro _ vs _
             by_cases hab : ab'.1 < teams ∧ ab'.2 < teams
             · rw [if_pos hab]
               refine zc rfl (fun hc=>?_) (fun hc=>?_) <;> (try simp only [go_sem] at hc)
               · skip
                 refine zb fun K hK=>?_;simp only [go_sem,List.length_map]
                 refine ⟨by omega,?_⟩
                 refine hK _ ?_;clear hK K;refine zw (zk [0,1,5,6,7,8,9,10]) ?_;simp only [go_sem];refine zb fun K hK=>?_;simp only [go_sem];(try simp (disch:=omega) only [zI]);refine hK _ ?_;clear hK K
                 try simp only [go_sem]
                 refine ⟨by omega,zj [] ?_ ?_⟩
                 · try simp only [go_sem]
                   simp
                 · try simp only [go_sem]
                   simp [newM]
               · exact absurd hab (by simpa using hc)
             · rw [if_neg hab,List.append_nil]
               refine zc rfl (fun hc=>?_) (fun hc=>?_) <;> (try simp only [go_sem] at hc)
               · exact absurd (by simpa using hc) hab
               · refine zx ?_
                 try simp only [go_sem]
                 refine zb fun K hK=>?_;simp only [go_sem];(try simp (disch:=omega) only [zI]);refine hK _ ?_;clear hK K
                 try simp only [go_sem]
                 refine ⟨by omega,zj [] ?_ ?_⟩
                 · try simp only [go_sem]
                 · try simp only [go_sem]
           · have hin : i = evenN teams / 2:=by omega
             subst hin
             have hrf : refP teams h k (evenN teams / 2) = refN teams h k:=rfl
             rw [hrf] at hpl ⊢
             generalize refN teams h k = Q at *
             refine zf ?_;simp only [go_sem];refine zw (sub_frz (ty:=70) (sz:=5) (off:=0) (m:=Q.length) (es:=Q.map mtR) 9 90 (by omega) rfl rfl (by simp)) ?_
             have htQ : List.take Q.length (Q.map mtR) = Q.map mtR:=List.take_of_length_le (by simp)
             refine zw (zk [0,1,5,6,7,8,9]) ?_;simp only [go_sem]
             try rw [htQ]
             refine zb fun K hK=>?_;simp only [go_sem,hEl,List.length_map]
             refine ⟨by omega,?_⟩
             refine hK _ ?_;clear hK K;refine zw (zk [0,1,5,6,7,8]) ?_;simp only [go_sem];refine zb fun K hK=>?_;simp only [go_sem];(try simp (disch:=omega) only [zI]);refine hK _ ?_;clear hK K
             try simp only [go_sem]
             refine ⟨by omega,zj [] ?_ ?_⟩
             · try simp only [go_sem]
               simp [hEl]
             · try simp only [go_sem]
               simp
       · have hke : k = cntH teams twice h:=by omega
         generalize hE : H ++ (List.range k).map (refN teams h) = E at *
         repeat refine zq ?_
         refine awp_joinV (n:=96) (fun (_ : Unit) vs=>[(0,.r (i64 (teams : Int))),(1,.r (.bo twice)),(5,.r (i64 (evenN teams : Int))),(6,.os 94 (vs 94) 1 0 E.length),(7,.r (i64 (h : Int))),(8,.r (i64 (k : Int))),(35,.r (.bo false))]) (fun _ vs=>[(94,.arr 36 1 (E.map fun l=>[mtsR l]))]) (fun _=>True) (fun _ h=>h) ?_ ?_
         · have wn : IntKind.i64.wrap ((evenN teams : Int) - 1) = ((evenN teams - 1 : Nat) : Int):=by rw [zI] <;> omega
           by_cases hcc : h = 0 ∨ twice = true
           · have hkn : k = evenN teams - 1:=by rw [hke]; unfold cntH; rw [if_pos hcc]
             have c1 : decide ((k : Int) < ((evenN teams - 1 : Nat) : Int)) = false:=decide_eq_false (by omega)
             have c2 : ¬ k < evenN teams - 1:=by omega
             refine zb fun K hK=>?_;simp only [go_sem,wn,c1,c2];refine hK _ ?_;clear hK K
             refine ⟨(),trivial,zj [] ?_ ?_⟩
             · try simp only [go_sem]
             · try simp only [go_sem]
           · have hkn : k = 0:=by rw [hke]; unfold cntH; rw [if_neg hcc]
             have ht0 : twice = false:=by cases twice <;> simp at hcc ⊢
             have hz : ((h : Int) == 0) = false:=by simp; omega
             have c1 : decide ((k : Int) < ((evenN teams - 1 : Nat) : Int)) = true:=decide_eq_true (by omega)
             have c2 : k < evenN teams - 1:=by omega
             refine zb fun K hK=>?_;simp only [go_sem,wn,c1,c2,hz,ht0];refine hK _ ?_;clear hK K
             refine ⟨(),trivial,zj [] ?_ ?_⟩
             · try simp only [go_sem]
               try exact ht0.symm
             · try simp only [go_sem]
         intro _ vs _
         refine zc rfl (fun hc=>?_) (fun hc=>?_) <;> (try simp only [go_sem] at hc)
         refine zf ?_;simp only [go_sem];refine zb fun K hK=>?_;simp only [go_sem];(try simp (disch:=omega) only [zI]);refine hK _ ?_;clear hK K
         try simp only [go_sem]
         refine ⟨by omega,zj [] ?_ ?_⟩
         · try simp only [go_sem]
           rw [← hke,hE]
         · try simp only [go_sem]
           rw [← hke,hE]
   · have hil : h = 2:=by omega
     subst hil
     refine zf ?_;simp only [go_sem]
     refine zq ?_
     refine zb fun K hK=>?_;simp only [go_sem];refine hK _ ?_;clear hK K;refine zw (zk [4]) ?_;simp only [go_sem];refine zw (sub_frz 4 94 (by omega) rfl rfl (by simp)) ?_;refine ze ?_;simp only [go_sem]
     try exact List.take_of_length_le (by simp)
theorem nights_ok (N : List (List Mt)) (hN : N.length ≤ 1000) (hl : ∀ l ∈ N,l.length ≤ 1000) : ACalls Try.prog 45 [nightsR N] (nightsR N):=by
 refine acalls_st (rs:=[nightsR N]) [.tmp 2] Try.func45 rfl (by kernel_rfl) Try.ntmps45 rfl (by simp) rfl fun C vs=>?_
 refine zq ?_
 refine zb fun K hK=>?_;simp only [go_sem];refine hK _ ?_;clear hK K;refine zw (zk [0,2]) ?_;simp only [go_sem]
 refine zq ?_
 refine zb fun K hK=>?_;simp only [go_sem];refine hK _ ?_;clear hK K;refine zw (sub_own 3 19 36 1 (by omega) rfl) ?_;refine zw (zk [0,3]) ?_;simp only [go_sem]
 repeat refine zq ?_
 refine zb fun K hK=>?_;simp only [go_sem];refine hK _ ?_;clear hK K;refine zw (zk [0,3,4]) ?_;simp only [go_sem];refine zd ?_
 refine awp_uptoV (n:=21) N.length (fun i vs=>[(0,.r (nightsR N)),(3,.os 19 (vs 19) 1 0 i),(4,.r (i64 (i : Int)))])
  (fun i vs=>[(19,.arr 36 1 ((N.take i).map fun l=>[mtsR l]))]) (fun _=>True) 0 (zj [] ?_ ?_) (Nat.zero_le _) trivial ?_
 · try simp only [go_sem]
   try rfl
 · try simp only [go_sem]
 · intro i vs hi _
   repeat refine zq ?_
   refine zb fun K hK=>?_;simp only [go_sem]
   intro _
   refine hK _ ?_;clear hK K;refine zw (zk [0,3,4,9]) ?_;simp only [go_sem]
   refine zc rfl (fun hc=>?_) (fun hc=>?_) <;> (try simp only [go_sem] at hc)
   · have hil : i < N.length:=by omega
     obtain ⟨l,hll⟩:=opt_of_lt hil
     have hco:=copied_ok l (hl l (mem_of_opt hll))
     have hts:=take_of_opt hll
     have htl : (N.take i).length = i:=by rw [List.length_take]; omega
     rw [hts]
     generalize N.take i = P at *
     refine zx ?_
     try simp only [go_sem]
     refine zq ?_
     refine zd ?_;refine zb fun K hK=>?_;simp only [go_sem,hll,hil,htl,List.length_map]
     refine zh (hco) rfl (by simp only [go_sem,i64,ints,hll,hil,htl,List.length_map]) (by simp only [go_sem,i64,ints,hll,hil,htl,List.length_map]) (by first | exact .inl rfl | exact .inr rfl) ?_
     (try simp only [go_sem,hll,hil,htl,List.length_map])
     refine ⟨by omega,?_⟩
     refine hK _ ?_;clear hK K;refine zw (zk [0,3,4]) ?_;simp only [go_sem];refine zb fun K hK=>?_;simp only [go_sem];(try simp (disch:=omega) only [zI]);refine hK _ ?_;clear hK K
     try simp only [go_sem]
     refine ⟨by omega,zj [] ?_ ?_⟩
     · try simp only [go_sem]
     · try simp only [go_sem]
       try simp
   · have hil : i = N.length:=by omega
     subst hil
     rw [List.take_length]
     refine zf ?_;simp only [go_sem]
     refine zq ?_
     refine zb fun K hK=>?_;simp only [go_sem];refine hK _ ?_;clear hK K;refine zw (zk [2]) ?_;simp only [go_sem];refine zw (sub_frz 2 19 (by omega) rfl rfl (by simp)) ?_;refine ze ?_;simp only [go_sem]
     try exact List.take_of_length_le (by simp)
theorem eqn105 : eqN Try.prog 105 = some 3:=by kernel_rfl
theorem nights_law (N : List (List Mt)) (v b : List Int) (hI : (∀ l ∈ N,∀ m ∈ l,WfM m) ∧ (∀ x ∈ v,I64 x) ∧ ∀ x ∈ b,I64 x) (teams : Int) (twice : Bool) (hte : I64 teams) : ACalls Try.prog 11 [.ag [nightsR N,ints v,ints b],i64 teams,.bo twice] (.bo true):=by
 have hkn:=known_ok
 unfold I64 at hte
 refine acalls_st (rs:=[.bo true]) [.tmp 6] Try.func11 rfl (by kernel_rfl) Try.ntmps11 rfl (by simp) rfl fun C vs=>?_
 refine zq ?_
 refine zb fun K hK=>?_;simp only [go_sem];refine hK _ ?_;clear hK K;refine zw (sub_frzP 3 3 [nightsR N,ints v,ints b] (by omega) rfl rfl) ?_;refine zw (zk [1,2,3]) ?_;simp only [go_sem]
 repeat refine zq ?_
 refine awp_joinV (n:=181) (fun (_ : Unit) vs=>[(1,.r (i64 teams)),(2,.r (.bo twice)),(3,.r (.rp [nightsR N,ints v,ints b])),(34,.r (.bo (decide (110 < N.length ∨ 20 < v.length ∨ 20 < b.length))))]) (fun _ vs=>[]) (fun _=>True) (fun _ h=>h) ?_ ?_
 · by_cases h1 : 110 < N.length
   · have c1 : decide (110 < (N.length : Int)) = true:=decide_eq_true (by omega)
     refine zb fun K hK=>?_;simp only [go_sem,c1]
     intro _
     refine hK _ ?_;clear hK K
     refine ⟨(),trivial,zj [] ?_ ?_⟩
     · try simp only [go_sem]
       simp [h1]
     · try simp only [go_sem]
   · have c1 : decide (110 < (N.length : Int)) = false:=decide_eq_false (by omega)
     by_cases h3 : 20 < v.length
     · have c3 : decide (20 < (v.length : Int)) = true:=decide_eq_true (by omega)
       refine zb fun K hK=>?_;simp only [go_sem,c1,c3]
       repeat intro _
       refine hK _ ?_;clear hK K
       refine ⟨(),trivial,zj [] ?_ ?_⟩
       · try simp only [go_sem]
         simp [h3]
       · try simp only [go_sem]
     · have c3 : decide (20 < (v.length : Int)) = false:=decide_eq_false (by omega)
       refine zb fun K hK=>?_;simp only [go_sem,c1,c3]
       repeat intro _
       refine hK _ ?_;clear hK K
       refine ⟨(),trivial,zj [] ?_ ?_⟩
       · try simp only [go_sem]
         simp [h1,h3]
         try omega
       · try simp only [go_sem]
 intro _ vs _
 refine zc rfl (fun hc=>?_) (fun hc=>?_) <;> (try simp only [go_sem] at hc)
 · refine zq ?_
   refine zb fun K hK=>?_;simp only [go_sem]
   refine zh (hkn) rfl (by simp only [go_sem,i64,ints]) (by simp only [go_sem,i64,ints]) (by first | exact .inl rfl | exact .inr rfl) ?_
   (try simp only [go_sem]);refine hK _ ?_;clear hK K;refine zw (zk [6]) ?_;simp only [go_sem];refine ze ?_;simp only [go_sem]
 have hc1 : ¬ (110 < N.length ∨ 20 < v.length ∨ 20 < b.length):=by simpa using hc
 refine zx ?_
 try simp only [go_sem]
 repeat refine zq ?_
 refine zb fun K hK=>?_;simp only [go_sem];refine hK _ ?_;clear hK K;refine zw (zk [1,2,3,7]) ?_;simp only [go_sem];refine zd ?_
 refine awp_uptoV (n:=181) N.length (fun i vs=>[(1,.r (i64 teams)),(2,.r (.bo twice)),(3,.r (.rp [nightsR N,ints v,ints b])),(7,.r (i64 (i : Int)))])
  (fun i vs=>[]) (fun i=>∀ l ∈ N.take i,l.length ≤ 200) 0 (zj [] ?_ ?_) (Nat.zero_le _) (by simp) ?_
 · try simp only [go_sem]
   try rfl
 · try simp only [go_sem]
 · intro i vs hi hA
   repeat refine zq ?_
   refine zb fun K hK=>?_;simp only [go_sem]
   intro _
   refine hK _ ?_;clear hK K;refine zw (zk [1,2,3,7,40]) ?_;simp only [go_sem]
   refine zc rfl (fun hc=>?_) (fun hc=>?_) <;> (try simp only [go_sem] at hc)
   · have hil : i < N.length:=by omega
     obtain ⟨l,hl⟩:=opt_of_lt hil
     refine zx ?_
     try simp only [go_sem]
     refine zq ?_
     refine zd ?_
     refine zq ?_
     refine zb fun K hK=>?_;simp only [go_sem,hl,hil]
     intro _
     refine hK _ ?_;clear hK K;refine zw (zk [1,2,3,7,49]) ?_;simp only [go_sem]
     by_cases hc2 : 200 < l.length
     · skip
       refine zc rfl (fun hc=>?_) (fun hc=>?_) <;> (try simp only [go_sem] at hc)
       · refine zq ?_
         refine zb fun K hK=>?_;simp only [go_sem]
         refine zh (hkn) rfl (by simp only [go_sem,i64,ints]) (by simp only [go_sem,i64,ints]) (by first | exact .inl rfl | exact .inr rfl) ?_
         (try simp only [go_sem]);refine hK _ ?_;clear hK K;refine zw (zk [6]) ?_;simp only [go_sem];refine ze ?_;simp only [go_sem]
       · exact absurd hc2 (by first | omega | (simp at hc; omega))
     · skip
       refine zc rfl (fun hc=>?_) (fun hc=>?_) <;> (try simp only [go_sem] at hc)
       · exact absurd (show 200 < l.length by first | omega | (simp at hc; omega)) hc2
       · refine zx ?_
         try simp only [go_sem]
         refine zb fun K hK=>?_;simp only [go_sem];(try simp (disch:=omega) only [zI]);refine hK _ ?_;clear hK K
         try simp only [go_sem]
         refine ⟨by omega,fun z hz=>?_,zj [] ?_ ?_⟩
         · rw [take_of_opt hl,List.mem_append,List.mem_singleton] at hz
           rcases hz with hz | rfl
           · exact hA z hz
           · omega
         · try simp only [go_sem]
         · try simp only [go_sem]
   · have hil : i = N.length:=by omega
     subst hil
     rw [List.take_length] at hA
     have hni:=nights_ok N (by omega) fun l hl=>by have:=hA l hl; omega
     have hiv:=ints_ok v (by omega)
     have hib:=ints_ok b (by omega)
     have hrn:=refNights_ok N v b hI
     refine zf ?_;simp only [go_sem];refine zw (zk [1,2,3]) ?_;simp only [go_sem]
     refine zq ?_
     refine awp_joinV (n:=181) (fun (_ : Unit) vs=>[(1,.r (i64 teams)),(3,.r (.rp [nightsR N,ints v,ints b])),(2,.r (.bo twice)),(8,.r (if 2 ≤ teams ∧ teams ≤ 10 then nightsR (roundsV teams.toNat twice) else .ns)),(9,.r (i64 (if 2 ≤ teams ∧ teams ≤ 10 then 0 else 3)))]) (fun _ vs=>[]) (fun _=>True) (fun _ h=>h) ?_ ?_
     · by_cases ht : 2 ≤ teams ∧ teams ≤ 10
       · obtain ⟨n,hn⟩:=Int.eq_ofNat_of_zero_le (show 0 ≤ teams by omega)
         have hro:=Rounds_once n twice ⟨by omega,by omega⟩
         rw [if_pos ht,if_pos ht]
         subst hn
         rw [Int.toNat_natCast]
         refine zb fun K hK=>?_;simp only [go_sem]
         refine zh (hro) rfl (by simp only [go_sem,i64,ints]) (by simp only [go_sem,i64,ints]) (by first | exact .inl rfl | exact .inr rfl) ?_
         (try simp only [go_sem]);refine hK _ ?_;clear hK K
         refine ⟨(),trivial,zj [] ?_ ?_⟩
         · try simp only [go_sem]
         · try simp only [go_sem]
       · have hro:=Rounds_bad teams twice ht
         rw [if_neg ht,if_neg ht]
         refine zb fun K hK=>?_;simp only [go_sem]
         refine zh (hro) rfl (by simp only [go_sem,i64,ints]) (by simp only [go_sem,i64,ints]) (by first | exact .inl rfl | exact .inr rfl) ?_
         (try simp only [go_sem]);refine hK _ ?_;clear hK K
         refine ⟨(),trivial,zj [] ?_ ?_⟩
         · try simp only [go_sem]
         · try simp only [go_sem]
     intro _ vs _
     repeat refine zq ?_
     refine awp_joinV (n:=181) (fun (_ : Unit) vs=>[(1,.r (i64 teams)),(3,.r (.rp [nightsR N,ints v,ints b])),(2,.r (.bo twice)),(8,.r (if 2 ≤ teams ∧ teams ≤ 10 then nightsR (roundsV teams.toNat twice) else .ns)),(9,.r (i64 (if 2 ≤ teams ∧ teams ≤ 10 then 0 else 3))),(62,.r (.bo (decide (¬ (2 ≤ teams ∧ teams ≤ 10)))))]) (fun _ vs=>[]) (fun _=>True) (fun _ h=>h) ?_ ?_
     · by_cases h1 : teams < 2
       · have c1 : decide (teams < 2) = true:=decide_eq_true h1
         refine zb fun K hK=>?_;simp only [go_sem,c1];refine hK _ ?_;clear hK K
         refine ⟨(),trivial,zj [] ?_ ?_⟩
         · try simp only [go_sem]
           try simp
           try omega
         · try simp only [go_sem]
       · have c1 : decide (teams < 2) = false:=decide_eq_false h1
         refine zb fun K hK=>?_;simp only [go_sem,c1];refine hK _ ?_;clear hK K
         refine ⟨(),trivial,zj [] ?_ ?_⟩
         · try simp only [go_sem]
           try simp
           try omega
         · try simp only [go_sem]
     intro _ vs _
     refine awp_joinV (n:=181) (fun (_ : Unit) vs=>[(3,.r (.rp [nightsR N,ints v,ints b]))]) (fun _ vs=>[]) (fun _=>True) (fun _ h=>h) ?_ ?_
     · by_cases ht : 2 ≤ teams ∧ teams ≤ 10
       · obtain ⟨n,hn⟩:=Int.eq_ofNat_of_zero_le (show 0 ≤ teams by omega)
         rw [if_pos ht,if_pos ht]
         subst hn
         have htn : 2 ≤ n ∧ n ≤ 10:=by omega
         have hrr:=refRounds_ok n twice htn
         have hre:=rounds_eq twice htn
         rw [← hre] at hrr
         rw [Int.toNat_natCast]
         generalize roundsV n twice = Q at *
         refine zc rfl (fun hc=>?_) (fun hc=>?_) <;> (try simp only [go_sem] at hc)
         · exfalso
           first | omega | (simp at hc; omega)
         refine zq ?_
         refine zb fun K hK=>?_;simp only [go_sem]
         refine zh (hrr) rfl (by simp only [go_sem,i64,ints]) (by simp only [go_sem,i64,ints]) (by first | exact .inl rfl | exact .inr rfl) ?_
         (try simp only [go_sem]);refine hK _ ?_;clear hK K;refine zw (zk [3,8,9,10]) ?_;simp only [go_sem]
         repeat refine zq ?_
         refine zb fun K hK=>?_;simp only [go_sem,bne_self_eq_false]
         repeat intro _
         refine hK _ ?_;clear hK K;refine zw (zk [3,8,10,81]) ?_;simp only [go_sem]
         refine zc rfl (fun hc=>?_) (fun hc=>?_) <;> (try simp only [go_sem] at hc)
         refine zx ?_
         try simp only [go_sem]
         refine zq ?_
         refine zb fun K hK=>?_;simp only [go_sem];refine hK _ ?_;clear hK K;refine zw (zk [3,8,10,11]) ?_;simp only [go_sem];refine zd ?_
         refine awp_uptoV (n:=181) Q.length (fun i vs=>[(3,.r (.rp [nightsR N,ints v,ints b])),(8,.r (nightsR Q)),(10,.r (nightsR Q)),(11,.r (i64 (i : Int)))])
          (fun i vs=>[]) (fun _=>True) 0 (zj [] ?_ ?_) (Nat.zero_le _) trivial ?_
         · try simp only [go_sem]
           try rfl
         · try simp only [go_sem]
         · intro i vs hi _
           repeat refine zq ?_
           refine zb fun K hK=>?_;simp only [go_sem]
           intro _
           refine hK _ ?_;clear hK K;refine zw (zk [3,8,10,11,85]) ?_;simp only [go_sem]
           refine zc rfl (fun hc=>?_) (fun hc=>?_) <;> (try simp only [go_sem] at hc)
           · have hil : i < Q.length:=by omega
             obtain ⟨l,hl⟩:=opt_of_lt hil
             have hsa:=same_ok l l
             rw [decide_eq_true rfl] at hsa
             refine zx ?_
             try simp only [go_sem]
             refine zq ?_
             refine zd ?_
             refine zq ?_
             refine zg follows (by decide +kernel) (by kernel_rfl) fun K hK=>?_;simp only [go_sem,hl,hil]
             refine zh (hsa) rfl (by simp only [go_sem,i64,ints,hl,hil]) (by simp only [go_sem,i64,ints,hl,hil]) (by first | exact .inl rfl | exact .inr rfl) ?_
             (try simp only [go_sem,hl,hil]);refine hK _ ?_;clear hK K;refine zw (zk [3,8,10,11,97]) ?_;simp only [go_sem]
             refine zc rfl (fun hc=>?_) (fun hc=>?_) <;> (try simp only [go_sem] at hc)
             refine zx ?_
             try simp only [go_sem]
             refine zb fun K hK=>?_;simp only [go_sem];(try simp (disch:=omega) only [zI]);refine hK _ ?_;clear hK K
             try simp only [go_sem]
             refine ⟨by omega,zj [] ?_ ?_⟩
             · try simp only [go_sem]
             · try simp only [go_sem]
           · refine zf ?_;simp only [go_sem]
             refine ⟨(),zj [] ?_ ?_⟩
             · try simp only [go_sem]
             · try simp only [go_sem]
       · rw [if_neg ht,if_neg ht]
         refine zc rfl (fun hc=>?_) (fun hc=>?_) <;> (try simp only [go_sem] at hc)
         · refine zq ?_
           refine zb fun K hK=>?_;simp only [go_sem,bne_self_eq_false];refine hK _ ?_;clear hK K;refine zw (zk [3,69]) ?_;simp only [go_sem]
           refine zc rfl (fun hc=>?_) (fun hc=>?_) <;> (try simp only [go_sem] at hc)
           refine zx ?_
           try simp only [go_sem]
           refine ⟨(),zj [] ?_ ?_⟩
           · try simp only [go_sem]
           · try simp only [go_sem]
         · exfalso
           first | omega | (simp at hc; omega)
     intro _ vs _
     refine zq ?_
     refine zb fun K hK=>?_;simp only [go_sem]
     refine zh (hni) rfl (by simp only [go_sem,i64,ints]) (by simp only [go_sem,i64,ints]) (by first | exact .inl rfl | exact .inr rfl) ?_
     (try simp only [go_sem]);refine hK _ ?_;clear hK K;refine zw (zk [3,12]) ?_;simp only [go_sem]
     obtain ⟨CR,hCR,hCR1⟩ : ∃ CR : RV,ACalls Try.prog 46 [nightsR N,ints v,ints b] (.tu [CR,i64 (nightErr N v b)]) ∧ (CR = if nightErr N v b = 0 then .sl 3 ((clN N v b N.length).map clR) else .ns):=by
      by_cases he : nightErr N v b = 0
      · exact ⟨_,by rw [he]; exact clashes_good he,by rw [if_pos he]⟩
      · exact ⟨_,clashes_bad he,by rw [if_neg he]⟩
     rw [hCR1] at hCR
     refine zq ?_
     refine zg follows (by decide +kernel) (by kernel_rfl) fun K hK=>?_;simp only [go_sem]
     refine zh (hiv) rfl (by simp only [go_sem,i64,ints]) (by simp only [go_sem,i64,ints]) (by first | exact .inl rfl | exact .inr rfl) ?_
     (try simp only [go_sem])
     refine zh (hib) rfl (by simp only [go_sem,i64,ints]) (by simp only [go_sem,i64,ints]) (by first | exact .inl rfl | exact .inr rfl) ?_
     (try simp only [go_sem])
     refine zh (hCR) rfl (by simp only [go_sem,i64,ints]) (by simp only [go_sem,i64,ints]) (by first | exact .inl rfl | exact .inr rfl) ?_
     (try simp only [go_sem]);refine hK _ ?_;clear hK K;refine zw (zk [3,12,13,14]) ?_;simp only [go_sem]
     repeat refine zq ?_
     refine zb fun K hK=>?_;simp only [go_sem];refine hK _ ?_;clear hK K;refine zw (zk [3,12,13,14,15]) ?_;simp only [go_sem];refine zd ?_
     refine awp_uptoV (n:=181) N.length (fun i vs=>[(3,.r (.rp [nightsR N,ints v,ints b])),(12,.r (nightsR N)),(13,.r (if nightErr N v b = 0 then .sl 3 ((clN N v b N.length).map clR) else .ns)),(14,.r (i64 (nightErr N v b))),(15,.r (i64 (i : Int)))])
      (fun i vs=>[]) (fun _=>True) 0 (zj [] ?_ ?_) (Nat.zero_le _) trivial ?_
     · try simp only [go_sem]
       try rfl
     · try simp only [go_sem]
     · intro i vs hi _
       repeat refine zq ?_
       refine zb fun K hK=>?_;simp only [go_sem]
       intro _
       refine hK _ ?_;clear hK K;refine zw (zk [3,12,13,14,15,115]) ?_;simp only [go_sem]
       refine zc rfl (fun hc=>?_) (fun hc=>?_) <;> (try simp only [go_sem] at hc)
       · have hil : i < N.length:=by omega
         obtain ⟨l,hl⟩:=opt_of_lt hil
         have hsa:=same_ok l l
         rw [decide_eq_true rfl] at hsa
         refine zx ?_
         try simp only [go_sem]
         refine zq ?_
         refine zd ?_
         refine zq ?_
         refine zg follows (by decide +kernel) (by kernel_rfl) fun K hK=>?_;simp only [go_sem,hl,hil]
         refine zh (hsa) rfl (by simp only [go_sem,i64,ints,hl,hil]) (by simp only [go_sem,i64,ints,hl,hil]) (by first | exact .inl rfl | exact .inr rfl) ?_
         (try simp only [go_sem,hl,hil]);refine hK _ ?_;clear hK K;refine zw (zk [3,12,13,14,15,128]) ?_;simp only [go_sem]
         refine zc rfl (fun hc=>?_) (fun hc=>?_) <;> (try simp only [go_sem] at hc)
         refine zx ?_
         try simp only [go_sem]
         refine zb fun K hK=>?_;simp only [go_sem];(try simp (disch:=omega) only [zI]);refine hK _ ?_;clear hK K
         try simp only [go_sem]
         refine ⟨by omega,zj [] ?_ ?_⟩
         · try simp only [go_sem]
         · try simp only [go_sem]
       · refine zf ?_;simp only [go_sem];refine zw (zk [3,13,14]) ?_;simp only [go_sem]
         repeat refine zq ?_
         refine zb fun K hK=>?_;simp only [go_sem]
         refine zh (hrn) rfl (by simp only [go_sem,i64,ints]) (by simp only [go_sem,i64,ints]) (by first | exact .inl rfl | exact .inr rfl) ?_
         (try simp only [go_sem]);refine hK _ ?_;clear hK K;refine zw (zk [3,13,14,16]) ?_;simp only [go_sem]
         by_cases he : nightErr N v b = 0
         · have hrc:=refClashes_ok he
           rw [he,if_pos rfl]
           generalize clN N v b N.length = Q at *
           have hz : ((0 : Int) != 0) = false:=rfl
           refine zq ?_
           refine zb fun K hK=>?_;simp only [go_sem,hz];refine hK _ ?_;clear hK K;refine zw (zk [3,13,14,137]) ?_;simp only [go_sem]
           refine zc rfl (fun hc=>?_) (fun hc=>?_) <;> (try simp only [go_sem] at hc)
           refine zx ?_
           try simp only [go_sem]
           refine zq ?_
           refine zb fun K hK=>?_;simp only [go_sem]
           refine zh (hrc) rfl (by simp only [go_sem,i64,ints]) (by simp only [go_sem,i64,ints]) (by first | exact .inl rfl | exact .inr rfl) ?_
           (try simp only [go_sem]);refine hK _ ?_;clear hK K;refine zw (zk [13,14,17]) ?_;simp only [go_sem]
           repeat refine zq ?_
           refine zb fun K hK=>?_;simp only [go_sem,bne_self_eq_false]
           repeat intro _
           refine hK _ ?_;clear hK K;refine zw (zk [13,17,164]) ?_;simp only [go_sem]
           refine zc rfl (fun hc=>?_) (fun hc=>?_) <;> (try simp only [go_sem] at hc)
           refine zx ?_
           try simp only [go_sem]
           repeat refine zq ?_
           refine zb fun K hK=>?_;simp only [go_sem];refine hK _ ?_;clear hK K;refine zw (zk [13,17,18]) ?_;simp only [go_sem];refine zd ?_
           refine awp_uptoV (n:=181) Q.length (fun i vs=>[(13,.r (.sl 3 (Q.map clR))),(17,.r (.sl 3 (Q.map clR))),(18,.r (i64 (i : Int)))])
            (fun i vs=>[]) (fun _=>True) 0 (zj [] ?_ ?_) (Nat.zero_le _) trivial ?_
           · try simp only [go_sem]
             try rfl
           · try simp only [go_sem]
           · intro i vs hi _
             repeat refine zq ?_
             refine zb fun K hK=>?_;simp only [go_sem]
             intro _
             refine hK _ ?_;clear hK K;refine zw (zk [13,17,18,168]) ?_;simp only [go_sem]
             refine zc rfl (fun hc=>?_) (fun hc=>?_) <;> (try simp only [go_sem] at hc)
             · have hil : i < Q.length:=by omega
               obtain ⟨c,hc2⟩:=opt_of_lt hil
               refine zx ?_
               try simp only [go_sem]
               refine zq ?_
               refine zd ?_
               refine zq ?_
               refine zg follows (by decide +kernel) (by kernel_rfl) fun K hK=>?_;simp only [go_sem,hc2,hil,eqn105,beq_self_eq_true,Bool.and_self,Bool.not_true];refine hK _ ?_;clear hK K;refine zw (zk [13,17,18,179]) ?_;simp only [go_sem]
               refine zc rfl (fun hc=>?_) (fun hc=>?_) <;> (try simp only [go_sem] at hc)
               refine zx ?_
               try simp only [go_sem]
               refine zb fun K hK=>?_;simp only [go_sem];(try simp (disch:=omega) only [zI]);refine hK _ ?_;clear hK K
               try simp only [go_sem]
               refine ⟨by omega,zj [] ?_ ?_⟩
               · try simp only [go_sem]
               · try simp only [go_sem]
             · refine zf ?_;simp only [go_sem]
               refine zq ?_
               refine zb fun K hK=>?_;simp only [go_sem]
               refine zh (hkn) rfl (by simp only [go_sem,i64,ints]) (by simp only [go_sem,i64,ints]) (by first | exact .inl rfl | exact .inr rfl) ?_
               (try simp only [go_sem]);refine hK _ ?_;clear hK K;refine zw (zk [6]) ?_;simp only [go_sem];refine ze ?_;simp only [go_sem]
         · have heb : (nightErr N v b != 0) = true:=by simpa using he
           rw [if_neg he]
           refine zq ?_
           refine zb fun K hK=>?_;simp only [go_sem,heb];refine hK _ ?_;clear hK K;refine zw (zk [3,13,14,16,137]) ?_;simp only [go_sem]
           refine zc rfl (fun hc=>?_) (fun hc=>?_) <;> (try simp only [go_sem] at hc)
           refine zq ?_
           refine zb fun K hK=>?_;simp only [go_sem,beq_self_eq_true]
           repeat refine ⟨fun _=>?_,fun h=>by first | (cases h; done) | (simp at h)⟩
           refine zh (hkn) rfl (by simp only [go_sem,i64,ints,beq_self_eq_true]) (by simp only [go_sem,i64,ints,beq_self_eq_true]) (by first | exact .inl rfl | exact .inr rfl) ?_
           (try simp only [go_sem,beq_self_eq_true]);refine hK _ ?_;clear hK K;refine zw (zk [6]) ?_;simp only [go_sem];refine ze ?_;simp only [go_sem]
end Go.Proofs.Ytobokbhpeaakjaa

namespace Go.Oc
open Go Go.RowKit Go.ChangeShapes Go.WideShapes
inductive Sh where
 | int (k : IntKind)
 | bool
 | sl (es : List Sh)
def fieldsSh (P : Program) (sh : TypeId → Option (List Sh)) : List Field → Nat → Option (List Sh)
 | [],_=>some []
 | f :: fs, o =>
   match sh f.type with
   | some ss=>if f.offset == o && ss.length == P.cellsOf f.type then match fieldsSh P sh fs (o + ss.length) with | some q=>some (ss ++ q) | none=>none else none
   | none=>none
def shape (P : Program) : Nat → TypeId → Option (List Sh)
 | 0,_=>none
 | n + 1, t =>
   match P.underlying t with
   | some (.int k)=>some [.int k]
   | some .bool=>some [.bool]
   | some (.slice e) =>
     match shape P n e with
     | some ss=>if ss.length == P.cellsOf e && decide (0 < ss.length) then some [.sl ss] else none
     | none=>none
   | some (.array m e) =>
     match shape P n e with
     | some ss=>if ss.length == P.cellsOf e && P.cellsOf t == m * ss.length then some (List.replicate m ss).flatten else none
     | none=>none
   | some (.struct fs) =>
     match fieldsSh P (shape P n) fs.toList 0 with
     | some ss=>if ss.length == P.cellsOf t then some ss else none
     | none=>none
   | _=>none
mutual
def Fits : Sh → RV → Prop
 | .int k,x=>∃ n,x = .it k n ∧ (Lit.int k n).wf = true
 | .bool,x=>∃ b,x = .bo b
 | .sl ss,x=>∃ es,x = .sl ss.length es ∧ FitsE ss es
def FitsL : List Sh → List RV → Prop
 | [],xs=>xs = []
 | s :: ss,xs=>∃ y ys,xs = y :: ys ∧ Fits s y ∧ FitsL ss ys
def FitsE (ss : List Sh) : List (List RV) → Prop
 | []=>True
 | e :: es=>FitsL ss e ∧ FitsE ss es
end
theorem fitsL_append : ∀ {s1 s2 : List Sh} {x1 x2 : List RV},FitsL s1 x1 → FitsL s2 x2 → FitsL (s1 ++ s2) (x1 ++ x2)
 | [],_,_,_,h1,h2=>by simp only [FitsL] at h1; subst h1; simpa using h2
 | s :: ss, s2, x1, x2, h1, h2 => by
   simp only [FitsL] at h1
   obtain ⟨y,ys,rfl,h3,h4⟩:=h1
   simp only [List.cons_append,FitsL];exact ⟨y,_,rfl,h3,fitsL_append h4 h2⟩
theorem fitsL_length : ∀ {ss : List Sh} {xs : List RV},FitsL ss xs → xs.length = ss.length
 | [],_,h=>by simp only [FitsL] at h; subst h; rfl
 | s :: ss, _, h => by
   simp only [FitsL] at h
   obtain ⟨y,ys,rfl,_,h⟩:=h
   simp [fitsL_length h]
theorem fitsE_of : ∀ {ss : List Sh} {es : List (List RV)},(∀ e ∈ es,FitsL ss e) → FitsE ss es
 | _,[],_=>by simp only [FitsE]
 | ss,e :: es,h=>by simp only [FitsE]; exact ⟨h e (by simp),fitsE_of fun x hx=>h x (by simp [hx])⟩
theorem choice {α : Type} {Q : Nat → α → Prop} : ∀ (n : Nat),(∀ i,i < n → ∃ x,Q i x) → ∃ xs : List α,xs.length = n ∧ ∀ i x,xs[i]? = some x → Q i x
 | 0,_=>⟨[],rfl,by simp⟩
 | n + 1, h => by
   obtain ⟨xs,hl,hx⟩:=choice n fun i hi=>h i (by omega)
   obtain ⟨y,hy⟩:=h n (by omega)
   refine ⟨xs ++ [y],by simp [hl],fun i x hi=>?_⟩
   by_cases h1 : i < n
   · rw [List.getElem?_append_left (by omega)] at hi; exact hx i x hi
   · rw [List.getElem?_append_right (by omega)] at hi
     have : i = n:=by have:=(List.getElem?_eq_some_iff.1 hi).1; simp at this; omega
     subst this
     simp [hl] at hi
     exact hi ▸ hy
section
variable {w : World} {P : Program}
theorem cells?_get {base n : Nat} {a : Addr} {cs : List Value} (h : w.cells? base a n = some cs) : cs.length = n ∧ ∀ i,i < n → w.cell? (a.add i) = cs[i]?:=by
 unfold World.cells? at h
 split at h
 · exact ⟨by simpa using mapM_some_length h,fun i hi=>mapM_some_get h i i (by simp [hi])⟩
 · cases h
theorem cell_lt {a : Addr} {v : Value} (h : w.cell? a = some v) : a.block < w.heap.size:=by
 refine Decidable.byContradiction fun hn=>?_
 have : w.heap[a.block]? = none:=by simp; omega
 simp [World.cell?,this] at h
def old (w : World) : Nat → Prop:=fun b=>b < w.heap.size
theorem relC_of_cells {xs : List RV} {cs : List Value} {ad : Addr} (hV : RV.relV w (old w) xs cs) (hone : ∀ u ∈ cs,u.oneCell' = true) (hc : ∀ i,i < cs.length → w.cell? (ad.add i) = cs[i]?) : RV.relC w (old w) xs ad 0:=by
 refine RV.relC_of_get fun i x hx=>?_
 obtain ⟨u,hu,hr⟩:=RV.relV_get hV hx
 have hi:=(List.getElem?_eq_some_iff.1 hu).1
 refine ⟨u,?_,hone u (List.mem_of_getElem? hu),hr⟩
 rw [Nat.zero_add,hc i hi,hu]
variable {H : Type} {enc : TypeId × Value → H} {base : Nat} {spare : Nat → Bool} {held : Bool}
def Good3 (w : World) (ss : List Sh) (cs : List Value) : Prop:=∃ xs,FitsL ss xs ∧ RV.relV w (old w) xs cs ∧ ∀ u ∈ cs,u.oneCell' = true
theorem good3_append {s1 s2 : List Sh} {c1 c2 : List Value} (h1 : Good3 w s1 c1) (h2 : Good3 w s2 c2) : Good3 w (s1 ++ s2) (c1 ++ c2):=by
 obtain ⟨x1,f1,r1,o1⟩:=h1
 obtain ⟨x2,f2,r2,o2⟩:=h2
 refine ⟨x1 ++ x2,fitsL_append f1 f2,RV.relV_append r1 r2,fun u hu=>?_⟩
 rcases List.mem_append.1 hu with hu | hu
 · exact o1 u hu
 · exact o2 u hu
theorem good3_length {ss : List Sh} {cs : List Value} (h : Good3 w ss cs) : cs.length = ss.length:=by
 obtain ⟨xs,f,r,_⟩:=h
 rw [RV.relV_length r,fitsL_length f]
theorem trod_fits : ∀ (fuel n : Nat) (t : TypeId) (cs : List Value) (x : DataW H × List MemPlace) (ss : List Sh),DataW.trod enc P w base spare held fuel t cs = some x → shape P n t = some ss → Good3 w ss cs:=by
 intro fuel
 induction fuel with
 | zero=>intro n t cs x ss h; simp [DataW.trod] at h
 | succ fuel ih =>
   intro n t cs x ss h hs
   cases n with
   | zero=>simp [shape] at hs
   | succ n =>
     unfold shape at hs
     split at hs
     · rename_i k ht
       injection hs with hs; subst hs
       obtain ⟨m,rfl,_,hw⟩:=DataW.trod_int ht h
       exact ⟨[.it k m],by simp only [FitsL,Fits]; exact ⟨_,[],rfl,⟨m,rfl,hw⟩,rfl⟩,by simp only [RV.relV,RV.rel]; exact ⟨_,[],rfl,rfl,rfl⟩,by simp [Value.oneCell']⟩
     · rename_i ht
       injection hs with hs; subst hs
       obtain ⟨b,rfl,_⟩:=DataW.trod_bool ht h
       exact ⟨[.bo b],by simp only [FitsL,Fits]; exact ⟨_,[],rfl,⟨b,rfl⟩,rfl⟩,by simp only [RV.relV,RV.rel]; exact ⟨_,[],rfl,rfl,rfl⟩,by simp [Value.oneCell']⟩
     · rename_i e ht
       split at hs
       · rename_i es hes
         split at hs
         · rename_i hc
           simp only [Bool.and_eq_true,beq_iff_eq,decide_eq_true_eq] at hc
           injection hs with hs; subst hs
           rcases DataW.trod_slice ht h with ⟨rfl,_⟩ | ⟨a,len,cap,elems,rest,m,hm,rfl,_,_,hlc,hcm,hel,hget,_⟩
           · refine ⟨[.sl es.length []],?_,?_,by simp [Value.oneCell']⟩
             · simp only [FitsL,Fits];exact ⟨_,[],rfl,⟨[],rfl,by simp only [FitsE]⟩,rfl⟩
             · simp only [RV.relV,RV.rel];exact ⟨_,[],rfl,⟨none,0,rfl,Nat.le_refl _,Nat.zero_le _,fun h=>absurd rfl h⟩,rfl⟩
           · injection hm with hm; subst hm
             have hall : ∀ i,i < len → ∃ e',FitsL es e' ∧ e'.length = es.length ∧ RV.relC w (old w) e' (a.add (i * es.length)) 0 ∧ a.block < w.heap.size:=fun i hi=>by
              have h1:=hget i hi
              have h2 : i < elems.length:=by omega
              rw [List.getElem?_eq_getElem h2] at h1
              obtain ⟨ci,hci,htr⟩:=Option.bind_eq_some_iff.1 h1
              rw [← hc.1] at hci
              obtain ⟨hl,hcell⟩:=cells?_get hci
              obtain ⟨xs,f,r,o⟩:=ih n e ci _ es htr hes
              refine ⟨xs,f,fitsL_length f,relC_of_cells r o (fun j hj=>hcell j (by omega)),?_⟩
              have h3:=hcell 0 hc.2
              have h4 : 0 < ci.length:=by omega
              rw [List.getElem?_eq_getElem h4] at h3
              have:=cell_lt h3
              rwa [block_add,block_add] at this
             obtain ⟨els,hlen,hels⟩:=choice len hall
             refine ⟨[.sl es.length els],?_,?_,by simp [Value.oneCell']⟩
             · simp only [FitsL,Fits]
               refine ⟨_,[],rfl,⟨els,rfl,fitsE_of fun e' he'=>?_⟩,rfl⟩
               obtain ⟨i,hi⟩:=List.getElem?_of_mem he'
               exact (hels i e' hi).1
             · simp only [RV.relV,RV.rel]
               refine ⟨_,[],rfl,⟨some a,cap,by rw [hlen],by omega,hcm,fun hne=>?_⟩,rfl⟩
               obtain ⟨e0,he0⟩ : ∃ e0,els[0]? = some e0:=by
                cases els with
                | nil=>exact absurd rfl hne
                | cons a l=>exact ⟨a,rfl⟩
               refine ⟨a,rfl,(hels 0 e0 he0).2.2.2,RV.relE_of_get fun i e' he'=>?_⟩
               obtain ⟨_,q1,q2,_⟩:=hels i e' he'
               exact ⟨q1,RV.relC_unbase _ q2⟩
         · cases hs
       · cases hs
     · rename_i m e ht
       split at hs
       · rename_i es hes
         split at hs
         · rename_i hc
           simp only [Bool.and_eq_true,beq_iff_eq] at hc
           injection hs with hs; subst hs
           obtain ⟨xs,fm,hm,_,hcl,hxl,hget⟩:=DataW.trod_array ht h
           injection hm with hm; subst hm
           have key : ∀ j,j ≤ m → Good3 w (List.replicate j es).flatten (cs.take (j * es.length)):=by
            intro j
            induction j with
            | zero=>intro _; exact ⟨[],by simp [FitsL],by simp [RV.relV],by simp⟩
            | succ j ihj =>
              intro hj
              have h1:=hget j (by omega)
              have h2 : j < xs.length:=by omega
              rw [List.getElem?_eq_getElem h2,← hc.1] at h1
              have h3:=ih n e _ _ es h1 hes
              have:=good3_append (ihj (by omega)) h3
              rw [← List.take_add] at this
              rw [List.replicate_succ',List.flatten_append,Nat.add_mul]
              simpa using this
           have:=key m (Nat.le_refl _)
           rwa [← hc.2,← hcl,List.take_length] at this
         · cases hs
       · cases hs
     · rename_i fs ht
       split at hs
       · rename_i q hq
         split at hs
         · rename_i hc
           simp only [beq_iff_eq] at hc
           injection hs with hs; subst hs
           obtain ⟨xs,fm,hm,_,hcl,hxl,hget⟩:=DataW.trod_struct ht h
           injection hm with hm; subst hm
           have key : ∀ (l : List Field) (o : Nat) (q : List Sh),(∀ f ∈ l,∃ y,DataW.trod enc P w base spare held fuel f.type ((cs.drop f.offset).take (P.cellsOf f.type)) = some y) → fieldsSh P (shape P n) l o = some q → Good3 w q ((cs.drop o).take q.length):=by
            intro l
            induction l with
            | nil =>
              intro o q _ hq
              simp only [fieldsSh,Option.some.injEq] at hq
              subst hq
              exact ⟨[],by simp [FitsL],by simp [RV.relV],by simp⟩
            | cons f l ihl =>
              intro o q hall hq
              simp only [fieldsSh] at hq
              split at hq
              · rename_i s1 hs1
                split at hq
                · rename_i hc1
                  simp only [Bool.and_eq_true,beq_iff_eq] at hc1
                  split at hq
                  · rename_i q2 hq2
                    injection hq with hq; subst hq
                    obtain ⟨y,hy⟩:=hall f (by simp)
                    have g1:=ih n f.type _ _ s1 hy hs1
                    have g2:=ihl (o + s1.length) q2 (fun f' hf'=>hall f' (by simp [hf'])) hq2
                    rw [hc1.1,← hc1.2] at g1
                    have:=good3_append g1 g2
                    rw [← List.drop_drop,← List.take_add] at this
                    simpa using this
                  · cases hq
                · cases hq
              · cases hq
           have:=key fs.toList 0 q (fun f hf=>by
            obtain ⟨i,hi⟩:=List.getElem?_of_mem hf
            have hi' : fs[i]? = some f:=by simpa using hi
            have h1:=hget i f hi'
            have h2 : i < xs.length:=by have:=(Array.getElem?_eq_some_iff.1 hi').1; omega
            exact ⟨xs[i],by rw [h1]; exact List.getElem?_eq_getElem h2⟩) hq
           rwa [List.drop_zero,hc,← hcl,List.take_length] at this
         · cases hs
       · cases hs
     · cases hs
def FitsT (P : Program) (n : Nat) (t : TypeId) (x : RV) : Prop:=∃ ss,shape P n t = some ss ∧ if aggOf P t then ∃ xs,x = .ag xs ∧ FitsL ss xs else FitsL ss [x]
theorem arg_fits {n : Nat} {t : TypeId} {v : Value} {d : DataW H} {ps : List MemPlace} {r : Reach} {b0 : Nat} (hs : (shape P n t).isSome = true) (hval : Value.okWide P w r b0 t v) (h : DataW.Trod enc P w base spare held t v d ps) :
 ∃ x,FitsT P n t x ∧ x.rel w (old w) v:=by
 obtain ⟨ss,hss⟩:=Option.isSome_iff_exists.1 hs
 obtain ⟨fuel,hf⟩:=h
 obtain ⟨xs,f,r,o⟩:=trod_fits fuel n t _ _ ss hf hss
 have one : aggOf P t = false → v.cells.toList = [v] → ∃ x,FitsT P n t x ∧ x.rel w (old w) v:=fun ha hc=>by
  rw [hc] at r
  match xs,r with
  | [x], r =>
    simp only [RV.relV] at r
    obtain ⟨u,us,e,hr,_⟩:=r
    injection e with e1 e2
    subst e1
    exact ⟨x,⟨ss,hss,by rw [ha]; exact f⟩,hr⟩
  | [],r=>simp [RV.relV] at r
  | _ :: _ :: _, r =>
    simp only [RV.relV] at r
    obtain ⟨u,us,e,_,u2,us2,e2,_⟩:=r
    injection e with _ e
    rw [e2] at e; cases e
 cases n with
 | zero=>simp [shape] at hss
 | succ n =>
   have hss':=hss
   unfold shape at hss'
   split at hss'
   · rename_i k ht
     obtain ⟨m,rfl⟩:=okWide_int ht hval
     exact one (by simp [aggOf,ht]) rfl
   · rename_i ht
     obtain ⟨b,rfl⟩:=okWide_bool ht hval
     exact one (by simp [aggOf,ht]) rfl
   · rename_i e ht
     obtain ⟨a,l,c,rfl⟩:=okWide_slice ht hval
     exact one (by simp [aggOf,ht]) rfl
   · rename_i m e ht
     obtain ⟨cs,rfl⟩ : ∃ cs,v = .agg cs:=by
      simp only [Value.okWide,ht] at hval
      obtain ⟨cs,h1,_⟩:=hval
      exact ⟨cs,h1⟩
     exact ⟨.ag xs,⟨ss,hss,by simp only [aggOf,ht,if_true]; exact ⟨xs,rfl,f⟩⟩,by simp only [RV.rel]; exact ⟨cs,rfl,o,r⟩⟩
   · rename_i fs ht
     obtain ⟨cs,rfl,_⟩:=okWide_struct ht hval
     exact ⟨.ag xs,⟨ss,hss,by simp only [aggOf,ht,if_true]; exact ⟨xs,rfl,f⟩⟩,by simp only [RV.rel]; exact ⟨cs,rfl,o,r⟩⟩
   · cases hss'
theorem wf_i64 {n : Int} (h : (Lit.int .i64 n).wf = true) : -9223372036854775808 ≤ n ∧ n ≤ 9223372036854775807:=by
 simp only [Lit.wf,Bool.and_eq_true,decide_eq_true_eq] at h
 have h1 : IntKind.min .i64 = -9223372036854775808:=by decide
 have h2 : IntKind.max .i64 = 9223372036854775807:=by decide
 rw [h1,h2] at h
 exact h
theorem fitsE_ints : ∀ {es : List (List RV)},FitsE [.int .i64] es → ∃ l : List Int,es = l.map (fun x=>[.it .i64 x]) ∧ ∀ x ∈ l,-9223372036854775808 ≤ x ∧ x ≤ 9223372036854775807
 | [],_=>⟨[],rfl,by simp⟩
 | e :: es, h => by
   simp only [FitsE,FitsL,Fits] at h
   obtain ⟨⟨y,ys,rfl,⟨n,rfl,hn⟩,rfl⟩,h⟩:=h
   obtain ⟨l,rfl,hl⟩:=fitsE_ints h
   refine ⟨n :: l,rfl,fun x hx=>?_⟩
   rcases List.mem_cons.1 hx with rfl | hx
   · exact wf_i64 hn
   · exact hl x hx
theorem fitsT_ag {n : Nat} {t : TypeId} {x : RV} {ss : List Sh} (h : FitsT P n t x) (hs : shape P n t = some ss) (ha : aggOf P t = true) : ∃ xs,x = .ag xs ∧ FitsL ss xs:=by
 obtain ⟨s',h1,h2⟩:=h
 rw [hs] at h1; injection h1 with h1; subst h1
 rw [ha] at h2
 exact h2
theorem fitsT_one {n : Nat} {t : TypeId} {x : RV} {s : Sh} (h : FitsT P n t x) (hs : shape P n t = some [s]) (ha : aggOf P t = false) : Fits s x:=by
 obtain ⟨s',h1,h2⟩:=h
 rw [hs] at h1; injection h1 with h1; subst h1
 rw [ha] at h2
 simp only [Bool.false_eq_true,if_false,FitsL] at h2
 obtain ⟨y,ys,e,h3,_⟩:=h2
 injection e with e1 e2
 subst e1
 exact h3
theorem fitsT_int {n : Nat} {t : TypeId} {x : RV} (h : FitsT P n t x) (hs : shape P n t = some [.int .i64]) (ha : aggOf P t = false) : ∃ m,x = .it .i64 m ∧ -9223372036854775808 ≤ m ∧ m ≤ 9223372036854775807:=by
 have:=fitsT_one h hs ha
 simp only [Fits] at this
 obtain ⟨m,h1,h2⟩:=this
 exact ⟨m,h1,wf_i64 h2⟩
theorem fitsT_ints {n : Nat} {t : TypeId} {x : RV} (h : FitsT P n t x) (hs : shape P n t = some [.sl [.int .i64]]) (ha : aggOf P t = false) : ∃ l : List Int,x = .sl 1 (l.map (fun x=>[.it .i64 x])) ∧ ∀ x ∈ l,-9223372036854775808 ≤ x ∧ x ≤ 9223372036854775807:=by
 have:=fitsT_one h hs ha
 simp only [Fits] at this
 obtain ⟨es,h1,h2⟩:=this
 obtain ⟨l,rfl,hl⟩:=fitsE_ints h2
 exact ⟨l,h1,hl⟩
end
end Go.Oc

namespace Go.Proofs.Ytobokbhpeaakjaa
open Go Go.Oc
theorem fitsN_mts : ∀ {es : List (List RV)},FitsE [.int .i64,.int .i64,.bool,.int .i64,.int .i64] es → ∃ l : List Mt,es = l.map mtR ∧ ∀ m ∈ l,WfM m
 | [],_=>⟨[],rfl,by simp⟩
 | e :: es, h => by
   simp only [Oc.FitsE,Oc.FitsL,Oc.Fits] at h
   obtain ⟨⟨_,_,rfl,⟨a,rfl,ha⟩,_,_,rfl,⟨b,rfl,hb⟩,_,_,rfl,⟨p,rfl⟩,_,_,rfl,⟨c,rfl,hc⟩,_,_,rfl,⟨d,rfl,hd⟩,rfl⟩,h⟩:=h
   obtain ⟨l,rfl,hl⟩:=fitsN_mts h
   refine ⟨⟨a,b,p,c,d⟩ :: l,rfl,fun x hx=>?_⟩
   rcases List.mem_cons.1 hx with rfl | hx
   · exact ⟨wf_i64 ha,wf_i64 hb,wf_i64 hc,wf_i64 hd⟩
   · exact hl x hx
theorem fitsN_nights : ∀ {es : List (List RV)},FitsE [.sl [.int .i64,.int .i64,.bool,.int .i64,.int .i64]] es → ∃ N : List (List Mt),es = N.map (fun l=>[mtsR l]) ∧ ∀ l ∈ N,∀ m ∈ l,WfM m
 | [],_=>⟨[],rfl,by simp⟩
 | e :: es, h => by
   simp only [Oc.FitsE,Oc.FitsL,Oc.Fits] at h
   obtain ⟨⟨_,_,rfl,⟨q,rfl,hq⟩,rfl⟩,h⟩:=h
   obtain ⟨N,rfl,hN⟩:=fitsN_nights h
   obtain ⟨l,rfl,hl⟩:=fitsN_mts hq
   refine ⟨l :: N,rfl,fun x hx=>?_⟩
   rcases List.mem_cons.1 hx with rfl | hx
   · exact hl
   · exact hN x hx
theorem fits93 {x : RV} (h : FitsT Try.prog 9 93 x) : ∃ (N : List (List Mt)) (v b : List Int),x = .ag [nightsR N,ints v,ints b] ∧ (∀ l ∈ N,∀ m ∈ l,WfM m) ∧ (∀ x ∈ v,I64 x) ∧ ∀ x ∈ b,I64 x:=by
 obtain ⟨xs,rfl,hx⟩:=fitsT_ag (ss:=[.sl [.sl [.int .i64,.int .i64,.bool,.int .i64,.int .i64]],.sl [.int .i64],.sl [.int .i64]]) h (by kernel_rfl) (by kernel_rfl)
 simp only [Oc.FitsL,Oc.Fits] at hx
 obtain ⟨_,_,rfl,⟨es,rfl,hes⟩,_,_,rfl,⟨fs,rfl,hfs⟩,_,_,rfl,⟨gs,rfl,hgs⟩,rfl⟩:=hx
 obtain ⟨N,rfl,hN⟩:=fitsN_nights hes
 obtain ⟨v,rfl,hv⟩:=fitsE_ints hfs
 obtain ⟨b,rfl,hb⟩:=fitsE_ints hgs
 exact ⟨N,v,b,rfl,hN,hv,hb⟩
theorem fits3 {x : RV} (h : FitsT Try.prog 9 3 x) : ∃ n : Int,x = i64 n ∧ I64 n:=by
 obtain ⟨m,h1,h2⟩:=fitsT_int h (by kernel_rfl) (by kernel_rfl)
 exact ⟨m,h1,h2⟩
theorem fits4 {x : RV} (h : FitsT Try.prog 9 4 x) : ∃ p : Bool,x = .bo p:=by
 have:=fitsT_one (s:=.bool) h (by kernel_rfl) (by kernel_rfl)
 simp only [Oc.Fits] at this
 exact this
end Go.Proofs.Ytobokbhpeaakjaa

namespace Go.Oc
open Go Go.RowKit
theorem wf_u8 {n : Int} (h : (Lit.int .u8 n).wf = true) : 0 ≤ n ∧ n ≤ 255:=by
 simp only [Lit.wf,Bool.and_eq_true,decide_eq_true_eq] at h
 have h1 : IntKind.min .u8 = 0:=by decide
 have h2 : IntKind.max .u8 = 255:=by decide
 rw [h1,h2] at h
 exact h
theorem wf_u16 {n : Int} (h : (Lit.int .u16 n).wf = true) : 0 ≤ n ∧ n ≤ 65535:=by
 simp only [Lit.wf,Bool.and_eq_true,decide_eq_true_eq] at h
 have h1 : IntKind.min .u16 = 0:=by decide
 have h2 : IntKind.max .u16 = 65535:=by decide
 rw [h1,h2] at h
 exact h
theorem wf_u32 {n : Int} (h : (Lit.int .u32 n).wf = true) : 0 ≤ n ∧ n ≤ 4294967295:=by
 simp only [Lit.wf,Bool.and_eq_true,decide_eq_true_eq] at h
 have h1 : IntKind.min .u32 = 0:=by decide
 have h2 : IntKind.max .u32 = 4294967295:=by decide
 rw [h1,h2] at h
 exact h
theorem fitsE_u8 : ∀ {es : List (List RV)},FitsE [.int .u8] es → ∃ l : List Int,es = l.map (fun x=>[.it .u8 x]) ∧ ∀ x ∈ l,0 ≤ x ∧ x ≤ 255
 | [],_=>⟨[],rfl,by simp⟩
 | e :: es, h => by
   simp only [FitsE,FitsL,Fits] at h
   obtain ⟨⟨y,ys,rfl,⟨n,rfl,hn⟩,rfl⟩,h⟩:=h
   obtain ⟨l,rfl,hl⟩:=fitsE_u8 h
   refine ⟨n :: l,rfl,fun x hx=>?_⟩
   rcases List.mem_cons.1 hx with rfl | hx
   · exact wf_u8 hn
   · exact hl x hx
theorem fitsE_u16 : ∀ {es : List (List RV)},FitsE [.int .u16] es → ∃ l : List Int,es = l.map (fun x=>[.it .u16 x]) ∧ ∀ x ∈ l,0 ≤ x ∧ x ≤ 65535
 | [],_=>⟨[],rfl,by simp⟩
 | e :: es, h => by
   simp only [FitsE,FitsL,Fits] at h
   obtain ⟨⟨y,ys,rfl,⟨n,rfl,hn⟩,rfl⟩,h⟩:=h
   obtain ⟨l,rfl,hl⟩:=fitsE_u16 h
   refine ⟨n :: l,rfl,fun x hx=>?_⟩
   rcases List.mem_cons.1 hx with rfl | hx
   · exact wf_u16 hn
   · exact hl x hx
end Go.Oc

namespace Go.Proofs.Ytobokbhpeaakjaa
open Go Go.Oc
theorem law11' {x0 x1 x2 : RV} (h0 : FitsT Try.prog 9 93 x0) (h1 : FitsT Try.prog 9 3 x1) (h2 : FitsT Try.prog 9 4 x2) : ACalls Try.prog 11 [x0,x1,x2] (.bo true):=by
 obtain ⟨N,v,b,rfl,hI⟩:=fits93 h0
 obtain ⟨n,rfl,hn⟩:=fits3 h1
 obtain ⟨p,rfl⟩:=fits4 h2
 exact nights_law N v b hI n p hn
end Go.Proofs.Ytobokbhpeaakjaa


namespace Go.Proofs.Ytobokbhpeaakjaa
open Go Go.Oc Go.ChangeShapes Go.WideShapes Go.RowKit
set_option linter.unusedVariables false
theorem own : ownKnob Try.prog.godebug = none := by kernel_rfl
theorem laidOut : laidOutB Try.prog = true := by kernel_rfl
set_option maxRecDepth 100000 in
theorem lifted (os : Os) (started : os.Started) (H : Type) (enc : TypeId × Value → H) :
    ReturnsInHanded {} Try.checked os 11 .any (Rows.tableNightsSpec.pre6 enc Try.prog Try.f11 Rows.tableNightsRow.domain false) (Rows.tableNightsSpec.post enc Try.prog Try.f11 false true false false) := by
  refine returnsInHanded_of_change (C := Try.checked) own started (by kernel_rfl) Try.func11
    (ChangeSpec.witness6 (enc := enc) (C := Try.checked) false ⟨#[], #[.agg #[.slice none 0 0, .slice none 0 0, .slice none 0 0], .int .i64 0, .bool false], []⟩ 8 (by kernel_rfl) (by kernel_rfl) (by kernel_rfl) (by kernel_rfl)) ?_
  intro W base args ds gs before hval0 hW hcnd _
  have hval : ∀ (j : Nat) t v, Try.f11.params[j]? = some t → args[j]? = some v → Value.okWide Try.prog W .any base t v := hval0
  have hW' := hW
  obtain ⟨p, q, hA0, hV, rfl, hfz, hnd⟩ := hW
  have hA : DataW.TrodAll enc Try.prog W 0 (fun _ => true) true Try.f11.params.toList args.toList ds p := hA0
  rw [Try.params11] at hA hval
  obtain ⟨v0, vs0, d0, ds0, p0, q0, hargs, rfl, rfl, h0, r0⟩ := trodAll_cons hA
  obtain ⟨v1, vs1, d1, ds1, p1, q1, rfl, rfl, rfl, h1, r1⟩ := trodAll_cons r0
  obtain ⟨v2, vs2, d2, ds2, p2, q2, rfl, rfl, rfl, h2, r2⟩ := trodAll_cons r1
  obtain ⟨rfl, rfl, rfl⟩ := trodAll_nil r2
  obtain rfl : args = #[v0, v1, v2] := by cases args; simp_all
  obtain ⟨rfl, rfl⟩ := trodVars_none hV
  have lt0 : ∀ x ∈ p0, x.block < W.heap.size := by obtain ⟨m, hm⟩ := h0; exact DataW.trod_lt m _ _ _ hm
  have lt1 : ∀ x ∈ p1, x.block < W.heap.size := by obtain ⟨m, hm⟩ := h1; exact DataW.trod_lt m _ _ _ hm
  have lt2 : ∀ x ∈ p2, x.block < W.heap.size := by obtain ⟨m, hm⟩ := h2; exact DataW.trod_lt m _ _ _ hm
  obtain ⟨x0, g0, e0⟩ := arg_fits (n := 9) (by kernel_rfl) (hval 0 93 v0 rfl rfl) h0
  obtain ⟨x1, g1, e1⟩ := arg_fits (n := 9) (by kernel_rfl) (hval 1 3 v1 rfl rfl) h1
  obtain ⟨x2, g2, e2⟩ := arg_fits (n := 9) (by kernel_rfl) (hval 2 4 v2 rfl rfl) h2
  clear hA0 hval0
  refine ((law11' g0 g1 g2).2 W (old W) #[v0, v1, v2] (fun _ h => h) (by simp only [RV.relV]; exact ⟨_, _, rfl, e0, _, _, rfl, e1, _, _, rfl, e2, rfl⟩)).mono fun e W' he => ?_
  obtain ⟨v, R', rfl, bel, _, _, _, hr⟩ := he
  simp only [RV.rel] at hr
  subst hr
  exact ⟨_, rfl, _, _, _, [], _, [], hW', trodAll_mk1 (shut_bool Try.underlying4 _), (trodAll_cons_mk (Below.trod laidOut (by kernel_rfl) (of_decide_eq_true (by kernel_rfl)) h0 bel lt0) (trodAll_cons_mk (Below.trod laidOut (by kernel_rfl) (of_decide_eq_true (by kernel_rfl)) h1 bel lt1) (trodAll_cons_mk (Below.trod laidOut (by kernel_rfl) (of_decide_eq_true (by kernel_rfl)) h2 bel lt2) trodAll_mk0))), rfl, bel.frame _, fun h => by cases h⟩
theorem over : Rows.tableNightsRow.holds Try.pinned (OpenSpec.ofChange Rows.tableNightsSpec) :=
  OpenClaim.holds_of_wide 11 Try.f11 rfl rfl rfl rfl rfl rfl rfl ⟨rfl, rfl, rfl, rfl, rfl⟩ rfl rfl rfl rfl rfl (by kernel_rfl) Try.func11 (by kernel_rfl)
    (of_decide_eq_true (by kernel_rfl)) (by unfold Func.isWrapper; first | (rw [if_pos (by decide +kernel)]; kernel_rfl) | (rw [if_neg (by decide +kernel)]; exact ⟨rfl, rfl⟩))
    (fun os started H enc _ => lifted os started H enc)
theorem tableNights_holds : Rows.TableNightsSaid := over
#print axioms tableNights_holds
end Go.Proofs.Ytobokbhpeaakjaa

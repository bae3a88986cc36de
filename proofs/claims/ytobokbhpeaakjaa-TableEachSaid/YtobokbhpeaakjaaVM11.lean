/- Part 11 of the texts of this claim. -/
import Derived.Test.YtobokbhpeaakjaaVM10
import Derived.Test.YtobokbhpeaakjaaVM9
namespace Go.Proofs.Ytobokbhpeaakjaa
open Go Go.Oc
set_option linter.unusedSimpArgs false
set_option linter.unusedVariables false
set_option maxRecDepth 8000
set_option maxHeartbeats 4000000
def zeroW : Rw:=⟨0,0,0,0,0,0,0,0⟩
def atK (w : Nat → Rw) (i k : Nat) : Nat:=((List.range k).filter fun j=>betB (w j) (w i)).length
def tabK (w : Nat → Rw) (n i : Nat) : List Rw:=(List.range i).foldl (fun out j=>out.set (atK w j n) (w j)) (List.replicate n zeroW)
def DescP (lt : Rw → Rw → Bool) (R : List Rw) : Prop:=R.Pairwise fun a b=>lt a b = false
set_option maxHeartbeats 2000000
def sumF {α : Type} (f : α → Int) : List α → Int
 | []=>0
 | x :: l=>f x + sumF f l
theorem sumF_app {α : Type} (f : α → Int) : ∀ a b : List α,sumF f (a ++ b) = sumF f a + sumF f b
 | [],b=>by simp [sumF]
 | x :: a,b=>by simp only [List.cons_append,sumF,sumF_app f a b]; omega
def gPts (r : Tr) (x : Rw) : Int:=r.win * x.won + r.draw * x.dr
def gLeg (x : Rw) : Int:=x.f - x.g
def aPts (r : Tr) (m : Mt) : Int:=if m.g < m.f then r.win else if m.f = m.g then r.draw else 0
def bPts (r : Tr) (m : Mt) : Int:=if m.f < m.g then r.win else if m.f = m.g then r.draw else 0
def mPts (r : Tr) (m : Mt) : Int:=if m.p = true ∧ m.f = m.g then 2 * r.draw else if m.p = true then r.win else 0
structure RowI (r : Tr) (t : Nat) (x : Rw) : Prop where
 team : x.team = t
 pl : x.pl = x.won + x.dr + x.lo
 legs : x.f + x.g = r.legs * x.pl
 own : gPts r x - x.pts = if r.ded = [] then 0 else r.ded.getD t 0
def backL (l : List Mt) (s i : Nat) : List Mt:=(List.range i).foldl (fun b k=>l.getD ((k + s) % l.length) ⟨0,0,false,0,0⟩ :: b) []
def tabT (r : Tr) (l : List Mt) : List Rw:=sortW (rowsL r l)
def seenB (T : List Rw) (i : Nat) : List Bool:=(List.range 10).map fun j : Nat=>(T.take i).any fun w=>w.team == (j : Int)
def ctr (r : Tr) (m : Mt) (x : Int) (i : Nat) : Int:=(if m.h.toNat = i then (ptsV r x).1 else 0) + (if m.a.toNat = i then (ptsV r x).2 else 0)
def ctrs (r : Tr) : List Mt → List Int → Nat → Int
 | m :: ms,x :: xs,i=>ctr r m x i + ctrs r ms xs i
 | _,_,_=>0
def truthOf (r : Tr) (left : List Mt) (t : Th) (res : List Int) : Th :=
 ⟨t.res ++ res,(List.range 10).map fun i=>t.pts.getD i 0 + ctrs r left res i,(List.range 10).map fun i=>t.won.getD i 0 + ctrs r left res i⟩
def resL (r : Tr) : Nat → List (List Int)
 | 0=>[[]]
 | n + 1=>(xsOf r).flatMap fun x=>(resL r n).map (x :: ·)
set_option maxHeartbeats 2000000
def cM (r : Tr) (t : Nat) (m : Mt) : Int:=if m.p then (if m.h = (t : Int) then (ptsV r (resV m)).1 else if m.a = (t : Int) then (ptsV r (resV m)).2 else 0) else 0
def b1 (p : Prop) [Decidable p] : Int:=if p then 1 else 0
set_option maxRecDepth 8000
set_option maxHeartbeats 4000000
abbrev encI (e : Int × Int) : RV × RV:=(i64 e.1,i64 e.2)
def getM : List (Int × Int) → Int → Int
 | [],_=>0
 | (a,v) :: M,k=>if k = a then v else getM M k
def incM : List (Int × Int) → Int → List (Int × Int)
 | [],k=>[(k,1)]
 | (a,v) :: M,k=>if k = a then (a,v + 1) :: M else (a,v) :: incM M k
theorem getM_inc (k z : Int) : ∀ M,getM (incM M k) z = getM M z + b1 (k = z)
 | [] => by
   simp only [incM,getM,b1]
   by_cases h : z = k
   · subst h; simp
   · have h2 : ¬ k = z:=fun e=>h e.symm
     simp [h,h2]
 | (a, v) :: M => by
   have ih:=getM_inc k z M
   unfold incM
   by_cases h : k = a
   · subst h
     rw [if_pos rfl]
     simp only [getM,b1]
     by_cases h2 : z = k
     · rw [if_pos h2,if_pos h2,if_pos h2.symm]
     · rw [if_neg h2,if_neg h2,if_neg (fun e=>h2 e.symm)]; omega
   · rw [if_neg h]
     simp only [getM]
     by_cases h2 : z = a
     · subst h2
       rw [if_pos rfl,if_pos rfl]; unfold b1; rw [if_neg h]; omega
     · rw [if_neg h2,if_neg h2,ih]
theorem findI (k : Int) : ∀ (M : List (Int × Int)) (i : Nat),
 (findK (i64 k) (M.map encI) i = some none ∧ getM M k = 0 ∧ incM M k = M ++ [(k,1)]) ∨
 ∃ j,findK (i64 k) (M.map encI) i = some (some (i + j,i64 (getM M k))) ∧ incM M k = M.set j (k,getM M k + 1) ∧ j < M.length
 | [],i=>.inl ⟨rfl,rfl,rfl⟩
 | (a, v) :: M, i => by
   by_cases h : k = a
   · subst h
     refine .inr ⟨0,?_,?_,by simp⟩
     · simp [findK,sameK,getM]
     · simp [incM,getM]
   · have hb : (k == a) = false:=by simp [h]
     have e1 : getM ((a,v) :: M) k = getM M k:=by simp only [getM]; rw [if_neg h]
     have e2 : incM ((a,v) :: M) k = (a,v) :: incM M k:=by simp only [incM]; rw [if_neg h]
     have e3 : findK (i64 k) (((a,v) :: M).map encI) i = findK (i64 k) (M.map encI) (i + 1):=by simp only [List.map_cons,findK,sameK,if_true,hb]
     rw [e1,e2,e3]
     rcases findI k M (i + 1) with ⟨h1,h2,h3⟩ | ⟨j,h1,h2,h3⟩
     · exact .inl ⟨h1,h2,by rw [h3]; rfl⟩
     · refine .inr ⟨j + 1,?_,?_,by simp; omega⟩
       · rw [h1,show i + (j + 1) = i + 1 + j by omega]
       · rw [h2]; rfl
def tmM (l : List Mt) : List (Int × Int):=l.foldl (fun M m=>incM (incM M m.h) m.a) []
def vnM (v : List Int) (l : List Mt) : List (Int × Int):=l.foldl (fun M m=>incM M (v.getD m.h.toNat 0)) []
theorem tmM_snoc (l : List Mt) (m : Mt) : tmM (l ++ [m]) = incM (incM (tmM l) m.h) m.a:=by simp [tmM]
theorem vnM_snoc (v : List Int) (l : List Mt) (m : Mt) : vnM v (l ++ [m]) = incM (vnM v l) (v.getD m.h.toNat 0):=by simp [vnM]
def cntT (l : List Mt) (t : Int) : Int:=sumF (fun m=>b1 (m.h = t) + b1 (m.a = t)) l
def cntV (v : List Int) (l : List Mt) (z : Int) : Int:=sumF (fun m=>b1 (v.getD m.h.toNat 0 = z)) l
theorem tmM_get (l : List Mt) (t : Int) : getM (tmM l) t = cntT l t:=by
 induction l using snoc_ind with
 | h0=>rfl
 | h1 l m ih =>
   rw [tmM_snoc,getM_inc,getM_inc,ih]
   unfold cntT
   rw [sumF_app]
   simp only [sumF]; omega
theorem vnM_get (v : List Int) (l : List Mt) (z : Int) : getM (vnM v l) z = cntV v l z:=by
 induction l using snoc_ind with
 | h0=>rfl
 | h1 l m ih =>
   rw [vnM_snoc,getM_inc,ih]
   unfold cntV
   rw [sumF_app]
   simp only [sumF]; omega
theorem cntT_le (l : List Mt) (t : Int) : 0 ≤ cntT l t ∧ cntT l t ≤ 2 * l.length:=by
 unfold cntT
 induction l with
 | nil=>simp [sumF]
 | cons m l ih=>simp only [sumF,b1,List.length_cons] at ih ⊢; (repeat' split) <;> omega
theorem cntV_le (v : List Int) (l : List Mt) (z : Int) : 0 ≤ cntV v l z ∧ cntV v l z ≤ l.length:=by
 unfold cntV
 induction l with
 | nil=>simp [sumF]
 | cons m l ih=>simp only [sumF,b1,List.length_cons] at ih ⊢; (repeat' split) <;> omega
abbrev clR (c : Int × Int × Int) : List RV:=[i64 c.1,i64 c.2.1,i64 c.2.2]
def clT (l : List Mt) (i t : Nat) : List (Int × Int × Int):=(List.range t).flatMap fun (q : Nat)=>if 1 < cntT l q then [((i : Int),(q : Int),-1)] else []
def clB (v b : List Int) (l : List Mt) (i z : Nat) : List (Int × Int × Int):=(List.range z).flatMap fun (q : Nat)=>if b.getD q 0 < cntV v l q then [((i : Int),-1,(q : Int))] else []
def clN (N : List (List Mt)) (v b : List Int) (i : Nat) : List (Int × Int × Int):=(List.range i).flatMap fun (q : Nat)=>clT (N.getD q []) q v.length ++ clB v b (N.getD q []) q b.length
theorem clT_succ (l : List Mt) (i t : Nat) : clT l i (t + 1) = clT l i t ++ (if 1 < cntT l t then [((i : Int),(t : Int),-1)] else []):=by simp [clT,List.range_succ]
theorem clB_succ (v b : List Int) (l : List Mt) (i z : Nat) : clB v b l i (z + 1) = clB v b l i z ++ (if b.getD z 0 < cntV v l z then [((i : Int),-1,(z : Int))] else []):=by simp [clB,List.range_succ]
theorem clN_succ {N : List (List Mt)} {v b : List Int} {i : Nat} {l : List Mt} (h : N[i]? = some l) : clN N v b (i + 1) = clN N v b i ++ clT l i v.length ++ clB v b l i b.length:=by
 simp [clN,List.range_succ,List.getD_eq_getElem?_getD,h,List.append_assoc]
theorem clT_len (l : List Mt) (i : Nat) : ∀ t,(clT l i t).length ≤ t
 | 0=>by simp [clT]
 | t + 1=>by rw [clT_succ,List.length_append]; have:=clT_len l i t; split <;> simp <;> omega
theorem clB_len (v b : List Int) (l : List Mt) (i : Nat) : ∀ z,(clB v b l i z).length ≤ z
 | 0=>by simp [clB]
 | z + 1=>by rw [clB_succ,List.length_append]; have:=clB_len v b l i z; split <;> simp <;> omega
structure NightI (N : List (List Mt)) (v b : List Int) : Prop where
 nl : N.length ≤ 100
 ll : ∀ l ∈ N,l.length ≤ 180
 vl : v.length ≤ 10
 bl : b.length ≤ 10
 vs : ∀ x ∈ v,0 ≤ x ∧ x < b.length
 bs : ∀ x ∈ b,0 ≤ x ∧ x ≤ 9
 ms : ∀ l ∈ N,∀ m ∈ l,(0 ≤ m.h ∧ m.h < v.length) ∧ (0 ≤ m.a ∧ m.a < v.length) ∧ m.h ≠ m.a
theorem night_good {N : List (List Mt)} {v b : List Int} (h : nightErr N v b = 0) : NightI N v b:=by
 unfold nightErr at h
 by_cases c1 : 100 < N.length ∨ (N.any fun l=>decide (180 < l.length)) = true ∨ 10 < v.length ∨ 10 < b.length
 · rw [if_pos c1] at h; cases h
 rw [if_neg c1] at h
 by_cases c2 : withinL 0 ((b.length : Int) - 1) v = false ∨ withinL 0 9 b = false
 · rw [if_pos c2] at h; cases h
 rw [if_neg c2] at h
 by_cases c3 : (N.any fun l=>l.any (badN v)) = true
 · rw [if_pos c3] at h; cases h
 simp only [not_or] at c1 c2
 have c2a : withinL 0 ((b.length : Int) - 1) v = true:=by simpa using c2.1
 have c2b : withinL 0 9 b = true:=by simpa using c2.2
 refine ⟨by omega,fun l hl=>?_,by omega,by omega,fun x hx=>?_,fun x hx=>?_,fun l hl m hm=>?_⟩
 · by_cases hc : 180 < l.length
   · exact absurd (List.any_eq_true.2 ⟨l,hl,by simpa using hc⟩) c1.2.1
   · omega
 · have:=List.all_eq_true.1 c2a x hx
   simp at this; omega
 · have:=List.all_eq_true.1 c2b x hx
   simp at this; omega
 · have hb : badN v m = false:=by
    cases hb : badN v m with
    | false=>rfl
    | true=>exact absurd (List.any_eq_true.2 ⟨l,hl,List.any_eq_true.2 ⟨m,hm,hb⟩⟩) c3
   unfold badN at hb
   rw [Bool.or_eq_false_iff] at hb
   have h1 : withinL 0 ((v.length : Int) - 1) [m.h,m.a] = true:=by simpa using hb.1
   have h2:=withinL_two.1 h1
   have h3 : m.h ≠ m.a:=by simpa using hb.2
   omega
theorem inc_case (M : List (Int × Int)) (k : Int) : (findK (i64 k) (M.map encI) 0 = some none ∧ getM M k = 0 ∧ (incM M k).map encI = M.map encI ++ [(i64 k,i64 1)]) ∨
 ∃ j,findK (i64 k) (M.map encI) 0 = some (some (j,i64 (getM M k))) ∧ (incM M k).map encI = (M.map encI).set j (i64 k,i64 (getM M k + 1)):=by
 rcases findI k M 0 with ⟨h1,h2,h3⟩ | ⟨j,h1,h2,h3⟩
 · exact .inl ⟨h1,h2,by rw [h3,List.map_append]; rfl⟩
 · rw [Nat.zero_add] at h1
   exact .inr ⟨j,h1,by rw [h2,List.map_set]⟩
theorem inc_le {M : List (Int × Int)} {B : Int} (h : ∀ z,0 ≤ getM M z ∧ getM M z ≤ B) (k z : Int) : 0 ≤ getM (incM M k) z ∧ getM (incM M k) z ≤ B + 1:=by
 have:=h z
 rw [getM_inc]; unfold b1; split <;> omega
theorem clashes_good {N : List (List Mt)} {v b : List Int} (h : nightErr N v b = 0) : ACalls Try.prog 46 [nightsR N,ints v,ints b] (.tu [.sl 3 ((clN N v b N.length).map clR),i64 0]):=by
 have hch:=checkNights_ok N v b
 rw [h] at hch
 obtain ⟨g1,g2,g3,g4,g5,g6,g7⟩:=night_good h
 have hz : ((0 : Int) != 0) = false:=rfl
 refine acalls_st (rs:=[.sl 3 ((clN N v b N.length).map clR),i64 0]) [.tmp 6,.tmp 7] Try.func46 rfl (by kernel_rfl) Try.ntmps46 rfl (by simp) rfl fun C vs=>?_
 repeat refine zq ?_
 refine zb fun K hK=>?_;simp only [go_sem];(try simp (disch:=omega) only [zI]);repeat first | intro _ | refine ⟨by omega,?_⟩
 refine hK _ ?_;clear hK K;refine zw (zk [0,1,2,6]) ?_;simp only [go_sem]
 repeat refine zq ?_
 refine zb fun K hK=>?_;simp only [go_sem];(try simp (disch:=omega) only [zI])
 refine zh (hch) rfl (by simp only [go_sem,i64,ints]) (by simp only [go_sem,i64,ints]) (by first | exact .inl rfl | exact .inr rfl) ?_
 (try simp only [go_sem]);(try simp (disch:=omega) only [zI]);repeat first | intro _ | refine ⟨by omega,?_⟩
 refine hK _ ?_;clear hK K;refine zw (zk [0,1,2,6,8]) ?_;simp only [go_sem]
 repeat refine zq ?_
 refine zb fun K hK=>?_;simp only [go_sem,hz];(try simp (disch:=omega) only [zI]);repeat first | intro _ | refine ⟨by omega,?_⟩
 refine hK _ ?_;clear hK K;refine zw (zk [0,1,2,6,8,23]) ?_;simp only [go_sem]
 repeat refine zq ?_
 refine zc rfl (fun hc=>?_) (fun hc=>?_) <;> (try simp only [go_sem] at hc)
 refine zx ?_
 try simp only [go_sem]
 refine zw (sub_own 6 73 105 3 (by omega) rfl) ?_
 repeat refine zq ?_
 refine zb fun K hK=>?_;simp only [go_sem];(try simp (disch:=omega) only [zI]);repeat first | intro _ | refine ⟨by omega,?_⟩
 refine hK _ ?_;clear hK K;refine zw (zk [1,2,6,25,26,27]) ?_;simp only [go_sem]
 repeat refine zq ?_
 refine zd ?_
 refine awp_uptoV (n:=96) N.length (fun i vs=>[(1,.r (ints v)),(2,.r (ints b)),(6,.os 73 (vs 73) 3 0 (clN N v b i).length),(25,.r (nightsR N)),(26,.r (i64 (N.length : Int))),(27,.r (i64 (i : Int)))])
  (fun i vs=>[(73,.arr 105 3 ((clN N v b i).map clR))]) (fun i=>(clN N v b i).length ≤ 20 * i) 0 (zj [] ?_ ?_) (Nat.zero_le _) (by simp [clN]) ?_
 · try simp only [go_sem]
   try rfl
 · try simp only [go_sem]
   try rfl
 · intro i vs hi hI
   repeat refine zq ?_
   refine zb fun K hK=>?_;simp only [go_sem];(try simp (disch:=omega) only [zI]);repeat first | intro _ | refine ⟨by omega,?_⟩
   refine hK _ ?_;clear hK K;refine zw (zk [1,2,6,25,26,27,28]) ?_;simp only [go_sem]
   repeat refine zq ?_
   refine zc rfl (fun hc=>?_) (fun hc=>?_) <;> (try simp only [go_sem] at hc)
   · have hil : i < N.length:=by omega
     obtain ⟨l,hl⟩:=opt_of_lt hil
     have hll:=g2 l (mem_of_opt hl)
     have hms:=g7 l (mem_of_opt hl)
     have hsu:=clN_succ (v:=v) (b:=b) hl
     have hTl:=clT_len l i
     have hBl:=clB_len v b l i
     rw [hsu]
     generalize clN N v b i = C at *
     refine zx ?_
     try simp only [go_sem]
     repeat refine zq ?_
     refine zd ?_
     repeat refine zq ?_
     refine zb fun K hK=>?_;simp only [go_sem,hl,hil];(try simp (disch:=omega) only [zI]);repeat first | intro _ | refine ⟨by omega,?_⟩
     refine hK _ ?_;clear hK K;refine zw (zk [1,2,6,9,10,25,26,27]) ?_;simp only [go_sem]
     repeat refine zq ?_
     refine zb fun K hK=>?_;simp only [go_sem];(try simp (disch:=omega) only [zI]);repeat first | intro _ | refine ⟨by omega,?_⟩
     refine hK _ ?_;clear hK K;refine zw (zk [1,2,6,9,10,11,12,25,26,27]) ?_;simp only [go_sem]
     repeat refine zq ?_
     refine zb fun K hK=>?_;simp only [go_sem];(try simp (disch:=omega) only [zI]);repeat first | intro _ | refine ⟨by omega,?_⟩
     refine hK _ ?_;clear hK K;refine zw (zk [1,2,6,9,10,11,12,25,26,27,34,35,36]) ?_;simp only [go_sem]
     repeat refine zq ?_
     refine zd ?_
     refine awp_uptoV (n:=96) l.length (fun j vs=>[(1,.r (ints v)),(2,.r (ints b)),(6,.os 73 (vs 73) 3 0 C.length),(9,.r (i64 (i : Int))),(11,.mp 32 (vs 32)),(12,.mp 33 (vs 33)),(25,.r (nightsR N)),(26,.r (i64 (N.length : Int))),(27,.r (i64 (i : Int))),(34,.r (mtsR l)),(35,.r (i64 (l.length : Int))),(36,.r (i64 (j : Int)))])
      (fun j vs=>[(32,.mp ((tmM (l.take j)).map encI)),(33,.mp ((vnM v (l.take j)).map encI)),(73,.arr 105 3 (C.map clR))]) (fun _=>True) 0 (zj [] ?_ ?_) (Nat.zero_le _) trivial ?_
     · try simp only [go_sem]
       try rfl
     · try simp only [go_sem]
       try rfl
     · intro j vs hj _
       repeat refine zq ?_
       refine zb fun K hK=>?_;simp only [go_sem];(try simp (disch:=omega) only [zI]);repeat first | intro _ | refine ⟨by omega,?_⟩
       refine hK _ ?_;clear hK K;refine zw (zk [1,2,6,9,11,12,25,26,27,34,35,36,37]) ?_;simp only [go_sem]
       repeat refine zq ?_
       refine zc rfl (fun hc=>?_) (fun hc=>?_) <;> (try simp only [go_sem] at hc)
       · have hjl : j < l.length:=by omega
         obtain ⟨m,hm⟩:=opt_of_lt hjl
         obtain ⟨m1,m2,m3⟩:=hms m (mem_of_opt hm)
         obtain ⟨h,hh⟩:=Int.eq_ofNat_of_zero_le m1.1
         have hvl : h < v.length:=by omega
         obtain ⟨w,hw⟩:=opt_of_lt hvl
         have hwg : v.getD m.h.toNat 0 = w:=by rw [hh,Int.toNat_natCast,List.getD_eq_getElem?_getD,hw]; rfl
         have hts:=tmM_snoc (l.take j) m
         have hvs:=vnM_snoc v (l.take j) m
         rw [← take_of_opt hm] at hts hvs
         rw [hwg] at hvs
         have hb0 : ∀ z,0 ≤ getM (tmM (l.take j)) z ∧ getM (tmM (l.take j)) z ≤ 400:=fun z=>by
          rw [tmM_get]; have:=cntT_le (l.take j) z; rw [List.length_take] at this; omega
         have hb1:=inc_le hb0 m.h
         have hb2 : ∀ z,0 ≤ getM (vnM v (l.take j)) z ∧ getM (vnM v (l.take j)) z ≤ 400:=fun z=>by
          rw [vnM_get]; have:=cntV_le v (l.take j) z; rw [List.length_take] at this; omega
         rw [hts,hvs]
         generalize tmM (l.take j) = A at *
         generalize vnM v (l.take j) = D at *
         refine zx ?_
         try simp only [go_sem]
         repeat refine zq ?_
         refine zd ?_
         repeat refine zq ?_
         refine zb fun K hK=>?_;simp only [go_sem,hm,hjl];(try simp (disch:=omega) only [zI]);repeat first | intro _ | refine ⟨by omega,?_⟩
         refine hK _ ?_;clear hK K;refine zw (sub_frzP 14 14 (mtR m) (by omega) rfl rfl) ?_;refine zw (zk [1,2,6,9,11,12,25,26,27,34,35,36,14]) ?_;simp only [go_sem]
         repeat refine zq ?_
         refine awp_joinV (n:=96) (fun (_ : Unit) vs=>[(1,.r (ints v)),(2,.r (ints b)),(6,.os 73 (vs 73) 3 0 C.length),(9,.r (i64 (i : Int))),(11,.mp 32 (vs 32)),(12,.mp 33 (vs 33)),(25,.r (nightsR N)),(26,.r (i64 (N.length : Int))),(27,.r (i64 (i : Int))),(34,.r (mtsR l)),(35,.r (i64 (l.length : Int))),(36,.r (i64 (j : Int))),(14,.r (.rp (mtR m)))]) (fun _ vs=>[(32,.mp ((incM A m.h).map encI)),(33,.mp (D.map encI)),(73,.arr 105 3 (C.map clR))]) (fun _=>True) (fun _ h=>h) ?_ ?_
         · rcases inc_case (A) (m.h) with ⟨f1,f2,f3⟩ | ⟨q,f1,f3⟩
           · rw [f3]
             repeat refine zq ?_
             refine zb fun K hK=>?_;simp only [go_sem,f1,Option.map_some,Option.map_none];(try simp (disch:=omega) only [zI]);repeat first | intro _ | refine ⟨by omega,?_⟩
             repeat first | intro _ | refine ⟨by omega,?_⟩
             refine hK _ ?_;clear hK K
             refine ⟨(),trivial,zj [] ?_ ?_⟩
             · try simp only [go_sem]
             · try simp only [go_sem]
           · rw [f3]
             have fb:=hb0 m.h
             generalize getM (A) (m.h) = g at *
             repeat refine zq ?_
             refine zb fun K hK=>?_;simp only [go_sem,f1,Option.map_some,Option.map_none];(try simp (disch:=omega) only [zI]);repeat first | intro _ | refine ⟨by omega,?_⟩
             repeat first | intro _ | refine ⟨by omega,?_⟩
             refine hK _ ?_;clear hK K
             refine ⟨(),trivial,zj [] ?_ ?_⟩
             · try simp only [go_sem]
             · try simp only [go_sem]
         intro _ vs _
         repeat refine zq ?_
         refine awp_joinV (n:=96) (fun (_ : Unit) vs=>[(1,.r (ints v)),(2,.r (ints b)),(6,.os 73 (vs 73) 3 0 C.length),(9,.r (i64 (i : Int))),(11,.mp 32 (vs 32)),(12,.mp 33 (vs 33)),(25,.r (nightsR N)),(26,.r (i64 (N.length : Int))),(27,.r (i64 (i : Int))),(34,.r (mtsR l)),(35,.r (i64 (l.length : Int))),(36,.r (i64 (j : Int))),(14,.r (.rp (mtR m)))]) (fun _ vs=>[(32,.mp ((incM (incM A m.h) m.a).map encI)),(33,.mp (D.map encI)),(73,.arr 105 3 (C.map clR))]) (fun _=>True) (fun _ h=>h) ?_ ?_
         · rcases inc_case (incM A m.h) (m.a) with ⟨f1,f2,f3⟩ | ⟨q,f1,f3⟩
           · rw [f3]
             repeat refine zq ?_
             refine zb fun K hK=>?_;simp only [go_sem,f1,Option.map_some,Option.map_none];(try simp (disch:=omega) only [zI]);repeat first | intro _ | refine ⟨by omega,?_⟩
             repeat first | intro _ | refine ⟨by omega,?_⟩
             refine hK _ ?_;clear hK K
             refine ⟨(),trivial,zj [] ?_ ?_⟩
             · try simp only [go_sem]
             · try simp only [go_sem]
           · rw [f3]
             have fb:=hb1 m.a
             generalize getM (incM A m.h) (m.a) = g at *
             repeat refine zq ?_
             refine zb fun K hK=>?_;simp only [go_sem,f1,Option.map_some,Option.map_none];(try simp (disch:=omega) only [zI]);repeat first | intro _ | refine ⟨by omega,?_⟩
             repeat first | intro _ | refine ⟨by omega,?_⟩
             refine hK _ ?_;clear hK K
             refine ⟨(),trivial,zj [] ?_ ?_⟩
             · try simp only [go_sem]
             · try simp only [go_sem]
         intro _ vs _
         repeat refine zq ?_
         refine awp_joinV (n:=96) (fun (_ : Unit) vs=>[(1,.r (ints v)),(2,.r (ints b)),(6,.os 73 (vs 73) 3 0 C.length),(9,.r (i64 (i : Int))),(11,.mp 32 (vs 32)),(12,.mp 33 (vs 33)),(25,.r (nightsR N)),(26,.r (i64 (N.length : Int))),(27,.r (i64 (i : Int))),(34,.r (mtsR l)),(35,.r (i64 (l.length : Int))),(36,.r (i64 (j : Int)))]) (fun _ vs=>[(32,.mp ((incM (incM A m.h) m.a).map encI)),(33,.mp ((incM D w).map encI)),(73,.arr 105 3 (C.map clR))]) (fun _=>True) (fun _ h=>h) ?_ ?_
         · rcases inc_case (D) (w) with ⟨f1,f2,f3⟩ | ⟨q,f1,f3⟩
           · rw [f3]
             repeat refine zq ?_
             refine zb fun K hK=>?_;simp only [go_sem,f1,Option.map_some,Option.map_none,hh,hw,hvl];(try simp (disch:=omega) only [zI]);repeat first | intro _ | refine ⟨by omega,?_⟩
             repeat first | intro _ | refine ⟨by omega,?_⟩
             refine hK _ ?_;clear hK K
             refine ⟨(),trivial,zj [] ?_ ?_⟩
             · try simp only [go_sem]
             · try simp only [go_sem]
               try rw [hh]
           · rw [f3]
             have fb:=hb2 w
             generalize getM (D) (w) = g at *
             repeat refine zq ?_
             refine zb fun K hK=>?_;simp only [go_sem,f1,Option.map_some,Option.map_none,hh,hw,hvl];(try simp (disch:=omega) only [zI]);repeat first | intro _ | refine ⟨by omega,?_⟩
             repeat first | intro _ | refine ⟨by omega,?_⟩
             refine hK _ ?_;clear hK K
             refine ⟨(),trivial,zj [] ?_ ?_⟩
             · try simp only [go_sem]
             · try simp only [go_sem]
               try rw [hh]
         intro _ vs _
         repeat refine zq ?_
         refine zb fun K hK=>?_;simp only [go_sem];(try simp (disch:=omega) only [zI]);repeat first | intro _ | refine ⟨by omega,?_⟩
         refine hK _ ?_;clear hK K
         try simp only [go_sem]
         refine ⟨by omega,zj [] ?_ ?_⟩
         · try simp only [go_sem]
         · try simp only [go_sem]
       · have hjl : j = l.length:=by omega
         subst hjl
         rw [List.take_length]
         refine zf ?_;simp only [go_sem];refine zw (zk [1,2,6,9,11,12,25,26,27]) ?_;simp only [go_sem]
         have hgT:=fun q : Int=>tmM_get l q
         have hgV:=fun q : Int=>vnM_get v l q
         have hcT:=fun q : Int=>cntT_le l q
         have hcV:=fun q : Int=>cntV_le v l q
         repeat refine zq ?_
         refine zb fun K hK=>?_;simp only [go_sem];(try simp (disch:=omega) only [zI]);repeat first | intro _ | refine ⟨by omega,?_⟩
         refine hK _ ?_;clear hK K;refine zw (zk [1,2,6,9,11,12,25,26,27,59,60,61]) ?_;simp only [go_sem]
         repeat refine zq ?_
         refine zd ?_
         have hC0 : C ++ clT l i 0 = C:=by simp [clT]
         refine awp_uptoV (n:=96) v.length (fun q vs=>[(1,.r (ints v)),(2,.r (ints b)),(6,.os 73 (vs 73) 3 0 (C ++ clT l i q).length),(9,.r (i64 (i : Int))),(11,.mp 32 (vs 32)),(12,.mp 33 (vs 33)),(25,.r (nightsR N)),(26,.r (i64 (N.length : Int))),(27,.r (i64 (i : Int))),(59,.r (ints v)),(60,.r (i64 (v.length : Int))),(61,.r (i64 (q : Int)))])
          (fun q vs=>[(32,.mp ((tmM l).map encI)),(33,.mp ((vnM v l).map encI)),(73,.arr 105 3 ((C ++ clT l i q).map clR))]) (fun _=>True) 0 (zj [] ?_ ?_) (Nat.zero_le _) trivial ?_
         · try simp only [go_sem]
           rw [hC0]
         · try simp only [go_sem]
           rw [hC0]
         · intro q vs hq _
           repeat refine zq ?_
           refine zb fun K hK=>?_;simp only [go_sem];(try simp (disch:=omega) only [zI]);repeat first | intro _ | refine ⟨by omega,?_⟩
           refine hK _ ?_;clear hK K;refine zw (zk [1,2,6,9,11,12,25,26,27,59,60,61,62]) ?_;simp only [go_sem]
           repeat refine zq ?_
           refine zc rfl (fun hc=>?_) (fun hc=>?_) <;> (try simp only [go_sem] at hc)
           · have hqv : q < v.length:=by omega
             have hcs:=clT_succ l i q
             have hgq:=hgT q
             have hcq:=hcT q
             have hEl : (C ++ clT l i q).length ≤ 20 * i + q:=by rw [List.length_append]; have:=hTl q; omega
             rw [hcs,← List.append_assoc]
             generalize C ++ clT l i q = E at *
             refine zx ?_
             try simp only [go_sem]
             repeat refine zq ?_
             refine zd ?_
             repeat refine zq ?_
             refine zb fun K hK=>?_;simp only [go_sem];(try simp (disch:=omega) only [zI]);repeat first | intro _ | refine ⟨by omega,?_⟩
             refine hK _ ?_;clear hK K;refine zw (zk [1,2,6,9,11,12,15,25,26,27,59,60,61]) ?_;simp only [go_sem]
             repeat refine zq ?_
             refine awp_joinV (n:=96) (fun (_ : Unit) vs=>[(1,.r (ints v)),(2,.r (ints b)),(6,.os 73 (vs 73) 3 0 E.length),(9,.r (i64 (i : Int))),(11,.mp 32 (vs 32)),(12,.mp 33 (vs 33)),(25,.r (nightsR N)),(26,.r (i64 (N.length : Int))),(27,.r (i64 (i : Int))),(59,.r (ints v)),(60,.r (i64 (v.length : Int))),(61,.r (i64 (q : Int))),(15,.r (i64 (q : Int))),(67,.r (.bo (decide (1 < cntT l q))))]) (fun _ vs=>[(32,.mp ((tmM l).map encI)),(33,.mp ((vnM v l).map encI)),(73,.arr 105 3 (E.map clR))]) (fun _=>True) (fun _ h=>h) ?_ ?_
             · rcases inc_case (tmM l) (q : Int) with ⟨f1,f2,_⟩ | ⟨p,f1,_⟩
               · rw [f2] at hgq
                 rw [← hgq]
                 repeat refine zq ?_
                 refine zb fun K hK=>?_;simp only [go_sem,f1,Option.map_some,Option.map_none];(try simp (disch:=omega) only [zI]);repeat first | intro _ | refine ⟨by omega,?_⟩
                 repeat first | intro _ | refine ⟨by omega,?_⟩
                 refine hK _ ?_;clear hK K
                 refine ⟨(),trivial,zj [] ?_ ?_⟩
                 · try simp only [go_sem]
                 · try simp only [go_sem]
               · rw [hgq] at f1
                 generalize cntT l q = g at *
                 repeat refine zq ?_
                 refine zb fun K hK=>?_;simp only [go_sem,f1,Option.map_some,Option.map_none];(try simp (disch:=omega) only [zI]);repeat first | intro _ | refine ⟨by omega,?_⟩
                 repeat first | intro _ | refine ⟨by omega,?_⟩
                 refine hK _ ?_;clear hK K
                 refine ⟨(),trivial,zj [] ?_ ?_⟩
                 · try simp only [go_sem]
                 · try simp only [go_sem]
             intro _ vs _
             by_cases hc1 : 1 < cntT l q
             · rw [if_pos hc1]
               repeat refine zq ?_
               refine zc rfl (fun hc=>?_) (fun hc=>?_) <;> (try simp only [go_sem] at hc)
               · repeat refine zq ?_
                 refine zb fun K hK=>?_;simp only [go_sem,List.length_map];(try simp (disch:=omega) only [zI]);repeat first | intro _ | refine ⟨by omega,?_⟩
                 refine hK _ ?_;clear hK K;refine zw (zk [1,2,6,9,11,12,25,26,27,59,60,61]) ?_;simp only [go_sem]
                 repeat refine zq ?_
                 refine zb fun K hK=>?_;simp only [go_sem];(try simp (disch:=omega) only [zI]);repeat first | intro _ | refine ⟨by omega,?_⟩
                 refine hK _ ?_;clear hK K
                 try simp only [go_sem]
                 refine ⟨by omega,zj [] ?_ ?_⟩
                 · try simp only [go_sem]
                   simp
                 · try simp only [go_sem]
                   simp
               · exact absurd hc1 (by simpa using hc)
             · rw [if_neg hc1,List.append_nil]
               repeat refine zq ?_
               refine zc rfl (fun hc=>?_) (fun hc=>?_) <;> (try simp only [go_sem] at hc)
               · exact absurd (by simpa using hc) hc1
               · refine zx ?_
                 try simp only [go_sem]
                 repeat refine zq ?_
                 refine zb fun K hK=>?_;simp only [go_sem];(try simp (disch:=omega) only [zI]);repeat first | intro _ | refine ⟨by omega,?_⟩
                 refine hK _ ?_;clear hK K
                 try simp only [go_sem]
                 refine ⟨by omega,zj [] ?_ ?_⟩
                 · try simp only [go_sem]
                 · try simp only [go_sem]
           · have hqv : q = v.length:=by omega
             subst hqv
             refine zf ?_;simp only [go_sem]
             have hEl : (C ++ clT l i v.length).length ≤ 20 * i + v.length:=by rw [List.length_append]; have:=hTl v.length; omega
             generalize C ++ clT l i v.length = E at *
             refine zw (zk [1,2,6,9,12,25,26,27]) ?_;simp only [go_sem]
             repeat refine zq ?_
             refine zb fun K hK=>?_;simp only [go_sem];(try simp (disch:=omega) only [zI]);repeat first | intro _ | refine ⟨by omega,?_⟩
             refine hK _ ?_;clear hK K;refine zw (zk [1,2,6,9,12,25,26,27,75,76,77]) ?_;simp only [go_sem]
             have hE0 : E ++ clB v b l i 0 = E:=by simp [clB]
             repeat refine zq ?_
             refine zd ?_
             refine awp_uptoV (n:=96) b.length (fun z vs=>[(1,.r (ints v)),(2,.r (ints b)),(6,.os 73 (vs 73) 3 0 (E ++ clB v b l i z).length),(9,.r (i64 (i : Int))),(12,.mp 33 (vs 33)),(25,.r (nightsR N)),(26,.r (i64 (N.length : Int))),(27,.r (i64 (i : Int))),(75,.r (ints b)),(76,.r (i64 (b.length : Int))),(77,.r (i64 (z : Int)))])
              (fun z vs=>[(33,.mp ((vnM v l).map encI)),(73,.arr 105 3 ((E ++ clB v b l i z).map clR))]) (fun _=>True) 0 (zj [32] ?_ ?_) (Nat.zero_le _) trivial ?_
             · try simp only [go_sem]
               rw [hE0]
             · try simp only [go_sem]
               rw [hE0]
             · intro z vs hz2 _
               repeat refine zq ?_
               refine zb fun K hK=>?_;simp only [go_sem];(try simp (disch:=omega) only [zI]);repeat first | intro _ | refine ⟨by omega,?_⟩
               refine hK _ ?_;clear hK K;refine zw (zk [1,2,6,9,12,25,26,27,75,76,77,78]) ?_;simp only [go_sem]
               repeat refine zq ?_
               refine zc rfl (fun hc=>?_) (fun hc=>?_) <;> (try simp only [go_sem] at hc)
               · have hzb : z < b.length:=by omega
                 obtain ⟨y,hy⟩:=opt_of_lt hzb
                 have hyg : b.getD z 0 = y:=by rw [List.getD_eq_getElem?_getD,hy]; rfl
                 have hcs:=clB_succ v b l i z
                 have hgz:=hgV z
                 have hcz:=hcV z
                 have hFl : (E ++ clB v b l i z).length ≤ 20 * i + v.length + z:=by rw [List.length_append]; have:=hBl z; omega
                 rw [hcs,hyg,← List.append_assoc]
                 generalize E ++ clB v b l i z = G at *
                 refine zx ?_
                 try simp only [go_sem]
                 repeat refine zq ?_
                 refine zd ?_
                 repeat refine zq ?_
                 refine zb fun K hK=>?_;simp only [go_sem,hy,hzb];(try simp (disch:=omega) only [zI]);repeat first | intro _ | refine ⟨by omega,?_⟩
                 refine hK _ ?_;clear hK K;refine zw (zk [1,2,6,9,12,16,17,25,26,27,75,76,77]) ?_;simp only [go_sem]
                 repeat refine zq ?_
                 refine awp_joinV (n:=96) (fun (_ : Unit) vs=>[(1,.r (ints v)),(2,.r (ints b)),(6,.os 73 (vs 73) 3 0 G.length),(9,.r (i64 (i : Int))),(12,.mp 33 (vs 33)),(25,.r (nightsR N)),(26,.r (i64 (N.length : Int))),(27,.r (i64 (i : Int))),(75,.r (ints b)),(76,.r (i64 (b.length : Int))),(77,.r (i64 (z : Int))),(16,.r (i64 (z : Int))),(86,.r (.bo (decide (y < cntV v l z))))]) (fun _ vs=>[(33,.mp ((vnM v l).map encI)),(73,.arr 105 3 (G.map clR))]) (fun _=>True) (fun _ h=>h) ?_ ?_
                 · rcases inc_case (vnM v l) (z : Int) with ⟨f1,f2,_⟩ | ⟨p,f1,_⟩
                   · rw [f2] at hgz
                     rw [← hgz]
                     repeat refine zq ?_
                     refine zb fun K hK=>?_;simp only [go_sem,f1,Option.map_some,Option.map_none];(try simp (disch:=omega) only [zI]);repeat first | intro _ | refine ⟨by omega,?_⟩
                     repeat first | intro _ | refine ⟨by omega,?_⟩
                     refine hK _ ?_;clear hK K
                     refine ⟨(),trivial,zj [] ?_ ?_⟩
                     · try simp only [go_sem]
                     · try simp only [go_sem]
                   · rw [hgz] at f1
                     generalize cntV v l z = g at *
                     repeat refine zq ?_
                     refine zb fun K hK=>?_;simp only [go_sem,f1,Option.map_some,Option.map_none];(try simp (disch:=omega) only [zI]);repeat first | intro _ | refine ⟨by omega,?_⟩
                     repeat first | intro _ | refine ⟨by omega,?_⟩
                     refine hK _ ?_;clear hK K
                     refine ⟨(),trivial,zj [] ?_ ?_⟩
                     · try simp only [go_sem]
                     · try simp only [go_sem]
                 intro _ vs _
                 by_cases hc1 : y < cntV v l z
                 · rw [if_pos hc1]
                   repeat refine zq ?_
                   refine zc rfl (fun hc=>?_) (fun hc=>?_) <;> (try simp only [go_sem] at hc)
                   · repeat refine zq ?_
                     refine zb fun K hK=>?_;simp only [go_sem,List.length_map];(try simp (disch:=omega) only [zI]);repeat first | intro _ | refine ⟨by omega,?_⟩
                     refine hK _ ?_;clear hK K;refine zw (zk [1,2,6,9,12,25,26,27,75,76,77]) ?_;simp only [go_sem]
                     repeat refine zq ?_
                     refine zb fun K hK=>?_;simp only [go_sem];(try simp (disch:=omega) only [zI]);repeat first | intro _ | refine ⟨by omega,?_⟩
                     refine hK _ ?_;clear hK K
                     try simp only [go_sem]
                     refine ⟨by omega,zj [] ?_ ?_⟩
                     · try simp only [go_sem]
                       simp
                     · try simp only [go_sem]
                       simp
                   · exact absurd hc1 (by simpa using hc)
                 · rw [if_neg hc1,List.append_nil]
                   repeat refine zq ?_
                   refine zc rfl (fun hc=>?_) (fun hc=>?_) <;> (try simp only [go_sem] at hc)
                   · exact absurd (by simpa using hc) hc1
                   · refine zx ?_
                     try simp only [go_sem]
                     repeat refine zq ?_
                     refine zb fun K hK=>?_;simp only [go_sem];(try simp (disch:=omega) only [zI]);repeat first | intro _ | refine ⟨by omega,?_⟩
                     refine hK _ ?_;clear hK K
                     try simp only [go_sem]
                     refine ⟨by omega,zj [] ?_ ?_⟩
                     · try simp only [go_sem]
                     · try simp only [go_sem]
               · have hzb : z = b.length:=by omega
                 subst hzb
                 have hFl : (E ++ clB v b l i b.length).length ≤ 20 * i + 20:=by rw [List.length_append]; have:=hBl b.length; omega
                 generalize E ++ clB v b l i b.length = G at *
                 refine zf ?_;simp only [go_sem]
                 repeat refine zq ?_
                 refine zb fun K hK=>?_;simp only [go_sem];(try simp (disch:=omega) only [zI]);repeat first | intro _ | refine ⟨by omega,?_⟩
                 refine hK _ ?_;clear hK K
                 try simp only [go_sem]
                 refine ⟨by omega,by omega,zj [33] ?_ ?_⟩
                 · try simp only [go_sem]
                 · try simp only [go_sem]
   · have hil : i = N.length:=by omega
     subst hil
     refine zf ?_;simp only [go_sem]
     repeat refine zq ?_
     refine zb fun K hK=>?_;simp only [go_sem];(try simp (disch:=omega) only [zI]);repeat first | intro _ | refine ⟨by omega,?_⟩
     refine hK _ ?_;clear hK K;refine zw (zk [6,7]) ?_;simp only [go_sem];refine zw (sub_frz 6 73 (by omega) rfl rfl (by simp)) ?_;refine ze ?_;simp only [go_sem]
     try exact List.take_of_length_le (by simp)
theorem aR_drop {L : List RV} {i : Nat} {x : RV} (h : L[i]? = some x) : (L.map AV.r).drop i = .r x :: (L.map AV.r).drop (i + 1):=by
 refine drop_of_opt ?_
 simp [h]
theorem aR_set {L : List RV} {i : Nat} {y : RV} (h : i < L.length) : (L.map AV.r).take i ++ (AV.r y :: (L.map AV.r).drop (i + 1)) = (L.set i y).map AV.r:=by
 rw [show (L.set i y).map AV.r = (L.map AV.r).set i (.r y) by simp [List.map_set],List.set_eq_take_append_cons_drop,if_pos (by simpa using h)]
def metI (m : Mt) : Nat:=m.h.toNat * 10 + m.a.toNat
def metS (C : List Int) (m : Mt) : List Int:=C.set (metI m) (C.getD (metI m) 0 + 1)
def metL (L : List Mt) : List Int:=L.foldl metS (List.replicate 100 0)
theorem metL_snoc (L : List Mt) (m : Mt) : metL (L ++ [m]) = metS (metL L) m:=by simp [metL]
theorem metL_len (L : List Mt) : (metL L).length = 100:=by
 induction L using snoc_ind with
 | h0=>rfl
 | h1 l a ih=>rw [metL_snoc,metS,List.length_set,ih]
theorem metL_le (L : List Mt) : ∀ x ∈ metL L,0 ≤ x ∧ x ≤ L.length:=by
 induction L using snoc_ind with
 | h0=>intro x hx; rw [metL,List.foldl_nil,List.mem_replicate] at hx; simp [hx.2]
 | h1 l a ih =>
   intro x hx
   rw [metL_snoc,metS] at hx
   rw [List.length_append]
   simp only [List.length_cons,List.length_nil]
   rcases List.mem_or_eq_of_mem_set hx with h | h
   · have:=ih x h; omega
   · have hg : 0 ≤ (metL l).getD (metI a) 0 ∧ (metL l).getD (metI a) 0 ≤ l.length:=by
      rw [List.getD_eq_getElem?_getD]
      cases e : (metL l)[metI a]? with
      | none=>simp
      | some z=>exact ih z (List.mem_of_getElem? e)
     omega
def rngV (n : Nat) : List Int:=(List.range n).map fun (i : Nat)=>(i : Int)
def onesV (n : Nat) : List Int:=List.replicate n 1
def metOk (n : Nat) (tw : Bool) (C : List Int) : Bool :=
 (List.range n).all fun i=>C.getD (i * 10 + i) 9 == 0 && (List.range i).all fun k =>
  if tw then C.getD (i * 10 + k) 9 == 1 && C.getD (k * 10 + i) 9 == 1 else C.getD (i * 10 + k) 9 + C.getD (k * 10 + i) 9 == 1
def eachB (n : Nat) (tw : Bool) : Bool :=
 nightErr (roundsV n tw) (rngV n) (onesV n) == 0 && (clN (roundsV n tw) (rngV n) (onesV n) (roundsV n tw).length).isEmpty &&
 (roundsV n tw).all (fun l=>l.length == n / 2 && l.all fun m=>decide (0 ≤ m.h) && decide (m.h < n) && decide (0 ≤ m.a) && decide (m.a < n) && !m.p && m.f == 0 && m.g == 0) &&
 decide ((roundsV n tw).length ≤ 100) && metOk n tw (metL (roundsV n tw).flatten)
theorem each_ok : ∀ n,n ≤ 8 → ∀ tw,eachB (2 + n) tw = true:=by decide +kernel
def btS (w : List Bool) (P : List (Int × Int)) (B : List Bool) (i : Nat) : List Bool :=
 if i < w.length then B.set (if w.getD i false then ((P.getD i (0,0)).2).toNat else ((P.getD i (0,0)).1).toNat) true else B
def btL (w : List Bool) (P : List (Int × Int)) (i : Nat) : List Bool:=(List.range i).foldl (btS w P) (List.replicate 8 false)
theorem btL_succ (w : List Bool) (P : List (Int × Int)) (i : Nat) : btL w P (i + 1) = btS w P (btL w P i) i:=by simp [btL,List.range_succ]
theorem btL_len (w : List Bool) (P : List (Int × Int)) : ∀ i,(btL w P i).length = 8
 | 0=>rfl
 | i + 1 => by
   rw [btL_succ,btS]
   split
   · rw [List.length_set,btL_len w P i]
   · exact btL_len w P i
def someT (n : Nat) : List Int:=(List.range n).map fun (i : Nat)=>Int.tmod (7 * (i : Int)) 8
def leftN (T : List Int) (B : List Bool) (i : Nat) : Nat:=((T.take i).filter fun t=>!B.getD t.toNat false).length
def brOk (n : Nat) (w : List Bool) : Bool :=
 let P:=(bracketV (someT n) w).1
 let z:=(bracketV (someT n) w).2
 brErr (someT n) w == 0 && decide (n / 2 ≤ P.length) && decide (P.length ≤ n - 1) && (decide (0 ≤ z) == (w.length == n - 1)) && decide (w.length ≤ P.length) && decide (-1 ≤ z) &&
 ((List.range P.length).all fun i => decide (0 ≤ (P.getD i (0, 0)).1) && decide ((P.getD i (0, 0)).1 ≤ 7) && decide (0 ≤ (P.getD i (0, 0)).2) && decide ((P.getD i (0, 0)).2 ≤ 7) && (P.getD i (0, 0)).1 != (P.getD i (0, 0)).2 &&
   !(btL w P i).getD ((P.getD i (0,0)).1).toNat true && !(btL w P i).getD ((P.getD i (0,0)).2).toNat true) &&
 (decide (z < 0) || (decide (z < 8) && leftN (someT n) (btL w P P.length) n == 1 && !(btL w P P.length).getD z.toNat true))
def allW : Nat → List (List Bool)
 | 0=>[[]]
 | k + 1=>[] :: (allW k).flatMap fun w=>[true :: w,false :: w]
theorem allW_mem : ∀ {k : Nat} {w : List Bool},w.length ≤ k → w ∈ allW k
 | 0,[],_=>by simp [allW]
 | 0,_ :: _,h=>by simp at h
 | k + 1,[],_=>by simp [allW]
 | k + 1, b :: w, h => by
   simp only [List.length_cons] at h
   have ih:=allW_mem (k:=k) (w:=w) (by omega)
   simp only [allW,List.mem_cons,List.mem_flatMap]
   refine .inr ⟨w,ih,?_⟩
   cases b <;> simp
theorem brOk2 : ((allW 1).all fun w=>brOk 2 w) = true:=by decide +kernel
theorem brOk4 : ((allW 3).all fun w=>brOk 4 w) = true:=by decide +kernel
theorem brOk8 : ((allW 7).all fun w=>brOk 8 w) = true:=by decide +kernel
theorem br_ok {n : Nat} (hn : n = 2 ∨ n = 4 ∨ n = 8) {w : List Bool} (hw : w.length ≤ n - 1) : brOk n w = true:=by
 rcases hn with rfl | rfl | rfl
 · exact List.all_eq_true.1 brOk2 w (allW_mem hw)
 · exact List.all_eq_true.1 brOk4 w (allW_mem hw)
 · exact List.all_eq_true.1 brOk8 w (allW_mem hw)
set_option maxHeartbeats 4000000
theorem nights_okE (N : List (List Mt)) (hN : N.length ≤ 1000) (hl : ∀ l ∈ N,l.length ≤ 1000) : ACalls Try.prog 45 [nightsR N] (nightsR N):=by
 refine acalls_st (rs:=[nightsR N]) [.tmp 2] Try.func45 rfl (by kernel_rfl) Try.ntmps45 rfl (by simp) rfl fun C vs=>?_
 repeat refine zq ?_
 refine zb fun K hK=>?_;simp only [go_sem];(try simp (disch:=omega) only [zI]);repeat first | intro _ | refine ⟨by omega,?_⟩
 refine hK _ ?_;clear hK K;refine zw (zk [0,2]) ?_;simp only [go_sem]
 repeat refine zq ?_
 refine zb fun K hK=>?_;simp only [go_sem];(try simp (disch:=omega) only [zI]);repeat first | intro _ | refine ⟨by omega,?_⟩
 refine hK _ ?_;clear hK K;refine zw (sub_own 3 19 36 1 (by omega) rfl) ?_;refine zw (zk [0,3]) ?_;simp only [go_sem]
 repeat refine zq ?_
 refine zb fun K hK=>?_;simp only [go_sem];(try simp (disch:=omega) only [zI]);repeat first | intro _ | refine ⟨by omega,?_⟩
 refine hK _ ?_;clear hK K;refine zw (zk [0,3,4]) ?_;simp only [go_sem]
 repeat refine zq ?_
 refine zd ?_
 refine awp_uptoV (n:=21) N.length (fun i vs=>[(0,.r (nightsR N)),(3,.os 19 (vs 19) 1 0 i),(4,.r (i64 (i : Int)))])
  (fun i vs=>[(19,.arr 36 1 ((N.take i).map fun l=>[mtsR l]))]) (fun _=>True) 0 (zj [] ?_ ?_) (Nat.zero_le _) trivial ?_
 · try simp only [go_sem]
   try rfl
 · try simp only [go_sem]
 · intro i vs hi _
   repeat refine zq ?_
   refine zb fun K hK=>?_;simp only [go_sem];(try simp (disch:=omega) only [zI]);repeat first | intro _ | refine ⟨by omega,?_⟩
   refine hK _ ?_;clear hK K;refine zw (zk [0,3,4,9]) ?_;simp only [go_sem]
   repeat refine zq ?_
   refine zc rfl (fun hc=>?_) (fun hc=>?_) <;> (try simp only [go_sem] at hc)
   · have hil : i < N.length:=by omega
     obtain ⟨l,hll⟩:=opt_of_lt hil
     have hco:=copied_ok l (hl l (mem_of_opt hll))
     have hts:=take_of_opt hll
     have htl : (N.take i).length = i:=by rw [List.length_take]; omega
     rw [hts]
     generalize N.take i = P at *
     refine zx ?_
     try simp only [go_sem]
     repeat refine zq ?_
     refine zd ?_
     repeat refine zq ?_
     refine zb fun K hK=>?_;simp only [go_sem,hll,hil,htl,List.length_map];(try simp (disch:=omega) only [zI])
     refine zh (hco) rfl (by simp only [go_sem,i64,ints,hll,hil,htl,List.length_map]) (by simp only [go_sem,i64,ints,hll,hil,htl,List.length_map]) (by first | exact .inl rfl | exact .inr rfl) ?_
     (try simp only [go_sem,hll,hil,htl,List.length_map]);(try simp (disch:=omega) only [zI]);repeat first | intro _ | refine ⟨by omega,?_⟩
     refine hK _ ?_;clear hK K;refine zw (zk [0,3,4]) ?_;simp only [go_sem]
     repeat refine zq ?_
     refine zb fun K hK=>?_;simp only [go_sem];(try simp (disch:=omega) only [zI]);repeat first | intro _ | refine ⟨by omega,?_⟩
     refine hK _ ?_;clear hK K
     try simp only [go_sem]
     refine ⟨by omega,zj [] ?_ ?_⟩
     · try simp only [go_sem]
     · try simp only [go_sem]
       try simp
   · have hil : i = N.length:=by omega
     subst hil
     rw [List.take_length]
     refine zf ?_;simp only [go_sem]
     repeat refine zq ?_
     refine zb fun K hK=>?_;simp only [go_sem];(try simp (disch:=omega) only [zI]);repeat first | intro _ | refine ⟨by omega,?_⟩
     refine hK _ ?_;clear hK K;refine zw (zk [2]) ?_;simp only [go_sem];refine zw (sub_frz 2 19 (by omega) rfl rfl (by simp)) ?_;refine ze ?_;simp only [go_sem]
     try exact List.take_of_length_le (by simp)
abbrev metA (L : List Mt) : List AV:=((metL L).map fun x=>i64 x).map AV.r
abbrev btA (B : List Bool) : List AV:=(B.map fun b=>RV.bo b).map AV.r
theorem btA_get {B : List Bool} {i : Nat} {x d : Bool} (h : B.getD i d = x) (hi : i < B.length) : (List.drop i (btA B)).headD (AV.r RV.un) = AV.r (.bo x):=by
 obtain ⟨y,hy⟩:=opt_of_lt (l:=B) (i:=i) hi
 rw [List.getD_eq_getElem?_getD,hy] at h
 simp only [Option.getD_some] at h
 subst h
 rw [aR_drop (L:=B.map fun b=>RV.bo b) (x:=.bo y) (by rw [List.getElem?_map,hy]; rfl)]
 rfl
theorem btA_set {B : List Bool} {i : Nat} (y : Bool) (hi : i < B.length) : (btA B).take i ++ (AV.r (.bo y) :: (btA B).drop (i + 1)) = btA (B.set i y):=by
 rw [aR_set (by rw [List.length_map]; exact hi)]
 show _ = List.map AV.r (List.map _ (B.set i y))
 simp only [List.map_set]
theorem someT_le {n : Nat} : ∀ t ∈ someT n,0 ≤ t ∧ t < 8:=fun t ht=>by
 obtain ⟨i,_,rfl⟩:=List.mem_map.1 ht
 have : Int.tmod (7 * (i : Int)) 8 = (7 * (i : Int)) % 8:=Int.tmod_eq_emod_of_nonneg (by omega)
 rw [this]
 omega
structure Rounds9 (n : Nat) (tw : Bool) (N : List (List Mt)) : Prop where
 err : nightErr N (rngV n) (onesV n) = 0
 no : clN N (rngV n) (onesV n) N.length = []
 len : ∀ l ∈ N,l.length = n / 2
 mt : ∀ l ∈ N,∀ m ∈ l,0 ≤ m.h ∧ m.h < n ∧ 0 ≤ m.a ∧ m.a < n ∧ m.p = false ∧ m.f = 0 ∧ m.g = 0
 ln : N.length ≤ 100
 met : metOk n tw (metL N.flatten) = true
theorem rounds9 {n : Nat} (hn : 2 ≤ n ∧ n ≤ 10) (tw : Bool) : Rounds9 n tw (roundsV n tw):=by
 obtain ⟨k,rfl⟩ : ∃ k,n = 2 + k:=⟨n - 2,by omega⟩
 have h:=each_ok k (by omega) tw
 unfold eachB at h
 simp only [Bool.and_eq_true,beq_iff_eq,List.all_eq_true,decide_eq_true_eq,Bool.not_eq_true',List.isEmpty_iff] at h
 obtain ⟨⟨⟨⟨h1,h2⟩,h3⟩,h4⟩,h5⟩:=h
 refine ⟨h1,h2,fun l hl=>(h3 l hl).1,fun l hl m hm=>?_,h4,h5⟩
 have:=(h3 l hl).2 m hm
 obtain ⟨⟨⟨⟨⟨⟨a,b⟩,c⟩,d⟩,e⟩,f⟩,g⟩:=this
 exact ⟨a,b,c,d,e,f,g⟩
theorem sum_le5 : ∀ L : List Nat,(∀ x ∈ L,x ≤ 5) → L.sum ≤ 5 * L.length
 | [],_=>by simp
 | a :: L, h => by
   have:=sum_le5 L fun x hx=>h x (List.mem_cons_of_mem a hx)
   have:=h a (by simp)
   simp only [List.sum_cons,List.length_cons]
   omega
theorem ty107 : tyq Try.prog 107 = some ⟨.arr 10 10 true,100,true,List.replicate 100 (.it .i64 0)⟩:=by kernel_rfl
theorem each_law (v0 v1 : Nat) (hv0 : v0 < 256) (hv1 : v1 < 256) (tw : Bool) (wins : List Bool) (hz : wins.length ≤ 140737488351232) :
 ACalls Try.prog 12 [.ag [u8 v0,u8 v1],.bo tw,boolsR wins] (.bo true):=by
 have hkn:=known_ok
 obtain ⟨n,hnd⟩ : ∃ n : Nat,n = 2 + v0 % 9:=⟨_,rfl⟩
 have m9:=Nat.mod_lt v0 (show 9 > 0 by omega)
 have hn : 2 ≤ n ∧ n ≤ 10:=by omega
 have hro:=Rounds_once n tw hn
 have hR:=rounds9 hn tw
 have k1 : IntKind.i64.wrap (v0 : Int) = v0:=by rw [zI] <;> omega
 have k2 : Int.tmod (v0 : Int) 9 = ((v0 % 9 : Nat) : Int):=rfl
 have k3 : IntKind.i64.wrap (2 + ((v0 % 9 : Nat) : Int)) = (n : Int):=by rw [zI] <;> omega
 have hni:=nights_okE (roundsV n tw) (by have:=hR.ln; omega) (fun l hl=>by have:=hR.len l hl; omega)
 have hcl:=clashes_good hR.err
 rw [hR.no] at hcl
 generalize roundsV n tw = N at *
 have hnb : ∀ x : Int,(x != x) = false:=fun x=>by simp
 have hfl : ∀ k,(N.take k).flatten.length ≤ 500:=fun k=>by
  rw [List.length_flatten]
  have h1 : ∀ x ∈ (N.take k).map List.length,0 ≤ x ∧ x ≤ 5:=fun x hx=>by
   obtain ⟨l,hl,rfl⟩:=List.mem_map.1 hx
   have:=hR.len l (List.mem_of_mem_take hl)
   omega
  have h2:=sum_le5 ((N.take k).map List.length) fun x hx=>(h1 x hx).2
  have h3:=hR.ln
  simp only [List.length_map,List.length_take] at h2
  omega
 refine acalls_st (rs:=[.bo true]) [.tmp 6] Try.func12 rfl (by kernel_rfl) Try.ntmps12 rfl (by simp) rfl fun C vs=>?_
 repeat refine zq ?_
 refine zb fun K hK=>?_;simp only [go_sem];(try simp (disch:=omega) only [zI]);repeat first | intro _ | refine ⟨by omega,?_⟩
 refine hK _ ?_;clear hK K;refine zw (sub_frzP 3 3 [u8 v0,u8 v1] (by omega) rfl rfl) ?_;refine zw (zk [1,2,3]) ?_;simp only [go_sem]
 repeat refine zq ?_
 refine zg follows (by decide +kernel) (by kernel_rfl) fun K hK=>?_;simp only [go_sem];(try simp (disch:=omega) only [zI]);repeat first | intro _ | refine ⟨by omega,?_⟩
 repeat first | intro _ | refine ⟨by omega,?_⟩
 refine hK _ ?_;clear hK K;refine zw (zk [1,2,7,8]) ?_;simp only [go_sem]
 repeat refine zq ?_
 refine zb fun K hK=>?_;simp only [go_sem,k1,k2,k3];(try simp (disch:=omega) only [zI]);repeat first | intro _ | refine ⟨by omega,?_⟩
 refine hK _ ?_;clear hK K;refine zw (zk [1,2,8,9]) ?_;simp only [go_sem]
 repeat refine zq ?_
 refine zb fun K hK=>?_;simp only [go_sem];(try simp (disch:=omega) only [zI])
 refine zh (hro) rfl (by simp only [go_sem,i64,ints]) (by simp only [go_sem,i64,ints]) (by first | exact .inl rfl | exact .inr rfl) ?_
 (try simp only [go_sem]);(try simp (disch:=omega) only [zI]);repeat first | intro _ | refine ⟨by omega,?_⟩
 refine hK _ ?_;clear hK K;refine zw (zk [1,2,8,9,10,11]) ?_;simp only [go_sem]
 repeat refine zq ?_
 refine zb fun K hK=>?_;simp only [go_sem,ty107];(try simp (disch:=omega) only [zI]);repeat first | intro _ | refine ⟨by omega,?_⟩
 refine hK _ ?_;clear hK K;refine zw (sub_own 12 60 3 1 (by omega) rfl) ?_;refine zw (sub_own 13 63 3 1 (by omega) rfl) ?_;refine zw (zk [1,2,8,9,10,11,12,13,14]) ?_;simp only [go_sem]
 repeat refine zq ?_
 refine zb fun K hK=>?_;simp only [go_sem];(try simp (disch:=omega) only [zI]);repeat first | intro _ | refine ⟨by omega,?_⟩
 refine hK _ ?_;clear hK K;refine zw (zk [1,2,8,9,10,11,12,13,14,15]) ?_;simp only [go_sem]
 repeat refine zq ?_
 refine awp_joinV (n:=374) (fun (_ : Unit) vs=>[(1,.r (.bo tw)),(2,.r (boolsR wins)),(8,.r (u8 v1)),(9,.r (i64 (n : Int))),(10,.r (nightsR N)),(11,.r (i64 0)),(12,.r (ints (rngV n))),(13,.r (ints (onesV n))),(14,.pt 14 (vs 14) 0)]) (fun _ vs=>[(14,.box (metA []))]) (fun _=>True) (fun _ h=>h) ?_ ?_
 · repeat refine zq ?_
   refine zd ?_
   refine awp_uptoV (n:=374) n (fun i vs=>[(1,.r (.bo tw)),(2,.r (boolsR wins)),(8,.r (u8 v1)),(9,.r (i64 (n : Int))),(10,.r (nightsR N)),(11,.r (i64 0)),(12,.os 60 (vs 60) 1 0 i),(13,.os 63 (vs 63) 1 0 i),(14,.pt 14 (vs 14) 0),(15,.r (i64 (i : Int)))])
    (fun i vs=>[(14,.box (metA [])),(60,.arr 3 1 ((rngV i).map fun x=>[i64 x])),(63,.arr 3 1 ((onesV i).map fun x=>[i64 x]))]) (fun _=>True) 0 (zj [] ?_ ?_) (Nat.zero_le _) trivial ?_
   · try simp only [go_sem]
     try rfl
   · try simp only [go_sem]
     try rfl
   · intro i vs hi _
     repeat refine zq ?_
     refine zb fun K hK=>?_;simp only [go_sem];(try simp (disch:=omega) only [zI]);repeat first | intro _ | refine ⟨by omega,?_⟩
     refine hK _ ?_;clear hK K;refine zw (zk [1,2,8,9,10,11,12,13,14,15,54]) ?_;simp only [go_sem]
     repeat refine zq ?_
     refine zc rfl (fun hc=>?_) (fun hc=>?_) <;> (try simp only [go_sem] at hc)
     · have hr1 : rngV (i + 1) = rngV i ++ [(i : Int)]:=by simp [rngV,List.range_succ]
       have hr2 : onesV (i + 1) = onesV i ++ [1]:=List.replicate_succ'
       have hl1 : (rngV i).length = i:=by simp [rngV]
       have hl2 : (onesV i).length = i:=by simp [onesV]
       rw [hr1,hr2]
       generalize rngV i = A at *
       generalize onesV i = B at *
       refine zx ?_
       try simp only [go_sem]
       repeat refine zq ?_
       refine zd ?_
       repeat refine zq ?_
       refine zb fun K hK=>?_;simp only [go_sem,hl1,hl2,List.length_map];(try simp (disch:=omega) only [zI]);repeat first | intro _ | refine ⟨by omega,?_⟩
       refine hK _ ?_;clear hK K;refine zw (zk [1,2,8,9,10,11,12,13,14,15]) ?_;simp only [go_sem]
       repeat refine zq ?_
       refine zb fun K hK=>?_;simp only [go_sem];(try simp (disch:=omega) only [zI]);repeat first | intro _ | refine ⟨by omega,?_⟩
       refine hK _ ?_;clear hK K
       try simp only [go_sem]
       refine ⟨by omega,zj [] ?_ ?_⟩
       · try simp only [go_sem]
       · try simp only [go_sem]
         simp [List.map_append]
     · have hin : i = n:=by omega
       subst hin
       refine zw (sub_frz 12 60 (by omega) rfl rfl (by simp [rngV])) ?_;refine zw (sub_frz 13 63 (by omega) rfl rfl (by simp [onesV])) ?_;refine zf ?_;simp only [go_sem]
       have t1 : ∀ g : Int → List RV,List.take i ((rngV i).map g) = (rngV i).map g:=fun g=>List.take_of_length_le (by simp [rngV])
       have t2 : ∀ g : Int → List RV,List.take i ((onesV i).map g) = (onesV i).map g:=fun g=>List.take_of_length_le (by simp [onesV])
       rw [t1,t2]
       refine ⟨(),zj [] ?_ ?_⟩
       · try simp only [go_sem]
       · try simp only [go_sem]
 intro _ vs _
 repeat refine zq ?_
 refine zb fun K hK=>?_;simp only [go_sem];(try simp (disch:=omega) only [zI])
 refine zh (hni) rfl (by simp only [go_sem,i64,ints]) (by simp only [go_sem,i64,ints]) (by first | exact .inl rfl | exact .inr rfl) ?_
 (try simp only [go_sem]);(try simp (disch:=omega) only [zI])
 refine zh (hcl) rfl (by simp only [go_sem,i64,ints]) (by simp only [go_sem,i64,ints]) (by first | exact .inl rfl | exact .inr rfl) ?_
 (try simp only [go_sem]);(try simp (disch:=omega) only [zI]);repeat first | intro _ | refine ⟨by omega,?_⟩
 refine hK _ ?_;clear hK K;refine zw (zk [1,2,8,9,10,11,14,16,17]) ?_;simp only [go_sem]
 repeat refine zq ?_
 refine zb fun K hK=>?_;simp only [go_sem,bne_self_eq_false];(try simp (disch:=omega) only [zI]);repeat first | intro _ | refine ⟨by omega,?_⟩
 refine hK _ ?_;clear hK K;refine zw (zk [1,2,8,9,10,14,82]) ?_;simp only [go_sem]
 repeat refine zq ?_
 refine zc rfl (fun hc=>?_) (fun hc=>?_) <;> (try simp only [go_sem] at hc)
 refine zx ?_
 try simp only [go_sem]
 repeat refine zq ?_
 refine zb fun K hK=>?_;simp only [go_sem];(try simp (disch:=omega) only [zI]);repeat first | intro _ | refine ⟨by omega,?_⟩
 refine hK _ ?_;clear hK K;refine zw (zk [1,2,8,9,10,14,18]) ?_;simp only [go_sem]
 repeat refine zq ?_
 refine awp_joinV (n:=374) (fun (_ : Unit) vs=>[(1,.r (.bo tw)),(2,.r (boolsR wins)),(8,.r (u8 v1)),(9,.r (i64 (n : Int))),(14,.pt 14 (vs 14) 0)]) (fun _ vs=>[(14,.box (metA N.flatten))]) (fun _=>True) (fun _ h=>h) ?_ ?_
 · repeat refine zq ?_
   refine zd ?_
   refine awp_uptoV (n:=374) N.length (fun i vs=>[(1,.r (.bo tw)),(2,.r (boolsR wins)),(8,.r (u8 v1)),(9,.r (i64 (n : Int))),(10,.r (nightsR N)),(14,.pt 14 (vs 14) 0),(18,.r (i64 (i : Int)))])
    (fun i vs=>[(14,.box (metA (N.take i).flatten))]) (fun _=>True) 0 (zj [] ?_ ?_) (Nat.zero_le _) trivial ?_
   · try simp only [go_sem]
   · try simp only [go_sem]
     try rfl
   · intro i vs hi _
     repeat refine zq ?_
     refine zb fun K hK=>?_;simp only [go_sem];(try simp (disch:=omega) only [zI]);repeat first | intro _ | refine ⟨by omega,?_⟩
     refine hK _ ?_;clear hK K;refine zw (zk [1,2,8,9,10,14,18,86]) ?_;simp only [go_sem]
     repeat refine zq ?_
     refine zc rfl (fun hc=>?_) (fun hc=>?_) <;> (try simp only [go_sem] at hc)
     · obtain ⟨l,hl⟩:=opt_of_lt (l:=N) (i:=i) (by omega)
       have hll:=hR.len l (mem_of_opt hl)
       have hq : Int.tdiv (n : Int) 2 = ((n / 2 : Nat) : Int):=rfl
       have htk : (N.take (i + 1)).flatten = (N.take i).flatten ++ l:=by rw [take_of_opt hl]; simp
       have hlm:=hR.mt l (mem_of_opt hl)
       have hFl:=hfl i
       refine zx ?_
       try simp only [go_sem]
       repeat refine zq ?_
       refine zd ?_
       repeat refine zq ?_
       refine zb fun K hK=>?_;simp only [go_sem,hl,hll,hq,bne_self_eq_false,List.length_map];(try simp (disch:=omega) only [zI]);repeat first | intro _ | refine ⟨by omega,?_⟩
       refine hK _ ?_;clear hK K;refine zw (zk [1,2,8,9,10,14,18,96]) ?_;simp only [go_sem];rw [hnb]
       repeat refine zq ?_
       refine zc rfl (fun hc=>?_) (fun hc=>?_) <;> (try simp only [go_sem] at hc)
       refine zx ?_
       try simp only [go_sem]
       repeat refine zq ?_
       refine zb fun K hK=>?_;simp only [go_sem];(try simp (disch:=omega) only [zI]);repeat first | intro _ | refine ⟨by omega,?_⟩
       refine hK _ ?_;clear hK K;refine zw (zk [1,2,8,9,10,14,18,19]) ?_;simp only [go_sem];rw [htk]
       generalize (N.take i).flatten = F at *
       repeat refine zq ?_
       refine zd ?_
       refine awp_uptoV (n:=374) (n / 2) (fun k vs=>[(1,.r (.bo tw)),(2,.r (boolsR wins)),(8,.r (u8 v1)),(9,.r (i64 (n : Int))),(10,.r (nightsR N)),(14,.pt 14 (vs 14) 0),(18,.r (i64 (i : Int))),(19,.r (i64 (k : Int)))])
        (fun k vs=>[(14,.box (metA (F ++ l.take k)))]) (fun _=>True) 0 (zj [] ?_ ?_) (Nat.zero_le _) trivial ?_
       · try simp only [go_sem]
       · try simp only [go_sem]
         try simp
       · intro k vs hk _
         repeat refine zq ?_
         refine zb fun K hK=>?_;simp only [go_sem,hl,hll,List.length_map];(try simp (disch:=omega) only [zI]);repeat first | intro _ | refine ⟨by omega,?_⟩
         refine hK _ ?_;clear hK K;refine zw (zk [1,2,8,9,10,14,18,19,103]) ?_;simp only [go_sem]
         repeat refine zq ?_
         refine zc rfl (fun hc=>?_) (fun hc=>?_) <;> (try simp only [go_sem] at hc)
         · obtain ⟨m,hm⟩:=opt_of_lt (l:=l) (i:=k) (by omega)
           obtain ⟨h1,h2,h3,h4,h5,h6,h7⟩:=hlm m (mem_of_opt hm)
           obtain ⟨p,hp⟩:=Int.eq_ofNat_of_zero_le h1
           obtain ⟨q,hq'⟩:=Int.eq_ofNat_of_zero_le h3
           have hm5 : mtR m = [i64 (p : Int),i64 (q : Int),.bo false,i64 0,i64 0]:=by
            obtain ⟨mh,ma,mp,mf,mg⟩:=m
            simp only at hp hq' h5 h6 h7
            subst hp hq' h5 h6 h7
            rfl
           have hmi : metI m = p * 10 + q:=by unfold metI; rw [hp,hq']; rfl
           have hpn : p < 10:=by omega
           have hqn : q < 10:=by omega
           have d1 : decide ((p : Int) < 0) = false:=decide_eq_false (by omega)
           have d2 : ¬ n ≤ p:=by omega
           have d3 : decide ((q : Int) < 0) = false:=decide_eq_false (by omega)
           have d4 : ¬ n ≤ q:=by omega
           have htm : F ++ l.take (k + 1) = (F ++ l.take k) ++ [m]:=by rw [take_of_opt hm,List.append_assoc]
           rw [htm]
           have hGl : (F ++ l.take k).length ≤ 600:=by rw [List.length_append,List.length_take]; omega
           generalize F ++ l.take k = G at *
           have hml:=metL_len G
           obtain ⟨z,hz0⟩:=opt_of_lt (l:=metL G) (i:=metI m) (by rw [metL_len,hmi]; omega)
           have hzb:=metL_le G z (mem_of_opt hz0)
           have hzw : IntKind.i64.wrap (z + 1) = z + 1:=by rw [zI] <;> omega
           have hst : metL (G ++ [m]) = (metL G).set (metI m) (z + 1):=by rw [metL_snoc,metS,List.getD_eq_getElem?_getD,hz0]; rfl
           rw [hmi] at hz0 hst
           have hdr:=aR_drop (L:=(metL G).map fun x=>i64 x) (i:=p * 10 + q) (x:=i64 z) (by rw [List.getElem?_map,hz0]; rfl)
           have hse:=aR_set (L:=(metL G).map fun x=>i64 x) (i:=p * 10 + q) (y:=i64 (z + 1)) (by rw [List.length_map,metL_len]; omega)
           refine zx ?_
           try simp only [go_sem]
           repeat refine zq ?_
           refine zd ?_
           repeat refine zq ?_
           refine zb fun K hK=>?_;simp only [go_sem,hl,hm,hm5];(try simp (disch:=omega) only [zI]);repeat first | intro _ | refine ⟨by omega,?_⟩
           refine hK _ ?_;clear hK K;refine zw (sub_frzP 20 20 [i64 (p : Int),i64 (q : Int),.bo false,i64 0,i64 0] (by omega) rfl rfl) ?_;refine zw (zk [1,2,8,9,10,14,18,19,20]) ?_;simp only [go_sem]
           repeat refine zq ?_
           refine zb fun K hK=>?_;simp only [go_sem,d1,d2,d3,d4,decide_false,bne_self_eq_false];(try simp (disch:=omega) only [zI]);repeat first | intro _ | refine ⟨by omega,?_⟩
           refine hK _ ?_;clear hK K;refine zw (zk [1,2,8,9,10,14,18,19,20,146]) ?_;simp only [go_sem]
           repeat refine zq ?_
           refine zc rfl (fun hc=>?_) (fun hc=>?_) <;> (try simp only [go_sem] at hc)
           refine zx ?_
           try simp only [go_sem]
           repeat refine zq ?_
           refine awp_dreg2 [(14,some 14)] follows (by decide +kernel) (by kernel_rfl) (by simp only [keysOk,List.mem_cons,List.not_mem_nil,forall_eq_or_imp,Oc.keyOf,go_sem]; simp) fun K hK=>?_
           simp only [go_sem,ty107,hdr,hse,hzw,hml,List.length_map,Nat.mul_one,List.headD_cons];(try simp (disch:=omega) only [zI]);repeat first | intro _ | refine ⟨by omega,?_⟩
           repeat first | intro _ | refine ⟨by omega,?_⟩
           refine hK _ ?_;clear hK K;refine zw (zk [1,2,8,9,10,14,18,19]) ?_;simp only [go_sem]
           repeat refine zq ?_
           refine zb fun K hK=>?_;simp only [go_sem];(try simp (disch:=omega) only [zI]);repeat first | intro _ | refine ⟨by omega,?_⟩
           refine hK _ ?_;clear hK K
           try simp only [go_sem]
           have hA : metA (G ++ [m]) = List.map AV.r ((List.map (fun x=>i64 x) (metL G)).set (p * 10 + q) (i64 (z + 1))):=by
            show List.map AV.r (List.map _ (metL (G ++ [m]))) = _
            rw [hst,List.map_set]
           rw [hA]
           refine ⟨by omega,zj [] ?_ ?_⟩
           · try simp only [go_sem]
           · try simp only [go_sem]
         · have htk2 : l.take k = l:=List.take_of_length_le (by omega)
           rw [htk2]
           refine zf ?_;simp only [go_sem]
           repeat refine zq ?_
           refine zb fun K hK=>?_;simp only [go_sem];(try simp (disch:=omega) only [zI]);repeat first | intro _ | refine ⟨by omega,?_⟩
           refine hK _ ?_;clear hK K
           try simp only [go_sem]
           refine ⟨by omega,zj [] ?_ ?_⟩
           · try simp only [go_sem]
           · try simp only [go_sem]
     · have hin : i = N.length:=by omega
       subst hin
       rw [List.take_length]
       refine zf ?_;simp only [go_sem]
       refine ⟨(),zj [] ?_ ?_⟩
       · try simp only [go_sem]
       · try simp only [go_sem]
 intro _ vs _
 have hmk:=hR.met
 have hml:=metL_len N.flatten
 have hmb:=metL_le N.flatten
 have hfN:=hfl N.length
 rw [List.take_length] at hfN
 repeat refine zq ?_
 refine zb fun K hK=>?_;simp only [go_sem];(try simp (disch:=omega) only [zI]);repeat first | intro _ | refine ⟨by omega,?_⟩
 refine hK _ ?_;clear hK K;refine zw (zk [1,2,8,9,14,21]) ?_;simp only [go_sem]
 have hM : metA N.flatten = (((metL N.flatten).map fun x=>i64 x).map AV.r):=rfl
 rw [hM]
 generalize metL N.flatten = M at *
 refine zw (sub_frzP 14 14 (M.map fun x=>i64 x) (by omega) rfl rfl) ?_;refine zw (zk [1,2,8,9,14,21]) ?_;simp only [go_sem]
 repeat refine zq ?_
 refine awp_joinV (n:=374) (fun (_ : Unit) vs=>[(2,.r (boolsR wins)),(8,.r (u8 v1))]) (fun _ vs=>[]) (fun _=>True) (fun _ h=>h) ?_ ?_
 · have hat : ∀ i k : Nat,i < 10 → k < 10 → ∀ x : Int,M.getD (i * 10 + k) 9 = x → (List.drop (k * 1) (List.drop (i * 10) (M.map fun x=>i64 x))).headD RV.un = i64 x:=fun i k hi hk x hx=>by
    obtain ⟨y,hy⟩:=opt_of_lt (l:=M) (i:=i * 10 + k) (by omega)
    rw [List.getD_eq_getElem?_getD,hy] at hx
    simp only [Option.getD_some] at hx
    subst hx
    rw [List.drop_drop,Nat.mul_one,drop_of_opt (l:=M.map fun x=>i64 x) (i:=i * 10 + k) (x:=i64 y) (by rw [List.getElem?_map,hy]; rfl)]
    rfl
   unfold metOk at hmk
   simp only [List.all_eq_true,List.mem_range,Bool.and_eq_true,beq_iff_eq] at hmk
   repeat refine zq ?_
   refine zd ?_
   refine awp_uptoV (n:=374) n (fun i vs=>[(1,.r (.bo tw)),(2,.r (boolsR wins)),(8,.r (u8 v1)),(9,.r (i64 (n : Int))),(14,.r (.rp (M.map fun x=>i64 x))),(21,.r (i64 (i : Int)))])
    (fun i vs=>[]) (fun _=>True) 0 (zj [] ?_ ?_) (Nat.zero_le _) trivial ?_
   · try simp only [go_sem]
   · try simp only [go_sem]
   · intro i vs hi _
     repeat refine zq ?_
     refine zb fun K hK=>?_;simp only [go_sem];(try simp (disch:=omega) only [zI]);repeat first | intro _ | refine ⟨by omega,?_⟩
     refine hK _ ?_;clear hK K;refine zw (zk [1,2,8,9,14,21,159]) ?_;simp only [go_sem]
     repeat refine zq ?_
     refine zc rfl (fun hc=>?_) (fun hc=>?_) <;> (try simp only [go_sem] at hc)
     · have hin : i < n:=by omega
       obtain ⟨hii,hik⟩:=hmk i hin
       have hi10 : i < 10:=by omega
       have hai:=hat i i hi10 hi10 0 hii
       refine zx ?_
       try simp only [go_sem]
       repeat refine zq ?_
       refine zd ?_
       repeat refine zq ?_
       refine zb fun K hK=>?_;simp only [go_sem];(try simp (disch:=omega) only [zI]);repeat first | intro _ | refine ⟨by omega,?_⟩
       refine hK _ ?_;clear hK K;refine zw (zk [1,2,8,9,14,21,22]) ?_;simp only [go_sem]
       repeat refine zq ?_
       refine awp_joinV (n:=374) (fun (_ : Unit) vs=>[(1,.r (.bo tw)),(2,.r (boolsR wins)),(8,.r (u8 v1)),(9,.r (i64 (n : Int))),(14,.r (.rp (M.map fun x=>i64 x))),(21,.r (i64 (i : Int)))]) (fun _ vs=>[]) (fun _=>True) (fun _ h=>h) ?_ ?_
       · repeat refine zq ?_
         refine zd ?_
         refine awp_uptoV (n:=374) i (fun k vs=>[(1,.r (.bo tw)),(2,.r (boolsR wins)),(8,.r (u8 v1)),(9,.r (i64 (n : Int))),(14,.r (.rp (M.map fun x=>i64 x))),(21,.r (i64 (i : Int))),(22,.r (i64 (k : Int)))])
          (fun k vs=>[]) (fun _=>True) 0 (zj [] ?_ ?_) (Nat.zero_le _) trivial ?_
         · try simp only [go_sem]
         · try simp only [go_sem]
         · intro k vs hk _
           repeat refine zq ?_
           refine zb fun K hK=>?_;simp only [go_sem];(try simp (disch:=omega) only [zI]);repeat first | intro _ | refine ⟨by omega,?_⟩
           refine hK _ ?_;clear hK K;refine zw (zk [1,2,8,9,14,21,22,164]) ?_;simp only [go_sem]
           repeat refine zq ?_
           refine zc rfl (fun hc=>?_) (fun hc=>?_) <;> (try simp only [go_sem] at hc)
           · have hki : k < i:=by omega
             have h2:=hik k hki
             have hk10 : k < 10:=by omega
             have n11 : ((1 : Int) != 1) = false:=rfl
             refine zx ?_
             try simp only [go_sem]
             repeat refine zq ?_
             refine zd ?_
             cases tw with
             | true =>
               simp only [if_true,Bool.and_eq_true,beq_iff_eq] at h2
               have a1:=hat i k hi10 hk10 1 h2.1
               have a2:=hat k i hk10 hi10 1 h2.2
               repeat refine zq ?_
               refine zg follows (by decide +kernel) (by kernel_rfl) fun K hK=>?_;simp only [go_sem,ty107,a1,a2,n11,hi10,hk10,hml,List.length_map];(try simp (disch:=omega) only [zI]);repeat first | intro _ | refine ⟨by omega,?_⟩
               repeat first | intro _ | refine ⟨by omega,?_⟩
               refine hK _ ?_;clear hK K;refine zw (zk [1,2,8,9,14,21,22,201]) ?_;simp only [go_sem]
               repeat refine zq ?_
               refine zc rfl (fun hc=>?_) (fun hc=>?_) <;> (try simp only [go_sem] at hc)
               refine zx ?_
               try simp only [go_sem]
               repeat refine zq ?_
               refine zb fun K hK=>?_;simp only [go_sem];(try simp (disch:=omega) only [zI]);repeat first | intro _ | refine ⟨by omega,?_⟩
               refine hK _ ?_;clear hK K
               try simp only [go_sem]
               refine ⟨by omega,zj [] ?_ ?_⟩
               · try simp only [go_sem]
               · try simp only [go_sem]
             | false =>
               simp only [if_false,Bool.false_eq_true,beq_iff_eq] at h2
               obtain ⟨x1,hx1⟩ : ∃ x,M.getD (i * 10 + k) 9 = x:=⟨_,rfl⟩
               obtain ⟨x2,hx2⟩ : ∃ x,M.getD (k * 10 + i) 9 = x:=⟨_,rfl⟩
               rw [hx1,hx2] at h2
               have a1:=hat i k hi10 hk10 x1 hx1
               have a2:=hat k i hk10 hi10 x2 hx2
               have w1 : IntKind.i64.wrap (x1 + x2) = 1:=by rw [h2]; rfl
               repeat refine zq ?_
               refine zg follows (by decide +kernel) (by kernel_rfl) fun K hK=>?_;simp only [go_sem,ty107,a1,a2,n11,w1,hi10,hk10,hml,List.length_map];(try simp (disch:=omega) only [zI]);repeat first | intro _ | refine ⟨by omega,?_⟩
               repeat first | intro _ | refine ⟨by omega,?_⟩
               refine hK _ ?_;clear hK K;refine zw (zk [1,2,8,9,14,21,22,201]) ?_;simp only [go_sem]
               repeat refine zq ?_
               refine zc rfl (fun hc=>?_) (fun hc=>?_) <;> (try simp only [go_sem] at hc)
               refine zx ?_
               try simp only [go_sem]
               repeat refine zq ?_
               refine zb fun K hK=>?_;simp only [go_sem];(try simp (disch:=omega) only [zI]);repeat first | intro _ | refine ⟨by omega,?_⟩
               refine hK _ ?_;clear hK K
               try simp only [go_sem]
               refine ⟨by omega,zj [] ?_ ?_⟩
               · try simp only [go_sem]
               · try simp only [go_sem]
           · refine zf ?_;simp only [go_sem]
             refine ⟨(),zj [] ?_ ?_⟩
             · try simp only [go_sem]
             · try simp only [go_sem]
       intro _ vs _
       have n00 : ((0 : Int) != 0) = false:=rfl
       repeat refine zq ?_
       refine zb fun K hK=>?_;simp only [go_sem,ty107,hai,n00,hi10,hml,List.length_map];(try simp (disch:=omega) only [zI]);repeat first | intro _ | refine ⟨by omega,?_⟩
       refine hK _ ?_;clear hK K;refine zw (zk [1,2,8,9,14,21,207]) ?_;simp only [go_sem]
       repeat refine zq ?_
       refine zc rfl (fun hc=>?_) (fun hc=>?_) <;> (try simp only [go_sem] at hc)
       refine zx ?_
       try simp only [go_sem]
       repeat refine zq ?_
       refine zb fun K hK=>?_;simp only [go_sem];(try simp (disch:=omega) only [zI]);repeat first | intro _ | refine ⟨by omega,?_⟩
       refine hK _ ?_;clear hK K
       try simp only [go_sem]
       refine ⟨by omega,zj [] ?_ ?_⟩
       · try simp only [go_sem]
       · try simp only [go_sem]
     · refine zf ?_;simp only [go_sem]
       refine ⟨(),zj [] ?_ ?_⟩
       · try simp only [go_sem]
       · try simp only [go_sem]
 intro _ vs _
 obtain ⟨m,hm⟩ : ∃ m : Nat,m = if v1 % 3 = 0 then 2 else if v1 % 3 = 1 then 4 else 8:=⟨_,rfl⟩
 have hm3 : m = 2 ∨ m = 4 ∨ m = 8:=by
  rw [hm]; split
  · exact .inl rfl
  · split
    · exact .inr (.inl rfl)
    · exact .inr (.inr rfl)
 have hq3 : Int.tmod (v1 : Int) 3 = ((v1 % 3 : Nat) : Int):=rfl
 have hu8 : IntKind.u8.wrap (((v1 % 3 : Nat)) : Int) = ((v1 % 3 : Nat) : Int):=by
  have:=Nat.mod_lt v1 (show 3 > 0 by omega)
  rcases (show v1 % 3 = 0 ∨ v1 % 3 = 1 ∨ v1 % 3 = 2 by omega) with h | h | h <;> rw [h] <;> rfl
 repeat refine zq ?_
 refine awp_joinV (n:=374) (fun (_ : Unit) vs=>[(2,.r (boolsR wins)),(23,.r .ns),(24,.r (i64 (m : Int)))]) (fun _ vs=>[]) (fun _=>True) (fun _ h=>h) ?_ ?_
 · rcases (show v1 % 3 = 0 ∨ v1 % 3 = 1 ∨ v1 % 3 = 2 by omega) with h | h | h
   · have hn2 : m = 2:=by rw [hm,if_pos h]
     rw [hn2]
     repeat refine zq ?_
     refine zg follows (by decide +kernel) (by kernel_rfl) fun K hK=>?_;simp only [go_sem,hq3,hu8,h];(try simp (disch:=omega) only [zI]);repeat first | intro _ | refine ⟨by omega,?_⟩
     repeat first | intro _ | refine ⟨by omega,?_⟩
     refine hK _ ?_;clear hK K
     refine ⟨(),trivial,zj [] ?_ ?_⟩
     · try simp only [go_sem]
       try rfl
     · try simp only [go_sem]
   · have hn2 : m = 4:=by rw [hm,if_neg (by omega),if_pos h]
     rw [hn2]
     repeat refine zq ?_
     refine zg follows (by decide +kernel) (by kernel_rfl) fun K hK=>?_;simp only [go_sem,hq3,hu8,h];(try simp (disch:=omega) only [zI]);repeat first | intro _ | refine ⟨by omega,?_⟩
     repeat first | intro _ | refine ⟨by omega,?_⟩
     refine hK _ ?_;clear hK K
     refine ⟨(),trivial,zj [] ?_ ?_⟩
     · try simp only [go_sem]
       try rfl
     · try simp only [go_sem]
   · have hn2 : m = 8:=by rw [hm,if_neg (by omega),if_neg (by omega)]
     rw [hn2]
     repeat refine zq ?_
     refine zg follows (by decide +kernel) (by kernel_rfl) fun K hK=>?_;simp only [go_sem,hq3,hu8,h];(try simp (disch:=omega) only [zI]);repeat first | intro _ | refine ⟨by omega,?_⟩
     repeat first | intro _ | refine ⟨by omega,?_⟩
     refine hK _ ?_;clear hK K
     refine ⟨(),trivial,zj [] ?_ ?_⟩
     · try simp only [go_sem]
       try rfl
     · try simp only [go_sem]
 intro _ vs _
 clear hro hR hni hcl hfl
 refine zw (sub_own 23 223 3 1 (by omega) rfl) ?_
 repeat refine zq ?_
 refine zb fun K hK=>?_;simp only [go_sem];(try simp (disch:=omega) only [zI]);repeat first | intro _ | refine ⟨by omega,?_⟩
 refine hK _ ?_;clear hK K;refine zw (zk [2,23,24,25]) ?_;simp only [go_sem]
 repeat refine zq ?_
 refine awp_joinV (n:=374) (fun (_ : Unit) vs=>[(2,.r (boolsR wins)),(23,.r (ints (someT m))),(24,.r (i64 (m : Int)))]) (fun _ vs=>[]) (fun _=>True) (fun _ h=>h) ?_ ?_
 · repeat refine zq ?_
   refine zd ?_
   refine awp_uptoV (n:=374) m (fun i vs=>[(2,.r (boolsR wins)),(23,.os 223 (vs 223) 1 0 i),(24,.r (i64 (m : Int))),(25,.r (i64 (i : Int)))])
    (fun i vs=>[(223,.arr 3 1 ((someT i).map fun x=>[i64 x]))]) (fun _=>True) 0 (zj [] ?_ ?_) (Nat.zero_le _) trivial ?_
   · try simp only [go_sem]
     try rfl
   · try simp only [go_sem]
     try rfl
   · intro i vs hi _
     repeat refine zq ?_
     refine zb fun K hK=>?_;simp only [go_sem];(try simp (disch:=omega) only [zI]);repeat first | intro _ | refine ⟨by omega,?_⟩
     refine hK _ ?_;clear hK K;refine zw (zk [2,23,24,25,215]) ?_;simp only [go_sem]
     repeat refine zq ?_
     refine zc rfl (fun hc=>?_) (fun hc=>?_) <;> (try simp only [go_sem] at hc)
     · have hsi : someT (i + 1) = someT i ++ [Int.tmod (7 * (i : Int)) 8]:=by simp [someT,List.range_succ]
       have hsl : (someT i).length = i:=by simp [someT]
       have w7 : IntKind.i64.wrap (7 * (i : Int)) = 7 * (i : Int):=by rw [zI] <;> omega
       rw [hsi]
       generalize someT i = A at *
       refine zx ?_
       try simp only [go_sem]
       repeat refine zq ?_
       refine zd ?_
       repeat refine zq ?_
       refine zb fun K hK=>?_;simp only [go_sem,hsl,w7,List.length_map];(try simp (disch:=omega) only [zI]);repeat first | intro _ | refine ⟨by omega,?_⟩
       refine hK _ ?_;clear hK K;refine zw (zk [2,23,24,25]) ?_;simp only [go_sem]
       repeat refine zq ?_
       refine zb fun K hK=>?_;simp only [go_sem];(try simp (disch:=omega) only [zI]);repeat first | intro _ | refine ⟨by omega,?_⟩
       refine hK _ ?_;clear hK K
       try simp only [go_sem]
       refine ⟨by omega,zj [] ?_ ?_⟩
       · try simp only [go_sem]
       · try simp only [go_sem]
         simp [List.map_append]
     · have him : i = m:=by omega
       subst him
       refine zw (sub_frz 23 223 (by omega) rfl rfl (by simp [someT])) ?_;refine zf ?_;simp only [go_sem]
       have t1 : ∀ g : Int → List RV,List.take i ((someT i).map g) = (someT i).map g:=fun g=>List.take_of_length_le (by simp [someT])
       rw [t1]
       refine ⟨(),zj [] ?_ ?_⟩
       · try simp only [go_sem]
       · try simp only [go_sem]
 intro _ vs _
 repeat refine zq ?_
 refine zb fun K hK=>?_;simp only [go_sem];(try simp (disch:=omega) only [zI]);repeat first | intro _ | refine ⟨by omega,?_⟩
 refine hK _ ?_;clear hK K;refine zw (zk [23,24,26]) ?_;simp only [go_sem]
 have m8 : m ≤ 8:=by omega
 have m2 : 2 ≤ m:=by omega
 have wm1 : IntKind.i64.wrap ((m : Int) - 1) = ((m - 1 : Nat) : Int):=by rw [zI] <;> omega
 repeat refine zq ?_
 refine zb fun K hK=>?_;simp only [go_sem,wm1];(try simp (disch:=omega) only [zI]);repeat first | intro _ | refine ⟨by omega,?_⟩
 refine hK _ ?_;clear hK K;refine zw (zk [23,24,26,231]) ?_;simp only [go_sem]
 repeat refine zq ?_
 refine awp_joinV (n:=374) (fun (_ : Unit) vs=>[(23,.r (ints (someT m))),(24,.r (i64 (m : Int))),(26,.os 226 (vs 226) 1 0 (min wins.length (m - 1)))]) (fun _ vs=>[(226,.arr 4 1 (wins.map fun b=>[.bo b]))]) (fun _=>True) (fun _ h=>h) ?_ ?_
 · repeat refine zq ?_
   refine zc rfl (fun hc=>?_) (fun hc=>?_) <;> (try simp only [go_sem] at hc)
   · have hmn : min wins.length (m - 1) = m - 1:=by omega
     rw [hmn]
     repeat refine zq ?_
     refine zb fun K hK=>?_;simp only [go_sem,wm1];(try simp (disch:=omega) only [zI]);repeat first | intro _ | refine ⟨by omega,?_⟩
     repeat first | intro _ | refine ⟨by omega,?_⟩
     refine hK _ ?_;clear hK K
     try simp only [go_sem]
     refine ⟨(),zj [] ?_ ?_⟩
     · try simp only [go_sem]
     · try simp only [go_sem]
   · have hmn : min wins.length (m - 1) = wins.length:=by omega
     rw [hmn]
     refine zx ?_
     try simp only [go_sem]
     refine ⟨(),zj [] ?_ ?_⟩
     · try simp only [go_sem]
     · try simp only [go_sem]
 intro _ vs _
 refine zw (sub_frz 26 226 (by omega) rfl rfl (by simp; omega)) ?_;refine zw (zk [23,24,26]) ?_;simp only [go_sem]
 have htw : List.take (min wins.length (m - 1)) (wins.map fun b=>[RV.bo b]) = (wins.take (m - 1)).map fun b=>[RV.bo b]:=by
  rw [← List.map_take]
  congr 1
  rw [List.take_eq_take_iff]
  omega
 rw [htw]
 have hwl : (wins.take (m - 1)).length ≤ m - 1:=by rw [List.length_take]; omega
 have hbr:=br_ok hm3 hwl
 generalize wins.take (m - 1) = w at *
 have hST : (someT m).length = m:=by simp [someT]
 have hbk:=Bracket_ok (someT m) w (by omega) (by omega)
 unfold brOk at hbr
 simp only [Bool.and_eq_true,beq_iff_eq,List.all_eq_true,decide_eq_true_eq,Bool.not_eq_true',List.mem_range,bne_iff_ne,ne_eq,Bool.or_eq_true] at hbr
 obtain ⟨⟨⟨⟨⟨⟨⟨b1,b2⟩,b3⟩,b4⟩,b5⟩,b6⟩,b7⟩,b8⟩:=hbr
 rw [if_pos b1,if_pos b1,b1] at hbk
 generalize (bracketV (someT m) w).1 = P at *
 generalize (bracketV (someT m) w).2 = z at *
 repeat refine zq ?_
 refine awp_long ?_
 refine sops_take 4 (by kernel_rfl) fun K hK=>?_
 simp only [go_sem,List.take_succ_cons,List.take_zero,List.drop_succ_cons,List.drop_zero,List.append_eq,List.cons_append,List.nil_append];(try simp (disch:=omega) only [zI]);repeat first | intro _ | refine ⟨by omega,?_⟩
 refine hK _ rfl ?_
 clear hK K
 refine sops_sub (sub_frz (ty:=4) (sz:=1) (off:=0) (m:=w.length) (es:=w.map fun b=>[RV.bo b]) 240 240 (by omega) (by try simp only [go_sem]) (by rfl) (by simp)) ?_
 refine sops_sub (zk [23,24,26,237,240]) ?_
 simp only [go_sem]
 have htk3 : List.take w.length (w.map fun b=>[RV.bo b]) = w.map fun b=>[RV.bo b]:=List.take_of_length_le (by simp)
 try rw [htk3]
 refine sops_end (by kernel_rfl) fun K hK=>?_
 simp only [go_sem,List.drop_succ_cons,List.drop_zero,List.append_eq,List.cons_append,List.nil_append,htk3];(try simp (disch:=omega) only [zI])
 refine zh (hbk) rfl (by simp only [go_sem,i64,ints]) (by simp only [go_sem,i64,ints]) (by first | exact .inl rfl | exact .inr rfl) ?_
 (try simp only [go_sem]);(try simp (disch:=omega) only [zI]);repeat first | intro _ | refine ⟨by omega,?_⟩
 refine hK _ ?_;clear hK K;refine zw (zk [11,23,24,26,27,28]) ?_;simp only [go_sem]
 have e1 : IntKind.i64.wrap ((m : Int) - 1) = ((m - 1 : Nat) : Int):=by rw [zI] <;> omega
 have e2 : Int.tdiv (m : Int) 2 = ((m / 2 : Nat) : Int):=rfl
 have f4 : (decide (0 ≤ z) == (w.length == m - 1)) = true:=by rw [b4]; simp
 have e3 : IntKind.i64.wrap ((m / 2 : Nat) : Int) = ((m / 2 : Nat) : Int):=by rw [zI] <;> omega
 have f5 : ((w.length : Int) == ((m - 1 : Nat) : Int)) = (w.length == m - 1):=by
  rw [Bool.eq_iff_iff,beq_iff_eq,beq_iff_eq]; omega
 have q1 : ¬ ((P.length : Int) < ((m / 2 : Nat) : Int)):=by omega
 have q2 : ¬ (((m - 1 : Nat) : Int) < (P.length : Int)):=by omega
 have q3 : ¬ ((P.length : Int) < (w.length : Int)):=by omega
 have p1 : ¬ P.length < m / 2:=by omega
 have p2 : ¬ m - 1 < P.length:=by omega
 have p3 : ¬ P.length < w.length:=by omega
 repeat refine zq ?_
 refine zb fun K hK=>?_;simp only [go_sem,e1,e2,e3,f4,f5,Bool.not_true,q1,q2,q3,p1,p2,p3,decide_false,bne_self_eq_false,List.length_map];(try simp (disch:=omega) only [zI]);repeat first | intro _ | refine ⟨by omega,?_⟩
 repeat first | intro _ | refine ⟨by omega,?_⟩
 refine hK _ ?_;clear hK K;refine zw (zk [23,24,26,27,28,277]) ?_;simp only [go_sem]
 repeat refine zq ?_
 refine zc rfl (fun hc=>?_) (fun hc=>?_) <;> (try simp only [go_sem] at hc)
 refine zx ?_
 try simp only [go_sem]
 repeat refine zq ?_
 refine zb fun K hK=>?_;simp only [go_sem];(try simp (disch:=omega) only [zI]);repeat first | intro _ | refine ⟨by omega,?_⟩
 refine hK _ ?_;clear hK K;refine zw (zk [23,24,26,27,28,29]) ?_;simp only [go_sem]
 repeat refine zq ?_
 refine zb fun K hK=>?_;simp only [go_sem];(try simp (disch:=omega) only [zI]);repeat first | intro _ | refine ⟨by omega,?_⟩
 refine hK _ ?_;clear hK K;refine zw (zk [23,24,26,27,28,29,30]) ?_;simp only [go_sem]
 repeat refine zq ?_
 refine awp_joinV (n:=374) (fun (_ : Unit) vs=>[(23,.r (ints (someT m))),(24,.r (i64 (m : Int))),(28,.r (i64 z)),(29,.pt 29 (vs 29) 0)]) (fun _ vs=>[(29,.box (btA (btL w P P.length)))]) (fun _=>True) (fun _ h=>h) ?_ ?_
 · repeat refine zq ?_
   refine zd ?_
   refine awp_uptoV (n:=374) P.length (fun i vs=>[(23,.r (ints (someT m))),(24,.r (i64 (m : Int))),(26,.r (boolsR w)),(27,.r (.sl 2 (P.map prR))),(28,.r (i64 z)),(29,.pt 29 (vs 29) 0),(30,.r (i64 (i : Int)))])
    (fun i vs=>[(29,.box (btA (btL w P i)))]) (fun _=>True) 0 (zj [] ?_ ?_) (Nat.zero_le _) trivial ?_
   · try simp only [go_sem]
   · try simp only [go_sem]
     try rfl
   · intro i vs hi _
     repeat refine zq ?_
     refine zb fun K hK=>?_;simp only [go_sem];(try simp (disch:=omega) only [zI]);repeat first | intro _ | refine ⟨by omega,?_⟩
     refine hK _ ?_;clear hK K;refine zw (zk [23,24,26,27,28,29,30,282]) ?_;simp only [go_sem]
     repeat refine zq ?_
     refine zc rfl (fun hc=>?_) (fun hc=>?_) <;> (try simp only [go_sem] at hc)
     · have hiP : i < P.length:=by omega
       obtain ⟨⟨a,b⟩,hP⟩:=opt_of_lt (l:=P) (i:=i) hiP
       have h7:=b7 i hiP
       have hPd : P.getD i (0,0) = (a,b):=by rw [List.getD_eq_getElem?_getD,hP]; rfl
       rw [hPd] at h7
       obtain ⟨⟨⟨⟨⟨⟨h1,h2⟩,h3⟩,h4⟩,h5⟩,h6⟩,h8⟩:=h7
       simp only at h1 h2 h3 h4 h5 h6 h8
       obtain ⟨p,rfl⟩:=Int.eq_ofNat_of_zero_le h1
       obtain ⟨q,rfl⟩:=Int.eq_ofNat_of_zero_le h3
       have hbs : btL w P (i + 1) = if i < w.length then (btL w P i).set (if w.getD i false then q else p) true else btL w P i:=by
        rw [btL_succ,btS,hPd]; rfl
       have hbl:=btL_len w P i
       generalize btL w P (i + 1) = B' at *
       generalize btL w P i = B at *
       have l1 : p < B.length:=by omega
       have l2 : q < B.length:=by omega
       have g1:=btA_get (i:=p) h6 l1
       have g2:=btA_get (i:=q) h8 l2
       have s1:=btA_set (i:=p) true l1
       have s2:=btA_set (i:=q) true l2
       have d1 : decide ((p : Int) < 0) = false:=decide_eq_false (by omega)
       have d2 : decide (7 < (p : Int)) = false:=decide_eq_false (by omega)
       have d3 : decide ((q : Int) < 0) = false:=decide_eq_false (by omega)
       have d4 : decide (7 < (q : Int)) = false:=decide_eq_false (by omega)
       have d5 : ((p : Int) == (q : Int)) = false:=by simp; omega
       have d6 : (p == q) = false:=by simp; omega
       have l3 : p < 8:=by omega
       have l4 : q < 8:=by omega
       refine zx ?_
       try simp only [go_sem]
       repeat refine zq ?_
       refine zd ?_
       repeat refine zq ?_
       refine zg follows (by decide +kernel) (by kernel_rfl) fun K hK=>?_;simp only [go_sem,hP];(try simp (disch:=omega) only [zI]);repeat first | intro _ | refine ⟨by omega,?_⟩
       repeat first | intro _ | refine ⟨by omega,?_⟩
       refine hK _ ?_;clear hK K;refine zw (zk [23,24,26,27,28,29,30,31,32]) ?_;simp only [go_sem]
       repeat refine zq ?_
       refine zb fun K hK=>?_;simp only [go_sem,d1,d2,d3,d4,d5,d6,g1,g2,l3,l4,hbl,Nat.mul_one,List.length_map];(try simp (disch:=omega) only [zI]);repeat first | intro _ | refine ⟨by omega,?_⟩
       repeat first | intro _ | refine ⟨by omega,?_⟩
       refine hK _ ?_;clear hK K;refine zw (zk [23,24,26,27,28,29,30,31,32,323]) ?_;simp only [go_sem]
       repeat refine zq ?_
       refine zc rfl (fun hc=>?_) (fun hc=>?_) <;> (try simp only [go_sem] at hc)
       refine zx ?_
       try simp only [go_sem]
       by_cases hiw : i < w.length
       · rw [if_pos hiw] at hbs
         obtain ⟨x,hx⟩:=opt_of_lt (l:=w) (i:=i) hiw
         have hxd : w.getD i false = x:=by rw [List.getD_eq_getElem?_getD,hx]; rfl
         rw [hxd] at hbs
         cases x with
         | true =>
           rw [if_pos rfl] at hbs
           repeat refine zq ?_
           refine zb fun K hK=>?_;simp only [go_sem,hx,hiw,List.length_map];(try simp (disch:=omega) only [zI]);repeat first | intro _ | refine ⟨by omega,?_⟩
           repeat first | intro _ | refine ⟨by omega,?_⟩
           refine hK _ ?_;clear hK K;refine zw (zk [23,24,26,27,28,29,30,31,32,333]) ?_;simp only [go_sem]
           repeat refine zq ?_
           refine zc rfl (fun hc=>?_) (fun hc=>?_) <;> (try simp only [go_sem] at hc)
           repeat refine zq ?_
           refine zb fun K hK=>?_;simp only [go_sem,s2,l4,hbl,Nat.mul_one,List.length_map];(try simp (disch:=omega) only [zI]);repeat first | intro _ | refine ⟨by omega,?_⟩
           repeat first | intro _ | refine ⟨by omega,?_⟩
           refine hK _ ?_;clear hK K;refine zw (zk [23,24,26,27,28,29,30]) ?_;simp only [go_sem]
           repeat refine zq ?_
           refine zb fun K hK=>?_;simp only [go_sem];(try simp (disch:=omega) only [zI]);repeat first | intro _ | refine ⟨by omega,?_⟩
           refine hK _ ?_;clear hK K
           try simp only [go_sem]
           refine ⟨by omega,zj [] ?_ ?_⟩
           · try simp only [go_sem]
           · try simp only [go_sem]
             rw [hbs]
         | false =>
           rw [if_neg (by simp)] at hbs
           repeat refine zq ?_
           refine zb fun K hK=>?_;simp only [go_sem,hx,hiw,List.length_map];(try simp (disch:=omega) only [zI]);repeat first | intro _ | refine ⟨by omega,?_⟩
           repeat first | intro _ | refine ⟨by omega,?_⟩
           refine hK _ ?_;clear hK K;refine zw (zk [23,24,26,27,28,29,30,31,32,333]) ?_;simp only [go_sem]
           repeat refine zq ?_
           refine zc rfl (fun hc=>?_) (fun hc=>?_) <;> (try simp only [go_sem] at hc)
           repeat refine zq ?_
           refine zb fun K hK=>?_;simp only [go_sem,hiw,List.length_map];(try simp (disch:=omega) only [zI]);repeat first | intro _ | refine ⟨by omega,?_⟩
           repeat first | intro _ | refine ⟨by omega,?_⟩
           refine hK _ ?_;clear hK K;refine zw (zk [23,24,26,27,28,29,30,31,339]) ?_;simp only [go_sem]
           repeat refine zq ?_
           refine zc rfl (fun hc=>?_) (fun hc=>?_) <;> (try simp only [go_sem] at hc)
           repeat refine zq ?_
           refine zb fun K hK=>?_;simp only [go_sem,s1,l3,hbl,Nat.mul_one,List.length_map];(try simp (disch:=omega) only [zI]);repeat first | intro _ | refine ⟨by omega,?_⟩
           repeat first | intro _ | refine ⟨by omega,?_⟩
           refine hK _ ?_;clear hK K;refine zw (zk [23,24,26,27,28,29,30]) ?_;simp only [go_sem]
           repeat refine zq ?_
           refine zb fun K hK=>?_;simp only [go_sem];(try simp (disch:=omega) only [zI]);repeat first | intro _ | refine ⟨by omega,?_⟩
           refine hK _ ?_;clear hK K
           try simp only [go_sem]
           refine ⟨by omega,zj [] ?_ ?_⟩
           · try simp only [go_sem]
           · try simp only [go_sem]
             rw [hbs]
       · rw [if_neg hiw] at hbs
         repeat refine zq ?_
         refine zb fun K hK=>?_;simp only [go_sem,hiw,List.length_map];(try simp (disch:=omega) only [zI]);repeat first | intro _ | refine ⟨by omega,?_⟩
         repeat first | intro _ | refine ⟨by omega,?_⟩
         refine hK _ ?_;clear hK K;refine zw (zk [23,24,26,27,28,29,30,31,32,333]) ?_;simp only [go_sem]
         repeat refine zq ?_
         refine zc rfl (fun hc=>?_) (fun hc=>?_) <;> (try simp only [go_sem] at hc)
         repeat refine zq ?_
         refine zb fun K hK=>?_;simp only [go_sem,hiw,List.length_map];(try simp (disch:=omega) only [zI]);repeat first | intro _ | refine ⟨by omega,?_⟩
         repeat first | intro _ | refine ⟨by omega,?_⟩
         refine hK _ ?_;clear hK K;refine zw (zk [23,24,26,27,28,29,30,31,339]) ?_;simp only [go_sem]
         repeat refine zq ?_
         refine zc rfl (fun hc=>?_) (fun hc=>?_) <;> (try simp only [go_sem] at hc)
         refine zx ?_
         try simp only [go_sem]
         repeat refine zq ?_
         refine zb fun K hK=>?_;simp only [go_sem];(try simp (disch:=omega) only [zI]);repeat first | intro _ | refine ⟨by omega,?_⟩
         refine hK _ ?_;clear hK K
         try simp only [go_sem]
         refine ⟨by omega,zj [] ?_ ?_⟩
         · try simp only [go_sem]
         · try simp only [go_sem]
           rw [hbs]
     · have hiP : i = P.length:=by omega
       subst hiP
       refine zf ?_;simp only [go_sem]
       refine ⟨(),zj [] ?_ ?_⟩
       · try simp only [go_sem]
       · try simp only [go_sem]
 intro _ vs _
 have hbl:=btL_len w P P.length
 repeat refine zq ?_
 refine zb fun K hK=>?_;simp only [go_sem];(try simp (disch:=omega) only [zI]);repeat first | intro _ | refine ⟨by omega,?_⟩
 refine hK _ ?_;clear hK K;refine zw (sub_frzP 29 29 ((btL w P P.length).map fun b=>RV.bo b) (by omega) rfl rfl) ?_;refine zw (zk [23,24,28,29,343]) ?_;simp only [go_sem]
 by_cases hz0 : z < 0
 · have g0 : decide (z < 0) = true:=decide_eq_true hz0
   rw [g0]
   repeat refine zq ?_
   refine zc rfl (fun hc=>?_) (fun hc=>?_) <;> (try simp only [go_sem] at hc)
   repeat refine zq ?_
   refine zb fun K hK=>?_;simp only [go_sem];(try simp (disch:=omega) only [zI])
   refine zh (hkn) rfl (by simp only [go_sem,i64,ints]) (by simp only [go_sem,i64,ints]) (by first | exact .inl rfl | exact .inr rfl) ?_
   (try simp only [go_sem]);(try simp (disch:=omega) only [zI]);repeat first | intro _ | refine ⟨by omega,?_⟩
   refine hK _ ?_;clear hK K;refine zw (zk [6]) ?_;simp only [go_sem];refine ze ?_;simp only [go_sem]
 have g0 : decide (z < 0) = false:=decide_eq_false hz0
 rw [g0]
 obtain ⟨⟨c1,c2⟩,c3⟩:=b8.resolve_left hz0
 generalize btL w P P.length = B at *
 obtain ⟨u,rfl⟩:=Int.eq_ofNat_of_zero_le (show 0 ≤ z by omega)
 have hget : ∀ k d x,k < 8 → B.getD k d = x → (List.drop (k * 1) (B.map fun b=>RV.bo b)).headD RV.un = .bo x:=fun k d x hk hx=>by
  obtain ⟨y,hy⟩:=opt_of_lt (l:=B) (i:=k) (by omega)
  rw [List.getD_eq_getElem?_getD,hy] at hx
  simp only [Option.getD_some] at hx
  subst hx
  rw [Nat.mul_one,drop_of_opt (l:=B.map fun b=>RV.bo b) (i:=k) (x:=.bo y) (by rw [List.getElem?_map,hy]; rfl)]
  rfl
 repeat refine zq ?_
 refine zc rfl (fun hc=>?_) (fun hc=>?_) <;> (try simp only [go_sem] at hc)
 refine zx ?_
 try simp only [go_sem]
 repeat refine zq ?_
 refine zb fun K hK=>?_;simp only [go_sem];(try simp (disch:=omega) only [zI]);repeat first | intro _ | refine ⟨by omega,?_⟩
 refine hK _ ?_;clear hK K;refine zw (zk [23,24,28,29,33]) ?_;simp only [go_sem]
 repeat refine zq ?_
 refine zb fun K hK=>?_;simp only [go_sem];(try simp (disch:=omega) only [zI]);repeat first | intro _ | refine ⟨by omega,?_⟩
 refine hK _ ?_;clear hK K;refine zw (zk [23,24,28,29,33,34]) ?_;simp only [go_sem]
 repeat refine zq ?_
 refine awp_joinV (n:=374) (fun (_ : Unit) vs=>[(28,.r (i64 (u : Int))),(29,.r (.rp (B.map fun b=>RV.bo b))),(33,.r (i64 1))]) (fun _ vs=>[]) (fun _=>True) (fun _ h=>h) ?_ ?_
 · repeat refine zq ?_
   refine zd ?_
   refine awp_uptoV (n:=374) m (fun i vs=>[(23,.r (ints (someT m))),(24,.r (i64 (m : Int))),(28,.r (i64 (u : Int))),(29,.r (.rp (B.map fun b=>RV.bo b))),(33,.r (i64 (leftN (someT m) B i : Int))),(34,.r (i64 (i : Int)))])
    (fun i vs=>[]) (fun _=>True) 0 (zj [] ?_ ?_) (Nat.zero_le _) trivial ?_
   · try simp only [go_sem]
     try rfl
   · try simp only [go_sem]
     try rfl
   · intro i vs hi _
     repeat refine zq ?_
     refine zb fun K hK=>?_;simp only [go_sem];(try simp (disch:=omega) only [zI]);repeat first | intro _ | refine ⟨by omega,?_⟩
     refine hK _ ?_;clear hK K;refine zw (zk [23,24,28,29,33,34,347]) ?_;simp only [go_sem]
     repeat refine zq ?_
     refine zc rfl (fun hc=>?_) (fun hc=>?_) <;> (try simp only [go_sem] at hc)
     · have him : i < m:=by omega
       obtain ⟨t,ht⟩:=opt_of_lt (l:=someT m) (i:=i) (by omega)
       have htb:=someT_le t (mem_of_opt ht)
       obtain ⟨p,rfl⟩:=Int.eq_ofNat_of_zero_le htb.1
       have hp8 : p < 8:=by omega
       obtain ⟨x,hx⟩ : ∃ x,B.getD p false = x:=⟨_,rfl⟩
       have hxg:=hget p false x hp8 hx
       have hln : leftN (someT m) B (i + 1) = leftN (someT m) B i + (if x then 0 else 1):=by
        unfold leftN
        rw [take_of_opt ht,List.filter_append,List.length_append]
        have hx' : B[p]?.getD false = x:=by rw [← List.getD_eq_getElem?_getD]; exact hx
        cases x <;> simp [List.filter_cons,hx']
       have hlb : leftN (someT m) B i ≤ i:=by
        unfold leftN
        refine Nat.le_trans (List.length_filter_le _ _) ?_
        rw [List.length_take]; omega
       rw [hln]
       generalize leftN (someT m) B i = L at *
       refine zx ?_
       try simp only [go_sem]
       repeat refine zq ?_
       refine zd ?_
       repeat refine zq ?_
       refine zb fun K hK=>?_;simp only [go_sem,ht,hxg,hp8,hbl,List.length_map];(try simp (disch:=omega) only [zI]);repeat first | intro _ | refine ⟨by omega,?_⟩
       repeat first | intro _ | refine ⟨by omega,?_⟩
       refine hK _ ?_;clear hK K;refine zw (zk [23,24,28,29,33,34,356]) ?_;simp only [go_sem]
       cases x with
       | true =>
         repeat refine zq ?_
         refine zc rfl (fun hc=>?_) (fun hc=>?_) <;> (try simp only [go_sem] at hc)
         refine zx ?_
         try simp only [go_sem]
         repeat refine zq ?_
         refine zb fun K hK=>?_;simp only [go_sem];(try simp (disch:=omega) only [zI]);repeat first | intro _ | refine ⟨by omega,?_⟩
         refine hK _ ?_;clear hK K
         try simp only [go_sem]
         refine ⟨by omega,zj [] ?_ ?_⟩
         · try simp only [go_sem]
           try simp
         · try simp only [go_sem]
       | false =>
         repeat refine zq ?_
         refine zc rfl (fun hc=>?_) (fun hc=>?_) <;> (try simp only [go_sem] at hc)
         repeat refine zq ?_
         refine zb fun K hK=>?_;simp only [go_sem];(try simp (disch:=omega) only [zI]);repeat first | intro _ | refine ⟨by omega,?_⟩
         refine hK _ ?_;clear hK K;refine zw (zk [23,24,28,29,33,34]) ?_;simp only [go_sem]
         repeat refine zq ?_
         refine zb fun K hK=>?_;simp only [go_sem];(try simp (disch:=omega) only [zI]);repeat first | intro _ | refine ⟨by omega,?_⟩
         refine hK _ ?_;clear hK K
         try simp only [go_sem]
         refine ⟨by omega,zj [] ?_ ?_⟩
         · try simp only [go_sem]
           try simp
         · try simp only [go_sem]
     · have him : i = m:=by omega
       subst him
       rw [c2]
       refine zf ?_;simp only [go_sem]
       refine ⟨(),zj [] ?_ ?_⟩
       · try simp only [go_sem]
         try rfl
       · try simp only [go_sem]
 intro _ vs _
 have hu8 : u < 8:=by omega
 have hug:=hget u true false hu8 (by have:=c3; simpa using this)
 have g8 : decide ((u : Int) < 8) = true:=decide_eq_true (by omega)
 repeat refine zq ?_
 refine zb fun K hK=>?_;simp only [go_sem,g8,hug,hu8,hbl,List.length_map,beq_self_eq_true,Bool.not_false];(try simp (disch:=omega) only [zI]);repeat first | intro _ | refine ⟨by omega,?_⟩
 refine zh (hkn) rfl (by simp only [go_sem,i64,ints]) (by simp only [go_sem,i64,ints]) (by first | exact .inl rfl | exact .inr rfl) ?_
 try simp only [go_sem]
 repeat first | intro _ | refine ⟨by omega,?_⟩
 refine hK _ ?_;clear hK K;refine zw (zk [6]) ?_;simp only [go_sem];refine ze ?_;simp only [go_sem]
end Go.Proofs.Ytobokbhpeaakjaa

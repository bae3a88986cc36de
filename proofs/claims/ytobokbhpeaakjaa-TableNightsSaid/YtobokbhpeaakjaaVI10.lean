/- Part 10 of the texts of this claim. -/
import Derived.Test.YtobokbhpeaakjaaVI9
namespace Go.Proofs.Ytobokbhpeaakjaa
open Go Go.Oc
set_option linter.unusedSimpArgs false
set_option linter.unusedVariables false
set_option maxRecDepth 8000
set_option maxHeartbeats 4000000
def forV (r : Tr) (res : List Int) (k : Nat) (f : Int) : Int:=if res[k]? = some 0 then r.legs else if res[k]? = some 1 then r.legs / 2 else f
def putM (r : Tr) (res : List Int) (k : Nat) (m : Mt) : Mt:=⟨m.h,m.a,true,forV r res k m.f,r.legs - forV r res k m.f⟩
def fillL (r : Tr) (res : List Int) : Nat → List Mt → List Mt
 | _,[]=>[]
 | k,m :: ms=>if m.p then m :: fillL r res k ms else putM r res k m :: fillL r res (k + 1) ms
def mixL (r : Tr) (res : List Int) (l : List Mt) (i : Nat) : List Mt:=fillL r res 0 (l.take i) ++ l.drop i
abbrev u8 (n : Nat) : RV:=.it .u8 (n : Int)
abbrev bytesR (l : List Nat) : RV:=.sl 1 (l.map fun n=>[u8 n])
def rawB (bs : List Nat) (k : Nat) : Nat:=if bs = [] then 0 else bs.getD (k % bs.length) 0 % 3
def someN (r : Tr) (bs : List Nat) (k : Nat) : Int:=if rawB bs k = 1 ∧ r.legs % 2 = 1 then 2 else (rawB bs k : Int)
def someV (r : Tr) (l : List Mt) (bs : List Nat) : List Int:=(List.range (leftV l).length).map (someN r bs)
structure Sm where
 teams : Nat
 legs : Nat
 win : Nat
 draw : Nat
 up : Nat
 down : Nat
 ded : List Nat
 ms : List (Nat × Nat × Nat)
 left : Nat
abbrev m3R (v : Nat × Nat × Nat) : List RV:=[u8 v.1,u8 v.2.1,u8 v.2.2]
abbrev smC (x : Sm) : List RV:=[u8 x.teams,u8 x.legs,u8 x.win,u8 x.draw,u8 x.up,u8 x.down,bytesR x.ded,.sl 3 (x.ms.map m3R),u8 x.left]
abbrev smV (x : Sm) : RV:=.ag (smC x)
structure WfS (x : Sm) : Prop where
 teams : x.teams < 256
 legs : x.legs < 256
 win : x.win < 256
 draw : x.draw < 256
 up : x.up < 256
 down : x.down < 256
 ded : ∀ n ∈ x.ded,n < 256
 ms : ∀ v ∈ x.ms,v.1 < 256 ∧ v.2.1 < 256 ∧ v.2.2 < 256
 left : x.left < 256
def sT (x : Sm) : Nat:=2 + x.teams % 7
def sL (x : Sm) : Nat:=1 + x.legs % 12
def sW (x : Sm) : Nat:=x.win % 10
def sD (x : Sm) : Nat:=x.draw % (sW x + 1)
def sU (x : Sm) : Nat:=x.up % (sT x + 1)
def sN (x : Sm) : Nat:=x.down % (sT x - sU x + 1)
def sDed (x : Sm) (i : Nat) : List Int:=(List.range i).map fun k=>((x.ded.getD (k % x.ded.length) 0 % 20 : Nat) : Int)
def divR (x : Sm) : Tr:=⟨sT x,sL x,sW x,sD x,if x.ded = [] then [] else sDed x (sT x),sU x,sN x⟩
def playedB (x : Sm) (i : Nat) : Bool:=decide ((i : Int) < (x.ms.length : Int) - ((x.left % 6 : Nat) : Int)) && decide ((i : Int) < 30 - ((x.left % 6 : Nat) : Int))
def mkM (x : Sm) (i : Nat) (v : Nat × Nat × Nat) : Mt :=
 ⟨((v.1 % sT x : Nat) : Int),(((v.1 % sT x + 1 + v.2.1 % (sT x - 1)) % sT x : Nat) : Int),playedB x i,if playedB x i then ((v.2.2 % (sL x + 1) : Nat) : Int) else 0,if playedB x i then (sL x : Int) - ((v.2.2 % (sL x + 1) : Nat) : Int) else 0⟩
def divK (x : Sm) (i : Nat) : List Mt:=(List.range i).map fun k=>mkM x k (x.ms.getD k (0,0,0))
def divN (x : Sm) : Nat:=min x.ms.length 30
def divL (x : Sm) : List Mt:=divK x (divN x)
def dedAt (x : Sm) (i : Nat) : Int:=((x.ded.getD (i % x.ded.length) 0 % 20 : Nat) : Int)
abbrev thsR (ts : List Th) : RV:=.sl 21 (ts.map thC)
def span99 (n : Nat) (ts : List Th) (x : Nat) : Int × Int:=ts.foldl (spanS n x) (99,0)
def canB (x : Nat) (m : Nat) (ts : List Th) : Bool:=ts.any fun t=>t.won.getD x 0 == (m : Int)
def sureB (n x : Nat) (place : Int) (m : Nat) (ts : List Th) : Bool:=ts.all fun t=>!(decide ((m : Int) ≤ t.won.getD x 0) && decide (place < (placesV n t x).2))
def magB (n x : Nat) (place : Int) (ts : List Th) (m : Nat) : Bool:=canB x m ts && sureB n x place m ts
def refMagicV (n x : Nat) (place : Int) (ts : List Th) : Int:=match (List.range 91).find? (magB n x place ts) with | some m=>(m : Int) | none=>-1
def betB (a b : Rw) : Bool :=
 if a.pts ≠ b.pts then decide (b.pts < a.pts) else if a.f - a.g ≠ b.f - b.g then decide (b.f - b.g < a.f - a.g) else if a.f ≠ b.f then decide (b.f < a.f) else decide (a.team < b.team)
abbrev rwA (x : Rw) : List AV:=[.r (i64 x.team),.r (i64 x.pl),.r (i64 x.won),.r (i64 x.dr),.r (i64 x.lo),.r (i64 x.f),.r (i64 x.g),.r (i64 x.pts)]
def zeroW : Rw:=⟨0,0,0,0,0,0,0,0⟩
def atK (w : Nat → Rw) (i k : Nat) : Nat:=((List.range k).filter fun j=>betB (w j) (w i)).length
def tabK (w : Nat → Rw) (n i : Nat) : List Rw:=(List.range i).foldl (fun out j=>out.set (atK w j n) (w j)) (List.replicate n zeroW)
def DescP (lt : Rw → Rw → Bool) (R : List Rw) : Prop:=R.Pairwise fun a b=>lt a b = false
set_option maxHeartbeats 2000000
def sumF {α : Type} (f : α → Int) : List α → Int
 | []=>0
 | x :: l=>f x + sumF f l
theorem sumF_app {α : Type} (f : α → Int) : ∀ a b : List α,sumF f (a ++ b) = sumF f a + sumF f b
 | [],b=>by simp [sumF]
 | x :: a,b=>by simp only [List.cons_append,sumF,sumF_app f a b]; omega
theorem sumF_congr {α : Type} {f g : α → Int} : ∀ {l : List α},(∀ x ∈ l,f x = g x) → sumF f l = sumF g l
 | [],_=>rfl
 | x :: l,h=>by simp only [sumF,h x (by simp),sumF_congr (l:=l) fun y hy=>h y (by simp [hy])]
def gPts (r : Tr) (x : Rw) : Int:=r.win * x.won + r.draw * x.dr
def gLeg (x : Rw) : Int:=x.f - x.g
def aPts (r : Tr) (m : Mt) : Int:=if m.g < m.f then r.win else if m.f = m.g then r.draw else 0
def bPts (r : Tr) (m : Mt) : Int:=if m.f < m.g then r.win else if m.f = m.g then r.draw else 0
def mPts (r : Tr) (m : Mt) : Int:=if m.p = true ∧ m.f = m.g then 2 * r.draw else if m.p = true then r.win else 0
structure RowI (r : Tr) (t : Nat) (x : Rw) : Prop where
 team : x.team = t
 pl : x.pl = x.won + x.dr + x.lo
 legs : x.f + x.g = r.legs * x.pl
 own : gPts r x - x.pts = if r.ded = [] then 0 else r.ded.getD t 0
def backL (l : List Mt) (s i : Nat) : List Mt:=(List.range i).foldl (fun b k=>l.getD ((k + s) % l.length) ⟨0,0,false,0,0⟩ :: b) []
def tabT (r : Tr) (l : List Mt) : List Rw:=sortW (rowsL r l)
def seenB (T : List Rw) (i : Nat) : List Bool:=(List.range 10).map fun j : Nat=>(T.take i).any fun w=>w.team == (j : Int)
def ctr (r : Tr) (m : Mt) (x : Int) (i : Nat) : Int:=(if m.h.toNat = i then (ptsV r x).1 else 0) + (if m.a.toNat = i then (ptsV r x).2 else 0)
def ctrs (r : Tr) : List Mt → List Int → Nat → Int
 | m :: ms,x :: xs,i=>ctr r m x i + ctrs r ms xs i
 | _,_,_=>0
def truthOf (r : Tr) (left : List Mt) (t : Th) (res : List Int) : Th :=
 ⟨t.res ++ res,(List.range 10).map fun i=>t.pts.getD i 0 + ctrs r left res i,(List.range 10).map fun i=>t.won.getD i 0 + ctrs r left res i⟩
def resL (r : Tr) : Nat → List (List Int)
 | 0=>[[]]
 | n + 1=>(xsOf r).flatMap fun x=>(resL r n).map (x :: ·)
set_option maxHeartbeats 2000000
def cM (r : Tr) (t : Nat) (m : Mt) : Int:=if m.p then (if m.h = (t : Int) then (ptsV r (resV m)).1 else if m.a = (t : Int) then (ptsV r (resV m)).2 else 0) else 0
def b1 (p : Prop) [Decidable p] : Int:=if p then 1 else 0
set_option maxRecDepth 8000
set_option maxHeartbeats 4000000
abbrev encI (e : Int × Int) : RV × RV:=(i64 e.1,i64 e.2)
def getM : List (Int × Int) → Int → Int
 | [],_=>0
 | (a,v) :: M,k=>if k = a then v else getM M k
def incM : List (Int × Int) → Int → List (Int × Int)
 | [],k=>[(k,1)]
 | (a,v) :: M,k=>if k = a then (a,v + 1) :: M else (a,v) :: incM M k
theorem getM_inc (k z : Int) : ∀ M,getM (incM M k) z = getM M z + b1 (k = z)
 | [] => by
   simp only [incM,getM,b1]
   by_cases h : z = k
   · subst h; simp
   · have h2 : ¬ k = z:=fun e=>h e.symm
     simp [h,h2]
 | (a, v) :: M => by
   have ih:=getM_inc k z M
   unfold incM
   by_cases h : k = a
   · subst h
     rw [if_pos rfl]
     simp only [getM,b1]
     by_cases h2 : z = k
     · rw [if_pos h2,if_pos h2,if_pos h2.symm]
     · rw [if_neg h2,if_neg h2,if_neg (fun e=>h2 e.symm)]; omega
   · rw [if_neg h]
     simp only [getM]
     by_cases h2 : z = a
     · subst h2
       rw [if_pos rfl,if_pos rfl]; unfold b1; rw [if_neg h]; omega
     · rw [if_neg h2,if_neg h2,ih]
theorem findI (k : Int) : ∀ (M : List (Int × Int)) (i : Nat),
 (findK (i64 k) (M.map encI) i = some none ∧ getM M k = 0 ∧ incM M k = M ++ [(k,1)]) ∨
 ∃ j,findK (i64 k) (M.map encI) i = some (some (i + j,i64 (getM M k))) ∧ incM M k = M.set j (k,getM M k + 1) ∧ j < M.length
 | [],i=>.inl ⟨rfl,rfl,rfl⟩
 | (a, v) :: M, i => by
   by_cases h : k = a
   · subst h
     refine .inr ⟨0,?_,?_,by simp⟩
     · simp [findK,sameK,getM]
     · simp [incM,getM]
   · have hb : (k == a) = false:=by simp [h]
     have e1 : getM ((a,v) :: M) k = getM M k:=by simp only [getM]; rw [if_neg h]
     have e2 : incM ((a,v) :: M) k = (a,v) :: incM M k:=by simp only [incM]; rw [if_neg h]
     have e3 : findK (i64 k) (((a,v) :: M).map encI) i = findK (i64 k) (M.map encI) (i + 1):=by simp only [List.map_cons,findK,sameK,if_true,hb]
     rw [e1,e2,e3]
     rcases findI k M (i + 1) with ⟨h1,h2,h3⟩ | ⟨j,h1,h2,h3⟩
     · exact .inl ⟨h1,h2,by rw [h3]; rfl⟩
     · refine .inr ⟨j + 1,?_,?_,by simp; omega⟩
       · rw [h1,show i + (j + 1) = i + 1 + j by omega]
       · rw [h2]; rfl
def tmM (l : List Mt) : List (Int × Int):=l.foldl (fun M m=>incM (incM M m.h) m.a) []
def vnM (v : List Int) (l : List Mt) : List (Int × Int):=l.foldl (fun M m=>incM M (v.getD m.h.toNat 0)) []
theorem tmM_snoc (l : List Mt) (m : Mt) : tmM (l ++ [m]) = incM (incM (tmM l) m.h) m.a:=by simp [tmM]
theorem vnM_snoc (v : List Int) (l : List Mt) (m : Mt) : vnM v (l ++ [m]) = incM (vnM v l) (v.getD m.h.toNat 0):=by simp [vnM]
def cntT (l : List Mt) (t : Int) : Int:=sumF (fun m=>b1 (m.h = t) + b1 (m.a = t)) l
def cntV (v : List Int) (l : List Mt) (z : Int) : Int:=sumF (fun m=>b1 (v.getD m.h.toNat 0 = z)) l
theorem tmM_get (l : List Mt) (t : Int) : getM (tmM l) t = cntT l t:=by
 induction l using snoc_ind with
 | h0=>rfl
 | h1 l m ih =>
   rw [tmM_snoc,getM_inc,getM_inc,ih]
   unfold cntT
   rw [sumF_app]
   simp only [sumF]; omega
theorem vnM_get (v : List Int) (l : List Mt) (z : Int) : getM (vnM v l) z = cntV v l z:=by
 induction l using snoc_ind with
 | h0=>rfl
 | h1 l m ih =>
   rw [vnM_snoc,getM_inc,ih]
   unfold cntV
   rw [sumF_app]
   simp only [sumF]; omega
theorem cntT_le (l : List Mt) (t : Int) : 0 ≤ cntT l t ∧ cntT l t ≤ 2 * l.length:=by
 unfold cntT
 induction l with
 | nil=>simp [sumF]
 | cons m l ih=>simp only [sumF,b1,List.length_cons] at ih ⊢; (repeat' split) <;> omega
theorem cntV_le (v : List Int) (l : List Mt) (z : Int) : 0 ≤ cntV v l z ∧ cntV v l z ≤ l.length:=by
 unfold cntV
 induction l with
 | nil=>simp [sumF]
 | cons m l ih=>simp only [sumF,b1,List.length_cons] at ih ⊢; (repeat' split) <;> omega
abbrev clR (c : Int × Int × Int) : List RV:=[i64 c.1,i64 c.2.1,i64 c.2.2]
def clT (l : List Mt) (i t : Nat) : List (Int × Int × Int):=(List.range t).flatMap fun (q : Nat)=>if 1 < cntT l q then [((i : Int),(q : Int),-1)] else []
def clB (v b : List Int) (l : List Mt) (i z : Nat) : List (Int × Int × Int):=(List.range z).flatMap fun (q : Nat)=>if b.getD q 0 < cntV v l q then [((i : Int),-1,(q : Int))] else []
def clN (N : List (List Mt)) (v b : List Int) (i : Nat) : List (Int × Int × Int):=(List.range i).flatMap fun (q : Nat)=>clT (N.getD q []) q v.length ++ clB v b (N.getD q []) q b.length
theorem clT_succ (l : List Mt) (i t : Nat) : clT l i (t + 1) = clT l i t ++ (if 1 < cntT l t then [((i : Int),(t : Int),-1)] else []):=by simp [clT,List.range_succ]
theorem clB_succ (v b : List Int) (l : List Mt) (i z : Nat) : clB v b l i (z + 1) = clB v b l i z ++ (if b.getD z 0 < cntV v l z then [((i : Int),-1,(z : Int))] else []):=by simp [clB,List.range_succ]
theorem clN_succ {N : List (List Mt)} {v b : List Int} {i : Nat} {l : List Mt} (h : N[i]? = some l) : clN N v b (i + 1) = clN N v b i ++ clT l i v.length ++ clB v b l i b.length:=by
 simp [clN,List.range_succ,List.getD_eq_getElem?_getD,h,List.append_assoc]
theorem clT_len (l : List Mt) (i : Nat) : ∀ t,(clT l i t).length ≤ t
 | 0=>by simp [clT]
 | t + 1=>by rw [clT_succ,List.length_append]; have:=clT_len l i t; split <;> simp <;> omega
theorem clB_len (v b : List Int) (l : List Mt) (i : Nat) : ∀ z,(clB v b l i z).length ≤ z
 | 0=>by simp [clB]
 | z + 1=>by rw [clB_succ,List.length_append]; have:=clB_len v b l i z; split <;> simp <;> omega
structure NightI (N : List (List Mt)) (v b : List Int) : Prop where
 nl : N.length ≤ 100
 ll : ∀ l ∈ N,l.length ≤ 180
 vl : v.length ≤ 10
 bl : b.length ≤ 10
 vs : ∀ x ∈ v,0 ≤ x ∧ x < b.length
 bs : ∀ x ∈ b,0 ≤ x ∧ x ≤ 9
 ms : ∀ l ∈ N,∀ m ∈ l,(0 ≤ m.h ∧ m.h < v.length) ∧ (0 ≤ m.a ∧ m.a < v.length) ∧ m.h ≠ m.a
theorem night_good {N : List (List Mt)} {v b : List Int} (h : nightErr N v b = 0) : NightI N v b:=by
 unfold nightErr at h
 by_cases c1 : 100 < N.length ∨ (N.any fun l=>decide (180 < l.length)) = true ∨ 10 < v.length ∨ 10 < b.length
 · rw [if_pos c1] at h; cases h
 rw [if_neg c1] at h
 by_cases c2 : withinL 0 ((b.length : Int) - 1) v = false ∨ withinL 0 9 b = false
 · rw [if_pos c2] at h; cases h
 rw [if_neg c2] at h
 by_cases c3 : (N.any fun l=>l.any (badN v)) = true
 · rw [if_pos c3] at h; cases h
 simp only [not_or] at c1 c2
 have c2a : withinL 0 ((b.length : Int) - 1) v = true:=by simpa using c2.1
 have c2b : withinL 0 9 b = true:=by simpa using c2.2
 refine ⟨by omega,fun l hl=>?_,by omega,by omega,fun x hx=>?_,fun x hx=>?_,fun l hl m hm=>?_⟩
 · by_cases hc : 180 < l.length
   · exact absurd (List.any_eq_true.2 ⟨l,hl,by simpa using hc⟩) c1.2.1
   · omega
 · have:=List.all_eq_true.1 c2a x hx
   simp at this; omega
 · have:=List.all_eq_true.1 c2b x hx
   simp at this; omega
 · have hb : badN v m = false:=by
    cases hb : badN v m with
    | false=>rfl
    | true=>exact absurd (List.any_eq_true.2 ⟨l,hl,List.any_eq_true.2 ⟨m,hm,hb⟩⟩) c3
   unfold badN at hb
   rw [Bool.or_eq_false_iff] at hb
   have h1 : withinL 0 ((v.length : Int) - 1) [m.h,m.a] = true:=by simpa using hb.1
   have h2:=withinL_two.1 h1
   have h3 : m.h ≠ m.a:=by simpa using hb.2
   omega
end Go.Proofs.Ytobokbhpeaakjaa

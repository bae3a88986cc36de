/- Part 10 of the texts of this claim. -/
import Derived.Test.YtobokbhpeaakjaaVL9
namespace Go.Proofs.Ytobokbhpeaakjaa
open Go Go.Oc
set_option linter.unusedSimpArgs false
set_option linter.unusedVariables false
set_option maxRecDepth 8000
set_option maxHeartbeats 4000000
def forV (r : Tr) (res : List Int) (k : Nat) (f : Int) : Int:=if res[k]? = some 0 then r.legs else if res[k]? = some 1 then r.legs / 2 else f
def putM (r : Tr) (res : List Int) (k : Nat) (m : Mt) : Mt:=⟨m.h,m.a,true,forV r res k m.f,r.legs - forV r res k m.f⟩
def fillL (r : Tr) (res : List Int) : Nat → List Mt → List Mt
 | _,[]=>[]
 | k,m :: ms=>if m.p then m :: fillL r res k ms else putM r res k m :: fillL r res (k + 1) ms
def mixL (r : Tr) (res : List Int) (l : List Mt) (i : Nat) : List Mt:=fillL r res 0 (l.take i) ++ l.drop i
abbrev u8 (n : Nat) : RV:=.it .u8 (n : Int)
abbrev bytesR (l : List Nat) : RV:=.sl 1 (l.map fun n=>[u8 n])
def rawB (bs : List Nat) (k : Nat) : Nat:=if bs = [] then 0 else bs.getD (k % bs.length) 0 % 3
def someN (r : Tr) (bs : List Nat) (k : Nat) : Int:=if rawB bs k = 1 ∧ r.legs % 2 = 1 then 2 else (rawB bs k : Int)
def someV (r : Tr) (l : List Mt) (bs : List Nat) : List Int:=(List.range (leftV l).length).map (someN r bs)
theorem rawB_lt (bs : List Nat) (k : Nat) : rawB bs k < 3:=by unfold rawB; split <;> omega
structure Sm where
 teams : Nat
 legs : Nat
 win : Nat
 draw : Nat
 up : Nat
 down : Nat
 ded : List Nat
 ms : List (Nat × Nat × Nat)
 left : Nat
abbrev m3R (v : Nat × Nat × Nat) : List RV:=[u8 v.1,u8 v.2.1,u8 v.2.2]
abbrev smC (x : Sm) : List RV:=[u8 x.teams,u8 x.legs,u8 x.win,u8 x.draw,u8 x.up,u8 x.down,bytesR x.ded,.sl 3 (x.ms.map m3R),u8 x.left]
abbrev smV (x : Sm) : RV:=.ag (smC x)
structure WfS (x : Sm) : Prop where
 teams : x.teams < 256
 legs : x.legs < 256
 win : x.win < 256
 draw : x.draw < 256
 up : x.up < 256
 down : x.down < 256
 ded : ∀ n ∈ x.ded,n < 256
 ms : ∀ v ∈ x.ms,v.1 < 256 ∧ v.2.1 < 256 ∧ v.2.2 < 256
 left : x.left < 256
def sT (x : Sm) : Nat:=2 + x.teams % 7
def sL (x : Sm) : Nat:=1 + x.legs % 12
def sW (x : Sm) : Nat:=x.win % 10
def sD (x : Sm) : Nat:=x.draw % (sW x + 1)
def sU (x : Sm) : Nat:=x.up % (sT x + 1)
def sN (x : Sm) : Nat:=x.down % (sT x - sU x + 1)
def sDed (x : Sm) (i : Nat) : List Int:=(List.range i).map fun k=>((x.ded.getD (k % x.ded.length) 0 % 20 : Nat) : Int)
def divR (x : Sm) : Tr:=⟨sT x,sL x,sW x,sD x,if x.ded = [] then [] else sDed x (sT x),sU x,sN x⟩
def playedB (x : Sm) (i : Nat) : Bool:=decide ((i : Int) < (x.ms.length : Int) - ((x.left % 6 : Nat) : Int)) && decide ((i : Int) < 30 - ((x.left % 6 : Nat) : Int))
def mkM (x : Sm) (i : Nat) (v : Nat × Nat × Nat) : Mt :=
 ⟨((v.1 % sT x : Nat) : Int),(((v.1 % sT x + 1 + v.2.1 % (sT x - 1)) % sT x : Nat) : Int),playedB x i,if playedB x i then ((v.2.2 % (sL x + 1) : Nat) : Int) else 0,if playedB x i then (sL x : Int) - ((v.2.2 % (sL x + 1) : Nat) : Int) else 0⟩
def divK (x : Sm) (i : Nat) : List Mt:=(List.range i).map fun k=>mkM x k (x.ms.getD k (0,0,0))
def divN (x : Sm) : Nat:=min x.ms.length 30
def divL (x : Sm) : List Mt:=divK x (divN x)
def dedAt (x : Sm) (i : Nat) : Int:=((x.ded.getD (i % x.ded.length) 0 % 20 : Nat) : Int)
abbrev thsR (ts : List Th) : RV:=.sl 21 (ts.map thC)
def span99 (n : Nat) (ts : List Th) (x : Nat) : Int × Int:=ts.foldl (spanS n x) (99,0)
def canB (x : Nat) (m : Nat) (ts : List Th) : Bool:=ts.any fun t=>t.won.getD x 0 == (m : Int)
def sureB (n x : Nat) (place : Int) (m : Nat) (ts : List Th) : Bool:=ts.all fun t=>!(decide ((m : Int) ≤ t.won.getD x 0) && decide (place < (placesV n t x).2))
def magB (n x : Nat) (place : Int) (ts : List Th) (m : Nat) : Bool:=canB x m ts && sureB n x place m ts
def refMagicV (n x : Nat) (place : Int) (ts : List Th) : Int:=match (List.range 91).find? (magB n x place ts) with | some m=>(m : Int) | none=>-1
def betB (a b : Rw) : Bool :=
 if a.pts ≠ b.pts then decide (b.pts < a.pts) else if a.f - a.g ≠ b.f - b.g then decide (b.f - b.g < a.f - a.g) else if a.f ≠ b.f then decide (b.f < a.f) else decide (a.team < b.team)
abbrev rwA (x : Rw) : List AV:=[.r (i64 x.team),.r (i64 x.pl),.r (i64 x.won),.r (i64 x.dr),.r (i64 x.lo),.r (i64 x.f),.r (i64 x.g),.r (i64 x.pts)]
def zeroW : Rw:=⟨0,0,0,0,0,0,0,0⟩
def atK (w : Nat → Rw) (i k : Nat) : Nat:=((List.range k).filter fun j=>betB (w j) (w i)).length
def tabK (w : Nat → Rw) (n i : Nat) : List Rw:=(List.range i).foldl (fun out j=>out.set (atK w j n) (w j)) (List.replicate n zeroW)
theorem orV_step (x y : Int) (L : List Int) : decide (orV (cmpI x y :: L) < 0) = if y ≠ x then decide (x < y) else decide (orV L < 0):=by
 unfold cmpI
 rcases Int.lt_trichotomy x y with h | h | h
 · have h2 : y ≠ x:=by omega
   simp [orV,h,h2]
 · subst h
   simp [orV]
 · have h1 : ¬ x < y:=by omega
   have h2 : y ≠ x:=by omega
   simp [orV,h,h1,h2]
theorem betB_lt (a b : Rw) : betB a b = ltW a b:=by
 unfold betB ltW cmpW
 rw [orV_step,orV_step,orV_step,orV_step]
 by_cases h : b.team ≠ a.team
 · rw [if_pos h]
 · rw [if_neg h]
   have : ¬ a.team < b.team:=by omega
   simp [orV,this]
theorem insB_perm (lt : Rw → Rw → Bool) (x : Rw) : ∀ R,(insB lt x R).Perm (x :: R)
 | []=>by simp [insB]
 | y :: R => by
   unfold insB
   split
   · exact ((insB_perm lt x R).cons y).trans (List.Perm.swap x y R)
   · exact List.Perm.refl _
theorem sortB_perm (lt : Rw → Rw → Bool) : ∀ l R,(sortB lt l R).Perm (l ++ R)
 | [],R=>by simp [sortB]
 | x :: l, R => by
   simp only [sortB]
   refine (sortB_perm lt l _).trans ?_
   refine ((insB_perm lt x R).append_left l).trans ?_
   exact List.perm_middle
theorem sortN_perm (lt : Rw → Rw → Bool) (l : List Rw) : (sortN lt l).Perm l:=by
 unfold sortN
 refine (List.reverse_perm _).trans ?_
 simpa using sortB_perm lt l []
def DescP (lt : Rw → Rw → Bool) (R : List Rw) : Prop:=R.Pairwise fun a b=>lt a b = false
theorem insB_desc {lt : Rw → Rw → Bool} (asym : ∀ a b,lt a b = true → lt b a = false) (trans : ∀ a b c,lt a b = false → lt b c = false → lt a c = false) (x : Rw) : ∀ R,DescP lt R → DescP lt (insB lt x R)
 | [],_=>by simp [insB,DescP]
 | y :: R, h => by
   obtain ⟨h1,h2⟩:=List.pairwise_cons.1 h
   unfold insB
   split
   · rename_i hy
     refine List.pairwise_cons.2 ⟨fun z hz=>?_,insB_desc asym trans x R h2⟩
     rw [mem_insB] at hz
     rcases hz with rfl | hz
     · exact asym _ _ hy
     · exact h1 z hz
   · rename_i hy
     have hy' : lt x y = false:=by simpa using hy
     refine List.pairwise_cons.2 ⟨fun z hz=>?_,h⟩
     rcases List.mem_cons.1 hz with rfl | hz
     · exact hy'
     · exact trans _ _ _ hy' (h1 z hz)
theorem sortB_desc {lt : Rw → Rw → Bool} (asym : ∀ a b,lt a b = true → lt b a = false) (trans : ∀ a b c,lt a b = false → lt b c = false → lt a c = false) : ∀ l R,DescP lt R → DescP lt (sortB lt l R)
 | [],R,h=>h
 | x :: l,R,h=>by simp only [sortB]; exact sortB_desc asym trans l _ (insB_desc asym trans x R h)
theorem sortN_asc {lt : Rw → Rw → Bool} (asym : ∀ a b,lt a b = true → lt b a = false) (trans : ∀ a b c,lt a b = false → lt b c = false → lt a c = false) (l : List Rw) : (sortN lt l).Pairwise fun a b=>lt b a = false:=by
 unfold sortN
 rw [List.pairwise_reverse]
 exact sortB_desc asym trans l [] List.Pairwise.nil
theorem betB_asym (a b : Rw) (h : betB a b = true) : betB b a = false:=by
 unfold betB at *
 (repeat' split at h) <;> (repeat' split) <;> simp at * <;> omega
theorem betB_trans (a b c : Rw) (h : betB a b = false) (h2 : betB b c = false) : betB a c = false:=by
 unfold betB at *
 (repeat' split at h) <;> (repeat' split at h2) <;> (repeat' split) <;> simp at * <;> omega
theorem team_row (r : Tr) (l : List Mt) (t : Nat) : (rowT r l t).team = t:=by
 induction l using snoc_ind with
 | h0=>rfl
 | h1 l m ih =>
   rw [rowT_snoc]
   unfold stepW
   (repeat' split) <;> simp [addW,ih]
set_option maxHeartbeats 2000000
def sumF {α : Type} (f : α → Int) : List α → Int
 | []=>0
 | x :: l=>f x + sumF f l
theorem sumF_app {α : Type} (f : α → Int) : ∀ a b : List α,sumF f (a ++ b) = sumF f a + sumF f b
 | [],b=>by simp [sumF]
 | x :: a,b=>by simp only [List.cons_append,sumF,sumF_app f a b]; omega
theorem sumF_perm {α : Type} (f : α → Int) {a b : List α} (h : a.Perm b) : sumF f a = sumF f b:=by
 induction h with
 | nil=>rfl
 | cons x _ ih=>simp only [sumF,ih]
 | swap x y l=>simp only [sumF]; omega
 | trans _ _ h1 h2=>rw [h1,h2]
theorem sumF_map {α β : Type} (f : β → Int) (g : α → β) : ∀ l : List α,sumF f (l.map g) = sumF (fun x=>f (g x)) l
 | []=>rfl
 | x :: l=>by simp only [List.map_cons,sumF,sumF_map f g l]
theorem sumF_zero {α : Type} {f : α → Int} : ∀ {l : List α},(∀ x ∈ l,f x = 0) → sumF f l = 0
 | [],_=>rfl
 | x :: l,h=>by simp only [sumF,h x (by simp),sumF_zero (l:=l) fun y hy=>h y (by simp [hy])]; rfl
theorem sumF_congr {α : Type} {f g : α → Int} : ∀ {l : List α},(∀ x ∈ l,f x = g x) → sumF f l = sumF g l
 | [],_=>rfl
 | x :: l,h=>by simp only [sumF,h x (by simp),sumF_congr (l:=l) fun y hy=>h y (by simp [hy])]
def gPts (r : Tr) (x : Rw) : Int:=r.win * x.won + r.draw * x.dr
def gLeg (x : Rw) : Int:=x.f - x.g
def aPts (r : Tr) (m : Mt) : Int:=if m.g < m.f then r.win else if m.f = m.g then r.draw else 0
def bPts (r : Tr) (m : Mt) : Int:=if m.f < m.g then r.win else if m.f = m.g then r.draw else 0
def mPts (r : Tr) (m : Mt) : Int:=if m.p = true ∧ m.f = m.g then 2 * r.draw else if m.p = true then r.win else 0
structure RowI (r : Tr) (t : Nat) (x : Rw) : Prop where
 team : x.team = t
 pl : x.pl = x.won + x.dr + x.lo
 legs : x.f + x.g = r.legs * x.pl
 own : gPts r x - x.pts = if r.ded = [] then 0 else r.ded.getD t 0
def backL (l : List Mt) (s i : Nat) : List Mt:=(List.range i).foldl (fun b k=>l.getD ((k + s) % l.length) ⟨0,0,false,0,0⟩ :: b) []
end Go.Proofs.Ytobokbhpeaakjaa

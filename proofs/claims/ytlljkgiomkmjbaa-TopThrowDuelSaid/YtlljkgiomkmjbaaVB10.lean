/- For all laws in bytes, the given function TopThrowDuel returns true: with the last dart against an opponent who surely ends the leg then, the chance of each aim is that of the beds that win it, the least and the greatest mean of a law, in millionths. No conditions beyond those of the given statement. -/
import Derived.Test.YtlljkgiomkmjbaaVB9
import Derived.Test.YtlljkgiomkmjbaaVB7
import Derived.Test.YtlljkgiomkmjbaaVB5
import Derived.ChangeShapes
import Derived.WideShapes
import Derived.OpenShut
import Derived.ShutString
import Derived.ChangeOld
import Derived.Carry
import Derived.Below
import Derived.Test.YtlljkgiomkmjbaaRows
import Derived.JoinedOf
namespace Go.Proofs.Ytlljkgiomkmjbaa.Du
open Go Go.Oc
set_option linter.unusedSimpArgs false
set_option linter.unusedVariables false
set_option maxRecDepth 8000
theorem bAt_th (l : List Bd) (i : Nat) : Th.bAt l i = bAt l i:=rfl
theorem truth_th {d : Int} {l : List Bd} {f : Int → Int} {x : Nat → Int} (h : TruthN d (Go.Proofs.Ytlljkgiomkmjbaa.Du.chW f l) x) : Th.TruthN d l ((List.range l.length).map x):=by
 have hl:=chW_len f l
 refine ⟨by simp,fun i hi=>?_,?_⟩
 · have:=h.each i (by rw [hl]; exact hi)
   rw [bAt_chW f l hi] at this
   rw [bAt_th,List.getD_eq_getElem?_getD,List.getElem?_map,List.getElem?_range hi]
   exact this
 · have:=h.sum; rw [hl] at this; exact this
theorem truth_du {d : Int} {l : List Bd} (f : Int → Int) {y : List Int} (h : Th.TruthN d l y) : TruthN d (Go.Proofs.Ytlljkgiomkmjbaa.Du.chW f l) (fun i=>y.getD i 0):=by
 have hl:=chW_len f l
 refine ⟨fun i hi=>?_,?_⟩
 · rw [hl] at hi
   rw [bAt_chW f l hi]
   exact h.each i hi
 · rw [hl]; exact Th.truth_sum h
theorem dot_th {l : List Bd} {f : Int → Int} {y : List Int} (h : y.length = l.length) : Th.dotV y (l.map fun c=>f c.b) = dotF (Go.Proofs.Ytlljkgiomkmjbaa.Du.chW f l) (fun i=>y.getD i 0):=by
 rw [Th.dotV_sum (by rw [h,List.length_map]),dotF_chW,h]
 refine congrArg List.sum (List.map_congr_left fun i hi=>?_)
 have hi:=List.mem_range.1 hi
 congr 1
 simp [bAt,List.getD,List.getElem?_eq_getElem hi]
theorem getD_range {n : Nat} (x : Nat → Int) {i : Nat} (hi : i < n) : ((List.range n).map x).getD i 0 = x i:=by
 rw [List.getD_eq_getElem?_getD,List.getElem?_map,List.getElem?_range hi]; rfl
theorem dotF_congr {l : List Bd} {x y : Nat → Int} (h : ∀ i,i < l.length → x i = y i) : dotF l x = dotF l y:=by
 unfold dotF
 exact congrArg List.sum (List.map_congr_left fun i hi=>by rw [h i (List.mem_range.1 hi)])
theorem mean_th {d : Int} {l : List Bd} {f : Int → Int} (h : ChG d (Go.Proofs.Ytlljkgiomkmjbaa.Du.chW f l)) (hh : d ≤ hiS l) (h1 : ∀ c ∈ l,c.lo ≤ c.hi) (h2 : loS l ≤ d) (most : Bool) :
 meanD most d (Go.Proofs.Ytlljkgiomkmjbaa.Du.chW f l) = overD most (if most then Th.meanHi d l (l.map fun c=>f c.b) else Th.meanLo d l (l.map fun c=>f c.b)) d:=by
 obtain ⟨x,tx,ex,ox⟩:=mean_opt (most:=most) h (by rw [hiS_chW]; exact hh)
 have hx:=truth_th tx
 have hb:=Th.filled_bound (vals:=l.map fun c=>f c.b) (by simp) hx
 have hd : Th.dotV ((List.range l.length).map x) (l.map fun c=>f c.b) = dotF (Go.Proofs.Ytlljkgiomkmjbaa.Du.chW f l) x:=by
  rw [dot_th (by simp)]
  exact dotF_congr fun i hi=>getD_range x (by rw [chW_len] at hi; exact hi)
 rw [hd] at hb
 have hF:=fun cm=>Th.filled_truth (cm:=cm) (vals:=l.map fun c=>f c.b) h1 h2 hh
 rw [ex]
 congr 1
 cases most with
 | false =>
   have o:=ox _ (truth_du f (hF Th.cmpI))
   rw [← dot_th (hF Th.cmpI).len] at o
   have o' : dotF (Go.Proofs.Ytlljkgiomkmjbaa.Du.chW f l) x ≤ Th.meanLo d l (l.map fun c=>f c.b):=by
    simp only [leD,Bool.false_eq_true,if_false] at o; exact o
   simp only [Bool.false_eq_true,if_false]
   omega
 | true =>
   have o:=ox _ (truth_du f (hF fun x y=>Th.cmpI y x))
   rw [← dot_th (hF fun x y=>Th.cmpI y x).len] at o
   have o' : Th.meanHi d l (l.map fun c=>f c.b) ≤ dotF (Go.Proofs.Ytlljkgiomkmjbaa.Du.chW f l) x:=by
    simp only [leD,if_true] at o; exact o
   simp only [if_true]
   omega
def lastV (g : Int) (left : Nat) (b : Int) : Int:=if scoreOf b = left ∧ popB g b = true then 1000000 else 0
theorem last_next {r : Ru} (hn : r.ends.length = 1) (ho : r.out = 0 ∨ r.out = 1 ∨ r.out = 2) {most : Bool} {T : List (List Int)} {st left : Nat} {val : Nat → Int} (hl : 1 ≤ left) {b : Int} (hb : b = 0 ∨ 0 < scoreOf b) :
 nextV r most T 0 st val true left b = lastV r.out left b:=by
 have ha : ∀ y,afterD r most T 0 y = 0:=fun y=>by unfold afterD; rw [if_pos (by omega)]
 unfold nextV lastV
 rw [ha,ha]
 rcases hb with rfl | hb
 · have h0 : scoreOf 0 = 0:=rfl
   rw [h0]
   have : ¬ ((0 : Int) = left):=by omega
   simp [this]
 · have hb0 : b ≠ 0:=fun e=>by subst e; exact absurd hb (by decide)
   have e1 : (decide ((left : Int) - scoreOf b = 0)) = decide (scoreOf b = left):=by
    rw [Bool.eq_iff_iff,decide_eq_true_eq,decide_eq_true_eq]; omega
   have e2 : opensD r.out b = popB r.out b:=by
    have h3 : decide (2 ≤ b / 100) = ((b / 100 == 2) || decide (2 < b / 100)):=by
     rw [Bool.eq_iff_iff]; simp only [Bool.or_eq_true,decide_eq_true_eq,beq_iff_eq]; omega
    unfold opensD popB
    have hbn : (b != 0) = true:=by simpa using hb0
    have hq : (b / 100 == 2) = decide (b / 100 = 2):=by rw [Bool.eq_iff_iff]; simp
    rcases ho with h | h | h <;> rw [h,hbn] <;> simp [h3,hq]
   rw [e1,e2]
   simp only [hb,decide_true,Bool.true_and,if_true]
   by_cases c : scoreOf b = left
   · cases popB r.out b <;> simp [c]
   · simp [c]
theorem lastV_le (g : Int) (left : Nat) (b : Int) : 0 ≤ lastV g left b ∧ lastV g left b ≤ 1000000:=by unfold lastV; split <;> omega
theorem odds_last {r : Ru} (h : ruE r = 0) (hn : r.ends.length = 1) {s left : Nat} (hl1 : 1 ≤ left) {i : Nat} {a : Am} (hi : r.aims[i]? = some a) :
 (oddsS r 0 s left 0)[i]? = some (Th.meanLo r.d a.beds (a.beds.map fun c=>lastV r.out left c.b) / r.d,(Th.meanHi r.d a.beds (a.beds.map fun c=>lastV r.out left c.b) + (r.d - 1)) / r.d):=by
 obtain ⟨hG,_,o0,o2⟩:=ruG_of h
 have hH:=refH_of h
 have hm:=mem_of_opt hi
 obtain ⟨hc,_,_,_,_,_⟩:=ruE_parts h
 obtain ⟨_,_,q1,q2,q3,q4⟩:=aimOk_parts (aims_all hc a hm)
 have key : ∀ most,(oddsV r most (tabF r most) 0 s left 0)[i]? = some (overD most (if most then Th.meanHi r.d a.beds (a.beds.map fun c=>lastV r.out left c.b) else Th.meanLo r.d a.beds (a.beds.map fun c=>lastV r.out left c.b)) r.d):=fun most=>by
  unfold oddsV meansV
  rw [List.getElem?_map,hi,Option.map_some]
  congr 1
  have e : Go.Proofs.Ytlljkgiomkmjbaa.Du.chW (nextV r most (tabF r most) 0 s (valV r most (tabF r most) 0 s 0) (decide (0 = 0)) left) a.beds = Go.Proofs.Ytlljkgiomkmjbaa.Du.chW (lastV r.out left) a.beds:=by
   unfold chW
   refine List.map_congr_left fun c hc'=>?_
   rw [show decide ((0 : Nat) = 0) = true from rfl,last_next hn (by omega) hl1 (hH.beds a hm c hc')]
  rw [e]
  exact mean_th (hG.aims.ch (fun b _ _=>lastV_le r.out left b) a hm) (hH.hi a hm) (fun c hc'=>(q2 c hc').2.1) q3 most
 unfold oddsS
 rw [List.zip_eq_zipWith,List.getElem?_zipWith,key false,key true]
 simp [overD]
theorem wfA_aim {d : Int} {a : Am} (hd : d ≤ 3000) (h : aimOk d a = true) : WfA a:=by
 obtain ⟨h1,_,h3,h4,_,_⟩:=aimOk_parts h
 have hb:=fun b (hb : bedOk b = true)=>bedOk_le hb
 have:=hb _ h1
 refine ⟨by unfold I64; omega,fun c hc=>?_⟩
 have:=h4 c hc
 have hcb : 0 ≤ c.b ∧ c.b ≤ 499:=by
  rcases seq_beds h3 c hc with h | h
  · omega
  · exact hb _ h
 unfold I64
 omega
theorem wfL_chk {d : Int} {l : List Am} (h : checkV d l = 0) (hd : 0 ≤ d ∧ d ≤ 3000) : WfL d l:=⟨by unfold I64; omega,fun a ha=>wfA_aim hd.2 (aims_all (r:=⟨d,l,0,0,[]⟩) h a ha)⟩
theorem dotV_nn : ∀ {xs ys : List Int},(∀ x ∈ xs,0 ≤ x) → (∀ y ∈ ys,0 ≤ y) → 0 ≤ Th.dotV xs ys
 | [],_,_,_=>by simp [Th.dotV]
 | _ :: _,[],_,_=>by simp [Th.dotV]
 | x :: xs, y :: ys, h, g => by
   have ih:=dotV_nn (xs:=xs) (ys:=ys) (fun z hz=>h z (by simp [hz])) fun z hz=>g z (by simp [hz])
   have:=Int.mul_nonneg (h x (by simp)) (g y (by simp))
   simp only [Th.dotV]; omega
theorem mean_nn {d : Int} {a : Am} (h : aimOk d a = true) (hd : d ≤ 3000) (hl : a.beds.length ≤ 20) (V : List Int) (hV : ∀ n ∈ V,0 ≤ n ∧ n ≤ 1000000) :
 (0 ≤ Th.meanLo d a.beds V ∧ Th.meanLo d a.beds V ≤ 120000000000000000) ∧ 0 ≤ Th.meanHi d a.beds V ∧ Th.meanHi d a.beds V ≤ 120000000000000000:=by
 obtain ⟨_,_,_,h4,h5,_⟩:=aimOk_parts h
 have hch : chOk d a.beds = true:=by
  unfold chOk
  rw [List.all_eq_true]
  intro c hc
  have:=h4 c hc
  simp; omega
 have key : ∀ cm : Int → Int → Int,0 ≤ Th.dotV (Th.filledV cm d a.beds V) V ∧ Th.dotV (Th.filledV cm d a.beds V) V ≤ 120000000000000000:=fun cm=>by
  obtain ⟨f1,f2⟩:=Th.filled_facts (cm:=cm) (vals:=V) hch hd h5
  have hb:=Th.dotV_bound (xs:=Th.filledV cm d a.beds V) (ys:=V) (fun x hx=>by have:=f2 x hx; omega) (fun y hy=>by have:=hV y hy; omega)
  rw [f1] at hb
  exact ⟨dotV_nn (fun x hx=>(f2 x hx).1) fun y hy=>(hV y hy).1,by omega⟩
 exact ⟨key _,key _⟩
def tdR (d : Int) (l : List Am) (st g : Int) : Ru:=⟨d,l,st,g,[(1000000,1000000)]⟩
theorem td_ok {d : Int} {l : List Am} {st g : Int} (h : checkV d l = 0) (hs : 2 ≤ st ∧ st ≤ 40) (hg : 0 ≤ g ∧ g ≤ 2) : ruE (tdR d l st g) = 0 :=
 ruE_of h hs hg ⟨by simp [tdR],by simp [tdR]⟩ (fun x hx=>by
  simp only [tdR,List.mem_singleton] at hx
  subst hx; decide) rfl
structure OddI (d : Int) (l : List Am) (g : Int) (left : Nat) (O : List Sp) (b : Nat) (low : Int) : Prop where
 len : O.length = l.length
 best : b < O.length
 lowE : (O.getD b (0,0)).1 = low
 top : ∀ i,i < O.length → (O.getD i (0,0)).1 ≤ low
 at_ : ∀ (i : Nat) a,l[i]? = some a → O[i]? = some (Th.meanLo d a.beds (a.beds.map fun c=>lastV g left c.b) / d,(Th.meanHi d a.beds (a.beds.map fun c=>lastV g left c.b) + (d - 1)) / d)
theorem td_odds {d : Int} {l : List Am} {st left : Nat} {g : Int} (h : checkV d l = 0) (hne : l ≠ []) (hs : 2 ≤ st ∧ st ≤ 40) (hg : 0 ≤ g ∧ g ≤ 2) (hl : 2 ≤ left ∧ left ≤ st) :
 ∃ O b low,OddI d l g left O b low ∧ oddsR (tdR d l st g) ⟨0,st,left,1⟩ = spansR O ∧ oddsE (tdR d l st g) ⟨0,st,left,1⟩ = 0 ∧ bestL (oddsL (tdR d l st g) ⟨0,st,left,1⟩) = (b : Int) ∧ lowL (oddsL (tdR d l st g) ⟨0,st,left,1⟩) = low:=by
 have hE:=td_ok (d:=d) (l:=l) (st:=st) (g:=g) h (by omega) hg
 have hlow : lowestR (tdR d l st g) ≤ 2:=by unfold lowestR; split <;> omega
 have hp : posOk (tdR d l st g) ⟨0,st,left,1⟩ = true:=by
  have hd : (decide ((1 : Int) < 3)) = true:=rfl
  simp only [posOk,inB,Bool.and_eq_true,decide_eq_true_eq,Bool.or_eq_true,hd]
  simp only [tdR,List.length_singleton] at *
  refine ⟨⟨by omega,by omega⟩,⟨by omega,by omega⟩,⟨by omega,by omega⟩,⟨by omega,by omega⟩,.inl (by first | rfl | omega | simp)⟩
 rcases odds_cases (tdR d l st g) ⟨0,st,left,1⟩ with ⟨h1,_,_,h4⟩ | ⟨h1,_⟩
 · have hlen:=odds_len (tdR d l st g) ⟨0,st,left,1⟩
   have hO : oddsL (tdR d l st g) ⟨0,st,left,1⟩ = oddsS (tdR d l st g) 0 st left 0:=by
    unfold oddsL
    simp
   have hat:=fun (i : Nat) a (hi : l[i]? = some a)=>odds_last (r:=tdR d l st g) hE (by simp [tdR]) (s:=st) (left:=left) (by omega) hi
   rw [← hO] at hat
   generalize oddsL (tdR d l st g) ⟨0,st,left,1⟩ = O at *
   have hOne : O ≠ []:=fun e=>by subst e; exact hne (List.length_eq_zero_iff.1 hlen.symm)
   obtain ⟨b,hb,hbl⟩:=bestL_nat hOne
   obtain ⟨b',q1,_,q3,_⟩:=bestS_spec O O.length (Nat.le_refl _)
   have hbb : b' = b:=by
    have : (b' : Int) = b:=by rw [← hb,← q1]; rfl
    omega
   subst hbb
   have hlw : (O.getD b' (0,0)).1 = lowL O:=by unfold lowL; rw [hb]; rfl
   exact ⟨O,b',lowL O,⟨hlen,hbl,hlw,fun i hi=>by rw [← hlw]; exact q3 i hi,hat⟩,h4,h1,hb,rfl⟩
 · exfalso
   apply h1
   unfold oddsE
   rw [if_pos hE,if_pos hp]
end Go.Proofs.Ytlljkgiomkmjbaa.Du

namespace Go.Proofs.Ytlljkgiomkmjbaa.Du.Th
open Go Go.Oc
set_option linter.unusedSimpArgs false
set_option linter.unusedVariables false
set_option maxRecDepth 8000
theorem bedOk_range {b : Int} (h : bedOk b = true) : 100 ≤ b ∧ b ≤ 499:=by
 simp only [bedOk,Bool.or_eq_true,Bool.and_eq_true,decide_eq_true_eq] at h
 omega
theorem seqOk_mem : ∀ {p : Option Int} {l : List Bd},seqOk p l = true → ∀ x ∈ l,0 ≤ x.b ∧ x.b ≤ 499
 | _,[],_,x,hx=>by cases hx
 | p, y :: l, h, x, hx => by
   simp only [seqOk,Bool.and_eq_true,Bool.or_eq_true,decide_eq_true_eq] at h
   rcases List.mem_cons.1 hx with rfl | hx
   · rcases h.1.1 with h0 | h0
     · omega
     · have:=bedOk_range h0; omega
   · exact seqOk_mem h.2 x hx
theorem score_ok (b : Int) (h0 : 0 ≤ b) (h1 : b ≤ 499) : ACalls Try.prog 129 [i64 b] (i64 (scoreOf b)):=by
 have hq:=tdiv100 (b:=b) ⟨by omega,by omega⟩
 have hm:=score_mul h0 h1
 refine acalls_st (rs:=[i64 (scoreOf b)]) [.tmp 2] Try.func129 rfl (by kernel_rfl) Try.ntmps129 rfl (by simp) rfl fun C vs=>?_
 repeat refine zq ?_
 refine zb fun K hK=>?_;simp only [go_sem];(try simp (disch:=omega) only [zI]);repeat first | intro _ | refine ⟨by omega,?_⟩
 refine hK _ ?_;clear hK K
 repeat refine zq ?_
 refine zb fun K hK=>?_;simp only [go_sem,hq,hm];(try simp (disch:=omega) only [zI]);repeat first | intro _ | refine ⟨by omega,?_⟩
 refine hK _ ?_;clear hK K;refine ze ?_;simp only [go_sem]
def scoresOf (l : List Bd) : List Int:=l.map fun x=>scoreOf x.b
def spanOf (d : Int) (a : Am) : Int × Int:=(meanLo d a.beds (scoresOf a.beds),meanHi d a.beds (scoresOf a.beds))
abbrev spansR (l : List (Int × Int)) : RV:=.sl 2 (l.map fun x=>[i64 x.1,i64 x.2])
def spansV (d : Int) (l : List Am) : List (Int × Int):=if checkV d l = 0 then l.map (spanOf d) else []
theorem Score_ok (d : Int) (l : List Am) (hw : WfL d l) : ACalls Try.prog 73 [lawV d l] (.tu [spansR (spansV d l),i64 (checkV d l)]):=by
 refine acalls_stR (rs:=[spansR (spansV d l),i64 (checkV d l)]) [.cell 2 33,.tmp 3] Try.func73 rfl (by kernel_rfl) Try.ntmps73 rfl (by simp) rfl fun C hC vs=>?_
 repeat refine zq ?_
 refine zb fun K hK=>?_;simp only [go_sem];(try simp (disch:=omega) only [zI]);repeat first | intro _ | refine ⟨by omega,?_⟩
 refine hK _ ?_;clear hK K
 repeat refine zq ?_
 refine zb fun K hK=>?_;simp only [go_sem];(try simp (disch:=omega) only [zI])
 refine zh (check_ok d l hw) rfl (by simp only [go_sem,i64,ints]) (by simp only [go_sem,i64,ints]) (by first | exact .inl rfl | exact .inr rfl) ?_
 (try simp only [go_sem]);(try simp (disch:=omega) only [zI]);repeat first | intro _ | refine ⟨by omega,?_⟩
 refine hK _ ?_;clear hK K
 repeat refine zq ?_
 refine zb fun K hK=>?_;simp only [go_sem];(try simp (disch:=omega) only [zI])
 cases hE : checkV d l != 0
 case true =>
  repeat first | intro _ | refine ⟨by omega,?_⟩
  refine hK _ ?_;clear hK K
  have hne : ¬ checkV d l = 0:=by simpa using hE
  repeat refine zq ?_
  refine zc rfl (fun hc=>?_) (fun hc=>?_) <;> (try simp only [go_sem] at hc)
  repeat refine zq ?_
  refine zb fun K hK=>?_;simp only [go_sem];(try simp (disch:=omega) only [zI]);repeat first | intro _ | refine ⟨by omega,?_⟩
  refine hK _ ?_;clear hK K;refine ze ?_;simp only [go_sem]
  simp [hne,spansV]
 have h0 : checkV d l = 0:=by simpa using hE
 obtain ⟨c1,c2,c3,c4,c5⟩:=checkV_zero h0
 repeat first | intro _ | refine ⟨by omega,?_⟩
 refine hK _ ?_;clear hK K
 repeat refine zq ?_
 refine zc rfl (fun hc=>?_) (fun hc=>?_) <;> (try simp only [go_sem] at hc)
 refine zx ?_
 try simp only [go_sem]
 repeat refine zq ?_
 refine zb fun K hK=>?_;simp only [go_sem];(try simp (disch:=omega) only [zI])
 refine zh (all_ok d l) rfl (by simp only [go_sem,i64,ints]) (by simp only [go_sem,i64,ints]) (by first | exact .inl rfl | exact .inr rfl) ?_
 (try simp only [go_sem]);(try simp (disch:=omega) only [zI]);repeat first | intro _ | refine ⟨by omega,?_⟩
 refine hK _ ?_;clear hK K;refine zw (zk [2,16]) ?_;simp only [go_sem]
 repeat refine zq ?_
 refine zd ?_;refine zw (sub_ownB 2 0 39 30 2 (by omega) (by omega) rfl rfl) ?_
 try simp only [go_sem]
 refine awp_rangeF hC (enumA d l) (all1_ok d l) [2,16] (by decide) (fun vs=>[(2,.pt 2 (vs 2) 0),(16,.r (.fn 188 [.rp [i64 d,aimsR l]]))])
  (fun i vs=>[(2,.box [.os 39 (vs 39) 2 0 i]),(39,.arr 30 2 (((l.map (spanOf d)).take i).map fun x=>[i64 x.1,i64 x.2]))])
  (fun i=>True) (zj [1] ?_ ?_) trivial (fun _=>rfl) (fun _=>rfl) (fun _ _=>rfl) (by simp) (fun e he=>enumA_len he) ?_ ?_
 · try simp only [go_sem]
 · try simp only [go_sem]
 · intro i e vs us C he _
   obtain ⟨x,hx,rfl⟩:=enumA_get he
   obtain ⟨_,_,k3,k4,k5,_⟩:=aimOk_facts (c5 x (mem_of_opt hx))
   have hsq:=seqOk_mem k3
   have hbl:=c2 x (mem_of_opt hx)
   have hil : i < l.length:=(List.getElem?_eq_some_iff.1 hx).1
   have hlt : ((l.map (spanOf d)).take i).length = i:=by rw [List.length_take]; simp; omega
   have htx : (l.map (spanOf d)).take (i + 1) = (l.map (spanOf d)).take i ++ [spanOf d x]:=take_of_opt (by simp [hx])
   have hvals : Vals (scoresOf x.beds):=fun v hv=>by
    obtain ⟨y,hy,rfl⟩:=List.mem_map.1 hv
    have:=score_le (hsq y hy).1 (hsq y hy).2
    omega
   repeat refine zq ?_
   refine zb fun K hK=>?_;simp only [go_sem];(try simp (disch:=omega) only [zI]);repeat first | intro _ | refine ⟨by omega,?_⟩
   refine hK _ ?_;clear hK K
   refine ⟨rfl,fun C'=>?_⟩
   refine zw (zk [2,6,16]) ?_;simp only [go_sem]
   repeat refine zq ?_
   refine zd ?_
   repeat refine zq ?_
   refine zb fun K hK=>?_;simp only [go_sem];(try simp (disch:=omega) only [zI]);repeat first | intro _ | refine ⟨by omega,?_⟩
   refine hK _ ?_;clear hK K
   repeat refine zq ?_
   refine zb fun K hK=>?_;simp only [go_sem];(try simp (disch:=omega) only [zI])
   intro _
   repeat first | intro _ | refine ⟨by omega,?_⟩
   refine hK _ ?_;clear hK K;refine zw (zk [2,6,7,16,21,22,23]) ?_;simp only [go_sem];refine zw (sub_own 7 32 3 1 (by omega) rfl) ?_
   try simp only [go_sem]
   repeat refine zq ?_
   refine zd ?_
   refine awp_uptoV (n:=41) x.beds.length (fun k vs=>[(2,.pt 2 (vs 2) 0),(6,.pt 6 (vs 6) 0),(7,.os 32 (vs 32) 1 0 k),(16,.r (.fn 188 [.rp [i64 d,aimsR l]])),(21,.r (bedsR x.beds)),(22,.r (i64 x.beds.length)),(23,.r (i64 k))])
    (fun k vs=>[(0,.sus [.pt 2 (vs 2) 0,.r (.fn 188 [.rp [i64 d,aimsR l]])] us),(2,.box [.os 39 (vs 39) 2 0 i]),(6,.box [.r (i64 x.at_),.r (bedsR x.beds),.r (i64 d)]),(32,.arr 3 1 (((scoresOf x.beds).take k).map fun x=>[i64 x])),(39,.arr 30 2 (((l.map (spanOf d)).take i).map fun x=>[i64 x.1,i64 x.2]))])
    (fun _=>True) 0 (zj [] ?_ ?_) (Nat.zero_le _) trivial ?_
   · try simp only [go_sem]
   · try simp only [go_sem]
   · intro k vs hk _
     have hlk : ((scoresOf x.beds).take k).length = k:=by rw [List.length_take]; simp [scoresOf]; omega
     repeat refine zq ?_
     refine zb fun K hK=>?_;simp only [go_sem];(try simp (disch:=omega) only [zI]);repeat first | intro _ | refine ⟨by omega,?_⟩
     refine hK _ ?_;clear hK K
     repeat refine zq ?_
     refine zc rfl (fun hc=>?_) (fun hc=>?_) <;> (try simp only [go_sem] at hc)
     · have hci:=hc
       obtain ⟨y,hy⟩:=opt_of_lt hc
       have hsy:=hsq y (mem_of_opt hy)
       have htk : (scoresOf x.beds).take (k + 1) = (scoresOf x.beds).take k ++ [scoreOf y.b]:=take_of_opt (by simp [scoresOf,hy])
       refine zx ?_
       repeat refine zq ?_
       refine zd ?_
       repeat refine zq ?_
       refine zb fun K hK=>?_;simp only [go_sem,hy,hc,bedR];(try simp (disch:=omega) only [zI]);repeat first | intro _ | refine ⟨by omega,?_⟩
       refine hK _ ?_;clear hK K;refine zw (zk [2,6,7,9,16,21,22,23]) ?_;simp only [go_sem]
       repeat refine zq ?_
       refine zb fun K hK=>?_;simp only [go_sem,hlk];(try simp (disch:=omega) only [zI])
       refine zh (score_ok y.b hsy.1 hsy.2) rfl (by simp only [go_sem,i64,ints,hlk]) (by simp only [go_sem,i64,ints,hlk]) (by first | exact .inl rfl | exact .inr rfl) ?_
       (try simp only [go_sem,hlk]);(try simp (disch:=omega) only [zI]);repeat first | intro _ | refine ⟨by omega,?_⟩
       refine hK _ ?_;clear hK K;refine zw (zk [2,6,7,16,21,22,23]) ?_;simp only [go_sem]
       repeat refine zq ?_
       refine zb fun K hK=>?_;simp only [go_sem];(try simp (disch:=omega) only [zI]);repeat first | intro _ | refine ⟨by omega,?_⟩
       refine hK _ ?_;clear hK K
       try simp only [go_sem]
       refine ⟨hci,zj [9] ?_ ?_⟩
       · try simp only [go_sem]
       · try simp only [go_sem]
         rw [htk]
         simp
     · refine zf ?_;simp only [go_sem]
       have hkk : k = x.beds.length:=by omega
       subst hkk
       have e1 : (scoresOf x.beds).take x.beds.length = scoresOf x.beds:=List.take_of_length_le (by simp [scoresOf])
       rw [e1]
       have hvl : (scoresOf x.beds).length = x.beds.length:=by simp [scoresOf]
       refine zw (sub_frz (ty:=3) (sz:=1) (off:=0) (m:=x.beds.length) (es:=(scoresOf x.beds).map fun x=>[i64 x]) 7 32 (by omega) (by try simp only [go_sem]) (by try simp only [go_sem]) (by simp [hvl])) ?_
       have e2 : (((scoresOf x.beds).map fun x=>[i64 x]).drop 0).take x.beds.length = (scoresOf x.beds).map fun x=>[i64 x]:=by
        rw [List.drop_zero,List.take_of_length_le (by simp [hvl])]
       rw [e2]
       try simp only [go_sem]
       repeat refine zq ?_
       refine awp_dreg3 [(2,some 2),(6,some 6),(7,none)] [2,6] follows (by decide +kernel) (by kernel_rfl) (by simp only [keysOk,List.mem_cons,List.not_mem_nil,forall_eq_or_imp,Oc.keyOf,go_sem]; simp) (by intro k hk; simp only [List.mem_cons,List.not_mem_nil,or_false] at hk; first | (subst hk; exact ⟨_,rfl⟩) | (rcases hk with rfl | rfl <;> exact ⟨_,rfl⟩) | (rcases hk with rfl | rfl | rfl <;> exact ⟨_,rfl⟩)) fun K hK=>?_
       simp only [go_sem,hlt];(try simp (disch:=omega) only [zI])
       refine zh (mean_ok x.at_ x.beds d (scoresOf x.beds) hvl (by omega) k4 (by omega) k5 hvals) rfl (by simp only [go_sem,i64,ints,hlt]) (by simp only [go_sem,i64,ints,hlt]) (by first | exact .inl rfl | exact .inr rfl) ?_
       (try simp only [go_sem,hlt]);(try simp (disch:=omega) only [zI]);repeat first | intro _ | refine ⟨by omega,?_⟩
       refine hK _ ?_;clear hK K
       try simp only [go_sem]
       refine zj (F:=fun _=>[]) [6] (by try simp only [go_sem]) ?_
       try simp only [go_sem]
       rw [htx]
       simp [spanOf]
 · intro vs us _
   try simp only [go_sem]
   refine zw (sub_wake rfl) ?_
   repeat refine zq ?_
   refine zb fun K hK=>?_;simp only [go_sem];(try simp (disch:=omega) only [zI]);repeat first | intro _ | refine ⟨by omega,?_⟩
   refine hK _ ?_;clear hK K;refine ze ?_;simp only [go_sem]
   have hel : (enumA d l).length = l.length:=by simp [enumA]
   rw [hel,h0]
   have e1 : (l.map (spanOf d)).take l.length = l.map (spanOf d):=List.take_of_length_le (by simp)
   rw [e1]
   refine ⟨⟨by simp,?_⟩,rfl⟩
   rw [List.take_of_length_le (by simp),spansV,if_pos h0]
end Go.Proofs.Ytlljkgiomkmjbaa.Du.Th

namespace Go.Proofs.Ytlljkgiomkmjbaa.Du
open Go Go.Oc
set_option linter.unusedSimpArgs false
set_option linter.unusedVariables false
set_option maxRecDepth 8000
set_option maxHeartbeats 4000000
def thL : List Am:=[⟨320,[⟨120,4,6⟩,⟨205,0,1⟩,⟨301,1,2⟩,⟨320,2,4⟩]⟩]
theorem wfA_of {l : List Am} (h : (l.all fun a=>decide (0 ≤ a.at_ ∧ a.at_ ≤ 1000) && a.beds.all fun c=>decide ((0 ≤ c.b ∧ c.b ≤ 1000) ∧ (0 ≤ c.lo ∧ c.lo ≤ 1000) ∧ 0 ≤ c.hi ∧ c.hi ≤ 1000)) = true) : ∀ a ∈ l,WfA a:=fun a ha=>by
 have:=List.all_eq_true.1 h a ha
 simp only [Bool.and_eq_true,decide_eq_true_eq,List.all_eq_true] at this
 obtain ⟨h1,h2⟩:=this
 refine ⟨by unfold I64; omega,fun c hc=>?_⟩
 have:=h2 c hc
 unfold I64
 omega
theorem pubThrow_ok : ACalls Try.prog 32 [] (.bo true):=by
 have hw : WfL 10 thL:=⟨by unfold I64; omega,wfA_of (by decide)⟩
 have h:=Th.Score_ok 10 thL hw
 have h0 : checkV 10 thL = 0:=by decide +kernel
 have h1 : Th.spansV 10 thL = [(236,343)]:=by decide +kernel
 rw [h0,h1] at h
 have hs:=fun a b=>span_mk a b
 refine acalls_st (rs:=[.bo true]) [.tmp 0] Try.func32 rfl (by kernel_rfl) Try.ntmps32 rfl (by simp) rfl fun C vs=>?_
 repeat refine zq ?_
 refine zb fun K hK=>?_;simp only [go_sem];(try simp (disch:=omega) only [zI]);repeat first | intro _ | refine ⟨by omega,?_⟩
 refine hK _ ?_;clear hK K;refine zw (zk [0]) ?_;simp only [go_sem]
 repeat refine zq ?_
 refine zb fun K hK=>?_;simp only [go_sem];(try simp (disch:=omega) only [zI])
 refine zh (hs 4 6) rfl (by simp only [go_sem,i64,ints]) (by simp only [go_sem,i64,ints]) (by first | exact .inl rfl | exact .inr rfl) ?_
 (try simp only [go_sem]);(try simp (disch:=omega) only [zI])
 refine zh (hs 0 1) rfl (by simp only [go_sem,i64,ints]) (by simp only [go_sem,i64,ints]) (by first | exact .inl rfl | exact .inr rfl) ?_
 (try simp only [go_sem]);(try simp (disch:=omega) only [zI])
 refine zh (hs 1 2) rfl (by simp only [go_sem,i64,ints]) (by simp only [go_sem,i64,ints]) (by first | exact .inl rfl | exact .inr rfl) ?_
 (try simp only [go_sem]);(try simp (disch:=omega) only [zI])
 refine zh (hs 2 4) rfl (by simp only [go_sem,i64,ints]) (by simp only [go_sem,i64,ints]) (by first | exact .inl rfl | exact .inr rfl) ?_
 (try simp only [go_sem]);(try simp (disch:=omega) only [zI]);repeat first | intro _ | refine ⟨by omega,?_⟩
 refine hK _ ?_;clear hK K;refine zw (sub_frzP 1 1 [i64 10,aimsR thL] (by omega) rfl rfl) ?_;refine zw (zk [0,1]) ?_;simp only [go_sem]
 repeat refine zq ?_
 refine zb fun K hK=>?_;simp only [go_sem];(try simp (disch:=omega) only [zI])
 refine zh (h) rfl (by simp only [go_sem,i64,ints,thL,aimR,bedR]) (by simp only [go_sem,i64,ints,thL,aimR,bedR]) (by first | exact .inl rfl | exact .inr rfl) ?_
 (try simp only [go_sem,thL,aimR,bedR]);(try simp (disch:=omega) only [zI]);repeat first | intro _ | refine ⟨by omega,?_⟩
 refine hK _ ?_;clear hK K;refine zw (zk [0,2,3]) ?_;simp only [go_sem]
 have eqn30 : eqN Try.prog 30 = some 2:=by kernel_rfl
 repeat refine zq ?_
 refine zg follows (by decide +kernel) (by kernel_rfl) fun K hK=>?_;simp only [go_sem,eqn30,beq_self_eq_true];(try simp (disch:=omega) only [zI])
 refine zh (hs 236 343) rfl (by simp only [go_sem,i64,ints,eqn30,beq_self_eq_true]) (by simp only [go_sem,i64,ints,eqn30,beq_self_eq_true]) (by first | exact .inl rfl | exact .inr rfl) ?_
 (try simp only [go_sem,eqn30,beq_self_eq_true]);(try simp (disch:=omega) only [zI]);repeat first | intro _ | refine ⟨by omega,?_⟩
 refine hK _ ?_;clear hK K;refine zw (zk [0]) ?_;simp only [go_sem];refine ze ?_;simp only [go_sem]
 rfl
def duR : Ru:=⟨2,[⟨201,[⟨0,1,1⟩,⟨201,1,1⟩]⟩],2,1,[(0,500000),(1000000,1000000)]⟩
theorem duR_wf : WfR duR:=⟨⟨by unfold duR I64; simp only; omega,wfA_of (by decide)⟩⟩
theorem pubDuel_ok : ACalls Try.prog 15 [] (.bo true):=by
 have h:=table_ok duR duR_wf
 have h0 : ruE duR = 0:=by decide +kernel
 have h1 : tabF duR false = [[0,0,929687],[0,0,875000]]:=by decide +kernel
 have h2 : tabF duR true = [[0,0,984375],[0,0,875000]]:=by decide +kernel
 unfold tabsV at h
 rw [if_pos h0,if_pos h0,h1,h2,h0] at h
 have hs:=fun a b=>span_mk a b
 have ho:=fun a=>one_mk a
 refine acalls_st (rs:=[.bo true]) [.tmp 0] Try.func15 rfl (by kernel_rfl) Try.ntmps15 rfl (by simp) rfl fun C vs=>?_
 repeat refine zq ?_
 refine zb fun K hK=>?_;simp only [go_sem];(try simp (disch:=omega) only [zI]);repeat first | intro _ | refine ⟨by omega,?_⟩
 refine hK _ ?_;clear hK K;refine zw (zk [0]) ?_;simp only [go_sem]
 repeat refine zq ?_
 refine zb fun K hK=>?_;simp only [go_sem];(try simp (disch:=omega) only [zI])
 refine zh (ho 1) rfl (by simp only [go_sem,i64,ints]) (by simp only [go_sem,i64,ints]) (by first | exact .inl rfl | exact .inr rfl) ?_
 (try simp only [go_sem]);(try simp (disch:=omega) only [zI])
 refine zh (ho 1) rfl (by simp only [go_sem,i64,ints]) (by simp only [go_sem,i64,ints]) (by first | exact .inl rfl | exact .inr rfl) ?_
 (try simp only [go_sem]);(try simp (disch:=omega) only [zI]);repeat first | intro _ | refine ⟨by omega,?_⟩
 refine hK _ ?_;clear hK K;refine zw (sub_frzP 1 1 [i64 2,aimsR duR.aims] (by omega) rfl rfl) ?_;refine zw (zk [0,1]) ?_;simp only [go_sem]
 repeat refine zq ?_
 refine zg follows (by decide +kernel) (by kernel_rfl) fun K hK=>?_;simp only [go_sem];(try simp (disch:=omega) only [zI])
 refine zh (hs 0 500000) rfl (by simp only [go_sem,i64,ints]) (by simp only [go_sem,i64,ints]) (by first | exact .inl rfl | exact .inr rfl) ?_
 (try simp only [go_sem]);(try simp (disch:=omega) only [zI])
 refine zh (ho 1000000) rfl (by simp only [go_sem,i64,ints]) (by simp only [go_sem,i64,ints]) (by first | exact .inl rfl | exact .inr rfl) ?_
 (try simp only [go_sem]);(try simp (disch:=omega) only [zI])
 refine zh (h) rfl (by simp only [go_sem,i64,ints,duR,ruV,ruC,aimsR,bedsR,spansR,aimR,bedR,spanR,List.map_cons,List.map_nil]) (by simp only [go_sem,i64,ints,duR,ruV,ruC,aimsR,bedsR,spansR,aimR,bedR,spanR,List.map_cons,List.map_nil]) (by first | exact .inl rfl | exact .inr rfl) ?_
 (try simp only [go_sem,duR,ruV,ruC,aimsR,bedsR,spansR,aimR,bedR,spanR,List.map_cons,List.map_nil]);(try simp (disch:=omega) only [zI]);repeat first | intro _ | refine ⟨by omega,?_⟩
 refine hK _ ?_;clear hK K;refine zw (zk [0,2,3,4]) ?_;simp only [go_sem]
 repeat refine zq ?_
 refine zb fun K hK=>?_;simp only [go_sem];(try simp (disch:=omega) only [zI]);repeat first | intro _ | refine ⟨by omega,?_⟩
 refine hK _ ?_;clear hK K;refine zw (zk [0]) ?_;simp only [go_sem];refine ze ?_;simp only [go_sem]
theorem law_ok (d : Int) (l : List Am) (hl : l.length ≤ 1000) (hb : ∀ a ∈ l,a.beds.length ≤ 1000) : ACalls Try.prog 12 [lawV d l] (lawV d l):=by
 refine acalls_st (rs:=[lawV d l]) [.cell 2 26] Try.func12 rfl (by kernel_rfl) Try.ntmps12 rfl (by simp) rfl fun C vs=>?_
 repeat refine zq ?_
 refine zb fun K hK=>?_;simp only [go_sem];(try simp (disch:=omega) only [zI]);repeat first | intro _ | refine ⟨by omega,?_⟩
 refine hK _ ?_;clear hK K;refine zw (sub_frzP 1 1 [i64 d,aimsR l] (by omega) rfl rfl) ?_;refine zw (zk [1,2]) ?_;simp only [go_sem]
 repeat refine zq ?_
 refine zb fun K hK=>?_;simp only [go_sem];(try simp (disch:=omega) only [zI]);repeat first | intro _ | refine ⟨by omega,?_⟩
 refine hK _ ?_;clear hK K;refine zw (zk [1,2,3]) ?_;simp only [go_sem]
 repeat refine zq ?_
 refine zb fun K hK=>?_;simp only [go_sem];(try simp (disch:=omega) only [zI]);repeat first | intro _ | refine ⟨by omega,?_⟩
 refine hK _ ?_;clear hK K;refine zw (zk [1,2,3,4]) ?_;simp only [go_sem]
 repeat refine zq ?_
 refine zd ?_;refine zw (sub_ownB 3 1 130 81 2 (by omega) (by omega) rfl rfl) ?_
 try simp only [go_sem]
 refine awp_uptoV (n:=36) l.length (fun i vs=>[(1,.r (.rp [i64 d,aimsR l])),(2,.pt 2 (vs 2) 0),(3,.pt 3 (vs 3) 0),(4,.r (i64 i))])
  (fun i vs=>[(2,.box [.r (i64 0),.r .ns]),(3,.box [.r (i64 d),.os 130 (vs 130) 2 0 i]),(130,.arr 81 2 ((l.take i).map aimR))]) (fun _=>True) 0 (zj [] ?_ ?_) (Nat.zero_le _) trivial ?_
 · try simp only [go_sem]
 · try simp only [go_sem]
 · intro i vs hi _
   repeat refine zq ?_
   refine zb fun K hK=>?_;simp only [go_sem];(try simp (disch:=omega) only [zI]);repeat first | intro _ | refine ⟨by omega,?_⟩
   refine hK _ ?_;clear hK K;refine zw (zk [1,2,3,4,12]) ?_;simp only [go_sem]
   repeat refine zq ?_
   refine zc rfl (fun hc=>?_) (fun hc=>?_) <;> (try simp only [go_sem] at hc)
   · skip
     have hci:=hc
     obtain ⟨x,hx⟩:=opt_of_lt hc
     have hlt : (l.take i).length = i:=by rw [List.length_take]; omega
     have hxb:=hb x (mem_of_opt hx)
     have tk : List.take x.beds.length (x.beds.map bedR) = x.beds.map bedR:=List.take_of_length_le (by simp)
     refine zx ?_
     try simp only [go_sem]
     repeat refine zq ?_
     refine zd ?_
     repeat refine zq ?_
     refine awp_dregC3 [30] [(1,none),(2,some 2),(3,some 3),(4,none)] [3] follows (by decide +kernel) (by kernel_rfl) (by simp only [keysOk,List.mem_cons,List.not_mem_nil,forall_eq_or_imp,Oc.keyOf,go_sem]; simp) (by intro k hk; simp only [List.mem_cons,List.not_mem_nil,or_false] at hk; first | (subst hk; exact ⟨_,rfl⟩) | (rcases hk with rfl | rfl <;> exact ⟨_,rfl⟩) | (rcases hk with rfl | rfl | rfl <;> exact ⟨_,rfl⟩)) fun K hK=>?_
     simp only [go_sem,hx,hci,aimR,hlt];(try simp (disch:=omega) only [zI]);repeat first | intro _ | refine ⟨by omega,?_⟩
     repeat first | intro _ | refine ⟨by omega,?_⟩
     refine hK _ ?_;clear hK K;refine zw (zk [1,2,3,4]) ?_;simp only [go_sem]
     repeat refine zq ?_
     refine zb fun K hK=>?_;simp only [go_sem];(try simp (disch:=omega) only [zI]);repeat first | intro _ | refine ⟨by omega,?_⟩
     refine hK _ ?_;clear hK K
     try simp only [go_sem]
     refine ⟨hci,zj [] ?_ ?_⟩
     · try simp only [go_sem]
     · try simp only [go_sem]
       rw [take_of_opt hx]
       simp [aimR]
   · skip
     refine zf ?_;simp only [go_sem]
     repeat refine zq ?_
     refine zb fun K hK=>?_;simp only [go_sem];(try simp (disch:=omega) only [zI]);repeat first | intro _ | refine ⟨by omega,?_⟩
     refine hK _ ?_;clear hK K;refine zw (zk [2]) ?_;simp only [go_sem];refine ze ?_;simp only [go_sem]
     have : i = l.length:=by omega
     subst this
     simp [List.take_of_length_le]
theorem throwduel_law (den : Nat) (hd : den < 256) (A : List (List Nat)) (hA : ∀ a ∈ A,a.length = 12 ∧ ∀ n ∈ a,n < 256) (x0 x1 x2 : Nat) (h0 : x0 < 256) (h1 : x1 < 256) (h2 : x2 < 256) :
 ACalls Try.prog 5 [u8Q den,.sl 12 (A.map fun a=>a.map u8Q),.ag [u8Q x0,u8Q x1,u8Q x2]] (.bo true):=by
 have hk1:=pubThrow_ok
 have hk2:=pubDuel_ok
 have hsc:=scatter_ok den hd A hA
 have hmod:=Nat.mod_lt den (show 60 > 0 by omega)
 have hL0:=scL_ok (d:=((4 + den % 60 : Nat) : Int)) (by omega) (fun a ha=>(hA a ha).2)
 have hLl:=scL_len ((4 + den % 60 : Nat) : Int) A
 have hLa:=scL_all (d:=((4 + den % 60 : Nat) : Int)) (by omega) (A:=A) (fun a ha=>(hA a ha).2)
 generalize hD : 4 + den % 60 = D at *
 have hD64 : 4 ≤ D ∧ D < 64:=by omega
 generalize scL (D : Int) A = L at *
 have hne : L ≠ []:=fun e=>by subst e; simp at hLl
 have hwL:=wfL_chk hL0 (by omega)
 have hlaw:=law_ok (D : Int) L (by omega) (fun a ha=>by have:=(hLa a ha).2; omega)
 have m0:=Nat.mod_lt x0 (show 11 > 0 by omega)
 have m1:=Nat.mod_lt x1 (show 3 > 0 by omega)
 have k0 : IntKind.i64.wrap (x0 : Int) = x0:=by rw [zI] <;> omega
 have k1 : IntKind.i64.wrap (x1 : Int) = x1:=by rw [zI] <;> omega
 have k2 : IntKind.i64.wrap (x2 : Int) = x2:=by rw [zI] <;> omega
 have r0 : Int.tmod (x0 : Int) 11 = ((x0 % 11 : Nat) : Int):=rfl
 have r1 : Int.tmod (x1 : Int) 3 = ((x1 % 3 : Nat) : Int):=rfl
 have w0 : IntKind.i64.wrap (2 + ((x0 % 11 : Nat) : Int)) = ((2 + x0 % 11 : Nat) : Int):=by rw [zI] <;> omega
 generalize hst : 2 + x0 % 11 = st at *
 have hst2 : 2 ≤ st ∧ st ≤ 12:=by omega
 generalize hg : x1 % 3 = g at *
 have m2:=Nat.mod_lt x2 (show st - 1 > 0 by omega)
 have w1 : IntKind.i64.wrap ((st : Int) - 1) = ((st - 1 : Nat) : Int):=by rw [zI] <;> omega
 have r2 : Int.tmod (x2 : Int) ((st - 1 : Nat) : Int) = ((x2 % (st - 1) : Nat) : Int):=rfl
 have w2 : IntKind.i64.wrap (2 + ((x2 % (st - 1) : Nat) : Int)) = ((2 + x2 % (st - 1) : Nat) : Int):=by rw [zI] <;> omega
 generalize hlf : 2 + x2 % (st - 1) = left at *
 have hlf2 : 2 ≤ left ∧ left ≤ st:=by omega
 have hro:=rounds_ok 1 (by omega) (by omega)
 have hrn : rndL 1 = [(1000000,1000000)]:=rfl
 rw [hrn] at hro
 obtain ⟨O,b,low,hO,e1,e2,e3,e4⟩:=td_odds (d:=(D : Int)) (l:=L) (st:=st) (left:=left) (g:=(g : Int)) hL0 hne (by omega) (by omega) hlf2
 have hwR : WfR (tdR (D : Int) L st g):=⟨hwL⟩
 have hod:=odds_ok (tdR (D : Int) L st g) hwR ⟨0,st,left,1⟩
 have hai:=aim_ok (tdR (D : Int) L st g) hwR ⟨0,st,left,1⟩
 rw [e1,e2] at hod
 rw [e2,e3,e4,if_pos rfl,if_pos rfl] at hai
 have hOl:=hO.len
 have hbl:=hO.best
 obtain ⟨ob,hob⟩:=opt_of_lt hbl
 have hob1 : ob.1 = low:=by have:=hO.lowE; rw [List.getD_eq_getElem?_getD,hob] at this; exact this
 refine acalls_st (rs:=[.bo true]) [.tmp 6] Try.func5 rfl (by kernel_rfl) Try.ntmps5 rfl (by simp) rfl fun C vs=>?_
 repeat refine zq ?_
 refine zb fun K hK=>?_;simp only [go_sem];(try simp (disch:=omega) only [zI]);repeat first | intro _ | refine ⟨by omega,?_⟩
 refine hK _ ?_;clear hK K;refine zw (sub_frzP 5 5 [u8Q x0,u8Q x1,u8Q x2] (by omega) rfl rfl) ?_;refine zw (zk [0,1,5]) ?_;simp only [go_sem]
 repeat refine zq ?_
 refine zb fun K hK=>?_;simp only [go_sem];(try simp (disch:=omega) only [zI])
 refine zh (hsc) rfl (by simp only [go_sem,i64,ints]) (by simp only [go_sem,i64,ints]) (by first | exact .inl rfl | exact .inr rfl) ?_
 (try simp only [go_sem]);(try simp (disch:=omega) only [zI]);repeat first | intro _ | refine ⟨by omega,?_⟩
 refine hK _ ?_;clear hK K;refine zw (sub_frzP 7 7 [i64 (D : Int),aimsR L] (by omega) rfl rfl) ?_;refine zw (zk [5,7]) ?_;simp only [go_sem]
 repeat refine zq ?_
 refine zg follows (by decide +kernel) (by kernel_rfl) fun K hK=>?_;simp only [go_sem,k0,k1,r0,r1,w0];(try simp (disch:=omega) only [zI])
 refine zh (hro) rfl (by simp only [go_sem,i64,ints]) (by simp only [go_sem,i64,ints]) (by first | exact .inl rfl | exact .inr rfl) ?_
 (try simp only [go_sem]);(try simp (disch:=omega) only [zI]);repeat first | intro _ | refine ⟨by omega,?_⟩
 repeat first | intro _ | refine ⟨by omega,?_⟩
 refine hK _ ?_;clear hK K;refine zw (sub_frzP 8 8 [i64 (D : Int),aimsR L,i64 (st : Int),i64 (g : Int),spansR [(1000000,1000000)]] (by omega) rfl rfl) ?_;refine zw (zk [5,7,8]) ?_;simp only [go_sem]
 repeat refine zq ?_
 refine zg follows (by decide +kernel) (by kernel_rfl) fun K hK=>?_;simp only [go_sem,k2,w1,r2,w2];(try simp (disch:=omega) only [zI]);repeat first | intro _ | refine ⟨by omega,?_⟩
 repeat first | intro _ | refine ⟨by omega,?_⟩
 refine hK _ ?_;clear hK K;refine zw (sub_frzP 9 9 [i64 0,i64 (st : Int),i64 (left : Int),i64 1] (by omega) rfl rfl) ?_;refine zw (zk [7,8,9]) ?_;simp only [go_sem]
 repeat refine zq ?_
 refine zg follows (by decide +kernel) (by kernel_rfl) fun K hK=>?_;simp only [go_sem];(try simp (disch:=omega) only [zI])
 refine zh (hlaw) rfl (by simp only [go_sem,i64,ints]) (by simp only [go_sem,i64,ints]) (by first | exact .inl rfl | exact .inr rfl) ?_
 (try simp only [go_sem]);(try simp (disch:=omega) only [zI])
 refine zh (hro) rfl (by simp only [go_sem,i64,ints]) (by simp only [go_sem,i64,ints]) (by first | exact .inl rfl | exact .inr rfl) ?_
 (try simp only [go_sem]);(try simp (disch:=omega) only [zI])
 refine zh (hod) rfl (by simp only [go_sem,i64,ints,ruV,ruC,posV,posC,tdR,spansR,spanR,List.map_cons,List.map_nil]) (by simp only [go_sem,i64,ints,ruV,ruC,posV,posC,tdR,spansR,spanR,List.map_cons,List.map_nil]) (by first | exact .inl rfl | exact .inr rfl) ?_
 (try simp only [go_sem,ruV,ruC,posV,posC,tdR,spansR,spanR,List.map_cons,List.map_nil]);(try simp (disch:=omega) only [zI]);repeat first | intro _ | refine ⟨by omega,?_⟩
 refine hK _ ?_;clear hK K;refine zw (zk [7,8,9,10,11]) ?_;simp only [go_sem]
 repeat refine zq ?_
 refine zb fun K hK=>?_;simp only [go_sem];(try simp (disch:=omega) only [zI])
 refine zh (hai) rfl (by simp only [go_sem,i64,ints,ruV,ruC,posV,posC,tdR,spansR,spanR,List.map_cons,List.map_nil]) (by simp only [go_sem,i64,ints,ruV,ruC,posV,posC,tdR,spansR,spanR,List.map_cons,List.map_nil]) (by first | exact .inl rfl | exact .inr rfl) ?_
 (try simp only [go_sem,ruV,ruC,posV,posC,tdR,spansR,spanR,List.map_cons,List.map_nil]);(try simp (disch:=omega) only [zI]);repeat first | intro _ | refine ⟨by omega,?_⟩
 refine hK _ ?_;clear hK K;refine zw (zk [7,8,9,10,11,12,13,14]) ?_;simp only [go_sem]
 have z0 : ((0 : Int) != 0) = false:=rfl
 have gb1 : decide ((b : Int) < 0) = false:=decide_eq_false (by omega)
 have gb2 : decide (L.length ≤ b) = false:=decide_eq_false (by omega)
 have hbl2 : b < L.length:=by omega
 repeat refine zq ?_
 refine zb fun K hK=>?_;simp only [go_sem,hOl,hob,hob1,List.length_map,z0,gb1,gb2,hbl2,spanR,bne_self_eq_false];(try simp (disch:=omega) only [zI]);repeat first | intro _ | refine ⟨by omega,?_⟩
 refine hK _ ?_;clear hK K;refine zw (zk [7,8,9,10,13,100]) ?_;simp only [go_sem]
 repeat refine zq ?_
 refine zc rfl (fun hc=>?_) (fun hc=>?_) <;> (try simp only [go_sem] at hc)
 refine zx ?_
 try simp only [go_sem]
 repeat refine zq ?_
 refine zb fun K hK=>?_;simp only [go_sem];(try simp (disch:=omega) only [zI]);repeat first | intro _ | refine ⟨by omega,?_⟩
 refine hK _ ?_;clear hK K;refine zw (zk [7,8,9,10,13,15]) ?_;simp only [go_sem]
 repeat refine zq ?_
 refine zd ?_
 refine awp_uptoV (n:=198) L.length (fun i vs=>[(7,.r (.rp [i64 (D : Int),aimsR L])),(8,.r (.rp [i64 (D : Int),aimsR L,i64 (st : Int),i64 (g : Int),spansR [(1000000,1000000)]])),(9,.r (.rp [i64 0,i64 (st : Int),i64 (left : Int),i64 1])),(10,.r (spansR O)),(13,.r (i64 low)),(15,.r (i64 (i : Int)))])
  (fun i vs=>[]) (fun _=>True) 0 (zj [] ?_ ?_) (Nat.zero_le _) trivial ?_
 · try simp only [go_sem]
   try rfl
 · try simp only [go_sem]
   try rfl
 · intro i vs hi _
   by_cases hin : i < L.length
   · obtain ⟨a,ha⟩:=opt_of_lt hin
     have haL:=hLa a (mem_of_opt ha)
     have hbeds:=aimOk_parts haL.1
     have hat:=hO.at_ i a ha
     repeat refine zq ?_
     refine zb fun K hK=>?_;simp only [go_sem,hin];(try simp (disch:=omega) only [zI]);repeat first | intro _ | refine ⟨by omega,?_⟩
     refine hK _ ?_;clear hK K;refine zw (zk [7,8,9,10,13,15,105]) ?_;simp only [go_sem]
     repeat refine zq ?_
     refine zc rfl (fun hc=>?_) (fun hc=>?_) <;> (try simp only [go_sem] at hc)
     refine zx ?_
     try simp only [go_sem]
     repeat refine zq ?_
     refine zd ?_
     repeat refine zq ?_
     refine zb fun K hK=>?_;simp only [go_sem];(try simp (disch:=omega) only [zI]);repeat first | intro _ | refine ⟨by omega,?_⟩
     refine hK _ ?_;clear hK K;refine zw (sub_own 16 216 3 1 (by omega) rfl) ?_;refine zw (zk [7,8,9,10,13,15,16]) ?_;simp only [go_sem]
     repeat refine zq ?_
     refine zb fun K hK=>?_;simp only [go_sem];(try simp (disch:=omega) only [zI]);repeat first | intro _ | refine ⟨by omega,?_⟩
     refine hK _ ?_;clear hK K;refine zw (zk [7,8,9,10,13,15,16,17]) ?_;simp only [go_sem]
     repeat refine zq ?_
     refine zd ?_
     refine awp_uptoV (n:=198) a.beds.length (fun k vs=>[(7,.r (.rp [i64 (D : Int),aimsR L])),(8,.r (.rp [i64 (D : Int),aimsR L,i64 (st : Int),i64 (g : Int),spansR [(1000000,1000000)]])),(9,.r (.rp [i64 0,i64 (st : Int),i64 (left : Int),i64 1])),(10,.r (spansR O)),(13,.r (i64 low)),(15,.r (i64 (i : Int))),(16,.os 216 (vs 216) 1 0 k),(17,.r (i64 (k : Int)))])
      (fun k vs=>[(216,.arr 3 1 ((a.beds.take k).map fun c=>[i64 (lastV (g : Int) left c.b)]))]) (fun _=>True) 0 (zj [] ?_ ?_) (Nat.zero_le _) trivial ?_
     · try simp only [go_sem]
       try rfl
     · try simp only [go_sem]
       try rfl
     · intro k vs hk _
       by_cases hkn : k < a.beds.length
       · obtain ⟨c,hcb⟩:=opt_of_lt hkn
         have hcr : 0 ≤ c.b ∧ c.b ≤ 499:=by
          rcases seq_beds hbeds.2.2.1 c (mem_of_opt hcb) with h | h
          · omega
          · exact bedOk_le h
         have hw:=worth_ok c.b hcr
         have hp:=popens_ok (g : Int) c.b hcr
         have htk : (a.beds.take k).length = k:=by rw [List.length_take]; omega
         rw [take_of_opt hcb]
         repeat refine zq ?_
         refine zb fun K hK=>?_;simp only [go_sem,ha,hin,hkn,aimR,List.length_map];(try simp (disch:=omega) only [zI]);repeat first | intro _ | refine ⟨by omega,?_⟩
         refine hK _ ?_;clear hK K;refine zw (zk [7,8,9,10,13,15,16,17,117]) ?_;simp only [go_sem]
         repeat refine zq ?_
         refine zc rfl (fun hc=>?_) (fun hc=>?_) <;> (try simp only [go_sem] at hc)
         refine zx ?_
         try simp only [go_sem]
         repeat refine zq ?_
         refine zd ?_
         repeat refine zq ?_
         refine zb fun K hK=>?_;simp only [go_sem,ha,hin,hcb,hkn,aimR,bedR];(try simp (disch:=omega) only [zI]);repeat first | intro _ | refine ⟨by omega,?_⟩
         refine hK _ ?_;clear hK K;refine zw (zk [7,8,9,10,13,15,16,17,18,19]) ?_;simp only [go_sem]
         have hv : lastV (g : Int) left c.b = if ((scoreOf c.b == (left : Int)) && popB (g : Int) c.b) = true then 1000000 else 0:=by
          unfold lastV
          simp only [Bool.and_eq_true,beq_iff_eq]
         repeat refine zq ?_
         refine awp_joinV (n:=198) (fun (_ : Unit) vs=>[(7,.r (.rp [i64 (D : Int),aimsR L])),(8,.r (.rp [i64 (D : Int),aimsR L,i64 (st : Int),i64 (g : Int),spansR [(1000000,1000000)]])),(9,.r (.rp [i64 0,i64 (st : Int),i64 (left : Int),i64 1])),(10,.r (spansR O)),(13,.r (i64 low)),(15,.r (i64 (i : Int))),(16,.os 216 (vs 216) 1 0 k),(17,.r (i64 (k : Int))),(19,.r (i64 0)),(140,.r (.bo ((scoreOf c.b == (left : Int)) && popB (g : Int) c.b)))])
          (fun _ vs=>[(216,.arr 3 1 ((a.beds.take k).map fun c=>[i64 (lastV (g : Int) left c.b)]))]) (fun _=>True) (fun _ h=>h) ?_ ?_
         · cases hq : (scoreOf c.b == (left : Int))
           · repeat refine zq ?_
             refine zg follows (by decide +kernel) (by kernel_rfl) fun K hK=>?_;simp only [go_sem,hq];(try simp (disch:=omega) only [zI])
             refine zh (hw) rfl (by simp only [go_sem,i64,ints,hq]) (by simp only [go_sem,i64,ints,hq]) (by first | exact .inl rfl | exact .inr rfl) ?_
             (try simp only [go_sem,hq]);(try simp (disch:=omega) only [zI]);repeat first | intro _ | refine ⟨by omega,?_⟩
             refine hK _ ?_;clear hK K
             try simp only [go_sem]
             try simp only [Bool.false_and]
             refine ⟨(),zj [] ?_ ?_⟩
             · try simp only [go_sem]
             · try simp only [go_sem]
           · repeat refine zq ?_
             refine zg follows (by decide +kernel) (by kernel_rfl) fun K hK=>?_;simp only [go_sem,hq];(try simp (disch:=omega) only [zI])
             refine zh (hw) rfl (by simp only [go_sem,i64,ints,hq]) (by simp only [go_sem,i64,ints,hq]) (by first | exact .inl rfl | exact .inr rfl) ?_
             (try simp only [go_sem,hq]);(try simp (disch:=omega) only [zI])
             refine zh (hp) rfl (by simp only [go_sem,i64,ints]) (by simp only [go_sem,i64,ints]) (by first | exact .inl rfl | exact .inr rfl) ?_
             (try simp only [go_sem]);(try simp (disch:=omega) only [zI]);repeat first | intro _ | refine ⟨by omega,?_⟩
             refine hK _ ?_;clear hK K
             try simp only [go_sem]
             try simp only [Bool.true_and]
             refine ⟨(),zj [] ?_ ?_⟩
             · try simp only [go_sem]
             · try simp only [go_sem]
         intro _ vs _
         generalize ((scoreOf c.b == (left : Int)) && popB (g : Int) c.b) = q at *
         refine awp_joinV (n:=198) (fun (_ : Unit) vs=>[(7,.r (.rp [i64 (D : Int),aimsR L])),(8,.r (.rp [i64 (D : Int),aimsR L,i64 (st : Int),i64 (g : Int),spansR [(1000000,1000000)]])),(9,.r (.rp [i64 0,i64 (st : Int),i64 (left : Int),i64 1])),(10,.r (spansR O)),(13,.r (i64 low)),(15,.r (i64 (i : Int))),(16,.os 216 (vs 216) 1 0 k),(17,.r (i64 (k : Int))),(19,.r (i64 (if q = true then 1000000 else 0)))])
          (fun _ vs=>[(216,.arr 3 1 ((a.beds.take k).map fun c=>[i64 (lastV (g : Int) left c.b)]))]) (fun _=>True) (fun _ h=>h) ?_ ?_
         · cases q
           · repeat refine zq ?_
             refine zc rfl (fun hc=>?_) (fun hc=>?_) <;> (try simp only [go_sem] at hc)
             refine zx ?_
             try simp only [go_sem]
             refine ⟨(),zj [] ?_ ?_⟩
             · try simp only [go_sem]
               try rfl
             · try simp only [go_sem]
           · repeat refine zq ?_
             refine zc rfl (fun hc=>?_) (fun hc=>?_) <;> (try simp only [go_sem] at hc)
             repeat refine zq ?_
             refine zb fun K hK=>?_;simp only [go_sem];(try simp (disch:=omega) only [zI]);repeat first | intro _ | refine ⟨by omega,?_⟩
             refine hK _ ?_;clear hK K
             try simp only [go_sem]
             refine ⟨(),zj [] ?_ ?_⟩
             · try simp only [go_sem]
               try rfl
             · try simp only [go_sem]
         intro _ vs _
         repeat refine zq ?_
         refine zb fun K hK=>?_;simp only [go_sem,htk,List.length_map];(try simp (disch:=omega) only [zI]);repeat first | intro _ | refine ⟨by omega,?_⟩
         refine hK _ ?_;clear hK K;refine zw (zk [7,8,9,10,13,15,16,17]) ?_;simp only [go_sem]
         repeat refine zq ?_
         refine zb fun K hK=>?_;simp only [go_sem];(try simp (disch:=omega) only [zI]);repeat first | intro _ | refine ⟨by omega,?_⟩
         refine hK _ ?_;clear hK K
         try simp only [go_sem]
         refine ⟨by omega,zj [] ?_ ?_⟩
         · try simp only [go_sem]
         · try simp only [go_sem]
           try simp [hv]
       · have hke : k = a.beds.length:=by omega
         subst hke
         rw [List.take_length]
         repeat refine zq ?_
         refine zb fun K hK=>?_;simp only [go_sem,ha,hin,aimR,List.length_map,Nat.lt_irrefl];(try simp (disch:=omega) only [zI]);repeat first | intro _ | refine ⟨by omega,?_⟩
         refine hK _ ?_;clear hK K;refine zw (zk [7,8,9,10,13,15,16,17,117]) ?_;simp only [go_sem]
         repeat refine zq ?_
         refine zc rfl (fun hc=>?_) (fun hc=>?_) <;> (try simp only [go_sem] at hc)
         refine zf ?_;simp only [go_sem];refine zw (sub_frz (ty:=3) (sz:=1) (off:=0) (m:=a.beds.length) (es:=a.beds.map fun c=>[i64 (lastV (g : Int) left c.b)]) 16 216 (by omega) rfl (by rfl) (by simp)) ?_
         have tk2 : List.take a.beds.length (a.beds.map fun c=>[i64 (lastV (g : Int) left c.b)]) = a.beds.map fun c=>[i64 (lastV (g : Int) left c.b)]:=List.take_of_length_le (by simp)
         try simp only [go_sem]
         try rw [tk2]
         obtain ⟨V,hV⟩ : ∃ V : List Int,V = a.beds.map fun c=>lastV (g : Int) left c.b:=⟨_,rfl⟩
         have hVm : (a.beds.map fun c=>[i64 (lastV (g : Int) left c.b)]) = V.map fun n=>[i64 n]:=by rw [hV,List.map_map]; rfl
         rw [hVm]
         have haa : Th.aimAt L (i : Int) = a:=by unfold Th.aimAt; simp [ha]
         have hpe : Th.pickE (D : Int) L (i : Int) V = 0:=by
          have hwv : withinL (-1000000000000) 1000000000000 V = true:=by
           unfold withinL
           rw [List.all_eq_true]
           intro n hn
           rw [hV] at hn
           obtain ⟨c,_,rfl⟩:=List.mem_map.1 hn
           have:=lastV_le (g : Int) left c.b
           simp; omega
          unfold Th.pickE
          rw [if_neg (by rw [hL0]; simp),if_neg (by omega),haa,if_neg (by rw [hV]; simp),if_neg (by rw [hwv]; simp)]
         have hme:=Th.Mean_ok (D : Int) L (i : Int) V hwL
         have hmv : Th.meanV (D : Int) L (i : Int) V = (Th.meanLo (D : Int) a.beds V,Th.meanHi (D : Int) a.beds V):=by unfold Th.meanV; rw [if_pos hpe,haa]
         rw [hmv,hpe] at hme
         rw [← hV] at hat
         have htop:=hO.top i (by omega)
         rw [List.getD_eq_getElem?_getD,hat] at htop
         simp only [Option.getD_some] at htop
         have hML:=mean_nn haL.1 (by omega) (by omega) V (fun n hn=>by
          rw [hV] at hn
          obtain ⟨c,_,rfl⟩:=List.mem_map.1 hn
          exact lastV_le (g : Int) left c.b)
         generalize Th.meanLo (D : Int) a.beds V = ml at *
         generalize Th.meanHi (D : Int) a.beds V = mh at *
         repeat refine zq ?_
         refine zb fun K hK=>?_;simp only [go_sem];(try simp (disch:=omega) only [zI])
         refine zh (hlaw) rfl (by simp only [go_sem,i64,ints]) (by simp only [go_sem,i64,ints]) (by first | exact .inl rfl | exact .inr rfl) ?_
         (try simp only [go_sem]);(try simp (disch:=omega) only [zI])
         refine zh (hme) rfl (by simp only [go_sem,i64,ints]) (by simp only [go_sem,i64,ints]) (by first | exact .inl rfl | exact .inr rfl) ?_
         (try simp only [go_sem]);(try simp (disch:=omega) only [zI]);repeat first | intro _ | refine ⟨by omega,?_⟩
         refine hK _ ?_;clear hK K;refine zw (sub_frzP 20 20 [i64 ml,i64 mh] (by omega) rfl rfl) ?_;refine zw (zk [7,8,9,10,13,15,20,21]) ?_;simp only [go_sem]
         have hOi : i < O.length:=by omega
         have t1 : Int.tdiv ml (D : Int) = ml / D:=Int.tdiv_eq_ediv_of_nonneg hML.1.1
         have t3 : Int.tdiv (mh + (D : Int) - 1) (D : Int) = (mh + ((D : Int) - 1)) / D:=by rw [Int.tdiv_eq_ediv_of_nonneg (by omega),show mh + (D : Int) - 1 = mh + ((D : Int) - 1) by omega]
         have b1 : 0 ≤ ml / (D : Int) ∧ ml / (D : Int) ≤ ml:=⟨Int.ediv_nonneg hML.1.1 (by omega),Int.ediv_le_self _ hML.1.1⟩
         have b2 : 0 ≤ (mh + ((D : Int) - 1)) / (D : Int) ∧ (mh + ((D : Int) - 1)) / (D : Int) ≤ mh + ((D : Int) - 1):=⟨Int.ediv_nonneg (by omega) (by omega),Int.ediv_le_self _ (by omega)⟩
         have v1 : IntKind.i64.wrap (ml / (D : Int)) = ml / D:=by rw [zI] <;> omega
         have v2 : IntKind.i64.wrap (mh + (D : Int)) = mh + D:=by rw [zI] <;> omega
         have v3 : IntKind.i64.wrap (mh + (D : Int) - 1) = mh + D - 1:=by rw [zI] <;> omega
         have v4 : IntKind.i64.wrap ((mh + ((D : Int) - 1)) / (D : Int)) = (mh + ((D : Int) - 1)) / D:=by rw [zI] <;> omega
         have d0 : ¬ (D : Int) = 0:=by omega
         have d1 : (D : Int) ≠ 0:=by omega
         have gt : decide (low < ml / (D : Int)) = false:=decide_eq_false (by omega)
         generalize hq1 : ml / (D : Int) = q1 at *
         generalize hq2 : (mh + ((D : Int) - 1)) / (D : Int) = q2 at *
         repeat refine zq ?_
         refine zg follows (by decide +kernel) (by kernel_rfl) fun K hK=>?_;simp only [go_sem,hat,hOi,spanR,List.length_map,z0,bne_self_eq_false,t1,t3,v1,v2,v3,v4,d0,d1,gt];(try simp (disch:=omega) only [zI]);repeat first | intro _ | refine ⟨by omega,?_⟩
         repeat first | intro _ | refine ⟨by omega,?_⟩
         refine hK _ ?_;clear hK K;refine zw (zk [7,8,9,10,13,15,193]) ?_;simp only [go_sem]
         repeat refine zq ?_
         refine zc rfl (fun hc=>?_) (fun hc=>?_) <;> (try simp only [go_sem] at hc)
         refine zx ?_
         try simp only [go_sem]
         repeat refine zq ?_
         refine zb fun K hK=>?_;simp only [go_sem];(try simp (disch:=omega) only [zI]);repeat first | intro _ | refine ⟨by omega,?_⟩
         refine hK _ ?_;clear hK K
         try simp only [go_sem]
         refine ⟨by omega,zj [] ?_ ?_⟩
         · try simp only [go_sem]
         · try simp only [go_sem]
   · have hie : i = L.length:=by omega
     subst hie
     repeat refine zq ?_
     refine zb fun K hK=>?_;simp only [go_sem,Nat.lt_irrefl];(try simp (disch:=omega) only [zI]);repeat first | intro _ | refine ⟨by omega,?_⟩
     refine hK _ ?_;clear hK K;refine zw (zk [7,8,9,10,13,15,105]) ?_;simp only [go_sem]
     repeat refine zq ?_
     refine zc rfl (fun hc=>?_) (fun hc=>?_) <;> (try simp only [go_sem] at hc)
     refine zf ?_;simp only [go_sem]
     repeat refine zq ?_
     refine zb fun K hK=>?_;simp only [go_sem];(try simp (disch:=omega) only [zI])
     refine zh (hk1) rfl (by simp only [go_sem,i64,ints]) (by simp only [go_sem,i64,ints]) (by first | exact .inl rfl | exact .inr rfl) ?_
     (try simp only [go_sem]);(try simp (disch:=omega) only [zI])
     refine zh (hk2) rfl (by simp only [go_sem,i64,ints]) (by simp only [go_sem,i64,ints]) (by first | exact .inl rfl | exact .inr rfl) ?_
     (try simp only [go_sem]);(try simp (disch:=omega) only [zI]);repeat first | intro _ | refine ⟨by omega,?_⟩
     refine hK _ ?_;clear hK K;refine zw (zk [6]) ?_;simp only [go_sem];refine ze ?_;simp only [go_sem]
     try rfl
end Go.Proofs.Ytlljkgiomkmjbaa.Du

namespace Go.Oc
open Go Go.RowKit Go.ChangeShapes Go.WideShapes
inductive Sh where
 | int (k : IntKind)
 | bool
 | sl (es : List Sh)
def fieldsSh (P : Program) (sh : TypeId → Option (List Sh)) : List Field → Nat → Option (List Sh)
 | [],_=>some []
 | f :: fs, o =>
   match sh f.type with
   | some ss=>if f.offset == o && ss.length == P.cellsOf f.type then match fieldsSh P sh fs (o + ss.length) with | some q=>some (ss ++ q) | none=>none else none
   | none=>none
def shape (P : Program) : Nat → TypeId → Option (List Sh)
 | 0,_=>none
 | n + 1, t =>
   match P.underlying t with
   | some (.int k)=>some [.int k]
   | some .bool=>some [.bool]
   | some (.slice e) =>
     match shape P n e with
     | some ss=>if ss.length == P.cellsOf e && decide (0 < ss.length) then some [.sl ss] else none
     | none=>none
   | some (.array m e) =>
     match shape P n e with
     | some ss=>if ss.length == P.cellsOf e && P.cellsOf t == m * ss.length then some (List.replicate m ss).flatten else none
     | none=>none
   | some (.struct fs) =>
     match fieldsSh P (shape P n) fs.toList 0 with
     | some ss=>if ss.length == P.cellsOf t then some ss else none
     | none=>none
   | _=>none
mutual
def Fits : Sh → RV → Prop
 | .int k,x=>∃ n,x = .it k n ∧ (Lit.int k n).wf = true
 | .bool,x=>∃ b,x = .bo b
 | .sl ss,x=>∃ es,x = .sl ss.length es ∧ FitsE ss es
def FitsL : List Sh → List RV → Prop
 | [],xs=>xs = []
 | s :: ss,xs=>∃ y ys,xs = y :: ys ∧ Fits s y ∧ FitsL ss ys
def FitsE (ss : List Sh) : List (List RV) → Prop
 | []=>True
 | e :: es=>FitsL ss e ∧ FitsE ss es
end
theorem fitsL_append : ∀ {s1 s2 : List Sh} {x1 x2 : List RV},FitsL s1 x1 → FitsL s2 x2 → FitsL (s1 ++ s2) (x1 ++ x2)
 | [],_,_,_,h1,h2=>by simp only [FitsL] at h1; subst h1; simpa using h2
 | s :: ss, s2, x1, x2, h1, h2 => by
   simp only [FitsL] at h1
   obtain ⟨y,ys,rfl,h3,h4⟩:=h1
   simp only [List.cons_append,FitsL];exact ⟨y,_,rfl,h3,fitsL_append h4 h2⟩
theorem fitsL_length : ∀ {ss : List Sh} {xs : List RV},FitsL ss xs → xs.length = ss.length
 | [],_,h=>by simp only [FitsL] at h; subst h; rfl
 | s :: ss, _, h => by
   simp only [FitsL] at h
   obtain ⟨y,ys,rfl,_,h⟩:=h
   simp [fitsL_length h]
theorem fitsE_of : ∀ {ss : List Sh} {es : List (List RV)},(∀ e ∈ es,FitsL ss e) → FitsE ss es
 | _,[],_=>by simp only [FitsE]
 | ss,e :: es,h=>by simp only [FitsE]; exact ⟨h e (by simp),fitsE_of fun x hx=>h x (by simp [hx])⟩
theorem choice {α : Type} {Q : Nat → α → Prop} : ∀ (n : Nat),(∀ i,i < n → ∃ x,Q i x) → ∃ xs : List α,xs.length = n ∧ ∀ i x,xs[i]? = some x → Q i x
 | 0,_=>⟨[],rfl,by simp⟩
 | n + 1, h => by
   obtain ⟨xs,hl,hx⟩:=choice n fun i hi=>h i (by omega)
   obtain ⟨y,hy⟩:=h n (by omega)
   refine ⟨xs ++ [y],by simp [hl],fun i x hi=>?_⟩
   by_cases h1 : i < n
   · rw [List.getElem?_append_left (by omega)] at hi; exact hx i x hi
   · rw [List.getElem?_append_right (by omega)] at hi
     have : i = n:=by have:=(List.getElem?_eq_some_iff.1 hi).1; simp at this; omega
     subst this
     simp [hl] at hi
     exact hi ▸ hy
section
variable {w : World} {P : Program}
theorem cells?_get {base n : Nat} {a : Addr} {cs : List Value} (h : w.cells? base a n = some cs) : cs.length = n ∧ ∀ i,i < n → w.cell? (a.add i) = cs[i]?:=by
 unfold World.cells? at h
 split at h
 · exact ⟨by simpa using mapM_some_length h,fun i hi=>mapM_some_get h i i (by simp [hi])⟩
 · cases h
theorem cell_lt {a : Addr} {v : Value} (h : w.cell? a = some v) : a.block < w.heap.size:=by
 refine Decidable.byContradiction fun hn=>?_
 have : w.heap[a.block]? = none:=by simp; omega
 simp [World.cell?,this] at h
def old (w : World) : Nat → Prop:=fun b=>b < w.heap.size
theorem relC_of_cells {xs : List RV} {cs : List Value} {ad : Addr} (hV : RV.relV w (old w) xs cs) (hone : ∀ u ∈ cs,u.oneCell' = true) (hc : ∀ i,i < cs.length → w.cell? (ad.add i) = cs[i]?) : RV.relC w (old w) xs ad 0:=by
 refine RV.relC_of_get fun i x hx=>?_
 obtain ⟨u,hu,hr⟩:=RV.relV_get hV hx
 have hi:=(List.getElem?_eq_some_iff.1 hu).1
 refine ⟨u,?_,hone u (List.mem_of_getElem? hu),hr⟩
 rw [Nat.zero_add,hc i hi,hu]
variable {H : Type} {enc : TypeId × Value → H} {base : Nat} {spare : Nat → Bool} {held : Bool}
def Good3 (w : World) (ss : List Sh) (cs : List Value) : Prop:=∃ xs,FitsL ss xs ∧ RV.relV w (old w) xs cs ∧ ∀ u ∈ cs,u.oneCell' = true
theorem good3_append {s1 s2 : List Sh} {c1 c2 : List Value} (h1 : Good3 w s1 c1) (h2 : Good3 w s2 c2) : Good3 w (s1 ++ s2) (c1 ++ c2):=by
 obtain ⟨x1,f1,r1,o1⟩:=h1
 obtain ⟨x2,f2,r2,o2⟩:=h2
 refine ⟨x1 ++ x2,fitsL_append f1 f2,RV.relV_append r1 r2,fun u hu=>?_⟩
 rcases List.mem_append.1 hu with hu | hu
 · exact o1 u hu
 · exact o2 u hu
theorem good3_length {ss : List Sh} {cs : List Value} (h : Good3 w ss cs) : cs.length = ss.length:=by
 obtain ⟨xs,f,r,_⟩:=h
 rw [RV.relV_length r,fitsL_length f]
theorem trod_fits : ∀ (fuel n : Nat) (t : TypeId) (cs : List Value) (x : DataW H × List MemPlace) (ss : List Sh),DataW.trod enc P w base spare held fuel t cs = some x → shape P n t = some ss → Good3 w ss cs:=by
 intro fuel
 induction fuel with
 | zero=>intro n t cs x ss h; simp [DataW.trod] at h
 | succ fuel ih =>
   intro n t cs x ss h hs
   cases n with
   | zero=>simp [shape] at hs
   | succ n =>
     unfold shape at hs
     split at hs
     · rename_i k ht
       injection hs with hs; subst hs
       obtain ⟨m,rfl,_,hw⟩:=DataW.trod_int ht h
       exact ⟨[.it k m],by simp only [FitsL,Fits]; exact ⟨_,[],rfl,⟨m,rfl,hw⟩,rfl⟩,by simp only [RV.relV,RV.rel]; exact ⟨_,[],rfl,rfl,rfl⟩,by simp [Value.oneCell']⟩
     · rename_i ht
       injection hs with hs; subst hs
       obtain ⟨b,rfl,_⟩:=DataW.trod_bool ht h
       exact ⟨[.bo b],by simp only [FitsL,Fits]; exact ⟨_,[],rfl,⟨b,rfl⟩,rfl⟩,by simp only [RV.relV,RV.rel]; exact ⟨_,[],rfl,rfl,rfl⟩,by simp [Value.oneCell']⟩
     · rename_i e ht
       split at hs
       · rename_i es hes
         split at hs
         · rename_i hc
           simp only [Bool.and_eq_true,beq_iff_eq,decide_eq_true_eq] at hc
           injection hs with hs; subst hs
           rcases DataW.trod_slice ht h with ⟨rfl,_⟩ | ⟨a,len,cap,elems,rest,m,hm,rfl,_,_,hlc,hcm,hel,hget,_⟩
           · refine ⟨[.sl es.length []],?_,?_,by simp [Value.oneCell']⟩
             · simp only [FitsL,Fits];exact ⟨_,[],rfl,⟨[],rfl,by simp only [FitsE]⟩,rfl⟩
             · simp only [RV.relV,RV.rel];exact ⟨_,[],rfl,⟨none,0,rfl,Nat.le_refl _,Nat.zero_le _,fun h=>absurd rfl h⟩,rfl⟩
           · injection hm with hm; subst hm
             have hall : ∀ i,i < len → ∃ e',FitsL es e' ∧ e'.length = es.length ∧ RV.relC w (old w) e' (a.add (i * es.length)) 0 ∧ a.block < w.heap.size:=fun i hi=>by
              have h1:=hget i hi
              have h2 : i < elems.length:=by omega
              rw [List.getElem?_eq_getElem h2] at h1
              obtain ⟨ci,hci,htr⟩:=Option.bind_eq_some_iff.1 h1
              rw [← hc.1] at hci
              obtain ⟨hl,hcell⟩:=cells?_get hci
              obtain ⟨xs,f,r,o⟩:=ih n e ci _ es htr hes
              refine ⟨xs,f,fitsL_length f,relC_of_cells r o (fun j hj=>hcell j (by omega)),?_⟩
              have h3:=hcell 0 hc.2
              have h4 : 0 < ci.length:=by omega
              rw [List.getElem?_eq_getElem h4] at h3
              have:=cell_lt h3
              rwa [block_add,block_add] at this
             obtain ⟨els,hlen,hels⟩:=choice len hall
             refine ⟨[.sl es.length els],?_,?_,by simp [Value.oneCell']⟩
             · simp only [FitsL,Fits]
               refine ⟨_,[],rfl,⟨els,rfl,fitsE_of fun e' he'=>?_⟩,rfl⟩
               obtain ⟨i,hi⟩:=List.getElem?_of_mem he'
               exact (hels i e' hi).1
             · simp only [RV.relV,RV.rel]
               refine ⟨_,[],rfl,⟨some a,cap,by rw [hlen],by omega,hcm,fun hne=>?_⟩,rfl⟩
               obtain ⟨e0,he0⟩ : ∃ e0,els[0]? = some e0:=by
                cases els with
                | nil=>exact absurd rfl hne
                | cons a l=>exact ⟨a,rfl⟩
               refine ⟨a,rfl,(hels 0 e0 he0).2.2.2,RV.relE_of_get fun i e' he'=>?_⟩
               obtain ⟨_,q1,q2,_⟩:=hels i e' he'
               exact ⟨q1,RV.relC_unbase _ q2⟩
         · cases hs
       · cases hs
     · rename_i m e ht
       split at hs
       · rename_i es hes
         split at hs
         · rename_i hc
           simp only [Bool.and_eq_true,beq_iff_eq] at hc
           injection hs with hs; subst hs
           obtain ⟨xs,fm,hm,_,hcl,hxl,hget⟩:=DataW.trod_array ht h
           injection hm with hm; subst hm
           have key : ∀ j,j ≤ m → Good3 w (List.replicate j es).flatten (cs.take (j * es.length)):=by
            intro j
            induction j with
            | zero=>intro _; exact ⟨[],by simp [FitsL],by simp [RV.relV],by simp⟩
            | succ j ihj =>
              intro hj
              have h1:=hget j (by omega)
              have h2 : j < xs.length:=by omega
              rw [List.getElem?_eq_getElem h2,← hc.1] at h1
              have h3:=ih n e _ _ es h1 hes
              have:=good3_append (ihj (by omega)) h3
              rw [← List.take_add] at this
              rw [List.replicate_succ',List.flatten_append,Nat.add_mul]
              simpa using this
           have:=key m (Nat.le_refl _)
           rwa [← hc.2,← hcl,List.take_length] at this
         · cases hs
       · cases hs
     · rename_i fs ht
       split at hs
       · rename_i q hq
         split at hs
         · rename_i hc
           simp only [beq_iff_eq] at hc
           injection hs with hs; subst hs
           obtain ⟨xs,fm,hm,_,hcl,hxl,hget⟩:=DataW.trod_struct ht h
           injection hm with hm; subst hm
           have key : ∀ (l : List Field) (o : Nat) (q : List Sh),(∀ f ∈ l,∃ y,DataW.trod enc P w base spare held fuel f.type ((cs.drop f.offset).take (P.cellsOf f.type)) = some y) → fieldsSh P (shape P n) l o = some q → Good3 w q ((cs.drop o).take q.length):=by
            intro l
            induction l with
            | nil =>
              intro o q _ hq
              simp only [fieldsSh,Option.some.injEq] at hq
              subst hq
              exact ⟨[],by simp [FitsL],by simp [RV.relV],by simp⟩
            | cons f l ihl =>
              intro o q hall hq
              simp only [fieldsSh] at hq
              split at hq
              · rename_i s1 hs1
                split at hq
                · rename_i hc1
                  simp only [Bool.and_eq_true,beq_iff_eq] at hc1
                  split at hq
                  · rename_i q2 hq2
                    injection hq with hq; subst hq
                    obtain ⟨y,hy⟩:=hall f (by simp)
                    have g1:=ih n f.type _ _ s1 hy hs1
                    have g2:=ihl (o + s1.length) q2 (fun f' hf'=>hall f' (by simp [hf'])) hq2
                    rw [hc1.1,← hc1.2] at g1
                    have:=good3_append g1 g2
                    rw [← List.drop_drop,← List.take_add] at this
                    simpa using this
                  · cases hq
                · cases hq
              · cases hq
           have:=key fs.toList 0 q (fun f hf=>by
            obtain ⟨i,hi⟩:=List.getElem?_of_mem hf
            have hi' : fs[i]? = some f:=by simpa using hi
            have h1:=hget i f hi'
            have h2 : i < xs.length:=by have:=(Array.getElem?_eq_some_iff.1 hi').1; omega
            exact ⟨xs[i],by rw [h1]; exact List.getElem?_eq_getElem h2⟩) hq
           rwa [List.drop_zero,hc,← hcl,List.take_length] at this
         · cases hs
       · cases hs
     · cases hs
def FitsT (P : Program) (n : Nat) (t : TypeId) (x : RV) : Prop:=∃ ss,shape P n t = some ss ∧ if aggOf P t then ∃ xs,x = .ag xs ∧ FitsL ss xs else FitsL ss [x]
theorem arg_fits {n : Nat} {t : TypeId} {v : Value} {d : DataW H} {ps : List MemPlace} {r : Reach} {b0 : Nat} (hs : (shape P n t).isSome = true) (hval : Value.okWide P w r b0 t v) (h : DataW.Trod enc P w base spare held t v d ps) :
 ∃ x,FitsT P n t x ∧ x.rel w (old w) v:=by
 obtain ⟨ss,hss⟩:=Option.isSome_iff_exists.1 hs
 obtain ⟨fuel,hf⟩:=h
 obtain ⟨xs,f,r,o⟩:=trod_fits fuel n t _ _ ss hf hss
 have one : aggOf P t = false → v.cells.toList = [v] → ∃ x,FitsT P n t x ∧ x.rel w (old w) v:=fun ha hc=>by
  rw [hc] at r
  match xs,r with
  | [x], r =>
    simp only [RV.relV] at r
    obtain ⟨u,us,e,hr,_⟩:=r
    injection e with e1 e2
    subst e1
    exact ⟨x,⟨ss,hss,by rw [ha]; exact f⟩,hr⟩
  | [],r=>simp [RV.relV] at r
  | _ :: _ :: _, r =>
    simp only [RV.relV] at r
    obtain ⟨u,us,e,_,u2,us2,e2,_⟩:=r
    injection e with _ e
    rw [e2] at e; cases e
 cases n with
 | zero=>simp [shape] at hss
 | succ n =>
   have hss':=hss
   unfold shape at hss'
   split at hss'
   · rename_i k ht
     obtain ⟨m,rfl⟩:=okWide_int ht hval
     exact one (by simp [aggOf,ht]) rfl
   · rename_i ht
     obtain ⟨b,rfl⟩:=okWide_bool ht hval
     exact one (by simp [aggOf,ht]) rfl
   · rename_i e ht
     obtain ⟨a,l,c,rfl⟩:=okWide_slice ht hval
     exact one (by simp [aggOf,ht]) rfl
   · rename_i m e ht
     obtain ⟨cs,rfl⟩ : ∃ cs,v = .agg cs:=by
      simp only [Value.okWide,ht] at hval
      obtain ⟨cs,h1,_⟩:=hval
      exact ⟨cs,h1⟩
     exact ⟨.ag xs,⟨ss,hss,by simp only [aggOf,ht,if_true]; exact ⟨xs,rfl,f⟩⟩,by simp only [RV.rel]; exact ⟨cs,rfl,o,r⟩⟩
   · rename_i fs ht
     obtain ⟨cs,rfl,_⟩:=okWide_struct ht hval
     exact ⟨.ag xs,⟨ss,hss,by simp only [aggOf,ht,if_true]; exact ⟨xs,rfl,f⟩⟩,by simp only [RV.rel]; exact ⟨cs,rfl,o,r⟩⟩
   · cases hss'
theorem wf_i64 {n : Int} (h : (Lit.int .i64 n).wf = true) : -9223372036854775808 ≤ n ∧ n ≤ 9223372036854775807:=by
 simp only [Lit.wf,Bool.and_eq_true,decide_eq_true_eq] at h
 have h1 : IntKind.min .i64 = -9223372036854775808:=by decide
 have h2 : IntKind.max .i64 = 9223372036854775807:=by decide
 rw [h1,h2] at h
 exact h
theorem fitsE_ints : ∀ {es : List (List RV)},FitsE [.int .i64] es → ∃ l : List Int,es = l.map (fun x=>[.it .i64 x]) ∧ ∀ x ∈ l,-9223372036854775808 ≤ x ∧ x ≤ 9223372036854775807
 | [],_=>⟨[],rfl,by simp⟩
 | e :: es, h => by
   simp only [FitsE,FitsL,Fits] at h
   obtain ⟨⟨y,ys,rfl,⟨n,rfl,hn⟩,rfl⟩,h⟩:=h
   obtain ⟨l,rfl,hl⟩:=fitsE_ints h
   refine ⟨n :: l,rfl,fun x hx=>?_⟩
   rcases List.mem_cons.1 hx with rfl | hx
   · exact wf_i64 hn
   · exact hl x hx
theorem fitsT_ag {n : Nat} {t : TypeId} {x : RV} {ss : List Sh} (h : FitsT P n t x) (hs : shape P n t = some ss) (ha : aggOf P t = true) : ∃ xs,x = .ag xs ∧ FitsL ss xs:=by
 obtain ⟨s',h1,h2⟩:=h
 rw [hs] at h1; injection h1 with h1; subst h1
 rw [ha] at h2
 exact h2
theorem fitsT_one {n : Nat} {t : TypeId} {x : RV} {s : Sh} (h : FitsT P n t x) (hs : shape P n t = some [s]) (ha : aggOf P t = false) : Fits s x:=by
 obtain ⟨s',h1,h2⟩:=h
 rw [hs] at h1; injection h1 with h1; subst h1
 rw [ha] at h2
 simp only [Bool.false_eq_true,if_false,FitsL] at h2
 obtain ⟨y,ys,e,h3,_⟩:=h2
 injection e with e1 e2
 subst e1
 exact h3
theorem fitsT_int {n : Nat} {t : TypeId} {x : RV} (h : FitsT P n t x) (hs : shape P n t = some [.int .i64]) (ha : aggOf P t = false) : ∃ m,x = .it .i64 m ∧ -9223372036854775808 ≤ m ∧ m ≤ 9223372036854775807:=by
 have:=fitsT_one h hs ha
 simp only [Fits] at this
 obtain ⟨m,h1,h2⟩:=this
 exact ⟨m,h1,wf_i64 h2⟩
theorem fitsT_ints {n : Nat} {t : TypeId} {x : RV} (h : FitsT P n t x) (hs : shape P n t = some [.sl [.int .i64]]) (ha : aggOf P t = false) : ∃ l : List Int,x = .sl 1 (l.map (fun x=>[.it .i64 x])) ∧ ∀ x ∈ l,-9223372036854775808 ≤ x ∧ x ≤ 9223372036854775807:=by
 have:=fitsT_one h hs ha
 simp only [Fits] at this
 obtain ⟨es,h1,h2⟩:=this
 obtain ⟨l,rfl,hl⟩:=fitsE_ints h2
 exact ⟨l,h1,hl⟩
end
end Go.Oc

namespace Go.Oc
open Go Go.RowKit
theorem wf_u8 {n : Int} (h : (Lit.int .u8 n).wf = true) : 0 ≤ n ∧ n ≤ 255:=by
 simp only [Lit.wf,Bool.and_eq_true,decide_eq_true_eq] at h
 have h1 : IntKind.min .u8 = 0:=by decide
 have h2 : IntKind.max .u8 = 255:=by decide
 rw [h1,h2] at h
 exact h
theorem wf_u16 {n : Int} (h : (Lit.int .u16 n).wf = true) : 0 ≤ n ∧ n ≤ 65535:=by
 simp only [Lit.wf,Bool.and_eq_true,decide_eq_true_eq] at h
 have h1 : IntKind.min .u16 = 0:=by decide
 have h2 : IntKind.max .u16 = 65535:=by decide
 rw [h1,h2] at h
 exact h
theorem wf_u32 {n : Int} (h : (Lit.int .u32 n).wf = true) : 0 ≤ n ∧ n ≤ 4294967295:=by
 simp only [Lit.wf,Bool.and_eq_true,decide_eq_true_eq] at h
 have h1 : IntKind.min .u32 = 0:=by decide
 have h2 : IntKind.max .u32 = 4294967295:=by decide
 rw [h1,h2] at h
 exact h
theorem fitsE_u8 : ∀ {es : List (List RV)},FitsE [.int .u8] es → ∃ l : List Int,es = l.map (fun x=>[.it .u8 x]) ∧ ∀ x ∈ l,0 ≤ x ∧ x ≤ 255
 | [],_=>⟨[],rfl,by simp⟩
 | e :: es, h => by
   simp only [FitsE,FitsL,Fits] at h
   obtain ⟨⟨y,ys,rfl,⟨n,rfl,hn⟩,rfl⟩,h⟩:=h
   obtain ⟨l,rfl,hl⟩:=fitsE_u8 h
   refine ⟨n :: l,rfl,fun x hx=>?_⟩
   rcases List.mem_cons.1 hx with rfl | hx
   · exact wf_u8 hn
   · exact hl x hx
theorem fitsE_u16 : ∀ {es : List (List RV)},FitsE [.int .u16] es → ∃ l : List Int,es = l.map (fun x=>[.it .u16 x]) ∧ ∀ x ∈ l,0 ≤ x ∧ x ≤ 65535
 | [],_=>⟨[],rfl,by simp⟩
 | e :: es, h => by
   simp only [FitsE,FitsL,Fits] at h
   obtain ⟨⟨y,ys,rfl,⟨n,rfl,hn⟩,rfl⟩,h⟩:=h
   obtain ⟨l,rfl,hl⟩:=fitsE_u16 h
   refine ⟨n :: l,rfl,fun x hx=>?_⟩
   rcases List.mem_cons.1 hx with rfl | hx
   · exact wf_u16 hn
   · exact hl x hx
end Go.Oc

namespace Go.Proofs.Ytlljkgiomkmjbaa.Du
open Go Go.Oc
set_option maxRecDepth 8000
theorem wfb8 {n : Int} (h : (Lit.int .u8 n).wf = true) : ∃ k : Nat,n = k ∧ k < 256:=by
 simp only [Lit.wf,Bool.and_eq_true,decide_eq_true_eq] at h
 have h1 : IntKind.min .u8 = 0:=by decide
 have h2 : IntKind.max .u8 = 255:=by decide
 rw [h1,h2] at h
 obtain ⟨k,hk⟩:=Int.eq_ofNat_of_zero_le h.1
 exact ⟨k,hk,by omega⟩
theorem fitsL_by8 : ∀ {n : Nat} {xs : List RV},FitsL (List.replicate n (.int .u8)) xs → ∃ l : List Nat,xs = l.map u8Q ∧ l.length = n ∧ ∀ k ∈ l,k < 256
 | 0, xs, h => by
   simp only [List.replicate_zero,Oc.FitsL] at h
   subst h
   exact ⟨[],rfl,rfl,by simp⟩
 | n + 1, xs, h => by
   simp only [List.replicate_succ,Oc.FitsL,Oc.Fits] at h
   obtain ⟨_,ys,rfl,⟨a,rfl,ha⟩,h⟩:=h
   obtain ⟨k,rfl,kk⟩:=wfb8 ha
   obtain ⟨l,rfl,hn,hl⟩:=fitsL_by8 h
   refine ⟨k :: l,rfl,by simp [hn],fun x hx=>?_⟩
   rcases List.mem_cons.1 hx with rfl | hx
   · exact kk
   · exact hl x hx
theorem fitsE_by8 {m : Nat} : ∀ {es : List (List RV)},FitsE (List.replicate m (.int .u8)) es → ∃ A : List (List Nat),es = A.map (fun a=>a.map u8Q) ∧ ∀ a ∈ A,a.length = m ∧ ∀ n ∈ a,n < 256
 | [],_=>⟨[],rfl,by simp⟩
 | e :: es, h => by
   simp only [Oc.FitsE] at h
   obtain ⟨h1,h2⟩:=h
   obtain ⟨l,rfl,hn,hl⟩:=fitsL_by8 h1
   obtain ⟨A,rfl,hA⟩:=fitsE_by8 h2
   refine ⟨l :: A,rfl,fun x hx=>?_⟩
   rcases List.mem_cons.1 hx with rfl | hx
   · exact ⟨hn,hl⟩
   · exact hA x hx
theorem fits5 {x : RV} (h : FitsT Try.prog 9 5 x) : ∃ n : Nat,x = u8Q n ∧ n < 256:=by
 have:=fitsT_one (s:=.int .u8) h (by kernel_rfl) (by kernel_rfl)
 simp only [Oc.Fits] at this
 obtain ⟨m,rfl,hm⟩:=this
 obtain ⟨k,rfl,kk⟩:=wfb8 hm
 exact ⟨k,rfl,kk⟩
theorem fits22 {x : RV} (h : FitsT Try.prog 9 22 x) : ∃ A : List (List Nat),x = .sl 12 (A.map fun a=>a.map u8Q) ∧ ∀ a ∈ A,a.length = 12 ∧ ∀ n ∈ a,n < 256:=by
 have:=fitsT_one (s:=.sl (List.replicate 12 (.int .u8))) h (by kernel_rfl) (by kernel_rfl)
 simp only [Oc.Fits] at this
 obtain ⟨es,rfl,hes⟩:=this
 obtain ⟨A,rfl,hA⟩:=fitsE_by8 hes
 exact ⟨A,rfl,hA⟩
theorem fits95 {x : RV} (h : FitsT Try.prog 9 95 x) : ∃ A : List (List Nat),x = .sl 3 (A.map fun a=>a.map u8Q) ∧ ∀ a ∈ A,a.length = 3 ∧ ∀ n ∈ a,n < 256:=by
 have:=fitsT_one (s:=.sl (List.replicate 3 (.int .u8))) h (by kernel_rfl) (by kernel_rfl)
 simp only [Oc.Fits] at this
 obtain ⟨es,rfl,hes⟩:=this
 obtain ⟨A,rfl,hA⟩:=fitsE_by8 hes
 exact ⟨A,rfl,hA⟩
theorem fits47 {x : RV} (h : FitsT Try.prog 9 47 x) : ∃ l : List Nat,x = .sl 1 (l.map fun n=>[u8Q n]) ∧ ∀ n ∈ l,n < 256:=by
 have:=fitsT_one (s:=.sl (List.replicate 1 (.int .u8))) h (by kernel_rfl) (by kernel_rfl)
 simp only [Oc.Fits] at this
 obtain ⟨es,rfl,hes⟩:=this
 obtain ⟨A,rfl,hA⟩:=fitsE_by8 hes
 have key : ∀ A : List (List Nat),(∀ a ∈ A,a.length = 1 ∧ ∀ n ∈ a,n < 256) → A = A.flatten.map (fun n=>[n]) ∧ ∀ n ∈ A.flatten,n < 256:=by
  intro A
  induction A with
  | nil=>intro _; exact ⟨rfl,by simp⟩
  | cons a A ih =>
    intro h
    obtain ⟨i1,i2⟩:=ih fun b hb=>h b (by simp [hb])
    obtain ⟨h1,h2⟩:=h a (by simp)
    match a,h1,h2 with
    | [n], _, h2 =>
      refine ⟨?_,?_⟩
      · simp only [List.flatten_cons,List.singleton_append,List.map_cons];rw [← i1]
      · intro x hx
        simp only [List.flatten_cons,List.singleton_append,List.mem_cons] at hx
        rcases hx with rfl | hx
        · exact h2 _ (by simp)
        · exact i2 x hx
 obtain ⟨k1,k2⟩:=key A hA
 refine ⟨A.flatten,?_,k2⟩
 conv=>lhs; rw [k1]
 rw [List.map_map]; rfl
theorem fits71 {x : RV} (h : FitsT Try.prog 9 71 x) : ∃ a b c : Nat,x = .ag [u8Q a,u8Q b,u8Q c] ∧ a < 256 ∧ b < 256 ∧ c < 256:=by
 obtain ⟨xs,rfl,hx⟩:=fitsT_ag (ss:=List.replicate 3 (.int .u8)) h (by kernel_rfl) (by kernel_rfl)
 obtain ⟨l,rfl,hn,hl⟩:=fitsL_by8 hx
 match l,hn,hl with
 | [a,b,c],_,hl=>exact ⟨a,b,c,rfl,hl a (by simp),hl b (by simp),hl c (by simp)⟩
theorem fits23 {x : RV} (h : FitsT Try.prog 9 23 x) : ∃ a b c d e f : Nat,x = .ag [u8Q a,u8Q b,u8Q c,u8Q d,u8Q e,u8Q f] ∧ (a < 256 ∧ b < 256 ∧ c < 256) ∧ d < 256 ∧ e < 256 ∧ f < 256:=by
 obtain ⟨xs,rfl,hx⟩:=fitsT_ag (ss:=List.replicate 6 (.int .u8)) h (by kernel_rfl) (by kernel_rfl)
 obtain ⟨l,rfl,hn,hl⟩:=fitsL_by8 hx
 match l,hn,hl with
 | [a,b,c,d,e,f],_,hl=>exact ⟨a,b,c,d,e,f,rfl,⟨hl a (by simp),hl b (by simp),hl c (by simp)⟩,hl d (by simp),hl e (by simp),hl f (by simp)⟩
end Go.Proofs.Ytlljkgiomkmjbaa.Du

namespace Go.Proofs.Ytlljkgiomkmjbaa
open Go Go.Oc
theorem law5' {x0 x1 x2 : RV} (h0 : FitsT Try.prog 9 5 x0) (h1 : FitsT Try.prog 9 22 x1) (h2 : FitsT Try.prog 9 71 x2) : ACalls Try.prog 5 [x0,x1,x2] (.bo true):=by
 obtain ⟨n,rfl,hn⟩:=Du.fits5 h0
 obtain ⟨A,rfl,hA⟩:=Du.fits22 h1
 obtain ⟨a,b,c,rfl,ka,kb,kc⟩:=Du.fits71 h2
 exact Du.throwduel_law n hn A hA a b c ka kb kc
end Go.Proofs.Ytlljkgiomkmjbaa


namespace Go.Proofs.Ytlljkgiomkmjbaa
open Go Go.Oc Go.ChangeShapes Go.WideShapes Go.RowKit
set_option linter.unusedVariables false
theorem own : ownKnob Try.prog.godebug = none := by kernel_rfl
theorem laidOut : laidOutB Try.prog = true := by kernel_rfl
set_option maxRecDepth 100000 in
theorem lifted (os : Os) (started : os.Started) (H : Type) (enc : TypeId × Value → H) :
    ReturnsInHanded {} Try.checked os 5 .any (Rows.topThrowDuelSpec.pre6 enc Try.prog Try.f5 Rows.topThrowDuelRow.domain false) (Rows.topThrowDuelSpec.post enc Try.prog Try.f5 false true false false) := by
  refine returnsInHanded_of_change (C := Try.checked) own started (by kernel_rfl) Try.func5
    (ChangeSpec.witness6 (enc := enc) (C := Try.checked) false ⟨#[], #[.int .u8 0, .slice none 0 0, .agg #[.int .u8 0, .int .u8 0, .int .u8 0]], []⟩ 8 (by kernel_rfl) (by kernel_rfl) (by kernel_rfl) (by kernel_rfl)) ?_
  intro W base args ds gs before hval0 hW hcnd _
  have hval : ∀ (j : Nat) t v, Try.f5.params[j]? = some t → args[j]? = some v → Value.okWide Try.prog W .any base t v := hval0
  have hW' := hW
  obtain ⟨p, q, hA0, hV, rfl, hfz, hnd⟩ := hW
  have hA : DataW.TrodAll enc Try.prog W 0 (fun _ => true) true Try.f5.params.toList args.toList ds p := hA0
  rw [Try.params5] at hA hval
  obtain ⟨v0, vs0, d0, ds0, p0, q0, hargs, rfl, rfl, h0, r0⟩ := trodAll_cons hA
  obtain ⟨v1, vs1, d1, ds1, p1, q1, rfl, rfl, rfl, h1, r1⟩ := trodAll_cons r0
  obtain ⟨v2, vs2, d2, ds2, p2, q2, rfl, rfl, rfl, h2, r2⟩ := trodAll_cons r1
  obtain ⟨rfl, rfl, rfl⟩ := trodAll_nil r2
  obtain rfl : args = #[v0, v1, v2] := by cases args; simp_all
  obtain ⟨rfl, rfl⟩ := trodVars_none hV
  have lt0 : ∀ x ∈ p0, x.block < W.heap.size := by obtain ⟨m, hm⟩ := h0; exact DataW.trod_lt m _ _ _ hm
  have lt1 : ∀ x ∈ p1, x.block < W.heap.size := by obtain ⟨m, hm⟩ := h1; exact DataW.trod_lt m _ _ _ hm
  have lt2 : ∀ x ∈ p2, x.block < W.heap.size := by obtain ⟨m, hm⟩ := h2; exact DataW.trod_lt m _ _ _ hm
  obtain ⟨x0, g0, e0⟩ := arg_fits (n := 9) (by kernel_rfl) (hval 0 5 v0 rfl rfl) h0
  obtain ⟨x1, g1, e1⟩ := arg_fits (n := 9) (by kernel_rfl) (hval 1 22 v1 rfl rfl) h1
  obtain ⟨x2, g2, e2⟩ := arg_fits (n := 9) (by kernel_rfl) (hval 2 71 v2 rfl rfl) h2
  clear hA0 hval0
  refine ((law5' g0 g1 g2).2 W (old W) #[v0, v1, v2] (fun _ h => h) (by simp only [RV.relV]; exact ⟨_, _, rfl, e0, _, _, rfl, e1, _, _, rfl, e2, rfl⟩)).mono fun e W' he => ?_
  obtain ⟨v, R', rfl, bel, _, _, _, hr⟩ := he
  simp only [RV.rel] at hr
  subst hr
  exact ⟨_, rfl, _, _, _, [], _, [], hW', trodAll_mk1 (shut_bool Try.underlying4 _), (trodAll_cons_mk (Below.trod laidOut (by kernel_rfl) (of_decide_eq_true (by kernel_rfl)) h0 bel lt0) (trodAll_cons_mk (Below.trod laidOut (by kernel_rfl) (of_decide_eq_true (by kernel_rfl)) h1 bel lt1) (trodAll_cons_mk (Below.trod laidOut (by kernel_rfl) (of_decide_eq_true (by kernel_rfl)) h2 bel lt2) trodAll_mk0))), rfl, bel.frame _, fun h => by cases h⟩
theorem over : Rows.topThrowDuelRow.holds Try.pinned (OpenSpec.ofChange Rows.topThrowDuelSpec) :=
  OpenClaim.holds_of_wide 5 Try.f5 rfl rfl rfl rfl rfl rfl rfl ⟨rfl, rfl, rfl, rfl, rfl⟩ rfl rfl rfl rfl rfl (by kernel_rfl) Try.func5 (by kernel_rfl)
    (of_decide_eq_true (by kernel_rfl)) (by unfold Func.isWrapper; first | (rw [if_pos (by decide +kernel)]; kernel_rfl) | (rw [if_neg (by decide +kernel)]; exact ⟨rfl, rfl⟩))
    (fun os started H enc _ => lifted os started H enc)
theorem topThrowDuel_holds : Rows.TopThrowDuelSaid := over
#print axioms topThrowDuel_holds
end Go.Proofs.Ytlljkgiomkmjbaa

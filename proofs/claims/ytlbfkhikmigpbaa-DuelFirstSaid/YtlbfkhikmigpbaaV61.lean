/- For all matches by small numbers, the given function DuelFirst returns true: to throw first is never worse, but for four millionths a round; the numbers are those of the tables; against an opponent who surely ends the leg in the first visit nobody wins who throws second. No conditions beyond those of the given statement. -/
import Derived.Test.YtlbfkhikmigpbaaV59
import Derived.Test.YtlbfkhikmigpbaaV58
import Derived.Test.YtlbfkhikmigpbaaV55
import Derived.ChangeShapes
import Derived.WideShapes
import Derived.OpenShut
import Derived.ShutString
import Derived.ChangeOld
import Derived.Carry
import Derived.Below
import Derived.Test.YtlbfkhikmigpbaaRows
import Derived.JoinedOf
namespace Go.Proofs.Ytlbfkhikmigpbaa
open Go Go.Oc
set_option linter.unusedSimpArgs false
set_option linter.unusedVariables false
set_option maxRecDepth 8000
theorem mrules_new (m : Mt) (hw : WfM m) : NCalls Try.prog 32 [.ag (mtC m)] [(196,.arr 52 2 ((ruM m).ends.map spanR))]
 (.ag [.r (i64 (ruM m).d),.r (aimsR (ruM m).aims),.r (i64 (ruM m).start),.r (i64 (ruM m).out),.os 196 0 2 0 (ruM m).ends.length]):=by
 obtain ⟨c,hc,hwalk⟩:=mrules_walk m hw
 refine ncalls_st (n:=205) _ _ (.cell 2 28) Try.func32 hc (by kernel_rfl) Try.ntmps32 rfl (by simp) rfl rfl fun C hC=>hwalk C _ _ fun vs=>?_
 refine ze ?_
 try simp only [go_sem]
end Go.Proofs.Ytlbfkhikmigpbaa

namespace Go.Proofs.Ytlbfkhikmigpbaa
open Go Go.Oc
set_option linter.unusedSimpArgs false
set_option linter.unusedVariables false
set_option maxRecDepth 8000
abbrev bAt (l : List Bd) (i : Nat) : Bd:=l.getD i ⟨0,0,0⟩
def dotF (l : List Bd) (x : Nat → Int) : Int:=((List.range l.length).map fun i=>x i * (bAt l i).b).sum
structure TruthN (den : Int) (l : List Bd) (x : Nat → Int) : Prop where
 each : ∀ i,i < l.length → (bAt l i).lo ≤ x i ∧ x i ≤ (bAt l i).hi
 sum : ((List.range l.length).map x).sum = den
theorem range_bAt (l : List Bd) : (List.range l.length).map (bAt l) = l:=by
 refine List.ext_getElem (by simp) fun i h1 h2=>?_
 simp [bAt,List.getD,List.getElem?_eq_getElem h2]
theorem sum_bAt (l : List Bd) (F : Bd → Int) : ((List.range l.length).map fun i=>F (bAt l i)).sum = (l.map F).sum:=by
 conv=>rhs; rw [← range_bAt l]
 rw [List.map_map]; rfl
theorem sum_add {f g : Nat → Int} : ∀ I : List Nat,(I.map fun i=>f i + g i).sum = (I.map f).sum + (I.map g).sum
 | []=>by simp
 | i :: I=>by simp only [List.map_cons,List.sum_cons,sum_add I]; omega
theorem sum_sub {f g : Nat → Int} : ∀ I : List Nat,(I.map fun i=>f i - g i).sum = (I.map f).sum - (I.map g).sum
 | []=>by simp
 | i :: I=>by simp only [List.map_cons,List.sum_cons,sum_sub I]; omega
theorem bAt_mem {l : List Bd} {i : Nat} (h : i < l.length) : bAt l i ∈ l:=by
 unfold bAt
 rw [List.getD_eq_getElem?_getD,List.getElem?_eq_getElem h]; exact List.getElem_mem h
theorem mean_opt {most : Bool} {den : Int} {l : List Bd} (h : ChG den l) (hh : den ≤ hiS l) : ∃ x,TruthN den l x ∧ meanD most den l = overD most (dotF l x) den ∧ ∀ y,TruthN den l y → leD most (dotF l x) (dotF l y):=by
 obtain ⟨I,p,n,w,e⟩:=mean_idx (most:=most) h hh
 have hI : ∀ i ∈ I,i < l.length:=fun i hi=>List.mem_range.1 (p.mem_iff.1 hi)
 have hlow:=h.low
 have hm0 : ∀ i ∈ I,0 ≤ (bAt l i).hi - (bAt l i).lo:=fun i hi=>by
  have:=(h.each _ (bAt_mem (hI i hi))).2
  omega
 have hsm : (I.map fun i=>(bAt l i).hi - (bAt l i).lo).sum = hiS l - loS l:=by
  rw [perm_sum (f:=fun i=>(bAt l i).hi - (bAt l i).lo) p,sum_sub]
  rw [sum_bAt l (·.hi),sum_bAt l (·.lo)]; rfl
 have hlo : loS l = (I.map fun i=>(bAt l i).lo).sum:=by
  rw [perm_sum (f:=fun i=>(bAt l i).lo) p,sum_bAt l (·.lo)]; rfl
 have hlv : loV l = (I.map fun i=>(bAt l i).lo * (bAt l i).b).sum:=by
  rw [perm_sum (f:=fun i=>(bAt l i).lo * (bAt l i).b) p,sum_bAt l fun c=>c.lo * c.b]; rfl
 have hdot : ∀ x,dotF l x = (I.map fun i=>x i * (bAt l i).b).sum:=fun x=>(perm_sum (f:=fun i=>x i * (bAt l i).b) p).symm
 have hsum : ∀ x : Nat → Int,((List.range l.length).map x).sum = (I.map x).sum:=fun x=>(perm_sum (f:=x) p).symm
 obtain ⟨x,x1,x2,x3⟩:=greedy_amt (m:=fun i=>(bAt l i).hi - (bAt l i).lo) (v:=fun i=>(bAt l i).b) (I:=I) (left:=den - loS l) (s:=loV l) n hm0 (by omega) (by omega)
 have hd : dotF l (fun i=>(bAt l i).lo + x i) = loV l + (I.map fun i=>x i * (bAt l i).b).sum:=by
  rw [hdot,hlv,← sum_add]
  congr 1
  exact List.map_congr_left fun i _=>by rw [Int.add_mul]
 refine ⟨fun i=>(bAt l i).lo + x i,⟨fun i hi=>?_,?_⟩,?_,fun y hy=>?_⟩
 · have:=x1 i (p.mem_iff.2 (List.mem_range.2 hi))
   omega
 · rw [hsum,sum_add,x2,← hlo]; omega
 · rw [e,hd,x3]
 · have hfe : ∀ i ∈ I,0 ≤ y i - (bAt l i).lo ∧ y i - (bAt l i).lo ≤ (bAt l i).hi - (bAt l i).lo:=fun i hi=>by
    have:=hy.each i (hI i hi)
    omega
   have hys : (I.map fun i=>y i - (bAt l i).lo).sum = den - loS l:=by
    rw [sum_sub,← hsum y,hy.sum,← hlo]
   have hyd : dotF l y = loV l + (I.map fun i=>(y i - (bAt l i).lo) * (bAt l i).b).sum:=by
    rw [hdot,hlv,← sum_add]
    congr 1
    exact List.map_congr_left fun i _=>by rw [Int.sub_mul]; omega
   rw [hd,hyd]
   have hf:=feas_map (m:=fun i=>(bAt l i).hi - (bAt l i).lo) (v:=fun i=>(bAt l i).b) (x:=fun i=>y i - (bAt l i).lo) hfe
   have hdm:=dot_map (m:=fun i=>(bAt l i).hi - (bAt l i).lo) (v:=fun i=>(bAt l i).b) (x:=fun i=>y i - (bAt l i).lo) I
   cases most with
   | false =>
     have:=fill_min hf (den - loS l) (loV l) (List.pairwise_map.2 (w.imp fun h=>by simpa [leD] using h)) hys
     rw [hdm,x3] at this
     simp only [leD,Bool.false_eq_true,if_false]
     omega
   | true =>
     have:=fill_max hf (den - loS l) (loV l) (List.pairwise_map.2 (w.imp fun h=>by simpa [leD] using h)) hys
     rw [hdm,x3] at this
     simp only [leD,if_true]
     omega
theorem bAt_chW (f : Int → Int) (l : List Bd) {i : Nat} (hi : i < l.length) : bAt (chW f l) i = ⟨f (bAt l i).b,(bAt l i).lo,(bAt l i).hi⟩:=by simp [chW,bAt,List.getD,List.getElem?_eq_getElem hi]
theorem chW_len (f : Int → Int) (l : List Bd) : (chW f l).length = l.length:=by simp [chW]
theorem dotF_chW (f : Int → Int) (l : List Bd) (x : Nat → Int) : dotF (chW f l) x = ((List.range l.length).map fun i=>x i * f (bAt l i).b).sum:=by
 unfold dotF
 rw [chW_len]
 congr 1
 exact List.map_congr_left fun i hi=>by rw [bAt_chW f l (List.mem_range.1 hi)]
theorem TruthN.chW {den : Int} {l : List Bd} {x : Nat → Int} {f g : Int → Int} (h : TruthN den (chW f l) x) : TruthN den (chW g l) x:=by
 refine ⟨fun i hi=>?_,?_⟩
 · rw [chW_len] at hi
   have:=h.each i (by rw [chW_len]; exact hi)
   rw [bAt_chW f l hi] at this
   rw [bAt_chW g l hi]
   exact this
 · have:=h.sum
   rw [chW_len] at this ⊢
   exact this
theorem sum_mul (c : Int) {f : Nat → Int} : ∀ I : List Nat,(I.map fun i=>c * f i).sum = c * (I.map f).sum
 | []=>by simp
 | i :: I=>by simp only [List.map_cons,List.sum_cons,sum_mul c I,Int.mul_add]
theorem mean_scale {most : Bool} {den : Int} {l : List Bd} {f g : Int → Int} {W c K : Int} (hf : ChG den (chW f l)) (hg : ChG den (chW g l)) (hh : den ≤ hiS l) (hc : 0 ≤ c) (hcW : c ≤ W)
 (hfg : ∀ b ∈ l,c * g b.b - K ≤ W * f b.b) : c * meanD most den (chW g l) - K - W ≤ W * meanD most den (chW f l):=by
 obtain ⟨x,x1,x2,x3⟩:=mean_opt (most:=most) hf (by rw [hiS_chW]; exact hh)
 obtain ⟨y,y1,y2,y3⟩:=mean_opt (most:=most) hg (by rw [hiS_chW]; exact hh)
 have hd:=hf.den0
 have key : ∀ z,TruthN den (chW f l) z → c * dotF (chW g l) z - K * den ≤ W * dotF (chW f l) z:=fun z hz=>by
  rw [dotF_chW,dotF_chW,← sum_mul,← sum_mul]
  have hs:=hz.sum
  rw [chW_len] at hs
  have : K * den = ((List.range l.length).map fun i=>K * z i).sum:=by rw [sum_mul,hs]
  rw [this,← sum_sub]
  refine sum_le_map fun i hi=>?_
  have hil:=List.mem_range.1 hi
  have h1:=hfg _ (bAt_mem hil)
  have h2:=hz.each i (by rw [chW_len]; exact hil)
  rw [bAt_chW f l hil] at h2
  have h3:=(hf.each _ (List.mem_map.2 ⟨_,bAt_mem hil,rfl⟩)).2
  simp only at h2 h3
  have h4:=Int.mul_le_mul_of_nonneg_left h1 (show 0 ≤ z i by omega)
  rw [Int.mul_sub] at h4
  have e1 : z i * (c * g (bAt l i).b) = c * (z i * g (bAt l i).b):=by rw [← Int.mul_assoc,Int.mul_comm (z i) c,Int.mul_assoc]
  have e2 : z i * (W * f (bAt l i).b) = W * (z i * f (bAt l i).b):=by rw [← Int.mul_assoc,Int.mul_comm (z i) W,Int.mul_assoc]
  rw [e1,e2,Int.mul_comm (z i) K] at h4
  exact h4
 rw [x2,y2]
 have hS : c * dotF (chW g l) y - K * den ≤ W * dotF (chW f l) x:=by
  cases most with
  | false =>
    have h1:=key x x1
    have h2:=y3 x x1.chW
    simp only [leD,Bool.false_eq_true,if_false] at h2
    have:=Int.mul_le_mul_of_nonneg_left h2 hc
    omega
  | true =>
    have h1:=key y y1.chW
    have h2:=x3 y y1.chW
    simp only [leD,if_true] at h2
    have:=Int.mul_le_mul_of_nonneg_left h2 (show 0 ≤ W by omega)
    omega
 generalize dotF (chW g l) y = G at *
 generalize dotF (chW f l) x = F at *
 have hW : 0 ≤ W:=by omega
 have key2 : ∀ A B : Int,A * den - den + 1 ≤ G → F ≤ B * den → True:=fun _ _ _ _=>trivial
 have up : c * overD most G den * den ≤ c * G + W * (den - 1) ∧ W * F ≤ W * overD most F den * den + (if most then 0 else W * (den - 1)) ∧ (most = false → c * overD most G den * den ≤ c * G):=by
  have r1:=Int.emod_nonneg F (show den ≠ 0 by omega)
  have r2:=Int.emod_lt_of_pos F (show 0 < den by omega)
  have r3:=Int.mul_ediv_add_emod F den
  have r4:=Int.emod_nonneg G (show den ≠ 0 by omega)
  have r5:=Int.emod_lt_of_pos G (show 0 < den by omega)
  have r6:=Int.mul_ediv_add_emod G den
  have r7:=Int.emod_nonneg (F + (den - 1)) (show den ≠ 0 by omega)
  have r8:=Int.emod_lt_of_pos (F + (den - 1)) (show 0 < den by omega)
  have r9:=Int.mul_ediv_add_emod (F + (den - 1)) den
  have s4:=Int.emod_nonneg (G + (den - 1)) (show den ≠ 0 by omega)
  have s5:=Int.emod_lt_of_pos (G + (den - 1)) (show 0 < den by omega)
  have s6:=Int.mul_ediv_add_emod (G + (den - 1)) den
  have hcd : c * (den - 1) ≤ W * (den - 1):=Int.mul_le_mul_of_nonneg_right hcW (by omega)
  have hcd0 : 0 ≤ c * (den - 1):=Int.mul_nonneg hc (by omega)
  cases most with
  | false =>
    simp only [overD,Bool.false_eq_true,if_false]
    have g1 : G / den * den ≤ G:=by rw [Int.mul_comm]; omega
    have g2:=Int.mul_le_mul_of_nonneg_left g1 hc
    rw [← Int.mul_assoc] at g2
    have f1 : F ≤ F / den * den + (den - 1):=by rw [Int.mul_comm]; omega
    have f2:=Int.mul_le_mul_of_nonneg_left f1 hW
    rw [Int.mul_add,← Int.mul_assoc] at f2
    exact ⟨by omega,f2,fun _=>g2⟩
  | true =>
    simp only [overD,if_true]
    have g1 : (G + (den - 1)) / den * den ≤ G + (den - 1):=by rw [Int.mul_comm]; omega
    have g2:=Int.mul_le_mul_of_nonneg_left g1 hc
    rw [← Int.mul_assoc,Int.mul_add] at g2
    have f1 : F ≤ (F + (den - 1)) / den * den:=by rw [Int.mul_comm]; omega
    have f2:=Int.mul_le_mul_of_nonneg_left f1 hW
    rw [← Int.mul_assoc] at f2
    exact ⟨by omega,by omega,fun h=>by cases h⟩
 obtain ⟨u1,u2,u3⟩:=up
 generalize overD most G den = A at *
 generalize overD most F den = B at *
 refine Int.le_of_mul_le_mul_right (a:=den) ?_ (by omega)
 rw [Int.sub_mul,Int.sub_mul]
 rw [Int.mul_sub,Int.mul_one] at u1 u2
 cases most with
 | false =>
   simp only [Bool.false_eq_true,if_false] at u2
   have:=u3 rfl
   omega
 | true =>
   simp only [if_true] at u2
   omega
end Go.Proofs.Ytlbfkhikmigpbaa

namespace Go.Proofs.Ytlbfkhikmigpbaa
open Go Go.Oc
set_option linter.unusedSimpArgs false
set_option linter.unusedVariables false
set_option maxRecDepth 8000
def cE (r : Ru) (most : Bool) (k : Nat) : Int:=1000000 - endsD most (r.ends.getD k (0,0))
theorem cE_le {r : Ru} (h : RuG r) (most : Bool) {k : Nat} (hk : k < r.ends.length) : 0 ≤ cE r most k ∧ cE r most k ≤ 1000000:=by
 obtain ⟨e,he⟩:=opt_of_lt hk
 obtain ⟨g1,g2,g3⟩:=endOk_le (h.ends e (mem_of_opt he))
 have e2 : r.ends.getD k (0,0) = e:=by simp [List.getD_eq_getElem?_getD,he]
 unfold cE endsD
 rw [e2]
 split <;> omega
theorem over_scale {most : Bool} {a : Int} : a - 1000000 ≤ 1000000 * overD most a 1000000 ∧ ∀ x : Int,a ≤ 1000000 * x → overD most a 1000000 ≤ x:=by
 unfold overD
 split
 · refine ⟨by omega,fun x hx=>by omega⟩
 · refine ⟨by omega,fun x hx=>by omega⟩
theorem after_eq {r : Ru} {most : Bool} {T : List (List Int)} {k : Nat} (hk : k + 1 < r.ends.length) (y : Nat) : afterD r most T k y = overD most ((T.getD (k + 1) []).getD y 0 * cE r most k) 1000000:=by
 unfold afterD cE
 rw [if_neg (by omega)]
theorem next_scale {r : Ru} {most : Bool} {T : List (List Int)} {k st left : Nat} {val val' : Nat → Int} {last : Bool} {b c K : Int} (b0 : 0 ≤ b) (b1 : b ≤ 499) (hc : 0 ≤ c) (hcW : c ≤ 1000000) (hK : 0 ≤ K) (hs1 : lowestR r ≤ st) (hst : (st : Int) ≤ r.start) (hl1 : lowestR r ≤ left) (hl : (left : Int) ≤ r.start)
 (hA : ∀ y : Nat,lowestR r ≤ y → (y : Int) ≤ r.start → c * afterD r most T (k + 1) y - K ≤ 1000000 * afterD r most T k y) (hv : last = false → ∀ y : Nat,lowestR r ≤ y → (y : Int) ≤ r.start → c * val' y - K ≤ 1000000 * val y) :
 c * nextV r most T (k + 1) st val' last left b - K ≤ 1000000 * nextV r most T k st val last left b:=by
 obtain ⟨s0,s1⟩:=score_le b0 b1
 have hlow:=lowest_le r
 unfold nextV
 split
 · omega
 · split
   · exact hA st hs1 hst
   · rename_i hn
     have hy : lowestR r ≤ (left : Int) - scoreOf b:=by
      by_cases h0 : 0 < scoreOf b
      · by_cases h1 : (left : Int) - scoreOf b < lowestR r
        · exact absurd (by simp [h0,h1]) hn
        · omega
      · omega
     split
     · exact hA _ (by omega) (by omega)
     · rename_i hlast
       exact hv (by simpa using hlast) _ (by omega) (by omega)
theorem val_scale {r : Ru} (h : RuG r) (hH : RefH r) {most : Bool} {k st : Nat} {c K : Int} (hk : k + 1 < r.ends.length) (hc : 0 ≤ c) (hcW : c ≤ 1000000) (hK : 0 ≤ K) (hs1 : lowestR r ≤ st) (hst : (st : Int) ≤ r.start)
 (hA : ∀ y : Nat,lowestR r ≤ y → (y : Int) ≤ r.start → c * afterD r most (tabF r most) (k + 1) y - K ≤ 1000000 * afterD r most (tabF r most) k y) :
 ∀ n left : Nat,lowestR r ≤ left → (left : Int) ≤ r.start → c * valV r most (tabF r most) (k + 1) st n left - K - n * 1000000 ≤ 1000000 * valV r most (tabF r most) k st n left
 | 0,left,_,_=>by simp only [valV]; omega
 | n + 1, left, hl1, hl => by
   have ih:=val_scale h hH hk hc hcW hK hs1 hst hA n
   have v0:=vis_tab h most (show k < r.ends.length by omega) st hst
   have v1:=vis_tab h most hk st hst
   simp only [valV]
   generalize hf : nextV r most (tabF r most) k st (valV r most (tabF r most) k st n) (decide (n = 0)) left = f
   generalize hg : nextV r most (tabF r most) (k + 1) st (valV r most (tabF r most) (k + 1) st n) (decide (n = 0)) left = g
   have hfb : ∀ b,0 ≤ b → b ≤ 499 → 0 ≤ f b ∧ f b ≤ 1000000:=fun b b0 b1=>by rw [← hf]; exact nextV_le v0 hl b0 b1 fun _ x hx=>valV_le v0 h.aims n x hx
   have hgb : ∀ b,0 ≤ b → b ≤ 499 → 0 ≤ g b ∧ g b ≤ 1000000:=fun b b0 b1=>by rw [← hg]; exact nextV_le v1 hl b0 b1 fun _ x hx=>valV_le v1 h.aims n x hx
   have hfg : ∀ b,0 ≤ b → b ≤ 499 → c * g b - (K + n * 1000000) ≤ 1000000 * f b:=fun b b0 b1=>by
    rw [← hf,← hg]
    exact next_scale b0 b1 hc hcW (by omega) hs1 hst hl1 hl (fun y y1 y2=>by have:=hA y y1 y2; omega) fun _ y y1 y2=>by have:=ih y y1 y2; omega
   have hne : meansV r most g ≠ []:=by
    have:=h.aims.ne
    simpa [meansV] using this
   obtain ⟨a,ha,e⟩:=List.mem_map.1 (maxL_mem hne)
   have h1:=mean_scale (most:=most) (W:=1000000) (c:=c) (K:=K + n * 1000000) (h.aims.ch hfb a ha) (h.aims.ch hgb a ha) (hH.hi a ha) hc hcW fun x hx=>hfg x.b ((h.aims.beds a ha).2.2 x hx).1.1 ((h.aims.beds a ha).2.2 x hx).1.2
   have h2 : meanD most r.d (chW f a.beds) ≤ maxL (meansV r most f):=le_maxL (List.mem_map.2 ⟨a,ha,rfl⟩)
   have e : meanD most r.d (chW g a.beds) = maxL (meansV r most g):=e
   rw [e] at h1
   omega
theorem tab_first {r : Ru} (h : RuG r) (hH : RefH r) (most : Bool) : ∀ j k : Nat,k + j + 1 = r.ends.length → ∀ x : Nat,lowestR r ≤ x → (x : Int) ≤ r.start →
 afterD r most (tabF r most) k x - 4 * j ≤ ((tabF r most).getD k []).getD x 0
 | 0, k, hk, x, _, hx => by
   have:=(tabF_bound h most (show k < r.ends.length by omega) hx).1
   have e : afterD r most (tabF r most) k x = 0:=by unfold afterD; rw [if_pos (by omega)]
   omega
 | j + 1, k, hk, x, hx1, hx => by
   have ih:=tab_first h hH most j (k + 1) (by omega)
   have hk1 : k + 1 < r.ends.length:=by omega
   obtain ⟨c0,c1⟩:=cE_le h most (show k < r.ends.length by omega)
   have hA : ∀ y : Nat,lowestR r ≤ y → (y : Int) ≤ r.start → cE r most k * afterD r most (tabF r most) (k + 1) y - (1000000 * (4 * j) + 1000000) ≤ 1000000 * afterD r most (tabF r most) k y:=fun y y1 y2=>by
    have h1:=ih y y1 y2
    rw [after_eq hk1 y]
    have h2:=(over_scale (most:=most) (a:=((tabF r most).getD (k + 1) []).getD y 0 * cE r most k)).1
    have h3:=Int.mul_le_mul_of_nonneg_left h1 c0
    rw [Int.mul_sub,Int.mul_comm _ (((tabF r most).getD (k + 1) []).getD y 0)] at h3
    have h4 : cE r most k * (4 * (j : Int)) ≤ 1000000 * (4 * (j : Int)):=Int.mul_le_mul_of_nonneg_right c1 (by omega)
    omega
   have hv:=val_scale h hH hk1 c0 c1 (K:=1000000 * (4 * j) + 1000000) (by omega) hx1 hx hA 3 x hx1 hx
   rw [after_eq hk1 x]
   have t0:=tabF_val (r:=r) most (show k < r.ends.length by omega) hx
   have t1:=tabF_val (r:=r) most hk1 hx
   rw [if_neg (by omega)] at t0 t1
   rw [t0,t1]
   have ho:=(over_scale (most:=most) (a:=valV r most (tabF r most) (k + 1) x 3 x * cE r most k)).2 (valV r most (tabF r most) k x 3 x + 4 * ((j + 1 : Nat) : Int)) (by rw [Int.mul_comm]; omega)
   omega
theorem toss_tab (r : Ru) (most : Bool) : tossF r most = ((tabF r most).getD 0 []).getD r.start.toNat 0:=rfl
theorem toss_first {r : Ru} (h : RuG r) (hH : RefH r) (most : Bool) : tossS r most - 4 * r.ends.length ≤ tossF r most:=by
 have s2:=h.s2
 have e1:=h.e1
 have hlow:=lowest_le r
 have:=tab_first h hH most (r.ends.length - 1) 0 (by omega) r.start.toNat (by omega) (by omega)
 unfold tossS tossF
 omega
theorem toss_le {r : Ru} (h : RuG r) (hH : RefH r) : (0 ≤ tossF r false ∧ tossF r false ≤ tossF r true ∧ tossF r true ≤ 1000000) ∧ 0 ≤ tossS r false ∧ tossS r false ≤ tossS r true ∧ tossS r true ≤ 1000000:=by
 have s2:=h.s2
 have e1:=h.e1
 have b0:=tabF_bound h false (k:=0) (y:=r.start.toNat) (by omega) (by omega)
 have b1:=tabF_bound h true (k:=0) (y:=r.start.toNat) (by omega) (by omega)
 have hm:=tab_mono h hH r.ends.length (Nat.le_refl _) 0 r.start.toNat (by omega)
 have v0:=vis_tab h false (show 0 < r.ends.length by omega) r.start.toNat (by omega)
 have v1:=vis_tab h true (show 0 < r.ends.length by omega) r.start.toNat (by omega)
 have a0:=after_le v0 false (left:=r.start.toNat) (by omega)
 have a1:=after_le v1 true (left:=r.start.toNat) (by omega)
 have am:=v0.after_mono (m1:=false) (m2:=true) (by simp) (rowle_tab h hH 0) r.start.toNat (by omega)
 unfold tossS tossF
 unfold tabF at hm b0 b1 a0 a1 am ⊢
 omega
theorem toss_sure {r : Ru} (h : RuG r) (hs : r.ends[0]? = some (1000000,1000000)) (most : Bool) : tossS r most = 0:=by
 unfold tossS afterD
 split
 · rfl
 · have e : r.ends.getD 0 (0,0) = (1000000,1000000):=by simp [List.getD_eq_getElem?_getD,hs]
   rw [e]
   cases most <;> simp [endsD,overD]
end Go.Proofs.Ytlbfkhikmigpbaa

namespace Go.Proofs.Ytlbfkhikmigpbaa
open Go Go.Oc
set_option linter.unusedSimpArgs false
set_option linter.unusedVariables false
set_option maxRecDepth 8000
set_option maxHeartbeats 4000000
def sureR (r : Ru) : Ru:=⟨r.d,r.aims,r.start,r.out,r.ends.set 0 (1000000,1000000)⟩
theorem sureR_ok {r : Ru} (h : ruE r = 0) : ruE (sureR r) = 0:=by
 unfold ruE at h ⊢
 split at h
 · rename_i h1; exact absurd h h1
 · rename_i h1
   have h1' : ¬ checkV (sureR r).d (sureR r).aims ≠ 0:=h1
   rw [if_neg h1']
   split at h
   · rename_i h2
     simp only [Bool.and_eq_true,decide_eq_true_eq] at h2
     obtain ⟨⟨⟨⟨⟨⟨⟨a1,a2⟩,a3⟩,a4⟩,a5⟩,a6⟩,a7⟩,a8⟩:=h2
     refine if_pos ?_
     simp only [Bool.and_eq_true,decide_eq_true_eq,sureR,List.length_set]
     refine ⟨⟨⟨⟨⟨⟨⟨decide_eq_true a1,decide_eq_true a2⟩,decide_eq_true a3⟩,decide_eq_true a4⟩,by simpa using a5⟩,by simpa using a6⟩,?_⟩,decide_eq_true ?_⟩
     · rw [List.all_eq_true] at a7 ⊢
       intro x hx
       rcases List.mem_or_eq_of_mem_set hx with hx | hx
       · exact a7 x hx
       · subst hx; decide
     · unfold lastE at a8 ⊢
       simp only [List.length_set,List.getD_eq_getElem?_getD] at a8 ⊢
       by_cases e : r.ends.length - 1 = 0
       · rw [e,List.getElem?_set_self (by omega)]; rfl
       · rw [List.getElem?_set_ne (by omega)]; exact a8
   · cases h
theorem mod_len (m : Mt) (hw : WfM m) : (ruM m).aims.length ≤ 1000000 ∧ (ruM m).ends.length ≤ 1000000 ∧ ∀ a ∈ (ruM m).aims,a.beds.length ≤ 1000000:=by
 refine ⟨?_,?_,fun a ha=>?_⟩
 · have : aimN m ≤ 3:=by unfold aimN; omega
   simp only [ruM,List.length_map,List.length_range]; omega
 · simp only [ruM,List.length_append,List.length_map,List.length_take,List.length_singleton]; omega
 · obtain ⟨i,_,rfl⟩:=List.mem_map.1 (show a ∈ (List.range (aimN m)).map (aimM m) from ha)
   have:=(aimM_ok m hw i).2.2
   omega
theorem eqP52 : eqN Try.prog 52 = some 2:=by kernel_rfl
theorem first_law (m : Mt) (hw : WfM m) (sure : Bool) : ACalls Try.prog 11 [.ag (mtC m),.bo sure] (.bo true):=by
 have hkn:=known_ok
 have hmr:=mrules_new m hw
 have hE:=ruM_ok m hw
 have hwR:=ruM_wf m hw
 have hone:=one_ok 1000000
 obtain ⟨l1,l2,l3⟩:=mod_len m hw
 have hn1 : 1 ≤ (ruM m).ends.length:=by simp [ruM]
 generalize ruM m = r at *
 refine acalls_st (rs:=[.bo true]) [.tmp 4] Try.func11 rfl (by kernel_rfl) Try.ntmps11 rfl (by simp) rfl fun C vs=>?_
 repeat refine zq ?_
 refine zb (by kernel_rfl) fun K hK=>?_
 simp only [go_sem]
 (try simp (disch:=omega) only [zI])
 repeat first | intro _ | refine ⟨by omega,?_⟩ | refine ⟨⟨by omega,by omega⟩,?_⟩
 refine hK _ ?_
 clear hK K
 refine zw (zk [1,2]) ?_
 simp only [go_sem]
 repeat refine zq ?_
 refine awp_long ?_
 refine sops_take 2 (by kernel_rfl) fun K hK=>?_
 simp only [go_sem,List.take_succ_cons,List.take_zero,List.drop_succ_cons,List.drop_zero,List.append_eq,List.cons_append,List.nil_append]
 (try simp (disch:=omega) only [zI])
 refine xcall_new hmr [(196,900)] rfl (by rfl) (by rfl) (by rfl) (by rfl) (by rfl) ?_
 simp only [go_sem,idK,backA,backC,backL,pinOf,lendKey]
 repeat first | intro _ | refine ⟨by omega,?_⟩ | refine ⟨⟨by omega,by omega⟩,?_⟩
 refine hK _ rfl ?_
 clear hK K
 refine sops_end (by kernel_rfl) fun K hK=>?_
 simp only [go_sem,List.drop_succ_cons,List.drop_zero,List.append_eq,List.cons_append,List.nil_append]
 (try simp (disch:=omega) only [zI])
 repeat first | intro _ | refine ⟨by omega,?_⟩ | refine ⟨⟨by omega,by omega⟩,?_⟩
 refine hK _ ?_
 clear hK K
 refine zw (zk [1,5]) ?_
 simp only [go_sem]
 repeat refine zq ?_
 refine zb (by kernel_rfl) fun K hK=>?_
 simp only [go_sem]
 (try simp (disch:=omega) only [zI])
 repeat first | intro _ | refine ⟨by omega,?_⟩ | refine ⟨⟨by omega,by omega⟩,?_⟩
 refine hK _ ?_
 clear hK K
 refine zw (zk [1,5,15]) ?_
 simp only [go_sem]
 repeat refine zq ?_
 refine awp_joinV (n:=148) (fun (r' : Ru) vs=>[(1,.r (.bo sure)),(5,.pt 5 (vs 5) 0)]) (fun r' vs=>[(5,.box ((ruC r').map .r))]) (fun r'=>r' = if sure then sureR r else r) (fun _ h=>h) ?_ ?_
 · repeat refine zq ?_
   refine zc rfl (fun hc=>?_) (fun hc=>?_) <;> (try simp only [go_sem] at hc)
   · have hs : sure = true:=by simpa using hc
     subst hs
     obtain ⟨e0,he0⟩:=opt_of_lt (show 0 < r.ends.length by omega)
     repeat refine zq ?_
     refine zg follows (by decide +kernel) (by kernel_rfl) fun K hK=>?_
     simp only [go_sem,he0]
     (try simp (disch:=omega) only [zI])
     refine zh (hone) rfl (by simp only [go_sem,i64,ints,he0,spanR,List.drop_succ_cons,List.drop_zero]) (by simp only [go_sem,i64,ints,he0,spanR,List.drop_succ_cons,List.drop_zero]) (by first | exact .inl rfl | exact .inr rfl) ?_
     (try simp only [go_sem,he0,spanR,List.drop_succ_cons,List.drop_zero])
     (try simp (disch:=omega) only [zI])
     repeat first | intro _ | refine ⟨by omega,?_⟩ | refine ⟨⟨by omega,by omega⟩,?_⟩
     refine hK _ ?_
     clear hK K
     try simp only [go_sem]
     refine ⟨sureR r,rfl,fitV_sub (sub_frzB 5 4 900 (by omega) (by omega) rfl rfl rfl (by simp)) (zj [2] (by try simp only [go_sem]) ?_)⟩
     try simp only [go_sem]
     rw [List.take_of_length_le (by simp),show [i64 1000000,i64 1000000] = spanR (1000000,1000000) from rfl,← List.map_set]
     rfl
   · have hs : sure = false:=by simpa using hc
     subst hs
     refine zx ?_
     try simp only [go_sem]
     refine ⟨r,rfl,fitV_sub (sub_frzB 5 4 900 (by omega) (by omega) rfl rfl rfl (by simp)) (zj [2] (by try simp only [go_sem]) ?_)⟩
     try simp only [go_sem]
 intro r' vs hr'
 refine zw (sub_frzP 5 5 (ruC r') (by omega) rfl rfl) ?_
 refine zw (zk [1,5]) ?_
 simp only [go_sem]
 have hE' : ruE r' = 0:=by rw [hr']; split; exact sureR_ok hE; exact hE
 have hwR' : WfR r':=by rw [hr']; split; exact ⟨hwR.law⟩; exact hwR
 have hl' : r'.aims.length ≤ 1000000 ∧ r'.ends.length ≤ 1000000 ∧ ∀ a ∈ r'.aims,a.beds.length ≤ 1000000:=by
  rw [hr']; split
  · exact ⟨l1,by simpa [sureR] using l2,l3⟩
  · exact ⟨l1,l2,l3⟩
 have hs0 : sure = true → r'.ends[0]? = some (1000000,1000000):=fun h=>by
  rw [hr',if_pos h]
  simp only [sureR]
  rw [List.getElem?_set_self (by omega)]
 clear hr' hmr hE hwR l1 l2 l3 hn1
 obtain ⟨l1,l2,l3⟩:=hl'
 obtain ⟨hG,hn1,_,_⟩:=ruG_of hE'
 have hH:=refH_of hE'
 have hrl:=rules_ok r' l1 l2 l3
 have hto:=toss_ok r' hwR'
 have hta:=table_ok r' hwR'
 have s2:=hG.s2
 have s40:=hG.s40
 have h10:=hG.h10
 obtain ⟨⟨b1,b2,b3⟩,b4,b5,b6⟩:=toss_le hG hH
 have b7:=toss_first hG hH false
 have b8:=toss_first hG hH true
 have hsu0 : sure = true → tossS r' false = 0:=fun h=>toss_sure hG (hs0 h) false
 have hsu1 : sure = true → tossS r' true = 0:=fun h=>toss_sure hG (hs0 h) true
 have hT0:=tabF_row (r:=r') false (show 0 < r'.ends.length by omega)
 have hT1:=tabF_row (r:=r') true (show 0 < r'.ends.length by omega)
 obtain ⟨row0,hr0⟩ : ∃ row,(tabF r' false)[0]? = some row:=opt_of_lt (by rw [tabF_len]; omega)
 obtain ⟨row1,hr1⟩ : ∃ row,(tabF r' true)[0]? = some row:=opt_of_lt (by rw [tabF_len]; omega)
 have e0 : (tabF r' false).getD 0 [] = row0:=by simp [List.getD_eq_getElem?_getD,hr0]
 have e1 : (tabF r' true).getD 0 [] = row1:=by simp [List.getD_eq_getElem?_getD,hr1]
 have hrl0 : row0.length = r'.start.toNat + 1:=by rw [← e0,hT0,rowV_len]
 have hrl1 : row1.length = r'.start.toNat + 1:=by rw [← e1,hT1,rowV_len]
 have t0 : tossF r' false = row0.getD r'.start.toNat 0:=by rw [← e0]; rfl
 have t1 : tossF r' true = row1.getD r'.start.toNat 0:=by rw [← e1]; rfl
 have hT0l:=tabF_len r' false
 have hT1l:=tabF_len r' true
 obtain ⟨v0,hv0⟩:=opt_of_lt (show r'.start.toNat < row0.length by omega)
 obtain ⟨v1,hv1⟩:=opt_of_lt (show r'.start.toNat < row1.length by omega)
 have g0 : tossF r' false = v0:=by rw [t0]; simp [List.getD_eq_getElem?_getD,hv0]
 have g1 : tossF r' true = v1:=by rw [t1]; simp [List.getD_eq_getElem?_getD,hv1]
 simp only [tossV,tabsV,if_pos hE',hE',g0,g1] at hto hta
 rw [g0] at b1 b2 b7
 rw [g1] at b2 b3 b8
 generalize tossS r' false = u0 at *
 generalize tossS r' true = u1 at *
 generalize tabF r' false = T0 at *
 generalize tabF r' true = T1 at *
 clear hT0 hT1 t0 t1 e0 e1 g0 g1
 repeat refine zq ?_
 refine zb (by kernel_rfl) fun K hK=>?_
 simp only [go_sem]
 (try simp (disch:=omega) only [zI])
 refine zh (hrl) rfl (by simp only [go_sem,i64,ints]) (by simp only [go_sem,i64,ints]) (by first | exact .inl rfl | exact .inr rfl) ?_
 (try simp only [go_sem])
 (try simp (disch:=omega) only [zI])
 refine zh (hto) rfl (by simp only [go_sem,i64,ints]) (by simp only [go_sem,i64,ints]) (by first | exact .inl rfl | exact .inr rfl) ?_
 (try simp only [go_sem])
 (try simp (disch:=omega) only [zI])
 repeat first | intro _ | refine ⟨by omega,?_⟩ | refine ⟨⟨by omega,by omega⟩,?_⟩
 refine hK _ ?_
 clear hK K
 refine zw (sub_frzP 6 6 [i64 v0,i64 v1] (by omega) rfl rfl) ?_
 refine zw (zk [1,5,6,7,8]) ?_
 simp only [go_sem]
 refine zw (sub_frzP 7 7 [i64 u0,i64 u1] (by omega) rfl rfl) ?_
 refine zw (zk [1,5,6,7,8]) ?_
 simp only [go_sem]
 repeat refine zq ?_
 refine zb (by kernel_rfl) fun K hK=>?_
 simp only [go_sem]
 (try simp (disch:=omega) only [zI])
 refine zh (hrl) rfl (by simp only [go_sem,i64,ints]) (by simp only [go_sem,i64,ints]) (by first | exact .inl rfl | exact .inr rfl) ?_
 (try simp only [go_sem])
 (try simp (disch:=omega) only [zI])
 refine zh (hta) rfl (by simp only [go_sem,i64,ints]) (by simp only [go_sem,i64,ints]) (by first | exact .inl rfl | exact .inr rfl) ?_
 (try simp only [go_sem])
 (try simp (disch:=omega) only [zI])
 repeat first | intro _ | refine ⟨by omega,?_⟩ | refine ⟨⟨by omega,by omega⟩,?_⟩
 refine hK _ ?_
 clear hK K
 refine zw (zk [1,5,6,7,8,9,10,11]) ?_
 simp only [go_sem]
 have c1 : decide ((T0.length : Int) < 1) = false:=by simp; omega
 have c2 : decide ((T1.length : Int) < 1) = false:=by simp; omega
 have c1' : ¬ T0.length < 1:=by omega
 have c2' : ¬ T1.length < 1:=by omega
 have c3 : IntKind.i64.wrap (r'.start + 1) = r'.start + 1:=by rw [zI] <;> omega
 have c4 : ((row0.length : Int) != r'.start + 1) = false:=by simp; omega
 have c5 : ((row1.length : Int) != r'.start + 1) = false:=by simp; omega
 have c6 : 0 < T0.length:=by omega
 have c7 : 0 < T1.length:=by omega
 repeat refine zq ?_
 refine zg follows (by decide +kernel) (by kernel_rfl) fun K hK=>?_
 simp only [go_sem,List.append_eq,List.cons_append,List.nil_append,bne_self_eq_false,c1,c2,c1',c2',c3,c4,c5,c6,c7,hr0,hr1]
 (try simp (disch:=omega) only [zI])
 repeat first | intro _ | refine ⟨by omega,?_⟩ | refine ⟨⟨by omega,by omega⟩,?_⟩
 refine hK _ ?_
 clear hK K
 refine zw (zk [1,5,6,7,9,10,69]) ?_
 simp only [go_sem]
 repeat refine zq ?_
 refine zc rfl (fun hc=>?_) (fun hc=>?_) <;> (try simp only [go_sem] at hc)
 refine zx ?_
 try simp only [go_sem]
 have d1 : IntKind.i64.wrap (4 * (r'.ends.length : Int)) = 4 * (r'.ends.length : Int):=by rw [zI] <;> omega
 repeat refine zq ?_
 refine zb (by kernel_rfl) fun K hK=>?_
 simp only [go_sem,d1]
 (try simp (disch:=omega) only [zI])
 repeat first | intro _ | refine ⟨by omega,?_⟩ | refine ⟨⟨by omega,by omega⟩,?_⟩
 refine hK _ ?_
 clear hK K
 refine zw (zk [1,5,6,7,9,10,12]) ?_
 simp only [go_sem]
 have f1 : decide (v1 < v0) = false:=by simpa using b2
 have f2 : decide (u1 < u0) = false:=by simpa using b5
 have f3 : decide (u0 < 0) = false:=by simpa using b4
 have f4 : decide (1000000 < v1) = false:=by simpa using b3
 have f5 : IntKind.i64.wrap (u0 - 4 * (r'.ends.length : Int)) = u0 - 4 * (r'.ends.length : Int):=by rw [zI] <;> omega
 have f6 : IntKind.i64.wrap (u1 - 4 * (r'.ends.length : Int)) = u1 - 4 * (r'.ends.length : Int):=by rw [zI] <;> omega
 have f7 : decide (v0 < u0 - 4 * (r'.ends.length : Int)) = false:=by simpa using b7
 have f8 : decide (v1 < u1 - 4 * (r'.ends.length : Int)) = false:=by simpa using b8
 have f9 : r'.start.toNat < row0.length:=by omega
 have f10 : r'.start.toNat < row1.length:=by omega
 have f11 : 0 ≤ r'.start:=by omega
 repeat refine zq ?_
 refine zg follows (by decide +kernel) (by kernel_rfl) fun K hK=>?_
 simp only [go_sem,List.append_eq,List.cons_append,List.nil_append,bne_self_eq_false,c6,c7,hr0,hr1,hv0,hv1,f1,f2,f3,f4,f5,f6,f7,f8,f9,f10,f11]
 (try simp (disch:=omega) only [zI])
 repeat first | intro _ | refine ⟨by omega,?_⟩ | refine ⟨⟨by omega,by omega⟩,?_⟩
 refine hK _ ?_
 clear hK K
 refine zw (zk [1,7,137]) ?_
 simp only [go_sem]
 repeat refine zq ?_
 refine zc rfl (fun hc=>?_) (fun hc=>?_) <;> (try simp only [go_sem] at hc)
 refine zx ?_
 try simp only [go_sem]
 cases sure with
 | false =>
   repeat refine zq ?_
   refine zb (by kernel_rfl) fun K hK=>?_
   simp only [go_sem]
   (try simp (disch:=omega) only [zI])
   refine zh (hkn) rfl (by simp only [go_sem,i64,ints]) (by simp only [go_sem,i64,ints]) (by first | exact .inl rfl | exact .inr rfl) ?_
   (try simp only [go_sem])
   (try simp (disch:=omega) only [zI])
   repeat first | intro _ | refine ⟨by omega,?_⟩ | refine ⟨⟨by omega,by omega⟩,?_⟩
   refine hK _ ?_
   clear hK K
   refine zw (zk [4]) ?_
   simp only [go_sem]
   refine ze ?_
   simp only [go_sem]
 | true =>
   have z0:=hsu0 rfl
   have z1:=hsu1 rfl
   subst z0
   subst z1
   repeat refine zq ?_
   refine zb (by kernel_rfl) fun K hK=>?_
   simp only [go_sem,eqP52,cmpL,beq_self_eq_true,Bool.and_self]
   (try simp (disch:=omega) only [zI])
   refine zh (hkn) rfl (by simp only [go_sem,i64,ints]) (by simp only [go_sem,i64,ints]) (by first | exact .inl rfl | exact .inr rfl) ?_
   (try simp only [go_sem])
   (try simp (disch:=omega) only [zI])
   repeat first | intro _ | refine ⟨by omega,?_⟩ | refine ⟨⟨by omega,by omega⟩,?_⟩
   refine hK _ ?_
   clear hK K
   refine zw (zk [4]) ?_
   simp only [go_sem]
   refine ze ?_
   simp only [go_sem]
end Go.Proofs.Ytlbfkhikmigpbaa

namespace Go.Oc
open Go Go.RowKit Go.ChangeShapes Go.WideShapes
inductive Sh where
 | int (k : IntKind)
 | bool
 | sl (es : List Sh)
def fieldsSh (P : Program) (sh : TypeId → Option (List Sh)) : List Field → Nat → Option (List Sh)
 | [],_=>some []
 | f :: fs, o =>
   match sh f.type with
   | some ss=>if f.offset == o && ss.length == P.cellsOf f.type then match fieldsSh P sh fs (o + ss.length) with | some q=>some (ss ++ q) | none=>none else none
   | none=>none
def shape (P : Program) : Nat → TypeId → Option (List Sh)
 | 0,_=>none
 | n + 1, t =>
   match P.underlying t with
   | some (.int k)=>some [.int k]
   | some .bool=>some [.bool]
   | some (.slice e) =>
     match shape P n e with
     | some ss=>if ss.length == P.cellsOf e && decide (0 < ss.length) then some [.sl ss] else none
     | none=>none
   | some (.array m e) =>
     match shape P n e with
     | some ss=>if ss.length == P.cellsOf e && P.cellsOf t == m * ss.length then some (List.replicate m ss).flatten else none
     | none=>none
   | some (.struct fs) =>
     match fieldsSh P (shape P n) fs.toList 0 with
     | some ss=>if ss.length == P.cellsOf t then some ss else none
     | none=>none
   | _=>none
mutual
def Fits : Sh → RV → Prop
 | .int k,x=>∃ n,x = .it k n ∧ (Lit.int k n).wf = true
 | .bool,x=>∃ b,x = .bo b
 | .sl ss,x=>∃ es,x = .sl ss.length es ∧ FitsE ss es
def FitsL : List Sh → List RV → Prop
 | [],xs=>xs = []
 | s :: ss,xs=>∃ y ys,xs = y :: ys ∧ Fits s y ∧ FitsL ss ys
def FitsE (ss : List Sh) : List (List RV) → Prop
 | []=>True
 | e :: es=>FitsL ss e ∧ FitsE ss es
end
theorem fitsL_append : ∀ {s1 s2 : List Sh} {x1 x2 : List RV},FitsL s1 x1 → FitsL s2 x2 → FitsL (s1 ++ s2) (x1 ++ x2)
 | [],_,_,_,h1,h2=>by simp only [FitsL] at h1; subst h1; simpa using h2
 | s :: ss, s2, x1, x2, h1, h2 => by
   simp only [FitsL] at h1
   obtain ⟨y,ys,rfl,h3,h4⟩:=h1
   simp only [List.cons_append,FitsL]
   exact ⟨y,_,rfl,h3,fitsL_append h4 h2⟩
theorem fitsL_length : ∀ {ss : List Sh} {xs : List RV},FitsL ss xs → xs.length = ss.length
 | [],_,h=>by simp only [FitsL] at h; subst h; rfl
 | s :: ss, _, h => by
   simp only [FitsL] at h
   obtain ⟨y,ys,rfl,_,h⟩:=h
   simp [fitsL_length h]
theorem fitsE_of : ∀ {ss : List Sh} {es : List (List RV)},(∀ e ∈ es,FitsL ss e) → FitsE ss es
 | _,[],_=>by simp only [FitsE]
 | ss,e :: es,h=>by simp only [FitsE]; exact ⟨h e (by simp),fitsE_of fun x hx=>h x (by simp [hx])⟩
theorem choice {α : Type} {Q : Nat → α → Prop} : ∀ (n : Nat),(∀ i,i < n → ∃ x,Q i x) → ∃ xs : List α,xs.length = n ∧ ∀ i x,xs[i]? = some x → Q i x
 | 0,_=>⟨[],rfl,by simp⟩
 | n + 1, h => by
   obtain ⟨xs,hl,hx⟩:=choice n fun i hi=>h i (by omega)
   obtain ⟨y,hy⟩:=h n (by omega)
   refine ⟨xs ++ [y],by simp [hl],fun i x hi=>?_⟩
   by_cases h1 : i < n
   · rw [List.getElem?_append_left (by omega)] at hi; exact hx i x hi
   · rw [List.getElem?_append_right (by omega)] at hi
     have : i = n:=by have:=(List.getElem?_eq_some_iff.1 hi).1; simp at this; omega
     subst this
     simp [hl] at hi
     exact hi ▸ hy
section
variable {w : World} {P : Program}
theorem cells?_get {base n : Nat} {a : Addr} {cs : List Value} (h : w.cells? base a n = some cs) : cs.length = n ∧ ∀ i,i < n → w.cell? (a.add i) = cs[i]?:=by
 unfold World.cells? at h
 split at h
 · exact ⟨by simpa using mapM_some_length h,fun i hi=>mapM_some_get h i i (by simp [hi])⟩
 · cases h
theorem cell_lt {a : Addr} {v : Value} (h : w.cell? a = some v) : a.block < w.heap.size:=by
 refine Decidable.byContradiction fun hn=>?_
 have : w.heap[a.block]? = none:=by simp; omega
 simp [World.cell?,this] at h
def old (w : World) : Nat → Prop:=fun b=>b < w.heap.size
theorem relC_of_cells {xs : List RV} {cs : List Value} {ad : Addr} (hV : RV.relV w (old w) xs cs) (hone : ∀ u ∈ cs,u.oneCell' = true) (hc : ∀ i,i < cs.length → w.cell? (ad.add i) = cs[i]?) : RV.relC w (old w) xs ad 0:=by
 refine RV.relC_of_get fun i x hx=>?_
 obtain ⟨u,hu,hr⟩:=RV.relV_get hV hx
 have hi:=(List.getElem?_eq_some_iff.1 hu).1
 refine ⟨u,?_,hone u (List.mem_of_getElem? hu),hr⟩
 rw [Nat.zero_add,hc i hi,hu]
variable {H : Type} {enc : TypeId × Value → H} {base : Nat} {spare : Nat → Bool} {held : Bool}
def Good3 (w : World) (ss : List Sh) (cs : List Value) : Prop:=∃ xs,FitsL ss xs ∧ RV.relV w (old w) xs cs ∧ ∀ u ∈ cs,u.oneCell' = true
theorem good3_append {s1 s2 : List Sh} {c1 c2 : List Value} (h1 : Good3 w s1 c1) (h2 : Good3 w s2 c2) : Good3 w (s1 ++ s2) (c1 ++ c2):=by
 obtain ⟨x1,f1,r1,o1⟩:=h1
 obtain ⟨x2,f2,r2,o2⟩:=h2
 refine ⟨x1 ++ x2,fitsL_append f1 f2,RV.relV_append r1 r2,fun u hu=>?_⟩
 rcases List.mem_append.1 hu with hu | hu
 · exact o1 u hu
 · exact o2 u hu
theorem good3_length {ss : List Sh} {cs : List Value} (h : Good3 w ss cs) : cs.length = ss.length:=by
 obtain ⟨xs,f,r,_⟩:=h
 rw [RV.relV_length r,fitsL_length f]
theorem trod_fits : ∀ (fuel n : Nat) (t : TypeId) (cs : List Value) (x : DataW H × List MemPlace) (ss : List Sh),DataW.trod enc P w base spare held fuel t cs = some x → shape P n t = some ss → Good3 w ss cs:=by
 intro fuel
 induction fuel with
 | zero=>intro n t cs x ss h; simp [DataW.trod] at h
 | succ fuel ih =>
   intro n t cs x ss h hs
   cases n with
   | zero=>simp [shape] at hs
   | succ n =>
     unfold shape at hs
     split at hs
     · rename_i k ht
       injection hs with hs; subst hs
       obtain ⟨m,rfl,_,hw⟩:=DataW.trod_int ht h
       exact ⟨[.it k m],by simp only [FitsL,Fits]; exact ⟨_,[],rfl,⟨m,rfl,hw⟩,rfl⟩,by simp only [RV.relV,RV.rel]; exact ⟨_,[],rfl,rfl,rfl⟩,by simp [Value.oneCell']⟩
     · rename_i ht
       injection hs with hs; subst hs
       obtain ⟨b,rfl,_⟩:=DataW.trod_bool ht h
       exact ⟨[.bo b],by simp only [FitsL,Fits]; exact ⟨_,[],rfl,⟨b,rfl⟩,rfl⟩,by simp only [RV.relV,RV.rel]; exact ⟨_,[],rfl,rfl,rfl⟩,by simp [Value.oneCell']⟩
     · rename_i e ht
       split at hs
       · rename_i es hes
         split at hs
         · rename_i hc
           simp only [Bool.and_eq_true,beq_iff_eq,decide_eq_true_eq] at hc
           injection hs with hs; subst hs
           rcases DataW.trod_slice ht h with ⟨rfl,_⟩ | ⟨a,len,cap,elems,rest,m,hm,rfl,_,_,hlc,hcm,hel,hget,_⟩
           · refine ⟨[.sl es.length []],?_,?_,by simp [Value.oneCell']⟩
             · simp only [FitsL,Fits]
               exact ⟨_,[],rfl,⟨[],rfl,by simp only [FitsE]⟩,rfl⟩
             · simp only [RV.relV,RV.rel]
               exact ⟨_,[],rfl,⟨none,0,rfl,Nat.le_refl _,Nat.zero_le _,fun h=>absurd rfl h⟩,rfl⟩
           · injection hm with hm; subst hm
             have hall : ∀ i,i < len → ∃ e',FitsL es e' ∧ e'.length = es.length ∧ RV.relC w (old w) e' (a.add (i * es.length)) 0 ∧ a.block < w.heap.size:=fun i hi=>by
              have h1:=hget i hi
              have h2 : i < elems.length:=by omega
              rw [List.getElem?_eq_getElem h2] at h1
              obtain ⟨ci,hci,htr⟩:=Option.bind_eq_some_iff.1 h1
              rw [← hc.1] at hci
              obtain ⟨hl,hcell⟩:=cells?_get hci
              obtain ⟨xs,f,r,o⟩:=ih n e ci _ es htr hes
              refine ⟨xs,f,fitsL_length f,relC_of_cells r o (fun j hj=>hcell j (by omega)),?_⟩
              have h3:=hcell 0 hc.2
              have h4 : 0 < ci.length:=by omega
              rw [List.getElem?_eq_getElem h4] at h3
              have:=cell_lt h3
              rwa [block_add,block_add] at this
             obtain ⟨els,hlen,hels⟩:=choice len hall
             refine ⟨[.sl es.length els],?_,?_,by simp [Value.oneCell']⟩
             · simp only [FitsL,Fits]
               refine ⟨_,[],rfl,⟨els,rfl,fitsE_of fun e' he'=>?_⟩,rfl⟩
               obtain ⟨i,hi⟩:=List.getElem?_of_mem he'
               exact (hels i e' hi).1
             · simp only [RV.relV,RV.rel]
               refine ⟨_,[],rfl,⟨some a,cap,by rw [hlen],by omega,hcm,fun hne=>?_⟩,rfl⟩
               obtain ⟨e0,he0⟩ : ∃ e0,els[0]? = some e0:=by
                cases els with
                | nil=>exact absurd rfl hne
                | cons a l=>exact ⟨a,rfl⟩
               refine ⟨a,rfl,(hels 0 e0 he0).2.2.2,RV.relE_of_get fun i e' he'=>?_⟩
               obtain ⟨_,q1,q2,_⟩:=hels i e' he'
               exact ⟨q1,RV.relC_unbase _ q2⟩
         · cases hs
       · cases hs
     · rename_i m e ht
       split at hs
       · rename_i es hes
         split at hs
         · rename_i hc
           simp only [Bool.and_eq_true,beq_iff_eq] at hc
           injection hs with hs; subst hs
           obtain ⟨xs,fm,hm,_,hcl,hxl,hget⟩:=DataW.trod_array ht h
           injection hm with hm; subst hm
           have key : ∀ j,j ≤ m → Good3 w (List.replicate j es).flatten (cs.take (j * es.length)):=by
            intro j
            induction j with
            | zero=>intro _; exact ⟨[],by simp [FitsL],by simp [RV.relV],by simp⟩
            | succ j ihj =>
              intro hj
              have h1:=hget j (by omega)
              have h2 : j < xs.length:=by omega
              rw [List.getElem?_eq_getElem h2,← hc.1] at h1
              have h3:=ih n e _ _ es h1 hes
              have:=good3_append (ihj (by omega)) h3
              rw [← List.take_add] at this
              rw [List.replicate_succ',List.flatten_append,Nat.add_mul]
              simpa using this
           have:=key m (Nat.le_refl _)
           rwa [← hc.2,← hcl,List.take_length] at this
         · cases hs
       · cases hs
     · rename_i fs ht
       split at hs
       · rename_i q hq
         split at hs
         · rename_i hc
           simp only [beq_iff_eq] at hc
           injection hs with hs; subst hs
           obtain ⟨xs,fm,hm,_,hcl,hxl,hget⟩:=DataW.trod_struct ht h
           injection hm with hm; subst hm
           have key : ∀ (l : List Field) (o : Nat) (q : List Sh),(∀ f ∈ l,∃ y,DataW.trod enc P w base spare held fuel f.type ((cs.drop f.offset).take (P.cellsOf f.type)) = some y) → fieldsSh P (shape P n) l o = some q → Good3 w q ((cs.drop o).take q.length):=by
            intro l
            induction l with
            | nil =>
              intro o q _ hq
              simp only [fieldsSh,Option.some.injEq] at hq
              subst hq
              exact ⟨[],by simp [FitsL],by simp [RV.relV],by simp⟩
            | cons f l ihl =>
              intro o q hall hq
              simp only [fieldsSh] at hq
              split at hq
              · rename_i s1 hs1
                split at hq
                · rename_i hc1
                  simp only [Bool.and_eq_true,beq_iff_eq] at hc1
                  split at hq
                  · rename_i q2 hq2
                    injection hq with hq; subst hq
                    obtain ⟨y,hy⟩:=hall f (by simp)
                    have g1:=ih n f.type _ _ s1 hy hs1
                    have g2:=ihl (o + s1.length) q2 (fun f' hf'=>hall f' (by simp [hf'])) hq2
                    rw [hc1.1,← hc1.2] at g1
                    have:=good3_append g1 g2
                    rw [← List.drop_drop,← List.take_add] at this
                    simpa using this
                  · cases hq
                · cases hq
              · cases hq
           have:=key fs.toList 0 q (fun f hf=>by
            obtain ⟨i,hi⟩:=List.getElem?_of_mem hf
            have hi' : fs[i]? = some f:=by simpa using hi
            have h1:=hget i f hi'
            have h2 : i < xs.length:=by have:=(Array.getElem?_eq_some_iff.1 hi').1; omega
            exact ⟨xs[i],by rw [h1]; exact List.getElem?_eq_getElem h2⟩) hq
           rwa [List.drop_zero,hc,← hcl,List.take_length] at this
         · cases hs
       · cases hs
     · cases hs
def FitsT (P : Program) (n : Nat) (t : TypeId) (x : RV) : Prop:=∃ ss,shape P n t = some ss ∧ if aggOf P t then ∃ xs,x = .ag xs ∧ FitsL ss xs else FitsL ss [x]
theorem arg_fits {n : Nat} {t : TypeId} {v : Value} {d : DataW H} {ps : List MemPlace} {r : Reach} {b0 : Nat} (hs : (shape P n t).isSome = true) (hval : Value.okWide P w r b0 t v) (h : DataW.Trod enc P w base spare held t v d ps) :
 ∃ x,FitsT P n t x ∧ x.rel w (old w) v:=by
 obtain ⟨ss,hss⟩:=Option.isSome_iff_exists.1 hs
 obtain ⟨fuel,hf⟩:=h
 obtain ⟨xs,f,r,o⟩:=trod_fits fuel n t _ _ ss hf hss
 have one : aggOf P t = false → v.cells.toList = [v] → ∃ x,FitsT P n t x ∧ x.rel w (old w) v:=fun ha hc=>by
  rw [hc] at r
  match xs,r with
  | [x], r =>
    simp only [RV.relV] at r
    obtain ⟨u,us,e,hr,_⟩:=r
    injection e with e1 e2
    subst e1
    exact ⟨x,⟨ss,hss,by rw [ha]; exact f⟩,hr⟩
  | [],r=>simp [RV.relV] at r
  | _ :: _ :: _, r =>
    simp only [RV.relV] at r
    obtain ⟨u,us,e,_,u2,us2,e2,_⟩:=r
    injection e with _ e
    rw [e2] at e; cases e
 cases n with
 | zero=>simp [shape] at hss
 | succ n =>
   have hss':=hss
   unfold shape at hss'
   split at hss'
   · rename_i k ht
     obtain ⟨m,rfl⟩:=okWide_int ht hval
     exact one (by simp [aggOf,ht]) rfl
   · rename_i ht
     obtain ⟨b,rfl⟩:=okWide_bool ht hval
     exact one (by simp [aggOf,ht]) rfl
   · rename_i e ht
     obtain ⟨a,l,c,rfl⟩:=okWide_slice ht hval
     exact one (by simp [aggOf,ht]) rfl
   · rename_i m e ht
     obtain ⟨cs,rfl⟩ : ∃ cs,v = .agg cs:=by
      simp only [Value.okWide,ht] at hval
      obtain ⟨cs,h1,_⟩:=hval
      exact ⟨cs,h1⟩
     exact ⟨.ag xs,⟨ss,hss,by simp only [aggOf,ht,if_true]; exact ⟨xs,rfl,f⟩⟩,by simp only [RV.rel]; exact ⟨cs,rfl,o,r⟩⟩
   · rename_i fs ht
     obtain ⟨cs,rfl,_⟩:=okWide_struct ht hval
     exact ⟨.ag xs,⟨ss,hss,by simp only [aggOf,ht,if_true]; exact ⟨xs,rfl,f⟩⟩,by simp only [RV.rel]; exact ⟨cs,rfl,o,r⟩⟩
   · cases hss'
theorem wf_i64 {n : Int} (h : (Lit.int .i64 n).wf = true) : -9223372036854775808 ≤ n ∧ n ≤ 9223372036854775807:=by
 simp only [Lit.wf,Bool.and_eq_true,decide_eq_true_eq] at h
 have h1 : IntKind.min .i64 = -9223372036854775808:=by decide
 have h2 : IntKind.max .i64 = 9223372036854775807:=by decide
 rw [h1,h2] at h
 exact h
theorem fitsE_ints : ∀ {es : List (List RV)},FitsE [.int .i64] es → ∃ l : List Int,es = l.map (fun x=>[.it .i64 x]) ∧ ∀ x ∈ l,-9223372036854775808 ≤ x ∧ x ≤ 9223372036854775807
 | [],_=>⟨[],rfl,by simp⟩
 | e :: es, h => by
   simp only [FitsE,FitsL,Fits] at h
   obtain ⟨⟨y,ys,rfl,⟨n,rfl,hn⟩,rfl⟩,h⟩:=h
   obtain ⟨l,rfl,hl⟩:=fitsE_ints h
   refine ⟨n :: l,rfl,fun x hx=>?_⟩
   rcases List.mem_cons.1 hx with rfl | hx
   · exact wf_i64 hn
   · exact hl x hx
theorem fitsT_ag {n : Nat} {t : TypeId} {x : RV} {ss : List Sh} (h : FitsT P n t x) (hs : shape P n t = some ss) (ha : aggOf P t = true) : ∃ xs,x = .ag xs ∧ FitsL ss xs:=by
 obtain ⟨s',h1,h2⟩:=h
 rw [hs] at h1; injection h1 with h1; subst h1
 rw [ha] at h2
 exact h2
theorem fitsT_one {n : Nat} {t : TypeId} {x : RV} {s : Sh} (h : FitsT P n t x) (hs : shape P n t = some [s]) (ha : aggOf P t = false) : Fits s x:=by
 obtain ⟨s',h1,h2⟩:=h
 rw [hs] at h1; injection h1 with h1; subst h1
 rw [ha] at h2
 simp only [Bool.false_eq_true,if_false,FitsL] at h2
 obtain ⟨y,ys,e,h3,_⟩:=h2
 injection e with e1 e2
 subst e1
 exact h3
theorem fitsT_int {n : Nat} {t : TypeId} {x : RV} (h : FitsT P n t x) (hs : shape P n t = some [.int .i64]) (ha : aggOf P t = false) : ∃ m,x = .it .i64 m ∧ -9223372036854775808 ≤ m ∧ m ≤ 9223372036854775807:=by
 have:=fitsT_one h hs ha
 simp only [Fits] at this
 obtain ⟨m,h1,h2⟩:=this
 exact ⟨m,h1,wf_i64 h2⟩
theorem fitsT_ints {n : Nat} {t : TypeId} {x : RV} (h : FitsT P n t x) (hs : shape P n t = some [.sl [.int .i64]]) (ha : aggOf P t = false) : ∃ l : List Int,x = .sl 1 (l.map (fun x=>[.it .i64 x])) ∧ ∀ x ∈ l,-9223372036854775808 ≤ x ∧ x ≤ 9223372036854775807:=by
 have:=fitsT_one h hs ha
 simp only [Fits] at this
 obtain ⟨es,h1,h2⟩:=this
 obtain ⟨l,rfl,hl⟩:=fitsE_ints h2
 exact ⟨l,h1,hl⟩
end
end Go.Oc

namespace Go.Proofs.Ytlbfkhikmigpbaa
open Go Go.Oc
theorem wf8 {n : Int} (h : (Lit.int .u8 n).wf = true) : 0 ≤ n ∧ n ≤ 255:=by
 simp only [Lit.wf,Bool.and_eq_true,decide_eq_true_eq] at h
 have h1 : IntKind.min .u8 = 0:=by decide
 have h2 : IntKind.max .u8 = 255:=by decide
 rw [h1,h2] at h
 exact h
theorem wf16 {n : Int} (h : (Lit.int .u16 n).wf = true) : 0 ≤ n ∧ n ≤ 65535:=by
 simp only [Lit.wf,Bool.and_eq_true,decide_eq_true_eq] at h
 have h1 : IntKind.min .u16 = 0:=by decide
 have h2 : IntKind.max .u16 = 65535:=by decide
 rw [h1,h2] at h
 exact h
theorem fitsL_bytes : ∀ (n : Nat) {xs : List RV},FitsL (List.replicate n (.int .u8)) xs → ∃ l : List Int,xs = l.map it8 ∧ l.length = n ∧ ∀ x ∈ l,0 ≤ x ∧ x ≤ 255
 | 0, xs, h => by
   simp only [List.replicate_zero,Oc.FitsL] at h
   exact ⟨[],h,rfl,by simp⟩
 | n + 1, xs, h => by
   simp only [List.replicate_succ,Oc.FitsL,Oc.Fits] at h
   obtain ⟨_,_,rfl,⟨a,rfl,ha⟩,h⟩:=h
   obtain ⟨l,rfl,hl,hx⟩:=fitsL_bytes n h
   refine ⟨a :: l,rfl,by simp [hl],fun x hm=>?_⟩
   rcases List.mem_cons.1 hm with rfl | hm
   · exact wf8 ha
   · exact hx x hm
theorem fitsE_bytes (n : Nat) : ∀ {es : List (List RV)},FitsE (List.replicate n (.int .u8)) es → ∃ l : List (List Int),es = l.map (fun e=>e.map it8) ∧ ∀ e ∈ l,e.length = n ∧ ∀ x ∈ e,0 ≤ x ∧ x ≤ 255
 | [],_=>⟨[],rfl,by simp⟩
 | e :: es, h => by
   simp only [Oc.FitsE] at h
   obtain ⟨h1,h2⟩:=h
   obtain ⟨a,rfl,ha,hx⟩:=fitsL_bytes n h1
   obtain ⟨l,rfl,hl⟩:=fitsE_bytes n h2
   refine ⟨a :: l,rfl,fun x hm=>?_⟩
   rcases List.mem_cons.1 hm with rfl | hm
   · exact ⟨ha,hx⟩
   · exact hl x hm
theorem fitsE_pairs : ∀ {es : List (List RV)},FitsE [.int .u16,.int .u16] es → ∃ l : List (Int × Int),es = l.map (fun e=>[.it .u16 e.1,.it .u16 e.2]) ∧ ∀ e ∈ l,(0 ≤ e.1 ∧ e.1 ≤ 65535) ∧ 0 ≤ e.2 ∧ e.2 ≤ 65535
 | [],_=>⟨[],rfl,by simp⟩
 | e :: es, h => by
   simp only [Oc.FitsE,Oc.FitsL,Oc.Fits] at h
   obtain ⟨⟨_,_,rfl,⟨a,rfl,ha⟩,_,_,rfl,⟨b,rfl,hb⟩,rfl⟩,h⟩:=h
   obtain ⟨l,rfl,hl⟩:=fitsE_pairs h
   refine ⟨(a,b) :: l,rfl,fun x hm=>?_⟩
   rcases List.mem_cons.1 hm with rfl | hm
   · exact ⟨wf16 ha,wf16 hb⟩
   · exact hl x hm
theorem fits66 {x : RV} (h : FitsT Try.prog 9 66 x) : ∃ m : Mt,x = .ag (mtC m) ∧ WfM m:=by
 obtain ⟨xs,rfl,hx⟩:=fitsT_ag (ss:=[.int .u8,.sl (List.replicate 12 (.int .u8)),.int .u8,.int .u8,.sl [.int .u16,.int .u16]]) h (by kernel_rfl) (by kernel_rfl)
 simp only [Oc.FitsL,Oc.Fits] at hx
 obtain ⟨_,_,rfl,⟨d,rfl,hd⟩,_,_,rfl,⟨es,rfl,hes⟩,_,_,rfl,⟨st,rfl,hs⟩,_,_,rfl,⟨ou,rfl,ho⟩,_,_,rfl,⟨en,rfl,hen⟩,rfl⟩:=hx
 obtain ⟨l,rfl,hl⟩:=fitsE_bytes 12 hes
 obtain ⟨e,rfl,he⟩:=fitsE_pairs hen
 exact ⟨⟨d,l,st,ou,e⟩,rfl,⟨wf8 hd,hl,wf8 hs,wf8 ho,he⟩⟩
theorem fits86 {x : RV} (h : FitsT Try.prog 9 86 x) : ∃ a b c d : Int,x = .ag [it8 a,it8 b,it8 c,it8 d] ∧ (0 ≤ a ∧ a ≤ 255) ∧ (0 ≤ b ∧ b ≤ 255) ∧ (0 ≤ c ∧ c ≤ 255) ∧ 0 ≤ d ∧ d ≤ 255:=by
 obtain ⟨xs,rfl,hx⟩:=fitsT_ag (ss:=[.int .u8,.int .u8,.int .u8,.int .u8]) h (by kernel_rfl) (by kernel_rfl)
 simp only [Oc.FitsL,Oc.Fits] at hx
 obtain ⟨_,_,rfl,⟨a,rfl,ha⟩,_,_,rfl,⟨b,rfl,hb⟩,_,_,rfl,⟨c,rfl,hc⟩,_,_,rfl,⟨d,rfl,hd⟩,rfl⟩:=hx
 exact ⟨a,b,c,d,rfl,wf8 ha,wf8 hb,wf8 hc,wf8 hd⟩
theorem fits82 {x : RV} (h : FitsT Try.prog 9 82 x) : ∃ a b : Int,x = .ag [it8 a,it8 b] ∧ (0 ≤ a ∧ a ≤ 255) ∧ 0 ≤ b ∧ b ≤ 255:=by
 obtain ⟨xs,rfl,hx⟩:=fitsT_ag (ss:=[.int .u8,.int .u8]) h (by kernel_rfl) (by kernel_rfl)
 simp only [Oc.FitsL,Oc.Fits] at hx
 obtain ⟨_,_,rfl,⟨a,rfl,ha⟩,_,_,rfl,⟨b,rfl,hb⟩,rfl⟩:=hx
 exact ⟨a,b,rfl,wf8 ha,wf8 hb⟩
theorem fits83 {x : RV} (h : FitsT Try.prog 9 83 x) : ∃ a : Int,x = .it .u16 a ∧ 0 ≤ a ∧ a ≤ 65535:=by
 have h1:=fitsT_one (s:=.int .u16) h (by kernel_rfl) (by kernel_rfl)
 simp only [Oc.Fits] at h1
 obtain ⟨a,rfl,ha⟩:=h1
 exact ⟨a,rfl,wf16 ha⟩
end Go.Proofs.Ytlbfkhikmigpbaa

namespace Go.Oc
open Go Go.RowKit
theorem wf_u8 {n : Int} (h : (Lit.int .u8 n).wf = true) : 0 ≤ n ∧ n ≤ 255:=by
 simp only [Lit.wf,Bool.and_eq_true,decide_eq_true_eq] at h
 have h1 : IntKind.min .u8 = 0:=by decide
 have h2 : IntKind.max .u8 = 255:=by decide
 rw [h1,h2] at h
 exact h
theorem wf_u16 {n : Int} (h : (Lit.int .u16 n).wf = true) : 0 ≤ n ∧ n ≤ 65535:=by
 simp only [Lit.wf,Bool.and_eq_true,decide_eq_true_eq] at h
 have h1 : IntKind.min .u16 = 0:=by decide
 have h2 : IntKind.max .u16 = 65535:=by decide
 rw [h1,h2] at h
 exact h
theorem wf_u32 {n : Int} (h : (Lit.int .u32 n).wf = true) : 0 ≤ n ∧ n ≤ 4294967295:=by
 simp only [Lit.wf,Bool.and_eq_true,decide_eq_true_eq] at h
 have h1 : IntKind.min .u32 = 0:=by decide
 have h2 : IntKind.max .u32 = 4294967295:=by decide
 rw [h1,h2] at h
 exact h
theorem fitsE_u8 : ∀ {es : List (List RV)},FitsE [.int .u8] es → ∃ l : List Int,es = l.map (fun x=>[.it .u8 x]) ∧ ∀ x ∈ l,0 ≤ x ∧ x ≤ 255
 | [],_=>⟨[],rfl,by simp⟩
 | e :: es, h => by
   simp only [FitsE,FitsL,Fits] at h
   obtain ⟨⟨y,ys,rfl,⟨n,rfl,hn⟩,rfl⟩,h⟩:=h
   obtain ⟨l,rfl,hl⟩:=fitsE_u8 h
   refine ⟨n :: l,rfl,fun x hx=>?_⟩
   rcases List.mem_cons.1 hx with rfl | hx
   · exact wf_u8 hn
   · exact hl x hx
theorem fitsE_u16 : ∀ {es : List (List RV)},FitsE [.int .u16] es → ∃ l : List Int,es = l.map (fun x=>[.it .u16 x]) ∧ ∀ x ∈ l,0 ≤ x ∧ x ≤ 65535
 | [],_=>⟨[],rfl,by simp⟩
 | e :: es, h => by
   simp only [FitsE,FitsL,Fits] at h
   obtain ⟨⟨y,ys,rfl,⟨n,rfl,hn⟩,rfl⟩,h⟩:=h
   obtain ⟨l,rfl,hl⟩:=fitsE_u16 h
   refine ⟨n :: l,rfl,fun x hx=>?_⟩
   rcases List.mem_cons.1 hx with rfl | hx
   · exact wf_u16 hn
   · exact hl x hx
end Go.Oc

namespace Go.Proofs.Ytlbfkhikmigpbaa
open Go Go.Oc
theorem law11' {x0 x1 : RV} (h0 : FitsT Try.prog 9 66 x0) (h1 : FitsT Try.prog 9 4 x1) : ACalls Try.prog 11 [x0,x1] (.bo true):=by
 obtain ⟨m,rfl,hw⟩:=fits66 h0
 have g2:=fitsT_one (s:=.bool) h1 (by kernel_rfl) (by kernel_rfl)
 simp only [Oc.Fits] at g2
 obtain ⟨b,rfl⟩:=g2
 exact first_law m hw b
end Go.Proofs.Ytlbfkhikmigpbaa


namespace Go.Proofs.Ytlbfkhikmigpbaa
open Go Go.Oc Go.ChangeShapes Go.WideShapes Go.RowKit
set_option linter.unusedVariables false
theorem own : ownKnob Try.prog.godebug = none := by kernel_rfl
theorem laidOut : laidOutB Try.prog = true := by kernel_rfl
set_option maxRecDepth 100000 in
theorem lifted (os : Os) (started : os.Started) (H : Type) (enc : TypeId × Value → H) :
    ReturnsInHanded {} Try.checked os 11 .any (Rows.duelFirstSpec.pre6 enc Try.prog Try.f11 Rows.duelFirstRow.domain false) (Rows.duelFirstSpec.post enc Try.prog Try.f11 false true false false) := by
  refine returnsInHanded_of_change (C := Try.checked) own started (by kernel_rfl) Try.func11
    (ChangeSpec.witness6 (enc := enc) (C := Try.checked) false ⟨#[], #[.agg #[.int .u8 0, .slice none 0 0, .int .u8 0, .int .u8 0, .slice none 0 0], .bool false], []⟩ 8 (by kernel_rfl) (by kernel_rfl) (by kernel_rfl) (by kernel_rfl)) ?_
  intro W base args ds gs before hval0 hW hcnd _
  have hval : ∀ (j : Nat) t v, Try.f11.params[j]? = some t → args[j]? = some v → Value.okWide Try.prog W .any base t v := hval0
  have hW' := hW
  obtain ⟨p, q, hA0, hV, rfl, hfz, hnd⟩ := hW
  have hA : DataW.TrodAll enc Try.prog W 0 (fun _ => true) true Try.f11.params.toList args.toList ds p := hA0
  rw [Try.params11] at hA hval
  obtain ⟨v0, vs0, d0, ds0, p0, q0, hargs, rfl, rfl, h0, r0⟩ := trodAll_cons hA
  obtain ⟨v1, vs1, d1, ds1, p1, q1, rfl, rfl, rfl, h1, r1⟩ := trodAll_cons r0
  obtain ⟨rfl, rfl, rfl⟩ := trodAll_nil r1
  obtain rfl : args = #[v0, v1] := by cases args; simp_all
  obtain ⟨rfl, rfl⟩ := trodVars_none hV
  have lt0 : ∀ x ∈ p0, x.block < W.heap.size := by obtain ⟨m, hm⟩ := h0; exact DataW.trod_lt m _ _ _ hm
  have lt1 : ∀ x ∈ p1, x.block < W.heap.size := by obtain ⟨m, hm⟩ := h1; exact DataW.trod_lt m _ _ _ hm
  obtain ⟨x0, g0, e0⟩ := arg_fits (n := 9) (by kernel_rfl) (hval 0 66 v0 rfl rfl) h0
  obtain ⟨x1, g1, e1⟩ := arg_fits (n := 9) (by kernel_rfl) (hval 1 4 v1 rfl rfl) h1
  clear hA0 hval0
  refine ((law11' g0 g1).2 W (old W) #[v0, v1] (fun _ h => h) (by simp only [RV.relV]; exact ⟨_, _, rfl, e0, _, _, rfl, e1, rfl⟩)).mono fun e W' he => ?_
  obtain ⟨v, R', rfl, bel, _, _, _, hr⟩ := he
  simp only [RV.rel] at hr
  subst hr
  exact ⟨_, rfl, _, _, _, [], _, [], hW', trodAll_mk1 (shut_bool Try.underlying4 _), (trodAll_cons_mk (Below.trod laidOut (by kernel_rfl) (of_decide_eq_true (by kernel_rfl)) h0 bel lt0) (trodAll_cons_mk (Below.trod laidOut (by kernel_rfl) (of_decide_eq_true (by kernel_rfl)) h1 bel lt1) trodAll_mk0)), rfl, bel.frame _, fun h => by cases h⟩
theorem over : Rows.duelFirstRow.holds Try.pinned (OpenSpec.ofChange Rows.duelFirstSpec) :=
  OpenClaim.holds_of_wide 11 Try.f11 rfl rfl rfl rfl rfl rfl rfl ⟨rfl, rfl, rfl, rfl, rfl⟩ rfl rfl rfl rfl rfl (by kernel_rfl) Try.func11 (by kernel_rfl)
    (of_decide_eq_true (by kernel_rfl)) (by unfold Func.isWrapper; first | (rw [if_pos (by decide +kernel)]; kernel_rfl) | (rw [if_neg (by decide +kernel)]; exact ⟨rfl, rfl⟩))
    (fun os started H enc _ => lifted os started H enc)
theorem duelFirst_holds : Rows.DuelFirstSaid := over
#print axioms duelFirst_holds
end Go.Proofs.Ytlbfkhikmigpbaa

/- Part 11 of the texts of this claim. -/
import Derived.Test.YtgfbenanljjgaaaVJ10
import Derived.Test.YtgfbenanljjgaaaVJ6
import Derived.Test.YtgfbenanljjgaaaVJ5
import Derived.Test.YtgfbenanljjgaaaVJ8
import Derived.Test.YtgfbenanljjgaaaVJ7
set_option linter.unusedSimpArgs false
set_option linter.unusedVariables false
namespace Go.Proofs.Ytgfbenanljjgaaa.Du.Th
open Go Go.Oc
set_option maxRecDepth 8000
abbrev tR (t : List Int) : List RV:=t.map fun x=>i64 x
abbrev tA (t : List Int) : List AV:=(tR t).map AV.r
def SmallT (b : Int) (t : List Int) : Prop:=t.length = 10 ∧ ∀ x ∈ t,0 ≤ x ∧ x ≤ b
def addT (a b : List Int) : List Int:=List.zipWith (· + ·) a b
set_option maxHeartbeats 1000000
set_option maxHeartbeats 1000000
structure Vi where
 ds : List Int
 n : Int
abbrev viC (v : Vi) : List RV:=[ints v.ds,i64 v.n]
abbrev visR (l : List Vi) : RV:=.sl 2 (l.map viC)
theorem SmallT.mono {b c : Int} {t : List Int} (h : SmallT b t) (hc : b ≤ c) : SmallT c t:=⟨h.1,fun x hx=>by have:=h.2 x hx;omega⟩
theorem bedOk_le {b : Int} (h : bedOk b = true) : 0 ≤ b ∧ b ≤ 499:=by
 simp only [bedOk,Bool.or_eq_true,Bool.and_eq_true,decide_eq_true_eq] at h
 omega
structure NarB (l l' : List Bd) : Prop where
 len : l'.length = l.length
 each : ∀ i,i < l.length → (bAt l' i).b = (bAt l i).b ∧ (bAt l i).lo ≤ (bAt l' i).lo ∧ (bAt l' i).hi ≤ (bAt l i).hi
theorem aims_all {d : Int} {l : List Am} (h : checkV d l = 0) : ∀ a ∈ l,aimOk d a = true:=(checkV_zero h).2.2.2.2
theorem aimOk_parts {d : Int} {a : Am} (h : aimOk d a = true) : bedOk a.at_ = true ∧ a.beds ≠ [] ∧ seqOk none a.beds = true ∧ (∀ x ∈ a.beds,0 ≤ x.lo ∧ x.lo ≤ x.hi ∧ x.hi ≤ d) ∧ loS a.beds ≤ d ∧ d ≤ hiS a.beds:=by
 simp only [aimOk,Bool.and_eq_true,decide_eq_true_eq] at h
 obtain ⟨⟨⟨⟨⟨h1,h2⟩,h3⟩,h4⟩,h5⟩,h6⟩:=h
 refine ⟨h1,fun e=>by rw [e] at h2;simp at h2,h3,fun x hx=>?_,h5,h6⟩
 simp only [chOk,List.all_eq_true,Bool.and_eq_true,decide_eq_true_eq] at h4
 have:=h4 x hx
 omega
theorem seq_beds : ∀ {p : Option Int} {l : List Bd},seqOk p l = true → ∀ x ∈ l,x.b = 0 ∨ bedOk x.b = true
 | _,[],_,x,hx=>by cases hx
 | p, y :: l, h, x, hx => by
   simp only [seqOk,Bool.and_eq_true,Bool.or_eq_true,decide_eq_true_eq] at h
   rcases List.mem_cons.1 hx with rfl | hx
   · exact h.1.1
   · exact seq_beds h.2 x hx
theorem wfA_aim {d : Int} {a : Am} (hd : d ≤ 3000) (h : aimOk d a = true) : WfA a:=by
 obtain ⟨h1,_,h3,h4,_,_⟩:=aimOk_parts h
 have hb:=fun b (hb : bedOk b = true)=>bedOk_le hb
 have:=hb _ h1
 refine ⟨by unfold I64;omega,fun c hc=>?_⟩
 have:=h4 c hc
 have hcb : 0 ≤ c.b ∧ c.b ≤ 499:=by
  rcases seq_beds h3 c hc with h | h
  · omega
  · exact hb _ h
 unfold I64
 omega
theorem wfL_chk {d : Int} {l : List Am} (h : checkV d l = 0) (hd : 0 ≤ d ∧ d ≤ 3000) : WfL d l:=⟨by unfold I64;omega,fun a ha=>wfA_aim hd.2 (aims_all h a ha)⟩
set_option maxHeartbeats 4000000
end Go.Proofs.Ytgfbenanljjgaaa.Du.Th

namespace Go.Proofs.Ytgfbenanljjgaaa.Du.Th.Ai
open Go Go.Oc
set_option maxRecDepth 8000
def sureA (b : Int) : Am:=⟨b,[⟨b,1,1⟩]⟩
def sureL (bs : List Int) : List Am:=bs.map sureA
def suK (bs : List Int) (st g : Int) : Rk:=⟨1,sureL bs,st,g⟩
theorem sure_aim {b : Int} (h : bedOk b = true) : aimOk 1 (sureA b) = true:=by
 unfold aimOk sureA
 simp only [h,Bool.true_and,Bool.and_eq_true,decide_eq_true_eq]
 refine ⟨⟨⟨⟨rfl,?_⟩,?_⟩,?_⟩,?_⟩
 · simp [seqOk,h]
 · simp [chOk]
 · simp [loS]
 · simp [hiS]
theorem sure_chk {bs : List Int} (hB : ∀ b ∈ bs,bedOk b = true) (hl : 1 ≤ bs.length ∧ bs.length ≤ 10) : checkV 1 (sureL bs) = 0:=by
 have hne : bs ≠ []:=fun e=>by subst e;simp at hl
 unfold checkV
 rw [if_neg,if_neg,if_pos]
 · rw [List.all_eq_true]
   intro a ha
   obtain ⟨b,hb,rfl⟩:=List.mem_map.1 ha
   exact sure_aim (hB b hb)
 · simp [sureL,hne]
 · simp [sureL,sureA];omega
theorem su_ok {bs : List Int} {st g : Int} (hB : ∀ b ∈ bs,bedOk b = true) (hl : 1 ≤ bs.length ∧ bs.length ≤ 10) (hs : 2 ≤ st ∧ st ≤ 60) (hg : 0 ≤ g ∧ g ≤ 2) : checkR (suK bs st g) = 0:=by
 have h : checkV (suK bs st g).d (suK bs st g).aims = 0:=sure_chk hB hl
 unfold checkR
 rw [if_pos h,if_pos ⟨hs,hg⟩]
def endB (g : Int) (bs : List Int) : Nat → Int → Bool
 | 0,s=>s == 0
 | d + 1,s=>s == 0 || (throwsO g s bs).any fun x=>endB g bs d x.2
theorem end_zero (g : Int) (bs : List Int) : ∀ d,endB g bs d 0 = true
 | 0=>rfl
 | d + 1=>by unfold endB;rfl
theorem end_mono {g : Int} {bs : List Int} : ∀ {d : Nat} {s : Int},endB g bs d s = true → endB g bs (d + 1) s = true
 | 0, s, h => by
   unfold endB at h ⊢
   rw [h];rfl
 | d + 1, s, h => by
   unfold endB at h ⊢
   rw [Bool.or_eq_true,List.any_eq_true] at h ⊢
   rcases h with h | ⟨x,hx,hd⟩
   · exact .inl h
   · exact .inr ⟨x,hx,end_mono hd⟩
theorem end_le {g : Int} {bs : List Int} {d e : Nat} {s : Int} (h : endB g bs d s = true) (hde : d ≤ e) : endB g bs e s = true:=by
 induction e with
 | zero=>rw [show (0 : Nat) = d by omega];exact h
 | succ e ih =>
   by_cases c : d ≤ e
   · exact end_mono (ih c)
   · rw [show e + 1 = d by omega];exact h
theorem end_step {g : Int} {bs : List Int} {d : Nat} {left : Nat} (hl : 1 ≤ left) {x : Int × Int} (hx : x ∈ throwsO g left bs) (he : endB g bs d x.2 = true) : endB g bs (d + 1) left = true:=by
 unfold endB
 rw [Bool.or_eq_true,List.any_eq_true]
 exact .inr ⟨x,hx,he⟩
theorem throws_in {g s : Int} {bs : List Int} {b : Int} (hb : b ∈ bs) (h1 : (afterO g s b).2 = true) (h2 : 0 < s) : (b,(afterO g s b).1) ∈ throwsO g s bs:=by
 unfold throwsO
 refine List.mem_filterMap.2 ⟨b,hb,?_⟩
 rw [if_pos (by simp [h1,h2])]
theorem throws_ok2 {g s : Int} {bs : List Int} {x : Int × Int} (h : x ∈ throwsO g s bs) : (afterO g s x.1).2 = true:=by
 unfold throwsO at h
 obtain ⟨b,_,e⟩:=List.mem_filterMap.1 h
 split at e
 · rename_i hc
   injection e with e
   subst e
   simp only [Bool.and_eq_true] at hc
   exact hc.1
 · cases e
theorem op_eq {g b : Int} (hv : bedOk b = true) : opA g b = opensD g b:=by
 have : b ≠ 0:=fun e=>by subst e;simp [bedOk] at hv
 unfold opA opensD
 split
 · rfl
 · split
   · rfl
   · simp [this]
theorem next_cases {bs : List Int} {g own : Int} {b : Int} (hb : b ∈ bs) (hv : bedOk b = true) {left : Nat} (hl : 1 ≤ left) (f : Int → Int) :
 ((b,(0 : Int)) ∈ throwsO g left bs ∧ nextA g own left f b = 0) ∨
 ((afterO g left b).2 = false ∧ nextA g own left f b = own) ∨
 (∃ y : Nat,(b,(y : Int)) ∈ throwsO g left bs ∧ lowG g ≤ (y : Int) ∧ y < left ∧ nextA g own left f b = f y):=by
 have hp:=bedOk_pos hv
 have hin:=throws_in (g:=g) (s:=(left : Int)) (bs:=bs) (b:=b) hb
 unfold nextA
 rw [op_eq hv]
 unfold afterO at hin ⊢
 by_cases c0 : (left : Int) - scoreOf b = 0
 · rw [if_pos c0] at hin ⊢
   have hd0 : decide ((left : Int) - scoreOf b = 0) = true:=decide_eq_true c0
   rw [hd0,Bool.true_and]
   cases ho : opensD g b with
   | true =>
     rw [ho] at hin
     exact .inl ⟨hin rfl (by omega),by rw [if_pos rfl]⟩
   | false =>
     right;left
     refine ⟨rfl,?_⟩
     have:=lowG_le g
     rw [if_neg (by simp),if_pos (by omega)]
 · rw [if_neg c0] at hin ⊢
   have hd0 : decide ((left : Int) - scoreOf b = 0) = false:=decide_eq_false c0
   rw [hd0,Bool.false_and,if_neg (by simp)]
   by_cases cl : (left : Int) - scoreOf b < lowG g
   · right;left
     rw [if_pos cl]
     refine ⟨?_,rfl⟩
     unfold lowG at cl
     by_cases c1 : (left : Int) - scoreOf b = 1
     · rw [if_pos c1]
       by_cases cg : g = 0
       · rw [if_pos cg] at cl;omega
       · simp [cg]
     · rw [if_neg c1]
       simp only [decide_eq_false_iff_not]
       split at cl <;> omega
   · right;right
     have hl1:=lowG_le g
     refine ⟨((left : Int) - scoreOf b).toNat,?_,by omega,by omega,?_⟩
     · have e : ((((left : Int) - scoreOf b).toNat : Nat) : Int) = (left : Int) - scoreOf b:=by omega
       rw [e]
       by_cases c1 : (left : Int) - scoreOf b = 1
       · rw [if_pos c1] at hin
         rw [c1]
         refine hin ?_ (by omega)
         unfold lowG at cl
         by_cases cg : g = 0
         · simp [cg]
         · rw [if_neg cg] at cl;omega
       · rw [if_neg c1] at hin
         exact hin (by simp only [decide_eq_true_eq];omega) (by omega)
     · rw [if_neg cl]
       congr 1;omega
theorem sure_mean {s : Bool} {own left : Int} {f : Int → Int} {st g b : Int} {bs : List Int} (hB : bedOk b = true) (hv : VOk (nextA g own left f b)) : meanA (suK bs st g) s own left f (sureA b) = nextA g own left f b:=by
 unfold meanA
 show meanS s 1 [⟨b,1,1⟩] [nextA g own left f b] = _
 generalize nextA g own left f b = v at *
 have hc : canA [⟨b,1,1⟩] 0 1 = 1:=rfl
 by_cases h2 : v = 2000000000
 · subst h2
   unfold meanS
   rw [if_pos]
   refine List.any_eq_true.2 ⟨0,by simp,?_⟩
   simp only [badA,Bool.and_eq_true,decide_eq_true_eq,hc];exact ⟨rfl,by omega⟩
 · have hnb : ¬ (List.range [(⟨b,1,1⟩ : Bd)].length).any (badA [⟨b,1,1⟩] 1 [v]) = true:=fun hh=>by
    obtain ⟨i,hi,hbi⟩:=List.any_eq_true.1 hh
    have hi0 : i = 0:=by simpa using hi
    subst hi0
    simp only [badA,Bool.and_eq_true,decide_eq_true_eq] at hbi
    exact h2 hbi.1
   have hz : [v].map zN = [v]:=by simp [zN,h2]
   have hAok : AOk 1 [(⟨b,1,1⟩ : Bd)] → meanZ s 1 [⟨b,1,1⟩] [v] = v:=fun h=>by
    have hd1 : ∀ y,TruthN 1 [(⟨b,1,1⟩ : Bd)] y → dotV y [v] = v:=fun y hy=>by
     have hl:=hy.len
     have he:=hy.each 0 (by simp)
     match y,hl with
     | [z], _ =>
       have : z = 1:=by simp [bAt] at he;omega
       subst this
       simp [dotV]
    unfold meanZ
    cases s
    · have e : meanHi 1 [⟨b,1,1⟩] [v] = v:=hd1 _ (h.truth _ _)
      simp only [Bool.false_eq_true,if_false,e]
      omega
    · have e : meanLo 1 [⟨b,1,1⟩] [v] = v:=hd1 _ (h.truth _ _)
      simp only [if_true,e]
      omega
   unfold meanS
   rw [if_neg hnb,hz]
   exact hAok ⟨by omega,by simp [chOk],by simp [loS],by simp [hiS],by simp,by simp,fun c hc=>by simp at hc;subst hc;exact .inr hB⟩
theorem val_sure {bs : List Int} {st g : Int} (hB : ∀ b ∈ bs,bedOk b = true) (hne : bs ≠ []) {sd : Bool} {T : List Int} {n Nv : Int} {s : Nat} (hr : ROk (suK bs st g)) (vT : ∀ x ∈ T,VOk x) (vn : VOk n)
 (hT : ∀ y : Nat,lowG g ≤ y → y < s → (∃ v : Nat,1 ≤ v ∧ T.getD y 0 = (v : Int) * 1000000 ∧ endB g bs (3 * v) y = true ∧ endB g bs (3 * (v - 1)) y = false) ∨ (T.getD y 0 = Nv ∧ ∀ M,endB g bs M y = false)) :
 ∀ (d left : Nat), lowG g ≤ left → left ≤ s → (d = 0 → left < s) →
   (∀ M : Nat,endB g bs (d + 3 * M) left = true → valA (suK bs st g) sd T n d left ≤ (M : Int) * 1000000) ∧
   (valA (suK bs st g) sd T n d left = n ∨ valA (suK bs st g) sd T n d left = Nv ∨ ∃ M : Nat,valA (suK bs st g) sd T n d left = (M : Int) * 1000000 ∧ endB g bs (d + 3 * M) left = true)
 | 0, left, h1, h2, h3 => by
   have h3:=h3 rfl
   have e : valA (suK bs st g) sd T n 0 left = T.getD left 0:=by simp [valA]
   rw [e]
   rcases hT left h1 h3 with ⟨v,v1,v2,v3,v4⟩ | ⟨v1,v2⟩
   · refine ⟨fun M hM=>?_,.inr (.inr ⟨v,v2,by rw [Nat.zero_add];exact v3⟩)⟩
     rw [Nat.zero_add] at hM
     have : v ≤ M:=by
      refine Nat.not_lt.1 fun hlt=>?_
      have:=end_le hM (show 3 * M ≤ 3 * (v - 1) by omega)
      rw [v4] at this;cases this
     rw [v2];omega
   · refine ⟨fun M hM=>?_,.inr (.inl v1)⟩
     rw [v2] at hM;cases hM
 | d + 1, left, h1, h2, _ => by
   have hlg:=lowG_le g
   have hl1 : 1 ≤ left:=by omega
   have ih:=fun (y : Nat) (y1 : lowG g ≤ y) (y2 : y < left)=>val_sure hB hne (sd:=sd) (Nv:=Nv) hr vT vn hT d y y1 (by omega) (fun _=>by omega)
   have hvv:=fun x=>valA_vok hr (s:=sd) vT vn d x
   have hnv : ∀ b,VOk (nextA g n left (valA (suK bs st g) sd T n d) b):=fun b=>nextA_vok vn hvv b
   have hval : valA (suK bs st g) sd T n (d + 1) left = leastA (bs.map (nextA g n left (valA (suK bs st g) sd T n d))):=by
    show leastA ((bs.map sureA).map _) = _
    rw [List.map_map]
    congr 1
    exact List.map_congr_left fun b hb=>sure_mean (hB b hb) (hnv b)
   obtain ⟨f1,f2,f3⟩:=foldl_min (bs.map (nextA g n left (valA (suK bs st g) sd T n d))) 2000000000
   have hmem : ∃ b ∈ bs,leastA (bs.map (nextA g n left (valA (suK bs st g) sd T n d))) = nextA g n left (valA (suK bs st g) sd T n d) b:=by
    rcases f3 with f3 | f3
    · obtain ⟨b,hb⟩:=List.exists_mem_of_ne_nil _ hne
      refine ⟨b,hb,?_⟩
      have h4:=f2 _ (List.mem_map.2 ⟨b,hb,rfl⟩)
      have h5:=hnv b
      unfold VOk at h5
      show List.foldl min 2000000000 _ = _
      omega
    · obtain ⟨b,hb,e⟩:=List.mem_map.1 f3
      exact ⟨b,hb,e.symm⟩
   rw [hval]
   refine ⟨fun M hM=>?_,?_⟩
   · rw [show d + 1 + 3 * M = (d + 3 * M) + 1 by omega] at hM
     unfold endB at hM
     have hz : ((left : Int) == 0) = false:=by rw [beq_eq_false_iff_ne];omega
     rw [hz,Bool.false_or,List.any_eq_true] at hM
     obtain ⟨x,hx,he⟩:=hM
     obtain ⟨t1,t2,t3,t4⟩:=throws_mem hB hx
     refine Int.le_trans (f2 _ (List.mem_map.2 ⟨x.1,t1,rfl⟩)) ?_
     rcases next_cases (own:=n) t1 (hB _ t1) hl1 (valA (suK bs st g) sd T n d) with ⟨q1,q2⟩ | ⟨q1,q2⟩ | ⟨y,q1,q2,q3,q4⟩
     · rw [q2];omega
     · rw [throws_ok2 hx] at q1;cases q1
     · have hy : (y : Int) = x.2:=by
        obtain ⟨_,_,_,u4⟩:=throws_mem hB q1
        simp only at u4
        omega
       rw [q4]
       exact (ih y q2 q3).1 M (by rw [hy];exact he)
   · obtain ⟨b,hb,e⟩:=hmem
     rw [e]
     rcases next_cases (own:=n) hb (hB b hb) hl1 (valA (suK bs st g) sd T n d) with ⟨q1,q2⟩ | ⟨q1,q2⟩ | ⟨y,q1,q2,q3,q4⟩
     · exact .inr (.inr ⟨0,by rw [q2];rfl,end_le (end_step (d:=0) hl1 q1 (end_zero g bs 0)) (by omega)⟩)
     · exact .inl q2
     · rw [q4]
       rcases (ih y q2 q3).2 with i1 | i1 | ⟨M,i1,i2⟩
       · exact .inl i1
       · exact .inr (.inl i1)
       · refine .inr (.inr ⟨M,i1,?_⟩)
         have:=end_step (d:=d + 3 * M) hl1 q1 i2
         rw [show d + 1 + 3 * M = d + 3 * M + 1 by omega]
         exact this
theorem end_self {g : Int} {bs : List Int} (hB : ∀ b ∈ bs,bedOk b = true) : ∀ (N left : Nat),left ≤ N → ∀ M,endB g bs M left = true → endB g bs left left = true
 | _,0,_,_,_=>end_zero g bs 0
 | 0,left + 1,h,_,_=>by omega
 | N + 1, left + 1, h, M, hM => by
   have hz : (((left + 1 : Nat) : Int) == 0) = false:=by rw [beq_eq_false_iff_ne];omega
   cases M with
   | zero=>unfold endB at hM;rw [hz] at hM;cases hM
   | succ M =>
     unfold endB at hM
     rw [hz,Bool.false_or,List.any_eq_true] at hM
     obtain ⟨x,hx,he⟩:=hM
     obtain ⟨t1,t2,t3,t4⟩:=throws_mem hB hx
     have hy : ((x.2.toNat : Nat) : Int) = x.2:=by omega
     have ih:=end_self hB N x.2.toNat (by omega) M (by rw [hy];exact he)
     rw [hy] at ih
     exact end_step (by omega) hx (end_le ih (by omega))
theorem end_first {g : Int} {bs : List Int} {s : Nat} (h0 : endB g bs 0 s = false) : ∀ (w : Nat),endB g bs (3 * w) s = true → ∃ v : Nat,1 ≤ v ∧ v ≤ w ∧ endB g bs (3 * v) s = true ∧ endB g bs (3 * (v - 1)) s = false
 | 0,h=>by rw [Nat.mul_zero,h0] at h;cases h
 | w + 1, h => by
   cases hw : endB g bs (3 * w) s
   · exact ⟨w + 1,by omega,Nat.le_refl _,h,by rw [Nat.add_sub_cancel];exact hw⟩
   · obtain ⟨v,a,b,c,d⟩:=end_first h0 w hw
     exact ⟨v,a,by omega,c,d⟩
def nvS (sd : Bool) : Int:=if sd then 1000000000 else 2000000000
theorem sure_at {bs : List Int} {st g : Int} (hB : ∀ b ∈ bs,bedOk b = true) (hne : bs ≠ []) (hr : ROk (suK bs st g)) (sd : Bool) : ∀ s : Nat,lowG g ≤ s → (s : Int) ≤ st →
 (∃ v : Nat,1 ≤ v ∧ (tabT (suK bs st g) sd).getD s 0 = (v : Int) * 1000000 ∧ endB g bs (3 * v) s = true ∧ endB g bs (3 * (v - 1)) s = false) ∨ ((tabT (suK bs st g) sd).getD s 0 = nvS sd ∧ ∀ M,endB g bs M s = false):=by
 intro s
 induction s using Nat.strongRecOn with
 | _ s ih =>
   intro h1 h2
   have hlg:=lowG_le g
   have hst:=hr.start
   have hstE : (suK bs st g).start = st:=rfl
   obtain ⟨nums,hnn,hns,g1,g2,g3⟩:=tabT_at hr sd (st:=s) h1 h2
   have hy : ∀ y,y < s → nums.getD y 0 = (tabT (suK bs st g) sd).getD y 0:=fun y hy=>by
    rw [g3 y (by omega),getD_set hns,if_neg (by omega)]
   have hset : ∀ (n : Int) y,(nums.set s n).getD y 0 = if s = y then n else nums.getD y 0:=fun n y=>getD_set hns n y
   have hvs:=fun (n : Int) (vn : VOk n)=>val_sure hB hne (sd:=sd) (T:=nums.set s n) (n:=n) (Nv:=nvS sd) (s:=s) hr (fun x hx=>by
    rcases List.mem_or_eq_of_mem_set hx with hx | rfl
    · exact hnn x hx
    · exact vn) vn (fun y y1 y2=>by
    rw [hset,if_neg (by omega),hy y y2]
    exact ih y y2 y1 (by omega)) 3 s h1 (Nat.le_refl _) (fun h=>by omega)
   have hgn : ∀ n,(nums.set s n).getD s 0 = n:=fun n=>by rw [hset,if_pos rfl]
   have hU : ∀ n,zhA (suK bs st g) false (nums.set s n) s = (decide (1000000 + valA (suK bs st g) false (nums.set s n) n 3 s ≤ n) || decide (n = 2000000000)):=fun n=>by
    unfold zhA
    simp only [Bool.false_eq_true,if_false,hgn]
   have hL : ∀ n,zhA (suK bs st g) true (nums.set s n) s = decide (n ≤ 1000000 + valA (suK bs st g) true (nums.set s n) n 3 s):=fun n=>by
    unfold zhA
    simp only [if_true,hgn]
   have h0 : endB g bs 0 s = false:=by
    unfold endB
    rw [beq_eq_false_iff_ne];omega
   rw [g1]
   by_cases he : ∃ M,endB g bs M s = true
   · left
     obtain ⟨M,hM⟩:=he
     have hs1:=end_le (end_self hB s s (Nat.le_refl _) M hM) (show s ≤ 3 * s by omega)
     obtain ⟨v,v1,v2,v3,v4⟩:=end_first h0 s hs1
     refine ⟨v,v1,?_,v3,v4⟩
     have hs60 : s ≤ 60:=by omega
     have key : ∀ n : Int,VOk n → ((v : Int) - 1) * 1000000 < n → valA (suK bs st g) sd (nums.set s n) n 3 s = ((v : Int) - 1) * 1000000:=fun n vn hn=>by
      obtain ⟨a1,a2⟩:=hvs n vn
      have b1:=a1 (v - 1) (by rw [show 3 + 3 * (v - 1) = 3 * v by omega];exact v3)
      have e1 : (((v - 1 : Nat) : Int)) = (v : Int) - 1:=by omega
      rw [e1] at b1
      rcases a2 with a2 | a2 | ⟨W,w1,w2⟩
      · omega
      · have : nvS sd = 1000000000 ∨ nvS sd = 2000000000:=by unfold nvS;cases sd <;> simp
        omega
      · have hw : v - 1 ≤ W:=by
         refine Nat.not_lt.1 fun hlt=>?_
         have:=end_le w2 (show 3 + 3 * W ≤ 3 * (v - 1) by omega)
         rw [v4] at this;cases this
        omega
     cases sd
     · refine numA_upper hr hnn hns h1 (by omega) ?_ (.inr ?_)
       · rw [hU,key _ (by unfold VOk;omega) (by omega)]
         simp only [Bool.or_eq_true,decide_eq_true_eq]
         left;omega
       · rw [hU,key _ (by unfold VOk;omega) (by omega)]
         simp only [Bool.or_eq_false_iff,decide_eq_false_iff_not]
         omega
     · refine numA_lower hr hnn hns h1 (by omega) (.inr ?_) (.inr ?_)
       · rw [hL,key _ (by unfold VOk;omega) (by omega)]
         simp only [decide_eq_true_eq]
         omega
       · rw [hL,key _ (by unfold VOk;omega) (by omega)]
         simp only [decide_eq_false_iff_not]
         omega
   · right
     have hno : ∀ M,endB g bs M s = false:=fun M=>by
      cases h : endB g bs M s
      · rfl
      · exact absurd ⟨M,h⟩ he
     refine ⟨?_,hno⟩
     obtain ⟨_,a2⟩:=hvs 1000000000 (by unfold VOk;omega)
     cases sd
     · show _ = (2000000000 : Int)
       refine numA_never hr hnn hns h1 ?_
       rw [hU]
       simp only [Bool.or_eq_false_iff,decide_eq_false_iff_not]
       rcases a2 with a2 | a2 | ⟨W,w1,w2⟩
       · omega
       · have : nvS false = 2000000000:=rfl
         omega
       · rw [hno] at w2;cases w2
     · show _ = (1000000000 : Int)
       refine numA_lower hr hnn hns h1 (by omega) (.inr ?_) (.inl rfl)
       rw [hL]
       simp only [decide_eq_true_eq]
       rcases a2 with a2 | a2 | ⟨W,w1,w2⟩
       · omega
       · have : nvS true = 1000000000:=rfl
         omega
       · rw [hno] at w2;cases w2
end Go.Proofs.Ytgfbenanljjgaaa.Du.Th.Ai

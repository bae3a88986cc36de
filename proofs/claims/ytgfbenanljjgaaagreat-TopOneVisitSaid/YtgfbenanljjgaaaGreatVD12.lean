/- For all beds, scores and gates made of bytes, the given function TopOneVisit returns true: who never misses needs one visit just for those scores from which there is a way out of three darts, and the listed aim begins one of these ways. No conditions beyond those of the given statement. -/
import Derived.Test.YtgfbenanljjgaaaGreatVD11
import Derived.Test.YtgfbenanljjgaaaGreatVD6
import Derived.Test.YtgfbenanljjgaaaGreatVD9
import Derived.Test.YtgfbenanljjgaaaGreatVD8
import Derived.Test.YtgfbenanljjgaaaGreatVD5
import Derived.Test.YtgfbenanljjgaaaGreatVD7
import Derived.ChangeShapes
import Derived.WideShapes
import Derived.OpenShut
import Derived.ShutString
import Derived.ChangeOld
import Derived.Carry
import Derived.Below
import Derived.Test.YtgfbenanljjgaaaGreatRows
import Derived.JoinedOf
set_option linter.unusedSimpArgs false
set_option linter.unusedVariables false
namespace Go.Proofs.YtgfbenanljjgaaaGreat.Du.Th.Ai
open Go Go.Oc
set_option maxRecDepth 8000
def sureA (b:Int):Am:=⟨b,[⟨b,1,1⟩]⟩
def sureL (bs:List Int):List Am:=bs.map sureA
def suK (bs:List Int) (st g:Int):Rk:=⟨1,sureL bs,st,g⟩
theorem sure_aim {b:Int}(h:bedOk b=true):aimOk 1 (sureA b)=true:=by
 unfold aimOk sureA
 simp only[h,Bool.true_and,Bool.and_eq_true,decide_eq_true_eq]
 refine⟨⟨⟨⟨rfl,?_⟩,?_⟩,?_⟩,?_⟩
 ·simp [seqOk,h]
 ·simp [chOk]
 ·simp [loS]
 ·simp [hiS]
theorem sure_chk {bs:List Int}(hB:∀ b∈bs,bedOk b=true) (hl:1≤bs.length∧bs.length≤10):checkV 1 (sureL bs)=0:=by
 have hne:bs≠[]:=fun e=>by subst e;simp at hl
 unfold checkV
 rw[if_neg,if_neg,if_pos]
 ·rw[List.all_eq_true]
  intro a ha
  obtain⟨b,hb,rfl⟩:=List.mem_map.1 ha
  exact sure_aim (hB b hb)
 ·simp [sureL,hne]
 ·simp [sureL,sureA];omega
theorem su_ok {bs:List Int}{st g:Int}(hB:∀ b∈bs,bedOk b=true) (hl:1≤bs.length∧bs.length≤10) (hs:2≤st∧st≤60) (hg:0≤g∧g≤2):checkR (suK bs st g)=0:=by
 have h:checkV (suK bs st g).d (suK bs st g).aims=0:=sure_chk hB hl
 unfold checkR
 rw[if_pos h,if_pos ⟨hs,hg⟩]
def endB (g:Int) (bs:List Int):Nat→Int→Bool
 | 0,s=>s == 0
 | d+1,s=>s == 0 || (throwsO g s bs).any fun x=>endB g bs d x.2
theorem end_zero (g:Int) (bs:List Int):∀ d,endB g bs d 0=true
 | 0=>rfl
 | d+1=>by unfold endB;rfl
theorem end_mono {g:Int}{bs:List Int}:∀ {d:Nat}{s:Int},endB g bs d s=true→endB g bs (d+1) s=true
 | 0, s, h=>by
   unfold endB at h ⊢
   rw[h];rfl
 | d+1, s, h=>by
   unfold endB at h ⊢
   rw[Bool.or_eq_true,List.any_eq_true] at h ⊢
   rcases h with h|⟨x,hx,hd⟩
   ·exact .inl h
   ·exact .inr ⟨x,hx,end_mono hd⟩
theorem end_le {g:Int}{bs:List Int}{d e:Nat}{s:Int}(h:endB g bs d s=true) (hde:d≤e):endB g bs e s=true:=by
 induction e with
 | zero=>rw[show (0:Nat)=d by omega];exact h
 | succ e ih =>
   by_cases c:d≤e
   ·exact end_mono (ih c)
   ·rw[show e+1=d by omega];exact h
theorem end_step {g:Int}{bs:List Int}{d:Nat}{left:Nat}(hl:1≤left) {x:Int × Int}(hx:x∈throwsO g left bs) (he:endB g bs d x.2=true):endB g bs (d+1) left=true:=by
 unfold endB
 rw[Bool.or_eq_true,List.any_eq_true]
 exact .inr ⟨x,hx,he⟩
theorem throws_in {g s:Int}{bs:List Int}{b:Int}(hb:b∈bs) (h1:(afterO g s b).2=true) (h2:0<s):(b,(afterO g s b).1)∈throwsO g s bs:=by
 unfold throwsO
 refine List.mem_filterMap.2 ⟨b,hb,?_⟩
 rw[if_pos (by simp [h1,h2])]
theorem throws_ok2 {g s:Int}{bs:List Int}{x:Int × Int}(h:x∈throwsO g s bs):(afterO g s x.1).2=true:=by
 unfold throwsO at h
 obtain⟨b,_,e⟩:=List.mem_filterMap.1 h
 split at e
 ·rename_i hc
  injection e with e
  subst e
  simp only[Bool.and_eq_true] at hc
  exact hc.1
 ·cases e
theorem op_eq {g b:Int}(hv:bedOk b=true):opA g b=opensD g b:=by
 have:b≠0:=fun e=>by subst e;simp [bedOk] at hv
 unfold opA opensD
 split
 ·rfl
 ·split
  ·rfl
  ·simp [this]
theorem next_cases {bs:List Int}{g own:Int}{b:Int}(hb:b∈bs) (hv:bedOk b=true) {left:Nat}(hl:1≤left) (f:Int→Int) :
 ((b,(0:Int))∈throwsO g left bs∧nextA g own left f b=0) ∨
 ((afterO g left b).2=false∧nextA g own left f b=own) ∨
 (∃ y:Nat,(b,(y:Int))∈throwsO g left bs∧lowG g≤(y:Int)∧y<left∧nextA g own left f b=f y):=by
 have hp:=bedOk_pos hv
 have hin:=throws_in (g:=g) (s:=(left:Int)) (bs:=bs) (b:=b) hb
 unfold nextA
 rw[op_eq hv]
 unfold afterO at hin ⊢
 by_cases c0:(left:Int)-scoreOf b=0
 ·rw[if_pos c0] at hin ⊢
  have hd0:decide ((left:Int)-scoreOf b=0)=true:=decide_eq_true c0
  rw[hd0,Bool.true_and]
  cases ho:opensD g b with
  | true =>
    rw[ho] at hin
    exact .inl ⟨hin rfl (by omega),by rw[if_pos rfl]⟩
  | false =>
    right;left
    refine⟨rfl,?_⟩
    have:=lowG_le g
    rw[if_neg (by simp),if_pos (by omega)]
 ·rw[if_neg c0] at hin ⊢
  have hd0:decide ((left:Int)-scoreOf b=0)=false:=decide_eq_false c0
  rw[hd0,Bool.false_and,if_neg (by simp)]
  by_cases cl:(left:Int)-scoreOf b<lowG g
  ·right;left
   rw[if_pos cl]
   refine⟨?_,rfl⟩
   unfold lowG at cl
   by_cases c1:(left:Int)-scoreOf b=1
   ·rw[if_pos c1]
    by_cases cg:g=0
    ·rw[if_pos cg] at cl;omega
    ·simp [cg]
   ·rw[if_neg c1]
    simp only[decide_eq_false_iff_not]
    split at cl<;>omega
  ·right;right
   have hl1:=lowG_le g
   refine⟨((left:Int)-scoreOf b).toNat,?_,by omega,by omega,?_⟩
   ·have e:((((left:Int)-scoreOf b).toNat:Nat):Int)=(left:Int)-scoreOf b:=by omega
    rw[e]
    by_cases c1:(left:Int)-scoreOf b=1
    ·rw[if_pos c1] at hin
     rw[c1]
     refine hin ?_ (by omega)
     unfold lowG at cl
     by_cases cg:g=0
     ·simp [cg]
     ·rw[if_neg cg] at cl;omega
    ·rw[if_neg c1] at hin
     exact hin (by simp only[decide_eq_true_eq];omega) (by omega)
   ·rw[if_neg cl]
    congr 1;omega
theorem sure_mean {s:Bool}{own left:Int}{f:Int→Int}{st g b:Int}{bs:List Int}(hB:bedOk b=true) (hv:VOk (nextA g own left f b)):meanA (suK bs st g) s own left f (sureA b)=nextA g own left f b:=by
 unfold meanA
 show meanS s 1 [⟨b,1,1⟩] [nextA g own left f b]=_
 generalize nextA g own left f b=v at *
 have hc:canA [⟨b,1,1⟩] 0 1=1:=rfl
 by_cases h2:v=2000000000
 ·subst h2
  unfold meanS
  rw[if_pos]
  refine List.any_eq_true.2 ⟨0,by simp,?_⟩
  simp only[badA,Bool.and_eq_true,decide_eq_true_eq,hc];exact⟨rfl,by omega⟩
 ·have hnb:¬ (List.range [(⟨b,1,1⟩:Bd)].length).any (badA [⟨b,1,1⟩] 1 [v])=true:=fun hh=>by
   obtain⟨i,hi,hbi⟩:=List.any_eq_true.1 hh
   have hi0:i=0:=by simpa using hi
   subst hi0
   simp only[badA,Bool.and_eq_true,decide_eq_true_eq] at hbi
   exact h2 hbi.1
  have hz:[v].map zN=[v]:=by simp [zN,h2]
  have hAok:AOk 1 [(⟨b,1,1⟩:Bd)]→meanZ s 1 [⟨b,1,1⟩] [v]=v:=fun h=>by
   have hd1:∀ y,TruthN 1 [(⟨b,1,1⟩:Bd)] y→dotV y [v]=v:=fun y hy=>by
    have hl:=hy.len
    have he:=hy.each 0 (by simp)
    match y,hl with
    | [z], _ =>
      have:z=1:=by simp [bAt] at he;omega
      subst this
      simp [dotV]
   unfold meanZ
   cases s
   ·have e:meanHi 1 [⟨b,1,1⟩] [v]=v:=hd1 _ (h.truth _ _)
    simp only[Bool.false_eq_true,if_false,e]
    omega
   ·have e:meanLo 1 [⟨b,1,1⟩] [v]=v:=hd1 _ (h.truth _ _)
    simp only[if_true,e]
    omega
  unfold meanS
  rw[if_neg hnb,hz]
  exact hAok ⟨by omega,by simp [chOk],by simp [loS],by simp [hiS],by simp,by simp,fun c hc=>by simp at hc;subst hc;exact .inr hB⟩
theorem val_sure {bs:List Int}{st g:Int}(hB:∀ b∈bs,bedOk b=true) (hne:bs≠[]) {sd:Bool}{T:List Int}{n Nv:Int}{s:Nat}(hr:ROk (suK bs st g)) (vT:∀ x∈T,VOk x) (vn:VOk n)
 (hT:∀ y:Nat,lowG g≤y→y<s→(∃ v:Nat,1≤v∧T.getD y 0=(v:Int)*1000000∧endB g bs (3*v) y=true∧endB g bs (3*(v-1)) y=false)∨(T.getD y 0=Nv∧∀ M,endB g bs M y=false)) :
 ∀ (d left:Nat), lowG g≤left→left≤s→(d=0→left<s) →
   (∀ M:Nat,endB g bs (d+3*M) left=true→valA (suK bs st g) sd T n d left≤(M:Int)*1000000) ∧
   (valA (suK bs st g) sd T n d left=n∨valA (suK bs st g) sd T n d left=Nv∨∃ M:Nat,valA (suK bs st g) sd T n d left=(M:Int)*1000000∧endB g bs (d+3*M) left=true)
 | 0, left, h1, h2, h3=>by
   have h3:=h3 rfl
   have e:valA (suK bs st g) sd T n 0 left=T.getD left 0:=by simp [valA]
   rw[e]
   rcases hT left h1 h3 with⟨v,v1,v2,v3,v4⟩|⟨v1,v2⟩
   ·refine⟨fun M hM=>?_,.inr (.inr ⟨v,v2,by rw[Nat.zero_add];exact v3⟩)⟩
    rw[Nat.zero_add] at hM
    have:v≤M:=by
     refine Nat.not_lt.1 fun hlt=>?_
     have:=end_le hM (show 3*M≤3*(v-1) by omega)
     rw[v4] at this;cases this
    rw[v2];omega
   ·refine⟨fun M hM=>?_,.inr (.inl v1)⟩
    rw[v2] at hM;cases hM
 | d+1, left, h1, h2, _=>by
   have hlg:=lowG_le g
   have hl1:1≤left:=by omega
   have ih:=fun (y:Nat) (y1:lowG g≤y) (y2:y<left)=>val_sure hB hne (sd:=sd) (Nv:=Nv) hr vT vn hT d y y1 (by omega) (fun _=>by omega)
   have hvv:=fun x=>valA_vok hr (s:=sd) vT vn d x
   have hnv:∀ b,VOk (nextA g n left (valA (suK bs st g) sd T n d) b):=fun b=>nextA_vok vn hvv b
   have hval:valA (suK bs st g) sd T n (d+1) left=leastA (bs.map (nextA g n left (valA (suK bs st g) sd T n d))):=by
    show leastA ((bs.map sureA).map _)=_
    rw[List.map_map]
    congr 1
    exact List.map_congr_left fun b hb=>sure_mean (hB b hb) (hnv b)
   obtain⟨f1,f2,f3⟩:=foldl_min (bs.map (nextA g n left (valA (suK bs st g) sd T n d))) 2000000000
   have hmem:∃ b∈bs,leastA (bs.map (nextA g n left (valA (suK bs st g) sd T n d)))=nextA g n left (valA (suK bs st g) sd T n d) b:=by
    rcases f3 with f3|f3
    ·obtain⟨b,hb⟩:=List.exists_mem_of_ne_nil _ hne
     refine⟨b,hb,?_⟩
     have h4:=f2 _ (List.mem_map.2 ⟨b,hb,rfl⟩)
     have h5:=hnv b
     unfold VOk at h5
     show List.foldl min 2000000000 _=_
     omega
    ·obtain⟨b,hb,e⟩:=List.mem_map.1 f3
     exact⟨b,hb,e.symm⟩
   rw[hval]
   refine⟨fun M hM=>?_,?_⟩
   ·rw[show d+1+3*M=(d+3*M)+1 by omega] at hM
    unfold endB at hM
    have hz:((left:Int) == 0)=false:=by rw[beq_eq_false_iff_ne];omega
    rw[hz,Bool.false_or,List.any_eq_true] at hM
    obtain⟨x,hx,he⟩:=hM
    obtain⟨t1,t2,t3,t4⟩:=throws_mem hB hx
    refine Int.le_trans (f2 _ (List.mem_map.2 ⟨x.1,t1,rfl⟩)) ?_
    rcases next_cases (own:=n) t1 (hB _ t1) hl1 (valA (suK bs st g) sd T n d) with⟨q1,q2⟩|⟨q1,q2⟩|⟨y,q1,q2,q3,q4⟩
    ·rw[q2];omega
    ·rw[throws_ok2 hx] at q1;cases q1
    ·have hy:(y:Int)=x.2:=by
      obtain⟨_,_,_,u4⟩:=throws_mem hB q1
      simp only at u4
      omega
     rw[q4]
     exact (ih y q2 q3).1 M (by rw[hy];exact he)
   ·obtain⟨b,hb,e⟩:=hmem
    rw[e]
    rcases next_cases (own:=n) hb (hB b hb) hl1 (valA (suK bs st g) sd T n d) with⟨q1,q2⟩|⟨q1,q2⟩|⟨y,q1,q2,q3,q4⟩
    ·exact .inr (.inr ⟨0,by rw[q2];rfl,end_le (end_step (d:=0) hl1 q1 (end_zero g bs 0)) (by omega)⟩)
    ·exact .inl q2
    ·rw[q4]
     rcases (ih y q2 q3).2 with i1|i1|⟨M,i1,i2⟩
     ·exact .inl i1
     ·exact .inr (.inl i1)
     ·refine .inr (.inr ⟨M,i1,?_⟩)
      have:=end_step (d:=d+3*M) hl1 q1 i2
      rw[show d+1+3*M=d+3*M+1 by omega]
      exact this
theorem end_self {g:Int}{bs:List Int}(hB:∀ b∈bs,bedOk b=true):∀ (N left:Nat),left≤N→∀ M,endB g bs M left=true→endB g bs left left=true
 | _,0,_,_,_=>end_zero g bs 0
 | 0,left+1,h,_,_=>by omega
 | N+1, left+1, h, M, hM=>by
   have hz:(((left+1:Nat):Int) == 0)=false:=by rw[beq_eq_false_iff_ne];omega
   cases M with
   | zero=>unfold endB at hM;rw[hz] at hM;cases hM
   | succ M =>
     unfold endB at hM
     rw[hz,Bool.false_or,List.any_eq_true] at hM
     obtain⟨x,hx,he⟩:=hM
     obtain⟨t1,t2,t3,t4⟩:=throws_mem hB hx
     have hy:((x.2.toNat:Nat):Int)=x.2:=by omega
     have ih:=end_self hB N x.2.toNat (by omega) M (by rw[hy];exact he)
     rw[hy] at ih
     exact end_step (by omega) hx (end_le ih (by omega))
theorem end_first {g:Int}{bs:List Int}{s:Nat}(h0:endB g bs 0 s=false):∀ (w:Nat),endB g bs (3*w) s=true→∃ v:Nat,1≤v∧v≤w∧endB g bs (3*v) s=true∧endB g bs (3*(v-1)) s=false
 | 0,h=>by rw[Nat.mul_zero,h0] at h;cases h
 | w+1, h=>by
   cases hw:endB g bs (3*w) s
   ·exact⟨w+1,by omega,Nat.le_refl _,h,by rw[Nat.add_sub_cancel];exact hw⟩
   ·obtain⟨v,a,b,c,d⟩:=end_first h0 w hw
    exact⟨v,a,by omega,c,d⟩
def nvS (sd:Bool):Int:=if sd then 1000000000 else 2000000000
theorem sure_at {bs:List Int}{st g:Int}(hB:∀ b∈bs,bedOk b=true) (hne:bs≠[]) (hr:ROk (suK bs st g)) (sd:Bool):∀ s:Nat,lowG g≤s→(s:Int)≤st →
 (∃ v:Nat,1≤v∧(tabT (suK bs st g) sd).getD s 0=(v:Int)*1000000∧endB g bs (3*v) s=true∧endB g bs (3*(v-1)) s=false)∨((tabT (suK bs st g) sd).getD s 0=nvS sd∧∀ M,endB g bs M s=false):=by
 intro s
 induction s using Nat.strongRecOn with
 | _ s ih =>
   intro h1 h2
   have hlg:=lowG_le g
   have hst:=hr.start
   have hstE:(suK bs st g).start=st:=rfl
   obtain⟨nums,hnn,hns,g1,g2,g3⟩:=tabT_at hr sd (st:=s) h1 h2
   have hy:∀ y,y<s→nums.getD y 0=(tabT (suK bs st g) sd).getD y 0:=fun y hy=>by
    rw[g3 y (by omega),getD_set hns,if_neg (by omega)]
   have hset:∀ (n:Int) y,(nums.set s n).getD y 0=if s=y then n else nums.getD y 0:=fun n y=>getD_set hns n y
   have hvs:=fun (n:Int) (vn:VOk n)=>val_sure hB hne (sd:=sd) (T:=nums.set s n) (n:=n) (Nv:=nvS sd) (s:=s) hr (fun x hx=>by
    rcases List.mem_or_eq_of_mem_set hx with hx|rfl
    ·exact hnn x hx
    ·exact vn) vn (fun y y1 y2=>by
    rw[hset,if_neg (by omega),hy y y2]
    exact ih y y2 y1 (by omega)) 3 s h1 (Nat.le_refl _) (fun h=>by omega)
   have hgn:∀ n,(nums.set s n).getD s 0=n:=fun n=>by rw[hset,if_pos rfl]
   have hU:∀ n,zhA (suK bs st g) false (nums.set s n) s=(decide (1000000+valA (suK bs st g) false (nums.set s n) n 3 s≤n) || decide (n=2000000000)):=fun n=>by
    unfold zhA
    simp only[Bool.false_eq_true,if_false,hgn]
   have hL:∀ n,zhA (suK bs st g) true (nums.set s n) s=decide (n≤1000000+valA (suK bs st g) true (nums.set s n) n 3 s):=fun n=>by
    unfold zhA
    simp only[if_true,hgn]
   have h0:endB g bs 0 s=false:=by
    unfold endB
    rw[beq_eq_false_iff_ne];omega
   rw[g1]
   by_cases he:∃ M,endB g bs M s=true
   ·left
    obtain⟨M,hM⟩:=he
    have hs1:=end_le (end_self hB s s (Nat.le_refl _) M hM) (show s≤3*s by omega)
    obtain⟨v,v1,v2,v3,v4⟩:=end_first h0 s hs1
    refine⟨v,v1,?_,v3,v4⟩
    have hs60:s≤60:=by omega
    have key:∀ n:Int,VOk n→((v:Int)-1)*1000000<n→valA (suK bs st g) sd (nums.set s n) n 3 s=((v:Int)-1)*1000000:=fun n vn hn=>by
     obtain⟨a1,a2⟩:=hvs n vn
     have b1:=a1 (v-1) (by rw[show 3+3*(v-1)=3*v by omega];exact v3)
     have e1:(((v-1:Nat):Int))=(v:Int)-1:=by omega
     rw[e1] at b1
     rcases a2 with a2|a2|⟨W,w1,w2⟩
     ·omega
     ·have:nvS sd=1000000000∨nvS sd=2000000000:=by unfold nvS;cases sd<;>simp
      omega
     ·have hw:v-1≤W:=by
       refine Nat.not_lt.1 fun hlt=>?_
       have:=end_le w2 (show 3+3*W≤3*(v-1) by omega)
       rw[v4] at this;cases this
      omega
    cases sd
    ·refine numA_upper hr hnn hns h1 (by omega) ?_ (.inr ?_)
     ·rw[hU,key _ (by unfold VOk;omega) (by omega)]
      simp only[Bool.or_eq_true,decide_eq_true_eq]
      left;omega
     ·rw[hU,key _ (by unfold VOk;omega) (by omega)]
      simp only[Bool.or_eq_false_iff,decide_eq_false_iff_not]
      omega
    ·refine numA_lower hr hnn hns h1 (by omega) (.inr ?_) (.inr ?_)
     ·rw[hL,key _ (by unfold VOk;omega) (by omega)]
      simp only[decide_eq_true_eq]
      omega
     ·rw[hL,key _ (by unfold VOk;omega) (by omega)]
      simp only[decide_eq_false_iff_not]
      omega
   ·right
    have hno:∀ M,endB g bs M s=false:=fun M=>by
     cases h:endB g bs M s
     ·rfl
     ·exact absurd ⟨M,h⟩ he
    refine⟨?_,hno⟩
    obtain⟨_,a2⟩:=hvs 1000000000 (by unfold VOk;omega)
    cases sd
    ·show _=(2000000000:Int)
     refine numA_never hr hnn hns h1 ?_
     rw[hU]
     simp only[Bool.or_eq_false_iff,decide_eq_false_iff_not]
     rcases a2 with a2|a2|⟨W,w1,w2⟩
     ·omega
     ·have:nvS false=2000000000:=rfl
      omega
     ·rw[hno] at w2;cases w2
    ·show _=(1000000000:Int)
     refine numA_lower hr hnn hns h1 (by omega) (.inr ?_) (.inl rfl)
     rw[hL]
     simp only[decide_eq_true_eq]
     rcases a2 with a2|a2|⟨W,w1,w2⟩
     ·omega
     ·have:nvS true=1000000000:=rfl
      omega
     ·rw[hno] at w2;cases w2
set_option maxHeartbeats 4000000
def armB:List Int:=[0,101,102,103,105,120,125,201,202,220,225,301,320]
theorem lawbeds_ok:ACalls Tryz.prog 61 [] (ints armB):=by
 refine zas (rs:=[ints armB]) [.tmp 0] Tryz.func61 rfl (by kernel_rfl) Tryz.ntmps61 rfl (by simp) rfl fun C vs=>?_
 apply zq
 refine zb fun K hK=>?_;simp only[go_sem];apply hK;apply zw (zk []);simp only[go_sem]
 apply zq
 refine zb fun K hK=>?_;simp only[go_sem];apply hK;apply zw (zk [0]);simp only[go_sem];apply ze;simp only[go_sem]
 try rfl
theorem aspan_ok (a b:Int):ACalls Tryz.prog 30 [i64 a,i64 b] (.ag [i64 a,i64 b]):=by
 refine zas (rs:=[.ag [i64 a,i64 b]]) [.cell 4 48] Tryz.func30 rfl (by kernel_rfl) Tryz.ntmps30 rfl (by simp) rfl fun C vs=>?_
 apply zq
 refine zb fun K hK=>?_;simp only[go_sem];apply hK;apply zw (zk [0,1,4]);simp only[go_sem]
 apply zq
 refine zb fun K hK=>?_;simp only[go_sem];apply hK;apply zw (zk [4]);simp only[go_sem];apply ze;simp only[go_sem]
theorem armlow_ok (g:Int):ACalls Tryz.prog 31 [i64 g] (i64 (lowG g)):=by
 refine zas (rs:=[i64 (lowG g)]) [.tmp 2] Tryz.func31 rfl (by kernel_rfl) Tryz.ntmps31 rfl (by simp) rfl fun C vs=>?_
 apply zq
 refine zb fun K hK=>?_;simp only[go_sem];apply hK;apply zw (zk [0]);simp only[go_sem]
 repeat apply zq
 refine zb fun K hK=>?_;simp only[go_sem];apply hK;apply zw (zk [0,4]);simp only[go_sem]
 by_cases h:g=0
 ·subst h
  apply zc rfl<;>intro hc<;>(try simp only[go_sem] at hc)
  apply zq
  refine zb fun K hK=>?_;simp only[go_sem];apply hK;apply zw (zk [2]);simp only[go_sem];apply ze;simp only[go_sem]
  rfl
 ·have e:(g == 0)=false:=by simpa using h
  rw[e]
  apply zc rfl<;>intro hc<;>(try simp only[go_sem] at hc)
  apply zx
  try simp only[go_sem]
  apply zq
  refine zb fun K hK=>?_;simp only[go_sem];apply hK;apply zw (zk [2]);simp only[go_sem];apply ze;simp only[go_sem]
  simp [lowG,h]
def addS (w:Int) (k:Nat) (L:List Int):List Int:=if L.length<4∧(hasB w k=true∨(k=12∧L=[])) then L++[armB.getD k 0] else L
def iterS (w:Int):Nat→List Int
 | 0=>[]
 | j+1=>addS w (j+1) (iterS w j)
def bsS (w:Int):List Int:=iterS w 12
theorem iterS_full (w:Int) (j:Nat) (h:¬ (iterS w j).length<4):∀ m,iterS w (j+m)=iterS w j
 | 0=>rfl
 | m+1=>by
   show addS w (j+m+1) (iterS w (j+m))=_
   rw[iterS_full w j h m]
   unfold addS
   rw[if_neg fun h'=>h h'.1]
theorem armB_ok {k:Nat}(h1:1≤k) (h2:k≤12):bedOk (armB.getD k 0)=true:=by
 have:∀ k,k<13→1≤k→bedOk (armB.getD k 0)=true:=by decide
 exact this k (by omega) h1
theorem iterS_ok (w:Int):∀ j,j≤12→(iterS w j).length≤4∧∀ b∈iterS w j,bedOk b=true
 | 0,_=>⟨by simp [iterS],fun b hb=>by simp [iterS] at hb⟩
 | j+1, hj=>by
   obtain⟨h1,h2⟩:=iterS_ok w j (by omega)
   show (addS w (j+1) (iterS w j)).length≤4∧∀ b∈addS w (j+1) (iterS w j),bedOk b=true
   unfold addS
   split
   ·rename_i h
    refine⟨by rw[List.length_append];simp;omega,fun b hb=>?_⟩
    rcases List.mem_append.1 hb with hb|hb
    ·exact h2 b hb
    ·rw[List.mem_singleton] at hb
     subst hb
     exact armB_ok (by omega) hj
   ·exact⟨h1,h2⟩
theorem bsS_ok (w:Int):(∀ b∈bsS w,bedOk b=true)∧1≤(bsS w).length∧(bsS w).length≤4:=by
 obtain⟨h1,h2⟩:=iterS_ok w 12 (Nat.le_refl _)
 refine⟨h2,?_,h1⟩
 show 1≤(addS w 12 (iterS w 11)).length
 unfold addS
 split
 ·rw[List.length_append];simp
 ·rename_i h
  by_cases hl:(iterS w 11).length<4
  ·have:iterS w 11≠[]:=fun e=>h ⟨hl,.inr ⟨rfl,e⟩⟩
   exact List.length_pos_iff.2 this
  ·omega
theorem armsure_ok (w:Int):ACalls Tryz.prog 29 [.it .u16 w] (.tu [lawV 1 (sureL (bsS w)),ints (bsS w)]):=by
 have hlb:=lawbeds_ok
 have hsp:=aspan_ok 1 1
 refine zas (rs:=[lawV 1 (sureL (bsS w)),ints (bsS w)]) [.cell 2 24,.tmp 3] Tryz.func29 rfl (by kernel_rfl) Tryz.ntmps29 rfl (by simp) rfl fun C vs=>?_
 apply zq
 refine zb fun K hK=>?_;simp only[go_sem];apply hK;apply zw (zk [0,2]);simp only[go_sem]
 apply zq
 refine zb fun K hK=>?_;simp only[go_sem]
 refine zh (hlb) rfl (by simp only[go_sem,i64,ints]) (by simp only[go_sem,i64,ints]) ?_
 (try simp only[go_sem]);apply hK;refine zw (sub_own 6 36 84 1 (by omega) (by rfl)) ?_;apply zw (zk [0,2,4,5,6]);simp only[go_sem]
 repeat apply zq
 refine zb fun K hK=>?_;simp only[go_sem];apply hK;apply zw (zk [0,2,4,5,6,7]);simp only[go_sem];apply zd;refine zw (sub_ownB 4 1 57 93 2 (by omega) (by omega) rfl (by simp only[go_sem,List.getElem?_cons_succ,List.getElem?_cons_zero])) ?_
 try simp only[go_sem]
 refine zuv (n:=61) 12 (fun i vs=>[(0,.r (.it .u16 w)),(2,.pt 2 (vs 2) 0),(4,.pt 4 (vs 4) 0),(5,.r (ints armB)),(6,.os 36 (vs 36) 1 0 (iterS w i).length),(7,.r (i64 ((i:Int)+1)))])
  (fun i vs=>[(2,.box [.r (i64 0),.r .ns]),(4,.box [.r (i64 1),.os 57 (vs 57) 2 0 (iterS w i).length]),(36,.arr 84 1 (arrV (iterS w i))),(57,.arr 93 2 ((sureL (iterS w i)).map aimR))]) (fun _=>True) 0 (zj [] ?_ ?_) (Nat.zero_le _) trivial ?_
 ·try simp only[go_sem]
  try rfl
 ·try simp only[go_sem]
  try rfl
 intro i vs hi _
 obtain⟨Lc,hLc⟩:∃ Lc,Lc=iterS w i:=⟨_,rfl⟩
 have hst:iterS w (i+1)=addS w (i+1) Lc:=by rw[hLc];rfl
 have hfull:=iterS_full w i
 rw[← hLc] at hfull ⊢
 have htk:(arrV Lc).take Lc.length=arrV Lc:=List.take_of_length_le (by simp)
 have htk2:((sureL Lc).map aimR).take Lc.length=(sureL Lc).map aimR:=List.take_of_length_le (by simp [sureL])
 have hsl:(sureL Lc).length=Lc.length:=by simp [sureL]
 obtain⟨k,hk⟩:∃ k,k=i+1:=⟨_,rfl⟩
 have hki:(i:Int)+1=(k:Int):=by omega
 rw[hst,← hk,hki]
 have wk:IntKind.i64.wrap ((k:Int)+1)=((i+1:Nat):Int)+1:=by rw[zI]<;>omega
 by_cases hl4:Lc.length<4
 ·have c2:decide ((Lc.length:Int)<4)=true:=decide_eq_true (by omega)
  by_cases h12:i<12
  ·have c1:decide ((k:Int)<13)=true:=decide_eq_true (by omega)
   have h13:armB.length=13:=rfl
   obtain⟨b,hb⟩:=zol (show k<armB.length by omega)
   have hkl:k<armB.length:=by omega
   have hbd:armB.getD k 0=b:=by simp [List.getD,hb]
   repeat apply zq
   refine zb fun K hK=>?_;simp only[go_sem,c1,c2,List.length_map]
   (try intros)
   apply hK;apply zw (zk [0,2,4,5,6,7,17]);simp only[go_sem]
   apply zc rfl<;>intro hc<;>(try simp only[go_sem] at hc)
   apply zx
   try simp only[go_sem]
   apply zq
   apply zd
   by_cases hC:hasB w k=true∨(k=12∧Lc=[])
   ·have hadd:addS w k Lc=Lc++[b]:=by unfold addS;rw[if_pos ⟨hl4,hC⟩,hbd]
    rw[hadd]
    apply zq
    refine zaw (n:=61) (fun (_:Unit) vs=>[(0,.r (.it .u16 w)),(2,.pt 2 (vs 2) 0),(4,.pt 4 (vs 4) 0),(5,.r (ints armB)),(6,.os 36 (vs 36) 1 0 Lc.length),(7,.r (i64 (k:Int))),(34,.r (.bo true))])
     (fun _ vs=>[(2,.box [.r (i64 0),.r .ns]),(4,.box [.r (i64 1),.os 57 (vs 57) 2 0 Lc.length]),(36,.arr 84 1 (arrV Lc)),(57,.arr 93 2 ((sureL Lc).map aimR))]) (fun _=>True) (fun _ h=>h) ?_ ?_
    ·cases hB:hasB w k
     ·have hB':(bitAnd IntKind.u16 (shrI IntKind.u16 w (IntKind.u64.wrap (k:Int))) 1 == 1)=false:=hB
      have hC2:k=12∧Lc=[]:=by
       rcases hC with h|h
       ·rw[hB] at h;cases h
       ·exact h
      have d1:((k:Int) == 12)=true:=by simp;omega
      have d2:((Lc.length:Int) == 0)=true:=by simp [hC2.2]
      refine zb fun K hK=>?_;simp only[go_sem,hB',d1,d2,List.length_map]
      (try intros)
      apply hK
      refine⟨(),trivial,zj [] ?_ ?_⟩
      ·try simp only[go_sem]
      ·try simp only[go_sem]
     ·have hB':(bitAnd IntKind.u16 (shrI IntKind.u16 w (IntKind.u64.wrap (k:Int))) 1 == 1)=true:=hB
      refine zb fun K hK=>?_;simp only[go_sem,hB',List.length_map]
      (try intros)
      apply hK
      refine⟨(),trivial,zj [] ?_ ?_⟩
      ·try simp only[go_sem]
      ·try simp only[go_sem]
    intro _ vs _
    apply zc rfl<;>intro hc<;>(try simp only[go_sem] at hc)
    apply zq
    refine zb fun K hK=>?_;simp only[go_sem,hb,hkl,List.length_map]
    refine⟨by omega,?_⟩
    apply hK;apply zw (zk [0,2,4,5,6,7]);simp only[go_sem]
    refine awp_dreg3 [(2,some 2),(4,some 4),(5,none),(6,some 36),(7,none)] [4] follows (by decide +kernel) (by kernel_rfl) (by simp only[keysOk,List.mem_cons,List.not_mem_nil,forall_eq_or_imp,Oc.keyOf,go_sem];simp) (by intro k hk;simp only[List.mem_cons,List.not_mem_nil,or_false] at hk;first|(subst hk;exact⟨_,rfl⟩)|(rcases hk with rfl|rfl<;>exact⟨_,rfl⟩)|(rcases hk with rfl|rfl|rfl<;>exact⟨_,rfl⟩)) fun K hK=>?_
    simp only[go_sem,hb,hkl,hsl,List.length_map]
    refine zh (hsp) rfl (by simp only[go_sem,i64,ints,hb,hkl,hsl,List.length_map]) (by simp only[go_sem,i64,ints,hb,hkl,hsl,List.length_map]) ?_
    (try simp only[go_sem,hb,hkl,hsl,List.length_map])
    refine⟨by omega,?_⟩
    apply hK;apply zw (zk [0,2,4,5,6,7]);simp only[go_sem];refine zb fun K hK=>?_;simp only[go_sem,wk];apply hK
    try simp only[go_sem]
    refine⟨by omega,zj [] ?_ ?_⟩
    ·try simp only[go_sem]
     try simp
     try omega
    ·try simp only[go_sem]
     try simp [sureL,sureA,aimR,bedR]
   ·have hadd:addS w k Lc=Lc:=by unfold addS;rw[if_neg fun h=>hC h.2]
    rw[hadd]
    have hB:hasB w k=false:=by
     cases h:hasB w k
     ·rfl
     ·exact absurd (.inl h) hC
    have hB':(bitAnd IntKind.u16 (shrI IntKind.u16 w (IntKind.u64.wrap (k:Int))) 1 == 1)=false:=hB
    apply zq
    refine zaw (n:=61) (fun (_:Unit) vs=>[(0,.r (.it .u16 w)),(2,.pt 2 (vs 2) 0),(4,.pt 4 (vs 4) 0),(5,.r (ints armB)),(6,.os 36 (vs 36) 1 0 Lc.length),(7,.r (i64 (k:Int))),(34,.r (.bo false))])
     (fun _ vs=>[(2,.box [.r (i64 0),.r .ns]),(4,.box [.r (i64 1),.os 57 (vs 57) 2 0 Lc.length]),(36,.arr 84 1 (arrV Lc)),(57,.arr 93 2 ((sureL Lc).map aimR))]) (fun _=>True) (fun _ h=>h) ?_ ?_
    ·by_cases hk12:k=12
     ·have d1:((k:Int) == 12)=true:=by simp;omega
      have hne:Lc≠[]:=fun e=>hC (.inr ⟨hk12,e⟩)
      have hp:=List.length_pos_iff.2 hne
      have d2:((Lc.length:Int) == 0)=false:=by rw[beq_eq_false_iff_ne];omega
      refine zb fun K hK=>?_;simp only[go_sem,hB',d1,d2,List.length_map]
      (try intros)
      apply hK
      refine⟨(),trivial,zj [] ?_ ?_⟩
      ·try simp only[go_sem]
      ·try simp only[go_sem]
     ·have d1:((k:Int) == 12)=false:=by rw[beq_eq_false_iff_ne];omega
      refine zb fun K hK=>?_;simp only[go_sem,hB',d1,List.length_map]
      (try intros)
      apply hK
      refine⟨(),trivial,zj [] ?_ ?_⟩
      ·try simp only[go_sem]
      ·try simp only[go_sem]
    intro _ vs _
    apply zc rfl<;>intro hc<;>(try simp only[go_sem] at hc)
    apply zx
    try simp only[go_sem]
    refine zb fun K hK=>?_;simp only[go_sem,wk];apply hK
    try simp only[go_sem]
    refine⟨by omega,zj [] ?_ ?_⟩
    ·try simp only[go_sem]
     try omega
    ·try simp only[go_sem]
  ·have c1:decide ((k:Int)<13)=false:=decide_eq_false (by omega)
   have hfin:bsS w=Lc:=by unfold bsS;rw[hLc,show i=12 by omega]
   rw[hfin]
   repeat apply zq
   refine zb fun K hK=>?_;simp only[go_sem,c1,List.length_map]
   (try intros)
   apply hK;apply zw (zk [2,4,6,17]);simp only[go_sem]
   apply zc rfl<;>intro hc<;>(try simp only[go_sem] at hc)
   apply zf;simp only[go_sem];refine zw (sub_frz 6 36 (ty:=84) (sz:=1) (off:=0) (m:=Lc.length) (es:=arrV Lc) (by omega) rfl (by rfl) (by simp)) ?_;rw[List.drop_zero,htk]
   refine zw (sub_frzB 4 1 57 (ty:=93) (sz:=2) (off:=0) (m:=Lc.length) (es:=(sureL Lc).map aimR) (by omega) (by omega) rfl (by simp only[go_sem,List.getElem?_cons_succ,List.getElem?_cons_zero]) (by rfl) (by simp [sureL])) ?_;simp only[go_sem,List.drop_zero,htk2,List.set_cons_succ,List.set_cons_zero];refine zw (zfP 4 4 [i64 1,aimsR (sureL Lc)] (by omega) (by try simp only[go_sem]) (by try simp only[go_sem])) ?_;apply zw (zk [2,4,6]);simp only[go_sem]
   apply zq
   refine zb fun K hK=>?_;simp only[go_sem];apply hK;apply zw (zk [2,3]);simp only[go_sem];apply ze;simp only[go_sem]
   try exact⟨rv_le _,rv_le _⟩
 ·have c2:decide ((Lc.length:Int)<4)=false:=decide_eq_false (by omega)
  have hfin:bsS w=Lc:=by
   have:=hfull hl4 (12-i)
   rw[show i+(12-i)=12 by omega] at this
   exact this
  rw[hfin]
  by_cases h12:i<12
  ·have c1:decide ((k:Int)<13)=true:=decide_eq_true (by omega)
   repeat apply zq
   refine zb fun K hK=>?_;simp only[go_sem,c1,c2,List.length_map]
   (try intros)
   apply hK;apply zw (zk [2,4,6,17]);simp only[go_sem]
   apply zc rfl<;>intro hc<;>(try simp only[go_sem] at hc)
   apply zf;simp only[go_sem];refine zw (sub_frz 6 36 (ty:=84) (sz:=1) (off:=0) (m:=Lc.length) (es:=arrV Lc) (by omega) rfl (by rfl) (by simp)) ?_;rw[List.drop_zero,htk]
   refine zw (sub_frzB 4 1 57 (ty:=93) (sz:=2) (off:=0) (m:=Lc.length) (es:=(sureL Lc).map aimR) (by omega) (by omega) rfl (by simp only[go_sem,List.getElem?_cons_succ,List.getElem?_cons_zero]) (by rfl) (by simp [sureL])) ?_;simp only[go_sem,List.drop_zero,htk2,List.set_cons_succ,List.set_cons_zero];refine zw (zfP 4 4 [i64 1,aimsR (sureL Lc)] (by omega) (by try simp only[go_sem]) (by try simp only[go_sem])) ?_;apply zw (zk [2,4,6]);simp only[go_sem]
   apply zq
   refine zb fun K hK=>?_;simp only[go_sem];apply hK;apply zw (zk [2,3]);simp only[go_sem];apply ze;simp only[go_sem]
   try exact⟨rv_le _,rv_le _⟩
  ·have c1:decide ((k:Int)<13)=false:=decide_eq_false (by omega)
   repeat apply zq
   refine zb fun K hK=>?_;simp only[go_sem,c1,List.length_map]
   (try intros)
   apply hK;apply zw (zk [2,4,6,17]);simp only[go_sem]
   apply zc rfl<;>intro hc<;>(try simp only[go_sem] at hc)
   apply zf;simp only[go_sem];refine zw (sub_frz 6 36 (ty:=84) (sz:=1) (off:=0) (m:=Lc.length) (es:=arrV Lc) (by omega) rfl (by rfl) (by simp)) ?_;rw[List.drop_zero,htk]
   refine zw (sub_frzB 4 1 57 (ty:=93) (sz:=2) (off:=0) (m:=Lc.length) (es:=(sureL Lc).map aimR) (by omega) (by omega) rfl (by simp only[go_sem,List.getElem?_cons_succ,List.getElem?_cons_zero]) (by rfl) (by simp [sureL])) ?_;simp only[go_sem,List.drop_zero,htk2,List.set_cons_succ,List.set_cons_zero];refine zw (zfP 4 4 [i64 1,aimsR (sureL Lc)] (by omega) (by try simp only[go_sem]) (by try simp only[go_sem])) ?_;apply zw (zk [2,4,6]);simp only[go_sem]
   apply zq
   refine zb fun K hK=>?_;simp only[go_sem];apply hK;apply zw (zk [2,3]);simp only[go_sem];apply ze;simp only[go_sem]
   try exact⟨rv_le _,rv_le _⟩
theorem kWays:ACalls Tryz.prog 40 [.ag [ints [120,125,205,220,225,320],i64 1,i64 2],i64 110] (.tu [.sl 1 [[ints [320,225]]],i64 0]):=by
 have h:=waysAll_ok sixO 1 2 110 sixO_ok (by omega) (by omega) (by omega) (by decide +kernel)
 have e:allO 1 sixO 110 110 2=[[320,225]]:=by decide +kernel
 rw[e] at h
 exact h
def fsO:List (FuncId × Nat):=[(41,0)]
theorem fsO_ok:allOk Tryz.prog fsO=true:=by kernel_rfl
def oOrc:Orc:=[(73,[.ag Bo.fourC,.ag [i64 500,i64 500]],.tu [i64 106,.bo false,i64 0]),(40,[.ag [ints [120,125,205,220,225,320],i64 1,i64 2],i64 110],.tu [.sl 1 [[ints [320,225]]],i64 0])]
theorem oOrc_ok:orcOk Tryz.prog oOrc:=⟨Bo.bed_ok,kWays,trivial⟩
theorem knownout_ok:ACalls Tryz.prog 41 [] (.bo true):=evalX_ok follows fsO_ok oOrc_ok (k:=200) (by kernel_rfl) (by kernel_rfl)
theorem armB_asc:∀ j,j<12→armB.getD j 0<armB.getD (j+1) 0:=by decide
theorem iterS_asc (w:Int):∀ j,j≤12→(iterS w j).Pairwise (· < ·)∧∀ b∈iterS w j,b≤armB.getD j 0
 | 0,_=>⟨by simp [iterS],fun b hb=>by simp [iterS] at hb⟩
 | j+1, hj=>by
   obtain⟨h1,h2⟩:=iterS_asc w j (by omega)
   have h3:=armB_asc j (by omega)
   show (addS w (j+1) (iterS w j)).Pairwise (· < ·)∧∀ b∈addS w (j+1) (iterS w j),b≤armB.getD (j+1) 0
   unfold addS
   split
   ·refine⟨?_,fun b hb=>?_⟩
    ·rw[List.pairwise_append]
     refine⟨h1,by simp,fun a ha b hb=>?_⟩
     rw[List.mem_singleton] at hb
     subst hb
     have:=h2 a ha
     omega
    ·rcases List.mem_append.1 hb with hb|hb
     ·have:=h2 b hb;omega
     ·rw[List.mem_singleton] at hb;omega
   ·exact⟨h1,fun b hb=>by have:=h2 b hb;omega⟩
theorem bsS_bds (w:Int):BdsO (bsS w):=by
 obtain⟨h1,h2,h3⟩:=bsS_ok w
 refine⟨(iterS_asc w 12 (Nat.le_refl _)).1,h2,by omega,fun b hb=>⟨h1 b hb,?_⟩⟩
 have:=h1 b hb
 simp only[bedOk,Bool.or_eq_true,Bool.and_eq_true,decide_eq_true_eq] at this
 omega
end Go.Proofs.YtgfbenanljjgaaaGreat.Du.Th.Ai

namespace Go.Oc
open Go Go.RowKit
def NamedU (n:Nat) (F:Addr→(Nat→Nat)→List (Nat × AV)) (R:Addr→(Nat→Nat)→List (Nat × RowC)) (s:AS):Prop:=∀ C a w,SRel C s a w→∃ x vs,SRel C (st n (F x vs) vs (R x vs)) a w
theorem named_fit {n:Nat}{F:Addr→(Nat→Nat)→List (Nat × AV)}{R:Addr→(Nat→Nat)→List (Nat × RowC)}{x:Addr}{s:AS}(h:FitV n (F x) (R x) s):NamedU n F R s:=fun C a w hs=>by
 obtain⟨vs,hsub⟩:=h
 exact⟨x,vs,hsub C a w hs⟩
theorem named_name {n:Nat}{F:Addr→(Nat→Nat)→List (Nat × AV)}{R:Addr→(Nat→Nat)→List (Nat × RowC)}{l:List (Nat × AV)}{vs:Nat→Nat}{cs:List (Nat × RowC)}(t:Nat) {k v:Nat}(ht:look l t = .pt k v 0) (hv:v=vs k) (h:∀ u,FitV n (F u) (R u) (st n ((t,.pu k v u)::l) vs cs)):NamedU n F R (st n l vs cs):=fun C a w ⟨p,hp⟩=>by
 have hx:=hp.tm t
 have e2:(st n l vs cs).tm t = .pt k v 0:=ht
 rw[e2] at hx
 simp only[AV.rel] at hx
 obtain⟨b,hb,hbv⟩:=hx.2 (by rw[hv];rfl)
 obtain⟨vs',hsub⟩:=h ⟨b,0,none⟩
 refine⟨⟨b,0,none⟩,vs',hsub C a w ⟨p,{ hp with tm:=fun j=>?_ }⟩⟩
 show AV.rel w _ _ (look ((t,.pu k v ⟨b,0,none⟩)::l) j) _
 rw[look_cons]
 split
 ·rename_i e
  subst e
  simp only[AV.rel];exact⟨hbv,hx⟩
 ·exact hp.tm j
def stepAllU (P:Program) (ops:Array Oper) (n:Nat) (F:Addr→(Nat→Bool)→(Nat→Nat)→List (Nat × AV)) (R:Addr→(Nat→Bool)→(Nat→Nat)→List (Nat × RowC)):Nat→List Oper→Prop
 | _,[]=>True
 | k,o::rest=>(∀ x b vs,(∀ j e,j<ops.size→(deps ops j).contains e=true→b j=true→b e=true)→b k=false→(∀ e∈deps ops k,b e=true) →
  xop P false o (NamedU n (fun x=>F x (upd b k true)) (fun x=>R x (upd b k true))) (st n (F x b vs) vs (R x b vs)))∧stepAllU P ops n F R (k+1) rest
theorem stepAllU_get {P:Program}{ops:Array Oper}{n:Nat}{F:Addr→(Nat→Bool)→(Nat→Nat)→List (Nat × AV)}{R:Addr→(Nat→Bool)→(Nat→Nat)→List (Nat × RowC)}:∀ {l:List Oper}{k i:Nat}{o:Oper},stepAllU P ops n F R k l→l[i]? = some o →
 ∀ x b vs, (∀ j e, j<ops.size→(deps ops j).contains e=true→b j=true→b e=true)→b (k+i)=false→(∀ e∈deps ops (k+i), b e=true) →
   xop P false o (NamedU n (fun x=>F x (upd b (k+i) true)) (fun x=>R x (upd b (k+i) true))) (st n (F x b vs) vs (R x b vs))
 | [],_,_,_,_,h=>by simp at h
 | x::l, k, 0, o, hs, h=>by
   simp at h
   subst h
   exact hs.1
 | x::l, k, i+1, o, hs, h=>by
   have:=stepAllU_get (k:=k+1) (i:=i) hs.2 (by simpa using h)
   rwa [show k+1+i=k+(i+1) by omega] at this
section
variable {P:Program}{C:Ctx}{s:AS}{a:Act}{w:World}{ops:Array Oper}
theorem inv_anyU {Q:AS→Prop}{Q':Exit→Act→World→Prop}(hQ:∀ s a w,Q s→SRel C s a w→Q' .normal a w) {n:Nat}{F:Addr→(Nat→Bool)→(Nat→Nat)→List (Nat × AV)}{R:Addr→(Nat→Bool)→(Nat→Nat)→List (Nat × RowC)}
 (hd:dstOk ops n=true) (hg:ops.all (fun o=>o.guard.isNone)=true) (hu:upOk ops=true) (hstep:stepAllU P ops n F R 0 ops.toList)
 (hend:∀ x b vs,(∀ j,b j=true)→Q (st n (F x b vs) vs (R x b vs))) :
 ∀ (fuel:Nat) (x:Addr) (vs:Nat→Nat) (listed:Array Bool) (a:Act) (w:World), listed.size=ops.size→down ops listed→unl listed ops.size≤fuel→SRel C (st n (F x (fun j=>listed.getD j true) vs) vs (R x (fun j=>listed.getD j true) vs)) a w →
   wpAnyIn (fnc C.rd) 0 P .any ops Q' fuel listed a w:=by
 have all:∀ {listed:Array Bool},listed.size=ops.size→(∀ j,j<ops.size→listed.getD j true=true)→∀ j,(fun j=>listed.getD j true) j=true:=fun {listed} hsz h j=>by
  by_cases hj:j<ops.size
  ·exact h j hj
  ·show listed.getD j true=true
   have:¬ j<listed.size:=by omega
   simp [this]
 intro fuel
 induction fuel with
 | zero =>
   intro x vs listed a w hsz hdn hf hs
   have h0:=unl_zero (listed:=listed) ops.size (by omega)
   refine⟨List.eq_nil_iff_forall_not_mem.2 fun j hj=>?_,hQ _ _ _ (hend _ _ _ (all hsz h0)) hs⟩
   obtain⟨h1,o,ho,_⟩:=mem_ready.1 hj
   have:=h0 j (Array.getElem?_eq_some_iff.1 ho).1
   rw[this] at h1
   cases h1
 | succ fuel ih =>
   intro x vs listed a w hsz hdn hf hs
   refine⟨fun h0=>hQ _ _ _ (hend _ _ _ (all hsz (ready_nil hu h0 hsz))) hs,fun i hi=>?_⟩
   obtain⟨hi1,o,ho,hall⟩:=mem_ready.1 hi
   unfold wpOpIn
   rw[ho]
   simp only
   have hil:i<ops.size:=(Array.getElem?_eq_some_iff.1 ho).1
   have hgo:o.guard=none:=by
    have:=Array.all_eq_true_iff_forall_mem.1 hg o (Array.mem_of_getElem? ho)
    simpa using this
   obtain⟨p,hp⟩:=hs
   rw[if_pos (wantA_sound hp (by simp [wantA,hgo]))]
   have hx:=stepAllU_get (k:=0) (i:=i) hstep (by rw[Array.getElem?_toList];exact ho) x (fun j=>listed.getD j true) vs (fun j e hj he hb=>?_) (by rw[Nat.zero_add];exact hi1) (fun e he=>?_)
   ·rw[Nat.zero_add] at hx
    refine xop_sound hp hx (dstOk_get hd ho) (fun a' w' p' s' hs' hn hK=>?_) (dstOk_nd hd ho)
    obtain⟨x',vs',hsub⟩:=hK C a' w' ⟨p',hs'⟩
    have e:upd (fun j=>listed.getD j true) i true=fun j=>(listed.setIfInBounds i true).getD j true:=by
     funext j
     rw[getD_setT]
     rfl
    rw[e] at hsub
    exact ih x' vs' _ a' w' (by simpa using hsz) (down_set hdn hi) (by have:=unl_set hi1 ops.size hil;omega) hsub
   ·have hjs:j<listed.size:=by omega
    have hb':listed.getD j true=true:=hb
    have h2:=hdn j (by simpa [hjs] using hb') e (by simpa using he)
    show listed.getD e true=true
    by_cases hes:e<listed.size
    ·simpa [hes] using h2
    ·simp [hes]
   ·have h2:=ready_deps hi e (by simpa using he)
    show listed.getD e true=true
    by_cases hes:e<listed.size
    ·simpa [hes] using h2
    ·simp [hes]
end
theorem awp_invU {P:Program}{C:Ctx}{id:Nat}{l:List Oper}{n:Nat}{Q:Exit→AS→Prop}{s:AS}(F:Addr→(Nat→Bool)→(Nat→Nat)→List (Nat × AV)) (R:Addr→(Nat→Bool)→(Nat→Nat)→List (Nat × RowC)) (x0:Addr) (hm:P.follows .mixedOrders=true)
 (hd:dstOk l.toArray n=true) (hg:l.toArray.all (fun o=>o.guard.isNone)=true) (hu:upOk l.toArray=true) (h0:FitV n (F x0 fun j=>decide (l.length≤j)) (R x0 fun j=>decide (l.length≤j)) s)
 (hstep:stepAllU P l.toArray n F R 0 l) (hend:∀ x b vs,(∀ j,b j=true)→Q .normal (st n (F x b vs) vs (R x b vs))):awp P C (.region id l.toArray true) Q s:=fun a w hs=>by
 obtain⟨vs,hsub⟩:=h0
 obtain⟨p,hp⟩:=hsub C a w hs
 have hs':SR C p _ a { w with drawn:=w.drawn+1 }:=hp.below (w':=w.drew) ((Below.refl _ _).drew) (fun _ h=>h) (fun _ h=>.inl h) hp.rb
 refine wpIn_region_any hm ?_
 have e:(fun j=>(Array.replicate l.toArray.size false).getD j true)=fun j=>decide (l.length≤j):=by
  funext j
  by_cases h:j<l.length
  ·have:¬ l.length≤j:=by omega
   simp [h,this]
  ·have:l.length≤j:=by omega
   simp [h,this]
 refine inv_anyU (Q:=fun s=>Q .normal s) (n:=n) (F:=F) (R:=R) (fun s a w hq hs=>⟨s,hs,hq⟩) hd hg hu (by simpa using hstep) hend _ x0 vs _ _ _ (by simp) (fun j hj=>?_) ?_ ?_
 ·exfalso
  simp only[Array.getD_eq_getD_getElem?,Array.getElem?_replicate] at hj
  split at hj<;>simp at hj
 ·have:∀ m,unl (Array.replicate l.toArray.size false) m≤m:=by
   intro m
   induction m with
   | zero=>exact Nat.le_refl _
   | succ m ih=>simp only[unl];split<;>omega
  exact this _
 ·rw[e]
  exact⟨p,hs'⟩
end Go.Oc

namespace Go.Proofs.YtgfbenanljjgaaaGreat.Du.Th.Ai.At
open Go Go.Oc
set_option maxRecDepth 8000
set_option maxHeartbeats 8000000
def atV (r:Rk) (s:Bool) (T:List Int) (st left k:Nat):List Int:=r.aims.map (meanA r s (T.getD st 0) (left:Int) (valA r s T (T.getD st 0) k))
def vY (b:Nat→Bool) (j:Nat) (v:AV):AV:=if b j then v else .r .un
def mkF (r:Rk) (s:Bool) (T:List Int) (st left k:Nat) (u:Addr) (b:Nat→Bool) (vs:Nat→Nat):List (Nat × AV) :=
 [(2,.r (.bo s)),(3,.r (.rp [i64 r.d,aimsR r.aims,i64 r.start,i64 r.out])),(4,.r (.rp [i64 (st:Int),i64 (left:Int),i64 ((k:Int)+1)])),(6,.pt 6 (vs 6) 0),
  (9,vY b 0 (.r (rkR r))),
  (10,vY b 1 (.r (.bo s))),
  (11,vY b 2 (.r (.rp (tabC r s T)))),
  (12,vY b 3 (.r (.rp [i64 (st:Int),i64 (left:Int),i64 ((k:Int)+1)]))),
  (13,vY b 4 (.r (i64 (st:Int)))),
  (14,vY b 5 (.pu 30 (vs 30) u)),
  (15,vY b 6 (.r (.rp [i64 (left:Int),i64 ((k:Int)+1)]))),
  (16,vY b 7 (.r (i64 (left:Int)))),
  (17,vY b 8 (.r (.rp [i64 ((k:Int)+1)]))),
  (18,vY b 9 (.r (i64 ((k:Int)+1)))),
  (19,vY b 10 (.r (.fn 111 (capM u left k))))]
def mkR (vis:List AV) (u:Addr) (b:Nat→Bool) (vs:Nat→Nat):List (Nat × RowC) :=
 bif b 5 then [(6,.box [.r .ns]),(30,.box vis)] else [(6,.box [.r .ns])]
attribute [go_sem] mkF mkR vY
theorem at_ok {r:Rk}(hr:ROk r) (s:Bool) (st left k:Nat) (hk:k≤2) (hlo:lowG r.out≤left) (hle:left≤st) (hst:(st:Int)≤r.start) :
 ACalls Tryz.prog 47 [rkR r,.ag [i64 (st:Int),i64 (left:Int),i64 ((k:Int)+1)],.bo s] (ints (atV r s (tabT r s) st left k)):=by
 have hrs:=hr.start
 have hlg:=lowG_le r.out
 have htt:=tab_eq hr s (cntA r) (Nat.le_refl _)
 have hfi:=filled_ok r s hr
 obtain⟨T,hT⟩:∃ T,T=tabT r s:=⟨_,rfl⟩
 have hTl:T.length=(r.start+1).toNat:=by rw[hT];exact htt.2.1
 have hTv:∀ x∈T,VOk x:=by rw[hT];exact htt.2.2
 rw[← hT] at hfi ⊢
 have hvs:VsOk r s T st:=⟨hr,hTl,hTv,by omega,hst⟩
 have hK0:=okK_zero r s T (ownV T st)
 have hfr:=from_ok r s T st
 generalize List.replicate 244 (0:Int)=K0 at *
 have hMf:MfOk r s T (ownV T st) left (valM r s T (ownV T st) k) (valA r s T (ownV T st) k):=fun x K' q1 q2 q3=>valM_ok hr hTv hvs.own k (by omega) x K' q1 (by omega) q3
 have hA1:=(aimsM_ok hMf r.aims K0 hr.aims hK0).1
 have hM:atV r s T st left k=(aimsM r s (ownV T st) left (valM r s T (ownV T st) k) r.aims K0).1:=by rw[hA1];rfl
 have hJ:=fun u=>means1_ok hvs hk (value_ok hvs k (by omega)) u left K0 hlo hle hK0
 rw[hM]
 generalize aimsM r s (ownV T st) left (valM r s T (ownV T st) k) r.aims K0=A at *
 have hAl:A.1.length≤20:=by rw[hA1,List.length_map];exact hr.len
 have follows:Tryz.prog.follows .mixedOrders=true:=by kernel_rfl
 refine acalls_stR (rs:=[ints A.1]) [.cell 6 39] Tryz.func47 rfl (by kernel_rfl) Tryz.ntmps47 rfl (by simp) rfl fun C hC vs=>?_
 apply zq
 refine zb fun K hK=>?_;simp only[go_sem];apply hK;refine zw (zfP 3 3 [i64 r.d,aimsR r.aims,i64 r.start,i64 r.out] (by omega) rfl rfl) ?_;refine zw (zfP 4 4 [i64 (st:Int),i64 (left:Int),i64 ((k:Int)+1)] (by omega) rfl rfl) ?_;apply zw (zk [2,3,4,6]);simp only[go_sem]
 repeat apply zq
 refine awp_invU (n:=27) (mkF r s T st left k) (mkR (visA r s T st K0)) ⟨0,0,none⟩ follows (by kernel_rfl) (by kernel_rfl) (by decide +kernel) (zj [] ?_ ?_) ?_ ?_
 ·simp only[go_sem,if_true,if_false,Bool.false_eq_true]
 ·simp only[go_sem,List.cons_append,List.nil_append]
 ·refine⟨fun u b vs hdn hbk hde=>?_,fun u b vs hdn hbk hde=>?_,fun u b vs hdn hbk hde=>?_,fun u b vs hdn hbk hde=>?_,fun u b vs hdn hbk hde=>?_,fun u b vs hdn hbk hde=>?_,fun u b vs hdn hbk hde=>?_,fun u b vs hdn hbk hde=>?_,fun u b vs hdn hbk hde=>?_,fun u b vs hdn hbk hde=>?_,fun u b vs hdn hbk hde=>?_,trivial⟩
  ·skip
   have G:=dnT hdn hbk [2,5,10] (by decide +kernel)
   simp only[allB,and_true] at G
   (simp only[go_sem,upd,if_true,Bool.false_eq_true,if_false,hbk,G])
   all_goals (refine named_fit (x:=u) (zj [] ?_ ?_)<;>(simp only[go_sem,upd,if_true,Bool.false_eq_true,if_false,hbk,G]))
  ·skip
   have G:=dnT hdn hbk [2,5,10] (by decide +kernel)
   simp only[allB,and_true] at G
   (simp only[go_sem,upd,if_true,Bool.false_eq_true,if_false,hbk,G])
   all_goals (refine named_fit (x:=u) (zj [] ?_ ?_)<;>(simp only[go_sem,upd,if_true,Bool.false_eq_true,if_false,hbk,G]))
  ·skip
   have H:=upT hdn hde [0,1] (by decide +kernel)
   have G:=dnT hdn hbk [5,10] (by decide +kernel)
   simp only[allB,and_true] at H G
   (simp only[go_sem,upd,if_true,Bool.false_eq_true,if_false,hbk,H,G])
   all_goals (refine zh hfi rfl (by simp only[go_sem,i64,ints]) (by simp only[go_sem,i64,ints]) ?_)
   all_goals (simp only[go_sem,mkF,mkR,vY,cond_true,cond_false,if_true,Bool.false_eq_true,if_false,hbk,H,G])
   all_goals (refine named_fit (x:=u) (zj [] ?_ ?_)<;>(simp only[go_sem,upd,if_true,Bool.false_eq_true,if_false,hbk,H,G]))
  ·skip
   have G:=dnT hdn hbk [4,5,10] (by decide +kernel)
   simp only[allB,and_true] at G
   (simp only[go_sem,upd,if_true,Bool.false_eq_true,if_false,hbk,G])
   all_goals (refine named_fit (x:=u) (zj [] ?_ ?_)<;>(simp only[go_sem,upd,if_true,Bool.false_eq_true,if_false,hbk,G]))
  ·skip
   have H:=upT hdn hde [3] (by decide +kernel)
   have G:=dnT hdn hbk [5,10] (by decide +kernel)
   simp only[allB,and_true] at H G
   (simp only[go_sem,upd,if_true,Bool.false_eq_true,if_false,hbk,H,G])
   all_goals (refine named_fit (x:=u) (zj [] ?_ ?_)<;>(simp only[go_sem,upd,if_true,Bool.false_eq_true,if_false,hbk,H,G]))
  ·skip
   have H:=upT hdn hde [2,2,4,0,1,3] (by decide +kernel)
   have G:=dnT hdn hbk [10] (by decide +kernel)
   simp only[allB,and_true] at H G
   (simp only[go_sem,upd,if_true,Bool.false_eq_true,if_false,hbk,H,G])
   all_goals (refine xcall_new hfr [(8,30)] rfl (by rfl) (by rfl) (by rfl) (by rfl) (by rfl) ?_)
   all_goals (simp only[go_sem,idK,backA,backC,backL,back_tA,pinOf,zLk])
   all_goals (refine named_name 14 (by rfl) (by rfl) fun u=>?_)
   all_goals (refine zj [] ?_ ?_<;>(simp only[go_sem,upd,if_true,Bool.false_eq_true,if_false,hbk,H,G]))
  ·skip
   have G:=dnT hdn hbk [7,10] (by decide +kernel)
   simp only[allB,and_true] at G
   cases g5:b 5
   all_goals (simp only[go_sem,upd,if_true,Bool.false_eq_true,if_false,hbk,G,g5])
   all_goals (refine named_fit (x:=u) (zj [] ?_ ?_)<;>(simp only[go_sem,upd,if_true,Bool.false_eq_true,if_false,hbk,G,g5]))
  ·skip
   have H:=upT hdn hde [6] (by decide +kernel)
   have G:=dnT hdn hbk [10] (by decide +kernel)
   simp only[allB,and_true] at H G
   cases g5:b 5
   all_goals (simp only[go_sem,upd,if_true,Bool.false_eq_true,if_false,hbk,H,G,g5])
   all_goals (refine named_fit (x:=u) (zj [] ?_ ?_)<;>(simp only[go_sem,upd,if_true,Bool.false_eq_true,if_false,hbk,H,G,g5]))
  ·skip
   have G:=dnT hdn hbk [9,10] (by decide +kernel)
   simp only[allB,and_true] at G
   cases g5:b 5
   all_goals (simp only[go_sem,upd,if_true,Bool.false_eq_true,if_false,hbk,G,g5])
   all_goals (refine named_fit (x:=u) (zj [] ?_ ?_)<;>(simp only[go_sem,upd,if_true,Bool.false_eq_true,if_false,hbk,G,g5]))
  ·skip
   have H:=upT hdn hde [8] (by decide +kernel)
   have G:=dnT hdn hbk [10] (by decide +kernel)
   simp only[allB,and_true] at H G
   cases g5:b 5
   all_goals (simp only[go_sem,upd,if_true,Bool.false_eq_true,if_false,hbk,H,G,g5])
   all_goals (refine named_fit (x:=u) (zj [] ?_ ?_)<;>(simp only[go_sem,upd,if_true,Bool.false_eq_true,if_false,hbk,H,G,g5]))
  ·skip
   have H:=upT hdn hde [5,5,7,9,2,4,6,8,0,1,3] (by decide +kernel)
   simp only[allB,and_true] at H
   (simp only[go_sem,upd,if_true,Bool.false_eq_true,if_false,hbk,H])
   all_goals (refine zh (means_ok u left k) rfl (by simp only[go_sem,i64,ints]) (by simp only[go_sem,i64,ints]) ?_)
   all_goals (simp only[go_sem,mkF,mkR,vY,cond_true,cond_false,if_true,Bool.false_eq_true,if_false,hbk,H])
   all_goals (refine named_fit (x:=u) (zj [] ?_ ?_)<;>(simp only[go_sem,upd,if_true,Bool.false_eq_true,if_false,hbk,H]))
 intro u b vs hb
 simp only[go_sem,hb,if_true,List.cons_append,List.nil_append];refine zw (sub_ownB 6 0 25 3 1 (by omega) (by omega) rfl (by rfl)) ?_
 try simp only[go_sem]
 apply zw (zk [14,6,19]);simp only[go_sem];apply zd
 refine Eq.mp (congrArg (fun z=>awp _ _ _ _ (Go.Oc.st 27 _ _ [_,_,(30,RowC.box z)])) (visR_A r s T st K0)) ?_
 have hlen:(enumM A.1).length=A.1.length:=by simp [enumM]
 refine awp_rangeG (n:=27) (t:=19) hC 30 14 u (by omega) (by omega) (visR r s T st K0) (visR r s T st A.2) (enumM A.1) (hJ u) [6,19] (by decide) (by decide) (by decide)
  (fun vs=>[(6,.pt 6 (vs 6) 0),(19,.r (.fn 111 (capM u left k)))])
  (fun i vs=>[(6,.box [.os 25 (vs 25) 1 0 i]),(25,.arr 3 1 (arrV (A.1.take i)))]) (fun i=>i≤A.1.length) (upd vs 25 (vs 25+1)) (Nat.zero_le _) ?_ ?_ ?_ (fun _=>rfl) ?_ (fun _ _=>rfl) ?_ ?_ ?_ ?_
 ·rfl
 ·rfl
 ·rfl
 ·rfl
 ·decide
 ·intro e he
  obtain⟨i,hi⟩:=List.getElem?_of_mem he
  simp only[enumM,List.getElem?_mapIdx,Option.map_eq_some_iff] at hi
  obtain⟨a,_,rfl⟩:=hi
  rfl
 ·intro i e vs us C' he hi
  obtain⟨x,hn⟩:∃ x,A.1[i]? = some x:=by
   simp only[enumM,List.getElem?_mapIdx,Option.map_eq_some_iff] at he
   obtain⟨a,ha,_⟩:=he
   exact⟨a,ha⟩
  have he':e=[i64 (i:Int),i64 x]:=by
   simp only[enumM,List.getElem?_mapIdx,hn,Option.map_some,Option.some.injEq] at he
   exact he.symm
  subst he'
  have hil:i<A.1.length:=(List.getElem?_eq_some_iff.1 hn).1
  have hsn:A.1.take (i+1)=A.1.take i++[x]:=zto hn
  have hil2:(A.1.take i).length=i:=by rw[List.length_take];omega
  rw[hsn]
  generalize A.1.take i=B at *
  refine zb fun K hK=>?_;simp only[go_sem];apply hK
  refine⟨rfl,fun C''=>?_⟩
  apply zw (zk [6,8,19]);simp only[go_sem];apply zd;refine zb fun K hK=>?_;simp only[go_sem,hil2,List.length_map]
  refine⟨by omega,?_⟩
  apply hK
  try simp only[go_sem]
  refine⟨by omega,?_⟩
  refine zj (F:=fun _=>[]) [] ?_ ?_
  ·try simp only[go_sem]
  ·try simp only[go_sem]
   simp
 ·intro vs us hi
  rw[hlen,List.take_length]
  have htk:(arrV A.1).take A.1.length=arrV A.1:=List.take_of_length_le (by simp)
  try simp only[go_sem]
  refine zw (sub_wake rfl) ?_;apply zw (zk [6]);simp only[go_sem]
  apply zq
  refine zb fun K hK=>?_;simp only[go_sem];apply hK;apply zw (zk [6]);simp only[go_sem];apply ze;simp only[go_sem]
end Go.Proofs.YtgfbenanljjgaaaGreat.Du.Th.Ai.At

namespace Go.Proofs.YtgfbenanljjgaaaGreat.Du.Th.Ai
open Go Go.Oc
set_option maxRecDepth 8000
set_option maxHeartbeats 8000000
structure Ps where
 st:Int
 left:Int
 darts:Int
abbrev psR (p:Ps):RV:=.ag [i64 p.st,i64 p.left,i64 p.darts]
def posOk (r:Rk) (p:Ps):Bool:=decide ((lowG r.out≤p.st∧p.st≤r.start)∧(lowG r.out≤p.left∧p.left≤p.st)∧(1≤p.darts∧p.darts≤3)∧(p.darts<3∨p.left=p.st))
theorem isPos_ok (r:Rk) (p:Ps):ACalls Tryz.prog 76 [rkR r,psR p] (.bo (posOk r p)):=by
 have hlow:=alow_ok r.out
 have ha:=awithin_ok (lowG r.out) r.start [p.st]
 have hb:=awithin_ok (lowG r.out) p.st [p.left]
 have hd:=awithin_ok 1 3 [p.darts]
 have ea:withinL (lowG r.out) r.start [p.st]=decide (lowG r.out≤p.st∧p.st≤r.start):=by simp [withinL]
 have eb:withinL (lowG r.out) p.st [p.left]=decide (lowG r.out≤p.left∧p.left≤p.st):=by simp [withinL]
 have ed:withinL 1 3 [p.darts]=decide (1≤p.darts∧p.darts≤3):=by simp [withinL]
 rw[ea] at ha
 rw[eb] at hb
 rw[ed] at hd
 unfold posOk
 refine zas (rs:=[.bo (decide ((lowG r.out≤p.st∧p.st≤r.start)∧(lowG r.out≤p.left∧p.left≤p.st)∧(1≤p.darts∧p.darts≤3)∧(p.darts<3∨p.left=p.st)))]) [.tmp 4] Tryz.func76 rfl (by kernel_rfl) Tryz.ntmps76 rfl (by simp) rfl fun C vs=>?_
 apply zq
 refine zb fun K hK=>?_;simp only[go_sem];apply hK;refine zw (zfP 2 2 [i64 r.d,aimsR r.aims,i64 r.start,i64 r.out] (by omega) rfl rfl) ?_;refine zw (zfP 3 3 [i64 p.st,i64 p.left,i64 p.darts] (by omega) rfl rfl) ?_;apply zw (zk [2,3]);simp only[go_sem]
 apply zq
 refine zb fun K hK=>?_;simp only[go_sem]
 refine zh (hlow) rfl (by simp only[go_sem,i64,ints]) (by simp only[go_sem,i64,ints]) ?_
 (try simp only[go_sem]);apply hK;apply zw (zk [2,3,5]);simp only[go_sem]
 by_cases h1:lowG r.out≤p.st∧p.st≤r.start
 ·rw[decide_eq_true h1] at ha
  by_cases h2:lowG r.out≤p.left∧p.left≤p.st
  ·rw[decide_eq_true h2] at hb
   by_cases h3:1≤p.darts∧p.darts≤3
   ·rw[decide_eq_true h3] at hd
    by_cases h4:p.darts<3
    ·have e4:decide (p.darts<3)=true:=by simpa using h4
     apply zq
     refine zb fun K hK=>?_;simp only[go_sem,e4]
     refine zh (ha) rfl (by simp only[go_sem,i64,ints,e4]) (by simp only[go_sem,i64,ints,e4]) ?_
     (try simp only[go_sem,e4])
     refine zh (hb) rfl (by simp only[go_sem,i64,ints,e4]) (by simp only[go_sem,i64,ints,e4]) ?_
     (try simp only[go_sem,e4])
     refine zh (hd) rfl (by simp only[go_sem,i64,ints,e4]) (by simp only[go_sem,i64,ints,e4]) ?_
     (try simp only[go_sem,e4]);apply hK;apply zw (zk [4]);simp only[go_sem];apply ze;simp only[go_sem]
     simp [h1,h2,h3,h4]
    ·have e4:decide (p.darts<3)=false:=by simpa using h4
     apply zq
     refine zb fun K hK=>?_;simp only[go_sem,e4]
     refine zh (ha) rfl (by simp only[go_sem,i64,ints,e4]) (by simp only[go_sem,i64,ints,e4]) ?_
     (try simp only[go_sem,e4])
     refine zh (hb) rfl (by simp only[go_sem,i64,ints,e4]) (by simp only[go_sem,i64,ints,e4]) ?_
     (try simp only[go_sem,e4])
     refine zh (hd) rfl (by simp only[go_sem,i64,ints,e4]) (by simp only[go_sem,i64,ints,e4]) ?_
     (try simp only[go_sem,e4]);apply hK;apply zw (zk [4]);simp only[go_sem];apply ze;simp only[go_sem];rw[Bool.eq_iff_iff]
     simp [h1,h2,h3,h4]
   ·rw[decide_eq_false h3] at hd
    apply zq
    refine zb fun K hK=>?_;simp only[go_sem]
    refine zh (ha) rfl (by simp only[go_sem,i64,ints]) (by simp only[go_sem,i64,ints]) ?_
    (try simp only[go_sem])
    refine zh (hb) rfl (by simp only[go_sem,i64,ints]) (by simp only[go_sem,i64,ints]) ?_
    (try simp only[go_sem])
    refine zh (hd) rfl (by simp only[go_sem,i64,ints]) (by simp only[go_sem,i64,ints]) ?_
    (try simp only[go_sem]);apply hK;apply zw (zk [4]);simp only[go_sem];apply ze;simp only[go_sem]
    simp [h3]
  ·rw[decide_eq_false h2] at hb
   apply zq
   refine zb fun K hK=>?_;simp only[go_sem]
   refine zh (ha) rfl (by simp only[go_sem,i64,ints]) (by simp only[go_sem,i64,ints]) ?_
   (try simp only[go_sem])
   refine zh (hb) rfl (by simp only[go_sem,i64,ints]) (by simp only[go_sem,i64,ints]) ?_
   (try simp only[go_sem]);apply hK;apply zw (zk [4]);simp only[go_sem];apply ze;simp only[go_sem]
   simp [h2]
 ·rw[decide_eq_false h1] at ha
  apply zq
  refine zb fun K hK=>?_;simp only[go_sem]
  refine zh (ha) rfl (by simp only[go_sem,i64,ints]) (by simp only[go_sem,i64,ints]) ?_
  (try simp only[go_sem]);apply hK;apply zw (zk [4]);simp only[go_sem];apply ze;simp only[go_sem]
  simp [h1]
def openR (r:Rk) (p:Ps):Int:=if checkR r=0 then (if posOk r p=true then 0 else 2) else checkR r
theorem open_ok (r:Rk) (p:Ps) (hw:WfL r.d r.aims):ACalls Tryz.prog 46 [rkR r,psR p] (i64 (openR r p)):=by
 have hch:=acheck_ok r hw
 have hp:=isPos_ok r p
 unfold openR
 refine zas (rs:=[i64 (if checkR r=0 then (if posOk r p=true then 0 else 2) else checkR r)]) [.tmp 4] Tryz.func46 rfl (by kernel_rfl) Tryz.ntmps46 rfl (by simp) rfl fun C vs=>?_
 apply zq
 refine zb fun K hK=>?_;simp only[go_sem];apply hK;refine zw (zfP 2 2 [i64 r.d,aimsR r.aims,i64 r.start,i64 r.out] (by omega) rfl rfl) ?_;refine zw (zfP 3 3 [i64 p.st,i64 p.left,i64 p.darts] (by omega) rfl rfl) ?_;apply zw (zk [2,3]);simp only[go_sem]
 apply zq
 refine zb fun K hK=>?_;simp only[go_sem]
 refine zh (hch) rfl (by simp only[go_sem,i64,ints]) (by simp only[go_sem,i64,ints]) ?_
 (try simp only[go_sem]);apply hK;apply zw (zk [2,3,5]);simp only[go_sem]
 by_cases h0:checkR r=0
 ·have e0:(checkR r == 0)=true:=by simpa using h0
  rw[if_pos h0]
  cases hP:posOk r p
  ·rw[hP] at hp
   repeat apply zq
   refine zb fun K hK=>?_;simp only[go_sem,e0]
   refine zh (hp) rfl (by simp only[go_sem,i64,ints]) (by simp only[go_sem,i64,ints]) ?_
   (try simp only[go_sem]);apply hK;apply zw (zk [5,15]);simp only[go_sem]
   apply zc rfl<;>intro hc<;>(try simp only[go_sem] at hc)
   refine zb fun K hK=>?_;simp only[go_sem];apply hK;apply zw (zk [5]);simp only[go_sem]
   apply zq
   refine zb fun K hK=>?_;simp only[go_sem];apply hK;apply zw (zk [4]);simp only[go_sem];apply ze;simp only[go_sem]
  ·rw[hP] at hp
   repeat apply zq
   refine zb fun K hK=>?_;simp only[go_sem,e0]
   refine zh (hp) rfl (by simp only[go_sem,i64,ints]) (by simp only[go_sem,i64,ints]) ?_
   (try simp only[go_sem]);apply hK;apply zw (zk [5,15]);simp only[go_sem]
   apply zc rfl<;>intro hc<;>(try simp only[go_sem] at hc)
   apply zx
   try simp only[go_sem]
   apply zq
   refine zb fun K hK=>?_;simp only[go_sem];apply hK;apply zw (zk [4]);simp only[go_sem];apply ze;simp only[go_sem]
   simp [h0]
 ·have e0:(checkR r == 0)=false:=by simpa using h0
  rw[if_neg h0]
  repeat apply zq
  refine zb fun K hK=>?_;simp only[go_sem,e0];apply hK;apply zw (zk [5,15]);simp only[go_sem]
  apply zc rfl<;>intro hc<;>(try simp only[go_sem] at hc)
  apply zx
  try simp only[go_sem]
  apply zq
  refine zb fun K hK=>?_;simp only[go_sem];apply hK;apply zw (zk [4]);simp only[go_sem];apply ze;simp only[go_sem]
theorem min_ok (x:Int) (l:List Int) (hl:l.length≤1000):ACalls Tryz.prog 48 [ints (x::l)] (i64 (l.foldl min x)):=by
 refine zas (rs:=[i64 (l.foldl min x)]) [.tmp 2] Tryz.func48 rfl (by kernel_rfl) Tryz.ntmps48 rfl (by simp) rfl fun C vs=>?_
 apply zq
 refine zb fun K hK=>?_;simp only[go_sem];apply hK;apply zw (zk [0]);simp only[go_sem]
 have e0:decide ((l.length:Int)+1<1)=false:=by simp;omega
 repeat apply zq
 refine zb fun K hK=>?_;simp only[go_sem,List.length_map,e0]
 intro _
 apply hK;apply zw (zk [0,7]);simp only[go_sem]
 apply zc rfl<;>intro hc<;>(try simp only[go_sem] at hc)
 apply zx
 try simp only[go_sem]
 apply zq
 refine zb fun K hK=>?_;simp only[go_sem,List.length_map]
 refine⟨by omega,?_⟩
 apply hK;apply zw (zk [0,3]);simp only[go_sem]
 repeat apply zq
 refine zb fun K hK=>?_;simp only[go_sem];apply hK;apply zw (zk [0,3,4]);simp only[go_sem];apply zd
 refine zup (n:=25) l.length (fun i vs=>[(0,.r (ints (x::l))),(3,.r (i64 ((l.take i).foldl min x))),(4,.r (i64 ((i:Int)+1)))]) (fun _=>[]) (fun _=>True) 0 (zfo [] ?_ ?_) (Nat.zero_le _) trivial ?_
 ·try simp only[go_sem]
  try simp
 ·try simp only[go_sem]
 intro i vs hi _
 by_cases hc0:i<l.length
 ·obtain⟨y,hy⟩:=zol hc0
  have hsn:(l.take (i+1)).foldl min x=min ((l.take i).foldl min x) y:=by rw[zto hy,List.foldl_append];rfl
  have e1:decide ((i:Int)+1<(l.length:Int)+1)=true:=by simp;omega
  repeat apply zq
  refine zb fun K hK=>?_;simp only[go_sem,e1,List.length_map,hc0]
  intro _
  apply hK;apply zw (zk [0,3,4,15]);simp only[go_sem]
  apply zc rfl<;>intro hc<;>(try simp only[go_sem] at hc)
  apply zx
  try simp only[go_sem]
  apply zq
  apply zd;refine zb fun K hK=>?_;simp only[go_sem,hy,hc0,List.length_map,List.length_cons,List.getElem?_cons_succ]
  refine⟨by omega,?_⟩
  apply hK;apply zw (zk [0,3,4]);simp only[go_sem]
  have w1:IntKind.i64.wrap ((i:Int)+1+1)=(i:Int)+1+1:=by rw[zI]<;>omega
  refine zb fun K hK=>?_;simp only[go_sem,w1];apply hK
  try simp only[go_sem]
  refine⟨hc0,zfo [] ?_ ?_⟩
  ·simp only[go_sem,hsn]
  ·try simp only[go_sem]
 ·have hie:i=l.length:=by omega
  subst hie
  have e1:decide ((l.length:Int)+1<(l.length:Int)+1)=false:=by simp
  repeat apply zq
  refine zb fun K hK=>?_;simp only[go_sem,e1,List.length_map]
  intro _
  apply hK;apply zw (zk [0,3,4,15]);simp only[go_sem]
  apply zc rfl<;>intro hc<;>(try simp only[go_sem] at hc)
  apply zf;simp only[go_sem]
  apply zq
  refine zb fun K hK=>?_;simp only[go_sem];apply hK;apply zw (zk [2]);simp only[go_sem];apply ze;simp only[go_sem]
  simp
def atI (v:Int):List Int→Nat→Int
 | [],_=>-1
 | x::l,i=>if v=x then i else atI v l (i+1)
theorem atI_step (v:Int):∀ (l:List Int) (i:Nat),(∀ x∈l.take i,v≠x)→atI v l 0=atI v (l.drop i) i
 | l,0,_=>rfl
 | [],i+1,_=>by simp [atI]
 | y::l, i+1, h=>by
   have gen:∀ (l:List Int) (i k:Nat),(∀ x∈l.take i,v≠x)→atI v l k=atI v (l.drop i) (k+i):=by
    intro l
    induction l with
    | nil=>intro i k _;simp [atI]
    | cons z l ih =>
      intro i k hz
      cases i with
      | zero=>rfl
      | succ i =>
        have h0:=hz z (by simp)
        rw[atI,if_neg h0,ih i (k+1) (fun x hx=>hz x (by simp [hx]))]
        simp only[List.drop_succ_cons]
        congr 1;omega
   have:=gen (y::l) (i+1) 0 h
   rwa [Nat.zero_add] at this
theorem index_ok (v:Int) (l:List Int) (hl:l.length≤1000):ACalls Tryz.prog 49 [ints l,i64 v] (i64 (atI v l 0)):=by
 refine zas (rs:=[i64 (atI v l 0)]) [.tmp 4] Tryz.func49 rfl (by kernel_rfl) Tryz.ntmps49 rfl (by simp) rfl fun C vs=>?_
 apply zq
 refine zb fun K hK=>?_;simp only[go_sem];apply hK;apply zw (zk [0,1]);simp only[go_sem]
 repeat apply zq
 refine zb fun K hK=>?_;simp only[go_sem,List.length_map]
 intro _
 apply hK;apply zw (zk [0,1,7,8]);simp only[go_sem];apply zd
 refine zup (n:=19) l.length (fun i vs=>[(0,.r (ints l)),(1,.r (i64 v)),(7,.r (i64 l.length)),(8,.r (i64 (i:Int)))]) (fun _=>[]) (fun i=>∀ x∈l.take i,v≠x) 0 (zfo [] ?_ ?_) (Nat.zero_le _) (by simp) ?_
 ·try simp only[go_sem]
 ·try simp only[go_sem]
 intro i vs hi hI
 by_cases hc0:i<l.length
 ·obtain⟨y,hy⟩:=zol hc0
  have hst:=atI_step v l i hI
  rw[drop_of_opt hy] at hst
  apply zq
  refine zb fun K hK=>?_;simp only[go_sem,hc0];apply hK;apply zw (zk [0,1,7,8,9]);simp only[go_sem]
  apply zq
  apply zc rfl<;>intro hc<;>(try simp only[go_sem] at hc)
  apply zx
  try simp only[go_sem]
  apply zq
  apply zd
  apply zq
  refine zb fun K hK=>?_;simp only[go_sem];apply hK;apply zw (zk [0,1,5,7,8]);simp only[go_sem]
  apply zq
  refine zb fun K hK=>?_;simp only[go_sem,hy,hc0,List.length_map];apply hK;apply zw (zk [0,1,5,7,8,16]);simp only[go_sem]
  by_cases hvy:v=y
  ·have e1:(v == y)=true:=by simpa using hvy
   rw[e1]
   apply zc rfl<;>intro hc<;>(try simp only[go_sem] at hc)
   apply zq
   refine zb fun K hK=>?_;simp only[go_sem];apply hK;apply zw (zk [4]);simp only[go_sem];apply ze;simp only[go_sem];rw[hst,atI,if_pos hvy]
  ·have e1:(v == y)=false:=by simpa using hvy
   rw[e1]
   apply zc rfl<;>intro hc<;>(try simp only[go_sem] at hc)
   apply zx
   try simp only[go_sem]
   refine zb fun K hK=>?_;simp only[go_sem];(try simp (disch:=omega) only[zI]);apply hK
   try simp only[go_sem]
   refine⟨hc0,?_,zfo [] ?_ ?_⟩
   ·intro x hx
    rw[zto hy] at hx
    rcases List.mem_append.1 hx with hx|hx
    ·exact hI x hx
    ·simp at hx;subst hx;exact hvy
   ·try simp only[go_sem]
   ·try simp only[go_sem]
 ·have hie:i=l.length:=by omega
  subst hie
  have hst:=atI_step v l l.length hI
  rw[List.drop_length] at hst
  apply zq
  refine zb fun K hK=>?_;simp only[go_sem,Nat.lt_irrefl];apply hK;apply zw (zk [0,1,7,8,9]);simp only[go_sem]
  apply zq
  apply zc rfl<;>intro hc<;>(try simp only[go_sem] at hc)
  apply zf;simp only[go_sem]
  apply zq
  refine zb fun K hK=>?_;simp only[go_sem];apply hK;apply zw (zk [4]);simp only[go_sem];apply ze;simp only[go_sem]
  rw[hst];rfl
def aimL (l:List Int):Int × Int × Int:=if leastA l=2000000000 then (0,0,7) else (atI (leastA l) l 0,leastA l,0)
def aimQ (r:Rk) (p:Ps):Int × Int × Int:=if openR r p=0 then aimL (At.atV r false (tabT r false) p.st.toNat p.left.toNat (p.darts-1).toNat) else (0,0,openR r p)
theorem openR_zero {r:Rk}{p:Ps}(h:openR r p=0):ROk r∧posOk r p=true:=by
 unfold openR at h
 by_cases h0:checkR r=0
 ·rw[if_pos h0] at h
  refine⟨(checkR_zero h0).2,?_⟩
  cases hp:posOk r p
  ·rw[hp] at h;simp at h
  ·rfl
 ·rw[if_neg h0] at h;exact (h0 h).elim
theorem aim_ok (r:Rk) (p:Ps) (hw:WfL r.d r.aims):ACalls Tryz.prog 12 [rkR r,psR p] (.tu [i64 (aimQ r p).1,i64 (aimQ r p).2.1,i64 (aimQ r p).2.2]):=by
 have hop:=open_ok r p hw
 refine zas (rs:=[i64 (aimQ r p).1,i64 (aimQ r p).2.1,i64 (aimQ r p).2.2]) [.tmp 4,.tmp 5,.tmp 6] Tryz.func12 rfl (by kernel_rfl) Tryz.ntmps12 rfl (by simp) rfl fun C vs=>?_
 apply zq
 refine zb fun K hK=>?_;simp only[go_sem];apply hK;refine zw (zfP 2 2 [i64 r.d,aimsR r.aims,i64 r.start,i64 r.out] (by omega) rfl rfl) ?_;refine zw (zfP 3 3 [i64 p.st,i64 p.left,i64 p.darts] (by omega) rfl rfl) ?_;apply zw (zk [2,3]);simp only[go_sem]
 repeat apply zq
 refine zb fun K hK=>?_;simp only[go_sem]
 refine zh (hop) rfl (by simp only[go_sem,i64,ints]) (by simp only[go_sem,i64,ints]) ?_
 (try simp only[go_sem]);apply hK;apply zw (zk [2,3,7]);simp only[go_sem]
 apply zq
 refine zb fun K hK=>?_;simp only[go_sem];apply hK;apply zw (zk [2,3,7,13]);simp only[go_sem]
 by_cases h0:openR r p=0
 ·have e0:(openR r p != 0)=false:=by simp [h0]
  have hA:aimQ r p=aimL (At.atV r false (tabT r false) p.st.toNat p.left.toNat (p.darts-1).toNat):=by unfold aimQ;rw[if_pos h0]
  obtain⟨hr,hp⟩:=openR_zero h0
  simp only[posOk,decide_eq_true_eq] at hp
  have hlg:=lowG_le r.out
  have hrs:=hr.start
  have hat:=At.at_ok hr false p.st.toNat p.left.toNat (p.darts-1).toNat (by omega) (by omega) (by omega) (by omega)
  have g1:((p.st.toNat:Nat):Int)=p.st:=by omega
  have g2:((p.left.toNat:Nat):Int)=p.left:=by omega
  have g3:(((p.darts-1).toNat:Nat):Int)+1=p.darts:=by omega
  rw[g1,g2,g3] at hat
  have hlen:(At.atV r false (tabT r false) p.st.toNat p.left.toNat (p.darts-1).toNat).length=r.aims.length:=by simp [At.atV]
  have htt:=tab_eq hr false (cntA r) (Nat.le_refl _)
  have hLv:∀ y∈At.atV r false (tabT r false) p.st.toNat p.left.toNat (p.darts-1).toNat,VOk y:=fun y hy=>by
   obtain⟨a,ha,rfl⟩:=List.mem_map.1 hy
   exact meanA_vok (getD_vok htt.2.2 _) (valA_vok hr htt.2.2 (getD_vok htt.2.2 _) _) (hr.aims a ha)
  rw[hA,e0]
  generalize At.atV r false (tabT r false) p.st.toNat p.left.toNat (p.darts-1).toNat=L at *
  have hLl:L.length≤20:=by rw[hlen];exact hr.len
  obtain⟨x,L',rfl⟩:∃ x L',L=x::L':=by
   cases L with
   | nil=>exact absurd (List.length_eq_zero_iff.1 hlen.symm) hr.ne
   | cons x L'=>exact⟨x,L',rfl⟩
  have hmin:=min_ok x L' (by simp at hLl;omega)
  have hleast:leastA (x::L')=min 2000000000 (L'.foldl min x):=by
   unfold leastA
   simp only[List.foldl_cons]
   have:∀ (l:List Int) (a b:Int),l.foldl min (min a b)=min a (l.foldl min b):=by
    intro l
    induction l with
    | nil=>intro a b;rfl
    | cons y l ih=>intro a b;simp only[List.foldl_cons];rw[← ih];congr 1;omega
   exact this L' 2000000000 x
  apply zc rfl<;>intro hc<;>(try simp only[go_sem] at hc)
  apply zx
  try simp only[go_sem]
  apply zq
  refine zb fun K hK=>?_;simp only[go_sem]
  refine zh (hat) rfl (by simp only[go_sem,i64,ints]) (by simp only[go_sem,i64,ints]) ?_
  (try simp only[go_sem]);apply hK;apply zw (zk [8]);simp only[go_sem]
  apply zq
  refine zb fun K hK=>?_;simp only[go_sem]
  refine zh (hmin) rfl (by simp only[go_sem,i64,ints]) (by simp only[go_sem,i64,ints]) ?_
  (try simp only[go_sem]);apply hK;apply zw (zk [5,8]);simp only[go_sem]
  have hx:=hLv x (by simp)
  have hfm:=foldl_min L' x
  have hm:leastA (x::L')=L'.foldl min x:=by rw[hleast];unfold VOk at hx;omega
  have hix:=index_ok (leastA (x::L')) (x::L') (by omega)
  rw[← hm]
  unfold aimL
  generalize leastA (x::L')=m at *
  repeat apply zq
  refine zb fun K hK=>?_;simp only[go_sem];apply hK;apply zw (zk [5,8,21]);simp only[go_sem]
  by_cases hN:m=2000000000
  ·have eN:(m == 2000000000)=true:=by simpa using hN
   rw[eN,if_pos hN]
   apply zc rfl<;>intro hc<;>(try simp only[go_sem] at hc)
   apply zq
   refine zb fun K hK=>?_;simp only[go_sem];apply hK;apply zw (zk [4,5,6]);simp only[go_sem];apply ze;simp only[go_sem]
  ·have eN:(m == 2000000000)=false:=by simpa using hN
   rw[eN,if_neg hN]
   apply zc rfl<;>intro hc<;>(try simp only[go_sem] at hc)
   apply zx
   try simp only[go_sem]
   apply zq
   refine zb fun K hK=>?_;simp only[go_sem]
   refine zh (hix) rfl (by simp only[go_sem,i64,ints]) (by simp only[go_sem,i64,ints]) ?_
   (try simp only[go_sem]);apply hK;apply zw (zk [4,5,6]);simp only[go_sem];apply ze;simp only[go_sem]
 ·have e0:(openR r p != 0)=true:=by simpa using h0
  have hA:aimQ r p=(0,0,openR r p):=by unfold aimQ;rw[if_neg h0]
  rw[hA,e0]
  apply zc rfl<;>intro hc<;>(try simp only[go_sem] at hc)
  apply zq
  refine zb fun K hK=>?_;simp only[go_sem];apply hK;apply zw (zk [4,5,6]);simp only[go_sem];apply ze;simp only[go_sem]
theorem best_spec {l:List Int}(h:∀ x∈l,-1≤x):∀ (n:Nat) (T:List (Int × Int)),T.length=n→(bestF l T = -1∧∀ x∈T,l.getD x.2.toNat 0 = -1) ∨
 (0≤bestF l T∧(∃ x∈T,l.getD x.2.toNat 0 ≠ -1∧bestF l T=l.getD x.2.toNat 0+1)∧∀ y∈T,l.getD y.2.toNat 0 ≠ -1→bestF l T≤l.getD y.2.toNat 0+1)
 | 0, T, hn=>by
   rw[List.length_eq_zero_iff.1 hn]
   exact .inl ⟨rfl,by simp⟩
 | n+1, T, hn=>by
   have hne:T≠[]:=fun e=>by subst e;simp at hn
   obtain⟨U,x,rfl⟩:∃ U x,T=U++[x]:=⟨T.dropLast,T.getLast hne,(List.dropLast_concat_getLast hne).symm⟩
   have hU:U.length=n:=by simp at hn;omega
   have ih:=best_spec h n U hU
   rw[best_snoc]
   have hx : -1≤l.getD x.2.toNat 0:=by
    rw[List.getD_eq_getElem?_getD]
    cases e:l[x.2.toNat]? with
    | none=>simp
    | some y=>exact h y (zmo e)
   unfold stepB
   rcases ih with⟨i1,i2⟩|⟨i1,⟨z,iz,i2,i3⟩,i4⟩
   ·by_cases c:l.getD x.2.toNat 0 = -1
    ·rw[if_neg (fun hh=>hh.1 c)]
     exact .inl ⟨i1,fun y hy=>by
      rw[List.mem_append,List.mem_singleton] at hy
      rcases hy with hy|rfl
      ·exact i2 y hy
      ·exact c⟩
    ·rw[if_pos ⟨c,.inl i1⟩]
     refine .inr ⟨by omega,⟨x,by simp,c,rfl⟩,fun y hy hc=>?_⟩
     rw[List.mem_append,List.mem_singleton] at hy
     rcases hy with hy|rfl
     ·exact absurd (i2 y hy) hc
     ·exact Int.le_refl _
   ·right
    by_cases c:l.getD x.2.toNat 0 ≠ -1∧(bestF l U = -1∨l.getD x.2.toNat 0+1<bestF l U)
    ·rw[if_pos c]
     refine⟨by omega,⟨x,by simp,c.1,rfl⟩,fun y hy hc=>?_⟩
     rw[List.mem_append,List.mem_singleton] at hy
     rcases hy with hy|rfl
     ·have:=i4 y hy hc;omega
     ·exact Int.le_refl _
    ·rw[if_neg c]
     refine⟨i1,⟨z,by simp [iz],i2,i3⟩,fun y hy hc=>?_⟩
     rw[List.mem_append,List.mem_singleton] at hy
     rcases hy with hy|rfl
     ·exact i4 y hy hc
     ·omega
theorem few_get {g:Int}{bs:List Int}{s:Nat}:∀ {n:Nat},s≤n→(fewO g bs n).getD s 0=(fewO g bs s).getD s 0
 | 0,h=>by rw[show s=0 by omega]
 | n+1, h=>by
   by_cases c:s=n+1
   ·rw[c]
   ·have hl:=few_len g bs n
    rw[show fewO g bs (n+1)=fewO g bs n++[bestF (fewO g bs n) (throwsO g ((n+1:Nat):Int) bs)] from rfl,List.getD_eq_getElem?_getD,List.getElem?_append_left (by omega),← List.getD_eq_getElem?_getD]
    exact few_get (by omega)
theorem few_step {g:Int}{bs:List Int}(n:Nat):(fewO g bs (n+1)).getD (n+1) 0=bestF (fewO g bs n) (throwsO g ((n+1:Nat):Int) bs):=by
 have hl:=few_len g bs n
 rw[show fewO g bs (n+1)=fewO g bs n++[bestF (fewO g bs n) (throwsO g ((n+1:Nat):Int) bs)] from rfl,List.getD_eq_getElem?_getD,List.getElem?_append_right (by omega),hl,Nat.sub_self];rfl
theorem few_spec {g:Int}{bs:List Int}(hB:∀ b∈bs,bedOk b=true):∀ (N s:Nat),s≤N→∀ d,endB g bs d s=true↔(0≤(fewO g bs s).getD s 0∧(fewO g bs s).getD s 0≤d)
 | N, 0, _, d=>by
   have h1:endB g bs d 0=true:=by
    cases d with
    | zero=>rfl
    | succ d=>unfold endB;rfl
   have h2:(fewO g bs 0).getD 0 0=0:=rfl
   rw[h2]
   constructor
   ·intro _;omega
   ·intro _;exact h1
 | 0,s+1,h,d=>by omega
 | N+1, s+1, h, d=>by
   rw[few_step]
   have hle:∀ x∈fewO g bs s,-1≤x:=fun x hx=>(few_le g bs s x hx).1
   have hT:=fun x (hx:x∈throwsO g ((s+1:Nat):Int) bs)=>throws_mem hB hx
   have hsub:∀ x∈throwsO g ((s+1:Nat):Int) bs,∀ d,endB g bs d x.2=true↔(0≤(fewO g bs s).getD x.2.toNat 0∧(fewO g bs s).getD x.2.toNat 0≤d):=fun x hx d=>by
    obtain⟨_,q1,q2,_⟩:=hT x hx
    have ih:=few_spec (g:=g) hB N x.2.toNat (by omega) d
    rw[few_get (s:=x.2.toNat) (n:=s) (by omega),← ih,show ((x.2.toNat:Nat):Int)=x.2 by omega]
   have hz:(((s+1:Nat):Int) == 0)=false:=by rw[beq_eq_false_iff_ne];omega
   rcases best_spec hle _ (throwsO g ((s+1:Nat):Int) bs) rfl with⟨b1,b2⟩|⟨b1,⟨z,hzm,b2,b3⟩,b4⟩
   ·rw[b1]
    constructor
    ·intro he
     exfalso
     cases d with
     | zero=>unfold endB at he;rw[hz] at he;cases he
     | succ d =>
       unfold endB at he
       rw[hz,Bool.false_or,List.any_eq_true] at he
       obtain⟨x,hx,hd⟩:=he
       have:=(hsub x hx d).1 hd
       rw[b2 x hx] at this
       omega
    ·intro hh;omega
   ·constructor
    ·intro he
     cases d with
     | zero=>unfold endB at he;rw[hz] at he;cases he
     | succ d =>
       unfold endB at he
       rw[hz,Bool.false_or,List.any_eq_true] at he
       obtain⟨x,hx,hd⟩:=he
       have q:=(hsub x hx d).1 hd
       have:=b4 x hx (by omega)
       omega
    ·intro hh
     cases d with
     | zero =>
       have hzl : -1≤(fewO g bs s).getD z.2.toNat 0:=by
        rw[List.getD_eq_getElem?_getD]
        cases e:(fewO g bs s)[z.2.toNat]? with
        | none=>simp
        | some y=>exact hle y (zmo e)
       omega
     | succ d =>
       unfold endB
       rw[hz,Bool.false_or,List.any_eq_true]
       have hzl : -1≤(fewO g bs s).getD z.2.toNat 0:=by
        rw[List.getD_eq_getElem?_getD]
        cases e:(fewO g bs s)[z.2.toNat]? with
        | none=>simp
        | some y=>exact hle y (zmo e)
       exact⟨z,hzm,(hsub z hzm d).2 (by omega)⟩
theorem atI_mem (v:Int):∀ (l:List Int) (k:Nat),v∈l→∃ i,i<l.length∧atI v l k=((k+i:Nat):Int)∧l[i]? = some v
 | [],_,h=>by simp at h
 | x::l, k, h=>by
   by_cases hx:v=x
   ·exact⟨0,by simp,by unfold atI;rw[if_pos hx];simp,by simp [hx]⟩
   ·have hm:v∈l:=by simpa [hx] using h
    obtain⟨i,h1,h2,h3⟩:=atI_mem v l (k+1) hm
    refine⟨i+1,by simp;omega,?_,by simpa using h3⟩
    unfold atI;rw[if_neg hx,h2];congr 1;omega
theorem val_start {bs:List Int}{st g:Int}(hB:∀ b∈bs,bedOk b=true) (hne:bs≠[]) (hr:ROk (suK bs st g)) (sd:Bool) {s v:Nat}(h1:lowG g≤s) (h2:(s:Int)≤st) (hv:(tabT (suK bs st g) sd).getD s 0=(v:Int)*1000000) (hv60:v≤60) :
 1≤v∧valA (suK bs st g) sd (tabT (suK bs st g) sd) ((v:Int)*1000000) 3 s=((v-1:Nat):Int)*1000000:=by
 have hnv:nvS sd=1000000000∨nvS sd=2000000000:=by unfold nvS;cases sd<;>simp
 rcases sure_at hB hne hr sd s h1 h2 with⟨w,w1,w2,w3,w4⟩|⟨w2,w3⟩
 ·have hwv:w=v:=by rw[hv] at w2;omega
  subst hwv
  refine⟨w1,?_⟩
  have hT:∀ x∈tabT (suK bs st g) sd,VOk x:=(tab_eq hr sd (cntA (suK bs st g)) (Nat.le_refl _)).2.2
  have hvs:=val_sure hB hne (sd:=sd) (T:=tabT (suK bs st g) sd) (n:=(w:Int)*1000000) (Nv:=nvS sd) (s:=s) hr hT (by unfold VOk;omega) (fun y y1 y2=>sure_at hB hne hr sd y y1 (by omega)) 3 s h1 (Nat.le_refl _) (fun h=>by omega)
  obtain⟨a1,a2⟩:=hvs
  have b1:=a1 (w-1) (by rw[show 3+3*(w-1)=3*w by omega];exact w3)
  rcases a2 with a2|a2|⟨W,e1,e2⟩
  ·omega
  ·omega
  ·have hw:w-1≤W:=by
    refine Nat.not_lt.1 fun hlt=>?_
    have:=end_le e2 (show 3+3*W≤3*(w-1) by omega)
    rw[w4] at this;cases this
   omega
 ·rw[hv] at w2;omega
theorem vok_mul {v:Nat}(h:v≤60):VOk ((v:Int)*1000000):=by unfold VOk;omega
theorem aim_step {bs:List Int}{st g:Int}(hB:∀ b∈bs,bedOk b=true) (hck:checkR (suK bs st g)=0) (hr:ROk (suK bs st g)) {s v left d:Nat}(h1:lowG g≤left) (h2:left≤s) (h3:(s:Int)≤st) (hd:d≤2) (hd2:d=2→left=s)
 (hv:(tabT (suK bs st g) false).getD s 0=(v:Int)*1000000) (hv60:v≤60) (hv1:1≤v) (hw:valA (suK bs st g) false (tabT (suK bs st g) false) ((v:Int)*1000000) (d+1) left=((v-1:Nat):Int)*1000000) :
 ∃ (i:Nat) (b:Int), bs[i]? = some b∧aimQ (suK bs st g) ⟨s, left, (d:Int)+1⟩=((i:Int), ((v-1:Nat):Int)*1000000, 0) ∧
   (((left:Int)-scoreOf b=0∧opensD g b=true∧v=1) ∨
    (lowG g≤(left:Int)-scoreOf b∧valA (suK bs st g) false (tabT (suK bs st g) false) ((v:Int)*1000000) d ((left:Int)-scoreOf b)=((v-1:Nat):Int)*1000000)):=by
 have hlg:=lowG_le g
 have hT:∀ x∈tabT (suK bs st g) false,VOk x:=(tab_eq hr false (cntA (suK bs st g)) (Nat.le_refl _)).2.2
 have hval:=valA_vok (r:=suK bs st g) (s:=false) hr hT (vok_mul hv60) d
 have hpos:posOk (suK bs st g) ⟨s,left,(d:Int)+1⟩=true:=by
  unfold posOk
  refine decide_eq_true ?_
  show (lowG g≤(s:Int)∧(s:Int)≤st)∧(lowG g≤(left:Int)∧(left:Int)≤s)∧(1≤(d:Int)+1∧(d:Int)+1≤3)∧((d:Int)+1<3∨(left:Int)=s)
  refine⟨by omega,by omega,by omega,?_⟩
  by_cases e:d=2
  ·right;have:=hd2 e;omega
  ·left;omega
 have hop:openR (suK bs st g) ⟨s,left,(d:Int)+1⟩=0:=by
  unfold openR;rw[if_pos hck,if_pos hpos]
 have hat:At.atV (suK bs st g) false (tabT (suK bs st g) false) s left d=bs.map (nextA g ((v:Int)*1000000) left (valA (suK bs st g) false (tabT (suK bs st g) false) ((v:Int)*1000000) d)):=by
  unfold At.atV
  rw[hv]
  show (bs.map sureA).map _=_
  rw[List.map_map]
  refine List.map_congr_left fun b hb=>?_
  refine sure_mean (hB b hb) ?_
  unfold nextA
  split
  ·unfold VOk;omega
  ·split
   ·exact vok_mul hv60
   ·exact hval _
 have hle:leastA (bs.map (nextA g ((v:Int)*1000000) left (valA (suK bs st g) false (tabT (suK bs st g) false) ((v:Int)*1000000) d)))=((v-1:Nat):Int)*1000000:=by
  rw[← hat,← hw]
  unfold At.atV
  rw[hv]
  rfl
 have hmem:((v-1:Nat):Int)*1000000∈bs.map (nextA g ((v:Int)*1000000) left (valA (suK bs st g) false (tabT (suK bs st g) false) ((v:Int)*1000000) d)):=by
  rcases (foldl_min (bs.map (nextA g ((v:Int)*1000000) left (valA (suK bs st g) false (tabT (suK bs st g) false) ((v:Int)*1000000) d))) 2000000000).2.2 with h|h
  ·unfold leastA at hle;omega
  ·unfold leastA at hle;rwa [hle] at h
 obtain⟨i,i1,i2,i3⟩:=atI_mem _ _ 0 hmem
 rw[List.length_map] at i1
 obtain⟨b,hb⟩:=zol i1
 have hnx:nextA g ((v:Int)*1000000) left (valA (suK bs st g) false (tabT (suK bs st g) false) ((v:Int)*1000000) d) b=((v-1:Nat):Int)*1000000:=by
  rw[List.getElem?_map,hb] at i3
  injection i3
 refine⟨i,b,hb,?_,?_⟩
 ·unfold aimQ
  rw[if_pos hop]
  have e:((d:Int)+1-1).toNat=d:=by omega
  show aimL (At.atV (suK bs st g) false (tabT (suK bs st g) false) ((s:Int)).toNat ((left:Int)).toNat ((d:Int)+1-1).toNat)=_
  rw[e,Int.toNat_natCast,Int.toNat_natCast,hat]
  unfold aimL
  rw[hle,if_neg (by omega),i2,Nat.zero_add]
 ·have hvb:=hB b (zmo hb)
  unfold nextA at hnx
  rw[op_eq hvb] at hnx
  by_cases c1:(left:Int)-scoreOf b=0∧opensD g b=true
  ·left
   rw[if_pos (by simp [c1.1,c1.2])] at hnx
   exact⟨c1.1,c1.2,by omega⟩
  ·rw[if_neg (by simpa using c1)] at hnx
   by_cases c2:(left:Int)-scoreOf b<lowG g
   ·rw[if_pos c2] at hnx;omega
   ·rw[if_neg c2] at hnx
    exact .inr ⟨by omega,hnx⟩
theorem sure_few {bs:List Int}{st g:Int}(hB:∀ b∈bs,bedOk b=true) (hne:bs≠[]) (hr:ROk (suK bs st g)) {s N:Nat}(h1:lowG g≤s) (h2:(s:Int)≤st) (hN:s≤N) :
 ((fewO g bs N).getD s 0<0∧(tabT (suK bs st g) false).getD s 0=2000000000∧(tabT (suK bs st g) true).getD s 0=1000000000) ∨
 ((1≤(fewO g bs N).getD s 0∧(fewO g bs N).getD s 0≤s)∧(tabT (suK bs st g) false).getD s 0=((fewO g bs N).getD s 0+2) / 3*1000000∧(tabT (suK bs st g) true).getD s 0=((fewO g bs N).getD s 0+2) / 3*1000000):=by
 have hlg:=lowG_le g
 have hsp:=few_spec (g:=g) hB s s (Nat.le_refl _)
 have hu:=sure_at hB hne hr false s h1 h2
 have hl:=sure_at hB hne hr true s h1 h2
 have h0:endB g bs 0 s=false:=by
  unfold endB
  rw[beq_eq_false_iff_ne];omega
 rw[few_get hN]
 generalize (fewO g bs s).getD s 0=f at *
 by_cases hf:0≤f
 ·right
  have hE:endB g bs f.toNat s=true:=(hsp f.toNat).2 ⟨hf,by omega⟩
  have hs1:=(hsp s).1 (end_self hB s s (Nat.le_refl _) _ hE)
  have hf1:1≤f:=by
   refine Int.not_lt.1 fun hlt=>?_
   have:=(hsp 0).2 ⟨hf,by omega⟩
   rw[h0] at this;cases this
  have key:∀ v:Nat,1≤v→endB g bs (3*v) s=true→endB g bs (3*(v-1)) s=false→(v:Int)=(f+2) / 3:=fun v v1 v2 v3=>by
   have k1:=(hsp (3*v)).1 v2
   have k2:¬ f≤((3*(v-1):Nat):Int):=fun hle=>by
    have:=(hsp (3*(v-1))).2 ⟨hf,hle⟩
    rw[v3] at this;cases this
   omega
  refine⟨⟨hf1,hs1.2⟩,?_,?_⟩
  ·rcases hu with⟨v,v1,v2,v3,v4⟩|⟨v1,v2⟩
   ·rw[v2,key v v1 v3 v4]
   ·rw[v2] at hE;cases hE
  ·rcases hl with⟨v,v1,v2,v3,v4⟩|⟨v1,v2⟩
   ·rw[v2,key v v1 v3 v4]
   ·rw[v2] at hE;cases hE
 ·left
  have hno:∀ M,endB g bs M s=true→False:=fun M hM=>hf ((hsp M).1 hM).1
  refine⟨by omega,?_,?_⟩
  ·rcases hu with⟨v,v1,v2,v3,v4⟩|⟨v1,v2⟩
   ·exact (hno _ v3).elim
   ·exact v1
  ·rcases hl with⟨v,v1,v2,v3,v4⟩|⟨v1,v2⟩
   ·exact (hno _ v3).elim
   ·exact v1
theorem endB_row {g:Int}{bs:List Int}(hB:∀ b∈bs,bedOk b=true) {m:Nat}:∀ (d s:Nat),s≤m→(endB g bs d s=true↔∃ k,k≤d∧0<(rowN g bs m k).getD s 0)
 | 0, s, hs=>by
   have e:((rowN g bs m 0).getD s 0)=if s=0 then 1 else 0:=by
    show (wonO m).getD s 0=_
    unfold wonO
    cases s with
    | zero=>rfl
    | succ s =>
      rw[if_neg (by omega),List.getD_eq_getElem?_getD,List.getElem?_cons_succ,List.getElem?_replicate]
      split<;>rfl
   constructor
   ·intro h
    refine⟨0,Nat.le_refl _,?_⟩
    unfold endB at h
    rw[beq_iff_eq] at h
    rw[e,if_pos (by omega)];omega
   ·rintro ⟨k,hk,h⟩
    have:k=0:=by omega
    subst this
    rw[e] at h
    unfold endB
    rw[beq_iff_eq]
    by_cases c:s=0
    ·omega
    ·rw[if_neg c] at h;omega
 | d+1, s, hs=>by
   have h0:=endB_row (g:=g) hB (m:=m) 0 s hs
   constructor
   ·intro h
    unfold endB at h
    rw[Bool.or_eq_true,List.any_eq_true] at h
    rcases h with h|⟨x,hx,h⟩
    ·obtain⟨k,hk,h⟩:=h0.1 (by unfold endB;exact h)
     exact⟨k,by omega,h⟩
    ·obtain⟨_,x1,x2,_⟩:=throws_mem hB hx
     obtain⟨y,hy⟩:∃ y:Nat,x.2=y:=⟨x.2.toNat,by omega⟩
     rw[hy] at h
     obtain⟨k,hk,h⟩:=(endB_row (g:=g) hB (m:=m) d y (by omega)).1 h
     exact⟨k+1,by omega,(row_pos hs).2 ⟨x,hx,by rw[hy,Int.toNat_natCast];exact h⟩⟩
   ·rintro ⟨k,hk,h⟩
    cases k with
    | zero =>
      have:=h0.2 ⟨0,Nat.le_refl _,h⟩
      exact end_le this (by omega)
    | succ k =>
      obtain⟨x,hx,hp⟩:=(row_pos hs).1 h
      obtain⟨_,x1,x2,_⟩:=throws_mem hB hx
      obtain⟨y,hy⟩:∃ y:Nat,x.2=y:=⟨x.2.toNat,by omega⟩
      rw[hy,Int.toNat_natCast] at hp
      have:=(endB_row (g:=g) hB (m:=m) d y (by omega)).2 ⟨k,by omega,hp⟩
      unfold endB
      rw[Bool.or_eq_true,List.any_eq_true]
      exact .inr ⟨x,hx,by rw[hy];exact this⟩
theorem tot_pos {g:Int}{bs:List Int}(hB:∀ b∈bs,bedOk b=true) {s dn:Nat}(hs:1≤s):0<totO (cntO g bs s dn) s↔endB g bs dn s=true:=by
 rw[endB_row hB (m:=s) dn s (Nat.le_refl _)]
 have hl:(cntO g bs s dn).drop 1=(List.range dn).map fun k=>rowN g bs s (k+1):=by
  unfold cntO
  rw[List.range_succ_eq_map,List.map_cons,List.drop_succ_cons,List.drop_zero,List.map_map]
  rfl
 unfold totO
 rw[hl,List.map_map]
 rw[(sum_pos (f:=(fun r:List Int=>r.getD s 0) ∘ fun k=>rowN g bs s (k+1)) fun k _=>getD_nn (rowN_nn g bs s _) _).2]
 constructor
 ·rintro ⟨k,hk,h⟩
  exact⟨k+1,by have:=List.mem_range.1 hk;omega,h⟩
 ·rintro ⟨k,hk,h⟩
  cases k with
  | zero =>
    exfalso
    have e:((rowN g bs s 0).getD s 0)=0:=by
     show (wonO s).getD s 0=_
     unfold wonO
     obtain⟨t,rfl⟩:∃ t,s=t+1:=⟨s-1,by omega⟩
     rw[List.getD_eq_getElem?_getD,List.getElem?_cons_succ,List.getElem?_replicate]
     split<;>rfl
    rw[e] at h;omega
  | succ k=>exact⟨k,List.mem_range.2 (by omega),h⟩
theorem tot_le {g:Int}{bs:List Int}{s:Nat}(hl:bs.length≤4):totO (cntO g bs s 3) s≤84:=by
 have h:=fun k=>rowN_pow g bs s k
 have hg:∀ k,(rowN g bs s k).getD s 0≤((4 ^ k:Nat):Int):=fun k=>by
  rw[List.getD_eq_getElem?_getD]
  cases e:(rowN g bs s k)[s]? with
  | none=>show (0:Int)≤_;exact Int.natCast_nonneg _
  | some y =>
    have:=h k y (List.mem_of_getElem? e)
    have h2:bs.length ^ k≤4 ^ k:=Nat.pow_le_pow_left hl k
    show y≤_
    omega
 have h1:=hg 1
 have h2:=hg 2
 have h3:=hg 3
 show (rowN g bs s 1).getD s 0+((rowN g bs s 2).getD s 0+((rowN g bs s 3).getD s 0+0))≤84
 omega
theorem one_first {bs:List Int}{st g:Int}(hB:∀ b∈bs,bedOk b=true) (hne:bs≠[]) (hck:checkR (suK bs st g)=0) (hr:ROk (suK bs st g)) {s:Nat}(h1:lowG g≤s) (h2:(s:Int)≤st) (he:endB g bs 3 s=true) :
 (tabT (suK bs st g) false).getD s 0=1000000∧∃ (i:Nat) (b:Int),bs[i]? = some b∧aimQ (suK bs st g) ⟨s,s,3⟩=((i:Int),0,0)∧∃ w∈allO g bs s s 3,∃ r,w=b::r:=by
 have hlg:=lowG_le g
 have hu:(tabT (suK bs st g) false).getD s 0=((1:Nat):Int)*1000000:=by
  rcases sure_at hB hne hr false s h1 h2 with⟨v,v1,v2,v3,v4⟩|⟨_,v2⟩
  ·have:v=1:=by
    refine Nat.le_antisymm (Nat.not_lt.1 fun hlt=>?_) v1
    have:=end_le he (show 3≤3*(v-1) by omega)
    rw[v4] at this;cases this
   rw[v2,this]
  ·rw[v2] at he;cases he
 refine⟨by rw[hu];rfl,?_⟩
 have hv:=(val_start hB hne hr false h1 h2 hu (by omega)).2
 obtain⟨i,b,hb,ha,hc⟩:=aim_step hB hck hr (s:=s) (v:=1) (left:=s) (d:=2) h1 (Nat.le_refl _) h2 (by omega) (fun _=>rfl) hu (by omega) (by omega) hv
 refine⟨i,b,hb,ha,?_⟩
 have hbm:=zmo hb
 rcases hc with⟨c1,c2,_⟩|⟨c1,c2⟩
 ·have hx:(b,(0:Int))∈throwsO g (s:Int) bs:=by
   unfold throwsO
   rw[List.mem_filterMap]
   refine⟨b,hbm,?_⟩
   have e:afterO g s b=(0,opensD g b):=by unfold afterO;rw[if_pos c1]
   rw[e,c2]
   rw[if_pos (by simp;omega)]
  exact all_first hB (m:=s) (dn:=3) (k:=0) (Nat.le_refl _) (by omega) hx (by show 0<(wonO s).getD 0 0;unfold wonO;simp)
 ·obtain⟨y,hy⟩:∃ y:Nat,(s:Int)-scoreOf b=y:=⟨((s:Int)-scoreOf b).toNat,by omega⟩
  have hx:(b,(y:Int))∈throwsO g (s:Int) bs:=by
   unfold throwsO
   rw[List.mem_filterMap]
   refine⟨b,hbm,?_⟩
   have e:afterO g s b=((y:Int),true):=by
    unfold afterO
    rw[if_neg (by omega)]
    by_cases c:(s:Int)-scoreOf b=1
    ·rw[if_pos c]
     have hg0:g=0:=by
      unfold lowG at c1
      split at c1
      ·assumption
      ·omega
     subst hg0
     rw[← hy,c];rfl
    ·rw[if_neg c,hy]
     congr 1
     exact decide_eq_true (by omega)
   rw[e]
   rw[if_pos (by simp;omega)]
  have hys:y≤s:=by
   have hrg:=hB b hbm
   have:=throws_mem hB hx
   omega
  rw[hy] at c2 c1
  have hT:∀ x∈tabT (suK bs st g) false,VOk x:=(tab_eq hr false (cntA (suK bs st g)) (Nat.le_refl _)).2.2
  have hvs:=(val_sure hB hne (sd:=false) (T:=tabT (suK bs st g) false) (n:=((1:Nat):Int)*1000000) (Nv:=nvS false) (s:=s) hr hT (by unfold VOk;omega) (fun z z1 z2=>sure_at hB hne hr false z z1 (by omega)) 2 y c1 hys (fun h=>by omega)).2
  have hnv:nvS false=2000000000:=rfl
  have hend:endB g bs 2 y=true:=by
   rcases hvs with q|q|⟨M,q1,q2⟩
   ·rw[c2] at q;simp at q
   ·rw[c2,hnv] at q;simp at q
   ·rw[c2] at q1
    have:M=0:=by omega
    subst this
    exact q2
  obtain⟨k,hk,hp⟩:=(endB_row (g:=g) hB (m:=s) 2 y hys).1 hend
  exact all_first hB (m:=s) (dn:=3) (k:=k) (Nat.le_refl _) (by omega) hx (by rw[Int.toNat_natCast];exact hp)
set_option maxHeartbeats 8000000
def dbK:Rk:=⟨2,[⟨201,[⟨0,1,1⟩,⟨201,1,1⟩]⟩],2,1⟩
theorem dbK_ok:ROk dbK:=(checkR_zero (by decide +kernel)).2
theorem vokK {l:List Int}(h:l.all (fun x=>decide (0≤x)&&decide (x≤1000000000) || decide (x=2000000000))=true):∀ x∈l,VOk x:=fun x hx=>by
 have:=List.all_eq_true.1 h x hx
 simp at this
 exact this
theorem ku:tabT dbK false=[0,0,1142858]:=by
 have h1:numA dbK false [0,0,0] 2=1142858:=numA_upper dbK_ok (vokK (by decide)) (by decide) (by decide) (by omega) (by decide +kernel) (.inr (by decide +kernel))
 show ([0,0,0]:List Int).set 2 (numA dbK false [0,0,0] 2)=_
 rw[h1];rfl
theorem kl:tabT dbK true=[0,0,1142857]:=by
 have h1:numA dbK true [0,0,0] 2=1142857:=numA_lower dbK_ok (vokK (by decide)) (by decide) (by decide) (by omega) (.inr (by decide +kernel)) (.inr (by decide +kernel))
 show ([0,0,0]:List Int).set 2 (numA dbK true [0,0,0] 2)=_
 rw[h1];rfl
theorem wfK (d:Int) (hd:d=2):WfL d [⟨201,[⟨0,1,1⟩,⟨201,1,1⟩]⟩]:=by
 subst hd
 refine⟨by unfold I64;omega,fun a ha=>?_⟩
 simp only[List.mem_singleton] at ha
 subst ha
 refine⟨by unfold I64;decide,fun c hc=>?_⟩
 simp only[List.mem_cons,List.not_mem_nil,or_false] at hc
 rcases hc with rfl|rfl<;>(unfold I64;decide)
theorem knownaim_ok:ACalls Tryz.prog 32 [] (.bo true):=by
 have hck:checkR dbK=0:=by decide +kernel
 have htb:=table_ok dbK (wfK 2 rfl)
 rw[if_pos hck,if_pos hck,hck,ku,kl] at htb
 have htb':ACalls Tryz.prog 22 [.ag [.it .i64 2,.sl 2 [[.it .i64 201,.sl 3 [[.it .i64 0,i64 1,i64 1],[.it .i64 201,i64 1,i64 1]]]],.it .i64 2,.it .i64 1]] (.tu [ints [0,0,1142858],ints [0,0,1142857],i64 0]):=htb
 have h1:=aspan_ok 1 1
 refine zas (rs:=[.bo true]) [.tmp 0] Tryz.func32 rfl (by kernel_rfl) Tryz.ntmps32 rfl (by simp) rfl fun C vs=>?_
 apply zq
 refine zb fun K hK=>?_;simp only[go_sem];apply hK;apply zw (zk []);simp only[go_sem]
 apply zq
 refine zb fun K hK=>?_;simp only[go_sem]
 refine zh (h1) rfl (by simp only[go_sem,i64,ints]) (by simp only[go_sem,i64,ints]) ?_
 (try simp only[go_sem])
 refine zh (h1) rfl (by simp only[go_sem,i64,ints]) (by simp only[go_sem,i64,ints]) ?_
 (try simp only[go_sem])
 refine zh (htb') rfl (by simp only[go_sem,i64,ints]) (by simp only[go_sem,i64,ints]) ?_
 (try simp only[go_sem]);apply hK;apply zw (zk [1,2,3]);simp only[go_sem]
 have e0:((0:Int) == 0)=true:=rfl
 have e1:((3:Int) == 3)=true:=rfl
 have e2:((1142858:Int) == 1142858)=true:=rfl
 have e3:((1142857:Int) == 1142857)=true:=rfl
 apply zq
 refine zb fun K hK=>?_;simp only[go_sem,e0,e1,e2,e3,List.map_cons,List.map_nil,List.length_cons,List.length_nil]
 (try intros)
 apply hK;apply zw (zk [0]);simp only[go_sem];apply ze;simp only[go_sem]
def begB (b:Int) (w:List Int):Bool:=match w with
 | []=>false
 | x::_=>x == b
def foundB (b:Int) (W:List (List Int)) (i:Nat):Bool:=(W.take i).any (begB b)
theorem found_succ {b:Int}{W:List (List Int)}{i:Nat}{w:List Int}(h:W[i]? = some w):foundB b W (i+1)=(foundB b W i || begB b w):=by
 unfold foundB
 rw[zto h,List.any_append]
 simp
theorem one_at {bs:List Int}{st g:Int}(hB:∀ b∈bs,bedOk b=true) (hne:bs≠[]) (hck:checkR (suK bs st g)=0) (hr:ROk (suK bs st g)) (hl:bs.length≤4) {s N:Nat}(h1:lowG g≤s) (h2:(s:Int)≤st) (hN:s≤N) :
 ((tabT (suK bs st g) false).getD s 0=1000000↔0<totO (cntO g bs s 3) s)∧((tabT (suK bs st g) false).getD s 0=2000000000↔(fewO g bs N).getD s 0<0)∧0≤totO (cntO g bs s 3) s∧totO (cntO g bs s 3) s≤84 ∧
   (0<totO (cntO g bs s 3) s→∃ (i:Nat) (b:Int),bs[i]? = some b∧aimQ (suK bs st g) ⟨s,s,3⟩=((i:Int),0,0)∧foundB b (allO g bs s s 3) (allO g bs s s 3).length=true):=by
 have hlg:=lowG_le g
 have htp:=tot_pos (g:=g) hB (s:=s) (dn:=3) (by omega)
 have hf:=sure_few hB hne hr h1 h2 hN
 refine⟨⟨fun h=>?_,fun h=>?_⟩,⟨fun h=>?_,fun h=>?_⟩,?_,tot_le hl,fun h=>?_⟩
 ·rw[htp]
  rcases sure_at hB hne hr false s h1 h2 with⟨v,v1,v2,v3,v4⟩|⟨v1,_⟩
  ·rw[h] at v2
   have:v=1:=by omega
   subst this
   exact v3
  ·have:nvS false=2000000000:=rfl
   rw[h,this] at v1;omega
 ·exact (one_first hB hne hck hr h1 h2 (htp.1 h)).1
 ·rcases hf with⟨f1,_⟩|⟨⟨f1,f2⟩,f3,_⟩
  ·exact f1
  ·exfalso
   rw[h] at f3
   have:((fewO g bs N).getD s 0+2) / 3≤s:=by omega
   rcases sure_at hB hne hr false s h1 h2 with⟨v,v1,v2,v3,v4⟩|⟨_,v2⟩
   ·have hv:v≤s:=by
     refine Nat.not_lt.1 fun hlt=>?_
     have:=end_le (end_self hB s s (Nat.le_refl _) _ v3) (show s≤3*(v-1) by omega)
     rw[v4] at this;cases this
    rw[h] at v2
    have hst:(s:Int)≤60:=Int.le_trans h2 hr.start.2
    omega
   ·have hsp:=few_spec (g:=g) hB s s (Nat.le_refl _) s
    rw[← few_get hN] at hsp
    have:=hsp.2 ⟨by omega,f2⟩
    rw[v2] at this;cases this
 ·rcases hf with⟨_,f2,_⟩|⟨⟨f1,_⟩,_⟩
  ·exact f2
  ·omega
 ·have hnn:=fun k=>getD_nn (rowN_nn g bs s k) s
  have a1:=hnn 1
  have a2:=hnn 2
  have a3:=hnn 3
  show 0≤(rowN g bs s 1).getD s 0+((rowN g bs s 2).getD s 0+((rowN g bs s 3).getD s 0+0))
  omega
 ·obtain⟨_,i,b,hb,ha,w,hw,r,hwr⟩:=one_first hB hne hck hr h1 h2 (htp.1 h)
  refine⟨i,b,hb,ha,?_⟩
  unfold foundB
  rw[List.take_length,List.any_eq_true]
  exact⟨w,hw,by rw[hwr];simp [begB]⟩
theorem law_onevisit (w:Int) (v1 v2:Nat) (h1:v1<256) (h2:v2<256):ACalls Tryz.prog 7 [.it .u16 w,.it .u8 (v1:Int),.it .u8 (v2:Int)] (.bo true):=by
 have hk1:=knownout_ok
 have hk2:=knownaim_ok
 have hsu:=armsure_ok w
 have hbd:=bsS_bds w
 obtain⟨hB,hlen⟩:=bsS_ok w
 generalize bsS w=bs at *
 have hne:bs≠[]:=List.length_pos_iff.1 (by omega)
 have m1:=Nat.mod_lt v1 (show 8 > 0 by omega)
 have m2:=Nat.mod_lt v2 (show 3 > 0 by omega)
 have k0:IntKind.i64.wrap (v1:Int)=v1:=by rw[zI]<;>omega
 have r0:Int.tmod (v1:Int) 8=((v1 % 8:Nat):Int):=rfl
 have r1:Int.tmod (v2:Int) 3=((v2 % 3:Nat):Int):=rfl
 have w0:IntKind.i64.wrap (2+((v1 % 8:Nat):Int))=((2+v1 % 8:Nat):Int):=by rw[zI]<;>omega
 have w1:IntKind.i64.wrap ((v2 % 3:Nat):Int)=((v2 % 3:Nat):Int):=by rw[zI]<;>omega
 generalize hst:2+v1 % 8=st at *
 generalize hg:v2 % 3=g at *
 have hst2:2≤st∧st≤9:=by omega
 have hck:checkR (suK bs st g)=0:=su_ok hB ⟨by omega,by omega⟩ (by omega) (by omega)
 have hwL:WfL 1 (sureL bs):=by
  refine⟨by unfold I64;omega,fun a ha=>?_⟩
  obtain⟨b,hb,rfl⟩:=List.mem_map.1 ha
  have hb2:=(hbd.bed b hb).2
  refine⟨by show I64 b;unfold I64;omega,fun c hc=>?_⟩
  simp only[sureA,List.mem_singleton] at hc
  subst hc
  refine⟨?_,?_,?_⟩<;>(unfold I64;simp only;omega)
 have hr:=(checkR_zero hck).2
 have htb:=table_ok (suK bs st g) hwL
 rw[if_pos hck,if_pos hck,hck] at htb
 have htb2:ACalls Tryz.prog 22 [.ag [.it .i64 1,aimsR (sureL bs),.it .i64 (st:Int),.it .i64 (g:Int)]] (.tu [ints (tabT (suK bs st g) false),ints (tabT (suK bs st g) true),i64 0]):=htb
 have haim:=fun (s x d:Int)=>aim_ok (suK bs st g) ⟨s,x,d⟩ hwL
 have hfe:=fewest_ok bs g 3 st hbd (by omega) (by omega) (by omega)
 have hnum:=fun (s:Nat) (q1:1≤s∧s≤1000)=>show ACalls Tryz.prog 39 [.ag [ints bs,i64 (g:Int),i64 3],i64 (s:Int)] (.tu [i64 (totO (cntO g bs s 3) s),i64 0]) from number_ok2 bs g 3 s hbd (by omega) (by omega) q1
 have hwy:=fun (s:Nat) (q1:1≤s∧s≤1000) (q2:0<totO (cntO (g:Int) bs s 3) s∧totO (cntO g bs s 3) s≤3000)=>show ACalls Tryz.prog 40 [.ag [ints bs,i64 (g:Int),i64 3],i64 (s:Int)] (.tu [.sl 1 ((allO g bs s s 3).map fun w=>[ints w]),i64 0]) from waysAll_ok bs g 3 s hbd (by omega) (by omega) q1 q2
 have hone:=fun (s:Nat) (q1:lowG (g:Int)≤s) (q2:s≤st)=>one_at hB hne hck hr hlen.2 (s:=s) (N:=st) q1 (by omega) q2
 have hlU:=tabT_len hr false
 have hstE:(suK bs st g).start=(st:Int):=rfl
 rw[hstE] at hlU
 have hF:=few_len (g:Int) bs st
 have hlg:=lowG_le (g:Int)
 have hlow:=armlow_ok (g:Int)
 have hAl:=fun (s:Nat)=>all_len (g:=(g:Int)) (bs:=bs) (m:=s) (s:=s) (by omega) 3 (Nat.le_refl _)
 generalize tabT (suK bs st g) false=U at *
 generalize tabT (suK bs st g) true=L at *
 generalize fewO (g:Int) bs st=F at *
 obtain⟨base,hbase⟩:∃ base:Nat,(base:Int)=lowG (g:Int):=⟨(lowG (g:Int)).toNat,by omega⟩
 have lU:U.length=st+1:=by omega
 have ws:IntKind.i64.wrap ((st:Int)+1)=((st+1:Nat):Int):=by rw[zI]<;>omega
 have z0:((0:Int) != 0)=false:=rfl
 have zl:(((st+1:Nat):Int) != ((st+1:Nat):Int))=false:=by simp
 have zl2:((st:Int)+1 != (st:Int)+1)=false:=by simp
 refine zas (rs:=[.bo true]) [.tmp 6] Tryz.func7 rfl (by kernel_rfl) Tryz.ntmps7 rfl (by simp) rfl fun C vs=>?_
 repeat apply zq
 refine zb fun K hK=>?_;simp only[go_sem];(try simp (disch:=omega) only[zI]);repeat first|intro _|refine⟨by omega,?_⟩
 apply hK;apply zw (zk [0,1,2]);simp only[go_sem]
 repeat apply zq
 refine zb fun K hK=>?_;simp only[go_sem];(try simp (disch:=omega) only[zI])
 refine zh (hsu) rfl (by simp only[go_sem,i64,ints]) (by simp only[go_sem,i64,ints]) ?_
 (try simp only[go_sem]);(try simp (disch:=omega) only[zI]);repeat first|intro _|refine⟨by omega,?_⟩
 apply hK;refine zw (zfP 7 7 [i64 1,aimsR (sureL bs)] (by omega) (by try simp only[go_sem]) (by try simp only[go_sem])) ?_;apply zw (zk [1,2,7,8]);simp only[go_sem]
 repeat apply zq
 refine zb fun K hK=>?_;simp only[go_sem,k0,r0,r1,w0,w1];(try simp (disch:=omega) only[zI]);repeat first|intro _|refine⟨by omega,?_⟩
 repeat first|intro _|refine⟨by omega,?_⟩
 apply hK;refine zw (zfP 9 9 [i64 1,aimsR (sureL bs),i64 (st:Int),i64 (g:Int)] (by omega) (by try simp only[go_sem]) (by try simp only[go_sem])) ?_;apply zw (zk [8,9]);simp only[go_sem]
 repeat apply zq
 refine zb fun K hK=>?_;simp only[go_sem];(try simp (disch:=omega) only[zI])
 refine zh (htb2) rfl (by simp only[go_sem,i64,ints]) (by simp only[go_sem,i64,ints]) ?_
 (try simp only[go_sem]);(try simp (disch:=omega) only[zI]);repeat first|intro _|refine⟨by omega,?_⟩
 apply hK;apply zw (zk [8,9,10,12]);simp only[go_sem]
 repeat apply zq
 refine zb fun K hK=>?_;simp only[go_sem];(try simp (disch:=omega) only[zI]);repeat first|intro _|refine⟨by omega,?_⟩
 apply hK;refine zw (zfP 13 13 [ints bs,i64 (g:Int),i64 3] (by omega) (by try simp only[go_sem]) (by try simp only[go_sem])) ?_;apply zw (zk [8,9,10,12,13]);simp only[go_sem]
 repeat apply zq
 refine zb fun K hK=>?_;simp only[go_sem];(try simp (disch:=omega) only[zI])
 refine zh (hfe) rfl (by simp only[go_sem,i64,ints]) (by simp only[go_sem,i64,ints]) ?_
 (try simp only[go_sem]);(try simp (disch:=omega) only[zI]);repeat first|intro _|refine⟨by omega,?_⟩
 apply hK;apply zw (zk [8,9,10,12,13,14,15]);simp only[go_sem]
 repeat apply zq
 refine zb fun K hK=>?_;simp only[go_sem,z0,lU,hF,ws,zl,zl2,List.length_map];(try simp (disch:=omega) only[zI])
 (try intros)
 repeat first|intro _|refine⟨by omega,?_⟩
 apply hK;apply zw (zk [8,9,10,13,14,77]);simp only[go_sem]
 repeat apply zq
 apply zc rfl<;>intro hc<;>(try simp only[go_sem] at hc)
 apply zx
 try simp only[go_sem]
 repeat apply zq
 refine zb fun K hK=>?_;simp only[go_sem];(try simp (disch:=omega) only[zI])
 refine zh (hlow) rfl (by simp only[go_sem,i64,ints]) (by simp only[go_sem,i64,ints]) ?_
 (try simp only[go_sem]);(try simp (disch:=omega) only[zI]);repeat first|intro _|refine⟨by omega,?_⟩
 apply hK;apply zw (zk [8,9,10,13,14,16]);simp only[go_sem]
 repeat apply zq
 apply zd
 refine zup (n:=189) (st+1-base) (fun j vs=>[(8,.r (ints bs)),(9,.r (.rp [i64 1,aimsR (sureL bs),i64 (st:Int),i64 (g:Int)])),(10,.r (ints U)),(13,.r (.rp [ints bs,i64 (g:Int),i64 3])),(14,.r (ints F)),(16,.r (i64 ((base+j:Nat):Int)))])
  (fun j=>[]) (fun _=>True) 0 (zfo [] ?_ ?_) (Nat.zero_le _) trivial ?_
 ·try simp only[go_sem]
  rw[← hbase]
 ·try simp only[go_sem]
 intro j vs hj _
 obtain⟨s,hs⟩:∃ s,s=base+j:=⟨_,rfl⟩
 have hnx:base+(j+1)=s+1:=by omega
 rw[hnx,← hs]
 have wl:IntKind.i64.wrap ((s:Int)+1)=((s+1:Nat):Int):=by rw[zI]<;>omega
 by_cases hss:s≤st
 rotate_left
 ·have e2:decide ((s:Int)≤(st:Int))=false:=decide_eq_false (by omega)
  repeat apply zq
  refine zb fun K hK=>?_;simp only[go_sem,e2];(try simp (disch:=omega) only[zI]);repeat first|intro _|refine⟨by omega,?_⟩
  apply hK;apply zw (zk [84]);simp only[go_sem]
  repeat apply zq
  apply zc rfl<;>intro hc<;>(try simp only[go_sem] at hc)
  ·exact absurd hc hss
  apply zf;simp only[go_sem]
  repeat apply zq
  refine zb fun K hK=>?_;simp only[go_sem];(try simp (disch:=omega) only[zI])
  refine zh (hk1) rfl (by simp only[go_sem,i64,ints]) (by simp only[go_sem,i64,ints]) ?_
  (try simp only[go_sem]);(try simp (disch:=omega) only[zI])
  refine zh (hk2) rfl (by simp only[go_sem,i64,ints]) (by simp only[go_sem,i64,ints]) ?_
  (try simp only[go_sem]);(try simp (disch:=omega) only[zI]);repeat first|intro _|refine⟨by omega,?_⟩
  apply hK;apply zw (zk [6]);simp only[go_sem];apply ze;simp only[go_sem]
 have e2:decide ((s:Int)≤(st:Int))=true:=decide_eq_true (by omega)
 have hn:=hnum s ⟨by omega,by omega⟩
 have hw1:=hwy s ⟨by omega,by omega⟩
 obtain⟨o1,o2,o3,o4,o5⟩:=hone s (by omega) hss
 have hA:=hAl s
 generalize allO (g:Int) bs s s 3=W at *
 generalize totO (cntO (g:Int) bs s 3) s=T at *
 obtain⟨u,hu⟩:=zol (show s<U.length by omega)
 obtain⟨f,hf⟩:=zol (show s<F.length by omega)
 have hsU:s<U.length:=by omega
 have hsF:s<F.length:=by omega
 have gu:U.getD s 0=u:=by simp [List.getD,hu]
 have gf:F.getD s 0=f:=by simp [List.getD,hf]
 rw[gu] at o1 o2
 rw[gf] at o2
 obtain⟨p,hp⟩:∃ p:Bool,p=decide (0<T):=⟨_,rfl⟩
 obtain⟨q,hq⟩:∃ q:Bool,q=decide (f<0):=⟨_,rfl⟩
 have y1:(u == 1000000)=p:=by rw[hp,Bool.eq_iff_iff,beq_iff_eq,decide_eq_true_eq];exact o1
 have y2:(u == 2000000000)=q:=by rw[hq,Bool.eq_iff_iff,beq_iff_eq,decide_eq_true_eq];exact o2
 have y3:(!(p == p))=false:=by cases p<;>rfl
 have y4:(!(q == q))=false:=by cases q<;>rfl
 have hp':=hp.symm
 have hq':=hq.symm
 repeat apply zq
 refine zb fun K hK=>?_;simp only[go_sem,e2];(try simp (disch:=omega) only[zI]);repeat first|intro _|refine⟨by omega,?_⟩
 apply hK;apply zw (zk [8,9,10,13,14,16,84]);simp only[go_sem]
 repeat apply zq
 apply zc rfl<;>intro hc<;>(try simp only[go_sem] at hc)
 rotate_left
 ·exact absurd hss hc
 apply zx
 try simp only[go_sem]
 repeat apply zq
 apply zd
 repeat apply zq
 refine zb fun K hK=>?_;simp only[go_sem];(try simp (disch:=omega) only[zI])
 refine zh (hn) rfl (by simp only[go_sem,i64,ints]) (by simp only[go_sem,i64,ints]) ?_
 (try simp only[go_sem]);(try simp (disch:=omega) only[zI]);repeat first|intro _|refine⟨by omega,?_⟩
 apply hK;apply zw (zk [8,9,10,13,14,16,17,18]);simp only[go_sem]
 repeat apply zq
 refine zg follows (by decide +kernel) (by kernel_rfl) fun K hK=>?_;simp only[go_sem,z0,hu,hsU,hf,hsF,y1,y2,hp',hq',y3,y4,List.length_map];(try simp (disch:=omega) only[zI])
 (try intros)
 repeat first|intro _|refine⟨by omega,?_⟩
 apply hK;apply zw (zk [8,9,10,13,14,16,17,117]);simp only[go_sem]
 repeat apply zq
 apply zc rfl<;>intro hc<;>(try simp only[go_sem] at hc)
 apply zx
 try simp only[go_sem]
 by_cases hT:T=0
 ·have d1:(T == 0)=true:=by rw[beq_iff_eq];exact hT
  repeat apply zq
  refine zb fun K hK=>?_;simp only[go_sem,d1];(try simp (disch:=omega) only[zI]);repeat first|intro _|refine⟨by omega,?_⟩
  apply hK;apply zw (zk [8,9,10,13,14,16,119]);simp only[go_sem]
  repeat apply zq
  apply zc rfl<;>intro hc<;>(try simp only[go_sem] at hc)
  apply zf;simp only[go_sem]
  repeat apply zq
  refine zb fun K hK=>?_;simp only[go_sem,wl];(try simp (disch:=omega) only[zI]);repeat first|intro _|refine⟨by omega,?_⟩
  apply hK
  try simp only[go_sem]
  refine⟨by omega,zfo [] ?_ ?_⟩
  ·try simp only[go_sem]
  ·try simp only[go_sem]
 have d1:(T == 0)=false:=by rw[beq_eq_false_iff_ne];exact hT
 have hT0:0<T:=by omega
 obtain⟨i,b,b1,b2,b3⟩:=o5 hT0
 have hw2:=hw1 ⟨hT0,by omega⟩
 have ha:=haim (s:Int) (s:Int) 3
 rw[b2] at ha
 have ha2:ACalls Tryz.prog 12 [.ag [.it .i64 1,aimsR (sureL bs),.it .i64 (st:Int),.it .i64 (g:Int)],.ag [.it .i64 (s:Int),.it .i64 (s:Int),.it .i64 3]] (.tu [i64 (i:Int),i64 0,i64 0]):=ha
 have hib:i<bs.length:=(List.getElem?_eq_some_iff.1 b1).1
 have c3:decide ((i:Int)<0)=false:=decide_eq_false (by omega)
 have c4:decide ((bs.length:Int)≤(i:Int))=false:=decide_eq_false (by omega)
 have c5:¬ bs.length≤i:=by omega
 repeat apply zq
 refine zb fun K hK=>?_;simp only[go_sem,d1];(try simp (disch:=omega) only[zI]);repeat first|intro _|refine⟨by omega,?_⟩
 apply hK;apply zw (zk [8,9,10,13,14,16,119]);simp only[go_sem]
 repeat apply zq
 apply zc rfl<;>intro hc<;>(try simp only[go_sem] at hc)
 apply zx
 try simp only[go_sem]
 repeat apply zq
 refine zb fun K hK=>?_;simp only[go_sem];(try simp (disch:=omega) only[zI])
 refine zh (ha2) rfl (by simp only[go_sem,i64,ints]) (by simp only[go_sem,i64,ints]) ?_
 (try simp only[go_sem]);(try simp (disch:=omega) only[zI]);repeat first|intro _|refine⟨by omega,?_⟩
 apply hK;apply zw (zk [8,9,10,13,14,16,18,19,20]);simp only[go_sem]
 repeat apply zq
 refine zb fun K hK=>?_;simp only[go_sem];(try simp (disch:=omega) only[zI])
 refine zh (hw2) rfl (by simp only[go_sem,i64,ints]) (by simp only[go_sem,i64,ints]) ?_
 (try simp only[go_sem]);(try simp (disch:=omega) only[zI]);repeat first|intro _|refine⟨by omega,?_⟩
 apply hK;apply zw (zk [8,9,10,13,14,16,18,19,20,21,22]);simp only[go_sem]
 repeat apply zq
 refine zb fun K hK=>?_;simp only[go_sem,z0,c3,c4,c5,List.length_map];(try simp (disch:=omega) only[zI])
 (try intros)
 repeat first|intro _|refine⟨by omega,?_⟩
 apply hK;apply zw (zk [8,9,10,13,14,16,19,21,154]);simp only[go_sem]
 repeat apply zq
 apply zc rfl<;>intro hc<;>(try simp only[go_sem] at hc)
 apply zx
 try simp only[go_sem]
 repeat apply zq
 refine zb fun K hK=>?_;simp only[go_sem];(try simp (disch:=omega) only[zI]);repeat first|intro _|refine⟨by omega,?_⟩
 apply hK;apply zw (zk [8,9,10,13,14,16,19,21,23]);simp only[go_sem]
 repeat apply zq
 refine zb fun K hK=>?_;simp only[go_sem];(try simp (disch:=omega) only[zI]);repeat first|intro _|refine⟨by omega,?_⟩
 apply hK;apply zw (zk [8,9,10,13,14,16,19,21,23,24]);simp only[go_sem]
 repeat apply zq
 apply zd
 refine zup (n:=189) W.length (fun m vs=>[(8,.r (ints bs)),(9,.r (.rp [i64 1,aimsR (sureL bs),i64 (st:Int),i64 (g:Int)])),(10,.r (ints U)),(13,.r (.rp [ints bs,i64 (g:Int),i64 3])),(14,.r (ints F)),(16,.r (i64 (s:Int))),(19,.r (i64 (i:Int))),(21,.r (.sl 1 (W.map fun w=>[ints w]))),(23,.r (.bo (foundB b W m))),(24,.r (i64 (m:Int)))])
  (fun m=>[]) (fun _=>True) 0 (zfo [] ?_ ?_) (Nat.zero_le _) trivial ?_
 ·try simp only[go_sem]
  try rfl
 ·try simp only[go_sem]
 intro m vs hm _
 by_cases hmW:m<W.length
 ·obtain⟨wy,hwm⟩:=zol hmW
  have hfs:=found_succ (b:=b) hwm
  rw[hfs]
  generalize foundB b W m=fb at *
  have c1:decide ((m:Int)<(W.length:Int))=true:=decide_eq_true (by omega)
  have wm:IntKind.i64.wrap ((m:Int)+1)=(m:Int)+1:=by rw[zI]<;>omega
  repeat apply zq
  refine zb fun K hK=>?_;simp only[go_sem,c1,hmW,List.length_map];(try simp (disch:=omega) only[zI]);repeat first|intro _|refine⟨by omega,?_⟩
  apply hK;apply zw (zk [8,9,10,13,14,16,19,21,23,24,158]);simp only[go_sem]
  repeat apply zq
  apply zc rfl<;>intro hc<;>(try simp only[go_sem] at hc)
  apply zx
  try simp only[go_sem]
  repeat apply zq
  apply zd
  repeat apply zq
  refine zaj (n:=189) (fun (_:Unit) vs=>[(8,.r (ints bs)),(9,.r (.rp [i64 1,aimsR (sureL bs),i64 (st:Int),i64 (g:Int)])),(10,.r (ints U)),(13,.r (.rp [ints bs,i64 (g:Int),i64 3])),(14,.r (ints F)),(16,.r (i64 (s:Int))),(19,.r (i64 (i:Int))),(21,.r (.sl 1 (W.map fun w=>[ints w]))),(23,.r (.bo (fb || begB b wy))),(24,.r (i64 (m:Int)))]) (fun _=>[]) (fun _=>True) (fun _ h=>h) ?_ ?_
  ·cases fb
   ·cases wy with
    | nil =>
      repeat apply zq
      refine zg follows (by decide +kernel) (by kernel_rfl) fun K hK=>?_;simp only[go_sem,hwm,hmW,b1,hib,List.length_map];(try simp (disch:=omega) only[zI])
      (try intros)
      repeat first|intro _|refine⟨by omega,?_⟩
      apply hK;exact⟨(),trivial,zfo [] (by try simp only[go_sem];try rfl) (by try simp only[go_sem])⟩
    | cons x r =>
      have hbe:begB b (x::r)=(x == b):=rfl
      rw[hbe]
      have hpos:(0:Int)<(r.length:Int)+1:=by omega
      repeat apply zq
      refine zg follows (by decide +kernel) (by kernel_rfl) fun K hK=>?_;simp only[go_sem,hwm,hmW,b1,hib,hpos,List.length_map];(try simp (disch:=omega) only[zI])
      (try intros)
      repeat first|intro _|refine⟨by omega,?_⟩
      apply hK;exact⟨(),trivial,zfo [] (by try simp only[go_sem];try rfl) (by try simp only[go_sem])⟩
   ·repeat apply zq
    refine zg follows (by decide +kernel) (by kernel_rfl) fun K hK=>?_;simp only[go_sem,hwm,hmW,b1,hib,List.length_map];(try simp (disch:=omega) only[zI])
    (try intros)
    repeat first|intro _|refine⟨by omega,?_⟩
    apply hK;exact⟨(),trivial,zfo [] (by try simp only[go_sem];try rfl) (by try simp only[go_sem])⟩
  intro _ vs _
  repeat apply zq
  refine zb fun K hK=>?_;simp only[go_sem,wm];(try simp (disch:=omega) only[zI]);repeat first|intro _|refine⟨by omega,?_⟩
  apply hK
  try simp only[go_sem]
  refine⟨hmW,zfo [] ?_ ?_⟩
  ·try simp only[go_sem]
  ·try simp only[go_sem]
 have hme:m=W.length:=by omega
 subst hme
 rw[b3]
 repeat apply zq
 refine zb fun K hK=>?_;simp only[go_sem,Nat.lt_irrefl,Int.lt_irrefl,List.length_map];(try simp (disch:=omega) only[zI]);repeat first|intro _|refine⟨by omega,?_⟩
 apply hK;apply zw (zk [8,9,10,13,14,16,23,158]);simp only[go_sem]
 repeat apply zq
 apply zc rfl<;>intro hc<;>(try simp only[go_sem] at hc)
 apply zf;simp only[go_sem]
 repeat apply zq
 refine zb fun K hK=>?_;simp only[go_sem];(try simp (disch:=omega) only[zI]);repeat first|intro _|refine⟨by omega,?_⟩
 apply hK;apply zw (zk [8,9,10,13,14,16,184]);simp only[go_sem]
 repeat apply zq
 apply zc rfl<;>intro hc<;>(try simp only[go_sem] at hc)
 apply zx
 try simp only[go_sem]
 repeat apply zq
 refine zb fun K hK=>?_;simp only[go_sem,wl];(try simp (disch:=omega) only[zI]);repeat first|intro _|refine⟨by omega,?_⟩
 apply hK
 try simp only[go_sem]
 refine⟨by omega,zfo [] ?_ ?_⟩
 ·try simp only[go_sem]
 ·try simp only[go_sem]
end Go.Proofs.YtgfbenanljjgaaaGreat.Du.Th.Ai

namespace Go.Oc
open Go Go.RowKit Go.ChangeShapes Go.WideShapes
inductive Sh where
 | int (k:IntKind)
 | bool
 | sl (es:List Sh)
def fieldsSh (P:Program) (sh:TypeId→Option (List Sh)):List Field→Nat→Option (List Sh)
 | [],_=>some []
 | f::fs, o =>
   match sh f.type with
   | some ss=>if f.offset == o&&ss.length == P.cellsOf f.type then match fieldsSh P sh fs (o+ss.length) with|some q=>some (ss++q)|none=>none else none
   | none=>none
def shape (P:Program):Nat→TypeId→Option (List Sh)
 | 0,_=>none
 | n+1, t =>
   match P.underlying t with
   | some (.int k)=>some [.int k]
   | some .bool=>some [.bool]
   | some (.slice e) =>
     match shape P n e with
     | some ss=>if ss.length == P.cellsOf e&&decide (0<ss.length) then some [.sl ss] else none
     | none=>none
   | some (.array m e) =>
     match shape P n e with
     | some ss=>if ss.length == P.cellsOf e&&P.cellsOf t == m*ss.length then some (List.replicate m ss).flatten else none
     | none=>none
   | some (.struct fs) =>
     match fieldsSh P (shape P n) fs.toList 0 with
     | some ss=>if ss.length == P.cellsOf t then some ss else none
     | none=>none
   | _=>none
mutual
def Fits:Sh→RV→Prop
 | .int k,x=>∃ n,x = .it k n∧(Lit.int k n).wf=true
 | .bool,x=>∃ b,x = .bo b
 | .sl ss,x=>∃ es,x = .sl ss.length es∧FitsE ss es
def FitsL:List Sh→List RV→Prop
 | [],xs=>xs=[]
 | s::ss,xs=>∃ y ys,xs=y::ys∧Fits s y∧FitsL ss ys
def FitsE (ss:List Sh):List (List RV)→Prop
 | []=>True
 | e::es=>FitsL ss e∧FitsE ss es
end
theorem fitsL_append:∀ {s1 s2:List Sh}{x1 x2:List RV},FitsL s1 x1→FitsL s2 x2→FitsL (s1++s2) (x1++x2)
 | [],_,_,_,h1,h2=>by simp only[FitsL] at h1;subst h1;simpa using h2
 | s::ss, s2, x1, x2, h1, h2=>by
   simp only[FitsL] at h1
   obtain⟨y,ys,rfl,h3,h4⟩:=h1
   simp only[List.cons_append,FitsL];exact⟨y,_,rfl,h3,fitsL_append h4 h2⟩
theorem fitsL_length:∀ {ss:List Sh}{xs:List RV},FitsL ss xs→xs.length=ss.length
 | [],_,h=>by simp only[FitsL] at h;subst h;rfl
 | s::ss, _, h=>by
   simp only[FitsL] at h
   obtain⟨y,ys,rfl,_,h⟩:=h
   simp [fitsL_length h]
theorem fitsE_of:∀ {ss:List Sh}{es:List (List RV)},(∀ e∈es,FitsL ss e)→FitsE ss es
 | _,[],_=>by simp only[FitsE]
 | ss,e::es,h=>by simp only[FitsE];exact⟨h e (by simp),fitsE_of fun x hx=>h x (by simp [hx])⟩
theorem choice {α:Type}{Q:Nat→α→Prop}:∀ (n:Nat),(∀ i,i<n→∃ x,Q i x)→∃ xs:List α,xs.length=n∧∀ i x,xs[i]? = some x→Q i x
 | 0,_=>⟨[],rfl,by simp⟩
 | n+1, h=>by
   obtain⟨xs,hl,hx⟩:=choice n fun i hi=>h i (by omega)
   obtain⟨y,hy⟩:=h n (by omega)
   refine⟨xs++[y],by simp [hl],fun i x hi=>?_⟩
   by_cases h1:i<n
   ·rw[List.getElem?_append_left (by omega)] at hi;exact hx i x hi
   ·rw[List.getElem?_append_right (by omega)] at hi
    have:i=n:=by have:=(List.getElem?_eq_some_iff.1 hi).1;simp at this;omega
    subst this
    simp [hl] at hi
    exact hi▸hy
section
variable {w:World}{P:Program}
theorem cells?_get {base n:Nat}{a:Addr}{cs:List Value}(h:w.cells? base a n=some cs):cs.length=n∧∀ i,i<n→w.cell? (a.add i)=cs[i]?:=by
 unfold World.cells? at h
 split at h
 ·exact⟨by simpa using mapM_some_length h,fun i hi=>mapM_some_get h i i (by simp [hi])⟩
 ·cases h
theorem cell_lt {a:Addr}{v:Value}(h:w.cell? a=some v):a.block<w.heap.size:=by
 refine Decidable.byContradiction fun hn=>?_
 have:w.heap[a.block]? = none:=by simp;omega
 simp [World.cell?,this] at h
def old (w:World):Nat→Prop:=fun b=>b<w.heap.size
theorem relC_of_cells {xs:List RV}{cs:List Value}{ad:Addr}(hV:RV.relV w (old w) xs cs) (hone:∀ u∈cs,u.oneCell'=true) (hc:∀ i,i<cs.length→w.cell? (ad.add i)=cs[i]?):RV.relC w (old w) xs ad 0:=by
 refine RV.relC_of_get fun i x hx=>?_
 obtain⟨u,hu,hr⟩:=RV.relV_get hV hx
 have hi:=(List.getElem?_eq_some_iff.1 hu).1
 refine⟨u,?_,hone u (List.mem_of_getElem? hu),hr⟩
 rw[Nat.zero_add,hc i hi,hu]
variable {H:Type}{enc:TypeId × Value→H}{base:Nat}{spare:Nat→Bool}{held:Bool}
def Good3 (w:World) (ss:List Sh) (cs:List Value):Prop:=∃ xs,FitsL ss xs∧RV.relV w (old w) xs cs∧∀ u∈cs,u.oneCell'=true
theorem good3_append {s1 s2:List Sh}{c1 c2:List Value}(h1:Good3 w s1 c1) (h2:Good3 w s2 c2):Good3 w (s1++s2) (c1++c2):=by
 obtain⟨x1,f1,r1,o1⟩:=h1
 obtain⟨x2,f2,r2,o2⟩:=h2
 refine⟨x1++x2,fitsL_append f1 f2,RV.relV_append r1 r2,fun u hu=>?_⟩
 rcases List.mem_append.1 hu with hu|hu
 ·exact o1 u hu
 ·exact o2 u hu
theorem trod_fits:∀ (fuel n:Nat) (t:TypeId) (cs:List Value) (x:DataW H × List MemPlace) (ss:List Sh),DataW.trod enc P w base spare held fuel t cs=some x→shape P n t=some ss→Good3 w ss cs:=by
 intro fuel
 induction fuel with
 | zero=>intro n t cs x ss h;simp [DataW.trod] at h
 | succ fuel ih =>
   intro n t cs x ss h hs
   cases n with
   | zero=>simp [shape] at hs
   | succ n =>
     unfold shape at hs
     split at hs
     ·rename_i k ht
      injection hs with hs;subst hs
      obtain⟨m,rfl,_,hw⟩:=DataW.trod_int ht h
      exact⟨[.it k m],by simp only[FitsL,Fits];exact⟨_,[],rfl,⟨m,rfl,hw⟩,rfl⟩,by simp only[RV.relV,RV.rel];exact⟨_,[],rfl,rfl,rfl⟩,by simp [Value.oneCell']⟩
     ·rename_i ht
      injection hs with hs;subst hs
      obtain⟨b,rfl,_⟩:=DataW.trod_bool ht h
      exact⟨[.bo b],by simp only[FitsL,Fits];exact⟨_,[],rfl,⟨b,rfl⟩,rfl⟩,by simp only[RV.relV,RV.rel];exact⟨_,[],rfl,rfl,rfl⟩,by simp [Value.oneCell']⟩
     ·rename_i e ht
      split at hs
      ·rename_i es hes
       split at hs
       ·rename_i hc
        simp only[Bool.and_eq_true,beq_iff_eq,decide_eq_true_eq] at hc
        injection hs with hs;subst hs
        rcases DataW.trod_slice ht h with⟨rfl,_⟩|⟨a,len,cap,elems,rest,m,hm,rfl,_,_,hlc,hcm,hel,hget,_⟩
        ·refine⟨[.sl es.length []],?_,?_,by simp [Value.oneCell']⟩
         ·simp only[FitsL,Fits];exact⟨_,[],rfl,⟨[],rfl,by simp only[FitsE]⟩,rfl⟩
         ·simp only[RV.relV,RV.rel];exact⟨_,[],rfl,⟨none,0,rfl,Nat.le_refl _,Nat.zero_le _,fun h=>absurd rfl h⟩,rfl⟩
        ·injection hm with hm;subst hm
         have hall:∀ i,i<len→∃ e',FitsL es e'∧e'.length=es.length∧RV.relC w (old w) e' (a.add (i*es.length)) 0∧a.block<w.heap.size:=fun i hi=>by
          have h1:=hget i hi
          have h2:i<elems.length:=by omega
          rw[List.getElem?_eq_getElem h2] at h1
          obtain⟨ci,hci,htr⟩:=Option.bind_eq_some_iff.1 h1
          rw[← hc.1] at hci
          obtain⟨hl,hcell⟩:=cells?_get hci
          obtain⟨xs,f,r,o⟩:=ih n e ci _ es htr hes
          refine⟨xs,f,fitsL_length f,relC_of_cells r o (fun j hj=>hcell j (by omega)),?_⟩
          have h3:=hcell 0 hc.2
          have h4:0<ci.length:=by omega
          rw[List.getElem?_eq_getElem h4] at h3
          have:=cell_lt h3
          rwa [block_add,block_add] at this
         obtain⟨els,hlen,hels⟩:=choice len hall
         refine⟨[.sl es.length els],?_,?_,by simp [Value.oneCell']⟩
         ·simp only[FitsL,Fits]
          refine⟨_,[],rfl,⟨els,rfl,fitsE_of fun e' he'=>?_⟩,rfl⟩
          obtain⟨i,hi⟩:=List.getElem?_of_mem he'
          exact (hels i e' hi).1
         ·simp only[RV.relV,RV.rel]
          refine⟨_,[],rfl,⟨some a,cap,by rw[hlen],by omega,hcm,fun hne=>?_⟩,rfl⟩
          obtain⟨e0,he0⟩:∃ e0,els[0]? = some e0:=by
           cases els with
           | nil=>exact absurd rfl hne
           | cons a l=>exact⟨a,rfl⟩
          refine⟨a,rfl,(hels 0 e0 he0).2.2.2,RV.relE_of_get fun i e' he'=>?_⟩
          obtain⟨_,q1,q2,_⟩:=hels i e' he'
          exact⟨q1,RV.relC_unbase _ q2⟩
       ·cases hs
      ·cases hs
     ·rename_i m e ht
      split at hs
      ·rename_i es hes
       split at hs
       ·rename_i hc
        simp only[Bool.and_eq_true,beq_iff_eq] at hc
        injection hs with hs;subst hs
        obtain⟨xs,fm,hm,_,hcl,hxl,hget⟩:=DataW.trod_array ht h
        injection hm with hm;subst hm
        have key:∀ j,j≤m→Good3 w (List.replicate j es).flatten (cs.take (j*es.length)):=by
         intro j
         induction j with
         | zero=>intro _;exact⟨[],by simp [FitsL],by simp [RV.relV],by simp⟩
         | succ j ihj =>
           intro hj
           have h1:=hget j (by omega)
           have h2:j<xs.length:=by omega
           rw[List.getElem?_eq_getElem h2,← hc.1] at h1
           have h3:=ih n e _ _ es h1 hes
           have:=good3_append (ihj (by omega)) h3
           rw[← List.take_add] at this
           rw[List.replicate_succ',List.flatten_append,Nat.add_mul]
           simpa using this
        have:=key m (Nat.le_refl _)
        rwa [← hc.2,← hcl,List.take_length] at this
       ·cases hs
      ·cases hs
     ·rename_i fs ht
      split at hs
      ·rename_i q hq
       split at hs
       ·rename_i hc
        simp only[beq_iff_eq] at hc
        injection hs with hs;subst hs
        obtain⟨xs,fm,hm,_,hcl,hxl,hget⟩:=DataW.trod_struct ht h
        injection hm with hm;subst hm
        have key:∀ (l:List Field) (o:Nat) (q:List Sh),(∀ f∈l,∃ y,DataW.trod enc P w base spare held fuel f.type ((cs.drop f.offset).take (P.cellsOf f.type))=some y)→fieldsSh P (shape P n) l o=some q→Good3 w q ((cs.drop o).take q.length):=by
         intro l
         induction l with
         | nil =>
           intro o q _ hq
           simp only[fieldsSh,Option.some.injEq] at hq
           subst hq
           exact⟨[],by simp [FitsL],by simp [RV.relV],by simp⟩
         | cons f l ihl =>
           intro o q hall hq
           simp only[fieldsSh] at hq
           split at hq
           ·rename_i s1 hs1
            split at hq
            ·rename_i hc1
             simp only[Bool.and_eq_true,beq_iff_eq] at hc1
             split at hq
             ·rename_i q2 hq2
              injection hq with hq;subst hq
              obtain⟨y,hy⟩:=hall f (by simp)
              have g1:=ih n f.type _ _ s1 hy hs1
              have g2:=ihl (o+s1.length) q2 (fun f' hf'=>hall f' (by simp [hf'])) hq2
              rw[hc1.1,← hc1.2] at g1
              have:=good3_append g1 g2
              rw[← List.drop_drop,← List.take_add] at this
              simpa using this
             ·cases hq
            ·cases hq
           ·cases hq
        have:=key fs.toList 0 q (fun f hf=>by
         obtain⟨i,hi⟩:=List.getElem?_of_mem hf
         have hi':fs[i]? = some f:=by simpa using hi
         have h1:=hget i f hi'
         have h2:i<xs.length:=by have:=(Array.getElem?_eq_some_iff.1 hi').1;omega
         exact⟨xs[i],by rw[h1];exact List.getElem?_eq_getElem h2⟩) hq
        rwa [List.drop_zero,hc,← hcl,List.take_length] at this
       ·cases hs
      ·cases hs
     ·cases hs
def FitsT (P:Program) (n:Nat) (t:TypeId) (x:RV):Prop:=∃ ss,shape P n t=some ss∧if aggOf P t then ∃ xs,x = .ag xs∧FitsL ss xs else FitsL ss [x]
theorem arg_fits {n:Nat}{t:TypeId}{v:Value}{d:DataW H}{ps:List MemPlace}{r:Reach}{b0:Nat}(hs:(shape P n t).isSome=true) (hval:Value.okWide P w r b0 t v) (h:DataW.Trod enc P w base spare held t v d ps) :
 ∃ x,FitsT P n t x∧x.rel w (old w) v:=by
 obtain⟨ss,hss⟩:=Option.isSome_iff_exists.1 hs
 obtain⟨fuel,hf⟩:=h
 obtain⟨xs,f,r,o⟩:=trod_fits fuel n t _ _ ss hf hss
 have one:aggOf P t=false→v.cells.toList=[v]→∃ x,FitsT P n t x∧x.rel w (old w) v:=fun ha hc=>by
  rw[hc] at r
  match xs,r with
  | [x], r =>
    simp only[RV.relV] at r
    obtain⟨u,us,e,hr,_⟩:=r
    injection e with e1 e2
    subst e1
    exact⟨x,⟨ss,hss,by rw[ha];exact f⟩,hr⟩
  | [],r=>simp [RV.relV] at r
  | _::_::_, r =>
    simp only[RV.relV] at r
    obtain⟨u,us,e,_,u2,us2,e2,_⟩:=r
    injection e with _ e
    rw[e2] at e;cases e
 cases n with
 | zero=>simp [shape] at hss
 | succ n =>
   have hss':=hss
   unfold shape at hss'
   split at hss'
   ·rename_i k ht
    obtain⟨m,rfl⟩:=okWide_int ht hval
    exact one (by simp [aggOf,ht]) rfl
   ·rename_i ht
    obtain⟨b,rfl⟩:=okWide_bool ht hval
    exact one (by simp [aggOf,ht]) rfl
   ·rename_i e ht
    obtain⟨a,l,c,rfl⟩:=okWide_slice ht hval
    exact one (by simp [aggOf,ht]) rfl
   ·rename_i m e ht
    obtain⟨cs,rfl⟩:∃ cs,v = .agg cs:=by
     simp only[Value.okWide,ht] at hval
     obtain⟨cs,h1,_⟩:=hval
     exact⟨cs,h1⟩
    exact⟨.ag xs,⟨ss,hss,by simp only[aggOf,ht,if_true];exact⟨xs,rfl,f⟩⟩,by simp only[RV.rel];exact⟨cs,rfl,o,r⟩⟩
   ·rename_i fs ht
    obtain⟨cs,rfl,_⟩:=okWide_struct ht hval
    exact⟨.ag xs,⟨ss,hss,by simp only[aggOf,ht,if_true];exact⟨xs,rfl,f⟩⟩,by simp only[RV.rel];exact⟨cs,rfl,o,r⟩⟩
   ·cases hss'
theorem fitsT_one {n:Nat}{t:TypeId}{x:RV}{s:Sh}(h:FitsT P n t x) (hs:shape P n t=some [s]) (ha:aggOf P t=false):Fits s x:=by
 obtain⟨s',h1,h2⟩:=h
 rw[hs] at h1;injection h1 with h1;subst h1
 rw[ha] at h2
 simp only[Bool.false_eq_true,if_false,FitsL] at h2
 obtain⟨y,ys,e,h3,_⟩:=h2
 injection e with e1 e2
 subst e1
 exact h3
end
end Go.Oc

namespace Go.Proofs.YtgfbenanljjgaaaGreat.Du.Th.Ai
open Go Go.Oc
set_option maxRecDepth 8000
theorem wfq8 {n:Int}(h:(Lit.int .u8 n).wf=true):∃ k:Nat,n=k∧k<256:=by
 simp only[Lit.wf,Bool.and_eq_true,decide_eq_true_eq] at h
 have h1:IntKind.min .u8=0:=by decide
 have h2:IntKind.max .u8=255:=by decide
 rw[h1,h2] at h
 obtain⟨k,hk⟩:=Int.eq_ofNat_of_zero_le h.1
 exact⟨k,hk,by omega⟩
theorem fitsQ64 {x:RV}(h:FitsT Tryz.prog 9 64 x):∃ w:Int,x = .it .u16 w:=by
 have:=fitsT_one (s:=.int .u16) h (by kernel_rfl) (by kernel_rfl)
 simp only[Oc.Fits] at this
 obtain⟨m,rfl,_⟩:=this
 exact⟨m,rfl⟩
theorem fitsQ5 {x:RV}(h:FitsT Tryz.prog 9 5 x):∃ n:Nat,x = .it .u8 (n:Int)∧n<256:=by
 have:=fitsT_one (s:=.int .u8) h (by kernel_rfl) (by kernel_rfl)
 simp only[Oc.Fits] at this
 obtain⟨n,rfl,hn⟩:=this
 obtain⟨k,rfl,hk⟩:=wfq8 hn
 exact⟨k,rfl,hk⟩
end Go.Proofs.YtgfbenanljjgaaaGreat.Du.Th.Ai

namespace Go.Proofs.YtgfbenanljjgaaaGreat
open Go Go.Oc
theorem law7' {x0 x1 x2:RV}(h0:FitsT Tryz.prog 9 64 x0) (h1:FitsT Tryz.prog 9 5 x1) (h2:FitsT Tryz.prog 9 5 x2):ACalls Tryz.prog 7 [x0,x1,x2] (.bo true):=by
 obtain⟨w,rfl⟩:=Du.Th.Ai.fitsQ64 h0
 obtain⟨a,rfl,ka⟩:=Du.Th.Ai.fitsQ5 h1
 obtain⟨b,rfl,kb⟩:=Du.Th.Ai.fitsQ5 h2
 exact Du.Th.Ai.law_onevisit w a b ka kb
end Go.Proofs.YtgfbenanljjgaaaGreat


namespace Go.Proofs.YtgfbenanljjgaaaGreat
open Go Go.Oc Go.ChangeShapes Go.WideShapes Go.RowKit
theorem own:ownKnob Tryz.prog.godebug=none:=by kernel_rfl
theorem laidOut:laidOutB Tryz.prog=true:=by kernel_rfl
set_option maxRecDepth 100000 in
theorem lifted (os:Os) (started:os.Started) (H:Type) (enc:TypeId × Value→H) :
 ReturnsInHanded {} Tryz.checked os 7 .any (Rows.topOneVisitSpec.pre6 enc Tryz.prog Tryz.f7 Rows.topOneVisitRow.domain false) (Rows.topOneVisitSpec.post enc Tryz.prog Tryz.f7 false true false false):=by
 refine returnsInHanded_of_change (C:=Tryz.checked) own started (by kernel_rfl) Tryz.func7
  (ChangeSpec.witness6 (enc:=enc) (C:=Tryz.checked) false ⟨#[], #[.int .u16 0, .int .u8 0, .int .u8 0], []⟩ 8 (by kernel_rfl) (by kernel_rfl) (by kernel_rfl) (by kernel_rfl)) ?_
 intro W base args ds gs before hval0 hW hcnd _
 have hval:∀ (j:Nat) t v, Tryz.f7.params[j]? = some t→args[j]? = some v→Value.okWide Tryz.prog W .any base t v:=hval0
 have hW':=hW
 obtain⟨p, q, hA0, hV, rfl, hfz, hnd⟩:=hW
 have hA:DataW.TrodAll enc Tryz.prog W 0 (fun _=>true) true Tryz.f7.params.toList args.toList ds p:=hA0
 rw[Tryz.params7] at hA hval
 obtain⟨v0, vs0, d0, ds0, p0, q0, hargs, rfl, rfl, h0, r0⟩:=trodAll_cons hA
 obtain⟨v1, vs1, d1, ds1, p1, q1, rfl, rfl, rfl, h1, r1⟩:=trodAll_cons r0
 obtain⟨v2, vs2, d2, ds2, p2, q2, rfl, rfl, rfl, h2, r2⟩:=trodAll_cons r1
 obtain⟨rfl, rfl, rfl⟩:=trodAll_nil r2
 obtain rfl:args = #[v0, v1, v2]:=by cases args;simp_all
 obtain⟨rfl, rfl⟩:=trodVars_none hV
 have lt0:∀ x∈p0, x.block<W.heap.size:=by obtain⟨m, hm⟩:=h0;exact DataW.trod_lt m _ _ _ hm
 have lt1:∀ x∈p1, x.block<W.heap.size:=by obtain⟨m, hm⟩:=h1;exact DataW.trod_lt m _ _ _ hm
 have lt2:∀ x∈p2, x.block<W.heap.size:=by obtain⟨m, hm⟩:=h2;exact DataW.trod_lt m _ _ _ hm
 obtain⟨x0, g0, e0⟩:=arg_fits (n:=9) (by kernel_rfl) (hval 0 64 v0 rfl rfl) h0
 obtain⟨x1, g1, e1⟩:=arg_fits (n:=9) (by kernel_rfl) (hval 1 5 v1 rfl rfl) h1
 obtain⟨x2, g2, e2⟩:=arg_fits (n:=9) (by kernel_rfl) (hval 2 5 v2 rfl rfl) h2
 clear hA0 hval0
 refine ((law7' g0 g1 g2).2 W (old W) #[v0, v1, v2] (fun _ h=>h) (by simp only[RV.relV];exact⟨_, _, rfl, e0, _, _, rfl, e1, _, _, rfl, e2, rfl⟩)).mono fun e W' he => ?_
 obtain⟨v, R', rfl, bel, _, _, _, hr⟩:=he
 simp only[RV.rel] at hr
 subst hr
 exact⟨_, rfl, _, _, _, [], _, [], hW', trodAll_mk1 (shut_bool Tryz.underlying4 _), (trodAll_cons_mk (Below.trod laidOut (by kernel_rfl) (of_decide_eq_true (by kernel_rfl)) h0 bel lt0) (trodAll_cons_mk (Below.trod laidOut (by kernel_rfl) (of_decide_eq_true (by kernel_rfl)) h1 bel lt1) (trodAll_cons_mk (Below.trod laidOut (by kernel_rfl) (of_decide_eq_true (by kernel_rfl)) h2 bel lt2) trodAll_mk0))), rfl, bel.frame _, fun h=>by cases h⟩
theorem over:Rows.topOneVisitRow.holds Tryz.pinned (OpenSpec.ofChange Rows.topOneVisitSpec) :=
 OpenClaim.holds_of_wide 7 Tryz.f7 rfl rfl rfl rfl rfl rfl rfl ⟨rfl, rfl, rfl, rfl, rfl⟩ rfl rfl rfl rfl rfl (by kernel_rfl) Tryz.func7 (by kernel_rfl)
  (of_decide_eq_true (by kernel_rfl)) (by unfold Func.isWrapper;first|(rw[if_pos (by decide +kernel)];kernel_rfl)|(rw[if_neg (by decide +kernel)];exact⟨rfl, rfl⟩))
  (fun os started H enc _=>lifted os started H enc)
theorem topOneVisit_holds:Rows.TopOneVisitSaid:=over
#print axioms topOneVisit_holds
end Go.Proofs.YtgfbenanljjgaaaGreat

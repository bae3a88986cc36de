/- For all rules and bytes, the given function AimNarrows returns true: with narrower spans no upper number is greater and no lower one smaller, and with an aim more no number is greater. No conditions beyond those of the given statement. -/
import Derived.Test.YtgfbenanljjgaaaVI10
import Derived.Test.YtgfbenanljjgaaaVI6
import Derived.Test.YtgfbenanljjgaaaVI8
import Derived.Test.YtgfbenanljjgaaaVI5
import Derived.Test.YtgfbenanljjgaaaVI7
import Derived.ChangeShapes
import Derived.WideShapes
import Derived.OpenShut
import Derived.ShutString
import Derived.ChangeOld
import Derived.Carry
import Derived.Below
import Derived.Test.YtgfbenanljjgaaaRows
import Derived.JoinedOf
set_option linter.unusedSimpArgs false
set_option linter.unusedVariables false
namespace Go.Proofs.Ytgfbenanljjgaaa.Du.Th.Ai
open Go Go.Oc
set_option maxRecDepth 8000
def narB8 (y b1 b2 : Int) (c : Bd) : Bd:=⟨c.b,y - (y - c.lo) * b1 / 255,y + (c.hi - y) * b2 / 255⟩
def nar8 (y bs : List Int) (l : List Bd) : List Bd:=(List.range l.length).map fun k=>narB8 (y.getD k 0) (byteL bs (k + 2)) (byteL bs (k + 3)) (bAt l k)
def narA (bs : List Int) (i : Nat) (a : Am) : Am:=⟨a.at_,nar8 (truthT a.beds bs i 24) bs a.beds⟩
def narAt (bs : List Int) (l : List Am) : List Am:=(List.range l.length).map fun i=>narA bs i (lA l i)
def narK (R : Rk) (bs : List Int) : Rk:=⟨R.d,narAt bs R.aims,R.start,R.out⟩
def moreA (bs : List Int) (l : List Am) : Am:=⟨(lA l (l.length - 1)).at_,(narA bs 0 (lA l 0)).beds⟩
def moreK (R : Rk) (bs : List Int) : Rk:=⟨R.d,R.aims ++ [moreA bs R.aims],R.start,R.out⟩
theorem nar8_len (y bs : List Int) (l : List Bd) : (nar8 y bs l).length = l.length:=by simp [nar8]
theorem bAt_nar8 {y bs : List Int} {l : List Bd} {k : Nat} (hk : k < l.length) : bAt (nar8 y bs l) k = narB8 (y.getD k 0) (byteL bs (k + 2)) (byteL bs (k + 3)) (bAt l k):=by
 unfold bAt nar8
 rw [List.getD_eq_getElem?_getD,List.getElem?_map,List.getElem?_range hk];rfl
theorem scale_le {x b : Int} (hx : 0 ≤ x) (hb : 0 ≤ b ∧ b ≤ 255) : 0 ≤ x * b / 255 ∧ x * b / 255 ≤ x:=by
 have h1 : 0 ≤ x * b:=Int.mul_nonneg hx hb.1
 have h2 : x * b ≤ x * 255:=Int.mul_le_mul_of_nonneg_left hb.2 hx
 omega
theorem nar8_each {D : Int} {y bs : List Int} {l : List Bd} (hb : ∀ n ∈ bs,0 ≤ n ∧ n ≤ 255) (hy : TruthN D l y) {k : Nat} (hk : k < l.length) :
 (bAt l k).lo ≤ (bAt (nar8 y bs l) k).lo ∧ (bAt (nar8 y bs l) k).lo ≤ y.getD k 0 ∧ y.getD k 0 ≤ (bAt (nar8 y bs l) k).hi ∧ (bAt (nar8 y bs l) k).hi ≤ (bAt l k).hi:=by
 have h:=hy.each k hk
 rw [bAt_nar8 hk]
 have s1:=scale_le (x:=y.getD k 0 - (bAt l k).lo) (by omega) (byteL_le hb (k + 2))
 have s2:=scale_le (x:=(bAt l k).hi - y.getD k 0) (by omega) (byteL_le hb (k + 3))
 simp only [narB8]
 omega
theorem nar8_truth {D : Int} {y bs : List Int} {l : List Bd} (hb : ∀ n ∈ bs,0 ≤ n ∧ n ≤ 255) (hy : TruthN D l y) : TruthN D (nar8 y bs l) y :=
 ⟨by rw [hy.len,nar8_len],fun i hi=>by rw [nar8_len] at hi;have:=nar8_each hb hy hi;omega,hy.sum⟩
theorem nar8_b (y bs : List Int) (l : List Bd) : (nar8 y bs l).map (·.b) = l.map (·.b):=by
 conv=>rhs;rw [← range_bAt l]
 simp [nar8,narB8,Function.comp_def]
theorem nar8_nar {y bs : List Int} {l : List Bd} {D : Int} (hb : ∀ n ∈ bs,0 ≤ n ∧ n ≤ 255) (hy : TruthN D l y) : NarB l (nar8 y bs l) :=
 ⟨nar8_len y bs l,fun i hi=>by
  have:=nar8_each hb hy hi
  refine ⟨?_,this.1,this.2.2.2⟩
  rw [bAt_nar8 hi];rfl⟩
theorem aimOk_mk {d : Int} {at_ : Int} {l : List Bd} (h1 : bedOk at_ = true) (h2 : l ≠ []) (h3 : seqOk none l = true) (h4 : chOk d l = true) (h5 : loS l ≤ d) (h6 : d ≤ hiS l) : aimOk d ⟨at_,l⟩ = true:=by
 have h2' : l.isEmpty = false:=by cases l with | nil=>exact absurd rfl h2 | cons=>rfl
 simp only [aimOk,h1,h2',h3,h4,Bool.not_false,Bool.true_and,Bool.and_eq_true,decide_eq_true_eq];exact ⟨h5,h6⟩
theorem nar8_ok {a : Am} {at_ : Int} {y bs : List Int} (hb : ∀ n ∈ bs,0 ≤ n ∧ n ≤ 255) (h : aimOk 24 a = true) (hat : bedOk at_ = true) (hy : TruthN 24 a.beds y) : aimOk 24 ⟨at_,nar8 y bs a.beds⟩ = true:=by
 obtain ⟨h1,h2,h3,h4,h5,h6⟩:=aimOk_facts h
 obtain ⟨t1,t2⟩:=truth_le (nar8_truth hb hy)
 have hl:=nar8_len y bs a.beds
 refine aimOk_mk hat (fun e=>?_) (by rw [seqOk_map (nar8_b y bs a.beds)];exact h3) ?_ t1 t2
 · rw [e] at hl
   exact h2 (List.length_eq_zero_iff.1 hl.symm)
 · simp only [chOk,Bool.and_eq_true,decide_eq_true_eq,List.all_eq_true] at h4 ⊢
   intro c hc
   obtain ⟨k,hk,rfl⟩:=mem_bAt hc
   rw [nar8_len] at hk
   have e:=nar8_each (bs:=bs) hb hy hk
   have g:=h4 _ (bAt_mem hk)
   omega
theorem checkV_mk {l : List Am} (h1 : l ≠ []) (h2 : l.length ≤ 20) (h3 : ∀ a ∈ l,a.beds.length ≤ 5) (h4 : ∀ a ∈ l,aimOk 24 a = true) : checkV 24 l = 0:=by
 unfold checkV
 rw [if_neg,if_neg,if_pos]
 · exact List.all_eq_true.2 h4
 · simp only [Bool.or_eq_true,List.isEmpty_iff,Bool.not_eq_true',Bool.and_eq_false_iff,decide_eq_false_iff_not]
   simp [h1]
 · simp only [Bool.or_eq_true,decide_eq_true_eq,List.any_eq_true,not_or,not_exists,not_and]
   refine ⟨by omega,fun a h=>?_⟩
   have:=h3 a h
   omega
theorem lA_mem {l : List Am} {i : Nat} (h : i < l.length) : lA l i ∈ l:=by
 unfold lA
 rw [List.getD_eq_getElem?_getD,List.getElem?_eq_getElem h]
 exact List.getElem_mem _
theorem narAt_len (bs : List Int) (l : List Am) : (narAt bs l).length = l.length:=by simp [narAt]
structure NarOk (R N W : Rk) : Prop where
 cN : checkR N = 0
 cW : checkR W = 0
 wN : WfL N.d N.aims
 wW : WfL W.d W.aims
 bN : ∀ a ∈ N.aims,a.beds.length ≤ 5
 bW : ∀ a ∈ W.aims,a.beds.length ≤ 5
 up : ∀ s : Nat,(s : Int) ≤ R.start → (tabT N false).getD s 0 ≤ (tabT R false).getD s 0 ∧ (tabT W false).getD s 0 ≤ (tabT R false).getD s 0
 lw : ∀ s : Nat,(s : Int) ≤ R.start → (tabT R true).getD s 0 ≤ (tabT N true).getD s 0 ∧ (tabT W true).getD s 0 ≤ (tabT R true).getD s 0
theorem nar_all {R : Rk} {bs : List Int} (hb : ∀ n ∈ bs,0 ≤ n ∧ n ≤ 255) (hck : checkR R = 0) (hd : R.d = 24) (hlen : R.aims.length ≤ 10) (h24 : ∀ a ∈ R.aims,A24 a) : NarOk R (narK R bs) (moreK R bs):=by
 obtain ⟨hcv,hr⟩:=checkR_zero hck
 have hall:=(checkV_zero hcv).2.2.2.2
 rw [hd] at hall
 have hne:=hr.ne
 have hn : 0 < R.aims.length:=List.length_pos_iff.2 hne
 have hA:=fun (i : Nat) (a : Am) (ha : a ∈ R.aims)=>(h24 a ha).truth hb i
 have hat:=fun (a : Am) (ha : a ∈ R.aims)=>(aimOk_facts (hall a ha)).1
 have oN : ∀ a ∈ (narK R bs).aims,aimOk 24 a = true ∧ a.beds.length ≤ 5:=fun a ha=>by
  obtain ⟨i,hi,rfl⟩:=List.mem_map.1 ha
  have hm:=lA_mem (List.mem_range.1 hi)
  refine ⟨nar8_ok hb (hall _ hm) (hat _ hm) (hA i _ hm),?_⟩
  show (nar8 _ _ _).length ≤ 5
  rw [nar8_len];exact (h24 _ hm).len.2
 have oW : ∀ a ∈ (moreK R bs).aims,aimOk 24 a = true ∧ a.beds.length ≤ 5:=fun a ha=>by
  rcases List.mem_append.1 ha with ha | ha
  · exact ⟨hall a ha,(h24 a ha).len.2⟩
  · rw [List.mem_singleton] at ha
    subst ha
    have hm0:=lA_mem (l:=R.aims) (i:=0) hn
    have hml:=lA_mem (l:=R.aims) (i:=R.aims.length - 1) (by omega)
    refine ⟨nar8_ok hb (hall _ hm0) (hat _ hml) (hA 0 _ hm0),?_⟩
    show (nar8 _ _ _).length ≤ 5
    rw [nar8_len];exact (h24 _ hm0).len.2
 have lN : (narK R bs).aims.length = R.aims.length:=narAt_len bs R.aims
 have lW : (moreK R bs).aims.length = R.aims.length + 1:=by simp [moreK]
 have vN : checkV (narK R bs).d (narK R bs).aims = 0:=by
  show checkV R.d _ = 0
  rw [hd]
  exact checkV_mk (fun e=>by rw [e] at lN;simp at lN;omega) (by omega) (fun a ha=>(oN a ha).2) (fun a ha=>(oN a ha).1)
 have vW : checkV (moreK R bs).d (moreK R bs).aims = 0:=by
  show checkV R.d _ = 0
  rw [hd]
  exact checkV_mk (fun e=>by rw [e] at lW;simp at lW) (by omega) (fun a ha=>(oW a ha).2) (fun a ha=>(oW a ha).1)
 have cN : checkR (narK R bs) = 0:=by
  unfold checkR
  rw [if_pos vN,if_pos ⟨hr.start,hr.out⟩]
 have cW : checkR (moreK R bs) = 0:=by
  unfold checkR
  rw [if_pos vW,if_pos ⟨hr.start,hr.out⟩]
 have rN:=(checkR_zero cN).2
 have rW:=(checkR_zero cW).2
 have i64d : I64 R.d:=by rw [hd];unfold I64;omega
 have lget : ∀ a ∈ R.aims,∃ i,i < R.aims.length ∧ lA R.aims i = a:=fun a ha=>by
  obtain ⟨i,hi⟩:=List.getElem?_of_mem ha
  exact ⟨i,(List.getElem?_eq_some_iff.1 hi).1,by unfold lA;simp [List.getD,hi]⟩
 have sN1 : ∀ b ∈ R.aims,∃ a ∈ (narK R bs).aims,NarB b.beds a.beds:=fun b hb'=>by
  obtain ⟨i,hi,rfl⟩:=lget b hb'
  exact ⟨narA bs i (lA R.aims i),List.mem_map.2 ⟨i,List.mem_range.2 hi,rfl⟩,nar8_nar hb (hA i _ hb')⟩
 have sN2 : ∀ b ∈ (narK R bs).aims,∃ a ∈ R.aims,NarB a.beds b.beds:=fun b hb'=>by
  obtain ⟨i,hi,rfl⟩:=List.mem_map.1 hb'
  have hm:=lA_mem (List.mem_range.1 hi)
  exact ⟨_,hm,nar8_nar hb (hA i _ hm)⟩
 have sW : ∀ b ∈ R.aims,∃ a ∈ (moreK R bs).aims,NarB b.beds a.beds:=fun b hb'=>⟨b,List.mem_append.2 (.inl hb'),NarB.refl _⟩
 have sW2 : ∀ b ∈ R.aims,∃ a ∈ (moreK R bs).aims,NarB a.beds b.beds:=fun b hb'=>⟨b,List.mem_append.2 (.inl hb'),NarB.refl _⟩
 have low0 : ∀ (r : Rk) (s : Bool) (x : Nat),(x : Int) < lowG R.out → r.out = R.out → (tabT r s).getD x 0 = 0:=fun r s x hx ho=>tab_below r s (by rw [ho];exact hx) (cntA r)
 refine ⟨cN,cW,⟨i64d,fun a ha=>wf_aim (oN a ha).1⟩,⟨i64d,fun a ha=>wf_aim (oW a ha).1⟩,fun a ha=>(oN a ha).2,fun a ha=>(oW a ha).2,fun s hs=>?_,fun s hs=>?_⟩
 · by_cases hlo : lowG R.out ≤ s
   · exact ⟨tab_leUp rN hr rfl rfl rfl sN1 s hlo hs,tab_leUp rW hr rfl rfl rfl sW s hlo hs⟩
   · have hlt : (s : Int) < lowG R.out:=by omega
     rw [low0 (narK R bs) false s hlt rfl,low0 (moreK R bs) false s hlt rfl,low0 R false s hlt rfl]
     exact ⟨Int.le_refl _,Int.le_refl _⟩
 · by_cases hlo : lowG R.out ≤ s
   · exact ⟨tab_leLw hr rN rfl rfl rfl sN2 s hlo hs,tab_leLw rW hr rfl rfl rfl sW2 s hlo hs⟩
   · have hlt : (s : Int) < lowG R.out:=by omega
     rw [low0 (narK R bs) true s hlt rfl,low0 (moreK R bs) true s hlt rfl,low0 R true s hlt rfl]
     exact ⟨Int.le_refl _,Int.le_refl _⟩
set_option maxHeartbeats 4000000
theorem own_arr (r : Rk) (hl : r.aims.length ≤ 1000) (hb : ∀ a ∈ r.aims,a.beds.length ≤ 1000) :
 NCalls Try.prog 15 [rkR r] [(40,.arr 63 2 (r.aims.map aimR))] (.ag [.r (i64 r.d),.os 40 0 2 0 r.aims.length,.r (i64 r.start),.r (i64 r.out)]):=by
 refine ncalls_st (n:=44) _ _ (.cell 2 27) Try.func15 rfl (by kernel_rfl) Try.ntmps15 rfl (by simp) rfl rfl fun C hC=>?_
 refine zq ?_
 refine zb fun K hK=>?_;simp only [go_sem];refine hK _ ?_;clear hK K;refine zw (zfP 1 1 [i64 r.d,aimsR r.aims,i64 r.start,i64 r.out] (by omega) rfl rfl) ?_;refine zw (zk [1,2]) ?_;simp only [go_sem]
 refine zq ?_
 refine zb fun K hK=>?_;simp only [go_sem];refine hK _ ?_;clear hK K;refine zw (zk [1,2,3]) ?_;simp only [go_sem]
 repeat refine zq ?_
 refine zb fun K hK=>?_;simp only [go_sem];refine hK _ ?_;clear hK K;refine zw (zk [1,2,3,4]) ?_;simp only [go_sem];refine zd ?_;refine zw (sub_ownB 3 1 40 63 2 (by omega) (by omega) rfl rfl) ?_
 try simp only [go_sem]
 refine zuv (n:=44) r.aims.length (fun i vs=>[(1,.r (.rp [i64 r.d,aimsR r.aims,i64 r.start,i64 r.out])),(2,.pt 2 (vs 2) 0),(3,.pt 3 (vs 3) 0),(4,.r (i64 i))])
  (fun i vs=>[(2,.box [.r (i64 0),.r .ns,.r (i64 0),.r (i64 0)]),(3,.box [.r (i64 r.d),.os 40 (vs 40) 2 0 i,.r (i64 r.start),.r (i64 r.out)]),(40,.arr 63 2 ((r.aims.take i).map aimR))]) (fun _=>True) 0 (zj [] ?_ ?_) (Nat.zero_le _) trivial ?_
 · try simp only [go_sem]
 · try simp only [go_sem]
 · intro i vs hi _
   repeat refine zq ?_
   refine zb fun K hK=>?_;simp only [go_sem,List.length_map]
   intro _
   refine hK _ ?_;clear hK K;refine zw (zk [1,2,3,4,20]) ?_;simp only [go_sem]
   refine zc rfl (fun hc=>?_) (fun hc=>?_) <;> (try simp only [go_sem] at hc)
   · have hci : i < r.aims.length:=by omega
     obtain ⟨x,hx⟩:=zol hci
     have hxb:=hb x (zmo hx)
     have hlt : (r.aims.take i).length = i:=by rw [List.length_take];omega
     refine zx ?_
     try simp only [go_sem]
     refine zq ?_
     refine zd ?_
     refine zq ?_
     refine zb fun K hK=>?_;simp only [go_sem,hx,hci,aimR,List.length_map];refine hK _ ?_;clear hK K;refine zw (zfP 5 5 [i64 x.at_,bedsR x.beds] (by omega) (by try simp only [go_sem]) (by try simp only [go_sem])) ?_;refine zw (zk [1,2,3,4,5]) ?_;simp only [go_sem]
     refine awp_dregC3 [37] [(3,some 3),(5,none)] [3] follows (by decide +kernel) (by kernel_rfl) (by simp only [keysOk,List.mem_cons,List.not_mem_nil,forall_eq_or_imp,Oc.keyOf,go_sem];simp) (by intro k hk;simp only [List.mem_cons,List.not_mem_nil,or_false] at hk;first | (subst hk;exact ⟨_,rfl⟩) | (rcases hk with rfl | rfl <;> exact ⟨_,rfl⟩) | (rcases hk with rfl | rfl | rfl <;> exact ⟨_,rfl⟩)) fun K hK=>?_
     simp only [go_sem,hlt,List.length_map]
     (try intros)
     (try refine ⟨⟨by omega,by omega⟩,?_⟩)
     refine ⟨by omega,?_⟩
     refine hK _ ?_;clear hK K;refine zw (zk [1,2,3,4]) ?_;simp only [go_sem];refine zb fun K hK=>?_;simp only [go_sem];(try simp (disch:=omega) only [zI]);refine hK _ ?_;clear hK K
     try simp only [go_sem]
     refine ⟨hci,zj [] ?_ ?_⟩
     · try simp only [go_sem]
     · try simp only [go_sem]
       rw [zto hx]
       simp [aimR]
   · have hie : i = r.aims.length:=by omega
     subst hie
     rw [List.take_length]
     refine zf ?_;simp only [go_sem]
     refine zq ?_
     refine zb fun K hK=>?_;simp only [go_sem];refine hK _ ?_;clear hK K;refine zw (zk [2]) ?_;simp only [go_sem];refine ze ?_
     try simp only [go_sem]
     try simp
theorem owL_new (l : List Am) (vs : Nat → Nat) {cs : List (Nat × RowC)} (hc : ∀ x ∈ cs,x.1 < 40) :
 newCs (idK (owL l)) vs (owL l) (idK (owL l)) cs = cs ++ (40,.ara 63 2 (araG (lA l) vs l.length)) :: fam (famG (lA l)) l.length:=by
 have hp24 : pinOf (idK (owL l)) 40 = some 40:=by rw [pinOf_idK];rfl
 have hpj : ∀ j,j < l.length → pinOf (idK (owL l)) (j + 600) = some (j + 600):=fun j hj=>by rw [pinOf_idK,owL_has,decide_eq_true hj];rfl
 have h0 : idK (owL l) = (40,40) :: idK (fam (famG (lA l)) l.length):=rfl
 have hb : ∀ (c : RowC),lookc (owL l) 40 = .ara 63 2 (araG (lA l) (fun _=>0) l.length):=fun _=>rfl
 have e1 : newCs (idK (owL l)) vs (owL l) (idK (owL l)) cs = newCs (idK (owL l)) vs (owL l) (idK (fam (famG (lA l)) l.length)) (insc cs 40 (backC (idK (owL l)) vs (lookc (owL l) 40))):=by
  conv=>lhs;arg 4;rw [h0]
  rfl
 rw [e1,newCs_fam fun x hx=>?_,insc_app_gt (fun x hx=>hc x hx),List.append_assoc]
 · congr 1
   rw [hb .dead]
   simp only [backC];rw [owL_back hpj]
   simp only [List.cons_append,List.nil_append]
   congr 1
   refine fam_congr fun j hj=>?_
   have : lookc (owL l) (j + 600) = famG (lA l) j:=by
    unfold owL
    rw [zlc,if_neg (by omega),lookc_fam hj]
   rw [this];rfl
 · rw [insc_app_gt (fun x hx=>hc x hx)] at hx
   rcases List.mem_append.1 hx with hx | hx
   · have:=hc x hx;omega
   · rw [List.mem_singleton] at hx;subst hx;show 40 < 600;decide
theorem own_call {n : Nat} {L : List (Nat × AV)} {vs : Nat → Nat} {cs : List (Nat × RowC)} {r : Rk} {l : List Am} {dst : Option Nat} {K : AS → Prop} (el : r.aims = l) (h0 : 1 ≤ l.length) (hl : l.length ≤ 300) (hb : ∀ a ∈ l,1 ≤ a.beds.length ∧ a.beds.length ≤ 1000) (hc : ∀ x ∈ cs,x.1 < 40)
 (hK : ∀ vs',(∀ k,k < 40 → vs' k = vs k) → K (AS.put (st n L vs' (cs ++ (40,.ara 63 2 (araG (lA l) vs' l.length)) :: fam (famG (lA l)) l.length)) dst (.ag [.r (i64 r.d),.os 40 (vs' 40) 2 0 l.length,.r (i64 r.start),.r (i64 r.out)]))) : xcall Try.prog false (st n L vs cs) dst (.r (.fn 15 [])) [.r (rkR r)] K:=by
 subst el
 refine xcall_new (own_new r h0 hl hb) (idK (owL r.aims)) rfl (by rfl) (by rfl) (apart_idK (owL_pw r.aims)) (sameKeysN_idK fun x hx=>?_) (smallK_idK (owL_lt hl)) ?_
 · rcases List.mem_cons.1 hx with rfl | hx
   · rfl
   · obtain ⟨j,hj,rfl⟩:=fam_mem_iff.1 hx;rfl
 · have hp24 : pinOf (idK (owL r.aims)) 40 = some 40:=by rw [pinOf_idK];rfl
   have hvk : ∀ k,k < 40 → newVs vs (idK (owL r.aims)) k = vs k:=fun k hk=>by
    rw [newVs_idK (owL_pw r.aims),if_neg]
    rw [hasKey_false_of fun x hx=>?_]
    · simp
    · rcases List.mem_cons.1 hx with rfl | hx
      · simp only;omega
      · have:=fam_keys hx;omega
   generalize newVs vs (idK (owL r.aims)) = vs' at hvk ⊢
   rw [owL_new r.aims vs' hc]
   have e : backA (idK (owL r.aims)) vs' (.ag [.r (i64 r.d),.os 40 0 2 0 r.aims.length,.r (i64 r.start),.r (i64 r.out)]) = .ag [.r (i64 r.d),.os 40 (vs' 40) 2 0 r.aims.length,.r (i64 r.start),.r (i64 r.out)]:=by
    simp only [backA,backL,hp24]
   rw [e]
   exact hK vs' hvk
theorem byteOf_ok (l : List Int) (i : Nat) : ACalls Try.prog 30 [u8s l,i64 i] (.it .u8 (byteL l i)):=by
 refine zas (rs:=[.it .u8 (byteL l i)]) [.tmp 4] Try.func30 rfl (by kernel_rfl) Try.ntmps30 rfl (by simp) rfl fun C vs=>?_
 refine zq ?_
 refine zb fun K hK=>?_;simp only [go_sem];refine hK _ ?_;clear hK K;refine zw (zk [0,1]) ?_;simp only [go_sem]
 by_cases h : l = []
 · subst h
   repeat refine zq ?_
   refine zb fun K hK=>?_;simp only [go_sem];refine hK _ ?_;clear hK K;refine zw (zk [0,1,7]) ?_;simp only [go_sem]
   refine zc rfl (fun hc=>?_) (fun hc=>?_) <;> (try simp only [go_sem] at hc)
   refine zq ?_
   refine zb fun K hK=>?_;simp only [go_sem];refine hK _ ?_;clear hK K;refine zw (zk [4]) ?_;simp only [go_sem];refine ze ?_;simp only [go_sem]
   rfl
 · have hp : 0 < l.length:=List.length_pos_iff.2 h
   have c : ((l.length : Int) == 0) = false:=by simp;omega
   have hm : i % l.length < l.length:=Nat.mod_lt _ hp
   obtain ⟨x,hx⟩:=zol hm
   have ht : (i : Int).tmod (l.length : Int) = ((i % l.length : Nat) : Int):=(Int.ofNat_tmod _ _).symm
   repeat refine zq ?_
   refine zb fun K hK=>?_;simp only [go_sem,c]
   intros
   refine hK _ ?_;clear hK K;refine zw (zk [0,1,7]) ?_;simp only [go_sem]
   refine zc rfl (fun hc=>?_) (fun hc=>?_) <;> (try simp only [go_sem] at hc)
   refine zx ?_
   try simp only [go_sem]
   refine zq ?_
   refine zb fun K hK=>?_;simp only [go_sem,ht,hx,hm]
   intros
   refine ⟨by omega,?_⟩
   refine hK _ ?_;clear hK K;refine zw (zk [4]) ?_;simp only [go_sem];refine ze ?_;simp only [go_sem]
   simp [byteL,h,List.getD_eq_getElem?_getD,hx]
theorem beds_ok : ACalls Try.prog 59 [] (ints beds10):=by
 refine zas (rs:=[ints beds10]) [.tmp 0] Try.func59 rfl (by kernel_rfl) Try.ntmps59 rfl (by simp) rfl fun C vs=>?_
 refine zq ?_
 refine zb fun K hK=>?_;simp only [go_sem];refine hK _ ?_;clear hK K;refine zw (zk []) ?_;simp only [go_sem]
 refine zq ?_
 refine zb fun K hK=>?_;simp only [go_sem];refine hK _ ?_;clear hK K;refine zw (zk [0]) ?_;simp only [go_sem];refine ze ?_;simp only [go_sem]
 try rfl
set_option maxHeartbeats 2000000
theorem truthA_ok (a : Am) (bs : List Int) (at_ : Nat) (ha : A24 a) (hb : ∀ n ∈ bs,0 ≤ n ∧ n ≤ 255) (hat : at_ ≤ 1000000) :
 ACalls Try.prog 31 [.ag [i64 a.at_,bedsR a.beds],u8s bs,i64 (at_ : Int)] (ints (truthT a.beds bs at_ 24)):=by
 have hl:=ha.len
 have h1 : ∀ c ∈ a.beds,0 ≤ c.lo ∧ c.lo ≤ c.hi ∧ c.hi ≤ 24:=ha.ok.each
 have htl:=truth_le (ha.ok.truth cmpI [])
 have h:=htl.1
 have hh:=htl.2
 have hT:=ti_itT (bs:=bs) hb hl.1 h (fun c hc=>(h1 c hc).2.1) at_
 have hdone:=itT_done (bs:=bs) hb hl h (fun c hc=>(h1 c hc).2.1) hh at_
 obtain ⟨L,hL⟩ : ∃ L,L = a.beds:=⟨_,rfl⟩
 rw [← hL] at h hl h1 hT hdone hh ⊢
 have hlo : ∀ i,i ≤ L.length → (0 ≤ loS (L.take i) ∧ loS (L.take i) ≤ 24):=fun i hi=>by
  have h2:=loS_le (B:=24) (l:=L.take i) fun c hc=>by have:=h1 c (List.mem_of_mem_take hc);omega
  have h3:=loS_le (B:=24) (l:=L.drop i) fun c hc=>by have:=h1 c (List.mem_of_mem_drop hc);omega
  have h4 : loS L = loS (L.take i) + loS (L.drop i):=by
   have:=congrArg loS (List.take_append_drop i L).symm
   rw [this]
   simp only [loS,List.map_append,List.sum_append]
  omega
 refine zas (rs:=[ints (truthT L bs at_ 24)]) [.tmp 6] Try.func31 rfl (by kernel_rfl) Try.ntmps31 rfl (by simp) rfl fun C vs=>?_
 refine zq ?_
 refine zb fun K hK=>?_;simp only [go_sem];refine hK _ ?_;clear hK K;refine zw (zfP 3 3 [i64 a.at_,bedsR L] (by omega) rfl rfl) ?_;refine zw (zk [1,2,3]) ?_;simp only [go_sem]
 refine zq ?_
 refine zb fun K hK=>?_;simp only [go_sem];refine hK _ ?_;clear hK K;refine zw (zk [1,2,3,7,8]) ?_;simp only [go_sem];refine zw (sub_own 7 32 3 1 (by omega) rfl) ?_
 try simp only [go_sem]
 repeat refine zq ?_
 refine zb fun K hK=>?_;simp only [go_sem];refine hK _ ?_;clear hK K;refine zw (zk [1,2,3,7,8,9]) ?_;simp only [go_sem];refine zd ?_
 refine zuv (n:=101) L.length (fun i vs=>[(1,.r (u8s bs)),(2,.r (i64 (at_ : Int))),(3,.r (.rp [i64 a.at_,bedsR L])),(7,.os 32 (vs 32) 1 0 i),(8,.r (i64 (24 - loS (L.take i)))),(9,.r (i64 (i : Int)))])
  (fun i vs=>[(32,.arr 3 1 (((L.map (·.lo)).take i).map fun x=>[i64 x]))]) (fun _=>True) 0 (zj [] ?_ ?_) (Nat.zero_le _) trivial ?_
 · try simp only [go_sem]
   simp [loS]
 · try simp only [go_sem]
 · intro i vs hi _
   repeat refine zq ?_
   refine zb fun K hK=>?_;simp only [go_sem]
   intro _
   refine hK _ ?_;clear hK K;refine zw (zk [1,2,3,7,8,9,18]) ?_;simp only [go_sem]
   refine zc rfl (fun hc=>?_) (fun hc=>?_) <;> (try simp only [go_sem] at hc)
   · have hci : i < L.length:=by omega
     obtain ⟨c,hc1⟩:=zol hci
     obtain ⟨g0,g1,g2⟩:=h1 c (zmo hc1)
     have hs0:=hlo i (by omega)
     have hs1:=hlo (i + 1) (by omega)
     have hlS : loS (L.take (i + 1)) = loS (L.take i) + c.lo:=by rw [zto hc1];simp [loS]
     have hli : ((L.map (·.lo)).take i).length = i:=by rw [List.length_take];simp;omega
     have hMt : (L.map (·.lo)).take (i + 1) = (L.map (·.lo)).take i ++ [c.lo]:=zto (by simp [hc1])
     refine zx ?_
     try simp only [go_sem]
     refine zq ?_
     refine zd ?_
     refine zq ?_
     refine zb fun K hK=>?_;simp only [go_sem,hc1,hci,bedR,hli]
     refine ⟨by omega,?_⟩
     refine hK _ ?_;clear hK K;refine zw (zk [1,2,3,7,8,9]) ?_;simp only [go_sem];refine zb fun K hK=>?_;simp only [go_sem,hc1,hci,bedR];(try simp (disch:=omega) only [zI]);refine hK _ ?_;clear hK K;refine zw (zk [1,2,3,7,8,9]) ?_;simp only [go_sem];refine zb fun K hK=>?_;simp only [go_sem];(try simp (disch:=omega) only [zI]);refine hK _ ?_;clear hK K
     try simp only [go_sem]
     refine ⟨by omega,zj [] ?_ ?_⟩
     · try simp only [go_sem]
       rw [hlS]
       omega
     · try simp only [go_sem]
       rw [hMt]
       simp
   · have hil : i = L.length:=by omega
     subst hil
     rw [List.take_length,List.take_of_length_le (by simp)]
     refine zf ?_;simp only [go_sem];refine zw (zk [1,2,3,7,8]) ?_;simp only [go_sem]
     repeat refine zq ?_
     refine zb fun K hK=>?_;simp only [go_sem];refine hK _ ?_;clear hK K;refine zw (zk [1,2,3,7,8,10]) ?_;simp only [go_sem];refine zd ?_
     refine zuv (n:=101) (8 + L.length) (fun k vs=>[(1,.r (u8s bs)),(2,.r (i64 (at_ : Int))),(3,.r (.rp [i64 a.at_,bedsR L])),(7,.os 32 (vs 32) 1 0 L.length),(8,.r (i64 (itT L bs at_ 24 k).2)),(10,.r (i64 (k : Int)))])
      (fun k vs=>[(32,.arr 3 1 ((itT L bs at_ 24 k).1.map fun x=>[i64 x]))]) (fun _=>True) 0 (zj [] ?_ ?_) (Nat.zero_le _) trivial ?_
     · try simp only [go_sem]
       rfl
     · try simp only [go_sem]
       rfl
     · intro k vs hk _
       have hTk:=hT k
       have hst : itT L bs at_ 24 (k + 1) = giveU (idxT L bs at_ k) (moreT L bs at_ k (itT L bs at_ 24 k)) (itT L bs at_ 24 k):=rfl
       have hx2:=ti_le8 hTk fun c hc=>(h1 c hc).1
       have hlk:=hTk.len
       have h00:=hTk.left
       have hse:=hTk.each
       by_cases hc0 : 0 < (itT L bs at_ 24 k).2
       · have hk31 : k < 8 + L.length:=by
          by_cases e : k = 8 + L.length
          · rw [e,hdone] at hc0;omega
          · omega
         generalize hxe : itT L bs at_ 24 k = x at *
         have e0 : decide (0 < x.2) = true:=by simpa using hc0
         have hbk:=byteOf_ok bs (at_ + k)
         have hbk1:=byteOf_ok bs (at_ + k + 1)
         have hbl:=byteL_le hb (at_ + k)
         have hbl1:=byteL_le hb (at_ + k + 1)
         have ca1 : ((at_ + k : Nat) : Int) = (at_ : Int) + (k : Int):=by omega
         have ca2 : ((at_ + k + 1 : Nat) : Int) = (at_ : Int) + (k : Int) + 1:=by omega
         rw [ca1] at hbk
         rw [ca2] at hbk1
         have hz0 : ((L.length : Int) == 0) = false:=beq_eq_false_iff_ne.2 (by omega)
         have hz1 : (L.length : Int) ≠ 0:=by omega
         have hix : (byteL bs (at_ + k) + (k : Int)).tmod (L.length : Int) = ((((byteL bs (at_ + k)).toNat + k) % L.length : Nat) : Int):=by
          rw [Int.tmod_eq_emod_of_nonneg (by omega)]
          rw [Int.natCast_emod];congr 1;omega
         have hix2 : (k : Int).tmod (L.length : Int) = ((k % L.length : Nat) : Int):=(Int.ofNat_tmod _ _).symm
         have hm40 : (byteL bs (at_ + k + 1)).tmod 7 = byteL bs (at_ + k + 1) % 7:=Int.tmod_eq_emod_of_nonneg hbl1.1
         have hil:=idxT_lt (l:=L) (bs:=bs) (at_:=at_) (k:=k) hl.1
         have hmu:=moreT_le hb hl.1 hTk at_ k
         obtain ⟨j,hj⟩ : ∃ j,j = idxT L bs at_ k:=⟨_,rfl⟩
         repeat refine zq ?_
         refine zb fun K hK=>?_;simp only [go_sem,e0];refine hK _ ?_;clear hK K;refine zw (zk [1,2,3,7,8,10,41]) ?_;simp only [go_sem]
         refine zc rfl (fun hc=>?_) (fun hc=>?_) <;> (try simp only [go_sem] at hc)
         refine zx ?_
         try simp only [go_sem]
         refine zq ?_
         refine zd ?_
         refine zq ?_
         refine zb fun K hK=>?_;simp only [go_sem];(try simp (disch:=omega) only [zI])
         refine zh (hbk) rfl (by simp only [go_sem,i64,ints]) (by simp only [go_sem,i64,ints]) (by first | exact .inl rfl | exact .inr rfl) ?_
         (try simp only [go_sem]);(try simp (disch:=omega) only [zI])
         try simp only [go_sem,hix,hz0,hz1]
         try simp (disch:=omega) only [zI]
         intro _
         refine ⟨hz1,?_⟩
         refine hK _ ?_;clear hK K;refine zw (zk [1,2,3,7,8,10,11]) ?_;simp only [go_sem]
         repeat refine zq ?_
         refine zb fun K hK=>?_;simp only [go_sem];refine hK _ ?_;clear hK K;refine zw (zk [1,2,3,7,8,10,11,56]) ?_;simp only [go_sem]
         refine zaw (n:=101) (fun (_ : Unit) vs=>[(1,.r (u8s bs)),(2,.r (i64 (at_ : Int))),(3,.r (.rp [i64 a.at_,bedsR L])),(7,.os 32 (vs 32) 1 0 L.length),(8,.r (i64 x.2)),(10,.r (i64 (k : Int))),(11,.r (i64 (j : Int)))]) (fun _ vs=>[(32,.arr 3 1 (x.1.map fun x=>[i64 x]))]) (fun _=>True) (fun _ h=>h) ?_ ?_
         · skip
           refine zc rfl (fun hc=>?_) (fun hc=>?_) <;> (try simp only [go_sem] at hc)
           · have h8 : ¬ k < 8:=by omega
             have hj8 : j = k % L.length:=by rw [hj];unfold idxT;rw [if_neg h8]
             refine zb fun K hK=>?_;simp only [go_sem,hix2,hz0,hz1]
             intro _
             refine ⟨hz1,?_⟩
             refine hK _ ?_;clear hK K
             refine ⟨(),trivial,zj [] ?_ ?_⟩
             · try simp only [go_sem]
               rw [hj8]
             · try simp only [go_sem]
           · have h8 : k < 8:=by omega
             have hj8 : j = ((byteL bs (at_ + k)).toNat + k) % L.length:=by rw [hj];unfold idxT;rw [if_pos h8]
             rw [← hj8]
             refine zx ?_
             try simp only [go_sem]
             refine ⟨(),zj [] ?_ ?_⟩
             · try simp only [go_sem]
             · try simp only [go_sem]
         intro _ vs _
         obtain ⟨mm,hmm⟩ : ∃ mm,mm = moreT L bs at_ k x:=⟨_,rfl⟩
         obtain ⟨c,hcj⟩:=zol (show j < L.length by omega)
         obtain ⟨g0,g1,g2⟩:=h1 c (zmo hcj)
         obtain ⟨y,hy⟩ : ∃ y,y = x.1.getD j 0:=⟨_,rfl⟩
         have hyj : x.1[j]? = some y:=by rw [hy,List.getD_eq_getElem?_getD,List.getElem?_eq_getElem (by omega)];rfl
         have hbj : bAt L j = c:=by simp [bAt,List.getD,hcj]
         have hye:=hse j (by omega)
         rw [hbj,← hy] at hye
         have htk : takeU L j x = min x.2 (c.hi - y):=by unfold takeU;rw [hbj,hy]
         have hme : mm = if k < 8 then min (min x.2 (c.hi - y)) (1 + byteL bs (at_ + k + 1) % 7) else min x.2 (c.hi - y):=by
          rw [hmm];unfold moreT;rw [← hj,htk]
         have hjl : j < L.length:=by omega
         have hjx : j < x.1.length:=by omega
         have hws : IntKind.i64.wrap (c.hi - y) = c.hi - y:=by rw [zI] <;> omega
         have hgv : giveU (idxT L bs at_ k) (moreT L bs at_ k x) x = (x.1.set j (y + mm),x.2 - mm):=by rw [← hj,← hmm];unfold giveU;rw [← hy]
         rw [← hj,htk,← hmm] at hmu
         refine zq ?_
         refine awp_dreg2 [(7,some 32),(3,none),(8,none),(11,none)] follows (by decide +kernel) (by kernel_rfl) (by simp only [keysOk,List.mem_cons,List.not_mem_nil,forall_eq_or_imp,Oc.keyOf,go_sem];simp) fun K hK=>?_
         simp only [go_sem,hcj,hjl,bedR,hyj,hws,hlk,hjx];refine hK _ ?_;clear hK K;refine zw (zk [1,2,3,7,8,10,11,12]) ?_;simp only [go_sem]
         repeat refine zq ?_
         refine zb fun K hK=>?_;simp only [go_sem];refine hK _ ?_;clear hK K;refine zw (zk [1,2,3,7,8,10,11,12,76]) ?_;simp only [go_sem]
         refine zaw (n:=101) (fun (_ : Unit) vs=>[(1,.r (u8s bs)),(2,.r (i64 (at_ : Int))),(3,.r (.rp [i64 a.at_,bedsR L])),(7,.os 32 (vs 32) 1 0 L.length),(8,.r (i64 x.2)),(10,.r (i64 (k : Int))),(11,.r (i64 (j : Int))),(12,.r (i64 mm))]) (fun _ vs=>[(32,.arr 3 1 (x.1.map fun x=>[i64 x]))]) (fun _=>True) (fun _ h=>h) ?_ ?_
         · skip
           refine zc rfl (fun hc=>?_) (fun hc=>?_) <;> (try simp only [go_sem] at hc)
           · have h30 : k < 8:=by omega
             rw [if_pos h30] at hme
             refine zb fun K hK=>?_;simp only [go_sem];(try simp (disch:=omega) only [zI])
             refine zh (hbk1) rfl (by simp only [go_sem,i64,ints]) (by simp only [go_sem,i64,ints]) (by first | exact .inl rfl | exact .inr rfl) ?_
             (try simp only [go_sem]);(try simp (disch:=omega) only [zI])
             try simp only [go_sem,hm40]
             try simp (disch:=omega) only [zI]
             refine hK _ ?_;clear hK K
             refine ⟨(),trivial,zj [] ?_ ?_⟩
             · try simp only [go_sem]
               rw [hme]
             · try simp only [go_sem]
           · have h30 : ¬ k < 8:=by omega
             rw [if_neg h30] at hme
             rw [← hme]
             refine zx ?_
             try simp only [go_sem]
             refine ⟨(),zj [] ?_ ?_⟩
             · try simp only [go_sem]
             · try simp only [go_sem]
         intro _ vs _
         have hst2 : itT L bs at_ 24 (k + 1) = (x.1.set j (y + mm),x.2 - mm):=by rw [hst,hgv]
         refine zb fun K hK=>?_;simp only [go_sem,hyj,hlk,hjx,hjl];(try simp (disch:=omega) only [zI]);refine hK _ ?_;clear hK K;refine zw (zk [1,2,3,7,8,10]) ?_;simp only [go_sem];refine zb fun K hK=>?_;simp only [go_sem];(try simp (disch:=omega) only [zI]);refine hK _ ?_;clear hK K
         try simp only [go_sem]
         refine ⟨by omega,zj [] ?_ ?_⟩
         · try simp only [go_sem]
           rw [hst2]
         · try simp only [go_sem]
           rw [hst2,List.map_set]
       · have hz : (itT L bs at_ 24 k).2 = 0:=by omega
         have e0 : decide (0 < (itT L bs at_ 24 k).2) = false:=decide_eq_false (by omega)
         have hst2 : truthT L bs at_ 24 = (itT L bs at_ 24 k).1:=by
          unfold truthT
          have:=itT_stay (bs:=bs) hb hl.1 h (fun c hc=>(h1 c hc).2.1) hz (8 + L.length - k)
          rw [show k + (8 + L.length - k) = 8 + L.length by omega] at this
          rw [this]
         repeat refine zq ?_
         refine zb fun K hK=>?_;simp only [go_sem,e0];refine hK _ ?_;clear hK K;refine zw (zk [7,41]) ?_;simp only [go_sem]
         refine zc rfl (fun hc=>?_) (fun hc=>?_) <;> (try simp only [go_sem] at hc)
         refine zf ?_;simp only [go_sem];refine zw (sub_frz 7 32 (ty:=3) (sz:=1) (off:=0) (m:=L.length) (es:=(itT L bs at_ 24 k).1.map fun x=>[i64 x]) (by omega) rfl (by rfl) (by simp [hlk])) ?_
         have e1 : (((itT L bs at_ 24 k).1.map fun x=>[i64 x]).drop 0).take L.length = (truthT L bs at_ 24).map fun x=>[i64 x]:=by
          rw [List.drop_zero,List.take_of_length_le (by simp [hlk]),hst2]
         rw [e1]
         refine zw (zk [7]) ?_;simp only [go_sem]
         refine zq ?_
         refine zb fun K hK=>?_;simp only [go_sem];refine hK _ ?_;clear hK K;refine zw (zk [6]) ?_;simp only [go_sem];refine ze ?_;simp only [go_sem]
end Go.Proofs.Ytgfbenanljjgaaa.Du.Th.Ai

namespace Go.Oc
open Go Go.RowKit
def xopW (P : Program) (ol : List Nat) (o : Oper) (K : AS → Prop) (s : AS) : Prop :=
 match o.op,o.dst with
 | .buildSlice t n ps,some d=>if ol.contains d then aR s (some d) (sBuildOwn P s d t n (ps.toList.map fun (i,x)=>(i,s.ev x))) K else xop P false o K s
 | _,_=>xop P false o K s
theorem xopW_sound {P : Program} {C : Ctx} {s : AS} {ol : List Nat} {p : Plan} {a : Act} {w : World} {o : Oper} {KA : AS → Prop} (hp : SR C p s a w) (h : xopW P ol o KA s) (hd0 : ∀ t,o.dst = some t → t < s.n) {K : Act → World → Prop} {Q : Exit → Act → World → Prop}
 (hK : ∀ a' w' p' s',SR C p' s' a' w' → s'.n = s.n → KA s' → K a' w') (hnd : ∀ c,o.op ≠ .defer c) : o.wpIn (fnc C.rd) 0 P a w K Q:=by
 unfold xopW at h
 split at h
 · rename_i t n ps d ho hdst
   split at h
   · refine wpIn_of_wp hnd ?_
     have hd1 : o.dst.getD 0 = d:=by rw [hdst];rfl
     have hg:=good_buildOwn (o:=o) hp ho (by rw [hd1];exact h.1)
     rw [hd1] at hg
     obtain ⟨nx,v,w',p',hrun,hnx,hass,hSR,hrel⟩:=hg
     unfold Oper.wp
     rw [hrun]
     have hput:=hSR.put' (d:=o.dst) hrel (fun t ht=>hd0 t ht)
     have hk:=h.2 hass
     rw [← hdst] at hk
     rcases hnx with rfl | ⟨rfl,rfl⟩
     · exact hK (a.put o.dst v) w' p' _ hput (app_n _ _ _) hk
     · exact hK (a.put o.dst undef) w' p' _ hput (app_n _ _ _) hk
   · exact xop_sound hp h hd0 hK hnd
 · exact xop_sound hp h hd0 hK hnd
def stepAllO (P : Program) (ol : List Nat) (ops : Array Oper) (n : Nat) (F : (Nat → Bool) → (Nat → Nat) → List (Nat × AV)) (R : (Nat → Bool) → (Nat → Nat) → List (Nat × RowC)) : Nat → List Oper → Prop
 | _,[]=>True
 | k,o :: rest=>(∀ b vs,(∀ j e,j < ops.size → (deps ops j).contains e = true → b j = true → b e = true) → b k = false → (∀ e ∈ deps ops k,b e = true) →
  xopW P ol o (FitV n (F (upd b k true)) (R (upd b k true))) (st n (F b vs) vs (R b vs))) ∧ stepAllO P ol ops n F R (k + 1) rest
theorem stepAllO_get {P : Program} {ol : List Nat} {ops : Array Oper} {n : Nat} {F : (Nat → Bool) → (Nat → Nat) → List (Nat × AV)} {R : (Nat → Bool) → (Nat → Nat) → List (Nat × RowC)} : ∀ {l : List Oper} {k i : Nat} {o : Oper},stepAllO P ol ops n F R k l → l[i]? = some o →
 ∀ b vs, (∀ j e, j < ops.size → (deps ops j).contains e = true → b j = true → b e = true) → b (k + i) = false → (∀ e ∈ deps ops (k + i), b e = true) →
   xopW P ol o (FitV n (F (upd b (k + i) true)) (R (upd b (k + i) true))) (st n (F b vs) vs (R b vs))
 | [],_,_,_,_,h=>by simp at h
 | x :: l, k, 0, o, hs, h => by
   simp only [List.getElem?_cons_zero,Option.some.injEq] at h
   subst h
   exact hs.1
 | x :: l, k, i + 1, o, hs, h => by
   have:=stepAllO_get (k:=k + 1) (i:=i) hs.2 (by simpa using h)
   rwa [show k + 1 + i = k + (i + 1) by omega] at this
section
variable {P : Program} {C : Ctx} {s : AS} {a : Act} {w : World} {ops : Array Oper}
theorem inv_anyO {ol : List Nat} {Q : AS → Prop} {Q' : Exit → Act → World → Prop} (hQ : ∀ s a w,Q s → SRel C s a w → Q' .normal a w) {n : Nat} {F : (Nat → Bool) → (Nat → Nat) → List (Nat × AV)} {R : (Nat → Bool) → (Nat → Nat) → List (Nat × RowC)}
 (hd : dstOk ops n = true) (hg : ops.all (fun o=>o.guard.isNone) = true) (hu : upOk ops = true) (hstep : stepAllO P ol ops n F R 0 ops.toList)
 (hend : ∀ b vs,(∀ j,b j = true) → Q (st n (F b vs) vs (R b vs))) :
 ∀ (fuel : Nat) (vs : Nat → Nat) (listed : Array Bool) (a : Act) (w : World), listed.size = ops.size → down ops listed → unl listed ops.size ≤ fuel → SRel C (st n (F (fun j => listed.getD j true) vs) vs (R (fun j => listed.getD j true) vs)) a w →
   wpAnyIn (fnc C.rd) 0 P .any ops Q' fuel listed a w:=by
 have all : ∀ {listed : Array Bool},listed.size = ops.size → (∀ j,j < ops.size → listed.getD j true = true) → ∀ j,(fun j=>listed.getD j true) j = true:=fun {listed} hsz h j=>by
  by_cases hj : j < ops.size
  · exact h j hj
  · show listed.getD j true = true
    have : ¬ j < listed.size:=by omega
    simp [this]
 intro fuel
 induction fuel with
 | zero =>
   intro vs listed a w hsz hdn hf hs
   have h0:=unl_zero (listed:=listed) ops.size (by omega)
   refine ⟨List.eq_nil_iff_forall_not_mem.2 fun j hj=>?_,hQ _ _ _ (hend _ _ (all hsz h0)) hs⟩
   obtain ⟨h1,o,ho,_⟩:=mem_ready.1 hj
   have:=h0 j (Array.getElem?_eq_some_iff.1 ho).1
   rw [this] at h1
   cases h1
 | succ fuel ih =>
   intro vs listed a w hsz hdn hf hs
   refine ⟨fun h0=>hQ _ _ _ (hend _ _ (all hsz (ready_nil hu h0 hsz))) hs,fun i hi=>?_⟩
   obtain ⟨hi1,o,ho,hall⟩:=mem_ready.1 hi
   unfold wpOpIn
   rw [ho]
   simp only
   have hil : i < ops.size:=(Array.getElem?_eq_some_iff.1 ho).1
   have hgo : o.guard = none:=by
    have:=Array.all_eq_true_iff_forall_mem.1 hg o (Array.mem_of_getElem? ho)
    simpa using this
   obtain ⟨p,hp⟩:=hs
   rw [if_pos (wantA_sound hp (by simp [wantA,hgo]))]
   have hx:=stepAllO_get (k:=0) (i:=i) hstep (by rw [Array.getElem?_toList];exact ho) (fun j=>listed.getD j true) vs (fun j e hj he hb=>?_) (by rw [Nat.zero_add];exact hi1) (fun e he=>?_)
   · rw [Nat.zero_add] at hx
     refine xopW_sound hp hx (dstOk_get hd ho) (fun a' w' p' s' hs' hn hK=>?_) (dstOk_nd hd ho)
     obtain ⟨vs',hsub⟩:=hK
     have e : upd (fun j=>listed.getD j true) i true = fun j=>(listed.setIfInBounds i true).getD j true:=by
      funext j
      rw [getD_setT]
      rfl
     rw [e] at hsub
     exact ih vs' _ a' w' (by simpa using hsz) (down_set hdn hi) (by have:=unl_set hi1 ops.size hil;omega) (hsub C a' w' ⟨p',hs'⟩)
   · have hjs : j < listed.size:=by omega
     have hb' : listed.getD j true = true:=hb
     have h2:=hdn j (by simpa [hjs] using hb') e (by simpa using he)
     show listed.getD e true = true
     by_cases hes : e < listed.size
     · simpa [hes] using h2
     · simp [hes]
   · have h2:=ready_deps hi e (by simpa using he)
     show listed.getD e true = true
     by_cases hes : e < listed.size
     · simpa [hes] using h2
     · simp [hes]
end
theorem awp_invO {P : Program} (ol : List Nat) {C : Ctx} {id : Nat} {l : List Oper} {n : Nat} {Q : Exit → AS → Prop} {s : AS} (F : (Nat → Bool) → (Nat → Nat) → List (Nat × AV)) (R : (Nat → Bool) → (Nat → Nat) → List (Nat × RowC)) (hm : P.follows .mixedOrders = true)
 (hd : dstOk l.toArray n = true) (hg : l.toArray.all (fun o=>o.guard.isNone) = true) (hu : upOk l.toArray = true) (h0 : FitV n (F fun j=>decide (l.length ≤ j)) (R fun j=>decide (l.length ≤ j)) s)
 (hstep : stepAllO P ol l.toArray n F R 0 l) (hend : ∀ b vs,(∀ j,b j = true) → Q .normal (st n (F b vs) vs (R b vs))) : awp P C (.region id l.toArray true) Q s:=fun a w hs=>by
 obtain ⟨vs,hsub⟩:=h0
 obtain ⟨p,hp⟩:=hsub C a w hs
 have hs' : SR C p _ a { w with drawn:=w.drawn + 1 }:=hp.below (w':=w.drew) ((Below.refl _ _).drew) (fun _ h=>h) (fun _ h=>.inl h) hp.rb
 refine wpIn_region_any hm ?_
 have e : (fun j=>(Array.replicate l.toArray.size false).getD j true) = fun j=>decide (l.length ≤ j):=by
  funext j
  by_cases h : j < l.length
  · have : ¬ l.length ≤ j:=by omega
    simp [h,this]
  · have : l.length ≤ j:=by omega
    simp [h,this]
 refine inv_anyO (ol:=ol) (Q:=fun s=>Q .normal s) (n:=n) (F:=F) (R:=R) (fun s a w hq hs=>⟨s,hs,hq⟩) hd hg hu (by simpa using hstep) hend _ vs _ _ _ (by simp) (fun j hj=>?_) ?_ ?_
 · exfalso
   simp only [Array.getD_eq_getD_getElem?,Array.getElem?_replicate] at hj
   split at hj <;> simp at hj
 · have : ∀ m,unl (Array.replicate l.toArray.size false) m ≤ m:=by
    intro m
    induction m with
    | zero=>exact Nat.le_refl _
    | succ m ih=>simp only [unl];split <;> omega
   exact this _
 · rw [e]
   exact ⟨p,hs'⟩
end Go.Oc

namespace Go.Proofs.Ytgfbenanljjgaaa.Du.Th.Ai
open Go Go.Oc
set_option maxRecDepth 8000
set_option maxHeartbeats 8000000
abbrev rxC (x : Rx) : List RV:=[.sl 1 (x.which.map fun n=>[.it .u16 n]),u8s x.low,u8s x.high,.it .u8 x.start,.it .u8 x.out]
def vG (b : Nat → Bool) (j : Nat) (v : AV) : AV:=if b j then v else .r .un
def gbF (A : List RV) (most n i k : Nat) (w q sm hgh : Int) (c : Bd) (l : List Bd) (b : Nat → Bool) (vs : Nat → Nat) : List (Nat × AV) :=
 [(1,.r (i64 most)),(2,.r (.rp A)),(4,.pt 4 (vs 4) 0),(5,.pt 5 (vs 5) 0),(6,.r (i64 (n : Int))),(7,.r (i64 (i : Int))),(8,.r (.it .u16 w)),(9,.pt 9 (vs 9) 0),(10,.r (ints beds10)),(11,.r (i64 sm)),(12,.r (i64 hgh)),(13,.r (i64 (k : Int))),(14,.r (.rp [i64 c.lo,i64 c.hi])),
  (106,vG b 0 (.r (ints beds10))),
  (107,vG b 1 (.r (i64 (k : Int)))),
  (108,vG b 2 (.r (.rp [i64 c.b]))),
  (109,vG b 3 (.r (i64 c.b))),
  (110,vG b 4 (.r (.ag [i64 c.lo,i64 c.hi]))),
  (111,vG b 5 (.ag [.r (i64 c.b),.r (i64 c.lo),.r (i64 c.hi)])),
  (112,vG b 6 (.os 112 (vs 112 - (bif b 9 then 1 else 0)) 3 0 1)),
  (113,vG b 7 (.pt 9 (vs 9) 1)),
  (114,vG b 8 (.r (.sl 3 (l.map bedR)))),
  (115,vG b 9 (.os 112 (vs 112) 3 0 (l.length + 1))),
  (116,vG b 10 (.pt 9 (vs 9) 1))]
def gbR (S O q : Int) (i : Nat) (aa : List (List RV)) (c : Bd) (l : List Bd) (b : Nat → Bool) (vs : Nat → Nat) : List (Nat × RowC) :=
 bif b 11 then [(4,.box [.r (i64 0),.r .ns,.r (i64 0),.r (i64 0)]),(5,.box [.r (i64 24),.os 158 (vs 158) 2 0 i,.r (i64 S),.r (i64 O)]),(9,.box [.r (i64 q),.os 112 (vs 112) 3 0 (l.length + 1)]),(112,.arr 68 3 (bedR c :: l.map bedR)),(158,.arr 63 2 aa)]
 else bif b 9 then [(4,.box [.r (i64 0),.r .ns,.r (i64 0),.r (i64 0)]),(5,.box [.r (i64 24),.os 158 (vs 158) 2 0 i,.r (i64 S),.r (i64 O)]),(9,.box [.r (i64 q),.r (.sl 3 (l.map bedR))]),(112,.arr 68 3 (bedR c :: l.map bedR)),(158,.arr 63 2 aa)]
 else bif b 6 then [(4,.box [.r (i64 0),.r .ns,.r (i64 0),.r (i64 0)]),(5,.box [.r (i64 24),.os 158 (vs 158) 2 0 i,.r (i64 S),.r (i64 O)]),(9,.box [.r (i64 q),.r (.sl 3 (l.map bedR))]),(112,.arr 68 3 [bedR c]),(158,.arr 63 2 aa)]
 else [(4,.box [.r (i64 0),.r .ns,.r (i64 0),.r (i64 0)]),(5,.box [.r (i64 24),.os 158 (vs 158) 2 0 i,.r (i64 S),.r (i64 O)]),(9,.box [.r (i64 q),.r (.sl 3 (l.map bedR))]),(158,.arr 63 2 aa)]
theorem rules_ok {x : Rx} (hw : WfRx x) (most : Nat) (hmost : most ≤ 20) : ACalls Try.prog 24 [.ag (rxC x),i64 most] (rkR (ruleX x most)):=by
 obtain ⟨s0,s1⟩:=hw.start
 obtain ⟨o0,o1⟩:=hw.out
 have q1 : IntKind.i64.wrap x.start = x.start:=by rw [zI] <;> omega
 have q2 : x.start.tmod 5 = x.start % 5:=Int.tmod_eq_emod_of_nonneg s0
 have q3 : x.out.tmod 3 = x.out % 3:=Int.tmod_eq_emod_of_nonneg o0
 have q4 : IntKind.i64.wrap (x.out % 3) = x.out % 3:=by rw [zI] <;> omega
 have q5 : IntKind.i64.wrap (2 + x.start % 5) = 2 + x.start % 5:=by rw [zI] <;> omega
 have hbe:=beds_ok
 refine zas (rs:=[rkR (ruleX x most)]) [.cell 4 27] Try.func24 rfl (by kernel_rfl) Try.ntmps24 rfl (by simp) rfl fun C vs=>?_
 refine zq ?_
 refine zb fun K hK=>?_;simp only [go_sem];refine hK _ ?_;clear hK K;refine zw (zfP 2 2 (rxC x) (by omega) rfl rfl) ?_;refine zw (zk [1,2,4]) ?_;simp only [go_sem]
 refine zq ?_
 refine zb fun K hK=>?_;simp only [go_sem,q1,q2,q3,q4,q5];refine hK _ ?_;clear hK K;refine zw (zk [1,2,4,5]) ?_;simp only [go_sem]
 refine zq ?_
 refine zb fun K hK=>?_;simp only [go_sem];refine hK _ ?_;clear hK K;refine zw (zk [1,2,4,5,6]) ?_;simp only [go_sem]
 repeat refine zq ?_
 refine zb fun K hK=>?_;simp only [go_sem];refine hK _ ?_;clear hK K;refine zw (zk [1,2,4,5,6,7]) ?_;simp only [go_sem];refine zd ?_;refine zw (sub_ownB 5 1 158 63 2 (by omega) (by omega) rfl rfl) ?_
 try simp only [go_sem]
 generalize hS : 2 + x.start % 5 = S
 generalize hO : x.out % 3 = O
 refine awp_whileV (n:=153) (fun (i : Nat) vs=>[(1,.r (i64 most)),(2,.r (.rp (rxC x))),(4,.pt 4 (vs 4) 0),(5,.pt 5 (vs 5) 0),(6,.r (i64 (nX x i : Int))),(7,.r (i64 (i : Int)))])
  (fun i vs=>[(4,.box [.r (i64 0),.r .ns,.r (i64 0),.r (i64 0)]),(5,.box [.r (i64 24),.os 158 (vs 158) 2 0 i,.r (i64 S),.r (i64 O)]),(158,.arr 63 2 ((aimsX x i).map aimR))])
  (fun i=>i ≤ cntX x most) (fun i=>cntX x most - i) 0 (zj [] ?_ ?_) (Nat.zero_le _) ?_
 · try simp only [go_sem]
   try rfl
 · try simp only [go_sem]
   try rfl
 intro i vs hi
 have hml:=cntX_lt x most i
 repeat refine zq ?_
 refine zaw (n:=153) (fun (_ : Unit) vs=>[(1,.r (i64 most)),(2,.r (.rp (rxC x))),(4,.pt 4 (vs 4) 0),(5,.pt 5 (vs 5) 0),(6,.r (i64 (nX x i : Int))),(7,.r (i64 (i : Int))),(39,.r (.bo (decide (i < cntX x most))))])
  (fun _ vs=>[(4,.box [.r (i64 0),.r .ns,.r (i64 0),.r (i64 0)]),(5,.box [.r (i64 24),.os 158 (vs 158) 2 0 i,.r (i64 S),.r (i64 O)]),(158,.arr 63 2 ((aimsX x i).map aimR))]) (fun _=>True) (fun _ h=>h) ?_ ?_
 · skip
   refine zb fun K hK=>?_;simp only [go_sem,List.length_map]
   repeat' first | intro _ | refine And.intro ?_ ?_
   all_goals first | omega | skip
   all_goals (refine hK _ ?_;clear hK K)
   all_goals (try simp only [go_sem])
   all_goals (refine ⟨(),zj [] ?_ ?_⟩ <;> try simp only [go_sem])
   all_goals (rw [Bool.eq_iff_iff];simp;omega)
 intro _ vs _
 refine zc rfl (fun hc=>?_) (fun hc=>?_) <;> (try simp only [go_sem] at hc)
 rotate_left
 · have hie : i = cntX x most:=by
    have : ¬ i < cntX x most:=by simpa using hc
    omega
   subst hie
   have hR : rkR (ruleX x most) = .ag [i64 24,aimsR (aimsX x (cntX x most)),i64 S,i64 O]:=by rw [← hS,← hO];rfl
   have hal : (aimsX x (cntX x most)).length = cntX x most:=by simp [aimsX]
   rw [hR]
   refine zf ?_;simp only [go_sem];refine zw (sub_frzB 5 1 158 (by omega) (by omega) rfl rfl rfl (by simp [hal])) ?_
   try simp only [go_sem]
   rw [List.take_of_length_le (show ((aimsX x (cntX x most)).map aimR).length ≤ cntX x most by simp [hal])]
   refine zw (zk [4,5]) ?_;simp only [go_sem]
   refine zq ?_
   refine zb fun K hK=>?_;simp only [go_sem];refine hK _ ?_;clear hK K;refine zw (zk [4]) ?_;simp only [go_sem];refine ze ?_;simp only [go_sem]
 have hil : i < cntX x most:=by simpa using hc
 refine zx ?_
 try simp only [go_sem]
 refine zq ?_
 refine zd ?_
 obtain ⟨q,hq⟩ : ∃ q,q = 6 + i % 3:=⟨_,rfl⟩
 have hq8 : q ≤ 8:=by omega
 have ht : (i : Int).tmod 3 = ((i % 3 : Nat) : Int):=(Int.ofNat_tmod _ _).symm
 have hqi : IntKind.i64.wrap (6 + (i : Int).tmod 3) = (q : Int):=by rw [ht,zI] <;> omega
 have hqw : (0 : Int) ≤ IntKind.u64.wrap (q : Int):=by rw [wrap64s q (by omega)];omega
 obtain ⟨w,hwq⟩ : ∃ w,w = whX x i:=⟨_,rfl⟩
 refine zq ?_
 refine zb fun K hK=>?_;simp only [go_sem];refine hK _ ?_;clear hK K;refine zw (zk [1,2,4,5,6,7,8]) ?_;simp only [go_sem]
 repeat refine zq ?_
 refine zb fun K hK=>?_;simp only [go_sem,List.length_map]
 intro _
 refine hK _ ?_;clear hK K;refine zw (zk [1,2,4,5,6,7,8,46]) ?_;simp only [go_sem]
 refine zaw (n:=153) (fun (_ : Unit) vs=>[(1,.r (i64 most)),(2,.r (.rp (rxC x))),(4,.pt 4 (vs 4) 0),(5,.pt 5 (vs 5) 0),(6,.r (i64 (nX x i : Int))),(7,.r (i64 (i : Int))),(8,.r (.it .u16 w))])
  (fun _ vs=>[(4,.box [.r (i64 0),.r .ns,.r (i64 0),.r (i64 0)]),(5,.box [.r (i64 24),.os 158 (vs 158) 2 0 i,.r (i64 S),.r (i64 O)]),(158,.arr 63 2 ((aimsX x i).map aimR))]) (fun _=>True) (fun _ h=>h) ?_ ?_
 · by_cases hiw : i < x.which.length
   · obtain ⟨n,hn⟩:=zol hiw
     have hwv : w = bitOr .u16 n (shlI .u16 1 (IntKind.u64.wrap (q : Int))):=by
      rw [hwq,whX,if_pos hiw,hq]
      simp [List.getD,hn]
     rw [hwv]
     have hm:=hw.which n (zmo hn)
     refine zc rfl (fun hc=>?_) (fun hc=>?_) <;> (try simp only [go_sem] at hc)
     rotate_left
     · exact absurd hiw hc
     refine zb fun K hK=>?_;simp only [go_sem,hn,hiw,hqi,List.length_map];refine hK _ ?_;clear hK K
     try simp only [go_sem]
     exact ⟨(),zj [] (by try simp only [go_sem]) (by try simp only [go_sem])⟩
   · have hwv : w = 64:=by rw [hwq,whX,if_neg hiw]
     rw [hwv]
     refine zc rfl (fun hc=>?_) (fun hc=>?_) <;> (try simp only [go_sem] at hc)
     · exact absurd hc hiw
     refine zx ?_
     try simp only [go_sem]
     exact ⟨(),zj [] (by try simp only [go_sem]) (by try simp only [go_sem])⟩
 intro _ vs _
 have hbl : beds10.length = 10:=rfl
 have hq10 : q < 10:=by omega
 have hqb : beds10[q]? = some (bedX q):=by
  unfold bedX
  rw [List.getD_eq_getElem?_getD,List.getElem?_eq_getElem (by rw [hbl];exact hq10)];rfl
 refine zq ?_
 refine awp_dreg2 [(7,none)] follows (by decide +kernel) (by kernel_rfl) (by simp only [keysOk,List.mem_cons,List.not_mem_nil,forall_eq_or_imp,Oc.keyOf,go_sem];simp) fun K hK=>?_
 simp only [go_sem,hqi,hqb,hbl,hq10]
 refine zh (hbe) rfl (by simp only [go_sem,i64,ints,hqi,hqb,hbl,hq10]) (by simp only [go_sem,i64,ints,hqi,hqb,hbl,hq10]) (by first | exact .inl rfl | exact .inr rfl) ?_
 (try simp only [go_sem,hqi,hqb,hbl,hq10])
 refine ⟨by omega,?_⟩
 refine zh (hbe) rfl (by simp only [go_sem,i64,ints,hqi,hqb,hbl,hq10]) (by simp only [go_sem,i64,ints,hqi,hqb,hbl,hq10]) (by first | exact .inl rfl | exact .inr rfl) ?_
 (try simp only [go_sem,hqi,hqb,hbl,hq10]);refine hK _ ?_;clear hK K;refine zw (sub_ownB 9 1 112 68 3 (by omega) (by omega) rfl rfl) ?_;refine zw (zk [1,2,4,5,6,7,8,9,10,11,12]) ?_;simp only [go_sem]
 repeat refine zq ?_
 refine zb fun K hK=>?_;simp only [go_sem];refine hK _ ?_;clear hK K;refine zw (zk [1,2,4,5,6,7,8,9,10,11,12,13]) ?_;simp only [go_sem];refine zd ?_
 have hnj:=fun j=>iterX_n x w (nX x i) j
 have hnx:=nX_le x i
 have hcn : i < 20:=by unfold cntX at hil;omega
 have hI:=fun j (hj : j ≤ 10)=>iterX_ok hw w (nX x i) j hj
 have hn10 : nX x (i + 1) = (iterX x w (nX x i) 10).n:=by rw [hwq];rfl
 have hs10 : aimX x i = ⟨bedX q,fixX (iterX x w (nX x i) 10)⟩:=by rw [hwq,hq];rfl
 have hn0 : nX x i = (iterX x w (nX x i) 0).n:=rfl
 have hfull:=iterX_full x w (nX x i)
 have hstep : ∀ j,iterX x w (nX x i) (j + 1) = addX x w (9 - j) (iterX x w (nX x i) j):=fun j=>rfl
 have hz : iterX x w (nX x i) 0 = ⟨[],0,0,nX x i⟩:=rfl
 generalize hitd : iterX x w (nX x i) = it at *
 refine zuv (n:=153) 10 (fun j vs=>[(1,.r (i64 most)),(2,.r (.rp (rxC x))),(4,.pt 4 (vs 4) 0),(5,.pt 5 (vs 5) 0),(6,.r (i64 ((it j).n : Int))),(7,.r (i64 (i : Int))),(8,.r (.it .u16 w)),(9,.pt 9 (vs 9) 0),(10,.r (ints beds10)),(11,.r (i64 (it j).sum)),(12,.r (i64 (it j).high)),(13,.r (i64 (9 - (j : Int))))])
  (fun j vs=>[(4,.box [.r (i64 0),.r .ns,.r (i64 0),.r (i64 0)]),(5,.box [.r (i64 24),.os 158 (vs 158) 2 0 i,.r (i64 S),.r (i64 O)]),(9,.box [.r (i64 (bedX q)),.os 112 (vs 112) 3 0 (it j).l.length]),(112,.arr 68 3 ((it j).l.map bedR)),(158,.arr 63 2 ((aimsX x i).map aimR))]) (fun _=>True) 0 (zj [] ?_ ?_) (Nat.zero_le _) trivial ?_
 · try simp only [go_sem]
   rw [hz]
   try simp
 · try simp only [go_sem]
   rw [hz]
   try rfl
 intro j vs hj _
 have hIj:=hI j hj
 have hfj:=hfull j
 have hsj:=hstep j
 have hnj':=hnj j
 generalize hP : it j = P at *
 obtain ⟨l,sm,hgh,n⟩:=P
 simp only at hIj hfj
 have hl5:=hIj.len
 simp only at hl5
 by_cases hcj : j < 10 ∧ l.length < 5
 · obtain ⟨hj10,hlt5⟩:=hcj
   obtain ⟨k,hk⟩ : ∃ k,k = 9 - j:=⟨_,rfl⟩
   have hk9 : (9 : Int) - (j : Int) = (k : Int):=by omega
   have hkd : IntKind.i64.wrap ((k : Int) - 1) = 9 - ((j + 1 : Nat) : Int):=by rw [zI] <;> omega
   have hkw : (0 : Int) ≤ IntKind.u64.wrap (k : Int):=by rw [wrap64s k (by omega)];omega
   rw [← hk] at hsj
   have e1 : decide ((k : Int) ≥ 0) = true:=by simp
   have e2 : decide ((l.length : Int) < 5) = true:=by simp;omega
   simp only
   rw [hk9]
   repeat refine zq ?_
   refine zb fun K hK=>?_;simp only [go_sem,e1,e2,List.length_map]
   intro _
   refine hK _ ?_;clear hK K;refine zw (zk [1,2,4,5,6,7,8,9,10,11,12,13,73]) ?_;simp only [go_sem]
   refine zc rfl (fun hc=>?_) (fun hc=>?_) <;> (try simp only [go_sem] at hc)
   refine zx ?_
   try simp only [go_sem]
   refine zq ?_
   refine zd ?_
   refine zq ?_
   refine zb fun K hK=>?_;simp only [go_sem];refine hK _ ?_;clear hK K;refine zw (zk [1,2,4,5,6,7,8,9,10,11,12,13,81]) ?_;simp only [go_sem]
   cases hB : hasB w k
   · have hB' : (bitAnd IntKind.u16 (shrI IntKind.u16 w (IntKind.u64.wrap (k : Int))) 1 == 1) = false:=hB
     have hns : it (j + 1) = ⟨l,sm,hgh,n⟩:=by
      rw [hsj];unfold addX;rw [if_neg (by simp [hB])]
     rw [hns]
     rw [hB']
     refine zc rfl (fun hc=>?_) (fun hc=>?_) <;> (try simp only [go_sem] at hc)
     refine zx ?_
     try simp only [go_sem]
     refine zb fun K hK=>?_;simp only [go_sem,hkd];refine hK _ ?_;clear hK K
     try simp only [go_sem]
     refine ⟨hj10,zj [] ?_ ?_⟩
     · try simp only [go_sem]
     · try simp only [go_sem]
   · have hB' : (bitAnd IntKind.u16 (shrI IntKind.u16 w (IntKind.u64.wrap (k : Int))) 1 == 1) = true:=hB
     rw [hB']
     refine zc rfl (fun hc=>?_) (fun hc=>?_) <;> (try simp only [go_sem] at hc)
     have bl:=byteL_le hw.low n
     have bh:=byteL_le hw.high n
     have hb1:=byteOf_ok x.low n
     have hb2:=byteOf_ok x.high n
     obtain ⟨smb0,smb1⟩:=hIj.sum0
     obtain ⟨hgb0,hgb1⟩:=hIj.high0
     simp only at smb0 smb1 hgb0 hgb1
     obtain ⟨bl',hbl'⟩ : ∃ b,b = byteL x.low n:=⟨_,rfl⟩
     obtain ⟨bh',hbh'⟩ : ∃ b,b = byteL x.high n:=⟨_,rfl⟩
     obtain ⟨lo,hlo⟩ : ∃ lo,lo = min (bl' % 6) (24 - sm):=⟨_,rfl⟩
     obtain ⟨hi',hhi⟩ : ∃ hi,hi = min 24 (lo + bh' % 9):=⟨_,rfl⟩
     have hns : it (j + 1) = ⟨⟨bedX k,lo,hi'⟩ :: l,sm + lo,hgh + hi',n + 1⟩:=by
      rw [hsj];unfold addX;rw [if_pos ⟨hlt5,hB⟩,hhi,hlo,hbl',hbh']
     rw [← hbl'] at bl hb1
     rw [← hbh'] at bh hb2
     have t1 : bl'.tmod 6 = bl' % 6:=Int.tmod_eq_emod_of_nonneg bl.1
     have t2 : bh'.tmod 9 = bh' % 9:=Int.tmod_eq_emod_of_nonneg bh.1
     have w1 : IntKind.i64.wrap bl' = bl':=by rw [zI] <;> omega
     have w2 : IntKind.i64.wrap bh' = bh':=by rw [zI] <;> omega
     have w3 : IntKind.i64.wrap (24 - sm) = 24 - sm:=by rw [zI] <;> omega
     have w4 : IntKind.i64.wrap (lo + bh' % 9) = lo + bh' % 9:=by rw [zI] <;> omega
     have w5 : IntKind.i64.wrap ((n : Int) + 1) = ((n + 1 : Nat) : Int):=by
      have : n ≤ 1000:=by simp only at hnj';omega
      rw [zI] <;> omega
     have hk10 : k < 10:=by omega
     have hkb : beds10[k]? = some (bedX k):=by
      unfold bedX
      rw [List.getD_eq_getElem?_getD,List.getElem?_eq_getElem (by rw [hbl];exact hk10)];rfl
     rw [hns]
     refine zq ?_
     refine zb fun K hK=>?_;simp only [go_sem,w1,t1]
     refine zh (hb1) rfl (by simp only [go_sem,i64,ints,w1,t1]) (by simp only [go_sem,i64,ints,w1,t1]) (by first | exact .inl rfl | exact .inr rfl) ?_
     (try simp only [go_sem,w1,t1]);refine hK _ ?_;clear hK K;refine zw (zk [1,2,4,5,6,7,8,9,10,11,12,13,14]) ?_;simp only [go_sem]
     refine zq ?_
     refine zb fun K hK=>?_;simp only [go_sem,w3];refine hK _ ?_;clear hK K;rw [← hlo]
     refine zw (zk [1,2,4,5,6,7,8,9,10,11,12,13,14]) ?_;simp only [go_sem]
     refine zq ?_
     refine awp_dreg2 [(2,none),(6,none),(14,some 14)] follows (by decide +kernel) (by kernel_rfl) (by simp only [keysOk,List.mem_cons,List.not_mem_nil,forall_eq_or_imp,Oc.keyOf,go_sem];simp) fun K hK=>?_
     simp only [go_sem,w2,t2,w4]
     refine zh (hb2) rfl (by simp only [go_sem,i64,ints,w2,t2,w4]) (by simp only [go_sem,i64,ints,w2,t2,w4]) (by first | exact .inl rfl | exact .inr rfl) ?_
     (try simp only [go_sem,w2,t2,w4]);refine hK _ ?_;clear hK K;rw [← hhi]
     refine zw (zfP 14 14 [i64 lo,i64 hi'] (by omega) rfl rfl) ?_;refine zw (sub_frzB 9 1 112 (by omega) (by omega) rfl rfl rfl (by simp)) ?_
     try simp only [go_sem]
     refine zw (zk [1,2,4,5,6,7,8,9,10,11,12,13,14]) ?_;simp only [go_sem]
     obtain ⟨c,hc'⟩ : ∃ c : Bd,c = ⟨bedX k,lo,hi'⟩:=⟨_,rfl⟩
     rw [← hc']
     have hclo : lo = c.lo:=by rw [hc']
     have hchi : hi' = c.hi:=by rw [hc']
     have hcb : bedX k = c.b:=by rw [hc']
     rw [hclo,hchi]
     refine zq ?_
     refine awp_invO [112] (n:=153) (gbF (rxC x) most n i k w (bedX q) sm hgh c l) (gbR S O (bedX q) i ((aimsX x i).map aimR) c l) follows (by kernel_rfl) (by kernel_rfl) (by decide +kernel) (zj [] ?_ ?_) ?_ ?_
     · simp only [go_sem,gbF,vG,hclo,hchi,if_true,if_false,Bool.false_eq_true,cond_false]
     · simp only [go_sem,gbR,cond_false,List.cons_append,List.nil_append]
     · refine ⟨fun b vs hdn hbk hde=>?_,fun b vs hdn hbk hde=>?_,fun b vs hdn hbk hde=>?_,fun b vs hdn hbk hde=>?_,fun b vs hdn hbk hde=>?_,fun b vs hdn hbk hde=>?_,fun b vs hdn hbk hde=>?_,fun b vs hdn hbk hde=>?_,fun b vs hdn hbk hde=>?_,fun b vs hdn hbk hde=>?_,fun b vs hdn hbk hde=>?_,fun b vs hdn hbk hde=>?_,trivial⟩
       · skip
         have G:=dnT hdn hbk [2,10,11,3,5,6,9] (by decide +kernel)
         simp only [allB,and_true] at G
         (simp only [go_sem,gbF,gbR,upd,vG,cond_true,cond_false,if_true,Bool.false_eq_true,if_false,hbk,G,xopW,sBuildOwn,hkb,hbl,hk10,hcb,List.length_map,List.length_cons,List.length_nil,Nat.sub_zero,Nat.add_sub_cancel,Nat.zero_add,Nat.add_comm 1 l.length,bedR])
         all_goals (refine zj [] ?_ ?_ <;> (simp only [go_sem,gbF,gbR,upd,vG,cond_true,cond_false,if_true,Bool.false_eq_true,if_false,hbk,G,xopW,sBuildOwn,hkb,hbl,hk10,hcb,List.length_map,List.length_cons,List.length_nil,Nat.sub_zero,Nat.add_sub_cancel,Nat.zero_add,Nat.add_comm 1 l.length,bedR]))
       · skip
         have G:=dnT hdn hbk [2,10,11,3,5,6,9] (by decide +kernel)
         simp only [allB,and_true] at G
         (simp only [go_sem,gbF,gbR,upd,vG,cond_true,cond_false,if_true,Bool.false_eq_true,if_false,hbk,G,xopW,sBuildOwn,hkb,hbl,hk10,hcb,List.length_map,List.length_cons,List.length_nil,Nat.sub_zero,Nat.add_sub_cancel,Nat.zero_add,Nat.add_comm 1 l.length,bedR])
         all_goals (refine zj [] ?_ ?_ <;> (simp only [go_sem,gbF,gbR,upd,vG,cond_true,cond_false,if_true,Bool.false_eq_true,if_false,hbk,G,xopW,sBuildOwn,hkb,hbl,hk10,hcb,List.length_map,List.length_cons,List.length_nil,Nat.sub_zero,Nat.add_sub_cancel,Nat.zero_add,Nat.add_comm 1 l.length,bedR]))
       · skip
         have H:=upT hdn hde [0,1] (by decide +kernel)
         have G:=dnT hdn hbk [3,10,11,5,6,9] (by decide +kernel)
         simp only [allB,and_true] at H G
         (simp only [go_sem,gbF,gbR,upd,vG,cond_true,cond_false,if_true,Bool.false_eq_true,if_false,hbk,H,G,xopW,sBuildOwn,hkb,hbl,hk10,hcb,List.length_map,List.length_cons,List.length_nil,Nat.sub_zero,Nat.add_sub_cancel,Nat.zero_add,Nat.add_comm 1 l.length,bedR])
         all_goals refine ⟨by omega,?_⟩
         all_goals (refine zj [] ?_ ?_ <;> (simp only [go_sem,gbF,gbR,upd,vG,cond_true,cond_false,if_true,Bool.false_eq_true,if_false,hbk,H,G,xopW,sBuildOwn,hkb,hbl,hk10,hcb,List.length_map,List.length_cons,List.length_nil,Nat.sub_zero,Nat.add_sub_cancel,Nat.zero_add,Nat.add_comm 1 l.length,bedR]))
       · skip
         have H:=upT hdn hde [2,0,1] (by decide +kernel)
         have G:=dnT hdn hbk [5,10,11,6,9] (by decide +kernel)
         simp only [allB,and_true] at H G
         (simp only [go_sem,gbF,gbR,upd,vG,cond_true,cond_false,if_true,Bool.false_eq_true,if_false,hbk,H,G,xopW,sBuildOwn,hkb,hbl,hk10,hcb,List.length_map,List.length_cons,List.length_nil,Nat.sub_zero,Nat.add_sub_cancel,Nat.zero_add,Nat.add_comm 1 l.length,bedR])
         all_goals (refine zj [] ?_ ?_ <;> (simp only [go_sem,gbF,gbR,upd,vG,cond_true,cond_false,if_true,Bool.false_eq_true,if_false,hbk,H,G,xopW,sBuildOwn,hkb,hbl,hk10,hcb,List.length_map,List.length_cons,List.length_nil,Nat.sub_zero,Nat.add_sub_cancel,Nat.zero_add,Nat.add_comm 1 l.length,bedR]))
       · skip
         have G:=dnT hdn hbk [5,10,11,6,9] (by decide +kernel)
         simp only [allB,and_true] at G
         (simp only [go_sem,gbF,gbR,upd,vG,cond_true,cond_false,if_true,Bool.false_eq_true,if_false,hbk,G,xopW,sBuildOwn,hkb,hbl,hk10,hcb,List.length_map,List.length_cons,List.length_nil,Nat.sub_zero,Nat.add_sub_cancel,Nat.zero_add,Nat.add_comm 1 l.length,bedR])
         all_goals (refine zj [] ?_ ?_ <;> (simp only [go_sem,gbF,gbR,upd,vG,cond_true,cond_false,if_true,Bool.false_eq_true,if_false,hbk,G,xopW,sBuildOwn,hkb,hbl,hk10,hcb,List.length_map,List.length_cons,List.length_nil,Nat.sub_zero,Nat.add_sub_cancel,Nat.zero_add,Nat.add_comm 1 l.length,bedR]))
       · skip
         have H:=upT hdn hde [3,4,2,0,1] (by decide +kernel)
         have G:=dnT hdn hbk [6,10,11,9] (by decide +kernel)
         simp only [allB,and_true] at H G
         (simp only [go_sem,gbF,gbR,upd,vG,cond_true,cond_false,if_true,Bool.false_eq_true,if_false,hbk,H,G,xopW,sBuildOwn,hkb,hbl,hk10,hcb,List.length_map,List.length_cons,List.length_nil,Nat.sub_zero,Nat.add_sub_cancel,Nat.zero_add,Nat.add_comm 1 l.length,bedR])
         all_goals (refine zj [] ?_ ?_ <;> (simp only [go_sem,gbF,gbR,upd,vG,cond_true,cond_false,if_true,Bool.false_eq_true,if_false,hbk,H,G,xopW,sBuildOwn,hkb,hbl,hk10,hcb,List.length_map,List.length_cons,List.length_nil,Nat.sub_zero,Nat.add_sub_cancel,Nat.zero_add,Nat.add_comm 1 l.length,bedR]))
       · skip
         have H:=upT hdn hde [5,3,4,2,0,1] (by decide +kernel)
         have G:=dnT hdn hbk [9,10,11] (by decide +kernel)
         simp only [allB,and_true] at H G
         (simp only [go_sem,gbF,gbR,upd,vG,cond_true,cond_false,if_true,Bool.false_eq_true,if_false,hbk,H,G,xopW,sBuildOwn,hkb,hbl,hk10,hcb,List.length_map,List.length_cons,List.length_nil,Nat.sub_zero,Nat.add_sub_cancel,Nat.zero_add,Nat.add_comm 1 l.length,bedR])
         all_goals (refine zj [] ?_ ?_ <;> (simp only [go_sem,gbF,gbR,upd,vG,cond_true,cond_false,if_true,Bool.false_eq_true,if_false,hbk,H,G,xopW,sBuildOwn,hkb,hbl,hk10,hcb,List.length_map,List.length_cons,List.length_nil,Nat.sub_zero,Nat.add_sub_cancel,Nat.zero_add,Nat.add_comm 1 l.length,bedR]))
       · skip
         have G:=dnT hdn hbk [8,10,11,9] (by decide +kernel)
         simp only [allB,and_true] at G
         cases g6 : b 6
         all_goals (simp only [go_sem,gbF,gbR,upd,vG,cond_true,cond_false,if_true,Bool.false_eq_true,if_false,hbk,G,g6,xopW,sBuildOwn,hkb,hbl,hk10,hcb,List.length_map,List.length_cons,List.length_nil,Nat.sub_zero,Nat.add_sub_cancel,Nat.zero_add,Nat.add_comm 1 l.length,bedR])
         all_goals (refine zj [] ?_ ?_ <;> (simp only [go_sem,gbF,gbR,upd,vG,cond_true,cond_false,if_true,Bool.false_eq_true,if_false,hbk,G,g6,xopW,sBuildOwn,hkb,hbl,hk10,hcb,List.length_map,List.length_cons,List.length_nil,Nat.sub_zero,Nat.add_sub_cancel,Nat.zero_add,Nat.add_comm 1 l.length,bedR]))
       · skip
         have H:=upT hdn hde [7] (by decide +kernel)
         have G:=dnT hdn hbk [9,10,11] (by decide +kernel)
         simp only [allB,and_true] at H G
         cases g6 : b 6
         all_goals (simp only [go_sem,gbF,gbR,upd,vG,cond_true,cond_false,if_true,Bool.false_eq_true,if_false,hbk,H,G,g6,xopW,sBuildOwn,hkb,hbl,hk10,hcb,List.length_map,List.length_cons,List.length_nil,Nat.sub_zero,Nat.add_sub_cancel,Nat.zero_add,Nat.add_comm 1 l.length,bedR])
         all_goals (refine zj [] ?_ ?_ <;> (simp only [go_sem,gbF,gbR,upd,vG,cond_true,cond_false,if_true,Bool.false_eq_true,if_false,hbk,H,G,g6,xopW,sBuildOwn,hkb,hbl,hk10,hcb,List.length_map,List.length_cons,List.length_nil,Nat.sub_zero,Nat.add_sub_cancel,Nat.zero_add,Nat.add_comm 1 l.length,bedR]))
       · skip
         have H:=upT hdn hde [6,8,5,7,3,4,2,0,1] (by decide +kernel)
         have G:=dnT hdn hbk [10,11] (by decide +kernel)
         simp only [allB,and_true] at H G
         (simp only [go_sem,gbF,gbR,upd,vG,cond_true,cond_false,if_true,Bool.false_eq_true,if_false,hbk,H,G,xopW,sBuildOwn,hkb,hbl,hk10,hcb,List.length_map,List.length_cons,List.length_nil,Nat.sub_zero,Nat.add_sub_cancel,Nat.zero_add,Nat.add_comm 1 l.length,bedR])
         all_goals refine ⟨by omega,?_⟩
         all_goals (refine zj [] ?_ ?_ <;> (simp only [go_sem,gbF,gbR,upd,vG,cond_true,cond_false,if_true,Bool.false_eq_true,if_false,hbk,H,G,xopW,sBuildOwn,hkb,hbl,hk10,hcb,List.length_map,List.length_cons,List.length_nil,Nat.sub_zero,Nat.add_sub_cancel,Nat.zero_add,Nat.add_comm 1 l.length,bedR]))
       · skip
         have H:=upT hdn hde [0,1,2,3,4,5,6,7,8,9] (by decide +kernel)
         have G:=dnT hdn hbk [11] (by decide +kernel)
         simp only [allB,and_true] at H G
         (simp only [go_sem,gbF,gbR,upd,vG,cond_true,cond_false,if_true,Bool.false_eq_true,if_false,hbk,H,G,xopW,sBuildOwn,hkb,hbl,hk10,hcb,List.length_map,List.length_cons,List.length_nil,Nat.sub_zero,Nat.add_sub_cancel,Nat.zero_add,Nat.add_comm 1 l.length,bedR])
         all_goals (refine zj [] ?_ ?_ <;> (simp only [go_sem,gbF,gbR,upd,vG,cond_true,cond_false,if_true,Bool.false_eq_true,if_false,hbk,H,G,xopW,sBuildOwn,hkb,hbl,hk10,hcb,List.length_map,List.length_cons,List.length_nil,Nat.sub_zero,Nat.add_sub_cancel,Nat.zero_add,Nat.add_comm 1 l.length,bedR]))
       · skip
         have H:=upT hdn hde [0,1,2,3,4,5,6,7,8,9,9,9,10] (by decide +kernel)
         simp only [allB,and_true] at H
         (simp only [go_sem,gbF,gbR,upd,vG,cond_true,cond_false,if_true,Bool.false_eq_true,if_false,hbk,H,xopW,sBuildOwn,hkb,hbl,hk10,hcb,List.length_map,List.length_cons,List.length_nil,Nat.sub_zero,Nat.add_sub_cancel,Nat.zero_add,Nat.add_comm 1 l.length,bedR])
         all_goals (refine zj [] ?_ ?_ <;> (simp only [go_sem,gbF,gbR,upd,vG,cond_true,cond_false,if_true,Bool.false_eq_true,if_false,hbk,H,xopW,sBuildOwn,hkb,hbl,hk10,hcb,List.length_map,List.length_cons,List.length_nil,Nat.sub_zero,Nat.add_sub_cancel,Nat.zero_add,Nat.add_comm 1 l.length,bedR]))
     intro b vs hb
     simp only [go_sem,gbF,gbR,vG,hb,if_true,cond_true,List.cons_append,List.nil_append];refine zw (zk [1,2,4,5,6,7,8,9,10,11,12,13,14]) ?_;simp only [go_sem]
     have w6 : IntKind.i64.wrap (sm + c.lo) = sm + c.lo:=by rw [zI] <;> omega
     have w7 : IntKind.i64.wrap (hgh + c.hi) = hgh + c.hi:=by rw [zI] <;> omega
     refine awp_dreg2 [(6,none),(11,none),(12,none),(14,none)] follows (by decide +kernel) (by kernel_rfl) (by simp only [keysOk,List.mem_cons,List.not_mem_nil,forall_eq_or_imp,Oc.keyOf,go_sem];simp) fun K hK=>?_
     simp only [go_sem,w5,w6,w7];refine hK _ ?_;clear hK K;refine zw (zk [1,2,4,5,6,7,8,9,10,11,12,13]) ?_;simp only [go_sem];refine zb fun K hK=>?_;simp only [go_sem,hkd];refine hK _ ?_;clear hK K
     try simp only [go_sem]
     refine ⟨hj10,zj [] ?_ ?_⟩
     · try simp only [go_sem]
     · try simp only [go_sem]
       try simp
 have hend : it 10 = ⟨l,sm,hgh,n⟩:=by
  by_cases hj10 : j < 10
  · have h5 : ¬ l.length < 5:=fun h=>hcj ⟨hj10,h⟩
    have:=hfj h5 (10 - j)
    rwa [show j + (10 - j) = 10 by omega] at this
  · have : j = 10:=by omega
    rw [← this];exact hP
 have hne : l ≠ []:=by
  have:=bedsX_ne hw (show i = 0 ∨ i < x.which.length by omega) (nX x i)
  rw [← hwq,hitd,hend] at this
  exact this
 simp only
 repeat refine zq ?_
 refine zaw (n:=153) (fun (_ : Unit) vs=>[(1,.r (i64 most)),(2,.r (.rp (rxC x))),(4,.pt 4 (vs 4) 0),(5,.pt 5 (vs 5) 0),(6,.r (i64 (n : Int))),(7,.r (i64 (i : Int))),(9,.pt 9 (vs 9) 0),(12,.r (i64 hgh)),(73,.r (.bo false))])
  (fun _ vs=>[(4,.box [.r (i64 0),.r .ns,.r (i64 0),.r (i64 0)]),(5,.box [.r (i64 24),.os 158 (vs 158) 2 0 i,.r (i64 S),.r (i64 O)]),(9,.box [.r (i64 (bedX q)),.os 112 (vs 112) 3 0 l.length]),(112,.arr 68 3 (l.map bedR)),(158,.arr 63 2 ((aimsX x i).map aimR))]) (fun _=>True) (fun _ h=>h) ?_ ?_
 · by_cases hj10 : j < 10
   · have e1 : decide (9 - (j : Int) ≥ 0) = true:=by simp;omega
     have e2 : decide ((l.length : Int) < 5) = false:=by simp;omega
     refine zb fun K hK=>?_;simp only [go_sem,e1,e2,List.length_map]
     intro _
     refine hK _ ?_;clear hK K
     try simp only [go_sem]
     exact ⟨(),zj [] (by try simp only [go_sem]) (by try simp only [go_sem])⟩
   · have e1 : decide (9 - (j : Int) ≥ 0) = false:=by simp;omega
     refine zb fun K hK=>?_;simp only [go_sem,e1,List.length_map];refine hK _ ?_;clear hK K
     try simp only [go_sem]
     exact ⟨(),zj [] (by try simp only [go_sem]) (by try simp only [go_sem])⟩
 intro _ vs _
 refine zc rfl (fun hc=>?_) (fun hc=>?_) <;> (try simp only [go_sem] at hc)
 refine zf ?_;simp only [go_sem]
 have hnn : n = nX x (i + 1):=by rw [hn10,hend]
 have haim : aimX x i = ⟨bedX q,fixX ⟨l,sm,hgh,n⟩⟩:=by rw [hs10,hend]
 obtain ⟨c,l',rfl⟩ : ∃ c l',l = c :: l':=by
  cases l with
  | nil=>exact absurd rfl hne
  | cons c l'=>exact ⟨c,l',rfl⟩
 obtain ⟨fx,hfx⟩ : ∃ fx,fx = fixX ⟨c :: l',sm,hgh,n⟩:=⟨_,rfl⟩
 rw [← hfx] at haim
 have hfl : fx.length = l'.length + 1:=by rw [hfx];unfold fixX;simp only;split <;> simp
 have hcI:=hIj.each c (by simp)
 obtain ⟨_,hcI0,hcI1,hcI2⟩:=hcI
 obtain ⟨hgb0,hgb1⟩:=hIj.high0
 simp only [List.length_cons] at hgb0 hgb1
 have hl5' : l'.length + 1 ≤ 5:=by simpa using hl5
 repeat refine zq ?_
 refine zb fun K hK=>?_;simp only [go_sem];refine hK _ ?_;clear hK K;refine zw (zk [1,2,4,5,6,7,9,12,128]) ?_;simp only [go_sem]
 refine zaw (n:=153) (fun (_ : Unit) vs=>[(1,.r (i64 most)),(2,.r (.rp (rxC x))),(4,.pt 4 (vs 4) 0),(5,.pt 5 (vs 5) 0),(6,.r (i64 (n : Int))),(7,.r (i64 (i : Int))),(9,.pt 9 (vs 9) 0)])
  (fun _ vs=>[(4,.box [.r (i64 0),.r .ns,.r (i64 0),.r (i64 0)]),(5,.box [.r (i64 24),.os 158 (vs 158) 2 0 i,.r (i64 S),.r (i64 O)]),(9,.box [.r (i64 (bedX q)),.os 112 (vs 112) 3 0 (l'.length + 1)]),(112,.arr 68 3 (fx.map bedR)),(158,.arr 63 2 ((aimsX x i).map aimR))]) (fun _=>True) (fun _ h=>h) ?_ ?_
 · by_cases h24 : hgh < 24
   · have hfe : fx = ⟨c.b,c.lo,min 24 (c.hi + 24 - hgh)⟩ :: l':=by rw [hfx];unfold fixX;simp only;rw [if_pos h24]
     have e1 : decide (hgh < 24) = true:=decide_eq_true h24
     have w8 : IntKind.i64.wrap (IntKind.i64.wrap (c.hi + 24) - hgh) = c.hi + 24 - hgh:=by
      have : IntKind.i64.wrap (c.hi + 24) = c.hi + 24:=by rw [zI] <;> omega
      rw [this,zI] <;> omega
     rw [hfe,e1]
     refine zc rfl (fun hc=>?_) (fun hc=>?_) <;> (try simp only [go_sem] at hc)
     refine awp_dreg2 [(9,some 9),(12,none)] follows (by decide +kernel) (by kernel_rfl) (by simp only [keysOk,List.mem_cons,List.not_mem_nil,forall_eq_or_imp,Oc.keyOf,go_sem];simp) fun K hK=>?_
     simp only [go_sem,w8,bedR];(try simp (disch:=omega) only [zI])
     refine ⟨by omega,by omega,by omega,?_⟩
     refine hK _ ?_;clear hK K
     try simp only [go_sem]
     refine ⟨(),zj [] (by try simp only [go_sem]) ?_⟩
     try simp only [go_sem]
     rfl
   · have hfe : fx = c :: l':=by rw [hfx];unfold fixX;simp only;rw [if_neg h24]
     have e1 : decide (hgh < 24) = false:=decide_eq_false h24
     rw [hfe,e1]
     refine zc rfl (fun hc=>?_) (fun hc=>?_) <;> (try simp only [go_sem] at hc)
     refine zx ?_
     try simp only [go_sem]
     exact ⟨(),zj [] (by try simp only [go_sem]) (by try simp only [go_sem])⟩
 intro _ vs _
 refine zw (sub_frzB 9 1 112 (by omega) (by omega) rfl rfl rfl (by simp [hfl])) ?_
 try simp only [go_sem]
 rw [List.take_of_length_le (show (fx.map bedR).length ≤ l'.length + 1 by simp [hfl])]
 refine zw (zfP 9 9 [i64 (bedX q),bedsR fx] (by omega) rfl rfl) ?_
 have hal : (aimsX x i).length = i:=by simp [aimsX]
 have hsu:=aimsX_succ x i
 refine zw (zk [1,2,4,5,6,7,9]) ?_;simp only [go_sem];refine zb fun K hK=>?_;simp only [go_sem,hal,List.length_map]
 refine ⟨by omega,?_⟩
 refine hK _ ?_;clear hK K;refine zw (zk [1,2,4,5,6,7]) ?_;simp only [go_sem]
 have hi1 : IntKind.i64.wrap ((i : Int) + 1) = ((i + 1 : Nat) : Int):=by rw [zI] <;> omega
 refine zb fun K hK=>?_;simp only [go_sem,hi1];refine hK _ ?_;clear hK K
 try simp only [go_sem]
 refine ⟨i + 1,by omega,by omega,zj [] ?_ ?_⟩
 · try simp only [go_sem]
   rw [hnn]
 · try simp only [go_sem]
   rw [hsu,haim]
   simp [aimR,bedsR]
def mixA (bs : List Int) (A : Nat → Am) (i j : Nat) : Am:=if j < i then narA bs j (A j) else A j
theorem mixA_zero (bs : List Int) (A : Nat → Am) : mixA bs A 0 = A:=by funext j;simp [mixA]
def mixL (l' l : List Bd) (k : Nat) : List Bd:=l'.take k ++ l.drop k
theorem mixL_get {l' l : List Bd} {k : Nat} {c : Bd} (hl : l'.length = l.length) (h : l[k]? = some c) : (mixL l' l k)[k]? = some c:=by
 have hk:=(List.getElem?_eq_some_iff.1 h).1
 unfold mixL
 rw [List.getElem?_append_right (by rw [List.length_take];omega),List.length_take,List.getElem?_drop,← h]
 congr 1;omega
theorem mixL_len {l' l : List Bd} {k : Nat} (hl : l'.length = l.length) : (mixL l' l k).length = l.length:=by unfold mixL;simp;omega
theorem mixL_set {l' l : List Bd} {k : Nat} {c : Bd} (hl : l'.length = l.length) (h : l'[k]? = some c) : (mixL l' l k).set k c = mixL l' l (k + 1):=by
 have hk:=(List.getElem?_eq_some_iff.1 h).1
 unfold mixL
 rw [List.set_append_right _ _ (by rw [List.length_take];omega),List.length_take,zto h,List.append_assoc]
 congr 1
 have e : k - min k l'.length = 0:=by omega
 have hk2 : k < l.length:=by omega
 rw [e,List.drop_eq_getElem_cons hk2]
 rfl
theorem lA_at {l : List Am} {j : Nat} {a : Am} (h : l[j]? = some a) : lA l j = a:=by unfold lA;rw [List.getD_eq_getElem?_getD,h];rfl
theorem plF_law8 (bs : List Int) (l : List Am) : plF (lA l) (mixA bs (lA l) l.length) l.length = ((narAt bs l).map aimR).flatten.map .r:=by
 rw [plF_flat]
 congr 2
 unfold narAt
 rw [List.map_map]
 refine List.map_congr_left fun j hj=>?_
 have hj':=List.mem_range.1 hj
 simp only [Function.comp_def,mixA,if_pos hj']
 rfl
theorem frz_law2 {n : Nat} {l : List (Nat × AV)} {A F : Nat → Am} {c6 c7 c41 : RowC} : ∀ m,m ≤ 300 → (∀ j,j < m → (F j).beds.length = (A j).beds.length) → ∀ (vs : Nat → Nat) (plain : List AV),
 ∃ vs',(∀ k,k < 600 → vs' k = vs k) ∧ Sub (st n l vs ((6,c6) :: (7,c7) :: (40,.ara 63 2 (araG A vs m ++ plain)) :: (41,c41) :: fam (famG F) m)) (st n l vs' ((6,c6) :: (7,c7) :: (40,.ara 63 2 (plF A F m ++ plain)) :: (41,c41) :: []))
 | 0,_,_,vs,plain=>⟨vs,fun _ _=>rfl,Sub.refl _⟩
 | m + 1, hm, hl, vs, plain => by
   have hlm:=hl m (by omega)
   have hcell : (araG A vs (m + 1) ++ plain)[m * 2 + 1]? = some (.os (m + 600) (vs (m + 600)) 3 0 (A m).beds.length):=by
    rw [List.getElem?_append_left (by rw [araG_len];omega),araG_at (by omega)]
   have k6 : ¬ m + 600 = 6:=by omega
   have k7 : ¬ m + 600 = 7:=by omega
   have k40 : ¬ m + 600 = 40:=by omega
   have k41 : ¬ m + 600 = 41:=by omega
   have s1:=sub_frzBA (n:=n) (l:=l) (vs:=vs) (cs:=(6,c6) :: (7,c7) :: (40,.ara 63 2 (araG A vs (m + 1) ++ plain)) :: (41,c41) :: fam (famG F) (m + 1)) 40 (m * 2 + 1) (m + 600) (tb:=63) (sb:=2) (cells:=araG A vs (m + 1) ++ plain) (sz:=3) (off:=0) (m:=(A m).beds.length) (ty:=68) (es:=(F m).beds.map bedR) (by omega) (by omega)
    rfl hcell
    (by simp only [zlc,if_neg k6,if_neg k7,if_neg k40,if_neg k41];exact lookc_fam (by omega)) (by simp [hlm])
   have e1 : delc ((6,c6) :: (7,c7) :: (40,RowC.ara 63 2 (araG A vs (m + 1) ++ plain)) :: (41,c41) :: fam (famG F) (m + 1)) (m + 600) = (6,c6) :: (7,c7) :: (40,RowC.ara 63 2 (araG A vs (m + 1) ++ plain)) :: (41,c41) :: fam (famG F) m:=by
    simp only [delc,if_neg k6,if_neg k7,if_neg k40,if_neg k41,delc_fam_last]
   have e2 : ∀ c,insc ((6,c6) :: (7,c7) :: (40,RowC.ara 63 2 (araG A vs (m + 1) ++ plain)) :: (41,c41) :: fam (famG F) m) 40 c = (6,c6) :: (7,c7) :: (40,c) :: (41,c41) :: fam (famG F) m:=fun c=>rfl
   have e3 : (((F m).beds.map bedR).drop 0).take (A m).beds.length = (F m).beds.map bedR:=by
    rw [List.drop_zero,List.take_of_length_le (by simp [hlm])]
   have e4 : ∀ x,(araG A vs (m + 1) ++ plain).set (m * 2 + 1) x = araG A vs m ++ ([.r (i64 (A m).at_),x] ++ plain):=fun x=>by
    simp only [araG,List.append_assoc]
    rw [List.set_append_right _ _ (by rw [araG_len];omega),araG_len,show m * 2 + 1 - m * 2 = 1 by omega]
    rfl
   have e5 : araG A vs m = araG A (upd vs (m + 600) (vs (m + 600) + 1)) m:=araG_congr fun j hj=>⟨by unfold upd;rw [if_neg (by omega)],rfl,rfl⟩
   rw [e1,e2,e3,e4,e5] at s1
   obtain ⟨vs',g1,g2⟩:=frz_law2 m (by omega) (fun j hj=>hl j (by omega)) (upd vs (m + 600) (vs (m + 600) + 1)) ([.r (i64 (A m).at_),.r (.sl 3 ((F m).beds.map bedR))] ++ plain)
   refine ⟨vs',fun k hk=>?_,s1.trans ?_⟩
   · rw [g1 k hk];unfold upd;rw [if_neg (by omega)]
   · have e6 : plF A F (m + 1) ++ plain = plF A F m ++ ([.r (i64 (A m).at_),.r (.sl 3 ((F m).beds.map bedR))] ++ plain):=by simp only [plF,List.append_assoc]
     rw [e6]
     exact g2
def nbF (R : Rk) (bs : List Int) (b : Nat → Bool) (vs : Nat → Nat) : List (Nat × AV) :=
 [(1,.r (u8s bs)),(5,.r (.rp [i64 R.d,aimsR R.aims,i64 R.start,i64 R.out])),
  (25,vI b 0 (.r (rkR R))),
  (26,vI b 1 (.ag [.r (i64 R.d),.os 40 (vs 40) 2 0 R.aims.length,.r (i64 R.start),.r (i64 R.out)])),
  (27,vI b 2 (.r (rkR R))),
  (28,vI b 3 (.ag [.r (i64 R.d),.os 41 (vs 41) 2 0 R.aims.length,.r (i64 R.start),.r (i64 R.out)])),
  (6,vI b 4 (.pt 6 (vs 6) 0)),
  (7,vI b 5 (.pt 7 (vs 7) 0))]
def nbR (R : Rk) (b : Nat → Bool) (vs : Nat → Nat) : List (Nat × RowC) :=
 (bif b 4 then [(6,bif b 6 then .box [.r (i64 R.d),.os 40 (vs 40) 2 0 R.aims.length,.r (i64 R.start),.r (i64 R.out)] else .box [.r (i64 0),.r .ns,.r (i64 0),.r (i64 0)])] else []) ++ ((bif b 5 then [(7,bif b 7 then .box [.r (i64 R.d),.os 41 (vs 41) 2 0 R.aims.length,.r (i64 R.start),.r (i64 R.out)] else .box [.r (i64 0),.r .ns,.r (i64 0),.r (i64 0)])] else []) ++
  (bif b 1 then (40,.ara 63 2 (araG (lA R.aims) vs R.aims.length)) :: ((bif b 3 then [(41,.arr 63 2 (R.aims.map aimR))] else []) ++ fam (famG (lA R.aims)) R.aims.length) else []))
theorem law_narrows {x : Rx} (hx : WfRx x) {bs : List Int} (hb : ∀ n ∈ bs,0 ≤ n ∧ n ≤ 255) : ACalls Try.prog 6 [.ag (rxC x),u8s bs] (.bo true):=by
 have hru:=rules_ok hx 3 (by omega)
 have h24 : ∀ a ∈ (ruleX x 3).aims,A24 a:=fun a ha=>by
  have h:=(checkR_zero (ruleX_check hx (show 3 ≤ 20 by omega))).2.aims a ha
  have hl:=(ruleX_aim hx ha).2
  exact ⟨h,by have:=List.length_pos_iff.2 h.ne;omega⟩
 obtain ⟨R,hR⟩ : ∃ R,R = ruleX x 3:=⟨_,rfl⟩
 have hck : checkR R = 0:=by rw [hR];exact ruleX_check hx (by omega)
 have hwf : WfL R.d R.aims:=by rw [hR];exact ruleX_wf hx
 have hd : R.d = 24:=by rw [hR];rfl
 have hle : R.aims.length ≤ 3:=by
  rw [hR,ruleX_len];unfold cntX;omega
 rw [← hR] at hru h24
 have hr:=(checkR_zero hck).2
 have hall:=nar_all hb hck hd (by omega) h24
 have hown:=own_ok R (by omega) (fun a ha=>by have:=(h24 a ha).len;omega)
 have htb:=table_ok R hwf
 rw [if_pos hck,if_pos hck,hck] at htb
 have lN : (narK R bs).aims.length = R.aims.length:=narAt_len bs R.aims
 have lW : (moreK R bs).aims.length = R.aims.length + 1:=by simp [moreK]
 have hownN:=own_ok (narK R bs) (by omega) (fun a ha=>by have:=hall.bN a ha;omega)
 have hownW:=own_ok (moreK R bs) (by omega) (fun a ha=>by have:=hall.bW a ha;omega)
 have htbN:=table_ok (narK R bs) hall.wN
 have htbW:=table_ok (moreK R bs) hall.wW
 rw [if_pos hall.cN,if_pos hall.cN,hall.cN] at htbN
 rw [if_pos hall.cW,if_pos hall.cW,hall.cW] at htbW
 have rN:=(checkR_zero hall.cN).2
 have rW:=(checkR_zero hall.cW).2
 have hkn:=known_ok
 have hn : 0 < R.aims.length:=List.length_pos_iff.2 hr.ne
 have hN0 : 1 ≤ R.aims.length ∧ R.aims.length ≤ 3:=⟨hn,hle⟩
 have hN1 : ∀ a ∈ R.aims,1 ≤ a.beds.length ∧ a.beds.length ≤ 1000:=fun a ha=>by have:=(h24 a ha).len;omega
 have harr:=own_arr R (by omega) (fun a ha=>by have:=(h24 a ha).len;omega)
 have hal0 : ∀ vs,(araG (lA R.aims) vs R.aims.length).length = R.aims.length * 2:=fun vs=>araG_len
 refine zas (rs:=[.bo true]) [.tmp 4] Try.func6 rfl (by kernel_rfl) Try.ntmps6 rfl (by simp) rfl fun C vs=>?_
 refine zq ?_
 refine zb fun K hK=>?_;simp only [go_sem];refine hK _ ?_;clear hK K;refine zw (zfP 2 2 (rxC x) (by omega) rfl rfl) ?_;refine zw (zk [1,2]) ?_;simp only [go_sem]
 refine zq ?_
 refine zb fun K hK=>?_;simp only [go_sem]
 refine zh (hru) rfl (by simp only [go_sem,i64,ints]) (by simp only [go_sem,i64,ints]) (by first | exact .inl rfl | exact .inr rfl) ?_
 (try simp only [go_sem]);refine hK _ ?_;clear hK K;refine zw (zfP 5 5 [i64 R.d,aimsR R.aims,i64 R.start,i64 R.out] (by omega) (by try simp only [go_sem]) (by try simp only [go_sem])) ?_;refine zw (zk [1,5]) ?_;simp only [go_sem]
 refine zq ?_
 refine awp_inv (n:=259) (nbF R bs) (nbR R) follows (by kernel_rfl) (by kernel_rfl) (by decide +kernel) (zj [] ?_ ?_) ?_ ?_
 · simp only [go_sem,nbF,vI,if_true,if_false,Bool.false_eq_true,cond_false]
 · simp only [go_sem,nbR,cond_false,List.cons_append,List.nil_append]
 · refine ⟨fun b vs hdn hbk hde=>?_,fun b vs hdn hbk hde=>?_,fun b vs hdn hbk hde=>?_,fun b vs hdn hbk hde=>?_,fun b vs hdn hbk hde=>?_,fun b vs hdn hbk hde=>?_,fun b vs hdn hbk hde=>?_,fun b vs hdn hbk hde=>?_,trivial⟩
   · skip
     have G:=dnT hdn hbk [1,6,7,3] (by decide +kernel)
     simp only [allB,and_true] at G
     cases g4 : b 4 <;> cases g5 : b 5
     all_goals (simp only [go_sem,nbF,nbR,upd,vI,cond_true,cond_false,if_true,Bool.false_eq_true,if_false,hbk,G,g4,g5,List.length_map,insc_fam_lt,zdf,araG_upd,Nat.reduceLT,Nat.reduceEqDiff,List.cons_append,List.nil_append,List.append_nil])
     all_goals (refine zj [] ?_ ?_ <;> (simp only [go_sem,nbF,nbR,upd,vI,cond_true,cond_false,if_true,Bool.false_eq_true,if_false,hbk,G,g4,g5,List.length_map,insc_fam_lt,zdf,araG_upd,Nat.reduceLT,Nat.reduceEqDiff,List.cons_append,List.nil_append,List.append_nil]))
   · skip
     have H:=upT hdn hde [0] (by decide +kernel)
     have G:=dnT hdn hbk [3,6,7] (by decide +kernel)
     simp only [allB,and_true] at H G
     cases g4 : b 4 <;> cases g5 : b 5
     all_goals (simp only [go_sem,nbF,nbR,upd,vI,cond_true,cond_false,if_true,Bool.false_eq_true,if_false,hbk,H,G,g4,g5,List.length_map,insc_fam_lt,zdf,araG_upd,Nat.reduceLT,Nat.reduceEqDiff,List.cons_append,List.nil_append,List.append_nil])
     all_goals refine own_call (r:=R) rfl hN0.1 (by omega) hN1 (by simp) fun vs' hvs'=>?_
     all_goals (have g6:=hvs' 6 (by omega);have g7:=hvs' 7 (by omega);simp only [go_sem,← g6,← g7,List.cons_append,List.nil_append])
     all_goals (refine zj [] ?_ ?_ <;> (simp only [go_sem,nbF,nbR,upd,vI,cond_true,cond_false,if_true,Bool.false_eq_true,if_false,hbk,H,G,g4,g5,List.length_map,insc_fam_lt,zdf,araG_upd,Nat.reduceLT,Nat.reduceEqDiff,List.cons_append,List.nil_append,List.append_nil]))
   · skip
     have G:=dnT hdn hbk [3,7,6] (by decide +kernel)
     simp only [allB,and_true] at G
     cases g1 : b 1 <;> cases g4 : b 4 <;> cases g5 : b 5
     all_goals (simp only [go_sem,nbF,nbR,upd,vI,cond_true,cond_false,if_true,Bool.false_eq_true,if_false,hbk,G,g1,g4,g5,List.length_map,insc_fam_lt,zdf,araG_upd,Nat.reduceLT,Nat.reduceEqDiff,List.cons_append,List.nil_append,List.append_nil])
     all_goals (refine zj [] ?_ ?_ <;> (simp only [go_sem,nbF,nbR,upd,vI,cond_true,cond_false,if_true,Bool.false_eq_true,if_false,hbk,G,g1,g4,g5,List.length_map,insc_fam_lt,zdf,araG_upd,Nat.reduceLT,Nat.reduceEqDiff,List.cons_append,List.nil_append,List.append_nil]))
   · skip
     have H:=upT hdn hde [1,2,0] (by decide +kernel)
     have G:=dnT hdn hbk [6,7] (by decide +kernel)
     simp only [allB,and_true] at H G
     cases g4 : b 4 <;> cases g5 : b 5
     all_goals (simp only [go_sem,nbF,nbR,upd,vI,cond_true,cond_false,if_true,Bool.false_eq_true,if_false,hbk,H,G,g4,g5,List.length_map,insc_fam_lt,zdf,araG_upd,Nat.reduceLT,Nat.reduceEqDiff,List.cons_append,List.nil_append,List.append_nil])
     all_goals (refine xcall_new harr [(40,41)] rfl (by rfl) (by rfl) (by rfl) (by rfl) (by rfl) ?_;simp only [go_sem,idK,backA,backC,backL,pinOf,zLk,List.length_map,insc_fam_lt,zdf,araG_upd,Nat.reduceLT,Nat.reduceEqDiff,List.cons_append,List.nil_append,List.append_nil])
     all_goals (refine zj [] ?_ ?_ <;> (simp only [go_sem,nbF,nbR,upd,vI,cond_true,cond_false,if_true,Bool.false_eq_true,if_false,hbk,H,G,g4,g5,List.length_map,insc_fam_lt,zdf,araG_upd,Nat.reduceLT,Nat.reduceEqDiff,List.cons_append,List.nil_append,List.append_nil]))
   · skip
     have G:=dnT hdn hbk [6,7] (by decide +kernel)
     simp only [allB,and_true] at G
     cases g1 : b 1 <;> cases g3 : b 3 <;> cases g5 : b 5
     all_goals (simp only [go_sem,nbF,nbR,upd,vI,cond_true,cond_false,if_true,Bool.false_eq_true,if_false,hbk,G,g1,g3,g5,List.length_map,insc_fam_lt,zdf,araG_upd,Nat.reduceLT,Nat.reduceEqDiff,List.cons_append,List.nil_append,List.append_nil])
     all_goals (refine zj [] ?_ ?_ <;> (simp only [go_sem,nbF,nbR,upd,vI,cond_true,cond_false,if_true,Bool.false_eq_true,if_false,hbk,G,g1,g3,g5,List.length_map,insc_fam_lt,zdf,araG_upd,Nat.reduceLT,Nat.reduceEqDiff,List.cons_append,List.nil_append,List.append_nil]))
   · skip
     have G:=dnT hdn hbk [6,7] (by decide +kernel)
     simp only [allB,and_true] at G
     cases g1 : b 1 <;> cases g3 : b 3 <;> cases g4 : b 4
     all_goals (simp only [go_sem,nbF,nbR,upd,vI,cond_true,cond_false,if_true,Bool.false_eq_true,if_false,hbk,G,g1,g3,g4,List.length_map,insc_fam_lt,zdf,araG_upd,Nat.reduceLT,Nat.reduceEqDiff,List.cons_append,List.nil_append,List.append_nil])
     all_goals (refine zj [] ?_ ?_ <;> (simp only [go_sem,nbF,nbR,upd,vI,cond_true,cond_false,if_true,Bool.false_eq_true,if_false,hbk,G,g1,g3,g4,List.length_map,insc_fam_lt,zdf,araG_upd,Nat.reduceLT,Nat.reduceEqDiff,List.cons_append,List.nil_append,List.append_nil]))
   · skip
     have H:=upT hdn hde [0,1,1,3,4,4,5,2] (by decide +kernel)
     have G:=dnT hdn hbk [7] (by decide +kernel)
     simp only [allB,and_true] at H G
     (simp only [go_sem,nbF,nbR,upd,vI,cond_true,cond_false,if_true,Bool.false_eq_true,if_false,hbk,H,G,List.length_map,insc_fam_lt,zdf,araG_upd,Nat.reduceLT,Nat.reduceEqDiff,List.cons_append,List.nil_append,List.append_nil])
     all_goals (refine zj [] ?_ ?_ <;> (simp only [go_sem,nbF,nbR,upd,vI,cond_true,cond_false,if_true,Bool.false_eq_true,if_false,hbk,H,G,List.length_map,insc_fam_lt,zdf,araG_upd,Nat.reduceLT,Nat.reduceEqDiff,List.cons_append,List.nil_append,List.append_nil]))
   · skip
     have H:=upT hdn hde [0,1,2,3,3,4,5,5,6,6] (by decide +kernel)
     simp only [allB,and_true] at H
     (simp only [go_sem,nbF,nbR,upd,vI,cond_true,cond_false,if_true,Bool.false_eq_true,if_false,hbk,H,List.length_map,insc_fam_lt,zdf,araG_upd,Nat.reduceLT,Nat.reduceEqDiff,List.cons_append,List.nil_append,List.append_nil])
     all_goals (refine zj [] ?_ ?_ <;> (simp only [go_sem,nbF,nbR,upd,vI,cond_true,cond_false,if_true,Bool.false_eq_true,if_false,hbk,H,List.length_map,insc_fam_lt,zdf,araG_upd,Nat.reduceLT,Nat.reduceEqDiff,List.cons_append,List.nil_append,List.append_nil]))
 intro b vs hb'
 simp only [go_sem,nbF,nbR,vI,hb',if_true,cond_true,List.cons_append,List.nil_append];refine zw (zk [1,5,6,7]) ?_;simp only [go_sem]
 have hnl : ∀ i a,a ≤ 600 → (i + 600 < a) = False:=fun i a h=>by simp only [eq_iff_iff,iff_false];omega
 have dl : ∀ (F : Nat → RowC) n k,k < 600 → delc (fam F n) k = fam F n:=fun F n k h=>zdf h
 repeat refine zq ?_
 refine zb fun K hK=>?_;simp only [go_sem];refine hK _ ?_;clear hK K;refine zw (zk [1,5,6,7,8]) ?_;simp only [go_sem];refine zd ?_
 refine zuv (n:=259) R.aims.length (fun i vs=>[(1,.r (u8s bs)),(5,.r (.rp [i64 R.d,aimsR R.aims,i64 R.start,i64 R.out])),(6,.pt 6 (vs 6) 0),(7,.pt 7 (vs 7) 0),(8,.r (i64 (i : Int)))])
  (fun i vs=>(6,.box [.r (i64 R.d),.os 40 (vs 40) 2 0 R.aims.length,.r (i64 R.start),.r (i64 R.out)]) :: (7,.box [.r (i64 R.d),.os 41 (vs 41) 2 0 R.aims.length,.r (i64 R.start),.r (i64 R.out)]) :: (40,.ara 63 2 (araG (lA R.aims) vs R.aims.length)) :: (41,.arr 63 2 (R.aims.map aimR)) :: fam (famG (mixA bs (lA R.aims) i)) R.aims.length) (fun _=>True) 0 (zj [] ?_ ?_) (Nat.zero_le _) trivial ?_
 · try simp only [go_sem]
 · simp only [mixA_zero,go_sem,araG_upd,Nat.reduceLT,dl]
   try rfl
 intro i vs hi _
 by_cases hci : i < R.aims.length
 · obtain ⟨a,ha⟩:=zol hci
   have ham:=zmo ha
   have hat24:=h24 a ham
   have htr:=truthA_ok a bs i hat24 hb (by omega)
   have hty:=hat24.truth hb i
   have hlen:=hat24.len
   have hbd:=hat24.ok.each
   have hla:=lA_at ha
   have hat : ∀ vs,(araG (lA R.aims) vs R.aims.length)[i * 2 + 1]? = some (.os (i + 600) (vs (i + 600)) 3 0 a.beds.length):=fun vs=>by rw [araG_at hci,hla]
   obtain ⟨F,hF⟩ : ∃ F,F = famG (mixA bs (lA R.aims) i):=⟨_,rfl⟩
   have hFi : F i = .arr 68 3 (a.beds.map bedR):=by rw [hF];unfold famG mixA;rw [if_neg (by omega),hla]
   have hF0 : fam F R.aims.length = fam (upd F i (.arr 68 3 (a.beds.map bedR))) R.aims.length:=by rw [← hFi,upd_self]
   have hlk : ∀ c,lookc (fam (upd F i c) R.aims.length) (i + 600) = c:=fun c=>by rw [lookc_fam hci,zus]
   have his : ∀ c d,insc (fam (upd F i c) R.aims.length) (i + 600) d = fam (upd F i d) R.aims.length:=fun c d=>by rw [insc_fam hci,upd_upd]
   rw [← hF,hF0]
   repeat refine zq ?_
   refine zb fun K hK=>?_;simp only [go_sem,hci]
   intro _
   refine hK _ ?_;clear hK K;refine zw (zk [1,5,6,7,8,34]) ?_;simp only [go_sem]
   refine zc rfl (fun hc=>?_) (fun hc=>?_) <;> (try simp only [go_sem] at hc)
   refine zx ?_
   try simp only [go_sem]
   refine zq ?_
   refine zd ?_
   refine zq ?_
   refine zb fun K hK=>?_;simp only [go_sem,ha,hci,aimR,List.length_map]
   refine zh (htr) rfl (by simp only [go_sem,i64,ints]) (by simp only [go_sem,i64,ints]) (by first | exact .inl rfl | exact .inr rfl) ?_
   (try simp only [go_sem]);refine hK _ ?_;clear hK K;refine zw (zk [1,5,6,7,8,9]) ?_;simp only [go_sem]
   refine zq ?_
   refine zb fun K hK=>?_;simp only [go_sem];refine hK _ ?_;clear hK K;refine zw (zk [1,5,6,7,8,9,10]) ?_;simp only [go_sem]
   obtain ⟨y,hy⟩ : ∃ y,y = truthT a.beds bs i 24:=⟨_,rfl⟩
   rw [← hy] at hty ⊢
   have hyl:=hty.len
   have hnl':=nar8_len y bs a.beds
   refine zd ?_
   refine zuv (n:=259) a.beds.length (fun k vs=>[(1,.r (u8s bs)),(5,.r (.rp [i64 R.d,aimsR R.aims,i64 R.start,i64 R.out])),(6,.pt 6 (vs 6) 0),(7,.pt 7 (vs 7) 0),(8,.r (i64 (i : Int))),(9,.r (ints y)),(10,.r (i64 (k : Int)))])
    (fun k vs=>(6,.box [.r (i64 R.d),.os 40 (vs 40) 2 0 R.aims.length,.r (i64 R.start),.r (i64 R.out)]) :: (7,.box [.r (i64 R.d),.os 41 (vs 41) 2 0 R.aims.length,.r (i64 R.start),.r (i64 R.out)]) :: (40,.ara 63 2 (araG (lA R.aims) vs R.aims.length)) :: (41,.arr 63 2 (R.aims.map aimR)) :: fam (upd F i (.arr 68 3 ((mixL (nar8 y bs a.beds) a.beds k).map bedR))) R.aims.length) (fun _=>True) 0 (zj [] ?_ ?_) (Nat.zero_le _) trivial ?_
   · try simp only [go_sem]
   · have e0 : mixL (nar8 y bs a.beds) a.beds 0 = a.beds:=by simp [mixL]
     rw [e0]
     try rfl
   intro k vs hk _
   by_cases hck : k < a.beds.length
   · obtain ⟨c,hc1⟩:=zol hck
     obtain ⟨v,hv⟩:=zol (show k < y.length by omega)
     have hvD : y.getD k 0 = v:=by rw [List.getD_eq_getElem?_getD,hv];rfl
     have hbc : bAt a.beds k = c:=by unfold bAt;rw [List.getD_eq_getElem?_getD,hc1];rfl
     have hle2:=hty.each k hck
     rw [hbc,hvD] at hle2
     have hbdc:=hbd c (zmo hc1)
     have hmg:=mixL_get (l':=nar8 y bs a.beds) hnl' hc1
     have hng : (nar8 y bs a.beds)[k]? = some (narB8 v (byteL bs (k + 2)) (byteL bs (k + 3)) c):=by
      unfold nar8
      rw [List.getElem?_map,List.getElem?_range hck,← hvD,← hbc];rfl
     have hms:=mixL_set (l:=a.beds) hnl' hng
     have hmln:=mixL_len (k:=k) hnl'
     generalize mixL (nar8 y bs a.beds) a.beds k = X at hmg hms hmln ⊢
     have hkX : k < X.length:=by omega
     have hky : k < y.length:=by omega
     have hset : ∀ x,((X.map bedR).set k x)[k]? = some x:=fun x=>List.getElem?_set_self (by rw [List.length_map];exact hkX)
     have hsetD : ∀ x,((X.map bedR).set k x).getD k [] = x:=fun x=>by rw [List.getD_eq_getElem?_getD,hset];rfl
     have hb1:=byteL_le hb (k + 2)
     have hb2:=byteL_le hb (k + 3)
     have hy1:=byteOf_ok bs (k + 2)
     have hy2:=byteOf_ok bs (k + 3)
     have ek2 : ((k + 2 : Nat) : Int) = (k : Int) + 2:=by omega
     have ek3 : ((k + 3 : Nat) : Int) = (k : Int) + 3:=by omega
     rw [ek2] at hy1
     rw [ek3] at hy2
     generalize byteL bs (k + 2) = g1 at *
     generalize byteL bs (k + 3) = g2 at *
     have hhd : ∀ vs,(List.drop (i * 2 + 1) (araG (lA R.aims) vs R.aims.length)).headD (AV.r RV.un) = .os (i + 600) (vs (i + 600)) 3 0 a.beds.length:=fun vs=>by
      rw [List.headD_eq_head?_getD,List.head?_drop,hat];rfl
     have hki : ∀ a,a < 600 → (i + 600 = a) = False:=fun a h=>by simp only [eq_iff_iff,iff_false];omega
     repeat refine zq ?_
     refine zb fun K hK=>?_;simp only [go_sem,List.length_map,hky]
     intro _
     refine hK _ ?_;clear hK K;refine zw (zk [1,5,6,7,8,9,10,49]) ?_;simp only [go_sem]
     refine zc rfl (fun hc=>?_) (fun hc=>?_) <;> (try simp only [go_sem] at hc)
     refine zx ?_
     try simp only [go_sem]
     refine zq ?_
     refine zd ?_
     refine zq ?_
     refine zb fun K hK=>?_;simp only [go_sem,hat,hci,hal0,hhd]
     repeat refine ⟨by omega,?_⟩
     refine hK _ ?_;clear hK K;refine zw (zk [1,5,6,7,8,9,10,11]) ?_;simp only [go_sem]
     have q1:=scale_le (x:=v - c.lo) (b:=g1) (by omega) hb1
     have q2:=scale_le (x:=c.hi - v) (b:=g2) (by omega) hb2
     have m1 : 0 ≤ (v - c.lo) * g1 ∧ (v - c.lo) * g1 ≤ 3000 * 255:=⟨Int.mul_nonneg (by omega) hb1.1,Int.le_trans (Int.mul_le_mul_of_nonneg_left hb1.2 (show 0 ≤ v - c.lo by omega)) (by omega)⟩
     have m2 : 0 ≤ (c.hi - v) * g2 ∧ (c.hi - v) * g2 ≤ 3000 * 255:=⟨Int.mul_nonneg (by omega) hb2.1,Int.le_trans (Int.mul_le_mul_of_nonneg_left hb2.2 (show 0 ≤ c.hi - v by omega)) (by omega)⟩
     have w1 : IntKind.i64.wrap (v - c.lo) = v - c.lo:=by rw [zI] <;> omega
     have w2 : IntKind.i64.wrap (c.hi - v) = c.hi - v:=by rw [zI] <;> omega
     have w3 : IntKind.i64.wrap ((v - c.lo) * g1) = (v - c.lo) * g1:=by rw [zI] <;> omega
     have w4 : IntKind.i64.wrap ((c.hi - v) * g2) = (c.hi - v) * g2:=by rw [zI] <;> omega
     have w5 : IntKind.i64.wrap g1 = g1:=by rw [zI] <;> omega
     have w6 : IntKind.i64.wrap g2 = g2:=by rw [zI] <;> omega
     have t1 : ((v - c.lo) * g1).tdiv 255 = (v - c.lo) * g1 / 255:=Int.tdiv_eq_ediv_of_nonneg m1.1
     have t2 : ((c.hi - v) * g2).tdiv 255 = (c.hi - v) * g2 / 255:=Int.tdiv_eq_ediv_of_nonneg m2.1
     have w7 : IntKind.i64.wrap ((v - c.lo) * g1 / 255) = (v - c.lo) * g1 / 255:=by rw [zI] <;> omega
     have w8 : IntKind.i64.wrap ((c.hi - v) * g2 / 255) = (c.hi - v) * g2 / 255:=by rw [zI] <;> omega
     have w9 : IntKind.i64.wrap (v - (v - c.lo) * g1 / 255) = v - (v - c.lo) * g1 / 255:=by rw [zI] <;> omega
     have w10 : IntKind.i64.wrap (v + (c.hi - v) * g2 / 255) = v + (c.hi - v) * g2 / 255:=by rw [zI] <;> omega
     have w11 : IntKind.i64.wrap ((k : Int) + 2) = (k : Int) + 2:=by rw [zI] <;> omega
     have w12 : IntKind.i64.wrap ((k : Int) + 3) = (k : Int) + 3:=by rw [zI] <;> omega
     have w13 : IntKind.i64.wrap ((k : Int) + 1) = (k : Int) + 1:=by rw [zI] <;> omega
     refine zg follows (by decide +kernel) (by kernel_rfl) fun K hK=>?_;simp only [go_sem,hlk,his,hmg,hkX,hky,hmln,bedR,List.length_map,hv,w1,w2,w3,w4,w5,w6,t1,t2,w7,w8,w9,w10,w11,w12,hki,Nat.reduceLT]
     refine zh (hy1) rfl (by simp only [go_sem,i64,ints,w1,w2,w3,w4,w5,w6,t1,t2,w7,w8,w9,w10,w11,w12,hlk,his,hmg,hkX,hmln,bedR,List.length_map,hv,hki,Nat.reduceLT,hnl,Nat.reduceLeDiff,hset,hsetD,List.set_set,List.length_set,List.set_cons_zero,List.set_cons_succ,List.take_succ_cons,List.take_zero,List.drop_succ_cons,List.drop_zero,hky]) (by simp only [go_sem,i64,ints,w1,w2,w3,w4,w5,w6,t1,t2,w7,w8,w9,w10,w11,w12,hlk,his,hmg,hkX,hmln,bedR,List.length_map,hv,hki,Nat.reduceLT,hnl,Nat.reduceLeDiff,hset,hsetD,List.set_set,List.length_set,List.set_cons_zero,List.set_cons_succ,List.take_succ_cons,List.take_zero,List.drop_succ_cons,List.drop_zero,hky]) (by first | exact .inl rfl | exact .inr rfl) ?_
     (try simp only [go_sem,w1,w2,w3,w4,w5,w6,t1,t2,w7,w8,w9,w10,w11,w12,hlk,his,hmg,hkX,hmln,bedR,List.length_map,hv,hki,Nat.reduceLT,hnl,Nat.reduceLeDiff,hset,hsetD,List.set_set,List.length_set,List.set_cons_zero,List.set_cons_succ,List.take_succ_cons,List.take_zero,List.drop_succ_cons,List.drop_zero,hky])
     refine zh (hy2) rfl (by simp only [go_sem,i64,ints,w1,w2,w3,w4,w5,w6,t1,t2,w7,w8,w9,w10,w11,w12,hlk,his,hmg,hkX,hmln,bedR,List.length_map,hv,hki,Nat.reduceLT,hnl,Nat.reduceLeDiff,hset,hsetD,List.set_set,List.length_set,List.set_cons_zero,List.set_cons_succ,List.take_succ_cons,List.take_zero,List.drop_succ_cons,List.drop_zero,hky]) (by simp only [go_sem,i64,ints,w1,w2,w3,w4,w5,w6,t1,t2,w7,w8,w9,w10,w11,w12,hlk,his,hmg,hkX,hmln,bedR,List.length_map,hv,hki,Nat.reduceLT,hnl,Nat.reduceLeDiff,hset,hsetD,List.set_set,List.length_set,List.set_cons_zero,List.set_cons_succ,List.take_succ_cons,List.take_zero,List.drop_succ_cons,List.drop_zero,hky]) (by first | exact .inl rfl | exact .inr rfl) ?_
     (try simp only [go_sem,w1,w2,w3,w4,w5,w6,t1,t2,w7,w8,w9,w10,w11,w12,hlk,his,hmg,hkX,hmln,bedR,List.length_map,hv,hki,Nat.reduceLT,hnl,Nat.reduceLeDiff,hset,hsetD,List.set_set,List.length_set,List.set_cons_zero,List.set_cons_succ,List.take_succ_cons,List.take_zero,List.drop_succ_cons,List.drop_zero,hky])
     repeat refine ⟨by omega,?_⟩
     refine hK _ ?_;clear hK K;refine zw (zk [1,5,6,7,8,9,10]) ?_;simp only [go_sem];refine zb fun K hK=>?_;simp only [go_sem,w13];refine hK _ ?_;clear hK K
     try simp only [go_sem]
     refine ⟨by omega,zj [] ?_ ?_⟩
     · try simp only [go_sem]
     · simp only [go_sem];rw [← hms,List.map_set]
       rfl
   · have hke : k = a.beds.length:=by omega
     subst hke
     have hfull : mixL (nar8 y bs a.beds) a.beds a.beds.length = nar8 y bs a.beds:=by
      unfold mixL
      rw [List.take_of_length_le (by omega),List.drop_eq_nil_of_le (by omega),List.append_nil]
     rw [hfull]
     have hfam : fam (upd F i (.arr 68 3 ((nar8 y bs a.beds).map bedR))) R.aims.length = fam (famG (mixA bs (lA R.aims) (i + 1))) R.aims.length:=fam_congr fun j hj=>by
      unfold upd
      by_cases e : j = i
      · rw [if_pos e,e];unfold famG mixA;rw [if_pos (by omega),hla,hy];rfl
      · rw [if_neg e,hF];unfold famG mixA
        by_cases e2 : j < i
        · rw [if_pos e2,if_pos (by omega)]
        · rw [if_neg e2,if_neg (by omega)]
     rw [hfam]
     have hkn2 : ¬ a.beds.length < y.length:=by omega
     repeat refine zq ?_
     refine zb fun K hK=>?_;simp only [go_sem,List.length_map,hkn2]
     intro _
     refine hK _ ?_;clear hK K;refine zw (zk [1,5,6,7,8,9,10,49]) ?_;simp only [go_sem]
     refine zc rfl (fun hc=>?_) (fun hc=>?_) <;> (try simp only [go_sem] at hc)
     refine zf ?_;simp only [go_sem]
     have wi : IntKind.i64.wrap ((i : Int) + 1) = (i : Int) + 1:=by rw [zI] <;> omega
     refine zb fun K hK=>?_;simp only [go_sem,wi];refine hK _ ?_;clear hK K
     try simp only [go_sem]
     refine ⟨hci,zj [] ?_ ?_⟩
     · try simp only [go_sem]
     · try simp only [go_sem]
       try rfl
 have hie : i = R.aims.length:=by omega
 subst hie
 have hpl:=plF_law8 bs R.aims
 have hfl : ∀ j,j < R.aims.length → (mixA bs (lA R.aims) R.aims.length j).beds.length = (lA R.aims j).beds.length:=fun j hj=>by
  unfold mixA;rw [if_pos hj];exact nar8_len _ _ _
 have lNA : (narAt bs R.aims).length = R.aims.length:=narAt_len bs R.aims
 repeat refine zq ?_
 refine zb fun K hK=>?_;simp only [go_sem,Nat.lt_irrefl]
 intro _
 refine hK _ ?_;clear hK K;refine zw (zk [5,6,7,34]) ?_;simp only [go_sem]
 refine zc rfl (fun hc=>?_) (fun hc=>?_) <;> (try simp only [go_sem] at hc)
 refine zf ?_;simp only [go_sem];refine zw (zk [5,6,7]) ?_;simp only [go_sem]
 obtain ⟨vs',hv,hs⟩:=frz_law2 (n:=259) (l:=[(5,AV.r (.rp [i64 R.d,aimsR R.aims,i64 R.start,i64 R.out])),(6,AV.pt 6 (vs 6) 0),(7,AV.pt 7 (vs 7) 0)]) (A:=lA R.aims) (F:=mixA bs (lA R.aims) R.aims.length) (c6:=.box [.r (i64 R.d),.os 40 (vs 40) 2 0 R.aims.length,.r (i64 R.start),.r (i64 R.out)]) (c7:=.box [.r (i64 R.d),.os 41 (vs 41) 2 0 R.aims.length,.r (i64 R.start),.r (i64 R.out)]) (c41:=.arr 63 2 (R.aims.map aimR)) R.aims.length (by omega) hfl vs []
 rw [List.append_nil,List.append_nil] at hs
 refine zw hs ?_;rw [← hv 6 (by omega),← hv 7 (by omega),← hv 40 (by omega),← hv 41 (by omega),hpl]
 refine zw (sub_arr 40 (ty:=63) (sz:=2) ((narAt bs R.aims).map aimR) rfl rfl (fun e he=>by obtain ⟨a,_,rfl⟩:=List.mem_map.1 he;rfl) (by omega)) ?_;refine zw (sub_frzB 6 1 40 (ty:=63) (sz:=2) (off:=0) (m:=R.aims.length) (es:=(narAt bs R.aims).map aimR) (cells:=[.r (i64 R.d),.os 40 (vs' 40) 2 0 R.aims.length,.r (i64 R.start),.r (i64 R.out)]) (by omega) (by omega) rfl rfl rfl (by simp [lNA])) ?_
 have e3 : (((narAt bs R.aims).map aimR).drop 0).take R.aims.length = (narAt bs R.aims).map aimR:=by
  rw [List.drop_zero,List.take_of_length_le (by simp [lNA])]
 rw [e3]
 simp only [go_sem,List.set_cons_succ,List.set_cons_zero];refine zw (zfP 6 6 [i64 R.d,aimsR (narAt bs R.aims),i64 R.start,i64 R.out] (by omega) rfl rfl) ?_;refine zw (zk [5,6,7]) ?_;simp only [go_sem]
 obtain ⟨last,hgl⟩:=zol (show R.aims.length - 1 < R.aims.length by omega)
 have hll : R.aims.length - 1 < R.aims.length:=by omega
 have wl1 : IntKind.i64.wrap ((R.aims.length : Int) - 1) = ((R.aims.length - 1 : Nat) : Int):=by rw [zI] <;> omega
 refine zq ?_
 refine zb fun K hK=>?_;simp only [go_sem,wl1,hgl,hll,aimR,List.length_map]
 intro _
 refine hK _ ?_;clear hK K;refine zw (zfP 12 12 [i64 last.at_,bedsR last.beds] (by omega) (by try simp only [go_sem]) (by try simp only [go_sem])) ?_;refine zw (zk [5,6,7,12]) ?_;simp only [go_sem]
 obtain ⟨n0,hn0⟩ : ∃ n0,n0 = narA bs 0 (lA R.aims 0):=⟨_,rfl⟩
 have hg0 : (narAt bs R.aims)[0]? = some n0:=by
  unfold narAt
  rw [List.getElem?_map,List.getElem?_range hn,hn0];rfl
 have hl0 : 0 < (narAt bs R.aims).length:=by omega
 refine zq ?_
 refine awp_dreg3 [(6,none),(7,some 7),(12,none)] [7] follows (by decide +kernel) (by kernel_rfl) (by simp only [keysOk,List.mem_cons,List.not_mem_nil,forall_eq_or_imp,Oc.keyOf,go_sem];simp) (by intro k hk;simp only [List.mem_cons,List.not_mem_nil,or_false] at hk;first | (subst hk;exact ⟨_,rfl⟩) | (rcases hk with rfl | rfl <;> exact ⟨_,rfl⟩) | (rcases hk with rfl | rfl | rfl <;> exact ⟨_,rfl⟩)) fun K hK=>?_
 simp only [go_sem,hg0,hl0,aimR,List.length_map]
 (try intros)
 (try refine ⟨⟨by omega,by omega⟩,?_⟩)
 repeat refine ⟨by omega,?_⟩
 refine hK _ ?_;clear hK K
 have hWe : List.map aimR R.aims ++ [[i64 last.at_,bedsR n0.beds]] = (moreK R bs).aims.map aimR:=by
  show _ = (R.aims ++ [moreA bs R.aims]).map aimR
  rw [List.map_append,hn0]
  unfold moreA
  rw [lA_at hgl];rfl
 rw [hWe]
 refine zw (sub_frzB 7 1 41 (ty:=63) (sz:=2) (off:=0) (m:=R.aims.length + 1) (es:=(moreK R bs).aims.map aimR) (by omega) (by omega) (by rfl) (by simp only [go_sem,List.getElem?_cons_succ,List.getElem?_cons_zero]) (by rfl) (by simp [lW])) ?_
 have e4 : (((moreK R bs).aims.map aimR).drop 0).take (R.aims.length + 1) = (moreK R bs).aims.map aimR:=by
  rw [List.drop_zero,List.take_of_length_le (by simp [lW])]
 rw [e4]
 simp only [go_sem,List.set_cons_succ,List.set_cons_zero];refine zw (zfP 7 7 [i64 R.d,aimsR (moreK R bs).aims,i64 R.start,i64 R.out] (by omega) (by try simp only [go_sem]) (by try simp only [go_sem])) ?_;refine zw (zk [5,6,7]) ?_;simp only [go_sem]
 have hownN' : ACalls Try.prog 15 [.ag [i64 R.d,aimsR (narAt bs R.aims),i64 R.start,i64 R.out]] (.ag [i64 R.d,aimsR (narAt bs R.aims),i64 R.start,i64 R.out]):=hownN
 have hownW' : ACalls Try.prog 15 [.ag [i64 R.d,aimsR (moreK R bs).aims,i64 R.start,i64 R.out]] (.ag [i64 R.d,aimsR (moreK R bs).aims,i64 R.start,i64 R.out]):=hownW
 have hup:=hall.up
 have hlw:=hall.lw
 have gU:=tabT_len hr false
 have gL:=tabT_len hr true
 have gV : ((tabT (narK R bs) false).length : Int) = R.start + 1:=tabT_len rN false
 have gM : ((tabT (narK R bs) true).length : Int) = R.start + 1:=tabT_len rN true
 have gW : ((tabT (moreK R bs) false).length : Int) = R.start + 1:=tabT_len rW false
 have gO : ((tabT (moreK R bs) true).length : Int) = R.start + 1:=tabT_len rW true
 have htbN' : ACalls Try.prog 17 [.ag [i64 R.d,aimsR (narAt bs R.aims),i64 R.start,i64 R.out]] (.tu [ints (tabT (narK R bs) false),ints (tabT (narK R bs) true),i64 0]):=htbN
 have htbW' : ACalls Try.prog 17 [.ag [i64 R.d,aimsR (moreK R bs).aims,i64 R.start,i64 R.out]] (.tu [ints (tabT (moreK R bs) false),ints (tabT (moreK R bs) true),i64 0]):=htbW
 have hrs:=hr.start
 generalize tabT R false = U at *
 generalize tabT R true = L at *
 generalize tabT (narK R bs) false = V2 at *
 generalize tabT (narK R bs) true = M2 at *
 generalize tabT (moreK R bs) false = W2 at *
 generalize tabT (moreK R bs) true = O2 at *
 obtain ⟨len,hlen⟩ : ∃ len : Nat,U.length = len:=⟨_,rfl⟩
 have lL : L.length = len:=by omega
 have lV : V2.length = len:=by omega
 have lM : M2.length = len:=by omega
 have lW2 : W2.length = len:=by omega
 have lO : O2.length = len:=by omega
 have ws : IntKind.i64.wrap (R.start + 1) = (len : Int):=by rw [zI] <;> omega
 have z0 : ((0 : Int) != 0) = false:=rfl
 have zl : ((len : Int) != (len : Int)) = false:=by simp
 refine zq ?_
 refine zb fun K hK=>?_;simp only [go_sem]
 refine zh (hown) rfl (by simp only [go_sem,i64,ints]) (by simp only [go_sem,i64,ints]) (by first | exact .inl rfl | exact .inr rfl) ?_
 (try simp only [go_sem])
 refine zh (htb) rfl (by simp only [go_sem,i64,ints]) (by simp only [go_sem,i64,ints]) (by first | exact .inl rfl | exact .inr rfl) ?_
 (try simp only [go_sem]);refine hK _ ?_;clear hK K;refine zw (zk [5,6,7,13,14,15]) ?_;simp only [go_sem]
 refine zq ?_
 refine zb fun K hK=>?_;simp only [go_sem]
 refine zh (hownN') rfl (by simp only [go_sem,i64,ints]) (by simp only [go_sem,i64,ints]) (by first | exact .inl rfl | exact .inr rfl) ?_
 (try simp only [go_sem])
 refine zh (htbN') rfl (by simp only [go_sem,i64,ints]) (by simp only [go_sem,i64,ints]) (by first | exact .inl rfl | exact .inr rfl) ?_
 (try simp only [go_sem]);refine hK _ ?_;clear hK K;refine zw (zk [5,7,13,14,15,16,17,18]) ?_;simp only [go_sem]
 refine zq ?_
 refine zb fun K hK=>?_;simp only [go_sem]
 refine zh (hownW') rfl (by simp only [go_sem,i64,ints]) (by simp only [go_sem,i64,ints]) (by first | exact .inl rfl | exact .inr rfl) ?_
 (try simp only [go_sem])
 refine zh (htbW') rfl (by simp only [go_sem,i64,ints]) (by simp only [go_sem,i64,ints]) (by first | exact .inl rfl | exact .inr rfl) ?_
 (try simp only [go_sem]);refine hK _ ?_;clear hK K;refine zw (zk [5,13,14,15,16,17,18,19,20,21]) ?_;simp only [go_sem]
 repeat refine zq ?_
 refine zb fun K hK=>?_;simp only [go_sem,z0,hlen,lL,lV,lM,lW2,lO,ws,zl,List.length_map]
 (try intros)
 refine hK _ ?_;clear hK K;refine zw (zk [13,14,16,17,19,20,209]) ?_;simp only [go_sem]
 refine zc rfl (fun hc=>?_) (fun hc=>?_) <;> (try simp only [go_sem] at hc)
 refine zx ?_
 try simp only [go_sem]
 repeat refine zq ?_
 refine zb fun K hK=>?_;simp only [go_sem];refine hK _ ?_;clear hK K;refine zw (zk [13,14,16,17,19,20,22]) ?_;simp only [go_sem];refine zd ?_
 refine zup (n:=259) len (fun s vs=>[(13,.r (ints U)),(14,.r (ints L)),(16,.r (ints V2)),(17,.r (ints M2)),(19,.r (ints W2)),(20,.r (ints O2)),(22,.r (i64 (s : Int)))])
  (fun s=>[]) (fun _=>True) 0 (zfo [] ?_ ?_) (Nat.zero_le _) trivial ?_
 · try simp only [go_sem]
 · try simp only [go_sem]
 intro s vs hs2 _
 by_cases hsl : s < len
 · obtain ⟨u,hu⟩:=zol (show s < U.length by omega)
   obtain ⟨l,hl⟩:=zol (show s < L.length by omega)
   obtain ⟨v,hv2⟩:=zol (show s < V2.length by omega)
   obtain ⟨m,hm⟩:=zol (show s < M2.length by omega)
   obtain ⟨w,hw⟩:=zol (show s < W2.length by omega)
   obtain ⟨p,hp⟩:=zol (show s < O2.length by omega)
   have g1:=hup s (by omega)
   have g2:=hlw s (by omega)
   simp only [List.getD_eq_getElem?_getD,hu,hl,hv2,hm,hw,hp,Option.getD_some] at g1 g2
   have c1 : decide (u < v) = false:=decide_eq_false (by omega)
   have c2 : decide (m < l) = false:=decide_eq_false (by omega)
   have c3 : decide (u < w) = false:=decide_eq_false (by omega)
   have c4 : decide (l < p) = false:=decide_eq_false (by omega)
   have ws1 : IntKind.i64.wrap ((s : Int) + 1) = (s : Int) + 1:=by rw [zI] <;> omega
   repeat refine zq ?_
   refine zb fun K hK=>?_;simp only [go_sem,hlen,hsl,List.length_map]
   intro _
   refine hK _ ?_;clear hK K;refine zw (zk [13,14,16,17,19,20,22,213]) ?_;simp only [go_sem]
   refine zc rfl (fun hc=>?_) (fun hc=>?_) <;> (try simp only [go_sem] at hc)
   refine zx ?_
   try simp only [go_sem]
   refine zq ?_
   refine zd ?_
   refine zq ?_
   refine zg follows (by decide +kernel) (by kernel_rfl) fun K hK=>?_;simp only [go_sem,hu,hl,hv2,hm,hw,hp,hlen,lL,lV,lM,lW2,lO,hsl,c1,c2,c3,c4,List.length_map];refine hK _ ?_;clear hK K;refine zw (zk [13,14,16,17,19,20,22,257]) ?_;simp only [go_sem]
   refine zc rfl (fun hc=>?_) (fun hc=>?_) <;> (try simp only [go_sem] at hc)
   refine zx ?_
   try simp only [go_sem]
   refine zb fun K hK=>?_;simp only [go_sem,ws1];refine hK _ ?_;clear hK K
   try simp only [go_sem]
   refine ⟨hsl,zfo [] ?_ ?_⟩
   · try simp only [go_sem]
   · try simp only [go_sem]
 · have hse : s = len:=by omega
   subst hse
   repeat refine zq ?_
   refine zb fun K hK=>?_;simp only [go_sem,hlen,Nat.lt_irrefl,List.length_map]
   intro _
   refine hK _ ?_;clear hK K;refine zw (zk [213]) ?_;simp only [go_sem]
   refine zc rfl (fun hc=>?_) (fun hc=>?_) <;> (try simp only [go_sem] at hc)
   refine zf ?_;simp only [go_sem]
   refine zq ?_
   refine zb fun K hK=>?_;simp only [go_sem]
   refine zh (hkn) rfl (by simp only [go_sem,i64,ints]) (by simp only [go_sem,i64,ints]) (by first | exact .inl rfl | exact .inr rfl) ?_
   (try simp only [go_sem]);refine hK _ ?_;clear hK K;refine zw (zk [4]) ?_;simp only [go_sem];refine ze ?_;simp only [go_sem]
end Go.Proofs.Ytgfbenanljjgaaa.Du.Th.Ai

namespace Go.Oc
open Go Go.RowKit Go.ChangeShapes Go.WideShapes
inductive Sh where
 | int (k : IntKind)
 | bool
 | sl (es : List Sh)
def fieldsSh (P : Program) (sh : TypeId → Option (List Sh)) : List Field → Nat → Option (List Sh)
 | [],_=>some []
 | f :: fs, o =>
   match sh f.type with
   | some ss=>if f.offset == o && ss.length == P.cellsOf f.type then match fieldsSh P sh fs (o + ss.length) with | some q=>some (ss ++ q) | none=>none else none
   | none=>none
def shape (P : Program) : Nat → TypeId → Option (List Sh)
 | 0,_=>none
 | n + 1, t =>
   match P.underlying t with
   | some (.int k)=>some [.int k]
   | some .bool=>some [.bool]
   | some (.slice e) =>
     match shape P n e with
     | some ss=>if ss.length == P.cellsOf e && decide (0 < ss.length) then some [.sl ss] else none
     | none=>none
   | some (.array m e) =>
     match shape P n e with
     | some ss=>if ss.length == P.cellsOf e && P.cellsOf t == m * ss.length then some (List.replicate m ss).flatten else none
     | none=>none
   | some (.struct fs) =>
     match fieldsSh P (shape P n) fs.toList 0 with
     | some ss=>if ss.length == P.cellsOf t then some ss else none
     | none=>none
   | _=>none
mutual
def Fits : Sh → RV → Prop
 | .int k,x=>∃ n,x = .it k n ∧ (Lit.int k n).wf = true
 | .bool,x=>∃ b,x = .bo b
 | .sl ss,x=>∃ es,x = .sl ss.length es ∧ FitsE ss es
def FitsL : List Sh → List RV → Prop
 | [],xs=>xs = []
 | s :: ss,xs=>∃ y ys,xs = y :: ys ∧ Fits s y ∧ FitsL ss ys
def FitsE (ss : List Sh) : List (List RV) → Prop
 | []=>True
 | e :: es=>FitsL ss e ∧ FitsE ss es
end
theorem fitsL_append : ∀ {s1 s2 : List Sh} {x1 x2 : List RV},FitsL s1 x1 → FitsL s2 x2 → FitsL (s1 ++ s2) (x1 ++ x2)
 | [],_,_,_,h1,h2=>by simp only [FitsL] at h1;subst h1;simpa using h2
 | s :: ss, s2, x1, x2, h1, h2 => by
   simp only [FitsL] at h1
   obtain ⟨y,ys,rfl,h3,h4⟩:=h1
   simp only [List.cons_append,FitsL];exact ⟨y,_,rfl,h3,fitsL_append h4 h2⟩
theorem fitsL_length : ∀ {ss : List Sh} {xs : List RV},FitsL ss xs → xs.length = ss.length
 | [],_,h=>by simp only [FitsL] at h;subst h;rfl
 | s :: ss, _, h => by
   simp only [FitsL] at h
   obtain ⟨y,ys,rfl,_,h⟩:=h
   simp [fitsL_length h]
theorem fitsE_of : ∀ {ss : List Sh} {es : List (List RV)},(∀ e ∈ es,FitsL ss e) → FitsE ss es
 | _,[],_=>by simp only [FitsE]
 | ss,e :: es,h=>by simp only [FitsE];exact ⟨h e (by simp),fitsE_of fun x hx=>h x (by simp [hx])⟩
theorem choice {α : Type} {Q : Nat → α → Prop} : ∀ (n : Nat),(∀ i,i < n → ∃ x,Q i x) → ∃ xs : List α,xs.length = n ∧ ∀ i x,xs[i]? = some x → Q i x
 | 0,_=>⟨[],rfl,by simp⟩
 | n + 1, h => by
   obtain ⟨xs,hl,hx⟩:=choice n fun i hi=>h i (by omega)
   obtain ⟨y,hy⟩:=h n (by omega)
   refine ⟨xs ++ [y],by simp [hl],fun i x hi=>?_⟩
   by_cases h1 : i < n
   · rw [List.getElem?_append_left (by omega)] at hi;exact hx i x hi
   · rw [List.getElem?_append_right (by omega)] at hi
     have : i = n:=by have:=(List.getElem?_eq_some_iff.1 hi).1;simp at this;omega
     subst this
     simp [hl] at hi
     exact hi ▸ hy
section
variable {w : World} {P : Program}
theorem cells?_get {base n : Nat} {a : Addr} {cs : List Value} (h : w.cells? base a n = some cs) : cs.length = n ∧ ∀ i,i < n → w.cell? (a.add i) = cs[i]?:=by
 unfold World.cells? at h
 split at h
 · exact ⟨by simpa using mapM_some_length h,fun i hi=>mapM_some_get h i i (by simp [hi])⟩
 · cases h
theorem cell_lt {a : Addr} {v : Value} (h : w.cell? a = some v) : a.block < w.heap.size:=by
 refine Decidable.byContradiction fun hn=>?_
 have : w.heap[a.block]? = none:=by simp;omega
 simp [World.cell?,this] at h
def old (w : World) : Nat → Prop:=fun b=>b < w.heap.size
theorem relC_of_cells {xs : List RV} {cs : List Value} {ad : Addr} (hV : RV.relV w (old w) xs cs) (hone : ∀ u ∈ cs,u.oneCell' = true) (hc : ∀ i,i < cs.length → w.cell? (ad.add i) = cs[i]?) : RV.relC w (old w) xs ad 0:=by
 refine RV.relC_of_get fun i x hx=>?_
 obtain ⟨u,hu,hr⟩:=RV.relV_get hV hx
 have hi:=(List.getElem?_eq_some_iff.1 hu).1
 refine ⟨u,?_,hone u (List.mem_of_getElem? hu),hr⟩
 rw [Nat.zero_add,hc i hi,hu]
variable {H : Type} {enc : TypeId × Value → H} {base : Nat} {spare : Nat → Bool} {held : Bool}
def Good3 (w : World) (ss : List Sh) (cs : List Value) : Prop:=∃ xs,FitsL ss xs ∧ RV.relV w (old w) xs cs ∧ ∀ u ∈ cs,u.oneCell' = true
theorem good3_append {s1 s2 : List Sh} {c1 c2 : List Value} (h1 : Good3 w s1 c1) (h2 : Good3 w s2 c2) : Good3 w (s1 ++ s2) (c1 ++ c2):=by
 obtain ⟨x1,f1,r1,o1⟩:=h1
 obtain ⟨x2,f2,r2,o2⟩:=h2
 refine ⟨x1 ++ x2,fitsL_append f1 f2,RV.relV_append r1 r2,fun u hu=>?_⟩
 rcases List.mem_append.1 hu with hu | hu
 · exact o1 u hu
 · exact o2 u hu
theorem trod_fits : ∀ (fuel n : Nat) (t : TypeId) (cs : List Value) (x : DataW H × List MemPlace) (ss : List Sh),DataW.trod enc P w base spare held fuel t cs = some x → shape P n t = some ss → Good3 w ss cs:=by
 intro fuel
 induction fuel with
 | zero=>intro n t cs x ss h;simp [DataW.trod] at h
 | succ fuel ih =>
   intro n t cs x ss h hs
   cases n with
   | zero=>simp [shape] at hs
   | succ n =>
     unfold shape at hs
     split at hs
     · rename_i k ht
       injection hs with hs;subst hs
       obtain ⟨m,rfl,_,hw⟩:=DataW.trod_int ht h
       exact ⟨[.it k m],by simp only [FitsL,Fits];exact ⟨_,[],rfl,⟨m,rfl,hw⟩,rfl⟩,by simp only [RV.relV,RV.rel];exact ⟨_,[],rfl,rfl,rfl⟩,by simp [Value.oneCell']⟩
     · rename_i ht
       injection hs with hs;subst hs
       obtain ⟨b,rfl,_⟩:=DataW.trod_bool ht h
       exact ⟨[.bo b],by simp only [FitsL,Fits];exact ⟨_,[],rfl,⟨b,rfl⟩,rfl⟩,by simp only [RV.relV,RV.rel];exact ⟨_,[],rfl,rfl,rfl⟩,by simp [Value.oneCell']⟩
     · rename_i e ht
       split at hs
       · rename_i es hes
         split at hs
         · rename_i hc
           simp only [Bool.and_eq_true,beq_iff_eq,decide_eq_true_eq] at hc
           injection hs with hs;subst hs
           rcases DataW.trod_slice ht h with ⟨rfl,_⟩ | ⟨a,len,cap,elems,rest,m,hm,rfl,_,_,hlc,hcm,hel,hget,_⟩
           · refine ⟨[.sl es.length []],?_,?_,by simp [Value.oneCell']⟩
             · simp only [FitsL,Fits];exact ⟨_,[],rfl,⟨[],rfl,by simp only [FitsE]⟩,rfl⟩
             · simp only [RV.relV,RV.rel];exact ⟨_,[],rfl,⟨none,0,rfl,Nat.le_refl _,Nat.zero_le _,fun h=>absurd rfl h⟩,rfl⟩
           · injection hm with hm;subst hm
             have hall : ∀ i,i < len → ∃ e',FitsL es e' ∧ e'.length = es.length ∧ RV.relC w (old w) e' (a.add (i * es.length)) 0 ∧ a.block < w.heap.size:=fun i hi=>by
              have h1:=hget i hi
              have h2 : i < elems.length:=by omega
              rw [List.getElem?_eq_getElem h2] at h1
              obtain ⟨ci,hci,htr⟩:=Option.bind_eq_some_iff.1 h1
              rw [← hc.1] at hci
              obtain ⟨hl,hcell⟩:=cells?_get hci
              obtain ⟨xs,f,r,o⟩:=ih n e ci _ es htr hes
              refine ⟨xs,f,fitsL_length f,relC_of_cells r o (fun j hj=>hcell j (by omega)),?_⟩
              have h3:=hcell 0 hc.2
              have h4 : 0 < ci.length:=by omega
              rw [List.getElem?_eq_getElem h4] at h3
              have:=cell_lt h3
              rwa [block_add,block_add] at this
             obtain ⟨els,hlen,hels⟩:=choice len hall
             refine ⟨[.sl es.length els],?_,?_,by simp [Value.oneCell']⟩
             · simp only [FitsL,Fits]
               refine ⟨_,[],rfl,⟨els,rfl,fitsE_of fun e' he'=>?_⟩,rfl⟩
               obtain ⟨i,hi⟩:=List.getElem?_of_mem he'
               exact (hels i e' hi).1
             · simp only [RV.relV,RV.rel]
               refine ⟨_,[],rfl,⟨some a,cap,by rw [hlen],by omega,hcm,fun hne=>?_⟩,rfl⟩
               obtain ⟨e0,he0⟩ : ∃ e0,els[0]? = some e0:=by
                cases els with
                | nil=>exact absurd rfl hne
                | cons a l=>exact ⟨a,rfl⟩
               refine ⟨a,rfl,(hels 0 e0 he0).2.2.2,RV.relE_of_get fun i e' he'=>?_⟩
               obtain ⟨_,q1,q2,_⟩:=hels i e' he'
               exact ⟨q1,RV.relC_unbase _ q2⟩
         · cases hs
       · cases hs
     · rename_i m e ht
       split at hs
       · rename_i es hes
         split at hs
         · rename_i hc
           simp only [Bool.and_eq_true,beq_iff_eq] at hc
           injection hs with hs;subst hs
           obtain ⟨xs,fm,hm,_,hcl,hxl,hget⟩:=DataW.trod_array ht h
           injection hm with hm;subst hm
           have key : ∀ j,j ≤ m → Good3 w (List.replicate j es).flatten (cs.take (j * es.length)):=by
            intro j
            induction j with
            | zero=>intro _;exact ⟨[],by simp [FitsL],by simp [RV.relV],by simp⟩
            | succ j ihj =>
              intro hj
              have h1:=hget j (by omega)
              have h2 : j < xs.length:=by omega
              rw [List.getElem?_eq_getElem h2,← hc.1] at h1
              have h3:=ih n e _ _ es h1 hes
              have:=good3_append (ihj (by omega)) h3
              rw [← List.take_add] at this
              rw [List.replicate_succ',List.flatten_append,Nat.add_mul]
              simpa using this
           have:=key m (Nat.le_refl _)
           rwa [← hc.2,← hcl,List.take_length] at this
         · cases hs
       · cases hs
     · rename_i fs ht
       split at hs
       · rename_i q hq
         split at hs
         · rename_i hc
           simp only [beq_iff_eq] at hc
           injection hs with hs;subst hs
           obtain ⟨xs,fm,hm,_,hcl,hxl,hget⟩:=DataW.trod_struct ht h
           injection hm with hm;subst hm
           have key : ∀ (l : List Field) (o : Nat) (q : List Sh),(∀ f ∈ l,∃ y,DataW.trod enc P w base spare held fuel f.type ((cs.drop f.offset).take (P.cellsOf f.type)) = some y) → fieldsSh P (shape P n) l o = some q → Good3 w q ((cs.drop o).take q.length):=by
            intro l
            induction l with
            | nil =>
              intro o q _ hq
              simp only [fieldsSh,Option.some.injEq] at hq
              subst hq
              exact ⟨[],by simp [FitsL],by simp [RV.relV],by simp⟩
            | cons f l ihl =>
              intro o q hall hq
              simp only [fieldsSh] at hq
              split at hq
              · rename_i s1 hs1
                split at hq
                · rename_i hc1
                  simp only [Bool.and_eq_true,beq_iff_eq] at hc1
                  split at hq
                  · rename_i q2 hq2
                    injection hq with hq;subst hq
                    obtain ⟨y,hy⟩:=hall f (by simp)
                    have g1:=ih n f.type _ _ s1 hy hs1
                    have g2:=ihl (o + s1.length) q2 (fun f' hf'=>hall f' (by simp [hf'])) hq2
                    rw [hc1.1,← hc1.2] at g1
                    have:=good3_append g1 g2
                    rw [← List.drop_drop,← List.take_add] at this
                    simpa using this
                  · cases hq
                · cases hq
              · cases hq
           have:=key fs.toList 0 q (fun f hf=>by
            obtain ⟨i,hi⟩:=List.getElem?_of_mem hf
            have hi' : fs[i]? = some f:=by simpa using hi
            have h1:=hget i f hi'
            have h2 : i < xs.length:=by have:=(Array.getElem?_eq_some_iff.1 hi').1;omega
            exact ⟨xs[i],by rw [h1];exact List.getElem?_eq_getElem h2⟩) hq
           rwa [List.drop_zero,hc,← hcl,List.take_length] at this
         · cases hs
       · cases hs
     · cases hs
def FitsT (P : Program) (n : Nat) (t : TypeId) (x : RV) : Prop:=∃ ss,shape P n t = some ss ∧ if aggOf P t then ∃ xs,x = .ag xs ∧ FitsL ss xs else FitsL ss [x]
theorem arg_fits {n : Nat} {t : TypeId} {v : Value} {d : DataW H} {ps : List MemPlace} {r : Reach} {b0 : Nat} (hs : (shape P n t).isSome = true) (hval : Value.okWide P w r b0 t v) (h : DataW.Trod enc P w base spare held t v d ps) :
 ∃ x,FitsT P n t x ∧ x.rel w (old w) v:=by
 obtain ⟨ss,hss⟩:=Option.isSome_iff_exists.1 hs
 obtain ⟨fuel,hf⟩:=h
 obtain ⟨xs,f,r,o⟩:=trod_fits fuel n t _ _ ss hf hss
 have one : aggOf P t = false → v.cells.toList = [v] → ∃ x,FitsT P n t x ∧ x.rel w (old w) v:=fun ha hc=>by
  rw [hc] at r
  match xs,r with
  | [x], r =>
    simp only [RV.relV] at r
    obtain ⟨u,us,e,hr,_⟩:=r
    injection e with e1 e2
    subst e1
    exact ⟨x,⟨ss,hss,by rw [ha];exact f⟩,hr⟩
  | [],r=>simp [RV.relV] at r
  | _ :: _ :: _, r =>
    simp only [RV.relV] at r
    obtain ⟨u,us,e,_,u2,us2,e2,_⟩:=r
    injection e with _ e
    rw [e2] at e;cases e
 cases n with
 | zero=>simp [shape] at hss
 | succ n =>
   have hss':=hss
   unfold shape at hss'
   split at hss'
   · rename_i k ht
     obtain ⟨m,rfl⟩:=okWide_int ht hval
     exact one (by simp [aggOf,ht]) rfl
   · rename_i ht
     obtain ⟨b,rfl⟩:=okWide_bool ht hval
     exact one (by simp [aggOf,ht]) rfl
   · rename_i e ht
     obtain ⟨a,l,c,rfl⟩:=okWide_slice ht hval
     exact one (by simp [aggOf,ht]) rfl
   · rename_i m e ht
     obtain ⟨cs,rfl⟩ : ∃ cs,v = .agg cs:=by
      simp only [Value.okWide,ht] at hval
      obtain ⟨cs,h1,_⟩:=hval
      exact ⟨cs,h1⟩
     exact ⟨.ag xs,⟨ss,hss,by simp only [aggOf,ht,if_true];exact ⟨xs,rfl,f⟩⟩,by simp only [RV.rel];exact ⟨cs,rfl,o,r⟩⟩
   · rename_i fs ht
     obtain ⟨cs,rfl,_⟩:=okWide_struct ht hval
     exact ⟨.ag xs,⟨ss,hss,by simp only [aggOf,ht,if_true];exact ⟨xs,rfl,f⟩⟩,by simp only [RV.rel];exact ⟨cs,rfl,o,r⟩⟩
   · cases hss'
theorem fitsT_ag {n : Nat} {t : TypeId} {x : RV} {ss : List Sh} (h : FitsT P n t x) (hs : shape P n t = some ss) (ha : aggOf P t = true) : ∃ xs,x = .ag xs ∧ FitsL ss xs:=by
 obtain ⟨s',h1,h2⟩:=h
 rw [hs] at h1;injection h1 with h1;subst h1
 rw [ha] at h2
 exact h2
theorem fitsT_one {n : Nat} {t : TypeId} {x : RV} {s : Sh} (h : FitsT P n t x) (hs : shape P n t = some [s]) (ha : aggOf P t = false) : Fits s x:=by
 obtain ⟨s',h1,h2⟩:=h
 rw [hs] at h1;injection h1 with h1;subst h1
 rw [ha] at h2
 simp only [Bool.false_eq_true,if_false,FitsL] at h2
 obtain ⟨y,ys,e,h3,_⟩:=h2
 injection e with e1 e2
 subst e1
 exact h3
end
end Go.Oc

namespace Go.Oc
open Go Go.RowKit
theorem wf_u8 {n : Int} (h : (Lit.int .u8 n).wf = true) : 0 ≤ n ∧ n ≤ 255:=by
 simp only [Lit.wf,Bool.and_eq_true,decide_eq_true_eq] at h
 have h1 : IntKind.min .u8 = 0:=by decide
 have h2 : IntKind.max .u8 = 255:=by decide
 rw [h1,h2] at h
 exact h
theorem wf_u16 {n : Int} (h : (Lit.int .u16 n).wf = true) : 0 ≤ n ∧ n ≤ 65535:=by
 simp only [Lit.wf,Bool.and_eq_true,decide_eq_true_eq] at h
 have h1 : IntKind.min .u16 = 0:=by decide
 have h2 : IntKind.max .u16 = 65535:=by decide
 rw [h1,h2] at h
 exact h
theorem fitsE_u8 : ∀ {es : List (List RV)},FitsE [.int .u8] es → ∃ l : List Int,es = l.map (fun x=>[.it .u8 x]) ∧ ∀ x ∈ l,0 ≤ x ∧ x ≤ 255
 | [],_=>⟨[],rfl,by simp⟩
 | e :: es, h => by
   simp only [FitsE,FitsL,Fits] at h
   obtain ⟨⟨y,ys,rfl,⟨n,rfl,hn⟩,rfl⟩,h⟩:=h
   obtain ⟨l,rfl,hl⟩:=fitsE_u8 h
   refine ⟨n :: l,rfl,fun x hx=>?_⟩
   rcases List.mem_cons.1 hx with rfl | hx
   · exact wf_u8 hn
   · exact hl x hx
theorem fitsE_u16 : ∀ {es : List (List RV)},FitsE [.int .u16] es → ∃ l : List Int,es = l.map (fun x=>[.it .u16 x]) ∧ ∀ x ∈ l,0 ≤ x ∧ x ≤ 65535
 | [],_=>⟨[],rfl,by simp⟩
 | e :: es, h => by
   simp only [FitsE,FitsL,Fits] at h
   obtain ⟨⟨y,ys,rfl,⟨n,rfl,hn⟩,rfl⟩,h⟩:=h
   obtain ⟨l,rfl,hl⟩:=fitsE_u16 h
   refine ⟨n :: l,rfl,fun x hx=>?_⟩
   rcases List.mem_cons.1 hx with rfl | hx
   · exact wf_u16 hn
   · exact hl x hx
end Go.Oc

namespace Go.Proofs.Ytgfbenanljjgaaa.Du.Th.Ai
open Go Go.Oc
theorem fitsE_u16 : ∀ {es : List (List RV)},FitsE [.int .u16] es → ∃ l : List Int,es = l.map (fun x=>[.it .u16 x]) ∧ ∀ x ∈ l,0 ≤ x ∧ x ≤ 65535
 | [],_=>⟨[],rfl,by simp⟩
 | e :: es, h => by
   simp only [FitsE,FitsL,Oc.Fits] at h
   obtain ⟨⟨y,ys,rfl,⟨n,rfl,hn⟩,rfl⟩,h⟩:=h
   obtain ⟨l,rfl,hl⟩:=fitsE_u16 h
   refine ⟨n :: l,rfl,fun x hx=>?_⟩
   rcases List.mem_cons.1 hx with rfl | hx
   · exact wf_u16 hn
   · exact hl x hx
theorem fits45 {x : RV} (h : FitsT Try.prog 9 45 x) : ∃ y,x = .ag (rxC y) ∧ WfRx y:=by
 obtain ⟨xs,rfl,hx⟩:=fitsT_ag (ss:=[.sl [.int .u16],.sl [.int .u8],.sl [.int .u8],.int .u8,.int .u8]) h (by kernel_rfl) (by kernel_rfl)
 simp only [Oc.FitsL,Oc.Fits] at hx
 obtain ⟨_,_,rfl,⟨es,rfl,hes⟩,_,_,rfl,⟨es1,rfl,hes1⟩,_,_,rfl,⟨es2,rfl,hes2⟩,_,_,rfl,⟨r,rfl,hr⟩,_,_,rfl,⟨o,rfl,ho⟩,rfl⟩:=hx
 obtain ⟨l,rfl,hl⟩:=fitsE_u16 hes
 obtain ⟨l1,rfl,hl1⟩:=fitsE_u8 hes1
 obtain ⟨l2,rfl,hl2⟩:=fitsE_u8 hes2
 exact ⟨⟨l,l1,l2,r,o⟩,rfl,⟨hl,hl1,hl2,wf_u8 hr,wf_u8 ho⟩⟩
theorem fits43 {x : RV} (h : FitsT Try.prog 9 43 x) : ∃ l : List Int,x = u8s l ∧ ∀ n ∈ l,0 ≤ n ∧ n ≤ 255:=by
 have:=fitsT_one (s:=.sl [.int .u8]) h (by kernel_rfl) (by kernel_rfl)
 simp only [Oc.Fits] at this
 obtain ⟨es,rfl,hes⟩:=this
 obtain ⟨l,rfl,hl⟩:=fitsE_u8 hes
 exact ⟨l,rfl,hl⟩
end Go.Proofs.Ytgfbenanljjgaaa.Du.Th.Ai

namespace Go.Proofs.Ytgfbenanljjgaaa
open Go Go.Oc
theorem law6' {x0 x1 : RV} (h0 : FitsT Try.prog 9 45 x0) (h1 : FitsT Try.prog 9 43 x1) : ACalls Try.prog 6 [x0,x1] (.bo true):=by
 obtain ⟨x,rfl,hx⟩:=Du.Th.Ai.fits45 h0
 obtain ⟨bs,rfl,hb⟩:=Du.Th.Ai.fits43 h1
 exact Du.Th.Ai.law_narrows hx hb
end Go.Proofs.Ytgfbenanljjgaaa


namespace Go.Proofs.Ytgfbenanljjgaaa
open Go Go.Oc Go.ChangeShapes Go.WideShapes Go.RowKit
theorem own : ownKnob Try.prog.godebug = none := by kernel_rfl
theorem laidOut : laidOutB Try.prog = true := by kernel_rfl
set_option maxRecDepth 100000 in
theorem lifted (os : Os) (started : os.Started) (H : Type) (enc : TypeId × Value → H) :
    ReturnsInHanded {} Try.checked os 6 .any (Rows.aimNarrowsSpec.pre6 enc Try.prog Try.f6 Rows.aimNarrowsRow.domain false) (Rows.aimNarrowsSpec.post enc Try.prog Try.f6 false true false false) := by
  refine returnsInHanded_of_change (C := Try.checked) own started (by kernel_rfl) Try.func6
    (ChangeSpec.witness6 (enc := enc) (C := Try.checked) false ⟨#[], #[.agg #[.slice none 0 0, .slice none 0 0, .slice none 0 0, .int .u8 0, .int .u8 0], .slice none 0 0], []⟩ 8 (by kernel_rfl) (by kernel_rfl) (by kernel_rfl) (by kernel_rfl)) ?_
  intro W base args ds gs before hval0 hW hcnd _
  have hval : ∀ (j : Nat) t v, Try.f6.params[j]? = some t → args[j]? = some v → Value.okWide Try.prog W .any base t v := hval0
  have hW' := hW
  obtain ⟨p, q, hA0, hV, rfl, hfz, hnd⟩ := hW
  have hA : DataW.TrodAll enc Try.prog W 0 (fun _ => true) true Try.f6.params.toList args.toList ds p := hA0
  rw [Try.params6] at hA hval
  obtain ⟨v0, vs0, d0, ds0, p0, q0, hargs, rfl, rfl, h0, r0⟩ := trodAll_cons hA
  obtain ⟨v1, vs1, d1, ds1, p1, q1, rfl, rfl, rfl, h1, r1⟩ := trodAll_cons r0
  obtain ⟨rfl, rfl, rfl⟩ := trodAll_nil r1
  obtain rfl : args = #[v0, v1] := by cases args;simp_all
  obtain ⟨rfl, rfl⟩ := trodVars_none hV
  have lt0 : ∀ x ∈ p0, x.block < W.heap.size := by obtain ⟨m, hm⟩ := h0;exact DataW.trod_lt m _ _ _ hm
  have lt1 : ∀ x ∈ p1, x.block < W.heap.size := by obtain ⟨m, hm⟩ := h1;exact DataW.trod_lt m _ _ _ hm
  obtain ⟨x0, g0, e0⟩ := arg_fits (n := 9) (by kernel_rfl) (hval 0 45 v0 rfl rfl) h0
  obtain ⟨x1, g1, e1⟩ := arg_fits (n := 9) (by kernel_rfl) (hval 1 43 v1 rfl rfl) h1
  clear hA0 hval0
  refine ((law6' g0 g1).2 W (old W) #[v0, v1] (fun _ h => h) (by simp only [RV.relV];exact ⟨_, _, rfl, e0, _, _, rfl, e1, rfl⟩)).mono fun e W' he => ?_
  obtain ⟨v, R', rfl, bel, _, _, _, hr⟩ := he
  simp only [RV.rel] at hr
  subst hr
  exact ⟨_, rfl, _, _, _, [], _, [], hW', trodAll_mk1 (shut_bool Try.underlying4 _), (trodAll_cons_mk (Below.trod laidOut (by kernel_rfl) (of_decide_eq_true (by kernel_rfl)) h0 bel lt0) (trodAll_cons_mk (Below.trod laidOut (by kernel_rfl) (of_decide_eq_true (by kernel_rfl)) h1 bel lt1) trodAll_mk0)), rfl, bel.frame _, fun h => by cases h⟩
theorem over : Rows.aimNarrowsRow.holds Try.pinned (OpenSpec.ofChange Rows.aimNarrowsSpec) :=
  OpenClaim.holds_of_wide 6 Try.f6 rfl rfl rfl rfl rfl rfl rfl ⟨rfl, rfl, rfl, rfl, rfl⟩ rfl rfl rfl rfl rfl (by kernel_rfl) Try.func6 (by kernel_rfl)
    (of_decide_eq_true (by kernel_rfl)) (by unfold Func.isWrapper;first | (rw [if_pos (by decide +kernel)];kernel_rfl) | (rw [if_neg (by decide +kernel)];exact ⟨rfl, rfl⟩))
    (fun os started H enc _ => lifted os started H enc)
theorem aimNarrows_holds : Rows.AimNarrowsSaid := over
#print axioms aimNarrows_holds
end Go.Proofs.Ytgfbenanljjgaaa

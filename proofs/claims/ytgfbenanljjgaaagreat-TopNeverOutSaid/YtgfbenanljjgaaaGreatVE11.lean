/- Part 11 of the texts of this claim. -/
import Derived.Test.YtgfbenanljjgaaaGreatVE10
import Derived.Test.YtgfbenanljjgaaaGreatVE6
import Derived.Test.YtgfbenanljjgaaaGreatVE7
set_option linter.unusedSimpArgs false
set_option linter.unusedVariables false
namespace Go.Proofs.YtgfbenanljjgaaaGreat.Du.Th.Ai
open Go Go.Oc
set_option maxRecDepth 8000
theorem zIE:∀ (y:List Int) (c:Int),dotV y (List.replicate y.length c)=y.sum*c
 | [],c=>by simp [dotV]
 | x::y, c=>by
   have ih:=zIE y c
   simp only[List.length_cons,List.replicate_succ,dotV,List.sum_cons];rw[ih,Int.add_mul]
theorem zLj (s:Bool) {d:Int}{l:List Bd}(h:AOk d l) {c:Int}(hc:0≤c):c≤zFB s d l (List.replicate l.length c):=by
 have hd:=h.d1
 have key:∀ cm,dotV (zAr cm d l (List.replicate l.length c)) (List.replicate l.length c)=d*c:=fun cm=>by
  have ht:=h.truth cm (List.replicate l.length c)
  have e:=zIE (zAr cm d l (List.replicate l.length c)) c
  rw[ht.len,ht.sum] at e
  exact e
 unfold zFB zCE zCF
 cases s
 ·simp only[Bool.false_eq_true,if_false];rw[key]
  refine Int.le_ediv_of_mul_le (by omega) ?_
  rw[Int.mul_comm]
  omega
 ·simp only[if_true];rw[key]
  refine Int.le_ediv_of_mul_le (by omega) ?_
  rw[Int.mul_comm]
  omega
theorem zT4 (s:Bool) {d:Int}{l:List Bd}(h:AOk d l) {v:List Int}{N:Int}(hN:0≤N∧N≤1000000000) (hv:v.length=l.length) (hge:∀ i,i<l.length→0<canA l i d→N≤v.getD i 0):N≤zEQ s d l v:=by
 unfold zEQ
 split
 ·omega
 ·rename_i hb
  have h1:=zLj s h hN.1
  have h2:=zNG s h (u:=List.replicate l.length N) (v:=v.map zN) (c:=0) (by simp) (by simpa using hv) fun i hi hc=>by
   have e1:(List.replicate l.length N).getD i 0=N:=by
    rw[List.getD_eq_getElem?_getD,List.getElem?_replicate,if_pos hi];rfl
   rw[e1,zG2]
   have h3:=hge i hi hc
   have h4:v.getD i 0≠2000000000:=fun e=>hb (by
    rw[List.any_eq_true]
    refine⟨i,List.mem_range.2 hi,?_⟩
    unfold badA
    rw[e]
    simp [hc])
   unfold zN
   rw[if_neg h4]
   omega
  omega
theorem zSM {l:List Int}{N:Int}(hN:N≤2000000000) (h:∀ x∈l,N≤x):N≤zBs l:=by
 unfold zBs
 rcases (zD1 l 2000000000).2.2 with e|e
 ·rw[e];exact hN
 ·exact h _ e
def AllB (r:Rk) (bs:List Int):Prop:=∀ a∈r.aims,∀ i,i<a.beds.length→0<canA a.beds i r.d→(bAt a.beds i).b≠0→(bAt a.beds i).b∈bs
theorem zD6 {l:List Bd}{i:Nat}(h:i<l.length):bAt l i∈l:=by
 unfold bAt
 rw[List.getD_eq_getElem?_getD,List.getElem?_eq_getElem h]
 exact List.getElem_mem h
theorem zPQ {r:Rk}(hr:ROk r) {bs:List Int}(hB:∀ b∈bs,zAb b=true) (hall:AllB r bs) {s:Bool}{T:List Int}{own N:Int}(hN:1≤N∧N≤1000000000) (hown:N≤own) {st:Nat}
 (hT:∀ y:Nat,lowG r.out≤y→y≤st→(∀ M,endB r.out bs M y=false)→N≤T.getD y 0):∀ (k left:Nat),lowG r.out≤left→left≤st→(∀ M,endB r.out bs M left=false)→N≤valA r s T own k left
 | 0, left, h1, h2, h3=>by
   show N≤T.getD ((left:Int)).toNat 0
   rw[Int.toNat_natCast]
   exact hT left h1 h2 h3
 | k+1, left, h1, h2, h3=>by
   have ih:=zPQ (s:=s) hr hB hall hN hown hT k
   have hlg:=zBW r.out
   show N≤zBs (r.aims.map (zEd r s own left (valA r s T own k)))
   refine zSM (by omega) fun x hx=>?_
   obtain⟨a,ha,rfl⟩:=List.mem_map.1 hx
   have hA:=hr.aims a ha
   refine zT4 s hA ⟨by omega,hN.2⟩ (by simp) fun i hi hc=>?_
   rw[zTz hi]
   have hbi:=hA.beds _ (zD6 hi)
   have hin:=hall a ha i hi hc
   generalize (bAt a.beds i).b=b at *
   unfold zEc
   split
   ·rename_i hz
    exfalso
    simp only[Bool.and_eq_true,decide_eq_true_eq] at hz
    have hb0:b≠0:=fun e=>by
     rw[e] at hz
     have:zAD 0=0:=by decide
     omega
    have hbm:=hin hb0
    rw[zWD (hB b hbm)] at hz
    have haf:zBu r.out (left:Int) b=(0,zE8 r.out b):=by unfold zBu;rw[if_pos hz.1]
    have hx:=zJa (g:=r.out) (s:=(left:Int)) hbm (by rw[haf];exact hz.2) (by omega)
    rw[haf] at hx
    have:=zNi (d:=0) (by omega) hx (zSm _ _ _)
    rw[h3] at this;cases this
   ·split
    ·exact hown
    ·rename_i hz hlo
     by_cases hb0:b=0
     ·subst hb0
      have:zAD 0=0:=by decide
      rw[this,Int.sub_zero]
      exact ih left h1 h2 h3
     ·have hbm:=hin hb0
      have hbok:=hB b hbm
      have hrg:0≤b∧b≤499:=by
       simp only[zAb,Bool.or_eq_true,Bool.and_eq_true,decide_eq_true_eq] at hbok
       omega
      have hsc:=zEx hrg
      obtain⟨y,hy⟩:∃ y:Nat,(left:Int)-zAD b=y:=⟨((left:Int)-zAD b).toNat,by omega⟩
      rw[hy] at hlo ⊢
      refine ih y (by omega) (by omega) fun M=>?_
      cases hM:endB r.out bs M y
      ·rfl
      ·exfalso
       have haf:zBu r.out (left:Int) b=((y:Int),true):=by
        unfold zBu
        rw[if_neg (by omega)]
        by_cases c:(left:Int)-zAD b=1
        ·rw[if_pos c]
         have hg0:r.out=0:=by
          refine Classical.byContradiction fun hne=>?_
          have:lowG r.out=2:=by unfold lowG;rw[if_neg hne]
          omega
         rw[hg0,← hy,c];rfl
        ·rw[if_neg c,hy]
         congr 1
         exact decide_eq_true (by omega)
       have hx:=zJa (g:=r.out) (s:=(left:Int)) hbm (by rw[haf]) (by omega)
       rw[haf] at hx
       have:=zNi (d:=M) (by omega) hx hM
       rw[h3] at this;cases this
theorem zR8 {r:Rk}(hr:ROk r) {bs:List Int}(hB:∀ b∈bs,zAb b=true) (hall:AllB r bs) (s:Nat):lowG r.out≤s→(s:Int)≤r.start→(∀ M,endB r.out bs M s=false)→(tabT r false).getD s 0=2000000000∧(tabT r true).getD s 0=1000000000:=by
 induction s using Nat.strongRecOn with
 | _ s ih =>
   intro h1 h2 h3
   have hlg:=zBW r.out
   constructor
   ·obtain⟨nums,hnn,hns,g1,g2,g3⟩:=zLN hr false (st:=s) h1 h2
    have hset:∀ (n:Int) y,(nums.set s n).getD y 0=if s=y then n else nums.getD y 0:=fun n y=>zAk hns n y
    rw[g1]
    refine zOP hr hnn hns h1 ?_
    have hv:=zPQ hr hB hall (s:=false) (T:=nums.set s 1000000000) (own:=1000000000) (N:=1000000000) (by omega) (by omega) (st:=s) (fun y y1 y2 y3=>by
     rw[hset]
     split
     ·omega
     ·rename_i hne
      have e:nums.getD y 0=(tabT r false).getD y 0:=by rw[g3 y (by omega),zAk hns,if_neg hne]
      rw[e,(ih y (by omega) y1 (by omega) y3).1]
      omega) 3 s h1 (Nat.le_refl _) h3
    unfold zhA
    simp only[Bool.false_eq_true,if_false,Bool.or_eq_false_iff,decide_eq_false_iff_not];rw[hset,if_pos rfl]
    omega
   ·obtain⟨nums,hnn,hns,g1,g2,g3⟩:=zLN hr true (st:=s) h1 h2
    have hset:∀ (n:Int) y,(nums.set s n).getD y 0=if s=y then n else nums.getD y 0:=fun n y=>zAk hns n y
    rw[g1]
    have hv:=zPQ hr hB hall (s:=true) (T:=nums.set s 1000000000) (own:=1000000000) (N:=1000000000) (by omega) (by omega) (st:=s) (fun y y1 y2 y3=>by
     rw[hset]
     split
     ·omega
     ·rename_i hne
      have e:nums.getD y 0=(tabT r true).getD y 0:=by rw[g3 y (by omega),zAk hns,if_neg hne]
      rw[e,(ih y (by omega) y1 (by omega) y3).2]
      omega) 3 s h1 (Nat.le_refl _) h3
    have hge:=zR2 hr hnn hns h1 (a:=1000000000) (by omega) (by
     unfold zhA
     simp only[if_true,decide_eq_true_eq];rw[hset,if_pos rfl]
     omega)
    have hle:=(zKA hr hnn hns h1).1
    omega
def zCe (d:Int) (a:Am) (B:List Bool):Nat→List Bool
 | 0=>B
 | k+1=>(zCe d a B k).set (bAt a.beds k).b.toNat ((zCe d a B k).getD (bAt a.beds k).b.toNat false || decide (0<canA a.beds k d))
def zC7 (d:Int) (l:List Am):Nat→List Bool
 | 0=>List.replicate 500 false
 | i+1=>zCe d (l.getD i ⟨0,[]⟩) (zC7 d l i) (l.getD i ⟨0,[]⟩).beds.length
theorem zFD (d:Int) (a:Am) (B:List Bool):∀ k,(zCe d a B k).length=B.length
 | 0=>rfl
 | k+1=>by simp [zCe,zFD d a B k]
theorem zFC (d:Int) (l:List Am):∀ i,(zC7 d l i).length=500
 | 0=>by simp [zC7]
 | i+1=>by simp [zC7,zFD,zFC d l i]
theorem zRg {B:List Bool}{i j:Nat}{v:Bool}(h:i<B.length):(B.set i v).getD j false=if i=j then v else B.getD j false:=by
 rw[List.getD_eq_getElem?_getD]
 split
 ·rename_i e;subst e;rw[List.getElem?_set_self h];rfl
 ·rename_i e;rw[List.getElem?_set_ne e,← List.getD_eq_getElem?_getD]
theorem zNI {d:Int}{a:Am}{B:List Bool}(hB:B.length=500) (hb:∀ c∈a.beds,0≤c.b∧c.b≤499):∀ k,k≤a.beds.length →
 (∀ j,B.getD j false=true→(zCe d a B k).getD j false=true)∧(∀ j,(zCe d a B k).getD j false=true→B.getD j false=true∨∃ c∈a.beds,c.b=(j:Int)) ∧
  ∀ i,i<k→0<canA a.beds i d→(zCe d a B k).getD (bAt a.beds i).b.toNat false=true
 | 0,_=>⟨fun j h=>h,fun j h=>.inl h,fun i hi=>by omega⟩
 | k+1, hk=>by
   obtain⟨h1,h2,h3⟩:=zNI hB hb k (by omega)
   have hl:=zFD d a B k
   have hm:=zD6 (l:=a.beds) (i:=k) (by omega)
   have hbk:=hb _ hm
   have hlt:(bAt a.beds k).b.toNat<(zCe d a B k).length:=by omega
   have hg:=fun j v=>zRg (j:=j) (v:=v) hlt
   refine⟨fun j hj=>?_,fun j hj=>?_,fun i hi hc=>?_⟩
   ·unfold zCe
    rw[hg]
    split
    ·rename_i e;rw[e,h1 j hj];rfl
    ·exact h1 j hj
   ·unfold zCe at hj
    rw[hg] at hj
    split at hj
    ·rename_i e
     exact .inr ⟨_,hm,by omega⟩
    ·exact h2 j hj
   ·unfold zCe
    rw[hg]
    split
    ·rename_i e
     by_cases hik:i=k
     ·subst hik
      rw[decide_eq_true hc,Bool.or_true]
     ·rw[e,h3 i (by omega) hc];rfl
    ·rename_i e
     by_cases hik:i=k
     ·subst hik;exact absurd rfl e
     ·exact h3 i (by omega) hc
theorem zIu {d:Int}{l:List Am}(hb:∀ a∈l,∀ c∈a.beds,0≤c.b∧c.b≤499):∀ i,i≤l.length →
 (∀ j,(zC7 d l i).getD j false=true→∃ a∈l,∃ c∈a.beds,c.b=(j:Int)) ∧
  ∀ m,m<i→∀ a,l[m]? = some a→∀ q,q<a.beds.length→0<canA a.beds q d→(zC7 d l i).getD (bAt a.beds q).b.toNat false=true
 | 0,_=>⟨fun j h=>by
  exfalso
  simp only[zC7] at h
  rw[List.getD_eq_getElem?_getD,List.getElem?_replicate] at h
  split at h<;>simp at h,fun m hm=>by omega⟩
 | i+1, hi=>by
   obtain⟨h1,h2⟩:=zIu hb i (by omega)
   obtain⟨a,ha⟩:=zol (show i<l.length by omega)
   have hg:l.getD i ⟨0,[]⟩=a:=by rw[List.getD_eq_getElem?_getD,ha];rfl
   have ham:=zmo ha
   obtain⟨g1,g2,g3⟩:=zNI (d:=d) (a:=a) (zFC d l i) (hb a ham) a.beds.length (Nat.le_refl _)
   have e:zC7 d l (i+1)=zCe d a (zC7 d l i) a.beds.length:=by
    show zCe d (l.getD i ⟨0,[]⟩) _ (l.getD i ⟨0,[]⟩).beds.length=_
    rw[hg]
   rw[e]
   refine⟨fun j hj=>?_,fun m hm a' ha' q hq hc=>?_⟩
   ·rcases g2 j hj with h|⟨c,hc,h⟩
    ·exact h1 j h
    ·exact⟨a,ham,c,hc,h⟩
   ·by_cases hmi:m=i
    ·subst hmi
     rw[ha] at ha'
     injection ha' with ha'
     subst ha'
     exact g3 q hq hc
    ·exact g1 _ (h2 m (by omega) a' ha' q hq hc)
def zD0 (B:List Bool) (k:Nat):List Nat:=(List.range k).filter fun b=>decide (1≤b)&&B.getD b false
theorem zOh (B:List Bool) (k:Nat) (hk:1≤k):zD0 B (k+1)=zD0 B k++if B.getD k false=true then [k] else []:=by
 unfold zD0
 rw[List.range_succ,List.filter_append]
 congr 1
 simp only[List.filter_cons,List.filter_nil,decide_eq_true hk,Bool.true_and]
def bsA (d:Int) (l:List Am):List Int:=(zD0 (zC7 d l l.length) 500).map fun b:Nat=>(b:Int)
def armN:List Nat:=[0,101,102,103,105,120,125,201,202,220,225,301,320]
theorem zS3:(List.range 500).filter (fun b=>armN.contains b)=armN:=by decide +kernel
theorem zVL {d:Int}{l:List Am}(hb:∀ a∈l,∀ c∈a.beds,∃ j,j<13∧c.b=armB.getD j 0) (hne:bsA d l≠[]):BdsO (bsA d l):=by
 have hb2:∀ a∈l,∀ c∈a.beds,0≤c.b∧c.b≤499:=fun a ha c hc=>by
  obtain⟨j,j1,j2⟩:=hb a ha c hc
  have:∀ j,j<13→0≤armB.getD j 0∧armB.getD j 0≤499:=by decide
  rw[j2];exact this j j1
 have hm:=(zIu (d:=d) hb2 l.length (Nat.le_refl _)).1
 have hin:∀ b∈zD0 (zC7 d l l.length) 500,1≤b∧b<500∧∃ j,j<13∧(b:Int)=armB.getD j 0:=fun b hbm=>by
  unfold zD0 at hbm
  obtain⟨h1,h2⟩:=List.mem_filter.1 hbm
  simp only[Bool.and_eq_true,decide_eq_true_eq] at h2
  obtain⟨a,ha,c,hc,e⟩:=hm b h2.2
  obtain⟨j,j1,j2⟩:=hb a ha c hc
  exact⟨h2.1,List.mem_range.1 h1,j,j1,by rw[← e,j2]⟩
 have hbok:∀ b∈bsA d l,zAb b=true∧0≤b∧b≤499:=fun b hbm=>by
  unfold bsA at hbm
  obtain⟨n,hn,rfl⟩:=List.mem_map.1 hbm
  obtain⟨n1,n2,j,j1,j2⟩:=hin n hn
  rcases zGT j1 with h|h
  ·omega
  ·exact⟨by rw[j2];exact h,by omega,by omega⟩
 refine⟨?_,List.length_pos_iff.2 hne,?_,hbok⟩
 ·unfold bsA
  rw[List.pairwise_map]
  refine List.Pairwise.imp (R:=(· < ·)) (fun h=>by omega) ?_
  exact List.Pairwise.filter _ List.pairwise_lt_range
 ·unfold bsA
  rw[List.length_map]
  have e:zD0 (zC7 d l l.length) 500=armN.filter fun b=>decide (1≤b)&&(zC7 d l l.length).getD b false:=by
   rw[← zS3,List.filter_filter]
   unfold zD0
   refine List.filter_congr fun b hbr=>?_
   cases hq:(decide (1≤b)&&(zC7 d l l.length).getD b false)
   ·rfl
   ·obtain⟨_,_,j,j1,j2⟩:=hin b (List.mem_filter.2 ⟨hbr,hq⟩)
    have:∀ j,j<13→armB.getD j 0=((armN.getD j 0:Nat):Int)∧armN.contains (armN.getD j 0)=true:=by decide
    have hj:=this j j1
    have hbj:b=armN.getD j 0:=by omega
    rw[hbj,hj.2];rfl
  rw[e]
  have:=List.length_filter_le (fun b=>decide (1≤b)&&(zC7 d l l.length).getD b false) armN
  have h13:armN.length=13:=rfl
  omega
theorem zUX {d st g:Int}{l:List Am}(hb:∀ a∈l,∀ c∈a.beds,0≤c.b∧c.b≤499):AllB ⟨d,l,st,g⟩ (bsA d l):=fun a ha i hi hc h0=>by
 obtain⟨m,hm⟩:=List.getElem?_of_mem ha
 have hml:=(List.getElem?_eq_some_iff.1 hm).1
 have h:=(zIu (d:=d) hb l.length (Nat.le_refl _)).2 m hml a hm i hi hc
 have hbi:=hb a ha _ (zD6 hi)
 unfold bsA
 refine List.mem_map.2 ⟨(bAt a.beds i).b.toNat,?_,by omega⟩
 unfold zD0
 refine List.mem_filter.2 ⟨List.mem_range.2 (by omega),?_⟩
 rw[h,Bool.and_true]
 exact decide_eq_true (by omega)
end Go.Proofs.YtgfbenanljjgaaaGreat.Du.Th.Ai

namespace Go.Proofs.YtgfbenanljjgaaaGreat.Du.Th
open Go Go.Oc
set_option maxRecDepth 8000
theorem zRh (b:Int) (h0:0≤b) (h1:b≤499):zAA Tryz.prog 98 [i64 b] (i64 (zAD b)):=by
 have hq:=zPX (b:=b) ⟨by omega,by omega⟩
 have hm:=zPk h0 h1
 refine zas (rs:=[i64 (zAD b)]) [.tmp 2] Tryz.func98 rfl (by kernel_rfl) Tryz.ntmps98 rfl (by simp) rfl fun C vs=>?_
 repeat apply zq
 refine zb fun K hK=>?_;simp only[go_sem];(try simp (disch:=omega) only[zI]);repeat first|intro _|refine⟨by omega,?_⟩
 apply hK
 repeat apply zq
 refine zb fun K hK=>?_;simp only[go_sem,hq,hm];(try simp (disch:=omega) only[zI]);repeat first|intro _|refine⟨by omega,?_⟩
 apply hK;apply ze;simp only[go_sem]
set_option maxHeartbeats 4000000
theorem zPp (x y:Int):zAA Tryz.prog 138 [i64 x,i64 y] (i64 (cmpI x y)):=by
 refine zas (rs:=[i64 (cmpI x y)]) [.tmp 4] Tryz.func138 rfl (by kernel_rfl) Tryz.ntmps138 rfl (by simp) rfl fun C vs=>?_
 apply zq
 refine zb fun K hK=>?_;simp only[go_sem];apply hK
 apply zq
 refine zb fun K hK=>?_;simp only[go_sem]
 refine zh (zEM x y) rfl (by simp only[go_sem,i64,ints]) (by simp only[go_sem,i64,ints]) ?_
 (try simp only[go_sem]);apply hK;apply ze;simp only[go_sem]
theorem zOx (x y:Int):zAA Tryz.prog 139 [i64 x,i64 y] (i64 (cmpI y x)):=by
 refine zas (rs:=[i64 (cmpI y x)]) [.tmp 4] Tryz.func139 rfl (by kernel_rfl) Tryz.ntmps139 rfl (by simp) rfl fun C vs=>?_
 apply zq
 refine zb fun K hK=>?_;simp only[go_sem];apply hK
 apply zq
 refine zb fun K hK=>?_;simp only[go_sem]
 refine zh (zEM y x) rfl (by simp only[go_sem,i64,ints]) (by simp only[go_sem,i64,ints]) ?_
 (try simp only[go_sem]);apply hK;apply ze;simp only[go_sem]
theorem zOw (i k:Nat) (vals:List Int) (f:Nat) (cm:Int→Int→Int) (hf:∀ x y,zAA Tryz.prog f [i64 x,i64 y] (i64 (cm x y))) {x y:Int}(hx:vals[i]? = some x) (hy:vals[k]? = some y) :
 zAA Tryz.prog 168 [i64 i,i64 k,.rp [.fn f []],.rp [ints vals]] (i64 (cm x y)):=by
 have hi:=(List.getElem?_eq_some_iff.1 hx).1
 have hk:=(List.getElem?_eq_some_iff.1 hy).1
 refine zas (rs:=[i64 (cm x y)]) [.tmp 6] Tryz.func168 rfl (by kernel_rfl) Tryz.ntmps168 rfl (by simp) rfl fun C vs=>?_
 apply zq
 refine zb fun K hK=>?_;simp only[go_sem];apply hK
 apply zq
 refine zg follows (by decide +kernel) (by kernel_rfl) fun K hK=>?_;simp only[go_sem,hx,hy,hi,hk]
 refine zh (hf x y) rfl (by simp only[go_sem,i64,ints]) (by simp only[go_sem,i64,ints]) ?_
 (try simp only[go_sem]);apply hK;apply ze;simp only[go_sem]
theorem zPe (lt:Nat→Nat→Bool) (c:Nat→Nat→Int) (f:Nat) (caps:List RV) (l:List Nat) (hl:l.length≤19) (hlt:∀ x y,lt x y=decide (c x y<0))
 (hcc:∀ x∈l,∀ y∈l,zAA Tryz.prog f (i64 (x:Int)::i64 (y:Int)::caps) (i64 (c x y))) :
 zA6 Tryz.prog 189 [(1000,.arr 3 1 (idx l))] [(1000,.arr 3 1 (idx (zBq lt l)))] [.os 1000 0 1 0 l.length,.r (i64 l.length),.r (.fn f caps)] (.tu []):=by
 refine zAd (n:=63) (rs:=[]) _ _ [] Tryz.func189 rfl (by kernel_rfl) Tryz.ntmps189 rfl (by simp) rfl rfl fun C=>?_
 apply zq
 refine zb fun K hK=>?_;simp only[go_sem];apply hK
 apply zq
 refine zb fun K hK=>?_;simp only[go_sem];apply hK;apply zw (zk [0,1,2,6,7,8]);simp only[go_sem]
 apply zq
 apply zd
 refine zBR (n:=63) 0 (fun i vs=>[(0,.os 1000 0 1 0 l.length),(1,.r (i64 l.length)),(2,.r (.fn f caps)),(6,.r (i64 20)),(7,.r (i64 0)),(8,.r (i64 20))])
  (fun i=>[(1000,.arr 3 1 (idx l))]) (fun i=>True) 0 (zAY [] zDy ?_ ?_) (Nat.zero_le _) trivial ?_
 ·try simp only[go_sem]
 ·try simp only[go_sem]
 intro i vs hv _ _
 have hv0:=hv 1000 (by omega)
 repeat apply zq
 refine zb fun K hK=>?_;simp only[go_sem];apply hK
 apply zc rfl<;>intro hc<;>(try simp only[go_sem] at hc)
 ·omega
 apply zf;simp only[go_sem]
 apply zq
 refine zb fun K hK=>?_;simp only[go_sem]
 refine zAW (zKS lt c f caps l (by omega) hlt hcc) [(1000,1000)] rfl (by simp only[go_sem,i64,ints,hv0]) (by simp only[go_sem,i64,ints,hv0]) (by rfl) (by rfl) ?_
 (try simp only[go_sem,hv0]);apply hK
 try simp only[go_sem]
 apply zd
 refine zBR (n:=63) 0 (fun i vs=>[(1,.r (i64 l.length)),(6,.r (i64 20))])
  (fun i=>[(1000,.arr 3 1 (idx (zBq lt l)))]) (fun i=>True) 0 (zAY [] hv ?_ ?_) (Nat.zero_le _) trivial ?_
 ·try simp only[go_sem]
 ·try simp only[go_sem]
 intro i vs hv _ _
 repeat apply zq
 refine zb fun K hK=>?_;simp only[go_sem];apply hK
 apply zc rfl<;>intro hc<;>(try simp only[go_sem] at hc)
 ·omega
 apply zf;simp only[go_sem]
theorem zIY (lt:Nat→Nat→Bool) (c:Nat→Nat→Int) (f:Nat) (caps:List RV) (l:List Nat) (hl:l.length≤19) (hlt:∀ x y,lt x y=decide (c x y<0))
 (hcc:∀ x∈l,∀ y∈l,zAA Tryz.prog f (i64 (x:Int)::i64 (y:Int)::caps) (i64 (c x y))) :
 zA6 Tryz.prog 167 [(1000,.arr 3 1 (idx l))] [(1000,.arr 3 1 (idx (zBq lt l)))] [.os 1000 0 1 0 l.length,.r (.fn f caps)] (.tu []):=by
 refine zAd (n:=9) (rs:=[]) _ _ [] Tryz.func167 rfl (by kernel_rfl) Tryz.ntmps167 rfl (by simp) rfl rfl fun C=>?_
 refine zb fun K hK=>?_;simp only[go_sem]
 intro _
 refine zAW (zPe lt c f caps l (by omega) hlt hcc) [(1000,1000)] rfl (by simp only[go_sem,i64,ints]) (by simp only[go_sem,i64,ints]) (by rfl) (by rfl) ?_
 (try simp only[go_sem]);apply hK
 try simp only[go_sem]
theorem zD4 (a:Int) (l:List Bd) (d:Int) (vals:List Int) (f:Nat) (cm:Int→Int→Int) (hf:∀ x y,zAA Tryz.prog f [i64 x,i64 y] (i64 (cm x y))) (hv:vals.length=l.length) (hl:l.length≤19) (hch:chOk d l=true) (hd:d≤3000) (h1:loS l≤d) :
 zAA Tryz.prog 137 [.ag [i64 a,zBJ l,i64 d],ints vals,.fn f []] (ints (zAr cm d l vals)):=by
 have hs:=zEN hch (by omega)
 have hsm:=zCY hs
 refine zas (rs:=[ints (zAr cm d l vals)]) [.tmp 6] Tryz.func137 rfl (by kernel_rfl) Tryz.ntmps137 rfl (by simp) rfl fun C vs=>?_
 apply zq
 refine zb fun K hK=>?_;simp only[go_sem];apply hK;refine zw (zfP 3 3 [i64 a,zBJ l,i64 d] (by omega) rfl rfl) ?_;refine zw (zfP 4 4 [ints vals] (by omega) rfl rfl) ?_;refine zw (zfP 5 5 [.fn f []] (by omega) rfl rfl) ?_;apply zw (zk [3,4,5]);simp only[go_sem]
 apply zq
 refine zAF [(3,none)] follows (by decide +kernel) (by kernel_rfl) (by simp only[zAO,List.mem_cons,List.not_mem_nil,forall_eq_or_imp,Oc.keyOf,go_sem];simp) fun K hK=>?_
 simp only[go_sem]
 intro _
 refine⟨⟨by omega,by omega⟩,fun _=>⟨⟨by omega,by omega⟩,?_⟩⟩
 apply hK;apply zw (zk [3,4,5,7,8,9]);simp only[go_sem]
 repeat apply zq
 refine zb fun K hK=>?_;simp only[go_sem]
 intro _
 apply hK;apply zw (zk [3,4,5,7,8,9,29,30,31]);simp only[go_sem];apply zd
 refine zup (n:=90) l.length (fun i vs=>[(3,.r (.rp [i64 a,zBJ l,i64 d])),(4,.r (.rp [ints vals])),(5,.r (.rp [.fn f []])),(7,.os 19 (vs 19) 1 0 l.length),(8,.os 24 (vs 24) 1 0 l.length),(9,.r (i64 (d-loS (l.take i)))),(29,.r (zBJ l)),(30,.r (i64 l.length)),(31,.r (i64 i))])
  (fun i=>[(19,.arr 3 1 (idx (List.range i)++List.replicate (l.length-i) [i64 0])),(24,.arr 3 1 (((l.take i).map fun x=>[i64 x.lo])++List.replicate (l.length-i) [i64 0]))]) (fun _=>True) 0 (zfo [3,4,5] ?_ ?_) (Nat.zero_le _) trivial ?_
 ·try simp only[go_sem]
  simp [loS]
 ·try simp only[go_sem]
  simp
 ·intro i vs hi _
  apply zq
  refine zb fun K hK=>?_;simp only[go_sem];apply hK
  apply zq
  apply zc rfl<;>intro hc<;>(try simp only[go_sem] at hc)
  ·have hci:=hc
   obtain⟨x,hx⟩:=zol hci
   obtain⟨⟨x1,x2⟩,x3,x4⟩:=hs x (zmo hx)
   have hsub:=zCY (hs.take (i+1))
   have hsub0:=zCY (hs.take i)
   have htl:((l.take (i+1)).length:Int)≤20:=by rw[List.length_take];omega
   have htl0:((l.take i).length:Int)≤20:=by rw[List.length_take];omega
   have hlo:loS (l.take (i+1))=loS (l.take i)+x.lo:=by rw[zto hx,zEI]
   rw[hlo] at hsub
   apply zx
   apply zq
   apply zd
   apply zq
   refine zb fun K hK=>?_;simp only[go_sem,hx,hci,bedR];apply hK;apply zw (zk [3,4,5,7,8,9,10,11,29,30,31]);simp only[go_sem]
   have g1:(idx (List.range i)).length=i:=by simp
   have g2:((l.take i).map fun x=>[i64 x.lo]).length=i:=by simp;omega
   have r1:=zPv (z:=[i64 0]) g1 hci
   have r2:=zPv (z:=[i64 0]) g2 hci
   have r3:=zLa (z:=[i64 0]) g1 hci
   have r4:=zLa (z:=[i64 0]) g2 hci
   have r5:=fun v=>zLZ (z:=[i64 0]) (v:=v) g1 hci
   have r6:=fun v=>zLZ (z:=[i64 0]) (v:=v) g2 hci
   apply zq
   refine zAF [(7,some 19),(8,some 24),(10,none),(11,some 11)] follows (by decide +kernel) (by kernel_rfl) (by simp only[zAO,List.mem_cons,List.not_mem_nil,forall_eq_or_imp,Oc.keyOf,go_sem];simp) fun K hK=>?_
   simp only[go_sem,hci,r1,r2,r3,r4,r5,r6];apply hK;apply zw (zk [3,4,5,7,8,9,10,11,29,30,31]);simp only[go_sem];refine zb fun K hK=>?_;simp only[go_sem];(try simp (disch:=omega) only[zI]);apply hK;apply zw (zk [3,4,5,7,8,9,29,30,31]);simp only[go_sem];refine zb fun K hK=>?_;simp only[go_sem];(try simp (disch:=omega) only[zI]);apply hK
   try simp only[go_sem]
   refine⟨hci,zfo [11] ?_ ?_⟩
   ·simp only[go_sem,hlo]
    omega
   ·try simp only[go_sem]
    have hr:List.range (i+1)=List.range i++[i]:=List.range_succ
    simp only[zto hx,hr,List.map_append,List.map_cons,List.map_nil]
  ·apply zf;simp only[go_sem]
   have hii:i=l.length:=by omega
   subst hii
   have e1:idx (List.range l.length)++List.replicate (l.length-l.length) [i64 0]=idx (List.range l.length):=by simp
   have e2:((l.take l.length).map fun x=>[i64 x.lo])++List.replicate (l.length-l.length) [i64 0]=(l.map (·.lo)).map fun x=>[i64 x]:=by simp
   have e3:l.take l.length=l:=List.take_length
   rw[e1,e2,e3]
   have hmem:∀ i∈List.range l.length,i<vals.length:=fun i hi=>by rw[hv];exact List.mem_range.1 hi
   have hsort:=zIY (zDY cm vals) (fun i k=>cm ((vals[i]?).getD 0) ((vals[k]?).getD 0)) 168 [.rp [.fn f []],.rp [ints vals]] (List.range l.length) (by simpa using hl) (fun _ _=>rfl) (fun i hi k hk=>by
    obtain⟨x,hx⟩:=zol (hmem i hi)
    obtain⟨y,hy⟩:=zol (hmem k hk)
    have:=zOw i k vals f cm hf hx hy
    simpa [hx,hy] using this)
   rw[List.length_range] at hsort
   apply zq
   refine zb fun K hK=>?_;simp only[go_sem]
   refine zAW (zQA hsort) [(1000,19)] rfl (by simp only[go_sem,i64,ints]) (by simp only[go_sem,i64,ints]) (by rfl) (by rfl) ?_
   (try simp only[go_sem]);apply hK;apply zw (zk [3,4,5,7,8,9]);simp only[go_sem]
   obtain⟨S,hS⟩:∃ S,S=zBq (zDY cm vals) (List.range l.length):=⟨_,rfl⟩
   have hSl:S.length=l.length:=by rw[hS,zJi,List.length_range]
   have hSm:∀ i∈S,i<l.length:=fun i hi=>by rw[hS,zDw,List.mem_range] at hi;exact hi
   rw[← hS]
   repeat apply zq
   refine zb fun K hK=>?_;simp only[go_sem]
   intro _
   apply hK;apply zw (zk [3,4,5,7,8,9,55,56,57]);simp only[go_sem];apply zd
   have hst:=zJg hch hd h1 hsm.1.1
   refine zup (n:=90) l.length (fun i vs=>[(3,.r (.rp [i64 a,zBJ l,i64 d])),(8,.os 24 (vs 24) 1 0 l.length),(9,.r (i64 (zBh l (S.take i) (zBB d l)).2)),(55,.os 19 (vs 19) 1 0 l.length),(56,.r (i64 l.length)),(57,.r (i64 i))])
    (fun i=>[(19,.arr 3 1 (idx S)),(24,.arr 3 1 ((zBh l (S.take i) (zBB d l)).1.map fun x=>[i64 x]))]) (fun _=>True) 0 (zfo [] ?_ ?_) (Nat.zero_le _) trivial ?_
   ·try simp only[go_sem]
    simp [zBh,zBB]
   ·try simp only[go_sem]
    simp [zBh,zBB]
   ·intro q vs hq _
    apply zq
    refine zb fun K hK=>?_;simp only[go_sem];apply hK
    apply zq
    apply zc rfl<;>intro hc<;>(try simp only[go_sem] at hc)
    ·have hci:=hc
     obtain⟨i,hi⟩:=zol (l:=S) (i:=q) (by omega)
     have hil:=hSm i (zmo hi)
     obtain⟨x,hx⟩:=zol hil
     obtain⟨F,hF⟩:∃ F,F=zBh l (S.take q) (zBB d l):=⟨_,rfl⟩
     have hFo:zIR l F:=hF▸zEK _ _ (fun j hj=>hSm j (List.mem_of_mem_take hj)) hst
     obtain⟨o,ho⟩:=zol (l:=F.1) (i:=i) (by have:=hFo.1;omega)
     obtain⟨s1,s2,s3⟩:=zG4 hFo hx ho
     have hnx:zBh l (S.take (q+1)) (zBB d l)=(F.1.set i (o+zCo l F.1 F.2 i),F.2-zCo l F.1 F.2 i):=by
      rw[zto hi,zIA,← hF]
      simp [ho]
     obtain⟨⟨x1,x2⟩,x3,x4⟩:=hs x (zmo hx)
     obtain⟨f1,f2,f3⟩:=hFo
     have f4:=f3 i x o hx ho
     rw[← hF]
     apply zx
     apply zq
     apply zd
     apply zq
     refine zb fun K hK=>?_;simp only[go_sem,hi,hci];apply hK;apply zw (zk [3,8,9,13,55,56,57]);simp only[go_sem]
     apply zq
     refine zAF [(3,none),(8,some 24),(9,none),(13,none)] follows (by decide +kernel) (by kernel_rfl) (by simp only[zAO,List.mem_cons,List.not_mem_nil,forall_eq_or_imp,Oc.keyOf,go_sem];simp) fun K hK=>?_
     simp only[go_sem,hx,ho,hil,bedR,f1];(try simp (disch:=omega) only[zI]);apply hK;apply zw (zk [3,8,9,13,14,55,56,57]);simp only[go_sem];refine zb fun K hK=>?_;simp only[go_sem,ho,hil,f1];(try simp (disch:=omega) only[zI])
     have hwr:IntKind.i64.wrap (o+min F.2 (x.hi-o))=o+min F.2 (x.hi-o):=by rw[zI]<;>omega
     apply hK;apply zw (zk [3,8,9,55,56,57]);simp only[go_sem];refine zb fun K hK=>?_;simp only[go_sem];(try simp (disch:=omega) only[zI]);apply hK
     try simp only[go_sem]
     refine⟨hci,zfo [] ?_ ?_⟩
     ·simp only[go_sem,hnx,s1]
     ·simp only[go_sem,hnx,s1];rw[List.map_set]
    ·apply zf;simp only[go_sem]
     apply zq
     refine zb fun K hK=>?_;simp only[go_sem];apply hK;apply ze;simp only[go_sem]
     have e4:S.take q=S:=List.take_of_length_le (by omega)
     rw[e4]
     have hfin:=zEK S (zBB d l) hSm hst
     refine⟨by have:=hfin.1;omega,?_⟩
     rw[List.take_of_length_le (by simp;have:=hfin.1;omega),zAr,← hS]
theorem zNH (a:Int) (l:List Bd) (d:Int) (vals:List Int) (f:Nat) (cm:Int→Int→Int) (hf:∀ x y,zAA Tryz.prog f [i64 x,i64 y] (i64 (cm x y))) (hv:vals.length=l.length) (hl:l.length≤19) (hch:chOk d l=true) (hd:d≤3000) (h1:loS l≤d) (hvs:Vals vals) :
 zAA Tryz.prog 136 [.fn f [],.rp [i64 a,zBJ l,i64 d],.rp [ints vals]] (i64 (dotV (zAr cm d l vals) vals)):=by
 obtain⟨q1,q2⟩:=zKl (cm:=cm) (vals:=vals) hch hd h1
 obtain⟨F,hF⟩:∃ F,F=zAr cm d l vals:=⟨_,rfl⟩
 have hfl:=zD4 a l d vals f cm hf hv hl hch hd h1
 rw[← hF] at q1 q2 hfl ⊢
 refine zas (rs:=[i64 (dotV F vals)]) [.tmp 4] Tryz.func136 rfl (by kernel_rfl) Tryz.ntmps136 rfl (by simp) rfl fun C vs=>?_
 apply zq
 refine zb fun K hK=>?_;simp only[go_sem];apply hK
 repeat apply zq
 refine zb fun K hK=>?_;simp only[go_sem]
 refine zh (hfl) rfl (by simp only[go_sem,i64,ints]) (by simp only[go_sem,i64,ints]) ?_
 (try simp only[go_sem])
 intro _
 apply hK;apply zw (zk [2,4,10,11,12]);simp only[go_sem];apply zd
 refine zup (n:=27) F.length (fun i vs=>[(2,.r (.rp [ints vals])),(4,.r (i64 (dotV (F.take i) (vals.take i)))),(10,.r (ints F)),(11,.r (i64 F.length)),(12,.r (i64 i))]) (fun _=>[]) (fun _=>True) 0 (zfo [] ?_ ?_) (Nat.zero_le _) trivial ?_
 ·try simp only[go_sem]
  simp [dotV]
 ·try simp only[go_sem]
 ·intro i vs hi _
  apply zq
  refine zb fun K hK=>?_;simp only[go_sem];apply hK
  apply zq
  apply zc rfl<;>intro hc<;>(try simp only[go_sem] at hc)
  ·have hci:=hc
   have hcv:i<vals.length:=by omega
   obtain⟨x,hx⟩:=zol hci
   obtain⟨y,hy⟩:=zol hcv
   have b1:=q2 x (zmo hx)
   have b2:=hvs y (zmo hy)
   have b3:=zKE b1.1 (by omega) b2.1 b2.2
   have b4:=zIF (xs:=F.take i) (ys:=vals.take i) (fun z hz=>by have:=q2 z (List.mem_of_mem_take hz);omega) (fun z hz=>hvs z (List.mem_of_mem_take hz))
   have b5:((F.take i).length:Int)≤19:=by rw[List.length_take];omega
   have hsn:dotV (F.take (i+1)) (vals.take (i+1))=dotV (F.take i) (vals.take i)+x*y:=by
    rw[zto hx,zto hy,zHB (by simp;omega)]
   have hw1:IntKind.i64.wrap (x*y)=x*y:=by rw[zI]<;>omega
   apply zx
   apply zq
   apply zd
   apply zq
   refine zb fun K hK=>?_;simp only[go_sem,hx,hci];apply hK;refine zb fun K hK=>?_;simp only[go_sem,hy,hcv,hw1];(try simp (disch:=omega) only[zI]);apply hK;apply zw (zk [2,4,10,11,12]);simp only[go_sem];refine zb fun K hK=>?_;simp only[go_sem];(try simp (disch:=omega) only[zI]);apply hK
   try simp only[go_sem]
   refine⟨hci,zfo [] ?_ ?_⟩
   ·simp only[go_sem,hsn]
   ·try simp only[go_sem]
  ·apply zf;simp only[go_sem]
   apply zq
   refine zb fun K hK=>?_;simp only[go_sem];apply hK;apply ze;simp only[go_sem];rw[List.take_of_length_le (by omega),List.take_of_length_le (by omega)]
theorem zLi (a:Int) (l:List Bd) (d:Int) (vals:List Int) (hv:vals.length=l.length) (hl:l.length≤19) (hch:chOk d l=true) (hd:d≤3000) (h1:loS l≤d) (hvs:Vals vals) :
 zAA Tryz.prog 99 [.ag [i64 a,zBJ l,i64 d],ints vals] (.ag [i64 (zCE d l vals),i64 (zCF d l vals)]):=by
 refine zas (rs:=[.ag [i64 (zCE d l vals),i64 (zCF d l vals)]]) [.cell 4 48] Tryz.func99 rfl (by kernel_rfl) Tryz.ntmps99 rfl (by simp) rfl fun C vs=>?_
 apply zq
 refine zb fun K hK=>?_;simp only[go_sem];apply hK
 apply zq
 refine zb fun K hK=>?_;simp only[go_sem];apply hK
 apply zq
 refine zb fun K hK=>?_;simp only[go_sem]
 refine zh (zNH a l d vals 138 cmpI zPp hv hl hch hd h1 hvs) rfl (by simp only[go_sem,i64,ints]) (by simp only[go_sem,i64,ints]) ?_
 (try simp only[go_sem])
 refine zh (zNH a l d vals 139 (fun x y=>cmpI y x) zOx hv hl hch hd h1 hvs) rfl (by simp only[go_sem,i64,ints]) (by simp only[go_sem,i64,ints]) ?_
 (try simp only[go_sem]);apply hK;apply ze;simp only[go_sem]
 simp [zCE,zCF]
theorem zMI {b:Int}(h:zAb b=true):100≤b∧b≤499:=by
 simp only[zAb,Bool.or_eq_true,Bool.and_eq_true,decide_eq_true_eq] at h
 omega
theorem zJm:∀ {p:Option Int}{l:List Bd},zCK p l=true→∀ x∈l,0≤x.b∧x.b≤499
 | _,[],_,x,hx=>by cases hx
 | p, y::l, h, x, hx=>by
   simp only[zCK,Bool.and_eq_true,Bool.or_eq_true,decide_eq_true_eq] at h
   rcases List.mem_cons.1 hx with rfl|hx
   ·rcases h.1.1 with h0|h0
    ·omega
    ·have:=zMI h0;omega
   ·exact zJm h.2 x hx
def zAs (l:List Bd):List Int:=l.map fun x=>zAD x.b
def zER (d:Int) (a:Am):Int × Int:=(zCE d a.beds (zAs a.beds),zCF d a.beds (zAs a.beds))
abbrev zTI (l:List (Int × Int)):RV:=.sl 2 (l.map fun x=>[i64 x.1,i64 x.2])
def zJh (d:Int) (l:List Am):List (Int × Int):=if zAe d l=0 then l.map (zER d) else []
theorem zTF (d:Int) (l:List Am) (hw:WfL d l):zAA Tryz.prog 66 [lawV d l] (.tu [zTI (zJh d l),i64 (zAe d l)]):=by
 refine zAx (rs:=[zTI (zJh d l),i64 (zAe d l)]) [.cell 2 36,.tmp 3] Tryz.func66 rfl (by kernel_rfl) Tryz.ntmps66 rfl (by simp) rfl fun C hC vs=>?_
 apply zq
 refine zb fun K hK=>?_;simp only[go_sem];apply hK
 repeat apply zq
 refine zb fun K hK=>?_;simp only[go_sem]
 refine zh (zJH d l hw) rfl (by simp only[go_sem,i64,ints]) (by simp only[go_sem,i64,ints]) ?_
 (try simp only[go_sem]);apply hK
 apply zq
 refine zb fun K hK=>?_;simp only[go_sem]
 cases hE:zAe d l != 0
 case true =>
  apply hK
  have hne:¬ zAe d l=0:=by simpa using hE
  apply zc rfl<;>intro hc<;>(try simp only[go_sem] at hc)
  apply zq
  refine zb fun K hK=>?_;simp only[go_sem];apply hK;apply ze;simp only[go_sem]
  simp [hne,zJh]
 have h0:zAe d l=0:=by simpa using hE
 obtain⟨c1,c2,c3,c4,c5⟩:=zEk h0
 apply hK
 apply zc rfl<;>intro hc<;>(try simp only[go_sem] at hc)
 apply zx
 try simp only[go_sem]
 repeat apply zq
 refine zb fun K hK=>?_;simp only[go_sem]
 refine zh (zRO d l) rfl (by simp only[go_sem,i64,ints]) (by simp only[go_sem,i64,ints]) ?_
 (try simp only[go_sem]);apply hK;apply zw (zk [2,16]);simp only[go_sem];apply zd;refine zw (zCG 2 0 39 48 2 (by omega) (by omega) rfl rfl) ?_
 try simp only[go_sem]
 refine zCU hC (zDM d l) (zMT d l) [2,16] (by decide) (fun vs=>[(2,.pt 2 (vs 2) 0),(16,.r (.fn 96 [.rp [i64 d,zAl l]]))])
  (fun i vs=>[(2,.box [.os 39 (vs 39) 2 0 i]),(39,.arr 48 2 (((l.map (zER d)).take i).map fun x=>[i64 x.1,i64 x.2]))])
  (fun i=>True) (zj [1] ?_ ?_) trivial (fun _=>rfl) (fun _=>rfl) (fun _ _=>rfl) (by simp) (fun e he=>zHA he) ?_ ?_
 ·try simp only[go_sem]
 ·try simp only[go_sem]
 ·intro i e vs us C he _
  obtain⟨x,hx,rfl⟩:=zFO he
  obtain⟨_,_,k3,k4,k5,_⟩:=zEm (c5 x (zmo hx))
  have hsq:=zJm k3
  have hbl:=c2 x (zmo hx)
  have hil:i<l.length:=(List.getElem?_eq_some_iff.1 hx).1
  have hlt:((l.map (zER d)).take i).length=i:=by rw[List.length_take];simp;omega
  have htx:(l.map (zER d)).take (i+1)=(l.map (zER d)).take i++[zER d x]:=zto (by simp [hx])
  have hvals:Vals (zAs x.beds):=fun v hv=>by
   obtain⟨y,hy,rfl⟩:=List.mem_map.1 hv
   have:=zIZ (hsq y hy).1 (hsq y hy).2
   omega
  refine zb fun K hK=>?_;simp only[go_sem];apply hK
  refine⟨rfl,fun C'=>?_⟩
  apply zw (zk [2,6,16]);simp only[go_sem];apply zd
  apply zq
  refine zb fun K hK=>?_;simp only[go_sem];apply hK
  repeat apply zq
  refine zb fun K hK=>?_;simp only[go_sem]
  intro _
  apply hK;apply zw (zk [2,6,7,16,21,22,23]);simp only[go_sem];refine zw (zIW 7 32 3 1 (by omega) rfl) ?_
  try simp only[go_sem]
  apply zd
  refine zuv (n:=41) x.beds.length (fun k vs=>[(2,.pt 2 (vs 2) 0),(6,.pt 6 (vs 6) 0),(7,.os 32 (vs 32) 1 0 k),(16,.r (.fn 96 [.rp [i64 d,zAl l]])),(21,.r (zBJ x.beds)),(22,.r (i64 x.beds.length)),(23,.r (i64 k))])
   (fun k vs=>[(0,.sus [.pt 2 (vs 2) 0,.r (.fn 96 [.rp [i64 d,zAl l]])] us),(2,.box [.os 39 (vs 39) 2 0 i]),(6,.box [.r (i64 x.at_),.r (zBJ x.beds),.r (i64 d)]),(32,.arr 3 1 (((zAs x.beds).take k).map fun x=>[i64 x])),(39,.arr 48 2 (((l.map (zER d)).take i).map fun x=>[i64 x.1,i64 x.2]))])
   (fun _=>True) 0 (zj [] ?_ ?_) (Nat.zero_le _) trivial ?_
  ·try simp only[go_sem]
  ·try simp only[go_sem]
  ·intro k vs hk _
   have hlk:((zAs x.beds).take k).length=k:=by rw[List.length_take];simp [zAs];omega
   apply zq
   refine zb fun K hK=>?_;simp only[go_sem];apply hK
   apply zq
   apply zc rfl<;>intro hc<;>(try simp only[go_sem] at hc)
   ·have hci:=hc
    obtain⟨y,hy⟩:=zol hc
    have hsy:=hsq y (zmo hy)
    have htk:(zAs x.beds).take (k+1)=(zAs x.beds).take k++[zAD y.b]:=zto (by simp [zAs,hy])
    apply zx
    apply zq
    apply zd
    apply zq
    refine zb fun K hK=>?_;simp only[go_sem,hy,hc,bedR];apply hK;apply zw (zk [2,6,7,9,16,21,22,23]);simp only[go_sem];refine zb fun K hK=>?_;simp only[go_sem,hlk]
    refine zh (zRh y.b hsy.1 hsy.2) rfl (by simp only[go_sem,i64,ints,hlk]) (by simp only[go_sem,i64,ints,hlk]) ?_
    (try simp only[go_sem,hlk])
    refine⟨by omega,?_⟩
    apply hK;apply zw (zk [2,6,7,16,21,22,23]);simp only[go_sem];refine zb fun K hK=>?_;simp only[go_sem];(try simp (disch:=omega) only[zI]);apply hK
    try simp only[go_sem]
    refine⟨hci,zj [9] ?_ ?_⟩
    ·try simp only[go_sem]
    ·try simp only[go_sem]
     rw[htk]
     simp
   ·apply zf;simp only[go_sem]
    have hkk:k=x.beds.length:=by omega
    subst hkk
    have e1:(zAs x.beds).take x.beds.length=zAs x.beds:=List.take_of_length_le (by simp [zAs])
    rw[e1]
    have hvl:(zAs x.beds).length=x.beds.length:=by simp [zAs]
    refine zw (zEW (ty:=3) (sz:=1) (off:=0) (m:=x.beds.length) (es:=(zAs x.beds).map fun x=>[i64 x]) 7 32 (by omega) (by try simp only[go_sem]) (by try simp only[go_sem]) (by simp [hvl])) ?_
    have e2:(((zAs x.beds).map fun x=>[i64 x]).drop 0).take x.beds.length=(zAs x.beds).map fun x=>[i64 x]:=by
     rw[List.drop_zero,List.take_of_length_le (by simp [hvl])]
    rw[e2]
    try simp only[go_sem]
    refine zDQ [(2,some 2),(6,some 6),(7,none)] [2,6] follows (by decide +kernel) (by kernel_rfl) (by simp only[zAO,List.mem_cons,List.not_mem_nil,forall_eq_or_imp,Oc.keyOf,go_sem];simp) (by intro k hk;simp only[List.mem_cons,List.not_mem_nil,or_false] at hk;first|(subst hk;exact⟨_,rfl⟩)|(rcases hk with rfl|rfl<;>exact⟨_,rfl⟩)|(rcases hk with rfl|rfl|rfl<;>exact⟨_,rfl⟩)) fun K hK=>?_
    simp only[go_sem,hlt]
    refine zh (zLi x.at_ x.beds d (zAs x.beds) hvl (by omega) k4 (by omega) k5 hvals) rfl (by simp only[go_sem,i64,ints,hlt]) (by simp only[go_sem,i64,ints,hlt]) ?_
    (try simp only[go_sem,hlt])
    refine⟨by omega,?_⟩
    apply hK
    try simp only[go_sem]
    refine zj (F:=fun _=>[]) [6] (by try simp only[go_sem]) ?_
    try simp only[go_sem]
    rw[htx]
    simp [zER]
 ·intro vs us _
  try simp only[go_sem]
  refine zw (zBk rfl) ?_
  apply zq
  refine zb fun K hK=>?_;simp only[go_sem];apply hK;apply ze;simp only[go_sem]
  have hel:(zDM d l).length=l.length:=by simp [zDM]
  rw[hel,h0]
  have e1:(l.map (zER d)).take l.length=l.map (zER d):=List.take_of_length_le (by simp)
  rw[e1]
  refine⟨⟨by simp,?_⟩,rfl⟩
  rw[List.take_of_length_le (by simp),zJh,if_pos h0]
end Go.Proofs.YtgfbenanljjgaaaGreat.Du.Th

/- Part 10 of the texts of this claim. -/
import Derived.Test.YtonpmcdkncbjoaaGreatVA9
import Derived.Test.YtonpmcdkncbjoaaGreatVA6
import Derived.Test.YtonpmcdkncbjoaaGreatVA5
import Derived.Test.YtonpmcdkncbjoaaGreatVA7
import Derived.Test.YtonpmcdkncbjoaaGreatVA8
set_option linter.unusedSimpArgs false
set_option linter.unusedVariables false
namespace Go.Proofs.YtonpmcdkncbjoaaGreat.Du.Th
open Go Go.Oc Go.Proofs.YtonpmcdkncbjoaaGreat.Bo
set_option maxRecDepth 8000
set_option maxHeartbeats 4000000
abbrev u8Q (n:Nat):RV:=.it .u8 (n:Int)
abbrev trisR (H:List (List Nat)):RV:=.sl 3 (H.map fun a=>a.map u8Q)
abbrev u8L (ch:List Nat):RV:=.sl 1 (ch.map fun n:Nat=>[.it .u8 (n:Int)])
def byteA (C:List Nat) (n:Nat):Int:=if C.length=0 then 0 else (C.getD (n % C.length) 0:Int)
theorem byteA_le {C:List Nat}(h:∀ x∈C,x<256) (n:Nat):0≤byteA C n∧byteA C n≤255:=by
 unfold byteA
 split
 ·omega
 ·have hm:=Nat.mod_lt n (show C.length > 0 by omega)
  rw[List.getD_eq_getElem?_getD,List.getElem?_eq_getElem hm]
  have:=h _ (List.getElem_mem hm)
  simp only[Option.getD_some]
  omega
theorem armbyte_ok (ch:List Nat) (hC:∀ x∈ch,x<256) (n:Nat) (hn:n≤1000):ACalls Tryz.prog 8 [u8L ch,i64 (n:Int)] (i64 (byteA ch n)):=by
 refine zas (rs:=[i64 (byteA ch n)]) [.tmp 4] Tryz.func8 rfl (by kernel_rfl) Tryz.ntmps8 rfl (by simp) rfl fun C vs=>?_
 apply zq
 refine zb fun K hK=>?_;simp only[go_sem];apply hK;apply zw (zk [0,1]);simp only[go_sem]
 by_cases h:ch.length=0
 ·have d1:((ch.length:Int) == 0)=true:=by rw[beq_iff_eq];omega
  repeat apply zq
  refine zb fun K hK=>?_;simp only[go_sem,d1,List.length_map]
  intro _
  apply hK;apply zw (zk [0,1,7]);simp only[go_sem]
  apply zc rfl<;>intro hc<;>(try simp only[go_sem] at hc)
  apply zq
  refine zb fun K hK=>?_;simp only[go_sem];apply hK;apply zw (zk [4]);simp only[go_sem];apply ze;simp only[go_sem]
  unfold byteA
  rw[if_pos h]
 ·have d1:((ch.length:Int) == 0)=false:=by rw[beq_eq_false_iff_ne];omega
  have hml:=Nat.mod_lt n (show ch.length > 0 by omega)
  have hm:Int.tmod (n:Int) (ch.length:Int)=((n % ch.length:Nat):Int):=rfl
  obtain⟨x,hx⟩:=zol hml
  have hx2:=hC x (zmo hx)
  have hb:byteA ch n=(x:Int):=by
   unfold byteA
   rw[if_neg h,List.getD_eq_getElem?_getD,hx];rfl
  have wx:IntKind.i64.wrap (x:Int)=x:=by rw[zI]<;>omega
  rw[hb]
  generalize n % ch.length=m at *
  repeat apply zq
  refine zb fun K hK=>?_;simp only[go_sem,d1,List.length_map]
  intro _
  apply hK;apply zw (zk [0,1,7]);simp only[go_sem]
  apply zc rfl<;>intro hc<;>(try simp only[go_sem] at hc)
  apply zx
  try simp only[go_sem]
  apply zq
  refine zb fun K hK=>?_;simp only[go_sem,hm,hx,hml,wx,List.length_map];repeat first|intro _|refine⟨by omega,?_⟩
  apply hK;apply zw (zk [4]);simp only[go_sem];apply ze;simp only[go_sem]
def befL (C:List Nat) (i:Nat):List Int:=(List.range i).map (byteA C)
theorem bef_snoc (C:List Nat) (i:Nat):befL C (i+1)=befL C i++[byteA C i]:=by simp [befL,List.range_succ]
theorem bef_len (C:List Nat) (i:Nat):(befL C i).length=i:=by simp [befL]
theorem bef_le {C:List Nat}(h:∀ x∈C,x<256) (i:Nat):∀ x∈befL C i,0≤x∧x≤255:=fun x hx=>by
 obtain⟨j,_,rfl⟩:=List.mem_map.1 hx
 exact byteA_le h j
theorem bef_sum {C:List Nat}(h:∀ x∈C,x<256):∀ i:Nat,0≤(befL C i).sum∧(befL C i).sum≤255*i
 | 0=>by simp [befL]
 | i+1=>by
   have ih:=bef_sum h i
   have:=byteA_le h i
   rw[bef_snoc,suml_app]
   simp only[List.sum_cons,List.sum_nil]
   omega
def hitS (c:List Int) (i:Nat):Int:=((List.range i).map fun j=>wkP c (nbW.getD j 0) 10).sum
theorem hit_succ (c:List Int) (i:Nat):hitS c (i+1)=hitS c i+wkP c (nbW.getD i 0) 10:=by
 unfold hitS
 rw[List.range_succ,List.map_append,suml_app]
 simp
theorem hit_all (c:List Int):hitS c 20=(weekI c 20).sum:=by
 unfold hitS weekI
 exact congrArg List.sum (List.map_congr_left fun j hj=>(if_pos (List.mem_range.1 hj)).symm)
theorem week_le {c:List Int}(h:∀ x∈c,0≤x∧x≤60) (i:Nat):∀ x∈weekI c i,0≤x∧x≤600:=fun x hx=>by
 obtain⟨j,_,rfl⟩:=List.mem_map.1 hx
 split
 ·have:=wkP_bound (c:=c) (m:=60) (by omega) h (nbW.getD j 0) 10
  omega
 ·omega
theorem hit_le {c:List Int}(h:∀ x∈c,0≤x∧x≤60):∀ i:Nat,0≤hitS c i∧hitS c i≤600*i
 | 0=>by simp [hitS]
 | i+1=>by
   have ih:=hit_le h i
   have:=wkP_bound (c:=c) (m:=60) (by omega) h (nbW.getD i 0) 10
   rw[hit_succ]
   omega
def visW (H:List (List Nat)):Nat:=min 20 H.length
theorem dart_at (H:List (List Nat)) (i k:Nat) {a:List Nat}{y:Nat}(ha:H[i]? = some a) (hy:a[k]? = some y):triN bsW.length H i k=y % 10:=by
 have hi:=(List.getElem?_eq_some_iff.1 ha).1
 have hl:bsW.length=10:=rfl
 unfold triN hitN
 rw[hl,if_pos hi]
 simp [List.getD_eq_getElem?_getD,ha,hy]
theorem take_sum {A:List Int}(h:∀ x∈A,0≤x∧x≤855):∀ i:Nat,0≤(A.take i).sum∧(A.take i).sum≤855*i
 | 0=>by simp
 | i+1=>by
   have ih:=take_sum h i
   rw[List.take_add_one,suml_app]
   cases e:A[i]? with
   | none=>simp;omega
   | some v =>
     have:=h v (List.mem_of_getElem? e)
     simp;omega
theorem take_sum1 {A:List Int}{i:Nat}{v:Int}(h:A[i]? = some v):(A.take (i+1)).sum=(A.take i).sum+v:=by
 rw[List.take_add_one,suml_app,h];simp
theorem take_max1 {A:List Int}{i:Nat}{v:Int}(h:A[i]? = some v):(A.take (i+1)).foldl max 0=max ((A.take i).foldl max 0) v:=by
 rw[List.take_add_one,h];simp
theorem wk_ok {C:List Nat}(hC:∀ x∈C,x<256) (H:List (List Nat)):WkOk (befL C 20) (weekI (cntW H) 20) :=
 ⟨bef_len C 20,week_len _ 20,bef_le hC 20,week_le (cntW_le H) 20⟩
open Go Go.Oc
def cmpI (x y:Int):Int:=if x<y then -1 else if y<x then 1 else 0
theorem nan_ok (n:Int):ACalls Tryz.prog 109 [i64 n] (.bo false):=by
 refine zas (rs:=[.bo false]) [.tmp 2] Tryz.func109 rfl (by kernel_rfl) Tryz.ntmps109 rfl (by simp) rfl fun C vs=>?_
 apply zq
 refine zb fun K hK=>?_;simp only[go_sem];apply hK;clear hK K
 apply zq
 refine zb fun K hK=>?_;simp only[go_sem];apply hK;clear hK K;apply ze;simp only[go_sem]
 simp
theorem compare_ok (x y:Int):ACalls Tryz.prog 95 [i64 x,i64 y] (i64 (cmpI x y)):=by
 refine zas (rs:=[i64 (cmpI x y)]) [.tmp 4] Tryz.func95 rfl (by kernel_rfl) Tryz.ntmps95 rfl (by simp) rfl fun C vs=>?_
 apply zq
 refine zb fun K hK=>?_;simp only[go_sem];apply hK;clear hK K
 apply zq
 refine zb fun K hK=>?_;simp only[go_sem]
 refine zh (nan_ok x) rfl (by simp only[go_sem,i64,ints]) (by simp only[go_sem,i64,ints]) ?_
 (try simp only[go_sem]);apply hK;clear hK K
 apply zq
 refine zb fun K hK=>?_;simp only[go_sem]
 refine zh (nan_ok y) rfl (by simp only[go_sem,i64,ints]) (by simp only[go_sem,i64,ints]) ?_
 (try simp only[go_sem]);apply hK;clear hK K
 repeat apply zq
 refine zb fun K hK=>?_;simp only[go_sem];apply hK;clear hK K
 apply zc rfl<;>intro hc<;>(try simp only[go_sem] at hc)
 apply zx
 try simp only[go_sem]
 repeat apply zq
 refine zb fun K hK=>?_;simp only[go_sem];apply hK;clear hK K
 apply zc rfl<;>intro hc<;>(try simp only[go_sem] at hc)
 apply zx
 try simp only[go_sem]
 repeat apply zq
 refine zb fun K hK=>?_;simp only[go_sem];apply hK;clear hK K
 apply zc rfl<;>intro hc<;>(try simp only[go_sem] at hc)
 ·apply zq
  refine zb fun K hK=>?_;simp only[go_sem];apply hK;clear hK K;apply ze;simp only[go_sem]
  simp [cmpI,hc]
 apply zx
 try simp only[go_sem]
 repeat apply zq
 refine zb fun K hK=>?_;simp only[go_sem];apply hK;clear hK K
 have h1:=hc
 apply zc rfl<;>intro hc<;>(try simp only[go_sem] at hc)
 ·apply zq
  refine zb fun K hK=>?_;simp only[go_sem];apply hK;clear hK K;apply ze;simp only[go_sem]
  have:¬ x<y:=by omega
  simp [cmpI,hc,this]
 apply zx
 try simp only[go_sem]
 apply zq
 refine zb fun K hK=>?_;simp only[go_sem];apply hK;clear hK K;apply ze;simp only[go_sem]
 have h2:¬ x<y:=by omega
 have h3:¬ y<x:=by omega
 simp [cmpI,h2,h3]
def insB (lt:Nat→Nat→Bool) (x:Nat):List Nat→List Nat
 | []=>[x]
 | y::ys=>if lt x y then y::insB lt x ys else x::y::ys
def sortB (lt:Nat→Nat→Bool):List Nat→List Nat→List Nat
 | [],R=>R
 | x::xs,R=>sortB lt xs (insB lt x R)
def sortN (lt:Nat→Nat→Bool) (l:List Nat):List Nat:=(sortB lt l []).reverse
theorem insB_len (lt:Nat→Nat→Bool) (x:Nat):∀ R,(insB lt x R).length=R.length+1
 | []=>rfl
 | y::R=>by
   unfold insB
   split
   ·simp [insB_len lt x R]
   ·rfl
theorem insB_skip (lt:Nat→Nat→Bool) (x:Nat):∀ (R:List Nat) (k:Nat),(∀ y∈R.take k,lt x y=true)→insB lt x R=R.take k++insB lt x (R.drop k)
 | R,0,_=>by simp
 | [],k+1,_=>by simp
 | y::R, k+1, h=>by
   have hy:lt x y=true:=h y (by simp)
   have ih:=insB_skip lt x R k fun z hz=>h z (by simp [hz])
   simp only[List.take_succ_cons,List.drop_succ_cons,List.cons_append];rw[← ih]
   simp [insB,hy]
theorem sortB_snoc (lt:Nat→Nat→Bool):∀ (l:List Nat) (x:Nat) (R:List Nat),sortB lt (l++[x]) R=insB lt x (sortB lt l R)
 | [],_,_=>rfl
 | y::l,x,R=>by simp only[List.cons_append,sortB];exact sortB_snoc lt l x _
theorem sortB_len (lt:Nat→Nat→Bool):∀ (l R:List Nat),(sortB lt l R).length=l.length+R.length
 | [],R=>by simp [sortB]
 | x::l,R=>by simp only[sortB];rw[sortB_len lt l,insB_len];simp;omega
theorem mem_insB (lt:Nat→Nat→Bool) (x z:Nat):∀ R,z∈insB lt x R↔z=x∨z∈R
 | []=>by simp [insB]
 | y::R=>by
   unfold insB
   split
   ·simp only[List.mem_cons,mem_insB lt x z R]
    constructor
    ·rintro (h|h|h)<;>simp [h]
    ·rintro (h|h|h)<;>simp [h]
   ·simp
theorem mem_sortB (lt:Nat→Nat→Bool) (z:Nat):∀ l R,z∈sortB lt l R↔z∈l∨z∈R
 | [],R=>by simp [sortB]
 | x::l, R=>by
   simp only[sortB];rw[mem_sortB lt z l,mem_insB]
   simp only[List.mem_cons]
   constructor
   ·rintro (h|h|h)<;>simp [h]
   ·rintro ((h|h)|h)<;>simp [h]
def holeL (R:List Nat) (x k:Nat) (rest:List Nat):List Nat:=(R.drop k).reverse++x::((R.take k).reverse++rest)
theorem hole_len (R:List Nat) (x k:Nat) (rest:List Nat) (hk:k≤R.length):(holeL R x k rest).length=R.length+1+rest.length:=by
 simp [holeL];omega
theorem hole_at (R:List Nat) (x k:Nat) (rest:List Nat) (hk:k≤R.length):(holeL R x k rest)[R.length-k]? = some x:=by
 unfold holeL
 rw[List.getElem?_append_right (by simp)]
 simp
theorem hole_next {R:List Nat}{x k y:Nat}{rest:List Nat}(hy:R[k]? = some y):(holeL R x k rest)[R.length-k-1]? = some y∧(holeL R x k rest)=(R.drop (k+1)).reverse++y::x::((R.take k).reverse++rest)∧holeL R x (k+1) rest=(R.drop (k+1)).reverse++x::y::((R.take k).reverse++rest):=by
 have hk:=(List.getElem?_eq_some_iff.1 hy).1
 have hd:=drop_of_opt hy
 have ht:=zto hy
 have e1:(holeL R x k rest)=(R.drop (k+1)).reverse++y::x::((R.take k).reverse++rest):=by
  unfold holeL;rw[hd];simp
 refine⟨?_,e1,by unfold holeL;rw[ht];simp⟩
 rw[e1,List.getElem?_append_right (by simp;omega)]
 have:R.length-k-1-(R.drop (k+1)).reverse.length=0:=by simp;omega
 rw[this];rfl
theorem hole_swap {α:Type}(g:Nat→α) {R:List Nat}{x k y:Nat}{rest:List Nat}(hy:R[k]? = some y) :
 (((holeL R x k rest).map g).set (R.length-k) (g y)).set (R.length-k-1) (g x)=(holeL R x (k+1) rest).map g:=by
 obtain⟨_,e1,e2⟩:=hole_next (x:=x) (rest:=rest) hy
 have hk:=(List.getElem?_eq_some_iff.1 hy).1
 rw[e1,e2,← List.map_set,← List.map_set]
 congr 1
 have hl:(R.drop (k+1)).reverse.length=R.length-k-1:=by simp;omega
 generalize (R.drop (k+1)).reverse=A at hl
 generalize (R.take k).reverse++rest=B
 have e3:R.length-k=A.length+1:=by omega
 rw[e3,Nat.add_sub_cancel]
 rw[List.set_append_right _ _ (by omega)]
 simp only[Nat.add_sub_cancel_left,List.set_cons_succ,List.set_cons_zero];rw[List.set_append_right _ _ (by omega)]
 simp
theorem lent_put {vs:Nat→Nat}{k:Nat}(h:Lent vs):Lent (upd vs k 0):=fun j hj=>by
 unfold upd;split
 ·rfl
 ·exact h j hj
abbrev idx (l:List Nat):List (List RV):=l.map fun (x:Nat)=>[i64 (x:Int)]
theorem insertion_ok (lt:Nat→Nat→Bool) (c:Nat→Nat→Int) (f:Nat) (caps:List RV) (l:List Nat) (hl:l.length≤1000) (hlt:∀ x y,lt x y=decide (c x y<0))
 (hcc:∀ x∈l,∀ y∈l,ACalls Tryz.prog f (i64 (x:Int)::i64 (y:Int)::caps) (i64 (c x y))) :
 MCalls Tryz.prog 114 [(1000,.arr 3 1 (idx l))] [(1000,.arr 3 1 (idx (sortN lt l)))] [.os 1000 0 1 0 l.length,.r (i64 0),.r (i64 l.length),.r (.fn f caps)] (.tu []):=by
 refine mcalls_st (n:=53) (rs:=[]) _ _ [] Tryz.func114 rfl (by kernel_rfl) Tryz.ntmps114 rfl (by simp) rfl rfl fun C=>?_
 have hmem:∀ i z,z∈sortB lt (l.take i) []→z∈l:=fun i z hz=>by
  rw[mem_sortB] at hz
  rcases hz with hz|hz
  ·exact List.mem_of_mem_take hz
  ·cases hz
 apply zq
 refine zb fun K hK=>?_;simp only[go_sem];(try simp (disch:=omega) only[zI]);apply hK;clear hK K;apply zw (zk [0,1,2,3,8]);simp only[go_sem];apply zd
 refine awp_upto0 (n:=53) (max l.length 1) (fun i vs=>[(0,.os 1000 0 1 0 l.length),(1,.r (i64 0)),(2,.r (i64 l.length)),(3,.r (.fn f caps)),(8,.r (i64 i))])
  (fun i=>[(1000,.arr 3 1 (idx ((sortB lt (l.take i) []).reverse++l.drop i)))]) (fun i=>1≤i) 1 (fit0_of [] lent_zero ?_ ?_) (by omega) (Nat.le_refl _) ?_
 ·try simp only[go_sem]
 ·simp only[go_sem]
  cases l with
  | nil=>rfl
  | cons x l=>simp [sortB,insB]
 ·intro i vs hv hi hi1
  have hv0:=hv 1000 (by omega)
  repeat apply zq
  refine zb fun K hK=>?_;simp only[go_sem];apply hK;clear hK K;apply zw (zk [0,1,2,3,8,14]);simp only[go_sem]
  apply zc rfl<;>intro hc<;>(try simp only[go_sem] at hc)
  ·have hci:i<l.length:=by omega
   obtain⟨x,hx⟩:=zol hci
   obtain⟨R,hR⟩:∃ R,R=sortB lt (l.take i) []:=⟨_,rfl⟩
   have hRl:R.length=i:=by rw[hR,sortB_len];simp;omega
   have hRm:∀ z∈R,z∈l:=fun z hz=>hmem i z (hR▸hz)
   have hnx:sortB lt (l.take (i+1)) []=insB lt x R:=by rw[zto hx,sortB_snoc,hR]
   have hst:(sortB lt (l.take i) []).reverse++l.drop i=holeL R x 0 (l.drop (i+1)):=by rw[← hR,drop_of_opt hx];simp [holeL]
   rw[hst]
   apply zx
   apply zq
   apply zd
   apply zq
   refine zb fun K hK=>?_;simp only[go_sem];apply hK;clear hK K;apply zw (zk [0,1,2,3,8,9]);simp only[go_sem];apply zd
   refine awp_upto0 (n:=53) i (fun k vs=>[(0,.os 1000 0 1 0 l.length),(1,.r (i64 0)),(2,.r (i64 l.length)),(3,.r (.fn f caps)),(8,.r (i64 i)),(9,.r (i64 (i-k:Nat)))])
    (fun k=>[(1000,.arr 3 1 (idx (holeL R x k (l.drop (i+1)))))]) (fun k=>∀ y∈R.take k,lt x y=true) 0 (fit0_of [] hv ?_ ?_) (Nat.zero_le _) (by simp) ?_
   ·try simp only[go_sem]
   ·try simp only[go_sem]
   ·intro k vs hv hk hI
    have hv0:=hv 1000 (by omega)
    have hins:=insB_skip lt x R k hI
    have done:insB lt x (R.drop k)=x::R.drop k→sortB lt (l.take (i+1)) []=R.take k++x::R.drop k:=fun h=>by rw[hnx,hins,h]
    by_cases hk0:k=i
    ·have e0:i-k=0:=by omega
     repeat apply zq
     refine awp_dreg2 [(0,some 1000)] follows (by decide +kernel) (by kernel_rfl) (by simp only[keysOk,List.mem_cons,List.not_mem_nil,forall_eq_or_imp,Oc.keyOf,go_sem];simp) fun K hK=>?_
     simp only[go_sem,hv0,e0];apply hK;clear hK K;apply zw (zk [0,1,2,3,8,9,34]);simp only[go_sem]
     apply zc rfl<;>intro hc<;>(try simp only[go_sem] at hc)
     apply zf;simp only[go_sem];refine zb fun K hK=>?_;simp only[go_sem];(try simp (disch:=omega) only[zI]);apply hK;clear hK K
     try simp only[go_sem]
     refine⟨by omega,fit0_of [] hv ?_ ?_⟩
     ·try simp only[go_sem]
     ·have hd0:R.drop k=[]:=List.drop_eq_nil_of_le (by omega)
      have:=done (by rw[hd0];rfl)
      simp only[go_sem,this]
      simp [holeL]
    ·obtain⟨y,hy⟩:=zol (l:=R) (i:=k) (by omega)
     obtain⟨j,hj⟩:∃ j,i-k=j+1:=⟨i-k-1,by omega⟩
     have hjs:IntKind.i64.wrap ((j:Int)+1-1)=j:=by rw[zI]<;>omega
     have hlen:(holeL R x k (l.drop (i+1))).length=l.length:=by rw[hole_len _ _ _ _ (by omega),List.length_drop];omega
     have hxa:(holeL R x k (l.drop (i+1)))[j+1]? = some x:=by rw[← hj,← hRl];exact hole_at R x k _ (by omega)
     have hya:(holeL R x k (l.drop (i+1)))[j]? = some y:=by
      have:=(hole_next (x:=x) (rest:=l.drop (i+1)) hy).1
      rw[hRl,hj] at this
      exact this
     have hcall:=hcc x (zmo hx) y (hRm y (zmo hy))
     have hpos:(0<(j:Int)+1)=True:=by simp
     have hlxy:=hlt x y
     repeat apply zq
     refine awp_dreg2 [(0,some 1000)] follows (by decide +kernel) (by kernel_rfl) (by simp only[keysOk,List.mem_cons,List.not_mem_nil,forall_eq_or_imp,Oc.keyOf,go_sem];simp) fun K hK=>?_
     simp only[go_sem,hv0,hj,hjs,hxa,hya,hlen,hpos]
     refine⟨by omega,by omega,?_⟩
     refine zh (hcall) rfl (by simp only[go_sem,i64,ints,hv0]) (by simp only[go_sem,i64,ints,hv0]) ?_
     (try simp only[go_sem,hv0]);apply hK;clear hK K;apply zw (zk [0,1,2,3,8,9,34]);simp only[go_sem]
     cases hcx:decide (c x y<0)
     ·skip
      apply zc rfl<;>intro hc<;>(try simp only[go_sem] at hc)
      apply zf;simp only[go_sem];refine zb fun K hK=>?_;simp only[go_sem];(try simp (disch:=omega) only[zI]);apply hK;clear hK K
      try simp only[go_sem]
      refine⟨by omega,fit0_of [] hv ?_ ?_⟩
      ·try simp only[go_sem]
      ·have:=done (by rw[drop_of_opt hy];simp [insB,hlxy,hcx])
       simp only[go_sem,this]
       simp [holeL]
     ·skip
      apply zc rfl<;>intro hc<;>(try simp only[go_sem] at hc)
      apply zx
      try simp only[go_sem]
      apply zq
      apply zd
      have hset:((idx (holeL R x k (l.drop (i+1)))).set (j+1) [i64 (y:Int)]).getD j []=[i64 (y:Int)]:=by
       rw[List.getD_eq_getElem?_getD,List.getElem?_set_ne (by omega),List.getElem?_map,hya];rfl
      have hsw:=hole_swap (fun (x:Nat)=>[i64 (x:Int)]) (x:=x) (rest:=l.drop (i+1)) hy
      rw[hRl,hj] at hsw
      simp only[Nat.add_sub_cancel] at hsw
      refine awp_dreg2 [(0,some 1000)] follows (by decide +kernel) (by kernel_rfl) (by simp only[keysOk,List.mem_cons,List.not_mem_nil,forall_eq_or_imp,Oc.keyOf,go_sem];simp) fun K hK=>?_
      simp only[go_sem,hv0,hj,hjs,hxa,hya,hlen,hset,List.length_set]
      repeat' first|intro _|refine And.intro ?_ ?_
      all_goals first|omega|skip
      all_goals (refine hK _ ?_;clear hK K)
      apply zw (zk [0,1,2,3,8,9]);simp only[go_sem];refine zb fun K hK=>?_;simp only[go_sem,hjs];apply hK;clear hK K
      try simp only[go_sem]
      have hj2:i-(k+1)=j:=by omega
      refine⟨by omega,?_,fit0_of [] (lent_put (lent_put hv)) ?_ ?_⟩
      ·rw[zto hy]
       intro z hz
       rcases List.mem_append.1 hz with hz|hz
       ·exact hI z hz
       ·simp only[List.mem_singleton] at hz
        subst hz
        rw[hlxy,hcx]
      ·simp only[go_sem,hj2]
      ·simp only[go_sem];exact congrArg (fun z=>[(1000,RowC.arr 3 1 z)]) hsw
  ·apply zf;simp only[go_sem]
   have h1:l.take i=l:=List.take_of_length_le (by omega)
   have h2:l.drop i=[]:=List.drop_eq_nil_of_le (by omega)
   rw[h1,h2,List.append_nil]
   rfl
theorem relV_unmap {w:World}{p:Plan}{ver:Nat→Nat}:∀ {xs:List RV}{vs:List Value},AV.relV w p ver (xs.map .r) vs→RV.relV w p.R xs vs
 | [],_,h=>by simpa only[List.map_nil,AV.relV,RV.relV] using h
 | x::xs, vs, h=>by
   simp only[List.map_cons,AV.relV,AV.rel] at h
   simp only[RV.relV]
   obtain⟨u,us,h1,h2,h3⟩:=h
   exact⟨u,us,h1,h2,relV_unmap h3⟩
theorem mcalls_fn {F:Nat}{L L':List (Nat × RowC)}{x r:AV}{f:Nat}{caps:List RV}(h:MCalls Tryz.prog F L L' [x,.r (.fn f caps)] r):MCalls Tryz.prog F L L' [x,.fn f (caps.map .r)] r :=
 ⟨h.1,fun w p vs h1 h2 h3 h4 h5 h6 hV=>h.2 w p vs h1 h2 h3 h4 h5 h6 (by
  simp only[AV.relV] at hV ⊢
  obtain⟨u,us,e1,k1,u',us',e2,k2,e3⟩:=hV
  refine⟨u,us,e1,k1,u',us',e2,?_,e3⟩
  simp only[AV.rel,RV.rel] at k2 ⊢
  obtain⟨ws,k3,k4⟩:=k2
  exact⟨ws,k3,relV_unmap k4⟩)⟩
def moreS (l:List Bd) (o:List Int) (m:Int) (i:Nat):Int:=min m ((l[i]?.map (·.hi)).getD 0-(o[i]?).getD 0)
def fillS (l:List Bd):List Nat→List Int × Int→List Int × Int
 | [],x=>x
 | i::is,x=>fillS l is (x.1.set i ((x.1[i]?).getD 0+moreS l x.1 x.2 i),x.2-moreS l x.1 x.2 i)
theorem fillS_snoc (l:List Bd):∀ (is:List Nat) (i:Nat) (x:List Int × Int),fillS l (is++[i]) x=((fillS l is x).1.set i (((fillS l is x).1[i]?).getD 0+moreS l (fillS l is x).1 (fillS l is x).2 i),(fillS l is x).2-moreS l (fillS l is x).1 (fillS l is x).2 i)
 | [],_,_=>rfl
 | j::is,i,x=>by simp only[List.cons_append,fillS];exact fillS_snoc l is i _
def FillOk (l:List Bd) (x:List Int × Int):Prop:=x.1.length=l.length∧(0≤x.2∧x.2≤6000)∧∀ (i:Nat) (b:Bd) (o:Int),l[i]? = some b→x.1[i]? = some o→b.lo≤o∧o≤b.hi
theorem fillOk_step {l:List Bd}{x:List Int × Int}(h:FillOk l x) {i:Nat}{b:Bd}{o:Int}(hb:l[i]? = some b) (ho:x.1[i]? = some o) :
 moreS l x.1 x.2 i=min x.2 (b.hi-o)∧0≤moreS l x.1 x.2 i∧FillOk l (x.1.set i ((x.1[i]?).getD 0+moreS l x.1 x.2 i),x.2-moreS l x.1 x.2 i):=by
 obtain⟨h1,h2,h3⟩:=h
 obtain⟨h4,h5⟩:=h3 i b o hb ho
 have hm:moreS l x.1 x.2 i=min x.2 (b.hi-o):=by simp [moreS,hb,ho]
 refine⟨hm,by omega,by simp [h1],by simp only;omega,fun k b' o' hb' ho'=>?_⟩
 simp only[ho,Option.getD_some] at ho'
 by_cases e:i=k
 ·subst e
  rw[List.getElem?_set_self (by have:=(List.getElem?_eq_some_iff.1 ho).1;exact this)] at ho'
  injection ho' with ho'
  rw[hb] at hb'
  injection hb' with hb'
  subst hb'
  omega
 ·rw[List.getElem?_set_ne e] at ho'
  exact h3 k b' o' hb' ho'
theorem fillOk_all {l:List Bd}:∀ (is:List Nat) (x:List Int × Int),(∀ i∈is,i<l.length)→FillOk l x→FillOk l (fillS l is x)
 | [],_,_,h=>h
 | i::is, x, hi, h=>by
   obtain⟨b,hb⟩:=zol (hi i (by simp))
   obtain⟨o,ho⟩:=zol (l:=x.1) (i:=i) (by have:=hi i (by simp);have:=h.1;omega)
   exact fillOk_all is _ (fun j hj=>hi j (by simp [hj])) (fillOk_step h hb ho).2.2
def startF (d:Int) (l:List Bd):List Int × Int:=(l.map (·.lo),d-loS l)
def keyLt (cm:Int→Int→Int) (vals:List Int) (i k:Nat):Bool:=decide (cm ((vals[i]?).getD 0) ((vals[k]?).getD 0)<0)
def filledV (cm:Int→Int→Int) (d:Int) (l:List Bd) (vals:List Int):List Int:=(fillS l (sortN (keyLt cm vals) (List.range l.length)) (startF d l)).1
theorem startF_ok {d:Int}{l:List Bd}(hc:chOk d l=true) (hd:d≤3000) (h1:loS l≤d) (h0:0≤loS l):FillOk l (startF d l):=by
 refine⟨by simp [startF],by simp only[startF];omega,fun i b o hb ho=>?_⟩
 simp only[startF,List.getElem?_map,hb,Option.map_some,Option.some.injEq] at ho
 have:=List.all_eq_true.1 hc b (zmo hb)
 simp only[Bool.and_eq_true,decide_eq_true_eq] at this
 omega
theorem mem_sortN {lt:Nat→Nat→Bool}{l:List Nat}{z:Nat}:z∈sortN lt l↔z∈l:=by
 unfold sortN
 rw[List.mem_reverse,mem_sortB]
 simp
theorem sortN_len (lt:Nat→Nat→Bool) (l:List Nat):(sortN lt l).length=l.length:=by
 unfold sortN
 rw[List.length_reverse,sortB_len]
 simp
theorem rep_at {g:List (List RV)}{z:List RV}{n i:Nat}(hg:g.length=i) (hi:i<n):(g++List.replicate (n-i) z).getD i []=z:=by
 rw[List.getD_eq_getElem?_getD,List.getElem?_append_right (by omega),hg,Nat.sub_self,List.getElem?_replicate,if_pos (by omega)]
 rfl
theorem rep_len {g:List (List RV)}{z:List RV}{n i:Nat}(hg:g.length=i) (hi:i<n):(g++List.replicate (n-i) z).length=n:=by simp;omega
theorem rep_set {g:List (List RV)}{z v:List RV}{n i:Nat}(hg:g.length=i) (hi:i<n):(g++List.replicate (n-i) z).set i v=(g++[v])++List.replicate (n-(i+1)) z:=by
 rw[List.set_append_right _ _ (by omega),hg,Nat.sub_self]
 have:n-i=(n-(i+1))+1:=by omega
 rw[this,List.replicate_succ,List.set_cons_zero]
 simp
def dotV:List Int→List Int→Int
 | x::xs,y::ys=>x*y+dotV xs ys
 | _,_=>0
theorem dotV_snoc:∀ {xs ys:List Int}{x y:Int},xs.length=ys.length→dotV (xs++[x]) (ys++[y])=dotV xs ys+x*y
 | [],[],x,y,_=>by simp [dotV]
 | _::xs,_::ys,x,y,h=>by simp only[List.cons_append,dotV];rw[dotV_snoc (by simpa using h)];omega
 | [],_::_,_,_,h=>by simp at h
 | _::_,[],_,_,h=>by simp at h
def Vals (l:List Int):Prop:=∀ x∈l,-1000000000000≤x∧x≤1000000000000
theorem mul_bound {x y:Int}(h0:0≤x) (h1:x≤6000) (h2 : -1000000000000≤y) (h3:y≤1000000000000) : -6000000000000000≤x*y∧x*y≤6000000000000000:=by
 constructor
 ·have h4:x * -1000000000000≤x*y:=Int.mul_le_mul_of_nonneg_left h2 h0
  omega
 ·have h4:x*y≤x*1000000000000:=Int.mul_le_mul_of_nonneg_left h3 h0
  omega
theorem dotV_bound:∀ {xs ys:List Int},(∀ x∈xs,0≤x∧x≤6000)→Vals ys → -6000000000000000*(xs.length:Int)≤dotV xs ys∧dotV xs ys≤6000000000000000*xs.length
 | [],_,_,_=>by simp [dotV]
 | _::_,[],_,_=>by simp only[dotV,List.length_cons];omega
 | x::xs, y::ys, h, hv=>by
   have h1:=dotV_bound (xs:=xs) (ys:=ys) (fun z hz=>h z (by simp [hz])) fun z hz=>hv z (by simp [hz])
   have h2:=h x (by simp)
   have h3:=hv y (by simp)
   have h4:=mul_bound h2.1 h2.2 h3.1 h3.2
   simp only[dotV,List.length_cons]
   omega
theorem filled_facts {cm:Int→Int→Int}{d:Int}{l:List Bd}{vals:List Int}(hch:chOk d l=true) (hd:d≤3000) (h1:loS l≤d):(filledV cm d l vals).length=l.length∧∀ x∈filledV cm d l vals,0≤x∧x≤3000:=by
 have hs:=chOk_small hch (by omega)
 have hsm:=sums_le hs
 have hst:=startF_ok hch hd h1 hsm.1.1
 have hfin:=fillOk_all (sortN (keyLt cm vals) (List.range l.length)) (startF d l) (fun i hi=>by rw[mem_sortN,List.mem_range] at hi;exact hi) hst
 refine⟨hfin.1,fun x hx=>?_⟩
 obtain⟨i,hi⟩:=List.getElem?_of_mem hx
 obtain⟨b,hb⟩:=zol (l:=l) (i:=i) (by have:=(List.getElem?_eq_some_iff.1 hi).1;have:=hfin.1;unfold filledV at *;omega)
 have h2:=hfin.2.2 i b x hb hi
 have:=List.all_eq_true.1 hch b (zmo hb)
 simp only[Bool.and_eq_true,decide_eq_true_eq] at this
 omega
def meanLo (d:Int) (l:List Bd) (vals:List Int):Int:=dotV (filledV cmpI d l vals) vals
def meanHi (d:Int) (l:List Bd) (vals:List Int):Int:=dotV (filledV (fun x y=>cmpI y x) d l vals) vals
set_option maxHeartbeats 4000000
theorem rising_ok (x y:Int):ACalls Tryz.prog 62 [i64 x,i64 y] (i64 (cmpI x y)):=by
 refine zas (rs:=[i64 (cmpI x y)]) [.tmp 4] Tryz.func62 rfl (by kernel_rfl) Tryz.ntmps62 rfl (by simp) rfl fun C vs=>?_
 apply zq
 refine zb fun K hK=>?_;simp only[go_sem];apply hK
 apply zq
 refine zb fun K hK=>?_;simp only[go_sem]
 refine zh (compare_ok x y) rfl (by simp only[go_sem,i64,ints]) (by simp only[go_sem,i64,ints]) ?_
 (try simp only[go_sem]);apply hK;apply ze;simp only[go_sem]
theorem falling_ok (x y:Int):ACalls Tryz.prog 63 [i64 x,i64 y] (i64 (cmpI y x)):=by
 refine zas (rs:=[i64 (cmpI y x)]) [.tmp 4] Tryz.func63 rfl (by kernel_rfl) Tryz.ntmps63 rfl (by simp) rfl fun C vs=>?_
 apply zq
 refine zb fun K hK=>?_;simp only[go_sem];apply hK
 apply zq
 refine zb fun K hK=>?_;simp only[go_sem]
 refine zh (compare_ok y x) rfl (by simp only[go_sem,i64,ints]) (by simp only[go_sem,i64,ints]) ?_
 (try simp only[go_sem]);apply hK;apply ze;simp only[go_sem]
theorem filled1_ok (i k:Nat) (vals:List Int) (f:Nat) (cm:Int→Int→Int) (hf:∀ x y,ACalls Tryz.prog f [i64 x,i64 y] (i64 (cm x y))) {x y:Int}(hx:vals[i]? = some x) (hy:vals[k]? = some y) :
 ACalls Tryz.prog 94 [i64 i,i64 k,.rp [.fn f []],.rp [ints vals]] (i64 (cm x y)):=by
 have hi:=(List.getElem?_eq_some_iff.1 hx).1
 have hk:=(List.getElem?_eq_some_iff.1 hy).1
 refine zas (rs:=[i64 (cm x y)]) [.tmp 6] Tryz.func94 rfl (by kernel_rfl) Tryz.ntmps94 rfl (by simp) rfl fun C vs=>?_
 apply zq
 refine zb fun K hK=>?_;simp only[go_sem];apply hK
 apply zq
 refine zg follows (by decide +kernel) (by kernel_rfl) fun K hK=>?_;simp only[go_sem,hx,hy,hi,hk]
 refine zh (hf x y) rfl (by simp only[go_sem,i64,ints]) (by simp only[go_sem,i64,ints]) ?_
 (try simp only[go_sem]);apply hK;apply ze;simp only[go_sem]
theorem stable_ok (lt:Nat→Nat→Bool) (c:Nat→Nat→Int) (f:Nat) (caps:List RV) (l:List Nat) (hl:l.length≤19) (hlt:∀ x y,lt x y=decide (c x y<0))
 (hcc:∀ x∈l,∀ y∈l,ACalls Tryz.prog f (i64 (x:Int)::i64 (y:Int)::caps) (i64 (c x y))) :
 MCalls Tryz.prog 108 [(1000,.arr 3 1 (idx l))] [(1000,.arr 3 1 (idx (sortN lt l)))] [.os 1000 0 1 0 l.length,.r (i64 l.length),.r (.fn f caps)] (.tu []):=by
 refine mcalls_st (n:=63) (rs:=[]) _ _ [] Tryz.func108 rfl (by kernel_rfl) Tryz.ntmps108 rfl (by simp) rfl rfl fun C=>?_
 apply zq
 refine zb fun K hK=>?_;simp only[go_sem];apply hK
 apply zq
 refine zb fun K hK=>?_;simp only[go_sem];apply hK;apply zw (zk [0,1,2,6,7,8]);simp only[go_sem]
 apply zq
 apply zd
 refine awp_upto0 (n:=63) 0 (fun i vs=>[(0,.os 1000 0 1 0 l.length),(1,.r (i64 l.length)),(2,.r (.fn f caps)),(6,.r (i64 20)),(7,.r (i64 0)),(8,.r (i64 20))])
  (fun i=>[(1000,.arr 3 1 (idx l))]) (fun i=>True) 0 (fit0_of [] lent_zero ?_ ?_) (Nat.zero_le _) trivial ?_
 ·try simp only[go_sem]
 ·try simp only[go_sem]
 intro i vs hv _ _
 have hv0:=hv 1000 (by omega)
 repeat apply zq
 refine zb fun K hK=>?_;simp only[go_sem];apply hK
 apply zc rfl<;>intro hc<;>(try simp only[go_sem] at hc)
 ·omega
 apply zf;simp only[go_sem]
 apply zq
 refine zb fun K hK=>?_;simp only[go_sem]
 refine xcall_mut (insertion_ok lt c f caps l (by omega) hlt hcc) [(1000,1000)] rfl (by simp only[go_sem,i64,ints,hv0]) (by simp only[go_sem,i64,ints,hv0]) (by rfl) (by rfl) ?_
 (try simp only[go_sem,hv0]);apply hK
 try simp only[go_sem]
 apply zd
 refine awp_upto0 (n:=63) 0 (fun i vs=>[(1,.r (i64 l.length)),(6,.r (i64 20))])
  (fun i=>[(1000,.arr 3 1 (idx (sortN lt l)))]) (fun i=>True) 0 (fit0_of [] hv ?_ ?_) (Nat.zero_le _) trivial ?_
 ·try simp only[go_sem]
 ·try simp only[go_sem]
 intro i vs hv _ _
 repeat apply zq
 refine zb fun K hK=>?_;simp only[go_sem];apply hK
 apply zc rfl<;>intro hc<;>(try simp only[go_sem] at hc)
 ·omega
 apply zf;simp only[go_sem]
theorem sortStable_ok (lt:Nat→Nat→Bool) (c:Nat→Nat→Int) (f:Nat) (caps:List RV) (l:List Nat) (hl:l.length≤19) (hlt:∀ x y,lt x y=decide (c x y<0))
 (hcc:∀ x∈l,∀ y∈l,ACalls Tryz.prog f (i64 (x:Int)::i64 (y:Int)::caps) (i64 (c x y))) :
 MCalls Tryz.prog 93 [(1000,.arr 3 1 (idx l))] [(1000,.arr 3 1 (idx (sortN lt l)))] [.os 1000 0 1 0 l.length,.r (.fn f caps)] (.tu []):=by
 refine mcalls_st (n:=9) (rs:=[]) _ _ [] Tryz.func93 rfl (by kernel_rfl) Tryz.ntmps93 rfl (by simp) rfl rfl fun C=>?_
 refine zb fun K hK=>?_;simp only[go_sem]
 intro _
 refine xcall_mut (stable_ok lt c f caps l (by omega) hlt hcc) [(1000,1000)] rfl (by simp only[go_sem,i64,ints]) (by simp only[go_sem,i64,ints]) (by rfl) (by rfl) ?_
 (try simp only[go_sem]);apply hK
 try simp only[go_sem]
theorem filled_ok (a:Int) (l:List Bd) (d:Int) (vals:List Int) (f:Nat) (cm:Int→Int→Int) (hf:∀ x y,ACalls Tryz.prog f [i64 x,i64 y] (i64 (cm x y))) (hv:vals.length=l.length) (hl:l.length≤19) (hch:chOk d l=true) (hd:d≤3000) (h1:loS l≤d) :
 ACalls Tryz.prog 61 [.ag [i64 a,bedsR l,i64 d],ints vals,.fn f []] (ints (filledV cm d l vals)):=by
 have hs:=chOk_small hch (by omega)
 have hsm:=sums_le hs
 refine zas (rs:=[ints (filledV cm d l vals)]) [.tmp 6] Tryz.func61 rfl (by kernel_rfl) Tryz.ntmps61 rfl (by simp) rfl fun C vs=>?_
 apply zq
 refine zb fun K hK=>?_;simp only[go_sem];apply hK;refine zw (zfP 3 3 [i64 a,bedsR l,i64 d] (by omega) rfl rfl) ?_;refine zw (zfP 4 4 [ints vals] (by omega) rfl rfl) ?_;refine zw (zfP 5 5 [.fn f []] (by omega) rfl rfl) ?_;apply zw (zk [3,4,5]);simp only[go_sem]
 apply zq
 refine awp_dreg2 [(3,none)] follows (by decide +kernel) (by kernel_rfl) (by simp only[keysOk,List.mem_cons,List.not_mem_nil,forall_eq_or_imp,Oc.keyOf,go_sem];simp) fun K hK=>?_
 simp only[go_sem]
 intro _
 refine⟨⟨by omega,by omega⟩,fun _=>⟨⟨by omega,by omega⟩,?_⟩⟩
 apply hK;apply zw (zk [3,4,5,7,8,9]);simp only[go_sem]
 repeat apply zq
 refine zb fun K hK=>?_;simp only[go_sem]
 intro _
 apply hK;apply zw (zk [3,4,5,7,8,9,29,30,31]);simp only[go_sem];apply zd
 refine zup (n:=90) l.length (fun i vs=>[(3,.r (.rp [i64 a,bedsR l,i64 d])),(4,.r (.rp [ints vals])),(5,.r (.rp [.fn f []])),(7,.os 19 (vs 19) 1 0 l.length),(8,.os 24 (vs 24) 1 0 l.length),(9,.r (i64 (d-loS (l.take i)))),(29,.r (bedsR l)),(30,.r (i64 l.length)),(31,.r (i64 i))])
  (fun i=>[(19,.arr 3 1 (idx (List.range i)++List.replicate (l.length-i) [i64 0])),(24,.arr 3 1 (((l.take i).map fun x=>[i64 x.lo])++List.replicate (l.length-i) [i64 0]))]) (fun _=>True) 0 (zfo [3,4,5] ?_ ?_) (Nat.zero_le _) trivial ?_
 ·try simp only[go_sem]
  simp [loS]
 ·try simp only[go_sem]
  simp
 ·intro i vs hi _
  apply zq
  refine zb fun K hK=>?_;simp only[go_sem];apply hK
  apply zq
  apply zc rfl<;>intro hc<;>(try simp only[go_sem] at hc)
  ·have hci:=hc
   obtain⟨x,hx⟩:=zol hci
   obtain⟨⟨x1,x2⟩,x3,x4⟩:=hs x (zmo hx)
   have hsub:=sums_le (hs.take (i+1))
   have hsub0:=sums_le (hs.take i)
   have htl:((l.take (i+1)).length:Int)≤20:=by rw[List.length_take];omega
   have htl0:((l.take i).length:Int)≤20:=by rw[List.length_take];omega
   have hlo:loS (l.take (i+1))=loS (l.take i)+x.lo:=by rw[zto hx,loS_snoc]
   rw[hlo] at hsub
   apply zx
   apply zq
   apply zd
   apply zq
   refine zb fun K hK=>?_;simp only[go_sem,hx,hci,bedR];apply hK;apply zw (zk [3,4,5,7,8,9,10,11,29,30,31]);simp only[go_sem]
   have g1:(idx (List.range i)).length=i:=by simp
   have g2:((l.take i).map fun x=>[i64 x.lo]).length=i:=by simp;omega
   have r1:=rep_at (z:=[i64 0]) g1 hci
   have r2:=rep_at (z:=[i64 0]) g2 hci
   have r3:=rep_len (z:=[i64 0]) g1 hci
   have r4:=rep_len (z:=[i64 0]) g2 hci
   have r5:=fun v=>rep_set (z:=[i64 0]) (v:=v) g1 hci
   have r6:=fun v=>rep_set (z:=[i64 0]) (v:=v) g2 hci
   apply zq
   refine awp_dreg2 [(7,some 19),(8,some 24),(10,none),(11,some 11)] follows (by decide +kernel) (by kernel_rfl) (by simp only[keysOk,List.mem_cons,List.not_mem_nil,forall_eq_or_imp,Oc.keyOf,go_sem];simp) fun K hK=>?_
   simp only[go_sem,hci,r1,r2,r3,r4,r5,r6];apply hK;apply zw (zk [3,4,5,7,8,9,10,11,29,30,31]);simp only[go_sem];refine zb fun K hK=>?_;simp only[go_sem];(try simp (disch:=omega) only[zI]);apply hK;apply zw (zk [3,4,5,7,8,9,29,30,31]);simp only[go_sem];refine zb fun K hK=>?_;simp only[go_sem];(try simp (disch:=omega) only[zI]);apply hK
   try simp only[go_sem]
   refine⟨hci,zfo [11] ?_ ?_⟩
   ·simp only[go_sem,hlo]
    omega
   ·try simp only[go_sem]
    have hr:List.range (i+1)=List.range i++[i]:=List.range_succ
    simp only[zto hx,hr,List.map_append,List.map_cons,List.map_nil]
  ·apply zf;simp only[go_sem]
   have hii:i=l.length:=by omega
   subst hii
   have e1:idx (List.range l.length)++List.replicate (l.length-l.length) [i64 0]=idx (List.range l.length):=by simp
   have e2:((l.take l.length).map fun x=>[i64 x.lo])++List.replicate (l.length-l.length) [i64 0]=(l.map (·.lo)).map fun x=>[i64 x]:=by simp
   have e3:l.take l.length=l:=List.take_length
   rw[e1,e2,e3]
   have hmem:∀ i∈List.range l.length,i<vals.length:=fun i hi=>by rw[hv];exact List.mem_range.1 hi
   have hsort:=sortStable_ok (keyLt cm vals) (fun i k=>cm ((vals[i]?).getD 0) ((vals[k]?).getD 0)) 94 [.rp [.fn f []],.rp [ints vals]] (List.range l.length) (by simpa using hl) (fun _ _=>rfl) (fun i hi k hk=>by
    obtain⟨x,hx⟩:=zol (hmem i hi)
    obtain⟨y,hy⟩:=zol (hmem k hk)
    have:=filled1_ok i k vals f cm hf hx hy
    simpa [hx,hy] using this)
   rw[List.length_range] at hsort
   apply zq
   refine zb fun K hK=>?_;simp only[go_sem]
   refine xcall_mut (mcalls_fn hsort) [(1000,19)] rfl (by simp only[go_sem,i64,ints]) (by simp only[go_sem,i64,ints]) (by rfl) (by rfl) ?_
   (try simp only[go_sem]);apply hK;apply zw (zk [3,4,5,7,8,9]);simp only[go_sem]
   obtain⟨S,hS⟩:∃ S,S=sortN (keyLt cm vals) (List.range l.length):=⟨_,rfl⟩
   have hSl:S.length=l.length:=by rw[hS,sortN_len,List.length_range]
   have hSm:∀ i∈S,i<l.length:=fun i hi=>by rw[hS,mem_sortN,List.mem_range] at hi;exact hi
   rw[← hS]
   repeat apply zq
   refine zb fun K hK=>?_;simp only[go_sem]
   intro _
   apply hK;apply zw (zk [3,4,5,7,8,9,55,56,57]);simp only[go_sem];apply zd
   have hst:=startF_ok hch hd h1 hsm.1.1
   refine zup (n:=90) l.length (fun i vs=>[(3,.r (.rp [i64 a,bedsR l,i64 d])),(8,.os 24 (vs 24) 1 0 l.length),(9,.r (i64 (fillS l (S.take i) (startF d l)).2)),(55,.os 19 (vs 19) 1 0 l.length),(56,.r (i64 l.length)),(57,.r (i64 i))])
    (fun i=>[(19,.arr 3 1 (idx S)),(24,.arr 3 1 ((fillS l (S.take i) (startF d l)).1.map fun x=>[i64 x]))]) (fun _=>True) 0 (zfo [] ?_ ?_) (Nat.zero_le _) trivial ?_
   ·try simp only[go_sem]
    simp [fillS,startF]
   ·try simp only[go_sem]
    simp [fillS,startF]
   ·intro q vs hq _
    apply zq
    refine zb fun K hK=>?_;simp only[go_sem];apply hK
    apply zq
    apply zc rfl<;>intro hc<;>(try simp only[go_sem] at hc)
    ·have hci:=hc
     obtain⟨i,hi⟩:=zol (l:=S) (i:=q) (by omega)
     have hil:=hSm i (zmo hi)
     obtain⟨x,hx⟩:=zol hil
     obtain⟨F,hF⟩:∃ F,F=fillS l (S.take q) (startF d l):=⟨_,rfl⟩
     have hFo:FillOk l F:=hF▸fillOk_all _ _ (fun j hj=>hSm j (List.mem_of_mem_take hj)) hst
     obtain⟨o,ho⟩:=zol (l:=F.1) (i:=i) (by have:=hFo.1;omega)
     obtain⟨s1,s2,s3⟩:=fillOk_step hFo hx ho
     have hnx:fillS l (S.take (q+1)) (startF d l)=(F.1.set i (o+moreS l F.1 F.2 i),F.2-moreS l F.1 F.2 i):=by
      rw[zto hi,fillS_snoc,← hF]
      simp [ho]
     obtain⟨⟨x1,x2⟩,x3,x4⟩:=hs x (zmo hx)
     obtain⟨f1,f2,f3⟩:=hFo
     have f4:=f3 i x o hx ho
     rw[← hF]
     apply zx
     apply zq
     apply zd
     apply zq
     refine zb fun K hK=>?_;simp only[go_sem,hi,hci];apply hK;apply zw (zk [3,8,9,13,55,56,57]);simp only[go_sem]
     apply zq
     refine awp_dreg2 [(3,none),(8,some 24),(9,none),(13,none)] follows (by decide +kernel) (by kernel_rfl) (by simp only[keysOk,List.mem_cons,List.not_mem_nil,forall_eq_or_imp,Oc.keyOf,go_sem];simp) fun K hK=>?_
     simp only[go_sem,hx,ho,hil,bedR,f1];(try simp (disch:=omega) only[zI]);apply hK;apply zw (zk [3,8,9,13,14,55,56,57]);simp only[go_sem];refine zb fun K hK=>?_;simp only[go_sem,ho,hil,f1];(try simp (disch:=omega) only[zI])
     have hwr:IntKind.i64.wrap (o+min F.2 (x.hi-o))=o+min F.2 (x.hi-o):=by rw[zI]<;>omega
     apply hK;apply zw (zk [3,8,9,55,56,57]);simp only[go_sem];refine zb fun K hK=>?_;simp only[go_sem];(try simp (disch:=omega) only[zI]);apply hK
     try simp only[go_sem]
     refine⟨hci,zfo [] ?_ ?_⟩
     ·simp only[go_sem,hnx,s1]
     ·simp only[go_sem,hnx,s1];rw[List.map_set]
    ·apply zf;simp only[go_sem]
     apply zq
     refine zb fun K hK=>?_;simp only[go_sem];apply hK;apply ze;simp only[go_sem]
     have e4:S.take q=S:=List.take_of_length_le (by omega)
     rw[e4]
     have hfin:=fillOk_all S (startF d l) hSm hst
     refine⟨by have:=hfin.1;omega,?_⟩
     rw[List.take_of_length_le (by simp;have:=hfin.1;omega),filledV,← hS]
theorem mean1_ok (a:Int) (l:List Bd) (d:Int) (vals:List Int) (f:Nat) (cm:Int→Int→Int) (hf:∀ x y,ACalls Tryz.prog f [i64 x,i64 y] (i64 (cm x y))) (hv:vals.length=l.length) (hl:l.length≤19) (hch:chOk d l=true) (hd:d≤3000) (h1:loS l≤d) (hvs:Vals vals) :
 ACalls Tryz.prog 60 [.fn f [],.rp [i64 a,bedsR l,i64 d],.rp [ints vals]] (i64 (dotV (filledV cm d l vals) vals)):=by
 obtain⟨q1,q2⟩:=filled_facts (cm:=cm) (vals:=vals) hch hd h1
 obtain⟨F,hF⟩:∃ F,F=filledV cm d l vals:=⟨_,rfl⟩
 have hfl:=filled_ok a l d vals f cm hf hv hl hch hd h1
 rw[← hF] at q1 q2 hfl ⊢
 refine zas (rs:=[i64 (dotV F vals)]) [.tmp 4] Tryz.func60 rfl (by kernel_rfl) Tryz.ntmps60 rfl (by simp) rfl fun C vs=>?_
 apply zq
 refine zb fun K hK=>?_;simp only[go_sem];apply hK
 repeat apply zq
 refine zb fun K hK=>?_;simp only[go_sem]
 refine zh (hfl) rfl (by simp only[go_sem,i64,ints]) (by simp only[go_sem,i64,ints]) ?_
 (try simp only[go_sem])
 intro _
 apply hK;apply zw (zk [2,4,10,11,12]);simp only[go_sem];apply zd
 refine zup (n:=27) F.length (fun i vs=>[(2,.r (.rp [ints vals])),(4,.r (i64 (dotV (F.take i) (vals.take i)))),(10,.r (ints F)),(11,.r (i64 F.length)),(12,.r (i64 i))]) (fun _=>[]) (fun _=>True) 0 (zfo [] ?_ ?_) (Nat.zero_le _) trivial ?_
 ·try simp only[go_sem]
  simp [dotV]
 ·try simp only[go_sem]
 ·intro i vs hi _
  apply zq
  refine zb fun K hK=>?_;simp only[go_sem];apply hK
  apply zq
  apply zc rfl<;>intro hc<;>(try simp only[go_sem] at hc)
  ·have hci:=hc
   have hcv:i<vals.length:=by omega
   obtain⟨x,hx⟩:=zol hci
   obtain⟨y,hy⟩:=zol hcv
   have b1:=q2 x (zmo hx)
   have b2:=hvs y (zmo hy)
   have b3:=mul_bound b1.1 (by omega) b2.1 b2.2
   have b4:=dotV_bound (xs:=F.take i) (ys:=vals.take i) (fun z hz=>by have:=q2 z (List.mem_of_mem_take hz);omega) (fun z hz=>hvs z (List.mem_of_mem_take hz))
   have b5:((F.take i).length:Int)≤19:=by rw[List.length_take];omega
   have hsn:dotV (F.take (i+1)) (vals.take (i+1))=dotV (F.take i) (vals.take i)+x*y:=by
    rw[zto hx,zto hy,dotV_snoc (by simp;omega)]
   have hw1:IntKind.i64.wrap (x*y)=x*y:=by rw[zI]<;>omega
   apply zx
   apply zq
   apply zd
   apply zq
   refine zb fun K hK=>?_;simp only[go_sem,hx,hci];apply hK;refine zb fun K hK=>?_;simp only[go_sem,hy,hcv,hw1];(try simp (disch:=omega) only[zI]);apply hK;apply zw (zk [2,4,10,11,12]);simp only[go_sem];refine zb fun K hK=>?_;simp only[go_sem];(try simp (disch:=omega) only[zI]);apply hK
   try simp only[go_sem]
   refine⟨hci,zfo [] ?_ ?_⟩
   ·simp only[go_sem,hsn]
   ·try simp only[go_sem]
  ·apply zf;simp only[go_sem]
   apply zq
   refine zb fun K hK=>?_;simp only[go_sem];apply hK;apply ze;simp only[go_sem];rw[List.take_of_length_le (by omega),List.take_of_length_le (by omega)]
theorem mean_ok (a:Int) (l:List Bd) (d:Int) (vals:List Int) (hv:vals.length=l.length) (hl:l.length≤19) (hch:chOk d l=true) (hd:d≤3000) (h1:loS l≤d) (hvs:Vals vals) :
 ACalls Tryz.prog 32 [.ag [i64 a,bedsR l,i64 d],ints vals] (.ag [i64 (meanLo d l vals),i64 (meanHi d l vals)]):=by
 refine zas (rs:=[.ag [i64 (meanLo d l vals),i64 (meanHi d l vals)]]) [.cell 4 37] Tryz.func32 rfl (by kernel_rfl) Tryz.ntmps32 rfl (by simp) rfl fun C vs=>?_
 apply zq
 refine zb fun K hK=>?_;simp only[go_sem];apply hK
 apply zq
 refine zb fun K hK=>?_;simp only[go_sem];apply hK
 apply zq
 refine zb fun K hK=>?_;simp only[go_sem]
 refine zh (mean1_ok a l d vals 62 cmpI rising_ok hv hl hch hd h1 hvs) rfl (by simp only[go_sem,i64,ints]) (by simp only[go_sem,i64,ints]) ?_
 (try simp only[go_sem])
 refine zh (mean1_ok a l d vals 63 (fun x y=>cmpI y x) falling_ok hv hl hch hd h1 hvs) rfl (by simp only[go_sem,i64,ints]) (by simp only[go_sem,i64,ints]) ?_
 (try simp only[go_sem]);apply hK;apply ze;simp only[go_sem]
 simp [meanLo,meanHi]
theorem bedOk_range {b:Int}(h:bedOk b=true):100≤b∧b≤499:=by
 simp only[bedOk,Bool.or_eq_true,Bool.and_eq_true,decide_eq_true_eq] at h
 omega
theorem seqOk_mem:∀ {p:Option Int}{l:List Bd},seqOk p l=true→∀ x∈l,0≤x.b∧x.b≤499
 | _,[],_,x,hx=>by cases hx
 | p, y::l, h, x, hx=>by
   simp only[seqOk,Bool.and_eq_true,Bool.or_eq_true,decide_eq_true_eq] at h
   rcases List.mem_cons.1 hx with rfl|hx
   ·rcases h.1.1 with h0|h0
    ·omega
    ·have:=bedOk_range h0;omega
   ·exact seqOk_mem h.2 x hx
def scoresOf (l:List Bd):List Int:=l.map fun x=>scoreOf x.b
def spanOf (d:Int) (a:Am):Int × Int:=(meanLo d a.beds (scoresOf a.beds),meanHi d a.beds (scoresOf a.beds))
abbrev spansR (l:List (Int × Int)):RV:=.sl 2 (l.map fun x=>[i64 x.1,i64 x.2])
def spansV (d:Int) (l:List Am):List (Int × Int):=if checkV d l=0 then l.map (spanOf d) else []
theorem Score_ok (d:Int) (l:List Am) (hw:WfL d l):ACalls Tryz.prog 13 [lawV d l] (.tu [spansR (spansV d l),i64 (checkV d l)]):=by
 refine acalls_stR (rs:=[spansR (spansV d l),i64 (checkV d l)]) [.cell 2 68,.tmp 3] Tryz.func13 rfl (by kernel_rfl) Tryz.ntmps13 rfl (by simp) rfl fun C hC vs=>?_
 apply zq
 refine zb fun K hK=>?_;simp only[go_sem];apply hK
 repeat apply zq
 refine zb fun K hK=>?_;simp only[go_sem]
 refine zh (check_ok d l hw) rfl (by simp only[go_sem,i64,ints]) (by simp only[go_sem,i64,ints]) ?_
 (try simp only[go_sem]);apply hK
 apply zq
 refine zb fun K hK=>?_;simp only[go_sem]
 cases hE:checkV d l != 0
 case true =>
  apply hK
  have hne:¬ checkV d l=0:=by simpa using hE
  apply zc rfl<;>intro hc<;>(try simp only[go_sem] at hc)
  apply zq
  refine zb fun K hK=>?_;simp only[go_sem];apply hK;apply ze;simp only[go_sem]
  simp [hne,spansV]
 have h0:checkV d l=0:=by simpa using hE
 obtain⟨c1,c2,c3,c4,c5⟩:=checkV_zero h0
 apply hK
 apply zc rfl<;>intro hc<;>(try simp only[go_sem] at hc)
 apply zx
 try simp only[go_sem]
 repeat apply zq
 refine zb fun K hK=>?_;simp only[go_sem]
 refine zh (all_ok d l) rfl (by simp only[go_sem,i64,ints]) (by simp only[go_sem,i64,ints]) ?_
 (try simp only[go_sem]);apply hK;apply zw (zk [2,16]);simp only[go_sem];apply zd;refine zw (sub_ownB 2 0 39 37 2 (by omega) (by omega) rfl rfl) ?_
 try simp only[go_sem]
 refine awp_rangeF hC (enumA d l) (all1_ok d l) [2,16] (by decide) (fun vs=>[(2,.pt 2 (vs 2) 0),(16,.r (.fn 59 [.rp [i64 d,aimsR l]]))])
  (fun i vs=>[(2,.box [.os 39 (vs 39) 2 0 i]),(39,.arr 37 2 (((l.map (spanOf d)).take i).map fun x=>[i64 x.1,i64 x.2]))])
  (fun i=>True) (zj [1] ?_ ?_) trivial (fun _=>rfl) (fun _=>rfl) (fun _ _=>rfl) (by simp) (fun e he=>enumA_len he) ?_ ?_
 ·try simp only[go_sem]
 ·try simp only[go_sem]
 ·intro i e vs us C he _
  obtain⟨x,hx,rfl⟩:=enumA_get he
  obtain⟨_,_,k3,k4,k5,_⟩:=aimOk_facts (c5 x (zmo hx))
  have hsq:=seqOk_mem k3
  have hbl:=c2 x (zmo hx)
  have hil:i<l.length:=(List.getElem?_eq_some_iff.1 hx).1
  have hlt:((l.map (spanOf d)).take i).length=i:=by rw[List.length_take];simp;omega
  have htx:(l.map (spanOf d)).take (i+1)=(l.map (spanOf d)).take i++[spanOf d x]:=zto (by simp [hx])
  have hvals:Vals (scoresOf x.beds):=fun v hv=>by
   obtain⟨y,hy,rfl⟩:=List.mem_map.1 hv
   have:=score_le (hsq y hy).1 (hsq y hy).2
   omega
  refine zb fun K hK=>?_;simp only[go_sem];apply hK
  refine⟨rfl,fun C'=>?_⟩
  apply zw (zk [2,6,16]);simp only[go_sem];apply zd
  apply zq
  refine zb fun K hK=>?_;simp only[go_sem];apply hK
  repeat apply zq
  refine zb fun K hK=>?_;simp only[go_sem]
  intro _
  apply hK;apply zw (zk [2,6,7,16,21,22,23]);simp only[go_sem];refine zw (sub_own 7 32 3 1 (by omega) rfl) ?_
  try simp only[go_sem]
  apply zd
  refine zuv (n:=41) x.beds.length (fun k vs=>[(2,.pt 2 (vs 2) 0),(6,.pt 6 (vs 6) 0),(7,.os 32 (vs 32) 1 0 k),(16,.r (.fn 59 [.rp [i64 d,aimsR l]])),(21,.r (bedsR x.beds)),(22,.r (i64 x.beds.length)),(23,.r (i64 k))])
   (fun k vs=>[(0,.sus [.pt 2 (vs 2) 0,.r (.fn 59 [.rp [i64 d,aimsR l]])] us),(2,.box [.os 39 (vs 39) 2 0 i]),(6,.box [.r (i64 x.at_),.r (bedsR x.beds),.r (i64 d)]),(32,.arr 3 1 (((scoresOf x.beds).take k).map fun x=>[i64 x])),(39,.arr 37 2 (((l.map (spanOf d)).take i).map fun x=>[i64 x.1,i64 x.2]))])
   (fun _=>True) 0 (zj [] ?_ ?_) (Nat.zero_le _) trivial ?_
  ·try simp only[go_sem]
  ·try simp only[go_sem]
  ·intro k vs hk _
   have hlk:((scoresOf x.beds).take k).length=k:=by rw[List.length_take];simp [scoresOf];omega
   apply zq
   refine zb fun K hK=>?_;simp only[go_sem];apply hK
   apply zq
   apply zc rfl<;>intro hc<;>(try simp only[go_sem] at hc)
   ·have hci:=hc
    obtain⟨y,hy⟩:=zol hc
    have hsy:=hsq y (zmo hy)
    have htk:(scoresOf x.beds).take (k+1)=(scoresOf x.beds).take k++[scoreOf y.b]:=zto (by simp [scoresOf,hy])
    apply zx
    apply zq
    apply zd
    apply zq
    refine zb fun K hK=>?_;simp only[go_sem,hy,hc,bedR];apply hK;apply zw (zk [2,6,7,9,16,21,22,23]);simp only[go_sem];refine zb fun K hK=>?_;simp only[go_sem,hlk]
    refine zh (score_ok y.b hsy.1 hsy.2) rfl (by simp only[go_sem,i64,ints,hlk]) (by simp only[go_sem,i64,ints,hlk]) ?_
    (try simp only[go_sem,hlk])
    refine⟨by omega,?_⟩
    apply hK;apply zw (zk [2,6,7,16,21,22,23]);simp only[go_sem];refine zb fun K hK=>?_;simp only[go_sem];(try simp (disch:=omega) only[zI]);apply hK
    try simp only[go_sem]
    refine⟨hci,zj [9] ?_ ?_⟩
    ·try simp only[go_sem]
    ·try simp only[go_sem]
     rw[htk]
     simp
   ·apply zf;simp only[go_sem]
    have hkk:k=x.beds.length:=by omega
    subst hkk
    have e1:(scoresOf x.beds).take x.beds.length=scoresOf x.beds:=List.take_of_length_le (by simp [scoresOf])
    rw[e1]
    have hvl:(scoresOf x.beds).length=x.beds.length:=by simp [scoresOf]
    refine zw (sub_frz (ty:=3) (sz:=1) (off:=0) (m:=x.beds.length) (es:=(scoresOf x.beds).map fun x=>[i64 x]) 7 32 (by omega) (by try simp only[go_sem]) (by try simp only[go_sem]) (by simp [hvl])) ?_
    have e2:(((scoresOf x.beds).map fun x=>[i64 x]).drop 0).take x.beds.length=(scoresOf x.beds).map fun x=>[i64 x]:=by
     rw[List.drop_zero,List.take_of_length_le (by simp [hvl])]
    rw[e2]
    try simp only[go_sem]
    refine awp_dreg3 [(2,some 2),(6,some 6),(7,none)] [2,6] follows (by decide +kernel) (by kernel_rfl) (by simp only[keysOk,List.mem_cons,List.not_mem_nil,forall_eq_or_imp,Oc.keyOf,go_sem];simp) (by intro k hk;simp only[List.mem_cons,List.not_mem_nil,or_false] at hk;first|(subst hk;exact⟨_,rfl⟩)|(rcases hk with rfl|rfl<;>exact⟨_,rfl⟩)|(rcases hk with rfl|rfl|rfl<;>exact⟨_,rfl⟩)) fun K hK=>?_
    simp only[go_sem,hlt]
    refine zh (mean_ok x.at_ x.beds d (scoresOf x.beds) hvl (by omega) k4 (by omega) k5 hvals) rfl (by simp only[go_sem,i64,ints,hlt]) (by simp only[go_sem,i64,ints,hlt]) ?_
    (try simp only[go_sem,hlt])
    refine⟨by omega,?_⟩
    apply hK
    try simp only[go_sem]
    refine zj (F:=fun _=>[]) [6] (by try simp only[go_sem]) ?_
    try simp only[go_sem]
    rw[htx]
    simp [spanOf]
 ·intro vs us _
  try simp only[go_sem]
  refine zw (sub_wake rfl) ?_
  apply zq
  refine zb fun K hK=>?_;simp only[go_sem];apply hK;apply ze;simp only[go_sem]
  have hel:(enumA d l).length=l.length:=by simp [enumA]
  rw[hel,h0]
  have e1:(l.map (spanOf d)).take l.length=l.map (spanOf d):=List.take_of_length_le (by simp)
  rw[e1]
  refine⟨⟨by simp,?_⟩,rfl⟩
  rw[List.take_of_length_le (by simp),spansV,if_pos h0]
def ktL:List Am:=[⟨320,[⟨120,4,6⟩,⟨205,0,1⟩,⟨301,1,2⟩,⟨320,2,4⟩]⟩]
theorem kScore:ACalls Tryz.prog 13 [.ag [i64 10,.sl 2 [[i64 320,.sl 3 [[i64 120,i64 4,i64 6],[i64 205,i64 0,i64 1],[i64 301,i64 1,i64 2],[i64 320,i64 2,i64 4]]]]]] (.tu [.sl 2 [[i64 236,i64 343]],i64 0]):=by
 have h:=Score_ok 10 ktL ⟨by unfold I64;omega,fun a ha=>by
  simp only[ktL,List.mem_singleton] at ha
  subst ha
  refine⟨by show I64 320;unfold I64;omega,fun c hc=>?_⟩
  simp only[List.mem_cons,List.not_mem_nil,or_false] at hc
  rcases hc with rfl|rfl|rfl|rfl<;>(refine⟨?_,?_,?_⟩<;>(unfold I64;simp only;omega))⟩
 have e1:checkV 10 ktL=0:=by decide +kernel
 have e2:spansV 10 ktL=[⟨236,343⟩]:=by decide +kernel
 rw[e1,e2] at h
 exact h
def fsT:List (FuncId × Nat):=[(6,0),(14,0)]
theorem fsT_ok:allOk Tryz.prog fsT=true:=by kernel_rfl
def tOrc:Orc:=[(13,[.ag [i64 10,.sl 2 [[i64 320,.sl 3 [[i64 120,i64 4,i64 6],[i64 205,i64 0,i64 1],[i64 301,i64 1,i64 2],[i64 320,i64 2,i64 4]]]]]],.tu [.sl 2 [[i64 236,i64 343]],i64 0])]
theorem tOrc_ok:orcOk Tryz.prog tOrc:=⟨kScore,trivial⟩
theorem knownthrow_ok:ACalls Tryz.prog 6 [] (.bo true):=evalX_ok follows fsT_ok tOrc_ok (k:=200) (by kernel_rfl) (by kernel_rfl)
end Go.Proofs.YtonpmcdkncbjoaaGreat.Du.Th

namespace Go.Oc
open Go Go.RowKit
def IBCalls (P:Program) (z:Bool) (F:FuncId) (caps:List RV) (xs:List (List RV)):Prop :=
 callable P F=true∧∀ (w:World) (R:Nat→Prop) (vs:Array Value) (X:XS) (Ψ Θ:Nat→Prop),(∀ b,R b→b<w.heap.size)→RV.relV w R caps vs.toList→X.z=z→(z=false→∀ b,R b→X.R b)→X.n0≤w.heap.size→YOk P X →
  (∀ b,Ψ b→b<w.heap.size)→(∀ b,Θ b→b<w.heap.size)→(∀ b,R b→¬ Θ b)→X.X (some xs) w Ψ Θ →
  Calls P F (vs ++ #[.func (.yield X.l) #[] #[]]) w fun e w'=>(∃ v,e = .returned v)∧(∃ Ψ' Θ',X.X (some []) w' Ψ' Θ'∨X.X none w' Ψ' Θ')
theorem ibcalls_st {P:Program}{z:Bool}{f:FuncId}{fn:Func}{c:Code}{n:Nat}{caps:List RV}{xs:List (List RV)}(hf:P.funcs[f]? = some fn) (hb:fn.body=some c) (hc:callable P f=true) (hn:fn.ntmps=n) (hres:fn.results.toList=[])
 (hargs:caps.length+1≤n) (h:∀ C l,awp P C c (ipost P) (st n (argL 0 (caps++[.yl l])) (fun _=>0) [(999,.gh P l z (some xs))])):IBCalls P z f caps xs:=by
 refine⟨hc,fun w R vs0 X Ψ Θ hR hV0 hz hzR hn0 hY hΨ hΘ hRΘ hX=>?_⟩
 have hV:RV.relV w R (caps++[.yl X.l]) (vs0 ++ #[Value.func (.yield X.l) #[] #[]]).toList:=by
  rw[Array.toList_append]
  refine RV.relV_append hV0 ?_
  simp only[RV.relV];exact⟨Value.func (.yield X.l) #[] #[],[],by simp,by simp only[RV.rel],rfl⟩
 generalize vs0 ++ #[Value.func (.yield X.l) #[] #[]]=vs at hV
 have hlen:=RV.relV_length hV
 simp only[Array.length_toList,List.length_append,List.length_cons,List.length_nil] at hlen
 let C:Ctx:={ w0:=w,R0:=R,bor:=Θ,pin:=fun _=>none,X:=X }
 let p:Plan:={ R:=R,β:=fun _=>none,γ:=fun _=>1,X:=X,Ψ:=Ψ,Θ:=Θ }
 have hs:SR C p (st n (argL 0 (caps++[.yl X.l])) (fun _=>0) [(999,.gh P X.l z (some xs))]) { tmps:=vs++Array.replicate (fn.ntmps-vs.size) undef,defers:=[] } w:={
  base:=⟨rfl,rfl,rfl,Nat.le_refl _,fun _ _ _ _=>rfl⟩
  r0:=fun _ h=>h
  rn:=fun _ h=>.inl h
  rb:=hR
  tm:=fun t=>by
   show (look (argL 0 (caps++[.yl X.l])) t).rel _ _ _ _
   by_cases hmem:∃ x,(t,x)∈argL 0 (caps++[RV.yl X.l])
   ·cases e:(caps++[RV.yl X.l])[t]? with
    | none =>
      obtain⟨x,hx⟩:=hmem
      obtain⟨i,y,h1,h2⟩:=argL_mem _ hx
      simp only[Nat.zero_add,Prod.mk.injEq] at h1
      rw[← h1.1,e] at h2;cases h2
    | some x =>
      obtain⟨u,hu,hx⟩:=RV.relV_get hV e
      have:(vs++Array.replicate (fn.ntmps-vs.size) undef).getD t undef=u:=by
       have ht:t<vs.size:=by have:=(List.getElem?_eq_some_iff.1 hu).1;simpa using this
       rw[Array.getD_eq_getD_getElem?,Array.getElem?_append_left ht]
       simp only[Array.getElem?_toList] at hu
       rw[hu];rfl
      have e2:=argL_look (k:=0) e
      rw[Nat.zero_add] at e2
      rw[this,e2]
      simpa only[AV.rel] using hx
   ·rw[look_none hmem]
    exact AV.rel_un _ _ _ _
  sz:=by simp only[Array.size_append,Array.size_replicate,st];omega
  ex:={
   px:=rfl
   n0:=hn0
   ψ0:=fun hz' b hb=>hzR (hz▸hz') b hb
   ψl:=hΨ
   θl:=hΘ
   ψb:=fun k b h=>by cases h
   ψr:=hRΘ
   ψo:=fun b h=>h.elim
   θo:=fun b h _=>h
   bo:=fun b h=>h.elim (hΘ b) (fun h=>h.elim)
   ψn:=fun hn=>(hn _ _ _ _ hX).elim
   hd:=fun b h=>h.elim
   rm:=fun _=>rfl
   df:=⟨[],rfl,List.nodup_nil,fun D hD=>by cases hD⟩ }
  rw:=fun k=>by
   show zrl w p _ k (lookc [(999,RowC.gh P X.l z (some xs))] k)
   rw[zlc,lookc_nil]
   split
   ·rename_i e
    simp only[zrl];exact⟨e,rfl,rfl,rfl,hz,hY,hX⟩
   ·simp only[zrl];exact⟨rfl,rfl⟩
  bl:=fun k b h=>by simp [p] at h
  ij:=fun k k' b h=>by simp [p] at h
  cap:=fun k=>by simp [p,maxLen]
  pn:=fun k x h=>by cases h
  lk:=fun j km n l cur h _=>by
   have h':lookc [(999,RowC.gh P X.l z (some xs))] j = .mi km n l cur:=h
   rw[zlc,lookc_nil] at h'
   split at h'<;>cases h' }
 refine callsIn_wide.1 (callsIn_of_wp_marks (n:=0) hf hb trivial (wpIn_mono (h C X.l _ w ⟨p,hs⟩) ?_))
 rintro e a' w' ⟨s',⟨p',hs'⟩,hq⟩
 have fin:∀ (a':Act) (w':World),SR C p' s' a' w'→(∃ l z,(s'.rows 999).c = .gh P l z (some [])∨(s'.rows 999).c = .gh P l z none) →
  ∃ v,(results fn a'.tmps).run P w' = .ok v w'∧((∃ v',Ending.returned v = .returned v')∧∃ Ψ' Θ',X.X (some []) w' Ψ' Θ'∨X.X none w' Ψ' Θ'):=fun a' w' hs' ⟨l,z',hq⟩=>by
  have hm:(fn.results.mapM (resOp a'.tmps)).run P w' = .ok #[] w':=by
   rw[Array.mapM_eq_mapM_toList,hres]
   simp only[Sem.run_map,List.mapM_nil,Sem.run_pure,Result.andThen_ok]
  refine⟨.tuple #[],by rw[results_eq,Sem.run_bind,hm];simp,⟨_,rfl⟩,p'.Ψ,p'.Θ,?_⟩
  have hpx:p'.X=X:=hs'.ex.px
  have hr:=hs'.rw 999
  rcases hq with hq|hq
  ·rw[hq] at hr
   simp only[zrl] at hr
   rw[hpx] at hr
   exact .inl hr.2.2.2.2.2.2
  ·rw[hq] at hr
   simp only[zrl] at hr
   rw[hpx] at hr
   exact .inr hr.2.2.2.2.2.2
 cases e with
 | normal=>exact hs'.leave fun a'' w'' _ hs''=>fin a'' w'' hs'' hq
 | ret=>exact hs'.leave fun a'' w'' _ hs''=>fin a'' w'' hs'' hq
 | _=>exact hq.elim
section
variable {P:Program}{C:Ctx}{p:Plan}{s:AS}{a:Act}{w:World}
set_option maxHeartbeats 400000 in
theorem awp_rangeFuncB {g:Operand}{ps:Array Tmp}{assign body:Code}{Q:Exit→AS→Prop}(hrd:C.rd=none) (hC:C.X=XS.none) {F:FuncId}{args:List RV}{xs:List (List RV)}{z:Bool}
 (hF:s.ev g = .r (.bf F args)) (hI:IBCalls P z F args xs) (hdead:(s.rows 0).c = .dead) (ts:List Nat) (hps:∀ t∈ps.toList,t<s.n)
 (I:List (List RV)→List Value→AS→Prop) (J:Code→List Value→AS→Prop)
 (h0:∀ us,I xs us { n:=s.n,tm:=look [],rows:=upd s.rows 0 ⟨(s.rows 0).ver,.sus (ts.map s.tm) us⟩ })
 (round:∀ e rest us s',s'.n=s.n→I (e::rest) us s'→e.length=ps.size∧∃ avs,(s'.rows 0).c = .sus avs us∧∀ C,awp P C assign (fun x s2=>x = .normal∧∀ C,awp P C body (rpost s.n I J rest us) s2) ⟨s.n,psA ps.toList e (look (ts.zip avs)),s'.rows⟩)
 (done:∀ us s',s'.n=s.n→I [] us s'→∃ avs,(s'.rows 0).c = .sus avs us∧Q .normal ⟨s.n,look (ts.zip avs),s'.rows⟩)
 (stop:∀ c us s',s'.n=s.n→J c us s'→∃ avs,(s'.rows 0).c = .sus avs us∧awp P C c Q ⟨s.n,look (ts.zip avs),s'.rows⟩):awp P C (.rangeFunc g ps assign body) Q s:=by
 rintro a w ⟨p,hS⟩
 have hn:∀ o w Ψ Θ,¬ C.X.X o w Ψ Θ:=fun o w Ψ Θ h=>by rw[hC] at h;exact h
 have hF0:fnc C.rd=Fence.wide:=by rw[hrd];rfl
 rw[hF0]
 refine wpIn_rangeFunc fun fn _=>?_
 obtain⟨vsC,hgv,hcs⟩:∃ vs:Array Value,a.eval g = .func (.func F) vs #[]∧RV.relV w p.R args vs.toList:=by
  have:=hS.ev g
  rw[hF] at this
  simpa only[AV.rel,RV.rel] using this
 have hψ0:=hS.ex.ψn hn
 obtain⟨rec,hrec⟩:∃ rec:LoopState→Option Code→Loop,rec=fun st pe=>{ state:=st,pending:=pe,fn,tmps:=a.tmps,params:=ps,assign,body,defers:=w.heap.size }:=⟨_,rfl⟩
 obtain⟨w1,hw1⟩:∃ w1,(w.alloc (.deferred (some []))).alloc (.loop (rec .ready none))=w1:=⟨_,rfl⟩
 obtain⟨L,hLdef⟩:∃ L,L=w.heap.size+1:=⟨_,rfl⟩
 obtain⟨aL,haL⟩:∃ aL:Act,aL={ tmps:=a.tmps,defers:={ target:=.collected w.heap.size,args:=#[] }::a.defers }:=⟨_,rfl⟩
 have hS1:SR C p s aL w1:=by rw[haL,← hw1];exact hS.enter hrd _
 have hsz1:w1.heap.size=w.heap.size+2:=by rw[← hw1];simp
 have hL1:w1.heap[L]? = some (.loop (rec .ready none)):=by
  rw[← hw1,hLdef];have:=World.alloc_heap_new (w.alloc (.deferred (some []))) (.loop (rec .ready none));rwa [World.size_alloc] at this
 have hLR:¬ p.R L:=fun h=>by have:=hS.rb L h;omega
 have hLβ:∀ k,p.β k≠some L:=fun k h=>by have:=(hS.bl k L h).1;omega
 have hL0:C.w0.heap.size≤L:=by have:=hS.base.size;omega
 have hLm:∀ d∈aL.defers,d.target ≠ .collected L:=fun d hd e=>by
  obtain⟨Ds,g1,_,g3⟩:=hS1.ex.df
  rw[g1] at hd
  obtain⟨D,hD,rfl⟩:=List.mem_map.1 hd
  injection e with e
  subst e
  have:=(g3 _ hD).1
  rw[hL1] at this;cases this
 obtain⟨us,hus⟩:∃ us,us=ts.map fun t=>aL.tmps.getD t undef:=⟨_,rfl⟩
 have hS2:=hS1.wait hdead ts
 rw[← hus,← look_nil'] at hS2
 have htmps:aL.tmps=a.tmps:=by rw[haL]
 have hsn:s.n=aL.tmps.size:=by rw[htmps];exact hS.sz.symm
 let X:XS:={ l:=L,z:=z,n0:=w1.heap.size,R:=p.R,X:=XJ C aL L rec (fun left s'=>I left us s') (fun c s'=>J c us s'),st:=XJ.st hn }
 have hcap:RV.relV w1 p.R args vsC.toList:=RV.relV_mono (fun _ h=>h) (fun ad hr=>World.cell?_of_block (by rw[← hw1];exact (Below.heap_alloc _ _ _ (by have:=hS.rb _ hr;simp;omega)).trans (Below.heap_alloc _ _ _ (hS.rb _ hr)))) _ _ hcs
 have hY:YOk P X:=by
  intro e rest wv Ψ Θ R vs hX hR hV
  obtain⟨pv,sv,hSv,hsnv,⟨hIv,hLv⟩,hLRv,hLβv,hΨv,hΘv⟩:=hX
  have hψv:=hSv.ex.ψn hn
  obtain⟨hlen,avs,hrow,hround⟩:=round e rest us sv (hsnv.trans hsn.symm) hIv
  have hvs:vs.size=ps.size:=by have:=RV.relV_length hV;simp only[Array.length_toList] at this;omega
  have hltv:L<wv.heap.size:=(Array.getElem?_eq_some_iff.1 hLv).1
  have hy:=run_yield (P:=P) (args:=vs) hLv (by rw[hrec];exact hvs)
  rw[hrec] at hy
  refine⟨fn,_,assign,body,hy,?_⟩
  have hRβ:∀ b,R b→b<wv.heap.size∧∀ k,pv.β k≠some b:=fun b hb=>⟨(hR b hb).1,fun k hk=>(hR b hb).2.1 ((hΘv b).2 (.inl ⟨k,hk⟩))⟩
  have hRL:¬ R L:=fun hb=>(hR L hb).2.1 ((hΘv L).2 (.inr rfl))
  have hkv:Kept wv wv pv { pv with R:=fun b=>pv.R b∨R b } sv.ver sv.ver:=⟨fun _ h=>.inl h,fun _ _=>rfl,fun _=>Nat.le_refl _,fun _ _=>⟨rfl,rfl⟩⟩
  have haw:=hSv.awake (by rw[hrow,hus])
  have hzip:(ps.zip vs).foldl (fun tmps (x:Nat × Value)=>tmps.setIfInBounds x.1 x.2) a.tmps=(ps.toList.zip vs.toList).foldl (fun tmps (x:Nat × Value)=>tmps.setIfInBounds x.1 x.2) a.tmps:=by
   rw[← Array.foldl_toList,Array.toList_zip]
  obtain⟨hpsz,hprel⟩:=psA_rel (w:=wv) (p:={ pv with R:=fun b=>pv.R b∨R b }) (ver:=sv.ver) ps.toList e vs.toList (look (ts.zip avs)) a.tmps (RV.relV_mono (fun _ h=>.inr h) (fun _ _=>rfl) _ _ hV)
   (fun t ht=>by rw[← htmps,← hsn];exact hps t ht) (fun t=>by rw[← htmps];exact AV.rel_mono hkv _ _ (haw.tm t))
  let Hd:Nat→Prop:=fun b=>b=L∨∃ d∈aL.defers,d.target = .collected b
  have hHd:∀ b,Hd b→b<wv.heap.size∧¬ C.bor b∧¬ pv.R b∧¬ R b∧∀ k,pv.β k≠some b:=fun b hb=>by
   rcases hb with rfl|⟨d,hd,hdt⟩
   ·exact⟨hltv,fun hb=>by have:=hS.ex.bo b (.inl hb);omega,hLRv,hRL,hLβv⟩
   ·obtain⟨Ds,g1,_,g3⟩:=hSv.ex.df
    rw[g1] at hd
    obtain⟨D,hD,rfl⟩:=List.mem_map.1 hd
    injection hdt with hdt
    subst hdt
    obtain⟨k1,k2,k3,k4,k5,k6⟩:=g3 D hD
    refine⟨(Array.getElem?_eq_some_iff.1 k1).1,fun hb=>by have:=hS.ex.bo D (.inl hb);omega,k3,fun hr=>?_,k4⟩
    have hD1:D<w1.heap.size:=by
     obtain⟨Ds',q1,_,q3⟩:=hS1.ex.df
     have:Ds'=Ds:=marks_inj (q1.symm.trans g1)
     subst this
     exact (Array.getElem?_eq_some_iff.1 (q3 D hD).1).1
    rcases (hR D hr).2.2 with q|q
    ·obtain⟨Ds',q1,_,q3⟩:=hS1.ex.df
     have:Ds'=Ds:=marks_inj (q1.symm.trans g1)
     subst this
     exact (q3 D hD).2.2.1 q
    ·have q':w1.heap.size≤D:=q
     omega
  have hSa:=hSv.into (L:=L) (w2:=wv) (R:=R) (rd:=some L) (Hd:=Hd) (a':={ tmps:=(ps.zip vs).foldl (fun tmps (x:Nat × Value)=>tmps.setIfInBounds x.1 x.2) a.tmps,defers:=[] }) (tm':=psA ps.toList e (look (ts.zip avs)))
   hn rfl rfl rfl rfl (fun _ _=>rfl) hLRv hLβv hRβ (fun t=>by rw[hzip];exact hprel t) (by rw[hzip,hpsz,← htmps];exact hsnv.symm) rfl hHd hC
  have hna:=hsnv.trans hsn.symm
  refine roundIn_of_wpIn trivial ?_
  have hassign:=hround (Cin C pv R wv (some L) Hd) _ _ ⟨_,hna▸hSa⟩
  refine wpIn_mono hassign ?_
  rintro x a1 wa ⟨s1,⟨p1,hS1a⟩,rfl,hbody⟩
  have hLa:wa.heap[L]? = some (.loop (rec .ready none)):=(hS1a.base.block L hltv (fun ⟨hb,_⟩=>(hHd L (.inl rfl)).2.1 hb) (fun ⟨k,hk,_⟩=>hLβv k hk)).trans hLv
  have hlta:L<wa.heap.size:=(Array.getElem?_eq_some_iff.1 hLa).1
  refine⟨_,run_beginRound hLa (by rw[hrec]),?_⟩
  have hop1:=Hop.of (L:=L) (w:=wv) (w2:=wv) rfl rfl rfl rfl (fun _ _=>rfl) hS1a
  have hHd1:∀ b,Hd b→b<wa.heap.size∧¬ (Cin C pv R wv (some L) Hd).bor b∧¬ p1.R b∧¬ False∧∀ k,p1.β k≠some b:=fun b hb=>by
   obtain⟨_,q2,_,q4,q5,_,_,q8⟩:=hS1a.ex.hd b hb
   exact⟨q4,q2,q5,fun h=>h,q8⟩
  have hS1b:=hS1a.into (L:=L) (w2:=wa.putObj L (.loop { rec .ready none with state:=.busy })) (R:=fun _=>False) (rd:=some L) (Hd:=Hd) (a':=a1) (tm':=s1.tm) hn rfl rfl rfl World.putObj_size putObj_other
   (hHd1 L (.inl rfl)).2.2.1 (hHd1 L (.inl rfl)).2.2.2.2 (fun _ h=>h.elim) (fun t=>by
    have hk1:Kept wa (wa.putObj L (.loop { rec .ready none with state:=.busy })) p1 { p1 with R:=fun b=>p1.R b∨False } s1.ver s1.ver :=
     ⟨fun _ h=>.inl h,fun ad hr=>World.cell?_of_block (putObj_other _ fun e=>(hHd1 L (.inl rfl)).2.2.1 (e▸hr)),fun _=>Nat.le_refl _,fun _ _=>⟨rfl,rfl⟩⟩
    exact AV.rel_mono hk1 _ _ (hS1a.tm t)) hS1a.sz (hS1a.ex.rm rfl) hHd1 hC
  refine wpIn_mono (hbody _ _ _ ⟨_,hS1b⟩) ?_
  have hLb:(wa.putObj L (.loop { rec .ready none with state:=.busy })).heap[L]? = some (.loop { rec .ready none with state:=.busy }):=World.putObj_heap_same hlta
  have hRo:∀ b,R b→b<wv.heap.size∧(∀ d∈aL.defers,d.target ≠ .collected b)∧¬ C.hd b∧(C.R0 b∨C.w0.heap.size≤b∨C.own b):=fun b hb=>by
   have hsz0:=hS.base.size
   refine⟨(hR b hb).1,fun d hd hdt=>(hHd b (.inr ⟨d,hd,hdt⟩)).2.2.2.1 hb,fun hh=>?_,?_⟩
   ·obtain⟨q1,_,_,_,q5,_⟩:=hS.ex.hd b hh
    rcases (hR b hb).2.2 with q|q
    ·exact q5 q
    ·have q':w1.heap.size≤b:=q;omega
   ·rcases (hR b hb).2.2 with q|q
    ·exact hS.rn b q
    ·have q':w1.heap.size≤b:=q;exact .inr (.inl (by omega))
  have fin:∀ (jump:Option Code) (s3:AS) (p3:Plan) (a3:Act) (w3:World),SR (Cin (Cin C pv R wv (some L) Hd) p1 (fun _=>False) (wa.putObj L (.loop { rec .ready none with state:=.busy })) (some L) Hd) p3 s3 a3 w3 →
   (match jump with|none=>∃ s4,Sub s3 s4∧I rest us ⟨s.n,look [],s4.rows⟩|some c=>∃ s4,Sub s3 s4∧J c us ⟨s.n,look [],s4.rows⟩) →
   ∃ v w', (Instr.endRound L jump).run P w3 = .ok v w'∧(w'.os=wv.os∧w'.tape=wv.tape∧w'.output=wv.output∧wv.heap.size≤w'.heap.size∧(∀ b, b<wv.heap.size→¬ Θ b→w'.heap[b]? = wv.heap[b]?) ∧
     ∃ Ψ' Θ':Nat→Prop,(∀ b,Ψ' b→Ψ b∨R b∨wv.heap.size≤b)∧(∀ b,Θ' b→Θ b∨wv.heap.size≤b)∧(∀ b,Ψ' b→b<w'.heap.size)∧(∀ b,Θ' b→b<w'.heap.size) ∧
     ((Ending.returned v = .returned (.bool true)∧X.X (some rest) w' Ψ' Θ')∨(Ending.returned v = .returned (.bool false)∧X.X Option.none w' Ψ' Θ'))):=by
   intro jump s30 p30 a3 w3 h30 hj0
   obtain⟨s3,hsub,hj⟩:∃ s4,Sub s30 s4∧(match jump with|none=>I rest us ⟨s.n,look [],s4.rows⟩|some c=>J c us ⟨s.n,look [],s4.rows⟩):=by
    cases jump with
    | none=>exact hj0
    | some c=>exact hj0
   obtain⟨p3,h3⟩:=hsub _ _ _ ⟨p30,h30⟩
   have hL3:w3.heap[L]? = some (.loop { rec .ready none with state:=.busy }):=by
    refine (h3.base.block L (by show L<(wa.putObj L _).heap.size;rw[World.putObj_size];exact hlta) (fun ⟨hb,_⟩=>(hHd1 L (.inl rfl)).2.1 hb) (fun ⟨k,hk,_⟩=>(hHd1 L (.inl rfl)).2.2.2.2 k hk)).trans hLb
   obtain⟨_,_,_,_,e5,_,_,e8⟩:=h3.ex.hd L (.inl rfl)
   have hend:=run_endRound (P:=P) jump hL3
   have hlt3:L<w3.heap.size:=(Array.getElem?_eq_some_iff.1 hL3).1
   have hop2:=Hop.of (C:=Cin C pv R wv (some L) Hd) (p:=p1) (L:=L) (w:=wa) (w2:=wa.putObj L (.loop { rec .ready none with state:=.busy })) (R:=fun _=>False) rfl rfl rfl World.putObj_size putObj_other h3
   obtain⟨o4,ho4⟩:∃ o4,o4=Obj.loop { { rec .ready none with state:=.busy } with state:=if jump.isNone then .ready else .done,pending:=jump }:=⟨_,rfl⟩
   rw[← ho4] at hend
   have hop:=(Hop.trans (C':=Cin C pv R wv (some L) Hd) hop1 (fun _=>Iff.rfl) hop2).put (o:=o4)
   have hL4:(w3.putObj L o4).heap[L]? = some (.loop (rec (if jump.isNone then .ready else .done) jump)):=by
    rw[World.putObj_heap_same hlt3,ho4,hrec]
   have hS4:SR C p3 ⟨s.n,look [],s3.rows⟩ aL (w3.putObj L o4):=by
    have:=hSv.land (C':=Cin (Cin C pv R wv (some L) Hd) p1 (fun _=>False) (wa.putObj L (.loop { rec .ready none with state:=.busy })) (some L) Hd) hn hL0 hLm hop hRo rfl rfl h3 e5 e8 rfl rfl rfl World.putObj_size putObj_other
    rw[hna,← look_nil'] at this
    exact this
   have hψ4:=hS4.ex.ψn hn
   refine⟨_,_,hend,hop.os,hop.tape,hop.output,hop.size,fun b hb hθ=>hop.heap b hb (fun k hk=>hθ ((hΘv b).2 (.inl ⟨k,hk⟩))) (fun e=>hθ ((hΘv b).2 (.inr e))),
    fun b=>p3.R b∨(∃ k,p3.β k=some b)∨(b<C.w0.heap.size∧¬ C.bor b∧¬ C.own b)∨b=L∨C.hd b∨∃ d∈aL.defers,d.target = .collected b,fun b=>(∃ k,p3.β k=some b)∨b=L,fun b hb=>?_,fun b hb=>?_,fun b hb=>?_,fun b hb=>?_,?_⟩
   ·rcases hb with g|⟨k,g⟩|g|g|g|g
    ·rcases hop.rn b g with q|q|q|⟨k,q,_⟩
     ·exact .inl ((hΨv b).2 (.inl q))
     ·exact .inr (.inl q)
     ·exact .inr (.inr q)
     ·exact .inl ((hΨv b).2 (.inr (.inl ⟨k,q⟩)))
    ·rcases hop.bl k b g with q|⟨_,_,k',_,q⟩|⟨k',q,_⟩
     ·exact .inr (.inr q)
     ·exact .inl ((hΨv b).2 (.inr (.inl ⟨k',q⟩)))
     ·exact .inl ((hΨv b).2 (.inr (.inl ⟨k',q⟩)))
    ·exact .inl ((hΨv b).2 (.inr (.inr (.inl g))))
    ·exact .inl ((hΨv b).2 (.inr (.inr (.inr (.inl g)))))
    ·exact .inl ((hΨv b).2 (.inr (.inr (.inr (.inr (.inl g))))))
    ·exact .inl ((hΨv b).2 (.inr (.inr (.inr (.inr (.inr g))))))
   ·rcases hb with⟨k,g⟩|g
    ·rcases hop.bl k b g with q|⟨_,_,k',_,q⟩|⟨k',q,_⟩
     ·exact .inr q
     ·exact .inl ((hΘv b).2 (.inl ⟨k',q⟩))
     ·exact .inl ((hΘv b).2 (.inl ⟨k',q⟩))
    ·exact .inl ((hΘv b).2 (.inr g))
   ·have hsz4:=hS4.base.size
    rcases hb with g|⟨k,g⟩|g|rfl|g|⟨d,hd,hdt⟩
    ·exact hS4.rb b g
    ·exact (hS4.bl k b g).1
    ·omega
    ·rw[World.putObj_size];exact hlt3
    ·exact (hS4.ex.hd b g).2.2.2.1
    ·exact Nat.lt_of_lt_of_le (hHd b (.inr ⟨d,hd,hdt⟩)).1 hop.size
   ·rcases hb with⟨k,g⟩|rfl
    ·exact (hS4.bl k b g).1
    ·rw[World.putObj_size];exact hlt3
   ·cases jump with
    | none=>exact .inl ⟨rfl,p3,_,hS4,hsn,⟨hj,hL4⟩,e5,e8,fun _=>Iff.rfl,fun _=>Iff.rfl⟩
    | some c=>exact .inr ⟨rfl,p3,_,hS4,hsn,⟨c,hj,hL4⟩,e5,e8,fun _=>Iff.rfl,fun _=>Iff.rfl⟩
  rintro en a3 w3 ⟨s3,⟨p3,h3⟩,hq⟩
  cases en with
  | normal=>exact fin none s3 p3 a3 w3 h3 hq
  | ret=>exact fin (some .ret) s3 p3 a3 w3 h3 hq
  | exit id=>exact fin (some (.exit id)) s3 p3 a3 w3 h3 hq
  | goto l=>exact fin (some (.goto l)) s3 p3 a3 w3 h3 hq
  | panic ch=>exact hq.elim
  | outgrown=>exact hq.elim
 have hX0:X.X (some xs) w1 (fun b=>p.R b∨(∃ k,p.β k=some b)∨(b<C.w0.heap.size∧¬ C.bor b∧¬ C.own b)∨b=L∨C.hd b∨∃ d∈aL.defers,d.target = .collected b) (fun b=>(∃ k,p.β k=some b)∨b=L) :=
  ⟨p,_,hS2,hsn,⟨h0 us,hL1⟩,hLR,hLβ,fun _=>Iff.rfl,fun _=>Iff.rfl⟩
 have hlt1:L<w1.heap.size:=(Array.getElem?_eq_some_iff.1 hL1).1
 have hcall:=hI.2 w1 p.R vsC X _ _ hS1.rb hcap rfl (fun hz b hb=>hb) (Nat.le_refl _) hY (fun b hb=>by
  have hszw:=hS1.base.size
  rcases hb with g|⟨k,g⟩|g|rfl|g|⟨d,hd,hdt⟩
  ·exact hS1.rb b g
  ·exact (hS1.bl k b g).1
  ·omega
  ·exact hlt1
  ·exact (hS1.ex.hd b g).2.2.2.1
  ·obtain⟨Ds,g1,_,g3⟩:=hS1.ex.df
   rw[g1] at hd
   obtain⟨D,hD,rfl⟩:=List.mem_map.1 hd
   injection hdt with hdt
   subst hdt
   exact (Array.getElem?_eq_some_iff.1 (g3 D hD).1).1) (fun b hb=>by
  rcases hb with⟨k,g⟩|rfl
  ·exact (hS1.bl k b g).1
  ·exact hlt1) (fun b hb hθ=>by
  rcases hθ with⟨k,g⟩|rfl
  ·exact (hS1.bl k b g).2.1 hb
  ·exact hLR hb) hX0
 have e1:(Instr.enterLoop fn a.tmps ps assign body none).run P w = .ok (L,[{ target:=.collected w.heap.size,args:=#[] }]) w1:=by
  rw[run_enterLoop_outer,← hw1,hrec,hLdef]
 have e2:(resolve a.eval (rangeCall g L) 0).run P w1 = .ok { target:=.fn (.func F) #[],args:=vsC ++ #[.func (.yield L) #[] #[]] } w1:=by
  simp only[resolve,hgv,Sem.run_bind,Deferred.ofValue,Sem.run_pure,Result.andThen_ok]
  simp [Act.eval]
 have e3:(invoke (.fn (.func F) #[]) (vsC ++ #[.func (.yield L) #[] #[]])).run P w1 = .ok (.enter F (vsC ++ #[.func (.yield L) #[] #[]])) w1:=by
  simp only[invoke]
  have:=run_callFunc hI.1 (vsC ++ #[.func (.yield L) #[] #[]] ++ #[]) w1
  simpa using this
 have e4:Fence.wide.depth.isSome=true→1≤0:=fun h=>by simp [Fence.wide] at h
 refine⟨L,_,w1,_,w1,F,_,w1,e1,e2,?_,e3,e4,?_⟩
 ·intro f' _;exact trivial
 ·refine callsIn_wide.2 (hcall.mono ?_)
  have haL':({ a with defers:=[{ target:=.collected w.heap.size,args:=#[] }]++a.defers }:Act)=aL:=by rw[haL];rfl
  rintro e w' ⟨⟨v,rfl⟩,Ψ',Θ',hX|hX⟩
  ·obtain⟨p',s',hS',hsn',⟨hI',hL'⟩,hLR',hLβ',_⟩:=hX
   have hend:=run_endLoop (P:=P) hL' (by rw[hrec];simp)
   have hp:(rec .ready none).pending=none:=by rw[hrec]
   rw[hp] at hend
   refine⟨none,_,hend,?_⟩
   obtain⟨avs,hrow,hQ⟩:=done us s' (hsn'.trans hsn.symm) hI'
   have hS4:∀ o,SR C p' ⟨s.n,look (ts.zip avs),s'.rows⟩ aL (w'.putObj L o):=fun o=>by
    have:=(hS'.turn (o:=o) hLR' hLβ' hL0 (hS'.ex.ψn hn) hLm).awake (by rw[hrow,hus])
    rw[hsn'.trans hsn.symm] at this
    exact this
   rw[haL']
   exact⟨_,⟨_,hS4 _⟩,hQ⟩
  ·obtain⟨p',s',hS',hsn',⟨c,hJ',hL'⟩,hLR',hLβ',_⟩:=hX
   have hend:=run_endLoop (P:=P) hL' (by rw[hrec];simp)
   have hp:(rec .done (some c)).pending=some c:=by rw[hrec]
   rw[hp] at hend
   refine⟨some c,_,hend,?_⟩
   obtain⟨avs,hrow,hQ⟩:=stop c us s' (hsn'.trans hsn.symm) hJ'
   have hS4:∀ o,SR C p' ⟨s.n,look (ts.zip avs),s'.rows⟩ aL (w'.putObj L o):=fun o=>by
    have:=(hS'.turn (o:=o) hLR' hLβ' hL0 (hS'.ex.ψn hn) hLm).awake (by rw[hrow,hus])
    rw[hsn'.trans hsn.symm] at this
    exact this
   have hQ':=fun o=>hQ _ _ ⟨_,hS4 o⟩
   rw[hF0] at hQ'
   rw[haL']
   exact hQ' _
end
theorem awp_rangeFB {P:Program}{C:Ctx}{n:Nat}{s:AS}{t:Nat}{ps:Array Tmp}{assign body:Code}{Q:Exit→AS→Prop}(hC:C.rd=none∧C.X=XS.none) {f:FuncId}{caps:List RV}{z:Bool}(xs:List (List RV)) (hI:IBCalls P z f caps xs)
 (ts:List Nat) (hnd:ts.Nodup) (F:(Nat→Nat)→List (Nat × AV)) (R:Nat→(Nat→Nat)→List (Nat × RowC)) (I:Nat→Prop) (h0:FitV n F (R 0) s) (hi0:I 0)
 (hts:∀ vs,(F vs).map (·.1)=ts) (hg:∀ vs,look (F vs) t = .r (.bf f caps)) (hd:∀ i vs,lookc (R i vs) 0 = .dead) (hps:∀ t∈ps.toList,t<n) (hlen:∀ e∈xs,e.length=ps.size)
 (round:∀ i e vs us C,xs[i]? = some e→I i→awp P C assign (fun x s2=>x = .normal∧∀ C,awp P C body (rfpost n ts Q (fun s3=>I (i+1)∧∃ vs',Sub s3 (st n [] vs' ((0,.sus ((F vs').map (·.2)) us)::R (i+1) vs'))) us) s2)
  (st n (psL ps.toList e (F vs)) vs ((0,.sus ((F vs).map (·.2)) us)::R i vs)))
 (done:∀ vs us,I xs.length→Q .normal (st n (F vs) vs ((0,.sus ((F vs).map (·.2)) us)::R xs.length vs))):awp P C (.rangeFunc (.tmp t) ps assign body) Q s:=by
 obtain⟨vs0,h0⟩:=h0
 refine zw h0 ?_
 have hdrop:∀ i e rest,xs.drop i=e::rest→xs[i]? = some e∧xs.drop (i+1)=rest:=fun i e rest h=>by
  refine⟨?_,by rw[← List.drop_drop,h];rfl⟩
  have:(xs.drop i)[0]? = some e:=by rw[h];rfl
  simpa using this
 have hz:∀ vs,ts.zip ((F vs).map (·.2))=F vs:=fun vs=>by rw[← hts vs];exact zip_keys _
 refine awp_rangeFuncB hC.1 hC.2 (F:=f) (args:=caps) (xs:=xs) (z:=z) (by
  show look (F vs0) t=_
  rw[hg]) hI (hd 0 vs0) ts hps
  (fun left us s'=>∃ i vs,left=xs.drop i∧i≤xs.length∧I i∧s'=st n [] vs ((0,.sus ((F vs).map (·.2)) us)::R i vs))
  (fun c us s'=>∃ avs,(s'.rows 0).c = .sus avs us∧((c = .ret∧Q .ret ⟨n,look (ts.zip avs),s'.rows⟩)∨∃ id,c = .exit id∧Q (.exit id) ⟨n,look (ts.zip avs),s'.rows⟩))
  (fun us=>⟨0,vs0,rfl,Nat.zero_le _,hi0,?_⟩) ?_ ?_ ?_
 ·refine (upd_rows_st (c:=.sus (ts.map (st n (F vs0) vs0 (R 0 vs0)).tm) us)).trans ?_
  congr 3
  have hk:(F vs0).map (·.2)=ts.map (look (F vs0)):=by
   have:=look_keys (F vs0) (by rw[hts vs0];exact hnd)
   rw[hts vs0] at this
   exact this
  rw[hk];rfl
 ·rintro e rest us s' _ ⟨i,vs,hl,hle,hI',rfl⟩
  obtain⟨h1,h2⟩:=hdrop i e rest hl.symm
  refine⟨hlen e (List.mem_of_getElem? h1),(F vs).map (·.2),rfl,fun C'=>?_⟩
  have hr:=round i e vs us C' h1 hI'
  rw[hz,psA_look]
  refine awp_mono ?_ hr
  rintro x s2 ⟨hx,hbody⟩
  refine⟨hx,fun C''=>awp_mono ?_ (hbody C'')⟩
  intro x s3 hq
  cases x with
  | normal =>
    obtain⟨hI3,vs',hsub⟩:=hq
    refine⟨_,hsub,i+1,vs',h2.symm,?_,hI3,rfl⟩
    have:=(List.getElem?_eq_some_iff.1 h1).1
    omega
  | ret =>
    obtain⟨avs,h3,h4⟩:=hq
    exact⟨s3,Sub.refl _,avs,h3,.inl ⟨rfl,h4⟩⟩
  | exit id =>
    obtain⟨avs,h3,h4⟩:=hq
    exact⟨s3,Sub.refl _,avs,h3,.inr ⟨id,rfl,h4⟩⟩
  | goto l=>exact hq.elim
  | panic c=>exact hq.elim
  | outgrown=>exact hq.elim
 ·rintro us s' _ ⟨i,vs,hl,hle,hI',rfl⟩
  have hi:i=xs.length:=by
   have:(xs.drop i).length=0:=by rw[← hl];rfl
   rw[List.length_drop] at this;omega
  subst hi
  refine⟨(F vs).map (·.2),rfl,?_⟩
  have:=done vs us hI'
  rw[hz]
  exact this
 ·rintro c us s' _ ⟨avs,h3,h4⟩
  refine⟨avs,h3,?_⟩
  rcases h4 with⟨rfl,h4⟩|⟨id,rfl,h4⟩
  ·exact ze h4
  ·exact zf h4
theorem gop_method {P:Program}{s:AS}{o:Oper}{F:FuncId}{x:Operand}{K:AS→Prop}(ho:o.op = .makeFunc (.func F) #[x] #[]) {v:RV}(hx:s.ev x = .r v) (hK:K (s.put o.dst (.r (.bf F [v])))):gop P o K s:=by
 intro C p a w h hd hnd KW Q hKW
 have hv:v.rel w p.R (a.eval x):=by
  have:=h.ev x
  rw[hx] at this
  simpa only[AV.rel] using this
 have hr:(execOp a.eval o).run P w = .ok (.value (.func (.func F) #[a.eval x] #[])) w:=by
  simp [execOp,ho,Instr.makeFunc]
 refine wpIn_of_wp hnd ?_
 unfold Oper.wp
 rw[hr]
 have hput:=h.put' (d:=o.dst) (av:=.r (.bf F [v])) (v:=.func (.func F) #[a.eval x] #[]) (by simp only[AV.rel,RV.rel,RV.relV];exact⟨_,rfl,_,_,rfl,hv,rfl⟩) hd
 exact hKW _ _ p _ hput (app_n' _ _ _) hK
end Go.Oc

namespace Go.Proofs.YtonpmcdkncbjoaaGreat.Du
open Go Go.Oc
set_option maxRecDepth 8000
set_option maxHeartbeats 4000000
def vH (b:Nat→Bool) (j:Nat) (v:AV):AV:=if b j then v else .r .un
def yhF (bs:List Int) (g dn s:Int) (cs:List (List Int)) (k1 k q:Int) (B:List Int) (ll:Nat) (gd:Bool) (b:Nat→Bool) (vs:Nat→Nat) (z:Bool):List (Nat × AV) :=
 [(1,.r (.yl ll)),(2,.r (.rp [brdP bs g cs,ints bs,i64 g,i64 dn,i64 s])),(4,.r (i64 k)),(7,.r (i64 dn)),(8,.r (i64 k)),
  (11,vH b 0 (.r (.rp [brdP bs g cs,ints bs,i64 g,i64 dn,i64 s]))),
  (12,vH b 1 (.r (brdP bs g cs))),
  (13,vH b 2 (.r (brdP bs g cs))),
  (14,vH b 3 (.r (.rp [tabR cs]))),
  (15,vH b 4 (.r (tabR cs))),
  (16,vH b 5 (.r (i64 k))),
  (17,vH b 6 (.r (i64 k1))),
  (18,vH b 7 (.r (.rp [ints B]))),
  (19,vH b 8 (.r (ints B))),
  (20,vH b 9 (.r (.rp [i64 s]))),
  (21,vH b 10 (.r (i64 s))),
  (22,vH b 11 (.r (.rp [i64 q]))),
  (23,vH b 12 (.r (i64 q))),
  (24,vH b 13 (.r (.bo gd))),
  (25,vH b 14 (.r (.bo gd))),
  (26,vH b 15 (.r (.rp [brdP bs g cs,ints bs,i64 g,i64 dn,i64 s]))),
  (27,vH b 16 (.r (brdP bs g cs))),
  (28,vH b 17 (.r (.rp [i64 s]))),
  (29,vH b 18 (.r (i64 s))),
  (30,vH b 19 (.r (i64 k))),
  (31,vH b 20 (.r (i64 k1))),
  (32,vH b 21 (.r (.yl ll))),
  (33,vH b 22 (.r (.bo z))),
  (34,vH b 23 (.r (.bo (!z)))),
  (35,vH b 24 (.r (.bo (!z))))]
def yhR (G:Bool→Bool→RowC) (b:Nat→Bool) (vs:Nat→Nat) (z:Bool):List (Nat × RowC):=[(999,G (b 22) z)]
attribute [go_sem] yhF yhR vH
theorem all_it (bs:List Int) (g:Int) (hB:∀ b∈bs,bedOk b=true∧0≤b∧b≤499) (dn s:Nat) (hdn:1≤dn∧dn≤6) (hs:1≤s∧s≤1000) :
 IBCalls Tryz.prog false 28 [.ag (finC bs g (dn:Int) dn s)] ((allO g bs s s dn).map fun w=>[ints w]):=by
 have hway:=fun (k:Nat) (hk:k≤dn)=>ways_ok bs g hB s dn (by omega) hdn.2 k s [] (Nat.le_refl _) hk (by simp;omega)
 have hBl0:=rowN_len g bs s
 have hck00:=fun (k:Nat) (hk:k≤dn)=>show (cntO g bs s dn)[k]? = some (rowN g bs s k) by
  unfold cntO
  rw[List.getElem?_map,List.getElem?_range (by omega)]
  rfl
 have hcl0:=cnt_len g bs s dn
 obtain⟨rem,hrem⟩:∃ rem:Nat→List (List RV),rem=fun i=>(((List.range dn).drop i).flatMap (partO g bs s s)).map fun w=>[ints w]:=⟨_,rfl⟩
 have hr0:(allO g bs s s dn).map (fun w=>[ints w])=rem 0:=by rw[hrem];rfl
 have hrE:rem dn=[]:=by
  rw[hrem]
  show (((List.range dn).drop dn).flatMap (partO g bs s s)).map (fun w=>[ints w])=[]
  rw[List.drop_eq_nil_of_le (by simp)]
  rfl
 have hrS:∀ i,i<dn→rem i=((if 0<(rowN g bs s (i+1)).getD s 0 then waysO g bs s (i+1) (s:Int) [] else []).map fun w=>[ints w])++rem (i+1):=fun i hi=>by
  have hd:(List.range dn).drop i=i::(List.range dn).drop (i+1):=by
   rw[List.drop_eq_getElem_cons (by simpa using hi),List.getElem_range]
  rw[hrem]
  simp only[hd,List.flatMap_cons,List.map_append]
  rfl
 rw[hr0]
 have hfin:finC bs g (dn:Int) dn s=[brdP bs g (cntO g bs s dn),ints bs,i64 g,i64 (dn:Int),i64 (s:Int)]:=rfl
 rw[hfin]
 generalize cntO g bs s dn=cs at *
 refine ibcalls_st Tryz.func28 rfl (by kernel_rfl) Tryz.ntmps28 rfl (by simp) fun C ll=>?_
 repeat apply zq
 refine zb fun K hK=>?_;simp only[go_sem,argL,List.cons_append,List.nil_append];(try simp (disch:=omega) only[zI]);repeat first|intro _|refine⟨by omega,?_⟩
 apply hK;clear hK K;refine zw (zfP 2 2 [brdP bs g cs,ints bs,i64 g,i64 (dn:Int),i64 (s:Int)] (by omega) rfl rfl) ?_;apply zw (zk [1,2]);simp only[go_sem]
 repeat apply zq
 refine zb fun K hK=>?_;simp only[go_sem];(try simp (disch:=omega) only[zI]);repeat first|intro _|refine⟨by omega,?_⟩
 apply hK;clear hK K;apply zw (zk [1,2,7,8]);simp only[go_sem]
 repeat apply zq
 apply zd
 refine zuv (n:=37) dn (fun i vs=>[(1,.r (.yl ll)),(2,.r (.rp [brdP bs g cs,ints bs,i64 g,i64 (dn:Int),i64 (s:Int)])),(7,.r (i64 (dn:Int))),(8,.r (i64 (i:Int)))])
  (fun i vs=>[(999,.gh Tryz.prog ll false (some (rem i)))]) (fun _=>True) 0 (zj [] ?_ ?_) (Nat.zero_le _) trivial ?_
 ·try simp only[go_sem]
 ·try simp only[go_sem]
 intro i vs hi _
 by_cases hin:i<dn
 ·have hst:=hrS i hin
  have hck0:=hck00 (i+1) (by omega)
  have hBl:=hBl0 (i+1)
  have hY:=hway (i+1) (by omega)
  have w1:IntKind.i64.wrap ((i:Int)+1)=((i+1:Nat):Int):=by rw[zI]<;>omega
  generalize hwy:waysO g bs s (i+1) (s:Int) []=W at *
  generalize rowN g bs s (i+1)=B at *
  obtain⟨q,hq⟩:=zol (show s<B.length by omega)
  have hqg:B.getD s 0=q:=by simp [List.getD,hq]
  rw[hqg] at hst
  have hBk:i+1<cs.length:=by omega
  have hsB:s<B.length:=by omega
  generalize rem (i+1)=rest at *
  rw[hst]
  clear hst
  have c1:decide ((i:Int)<(dn:Int))=true:=decide_eq_true (by omega)
  repeat apply zq
  refine zb fun K hK=>?_;simp only[go_sem,c1,hin];(try simp (disch:=omega) only[zI]);repeat first|intro _|refine⟨by omega,?_⟩
  apply hK;clear hK K;apply zw (zk [1,2,7,8,9]);simp only[go_sem]
  repeat apply zq
  apply zc rfl<;>intro hc<;>(try simp only[go_sem] at hc)
  apply zx
  try simp only[go_sem]
  repeat apply zq
  apply zd
  repeat apply zq
  refine zb fun K hK=>?_;simp only[go_sem];(try simp (disch:=omega) only[zI]);repeat first|intro _|refine⟨by omega,?_⟩
  apply hK;clear hK K;apply zw (zk [1,2,4,7,8]);simp only[go_sem]
  by_cases hp:0<q
  ·rw[if_pos hp]
   have hq1:decide (0<q)=true:=decide_eq_true hp
   generalize hXX:W.map (fun w=>[ints w])=X at *
   obtain⟨GG,hG0,hG1,hG2⟩:∃ GG:Bool→Bool→RowC,(∀ z,GG false z = .gh Tryz.prog ll false (some (X++rest)))∧GG true true = .gh Tryz.prog ll false (some rest)∧GG true false = .gh Tryz.prog ll false none :=
    ⟨fun x z=>bif x then (bif z then .gh Tryz.prog ll false (some rest) else .gh Tryz.prog ll false none) else .gh Tryz.prog ll false (some (X++rest)),fun _=>rfl,rfl,rfl⟩
   have E:=And.intro hck0 (And.intro hBk (And.intro hsB (And.intro hq (And.intro hq1 (And.intro w1 (And.intro hG0 (And.intro hG1 hG2)))))))
   repeat apply zq
   refine awp_invY (n:=37) (yhF bs g (dn:Int) (s:Int) cs ((i+1:Nat):Int) (i:Int) q B ll true) (yhR GG) follows (by kernel_rfl) (by decide +kernel) (fitG_of true (zj [] ?_ ?_)) ?_ ?_
   ·simp only[go_sem,yhF,vH,if_true,if_false,Bool.false_eq_true,cond_false]
   ·simp only[go_sem,yhR,cond_false,hG0,List.cons_append,List.nil_append]
    try exact congrArg _ (hG0 _).symm
   refine⟨fun b vs z hdn hbk hde=>?_,fun b vs z hdn hbk hde=>?_,fun b vs z hdn hbk hde=>?_,fun b vs z hdn hbk hde=>?_,fun b vs z hdn hbk hde=>?_,fun b vs z hdn hbk hde=>?_,fun b vs z hdn hbk hde=>?_,fun b vs z hdn hbk hde=>?_,fun b vs z hdn hbk hde=>?_,fun b vs z hdn hbk hde=>?_,fun b vs z hdn hbk hde=>?_,fun b vs z hdn hbk hde=>?_,fun b vs z hdn hbk hde=>?_,fun b vs z hdn hbk hde=>?_,fun b vs z hdn hbk hde=>?_,fun b vs z hdn hbk hde=>?_,fun b vs z hdn hbk hde=>?_,fun b vs z hdn hbk hde=>?_,fun b vs z hdn hbk hde=>?_,fun b vs z hdn hbk hde=>?_,fun b vs z hdn hbk hde=>?_,fun b vs z hdn hbk hde=>?_,fun b vs z hdn hbk hde=>?_,fun b vs z hdn hbk hde=>?_,fun b vs z hdn hbk hde=>?_,trivial⟩
   ·skip
    have G:=dnT hdn hbk [1,2,3,4,7,8,11,12,13,14,15,16,17,18,19,20,21,22,23,24] (by decide +kernel)
    simp only[allB,and_true] at G
    refine .inl ⟨trivial,.inl (.inl ?_)⟩
    simp only[go_sem,upd,if_true,Bool.false_eq_true,if_false,hbk,G,E]
    refine fitG_of z (zj [] ?_ ?_)<;>simp only[go_sem,upd,if_true,Bool.false_eq_true,if_false,hbk,G,E]
   ·skip
    have H:=upT hdn hde [0] (by decide +kernel)
    have G:=dnT hdn hbk [2,3,4,7,8,11,12,13,14,15,16,17,18,19,20,21,22,23,24] (by decide +kernel)
    simp only[allB,and_true] at H G
    refine .inl ⟨trivial,.inl (.inl ?_)⟩
    simp only[go_sem,upd,if_true,Bool.false_eq_true,if_false,hbk,H,G,E]
    refine fitG_of z (zj [] ?_ ?_)<;>simp only[go_sem,upd,if_true,Bool.false_eq_true,if_false,hbk,H,G,E]
   ·skip
    have H:=upT hdn hde [1,0] (by decide +kernel)
    have G:=dnT hdn hbk [3,4,7,8,11,12,13,14,15,16,17,18,19,20,21,22,23,24] (by decide +kernel)
    simp only[allB,and_true] at H G
    refine .inl ⟨trivial,.inl (.inl ?_)⟩
    simp only[go_sem,upd,if_true,Bool.false_eq_true,if_false,hbk,H,G,E]
    refine fitG_of z (zj [] ?_ ?_)<;>simp only[go_sem,upd,if_true,Bool.false_eq_true,if_false,hbk,H,G,E]
   ·skip
    have H:=upT hdn hde [2,1,0] (by decide +kernel)
    have G:=dnT hdn hbk [4,7,8,11,12,13,14,15,16,17,18,19,20,21,22,23,24] (by decide +kernel)
    simp only[allB,and_true] at H G
    refine .inl ⟨trivial,.inl (.inl ?_)⟩
    simp only[go_sem,upd,if_true,Bool.false_eq_true,if_false,hbk,H,G,E]
    refine fitG_of z (zj [] ?_ ?_)<;>simp only[go_sem,upd,if_true,Bool.false_eq_true,if_false,hbk,H,G,E]
   ·skip
    have H:=upT hdn hde [3,2,1,0] (by decide +kernel)
    have G:=dnT hdn hbk [7,8,11,12,13,14,15,16,17,18,19,20,21,22,23,24] (by decide +kernel)
    simp only[allB,and_true] at H G
    refine .inl ⟨trivial,.inl (.inl ?_)⟩
    simp only[go_sem,upd,if_true,Bool.false_eq_true,if_false,hbk,H,G,E]
    refine fitG_of z (zj [] ?_ ?_)<;>simp only[go_sem,upd,if_true,Bool.false_eq_true,if_false,hbk,H,G,E]
   ·skip
    have G:=dnT hdn hbk [6,7,8,11,12,13,14,15,16,17,18,19,20,21,22,23,24] (by decide +kernel)
    simp only[allB,and_true] at G
    refine .inl ⟨trivial,.inl (.inl ?_)⟩
    simp only[go_sem,upd,if_true,Bool.false_eq_true,if_false,hbk,G,E]
    refine fitG_of z (zj [] ?_ ?_)<;>simp only[go_sem,upd,if_true,Bool.false_eq_true,if_false,hbk,G,E]
   ·skip
    have H:=upT hdn hde [5] (by decide +kernel)
    have G:=dnT hdn hbk [7,8,11,12,13,14,15,16,17,18,19,20,21,22,23,24] (by decide +kernel)
    simp only[allB,and_true] at H G
    refine .inl ⟨trivial,.inl (.inl ?_)⟩
    simp only[go_sem,upd,if_true,Bool.false_eq_true,if_false,hbk,H,G,E]
    refine fitG_of z (zj [] ?_ ?_)<;>simp only[go_sem,upd,if_true,Bool.false_eq_true,if_false,hbk,H,G,E]
   ·skip
    have H:=upT hdn hde [4,6,3,5,2,1,0] (by decide +kernel)
    have G:=dnT hdn hbk [8,11,12,13,14,15,16,17,18,19,20,21,22,23,24] (by decide +kernel)
    simp only[allB,and_true] at H G
    refine .inl ⟨trivial,.inl (.inl ?_)⟩
    simp only[go_sem,upd,if_true,Bool.false_eq_true,if_false,hbk,H,G,E]
    all_goals (try (refine⟨⟨by omega,by omega⟩,?_⟩))
    refine fitG_of z (zj [] ?_ ?_)<;>simp only[go_sem,upd,if_true,Bool.false_eq_true,if_false,hbk,H,G,E]
   ·skip
    have H:=upT hdn hde [7,4,6,3,5,2,1,0] (by decide +kernel)
    have G:=dnT hdn hbk [11,12,13,14,15,16,17,18,19,20,21,22,23,24] (by decide +kernel)
    simp only[allB,and_true] at H G
    refine .inl ⟨trivial,.inl (.inl ?_)⟩
    simp only[go_sem,upd,if_true,Bool.false_eq_true,if_false,hbk,H,G,E]
    refine fitG_of z (zj [] ?_ ?_)<;>simp only[go_sem,upd,if_true,Bool.false_eq_true,if_false,hbk,H,G,E]
   ·skip
    have G:=dnT hdn hbk [10,11,12,13,14,15,16,17,18,19,20,21,22,23,24] (by decide +kernel)
    simp only[allB,and_true] at G
    refine .inl ⟨trivial,.inl (.inl ?_)⟩
    simp only[go_sem,upd,if_true,Bool.false_eq_true,if_false,hbk,G,E]
    refine fitG_of z (zj [] ?_ ?_)<;>simp only[go_sem,upd,if_true,Bool.false_eq_true,if_false,hbk,G,E]
   ·skip
    have H:=upT hdn hde [9] (by decide +kernel)
    have G:=dnT hdn hbk [11,12,13,14,15,16,17,18,19,20,21,22,23,24] (by decide +kernel)
    simp only[allB,and_true] at H G
    refine .inl ⟨trivial,.inl (.inl ?_)⟩
    simp only[go_sem,upd,if_true,Bool.false_eq_true,if_false,hbk,H,G,E]
    refine fitG_of z (zj [] ?_ ?_)<;>simp only[go_sem,upd,if_true,Bool.false_eq_true,if_false,hbk,H,G,E]
   ·skip
    have H:=upT hdn hde [8,10,7,9,4,6,3,5,2,1,0] (by decide +kernel)
    have G:=dnT hdn hbk [12,13,14,15,16,17,18,19,20,21,22,23,24] (by decide +kernel)
    simp only[allB,and_true] at H G
    refine .inl ⟨trivial,.inl (.inl ?_)⟩
    simp only[go_sem,upd,if_true,Bool.false_eq_true,if_false,hbk,H,G,E]
    all_goals (try (refine⟨⟨by omega,by omega⟩,?_⟩))
    refine fitG_of z (zj [] ?_ ?_)<;>simp only[go_sem,upd,if_true,Bool.false_eq_true,if_false,hbk,H,G,E]
   ·skip
    have H:=upT hdn hde [11,8,10,7,9,4,6,3,5,2,1,0] (by decide +kernel)
    have G:=dnT hdn hbk [13,14,15,16,17,18,19,20,21,22,23,24] (by decide +kernel)
    simp only[allB,and_true] at H G
    refine .inl ⟨trivial,.inl (.inl ?_)⟩
    simp only[go_sem,upd,if_true,Bool.false_eq_true,if_false,hbk,H,G,E]
    refine fitG_of z (zj [] ?_ ?_)<;>simp only[go_sem,upd,if_true,Bool.false_eq_true,if_false,hbk,H,G,E]
   ·skip
    have H:=upT hdn hde [12,11,8,10,7,9,4,6,3,5,2,1,0] (by decide +kernel)
    have G:=dnT hdn hbk [14,15,16,17,18,19,20,21,22,23,24] (by decide +kernel)
    simp only[allB,and_true] at H G
    refine .inl ⟨trivial,.inl (.inl ?_)⟩
    simp only[go_sem,upd,if_true,Bool.false_eq_true,if_false,hbk,H,G,E]
    refine fitG_of z (zj [] ?_ ?_)<;>simp only[go_sem,upd,if_true,Bool.false_eq_true,if_false,hbk,H,G,E]
   ·skip
    have H:=upT hdn hde [13,12,11,8,10,7,9,4,6,3,5,2,1,0] (by decide +kernel)
    have G:=dnT hdn hbk [15,16,17,18,19,20,21,22,23,24] (by decide +kernel)
    simp only[allB,and_true] at H G
    refine .inl ⟨trivial,.inl (.inl ?_)⟩
    simp only[go_sem,upd,if_true,Bool.false_eq_true,if_false,hbk,H,G,E]
    refine fitG_of z (zj [] ?_ ?_)<;>simp only[go_sem,upd,if_true,Bool.false_eq_true,if_false,hbk,H,G,E]
   ·skip
    have H:=upT hdn hde [14,13,12,11,8,10,7,9,4,6,3,5,2,1,0] (by decide +kernel)
    have G:=dnT hdn hbk [16,22,23,24] (by decide +kernel)
    simp only[allB,and_true] at H G
    refine .inl ⟨⟨25,by kernel_rfl,by simp only[go_sem,if_true,H]⟩,.inl (.inl ?_)⟩
    simp only[go_sem,upd,if_true,Bool.false_eq_true,if_false,hbk,H,G,E]
    refine fitG_of z (zj [] ?_ ?_)<;>simp only[go_sem,upd,if_true,Bool.false_eq_true,if_false,hbk,H,G,E]
   ·skip
    have H:=upT hdn hde [14,15,13,12,11,8,10,7,9,4,6,3,5,2,1,0] (by decide +kernel)
    have G:=dnT hdn hbk [22,23,24] (by decide +kernel)
    simp only[allB,and_true] at H G
    refine .inl ⟨⟨25,by kernel_rfl,by simp only[go_sem,if_true,H]⟩,.inl (.inl ?_)⟩
    simp only[go_sem,upd,if_true,Bool.false_eq_true,if_false,hbk,H,G,E]
    refine fitG_of z (zj [] ?_ ?_)<;>simp only[go_sem,upd,if_true,Bool.false_eq_true,if_false,hbk,H,G,E]
   ·skip
    have H:=upT hdn hde [14,13,12,11,8,10,7,9,4,6,3,5,2,1,0] (by decide +kernel)
    have G:=dnT hdn hbk [18,22,23,24] (by decide +kernel)
    simp only[allB,and_true] at H G
    refine .inl ⟨⟨25,by kernel_rfl,by simp only[go_sem,if_true,H]⟩,.inl (.inl ?_)⟩
    simp only[go_sem,upd,if_true,Bool.false_eq_true,if_false,hbk,H,G,E]
    refine fitG_of z (zj [] ?_ ?_)<;>simp only[go_sem,upd,if_true,Bool.false_eq_true,if_false,hbk,H,G,E]
   ·skip
    have H:=upT hdn hde [14,17,13,12,11,8,10,7,9,4,6,3,5,2,1,0] (by decide +kernel)
    have G:=dnT hdn hbk [22,23,24] (by decide +kernel)
    simp only[allB,and_true] at H G
    refine .inl ⟨⟨25,by kernel_rfl,by simp only[go_sem,if_true,H]⟩,.inl (.inl ?_)⟩
    simp only[go_sem,upd,if_true,Bool.false_eq_true,if_false,hbk,H,G,E]
    refine fitG_of z (zj [] ?_ ?_)<;>simp only[go_sem,upd,if_true,Bool.false_eq_true,if_false,hbk,H,G,E]
   ·skip
    have H:=upT hdn hde [14,13,12,11,8,10,7,9,4,6,3,5,2,1,0] (by decide +kernel)
    have G:=dnT hdn hbk [20,22,23,24] (by decide +kernel)
    simp only[allB,and_true] at H G
    refine .inl ⟨⟨25,by kernel_rfl,by simp only[go_sem,if_true,H]⟩,.inl (.inl ?_)⟩
    simp only[go_sem,upd,if_true,Bool.false_eq_true,if_false,hbk,H,G,E]
    refine fitG_of z (zj [] ?_ ?_)<;>simp only[go_sem,upd,if_true,Bool.false_eq_true,if_false,hbk,H,G,E]
   ·skip
    have H:=upT hdn hde [14,19,13,12,11,8,10,7,9,4,6,3,5,2,1,0] (by decide +kernel)
    have G:=dnT hdn hbk [22,23,24] (by decide +kernel)
    simp only[allB,and_true] at H G
    refine .inl ⟨⟨25,by kernel_rfl,by simp only[go_sem,if_true,H]⟩,.inl (.inl ?_)⟩
    simp only[go_sem,upd,if_true,Bool.false_eq_true,if_false,hbk,H,G,E]
    refine fitG_of z (zj [] ?_ ?_)<;>simp only[go_sem,upd,if_true,Bool.false_eq_true,if_false,hbk,H,G,E]
   ·skip
    have H:=upT hdn hde [14,13,12,11,8,10,7,9,4,6,3,5,2,1,0] (by decide +kernel)
    have G:=dnT hdn hbk [22,23,24] (by decide +kernel)
    simp only[allB,and_true] at H G
    refine .inl ⟨⟨25,by kernel_rfl,by simp only[go_sem,if_true,H]⟩,.inl (.inl ?_)⟩
    simp only[go_sem,upd,if_true,Bool.false_eq_true,if_false,hbk,H,G,E]
    refine fitG_of z (zj [] ?_ ?_)<;>simp only[go_sem,upd,if_true,Bool.false_eq_true,if_false,hbk,H,G,E]
   ·skip
    have H:=upT hdn hde [14,14,16,18,20,21,13,15,17,19,12,11,8,10,7,9,4,6,3,5,2,1,0] (by decide +kernel)
    have G:=dnT hdn hbk [23,24] (by decide +kernel)
    simp only[allB,and_true] at H G
    refine .inl ⟨⟨25,by kernel_rfl,by simp only[go_sem,if_true,H]⟩,?_⟩
    refine .inr ⟨55,[],_,_,rest,ll,rfl,?_,?_,?_,hY,?_,?_⟩
    ·(simp only[go_sem,upd,if_true,Bool.false_eq_true,if_false,hbk,H,G,E])
    ·(simp only[go_sem,upd,if_true,Bool.false_eq_true,if_false,hbk,H,G,E,evs,List.map_cons,List.map_nil])
     try rfl
    ·(simp only[go_sem,upd,if_true,Bool.false_eq_true,if_false,hbk,H,G,E,evs,List.map_cons,List.map_nil])
     first|exact leL_refl _|exact⟨rv_le _,rv_le _⟩|exact⟨rv_le _,rv_le _,rv_le _⟩|skip
    ·rw[row999_st]
     (simp only[go_sem,upd,if_true,Bool.false_eq_true,if_false,hbk,H,G,E])
     refine fitG_of true (zj [] ?_ ?_)<;>(simp only[go_sem,upd,if_true,Bool.false_eq_true,if_false,hbk,H,G,E])
    ·rw[row999_st]
     (simp only[go_sem,upd,if_true,Bool.false_eq_true,if_false,hbk,H,G,E])
     refine fitG_of false (zj [] ?_ ?_)<;>(simp only[go_sem,upd,if_true,Bool.false_eq_true,if_false,hbk,H,G,E])
   ·skip
    have H:=upT hdn hde [14,22,13,16,18,20,21,12,15,17,19,11,8,10,7,9,4,6,3,5,2,1,0] (by decide +kernel)
    have G:=dnT hdn hbk [24] (by decide +kernel)
    simp only[allB,and_true] at H G
    refine .inl ⟨⟨25,by kernel_rfl,by simp only[go_sem,if_true,H]⟩,.inl (.inl ?_)⟩
    simp only[go_sem,upd,if_true,Bool.false_eq_true,if_false,hbk,H,G,E]
    refine fitG_of z (zj [] ?_ ?_)<;>simp only[go_sem,upd,if_true,Bool.false_eq_true,if_false,hbk,H,G,E]
   ·skip
    have H:=upT hdn hde [14,23,13,22,12,16,18,20,21,11,15,17,19,8,10,7,9,4,6,3,5,2,1,0] (by decide +kernel)
    simp only[allB,and_true] at H
    refine .inl ⟨trivial,.inl (.inl ?_)⟩
    simp only[go_sem,upd,if_true,Bool.false_eq_true,if_false,hbk,H,E]
    refine fitG_of z (zj [] ?_ ?_)<;>simp only[go_sem,upd,if_true,Bool.false_eq_true,if_false,hbk,H,E]
   intro b vs z hb
   simp only[go_sem,yhF,yhR,vH,hb,if_true,cond_true,List.cons_append,List.nil_append]
   cases z
   ·rw[hG2]
    apply zw (zk [1,2,7,8,35]);simp only[go_sem]
    repeat apply zq
    apply zc rfl<;>intro hc<;>(try simp only[go_sem] at hc)
    apply ze;exact⟨ll,false,.inr rfl⟩
   ·rw[hG1]
    apply zw (zk [1,2,7,8,35]);simp only[go_sem]
    repeat apply zq
    apply zc rfl<;>intro hc<;>(try simp only[go_sem] at hc)
    apply zx
    try simp only[go_sem]
    repeat apply zq
    refine zb fun K hK=>?_;simp only[go_sem,w1];(try simp (disch:=omega) only[zI]);repeat first|intro _|refine⟨by omega,?_⟩
    apply hK;clear hK K
    try simp only[go_sem]
    refine⟨by omega,zj [] ?_ ?_⟩
    ·try simp only[go_sem]
    ·try simp only[go_sem]
  ·rw[if_neg hp]
   simp only[List.map_nil,List.nil_append]
   have hq1:decide (0<q)=false:=decide_eq_false hp
   repeat apply zq
   refine zg follows (by decide +kernel) (by kernel_rfl) fun K hK=>?_;simp only[go_sem,hck0,hBk,hsB,hq,hq1,w1,List.length_map];(try simp (disch:=omega) only[zI]);repeat first|intro _|refine⟨by omega,?_⟩
   repeat first|intro _|refine⟨by omega,?_⟩
   apply hK;clear hK K;apply zw (zk [1,2,7,8,35]);simp only[go_sem]
   repeat apply zq
   apply zc rfl<;>intro hc<;>(try simp only[go_sem] at hc)
   apply zx
   try simp only[go_sem]
   repeat apply zq
   refine zb fun K hK=>?_;simp only[go_sem,w1];(try simp (disch:=omega) only[zI]);repeat first|intro _|refine⟨by omega,?_⟩
   apply hK;clear hK K
   try simp only[go_sem]
   refine⟨by omega,zj [] ?_ ?_⟩
   ·try simp only[go_sem]
   ·try simp only[go_sem]
 ·have hie:i=dn:=by omega
  subst hie
  rw[hrE]
  repeat apply zq
  refine zb fun K hK=>?_;simp only[go_sem,Nat.lt_irrefl,Int.lt_irrefl];(try simp (disch:=omega) only[zI]);repeat first|intro _|refine⟨by omega,?_⟩
  apply hK;clear hK K;apply zw (zk [9]);simp only[go_sem]
  repeat apply zq
  apply zc rfl<;>intro hc<;>(try simp only[go_sem] at hc)
  apply zf;simp only[go_sem];exact⟨ll,false,.inl rfl⟩
theorem waysAll_ok (bs:List Int) (g:Int) (dn s:Nat) (h:BdsO bs) (hg:0≤g∧g≤2) (hk:1≤dn∧dn≤3) (hs:1≤s∧s≤1000) (hT:0<totO (cntO g bs s dn) s∧totO (cntO g bs s dn) s≤3000) :
 ACalls Tryz.prog 12 [ouR bs g (dn:Int),i64 (s:Int)] (.tu [.sl 1 ((allO g bs s s dn).map fun w=>[ints w]),i64 0]):=by
 have hnf:=newFinish_ok bs g dn s h hg (by omega) hs
 have hcl:=cnt_len g bs s dn
 have hto:=total_ok bs g (cntO g bs s dn) s (s+1) (by omega) (fun r hr=>by
  obtain⟨j,hj,rfl⟩:=List.mem_map.1 hr
  have hj:=List.mem_range.1 hj
  exact⟨rowN_len g bs s j,rowN_le6 g bs h.len s (by omega)⟩) (by omega)
 have hit:=all_it bs g (fun b hb=>h.bed b hb) dn s (by omega) hs
 have hAl:=all_len (g:=g) (m:=s) (s:=s) h.len dn hk.2
 have z0:((0:Int) != 0)=false:=rfl
 generalize totO (cntO g bs s dn) s=T at *
 generalize allO g bs s s dn=W at *
 have d1:(T == 0)=false:=by rw[beq_eq_false_iff_ne];omega
 have d2:decide (3000<T)=false:=decide_eq_false (by omega)
 refine acalls_stR (rs:=[.sl 1 (W.map fun w=>[ints w]),i64 0]) [.cell 4 62,.tmp 5] Tryz.func12 rfl (by kernel_rfl) Tryz.ntmps12 rfl (by simp) rfl fun C hC vs=>?_
 repeat apply zq
 refine zb fun K hK=>?_;simp only[go_sem];(try simp (disch:=omega) only[zI]);repeat first|intro _|refine⟨by omega,?_⟩
 apply hK;clear hK K;refine zw (zfP 2 2 [ints bs,i64 g,i64 (dn:Int)] (by omega) rfl rfl) ?_;apply zw (zk [1,2,4]);simp only[go_sem]
 repeat apply zq
 refine zb fun K hK=>?_;simp only[go_sem];(try simp (disch:=omega) only[zI])
 refine zh (hnf) rfl (by simp only[go_sem,i64,ints]) (by simp only[go_sem,i64,ints]) ?_
 (try simp only[go_sem]);(try simp (disch:=omega) only[zI]);repeat first|intro _|refine⟨by omega,?_⟩
 apply hK;clear hK K;refine zw (zfP 6 6 (finC bs g (dn:Int) dn s) (by omega) rfl rfl) ?_;apply zw (zk [1,4,5,6]);simp only[go_sem]
 repeat apply zq
 refine zb fun K hK=>?_;simp only[go_sem,z0];(try simp (disch:=omega) only[zI]);repeat first|intro _|refine⟨by omega,?_⟩
 apply hK;clear hK K;apply zw (zk [1,4,5,6,16]);simp only[go_sem]
 repeat apply zq
 apply zc rfl<;>intro hc<;>(try simp only[go_sem] at hc)
 apply zx
 try simp only[go_sem]
 repeat apply zq
 refine zb fun K hK=>?_;simp only[go_sem];(try simp (disch:=omega) only[zI])
 refine zh (hto) rfl (by simp only[go_sem,i64,ints]) (by simp only[go_sem,i64,ints]) ?_
 (try simp only[go_sem]);(try simp (disch:=omega) only[zI]);repeat first|intro _|refine⟨by omega,?_⟩
 apply hK;clear hK K;apply zw (zk [4,5,6,7]);simp only[go_sem]
 repeat apply zq
 apply zd
 repeat apply zq
 refine zb fun K hK=>?_;simp only[go_sem,d1];(try simp (disch:=omega) only[zI]);repeat first|intro _|refine⟨by omega,?_⟩
 apply hK;clear hK K;apply zw (zk [4,5,6,7,22]);simp only[go_sem]
 repeat apply zq
 apply zc rfl<;>intro hc<;>(try simp only[go_sem] at hc)
 repeat apply zq
 refine zb fun K hK=>?_;simp only[go_sem,d2];(try simp (disch:=omega) only[zI]);repeat first|intro _|refine⟨by omega,?_⟩
 apply hK;clear hK K;apply zw (zk [4,5,6,7,25]);simp only[go_sem]
 repeat apply zq
 apply zc rfl<;>intro hc<;>(try simp only[go_sem] at hc)
 apply zx
 try simp only[go_sem]
 repeat apply zq
 refine awp_long ?_
 refine sops_take 1 (by kernel_rfl) fun K hK=>?_
 simp only[go_sem,List.take_succ_cons,List.take_zero,List.drop_succ_cons,List.drop_zero,List.append_eq,List.cons_append,List.nil_append];(try simp (disch:=omega) only[zI]);repeat first|intro _|refine⟨by omega,?_⟩
 refine hK _ rfl ?_
 clear hK K
 refine sops_sub (zk [4,28]) ?_
 simp only[go_sem]
 refine sops_gop rfl (by intro t h;injection h with h;subst h;show 29<36;decide) (by intro c h;cases h) (gop_method rfl rfl ?_)
 try simp only[go_sem]
 refine sops_end (by kernel_rfl) fun K hK=>?_
 simp only[go_sem,List.drop_succ_cons,List.drop_zero,List.append_eq,List.cons_append,List.nil_append];(try simp (disch:=omega) only[zI]);repeat first|intro _|refine⟨by omega,?_⟩
 apply hK;clear hK K;refine zw (sub_ownB 4 0 34 35 1 (by omega) (by omega) rfl rfl) ?_;apply zw (zk [4,29]);simp only[go_sem]
 repeat apply zq
 apply zd
 refine awp_rangeFB hC (W.map fun w=>[ints w]) hit [4,29] (by decide) (fun vs=>[(4,.pt 4 (vs 4) 0),(29,.r (.bf 28 [.ag (finC bs g (dn:Int) dn s)]))])
  (fun i vs=>[(4,.box [.os 34 (vs 34) 1 0 i]),(34,.arr 35 1 ((W.take i).map fun w=>[ints w]))]) (fun _=>True) (zj [] ?_ ?_) trivial (fun _=>rfl) (fun _=>rfl) (fun _ _=>rfl) (by simp) (fun e he=>by obtain⟨x,_,rfl⟩:=List.mem_map.1 he;rfl) ?_ ?_
 ·try simp only[go_sem]
  try rfl
 ·try simp only[go_sem]
  try rfl
 ·intro i e vs us C' he _
  rw[List.getElem?_map] at he
  obtain⟨w,hw,rfl⟩:=Option.map_eq_some_iff.1 he
  have hi:=(List.getElem?_eq_some_iff.1 hw).1
  have hlt:((W.take i).map fun w=>[ints w]).length=i:=by rw[List.length_map,List.length_take];omega
  rw[zto hw,List.map_append]
  repeat apply zq
  refine zb fun K hK=>?_;simp only[go_sem];(try simp (disch:=omega) only[zI]);repeat first|intro _|refine⟨by omega,?_⟩
  apply hK;clear hK K
  refine⟨rfl,fun C'=>?_⟩
  apply zw (zk [4,8,29]);simp only[go_sem]
  repeat apply zq
  apply zd
  repeat apply zq
  refine zb fun K hK=>?_;simp only[go_sem,hlt];(try simp (disch:=omega) only[zI]);repeat first|intro _|refine⟨by omega,?_⟩
  repeat first|intro _|refine⟨by omega,?_⟩
  apply hK;clear hK K
  try simp only[go_sem]
  refine zj (F:=fun _=>[]) [] ?_ ?_
  ·try simp only[go_sem]
  ·try simp only[go_sem]
 ·intro vs us _
  have hWl:(W.map fun w=>[ints w]).length=W.length:=List.length_map _
  try simp only[go_sem]
  refine zw (sub_wake rfl) ?_
  try simp only[List.length_map,List.take_length]
  repeat apply zq
  refine zb fun K hK=>?_;simp only[go_sem];(try simp (disch:=omega) only[zI]);repeat first|intro _|refine⟨by omega,?_⟩
  apply hK;clear hK K;apply zw (zk [4,5]);simp only[go_sem];apply ze;simp only[go_sem]
  try simp
theorem kWays:ACalls Tryz.prog 12 [.ag [ints [120,125,205,220,225,320],i64 1,i64 2],i64 110] (.tu [.sl 1 [[ints [320,225]]],i64 0]):=by
 have h:=waysAll_ok sixO 1 2 110 sixO_ok (by omega) (by omega) (by omega) (by decide +kernel)
 have e:allO 1 sixO 110 110 2=[[320,225]]:=by decide +kernel
 rw[e] at h
 exact h
def fsO:List (FuncId × Nat):=[(5,0)]
theorem fsO_ok:allOk Tryz.prog fsO=true:=by kernel_rfl
def oOrc:Orc:=[(11,[.ag Bo.fourC,.ag [i64 500,i64 500]],.tu [i64 106,.bo false,i64 0]),(12,[.ag [ints [120,125,205,220,225,320],i64 1,i64 2],i64 110],.tu [.sl 1 [[ints [320,225]]],i64 0])]
theorem oOrc_ok:orcOk Tryz.prog oOrc:=⟨Bo.bed_ok,kWays,trivial⟩
theorem knownout_ok:ACalls Tryz.prog 5 [] (.bo true):=evalX_ok follows fsO_ok oOrc_ok (k:=200) (by kernel_rfl) (by kernel_rfl)
end Go.Proofs.YtonpmcdkncbjoaaGreat.Du

namespace Go.Proofs.YtonpmcdkncbjoaaGreat.Du.Th
open Go Go.Oc Go.Proofs.YtonpmcdkncbjoaaGreat.Bo
set_option maxRecDepth 8000
set_option maxHeartbeats 8000000
theorem worn_law (H:List (List Nat)) (hH:∀ a∈H,a.length=3∧∀ n∈a,n<256) (C0:List Nat) (hC:∀ x∈C0,x<256) (x:Nat) (hx:x<256):ACalls Tryz.prog 3 [trisR H,u8L C0,u8Q x] (.bo true):=by
 have hk1:=Du.knownout_ok
 have hk2:=knownthrow_ok
 have hbo:=Bo.board_ok
 have hkn:=fit_known bsW_ok H
 have hl10:bsW.length=10:=rfl
 have hbe:=fun (k:Nat) (b:Int) (h:bsW[k]? = some b)=>bsW_ok.bed b (zmo h)
 have hda:=fun (i k:Nat) (a:List Nat) (y:Nat) (h1:H[i]? = some a) (h2:a[k]? = some y)=>dart_at H i k h1 h2
 have hdl:=fun (i k:Nat)=>darts_len bsW H i k
 have hds:=fun (i k:Nat)=>darts_snoc bsW H i k
 have hks:=fun (i:Nat)=>kn_snoc bsW H i
 have hkl:=fun (i:Nat)=>kn_len bsW H i
 have hab:aimB bsW=⟨320,bsW.map fun b=>Bd.mk b 0 0⟩:=rfl
 have hall:(.sl 1 [[i64 0],[i64 101],[i64 105],[i64 112],[i64 120],[i64 125],[i64 220],[i64 301],[i64 305],[i64 320]]:RV)=ints bsW:=rfl
 have hfW:=fitW H
 have hwk:=wk_ok hC H
 generalize hbs:bsW=bs at *
 refine zas (rs:=[.bo true]) [.tmp 6] Tryz.func3 rfl (by kernel_rfl) Tryz.ntmps3 rfl (by simp) rfl fun C vs=>?_
 apply zq
 refine zb fun K hK=>?_;simp only[go_sem];apply hK;apply zw (zk [0,1,2]);simp only[go_sem]
 apply zq
 refine zb fun K hK=>?_;simp only[go_sem,armC]
 refine zh (hbo) rfl (by simp only[go_sem,i64,ints,armC]) (by simp only[go_sem,i64,ints,armC]) ?_
 (try simp only[go_sem,armC]);apply hK;refine zw (zfP 7 7 armC (by omega) rfl rfl) ?_;apply zw (zk [0,1,2,7]);simp only[go_sem]
 generalize hAC:armC=AC at *
 apply zq
 refine zb fun K hK=>?_;simp only[go_sem];apply hK;refine zw (sub_ownB 8 1 318 39 3 (by omega) (by omega) rfl (by simp only[go_sem,List.getElem?_cons_succ,List.getElem?_cons_zero])) ?_;apply zw (zk [0,1,2,7,8,9]);simp only[go_sem];rw[hall]
 repeat apply zq
 refine zb fun K hK=>?_;simp only[go_sem];apply hK;apply zw (zk [0,1,2,7,8,9,10]);simp only[go_sem];apply zd
 refine zuv (n:=270) 10 (fun i vs=>[(0,.r (trisR H)),(1,.r (u8L C0)),(2,.r (u8Q x)),(7,.r (.rp AC)),(8,.pt 8 (vs 8) 0),(9,.r (ints bs)),(10,.r (i64 (i:Int)))])
  (fun i vs=>[(8,.box [.r (i64 320),.os 318 (vs 318) 3 0 i]),(318,.arr 39 3 ((bs.take i).map fun b=>[i64 b,i64 0,i64 0]))]) (fun _=>True) 0 (zj [] ?_ ?_) (Nat.zero_le _) trivial ?_
 ·try simp only[go_sem]
  try rfl
 ·try simp only[go_sem]
  try rfl
 intro i vs hi _
 by_cases hin:i<10
 ·have hib:i<bs.length:=by omega
  obtain⟨b,hb⟩:=zol hib
  have hlt:(bs.take i).length=i:=by rw[List.length_take];omega
  have c1:decide ((i:Int)<10)=true:=decide_eq_true (by omega)
  rw[zto hb]
  repeat apply zq
  refine zb fun K hK=>?_;simp only[go_sem,hin,hl10,c1,List.length_map];apply hK;apply zw (zk [0,1,2,7,8,9,10,41]);simp only[go_sem]
  apply zc rfl<;>intro hc<;>(try simp only[go_sem] at hc)
  apply zx
  try simp only[go_sem]
  apply zq
  apply zd
  refine awp_dreg3 [(8,some 8),(9,none),(10,none)] [8] follows (by decide +kernel) (by kernel_rfl) (by simp only[keysOk,List.mem_cons,List.not_mem_nil,forall_eq_or_imp,Oc.keyOf,go_sem];simp) (by intro k hk;simp only[List.mem_cons,List.not_mem_nil,or_false] at hk;first|(subst hk;exact⟨_,rfl⟩)|(rcases hk with rfl|rfl<;>exact⟨_,rfl⟩)|(rcases hk with rfl|rfl|rfl<;>exact⟨_,rfl⟩)) fun K hK=>?_
  simp only[go_sem,hb,hib,hin,hl10,hlt,List.length_map]
  repeat refine⟨by omega,?_⟩
  apply hK;apply zw (zk [0,1,2,7,8,9,10]);simp only[go_sem];refine zb fun K hK=>?_;simp only[go_sem];(try simp (disch:=omega) only[zI]);apply hK
  try simp only[go_sem]
  refine⟨by omega,zj [] ?_ ?_⟩
  ·try simp only[go_sem]
  ·try simp only[go_sem]
   try simp
 have hie:i=10:=by omega
 subst hie
 have tk0:bs.take 10=bs:=List.take_of_length_le (by omega)
 rw[tk0]
 repeat apply zq
 refine zb fun K hK=>?_;simp only[go_sem,hl10,List.length_map];apply hK;apply zw (zk [0,1,2,7,8,9,41]);simp only[go_sem]
 apply zc rfl<;>intro hc<;>(try simp only[go_sem] at hc)
 apply zf;simp only[go_sem];refine zw (sub_frzB 8 1 318 (ty:=39) (sz:=3) (off:=0) (m:=10) (es:=bs.map fun b=>[i64 b,i64 0,i64 0]) (by omega) (by omega) rfl (by simp only[go_sem,List.getElem?_cons_succ,List.getElem?_cons_zero]) (by rfl) (by simp [hl10])) ?_
 have tk1:List.take 10 ((aimB bs).beds.map bedR)=(aimB bs).beds.map bedR:=List.take_of_length_le (by simp [aimB,hl10])
 have haim:(bs.map fun b=>[i64 b,i64 0,i64 0])=(aimB bs).beds.map bedR:=by
  simp only[aimB,List.map_map];rfl
 simp only[go_sem,List.drop_zero,haim,tk1,List.set_cons_succ,List.set_cons_zero];refine zw (zfP 8 8 [i64 320,bedsR (aimB bs).beds] (by omega) rfl rfl) ?_;apply zw (zk [0,1,2,7,8,9]);simp only[go_sem]
 apply zq
 refine zb fun K hK=>?_;simp only[go_sem];apply hK;refine zw (sub_own 11 311 42 2 (by omega) rfl) ?_;apply zw (zk [0,1,2,7,8,9,11]);simp only[go_sem]
 repeat apply zq
 refine zb fun K hK=>?_;simp only[go_sem];apply hK;apply zw (zk [0,1,2,7,8,9,11,12]);simp only[go_sem];apply zd
 have hV20:visW H≤20:=by unfold visW;omega
 have hVle:visW H≤H.length:=by unfold visW;omega
 have hVcase:visW H=H.length∨visW H=20:=by unfold visW;omega
 have hVN:visW H≠0→visN H=visW H:=fun h=>by unfold visN visW at *;omega
 refine zuv (n:=270) (visW H) (fun i vs=>[(0,.r (trisR H)),(1,.r (u8L C0)),(2,.r (u8Q x)),(7,.r (.rp AC)),(8,.r (.rp [i64 320,bedsR (aimB bs).beds])),(9,.r (ints bs)),(11,.os 311 (vs 311) 2 0 i),(12,.r (i64 (i:Int)))])
  (fun i vs=>[(311,.arr 42 2 (knL bs H i))]) (fun _=>True) 0 (zj [] ?_ ?_) (Nat.zero_le _) trivial ?_
 ·try simp only[go_sem]
  try rfl
 ·try simp only[go_sem]
  try rfl
 intro i vs hi _
 by_cases hin:i<visW H
 ·have hiH:i<H.length:=by omega
  have c2:decide ((i:Int)<20)=true:=decide_eq_true (by omega)
  have c2':i<20:=by omega
  obtain⟨a,ha⟩:=zol hiH
  obtain⟨a3,a8⟩:=hH a (zmo ha)
  have hkl:=hkl i
  rw[hks i]
  generalize hKN:knL bs H i=KN at *
  repeat apply zq
  refine zb fun K hK=>?_;simp only[go_sem,hiH,c2,c2',List.length_map]
  intro _
  apply hK;apply zw (zk [0,1,2,7,8,9,11,12,62]);simp only[go_sem]
  apply zc rfl<;>intro hc<;>(try simp only[go_sem] at hc)
  apply zx
  try simp only[go_sem]
  apply zq
  apply zd
  apply zq
  refine zb fun K hK=>?_;simp only[go_sem];apply hK;refine zw (sub_ownB 13 0 314 31 1 (by omega) (by omega) rfl (by simp only[go_sem,List.getElem?_cons_succ,List.getElem?_cons_zero])) ?_;apply zw (zk [0,1,2,7,8,9,11,12,13]);simp only[go_sem]
  repeat apply zq
  refine zb fun K hK=>?_;simp only[go_sem];apply hK;apply zw (zk [0,1,2,7,8,9,11,12,13,14]);simp only[go_sem];apply zd
  refine zuv (n:=270) 3 (fun k vs=>[(0,.r (trisR H)),(1,.r (u8L C0)),(2,.r (u8Q x)),(7,.r (.rp AC)),(8,.r (.rp [i64 320,bedsR (aimB bs).beds])),(9,.r (ints bs)),(11,.os 311 (vs 311) 2 0 i),(12,.r (i64 (i:Int))),(13,.pt 13 (vs 13) 0),(14,.r (i64 (k:Int)))])
   (fun k vs=>[(13,.box [.os 314 (vs 314) 1 0 k,.r (i64 0)]),(311,.arr 42 2 KN),(314,.arr 31 1 ((dartsL bs H i k).map fun b=>[i64 b]))]) (fun _=>True) 0 (zj [] ?_ ?_) (Nat.zero_le _) trivial ?_
  ·try simp only[go_sem]
   try rfl
  ·try simp only[go_sem]
   try rfl
  intro k vs hk _
  by_cases hkn:k<3
  ·have g1:decide ((k:Int)<3)=true:=decide_eq_true (by omega)
   have hdk:=hdl i k
   obtain⟨y,hy⟩:=zol (l:=a) (i:=k) (by omega)
   have y8:=a8 y (zmo hy)
   have hgb:=hda i k a y ha hy
   have k8:IntKind.i64.wrap (y:Int)=y:=by rw[zI]<;>omega
   have hmN:=Nat.mod_lt y (show 10 > 0 by omega)
   have r1:Int.tmod (y:Int) 10=((y % 10:Nat):Int):=rfl
   have r2:IntKind.i64.wrap ((y % 10:Nat):Int)=((y % 10:Nat):Int):=by rw[zI]<;>omega
   rw[hds i k,hgb]
   generalize hM:y % 10=M at *
   obtain⟨b,hb⟩:=zol (l:=bs) (i:=M) (by omega)
   have hbg:bs.getD M 0=b:=by rw[List.getD_eq_getElem?_getD,hb];rfl
   rw[hbg]
   have hMl:M<bs.length:=by omega
   generalize hDL:dartsL bs H i k=DL at *
   have hdrp:(List.drop k (a.map u8Q)).headD RV.un=u8Q y:=by
    rw[show (List.drop k (a.map u8Q))=u8Q y::List.drop (k+1) (a.map u8Q) from drop_of_opt (by rw[List.getElem?_map,hy];rfl)];rfl
   have hkl3:k<a.length:=by omega
   repeat apply zq
   refine zb fun K hK=>?_;simp only[go_sem,g1,hkn];apply hK;apply zw (zk [0,1,2,7,8,9,11,12,13,14,67]);simp only[go_sem]
   apply zc rfl<;>intro hc<;>(try simp only[go_sem] at hc)
   apply zx
   try simp only[go_sem]
   apply zq
   apply zd
   refine awp_dreg3 [(13,some 13),(0,none),(9,none),(12,none),(14,none)] [13] follows (by decide +kernel) (by kernel_rfl) (by simp only[keysOk,List.mem_cons,List.not_mem_nil,forall_eq_or_imp,Oc.keyOf,go_sem];simp) (by intro k hk;simp only[List.mem_cons,List.not_mem_nil,or_false] at hk;first|(subst hk;exact⟨_,rfl⟩)|(rcases hk with rfl|rfl<;>exact⟨_,rfl⟩)|(rcases hk with rfl|rfl|rfl<;>exact⟨_,rfl⟩)) fun K hK=>?_
   simp only[go_sem,ha,hiH,hkl3,a3,k8,hdrp,hkn,r1,r2,hb,hMl,hl10,hdk,List.length_map,Nat.mul_one]
   repeat refine⟨by omega,?_⟩
   apply hK;apply zw (zk [0,1,2,7,8,9,11,12,13,14]);simp only[go_sem];refine zb fun K hK=>?_;simp only[go_sem];(try simp (disch:=omega) only[zI]);apply hK
   try simp only[go_sem]
   refine⟨by omega,zj [] ?_ ?_⟩
   ·try simp only[go_sem]
   ·try simp only[go_sem]
    try simp
  have hke:k=3:=by omega
  subst hke
  repeat apply zq
  refine zb fun K hK=>?_;simp only[go_sem];apply hK;apply zw (zk [0,1,2,7,8,9,11,12,13,67]);simp only[go_sem]
  apply zc rfl<;>intro hc<;>(try simp only[go_sem] at hc)
  apply zf;simp only[go_sem]
  have hd3:=hdl i 3
  generalize hDL:dartsL bs H i 3=DL at *
  refine zw (sub_frzB 13 0 314 (ty:=31) (sz:=1) (off:=0) (m:=3) (es:=DL.map fun b=>[i64 b]) (by omega) (by omega) rfl (by simp only[go_sem,List.getElem?_cons_succ,List.getElem?_cons_zero]) (by rfl) (by simp [hd3])) ?_
  have tk3:List.take 3 (DL.map fun b=>[i64 b])=DL.map fun b=>[i64 b]:=List.take_of_length_le (by simp [hd3])
  simp only[go_sem,List.drop_zero,tk3,List.set_cons_succ,List.set_cons_zero];refine zw (zfP 13 13 [ints DL,i64 0] (by omega) rfl rfl) ?_;apply zw (zk [0,1,2,7,8,9,11,12,13]);simp only[go_sem];refine zb fun K hK=>?_;simp only[go_sem,hkl,List.length_map]
  refine⟨by omega,?_⟩
  apply hK;apply zw (zk [0,1,2,7,8,9,11,12]);simp only[go_sem];refine zb fun K hK=>?_;simp only[go_sem];(try simp (disch:=omega) only[zI]);apply hK
  try simp only[go_sem]
  refine⟨by omega,zj [] ?_ ?_⟩
  ·try simp only[go_sem]
  ·try simp only[go_sem]
   try simp
 have hie:i=visW H:=by omega
 subst hie
 have hkl:=hkl (visW H)
 generalize hVW:visW H=V at *
 generalize hKN:knL bs H V=KN at *
 repeat apply zq
 refine zaw (n:=270) (fun (_:Unit) vs=>[(0,.r (trisR H)),(1,.r (u8L C0)),(2,.r (u8Q x)),(7,.r (.rp AC)),(8,.r (.rp [i64 320,bedsR (aimB bs).beds])),(9,.r (ints bs)),(11,.os 311 (vs 311) 2 0 V),(62,.r (.bo false))])
  (fun _ vs=>[(311,.arr 42 2 KN)]) (fun _=>True) (fun _ h=>h) ?_ ?_
 ·by_cases hq:V<H.length
  ·have hq2:decide ((V:Int)<20)=false:=decide_eq_false (by omega)
   have hq3:V=20:=by omega
   refine zb fun K hK=>?_;simp only[go_sem,hq,hq2,List.length_map]
   intro _
   apply hK
   try simp only[go_sem]
   refine⟨(),zj [] ?_ ?_⟩
   ·try simp only[go_sem]
   ·try simp only[go_sem]
  ·skip
   refine zb fun K hK=>?_;simp only[go_sem,hq,List.length_map]
   intro _
   apply hK
   try simp only[go_sem]
   refine⟨(),zj [] ?_ ?_⟩
   ·try simp only[go_sem]
   ·try simp only[go_sem]
 intro _ vs _
 apply zc rfl<;>intro hc<;>(try simp only[go_sem] at hc)
 apply zf;simp only[go_sem]
 by_cases hV0:V=0
 ·subst hV0
  repeat apply zq
  refine zb fun K hK=>?_;simp only[go_sem];apply hK;apply zw (zk [92]);simp only[go_sem]
  apply zc rfl<;>intro hc<;>(try simp only[go_sem] at hc)
  apply zq
  refine zb fun K hK=>?_;simp only[go_sem]
  refine zh (hk1) rfl (by simp only[go_sem,i64,ints]) (by simp only[go_sem,i64,ints]) ?_
  (try simp only[go_sem])
  refine zh (hk2) rfl (by simp only[go_sem,i64,ints]) (by simp only[go_sem,i64,ints]) ?_
  (try simp only[go_sem]);apply hK;apply zw (zk [6]);simp only[go_sem];apply ze;simp only[go_sem]
 refine zw (sub_frz (ty:=42) (sz:=2) (off:=0) (m:=V) (es:=KN) 11 311 (by omega) rfl (by rfl) (by simp [hkl])) ?_
 have tkk:List.take V KN=KN:=List.take_of_length_le (by omega)
 simp only[go_sem,List.drop_zero,tkk];apply zw (zk [1,2,7,8,9,11]);simp only[go_sem]
 have hvn:=hVN hV0
 rw[hvn,hKN] at hkn
 have d0:((V:Int) == 0)=false:=by rw[beq_eq_false_iff_ne];omega
 repeat apply zq
 refine zb fun K hK=>?_;simp only[go_sem,d0,hkl,List.length_map]
 intro _
 apply hK;apply zw (zk [1,2,7,8,9,11,92]);simp only[go_sem]
 apply zc rfl<;>intro hc<;>(try simp only[go_sem] at hc)
 apply zx
 try simp only[go_sem]
 have hat:(aimB bs).at_=320:=rfl
 apply zq
 refine zb fun K hK=>?_;simp only[go_sem]
 refine zh (hkn) rfl (by simp only[go_sem,i64,ints,aimV,hat]) (by simp only[go_sem,i64,ints,aimV,hat]) ?_
 (try simp only[go_sem,aimV,hat]);apply hK
 generalize hFB:fitB bs H true=FB at *
 refine zw (zfP 15 15 [i64 320,bedsR FB] (by omega) rfl rfl) ?_;apply zw (zk [1,2,7,9,11,15,16,17,18]);simp only[go_sem]
 have hFl:FB.length=10:=by rw[hfW];simp
 have hFg:∀ k,k<10→FB[k]? = some ⟨bs.getD k 0,(cntW H).getD k 0,(cntW H).getD k 0⟩:=fun k hk=>by
  rw[hfW,List.getElem?_map,List.getElem?_range hk];rfl
 have hcs:=cnt_sum H
 have hcl:=cnt_len H
 have hcle:=cntW_le H
 rw[hvn] at hcs
 have z0:((0:Int) != 0)=false:=rfl
 have w3:IntKind.i64.wrap (3*(V:Int))=3*(V:Int):=by rw[zI]<;>omega
 have n3:(3*(V:Int) != 3*(V:Int))=false:=by simp
 have w3x:IntKind.i64.wrap (3*(V:Int))=3*(V:Int):=w3
 have n10:((10:Int) != 10)=false:=rfl
 have n10':(((10:Nat):Int) != 10)=false:=rfl
 have n10'':(((10:Nat):Int) != ((10:Nat):Int))=false:=rfl
 repeat apply zq
 refine zb fun K hK=>?_;simp only[go_sem,z0,w3,n3,n10,n10',n10'',hkl,hFl,hl10,List.length_map]
 intro _
 apply hK;apply zw (zk [1,2,7,9,15,16,125]);simp only[go_sem]
 apply zc rfl<;>intro hc<;>(try simp only[go_sem] at hc)
 apply zx
 try simp only[go_sem]
 apply zq
 refine zb fun K hK=>?_;simp only[go_sem];apply hK;refine zw (sub_own 20 320 3 1 (by omega) rfl) ?_;apply zw (zk [1,2,7,9,15,16,19,20,21,22]);simp only[go_sem]
 repeat apply zq
 refine zb fun K hK=>?_;simp only[go_sem];apply hK;apply zw (zk [1,2,7,9,15,16,19,20,21,22,23]);simp only[go_sem]
 have hw0:(weekI (cntW H) 0).map (fun x:Int=>[i64 x])=[[i64 0],[i64 0],[i64 0],[i64 0],[i64 0],[i64 0],[i64 0],[i64 0],[i64 0],[i64 0],[i64 0],[i64 0],[i64 0],[i64 0],[i64 0],[i64 0],[i64 0],[i64 0],[i64 0],[i64 0]]:=by rw[week_zero];rfl
 have hwl:=fun (i:Nat)=>week_len (cntW H) i
 have hws:=fun (i:Nat) (h:i<20)=>week_set (cntW H) h
 have hwa:=fun (i:Nat) (h:i<20)=>week_at (cntW H) h
 have hwb:=fun (n:Int) (k:Nat)=>wkP_bound (c:=cntW H) (m:=60) (by omega) hcle n k
 have hwS:=fun (n:Int) (k:Nat)=>show wkP (cntW H) n (k+1)=wkP (cntW H) n k+if (bsW.getD k 0) % 100=n then (cntW H).getD k 0 else 0 from rfl
 rw[hbs] at hwS
 have hW0:=fun (n:Int)=>show wkP (cntW H) n 0=0 from rfl
 have hbb:=fun (i:Nat)=>bef_sum hC i
 have hbs1:=fun (i:Nat)=>bef_snoc C0 i
 have hbl:=fun (i:Nat)=>bef_len C0 i
 have hb255:=fun (i:Nat)=>byteA_le hC i
 have hby:=fun (i:Nat) (h:i≤1000)=>armbyte_ok C0 hC i h
 have hhs:=fun (i:Nat)=>hit_succ (cntW H) i
 have hhb:=fun (i:Nat)=>hit_le hcle i
 have hbf0:befL C0 0=[]:=rfl
 have hhi0:hitS (cntW H) 0=0:=rfl
 have hha:=hit_all (cntW H)
 have hwsum:=week_sum hcl
 have hnl:nbW.length=20:=rfl
 have hACn:AC[4]? = some (ints nbW):=by rw[← hAC];rfl
 have hACl:AC.length=6:=by rw[← hAC];rfl
 have hACd:(List.drop 4 AC).headD RV.un=ints nbW:=by rw[← hAC];rfl
 generalize weekI (cntW H)=WK at *
 generalize hitS (cntW H)=HS at *
 generalize wkP (cntW H)=WP at *
 generalize cntW H=c at *
 apply zd
 refine zuv (n:=270) 20 (fun i vs=>[(1,.r (u8L C0)),(2,.r (u8Q x)),(7,.r (.rp AC)),(9,.r (ints bs)),(15,.r (.rp [i64 320,bedsR FB])),(16,.r (i64 (3*(V:Int)))),(19,.os 126 (vs 126) 1 0 20),(20,.os 320 (vs 320) 1 0 i),(21,.r (i64 (befL C0 i).sum)),(22,.r (i64 (HS i))),(23,.r (i64 (i:Int)))])
  (fun i vs=>[(126,.arr 3 1 ((WK i).map fun x=>[i64 x])),(320,.arr 3 1 ((befL C0 i).map fun x=>[i64 x]))]) (fun _=>True) 0 (zj [] ?_ ?_) (Nat.zero_le _) trivial ?_
 ·try simp only[go_sem]
  try simp [hbf0,hhi0]
 ·try simp only[go_sem]
  try simp [hbf0,hw0]
 intro i vs hi _
 by_cases hin:i<20
 ·have c1:decide ((i:Int)<20)=true:=decide_eq_true (by omega)
  have hby:=hby i (by omega)
  have b255:=hb255 i
  have bsum:=hbb i
  have hsum:=hhb i
  have hbl:=hbl i
  have hbs1:=hbs1 i
  have hbs2:(befL C0 (i+1)).sum=(befL C0 i).sum+byteA C0 i:=by rw[hbs1,suml_app];simp
  rw[hbs2,hbs1]
  generalize byteA C0 i=bi at *
  generalize hBL:befL C0 i=BL at *
  generalize hBS:BL.sum=S at *
  have wS:IntKind.i64.wrap (S+bi)=S+bi:=by rw[zI]<;>omega
  have hgk:(BL.map (fun x=>[i64 x])++[[i64 bi]]).getD i []=[i64 bi]:=by
   rw[List.getD_eq_getElem?_getD,List.getElem?_append_right (by simp;omega),List.length_map,hbl,Nat.sub_self];rfl
  have hok:(BL.map (fun x=>[i64 x])++[[i64 bi]])[i]? = some [i64 bi]:=by
   rw[List.getElem?_append_right (by simp;omega),List.length_map,hbl,Nat.sub_self];rfl
  have hlk:i<(BL.map (fun x=>[i64 x])++[[i64 bi]]).length:=by simp;omega
  obtain⟨nb,hnb⟩:=zol (l:=nbW) (i:=i) (by omega)
  have hng:nbW.getD i 0=nb:=by rw[List.getD_eq_getElem?_getD,hnb];rfl
  have hws:=hws i hin
  have hwa:=hwa i hin
  have hhs:=hhs i
  rw[hng] at hws hhs
  rw[← hws,hhs]
  have hwl:=hwl i
  have h0:=hW0 nb
  have hwb:=hwb nb
  have hwS:=hwS nb
  generalize WK i=K0 at *
  generalize HS i=h at *
  generalize WP nb=f at *
  repeat apply zq
  refine zb fun K hK=>?_;simp only[go_sem,hin,c1];apply hK;apply zw (zk [1,2,7,9,15,16,19,20,21,22,23,129]);simp only[go_sem]
  apply zc rfl<;>intro hc<;>(try simp only[go_sem] at hc)
  apply zx
  try simp only[go_sem]
  apply zq
  apply zd
  apply zq
  refine zb fun K hK=>?_;simp only[go_sem,hbl,List.length_map]
  refine zh (hby) rfl (by simp only[go_sem,i64,ints,hbl]) (by simp only[go_sem,i64,ints,hbl]) ?_
  (try simp only[go_sem,hbl])
  refine⟨by omega,?_⟩
  apply hK;apply zw (zk [1,2,7,9,15,16,19,20,21,22,23]);simp only[go_sem]
  apply zq
  refine zb fun K hK=>?_;simp only[go_sem,hgk,hok,hlk,hbl,wS]
  refine⟨by omega,?_⟩
  apply hK;apply zw (zk [1,2,7,9,15,16,19,20,21,22,23]);simp only[go_sem]
  repeat apply zq
  refine zb fun K hK=>?_;simp only[go_sem];apply hK;apply zw (zk [1,2,7,9,15,16,19,20,21,22,23,24]);simp only[go_sem]
  have hse:K0.set i (f 0)=K0:=by
   rw[h0]
   refine List.ext_getElem? fun j=>?_
   by_cases e:i=j
   ·subst e;rw[List.getElem?_set_self (by omega),hwa]
   ·rw[List.getElem?_set_ne e]
  generalize hBL2:BL.map (fun x=>[i64 x])++[[i64 bi]]=BX at *
  apply zd
  refine zuv (n:=270) 10 (fun k vs=>[(1,.r (u8L C0)),(2,.r (u8Q x)),(7,.r (.rp AC)),(9,.r (ints bs)),(15,.r (.rp [i64 320,bedsR FB])),(16,.r (i64 (3*(V:Int)))),(19,.os 126 (vs 126) 1 0 20),(20,.os 320 (vs 320) 1 0 (i+1)),(21,.r (i64 (S+bi))),(22,.r (i64 h)),(23,.r (i64 (i:Int))),(24,.r (i64 (k:Int)))])
   (fun k vs=>[(126,.arr 3 1 ((K0.set i (f k)).map fun x=>[i64 x])),(320,.arr 3 1 BX)]) (fun _=>True) 0 (zj [] ?_ ?_) (Nat.zero_le _) trivial ?_
  ·try simp only[go_sem]
   try rfl
  ·try simp only[go_sem]
   try rw[hse]
  intro k vs hk _
  by_cases hkn:k<10
  ·have hkb:k<bs.length:=by omega
   have c3:decide ((k:Int)<10)=true:=decide_eq_true (by omega)
   obtain⟨b,hb⟩:=zol hkb
   have hbg:bs.getD k 0=b:=by rw[List.getD_eq_getElem?_getD,hb];rfl
   have hbr:=(hbe k b hb).1
   have hbq:0≤b∧b≤499:=by
    rcases hbr with h|h
    ·omega
    ·exact bedOk_le h
   have hFk:=hFg k hkn
   have hfS:=hwS k
   have hfb:=hwb k
   have hfb1:=hwb (k+1)
   rw[hbg] at hfS hFk
   have tm:Int.tmod b 100=b % 100:=Int.tmod_eq_emod_of_nonneg hbq.1
   have wm:IntKind.i64.wrap (b % 100)=b % 100:=by rw[zI]<;>omega
   generalize c.getD k 0=ck at *
   have hK1:(K0.set i (f k))[i]? = some (f k):=List.getElem?_set_self (by omega)
   have hK1l:(K0.set i (f k)).length=20:=by rw[List.length_set];exact hwl
   have hKs:(K0.set i (f k)).set i (f k+ck)=K0.set i (f k+ck):=List.set_set ..
   have hFkl:k<FB.length:=by omega
   repeat apply zq
   refine zb fun K hK=>?_;simp only[go_sem,c3,hkn,hl10,List.length_map];apply hK;apply zw (zk [1,2,7,9,15,16,19,20,21,22,23,24,147]);simp only[go_sem]
   apply zc rfl<;>intro hc<;>(try simp only[go_sem] at hc)
   apply zx
   try simp only[go_sem]
   apply zq
   apply zd
   apply zq
   refine zb fun K hK=>?_;simp only[go_sem,hb,hkb,hl10,tm,wm,List.length_map]
   refine⟨by omega,?_⟩
   apply hK;apply zw (zk [1,2,7,9,15,16,19,20,21,22,23,24,25]);simp only[go_sem]
   by_cases hq:b % 100=nb
   ·have e1:(b % 100 == nb)=true:=by rw[beq_iff_eq];exact hq
    rw[if_pos hq] at hfS
    rw[hfS,← hKs]
    have wf:IntKind.i64.wrap (f k+ck)=f k+ck:=by rw[zI]<;>omega
    generalize K0.set i (f k)=K1 at *
    apply zq
    refine zb fun K hK=>?_;simp only[go_sem,hACd,hACl,hnb,hnl,hin,e1,List.length_map]
    refine⟨by omega,?_⟩
    apply hK;apply zw (zk [1,2,7,9,15,16,19,20,21,22,23,24,161]);simp only[go_sem]
    apply zc rfl<;>intro hc<;>(try simp only[go_sem] at hc)
    refine awp_dreg2 [(19,some 126),(15,none),(23,none),(24,none)] follows (by decide +kernel) (by kernel_rfl) (by simp only[keysOk,List.mem_cons,List.not_mem_nil,forall_eq_or_imp,Oc.keyOf,go_sem];simp) fun K hK=>?_
    simp only[go_sem,hK1,hK1l,hin,hFk,hFkl,hFl,wf,bedR,List.length_map]
    repeat refine⟨by omega,?_⟩
    apply hK;apply zw (zk [1,2,7,9,15,16,19,20,21,22,23,24]);simp only[go_sem];refine zb fun K hK=>?_;simp only[go_sem];(try simp (disch:=omega) only[zI]);apply hK
    try simp only[go_sem]
    refine⟨by omega,zj [] ?_ ?_⟩
    ·try simp only[go_sem]
    ·try simp only[go_sem]
     try simp [List.map_set]
   ·have e1:(b % 100 == nb)=false:=by rw[beq_eq_false_iff_ne];exact hq
    rw[if_neg hq,Int.add_zero] at hfS
    rw[hfS]
    generalize K0.set i (f k)=K1 at *
    apply zq
    refine zb fun K hK=>?_;simp only[go_sem,hACd,hACl,hnb,hnl,hin,e1,List.length_map]
    refine⟨by omega,?_⟩
    apply hK;apply zw (zk [1,2,7,9,15,16,19,20,21,22,23,24,161]);simp only[go_sem]
    apply zc rfl<;>intro hc<;>(try simp only[go_sem] at hc)
    apply zx
    try simp only[go_sem]
    refine zb fun K hK=>?_;simp only[go_sem];(try simp (disch:=omega) only[zI]);apply hK
    try simp only[go_sem]
    refine⟨by omega,zj [] ?_ ?_⟩
    ·try simp only[go_sem]
    ·try simp only[go_sem]
  have hke:k=10:=by omega
  subst hke
  have hK1:(K0.set i (f 10))[i]? = some (f 10):=List.getElem?_set_self (by omega)
  have hK1l:(K0.set i (f 10)).length=20:=by rw[List.length_set];exact hwl
  have hf10:=hwb 10
  have wh:IntKind.i64.wrap (h+f 10)=h+f 10:=by rw[zI]<;>omega
  generalize K0.set i (f 10)=K1 at *
  generalize f 10=f10 at *
  repeat apply zq
  refine zb fun K hK=>?_;simp only[go_sem,hl10,List.length_map];apply hK;apply zw (zk [1,2,7,9,15,16,19,20,21,22,23,147]);simp only[go_sem]
  apply zc rfl<;>intro hc<;>(try simp only[go_sem] at hc)
  apply zf;simp only[go_sem];refine zb fun K hK=>?_;simp only[go_sem,hK1,hK1l,hin,wh,List.length_map]
  refine⟨by omega,?_⟩
  apply hK;apply zw (zk [1,2,7,9,15,16,19,20,21,22,23]);simp only[go_sem];refine zb fun K hK=>?_;simp only[go_sem];(try simp (disch:=omega) only[zI]);apply hK
  try simp only[go_sem]
  refine⟨by omega,zj [] ?_ ?_⟩
  ·try simp only[go_sem]
  ·try simp only[go_sem]
   try (rw[← hBL2];simp)
 have hie:i=20:=by omega
 subst hie
 have hbl:=hbl 20
 have hwl:=hwl 20
 have hhb:=hhb 20
 have hbb:=hbb 20
 rw[hha]
 rw[hha] at hhb
 have hwe:=fun (k:Nat) (hk:k<20)=>wear_ok hwk k hk
 have hpb:=bestP_ok hwk
 have hwall:=fun (k:Nat) (hk:k<20)=>wear_all hwk (k:=k) hk
 have hF0:=hFg 0 (by omega)
 have hF5:=hFg 5 (by omega)
 have hg0:0≤c.getD 0 0∧c.getD 0 0≤60:=by
  obtain⟨y,hy⟩:=zol (l:=c) (i:=0) (by omega)
  rw[List.getD_eq_getElem?_getD,hy];exact hcle y (zmo hy)
 have hg5:0≤c.getD 5 0∧c.getD 5 0≤60:=by
  obtain⟨y,hy⟩:=zol (l:=c) (i:=5) (by omega)
  rw[List.getD_eq_getElem?_getD,hy];exact hcle y (zmo hy)
 generalize c.getD 0 0=g0 at *
 generalize c.getD 5 0=g5 at *
 rw[hcs] at hwsum
 have wg:IntKind.i64.wrap (g0+g5)=g0+g5:=by rw[zI]<;>omega
 generalize befL C0 20=BL at *
 generalize WK 20=KW at *
 have hF0l:0<FB.length:=by omega
 have hF5l:5<FB.length:=by omega
 repeat apply zq
 refine zb fun K hK=>?_;simp only[go_sem];apply hK;apply zw (zk [1,2,7,9,15,16,19,20,21,22,129]);simp only[go_sem]
 apply zc rfl<;>intro hc<;>(try simp only[go_sem] at hc)
 apply zf;simp only[go_sem]
 apply zq
 refine zg follows (by decide +kernel) (by kernel_rfl) fun K hK=>?_;simp only[go_sem,hF0,hF5,hF0l,hF5l,hFl,wg,bedR,List.length_map];apply hK;refine zw (sub_frz (ty:=3) (sz:=1) (off:=0) (m:=20) (es:=KW.map fun x=>[i64 x]) 19 126 (by omega) rfl (by rfl) (by simp [hwl])) ?_;refine zw (sub_frz (ty:=3) (sz:=1) (off:=0) (m:=20) (es:=BL.map fun x=>[i64 x]) 20 320 (by omega) rfl (by rfl) (by simp [hbl])) ?_
 have tkw:List.take 20 (KW.map fun x=>[i64 x])=KW.map fun x=>[i64 x]:=List.take_of_length_le (by simp [hwl])
 have tkb:List.take 20 (BL.map fun x=>[i64 x])=BL.map fun x=>[i64 x]:=List.take_of_length_le (by simp [hbl])
 simp only[go_sem,List.drop_zero,tkw,tkb];apply zw (zk [2,7,16,19,20,21,22,26]);simp only[go_sem]
 have kx:IntKind.i64.wrap (x:Int)=x:=by rw[zI]<;>omega
 have rx:Int.tmod (x:Int) 20=((x % 20:Nat):Int):=rfl
 have mx:=Nat.mod_lt x (show 20 > 0 by omega)
 have wx:IntKind.i64.wrap ((x % 20:Nat):Int)=((x % 20:Nat):Int):=by rw[zI]<;>omega
 have hwe:=hwe (x % 20) mx
 have hwall:=hwall (x % 20) mx
 rw[hAC] at hwe hpb
 generalize x % 20=kt at *
 obtain⟨a1,a2,a3,a4,a5⟩:=hwall
 generalize aftL BL KW kt=A at *
 have htk:List.take 6 AC=AC:=List.take_of_length_le (by omega)
 have hsA:=fun (i:Nat)=>take_sum a5 i
 generalize mxW BL KW (bsN BL KW 19)=mo at *
 generalize bsN BL KW 19=kb at *
 generalize hBS:BL.sum=bS at *
 generalize hKS:KW.sum=kS at *
 have wsum:IntKind.i64.wrap (kS+(g0+g5))=3*(V:Int):=by rw[hwsum];exact w3x
 have n20:((20:Int) != 20)=false:=rfl
 have n20':(((20:Nat):Int) != 20)=false:=rfl
 have dk0:decide ((kb:Int)<0)=false:=decide_eq_false (by omega)
 have dk1:decide ((19:Int)<(kb:Int))=false:=decide_eq_false (by omega)
 have dk2:¬ (19<kb):=by omega
 apply zq
 refine zb fun K hK=>?_;simp only[go_sem,hACl,htk,kx,rx,wx]
 refine zh (hwe) rfl (by simp only[go_sem,i64,ints]) (by simp only[go_sem,i64,ints]) ?_
 (try simp only[go_sem]);apply hK;apply zw (zk [7,16,18,19,20,21,22,26,27]);simp only[go_sem]
 apply zq
 refine zb fun K hK=>?_;simp only[go_sem,hACl,htk]
 refine zh (hpb) rfl (by simp only[go_sem,i64,ints]) (by simp only[go_sem,i64,ints]) ?_
 (try simp only[go_sem]);apply hK;apply zw (zk [16,18,21,22,26,27,28,29,30]);simp only[go_sem]
 repeat apply zq
 refine zb fun K hK=>?_;simp only[go_sem,z0,a1,n20,n20',dk0,dk1,dk2,wsum,n3,List.length_map];apply hK;apply zw (zk [21,22,27,29,237]);simp only[go_sem]
 apply zc rfl<;>intro hc<;>(try simp only[go_sem] at hc)
 apply zx
 try simp only[go_sem]
 apply zq
 refine zb fun K hK=>?_;simp only[go_sem];apply hK;apply zw (zk [21,22,27,29,31,32]);simp only[go_sem]
 repeat apply zq
 refine zb fun K hK=>?_;simp only[go_sem];apply hK;apply zw (zk [21,22,27,29,31,32,33]);simp only[go_sem];apply zd
 refine zuv (n:=270) 20 (fun i vs=>[(21,.r (i64 bS)),(22,.r (i64 kS)),(27,.r (ints A)),(29,.r (i64 mo)),(31,.r (i64 (A.take i).sum)),(32,.r (i64 ((A.take i).foldl max 0))),(33,.r (i64 (i:Int)))])
  (fun i vs=>[]) (fun _=>True) 0 (zj [] ?_ ?_) (Nat.zero_le _) trivial ?_
 ·try simp only[go_sem]
  try simp
 ·try simp only[go_sem]
  try rfl
 intro i vs hi _
 by_cases hin:i<20
 ·have c1:decide ((i:Int)<20)=true:=decide_eq_true (by omega)
  obtain⟨v,hv⟩:=zol (l:=A) (i:=i) (by omega)
  have hiA:i<A.length:=by omega
  have hv5:=a5 v (zmo hv)
  have hsi:=hsA i
  rw[take_sum1 hv,take_max1 hv]
  generalize (A.take i).sum=s1 at *
  generalize (A.take i).foldl max 0=m1 at *
  have wv:IntKind.i64.wrap (s1+v)=s1+v:=by rw[zI]<;>omega
  repeat apply zq
  refine zb fun K hK=>?_;simp only[go_sem,hin,c1];apply hK;apply zw (zk [21,22,27,29,31,32,33,239]);simp only[go_sem]
  apply zc rfl<;>intro hc<;>(try simp only[go_sem] at hc)
  apply zx
  try simp only[go_sem]
  apply zq
  apply zd;refine zg follows (by decide +kernel) (by kernel_rfl) fun K hK=>?_;simp only[go_sem,hv,hiA,a1,wv,List.length_map]
  repeat refine⟨by omega,?_⟩
  apply hK;apply zw (zk [21,22,27,29,31,32,33]);simp only[go_sem];refine zb fun K hK=>?_;simp only[go_sem];(try simp (disch:=omega) only[zI]);apply hK
  try simp only[go_sem]
  refine⟨by omega,zj [] ?_ ?_⟩
  ·try simp only[go_sem]
  ·try simp only[go_sem]
 have hie:i=20:=by omega
 subst hie
 rw[List.take_of_length_le (show A.length≤20 by omega),a2]
 generalize A.foldl max 0=gr at *
 have wbs:IntKind.i64.wrap (bS+kS)=bS+kS:=by rw[zI]<;>omega
 have e1:(bS+kS == bS+kS)=true:=by simp
 have e2:decide (mo≤gr)=true:=decide_eq_true a4
 repeat apply zq
 refine zb fun K hK=>?_;simp only[go_sem];apply hK;apply zw (zk [21,22,29,31,32,239]);simp only[go_sem]
 apply zc rfl<;>intro hc<;>(try simp only[go_sem] at hc)
 apply zf;simp only[go_sem]
 apply zq
 refine zb fun K hK=>?_;simp only[go_sem,wbs,e1,e2]
 refine zh (hk1) rfl (by simp only[go_sem,i64,ints,wbs,e1,e2]) (by simp only[go_sem,i64,ints,wbs,e1,e2]) ?_
 (try simp only[go_sem,wbs,e1,e2])
 refine zh (hk2) rfl (by simp only[go_sem,i64,ints,wbs,e1,e2]) (by simp only[go_sem,i64,ints,wbs,e1,e2]) ?_
 (try simp only[go_sem,wbs,e1,e2]);apply hK;apply zw (zk [6]);simp only[go_sem];apply ze;simp only[go_sem]
end Go.Proofs.YtonpmcdkncbjoaaGreat.Du.Th

/- Part 10 of the texts of this claim. -/
import Derived.Test.YtgfbenanljjgaaaGreatVF9
import Derived.Test.YtgfbenanljjgaaaGreatVF6
set_option linter.unusedSimpArgs false
set_option linter.unusedVariables false
namespace Go.Proofs.YtgfbenanljjgaaaGreat.Du
open Go Go.Oc
set_option maxRecDepth 8000
def insB (lt:Bd→Bd→Bool) (x:Bd):List Bd→List Bd
 | []=>[x]
 | y::ys=>if lt x y then y::insB lt x ys else x::y::ys
def sortB (lt:Bd→Bd→Bool):List Bd→List Bd→List Bd
 | [],R=>R
 | x::xs,R=>sortB lt xs (insB lt x R)
def sortN (lt:Bd→Bd→Bool) (l:List Bd):List Bd:=(sortB lt l []).reverse
theorem insB_len (lt:Bd→Bd→Bool) (x:Bd):∀ R,(insB lt x R).length=R.length+1
 | []=>rfl
 | y::R=>by
   unfold insB
   split
   ·simp [insB_len lt x R]
   ·rfl
theorem insB_skip (lt:Bd→Bd→Bool) (x:Bd):∀ (R:List Bd) (k:Nat),(∀ y∈R.take k,lt x y=true)→insB lt x R=R.take k++insB lt x (R.drop k)
 | R,0,_=>by simp
 | [],k+1,_=>by simp
 | y::R, k+1, h=>by
   have hy:lt x y=true:=h y (by simp)
   have ih:=insB_skip lt x R k fun z hz=>h z (by simp [hz])
   simp only[List.take_succ_cons,List.drop_succ_cons,List.cons_append];rw[← ih]
   simp [insB,hy]
theorem sortB_snoc (lt:Bd→Bd→Bool):∀ (l:List Bd) (x:Bd) (R:List Bd),sortB lt (l++[x]) R=insB lt x (sortB lt l R)
 | [],_,_=>rfl
 | y::l,x,R=>by simp only[List.cons_append,sortB];exact sortB_snoc lt l x _
theorem sortB_len (lt:Bd→Bd→Bool):∀ (l R:List Bd),(sortB lt l R).length=l.length+R.length
 | [],R=>by simp [sortB]
 | x::l,R=>by simp only[sortB];rw[sortB_len lt l,insB_len];simp;omega
theorem mem_insB (lt:Bd→Bd→Bool) (x z:Bd):∀ R,z∈insB lt x R↔z=x∨z∈R
 | []=>by simp [insB]
 | y::R=>by
   unfold insB
   split
   ·simp only[List.mem_cons,mem_insB lt x z R]
    constructor
    ·rintro (h|h|h)<;>simp [h]
    ·rintro (h|h|h)<;>simp [h]
   ·simp
theorem mem_sortB (lt:Bd→Bd→Bool) (z:Bd):∀ l R,z∈sortB lt l R↔z∈l∨z∈R
 | [],R=>by simp [sortB]
 | x::l, R=>by
   simp only[sortB];rw[mem_sortB lt z l,mem_insB]
   simp only[List.mem_cons]
   constructor
   ·rintro (h|h|h)<;>simp [h]
   ·rintro ((h|h)|h)<;>simp [h]
def holeL (R:List Bd) (x:Bd) (k:Nat) (rest:List Bd):List Bd:=(R.drop k).reverse++x::((R.take k).reverse++rest)
theorem hole_len (R:List Bd) (x:Bd) (k:Nat) (rest:List Bd) (hk:k≤R.length):(holeL R x k rest).length=R.length+1+rest.length:=by
 simp [holeL];omega
theorem hole_at (R:List Bd) (x:Bd) (k:Nat) (rest:List Bd) (hk:k≤R.length):(holeL R x k rest)[R.length-k]? = some x:=by
 unfold holeL
 rw[List.getElem?_append_right (by simp)]
 simp
theorem hole_next {R:List Bd}{x y:Bd}{k:Nat}{rest:List Bd}(hy:R[k]? = some y):(holeL R x k rest)[R.length-k-1]? = some y∧(holeL R x k rest)=(R.drop (k+1)).reverse++y::x::((R.take k).reverse++rest)∧holeL R x (k+1) rest=(R.drop (k+1)).reverse++x::y::((R.take k).reverse++rest):=by
 have hk:=(List.getElem?_eq_some_iff.1 hy).1
 have hd:=drop_of_opt hy
 have ht:=zto hy
 have e1:(holeL R x k rest)=(R.drop (k+1)).reverse++y::x::((R.take k).reverse++rest):=by
  unfold holeL;rw[hd];simp
 refine⟨?_,e1,by unfold holeL;rw[ht];simp⟩
 rw[e1,List.getElem?_append_right (by simp;omega)]
 have:R.length-k-1-(R.drop (k+1)).reverse.length=0:=by simp;omega
 rw[this];rfl
theorem hole_swap {α:Type}(g:Bd→α) {R:List Bd}{x y:Bd}{k:Nat}{rest:List Bd}(hy:R[k]? = some y) :
 (((holeL R x k rest).map g).set (R.length-k) (g y)).set (R.length-k-1) (g x)=(holeL R x (k+1) rest).map g:=by
 obtain⟨_,e1,e2⟩:=hole_next (x:=x) (rest:=rest) hy
 have hk:=(List.getElem?_eq_some_iff.1 hy).1
 rw[e1,e2,← List.map_set,← List.map_set]
 congr 1
 have hl:(R.drop (k+1)).reverse.length=R.length-k-1:=by simp;omega
 generalize (R.drop (k+1)).reverse=A at hl
 generalize (R.take k).reverse++rest=B
 have e3:R.length-k=A.length+1:=by omega
 rw[e3,Nat.add_sub_cancel]
 rw[List.set_append_right _ _ (by omega)]
 simp only[Nat.add_sub_cancel_left,List.set_cons_succ,List.set_cons_zero];rw[List.set_append_right _ _ (by omega)]
 simp
theorem lent_put {vs:Nat→Nat}{k:Nat}(h:Lent vs):Lent (upd vs k 0):=fun j hj=>by
 unfold upd;split
 ·rfl
 ·exact h j hj
abbrev idx (l:List Bd):List (List RV):=l.map bedR
theorem insertion_ok (lt:Bd→Bd→Bool) (c:Bd→Bd→Int) (f:Nat) (caps:List RV) (l:List Bd) (hl:l.length≤1000) (hlt:∀ x y,lt x y=decide (c x y<0))
 (hcc:∀ x∈l,∀ y∈l,ACalls Tryz.prog f (bedV x::bedV y::caps) (i64 (c x y))) :
 MCalls Tryz.prog 223 [(1000,.arr 264 3 (idx l))] [(1000,.arr 264 3 (idx (sortN lt l)))] [.os 1000 0 3 0 l.length,.r (i64 0),.r (i64 l.length),.r (.fn f caps)] (.tu []):=by
 refine mcalls_st (n:=53) (rs:=[]) _ _ [] Tryz.func223 rfl (by kernel_rfl) Tryz.ntmps223 rfl (by simp) rfl rfl fun C=>?_
 have hmem:∀ i z,z∈sortB lt (l.take i) []→z∈l:=fun i z hz=>by
  rw[mem_sortB] at hz
  rcases hz with hz|hz
  ·exact List.mem_of_mem_take hz
  ·cases hz
 apply zq
 refine zb fun K hK=>?_;simp only[go_sem];(try simp (disch:=omega) only[zI]);apply hK;clear hK K;apply zw (zk [0,1,2,3,8]);simp only[go_sem];apply zd
 refine awp_upto0 (n:=53) (max l.length 1) (fun i vs=>[(0,.os 1000 0 3 0 l.length),(1,.r (i64 0)),(2,.r (i64 l.length)),(3,.r (.fn f caps)),(8,.r (i64 i))])
  (fun i=>[(1000,.arr 264 3 (idx ((sortB lt (l.take i) []).reverse++l.drop i)))]) (fun i=>1≤i) 1 (fit0_of [] lent_zero ?_ ?_) (by omega) (Nat.le_refl _) ?_
 ·try simp only[go_sem]
 ·simp only[go_sem]
  cases l with
  | nil=>rfl
  | cons x l=>simp [sortB,insB]
 ·intro i vs hv hi hi1
  have hv0:=hv 1000 (by omega)
  repeat apply zq
  refine zb fun K hK=>?_;simp only[go_sem];apply hK;clear hK K;apply zw (zk [0,1,2,3,8,14]);simp only[go_sem]
  apply zc rfl<;>intro hc<;>(try simp only[go_sem] at hc)
  ·have hci:i<l.length:=by omega
   obtain⟨x,hx⟩:=zol hci
   obtain⟨R,hR⟩:∃ R,R=sortB lt (l.take i) []:=⟨_,rfl⟩
   have hRl:R.length=i:=by rw[hR,sortB_len];simp;omega
   have hRm:∀ z∈R,z∈l:=fun z hz=>hmem i z (hR▸hz)
   have hnx:sortB lt (l.take (i+1)) []=insB lt x R:=by rw[zto hx,sortB_snoc,hR]
   have hst:(sortB lt (l.take i) []).reverse++l.drop i=holeL R x 0 (l.drop (i+1)):=by rw[← hR,drop_of_opt hx];simp [holeL]
   rw[hst]
   apply zx
   apply zq
   apply zd
   apply zq
   refine zb fun K hK=>?_;simp only[go_sem];apply hK;clear hK K;apply zw (zk [0,1,2,3,8,9]);simp only[go_sem];apply zd
   refine awp_upto0 (n:=53) i (fun k vs=>[(0,.os 1000 0 3 0 l.length),(1,.r (i64 0)),(2,.r (i64 l.length)),(3,.r (.fn f caps)),(8,.r (i64 i)),(9,.r (i64 (i-k:Nat)))])
    (fun k=>[(1000,.arr 264 3 (idx (holeL R x k (l.drop (i+1)))))]) (fun k=>∀ y∈R.take k,lt x y=true) 0 (fit0_of [] hv ?_ ?_) (Nat.zero_le _) (by simp) ?_
   ·try simp only[go_sem]
   ·try simp only[go_sem]
   ·intro k vs hv hk hI
    have hv0:=hv 1000 (by omega)
    have hins:=insB_skip lt x R k hI
    have done:insB lt x (R.drop k)=x::R.drop k→sortB lt (l.take (i+1)) []=R.take k++x::R.drop k:=fun h=>by rw[hnx,hins,h]
    by_cases hk0:k=i
    ·have e0:i-k=0:=by omega
     repeat apply zq
     refine awp_dreg2 [(0,some 1000)] follows (by decide +kernel) (by kernel_rfl) (by simp only[keysOk,List.mem_cons,List.not_mem_nil,forall_eq_or_imp,Oc.keyOf,go_sem];simp) fun K hK=>?_
     simp only[go_sem,hv0,e0];apply hK;clear hK K;apply zw (zk [0,1,2,3,8,9,34]);simp only[go_sem]
     apply zc rfl<;>intro hc<;>(try simp only[go_sem] at hc)
     apply zf;simp only[go_sem];refine zb fun K hK=>?_;simp only[go_sem];(try simp (disch:=omega) only[zI]);apply hK;clear hK K
     try simp only[go_sem]
     refine⟨by omega,fit0_of [] hv ?_ ?_⟩
     ·try simp only[go_sem]
     ·have hd0:R.drop k=[]:=List.drop_eq_nil_of_le (by omega)
      have:=done (by rw[hd0];rfl)
      simp only[go_sem,this]
      simp [holeL]
    ·obtain⟨y,hy⟩:=zol (l:=R) (i:=k) (by omega)
     obtain⟨j,hj⟩:∃ j,i-k=j+1:=⟨i-k-1,by omega⟩
     have hjs:IntKind.i64.wrap ((j:Int)+1-1)=j:=by rw[zI]<;>omega
     have hlen:(holeL R x k (l.drop (i+1))).length=l.length:=by rw[hole_len _ _ _ _ (by omega),List.length_drop];omega
     have hxa:(holeL R x k (l.drop (i+1)))[j+1]? = some x:=by rw[← hj,← hRl];exact hole_at R x k _ (by omega)
     have hya:(holeL R x k (l.drop (i+1)))[j]? = some y:=by
      have:=(hole_next (x:=x) (rest:=l.drop (i+1)) hy).1
      rw[hRl,hj] at this
      exact this
     have hcall:=hcc x (zmo hx) y (hRm y (zmo hy))
     have hpos:(0<(j:Int)+1)=True:=by simp
     have hlxy:=hlt x y
     repeat apply zq
     refine awp_dreg2 [(0,some 1000)] follows (by decide +kernel) (by kernel_rfl) (by simp only[keysOk,List.mem_cons,List.not_mem_nil,forall_eq_or_imp,Oc.keyOf,go_sem];simp) fun K hK=>?_
     simp only[go_sem,hv0,hj,hjs,hxa,hya,hlen,hpos,bedR]
     refine⟨by omega,by omega,?_⟩
     refine zh (hcall) rfl (by simp only[go_sem,i64,ints,hv0]) (by simp only[go_sem,i64,ints,hv0]) ?_
     (try simp only[go_sem,hv0]);apply hK;clear hK K;apply zw (zk [0,1,2,3,8,9,34]);simp only[go_sem]
     cases hcx:decide (c x y<0)
     ·skip
      apply zc rfl<;>intro hc<;>(try simp only[go_sem] at hc)
      apply zf;simp only[go_sem];refine zb fun K hK=>?_;simp only[go_sem];(try simp (disch:=omega) only[zI]);apply hK;clear hK K
      try simp only[go_sem]
      refine⟨by omega,fit0_of [] hv ?_ ?_⟩
      ·try simp only[go_sem]
      ·have:=done (by rw[drop_of_opt hy];simp [insB,hlxy,hcx])
       simp only[go_sem,this]
       simp [holeL]
     ·skip
      apply zc rfl<;>intro hc<;>(try simp only[go_sem] at hc)
      apply zx
      try simp only[go_sem]
      apply zq
      apply zd
      have hset:((idx (holeL R x k (l.drop (i+1)))).set (j+1) [i64 y.b,i64 y.lo,i64 y.hi]).getD j []=[i64 y.b,i64 y.lo,i64 y.hi]:=by
       rw[List.getD_eq_getElem?_getD,List.getElem?_set_ne (by omega),List.getElem?_map,hya];rfl
      have hsw:=hole_swap bedR (x:=x) (rest:=l.drop (i+1)) hy
      rw[hRl,hj] at hsw
      simp only[Nat.add_sub_cancel] at hsw
      refine awp_dreg2 [(0,some 1000)] follows (by decide +kernel) (by kernel_rfl) (by simp only[keysOk,List.mem_cons,List.not_mem_nil,forall_eq_or_imp,Oc.keyOf,go_sem];simp) fun K hK=>?_
      simp only[go_sem,hv0,hj,hjs,hxa,hya,hlen,hset,List.length_set,bedR]
      repeat' first|intro _|refine And.intro ?_ ?_
      all_goals first|omega|skip
      all_goals (refine hK _ ?_;clear hK K)
      apply zw (zk [0,1,2,3,8,9]);simp only[go_sem];refine zb fun K hK=>?_;simp only[go_sem,hjs];apply hK;clear hK K
      try simp only[go_sem]
      have hj2:i-(k+1)=j:=by omega
      refine⟨by omega,?_,fit0_of [] (lent_put (lent_put hv)) ?_ ?_⟩
      ·rw[zto hy]
       intro z hz
       rcases List.mem_append.1 hz with hz|hz
       ·exact hI z hz
       ·simp only[List.mem_singleton] at hz
        subst hz
        rw[hlxy,hcx]
      ·simp only[go_sem,hj2]
      ·simp only[go_sem];exact congrArg (fun z=>[(1000,RowC.arr 264 3 z)]) hsw
  ·apply zf;simp only[go_sem]
   have h1:l.take i=l:=List.take_of_length_le (by omega)
   have h2:l.drop i=[]:=List.drop_eq_nil_of_le (by omega)
   rw[h1,h2,List.append_nil]
   rfl
theorem stable_ok (lt:Bd→Bd→Bool) (c:Bd→Bd→Int) (f:Nat) (caps:List RV) (l:List Bd) (hl:l.length≤19) (hlt:∀ x y,lt x y=decide (c x y<0))
 (hcc:∀ x∈l,∀ y∈l,ACalls Tryz.prog f (bedV x::bedV y::caps) (i64 (c x y))) :
 MCalls Tryz.prog 220 [(1000,.arr 264 3 (idx l))] [(1000,.arr 264 3 (idx (sortN lt l)))] [.os 1000 0 3 0 l.length,.r (i64 l.length),.r (.fn f caps)] (.tu []):=by
 refine mcalls_st (n:=63) (rs:=[]) _ _ [] Tryz.func220 rfl (by kernel_rfl) Tryz.ntmps220 rfl (by simp) rfl rfl fun C=>?_
 apply zq
 refine zb fun K hK=>?_;simp only[go_sem];apply hK;clear hK K
 apply zq
 refine zb fun K hK=>?_;simp only[go_sem];apply hK;clear hK K;apply zw (zk [0,1,2,6,7,8]);simp only[go_sem]
 apply zq
 apply zd
 refine awp_upto0 (n:=63) 0 (fun i vs=>[(0,.os 1000 0 3 0 l.length),(1,.r (i64 l.length)),(2,.r (.fn f caps)),(6,.r (i64 20)),(7,.r (i64 0)),(8,.r (i64 20))])
  (fun i=>[(1000,.arr 264 3 (idx l))]) (fun i=>True) 0 (fit0_of [] lent_zero ?_ ?_) (Nat.zero_le _) trivial ?_
 ·try simp only[go_sem]
 ·try simp only[go_sem]
 intro i vs hv _ _
 have hv0:=hv 1000 (by omega)
 repeat apply zq
 refine zb fun K hK=>?_;simp only[go_sem];apply hK;clear hK K
 apply zc rfl<;>intro hc<;>(try simp only[go_sem] at hc)
 ·omega
 apply zf;simp only[go_sem]
 apply zq
 refine zb fun K hK=>?_;simp only[go_sem]
 refine xcall_mut (insertion_ok lt c f caps l (by omega) hlt hcc) [(1000,1000)] rfl (by simp only[go_sem,i64,ints,hv0]) (by simp only[go_sem,i64,ints,hv0]) (by rfl) (by rfl) ?_
 (try simp only[go_sem,hv0]);apply hK;clear hK K
 try simp only[go_sem]
 apply zd
 refine awp_upto0 (n:=63) 0 (fun i vs=>[(1,.r (i64 l.length)),(6,.r (i64 20))])
  (fun i=>[(1000,.arr 264 3 (idx (sortN lt l)))]) (fun i=>True) 0 (fit0_of [] hv ?_ ?_) (Nat.zero_le _) trivial ?_
 ·try simp only[go_sem]
 ·try simp only[go_sem]
 intro i vs hv _ _
 repeat apply zq
 refine zb fun K hK=>?_;simp only[go_sem];apply hK;clear hK K
 apply zc rfl<;>intro hc<;>(try simp only[go_sem] at hc)
 ·omega
 apply zf;simp only[go_sem]
theorem sortStable_ok (lt:Bd→Bd→Bool) (c:Bd→Bd→Int) (f:Nat) (caps:List RV) (l:List Bd) (hl:l.length≤19) (hlt:∀ x y,lt x y=decide (c x y<0))
 (hcc:∀ x∈l,∀ y∈l,ACalls Tryz.prog f (bedV x::bedV y::caps) (i64 (c x y))) :
 MCalls Tryz.prog 212 [(1000,.arr 264 3 (idx l))] [(1000,.arr 264 3 (idx (sortN lt l)))] [.os 1000 0 3 0 l.length,.r (.fn f caps)] (.tu []):=by
 refine mcalls_st (n:=9) (rs:=[]) _ _ [] Tryz.func212 rfl (by kernel_rfl) Tryz.ntmps212 rfl (by simp) rfl rfl fun C=>?_
 refine zb fun K hK=>?_;simp only[go_sem]
 intro _
 refine xcall_mut (stable_ok lt c f caps l (by omega) hlt hcc) [(1000,1000)] rfl (by simp only[go_sem,i64,ints]) (by simp only[go_sem,i64,ints]) (by rfl) (by rfl) ?_
 (try simp only[go_sem]);apply hK;clear hK K
 try simp only[go_sem]
theorem relV_unmap {w:World}{p:Plan}{ver:Nat→Nat}:∀ {xs:List RV}{vs:List Value},AV.relV w p ver (xs.map .r) vs→RV.relV w p.R xs vs
 | [],_,h=>by simpa only[List.map_nil,AV.relV,RV.relV] using h
 | x::xs, vs, h=>by
   simp only[List.map_cons,AV.relV,AV.rel] at h
   simp only[RV.relV]
   obtain⟨u,us,h1,h2,h3⟩:=h
   exact⟨u,us,h1,h2,relV_unmap h3⟩
theorem mcalls_fn {F:Nat}{L L':List (Nat × RowC)}{x r:AV}{f:Nat}{caps:List RV}(h:MCalls Tryz.prog F L L' [x,.r (.fn f caps)] r):MCalls Tryz.prog F L L' [x,.fn f (caps.map .r)] r :=
 ⟨h.1,fun w p vs h1 h2 h3 h4 h5 h6 hV=>h.2 w p vs h1 h2 h3 h4 h5 h6 (by
  simp only[AV.relV] at hV ⊢
  obtain⟨u,us,e1,k1,u',us',e2,k2,e3⟩:=hV
  refine⟨u,us,e1,k1,u',us',e2,?_,e3⟩
  simp only[AV.rel,RV.rel] at k2 ⊢
  obtain⟨ws,k3,k4⟩:=k2
  exact⟨ws,k3,relV_unmap k4⟩)⟩
abbrev tabR (T:List (List Int)):RV:=.sl 1 (T.map fun row=>[ints row])
def opensD (out b:Int):Bool:=if out=1 then decide (b / 100=2) else if out=2 then decide (2≤b / 100) else true
set_option maxRecDepth 8000
abbrev sideC (r:Ru) (most:Bool) (T:List (List Int)):List RV:=[i64 r.d,aimsR r.aims,i64 r.start,i64 r.out,spansR r.ends,.bo most,tabR T]
abbrev sideP (r:Ru) (most:Bool) (T:List (List Int)):RV:=.rp (sideC r most T)
def overD (most:Bool) (n by_:Int):Int:=if most then (n+(by_-1)) / by_ else n / by_
theorem overD_le {most:Bool}{n by_ m:Int}(h0:0≤n) (hb:1≤by_) (hm:n≤m*by_):0≤overD most n by_∧overD most n by_≤m:=by
 unfold overD
 split
 ·refine⟨Int.ediv_nonneg (by omega) (by omega),?_⟩
  have:(n+(by_-1)) / by_<m+1:=Int.ediv_lt_of_lt_mul (by omega) (by rw[Int.add_mul];omega)
  omega
 ·refine⟨Int.ediv_nonneg h0 (by omega),?_⟩
  have:n / by_<m+1:=Int.ediv_lt_of_lt_mul (by omega) (by rw[Int.add_mul];omega)
  omega
theorem over_ok (r:Ru) (most:Bool) (T:List (List Int)) (n by_:Int) (h0:0≤n) (h1:n≤1000000000000000) (b0:1≤by_) (b1:by_≤1000000):ACalls Tryz.prog 130 [sideP r most T,i64 n,i64 by_] (i64 (overD most n by_)):=by
 have hd:∀ m:Int,0≤m→m≤2000000000000000→IntKind.i64.wrap (m.tdiv by_)=m / by_:=fun m hm0 hm1=>by
  rw[Int.tdiv_eq_ediv_of_nonneg hm0]
  have:=Int.ediv_nonneg hm0 (b:=by_) (by omega)
  have h2:m / by_≤m:=Int.ediv_le_self _ hm0
  rw[zI]<;>omega
 have q1:=hd n h0 (by omega)
 have q2:=hd (n+(by_-1)) (by omega) (by omega)
 refine zas (rs:=[i64 (overD most n by_)]) [.tmp 6] Tryz.func130 rfl (by kernel_rfl) Tryz.ntmps130 rfl (by simp) rfl fun C vs=>?_
 apply zq
 refine zb fun K hK=>?_;simp only[go_sem];apply hK;apply zw (zk [0,1,2]);simp only[go_sem]
 repeat apply zq
 refine zb fun K hK=>?_;simp only[go_sem];apply hK;apply zw (zk [0,1,2,10]);simp only[go_sem]
 cases most
 ·skip
  apply zc rfl<;>intro hc<;>(try simp only[go_sem] at hc)
  apply zx
  try simp only[go_sem]
  apply zq
  refine zb fun K hK=>?_;simp only[go_sem,q1]
  refine⟨by omega,?_⟩
  apply hK;apply zw (zk [6]);simp only[go_sem];apply ze;simp only[go_sem]
  simp [overD,q1]
 ·skip
  apply zc rfl<;>intro hc<;>(try simp only[go_sem] at hc)
  refine zb fun K hK=>?_;simp only[go_sem];(try simp (disch:=omega) only[zI]);apply hK
  try simp only[go_sem]
  apply zq
  refine zb fun K hK=>?_;simp only[go_sem,q2]
  refine⟨by omega,?_⟩
  apply hK;apply zw (zk [6]);simp only[go_sem];apply ze;simp only[go_sem]
  simp [overD,q2]
theorem last_ok (r:Ru) (h:r.ends.length≤1000):ACalls Tryz.prog 127 [ruV r] (i64 ((r.ends.length:Int)-1)):=by
 refine zas (rs:=[i64 ((r.ends.length:Int)-1)]) [.tmp 2] Tryz.func127 rfl (by kernel_rfl) Tryz.ntmps127 rfl (by simp) rfl fun C vs=>?_
 apply zq
 refine zb fun K hK=>?_;simp only[go_sem];apply hK;refine zw (zfP 1 1 (ruC r) (by omega) rfl rfl) ?_;apply zw (zk [1]);simp only[go_sem]
 apply zq
 refine zb fun K hK=>?_;simp only[go_sem];(try simp (disch:=omega) only[zI])
 intros
 apply hK;apply zw (zk [2]);simp only[go_sem];apply ze;simp only[go_sem]
theorem cmp_ok (r:Ru) (most:Bool) (T:List (List Int)) (x y:Bd) (hx:0≤x.b∧x.b≤1000000) (hy:0≤y.b∧y.b≤1000000):ACalls Tryz.prog 213 [bedV x,bedV y,.rp [sideP r most T]] (i64 (if most then y.b-x.b else x.b-y.b)):=by
 refine zas (rs:=[i64 (if most then y.b-x.b else x.b-y.b)]) [.tmp 5] Tryz.func213 rfl (by kernel_rfl) Tryz.ntmps213 rfl (by simp) rfl fun C vs=>?_
 apply zq
 refine zb fun K hK=>?_;simp only[go_sem];apply hK;apply zw (zk [2,3,4]);simp only[go_sem]
 repeat apply zq
 refine zb fun K hK=>?_;simp only[go_sem];apply hK;apply zw (zk [3,4,9]);simp only[go_sem]
 cases most
 ·skip
  apply zc rfl<;>intro hc<;>(try simp only[go_sem] at hc)
  apply zx
  try simp only[go_sem]
  apply zq
  refine zb fun K hK=>?_;simp only[go_sem];(try simp (disch:=omega) only[zI]);apply hK;apply zw (zk [5]);simp only[go_sem];apply ze;simp only[go_sem]
 ·skip
  apply zc rfl<;>intro hc<;>(try simp only[go_sem] at hc)
  refine zb fun K hK=>?_;simp only[go_sem];apply hK
  try simp only[go_sem]
  apply zq
  refine zb fun K hK=>?_;simp only[go_sem];(try simp (disch:=omega) only[zI]);apply hK;apply zw (zk [5]);simp only[go_sem];apply ze;simp only[go_sem]
def endsD (most:Bool) (e:Int × Int):Int:=if most then e.1 else e.2
def afterD (r:Ru) (most:Bool) (T:List (List Int)) (k left:Nat):Int :=
 if k+1=r.ends.length then 0 else overD most (((T.getD (k+1) []).getD left 0)*(1000000-endsD most (r.ends.getD k (0,0)))) 1000000
theorem endOk_le {x:Int × Int}(h:endOk x=true):0≤x.1∧x.1≤x.2∧x.2≤1000000:=by
 simp only[endOk,withinL,List.all_cons,List.all_nil,Bool.and_true,Bool.and_eq_true,decide_eq_true_eq] at h
 omega
theorem after_ok (r:Ru) (most:Bool) (T:List (List Int)) (k left:Nat) (row:List Int) (v:Int) (hk:k<r.ends.length) (h10:r.ends.length≤10) (he:∀ x∈r.ends,endOk x=true)
 (hT:k+1<r.ends.length→T[k+1]? = some row∧row[left]? = some v∧0≤v∧v≤1000000):ACalls Tryz.prog 91 [sideP r most T,i64 k,i64 left] (i64 (afterD r most T k left)):=by
 obtain⟨e,hek⟩:=zol hk
 obtain⟨g1,g2,g3⟩:=endOk_le (he e (zmo hek))
 have hl:=last_ok r (by omega)
 refine zas (rs:=[i64 (afterD r most T k left)]) [.tmp 6] Tryz.func91 rfl (by kernel_rfl) Tryz.ntmps91 rfl (by simp) rfl fun C vs=>?_
 apply zq
 refine zb fun K hK=>?_;simp only[go_sem];apply hK;apply zw (zk [0,1,2]);simp only[go_sem]
 by_cases hlast:k+1=r.ends.length
 ·have c:((k:Int) == (r.ends.length:Int)-1)=true:=by simp;omega
  repeat apply zq
  refine zb fun K hK=>?_;simp only[go_sem,c]
  refine zh (hl) rfl (by simp only[go_sem,i64,ints,c]) (by simp only[go_sem,i64,ints,c]) ?_
  (try simp only[go_sem,c]);apply hK;apply zw (zk [0,1,2,14]);simp only[go_sem]
  apply zc rfl<;>intro hc<;>(try simp only[go_sem] at hc)
  apply zq
  refine zb fun K hK=>?_;simp only[go_sem];apply hK;apply zw (zk [6]);simp only[go_sem];apply ze;simp only[go_sem]
  simp [afterD,hlast]
 have c:((k:Int) == (r.ends.length:Int)-1)=false:=by simp;omega
 obtain⟨t1,t2,t3,t4⟩:=hT (by omega)
 have hk1:k+1<T.length:=(List.getElem?_eq_some_iff.1 t1).1
 have hlf:left<row.length:=(List.getElem?_eq_some_iff.1 t2).1
 have hA:afterD r most T k left=overD most (v*(1000000-endsD most e)) 1000000:=by
  simp [afterD,hlast,List.getD_eq_getElem?_getD,t1,t2,hek]
 rw[hA]
 have hm0:∀ q:Int,0≤q→q≤1000000→0≤v*(1000000-q)∧v*(1000000-q)≤1000000*1000000:=fun q h1 h2 =>
  ⟨Int.mul_nonneg t3 (by omega),Int.mul_le_mul t4 (by omega) (by omega) (by omega)⟩
 have htn:((k:Int)+1).toNat=k+1:=by omega
 have hkw:IntKind.i64.wrap ((k:Int)+1)=((k+1:Nat):Int):=by rw[zI]<;>omega
 repeat apply zq
 refine zb fun K hK=>?_;simp only[go_sem,c]
 refine zh (hl) rfl (by simp only[go_sem,i64,ints,c]) (by simp only[go_sem,i64,ints,c]) ?_
 (try simp only[go_sem,c]);apply hK;apply zw (zk [0,1,2,14]);simp only[go_sem]
 apply zc rfl<;>intro hc<;>(try simp only[go_sem] at hc)
 apply zx
 try simp only[go_sem]
 apply zq
 refine zb fun K hK=>?_;simp only[go_sem,hek,hk,spanR];apply hK;apply zw (zk [0,1,2,7]);simp only[go_sem]
 repeat apply zq
 refine zb fun K hK=>?_;simp only[go_sem];apply hK;apply zw (zk [0,1,2,7,28]);simp only[go_sem]
 cases most
 ·obtain⟨m1,m2⟩:=hm0 e.2 (by omega) (by omega)
  have hov:=over_ok r false T (v*(1000000-e.2)) 1000000 m1 (by omega) (by omega) (by omega)
  have hmw:IntKind.i64.wrap (v*(1000000-e.2))=v*(1000000-e.2):=by rw[zI]<;>omega
  apply zc rfl<;>intro hc<;>(try simp only[go_sem] at hc)
  apply zx
  try simp only[go_sem]
  apply zq
  refine zb fun K hK=>?_;simp only[go_sem,hkw,t1,t2,hk1,hlf,htn,hmw];(try simp (disch:=omega) only[zI])
  refine⟨by omega,?_⟩
  refine zh (hov) rfl (by simp only[go_sem,i64,ints,hmw]) (by simp only[go_sem,i64,ints,hmw]) ?_
  (try simp only[go_sem,hmw]);apply hK;apply zw (zk [6]);simp only[go_sem];apply ze;simp only[go_sem]
  simp [endsD]
 ·obtain⟨m1,m2⟩:=hm0 e.1 (by omega) (by omega)
  have hov:=over_ok r true T (v*(1000000-e.1)) 1000000 m1 (by omega) (by omega) (by omega)
  have hmw:IntKind.i64.wrap (v*(1000000-e.1))=v*(1000000-e.1):=by rw[zI]<;>omega
  apply zc rfl<;>intro hc<;>(try simp only[go_sem] at hc)
  refine zb fun K hK=>?_;simp only[go_sem,hek,hk,spanR];apply hK
  try simp only[go_sem]
  apply zq
  refine zb fun K hK=>?_;simp only[go_sem,hkw,t1,t2,hk1,hlf,htn,hmw];(try simp (disch:=omega) only[zI])
  refine⟨by omega,?_⟩
  refine zh (hov) rfl (by simp only[go_sem,i64,ints,hmw]) (by simp only[go_sem,i64,ints,hmw]) ?_
  (try simp only[go_sem,hmw]);apply hK;apply zw (zk [6]);simp only[go_sem];apply ze;simp only[go_sem]
  simp [endsD]
theorem div100 {b:Int}(h0:0≤b) (h1:b≤499):IntKind.i64.wrap (b.tdiv 100)=b / 100∧0≤b / 100∧b / 100≤4:=by
 rw[Int.tdiv_eq_ediv_of_nonneg h0]
 refine⟨?_,by omega,by omega⟩
 rw[zI]<;>omega
theorem opens_ok (r:Ru) (b:Int) (h0:0≤b) (h1:b≤499):ACalls Tryz.prog 211 [ruV r,i64 b] (.bo (opensD r.out b)):=by
 obtain⟨hd,_,_⟩:=div100 h0 h1
 refine zas (rs:=[.bo (opensD r.out b)]) [.tmp 4] Tryz.func211 rfl (by kernel_rfl) Tryz.ntmps211 rfl (by simp) rfl fun C vs=>?_
 apply zq
 refine zb fun K hK=>?_;simp only[go_sem];apply hK;refine zw (zfP 2 2 (ruC r) (by omega) rfl rfl) ?_;apply zw (zk [1,2]);simp only[go_sem]
 apply zq
 refine zb fun K hK=>?_;simp only[go_sem,hd];apply hK;apply zw (zk [2,5]);simp only[go_sem]
 repeat apply zq
 refine zb fun K hK=>?_;simp only[go_sem];apply hK;apply zw (zk [5,10]);simp only[go_sem];apply zd
 by_cases c1:r.out=1
 ·have e1:(r.out == 1)=true:=by simpa using c1
  apply zq
  refine zb fun K hK=>?_;simp only[go_sem,e1];apply hK;apply zw (zk [5,10,11]);simp only[go_sem]
  apply zc rfl<;>intro hc<;>(try simp only[go_sem] at hc)
  apply zq
  refine zb fun K hK=>?_;simp only[go_sem];apply hK;apply zw (zk [4]);simp only[go_sem];apply ze;simp only[go_sem];simp only[opensD,c1,if_true]
  rfl
 have e1:(r.out == 1)=false:=by simpa using c1
 apply zq
 refine zb fun K hK=>?_;simp only[go_sem,e1];apply hK;apply zw (zk [5,10,11]);simp only[go_sem]
 apply zc rfl<;>intro hc<;>(try simp only[go_sem] at hc)
 by_cases c2:r.out=2
 ·have e2:(r.out == 2)=true:=by simpa using c2
  apply zq
  refine zb fun K hK=>?_;simp only[go_sem,e2];apply hK;apply zw (zk [5,15]);simp only[go_sem]
  apply zc rfl<;>intro hc<;>(try simp only[go_sem] at hc)
  apply zq
  refine zb fun K hK=>?_;simp only[go_sem];apply hK;apply zw (zk [4]);simp only[go_sem];apply ze;simp only[go_sem]
  simp [opensD,c2]
 have e2:(r.out == 2)=false:=by simpa using c2
 apply zq
 refine zb fun K hK=>?_;simp only[go_sem,e2];apply hK;apply zw (zk [5,15]);simp only[go_sem]
 apply zc rfl<;>intro hc<;>(try simp only[go_sem] at hc)
 apply zx
 try simp only[go_sem]
 apply zq
 refine zb fun K hK=>?_;simp only[go_sem];apply hK;apply zw (zk [4]);simp only[go_sem];apply ze;simp only[go_sem]
 simp [opensD,c1,c2]
def ltD (most:Bool) (x y:Bd):Bool:=decide ((if most then y.b-x.b else x.b-y.b)<0)
def loV (l:List Bd):Int:=(l.map fun c=>c.lo*c.b).sum
theorem loV_snoc (l:List Bd) (x:Bd):loV (l++[x])=loV l+x.lo*x.b:=by simp [loV]
def fillG:List Bd→Int × Int→Int × Int
 | [],x=>x
 | c::cs,x=>fillG cs (x.1-min x.1 (c.hi-c.lo),x.2+min x.1 (c.hi-c.lo)*c.b)
theorem fillG_snoc:∀ (l:List Bd) (c:Bd) (x:Int × Int),fillG (l++[c]) x=((fillG l x).1-min (fillG l x).1 (c.hi-c.lo),(fillG l x).2+min (fillG l x).1 (c.hi-c.lo)*c.b)
 | [],_,_=>rfl
 | d::l,c,x=>by simp only[List.cons_append,fillG];exact fillG_snoc l c _
def meanD (most:Bool) (den:Int) (l:List Bd):Int:=overD most (fillG (sortN (ltD most) l) (den-loS (sortN (ltD most) l),loV (sortN (ltD most) l))).2 den
structure ChG (den:Int) (l:List Bd):Prop where
 len:l.length≤19
 den0:1≤den
 den1:den≤3000
 low:loS l≤den
 each:∀ c∈l,(0≤c.b∧c.b≤1000000)∧0≤c.lo∧c.lo≤c.hi∧c.hi≤3000
theorem loV_le {l:List Bd}(h:∀ c∈l,(0≤c.b∧c.b≤1000000)∧0≤c.lo∧c.lo≤c.hi∧c.hi≤3000):0≤loV l∧loV l≤3000000000*l.length:=by
 induction l with
 | nil=>simp [loV]
 | cons c l ih =>
   obtain⟨h1,h2⟩:=ih fun x hx=>h x (by simp [hx])
   obtain⟨⟨b0,b1⟩,g0,g1,g2⟩:=h c (by simp)
   have m0:=Int.mul_nonneg g0 b0
   have m1:c.lo*c.b≤3000*1000000:=Int.mul_le_mul (by omega) b1 b0 (by omega)
   simp only[loV,List.map_cons,List.sum_cons,List.length_cons] at h1 h2 ⊢
   omega
theorem insB_perm (lt:Bd→Bd→Bool) (x:Bd):∀ R,(insB lt x R).Perm (x::R)
 | []=>List.Perm.refl _
 | y::R=>by
   unfold insB
   split
   ·exact ((insB_perm lt x R).cons y).trans (List.Perm.swap _ _ _)
   ·exact List.Perm.refl _
theorem sortB_perm (lt:Bd→Bd→Bool):∀ l R,(sortB lt l R).Perm (l++R)
 | [],R=>List.Perm.refl _
 | x::l, R=>by
   rw[sortB]
   refine (sortB_perm lt l _).trans ?_
   exact ((insB_perm lt x R).append_left l).trans List.perm_middle
theorem sortN_perm (lt:Bd→Bd→Bool) (l:List Bd):(sortN lt l).Perm l:=by
 unfold sortN
 have:=sortB_perm lt l []
 rw[List.append_nil] at this
 exact (List.reverse_perm _).trans this
theorem perm_sum {α:Type}{f:α→Int}{l m:List α}(h:l.Perm m):(l.map f).sum=(m.map f).sum:=by
 induction h with
 | nil=>rfl
 | cons x _ ih=>simp only[List.map_cons,List.sum_cons,ih]
 | swap x y l=>simp only[List.map_cons,List.sum_cons];omega
 | trans _ _ h1 h2=>exact h1.trans h2
def GOk (x:Int × Int):Prop:=(0≤x.1∧x.1≤3000)∧0≤x.2∧x.2≤57000000000+1000000*(3000-x.1)
theorem gOk_step {c:Bd}{x:Int × Int}(h:GOk x) (hc:(0≤c.b∧c.b≤1000000)∧0≤c.lo∧c.lo≤c.hi∧c.hi≤3000) :
 (0≤min x.1 (c.hi-c.lo)∧min x.1 (c.hi-c.lo)≤x.1)∧(0≤min x.1 (c.hi-c.lo)*c.b∧min x.1 (c.hi-c.lo)*c.b≤3000000000)∧GOk (x.1-min x.1 (c.hi-c.lo),x.2+min x.1 (c.hi-c.lo)*c.b):=by
 obtain⟨⟨h1,h2⟩,h3,h4⟩:=h
 obtain⟨⟨b0,b1⟩,g0,g1,g2⟩:=hc
 generalize hm:min x.1 (c.hi-c.lo)=m
 have m0:0≤m:=by omega
 have m1:m≤x.1:=by omega
 have p0:=Int.mul_nonneg m0 b0
 have p1:m*c.b≤m*1000000:=Int.mul_le_mul_of_nonneg_left b1 m0
 refine⟨⟨m0,m1⟩,⟨p0,by omega⟩,⟨by simp only;omega,by simp only;omega⟩,by simp only;omega,by simp only;omega⟩
theorem gOk_all {l:List Bd}:∀ {x:Int × Int},(∀ c∈l,(0≤c.b∧c.b≤1000000)∧0≤c.lo∧c.lo≤c.hi∧c.hi≤3000)→GOk x→GOk (fillG l x):=by
 induction l with
 | nil=>intro x _ h;exact h
 | cons c l ih =>
   intro x hc h
   exact ih (fun y hy=>hc y (by simp [hy])) (gOk_step h (hc c (by simp))).2.2
theorem mean_ok (r:Ru) (most:Bool) (T:List (List Int)) (l:List Bd) (h:ChG r.d l) :
 MCalls Tryz.prog 199 [(1000,.arr 264 3 (idx l))] [(1000,.arr 264 3 (idx (sortN (ltD most) l)))] [.r (sideP r most T),.os 1000 0 3 0 l.length] (.r (i64 (meanD most r.d l))):=by
 have hsort:=sortStable_ok (ltD most) (fun x y=>if most then y.b-x.b else x.b-y.b) 213 [.rp [sideP r most T]] l h.len (fun _ _=>rfl) (fun x hx y hy=>cmp_ok r most T x y (h.each x hx).1 (h.each y hy).1)
 obtain⟨S,hS⟩:∃ S,S=sortN (ltD most) l:=⟨_,rfl⟩
 have hperm:S.Perm l:=hS▸sortN_perm _ _
 have hSl:S.length=l.length:=hperm.length_eq
 have hSe:∀ c∈S,(0≤c.b∧c.b≤1000000)∧0≤c.lo∧c.lo≤c.hi∧c.hi≤3000:=fun c hc=>h.each c (hperm.mem_iff.1 hc)
 have hlo:loS S=loS l:=perm_sum hperm
 have hl19:=h.len
 have hd0:=h.den0
 have hd1:=h.den1
 have hlow:=h.low
 rw[show meanD most r.d l=overD most (fillG S (r.d-loS S,loV S)).2 r.d by rw[meanD,← hS]]
 rw[← hS] at hsort ⊢
 have hsub:∀ i,(0≤loS (S.take i)∧loS (S.take i)≤57000)∧0≤loV (S.take i)∧loV (S.take i)≤57000000000:=fun i=>by
  have hm:∀ c∈S.take i,(0≤c.b∧c.b≤1000000)∧0≤c.lo∧c.lo≤c.hi∧c.hi≤3000:=fun c hc=>hSe c (List.mem_of_mem_take hc)
  have h1:=loV_le hm
  have h2:0≤loS (S.take i)∧loS (S.take i)≤3000*(S.take i).length:=by
   generalize S.take i=L at hm
   clear h1
   induction L with
   | nil=>simp [loS]
   | cons c L ih =>
     obtain⟨i1,i2⟩:=ih fun x hx=>hm x (by simp [hx])
     have:=hm c (by simp)
     simp only[loS,List.map_cons,List.sum_cons,List.length_cons] at i1 i2 ⊢
     omega
  have h3:(S.take i).length≤19:=by rw[List.length_take];omega
  omega
 have hall:=hsub S.length
 rw[List.take_length] at hall
 have hG0:GOk (r.d-loS S,loV S):=⟨⟨by simp only;omega,by simp only;omega⟩,by simp only;omega,by simp only;omega⟩
 refine mcalls_st (n:=77) (rs:=[.r (i64 (overD most (fillG S (r.d-loS S,loV S)).2 r.d))]) _ _ [.tmp 4] Tryz.func199 rfl (by kernel_rfl) Tryz.ntmps199 rfl (by simp) rfl rfl fun C=>?_
 apply zq
 refine zb fun K hK=>?_;simp only[go_sem];apply hK;refine zw (zfP 2 2 [sideP r most T] (by omega) rfl rfl) ?_;apply zw (zk [1,2]);simp only[go_sem]
 apply zq
 refine zb fun K hK=>?_;simp only[go_sem]
 refine xcall_mut (mcalls_fn hsort) [(1000,1000)] rfl (by simp only[go_sem,i64,ints]) (by simp only[go_sem,i64,ints]) (by rfl) (by rfl) ?_
 (try simp only[go_sem]);apply hK;apply zw (zk [1,2]);simp only[go_sem]
 apply zq
 refine zb fun K hK=>?_;simp only[go_sem];apply hK;apply zw (zk [1,2,5,6]);simp only[go_sem]
 repeat apply zq
 refine zb fun K hK=>?_;simp only[go_sem]
 intro _
 apply hK;apply zw (zk [1,2,5,6,22,23,24]);simp only[go_sem];apply zd
 refine zuv (n:=77) l.length (fun i vs=>[(1,.os 1000 (vs 1000) 3 0 l.length),(2,.r (.rp [sideP r most T])),(5,.r (i64 (r.d-loS (S.take i)))),(6,.r (i64 (loV (S.take i)))),(22,.os 1000 (vs 1000) 3 0 l.length),(23,.r (i64 l.length)),(24,.r (i64 i))])
  (fun i vs=>[(1000,.arr 264 3 (idx S))]) (fun _=>True) 0 (zj [] ?_ ?_) (Nat.zero_le _) trivial ?_
 ·try simp only[go_sem]
  simp [loS,loV]
 ·try simp only[go_sem]
 ·intro i vs hi _
  apply zq
  refine zb fun K hK=>?_;simp only[go_sem];apply hK;apply zw (zk [1,2,5,6,22,23,24,25]);simp only[go_sem]
  apply zq
  apply zc rfl<;>intro hc<;>(try simp only[go_sem] at hc)
  ·have hci:i<S.length:=by omega
   obtain⟨c,hx⟩:=zol hci
   obtain⟨⟨b0,b1⟩,g0,g1,g2⟩:=hSe c (zmo hx)
   have m0:=Int.mul_nonneg g0 b0
   have m1:c.lo*c.b≤3000*1000000:=Int.mul_le_mul (by omega) b1 b0 (by omega)
   have hmw:IntKind.i64.wrap (c.lo*c.b)=c.lo*c.b:=by rw[zI]<;>omega
   have hs1:=hsub i
   have hlS:loS (S.take (i+1))=loS (S.take i)+c.lo:=by rw[zto hx,loS_snoc]
   have hlV:loV (S.take (i+1))=loV (S.take i)+c.lo*c.b:=by rw[zto hx,loV_snoc]
   apply zx
   try simp only[go_sem]
   apply zq
   apply zd
   apply zq
   refine zb fun K hK=>?_;simp only[go_sem,hx,hci,hSl,bedR]
   refine⟨by omega,?_⟩
   apply hK;refine zw (zfP 8 8 (bedR c) (by omega) rfl rfl) ?_;simp only[go_sem,bedR];apply zw (zk [1,2,5,6,8,22,23,24]);simp only[go_sem];refine zg follows (by decide +kernel) (by kernel_rfl) fun K hK=>?_;simp only[go_sem,hmw];(try simp (disch:=omega) only[zI]);apply hK;apply zw (zk [1,2,5,6,22,23,24]);simp only[go_sem];refine zb fun K hK=>?_;simp only[go_sem];(try simp (disch:=omega) only[zI]);apply hK
   try simp only[go_sem]
   refine⟨by omega,zj [] ?_ ?_⟩
   ·try simp only[go_sem]
    rw[hlS,hlV]
    exact⟨by rw[Int.sub_sub],rfl⟩
   ·try simp only[go_sem]
  ·have hil:i=S.length:=by omega
   subst hil
   rw[List.take_length]
   apply zf;simp only[go_sem]
   repeat apply zq
   refine zb fun K hK=>?_;simp only[go_sem]
   intro _
   apply hK;apply zw (zk [2,5,6,42,43,44]);simp only[go_sem];apply zd
   refine zuv (n:=77) l.length (fun i vs=>[(2,.r (.rp [sideP r most T])),(5,.r (i64 (fillG (S.take i) (r.d-loS S,loV S)).1)),(6,.r (i64 (fillG (S.take i) (r.d-loS S,loV S)).2)),(42,.os 1000 (vs 1000) 3 0 l.length),(43,.r (i64 l.length)),(44,.r (i64 i))])
    (fun i vs=>[(1000,.arr 264 3 (idx S))]) (fun _=>True) 0 (zj [] ?_ ?_) (Nat.zero_le _) trivial ?_
   ·try simp only[go_sem]
    simp [fillG]
   ·try simp only[go_sem]
   ·intro i vs hi2 _
    have hG:GOk (fillG (S.take i) (r.d-loS S,loV S)):=gOk_all (fun c hc=>hSe c (List.mem_of_mem_take hc)) hG0
    apply zq
    refine zb fun K hK=>?_;simp only[go_sem];apply hK;apply zw (zk [2,5,6,42,43,44,45]);simp only[go_sem]
    apply zq
    apply zc rfl<;>intro hc<;>(try simp only[go_sem] at hc)
    ·have hci:i<S.length:=by omega
     obtain⟨c,hx⟩:=zol hci
     obtain⟨⟨b0,b1⟩,g0,g1,g2⟩:=hSe c (zmo hx)
     obtain⟨⟨k0,k1⟩,⟨k2,k3⟩,k4⟩:=gOk_step hG (hSe c (zmo hx))
     rw[zto hx,fillG_snoc]
     obtain⟨⟨q1,q2⟩,q3,q4⟩:=hG
     generalize fillG (S.take i) (r.d-loS S,loV S)=X at *
     obtain⟨lf,sm⟩:=X
     simp only at *
     have hsw:IntKind.i64.wrap (c.hi-c.lo)=c.hi-c.lo:=by rw[zI]<;>omega
     generalize hmm:min lf (c.hi-c.lo)=m at *
     have hmw:IntKind.i64.wrap (m*c.b)=m*c.b:=by rw[zI]<;>omega
     apply zx
     try simp only[go_sem]
     apply zq
     apply zd
     apply zq
     refine zb fun K hK=>?_;simp only[go_sem,hx,hci,hSl,bedR]
     refine⟨by omega,?_⟩
     apply hK;refine zw (zfP 10 10 (bedR c) (by omega) rfl rfl) ?_;simp only[go_sem,bedR];apply zw (zk [2,5,6,10,42,43,44]);simp only[go_sem]
     apply zq
     refine zb fun K hK=>?_;simp only[go_sem,hsw,hmm];apply hK;apply zw (zk [2,5,6,10,11,42,43,44]);simp only[go_sem];refine zg follows (by decide +kernel) (by kernel_rfl) fun K hK=>?_;simp only[go_sem,hmw];(try simp (disch:=omega) only[zI]);apply hK;apply zw (zk [2,5,6,42,43,44]);simp only[go_sem];refine zb fun K hK=>?_;simp only[go_sem];(try simp (disch:=omega) only[zI]);apply hK
     try simp only[go_sem]
     refine⟨by omega,zj [] ?_ ?_⟩
     ·try simp only[go_sem]
     ·try simp only[go_sem]
    ·have hil:i=S.length:=by omega
     subst hil
     rw[List.take_length] at hG ⊢
     have hov:=over_ok r most T (fillG S (r.d-loS S,loV S)).2 r.d hG.2.1 (by have:=hG.1;have:=hG.2.2;omega) (by omega) (by omega)
     apply zf;simp only[go_sem]
     apply zq
     refine zg follows (by decide +kernel) (by kernel_rfl) fun K hK=>?_;simp only[go_sem]
     refine zh (hov) rfl (by simp only[go_sem,i64,ints]) (by simp only[go_sem,i64,ints]) ?_
     (try simp only[go_sem]);apply hK;apply zw (zk [4]);simp only[go_sem];apply ze;simp only[go_sem]
abbrev visC (r:Ru) (most:Bool) (T:List (List Int)) (k st:Int) (m v:Nat):List AV:=[.r (sideP r most T),.r (i64 k),.r (i64 st),.mp m v]
theorem newVisit_ok (r:Ru) (most:Bool) (T:List (List Int)) (k st:Int) :
 NCalls Tryz.prog 163 [sideP r most T,i64 k,i64 st] [(12,.box (visC r most T k st 10 0)),(10,.mp [])] (.pt 12 0 0):=by
 refine ncalls_st (n:=13) _ _ (.tmp 6) Tryz.func163 rfl (by kernel_rfl) Tryz.ntmps163 rfl (by simp) rfl rfl fun C hC=>?_
 repeat apply zq
 refine zb fun K hK=>?_;simp only[go_sem];(try simp (disch:=omega) only[zI]);repeat first|intro _|refine⟨by omega,?_⟩
 apply hK;apply zw (zk [0,1,2]);simp only[go_sem]
 repeat apply zq
 refine zb fun K hK=>?_;simp only[go_sem];(try simp (disch:=omega) only[zI]);repeat first|intro _|refine⟨by omega,?_⟩
 apply hK;apply zw (zk [6]);simp only[go_sem];apply ze
 try simp only[go_sem]
def nextV (r:Ru) (most:Bool) (T:List (List Int)) (k st:Nat) (val:Nat→Int) (last:Bool) (left:Nat) (b:Int):Int :=
 if decide (0<scoreOf b)&&(decide ((left:Int)-scoreOf b=0)&&opensD r.out b) then 1000000
 else if decide (0<scoreOf b)&&decide ((left:Int)-scoreOf b<lowestR r) then afterD r most T k st
 else if last then afterD r most T k ((left:Int)-scoreOf b).toNat
 else val ((left:Int)-scoreOf b).toNat
def maxL (l:List Int):Int:=l.foldl max (l.headD 0)
def chW (f:Int→Int) (l:List Bd):List Bd:=l.map fun c=>⟨f c.b,c.lo,c.hi⟩
def meansV (r:Ru) (most:Bool) (f:Int→Int):List Int:=r.aims.map fun a=>meanD most r.d (chW f a.beds)
def valV (r:Ru) (most:Bool) (T:List (List Int)) (k st:Nat):Nat→Nat→Int
 | 0,_=>0
 | n+1,left=>maxL (meansV r most (nextV r most T k st (valV r most T k st n) (decide (n=0)) left))
def memoV (r:Ru) (most:Bool) (T:List (List Int)) (k st:Nat) (m:List (RV × RV)):Prop :=
 ∀ e∈m,∃ n left:Nat,e=(.ag [i64 (left:Int),i64 (n:Int)],i64 (valV r most T k st n left))
theorem memo_find {r:Ru}{most:Bool}{T:List (List Int)}{k st n left:Nat}:∀ {m:List (RV × RV)}{i:Nat},memoV r most T k st m →
 findK (.ag [i64 (left:Int),i64 (n:Int)]) m i=some none∨∃ j,findK (.ag [i64 (left:Int),i64 (n:Int)]) m i=some (some (j,i64 (valV r most T k st n left)))
 | [],i,_=>.inl rfl
 | e::m, i, h=>by
   obtain⟨n',left',rfl⟩:=h e (by simp)
   have ih:=memo_find (n:=n) (left:=left) (m:=m) (i:=i+1) fun x hx=>h x (by simp [hx])
   by_cases he:left=left'∧n=n'
   ·obtain⟨rfl,rfl⟩:=he
    exact .inr ⟨i,by simp [findK,sameK,cmpL,i64]⟩
   ·have hf:sameK (.ag [i64 (left:Int),i64 (n:Int)]) (.ag [i64 (left':Int),i64 (n':Int)])=some false:=by
     simp only[sameK,cmpL,i64,if_true,Option.some.injEq,Bool.and_true,Bool.and_eq_false_iff,beq_eq_false_iff_ne]
     omega
    simp only[findK,hf];exact ih
theorem memo_set {r:Ru}{most:Bool}{T:List (List Int)}{k st n left:Nat}{m:List (RV × RV)}(h:memoV r most T k st m) (i:Nat):memoV r most T k st (m.set i (.ag [i64 (left:Int),i64 (n:Int)],i64 (valV r most T k st n left))):=fun e he=>by
 rcases List.mem_or_eq_of_mem_set he with he|rfl
 ·exact h e he
 ·exact⟨n,left,rfl⟩
theorem memo_app {r:Ru}{most:Bool}{T:List (List Int)}{k st n left:Nat}{m:List (RV × RV)}(h:memoV r most T k st m):memoV r most T k st (m++[(.ag [i64 (left:Int),i64 (n:Int)],i64 (valV r most T k st n left))]):=fun e he=>by
 rcases List.mem_append.1 he with he|he
 ·exact h e he
 ·rw[List.mem_singleton] at he;exact⟨n,left,he⟩
abbrev visL (r:Ru) (most:Bool) (T:List (List Int)) (k st:Nat):List (Nat × RowC):=[(1000,.box (visC r most T (k:Int) (st:Int) 1001 0)),(1001,.mem (memoV r most T k st))]
structure VisG (r:Ru) (T:List (List Int)) (k st:Nat):Prop where
 kk:k<r.ends.length
 h10:r.ends.length≤10
 ends:∀ x∈r.ends,endOk x=true
 st40:(st:Int)≤r.start
 s40:r.start≤40
 tab:∀ left:Nat,(left:Int)≤r.start→∃ row v,k+1<r.ends.length→T[k+1]? = some row∧row[left]? = some v∧0≤v∧v≤1000000
theorem VisG.after {r:Ru}{T:List (List Int)}{k st:Nat}(h:VisG r T k st) (most:Bool) {left:Nat}(hl:(left:Int)≤r.start):ACalls Tryz.prog 91 [sideP r most T,i64 k,i64 left] (i64 (afterD r most T k left)):=by
 obtain⟨row,v,hv⟩:=h.tab left hl
 exact after_ok r most T k left row v h.kk h.h10 h.ends hv
theorem next_ok (r:Ru) (most:Bool) (T:List (List Int)) (k st n left:Nat) (b:Int) (hG:VisG r T k st) (hl1:1≤left) (hl:(left:Int)≤r.start) (hn:n≤100) (b0:0≤b) (b1:b≤499)
 (hval:n≠0→∀ left':Nat,1≤left'→(left':Int)≤r.start→MCalls Tryz.prog 164 (visL r most T k st) (visL r most T k st) [.pt 1000 0 0,.r (.ag [i64 (left':Int),i64 (n:Int)])] (.r (i64 (valV r most T k st n left')))) :
 MCalls Tryz.prog 198 (visL r most T k st) (visL r most T k st) [.pt 1000 0 0,.r (.ag [i64 (left:Int),i64 ((n:Int)+1)]),.r (i64 b)] (.r (i64 (nextV r most T k st (valV r most T k st n) (decide (n=0)) left b))):=by
 have h40:=hG.s40
 have hq:=tdiv100 (b:=b) ⟨by omega,by omega⟩
 have hm:=score_mul b0 b1
 obtain⟨s0,s1⟩:=score_le b0 b1
 obtain⟨x,hx⟩:∃ x,x=scoreOf b:=⟨_,rfl⟩
 have hdn:IntKind.i64.wrap ((n:Int)+1-1)=n:=by rw[zI]<;>omega
 have hlx:IntKind.i64.wrap ((left:Int)-scoreOf b)=left-scoreOf b:=by rw[zI]<;>omega
 have hop:=opens_ok r b b0 b1
 have hlo:ACalls Tryz.prog 128 [ruV r] (i64 (lowestR r)):=dlowest_ok r
 refine mcalls_st (n:=88) (rs:=[.r (i64 (nextV r most T k st (valV r most T k st n) (decide (n=0)) left b))]) _ _ [.tmp 6] Tryz.func198 rfl (by kernel_rfl) Tryz.ntmps198 rfl (by simp) rfl rfl fun C=>?_
 apply zq
 refine zb fun K hK=>?_;simp only[go_sem];apply hK;apply zw (zk [0,2,4]);simp only[go_sem]
 apply zq
 refine zb fun K hK=>?_;simp only[go_sem,hq,hm];apply hK;apply zw (zk [0,2,4,7]);simp only[go_sem]
 apply zq
 refine zb fun K hK=>?_;simp only[go_sem,hlx];apply hK;apply zw (zk [0,2,4,7]);simp only[go_sem]
 apply zq
 refine zb fun K hK=>?_;simp only[go_sem,hdn];apply hK;apply zw (zk [0,2,4,7]);simp only[go_sem]
 rw[← hx] at hlx ⊢
 apply zq
 apply zd
 have hst:=hG.after most hG.st40
 have hv:nextV r most T k st (valV r most T k st n) (decide (n=0)) left b=if decide (0<x)&&(decide ((left:Int)-x=0)&&opensD r.out b) then 1000000
  else if decide (0<x)&&decide ((left:Int)-x<lowestR r) then afterD r most T k st else if n=0 then afterD r most T k ((left:Int)-x).toNat else valV r most T k st n ((left:Int)-x).toNat:=by
  unfold nextV;rw[← hx];simp only[decide_eq_true_eq]
 by_cases c1:0<x
 ·have d1:decide (0<x)=true:=by simpa using c1
  by_cases c2:(left:Int)-x=0
  ·have d2:((left:Int)-x == 0)=true:=by simpa using c2
   cases c3:opensD r.out b
   ·have c4:(left:Int)-x<lowestR r:=by unfold lowestR;split<;>omega
    have d4:decide ((left:Int)-x<lowestR r)=true:=by simpa using c4
    rw[c3] at hop
    apply zq
    refine zb fun K hK=>?_;simp only[go_sem,d1,d2]
    refine zh (hop) rfl (by simp only[go_sem,i64,ints,d1,d2]) (by simp only[go_sem,i64,ints,d1,d2]) ?_
    (try simp only[go_sem,d1,d2]);apply hK;apply zw (zk [0,4,7,22]);simp only[go_sem]
    apply zc rfl<;>intro hc<;>(try simp only[go_sem] at hc)
    apply zq
    refine zg follows (by decide +kernel) (by kernel_rfl) fun K hK=>?_;simp only[go_sem,d1,d4]
    refine zh (hlo) rfl (by simp only[go_sem,i64,ints,d1,d4]) (by simp only[go_sem,i64,ints,d1,d4]) ?_
    (try simp only[go_sem,d1,d4]);apply hK;apply zw (zk [0,4,41]);simp only[go_sem]
    apply zc rfl<;>intro hc<;>(try simp only[go_sem] at hc)
    apply zq
    refine zg follows (by decide +kernel) (by kernel_rfl) fun K hK=>?_;simp only[go_sem]
    refine zh (hst) rfl (by simp only[go_sem,i64,ints]) (by simp only[go_sem,i64,ints]) ?_
    (try simp only[go_sem]);apply hK;apply zw (zk [6]);simp only[go_sem];apply ze;simp only[go_sem]
    rw[hv];simp [c1,c3,c4]
   ·rw[c3] at hop
    apply zq
    refine zb fun K hK=>?_;simp only[go_sem,d1,d2]
    refine zh (hop) rfl (by simp only[go_sem,i64,ints,d1,d2]) (by simp only[go_sem,i64,ints,d1,d2]) ?_
    (try simp only[go_sem,d1,d2]);apply hK;apply zw (zk [0,4,7,22]);simp only[go_sem]
    apply zc rfl<;>intro hc<;>(try simp only[go_sem] at hc)
    apply zq
    refine zb fun K hK=>?_;simp only[go_sem];apply hK;apply zw (zk [6]);simp only[go_sem];apply ze;simp only[go_sem]
    rw[hv];simp [c1,c2,c3]
  ·have d2:((left:Int)-x == 0)=false:=by simpa using c2
   apply zq
   refine zb fun K hK=>?_;simp only[go_sem,d1,d2];apply hK;apply zw (zk [0,4,7,22]);simp only[go_sem]
   apply zc rfl<;>intro hc<;>(try simp only[go_sem] at hc)
   by_cases c4:(left:Int)-x<lowestR r
   ·have d4:decide ((left:Int)-x<lowestR r)=true:=by simpa using c4
    apply zq
    refine zg follows (by decide +kernel) (by kernel_rfl) fun K hK=>?_;simp only[go_sem,d1,d4]
    refine zh (hlo) rfl (by simp only[go_sem,i64,ints,d1,d4]) (by simp only[go_sem,i64,ints,d1,d4]) ?_
    (try simp only[go_sem,d1,d4]);apply hK;apply zw (zk [0,4,41]);simp only[go_sem]
    apply zc rfl<;>intro hc<;>(try simp only[go_sem] at hc)
    apply zq
    refine zg follows (by decide +kernel) (by kernel_rfl) fun K hK=>?_;simp only[go_sem]
    refine zh (hst) rfl (by simp only[go_sem,i64,ints]) (by simp only[go_sem,i64,ints]) ?_
    (try simp only[go_sem]);apply hK;apply zw (zk [6]);simp only[go_sem];apply ze;simp only[go_sem]
    rw[hv];simp [c1,c2,c4]
   ·have d4:decide ((left:Int)-x<lowestR r)=false:=by simpa using c4
    have hl1':1≤lowestR r:=by unfold lowestR;split<;>omega
    obtain⟨y,hy⟩:∃ y:Nat,(left:Int)-x=(y:Int):=⟨((left:Int)-x).toNat,by omega⟩
    have hyn:((left:Int)-x).toNat=y:=by omega
    have haf:=hG.after most (left:=y) (by omega)
    rw[hy] at c2 c4
    apply zq
    refine zg follows (by decide +kernel) (by kernel_rfl) fun K hK=>?_;simp only[go_sem,d1,d4]
    refine zh (hlo) rfl (by simp only[go_sem,i64,ints,d1,d4]) (by simp only[go_sem,i64,ints,d1,d4]) ?_
    (try simp only[go_sem,d1,d4]);apply hK;apply zw (zk [0,4,41]);simp only[go_sem]
    apply zc rfl<;>intro hc<;>(try simp only[go_sem] at hc)
    by_cases c5:n=0
    ·have d5:((n:Int) == 0)=true:=by simpa using c5
     apply zq
     refine zb fun K hK=>?_;simp only[go_sem,d5];apply hK;apply zw (zk [0,4,70]);simp only[go_sem]
     apply zc rfl<;>intro hc<;>(try simp only[go_sem] at hc)
     apply zq
     refine zg follows (by decide +kernel) (by kernel_rfl) fun K hK=>?_;simp only[go_sem,hy]
     refine zh (haf) rfl (by simp only[go_sem,i64,ints]) (by simp only[go_sem,i64,ints]) ?_
     (try simp only[go_sem]);apply hK;apply zw (zk [6]);simp only[go_sem];apply ze;simp only[go_sem]
     have c2':¬ y=0:=by omega
     rw[hv,hyn];simp [c1,c2,c2',c4,c5,hy]
    ·have d5:((n:Int) == 0)=false:=by simpa using c5
     have hvl:=hval c5 y (by omega) (by omega)
     apply zq
     refine zb fun K hK=>?_;simp only[go_sem,d5];apply hK;apply zw (zk [0,4,70]);simp only[go_sem]
     apply zc rfl<;>intro hc<;>(try simp only[go_sem] at hc)
     apply zx
     try simp only[go_sem]
     refine zw (zfP 4 4 [i64 ((left:Int)-x),i64 (n:Int)] (by omega) rfl rfl) ?_;apply zw (zk [0,4]);simp only[go_sem]
     apply zq
     refine zb fun K hK=>?_;simp only[go_sem,hy]
     refine xcall_mut (hvl) [(1000,1000),(1001,1001)] rfl (by simp only[go_sem,i64,ints]) (by simp only[go_sem,i64,ints]) (by rfl) (by rfl) ?_
     (try simp only[go_sem]);apply hK;apply zw (zk [6]);simp only[go_sem];apply ze;simp only[go_sem]
     have c2':¬ y=0:=by omega
     rw[hv,hyn];simp [c1,c2,c2',c4,c5,hy]
 ·have d1:decide (0<x)=false:=by simpa using c1
  have hx0:x=0:=by omega
  apply zq
  refine zb fun K hK=>?_;simp only[go_sem,d1];apply hK;apply zw (zk [0,4,7,22]);simp only[go_sem]
  apply zc rfl<;>intro hc<;>(try simp only[go_sem] at hc)
  apply zq
  refine zg follows (by decide +kernel) (by kernel_rfl) fun K hK=>?_;simp only[go_sem,d1];apply hK;apply zw (zk [0,4,41]);simp only[go_sem]
  have haf:=hG.after most hl
  have hx1:((left:Int)-x).toNat=left:=by omega
  subst hx0
  simp only[Int.sub_zero] at hx1 ⊢
  apply zc rfl<;>intro hc<;>(try simp only[go_sem] at hc)
  by_cases c5:n=0
  ·have d5:((n:Int) == 0)=true:=by simpa using c5
   apply zq
   refine zb fun K hK=>?_;simp only[go_sem,d5];apply hK;apply zw (zk [0,4,70]);simp only[go_sem]
   apply zc rfl<;>intro hc<;>(try simp only[go_sem] at hc)
   apply zq
   refine zg follows (by decide +kernel) (by kernel_rfl) fun K hK=>?_;simp only[go_sem]
   refine zh (haf) rfl (by simp only[go_sem,i64,ints]) (by simp only[go_sem,i64,ints]) ?_
   (try simp only[go_sem]);apply hK;apply zw (zk [6]);simp only[go_sem];apply ze;simp only[go_sem]
   rw[hv];simp [c1,c5]
  ·have d5:((n:Int) == 0)=false:=by simpa using c5
   have hvl:=hval c5 left (by omega) (by omega)
   apply zq
   refine zb fun K hK=>?_;simp only[go_sem,d5];apply hK;apply zw (zk [0,4,70]);simp only[go_sem]
   apply zc rfl<;>intro hc<;>(try simp only[go_sem] at hc)
   apply zx
   try simp only[go_sem]
   refine zw (zfP 4 4 [i64 (left:Int),i64 (n:Int)] (by omega) rfl rfl) ?_;apply zw (zk [0,4]);simp only[go_sem]
   apply zq
   refine zb fun K hK=>?_;simp only[go_sem]
   refine xcall_mut (hvl) [(1000,1000),(1001,1001)] rfl (by simp only[go_sem,i64,ints]) (by simp only[go_sem,i64,ints]) (by rfl) (by rfl) ?_
   (try simp only[go_sem]);apply hK;apply zw (zk [6]);simp only[go_sem];apply ze;simp only[go_sem]
   rw[hv];simp [c1,c5]
theorem max_ok (l:List Int) (h:l≠[]) (hl:l.length≤1000000):ACalls Tryz.prog 187 [ints l] (i64 (maxL l)):=by
 have hp:0<l.length:=List.length_pos_iff.2 h
 have d0:decide ((l.length:Int)<1)=false:=by simp;omega
 obtain⟨x0,hx0⟩:=zol hp
 have hhd:l.headD 0=x0:=by cases l with|nil=>exact absurd rfl h|cons a l=>simpa using hx0
 have hs:∀ i v,l[i]? = some v→(l.take (i+1)).foldl max x0=max ((l.take i).foldl max x0) v:=fun i v hv=>by
  rw[List.take_add_one,hv];simp
 refine zas (rs:=[i64 (maxL l)]) [.tmp 2] Tryz.func187 rfl (by kernel_rfl) Tryz.ntmps187 rfl (by simp) rfl fun C vs=>?_
 apply zq
 refine zb fun K hK=>?_;simp only[go_sem];apply hK;apply zw (zk [0]);simp only[go_sem]
 repeat apply zq
 refine zb fun K hK=>?_;simp only[go_sem,d0]
 intro _
 apply hK;apply zw (zk [0,7]);simp only[go_sem]
 apply zc rfl<;>intro hc<;>(try simp only[go_sem] at hc)
 apply zx
 try simp only[go_sem]
 apply zq
 refine zb fun K hK=>?_;simp only[go_sem,hx0]
 refine⟨by omega,?_⟩
 apply hK;apply zw (zk [0,3]);simp only[go_sem]
 repeat apply zq
 refine zb fun K hK=>?_;simp only[go_sem];apply hK;apply zw (zk [0,3,4]);simp only[go_sem];apply zd
 refine zup (n:=25) l.length (fun i vs=>[(0,.r (ints l)),(3,.r (i64 ((l.take i).foldl max x0))),(4,.r (i64 i))])
  (fun i=>[]) (fun _=>True) 1 (zfo [] ?_ ?_) (by omega) trivial ?_
 ·try simp only[go_sem]
  rw[show (1:Nat)=0+1 from rfl,hs 0 x0 hx0];simp
 ·try simp only[go_sem]
 ·intro i vs hi _
  repeat apply zq
  refine zb fun K hK=>?_;simp only[go_sem]
  intro _
  apply hK;apply zw (zk [0,3,4,15]);simp only[go_sem]
  apply zc rfl<;>intro hc<;>(try simp only[go_sem] at hc)
  ·have hci:i<l.length:=by omega
   obtain⟨v,hv⟩:=zol hci
   apply zx
   try simp only[go_sem]
   apply zq
   apply zd;refine zb fun K hK=>?_;simp only[go_sem,hv]
   refine⟨by omega,?_⟩
   apply hK;apply zw (zk [0,3,4]);simp only[go_sem];refine zb fun K hK=>?_;simp only[go_sem];(try simp (disch:=omega) only[zI]);apply hK
   try simp only[go_sem]
   refine⟨by omega,zfo [] ?_ ?_⟩
   ·try simp only[go_sem]
    rw[hs i v hv]
   ·try simp only[go_sem]
  ·have hil:i=l.length:=by omega
   apply zf;simp only[go_sem]
   apply zq
   refine zb fun K hK=>?_;simp only[go_sem];apply hK;apply zw (zk [2]);simp only[go_sem];apply ze;simp only[go_sem];rw[maxL,hhd,hil,List.take_length]
theorem value_ok (r:Ru) (most:Bool) (T:List (List Int)) (k st n left:Nat) (hn:n≤100) (hl:left≤40) (hne:r.aims≠[]) (hle:r.aims.length≤1000)
 (hme:MCalls Tryz.prog 188 (visL r most T k st) (visL r most T k st) [.pt 1000 0 0,.r (.ag [i64 (left:Int),i64 ((n+1:Nat):Int)])] (.r (ints (meansV r most (nextV r most T k st (valV r most T k st n) (decide (n=0)) left))))) :
 MCalls Tryz.prog 164 (visL r most T k st) (visL r most T k st) [.pt 1000 0 0,.r (.ag [i64 (left:Int),i64 ((n+1:Nat):Int)])] (.r (i64 (valV r most T k st (n+1) left))):=by
 have hmx:=max_ok (meansV r most (nextV r most T k st (valV r most T k st n) (decide (n=0)) left)) (by simp [meansV,hne]) (by simp [meansV];omega)
 have hval:maxL (meansV r most (nextV r most T k st (valV r most T k st n) (decide (n=0)) left))=valV r most T k st (n+1) left:=rfl
 rw[hval] at hmx
 refine mcalls_st (n:=29) (rs:=[.r (i64 (valV r most T k st (n+1) left))]) _ _ [.tmp 4] Tryz.func164 rfl (by kernel_rfl) Tryz.ntmps164 rfl (by simp) rfl rfl fun C=>?_
 apply zq
 refine zb fun K hK=>?_;simp only[go_sem];apply hK;refine zw (zfP 3 3 [i64 (left:Int),i64 ((n+1:Nat):Int)] (by omega) rfl rfl) ?_;apply zw (zk [0,3]);simp only[go_sem]
 apply zq
 refine awp_openM 1001 (by rfl) fun m hm=>?_
 try simp only[go_sem]
 have ecast:(((n+1:Nat)):Int)=(n:Int)+1:=by omega
 rcases memo_find (n:=n+1) (left:=left) (i:=0) hm with hf|⟨j,hf⟩
 ·rw[ecast] at hf
  refine zg follows (by decide +kernel) (by kernel_rfl) fun K hK=>?_;simp only[go_sem,hf,Bool.and_self,eq_self,true_and];apply hK;refine zw (sub_shutM (memoV r most T k st) 1001 (by rfl) hm) ?_;apply zw (zk [0,3,5,6]);simp only[go_sem]
  repeat apply zq
  refine zb fun K hK=>?_;simp only[go_sem];apply hK;apply zw (zk [0,3,5,17]);simp only[go_sem]
  apply zc rfl<;>intro hc<;>(try simp only[go_sem] at hc)
  apply zq
  refine zb fun K hK=>?_;simp only[go_sem]
  refine xcall_mut (hme) [(1000,1000),(1001,1001)] rfl (by simp only[go_sem,i64,ints]) (by simp only[go_sem,i64,ints]) (by rfl) (by rfl) ?_
  (try simp only[go_sem])
  refine zh (hmx) rfl (by simp only[go_sem,i64,ints]) (by simp only[go_sem,i64,ints]) ?_
  (try simp only[go_sem]);apply hK;apply zw (zk [0,3,5]);simp only[go_sem]
  refine awp_openM 1001 (by rfl) fun m' hm'=>?_
  try simp only[go_sem]
  rcases memo_find (n:=n+1) (left:=left) (i:=0) hm' with hf'|⟨j,hf'⟩
  ·rw[ecast] at hf'
   refine awp_dreg2 [(0,some 1000),(3,none),(5,none)] follows (by decide +kernel) (by kernel_rfl) (by simp only[keysOk,List.mem_cons,List.not_mem_nil,forall_eq_or_imp,Oc.keyOf,go_sem];simp) fun K hK=>?_
   simp only[go_sem,hf',Bool.and_self,eq_self,true_and];apply hK;refine zw (sub_shutM (memoV r most T k st) 1001 (by rfl) (by have h:=memo_app (n:=n+1) (left:=left) hm';rw[ecast] at h;exact h)) ?_;apply zw (zk [5]);simp only[go_sem]
   apply zq
   refine zb fun K hK=>?_;simp only[go_sem];apply hK;apply zw (zk [4]);simp only[go_sem];apply ze;simp only[go_sem]
  ·rw[ecast] at hf'
   refine awp_dreg2 [(0,some 1000),(3,none),(5,none)] follows (by decide +kernel) (by kernel_rfl) (by simp only[keysOk,List.mem_cons,List.not_mem_nil,forall_eq_or_imp,Oc.keyOf,go_sem];simp) fun K hK=>?_
   simp only[go_sem,hf',Bool.and_self,eq_self,true_and];apply hK;refine zw (sub_shutM (memoV r most T k st) 1001 (by rfl) (by have h:=memo_set (n:=n+1) (left:=left) hm' j;rw[ecast] at h;exact h)) ?_;apply zw (zk [5]);simp only[go_sem]
   apply zq
   refine zb fun K hK=>?_;simp only[go_sem];apply hK;apply zw (zk [4]);simp only[go_sem];apply ze;simp only[go_sem]
 ·rw[ecast] at hf
  refine zg follows (by decide +kernel) (by kernel_rfl) fun K hK=>?_;simp only[go_sem,hf,Bool.and_self,eq_self,true_and];apply hK;refine zw (sub_shutM (memoV r most T k st) 1001 (by rfl) hm) ?_;apply zw (zk [0,3,5,6]);simp only[go_sem]
  repeat apply zq
  refine zb fun K hK=>?_;simp only[go_sem];apply hK;apply zw (zk [0,3,5,17]);simp only[go_sem]
  apply zc rfl<;>intro hc<;>(try simp only[go_sem] at hc)
  apply zx
  try simp only[go_sem]
  apply zq
  refine zb fun K hK=>?_;simp only[go_sem];apply hK;apply zw (zk [4]);simp only[go_sem];apply ze;simp only[go_sem]
theorem means_ok (r:Ru) (most:Bool) (T:List (List Int)) (k st n left:Nat) (f:Int→Int) (hn:n≤100) (hl:left≤40) (hle:r.aims.length≤1000)
 (hch:∀ a∈r.aims,ChG r.d (chW f a.beds)) (hbd:∀ a∈r.aims,∀ c∈a.beds,0≤c.b∧c.b≤499)
 (hnx:∀ b,0≤b→b≤499→MCalls Tryz.prog 198 (visL r most T k st) (visL r most T k st) [.pt 1000 0 0,.r (.ag [i64 (left:Int),i64 ((n:Int)+1)]),.r (i64 b)] (.r (i64 (f b)))) :
 MCalls Tryz.prog 188 (visL r most T k st) (visL r most T k st) [.pt 1000 0 0,.r (.ag [i64 (left:Int),i64 ((n:Int)+1)])] (.r (ints (meansV r most f))):=by
 refine mcalls_st (n:=55) (rs:=[.r (ints (meansV r most f))]) _ _ [.tmp 4] Tryz.func188 rfl (by kernel_rfl) Tryz.ntmps188 rfl (by simp) rfl rfl fun C=>?_
 apply zq
 refine zb fun K hK=>?_;simp only[go_sem];apply hK;refine zw (zfP 3 3 [i64 (left:Int),i64 ((n:Int)+1)] (by omega) rfl rfl) ?_;apply zw (zk [0,3,4]);simp only[go_sem]
 repeat apply zq
 refine zb fun K hK=>?_;simp only[go_sem]
 intro _
 apply hK;apply zw (zk [0,3,4,19,20,21]);simp only[go_sem];refine zw (sub_own 4 52 3 1 (by omega) rfl) ?_
 try simp only[go_sem]
 apply zd
 refine awp_upto0 (n:=55) r.aims.length (fun i vs=>[(0,.pt 1000 0 0),(3,.r (.rp [i64 (left:Int),i64 ((n:Int)+1)])),(4,.os 52 (vs 52) 1 0 i),(19,.r (aimsR r.aims)),(20,.r (i64 r.aims.length)),(21,.r (i64 i))])
  (fun i=>[(52,.arr 3 1 (((meansV r most f).take i).map fun x=>[i64 x])),(1000,.box (visC r most T (k:Int) (st:Int) 1001 0)),(1001,.mem (memoV r most T k st))]) (fun _=>True) 0 (fit0_of [] (by repeat (first|exact lent_zero|refine lent_upd (by omega) ?_)) ?_ ?_) (by omega) trivial ?_
 ·try simp only[go_sem]
 ·try simp only[go_sem]
 ·intro i vs hv hi _
  have hv0:=hv 1000 (by omega)
  have hv1:=hv 1001 (by omega)
  apply zq
  refine zb fun K hK=>?_;simp only[go_sem];apply hK;apply zw (zk [0,3,4,19,20,21,22]);simp only[go_sem]
  apply zq
  apply zc rfl<;>intro hc<;>(try simp only[go_sem] at hc)
  ·have hci:=hc
   obtain⟨a,ha⟩:=zol hc
   have haM:=zmo ha
   have hca:=hch a haM
   have hl19:=hca.len
   have hlen:(chW f a.beds).length=a.beds.length:=by simp [chW]
   rw[hlen] at hl19
   apply zx
   try simp only[go_sem]
   apply zq
   apply zd
   apply zq
   refine zb fun K hK=>?_;simp only[go_sem,ha,hci,aimR];apply hK;refine zw (zfP 6 6 [i64 a.at_,bedsR a.beds] (by omega) (by try simp only[go_sem]) (by try simp only[go_sem])) ?_;apply zw (zk [0,3,4,6,19,20,21]);simp only[go_sem]
   apply zq
   refine zb fun K hK=>?_;simp only[go_sem];apply hK;apply zw (zk [0,3,4,6,7,19,20,21]);simp only[go_sem];refine zw (sub_own 7 42 264 3 (by omega) rfl) ?_
   try simp only[go_sem]
   repeat apply zq
   refine zb fun K hK=>?_;simp only[go_sem]
   intro _
   apply hK;apply zw (zk [0,3,4,7,19,20,21,26,27,28]);simp only[go_sem];apply zd
   refine awp_upto0 (n:=55) a.beds.length (fun j vs=>[(0,.pt 1000 0 0),(3,.r (.rp [i64 (left:Int),i64 ((n:Int)+1)])),(4,.os 52 (vs 52) 1 0 i),(7,.os 42 (vs 42) 3 0 j),(19,.r (aimsR r.aims)),(20,.r (i64 r.aims.length)),(21,.r (i64 i)),(26,.r (bedsR a.beds)),(27,.r (i64 a.beds.length)),(28,.r (i64 j))])
    (fun j=>[(42,.arr 264 3 (idx ((chW f a.beds).take j))),(52,.arr 3 1 (((meansV r most f).take i).map fun x=>[i64 x])),(1000,.box (visC r most T (k:Int) (st:Int) 1001 0)),(1001,.mem (memoV r most T k st))]) (fun _=>True) 0 (fit0_of [] (by repeat (first|exact hv|exact lent_zero|refine lent_upd (by omega) ?_)) ?_ ?_) (by omega) trivial ?_
   ·try simp only[go_sem]
   ·try simp only[go_sem]
   ·intro j vs2 hv2 hj _
    have hv0:=hv2 1000 (by omega)
    have hv1:=hv2 1001 (by omega)
    apply zq
    refine zb fun K hK=>?_;simp only[go_sem];apply hK;apply zw (zk [0,3,4,7,19,20,21,26,27,28,29]);simp only[go_sem]
    apply zq
    apply zc rfl<;>intro hc<;>(try simp only[go_sem] at hc)
    ·have hcj:=hc
     obtain⟨c,hc1⟩:=zol hc
     have hbc:=hbd a haM c (zmo hc1)
     have hnc:=hnx c.b hbc.1 hbc.2
     have htk:(chW f a.beds).take (j+1)=(chW f a.beds).take j++[⟨f c.b,c.lo,c.hi⟩]:=zto (by simp [chW,hc1])
     have hlj:((chW f a.beds).take j).length=j:=by rw[List.length_take,hlen];omega
     apply zx
     try simp only[go_sem]
     apply zq
     apply zd
     apply zq
     refine zb fun K hK=>?_;simp only[go_sem,hc1,hcj,bedR];apply hK;refine zw (zfP 9 9 [i64 c.b,i64 c.lo,i64 c.hi] (by omega) (by try simp only[go_sem]) (by try simp only[go_sem])) ?_;simp only[go_sem,bedR];apply zw (zk [0,3,4,7,9,19,20,21,26,27,28]);simp only[go_sem];refine zg follows (by decide +kernel) (by kernel_rfl) fun K hK=>?_;simp only[go_sem,hlj]
     refine xcall_keep hnc [(1000,1000),(1001,1001)] rfl (by simp only[go_sem,i64,ints,hv0,hv1]) (by simp only[go_sem,i64,ints,hv0,hv1]) (by rfl) (by rfl) ?_ ?_ ?_
     ·intro x hx
      simp only[List.mem_cons,List.not_mem_nil,or_false] at hx
      rcases hx with rfl|rfl
      ·try simp only[go_sem]
       simp [hv0,hv1]
      ·try simp only[go_sem]
     ·intro x hx
      simp only[List.mem_cons,List.not_mem_nil,or_false] at hx
      rcases hx with rfl|rfl
      ·left
       simp [AV.nrL,AV.nr,AS.ver,Oc.st,hv0,upd]
      ·right
       refine⟨(1000,1000),by simp,visC r most T (k:Int) (st:Int) 1001 0,?_,by try simp only[go_sem],?_⟩
       ·simp [AV.nrL,AV.nr,AS.ver,Oc.st,hv0,upd]
       ·simp [AV.nrL,AV.nr,AS.ver,Oc.st,hv1,upd]
     simp only[go_sem,hlj]
     refine⟨by omega,?_⟩
     apply hK;apply zw (zk [0,3,4,7,19,20,21,26,27,28]);simp only[go_sem];refine zb fun K hK=>?_;simp only[go_sem];(try simp (disch:=omega) only[zI]);apply hK
     try simp only[go_sem]
     refine⟨by omega,fit0_of [] (by repeat (first|exact hv2|refine lent_upd (by omega) ?_)) ?_ ?_⟩
     ·try simp only[go_sem]
     ·try simp only[go_sem]
      rw[htk]
      simp [bedR]
    ·have hjl:j=a.beds.length:=by omega
     subst hjl
     have e1:(chW f a.beds).take a.beds.length=chW f a.beds:=by rw[← hlen,List.take_length]
     rw[e1]
     have hmn:=mean_ok r most T (chW f a.beds) hca
     rw[hlen] at hmn
     have htm:(meansV r most f).take (i+1)=(meansV r most f).take i++[meanD most r.d (chW f a.beds)]:=zto (by simp [meansV,ha])
     have hli:((meansV r most f).take i).length=i:=by rw[List.length_take];simp [meansV];omega
     apply zf;simp only[go_sem];refine zb fun K hK=>?_;simp only[go_sem,hli,hlen]
     refine⟨hv0.symm,hv0.symm,hv0.symm,?_⟩
     refine xcall_mut (hmn) [(1000,42)] rfl (by simp only[go_sem,i64,ints,hli,hlen]) (by simp only[go_sem,i64,ints,hli,hlen]) (by rfl) (by rfl) ?_
     (try simp only[go_sem,hli,hlen])
     refine⟨by omega,?_⟩
     apply hK;apply zw (zk [0,3,4,19,20,21]);simp only[go_sem];refine zb fun K hK=>?_;simp only[go_sem];(try simp (disch:=omega) only[zI]);apply hK
     try simp only[go_sem]
     refine⟨by omega,fit0_of [42] (by repeat (first|exact hv2|refine lent_upd (by omega) ?_)) ?_ ?_⟩
     ·try simp only[go_sem]
     ·try simp only[go_sem]
      rw[htm]
      simp
  ·have hil:i=r.aims.length:=by omega
   have e1:(meansV r most f).take i=meansV r most f:=List.take_of_length_le (by simp [meansV];omega)
   rw[e1]
   have hml:(meansV r most f).length=i:=by simp [meansV,hil]
   apply zf;simp only[go_sem]
   apply zq
   refine zb fun K hK=>?_;simp only[go_sem];apply hK;apply zw (zk [4]);simp only[go_sem];refine zw (sub_frz (ty:=3) (sz:=1) (off:=0) (m:=i) (es:=(meansV r most f).map fun x=>[i64 x]) 4 52 (by omega) (by try simp only[go_sem]) (by try simp only[go_sem]) (by simp [hml])) ?_
   have e2:(((meansV r most f).map fun x=>[i64 x]).drop 0).take i=(meansV r most f).map fun x=>[i64 x]:=by
    rw[List.drop_zero,List.take_of_length_le (by simp [hml])]
   rw[e2]
   apply zw (zk [4]);simp only[go_sem];apply ze;simp only[go_sem]
structure AimsG (r:Ru):Prop where
 ne:r.aims≠[]
 len:r.aims.length≤1000
 den0:1≤r.d
 den1:r.d≤3000
 beds:∀ a∈r.aims,a.beds.length≤19∧loS a.beds≤r.d∧∀ c∈a.beds,(0≤c.b∧c.b≤499)∧0≤c.lo∧c.lo≤c.hi∧c.hi≤3000
theorem loS_chW (f:Int→Int) (l:List Bd):loS (chW f l)=loS l:=by simp [loS,chW,Function.comp_def]
theorem AimsG.ch {r:Ru}(h:AimsG r) {f:Int→Int}(hf:∀ b,0≤b→b≤499→0≤f b∧f b≤1000000):∀ a∈r.aims,ChG r.d (chW f a.beds):=fun a ha=>by
 obtain⟨h1,h2,h3⟩:=h.beds a ha
 refine⟨by simpa [chW] using h1,h.den0,h.den1,by rw[loS_chW];exact h2,fun c hc=>?_⟩
 obtain⟨x,hx,rfl⟩:=List.mem_map.1 hc
 obtain⟨g1,g2⟩:=h3 x hx
 exact⟨hf _ g1.1 g1.2,g2⟩
theorem fillG_le {den:Int}:∀ (l:List Bd) (x:Int × Int),(∀ c∈l,(0≤c.b∧c.b≤1000000)∧c.lo≤c.hi)→0≤x.1→0≤x.2→x.2≤1000000*(den-x.1)→0≤(fillG l x).2∧(fillG l x).2≤1000000*den
 | [],x,_,h1,h2,h3=>by simp only[fillG];omega
 | c::l, x, h, h1, h2, h3=>by
   obtain⟨⟨b0,b1⟩,g⟩:=h c (by simp)
   simp only[fillG]
   generalize hm:min x.1 (c.hi-c.lo)=m
   have m0:0≤m:=by omega
   have m1:m≤x.1:=by omega
   have p0:=Int.mul_nonneg m0 b0
   have p1:m*c.b≤m*1000000:=Int.mul_le_mul_of_nonneg_left b1 m0
   exact fillG_le l _ (fun y hy=>h y (by simp [hy])) (by simp only;omega) (by simp only;omega) (by simp only;omega)
theorem loV_lo {l:List Bd}(h:∀ c∈l,(0≤c.b∧c.b≤1000000)∧0≤c.lo):0≤loV l∧loV l≤1000000*loS l:=by
 induction l with
 | nil=>simp [loV,loS]
 | cons c l ih =>
   obtain⟨h1,h2⟩:=ih fun x hx=>h x (by simp [hx])
   obtain⟨⟨b0,b1⟩,g0⟩:=h c (by simp)
   have m0:=Int.mul_nonneg g0 b0
   have m1:c.lo*c.b≤c.lo*1000000:=Int.mul_le_mul_of_nonneg_left b1 g0
   simp only[loV,loS,List.map_cons,List.sum_cons] at h1 h2 ⊢
   omega
theorem meanD_le {most:Bool}{den:Int}{l:List Bd}(h:ChG den l):0≤meanD most den l∧meanD most den l≤1000000:=by
 have hp:=sortN_perm (ltD most) l
 have hS:∀ c∈sortN (ltD most) l,(0≤c.b∧c.b≤1000000)∧0≤c.lo∧c.lo≤c.hi∧c.hi≤3000:=fun c hc=>h.each c (hp.mem_iff.1 hc)
 have hlo:loS (sortN (ltD most) l)=loS l:=perm_sum hp
 have hlow:=h.low
 obtain⟨v0,v1⟩:=loV_lo (l:=sortN (ltD most) l) fun c hc=>⟨(hS c hc).1,(hS c hc).2.1⟩
 unfold meanD
 obtain⟨f0,f1⟩:=fillG_le (den:=den) (sortN (ltD most) l) (den-loS (sortN (ltD most) l),loV (sortN (ltD most) l)) (fun c hc=>⟨(hS c hc).1,(hS c hc).2.2.1⟩) (by simp only;omega) (by simp only;omega) (by simp only;omega)
 exact overD_le f0 h.den0 f1
theorem foldl_max_le {l:List Int}{m:Int}:∀ {x:Int},(0≤x∧x≤m)→(∀ y∈l,0≤y∧y≤m)→0≤l.foldl max x∧l.foldl max x≤m:=by
 induction l with
 | nil=>intro x h _;exact h
 | cons y l ih =>
   intro x h hl
   have:=hl y (by simp)
   exact ih (x:=max x y) (by omega) fun z hz=>hl z (by simp [hz])
theorem maxL_le {l:List Int}{m:Int}(h:l≠[]) (hl:∀ y∈l,0≤y∧y≤m):0≤maxL l∧maxL l≤m:=by
 unfold maxL
 refine foldl_max_le ?_ hl
 cases l with
 | nil=>exact absurd rfl h
 | cons x l=>exact hl x (by simp)
theorem after_le {r:Ru}{T:List (List Int)}{k st:Nat}(h:VisG r T k st) (most:Bool) {left:Nat}(hl:(left:Int)≤r.start):0≤afterD r most T k left∧afterD r most T k left≤1000000:=by
 unfold afterD
 split
 ·omega
 ·rename_i hk
  obtain⟨row,v,hv⟩:=h.tab left hl
  obtain⟨t1,t2,t3,t4⟩:=hv (by have:=h.kk;omega)
  obtain⟨e,hek⟩:=zol h.kk
  obtain⟨g1,g2,g3⟩:=endOk_le (h.ends e (zmo hek))
  have e1:((T.getD (k+1) []).getD left 0)=v:=by simp [List.getD_eq_getElem?_getD,t1,t2]
  have e2:r.ends.getD k (0,0)=e:=by simp [List.getD_eq_getElem?_getD,hek]
  rw[e1,e2]
  have q:0≤endsD most e∧endsD most e≤1000000:=by unfold endsD;split<;>omega
  exact overD_le (Int.mul_nonneg t3 (by omega)) (by omega) (Int.mul_le_mul t4 (by omega) (by omega) (by omega))
theorem nextV_le {r:Ru}{most:Bool}{T:List (List Int)}{k st left:Nat}{val:Nat→Int}{last:Bool}{b:Int}(h:VisG r T k st) (hl:(left:Int)≤r.start) (b0:0≤b) (b1:b≤499) (hv:last=false→∀ x:Nat,(x:Int)≤r.start→0≤val x∧val x≤1000000) :
 0≤nextV r most T k st val last left b∧nextV r most T k st val last left b≤1000000:=by
 obtain⟨s0,s1⟩:=score_le b0 b1
 unfold nextV
 split
 ·omega
 ·split
  ·exact after_le h most h.st40
  ·split
   ·exact after_le h most (by omega)
   ·rename_i hn
    exact hv (by simpa using hn) _ (by omega)
theorem valV_le {r:Ru}{most:Bool}{T:List (List Int)}{k st:Nat}(h:VisG r T k st) (ha:AimsG r):∀ n left:Nat,(left:Int)≤r.start→0≤valV r most T k st n left∧valV r most T k st n left≤1000000
 | 0,_,_=>by simp only[valV];omega
 | n+1, left, hl=>by
   simp only[valV]
   refine maxL_le (by simpa [meansV] using ha.ne) fun y hy=>?_
   obtain⟨a,haM,rfl⟩:=List.mem_map.1 hy
   exact meanD_le (ha.ch (fun b b0 b1=>nextV_le h hl b0 b1 fun _ x hx=>valV_le h ha n x hx) a haM)
theorem vis_ok {r:Ru}(most:Bool) {T:List (List Int)}{k st:Nat}(h:VisG r T k st) (ha:AimsG r):∀ n left:Nat,n≤100→1≤left→(left:Int)≤r.start →
 MCalls Tryz.prog 164 (visL r most T k st) (visL r most T k st) [.pt 1000 0 0,.r (.ag [i64 (left:Int),i64 ((n+1:Nat):Int)])] (.r (i64 (valV r most T k st (n+1) left)))
 | n, left, hn, hl1, hl=>by
   have h40:=h.s40
   have hl40:left≤40:=by omega
   refine value_ok r most T k st n left hn hl40 ha.ne ha.len ?_
   have e:(((n+1:Nat)):Int)=(n:Int)+1:=by omega
   rw[e]
   refine means_ok r most T k st n left _ hn hl40 ha.len (ha.ch fun b b0 b1=>nextV_le h hl b0 b1 fun _ x hx=>valV_le h ha n x hx) (fun a haM c hc=>((ha.beds a haM).2.2 c hc).1) fun b b0 b1=>?_
   refine next_ok r most T k st n left b h hl1 hl hn b0 b1 fun hn0 left' h1 h2=>?_
   match n,hn0 with
   | m+1,_=>exact vis_ok most h ha m left' (by omega) h1 h2
theorem relV_of_map {w:World}{p:Plan}{ver:Nat→Nat}:∀ {xs:List RV}{vs:List Value},AV.relV w p ver (xs.map .r) vs→RV.relV w p.R xs vs
 | [],_,h=>by simp only[List.map_nil,AV.relV] at h;simp only[RV.relV];exact h
 | x::xs, _, h=>by
   simp only[List.map_cons,AV.relV,AV.rel] at h
   obtain⟨u,us,e,h1,h2⟩:=h
   simp only[RV.relV];exact⟨u,us,e,h1,relV_of_map h2⟩
theorem mcalls_ag {P:Program}{f:FuncId}{L L':List (Nat × RowC)}{a:AV}{xs:List RV}{r:AV}(h:MCalls P f L L' [a,.r (.ag xs)] r):MCalls P f L L' [a,.ag (xs.map .r)] r :=
 ⟨h.1,fun w p vs hp h1 h2 h3 h4 h5 h6=>h.2 w p vs hp h1 h2 h3 h4 h5 (by
  simp only[AV.relV] at h6 ⊢
  obtain⟨u,us,e,g1,u2,us2,e2,g2,g3⟩:=h6
  refine⟨u,us,e,g1,u2,us2,e2,?_,g3⟩
  simp only[AV.rel] at g2
  simp only[AV.rel,RV.rel]
  obtain⟨vs,q1,q2,q3⟩:=g2
  exact⟨vs,q1,q2,relV_of_map q3⟩)⟩
theorem whole_ok {r:Ru}(most:Bool) {T:List (List Int)}{k st:Nat}(h:VisG r T k st) (ha:AimsG r) (h1:1≤st):ACalls Tryz.prog 129 [sideP r most T,i64 (k:Int),i64 (st:Int)] (i64 (valV r most T k st 3 st)):=by
 have hnew:=newVisit_ok r most T (k:Int) (st:Int)
 have hval:=vis_ok most h ha 2 st (by omega) h1 h.st40
 refine zas (rs:=[i64 (valV r most T k st 3 st)]) [.tmp 6] Tryz.func129 rfl (by kernel_rfl) Tryz.ntmps129 rfl (by simp) rfl fun C vs=>?_
 repeat apply zq
 refine zb fun K hK=>?_;simp only[go_sem];(try simp (disch:=omega) only[zI]);repeat first|intro _|refine⟨by omega,?_⟩
 apply hK;clear hK K;apply zw (zk [0,1,2]);simp only[go_sem]
 repeat apply zq
 refine awp_long ?_
 refine sops_take 4 (by kernel_rfl) fun K hK=>?_
 simp only[go_sem,List.take_succ_cons,List.take_zero,List.drop_succ_cons,List.drop_zero,List.append_eq,List.cons_append,List.nil_append];(try simp (disch:=omega) only[zI])
 refine xcall_new hnew [(12,30),(10,31)] rfl (by rfl) (by rfl) (by rfl) (by rfl) (by rfl) ?_
 simp only[go_sem,idK,backA,backC,backL,pinOf,zLk];repeat first|intro _|refine⟨by omega,?_⟩
 refine hK _ rfl ?_
 clear hK K
 refine sops_sub (sub_shutM (memoV r most T k st) 31 (by rfl) (fun e he=>by cases he)) ?_
 try simp only[go_sem]
 refine sops_end (by kernel_rfl) fun K hK=>?_
 simp only[go_sem,List.drop_succ_cons,List.drop_zero,List.append_eq,List.cons_append,List.nil_append];(try simp (disch:=omega) only[zI])
 refine xcall_mut (mcalls_ag hval) [(1000,30),(1001,31)] rfl (by simp only[go_sem,i64,ints]) (by simp only[go_sem,i64,ints]) (by rfl) (by rfl) ?_
 (try simp only[go_sem]);(try simp (disch:=omega) only[zI]);repeat first|intro _|refine⟨by omega,?_⟩
 apply hK;clear hK K;apply zw (zk [6]);simp only[go_sem];apply ze;simp only[go_sem]
def rowV (r:Ru) (most:Bool) (T:List (List Int)) (k:Nat):List Int:=(List.range (r.start.toNat+1)).map fun x:Nat=>if (x:Int)<lowestR r then 0 else valV r most T k x 3 x
def tabI (r:Ru) (most:Bool):Nat→List (List Int)
 | 0=>List.replicate r.ends.length []
 | i+1=>(tabI r most i).set (r.ends.length-1-i) (rowV r most (tabI r most i) (r.ends.length-1-i))
theorem tabI_len (r:Ru) (most:Bool):∀ i,(tabI r most i).length=r.ends.length
 | 0=>by simp [tabI]
 | i+1=>by simp only[tabI,List.length_set];exact tabI_len r most i
structure RuG (r:Ru):Prop where
 aims:AimsG r
 e1:1≤r.ends.length
 h10:r.ends.length≤10
 ends:∀ x∈r.ends,endOk x=true
 s2:2≤r.start
 s40:r.start≤40
theorem rowV_get (r:Ru) (most:Bool) (T:List (List Int)) (k left:Nat) (h:(left:Int)≤r.start):(rowV r most T k)[left]? = some (if (left:Int)<lowestR r then 0 else valV r most T k left 3 left):=by
 unfold rowV
 rw[List.getElem?_map,List.getElem?_range (by omega)]
 rfl
theorem vis_at {r:Ru}(h:RuG r) (most:Bool):∀ i,i<r.ends.length→∀ st:Nat,(st:Int)≤r.start→VisG r (tabI r most i) (r.ends.length-1-i) st
 | i, hi, st, hst=>by
   refine⟨by omega,h.h10,h.ends,hst,h.s40,fun left hl=>?_⟩
   cases i with
   | zero=>exact⟨[],0,fun hk=>by omega⟩
   | succ i =>
     refine⟨rowV r most (tabI r most i) (r.ends.length-1-i),_,fun hk=>⟨?_,rowV_get _ _ _ _ _ hl,?_⟩⟩
     ·rw[show r.ends.length-1-(i+1)+1=r.ends.length-1-i by omega]
      simp only[tabI]
      rw[List.getElem?_set_self (by rw[tabI_len];omega)]
     ·split
      ·omega
      ·have:=valV_le (most:=most) (vis_at h most i (by omega) left hl) h.aims 3 left hl
       exact this
theorem rowV_ne (r:Ru) (most:Bool) (T:List (List Int)) (k:Nat):rowV r most T k≠[]:=by simp [rowV]
theorem tabI_get (r:Ru) (most:Bool):∀ i,i≤r.ends.length→∀ j,r.ends.length-i≤j→j<r.ends.length→(tabI r most i)[j]? = some (rowV r most (tabI r most (r.ends.length-1-j)) j)
 | 0,_,j,h1,h2=>by omega
 | i+1, hi, j, h1, h2=>by
   simp only[tabI]
   by_cases e:j=r.ends.length-1-i
   ·subst e
    rw[List.getElem?_set_self (by rw[tabI_len];omega),show r.ends.length-1-(r.ends.length-1-i)=i by omega]
   ·rw[List.getElem?_set_ne (by omega)]
    exact tabI_get r most i (by omega) j (by omega) h2
theorem tab_ne (r:Ru) (most:Bool):∀ row∈tabI r most r.ends.length,row≠[]:=fun row hr=>by
 obtain⟨j,hj⟩:=List.getElem?_of_mem hr
 have hl:=(List.getElem?_eq_some_iff.1 hj).1
 rw[tabI_len] at hl
 rw[tabI_get r most _ (Nat.le_refl _) j (by omega) hl] at hj
 injection hj with hj
 rw[← hj]
 exact rowV_ne _ _ _ _
abbrev sideA (r:Ru) (most:Bool) (t:AV):List AV:=[.r (i64 r.d),.r (aimsR r.aims),.r (i64 r.start),.r (i64 r.out),.r (spansR r.ends),.r (.bo most),t]
def cellT (l:List Int):RV:=if l=[] then .ns else ints l
theorem acalls_weak {P:Program}{f:FuncId}{xs ys:List RV}{r:RV}(h:ACalls P f ys r) (hs:∀ (w:World) (R:Nat→Prop) vs,RV.relV w R xs vs→RV.relV w R ys vs):ACalls P f xs r :=
 ⟨h.1,fun w R vs h1 h2=>h.2 w R vs h1 (hs w R _ h2)⟩
theorem cellT_rel {w:World}{R:Nat→Prop}{l:List Int}{v:Value}(h:(cellT l).rel w R v):(ints l).rel w R v:=by
 unfold cellT at h
 split at h
 ·rename_i e
  subst e
  simp only[RV.rel] at h ⊢
  obtain⟨A,e⟩:=h
  exact⟨A,0,e,by simp,Nat.zero_le _,fun hn=>absurd rfl hn⟩
 ·exact h
theorem cellsT_rel {w:World}{R:Nat→Prop}:∀ (T:List (List Int)) (ad:Addr) (j:Nat),RV.relE w R 1 (T.map fun row=>[cellT row]) ad j→RV.relE w R 1 (T.map fun row=>[ints row]) ad j
 | [],_,_,h=>h
 | l::T, ad, j, h=>by
   simp only[List.map_cons,RV.relE,RV.relC] at h ⊢
   obtain⟨_,⟨⟨u,h1,h2,h3⟩,_⟩,h4⟩:=h
   exact⟨rfl,⟨⟨u,h1,h2,cellT_rel h3⟩,trivial⟩,cellsT_rel T ad (j+1) h4⟩
theorem tabT_rel {w:World}{R:Nat→Prop}{T:List (List Int)}{v:Value}(h:(RV.sl 1 (T.map fun row=>[cellT row])).rel w R v):(tabR T).rel w R v:=by
 simp only[RV.rel,List.length_map] at h ⊢
 obtain⟨A,c,h1,h2,h3,h4⟩:=h
 refine⟨A,c,h1,h2,h3,fun hn=>?_⟩
 obtain⟨ad,g1,g2,g3⟩:=h4 (by cases T<;>simp_all)
 exact⟨ad,g1,g2,cellsT_rel _ _ _ g3⟩
theorem whole_ns {r:Ru}{most:Bool}{T:List (List Int)}{x y v:RV}(h:ACalls Tryz.prog 129 [sideP r most T,x,y] v) :
 ACalls Tryz.prog 129 [.rp [i64 r.d,aimsR r.aims,i64 r.start,i64 r.out,spansR r.ends,.bo most,.sl 1 (T.map fun row=>[cellT row])],x,y] v:=acalls_weak h fun w R vs hv=>by
 simp only[RV.relV] at hv ⊢
 obtain⟨u,us,e1,hu,h3⟩:=hv
 refine⟨u,us,e1,?_,h3⟩
 simp only[RV.rel] at hu ⊢
 obtain⟨ad,e2,h1,h2⟩:=hu
 refine⟨ad,e2,h1,?_⟩
 simp only[RV.relC] at h2 ⊢
 obtain⟨c1,c2,c3,c4,c5,c6,⟨u7,c7,c8,c9⟩,_⟩:=h2
 exact⟨c1,c2,c3,c4,c5,c6,⟨u7,c7,c8,tabT_rel c9⟩,trivial⟩
def rowP (r:Ru) (most:Bool) (T:List (List Int)) (k j:Nat):List Int:=(List.range (r.start.toNat+1)).map fun x:Nat=>if (x:Int)<lowestR r then 0 else if x<j then valV r most T k x 3 x else 0
theorem rowP_zero (r:Ru) (most:Bool) (T:List (List Int)) (k:Nat):rowP r most T k (lowestR r).toNat=List.replicate (r.start.toNat+1) 0:=by
 refine List.ext_getElem (by simp [rowP]) fun x h1 h2=>?_
 simp only[rowP,List.getElem_map,List.getElem_range,List.getElem_replicate]
 split
 ·rfl
 ·rw[if_neg (by omega)]
theorem rowP_end (r:Ru) (most:Bool) (T:List (List Int)) (k:Nat):rowP r most T k (r.start.toNat+1)=rowV r most T k:=by
 refine List.ext_getElem (by simp [rowP,rowV]) fun x h1 h2=>?_
 simp only[rowP,rowV,List.getElem_map,List.getElem_range]
 simp only[rowP,List.length_map,List.length_range] at h1
 rw[if_pos h1]
theorem rowP_set (r:Ru) (most:Bool) (T:List (List Int)) (k j:Nat) (hj:lowestR r≤j) (hs:(j:Int)≤r.start):(rowP r most T k j).set j (valV r most T k j 3 j)=rowP r most T k (j+1):=by
 refine List.ext_getElem (by simp [rowP]) fun x h1 h2=>?_
 simp only[rowP,List.getElem_set,List.getElem_map,List.getElem_range]
 by_cases e:j=x
 ·subst e
  rw[if_pos rfl,if_neg (by omega),if_pos (by omega)]
 ·rw[if_neg e]
  split
  ·rfl
  ·by_cases e2:x<j
   ·rw[if_pos e2,if_pos (by omega)]
   ·rw[if_neg e2,if_neg (by omega)]
theorem rowP_len (r:Ru) (most:Bool) (T:List (List Int)) (k j:Nat):(rowP r most T k j).length=r.start.toNat+1:=by simp [rowP]
theorem fill_ok {r:Ru}(h:RuG r) (most:Bool) :
 MCalls Tryz.prog 88 [(1000,.box (sideA r most (.r .ns)))] [(1000,.box (sideA r most (.r (tabR (tabI r most r.ends.length)))))] [.pt 1000 0 0] (.tu []):=by
 have h10:=h.h10
 refine mcalls_st (n:=72) (rs:=[]) _ _ [] Tryz.func88 rfl (by kernel_rfl) Tryz.ntmps88 rfl (by simp) rfl rfl fun C=>?_
 apply zq
 refine zb fun K hK=>?_;simp only[go_sem];repeat first|intro _|refine⟨by omega,?_⟩
 apply hK;apply zw (zk [0]);simp only[go_sem]
 apply zq
 refine zb fun K hK=>?_;simp only[go_sem]
 intro _
 apply hK;apply zw (zk [0,23,24]);simp only[go_sem];apply zd
 refine zuv (n:=72) r.ends.length (fun i vs=>[(0,.pt 1000 (vs 1000) 0),(23,.r (i64 r.ends.length)),(24,.r (i64 i))])
  (fun i vs=>[(14,.arr 39 1 ((tabI r most i).map fun row=>[cellT row])),(1000,.box (sideA r most (.os 14 (vs 14) 1 0 r.ends.length)))]) (fun _=>True) 0 (zj [] ?_ ?_) (Nat.zero_le _) trivial ?_
 ·try simp only[go_sem]
 ·try simp only[go_sem]
  simp [tabI,cellT]
 ·intro i vs hi _
  apply zq
  refine zb fun K hK=>?_;simp only[go_sem];apply hK;apply zw (zk [0,23,24,25]);simp only[go_sem]
  apply zq
  apply zc rfl<;>intro hc<;>(try simp only[go_sem] at hc)
  ·have hci:=hc
   have hla:=last_ok r (by omega)
   have hlo:=dlowest_ok r
   have hk:IntKind.i64.wrap ((r.ends.length:Int)-1-i)=((r.ends.length-1-i:Nat):Int):=by rw[zI]<;>omega
   apply zx
   try simp only[go_sem]
   apply zq
   apply zd
   apply zq
   refine zb fun K hK=>?_;simp only[go_sem];apply hK;apply zw (zk [0,2,23,24]);simp only[go_sem]
   apply zq
   refine zb fun K hK=>?_;simp only[go_sem,hk]
   refine zh (hla) rfl (by simp only[go_sem,i64,ints,hk]) (by simp only[go_sem,i64,ints,hk]) ?_
   (try simp only[go_sem,hk]);apply hK;apply zw (zk [0,3,23,24]);simp only[go_sem]
   have hs2:=h.s2
   have hs40:=h.s40
   have hw1:IntKind.i64.wrap (r.start+1)=r.start+1:=by rw[zI]<;>omega
   apply zq
   refine zb fun K hK=>?_;simp only[go_sem,hw1]
   refine⟨by omega,?_⟩
   apply hK;apply zw (zk [0,3,4,23,24]);simp only[go_sem]
   repeat apply zq
   refine zb fun K hK=>?_;simp only[go_sem]
   refine zh (hlo) rfl (by simp only[go_sem,i64,ints]) (by simp only[go_sem,i64,ints]) ?_
   (try simp only[go_sem]);apply hK;apply zw (zk [0,3,4,5,23,24]);simp only[go_sem];apply zd
   generalize hT:tabI r most i=T
   have hTl:T.length=r.ends.length:=by rw[← hT];exact tabI_len r most i
   have hvis:∀ st:Nat,(st:Int)≤r.start→VisG r T (r.ends.length-1-i) st:=fun st hst=>by rw[← hT];exact vis_at h most i hci st hst
   generalize hkk:r.ends.length-1-i=k at *
   have hst1:(r.start+1).toNat=r.start.toNat+1:=by omega
   have hlow:lowestR r=1∨lowestR r=2:=by unfold lowestR;split<;>simp
   refine zuv (n:=72) (r.start.toNat+1) (fun j vs=>[(0,.pt 1000 (vs 1000) 0),(3,.r (i64 (k:Int))),(4,.os 41 (vs 41) 1 0 (r.start.toNat+1)),(5,.r (i64 (j:Int))),(23,.r (i64 r.ends.length)),(24,.r (i64 i))])
    (fun j vs=>[(14,.arr 39 1 (T.map fun row=>[cellT row])),(41,.arr 3 1 ((rowP r most T k j).map fun v=>[i64 v])),(1000,.box (sideA r most (.os 14 (vs 14) 1 0 r.ends.length)))]) (fun j=>lowestR r≤j) (lowestR r).toNat (zj [] ?_ ?_) (by omega) (by omega) ?_
   ·simp only[go_sem,hk,hw1,hst1]
    omega
   ·simp only[go_sem,hw1,hst1];rw[rowP_zero]
    simp only[List.map_replicate,List.replicate_succ,List.map_cons]
   ·intro j vs hj hjl
    have hpl:=rowP_len r most T k j
    repeat apply zq
    refine zb fun K hK=>?_;simp only[go_sem];apply hK;apply zw (zk [0,3,4,5,23,24,54]);simp only[go_sem]
    apply zc rfl<;>intro hc<;>(try simp only[go_sem] at hc)
    ·have hcj:(j:Int)≤r.start:=by omega
     obtain⟨w0,hw0⟩:=zol (show j<(rowP r most T k j).length by rw[hpl];omega)
     have htk:List.take r.ends.length (T.map fun row=>[cellT row])=T.map fun row=>[cellT row]:=List.take_of_length_le (by simp [hTl])
     have hw:=whole_ns (whole_ok most (hvis j hcj) h.aims (by omega))
     apply zx
     try simp only[go_sem]
     apply zq
     apply zd;refine zb fun K hK=>?_;simp only[go_sem,hTl,htk,hpl]
     refine zh (hw) rfl (by simp only[go_sem,i64,ints,hTl,htk,hpl]) (by simp only[go_sem,i64,ints,hTl,htk,hpl]) ?_
     (try simp only[go_sem,hTl,htk,hpl])
     repeat refine⟨by omega,?_⟩
     apply hK;apply zw (zk [0,3,4,5,23,24]);simp only[go_sem];refine zb fun K hK=>?_;simp only[go_sem];(try simp (disch:=omega) only[zI]);apply hK
     try simp only[go_sem]
     refine⟨by omega,by omega,zj [] ?_ ?_⟩
     ·try simp only[go_sem]
     ·simp only[go_sem,hw0];rw[← rowP_set r most T k j hjl hcj,List.map_set]
    ·have hje:j=r.start.toNat+1:=by omega
     subst hje
     rw[rowP_end] at hpl ⊢
     apply zf;simp only[go_sem];refine zw (sub_frz (ty:=3) (sz:=1) (off:=0) (m:=r.start.toNat+1) (es:=(rowV r most T k).map fun v=>[i64 v]) 4 41 (by omega) (by try simp only[go_sem]) (by try simp only[go_sem]) (by simp [hpl])) ?_
     have e2:(((rowV r most T k).map fun v=>[i64 v]).drop 0).take (r.start.toNat+1)=(rowV r most T k).map fun v=>[i64 v]:=by
      rw[List.drop_zero,List.take_of_length_le (by simp [hpl])]
     rw[e2]
     apply zw (zk [0,3,4,23,24]);simp only[go_sem]
     have hkT:k<T.length:=by omega
     have hkr:k<r.ends.length:=by omega
     obtain⟨w0,hw0⟩:=zol hkT
     refine zb fun K hK=>?_;simp only[go_sem,hkT,hkr,hw0];apply hK;apply zw (zk [0,23,24]);simp only[go_sem];refine zb fun K hK=>?_;simp only[go_sem];(try simp (disch:=omega) only[zI]);apply hK
     try simp only[go_sem]
     refine⟨by omega,zj [] ?_ ?_⟩
     ·try simp only[go_sem]
     ·try simp only[go_sem]
      have e3:tabI r most (i+1)=T.set k (rowV r most T k):=by simp only[tabI,hT,hkk]
      rw[e3,List.map_set]
      simp only[cellT,if_neg (rowV_ne r most T k)]
      done
  ·have hil:i=r.ends.length:=by omega
   subst hil
   apply zf;simp only[go_sem]
   refine⟨by rw[tabI_len];exact Nat.le_refl _,?_⟩
   rw[List.take_of_length_le (by rw[List.length_map,tabI_len];exact Nat.le_refl _)]
   have:(tabI r most r.ends.length).map (fun row=>[cellT row])=(tabI r most r.ends.length).map fun row=>[ints row] :=
    List.map_congr_left fun row hr=>by rw[cellT,if_neg (tab_ne r most row hr)]
   rw[this]
mutual
theorem rv_le:∀ x:RV,RV.le x x
 | .sl _ _=>by simp only[RV.le];exact .inl trivial
 | .ag xs=>by simp only[RV.le];exact rv_leL xs
 | .fn _ xs=>by simp only[RV.le];exact⟨trivial,rv_leL xs⟩
 | .rp xs=>by simp only[RV.le];exact rv_leL xs
 | .un | .bo _ | .it _ _ | .ns | .np | .nf | .tu _ | .st _ | .ud | .yl _ | .sx _ _ | .vl _ | .bf _ _=>by simp only[RV.le]
theorem rv_leL:∀ xs:List RV,RV.leL xs xs
 | []=>by simp only[RV.leL]
 | x::xs=>by simp only[RV.leL];exact⟨rv_le x,rv_leL xs⟩
end
theorem bedOk_pos {b:Int}(h:bedOk b=true):0<scoreOf b:=by
 simp only[bedOk,Bool.or_eq_true,Bool.and_eq_true,decide_eq_true_eq] at h
 unfold scoreOf
 refine Int.mul_pos (by omega) (by omega)
theorem seq_beds:∀ {p:Option Int}{l:List Bd},seqOk p l=true→∀ x∈l,x.b=0∨bedOk x.b=true
 | _,[],_,x,hx=>by cases hx
 | p, y::l, h, x, hx=>by
   simp only[seqOk,Bool.and_eq_true,Bool.or_eq_true,decide_eq_true_eq] at h
   rcases List.mem_cons.1 hx with rfl|hx
   ·exact h.1.1
   ·exact seq_beds h.2 x hx
theorem bedOk_le {b:Int}(h:bedOk b=true):0≤b∧b≤499:=by
 simp only[bedOk,Bool.or_eq_true,Bool.and_eq_true,decide_eq_true_eq] at h
 omega
theorem ruG_of {r:Ru}(h:ruE r=0):RuG r∧1≤r.ends.length∧0≤r.out∧r.out≤2:=by
 unfold ruE at h
 split at h
 ·rename_i hc;exact absurd h hc
 ·rename_i hc
  have hc:checkV r.d r.aims=0:=by simpa using hc
  split at h
  ·rename_i hb
   simp only[Bool.and_eq_true,decide_eq_true_eq] at hb
   obtain⟨⟨⟨⟨⟨⟨⟨s2,s40⟩,o0⟩,o2⟩,e1⟩,e10⟩,he⟩,hl⟩:=hb
   unfold checkV at hc
   split at hc
   ·cases hc
   ·rename_i g1
    split at hc
    ·cases hc
    ·rename_i g2
     split at hc
     ·rename_i g3
      simp only[Bool.or_eq_true,decide_eq_true_eq,List.any_eq_true,not_or,not_exists,not_and] at g1
      simp only[Bool.or_eq_true,Bool.not_eq_true',Bool.and_eq_false_iff,decide_eq_false_iff_not,not_or,Decidable.not_not,List.isEmpty_iff] at g2
      refine⟨⟨⟨g2.1,by omega,by omega,by omega,fun a ha=>?_⟩,e1,e10,fun x hx=>List.all_eq_true.1 he x hx,s2,s40⟩,e1,o0,o2⟩
      have ha1:=List.all_eq_true.1 g3 a ha
      have ha2:=g1.2 a ha
      simp only[aimOk,Bool.and_eq_true,decide_eq_true_eq] at ha1
      obtain⟨⟨⟨⟨q1,q2⟩,q3⟩,q4⟩,q5⟩:=ha1
      refine⟨by omega,q4,fun c hc=>?_⟩
      have hb:=seq_beds q2 c hc
      have hch:=List.all_eq_true.1 q3 c hc
      simp only[Bool.and_eq_true,decide_eq_true_eq] at hch
      refine⟨?_,hch.1.1,hch.1.2,by omega⟩
      rcases hb with hb|hb
      ·omega
      ·exact bedOk_le hb
     ·cases hc
  ·cases h
def tabF (r:Ru) (most:Bool):List (List Int):=tabI r most r.ends.length
abbrev sidesV (r:Ru):RV:=if ruE r=0 then .ag [sideP r false (tabF r false),sideP r true (tabF r true)] else .ag [.np,.np]
theorem sides_ok (r:Ru) (hw:WfR r):ACalls Tryz.prog 60 [ruV r] (.tu [sidesV r,i64 (ruE r)]):=by
 have hch:=dcheck_ok r hw
 refine zas (rs:=[sidesV r,i64 (ruE r)]) [.cell 2 117,.tmp 3] Tryz.func60 rfl (by kernel_rfl) Tryz.ntmps60 rfl (by simp) rfl fun C vs=>?_
 apply zq
 refine zb fun K hK=>?_;simp only[go_sem];apply hK;refine zw (zfP 1 1 (ruC r) (by omega) rfl rfl) ?_;apply zw (zk [1,2]);simp only[go_sem]
 repeat apply zq
 refine zb fun K hK=>?_;simp only[go_sem]
 refine zh (hch) rfl (by simp only[go_sem,i64,ints]) (by simp only[go_sem,i64,ints]) ?_
 (try simp only[go_sem]);apply hK;apply zw (zk [1,2,4]);simp only[go_sem]
 by_cases h0:ruE r=0
 rotate_left
 ·have c:(ruE r != 0)=true:=by simpa using h0
  apply zq
  refine zb fun K hK=>?_;simp only[go_sem,c];apply hK;apply zw (zk [1,2,4,9]);simp only[go_sem]
  apply zc rfl<;>intro hc<;>(try simp only[go_sem] at hc)
  apply zq
  refine zb fun K hK=>?_;simp only[go_sem];apply hK;apply zw (zk [2,3]);simp only[go_sem];apply ze;simp only[go_sem];simp only[sidesV,if_neg h0];exact rv_le _
 obtain⟨hG,_⟩:=ruG_of h0
 rw[h0]
 apply zq
 refine zb fun K hK=>?_;simp only[go_sem,bne_self_eq_false];apply hK;apply zw (zk [1,2,4,9]);simp only[go_sem]
 apply zc rfl<;>intro hc<;>(try simp only[go_sem] at hc)
 apply zx
 try simp only[go_sem]
 repeat apply zq
 refine zb fun K hK=>?_;simp only[go_sem];apply hK;apply zw (zk [1,2,12]);simp only[go_sem];apply zd
 refine zuv (n:=29) 2 (fun i vs=>[(1,.r (.rp (ruC r))),(2,.pt 2 (vs 2) 0),(12,.r (i64 (i:Int)))])
  (fun i vs=>[(2,.box [if 0<i then .r (sideP r false (tabF r false)) else .r .np,if 1<i then .r (sideP r true (tabF r true)) else .r .np])]) (fun _=>True) 0 (zj [] ?_ ?_) (Nat.zero_le _) trivial ?_
 ·try simp only[go_sem]
 ·try simp only[go_sem]
 ·intro i vs hi _
  have hf0:=fill_ok hG false
  have hf1:=fill_ok hG true
  have e01:((0:Int) == 1)=false:=rfl
  have e11:((1:Int) == 1)=true:=rfl
  have h012:i=0∨i=1∨i=2:=by omega
  rcases h012 with rfl|rfl|rfl
  ·apply zq
   refine zb fun K hK=>?_;simp only[go_sem];apply hK;apply zw (zk [1,2,12,13]);simp only[go_sem]
   apply zq
   apply zc rfl<;>intro hc<;>(try simp only[go_sem] at hc)
   apply zx
   try simp only[go_sem]
   apply zq
   apply zd
   apply zq
   refine zb fun K hK=>?_;simp only[go_sem];apply hK;apply zw (zk [1,2,5,12]);simp only[go_sem]
   apply zq
   refine zb fun K hK=>?_;simp only[go_sem,e01,e11];apply hK;apply zw (zk [1,2,5,12]);simp only[go_sem];refine zb fun K hK=>?_;simp only[go_sem]
   refine xcall_mut (hf0) [(1000,21)] rfl (by simp only[go_sem,i64,ints]) (by simp only[go_sem,i64,ints]) (by rfl) (by rfl) ?_
   (try simp only[go_sem]);apply hK;refine zw (sub_frzPB 2 0 21 (sideC r false (tabF r false)) (by omega) (by omega) rfl rfl rfl) ?_;apply zw (zk [1,2,12]);simp only[go_sem];refine zb fun K hK=>?_;simp only[go_sem];(try simp (disch:=omega) only[zI]);apply hK
   try simp only[go_sem]
   refine zj [] ?_ ?_
   ·try simp only[go_sem]
   ·try simp only[go_sem]
  ·apply zq
   refine zb fun K hK=>?_;simp only[go_sem];apply hK;apply zw (zk [1,2,12,13]);simp only[go_sem]
   apply zq
   apply zc rfl<;>intro hc<;>(try simp only[go_sem] at hc)
   apply zx
   try simp only[go_sem]
   apply zq
   apply zd
   apply zq
   refine zb fun K hK=>?_;simp only[go_sem];apply hK;apply zw (zk [1,2,5,12]);simp only[go_sem]
   apply zq
   refine zb fun K hK=>?_;simp only[go_sem,e01,e11];apply hK;apply zw (zk [1,2,5,12]);simp only[go_sem];refine zb fun K hK=>?_;simp only[go_sem]
   refine xcall_mut (hf1) [(1000,21)] rfl (by simp only[go_sem,i64,ints]) (by simp only[go_sem,i64,ints]) (by rfl) (by rfl) ?_
   (try simp only[go_sem]);apply hK;refine zw (sub_frzPB 2 1 21 (sideC r true (tabF r true)) (by omega) (by omega) rfl rfl rfl) ?_;apply zw (zk [1,2,12]);simp only[go_sem];refine zb fun K hK=>?_;simp only[go_sem];(try simp (disch:=omega) only[zI]);apply hK
   try simp only[go_sem]
   refine zj [] ?_ ?_
   ·try simp only[go_sem]
   ·try simp only[go_sem]
  ·apply zq
   refine zb fun K hK=>?_;simp only[go_sem];apply hK;apply zw (zk [1,2,12,13]);simp only[go_sem]
   apply zq
   apply zc rfl<;>intro hc<;>(try simp only[go_sem] at hc)
   apply zf;simp only[go_sem]
   apply zq
   refine zb fun K hK=>?_;simp only[go_sem];apply hK;apply zw (zk [2,3]);simp only[go_sem];apply ze;simp only[go_sem];simp only[sidesV,if_pos h0];exact rv_le _
abbrev tabsV (r:Ru) (most:Bool):RV:=if ruE r=0 then tabR (tabF r most) else .ns
theorem table_ok (r:Ru) (hw:WfR r):ACalls Tryz.prog 24 [ruV r] (.tu [tabsV r false,tabsV r true,i64 (ruE r)]):=by
 have hs:=sides_ok r hw
 refine zas (rs:=[tabsV r false,tabsV r true,i64 (ruE r)]) [.tmp 2,.tmp 3,.tmp 4] Tryz.func24 rfl (by kernel_rfl) Tryz.ntmps24 rfl (by simp) rfl fun C vs=>?_
 apply zq
 refine zb fun K hK=>?_;simp only[go_sem];apply hK;refine zw (zfP 1 1 (ruC r) (by omega) rfl rfl) ?_;apply zw (zk [1]);simp only[go_sem]
 by_cases h0:ruE r=0
 ·have e1:sidesV r = .ag [sideP r false (tabF r false),sideP r true (tabF r true)]:=if_pos h0
  rw[e1,h0] at hs
  apply zq
  refine zb fun K hK=>?_;simp only[go_sem]
  refine zh (hs) rfl (by simp only[go_sem,i64,ints]) (by simp only[go_sem,i64,ints]) ?_
  (try simp only[go_sem]);apply hK;apply zw (zk [4,5]);simp only[go_sem]
  repeat apply zq
  refine zb fun K hK=>?_;simp only[go_sem,bne_self_eq_false];apply hK;apply zw (zk [4,5,12]);simp only[go_sem]
  apply zc rfl<;>intro hc<;>(try simp only[go_sem] at hc)
  apply zx
  try simp only[go_sem]
  apply zq
  refine zg follows (by decide +kernel) (by kernel_rfl) fun K hK=>?_;simp only[go_sem];apply hK;apply zw (zk [2,3,4]);simp only[go_sem];apply ze;simp only[go_sem];simp only[tabsV,if_pos h0];exact⟨rv_le _,rv_le _,h0.symm⟩
 ·have e1:sidesV r = .ag [.np,.np]:=if_neg h0
  have c:(ruE r != 0)=true:=by simpa using h0
  rw[e1] at hs
  apply zq
  refine zb fun K hK=>?_;simp only[go_sem]
  refine zh (hs) rfl (by simp only[go_sem,i64,ints]) (by simp only[go_sem,i64,ints]) ?_
  (try simp only[go_sem]);apply hK;apply zw (zk [4,5]);simp only[go_sem]
  repeat apply zq
  refine zb fun K hK=>?_;simp only[go_sem,c];apply hK;apply zw (zk [4,5,12]);simp only[go_sem]
  apply zc rfl<;>intro hc<;>(try simp only[go_sem] at hc)
  apply zq
  refine zb fun K hK=>?_;simp only[go_sem];apply hK;apply zw (zk [2,3,4]);simp only[go_sem];apply ze;simp only[go_sem];simp only[tabsV,if_neg h0];exact⟨rv_le _,rv_le _⟩
structure RefH (r:Ru):Prop where
 out:r.out=0∨r.out=1∨r.out=2
 beds:∀ a∈r.aims,∀ c∈a.beds,c.b=0∨0<scoreOf c.b
 hi:∀ a∈r.aims,r.d≤hiS a.beds
theorem refH_of {r:Ru}(h:ruE r=0):RefH r:=by
 have h0:=h
 unfold ruE at h
 split at h
 ·rename_i hc;exact absurd h hc
 ·rename_i hc
  have hc:checkV r.d r.aims=0:=by simpa using hc
  obtain⟨_,_,o0,o2⟩:=ruG_of h0
  unfold checkV at hc
  split at hc
  ·cases hc
  ·split at hc
   ·cases hc
   ·split at hc
    ·rename_i g3
     refine⟨by omega,fun a ha c hc=>?_,fun a ha=>?_⟩
     ·have ha1:=List.all_eq_true.1 g3 a ha
      simp only[aimOk,Bool.and_eq_true,decide_eq_true_eq] at ha1
      obtain⟨⟨⟨⟨q1,q2⟩,q3⟩,q4⟩,q5⟩:=ha1
      rcases seq_beds q2 c hc with hb|hb
      ·exact .inl hb
      ·exact .inr (bedOk_pos hb)
     ·have ha1:=List.all_eq_true.1 g3 a ha
      simp only[aimOk,Bool.and_eq_true,decide_eq_true_eq] at ha1
      exact ha1.2
    ·cases hc
theorem hiS_chW (f:Int→Int) (l:List Bd):hiS (chW f l)=hiS l:=by simp [hiS,chW,Function.comp_def]
structure Pos where
 round:Int
 start:Int
 left:Int
 darts:Int
abbrev Pv:=Int × Int
def fillP:List Pv→Int × Int→Int × Int
 | [],x=>x
 | c::cs,x=>fillP cs (x.1-min x.1 c.1,x.2+min x.1 c.1*c.2)
theorem fillG_P:∀ (l:List Bd) (x:Int × Int),fillG l x=fillP (l.map fun c=>(c.hi-c.lo,c.b)) x
 | [],_=>rfl
 | c::l,x=>by simp only[fillG,List.map_cons,fillP];exact fillG_P l _
def leD (most:Bool) (x y:Int):Prop:=if most then y≤x else x≤y
theorem leD_trans {most:Bool}{x y z:Int}(h:leD most x y) (g:leD most y z):leD most x z:=by
 unfold leD at *;split at h<;>simp_all<;>omega
abbrev SortP (most:Bool) (S:List Pv):Prop:=S.Pairwise fun a b=>leD most a.2 b.2
theorem fillP_done:∀ {S:List Pv}{y:Int},(∀ a∈S,0≤a.1)→fillP S (0,y)=(0,y)
 | [],_,_=>rfl
 | c::S, y, h=>by
   have h0:=h c (by simp)
   have e:min 0 c.1=0:=by omega
   simp only[fillP,e]
   simpa using fillP_done fun a ha=>h a (by simp [ha])
theorem insB_pw {most:Bool}{x:Bd}:∀ {R:List Bd},R.Pairwise (fun y z=>leD most z.b y.b)→(insB (ltD most) x R).Pairwise (fun y z=>leD most z.b y.b)
 | [],_=>by simp [insB]
 | y::R, h=>by
   obtain⟨h1,h2⟩:=List.pairwise_cons.1 h
   unfold insB
   split
   ·rename_i hlt
    refine List.pairwise_cons.2 ⟨fun z hz=>?_,insB_pw h2⟩
    rcases (mem_insB _ _ _ _).1 hz with rfl|hz
    ·unfold ltD at hlt;unfold leD;cases most<;>simp at hlt ⊢ <;> omega
    ·exact h1 z hz
   ·rename_i hlt
    have hyx:leD most y.b x.b:=by unfold ltD at hlt;unfold leD;cases most<;>simp at hlt ⊢ <;> omega
    refine List.pairwise_cons.2 ⟨fun z hz=>?_,h⟩
    rcases List.mem_cons.1 hz with rfl|hz
    ·exact hyx
    ·exact leD_trans (h1 z hz) hyx
theorem sortB_pw {most:Bool}:∀ {l R:List Bd},R.Pairwise (fun y z=>leD most z.b y.b)→(sortB (ltD most) l R).Pairwise (fun y z=>leD most z.b y.b)
 | [],_,h=>h
 | x::l,R,h=>by rw[sortB];exact sortB_pw (insB_pw h)
theorem sortN_pw {most:Bool}(l:List Bd):(sortN (ltD most) l).Pairwise (fun y z=>leD most y.b z.b):=by
 unfold sortN
 rw[List.pairwise_reverse]
 exact sortB_pw List.Pairwise.nil
structure RefI (most:Bool) (V:List Int) (target:Int) (M:List Int) (left sum:Int):Prop where
 len:M.length=V.length
 l19:V.length≤19
 vals:∀ v∈V,0≤v∧v≤1000000
 mores:∀ m∈M,0≤m∧m≤3000
 ok:GOk (left,sum)
 enough:left≤M.sum
 same:∃ S:List Pv,S.Perm (M.zip V)∧SortP most S∧(fillP S (left,sum)).2=target
theorem RefI.done {most:Bool}{V M:List Int}{target left sum:Int}(h:RefI most V target M left sum) (h0:¬ 0<left):sum=target:=by
 obtain⟨S,h1,_,h3⟩:=h.same
 have:=h.ok.1.1
 have e:left=0:=by simp only at this;omega
 rw[e,fillP_done] at h3
 ·exact h3
 ·intro a ha
  have:=h1.mem_iff.1 ha
  exact (h.mores a.1 (List.of_mem_zip this).1).1
theorem RefI.start {most:Bool}{den:Int}{l:List Bd}(h:ChG den l) (hh:den≤hiS l) :
 RefI most (l.map (·.b)) (fillG (sortN (ltD most) l) (den-loS (sortN (ltD most) l),loV (sortN (ltD most) l))).2 (l.map fun c=>c.hi-c.lo) (den-loS l) (loV l):=by
 have hp:=sortN_perm (ltD most) l
 have e1:loS (sortN (ltD most) l)=loS l:=perm_sum hp
 have e2:loV (sortN (ltD most) l)=loV l:=perm_sum hp
 have hl:=h.low
 have hd:=h.den1
 have hv:=loV_le h.each
 have hlen:=h.len
 have hlo0:0≤loS l:=by
  have:∀ m:List Bd,(∀ c∈m,0≤c.lo)→0≤loS m:=by
   intro m
   induction m with
   | nil=>intro _;simp [loS]
   | cons c m ih=>intro hc;have h1:=hc c (by simp);have h2:=ih fun x hx=>hc x (by simp [hx]);simp only[loS,List.map_cons,List.sum_cons] at h2 ⊢;omega
  exact this l fun c hc=>(h.each c hc).2.1
 refine⟨by simp,by simpa using hlen,?_,?_,?_,?_,?_⟩
 ·intro v hv
  obtain⟨c,hc,rfl⟩:=List.mem_map.1 hv
  exact (h.each c hc).1
 ·intro m hm
  obtain⟨c,hc,rfl⟩:=List.mem_map.1 hm
  obtain⟨_,g0,g1,g2⟩:=h.each c hc
  omega
 ·refine⟨⟨by simp only;omega,by simp only;omega⟩,by simp only;omega,by simp only;omega⟩
 ·have:(l.map fun c=>c.hi-c.lo).sum=hiS l-loS l:=by
   clear hh hp e1 e2 hl hv hlen hlo0 h
   induction l with
   | nil=>simp [hiS,loS]
   | cons c l ih=>simp only[hiS,loS,List.map_cons,List.sum_cons] at ih ⊢;omega
  omega
 ·refine⟨(sortN (ltD most) l).map fun c=>(c.hi-c.lo,c.b),?_,?_,?_⟩
  ·have:(l.map fun c=>c.hi-c.lo).zip (l.map (·.b))=l.map fun c=>(c.hi-c.lo,c.b):=by
    rw[List.zip_map',]
   rw[this]
   exact hp.map _
  ·exact List.Pairwise.map _ (fun a b h=>h) (sortN_pw l)
  ·rw[← fillG_P,e1,e2]
def dotP:List Pv→List Int→Int
 | c::S,y::ys=>y*c.2+dotP S ys
 | _,_=>0
inductive FeasP:List Pv→List Int→Prop where
 | nil:FeasP [] []
 | cons {c:Pv}{S:List Pv}{y:Int}{ys:List Int}(h:0≤y∧y≤c.1) (t:FeasP S ys):FeasP (c::S) (y::ys)
theorem feas_sum {S:List Pv}{ys:List Int}(h:FeasP S ys):0≤ys.sum:=by
 induction h with
 | nil=>simp
 | cons h t ih=>simp only[List.sum_cons];omega
theorem feas_less {v:Int}{S:List Pv}{ys:List Int}(h:FeasP S ys):∀ δ:Int,0≤δ→δ≤ys.sum→(∀ c∈S,v≤c.2)→∃ zs,FeasP S zs∧zs.sum=ys.sum-δ∧dotP S zs+δ*v≤dotP S ys:=by
 induction h with
 | nil =>
   intro δ h0 h1 _
   simp only[List.sum_nil] at h1
   have:δ=0:=by omega
   subst this
   exact⟨[],.nil,by simp,by simp [dotP]⟩
 | @cons c S y ys h t ih =>
   intro δ h0 h1 hv
   simp only[List.sum_cons] at h1
   have hs:=feas_sum t
   obtain⟨zs,g1,g2,g3⟩:=ih (δ-min δ y) (by omega) (by omega) fun x hx=>hv x (by simp [hx])
   have hc:=hv c (by simp)
   have e0:0≤min δ y:=by omega
   have p:=Int.mul_nonneg e0 (show 0≤c.2-v by omega)
   refine⟨(y-min δ y)::zs,.cons ⟨by omega,by omega⟩ g1,by simp only[List.sum_cons];omega,?_⟩
   simp only[dotP]
   generalize min δ y=e at *
   rw[Int.mul_sub] at p
   rw[Int.sub_mul] at g3
   rw[Int.sub_mul]
   omega
theorem fill_min:∀ {S:List Pv}{ys:List Int},FeasP S ys→∀ (left s:Int),S.Pairwise (fun a b=>a.2≤b.2)→ys.sum=left→(fillP S (left,s)).2≤s+dotP S ys
 | [],_,h,left,s,_,_=>by cases h;simp [fillP,dotP]
 | c::S, _, h, left, s, hp, hsum=>by
   cases h with
   | @cons _ _ y ys h t =>
     obtain⟨hp1,hp2⟩:=List.pairwise_cons.1 hp
     simp only[List.sum_cons] at hsum
     have hs:=feas_sum t
     obtain⟨zs,g1,g2,g3⟩:=feas_less t (min left c.1-y) (by omega) (by omega) hp1
     have:=fill_min g1 (left-min left c.1) (s+min left c.1*c.2) hp2 (by omega)
     simp only[fillP,dotP]
     rw[Int.sub_mul] at g3
     omega
def negP (S:List Pv):List Pv:=S.map fun c=>(c.1,-c.2)
theorem fill_neg:∀ (S:List Pv) (x y:Int),(fillP (negP S) (x,-y)).2 = -(fillP S (x,y)).2
 | [],_,_=>rfl
 | c::S, x, y=>by
   have:=fill_neg S (x-min x c.1) (y+min x c.1*c.2)
   simp only[negP,List.map_cons,fillP] at this ⊢
   rw[← this]
   congr 3
   rw[Int.mul_neg];omega
theorem dot_neg:∀ (S:List Pv) (ys:List Int),dotP (negP S) ys = -dotP S ys
 | [],_=>by simp [negP,dotP]
 | _::_,[]=>by simp [negP,dotP]
 | c::S, y::ys=>by
   have:=dot_neg S ys
   simp only[negP,List.map_cons,dotP] at this ⊢
   rw[this,Int.mul_neg];omega
theorem feas_neg:∀ {S:List Pv}{ys:List Int},FeasP S ys→FeasP (negP S) ys
 | _,_,.nil=>.nil
 | _,_,.cons h t=>.cons h (feas_neg t)
theorem fill_max {S:List Pv}{ys:List Int}(h:FeasP S ys) (left s:Int) (hp:S.Pairwise (fun a b=>b.2≤a.2)) (hs:ys.sum=left):s+dotP S ys≤(fillP S (left,s)).2:=by
 have:=fill_min (feas_neg h) left (-s) (by unfold negP;exact List.Pairwise.map _ (fun a b h=>by simp only;omega) hp) hs
 rw[fill_neg,dot_neg] at this
 omega
theorem greedy_amt {m v:Nat→Int}:∀ {I:List Nat}{left s:Int},I.Nodup→(∀ i∈I,0≤m i)→0≤left→left≤(I.map m).sum →
 ∃ x:Nat→Int,(∀ i∈I,0≤x i∧x i≤m i)∧(I.map x).sum=left∧(fillP (I.map fun i=>(m i,v i)) (left,s)).2=s+(I.map fun i=>x i*v i).sum
 | [], left, s, _, _, h0, h1=>by
   simp only[List.map_nil,List.sum_nil] at h1
   exact⟨fun _=>0,by simp,by simp;omega,by simp [fillP]⟩
 | i::I, left, s, hn, hm, h0, h1=>by
   obtain⟨hi,hn2⟩:=List.nodup_cons.1 hn
   have hmi:=hm i (by simp)
   simp only[List.map_cons,List.sum_cons] at h1
   have hms:0≤(I.map m).sum:=by
    have:∀ J:List Nat,(∀ j∈J,0≤m j)→0≤(J.map m).sum:=by
     intro J
     induction J with
     | nil=>intro _;simp
     | cons j J ih=>intro hJ;have h1:=hJ j (by simp);have h2:=ih fun y hy=>hJ y (by simp [hy]);simp only[List.map_cons,List.sum_cons];omega
    exact this I fun j hj=>hm j (by simp [hj])
   obtain⟨x,g1,g2,g3⟩:=greedy_amt (v:=v) (left:=left-min left (m i)) (s:=s+min left (m i)*v i) hn2 (fun j hj=>hm j (by simp [hj])) (by omega) (by omega)
   have hne:∀ j∈I,j≠i:=fun j hj e=>hi (by rw[← e];exact hj)
   refine⟨fun j=>if j=i then min left (m i) else x j,fun j hj=>?_,?_,?_⟩
   ·rcases List.mem_cons.1 hj with rfl|hj
    ·simp only[if_true];omega
    ·simp only[if_neg (hne j hj)];exact g1 j hj
   ·simp only[List.map_cons,if_true,List.sum_cons]
    rw[List.map_congr_left (g:=x) fun j hj=>by simp only[if_neg (hne j hj)],g2]
    omega
   ·simp only[List.map_cons,fillP,if_true,List.sum_cons]
    rw[g3,List.map_congr_left (f:=fun j=>(if j=i then min left (m i) else x j)*v j) (g:=fun j=>x j*v j) fun j hj=>by simp only[if_neg (hne j hj)]]
    omega
theorem feas_map {m v x:Nat→Int}:∀ {I:List Nat},(∀ i∈I,0≤x i∧x i≤m i)→FeasP (I.map fun i=>(m i,v i)) (I.map x)
 | [],_=>.nil
 | i::I,h=>.cons (h i (by simp)) (feas_map fun j hj=>h j (by simp [hj]))
theorem dot_map {m v x:Nat→Int}:∀ I:List Nat,dotP (I.map fun i=>(m i,v i)) (I.map x)=(I.map fun i=>x i*v i).sum
 | []=>rfl
 | i::I=>by simp only[List.map_cons,dotP,List.sum_cons,dot_map I]
def insN (lt:Nat→Nat→Bool) (x:Nat):List Nat→List Nat
 | []=>[x]
 | y::ys=>if lt x y then y::insN lt x ys else x::y::ys
def sortBN (lt:Nat→Nat→Bool):List Nat→List Nat→List Nat
 | [],R=>R
 | x::xs,R=>sortBN lt xs (insN lt x R)
def sortI (lt:Nat→Nat→Bool) (l:List Nat):List Nat:=(sortBN lt l []).reverse
theorem insN_map (f:Nat→Bd) (lt:Bd→Bd→Bool) (x:Nat):∀ R:List Nat,(insN (fun i j=>lt (f i) (f j)) x R).map f=insB lt (f x) (R.map f)
 | []=>rfl
 | y::R=>by
   have:=insN_map f lt x R
   simp only[insN,List.map_cons,insB]
   split
   ·rw[List.map_cons,this]
   ·rfl
theorem sortBN_map (f:Nat→Bd) (lt:Bd→Bd→Bool):∀ l R:List Nat,(sortBN (fun i j=>lt (f i) (f j)) l R).map f=sortB lt (l.map f) (R.map f)
 | [],_=>rfl
 | x::l,R=>by simp only[sortBN,List.map_cons,sortB];rw[sortBN_map f lt l,insN_map]
theorem sortI_map (f:Nat→Bd) (lt:Bd→Bd→Bool) (l:List Nat):(sortI (fun i j=>lt (f i) (f j)) l).map f=sortN lt (l.map f):=by
 unfold sortI sortN
 rw[List.map_reverse,sortBN_map];rfl
theorem insN_perm (lt:Nat→Nat→Bool) (x:Nat):∀ R,(insN lt x R).Perm (x::R)
 | []=>List.Perm.refl _
 | y::R=>by
   unfold insN
   split
   ·exact ((insN_perm lt x R).cons y).trans (List.Perm.swap _ _ _)
   ·exact List.Perm.refl _
theorem sortBN_perm (lt:Nat→Nat→Bool):∀ l R,(sortBN lt l R).Perm (l++R)
 | [],R=>List.Perm.refl _
 | x::l, R=>by
   rw[sortBN]
   refine (sortBN_perm lt l _).trans ?_
   exact ((insN_perm lt x R).append_left l).trans List.perm_middle
theorem sortI_perm (lt:Nat→Nat→Bool) (l:List Nat):(sortI lt l).Perm l:=by
 unfold sortI
 have:=sortBN_perm lt l []
 rw[List.append_nil] at this
 exact (List.reverse_perm _).trans this
theorem mean_idx {most:Bool}{den:Int}{l:List Bd}(h:ChG den l) (hh:den≤hiS l):∃ I:List Nat,I.Perm (List.range l.length)∧I.Nodup ∧
 (I.Pairwise fun a b=>leD most (l.getD a ⟨0,0,0⟩).b (l.getD b ⟨0,0,0⟩).b) ∧
 meanD most den l=overD most (fillP (I.map fun i=>((l.getD i ⟨0,0,0⟩).hi-(l.getD i ⟨0,0,0⟩).lo,(l.getD i ⟨0,0,0⟩).b)) (den-loS l,loV l)).2 den:=by
 have hl:(List.range l.length).map (fun i=>l.getD i ⟨0,0,0⟩)=l:=by
  refine List.ext_getElem (by simp) fun i h1 h2=>?_
  simp [List.getD,List.getElem?_eq_getElem h2]
 have hm:=sortI_map (fun i=>l.getD i ⟨0,0,0⟩) (ltD most) (List.range l.length)
 rw[hl] at hm
 have hp:=sortI_perm (fun i j=>ltD most (l.getD i ⟨0,0,0⟩) (l.getD j ⟨0,0,0⟩)) (List.range l.length)
 have hpw:=sortN_pw (most:=most) l
 rw[← hm] at hpw
 have e1:loS (sortN (ltD most) l)=loS l:=perm_sum (sortN_perm _ _)
 have e2:loV (sortN (ltD most) l)=loV l:=perm_sum (sortN_perm _ _)
 refine⟨_,hp,hp.nodup_iff.2 List.nodup_range,(List.pairwise_map (f:=fun i=>l.getD i ⟨0,0,0⟩) (R:=fun y z:Bd=>leD most y.b z.b)).1 hpw,?_⟩
 unfold meanD
 rw[e1,e2,fillG_P,← hm,List.map_map]
 rfl
theorem overD_mono {m1 m2:Bool}(hm:m1=true→m2=true) {a b den:Int}(hd:1≤den) (hab:a≤b):overD m1 a den≤overD m2 b den:=by
 have h1:∀ x y:Int,x≤y→x / den≤y / den:=fun x y h=>Int.ediv_le_ediv (by omega) h
 cases m1<;>cases m2<;>simp only[overD,if_true,Bool.false_eq_true,if_false]
 ·exact h1 _ _ hab
 ·exact h1 _ _ (by omega)
 ·simp at hm
 ·exact h1 _ _ (by omega)
theorem sum_le_map {f g:Nat→Int}:∀ {I:List Nat},(∀ i∈I,f i≤g i)→(I.map f).sum≤(I.map g).sum
 | [],_=>by simp
 | i::I, h=>by
   have h1:=h i (by simp)
   have h2:=sum_le_map (f:=f) (g:=g) (I:=I) fun j hj=>h j (by simp [hj])
   simp only[List.map_cons,List.sum_cons];omega
theorem meanD_mono {m1 m2:Bool}(hm:m1=true→m2=true) {den:Int}{l:List Bd}{f g:Int→Int}(hf:ChG den (chW f l)) (hg:ChG den (chW g l)) (hh:den≤hiS l) (hfg:∀ c∈l,f c.b≤g c.b) :
 meanD m1 den (chW f l)≤meanD m2 den (chW g l):=by
 obtain⟨I,p1,n1,w1,e1⟩:=mean_idx (most:=m1) hf (by rw[hiS_chW];exact hh)
 obtain⟨J,p2,n2,w2,e2⟩:=mean_idx (most:=m2) hg (by rw[hiS_chW];exact hh)
 have lf:(chW f l).length=l.length:=by simp [chW]
 have lg:(chW g l).length=l.length:=by simp [chW]
 rw[lf] at p1
 rw[lg] at p2
 have gf:∀ i,i<l.length→(chW f l).getD i ⟨0,0,0⟩=⟨f (l.getD i ⟨0,0,0⟩).b,(l.getD i ⟨0,0,0⟩).lo,(l.getD i ⟨0,0,0⟩).hi⟩:=fun i hi=>by simp [chW,List.getD,List.getElem?_eq_getElem hi]
 have gg:∀ i,i<l.length→(chW g l).getD i ⟨0,0,0⟩=⟨g (l.getD i ⟨0,0,0⟩).b,(l.getD i ⟨0,0,0⟩).lo,(l.getD i ⟨0,0,0⟩).hi⟩:=fun i hi=>by simp [chW,List.getD,List.getElem?_eq_getElem hi]
 have hI:∀ i∈I,i<l.length:=fun i hi=>List.mem_range.1 (p1.mem_iff.1 hi)
 have hJ:∀ i∈J,i<l.length:=fun i hi=>List.mem_range.1 (p2.mem_iff.1 hi)
 have hmem:∀ i,i<l.length→l.getD i ⟨0,0,0⟩∈l:=fun i hi=>by
  rw[List.getD_eq_getElem?_getD,List.getElem?_eq_getElem hi];exact List.getElem_mem hi
 rw[e1,e2,loS_chW,loS_chW]
 refine overD_mono hm hf.den0 ?_
 have ef:(I.map fun i=>(((chW f l).getD i ⟨0,0,0⟩).hi-((chW f l).getD i ⟨0,0,0⟩).lo,((chW f l).getD i ⟨0,0,0⟩).b))=I.map fun i=>((l.getD i ⟨0,0,0⟩).hi-(l.getD i ⟨0,0,0⟩).lo,f (l.getD i ⟨0,0,0⟩).b) :=
  List.map_congr_left fun i hi=>by rw[gf i (hI i hi)]
 have eg:(J.map fun i=>(((chW g l).getD i ⟨0,0,0⟩).hi-((chW g l).getD i ⟨0,0,0⟩).lo,((chW g l).getD i ⟨0,0,0⟩).b))=J.map fun i=>((l.getD i ⟨0,0,0⟩).hi-(l.getD i ⟨0,0,0⟩).lo,g (l.getD i ⟨0,0,0⟩).b) :=
  List.map_congr_left fun i hi=>by rw[gg i (hJ i hi)]
 rw[ef,eg]
 have pIJ:I.Perm J:=p1.trans p2.symm
 have hlow:loS l≤den:=by have:=hf.low;rwa [loS_chW] at this
 have hm0:∀ i,i<l.length→0≤(l.getD i ⟨0,0,0⟩).hi-(l.getD i ⟨0,0,0⟩).lo:=fun i hi=>by
  have:=hf.each ⟨f (l.getD i ⟨0,0,0⟩).b,(l.getD i ⟨0,0,0⟩).lo,(l.getD i ⟨0,0,0⟩).hi⟩ (List.mem_map.2 ⟨_,hmem i hi,rfl⟩)
  simp only at this;omega
 have hsm:((List.range l.length).map fun i=>(l.getD i ⟨0,0,0⟩).hi-(l.getD i ⟨0,0,0⟩).lo).sum=hiS l-loS l:=by
  have hl:(List.range l.length).map (fun i=>l.getD i ⟨0,0,0⟩)=l:=by
   refine List.ext_getElem (by simp) fun i h1 h2=>?_
   simp [List.getD,List.getElem?_eq_getElem h2]
  have:((List.range l.length).map fun i=>(l.getD i ⟨0,0,0⟩).hi-(l.getD i ⟨0,0,0⟩).lo)=l.map fun c=>c.hi-c.lo:=by
   conv=>rhs;rw[← hl]
   rw[List.map_map];rfl
  rw[this]
  generalize l=l
  induction l with
  | nil=>simp [hiS,loS]
  | cons c l ih=>simp only[hiS,loS,List.map_cons,List.sum_cons] at ih ⊢;omega
 have hv:loV (chW f l)≤loV (chW g l):=by
  have h0:∀ c∈l,0≤c.lo:=fun c hc=>(hf.each _ (List.mem_map.2 ⟨c,hc,rfl⟩)).2.1
  clear e1 e2 ef eg gf gg hI hJ hmem hm0 hsm p1 p2 pIJ w1 w2 lf lg hf hg hh hlow
  induction l with
  | nil=>simp [chW,loV]
  | cons c l ih =>
    have h1:=ih (fun x hx=>hfg x (by simp [hx])) fun x hx=>h0 x (by simp [hx])
    have h2:=Int.mul_le_mul_of_nonneg_left (hfg c (by simp)) (h0 c (by simp))
    simp only[chW,loV,List.map_cons,List.sum_cons,List.map_map] at h1 ⊢
    omega
 generalize hmm:(fun i=>(l.getD i ⟨0,0,0⟩).hi-(l.getD i ⟨0,0,0⟩).lo)=m at *
 have hmi:∀ i,(l.getD i ⟨0,0,0⟩).hi-(l.getD i ⟨0,0,0⟩).lo=m i:=fun i=>by rw[← hmm]
 simp only[hmi] at *
 have fgi:∀ i,i<l.length→f (l.getD i ⟨0,0,0⟩).b≤g (l.getD i ⟨0,0,0⟩).b:=fun i hi=>hfg _ (hmem i hi)
 generalize hu:(fun i=>f (l.getD i ⟨0,0,0⟩).b)=u at *
 have hui:∀ i,f (l.getD i ⟨0,0,0⟩).b=u i:=fun i=>by rw[← hu]
 generalize hw:(fun i=>g (l.getD i ⟨0,0,0⟩).b)=w at *
 have hwi:∀ i,g (l.getD i ⟨0,0,0⟩).b=w i:=fun i=>by rw[← hw]
 simp only[hui,hwi] at *
 have hsI:(I.map m).sum=hiS l-loS l:=by rw[← hsm];exact perm_sum p1
 have hsJ:(J.map m).sum=hiS l-loS l:=by rw[← hsm];exact perm_sum p2
 have wI:I.Pairwise fun a b=>leD m1 (u a) (u b):=w1.imp_of_mem fun {a b} ha hb h=>by
  rw[gf a (hI a ha),gf b (hI b hb)] at h;exact h
 have wJ:J.Pairwise fun a b=>leD m2 (w a) (w b):=w2.imp_of_mem fun {a b} ha hb h=>by
  rw[gg a (hJ a ha),gg b (hJ b hb)] at h;exact h
 have ms:∀ (K:List Nat) (x z:Nat→Int),(∀ i∈K,i<l.length)→(∀ i∈K,0≤x i)→(K.map fun i=>x i*u i).sum≤(K.map fun i=>x i*w i).sum:=fun K x z hK hx =>
  sum_le_map fun i hi=>Int.mul_le_mul_of_nonneg_left (fgi i (hK i hi)) (hx i hi)
 cases m1 with
 | false =>
   obtain⟨x,x1,x2,x3⟩:=greedy_amt (m:=m) (v:=w) (I:=J) (left:=den-loS l) (s:=loV (chW g l)) n2 (fun i hi=>hm0 i (hJ i hi)) (by omega) (by omega)
   have hx:∀ i∈I,0≤x i∧x i≤m i:=fun i hi=>x1 i (pIJ.mem_iff.1 hi)
   have hmin:=fill_min (feas_map (v:=u) hx) (den-loS l) (loV (chW f l)) (List.pairwise_map.2 (wI.imp fun h=>by simpa [leD] using h)) (by rw[perm_sum (f:=x) pIJ];exact x2)
   rw[dot_map] at hmin
   have h2:=ms I x x hI fun i hi=>(hx i hi).1
   have h3:(I.map fun i=>x i*w i).sum=(J.map fun i=>x i*w i).sum:=perm_sum pIJ
   rw[x3]
   omega
 | true =>
   have hm2:m2=true:=hm rfl
   subst hm2
   obtain⟨x,x1,x2,x3⟩:=greedy_amt (m:=m) (v:=u) (I:=I) (left:=den-loS l) (s:=loV (chW f l)) n1 (fun i hi=>hm0 i (hI i hi)) (by omega) (by omega)
   have hx:∀ i∈J,0≤x i∧x i≤m i:=fun i hi=>x1 i (pIJ.mem_iff.2 hi)
   have hmax:=fill_max (feas_map (v:=w) hx) (den-loS l) (loV (chW g l)) (List.pairwise_map.2 (wJ.imp fun h=>by simpa [leD] using h)) (by rw[perm_sum (f:=x) pIJ.symm];exact x2)
   rw[dot_map] at hmax
   have h2:=ms I x x hI fun i hi=>(x1 i hi).1
   have h3:(I.map fun i=>x i*w i).sum=(J.map fun i=>x i*w i).sum:=perm_sum pIJ
   rw[x3]
   omega
set_option maxHeartbeats 2000000
abbrev pos (k s left d:Nat):Pos:=⟨k,s,left,(d:Int)+1⟩
theorem vis_tab {r:Ru}(h:RuG r) (most:Bool) {k:Nat}(hk:k<r.ends.length) (s:Nat) (hs:(s:Int)≤r.start):VisG r (tabF r most) k s:=by
 refine⟨hk,h.h10,h.ends,hs,h.s40,fun left hl=>?_⟩
 by_cases hk1:k+1<r.ends.length
 ·have hg:=tabI_get r most r.ends.length (Nat.le_refl _) (k+1) (by omega) hk1
  refine⟨_,_,fun _=>⟨hg,rowV_get _ _ _ _ _ hl,?_⟩⟩
  split
  ·omega
  ·have hv:=vis_at h most (r.ends.length-1-(k+1)) (by omega) left hl
   rw[show r.ends.length-1-(r.ends.length-1-(k+1))=k+1 by omega] at hv
   exact valV_le hv h.aims 3 left hl
 ·exact⟨[],0,fun h=>absurd h hk1⟩
theorem foldl_max_ge:∀ {l:List Int}{x:Int},x≤l.foldl max x∧∀ y∈l,y≤l.foldl max x
 | [],x=>by simp
 | z::l, x=>by
   obtain⟨h1,h2⟩:=foldl_max_ge (l:=l) (x:=max x z)
   simp only[List.foldl_cons]
   refine⟨by omega,fun y hy=>?_⟩
   rcases List.mem_cons.1 hy with rfl|hy
   ·omega
   ·exact h2 y hy
theorem foldl_max_mem:∀ {l:List Int}{x:Int},l.foldl max x=x∨l.foldl max x∈l
 | [],x=>by simp
 | z::l, x=>by
   rcases foldl_max_mem (l:=l) (x:=max x z) with h|h
   ·simp only[List.foldl_cons,h]
    by_cases hz:z≤x
    ·left;omega
    ·right;rw[show max x z=z by omega];simp
   ·right;simp [h]
theorem le_maxL {l:List Int}{x:Int}(h:x∈l):x≤maxL l:=foldl_max_ge.2 x h
theorem maxL_mem {l:List Int}(h:l≠[]):maxL l∈l:=by
 cases l with
 | nil=>exact absurd rfl h
 | cons x l =>
   unfold maxL
   simp only[List.headD_cons]
   rcases foldl_max_mem (l:=x::l) (x:=x) with h|h
   ·rw[h];simp
   ·exact h
theorem maxL_mono {α:Type}{l:List α}{F G:α→Int}(hne:l≠[]) (h:∀ a∈l,F a≤G a):maxL (l.map F)≤maxL (l.map G):=by
 obtain⟨a,ha,e⟩:=List.mem_map.1 (maxL_mem (l:=l.map F) (by simpa using hne))
 rw[← e]
 exact Int.le_trans (h a ha) (le_maxL (List.mem_map.2 ⟨a,ha,rfl⟩))
theorem after_mono {r:Ru}{m1 m2:Bool}(hm:m1=true→m2=true) {T T':List (List Int)}{k y:Nat}(hk:k<r.ends.length) (he:∀ x∈r.ends,endOk x=true)
 (hT:k+1<r.ends.length→0≤(T.getD (k+1) []).getD y 0∧(T.getD (k+1) []).getD y 0≤(T'.getD (k+1) []).getD y 0):afterD r m1 T k y≤afterD r m2 T' k y:=by
 unfold afterD
 split
 ·omega
 ·rename_i hn
  obtain⟨h0,h1⟩:=hT (by omega)
  obtain⟨e,hek⟩:=zol hk
  obtain⟨g1,g2,g3⟩:=endOk_le (he e (zmo hek))
  have e2:r.ends.getD k (0,0)=e:=by simp [List.getD_eq_getElem?_getD,hek]
  rw[e2]
  refine overD_mono hm (by omega) ?_
  have hd:endsD m2 e≤endsD m1 e∧0≤1000000-endsD m1 e:=by unfold endsD;cases m1<;>cases m2<;>simp at hm ⊢ <;> omega
  exact Int.mul_le_mul h1 (by omega) hd.2 (by omega)
theorem next_mono {r:Ru}{m1 m2:Bool}{T T':List (List Int)}{k st left:Nat}{val val':Nat→Int}{last:Bool}{b:Int}(b0:0≤b) (b1:b≤499) (hst:(st:Int)≤r.start) (hl:(left:Int)≤r.start)
 (hA:∀ y:Nat,(y:Int)≤r.start→afterD r m1 T k y≤afterD r m2 T' k y) (hv:last=false→∀ y:Nat,(y:Int)≤r.start→val y≤val' y) :
 nextV r m1 T k st val last left b≤nextV r m2 T' k st val' last left b:=by
 obtain⟨s0,s1⟩:=score_le b0 b1
 unfold nextV
 split
 ·omega
 ·split
  ·exact hA st hst
  ·split
   ·exact hA _ (by omega)
   ·rename_i hn
    exact hv (by simpa using hn) _ (by omega)
def RowLe (r:Ru) (T T':List (List Int)) (k:Nat):Prop:=k+1<r.ends.length→∀ y:Nat,(y:Int)≤r.start→(T.getD (k+1) []).getD y 0≤(T'.getD (k+1) []).getD y 0
theorem VisG.row0 {r:Ru}{T:List (List Int)}{k st:Nat}(h:VisG r T k st) {y:Nat}(hy:(y:Int)≤r.start) (hk:k+1<r.ends.length):0≤(T.getD (k+1) []).getD y 0:=by
 obtain⟨row,v,hv⟩:=h.tab y hy
 obtain⟨t1,t2,t3,t4⟩:=hv hk
 simp [List.getD_eq_getElem?_getD,t1,t2,t3]
theorem VisG.after_mono {r:Ru}{m1 m2:Bool}(hm:m1=true→m2=true) {T T':List (List Int)}{k st:Nat}(h:VisG r T k st) (hT:RowLe r T T' k) (y:Nat) (hy:(y:Int)≤r.start):afterD r m1 T k y≤afterD r m2 T' k y :=
 Go.Proofs.YtgfbenanljjgaaaGreat.Du.after_mono hm h.kk h.ends fun hk=>⟨h.row0 hy hk,hT hk y hy⟩
theorem means_mono {r:Ru}{m1 m2:Bool}(hm:m1=true→m2=true) (hA:AimsG r) (hH:RefH r) {f g:Int→Int}(hf:∀ b,0≤b→b≤499→0≤f b∧f b≤1000000) (hg:∀ b,0≤b→b≤499→0≤g b∧g b≤1000000)
 (hfg:∀ b,0≤b→b≤499→f b≤g b):∀ a∈r.aims,meanD m1 r.d (chW f a.beds)≤meanD m2 r.d (chW g a.beds):=fun a ha =>
 meanD_mono hm (hA.ch hf a ha) (hA.ch hg a ha) (hH.hi a ha) fun c hc=>hfg c.b ((hA.beds a ha).2.2 c hc).1.1 ((hA.beds a ha).2.2 c hc).1.2
theorem val_mono {r:Ru}{m1 m2:Bool}(hm:m1=true→m2=true) (hA:AimsG r) (hH:RefH r) {T T':List (List Int)}{k st:Nat}(h:VisG r T k st) (h':VisG r T' k st) (hT:RowLe r T T' k) :
 ∀ n left:Nat,(left:Int)≤r.start→valV r m1 T k st n left≤valV r m2 T' k st n left
 | 0,_,_=>by simp only[valV];omega
 | n+1, left, hl=>by
   simp only[valV];exact maxL_mono hA.ne (means_mono hm hA hH (fun b b0 b1=>nextV_le h hl b0 b1 fun _ x hx=>valV_le h hA n x hx) (fun b b0 b1=>nextV_le h' hl b0 b1 fun _ x hx=>valV_le h' hA n x hx)
    fun b b0 b1=>next_mono b0 b1 h.st40 hl (h.after_mono hm hT) fun _ y hy=>val_mono hm hA hH h h' hT n y hy)
theorem rowV_getD (r:Ru) (most:Bool) (T:List (List Int)) (k y:Nat) (h:(y:Int)≤r.start):(rowV r most T k).getD y 0=if (y:Int)<lowestR r then 0 else valV r most T k y 3 y:=by
 rw[List.getD_eq_getElem?_getD,rowV_get r most T k y h];rfl
theorem tab_mono {r:Ru}(h:RuG r) (hH:RefH r):∀ i,i≤r.ends.length→∀ j y:Nat,(y:Int)≤r.start→((tabI r false i).getD j []).getD y 0≤((tabI r true i).getD j []).getD y 0
 | 0,_,j,y,_=>by simp only[tabI];omega
 | i+1, hi, j, y, hy=>by
   have ih:=tab_mono h hH i (by omega)
   simp only[tabI]
   by_cases e:j=r.ends.length-1-i
   ·subst e
    have g0:((tabI r false i).set (r.ends.length-1-i) (rowV r false (tabI r false i) (r.ends.length-1-i))).getD (r.ends.length-1-i) []=rowV r false (tabI r false i) (r.ends.length-1-i):=by
     rw[List.getD_eq_getElem?_getD,List.getElem?_set_self (by rw[tabI_len];omega)];rfl
    have g1:((tabI r true i).set (r.ends.length-1-i) (rowV r true (tabI r true i) (r.ends.length-1-i))).getD (r.ends.length-1-i) []=rowV r true (tabI r true i) (r.ends.length-1-i):=by
     rw[List.getD_eq_getElem?_getD,List.getElem?_set_self (by rw[tabI_len];omega)];rfl
    rw[g0,g1,rowV_getD _ _ _ _ _ hy,rowV_getD _ _ _ _ _ hy]
    split
    ·omega
    ·exact val_mono (by simp) h.aims hH (vis_at h false i (by omega) y hy) (vis_at h true i (by omega) y hy) (fun _ z hz=>ih _ z hz) 3 y hy
   ·have g0:∀ (A:List (List Int)) (x:List Int),(A.set (r.ends.length-1-i) x).getD j []=A.getD j []:=fun A x=>by
     rw[List.getD_eq_getElem?_getD,List.getD_eq_getElem?_getD,List.getElem?_set_ne (fun h=>e h.symm)]
    rw[g0,g0]
    exact ih j y hy
theorem val_congr {r:Ru}{most:Bool}{T T':List (List Int)}{k:Nat}(hk:k<r.ends.length) (h:k+1<r.ends.length→T.getD (k+1) []=T'.getD (k+1) []) (st:Nat):∀ n left,valV r most T k st n left=valV r most T' k st n left:=by
 have hA:∀ y,afterD r most T k y=afterD r most T' k y:=fun y=>by
  unfold afterD
  split
  ·rfl
  ·rename_i hn
   rw[h (by omega)]
 have hN:nextV r most T k st=nextV r most T' k st:=by
  funext val last left b
  simp only[nextV,hA]
 intro n
 induction n with
 | zero=>intro _;rfl
 | succ n ih =>
   intro left
   have e:valV r most T k st n=valV r most T' k st n:=funext ih
   simp only[valV,hN,e]
theorem tabF_row {r:Ru}(most:Bool) {k:Nat}(hk:k<r.ends.length):(tabF r most).getD k []=rowV r most (tabI r most (r.ends.length-1-k)) k:=by
 unfold tabF
 rw[List.getD_eq_getElem?_getD,tabI_get r most _ (Nat.le_refl _) k (by omega) hk];rfl
theorem tabF_val {r:Ru}(most:Bool) {k y:Nat}(hk:k<r.ends.length) (hy:(y:Int)≤r.start):((tabF r most).getD k []).getD y 0=if (y:Int)<lowestR r then 0 else valV r most (tabF r most) k y 3 y:=by
 rw[tabF_row most hk,rowV_getD _ _ _ _ _ hy]
 split
 ·rfl
 ·refine val_congr hk (fun hk1=>?_) y 3 y
  rw[tabF_row most hk1,List.getD_eq_getElem?_getD,tabI_get r most (r.ends.length-1-k) (by omega) (k+1) (by omega) hk1]
  rfl
theorem tabF_bound {r:Ru}(h:RuG r) (most:Bool) {k y:Nat}(hk:k<r.ends.length) (hy:(y:Int)≤r.start):0≤((tabF r most).getD k []).getD y 0∧((tabF r most).getD k []).getD y 0≤1000000:=by
 rw[tabF_val most hk hy]
 split
 ·omega
 ·exact valV_le (vis_tab h most hk y hy) h.aims 3 y hy
end Go.Proofs.YtgfbenanljjgaaaGreat.Du

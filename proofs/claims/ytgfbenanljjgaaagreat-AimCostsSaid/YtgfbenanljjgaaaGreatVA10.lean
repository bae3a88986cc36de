/- Part 10 of the texts of this claim. -/
import Derived.Test.YtgfbenanljjgaaaGreatVA9
import Derived.Test.YtgfbenanljjgaaaGreatVA6
import Derived.Test.YtgfbenanljjgaaaGreatVA7
namespace Go.Proofs.YtgfbenanljjgaaaGreat.Du.Th.Ai
open Go Go.Oc
set_option linter.unusedSimpArgs false
set_option linter.unusedVariables false
set_option maxRecDepth 8000
set_option maxHeartbeats 8000000
abbrev spR (x : Int × Int) : List RV:=[i64 x.1,i64 x.2]
abbrev spsR (l : List (Int × Int)) : RV:=.sl 2 (l.map spR)
def costL (r : Rk) (p : Ps) : List (Int × Int):=(At.atV r true (tabT r true) p.st.toNat p.left.toNat (p.darts - 1).toNat).zip (At.atV r false (tabT r false) p.st.toNat p.left.toNat (p.darts - 1).toNat)
theorem at_pos {r : Rk} {p : Ps} (h : openR r p = 0) (s : Bool) : ACalls Tryz.prog 47 [rkR r,psR p,.bo s] (ints (At.atV r s (tabT r s) p.st.toNat p.left.toNat (p.darts - 1).toNat)):=by
 obtain ⟨hr,hp⟩:=openR_zero h
 simp only [posOk,decide_eq_true_eq] at hp
 have hlg:=lowG_le r.out
 have hat:=At.at_ok hr s p.st.toNat p.left.toNat (p.darts - 1).toNat (by omega) (by omega) (by omega) (by omega)
 have g1 : ((p.st.toNat : Nat) : Int) = p.st:=by omega
 have g2 : ((p.left.toNat : Nat) : Int) = p.left:=by omega
 have g3 : (((p.darts - 1).toNat : Nat) : Int) + 1 = p.darts:=by omega
 rw [g1,g2,g3] at hat
 exact hat
theorem costs_ok (r : Rk) (p : Ps) (hw : WfL r.d r.aims) : ACalls Tryz.prog 13 [rkR r,psR p] (.tu [if openR r p = 0 then spsR (costL r p) else .ns,i64 (openR r p)]):=by
 have hop:=open_ok r p hw
 refine acalls_st (rs:=[if openR r p = 0 then spsR (costL r p) else .ns,i64 (openR r p)]) [.tmp 4,.tmp 5] Tryz.func13 rfl (by kernel_rfl) Tryz.ntmps13 rfl (by simp) rfl fun C vs=>?_
 refine zq ?_
 refine zb fun K hK=>?_;simp only [go_sem];refine hK _ ?_;clear hK K;refine zw (sub_frzP 2 2 [i64 r.d,aimsR r.aims,i64 r.start,i64 r.out] (by omega) rfl rfl) ?_;refine zw (sub_frzP 3 3 [i64 p.st,i64 p.left,i64 p.darts] (by omega) rfl rfl) ?_;refine zw (zk [2,3,4]) ?_;simp only [go_sem]
 repeat refine zq ?_
 refine zb fun K hK=>?_;simp only [go_sem]
 refine zh (hop) rfl (by simp only [go_sem,i64,ints]) (by simp only [go_sem,i64,ints]) (by first | exact .inl rfl | exact .inr rfl) ?_
 (try simp only [go_sem]);refine hK _ ?_;clear hK K;refine zw (zk [2,3,4,6]) ?_;simp only [go_sem]
 refine zq ?_
 refine zb fun K hK=>?_;simp only [go_sem];refine hK _ ?_;clear hK K;refine zw (zk [2,3,4,6,14]) ?_;simp only [go_sem]
 by_cases h0 : openR r p = 0
 rotate_left
 · have e0 : (openR r p != 0) = true:=by simpa using h0
   rw [if_neg h0,e0]
   refine zc rfl (fun hc=>?_) (fun hc=>?_) <;> (try simp only [go_sem] at hc)
   refine zq ?_
   refine zb fun K hK=>?_;simp only [go_sem];refine hK _ ?_;clear hK K;refine zw (zk [4,5]) ?_;simp only [go_sem];refine ze ?_;simp only [go_sem]
 have e0 : (openR r p != 0) = false:=by simp [h0]
 obtain ⟨hr,_⟩:=openR_zero h0
 have hlo:=at_pos h0 true
 have hhi:=at_pos h0 false
 have hl1 : (At.atV r true (tabT r true) p.st.toNat p.left.toNat (p.darts - 1).toNat).length = r.aims.length:=by simp [At.atV]
 have hl2 : (At.atV r false (tabT r false) p.st.toNat p.left.toNat (p.darts - 1).toNat).length = r.aims.length:=by simp [At.atV]
 have hrl:=hr.len
 rw [if_pos h0,e0,h0]
 unfold costL
 generalize At.atV r true (tabT r true) p.st.toNat p.left.toNat (p.darts - 1).toNat = A at *
 generalize At.atV r false (tabT r false) p.st.toNat p.left.toNat (p.darts - 1).toNat = B at *
 refine zc rfl (fun hc=>?_) (fun hc=>?_) <;> (try simp only [go_sem] at hc)
 refine zx ?_
 try simp only [go_sem]
 refine zq ?_
 refine zb fun K hK=>?_;simp only [go_sem]
 refine zh (hhi) rfl (by simp only [go_sem,i64,ints]) (by simp only [go_sem,i64,ints]) (by first | exact .inl rfl | exact .inr rfl) ?_
 (try simp only [go_sem]);refine hK _ ?_;clear hK K;refine zw (sub_own 4 36 48 2 (by omega) (by rfl)) ?_;refine zw (zk [2,3,4,7]) ?_;simp only [go_sem]
 repeat refine zq ?_
 refine zb fun K hK=>?_;simp only [go_sem,List.length_map]
 refine zh (hlo) rfl (by simp only [go_sem,i64,ints,List.length_map]) (by simp only [go_sem,i64,ints,List.length_map]) (by first | exact .inl rfl | exact .inr rfl) ?_
 (try simp only [go_sem,List.length_map])
 (try intros)
 refine hK _ ?_;clear hK K;refine zw (zk [4,7,21,22,23]) ?_;simp only [go_sem];refine zd ?_
 have hzl : (A.zip B).length = A.length:=by rw [List.length_zip]; omega
 refine awp_uptoV (n:=39) A.length (fun i vs=>[(4,.os 36 (vs 36) 2 0 i),(7,.r (ints B)),(21,.r (ints A)),(22,.r (i64 A.length)),(23,.r (i64 i))])
  (fun i vs=>[(36,.arr 48 2 (((A.zip B).take i).map spR))]) (fun _=>True) 0 (zj [] ?_ ?_) (Nat.zero_le _) trivial ?_
 · try simp only [go_sem]
 · try simp only [go_sem]
   try rfl
 intro i vs hi _
 by_cases hic : i < A.length
 · obtain ⟨x,hx⟩:=opt_of_lt hic
   have hiB : i < B.length:=by omega
   obtain ⟨y,hy⟩:=opt_of_lt hiB
   have hz : (A.zip B)[i]? = some (x,y):=List.getElem?_zip_eq_some.2 ⟨hx,hy⟩
   have hsn : (A.zip B).take (i + 1) = (A.zip B).take i ++ [(x,y)]:=take_of_opt hz
   have hlt : ((A.zip B).take i).length = i:=by rw [List.length_take]; omega
   rw [hsn]
   generalize (A.zip B).take i = Z at *
   refine zq ?_
   refine zb fun K hK=>?_;simp only [go_sem];refine hK _ ?_;clear hK K;refine zw (zk [4,7,21,22,23,24]) ?_;simp only [go_sem]
   refine zq ?_
   refine zc rfl (fun hc=>?_) (fun hc=>?_) <;> (try simp only [go_sem] at hc)
   rotate_left
   · exact absurd hic hc
   refine zx ?_
   try simp only [go_sem]
   refine zq ?_
   refine zd ?_
   refine zq ?_
   refine zb fun K hK=>?_;simp only [go_sem,hx,hic,List.length_map];refine hK _ ?_;clear hK K;refine zw (zk [4,7,8,9,21,22,23]) ?_;simp only [go_sem];refine zb fun K hK=>?_;simp only [go_sem,hy,hiB,hlt,List.length_map]
   refine ⟨by omega,?_⟩
   refine hK _ ?_;clear hK K;refine zw (zk [4,7,21,22,23]) ?_;simp only [go_sem];refine zb fun K hK=>?_;simp only [go_sem];(try simp (disch:=omega) only [zI]);refine hK _ ?_;clear hK K
   try simp only [go_sem]
   refine ⟨hic,zj [] ?_ ?_⟩
   · try simp only [go_sem]
   · try simp only [go_sem]
     simp
 · have hie : i = A.length:=by omega
   subst hie
   have htk : (A.zip B).take A.length = A.zip B:=List.take_of_length_le (by omega)
   have htk2 : ((((A.zip B).map spR)).drop 0).take A.length = (A.zip B).map spR:=by rw [List.drop_zero,List.take_of_length_le (by simp; omega)]
   rw [htk]
   refine zq ?_
   refine zb fun K hK=>?_;simp only [go_sem,Nat.lt_irrefl];refine hK _ ?_;clear hK K;refine zw (zk [4,7,21,22,23,24]) ?_;simp only [go_sem]
   refine zq ?_
   refine zc rfl (fun hc=>?_) (fun hc=>?_) <;> (try simp only [go_sem] at hc)
   refine zf ?_;simp only [go_sem];refine zw (sub_frz 4 36 (ty:=48) (sz:=2) (off:=0) (m:=A.length) (es:=(A.zip B).map spR) (by omega) rfl (by rfl) (by simp; omega)) ?_;rw [htk2]
   refine zw (zk [4]) ?_;simp only [go_sem]
   refine zq ?_
   refine zb fun K hK=>?_;simp only [go_sem];refine hK _ ?_;clear hK K;refine zw (zk [4,5]) ?_;simp only [go_sem];refine ze ?_;simp only [go_sem]
def minE (x : Int × Int) (l : List (Int × Int)) : Int × Int:=l.foldl (fun m x=>if x.2 < m.2 then x else m) x
theorem minE_high : ∀ (l : List (Int × Int)) (x : Int × Int),(minE x l).2 = (l.map (·.2)).foldl min x.2
 | [],_=>rfl
 | y :: l, x => by
   have:=minE_high l (if y.2 < x.2 then y else x)
   unfold minE at *
   simp only [List.foldl_cons,List.map_cons];rw [this]
   congr 1
   split <;> omega
def mayE (m : Int) : Nat → List (Int × Int) → List Int
 | _,[]=>[]
 | i,x :: l=>if x.1 ≤ m then (i : Int) :: mayE m (i + 1) l else mayE m (i + 1) l
def mayL (r : Rk) (p : Ps) : List Int:=match costL r p with
 | []=>[]
 | x :: l=>mayE (minE x l).2 0 (x :: l)
theorem cmpH_ok (a b : Int × Int) : ACalls Tryz.prog 51 [.ag (spR a),.ag (spR b)] (i64 (cmpI a.2 b.2)):=by
 have hc:=compare_ok a.2 b.2
 refine acalls_st (rs:=[i64 (cmpI a.2 b.2)]) [.tmp 4] Tryz.func51 rfl (by kernel_rfl) Tryz.ntmps51 rfl (by simp) rfl fun C vs=>?_
 refine zq ?_
 refine zb fun K hK=>?_;simp only [go_sem];refine hK _ ?_;clear hK K;refine zw (sub_frzP 2 2 [i64 a.1,i64 a.2] (by omega) rfl rfl) ?_;refine zw (sub_frzP 3 3 [i64 b.1,i64 b.2] (by omega) rfl rfl) ?_;refine zw (zk [2,3]) ?_;simp only [go_sem]
 refine zq ?_
 refine zb fun K hK=>?_;simp only [go_sem]
 refine zh (hc) rfl (by simp only [go_sem,i64,ints]) (by simp only [go_sem,i64,ints]) (by first | exact .inl rfl | exact .inr rfl) ?_
 (try simp only [go_sem]);refine hK _ ?_;clear hK K;refine zw (zk [4]) ?_;simp only [go_sem];refine ze ?_;simp only [go_sem]
theorem minF_ok (x : Int × Int) (l : List (Int × Int)) (hl : l.length ≤ 1000) : ACalls Tryz.prog 50 [spsR (x :: l),.fn 51 []] (.ag (spR (minE x l))):=by
 have e0 : decide ((l.length : Int) + 1 < 1) = false:=by simp; omega
 refine acalls_st (rs:=[.ag (spR (minE x l))]) [.cell 4 48] Tryz.func50 rfl (by kernel_rfl) Tryz.ntmps50 rfl (by simp) rfl fun C vs=>?_
 refine zq ?_
 refine zb fun K hK=>?_;simp only [go_sem];refine hK _ ?_;clear hK K;refine zw (zk [0,1,4]) ?_;simp only [go_sem]
 repeat refine zq ?_
 refine zb fun K hK=>?_;simp only [go_sem,List.length_map,e0]
 intro _
 refine hK _ ?_;clear hK K;refine zw (zk [0,1,4,9]) ?_;simp only [go_sem]
 refine zc rfl (fun hc=>?_) (fun hc=>?_) <;> (try simp only [go_sem] at hc)
 refine zx ?_
 try simp only [go_sem]
 refine zq ?_
 refine zb fun K hK=>?_;simp only [go_sem,List.length_map]
 refine ⟨by omega,?_⟩
 refine hK _ ?_;clear hK K;refine zw (zk [0,1,4,5]) ?_;simp only [go_sem]
 repeat refine zq ?_
 refine zb fun K hK=>?_;simp only [go_sem];refine hK _ ?_;clear hK K;refine zw (zk [0,1,4,5,6]) ?_;simp only [go_sem];refine zd ?_
 refine awp_upto (n:=33) l.length (fun i vs=>[(0,.r (spsR (x :: l))),(1,.r (.fn 51 [])),(4,.pt 4 (vs 4) 0),(5,.pt 5 (vs 5) 0),(6,.r (i64 ((i : Int) + 1)))]) (fun i=>[(4,.box [.r (i64 0),.r (i64 0)]),(5,.box [.r (i64 (minE x (l.take i)).1),.r (i64 (minE x (l.take i)).2)])]) (fun _=>True) 0 (fit_of [] ?_ ?_) (Nat.zero_le _) trivial ?_
 · try simp only [go_sem]
   try simp
 · try simp only [go_sem]
   try rfl
 intro i vs hi _
 by_cases hc0 : i < l.length
 · obtain ⟨y,hy⟩:=opt_of_lt hc0
   have hsn : minE x (l.take (i + 1)) = if y.2 < (minE x (l.take i)).2 then y else minE x (l.take i):=by
    unfold minE; rw [take_of_opt hy,List.foldl_append]; rfl
   have hcm:=cmpH_ok y (minE x (l.take i))
   rw [hsn]
   generalize minE x (l.take i) = m at *
   obtain ⟨m1,m2⟩:=m
   obtain ⟨y1,y2⟩:=y
   have e1 : decide ((i : Int) + 1 < (l.length : Int) + 1) = true:=by simp; omega
   have w1 : IntKind.i64.wrap ((i : Int) + 1 + 1) = (i : Int) + 1 + 1:=by rw [zI] <;> omega
   simp only at hcm ⊢
   repeat refine zq ?_
   refine zb fun K hK=>?_;simp only [go_sem,e1,List.length_map,hc0]
   intro _
   refine hK _ ?_;clear hK K;refine zw (zk [0,1,4,5,6,17]) ?_;simp only [go_sem]
   refine zc rfl (fun hc=>?_) (fun hc=>?_) <;> (try simp only [go_sem] at hc)
   refine zx ?_
   try simp only [go_sem]
   refine zq ?_
   refine zd ?_
   refine zq ?_
   refine awp_dreg2 [(0,none),(1,none),(5,some 5),(6,none)] follows (by decide +kernel) (by kernel_rfl) (by simp only [keysOk,List.mem_cons,List.not_mem_nil,forall_eq_or_imp,Oc.keyOf,go_sem]; simp) fun K hK=>?_
   simp only [go_sem,hy,hc0,List.length_map,List.length_cons,List.getElem?_cons_succ]
   refine ⟨by omega,?_⟩
   refine zh (hcm) rfl (by simp only [go_sem,i64,ints]) (by simp only [go_sem,i64,ints]) (by first | exact .inl rfl | exact .inr rfl) ?_
   (try simp only [go_sem]);refine hK _ ?_;clear hK K;refine zw (zk [0,1,4,5,6,27]) ?_;simp only [go_sem]
   by_cases hlt : y2 < m2
   · have ec : decide (cmpI y2 m2 < 0) = true:=by simp [cmpI,hlt]
     rw [if_pos hlt,ec]
     refine zc rfl (fun hc=>?_) (fun hc=>?_) <;> (try simp only [go_sem] at hc)
     refine zb fun K hK=>?_;simp only [go_sem,hy,hc0,List.length_map,List.length_cons,List.getElem?_cons_succ]
     refine ⟨by omega,?_⟩
     refine hK _ ?_;clear hK K;refine zw (zk [0,1,4,5,6]) ?_;simp only [go_sem];refine zb fun K hK=>?_;simp only [go_sem,w1];refine hK _ ?_;clear hK K
     try simp only [go_sem]
     refine ⟨hc0,fit_of [] ?_ ?_⟩
     · try simp only [go_sem]
       try simp
     · try simp only [go_sem]
   · have ec : decide (cmpI y2 m2 < 0) = false:=by simp only [cmpI,if_neg hlt]; split <;> simp
     rw [if_neg hlt,ec]
     refine zc rfl (fun hc=>?_) (fun hc=>?_) <;> (try simp only [go_sem] at hc)
     refine zx ?_
     try simp only [go_sem]
     refine zw (zk [0,1,4,5,6]) ?_;simp only [go_sem];refine zb fun K hK=>?_;simp only [go_sem,w1];refine hK _ ?_;clear hK K
     try simp only [go_sem]
     refine ⟨hc0,fit_of [] ?_ ?_⟩
     · try simp only [go_sem]
       try simp
     · try simp only [go_sem]
 · have hie : i = l.length:=by omega
   subst hie
   have htk : l.take l.length = l:=List.take_of_length_le (by omega)
   rw [htk]
   have e1 : decide ((l.length : Int) + 1 < (l.length : Int) + 1) = false:=by simp
   repeat refine zq ?_
   refine zb fun K hK=>?_;simp only [go_sem,e1,List.length_map]
   intro _
   refine hK _ ?_;clear hK K;refine zw (zk [0,1,4,5,6,17]) ?_;simp only [go_sem]
   refine zc rfl (fun hc=>?_) (fun hc=>?_) <;> (try simp only [go_sem] at hc)
   refine zf ?_;simp only [go_sem]
   refine zq ?_
   refine zb fun K hK=>?_;simp only [go_sem];refine hK _ ?_;clear hK K;refine zw (zk [4]) ?_;simp only [go_sem];refine ze ?_;simp only [go_sem]
theorem mayE_app (m : Int) : ∀ (a b : List (Int × Int)) (k : Nat),mayE m k (a ++ b) = mayE m k a ++ mayE m (k + a.length) b
 | [],b,k=>by simp [mayE]
 | x :: a, b, k => by
   have h:=mayE_app m a b (k + 1)
   have e : k + 1 + a.length = k + (x :: a).length:=by simp; omega
   rw [e] at h
   simp only [List.cons_append,mayE,h]
   split <;> rfl
theorem mayE_len (m : Int) : ∀ (a : List (Int × Int)) (k : Nat),(mayE m k a).length ≤ a.length
 | [],_=>by simp [mayE]
 | x :: a, k => by
   have h:=mayE_len m a (k + 1)
   unfold mayE
   split <;> simp <;> omega
theorem may_ok (r : Rk) (p : Ps) (hw : WfL r.d r.aims) : ACalls Tryz.prog 14 [rkR r,psR p] (.tu [if openR r p = 0 then ints (mayL r p) else .ns,i64 (openR r p)]):=by
 have hco:=costs_ok r p hw
 refine acalls_st (rs:=[if openR r p = 0 then ints (mayL r p) else .ns,i64 (openR r p)]) [.tmp 4,.tmp 5] Tryz.func14 rfl (by kernel_rfl) Tryz.ntmps14 rfl (by simp) rfl fun C vs=>?_
 refine zq ?_
 refine zb fun K hK=>?_;simp only [go_sem];refine hK _ ?_;clear hK K;refine zw (sub_frzP 2 2 [i64 r.d,aimsR r.aims,i64 r.start,i64 r.out] (by omega) rfl rfl) ?_;refine zw (sub_frzP 3 3 [i64 p.st,i64 p.left,i64 p.darts] (by omega) rfl rfl) ?_;refine zw (zk [2,3,4]) ?_;simp only [go_sem]
 refine zq ?_
 refine zb fun K hK=>?_;simp only [go_sem]
 refine zh (hco) rfl (by simp only [go_sem,i64,ints]) (by simp only [go_sem,i64,ints]) (by first | exact .inl rfl | exact .inr rfl) ?_
 (try simp only [go_sem]);refine hK _ ?_;clear hK K;refine zw (zk [4,5,6]) ?_;simp only [go_sem]
 by_cases h0 : openR r p = 0
 rotate_left
 · have e0 : (openR r p != 0) = true:=by simpa using h0
   rw [if_neg h0,if_neg h0]
   repeat refine zq ?_
   refine zb fun K hK=>?_;simp only [go_sem];refine hK _ ?_;clear hK K;refine zw (zk [4,5,6,17]) ?_;simp only [go_sem];rw [e0]
   refine zc rfl (fun hc=>?_) (fun hc=>?_) <;> (try simp only [go_sem] at hc)
   refine zq ?_
   refine zb fun K hK=>?_;simp only [go_sem];refine hK _ ?_;clear hK K;refine zw (zk [4,5]) ?_;simp only [go_sem];refine ze ?_;simp only [go_sem]
 have e0 : (openR r p != 0) = false:=by simp [h0]
 obtain ⟨hr,_⟩:=openR_zero h0
 have hl1 : (costL r p).length = r.aims.length:=by simp [costL,At.atV]
 have hrl:=hr.len
 have hra:=hr.ne
 rw [if_pos h0,if_pos h0]
 repeat refine zq ?_
 refine zb fun K hK=>?_;simp only [go_sem];refine hK _ ?_;clear hK K;refine zw (zk [4,5,6,17]) ?_;simp only [go_sem];rw [e0,h0]
 refine zc rfl (fun hc=>?_) (fun hc=>?_) <;> (try simp only [go_sem] at hc)
 refine zx ?_
 try simp only [go_sem]
 unfold mayL
 generalize costL r p = L at *
 cases L with
 | nil=>simp at hl1; exact absurd (List.length_eq_zero_iff.1 hl1.symm) hra
 | cons x l =>
 have hmn:=minF_ok x l (by simp at hl1; omega)
 simp only
 generalize minE x l = M at *
 obtain ⟨M1,M⟩:=M
 simp only
 generalize hLd : x :: l = L at *
 refine zq ?_
 refine zb fun K hK=>?_;simp only [go_sem]
 refine zh (hmn) rfl (by simp only [go_sem,i64,ints]) (by simp only [go_sem,i64,ints]) (by first | exact .inl rfl | exact .inr rfl) ?_
 (try simp only [go_sem]);refine hK _ ?_;clear hK K;refine zw (sub_own 4 36 3 1 (by omega) (by rfl)) ?_;refine zw (zk [4,6,7]) ?_;simp only [go_sem]
 repeat refine zq ?_
 refine zb fun K hK=>?_;simp only [go_sem,List.length_map]
 intro _
 refine hK _ ?_;clear hK K;refine zw (zk [4,7,22,23,24]) ?_;simp only [go_sem];refine zd ?_
 refine awp_uptoV (n:=39) L.length (fun i vs=>[(4,.os 36 (vs 36) 1 0 (mayE M 0 (L.take i)).length),(7,.r (i64 M)),(22,.r (spsR L)),(23,.r (i64 L.length)),(24,.r (i64 i))])
  (fun i vs=>[(36,.arr 3 1 ((mayE M 0 (L.take i)).map fun x=>[i64 x]))]) (fun _=>True) 0 (zj [] ?_ ?_) (Nat.zero_le _) trivial ?_
 · try simp only [go_sem]
   try simp [mayE]
 · try simp only [go_sem]
   try rfl
 intro i vs hi _
 by_cases hic : i < L.length
 · obtain ⟨y,hy⟩:=opt_of_lt hic
   obtain ⟨y1,y2⟩:=y
   have hlt : (L.take i).length = i:=by rw [List.length_take]; omega
   have hsn : mayE M 0 (L.take (i + 1)) = mayE M 0 (L.take i) ++ (if y1 ≤ M then [(i : Int)] else []):=by
    rw [take_of_opt hy,mayE_app,Nat.zero_add,hlt]; rfl
   have hml:=mayE_len M (L.take i) 0
   rw [hsn]
   rw [hlt] at hml
   generalize mayE M 0 (L.take i) = Z at *
   refine zq ?_
   refine zb fun K hK=>?_;simp only [go_sem];refine hK _ ?_;clear hK K;refine zw (zk [4,7,22,23,24,25]) ?_;simp only [go_sem]
   refine zq ?_
   refine zc rfl (fun hc=>?_) (fun hc=>?_) <;> (try simp only [go_sem] at hc)
   rotate_left
   · exact absurd hic hc
   refine zx ?_
   try simp only [go_sem]
   refine zq ?_
   refine zd ?_
   refine zq ?_
   refine zb fun K hK=>?_;simp only [go_sem,hy,hic,List.length_map];refine hK _ ?_;clear hK K;refine zw (zk [4,7,8,9,22,23,24]) ?_;simp only [go_sem]
   refine zq ?_
   refine zb fun K hK=>?_;simp only [go_sem];refine hK _ ?_;clear hK K;refine zw (zk [4,7,8,22,23,24,32]) ?_;simp only [go_sem]
   by_cases hyM : y1 ≤ M
   · have ec : decide (y1 ≤ M) = true:=by simp [hyM]
     rw [if_pos hyM,ec]
     refine zc rfl (fun hc=>?_) (fun hc=>?_) <;> (try simp only [go_sem] at hc)
     refine zb fun K hK=>?_;simp only [go_sem,List.length_map]
     refine ⟨by omega,?_⟩
     refine hK _ ?_;clear hK K;refine zw (zk [4,7,22,23,24]) ?_;simp only [go_sem];refine zb fun K hK=>?_;simp only [go_sem];(try simp (disch:=omega) only [zI]);refine hK _ ?_;clear hK K
     try simp only [go_sem]
     refine ⟨hic,zj [9] ?_ ?_⟩
     · try simp only [go_sem]
       try simp
     · try simp only [go_sem]
       try simp
   · have ec : decide (y1 ≤ M) = false:=by simp [hyM]
     rw [if_neg hyM,ec]
     refine zc rfl (fun hc=>?_) (fun hc=>?_) <;> (try simp only [go_sem] at hc)
     refine zx ?_
     try simp only [go_sem]
     refine zb fun K hK=>?_;simp only [go_sem];(try simp (disch:=omega) only [zI]);refine hK _ ?_;clear hK K
     try simp only [go_sem]
     refine ⟨hic,zj [9] ?_ ?_⟩
     · try simp only [go_sem]
       try simp
     · try simp only [go_sem]
       try simp
 · have hie : i = L.length:=by omega
   subst hie
   have htk : L.take L.length = L:=List.take_of_length_le (by omega)
   rw [htk]
   generalize mayE M 0 L = Z at *
   have htk2 : (((Z.map fun x=>[i64 x]).drop 0).take Z.length) = Z.map fun x=>[i64 x]:=by rw [List.drop_zero,List.take_of_length_le (by simp)]
   refine zq ?_
   refine zb fun K hK=>?_;simp only [go_sem,Nat.lt_irrefl];refine hK _ ?_;clear hK K;refine zw (zk [4,7,22,23,24,25]) ?_;simp only [go_sem]
   refine zq ?_
   refine zc rfl (fun hc=>?_) (fun hc=>?_) <;> (try simp only [go_sem] at hc)
   refine zf ?_;simp only [go_sem];refine zw (sub_frz 4 36 (ty:=3) (sz:=1) (off:=0) (m:=Z.length) (es:=Z.map fun x=>[i64 x]) (by omega) rfl (by rfl) (by simp)) ?_;rw [htk2]
   refine zw (zk [4]) ?_;simp only [go_sem]
   refine zq ?_
   refine zb fun K hK=>?_;simp only [go_sem];refine hK _ ?_;clear hK K;refine zw (zk [4,5]) ?_;simp only [go_sem];refine ze ?_;simp only [go_sem]
def fstM : Nat → List Int → Int × Int → Int × Int
 | _,[],s=>s
 | k,x :: l,s=>fstM (k + 1) l (if x < s.1 then (x,(k : Int)) else s)
theorem fstM_app : ∀ (a b : List Int) (k : Nat) (s : Int × Int),fstM k (a ++ b) s = fstM (k + a.length) b (fstM k a s)
 | [],b,k,s=>rfl
 | x :: a, b, k, s => by
   have e : k + 1 + a.length = k + (x :: a).length:=by simp; omega
   simp only [List.cons_append,fstM,fstM_app a b (k + 1),e]
theorem fstM_spec : ∀ (l : List Int) (k : Nat) (m f : Int),fstM k l (m,f) = (l.foldl min m,if l.foldl min m < m then atI (l.foldl min m) l k else f)
 | [],k,m,f=>by simp [fstM]
 | x :: l, k, m, f => by
   have hle : ∀ (l : List Int) (a : Int),l.foldl min a ≤ a:=by
    intro l
    induction l with
    | nil=>intro a; exact Int.le_refl _
    | cons y l ih=>intro a; exact Int.le_trans (ih (min a y)) (Int.min_le_left ..)
   unfold fstM
   by_cases hx : x < m
   · have em : (x :: l).foldl min m = l.foldl min x:=by rw [List.foldl_cons]; congr 1; omega
     have hl:=hle l x
     rw [if_pos (show x < (m,f).1 from hx),fstM_spec l (k + 1) x k,em]
     rw [if_pos (show l.foldl min x < m by omega)]
     have ea : atI (l.foldl min x) (x :: l) k = if l.foldl min x = x then (k : Int) else atI (l.foldl min x) l (k + 1):=rfl
     rw [ea]
     by_cases h : l.foldl min x < x
     · rw [if_pos h,if_neg (show ¬ l.foldl min x = x by omega)]
     · rw [if_neg h,if_pos (show l.foldl min x = x by omega)]
   · have em : (x :: l).foldl min m = l.foldl min m:=by rw [List.foldl_cons]; congr 1; omega
     rw [if_neg (show ¬ x < (m,f).1 from hx),fstM_spec l (k + 1) m f,em]
     by_cases h : l.foldl min m < m
     · rw [if_pos h,if_pos h]
       have ea : atI (l.foldl min m) (x :: l) k = if l.foldl min m = x then (k : Int) else atI (l.foldl min m) l (k + 1):=rfl
       rw [ea,if_neg (show ¬ l.foldl min m = x by omega)]
     · rw [if_neg h,if_neg h]
theorem fstM_least (l : List Int) : fstM 0 l (2000000000,0) = if leastA l = 2000000000 then (2000000000,0) else (leastA l,atI (leastA l) l 0):=by
 have hle : ∀ (l : List Int) (a : Int),l.foldl min a ≤ a:=by
  intro l
  induction l with
  | nil=>intro a; exact Int.le_refl _
  | cons y l ih=>intro a; exact Int.le_trans (ih (min a y)) (Int.min_le_left ..)
 have:=hle l 2000000000
 rw [fstM_spec]
 unfold leastA
 by_cases h : l.foldl min 2000000000 = 2000000000
 · rw [if_pos h,h]; simp
 · rw [if_neg h,if_pos (by omega)]
theorem leastA_cons {x : Int} {l : List Int} (hx : VOk x) : leastA (x :: l) = l.foldl min x:=by
 unfold leastA
 simp only [List.foldl_cons]
 have e : min 2000000000 x = x:=by unfold VOk at hx; omega
 rw [e]
theorem zip_snd : ∀ (A B : List Int),A.length = B.length → (A.zip B).map (·.2) = B
 | [],[],_=>rfl
 | x :: A,y :: B,h=>by simp only [List.zip_cons_cons,List.map_cons,zip_snd A B (by simpa using h)]
 | [],_ :: _,h=>by simp at h
 | _ :: _,[],h=>by simp at h
theorem may_zip {A B : List Int} (hl : A.length = B.length) (hB : ∀ x ∈ B,VOk x) : (match A.zip B with | []=>[] | x :: l=>mayE (minE x l).2 0 (x :: l)) = mayE (leastA B) 0 (A.zip B):=by
 have hz:=zip_snd A B hl
 cases hZ : A.zip B with
 | nil=>simp [mayE]
 | cons x l =>
   rw [hZ] at hz
   simp only [List.map_cons] at hz
   simp only
   rw [minE_high,← hz,leastA_cons (hB _ (by rw [← hz]; simp))]
theorem any_step {α : Type} {p : α → Bool} {l : List α} {k : Nat} {y : α} (hy : l[k]? = some y) : (l.take (k + 1)).any p = ((l.take k).any p || p y):=by rw [take_of_opt hy]; simp
theorem any_of {α : Type} {p : α → Bool} {l : List α} {k : Nat} {y : α} (hy : l[k]? = some y) (h : p y = true) : l.any p = true:=List.any_eq_true.2 ⟨y,mem_of_opt hy,h⟩
def bigB (a : Am) : Bool:=decide ((6 < a.beds.length ∧ a.beds.length ≤ 10) ∨ 12 < a.beds.length)
def greatR (r : Rk) : Bool:=decide ((24 < r.start ∧ r.start ≤ 60) ∨ (4 < r.aims.length ∧ r.aims.length ≤ 20) ∨ 25 < r.aims.length) || r.aims.any bigB
theorem great_ok (r : Rk) : ACalls Tryz.prog 9 [rkR r] (.bo (greatR r)):=by
 refine acalls_st (rs:=[.bo (greatR r)]) [.tmp 2] Tryz.func9 rfl (by kernel_rfl) Tryz.ntmps9 rfl (by simp) rfl fun C vs=>?_
 refine zq ?_
 refine zb fun K hK=>?_;simp only [go_sem];refine hK _ ?_;clear hK K;refine zw (sub_frzP 1 1 [i64 r.d,aimsR r.aims,i64 r.start,i64 r.out] (by omega) rfl rfl) ?_;refine zw (zk [1]) ?_;simp only [go_sem]
 by_cases h0 : (24 < r.start ∧ r.start ≤ 60) ∨ (4 < r.aims.length ∧ r.aims.length ≤ 20) ∨ 25 < r.aims.length
 · have hg : greatR r = true:=by unfold greatR; rw [decide_eq_true h0]; rfl
   rw [hg]
   repeat refine zq ?_
   refine zb fun K hK=>?_;simp only [go_sem,List.length_map]
   repeat' first | intro _ | refine And.intro ?_ ?_
   all_goals first | omega | skip
   all_goals (refine hK _ ?_; clear hK K)
   all_goals
    refine zw (zk [33]) ?_;simp only [go_sem]
    refine zc rfl (fun hc=>?_) (fun hc=>?_) <;> (try simp only [go_sem] at hc)
    try any_goals (exfalso; omega)
    repeat refine zq ?_
    refine zb fun K hK=>?_;simp only [go_sem];refine hK _ ?_;clear hK K;refine zw (zk [2]) ?_;simp only [go_sem];refine ze ?_;simp only [go_sem]
 · have hg : greatR r = r.aims.any bigB:=by unfold greatR; rw [decide_eq_false h0]; rfl
   rw [hg]
   repeat refine zq ?_
   refine awp_join (n:=60) (fun (_ : Unit) vs=>[(1,.r (.rp [i64 r.d,aimsR r.aims,i64 r.start,i64 r.out])),(33,.r (.bo false))]) (fun _=>[]) (fun _=>True) (fun _ h=>h) ?_ ?_
   · skip
     refine zb fun K hK=>?_;simp only [go_sem,List.length_map]
     repeat' first | intro _ | refine And.intro ?_ ?_
     all_goals first | omega | skip
     all_goals (refine hK _ ?_; clear hK K)
     all_goals
      refine ⟨(),trivial,fit_of [] ?_ ?_⟩
      · try simp only [go_sem]
        try simp
        try omega
      · try simp only [go_sem]
   intro _ vs _
   refine zc rfl (fun hc=>?_) (fun hc=>?_) <;> (try simp only [go_sem] at hc)
   refine zx ?_
   try simp only [go_sem]
   repeat refine zq ?_
   refine zb fun K hK=>?_;simp only [go_sem];refine hK _ ?_;clear hK K;refine zw (zk [1,3]) ?_;simp only [go_sem];refine zd ?_
   refine awp_upto (n:=60) r.aims.length (fun i vs=>[(1,.r (.rp [i64 r.d,aimsR r.aims,i64 r.start,i64 r.out])),(3,.r (i64 (i : Int)))]) (fun _=>[]) (fun i=>(r.aims.take i).any bigB = false) 0 (fit_of [] ?_ ?_) (Nat.zero_le _) (by simp) ?_
   · try simp only [go_sem]
   · try simp only [go_sem]
   intro i vs hi hI
   repeat refine zq ?_
   refine zb fun K hK=>?_;simp only [go_sem,List.length_map]
   intro _
   refine hK _ ?_;clear hK K;refine zw (zk [1,3,39]) ?_;simp only [go_sem]
   refine zc rfl (fun hc=>?_) (fun hc=>?_) <;> (try simp only [go_sem] at hc)
   · have hci : i < r.aims.length:=by omega
     obtain ⟨a,ha⟩:=opt_of_lt hci
     have hst:=any_step (p:=bigB) ha
     rw [hI,Bool.false_or] at hst
     refine zx ?_
     try simp only [go_sem]
     refine zq ?_
     refine zd ?_
     refine zq ?_
     refine zb fun K hK=>?_;simp only [go_sem,ha,hci,aimR,List.length_map]
     intro _
     refine hK _ ?_;clear hK K;refine zw (zk [1,3,4]) ?_;simp only [go_sem]
     by_cases hb : (6 < a.beds.length ∧ a.beds.length ≤ 10) ∨ 12 < a.beds.length
     · have hB : bigB a = true:=by unfold bigB; rw [decide_eq_true hb]
       rw [any_of ha hB]
       refine zq ?_
       refine zb fun K hK=>?_;simp only [go_sem]
       repeat' first | intro _ | refine And.intro ?_ ?_
       all_goals first | omega | skip
       all_goals (refine hK _ ?_; clear hK K)
       all_goals
        refine zw (zk [59]) ?_;simp only [go_sem]
        refine zc rfl (fun hc=>?_) (fun hc=>?_) <;> (try simp only [go_sem] at hc)
        try any_goals (exfalso; omega)
        repeat refine zq ?_
        refine zb fun K hK=>?_;simp only [go_sem];refine hK _ ?_;clear hK K;refine zw (zk [2]) ?_;simp only [go_sem];refine ze ?_;simp only [go_sem]
     · have hB : bigB a = false:=by unfold bigB; rw [decide_eq_false hb]
       refine zq ?_
       refine awp_join (n:=60) (fun (_ : Unit) vs=>[(1,.r (.rp [i64 r.d,aimsR r.aims,i64 r.start,i64 r.out])),(3,.r (i64 (i : Int))),(59,.r (.bo false))]) (fun _=>[]) (fun _=>True) (fun _ h=>h) ?_ ?_
       · skip
         refine zb fun K hK=>?_;simp only [go_sem]
         repeat' first | intro _ | refine And.intro ?_ ?_
         all_goals first | omega | skip
         all_goals (refine hK _ ?_; clear hK K)
         all_goals
          refine ⟨(),trivial,fit_of [] ?_ ?_⟩
          · try simp only [go_sem]
            try simp
            try omega
          · try simp only [go_sem]
       intro _ vs _
       refine zc rfl (fun hc=>?_) (fun hc=>?_) <;> (try simp only [go_sem] at hc)
       refine zx ?_
       try simp only [go_sem]
       refine zb fun K hK=>?_;simp only [go_sem];(try simp (disch:=omega) only [zI]);refine hK _ ?_;clear hK K
       try simp only [go_sem]
       refine ⟨hci,?_,fit_of [] ?_ ?_⟩
       · rw [hst,hB]
       · try simp only [go_sem]
       · try simp only [go_sem]
   · have hie : i = r.aims.length:=by omega
     subst hie
     rw [List.take_length] at hI
     rw [hI]
     refine zf ?_;simp only [go_sem]
     refine zq ?_
     refine zb fun K hK=>?_;simp only [go_sem];refine hK _ ?_;clear hK K;refine zw (zk [2]) ?_;simp only [go_sem];refine ze ?_;simp only [go_sem]
theorem own_ok (r : Rk) (hl : r.aims.length ≤ 1000) (hb : ∀ a ∈ r.aims,a.beds.length ≤ 1000) : ACalls Tryz.prog 11 [rkR r] (rkR r):=by
 refine acalls_st (rs:=[rkR r]) [.cell 2 27] Tryz.func11 rfl (by kernel_rfl) Tryz.ntmps11 rfl (by simp) rfl fun C vs=>?_
 refine zq ?_
 refine zb fun K hK=>?_;simp only [go_sem];refine hK _ ?_;clear hK K;refine zw (sub_frzP 1 1 [i64 r.d,aimsR r.aims,i64 r.start,i64 r.out] (by omega) rfl rfl) ?_;refine zw (zk [1,2]) ?_;simp only [go_sem]
 refine zq ?_
 refine zb fun K hK=>?_;simp only [go_sem];refine hK _ ?_;clear hK K;refine zw (zk [1,2,3]) ?_;simp only [go_sem]
 repeat refine zq ?_
 refine zb fun K hK=>?_;simp only [go_sem];refine hK _ ?_;clear hK K;refine zw (zk [1,2,3,4]) ?_;simp only [go_sem];refine zd ?_;refine zw (sub_ownB 3 1 40 93 2 (by omega) (by omega) rfl rfl) ?_
 try simp only [go_sem]
 refine awp_uptoV (n:=44) r.aims.length (fun i vs=>[(1,.r (.rp [i64 r.d,aimsR r.aims,i64 r.start,i64 r.out])),(2,.pt 2 (vs 2) 0),(3,.pt 3 (vs 3) 0),(4,.r (i64 i))])
  (fun i vs=>[(2,.box [.r (i64 0),.r .ns,.r (i64 0),.r (i64 0)]),(3,.box [.r (i64 r.d),.os 40 (vs 40) 2 0 i,.r (i64 r.start),.r (i64 r.out)]),(40,.arr 93 2 ((r.aims.take i).map aimR))]) (fun _=>True) 0 (zj [] ?_ ?_) (Nat.zero_le _) trivial ?_
 · try simp only [go_sem]
 · try simp only [go_sem]
 · intro i vs hi _
   repeat refine zq ?_
   refine zb fun K hK=>?_;simp only [go_sem,List.length_map]
   intro _
   refine hK _ ?_;clear hK K;refine zw (zk [1,2,3,4,20]) ?_;simp only [go_sem]
   refine zc rfl (fun hc=>?_) (fun hc=>?_) <;> (try simp only [go_sem] at hc)
   · have hci : i < r.aims.length:=by omega
     obtain ⟨x,hx⟩:=opt_of_lt hci
     have hxb:=hb x (mem_of_opt hx)
     have hlt : (r.aims.take i).length = i:=by rw [List.length_take]; omega
     refine zx ?_
     try simp only [go_sem]
     refine zq ?_
     refine zd ?_
     refine zq ?_
     refine zb fun K hK=>?_;simp only [go_sem,hx,hci,aimR,List.length_map];refine hK _ ?_;clear hK K;refine zw (sub_frzP 5 5 [i64 x.at_,bedsR x.beds] (by omega) (by try simp only [go_sem]) (by try simp only [go_sem])) ?_;refine zw (zk [1,2,3,4,5]) ?_;simp only [go_sem]
     refine awp_dregC3 [37] [(3,some 3),(5,none)] [3] follows (by decide +kernel) (by kernel_rfl) (by simp only [keysOk,List.mem_cons,List.not_mem_nil,forall_eq_or_imp,Oc.keyOf,go_sem]; simp) (by intro k hk; simp only [List.mem_cons,List.not_mem_nil,or_false] at hk; first | (subst hk; exact ⟨_,rfl⟩) | (rcases hk with rfl | rfl <;> exact ⟨_,rfl⟩) | (rcases hk with rfl | rfl | rfl <;> exact ⟨_,rfl⟩)) fun K hK=>?_
     simp only [go_sem,hlt,List.length_map]
     (try intros)
     (try refine ⟨⟨by omega,by omega⟩,?_⟩)
     refine ⟨by omega,?_⟩
     refine hK _ ?_;clear hK K;refine zw (zk [1,2,3,4]) ?_;simp only [go_sem];refine zb fun K hK=>?_;simp only [go_sem];(try simp (disch:=omega) only [zI]);refine hK _ ?_;clear hK K
     try simp only [go_sem]
     refine ⟨hci,zj [] ?_ ?_⟩
     · try simp only [go_sem]
     · try simp only [go_sem]
       rw [take_of_opt hx]
       simp [aimR]
   · refine zf ?_;simp only [go_sem]
     refine zq ?_
     refine zb fun K hK=>?_;simp only [go_sem];refine hK _ ?_;clear hK K;refine zw (zk [2]) ?_;simp only [go_sem];refine ze ?_;simp only [go_sem]
     have : i = r.aims.length:=by omega
     subst this
     simp [List.take_of_length_le]
end Go.Proofs.YtgfbenanljjgaaaGreat.Du.Th.Ai

namespace Go.Proofs.YtgfbenanljjgaaaGreat.Du.Th
open Go Go.Oc
set_option linter.unusedSimpArgs false
set_option linter.unusedVariables false
set_option maxRecDepth 8000
instance : DecidableEq Bd:=fun a b=>decidable_of_iff (a.b = b.b ∧ a.lo = b.lo ∧ a.hi = b.hi) (by cases a; cases b; simp)
instance : DecidableEq Am:=fun a b=>decidable_of_iff (a.at_ = b.at_ ∧ a.beds = b.beds) (by cases a; cases b; simp)
theorem any_step {α : Type} {p : α → Bool} {l : List α} {k : Nat} {y : α} (hy : l[k]? = some y) : (l.take (k + 1)).any p = ((l.take k).any p || p y):=by rw [take_of_opt hy]; simp
theorem any_of {α : Type} {p : α → Bool} {l : List α} {k : Nat} {y : α} (hy : l[k]? = some y) (h : p y = true) : l.any p = true:=List.any_eq_true.2 ⟨y,mem_of_opt hy,h⟩
def greatL (l : List Am) : Bool:=decide (22 < l.length) || l.any fun a=>decide (12 < a.beds.length)
theorem alike_ok (a b : List Int) : ACalls Tryz.prog 20 [ints a,ints b] (.bo (decide (a = b))):=by
 refine acalls_st (rs:=[.bo (decide (a = b))]) [.tmp 4] Tryz.func20 rfl (by kernel_rfl) Tryz.ntmps20 rfl (by simp) rfl fun C vs=>?_
 repeat refine zq ?_
 refine zb fun K hK=>?_;simp only [go_sem];(try simp (disch:=omega) only [zI]);repeat first | intro _ | refine ⟨by omega,?_⟩
 refine hK _ ?_;clear hK K;refine zw (zk [0,1]) ?_;simp only [go_sem]
 repeat refine zq ?_
 refine zb fun K hK=>?_;simp only [go_sem];(try simp (disch:=omega) only [zI])
 intro hla hlb
 by_cases h1 : a.length = b.length
 case neg =>
  have e4 : ((a.length : Int) != b.length) = true:=by simp; omega
  rw [e4]
  repeat first | intro _ | refine ⟨by omega,?_⟩
  refine hK _ ?_;clear hK K
  repeat refine zq ?_
  refine zc rfl (fun hc=>?_) (fun hc=>?_) <;> (try simp only [go_sem] at hc)
  repeat refine zq ?_
  refine zb fun K hK=>?_;simp only [go_sem];(try simp (disch:=omega) only [zI]);repeat first | intro _ | refine ⟨by omega,?_⟩
  refine hK _ ?_;clear hK K;refine ze ?_;simp only [go_sem]
  simp
  exact fun h=>h1 (by rw [h])
 have e4 : ((a.length : Int) != b.length) = false:=by simp [h1]
 rw [e4]
 repeat first | intro _ | refine ⟨by omega,?_⟩
 refine hK _ ?_;clear hK K;refine zw (zk [0,1,10]) ?_;simp only [go_sem]
 repeat refine zq ?_
 refine zc rfl (fun hc=>?_) (fun hc=>?_) <;> (try simp only [go_sem] at hc)
 refine zx ?_
 try simp only [go_sem]
 repeat refine zq ?_
 refine zb fun K hK=>?_;simp only [go_sem];(try simp (disch:=omega) only [zI]);repeat first | intro _ | refine ⟨by omega,?_⟩
 refine hK _ ?_;clear hK K;refine zw (zk [0,1,5]) ?_;simp only [go_sem]
 repeat refine zq ?_
 refine zd ?_
 refine awp_upto (n:=26) a.length (fun i vs=>[(0,.r (ints a)),(1,.r (ints b)),(5,.r (i64 i))])
  (fun i=>[]) (fun i=>a.take i = b.take i) 0 (fit_of [] ?_ ?_) (Nat.zero_le _) (by simp) ?_
 · try simp only [go_sem]
 · try simp only [go_sem]
 · intro i vs hi hI
   repeat refine zq ?_
   refine zb fun K hK=>?_;simp only [go_sem];(try simp (disch:=omega) only [zI]);repeat first | intro _ | refine ⟨by omega,?_⟩
   refine hK _ ?_;clear hK K;refine zw (zk [0,1,5,14]) ?_;simp only [go_sem]
   repeat refine zq ?_
   refine zc rfl (fun hc=>?_) (fun hc=>?_) <;> (try simp only [go_sem] at hc)
   · skip
     have hci : i < a.length:=by omega
     have hc2 : i < b.length:=by omega
     obtain ⟨u,hu⟩:=opt_of_lt hci
     obtain ⟨v,hv⟩:=opt_of_lt hc2
     refine zx ?_
     try simp only [go_sem]
     repeat refine zq ?_
     refine zd ?_
     repeat refine zq ?_
     refine zg follows (by decide +kernel) (by kernel_rfl) fun K hK=>?_;simp only [go_sem,hu,hv,hci,hc2];(try simp (disch:=omega) only [zI]);repeat first | intro _ | refine ⟨by omega,?_⟩
     refine hK _ ?_;clear hK K
     by_cases huv : u = v
     · have e6 : (u != v) = false:=by simp [huv]
       rw [e6]
       repeat refine zq ?_
       refine zc rfl (fun hc=>?_) (fun hc=>?_) <;> (try simp only [go_sem] at hc)
       refine zx ?_
       try simp only [go_sem]
       repeat refine zq ?_
       refine zb fun K hK=>?_;simp only [go_sem];(try simp (disch:=omega) only [zI]);repeat first | intro _ | refine ⟨by omega,?_⟩
       refine hK _ ?_;clear hK K
       try simp only [go_sem]
       refine ⟨hci,?_,fit_of [] ?_ ?_⟩
       · rw [take_of_opt hu,take_of_opt hv,hI,huv]
       · try simp only [go_sem]
       · try simp only [go_sem]
     · have e6 : (u != v) = true:=by simp [huv]
       rw [e6]
       repeat refine zq ?_
       refine zc rfl (fun hc=>?_) (fun hc=>?_) <;> (try simp only [go_sem] at hc)
       repeat refine zq ?_
       refine zb fun K hK=>?_;simp only [go_sem];(try simp (disch:=omega) only [zI]);repeat first | intro _ | refine ⟨by omega,?_⟩
       refine hK _ ?_;clear hK K;refine ze ?_;simp only [go_sem]
       simp
       rintro rfl
       rw [hu] at hv
       injection hv with hv
       exact huv hv
   · skip
     refine zf ?_;simp only [go_sem]
     repeat refine zq ?_
     refine zb fun K hK=>?_;simp only [go_sem];(try simp (disch:=omega) only [zI]);repeat first | intro _ | refine ⟨by omega,?_⟩
     refine hK _ ?_;clear hK K;refine zw (zk [4]) ?_;simp only [go_sem];refine ze ?_;simp only [go_sem]
     have : i = a.length:=by omega
     subst this
     have hab : a = b:=by rwa [List.take_length,h1,List.take_length] at hI
     simp [hab]
theorem eqT95 : eqN Tryz.prog 95 = some 3:=by kernel_rfl
end Go.Proofs.YtgfbenanljjgaaaGreat.Du.Th

namespace Go.Proofs.YtgfbenanljjgaaaGreat.Du.Th.Ai
open Go Go.Oc
set_option linter.unusedSimpArgs false
set_option linter.unusedVariables false
set_option maxRecDepth 8000
set_option maxHeartbeats 8000000
def dblB (b : Bool) : List Bd:=if b then [⟨0,0,1⟩,⟨101,0,1⟩,⟨201,1,1⟩] else [⟨0,1,1⟩,⟨201,1,1⟩]
def dbl (st : Int) (b : Bool) : Rk:=⟨2,[⟨201,dblB b⟩],st,1⟩
theorem double_ok (st : Int) (b : Bool) : ACalls Tryz.prog 45 [i64 st,.bo b] (rkR (dbl st b)):=by
 refine acalls_st (rs:=[rkR (dbl st b)]) [.cell 4 27] Tryz.func45 rfl (by kernel_rfl) Tryz.ntmps45 rfl (by simp) rfl fun C vs=>?_
 refine zq ?_
 refine zb fun K hK=>?_;simp only [go_sem];refine hK _ ?_;clear hK K;refine zw (zk [0,1,4]) ?_;simp only [go_sem]
 cases b
 · refine zq ?_
   refine zb fun K hK=>?_;simp only [go_sem];refine hK _ ?_;clear hK K;refine zw (zk [0,1,4,5]) ?_;simp only [go_sem]
   repeat refine zq ?_
   refine zb fun K hK=>?_;simp only [go_sem];refine hK _ ?_;clear hK K;refine zw (zk [0,4,5,11]) ?_;simp only [go_sem]
   refine zc rfl (fun hc=>?_) (fun hc=>?_) <;> (try simp only [go_sem] at hc)
   refine zx ?_
   try simp only [go_sem]
   refine zq ?_
   refine zb fun K hK=>?_;simp only [go_sem];refine hK _ ?_;clear hK K;refine zw (zk [4]) ?_;simp only [go_sem];refine ze ?_;simp only [go_sem];exact ⟨rfl,rfl,rfl,rfl⟩
 · refine zq ?_
   refine zb fun K hK=>?_;simp only [go_sem];refine hK _ ?_;clear hK K;refine zw (zk [0,1,4,5]) ?_;simp only [go_sem]
   repeat refine zq ?_
   refine zb fun K hK=>?_;simp only [go_sem];refine hK _ ?_;clear hK K;refine zw (zk [0,4,5,11]) ?_;simp only [go_sem]
   refine zc rfl (fun hc=>?_) (fun hc=>?_) <;> (try simp only [go_sem] at hc)
   refine zb fun K hK=>?_;simp only [go_sem];refine hK _ ?_;clear hK K;refine zw (zk [0,4,5]) ?_;simp only [go_sem]
   refine zq ?_
   refine zb fun K hK=>?_;simp only [go_sem];refine hK _ ?_;clear hK K;refine zw (zk [4]) ?_;simp only [go_sem];refine ze ?_;simp only [go_sem];exact ⟨rfl,rfl,rfl,rfl⟩
theorem dbl_ok32 : ROk (dbl 3 false):=(checkR_zero (by decide +kernel)).2
theorem dbl_ok22 : ROk (dbl 2 false):=(checkR_zero (by decide +kernel)).2
theorem dbl_ok2t : ROk (dbl 2 true):=(checkR_zero (by decide +kernel)).2
theorem vok_list {l : List Int} (h : l.all (fun x=>decide (0 ≤ x) && decide (x ≤ 1000000000) || decide (x = 2000000000)) = true) : ∀ x ∈ l,VOk x:=fun x hx=>by
 have:=List.all_eq_true.1 h x hx
 simp at this
 exact this
theorem u3 : tabT (dbl 3 false) false = [0,0,1142858,2000000000]:=by
 have h1 : numA (dbl 3 false) false [0,0,0,0] 2 = 1142858:=numA_upper dbl_ok32 (vok_list (by decide)) (by decide) (by decide) (by omega) (by decide +kernel) (.inr (by decide +kernel))
 have h2 : numA (dbl 3 false) false [0,0,1142858,0] 3 = 2000000000:=numA_never dbl_ok32 (vok_list (by decide)) (by decide) (by decide) (by decide +kernel)
 show (([0,0,0,0] : List Int).set 2 (numA (dbl 3 false) false [0,0,0,0] 2)).set 3 (numA (dbl 3 false) false (([0,0,0,0] : List Int).set 2 (numA (dbl 3 false) false [0,0,0,0] 2)) 3) = _
 rw [h1]
 show ([0,0,1142858,0] : List Int).set 3 (numA (dbl 3 false) false [0,0,1142858,0] 3) = _
 rw [h2]; rfl
theorem l3 : tabT (dbl 3 false) true = [0,0,1142857,1000000000]:=by
 have h1 : numA (dbl 3 false) true [0,0,0,0] 2 = 1142857:=numA_lower dbl_ok32 (vok_list (by decide)) (by decide) (by decide) (by omega) (.inr (by decide +kernel)) (.inr (by decide +kernel))
 have h2 : numA (dbl 3 false) true [0,0,1142857,0] 3 = 1000000000:=numA_lower dbl_ok32 (vok_list (by decide)) (by decide) (by decide) (by omega) (.inr (by decide +kernel)) (.inl rfl)
 show (([0,0,0,0] : List Int).set 2 (numA (dbl 3 false) true [0,0,0,0] 2)).set 3 (numA (dbl 3 false) true (([0,0,0,0] : List Int).set 2 (numA (dbl 3 false) true [0,0,0,0] 2)) 3) = _
 rw [h1]
 show ([0,0,1142857,0] : List Int).set 3 (numA (dbl 3 false) true [0,0,1142857,0] 3) = _
 rw [h2]; rfl
theorem u2t : tabT (dbl 2 true) false = [0,0,2000000]:=by
 have h1 : numA (dbl 2 true) false [0,0,0] 2 = 2000000:=numA_upper dbl_ok2t (vok_list (by decide)) (by decide) (by decide) (by omega) (by decide +kernel) (.inr (by decide +kernel))
 show ([0,0,0] : List Int).set 2 (numA (dbl 2 true) false [0,0,0] 2) = _
 rw [h1]; rfl
theorem l2t : tabT (dbl 2 true) true = [0,0,1142857]:=by
 have h1 : numA (dbl 2 true) true [0,0,0] 2 = 1142857:=numA_lower dbl_ok2t (vok_list (by decide)) (by decide) (by decide) (by omega) (.inr (by decide +kernel)) (.inr (by decide +kernel))
 show ([0,0,0] : List Int).set 2 (numA (dbl 2 true) true [0,0,0] 2) = _
 rw [h1]; rfl
theorem u2 : tabT (dbl 2 false) false = [0,0,1142858]:=by
 have h1 : numA (dbl 2 false) false [0,0,0] 2 = 1142858:=numA_upper dbl_ok22 (vok_list (by decide)) (by decide) (by decide) (by omega) (by decide +kernel) (.inr (by decide +kernel))
 show ([0,0,0] : List Int).set 2 (numA (dbl 2 false) false [0,0,0] 2) = _
 rw [h1]; rfl
theorem aim2 : aimQ (dbl 2 false) ⟨2,2,1⟩ = (0,571429,0):=by
 unfold aimQ
 rw [u2]
 decide +kernel
theorem nev3 : nevL (dbl 3 false) (tabT (dbl 3 false) false) (cntA (dbl 3 false)) = [3]:=by
 rw [u3]
 decide +kernel
theorem wf_dbl (st : Int) (b : Bool) : WfL (dbl st b).d (dbl st b).aims:=by
 refine ⟨⟨by show (_ : Int) ≤ 2; omega,by show (2 : Int) ≤ _; omega⟩,fun a ha=>?_⟩
 simp only [dbl,List.mem_singleton] at ha
 subst ha
 refine ⟨⟨by show (_ : Int) ≤ 201; omega,by show (201 : Int) ≤ _; omega⟩,?_⟩
 cases b <;> intro x hx <;> simp [dblB] at hx <;> (first | (rcases hx with rfl | rfl | rfl) | (rcases hx with rfl | rfl)) <;> exact ⟨⟨by simp,by simp⟩,⟨by simp,by simp⟩,⟨by simp,by simp⟩⟩
theorem table_at {r : Rk} {u l : List Int} (hw : WfL r.d r.aims) (h0 : checkR r = 0) (hu : tabT r false = u) (hl : tabT r true = l) : ACalls Tryz.prog 22 [rkR r] (.tu [ints u,ints l,i64 0]):=by
 have:=table_ok r hw
 rw [h0,if_pos rfl,if_pos rfl,hu,hl] at this
 exact this
theorem known_ok : ACalls Tryz.prog 10 [] (.bo true):=by
 have d3:=double_ok 3 false
 have d2t:=double_ok 2 true
 have d2:=double_ok 2 false
 have t3:=table_at (wf_dbl 3 false) (by decide +kernel) u3 l3
 have t2:=table_at (wf_dbl 2 true) (by decide +kernel) u2t l2t
 have a2:=aim_ok (dbl 2 false) ⟨2,2,1⟩ (wf_dbl 2 false)
 rw [aim2] at a2
 have n3:=never_ok (dbl 3 false) (wf_dbl 3 false)
 rw [nev3,show checkR (dbl 3 false) = 0 by decide +kernel,if_pos rfl] at n3
 have k1:=alike_ok [0,0,1142858,2000000000] [0,0,1142858,2000000000]
 have k2:=alike_ok [0,0,1142857,1000000000] [0,0,1142857,1000000000]
 have k3:=alike_ok [0,0,2000000] [0,0,2000000]
 have k4:=alike_ok [0,0,1142857] [0,0,1142857]
 have k5:=alike_ok [3] [3]
 rw [decide_eq_true rfl] at k1 k2 k3 k4 k5
 generalize dbl 3 false = R3 at *
 generalize dbl 2 true = R2t at *
 generalize dbl 2 false = R2 at *
 refine acalls_st (rs:=[.bo true]) [.tmp 0] Tryz.func10 rfl (by kernel_rfl) Tryz.ntmps10 rfl (by simp) rfl fun C vs=>?_
 refine zq ?_
 refine zb fun K hK=>?_;simp only [go_sem];refine hK _ ?_;clear hK K
 refine zq ?_
 refine zb fun K hK=>?_;simp only [go_sem]
 refine zh (d3) rfl (by simp only [go_sem,i64,ints]) (by simp only [go_sem,i64,ints]) (by first | exact .inl rfl | exact .inr rfl) ?_
 (try simp only [go_sem])
 refine zh (t3) rfl (by simp only [go_sem,i64,ints]) (by simp only [go_sem,i64,ints]) (by first | exact .inl rfl | exact .inr rfl) ?_
 (try simp only [go_sem]);refine hK _ ?_;clear hK K;refine zw (zk [1,2,3]) ?_;simp only [go_sem]
 refine zq ?_
 refine zb fun K hK=>?_;simp only [go_sem]
 refine zh (d2t) rfl (by simp only [go_sem,i64,ints]) (by simp only [go_sem,i64,ints]) (by first | exact .inl rfl | exact .inr rfl) ?_
 (try simp only [go_sem])
 refine zh (t2) rfl (by simp only [go_sem,i64,ints]) (by simp only [go_sem,i64,ints]) (by first | exact .inl rfl | exact .inr rfl) ?_
 (try simp only [go_sem]);refine hK _ ?_;clear hK K;refine zw (zk [1,2,3,4,5,6]) ?_;simp only [go_sem]
 refine zq ?_
 refine zb fun K hK=>?_;simp only [go_sem]
 refine zh (d2) rfl (by simp only [go_sem,i64,ints]) (by simp only [go_sem,i64,ints]) (by first | exact .inl rfl | exact .inr rfl) ?_
 (try simp only [go_sem])
 refine zh (a2) rfl (by simp only [go_sem,i64,ints]) (by simp only [go_sem,i64,ints]) (by first | exact .inl rfl | exact .inr rfl) ?_
 (try simp only [go_sem]);refine hK _ ?_;clear hK K;refine zw (zk [1,2,3,4,5,6,7,8,9]) ?_;simp only [go_sem]
 refine zq ?_
 refine zb fun K hK=>?_;simp only [go_sem]
 refine zh (d3) rfl (by simp only [go_sem,i64,ints]) (by simp only [go_sem,i64,ints]) (by first | exact .inl rfl | exact .inr rfl) ?_
 (try simp only [go_sem])
 refine zh (n3) rfl (by simp only [go_sem,i64,ints]) (by simp only [go_sem,i64,ints]) (by first | exact .inl rfl | exact .inr rfl) ?_
 (try simp only [go_sem]);refine hK _ ?_;clear hK K;refine zw (zk [1,2,3,4,5,6,7,8,9,10,11]) ?_;simp only [go_sem]
 refine zq ?_
 refine zb fun K hK=>?_;simp only [go_sem]
 refine zh (k1) rfl (by simp only [go_sem,i64,ints]) (by simp only [go_sem,i64,ints]) (by first | exact .inl rfl | exact .inr rfl) ?_
 (try simp only [go_sem])
 refine zh (k2) rfl (by simp only [go_sem,i64,ints]) (by simp only [go_sem,i64,ints]) (by first | exact .inl rfl | exact .inr rfl) ?_
 (try simp only [go_sem])
 refine zh (k3) rfl (by simp only [go_sem,i64,ints]) (by simp only [go_sem,i64,ints]) (by first | exact .inl rfl | exact .inr rfl) ?_
 (try simp only [go_sem])
 refine zh (k4) rfl (by simp only [go_sem,i64,ints]) (by simp only [go_sem,i64,ints]) (by first | exact .inl rfl | exact .inr rfl) ?_
 (try simp only [go_sem])
 refine zh (k5) rfl (by simp only [go_sem,i64,ints]) (by simp only [go_sem,i64,ints]) (by first | exact .inl rfl | exact .inr rfl) ?_
 (try simp only [go_sem]);refine hK _ ?_;clear hK K;refine zw (zk [0]) ?_;simp only [go_sem];refine ze ?_;simp only [go_sem]
theorem equalT_ok (r : Rk) : ACalls Tryz.prog 15 [rkR r,rkR r] (.bo true):=by
 refine acalls_st (rs:=[.bo true]) [.tmp 4] Tryz.func15 rfl (by kernel_rfl) Tryz.ntmps15 rfl (by simp) rfl fun C vs=>?_
 refine zq ?_
 refine zb fun K hK=>?_;simp only [go_sem];refine hK _ ?_;clear hK K;refine zw (sub_frzP 2 2 [i64 r.d,aimsR r.aims,i64 r.start,i64 r.out] (by omega) rfl rfl) ?_;refine zw (sub_frzP 3 3 [i64 r.d,aimsR r.aims,i64 r.start,i64 r.out] (by omega) rfl rfl) ?_;refine zw (zk [2,3]) ?_;simp only [go_sem]
 repeat refine zq ?_
 refine zb fun K hK=>?_;simp only [go_sem,bne_self_eq_false,List.length_map]
 (try intros)
 refine hK _ ?_;clear hK K;refine zw (zk [2,3,40]) ?_;simp only [go_sem]
 refine zc rfl (fun hc=>?_) (fun hc=>?_) <;> (try simp only [go_sem] at hc)
 refine zx ?_
 try simp only [go_sem]
 repeat refine zq ?_
 refine zb fun K hK=>?_;simp only [go_sem];refine hK _ ?_;clear hK K;refine zw (zk [2,3,5]) ?_;simp only [go_sem];refine zd ?_
 refine awp_upto (n:=93) r.aims.length (fun i vs=>[(2,.r (.rp [i64 r.d,aimsR r.aims,i64 r.start,i64 r.out])),(3,.r (.rp [i64 r.d,aimsR r.aims,i64 r.start,i64 r.out])),(5,.r (i64 (i : Int)))]) (fun _=>[]) (fun _=>True) 0 (fit_of [] ?_ ?_) (Nat.zero_le _) trivial ?_
 · try simp only [go_sem]
 · try simp only [go_sem]
 intro i vs hi _
 repeat refine zq ?_
 refine zb fun K hK=>?_;simp only [go_sem,List.length_map]
 intro _
 refine hK _ ?_;clear hK K;refine zw (zk [2,3,5,46]) ?_;simp only [go_sem]
 refine zc rfl (fun hc=>?_) (fun hc=>?_) <;> (try simp only [go_sem] at hc)
 · have hci : i < r.aims.length:=by omega
   obtain ⟨a,ha⟩:=opt_of_lt hci
   refine zx ?_
   try simp only [go_sem]
   refine zq ?_
   refine zd ?_
   refine zq ?_
   refine awp_dreg2 [(2,none),(3,none),(5,none)] follows (by decide +kernel) (by kernel_rfl) (by simp only [keysOk,List.mem_cons,List.not_mem_nil,forall_eq_or_imp,Oc.keyOf,go_sem]; simp) fun K hK=>?_
   simp only [go_sem,ha,hci,Du.aimR];refine hK _ ?_;clear hK K;refine zw (sub_frzP 6 6 [i64 a.at_,bedsR a.beds] (by omega) (by try simp only [go_sem]) (by try simp only [go_sem])) ?_;refine zw (sub_frzP 7 7 [i64 a.at_,bedsR a.beds] (by omega) (by try simp only [go_sem]) (by try simp only [go_sem])) ?_;refine zw (zk [2,3,5,6,7]) ?_;simp only [go_sem]
   repeat refine zq ?_
   refine zb fun K hK=>?_;simp only [go_sem,bne_self_eq_false]
   (try intros)
   refine hK _ ?_;clear hK K;refine zw (zk [2,3,5,6,7,74]) ?_;simp only [go_sem]
   refine zc rfl (fun hc=>?_) (fun hc=>?_) <;> (try simp only [go_sem] at hc)
   refine zx ?_
   try simp only [go_sem]
   refine zq ?_
   refine zb fun K hK=>?_;simp only [go_sem];refine hK _ ?_;clear hK K;refine zw (zk [2,3,5,6,7,8]) ?_;simp only [go_sem];refine zd ?_
   refine awp_upto (n:=93) a.beds.length (fun k vs=>[(2,.r (.rp [i64 r.d,aimsR r.aims,i64 r.start,i64 r.out])),(3,.r (.rp [i64 r.d,aimsR r.aims,i64 r.start,i64 r.out])),(5,.r (i64 (i : Int))),(6,.r (.rp [i64 a.at_,bedsR a.beds])),(7,.r (.rp [i64 a.at_,bedsR a.beds])),(8,.r (i64 (k : Int)))]) (fun _=>[]) (fun _=>True) 0 (fit_of [] ?_ ?_) (Nat.zero_le _) trivial ?_
   · try simp only [go_sem]
   · try simp only [go_sem]
   intro k vs hk _
   repeat refine zq ?_
   refine zb fun K hK=>?_;simp only [go_sem,List.length_map]
   intro _
   refine hK _ ?_;clear hK K;refine zw (zk [2,3,5,6,7,8,79]) ?_;simp only [go_sem]
   refine zc rfl (fun hc=>?_) (fun hc=>?_) <;> (try simp only [go_sem] at hc)
   · have hck : k < a.beds.length:=by omega
     obtain ⟨b,hb⟩:=opt_of_lt hck
     have hT:=eqT95
     refine zx ?_
     try simp only [go_sem]
     refine zq ?_
     refine zd ?_
     refine zq ?_
     refine zg follows (by decide +kernel) (by kernel_rfl) fun K hK=>?_;simp only [go_sem,hb,hck,bedR,hT,cmpL,eq_self,if_true,List.length_cons,List.length_nil];refine hK _ ?_;clear hK K;refine zw (zk [2,3,5,6,7,8,92]) ?_;simp only [go_sem]
     refine zc rfl (fun hc=>?_) (fun hc=>?_) <;> (try simp only [go_sem] at hc)
     · exfalso; simp at hc
     refine zx ?_
     try simp only [go_sem]
     refine zb fun K hK=>?_;simp only [go_sem];(try simp (disch:=omega) only [zI]);refine hK _ ?_;clear hK K
     try simp only [go_sem]
     refine ⟨hck,fit_of [] ?_ ?_⟩
     · try simp only [go_sem]
     · try simp only [go_sem]
   · refine zf ?_;simp only [go_sem];refine zb fun K hK=>?_;simp only [go_sem];(try simp (disch:=omega) only [zI]);refine hK _ ?_;clear hK K
     try simp only [go_sem]
     refine ⟨hci,fit_of [] ?_ ?_⟩
     · try simp only [go_sem]
     · try simp only [go_sem]
 · refine zf ?_;simp only [go_sem]
   refine zq ?_
   refine zb fun K hK=>?_;simp only [go_sem];refine hK _ ?_;clear hK K;refine zw (zk [4]) ?_;simp only [go_sem];refine ze ?_;simp only [go_sem]
end Go.Proofs.YtgfbenanljjgaaaGreat.Du.Th.Ai

namespace Go.Proofs.YtgfbenanljjgaaaGreat.Du.Th
open Go Go.Oc
set_option linter.unusedSimpArgs false
set_option linter.unusedVariables false
def Bet (key : Nat → Int) (a b : Nat) : Prop:=key a < key b ∨ (key a = key b ∧ a < b)
abbrev ltK (key : Nat → Int) : Nat → Nat → Bool:=fun i k=>decide (key i < key k)
theorem Bet.trans {key : Nat → Int} {a b c : Nat} (h1 : Bet key a b) (h2 : Bet key b c) : Bet key a c:=by
 unfold Bet at *; omega
theorem Bet.asymm {key : Nat → Int} {a b : Nat} (h1 : Bet key a b) (h2 : Bet key b a) : False:=by
 unfold Bet at *; omega
theorem insB_pwK {key : Nat → Int} {x : Nat} : ∀ {R : List Nat},R.Pairwise (fun a b=>Bet key b a) → (∀ y ∈ R,y < x) → (insB (ltK key) x R).Pairwise (fun a b=>Bet key b a)
 | [],_,_=>by simp [insB]
 | y :: R, h, hx => by
   have h':=List.pairwise_cons.1 h
   unfold insB
   split
   · rename_i hl
     simp only [decide_eq_true_eq] at hl
     refine List.pairwise_cons.2 ⟨fun z hz=>?_,insB_pwK h'.2 fun z hz=>hx z (by simp [hz])⟩
     rcases (mem_insB _ _ _ _).1 hz with rfl | hz
     · exact .inl hl
     · exact h'.1 z hz
   · rename_i hl
     simp only [decide_eq_true_eq] at hl
     have hy : Bet key y x:=by
      have:=hx y (by simp)
      unfold Bet; omega
     refine List.pairwise_cons.2 ⟨fun z hz=>?_,h⟩
     rcases List.mem_cons.1 hz with rfl | hz
     · exact hy
     · exact (h'.1 z hz).trans hy
theorem sortB_pwK (key : Nat → Int) : ∀ n : Nat,(sortB (ltK key) (List.range n) []).Pairwise (fun a b=>Bet key b a)
 | 0=>by simp [sortB]
 | n + 1 => by
   rw [List.range_succ,sortB_snoc]
   refine insB_pwK (sortB_pwK key n) fun y hy=>?_
   rw [mem_sortB] at hy
   simpa using hy
theorem sortN_pwK (key : Nat → Int) (n : Nat) : (sortN (ltK key) (List.range n)).Pairwise (Bet key):=by
 unfold sortN
 exact List.pairwise_reverse.2 (sortB_pwK key n)
def pickT (key : Nat → Int) (R : Nat → Bool) : Nat → Int
 | 0=>-1
 | i + 1=>if R i = true ∧ (pickT key R i < 0 ∨ key i < key (pickT key R i).toNat) then i else pickT key R i
theorem pickT_spec (key : Nat → Int) (R : Nat → Bool) : ∀ n : Nat,(pickT key R n = -1 ∧ ∀ i,i < n → R i = false) ∨ ∃ j : Nat,j < n ∧ pickT key R n = j ∧ R j = true ∧ ∀ i,i < n → R i = true → i ≠ j → Bet key j i
 | 0=>.inl ⟨rfl,fun i h=>absurd h (Nat.not_lt_zero i)⟩
 | n + 1 => by
   simp only [pickT]
   rcases pickT_spec key R n with ⟨h1,h2⟩ | ⟨j,hj,h1,h2,h3⟩
   · cases hR : R n
     · refine .inl ⟨by simp [hR,h1],fun i hi=>?_⟩
       by_cases e : i = n
       · rw [e,hR]
       · exact h2 i (by omega)
     · refine .inr ⟨n,by omega,by simp [hR,h1],hR,fun i hi hRi hne=>?_⟩
       rw [h2 i (by omega)] at hRi
       cases hRi
   · rw [h1]
     cases hR : R n
     · refine .inr ⟨j,by omega,by simp [hR],h2,fun i hi hRi hne=>?_⟩
       by_cases e : i = n
       · rw [e,hR] at hRi; cases hRi
       · exact h3 i (by omega) hRi hne
     · by_cases hk : key n < key j
       · refine .inr ⟨n,by omega,by simp [hR,hk],hR,fun i hi hRi hne=>?_⟩
         by_cases e : i = j
         · rw [e]; exact .inl hk
         · have:=h3 i (by omega) hRi e
           unfold Bet at this ⊢; omega
       · refine .inr ⟨j,by omega,by rw [if_neg (by simp [hR,hk])],h2,fun i hi hRi hne=>?_⟩
         by_cases e : i = n
         · rw [e]; unfold Bet; omega
         · exact h3 i (by omega) hRi hne
def atO (o : List Int) (i : Nat) : Int:=(o[i]?).getD 0
def hiO (l : List Bd) (i : Nat) : Int:=(l[i]?.map (·.hi)).getD 0
theorem moreS_eq (l : List Bd) (o : List Int) (m : Int) (i : Nat) : moreS l o m i = min m (hiO l i - atO o i):=rfl
theorem atO_set (o : List Int) (i k : Nat) (v : Int) (hi : i < o.length) : atO (o.set i v) k = if i = k then v else atO o k:=by
 unfold atO
 by_cases e : i = k
 · subst e
   rw [List.getElem?_set_self hi,if_pos rfl]; rfl
 · rw [List.getElem?_set_ne e,if_neg e]
theorem set_atO (o : List Int) (i : Nat) : o.set i (atO o i) = o:=by
 unfold atO
 by_cases h : i < o.length
 · rw [List.getElem?_eq_getElem h]; simp
 · rw [List.set_eq_of_length_le (by omega)]
theorem fillS_zero (l : List Bd) : ∀ (S : List Nat) (o : List Int),(∀ i ∈ S,atO o i ≤ hiO l i) → fillS l S (o,0) = (o,0)
 | [],_,_=>rfl
 | i :: S, o, h => by
   have h1:=h i (by simp)
   have hm : moreS l o 0 i = 0:=by rw [moreS_eq]; omega
   simp only [fillS,hm,Int.add_zero,Int.sub_zero]
   rw [show (o[i]?).getD 0 = atO o i from rfl,set_atO]
   exact fillS_zero l S o fun k hk=>h k (by simp [hk])
theorem fillS_len (l : List Bd) : ∀ (S : List Nat) (x : List Int × Int),(fillS l S x).1.length = x.1.length
 | [],_=>rfl
 | i :: S,x=>by simp only [fillS]; rw [fillS_len l S]; simp
theorem fillS_other (l : List Bd) : ∀ (S : List Nat) (x : List Int × Int) (k : Nat),k ∉ S → atO (fillS l S x).1 k = atO x.1 k
 | [],_,_,_=>rfl
 | i :: S, x, k, h => by
   simp only [List.mem_cons,not_or] at h
   simp only [fillS];rw [fillS_other l S _ k h.2]
   unfold atO
   rw [List.getElem?_set_ne (fun e=>h.1 e.symm)]
theorem fill_step (l : List Bd) : ∀ (S : List Nat) (o : List Int) (k : Int),S.Nodup → (∀ i ∈ S,i < o.length ∧ atO o i ≤ hiO l i) → 0 ≤ k →
 (∀ i ∈ S,atO (fillS l S (o,k)).1 i = hiO l i) ∨
 ∃ S1 j S2, S = S1 ++ j :: S2 ∧ (∀ i ∈ S1, atO (fillS l S (o, k)).1 i = hiO l i) ∧ atO (fillS l S (o, k)).1 j < hiO l j ∧
   (fillS l S (o,k + 1)).1 = (fillS l S (o,k)).1.set j (atO (fillS l S (o,k)).1 j + 1)
 | [],_,_,_,_,_=>.inl (by simp)
 | i :: S, o, k, hn, h, hk => by
   obtain ⟨hni,hn⟩:=List.nodup_cons.1 hn
   obtain ⟨hil,hio⟩:=h i (by simp)
   by_cases hlt : k < hiO l i - atO o i
   · right
     have m1 : moreS l o k i = k:=by rw [moreS_eq]; omega
     have m2 : moreS l o (k + 1) i = k + 1:=by rw [moreS_eq]; omega
     have hS : ∀ v : Int,∀ z ∈ S,atO (o.set i v) z ≤ hiO l z:=fun v z hz=>by
      have hne : i ≠ z:=fun e=>hni (e ▸ hz)
      rw [atO_set _ _ _ _ hil,if_neg hne]
      exact (h z (by simp [hz])).2
     have e1 : (fillS l (i :: S) (o,k)).1 = o.set i (atO o i + k):=by
      simp only [fillS,m1,Int.sub_self]
      rw [show (o[i]?).getD 0 = atO o i from rfl,fillS_zero l S _ (hS _)]
     have e2 : (fillS l (i :: S) (o,k + 1)).1 = o.set i (atO o i + (k + 1)):=by
      simp only [fillS,m2,Int.sub_self]
      rw [show (o[i]?).getD 0 = atO o i from rfl,fillS_zero l S _ (hS _)]
     refine ⟨[],i,S,rfl,by simp,?_,?_⟩
     · rw [e1,atO_set _ _ _ _ hil,if_pos rfl]; omega
     · rw [e1,e2,atO_set _ _ _ _ hil,if_pos rfl,List.set_set]
       congr 1; omega
   · have m1 : moreS l o k i = hiO l i - atO o i:=by rw [moreS_eq]; omega
     have m2 : moreS l o (k + 1) i = hiO l i - atO o i:=by rw [moreS_eq]; omega
     have e1 : fillS l (i :: S) (o,k) = fillS l S (o.set i (hiO l i),k - (hiO l i - atO o i)):=by
      simp only [fillS,m1]
      rw [show (o[i]?).getD 0 = atO o i from rfl]
      congr 2
      congr 1
      omega
     have e2 : fillS l (i :: S) (o,k + 1) = fillS l S (o.set i (hiO l i),k - (hiO l i - atO o i) + 1):=by
      simp only [fillS,m2]
      rw [show (o[i]?).getD 0 = atO o i from rfl]
      congr 2
      · congr 1
        omega
      · omega
     have hfull : atO (fillS l S (o.set i (hiO l i),k - (hiO l i - atO o i))).1 i = hiO l i:=by
      rw [fillS_other l S _ i hni]
      show atO (o.set i (hiO l i)) i = _
      rw [atO_set _ _ _ _ hil,if_pos rfl]
     rw [e1,e2]
     rcases fill_step l S (o.set i (hiO l i)) (k - (hiO l i - atO o i)) hn (fun z hz=>by
      have hne : i ≠ z:=fun e=>hni (e ▸ hz)
      have:=h z (by simp [hz])
      rw [List.length_set,atO_set _ _ _ _ hil,if_neg hne]
      exact this) (by omega) with hA | ⟨S1,j,S2,hS,hA,hB,hC⟩
     · left
       intro z hz
       rcases List.mem_cons.1 hz with rfl | hz
       · exact hfull
       · exact hA z hz
     · right
       refine ⟨i :: S1,j,S2,by rw [hS]; rfl,fun z hz=>?_,hB,hC⟩
       rcases List.mem_cons.1 hz with rfl | hz
       · exact hfull
       · exact hA z hz
theorem sum_set (o : List Int) : ∀ (j : Nat) (v : Int),j < o.length → (o.set j v).sum = o.sum - atO o j + v:=by
 induction o with
 | nil=>intro j v h; simp at h
 | cons a o ih =>
   intro j v h
   cases j with
   | zero=>simp [atO]; omega
   | succ j =>
     have:=ih j v (by simpa using h)
     simp only [List.set_cons_succ,List.sum_cons,this]
     have : atO (a :: o) (j + 1) = atO o j:=by simp [atO]
     rw [this]; omega
def givenT (key : Nat → Int) (l : List Bd) (k : Int) : List Int:=(fillS l (sortN (ltK key) (List.range l.length)) (l.map (·.lo),k)).1
theorem givenT_zero (key : Nat → Int) {d : Int} {l : List Bd} (hch : chOk d l = true) : givenT key l 0 = l.map (·.lo):=by
 unfold givenT
 rw [fillS_zero]
 intro i hi
 rw [mem_sortN,List.mem_range] at hi
 obtain ⟨b,hb⟩:=opt_of_lt hi
 have:=List.all_eq_true.1 hch b (mem_of_opt hb)
 simp only [Bool.and_eq_true,decide_eq_true_eq] at this
 simp [atO,hiO,hb,this]
theorem givenT_len (key : Nat → Int) (l : List Bd) (k : Int) : (givenT key l k).length = l.length:=by
 unfold givenT; rw [fillS_len]; simp
def roomT (l : List Bd) (o : List Int) (i : Nat) : Bool:=decide (atO o i < hiO l i)
theorem sum_full : ∀ {l : List Bd} {o : List Int},o.length = l.length → (∀ i,i < l.length → atO o i = hiO l i) → o.sum = hiS l
 | [],[],_,_=>rfl
 | b :: l, a :: o, hl, h => by
   have h0:=h 0 (by simp)
   have:=sum_full (l:=l) (o:=o) (by simpa using hl) fun i hi=>by
    have:=h (i + 1) (by simp; omega)
    simpa [atO,hiO] using this
   simp only [hiS,List.map_cons,List.sum_cons] at this ⊢
   simp [atO,hiO] at h0
   omega
 | [],_ :: _,hl,_=>by simp at hl
 | _ :: _,[],hl,_=>by simp at hl
theorem givenT_step (key : Nat → Int) {d : Int} {l : List Bd} (hch : chOk d l = true) {k : Int} (hk : 0 ≤ k) (hs : (givenT key l k).sum = loS l + k) (hH : loS l + k < hiS l) :
 ∃ j : Nat,j < l.length ∧ pickT key (roomT l (givenT key l k)) l.length = j ∧ givenT key l (k + 1) = (givenT key l k).set j (atO (givenT key l k) j + 1) ∧ (givenT key l (k + 1)).sum = loS l + (k + 1) ∧ atO (givenT key l k) j < hiO l j:=by
 have hpw:=sortN_pwK key l.length
 have hmem : ∀ i,i ∈ sortN (ltK key) (List.range l.length) ↔ i < l.length:=fun i=>by rw [mem_sortN,List.mem_range]
 have hnd : (sortN (ltK key) (List.range l.length)).Nodup:=hpw.imp fun {a b} h e=>by subst e; exact h.asymm h
 have hlen:=givenT_len key l k
 rcases fill_step l (sortN (ltK key) (List.range l.length)) (l.map (·.lo)) k hnd (fun i hi=>by
  rw [hmem] at hi
  obtain ⟨b,hb⟩:=opt_of_lt hi
  have:=List.all_eq_true.1 hch b (mem_of_opt hb)
  simp only [Bool.and_eq_true,decide_eq_true_eq] at this
  refine ⟨by simpa using hi,?_⟩
  simp [atO,hiO,hb,this]) hk with hA | ⟨S1,j,S2,hS,hA,hB,hC⟩
 · exfalso
   have:=sum_full (l:=l) (o:=givenT key l k) hlen fun i hi=>hA i ((hmem i).2 hi)
   omega
 · have hj : j < l.length:=(hmem j).1 (by rw [hS]; simp)
   refine ⟨j,hj,?_,hC,?_,hB⟩
   · have hroom : roomT l (givenT key l k) j = true:=by
      unfold roomT givenT; simpa using hB
     rcases pickT_spec key (roomT l (givenT key l k)) l.length with ⟨_,h2⟩ | ⟨i,hi,h1,h2,h3⟩
     · rw [h2 j hj] at hroom; cases hroom
     · by_cases e : i = j
       · rw [h1,e]
       exfalso
       have b1 : Bet key i j:=h3 j hj hroom (fun e'=>e e'.symm)
       have hi' : i ∈ S1 ++ j :: S2:=by rw [← hS]; exact (hmem i).2 hi
       rw [hS] at hpw
       rcases List.mem_append.1 hi' with hi' | hi'
       · have : roomT l (givenT key l k) i = false:=by
          unfold roomT
          have:=hA i hi'
          unfold givenT
          rw [this]; simp
         rw [this] at h2; cases h2
       · rcases List.mem_cons.1 hi' with rfl | hi'
         · exact e rfl
         · have:=List.pairwise_append.1 hpw
           have b2:=(List.pairwise_cons.1 this.2.1).1 i hi'
           exact b1.asymm b2
   · rw [show givenT key l (k + 1) = (givenT key l k).set j (atO (givenT key l k) j + 1) from hC,sum_set _ _ _ (by omega),hs]
     omega
def keyG (g : Bool) (vals : List Int) (i : Nat) : Int:=if g then -((vals[i]?).getD 0) else (vals[i]?).getD 0
def cmG (g : Bool) : Int → Int → Int:=if g then fun x y=>cmpI y x else cmpI
theorem keyLt_G (g : Bool) (vals : List Int) : keyLt (cmG g) vals = ltK (keyG g vals):=by
 funext i k
 unfold keyLt ltK keyG cmG cmpI
 cases g
 · simp only [Bool.false_eq_true,if_false]
   congr 1
   rw [eq_iff_iff]
   split
   · simp_all
   · split <;> simp_all
 · simp only [if_true]
   congr 1
   rw [eq_iff_iff]
   split
   · rename_i h; simp; omega
   · split
     · rename_i h _; simp; omega
     · rename_i h _; simp; omega
theorem filledV_G (g : Bool) (d : Int) (l : List Bd) (vals : List Int) : filledV (cmG g) d l vals = givenT (keyG g vals) l (d - loS l):=by
 unfold filledV givenT startF
 rw [keyLt_G]
set_option maxRecDepth 8000
theorem refScore_ok (b : Int) (h0 : 0 ≤ b) (h1 : b ≤ 499) : ACalls Tryz.prog 81 [i64 b] (i64 (scoreOf b)):=by
 have hq:=tdiv100 (b:=b) ⟨by omega,by omega⟩
 have hm:=score_mul h0 h1
 refine acalls_st (rs:=[i64 (scoreOf b)]) [.tmp 2] Tryz.func81 rfl (by kernel_rfl) Tryz.ntmps81 rfl (by simp) rfl fun C vs=>?_
 repeat refine zq ?_
 refine zb fun K hK=>?_;simp only [go_sem];(try simp (disch:=omega) only [zI]);repeat first | intro _ | refine ⟨by omega,?_⟩
 refine hK _ ?_;clear hK K
 repeat refine zq ?_
 refine zb fun K hK=>?_;simp only [go_sem,hq,hm];(try simp (disch:=omega) only [zI]);repeat first | intro _ | refine ⟨by omega,?_⟩
 refine hK _ ?_;clear hK K;refine ze ?_;simp only [go_sem]
theorem refBed_ok (b : Int) (hb : I64 b) : ACalls Tryz.prog 155 [i64 b] (.bo (bedOk b)):=by
 have hq:=tdiv100 hb
 refine acalls_st (rs:=[.bo (bedOk b)]) [.tmp 2] Tryz.func155 rfl (by kernel_rfl) Tryz.ntmps155 rfl (by simp) rfl fun C vs=>?_
 repeat refine zq ?_
 refine zb fun K hK=>?_;simp only [go_sem];(try simp (disch:=omega) only [zI]);repeat first | intro _ | refine ⟨by omega,?_⟩
 refine hK _ ?_;clear hK K
 repeat refine zq ?_
 refine zb fun K hK=>?_;simp only [go_sem];(try simp (disch:=omega) only [zI])
 have fin1 : b = 125 ∨ b = 225 → bedOk b = true:=fun h=>by rcases h with rfl | rfl <;> rfl
 refine ⟨fun h1=>?_,fun h1=>?_⟩
 · repeat first | intro _ | refine ⟨by omega,?_⟩
   refine hK _ ?_;clear hK K
   have e : (b == 225) = decide (b = 225):=by rw [Bool.eq_iff_iff]; simp
   rw [e]
   by_cases h2 : b = 225
   · subst h2
     repeat refine zq ?_
     refine zc rfl (fun hc=>?_) (fun hc=>?_) <;> (try simp only [go_sem] at hc)
     repeat refine zq ?_
     refine zb fun K hK=>?_;simp only [go_sem];(try simp (disch:=omega) only [zI]);repeat first | intro _ | refine ⟨by omega,?_⟩
     refine hK _ ?_;clear hK K;refine ze ?_;simp only [go_sem]
     rfl
   · repeat refine zq ?_
     refine zc rfl (fun hc=>?_) (fun hc=>?_) <;> (try simp only [go_sem] at hc)
     · omega
     refine zx ?_
     try simp only [go_sem]
     repeat refine zq ?_
     refine zb fun K hK=>?_;simp only [go_sem,hq];(try simp (disch:=omega) only [zI]);repeat first | intro _ | refine ⟨by omega,?_⟩
     refine hK _ ?_;clear hK K
     repeat refine zq ?_
     refine zb fun K hK=>?_;simp only [go_sem];(try simp (disch:=omega) only [zI])
     have hw : bedOk b = (decide (0 < b) && decide (1 ≤ b.tdiv 100) && decide (b.tdiv 100 ≤ 4) && decide (1 ≤ b.tmod 100) && decide (b.tmod 100 ≤ 20)):=by
      rw [← bedOk_within]
      have e1 : (b == 125) = false:=by simpa using h1
      have e2 : (b == 225) = false:=by simpa using h2
      have e3 : decide (0 < b) = false → decide (1 ≤ b.tdiv 100) = false:=fun h=>by
       have h3 : ¬ 0 < b:=by simpa using h
       have:=tdiv_lt (b:=b) (by omega)
       simp; omega
      rw [e1,e2]
      unfold withinL
      cases h4 : decide (0 < b)
      · simp [e3 h4]
      · simp [Bool.and_assoc]
     repeat' first | intro _ | refine And.intro ?_ ?_
     all_goals first | omega | skip
     all_goals (refine hK _ ?_; clear hK K)
     all_goals (refine ze ?_; simp only [go_sem])
     all_goals (rw [hw]; clear hw; simp [*]; try omega)
 · subst h1
   repeat first | intro _ | refine ⟨by omega,?_⟩
   refine hK _ ?_;clear hK K
   repeat refine zq ?_
   refine zc rfl (fun hc=>?_) (fun hc=>?_) <;> (try simp only [go_sem] at hc)
   repeat refine zq ?_
   refine zb fun K hK=>?_;simp only [go_sem];(try simp (disch:=omega) only [zI]);repeat first | intro _ | refine ⟨by omega,?_⟩
   refine hK _ ?_;clear hK K;refine ze ?_;simp only [go_sem]
   rfl
def goodV (a : Am) : Bool:=bedOk a.at_ && !a.beds.isEmpty && decide (a.beds.length ≤ 10) && seqOk none a.beds
theorem good_ok (x0 : Am) (hw0 : WfA x0) : ACalls Tryz.prog 113 [aimV x0] (.bo (goodV x0)):=by
 obtain ⟨a,l⟩:=x0
 obtain ⟨ha,hw⟩:=hw0
 simp only at ha hw
 refine acalls_st (rs:=[.bo (goodV ⟨a,l⟩)]) [.tmp 2] Tryz.func113 rfl (by kernel_rfl) Tryz.ntmps113 rfl (by simp) rfl fun C vs=>?_
 refine zq ?_
 refine zb fun K hK=>?_;simp only [go_sem];refine hK _ ?_;clear hK K;refine zw (sub_frzP 1 1 [i64 a,bedsR l] (by omega) rfl rfl) ?_;refine zw (zk [1]) ?_;simp only [go_sem]
 repeat refine zq ?_
 refine zb fun K hK=>?_;simp only [go_sem]
 refine zh (refBed_ok a ha) rfl (by simp only [go_sem,i64,ints]) (by simp only [go_sem,i64,ints]) (by first | exact .inl rfl | exact .inr rfl) ?_
 (try simp only [go_sem])
 cases hA : bedOk a
 · try simp only [go_sem]
   refine hK _ ?_;clear hK K;refine zw (zk [1,19]) ?_;simp only [go_sem]
   refine zc rfl (fun hc=>?_) (fun hc=>?_) <;> (try simp only [go_sem] at hc)
   refine zq ?_
   refine zb fun K hK=>?_;simp only [go_sem];refine hK _ ?_;clear hK K;refine ze ?_;simp only [go_sem]
   simp [goodV,hA]
 try simp only [go_sem]
 intro hl0
 refine ⟨fun h10=>?_,fun h10=>?_⟩
 rotate_left
 · skip
   refine hK _ ?_;clear hK K;refine zw (zk [1,19]) ?_;simp only [go_sem]
   refine zc rfl (fun hc=>?_) (fun hc=>?_) <;> (try simp only [go_sem] at hc)
   refine zq ?_
   refine zb fun K hK=>?_;simp only [go_sem];refine hK _ ?_;clear hK K;refine ze ?_;simp only [go_sem]
   have : l = []:=List.eq_nil_of_length_eq_zero (by omega)
   simp [goodV,this]
 intro _
 refine hK _ ?_;clear hK K;refine zw (zk [1,19]) ?_;simp only [go_sem]
 have hne : l ≠ []:=fun h=>by subst h; simp at h10
 refine zc rfl (fun hc=>?_) (fun hc=>?_) <;> (try simp only [go_sem] at hc)
 · refine zq ?_
   refine zb fun K hK=>?_;simp only [go_sem];refine hK _ ?_;clear hK K;refine zw (zk [2]) ?_;simp only [go_sem];refine ze ?_;simp only [go_sem]
   have : ¬ l.length ≤ 10:=by omega
   simp [goodV,this]
 have hl10 : l.length ≤ 10:=by omega
 refine zx ?_
 try simp only [go_sem]
 repeat refine zq ?_
 refine zb fun K hK=>?_;simp only [go_sem];refine hK _ ?_;clear hK K;refine zw (zk [1,3]) ?_;simp only [go_sem];refine zd ?_
 refine awp_upto (n:=64) l.length (fun i vs=>[(1,.r (.rp [i64 a,bedsR l])),(3,.r (i64 i))])
  (fun i=>[]) (fun i=>seqOk none l = seqOk (prevB l i) (l.drop i)) 0 (fit_of [] ?_ ?_) (Nat.zero_le _) rfl ?_
 · try simp only [go_sem]
 · try simp only [go_sem]
 · intro i vs hi hI
   repeat refine zq ?_
   refine zb fun K hK=>?_;simp only [go_sem]
   intro _
   refine hK _ ?_;clear hK K;refine zw (zk [1,3,24]) ?_;simp only [go_sem]
   refine zc rfl (fun hc=>?_) (fun hc=>?_) <;> (try simp only [go_sem] at hc)
   · have hci:=hc
     obtain ⟨x,hx⟩:=opt_of_lt hc
     rw [drop_of_opt hx] at hI
     obtain ⟨hxb,_,_⟩:=hw x (mem_of_opt hx)
     have hB : ACalls Tryz.prog 155 [i64 x.b] (.bo (bedOk x.b)):=refBed_ok x.b hxb
     refine zx ?_
     refine zq ?_
     refine zd ?_
     have hp : ∀ q,prevB l i = some q → ∃ y j,i = j + 1 ∧ l[j]? = some y ∧ q = y.b:=fun q hq=>by
      cases i with
      | zero=>cases hq
      | succ j =>
        obtain ⟨y,hy⟩:=opt_of_lt (l:=l) (i:=j) (by omega)
        simp only [prevB,hy,Option.map_some,Option.some.injEq] at hq
        exact ⟨y,j,rfl,hy,hq.symm⟩
     cases hb0 : decide (x.b = 0) || bedOk x.b
     · have h0 : (x.b != 0) = true:=by simp_all
       have h1 : bedOk x.b = false:=by simp_all
       rw [h1] at hB
       refine zq ?_
       refine zg follows (by decide +kernel) (by kernel_rfl) fun K hK=>?_;simp only [go_sem,hx,hci,bedR,h0]
       refine zh (hB) rfl (by simp only [go_sem,i64,ints]) (by simp only [go_sem,i64,ints]) (by first | exact .inl rfl | exact .inr rfl) ?_
       (try simp only [go_sem]);refine hK _ ?_;clear hK K;refine zw (zk [1,3,63]) ?_;simp only [go_sem]
       refine zc rfl (fun hc=>?_) (fun hc=>?_) <;> (try simp only [go_sem] at hc)
       refine zq ?_
       refine zb fun K hK=>?_;simp only [go_sem];refine hK _ ?_;clear hK K;refine ze ?_;simp only [go_sem]
       simp [hI,seqOk,hb0,goodV]
     have hnx : prevB l (i + 1) = some x.b:=by simp [prevB,hx]
     have hstep : seqOk none l = ((match prevB l i with | none=>true | some q=>decide (q < x.b)) && seqOk (prevB l (i + 1)) (l.drop (i + 1))):=by
      rw [hI,hnx]
      simp only [seqOk,hb0,Bool.true_and]
      cases prevB l i <;> rfl
     cases i with
     | zero =>
       have hp0 : seqOk none l = seqOk (prevB l 1) (l.drop 1):=by simpa [prevB] using hstep
       by_cases h0 : x.b = 0
       · have e0 : (x.b != 0) = false:=by simp [h0]
         refine zq ?_
         refine zg follows (by decide +kernel) (by kernel_rfl) fun K hK=>?_;simp only [go_sem,hx,hci,bedR,e0]
         refine ⟨by omega,?_⟩
         refine hK _ ?_;clear hK K;refine zw (zk [1,3,63]) ?_;simp only [go_sem]
         refine zc rfl (fun hc=>?_) (fun hc=>?_) <;> (try simp only [go_sem] at hc)
         refine zx ?_
         try simp only [go_sem]
         refine zb fun K hK=>?_;simp only [go_sem];(try simp (disch:=omega) only [zI]);refine hK _ ?_;clear hK K
         try simp only [go_sem]
         exact ⟨by omega,hp0,fit_of [] (by try simp only [go_sem]) (by try simp only [go_sem])⟩
       · have e0 : (x.b != 0) = true:=by simp [h0]
         have e1 : bedOk x.b = true:=by simpa [h0] using hb0
         rw [e1] at hB
         refine zq ?_
         refine zg follows (by decide +kernel) (by kernel_rfl) fun K hK=>?_;simp only [go_sem,hx,hci,bedR,e0]
         repeat refine ⟨by omega,?_⟩
         refine zh (hB) rfl (by simp only [go_sem,i64,ints]) (by simp only [go_sem,i64,ints]) (by first | exact .inl rfl | exact .inr rfl) ?_
         (try simp only [go_sem]);refine hK _ ?_;clear hK K;refine zw (zk [1,3,63]) ?_;simp only [go_sem]
         refine zc rfl (fun hc=>?_) (fun hc=>?_) <;> (try simp only [go_sem] at hc)
         refine zx ?_
         try simp only [go_sem]
         refine zb fun K hK=>?_;simp only [go_sem];(try simp (disch:=omega) only [zI]);refine hK _ ?_;clear hK K
         try simp only [go_sem]
         exact ⟨by omega,hp0,fit_of [] (by try simp only [go_sem]) (by try simp only [go_sem])⟩
     | succ j =>
       obtain ⟨y,hy⟩:=opt_of_lt (l:=l) (i:=j) (by omega)
       have hpy : prevB l (j + 1) = some y.b:=by simp [prevB,hy]
       rw [hpy] at hstep
       have hj1 : IntKind.i64.wrap ((j : Int) + 1 - 1) = (j : Int):=by rw [zI] <;> omega
       have hj2 : j < l.length:=by omega
       have hj0 : (0 < (j : Int) + 1) = True:=by simp
       have go : ∀ (e : Bool),decide (x.b ≤ y.b) = e → (e = true → seqOk none l = false) ∧ (e = false → seqOk none l = seqOk (prevB l (j + 1 + 1)) (l.drop (j + 1 + 1))):=fun e he=>by
        refine ⟨fun h=>?_,fun h=>?_⟩
        · have : decide (y.b < x.b) = false:=by simp_all
          rw [hstep]; simp [this]
        · have : decide (y.b < x.b) = true:=by simp_all
          rw [hstep]; simp [this]
       obtain ⟨go1,go2⟩:=go _ rfl
       by_cases h0 : x.b = 0
       · have e0 : (x.b != 0) = false:=by simp [h0]
         refine zq ?_
         refine zg follows (by decide +kernel) (by kernel_rfl) fun K hK=>?_;simp only [go_sem,hx,hci,e0,hj1,hj0,hy,bedR]
         repeat refine ⟨by omega,?_⟩
         refine hK _ ?_;clear hK K;refine zw (zk [1,3,63]) ?_;simp only [go_sem]
         cases hle : decide (x.b ≤ y.b)
         · skip
           refine zc rfl (fun hc=>?_) (fun hc=>?_) <;> (try simp only [go_sem] at hc)
           refine zx ?_
           try simp only [go_sem]
           refine zb fun K hK=>?_;simp only [go_sem];(try simp (disch:=omega) only [zI]);refine hK _ ?_;clear hK K
           try simp only [go_sem]
           exact ⟨by omega,go2 hle,fit_of [] (by try simp only [go_sem]) (by try simp only [go_sem])⟩
         · skip
           refine zc rfl (fun hc=>?_) (fun hc=>?_) <;> (try simp only [go_sem] at hc)
           refine zq ?_
           refine zb fun K hK=>?_;simp only [go_sem];refine hK _ ?_;clear hK K;refine ze ?_;simp only [go_sem]
           simp [go1 hle,goodV]
       · have e0 : (x.b != 0) = true:=by simp [h0]
         have e1 : bedOk x.b = true:=by simpa [h0] using hb0
         rw [e1] at hB
         refine zq ?_
         refine zg follows (by decide +kernel) (by kernel_rfl) fun K hK=>?_;simp only [go_sem,hx,hci,e0,hj1,hj0,hy,bedR]
         repeat refine ⟨by omega,?_⟩
         refine zh (hB) rfl (by simp only [go_sem,i64,ints,hj1,hj0,hx,hci,hy,bedR]) (by simp only [go_sem,i64,ints,hj1,hj0,hx,hci,hy,bedR]) (by first | exact .inl rfl | exact .inr rfl) ?_
         (try simp only [go_sem,hj1,hj0,hx,hci,hy,bedR])
         repeat refine ⟨by omega,?_⟩
         refine hK _ ?_;clear hK K;refine zw (zk [1,3,63]) ?_;simp only [go_sem]
         cases hle : decide (x.b ≤ y.b)
         · skip
           refine zc rfl (fun hc=>?_) (fun hc=>?_) <;> (try simp only [go_sem] at hc)
           refine zx ?_
           try simp only [go_sem]
           refine zb fun K hK=>?_;simp only [go_sem];(try simp (disch:=omega) only [zI]);refine hK _ ?_;clear hK K
           try simp only [go_sem]
           exact ⟨by omega,go2 hle,fit_of [] (by try simp only [go_sem]) (by try simp only [go_sem])⟩
         · skip
           refine zc rfl (fun hc=>?_) (fun hc=>?_) <;> (try simp only [go_sem] at hc)
           refine zq ?_
           refine zb fun K hK=>?_;simp only [go_sem];refine hK _ ?_;clear hK K;refine ze ?_;simp only [go_sem]
           simp [go1 hle,goodV]
   · refine zf ?_;simp only [go_sem]
     refine zq ?_
     refine zb fun K hK=>?_;simp only [go_sem];refine hK _ ?_;clear hK K;refine zw (zk [2]) ?_;simp only [go_sem];refine ze ?_;simp only [go_sem]
     have : l.drop i = []:=List.drop_eq_nil_of_le (by omega)
     simp [goodV,hI,this,seqOk,hA,hne,hl10]
def aimOk10 (d : Int) (a : Am) : Bool:=aimOk d a && decide (a.beds.length ≤ 10)
theorem refAim_ok (x0 : Am) (d : Int) (hw0 : WfA x0) (hd : d ≤ 6000) : ACalls Tryz.prog 80 [aimV x0,i64 d] (.bo (aimOk10 d x0)):=by
 obtain ⟨a,l⟩:=x0
 refine acalls_st (rs:=[.bo (aimOk10 d ⟨a,l⟩)]) [.tmp 4] Tryz.func80 rfl (by kernel_rfl) Tryz.ntmps80 rfl (by simp) rfl fun C vs=>?_
 refine zq ?_
 refine zb fun K hK=>?_;simp only [go_sem];refine hK _ ?_;clear hK K;refine zw (sub_frzP 2 2 [i64 a,bedsR l] (by omega) rfl rfl) ?_;refine zw (zk [1,2]) ?_;simp only [go_sem]
 repeat refine zq ?_
 refine zb fun K hK=>?_;simp only [go_sem]
 refine zh (good_ok ⟨a,l⟩ hw0) rfl (by simp only [go_sem,i64,ints]) (by simp only [go_sem,i64,ints]) (by first | exact .inl rfl | exact .inr rfl) ?_
 (try simp only [go_sem])
 cases hG : goodV ⟨a,l⟩
 · skip
   refine hK _ ?_;clear hK K;refine zw (zk [1,2,11]) ?_;simp only [go_sem]
   refine zc rfl (fun hc=>?_) (fun hc=>?_) <;> (try simp only [go_sem] at hc)
   refine zq ?_
   refine zb fun K hK=>?_;simp only [go_sem];refine hK _ ?_;clear hK K;refine ze ?_;simp only [go_sem]
   have : aimOk10 d ⟨a,l⟩ = false:=by
    unfold goodV at hG
    unfold aimOk10 aimOk
    cases h1 : bedOk a <;> cases h2 : l.isEmpty <;> cases h3 : decide (l.length ≤ 10) <;> cases h4 : seqOk none l <;> simp_all
   simp [this]
 have hl10 : l.length ≤ 10:=by simp [goodV] at hG; exact hG.1.2
 have hG' : bedOk a = true ∧ l.isEmpty = false ∧ seqOk none l = true:=by
  simp [goodV] at hG; simp [hG]
 refine hK _ ?_;clear hK K;refine zw (zk [1,2,11]) ?_;simp only [go_sem]
 refine zc rfl (fun hc=>?_) (fun hc=>?_) <;> (try simp only [go_sem] at hc)
 refine zx ?_
 try simp only [go_sem]
 refine zq ?_
 refine zb fun K hK=>?_;simp only [go_sem];refine hK _ ?_;clear hK K;refine zw (zk [1,2,5,6]) ?_;simp only [go_sem]
 repeat refine zq ?_
 refine zb fun K hK=>?_;simp only [go_sem];refine hK _ ?_;clear hK K;refine zw (zk [1,2,5,6,7]) ?_;simp only [go_sem];refine zd ?_
 refine awp_upto (n:=57) l.length (fun i vs=>[(1,.r (i64 d)),(2,.r (.rp [i64 a,bedsR l])),(5,.r (i64 (loS (l.take i)))),(6,.r (i64 (hiS (l.take i)))),(7,.r (i64 i))])
  (fun i=>[]) (fun i=>chOk d (l.take i) = true) 0 (fit_of [] ?_ ?_) (Nat.zero_le _) rfl ?_
 · try simp only [go_sem]
   simp [loS,hiS]
 · try simp only [go_sem]
 · intro i vs hi hI
   have hb:=sums_le (chOk_small hI hd)
   have hli : (l.take i).length ≤ 10:=by rw [List.length_take]; omega
   repeat refine zq ?_
   refine zb fun K hK=>?_;simp only [go_sem]
   intro _
   refine hK _ ?_;clear hK K;refine zw (zk [1,2,5,6,7,16]) ?_;simp only [go_sem]
   refine zc rfl (fun hc=>?_) (fun hc=>?_) <;> (try simp only [go_sem] at hc)
   · skip
     have hci:=hc
     obtain ⟨x,hx⟩:=opt_of_lt hc
     have htk:=take_of_opt hx
     have hch : chOk d (l.take (i + 1)) = (chOk d (l.take i) && (decide (0 ≤ x.lo) && decide (x.lo ≤ x.hi) && decide (x.hi ≤ d))):=by
      rw [htk]; simp [chOk]
     have bad : (decide (0 ≤ x.lo) && decide (x.lo ≤ x.hi) && decide (x.hi ≤ d)) = false → aimOk10 d ⟨a,l⟩ = false:=fun h=>by
      have : chOk d l = false:=by
       show (l.all fun x=>decide (0 ≤ x.lo) && decide (x.lo ≤ x.hi) && decide (x.hi ≤ d)) = false
       exact List.all_eq_false.2 ⟨x,mem_of_opt hx,by simp only [h]; simp⟩
      simp [aimOk10,aimOk,this]
     refine zx ?_
     try simp only [go_sem]
     refine zq ?_
     refine zd ?_
     refine zq ?_
     refine zb fun K hK=>?_;simp only [go_sem,hx,hci,bedR];refine hK _ ?_;clear hK K;refine zw (sub_frzP 8 8 [i64 x.lo,i64 x.hi] (by omega) rfl rfl) ?_;refine zw (zk [1,2,5,6,7,8]) ?_;simp only [go_sem]
     by_cases h1 : x.lo < 0
     · have e1 : decide (x.lo < 0) = true:=by simpa using h1
       repeat refine zq ?_
       refine zb fun K hK=>?_;simp only [go_sem,e1];refine hK _ ?_;clear hK K;refine zw (zk [1,2,5,6,7,8,40]) ?_;simp only [go_sem]
       refine zc rfl (fun hc=>?_) (fun hc=>?_) <;> (try simp only [go_sem] at hc)
       refine zq ?_
       refine zb fun K hK=>?_;simp only [go_sem];refine hK _ ?_;clear hK K;refine ze ?_;simp only [go_sem]
       simp [bad (by simp; omega)]
     have e1 : decide (x.lo < 0) = false:=by simpa using h1
     by_cases h2 : x.hi < x.lo
     · have e2 : decide (x.hi < x.lo) = true:=by simpa using h2
       repeat refine zq ?_
       refine zb fun K hK=>?_;simp only [go_sem,e1,e2];refine hK _ ?_;clear hK K;refine zw (zk [1,2,5,6,7,8,40]) ?_;simp only [go_sem]
       refine zc rfl (fun hc=>?_) (fun hc=>?_) <;> (try simp only [go_sem] at hc)
       refine zq ?_
       refine zb fun K hK=>?_;simp only [go_sem];refine hK _ ?_;clear hK K;refine ze ?_;simp only [go_sem]
       simp [bad (by simp; omega)]
     have e2 : decide (x.hi < x.lo) = false:=by simpa using h2
     repeat refine zq ?_
     refine zb fun K hK=>?_;simp only [go_sem,e1,e2];refine hK _ ?_;clear hK K;refine zw (zk [1,2,5,6,7,8,40]) ?_;simp only [go_sem]
     refine zc rfl (fun hc=>?_) (fun hc=>?_) <;> (try simp only [go_sem] at hc)
     · skip
       refine zq ?_
       refine zb fun K hK=>?_;simp only [go_sem];refine hK _ ?_;clear hK K;refine zw (zk [4]) ?_;simp only [go_sem];refine ze ?_;simp only [go_sem]
       simp [bad (by simp; omega)]
     · skip
       refine zx ?_
       try simp only [go_sem]
       refine zg follows (by decide +kernel) (by kernel_rfl) fun K hK=>?_;simp only [go_sem];(try simp (disch:=omega) only [zI]);refine hK _ ?_;clear hK K;refine zw (zk [1,2,5,6,7]) ?_;simp only [go_sem];refine zb fun K hK=>?_;simp only [go_sem];(try simp (disch:=omega) only [zI]);refine hK _ ?_;clear hK K
       try simp only [go_sem]
       refine ⟨hci,?_,fit_of [] ?_ ?_⟩
       · rw [hch,hI]; simp; omega
       · rw [htk,loS_snoc,hiS_snoc]
         try simp only [go_sem]
       · try simp only [go_sem]
   · skip
     refine zf ?_;simp only [go_sem]
     have : i = l.length:=by omega
     subst this
     rw [List.take_length] at hI hb hli ⊢
     have res : aimOk10 d ⟨a,l⟩ = (decide (loS l ≤ d) && decide (d ≤ hiS l)):=by
      simp [aimOk10,aimOk,hG',hI,hl10]
     refine zq ?_
     refine zb fun K hK=>?_;simp only [go_sem]
     repeat' first | intro _ | refine And.intro ?_ ?_
     all_goals first | omega | skip
     all_goals (refine hK _ ?_; clear hK K)
     all_goals (refine ze ?_; simp only [go_sem])
     all_goals simp_all
theorem refCheck_ok (d : Int) (l : List Am) (hw : WfL d l) : ACalls Tryz.prog 53 [lawV d l] (i64 (checkV d l)):=by
 refine acalls_st (rs:=[i64 (checkV d l)]) [.tmp 2] Tryz.func53 rfl (by kernel_rfl) Tryz.ntmps53 rfl (by simp) rfl fun C vs=>?_
 refine zq ?_
 refine zb fun K hK=>?_;simp only [go_sem];refine hK _ ?_;clear hK K;refine zw (sub_frzP 1 1 [i64 d,aimsR l] (by omega) rfl rfl) ?_;refine zw (zk [1]) ?_;simp only [go_sem]
 repeat refine zq ?_
 refine zb fun K hK=>?_;simp only [go_sem]
 intro hl0
 refine hK _ ?_;clear hK K;refine zw (zk [1,8]) ?_;simp only [go_sem]
 refine zc rfl (fun hc=>?_) (fun hc=>?_) <;> (try simp only [go_sem] at hc)
 · skip
   refine zq ?_
   refine zb fun K hK=>?_;simp only [go_sem];refine hK _ ?_;clear hK K;refine zw (zk [2]) ?_;simp only [go_sem];refine ze ?_;simp only [go_sem]
   have : 20 < l.length:=by omega
   simp [checkV,this]
 · skip
   have hl : ¬ 20 < l.length:=by omega
   refine zx ?_
   try simp only [go_sem]
   repeat refine zq ?_
   refine zb fun K hK=>?_;simp only [go_sem];refine hK _ ?_;clear hK K;refine zw (zk [1,3]) ?_;simp only [go_sem];refine zd ?_
   refine awp_upto (n:=54) l.length (fun i vs=>[(1,.r (.rp [i64 d,aimsR l])),(3,.r (i64 i))])
    (fun i=>[]) (fun i=>(l.take i).any (fun a=>decide (10 < a.beds.length)) = false) 0 (fit_of [] ?_ ?_) (Nat.zero_le _) rfl ?_
   · try simp only [go_sem]
   · try simp only [go_sem]
   · intro i vs hi hI
     repeat refine zq ?_
     refine zb fun K hK=>?_;simp only [go_sem]
     intro _
     refine hK _ ?_;clear hK K;refine zw (zk [1,3,13]) ?_;simp only [go_sem]
     refine zc rfl (fun hc=>?_) (fun hc=>?_) <;> (try simp only [go_sem] at hc)
     · skip
       have hci:=hc
       obtain ⟨x,hx⟩:=opt_of_lt hc
       refine zx ?_
       try simp only [go_sem]
       refine zq ?_
       refine zd ?_
       refine zq ?_
       refine zb fun K hK=>?_;simp only [go_sem,hx,hci,aimR]
       intro _
       refine hK _ ?_;clear hK K;refine zw (zk [1,3,23]) ?_;simp only [go_sem]
       refine zc rfl (fun hc=>?_) (fun hc=>?_) <;> (try simp only [go_sem] at hc)
       · skip
         refine zq ?_
         refine zb fun K hK=>?_;simp only [go_sem];refine hK _ ?_;clear hK K;refine zw (zk [2]) ?_;simp only [go_sem];refine ze ?_;simp only [go_sem]
         have : 10 < x.beds.length:=by omega
         simp [checkV,any_of hx (p:=fun a=>decide (10 < a.beds.length)) (by simpa using this)]
       · skip
         refine zx ?_
         try simp only [go_sem]
         refine zb fun K hK=>?_;simp only [go_sem];(try simp (disch:=omega) only [zI]);refine hK _ ?_;clear hK K
         try simp only [go_sem]
         refine ⟨hci,?_,fit_of [] ?_ ?_⟩
         · rw [any_step hx,hI]
           simp
           omega
         · try simp only [go_sem]
         · try simp only [go_sem]
     · skip
       refine zf ?_;simp only [go_sem]
       have : i = l.length:=by omega
       subst this
       rw [List.take_length] at hI
       have hlen : ∀ x ∈ l,x.beds.length ≤ 10:=fun x hx=>by
        have:=List.any_eq_false.1 hI x hx
        simp at this; omega
       by_cases hz : l = []
       · subst hz
         repeat refine zq ?_
         refine zb fun K hK=>?_;simp only [go_sem];refine hK _ ?_;clear hK K;refine zw (zk [1,37]) ?_;simp only [go_sem]
         refine zc rfl (fun hc=>?_) (fun hc=>?_) <;> (try simp only [go_sem] at hc)
         refine zq ?_
         refine zb fun K hK=>?_;simp only [go_sem];refine hK _ ?_;clear hK K;refine ze ?_;simp only [go_sem]
         simp [checkV]
       have hz' : ((l.length : Int) == 0) = false:=by
        cases l with
        | nil=>simp at hz
        | cons=>simp; omega
       have hze : l.isEmpty = false:=by cases l <;> simp at hz ⊢
       by_cases h1 : d < 1
       · have e1 : decide (d < 1) = true:=by simpa using h1
         repeat refine zq ?_
         refine zb fun K hK=>?_;simp only [go_sem,hz',e1]
         intro _
         refine hK _ ?_;clear hK K;refine zw (zk [1,37]) ?_;simp only [go_sem]
         refine zc rfl (fun hc=>?_) (fun hc=>?_) <;> (try simp only [go_sem] at hc)
         refine zq ?_
         refine zb fun K hK=>?_;simp only [go_sem];refine hK _ ?_;clear hK K;refine ze ?_;simp only [go_sem]
         have : ¬ 1 ≤ d:=by omega
         simp [checkV,hl,hI,hze,this]
       have e1 : decide (d < 1) = false:=by simpa using h1
       repeat refine zq ?_
       refine zb fun K hK=>?_;simp only [go_sem,hz',e1]
       intro _
       refine hK _ ?_;clear hK K;refine zw (zk [1,37]) ?_;simp only [go_sem]
       refine zc rfl (fun hc=>?_) (fun hc=>?_) <;> (try simp only [go_sem] at hc)
       · skip
         refine zq ?_
         refine zb fun K hK=>?_;simp only [go_sem];refine hK _ ?_;clear hK K;refine zw (zk [2]) ?_;simp only [go_sem];refine ze ?_;simp only [go_sem]
         have : ¬ d ≤ 3000:=by omega
         simp [checkV,hl,hI,hze,this]
       · skip
         have h2 : 1 ≤ d ∧ d ≤ 3000:=by omega
         have cv : checkV d l = if l.all (aimOk d) = true then 0 else 2:=by simp [checkV,hl,hI,hze,h2]
         refine zx ?_
         try simp only [go_sem]
         repeat refine zq ?_
         refine zb fun K hK=>?_;simp only [go_sem];refine hK _ ?_;clear hK K;refine zw (zk [1,4]) ?_;simp only [go_sem];refine zd ?_
         refine awp_upto (n:=54) l.length (fun i vs=>[(1,.r (.rp [i64 d,aimsR l])),(4,.r (i64 i))])
          (fun i=>[]) (fun i=>(l.take i).all (aimOk d) = true) 0 (fit_of [] ?_ ?_) (Nat.zero_le _) rfl ?_
         · try simp only [go_sem]
         · try simp only [go_sem]
         · intro i vs hi hI
           repeat refine zq ?_
           refine zb fun K hK=>?_;simp only [go_sem]
           intro _
           refine hK _ ?_;clear hK K;refine zw (zk [1,4,42]) ?_;simp only [go_sem]
           refine zc rfl (fun hc=>?_) (fun hc=>?_) <;> (try simp only [go_sem] at hc)
           · skip
             have hci:=hc
             obtain ⟨x,hx⟩:=opt_of_lt hc
             have hx10 : aimOk10 d x = aimOk d x:=by
              have:=hlen x (mem_of_opt hx)
              simp [aimOk10,this]
             refine zx ?_
             try simp only [go_sem]
             refine zq ?_
             refine zd ?_
             refine zq ?_
             refine zg follows (by decide +kernel) (by kernel_rfl) fun K hK=>?_;simp only [go_sem,hx,hci,aimR]
             refine zh (refAim_ok x d (hw.2 x (mem_of_opt hx)) (by omega)) rfl (by simp only [go_sem,i64,ints]) (by simp only [go_sem,i64,ints]) (by first | exact .inl rfl | exact .inr rfl) ?_
             (try simp only [go_sem]);rw [hx10]
             cases hv : aimOk d x
             · skip
               refine hK _ ?_;clear hK K;refine zw (zk [1,4,53]) ?_;simp only [go_sem]
               refine zc rfl (fun hc=>?_) (fun hc=>?_) <;> (try simp only [go_sem] at hc)
               refine zq ?_
               refine zb fun K hK=>?_;simp only [go_sem];refine hK _ ?_;clear hK K;refine ze ?_;simp only [go_sem]
               have : l.all (aimOk d) = false:=List.all_eq_false.2 ⟨x,mem_of_opt hx,by rw [hv]; simp⟩
               simp [cv,this]
             · skip
               refine hK _ ?_;clear hK K;refine zw (zk [1,4,53]) ?_;simp only [go_sem]
               refine zc rfl (fun hc=>?_) (fun hc=>?_) <;> (try simp only [go_sem] at hc)
               refine zx ?_
               try simp only [go_sem]
               refine zb fun K hK=>?_;simp only [go_sem];(try simp (disch:=omega) only [zI]);refine hK _ ?_;clear hK K
               try simp only [go_sem]
               refine ⟨hci,?_,fit_of [] ?_ ?_⟩
               · rw [take_of_opt hx]; simp [hI,hv]
               · try simp only [go_sem]
               · try simp only [go_sem]
           · skip
             refine zf ?_;simp only [go_sem]
             refine zq ?_
             refine zb fun K hK=>?_;simp only [go_sem];refine hK _ ?_;clear hK K;refine zw (zk [2]) ?_;simp only [go_sem];refine ze ?_;simp only [go_sem]
             have : i = l.length:=by omega
             rw [this,List.take_length] at hI
             simp [cv,hI]
theorem others_ok (a : Int) (l : List Bd) (k : Nat) (x : Bd) (hs : Small l) (hl : l.length ≤ 1000) (hk : l[k]? = some x) :
 ACalls Tryz.prog 156 [aimV ⟨a,l⟩,i64 k] (.tu [i64 (loS l - x.lo),i64 (hiS l - x.hi)]):=by
 have hkl : k < l.length:=(List.getElem?_eq_some_iff.1 hk).1
 have hxs:=hs x (mem_of_opt hk)
 refine acalls_st (rs:=[i64 (loS l - x.lo),i64 (hiS l - x.hi)]) [.tmp 4,.tmp 5] Tryz.func156 rfl (by kernel_rfl) Tryz.ntmps156 rfl (by simp) rfl fun C vs=>?_
 refine zq ?_
 refine zb fun K hK=>?_;simp only [go_sem];refine hK _ ?_;clear hK K;refine zw (sub_frzP 2 2 [i64 a,bedsR l] (by omega) rfl rfl) ?_;refine zw (zk [1,2]) ?_;simp only [go_sem]
 refine zq ?_
 refine zb fun K hK=>?_;simp only [go_sem];refine hK _ ?_;clear hK K;refine zw (zk [1,2,6,7]) ?_;simp only [go_sem]
 repeat refine zq ?_
 refine zb fun K hK=>?_;simp only [go_sem];refine hK _ ?_;clear hK K;refine zw (zk [1,2,6,7,8]) ?_;simp only [go_sem];refine zd ?_
 refine awp_upto (n:=39) l.length (fun i vs=>[(1,.r (i64 k)),(2,.r (.rp [i64 a,bedsR l])),(6,.r (i64 (loS (l.take i) - (if k < i then x.lo else 0)))),(7,.r (i64 (hiS (l.take i) - (if k < i then x.hi else 0)))),(8,.r (i64 i))])
  (fun i=>[]) (fun _=>True) 0 (fit_of [] ?_ ?_) (Nat.zero_le _) trivial ?_
 · try simp only [go_sem]
   simp [loS,hiS]
 · try simp only [go_sem]
 · intro i vs hi _
   have hsi : Small (l.take i):=fun y hy=>hs y (List.mem_of_mem_take hy)
   have hb:=sums_le hsi
   have hli : (l.take i).length ≤ 1000:=by rw [List.length_take]; omega
   repeat refine zq ?_
   refine zb fun K hK=>?_;simp only [go_sem]
   intro _
   refine hK _ ?_;clear hK K;refine zw (zk [1,2,6,7,8,13]) ?_;simp only [go_sem]
   refine zc rfl (fun hc=>?_) (fun hc=>?_) <;> (try simp only [go_sem] at hc)
   · skip
     have hci:=hc
     obtain ⟨y,hy⟩:=opt_of_lt hc
     have hys:=hs y (mem_of_opt hy)
     refine zx ?_
     try simp only [go_sem]
     refine zq ?_
     refine zd ?_
     by_cases hik : i = k
     · have e0 : ((i : Int) != (k : Int)) = false:=by simp [hik]
       have hxy : y = x:=by subst hik; rw [hk] at hy; injection hy with hy; exact hy.symm
       refine zq ?_
       refine zb fun K hK=>?_;simp only [go_sem,e0];refine hK _ ?_;clear hK K;refine zw (zk [1,2,6,7,8,18]) ?_;simp only [go_sem]
       refine zc rfl (fun hc=>?_) (fun hc=>?_) <;> (try simp only [go_sem] at hc)
       refine zx ?_
       try simp only [go_sem]
       refine zb fun K hK=>?_;simp only [go_sem];(try simp (disch:=omega) only [zI]);refine hK _ ?_;clear hK K
       try simp only [go_sem]
       refine ⟨hci,fit_of [] ?_ ?_⟩
       · rw [take_of_opt hy,loS_snoc,hiS_snoc,hxy,if_neg (by omega),if_neg (by omega),if_pos (by omega),if_pos (by omega)]
         have g1 : loS (l.take i) + x.lo - x.lo = loS (l.take i) - 0:=by omega
         have g2 : hiS (l.take i) + x.hi - x.hi = hiS (l.take i) - 0:=by omega
         rw [g1,g2]
         try simp only [go_sem]
       · try simp only [go_sem]
     · have e0 : ((i : Int) != (k : Int)) = true:=by simp; omega
       refine zq ?_
       refine zb fun K hK=>?_;simp only [go_sem,e0];refine hK _ ?_;clear hK K;refine zw (zk [1,2,6,7,8,18]) ?_;simp only [go_sem]
       refine zc rfl (fun hc=>?_) (fun hc=>?_) <;> (try simp only [go_sem] at hc)
       generalize hA : (if k < i then x.lo else 0) = A
       generalize hB : (if k < i then x.hi else 0) = B
       have hA2 : (if k < i + 1 then x.lo else 0) = A:=by
        rw [← hA]
        by_cases h : k < i
        · rw [if_pos h,if_pos (by omega)]
        · rw [if_neg h,if_neg (by omega)]
       have hB2 : (if k < i + 1 then x.hi else 0) = B:=by
        rw [← hB]
        by_cases h : k < i
        · rw [if_pos h,if_pos (by omega)]
        · rw [if_neg h,if_neg (by omega)]
       have hA' : 0 ≤ A ∧ A ≤ 6000:=by rw [← hA]; split <;> omega
       have hB' : 0 ≤ B ∧ B ≤ 6000:=by rw [← hB]; split <;> omega
       refine zg follows (by decide +kernel) (by kernel_rfl) fun K hK=>?_;simp only [go_sem,hy,hci,bedR];(try simp (disch:=omega) only [zI]);refine hK _ ?_;clear hK K;refine zw (zk [1,2,6,7,8]) ?_;simp only [go_sem];refine zb fun K hK=>?_;simp only [go_sem];(try simp (disch:=omega) only [zI]);refine hK _ ?_;clear hK K
       try simp only [go_sem]
       refine ⟨hci,fit_of [] ?_ ?_⟩
       · rw [take_of_opt hy,loS_snoc,hiS_snoc,hA2,hB2]
         have g1 : loS (l.take i) + y.lo - A = loS (l.take i) - A + y.lo:=by omega
         have g2 : hiS (l.take i) + y.hi - B = hiS (l.take i) - B + y.hi:=by omega
         rw [g1,g2]
         try simp only [go_sem]
       · try simp only [go_sem]
   · skip
     refine zf ?_;simp only [go_sem]
     refine zq ?_
     refine zb fun K hK=>?_;simp only [go_sem];refine hK _ ?_;clear hK K;refine zw (zk [4,5]) ?_;simp only [go_sem];refine ze ?_;simp only [go_sem]
     have : i = l.length:=by omega
     subst this
     rw [List.take_length,if_pos hkl,if_pos hkl]
     exact ⟨rfl,rfl⟩
theorem loS_le_hiS : ∀ {d : Int} {l : List Bd},chOk d l = true → 0 ≤ loS l ∧ loS l ≤ hiS l
 | _,[],_=>by simp [loS,hiS]
 | d, x :: l, h => by
   simp only [chOk,List.all_cons,Bool.and_eq_true,decide_eq_true_eq] at h
   have:=loS_le_hiS (d:=d) (l:=l) h.2
   simp only [loS,hiS,List.map_cons,List.sum_cons] at this ⊢
   omega
theorem hiS_loS : ∀ {d : Int} {l : List Bd} {k : Nat} {x : Bd},chOk d l = true → l[k]? = some x → 0 ≤ loS l - x.lo ∧ loS l - x.lo ≤ hiS l - x.hi
 | _,[],_,_,_,hk=>by simp at hk
 | d, y :: l, 0, x, h, hk => by
   simp only [List.getElem?_cons_zero,Option.some.injEq] at hk
   subst hk
   simp only [chOk,List.all_cons,Bool.and_eq_true,decide_eq_true_eq] at h
   have:=loS_le_hiS (d:=d) (l:=l) h.2
   simp only [loS,hiS,List.map_cons,List.sum_cons] at this ⊢
   omega
 | d, y :: l, k + 1, x, h, hk => by
   simp only [List.getElem?_cons_succ] at hk
   simp only [chOk,List.all_cons,Bool.and_eq_true,decide_eq_true_eq] at h
   have:=hiS_loS (d:=d) (l:=l) h.2 hk
   simp only [loS,hiS,List.map_cons,List.sum_cons] at this ⊢
   omega
theorem refTight_ok (d : Int) (x0 : Am) (hv : aimOk d x0 = true) (hl0 : x0.beds.length ≤ 1000) (hd : d ≤ 6000) : ACalls Tryz.prog 114 [aimV x0,i64 d] (aimV (tightA d x0)):=by
 obtain ⟨a,l⟩:=x0
 obtain ⟨_,_,_,hch,hL,hH⟩:=aimOk_facts hv
 simp only at hch hL hH hl0
 have hs:=chOk_small hch hd
 have hb:=sums_le hs
 refine acalls_st (rs:=[aimV (tightA d ⟨a,l⟩)]) [.cell 4 93] Tryz.func114 rfl (by kernel_rfl) Tryz.ntmps114 rfl (by simp) rfl fun C vs=>?_
 refine zq ?_
 refine zb fun K hK=>?_;simp only [go_sem];refine hK _ ?_;clear hK K;refine zw (sub_frzP 2 2 [i64 a,bedsR l] (by omega) rfl rfl) ?_;refine zw (zk [1,2,4]) ?_;simp only [go_sem]
 refine zq ?_
 refine zb fun K hK=>?_;simp only [go_sem];refine hK _ ?_;clear hK K;refine zw (zk [1,2,4,5]) ?_;simp only [go_sem]
 repeat refine zq ?_
 refine zb fun K hK=>?_;simp only [go_sem];refine hK _ ?_;clear hK K;refine zw (zk [1,2,4,5,6]) ?_;simp only [go_sem];refine zd ?_;refine zw (sub_ownB 5 1 30 95 3 (by omega) (by omega) rfl rfl) ?_
 try simp only [go_sem]
 refine awp_uptoV (n:=71) l.length (fun i vs=>[(1,.r (i64 d)),(2,.r (.rp [i64 a,bedsR l])),(4,.pt 4 (vs 4) 0),(5,.pt 5 (vs 5) 0),(6,.r (i64 i))])
  (fun i vs=>[(4,.box [.r (i64 0),.r .ns]),(5,.box [.r (i64 a),.os 30 (vs 30) 3 0 i]),(30,.arr 95 3 (((tightL d l).take i).map bedR))]) (fun _=>True) 0 (zj [] ?_ ?_) (Nat.zero_le _) trivial ?_
 · try simp only [go_sem]
 · try simp only [go_sem]
 · intro i vs hi _
   have hlt : ((tightL d l).take i).length = i:=by rw [List.length_take]; simp [tightL]; omega
   repeat refine zq ?_
   refine zb fun K hK=>?_;simp only [go_sem]
   intro _
   refine hK _ ?_;clear hK K;refine zw (zk [1,2,4,5,6,20]) ?_;simp only [go_sem]
   refine zc rfl (fun hc=>?_) (fun hc=>?_) <;> (try simp only [go_sem] at hc)
   · skip
     have hci:=hc
     obtain ⟨x,hx⟩:=opt_of_lt hc
     obtain ⟨⟨x1,x2⟩,x3,x4⟩:=hs x (mem_of_opt hx)
     have hxc:=List.all_eq_true.1 hch x (mem_of_opt hx)
     simp only [Bool.and_eq_true,decide_eq_true_eq] at hxc
     have htx : (tightL d l).take (i + 1) = (tightL d l).take i ++ [tightB d (loS l) (hiS l) x]:=take_of_opt (by simp [tightL,hx])
     refine zx ?_
     try simp only [go_sem]
     refine zq ?_
     refine zd ?_
     refine zq ?_
     refine zb fun K hK=>?_;simp only [go_sem,hx,hci,bedR];refine hK _ ?_;clear hK K;refine zw (zk [1,2,4,5,6,7]) ?_;simp only [go_sem]
     refine zq ?_
     refine zb fun K hK=>?_;simp only [go_sem]
     refine zh (others_ok a l i x hs hl0 hx) rfl (by simp only [go_sem,i64,ints]) (by simp only [go_sem,i64,ints]) (by first | exact .inl rfl | exact .inr rfl) ?_
     (try simp only [go_sem]);refine hK _ ?_;clear hK K;refine zw (zk [1,2,4,5,6,7,8,9]) ?_;simp only [go_sem]
     have hdiff:=hiS_loS hch hx
     generalize hp : loS l - x.lo = p at hdiff ⊢
     generalize hq : hiS l - x.hi = q at hdiff ⊢
     have hpq : p + x.lo ≤ d ∧ d ≤ q + x.hi:=by omega
     have hp' : 0 ≤ p ∧ p ≤ 6000000 ∧ q ≤ 6000000:=by omega
     obtain ⟨M,hM1,hM2,hM3⟩ : ∃ M : Int,x.lo ≤ M ∧ d - q ≤ M ∧ (M = x.lo ∨ M = d - q):=by
      by_cases h : x.lo ≤ d - q
      · exact ⟨d - q,h,Int.le_refl _,.inr rfl⟩
      · exact ⟨x.lo,Int.le_refl _,by omega,.inl rfl⟩
     refine zq ?_
     refine zb fun K hK=>?_;simp only [go_sem];refine hK _ ?_;clear hK K;refine zw (zk [1,2,4,5,6,7,8,9,10,11]) ?_;simp only [go_sem]
     repeat refine zq ?_
     refine zb fun K hK=>?_;simp only [go_sem];refine hK _ ?_;clear hK K;refine zw (zk [1,2,4,5,6,7,8,9,10,11,12]) ?_;simp only [go_sem];refine zd ?_
     refine awp_uptoV (n:=71) (x.hi - x.lo + 1).toNat (fun j vs=>[(1,.r (i64 d)),(2,.r (.rp [i64 a,bedsR l])),(4,.pt 4 (vs 4) 0),(5,.pt 5 (vs 5) 0),(6,.r (i64 i)),(7,.pt 7 (vs 7) 0),(8,.r (i64 p)),(9,.r (i64 q)),
      (10,.r (i64 (if M < x.lo + j then M else -1))),(11,.r (i64 (if M < x.lo + j then min (x.lo + j - 1) (d - p) else -1))),(12,.r (i64 (x.lo + j)))])
      (fun j vs=>[(4,.box [.r (i64 0),.r .ns]),(5,.box [.r (i64 a),.os 30 (vs 30) 3 0 i]),(7,.box [.r (i64 x.b),.r (i64 x.lo),.r (i64 x.hi)]),(30,.arr 95 3 (((tightL d l).take i).map bedR))]) (fun _=>True) 0 (zj [] ?_ ?_) (Nat.zero_le _) trivial ?_
     · try simp only [go_sem]
       have : ¬ M < x.lo:=by omega
       simp [this]
     · try simp only [go_sem]
     · intro j vs hj _
       repeat refine zq ?_
       refine zb fun K hK=>?_;simp only [go_sem];refine hK _ ?_;clear hK K;refine zw (zk [1,2,4,5,6,7,8,9,10,11,12,41]) ?_;simp only [go_sem]
       refine zc rfl (fun hc=>?_) (fun hc=>?_) <;> (try simp only [go_sem] at hc)
       · have hcj : x.lo + (j : Int) ≤ x.hi:=hc
         have hjN : j < (x.hi - x.lo + 1).toNat:=by omega
         have hj1 : x.lo + (j : Int) + 1 = x.lo + ((j : Int) + 1):=by omega
         refine zx ?_
         try simp only [go_sem]
         refine zq ?_
         refine zd ?_
         refine zq ?_
         refine zb fun K hK=>?_;simp only [go_sem];(try simp (disch:=omega) only [zI])
         have bad : ¬ (p ≤ d - (x.lo + j) ∧ d - (x.lo + j) ≤ q) → (if M < x.lo + (j : Int) then M else -1) = (if M < x.lo + ((j : Int) + 1) then M else -1) ∧ (if M < x.lo + (j : Int) then min (x.lo + j - 1) (d - p) else -1) = (if M < x.lo + ((j : Int) + 1) then min (x.lo + ((j : Int) + 1) - 1) (d - p) else -1):=fun h=>by
          by_cases h1 : M < x.lo + (j : Int)
          · rw [if_pos h1,if_pos (by omega),if_pos h1,if_pos (by omega)]
            omega
          · have : ¬ M < x.lo + ((j : Int) + 1):=by omega
            rw [if_neg h1,if_neg this,if_neg h1,if_neg this]
            simp
         refine ⟨fun g1=>?_,fun g1=>?_⟩
         · skip
           refine hK _ ?_;clear hK K;refine zw (zk [1,2,4,5,6,7,8,9,10,11,12,55]) ?_;simp only [go_sem]
           refine zc rfl (fun hc=>?_) (fun hc=>?_) <;> (try simp only [go_sem] at hc)
           · have g2:=hc
             by_cases h1 : M < x.lo + (j : Int)
             · have e1 : (if M < x.lo + (j : Int) then M else -1) = M:=if_pos h1
               rw [e1]
               repeat refine zq ?_
               refine zb fun K hK=>?_;simp only [go_sem];refine hK _ ?_;clear hK K;refine zw (zk [1,2,4,5,6,7,8,9,10,12,57]) ?_;simp only [go_sem]
               refine zc rfl (fun hc=>?_) (fun hc=>?_) <;> (try simp only [go_sem] at hc)
               · exfalso
                 omega
               refine zx ?_
               try simp only [go_sem]
               refine zb fun K hK=>?_;simp only [go_sem];refine hK _ ?_;clear hK K;refine zw (zk [1,2,4,5,6,7,8,9,10,11,12]) ?_;simp only [go_sem];refine zb fun K hK=>?_;simp only [go_sem];(try simp (disch:=omega) only [zI]);refine hK _ ?_;clear hK K
               try simp only [go_sem]
               refine ⟨hjN,zj [] ?_ ?_⟩
               · rw [if_pos (by omega),if_pos (by omega),hj1]
                 have : min (x.lo + ((j : Int) + 1) - 1) (d - p) = x.lo + j:=by omega
                 rw [this]
                 try simp only [go_sem]
               · try simp only [go_sem]
             · have e1 : (if M < x.lo + (j : Int) then M else -1) = -1:=if_neg h1
               rw [e1]
               repeat refine zq ?_
               refine zb fun K hK=>?_;simp only [go_sem];refine hK _ ?_;clear hK K;refine zw (zk [1,2,4,5,6,7,8,9,10,12,57]) ?_;simp only [go_sem]
               refine zc rfl (fun hc=>?_) (fun hc=>?_) <;> (try simp only [go_sem] at hc)
               refine zb fun K hK=>?_;simp only [go_sem];refine hK _ ?_;clear hK K;refine zw (zk [1,2,4,5,6,7,8,9,10,12]) ?_;simp only [go_sem];refine zb fun K hK=>?_;simp only [go_sem];refine hK _ ?_;clear hK K;refine zw (zk [1,2,4,5,6,7,8,9,10,11,12]) ?_;simp only [go_sem];refine zb fun K hK=>?_;simp only [go_sem];(try simp (disch:=omega) only [zI]);refine hK _ ?_;clear hK K
               try simp only [go_sem]
               refine ⟨hjN,zj [] ?_ ?_⟩
               · rw [if_pos (by omega),if_pos (by omega),hj1]
                 have : min (x.lo + ((j : Int) + 1) - 1) (d - p) = x.lo + j:=by omega
                 have h2 : M = x.lo + j:=by omega
                 rw [this,h2]
                 try simp only [go_sem]
               · try simp only [go_sem]
           · obtain ⟨b1,b2⟩:=bad (by omega)
             refine zx ?_
             try simp only [go_sem]
             refine zb fun K hK=>?_;simp only [go_sem];(try simp (disch:=omega) only [zI]);refine hK _ ?_;clear hK K
             try simp only [go_sem]
             refine ⟨hjN,zj [] ?_ ?_⟩
             · rw [← b1,← b2,hj1]
               try simp only [go_sem]
             · try simp only [go_sem]
         · obtain ⟨b1,b2⟩:=bad (by omega)
           refine hK _ ?_;clear hK K;refine zw (zk [1,2,4,5,6,7,8,9,10,11,12,55]) ?_;simp only [go_sem]
           refine zc rfl (fun hc=>?_) (fun hc=>?_) <;> (try simp only [go_sem] at hc)
           refine zx ?_
           try simp only [go_sem]
           refine zb fun K hK=>?_;simp only [go_sem];(try simp (disch:=omega) only [zI]);refine hK _ ?_;clear hK K
           try simp only [go_sem]
           refine ⟨hjN,zj [] ?_ ?_⟩
           · rw [← b1,← b2,hj1]
             try simp only [go_sem]
           · try simp only [go_sem]
       · have hjN : (j : Int) = x.hi - x.lo + 1:=by omega
         have f1 : (if M < x.lo + (j : Int) then M else -1) = max x.lo (d - q):=by rw [if_pos (by omega)]; omega
         have f2 : (if M < x.lo + (j : Int) then min (x.lo + (j : Int) - 1) (d - p) else -1) = min x.hi (d - p):=by rw [if_pos (by omega)]; omega
         rw [f1,f2]
         have htb : bedR (tightB d (loS l) (hiS l) x) = [i64 x.b,i64 (max x.lo (d - q)),i64 (min x.hi (d - p))]:=by
          rw [← hp,← hq]; rfl
         refine zf ?_;simp only [go_sem]
         refine zq ?_
         refine zb fun K hK=>?_;simp only [go_sem];refine hK _ ?_;clear hK K;refine zw (zk [1,2,4,5,6,7]) ?_;simp only [go_sem];refine zb fun K hK=>?_;simp only [go_sem,hlt]
         refine ⟨by omega,?_⟩
         refine hK _ ?_;clear hK K;refine zw (zk [1,2,4,5,6]) ?_;simp only [go_sem];refine zb fun K hK=>?_;simp only [go_sem];(try simp (disch:=omega) only [zI]);refine hK _ ?_;clear hK K
         try simp only [go_sem]
         refine ⟨hci,zj [7] ?_ ?_⟩
         · try simp only [go_sem]
         · try simp only [go_sem]
           rw [htx]
           simp [htb]
   · skip
     refine zf ?_;simp only [go_sem]
     refine zq ?_
     refine zb fun K hK=>?_;simp only [go_sem];refine hK _ ?_;clear hK K;refine zw (zk [4]) ?_;simp only [go_sem];refine ze ?_;simp only [go_sem]
     have h1 : i = l.length:=by omega
     have h2 : (tightL d l).take i = tightL d l:=List.take_of_length_le (by simp [tightL]; omega)
     subst h1
     rw [h2]
     simp [tightL,tightA]
     exact List.take_of_length_le (by simp)
theorem of_ok (F vals : List Int) (hlen : F.length = vals.length) (hF : ∀ x ∈ F,0 ≤ x ∧ x ≤ 6000) (hvs : Vals vals) (hl : F.length ≤ 1000) : ACalls Tryz.prog 157 [ints F,ints vals] (i64 (dotV F vals)):=by
 refine acalls_st (rs:=[i64 (dotV F vals)]) [.tmp 4] Tryz.func157 rfl (by kernel_rfl) Tryz.ntmps157 rfl (by simp) rfl fun C vs=>?_
 refine zq ?_
 refine zb fun K hK=>?_;simp only [go_sem];refine hK _ ?_;clear hK K;refine zw (zk [0,1]) ?_;simp only [go_sem]
 refine zq ?_
 refine zb fun K hK=>?_;simp only [go_sem];refine hK _ ?_;clear hK K;refine zw (zk [0,1,5]) ?_;simp only [go_sem]
 repeat refine zq ?_
 refine zb fun K hK=>?_;simp only [go_sem];refine hK _ ?_;clear hK K;refine zw (zk [0,1,5,6]) ?_;simp only [go_sem];refine zd ?_
 refine awp_upto (n:=25) F.length (fun i vs=>[(0,.r (ints F)),(1,.r (ints vals)),(5,.r (i64 (dotV (F.take i) (vals.take i)))),(6,.r (i64 i))])
  (fun i=>[]) (fun _=>True) 0 (fit_of [] ?_ ?_) (Nat.zero_le _) trivial ?_
 · try simp only [go_sem]
   simp [dotV]
 · try simp only [go_sem]
 · intro i vs hi _
   repeat refine zq ?_
   refine zb fun K hK=>?_;simp only [go_sem]
   intro _
   refine hK _ ?_;clear hK K;refine zw (zk [0,1,5,6,10]) ?_;simp only [go_sem]
   refine zc rfl (fun hc=>?_) (fun hc=>?_) <;> (try simp only [go_sem] at hc)
   · skip
     have hci:=hc
     have hcv : i < vals.length:=by omega
     obtain ⟨x,hx⟩:=opt_of_lt hci
     obtain ⟨y,hy⟩:=opt_of_lt hcv
     have b1:=hF x (mem_of_opt hx)
     have b2:=hvs y (mem_of_opt hy)
     have b3:=mul_bound b1.1 b1.2 b2.1 b2.2
     have b4:=dotV_bound (xs:=F.take i) (ys:=vals.take i) (fun z hz=>hF z (List.mem_of_mem_take hz)) (fun z hz=>hvs z (List.mem_of_mem_take hz))
     have b5 : ((F.take i).length : Int) ≤ 1000:=by rw [List.length_take]; omega
     have hsn : dotV (F.take (i + 1)) (vals.take (i + 1)) = dotV (F.take i) (vals.take i) + x * y:=by
      rw [take_of_opt hx,take_of_opt hy,dotV_snoc (by simp; omega)]
     have hw1 : IntKind.i64.wrap (x * y) = x * y:=by rw [zI] <;> omega
     refine zx ?_
     try simp only [go_sem]
     refine zq ?_
     refine zd ?_;refine zg follows (by decide +kernel) (by kernel_rfl) fun K hK=>?_;simp only [go_sem,hx,hy,hci,hcv,hw1];(try simp (disch:=omega) only [zI]);refine hK _ ?_;clear hK K;refine zw (zk [0,1,5,6]) ?_;simp only [go_sem];refine zb fun K hK=>?_;simp only [go_sem];(try simp (disch:=omega) only [zI]);refine hK _ ?_;clear hK K
     try simp only [go_sem]
     refine ⟨hci,fit_of [] ?_ ?_⟩
     · simp only [go_sem,hsn]
     · try simp only [go_sem]
   · skip
     refine zf ?_;simp only [go_sem]
     refine zq ?_
     refine zb fun K hK=>?_;simp only [go_sem];refine hK _ ?_;clear hK K;refine zw (zk [4]) ?_;simp only [go_sem];refine ze ?_;simp only [go_sem];rw [List.take_of_length_le (by omega),List.take_of_length_le (by omega)]
theorem givenT_ok (key : Nat → Int) {d : Int} {l : List Bd} (hch : chOk d l = true) {k : Int} (h0 : 0 ≤ k) (h1 : k ≤ 6000) {j : Nat} {x : Bd} (hx : l[j]? = some x) : x.lo ≤ atO (givenT key l k) j ∧ atO (givenT key l k) j ≤ x.hi:=by
 have hst : FillOk l (l.map (·.lo),k):=by
  refine ⟨by simp,⟨h0,h1⟩,fun i b o hb ho=>?_⟩
  simp only [List.getElem?_map,hb,Option.map_some,Option.some.injEq] at ho
  have:=List.all_eq_true.1 hch b (mem_of_opt hb)
  simp only [Bool.and_eq_true,decide_eq_true_eq] at this
  omega
 have hfin:=fillOk_all (sortN (ltK key) (List.range l.length)) _ (fun i hi=>by rw [mem_sortN,List.mem_range] at hi; exact hi) hst
 obtain ⟨o,ho⟩:=opt_of_lt (l:=givenT key l k) (i:=j) (by rw [givenT_len]; exact (List.getElem?_eq_some_iff.1 hx).1)
 have:=hfin.2.2 j x o hx ho
 simp only [atO,ho,Option.getD_some];exact this
theorem intsR_set (o : List Int) (j : Nat) (v : Int) : (o.map fun x=>[i64 x]).set j [i64 v] = (o.set j v).map fun x=>[i64 x]:=by rw [List.map_set]
set_option maxHeartbeats 2000000 in
theorem refTruth_ok (a d : Int) (l : List Bd) (vals : List Int) (g : Bool) (hch : chOk d l = true) (hd : d ≤ 3000) (h1 : loS l ≤ d) (h2 : d ≤ hiS l) (hv : vals.length = l.length) (hl : l.length ≤ 1000) :
 ACalls Tryz.prog 158 [aimV ⟨a,l⟩,i64 d,ints vals,.bo g] (ints (filledV (cmG g) d l vals)):=by
 have hs:=chOk_small hch (by omega)
 have hsm:=sums_le hs
 rw [filledV_G]
 obtain ⟨key,hkey⟩ : ∃ key,key = keyG g vals:=⟨_,rfl⟩
 rw [← hkey]
 refine acalls_st (rs:=[ints (givenT key l (d - loS l))]) [.tmp 8] Tryz.func158 rfl (by kernel_rfl) Tryz.ntmps158 rfl (by simp) rfl fun C vs=>?_
 refine zq ?_
 refine zb fun K hK=>?_;simp only [go_sem];refine hK _ ?_;clear hK K;refine zw (sub_frzP 4 4 [i64 a,bedsR l] (by omega) rfl rfl) ?_;refine zw (zk [1,2,3,4]) ?_;simp only [go_sem]
 refine zq ?_
 refine zb fun K hK=>?_;simp only [go_sem];refine hK _ ?_;clear hK K;refine zw (zk [2,3,4,9,10]) ?_;simp only [go_sem]
 repeat refine zq ?_
 refine zb fun K hK=>?_;simp only [go_sem];refine hK _ ?_;clear hK K;refine zw (zk [2,3,4,9,10,11]) ?_;simp only [go_sem];refine zd ?_;refine zw (sub_own 9 40 3 1 (by omega) rfl) ?_
 try simp only [go_sem]
 refine awp_uptoV (n:=106) l.length (fun i vs=>[(2,.r (ints vals)),(3,.r (.bo g)),(4,.r (.rp [i64 a,bedsR l])),(9,.os 40 (vs 40) 1 0 i),(10,.r (i64 (d - loS (l.take i)))),(11,.r (i64 i))])
  (fun i vs=>[(40,.arr 3 1 (((l.map (·.lo)).take i).map fun x=>[i64 x]))]) (fun _=>True) 0 (zj [] ?_ ?_) (Nat.zero_le _) trivial ?_
 · try simp only [go_sem]
   simp [loS]
 · try simp only [go_sem]
 · intro i vs hi _
   have hlt : ((l.map (·.lo)).take i).length = i:=by rw [List.length_take]; simp; omega
   repeat refine zq ?_
   refine zb fun K hK=>?_;simp only [go_sem]
   intro _
   refine hK _ ?_;clear hK K;refine zw (zk [2,3,4,9,10,11,20]) ?_;simp only [go_sem]
   refine zc rfl (fun hc=>?_) (fun hc=>?_) <;> (try simp only [go_sem] at hc)
   · skip
     have hci:=hc
     obtain ⟨x,hx⟩:=opt_of_lt hc
     obtain ⟨⟨x1,x2⟩,x3,x4⟩:=hs x (mem_of_opt hx)
     have hsi : Small (l.take i):=fun y hy=>hs y (List.mem_of_mem_take hy)
     have hb:=sums_le hsi
     have hli : (l.take i).length ≤ 1000:=by rw [List.length_take]; omega
     have htx : (l.map (·.lo)).take (i + 1) = (l.map (·.lo)).take i ++ [x.lo]:=take_of_opt (by simp [hx])
     refine zx ?_
     try simp only [go_sem]
     refine zq ?_
     refine zd ?_
     refine zq ?_
     refine zb fun K hK=>?_;simp only [go_sem,hx,hci,bedR,hlt]
     refine ⟨by omega,?_⟩
     refine hK _ ?_;clear hK K;refine zw (zk [2,3,4,9,10,11]) ?_;simp only [go_sem];refine zb fun K hK=>?_;simp only [go_sem,hx,hci,bedR,hlt];(try simp (disch:=omega) only [zI]);refine hK _ ?_;clear hK K;refine zw (zk [2,3,4,9,10,11]) ?_;simp only [go_sem];refine zb fun K hK=>?_;simp only [go_sem];(try simp (disch:=omega) only [zI]);refine hK _ ?_;clear hK K
     try simp only [go_sem]
     refine ⟨hci,zj [] ?_ ?_⟩
     · rw [take_of_opt hx,loS_snoc,show d - (loS (l.take i) + x.lo) = d - loS (l.take i) - x.lo from by omega]
       try simp only [go_sem]
     · try simp only [go_sem]
       rw [htx]
       simp
   · skip
     have hil : i = l.length:=by omega
     subst hil
     have hg0 : (l.map (·.lo)).take l.length = givenT key l 0:=by rw [givenT_zero key hch,List.take_of_length_le (by simp)]
     rw [hg0,List.take_length]
     refine zf ?_;simp only [go_sem]
     refine zq ?_
     refine zd ?_
     refine awp_uptoV (n:=106) (d - loS l).toNat (fun k vs=>[(2,.r (ints vals)),(3,.r (.bo g)),(4,.r (.rp [i64 a,bedsR l])),(9,.os 40 (vs 40) 1 0 l.length),(10,.r (i64 (d - loS l - k)))])
      (fun k vs=>[(40,.arr 3 1 ((givenT key l k).map fun x=>[i64 x]))]) (fun k=>(givenT key l k).sum = loS l + k) 0 (zj [] ?_ ?_) (Nat.zero_le _) ?_ ?_
     · try simp only [go_sem]
       try simp
     · try simp only [go_sem]
     · rw [show ((0 : Nat) : Int) = 0 from rfl,givenT_zero key hch]
       simp [loS]
     · intro k vs hk hK
       repeat refine zq ?_
       refine zb fun K hK=>?_;simp only [go_sem];refine hK _ ?_;clear hK K;refine zw (zk [2,3,4,9,10,43]) ?_;simp only [go_sem]
       refine zc rfl (fun hc=>?_) (fun hc=>?_) <;> (try simp only [go_sem] at hc)
       · skip
         have hkN : k < (d - loS l).toNat:=by omega
         obtain ⟨j,hjl,hpick,hnext,hsum,hroom⟩:=givenT_step key hch (k:=k) (by omega) hK (by omega)
         obtain ⟨O,hO⟩ : ∃ O,O = givenT key l k:=⟨_,rfl⟩
         have hOl : O.length = l.length:=by rw [hO,givenT_len]
         rw [← hO] at hpick hnext hroom
         obtain ⟨R,hR⟩ : ∃ R,R = roomT l O:=⟨_,rfl⟩
         rw [← hR] at hpick
         refine zx ?_
         try simp only [go_sem]
         refine zq ?_
         refine zd ?_
         refine zq ?_
         refine zb fun K hK=>?_;simp only [go_sem];refine hK _ ?_;clear hK K;refine zw (zk [2,3,4,9,10,12]) ?_;simp only [go_sem]
         repeat refine zq ?_
         refine zb fun K hK=>?_;simp only [go_sem];refine hK _ ?_;clear hK K;refine zw (zk [2,3,4,9,10,12,13]) ?_;simp only [go_sem];rw [← hO]
         refine zd ?_
         refine awp_uptoV (n:=106) l.length (fun i vs=>[(2,.r (ints vals)),(3,.r (.bo g)),(4,.r (.rp [i64 a,bedsR l])),(9,.os 40 (vs 40) 1 0 l.length),(10,.r (i64 (d - loS l - k))),(12,.r (i64 (pickT key R i))),(13,.r (i64 i))])
          (fun i vs=>[(40,.arr 3 1 (O.map fun x=>[i64 x]))]) (fun _=>True) 0 (zj [] ?_ ?_) (Nat.zero_le _) trivial ?_
         · try simp only [go_sem]
           rfl
         · try simp only [go_sem]
         · intro i vs hi _
           repeat refine zq ?_
           refine zb fun K hK=>?_;simp only [go_sem]
           intro _
           refine hK _ ?_;clear hK K;refine zw (zk [2,3,4,9,10,12,13,50]) ?_;simp only [go_sem]
           refine zc rfl (fun hc=>?_) (fun hc=>?_) <;> (try simp only [go_sem] at hc)
           · skip
             have hci:=hc
             have hco : i < O.length:=by omega
             have hcv : i < vals.length:=by omega
             obtain ⟨x,hx⟩:=opt_of_lt hci
             obtain ⟨o,ho⟩:=opt_of_lt hco
             obtain ⟨v,hvi⟩:=opt_of_lt hcv
             have hRi : R i = decide (o < x.hi):=by simp [hR,roomT,atO,hiO,ho,hx]
             have hki : key i = if g then -v else v:=by simp [hkey,keyG,hvi]
             have stepT : ∀ b : Bool,(R i = true ∧ (pickT key R i < 0 ∨ key i < key (pickT key R i).toNat)) = (b = true) → pickT key R (i + 1) = if b then (i : Int) else pickT key R i:=fun b hb=>by
              simp only [pickT,hb]
             have hsp:=pickT_spec key R i
             refine zx ?_
             try simp only [go_sem]
             refine zq ?_
             refine zd ?_
             cases hRv : R i
             · have e1 : decide (o < x.hi) = false:=by rw [← hRi,hRv]
               have st : pickT key R (i + 1) = pickT key R i:=by rw [stepT false (by simp [hRv])]; rfl
               generalize pickT key R i = t at st ⊢
               refine zq ?_
               refine awp_dreg2 [(2,none),(3,none),(4,none),(9,some 40),(12,none),(13,none)] follows (by decide +kernel) (by kernel_rfl) (by simp only [keysOk,List.mem_cons,List.not_mem_nil,forall_eq_or_imp,Oc.keyOf,go_sem]; simp) fun K hK=>?_
               simp only [go_sem,hx,ho,hvi,hci,hco,hcv,bedR,e1];refine hK _ ?_;clear hK K;refine zw (zk [2,3,4,9,10,12,13,97]) ?_;simp only [go_sem]
               refine zc rfl (fun hc=>?_) (fun hc=>?_) <;> (try simp only [go_sem] at hc)
               refine zx ?_
               try simp only [go_sem]
               refine zb fun K hK=>?_;simp only [go_sem];(try simp (disch:=omega) only [zI]);refine hK _ ?_;clear hK K
               try simp only [go_sem]
               refine ⟨hci,zj [] ?_ ?_⟩
               · rw [st]
                 try simp only [go_sem]
               · try simp only [go_sem]
             have e1 : decide (o < x.hi) = true:=by rw [← hRi,hRv]
             rcases hsp with ⟨hj1,_⟩ | ⟨j2,hj2,hj1,_,_⟩
             · have st : pickT key R (i + 1) = i:=by rw [stepT true (by simp [hRv,hj1])]; rfl
               rw [hj1]
               refine zq ?_
               refine awp_dreg2 [(2,none),(3,none),(4,none),(9,some 40),(12,none),(13,none)] follows (by decide +kernel) (by kernel_rfl) (by simp only [keysOk,List.mem_cons,List.not_mem_nil,forall_eq_or_imp,Oc.keyOf,go_sem]; simp) fun K hK=>?_
               simp only [go_sem,hx,ho,hvi,hci,hco,hcv,bedR,e1];refine hK _ ?_;clear hK K;refine zw (zk [2,3,4,9,10,12,13,97]) ?_;simp only [go_sem]
               refine zc rfl (fun hc=>?_) (fun hc=>?_) <;> (try simp only [go_sem] at hc)
               refine zb fun K hK=>?_;simp only [go_sem];refine hK _ ?_;clear hK K;refine zw (zk [2,3,4,9,10,12,13]) ?_;simp only [go_sem];refine zb fun K hK=>?_;simp only [go_sem];(try simp (disch:=omega) only [zI]);refine hK _ ?_;clear hK K
               try simp only [go_sem]
               refine ⟨hci,zj [] ?_ ?_⟩
               · rw [st]
                 try simp only [go_sem]
               · try simp only [go_sem]
             have hcj : j2 < vals.length:=by omega
             obtain ⟨w,hvj⟩:=opt_of_lt hcj
             have hkj : key j2 = if g then -w else w:=by simp [hkey,keyG,hvj]
             have e2 : decide ((j2 : Int) < 0) = false:=by simp
             have e3 : ((j2 : Int) < 0) = False:=by simp
             have hnj : ¬ ((j2 : Int) < 0):=by omega
             cases hgv : g
             · rw [hgv] at hki hkj
               simp only [Bool.false_eq_true,if_false] at hki hkj
               by_cases hlt : v < w
               · have e4 : decide (v < w) = true:=by simpa using hlt
                 have st : pickT key R (i + 1) = i:=by
                  rw [stepT true (by rw [hRv,hj1,Int.toNat_natCast,hki,hkj]; simp [hnj]; omega)]; rfl
                 rw [hj1]
                 refine zq ?_
                 refine awp_dreg2 [(2,none),(3,none),(4,none),(9,some 40),(12,none),(13,none)] follows (by decide +kernel) (by kernel_rfl) (by simp only [keysOk,List.mem_cons,List.not_mem_nil,forall_eq_or_imp,Oc.keyOf,go_sem]; simp) fun K hK=>?_
                 simp only [go_sem,hx,ho,hvi,hci,hco,hcv,bedR,e1,e2,e3,e4,hvj,hcj];refine hK _ ?_;clear hK K;refine zw (zk [2,3,4,9,10,12,13,97]) ?_;simp only [go_sem]
                 refine zc rfl (fun hc=>?_) (fun hc=>?_) <;> (try simp only [go_sem] at hc)
                 refine zb fun K hK=>?_;simp only [go_sem];refine hK _ ?_;clear hK K;refine zw (zk [2,3,4,9,10,12,13]) ?_;simp only [go_sem];refine zb fun K hK=>?_;simp only [go_sem];(try simp (disch:=omega) only [zI]);refine hK _ ?_;clear hK K
                 try simp only [go_sem]
                 refine ⟨hci,zj [] ?_ ?_⟩
                 · rw [st]
                   try simp only [go_sem]
                 · try simp only [go_sem]
               · have e4 : decide (v < w) = false:=by simpa using hlt
                 have st : pickT key R (i + 1) = j2:=by
                  rw [stepT false (by rw [hRv,hj1,Int.toNat_natCast,hki,hkj]; simp [hnj]; omega)]; exact hj1
                 rw [hj1]
                 refine zq ?_
                 refine awp_dreg2 [(2,none),(3,none),(4,none),(9,some 40),(12,none),(13,none)] follows (by decide +kernel) (by kernel_rfl) (by simp only [keysOk,List.mem_cons,List.not_mem_nil,forall_eq_or_imp,Oc.keyOf,go_sem]; simp) fun K hK=>?_
                 simp only [go_sem,hx,ho,hvi,hci,hco,hcv,bedR,e1,e2,e3,e4,hvj,hcj];refine hK _ ?_;clear hK K;refine zw (zk [2,3,4,9,10,12,13,97]) ?_;simp only [go_sem]
                 refine zc rfl (fun hc=>?_) (fun hc=>?_) <;> (try simp only [go_sem] at hc)
                 refine zx ?_
                 try simp only [go_sem]
                 refine zb fun K hK=>?_;simp only [go_sem];(try simp (disch:=omega) only [zI]);refine hK _ ?_;clear hK K
                 try simp only [go_sem]
                 refine ⟨hci,zj [] ?_ ?_⟩
                 · rw [st]
                   try simp only [go_sem]
                 · try simp only [go_sem]
             · rw [hgv] at hki hkj
               simp only [if_true] at hki hkj
               by_cases hlt : w < v
               · have e4 : decide (w < v) = true:=by simpa using hlt
                 have st : pickT key R (i + 1) = i:=by
                  rw [stepT true (by rw [hRv,hj1,Int.toNat_natCast,hki,hkj]; simp [hnj]; omega)]; rfl
                 rw [hj1]
                 refine zq ?_
                 refine awp_dreg2 [(2,none),(3,none),(4,none),(9,some 40),(12,none),(13,none)] follows (by decide +kernel) (by kernel_rfl) (by simp only [keysOk,List.mem_cons,List.not_mem_nil,forall_eq_or_imp,Oc.keyOf,go_sem]; simp) fun K hK=>?_
                 simp only [go_sem,hx,ho,hvi,hci,hco,hcv,bedR,e1,e2,e3,e4,hvj,hcj];refine hK _ ?_;clear hK K;refine zw (zk [2,3,4,9,10,12,13,97]) ?_;simp only [go_sem]
                 refine zc rfl (fun hc=>?_) (fun hc=>?_) <;> (try simp only [go_sem] at hc)
                 refine zb fun K hK=>?_;simp only [go_sem];refine hK _ ?_;clear hK K;refine zw (zk [2,3,4,9,10,12,13]) ?_;simp only [go_sem];refine zb fun K hK=>?_;simp only [go_sem];(try simp (disch:=omega) only [zI]);refine hK _ ?_;clear hK K
                 try simp only [go_sem]
                 refine ⟨hci,zj [] ?_ ?_⟩
                 · rw [st]
                   try simp only [go_sem]
                 · try simp only [go_sem]
               · have e4 : decide (w < v) = false:=by simpa using hlt
                 have st : pickT key R (i + 1) = j2:=by
                  rw [stepT false (by rw [hRv,hj1,Int.toNat_natCast,hki,hkj]; simp [hnj]; omega)]; exact hj1
                 rw [hj1]
                 refine zq ?_
                 refine awp_dreg2 [(2,none),(3,none),(4,none),(9,some 40),(12,none),(13,none)] follows (by decide +kernel) (by kernel_rfl) (by simp only [keysOk,List.mem_cons,List.not_mem_nil,forall_eq_or_imp,Oc.keyOf,go_sem]; simp) fun K hK=>?_
                 simp only [go_sem,hx,ho,hvi,hci,hco,hcv,bedR,e1,e2,e3,e4,hvj,hcj];refine hK _ ?_;clear hK K;refine zw (zk [2,3,4,9,10,12,13,97]) ?_;simp only [go_sem]
                 refine zc rfl (fun hc=>?_) (fun hc=>?_) <;> (try simp only [go_sem] at hc)
                 refine zx ?_
                 try simp only [go_sem]
                 refine zb fun K hK=>?_;simp only [go_sem];(try simp (disch:=omega) only [zI]);refine hK _ ?_;clear hK K
                 try simp only [go_sem]
                 refine ⟨hci,zj [] ?_ ?_⟩
                 · rw [st]
                   try simp only [go_sem]
                 · try simp only [go_sem]
           · skip
             have hil : i = l.length:=by omega
             subst hil
             rw [hpick]
             have hjO : j < O.length:=by omega
             obtain ⟨x,hx⟩:=opt_of_lt hjl
             obtain ⟨o,ho⟩:=opt_of_lt hjO
             have hbd:=givenT_ok key hch (k:=k) (by omega) (by omega) hx
             rw [← hO] at hbd
             have hoj : atO O j = o:=by simp [atO,ho]
             rw [hoj] at hbd hnext
             have hxs:=hs x (mem_of_opt hx)
             refine zf ?_;simp only [go_sem];refine zb fun K hK=>?_;simp only [go_sem,ho,hjO];(try simp (disch:=omega) only [zI])
             repeat refine ⟨by omega,?_⟩
             refine hK _ ?_;clear hK K;refine zw (zk [2,3,4,9,10]) ?_;simp only [go_sem];refine zb fun K hK=>?_;simp only [go_sem];(try simp (disch:=omega) only [zI]);refine hK _ ?_;clear hK K
             try simp only [go_sem]
             refine ⟨hkN,by simpa using hsum,zj [] ?_ ?_⟩
             · try simp only [go_sem]
               omega
             · try simp only [go_sem]
               rw [hnext,← intsR_set]
       · skip
         have hkN : (k : Int) = d - loS l:=by omega
         rw [hkN]
         refine zf ?_;simp only [go_sem]
         refine zq ?_
         refine zb fun K hK=>?_;simp only [go_sem];refine hK _ ?_;clear hK K;refine zw (zk [8]) ?_;simp only [go_sem];refine ze ?_;simp only [go_sem]
         simp [givenT_len,List.take_of_length_le]
theorem refMean_ok (a d : Int) (l : List Bd) (vals : List Int) (hch : chOk d l = true) (hd : d ≤ 3000) (h1 : loS l ≤ d) (h2 : d ≤ hiS l) (hv : vals.length = l.length) (hl : l.length ≤ 1000) (hvs : Vals vals) :
 ACalls Tryz.prog 115 [aimV ⟨a,l⟩,i64 d,ints vals] (.ag [i64 (meanLo d l vals),i64 (meanHi d l vals)]):=by
 have q0:=filled_facts (cm:=cmG false) (vals:=vals) hch hd h1
 have q1:=filled_facts (cm:=cmG true) (vals:=vals) hch hd h1
 have t0:=refTruth_ok a d l vals false hch hd h1 h2 hv hl
 have t1:=refTruth_ok a d l vals true hch hd h1 h2 hv hl
 have o0:=of_ok (filledV (cmG false) d l vals) vals (by rw [q0.1,hv]) (fun x hx=>by have:=q0.2 x hx; omega) hvs (by rw [q0.1]; exact hl)
 have o1:=of_ok (filledV (cmG true) d l vals) vals (by rw [q1.1,hv]) (fun x hx=>by have:=q1.2 x hx; omega) hvs (by rw [q1.1]; exact hl)
 have m0 : dotV (filledV (cmG false) d l vals) vals = meanLo d l vals:=rfl
 have m1 : dotV (filledV (cmG true) d l vals) vals = meanHi d l vals:=rfl
 rw [m0] at o0
 rw [m1] at o1
 generalize filledV (cmG false) d l vals = F0 at t0 o0
 generalize filledV (cmG true) d l vals = F1 at t1 o1
 refine acalls_st (rs:=[.ag [i64 (meanLo d l vals),i64 (meanHi d l vals)]]) [.cell 6 48] Tryz.func115 rfl (by kernel_rfl) Tryz.ntmps115 rfl (by simp) rfl fun C vs=>?_
 refine zq ?_
 refine zb fun K hK=>?_;simp only [go_sem];refine hK _ ?_;clear hK K;refine zw (sub_frzP 3 3 [i64 a,bedsR l] (by omega) rfl rfl) ?_;refine zw (zk [1,2,3,6]) ?_;simp only [go_sem]
 refine zq ?_
 refine awp_dreg2 [(1,none),(2,none),(3,none),(6,some 6)] follows (by decide +kernel) (by kernel_rfl) (by simp only [keysOk,List.mem_cons,List.not_mem_nil,forall_eq_or_imp,Oc.keyOf,go_sem]; simp) fun K hK=>?_
 simp only [go_sem]
 refine zh (t0) rfl (by simp only [go_sem,i64,ints]) (by simp only [go_sem,i64,ints]) (by first | exact .inl rfl | exact .inr rfl) ?_
 (try simp only [go_sem])
 refine zh (o0) rfl (by simp only [go_sem,i64,ints]) (by simp only [go_sem,i64,ints]) (by first | exact .inl rfl | exact .inr rfl) ?_
 (try simp only [go_sem])
 refine zh (t1) rfl (by simp only [go_sem,i64,ints]) (by simp only [go_sem,i64,ints]) (by first | exact .inl rfl | exact .inr rfl) ?_
 (try simp only [go_sem])
 refine zh (o1) rfl (by simp only [go_sem,i64,ints]) (by simp only [go_sem,i64,ints]) (by first | exact .inl rfl | exact .inr rfl) ?_
 (try simp only [go_sem]);refine hK _ ?_;clear hK K;refine zw (zk [6]) ?_;simp only [go_sem];refine ze ?_;simp only [go_sem]
end Go.Proofs.YtgfbenanljjgaaaGreat.Du.Th

namespace Go.Proofs.YtgfbenanljjgaaaGreat.Du.Th.Ai
open Go Go.Oc
set_option linter.unusedSimpArgs false
set_option linter.unusedVariables false
set_option maxRecDepth 8000
set_option maxHeartbeats 4000000
theorem rlow_ok (g : Int) : ACalls Tryz.prog 54 [i64 g] (i64 (lowG g)):=by
 refine acalls_st (rs:=[i64 (lowG g)]) [.tmp 2] Tryz.func54 rfl (by kernel_rfl) Tryz.ntmps54 rfl (by simp) rfl fun C vs=>?_
 refine zq ?_
 refine zb fun K hK=>?_;simp only [go_sem];refine hK _ ?_;clear hK K;refine zw (zk [0]) ?_;simp only [go_sem]
 repeat refine zq ?_
 refine zb fun K hK=>?_;simp only [go_sem];refine hK _ ?_;clear hK K;refine zw (zk [4]) ?_;simp only [go_sem]
 by_cases h : g = 0
 · subst h
   refine zc rfl (fun hc=>?_) (fun hc=>?_) <;> (try simp only [go_sem] at hc)
   refine zq ?_
   refine zb fun K hK=>?_;simp only [go_sem];refine hK _ ?_;clear hK K;refine ze ?_;simp only [go_sem]
   rfl
 · have e : (g == 0) = false:=by simpa using h
   rw [e]
   refine zc rfl (fun hc=>?_) (fun hc=>?_) <;> (try simp only [go_sem] at hc)
   refine zx ?_
   try simp only [go_sem]
   refine zq ?_
   refine zb fun K hK=>?_;simp only [go_sem];refine hK _ ?_;clear hK K;refine ze ?_;simp only [go_sem]
   simp [lowG,h]
theorem ropens_ok (b g : Int) (hb : 0 ≤ b ∧ b ≤ 499) (hg : 0 ≤ g ∧ g ≤ 2) : ACalls Tryz.prog 82 [i64 b,i64 g] (.bo (opA g b)):=by
 have e1 : Int.tdiv b 100 = b / 100:=Int.tdiv_eq_ediv_of_nonneg hb.1
 have w1 : IntKind.i64.wrap (b / 100) = b / 100:=by rw [zI] <;> omega
 refine acalls_st (rs:=[.bo (opA g b)]) [.tmp 4] Tryz.func82 rfl (by kernel_rfl) Tryz.ntmps82 rfl (by simp) rfl fun C vs=>?_
 refine zq ?_
 refine zb fun K hK=>?_;simp only [go_sem];refine hK _ ?_;clear hK K;refine zw (zk [0,1]) ?_;simp only [go_sem]
 repeat refine zq ?_
 refine zb fun K hK=>?_;simp only [go_sem];refine hK _ ?_;clear hK K;refine zw (zk [0,5]) ?_;simp only [go_sem];refine zd ?_
 refine zq ?_
 refine zb fun K hK=>?_;simp only [go_sem];refine hK _ ?_;clear hK K;refine zw (zk [0,5,6]) ?_;simp only [go_sem]
 by_cases h0 : g = 0
 · subst h0
   refine zc rfl (fun hc=>?_) (fun hc=>?_) <;> (try simp only [go_sem] at hc)
   refine zq ?_
   refine zb fun K hK=>?_;simp only [go_sem];refine hK _ ?_;clear hK K;refine zw (zk [4]) ?_;simp only [go_sem];refine ze ?_;simp only [go_sem];rw [Bool.eq_iff_iff]
   simp [opA]
 · have e0 : (g == 0) = false:=by simpa using h0
   rw [e0]
   refine zc rfl (fun hc=>?_) (fun hc=>?_) <;> (try simp only [go_sem] at hc)
   refine zq ?_
   refine zb fun K hK=>?_;simp only [go_sem];refine hK _ ?_;clear hK K;refine zw (zk [0,10]) ?_;simp only [go_sem]
   by_cases h1 : g = 1
   · subst h1
     refine zc rfl (fun hc=>?_) (fun hc=>?_) <;> (try simp only [go_sem] at hc)
     refine zq ?_
     refine zb fun K hK=>?_;simp only [go_sem,e1,w1];refine hK _ ?_;clear hK K;refine zw (zk [4]) ?_;simp only [go_sem];refine ze ?_;simp only [go_sem];rw [Bool.eq_iff_iff]
     simp [opA]
   · have e2 : (g == 1) = false:=by simpa using h1
     have h2 : g = 2:=by omega
     rw [e2]
     refine zc rfl (fun hc=>?_) (fun hc=>?_) <;> (try simp only [go_sem] at hc)
     refine zx ?_
     try simp only [go_sem]
     refine zq ?_
     refine zb fun K hK=>?_;simp only [go_sem,e1,w1];refine hK _ ?_;clear hK K;refine zw (zk [4]) ?_;simp only [go_sem];refine ze ?_;simp only [go_sem]
     simp [opA,h2]
theorem rcheck_ok (r : Rk) (hw : WfL r.d r.aims) : ACalls Tryz.prog 16 [rkR r] (i64 (checkR r)):=by
 have hch:=refCheck_ok r.d r.aims hw
 unfold checkR
 refine acalls_st (rs:=[i64 (if checkV r.d r.aims = 0 then (if (2 ≤ r.start ∧ r.start ≤ 60) ∧ 0 ≤ r.out ∧ r.out ≤ 2 then 0 else 2) else checkV r.d r.aims)]) [.tmp 2] Tryz.func16 rfl (by kernel_rfl) Tryz.ntmps16 rfl (by simp) rfl fun C vs=>?_
 refine zq ?_
 refine zb fun K hK=>?_;simp only [go_sem];refine hK _ ?_;clear hK K;refine zw (sub_frzP 1 1 [i64 r.d,aimsR r.aims,i64 r.start,i64 r.out] (by omega) rfl rfl) ?_;refine zw (zk [1]) ?_;simp only [go_sem]
 repeat refine zq ?_
 refine zb fun K hK=>?_;simp only [go_sem]
 refine zh (hch) rfl (by simp only [go_sem,i64,ints]) (by simp only [go_sem,i64,ints]) (by first | exact .inl rfl | exact .inr rfl) ?_
 (try simp only [go_sem]);refine hK _ ?_;clear hK K;refine zw (zk [1,3]) ?_;simp only [go_sem]
 refine zq ?_
 refine zb fun K hK=>?_;simp only [go_sem];refine hK _ ?_;clear hK K;refine zw (zk [1,3,8]) ?_;simp only [go_sem]
 by_cases h0 : checkV r.d r.aims = 0
 · have e0 : (checkV r.d r.aims != 0) = false:=by simp [h0]
   rw [if_pos h0,e0]
   refine zc rfl (fun hc=>?_) (fun hc=>?_) <;> (try simp only [go_sem] at hc)
   refine zx ?_
   try simp only [go_sem]
   by_cases h1 : (2 ≤ r.start ∧ r.start ≤ 60) ∧ 0 ≤ r.out ∧ r.out ≤ 2
   · rw [if_pos h1]
     have a1 : decide (r.start < 2) = false:=by simp; omega
     have a2 : decide (60 < r.start) = false:=by simp; omega
     have a3 : decide (r.out < 0) = false:=by simp; omega
     have a4 : decide (2 < r.out) = false:=by simp; omega
     repeat refine zq ?_
     refine zb fun K hK=>?_;simp only [go_sem,a1,a2,a3,a4];refine hK _ ?_;clear hK K;refine zw (zk [27]) ?_;simp only [go_sem]
     refine zc rfl (fun hc=>?_) (fun hc=>?_) <;> (try simp only [go_sem] at hc)
     refine zx ?_
     try simp only [go_sem]
     refine zq ?_
     refine zb fun K hK=>?_;simp only [go_sem];refine hK _ ?_;clear hK K;refine zw (zk [2]) ?_;simp only [go_sem];refine ze ?_;simp only [go_sem]
   · rw [if_neg h1]
     repeat refine zq ?_
     refine zb fun K hK=>?_;simp only [go_sem]
     repeat' first | intro _ | refine And.intro ?_ ?_
     all_goals first | omega | skip
     all_goals (refine hK _ ?_; clear hK K)
     all_goals
      refine zw (zk [27]) ?_;simp only [go_sem]
      refine zc rfl (fun hc=>?_) (fun hc=>?_) <;> (try simp only [go_sem] at hc)
      try any_goals (exfalso; omega)
      repeat refine zq ?_
      refine zb fun K hK=>?_;simp only [go_sem];refine hK _ ?_;clear hK K;refine zw (zk [2]) ?_;simp only [go_sem];refine ze ?_;simp only [go_sem]
 · have e0 : (checkV r.d r.aims != 0) = true:=by simpa using h0
   rw [if_neg h0,e0]
   refine zc rfl (fun hc=>?_) (fun hc=>?_) <;> (try simp only [go_sem] at hc)
   refine zq ?_
   refine zb fun K hK=>?_;simp only [go_sem];refine hK _ ?_;clear hK K;refine zw (zk [2]) ?_;simp only [go_sem];refine ze ?_;simp only [go_sem]
theorem rmean_ok (s : Bool) (d : Int) (aims : List Am) (ix : Nat) (a : Am) (ha : aims[ix]? = some a) (hO : AOk d a.beds) (hao : aimOk d a = true) (vals : List Int) (hv : vals.length = a.beds.length) (hV : ∀ x ∈ vals,VOk x) :
 ACalls Tryz.prog 83 [lawV d aims,i64 (ix : Int),ints vals,.bo s] (i64 (meanS s d a.beds vals)):=by
 obtain ⟨j,hj,hb,hbj⟩:=first_bad (badA a.beds d vals) a.beds.length
 have e : (if j < a.beds.length then 2000000000 else meanZ s d a.beds (vals.map zN)) = meanS s d a.beds vals:=by
  unfold meanS
  by_cases hj : j < a.beds.length
  · rw [if_pos hj,if_pos (List.any_eq_true.2 ⟨j,List.mem_range.2 hj,hbj hj⟩)]
  · rw [if_neg hj,if_neg]
    intro hh
    obtain ⟨i,hi,hbb⟩:=List.any_eq_true.1 hh
    have:=hb i (by have:=List.mem_range.1 hi; omega)
    rw [hbb] at this; cases this
 rw [← e]
 obtain ⟨at_,l⟩:=a
 have hal : ix < aims.length:=(List.getElem?_eq_some_iff.1 ha).1
 have hd:=hO.d1
 have hlen:=hO.len
 have hti:=refTight_ok d ⟨at_,l⟩ hao (by simp only at hlen ⊢; omega) (by omega)
 simp only at *
 have hta : tightA d ⟨at_,l⟩ = ⟨at_,tightL d l⟩:=rfl
 rw [hta] at hti
 have htl : (tightL d l).length = l.length:=by simp [tightL]
 have hth : ∀ i,i < l.length → ∃ c,(tightL d l)[i]? = some c ∧ c.hi = canA l i d:=fun i hi=>by
  obtain ⟨c,hc⟩:=opt_of_lt (l:=tightL d l) (i:=i) (by omega)
  have:=tightL_hi d l i hi
  exact ⟨c,hc,by rw [← this]; simp [bAt,List.getD,hc]⟩
 generalize tightL d l = TL at *
 refine acalls_st (rs:=[i64 (if j < l.length then 2000000000 else meanZ s d l (vals.map zN))]) [.tmp 8] Tryz.func83 rfl (by kernel_rfl) Tryz.ntmps83 rfl (by simp) rfl fun C vs=>?_
 refine zq ?_
 refine zb fun K hK=>?_;simp only [go_sem];refine hK _ ?_;clear hK K;refine zw (sub_frzP 4 4 [i64 d,aimsR aims] (by omega) rfl rfl) ?_;refine zw (zk [1,2,3,4]) ?_;simp only [go_sem]
 refine zq ?_
 refine awp_dreg2 [(1,none),(4,none)] follows (by decide +kernel) (by kernel_rfl) (by simp only [keysOk,List.mem_cons,List.not_mem_nil,forall_eq_or_imp,Oc.keyOf,go_sem]; simp) fun K hK=>?_
 simp only [go_sem,ha,hal,aimR]
 refine zh (hti) rfl (by simp only [go_sem,i64,ints,ha,hal,aimR]) (by simp only [go_sem,i64,ints,ha,hal,aimR]) (by first | exact .inl rfl | exact .inr rfl) ?_
 (try simp only [go_sem,ha,hal,aimR]);refine hK _ ?_;clear hK K;refine zw (sub_frzP 9 9 [i64 at_,bedsR TL] (by omega) (by try simp only [go_sem]) (by try simp only [go_sem])) ?_;refine zw (zk [1,2,3,4,9]) ?_;simp only [go_sem]
 refine zq ?_
 refine zb fun K hK=>?_;simp only [go_sem,hv]
 refine ⟨by omega,?_⟩
 refine hK _ ?_;clear hK K;refine zw (zk [1,3,4,9,10]) ?_;simp only [go_sem]
 repeat refine zq ?_
 refine zb fun K hK=>?_;simp only [go_sem];refine hK _ ?_;clear hK K;refine zw (zk [1,3,4,9,10,11]) ?_;simp only [go_sem];refine zd ?_
 refine awp_upto (n:=70) l.length (fun i vs=>[(1,.r (i64 (ix : Int))),(3,.r (.bo s)),(4,.r (.rp [i64 d,aimsR aims])),(9,.r (.rp [i64 at_,bedsR TL])),(10,.os 23 (vs 23) 1 0 l.length),(11,.r (i64 i))])
  (fun i=>[(23,.arr 3 1 (arrV (mixZ vals i)))]) (fun i=>i ≤ j) 0 (fit_of [] ?_ ?_) (Nat.zero_le _) (Nat.zero_le _) ?_
 · try simp only [go_sem]
   try simp [hv]
 · try simp only [go_sem]
   try simp
 · intro i vs hi hij
   have hil : (mixZ vals i).length = l.length:=by rw [mixZ_len,hv]
   repeat refine zq ?_
   refine zb fun K hK=>?_;simp only [go_sem]
   intro _
   refine hK _ ?_;clear hK K;refine zw (zk [1,3,4,9,10,11,27]) ?_;simp only [go_sem]
   refine zc rfl (fun hc=>?_) (fun hc=>?_) <;> (try simp only [go_sem] at hc)
   · have hci:=hc
     obtain ⟨v,hxv⟩:=opt_of_lt (l:=vals) (i:=i) (by omega)
     have hmg:=mixZ_get hxv
     obtain ⟨c,hcT,hch⟩:=hth i hci
     have hcTl : i < TL.length:=by omega
     have hbad : badA l d vals i = (decide (v = 2000000000) && decide (0 < canA l i d)):=by unfold badA; rw [List.getD_eq_getElem?_getD,hxv]; rfl
     have hlt : badA l d vals i = false → i < j:=fun h=>by
      by_cases e : i = j
      · have:=hbj (by omega)
        rw [← e,h] at this; cases this
      · omega
     have heq : badA l d vals i = true → i = j:=fun h=>by
      by_cases e : i < j
      · have:=hb i e
        rw [h] at this; cases this
      · omega
     have hms:=mixZ_set hxv
     refine zx ?_
     try simp only [go_sem]
     refine zq ?_
     refine zd ?_
     refine zq ?_
     refine zb fun K hK=>?_;simp only [go_sem,hmg,hil,hci];refine hK _ ?_;clear hK K;refine zw (zk [1,3,4,9,10,11,34]) ?_;simp only [go_sem]
     refine awp_join (n:=70) (fun (_ : Unit) vs=>[(1,.r (i64 (ix : Int))),(3,.r (.bo s)),(4,.r (.rp [i64 d,aimsR aims])),(9,.r (.rp [i64 at_,bedsR TL])),(10,.os 23 (vs 23) 1 0 l.length),(11,.r (i64 i))])
      (fun _=>[(23,.arr 3 1 (arrV (mixZ vals (i + 1))))]) (fun _=>i < j) (fun _ h=>h) ?_ ?_
     · by_cases hN : v = 2000000000
       · have eN : (v == 2000000000) = true:=by simpa using hN
         rw [eN]
         refine zc rfl (fun hc=>?_) (fun hc=>?_) <;> (try simp only [go_sem] at hc)
         repeat refine zq ?_
         refine zb fun K hK=>?_;simp only [go_sem,hcT,hcTl,bedR];refine hK _ ?_;clear hK K;refine zw (zk [1,3,4,9,10,11,42]) ?_;simp only [go_sem];rw [hch]
         refine zc rfl (fun hc=>?_) (fun hc=>?_) <;> (try simp only [go_sem] at hc)
         · have hj':=heq (by rw [hbad]; simp [hN,hc])
           refine zq ?_
           refine zb fun K hK=>?_;simp only [go_sem];refine hK _ ?_;clear hK K;refine zw (zk [8]) ?_;simp only [go_sem]
           subst hj'
           rw [if_pos hci]
           refine ze ?_;simp only [go_sem]
         · have hlt':=hlt (by rw [hbad]; simp [hc])
           refine zx ?_
           try simp only [go_sem]
           have hzv : zN v = 0:=by unfold zN; rw [if_pos hN]
           rw [hzv] at hms
           refine zb fun K hK=>?_;simp only [go_sem,hmg,hil,hci];refine hK _ ?_;clear hK K
           refine ⟨(),hlt',fit_of [] ?_ ?_⟩
           · try simp only [go_sem]
           · try simp only [go_sem]
             rw [← hms,arrV_set]
       · have eN : (v == 2000000000) = false:=by simpa using hN
         have hlt':=hlt (by rw [hbad]; simp [hN])
         have hzs : zN v = v:=by unfold zN; rw [if_neg hN]
         have hsm:=mixZ_same hxv hzs
         rw [eN]
         refine zc rfl (fun hc=>?_) (fun hc=>?_) <;> (try simp only [go_sem] at hc)
         refine zx ?_
         try simp only [go_sem]
         refine ⟨(),hlt',fit_of [] ?_ ?_⟩
         · try simp only [go_sem]
         · try simp only [go_sem]
           rw [hsm]
     intro _ vs hlt'
     refine zb fun K hK=>?_;simp only [go_sem];(try simp (disch:=omega) only [zI]);refine hK _ ?_;clear hK K
     try simp only [go_sem]
     refine ⟨hci,hlt',fit_of [] ?_ ?_⟩
     · try simp only [go_sem]
     · try simp only [go_sem]
   · have hii : i = l.length:=by omega
     subst hii
     have hjl : j = l.length:=by omega
     subst hjl
     have e4 : mixZ vals l.length = vals.map zN:=by unfold mixZ; rw [← hv,List.take_length,List.drop_length,List.append_nil]
     rw [e4,if_neg (Nat.lt_irrefl _)]
     obtain ⟨z,hz⟩ : ∃ z,z = vals.map zN:=⟨_,rfl⟩
     have hzl : z.length = l.length:=by rw [hz,List.length_map,hv]
     have hzb : ∀ x ∈ z,0 ≤ x ∧ x ≤ 1000000000:=fun x hx=>by
      rw [hz] at hx
      obtain ⟨v,hv,rfl⟩:=List.mem_map.1 hx
      exact zN_ok (hV v hv)
     rw [← hz]
     have hmean:=refMean_ok at_ d l z hO.ch (by omega) hO.lo hO.hi hzl (by omega) (fun x hx=>by have:=hzb x hx; omega)
     have hML : 0 ≤ meanLo d l z ∧ meanLo d l z ≤ d * 1000000000:=by
      have ht:=hO.truth cmpI z
      have:=dotV_le (M:=1000000000) (truth_nn ht fun c hc=>(hO.each c hc).1) hzb (by omega)
      rw [ht.sum] at this
      exact this
     have hMH : 0 ≤ meanHi d l z ∧ meanHi d l z ≤ d * 1000000000:=by
      have ht:=hO.truth (fun x y=>cmpI y x) z
      have:=dotV_le (M:=1000000000) (truth_nn ht fun c hc=>(hO.each c hc).1) hzb (by omega)
      rw [ht.sum] at this
      exact this
     have hmz : meanZ s d l z = if s then meanLo d l z / d else (meanHi d l z + (d - 1)) / d:=rfl
     rw [hmz]
     have htk : ((arrV z).drop 0).take l.length = arrV z:=by rw [List.drop_zero,List.take_of_length_le (by simp [hzl])]
     refine zf ?_;simp only [go_sem];refine zw (sub_frz 10 23 (ty:=3) (sz:=1) (off:=0) (m:=l.length) (es:=arrV z) (by omega) rfl (by rfl) (by simp [hzl])) ?_;rw [htk]
     refine zw (zk [1,3,4,10]) ?_;simp only [go_sem]
     refine zq ?_
     refine awp_dreg2 [(1,none),(4,none),(10,none)] follows (by decide +kernel) (by kernel_rfl) (by simp only [keysOk,List.mem_cons,List.not_mem_nil,forall_eq_or_imp,Oc.keyOf,go_sem]; simp) fun K hK=>?_
     simp only [go_sem,ha,hal,aimR]
     refine zh (hmean) rfl (by simp only [go_sem,i64,ints,ha,hal,aimR]) (by simp only [go_sem,i64,ints,ha,hal,aimR]) (by first | exact .inl rfl | exact .inr rfl) ?_
     (try simp only [go_sem,ha,hal,aimR]);refine hK _ ?_;clear hK K
     generalize meanLo d l z = A at *
     generalize meanHi d l z = B at *
     refine zw (sub_frzP 12 12 [i64 A,i64 B] (by omega) (by try simp only [go_sem]) (by try simp only [go_sem])) ?_;refine zw (zk [3,4,12]) ?_;simp only [go_sem]
     repeat refine zq ?_
     refine zb fun K hK=>?_;simp only [go_sem];refine hK _ ?_;clear hK K;refine zw (zk [4,12,55]) ?_;simp only [go_sem]
     have eqA : Int.tdiv A d = A / d:=Int.tdiv_eq_ediv_of_nonneg hML.1
     have eqB : Int.tdiv (B + d - 1) d = (B + (d - 1)) / d:=by rw [show B + d - 1 = B + (d - 1) by omega]; exact Int.tdiv_eq_ediv_of_nonneg (by omega)
     have wA : IntKind.i64.wrap (A / d) = A / d:=by
      have h1 : 0 ≤ A / d:=Int.ediv_nonneg hML.1 (by omega)
      have h2 : A / d ≤ A:=Int.ediv_le_self d hML.1
      rw [zI] <;> omega
     have wB : IntKind.i64.wrap ((B + (d - 1)) / d) = (B + (d - 1)) / d:=by
      have h1 : 0 ≤ (B + (d - 1)) / d:=Int.ediv_nonneg (by omega) (by omega)
      have h2 : (B + (d - 1)) / d ≤ B + (d - 1):=Int.ediv_le_self d (by omega)
      rw [zI] <;> omega
     have w1 : IntKind.i64.wrap (B + d) = B + d:=by rw [zI] <;> omega
     have w2 : IntKind.i64.wrap (B + d - 1) = B + d - 1:=by rw [zI] <;> omega
     cases s
     · skip
       refine zc rfl (fun hc=>?_) (fun hc=>?_) <;> (try simp only [go_sem] at hc)
       refine zx ?_
       try simp only [go_sem]
       refine zq ?_
       refine zb fun K hK=>?_;simp only [go_sem,w1,w2,eqB,wB]
       refine ⟨by omega,?_⟩
       refine hK _ ?_;clear hK K;refine zw (zk [8]) ?_;simp only [go_sem];refine ze ?_;simp only [go_sem]
     · have hss:=(rfl : true = true)
       refine zc rfl (fun hc=>?_) (fun hc=>?_) <;> (try simp only [go_sem] at hc)
       refine zq ?_
       refine zb fun K hK=>?_;simp only [go_sem,eqA,wA]
       refine ⟨by omega,?_⟩
       refine hK _ ?_;clear hK K;refine zw (zk [8]) ?_;simp only [go_sem];refine ze ?_;simp only [go_sem]
end Go.Proofs.YtgfbenanljjgaaaGreat.Du.Th.Ai

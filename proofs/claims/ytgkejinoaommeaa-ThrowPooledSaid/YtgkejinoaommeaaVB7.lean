/- Part 7 of the texts of this claim. -/
import Derived.Test.YtgkejinoaommeaaVB6
import Derived.Test.YtgkejinoaommeaaVB5
namespace Go.Proofs.Ytgkejinoaommeaa
open Go Go.Oc
set_option linter.unusedSimpArgs false
set_option linter.unusedVariables false
set_option maxRecDepth 8000
def tightB (d L H : Int) (x : Bd) : Bd:=⟨x.b,max x.lo (d - (H - x.hi)),min x.hi (d - (L - x.lo))⟩
def tightL (d : Int) (l : List Bd) : List Bd:=l.map (tightB d (loS l) (hiS l))
theorem tight_ok (a d : Int) (l : List Bd) (hs : Small l) (hl : l.length ≤ 10) (hd : 0 ≤ d) (hd' : d ≤ 6000) : ACalls Try.prog 49 [.ag [i64 a,bedsR l,i64 d]] (bedsR (tightL d l)):=by
 have hb:=sums_le hs
 refine acalls_st (rs:=[bedsR (tightL d l)]) [.tmp 2] Try.func49 rfl (by kernel_rfl) Try.ntmps49 rfl (by simp) rfl fun C vs=>?_
 repeat refine zq ?_
 refine zb (by kernel_rfl) fun K hK=>?_
 simp only [go_sem]
 (try simp (disch:=omega) only [zI])
 repeat first | intro _ | refine ⟨by omega,?_⟩ | refine ⟨⟨by omega,by omega⟩,?_⟩
 refine hK _ ?_
 clear hK K
 repeat refine zq ?_
 refine zb (by kernel_rfl) fun K hK=>?_
 simp only [go_sem]
 (try simp (disch:=omega) only [zI])
 refine zh (sums_ok a l d hs (by omega)) rfl (by simp only [go_sem,i64,ints]) (by simp only [go_sem,i64,ints]) (by first | exact .inl rfl | exact .inr rfl) ?_
 (try simp only [go_sem])
 (try simp (disch:=omega) only [zI])
 repeat first | intro _ | refine ⟨by omega,?_⟩ | refine ⟨⟨by omega,by omega⟩,?_⟩
 refine hK _ ?_
 clear hK K
 refine zw (zk [1,2,3]) ?_
 simp only [go_sem]
 repeat refine zq ?_
 refine zb (by kernel_rfl) fun K hK=>?_
 simp only [go_sem]
 (try simp (disch:=omega) only [zI])
 intro _
 repeat first | intro _ | refine ⟨by omega,?_⟩ | refine ⟨⟨by omega,by omega⟩,?_⟩
 refine hK _ ?_
 clear hK K
 refine zw (zk [1,2,3,11,12,13]) ?_
 simp only [go_sem]
 repeat refine zq ?_
 refine zd ?_
 refine zw (sub_own 2 46 67 3 (by omega) rfl) ?_
 try simp only [go_sem]
 refine awp_upto (n:=49) l.length (fun i vs=>[(1,.pt 1 (vs 1) 0),(2,.os 46 (vs 46) 3 0 i),(3,.pt 3 (vs 3) 0),(11,.r (bedsR l)),(12,.r (i64 l.length)),(13,.r (i64 i))])
  (fun i=>[(1,.box [.r (i64 a),.r (bedsR l),.r (i64 d)]),(3,.box [.r (i64 (loS l)),.r (i64 (hiS l))]),(46,.arr 67 3 (((tightL d l).take i).map bedR))]) (fun _=>True) 0 (fit_of [] ?_ ?_) (Nat.zero_le _) trivial ?_
 · try simp only [go_sem]
 · try simp only [go_sem]
 · intro i vs hi _
   have hlt : ((tightL d l).take i).length = i:=by rw [List.length_take]; simp [tightL]; omega
   repeat refine zq ?_
   refine zb (by kernel_rfl) fun K hK=>?_
   simp only [go_sem]
   (try simp (disch:=omega) only [zI])
   repeat first | intro _ | refine ⟨by omega,?_⟩ | refine ⟨⟨by omega,by omega⟩,?_⟩
   refine hK _ ?_
   clear hK K
   repeat refine zq ?_
   refine zc rfl (fun hc=>?_) (fun hc=>?_) <;> (try simp only [go_sem] at hc)
   · have hci:=hc
     obtain ⟨x,hx⟩:=opt_of_lt hc
     obtain ⟨⟨x1,x2⟩,x3,x4⟩:=hs x (mem_of_opt hx)
     have htx : (tightL d l).take (i + 1) = (tightL d l).take i ++ [tightB d (loS l) (hiS l) x]:=take_of_opt (by simp [tightL,hx])
     refine zx ?_
     repeat refine zq ?_
     refine zd ?_
     repeat refine zq ?_
     refine zb (by kernel_rfl) fun K hK=>?_
     simp only [go_sem,hx,hc,bedR]
     (try simp (disch:=omega) only [zI])
     repeat first | intro _ | refine ⟨by omega,?_⟩ | refine ⟨⟨by omega,by omega⟩,?_⟩
     refine hK _ ?_
     clear hK K
     repeat refine zq ?_
     refine zb (by kernel_rfl) fun K hK=>?_
     simp only [go_sem]
     (try simp (disch:=omega) only [zI])
     repeat first | intro _ | refine ⟨by omega,?_⟩ | refine ⟨⟨by omega,by omega⟩,?_⟩
     refine hK _ ?_
     clear hK K
     repeat refine zq ?_
     refine zb (by kernel_rfl) fun K hK=>?_
     simp only [go_sem]
     (try simp (disch:=omega) only [zI])
     repeat first | intro _ | refine ⟨by omega,?_⟩ | refine ⟨⟨by omega,by omega⟩,?_⟩
     refine hK _ ?_
     clear hK K
     refine zw (zk [1,2,3,5,11,12,13]) ?_
     simp only [go_sem]
     repeat refine zq ?_
     refine zb (by kernel_rfl) fun K hK=>?_
     simp only [go_sem,hlt]
     (try simp (disch:=omega) only [zI])
     repeat first | intro _ | refine ⟨by omega,?_⟩ | refine ⟨⟨by omega,by omega⟩,?_⟩
     refine hK _ ?_
     clear hK K
     refine zw (zk [1,2,3,11,12,13]) ?_
     simp only [go_sem]
     repeat refine zq ?_
     refine zb (by kernel_rfl) fun K hK=>?_
     simp only [go_sem]
     (try simp (disch:=omega) only [zI])
     repeat first | intro _ | refine ⟨by omega,?_⟩ | refine ⟨⟨by omega,by omega⟩,?_⟩
     refine hK _ ?_
     clear hK K
     try simp only [go_sem]
     refine ⟨hci,fit_of [5,6] ?_ ?_⟩
     · try simp only [go_sem]
     · try simp only [go_sem]
       rw [htx]
       simp [bedR,tightB]
   · refine zf ?_
     simp only [go_sem]
     repeat refine zq ?_
     refine zb (by kernel_rfl) fun K hK=>?_
     simp only [go_sem]
     (try simp (disch:=omega) only [zI])
     repeat first | intro _ | refine ⟨by omega,?_⟩ | refine ⟨⟨by omega,by omega⟩,?_⟩
     refine hK _ ?_
     clear hK K
     refine ze ?_
     simp only [go_sem]
     have h1 : i = l.length:=by omega
     have h2 : (tightL d l).take i = tightL d l:=List.take_of_length_le (by simp [tightL]; omega)
     subst h1
     rw [h2]
     simp [tightL]
     exact List.take_of_length_le (by simp)
theorem aimOk_facts {d : Int} {a : Am} (h : aimOk d a = true) : bedOk a.at_ = true ∧ a.beds ≠ [] ∧ seqOk none a.beds = true ∧ chOk d a.beds = true ∧ loS a.beds ≤ d ∧ d ≤ hiS a.beds:=by
 simp only [aimOk,Bool.and_eq_true,decide_eq_true_eq,Bool.not_eq_true'] at h
 obtain ⟨⟨⟨⟨⟨h1,h2⟩,h3⟩,h4⟩,h5⟩,h6⟩:=h
 exact ⟨h1,fun e=>(by rw [e] at h2; cases h2),h3,h4,h5,h6⟩
theorem checkV_zero {d : Int} {l : List Am} (h : checkV d l = 0) : l.length ≤ 20 ∧ (∀ a ∈ l,a.beds.length ≤ 10) ∧ l ≠ [] ∧ (1 ≤ d ∧ d ≤ 3000) ∧ ∀ a ∈ l,aimOk d a = true:=by
 unfold checkV at h
 split at h
 · cases h
 rename_i h1
 split at h
 · cases h
 rename_i h2
 split at h
 · rename_i h3
   simp only [Bool.or_eq_true,decide_eq_true_eq,List.any_eq_true,not_or,not_exists,not_and,Nat.not_lt,Bool.not_eq_true,Bool.not_eq_false',Bool.and_eq_true] at h1 h2
   refine ⟨h1.1,h1.2,fun e=>?_,by simpa using h2.2,List.all_eq_true.1 h3⟩
   rw [e] at h2
   simp at h2
 · cases h
def tightA (d : Int) (a : Am) : Am:=⟨a.at_,tightL d a.beds⟩
theorem Tight_ok (d : Int) (l : List Am) (hw : WfL d l) : ACalls Try.prog 16 [lawV d l] (.tu [if checkV d l = 0 then lawV d (l.map (tightA d)) else .ag [i64 0,.ns],i64 (checkV d l)]):=by
 refine acalls_stR (rs:=[if checkV d l = 0 then lawV d (l.map (tightA d)) else .ag [i64 0,.ns],i64 (checkV d l)]) [.cell 2 24,.tmp 3] Try.func16 rfl (by kernel_rfl) Try.ntmps16 rfl (by simp) rfl fun C hC vs=>?_
 repeat refine zq ?_
 refine zb (by kernel_rfl) fun K hK=>?_
 simp only [go_sem]
 (try simp (disch:=omega) only [zI])
 repeat first | intro _ | refine ⟨by omega,?_⟩ | refine ⟨⟨by omega,by omega⟩,?_⟩
 refine hK _ ?_
 clear hK K
 repeat refine zq ?_
 refine zb (by kernel_rfl) fun K hK=>?_
 simp only [go_sem]
 (try simp (disch:=omega) only [zI])
 refine zh (check_ok d l hw) rfl (by simp only [go_sem,i64,ints]) (by simp only [go_sem,i64,ints]) (by first | exact .inl rfl | exact .inr rfl) ?_
 (try simp only [go_sem])
 (try simp (disch:=omega) only [zI])
 repeat first | intro _ | refine ⟨by omega,?_⟩ | refine ⟨⟨by omega,by omega⟩,?_⟩
 refine hK _ ?_
 clear hK K
 repeat refine zq ?_
 refine zb (by kernel_rfl) fun K hK=>?_
 simp only [go_sem]
 (try simp (disch:=omega) only [zI])
 cases hE : checkV d l != 0
 case true =>
  repeat first | intro _ | refine ⟨by omega,?_⟩ | refine ⟨⟨by omega,by omega⟩,?_⟩
  refine hK _ ?_
  clear hK K
  have hne : ¬ checkV d l = 0:=by simpa using hE
  repeat refine zq ?_
  refine zc rfl (fun hc=>?_) (fun hc=>?_) <;> (try simp only [go_sem] at hc)
  repeat refine zq ?_
  refine zb (by kernel_rfl) fun K hK=>?_
  simp only [go_sem]
  (try simp (disch:=omega) only [zI])
  repeat first | intro _ | refine ⟨by omega,?_⟩ | refine ⟨⟨by omega,by omega⟩,?_⟩
  refine hK _ ?_
  clear hK K
  refine ze ?_
  simp only [go_sem]
  simp [hne,leL_refl.le_refl]
 have h0 : checkV d l = 0:=by simpa using hE
 obtain ⟨c1,c2,c3,c4,c5⟩:=checkV_zero h0
 repeat first | intro _ | refine ⟨by omega,?_⟩ | refine ⟨⟨by omega,by omega⟩,?_⟩
 refine hK _ ?_
 clear hK K
 repeat refine zq ?_
 refine zc rfl (fun hc=>?_) (fun hc=>?_) <;> (try simp only [go_sem] at hc)
 refine zx ?_
 try simp only [go_sem]
 repeat refine zq ?_
 refine zb (by kernel_rfl) fun K hK=>?_
 simp only [go_sem]
 (try simp (disch:=omega) only [zI])
 repeat first | intro _ | refine ⟨by omega,?_⟩ | refine ⟨⟨by omega,by omega⟩,?_⟩
 refine hK _ ?_
 clear hK K
 repeat refine zq ?_
 refine zb (by kernel_rfl) fun K hK=>?_
 simp only [go_sem]
 (try simp (disch:=omega) only [zI])
 refine zh (all_ok d l) rfl (by simp only [go_sem,i64,ints]) (by simp only [go_sem,i64,ints]) (by first | exact .inl rfl | exact .inr rfl) ?_
 (try simp only [go_sem])
 (try simp (disch:=omega) only [zI])
 repeat first | intro _ | refine ⟨by omega,?_⟩ | refine ⟨⟨by omega,by omega⟩,?_⟩
 refine hK _ ?_
 clear hK K
 refine zw (zk [2,5,18]) ?_
 simp only [go_sem]
 repeat refine zq ?_
 refine zd ?_
 refine zw (sub_ownB 5 1 30 36 2 (by omega) (by omega) rfl rfl) ?_
 try simp only [go_sem]
 refine awp_rangeF hC (enumA d l) (all1_ok d l) [2,5,18] (by decide) (fun vs=>[(2,.pt 2 (vs 2) 0),(5,.pt 5 (vs 5) 0),(18,.r (.fn 73 [.rp [i64 d,aimsR l]]))])
  (fun i vs=>[(2,.box [.r (i64 0),.r .ns]),(5,.box [.r (i64 d),.os 30 (vs 30) 2 0 i]),(30,.arr 36 2 (((l.map (tightA d)).take i).map aimR))])
  (fun i=>True) (zj [1] ?_ ?_) trivial (fun _=>rfl) (fun _=>rfl) (fun _ _=>rfl) (by simp) (fun e he=>enumA_len he) ?_ ?_
 · try simp only [go_sem]
 · try simp only [go_sem]
 · intro i e vs us C he _
   obtain ⟨x,hx,rfl⟩:=enumA_get he
   obtain ⟨_,_,_,k4,_⟩:=aimOk_facts (c5 x (mem_of_opt hx))
   have hil : i < l.length:=(List.getElem?_eq_some_iff.1 hx).1
   have hlt : ((l.map (tightA d)).take i).length = i:=by rw [List.length_take]; simp; omega
   have htx : (l.map (tightA d)).take (i + 1) = (l.map (tightA d)).take i ++ [tightA d x]:=take_of_opt (by simp [hx])
   repeat refine zq ?_
   refine zb (by kernel_rfl) fun K hK=>?_
   simp only [go_sem]
   (try simp (disch:=omega) only [zI])
   repeat first | intro _ | refine ⟨by omega,?_⟩ | refine ⟨⟨by omega,by omega⟩,?_⟩
   refine hK _ ?_
   clear hK K
   refine ⟨rfl,fun C'=>?_⟩
   refine zw (zk [2,5,7,18]) ?_
   simp only [go_sem]
   repeat refine zq ?_
   refine zd ?_
   repeat refine zq ?_
   refine awp_dreg3 [(2,some 2),(5,some 5),(7,some 7)] [2,5,7] follows (by decide +kernel) (by kernel_rfl) (by simp only [keysOk,List.mem_cons,List.not_mem_nil,forall_eq_or_imp,Oc.keyOf,go_sem]; simp) (by intro k hk; simp only [List.mem_cons,List.not_mem_nil,or_false] at hk; first | (subst hk; exact ⟨_,rfl⟩) | (rcases hk with rfl | rfl <;> exact ⟨_,rfl⟩) | (rcases hk with rfl | rfl | rfl <;> exact ⟨_,rfl⟩)) fun K hK=>?_
   simp only [go_sem,hlt]
   (try simp (disch:=omega) only [zI])
   refine zh (tight_ok x.at_ d x.beds (chOk_small k4 (by omega)) (c2 x (mem_of_opt hx)) (by omega) (by omega)) rfl (by simp only [go_sem,i64,ints,hlt]) (by simp only [go_sem,i64,ints,hlt]) (by first | exact .inl rfl | exact .inr rfl) ?_
   (try simp only [go_sem,hlt])
   (try simp (disch:=omega) only [zI])
   repeat first | intro _ | refine ⟨by omega,?_⟩ | refine ⟨⟨by omega,by omega⟩,?_⟩
   refine hK _ ?_
   clear hK K
   try simp only [go_sem]
   refine zj (F:=fun _=>[]) [7] (by try simp only [go_sem]) ?_
   try simp only [go_sem]
   rw [htx]
   simp [aimR,tightA]
 · intro vs us _
   try simp only [go_sem]
   refine zw (sub_wake rfl) ?_
   repeat refine zq ?_
   refine zb (by kernel_rfl) fun K hK=>?_
   simp only [go_sem]
   (try simp (disch:=omega) only [zI])
   repeat first | intro _ | refine ⟨by omega,?_⟩ | refine ⟨⟨by omega,by omega⟩,?_⟩
   refine hK _ ?_
   clear hK K
   refine ze ?_
   simp only [go_sem]
   have hel : (enumA d l).length = l.length:=by simp [enumA]
   rw [hel,h0]
   refine ⟨⟨by simp,?_⟩,rfl⟩
   rw [if_pos rfl,List.take_of_length_le (l:=l.map (tightA d)) (by simp),List.take_of_length_le (by simp)]
   exact leL_refl.le_refl _
end Go.Proofs.Ytgkejinoaommeaa

namespace Go.Proofs.Ytgkejinoaommeaa
open Go Go.Oc
set_option linter.unusedSimpArgs false
set_option linter.unusedVariables false
set_option maxRecDepth 8000
def cmpI (x y : Int) : Int:=if x < y then -1 else if y < x then 1 else 0
theorem nan_ok (n : Int) : ACalls Try.prog 96 [i64 n] (.bo false):=by
 refine acalls_st (rs:=[.bo false]) [.tmp 2] Try.func96 rfl (by kernel_rfl) Try.ntmps96 rfl (by simp) rfl fun C vs=>?_
 repeat refine zq ?_
 refine zb (by kernel_rfl) fun K hK=>?_
 simp only [go_sem]
 (try simp (disch:=omega) only [zI])
 repeat first | intro _ | refine ⟨by omega,?_⟩ | refine ⟨⟨by omega,by omega⟩,?_⟩
 refine hK _ ?_
 clear hK K
 repeat refine zq ?_
 refine zb (by kernel_rfl) fun K hK=>?_
 simp only [go_sem]
 (try simp (disch:=omega) only [zI])
 repeat first | intro _ | refine ⟨by omega,?_⟩ | refine ⟨⟨by omega,by omega⟩,?_⟩
 refine hK _ ?_
 clear hK K
 refine ze ?_
 simp only [go_sem]
 simp
theorem compare_ok (x y : Int) : ACalls Try.prog 89 [i64 x,i64 y] (i64 (cmpI x y)):=by
 refine acalls_st (rs:=[i64 (cmpI x y)]) [.tmp 4] Try.func89 rfl (by kernel_rfl) Try.ntmps89 rfl (by simp) rfl fun C vs=>?_
 repeat refine zq ?_
 refine zb (by kernel_rfl) fun K hK=>?_
 simp only [go_sem]
 (try simp (disch:=omega) only [zI])
 repeat first | intro _ | refine ⟨by omega,?_⟩ | refine ⟨⟨by omega,by omega⟩,?_⟩
 refine hK _ ?_
 clear hK K
 repeat refine zq ?_
 refine zb (by kernel_rfl) fun K hK=>?_
 simp only [go_sem]
 (try simp (disch:=omega) only [zI])
 refine zh (nan_ok x) rfl (by simp only [go_sem,i64,ints]) (by simp only [go_sem,i64,ints]) (by first | exact .inl rfl | exact .inr rfl) ?_
 (try simp only [go_sem])
 (try simp (disch:=omega) only [zI])
 repeat first | intro _ | refine ⟨by omega,?_⟩ | refine ⟨⟨by omega,by omega⟩,?_⟩
 refine hK _ ?_
 clear hK K
 repeat refine zq ?_
 refine zb (by kernel_rfl) fun K hK=>?_
 simp only [go_sem]
 (try simp (disch:=omega) only [zI])
 refine zh (nan_ok y) rfl (by simp only [go_sem,i64,ints]) (by simp only [go_sem,i64,ints]) (by first | exact .inl rfl | exact .inr rfl) ?_
 (try simp only [go_sem])
 (try simp (disch:=omega) only [zI])
 repeat first | intro _ | refine ⟨by omega,?_⟩ | refine ⟨⟨by omega,by omega⟩,?_⟩
 refine hK _ ?_
 clear hK K
 repeat refine zq ?_
 refine zb (by kernel_rfl) fun K hK=>?_
 simp only [go_sem]
 (try simp (disch:=omega) only [zI])
 repeat first | intro _ | refine ⟨by omega,?_⟩ | refine ⟨⟨by omega,by omega⟩,?_⟩
 refine hK _ ?_
 clear hK K
 repeat refine zq ?_
 refine zc rfl (fun hc=>?_) (fun hc=>?_) <;> (try simp only [go_sem] at hc)
 refine zx ?_
 try simp only [go_sem]
 repeat refine zq ?_
 refine zb (by kernel_rfl) fun K hK=>?_
 simp only [go_sem]
 (try simp (disch:=omega) only [zI])
 repeat first | intro _ | refine ⟨by omega,?_⟩ | refine ⟨⟨by omega,by omega⟩,?_⟩
 refine hK _ ?_
 clear hK K
 repeat refine zq ?_
 refine zc rfl (fun hc=>?_) (fun hc=>?_) <;> (try simp only [go_sem] at hc)
 refine zx ?_
 try simp only [go_sem]
 repeat refine zq ?_
 refine zb (by kernel_rfl) fun K hK=>?_
 simp only [go_sem]
 (try simp (disch:=omega) only [zI])
 repeat first | intro _ | refine ⟨by omega,?_⟩ | refine ⟨⟨by omega,by omega⟩,?_⟩
 refine hK _ ?_
 clear hK K
 repeat refine zq ?_
 refine zc rfl (fun hc=>?_) (fun hc=>?_) <;> (try simp only [go_sem] at hc)
 · repeat refine zq ?_
   refine zb (by kernel_rfl) fun K hK=>?_
   simp only [go_sem]
   (try simp (disch:=omega) only [zI])
   repeat first | intro _ | refine ⟨by omega,?_⟩ | refine ⟨⟨by omega,by omega⟩,?_⟩
   refine hK _ ?_
   clear hK K
   refine ze ?_
   simp only [go_sem]
   simp [cmpI,hc]
 refine zx ?_
 try simp only [go_sem]
 repeat refine zq ?_
 refine zb (by kernel_rfl) fun K hK=>?_
 simp only [go_sem]
 (try simp (disch:=omega) only [zI])
 repeat first | intro _ | refine ⟨by omega,?_⟩ | refine ⟨⟨by omega,by omega⟩,?_⟩
 refine hK _ ?_
 clear hK K
 have h1:=hc
 repeat refine zq ?_
 refine zc rfl (fun hc=>?_) (fun hc=>?_) <;> (try simp only [go_sem] at hc)
 · repeat refine zq ?_
   refine zb (by kernel_rfl) fun K hK=>?_
   simp only [go_sem]
   (try simp (disch:=omega) only [zI])
   repeat first | intro _ | refine ⟨by omega,?_⟩ | refine ⟨⟨by omega,by omega⟩,?_⟩
   refine hK _ ?_
   clear hK K
   refine ze ?_
   simp only [go_sem]
   have : ¬ x < y:=by omega
   simp [cmpI,hc,this]
 refine zx ?_
 try simp only [go_sem]
 repeat refine zq ?_
 refine zb (by kernel_rfl) fun K hK=>?_
 simp only [go_sem]
 (try simp (disch:=omega) only [zI])
 repeat first | intro _ | refine ⟨by omega,?_⟩ | refine ⟨⟨by omega,by omega⟩,?_⟩
 refine hK _ ?_
 clear hK K
 refine ze ?_
 simp only [go_sem]
 have h2 : ¬ x < y:=by omega
 have h3 : ¬ y < x:=by omega
 simp [cmpI,h2,h3]
theorem rising_ok (x y : Int) : ACalls Try.prog 67 [i64 x,i64 y] (i64 (cmpI x y)):=by
 refine acalls_st (rs:=[i64 (cmpI x y)]) [.tmp 4] Try.func67 rfl (by kernel_rfl) Try.ntmps67 rfl (by simp) rfl fun C vs=>?_
 repeat refine zq ?_
 refine zb (by kernel_rfl) fun K hK=>?_
 simp only [go_sem]
 (try simp (disch:=omega) only [zI])
 repeat first | intro _ | refine ⟨by omega,?_⟩ | refine ⟨⟨by omega,by omega⟩,?_⟩
 refine hK _ ?_
 clear hK K
 repeat refine zq ?_
 refine zb (by kernel_rfl) fun K hK=>?_
 simp only [go_sem]
 (try simp (disch:=omega) only [zI])
 refine zh (compare_ok x y) rfl (by simp only [go_sem,i64,ints]) (by simp only [go_sem,i64,ints]) (by first | exact .inl rfl | exact .inr rfl) ?_
 (try simp only [go_sem])
 (try simp (disch:=omega) only [zI])
 repeat first | intro _ | refine ⟨by omega,?_⟩ | refine ⟨⟨by omega,by omega⟩,?_⟩
 refine hK _ ?_
 clear hK K
 refine ze ?_
 simp only [go_sem]
theorem falling_ok (x y : Int) : ACalls Try.prog 66 [i64 x,i64 y] (i64 (cmpI y x)):=by
 refine acalls_st (rs:=[i64 (cmpI y x)]) [.tmp 4] Try.func66 rfl (by kernel_rfl) Try.ntmps66 rfl (by simp) rfl fun C vs=>?_
 repeat refine zq ?_
 refine zb (by kernel_rfl) fun K hK=>?_
 simp only [go_sem]
 (try simp (disch:=omega) only [zI])
 repeat first | intro _ | refine ⟨by omega,?_⟩ | refine ⟨⟨by omega,by omega⟩,?_⟩
 refine hK _ ?_
 clear hK K
 repeat refine zq ?_
 refine zb (by kernel_rfl) fun K hK=>?_
 simp only [go_sem]
 (try simp (disch:=omega) only [zI])
 refine zh (compare_ok y x) rfl (by simp only [go_sem,i64,ints]) (by simp only [go_sem,i64,ints]) (by first | exact .inl rfl | exact .inr rfl) ?_
 (try simp only [go_sem])
 (try simp (disch:=omega) only [zI])
 repeat first | intro _ | refine ⟨by omega,?_⟩ | refine ⟨⟨by omega,by omega⟩,?_⟩
 refine hK _ ?_
 clear hK K
 refine ze ?_
 simp only [go_sem]
theorem filled1_ok (i k : Nat) (vals : List Int) (f : Nat) (cm : Int → Int → Int) (hf : ∀ x y,ACalls Try.prog f [i64 x,i64 y] (i64 (cm x y))) {x y : Int} (hx : vals[i]? = some x) (hy : vals[k]? = some y) :
 ACalls Try.prog 88 [i64 i,i64 k,.rp [.fn f []],.rp [ints vals]] (i64 (cm x y)):=by
 have hi:=(List.getElem?_eq_some_iff.1 hx).1
 have hk:=(List.getElem?_eq_some_iff.1 hy).1
 refine acalls_st (rs:=[i64 (cm x y)]) [.tmp 6] Try.func88 rfl (by kernel_rfl) Try.ntmps88 rfl (by simp) rfl fun C vs=>?_
 repeat refine zq ?_
 refine zb (by kernel_rfl) fun K hK=>?_
 simp only [go_sem]
 (try simp (disch:=omega) only [zI])
 repeat first | intro _ | refine ⟨by omega,?_⟩ | refine ⟨⟨by omega,by omega⟩,?_⟩
 refine hK _ ?_
 clear hK K
 repeat refine zq ?_
 refine zg follows (by decide +kernel) (by kernel_rfl) fun K hK=>?_
 simp only [go_sem,hx,hy,hi,hk]
 (try simp (disch:=omega) only [zI])
 refine zh (hf x y) rfl (by simp only [go_sem,i64,ints]) (by simp only [go_sem,i64,ints]) (by first | exact .inl rfl | exact .inr rfl) ?_
 (try simp only [go_sem])
 (try simp (disch:=omega) only [zI])
 repeat first | intro _ | refine ⟨by omega,?_⟩ | refine ⟨⟨by omega,by omega⟩,?_⟩
 refine hK _ ?_
 clear hK K
 refine ze ?_
 simp only [go_sem]
def insB (lt : Nat → Nat → Bool) (x : Nat) : List Nat → List Nat
 | []=>[x]
 | y :: ys=>if lt x y then y :: insB lt x ys else x :: y :: ys
def sortB (lt : Nat → Nat → Bool) : List Nat → List Nat → List Nat
 | [],R=>R
 | x :: xs,R=>sortB lt xs (insB lt x R)
def sortN (lt : Nat → Nat → Bool) (l : List Nat) : List Nat:=(sortB lt l []).reverse
theorem insB_len (lt : Nat → Nat → Bool) (x : Nat) : ∀ R,(insB lt x R).length = R.length + 1
 | []=>rfl
 | y :: R => by
   unfold insB
   split
   · simp [insB_len lt x R]
   · rfl
theorem insB_skip (lt : Nat → Nat → Bool) (x : Nat) : ∀ (R : List Nat) (k : Nat),(∀ y ∈ R.take k,lt x y = true) → insB lt x R = R.take k ++ insB lt x (R.drop k)
 | R,0,_=>by simp
 | [],k + 1,_=>by simp
 | y :: R, k + 1, h => by
   have hy : lt x y = true:=h y (by simp)
   have ih:=insB_skip lt x R k fun z hz=>h z (by simp [hz])
   simp only [List.take_succ_cons,List.drop_succ_cons,List.cons_append]
   rw [← ih]
   simp [insB,hy]
theorem sortB_snoc (lt : Nat → Nat → Bool) : ∀ (l : List Nat) (x : Nat) (R : List Nat),sortB lt (l ++ [x]) R = insB lt x (sortB lt l R)
 | [],_,_=>rfl
 | y :: l,x,R=>by simp only [List.cons_append,sortB]; exact sortB_snoc lt l x _
theorem sortB_len (lt : Nat → Nat → Bool) : ∀ (l R : List Nat),(sortB lt l R).length = l.length + R.length
 | [],R=>by simp [sortB]
 | x :: l,R=>by simp only [sortB]; rw [sortB_len lt l,insB_len]; simp; omega
theorem mem_insB (lt : Nat → Nat → Bool) (x z : Nat) : ∀ R,z ∈ insB lt x R ↔ z = x ∨ z ∈ R
 | []=>by simp [insB]
 | y :: R => by
   unfold insB
   split
   · simp only [List.mem_cons,mem_insB lt x z R]
     constructor
     · rintro (h | h | h) <;> simp [h]
     · rintro (h | h | h) <;> simp [h]
   · simp
theorem mem_sortB (lt : Nat → Nat → Bool) (z : Nat) : ∀ l R,z ∈ sortB lt l R ↔ z ∈ l ∨ z ∈ R
 | [],R=>by simp [sortB]
 | x :: l, R => by
   simp only [sortB]
   rw [mem_sortB lt z l,mem_insB]
   simp only [List.mem_cons]
   constructor
   · rintro (h | h | h) <;> simp [h]
   · rintro ((h | h) | h) <;> simp [h]
def holeL (R : List Nat) (x k : Nat) (rest : List Nat) : List Nat:=(R.drop k).reverse ++ x :: ((R.take k).reverse ++ rest)
theorem hole_len (R : List Nat) (x k : Nat) (rest : List Nat) (hk : k ≤ R.length) : (holeL R x k rest).length = R.length + 1 + rest.length:=by
 simp [holeL]; omega
theorem hole_at (R : List Nat) (x k : Nat) (rest : List Nat) (hk : k ≤ R.length) : (holeL R x k rest)[R.length - k]? = some x:=by
 unfold holeL
 rw [List.getElem?_append_right (by simp)]
 simp
theorem hole_next {R : List Nat} {x k y : Nat} {rest : List Nat} (hy : R[k]? = some y) : (holeL R x k rest)[R.length - k - 1]? = some y ∧ (holeL R x k rest) = (R.drop (k + 1)).reverse ++ y :: x :: ((R.take k).reverse ++ rest) ∧ holeL R x (k + 1) rest = (R.drop (k + 1)).reverse ++ x :: y :: ((R.take k).reverse ++ rest):=by
 have hk:=(List.getElem?_eq_some_iff.1 hy).1
 have hd:=drop_of_opt hy
 have ht:=take_of_opt hy
 have e1 : (holeL R x k rest) = (R.drop (k + 1)).reverse ++ y :: x :: ((R.take k).reverse ++ rest):=by
  unfold holeL; rw [hd]; simp
 refine ⟨?_,e1,by unfold holeL; rw [ht]; simp⟩
 rw [e1,List.getElem?_append_right (by simp; omega)]
 have : R.length - k - 1 - (R.drop (k + 1)).reverse.length = 0:=by simp; omega
 rw [this]; rfl
theorem hole_swap {α : Type} (g : Nat → α) {R : List Nat} {x k y : Nat} {rest : List Nat} (hy : R[k]? = some y) :
 (((holeL R x k rest).map g).set (R.length - k) (g y)).set (R.length - k - 1) (g x) = (holeL R x (k + 1) rest).map g:=by
 obtain ⟨_,e1,e2⟩:=hole_next (x:=x) (rest:=rest) hy
 have hk:=(List.getElem?_eq_some_iff.1 hy).1
 rw [e1,e2,← List.map_set,← List.map_set]
 congr 1
 have hl : (R.drop (k + 1)).reverse.length = R.length - k - 1:=by simp; omega
 generalize (R.drop (k + 1)).reverse = A at hl
 generalize (R.take k).reverse ++ rest = B
 have e3 : R.length - k = A.length + 1:=by omega
 rw [e3,Nat.add_sub_cancel]
 rw [List.set_append_right _ _ (by omega)]
 simp only [Nat.add_sub_cancel_left,List.set_cons_succ,List.set_cons_zero]
 rw [List.set_append_right _ _ (by omega)]
 simp
theorem lent_put {vs : Nat → Nat} {k : Nat} (h : Lent vs) : Lent (upd vs k 0):=fun j hj=>by
 unfold upd; split
 · rfl
 · exact h j hj
abbrev idx (l : List Nat) : List (List RV):=l.map fun (x : Nat)=>[i64 (x : Int)]
theorem insertion_ok (lt : Nat → Nat → Bool) (c : Nat → Nat → Int) (f : Nat) (caps : List RV) (l : List Nat) (hl : l.length ≤ 1000) (hlt : ∀ x y,lt x y = decide (c x y < 0))
 (hcc : ∀ x ∈ l,∀ y ∈ l,ACalls Try.prog f (i64 (x : Int) :: i64 (y : Int) :: caps) (i64 (c x y))) :
 MCalls Try.prog 97 [(1000,.arr 3 1 (idx l))] [(1000,.arr 3 1 (idx (sortN lt l)))] [.os 1000 0 1 0 l.length,.r (i64 0),.r (i64 l.length),.r (.fn f caps)] (.tu []):=by
 refine mcalls_st (n:=53) (rs:=[]) _ _ [] Try.func97 rfl (by kernel_rfl) Try.ntmps97 rfl (by simp) rfl rfl fun C=>?_
 have hmem : ∀ i z,z ∈ sortB lt (l.take i) [] → z ∈ l:=fun i z hz=>by
  rw [mem_sortB] at hz
  rcases hz with hz | hz
  · exact List.mem_of_mem_take hz
  · cases hz
 repeat refine zq ?_
 refine zb (by kernel_rfl) fun K hK=>?_
 simp only [go_sem]
 (try simp (disch:=omega) only [zI])
 repeat first | intro _ | refine ⟨by omega,?_⟩ | refine ⟨⟨by omega,by omega⟩,?_⟩
 refine hK _ ?_
 clear hK K
 refine zw (zk [0,1,2,3,8]) ?_
 simp only [go_sem]
 repeat refine zq ?_
 refine zd ?_
 refine awp_upto0 (n:=53) (max l.length 1) (fun i vs=>[(0,.os 1000 0 1 0 l.length),(1,.r (i64 0)),(2,.r (i64 l.length)),(3,.r (.fn f caps)),(8,.r (i64 i))])
  (fun i=>[(1000,.arr 3 1 (idx ((sortB lt (l.take i) []).reverse ++ l.drop i)))]) (fun i=>1 ≤ i) 1 (fit0_of [] lent_zero ?_ ?_) (by omega) (Nat.le_refl _) ?_
 · try simp only [go_sem]
 · simp only [go_sem]
   cases l with
   | nil=>rfl
   | cons x l=>simp [sortB,insB]
 · intro i vs hv hi hi1
   have hv0:=hv 1000 (by omega)
   repeat refine zq ?_
   refine zb (by kernel_rfl) fun K hK=>?_
   simp only [go_sem]
   (try simp (disch:=omega) only [zI])
   repeat first | intro _ | refine ⟨by omega,?_⟩ | refine ⟨⟨by omega,by omega⟩,?_⟩
   refine hK _ ?_
   clear hK K
   refine zw (zk [0,1,2,3,8,14]) ?_
   simp only [go_sem]
   repeat refine zq ?_
   refine zc rfl (fun hc=>?_) (fun hc=>?_) <;> (try simp only [go_sem] at hc)
   · have hci : i < l.length:=by omega
     obtain ⟨x,hx⟩:=opt_of_lt hci
     obtain ⟨R,hR⟩ : ∃ R,R = sortB lt (l.take i) []:=⟨_,rfl⟩
     have hRl : R.length = i:=by rw [hR,sortB_len]; simp; omega
     have hRm : ∀ z ∈ R,z ∈ l:=fun z hz=>hmem i z (hR ▸ hz)
     have hnx : sortB lt (l.take (i + 1)) [] = insB lt x R:=by rw [take_of_opt hx,sortB_snoc,hR]
     have hst : (sortB lt (l.take i) []).reverse ++ l.drop i = holeL R x 0 (l.drop (i + 1)):=by rw [← hR,drop_of_opt hx]; simp [holeL]
     rw [hst]
     refine zx ?_
     repeat refine zq ?_
     refine zd ?_
     repeat refine zq ?_
     refine zb (by kernel_rfl) fun K hK=>?_
     simp only [go_sem]
     (try simp (disch:=omega) only [zI])
     repeat first | intro _ | refine ⟨by omega,?_⟩ | refine ⟨⟨by omega,by omega⟩,?_⟩
     refine hK _ ?_
     clear hK K
     refine zw (zk [0,1,2,3,8,9]) ?_
     simp only [go_sem]
     repeat refine zq ?_
     refine zd ?_
     refine awp_upto0 (n:=53) i (fun k vs=>[(0,.os 1000 0 1 0 l.length),(1,.r (i64 0)),(2,.r (i64 l.length)),(3,.r (.fn f caps)),(8,.r (i64 i)),(9,.r (i64 (i - k : Nat)))])
      (fun k=>[(1000,.arr 3 1 (idx (holeL R x k (l.drop (i + 1)))))]) (fun k=>∀ y ∈ R.take k,lt x y = true) 0 (fit0_of [] hv ?_ ?_) (Nat.zero_le _) (by simp) ?_
     · try simp only [go_sem]
     · try simp only [go_sem]
     · intro k vs hv hk hI
       have hv0:=hv 1000 (by omega)
       have hins:=insB_skip lt x R k hI
       have done : insB lt x (R.drop k) = x :: R.drop k → sortB lt (l.take (i + 1)) [] = R.take k ++ x :: R.drop k:=fun h=>by rw [hnx,hins,h]
       by_cases hk0 : k = i
       · have e0 : i - k = 0:=by omega
         repeat refine zq ?_
         refine awp_dreg2 [(0,some 1000)] follows (by decide +kernel) (by kernel_rfl) (by simp only [keysOk,List.mem_cons,List.not_mem_nil,forall_eq_or_imp,Oc.keyOf,go_sem]; simp) fun K hK=>?_
         simp only [go_sem,hv0,e0]
         (try simp (disch:=omega) only [zI])
         repeat first | intro _ | refine ⟨by omega,?_⟩ | refine ⟨⟨by omega,by omega⟩,?_⟩
         refine hK _ ?_
         clear hK K
         refine zw (zk [0,1,2,3,8,9,34]) ?_
         simp only [go_sem]
         repeat refine zq ?_
         refine zc rfl (fun hc=>?_) (fun hc=>?_) <;> (try simp only [go_sem] at hc)
         refine zf ?_
         simp only [go_sem]
         repeat refine zq ?_
         refine zb (by kernel_rfl) fun K hK=>?_
         simp only [go_sem]
         (try simp (disch:=omega) only [zI])
         repeat first | intro _ | refine ⟨by omega,?_⟩ | refine ⟨⟨by omega,by omega⟩,?_⟩
         refine hK _ ?_
         clear hK K
         try simp only [go_sem]
         refine ⟨by omega,fit0_of [] hv ?_ ?_⟩
         · try simp only [go_sem]
         · have hd0 : R.drop k = []:=List.drop_eq_nil_of_le (by omega)
           have:=done (by rw [hd0]; rfl)
           simp only [go_sem,this]
           simp [holeL]
       · obtain ⟨y,hy⟩:=opt_of_lt (l:=R) (i:=k) (by omega)
         obtain ⟨j,hj⟩ : ∃ j,i - k = j + 1:=⟨i - k - 1,by omega⟩
         have hjs : IntKind.i64.wrap ((j : Int) + 1 - 1) = j:=by rw [zI] <;> omega
         have hlen : (holeL R x k (l.drop (i + 1))).length = l.length:=by rw [hole_len _ _ _ _ (by omega),List.length_drop]; omega
         have hxa : (holeL R x k (l.drop (i + 1)))[j + 1]? = some x:=by rw [← hj,← hRl]; exact hole_at R x k _ (by omega)
         have hya : (holeL R x k (l.drop (i + 1)))[j]? = some y:=by
          have:=(hole_next (x:=x) (rest:=l.drop (i + 1)) hy).1
          rw [hRl,hj] at this
          exact this
         have hcall:=hcc x (mem_of_opt hx) y (hRm y (mem_of_opt hy))
         have hpos : (0 < (j : Int) + 1) = True:=by simp
         have hlxy:=hlt x y
         repeat refine zq ?_
         refine awp_dreg2 [(0,some 1000)] follows (by decide +kernel) (by kernel_rfl) (by simp only [keysOk,List.mem_cons,List.not_mem_nil,forall_eq_or_imp,Oc.keyOf,go_sem]; simp) fun K hK=>?_
         simp only [go_sem,hv0,hj,hjs,hxa,hya,hlen,hpos]
         (try simp (disch:=omega) only [zI])
         refine ⟨by omega,by omega,?_⟩
         refine zh (hcall) rfl (by simp only [go_sem,i64,ints,hv0]) (by simp only [go_sem,i64,ints,hv0]) (by first | exact .inl rfl | exact .inr rfl) ?_
         (try simp only [go_sem,hv0])
         (try simp (disch:=omega) only [zI])
         repeat first | intro _ | refine ⟨by omega,?_⟩ | refine ⟨⟨by omega,by omega⟩,?_⟩
         refine hK _ ?_
         clear hK K
         refine zw (zk [0,1,2,3,8,9,34]) ?_
         simp only [go_sem]
         cases hcx : decide (c x y < 0)
         · repeat refine zq ?_
           refine zc rfl (fun hc=>?_) (fun hc=>?_) <;> (try simp only [go_sem] at hc)
           refine zf ?_
           simp only [go_sem]
           repeat refine zq ?_
           refine zb (by kernel_rfl) fun K hK=>?_
           simp only [go_sem]
           (try simp (disch:=omega) only [zI])
           repeat first | intro _ | refine ⟨by omega,?_⟩ | refine ⟨⟨by omega,by omega⟩,?_⟩
           refine hK _ ?_
           clear hK K
           try simp only [go_sem]
           refine ⟨by omega,fit0_of [] hv ?_ ?_⟩
           · try simp only [go_sem]
           · have:=done (by rw [drop_of_opt hy]; simp [insB,hlxy,hcx])
             simp only [go_sem,this]
             simp [holeL]
         · repeat refine zq ?_
           refine zc rfl (fun hc=>?_) (fun hc=>?_) <;> (try simp only [go_sem] at hc)
           refine zx ?_
           try simp only [go_sem]
           repeat refine zq ?_
           refine zd ?_
           have hset : ((idx (holeL R x k (l.drop (i + 1)))).set (j + 1) [i64 (y : Int)]).getD j [] = [i64 (y : Int)]:=by
            rw [List.getD_eq_getElem?_getD,List.getElem?_set_ne (by omega),List.getElem?_map,hya]; rfl
           have hsw:=hole_swap (fun (x : Nat)=>[i64 (x : Int)]) (x:=x) (rest:=l.drop (i + 1)) hy
           rw [hRl,hj] at hsw
           simp only [Nat.add_sub_cancel] at hsw
           repeat refine zq ?_
           refine awp_dreg2 [(0,some 1000)] follows (by decide +kernel) (by kernel_rfl) (by simp only [keysOk,List.mem_cons,List.not_mem_nil,forall_eq_or_imp,Oc.keyOf,go_sem]; simp) fun K hK=>?_
           simp only [go_sem,hv0,hj,hjs,hxa,hya,hlen,hset,List.length_set]
           (try simp (disch:=omega) only [zI])
           repeat' first | intro _ | refine And.intro ?_ ?_
           all_goals first | omega | skip
           all_goals (refine hK _ ?_; clear hK K)
           refine zw (zk [0,1,2,3,8,9]) ?_
           simp only [go_sem]
           repeat refine zq ?_
           refine zb (by kernel_rfl) fun K hK=>?_
           simp only [go_sem,hjs]
           (try simp (disch:=omega) only [zI])
           repeat first | intro _ | refine ⟨by omega,?_⟩ | refine ⟨⟨by omega,by omega⟩,?_⟩
           refine hK _ ?_
           clear hK K
           try simp only [go_sem]
           have hj2 : i - (k + 1) = j:=by omega
           refine ⟨by omega,?_,fit0_of [] (lent_put (lent_put hv)) ?_ ?_⟩
           · rw [take_of_opt hy]
             intro z hz
             rcases List.mem_append.1 hz with hz | hz
             · exact hI z hz
             · simp only [List.mem_singleton] at hz
               subst hz
               rw [hlxy,hcx]
           · simp only [go_sem,hj2]
           · simp only [go_sem]
             exact congrArg (fun z=>[(1000,RowC.arr 3 1 z)]) hsw
   · refine zf ?_
     simp only [go_sem]
     have h1 : l.take i = l:=List.take_of_length_le (by omega)
     have h2 : l.drop i = []:=List.drop_eq_nil_of_le (by omega)
     rw [h1,h2,List.append_nil]
     rfl
end Go.Proofs.Ytgkejinoaommeaa

namespace Go.Proofs.Ytgkejinoaommeaa
open Go Go.Oc
set_option linter.unusedSimpArgs false
set_option linter.unusedVariables false
set_option maxRecDepth 8000
theorem stable_ok (lt : Nat → Nat → Bool) (c : Nat → Nat → Int) (f : Nat) (caps : List RV) (l : List Nat) (hl : l.length ≤ 19) (hlt : ∀ x y,lt x y = decide (c x y < 0))
 (hcc : ∀ x ∈ l,∀ y ∈ l,ACalls Try.prog f (i64 (x : Int) :: i64 (y : Int) :: caps) (i64 (c x y))) :
 MCalls Try.prog 95 [(1000,.arr 3 1 (idx l))] [(1000,.arr 3 1 (idx (sortN lt l)))] [.os 1000 0 1 0 l.length,.r (i64 l.length),.r (.fn f caps)] (.tu []):=by
 refine mcalls_st (n:=63) (rs:=[]) _ _ [] Try.func95 rfl (by kernel_rfl) Try.ntmps95 rfl (by simp) rfl rfl fun C=>?_
 repeat refine zq ?_
 refine zb (by kernel_rfl) fun K hK=>?_
 simp only [go_sem]
 (try simp (disch:=omega) only [zI])
 repeat first | intro _ | refine ⟨by omega,?_⟩ | refine ⟨⟨by omega,by omega⟩,?_⟩
 refine hK _ ?_
 clear hK K
 repeat refine zq ?_
 refine zb (by kernel_rfl) fun K hK=>?_
 simp only [go_sem]
 (try simp (disch:=omega) only [zI])
 repeat first | intro _ | refine ⟨by omega,?_⟩ | refine ⟨⟨by omega,by omega⟩,?_⟩
 refine hK _ ?_
 clear hK K
 refine zw (zk [0,1,2,6,7,8]) ?_
 simp only [go_sem]
 repeat refine zq ?_
 refine zd ?_
 refine awp_upto0 (n:=63) 0 (fun i vs=>[(0,.os 1000 0 1 0 l.length),(1,.r (i64 l.length)),(2,.r (.fn f caps)),(6,.r (i64 20)),(7,.r (i64 0)),(8,.r (i64 20))])
  (fun i=>[(1000,.arr 3 1 (idx l))]) (fun i=>True) 0 (fit0_of [] lent_zero ?_ ?_) (Nat.zero_le _) trivial ?_
 · try simp only [go_sem]
 · try simp only [go_sem]
 intro i vs hv _ _
 have hv0:=hv 1000 (by omega)
 repeat refine zq ?_
 refine zb (by kernel_rfl) fun K hK=>?_
 simp only [go_sem]
 (try simp (disch:=omega) only [zI])
 repeat first | intro _ | refine ⟨by omega,?_⟩ | refine ⟨⟨by omega,by omega⟩,?_⟩
 refine hK _ ?_
 clear hK K
 repeat refine zq ?_
 refine zc rfl (fun hc=>?_) (fun hc=>?_) <;> (try simp only [go_sem] at hc)
 · omega
 refine zf ?_
 simp only [go_sem]
 repeat refine zq ?_
 refine zb (by kernel_rfl) fun K hK=>?_
 simp only [go_sem]
 (try simp (disch:=omega) only [zI])
 refine xcall_mut (insertion_ok lt c f caps l (by omega) hlt hcc) [(1000,1000)] rfl (by simp only [go_sem,i64,ints,hv0]) (by simp only [go_sem,i64,ints,hv0]) (by rfl) (by rfl) ?_
 (try simp only [go_sem,hv0])
 (try simp (disch:=omega) only [zI])
 repeat first | intro _ | refine ⟨by omega,?_⟩ | refine ⟨⟨by omega,by omega⟩,?_⟩
 refine hK _ ?_
 clear hK K
 try simp only [go_sem]
 repeat refine zq ?_
 refine zd ?_
 refine awp_upto0 (n:=63) 0 (fun i vs=>[(1,.r (i64 l.length)),(6,.r (i64 20))])
  (fun i=>[(1000,.arr 3 1 (idx (sortN lt l)))]) (fun i=>True) 0 (fit0_of [] hv ?_ ?_) (Nat.zero_le _) trivial ?_
 · try simp only [go_sem]
 · try simp only [go_sem]
 intro i vs hv _ _
 repeat refine zq ?_
 refine zb (by kernel_rfl) fun K hK=>?_
 simp only [go_sem]
 (try simp (disch:=omega) only [zI])
 repeat first | intro _ | refine ⟨by omega,?_⟩ | refine ⟨⟨by omega,by omega⟩,?_⟩
 refine hK _ ?_
 clear hK K
 repeat refine zq ?_
 refine zc rfl (fun hc=>?_) (fun hc=>?_) <;> (try simp only [go_sem] at hc)
 · omega
 refine zf ?_
 simp only [go_sem]
theorem sortStable_ok (lt : Nat → Nat → Bool) (c : Nat → Nat → Int) (f : Nat) (caps : List RV) (l : List Nat) (hl : l.length ≤ 19) (hlt : ∀ x y,lt x y = decide (c x y < 0))
 (hcc : ∀ x ∈ l,∀ y ∈ l,ACalls Try.prog f (i64 (x : Int) :: i64 (y : Int) :: caps) (i64 (c x y))) :
 MCalls Try.prog 87 [(1000,.arr 3 1 (idx l))] [(1000,.arr 3 1 (idx (sortN lt l)))] [.os 1000 0 1 0 l.length,.r (.fn f caps)] (.tu []):=by
 refine mcalls_st (n:=9) (rs:=[]) _ _ [] Try.func87 rfl (by kernel_rfl) Try.ntmps87 rfl (by simp) rfl rfl fun C=>?_
 repeat refine zq ?_
 refine zb (by kernel_rfl) fun K hK=>?_
 simp only [go_sem]
 (try simp (disch:=omega) only [zI])
 intro _
 refine xcall_mut (stable_ok lt c f caps l (by omega) hlt hcc) [(1000,1000)] rfl (by simp only [go_sem,i64,ints]) (by simp only [go_sem,i64,ints]) (by rfl) (by rfl) ?_
 (try simp only [go_sem])
 (try simp (disch:=omega) only [zI])
 repeat first | intro _ | refine ⟨by omega,?_⟩ | refine ⟨⟨by omega,by omega⟩,?_⟩
 refine hK _ ?_
 clear hK K
 try simp only [go_sem]
theorem relV_unmap {w : World} {p : Plan} {ver : Nat → Nat} : ∀ {xs : List RV} {vs : List Value},AV.relV w p ver (xs.map .r) vs → RV.relV w p.R xs vs
 | [],_,h=>by simpa only [List.map_nil,AV.relV,RV.relV] using h
 | x :: xs, vs, h => by
   simp only [List.map_cons,AV.relV,AV.rel] at h
   simp only [RV.relV]
   obtain ⟨u,us,h1,h2,h3⟩:=h
   exact ⟨u,us,h1,h2,relV_unmap h3⟩
theorem mcalls_fn {F : Nat} {L L' : List (Nat × RowC)} {x r : AV} {f : Nat} {caps : List RV} (h : MCalls Try.prog F L L' [x,.r (.fn f caps)] r) : MCalls Try.prog F L L' [x,.fn f (caps.map .r)] r :=
 ⟨h.1,fun w p vs h1 h2 h3 h4 h5 h6 hV=>h.2 w p vs h1 h2 h3 h4 h5 h6 (by
  simp only [AV.relV] at hV ⊢
  obtain ⟨u,us,e1,k1,u',us',e2,k2,e3⟩:=hV
  refine ⟨u,us,e1,k1,u',us',e2,?_,e3⟩
  simp only [AV.rel,RV.rel] at k2 ⊢
  obtain ⟨ws,k3,k4⟩:=k2
  exact ⟨ws,k3,relV_unmap k4⟩)⟩
def moreS (l : List Bd) (o : List Int) (m : Int) (i : Nat) : Int:=min m ((l[i]?.map (·.hi)).getD 0 - (o[i]?).getD 0)
def fillS (l : List Bd) : List Nat → List Int × Int → List Int × Int
 | [],x=>x
 | i :: is,x=>fillS l is (x.1.set i ((x.1[i]?).getD 0 + moreS l x.1 x.2 i),x.2 - moreS l x.1 x.2 i)
theorem fillS_snoc (l : List Bd) : ∀ (is : List Nat) (i : Nat) (x : List Int × Int),fillS l (is ++ [i]) x = ((fillS l is x).1.set i (((fillS l is x).1[i]?).getD 0 + moreS l (fillS l is x).1 (fillS l is x).2 i),(fillS l is x).2 - moreS l (fillS l is x).1 (fillS l is x).2 i)
 | [],_,_=>rfl
 | j :: is,i,x=>by simp only [List.cons_append,fillS]; exact fillS_snoc l is i _
def FillOk (l : List Bd) (x : List Int × Int) : Prop:=x.1.length = l.length ∧ (0 ≤ x.2 ∧ x.2 ≤ 6000) ∧ ∀ (i : Nat) (b : Bd) (o : Int),l[i]? = some b → x.1[i]? = some o → b.lo ≤ o ∧ o ≤ b.hi
theorem fillOk_step {l : List Bd} {x : List Int × Int} (h : FillOk l x) {i : Nat} {b : Bd} {o : Int} (hb : l[i]? = some b) (ho : x.1[i]? = some o) :
 moreS l x.1 x.2 i = min x.2 (b.hi - o) ∧ 0 ≤ moreS l x.1 x.2 i ∧ FillOk l (x.1.set i ((x.1[i]?).getD 0 + moreS l x.1 x.2 i),x.2 - moreS l x.1 x.2 i):=by
 obtain ⟨h1,h2,h3⟩:=h
 obtain ⟨h4,h5⟩:=h3 i b o hb ho
 have hm : moreS l x.1 x.2 i = min x.2 (b.hi - o):=by simp [moreS,hb,ho]
 refine ⟨hm,by omega,by simp [h1],by simp only; omega,fun k b' o' hb' ho'=>?_⟩
 simp only [ho,Option.getD_some] at ho'
 by_cases e : i = k
 · subst e
   rw [List.getElem?_set_self (by have:=(List.getElem?_eq_some_iff.1 ho).1; exact this)] at ho'
   injection ho' with ho'
   rw [hb] at hb'
   injection hb' with hb'
   subst hb'
   omega
 · rw [List.getElem?_set_ne e] at ho'
   exact h3 k b' o' hb' ho'
theorem fillOk_all {l : List Bd} : ∀ (is : List Nat) (x : List Int × Int),(∀ i ∈ is,i < l.length) → FillOk l x → FillOk l (fillS l is x)
 | [],_,_,h=>h
 | i :: is, x, hi, h => by
   obtain ⟨b,hb⟩:=opt_of_lt (hi i (by simp))
   obtain ⟨o,ho⟩:=opt_of_lt (l:=x.1) (i:=i) (by have:=hi i (by simp); have:=h.1; omega)
   exact fillOk_all is _ (fun j hj=>hi j (by simp [hj])) (fillOk_step h hb ho).2.2
def startF (d : Int) (l : List Bd) : List Int × Int:=(l.map (·.lo),d - loS l)
def keyLt (cm : Int → Int → Int) (vals : List Int) (i k : Nat) : Bool:=decide (cm ((vals[i]?).getD 0) ((vals[k]?).getD 0) < 0)
def filledV (cm : Int → Int → Int) (d : Int) (l : List Bd) (vals : List Int) : List Int:=(fillS l (sortN (keyLt cm vals) (List.range l.length)) (startF d l)).1
theorem startF_ok {d : Int} {l : List Bd} (hc : chOk d l = true) (hd : d ≤ 3000) (h1 : loS l ≤ d) (h0 : 0 ≤ loS l) : FillOk l (startF d l):=by
 refine ⟨by simp [startF],by simp only [startF]; omega,fun i b o hb ho=>?_⟩
 simp only [startF,List.getElem?_map,hb,Option.map_some,Option.some.injEq] at ho
 have:=List.all_eq_true.1 hc b (mem_of_opt hb)
 simp only [Bool.and_eq_true,decide_eq_true_eq] at this
 omega
theorem mem_sortN {lt : Nat → Nat → Bool} {l : List Nat} {z : Nat} : z ∈ sortN lt l ↔ z ∈ l:=by
 unfold sortN
 rw [List.mem_reverse,mem_sortB]
 simp
theorem sortN_len (lt : Nat → Nat → Bool) (l : List Nat) : (sortN lt l).length = l.length:=by
 unfold sortN
 rw [List.length_reverse,sortB_len]
 simp
theorem rep_at {g : List (List RV)} {z : List RV} {n i : Nat} (hg : g.length = i) (hi : i < n) : (g ++ List.replicate (n - i) z).getD i [] = z:=by
 rw [List.getD_eq_getElem?_getD,List.getElem?_append_right (by omega),hg,Nat.sub_self,List.getElem?_replicate,if_pos (by omega)]
 rfl
theorem rep_len {g : List (List RV)} {z : List RV} {n i : Nat} (hg : g.length = i) (hi : i < n) : (g ++ List.replicate (n - i) z).length = n:=by simp; omega
theorem rep_set {g : List (List RV)} {z v : List RV} {n i : Nat} (hg : g.length = i) (hi : i < n) : (g ++ List.replicate (n - i) z).set i v = (g ++ [v]) ++ List.replicate (n - (i + 1)) z:=by
 rw [List.set_append_right _ _ (by omega),hg,Nat.sub_self]
 have : n - i = (n - (i + 1)) + 1:=by omega
 rw [this,List.replicate_succ,List.set_cons_zero]
 simp
theorem filled_ok (a : Int) (l : List Bd) (d : Int) (vals : List Int) (f : Nat) (cm : Int → Int → Int) (hf : ∀ x y,ACalls Try.prog f [i64 x,i64 y] (i64 (cm x y))) (hv : vals.length = l.length) (hl : l.length ≤ 19) (hch : chOk d l = true) (hd : d ≤ 3000) (h1 : loS l ≤ d) :
 ACalls Try.prog 65 [.ag [i64 a,bedsR l,i64 d],ints vals,.fn f []] (ints (filledV cm d l vals)):=by
 have hs:=chOk_small hch (by omega)
 have hsm:=sums_le hs
 refine acalls_st (rs:=[ints (filledV cm d l vals)]) [.tmp 6] Try.func65 rfl (by kernel_rfl) Try.ntmps65 rfl (by simp) rfl fun C vs=>?_
 repeat refine zq ?_
 refine zb (by kernel_rfl) fun K hK=>?_
 simp only [go_sem]
 (try simp (disch:=omega) only [zI])
 repeat first | intro _ | refine ⟨by omega,?_⟩ | refine ⟨⟨by omega,by omega⟩,?_⟩
 refine hK _ ?_
 clear hK K
 refine zw (sub_frzP 3 3 [i64 a,bedsR l,i64 d] (by omega) rfl rfl) ?_
 refine zw (sub_frzP 4 4 [ints vals] (by omega) rfl rfl) ?_
 refine zw (sub_frzP 5 5 [.fn f []] (by omega) rfl rfl) ?_
 refine zw (zk [3,4,5]) ?_
 simp only [go_sem]
 repeat refine zq ?_
 refine awp_dreg2 [(3,none)] follows (by decide +kernel) (by kernel_rfl) (by simp only [keysOk,List.mem_cons,List.not_mem_nil,forall_eq_or_imp,Oc.keyOf,go_sem]; simp) fun K hK=>?_
 simp only [go_sem]
 (try simp (disch:=omega) only [zI])
 intro _
 refine ⟨⟨by omega,by omega⟩,fun _=>⟨⟨by omega,by omega⟩,?_⟩⟩
 repeat first | intro _ | refine ⟨by omega,?_⟩ | refine ⟨⟨by omega,by omega⟩,?_⟩
 refine hK _ ?_
 clear hK K
 refine zw (zk [3,4,5,7,8,9]) ?_
 simp only [go_sem]
 repeat refine zq ?_
 refine zb (by kernel_rfl) fun K hK=>?_
 simp only [go_sem]
 (try simp (disch:=omega) only [zI])
 intro _
 repeat first | intro _ | refine ⟨by omega,?_⟩ | refine ⟨⟨by omega,by omega⟩,?_⟩
 refine hK _ ?_
 clear hK K
 refine zw (zk [3,4,5,7,8,9,29,30,31]) ?_
 simp only [go_sem]
 repeat refine zq ?_
 refine zd ?_
 refine awp_upto (n:=90) l.length (fun i vs=>[(3,.r (.rp [i64 a,bedsR l,i64 d])),(4,.r (.rp [ints vals])),(5,.r (.rp [.fn f []])),(7,.os 19 (vs 19) 1 0 l.length),(8,.os 24 (vs 24) 1 0 l.length),(9,.r (i64 (d - loS (l.take i)))),(29,.r (bedsR l)),(30,.r (i64 l.length)),(31,.r (i64 i))])
  (fun i=>[(19,.arr 3 1 (idx (List.range i) ++ List.replicate (l.length - i) [i64 0])),(24,.arr 3 1 (((l.take i).map fun x=>[i64 x.lo]) ++ List.replicate (l.length - i) [i64 0]))]) (fun _=>True) 0 (fit_of [3,4,5] ?_ ?_) (Nat.zero_le _) trivial ?_
 · try simp only [go_sem]
   simp [loS]
 · try simp only [go_sem]
   simp
 · intro i vs hi _
   repeat refine zq ?_
   refine zb (by kernel_rfl) fun K hK=>?_
   simp only [go_sem]
   (try simp (disch:=omega) only [zI])
   repeat first | intro _ | refine ⟨by omega,?_⟩ | refine ⟨⟨by omega,by omega⟩,?_⟩
   refine hK _ ?_
   clear hK K
   repeat refine zq ?_
   refine zc rfl (fun hc=>?_) (fun hc=>?_) <;> (try simp only [go_sem] at hc)
   · have hci:=hc
     obtain ⟨x,hx⟩:=opt_of_lt hci
     obtain ⟨⟨x1,x2⟩,x3,x4⟩:=hs x (mem_of_opt hx)
     have hsub:=sums_le (hs.take (i + 1))
     have hsub0:=sums_le (hs.take i)
     have htl : ((l.take (i + 1)).length : Int) ≤ 20:=by rw [List.length_take]; omega
     have htl0 : ((l.take i).length : Int) ≤ 20:=by rw [List.length_take]; omega
     have hlo : loS (l.take (i + 1)) = loS (l.take i) + x.lo:=by rw [take_of_opt hx,loS_snoc]
     rw [hlo] at hsub
     refine zx ?_
     repeat refine zq ?_
     refine zd ?_
     repeat refine zq ?_
     refine zb (by kernel_rfl) fun K hK=>?_
     simp only [go_sem,hx,hci,bedR]
     (try simp (disch:=omega) only [zI])
     repeat first | intro _ | refine ⟨by omega,?_⟩ | refine ⟨⟨by omega,by omega⟩,?_⟩
     refine hK _ ?_
     clear hK K
     refine zw (zk [3,4,5,7,8,9,10,11,29,30,31]) ?_
     simp only [go_sem]
     have g1 : (idx (List.range i)).length = i:=by simp
     have g2 : ((l.take i).map fun x=>[i64 x.lo]).length = i:=by simp; omega
     have r1:=rep_at (z:=[i64 0]) g1 hci
     have r2:=rep_at (z:=[i64 0]) g2 hci
     have r3:=rep_len (z:=[i64 0]) g1 hci
     have r4:=rep_len (z:=[i64 0]) g2 hci
     have r5:=fun v=>rep_set (z:=[i64 0]) (v:=v) g1 hci
     have r6:=fun v=>rep_set (z:=[i64 0]) (v:=v) g2 hci
     repeat refine zq ?_
     refine awp_dreg2 [(7,some 19),(8,some 24),(10,none),(11,some 11)] follows (by decide +kernel) (by kernel_rfl) (by simp only [keysOk,List.mem_cons,List.not_mem_nil,forall_eq_or_imp,Oc.keyOf,go_sem]; simp) fun K hK=>?_
     simp only [go_sem,hci,r1,r2,r3,r4,r5,r6]
     (try simp (disch:=omega) only [zI])
     repeat first | intro _ | refine ⟨by omega,?_⟩ | refine ⟨⟨by omega,by omega⟩,?_⟩
     refine hK _ ?_
     clear hK K
     refine zw (zk [3,4,5,7,8,9,10,11,29,30,31]) ?_
     simp only [go_sem]
     repeat refine zq ?_
     refine zb (by kernel_rfl) fun K hK=>?_
     simp only [go_sem]
     (try simp (disch:=omega) only [zI])
     repeat first | intro _ | refine ⟨by omega,?_⟩ | refine ⟨⟨by omega,by omega⟩,?_⟩
     refine hK _ ?_
     clear hK K
     refine zw (zk [3,4,5,7,8,9,29,30,31]) ?_
     simp only [go_sem]
     repeat refine zq ?_
     refine zb (by kernel_rfl) fun K hK=>?_
     simp only [go_sem]
     (try simp (disch:=omega) only [zI])
     repeat first | intro _ | refine ⟨by omega,?_⟩ | refine ⟨⟨by omega,by omega⟩,?_⟩
     refine hK _ ?_
     clear hK K
     try simp only [go_sem]
     refine ⟨hci,fit_of [11] ?_ ?_⟩
     · simp only [go_sem,hlo]
       omega
     · try simp only [go_sem]
       have hr : List.range (i + 1) = List.range i ++ [i]:=List.range_succ
       simp only [take_of_opt hx,hr,List.map_append,List.map_cons,List.map_nil]
   · refine zf ?_
     simp only [go_sem]
     have hii : i = l.length:=by omega
     subst hii
     have e1 : idx (List.range l.length) ++ List.replicate (l.length - l.length) [i64 0] = idx (List.range l.length):=by simp
     have e2 : ((l.take l.length).map fun x=>[i64 x.lo]) ++ List.replicate (l.length - l.length) [i64 0] = (l.map (·.lo)).map fun x=>[i64 x]:=by simp
     have e3 : l.take l.length = l:=List.take_length
     rw [e1,e2,e3]
     have hmem : ∀ i ∈ List.range l.length,i < vals.length:=fun i hi=>by rw [hv]; exact List.mem_range.1 hi
     have hsort:=sortStable_ok (keyLt cm vals) (fun i k=>cm ((vals[i]?).getD 0) ((vals[k]?).getD 0)) 88 [.rp [.fn f []],.rp [ints vals]] (List.range l.length) (by simpa using hl) (fun _ _=>rfl) (fun i hi k hk=>by
      obtain ⟨x,hx⟩:=opt_of_lt (hmem i hi)
      obtain ⟨y,hy⟩:=opt_of_lt (hmem k hk)
      have:=filled1_ok i k vals f cm hf hx hy
      simpa [hx,hy] using this)
     rw [List.length_range] at hsort
     repeat refine zq ?_
     refine zb (by kernel_rfl) fun K hK=>?_
     simp only [go_sem]
     (try simp (disch:=omega) only [zI])
     refine xcall_mut (mcalls_fn hsort) [(1000,19)] rfl (by simp only [go_sem,i64,ints]) (by simp only [go_sem,i64,ints]) (by rfl) (by rfl) ?_
     (try simp only [go_sem])
     (try simp (disch:=omega) only [zI])
     repeat first | intro _ | refine ⟨by omega,?_⟩ | refine ⟨⟨by omega,by omega⟩,?_⟩
     refine hK _ ?_
     clear hK K
     refine zw (zk [3,4,5,7,8,9]) ?_
     simp only [go_sem]
     obtain ⟨S,hS⟩ : ∃ S,S = sortN (keyLt cm vals) (List.range l.length):=⟨_,rfl⟩
     have hSl : S.length = l.length:=by rw [hS,sortN_len,List.length_range]
     have hSm : ∀ i ∈ S,i < l.length:=fun i hi=>by rw [hS,mem_sortN,List.mem_range] at hi; exact hi
     rw [← hS]
     repeat refine zq ?_
     refine zb (by kernel_rfl) fun K hK=>?_
     simp only [go_sem]
     (try simp (disch:=omega) only [zI])
     intro _
     repeat first | intro _ | refine ⟨by omega,?_⟩ | refine ⟨⟨by omega,by omega⟩,?_⟩
     refine hK _ ?_
     clear hK K
     refine zw (zk [3,4,5,7,8,9,55,56,57]) ?_
     simp only [go_sem]
     repeat refine zq ?_
     refine zd ?_
     have hst:=startF_ok hch hd h1 hsm.1.1
     refine awp_upto (n:=90) l.length (fun i vs=>[(3,.r (.rp [i64 a,bedsR l,i64 d])),(8,.os 24 (vs 24) 1 0 l.length),(9,.r (i64 (fillS l (S.take i) (startF d l)).2)),(55,.os 19 (vs 19) 1 0 l.length),(56,.r (i64 l.length)),(57,.r (i64 i))])
      (fun i=>[(19,.arr 3 1 (idx S)),(24,.arr 3 1 ((fillS l (S.take i) (startF d l)).1.map fun x=>[i64 x]))]) (fun _=>True) 0 (fit_of [] ?_ ?_) (Nat.zero_le _) trivial ?_
     · try simp only [go_sem]
       simp [fillS,startF]
     · try simp only [go_sem]
       simp [fillS,startF]
     · intro q vs hq _
       repeat refine zq ?_
       refine zb (by kernel_rfl) fun K hK=>?_
       simp only [go_sem]
       (try simp (disch:=omega) only [zI])
       repeat first | intro _ | refine ⟨by omega,?_⟩ | refine ⟨⟨by omega,by omega⟩,?_⟩
       refine hK _ ?_
       clear hK K
       repeat refine zq ?_
       refine zc rfl (fun hc=>?_) (fun hc=>?_) <;> (try simp only [go_sem] at hc)
       · have hci:=hc
         obtain ⟨i,hi⟩:=opt_of_lt (l:=S) (i:=q) (by omega)
         have hil:=hSm i (mem_of_opt hi)
         obtain ⟨x,hx⟩:=opt_of_lt hil
         obtain ⟨F,hF⟩ : ∃ F,F = fillS l (S.take q) (startF d l):=⟨_,rfl⟩
         have hFo : FillOk l F:=hF ▸ fillOk_all _ _ (fun j hj=>hSm j (List.mem_of_mem_take hj)) hst
         obtain ⟨o,ho⟩:=opt_of_lt (l:=F.1) (i:=i) (by have:=hFo.1; omega)
         obtain ⟨s1,s2,s3⟩:=fillOk_step hFo hx ho
         have hnx : fillS l (S.take (q + 1)) (startF d l) = (F.1.set i (o + moreS l F.1 F.2 i),F.2 - moreS l F.1 F.2 i):=by
          rw [take_of_opt hi,fillS_snoc,← hF]
          simp [ho]
         obtain ⟨⟨x1,x2⟩,x3,x4⟩:=hs x (mem_of_opt hx)
         obtain ⟨f1,f2,f3⟩:=hFo
         have f4:=f3 i x o hx ho
         rw [← hF]
         refine zx ?_
         repeat refine zq ?_
         refine zd ?_
         repeat refine zq ?_
         refine zb (by kernel_rfl) fun K hK=>?_
         simp only [go_sem,hi,hci]
         (try simp (disch:=omega) only [zI])
         repeat first | intro _ | refine ⟨by omega,?_⟩ | refine ⟨⟨by omega,by omega⟩,?_⟩
         refine hK _ ?_
         clear hK K
         refine zw (zk [3,8,9,13,55,56,57]) ?_
         simp only [go_sem]
         repeat refine zq ?_
         refine awp_dreg2 [(3,none),(8,some 24),(9,none),(13,none)] follows (by decide +kernel) (by kernel_rfl) (by simp only [keysOk,List.mem_cons,List.not_mem_nil,forall_eq_or_imp,Oc.keyOf,go_sem]; simp) fun K hK=>?_
         simp only [go_sem,hx,ho,hil,bedR,f1]
         (try simp (disch:=omega) only [zI])
         repeat first | intro _ | refine ⟨by omega,?_⟩ | refine ⟨⟨by omega,by omega⟩,?_⟩
         refine hK _ ?_
         clear hK K
         refine zw (zk [3,8,9,13,14,55,56,57]) ?_
         simp only [go_sem]
         repeat refine zq ?_
         refine zb (by kernel_rfl) fun K hK=>?_
         simp only [go_sem,ho,hil,f1]
         (try simp (disch:=omega) only [zI])
         have hwr : IntKind.i64.wrap (o + min F.2 (x.hi - o)) = o + min F.2 (x.hi - o):=by rw [zI] <;> omega
         repeat first | intro _ | refine ⟨by omega,?_⟩ | refine ⟨⟨by omega,by omega⟩,?_⟩
         refine hK _ ?_
         clear hK K
         refine zw (zk [3,8,9,55,56,57]) ?_
         simp only [go_sem]
         repeat refine zq ?_
         refine zb (by kernel_rfl) fun K hK=>?_
         simp only [go_sem]
         (try simp (disch:=omega) only [zI])
         repeat first | intro _ | refine ⟨by omega,?_⟩ | refine ⟨⟨by omega,by omega⟩,?_⟩
         refine hK _ ?_
         clear hK K
         try simp only [go_sem]
         refine ⟨hci,fit_of [] ?_ ?_⟩
         · simp only [go_sem,hnx,s1]
         · simp only [go_sem,hnx,s1]
           rw [List.map_set]
       · refine zf ?_
         simp only [go_sem]
         repeat refine zq ?_
         refine zb (by kernel_rfl) fun K hK=>?_
         simp only [go_sem]
         (try simp (disch:=omega) only [zI])
         repeat first | intro _ | refine ⟨by omega,?_⟩ | refine ⟨⟨by omega,by omega⟩,?_⟩
         refine hK _ ?_
         clear hK K
         refine ze ?_
         simp only [go_sem]
         have e4 : S.take q = S:=List.take_of_length_le (by omega)
         rw [e4]
         have hfin:=fillOk_all S (startF d l) hSm hst
         refine ⟨by have:=hfin.1; omega,?_⟩
         rw [List.take_of_length_le (by simp; have:=hfin.1; omega),filledV,← hS]
end Go.Proofs.Ytgkejinoaommeaa

namespace Go.Proofs.Ytgkejinoaommeaa
open Go Go.Oc
set_option linter.unusedSimpArgs false
set_option linter.unusedVariables false
set_option maxRecDepth 8000
def dotV : List Int → List Int → Int
 | x :: xs,y :: ys=>x * y + dotV xs ys
 | _,_=>0
theorem dotV_snoc : ∀ {xs ys : List Int} {x y : Int},xs.length = ys.length → dotV (xs ++ [x]) (ys ++ [y]) = dotV xs ys + x * y
 | [],[],x,y,_=>by simp [dotV]
 | _ :: xs,_ :: ys,x,y,h=>by simp only [List.cons_append,dotV]; rw [dotV_snoc (by simpa using h)]; omega
 | [],_ :: _,_,_,h=>by simp at h
 | _ :: _,[],_,_,h=>by simp at h
def Vals (l : List Int) : Prop:=∀ x ∈ l,-1000000000000 ≤ x ∧ x ≤ 1000000000000
theorem mul_bound {x y : Int} (h0 : 0 ≤ x) (h1 : x ≤ 6000) (h2 : -1000000000000 ≤ y) (h3 : y ≤ 1000000000000) : -6000000000000000 ≤ x * y ∧ x * y ≤ 6000000000000000:=by
 constructor
 · have h4 : x * -1000000000000 ≤ x * y:=Int.mul_le_mul_of_nonneg_left h2 h0
   omega
 · have h4 : x * y ≤ x * 1000000000000:=Int.mul_le_mul_of_nonneg_left h3 h0
   omega
theorem dotV_bound : ∀ {xs ys : List Int},(∀ x ∈ xs,0 ≤ x ∧ x ≤ 6000) → Vals ys → -6000000000000000 * (xs.length : Int) ≤ dotV xs ys ∧ dotV xs ys ≤ 6000000000000000 * xs.length
 | [],_,_,_=>by simp [dotV]
 | _ :: _,[],_,_=>by simp only [dotV,List.length_cons]; omega
 | x :: xs, y :: ys, h, hv => by
   have h1:=dotV_bound (xs:=xs) (ys:=ys) (fun z hz=>h z (by simp [hz])) fun z hz=>hv z (by simp [hz])
   have h2:=h x (by simp)
   have h3:=hv y (by simp)
   have h4:=mul_bound h2.1 h2.2 h3.1 h3.2
   simp only [dotV,List.length_cons]
   omega
theorem filled_facts {cm : Int → Int → Int} {d : Int} {l : List Bd} {vals : List Int} (hch : chOk d l = true) (hd : d ≤ 3000) (h1 : loS l ≤ d) : (filledV cm d l vals).length = l.length ∧ ∀ x ∈ filledV cm d l vals,0 ≤ x ∧ x ≤ 3000:=by
 have hs:=chOk_small hch (by omega)
 have hsm:=sums_le hs
 have hst:=startF_ok hch hd h1 hsm.1.1
 have hfin:=fillOk_all (sortN (keyLt cm vals) (List.range l.length)) (startF d l) (fun i hi=>by rw [mem_sortN,List.mem_range] at hi; exact hi) hst
 refine ⟨hfin.1,fun x hx=>?_⟩
 obtain ⟨i,hi⟩:=List.getElem?_of_mem hx
 obtain ⟨b,hb⟩:=opt_of_lt (l:=l) (i:=i) (by have:=(List.getElem?_eq_some_iff.1 hi).1; have:=hfin.1; unfold filledV at *; omega)
 have h2:=hfin.2.2 i b x hb hi
 have:=List.all_eq_true.1 hch b (mem_of_opt hb)
 simp only [Bool.and_eq_true,decide_eq_true_eq] at this
 omega
theorem mean1_ok (a : Int) (l : List Bd) (d : Int) (vals : List Int) (f : Nat) (cm : Int → Int → Int) (hf : ∀ x y,ACalls Try.prog f [i64 x,i64 y] (i64 (cm x y))) (hv : vals.length = l.length) (hl : l.length ≤ 19) (hch : chOk d l = true) (hd : d ≤ 3000) (h1 : loS l ≤ d) (hvs : Vals vals) :
 ACalls Try.prog 80 [.fn f [],.rp [i64 a,bedsR l,i64 d],.rp [ints vals]] (i64 (dotV (filledV cm d l vals) vals)):=by
 obtain ⟨q1,q2⟩:=filled_facts (cm:=cm) (vals:=vals) hch hd h1
 obtain ⟨F,hF⟩ : ∃ F,F = filledV cm d l vals:=⟨_,rfl⟩
 have hfl:=filled_ok a l d vals f cm hf hv hl hch hd h1
 rw [← hF] at q1 q2 hfl ⊢
 refine acalls_st (rs:=[i64 (dotV F vals)]) [.tmp 4] Try.func80 rfl (by kernel_rfl) Try.ntmps80 rfl (by simp) rfl fun C vs=>?_
 repeat refine zq ?_
 refine zb (by kernel_rfl) fun K hK=>?_
 simp only [go_sem]
 (try simp (disch:=omega) only [zI])
 repeat first | intro _ | refine ⟨by omega,?_⟩ | refine ⟨⟨by omega,by omega⟩,?_⟩
 refine hK _ ?_
 clear hK K
 repeat refine zq ?_
 refine zb (by kernel_rfl) fun K hK=>?_
 simp only [go_sem]
 (try simp (disch:=omega) only [zI])
 refine zh (hfl) rfl (by simp only [go_sem,i64,ints]) (by simp only [go_sem,i64,ints]) (by first | exact .inl rfl | exact .inr rfl) ?_
 (try simp only [go_sem])
 (try simp (disch:=omega) only [zI])
 intro _
 repeat first | intro _ | refine ⟨by omega,?_⟩ | refine ⟨⟨by omega,by omega⟩,?_⟩
 refine hK _ ?_
 clear hK K
 refine zw (zk [2,4,10,11,12]) ?_
 simp only [go_sem]
 repeat refine zq ?_
 refine zd ?_
 refine awp_upto (n:=27) F.length (fun i vs=>[(2,.r (.rp [ints vals])),(4,.r (i64 (dotV (F.take i) (vals.take i)))),(10,.r (ints F)),(11,.r (i64 F.length)),(12,.r (i64 i))]) (fun _=>[]) (fun _=>True) 0 (fit_of [] ?_ ?_) (Nat.zero_le _) trivial ?_
 · try simp only [go_sem]
   simp [dotV]
 · try simp only [go_sem]
 · intro i vs hi _
   repeat refine zq ?_
   refine zb (by kernel_rfl) fun K hK=>?_
   simp only [go_sem]
   (try simp (disch:=omega) only [zI])
   repeat first | intro _ | refine ⟨by omega,?_⟩ | refine ⟨⟨by omega,by omega⟩,?_⟩
   refine hK _ ?_
   clear hK K
   repeat refine zq ?_
   refine zc rfl (fun hc=>?_) (fun hc=>?_) <;> (try simp only [go_sem] at hc)
   · have hci:=hc
     have hcv : i < vals.length:=by omega
     obtain ⟨x,hx⟩:=opt_of_lt hci
     obtain ⟨y,hy⟩:=opt_of_lt hcv
     have b1:=q2 x (mem_of_opt hx)
     have b2:=hvs y (mem_of_opt hy)
     have b3:=mul_bound b1.1 (by omega) b2.1 b2.2
     have b4:=dotV_bound (xs:=F.take i) (ys:=vals.take i) (fun z hz=>by have:=q2 z (List.mem_of_mem_take hz); omega) (fun z hz=>hvs z (List.mem_of_mem_take hz))
     have b5 : ((F.take i).length : Int) ≤ 19:=by rw [List.length_take]; omega
     have hsn : dotV (F.take (i + 1)) (vals.take (i + 1)) = dotV (F.take i) (vals.take i) + x * y:=by
      rw [take_of_opt hx,take_of_opt hy,dotV_snoc (by simp; omega)]
     have hw1 : IntKind.i64.wrap (x * y) = x * y:=by rw [zI] <;> omega
     refine zx ?_
     repeat refine zq ?_
     refine zd ?_
     repeat refine zq ?_
     refine zb (by kernel_rfl) fun K hK=>?_
     simp only [go_sem,hx,hci]
     (try simp (disch:=omega) only [zI])
     repeat first | intro _ | refine ⟨by omega,?_⟩ | refine ⟨⟨by omega,by omega⟩,?_⟩
     refine hK _ ?_
     clear hK K
     repeat refine zq ?_
     refine zb (by kernel_rfl) fun K hK=>?_
     simp only [go_sem,hy,hcv,hw1]
     (try simp (disch:=omega) only [zI])
     repeat first | intro _ | refine ⟨by omega,?_⟩ | refine ⟨⟨by omega,by omega⟩,?_⟩
     refine hK _ ?_
     clear hK K
     refine zw (zk [2,4,10,11,12]) ?_
     simp only [go_sem]
     repeat refine zq ?_
     refine zb (by kernel_rfl) fun K hK=>?_
     simp only [go_sem]
     (try simp (disch:=omega) only [zI])
     repeat first | intro _ | refine ⟨by omega,?_⟩ | refine ⟨⟨by omega,by omega⟩,?_⟩
     refine hK _ ?_
     clear hK K
     try simp only [go_sem]
     refine ⟨hci,fit_of [] ?_ ?_⟩
     · simp only [go_sem,hsn]
     · try simp only [go_sem]
   · refine zf ?_
     simp only [go_sem]
     repeat refine zq ?_
     refine zb (by kernel_rfl) fun K hK=>?_
     simp only [go_sem]
     (try simp (disch:=omega) only [zI])
     repeat first | intro _ | refine ⟨by omega,?_⟩ | refine ⟨⟨by omega,by omega⟩,?_⟩
     refine hK _ ?_
     clear hK K
     refine ze ?_
     simp only [go_sem]
     rw [List.take_of_length_le (by omega),List.take_of_length_le (by omega)]
def meanLo (d : Int) (l : List Bd) (vals : List Int) : Int:=dotV (filledV cmpI d l vals) vals
def meanHi (d : Int) (l : List Bd) (vals : List Int) : Int:=dotV (filledV (fun x y=>cmpI y x) d l vals) vals
theorem mean_ok (a : Int) (l : List Bd) (d : Int) (vals : List Int) (hv : vals.length = l.length) (hl : l.length ≤ 19) (hch : chOk d l = true) (hd : d ≤ 3000) (h1 : loS l ≤ d) (hvs : Vals vals) :
 ACalls Try.prog 57 [.ag [i64 a,bedsR l,i64 d],ints vals] (.ag [i64 (meanLo d l vals),i64 (meanHi d l vals)]):=by
 refine acalls_st (rs:=[.ag [i64 (meanLo d l vals),i64 (meanHi d l vals)]]) [.cell 4 46] Try.func57 rfl (by kernel_rfl) Try.ntmps57 rfl (by simp) rfl fun C vs=>?_
 repeat refine zq ?_
 refine zb (by kernel_rfl) fun K hK=>?_
 simp only [go_sem]
 (try simp (disch:=omega) only [zI])
 repeat first | intro _ | refine ⟨by omega,?_⟩ | refine ⟨⟨by omega,by omega⟩,?_⟩
 refine hK _ ?_
 clear hK K
 repeat refine zq ?_
 refine zb (by kernel_rfl) fun K hK=>?_
 simp only [go_sem]
 (try simp (disch:=omega) only [zI])
 repeat first | intro _ | refine ⟨by omega,?_⟩ | refine ⟨⟨by omega,by omega⟩,?_⟩
 refine hK _ ?_
 clear hK K
 repeat refine zq ?_
 refine zb (by kernel_rfl) fun K hK=>?_
 simp only [go_sem]
 (try simp (disch:=omega) only [zI])
 refine zh (mean1_ok a l d vals 67 cmpI rising_ok hv hl hch hd h1 hvs) rfl (by simp only [go_sem,i64,ints]) (by simp only [go_sem,i64,ints]) (by first | exact .inl rfl | exact .inr rfl) ?_
 (try simp only [go_sem])
 (try simp (disch:=omega) only [zI])
 refine zh (mean1_ok a l d vals 66 (fun x y=>cmpI y x) falling_ok hv hl hch hd h1 hvs) rfl (by simp only [go_sem,i64,ints]) (by simp only [go_sem,i64,ints]) (by first | exact .inl rfl | exact .inr rfl) ?_
 (try simp only [go_sem])
 (try simp (disch:=omega) only [zI])
 repeat first | intro _ | refine ⟨by omega,?_⟩ | refine ⟨⟨by omega,by omega⟩,?_⟩
 refine hK _ ?_
 clear hK K
 refine ze ?_
 simp only [go_sem]
 simp [meanLo,meanHi]
end Go.Proofs.Ytgkejinoaommeaa

namespace Go.Proofs.Ytgkejinoaommeaa
open Go Go.Oc
set_option linter.unusedSimpArgs false
set_option linter.unusedVariables false
set_option maxRecDepth 8000
abbrev Pv:=Int × Int
def fillP : List Pv → Int × Int → Int × Int
 | [],x=>x
 | c :: cs,x=>fillP cs (x.1 - min x.1 c.1,x.2 + min x.1 c.1 * c.2)
def dotP : List Pv → List Int → Int
 | c :: S,y :: ys=>y * c.2 + dotP S ys
 | _,_=>0
inductive FeasP : List Pv → List Int → Prop where
 | nil : FeasP [] []
 | cons {c : Pv} {S : List Pv} {y : Int} {ys : List Int} (h : 0 ≤ y ∧ y ≤ c.1) (t : FeasP S ys) : FeasP (c :: S) (y :: ys)
theorem feas_sum {S : List Pv} {ys : List Int} (h : FeasP S ys) : 0 ≤ ys.sum:=by
 induction h with
 | nil=>simp
 | cons h t ih=>simp only [List.sum_cons]; omega
theorem feas_less {v : Int} {S : List Pv} {ys : List Int} (h : FeasP S ys) : ∀ δ : Int,0 ≤ δ → δ ≤ ys.sum → (∀ c ∈ S,v ≤ c.2) → ∃ zs,FeasP S zs ∧ zs.sum = ys.sum - δ ∧ dotP S zs + δ * v ≤ dotP S ys:=by
 induction h with
 | nil =>
   intro δ h0 h1 _
   simp only [List.sum_nil] at h1
   have : δ = 0:=by omega
   subst this
   exact ⟨[],.nil,by simp,by simp [dotP]⟩
 | @cons c S y ys h t ih =>
   intro δ h0 h1 hv
   simp only [List.sum_cons] at h1
   have hs:=feas_sum t
   obtain ⟨zs,g1,g2,g3⟩:=ih (δ - min δ y) (by omega) (by omega) fun x hx=>hv x (by simp [hx])
   have hc:=hv c (by simp)
   have e0 : 0 ≤ min δ y:=by omega
   have p:=Int.mul_nonneg e0 (show 0 ≤ c.2 - v by omega)
   refine ⟨(y - min δ y) :: zs,.cons ⟨by omega,by omega⟩ g1,by simp only [List.sum_cons]; omega,?_⟩
   simp only [dotP]
   generalize min δ y = e at *
   rw [Int.mul_sub] at p
   rw [Int.sub_mul] at g3
   rw [Int.sub_mul]
   omega
theorem fill_min : ∀ {S : List Pv} {ys : List Int},FeasP S ys → ∀ (left s : Int),S.Pairwise (fun a b=>a.2 ≤ b.2) → ys.sum = left → (fillP S (left,s)).2 ≤ s + dotP S ys
 | [],_,h,left,s,_,_=>by cases h; simp [fillP,dotP]
 | c :: S, _, h, left, s, hp, hsum => by
   cases h with
   | @cons _ _ y ys h t =>
     obtain ⟨hp1,hp2⟩:=List.pairwise_cons.1 hp
     simp only [List.sum_cons] at hsum
     have hs:=feas_sum t
     obtain ⟨zs,g1,g2,g3⟩:=feas_less t (min left c.1 - y) (by omega) (by omega) hp1
     have:=fill_min g1 (left - min left c.1) (s + min left c.1 * c.2) hp2 (by omega)
     simp only [fillP,dotP]
     rw [Int.sub_mul] at g3
     omega
def negP (S : List Pv) : List Pv:=S.map fun c=>(c.1,-c.2)
theorem fill_neg : ∀ (S : List Pv) (x y : Int),(fillP (negP S) (x,-y)).2 = -(fillP S (x,y)).2
 | [],_,_=>rfl
 | c :: S, x, y => by
   have:=fill_neg S (x - min x c.1) (y + min x c.1 * c.2)
   simp only [negP,List.map_cons,fillP] at this ⊢
   rw [← this]
   congr 3
   rw [Int.mul_neg]; omega
theorem dot_neg : ∀ (S : List Pv) (ys : List Int),dotP (negP S) ys = -dotP S ys
 | [],_=>by simp [negP,dotP]
 | _ :: _,[]=>by simp [negP,dotP]
 | c :: S, y :: ys => by
   have:=dot_neg S ys
   simp only [negP,List.map_cons,dotP] at this ⊢
   rw [this,Int.mul_neg]; omega
theorem feas_neg : ∀ {S : List Pv} {ys : List Int},FeasP S ys → FeasP (negP S) ys
 | _,_,.nil=>.nil
 | _,_,.cons h t=>.cons h (feas_neg t)
theorem fill_max {S : List Pv} {ys : List Int} (h : FeasP S ys) (left s : Int) (hp : S.Pairwise (fun a b=>b.2 ≤ a.2)) (hs : ys.sum = left) : s + dotP S ys ≤ (fillP S (left,s)).2:=by
 have:=fill_min (feas_neg h) left (-s) (by unfold negP; exact List.Pairwise.map _ (fun a b h=>by simp only; omega) hp) hs
 rw [fill_neg,dot_neg] at this
 omega
theorem insB_perm (lt : Nat → Nat → Bool) (x : Nat) : ∀ R,(insB lt x R).Perm (x :: R)
 | []=>.refl _
 | y :: R => by
   unfold insB
   split
   · exact ((insB_perm lt x R).cons y).trans (.swap x y R)
   · exact .refl _
theorem sortB_perm (lt : Nat → Nat → Bool) : ∀ l R,(sortB lt l R).Perm (l ++ R)
 | [],R=>.refl _
 | x :: l, R => by
   simp only [sortB]
   refine (sortB_perm lt l _).trans ?_
   refine ((insB_perm lt x R).append_left l).trans ?_
   exact List.perm_middle
theorem sortN_perm (lt : Nat → Nat → Bool) (l : List Nat) : (sortN lt l).Perm l:=by
 unfold sortN
 refine (List.reverse_perm _).trans ?_
 have:=sortB_perm lt l []
 rwa [List.append_nil] at this
theorem insB_pw {K : Nat → Int} {lt : Nat → Nat → Bool} (hlt : ∀ x y,lt x y = decide (K x < K y)) {x : Nat} : ∀ {R : List Nat},R.Pairwise (fun y z=>K z ≤ K y) → (insB lt x R).Pairwise (fun y z=>K z ≤ K y)
 | [],_=>by simp [insB]
 | y :: R, h => by
   obtain ⟨h1,h2⟩:=List.pairwise_cons.1 h
   unfold insB
   split
   · rename_i hc
     rw [hlt,decide_eq_true_eq] at hc
     refine List.pairwise_cons.2 ⟨fun z hz=>?_,insB_pw hlt h2⟩
     rcases (mem_insB lt x z R).1 hz with rfl | hz
     · omega
     · exact h1 z hz
   · rename_i hc
     rw [hlt,decide_eq_true_eq] at hc
     refine List.pairwise_cons.2 ⟨fun z hz=>?_,h⟩
     rcases List.mem_cons.1 hz with rfl | hz
     · omega
     · have:=h1 z hz; omega
theorem sortB_pw {K : Nat → Int} {lt : Nat → Nat → Bool} (hlt : ∀ x y,lt x y = decide (K x < K y)) : ∀ {l R : List Nat},R.Pairwise (fun y z=>K z ≤ K y) → (sortB lt l R).Pairwise (fun y z=>K z ≤ K y)
 | [],_,h=>h
 | x :: l,R,h=>by simp only [sortB]; exact sortB_pw hlt (insB_pw hlt h)
theorem sortN_pw {K : Nat → Int} {lt : Nat → Nat → Bool} (hlt : ∀ x y,lt x y = decide (K x < K y)) (l : List Nat) : (sortN lt l).Pairwise (fun y z=>K y ≤ K z):=by
 unfold sortN
 rw [List.pairwise_reverse]
 exact sortB_pw hlt (by simp)
theorem dotV_sum : ∀ {o vals : List Int},o.length = vals.length → dotV o vals = ((List.range o.length).map fun i=>o.getD i 0 * vals.getD i 0).sum
 | [],[],_=>rfl
 | x :: o, y :: vals, h => by
   have ih:=dotV_sum (o:=o) (vals:=vals) (by simpa using h)
   simp only [dotV,List.length_cons,List.range_succ_eq_map,List.map_cons,List.sum_cons,List.map_map,ih]
   rfl
 | [],_ :: _,h=>by simp at h
 | _ :: _,[],h=>by simp at h
theorem dotV_set : ∀ {o vals : List Int} {i : Nat} {y : Int},i < o.length → o.length = vals.length → dotV (o.set i y) vals = dotV o vals + (y - o.getD i 0) * vals.getD i 0
 | x :: o,v :: vals,0,y,_,_=>by simp only [List.set_cons_zero,dotV,List.getD_cons_zero,Int.sub_mul]; omega
 | x :: o, v :: vals, i + 1, y, h, hl => by
   have ih:=dotV_set (o:=o) (vals:=vals) (i:=i) (y:=y) (by simpa using h) (by simpa using hl)
   simp only [List.set_cons_succ,dotV,List.getD_cons_succ,ih]; omega
 | x :: o,[],_,_,_,hl=>by simp at hl
 | [],_,_,_,h,_=>by simp at h
theorem fillS_dot {l : List Bd} {vals : List Int} : ∀ {I : List Nat} {o : List Int} {left : Int},I.Nodup → o.length = l.length → vals.length = l.length → (∀ i ∈ I,i < l.length) →
 dotV (fillS l I (o,left)).1 vals = (fillP (I.map fun i=>((bAt l i).hi - o.getD i 0,vals.getD i 0)) (left,dotV o vals)).2 ∧ (fillS l I (o,left)).1.length = l.length
 | [],o,left,_,ho,_,_=>⟨rfl,ho⟩
 | i :: I, o, left, hn, ho, hv, hi => by
   obtain ⟨n1,n2⟩:=List.nodup_cons.1 hn
   have hil:=hi i (by simp)
   have hm : moreS l o left i = min left ((bAt l i).hi - o.getD i 0):=by
    unfold moreS bAt
    rw [List.getD_eq_getElem?_getD,List.getD_eq_getElem?_getD,List.getElem?_eq_getElem hil]
    rfl
   have hs : (o[i]?).getD 0 = o.getD i 0:=by rw [List.getD_eq_getElem?_getD]
   simp only [fillS,List.map_cons,fillP]
   rw [hm,hs]
   obtain ⟨h1,h2⟩:=fillS_dot (l:=l) (vals:=vals) (I:=I) (o:=o.set i (o.getD i 0 + min left ((bAt l i).hi - o.getD i 0))) (left:=left - min left ((bAt l i).hi - o.getD i 0)) n2 (by simp [ho]) hv fun j hj=>hi j (by simp [hj])
   refine ⟨?_,h2⟩
   rw [h1,dotV_set (by omega) (by omega)]
   have e1 : (I.map fun j=>((bAt l j).hi - (o.set i (o.getD i 0 + min left ((bAt l i).hi - o.getD i 0))).getD j 0,vals.getD j 0)) = I.map fun j=>((bAt l j).hi - o.getD j 0,vals.getD j 0) :=
    List.map_congr_left fun j hj=>by
     have hji : ¬ j = i:=fun e=>n1 (e ▸ hj)
     rw [getD_set _ _ _ _ (by omega),if_neg hji]
   rw [e1]
   congr 3
   rw [show o.getD i 0 + min left ((bAt l i).hi - o.getD i 0) - o.getD i 0 = min left ((bAt l i).hi - o.getD i 0) by omega]
structure TruthN (den : Int) (l : List Bd) (y : List Int) : Prop where
 len : y.length = l.length
 each : ∀ i,i < l.length → (bAt l i).lo ≤ y.getD i 0 ∧ y.getD i 0 ≤ (bAt l i).hi
 sum : y.sum = den
theorem feas_mapL {m v x : Nat → Int} : ∀ {I : List Nat},(∀ i ∈ I,0 ≤ x i ∧ x i ≤ m i) → FeasP (I.map fun i=>(m i,v i)) (I.map x)
 | [],_=>.nil
 | i :: I,h=>.cons (h i (by simp)) (feas_mapL fun j hj=>h j (by simp [hj]))
theorem dot_mapL {m v x : Nat → Int} : ∀ I : List Nat,dotP (I.map fun i=>(m i,v i)) (I.map x) = (I.map fun i=>x i * v i).sum
 | []=>rfl
 | i :: I=>by simp only [List.map_cons,dotP,List.sum_cons,dot_mapL I]
theorem perm_sumL {f : Nat → Int} {I J : List Nat} (h : I.Perm J) : (I.map f).sum = (J.map f).sum:=by
 induction h with
 | nil=>rfl
 | cons x _ ih=>simp only [List.map_cons,List.sum_cons,ih]
 | swap x y l=>simp only [List.map_cons,List.sum_cons]; omega
 | trans _ _ h1 h2=>rw [h1,h2]
theorem sum_addL {f g : Nat → Int} : ∀ I : List Nat,(I.map fun i=>f i + g i).sum = (I.map f).sum + (I.map g).sum
 | []=>by simp
 | i :: I=>by simp only [List.map_cons,List.sum_cons,sum_addL I]; omega
theorem sum_subL {f g : Nat → Int} : ∀ I : List Nat,(I.map fun i=>f i - g i).sum = (I.map f).sum - (I.map g).sum
 | []=>by simp
 | i :: I=>by simp only [List.map_cons,List.sum_cons,sum_subL I]; omega
theorem filled_bound {d : Int} {l : List Bd} {vals y : List Int} (hv : vals.length = l.length) (hy : TruthN d l y) : meanLo d l vals ≤ dotV y vals ∧ dotV y vals ≤ meanHi d l vals:=by
 have hyl:=hy.len
 have hlo : (l.map (·.lo)).length = l.length:=by simp
 have hgl : ∀ i,i < l.length → (l.map (·.lo)).getD i 0 = (bAt l i).lo:=fun i hi=>by simp [bAt,List.getD,List.getElem?_eq_getElem hi]
 have key : ∀ cm : Int → Int → Int,∀ I : List Nat,I.Perm (List.range l.length) → I = sortN (keyLt cm vals) (List.range l.length) →
  dotV (filledV cm d l vals) vals = (fillP (I.map fun i=>((bAt l i).hi - (bAt l i).lo,vals.getD i 0)) (d - loS l,dotV (l.map (·.lo)) vals)).2 ∧
  FeasP (I.map fun i=>((bAt l i).hi - (bAt l i).lo,vals.getD i 0)) (I.map fun i=>y.getD i 0 - (bAt l i).lo) ∧ (I.map fun i=>y.getD i 0 - (bAt l i).lo).sum = d - loS l ∧
  dotV (l.map (·.lo)) vals + dotP (I.map fun i=>((bAt l i).hi - (bAt l i).lo,vals.getD i 0)) (I.map fun i=>y.getD i 0 - (bAt l i).lo) = dotV y vals:=fun cm I hp he=>by
  have hI : ∀ i ∈ I,i < l.length:=fun i hi=>List.mem_range.1 (hp.mem_iff.1 hi)
  have hn : I.Nodup:=hp.nodup_iff.2 List.nodup_range
  refine ⟨?_,feas_mapL fun i hi=>?_,?_,?_⟩
  · unfold filledV startF
    rw [← he,(fillS_dot (l:=l) (vals:=vals) (o:=l.map (·.lo)) (left:=d - loS l) hn hlo hv hI).1]
    have e : (I.map fun i=>((bAt l i).hi - (l.map (·.lo)).getD i 0,vals.getD i 0)) = I.map fun i=>((bAt l i).hi - (bAt l i).lo,vals.getD i 0):=List.map_congr_left fun i hi=>by rw [hgl i (hI i hi)]
    rw [e]
  · have:=hy.each i (hI i hi); omega
  · rw [perm_sumL (f:=fun i=>y.getD i 0 - (bAt l i).lo) hp,sum_subL]
    have e1 : ((List.range l.length).map fun i=>y.getD i 0).sum = d:=by rw [← hyl,sum_getD,hy.sum]
    have e2 : ((List.range l.length).map fun i=>(bAt l i).lo).sum = loS l:=by
     conv=>rhs; rw [loS,← range_bAt l,List.map_map]
     rfl
    rw [e1,e2]
  · rw [dot_mapL,perm_sumL (f:=fun i=>(y.getD i 0 - (bAt l i).lo) * vals.getD i 0) hp,dotV_sum (by rw [hlo,hv]),dotV_sum (by rw [hyl,hv]),hlo,hyl,← sum_addL]
    congr 1
    refine List.map_congr_left fun i hi=>?_
    rw [hgl i (List.mem_range.1 hi),Int.sub_mul]; omega
 constructor
 · obtain ⟨k1,k2,k3,k4⟩:=key cmpI _ (sortN_perm _ _) rfl
   unfold meanLo
   rw [k1,← k4]
   refine fill_min k2 _ _ ?_ k3
   refine List.pairwise_map.2 ((sortN_pw (K:=fun i=>vals.getD i 0) (fun x y=>?_) _).imp fun h=>h)
   unfold keyLt cmpI
   simp only [List.getD_eq_getElem?_getD]
   rw [Bool.eq_iff_iff,decide_eq_true_eq,decide_eq_true_eq]
   split
   · omega
   · split <;> omega
 · obtain ⟨k1,k2,k3,k4⟩:=key (fun x y=>cmpI y x) _ (sortN_perm _ _) rfl
   unfold meanHi
   rw [k1,← k4]
   refine fill_max k2 _ _ ?_ k3
   refine List.pairwise_map.2 ((sortN_pw (K:=fun i=>-vals.getD i 0) (fun x y=>?_) _).imp fun h=>by simp only; omega)
   unfold keyLt cmpI
   simp only [List.getD_eq_getElem?_getD]
   rw [Bool.eq_iff_iff,decide_eq_true_eq,decide_eq_true_eq]
   split
   · omega
   · split <;> omega
end Go.Proofs.Ytgkejinoaommeaa

namespace Go.Proofs.Ytgkejinoaommeaa
open Go Go.Oc
set_option linter.unusedSimpArgs false
set_option linter.unusedVariables false
set_option maxRecDepth 8000
def aimAt (l : List Am) (i : Int) : Am:=(l[i.toNat]?).getD ⟨0,[]⟩
def pickE (d : Int) (l : List Am) (i : Int) (vals : List Int) : Int :=
 if checkV d l ≠ 0 then checkV d l
 else if ¬ (0 ≤ i ∧ i < l.length) then 7
 else if vals.length ≠ (aimAt l i).beds.length then 4
 else if withinL (-1000000000000) 1000000000000 vals = false then 2 else 0
theorem zero_chk {d : Int} {l : List Am} (h : checkV d l = 0) : (1 ≤ d ∧ d ≤ 3000) ∧ ∀ a ∈ l,a.beds.length ≤ 10 ∧ chOk d a.beds = true ∧ loS a.beds ≤ d:=by
 obtain ⟨_,h2,_,h4,h5⟩:=checkV_zero h
 refine ⟨h4,fun a ha=>?_⟩
 obtain ⟨_,_,_,k4,k5,_⟩:=aimOk_facts (h5 a ha)
 exact ⟨h2 a ha,k4,k5⟩
theorem pick_ok (d : Int) (l : List Am) (i : Int) (vals : List Int) (hw : WfL d l) : ACalls Try.prog 64 [lawV d l,i64 i,ints vals] (.tu [if pickE d l i vals = 0 then chV (aimAt l i) d else .ag [i64 0,.ns,i64 0],i64 (pickE d l i vals)]):=by
 refine acalls_st (rs:=[if pickE d l i vals = 0 then chV (aimAt l i) d else .ag [i64 0,.ns,i64 0],i64 (pickE d l i vals)]) [.cell 6 96,.tmp 7] Try.func64 rfl (by kernel_rfl) Try.ntmps64 rfl (by simp) rfl fun C vs=>?_
 repeat refine zq ?_
 refine zb (by kernel_rfl) fun K hK=>?_
 simp only [go_sem]
 (try simp (disch:=omega) only [zI])
 repeat first | intro _ | refine ⟨by omega,?_⟩ | refine ⟨⟨by omega,by omega⟩,?_⟩
 refine hK _ ?_
 clear hK K
 repeat refine zq ?_
 refine zb (by kernel_rfl) fun K hK=>?_
 simp only [go_sem]
 (try simp (disch:=omega) only [zI])
 refine zh (check_ok d l hw) rfl (by simp only [go_sem,i64,ints]) (by simp only [go_sem,i64,ints]) (by first | exact .inl rfl | exact .inr rfl) ?_
 (try simp only [go_sem])
 (try simp (disch:=omega) only [zI])
 repeat first | intro _ | refine ⟨by omega,?_⟩ | refine ⟨⟨by omega,by omega⟩,?_⟩
 refine hK _ ?_
 clear hK K
 refine zw (zk [1,2,3,6,7,8]) ?_
 simp only [go_sem]
 repeat refine zq ?_
 refine zd ?_
 repeat refine zq ?_
 refine zb (by kernel_rfl) fun K hK=>?_
 simp only [go_sem]
 (try simp (disch:=omega) only [zI])
 repeat first | intro _ | refine ⟨by omega,?_⟩ | refine ⟨⟨by omega,by omega⟩,?_⟩
 refine hK _ ?_
 clear hK K
 refine zw (zk [1,2,3,6,7,8,11]) ?_
 simp only [go_sem]
 cases hE : checkV d l != 0
 case true =>
  have hne : checkV d l ≠ 0:=by simpa using hE
  repeat refine zq ?_
  refine zc rfl (fun hc=>?_) (fun hc=>?_) <;> (try simp only [go_sem] at hc)
  repeat refine zq ?_
  refine zb (by kernel_rfl) fun K hK=>?_
  simp only [go_sem]
  (try simp (disch:=omega) only [zI])
  repeat first | intro _ | refine ⟨by omega,?_⟩ | refine ⟨⟨by omega,by omega⟩,?_⟩
  refine hK _ ?_
  clear hK K
  refine ze ?_
  simp only [go_sem]
  simp [pickE,hne,leL_refl.le_refl]
 have h0 : checkV d l = 0:=by simpa using hE
 repeat refine zq ?_
 refine zc rfl (fun hc=>?_) (fun hc=>?_) <;> (try simp only [go_sem] at hc)
 repeat refine zq ?_
 refine zb (by kernel_rfl) fun K hK=>?_
 simp only [go_sem]
 (try simp (disch:=omega) only [zI])
 intro hl19
 have hw1 : IntKind.i64.wrap ((l.length : Int) - 1) = (l.length : Int) - 1:=by rw [zI] <;> omega
 refine zh (within_ok 0 ((l.length : Int) - 1) [i]) rfl (by simp only [go_sem,i64,ints,hw1]) (by simp only [go_sem,i64,ints,hw1]) (by first | exact .inl rfl | exact .inr rfl) ?_
 (try simp only [go_sem,hw1])
 (try simp (disch:=omega) only [zI])
 repeat first | intro _ | refine ⟨by omega,?_⟩ | refine ⟨⟨by omega,by omega⟩,?_⟩
 refine hK _ ?_
 clear hK K
 refine zw (zk [1,2,3,6,7,8,16]) ?_
 simp only [go_sem]
 cases h1 : withinL 0 ((l.length : Int) - 1) [i]
 · have h1' : ¬ (0 ≤ i ∧ i < l.length):=by
    simp [withinL] at h1
    omega
   repeat refine zq ?_
   refine zc rfl (fun hc=>?_) (fun hc=>?_) <;> (try simp only [go_sem] at hc)
   repeat refine zq ?_
   refine zb (by kernel_rfl) fun K hK=>?_
   simp only [go_sem]
   (try simp (disch:=omega) only [zI])
   repeat first | intro _ | refine ⟨by omega,?_⟩ | refine ⟨⟨by omega,by omega⟩,?_⟩
   refine hK _ ?_
   clear hK K
   refine ze ?_
   simp only [go_sem]
   have : pickE d l i vals = 7:=by simp [pickE,h0,h1']
   simp [this,leL_refl.le_refl]
 have h1' : 0 ≤ i ∧ i < l.length:=by
  simp [withinL] at h1
  omega
 obtain ⟨n,rfl⟩:=Int.eq_ofNat_of_zero_le h1'.1
 have hn : n < l.length:=by omega
 obtain ⟨x,hx⟩:=opt_of_lt hn
 have hax : aimAt l n = x:=by simp [aimAt,hx]
 repeat refine zq ?_
 refine zc rfl (fun hc=>?_) (fun hc=>?_) <;> (try simp only [go_sem] at hc)
 repeat refine zq ?_
 refine zb (by kernel_rfl) fun K hK=>?_
 simp only [go_sem,hx,hn,aimR]
 (try simp (disch:=omega) only [zI])
 intro _ _
 repeat first | intro _ | refine ⟨by omega,?_⟩ | refine ⟨⟨by omega,by omega⟩,?_⟩
 refine hK _ ?_
 clear hK K
 refine zw (zk [1,2,3,6,7,8,26]) ?_
 simp only [go_sem]
 cases h2 : ((vals.length : Int) != x.beds.length)
 case true =>
  have h2' : vals.length ≠ x.beds.length:=by simp at h2; omega
  repeat refine zq ?_
  refine zc rfl (fun hc=>?_) (fun hc=>?_) <;> (try simp only [go_sem] at hc)
  repeat refine zq ?_
  refine zb (by kernel_rfl) fun K hK=>?_
  simp only [go_sem]
  (try simp (disch:=omega) only [zI])
  repeat first | intro _ | refine ⟨by omega,?_⟩ | refine ⟨⟨by omega,by omega⟩,?_⟩
  refine hK _ ?_
  clear hK K
  refine ze ?_
  simp only [go_sem]
  have : pickE d l n vals = 4:=by simp [pickE,h0,h1',hax,h2']
  simp [this,leL_refl.le_refl]
 have h2' : vals.length = x.beds.length:=by simp at h2; omega
 repeat refine zq ?_
 refine zc rfl (fun hc=>?_) (fun hc=>?_) <;> (try simp only [go_sem] at hc)
 repeat refine zq ?_
 refine zb (by kernel_rfl) fun K hK=>?_
 simp only [go_sem]
 (try simp (disch:=omega) only [zI])
 refine zh (within_ok (-1000000000000) 1000000000000 vals) rfl (by simp only [go_sem,i64,ints]) (by simp only [go_sem,i64,ints]) (by first | exact .inl rfl | exact .inr rfl) ?_
 (try simp only [go_sem])
 (try simp (disch:=omega) only [zI])
 repeat first | intro _ | refine ⟨by omega,?_⟩ | refine ⟨⟨by omega,by omega⟩,?_⟩
 refine hK _ ?_
 clear hK K
 refine zw (zk [1,2,3,6,7,8,38]) ?_
 simp only [go_sem]
 cases h3 : withinL (-1000000000000) 1000000000000 vals
 · repeat refine zq ?_
   refine zc rfl (fun hc=>?_) (fun hc=>?_) <;> (try simp only [go_sem] at hc)
   repeat refine zq ?_
   refine zb (by kernel_rfl) fun K hK=>?_
   simp only [go_sem]
   (try simp (disch:=omega) only [zI])
   repeat first | intro _ | refine ⟨by omega,?_⟩ | refine ⟨⟨by omega,by omega⟩,?_⟩
   refine hK _ ?_
   clear hK K
   refine ze ?_
   simp only [go_sem]
   have : pickE d l n vals = 2:=by simp [pickE,h0,hn,hax,h2',h3]
   simp [this,leL_refl.le_refl]
 repeat refine zq ?_
 refine zc rfl (fun hc=>?_) (fun hc=>?_) <;> (try simp only [go_sem] at hc)
 refine zx ?_
 try simp only [go_sem]
 repeat refine zq ?_
 refine awp_dreg2 [(1,none),(3,some 3),(6,some 6)] follows (by decide +kernel) (by kernel_rfl) (by simp only [keysOk,List.mem_cons,List.not_mem_nil,forall_eq_or_imp,Oc.keyOf,go_sem]; simp) fun K hK=>?_
 simp only [go_sem,hx,hn,aimR]
 (try simp (disch:=omega) only [zI])
 repeat first | intro _ | refine ⟨by omega,?_⟩ | refine ⟨⟨by omega,by omega⟩,?_⟩
 refine hK _ ?_
 clear hK K
 refine ze ?_
 simp only [go_sem]
 have : pickE d l n vals = 0:=by simp [pickE,h0,hn,hax,h2',h3]
 simp [this,leL_refl.le_refl,hax]
theorem pickE_zero {d : Int} {l : List Am} {i : Int} {vals : List Int} (h : pickE d l i vals = 0) : checkV d l = 0 ∧ (0 ≤ i ∧ i < l.length) ∧ vals.length = (aimAt l i).beds.length ∧ Vals vals ∧ aimAt l i ∈ l:=by
 unfold pickE at h
 split at h
 · rename_i h1; exact absurd h h1
 rename_i h1
 split at h
 · cases h
 rename_i h2
 split at h
 · cases h
 rename_i h3
 split at h
 · cases h
 rename_i h4
 have h2':=Decidable.not_not.1 h2
 refine ⟨Decidable.not_not.1 h1,h2',Decidable.not_not.1 h3,fun x hx=>?_,?_⟩
 · have:=List.all_eq_true.1 (by simpa using h4 : withinL (-1000000000000) 1000000000000 vals = true) x hx
   simpa using this
 · obtain ⟨n,rfl⟩:=Int.eq_ofNat_of_zero_le h2'.1
   obtain ⟨x,hx⟩:=opt_of_lt (l:=l) (i:=n) (by omega)
   simp only [aimAt,Int.toNat_natCast,hx,Option.getD_some]
   exact mem_of_opt hx
def meanV (d : Int) (l : List Am) (i : Int) (vals : List Int) : Int × Int:=if pickE d l i vals = 0 then (meanLo d (aimAt l i).beds vals,meanHi d (aimAt l i).beds vals) else (0,0)
def truthV (d : Int) (l : List Am) (i : Int) (vals : List Int) (g : Bool) : List Int:=if pickE d l i vals = 0 then filledV (if g then fun x y=>cmpI y x else cmpI) d (aimAt l i).beds vals else []
theorem Truth_ok (d : Int) (l : List Am) (i : Int) (vals : List Int) (g : Bool) (hw : WfL d l) : ACalls Try.prog 40 [lawV d l,i64 i,ints vals,.bo g] (.tu [ints (truthV d l i vals g),i64 (pickE d l i vals)]):=by
 have hp:=pick_ok d l i vals hw
 refine acalls_st (rs:=[ints (truthV d l i vals g),i64 (pickE d l i vals)]) [.tmp 8,.tmp 9] Try.func40 rfl (by kernel_rfl) Try.ntmps40 rfl (by simp) rfl fun C vs=>?_
 repeat refine zq ?_
 refine zb (by kernel_rfl) fun K hK=>?_
 simp only [go_sem]
 (try simp (disch:=omega) only [zI])
 repeat first | intro _ | refine ⟨by omega,?_⟩ | refine ⟨⟨by omega,by omega⟩,?_⟩
 refine hK _ ?_
 clear hK K
 cases hE : pickE d l i vals != 0
 case true =>
  have hne : pickE d l i vals ≠ 0:=by simpa using hE
  rw [if_neg hne] at hp
  repeat refine zq ?_
  refine zb (by kernel_rfl) fun K hK=>?_
  simp only [go_sem]
  (try simp (disch:=omega) only [zI])
  refine zh (hp) rfl (by simp only [go_sem,i64,ints]) (by simp only [go_sem,i64,ints]) (by first | exact .inl rfl | exact .inr rfl) ?_
  (try simp only [go_sem])
  (try simp (disch:=omega) only [zI])
  repeat first | intro _ | refine ⟨by omega,?_⟩ | refine ⟨⟨by omega,by omega⟩,?_⟩
  refine hK _ ?_
  clear hK K
  repeat refine zq ?_
  refine zd ?_
  repeat refine zq ?_
  refine zb (by kernel_rfl) fun K hK=>?_
  simp only [go_sem,hE]
  (try simp (disch:=omega) only [zI])
  repeat first | intro _ | refine ⟨by omega,?_⟩ | refine ⟨⟨by omega,by omega⟩,?_⟩
  refine hK _ ?_
  clear hK K
  repeat refine zq ?_
  refine zc rfl (fun hc=>?_) (fun hc=>?_) <;> (try simp only [go_sem] at hc)
  repeat refine zq ?_
  refine zb (by kernel_rfl) fun K hK=>?_
  simp only [go_sem]
  (try simp (disch:=omega) only [zI])
  repeat first | intro _ | refine ⟨by omega,?_⟩ | refine ⟨⟨by omega,by omega⟩,?_⟩
  refine hK _ ?_
  clear hK K
  refine ze ?_
  simp only [go_sem]
  simp [truthV,hne]
 have h0 : pickE d l i vals = 0:=by simpa using hE
 rw [if_pos h0] at hp
 obtain ⟨z1,z2,z3,z4,z5⟩:=pickE_zero h0
 obtain ⟨y1,y2⟩:=zero_chk z1
 obtain ⟨y3,y4,y5⟩:=y2 _ z5
 repeat refine zq ?_
 refine zb (by kernel_rfl) fun K hK=>?_
 simp only [go_sem]
 (try simp (disch:=omega) only [zI])
 refine zh (hp) rfl (by simp only [go_sem,i64,ints]) (by simp only [go_sem,i64,ints]) (by first | exact .inl rfl | exact .inr rfl) ?_
 (try simp only [go_sem])
 (try simp (disch:=omega) only [zI])
 repeat first | intro _ | refine ⟨by omega,?_⟩ | refine ⟨⟨by omega,by omega⟩,?_⟩
 refine hK _ ?_
 clear hK K
 repeat refine zq ?_
 refine zd ?_
 repeat refine zq ?_
 refine zb (by kernel_rfl) fun K hK=>?_
 simp only [go_sem,hE]
 (try simp (disch:=omega) only [zI])
 repeat first | intro _ | refine ⟨by omega,?_⟩ | refine ⟨⟨by omega,by omega⟩,?_⟩
 refine hK _ ?_
 clear hK K
 repeat refine zq ?_
 refine zc rfl (fun hc=>?_) (fun hc=>?_) <;> (try simp only [go_sem] at hc)
 repeat refine zq ?_
 refine zb (by kernel_rfl) fun K hK=>?_
 simp only [go_sem]
 (try simp (disch:=omega) only [zI])
 repeat first | intro _ | refine ⟨by omega,?_⟩ | refine ⟨⟨by omega,by omega⟩,?_⟩
 refine hK _ ?_
 clear hK K
 cases g
 · repeat refine zq ?_
   refine zc rfl (fun hc=>?_) (fun hc=>?_) <;> (try simp only [go_sem] at hc)
   refine zx ?_
   try simp only [go_sem]
   repeat refine zq ?_
   refine zb (by kernel_rfl) fun K hK=>?_
   simp only [go_sem]
   (try simp (disch:=omega) only [zI])
   refine zh (filled_ok (aimAt l i).at_ (aimAt l i).beds d vals 67 cmpI rising_ok z3 (by omega) y4 y1.2 y5) rfl (by simp only [go_sem,i64,ints]) (by simp only [go_sem,i64,ints]) (by first | exact .inl rfl | exact .inr rfl) ?_
   (try simp only [go_sem])
   (try simp (disch:=omega) only [zI])
   repeat first | intro _ | refine ⟨by omega,?_⟩ | refine ⟨⟨by omega,by omega⟩,?_⟩
   refine hK _ ?_
   clear hK K
   refine ze ?_
   simp only [go_sem]
   simp [truthV,h0]
 · repeat refine zq ?_
   refine zc rfl (fun hc=>?_) (fun hc=>?_) <;> (try simp only [go_sem] at hc)
   repeat refine zq ?_
   refine zb (by kernel_rfl) fun K hK=>?_
   simp only [go_sem]
   (try simp (disch:=omega) only [zI])
   refine zh (filled_ok (aimAt l i).at_ (aimAt l i).beds d vals 66 (fun x y=>cmpI y x) falling_ok z3 (by omega) y4 y1.2 y5) rfl (by simp only [go_sem,i64,ints]) (by simp only [go_sem,i64,ints]) (by first | exact .inl rfl | exact .inr rfl) ?_
   (try simp only [go_sem])
   (try simp (disch:=omega) only [zI])
   repeat first | intro _ | refine ⟨by omega,?_⟩ | refine ⟨⟨by omega,by omega⟩,?_⟩
   refine hK _ ?_
   clear hK K
   refine ze ?_
   simp only [go_sem]
   simp [truthV,h0]
end Go.Proofs.Ytgkejinoaommeaa

namespace Go.Proofs.Ytgkejinoaommeaa
open Go Go.Oc
set_option linter.unusedSimpArgs false
set_option linter.unusedVariables false
set_option maxRecDepth 8000
structure FixI (D : Int) (l X : List Bd) : Prop where
 map : X.map (fun c=>(c.b,c.lo)) = l.map fun c=>(c.b,c.lo)
 each : ∀ c ∈ X,0 ≤ c.lo ∧ c.lo ≤ c.hi ∧ c.hi ≤ D
theorem FixI.len {D : Int} {l X : List Bd} (h : FixI D l X) : X.length = l.length:=by
 have:=congrArg List.length h.map
 simpa using this
theorem FixI.cap {D : Int} {l : List Bd} (h0 : ∀ c ∈ l,0 ≤ c.lo ∧ c.lo ≤ c.hi ∧ c.lo ≤ D) : FixI D l (capB D l):=by
 refine ⟨by simp [capB,Function.comp_def],fun c hc=>?_⟩
 obtain ⟨d,hd,rfl⟩:=List.mem_map.1 hc
 have:=h0 d hd
 simp only; omega
theorem FixI.raise {D : Int} {l X : List Bd} (h : FixI D l X) (k : Nat) (hk : k < X.length) : FixI D l (raiseB D X k):=by
 unfold raiseB
 split
 · rename_i hh
   have hg : X[k]? = some (X.getD k ⟨0,0,0⟩):=by rw [List.getD_eq_getElem?_getD,List.getElem?_eq_getElem hk]; rfl
   have hc:=h.each _ (List.mem_of_getElem? hg)
   refine ⟨?_,fun c hc'=>?_⟩
   · rw [← h.map,List.map_set]
     refine List.ext_getElem? fun j=>?_
     rw [List.getElem?_set]
     split
     · rename_i e; subst e
       rw [List.getElem?_map,hg]
       simp [hk]
     · rfl
   · rcases List.mem_or_eq_of_mem_set hc' with hx | hx
     · exact h.each c hx
     · subst hx
       simp only; omega
 · exact h
theorem hiS_set {X : List Bd} : ∀ {k : Nat} {c : Bd},k < X.length → hiS (X.set k c) = hiS X - (X.getD k ⟨0,0,0⟩).hi + c.hi:=by
 induction X with
 | nil=>intro k c h; simp at h
 | cons x X ih =>
   intro k c h
   cases k with
   | zero=>simp [hiS]; omega
   | succ k =>
     have:=ih (k:=k) (c:=c) (by simpa using h)
     simp only [hiS,List.set_cons_succ,List.map_cons,List.sum_cons,List.getD_cons_succ] at this ⊢
     omega
theorem hiS_ge {X : List Bd} : (∀ c ∈ X,0 ≤ c.hi) → ∀ {k : Nat},k < X.length → (X.getD k ⟨0,0,0⟩).hi ≤ hiS X:=by
 induction X with
 | nil=>intro _ k h; simp at h
 | cons x X ih =>
   intro h0 k h
   have hx:=h0 x (by simp)
   have hX : 0 ≤ hiS X:=by
    have:=hiS_le (B:=100000000000000) (l:=X.map fun c=>⟨c.b,c.lo,0⟩) (by simp)
    clear this ih h
    induction X with
    | nil=>simp [hiS]
    | cons y X ih =>
      have hy:=h0 y (by simp)
      have:=ih fun c hc=>h0 c (by simp at hc ⊢; rcases hc with rfl | hc; exact .inl rfl; exact .inr (.inr hc))
      simp only [hiS,List.map_cons,List.sum_cons] at this ⊢; omega
   cases k with
   | zero =>
     have e : hiS (x :: X) = x.hi + hiS X:=by simp [hiS]
     rw [e]; simp; omega
   | succ k =>
     have:=ih (fun c hc=>h0 c (by simp [hc])) (k:=k) (by simpa using h)
     have e : hiS (x :: X) = x.hi + hiS X:=by simp [hiS]
     rw [e,List.getD_cons_succ]; omega
theorem raise_full {D : Int} {l X : List Bd} (h : FixI D l X) {k : Nat} (hk : k < X.length) : D ≤ hiS (raiseB D X k):=by
 unfold raiseB
 split
 · rename_i hh
   rw [hiS_set hk]
   have:=hiS_ge (fun c hc=>by have:=h.each c hc; omega) hk
   simp only; omega
 · omega
theorem raise_keep {D : Int} {X : List Bd} (h : D ≤ hiS X) (k : Nat) : raiseB D X k = X:=by unfold raiseB; rw [if_neg (by omega)]
theorem raiseN_keep {D : Int} {X : List Bd} (h : D ≤ hiS X) : ∀ k,raiseN D X k = X
 | 0=>rfl
 | k + 1 => by
   simp only [raiseN,raiseN_keep h k]
   exact raise_keep h k
theorem fixM_ok {x : Lw} {D : Int} {l : List Bd} (h1 : 1 ≤ l.length) (h0 : ∀ c ∈ l,0 ≤ c.lo ∧ c.lo ≤ c.hi ∧ c.lo ≤ D) : FixI D l (fixM x D l) ∧ D ≤ hiS (fixM x D l):=by
 have hc:=FixI.cap h0
 have hl:=hc.len
 have hk : restK x l < (capB D l).length:=by rw [hl]; exact Nat.mod_lt _ (by omega)
 have hf:=raise_full hc hk
 have hr:=hc.raise _ hk
 unfold fixM
 rw [raiseN_keep hf]
 exact ⟨hr,hf⟩
end Go.Proofs.Ytgkejinoaommeaa

namespace Go.Proofs.Ytgkejinoaommeaa
open Go Go.Oc
set_option linter.unusedSimpArgs false
set_option linter.unusedVariables false
set_option maxRecDepth 8000
theorem seqOk_of : ∀ {l : List Bd} {p : Option Int},l.Pairwise (fun a b=>a.b < b.b) → (∀ c ∈ l,c.b = 0 ∨ bedOk c.b = true) → (∀ q,p = some q → ∀ c ∈ l,q < c.b) → seqOk p l = true
 | [],_,_,_,_=>by simp [seqOk]
 | c :: l, p, hp, hb, hq => by
   obtain ⟨h1,h2⟩:=List.pairwise_cons.1 hp
   have ih:=seqOk_of (p:=some c.b) h2 (fun x hx=>hb x (by simp [hx])) fun q e x hx=>by injection e with e; subst e; exact h1 x hx
   have hc:=hb c (by simp)
   unfold seqOk
   rw [ih,Bool.and_true,Bool.and_eq_true]
   refine ⟨by simpa using hc,?_⟩
   cases p with
   | none=>rfl
   | some q=>simpa using hq q rfl c (by simp)
theorem seqOk_map : ∀ {l l' : List Bd} {p : Option Int},l'.map (·.b) = l.map (·.b) → seqOk p l' = seqOk p l
 | [],[],_,_=>rfl
 | [],c :: l',_,h=>by simp at h
 | c :: l,[],_,h=>by simp at h
 | c :: l, c' :: l', p, h => by
   simp only [List.map_cons,List.cons.injEq] at h
   unfold seqOk
   rw [h.1,seqOk_map h.2]
theorem FixI.b {D : Int} {l X : List Bd} (h : FixI D l X) : X.map (·.b) = l.map (·.b) ∧ loS X = loS l:=by
 have h1:=congrArg (List.map Prod.fst) h.map
 have h2:=congrArg (fun z=>(List.map Prod.snd z).sum) h.map
 simp only [List.map_map] at h1 h2
 exact ⟨h1,h2⟩
theorem bedOk_le' {b : Int} (h : bedOk b = true) : 0 ≤ b ∧ b ≤ 499:=by
 simp only [bedOk,Bool.or_eq_true,Bool.and_eq_true,decide_eq_true_eq] at h
 omega
structure MadeI (D : Int) (a : Am) : Prop where
 ok : aimOk D a = true
 wf : WfA a
 len : 1 ≤ a.beds.length ∧ a.beds.length ≤ 10
theorem le_sumsM : ∀ {l : List Am} {d : Int},d ≤ l.foldl (fun d a=>max d (loS a.beds)) d ∧ ∀ a ∈ l,loS a.beds ≤ l.foldl (fun d a=>max d (loS a.beds)) d
 | [],d=>by simp
 | x :: l, d => by
   obtain ⟨h1,h2⟩:=le_sumsM (l:=l) (d:=max d (loS x.beds))
   simp only [List.foldl_cons]
   refine ⟨by omega,fun a ha=>?_⟩
   rcases List.mem_cons.1 ha with rfl | ha
   · omega
   · exact h2 a ha
theorem made_ok {x : Lw} (hx : WfLw x) {most : Int} (hm : 0 ≤ most ∧ most ≤ 100) :
 (1 ≤ denM x most ∧ denM x most ≤ 2600) ∧ (1 ≤ (aimsM x most).length ∧ (aimsM x most).length ≤ 6) ∧ (∀ a ∈ aimsM x most,MadeI (denM x most) a) ∧ checkV (denM x most) (aimsM x most) = 0 ∧ WfL (denM x most) (aimsM x most):=by
 obtain ⟨⟨hN1,hN6⟩,hraw⟩:=raw_ok hx hm
 have hr:=hx.rest
 have hmem : ∀ a ∈ rawM x most,RawI a:=fun a ha=>by
  obtain ⟨j,hj⟩:=List.getElem?_of_mem ha
  have hjl:=(List.getElem?_eq_some_iff.1 hj).1
  have e : rawA x most j = a:=by unfold rawA; rw [List.getD_eq_getElem?_getD,hj]; rfl
  rw [← e]; exact hraw j hjl
 have hsb : 0 ≤ sumsM (rawM x most) ∧ sumsM (rawM x most) ≤ 2550:=sumsM_le (by omega) (by omega) fun a ha=>(hmem a ha).lo
 have hD : 1 ≤ denM x most ∧ denM x most ≤ 2600:=by unfold denM; omega
 have hle : ∀ a ∈ rawM x most,loS a.beds ≤ denM x most:=fun a ha=>by
  have : loS a.beds ≤ sumsM (rawM x most):=(le_sumsM (l:=rawM x most) (d:=0)).2 a ha
  unfold denM; omega
 have hlen : (aimsM x most).length = rawN x most:=by unfold aimsM rawN; simp
 have hmade : ∀ a ∈ aimsM x most,MadeI (denM x most) a:=fun a ha=>by
  obtain ⟨a0,h0,rfl⟩:=List.mem_map.1 ha
  have hI:=hmem a0 h0
  have hl:=hle a0 h0
  have hlo : ∀ c ∈ a0.beds,c.lo ≤ loS a0.beds:=fun c hc=>by
   obtain ⟨k,hk⟩:=List.getElem?_of_mem hc
   have hkl:=(List.getElem?_eq_some_iff.1 hk).1
   have h1:=hiS_ge (X:=a0.beds.map fun c=>⟨c.b,c.lo,c.lo⟩) (fun c hc=>by
    obtain ⟨d,hd,rfl⟩:=List.mem_map.1 hc
    exact (hI.each d hd).2.1) (k:=k) (by simpa using hkl)
   have e1 : hiS (a0.beds.map fun c=>⟨c.b,c.lo,c.lo⟩) = loS a0.beds:=by simp [hiS,loS,Function.comp_def]
   have e2 : ((a0.beds.map fun c=>(⟨c.b,c.lo,c.lo⟩ : Bd)).getD k ⟨0,0,0⟩).hi = c.lo:=by simp [List.getD_eq_getElem?_getD,hk]
   rw [e1,e2] at h1
   exact h1
  obtain ⟨hf,hh⟩:=fixM_ok (x:=x) (D:=denM x most) hI.len.1 fun c hc=>by
   have:=hI.each c hc
   have:=hlo c hc
   omega
  obtain ⟨hb,hlS⟩:=hf.b
  have hfl:=hf.len
  have hsq : seqOk none (fixM x (denM x most) a0.beds) = true:=by
   rw [seqOk_map hb]
   exact seqOk_of hI.up (fun c hc=>(hI.each c hc).1) fun q e=>by cases e
  have hch : chOk (denM x most) (fixM x (denM x most) a0.beds) = true:=by
   simp only [chOk,List.all_eq_true,Bool.and_eq_true,decide_eq_true_eq]
   exact fun c hc=>⟨⟨(hf.each c hc).1,(hf.each c hc).2.1⟩,(hf.each c hc).2.2⟩
  have hne : (fixM x (denM x most) a0.beds).isEmpty = false:=by
   cases h : fixM x (denM x most) a0.beds with
   | nil=>rw [h] at hfl; have:=hI.len; simp at hfl; omega
   | cons=>rfl
  refine ⟨?_,⟨?_,fun c hc=>?_⟩,?_⟩
  · simp only [aimOk,hsq,hch,hne,hI.at_,Bool.not_false,Bool.and_true,Bool.true_and,Bool.and_eq_true,decide_eq_true_eq]
    exact ⟨by rw [hlS]; exact hl,hh⟩
  · have:=bedOk_le' hI.at_
    simp only; unfold I64; omega
  · have h1:=hf.each c hc
    have h2 : c.b ∈ a0.beds.map (·.b):=by rw [← hb]; exact List.mem_map.2 ⟨c,hc,rfl⟩
    obtain ⟨d,hd,hde⟩:=List.mem_map.1 h2
    have h3 : 0 ≤ c.b ∧ c.b ≤ 499:=by
     rw [← hde]
     rcases (hI.each d hd).1 with h | h
     · omega
     · exact bedOk_le' h
    unfold I64
    omega
  · simp only; rw [hfl]; exact hI.len
 refine ⟨hD,by rw [hlen]; exact ⟨hN1,hN6⟩,hmade,?_,⟨by unfold I64; omega,fun a ha=>(hmade a ha).wf⟩⟩
 have h1 : (decide (20 < (aimsM x most).length) || (aimsM x most).any fun a=>decide (10 < a.beds.length)) = false:=by
  rw [Bool.or_eq_false_iff,decide_eq_false_iff_not,List.any_eq_false]
  exact ⟨by omega,fun a ha=>by have:=(hmade a ha).len; simp; omega⟩
 have h2 : ((aimsM x most).isEmpty || !(decide (1 ≤ denM x most) && decide (denM x most ≤ 3000))) = false:=by
  have e1 : (aimsM x most).isEmpty = false:=by
   cases h : aimsM x most with
   | nil=>rw [h] at hlen; simp at hlen; omega
   | cons=>rfl
  have e2 : decide (1 ≤ denM x most) = true ∧ decide (denM x most ≤ 3000) = true:=⟨decide_eq_true hD.1,decide_eq_true (by omega)⟩
  rw [e1,e2.1,e2.2]; rfl
 have h3 : (aimsM x most).all (aimOk (denM x most)) = true:=List.all_eq_true.2 fun a ha=>(hmade a ha).ok
 unfold checkV
 rw [h1,h2,h3]
 rfl
end Go.Proofs.Ytgkejinoaommeaa

namespace Go.Proofs.Ytgkejinoaommeaa
open Go Go.Oc
set_option linter.unusedSimpArgs false
set_option linter.unusedVariables false
set_option maxRecDepth 8000
theorem fillS_TI {l : List Bd} {d : Int} : ∀ (I : List Nat) (x : List Int × Int),(∀ i ∈ I,i < l.length) → TI l d x → TI l d (fillS l I x) ∧ ∀ i,i < l.length → x.1.getD i 0 ≤ (fillS l I x).1.getD i 0 ∧ ((fillS l I x).2 = 0 ∨ (i ∈ I → (fillS l I x).1.getD i 0 = (bAt l i).hi))
 | [],x,_,h=>⟨h,fun i hi=>⟨Int.le_refl _,.inr fun h=>by cases h⟩⟩
 | j :: I, x, hI, h => by
   have hj:=hI j (by simp)
   have hl:=h.len
   have hm : moreS l x.1 x.2 j = takeU l j x:=by
    unfold moreS takeU bAt
    rw [List.getD_eq_getElem?_getD,List.getD_eq_getElem?_getD,List.getElem?_eq_getElem hj]; rfl
   have e : (x.1.set j ((x.1[j]?).getD 0 + moreS l x.1 x.2 j),x.2 - moreS l x.1 x.2 j) = giveU j (takeU l j x) x:=by
    rw [hm,← List.getD_eq_getElem?_getD]; rfl
   have ht:=h.take hj
   have hg:=h.give hj ⟨ht,Int.le_refl _⟩
   simp only [fillS]
   rw [e]
   obtain ⟨h1,h2⟩:=fillS_TI I (giveU j (takeU l j x) x) (fun i hi=>hI i (by simp [hi])) hg
   refine ⟨h1,fun i hi=>?_⟩
   obtain ⟨k1,k2⟩:=h2 i hi
   have hgi : (giveU j (takeU l j x) x).1.getD i 0 = if i = j then x.1.getD j 0 + takeU l j x else x.1.getD i 0:=by
    unfold giveU; exact getD_set _ _ _ _ (by omega)
   rw [hgi] at k1
   have h6:=h1.each i hi
   refine ⟨by
    split at k1
    · rename_i e; subst e; omega
    · exact k1,?_⟩
   rcases k2 with k2 | k2
   · exact .inl k2
   · by_cases e : i = j
     · subst e
       rw [if_pos rfl] at k1
       have h3:=h.each i hi
       by_cases c : x.2 ≤ (bAt l i).hi - x.1.getD i 0
       · left
         have h4:=h1.sum
         have h5:=h1.left
         have : (giveU i (takeU l i x) x).2 = 0:=by unfold giveU takeU; simp only; omega
         have hle : ∀ (I : List Nat) (y : List Int × Int),(∀ i ∈ I,i < l.length) → TI l d y → (fillS l I y).2 ≤ y.2:=by
          intro I
          induction I with
          | nil=>intro y _ _; exact Int.le_refl _
          | cons a I ih =>
            intro y hI hy
            have ha:=hI a (by simp)
            have hm : moreS l y.1 y.2 a = takeU l a y:=by
             unfold moreS takeU bAt
             rw [List.getD_eq_getElem?_getD,List.getD_eq_getElem?_getD,List.getElem?_eq_getElem ha]; rfl
            have e : (y.1.set a ((y.1[a]?).getD 0 + moreS l y.1 y.2 a),y.2 - moreS l y.1 y.2 a) = giveU a (takeU l a y) y:=by
             rw [hm,← List.getD_eq_getElem?_getD]; rfl
            have ht:=hy.take ha
            simp only [fillS]
            rw [e]
            have:=ih (giveU a (takeU l a y) y) (fun i hi=>hI i (by simp [hi])) (hy.give ha ⟨ht,Int.le_refl _⟩)
            simp only [giveU] at this ⊢
            omega
         have:=hle I (giveU i (takeU l i x) x) (fun i hi=>hI i (by simp [hi])) hg
         omega
       · right; intro _
         have : takeU l i x = (bAt l i).hi - x.1.getD i 0:=by unfold takeU; omega
         omega
     · right; intro hi'
       rcases List.mem_cons.1 hi' with h | h
       · exact absurd h e
       · exact k2 h
theorem hiS_eq (l : List Bd) : hiS l = ((List.range l.length).map fun i=>(bAt l i).hi).sum:=by
 conv=>lhs; rw [hiS,← range_bAt l,List.map_map]
 rfl
theorem filled_truth {cm : Int → Int → Int} {d : Int} {l : List Bd} {vals : List Int} (h1 : ∀ c ∈ l,c.lo ≤ c.hi) (h : loS l ≤ d) (hh : d ≤ hiS l) : TruthN d l (filledV cm d l vals):=by
 have h0 : TI l d (startF d l):=by
  refine ⟨by simp [startF],fun i hi=>?_,by simp only [startF,loS]; omega,by simp only [startF]; omega⟩
  have:=h1 _ (bAt_mem hi)
  have e : (startF d l).1.getD i 0 = (bAt l i).lo:=by simp [startF,bAt,List.getD,List.getElem?_eq_getElem hi]
  rw [e]; omega
 obtain ⟨hT,hF⟩:=fillS_TI (sortN (keyLt cm vals) (List.range l.length)) (startF d l) (fun i hi=>by rw [mem_sortN,List.mem_range] at hi; exact hi) h0
 have hz : (fillS l (sortN (keyLt cm vals) (List.range l.length)) (startF d l)).2 = 0:=by
  by_cases c : (fillS l (sortN (keyLt cm vals) (List.range l.length)) (startF d l)).2 = 0
  · exact c
  · have hs:=hT.sum
    have hl:=hT.left
    have : (fillS l (sortN (keyLt cm vals) (List.range l.length)) (startF d l)).1.sum = hiS l:=by
     rw [← sum_getD,hT.len,hiS_eq]
     congr 1
     refine List.map_congr_left fun i hi=>?_
     rcases (hF i (List.mem_range.1 hi)).2 with h | h
     · exact absurd h c
     · exact h (by rw [mem_sortN]; exact hi)
    omega
 refine ⟨hT.len,hT.each,?_⟩
 have:=hT.sum
 unfold filledV
 omega
def oneV (n k : Nat) : List Int:=(List.replicate n 0).set k 1
theorem mem_bAt {l : List Bd} {c : Bd} (hc : c ∈ l) : ∃ k,k < l.length ∧ bAt l k = c:=by
 obtain ⟨k,hk⟩:=List.getElem?_of_mem hc
 exact ⟨k,(List.getElem?_eq_some_iff.1 hk).1,by unfold bAt; rw [List.getD_eq_getElem?_getD,hk]; rfl⟩
theorem check_made {d : Int} {l : List Am} (hd : 1 ≤ d ∧ d ≤ 3000) (hl : 1 ≤ l.length ∧ l.length ≤ 20) (h : ∀ a ∈ l,MadeI d a) : checkV d l = 0 ∧ WfL d l:=by
 constructor
 · unfold checkV
   have c1 : (decide (20 < l.length) || l.any fun a=>decide (10 < a.beds.length)) = false:=by
    rw [Bool.or_eq_false_iff,List.any_eq_false]
    exact ⟨decide_eq_false (by omega),fun a ha=>by have:=(h a ha).len; rw [decide_eq_true_eq]; omega⟩
   have c2 : l.isEmpty = false:=by
    cases l with
    | nil=>simp at hl
    | cons=>rfl
   have c3 : l.all (aimOk d) = true:=List.all_eq_true.2 fun a ha=>(h a ha).ok
   rw [c1,c2,c3]
   simp [hd.1,hd.2]
 · exact ⟨by unfold I64; omega,fun a ha=>(h a ha).wf⟩
end Go.Proofs.Ytgkejinoaommeaa

namespace Go.Proofs.Ytgkejinoaommeaa
open Go Go.Oc
set_option linter.unusedSimpArgs false
set_option linter.unusedVariables false
set_option maxRecDepth 8000
def atE (l : List Int) (v : Int) : Int:=indexF (fun x=>v == x) l
theorem atE_lt (v : Int) : ∀ (l : List Int),atE l v < l.length
 | []=>by simp [atE,indexF]
 | x :: l => by
   have ih:=atE_lt v l
   unfold atE at ih ⊢
   simp only [indexF,List.length_cons]
   split
   · omega
   · split <;> omega
theorem indexE_ok (l : List Int) (v : Int) : ACalls Try.prog 93 [ints l,i64 v] (i64 (atE l v)):=by
 refine acalls_st (rs:=[i64 (atE l v)]) [.tmp 4] Try.func93 rfl (by kernel_rfl) Try.ntmps93 rfl (by simp) rfl fun C vs=>?_
 repeat refine zq ?_
 refine zb (by kernel_rfl) fun K hK=>?_
 simp only [go_sem]
 (try simp (disch:=omega) only [zI])
 repeat first | intro _ | refine ⟨by omega,?_⟩ | refine ⟨⟨by omega,by omega⟩,?_⟩
 refine hK _ ?_
 clear hK K
 refine zw (zk [0,1]) ?_
 simp only [go_sem]
 repeat refine zq ?_
 refine zb (by kernel_rfl) fun K hK=>?_
 simp only [go_sem]
 (try simp (disch:=omega) only [zI])
 intro hl
 repeat first | intro _ | refine ⟨by omega,?_⟩ | refine ⟨⟨by omega,by omega⟩,?_⟩
 refine hK _ ?_
 clear hK K
 refine zw (zk [0,1,7,8]) ?_
 simp only [go_sem]
 repeat refine zq ?_
 refine zd ?_
 refine awp_upto (n:=19) l.length (fun i vs=>[(0,.r (ints l)),(1,.r (i64 v)),(7,.r (i64 l.length)),(8,.r (i64 i))]) (fun _=>[])
  (fun i=>atE l v = if atE (l.drop i) v < 0 then -1 else i + atE (l.drop i) v) 0 (fit_of [] ?_ rfl) (Nat.zero_le _) ?_ ?_
 · try simp only [go_sem]
 · simp only [List.drop_zero]
   have:=indexF_ge (fun x=>v == x) l
   unfold atE
   split
   · omega
   · simp
 · intro i vs hi hI
   repeat refine zq ?_
   refine zb (by kernel_rfl) fun K hK=>?_
   simp only [go_sem]
   (try simp (disch:=omega) only [zI])
   repeat first | intro _ | refine ⟨by omega,?_⟩ | refine ⟨⟨by omega,by omega⟩,?_⟩
   refine hK _ ?_
   clear hK K
   refine zw (zk [0,1,7,8,9]) ?_
   simp only [go_sem]
   repeat refine zq ?_
   refine zc rfl (fun hc=>?_) (fun hc=>?_) <;> (try simp only [go_sem] at hc)
   · have hci:=hc
     obtain ⟨x,hx⟩:=opt_of_lt hci
     rw [drop_of_opt hx] at hI
     refine zx ?_
     try simp only [go_sem]
     repeat refine zq ?_
     refine zd ?_
     repeat refine zq ?_
     refine zb (by kernel_rfl) fun K hK=>?_
     simp only [go_sem]
     (try simp (disch:=omega) only [zI])
     repeat first | intro _ | refine ⟨by omega,?_⟩ | refine ⟨⟨by omega,by omega⟩,?_⟩
     refine hK _ ?_
     clear hK K
     refine zw (zk [0,1,5,7,8]) ?_
     simp only [go_sem]
     repeat refine zq ?_
     refine zb (by kernel_rfl) fun K hK=>?_
     simp only [go_sem,hx,hci]
     (try simp (disch:=omega) only [zI])
     repeat first | intro _ | refine ⟨by omega,?_⟩ | refine ⟨⟨by omega,by omega⟩,?_⟩
     refine hK _ ?_
     clear hK K
     refine zw (zk [0,1,5,7,8,16]) ?_
     simp only [go_sem]
     by_cases he : (v == x) = true
     · have h2 : atE l v = i:=by rw [hI]; simp [atE,indexF,he]
       rw [he,h2]
       repeat refine zq ?_
       refine zc rfl (fun hc=>?_) (fun hc=>?_) <;> (try simp only [go_sem] at hc)
       repeat refine zq ?_
       refine zb (by kernel_rfl) fun K hK=>?_
       simp only [go_sem]
       (try simp (disch:=omega) only [zI])
       repeat first | intro _ | refine ⟨by omega,?_⟩ | refine ⟨⟨by omega,by omega⟩,?_⟩
       refine hK _ ?_
       clear hK K
       refine zw (zk [4]) ?_
       simp only [go_sem]
       refine ze ?_
       simp only [go_sem]
     · have he' : (v == x) = false:=by simpa using he
       rw [he']
       repeat refine zq ?_
       refine zc rfl (fun hc=>?_) (fun hc=>?_) <;> (try simp only [go_sem] at hc)
       refine zx ?_
       try simp only [go_sem]
       repeat refine zq ?_
       refine zb (by kernel_rfl) fun K hK=>?_
       simp only [go_sem]
       (try simp (disch:=omega) only [zI])
       repeat first | intro _ | refine ⟨by omega,?_⟩ | refine ⟨⟨by omega,by omega⟩,?_⟩
       refine hK _ ?_
       clear hK K
       try simp only [go_sem]
       refine ⟨hci,?_,fit_of [] ?_ rfl⟩
       · rw [hI]
         simp only [atE,indexF,he',Bool.false_eq_true,if_false]
         have:=indexF_ge (fun x=>v == x) (l.drop (i + 1))
         split <;> split <;> omega
       · try simp only [go_sem]
   · have hil : i = l.length:=by omega
     subst hil
     rw [List.drop_length] at hI
     have hI' : atE l v = -1:=by rw [hI]; simp [atE,indexF]
     refine zf ?_
     simp only [go_sem]
     repeat refine zq ?_
     refine zb (by kernel_rfl) fun K hK=>?_
     simp only [go_sem]
     (try simp (disch:=omega) only [zI])
     repeat first | intro _ | refine ⟨by omega,?_⟩ | refine ⟨⟨by omega,by omega⟩,?_⟩
     refine hK _ ?_
     clear hK K
     refine zw (zk [4]) ?_
     simp only [go_sem]
     refine ze ?_
     simp only [go_sem]
     rw [hI']
abbrev tR (t : List Int) : List RV:=t.map fun x=>i64 x
abbrev tA (t : List Int) : List AV:=(tR t).map AV.r
abbrev zeroT : List Int:=[0,0,0,0,0,0,0,0,0,0]
def incT (t : List Int) (i : Nat) : List Int:=t.set i (t.getD i 0 + 1)
theorem incT_len (t : List Int) (i : Nat) : (incT t i).length = t.length:=by simp [incT]
theorem tA_drop {t : List Int} {i : Nat} {x : Int} (h : t[i]? = some x) : (tA t).drop i = .r (i64 x) :: (tA t).drop (i + 1):=by
 refine drop_of_opt ?_
 simp [h]
theorem tA_set {t : List Int} {i : Nat} {y : Int} (h : i < t.length) : (tA t).take i ++ (AV.r (RV.it .i64 y) :: (tA t).drop (i + 1)) = tA (t.set i y):=by
 have : ((t.set i y).map fun x=>i64 x).map AV.r = (((t.map fun x=>i64 x).map AV.r).set i (.r (i64 y))):=by simp [List.map_set]
 show _ = ((t.set i y).map fun x=>i64 x).map AV.r
 rw [this,List.set_eq_take_append_cons_drop,if_pos (by simpa using h)]
theorem tA_len (t : List Int) : (tA t).length = t.length:=by simp
def tallyK (beds : List Int) : List Int → List Int → Option (List Int)
 | t,[]=>some t
 | t,d :: ds=>if atE beds d < 0 then none else tallyK beds (incT t (atE beds d).toNat) ds
def knownXs (beds ds : List Int) : List (List RV):=match tallyK beds zeroT ds with | some t=>[[.ag (tR t)]] | none=>[]
abbrev sheetR (beds le mo : List Int) : List RV:=ints beds :: (tR le ++ tR mo)
theorem flat_tR : ∀ t : List Int,RV.flatL (tR t) = true
 | []=>rfl
 | x :: t=>by simp only [tR,List.map_cons,RV.flatL,RV.flatB,Bool.true_and]; exact flat_tR t
def SmallT (b : Int) (t : List Int) : Prop:=t.length = 10 ∧ ∀ x ∈ t,0 ≤ x ∧ x ≤ b
theorem incT_small {b : Int} {t : List Int} {i : Nat} (h : SmallT b t) (hb : 0 ≤ b) : SmallT (b + 1) (incT t i):=by
 refine ⟨by rw [incT_len]; exact h.1,fun x hx=>?_⟩
 rcases List.mem_or_eq_of_mem_set hx with h1 | h1
 · have:=h.2 x h1; omega
 · subst h1
   rw [List.getD_eq_getElem?_getD]
   cases e : t[i]? with
   | none=>simp; omega
   | some y=>have:=h.2 y (mem_of_opt e); simp; omega
theorem known1_ok (beds ds le mo : List Int) (hb : beds.length ≤ 10) (hd : ds.length ≤ 1000) : ICalls Try.prog true 92 [.rp [ints ds],.rp [.rp (sheetR beds le mo)]] (knownXs beds ds):=by
 refine icalls_st Try.func92 rfl (by kernel_rfl) Try.ntmps92 rfl (by simp) fun C ll=>?_
 repeat refine zq ?_
 refine zb (by kernel_rfl) fun K hK=>?_
 simp only [go_sem,argL]
 (try simp (disch:=omega) only [zI])
 repeat first | intro _ | refine ⟨by omega,?_⟩ | refine ⟨⟨by omega,by omega⟩,?_⟩
 refine hK _ ?_
 clear hK K
 refine zw (zk [0,1,2,4]) ?_
 simp only [go_sem]
 repeat refine zq ?_
 refine zb (by kernel_rfl) fun K hK=>?_
 simp only [go_sem]
 (try simp (disch:=omega) only [zI])
 intros
 repeat first | intro _ | refine ⟨by omega,?_⟩ | refine ⟨⟨by omega,by omega⟩,?_⟩
 refine hK _ ?_
 clear hK K
 refine zw (zk [0,2,4,8,9,10]) ?_
 simp only [go_sem]
 repeat refine zq ?_
 refine zd ?_
 refine awp_while (n:=31) (fun (y : Nat × List Int) vs=>[(0,.r (.yl ll)),(2,.r (.rp [.rp (sheetR beds le mo)])),(4,.pt 4 (vs 4) 0),(8,.r (ints ds)),(9,.r (i64 ds.length)),(10,.r (i64 y.1))])
  (fun y=>[(4,.box (tA y.2)),(999,.gh Try.prog ll true (some (knownXs beds ds)))]) (fun y=>y.1 ≤ ds.length ∧ SmallT y.1 y.2 ∧ tallyK beds zeroT ds = tallyK beds y.2 (ds.drop y.1)) (fun y=>ds.length - y.1) (0,zeroT) (fit_of [] ?_ ?_) ⟨Nat.zero_le _,⟨rfl,by decide⟩,rfl⟩ ?_
 · try simp only [go_sem]
 · try simp only [go_sem]
   rfl
 · rintro ⟨i,t⟩ vs ⟨hi,hs,hK⟩
   simp only at hi hs hK
   repeat refine zq ?_
   refine zb (by kernel_rfl) fun K hK=>?_
   simp only [go_sem]
   (try simp (disch:=omega) only [zI])
   repeat first | intro _ | refine ⟨by omega,?_⟩ | refine ⟨⟨by omega,by omega⟩,?_⟩
   refine hK _ ?_
   clear hK K
   refine zw (zk [0,2,4,8,9,10,11]) ?_
   simp only [go_sem]
   repeat refine zq ?_
   refine zc rfl (fun hc=>?_) (fun hc=>?_) <;> (try simp only [go_sem] at hc)
   · have hci : i < ds.length:=by first | exact hc | omega
     obtain ⟨d,hx⟩:=opt_of_lt hci
     rw [drop_of_opt hx,tallyK] at hK
     have hlt:=atE_lt d beds
     refine zx ?_
     try simp only [go_sem]
     repeat refine zq ?_
     refine zd ?_
     repeat refine zq ?_
     refine zb (by kernel_rfl) fun K hK=>?_
     simp only [go_sem,hx,hci]
     (try simp (disch:=omega) only [zI])
     repeat first | intro _ | refine ⟨by omega,?_⟩ | refine ⟨⟨by omega,by omega⟩,?_⟩
     refine hK _ ?_
     clear hK K
     refine zw (zk [0,2,4,6,8,9,10]) ?_
     simp only [go_sem]
     repeat refine zq ?_
     refine zb (by kernel_rfl) fun K hK=>?_
     simp only [go_sem]
     (try simp (disch:=omega) only [zI])
     refine zh (indexE_ok beds d) rfl (by simp only [go_sem,i64,ints]) (by simp only [go_sem,i64,ints]) (by first | exact .inl rfl | exact .inr rfl) ?_
     (try simp only [go_sem])
     (try simp (disch:=omega) only [zI])
     repeat first | intro _ | refine ⟨by omega,?_⟩ | refine ⟨⟨by omega,by omega⟩,?_⟩
     refine hK _ ?_
     clear hK K
     refine zw (zk [0,2,4,7,8,9,10]) ?_
     simp only [go_sem]
     by_cases hneg : atE beds d < 0
     · rw [if_pos hneg] at hK
       have hxs : knownXs beds ds = []:=by rw [knownXs,hK]
       have e1 : decide (atE beds d < 0) = true:=by simp [hneg]
       rw [hxs]
       repeat refine zq ?_
       refine zb (by kernel_rfl) fun K hK=>?_
       simp only [go_sem]
       (try simp (disch:=omega) only [zI])
       repeat first | intro _ | refine ⟨by omega,?_⟩ | refine ⟨⟨by omega,by omega⟩,?_⟩
       refine hK _ ?_
       clear hK K
       rw [e1]
       repeat refine zq ?_
       refine zc rfl (fun hc=>?_) (fun hc=>?_) <;> (try simp only [go_sem] at hc)
       refine ze ?_
       simp only [go_sem]
       exact ⟨_,_,.inl rfl⟩
     · rw [if_neg hneg] at hK
       have e1 : decide (atE beds d < 0) = false:=by simp; omega
       obtain ⟨j,hj⟩:=Int.eq_ofNat_of_zero_le (show 0 ≤ atE beds d by omega)
       rw [hj,Int.toNat_natCast] at hK
       have hjl : j < t.length:=by have:=hs.1; omega
       obtain ⟨x,hxj⟩:=opt_of_lt hjl
       have hsm:=hs.2 x (mem_of_opt hxj)
       have hinc : incT t j = t.set j (x + 1):=by simp [incT,List.getD_eq_getElem?_getD,hxj]
       have hd1:=tA_drop hxj
       have hset:=tA_set (y:=x + 1) hjl
       have hal:=tA_len t
       have hj10 : (j : Int) < 10:=by have:=hs.1; omega
       repeat refine zq ?_
       refine zb (by kernel_rfl) fun K hK=>?_
       simp only [go_sem]
       (try simp (disch:=omega) only [zI])
       repeat first | intro _ | refine ⟨by omega,?_⟩ | refine ⟨⟨by omega,by omega⟩,?_⟩
       refine hK _ ?_
       clear hK K
       rw [e1]
       repeat refine zq ?_
       refine zc rfl (fun hc=>?_) (fun hc=>?_) <;> (try simp only [go_sem] at hc)
       refine zx ?_
       try simp only [go_sem]
       rw [hj]
       repeat refine zq ?_
       refine zb (by kernel_rfl) fun K hK=>?_
       simp only [go_sem,Nat.mul_one,hd1,hal,List.headD_cons,List.length_cons]
       (try simp (disch:=omega) only [zI])
       repeat first | intro _ | refine ⟨by omega,?_⟩ | refine ⟨⟨by omega,by omega⟩,?_⟩
       refine hK _ ?_
       clear hK K
       rw [hset,← hinc]
       refine zw (zk [0,2,4,8,9,10]) ?_
       simp only [go_sem]
       repeat refine zq ?_
       refine zb (by kernel_rfl) fun K hK=>?_
       simp only [go_sem]
       (try simp (disch:=omega) only [zI])
       repeat first | intro _ | refine ⟨by omega,?_⟩ | refine ⟨⟨by omega,by omega⟩,?_⟩
       refine hK _ ?_
       clear hK K
       try simp only [go_sem]
       refine ⟨(i + 1,incT t j),⟨by omega,?_,hK⟩,by simp only; omega,fit_of [] ?_ ?_⟩
       · have:=incT_small (i:=j) hs (by omega)
         simpa using this
       · try simp only [go_sem]
       · try simp only [go_sem]
   · have hil : i = ds.length:=by omega
     subst hil
     rw [List.drop_length,tallyK] at hK
     have hxs : knownXs beds ds = [[.ag (tR t)]]:=by rw [knownXs,hK]
     rw [hxs]
     have htk : List.take 10 (tR t) = tR t:=List.take_of_length_le (by rw [List.length_map,hs.1]; exact Nat.le_refl _)
     have htl : (tR t).length = 10:=by rw [List.length_map,hs.1]
     refine zf ?_
     simp only [go_sem]
     refine zw (sub_frzP 4 4 (tR t) (by omega) rfl rfl) ?_
     refine zw (zk [0,4]) ?_
     simp only [go_sem]
     repeat refine zq ?_
     refine zb (by kernel_rfl) fun K hK=>?_
     simp only [go_sem,htk,htl,Nat.le_refl]
     (try simp (disch:=omega) only [zI])
     refine xcall_yield (z:=true) (e:=[.ag (tR t)]) (rest:=[]) (by simp only [go_sem]) rfl (by simp only [go_sem]) (.inl (by simp only [RV.flatL,RV.flatB,flat_tR,Bool.and_self])) ?_ ?_
     · simp only [go_sem]
       repeat first | intro _ | refine ⟨by omega,?_⟩ | refine ⟨⟨by omega,by omega⟩,?_⟩
       refine hK _ ?_
       clear hK K
       exact ⟨_,_,.inl rfl⟩
     · simp only [go_sem]
       repeat first | intro _ | refine ⟨by omega,?_⟩ | refine ⟨⟨by omega,by omega⟩,?_⟩
       refine hK _ ?_
       clear hK K
       exact ⟨_,_,.inr rfl⟩
theorem known_ok (u : Addr) (ds : List Int) : ACalls Try.prog 82 [.vl u,ints ds] (.fn 92 [.rp [ints ds],.rp [.vl u]]):=by
 refine acalls_st (rs:=[.fn 92 [.rp [ints ds],.rp [.vl u]]]) [.tmp 4] Try.func82 rfl (by kernel_rfl) Try.ntmps82 rfl (by simp) rfl fun C vs=>?_
 repeat refine zq ?_
 refine zb (by kernel_rfl) fun K hK=>?_
 simp only [go_sem]
 (try simp (disch:=omega) only [zI])
 repeat first | intro _ | refine ⟨by omega,?_⟩ | refine ⟨⟨by omega,by omega⟩,?_⟩
 refine hK _ ?_
 clear hK K
 refine zw (zk [2,3]) ?_
 simp only [go_sem]
 refine zw (sub_frzP 2 2 [.vl u] (by omega) rfl rfl) ?_
 refine zw (sub_frzP 3 3 [ints ds] (by omega) rfl rfl) ?_
 repeat refine zq ?_
 refine zb (by kernel_rfl) fun K hK=>?_
 simp only [go_sem]
 (try simp (disch:=omega) only [zI])
 repeat first | intro _ | refine ⟨by omega,?_⟩ | refine ⟨⟨by omega,by omega⟩,?_⟩
 refine hK _ ?_
 clear hK K
 refine ze ?_
 simp only [go_sem]
 simp [RV.le,leL_refl.le_refl,leL_refl]
theorem three_ok (u : Addr) (n : Int) : ACalls Try.prog 83 [.vl u,i64 n] (.fn 94 [.rp [.vl u],.rp [i64 n]]):=by
 refine acalls_st (rs:=[.fn 94 [.rp [.vl u],.rp [i64 n]]]) [.tmp 4] Try.func83 rfl (by kernel_rfl) Try.ntmps83 rfl (by simp) rfl fun C vs=>?_
 repeat refine zq ?_
 refine zb (by kernel_rfl) fun K hK=>?_
 simp only [go_sem]
 (try simp (disch:=omega) only [zI])
 repeat first | intro _ | refine ⟨by omega,?_⟩ | refine ⟨⟨by omega,by omega⟩,?_⟩
 refine hK _ ?_
 clear hK K
 refine zw (zk [2,3]) ?_
 simp only [go_sem]
 refine zw (sub_frzP 2 2 [.vl u] (by omega) rfl rfl) ?_
 refine zw (sub_frzP 3 3 [i64 n] (by omega) rfl rfl) ?_
 repeat refine zq ?_
 refine zb (by kernel_rfl) fun K hK=>?_
 simp only [go_sem]
 (try simp (disch:=omega) only [zI])
 repeat first | intro _ | refine ⟨by omega,?_⟩ | refine ⟨⟨by omega,by omega⟩,?_⟩
 refine hK _ ?_
 clear hK K
 refine ze ?_
 simp only [go_sem]
 simp [RV.le,leL_refl.le_refl,leL_refl]
end Go.Proofs.Ytgkejinoaommeaa

namespace Go.Proofs.Ytgkejinoaommeaa
open Go Go.Oc
set_option linter.unusedSimpArgs false
set_option linter.unusedVariables false
set_option maxRecDepth 8000
def shA (beds le mo : List Int) : List AV:=(sheetR beds le mo).map AV.r
theorem shA_len (beds le mo : List Int) : (shA beds le mo).length = 1 + le.length + mo.length:=by simp [shA,sheetR]; omega
theorem shA_eq (beds le mo : List Int) : shA beds le mo = AV.r (ints beds) :: (tA le ++ tA mo):=by simp [shA,sheetR]
theorem shA_drop1 {beds le mo : List Int} {k : Nat} {a : Int} (h : le[k]? = some a) : (shA beds le mo).drop (1 + k) = .r (RV.it .i64 a) :: (shA beds le mo).drop (1 + k + 1):=by
 refine drop_of_opt ?_
 have hk:=(List.getElem?_eq_some_iff.1 h).1
 rw [shA_eq,Nat.add_comm 1 k,List.getElem?_cons_succ,List.getElem?_append_left (by simpa using hk)]
 simp [h]
theorem shA_drop2 {beds le mo : List Int} {k : Nat} {a : Int} (hl : le.length = 10) (h : mo[k]? = some a) : (shA beds le mo).drop (11 + k) = .r (RV.it .i64 a) :: (shA beds le mo).drop (11 + k + 1):=by
 refine drop_of_opt ?_
 rw [shA_eq,show 11 + k = (10 + k) + 1 by omega,List.getElem?_cons_succ,List.getElem?_append_right (by simp; omega)]
 have : 10 + k - (tA le).length = k:=by rw [tA_len,hl]; omega
 rw [this]
 simp [h]
theorem set_split {α : Type} {l : List α} {i : Nat} {y : α} (h : i < l.length) : l.take i ++ (y :: l.drop (i + 1)) = l.set i y:=by
 rw [List.set_eq_take_append_cons_drop,if_pos h]
theorem shA_set1 {beds le mo : List Int} {k : Nat} {y : Int} (h : k < le.length) : (shA beds le mo).take (1 + k) ++ (AV.r (RV.it .i64 y) :: (shA beds le mo).drop (1 + k + 1)) = shA beds (le.set k y) mo:=by
 rw [set_split (by rw [shA_len]; omega),shA_eq,shA_eq,Nat.add_comm 1 k,List.set_cons_succ,List.set_append_left _ _ (by rw [tA_len]; exact h)]
 simp [List.map_set]
theorem shA_set2 {beds le mo : List Int} {k : Nat} {y : Int} (hl : le.length = 10) (h : k < mo.length) : (shA beds le mo).take (11 + k) ++ (AV.r (RV.it .i64 y) :: (shA beds le mo).drop (11 + k + 1)) = shA beds le (mo.set k y):=by
 rw [set_split (by rw [shA_len]; omega),shA_eq,shA_eq,show 11 + k = (10 + k) + 1 by omega,List.set_cons_succ,List.set_append_right _ _ (by rw [tA_len]; omega)]
 have : 10 + k - (tA le).length = k:=by rw [tA_len,hl]; omega
 rw [this]
 simp [List.map_set]
def leastT (b : Bool) (le t : List Int) : List Int:=if b then List.zipWith min le t else t
def mostT (mo t : List Int) : List Int:=List.zipWith max mo t
def accT (s : Bool × List Int × List Int) (t : List Int) : Bool × List Int × List Int:=(true,leastT s.1 s.2.1 t,mostT s.2.2 t)
def accL (xs : List (List Int)) : Bool × List Int × List Int:=xs.foldl accT (false,zeroT,zeroT)
def mixT (new old : List Int) (k : Nat) : List Int:=new.take k ++ old.drop k
theorem mix_get {new old : List Int} {k : Nat} (hn : new.length = 10) (ho : old.length = 10) (hk : k < 10) : (mixT new old k)[k]? = old[k]?:=by
 unfold mixT
 rw [List.getElem?_append_right (by rw [List.length_take]; omega),List.length_take,hn,show k - min k 10 = 0 by omega,List.getElem?_drop,Nat.add_zero]
theorem mix_set {new old : List Int} {k : Nat} {y : Int} (hn : new[k]? = some y) (hnl : new.length = 10) (ho : old.length = 10) (hk : k < 10) : (mixT new old k).set k y = mixT new old (k + 1):=by
 unfold mixT
 rw [List.set_append_right _ _ (by rw [List.length_take]; omega),List.length_take,hnl,show k - min k 10 = 0 by omega]
 obtain ⟨z,hz⟩:=opt_of_lt (l:=old) (i:=k) (by omega)
 rw [drop_of_opt hz,List.set_cons_zero,take_of_opt hn]
 simp
theorem mix_len {new old : List Int} {k : Nat} (hn : new.length = 10) (ho : old.length = 10) (hk : k ≤ 10) : (mixT new old k).length = 10:=by
 unfold mixT
 rw [List.length_append,List.length_take,List.length_drop]; omega
theorem leastT_len {b : Bool} {le t : List Int} (h1 : le.length = 10) (h2 : t.length = 10) : (leastT b le t).length = 10:=by
 unfold leastT; split
 · rw [List.length_zipWith]; omega
 · exact h2
theorem mostT_len {mo t : List Int} (h1 : mo.length = 10) (h2 : t.length = 10) : (mostT mo t).length = 10:=by
 unfold mostT; rw [List.length_zipWith]; omega
theorem mem_zipW {f : Int → Int → Int} {x : Int} : ∀ {l m : List Int},x ∈ List.zipWith f l m → ∃ a,a ∈ l ∧ ∃ b,b ∈ m ∧ x = f a b
 | [],_,h=>by simp at h
 | _ :: _,[],h=>by simp at h
 | a :: l, b :: m, h => by
   rw [List.zipWith_cons_cons] at h
   rcases List.mem_cons.1 h with h | h
   · exact ⟨a,by simp,b,by simp,h⟩
   · obtain ⟨a',h1,b',h2,h3⟩:=mem_zipW h
     exact ⟨a',by simp [h1],b',by simp [h2],h3⟩
theorem accL_snoc (xs : List (List Int)) (t : List Int) : accL (xs ++ [t]) = accT (accL xs) t:=by simp [accL]
theorem accT_small {b : Int} {s : Bool × List Int × List Int} {t : List Int} (ht : SmallT b t) (h1 : SmallT b s.2.1) (h2 : SmallT b s.2.2) : SmallT b (accT s t).2.1 ∧ SmallT b (accT s t).2.2:=by
 refine ⟨⟨leastT_len h1.1 ht.1,fun x hx=>?_⟩,mostT_len h2.1 ht.1,fun x hx=>?_⟩
 · simp only [accT,leastT] at hx
   split at hx
   · obtain ⟨y,hy,z,hz,rfl⟩:=mem_zipW hx
     have:=h1.2 y hy
     have:=ht.2 z hz
     omega
   · exact ht.2 x hx
 · simp only [accT,mostT] at hx
   obtain ⟨y,hy,z,hz,rfl⟩:=mem_zipW hx
   have:=h2.2 y hy
   have:=ht.2 z hz
   omega
theorem zeroT_small {b : Int} (hb : 0 ≤ b) : SmallT b zeroT:=⟨rfl,fun x hx=>by
 have : x = 0:=by simpa using hx
 omega⟩
theorem accL_small {b : Int} (hb : 0 ≤ b) : ∀ (xs : List (List Int)),(∀ t ∈ xs,SmallT b t) → SmallT b (accL xs).2.1 ∧ SmallT b (accL xs).2.2:=by
 have gen : ∀ (xs : List (List Int)) (s : Bool × List Int × List Int),(∀ t ∈ xs,SmallT b t) → SmallT b s.2.1 → SmallT b s.2.2 → SmallT b (xs.foldl accT s).2.1 ∧ SmallT b (xs.foldl accT s).2.2:=by
  intro xs
  induction xs with
  | nil=>intro s _ h1 h2; exact ⟨h1,h2⟩
  | cons t xs ih =>
    intro s h h1 h2
    obtain ⟨g1,g2⟩:=accT_small (s:=s) (h t (by simp)) h1 h2
    exact ih (accT s t) (fun y hy=>h y (by simp [hy])) g1 g2
 exact fun xs h=>gen xs _ h (zeroT_small hb) (zeroT_small hb)
theorem accL_some (xs : List (List Int)) : (accL xs).1 = !xs.isEmpty:=by
 rcases List.eq_nil_or_concat xs with rfl | ⟨l,x,rfl⟩
 · rfl
 · rw [List.concat_eq_append,accL_snoc]; simp [accT]
theorem frzPL_r (ks : List (Nat × RowC)) (rows : Nat → Row) : ∀ l : List RV,frzPL ks rows (l.map AV.r)
 | []=>trivial
 | x :: l=>⟨trivial,frzPL_r ks rows l⟩
theorem frzL_r (ks : List (Nat × RowC)) (rows : Nat → Row) : ∀ l : List RV,frzL ks rows (l.map AV.r) = l.map AV.r
 | []=>rfl
 | x :: l=>by simp only [List.map_cons,frzL,frz1,frzL_r ks rows l]
def addT (a b : List Int) : List Int:=List.zipWith (· + ·) a b
set_option maxHeartbeats 1000000
theorem add_ok (u : Addr) (beds le mo : List Int) (f : Nat) (caps args : List RV) (xs : List (List Int)) (hle : SmallT 3000 le) (hmo : SmallT 3000 mo) (hxs : ∀ t ∈ xs,SmallT 3 t)
 (hI : ICalls Try.prog true f args (xs.map fun t=>[.ag (tR t)]))
 (hcap : ∀ (w : World) (p : Plan) (ver : Nat → Nat) (R' : Nat → Prop) (vals : List Value),AV.relV w p ver (caps.map .r) vals → RV.rel w R' (.rp (sheetR beds le mo)) (.pointer (some u)) → (∀ b,p.R b → R' b) → RV.relV w R' args vals) :
 MCalls Try.prog 84 [(1000,.box (shA beds le mo))] [(1000,.box (shA beds (addT le (accL xs).2.1) (addT mo (accL xs).2.2)))] [.pu 1000 0 u,.r (.fn f caps)] (.r (.bo (!xs.isEmpty))):=by
 refine mcalls_stO (n:=73) (rs:=[.r (.bo (!xs.isEmpty))]) _ _ [.cell 4 4] Try.func84 rfl (by kernel_rfl) Try.ntmps84 rfl (by simp) rfl rfl fun C hC=>?_
 repeat refine zq ?_
 refine zb (by kernel_rfl) fun K hK=>?_
 simp only [go_sem]
 (try simp (disch:=omega) only [zI])
 repeat first | intro _ | refine ⟨by omega,?_⟩ | refine ⟨⟨by omega,by omega⟩,?_⟩
 refine hK _ ?_
 clear hK K
 refine zw (zk [0,1,4]) ?_
 simp only [go_sem]
 repeat refine zq ?_
 refine zb (by kernel_rfl) fun K hK=>?_
 simp only [go_sem]
 (try simp (disch:=omega) only [zI])
 repeat first | intro _ | refine ⟨by omega,?_⟩ | refine ⟨⟨by omega,by omega⟩,?_⟩
 refine hK _ ?_
 clear hK K
 refine zw (zk [0,1,4,5,6]) ?_
 simp only [go_sem]
 repeat refine zq ?_
 refine zb (by kernel_rfl) fun K hK=>?_
 simp only [go_sem]
 (try simp (disch:=omega) only [zI])
 repeat first | intro _ | refine ⟨by omega,?_⟩ | refine ⟨⟨by omega,by omega⟩,?_⟩
 refine hK _ ?_
 clear hK K
 refine zw (zk [0,4,5,6,11]) ?_
 simp only [go_sem]
 repeat refine zq ?_
 refine zd ?_
 repeat refine zq ?_
 refine awp_rangeK ⟨hC.1,hC.2.1⟩ 1000 0 u rfl (by omega) (hC.2.2 1000 rfl) (sheetR beds le mo) (by intro j hj; simp only [upd]; (repeat' split); all_goals first | rfl | omega) rfl (cf:=caps.map .r) (xs.map fun t=>[.ag (tR t)]) hI [0,4,5,6,11] (by decide)
  (fun vs=>[(0,.r (.vl u)),(4,.pt 4 (vs 4) 0),(5,.pt 5 (vs 5) 0),(6,.pt 6 (vs 6) 0),(11,.r (.fn f caps))])
  (fun i vs=>[(4,.box [.r (.bo (!(xs.take i).isEmpty))]),(5,.box (tA (accL (xs.take i)).2.1)),(6,.box (tA (accL (xs.take i)).2.2))]) (fun _=>True) (fun us=>?_) trivial (fun _=>rfl) (fun _=>rfl) (fun _=>rfl) hcap (fun _ _=>rfl) (by simp) ?_ ?_ ?_
 · refine fitW_of (n:=73) (F:=fun vs=>[(0,.r (.vl u)),(4,.pt 4 (vs 4) 0),(5,.pt 5 (vs 5) 0),(6,.pt 6 (vs 6) 0),(11,.r (.fn f caps))])
    (R:=fun vs=>insc [(4,.box [.r (.bo (!(xs.take 0).isEmpty))]),(5,.box (tA (accL (xs.take 0)).2.1)),(6,.box (tA (accL (xs.take 0)).2.2))] 1000 (.sus ((sheetR beds le mo).map .r) us)) [] (by intro j hj; simp only [upd]; (repeat' split); all_goals first | rfl | omega) ?_ ?_
   · simp only [List.map_cons,List.map_nil,AV.park,AV.parkL,if_true,if_false,Nat.reduceEqDiff]
     try simp only [go_sem]
   · simp only [List.map_cons,List.map_nil,RowC.park,AV.park,AV.parkL]
     try simp only [go_sem]
     rfl
 · intro e he
   obtain ⟨t,_,rfl⟩:=List.mem_map.1 he
   rfl
 · intro i e vs us usp C' he _ hvl
   obtain ⟨t,ht,rfl⟩ : ∃ t,xs[i]? = some t ∧ e = [.ag (tR t)]:=by
    rw [List.getElem?_map] at he
    cases hx : xs[i]? with
    | none=>rw [hx] at he; cases he
    | some t=>rw [hx] at he; injection he with he; exact ⟨t,rfl,he.symm⟩
   have hts:=hxs t (mem_of_opt ht)
   obtain ⟨al,am⟩:=accL_small (b:=3) (by omega) (xs.take i) (fun t ht=>hxs t (List.mem_of_mem_take ht))
   have hsn : xs.take (i + 1) = xs.take i ++ [t]:=take_of_opt ht
   have hacc : accL (xs.take (i + 1)) = accT (accL (xs.take i)) t:=by rw [hsn,accL_snoc]
   have hsm:=accL_some (xs.take i)
   have hne : (xs.take (i + 1)).isEmpty = false:=by rw [hsn]; simp
   rw [hacc,hne]
   rw [← hsm]
   generalize accL (xs.take i) = S at *
   obtain ⟨b,ol,om⟩:=S
   simp only [accT] at *
   have htk : List.take 10 (tR t) = tR t:=List.take_of_length_le (by rw [List.length_map,hts.1]; exact Nat.le_refl _)
   have htl : (tR t).length = 10:=by rw [List.length_map,hts.1]
   have hol : ol.length = 10:=al.1
   have hom : om.length = 10:=am.1
   have hll : (leastT b ol t).length = 10:=leastT_len hol hts.1
   have hml : (mostT om t).length = 10:=mostT_len hom hts.1
   try simp only [go_sem]
   repeat refine zq ?_
   refine zb (by kernel_rfl) fun K hK=>?_
   simp only [go_sem]
   (try simp (disch:=omega) only [zI])
   refine ⟨hts.1,?_⟩
   repeat first | intro _ | refine ⟨by omega,?_⟩ | refine ⟨⟨by omega,by omega⟩,?_⟩
   refine hK _ ?_
   clear hK K
   refine ⟨rfl,fun C''=>?_⟩
   refine zw (sub_frzP 7 7 (tR t) (by omega) rfl rfl) ?_
   refine zw (zk [4,5,6,7]) ?_
   simp only [go_sem]
   repeat refine zq ?_
   refine zd ?_
   repeat refine zq ?_
   refine zb (by kernel_rfl) fun K hK=>?_
   simp only [go_sem,htk,htl,Nat.le_refl]
   (try simp (disch:=omega) only [zI])
   repeat first | intro _ | refine ⟨by omega,?_⟩ | refine ⟨⟨by omega,by omega⟩,?_⟩
   refine hK _ ?_
   clear hK K
   refine zw (zk [4,5,6,13,14]) ?_
   simp only [go_sem]
   repeat refine zq ?_
   refine zd ?_
   refine awp_uptoW (n:=73) 10 (fun k vs=>[(4,.pt 4 (vs 4) 0),(5,.pt 5 (vs 5) 0),(6,.pt 6 (vs 6) 0),(13,.r (.ag (tR t))),(14,.r (i64 k))])
    (fun k vs=>[(0,.sus [.r (.vl u),.pt 4 (vs 4) 0,.pt 5 (vs 5) 0,.pt 6 (vs 6) 0,.r (.fn f caps)] us),(4,.box [.r (.bo b)]),(5,.box (tA (mixT (leastT b ol t) ol k))),(6,.box (tA (mixT (mostT om t) om k))),(1000,.sus (AV.r (ints beds) :: List.map AV.r (tR le ++ tR mo)) usp)])
    (fun _=>True) 0 (fitW_of [7] (by intro j hj; simp only [upd]; (repeat' split); all_goals first | rfl | omega | exact hvl _ hj) ?_ ?_) (Nat.zero_le _) trivial ?_
   · try simp only [go_sem]
   · try simp only [go_sem]
     simp [mixT,killC,delc]
   · intro k vs hvl hk _
     repeat refine zq ?_
     refine zb (by kernel_rfl) fun K hK=>?_
     simp only [go_sem]
     (try simp (disch:=omega) only [zI])
     repeat first | intro _ | refine ⟨by omega,?_⟩ | refine ⟨⟨by omega,by omega⟩,?_⟩
     refine hK _ ?_
     clear hK K
     refine zw (zk [4,5,6,13,14,15]) ?_
     simp only [go_sem]
     repeat refine zq ?_
     refine zc rfl (fun hc=>?_) (fun hc=>?_) <;> (try simp only [go_sem] at hc)
     · have hck : k < 10:=by first | exact hc | omega
       obtain ⟨x,hx⟩:=opt_of_lt (l:=t) (i:=k) (by rw [hts.1]; omega)
       obtain ⟨y,hy⟩:=opt_of_lt (l:=ol) (i:=k) (by omega)
       obtain ⟨z,hz⟩:=opt_of_lt (l:=om) (i:=k) (by omega)
       have hxs1:=hts.2 x (mem_of_opt hx)
       have hys1:=al.2 y (mem_of_opt hy)
       have hzs1:=am.2 z (mem_of_opt hz)
       have hnm : (mostT om t)[k]? = some (max z x):=by simp [mostT,List.getElem?_zipWith,hz,hx]
       have hMg : (mixT (mostT om t) om k)[k]? = some z:=(mix_get hml hom hck).trans hz
       have hMl : (mixT (mostT om t) om k).length = 10:=mix_len hml hom hk
       have hMs:=mix_set hnm hml hom hck
       have hLg : (mixT (leastT b ol t) ol k)[k]? = some y:=(mix_get hll hol hck).trans hy
       have hLl : (mixT (leastT b ol t) ol k).length = 10:=mix_len hll hol hk
       have hdr : List.drop k (tR t) = i64 x :: List.drop (k + 1) (tR t):=drop_of_opt (by simp [hx])
       have hk10 : (k : Int) < 10:=by omega
       have hdM:=tA_drop hMg
       have hsM:=tA_set (t:=mixT (mostT om t) om k) (i:=k) (y:=max z x) (by omega)
       rw [hMs] at hsM
       have htl2 : (tR t).length = 10:=htl
       generalize hM : mixT (mostT om t) om k = MK at *
       have hMA:=tA_len MK
       have hns : (leastT b ol t)[k]? = some (if b then min y x else x):=by
        cases b
        · simpa [leastT] using hx
        · simp [leastT,List.getElem?_zipWith,hy,hx]
       have hLs:=mix_set hns hll hol hck
       generalize hL : mixT (leastT b ol t) ol k = LK at *
       have hdL:=tA_drop hLg
       have hLA:=tA_len LK
       refine zx ?_
       try simp only [go_sem]
       repeat refine zq ?_
       refine zd ?_
       repeat refine zq ?_
       refine zb (by kernel_rfl) fun K hK=>?_
       simp only [go_sem,Nat.mul_one,hdr,htl,List.headD_cons]
       (try simp (disch:=omega) only [zI])
       repeat first | intro _ | refine ⟨by omega,?_⟩ | refine ⟨⟨by omega,by omega⟩,?_⟩
       refine hK _ ?_
       clear hK K
       refine zw (zk [4,5,6,8,9,13,14]) ?_
       simp only [go_sem]
       repeat refine zq ?_
       refine zb (by kernel_rfl) fun K hK=>?_
       simp only [go_sem]
       (try simp (disch:=omega) only [zI])
       repeat first | intro _ | refine ⟨by omega,?_⟩ | refine ⟨⟨by omega,by omega⟩,?_⟩
       refine hK _ ?_
       clear hK K
       refine zw (zk [4,5,6,8,9,13,14,19]) ?_
       simp only [go_sem]
       cases b
       · have hLx:=hLs
         simp only [Bool.false_eq_true,if_false] at hLx
         have hs0:=tA_set (t:=LK) (i:=k) (y:=x) (by omega)
         have hg2 : (LK.set k x)[k]? = some x:=by rw [List.getElem?_set,if_pos rfl,if_pos (by omega)]
         have hd2:=tA_drop hg2
         have hl2:=tA_len (LK.set k x)
         have hl3 : (LK.set k x).length = 10:=by rw [List.length_set]; exact hLl
         have hs2:=tA_set (t:=LK.set k x) (i:=k) (y:=x) (by omega)
         rw [List.set_set,hLx] at hs2
         repeat refine zq ?_
         refine zc rfl (fun hc=>?_) (fun hc=>?_) <;> (try simp only [go_sem] at hc)
         repeat refine zq ?_
         refine zb (by kernel_rfl) fun K hK=>?_
         simp only [go_sem,Nat.mul_one,hLA]
         (try simp (disch:=omega) only [zI])
         repeat first | intro _ | refine ⟨by omega,?_⟩ | refine ⟨⟨by omega,by omega⟩,?_⟩
         refine hK _ ?_
         clear hK K
         rw [hs0]
         refine zw (zk [4,5,6,8,9,13,14]) ?_
         simp only [go_sem]
         repeat refine zq ?_
         refine awp_dreg2 [(5,some 5),(6,some 6)] follows (by decide +kernel) (by kernel_rfl) (by simp only [keysOk,List.mem_cons,List.not_mem_nil,forall_eq_or_imp,Oc.keyOf,go_sem]; simp) fun K hK=>?_
         simp only [go_sem,Nat.mul_one,hd2,hdM,hl2,hMA,List.headD_cons,List.length_cons,Int.min_self]
         (try simp (disch:=omega) only [zI])
         repeat first | intro _ | refine ⟨by omega,?_⟩ | refine ⟨⟨by omega,by omega⟩,?_⟩
         refine hK _ ?_
         clear hK K
         rw [hLx,hs2,hsM]
         refine zw (zk [4,5,6,13,14]) ?_
         simp only [go_sem]
         repeat refine zq ?_
         refine zb (by kernel_rfl) fun K hK=>?_
         simp only [go_sem]
         (try simp (disch:=omega) only [zI])
         repeat first | intro _ | refine ⟨by omega,?_⟩ | refine ⟨⟨by omega,by omega⟩,?_⟩
         refine hK _ ?_
         clear hK K
         try simp only [go_sem]
         refine ⟨hck,fitW_of [] (by first | exact hvl | (intro j hj; simp only [upd]; (repeat' split); all_goals first | rfl | omega | exact hvl _ hj)) ?_ ?_⟩
         · try simp only [go_sem]
         · try simp only [go_sem]
       · have hLx:=hLs
         simp only [if_true] at hLx
         have hs2:=tA_set (t:=LK) (i:=k) (y:=min y x) (by omega)
         rw [hLx] at hs2
         repeat refine zq ?_
         refine zc rfl (fun hc=>?_) (fun hc=>?_) <;> (try simp only [go_sem] at hc)
         refine zx ?_
         try simp only [go_sem]
         repeat refine zq ?_
         refine awp_dreg2 [(5,some 5),(6,some 6)] follows (by decide +kernel) (by kernel_rfl) (by simp only [keysOk,List.mem_cons,List.not_mem_nil,forall_eq_or_imp,Oc.keyOf,go_sem]; simp) fun K hK=>?_
         simp only [go_sem,Nat.mul_one,hdL,hdM,hLA,hMA,List.headD_cons,List.length_cons]
         (try simp (disch:=omega) only [zI])
         repeat first | intro _ | refine ⟨by omega,?_⟩ | refine ⟨⟨by omega,by omega⟩,?_⟩
         refine hK _ ?_
         clear hK K
         rw [hs2,hsM]
         refine zw (zk [4,5,6,13,14]) ?_
         simp only [go_sem]
         repeat refine zq ?_
         refine zb (by kernel_rfl) fun K hK=>?_
         simp only [go_sem]
         (try simp (disch:=omega) only [zI])
         repeat first | intro _ | refine ⟨by omega,?_⟩ | refine ⟨⟨by omega,by omega⟩,?_⟩
         refine hK _ ?_
         clear hK K
         try simp only [go_sem]
         refine ⟨hck,fitW_of [] (by first | exact hvl | (intro j hj; simp only [upd]; (repeat' split); all_goals first | rfl | omega | exact hvl _ hj)) ?_ ?_⟩
         · try simp only [go_sem]
         · try simp only [go_sem]
     · have hk10 : k = 10:=by omega
       subst hk10
       have e1 : mixT (leastT b ol t) ol 10 = leastT b ol t:=by
        unfold mixT
        rw [List.take_of_length_le (by omega),List.drop_of_length_le (by omega),List.append_nil]
       have e2 : mixT (mostT om t) om 10 = mostT om t:=by
        unfold mixT
        rw [List.take_of_length_le (by omega),List.drop_of_length_le (by omega),List.append_nil]
       rw [e1,e2]
       refine zf ?_
       simp only [go_sem]
       repeat refine zq ?_
       refine zb (by kernel_rfl) fun K hK=>?_
       simp only [go_sem]
       (try simp (disch:=omega) only [zI])
       repeat first | intro _ | refine ⟨by omega,?_⟩ | refine ⟨⟨by omega,by omega⟩,?_⟩
       refine hK _ ?_
       clear hK K
       try simp only [go_sem]
       refine ⟨vs,hvl,?_⟩
       exact sub_look _ (allEq_mem (by simp only [go_sem]))
 · intro vs us hvl _
   have e0 : (AV.r (ints beds) :: List.map AV.r (tR le ++ tR mo)) = shA beds le mo:=(shA_eq beds le mo ▸ by simp)
   have hlen : (xs.map fun t=>[RV.ag (tR t)]).length = xs.length:=List.length_map _
   obtain ⟨al,am⟩:=accL_small (b:=3) (by omega) xs hxs
   have hsm:=accL_some xs
   rw [hlen,List.take_length]
   generalize accL xs = S at *
   obtain ⟨b,ol,om⟩:=S
   simp only at *
   rw [← hsm]
   try simp only [go_sem]
   rw [e0]
   refine zw (sub_wake rfl) ?_
   refine zw (sub_unname 0 rfl) ?_
   refine zw (sub_frzP 5 5 (tR ol) (by omega) rfl rfl) ?_
   refine zw (sub_frzP 6 6 (tR om) (by omega) rfl rfl) ?_
   refine zw (zk [0,4,5,6]) ?_
   simp only [go_sem]
   repeat refine zq ?_
   refine zb (by kernel_rfl) fun K hK=>?_
   simp only [go_sem]
   (try simp (disch:=omega) only [zI])
   repeat first | intro _ | refine ⟨by omega,?_⟩ | refine ⟨⟨by omega,by omega⟩,?_⟩
   refine hK _ ?_
   clear hK K
   refine zw (zk [0,4,5,6,38]) ?_
   simp only [go_sem]
   repeat refine zq ?_
   refine zd ?_
   have hol : ol.length = 10:=al.1
   have hom : om.length = 10:=am.1
   have hlel : le.length = 10:=hle.1
   have hmol : mo.length = 10:=hmo.1
   have hal : (addT le ol).length = 10:=by unfold addT; rw [List.length_zipWith]; omega
   have haml : (addT mo om).length = 10:=by unfold addT; rw [List.length_zipWith]; omega
   refine awp_upto0 (n:=73) 10 (fun k vs=>[(0,.pt 1000 0 0),(4,.pt 4 (vs 4) 0),(5,.r (.rp (tR ol))),(6,.r (.rp (tR om))),(38,.r (i64 k))])
    (fun k=>[(4,.box [.r (.bo b)]),(1000,.box (shA beds (mixT (addT le ol) le k) (mixT (addT mo om) mo k)))]) (fun _=>True) 0 (fit0_of [] (by intro j hj; simp only [upd]; (repeat' split); all_goals first | rfl | omega | exact hvl _ hj) ?_ ?_) (Nat.zero_le _) trivial ?_
   · try simp only [go_sem]
   · try simp only [go_sem]
     simp [mixT]
   · intro k vs hvl hk _
     have hv0:=hvl 1000 (by omega)
     repeat refine zq ?_
     refine zb (by kernel_rfl) fun K hK=>?_
     simp only [go_sem]
     (try simp (disch:=omega) only [zI])
     repeat first | intro _ | refine ⟨by omega,?_⟩ | refine ⟨⟨by omega,by omega⟩,?_⟩
     refine hK _ ?_
     clear hK K
     refine zw (zk [0,4,5,6,38,39]) ?_
     simp only [go_sem]
     repeat refine zq ?_
     refine zc rfl (fun hc=>?_) (fun hc=>?_) <;> (try simp only [go_sem] at hc)
     · have hck : k < 10:=by first | exact hc | omega
       obtain ⟨x,hx⟩:=opt_of_lt (l:=ol) (i:=k) (by omega)
       obtain ⟨y,hy⟩:=opt_of_lt (l:=om) (i:=k) (by omega)
       obtain ⟨a,ha⟩:=opt_of_lt (l:=le) (i:=k) (by omega)
       obtain ⟨c,hcc⟩:=opt_of_lt (l:=mo) (i:=k) (by omega)
       have b1:=al.2 x (mem_of_opt hx)
       have b2:=am.2 y (mem_of_opt hy)
       have b3:=hle.2 a (mem_of_opt ha)
       have b4:=hmo.2 c (mem_of_opt hcc)
       have hk10 : (k : Int) < 10:=by omega
       have n1 : (addT le ol)[k]? = some (a + x):=by simp [addT,List.getElem?_zipWith,ha,hx]
       have n2 : (addT mo om)[k]? = some (c + y):=by simp [addT,List.getElem?_zipWith,hcc,hy]
       have g1 : (mixT (addT le ol) le k)[k]? = some a:=(mix_get hal hlel hck).trans ha
       have g2 : (mixT (addT mo om) mo k)[k]? = some c:=(mix_get haml hmol hck).trans hcc
       have l1 : (mixT (addT le ol) le k).length = 10:=mix_len hal hlel hk
       have l2 : (mixT (addT mo om) mo k).length = 10:=mix_len haml hmol hk
       have s1:=mix_set n1 hal hlel hck
       have s2:=mix_set n2 haml hmol hck
       generalize mixT (addT le ol) le k = LK at *
       generalize mixT (addT mo om) mo k = MK at *
       have d1:=shA_drop1 (beds:=beds) (mo:=MK) g1
       have d2:=shA_drop2 (beds:=beds) l1 g2
       have t1:=shA_set1 (beds:=beds) (mo:=MK) (y:=a + x) (show k < LK.length by omega)
       rw [s1] at t1
       have l3 : (mixT (addT le ol) le (k + 1)).length = 10:=mix_len hal hlel (by omega)
       have d3:=shA_drop2 (beds:=beds) l3 g2
       have t2:=shA_set2 (beds:=beds) (le:=mixT (addT le ol) le (k + 1)) (mo:=MK) (k:=k) (y:=c + y) l3 (by omega)
       rw [s2] at t2
       have dx : List.drop k (tR ol) = i64 x :: List.drop (k + 1) (tR ol):=drop_of_opt (by simp [hx])
       have dy : List.drop k (tR om) = i64 y :: List.drop (k + 1) (tR om):=drop_of_opt (by simp [hy])
       have hL1:=shA_len beds LK MK
       have hL2:=shA_len beds (mixT (addT le ol) le (k + 1)) MK
       refine zx ?_
       try simp only [go_sem]
       repeat refine zq ?_
       refine zd ?_
       repeat refine zq ?_
       refine zb (by kernel_rfl) fun K hK=>?_
       simp only [go_sem]
       (try simp (disch:=omega) only [zI])
       repeat first | intro _ | refine ⟨by omega,?_⟩ | refine ⟨⟨by omega,by omega⟩,?_⟩
       refine hK _ ?_
       clear hK K
       refine zw (zk [0,4,5,6,10,38]) ?_
       simp only [go_sem]
       repeat refine zq ?_
       refine awp_dreg2 [(0,some 1000),(5,none),(6,none)] follows (by decide +kernel) (by kernel_rfl) (by simp only [keysOk,List.mem_cons,List.not_mem_nil,forall_eq_or_imp,Oc.keyOf,go_sem]; simp) fun K hK=>?_
       simp only [go_sem,Nat.mul_one,hv0,d1,d2,d3,dx,dy,t1,t2,hL1,hL2,l1,l2,l3,List.headD_cons,List.length_cons,Nat.zero_add]
       (try simp (disch:=omega) only [zI])
       simp only [t1,t2,hL2,l3,l2]
       repeat first | intro _ | refine ⟨by omega,?_⟩ | refine ⟨⟨by omega,by omega⟩,?_⟩
       refine hK _ ?_
       clear hK K
       refine zw (zk [0,4,5,6,38]) ?_
       simp only [go_sem]
       repeat refine zq ?_
       refine zb (by kernel_rfl) fun K hK=>?_
       simp only [go_sem]
       (try simp (disch:=omega) only [zI])
       repeat first | intro _ | refine ⟨by omega,?_⟩ | refine ⟨⟨by omega,by omega⟩,?_⟩
       refine hK _ ?_
       clear hK K
       try simp only [go_sem]
       refine ⟨hck,fit0_of [] (by first | exact hvl | (intro j hj; simp only [upd]; (repeat' split); all_goals first | rfl | omega | exact hvl _ hj)) ?_ ?_⟩
       · try simp only [go_sem]
       · try simp only [go_sem]
     · have hk10 : k = 10:=by omega
       subst hk10
       have e1 : mixT (addT le ol) le 10 = addT le ol:=by
        unfold mixT
        rw [List.take_of_length_le (by omega),List.drop_of_length_le (by omega),List.append_nil]
       have e2 : mixT (addT mo om) mo 10 = addT mo om:=by
        unfold mixT
        rw [List.take_of_length_le (by omega),List.drop_of_length_le (by omega),List.append_nil]
       rw [e1,e2]
       refine zf ?_
       simp only [go_sem]
       repeat refine zq ?_
       refine zb (by kernel_rfl) fun K hK=>?_
       simp only [go_sem]
       (try simp (disch:=omega) only [zI])
       repeat first | intro _ | refine ⟨by omega,?_⟩ | refine ⟨⟨by omega,by omega⟩,?_⟩
       refine hK _ ?_
       clear hK K
       refine ze ?_
       simp only [go_sem]
       exact ⟨frzPL_r _ _ _,congrArg RowC.box (frzL_r _ _ _)⟩
end Go.Proofs.Ytgkejinoaommeaa

/- Part 8 of the texts of this claim. -/
import Derived.Test.YtgkejinoaommeaaVC7
namespace Go.Proofs.Ytgkejinoaommeaa
open Go Go.Oc
set_option linter.unusedSimpArgs false
set_option linter.unusedVariables false
set_option maxRecDepth 8000
def aimAt (l : List Am) (i : Int) : Am:=(l[i.toNat]?).getD ⟨0,[]⟩
def pickE (d : Int) (l : List Am) (i : Int) (vals : List Int) : Int :=
 if checkV d l ≠ 0 then checkV d l
 else if ¬ (0 ≤ i ∧ i < l.length) then 7
 else if vals.length ≠ (aimAt l i).beds.length then 4
 else if withinL (-1000000000000) 1000000000000 vals = false then 2 else 0
theorem zero_chk {d : Int} {l : List Am} (h : checkV d l = 0) : (1 ≤ d ∧ d ≤ 3000) ∧ ∀ a ∈ l,a.beds.length ≤ 10 ∧ chOk d a.beds = true ∧ loS a.beds ≤ d:=by
 obtain ⟨_,h2,_,h4,h5⟩:=checkV_zero h
 refine ⟨h4,fun a ha=>?_⟩
 obtain ⟨_,_,_,k4,k5,_⟩:=aimOk_facts (h5 a ha)
 exact ⟨h2 a ha,k4,k5⟩
theorem pick_ok (d : Int) (l : List Am) (i : Int) (vals : List Int) (hw : WfL d l) : ACalls Try.prog 64 [lawV d l,i64 i,ints vals] (.tu [if pickE d l i vals = 0 then chV (aimAt l i) d else .ag [i64 0,.ns,i64 0],i64 (pickE d l i vals)]):=by
 refine acalls_st (rs:=[if pickE d l i vals = 0 then chV (aimAt l i) d else .ag [i64 0,.ns,i64 0],i64 (pickE d l i vals)]) [.cell 6 96,.tmp 7] Try.func64 rfl (by kernel_rfl) Try.ntmps64 rfl (by simp) rfl fun C vs=>?_
 repeat refine zq ?_
 refine zb (by kernel_rfl) fun K hK=>?_
 simp only [go_sem]
 (try simp (disch:=omega) only [zI])
 repeat first | intro _ | refine ⟨by omega,?_⟩ | refine ⟨⟨by omega,by omega⟩,?_⟩
 refine hK _ ?_
 clear hK K
 repeat refine zq ?_
 refine zb (by kernel_rfl) fun K hK=>?_
 simp only [go_sem]
 (try simp (disch:=omega) only [zI])
 refine zh (check_ok d l hw) rfl (by simp only [go_sem,i64,ints]) (by simp only [go_sem,i64,ints]) (by first | exact .inl rfl | exact .inr rfl) ?_
 (try simp only [go_sem])
 (try simp (disch:=omega) only [zI])
 repeat first | intro _ | refine ⟨by omega,?_⟩ | refine ⟨⟨by omega,by omega⟩,?_⟩
 refine hK _ ?_
 clear hK K
 refine zw (zk [1,2,3,6,7,8]) ?_
 simp only [go_sem]
 repeat refine zq ?_
 refine zd ?_
 repeat refine zq ?_
 refine zb (by kernel_rfl) fun K hK=>?_
 simp only [go_sem]
 (try simp (disch:=omega) only [zI])
 repeat first | intro _ | refine ⟨by omega,?_⟩ | refine ⟨⟨by omega,by omega⟩,?_⟩
 refine hK _ ?_
 clear hK K
 refine zw (zk [1,2,3,6,7,8,11]) ?_
 simp only [go_sem]
 cases hE : checkV d l != 0
 case true =>
  have hne : checkV d l ≠ 0:=by simpa using hE
  repeat refine zq ?_
  refine zc rfl (fun hc=>?_) (fun hc=>?_) <;> (try simp only [go_sem] at hc)
  repeat refine zq ?_
  refine zb (by kernel_rfl) fun K hK=>?_
  simp only [go_sem]
  (try simp (disch:=omega) only [zI])
  repeat first | intro _ | refine ⟨by omega,?_⟩ | refine ⟨⟨by omega,by omega⟩,?_⟩
  refine hK _ ?_
  clear hK K
  refine ze ?_
  simp only [go_sem]
  simp [pickE,hne,leL_refl.le_refl]
 have h0 : checkV d l = 0:=by simpa using hE
 repeat refine zq ?_
 refine zc rfl (fun hc=>?_) (fun hc=>?_) <;> (try simp only [go_sem] at hc)
 repeat refine zq ?_
 refine zb (by kernel_rfl) fun K hK=>?_
 simp only [go_sem]
 (try simp (disch:=omega) only [zI])
 intro hl19
 have hw1 : IntKind.i64.wrap ((l.length : Int) - 1) = (l.length : Int) - 1:=by rw [zI] <;> omega
 refine zh (within_ok 0 ((l.length : Int) - 1) [i]) rfl (by simp only [go_sem,i64,ints,hw1]) (by simp only [go_sem,i64,ints,hw1]) (by first | exact .inl rfl | exact .inr rfl) ?_
 (try simp only [go_sem,hw1])
 (try simp (disch:=omega) only [zI])
 repeat first | intro _ | refine ⟨by omega,?_⟩ | refine ⟨⟨by omega,by omega⟩,?_⟩
 refine hK _ ?_
 clear hK K
 refine zw (zk [1,2,3,6,7,8,16]) ?_
 simp only [go_sem]
 cases h1 : withinL 0 ((l.length : Int) - 1) [i]
 · have h1' : ¬ (0 ≤ i ∧ i < l.length):=by
    simp [withinL] at h1
    omega
   repeat refine zq ?_
   refine zc rfl (fun hc=>?_) (fun hc=>?_) <;> (try simp only [go_sem] at hc)
   repeat refine zq ?_
   refine zb (by kernel_rfl) fun K hK=>?_
   simp only [go_sem]
   (try simp (disch:=omega) only [zI])
   repeat first | intro _ | refine ⟨by omega,?_⟩ | refine ⟨⟨by omega,by omega⟩,?_⟩
   refine hK _ ?_
   clear hK K
   refine ze ?_
   simp only [go_sem]
   have : pickE d l i vals = 7:=by simp [pickE,h0,h1']
   simp [this,leL_refl.le_refl]
 have h1' : 0 ≤ i ∧ i < l.length:=by
  simp [withinL] at h1
  omega
 obtain ⟨n,rfl⟩:=Int.eq_ofNat_of_zero_le h1'.1
 have hn : n < l.length:=by omega
 obtain ⟨x,hx⟩:=opt_of_lt hn
 have hax : aimAt l n = x:=by simp [aimAt,hx]
 repeat refine zq ?_
 refine zc rfl (fun hc=>?_) (fun hc=>?_) <;> (try simp only [go_sem] at hc)
 repeat refine zq ?_
 refine zb (by kernel_rfl) fun K hK=>?_
 simp only [go_sem,hx,hn,aimR]
 (try simp (disch:=omega) only [zI])
 intro _ _
 repeat first | intro _ | refine ⟨by omega,?_⟩ | refine ⟨⟨by omega,by omega⟩,?_⟩
 refine hK _ ?_
 clear hK K
 refine zw (zk [1,2,3,6,7,8,26]) ?_
 simp only [go_sem]
 cases h2 : ((vals.length : Int) != x.beds.length)
 case true =>
  have h2' : vals.length ≠ x.beds.length:=by simp at h2; omega
  repeat refine zq ?_
  refine zc rfl (fun hc=>?_) (fun hc=>?_) <;> (try simp only [go_sem] at hc)
  repeat refine zq ?_
  refine zb (by kernel_rfl) fun K hK=>?_
  simp only [go_sem]
  (try simp (disch:=omega) only [zI])
  repeat first | intro _ | refine ⟨by omega,?_⟩ | refine ⟨⟨by omega,by omega⟩,?_⟩
  refine hK _ ?_
  clear hK K
  refine ze ?_
  simp only [go_sem]
  have : pickE d l n vals = 4:=by simp [pickE,h0,h1',hax,h2']
  simp [this,leL_refl.le_refl]
 have h2' : vals.length = x.beds.length:=by simp at h2; omega
 repeat refine zq ?_
 refine zc rfl (fun hc=>?_) (fun hc=>?_) <;> (try simp only [go_sem] at hc)
 repeat refine zq ?_
 refine zb (by kernel_rfl) fun K hK=>?_
 simp only [go_sem]
 (try simp (disch:=omega) only [zI])
 refine zh (within_ok (-1000000000000) 1000000000000 vals) rfl (by simp only [go_sem,i64,ints]) (by simp only [go_sem,i64,ints]) (by first | exact .inl rfl | exact .inr rfl) ?_
 (try simp only [go_sem])
 (try simp (disch:=omega) only [zI])
 repeat first | intro _ | refine ⟨by omega,?_⟩ | refine ⟨⟨by omega,by omega⟩,?_⟩
 refine hK _ ?_
 clear hK K
 refine zw (zk [1,2,3,6,7,8,38]) ?_
 simp only [go_sem]
 cases h3 : withinL (-1000000000000) 1000000000000 vals
 · repeat refine zq ?_
   refine zc rfl (fun hc=>?_) (fun hc=>?_) <;> (try simp only [go_sem] at hc)
   repeat refine zq ?_
   refine zb (by kernel_rfl) fun K hK=>?_
   simp only [go_sem]
   (try simp (disch:=omega) only [zI])
   repeat first | intro _ | refine ⟨by omega,?_⟩ | refine ⟨⟨by omega,by omega⟩,?_⟩
   refine hK _ ?_
   clear hK K
   refine ze ?_
   simp only [go_sem]
   have : pickE d l n vals = 2:=by simp [pickE,h0,hn,hax,h2',h3]
   simp [this,leL_refl.le_refl]
 repeat refine zq ?_
 refine zc rfl (fun hc=>?_) (fun hc=>?_) <;> (try simp only [go_sem] at hc)
 refine zx ?_
 try simp only [go_sem]
 repeat refine zq ?_
 refine awp_dreg2 [(1,none),(3,some 3),(6,some 6)] follows (by decide +kernel) (by kernel_rfl) (by simp only [keysOk,List.mem_cons,List.not_mem_nil,forall_eq_or_imp,Oc.keyOf,go_sem]; simp) fun K hK=>?_
 simp only [go_sem,hx,hn,aimR]
 (try simp (disch:=omega) only [zI])
 repeat first | intro _ | refine ⟨by omega,?_⟩ | refine ⟨⟨by omega,by omega⟩,?_⟩
 refine hK _ ?_
 clear hK K
 refine ze ?_
 simp only [go_sem]
 have : pickE d l n vals = 0:=by simp [pickE,h0,hn,hax,h2',h3]
 simp [this,leL_refl.le_refl,hax]
theorem pickE_zero {d : Int} {l : List Am} {i : Int} {vals : List Int} (h : pickE d l i vals = 0) : checkV d l = 0 ∧ (0 ≤ i ∧ i < l.length) ∧ vals.length = (aimAt l i).beds.length ∧ Vals vals ∧ aimAt l i ∈ l:=by
 unfold pickE at h
 split at h
 · rename_i h1; exact absurd h h1
 rename_i h1
 split at h
 · cases h
 rename_i h2
 split at h
 · cases h
 rename_i h3
 split at h
 · cases h
 rename_i h4
 have h2':=Decidable.not_not.1 h2
 refine ⟨Decidable.not_not.1 h1,h2',Decidable.not_not.1 h3,fun x hx=>?_,?_⟩
 · have:=List.all_eq_true.1 (by simpa using h4 : withinL (-1000000000000) 1000000000000 vals = true) x hx
   simpa using this
 · obtain ⟨n,rfl⟩:=Int.eq_ofNat_of_zero_le h2'.1
   obtain ⟨x,hx⟩:=opt_of_lt (l:=l) (i:=n) (by omega)
   simp only [aimAt,Int.toNat_natCast,hx,Option.getD_some]
   exact mem_of_opt hx
def meanV (d : Int) (l : List Am) (i : Int) (vals : List Int) : Int × Int:=if pickE d l i vals = 0 then (meanLo d (aimAt l i).beds vals,meanHi d (aimAt l i).beds vals) else (0,0)
def truthV (d : Int) (l : List Am) (i : Int) (vals : List Int) (g : Bool) : List Int:=if pickE d l i vals = 0 then filledV (if g then fun x y=>cmpI y x else cmpI) d (aimAt l i).beds vals else []
theorem Truth_ok (d : Int) (l : List Am) (i : Int) (vals : List Int) (g : Bool) (hw : WfL d l) : ACalls Try.prog 40 [lawV d l,i64 i,ints vals,.bo g] (.tu [ints (truthV d l i vals g),i64 (pickE d l i vals)]):=by
 have hp:=pick_ok d l i vals hw
 refine acalls_st (rs:=[ints (truthV d l i vals g),i64 (pickE d l i vals)]) [.tmp 8,.tmp 9] Try.func40 rfl (by kernel_rfl) Try.ntmps40 rfl (by simp) rfl fun C vs=>?_
 repeat refine zq ?_
 refine zb (by kernel_rfl) fun K hK=>?_
 simp only [go_sem]
 (try simp (disch:=omega) only [zI])
 repeat first | intro _ | refine ⟨by omega,?_⟩ | refine ⟨⟨by omega,by omega⟩,?_⟩
 refine hK _ ?_
 clear hK K
 cases hE : pickE d l i vals != 0
 case true =>
  have hne : pickE d l i vals ≠ 0:=by simpa using hE
  rw [if_neg hne] at hp
  repeat refine zq ?_
  refine zb (by kernel_rfl) fun K hK=>?_
  simp only [go_sem]
  (try simp (disch:=omega) only [zI])
  refine zh (hp) rfl (by simp only [go_sem,i64,ints]) (by simp only [go_sem,i64,ints]) (by first | exact .inl rfl | exact .inr rfl) ?_
  (try simp only [go_sem])
  (try simp (disch:=omega) only [zI])
  repeat first | intro _ | refine ⟨by omega,?_⟩ | refine ⟨⟨by omega,by omega⟩,?_⟩
  refine hK _ ?_
  clear hK K
  repeat refine zq ?_
  refine zd ?_
  repeat refine zq ?_
  refine zb (by kernel_rfl) fun K hK=>?_
  simp only [go_sem,hE]
  (try simp (disch:=omega) only [zI])
  repeat first | intro _ | refine ⟨by omega,?_⟩ | refine ⟨⟨by omega,by omega⟩,?_⟩
  refine hK _ ?_
  clear hK K
  repeat refine zq ?_
  refine zc rfl (fun hc=>?_) (fun hc=>?_) <;> (try simp only [go_sem] at hc)
  repeat refine zq ?_
  refine zb (by kernel_rfl) fun K hK=>?_
  simp only [go_sem]
  (try simp (disch:=omega) only [zI])
  repeat first | intro _ | refine ⟨by omega,?_⟩ | refine ⟨⟨by omega,by omega⟩,?_⟩
  refine hK _ ?_
  clear hK K
  refine ze ?_
  simp only [go_sem]
  simp [truthV,hne]
 have h0 : pickE d l i vals = 0:=by simpa using hE
 rw [if_pos h0] at hp
 obtain ⟨z1,z2,z3,z4,z5⟩:=pickE_zero h0
 obtain ⟨y1,y2⟩:=zero_chk z1
 obtain ⟨y3,y4,y5⟩:=y2 _ z5
 repeat refine zq ?_
 refine zb (by kernel_rfl) fun K hK=>?_
 simp only [go_sem]
 (try simp (disch:=omega) only [zI])
 refine zh (hp) rfl (by simp only [go_sem,i64,ints]) (by simp only [go_sem,i64,ints]) (by first | exact .inl rfl | exact .inr rfl) ?_
 (try simp only [go_sem])
 (try simp (disch:=omega) only [zI])
 repeat first | intro _ | refine ⟨by omega,?_⟩ | refine ⟨⟨by omega,by omega⟩,?_⟩
 refine hK _ ?_
 clear hK K
 repeat refine zq ?_
 refine zd ?_
 repeat refine zq ?_
 refine zb (by kernel_rfl) fun K hK=>?_
 simp only [go_sem,hE]
 (try simp (disch:=omega) only [zI])
 repeat first | intro _ | refine ⟨by omega,?_⟩ | refine ⟨⟨by omega,by omega⟩,?_⟩
 refine hK _ ?_
 clear hK K
 repeat refine zq ?_
 refine zc rfl (fun hc=>?_) (fun hc=>?_) <;> (try simp only [go_sem] at hc)
 repeat refine zq ?_
 refine zb (by kernel_rfl) fun K hK=>?_
 simp only [go_sem]
 (try simp (disch:=omega) only [zI])
 repeat first | intro _ | refine ⟨by omega,?_⟩ | refine ⟨⟨by omega,by omega⟩,?_⟩
 refine hK _ ?_
 clear hK K
 cases g
 · repeat refine zq ?_
   refine zc rfl (fun hc=>?_) (fun hc=>?_) <;> (try simp only [go_sem] at hc)
   refine zx ?_
   try simp only [go_sem]
   repeat refine zq ?_
   refine zb (by kernel_rfl) fun K hK=>?_
   simp only [go_sem]
   (try simp (disch:=omega) only [zI])
   refine zh (filled_ok (aimAt l i).at_ (aimAt l i).beds d vals 67 cmpI rising_ok z3 (by omega) y4 y1.2 y5) rfl (by simp only [go_sem,i64,ints]) (by simp only [go_sem,i64,ints]) (by first | exact .inl rfl | exact .inr rfl) ?_
   (try simp only [go_sem])
   (try simp (disch:=omega) only [zI])
   repeat first | intro _ | refine ⟨by omega,?_⟩ | refine ⟨⟨by omega,by omega⟩,?_⟩
   refine hK _ ?_
   clear hK K
   refine ze ?_
   simp only [go_sem]
   simp [truthV,h0]
 · repeat refine zq ?_
   refine zc rfl (fun hc=>?_) (fun hc=>?_) <;> (try simp only [go_sem] at hc)
   repeat refine zq ?_
   refine zb (by kernel_rfl) fun K hK=>?_
   simp only [go_sem]
   (try simp (disch:=omega) only [zI])
   refine zh (filled_ok (aimAt l i).at_ (aimAt l i).beds d vals 66 (fun x y=>cmpI y x) falling_ok z3 (by omega) y4 y1.2 y5) rfl (by simp only [go_sem,i64,ints]) (by simp only [go_sem,i64,ints]) (by first | exact .inl rfl | exact .inr rfl) ?_
   (try simp only [go_sem])
   (try simp (disch:=omega) only [zI])
   repeat first | intro _ | refine ⟨by omega,?_⟩ | refine ⟨⟨by omega,by omega⟩,?_⟩
   refine hK _ ?_
   clear hK K
   refine ze ?_
   simp only [go_sem]
   simp [truthV,h0]
end Go.Proofs.Ytgkejinoaommeaa

namespace Go.Proofs.Ytgkejinoaommeaa
open Go Go.Oc
set_option linter.unusedSimpArgs false
set_option linter.unusedVariables false
set_option maxRecDepth 8000
theorem bedOk_range {b : Int} (h : bedOk b = true) : 100 ≤ b ∧ b ≤ 499:=by
 simp only [bedOk,Bool.or_eq_true,Bool.and_eq_true,decide_eq_true_eq] at h
 omega
theorem seqOk_mem : ∀ {p : Option Int} {l : List Bd},seqOk p l = true → ∀ x ∈ l,0 ≤ x.b ∧ x.b ≤ 499
 | _,[],_,x,hx=>by cases hx
 | p, y :: l, h, x, hx => by
   simp only [seqOk,Bool.and_eq_true,Bool.or_eq_true,decide_eq_true_eq] at h
   rcases List.mem_cons.1 hx with rfl | hx
   · rcases h.1.1 with h0 | h0
     · omega
     · have:=bedOk_range h0; omega
   · exact seqOk_mem h.2 x hx
def scoresOf (l : List Bd) : List Int:=l.map fun x=>scoreOf x.b
def spanOf (d : Int) (a : Am) : Int × Int:=(meanLo d a.beds (scoresOf a.beds),meanHi d a.beds (scoresOf a.beds))
abbrev spansR (l : List (Int × Int)) : RV:=.sl 2 (l.map fun x=>[i64 x.1,i64 x.2])
def spansV (d : Int) (l : List Am) : List (Int × Int):=if checkV d l = 0 then l.map (spanOf d) else []
theorem Score_ok (d : Int) (l : List Am) (hw : WfL d l) : ACalls Try.prog 21 [lawV d l] (.tu [spansR (spansV d l),i64 (checkV d l)]):=by
 refine acalls_stR (rs:=[spansR (spansV d l),i64 (checkV d l)]) [.cell 2 38,.tmp 3] Try.func21 rfl (by kernel_rfl) Try.ntmps21 rfl (by simp) rfl fun C hC vs=>?_
 repeat refine zq ?_
 refine zb (by kernel_rfl) fun K hK=>?_
 simp only [go_sem]
 (try simp (disch:=omega) only [zI])
 repeat first | intro _ | refine ⟨by omega,?_⟩ | refine ⟨⟨by omega,by omega⟩,?_⟩
 refine hK _ ?_
 clear hK K
 repeat refine zq ?_
 refine zb (by kernel_rfl) fun K hK=>?_
 simp only [go_sem]
 (try simp (disch:=omega) only [zI])
 refine zh (check_ok d l hw) rfl (by simp only [go_sem,i64,ints]) (by simp only [go_sem,i64,ints]) (by first | exact .inl rfl | exact .inr rfl) ?_
 (try simp only [go_sem])
 (try simp (disch:=omega) only [zI])
 repeat first | intro _ | refine ⟨by omega,?_⟩ | refine ⟨⟨by omega,by omega⟩,?_⟩
 refine hK _ ?_
 clear hK K
 repeat refine zq ?_
 refine zb (by kernel_rfl) fun K hK=>?_
 simp only [go_sem]
 (try simp (disch:=omega) only [zI])
 cases hE : checkV d l != 0
 case true =>
  repeat first | intro _ | refine ⟨by omega,?_⟩ | refine ⟨⟨by omega,by omega⟩,?_⟩
  refine hK _ ?_
  clear hK K
  have hne : ¬ checkV d l = 0:=by simpa using hE
  repeat refine zq ?_
  refine zc rfl (fun hc=>?_) (fun hc=>?_) <;> (try simp only [go_sem] at hc)
  repeat refine zq ?_
  refine zb (by kernel_rfl) fun K hK=>?_
  simp only [go_sem]
  (try simp (disch:=omega) only [zI])
  repeat first | intro _ | refine ⟨by omega,?_⟩ | refine ⟨⟨by omega,by omega⟩,?_⟩
  refine hK _ ?_
  clear hK K
  refine ze ?_
  simp only [go_sem]
  simp [hne,spansV]
 have h0 : checkV d l = 0:=by simpa using hE
 obtain ⟨c1,c2,c3,c4,c5⟩:=checkV_zero h0
 repeat first | intro _ | refine ⟨by omega,?_⟩ | refine ⟨⟨by omega,by omega⟩,?_⟩
 refine hK _ ?_
 clear hK K
 repeat refine zq ?_
 refine zc rfl (fun hc=>?_) (fun hc=>?_) <;> (try simp only [go_sem] at hc)
 refine zx ?_
 try simp only [go_sem]
 repeat refine zq ?_
 refine zb (by kernel_rfl) fun K hK=>?_
 simp only [go_sem]
 (try simp (disch:=omega) only [zI])
 refine zh (all_ok d l) rfl (by simp only [go_sem,i64,ints]) (by simp only [go_sem,i64,ints]) (by first | exact .inl rfl | exact .inr rfl) ?_
 (try simp only [go_sem])
 (try simp (disch:=omega) only [zI])
 repeat first | intro _ | refine ⟨by omega,?_⟩ | refine ⟨⟨by omega,by omega⟩,?_⟩
 refine hK _ ?_
 clear hK K
 refine zw (zk [2,16]) ?_
 simp only [go_sem]
 repeat refine zq ?_
 refine zd ?_
 refine zw (sub_ownB 2 0 39 46 2 (by omega) (by omega) rfl rfl) ?_
 try simp only [go_sem]
 refine awp_rangeF hC (enumA d l) (all1_ok d l) [2,16] (by decide) (fun vs=>[(2,.pt 2 (vs 2) 0),(16,.r (.fn 73 [.rp [i64 d,aimsR l]]))])
  (fun i vs=>[(2,.box [.os 39 (vs 39) 2 0 i]),(39,.arr 46 2 (((l.map (spanOf d)).take i).map fun x=>[i64 x.1,i64 x.2]))])
  (fun i=>True) (zj [1] ?_ ?_) trivial (fun _=>rfl) (fun _=>rfl) (fun _ _=>rfl) (by simp) (fun e he=>enumA_len he) ?_ ?_
 · try simp only [go_sem]
 · try simp only [go_sem]
 · intro i e vs us C he _
   obtain ⟨x,hx,rfl⟩:=enumA_get he
   obtain ⟨_,_,k3,k4,k5,_⟩:=aimOk_facts (c5 x (mem_of_opt hx))
   have hsq:=seqOk_mem k3
   have hbl:=c2 x (mem_of_opt hx)
   have hil : i < l.length:=(List.getElem?_eq_some_iff.1 hx).1
   have hlt : ((l.map (spanOf d)).take i).length = i:=by rw [List.length_take]; simp; omega
   have htx : (l.map (spanOf d)).take (i + 1) = (l.map (spanOf d)).take i ++ [spanOf d x]:=take_of_opt (by simp [hx])
   have hvals : Vals (scoresOf x.beds):=fun v hv=>by
    obtain ⟨y,hy,rfl⟩:=List.mem_map.1 hv
    have:=score_le (hsq y hy).1 (hsq y hy).2
    omega
   repeat refine zq ?_
   refine zb (by kernel_rfl) fun K hK=>?_
   simp only [go_sem]
   (try simp (disch:=omega) only [zI])
   repeat first | intro _ | refine ⟨by omega,?_⟩ | refine ⟨⟨by omega,by omega⟩,?_⟩
   refine hK _ ?_
   clear hK K
   refine ⟨rfl,fun C'=>?_⟩
   refine zw (zk [2,6,16]) ?_
   simp only [go_sem]
   repeat refine zq ?_
   refine zd ?_
   repeat refine zq ?_
   refine zb (by kernel_rfl) fun K hK=>?_
   simp only [go_sem]
   (try simp (disch:=omega) only [zI])
   repeat first | intro _ | refine ⟨by omega,?_⟩ | refine ⟨⟨by omega,by omega⟩,?_⟩
   refine hK _ ?_
   clear hK K
   repeat refine zq ?_
   refine zb (by kernel_rfl) fun K hK=>?_
   simp only [go_sem]
   (try simp (disch:=omega) only [zI])
   intro _
   repeat first | intro _ | refine ⟨by omega,?_⟩ | refine ⟨⟨by omega,by omega⟩,?_⟩
   refine hK _ ?_
   clear hK K
   refine zw (zk [2,6,7,16,21,22,23]) ?_
   simp only [go_sem]
   refine zw (sub_own 7 32 3 1 (by omega) rfl) ?_
   try simp only [go_sem]
   repeat refine zq ?_
   refine zd ?_
   refine awp_uptoV (n:=41) x.beds.length (fun k vs=>[(2,.pt 2 (vs 2) 0),(6,.pt 6 (vs 6) 0),(7,.os 32 (vs 32) 1 0 k),(16,.r (.fn 73 [.rp [i64 d,aimsR l]])),(21,.r (bedsR x.beds)),(22,.r (i64 x.beds.length)),(23,.r (i64 k))])
    (fun k vs=>[(0,.sus [.pt 2 (vs 2) 0,.r (.fn 73 [.rp [i64 d,aimsR l]])] us),(2,.box [.os 39 (vs 39) 2 0 i]),(6,.box [.r (i64 x.at_),.r (bedsR x.beds),.r (i64 d)]),(32,.arr 3 1 (((scoresOf x.beds).take k).map fun x=>[i64 x])),(39,.arr 46 2 (((l.map (spanOf d)).take i).map fun x=>[i64 x.1,i64 x.2]))])
    (fun _=>True) 0 (zj [] ?_ ?_) (Nat.zero_le _) trivial ?_
   · try simp only [go_sem]
   · try simp only [go_sem]
   · intro k vs hk _
     have hlk : ((scoresOf x.beds).take k).length = k:=by rw [List.length_take]; simp [scoresOf]; omega
     repeat refine zq ?_
     refine zb (by kernel_rfl) fun K hK=>?_
     simp only [go_sem]
     (try simp (disch:=omega) only [zI])
     repeat first | intro _ | refine ⟨by omega,?_⟩ | refine ⟨⟨by omega,by omega⟩,?_⟩
     refine hK _ ?_
     clear hK K
     repeat refine zq ?_
     refine zc rfl (fun hc=>?_) (fun hc=>?_) <;> (try simp only [go_sem] at hc)
     · have hci:=hc
       obtain ⟨y,hy⟩:=opt_of_lt hc
       have hsy:=hsq y (mem_of_opt hy)
       have htk : (scoresOf x.beds).take (k + 1) = (scoresOf x.beds).take k ++ [scoreOf y.b]:=take_of_opt (by simp [scoresOf,hy])
       refine zx ?_
       repeat refine zq ?_
       refine zd ?_
       repeat refine zq ?_
       refine zb (by kernel_rfl) fun K hK=>?_
       simp only [go_sem,hy,hc,bedR]
       (try simp (disch:=omega) only [zI])
       repeat first | intro _ | refine ⟨by omega,?_⟩ | refine ⟨⟨by omega,by omega⟩,?_⟩
       refine hK _ ?_
       clear hK K
       refine zw (zk [2,6,7,9,16,21,22,23]) ?_
       simp only [go_sem]
       repeat refine zq ?_
       refine zb (by kernel_rfl) fun K hK=>?_
       simp only [go_sem,hlk]
       (try simp (disch:=omega) only [zI])
       refine zh (score_ok y.b hsy.1 hsy.2) rfl (by simp only [go_sem,i64,ints,hlk]) (by simp only [go_sem,i64,ints,hlk]) (by first | exact .inl rfl | exact .inr rfl) ?_
       (try simp only [go_sem,hlk])
       (try simp (disch:=omega) only [zI])
       repeat first | intro _ | refine ⟨by omega,?_⟩ | refine ⟨⟨by omega,by omega⟩,?_⟩
       refine hK _ ?_
       clear hK K
       refine zw (zk [2,6,7,16,21,22,23]) ?_
       simp only [go_sem]
       repeat refine zq ?_
       refine zb (by kernel_rfl) fun K hK=>?_
       simp only [go_sem]
       (try simp (disch:=omega) only [zI])
       repeat first | intro _ | refine ⟨by omega,?_⟩ | refine ⟨⟨by omega,by omega⟩,?_⟩
       refine hK _ ?_
       clear hK K
       try simp only [go_sem]
       refine ⟨hci,zj [9] ?_ ?_⟩
       · try simp only [go_sem]
       · try simp only [go_sem]
         rw [htk]
         simp
     · refine zf ?_
       simp only [go_sem]
       have hkk : k = x.beds.length:=by omega
       subst hkk
       have e1 : (scoresOf x.beds).take x.beds.length = scoresOf x.beds:=List.take_of_length_le (by simp [scoresOf])
       rw [e1]
       have hvl : (scoresOf x.beds).length = x.beds.length:=by simp [scoresOf]
       refine zw (sub_frz (ty:=3) (sz:=1) (off:=0) (m:=x.beds.length) (es:=(scoresOf x.beds).map fun x=>[i64 x]) 7 32 (by omega) (by try simp only [go_sem]) (by try simp only [go_sem]) (by simp [hvl])) ?_
       have e2 : (((scoresOf x.beds).map fun x=>[i64 x]).drop 0).take x.beds.length = (scoresOf x.beds).map fun x=>[i64 x]:=by
        rw [List.drop_zero,List.take_of_length_le (by simp [hvl])]
       rw [e2]
       try simp only [go_sem]
       repeat refine zq ?_
       refine awp_dreg3 [(2,some 2),(6,some 6),(7,none)] [2,6] follows (by decide +kernel) (by kernel_rfl) (by simp only [keysOk,List.mem_cons,List.not_mem_nil,forall_eq_or_imp,Oc.keyOf,go_sem]; simp) (by intro k hk; simp only [List.mem_cons,List.not_mem_nil,or_false] at hk; first | (subst hk; exact ⟨_,rfl⟩) | (rcases hk with rfl | rfl <;> exact ⟨_,rfl⟩) | (rcases hk with rfl | rfl | rfl <;> exact ⟨_,rfl⟩)) fun K hK=>?_
       simp only [go_sem,hlt]
       (try simp (disch:=omega) only [zI])
       refine zh (mean_ok x.at_ x.beds d (scoresOf x.beds) hvl (by omega) k4 (by omega) k5 hvals) rfl (by simp only [go_sem,i64,ints,hlt]) (by simp only [go_sem,i64,ints,hlt]) (by first | exact .inl rfl | exact .inr rfl) ?_
       (try simp only [go_sem,hlt])
       (try simp (disch:=omega) only [zI])
       repeat first | intro _ | refine ⟨by omega,?_⟩ | refine ⟨⟨by omega,by omega⟩,?_⟩
       refine hK _ ?_
       clear hK K
       try simp only [go_sem]
       refine zj (F:=fun _=>[]) [6] (by try simp only [go_sem]) ?_
       try simp only [go_sem]
       rw [htx]
       simp [spanOf]
 · intro vs us _
   try simp only [go_sem]
   refine zw (sub_wake rfl) ?_
   repeat refine zq ?_
   refine zb (by kernel_rfl) fun K hK=>?_
   simp only [go_sem]
   (try simp (disch:=omega) only [zI])
   repeat first | intro _ | refine ⟨by omega,?_⟩ | refine ⟨⟨by omega,by omega⟩,?_⟩
   refine hK _ ?_
   clear hK K
   refine ze ?_
   simp only [go_sem]
   have hel : (enumA d l).length = l.length:=by simp [enumA]
   rw [hel,h0]
   have e1 : (l.map (spanOf d)).take l.length = l.map (spanOf d):=List.take_of_length_le (by simp)
   rw [e1]
   refine ⟨⟨by simp,?_⟩,rfl⟩
   rw [List.take_of_length_le (by simp),spansV,if_pos h0]
end Go.Proofs.Ytgkejinoaommeaa

namespace Go.Proofs.Ytgkejinoaommeaa
open Go Go.Oc
set_option linter.unusedSimpArgs false
set_option linter.unusedVariables false
set_option maxRecDepth 8000
abbrev spanR (x : Int × Int) : List RV:=[i64 x.1,i64 x.2]
def isP (x : Int × Int) (i : Nat) (t : (Int × Int) × Nat) : Bool:=decide (t.2 = i) || decide (t.1.2 ≤ x.1)
def mayP (x : Int × Int) (i : Nat) (t : (Int × Int) × Nat) : Bool:=decide (t.2 = i) || decide (t.1.1 ≤ x.2)
def bestL (q : Int × Int → Nat → (Int × Int) × Nat → Bool) (s : List (Int × Int)) : List Int:=(s.zipIdx.filter fun x=>s.zipIdx.all (q x.1 x.2)).map fun x=>(x.2 : Int)
def bestK (q : Int × Int → Nat → (Int × Int) × Nat → Bool) (s : List (Int × Int)) (i : Nat) : List Int:=((s.zipIdx.take i).filter fun x=>s.zipIdx.all (q x.1 x.2)).map fun x=>(x.2 : Int)
theorem bestK_step {q : Int × Int → Nat → (Int × Int) × Nat → Bool} {s : List (Int × Int)} {i : Nat} {x : Int × Int} (hx : s[i]? = some x) : bestK q s (i + 1) = bestK q s i ++ (if s.zipIdx.all (q x i) then [(i : Int)] else []):=by
 have : s.zipIdx[i]? = some (x,i):=by simp [hx]
 unfold bestK
 rw [take_of_opt this,List.filter_append,List.map_append]
 congr 1
 cases h : s.zipIdx.all (q x i) <;> simp [List.filter,h]
theorem all_step {α : Type} {p : α → Bool} {l : List α} {k : Nat} {y : α} (hy : l[k]? = some y) : (l.take (k + 1)).all p = ((l.take k).all p && p y):=by rw [take_of_opt hy]; simp
theorem bestK_len (q : Int × Int → Nat → (Int × Int) × Nat → Bool) (s : List (Int × Int)) (i : Nat) : (bestK q s i).length ≤ i:=by
 unfold bestK
 rw [List.length_map]
 refine Nat.le_trans (List.length_filter_le _ _) ?_
 rw [List.length_take]; omega
theorem Best_ok (d : Int) (l : List Am) (hw : WfL d l) : ACalls Try.prog 22 [lawV d l] (.tu [ints (bestL isP (spansV d l)),ints (bestL mayP (spansV d l)),i64 (checkV d l)]):=by
 have hsc:=Score_ok d l hw
 have hsl : (spansV d l).length ≤ 20:=by
  unfold spansV
  split
  · rename_i h; have:=(checkV_zero h).1; simpa using this
  · simp
 generalize spansV d l = s at hsc hsl
 refine acalls_st (rs:=[ints (bestL isP s),ints (bestL mayP s),i64 (checkV d l)]) [.tmp 2,.tmp 3,.tmp 4] Try.func22 rfl (by kernel_rfl) Try.ntmps22 rfl (by simp) rfl fun C vs=>?_
 repeat refine zq ?_
 refine zb (by kernel_rfl) fun K hK=>?_
 simp only [go_sem]
 (try simp (disch:=omega) only [zI])
 repeat first | intro _ | refine ⟨by omega,?_⟩ | refine ⟨⟨by omega,by omega⟩,?_⟩
 refine hK _ ?_
 clear hK K
 repeat refine zq ?_
 refine zb (by kernel_rfl) fun K hK=>?_
 simp only [go_sem]
 (try simp (disch:=omega) only [zI])
 refine zh (hsc) rfl (by simp only [go_sem,i64,ints]) (by simp only [go_sem,i64,ints]) (by first | exact .inl rfl | exact .inr rfl) ?_
 (try simp only [go_sem])
 (try simp (disch:=omega) only [zI])
 repeat first | intro _ | refine ⟨by omega,?_⟩ | refine ⟨⟨by omega,by omega⟩,?_⟩
 refine hK _ ?_
 clear hK K
 refine zw (zk [2,3,4,5]) ?_
 simp only [go_sem]
 repeat refine zq ?_
 refine zb (by kernel_rfl) fun K hK=>?_
 simp only [go_sem]
 (try simp (disch:=omega) only [zI])
 intro _
 repeat first | intro _ | refine ⟨by omega,?_⟩ | refine ⟨⟨by omega,by omega⟩,?_⟩
 refine hK _ ?_
 clear hK K
 refine zw (sub_own 2 62 3 1 (by omega) rfl) ?_
 try simp only [go_sem]
 refine zw (sub_own 3 67 3 1 (by omega) rfl) ?_
 refine zw (zk [2,3,4,5,17,18,19]) ?_
 simp only [go_sem]
 repeat refine zq ?_
 refine zd ?_
 refine awp_uptoV (n:=72) s.length (fun i vs=>[(2,.os 62 (vs 62) 1 0 (bestK isP s i).length),(3,.os 67 (vs 67) 1 0 (bestK mayP s i).length),(4,.r (i64 (checkV d l))),(5,.r (spansR s)),(17,.r (spansR s)),(18,.r (i64 s.length)),(19,.r (i64 i))])
  (fun i vs=>[(62,.arr 3 1 ((bestK isP s i).map fun x=>[i64 x])),(67,.arr 3 1 ((bestK mayP s i).map fun x=>[i64 x]))]) (fun _=>True) 0 (zj [1] ?_ ?_) (Nat.zero_le _) trivial ?_
 · try simp only [go_sem]
   simp [bestK]
 · try simp only [go_sem]
   simp [bestK]
 · intro i vs hi _
   repeat refine zq ?_
   refine zb (by kernel_rfl) fun K hK=>?_
   simp only [go_sem]
   (try simp (disch:=omega) only [zI])
   repeat first | intro _ | refine ⟨by omega,?_⟩ | refine ⟨⟨by omega,by omega⟩,?_⟩
   refine hK _ ?_
   clear hK K
   repeat refine zq ?_
   refine zc rfl (fun hc=>?_) (fun hc=>?_) <;> (try simp only [go_sem] at hc)
   · have hci:=hc
     obtain ⟨x,hx⟩:=opt_of_lt hci
     have st1:=bestK_step (q:=isP) hx
     have st2:=bestK_step (q:=mayP) hx
     have ln1:=bestK_len isP s i
     have ln2:=bestK_len mayP s i
     refine zx ?_
     repeat refine zq ?_
     refine zd ?_
     repeat refine zq ?_
     refine zb (by kernel_rfl) fun K hK=>?_
     simp only [go_sem,hx,hci]
     (try simp (disch:=omega) only [zI])
     repeat first | intro _ | refine ⟨by omega,?_⟩ | refine ⟨⟨by omega,by omega⟩,?_⟩
     refine hK _ ?_
     clear hK K
     repeat refine zq ?_
     refine zb (by kernel_rfl) fun K hK=>?_
     simp only [go_sem]
     (try simp (disch:=omega) only [zI])
     repeat first | intro _ | refine ⟨by omega,?_⟩ | refine ⟨⟨by omega,by omega⟩,?_⟩
     refine hK _ ?_
     clear hK K
     repeat refine zq ?_
     refine zb (by kernel_rfl) fun K hK=>?_
     simp only [go_sem]
     (try simp (disch:=omega) only [zI])
     intro _
     repeat first | intro _ | refine ⟨by omega,?_⟩ | refine ⟨⟨by omega,by omega⟩,?_⟩
     refine hK _ ?_
     clear hK K
     refine zw (zk [2,3,4,5,6,7,8,9,17,18,19,24,25,26]) ?_
     simp only [go_sem]
     repeat refine zq ?_
     refine zd ?_
     refine awp_uptoV (n:=72) s.length (fun k vs=>[(2,.os 62 (vs 62) 1 0 (bestK isP s i).length),(3,.os 67 (vs 67) 1 0 (bestK mayP s i).length),(4,.r (i64 (checkV d l))),(5,.r (spansR s)),(6,.r (i64 i)),(7,.pt 7 (vs 7) 0),(8,.r (.bo ((s.zipIdx.take k).all (isP x i)))),(9,.r (.bo ((s.zipIdx.take k).all (mayP x i)))),(17,.r (spansR s)),(18,.r (i64 s.length)),(19,.r (i64 i)),(24,.r (spansR s)),(25,.r (i64 s.length)),(26,.r (i64 k))])
      (fun k vs=>[(7,.box [.r (i64 x.1),.r (i64 x.2)]),(62,.arr 3 1 ((bestK isP s i).map fun x=>[i64 x])),(67,.arr 3 1 ((bestK mayP s i).map fun x=>[i64 x]))]) (fun _=>True) 0 (zj [] ?_ ?_) (Nat.zero_le _) trivial ?_
     · try simp only [go_sem]
       simp
     · try simp only [go_sem]
     · intro k vs hk _
       repeat refine zq ?_
       refine zb (by kernel_rfl) fun K hK=>?_
       simp only [go_sem]
       (try simp (disch:=omega) only [zI])
       repeat first | intro _ | refine ⟨by omega,?_⟩ | refine ⟨⟨by omega,by omega⟩,?_⟩
       refine hK _ ?_
       clear hK K
       repeat refine zq ?_
       refine zc rfl (fun hc=>?_) (fun hc=>?_) <;> (try simp only [go_sem] at hc)
       · have hck:=hc
         obtain ⟨y,hy⟩:=opt_of_lt hck
         have hyz : s.zipIdx[k]? = some (y,k):=by simp [hy]
         have a1:=all_step (p:=isP x i) hyz
         have a2:=all_step (p:=mayP x i) hyz
         generalize (s.zipIdx.take k).all (isP x i) = A at a1 ⊢
         generalize (s.zipIdx.take k).all (mayP x i) = B at a2 ⊢
         refine zx ?_
         repeat refine zq ?_
         refine zd ?_
         repeat refine zq ?_
         refine zb (by kernel_rfl) fun K hK=>?_
         simp only [go_sem,hy,hck]
         (try simp (disch:=omega) only [zI])
         repeat first | intro _ | refine ⟨by omega,?_⟩ | refine ⟨⟨by omega,by omega⟩,?_⟩
         refine hK _ ?_
         clear hK K
         refine zw (zk [2,3,4,5,6,7,8,9,10,11,17,18,19,24,25,26]) ?_
         simp only [go_sem]
         repeat refine zq ?_
         refine awp_dreg2 [(7,some 7),(11,some 11)] follows (by decide +kernel) (by kernel_rfl) (by simp only [keysOk,List.mem_cons,List.not_mem_nil,forall_eq_or_imp,Oc.keyOf,go_sem]; simp) fun K hK=>?_
         simp only [go_sem]
         (try simp (disch:=omega) only [zI])
         repeat' first | intro _ | refine And.intro ?_ ?_
         all_goals first | omega | skip
         all_goals (refine hK _ ?_; clear hK K)
         all_goals (refine zw (zk [2,3,4,5,6,7,8,9,17,18,19,24,25,26]) ?_; simp only [go_sem])
         all_goals (repeat refine zq ?_)
         all_goals (refine zb (by kernel_rfl) fun K hK=>?_; simp only [go_sem]; try simp (disch:=omega) only [zI])
         all_goals (refine hK _ ?_; clear hK K)
         all_goals (simp only [go_sem])
         all_goals (refine ⟨hck,zj [11] ?_ ?_⟩)
         all_goals (simp only [go_sem,a1,a2,isP,mayP])
         all_goals (by_cases hki : k = i <;> first | omega | simp_all)
       · refine zf ?_
         simp only [go_sem]
         have hks : k = s.length:=by omega
         have e1 : s.zipIdx.take k = s.zipIdx:=List.take_of_length_le (by simp; omega)
         rw [e1]
         repeat refine zq ?_
         refine zb (by kernel_rfl) fun K hK=>?_
         simp only [go_sem]
         (try simp (disch:=omega) only [zI])
         repeat first | intro _ | refine ⟨by omega,?_⟩ | refine ⟨⟨by omega,by omega⟩,?_⟩
         refine hK _ ?_
         clear hK K
         cases hA : s.zipIdx.all (isP x i)
         · rw [hA] at st1
           repeat refine zq ?_
           refine zc rfl (fun hc=>?_) (fun hc=>?_) <;> (try simp only [go_sem] at hc)
           refine zx ?_
           try simp only [go_sem]
           repeat refine zq ?_
           refine zb (by kernel_rfl) fun K hK=>?_
           simp only [go_sem]
           (try simp (disch:=omega) only [zI])
           repeat first | intro _ | refine ⟨by omega,?_⟩ | refine ⟨⟨by omega,by omega⟩,?_⟩
           refine hK _ ?_
           clear hK K
           cases hM : s.zipIdx.all (mayP x i)
           · rw [hM] at st2
             repeat refine zq ?_
             refine zc rfl (fun hc=>?_) (fun hc=>?_) <;> (try simp only [go_sem] at hc)
             refine zx ?_
             try simp only [go_sem]
             repeat refine zq ?_
             refine zb (by kernel_rfl) fun K hK=>?_
             simp only [go_sem]
             (try simp (disch:=omega) only [zI])
             repeat first | intro _ | refine ⟨by omega,?_⟩ | refine ⟨⟨by omega,by omega⟩,?_⟩
             refine hK _ ?_
             clear hK K
             try simp only [go_sem]
             refine ⟨hci,zj [7] ?_ ?_⟩
             · simp only [go_sem,st1,st2]
               try simp
             · simp only [go_sem,st1,st2]
               try simp
           · rw [hM] at st2
             repeat refine zq ?_
             refine zc rfl (fun hc=>?_) (fun hc=>?_) <;> (try simp only [go_sem] at hc)
             repeat refine zq ?_
             refine zb (by kernel_rfl) fun K hK=>?_
             simp only [go_sem]
             (try simp (disch:=omega) only [zI])
             repeat first | intro _ | refine ⟨by omega,?_⟩ | refine ⟨⟨by omega,by omega⟩,?_⟩
             refine hK _ ?_
             clear hK K
             repeat refine zq ?_
             refine zb (by kernel_rfl) fun K hK=>?_
             simp only [go_sem]
             (try simp (disch:=omega) only [zI])
             repeat first | intro _ | refine ⟨by omega,?_⟩ | refine ⟨⟨by omega,by omega⟩,?_⟩
             refine hK _ ?_
             clear hK K
             try simp only [go_sem]
             refine ⟨hci,zj [7] ?_ ?_⟩
             · simp only [go_sem,st1,st2]
               try simp
             · simp only [go_sem,st1,st2]
               try simp
         · rw [hA] at st1
           repeat refine zq ?_
           refine zc rfl (fun hc=>?_) (fun hc=>?_) <;> (try simp only [go_sem] at hc)
           repeat refine zq ?_
           refine zb (by kernel_rfl) fun K hK=>?_
           simp only [go_sem]
           (try simp (disch:=omega) only [zI])
           repeat first | intro _ | refine ⟨by omega,?_⟩ | refine ⟨⟨by omega,by omega⟩,?_⟩
           refine hK _ ?_
           clear hK K
           repeat refine zq ?_
           refine zb (by kernel_rfl) fun K hK=>?_
           simp only [go_sem]
           (try simp (disch:=omega) only [zI])
           repeat first | intro _ | refine ⟨by omega,?_⟩ | refine ⟨⟨by omega,by omega⟩,?_⟩
           refine hK _ ?_
           clear hK K
           cases hM : s.zipIdx.all (mayP x i)
           · rw [hM] at st2
             repeat refine zq ?_
             refine zc rfl (fun hc=>?_) (fun hc=>?_) <;> (try simp only [go_sem] at hc)
             refine zx ?_
             try simp only [go_sem]
             repeat refine zq ?_
             refine zb (by kernel_rfl) fun K hK=>?_
             simp only [go_sem]
             (try simp (disch:=omega) only [zI])
             repeat first | intro _ | refine ⟨by omega,?_⟩ | refine ⟨⟨by omega,by omega⟩,?_⟩
             refine hK _ ?_
             clear hK K
             try simp only [go_sem]
             refine ⟨hci,zj [7] ?_ ?_⟩
             · simp only [go_sem,st1,st2]
               try simp
             · simp only [go_sem,st1,st2]
               try simp
           · rw [hM] at st2
             repeat refine zq ?_
             refine zc rfl (fun hc=>?_) (fun hc=>?_) <;> (try simp only [go_sem] at hc)
             repeat refine zq ?_
             refine zb (by kernel_rfl) fun K hK=>?_
             simp only [go_sem]
             (try simp (disch:=omega) only [zI])
             repeat first | intro _ | refine ⟨by omega,?_⟩ | refine ⟨⟨by omega,by omega⟩,?_⟩
             refine hK _ ?_
             clear hK K
             repeat refine zq ?_
             refine zb (by kernel_rfl) fun K hK=>?_
             simp only [go_sem]
             (try simp (disch:=omega) only [zI])
             repeat first | intro _ | refine ⟨by omega,?_⟩ | refine ⟨⟨by omega,by omega⟩,?_⟩
             refine hK _ ?_
             clear hK K
             try simp only [go_sem]
             refine ⟨hci,zj [7] ?_ ?_⟩
             · simp only [go_sem,st1,st2]
               try simp
             · simp only [go_sem,st1,st2]
               try simp
   · refine zf ?_
     simp only [go_sem]
     have his : i = s.length:=by omega
     repeat refine zq ?_
     refine zb (by kernel_rfl) fun K hK=>?_
     simp only [go_sem]
     (try simp (disch:=omega) only [zI])
     repeat first | intro _ | refine ⟨by omega,?_⟩ | refine ⟨⟨by omega,by omega⟩,?_⟩
     refine hK _ ?_
     clear hK K
     refine ze ?_
     simp only [go_sem]
     have e1 : ∀ q,bestK q s i = bestL q s:=fun q=>by
      unfold bestK bestL
      rw [List.take_of_length_le (by simp; omega)]
     simp only [e1]
     exact ⟨trivial,trivial⟩
end Go.Proofs.Ytgkejinoaommeaa

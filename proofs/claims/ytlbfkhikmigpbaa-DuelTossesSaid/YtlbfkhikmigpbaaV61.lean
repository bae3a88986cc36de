/- For all rules, the given function DuelTosses returns true: how likely the leg is won by who throws first, and second, or the error, is what the document says. No conditions beyond those of the given statement. -/
import Derived.Test.YtlbfkhikmigpbaaV38
import Derived.Test.YtlbfkhikmigpbaaV35
import Derived.ChangeShapes
import Derived.WideShapes
import Derived.OpenShut
import Derived.ShutString
import Derived.ChangeOld
import Derived.Carry
import Derived.Below
import Derived.Test.YtlbfkhikmigpbaaRows
import Derived.JoinedOf
namespace Go.Proofs.Ytlbfkhikmigpbaa
open Go Go.Oc
set_option linter.unusedSimpArgs false
set_option linter.unusedVariables false
set_option maxRecDepth 8000
set_option maxHeartbeats 1000000
def scan (bad : Nat → Bool) : Nat → Nat → Option Nat
 | _,0=>none
 | s,m + 1=>if bad s then some s else scan bad (s + 1) m
def scan2 (f : Nat → Option Nat) : Nat → Nat → Option (Nat × Nat)
 | _,0=>none
 | k,m + 1=>match f k with | some s=>some (k,s) | none=>scan2 f (k + 1) m
theorem scan_step {bad : Nat → Bool} {s N : Nat} (h : s < N) : scan bad s (N - s) = if bad s then some s else scan bad (s + 1) (N - (s + 1)):=by
 rw [show N - s = (N - (s + 1)) + 1 by omega,scan]
theorem scan2_step {f : Nat → Option Nat} {k N : Nat} (h : k < N) : scan2 f k (N - k) = match f k with | some s=>some (k,s) | none=>scan2 f (k + 1) (N - (k + 1)):=by
 rw [show N - k = (N - (k + 1)) + 1 by omega,scan2]
def badP (r : Ru) (most : Bool) (T : List (List Int)) (k s : Nat) : Bool :=
 if most then decide ((T.getD k []).getD s 0 < valV r most T k s 3 s) else decide (valV r most T k s 3 s < (T.getD k []).getD s 0)
def badK (r : Ru) (most : Bool) (T : List (List Int)) (k : Nat) : Option Nat:=scan (badP r most T k) (lowestR r).toNat (r.start.toNat + 1 - (lowestR r).toNat)
def provesO (r : Ru) (most : Bool) (T : List (List Int)) : Option (Nat × Nat):=scan2 (badK r most T) 0 (T.length - 0)
def pvK : Option (Nat × Nat) → Int
 | some (k,_)=>k
 | none=>0
def pvS : Option (Nat × Nat) → Int
 | some (_,s)=>s
 | none=>0
theorem form_spec {r : Ru} {T : List (List Int)} (h : formE r T = 0) : T.length = r.ends.length ∧ (∀ row ∈ T,row.length = r.start.toNat + 1 ∧ ∀ x ∈ row,0 ≤ x ∧ x ≤ 1000000):=by
 unfold formE at h
 split at h
 · rename_i hn
   split at h
   · rename_i hr
     split at h
     · rename_i hw
       refine ⟨hn,fun row hrow=>⟨?_,fun x hx=>?_⟩⟩
       · have:=List.all_eq_true.1 hr row hrow
         simp only [rowOk,Bool.and_eq_true,decide_eq_true_eq] at this
         exact this.1
       · have:=List.all_eq_true.1 hw x (List.mem_flatten.2 ⟨row,hrow,hx⟩)
         simpa using this
     · cases h
   · cases h
 · cases h
theorem vis_form {r : Ru} {T : List (List Int)} (h : RuG r) (hf : formE r T = 0) {k s : Nat} (hk : k < r.ends.length) (hs : (s : Int) ≤ r.start) : VisG r T k s:=by
 obtain ⟨h1,h2⟩:=form_spec hf
 refine ⟨hk,h.h10,h.ends,hs,h.s40,fun left hl=>?_⟩
 by_cases hk1 : k + 1 < r.ends.length
 · obtain ⟨row,hrow⟩:=opt_of_lt (show k + 1 < T.length by omega)
   obtain ⟨g1,g2⟩:=h2 row (mem_of_opt hrow)
   obtain ⟨v,hv⟩:=opt_of_lt (show left < row.length by rw [g1]; omega)
   exact ⟨row,v,fun _=>⟨hrow,hv,g2 v (mem_of_opt hv)⟩⟩
 · exact ⟨[],0,fun h=>absurd h hk1⟩
theorem refProves_ok {r : Ru} (h : RuG r) (hH : RefH r) (most : Bool) {T : List (List Int)} (hf : formE r T = 0) :
 ACalls Try.prog 29 [ruV r,tabR T,.bo most] (.tu [.bo (provesO r most T).isNone,i64 (pvK (provesO r most T)),i64 (pvS (provesO r most T))]):=by
 obtain ⟨hTn,hTr⟩:=form_spec hf
 have h10:=h.h10
 have hs2:=h.s2
 have hs40:=h.s40
 have hlow : lowestR r = 1 ∨ lowestR r = 2:=by unfold lowestR; split <;> simp
 have hlo:=refLowest_ok r
 refine acalls_st (rs:=[.bo (provesO r most T).isNone,i64 (pvK (provesO r most T)),i64 (pvS (provesO r most T))]) [.tmp 6,.tmp 7,.tmp 8] Try.func29 rfl (by kernel_rfl) Try.ntmps29 rfl (by simp) rfl fun C vs=>?_
 repeat refine zq ?_
 refine zb (by kernel_rfl) fun K hK=>?_
 simp only [go_sem]
 (try simp (disch:=omega) only [zI])
 repeat first | intro _ | refine ⟨by omega,?_⟩ | refine ⟨⟨by omega,by omega⟩,?_⟩
 refine hK _ ?_
 clear hK K
 refine zw (sub_frzP 3 3 (ruC r) (by omega) rfl rfl) ?_
 refine zw (zk [1,2,3]) ?_
 simp only [go_sem]
 repeat refine zq ?_
 refine zb (by kernel_rfl) fun K hK=>?_
 simp only [go_sem]
 (try simp (disch:=omega) only [zI])
 repeat first | intro _ | refine ⟨by omega,?_⟩ | refine ⟨⟨by omega,by omega⟩,?_⟩
 refine hK _ ?_
 clear hK K
 refine zw (zk [1,2,3,9]) ?_
 simp only [go_sem]
 repeat refine zq ?_
 refine zd ?_
 refine awp_upto (n:=61) T.length (fun i vs=>[(1,.r (tabR T)),(2,.r (.bo most)),(3,.r (.rp (ruC r))),(9,.r (i64 i))])
  (fun i=>[]) (fun i=>provesO r most T = scan2 (badK r most T) i (T.length - i)) 0 (fit_of [] ?_ ?_) (Nat.zero_le _) rfl ?_
 · try simp only [go_sem]
 · try simp only [go_sem]
 · intro i vs hi hI
   repeat refine zq ?_
   refine zb (by kernel_rfl) fun K hK=>?_
   simp only [go_sem]
   (try simp (disch:=omega) only [zI])
   intro hl8
   repeat first | intro _ | refine ⟨by omega,?_⟩ | refine ⟨⟨by omega,by omega⟩,?_⟩
   refine hK _ ?_
   clear hK K
   refine zw (zk [1,2,3,9,15]) ?_
   simp only [go_sem]
   repeat refine zq ?_
   refine zc rfl (fun hc=>?_) (fun hc=>?_) <;> (try simp only [go_sem] at hc)
   · have hci : i < T.length:=by omega
     obtain ⟨row,hrow⟩:=opt_of_lt hci
     obtain ⟨hrl,hrv⟩:=hTr row (mem_of_opt hrow)
     rw [scan2_step hci] at hI
     refine zx ?_
     try simp only [go_sem]
     repeat refine zq ?_
     refine zd ?_
     repeat refine zq ?_
     refine zb (by kernel_rfl) fun K hK=>?_
     simp only [go_sem]
     (try simp (disch:=omega) only [zI])
     refine zh (hlo) rfl (by simp only [go_sem,i64,ints]) (by simp only [go_sem,i64,ints]) (by first | exact .inl rfl | exact .inr rfl) ?_
     (try simp only [go_sem])
     (try simp (disch:=omega) only [zI])
     repeat first | intro _ | refine ⟨by omega,?_⟩ | refine ⟨⟨by omega,by omega⟩,?_⟩
     refine hK _ ?_
     clear hK K
     refine zw (zk [1,2,3,9,10]) ?_
     simp only [go_sem]
     repeat refine zq ?_
     refine zd ?_
     refine awp_upto (n:=61) (r.start.toNat + 1) (fun s vs=>[(1,.r (tabR T)),(2,.r (.bo most)),(3,.r (.rp (ruC r))),(9,.r (i64 i)),(10,.r (i64 s))])
      (fun s=>[]) (fun s=>lowestR r ≤ s ∧ badK r most T i = scan (badP r most T i) s (r.start.toNat + 1 - s)) (lowestR r).toNat (fit_of [] ?_ ?_) (by omega) ⟨by omega,rfl⟩ ?_
     · try simp only [go_sem]
       omega
     · try simp only [go_sem]
     · intro s vs hs hJ
       obtain ⟨hJ1,hJ2⟩:=hJ
       repeat refine zq ?_
       refine zb (by kernel_rfl) fun K hK=>?_
       simp only [go_sem]
       (try simp (disch:=omega) only [zI])
       repeat first | intro _ | refine ⟨by omega,?_⟩ | refine ⟨⟨by omega,by omega⟩,?_⟩
       refine hK _ ?_
       clear hK K
       refine zw (zk [1,2,3,9,10,23]) ?_
       simp only [go_sem]
       repeat refine zq ?_
       refine zc rfl (fun hc=>?_) (fun hc=>?_) <;> (try simp only [go_sem] at hc)
       · have hcs : s < row.length:=by omega
         have hss : (s : Int) ≤ r.start:=by omega
         obtain ⟨x,hx⟩:=opt_of_lt hcs
         have hG:=vis_form h hf (k:=i) (s:=s) (by omega) hss
         have hwh:=refWhole_ok most hG h.aims hH hJ1
         rw [scan_step (by omega)] at hJ2
         have gx : (T.getD i []).getD s 0 = x:=by simp [List.getD,hrow,hx]
         have hB : badP r most T i s = if most then decide (x < valV r most T i s 3 s) else decide (valV r most T i s 3 s < x):=by unfold badP; rw [gx]
         generalize valV r most T i s 3 s = v at hwh hB
         refine zx ?_
         try simp only [go_sem]
         repeat refine zq ?_
         refine zd ?_
         repeat refine zq ?_
         refine zb (by kernel_rfl) fun K hK=>?_
         simp only [go_sem]
         (try simp (disch:=omega) only [zI])
         refine zh (hwh) rfl (by simp only [go_sem,i64,ints]) (by simp only [go_sem,i64,ints]) (by first | exact .inl rfl | exact .inr rfl) ?_
         (try simp only [go_sem])
         (try simp (disch:=omega) only [zI])
         repeat first | intro _ | refine ⟨by omega,?_⟩ | refine ⟨⟨by omega,by omega⟩,?_⟩
         refine hK _ ?_
         clear hK K
         refine zw (zk [1,2,3,9,10,11]) ?_
         simp only [go_sem]
         cases hb : badP r most T i s
         · rw [hb] at hJ2
           rw [hb] at hB
           cases most
           · simp only [Bool.false_eq_true,if_false] at hB
             have d1 : decide (v < x) = false:=hB.symm
             repeat refine zq ?_
             refine zb (by kernel_rfl) fun K hK=>?_
             simp only [go_sem,hrow,hci,hx,hcs,d1]
             (try simp (disch:=omega) only [zI])
             repeat first | intro _ | refine ⟨by omega,?_⟩ | refine ⟨⟨by omega,by omega⟩,?_⟩
             refine hK _ ?_
             clear hK K
             refine zw (zk [1,2,3,9,10,58]) ?_
             simp only [go_sem]
             repeat refine zq ?_
             refine zc rfl (fun hc=>?_) (fun hc=>?_) <;> (try simp only [go_sem] at hc)
             refine zx ?_
             try simp only [go_sem]
             repeat refine zq ?_
             refine zb (by kernel_rfl) fun K hK=>?_
             simp only [go_sem]
             (try simp (disch:=omega) only [zI])
             repeat first | intro _ | refine ⟨by omega,?_⟩ | refine ⟨⟨by omega,by omega⟩,?_⟩
             refine hK _ ?_
             clear hK K
             try simp only [go_sem]
             refine ⟨by omega,⟨by omega,hJ2⟩,fit_of [] ?_ ?_⟩
             · try simp only [go_sem]
             · try simp only [go_sem]
           · simp only [if_true] at hB
             have d1 : decide (x < v) = false:=hB.symm
             repeat refine zq ?_
             refine zb (by kernel_rfl) fun K hK=>?_
             simp only [go_sem,hrow,hci,hx,hcs,d1]
             (try simp (disch:=omega) only [zI])
             repeat first | intro _ | refine ⟨by omega,?_⟩ | refine ⟨⟨by omega,by omega⟩,?_⟩
             refine hK _ ?_
             clear hK K
             refine zw (zk [1,2,3,9,10,58]) ?_
             simp only [go_sem]
             repeat refine zq ?_
             refine zc rfl (fun hc=>?_) (fun hc=>?_) <;> (try simp only [go_sem] at hc)
             refine zx ?_
             try simp only [go_sem]
             repeat refine zq ?_
             refine zb (by kernel_rfl) fun K hK=>?_
             simp only [go_sem]
             (try simp (disch:=omega) only [zI])
             repeat first | intro _ | refine ⟨by omega,?_⟩ | refine ⟨⟨by omega,by omega⟩,?_⟩
             refine hK _ ?_
             clear hK K
             try simp only [go_sem]
             refine ⟨by omega,⟨by omega,hJ2⟩,fit_of [] ?_ ?_⟩
             · try simp only [go_sem]
             · try simp only [go_sem]
         · rw [hb,if_pos rfl] at hJ2
           rw [hb] at hB
           have hP : provesO r most T = some (i,s):=by rw [hI,hJ2]
           rw [hP]
           cases most
           · simp only [Bool.false_eq_true,if_false] at hB
             have d1 : decide (v < x) = true:=hB.symm
             repeat refine zq ?_
             refine zb (by kernel_rfl) fun K hK=>?_
             simp only [go_sem,hrow,hci,hx,hcs,d1]
             (try simp (disch:=omega) only [zI])
             repeat first | intro _ | refine ⟨by omega,?_⟩ | refine ⟨⟨by omega,by omega⟩,?_⟩
             refine hK _ ?_
             clear hK K
             refine zw (zk [1,2,3,9,10,58]) ?_
             simp only [go_sem]
             repeat refine zq ?_
             refine zc rfl (fun hc=>?_) (fun hc=>?_) <;> (try simp only [go_sem] at hc)
             repeat refine zq ?_
             refine zb (by kernel_rfl) fun K hK=>?_
             simp only [go_sem]
             (try simp (disch:=omega) only [zI])
             repeat first | intro _ | refine ⟨by omega,?_⟩ | refine ⟨⟨by omega,by omega⟩,?_⟩
             refine hK _ ?_
             clear hK K
             refine zw (zk [6,7,8]) ?_
             simp only [go_sem]
             refine ze ?_
             simp only [go_sem]
             simp [pvK,pvS]
           · simp only [if_true] at hB
             have d1 : decide (x < v) = true:=hB.symm
             repeat refine zq ?_
             refine zb (by kernel_rfl) fun K hK=>?_
             simp only [go_sem,hrow,hci,hx,hcs,d1]
             (try simp (disch:=omega) only [zI])
             repeat first | intro _ | refine ⟨by omega,?_⟩ | refine ⟨⟨by omega,by omega⟩,?_⟩
             refine hK _ ?_
             clear hK K
             refine zw (zk [1,2,3,9,10,58]) ?_
             simp only [go_sem]
             repeat refine zq ?_
             refine zc rfl (fun hc=>?_) (fun hc=>?_) <;> (try simp only [go_sem] at hc)
             repeat refine zq ?_
             refine zb (by kernel_rfl) fun K hK=>?_
             simp only [go_sem]
             (try simp (disch:=omega) only [zI])
             repeat first | intro _ | refine ⟨by omega,?_⟩ | refine ⟨⟨by omega,by omega⟩,?_⟩
             refine hK _ ?_
             clear hK K
             refine zw (zk [6,7,8]) ?_
             simp only [go_sem]
             refine ze ?_
             simp only [go_sem]
             simp [pvK,pvS]
       · have hsl : s = r.start.toNat + 1:=by omega
         have hnone : badK r most T i = none:=by rw [hJ2,hsl,Nat.sub_self,scan]
         rw [hnone] at hI
         refine zf ?_
         simp only [go_sem]
         repeat refine zq ?_
         refine zb (by kernel_rfl) fun K hK=>?_
         simp only [go_sem]
         (try simp (disch:=omega) only [zI])
         repeat first | intro _ | refine ⟨by omega,?_⟩ | refine ⟨⟨by omega,by omega⟩,?_⟩
         refine hK _ ?_
         clear hK K
         try simp only [go_sem]
         refine ⟨by omega,hI,fit_of [] ?_ ?_⟩
         · try simp only [go_sem]
         · try simp only [go_sem]
   · have hil : i = T.length:=by omega
     rw [hil,Nat.sub_self,scan2] at hI
     rw [hI]
     refine zf ?_
     simp only [go_sem]
     repeat refine zq ?_
     refine zb (by kernel_rfl) fun K hK=>?_
     simp only [go_sem]
     (try simp (disch:=omega) only [zI])
     repeat first | intro _ | refine ⟨by omega,?_⟩ | refine ⟨⟨by omega,by omega⟩,?_⟩
     refine hK _ ?_
     clear hK K
     refine zw (zk [6,7,8]) ?_
     simp only [go_sem]
     refine ze ?_
     simp only [go_sem]
     simp [pvK,pvS]
end Go.Proofs.Ytlbfkhikmigpbaa

namespace Go.Proofs.Ytlbfkhikmigpbaa
open Go Go.Oc
set_option linter.unusedSimpArgs false
set_option linter.unusedVariables false
set_option maxRecDepth 8000
set_option maxHeartbeats 1000000
def provesE (r : Ru) (T : List (List Int)) : Int:=if ruE r = 0 then formE r T else ruE r
def provesR (r : Ru) (most : Bool) (T : List (List Int)) : RV :=
 if provesE r T = 0 then .tu [.bo (provesO r most T).isNone,i64 (pvK (provesO r most T)),i64 (pvS (provesO r most T)),i64 0] else .tu [.bo false,i64 0,i64 0,i64 (provesE r T)]
theorem proves_ok (r : Ru) (hw : WfR r) (most : Bool) (T : List (List Int)) : ACalls Try.prog 27 [ruV r,tabR T,.bo most] (provesR r most T):=by
 have hch:=dcheck_ok r hw
 by_cases h0 : ruE r = 0
 rotate_left
 · have e : provesE r T = ruE r:=by rw [provesE,if_neg h0]
   have eR : provesR r most T = .tu [.bo false,i64 0,i64 0,i64 (ruE r)]:=by rw [provesR,e,if_neg h0]
   have c : (ruE r != 0) = true:=by simpa using h0
   rw [eR]
   refine acalls_st (rs:=[.bo false,i64 0,i64 0,i64 (ruE r)]) [.tmp 6,.tmp 7,.tmp 8,.tmp 9] Try.func27 rfl (by kernel_rfl) Try.ntmps27 rfl (by simp) rfl fun C vs=>?_
   repeat refine zq ?_
   refine zb (by kernel_rfl) fun K hK=>?_
   simp only [go_sem]
   (try simp (disch:=omega) only [zI])
   repeat first | intro _ | refine ⟨by omega,?_⟩ | refine ⟨⟨by omega,by omega⟩,?_⟩
   refine hK _ ?_
   clear hK K
   refine zw (sub_frzP 3 3 (ruC r) (by omega) rfl rfl) ?_
   refine zw (zk [1,2,3]) ?_
   simp only [go_sem]
   repeat refine zq ?_
   refine zb (by kernel_rfl) fun K hK=>?_
   simp only [go_sem]
   (try simp (disch:=omega) only [zI])
   refine zh (hch) rfl (by simp only [go_sem,i64,ints]) (by simp only [go_sem,i64,ints]) (by first | exact .inl rfl | exact .inr rfl) ?_
   (try simp only [go_sem])
   (try simp (disch:=omega) only [zI])
   repeat first | intro _ | refine ⟨by omega,?_⟩ | refine ⟨⟨by omega,by omega⟩,?_⟩
   refine hK _ ?_
   clear hK K
   refine zw (zk [1,2,3,10]) ?_
   simp only [go_sem]
   repeat refine zq ?_
   refine zb (by kernel_rfl) fun K hK=>?_
   simp only [go_sem,c]
   (try simp (disch:=omega) only [zI])
   repeat first | intro _ | refine ⟨by omega,?_⟩ | refine ⟨⟨by omega,by omega⟩,?_⟩
   refine hK _ ?_
   clear hK K
   refine zw (zk [1,2,3,10,20]) ?_
   simp only [go_sem]
   repeat refine zq ?_
   refine zc rfl (fun hc=>?_) (fun hc=>?_) <;> (try simp only [go_sem] at hc)
   repeat refine zq ?_
   refine zb (by kernel_rfl) fun K hK=>?_
   simp only [go_sem]
   (try simp (disch:=omega) only [zI])
   repeat first | intro _ | refine ⟨by omega,?_⟩ | refine ⟨⟨by omega,by omega⟩,?_⟩
   refine hK _ ?_
   clear hK K
   refine zw (zk [6,7,8,9]) ?_
   simp only [go_sem]
   refine ze ?_
   simp only [go_sem]
 have e : provesE r T = formE r T:=by rw [provesE,if_pos h0]
 obtain ⟨hG,_⟩:=ruG_of h0
 have hfo:=form_ok hG T
 rw [h0] at hch
 by_cases hf : formE r T = 0
 rotate_left
 · have eR : provesR r most T = .tu [.bo false,i64 0,i64 0,i64 (formE r T)]:=by rw [provesR,e,if_neg hf]
   have c : (formE r T != 0) = true:=by simpa using hf
   rw [eR]
   refine acalls_st (rs:=[.bo false,i64 0,i64 0,i64 (formE r T)]) [.tmp 6,.tmp 7,.tmp 8,.tmp 9] Try.func27 rfl (by kernel_rfl) Try.ntmps27 rfl (by simp) rfl fun C vs=>?_
   repeat refine zq ?_
   refine zb (by kernel_rfl) fun K hK=>?_
   simp only [go_sem]
   (try simp (disch:=omega) only [zI])
   repeat first | intro _ | refine ⟨by omega,?_⟩ | refine ⟨⟨by omega,by omega⟩,?_⟩
   refine hK _ ?_
   clear hK K
   refine zw (sub_frzP 3 3 (ruC r) (by omega) rfl rfl) ?_
   refine zw (zk [1,2,3]) ?_
   simp only [go_sem]
   repeat refine zq ?_
   refine zb (by kernel_rfl) fun K hK=>?_
   simp only [go_sem]
   (try simp (disch:=omega) only [zI])
   refine zh (hch) rfl (by simp only [go_sem,i64,ints]) (by simp only [go_sem,i64,ints]) (by first | exact .inl rfl | exact .inr rfl) ?_
   (try simp only [go_sem])
   (try simp (disch:=omega) only [zI])
   repeat first | intro _ | refine ⟨by omega,?_⟩ | refine ⟨⟨by omega,by omega⟩,?_⟩
   refine hK _ ?_
   clear hK K
   refine zw (zk [1,2,3,10]) ?_
   simp only [go_sem]
   repeat refine zq ?_
   refine zb (by kernel_rfl) fun K hK=>?_
   simp only [go_sem,bne_self_eq_false]
   (try simp (disch:=omega) only [zI])
   repeat first | intro _ | refine ⟨by omega,?_⟩ | refine ⟨⟨by omega,by omega⟩,?_⟩
   refine hK _ ?_
   clear hK K
   refine zw (zk [1,2,3,10,20]) ?_
   simp only [go_sem]
   repeat refine zq ?_
   refine zc rfl (fun hc=>?_) (fun hc=>?_) <;> (try simp only [go_sem] at hc)
   refine zx ?_
   try simp only [go_sem]
   repeat refine zq ?_
   refine zb (by kernel_rfl) fun K hK=>?_
   simp only [go_sem]
   (try simp (disch:=omega) only [zI])
   repeat first | intro _ | refine ⟨by omega,?_⟩ | refine ⟨⟨by omega,by omega⟩,?_⟩
   refine hK _ ?_
   clear hK K
   refine zw (sub_frzP 11 27 (sideC r most T) (by omega) rfl rfl) ?_
   refine zw (zk [1,2,3,11]) ?_
   simp only [go_sem]
   repeat refine zq ?_
   refine zb (by kernel_rfl) fun K hK=>?_
   simp only [go_sem]
   (try simp (disch:=omega) only [zI])
   refine zh (hfo) rfl (by simp only [go_sem,i64,ints]) (by simp only [go_sem,i64,ints]) (by first | exact .inl rfl | exact .inr rfl) ?_
   (try simp only [go_sem])
   (try simp (disch:=omega) only [zI])
   repeat first | intro _ | refine ⟨by omega,?_⟩ | refine ⟨⟨by omega,by omega⟩,?_⟩
   refine hK _ ?_
   clear hK K
   refine zw (zk [1,2,3,11,12]) ?_
   simp only [go_sem]
   repeat refine zq ?_
   refine zb (by kernel_rfl) fun K hK=>?_
   simp only [go_sem,c]
   (try simp (disch:=omega) only [zI])
   repeat first | intro _ | refine ⟨by omega,?_⟩ | refine ⟨⟨by omega,by omega⟩,?_⟩
   refine hK _ ?_
   clear hK K
   refine zw (zk [1,2,3,11,12,35]) ?_
   simp only [go_sem]
   repeat refine zq ?_
   refine zc rfl (fun hc=>?_) (fun hc=>?_) <;> (try simp only [go_sem] at hc)
   repeat refine zq ?_
   refine zb (by kernel_rfl) fun K hK=>?_
   simp only [go_sem]
   (try simp (disch:=omega) only [zI])
   repeat first | intro _ | refine ⟨by omega,?_⟩ | refine ⟨⟨by omega,by omega⟩,?_⟩
   refine hK _ ?_
   clear hK K
   refine zw (zk [6,7,8,9]) ?_
   simp only [go_sem]
   refine ze ?_
   simp only [go_sem]
 have eR : provesR r most T = .tu [.bo (provesO r most T).isNone,i64 (pvK (provesO r most T)),i64 (pvS (provesO r most T)),i64 0]:=by rw [provesR,e,if_pos hf]
 rw [eR]
 rw [hf] at hfo
 obtain ⟨hTn,hTr⟩:=form_spec hf
 have h10:=hG.h10
 have hs2:=hG.s2
 have hs40:=hG.s40
 have hlow : lowestR r = 1 ∨ lowestR r = 2:=by unfold lowestR; split <;> simp
 have hlo:=dlowest_ok r
 refine acalls_st (rs:=[.bo (provesO r most T).isNone,i64 (pvK (provesO r most T)),i64 (pvS (provesO r most T)),i64 0]) [.tmp 6,.tmp 7,.tmp 8,.tmp 9] Try.func27 rfl (by kernel_rfl) Try.ntmps27 rfl (by simp) rfl fun C vs=>?_
 repeat refine zq ?_
 refine zb (by kernel_rfl) fun K hK=>?_
 simp only [go_sem]
 (try simp (disch:=omega) only [zI])
 repeat first | intro _ | refine ⟨by omega,?_⟩ | refine ⟨⟨by omega,by omega⟩,?_⟩
 refine hK _ ?_
 clear hK K
 refine zw (sub_frzP 3 3 (ruC r) (by omega) rfl rfl) ?_
 refine zw (zk [1,2,3]) ?_
 simp only [go_sem]
 repeat refine zq ?_
 refine zb (by kernel_rfl) fun K hK=>?_
 simp only [go_sem]
 (try simp (disch:=omega) only [zI])
 refine zh (hch) rfl (by simp only [go_sem,i64,ints]) (by simp only [go_sem,i64,ints]) (by first | exact .inl rfl | exact .inr rfl) ?_
 (try simp only [go_sem])
 (try simp (disch:=omega) only [zI])
 repeat first | intro _ | refine ⟨by omega,?_⟩ | refine ⟨⟨by omega,by omega⟩,?_⟩
 refine hK _ ?_
 clear hK K
 refine zw (zk [1,2,3,10]) ?_
 simp only [go_sem]
 repeat refine zq ?_
 refine zb (by kernel_rfl) fun K hK=>?_
 simp only [go_sem,bne_self_eq_false]
 (try simp (disch:=omega) only [zI])
 repeat first | intro _ | refine ⟨by omega,?_⟩ | refine ⟨⟨by omega,by omega⟩,?_⟩
 refine hK _ ?_
 clear hK K
 refine zw (zk [1,2,3,10,20]) ?_
 simp only [go_sem]
 repeat refine zq ?_
 refine zc rfl (fun hc=>?_) (fun hc=>?_) <;> (try simp only [go_sem] at hc)
 refine zx ?_
 try simp only [go_sem]
 repeat refine zq ?_
 refine zb (by kernel_rfl) fun K hK=>?_
 simp only [go_sem]
 (try simp (disch:=omega) only [zI])
 repeat first | intro _ | refine ⟨by omega,?_⟩ | refine ⟨⟨by omega,by omega⟩,?_⟩
 refine hK _ ?_
 clear hK K
 refine zw (sub_frzP 11 27 (sideC r most T) (by omega) rfl rfl) ?_
 refine zw (zk [1,2,3,11]) ?_
 simp only [go_sem]
 repeat refine zq ?_
 refine zb (by kernel_rfl) fun K hK=>?_
 simp only [go_sem]
 (try simp (disch:=omega) only [zI])
 refine zh (hfo) rfl (by simp only [go_sem,i64,ints]) (by simp only [go_sem,i64,ints]) (by first | exact .inl rfl | exact .inr rfl) ?_
 (try simp only [go_sem])
 (try simp (disch:=omega) only [zI])
 repeat first | intro _ | refine ⟨by omega,?_⟩ | refine ⟨⟨by omega,by omega⟩,?_⟩
 refine hK _ ?_
 clear hK K
 refine zw (zk [1,2,3,11,12]) ?_
 simp only [go_sem]
 repeat refine zq ?_
 refine zb (by kernel_rfl) fun K hK=>?_
 simp only [go_sem,bne_self_eq_false]
 (try simp (disch:=omega) only [zI])
 repeat first | intro _ | refine ⟨by omega,?_⟩ | refine ⟨⟨by omega,by omega⟩,?_⟩
 refine hK _ ?_
 clear hK K
 refine zw (zk [1,2,3,11,12,35]) ?_
 simp only [go_sem]
 repeat refine zq ?_
 refine zc rfl (fun hc=>?_) (fun hc=>?_) <;> (try simp only [go_sem] at hc)
 refine zx ?_
 try simp only [go_sem]
 repeat refine zq ?_
 refine zb (by kernel_rfl) fun K hK=>?_
 simp only [go_sem]
 (try simp (disch:=omega) only [zI])
 intro hl8
 repeat first | intro _ | refine ⟨by omega,?_⟩ | refine ⟨⟨by omega,by omega⟩,?_⟩
 refine hK _ ?_
 clear hK K
 refine zw (zk [2,3,11,37,38,39]) ?_
 simp only [go_sem]
 repeat refine zq ?_
 refine zd ?_
 refine awp_upto (n:=72) T.length (fun i vs=>[(2,.r (.bo most)),(3,.r (.rp (ruC r))),(11,.r (sideP r most T)),(37,.r (tabR T)),(38,.r (i64 T.length)),(39,.r (i64 i))])
  (fun i=>[]) (fun i=>provesO r most T = scan2 (badK r most T) i (T.length - i)) 0 (fit_of [] ?_ ?_) (Nat.zero_le _) rfl ?_
 · try simp only [go_sem]
 · try simp only [go_sem]
 · intro i vs hi hI
   repeat refine zq ?_
   refine zb (by kernel_rfl) fun K hK=>?_
   simp only [go_sem]
   (try simp (disch:=omega) only [zI])
   repeat first | intro _ | refine ⟨by omega,?_⟩ | refine ⟨⟨by omega,by omega⟩,?_⟩
   refine hK _ ?_
   clear hK K
   refine zw (zk [2,3,11,37,38,39,40]) ?_
   simp only [go_sem]
   repeat refine zq ?_
   refine zc rfl (fun hc=>?_) (fun hc=>?_) <;> (try simp only [go_sem] at hc)
   · have hci : i < T.length:=by omega
     obtain ⟨row,hrow⟩:=opt_of_lt hci
     obtain ⟨hrl,hrv⟩:=hTr row (mem_of_opt hrow)
     rw [scan2_step hci] at hI
     refine zx ?_
     try simp only [go_sem]
     repeat refine zq ?_
     refine zd ?_
     repeat refine zq ?_
     refine zb (by kernel_rfl) fun K hK=>?_
     simp only [go_sem,hrow,hci]
     (try simp (disch:=omega) only [zI])
     repeat first | intro _ | refine ⟨by omega,?_⟩ | refine ⟨⟨by omega,by omega⟩,?_⟩
     refine hK _ ?_
     clear hK K
     refine zw (zk [2,3,11,13,14,37,38,39]) ?_
     simp only [go_sem]
     repeat refine zq ?_
     refine zb (by kernel_rfl) fun K hK=>?_
     simp only [go_sem]
     (try simp (disch:=omega) only [zI])
     refine zh (hlo) rfl (by simp only [go_sem,i64,ints]) (by simp only [go_sem,i64,ints]) (by first | exact .inl rfl | exact .inr rfl) ?_
     (try simp only [go_sem])
     (try simp (disch:=omega) only [zI])
     repeat first | intro _ | refine ⟨by omega,?_⟩ | refine ⟨⟨by omega,by omega⟩,?_⟩
     refine hK _ ?_
     clear hK K
     refine zw (zk [2,3,11,13,14,15,37,38,39]) ?_
     simp only [go_sem]
     repeat refine zq ?_
     refine zd ?_
     refine awp_upto (n:=72) (r.start.toNat + 1) (fun s vs=>[(2,.r (.bo most)),(3,.r (.rp (ruC r))),(11,.r (sideP r most T)),(13,.r (i64 i)),(14,.r (ints row)),(15,.r (i64 s)),(37,.r (tabR T)),(38,.r (i64 T.length)),(39,.r (i64 i))])
      (fun s=>[]) (fun s=>lowestR r ≤ s ∧ badK r most T i = scan (badP r most T i) s (r.start.toNat + 1 - s)) (lowestR r).toNat (fit_of [] ?_ ?_) (by omega) ⟨by omega,rfl⟩ ?_
     · try simp only [go_sem]
       omega
     · try simp only [go_sem]
     · intro s vs hs hJ
       obtain ⟨hJ1,hJ2⟩:=hJ
       repeat refine zq ?_
       refine zb (by kernel_rfl) fun K hK=>?_
       simp only [go_sem]
       (try simp (disch:=omega) only [zI])
       repeat first | intro _ | refine ⟨by omega,?_⟩ | refine ⟨⟨by omega,by omega⟩,?_⟩
       refine hK _ ?_
       clear hK K
       refine zw (zk [2,3,11,13,14,15,37,38,39,52]) ?_
       simp only [go_sem]
       repeat refine zq ?_
       refine zc rfl (fun hc=>?_) (fun hc=>?_) <;> (try simp only [go_sem] at hc)
       · have hcs : s < row.length:=by omega
         have hss : (s : Int) ≤ r.start:=by omega
         obtain ⟨x,hx⟩:=opt_of_lt hcs
         have hx1:=hrv x (mem_of_opt hx)
         have hG2:=vis_form hG hf (k:=i) (s:=s) (by omega) hss
         have hwh:=whole_ok most hG2 hG.aims (by omega)
         have hvl:=valV_le (most:=most) hG2 hG.aims 3 s hss
         rw [scan_step (by omega)] at hJ2
         have gx : (T.getD i []).getD s 0 = x:=by simp [List.getD,hrow,hx]
         have hB : badP r most T i s = if most then decide (x < valV r most T i s 3 s) else decide (valV r most T i s 3 s < x):=by unfold badP; rw [gx]
         generalize valV r most T i s 3 s = v at hwh hB hvl
         have hdw : IntKind.i64.wrap (x - v) = x - v:=by rw [zI] <;> omega
         have hnw : IntKind.i64.wrap (0 - (x - v)) = v - x:=by rw [zI] <;> omega
         refine zx ?_
         try simp only [go_sem]
         repeat refine zq ?_
         refine zd ?_
         repeat refine zq ?_
         refine zg follows (by decide +kernel) (by kernel_rfl) fun K hK=>?_
         simp only [go_sem,hx,hcs,hdw]
         (try simp (disch:=omega) only [zI])
         refine zh (hwh) rfl (by simp only [go_sem,i64,ints,hx,hcs,hdw]) (by simp only [go_sem,i64,ints,hx,hcs,hdw]) (by first | exact .inl rfl | exact .inr rfl) ?_
         (try simp only [go_sem,hx,hcs,hdw])
         (try simp (disch:=omega) only [zI])
         repeat first | intro _ | refine ⟨by omega,?_⟩ | refine ⟨⟨by omega,by omega⟩,?_⟩
         refine hK _ ?_
         clear hK K
         refine zw (zk [2,3,11,13,14,15,16,37,38,39]) ?_
         simp only [go_sem]
         cases hb : badP r most T i s
         · rw [hb] at hJ2
           rw [hb] at hB
           cases most
           · simp only [Bool.false_eq_true,if_false] at hB
             have hvx : ¬ v < x:=by simpa using hB.symm
             have d1 : decide (0 < x - v) = false:=by simp; omega
             repeat refine zq ?_
             refine zb (by kernel_rfl) fun K hK=>?_
             simp only [go_sem]
             (try simp (disch:=omega) only [zI])
             repeat first | intro _ | refine ⟨by omega,?_⟩ | refine ⟨⟨by omega,by omega⟩,?_⟩
             refine hK _ ?_
             clear hK K
             refine zw (zk [2,3,11,13,14,15,16,37,38,39,64]) ?_
             simp only [go_sem]
             repeat refine zq ?_
             refine zc rfl (fun hc=>?_) (fun hc=>?_) <;> (try simp only [go_sem] at hc)
             refine zx ?_
             try simp only [go_sem]
             repeat refine zq ?_
             refine zb (by kernel_rfl) fun K hK=>?_
             simp only [go_sem,d1]
             (try simp (disch:=omega) only [zI])
             repeat first | intro _ | refine ⟨by omega,?_⟩ | refine ⟨⟨by omega,by omega⟩,?_⟩
             refine hK _ ?_
             clear hK K
             refine zw (zk [2,3,11,13,14,15,37,38,39,68]) ?_
             simp only [go_sem]
             repeat refine zq ?_
             refine zc rfl (fun hc=>?_) (fun hc=>?_) <;> (try simp only [go_sem] at hc)
             refine zx ?_
             try simp only [go_sem]
             repeat refine zq ?_
             refine zb (by kernel_rfl) fun K hK=>?_
             simp only [go_sem]
             (try simp (disch:=omega) only [zI])
             repeat first | intro _ | refine ⟨by omega,?_⟩ | refine ⟨⟨by omega,by omega⟩,?_⟩
             refine hK _ ?_
             clear hK K
             try simp only [go_sem]
             refine ⟨by omega,⟨by omega,hJ2⟩,fit_of [] ?_ ?_⟩
             · try simp only [go_sem]
             · try simp only [go_sem]
           · simp only [if_true] at hB
             have hvx : ¬ x < v:=by simpa using hB.symm
             have d1 : decide (0 < v - x) = false:=by simp; omega
             repeat refine zq ?_
             refine zb (by kernel_rfl) fun K hK=>?_
             simp only [go_sem]
             (try simp (disch:=omega) only [zI])
             repeat first | intro _ | refine ⟨by omega,?_⟩ | refine ⟨⟨by omega,by omega⟩,?_⟩
             refine hK _ ?_
             clear hK K
             refine zw (zk [2,3,11,13,14,15,16,37,38,39,64]) ?_
             simp only [go_sem]
             repeat refine zq ?_
             refine zc rfl (fun hc=>?_) (fun hc=>?_) <;> (try simp only [go_sem] at hc)
             repeat refine zq ?_
             refine zb (by kernel_rfl) fun K hK=>?_
             simp only [go_sem,hnw]
             (try simp (disch:=omega) only [zI])
             repeat first | intro _ | refine ⟨by omega,?_⟩ | refine ⟨⟨by omega,by omega⟩,?_⟩
             refine hK _ ?_
             clear hK K
             refine zw (zk [2,3,11,13,14,15,16,37,38,39]) ?_
             simp only [go_sem]
             repeat refine zq ?_
             refine zb (by kernel_rfl) fun K hK=>?_
             simp only [go_sem,d1]
             (try simp (disch:=omega) only [zI])
             repeat first | intro _ | refine ⟨by omega,?_⟩ | refine ⟨⟨by omega,by omega⟩,?_⟩
             refine hK _ ?_
             clear hK K
             refine zw (zk [2,3,11,13,14,15,37,38,39,68]) ?_
             simp only [go_sem]
             repeat refine zq ?_
             refine zc rfl (fun hc=>?_) (fun hc=>?_) <;> (try simp only [go_sem] at hc)
             refine zx ?_
             try simp only [go_sem]
             repeat refine zq ?_
             refine zb (by kernel_rfl) fun K hK=>?_
             simp only [go_sem]
             (try simp (disch:=omega) only [zI])
             repeat first | intro _ | refine ⟨by omega,?_⟩ | refine ⟨⟨by omega,by omega⟩,?_⟩
             refine hK _ ?_
             clear hK K
             try simp only [go_sem]
             refine ⟨by omega,⟨by omega,hJ2⟩,fit_of [] ?_ ?_⟩
             · try simp only [go_sem]
             · try simp only [go_sem]
         · rw [hb,if_pos rfl] at hJ2
           rw [hb] at hB
           have hP : provesO r most T = some (i,s):=by rw [hI,hJ2]
           rw [hP]
           cases most
           · simp only [Bool.false_eq_true,if_false] at hB
             have hvx : v < x:=by simpa using hB.symm
             have d1 : decide (0 < x - v) = true:=by simp; omega
             repeat refine zq ?_
             refine zb (by kernel_rfl) fun K hK=>?_
             simp only [go_sem]
             (try simp (disch:=omega) only [zI])
             repeat first | intro _ | refine ⟨by omega,?_⟩ | refine ⟨⟨by omega,by omega⟩,?_⟩
             refine hK _ ?_
             clear hK K
             refine zw (zk [2,3,11,13,14,15,16,37,38,39,64]) ?_
             simp only [go_sem]
             repeat refine zq ?_
             refine zc rfl (fun hc=>?_) (fun hc=>?_) <;> (try simp only [go_sem] at hc)
             refine zx ?_
             try simp only [go_sem]
             repeat refine zq ?_
             refine zb (by kernel_rfl) fun K hK=>?_
             simp only [go_sem,d1]
             (try simp (disch:=omega) only [zI])
             repeat first | intro _ | refine ⟨by omega,?_⟩ | refine ⟨⟨by omega,by omega⟩,?_⟩
             refine hK _ ?_
             clear hK K
             refine zw (zk [2,3,11,13,14,15,37,38,39,68]) ?_
             simp only [go_sem]
             repeat refine zq ?_
             refine zc rfl (fun hc=>?_) (fun hc=>?_) <;> (try simp only [go_sem] at hc)
             repeat refine zq ?_
             refine zb (by kernel_rfl) fun K hK=>?_
             simp only [go_sem]
             (try simp (disch:=omega) only [zI])
             repeat first | intro _ | refine ⟨by omega,?_⟩ | refine ⟨⟨by omega,by omega⟩,?_⟩
             refine hK _ ?_
             clear hK K
             refine zw (zk [6,7,8,9]) ?_
             simp only [go_sem]
             refine ze ?_
             simp only [go_sem]
             simp [pvK,pvS]
           · simp only [if_true] at hB
             have hvx : x < v:=by simpa using hB.symm
             have d1 : decide (0 < v - x) = true:=by simp; omega
             repeat refine zq ?_
             refine zb (by kernel_rfl) fun K hK=>?_
             simp only [go_sem]
             (try simp (disch:=omega) only [zI])
             repeat first | intro _ | refine ⟨by omega,?_⟩ | refine ⟨⟨by omega,by omega⟩,?_⟩
             refine hK _ ?_
             clear hK K
             refine zw (zk [2,3,11,13,14,15,16,37,38,39,64]) ?_
             simp only [go_sem]
             repeat refine zq ?_
             refine zc rfl (fun hc=>?_) (fun hc=>?_) <;> (try simp only [go_sem] at hc)
             repeat refine zq ?_
             refine zb (by kernel_rfl) fun K hK=>?_
             simp only [go_sem,hnw]
             (try simp (disch:=omega) only [zI])
             repeat first | intro _ | refine ⟨by omega,?_⟩ | refine ⟨⟨by omega,by omega⟩,?_⟩
             refine hK _ ?_
             clear hK K
             refine zw (zk [2,3,11,13,14,15,16,37,38,39]) ?_
             simp only [go_sem]
             repeat refine zq ?_
             refine zb (by kernel_rfl) fun K hK=>?_
             simp only [go_sem,d1]
             (try simp (disch:=omega) only [zI])
             repeat first | intro _ | refine ⟨by omega,?_⟩ | refine ⟨⟨by omega,by omega⟩,?_⟩
             refine hK _ ?_
             clear hK K
             refine zw (zk [2,3,11,13,14,15,37,38,39,68]) ?_
             simp only [go_sem]
             repeat refine zq ?_
             refine zc rfl (fun hc=>?_) (fun hc=>?_) <;> (try simp only [go_sem] at hc)
             repeat refine zq ?_
             refine zb (by kernel_rfl) fun K hK=>?_
             simp only [go_sem]
             (try simp (disch:=omega) only [zI])
             repeat first | intro _ | refine ⟨by omega,?_⟩ | refine ⟨⟨by omega,by omega⟩,?_⟩
             refine hK _ ?_
             clear hK K
             refine zw (zk [6,7,8,9]) ?_
             simp only [go_sem]
             refine ze ?_
             simp only [go_sem]
             simp [pvK,pvS]
       · have hsl : s = r.start.toNat + 1:=by omega
         have hnone : badK r most T i = none:=by rw [hJ2,hsl,Nat.sub_self,scan]
         rw [hnone] at hI
         refine zf ?_
         simp only [go_sem]
         repeat refine zq ?_
         refine zb (by kernel_rfl) fun K hK=>?_
         simp only [go_sem]
         (try simp (disch:=omega) only [zI])
         repeat first | intro _ | refine ⟨by omega,?_⟩ | refine ⟨⟨by omega,by omega⟩,?_⟩
         refine hK _ ?_
         clear hK K
         try simp only [go_sem]
         refine ⟨by omega,hI,fit_of [] ?_ ?_⟩
         · try simp only [go_sem]
         · try simp only [go_sem]
   · have hil : i = T.length:=by omega
     rw [hil,Nat.sub_self,scan2] at hI
     rw [hI]
     refine zf ?_
     simp only [go_sem]
     repeat refine zq ?_
     refine zb (by kernel_rfl) fun K hK=>?_
     simp only [go_sem]
     (try simp (disch:=omega) only [zI])
     repeat first | intro _ | refine ⟨by omega,?_⟩ | refine ⟨⟨by omega,by omega⟩,?_⟩
     refine hK _ ?_
     clear hK K
     refine zw (zk [6,7,8,9]) ?_
     simp only [go_sem]
     refine ze ?_
     simp only [go_sem]
     simp [pvK,pvS]
end Go.Proofs.Ytlbfkhikmigpbaa

namespace Go.Proofs.Ytlbfkhikmigpbaa
open Go Go.Oc
set_option linter.unusedSimpArgs false
set_option linter.unusedVariables false
set_option maxRecDepth 8000
set_option maxHeartbeats 1000000
theorem rules_ok (r : Ru) (hlen : r.aims.length ≤ 1000000) (hends : r.ends.length ≤ 1000000) (hb : ∀ a ∈ r.aims,a.beds.length ≤ 1000000) : ACalls Try.prog 14 [ruV r] (ruV r):=by
 refine acalls_st (rs:=[ruV r]) [.cell 2 28] Try.func14 rfl (by kernel_rfl) Try.ntmps14 rfl (by simp) rfl fun C vs=>?_
 repeat refine zq ?_
 refine zb (by kernel_rfl) fun K hK=>?_
 simp only [go_sem]
 (try simp (disch:=omega) only [zI])
 repeat first | intro _ | refine ⟨by omega,?_⟩ | refine ⟨⟨by omega,by omega⟩,?_⟩
 refine hK _ ?_
 clear hK K
 refine zw (sub_frzP 1 1 (ruC r) (by omega) rfl rfl) ?_
 refine zw (zk [1,2]) ?_
 simp only [go_sem]
 repeat refine zq ?_
 refine zb (by kernel_rfl) fun K hK=>?_
 simp only [go_sem]
 (try simp (disch:=omega) only [zI])
 repeat first | intro _ | refine ⟨by omega,?_⟩ | refine ⟨⟨by omega,by omega⟩,?_⟩
 refine hK _ ?_
 clear hK K
 refine zw (zk [1,2,3]) ?_
 simp only [go_sem]
 repeat refine zq ?_
 refine zb (by kernel_rfl) fun K hK=>?_
 simp only [go_sem]
 (try simp (disch:=omega) only [zI])
 repeat first | intro _ | refine ⟨by omega,?_⟩ | refine ⟨⟨by omega,by omega⟩,?_⟩
 refine hK _ ?_
 clear hK K
 refine zw (sub_frzB 3 4 10 (ty:=52) (sz:=2) (off:=0) (m:=r.ends.length) (es:=r.ends.map spanR) (by omega) (by omega) rfl (by simp only [go_sem,List.getElem?_cons_succ,List.getElem?_cons_zero]) (by rfl) (by simp)) ?_
 have e1 : ((r.ends.map spanR).drop 0).take r.ends.length = r.ends.map spanR:=by
  rw [List.drop_zero,List.take_of_length_le (by simp)]
 rw [e1]
 refine zw (zk [1,2,3]) ?_
 simp only [go_sem]
 refine zw (sub_ownB 3 1 38 78 2 (by omega) (by omega) rfl (by simp only [go_sem,List.getElem?_cons_succ,List.getElem?_cons_zero])) ?_
 try simp only [go_sem]
 repeat refine zq ?_
 refine zb (by kernel_rfl) fun K hK=>?_
 simp only [go_sem]
 (try simp (disch:=omega) only [zI])
 repeat first | intro _ | refine ⟨by omega,?_⟩ | refine ⟨⟨by omega,by omega⟩,?_⟩
 refine hK _ ?_
 clear hK K
 refine zw (zk [1,2,3,4]) ?_
 simp only [go_sem]
 repeat refine zq ?_
 refine zd ?_
 refine awp_uptoV (n:=42) r.aims.length (fun i vs=>[(1,.r (.rp (ruC r))),(2,.pt 2 (vs 2) 0),(3,.pt 3 (vs 3) 0),(4,.r (i64 (i : Int)))])
  (fun i vs=>[(2,.box [.r (i64 0),.r .ns,.r (i64 0),.r (i64 0),.r .ns]),(3,.box [.r (i64 r.d),.os 38 (vs 38) 2 0 i,.r (i64 r.start),.r (i64 r.out),.r (spansR r.ends)]),(38,.arr 78 2 ((r.aims.take i).map aimR))]) (fun _=>True) 0 (zj [] ?_ ?_) (Nat.zero_le _) trivial ?_
 · try simp only [go_sem]
 · try simp only [go_sem]
 · intro i vs hi _
   repeat refine zq ?_
   refine zb (by kernel_rfl) fun K hK=>?_
   simp only [go_sem]
   (try simp (disch:=omega) only [zI])
   repeat first | intro _ | refine ⟨by omega,?_⟩ | refine ⟨⟨by omega,by omega⟩,?_⟩
   refine hK _ ?_
   clear hK K
   refine zw (zk [1,2,3,4,19]) ?_
   simp only [go_sem]
   repeat refine zq ?_
   refine zc rfl (fun hc=>?_) (fun hc=>?_) <;> (try simp only [go_sem] at hc)
   · have hci : i < r.aims.length:=by omega
     obtain ⟨a,ha⟩:=opt_of_lt hci
     have hal:=hb a (mem_of_opt ha)
     have hli : ((r.aims.take i).map aimR).length = i:=by rw [List.length_map,List.length_take]; omega
     have htk : (r.aims.take (i + 1)).map aimR = (r.aims.take i).map aimR ++ [aimR a]:=by rw [take_of_opt ha]; simp
     refine zx ?_
     try simp only [go_sem]
     repeat refine zq ?_
     refine zd ?_
     repeat refine zq ?_
     refine zb (by kernel_rfl) fun K hK=>?_
     simp only [go_sem,ha,hci,aimR]
     (try simp (disch:=omega) only [zI])
     repeat first | intro _ | refine ⟨by omega,?_⟩ | refine ⟨⟨by omega,by omega⟩,?_⟩
     refine hK _ ?_
     clear hK K
     refine zw (zk [1,2,3,4,5]) ?_
     simp only [go_sem]
     repeat refine zq ?_
     refine zb (by kernel_rfl) fun K hK=>?_
     simp only [go_sem]
     (try simp (disch:=omega) only [zI])
     repeat first | intro _ | refine ⟨by omega,?_⟩ | refine ⟨⟨by omega,by omega⟩,?_⟩
     refine hK _ ?_
     clear hK K
     refine zw (sub_frzB 5 1 31 (ty:=90) (sz:=3) (off:=0) (m:=a.beds.length) (es:=a.beds.map bedR) (by omega) (by omega) rfl (by simp only [go_sem,List.getElem?_cons_succ,List.getElem?_cons_zero]) (by rfl) (by simp)) ?_
     have e2 : ((a.beds.map bedR).drop 0).take a.beds.length = a.beds.map bedR:=by
      rw [List.drop_zero,List.take_of_length_le (by simp)]
     rw [e2]
     refine zw (zk [1,2,3,4,5]) ?_
     simp only [go_sem]
     repeat refine zq ?_
     refine zb (by kernel_rfl) fun K hK=>?_
     simp only [go_sem,hli]
     (try simp (disch:=omega) only [zI])
     repeat first | intro _ | refine ⟨by omega,?_⟩ | refine ⟨⟨by omega,by omega⟩,?_⟩
     refine hK _ ?_
     clear hK K
     refine zw (zk [1,2,3,4]) ?_
     simp only [go_sem]
     repeat refine zq ?_
     refine zb (by kernel_rfl) fun K hK=>?_
     simp only [go_sem]
     (try simp (disch:=omega) only [zI])
     repeat first | intro _ | refine ⟨by omega,?_⟩ | refine ⟨⟨by omega,by omega⟩,?_⟩
     refine hK _ ?_
     clear hK K
     try simp only [go_sem]
     refine ⟨by omega,zj [5] ?_ ?_⟩
     · try simp only [go_sem]
     · try simp only [go_sem]
       rw [htk]
       rfl
   · have hil : i = r.aims.length:=by omega
     subst hil
     rw [List.take_length]
     refine zf ?_
     simp only [go_sem]
     refine zw (sub_frzB 3 1 38 (ty:=78) (sz:=2) (off:=0) (m:=r.aims.length) (es:=r.aims.map aimR) (by omega) (by omega) rfl (by simp only [go_sem,List.getElem?_cons_succ,List.getElem?_cons_zero]) (by rfl) (by simp)) ?_
     have e2 : ((r.aims.map aimR).drop 0).take r.aims.length = r.aims.map aimR:=by
      rw [List.drop_zero,List.take_of_length_le (by simp)]
     rw [e2]
     refine zw (zk [2,3]) ?_
     simp only [go_sem]
     repeat refine zq ?_
     refine zb (by kernel_rfl) fun K hK=>?_
     simp only [go_sem]
     (try simp (disch:=omega) only [zI])
     repeat first | intro _ | refine ⟨by omega,?_⟩ | refine ⟨⟨by omega,by omega⟩,?_⟩
     refine hK _ ?_
     clear hK K
     refine zw (zk [2]) ?_
     simp only [go_sem]
     refine ze ?_
     simp only [go_sem]
theorem lists_ok (T : List (List Int)) (hl : T.length ≤ 1000000) (hr : ∀ row ∈ T,row.length ≤ 1000000) : ACalls Try.prog 26 [tabR T] (tabR T):=by
 refine acalls_st (rs:=[tabR T]) [.tmp 2] Try.func26 rfl (by kernel_rfl) Try.ntmps26 rfl (by simp) rfl fun C vs=>?_
 repeat refine zq ?_
 refine zb (by kernel_rfl) fun K hK=>?_
 simp only [go_sem]
 (try simp (disch:=omega) only [zI])
 repeat first | intro _ | refine ⟨by omega,?_⟩ | refine ⟨⟨by omega,by omega⟩,?_⟩
 refine hK _ ?_
 clear hK K
 refine zw (zk [0]) ?_
 simp only [go_sem]
 repeat refine zq ?_
 refine zb (by kernel_rfl) fun K hK=>?_
 simp only [go_sem]
 (try simp (disch:=omega) only [zI])
 repeat first | intro _ | refine ⟨by omega,?_⟩ | refine ⟨⟨by omega,by omega⟩,?_⟩
 refine hK _ ?_
 clear hK K
 refine zw (zk [0,3]) ?_
 simp only [go_sem]
 refine zw (sub_own 3 20 46 1 (by omega) rfl) ?_
 try simp only [go_sem]
 repeat refine zq ?_
 refine zb (by kernel_rfl) fun K hK=>?_
 simp only [go_sem]
 (try simp (disch:=omega) only [zI])
 repeat first | intro _ | refine ⟨by omega,?_⟩ | refine ⟨⟨by omega,by omega⟩,?_⟩
 refine hK _ ?_
 clear hK K
 refine zw (zk [0,3,4]) ?_
 simp only [go_sem]
 repeat refine zq ?_
 refine zd ?_
 refine awp_uptoV (n:=22) T.length (fun i vs=>[(0,.r (tabR T)),(3,.os 20 (vs 20) 1 0 i),(4,.r (i64 (i : Int)))])
  (fun i vs=>[(20,.arr 46 1 ((T.take i).map fun row=>[ints row]))]) (fun _=>True) 0 (zj [] ?_ ?_) (Nat.zero_le _) trivial ?_
 · try simp only [go_sem]
 · try simp only [go_sem]
 · intro i vs hi _
   repeat refine zq ?_
   refine zb (by kernel_rfl) fun K hK=>?_
   simp only [go_sem]
   (try simp (disch:=omega) only [zI])
   intro hl8
   repeat first | intro _ | refine ⟨by omega,?_⟩ | refine ⟨⟨by omega,by omega⟩,?_⟩
   refine hK _ ?_
   clear hK K
   refine zw (zk [0,3,4,9]) ?_
   simp only [go_sem]
   repeat refine zq ?_
   refine zc rfl (fun hc=>?_) (fun hc=>?_) <;> (try simp only [go_sem] at hc)
   · have hci : i < T.length:=by omega
     obtain ⟨row,hrow⟩:=opt_of_lt hci
     have hrl:=hr row (mem_of_opt hrow)
     have hli : ((T.take i).map fun row=>[ints row]).length = i:=by rw [List.length_map,List.length_take]; omega
     have htk : (T.take (i + 1)).map (fun row=>[ints row]) = (T.take i).map (fun row=>[ints row]) ++ [[ints row]]:=by rw [take_of_opt hrow]; simp
     refine zx ?_
     try simp only [go_sem]
     repeat refine zq ?_
     refine zd ?_
     repeat refine zq ?_
     refine awp_long ?_
     refine sops_take 7 (by kernel_rfl) fun K hK=>?_
     simp only [go_sem,List.take_succ_cons,List.take_zero,List.drop_succ_cons,List.drop_zero,List.append_eq,List.cons_append,List.nil_append,hrow,hci]
     (try simp (disch:=omega) only [zI])
     repeat first | intro _ | refine ⟨by omega,?_⟩ | refine ⟨⟨by omega,by omega⟩,?_⟩
     refine hK _ rfl ?_
     clear hK K
     refine sops_sub (sub_frz (ty:=3) (sz:=1) (off:=0) (m:=row.length) (es:=row.map fun x=>[i64 x]) 18 18 (by omega) (by try simp only [go_sem]) (by rfl) (by simp)) ?_
     have e2 : ((row.map fun x=>[i64 x]).drop 0).take row.length = row.map fun x=>[i64 x]:=by
      rw [List.drop_zero,List.take_of_length_le (by simp)]
     rw [e2]
     refine sops_sub (zk [0,4,12,18]) ?_
     simp only [go_sem]
     refine sops_end (by kernel_rfl) fun K hK=>?_
     simp only [go_sem,List.drop_succ_cons,List.drop_zero,List.append_eq,List.cons_append,List.nil_append,hli]
     (try simp (disch:=omega) only [zI])
     repeat first | intro _ | refine ⟨by omega,?_⟩ | refine ⟨⟨by omega,by omega⟩,?_⟩
     refine hK _ ?_
     clear hK K
     refine zw (zk [0,3,4]) ?_
     simp only [go_sem]
     repeat refine zq ?_
     refine zb (by kernel_rfl) fun K hK=>?_
     simp only [go_sem]
     (try simp (disch:=omega) only [zI])
     repeat first | intro _ | refine ⟨by omega,?_⟩ | refine ⟨⟨by omega,by omega⟩,?_⟩
     refine hK _ ?_
     clear hK K
     try simp only [go_sem]
     refine ⟨by omega,zj [] ?_ ?_⟩
     · try simp only [go_sem]
     · try simp only [go_sem]
       rw [htk]
   · have hil : i = T.length:=by omega
     subst hil
     rw [List.take_length]
     refine zf ?_
     simp only [go_sem]
     refine zw (sub_frz (ty:=46) (sz:=1) (off:=0) (m:=T.length) (es:=T.map fun row=>[ints row]) 3 20 (by omega) (by try simp only [go_sem]) (by try simp only [go_sem]) (by simp)) ?_
     have e2 : ((T.map fun row=>[ints row]).drop 0).take T.length = T.map fun row=>[ints row]:=by
      rw [List.drop_zero,List.take_of_length_le (by simp)]
     rw [e2]
     refine zw (zk [3]) ?_
     simp only [go_sem]
     repeat refine zq ?_
     refine zb (by kernel_rfl) fun K hK=>?_
     simp only [go_sem]
     (try simp (disch:=omega) only [zI])
     repeat first | intro _ | refine ⟨by omega,?_⟩ | refine ⟨⟨by omega,by omega⟩,?_⟩
     refine hK _ ?_
     clear hK K
     refine zw (zk [2]) ?_
     simp only [go_sem]
     refine ze ?_
     simp only [go_sem]
end Go.Proofs.Ytlbfkhikmigpbaa

namespace Go.Proofs.Ytlbfkhikmigpbaa
open Go Go.Oc
set_option linter.unusedSimpArgs false
set_option linter.unusedVariables false
set_option maxRecDepth 8000
set_option maxHeartbeats 1000000
theorem eqN52 : eqN Try.prog 52 = some 2:=by kernel_rfl
theorem eqN90 : eqN Try.prog 90 = some 3:=by kernel_rfl
theorem unchanged_ok (r : Ru) : ACalls Try.prog 17 [ruV r,ruV r] (.bo true):=by
 refine acalls_st (rs:=[.bo true]) [.tmp 4] Try.func17 rfl (by kernel_rfl) Try.ntmps17 rfl (by simp) rfl fun C vs=>?_
 repeat refine zq ?_
 refine zb (by kernel_rfl) fun K hK=>?_
 simp only [go_sem]
 (try simp (disch:=omega) only [zI])
 repeat first | intro _ | refine ⟨by omega,?_⟩ | refine ⟨⟨by omega,by omega⟩,?_⟩
 refine hK _ ?_
 clear hK K
 refine zw (sub_frzP 2 2 (ruC r) (by omega) rfl rfl) ?_
 refine zw (zk [2,3]) ?_
 simp only [go_sem]
 refine zw (sub_frzP 3 3 (ruC r) (by omega) rfl rfl) ?_
 refine zw (zk [2,3]) ?_
 simp only [go_sem]
 repeat refine zq ?_
 refine zb (by kernel_rfl) fun K hK=>?_
 simp only [go_sem,bne_self_eq_false]
 (try simp (disch:=omega) only [zI])
 intros
 repeat first | intro _ | refine ⟨by omega,?_⟩ | refine ⟨⟨by omega,by omega⟩,?_⟩
 refine hK _ ?_
 clear hK K
 refine zw (zk [2,3,50]) ?_
 simp only [go_sem]
 repeat refine zq ?_
 refine zc rfl (fun hc=>?_) (fun hc=>?_) <;> (try simp only [go_sem] at hc)
 refine zx ?_
 try simp only [go_sem]
 repeat refine zq ?_
 refine zb (by kernel_rfl) fun K hK=>?_
 simp only [go_sem]
 (try simp (disch:=omega) only [zI])
 repeat first | intro _ | refine ⟨by omega,?_⟩ | refine ⟨⟨by omega,by omega⟩,?_⟩
 refine hK _ ?_
 clear hK K
 refine zw (zk [2,3,5]) ?_
 simp only [go_sem]
 repeat refine zq ?_
 refine zd ?_
 refine awp_upto (n:=121) r.ends.length (fun i vs=>[(2,.r (.rp (ruC r))),(3,.r (.rp (ruC r))),(5,.r (i64 (i : Int)))])
  (fun i=>[]) (fun _=>True) 0 (fit_of [] ?_ ?_) (Nat.zero_le _) trivial ?_
 · try simp only [go_sem]
 · try simp only [go_sem]
 · intro i vs hi _
   repeat refine zq ?_
   refine zb (by kernel_rfl) fun K hK=>?_
   simp only [go_sem]
   (try simp (disch:=omega) only [zI])
   intros
   repeat first | intro _ | refine ⟨by omega,?_⟩ | refine ⟨⟨by omega,by omega⟩,?_⟩
   refine hK _ ?_
   clear hK K
   refine zw (zk [2,3,5,55]) ?_
   simp only [go_sem]
   repeat refine zq ?_
   refine zc rfl (fun hc=>?_) (fun hc=>?_) <;> (try simp only [go_sem] at hc)
   · have hci : i < r.ends.length:=by omega
     obtain ⟨e,he⟩:=opt_of_lt hci
     refine zx ?_
     try simp only [go_sem]
     repeat refine zq ?_
     refine zd ?_
     repeat refine zq ?_
     refine zg follows (by decide +kernel) (by kernel_rfl) fun K hK=>?_
     simp only [go_sem,he,hci,spanR,eqN52,beq_self_eq_true,bne_self_eq_false,Bool.and_self,Bool.not_true]
     (try simp (disch:=omega) only [zI])
     repeat first | intro _ | refine ⟨by omega,?_⟩ | refine ⟨⟨by omega,by omega⟩,?_⟩
     refine hK _ ?_
     clear hK K
     refine zw (zk [2,3,5,68]) ?_
     simp only [go_sem]
     repeat refine zq ?_
     refine zc rfl (fun hc=>?_) (fun hc=>?_) <;> (try simp only [go_sem] at hc)
     refine zx ?_
     try simp only [go_sem]
     repeat refine zq ?_
     refine zb (by kernel_rfl) fun K hK=>?_
     simp only [go_sem]
     (try simp (disch:=omega) only [zI])
     repeat first | intro _ | refine ⟨by omega,?_⟩ | refine ⟨⟨by omega,by omega⟩,?_⟩
     refine hK _ ?_
     clear hK K
     try simp only [go_sem]
     refine ⟨by omega,fit_of [] ?_ ?_⟩
     · try simp only [go_sem]
     · try simp only [go_sem]
   · refine zf ?_
     simp only [go_sem]
     repeat refine zq ?_
     refine zb (by kernel_rfl) fun K hK=>?_
     simp only [go_sem]
     (try simp (disch:=omega) only [zI])
     repeat first | intro _ | refine ⟨by omega,?_⟩ | refine ⟨⟨by omega,by omega⟩,?_⟩
     refine hK _ ?_
     clear hK K
     refine zw (zk [2,3,6]) ?_
     simp only [go_sem]
     repeat refine zq ?_
     refine zd ?_
     refine awp_upto (n:=121) r.aims.length (fun i vs=>[(2,.r (.rp (ruC r))),(3,.r (.rp (ruC r))),(6,.r (i64 (i : Int)))])
      (fun i=>[]) (fun _=>True) 0 (fit_of [] ?_ ?_) (Nat.zero_le _) trivial ?_
     · try simp only [go_sem]
     · try simp only [go_sem]
     · intro i vs hi _
       repeat refine zq ?_
       refine zb (by kernel_rfl) fun K hK=>?_
       simp only [go_sem]
       (try simp (disch:=omega) only [zI])
       intros
       repeat first | intro _ | refine ⟨by omega,?_⟩ | refine ⟨⟨by omega,by omega⟩,?_⟩
       refine hK _ ?_
       clear hK K
       refine zw (zk [2,3,6,74]) ?_
       simp only [go_sem]
       repeat refine zq ?_
       refine zc rfl (fun hc=>?_) (fun hc=>?_) <;> (try simp only [go_sem] at hc)
       · have hci : i < r.aims.length:=by omega
         obtain ⟨a,ha⟩:=opt_of_lt hci
         refine zx ?_
         try simp only [go_sem]
         repeat refine zq ?_
         refine zd ?_
         repeat refine zq ?_
         refine awp_dreg2 [(2,none),(3,none),(6,none)] follows (by decide +kernel) (by kernel_rfl) (by simp only [keysOk,List.mem_cons,List.not_mem_nil,forall_eq_or_imp,Oc.keyOf,go_sem]; simp) fun K hK=>?_
         simp only [go_sem,ha,hci,aimR]
         (try simp (disch:=omega) only [zI])
         repeat first | intro _ | refine ⟨by omega,?_⟩ | refine ⟨⟨by omega,by omega⟩,?_⟩
         refine hK _ ?_
         clear hK K
         refine zw (sub_frzP 7 7 [i64 a.at_,bedsR a.beds] (by omega) (by try simp only [go_sem]) (by try simp only [go_sem])) ?_
         refine zw (zk [2,3,6,7,8]) ?_
         simp only [go_sem]
         refine zw (sub_frzP 8 8 [i64 a.at_,bedsR a.beds] (by omega) (by try simp only [go_sem]) (by try simp only [go_sem])) ?_
         refine zw (zk [2,3,6,7,8]) ?_
         simp only [go_sem]
         repeat refine zq ?_
         refine zb (by kernel_rfl) fun K hK=>?_
         simp only [go_sem,bne_self_eq_false]
         (try simp (disch:=omega) only [zI])
         intros
         repeat first | intro _ | refine ⟨by omega,?_⟩ | refine ⟨⟨by omega,by omega⟩,?_⟩
         refine hK _ ?_
         clear hK K
         refine zw (zk [2,3,6,7,8,102]) ?_
         simp only [go_sem]
         repeat refine zq ?_
         refine zc rfl (fun hc=>?_) (fun hc=>?_) <;> (try simp only [go_sem] at hc)
         refine zx ?_
         try simp only [go_sem]
         repeat refine zq ?_
         refine zb (by kernel_rfl) fun K hK=>?_
         simp only [go_sem]
         (try simp (disch:=omega) only [zI])
         repeat first | intro _ | refine ⟨by omega,?_⟩ | refine ⟨⟨by omega,by omega⟩,?_⟩
         refine hK _ ?_
         clear hK K
         refine zw (zk [2,3,6,7,8,9]) ?_
         simp only [go_sem]
         repeat refine zq ?_
         refine zd ?_
         refine awp_upto (n:=121) a.beds.length (fun j vs=>[(2,.r (.rp (ruC r))),(3,.r (.rp (ruC r))),(6,.r (i64 (i : Int))),(7,.r (.rp [i64 a.at_,bedsR a.beds])),(8,.r (.rp [i64 a.at_,bedsR a.beds])),(9,.r (i64 (j : Int)))])
          (fun j=>[]) (fun _=>True) 0 (fit_of [] ?_ ?_) (Nat.zero_le _) trivial ?_
         · try simp only [go_sem]
         · try simp only [go_sem]
         · intro j vs hj _
           repeat refine zq ?_
           refine zb (by kernel_rfl) fun K hK=>?_
           simp only [go_sem]
           (try simp (disch:=omega) only [zI])
           intros
           repeat first | intro _ | refine ⟨by omega,?_⟩ | refine ⟨⟨by omega,by omega⟩,?_⟩
           refine hK _ ?_
           clear hK K
           refine zw (zk [2,3,6,7,8,9,107]) ?_
           simp only [go_sem]
           repeat refine zq ?_
           refine zc rfl (fun hc=>?_) (fun hc=>?_) <;> (try simp only [go_sem] at hc)
           · have hcj : j < a.beds.length:=by omega
             obtain ⟨c,hc1⟩:=opt_of_lt hcj
             refine zx ?_
             try simp only [go_sem]
             repeat refine zq ?_
             refine zd ?_
             repeat refine zq ?_
             refine zg follows (by decide +kernel) (by kernel_rfl) fun K hK=>?_
             simp only [go_sem,hc1,hcj,bedR,eqN90,beq_self_eq_true,bne_self_eq_false,Bool.and_self,Bool.not_true]
             (try simp (disch:=omega) only [zI])
             repeat first | intro _ | refine ⟨by omega,?_⟩ | refine ⟨⟨by omega,by omega⟩,?_⟩
             refine hK _ ?_
             clear hK K
             refine zw (zk [2,3,6,7,8,9,120]) ?_
             simp only [go_sem]
             repeat refine zq ?_
             refine zc rfl (fun hc=>?_) (fun hc=>?_) <;> (try simp only [go_sem] at hc)
             refine zx ?_
             try simp only [go_sem]
             repeat refine zq ?_
             refine zb (by kernel_rfl) fun K hK=>?_
             simp only [go_sem]
             (try simp (disch:=omega) only [zI])
             repeat first | intro _ | refine ⟨by omega,?_⟩ | refine ⟨⟨by omega,by omega⟩,?_⟩
             refine hK _ ?_
             clear hK K
             try simp only [go_sem]
             refine ⟨by omega,fit_of [] ?_ ?_⟩
             · try simp only [go_sem]
             · try simp only [go_sem]
           · refine zf ?_
             simp only [go_sem]
             repeat refine zq ?_
             refine zb (by kernel_rfl) fun K hK=>?_
             simp only [go_sem]
             (try simp (disch:=omega) only [zI])
             repeat first | intro _ | refine ⟨by omega,?_⟩ | refine ⟨⟨by omega,by omega⟩,?_⟩
             refine hK _ ?_
             clear hK K
             try simp only [go_sem]
             refine ⟨by omega,fit_of [] ?_ ?_⟩
             · try simp only [go_sem]
             · try simp only [go_sem]
       · refine zf ?_
         simp only [go_sem]
         repeat refine zq ?_
         refine zb (by kernel_rfl) fun K hK=>?_
         simp only [go_sem]
         (try simp (disch:=omega) only [zI])
         repeat first | intro _ | refine ⟨by omega,?_⟩ | refine ⟨⟨by omega,by omega⟩,?_⟩
         refine hK _ ?_
         clear hK K
         refine zw (zk [4]) ?_
         simp only [go_sem]
         refine ze ?_
         simp only [go_sem]
theorem same_ok (T : List (List Int)) : ACalls Try.prog 19 [tabR T,tabR T] (.bo true):=by
 refine acalls_st (rs:=[.bo true]) [.tmp 4] Try.func19 rfl (by kernel_rfl) Try.ntmps19 rfl (by simp) rfl fun C vs=>?_
 repeat refine zq ?_
 refine zb (by kernel_rfl) fun K hK=>?_
 simp only [go_sem]
 (try simp (disch:=omega) only [zI])
 repeat first | intro _ | refine ⟨by omega,?_⟩ | refine ⟨⟨by omega,by omega⟩,?_⟩
 refine hK _ ?_
 clear hK K
 refine zw (zk [0,1]) ?_
 simp only [go_sem]
 repeat refine zq ?_
 refine zb (by kernel_rfl) fun K hK=>?_
 simp only [go_sem,bne_self_eq_false]
 (try simp (disch:=omega) only [zI])
 intros
 repeat first | intro _ | refine ⟨by omega,?_⟩ | refine ⟨⟨by omega,by omega⟩,?_⟩
 refine hK _ ?_
 clear hK K
 refine zw (zk [0,1,11]) ?_
 simp only [go_sem]
 repeat refine zq ?_
 refine zc rfl (fun hc=>?_) (fun hc=>?_) <;> (try simp only [go_sem] at hc)
 refine zx ?_
 try simp only [go_sem]
 repeat refine zq ?_
 refine zb (by kernel_rfl) fun K hK=>?_
 simp only [go_sem]
 (try simp (disch:=omega) only [zI])
 repeat first | intro _ | refine ⟨by omega,?_⟩ | refine ⟨⟨by omega,by omega⟩,?_⟩
 refine hK _ ?_
 clear hK K
 refine zw (zk [0,1,5]) ?_
 simp only [go_sem]
 repeat refine zq ?_
 refine zd ?_
 refine awp_upto (n:=53) T.length (fun i vs=>[(0,.r (tabR T)),(1,.r (tabR T)),(5,.r (i64 (i : Int)))])
  (fun i=>[]) (fun _=>True) 0 (fit_of [] ?_ ?_) (Nat.zero_le _) trivial ?_
 · try simp only [go_sem]
 · try simp only [go_sem]
 · intro i vs hi _
   repeat refine zq ?_
   refine zb (by kernel_rfl) fun K hK=>?_
   simp only [go_sem]
   (try simp (disch:=omega) only [zI])
   intros
   repeat first | intro _ | refine ⟨by omega,?_⟩ | refine ⟨⟨by omega,by omega⟩,?_⟩
   refine hK _ ?_
   clear hK K
   refine zw (zk [0,1,5,15]) ?_
   simp only [go_sem]
   repeat refine zq ?_
   refine zc rfl (fun hc=>?_) (fun hc=>?_) <;> (try simp only [go_sem] at hc)
   · have hci : i < T.length:=by omega
     obtain ⟨row,hrow⟩:=opt_of_lt hci
     refine zx ?_
     try simp only [go_sem]
     repeat refine zq ?_
     refine zd ?_
     repeat refine zq ?_
     refine zg follows (by decide +kernel) (by kernel_rfl) fun K hK=>?_
     simp only [go_sem,hrow,hci,bne_self_eq_false]
     (try simp (disch:=omega) only [zI])
     intros
     repeat first | intro _ | refine ⟨by omega,?_⟩ | refine ⟨⟨by omega,by omega⟩,?_⟩
     refine hK _ ?_
     clear hK K
     refine zw (zk [0,1,5,28]) ?_
     simp only [go_sem]
     repeat refine zq ?_
     refine zc rfl (fun hc=>?_) (fun hc=>?_) <;> (try simp only [go_sem] at hc)
     refine zx ?_
     try simp only [go_sem]
     repeat refine zq ?_
     refine zb (by kernel_rfl) fun K hK=>?_
     simp only [go_sem]
     (try simp (disch:=omega) only [zI])
     repeat first | intro _ | refine ⟨by omega,?_⟩ | refine ⟨⟨by omega,by omega⟩,?_⟩
     refine hK _ ?_
     clear hK K
     refine zw (zk [0,1,5,6]) ?_
     simp only [go_sem]
     repeat refine zq ?_
     refine zd ?_
     refine awp_upto (n:=53) row.length (fun j vs=>[(0,.r (tabR T)),(1,.r (tabR T)),(5,.r (i64 (i : Int))),(6,.r (i64 (j : Int)))])
      (fun j=>[]) (fun _=>True) 0 (fit_of [] ?_ ?_) (Nat.zero_le _) trivial ?_
     · try simp only [go_sem]
     · try simp only [go_sem]
     · intro j vs hj _
       repeat refine zq ?_
       refine zb (by kernel_rfl) fun K hK=>?_
       simp only [go_sem,hrow,hci]
       (try simp (disch:=omega) only [zI])
       repeat first | intro _ | refine ⟨by omega,?_⟩ | refine ⟨⟨by omega,by omega⟩,?_⟩
       repeat first | intro _ | refine ⟨by omega,?_⟩ | refine ⟨⟨by omega,by omega⟩,?_⟩
       refine hK _ ?_
       clear hK K
       refine zw (zk [0,1,5,6,35]) ?_
       simp only [go_sem]
       repeat refine zq ?_
       refine zc rfl (fun hc=>?_) (fun hc=>?_) <;> (try simp only [go_sem] at hc)
       · have hcj : j < row.length:=by omega
         obtain ⟨x,hx⟩:=opt_of_lt hcj
         refine zx ?_
         try simp only [go_sem]
         repeat refine zq ?_
         refine zd ?_
         repeat refine zq ?_
         refine zg follows (by decide +kernel) (by kernel_rfl) fun K hK=>?_
         simp only [go_sem,hrow,hci,hx,hcj,bne_self_eq_false]
         (try simp (disch:=omega) only [zI])
         repeat first | intro _ | refine ⟨by omega,?_⟩ | refine ⟨⟨by omega,by omega⟩,?_⟩
         refine hK _ ?_
         clear hK K
         refine zw (zk [0,1,5,6,52]) ?_
         simp only [go_sem]
         repeat refine zq ?_
         refine zc rfl (fun hc=>?_) (fun hc=>?_) <;> (try simp only [go_sem] at hc)
         refine zx ?_
         try simp only [go_sem]
         repeat refine zq ?_
         refine zb (by kernel_rfl) fun K hK=>?_
         simp only [go_sem]
         (try simp (disch:=omega) only [zI])
         repeat first | intro _ | refine ⟨by omega,?_⟩ | refine ⟨⟨by omega,by omega⟩,?_⟩
         refine hK _ ?_
         clear hK K
         try simp only [go_sem]
         refine ⟨by omega,fit_of [] ?_ ?_⟩
         · try simp only [go_sem]
         · try simp only [go_sem]
       · refine zf ?_
         simp only [go_sem]
         repeat refine zq ?_
         refine zb (by kernel_rfl) fun K hK=>?_
         simp only [go_sem]
         (try simp (disch:=omega) only [zI])
         repeat first | intro _ | refine ⟨by omega,?_⟩ | refine ⟨⟨by omega,by omega⟩,?_⟩
         refine hK _ ?_
         clear hK K
         try simp only [go_sem]
         refine ⟨by omega,fit_of [] ?_ ?_⟩
         · try simp only [go_sem]
         · try simp only [go_sem]
   · refine zf ?_
     simp only [go_sem]
     repeat refine zq ?_
     refine zb (by kernel_rfl) fun K hK=>?_
     simp only [go_sem]
     (try simp (disch:=omega) only [zI])
     repeat first | intro _ | refine ⟨by omega,?_⟩ | refine ⟨⟨by omega,by omega⟩,?_⟩
     refine hK _ ?_
     clear hK K
     refine zw (zk [4]) ?_
     simp only [go_sem]
     refine ze ?_
     simp only [go_sem]
end Go.Proofs.Ytlbfkhikmigpbaa

namespace Go.Proofs.Ytlbfkhikmigpbaa
open Go Go.Oc
set_option linter.unusedSimpArgs false
set_option linter.unusedVariables false
set_option maxRecDepth 8000
set_option maxHeartbeats 1000000
def bedsW (l : List Am) : Nat → Int
 | 0=>0
 | i + 1=>IntKind.i64.wrap (bedsW l i + ((l.getD i ⟨0,[]⟩).beds.length : Int))
def largeB (r : Ru) : Bool:=(r.aims.any fun a=>decide (15 < a.beds.length)) || (decide (25 < r.aims.length) || (decide (12 < r.ends.length) || (decide (60 < bedsW r.aims r.aims.length) && (ruE r == 0))))
theorem any_take_succ {α : Type} {l : List α} {i : Nat} {x : α} {p : α → Bool} (h : l[i]? = some x) : (l.take (i + 1)).any p = ((l.take i).any p || p x):=by
 rw [List.take_add_one,h]; simp [List.any_append]
theorem large_ok (r : Ru) (hw : WfR r) : ACalls Try.prog 12 [ruV r] (.bo (largeB r)):=by
 have hru:=refRules_ok r hw
 refine acalls_st (rs:=[.bo (largeB r)]) [.tmp 2] Try.func12 rfl (by kernel_rfl) Try.ntmps12 rfl (by simp) rfl fun C vs=>?_
 repeat refine zq ?_
 refine zb (by kernel_rfl) fun K hK=>?_
 simp only [go_sem]
 (try simp (disch:=omega) only [zI])
 repeat first | intro _ | refine ⟨by omega,?_⟩ | refine ⟨⟨by omega,by omega⟩,?_⟩
 refine hK _ ?_
 clear hK K
 refine zw (sub_frzP 1 1 (ruC r) (by omega) rfl rfl) ?_
 refine zw (zk [1]) ?_
 simp only [go_sem]
 repeat refine zq ?_
 refine zb (by kernel_rfl) fun K hK=>?_
 simp only [go_sem]
 (try simp (disch:=omega) only [zI])
 repeat first | intro _ | refine ⟨by omega,?_⟩ | refine ⟨⟨by omega,by omega⟩,?_⟩
 refine hK _ ?_
 clear hK K
 refine zw (zk [1,3]) ?_
 simp only [go_sem]
 repeat refine zq ?_
 refine zb (by kernel_rfl) fun K hK=>?_
 simp only [go_sem]
 (try simp (disch:=omega) only [zI])
 repeat first | intro _ | refine ⟨by omega,?_⟩ | refine ⟨⟨by omega,by omega⟩,?_⟩
 refine hK _ ?_
 clear hK K
 refine zw (zk [1,3,4]) ?_
 simp only [go_sem]
 repeat refine zq ?_
 refine zd ?_
 refine awp_upto (n:=52) r.aims.length (fun i vs=>[(1,.r (.rp (ruC r))),(3,.r (i64 (bedsW r.aims i))),(4,.r (i64 (i : Int)))])
  (fun i=>[]) (fun i=>((r.aims.take i).any fun a=>decide (15 < a.beds.length)) = false) 0 (fit_of [] ?_ ?_) (Nat.zero_le _) (by simp) ?_
 · try simp only [go_sem]
   rfl
 · try simp only [go_sem]
 · intro i vs hi hI
   repeat refine zq ?_
   refine zb (by kernel_rfl) fun K hK=>?_
   simp only [go_sem]
   (try simp (disch:=omega) only [zI])
   intro hl8
   repeat first | intro _ | refine ⟨by omega,?_⟩ | refine ⟨⟨by omega,by omega⟩,?_⟩
   refine hK _ ?_
   clear hK K
   refine zw (zk [1,3,4,10]) ?_
   simp only [go_sem]
   repeat refine zq ?_
   refine zc rfl (fun hc=>?_) (fun hc=>?_) <;> (try simp only [go_sem] at hc)
   · have hci : i < r.aims.length:=by omega
     obtain ⟨a,ha⟩:=opt_of_lt hci
     have hts:=any_take_succ (p:=fun a : Am=>decide (15 < a.beds.length)) ha
     rw [hI,Bool.false_or] at hts
     have gx : r.aims.getD i ⟨0,[]⟩ = a:=by simp [List.getD,ha]
     have hB : bedsW r.aims (i + 1) = IntKind.i64.wrap (bedsW r.aims i + (a.beds.length : Int)):=by simp only [bedsW,gx]
     generalize bedsW r.aims i = bw at hB ⊢
     refine zx ?_
     try simp only [go_sem]
     repeat refine zq ?_
     refine zd ?_
     by_cases h15 : 15 < a.beds.length
     · have d1 : decide ((15 : Int) < (a.beds.length : Int)) = true:=by simp; omega
       repeat refine zq ?_
       refine zb (by kernel_rfl) fun K hK=>?_
       simp only [go_sem,ha,hci,aimR,d1]
       (try simp (disch:=omega) only [zI])
       intros
       repeat first | intro _ | refine ⟨by omega,?_⟩ | refine ⟨⟨by omega,by omega⟩,?_⟩
       refine hK _ ?_
       clear hK K
       refine zw (zk [1,3,4,21]) ?_
       simp only [go_sem]
       repeat refine zq ?_
       refine zc rfl (fun hc=>?_) (fun hc=>?_) <;> (try simp only [go_sem] at hc)
       repeat refine zq ?_
       refine zb (by kernel_rfl) fun K hK=>?_
       simp only [go_sem]
       (try simp (disch:=omega) only [zI])
       repeat first | intro _ | refine ⟨by omega,?_⟩ | refine ⟨⟨by omega,by omega⟩,?_⟩
       refine hK _ ?_
       clear hK K
       refine zw (zk [2]) ?_
       simp only [go_sem]
       refine ze ?_
       simp only [go_sem]
       have hany : (r.aims.any fun a=>decide (15 < a.beds.length)) = true:=List.any_eq_true.2 ⟨a,mem_of_opt ha,by simpa using h15⟩
       rw [largeB,hany]; rfl
     · have d1 : decide ((15 : Int) < (a.beds.length : Int)) = false:=by simp; omega
       repeat refine zq ?_
       refine zb (by kernel_rfl) fun K hK=>?_
       simp only [go_sem,ha,hci,aimR,d1]
       (try simp (disch:=omega) only [zI])
       intros
       repeat first | intro _ | refine ⟨by omega,?_⟩ | refine ⟨⟨by omega,by omega⟩,?_⟩
       refine hK _ ?_
       clear hK K
       refine zw (zk [1,3,4,21]) ?_
       simp only [go_sem]
       repeat refine zq ?_
       refine zc rfl (fun hc=>?_) (fun hc=>?_) <;> (try simp only [go_sem] at hc)
       refine zx ?_
       try simp only [go_sem]
       repeat refine zq ?_
       refine zb (by kernel_rfl) fun K hK=>?_
       simp only [go_sem,ha,hci,aimR]
       (try simp (disch:=omega) only [zI])
       intros
       repeat first | intro _ | refine ⟨by omega,?_⟩ | refine ⟨⟨by omega,by omega⟩,?_⟩
       refine hK _ ?_
       clear hK K
       refine zw (zk [1,3,4]) ?_
       simp only [go_sem]
       repeat refine zq ?_
       refine zb (by kernel_rfl) fun K hK=>?_
       simp only [go_sem]
       (try simp (disch:=omega) only [zI])
       repeat first | intro _ | refine ⟨by omega,?_⟩ | refine ⟨⟨by omega,by omega⟩,?_⟩
       refine hK _ ?_
       clear hK K
       try simp only [go_sem]
       refine ⟨by omega,by rw [hts]; simpa using h15,fit_of [] ?_ ?_⟩
       · try simp only [go_sem]
         rw [hB]
       · try simp only [go_sem]
   · have hil : i = r.aims.length:=by omega
     rw [hil,List.take_length] at hI
     rw [hil]
     have hL : largeB r = (decide (25 < r.aims.length) || (decide (12 < r.ends.length) || (decide (60 < bedsW r.aims r.aims.length) && (ruE r == 0)))):=by rw [largeB,hI,Bool.false_or]
     generalize bedsW r.aims r.aims.length = bw at hL ⊢
     refine zf ?_
     simp only [go_sem]
     by_cases h25 : 25 < r.aims.length
     · have d1 : decide ((25 : Int) < (r.aims.length : Int)) = true:=by simp; omega
       repeat refine zq ?_
       refine zb (by kernel_rfl) fun K hK=>?_
       simp only [go_sem,d1]
       (try simp (disch:=omega) only [zI])
       intros
       repeat first | intro _ | refine ⟨by omega,?_⟩ | refine ⟨⟨by omega,by omega⟩,?_⟩
       refine hK _ ?_
       clear hK K
       refine zw (zk [2]) ?_
       simp only [go_sem]
       refine ze ?_
       simp only [go_sem]
       rw [hL]; simp [h25]
     · have d1 : decide ((25 : Int) < (r.aims.length : Int)) = false:=by simp; omega
       by_cases h12 : 12 < r.ends.length
       · have d2 : decide ((12 : Int) < (r.ends.length : Int)) = true:=by simp; omega
         repeat refine zq ?_
         refine zb (by kernel_rfl) fun K hK=>?_
         simp only [go_sem,d1,d2]
         (try simp (disch:=omega) only [zI])
         intros
         repeat first | intro _ | refine ⟨by omega,?_⟩ | refine ⟨⟨by omega,by omega⟩,?_⟩
         refine hK _ ?_
         clear hK K
         refine zw (zk [2]) ?_
         simp only [go_sem]
         refine ze ?_
         simp only [go_sem]
         rw [hL]; simp [h12]
       · have d2 : decide ((12 : Int) < (r.ends.length : Int)) = false:=by simp; omega
         by_cases h60 : 60 < bw
         · have d3 : decide (60 < bw) = true:=by simpa using h60
           repeat refine zq ?_
           refine zb (by kernel_rfl) fun K hK=>?_
           simp only [go_sem,d1,d2,d3]
           (try simp (disch:=omega) only [zI])
           intros
           refine zh (hru) rfl (by simp only [go_sem,i64,ints,d1,d2,d3]) (by simp only [go_sem,i64,ints,d1,d2,d3]) (by first | exact .inl rfl | exact .inr rfl) ?_
           (try simp only [go_sem,d1,d2,d3])
           (try simp (disch:=omega) only [zI])
           repeat first | intro _ | refine ⟨by omega,?_⟩ | refine ⟨⟨by omega,by omega⟩,?_⟩
           refine hK _ ?_
           clear hK K
           refine zw (zk [2]) ?_
           simp only [go_sem]
           refine ze ?_
           simp only [go_sem]
           rw [hL]; simp [h25,h12,h60]
         · have d3 : decide (60 < bw) = false:=by simpa using h60
           repeat refine zq ?_
           refine zb (by kernel_rfl) fun K hK=>?_
           simp only [go_sem,d1,d2,d3]
           (try simp (disch:=omega) only [zI])
           intros
           repeat first | intro _ | refine ⟨by omega,?_⟩ | refine ⟨⟨by omega,by omega⟩,?_⟩
           refine hK _ ?_
           clear hK K
           refine zw (zk [2]) ?_
           simp only [go_sem]
           refine ze ?_
           simp only [go_sem]
           rw [hL]; simp [h25,h12,h60]
theorem one_ok (n : Int) : ACalls Try.prog 35 [i64 n] (spanV (n,n)):=by
 refine acalls_st (rs:=[spanV (n,n)]) [.cell 2 52] Try.func35 rfl (by kernel_rfl) Try.ntmps35 rfl (by simp) rfl fun C vs=>?_
 repeat refine zq ?_
 refine zb (by kernel_rfl) fun K hK=>?_
 simp only [go_sem]
 (try simp (disch:=omega) only [zI])
 repeat first | intro _ | refine ⟨by omega,?_⟩ | refine ⟨⟨by omega,by omega⟩,?_⟩
 refine hK _ ?_
 clear hK K
 refine zw (zk [0,2]) ?_
 simp only [go_sem]
 repeat refine zq ?_
 refine zb (by kernel_rfl) fun K hK=>?_
 simp only [go_sem]
 (try simp (disch:=omega) only [zI])
 repeat first | intro _ | refine ⟨by omega,?_⟩ | refine ⟨⟨by omega,by omega⟩,?_⟩
 refine hK _ ?_
 clear hK K
 refine zw (zk [2]) ?_
 simp only [go_sem]
 refine ze ?_
 simp only [go_sem]
def halfR (ends : List Sp) : Ru:=⟨2,[⟨201,[⟨0,1,1⟩,⟨201,1,1⟩]⟩],2,1,ends ++ [(1000000,1000000)]⟩
end Go.Proofs.Ytlbfkhikmigpbaa

namespace Go.Proofs.Ytlbfkhikmigpbaa
open Go Go.Oc
set_option linter.unusedSimpArgs false
set_option linter.unusedVariables false
set_option maxRecDepth 8000
set_option maxHeartbeats 1000000
section
variable {P : Program} {C : Ctx} {s : AS} {Q : Exit → AS → Prop} {ops : Array Oper}
theorem sops_sx {l : List Oper} {t : TypeId} {n : Nat} {ps : List (Nat × Operand)} {d : Nat} {ty : TypeId} {pos : String} {af : Array Edge} (sz : Nat) (es : List (List RV)) (hdn : d < s.n) (hne : es ≠ [])
 (hp : (sBuildSlice P s t n (evp s ps)).pre) (hy : (sBuildSlice P s t n (evp s ps)).y = ⟨.r (.sl sz es),[]⟩)
 (h : sops P C ops l Q (s.put (some d) (.r (.sx sz es)))) : sops P C ops (⟨some d,.buildSlice t n ps.toArray,ty,pos,af,none⟩ :: l) Q s:=fun a w ⟨p,hs⟩=>by
 rw [← evp_eq] at hp hy
 unfold wpListIn
 rw [if_pos (wantA_sound hs (by simp [wantA]))]
 refine wpIn_of_wp (by intro c h; cases h) ?_
 have hAY : AY P ⟨some d,.buildSlice t n ps.toArray,ty,pos,af,none⟩ s ⟨.r (.sx sz es),[]⟩:=by
  unfold AY
  exact .inl ⟨hp,.inr ⟨rfl,sz,es,hne,hy,rfl⟩⟩
 refine AY_sound hs hAY (fun t ht=>by injection ht with ht; subst ht; exact hdn) fun a' w' p' hs'=>?_
 exact h a' w' ⟨p',hs'⟩
end
theorem half_ok (a b : Int) : ACalls Try.prog 36 [.sx 2 [[i64 a,i64 b]]] (ruV (halfR [(a,b)])):=by
 have h1:=one_ok 1
 have hm:=one_ok 1000000
 refine acalls_st (rs:=[ruV (halfR [(a,b)])]) [.cell 2 28] Try.func36 rfl (by kernel_rfl) Try.ntmps36 rfl (by simp) rfl fun C vs=>?_
 repeat refine zq ?_
 refine zb (by kernel_rfl) fun K hK=>?_
 simp only [go_sem]
 (try simp (disch:=omega) only [zI])
 repeat first | intro _ | refine ⟨by omega,?_⟩ | refine ⟨⟨by omega,by omega⟩,?_⟩
 refine hK _ ?_
 clear hK K
 refine zw (zk [0,2]) ?_
 simp only [go_sem]
 repeat refine zq ?_
 refine zb (by kernel_rfl) fun K hK=>?_
 simp only [go_sem]
 (try simp (disch:=omega) only [zI])
 refine zh (h1) rfl (by simp only [go_sem,i64,ints]) (by simp only [go_sem,i64,ints]) (by first | exact .inl rfl | exact .inr rfl) ?_
 (try simp only [go_sem])
 (try simp (disch:=omega) only [zI])
 refine zh (h1) rfl (by simp only [go_sem,i64,ints]) (by simp only [go_sem,i64,ints]) (by first | exact .inl rfl | exact .inr rfl) ?_
 (try simp only [go_sem])
 (try simp (disch:=omega) only [zI])
 refine zh (hm) rfl (by simp only [go_sem,i64,ints]) (by simp only [go_sem,i64,ints]) (by first | exact .inl rfl | exact .inr rfl) ?_
 (try simp only [go_sem])
 (try simp (disch:=omega) only [zI])
 repeat first | intro _ | refine ⟨by omega,?_⟩ | refine ⟨⟨by omega,by omega⟩,?_⟩
 refine hK _ ?_
 clear hK K
 refine zw (sub_frzB 2 4 14 (ty:=52) (sz:=2) (off:=0) (m:=2) (es:=[[i64 a,i64 b],[i64 1000000,i64 1000000]]) (by omega) (by omega) rfl (by simp only [go_sem,List.getElem?_cons_succ,List.getElem?_cons_zero]) (by rfl) (by simp)) ?_
 try simp only [go_sem]
 refine zw (zk [2]) ?_
 simp only [go_sem]
 refine ze ?_
 simp only [go_sem]
 exact ⟨rfl,rfl,rfl,rfl,rfl⟩
theorem half_nil : ACalls Try.prog 36 [.ns] (ruV (halfR [])):=by
 have h1:=one_ok 1
 have hm:=one_ok 1000000
 refine acalls_st (rs:=[ruV (halfR [])]) [.cell 2 28] Try.func36 rfl (by kernel_rfl) Try.ntmps36 rfl (by simp) rfl fun C vs=>?_
 repeat refine zq ?_
 refine zb (by kernel_rfl) fun K hK=>?_
 simp only [go_sem]
 (try simp (disch:=omega) only [zI])
 repeat first | intro _ | refine ⟨by omega,?_⟩ | refine ⟨⟨by omega,by omega⟩,?_⟩
 refine hK _ ?_
 clear hK K
 refine zw (zk [0,2]) ?_
 simp only [go_sem]
 repeat refine zq ?_
 refine zb (by kernel_rfl) fun K hK=>?_
 simp only [go_sem]
 (try simp (disch:=omega) only [zI])
 refine zh (h1) rfl (by simp only [go_sem,i64,ints]) (by simp only [go_sem,i64,ints]) (by first | exact .inl rfl | exact .inr rfl) ?_
 (try simp only [go_sem])
 (try simp (disch:=omega) only [zI])
 refine zh (h1) rfl (by simp only [go_sem,i64,ints]) (by simp only [go_sem,i64,ints]) (by first | exact .inl rfl | exact .inr rfl) ?_
 (try simp only [go_sem])
 (try simp (disch:=omega) only [zI])
 refine zh (hm) rfl (by simp only [go_sem,i64,ints]) (by simp only [go_sem,i64,ints]) (by first | exact .inl rfl | exact .inr rfl) ?_
 (try simp only [go_sem])
 (try simp (disch:=omega) only [zI])
 repeat first | intro _ | refine ⟨by omega,?_⟩ | refine ⟨⟨by omega,by omega⟩,?_⟩
 refine hK _ ?_
 clear hK K
 refine zw (sub_frzB 2 4 14 (ty:=52) (sz:=2) (off:=0) (m:=1) (es:=[[i64 1000000,i64 1000000]]) (by omega) (by omega) rfl (by simp only [go_sem,List.getElem?_cons_succ,List.getElem?_cons_zero]) (by rfl) (by simp)) ?_
 try simp only [go_sem]
 refine zw (zk [2]) ?_
 simp only [go_sem]
 refine ze ?_
 simp only [go_sem]
 exact ⟨rfl,rfl,rfl,rfl,rfl⟩
theorem half_wf (e : List Sp) : WfR (halfR e):=by
 refine ⟨⟨show (-9223372036854775808 : Int) ≤ 2 ∧ (2 : Int) ≤ 9223372036854775807 by decide,fun a ha=>?_⟩⟩
 simp only [halfR,List.mem_singleton] at ha
 subst ha
 refine ⟨by unfold I64; decide,fun c hc=>?_⟩
 simp only [List.mem_cons,List.not_mem_nil,or_false] at hc
 rcases hc with rfl | rfl <;> (unfold I64; decide)
theorem ex_table : ACalls Try.prog 16 [ruV (halfR [(0,500000)])] (.tu [tabR [[0,0,929687],[0,0,875000]],tabR [[0,0,984375],[0,0,875000]],i64 0]):=by
 have h:=table_ok (halfR [(0,500000)]) (half_wf _)
 have h0 : ruE (halfR [(0,500000)]) = 0:=by decide +kernel
 have h1 : tabF (halfR [(0,500000)]) false = [[0,0,929687],[0,0,875000]]:=by decide +kernel
 have h2 : tabF (halfR [(0,500000)]) true = [[0,0,984375],[0,0,875000]]:=by decide +kernel
 unfold tabsV at h
 rw [if_pos h0,if_pos h0,h0,h1,h2] at h
 exact h
theorem ex_toss : ACalls Try.prog 30 [ruV (halfR [(500000,500000)])] (.tu [.ag [i64 929687,i64 929688],.ag [i64 437500,i64 437500],i64 0]):=by
 have h:=toss_ok (halfR [(500000,500000)]) (half_wf _)
 have h0 : ruE (halfR [(500000,500000)]) = 0:=by decide +kernel
 have h1 : tossF (halfR [(500000,500000)]) false = 929687:=by decide +kernel
 have h2 : tossF (halfR [(500000,500000)]) true = 929688:=by decide +kernel
 have h3 : tossS (halfR [(500000,500000)]) false = 437500:=by decide +kernel
 have h4 : tossS (halfR [(500000,500000)]) true = 437500:=by decide +kernel
 unfold tossV at h
 rw [if_pos h0,if_pos h0,h0,h1,h2,h3,h4] at h
 exact h
theorem ex_odds : ∃ hi : Int,ACalls Try.prog 21 [ruV (halfR []),.ag [i64 0,i64 2,i64 2,i64 2]] (.tu [spansR [(750000,hi)],i64 0]):=by
 have h:=odds_ok (halfR []) (half_wf _) ⟨0,2,2,2⟩
 have h0 : oddsE (halfR []) ⟨0,2,2,2⟩ = 0:=by decide +kernel
 rcases odds_cases (halfR []) ⟨0,2,2,2⟩ with ⟨_,_,_,hR⟩ | ⟨hE,_⟩
 · rw [h0,hR] at h
   have h1 : oddsL (halfR []) ⟨0,2,2,2⟩ = [(750000,750000)]:=by decide +kernel
   rw [h1] at h
   exact ⟨_,h⟩
 · exact absurd h0 hE
theorem ex_aim : ACalls Try.prog 22 [ruV (halfR []),.ag [i64 0,i64 2,i64 2,i64 3]] (.tu [i64 0,i64 875000,i64 0]):=by
 have h:=aim_ok (halfR []) (half_wf _) ⟨0,2,2,3⟩
 have h0 : oddsE (halfR []) ⟨0,2,2,3⟩ = 0:=by decide +kernel
 have h1 : bestL (oddsL (halfR []) ⟨0,2,2,3⟩) = 0:=by decide +kernel
 have h2 : lowL (oddsL (halfR []) ⟨0,2,2,3⟩) = 875000:=by decide +kernel
 rw [if_pos h0,if_pos h0,h0,h1,h2] at h
 exact h
theorem ex_may : ACalls Try.prog 23 [ruV (halfR []),.ag [i64 0,i64 2,i64 2,i64 1]] (.tu [ints [0],i64 0]):=by
 have h:=may_ok (halfR []) (half_wf _) ⟨0,2,2,1⟩
 have h0 : oddsE (halfR []) ⟨0,2,2,1⟩ = 0:=by decide +kernel
 have h1 : mayL (oddsL (halfR []) ⟨0,2,2,1⟩) (lowL (oddsL (halfR []) ⟨0,2,2,1⟩)) (oddsL (halfR []) ⟨0,2,2,1⟩).length = [0]:=by decide +kernel
 rw [if_pos h0,h0,h1] at h
 exact h
theorem ex_proves : ACalls Try.prog 27 [ruV (halfR [(500000,500000)]),.sl 1 [[.sl 1 [[i64 0],[i64 0],[i64 929688]]],[.sl 1 [[i64 0],[i64 0],[i64 875000]]]],.bo false] (.tu [.bo false,i64 0,i64 2,i64 0]):=by
 have h:=proves_ok (halfR [(500000,500000)]) (half_wf _) false [[0,0,929688],[0,0,875000]]
 have h0 : provesE (halfR [(500000,500000)]) [[0,0,929688],[0,0,875000]] = 0:=by decide +kernel
 have h1 : provesO (halfR [(500000,500000)]) false [[0,0,929688],[0,0,875000]] = some (0,2):=by decide +kernel
 unfold provesR at h
 rw [if_pos h0,h1] at h
 exact h
theorem known_ok : ACalls Try.prog 13 [] (.bo true):=by
 obtain ⟨hi,hod⟩:=ex_odds
 have hta:=ex_table
 have hto:=ex_toss
 have hai:=ex_aim
 have hma:=ex_may
 have hpr:=ex_proves
 have hn:=half_nil
 have h1:=half_ok 0 500000
 have h2:=half_ok 500000 500000
 have ho:=one_ok 500000
 generalize halfR [(0,500000)] = A0 at hta h1
 generalize halfR [(500000,500000)] = A1 at hto hpr h2
 generalize halfR [] = A2 at hod hai hma hn
 refine acalls_st (rs:=[.bo true]) [.tmp 0] Try.func13 rfl (by kernel_rfl) Try.ntmps13 rfl (by simp) rfl fun C vs=>?_
 repeat refine zq ?_
 refine zb (by kernel_rfl) fun K hK=>?_
 simp only [go_sem]
 (try simp (disch:=omega) only [zI])
 repeat first | intro _ | refine ⟨by omega,?_⟩ | refine ⟨⟨by omega,by omega⟩,?_⟩
 refine hK _ ?_
 clear hK K
 repeat refine zq ?_
 refine awp_long ?_
 refine sops_take 1 (by kernel_rfl) fun K hK=>?_
 simp only [go_sem,List.take_succ_cons,List.take_zero,List.drop_succ_cons,List.drop_zero,List.append_eq,List.cons_append,List.nil_append]
 (try simp (disch:=omega) only [zI])
 repeat first | intro _ | refine ⟨by omega,?_⟩ | refine ⟨⟨by omega,by omega⟩,?_⟩
 refine hK _ rfl ?_
 clear hK K
 refine sops_sx 2 [[i64 0,i64 500000]] (by simp [go_sem]) (by simp) (by simp only [go_sem]; trivial) (by simp only [go_sem]; rfl) ?_
 try simp only [go_sem]
 refine sops_end (by kernel_rfl) fun K hK=>?_
 simp only [go_sem,List.drop_succ_cons,List.drop_zero,List.append_eq,List.cons_append,List.nil_append]
 (try simp (disch:=omega) only [zI])
 refine zh (h1) rfl (by simp only [go_sem,i64,ints]) (by simp only [go_sem,i64,ints]) (by first | exact .inl rfl | exact .inr rfl) ?_
 (try simp only [go_sem])
 (try simp (disch:=omega) only [zI])
 refine zh (hta) rfl (by simp only [go_sem,i64,ints]) (by simp only [go_sem,i64,ints]) (by first | exact .inl rfl | exact .inr rfl) ?_
 (try simp only [go_sem])
 (try simp (disch:=omega) only [zI])
 repeat first | intro _ | refine ⟨by omega,?_⟩ | refine ⟨⟨by omega,by omega⟩,?_⟩
 refine hK _ ?_
 clear hK K
 refine zw (zk [1,2,3]) ?_
 simp only [go_sem]
 repeat refine zq ?_
 refine awp_long ?_
 refine sops_take 1 (by kernel_rfl) fun K hK=>?_
 simp only [go_sem,List.take_succ_cons,List.take_zero,List.drop_succ_cons,List.drop_zero,List.append_eq,List.cons_append,List.nil_append]
 (try simp (disch:=omega) only [zI])
 refine zh (ho) rfl (by simp only [go_sem,i64,ints]) (by simp only [go_sem,i64,ints]) (by first | exact .inl rfl | exact .inr rfl) ?_
 (try simp only [go_sem])
 (try simp (disch:=omega) only [zI])
 repeat first | intro _ | refine ⟨by omega,?_⟩ | refine ⟨⟨by omega,by omega⟩,?_⟩
 refine hK _ rfl ?_
 clear hK K
 refine sops_sx 2 [[i64 500000,i64 500000]] (by simp [go_sem]) (by simp) (by simp only [go_sem]; trivial) (by simp only [go_sem]; rfl) ?_
 try simp only [go_sem]
 refine sops_end (by kernel_rfl) fun K hK=>?_
 simp only [go_sem,List.drop_succ_cons,List.drop_zero,List.append_eq,List.cons_append,List.nil_append]
 (try simp (disch:=omega) only [zI])
 refine zh (h2) rfl (by simp only [go_sem,i64,ints]) (by simp only [go_sem,i64,ints]) (by first | exact .inl rfl | exact .inr rfl) ?_
 (try simp only [go_sem])
 (try simp (disch:=omega) only [zI])
 refine zh (hto) rfl (by simp only [go_sem,i64,ints]) (by simp only [go_sem,i64,ints]) (by first | exact .inl rfl | exact .inr rfl) ?_
 (try simp only [go_sem])
 (try simp (disch:=omega) only [zI])
 repeat first | intro _ | refine ⟨by omega,?_⟩ | refine ⟨⟨by omega,by omega⟩,?_⟩
 refine hK _ ?_
 clear hK K
 refine zw (sub_frzP 4 4 [i64 929687,i64 929688] (by omega) rfl rfl) ?_
 refine zw (zk [1,2,3,4,5,6]) ?_
 simp only [go_sem]
 refine zw (sub_frzP 5 5 [i64 437500,i64 437500] (by omega) rfl rfl) ?_
 refine zw (zk [1,2,3,4,5,6]) ?_
 simp only [go_sem]
 repeat refine zq ?_
 refine zb (by kernel_rfl) fun K hK=>?_
 simp only [go_sem]
 (try simp (disch:=omega) only [zI])
 refine zh (hn) rfl (by simp only [go_sem,i64,ints]) (by simp only [go_sem,i64,ints]) (by first | exact .inl rfl | exact .inr rfl) ?_
 (try simp only [go_sem])
 (try simp (disch:=omega) only [zI])
 refine zh (hod) rfl (by simp only [go_sem,i64,ints]) (by simp only [go_sem,i64,ints]) (by first | exact .inl rfl | exact .inr rfl) ?_
 (try simp only [go_sem])
 (try simp (disch:=omega) only [zI])
 repeat first | intro _ | refine ⟨by omega,?_⟩ | refine ⟨⟨by omega,by omega⟩,?_⟩
 refine hK _ ?_
 clear hK K
 refine zw (zk [1,2,3,4,5,6,7,8]) ?_
 simp only [go_sem]
 repeat refine zq ?_
 refine zb (by kernel_rfl) fun K hK=>?_
 simp only [go_sem]
 (try simp (disch:=omega) only [zI])
 refine zh (hn) rfl (by simp only [go_sem,i64,ints]) (by simp only [go_sem,i64,ints]) (by first | exact .inl rfl | exact .inr rfl) ?_
 (try simp only [go_sem])
 (try simp (disch:=omega) only [zI])
 refine zh (hai) rfl (by simp only [go_sem,i64,ints]) (by simp only [go_sem,i64,ints]) (by first | exact .inl rfl | exact .inr rfl) ?_
 (try simp only [go_sem])
 (try simp (disch:=omega) only [zI])
 repeat first | intro _ | refine ⟨by omega,?_⟩ | refine ⟨⟨by omega,by omega⟩,?_⟩
 refine hK _ ?_
 clear hK K
 refine zw (zk [1,2,3,4,5,6,7,8,9,10,11]) ?_
 simp only [go_sem]
 repeat refine zq ?_
 refine zb (by kernel_rfl) fun K hK=>?_
 simp only [go_sem]
 (try simp (disch:=omega) only [zI])
 refine zh (hn) rfl (by simp only [go_sem,i64,ints]) (by simp only [go_sem,i64,ints]) (by first | exact .inl rfl | exact .inr rfl) ?_
 (try simp only [go_sem])
 (try simp (disch:=omega) only [zI])
 refine zh (hma) rfl (by simp only [go_sem,i64,ints]) (by simp only [go_sem,i64,ints]) (by first | exact .inl rfl | exact .inr rfl) ?_
 (try simp only [go_sem])
 (try simp (disch:=omega) only [zI])
 repeat first | intro _ | refine ⟨by omega,?_⟩ | refine ⟨⟨by omega,by omega⟩,?_⟩
 refine hK _ ?_
 clear hK K
 refine zw (zk [1,2,3,4,5,6,7,8,9,10,11,12,13]) ?_
 simp only [go_sem]
 repeat refine zq ?_
 refine awp_long ?_
 refine sops_take 1 (by kernel_rfl) fun K hK=>?_
 simp only [go_sem,List.take_succ_cons,List.take_zero,List.drop_succ_cons,List.drop_zero,List.append_eq,List.cons_append,List.nil_append]
 (try simp (disch:=omega) only [zI])
 refine zh (ho) rfl (by simp only [go_sem,i64,ints]) (by simp only [go_sem,i64,ints]) (by first | exact .inl rfl | exact .inr rfl) ?_
 (try simp only [go_sem])
 (try simp (disch:=omega) only [zI])
 repeat first | intro _ | refine ⟨by omega,?_⟩ | refine ⟨⟨by omega,by omega⟩,?_⟩
 refine hK _ rfl ?_
 clear hK K
 refine sops_sx 2 [[i64 500000,i64 500000]] (by simp [go_sem]) (by simp) (by simp only [go_sem]; trivial) (by simp only [go_sem]; rfl) ?_
 try simp only [go_sem]
 refine sops_end (by kernel_rfl) fun K hK=>?_
 simp only [go_sem,List.drop_succ_cons,List.drop_zero,List.append_eq,List.cons_append,List.nil_append]
 (try simp (disch:=omega) only [zI])
 refine zh (h2) rfl (by simp only [go_sem,i64,ints]) (by simp only [go_sem,i64,ints]) (by first | exact .inl rfl | exact .inr rfl) ?_
 (try simp only [go_sem])
 (try simp (disch:=omega) only [zI])
 refine zh (hpr) rfl (by simp only [go_sem,i64,ints]) (by simp only [go_sem,i64,ints]) (by first | exact .inl rfl | exact .inr rfl) ?_
 (try simp only [go_sem])
 (try simp (disch:=omega) only [zI])
 repeat first | intro _ | refine ⟨by omega,?_⟩ | refine ⟨⟨by omega,by omega⟩,?_⟩
 refine hK _ ?_
 clear hK K
 refine zw (zk [1,2,3,4,5,6,7,8,9,10,11,12,13,14,15,16,17]) ?_
 simp only [go_sem]
 repeat refine zq ?_
 refine zb (by kernel_rfl) fun K hK=>?_
 simp only [go_sem,bne_self_eq_false,List.append_eq,List.cons_append,List.nil_append]
 (try simp (disch:=omega) only [zI])
 repeat intro _
 repeat first | intro _ | refine ⟨by omega,?_⟩ | refine ⟨⟨by omega,by omega⟩,?_⟩
 refine hK _ ?_
 clear hK K
 refine zw (zk [1,2,4,5,7,9,10,14,15,16,120]) ?_
 simp only [go_sem]
 repeat refine zq ?_
 refine zc rfl (fun hc=>?_) (fun hc=>?_) <;> (try simp only [go_sem] at hc)
 refine zx ?_
 try simp only [go_sem]
 repeat refine zq ?_
 refine zb (by kernel_rfl) fun K hK=>?_
 simp only [go_sem,spanR,beq_self_eq_true,List.append_eq,List.cons_append,List.nil_append]
 (try simp (disch:=omega) only [zI])
 repeat intro _
 repeat first | intro _ | refine ⟨by omega,?_⟩ | refine ⟨⟨by omega,by omega⟩,?_⟩
 refine hK _ ?_
 clear hK K
 refine zw (zk [0]) ?_
 simp only [go_sem]
 refine ze ?_
 simp only [go_sem]
end Go.Proofs.Ytlbfkhikmigpbaa

namespace Go.Proofs.Ytlbfkhikmigpbaa
open Go Go.Oc
set_option linter.unusedSimpArgs false
set_option linter.unusedVariables false
set_option maxRecDepth 8000
set_option maxHeartbeats 1000000
theorem large_spec {r : Ru} (h : largeB r = false) : r.aims.length ≤ 1000000 ∧ r.ends.length ≤ 1000000 ∧ ∀ a ∈ r.aims,a.beds.length ≤ 1000000:=by
 simp only [largeB,Bool.or_eq_false_iff,decide_eq_false_iff_not] at h
 obtain ⟨h1,h2,h3,_⟩:=h
 refine ⟨by omega,by omega,fun a ha=>?_⟩
 have:=List.any_eq_false.1 h1 a ha
 simp at this
 omega
theorem tables_law (r : Ru) (hw : WfR r) : ACalls Try.prog 3 [ruV r] (.bo true):=by
 have hla:=large_ok r hw
 have hkn:=known_ok
 refine acalls_st (rs:=[.bo true]) [.tmp 2] Try.func3 rfl (by kernel_rfl) Try.ntmps3 rfl (by simp) rfl fun C vs=>?_
 repeat refine zq ?_
 refine zb (by kernel_rfl) fun K hK=>?_
 simp only [go_sem]
 (try simp (disch:=omega) only [zI])
 repeat first | intro _ | refine ⟨by omega,?_⟩ | refine ⟨⟨by omega,by omega⟩,?_⟩
 refine hK _ ?_
 clear hK K
 refine zw (sub_frzP 1 1 (ruC r) (by omega) rfl rfl) ?_
 refine zw (zk [1]) ?_
 simp only [go_sem]
 cases hL : largeB r
 rotate_left
 · rw [hL] at hla
   repeat refine zq ?_
   refine zb (by kernel_rfl) fun K hK=>?_
   simp only [go_sem]
   (try simp (disch:=omega) only [zI])
   refine zh (hla) rfl (by simp only [go_sem,i64,ints]) (by simp only [go_sem,i64,ints]) (by first | exact .inl rfl | exact .inr rfl) ?_
   (try simp only [go_sem])
   (try simp (disch:=omega) only [zI])
   repeat first | intro _ | refine ⟨by omega,?_⟩ | refine ⟨⟨by omega,by omega⟩,?_⟩
   refine hK _ ?_
   clear hK K
   refine zw (zk [1,9]) ?_
   simp only [go_sem]
   repeat refine zq ?_
   refine zc rfl (fun hc=>?_) (fun hc=>?_) <;> (try simp only [go_sem] at hc)
   repeat refine zq ?_
   refine zb (by kernel_rfl) fun K hK=>?_
   simp only [go_sem]
   (try simp (disch:=omega) only [zI])
   refine zh (hkn) rfl (by simp only [go_sem,i64,ints]) (by simp only [go_sem,i64,ints]) (by first | exact .inl rfl | exact .inr rfl) ?_
   (try simp only [go_sem])
   (try simp (disch:=omega) only [zI])
   repeat first | intro _ | refine ⟨by omega,?_⟩ | refine ⟨⟨by omega,by omega⟩,?_⟩
   refine hK _ ?_
   clear hK K
   refine zw (zk [2]) ?_
   simp only [go_sem]
   refine ze ?_
   simp only [go_sem]
 rw [hL] at hla
 obtain ⟨l1,l2,l3⟩:=large_spec hL
 have hrl:=rules_ok r l1 l2 l3
 have hch:=dcheck_ok r hw
 have hta:=table_ok r hw
 have hun:=unchanged_ok r
 have hre:=refRules_ok r hw
 repeat refine zq ?_
 refine zb (by kernel_rfl) fun K hK=>?_
 simp only [go_sem]
 (try simp (disch:=omega) only [zI])
 refine zh (hla) rfl (by simp only [go_sem,i64,ints]) (by simp only [go_sem,i64,ints]) (by first | exact .inl rfl | exact .inr rfl) ?_
 (try simp only [go_sem])
 (try simp (disch:=omega) only [zI])
 repeat first | intro _ | refine ⟨by omega,?_⟩ | refine ⟨⟨by omega,by omega⟩,?_⟩
 refine hK _ ?_
 clear hK K
 refine zw (zk [1,9]) ?_
 simp only [go_sem]
 repeat refine zq ?_
 refine zc rfl (fun hc=>?_) (fun hc=>?_) <;> (try simp only [go_sem] at hc)
 refine zx ?_
 try simp only [go_sem]
 repeat refine zq ?_
 refine zb (by kernel_rfl) fun K hK=>?_
 simp only [go_sem]
 (try simp (disch:=omega) only [zI])
 refine zh (hrl) rfl (by simp only [go_sem,i64,ints]) (by simp only [go_sem,i64,ints]) (by first | exact .inl rfl | exact .inr rfl) ?_
 (try simp only [go_sem])
 (try simp (disch:=omega) only [zI])
 repeat first | intro _ | refine ⟨by omega,?_⟩ | refine ⟨⟨by omega,by omega⟩,?_⟩
 refine hK _ ?_
 clear hK K
 refine zw (sub_frzP 3 3 (ruC r) (by omega) rfl rfl) ?_
 refine zw (zk [1,3]) ?_
 simp only [go_sem]
 repeat refine zq ?_
 refine zb (by kernel_rfl) fun K hK=>?_
 simp only [go_sem]
 (try simp (disch:=omega) only [zI])
 refine zh (hch) rfl (by simp only [go_sem,i64,ints]) (by simp only [go_sem,i64,ints]) (by first | exact .inl rfl | exact .inr rfl) ?_
 (try simp only [go_sem])
 (try simp (disch:=omega) only [zI])
 repeat first | intro _ | refine ⟨by omega,?_⟩ | refine ⟨⟨by omega,by omega⟩,?_⟩
 refine hK _ ?_
 clear hK K
 refine zw (zk [1,3,4]) ?_
 simp only [go_sem]
 by_cases h0 : ruE r = 0
 · obtain ⟨hG,_⟩:=ruG_of h0
   have hH:=refH_of h0
   unfold tabsV at hta
   rw [if_pos h0,if_pos h0,h0] at hta
   rw [h0] at hre ⊢
   have ht0:=refTable_ok false hG hH
   have ht1:=refTable_ok true hG hH
   have hs0:=same_ok (tabF r false)
   have hs1:=same_ok (tabF r true)
   repeat refine zq ?_
   refine zb (by kernel_rfl) fun K hK=>?_
   simp only [go_sem]
   (try simp (disch:=omega) only [zI])
   refine zh (hta) rfl (by simp only [go_sem,i64,ints]) (by simp only [go_sem,i64,ints]) (by first | exact .inl rfl | exact .inr rfl) ?_
   (try simp only [go_sem])
   (try simp (disch:=omega) only [zI])
   repeat first | intro _ | refine ⟨by omega,?_⟩ | refine ⟨⟨by omega,by omega⟩,?_⟩
   refine hK _ ?_
   clear hK K
   refine zw (zk [1,3,4,5,6,7]) ?_
   simp only [go_sem]
   repeat refine zq ?_
   refine zb (by kernel_rfl) fun K hK=>?_
   simp only [go_sem,bne_self_eq_false]
   (try simp (disch:=omega) only [zI])
   refine zh (hun) rfl (by simp only [go_sem,i64,ints,bne_self_eq_false]) (by simp only [go_sem,i64,ints,bne_self_eq_false]) (by first | exact .inl rfl | exact .inr rfl) ?_
   (try simp only [go_sem,bne_self_eq_false])
   (try simp (disch:=omega) only [zI])
   refine zh (hre) rfl (by simp only [go_sem,i64,ints,bne_self_eq_false]) (by simp only [go_sem,i64,ints,bne_self_eq_false]) (by first | exact .inl rfl | exact .inr rfl) ?_
   (try simp only [go_sem,bne_self_eq_false])
   (try simp (disch:=omega) only [zI])
   repeat first | intro _ | refine ⟨by omega,?_⟩ | refine ⟨⟨by omega,by omega⟩,?_⟩
   refine hK _ ?_
   clear hK K
   refine zw (zk [1,4,5,6,35]) ?_
   simp only [go_sem]
   repeat refine zq ?_
   refine zc rfl (fun hc=>?_) (fun hc=>?_) <;> (try simp only [go_sem] at hc)
   refine zx ?_
   try simp only [go_sem]
   repeat refine zq ?_
   refine zb (by kernel_rfl) fun K hK=>?_
   simp only [go_sem,bne_self_eq_false]
   (try simp (disch:=omega) only [zI])
   repeat first | intro _ | refine ⟨by omega,?_⟩ | refine ⟨⟨by omega,by omega⟩,?_⟩
   refine hK _ ?_
   clear hK K
   refine zw (zk [1,4,5,6,37]) ?_
   simp only [go_sem]
   repeat refine zq ?_
   refine zc rfl (fun hc=>?_) (fun hc=>?_) <;> (try simp only [go_sem] at hc)
   refine zx ?_
   try simp only [go_sem]
   repeat refine zq ?_
   refine zb (by kernel_rfl) fun K hK=>?_
   simp only [go_sem]
   (try simp (disch:=omega) only [zI])
   refine zh (ht0) rfl (by simp only [go_sem,i64,ints]) (by simp only [go_sem,i64,ints]) (by first | exact .inl rfl | exact .inr rfl) ?_
   (try simp only [go_sem])
   (try simp (disch:=omega) only [zI])
   refine zh (hs0) rfl (by simp only [go_sem,i64,ints]) (by simp only [go_sem,i64,ints]) (by first | exact .inl rfl | exact .inr rfl) ?_
   (try simp only [go_sem])
   (try simp (disch:=omega) only [zI])
   refine zh (ht1) rfl (by simp only [go_sem,i64,ints]) (by simp only [go_sem,i64,ints]) (by first | exact .inl rfl | exact .inr rfl) ?_
   (try simp only [go_sem])
   (try simp (disch:=omega) only [zI])
   refine zh (hs1) rfl (by simp only [go_sem,i64,ints]) (by simp only [go_sem,i64,ints]) (by first | exact .inl rfl | exact .inr rfl) ?_
   (try simp only [go_sem])
   (try simp (disch:=omega) only [zI])
   refine zh (hkn) rfl (by simp only [go_sem,i64,ints]) (by simp only [go_sem,i64,ints]) (by first | exact .inl rfl | exact .inr rfl) ?_
   (try simp only [go_sem])
   (try simp (disch:=omega) only [zI])
   repeat first | intro _ | refine ⟨by omega,?_⟩ | refine ⟨⟨by omega,by omega⟩,?_⟩
   refine hK _ ?_
   clear hK K
   refine zw (zk [2]) ?_
   simp only [go_sem]
   refine ze ?_
   simp only [go_sem]
 · have c : (ruE r != 0) = true:=by simpa using h0
   unfold tabsV at hta
   rw [if_neg h0,if_neg h0] at hta
   repeat refine zq ?_
   refine zb (by kernel_rfl) fun K hK=>?_
   simp only [go_sem]
   (try simp (disch:=omega) only [zI])
   refine zh (hta) rfl (by simp only [go_sem,i64,ints]) (by simp only [go_sem,i64,ints]) (by first | exact .inl rfl | exact .inr rfl) ?_
   (try simp only [go_sem])
   (try simp (disch:=omega) only [zI])
   repeat first | intro _ | refine ⟨by omega,?_⟩ | refine ⟨⟨by omega,by omega⟩,?_⟩
   refine hK _ ?_
   clear hK K
   refine zw (zk [1,3,4,5,6,7]) ?_
   simp only [go_sem]
   repeat refine zq ?_
   refine zb (by kernel_rfl) fun K hK=>?_
   simp only [go_sem,bne_self_eq_false]
   (try simp (disch:=omega) only [zI])
   refine zh (hun) rfl (by simp only [go_sem,i64,ints,bne_self_eq_false]) (by simp only [go_sem,i64,ints,bne_self_eq_false]) (by first | exact .inl rfl | exact .inr rfl) ?_
   (try simp only [go_sem,bne_self_eq_false])
   (try simp (disch:=omega) only [zI])
   refine zh (hre) rfl (by simp only [go_sem,i64,ints,bne_self_eq_false]) (by simp only [go_sem,i64,ints,bne_self_eq_false]) (by first | exact .inl rfl | exact .inr rfl) ?_
   (try simp only [go_sem,bne_self_eq_false])
   (try simp (disch:=omega) only [zI])
   repeat first | intro _ | refine ⟨by omega,?_⟩ | refine ⟨⟨by omega,by omega⟩,?_⟩
   refine hK _ ?_
   clear hK K
   refine zw (zk [1,4,5,6,35]) ?_
   simp only [go_sem]
   repeat refine zq ?_
   refine zc rfl (fun hc=>?_) (fun hc=>?_) <;> (try simp only [go_sem] at hc)
   refine zx ?_
   try simp only [go_sem]
   repeat refine zq ?_
   refine zb (by kernel_rfl) fun K hK=>?_
   simp only [go_sem,c]
   (try simp (disch:=omega) only [zI])
   repeat first | intro _ | refine ⟨by omega,?_⟩ | refine ⟨⟨by omega,by omega⟩,?_⟩
   refine hK _ ?_
   clear hK K
   refine zw (zk [1,4,5,6,37]) ?_
   simp only [go_sem]
   repeat refine zq ?_
   refine zc rfl (fun hc=>?_) (fun hc=>?_) <;> (try simp only [go_sem] at hc)
   repeat refine zq ?_
   refine zb (by kernel_rfl) fun K hK=>?_
   simp only [go_sem,beq_self_eq_true]
   (try simp (disch:=omega) only [zI])
   refine ⟨fun _=>?_,fun h=>by first | (cases h; done) | (simp at h)⟩
   refine zh (hkn) rfl (by simp only [go_sem,i64,ints,beq_self_eq_true]) (by simp only [go_sem,i64,ints,beq_self_eq_true]) (by first | exact .inl rfl | exact .inr rfl) ?_
   (try simp only [go_sem,beq_self_eq_true])
   (try simp (disch:=omega) only [zI])
   repeat first | intro _ | refine ⟨by omega,?_⟩ | refine ⟨⟨by omega,by omega⟩,?_⟩
   refine hK _ ?_
   clear hK K
   refine zw (zk [2]) ?_
   simp only [go_sem]
   refine ze ?_
   simp only [go_sem]
end Go.Proofs.Ytlbfkhikmigpbaa

namespace Go.Proofs.Ytlbfkhikmigpbaa
open Go Go.Oc
set_option linter.unusedSimpArgs false
set_option linter.unusedVariables false
set_option maxRecDepth 8000
set_option maxHeartbeats 1000000
theorem tosses_law (r : Ru) (hw : WfR r) : ACalls Try.prog 6 [ruV r] (.bo true):=by
 have hla:=large_ok r hw
 have hkn:=known_ok
 refine acalls_st (rs:=[.bo true]) [.tmp 2] Try.func6 rfl (by kernel_rfl) Try.ntmps6 rfl (by simp) rfl fun C vs=>?_
 repeat refine zq ?_
 refine zb (by kernel_rfl) fun K hK=>?_
 simp only [go_sem]
 (try simp (disch:=omega) only [zI])
 repeat first | intro _ | refine ⟨by omega,?_⟩ | refine ⟨⟨by omega,by omega⟩,?_⟩
 refine hK _ ?_
 clear hK K
 refine zw (sub_frzP 1 1 (ruC r) (by omega) rfl rfl) ?_
 refine zw (zk [1]) ?_
 simp only [go_sem]
 cases hL : largeB r
 rotate_left
 · rw [hL] at hla
   repeat refine zq ?_
   refine zb (by kernel_rfl) fun K hK=>?_
   simp only [go_sem]
   (try simp (disch:=omega) only [zI])
   refine zh (hla) rfl (by simp only [go_sem,i64,ints]) (by simp only [go_sem,i64,ints]) (by first | exact .inl rfl | exact .inr rfl) ?_
   (try simp only [go_sem])
   (try simp (disch:=omega) only [zI])
   repeat first | intro _ | refine ⟨by omega,?_⟩ | refine ⟨⟨by omega,by omega⟩,?_⟩
   refine hK _ ?_
   clear hK K
   refine zw (zk [1,10]) ?_
   simp only [go_sem]
   repeat refine zq ?_
   refine zc rfl (fun hc=>?_) (fun hc=>?_) <;> (try simp only [go_sem] at hc)
   repeat refine zq ?_
   refine zb (by kernel_rfl) fun K hK=>?_
   simp only [go_sem]
   (try simp (disch:=omega) only [zI])
   refine zh (hkn) rfl (by simp only [go_sem,i64,ints]) (by simp only [go_sem,i64,ints]) (by first | exact .inl rfl | exact .inr rfl) ?_
   (try simp only [go_sem])
   (try simp (disch:=omega) only [zI])
   repeat first | intro _ | refine ⟨by omega,?_⟩ | refine ⟨⟨by omega,by omega⟩,?_⟩
   refine hK _ ?_
   clear hK K
   refine zw (zk [2]) ?_
   simp only [go_sem]
   refine ze ?_
   simp only [go_sem]
 rw [hL] at hla
 obtain ⟨l1,l2,l3⟩:=large_spec hL
 have hrl:=rules_ok r l1 l2 l3
 have hto:=toss_ok r hw
 have hre:=refRules_ok r hw
 repeat refine zq ?_
 refine zb (by kernel_rfl) fun K hK=>?_
 simp only [go_sem]
 (try simp (disch:=omega) only [zI])
 refine zh (hla) rfl (by simp only [go_sem,i64,ints]) (by simp only [go_sem,i64,ints]) (by first | exact .inl rfl | exact .inr rfl) ?_
 (try simp only [go_sem])
 (try simp (disch:=omega) only [zI])
 repeat first | intro _ | refine ⟨by omega,?_⟩ | refine ⟨⟨by omega,by omega⟩,?_⟩
 refine hK _ ?_
 clear hK K
 refine zw (zk [1,10]) ?_
 simp only [go_sem]
 repeat refine zq ?_
 refine zc rfl (fun hc=>?_) (fun hc=>?_) <;> (try simp only [go_sem] at hc)
 refine zx ?_
 try simp only [go_sem]
 by_cases h0 : ruE r = 0
 · obtain ⟨hG,hn1,_⟩:=ruG_of h0
   have hH:=refH_of h0
   unfold tossV at hto
   rw [if_pos h0,if_pos h0,h0] at hto
   rw [h0] at hre
   have ht0:=refTable_ok false hG hH
   have ht1:=refTable_ok true hG hH
   have hs2:=hG.s2
   have hA0:=(vis_tab hG false (k:=0) hG.e1 r.start.toNat (by omega)).refAfter false (left:=r.start.toNat) (by omega)
   have hA1:=(vis_tab hG true (k:=0) hG.e1 r.start.toNat (by omega)).refAfter true (left:=r.start.toNat) (by omega)
   rw [show ((r.start.toNat : Nat) : Int) = r.start by omega] at hA0 hA1
   have hA0 : ACalls Try.prog 31 [ruV r,tabR (tabF r false),i64 0,i64 r.start,.bo false] (i64 (tossS r false)):=hA0
   have hA1 : ACalls Try.prog 31 [ruV r,tabR (tabF r true),i64 0,i64 r.start,.bo true] (i64 (tossS r true)):=hA1
   obtain ⟨row0,a1,a2⟩:=tab_zero hG false
   obtain ⟨row1,b1,b2⟩:=tab_zero hG true
   have a3 : 0 < (tabF r false).length:=(List.getElem?_eq_some_iff.1 a1).1
   have b3 : 0 < (tabF r true).length:=(List.getElem?_eq_some_iff.1 b1).1
   have a4 : r.start.toNat < row0.length:=(List.getElem?_eq_some_iff.1 a2).1
   have b4 : r.start.toNat < row1.length:=(List.getElem?_eq_some_iff.1 b2).1
   have hs0 : 0 ≤ r.start:=by omega
   have a5 : r.start < (row0.length : Int):=by omega
   have b5 : r.start < (row1.length : Int):=by omega
   have a6 : (0 : Int) < ((tabF r false).length : Int):=by omega
   have b6 : (0 : Int) < ((tabF r true).length : Int):=by omega
   generalize tabF r false = T0 at *
   generalize tabF r true = T1 at *
   generalize tossF r false = v0 at *
   generalize tossF r true = v1 at *
   generalize tossS r false = v2 at *
   generalize tossS r true = v3 at *
   repeat refine zq ?_
   refine zb (by kernel_rfl) fun K hK=>?_
   simp only [go_sem]
   (try simp (disch:=omega) only [zI])
   refine zh (hrl) rfl (by simp only [go_sem,i64,ints]) (by simp only [go_sem,i64,ints]) (by first | exact .inl rfl | exact .inr rfl) ?_
   (try simp only [go_sem])
   (try simp (disch:=omega) only [zI])
   refine zh (hto) rfl (by simp only [go_sem,i64,ints]) (by simp only [go_sem,i64,ints]) (by first | exact .inl rfl | exact .inr rfl) ?_
   (try simp only [go_sem])
   (try simp (disch:=omega) only [zI])
   repeat first | intro _ | refine ⟨by omega,?_⟩ | refine ⟨⟨by omega,by omega⟩,?_⟩
   refine hK _ ?_
   clear hK K
   refine zw (sub_frzP 3 3 [i64 v0,i64 v1] (by omega) rfl rfl) ?_
   refine zw (zk [1,3,4,5]) ?_
   simp only [go_sem]
   refine zw (sub_frzP 4 4 [i64 v2,i64 v3] (by omega) rfl rfl) ?_
   refine zw (zk [1,3,4,5]) ?_
   simp only [go_sem]
   repeat refine zq ?_
   refine zb (by kernel_rfl) fun K hK=>?_
   simp only [go_sem]
   (try simp (disch:=omega) only [zI])
   refine zh (hre) rfl (by simp only [go_sem,i64,ints]) (by simp only [go_sem,i64,ints]) (by first | exact .inl rfl | exact .inr rfl) ?_
   (try simp only [go_sem])
   (try simp (disch:=omega) only [zI])
   repeat first | intro _ | refine ⟨by omega,?_⟩ | refine ⟨⟨by omega,by omega⟩,?_⟩
   refine hK _ ?_
   clear hK K
   refine zw (zk [1,3,4,5,6]) ?_
   simp only [go_sem]
   repeat refine zq ?_
   refine zb (by kernel_rfl) fun K hK=>?_
   simp only [go_sem,bne_self_eq_false]
   (try simp (disch:=omega) only [zI])
   repeat first | intro _ | refine ⟨by omega,?_⟩ | refine ⟨⟨by omega,by omega⟩,?_⟩
   refine hK _ ?_
   clear hK K
   refine zw (zk [1,3,4,5,6,22]) ?_
   simp only [go_sem]
   repeat refine zq ?_
   refine zc rfl (fun hc=>?_) (fun hc=>?_) <;> (try simp only [go_sem] at hc)
   refine zx ?_
   try simp only [go_sem]
   repeat refine zq ?_
   refine zg follows (by decide +kernel) (by kernel_rfl) fun K hK=>?_
   simp only [go_sem]
   (try simp (disch:=omega) only [zI])
   refine zh (ht0) rfl (by simp only [go_sem,i64,ints]) (by simp only [go_sem,i64,ints]) (by first | exact .inl rfl | exact .inr rfl) ?_
   (try simp only [go_sem])
   (try simp (disch:=omega) only [zI])
   refine zh (ht1) rfl (by simp only [go_sem,i64,ints]) (by simp only [go_sem,i64,ints]) (by first | exact .inl rfl | exact .inr rfl) ?_
   (try simp only [go_sem])
   (try simp (disch:=omega) only [zI])
   repeat first | intro _ | refine ⟨by omega,?_⟩ | refine ⟨⟨by omega,by omega⟩,?_⟩
   refine hK _ ?_
   clear hK K
   refine zw (zk [1,3,4,5,7,8]) ?_
   simp only [go_sem]
   repeat refine zq ?_
   refine zg follows (by decide +kernel) (by kernel_rfl) fun K hK=>?_
   simp only [go_sem,a1,a2,a3,a4,a5,a6,b1,b2,b3,b4,b5,b6,hs0,eqN52,beq_self_eq_true,Bool.and_self]
   (try simp (disch:=omega) only [zI])
   repeat first | intro _ | refine ⟨by omega,?_⟩ | refine ⟨⟨by omega,by omega⟩,?_⟩
   refine zh (hA0) rfl (by simp only [go_sem,i64,ints,eqN52,beq_self_eq_true,Bool.and_self]) (by simp only [go_sem,i64,ints,eqN52,beq_self_eq_true,Bool.and_self]) (by first | exact .inl rfl | exact .inr rfl) ?_
   (try simp only [go_sem,eqN52,beq_self_eq_true,Bool.and_self])
   (try simp (disch:=omega) only [zI])
   refine zh (hA1) rfl (by simp only [go_sem,i64,ints,eqN52,beq_self_eq_true,Bool.and_self]) (by simp only [go_sem,i64,ints,eqN52,beq_self_eq_true,Bool.and_self]) (by first | exact .inl rfl | exact .inr rfl) ?_
   (try simp only [go_sem,eqN52,beq_self_eq_true,Bool.and_self])
   (try simp (disch:=omega) only [zI])
   refine zh (hkn) rfl (by simp only [go_sem,i64,ints,eqN52,beq_self_eq_true,Bool.and_self]) (by simp only [go_sem,i64,ints,eqN52,beq_self_eq_true,Bool.and_self]) (by first | exact .inl rfl | exact .inr rfl) ?_
   (try simp only [go_sem,eqN52,beq_self_eq_true,Bool.and_self])
   (try simp (disch:=omega) only [zI])
   repeat first | intro _ | refine ⟨by omega,?_⟩ | refine ⟨⟨by omega,by omega⟩,?_⟩
   refine hK _ ?_
   clear hK K
   refine zw (zk [2]) ?_
   simp only [go_sem]
   refine ze ?_
   simp only [go_sem]
 · have c : (ruE r != 0) = true:=by simpa using h0
   unfold tossV at hto
   rw [if_neg h0,if_neg h0] at hto
   repeat refine zq ?_
   refine zb (by kernel_rfl) fun K hK=>?_
   simp only [go_sem]
   (try simp (disch:=omega) only [zI])
   refine zh (hrl) rfl (by simp only [go_sem,i64,ints]) (by simp only [go_sem,i64,ints]) (by first | exact .inl rfl | exact .inr rfl) ?_
   (try simp only [go_sem])
   (try simp (disch:=omega) only [zI])
   refine zh (hto) rfl (by simp only [go_sem,i64,ints]) (by simp only [go_sem,i64,ints]) (by first | exact .inl rfl | exact .inr rfl) ?_
   (try simp only [go_sem])
   (try simp (disch:=omega) only [zI])
   repeat first | intro _ | refine ⟨by omega,?_⟩ | refine ⟨⟨by omega,by omega⟩,?_⟩
   refine hK _ ?_
   clear hK K
   refine zw (sub_frzP 3 3 [i64 0,i64 0] (by omega) rfl rfl) ?_
   refine zw (zk [1,3,4,5]) ?_
   simp only [go_sem]
   refine zw (sub_frzP 4 4 [i64 0,i64 0] (by omega) rfl rfl) ?_
   refine zw (zk [1,3,4,5]) ?_
   simp only [go_sem]
   repeat refine zq ?_
   refine zb (by kernel_rfl) fun K hK=>?_
   simp only [go_sem]
   (try simp (disch:=omega) only [zI])
   refine zh (hre) rfl (by simp only [go_sem,i64,ints]) (by simp only [go_sem,i64,ints]) (by first | exact .inl rfl | exact .inr rfl) ?_
   (try simp only [go_sem])
   (try simp (disch:=omega) only [zI])
   repeat first | intro _ | refine ⟨by omega,?_⟩ | refine ⟨⟨by omega,by omega⟩,?_⟩
   refine hK _ ?_
   clear hK K
   refine zw (zk [1,3,4,5,6]) ?_
   simp only [go_sem]
   repeat refine zq ?_
   refine zb (by kernel_rfl) fun K hK=>?_
   simp only [go_sem,c]
   (try simp (disch:=omega) only [zI])
   repeat first | intro _ | refine ⟨by omega,?_⟩ | refine ⟨⟨by omega,by omega⟩,?_⟩
   refine hK _ ?_
   clear hK K
   refine zw (zk [1,3,4,5,6,22]) ?_
   simp only [go_sem]
   repeat refine zq ?_
   refine zc rfl (fun hc=>?_) (fun hc=>?_) <;> (try simp only [go_sem] at hc)
   repeat refine zq ?_
   refine zb (by kernel_rfl) fun K hK=>?_
   simp only [go_sem,eqN52,beq_self_eq_true,Bool.and_self]
   (try simp (disch:=omega) only [zI])
   refine zh (hkn) rfl (by simp only [go_sem,i64,ints,eqN52,beq_self_eq_true]) (by simp only [go_sem,i64,ints,eqN52,beq_self_eq_true]) (by first | exact .inl rfl | exact .inr rfl) ?_
   (try simp only [go_sem,eqN52,beq_self_eq_true])
   (try simp (disch:=omega) only [zI])
   repeat first | intro _ | refine ⟨by omega,?_⟩ | refine ⟨⟨by omega,by omega⟩,?_⟩
   refine hK _ ?_
   clear hK K
   refine zw (zk [2]) ?_
   simp only [go_sem]
   refine ze ?_
   simp only [go_sem]
end Go.Proofs.Ytlbfkhikmigpbaa

namespace Go.Oc
open Go Go.RowKit Go.ChangeShapes Go.WideShapes
inductive Sh where
 | int (k : IntKind)
 | bool
 | sl (es : List Sh)
def fieldsSh (P : Program) (sh : TypeId → Option (List Sh)) : List Field → Nat → Option (List Sh)
 | [],_=>some []
 | f :: fs, o =>
   match sh f.type with
   | some ss=>if f.offset == o && ss.length == P.cellsOf f.type then match fieldsSh P sh fs (o + ss.length) with | some q=>some (ss ++ q) | none=>none else none
   | none=>none
def shape (P : Program) : Nat → TypeId → Option (List Sh)
 | 0,_=>none
 | n + 1, t =>
   match P.underlying t with
   | some (.int k)=>some [.int k]
   | some .bool=>some [.bool]
   | some (.slice e) =>
     match shape P n e with
     | some ss=>if ss.length == P.cellsOf e && decide (0 < ss.length) then some [.sl ss] else none
     | none=>none
   | some (.array m e) =>
     match shape P n e with
     | some ss=>if ss.length == P.cellsOf e && P.cellsOf t == m * ss.length then some (List.replicate m ss).flatten else none
     | none=>none
   | some (.struct fs) =>
     match fieldsSh P (shape P n) fs.toList 0 with
     | some ss=>if ss.length == P.cellsOf t then some ss else none
     | none=>none
   | _=>none
mutual
def Fits : Sh → RV → Prop
 | .int k,x=>∃ n,x = .it k n ∧ (Lit.int k n).wf = true
 | .bool,x=>∃ b,x = .bo b
 | .sl ss,x=>∃ es,x = .sl ss.length es ∧ FitsE ss es
def FitsL : List Sh → List RV → Prop
 | [],xs=>xs = []
 | s :: ss,xs=>∃ y ys,xs = y :: ys ∧ Fits s y ∧ FitsL ss ys
def FitsE (ss : List Sh) : List (List RV) → Prop
 | []=>True
 | e :: es=>FitsL ss e ∧ FitsE ss es
end
theorem fitsL_append : ∀ {s1 s2 : List Sh} {x1 x2 : List RV},FitsL s1 x1 → FitsL s2 x2 → FitsL (s1 ++ s2) (x1 ++ x2)
 | [],_,_,_,h1,h2=>by simp only [FitsL] at h1; subst h1; simpa using h2
 | s :: ss, s2, x1, x2, h1, h2 => by
   simp only [FitsL] at h1
   obtain ⟨y,ys,rfl,h3,h4⟩:=h1
   simp only [List.cons_append,FitsL]
   exact ⟨y,_,rfl,h3,fitsL_append h4 h2⟩
theorem fitsL_length : ∀ {ss : List Sh} {xs : List RV},FitsL ss xs → xs.length = ss.length
 | [],_,h=>by simp only [FitsL] at h; subst h; rfl
 | s :: ss, _, h => by
   simp only [FitsL] at h
   obtain ⟨y,ys,rfl,_,h⟩:=h
   simp [fitsL_length h]
theorem fitsE_of : ∀ {ss : List Sh} {es : List (List RV)},(∀ e ∈ es,FitsL ss e) → FitsE ss es
 | _,[],_=>by simp only [FitsE]
 | ss,e :: es,h=>by simp only [FitsE]; exact ⟨h e (by simp),fitsE_of fun x hx=>h x (by simp [hx])⟩
theorem choice {α : Type} {Q : Nat → α → Prop} : ∀ (n : Nat),(∀ i,i < n → ∃ x,Q i x) → ∃ xs : List α,xs.length = n ∧ ∀ i x,xs[i]? = some x → Q i x
 | 0,_=>⟨[],rfl,by simp⟩
 | n + 1, h => by
   obtain ⟨xs,hl,hx⟩:=choice n fun i hi=>h i (by omega)
   obtain ⟨y,hy⟩:=h n (by omega)
   refine ⟨xs ++ [y],by simp [hl],fun i x hi=>?_⟩
   by_cases h1 : i < n
   · rw [List.getElem?_append_left (by omega)] at hi; exact hx i x hi
   · rw [List.getElem?_append_right (by omega)] at hi
     have : i = n:=by have:=(List.getElem?_eq_some_iff.1 hi).1; simp at this; omega
     subst this
     simp [hl] at hi
     exact hi ▸ hy
section
variable {w : World} {P : Program}
theorem cells?_get {base n : Nat} {a : Addr} {cs : List Value} (h : w.cells? base a n = some cs) : cs.length = n ∧ ∀ i,i < n → w.cell? (a.add i) = cs[i]?:=by
 unfold World.cells? at h
 split at h
 · exact ⟨by simpa using mapM_some_length h,fun i hi=>mapM_some_get h i i (by simp [hi])⟩
 · cases h
theorem cell_lt {a : Addr} {v : Value} (h : w.cell? a = some v) : a.block < w.heap.size:=by
 refine Decidable.byContradiction fun hn=>?_
 have : w.heap[a.block]? = none:=by simp; omega
 simp [World.cell?,this] at h
def old (w : World) : Nat → Prop:=fun b=>b < w.heap.size
theorem relC_of_cells {xs : List RV} {cs : List Value} {ad : Addr} (hV : RV.relV w (old w) xs cs) (hone : ∀ u ∈ cs,u.oneCell' = true) (hc : ∀ i,i < cs.length → w.cell? (ad.add i) = cs[i]?) : RV.relC w (old w) xs ad 0:=by
 refine RV.relC_of_get fun i x hx=>?_
 obtain ⟨u,hu,hr⟩:=RV.relV_get hV hx
 have hi:=(List.getElem?_eq_some_iff.1 hu).1
 refine ⟨u,?_,hone u (List.mem_of_getElem? hu),hr⟩
 rw [Nat.zero_add,hc i hi,hu]
variable {H : Type} {enc : TypeId × Value → H} {base : Nat} {spare : Nat → Bool} {held : Bool}
def Good3 (w : World) (ss : List Sh) (cs : List Value) : Prop:=∃ xs,FitsL ss xs ∧ RV.relV w (old w) xs cs ∧ ∀ u ∈ cs,u.oneCell' = true
theorem good3_append {s1 s2 : List Sh} {c1 c2 : List Value} (h1 : Good3 w s1 c1) (h2 : Good3 w s2 c2) : Good3 w (s1 ++ s2) (c1 ++ c2):=by
 obtain ⟨x1,f1,r1,o1⟩:=h1
 obtain ⟨x2,f2,r2,o2⟩:=h2
 refine ⟨x1 ++ x2,fitsL_append f1 f2,RV.relV_append r1 r2,fun u hu=>?_⟩
 rcases List.mem_append.1 hu with hu | hu
 · exact o1 u hu
 · exact o2 u hu
theorem good3_length {ss : List Sh} {cs : List Value} (h : Good3 w ss cs) : cs.length = ss.length:=by
 obtain ⟨xs,f,r,_⟩:=h
 rw [RV.relV_length r,fitsL_length f]
theorem trod_fits : ∀ (fuel n : Nat) (t : TypeId) (cs : List Value) (x : DataW H × List MemPlace) (ss : List Sh),DataW.trod enc P w base spare held fuel t cs = some x → shape P n t = some ss → Good3 w ss cs:=by
 intro fuel
 induction fuel with
 | zero=>intro n t cs x ss h; simp [DataW.trod] at h
 | succ fuel ih =>
   intro n t cs x ss h hs
   cases n with
   | zero=>simp [shape] at hs
   | succ n =>
     unfold shape at hs
     split at hs
     · rename_i k ht
       injection hs with hs; subst hs
       obtain ⟨m,rfl,_,hw⟩:=DataW.trod_int ht h
       exact ⟨[.it k m],by simp only [FitsL,Fits]; exact ⟨_,[],rfl,⟨m,rfl,hw⟩,rfl⟩,by simp only [RV.relV,RV.rel]; exact ⟨_,[],rfl,rfl,rfl⟩,by simp [Value.oneCell']⟩
     · rename_i ht
       injection hs with hs; subst hs
       obtain ⟨b,rfl,_⟩:=DataW.trod_bool ht h
       exact ⟨[.bo b],by simp only [FitsL,Fits]; exact ⟨_,[],rfl,⟨b,rfl⟩,rfl⟩,by simp only [RV.relV,RV.rel]; exact ⟨_,[],rfl,rfl,rfl⟩,by simp [Value.oneCell']⟩
     · rename_i e ht
       split at hs
       · rename_i es hes
         split at hs
         · rename_i hc
           simp only [Bool.and_eq_true,beq_iff_eq,decide_eq_true_eq] at hc
           injection hs with hs; subst hs
           rcases DataW.trod_slice ht h with ⟨rfl,_⟩ | ⟨a,len,cap,elems,rest,m,hm,rfl,_,_,hlc,hcm,hel,hget,_⟩
           · refine ⟨[.sl es.length []],?_,?_,by simp [Value.oneCell']⟩
             · simp only [FitsL,Fits]
               exact ⟨_,[],rfl,⟨[],rfl,by simp only [FitsE]⟩,rfl⟩
             · simp only [RV.relV,RV.rel]
               exact ⟨_,[],rfl,⟨none,0,rfl,Nat.le_refl _,Nat.zero_le _,fun h=>absurd rfl h⟩,rfl⟩
           · injection hm with hm; subst hm
             have hall : ∀ i,i < len → ∃ e',FitsL es e' ∧ e'.length = es.length ∧ RV.relC w (old w) e' (a.add (i * es.length)) 0 ∧ a.block < w.heap.size:=fun i hi=>by
              have h1:=hget i hi
              have h2 : i < elems.length:=by omega
              rw [List.getElem?_eq_getElem h2] at h1
              obtain ⟨ci,hci,htr⟩:=Option.bind_eq_some_iff.1 h1
              rw [← hc.1] at hci
              obtain ⟨hl,hcell⟩:=cells?_get hci
              obtain ⟨xs,f,r,o⟩:=ih n e ci _ es htr hes
              refine ⟨xs,f,fitsL_length f,relC_of_cells r o (fun j hj=>hcell j (by omega)),?_⟩
              have h3:=hcell 0 hc.2
              have h4 : 0 < ci.length:=by omega
              rw [List.getElem?_eq_getElem h4] at h3
              have:=cell_lt h3
              rwa [block_add,block_add] at this
             obtain ⟨els,hlen,hels⟩:=choice len hall
             refine ⟨[.sl es.length els],?_,?_,by simp [Value.oneCell']⟩
             · simp only [FitsL,Fits]
               refine ⟨_,[],rfl,⟨els,rfl,fitsE_of fun e' he'=>?_⟩,rfl⟩
               obtain ⟨i,hi⟩:=List.getElem?_of_mem he'
               exact (hels i e' hi).1
             · simp only [RV.relV,RV.rel]
               refine ⟨_,[],rfl,⟨some a,cap,by rw [hlen],by omega,hcm,fun hne=>?_⟩,rfl⟩
               obtain ⟨e0,he0⟩ : ∃ e0,els[0]? = some e0:=by
                cases els with
                | nil=>exact absurd rfl hne
                | cons a l=>exact ⟨a,rfl⟩
               refine ⟨a,rfl,(hels 0 e0 he0).2.2.2,RV.relE_of_get fun i e' he'=>?_⟩
               obtain ⟨_,q1,q2,_⟩:=hels i e' he'
               exact ⟨q1,RV.relC_unbase _ q2⟩
         · cases hs
       · cases hs
     · rename_i m e ht
       split at hs
       · rename_i es hes
         split at hs
         · rename_i hc
           simp only [Bool.and_eq_true,beq_iff_eq] at hc
           injection hs with hs; subst hs
           obtain ⟨xs,fm,hm,_,hcl,hxl,hget⟩:=DataW.trod_array ht h
           injection hm with hm; subst hm
           have key : ∀ j,j ≤ m → Good3 w (List.replicate j es).flatten (cs.take (j * es.length)):=by
            intro j
            induction j with
            | zero=>intro _; exact ⟨[],by simp [FitsL],by simp [RV.relV],by simp⟩
            | succ j ihj =>
              intro hj
              have h1:=hget j (by omega)
              have h2 : j < xs.length:=by omega
              rw [List.getElem?_eq_getElem h2,← hc.1] at h1
              have h3:=ih n e _ _ es h1 hes
              have:=good3_append (ihj (by omega)) h3
              rw [← List.take_add] at this
              rw [List.replicate_succ',List.flatten_append,Nat.add_mul]
              simpa using this
           have:=key m (Nat.le_refl _)
           rwa [← hc.2,← hcl,List.take_length] at this
         · cases hs
       · cases hs
     · rename_i fs ht
       split at hs
       · rename_i q hq
         split at hs
         · rename_i hc
           simp only [beq_iff_eq] at hc
           injection hs with hs; subst hs
           obtain ⟨xs,fm,hm,_,hcl,hxl,hget⟩:=DataW.trod_struct ht h
           injection hm with hm; subst hm
           have key : ∀ (l : List Field) (o : Nat) (q : List Sh),(∀ f ∈ l,∃ y,DataW.trod enc P w base spare held fuel f.type ((cs.drop f.offset).take (P.cellsOf f.type)) = some y) → fieldsSh P (shape P n) l o = some q → Good3 w q ((cs.drop o).take q.length):=by
            intro l
            induction l with
            | nil =>
              intro o q _ hq
              simp only [fieldsSh,Option.some.injEq] at hq
              subst hq
              exact ⟨[],by simp [FitsL],by simp [RV.relV],by simp⟩
            | cons f l ihl =>
              intro o q hall hq
              simp only [fieldsSh] at hq
              split at hq
              · rename_i s1 hs1
                split at hq
                · rename_i hc1
                  simp only [Bool.and_eq_true,beq_iff_eq] at hc1
                  split at hq
                  · rename_i q2 hq2
                    injection hq with hq; subst hq
                    obtain ⟨y,hy⟩:=hall f (by simp)
                    have g1:=ih n f.type _ _ s1 hy hs1
                    have g2:=ihl (o + s1.length) q2 (fun f' hf'=>hall f' (by simp [hf'])) hq2
                    rw [hc1.1,← hc1.2] at g1
                    have:=good3_append g1 g2
                    rw [← List.drop_drop,← List.take_add] at this
                    simpa using this
                  · cases hq
                · cases hq
              · cases hq
           have:=key fs.toList 0 q (fun f hf=>by
            obtain ⟨i,hi⟩:=List.getElem?_of_mem hf
            have hi' : fs[i]? = some f:=by simpa using hi
            have h1:=hget i f hi'
            have h2 : i < xs.length:=by have:=(Array.getElem?_eq_some_iff.1 hi').1; omega
            exact ⟨xs[i],by rw [h1]; exact List.getElem?_eq_getElem h2⟩) hq
           rwa [List.drop_zero,hc,← hcl,List.take_length] at this
         · cases hs
       · cases hs
     · cases hs
def FitsT (P : Program) (n : Nat) (t : TypeId) (x : RV) : Prop:=∃ ss,shape P n t = some ss ∧ if aggOf P t then ∃ xs,x = .ag xs ∧ FitsL ss xs else FitsL ss [x]
theorem arg_fits {n : Nat} {t : TypeId} {v : Value} {d : DataW H} {ps : List MemPlace} {r : Reach} {b0 : Nat} (hs : (shape P n t).isSome = true) (hval : Value.okWide P w r b0 t v) (h : DataW.Trod enc P w base spare held t v d ps) :
 ∃ x,FitsT P n t x ∧ x.rel w (old w) v:=by
 obtain ⟨ss,hss⟩:=Option.isSome_iff_exists.1 hs
 obtain ⟨fuel,hf⟩:=h
 obtain ⟨xs,f,r,o⟩:=trod_fits fuel n t _ _ ss hf hss
 have one : aggOf P t = false → v.cells.toList = [v] → ∃ x,FitsT P n t x ∧ x.rel w (old w) v:=fun ha hc=>by
  rw [hc] at r
  match xs,r with
  | [x], r =>
    simp only [RV.relV] at r
    obtain ⟨u,us,e,hr,_⟩:=r
    injection e with e1 e2
    subst e1
    exact ⟨x,⟨ss,hss,by rw [ha]; exact f⟩,hr⟩
  | [],r=>simp [RV.relV] at r
  | _ :: _ :: _, r =>
    simp only [RV.relV] at r
    obtain ⟨u,us,e,_,u2,us2,e2,_⟩:=r
    injection e with _ e
    rw [e2] at e; cases e
 cases n with
 | zero=>simp [shape] at hss
 | succ n =>
   have hss':=hss
   unfold shape at hss'
   split at hss'
   · rename_i k ht
     obtain ⟨m,rfl⟩:=okWide_int ht hval
     exact one (by simp [aggOf,ht]) rfl
   · rename_i ht
     obtain ⟨b,rfl⟩:=okWide_bool ht hval
     exact one (by simp [aggOf,ht]) rfl
   · rename_i e ht
     obtain ⟨a,l,c,rfl⟩:=okWide_slice ht hval
     exact one (by simp [aggOf,ht]) rfl
   · rename_i m e ht
     obtain ⟨cs,rfl⟩ : ∃ cs,v = .agg cs:=by
      simp only [Value.okWide,ht] at hval
      obtain ⟨cs,h1,_⟩:=hval
      exact ⟨cs,h1⟩
     exact ⟨.ag xs,⟨ss,hss,by simp only [aggOf,ht,if_true]; exact ⟨xs,rfl,f⟩⟩,by simp only [RV.rel]; exact ⟨cs,rfl,o,r⟩⟩
   · rename_i fs ht
     obtain ⟨cs,rfl,_⟩:=okWide_struct ht hval
     exact ⟨.ag xs,⟨ss,hss,by simp only [aggOf,ht,if_true]; exact ⟨xs,rfl,f⟩⟩,by simp only [RV.rel]; exact ⟨cs,rfl,o,r⟩⟩
   · cases hss'
theorem wf_i64 {n : Int} (h : (Lit.int .i64 n).wf = true) : -9223372036854775808 ≤ n ∧ n ≤ 9223372036854775807:=by
 simp only [Lit.wf,Bool.and_eq_true,decide_eq_true_eq] at h
 have h1 : IntKind.min .i64 = -9223372036854775808:=by decide
 have h2 : IntKind.max .i64 = 9223372036854775807:=by decide
 rw [h1,h2] at h
 exact h
theorem fitsE_ints : ∀ {es : List (List RV)},FitsE [.int .i64] es → ∃ l : List Int,es = l.map (fun x=>[.it .i64 x]) ∧ ∀ x ∈ l,-9223372036854775808 ≤ x ∧ x ≤ 9223372036854775807
 | [],_=>⟨[],rfl,by simp⟩
 | e :: es, h => by
   simp only [FitsE,FitsL,Fits] at h
   obtain ⟨⟨y,ys,rfl,⟨n,rfl,hn⟩,rfl⟩,h⟩:=h
   obtain ⟨l,rfl,hl⟩:=fitsE_ints h
   refine ⟨n :: l,rfl,fun x hx=>?_⟩
   rcases List.mem_cons.1 hx with rfl | hx
   · exact wf_i64 hn
   · exact hl x hx
theorem fitsT_ag {n : Nat} {t : TypeId} {x : RV} {ss : List Sh} (h : FitsT P n t x) (hs : shape P n t = some ss) (ha : aggOf P t = true) : ∃ xs,x = .ag xs ∧ FitsL ss xs:=by
 obtain ⟨s',h1,h2⟩:=h
 rw [hs] at h1; injection h1 with h1; subst h1
 rw [ha] at h2
 exact h2
theorem fitsT_one {n : Nat} {t : TypeId} {x : RV} {s : Sh} (h : FitsT P n t x) (hs : shape P n t = some [s]) (ha : aggOf P t = false) : Fits s x:=by
 obtain ⟨s',h1,h2⟩:=h
 rw [hs] at h1; injection h1 with h1; subst h1
 rw [ha] at h2
 simp only [Bool.false_eq_true,if_false,FitsL] at h2
 obtain ⟨y,ys,e,h3,_⟩:=h2
 injection e with e1 e2
 subst e1
 exact h3
theorem fitsT_int {n : Nat} {t : TypeId} {x : RV} (h : FitsT P n t x) (hs : shape P n t = some [.int .i64]) (ha : aggOf P t = false) : ∃ m,x = .it .i64 m ∧ -9223372036854775808 ≤ m ∧ m ≤ 9223372036854775807:=by
 have:=fitsT_one h hs ha
 simp only [Fits] at this
 obtain ⟨m,h1,h2⟩:=this
 exact ⟨m,h1,wf_i64 h2⟩
theorem fitsT_ints {n : Nat} {t : TypeId} {x : RV} (h : FitsT P n t x) (hs : shape P n t = some [.sl [.int .i64]]) (ha : aggOf P t = false) : ∃ l : List Int,x = .sl 1 (l.map (fun x=>[.it .i64 x])) ∧ ∀ x ∈ l,-9223372036854775808 ≤ x ∧ x ≤ 9223372036854775807:=by
 have:=fitsT_one h hs ha
 simp only [Fits] at this
 obtain ⟨es,h1,h2⟩:=this
 obtain ⟨l,rfl,hl⟩:=fitsE_ints h2
 exact ⟨l,h1,hl⟩
end
end Go.Oc

namespace Go.Proofs.Ytlbfkhikmigpbaa
open Go Go.Oc
theorem fitsE_bed : ∀ {es : List (List RV)},FitsE [.int .i64,.int .i64,.int .i64] es → ∃ l : List Bd,es = l.map bedR ∧ Wf l
 | [],_=>⟨[],rfl,by simp [Wf]⟩
 | e :: es, h => by
   simp only [Oc.FitsE,Oc.FitsL,Oc.Fits] at h
   obtain ⟨⟨_,_,rfl,⟨a,rfl,ha⟩,_,_,rfl,⟨b,rfl,hb⟩,_,_,rfl,⟨c,rfl,hc⟩,rfl⟩,h⟩:=h
   obtain ⟨l,rfl,hl⟩:=fitsE_bed h
   refine ⟨⟨a,b,c⟩ :: l,rfl,fun x hx=>?_⟩
   rcases List.mem_cons.1 hx with rfl | hx
   · exact ⟨wf_i64 ha,wf_i64 hb,wf_i64 hc⟩
   · exact hl x hx
theorem fitsE_aim : ∀ {es : List (List RV)},FitsE [.int .i64,.sl [.int .i64,.int .i64,.int .i64]] es → ∃ l : List Am,es = l.map aimR ∧ ∀ a ∈ l,WfA a
 | [],_=>⟨[],rfl,by simp⟩
 | e :: es, h => by
   simp only [Oc.FitsE,Oc.FitsL,Oc.Fits] at h
   obtain ⟨⟨_,_,rfl,⟨a,rfl,ha⟩,_,_,rfl,⟨q,rfl,hq⟩,rfl⟩,h⟩:=h
   obtain ⟨l,rfl,hl⟩:=fitsE_aim h
   obtain ⟨b,rfl,hb⟩:=fitsE_bed hq
   refine ⟨⟨a,b⟩ :: l,rfl,fun x hx=>?_⟩
   rcases List.mem_cons.1 hx with rfl | hx
   · exact ⟨wf_i64 ha,hb⟩
   · exact hl x hx
theorem fitsE_span : ∀ {es : List (List RV)},FitsE [.int .i64,.int .i64] es → ∃ l : List (Int × Int),es = l.map spanR
 | [],_=>⟨[],rfl⟩
 | e :: es, h => by
   simp only [Oc.FitsE,Oc.FitsL,Oc.Fits] at h
   obtain ⟨⟨_,_,rfl,⟨a,rfl,_⟩,_,_,rfl,⟨b,rfl,_⟩,rfl⟩,h⟩:=h
   obtain ⟨l,rfl⟩:=fitsE_span h
   exact ⟨(a,b) :: l,rfl⟩
theorem fits28 {x : RV} (h : FitsT Try.prog 9 28 x) : ∃ r : Ru,x = ruV r ∧ WfR r:=by
 obtain ⟨xs,rfl,hx⟩:=fitsT_ag (ss:=[.int .i64,.sl [.int .i64,.sl [.int .i64,.int .i64,.int .i64]],.int .i64,.int .i64,.sl [.int .i64,.int .i64]]) h (by kernel_rfl) (by kernel_rfl)
 simp only [Oc.FitsL,Oc.Fits] at hx
 obtain ⟨_,_,rfl,⟨d,rfl,hd⟩,_,_,rfl,⟨es,rfl,hes⟩,_,_,rfl,⟨st,rfl,_⟩,_,_,rfl,⟨ou,rfl,_⟩,_,_,rfl,⟨en,rfl,hen⟩,rfl⟩:=hx
 obtain ⟨l,rfl,hl⟩:=fitsE_aim hes
 obtain ⟨e,rfl⟩:=fitsE_span hen
 exact ⟨⟨d,l,st,ou,e⟩,rfl,⟨wf_i64 hd,hl⟩⟩
theorem fits41 {x : RV} (h : FitsT Try.prog 9 41 x) : ∃ p : Pos,x = posV p:=by
 obtain ⟨xs,rfl,hx⟩:=fitsT_ag (ss:=[.int .i64,.int .i64,.int .i64,.int .i64]) h (by kernel_rfl) (by kernel_rfl)
 simp only [Oc.FitsL,Oc.Fits] at hx
 obtain ⟨_,_,rfl,⟨a,rfl,_⟩,_,_,rfl,⟨b,rfl,_⟩,_,_,rfl,⟨c,rfl,_⟩,_,_,rfl,⟨d,rfl,_⟩,rfl⟩:=hx
 exact ⟨⟨a,b,c,d⟩,rfl⟩
theorem fitsE_ints : ∀ {es : List (List RV)},FitsE [.int .i64] es → ∃ l : List Int,es = l.map fun x=>[i64 x]
 | [],_=>⟨[],rfl⟩
 | e :: es, h => by
   simp only [Oc.FitsE,Oc.FitsL,Oc.Fits] at h
   obtain ⟨⟨_,_,rfl,⟨a,rfl,_⟩,rfl⟩,h⟩:=h
   obtain ⟨l,rfl⟩:=fitsE_ints h
   exact ⟨a :: l,rfl⟩
theorem fitsE_rows : ∀ {es : List (List RV)},FitsE [.sl [.int .i64]] es → ∃ l : List (List Int),es = l.map fun row=>[ints row]
 | [],_=>⟨[],rfl⟩
 | e :: es, h => by
   simp only [Oc.FitsE,Oc.FitsL,Oc.Fits] at h
   obtain ⟨⟨_,_,rfl,⟨q,rfl,hq⟩,rfl⟩,h⟩:=h
   obtain ⟨l,rfl⟩:=fitsE_rows h
   obtain ⟨b,rfl⟩:=fitsE_ints hq
   exact ⟨b :: l,rfl⟩
theorem fits34 {x : RV} (h : FitsT Try.prog 9 34 x) : ∃ T : List (List Int),x = tabR T:=by
 have h1:=fitsT_one (s:=.sl [.sl [.int .i64]]) h (by kernel_rfl) (by kernel_rfl)
 simp only [Oc.Fits] at h1
 obtain ⟨es,rfl,hx⟩:=h1
 obtain ⟨T,rfl⟩:=fitsE_rows hx
 exact ⟨T,rfl⟩
end Go.Proofs.Ytlbfkhikmigpbaa

namespace Go.Oc
open Go Go.RowKit
theorem wf_u8 {n : Int} (h : (Lit.int .u8 n).wf = true) : 0 ≤ n ∧ n ≤ 255:=by
 simp only [Lit.wf,Bool.and_eq_true,decide_eq_true_eq] at h
 have h1 : IntKind.min .u8 = 0:=by decide
 have h2 : IntKind.max .u8 = 255:=by decide
 rw [h1,h2] at h
 exact h
theorem wf_u16 {n : Int} (h : (Lit.int .u16 n).wf = true) : 0 ≤ n ∧ n ≤ 65535:=by
 simp only [Lit.wf,Bool.and_eq_true,decide_eq_true_eq] at h
 have h1 : IntKind.min .u16 = 0:=by decide
 have h2 : IntKind.max .u16 = 65535:=by decide
 rw [h1,h2] at h
 exact h
theorem wf_u32 {n : Int} (h : (Lit.int .u32 n).wf = true) : 0 ≤ n ∧ n ≤ 4294967295:=by
 simp only [Lit.wf,Bool.and_eq_true,decide_eq_true_eq] at h
 have h1 : IntKind.min .u32 = 0:=by decide
 have h2 : IntKind.max .u32 = 4294967295:=by decide
 rw [h1,h2] at h
 exact h
theorem fitsE_u8 : ∀ {es : List (List RV)},FitsE [.int .u8] es → ∃ l : List Int,es = l.map (fun x=>[.it .u8 x]) ∧ ∀ x ∈ l,0 ≤ x ∧ x ≤ 255
 | [],_=>⟨[],rfl,by simp⟩
 | e :: es, h => by
   simp only [FitsE,FitsL,Fits] at h
   obtain ⟨⟨y,ys,rfl,⟨n,rfl,hn⟩,rfl⟩,h⟩:=h
   obtain ⟨l,rfl,hl⟩:=fitsE_u8 h
   refine ⟨n :: l,rfl,fun x hx=>?_⟩
   rcases List.mem_cons.1 hx with rfl | hx
   · exact wf_u8 hn
   · exact hl x hx
theorem fitsE_u16 : ∀ {es : List (List RV)},FitsE [.int .u16] es → ∃ l : List Int,es = l.map (fun x=>[.it .u16 x]) ∧ ∀ x ∈ l,0 ≤ x ∧ x ≤ 65535
 | [],_=>⟨[],rfl,by simp⟩
 | e :: es, h => by
   simp only [FitsE,FitsL,Fits] at h
   obtain ⟨⟨y,ys,rfl,⟨n,rfl,hn⟩,rfl⟩,h⟩:=h
   obtain ⟨l,rfl,hl⟩:=fitsE_u16 h
   refine ⟨n :: l,rfl,fun x hx=>?_⟩
   rcases List.mem_cons.1 hx with rfl | hx
   · exact wf_u16 hn
   · exact hl x hx
end Go.Oc

namespace Go.Proofs.Ytlbfkhikmigpbaa
open Go Go.Oc
theorem law6' {x0 : RV} (h0 : FitsT Try.prog 9 28 x0) : ACalls Try.prog 6 [x0] (.bo true):=by
 obtain ⟨r,rfl,hw⟩:=fits28 h0
 exact tosses_law r hw
end Go.Proofs.Ytlbfkhikmigpbaa


namespace Go.Proofs.Ytlbfkhikmigpbaa
open Go Go.Oc Go.ChangeShapes Go.WideShapes Go.RowKit
set_option linter.unusedVariables false
theorem own : ownKnob Try.prog.godebug = none := by kernel_rfl
theorem laidOut : laidOutB Try.prog = true := by kernel_rfl
set_option maxRecDepth 100000 in
theorem lifted (os : Os) (started : os.Started) (H : Type) (enc : TypeId × Value → H) :
    ReturnsInHanded {} Try.checked os 6 .any (Rows.duelTossesSpec.pre6 enc Try.prog Try.f6 Rows.duelTossesRow.domain false) (Rows.duelTossesSpec.post enc Try.prog Try.f6 false true false false) := by
  refine returnsInHanded_of_change (C := Try.checked) own started (by kernel_rfl) Try.func6
    (ChangeSpec.witness6 (enc := enc) (C := Try.checked) false ⟨#[], #[.agg #[.int .i64 0, .slice none 0 0, .int .i64 0, .int .i64 0, .slice none 0 0]], []⟩ 8 (by kernel_rfl) (by kernel_rfl) (by kernel_rfl) (by kernel_rfl)) ?_
  intro W base args ds gs before hval0 hW hcnd _
  have hval : ∀ (j : Nat) t v, Try.f6.params[j]? = some t → args[j]? = some v → Value.okWide Try.prog W .any base t v := hval0
  have hW' := hW
  obtain ⟨p, q, hA0, hV, rfl, hfz, hnd⟩ := hW
  have hA : DataW.TrodAll enc Try.prog W 0 (fun _ => true) true Try.f6.params.toList args.toList ds p := hA0
  rw [Try.params6] at hA hval
  obtain ⟨v0, vs0, d0, ds0, p0, q0, hargs, rfl, rfl, h0, r0⟩ := trodAll_cons hA
  obtain ⟨rfl, rfl, rfl⟩ := trodAll_nil r0
  obtain rfl : args = #[v0] := by cases args; simp_all
  obtain ⟨rfl, rfl⟩ := trodVars_none hV
  have lt0 : ∀ x ∈ p0, x.block < W.heap.size := by obtain ⟨m, hm⟩ := h0; exact DataW.trod_lt m _ _ _ hm
  obtain ⟨x0, g0, e0⟩ := arg_fits (n := 9) (by kernel_rfl) (hval 0 28 v0 rfl rfl) h0
  clear hA0 hval0
  refine ((law6' g0).2 W (old W) #[v0] (fun _ h => h) (by simp only [RV.relV]; exact ⟨_, _, rfl, e0, rfl⟩)).mono fun e W' he => ?_
  obtain ⟨v, R', rfl, bel, _, _, _, hr⟩ := he
  simp only [RV.rel] at hr
  subst hr
  exact ⟨_, rfl, _, _, _, [], _, [], hW', trodAll_mk1 (shut_bool Try.underlying4 _), (trodAll_cons_mk (Below.trod laidOut (by kernel_rfl) (of_decide_eq_true (by kernel_rfl)) h0 bel lt0) trodAll_mk0), rfl, bel.frame _, fun h => by cases h⟩
theorem over : Rows.duelTossesRow.holds Try.pinned (OpenSpec.ofChange Rows.duelTossesSpec) :=
  OpenClaim.holds_of_wide 6 Try.f6 rfl rfl rfl rfl rfl rfl rfl ⟨rfl, rfl, rfl, rfl, rfl⟩ rfl rfl rfl rfl rfl (by kernel_rfl) Try.func6 (by kernel_rfl)
    (of_decide_eq_true (by kernel_rfl)) (by unfold Func.isWrapper; first | (rw [if_pos (by decide +kernel)]; kernel_rfl) | (rw [if_neg (by decide +kernel)]; exact ⟨rfl, rfl⟩))
    (fun os started H enc _ => lifted os started H enc)
theorem duelTosses_holds : Rows.DuelTossesSaid := over
#print axioms duelTosses_holds
end Go.Proofs.Ytlbfkhikmigpbaa

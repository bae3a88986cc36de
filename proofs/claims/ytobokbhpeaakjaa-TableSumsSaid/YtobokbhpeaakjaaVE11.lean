/- For all bytes, the given function TableSums returns true: in the table of the division that the bytes make each team is once, all sums are those of the matches, no row is better than the one before, and matches in another order have the same table. No conditions beyond those of the given statement. -/
import Derived.Test.YtobokbhpeaakjaaVE10
import Derived.Test.YtobokbhpeaakjaaRows
import Derived.JoinedOf
namespace Go.Proofs.Ytobokbhpeaakjaa
open Go Go.Oc
theorem wfb {n : Int} (h : (Lit.int .u8 n).wf = true) : ∃ k : Nat,n = k ∧ k < 256:=by
 simp only [Lit.wf,Bool.and_eq_true,decide_eq_true_eq] at h
 have h1 : IntKind.min .u8 = 0:=by decide
 have h2 : IntKind.max .u8 = 255:=by decide
 rw [h1,h2] at h
 obtain ⟨k,hk⟩:=Int.eq_ofNat_of_zero_le h.1
 exact ⟨k,hk,by omega⟩
theorem fitsE_by : ∀ {es : List (List RV)},FitsE [.int .u8] es → ∃ l : List Nat,es = l.map (fun n=>[u8 n]) ∧ ∀ n ∈ l,n < 256
 | [],_=>⟨[],rfl,by simp⟩
 | e :: es, h => by
   simp only [Oc.FitsE,Oc.FitsL,Oc.Fits] at h
   obtain ⟨⟨_,_,rfl,⟨a,rfl,ha⟩,rfl⟩,h⟩:=h
   obtain ⟨l,rfl,hl⟩:=fitsE_by h
   obtain ⟨k,rfl,kk⟩:=wfb ha
   refine ⟨k :: l,rfl,fun x hx=>?_⟩
   rcases List.mem_cons.1 hx with rfl | hx
   · exact kk
   · exact hl x hx
theorem fitsE_by3 : ∀ {es : List (List RV)},FitsE [.int .u8,.int .u8,.int .u8] es → ∃ l : List (Nat × Nat × Nat),es = l.map m3R ∧ ∀ v ∈ l,v.1 < 256 ∧ v.2.1 < 256 ∧ v.2.2 < 256
 | [],_=>⟨[],rfl,by simp⟩
 | e :: es, h => by
   simp only [Oc.FitsE,Oc.FitsL,Oc.Fits] at h
   obtain ⟨⟨_,_,rfl,⟨a,rfl,ha⟩,_,_,rfl,⟨b,rfl,hb⟩,_,_,rfl,⟨c,rfl,hc⟩,rfl⟩,h⟩:=h
   obtain ⟨l,rfl,hl⟩:=fitsE_by3 h
   obtain ⟨a,rfl,ka⟩:=wfb ha
   obtain ⟨b,rfl,kb⟩:=wfb hb
   obtain ⟨c,rfl,kc⟩:=wfb hc
   refine ⟨(a,b,c) :: l,rfl,fun x hx=>?_⟩
   rcases List.mem_cons.1 hx with rfl | hx
   · exact ⟨ka,kb,kc⟩
   · exact hl x hx
theorem fits66 {x : RV} (h : FitsT Try.prog 9 66 x) : ∃ r : Sm,x = smV r ∧ WfS r:=by
 obtain ⟨xs,rfl,hx⟩:=fitsT_ag (ss:=[.int .u8,.int .u8,.int .u8,.int .u8,.int .u8,.int .u8,.sl [.int .u8],.sl [.int .u8,.int .u8,.int .u8],.int .u8]) h (by kernel_rfl) (by kernel_rfl)
 simp only [Oc.FitsL,Oc.Fits] at hx
 obtain ⟨_,_,rfl,⟨a,rfl,ha⟩,_,_,rfl,⟨b,rfl,hb⟩,_,_,rfl,⟨c,rfl,hc⟩,_,_,rfl,⟨d,rfl,hd⟩,_,_,rfl,⟨u,rfl,hu⟩,_,_,rfl,⟨w,rfl,hw⟩,_,_,rfl,⟨es,rfl,hes⟩,_,_,rfl,⟨fs,rfl,hfs⟩,_,_,rfl,⟨q,rfl,hq⟩,rfl⟩:=hx
 obtain ⟨a,rfl,ka⟩:=wfb ha
 obtain ⟨b,rfl,kb⟩:=wfb hb
 obtain ⟨c,rfl,kc⟩:=wfb hc
 obtain ⟨d,rfl,kd⟩:=wfb hd
 obtain ⟨u,rfl,ku⟩:=wfb hu
 obtain ⟨w,rfl,kw⟩:=wfb hw
 obtain ⟨q,rfl,kq⟩:=wfb hq
 obtain ⟨l,rfl,hl⟩:=fitsE_by hes
 obtain ⟨m,rfl,hm⟩:=fitsE_by3 hfs
 exact ⟨⟨a,b,c,d,u,w,l,m,q⟩,rfl,⟨ka,kb,kc,kd,ku,kw,hl,hm,kq⟩⟩
theorem fits5 {x : RV} (h : FitsT Try.prog 9 5 x) : ∃ n : Nat,x = u8 n ∧ n < 256:=by
 have:=fitsT_one (s:=.int .u8) h (by kernel_rfl) (by kernel_rfl)
 simp only [Oc.Fits] at this
 obtain ⟨m,rfl,hm⟩:=this
 obtain ⟨k,rfl,kk⟩:=wfb hm
 exact ⟨k,rfl,kk⟩
theorem fits63 {x : RV} (h : FitsT Try.prog 9 63 x) : ∃ l : List Nat,x = bytesR l ∧ ∀ n ∈ l,n < 256:=by
 have:=fitsT_one (s:=.sl [.int .u8]) h (by kernel_rfl) (by kernel_rfl)
 simp only [Oc.Fits] at this
 obtain ⟨es,rfl,hes⟩:=this
 obtain ⟨l,rfl,hl⟩:=fitsE_by hes
 exact ⟨l,rfl,hl⟩
theorem fits81 {x : RV} (h : FitsT Try.prog 9 81 x) : ∃ a b : Nat,x = .ag [u8 a,u8 b] ∧ a < 256 ∧ b < 256:=by
 obtain ⟨xs,rfl,hx⟩:=fitsT_ag (ss:=[.int .u8,.int .u8]) h (by kernel_rfl) (by kernel_rfl)
 simp only [Oc.FitsL,Oc.Fits] at hx
 obtain ⟨_,_,rfl,⟨a,rfl,ha⟩,_,_,rfl,⟨b,rfl,hb⟩,rfl⟩:=hx
 obtain ⟨a,rfl,ka⟩:=wfb ha
 obtain ⟨b,rfl,kb⟩:=wfb hb
 exact ⟨a,b,rfl,ka,kb⟩
end Go.Proofs.Ytobokbhpeaakjaa

namespace Go.Oc
open Go Go.RowKit
theorem wf_u8 {n : Int} (h : (Lit.int .u8 n).wf = true) : 0 ≤ n ∧ n ≤ 255:=by
 simp only [Lit.wf,Bool.and_eq_true,decide_eq_true_eq] at h
 have h1 : IntKind.min .u8 = 0:=by decide
 have h2 : IntKind.max .u8 = 255:=by decide
 rw [h1,h2] at h
 exact h
theorem wf_u16 {n : Int} (h : (Lit.int .u16 n).wf = true) : 0 ≤ n ∧ n ≤ 65535:=by
 simp only [Lit.wf,Bool.and_eq_true,decide_eq_true_eq] at h
 have h1 : IntKind.min .u16 = 0:=by decide
 have h2 : IntKind.max .u16 = 65535:=by decide
 rw [h1,h2] at h
 exact h
theorem wf_u32 {n : Int} (h : (Lit.int .u32 n).wf = true) : 0 ≤ n ∧ n ≤ 4294967295:=by
 simp only [Lit.wf,Bool.and_eq_true,decide_eq_true_eq] at h
 have h1 : IntKind.min .u32 = 0:=by decide
 have h2 : IntKind.max .u32 = 4294967295:=by decide
 rw [h1,h2] at h
 exact h
theorem fitsE_u8 : ∀ {es : List (List RV)},FitsE [.int .u8] es → ∃ l : List Int,es = l.map (fun x=>[.it .u8 x]) ∧ ∀ x ∈ l,0 ≤ x ∧ x ≤ 255
 | [],_=>⟨[],rfl,by simp⟩
 | e :: es, h => by
   simp only [FitsE,FitsL,Fits] at h
   obtain ⟨⟨y,ys,rfl,⟨n,rfl,hn⟩,rfl⟩,h⟩:=h
   obtain ⟨l,rfl,hl⟩:=fitsE_u8 h
   refine ⟨n :: l,rfl,fun x hx=>?_⟩
   rcases List.mem_cons.1 hx with rfl | hx
   · exact wf_u8 hn
   · exact hl x hx
theorem fitsE_u16 : ∀ {es : List (List RV)},FitsE [.int .u16] es → ∃ l : List Int,es = l.map (fun x=>[.it .u16 x]) ∧ ∀ x ∈ l,0 ≤ x ∧ x ≤ 65535
 | [],_=>⟨[],rfl,by simp⟩
 | e :: es, h => by
   simp only [FitsE,FitsL,Fits] at h
   obtain ⟨⟨y,ys,rfl,⟨n,rfl,hn⟩,rfl⟩,h⟩:=h
   obtain ⟨l,rfl,hl⟩:=fitsE_u16 h
   refine ⟨n :: l,rfl,fun x hx=>?_⟩
   rcases List.mem_cons.1 hx with rfl | hx
   · exact wf_u16 hn
   · exact hl x hx
end Go.Oc

namespace Go.Proofs.Ytobokbhpeaakjaa
open Go Go.Oc
theorem law6' {x0 x1 : RV} (h0 : FitsT Try.prog 9 66 x0) (h1 : FitsT Try.prog 9 5 x1) : ACalls Try.prog 6 [x0,x1] (.bo true):=by
 obtain ⟨x,rfl,hx⟩:=fits66 h0
 obtain ⟨t,rfl,ht⟩:=fits5 h1
 exact sums_law x hx t ht
end Go.Proofs.Ytobokbhpeaakjaa


namespace Go.Proofs.Ytobokbhpeaakjaa
open Go Go.Oc Go.ChangeShapes Go.WideShapes Go.RowKit
set_option linter.unusedVariables false
theorem own : ownKnob Try.prog.godebug = none := by kernel_rfl
theorem laidOut : laidOutB Try.prog = true := by kernel_rfl
set_option maxRecDepth 100000 in
theorem lifted (os : Os) (started : os.Started) (H : Type) (enc : TypeId × Value → H) :
    ReturnsInHanded {} Try.checked os 6 .any (Rows.tableSumsSpec.pre6 enc Try.prog Try.f6 Rows.tableSumsRow.domain false) (Rows.tableSumsSpec.post enc Try.prog Try.f6 false true false false) := by
  refine returnsInHanded_of_change (C := Try.checked) own started (by kernel_rfl) Try.func6
    (ChangeSpec.witness6 (enc := enc) (C := Try.checked) false ⟨#[], #[.agg #[.int .u8 0, .int .u8 0, .int .u8 0, .int .u8 0, .int .u8 0, .int .u8 0, .slice none 0 0, .slice none 0 0, .int .u8 0], .int .u8 0], []⟩ 8 (by kernel_rfl) (by kernel_rfl) (by kernel_rfl) (by kernel_rfl)) ?_
  intro W base args ds gs before hval0 hW hcnd _
  have hval : ∀ (j : Nat) t v, Try.f6.params[j]? = some t → args[j]? = some v → Value.okWide Try.prog W .any base t v := hval0
  have hW' := hW
  obtain ⟨p, q, hA0, hV, rfl, hfz, hnd⟩ := hW
  have hA : DataW.TrodAll enc Try.prog W 0 (fun _ => true) true Try.f6.params.toList args.toList ds p := hA0
  rw [Try.params6] at hA hval
  obtain ⟨v0, vs0, d0, ds0, p0, q0, hargs, rfl, rfl, h0, r0⟩ := trodAll_cons hA
  obtain ⟨v1, vs1, d1, ds1, p1, q1, rfl, rfl, rfl, h1, r1⟩ := trodAll_cons r0
  obtain ⟨rfl, rfl, rfl⟩ := trodAll_nil r1
  obtain rfl : args = #[v0, v1] := by cases args; simp_all
  obtain ⟨rfl, rfl⟩ := trodVars_none hV
  have lt0 : ∀ x ∈ p0, x.block < W.heap.size := by obtain ⟨m, hm⟩ := h0; exact DataW.trod_lt m _ _ _ hm
  have lt1 : ∀ x ∈ p1, x.block < W.heap.size := by obtain ⟨m, hm⟩ := h1; exact DataW.trod_lt m _ _ _ hm
  obtain ⟨x0, g0, e0⟩ := arg_fits (n := 9) (by kernel_rfl) (hval 0 66 v0 rfl rfl) h0
  obtain ⟨x1, g1, e1⟩ := arg_fits (n := 9) (by kernel_rfl) (hval 1 5 v1 rfl rfl) h1
  clear hA0 hval0
  refine ((law6' g0 g1).2 W (old W) #[v0, v1] (fun _ h => h) (by simp only [RV.relV]; exact ⟨_, _, rfl, e0, _, _, rfl, e1, rfl⟩)).mono fun e W' he => ?_
  obtain ⟨v, R', rfl, bel, _, _, _, hr⟩ := he
  simp only [RV.rel] at hr
  subst hr
  exact ⟨_, rfl, _, _, _, [], _, [], hW', trodAll_mk1 (shut_bool Try.underlying4 _), (trodAll_cons_mk (Below.trod laidOut (by kernel_rfl) (of_decide_eq_true (by kernel_rfl)) h0 bel lt0) (trodAll_cons_mk (Below.trod laidOut (by kernel_rfl) (of_decide_eq_true (by kernel_rfl)) h1 bel lt1) trodAll_mk0)), rfl, bel.frame _, fun h => by cases h⟩
theorem over : Rows.tableSumsRow.holds Try.pinned (OpenSpec.ofChange Rows.tableSumsSpec) :=
  OpenClaim.holds_of_wide 6 Try.f6 rfl rfl rfl rfl rfl rfl rfl ⟨rfl, rfl, rfl, rfl, rfl⟩ rfl rfl rfl rfl rfl (by kernel_rfl) Try.func6 (by kernel_rfl)
    (of_decide_eq_true (by kernel_rfl)) (by unfold Func.isWrapper; first | (rw [if_pos (by decide +kernel)]; kernel_rfl) | (rw [if_neg (by decide +kernel)]; exact ⟨rfl, rfl⟩))
    (fun os started H enc _ => lifted os started H enc)
theorem tableSums_holds : Rows.TableSumsSaid := over
#print axioms tableSums_holds
end Go.Proofs.Ytobokbhpeaakjaa

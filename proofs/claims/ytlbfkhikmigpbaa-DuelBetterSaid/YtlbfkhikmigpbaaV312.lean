/- For all matches and numbers of its types, the given function DuelBetter returns true: if the chances of the law and of the opponent are known better, no low number is smaller and no high one greater; with an aim less, or an opponent who ends the leg more often, no number is greater. No conditions beyond those of the given statement. -/
import Derived.Test.YtlbfkhikmigpbaaV311
import Derived.Test.YtlbfkhikmigpbaaRows
import Derived.JoinedOf
namespace Go.Oc
open Go Go.RowKit
theorem wf_u8 {n : Int} (h : (Lit.int .u8 n).wf = true) : 0 ≤ n ∧ n ≤ 255:=by
 simp only [Lit.wf,Bool.and_eq_true,decide_eq_true_eq] at h
 have h1 : IntKind.min .u8 = 0:=by decide
 have h2 : IntKind.max .u8 = 255:=by decide
 rw [h1,h2] at h
 exact h
theorem wf_u16 {n : Int} (h : (Lit.int .u16 n).wf = true) : 0 ≤ n ∧ n ≤ 65535:=by
 simp only [Lit.wf,Bool.and_eq_true,decide_eq_true_eq] at h
 have h1 : IntKind.min .u16 = 0:=by decide
 have h2 : IntKind.max .u16 = 65535:=by decide
 rw [h1,h2] at h
 exact h
theorem wf_u32 {n : Int} (h : (Lit.int .u32 n).wf = true) : 0 ≤ n ∧ n ≤ 4294967295:=by
 simp only [Lit.wf,Bool.and_eq_true,decide_eq_true_eq] at h
 have h1 : IntKind.min .u32 = 0:=by decide
 have h2 : IntKind.max .u32 = 4294967295:=by decide
 rw [h1,h2] at h
 exact h
theorem fitsE_u8 : ∀ {es : List (List RV)},FitsE [.int .u8] es → ∃ l : List Int,es = l.map (fun x=>[.it .u8 x]) ∧ ∀ x ∈ l,0 ≤ x ∧ x ≤ 255
 | [],_=>⟨[],rfl,by simp⟩
 | e :: es, h => by
   simp only [FitsE,FitsL,Fits] at h
   obtain ⟨⟨y,ys,rfl,⟨n,rfl,hn⟩,rfl⟩,h⟩:=h
   obtain ⟨l,rfl,hl⟩:=fitsE_u8 h
   refine ⟨n :: l,rfl,fun x hx=>?_⟩
   rcases List.mem_cons.1 hx with rfl | hx
   · exact wf_u8 hn
   · exact hl x hx
theorem fitsE_u16 : ∀ {es : List (List RV)},FitsE [.int .u16] es → ∃ l : List Int,es = l.map (fun x=>[.it .u16 x]) ∧ ∀ x ∈ l,0 ≤ x ∧ x ≤ 65535
 | [],_=>⟨[],rfl,by simp⟩
 | e :: es, h => by
   simp only [FitsE,FitsL,Fits] at h
   obtain ⟨⟨y,ys,rfl,⟨n,rfl,hn⟩,rfl⟩,h⟩:=h
   obtain ⟨l,rfl,hl⟩:=fitsE_u16 h
   refine ⟨n :: l,rfl,fun x hx=>?_⟩
   rcases List.mem_cons.1 hx with rfl | hx
   · exact wf_u16 hn
   · exact hl x hx
end Go.Oc

namespace Go.Proofs.Ytlbfkhikmigpbaa
open Go Go.Oc
theorem fitsE_u8 : ∀ {es : List (List RV)},FitsE [.int .u8] es → ∃ l : List Int,es = l.map (fun x=>[it8 x]) ∧ ∀ x ∈ l,0 ≤ x ∧ x ≤ 255
 | [],_=>⟨[],rfl,by simp⟩
 | e :: es, h => by
   simp only [Oc.FitsE,Oc.FitsL,Oc.Fits] at h
   obtain ⟨⟨_,_,rfl,⟨a,rfl,ha⟩,rfl⟩,h⟩:=h
   obtain ⟨l,rfl,hl⟩:=fitsE_u8 h
   refine ⟨a :: l,rfl,fun x hm=>?_⟩
   rcases List.mem_cons.1 hm with rfl | hm
   · exact wf8 ha
   · exact hl x hm
theorem fits67 {x : RV} (h : FitsT Try.prog 9 67 x) : ∃ b : List Int,x = u8L b ∧ ∀ n ∈ b,0 ≤ n ∧ n ≤ 255:=by
 have h1:=fitsT_one (s:=.sl [.int .u8]) h (by kernel_rfl) (by kernel_rfl)
 simp only [Oc.Fits] at h1
 obtain ⟨es,rfl,h2⟩:=h1
 obtain ⟨l,rfl,hl⟩:=fitsE_u8 h2
 exact ⟨l,rfl,hl⟩
theorem fits5 {x : RV} (h : FitsT Try.prog 9 5 x) : ∃ a : Int,x = it8 a ∧ 0 ≤ a ∧ a ≤ 255:=by
 have h1:=fitsT_one (s:=.int .u8) h (by kernel_rfl) (by kernel_rfl)
 simp only [Oc.Fits] at h1
 obtain ⟨a,rfl,ha⟩:=h1
 exact ⟨a,rfl,wf8 ha⟩
theorem law10' {x0 x1 x2 : RV} (h0 : FitsT Try.prog 9 66 x0) (h1 : FitsT Try.prog 9 67 x1) (h2 : FitsT Try.prog 9 5 x2) : ACalls Try.prog 10 [x0,x1,x2] (.bo true):=by
 obtain ⟨m,rfl,hw⟩:=fits66 h0
 obtain ⟨b,rfl,g0⟩:=fits67 h1
 obtain ⟨a,rfl,ha⟩:=fits5 h2
 exact better_law m hw b g0 a ha
end Go.Proofs.Ytlbfkhikmigpbaa


namespace Go.Proofs.Ytlbfkhikmigpbaa
open Go Go.Oc Go.ChangeShapes Go.WideShapes Go.RowKit
set_option linter.unusedVariables false
theorem own : ownKnob Try.prog.godebug = none := by kernel_rfl
theorem laidOut : laidOutB Try.prog = true := by kernel_rfl
set_option maxRecDepth 100000 in
theorem lifted (os : Os) (started : os.Started) (H : Type) (enc : TypeId × Value → H) :
    ReturnsInHanded {} Try.checked os 10 .any (Rows.duelBetterSpec.pre6 enc Try.prog Try.f10 Rows.duelBetterRow.domain false) (Rows.duelBetterSpec.post enc Try.prog Try.f10 false true false false) := by
  refine returnsInHanded_of_change (C := Try.checked) own started (by kernel_rfl) Try.func10
    (ChangeSpec.witness6 (enc := enc) (C := Try.checked) false ⟨#[], #[.agg #[.int .u8 0, .slice none 0 0, .int .u8 0, .int .u8 0, .slice none 0 0], .slice none 0 0, .int .u8 0], []⟩ 8 (by kernel_rfl) (by kernel_rfl) (by kernel_rfl) (by kernel_rfl)) ?_
  intro W base args ds gs before hval0 hW hcnd _
  have hval : ∀ (j : Nat) t v, Try.f10.params[j]? = some t → args[j]? = some v → Value.okWide Try.prog W .any base t v := hval0
  have hW' := hW
  obtain ⟨p, q, hA0, hV, rfl, hfz, hnd⟩ := hW
  have hA : DataW.TrodAll enc Try.prog W 0 (fun _ => true) true Try.f10.params.toList args.toList ds p := hA0
  rw [Try.params10] at hA hval
  obtain ⟨v0, vs0, d0, ds0, p0, q0, hargs, rfl, rfl, h0, r0⟩ := trodAll_cons hA
  obtain ⟨v1, vs1, d1, ds1, p1, q1, rfl, rfl, rfl, h1, r1⟩ := trodAll_cons r0
  obtain ⟨v2, vs2, d2, ds2, p2, q2, rfl, rfl, rfl, h2, r2⟩ := trodAll_cons r1
  obtain ⟨rfl, rfl, rfl⟩ := trodAll_nil r2
  obtain rfl : args = #[v0, v1, v2] := by cases args; simp_all
  obtain ⟨rfl, rfl⟩ := trodVars_none hV
  have lt0 : ∀ x ∈ p0, x.block < W.heap.size := by obtain ⟨m, hm⟩ := h0; exact DataW.trod_lt m _ _ _ hm
  have lt1 : ∀ x ∈ p1, x.block < W.heap.size := by obtain ⟨m, hm⟩ := h1; exact DataW.trod_lt m _ _ _ hm
  have lt2 : ∀ x ∈ p2, x.block < W.heap.size := by obtain ⟨m, hm⟩ := h2; exact DataW.trod_lt m _ _ _ hm
  obtain ⟨x0, g0, e0⟩ := arg_fits (n := 9) (by kernel_rfl) (hval 0 66 v0 rfl rfl) h0
  obtain ⟨x1, g1, e1⟩ := arg_fits (n := 9) (by kernel_rfl) (hval 1 67 v1 rfl rfl) h1
  obtain ⟨x2, g2, e2⟩ := arg_fits (n := 9) (by kernel_rfl) (hval 2 5 v2 rfl rfl) h2
  clear hA0 hval0
  refine ((law10' g0 g1 g2).2 W (old W) #[v0, v1, v2] (fun _ h => h) (by simp only [RV.relV]; exact ⟨_, _, rfl, e0, _, _, rfl, e1, _, _, rfl, e2, rfl⟩)).mono fun e W' he => ?_
  obtain ⟨v, R', rfl, bel, _, _, _, hr⟩ := he
  simp only [RV.rel] at hr
  subst hr
  exact ⟨_, rfl, _, _, _, [], _, [], hW', trodAll_mk1 (shut_bool Try.underlying4 _), (trodAll_cons_mk (Below.trod laidOut (by kernel_rfl) (of_decide_eq_true (by kernel_rfl)) h0 bel lt0) (trodAll_cons_mk (Below.trod laidOut (by kernel_rfl) (of_decide_eq_true (by kernel_rfl)) h1 bel lt1) (trodAll_cons_mk (Below.trod laidOut (by kernel_rfl) (of_decide_eq_true (by kernel_rfl)) h2 bel lt2) trodAll_mk0))), rfl, bel.frame _, fun h => by cases h⟩
theorem over : Rows.duelBetterRow.holds Try.pinned (OpenSpec.ofChange Rows.duelBetterSpec) :=
  OpenClaim.holds_of_wide 10 Try.f10 rfl rfl rfl rfl rfl rfl rfl ⟨rfl, rfl, rfl, rfl, rfl⟩ rfl rfl rfl rfl rfl (by kernel_rfl) Try.func10 (by kernel_rfl)
    (of_decide_eq_true (by kernel_rfl)) (by unfold Func.isWrapper; first | (rw [if_pos (by decide +kernel)]; kernel_rfl) | (rw [if_neg (by decide +kernel)]; exact ⟨rfl, rfl⟩))
    (fun os started H enc _ => lifted os started H enc)
theorem duelBetter_holds : Rows.DuelBetterSaid := over
#print axioms duelBetter_holds
end Go.Proofs.Ytlbfkhikmigpbaa

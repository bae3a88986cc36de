/- For all beds, gates and scores made of bytes, the given function TopSureAim returns true: for who never misses both numbers of each score are as many visits as the fewest darts want, and what can never be ended is never. No conditions beyond those of the given statement. -/
import Derived.Test.YtgfbenanljjgaaaVH11
import Derived.Test.YtgfbenanljjgaaaRows
import Derived.JoinedOf
namespace Go.Oc
open Go Go.RowKit
end Go.Oc

namespace Go.Proofs.Ytgfbenanljjgaaa.Du.Th
open Go Go.Oc
set_option maxRecDepth 8000
theorem wfb8 {n : Int} (h : (Lit.int .u8 n).wf = true) : ∃ k : Nat,n = k ∧ k < 256:=by
 simp only [Lit.wf,Bool.and_eq_true,decide_eq_true_eq] at h
 have h1 : IntKind.min .u8 = 0:=by decide
 have h2 : IntKind.max .u8 = 255:=by decide
 rw [h1,h2] at h
 obtain ⟨k,hk⟩:=Int.eq_ofNat_of_zero_le h.1
 exact ⟨k,hk,by omega⟩
theorem fitsL_by8 : ∀ {n : Nat} {xs : List RV},FitsL (List.replicate n (.int .u8)) xs → ∃ l : List Nat,xs = l.map u8Q ∧ l.length = n ∧ ∀ k ∈ l,k < 256
 | 0, xs, h => by
   simp only [List.replicate_zero,Oc.FitsL] at h
   subst h
   exact ⟨[],rfl,rfl,by simp⟩
 | n + 1, xs, h => by
   simp only [List.replicate_succ,Oc.FitsL,Oc.Fits] at h
   obtain ⟨_,ys,rfl,⟨a,rfl,ha⟩,h⟩:=h
   obtain ⟨k,rfl,kk⟩:=wfb8 ha
   obtain ⟨l,rfl,hn,hl⟩:=fitsL_by8 h
   refine ⟨k :: l,rfl,by simp [hn],fun x hx=>?_⟩
   rcases List.mem_cons.1 hx with rfl | hx
   · exact kk
   · exact hl x hx
theorem fitsE_by8 {m : Nat} : ∀ {es : List (List RV)},FitsE (List.replicate m (.int .u8)) es → ∃ A : List (List Nat),es = A.map (fun a=>a.map u8Q) ∧ ∀ a ∈ A,a.length = m ∧ ∀ n ∈ a,n < 256
 | [],_=>⟨[],rfl,by simp⟩
 | e :: es, h => by
   simp only [Oc.FitsE] at h
   obtain ⟨h1,h2⟩:=h
   obtain ⟨l,rfl,hn,hl⟩:=fitsL_by8 h1
   obtain ⟨A,rfl,hA⟩:=fitsE_by8 h2
   refine ⟨l :: A,rfl,fun x hx=>?_⟩
   rcases List.mem_cons.1 hx with rfl | hx
   · exact ⟨hn,hl⟩
   · exact hA x hx
theorem fitsK43 {x : RV} (h : FitsT Try.prog 9 43 x) : ∃ l : List Nat,x = .sl 1 (l.map fun n=>[u8Q n]) ∧ ∀ n ∈ l,n < 256:=by
 have:=fitsT_one (s:=.sl (List.replicate 1 (.int .u8))) h (by kernel_rfl) (by kernel_rfl)
 simp only [Oc.Fits] at this
 obtain ⟨es,rfl,hes⟩:=this
 obtain ⟨A,rfl,hA⟩:=fitsE_by8 hes
 have key : ∀ A : List (List Nat),(∀ a ∈ A,a.length = 1 ∧ ∀ n ∈ a,n < 256) → A = A.flatten.map (fun n=>[n]) ∧ ∀ n ∈ A.flatten,n < 256:=by
  intro A
  induction A with
  | nil=>intro _; exact ⟨rfl,by simp⟩
  | cons a A ih =>
    intro h
    obtain ⟨i1,i2⟩:=ih fun b hb=>h b (by simp [hb])
    obtain ⟨h1,h2⟩:=h a (by simp)
    match a,h1,h2 with
    | [n], _, h2 =>
      refine ⟨?_,?_⟩
      · simp only [List.flatten_cons,List.singleton_append,List.map_cons];rw [← i1]
      · intro x hx
        simp only [List.flatten_cons,List.singleton_append,List.mem_cons] at hx
        rcases hx with rfl | hx
        · exact h2 _ (by simp)
        · exact i2 x hx
 obtain ⟨k1,k2⟩:=key A hA
 refine ⟨A.flatten,?_,k2⟩
 conv=>lhs; rw [k1]
 rw [List.map_map]; rfl
theorem fitsK5 {x : RV} (h : FitsT Try.prog 9 5 x) : ∃ n : Nat,x = u8Q n ∧ n < 256:=by
 have:=fitsT_one (s:=.int .u8) h (by kernel_rfl) (by kernel_rfl)
 simp only [Oc.Fits] at this
 obtain ⟨m,rfl,hm⟩:=this
 obtain ⟨k,rfl,kk⟩:=wfb8 hm
 exact ⟨k,rfl,kk⟩
end Go.Proofs.Ytgfbenanljjgaaa.Du.Th

namespace Go.Proofs.Ytgfbenanljjgaaa
open Go Go.Oc
theorem law12' {x0 x1 x2 : RV} (h0 : FitsT Try.prog 9 43 x0) (h1 : FitsT Try.prog 9 5 x1) (h2 : FitsT Try.prog 9 5 x2) : ACalls Try.prog 12 [x0,x1,x2] (.bo true):=by
 obtain ⟨l,rfl,hl⟩:=Du.Th.fitsK43 h0
 obtain ⟨a,rfl,ka⟩:=Du.Th.fitsK5 h1
 obtain ⟨b,rfl,kb⟩:=Du.Th.fitsK5 h2
 exact Du.Th.Ai.law_sureaim l hl a b ka kb
end Go.Proofs.Ytgfbenanljjgaaa


namespace Go.Proofs.Ytgfbenanljjgaaa
open Go Go.Oc Go.ChangeShapes Go.WideShapes Go.RowKit
set_option linter.unusedVariables false
theorem own : ownKnob Try.prog.godebug = none := by kernel_rfl
theorem laidOut : laidOutB Try.prog = true := by kernel_rfl
set_option maxRecDepth 100000 in
theorem lifted (os : Os) (started : os.Started) (H : Type) (enc : TypeId × Value → H) :
    ReturnsInHanded {} Try.checked os 12 .any (Rows.topSureAimSpec.pre6 enc Try.prog Try.f12 Rows.topSureAimRow.domain false) (Rows.topSureAimSpec.post enc Try.prog Try.f12 false true false false) := by
  refine returnsInHanded_of_change (C := Try.checked) own started (by kernel_rfl) Try.func12
    (ChangeSpec.witness6 (enc := enc) (C := Try.checked) false ⟨#[], #[.slice none 0 0, .int .u8 0, .int .u8 0], []⟩ 8 (by kernel_rfl) (by kernel_rfl) (by kernel_rfl) (by kernel_rfl)) ?_
  intro W base args ds gs before hval0 hW hcnd _
  have hval : ∀ (j : Nat) t v, Try.f12.params[j]? = some t → args[j]? = some v → Value.okWide Try.prog W .any base t v := hval0
  have hW' := hW
  obtain ⟨p, q, hA0, hV, rfl, hfz, hnd⟩ := hW
  have hA : DataW.TrodAll enc Try.prog W 0 (fun _ => true) true Try.f12.params.toList args.toList ds p := hA0
  rw [Try.params12] at hA hval
  obtain ⟨v0, vs0, d0, ds0, p0, q0, hargs, rfl, rfl, h0, r0⟩ := trodAll_cons hA
  obtain ⟨v1, vs1, d1, ds1, p1, q1, rfl, rfl, rfl, h1, r1⟩ := trodAll_cons r0
  obtain ⟨v2, vs2, d2, ds2, p2, q2, rfl, rfl, rfl, h2, r2⟩ := trodAll_cons r1
  obtain ⟨rfl, rfl, rfl⟩ := trodAll_nil r2
  obtain rfl : args = #[v0, v1, v2] := by cases args; simp_all
  obtain ⟨rfl, rfl⟩ := trodVars_none hV
  have lt0 : ∀ x ∈ p0, x.block < W.heap.size := by obtain ⟨m, hm⟩ := h0; exact DataW.trod_lt m _ _ _ hm
  have lt1 : ∀ x ∈ p1, x.block < W.heap.size := by obtain ⟨m, hm⟩ := h1; exact DataW.trod_lt m _ _ _ hm
  have lt2 : ∀ x ∈ p2, x.block < W.heap.size := by obtain ⟨m, hm⟩ := h2; exact DataW.trod_lt m _ _ _ hm
  obtain ⟨x0, g0, e0⟩ := arg_fits (n := 9) (by kernel_rfl) (hval 0 43 v0 rfl rfl) h0
  obtain ⟨x1, g1, e1⟩ := arg_fits (n := 9) (by kernel_rfl) (hval 1 5 v1 rfl rfl) h1
  obtain ⟨x2, g2, e2⟩ := arg_fits (n := 9) (by kernel_rfl) (hval 2 5 v2 rfl rfl) h2
  clear hA0 hval0
  refine ((law12' g0 g1 g2).2 W (old W) #[v0, v1, v2] (fun _ h => h) (by simp only [RV.relV]; exact ⟨_, _, rfl, e0, _, _, rfl, e1, _, _, rfl, e2, rfl⟩)).mono fun e W' he => ?_
  obtain ⟨v, R', rfl, bel, _, _, _, hr⟩ := he
  simp only [RV.rel] at hr
  subst hr
  exact ⟨_, rfl, _, _, _, [], _, [], hW', trodAll_mk1 (shut_bool Try.underlying4 _), (trodAll_cons_mk (Below.trod laidOut (by kernel_rfl) (of_decide_eq_true (by kernel_rfl)) h0 bel lt0) (trodAll_cons_mk (Below.trod laidOut (by kernel_rfl) (of_decide_eq_true (by kernel_rfl)) h1 bel lt1) (trodAll_cons_mk (Below.trod laidOut (by kernel_rfl) (of_decide_eq_true (by kernel_rfl)) h2 bel lt2) trodAll_mk0))), rfl, bel.frame _, fun h => by cases h⟩
theorem over : Rows.topSureAimRow.holds Try.pinned (OpenSpec.ofChange Rows.topSureAimSpec) :=
  OpenClaim.holds_of_wide 12 Try.f12 rfl rfl rfl rfl rfl rfl rfl ⟨rfl, rfl, rfl, rfl, rfl⟩ rfl rfl rfl rfl rfl (by kernel_rfl) Try.func12 (by kernel_rfl)
    (of_decide_eq_true (by kernel_rfl)) (by unfold Func.isWrapper; first | (rw [if_pos (by decide +kernel)]; kernel_rfl) | (rw [if_neg (by decide +kernel)]; exact ⟨rfl, rfl⟩))
    (fun os started H enc _ => lifted os started H enc)
theorem topSureAim_holds : Rows.TopSureAimSaid := over
#print axioms topSureAim_holds
end Go.Proofs.Ytgfbenanljjgaaa

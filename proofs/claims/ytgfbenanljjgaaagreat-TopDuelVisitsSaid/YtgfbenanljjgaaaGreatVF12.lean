/- For all laws made of bytes, starts, gates and numbers of visits, the given function TopDuelVisits returns true: against an opponent who ends the leg after n visits, the chance to win is at least what the expected number of visits leaves. -/
import Derived.Test.YtgfbenanljjgaaaGreatVF11
import Derived.Test.YtgfbenanljjgaaaGreatRows
import Derived.JoinedOf
set_option linter.unusedVariables false
namespace Go.Proofs.YtgfbenanljjgaaaGreat.Du
open Go Go.Oc
set_option maxRecDepth 8000
theorem fits51 {x:RV}(h:FitsT Tryz.prog 9 51 x):∃ a b c:Nat,x = .ag [u8Q a,u8Q b,u8Q c]∧a<256∧b<256∧c<256:=by
 obtain⟨xs,rfl,hx⟩:=fitsT_ag (ss:=[.int .u8,.int .u8,.int .u8]) h (by kernel_rfl) (by kernel_rfl)
 simp only[Oc.FitsL,Oc.Fits] at hx
 obtain⟨_,_,rfl,⟨a,rfl,ha⟩,_,_,rfl,⟨b,rfl,hb⟩,_,_,rfl,⟨c,rfl,hc⟩,rfl⟩:=hx
 obtain⟨a,rfl,ka⟩:=wfb8 ha
 obtain⟨b,rfl,kb⟩:=wfb8 hb
 obtain⟨c,rfl,kc⟩:=wfb8 hc
 exact⟨a,b,c,rfl,ka,kb,kc⟩
end Go.Proofs.YtgfbenanljjgaaaGreat.Du

namespace Go.Proofs.YtgfbenanljjgaaaGreat
open Go Go.Oc
theorem law4' {x0 x1 x2:RV}(h0:FitsT Tryz.prog 9 5 x0) (h1:FitsT Tryz.prog 9 50 x1) (h2:FitsT Tryz.prog 9 51 x2):ACalls Tryz.prog 4 [x0,x1,x2] (.bo true):=by
 obtain⟨n,rfl,hn⟩:=Du.fits5 h0
 obtain⟨A,rfl,hA⟩:=Du.fits50 h1
 obtain⟨a,b,c,rfl,ka,kb,kc⟩:=Du.fits51 h2
 exact Du.duelvisits_law n hn A hA a b c ka kb kc
end Go.Proofs.YtgfbenanljjgaaaGreat


namespace Go.Proofs.YtgfbenanljjgaaaGreat
open Go Go.Oc Go.ChangeShapes Go.WideShapes Go.RowKit
theorem own:ownKnob Tryz.prog.godebug=none:=by kernel_rfl
theorem laidOut:laidOutB Tryz.prog=true:=by kernel_rfl
set_option maxRecDepth 100000 in
theorem lifted (os:Os) (started:os.Started) (H:Type) (enc:TypeId × Value→H) :
 ReturnsInHanded {} Tryz.checked os 4 .any (Rows.topDuelVisitsSpec.pre6 enc Tryz.prog Tryz.f4 Rows.topDuelVisitsRow.domain false) (Rows.topDuelVisitsSpec.post enc Tryz.prog Tryz.f4 false true false false):=by
 refine returnsInHanded_of_change (C:=Tryz.checked) own started (by kernel_rfl) Tryz.func4
  (ChangeSpec.witness6 (enc:=enc) (C:=Tryz.checked) false ⟨#[], #[.int .u8 0, .slice none 0 0, .agg #[.int .u8 0, .int .u8 0, .int .u8 0]], []⟩ 8 (by kernel_rfl) (by kernel_rfl) (by kernel_rfl) (by kernel_rfl)) ?_
 intro W base args ds gs before hval0 hW hcnd _
 have hval:∀ (j:Nat) t v, Tryz.f4.params[j]? = some t→args[j]? = some v→Value.okWide Tryz.prog W .any base t v:=hval0
 have hW':=hW
 obtain⟨p, q, hA0, hV, rfl, hfz, hnd⟩:=hW
 have hA:DataW.TrodAll enc Tryz.prog W 0 (fun _=>true) true Tryz.f4.params.toList args.toList ds p:=hA0
 rw[Tryz.params4] at hA hval
 obtain⟨v0, vs0, d0, ds0, p0, q0, hargs, rfl, rfl, h0, r0⟩:=trodAll_cons hA
 obtain⟨v1, vs1, d1, ds1, p1, q1, rfl, rfl, rfl, h1, r1⟩:=trodAll_cons r0
 obtain⟨v2, vs2, d2, ds2, p2, q2, rfl, rfl, rfl, h2, r2⟩:=trodAll_cons r1
 obtain⟨rfl, rfl, rfl⟩:=trodAll_nil r2
 obtain rfl:args = #[v0, v1, v2]:=by cases args;simp_all
 obtain⟨rfl, rfl⟩:=trodVars_none hV
 have lt0:∀ x∈p0, x.block<W.heap.size:=by obtain⟨m, hm⟩:=h0;exact DataW.trod_lt m _ _ _ hm
 have lt1:∀ x∈p1, x.block<W.heap.size:=by obtain⟨m, hm⟩:=h1;exact DataW.trod_lt m _ _ _ hm
 have lt2:∀ x∈p2, x.block<W.heap.size:=by obtain⟨m, hm⟩:=h2;exact DataW.trod_lt m _ _ _ hm
 obtain⟨x0, g0, e0⟩:=arg_fits (n:=9) (by kernel_rfl) (hval 0 5 v0 rfl rfl) h0
 obtain⟨x1, g1, e1⟩:=arg_fits (n:=9) (by kernel_rfl) (hval 1 50 v1 rfl rfl) h1
 obtain⟨x2, g2, e2⟩:=arg_fits (n:=9) (by kernel_rfl) (hval 2 51 v2 rfl rfl) h2
 clear hA0 hval0
 refine ((law4' g0 g1 g2).2 W (old W) #[v0, v1, v2] (fun _ h=>h) (by simp only[RV.relV];exact⟨_, _, rfl, e0, _, _, rfl, e1, _, _, rfl, e2, rfl⟩)).mono fun e W' he => ?_
 obtain⟨v, R', rfl, bel, _, _, _, hr⟩:=he
 simp only[RV.rel] at hr
 subst hr
 exact⟨_, rfl, _, _, _, [], _, [], hW', trodAll_mk1 (shut_bool Tryz.underlying4 _), (trodAll_cons_mk (Below.trod laidOut (by kernel_rfl) (of_decide_eq_true (by kernel_rfl)) h0 bel lt0) (trodAll_cons_mk (Below.trod laidOut (by kernel_rfl) (of_decide_eq_true (by kernel_rfl)) h1 bel lt1) (trodAll_cons_mk (Below.trod laidOut (by kernel_rfl) (of_decide_eq_true (by kernel_rfl)) h2 bel lt2) trodAll_mk0))), rfl, bel.frame _, fun h=>by cases h⟩
theorem over:Rows.topDuelVisitsRow.holds Tryz.pinned (OpenSpec.ofChange Rows.topDuelVisitsSpec) :=
 OpenClaim.holds_of_wide 4 Tryz.f4 rfl rfl rfl rfl rfl rfl rfl ⟨rfl, rfl, rfl, rfl, rfl⟩ rfl rfl rfl rfl rfl (by kernel_rfl) Tryz.func4 (by kernel_rfl)
  (of_decide_eq_true (by kernel_rfl)) (by unfold Func.isWrapper;first|(rw[if_pos (by decide +kernel)];kernel_rfl)|(rw[if_neg (by decide +kernel)];exact⟨rfl, rfl⟩))
  (fun os started H enc _=>lifted os started H enc)
theorem topDuelVisits_holds:Rows.TopDuelVisitsSaid:=over
#print axioms topDuelVisits_holds
end Go.Proofs.YtgfbenanljjgaaaGreat

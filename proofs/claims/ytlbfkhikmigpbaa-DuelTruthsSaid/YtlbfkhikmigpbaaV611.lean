/- For all matches and numbers of its types, the given function DuelTruths returns true: in any truth of the law and of the opponent the chance of whoever aims as Aim says is not below the low number, and wherever the darts are aimed it is not above the high one. No conditions beyond those of the given statement. -/
import Derived.Test.YtlbfkhikmigpbaaV610
import Derived.Test.YtlbfkhikmigpbaaV69
import Derived.Test.YtlbfkhikmigpbaaV68
import Derived.Test.YtlbfkhikmigpbaaV65
import Derived.ChangeShapes
import Derived.WideShapes
import Derived.OpenShut
import Derived.ShutString
import Derived.ChangeOld
import Derived.Carry
import Derived.Below
import Derived.Test.YtlbfkhikmigpbaaRows
import Derived.JoinedOf
namespace Go.Proofs.Ytlbfkhikmigpbaa
open Go Go.Oc
set_option linter.unusedSimpArgs false
set_option linter.unusedVariables false
set_option maxRecDepth 8000
set_option maxHeartbeats 4000000
def cuF (r : Ru) (x2 x4 : RV) (b : Nat → Bool) (vs : Nat → Nat) : List (Nat × AV) :=
 [(2,.r x2),(4,.r x4),(7,.pt 7 (vs 7) 0),
  (22,vI b 0 (.pt 7 (vs 7) 2)),
  (23,vI b 1 (.r (i64 r.start))),
  (24,vI b 2 (.r (i64 (min r.start 6)))),
  (25,vI b 3 (.pt 7 (vs 7) 4)),
  (26,vI b 4 (.r (spansR r.ends))),
  (27,vI b 5 (.pt 7 (vs 7) 4)),
  (28,vI b 6 (.r (spansR r.ends))),
  (29,vI b 7 (.r (i64 (r.ends.length : Int)))),
  (30,vI b 8 (.r (i64 ((r.ends.length : Int) - 2)))),
  (31,vI b 9 (.r (i64 (max 0 ((r.ends.length : Int) - 2))))),
  (32,vI b 10 (.r (.sl 2 ((r.ends.map spanR).drop (r.ends.length - 2))))),
  (33,vI b 11 (.pt 7 (vs 7) 2)),
  (34,vI b 13 (.pt 7 (vs 7) 4))]
def cuR (r : Ru) (b : Nat → Bool) (vs : Nat → Nat) : List (Nat × RowC) :=
 bif b 14 then [(7,.box [.r (i64 r.d),.r (aimsR r.aims),.r (i64 (min r.start 6)),.r (i64 r.out),.r (.sl 2 ((r.ends.map spanR).drop (r.ends.length - 2)))])]
 else bif b 12 then [(7,.box [.r (i64 r.d),.r (aimsR r.aims),.r (i64 (min r.start 6)),.r (i64 r.out),.r (spansR r.ends)])]
 else [(7,.box [.r (i64 r.d),.r (aimsR r.aims),.r (i64 r.start),.r (i64 r.out),.r (spansR r.ends)])]
theorem truths_law (m : Mt) (hw : WfM m) (b0 b1 b2 : List Int) (h0 : ∀ n ∈ b0,0 ≤ n ∧ n ≤ 255) (h1 : ∀ n ∈ b1,0 ≤ n ∧ n ≤ 255) (h2 : ∀ n ∈ b2,0 ≤ n ∧ n ≤ 255) (at_ : Int) (ha : 0 ≤ at_ ∧ at_ ≤ 255) :
 ACalls Try.prog 7 [.ag (mtC m),.ag [u8L b0,u8L b1,u8L b2],it8 at_] (.bo true):=by
 have hkn:=known_ok
 have hmr:=mrules_ok m hw
 have hE0:=ruM_ok m hw
 have hwR0:=ruM_wf m hw
 have hn0 : 1 ≤ (ruM m).ends.length:=by simp [ruM]
 have hn4 : (ruM m).ends.length ≤ 4:=by simp only [ruM,List.length_append,List.length_map,List.length_take,List.length_singleton]; omega
 have hs0 : 2 ≤ (ruM m).start ∧ (ruM m).start ≤ 40:=by
  obtain ⟨g1,g2⟩:=hw.start
  simp only [ruM]; omega
 generalize ruM m = r0 at *
 obtain ⟨hE,hs6,hn2⟩:=cutR_ok hE0
 have hwR : WfR (cutR r0):=⟨hwR0.law⟩
 refine acalls_st (rs:=[.bo true]) [.tmp 6] Try.func7 rfl (by kernel_rfl) Try.ntmps7 rfl (by simp) rfl fun C vs=>?_
 repeat refine zq ?_
 refine zb (by kernel_rfl) fun K hK=>?_
 simp only [go_sem]
 (try simp (disch:=omega) only [zI])
 repeat first | intro _ | refine ⟨by omega,?_⟩ | refine ⟨⟨by omega,by omega⟩,?_⟩
 refine hK _ ?_
 clear hK K
 refine zw (sub_frzP 4 4 [u8L b0,u8L b1,u8L b2] (by omega) rfl rfl) ?_
 refine zw (zk [2,3,4]) ?_
 simp only [go_sem]
 repeat refine zq ?_
 refine zb (by kernel_rfl) fun K hK=>?_
 simp only [go_sem]
 (try simp (disch:=omega) only [zI])
 refine zh (hmr) rfl (by simp only [go_sem,i64,ints]) (by simp only [go_sem,i64,ints]) (by first | exact .inl rfl | exact .inr rfl) ?_
 (try simp only [go_sem])
 (try simp (disch:=omega) only [zI])
 repeat first | intro _ | refine ⟨by omega,?_⟩ | refine ⟨⟨by omega,by omega⟩,?_⟩
 refine hK _ ?_
 clear hK K
 refine zw (zk [2,4,7]) ?_
 simp only [go_sem]
 have hmx : (max 0 ((r0.ends.length : Int) - 2)).toNat = r0.ends.length - 2:=by omega
 have hlw : IntKind.i64.wrap ((r0.ends.length : Int) - 2) = (r0.ends.length : Int) - 2:=by rw [zI] <;> omega
 repeat refine zq ?_
 refine awp_inv (n:=225) (cuF r0 (it8 at_) (.rp [u8L b0,u8L b1,u8L b2])) (cuR r0) follows (by kernel_rfl) (by kernel_rfl) (by decide +kernel) (zj [3] ?_ ?_) ?_ ?_
 · simp only [go_sem,cuF,vI,if_true,if_false,Bool.false_eq_true]
 · simp only [go_sem,cuR]
 · refine ⟨fun b vs hdn hbk hde=>?_,fun b vs hdn hbk hde=>?_,fun b vs hdn hbk hde=>?_,fun b vs hdn hbk hde=>?_,fun b vs hdn hbk hde=>?_,fun b vs hdn hbk hde=>?_,fun b vs hdn hbk hde=>?_,fun b vs hdn hbk hde=>?_,fun b vs hdn hbk hde=>?_,fun b vs hdn hbk hde=>?_,fun b vs hdn hbk hde=>?_,fun b vs hdn hbk hde=>?_,fun b vs hdn hbk hde=>?_,fun b vs hdn hbk hde=>?_,fun b vs hdn hbk hde=>?_,trivial⟩
   · skip
     have f1 : b 1 = false:=dI hdn 1 0 (by decide +kernel) (by decide +kernel) hbk
     have f11 : b 11 = false:=dI hdn 11 0 (by decide +kernel) (by decide +kernel) hbk
     have f12 : b 12 = false:=dI hdn 12 0 (by decide +kernel) (by decide +kernel) hbk
     have f13 : b 13 = false:=dI hdn 13 0 (by decide +kernel) (by decide +kernel) hbk
     have f14 : b 14 = false:=dI hdn 14 0 (by decide +kernel) (by decide +kernel) hbk
     have f2 : b 2 = false:=dI hdn 2 1 (by decide +kernel) (by decide +kernel) f1
     (simp only [go_sem,cuF,cuR,upd,vI,cond_true,cond_false,if_true,Bool.false_eq_true,if_false,hbk,f1,f2,f11,f12,f13,f14,hlw,hmx,spansR,List.length_map,List.length_drop])
     all_goals (refine zj [] ?_ ?_ <;> (simp only [go_sem,cuF,cuR,upd,vI,cond_true,cond_false,if_true,Bool.false_eq_true,if_false,hbk,f1,f2,f11,f12,f13,f14,hlw,hmx,spansR,List.length_map,List.length_drop]))
   · skip
     have h0 : b 0 = true:=hde 0 (by decide +kernel)
     have f2 : b 2 = false:=dI hdn 2 1 (by decide +kernel) (by decide +kernel) hbk
     have f11 : b 11 = false:=dI hdn 11 1 (by decide +kernel) (by decide +kernel) hbk
     have f12 : b 12 = false:=dI hdn 12 1 (by decide +kernel) (by decide +kernel) hbk
     have f13 : b 13 = false:=dI hdn 13 1 (by decide +kernel) (by decide +kernel) hbk
     have f14 : b 14 = false:=dI hdn 14 1 (by decide +kernel) (by decide +kernel) hbk
     (simp only [go_sem,cuF,cuR,upd,vI,cond_true,cond_false,if_true,Bool.false_eq_true,if_false,h0,hbk,f2,f11,f12,f13,f14,hlw,hmx,spansR,List.length_map,List.length_drop])
     all_goals (refine zj [] ?_ ?_ <;> (simp only [go_sem,cuF,cuR,upd,vI,cond_true,cond_false,if_true,Bool.false_eq_true,if_false,h0,hbk,f2,f11,f12,f13,f14,hlw,hmx,spansR,List.length_map,List.length_drop]))
   · skip
     have h1 : b 1 = true:=hde 1 (by decide +kernel)
     have h0 : b 0 = true:=hdn 1 0 (by decide +kernel) (by decide +kernel) h1
     have f11 : b 11 = false:=dI hdn 11 2 (by decide +kernel) (by decide +kernel) hbk
     have f12 : b 12 = false:=dI hdn 12 2 (by decide +kernel) (by decide +kernel) hbk
     have f13 : b 13 = false:=dI hdn 13 2 (by decide +kernel) (by decide +kernel) hbk
     have f14 : b 14 = false:=dI hdn 14 2 (by decide +kernel) (by decide +kernel) hbk
     (simp only [go_sem,cuF,cuR,upd,vI,cond_true,cond_false,if_true,Bool.false_eq_true,if_false,h0,h1,hbk,f11,f12,f13,f14,hlw,hmx,spansR,List.length_map,List.length_drop])
     all_goals (refine zj [] ?_ ?_ <;> (simp only [go_sem,cuF,cuR,upd,vI,cond_true,cond_false,if_true,Bool.false_eq_true,if_false,h0,h1,hbk,f11,f12,f13,f14,hlw,hmx,spansR,List.length_map,List.length_drop]))
   · skip
     have f4 : b 4 = false:=dI hdn 4 3 (by decide +kernel) (by decide +kernel) hbk
     have f11 : b 11 = false:=dI hdn 11 3 (by decide +kernel) (by decide +kernel) hbk
     have f12 : b 12 = false:=dI hdn 12 3 (by decide +kernel) (by decide +kernel) hbk
     have f13 : b 13 = false:=dI hdn 13 3 (by decide +kernel) (by decide +kernel) hbk
     have f14 : b 14 = false:=dI hdn 14 3 (by decide +kernel) (by decide +kernel) hbk
     have f10 : b 10 = false:=dI hdn 10 4 (by decide +kernel) (by decide +kernel) f4
     (simp only [go_sem,cuF,cuR,upd,vI,cond_true,cond_false,if_true,Bool.false_eq_true,if_false,hbk,f4,f10,f11,f12,f13,f14,hlw,hmx,spansR,List.length_map,List.length_drop])
     all_goals (refine zj [] ?_ ?_ <;> (simp only [go_sem,cuF,cuR,upd,vI,cond_true,cond_false,if_true,Bool.false_eq_true,if_false,hbk,f4,f10,f11,f12,f13,f14,hlw,hmx,spansR,List.length_map,List.length_drop]))
   · skip
     have h3 : b 3 = true:=hde 3 (by decide +kernel)
     have f10 : b 10 = false:=dI hdn 10 4 (by decide +kernel) (by decide +kernel) hbk
     have f11 : b 11 = false:=dI hdn 11 4 (by decide +kernel) (by decide +kernel) hbk
     have f12 : b 12 = false:=dI hdn 12 4 (by decide +kernel) (by decide +kernel) hbk
     have f13 : b 13 = false:=dI hdn 13 4 (by decide +kernel) (by decide +kernel) hbk
     have f14 : b 14 = false:=dI hdn 14 4 (by decide +kernel) (by decide +kernel) hbk
     (simp only [go_sem,cuF,cuR,upd,vI,cond_true,cond_false,if_true,Bool.false_eq_true,if_false,h3,hbk,f10,f11,f12,f13,f14,hlw,hmx,spansR,List.length_map,List.length_drop])
     all_goals (refine zj [] ?_ ?_ <;> (simp only [go_sem,cuF,cuR,upd,vI,cond_true,cond_false,if_true,Bool.false_eq_true,if_false,h3,hbk,f10,f11,f12,f13,f14,hlw,hmx,spansR,List.length_map,List.length_drop]))
   · skip
     have f6 : b 6 = false:=dI hdn 6 5 (by decide +kernel) (by decide +kernel) hbk
     have f11 : b 11 = false:=dI hdn 11 5 (by decide +kernel) (by decide +kernel) hbk
     have f12 : b 12 = false:=dI hdn 12 5 (by decide +kernel) (by decide +kernel) hbk
     have f13 : b 13 = false:=dI hdn 13 5 (by decide +kernel) (by decide +kernel) hbk
     have f14 : b 14 = false:=dI hdn 14 5 (by decide +kernel) (by decide +kernel) hbk
     have f7 : b 7 = false:=dI hdn 7 6 (by decide +kernel) (by decide +kernel) f6
     have f8 : b 8 = false:=dI hdn 8 7 (by decide +kernel) (by decide +kernel) f7
     have f9 : b 9 = false:=dI hdn 9 8 (by decide +kernel) (by decide +kernel) f8
     have f10 : b 10 = false:=dI hdn 10 9 (by decide +kernel) (by decide +kernel) f9
     (simp only [go_sem,cuF,cuR,upd,vI,cond_true,cond_false,if_true,Bool.false_eq_true,if_false,hbk,f6,f7,f8,f9,f10,f11,f12,f13,f14,hlw,hmx,spansR,List.length_map,List.length_drop])
     all_goals (refine zj [] ?_ ?_ <;> (simp only [go_sem,cuF,cuR,upd,vI,cond_true,cond_false,if_true,Bool.false_eq_true,if_false,hbk,f6,f7,f8,f9,f10,f11,f12,f13,f14,hlw,hmx,spansR,List.length_map,List.length_drop]))
   · skip
     have h5 : b 5 = true:=hde 5 (by decide +kernel)
     have f7 : b 7 = false:=dI hdn 7 6 (by decide +kernel) (by decide +kernel) hbk
     have f11 : b 11 = false:=dI hdn 11 6 (by decide +kernel) (by decide +kernel) hbk
     have f12 : b 12 = false:=dI hdn 12 6 (by decide +kernel) (by decide +kernel) hbk
     have f13 : b 13 = false:=dI hdn 13 6 (by decide +kernel) (by decide +kernel) hbk
     have f14 : b 14 = false:=dI hdn 14 6 (by decide +kernel) (by decide +kernel) hbk
     have f8 : b 8 = false:=dI hdn 8 7 (by decide +kernel) (by decide +kernel) f7
     have f9 : b 9 = false:=dI hdn 9 8 (by decide +kernel) (by decide +kernel) f8
     have f10 : b 10 = false:=dI hdn 10 9 (by decide +kernel) (by decide +kernel) f9
     (simp only [go_sem,cuF,cuR,upd,vI,cond_true,cond_false,if_true,Bool.false_eq_true,if_false,h5,hbk,f7,f8,f9,f10,f11,f12,f13,f14,hlw,hmx,spansR,List.length_map,List.length_drop])
     all_goals (refine zj [] ?_ ?_ <;> (simp only [go_sem,cuF,cuR,upd,vI,cond_true,cond_false,if_true,Bool.false_eq_true,if_false,h5,hbk,f7,f8,f9,f10,f11,f12,f13,f14,hlw,hmx,spansR,List.length_map,List.length_drop]))
   · skip
     have h6 : b 6 = true:=hde 6 (by decide +kernel)
     have h5 : b 5 = true:=hdn 6 5 (by decide +kernel) (by decide +kernel) h6
     have f8 : b 8 = false:=dI hdn 8 7 (by decide +kernel) (by decide +kernel) hbk
     have f13 : b 13 = false:=dI hdn 13 7 (by decide +kernel) (by decide +kernel) hbk
     have f14 : b 14 = false:=dI hdn 14 7 (by decide +kernel) (by decide +kernel) hbk
     have f9 : b 9 = false:=dI hdn 9 8 (by decide +kernel) (by decide +kernel) f8
     have f10 : b 10 = false:=dI hdn 10 9 (by decide +kernel) (by decide +kernel) f9
     cases g12 : b 12
     all_goals (simp only [go_sem,cuF,cuR,upd,vI,cond_true,cond_false,if_true,Bool.false_eq_true,if_false,h5,h6,hbk,f8,f9,f10,f13,f14,g12,hlw,hmx,spansR,List.length_map,List.length_drop])
     all_goals intro _
     all_goals (refine zj [] ?_ ?_ <;> (simp only [go_sem,cuF,cuR,upd,vI,cond_true,cond_false,if_true,Bool.false_eq_true,if_false,h5,h6,hbk,f8,f9,f10,f13,f14,g12,hlw,hmx,spansR,List.length_map,List.length_drop]))
   · skip
     have h7 : b 7 = true:=hde 7 (by decide +kernel)
     have h6 : b 6 = true:=hdn 7 6 (by decide +kernel) (by decide +kernel) h7
     have h5 : b 5 = true:=hdn 6 5 (by decide +kernel) (by decide +kernel) h6
     have f9 : b 9 = false:=dI hdn 9 8 (by decide +kernel) (by decide +kernel) hbk
     have f13 : b 13 = false:=dI hdn 13 8 (by decide +kernel) (by decide +kernel) hbk
     have f14 : b 14 = false:=dI hdn 14 8 (by decide +kernel) (by decide +kernel) hbk
     have f10 : b 10 = false:=dI hdn 10 9 (by decide +kernel) (by decide +kernel) f9
     cases g12 : b 12
     all_goals (simp only [go_sem,cuF,cuR,upd,vI,cond_true,cond_false,if_true,Bool.false_eq_true,if_false,h5,h6,h7,hbk,f9,f10,f13,f14,g12,hlw,hmx,spansR,List.length_map,List.length_drop])
     all_goals (try simp (disch:=omega) only [zI])
     all_goals (refine zj [] ?_ ?_ <;> (simp only [go_sem,cuF,cuR,upd,vI,cond_true,cond_false,if_true,Bool.false_eq_true,if_false,h5,h6,h7,hbk,f9,f10,f13,f14,g12,hlw,hmx,spansR,List.length_map,List.length_drop]))
   · skip
     have h8 : b 8 = true:=hde 8 (by decide +kernel)
     have h7 : b 7 = true:=hdn 8 7 (by decide +kernel) (by decide +kernel) h8
     have h6 : b 6 = true:=hdn 7 6 (by decide +kernel) (by decide +kernel) h7
     have h5 : b 5 = true:=hdn 6 5 (by decide +kernel) (by decide +kernel) h6
     have f10 : b 10 = false:=dI hdn 10 9 (by decide +kernel) (by decide +kernel) hbk
     have f13 : b 13 = false:=dI hdn 13 9 (by decide +kernel) (by decide +kernel) hbk
     have f14 : b 14 = false:=dI hdn 14 9 (by decide +kernel) (by decide +kernel) hbk
     cases g12 : b 12
     all_goals (simp only [go_sem,cuF,cuR,upd,vI,cond_true,cond_false,if_true,Bool.false_eq_true,if_false,h5,h6,h7,h8,hbk,f10,f13,f14,g12,hlw,hmx,spansR,List.length_map,List.length_drop])
     all_goals (refine zj [] ?_ ?_ <;> (simp only [go_sem,cuF,cuR,upd,vI,cond_true,cond_false,if_true,Bool.false_eq_true,if_false,h5,h6,h7,h8,hbk,f10,f13,f14,g12,hlw,hmx,spansR,List.length_map,List.length_drop]))
   · skip
     have h4 : b 4 = true:=hde 4 (by decide +kernel)
     have h9 : b 9 = true:=hde 9 (by decide +kernel)
     have h3 : b 3 = true:=hdn 4 3 (by decide +kernel) (by decide +kernel) h4
     have h8 : b 8 = true:=hdn 9 8 (by decide +kernel) (by decide +kernel) h9
     have h7 : b 7 = true:=hdn 8 7 (by decide +kernel) (by decide +kernel) h8
     have h6 : b 6 = true:=hdn 7 6 (by decide +kernel) (by decide +kernel) h7
     have h5 : b 5 = true:=hdn 6 5 (by decide +kernel) (by decide +kernel) h6
     have f13 : b 13 = false:=dI hdn 13 10 (by decide +kernel) (by decide +kernel) hbk
     have f14 : b 14 = false:=dI hdn 14 10 (by decide +kernel) (by decide +kernel) hbk
     cases g12 : b 12
     all_goals (simp only [go_sem,cuF,cuR,upd,vI,cond_true,cond_false,if_true,Bool.false_eq_true,if_false,h3,h4,h5,h6,h7,h8,h9,hbk,f13,f14,g12,hlw,hmx,spansR,List.length_map,List.length_drop])
     all_goals refine ⟨⟨by omega,by omega⟩,?_⟩
     all_goals (refine zj [] ?_ ?_ <;> (simp only [go_sem,cuF,cuR,upd,vI,cond_true,cond_false,if_true,Bool.false_eq_true,if_false,h3,h4,h5,h6,h7,h8,h9,hbk,f13,f14,g12,hlw,hmx,spansR,List.length_map,List.length_drop]))
   · skip
     have h0 : b 0 = true:=hde 0 (by decide +kernel)
     have h1 : b 1 = true:=hde 1 (by decide +kernel)
     have h2 : b 2 = true:=hde 2 (by decide +kernel)
     have h3 : b 3 = true:=hde 3 (by decide +kernel)
     have h4 : b 4 = true:=hde 4 (by decide +kernel)
     have h5 : b 5 = true:=hde 5 (by decide +kernel)
     have h6 : b 6 = true:=hde 6 (by decide +kernel)
     have f12 : b 12 = false:=dI hdn 12 11 (by decide +kernel) (by decide +kernel) hbk
     have f13 : b 13 = false:=dI hdn 13 11 (by decide +kernel) (by decide +kernel) hbk
     have f14 : b 14 = false:=dI hdn 14 11 (by decide +kernel) (by decide +kernel) hbk
     (simp only [go_sem,cuF,cuR,upd,vI,cond_true,cond_false,if_true,Bool.false_eq_true,if_false,h0,h1,h2,h3,h4,h5,h6,hbk,f12,f13,f14,hlw,hmx,spansR,List.length_map,List.length_drop])
     all_goals (refine zj [] ?_ ?_ <;> (simp only [go_sem,cuF,cuR,upd,vI,cond_true,cond_false,if_true,Bool.false_eq_true,if_false,h0,h1,h2,h3,h4,h5,h6,hbk,f12,f13,f14,hlw,hmx,spansR,List.length_map,List.length_drop]))
   · skip
     have h0 : b 0 = true:=hde 0 (by decide +kernel)
     have h1 : b 1 = true:=hde 1 (by decide +kernel)
     have h2 : b 2 = true:=hde 2 (by decide +kernel)
     have h2 : b 2 = true:=hde 2 (by decide +kernel)
     have h3 : b 3 = true:=hde 3 (by decide +kernel)
     have h4 : b 4 = true:=hde 4 (by decide +kernel)
     have h5 : b 5 = true:=hde 5 (by decide +kernel)
     have h6 : b 6 = true:=hde 6 (by decide +kernel)
     have h11 : b 11 = true:=hde 11 (by decide +kernel)
     have f13 : b 13 = false:=dI hdn 13 12 (by decide +kernel) (by decide +kernel) hbk
     have f14 : b 14 = false:=dI hdn 14 12 (by decide +kernel) (by decide +kernel) hbk
     (simp only [go_sem,cuF,cuR,upd,vI,cond_true,cond_false,if_true,Bool.false_eq_true,if_false,h0,h1,h2,h3,h4,h5,h6,h11,hbk,f13,f14,hlw,hmx,spansR,List.length_map,List.length_drop])
     all_goals (refine zj [] ?_ ?_ <;> (simp only [go_sem,cuF,cuR,upd,vI,cond_true,cond_false,if_true,Bool.false_eq_true,if_false,h0,h1,h2,h3,h4,h5,h6,h11,hbk,f13,f14,hlw,hmx,spansR,List.length_map,List.length_drop]))
   · skip
     have h0 : b 0 = true:=hde 0 (by decide +kernel)
     have h1 : b 1 = true:=hde 1 (by decide +kernel)
     have h2 : b 2 = true:=hde 2 (by decide +kernel)
     have h3 : b 3 = true:=hde 3 (by decide +kernel)
     have h4 : b 4 = true:=hde 4 (by decide +kernel)
     have h5 : b 5 = true:=hde 5 (by decide +kernel)
     have h6 : b 6 = true:=hde 6 (by decide +kernel)
     have h7 : b 7 = true:=hde 7 (by decide +kernel)
     have h8 : b 8 = true:=hde 8 (by decide +kernel)
     have h9 : b 9 = true:=hde 9 (by decide +kernel)
     have h10 : b 10 = true:=hde 10 (by decide +kernel)
     have h11 : b 11 = true:=hde 11 (by decide +kernel)
     have h12 : b 12 = true:=hde 12 (by decide +kernel)
     have f14 : b 14 = false:=dI hdn 14 13 (by decide +kernel) (by decide +kernel) hbk
     (simp only [go_sem,cuF,cuR,upd,vI,cond_true,cond_false,if_true,Bool.false_eq_true,if_false,h0,h1,h2,h3,h4,h5,h6,h7,h8,h9,h10,h11,h12,hbk,f14,hlw,hmx,spansR,List.length_map,List.length_drop])
     all_goals (refine zj [] ?_ ?_ <;> (simp only [go_sem,cuF,cuR,upd,vI,cond_true,cond_false,if_true,Bool.false_eq_true,if_false,h0,h1,h2,h3,h4,h5,h6,h7,h8,h9,h10,h11,h12,hbk,f14,hlw,hmx,spansR,List.length_map,List.length_drop]))
   · skip
     have h0 : b 0 = true:=hde 0 (by decide +kernel)
     have h1 : b 1 = true:=hde 1 (by decide +kernel)
     have h2 : b 2 = true:=hde 2 (by decide +kernel)
     have h3 : b 3 = true:=hde 3 (by decide +kernel)
     have h4 : b 4 = true:=hde 4 (by decide +kernel)
     have h5 : b 5 = true:=hde 5 (by decide +kernel)
     have h6 : b 6 = true:=hde 6 (by decide +kernel)
     have h7 : b 7 = true:=hde 7 (by decide +kernel)
     have h8 : b 8 = true:=hde 8 (by decide +kernel)
     have h9 : b 9 = true:=hde 9 (by decide +kernel)
     have h10 : b 10 = true:=hde 10 (by decide +kernel)
     have h10 : b 10 = true:=hde 10 (by decide +kernel)
     have h11 : b 11 = true:=hde 11 (by decide +kernel)
     have h12 : b 12 = true:=hde 12 (by decide +kernel)
     have h12 : b 12 = true:=hde 12 (by decide +kernel)
     have h13 : b 13 = true:=hde 13 (by decide +kernel)
     (simp only [go_sem,cuF,cuR,upd,vI,cond_true,cond_false,if_true,Bool.false_eq_true,if_false,h0,h1,h2,h3,h4,h5,h6,h7,h8,h9,h10,h11,h12,h13,hbk,hlw,hmx,spansR,List.length_map,List.length_drop])
     all_goals (refine zj [] ?_ ?_ <;> (simp only [go_sem,cuF,cuR,upd,vI,cond_true,cond_false,if_true,Bool.false_eq_true,if_false,h0,h1,h2,h3,h4,h5,h6,h7,h8,h9,h10,h11,h12,h13,hbk,hlw,hmx,spansR,List.length_map,List.length_drop]))
 intro b vs hb
 simp only [go_sem,cuF,cuR,vI,hb,if_true,cond_true]
 refine zw (sub_frzP 7 7 (ruC (cutR r0)) (by omega) rfl (by simp only [go_sem,cutR,spansR,List.map_drop])) ?_
 generalize cutR r0 = r at *
 obtain ⟨hG,e1,_,_⟩:=ruG_of hE
 have hH:=refH_of hE
 have hW:=couT_ok hwR hE h0 h1 h2
 obtain ⟨l1,l2,l3⟩ : r.aims.length ≤ 1000 ∧ r.ends.length ≤ 10 ∧ ∀ a ∈ r.aims,a.beds.length ≤ 19:=⟨hG.aims.len,hG.h10,fun a ha=>(hG.aims.beds a ha).1⟩
 have hrl:=rules_ok r (by omega) (by omega) fun a ha=>by have:=l3 a ha; omega
 have hta:=table_ok r hwR
 rw [hE] at hta
 simp only [tabsV,if_pos hE] at hta
 have s2:=hG.s2
 have s40:=hG.s40
 have w4 : IntKind.i64.wrap (r.start + 1) = r.start + 1:=by rw [zI] <;> omega
 have hl0 : (tabF r false).length = r.ends.length:=tabF_len r false
 have hl1 : (tabF r true).length = r.ends.length:=tabF_len r true
 have hr0 : ∀ j,j < r.ends.length → ((tabF r false).getD j []).length = r.start.toNat + 1:=fun j hj=>tabF_rowlen false hj
 have hr1 : ∀ j,j < r.ends.length → ((tabF r true).getD j []).length = r.start.toNat + 1:=fun j hj=>tabF_rowlen true hj
 have hval:=fun (w : Bool) (s : Nat) (g0 : 2 ≤ s) (g1 : (s : Int) ≤ r.start)=>couT_val (hW w) g0 g1
 generalize tabF r false = T0 at *
 generalize tabF r true = T1 at *
 refine zw (zk [2,4,7]) ?_
 simp only [go_sem]
 repeat refine zq ?_
 refine zb (by kernel_rfl) fun K hK=>?_
 simp only [go_sem]
 (try simp (disch:=omega) only [zI])
 refine zh (hrl) rfl (by simp only [go_sem,i64,ints]) (by simp only [go_sem,i64,ints]) (by first | exact .inl rfl | exact .inr rfl) ?_
 (try simp only [go_sem])
 (try simp (disch:=omega) only [zI])
 refine zh (hta) rfl (by simp only [go_sem,i64,ints]) (by simp only [go_sem,i64,ints]) (by first | exact .inl rfl | exact .inr rfl) ?_
 (try simp only [go_sem])
 (try simp (disch:=omega) only [zI])
 repeat first | intro _ | refine ⟨by omega,?_⟩ | refine ⟨⟨by omega,by omega⟩,?_⟩
 refine hK _ ?_
 clear hK K
 refine zw (zk [2,4,7,8,9,10]) ?_
 simp only [go_sem]
 repeat refine zq ?_
 refine zb (by kernel_rfl) fun K hK=>?_
 simp only [go_sem,hl0,hl1,bne_self_eq_false]
 (try simp (disch:=omega) only [zI])
 repeat first | intro _ | refine ⟨by omega,?_⟩ | refine ⟨⟨by omega,by omega⟩,?_⟩
 refine hK _ ?_
 clear hK K
 refine zw (zk [2,4,7,8,9,59]) ?_
 simp only [go_sem]
 repeat refine zq ?_
 refine zc rfl (fun hc=>?_) (fun hc=>?_) <;> (try simp only [go_sem] at hc)
 refine zx ?_
 try simp only [go_sem]
 repeat refine zq ?_
 refine zb (by kernel_rfl) fun K hK=>?_
 simp only [go_sem]
 (try simp (disch:=omega) only [zI])
 repeat first | intro _ | refine ⟨by omega,?_⟩ | refine ⟨⟨by omega,by omega⟩,?_⟩
 refine hK _ ?_
 clear hK K
 refine zw (zk [2,4,7,8,9,11]) ?_
 simp only [go_sem]
 repeat refine zq ?_
 refine zd ?_
 refine awp_uptoV (n:=225) r.ends.length (fun i vs=>[(2,.r (it8 at_)),(4,.r (.rp [u8L b0,u8L b1,u8L b2])),(7,.r (.rp (ruC r))),(8,.r (tabR T0)),(9,.r (tabR T1)),(11,.r (i64 (i : Int)))])
  (fun i vs=>[]) (fun _=>True) 0 (zj [] ?_ ?_) (Nat.zero_le _) trivial ?_
 · try simp only [go_sem]
 · try simp only [go_sem]
 · intro i vs hi _
   repeat refine zq ?_
   refine zb (by kernel_rfl) fun K hK=>?_
   simp only [go_sem]
   (try simp (disch:=omega) only [zI])
   repeat first | intro _ | refine ⟨by omega,?_⟩ | refine ⟨⟨by omega,by omega⟩,?_⟩
   refine hK _ ?_
   clear hK K
   refine zw (zk [2,4,7,8,9,11,64]) ?_
   simp only [go_sem]
   repeat refine zq ?_
   refine zc rfl (fun hc=>?_) (fun hc=>?_) <;> (try simp only [go_sem] at hc)
   · have hci : i < r.ends.length:=by omega
     obtain ⟨row0,hrow0⟩:=opt_of_lt (show i < T0.length by omega)
     obtain ⟨row1,hrow1⟩:=opt_of_lt (show i < T1.length by omega)
     have hn0:=hr0 i hci
     have hn1:=hr1 i hci
     rw [List.getD_eq_getElem?_getD,hrow0] at hn0
     rw [List.getD_eq_getElem?_getD,hrow1] at hn1
     simp only [Option.getD_some] at hn0 hn1
     have e0 : ((row0.length : Int) != r.start + 1) = false:=by simp only [bne_eq_false_iff_eq]; omega
     have e1' : ((row1.length : Int) != r.start + 1) = false:=by simp only [bne_eq_false_iff_eq]; omega
     have hil0 : i < T0.length:=by omega
     have hil1 : i < T1.length:=by omega
     refine zx ?_
     try simp only [go_sem]
     repeat refine zq ?_
     refine zd ?_
     repeat refine zq ?_
     refine zg follows (by decide +kernel) (by kernel_rfl) fun K hK=>?_
     simp only [go_sem,hrow0,hrow1,hil0,hil1,w4,e0,e1']
     (try simp (disch:=omega) only [zI])
     repeat first | intro _ | refine ⟨by omega,?_⟩ | refine ⟨⟨by omega,by omega⟩,?_⟩
     refine hK _ ?_
     clear hK K
     refine zw (zk [2,4,7,8,9,11,86]) ?_
     simp only [go_sem]
     repeat refine zq ?_
     refine zc rfl (fun hc=>?_) (fun hc=>?_) <;> (try simp only [go_sem] at hc)
     refine zx ?_
     try simp only [go_sem]
     repeat refine zq ?_
     refine zb (by kernel_rfl) fun K hK=>?_
     simp only [go_sem]
     (try simp (disch:=omega) only [zI])
     repeat first | intro _ | refine ⟨by omega,?_⟩ | refine ⟨⟨by omega,by omega⟩,?_⟩
     refine hK _ ?_
     clear hK K
     try simp only [go_sem]
     refine ⟨by omega,zj [] ?_ ?_⟩
     · try simp only [go_sem]
     · try simp only [go_sem]
   · refine zf ?_
     simp only [go_sem]
     refine zw (zk [2,4,7,8,9]) ?_
     simp only [go_sem]
     repeat refine zq ?_
     refine zb (by kernel_rfl) fun K hK=>?_
     simp only [go_sem]
     (try simp (disch:=omega) only [zI])
     repeat first | intro _ | refine ⟨by omega,?_⟩ | refine ⟨⟨by omega,by omega⟩,?_⟩
     refine hK _ ?_
     clear hK K
     refine zw (zk [2,4,7,8,9,12]) ?_
     simp only [go_sem]
     repeat refine zq ?_
     refine zd ?_
     refine awp_uptoV (n:=225) 2 (fun w vs=>[(2,.r (it8 at_)),(4,.r (.rp [u8L b0,u8L b1,u8L b2])),(7,.r (.rp (ruC r))),(8,.r (tabR T0)),(9,.r (tabR T1)),(12,.r (i64 (w : Int)))])
      (fun i vs=>[]) (fun _=>True) 0 (zj [] ?_ ?_) (Nat.zero_le _) trivial ?_
     · try simp only [go_sem]
     · try simp only [go_sem]
     · clear i hi hc
       intro w vs hw2 _
       repeat refine zq ?_
       refine zb (by kernel_rfl) fun K hK=>?_
       simp only [go_sem]
       (try simp (disch:=omega) only [zI])
       repeat first | intro _ | refine ⟨by omega,?_⟩ | refine ⟨⟨by omega,by omega⟩,?_⟩
       refine hK _ ?_
       clear hK K
       refine zw (zk [2,4,7,8,9,12,88]) ?_
       simp only [go_sem]
       repeat refine zq ?_
       refine zc rfl (fun hc=>?_) (fun hc=>?_) <;> (try simp only [go_sem] at hc)
       · have hcw : w < 2:=by omega
         obtain ⟨W,hWd⟩ : ∃ W,W = decide (w = 1):=⟨_,rfl⟩
         have hWe : ((w : Int) == 1) = W:=by rw [hWd,Bool.eq_iff_iff]; simp; omega
         refine zx ?_
         try simp only [go_sem]
         repeat refine zq ?_
         refine zd ?_
         repeat refine zq ?_
         refine zb (by kernel_rfl) fun K hK=>?_
         simp only [go_sem,hWe]
         (try simp (disch:=omega) only [zI])
         repeat first | intro _ | refine ⟨by omega,?_⟩ | refine ⟨⟨by omega,by omega⟩,?_⟩
         refine hK _ ?_
         clear hK K
         refine zw (zk [2,4,7,8,9,12,13]) ?_
         simp only [go_sem]
         repeat refine zq ?_
         refine zb (by kernel_rfl) fun K hK=>?_
         simp only [go_sem]
         (try simp (disch:=omega) only [zI])
         repeat first | intro _ | refine ⟨by omega,?_⟩ | refine ⟨⟨by omega,by omega⟩,?_⟩
         refine hK _ ?_
         clear hK K
         refine zw (zk [2,4,7,8,9,12,13,14]) ?_
         simp only [go_sem]
         refine zw (sub_ownB 98 5 125 46 1 (by omega) (by omega) rfl (by simp only [go_sem,List.getElem?_cons_succ,List.getElem?_cons_zero])) ?_
         try simp only [go_sem]
         repeat refine zq ?_
         refine zd ?_
         refine awp_uptoV (n:=225) r.aims.length (fun i vs=>[(2,.r (it8 at_)),(4,.r (.rp [u8L b0,u8L b1,u8L b2])),(7,.r (.rp (ruC r))),(8,.r (tabR T0)),(9,.r (tabR T1)),(12,.r (i64 (w : Int))),(13,.pt 98 (vs 98) 0),(14,.r (i64 (i : Int)))])
          (fun i vs=>[(96,.mp []),(98,.box [.r (i64 r.d),.r (aimsR r.aims),.r (i64 r.start),.r (i64 r.out),.r (spansR r.ends),.os 125 (vs 125) 1 0 i,.r .ns,.r (u8L b1),.r (.bo W),.r (.bo false),.mp 96 (vs 96)]),(125,.arr 46 1 (((xsT r b0).take i).map fun row=>[ints row]))]) (fun _=>True) 0 (zj [] ?_ ?_) (Nat.zero_le _) trivial ?_
         · try simp only [go_sem]
         · try simp only [go_sem]
         · intro i vs hi _
           repeat refine zq ?_
           refine zb (by kernel_rfl) fun K hK=>?_
           simp only [go_sem]
           (try simp (disch:=omega) only [zI])
           repeat first | intro _ | refine ⟨by omega,?_⟩ | refine ⟨⟨by omega,by omega⟩,?_⟩
           refine hK _ ?_
           clear hK K
           refine zw (zk [2,4,7,8,9,12,13,14,104]) ?_
           simp only [go_sem]
           repeat refine zq ?_
           refine zc rfl (fun hc=>?_) (fun hc=>?_) <;> (try simp only [go_sem] at hc)
           · have hci : i < r.aims.length:=by omega
             obtain ⟨a,hai⟩:=opt_of_lt hci
             obtain ⟨g1,g2,g3⟩:=hG.aims.beds a (mem_of_opt hai)
             have htr:=truthL_ok a r.d b0 h0 g2 hG.aims.den1 g1 fun c hc=>(g3 c hc).2
             simp only [aimR] at htr
             have hli : ((xsT r b0).take i).length = i:=by rw [List.length_take]; simp [xsT]; omega
             have htk : (xsT r b0).take (i + 1) = (xsT r b0).take i ++ [truthL a.beds r.d b0]:=take_of_opt (by simp [xsT,hai])
             refine zx ?_
             try simp only [go_sem]
             repeat refine zq ?_
             refine zd ?_
             repeat refine zq ?_
             refine awp_dreg3 [(13,some 98),(7,none),(4,none),(14,none)] [98] follows (by decide +kernel) (by kernel_rfl) (by simp only [keysOk,List.mem_cons,List.not_mem_nil,forall_eq_or_imp,Oc.keyOf,go_sem]; simp) (by intro k hk; simp only [List.mem_cons,List.not_mem_nil,or_false] at hk; first | (subst hk; exact ⟨_,rfl⟩) | (rcases hk with rfl | rfl <;> exact ⟨_,rfl⟩) | (rcases hk with rfl | rfl | rfl <;> exact ⟨_,rfl⟩)) fun K hK=>?_
             simp only [go_sem,hai,hci,hli,aimR]
             (try simp (disch:=omega) only [zI])
             refine zh (htr) rfl (by simp only [go_sem,i64,ints,hai,hci,hli,aimR]) (by simp only [go_sem,i64,ints,hai,hci,hli,aimR]) (by first | exact .inl rfl | exact .inr rfl) ?_
             (try simp only [go_sem,hai,hci,hli,aimR])
             (try simp (disch:=omega) only [zI])
             repeat first | intro _ | refine ⟨by omega,?_⟩ | refine ⟨⟨by omega,by omega⟩,?_⟩
             refine hK _ ?_
             clear hK K
             refine zw (zk [2,4,7,8,9,12,13,14]) ?_
             simp only [go_sem]
             repeat refine zq ?_
             refine zb (by kernel_rfl) fun K hK=>?_
             simp only [go_sem]
             (try simp (disch:=omega) only [zI])
             repeat first | intro _ | refine ⟨by omega,?_⟩ | refine ⟨⟨by omega,by omega⟩,?_⟩
             refine hK _ ?_
             clear hK K
             try simp only [go_sem]
             refine ⟨by omega,zj [] ?_ ?_⟩
             · try simp only [go_sem]
             · try simp only [go_sem]
               rw [htk]
               simp
           · have hie : i = r.aims.length:=by omega
             subst hie
             have hxl : (xsT r b0).length = r.aims.length:=by simp [xsT]
             have htkx : (xsT r b0).take r.aims.length = xsT r b0:=List.take_of_length_le (by omega)
             rw [htkx]
             refine zf ?_
             simp only [go_sem]
             refine zw (sub_frzB 98 5 125 (ty:=46) (sz:=1) (off:=0) (m:=r.aims.length) (es:=(xsT r b0).map fun row=>[ints row]) (by omega) (by omega) rfl (by simp only [go_sem,List.getElem?_cons_succ,List.getElem?_cons_zero]) (by rfl) (by simp [hxl])) ?_
             have e2 : (((xsT r b0).map fun row=>[ints row]).drop 0).take r.aims.length = (xsT r b0).map fun row=>[ints row]:=by
              rw [List.drop_zero,List.take_of_length_le (by simp [hxl])]
             rw [e2]
             refine zw (zk [2,4,7,8,9,12,13]) ?_
             simp only [go_sem]
             repeat refine zq ?_
             refine zb (by kernel_rfl) fun K hK=>?_
             simp only [go_sem]
             (try simp (disch:=omega) only [zI])
             repeat first | intro _ | refine ⟨by omega,?_⟩ | refine ⟨⟨by omega,by omega⟩,?_⟩
             refine hK _ ?_
             clear hK K
             refine zw (zk [2,4,7,8,9,12,13,15]) ?_
             simp only [go_sem]
             refine zw (sub_ownB 98 6 178 3 1 (by omega) (by omega) rfl (by simp only [go_sem,List.getElem?_cons_succ,List.getElem?_cons_zero])) ?_
             try simp only [go_sem]
             repeat refine zq ?_
             refine zd ?_
             refine awp_uptoV (n:=225) r.ends.length (fun k vs=>[(2,.r (it8 at_)),(4,.r (.rp [u8L b0,u8L b1,u8L b2])),(7,.r (.rp (ruC r))),(8,.r (tabR T0)),(9,.r (tabR T1)),(12,.r (i64 (w : Int))),(13,.pt 98 (vs 98) 0),(15,.r (i64 (k : Int)))])
              (fun k vs=>[(96,.mp []),(98,.box [.r (i64 r.d),.r (aimsR r.aims),.r (i64 r.start),.r (i64 r.out),.r (spansR r.ends),.r (tabR (xsT r b0)),.os 178 (vs 178) 1 0 k,.r (u8L b1),.r (.bo W),.r (.bo false),.mp 96 (vs 96)]),(178,.arr 3 1 (((esT r b2).take k).map fun x=>[i64 x]))]) (fun _=>True) 0 (zj [] ?_ ?_) (Nat.zero_le _) trivial ?_
             · try simp only [go_sem]
             · try simp only [go_sem]
             · clear hi hc
               intro k vs hk _
               repeat refine zq ?_
               refine zb (by kernel_rfl) fun K hK=>?_
               simp only [go_sem]
               (try simp (disch:=omega) only [zI])
               repeat first | intro _ | refine ⟨by omega,?_⟩ | refine ⟨⟨by omega,by omega⟩,?_⟩
               refine hK _ ?_
               clear hK K
               refine zw (zk [2,4,7,8,9,12,13,15,132]) ?_
               simp only [go_sem]
               repeat refine zq ?_
               refine zc rfl (fun hc=>?_) (fun hc=>?_) <;> (try simp only [go_sem] at hc)
               · have hck : k < r.ends.length:=by omega
                 obtain ⟨e,hek⟩:=opt_of_lt hck
                 obtain ⟨g1,g2,g3⟩:=endOk_le (hG.ends e (mem_of_opt hek))
                 obtain ⟨n0,n1⟩:=nT_le h2 k
                 have hed : r.ends.getD k (0,0) = e:=by simp [List.getD_eq_getElem?_getD,hek]
                 have hlk : ((esT r b2).take k).length = k:=by rw [List.length_take]; simp [esT]; omega
                 have htk : (esT r b2).take (k + 1) = (esT r b2).take k ++ [endT b2 k e]:=take_of_opt (by rw [esT,List.getElem?_map,List.getElem?_range hck]; simp only [Option.map_some,hed])
                 refine zx ?_
                 try simp only [go_sem]
                 repeat refine zq ?_
                 refine zd ?_
                 repeat refine zq ?_
                 refine zb (by kernel_rfl) fun K hK=>?_
                 simp only [go_sem]
                 (try simp (disch:=omega) only [zI])
                 repeat first | intro _ | refine ⟨by omega,?_⟩ | refine ⟨⟨by omega,by omega⟩,?_⟩
                 refine hK _ ?_
                 clear hK K
                 refine zw (zk [2,4,7,8,9,12,13,15,16]) ?_
                 simp only [go_sem]
                 repeat refine zq ?_
                 refine zb (by kernel_rfl) fun K hK=>?_
                 simp only [go_sem]
                 (try simp (disch:=omega) only [zI])
                 repeat first | intro _ | refine ⟨by omega,?_⟩ | refine ⟨⟨by omega,by omega⟩,?_⟩
                 refine hK _ ?_
                 clear hK K
                 refine zw (zk [2,4,7,8,9,12,13,15,16,138]) ?_
                 simp only [go_sem]
                 repeat refine zq ?_
                 refine awp_joinV (n:=225) (fun (_ : Unit) vs=>[(2,.r (it8 at_)),(4,.r (.rp [u8L b0,u8L b1,u8L b2])),(7,.r (.rp (ruC r))),(8,.r (tabR T0)),(9,.r (tabR T1)),(12,.r (i64 (w : Int))),(13,.pt 98 (vs 98) 0),(15,.r (i64 (k : Int))),(16,.r (i64 (nT b2 k)))]) (fun _ vs=>[(96,.mp []),(98,.box [.r (i64 r.d),.r (aimsR r.aims),.r (i64 r.start),.r (i64 r.out),.r (spansR r.ends),.r (tabR (xsT r b0)),.os 178 (vs 178) 1 0 k,.r (u8L b1),.r (.bo W),.r (.bo false),.mp 96 (vs 96)]),(178,.arr 3 1 (((esT r b2).take k).map fun x=>[i64 x]))]) (fun _=>True) (fun _ h=>h) ?_ ?_
                 · repeat refine zq ?_
                   refine zc rfl (fun hc=>?_) (fun hc=>?_) <;> (try simp only [go_sem] at hc)
                   · have hbl : 0 < b2.length:=by omega
                     have hlt8:=Nat.mod_lt k hbl
                     obtain ⟨q,hq⟩:=opt_of_lt hlt8
                     have hqq:=h2 q (mem_of_opt hq)
                     have hqd : nT b2 k = q:=by unfold nT; rw [if_neg (by omega)]; simp [List.getD_eq_getElem?_getD,hq]
                     have hmod : (k : Int).tmod (b2.length : Int) = ((k % b2.length : Nat) : Int):=by
                      rw [Int.tmod_eq_emod_of_nonneg (by omega)]; simp
                     repeat refine zq ?_
                     refine zg follows (by decide +kernel) (by kernel_rfl) fun K hK=>?_
                     simp only [go_sem,hmod,hq,hlt8]
                     (try simp (disch:=omega) only [zI])
                     try simp only [go_sem,hmod,hq,hlt8,Int.toNat_natCast,List.headD_cons,List.length_cons,List.length_nil]
                     try simp (disch:=omega) only [zI]
                     try simp only [go_sem,hmod,hq,hlt8,Int.toNat_natCast,List.headD_cons,List.length_cons,List.length_nil]
                     repeat first | intro _ | refine ⟨by omega,?_⟩ | refine ⟨⟨by omega,by omega⟩,?_⟩
                     refine hK _ ?_
                     clear hK K
                     refine ⟨(),trivial,zj [] ?_ ?_⟩
                     · try simp only [go_sem]
                       rw [hqd]
                     · try simp only [go_sem]
                   · have hbl : b2.length = 0:=by omega
                     have hqd : nT b2 k = 0:=by unfold nT; rw [if_pos hbl]
                     refine zx ?_
                     try simp only [go_sem]
                     refine ⟨(),zj [] ?_ ?_⟩
                     · try simp only [go_sem]
                       rw [hqd]
                     · try simp only [go_sem]
                 intro _ vs _
                 have m0:=Int.mul_nonneg (show 0 ≤ e.2 - e.1 by omega) n0
                 have m1:=Int.mul_le_mul (show e.2 - e.1 ≤ 1000000 by omega) n1 n0 (by omega)
                 have v1 : IntKind.i64.wrap ((e.2 - e.1) * nT b2 k) = (e.2 - e.1) * nT b2 k:=by rw [zI] <;> omega
                 have v2 : ((e.2 - e.1) * nT b2 k).tdiv 255 = (e.2 - e.1) * nT b2 k / 255:=Int.tdiv_eq_ediv_of_nonneg m0
                 repeat refine zq ?_
                 refine awp_dreg3 [(13,some 98),(7,none),(4,none),(15,none),(16,none)] [98] follows (by decide +kernel) (by kernel_rfl) (by simp only [keysOk,List.mem_cons,List.not_mem_nil,forall_eq_or_imp,Oc.keyOf,go_sem]; simp) (by intro k hk; simp only [List.mem_cons,List.not_mem_nil,or_false] at hk; first | (subst hk; exact ⟨_,rfl⟩) | (rcases hk with rfl | rfl <;> exact ⟨_,rfl⟩) | (rcases hk with rfl | rfl | rfl <;> exact ⟨_,rfl⟩)) fun K hK=>?_
                 simp only [go_sem,hek,hck,spanR,hlk]
                 (try simp (disch:=omega) only [zI])
                 try simp only [go_sem,v1,v2]
                 try simp (disch:=omega) only [zI]
                 try simp only [go_sem,v1,v2]
                 try simp (disch:=omega) only [zI]
                 repeat first | intro _ | refine ⟨by omega,?_⟩ | refine ⟨⟨by omega,by omega⟩,?_⟩
                 refine hK _ ?_
                 clear hK K
                 refine zw (zk [2,4,7,8,9,12,13,15]) ?_
                 simp only [go_sem]
                 repeat refine zq ?_
                 refine zb (by kernel_rfl) fun K hK=>?_
                 simp only [go_sem]
                 (try simp (disch:=omega) only [zI])
                 repeat first | intro _ | refine ⟨by omega,?_⟩ | refine ⟨⟨by omega,by omega⟩,?_⟩
                 refine hK _ ?_
                 clear hK K
                 try simp only [go_sem]
                 refine ⟨by omega,zj [] ?_ ?_⟩
                 · try simp only [go_sem]
                 · try simp only [go_sem]
                   rw [htk]
                   simp [endT]
               · have hke : k = r.ends.length:=by omega
                 subst hke
                 have hxe : (esT r b2).length = r.ends.length:=by simp [esT]
                 have htke : (esT r b2).take r.ends.length = esT r b2:=List.take_of_length_le (by omega)
                 rw [htke]
                 refine zf ?_
                 simp only [go_sem]
                 refine zw (sub_frzB 98 6 178 (ty:=3) (sz:=1) (off:=0) (m:=r.ends.length) (es:=(esT r b2).map fun x=>[i64 x]) (by omega) (by omega) rfl (by simp only [go_sem,List.getElem?_cons_succ,List.getElem?_cons_zero]) (by rfl) (by simp [hxe])) ?_
                 have e3 : (((esT r b2).map fun x=>[i64 x]).drop 0).take r.ends.length = (esT r b2).map fun x=>[i64 x]:=by
                  rw [List.drop_zero,List.take_of_length_le (by simp [hxe])]
                 rw [e3]
                 refine zw (zk [2,4,7,8,9,12,13]) ?_
                 simp only [go_sem]
                 obtain ⟨sp,hsp⟩ : ∃ sp : Nat,2 + at_ % (r.start - 1) = (sp : Int):=⟨_,(Int.toNat_of_nonneg (by have:=Int.emod_nonneg at_ (show r.start - 1 ≠ 0 by omega); omega)).symm⟩
                 have z2 : 0 ≤ at_ % (r.start - 1) ∧ at_ % (r.start - 1) < r.start - 1:=⟨Int.emod_nonneg _ (by omega),Int.emod_lt_of_pos _ (by omega)⟩
                 have t2 : at_.tmod (r.start - 1) = (sp : Int) - 2:=by rw [Int.tmod_eq_emod_of_nonneg ha.1]; omega
                 have n2 : (r.start - 1 == 0) = false:=beq_eq_false_iff_ne.2 (by omega)
                 have w2 : IntKind.i64.wrap (r.start - 1) = r.start - 1:=by rw [zI] <;> omega
                 have w3 : IntKind.i64.wrap (2 + ((sp : Int) - 2)) = sp:=by rw [zI] <;> omega
                 have q2 : IntKind.i64.wrap at_ = at_:=by rw [zI] <;> omega
                 have w5 : IntKind.i64.wrap ((sp : Int) - 2) = (sp : Int) - 2:=by rw [zI] <;> omega
                 repeat refine zq ?_
                 refine zb (by kernel_rfl) fun K hK=>?_
                 simp only [go_sem,q2,w2,n2,t2,w5,w3]
                 (try simp (disch:=omega) only [zI])
                 try simp only [go_sem,q2,w2,n2,t2,w5,w3]
                 repeat first | intro _ | refine ⟨by omega,?_⟩ | refine ⟨⟨by omega,by omega⟩,?_⟩
                 refine hK _ ?_
                 clear hK K
                 refine zw (zk [2,4,7,8,9,12,13,17]) ?_
                 simp only [go_sem]
                 obtain ⟨hvc,hv1,hv2⟩:=hval W sp (by omega) (by omega)
                 generalize hcv : cvA (couT r b0 b1 b2 W) 0 sp sp 3 = cv at hvc hv1 hv2
                 obtain ⟨row0,hrow0⟩:=opt_of_lt (show 0 < T0.length by omega)
                 obtain ⟨row1,hrow1⟩:=opt_of_lt (show 0 < T1.length by omega)
                 have hn0:=hr0 0 (by omega)
                 have hn1:=hr1 0 (by omega)
                 have hT0 : T0.getD 0 [] = row0:=by simp [List.getD_eq_getElem?_getD,hrow0]
                 have hT1 : T1.getD 0 [] = row1:=by simp [List.getD_eq_getElem?_getD,hrow1]
                 rw [hT0] at hn0 hv2
                 rw [hT1] at hn1 hv1
                 obtain ⟨V0,hV0⟩:=opt_of_lt (show sp < row0.length by omega)
                 obtain ⟨V1,hV1⟩:=opt_of_lt (show sp < row1.length by omega)
                 have hV0d : row0.getD sp 0 = V0:=by simp [List.getD_eq_getElem?_getD,hV0]
                 have hV1d : row1.getD sp 0 = V1:=by simp [List.getD_eq_getElem?_getD,hV1]
                 rw [hV0d] at hv2
                 rw [hV1d] at hv1
                 have i0 : 0 < T0.length:=by omega
                 have i1 : 0 < T1.length:=by omega
                 have j0 : sp < row0.length:=by omega
                 have j1 : sp < row1.length:=by omega
                 refine zw (sub_shutM (memoC (couT r b0 b1 b2 W)) 96 (by rfl) (fun e he=>by cases he)) ?_
                 try simp only [go_sem]
                 repeat refine zq ?_
                 refine zb (by kernel_rfl) fun K hK=>?_
                 simp only [go_sem]
                 (try simp (disch:=omega) only [zI])
                 refine xcall_mut (mcalls_ag hvc) [(1000,98),(1001,96)] rfl (by simp only [go_sem,i64,ints,couT]) (by simp only [go_sem,i64,ints,couT]) (by rfl) (by rfl) ?_
                 (try simp only [go_sem,couT])
                 (try simp (disch:=omega) only [zI])
                 repeat first | intro _ | refine ⟨by omega,?_⟩ | refine ⟨⟨by omega,by omega⟩,?_⟩
                 refine hK _ ?_
                 clear hK K
                 refine zw (zk [2,4,7,8,9,12,13,17,18,19]) ?_
                 simp only [go_sem]
                 have d1 : decide (V1 < cv.1) = false:=by simp; omega
                 have d1' : ¬ V1 < cv.1:=by omega
                 cases W with
                 | false =>
                   repeat refine zq ?_
                   refine zb (by kernel_rfl) fun K hK=>?_
                   simp only [go_sem,hWe,hrow0,hrow1,hV0,hV1,d1,d1',i0,i1,j0,j1]
                   (try simp (disch:=omega) only [zI])
                   repeat first | intro _ | refine ⟨by omega,?_⟩ | refine ⟨⟨by omega,by omega⟩,?_⟩
                   refine hK _ ?_
                   clear hK K
                   refine zw (zk [2,4,7,8,9,12,223]) ?_
                   simp only [go_sem]
                   repeat refine zq ?_
                   refine zc rfl (fun hc=>?_) (fun hc=>?_) <;> (try simp only [go_sem] at hc)
                   refine zx ?_
                   try simp only [go_sem]
                   repeat refine zq ?_
                   refine zb (by kernel_rfl) fun K hK=>?_
                   simp only [go_sem]
                   (try simp (disch:=omega) only [zI])
                   repeat first | intro _ | refine ⟨by omega,?_⟩ | refine ⟨⟨by omega,by omega⟩,?_⟩
                   refine hK _ ?_
                   clear hK K
                   try simp only [go_sem]
                   refine ⟨by omega,zj [96,98] ?_ ?_⟩
                   · try simp only [go_sem]
                   · try simp only [go_sem]
                 | true =>
                   have hv2':=hv2 rfl
                   have d2 : decide (cv.2 < V0) = false:=by simp; omega
                   have d2' : ¬ cv.2 < V0:=by omega
                   repeat refine zq ?_
                   refine zb (by kernel_rfl) fun K hK=>?_
                   simp only [go_sem,hWe,hrow0,hrow1,hV0,hV1,d1,d1',d2,d2',i0,i1,j0,j1]
                   (try simp (disch:=omega) only [zI])
                   repeat first | intro _ | refine ⟨by omega,?_⟩ | refine ⟨⟨by omega,by omega⟩,?_⟩
                   refine hK _ ?_
                   clear hK K
                   refine zw (zk [2,4,7,8,9,12,223]) ?_
                   simp only [go_sem]
                   repeat refine zq ?_
                   refine zc rfl (fun hc=>?_) (fun hc=>?_) <;> (try simp only [go_sem] at hc)
                   refine zx ?_
                   try simp only [go_sem]
                   repeat refine zq ?_
                   refine zb (by kernel_rfl) fun K hK=>?_
                   simp only [go_sem]
                   (try simp (disch:=omega) only [zI])
                   repeat first | intro _ | refine ⟨by omega,?_⟩ | refine ⟨⟨by omega,by omega⟩,?_⟩
                   refine hK _ ?_
                   clear hK K
                   try simp only [go_sem]
                   refine ⟨by omega,zj [96,98] ?_ ?_⟩
                   · try simp only [go_sem]
                   · try simp only [go_sem]
       · refine zf ?_
         simp only [go_sem]
         repeat refine zq ?_
         refine zb (by kernel_rfl) fun K hK=>?_
         simp only [go_sem]
         (try simp (disch:=omega) only [zI])
         refine zh (hkn) rfl (by simp only [go_sem,i64,ints]) (by simp only [go_sem,i64,ints]) (by first | exact .inl rfl | exact .inr rfl) ?_
         (try simp only [go_sem])
         (try simp (disch:=omega) only [zI])
         repeat first | intro _ | refine ⟨by omega,?_⟩ | refine ⟨⟨by omega,by omega⟩,?_⟩
         refine hK _ ?_
         clear hK K
         refine zw (zk [6]) ?_
         simp only [go_sem]
         refine ze ?_
         simp only [go_sem]
end Go.Proofs.Ytlbfkhikmigpbaa

namespace Go.Oc
open Go Go.RowKit Go.ChangeShapes Go.WideShapes
inductive Sh where
 | int (k : IntKind)
 | bool
 | sl (es : List Sh)
def fieldsSh (P : Program) (sh : TypeId → Option (List Sh)) : List Field → Nat → Option (List Sh)
 | [],_=>some []
 | f :: fs, o =>
   match sh f.type with
   | some ss=>if f.offset == o && ss.length == P.cellsOf f.type then match fieldsSh P sh fs (o + ss.length) with | some q=>some (ss ++ q) | none=>none else none
   | none=>none
def shape (P : Program) : Nat → TypeId → Option (List Sh)
 | 0,_=>none
 | n + 1, t =>
   match P.underlying t with
   | some (.int k)=>some [.int k]
   | some .bool=>some [.bool]
   | some (.slice e) =>
     match shape P n e with
     | some ss=>if ss.length == P.cellsOf e && decide (0 < ss.length) then some [.sl ss] else none
     | none=>none
   | some (.array m e) =>
     match shape P n e with
     | some ss=>if ss.length == P.cellsOf e && P.cellsOf t == m * ss.length then some (List.replicate m ss).flatten else none
     | none=>none
   | some (.struct fs) =>
     match fieldsSh P (shape P n) fs.toList 0 with
     | some ss=>if ss.length == P.cellsOf t then some ss else none
     | none=>none
   | _=>none
mutual
def Fits : Sh → RV → Prop
 | .int k,x=>∃ n,x = .it k n ∧ (Lit.int k n).wf = true
 | .bool,x=>∃ b,x = .bo b
 | .sl ss,x=>∃ es,x = .sl ss.length es ∧ FitsE ss es
def FitsL : List Sh → List RV → Prop
 | [],xs=>xs = []
 | s :: ss,xs=>∃ y ys,xs = y :: ys ∧ Fits s y ∧ FitsL ss ys
def FitsE (ss : List Sh) : List (List RV) → Prop
 | []=>True
 | e :: es=>FitsL ss e ∧ FitsE ss es
end
theorem fitsL_append : ∀ {s1 s2 : List Sh} {x1 x2 : List RV},FitsL s1 x1 → FitsL s2 x2 → FitsL (s1 ++ s2) (x1 ++ x2)
 | [],_,_,_,h1,h2=>by simp only [FitsL] at h1; subst h1; simpa using h2
 | s :: ss, s2, x1, x2, h1, h2 => by
   simp only [FitsL] at h1
   obtain ⟨y,ys,rfl,h3,h4⟩:=h1
   simp only [List.cons_append,FitsL]
   exact ⟨y,_,rfl,h3,fitsL_append h4 h2⟩
theorem fitsL_length : ∀ {ss : List Sh} {xs : List RV},FitsL ss xs → xs.length = ss.length
 | [],_,h=>by simp only [FitsL] at h; subst h; rfl
 | s :: ss, _, h => by
   simp only [FitsL] at h
   obtain ⟨y,ys,rfl,_,h⟩:=h
   simp [fitsL_length h]
theorem fitsE_of : ∀ {ss : List Sh} {es : List (List RV)},(∀ e ∈ es,FitsL ss e) → FitsE ss es
 | _,[],_=>by simp only [FitsE]
 | ss,e :: es,h=>by simp only [FitsE]; exact ⟨h e (by simp),fitsE_of fun x hx=>h x (by simp [hx])⟩
theorem choice {α : Type} {Q : Nat → α → Prop} : ∀ (n : Nat),(∀ i,i < n → ∃ x,Q i x) → ∃ xs : List α,xs.length = n ∧ ∀ i x,xs[i]? = some x → Q i x
 | 0,_=>⟨[],rfl,by simp⟩
 | n + 1, h => by
   obtain ⟨xs,hl,hx⟩:=choice n fun i hi=>h i (by omega)
   obtain ⟨y,hy⟩:=h n (by omega)
   refine ⟨xs ++ [y],by simp [hl],fun i x hi=>?_⟩
   by_cases h1 : i < n
   · rw [List.getElem?_append_left (by omega)] at hi; exact hx i x hi
   · rw [List.getElem?_append_right (by omega)] at hi
     have : i = n:=by have:=(List.getElem?_eq_some_iff.1 hi).1; simp at this; omega
     subst this
     simp [hl] at hi
     exact hi ▸ hy
section
variable {w : World} {P : Program}
theorem cells?_get {base n : Nat} {a : Addr} {cs : List Value} (h : w.cells? base a n = some cs) : cs.length = n ∧ ∀ i,i < n → w.cell? (a.add i) = cs[i]?:=by
 unfold World.cells? at h
 split at h
 · exact ⟨by simpa using mapM_some_length h,fun i hi=>mapM_some_get h i i (by simp [hi])⟩
 · cases h
theorem cell_lt {a : Addr} {v : Value} (h : w.cell? a = some v) : a.block < w.heap.size:=by
 refine Decidable.byContradiction fun hn=>?_
 have : w.heap[a.block]? = none:=by simp; omega
 simp [World.cell?,this] at h
def old (w : World) : Nat → Prop:=fun b=>b < w.heap.size
theorem relC_of_cells {xs : List RV} {cs : List Value} {ad : Addr} (hV : RV.relV w (old w) xs cs) (hone : ∀ u ∈ cs,u.oneCell' = true) (hc : ∀ i,i < cs.length → w.cell? (ad.add i) = cs[i]?) : RV.relC w (old w) xs ad 0:=by
 refine RV.relC_of_get fun i x hx=>?_
 obtain ⟨u,hu,hr⟩:=RV.relV_get hV hx
 have hi:=(List.getElem?_eq_some_iff.1 hu).1
 refine ⟨u,?_,hone u (List.mem_of_getElem? hu),hr⟩
 rw [Nat.zero_add,hc i hi,hu]
variable {H : Type} {enc : TypeId × Value → H} {base : Nat} {spare : Nat → Bool} {held : Bool}
def Good3 (w : World) (ss : List Sh) (cs : List Value) : Prop:=∃ xs,FitsL ss xs ∧ RV.relV w (old w) xs cs ∧ ∀ u ∈ cs,u.oneCell' = true
theorem good3_append {s1 s2 : List Sh} {c1 c2 : List Value} (h1 : Good3 w s1 c1) (h2 : Good3 w s2 c2) : Good3 w (s1 ++ s2) (c1 ++ c2):=by
 obtain ⟨x1,f1,r1,o1⟩:=h1
 obtain ⟨x2,f2,r2,o2⟩:=h2
 refine ⟨x1 ++ x2,fitsL_append f1 f2,RV.relV_append r1 r2,fun u hu=>?_⟩
 rcases List.mem_append.1 hu with hu | hu
 · exact o1 u hu
 · exact o2 u hu
theorem good3_length {ss : List Sh} {cs : List Value} (h : Good3 w ss cs) : cs.length = ss.length:=by
 obtain ⟨xs,f,r,_⟩:=h
 rw [RV.relV_length r,fitsL_length f]
theorem trod_fits : ∀ (fuel n : Nat) (t : TypeId) (cs : List Value) (x : DataW H × List MemPlace) (ss : List Sh),DataW.trod enc P w base spare held fuel t cs = some x → shape P n t = some ss → Good3 w ss cs:=by
 intro fuel
 induction fuel with
 | zero=>intro n t cs x ss h; simp [DataW.trod] at h
 | succ fuel ih =>
   intro n t cs x ss h hs
   cases n with
   | zero=>simp [shape] at hs
   | succ n =>
     unfold shape at hs
     split at hs
     · rename_i k ht
       injection hs with hs; subst hs
       obtain ⟨m,rfl,_,hw⟩:=DataW.trod_int ht h
       exact ⟨[.it k m],by simp only [FitsL,Fits]; exact ⟨_,[],rfl,⟨m,rfl,hw⟩,rfl⟩,by simp only [RV.relV,RV.rel]; exact ⟨_,[],rfl,rfl,rfl⟩,by simp [Value.oneCell']⟩
     · rename_i ht
       injection hs with hs; subst hs
       obtain ⟨b,rfl,_⟩:=DataW.trod_bool ht h
       exact ⟨[.bo b],by simp only [FitsL,Fits]; exact ⟨_,[],rfl,⟨b,rfl⟩,rfl⟩,by simp only [RV.relV,RV.rel]; exact ⟨_,[],rfl,rfl,rfl⟩,by simp [Value.oneCell']⟩
     · rename_i e ht
       split at hs
       · rename_i es hes
         split at hs
         · rename_i hc
           simp only [Bool.and_eq_true,beq_iff_eq,decide_eq_true_eq] at hc
           injection hs with hs; subst hs
           rcases DataW.trod_slice ht h with ⟨rfl,_⟩ | ⟨a,len,cap,elems,rest,m,hm,rfl,_,_,hlc,hcm,hel,hget,_⟩
           · refine ⟨[.sl es.length []],?_,?_,by simp [Value.oneCell']⟩
             · simp only [FitsL,Fits]
               exact ⟨_,[],rfl,⟨[],rfl,by simp only [FitsE]⟩,rfl⟩
             · simp only [RV.relV,RV.rel]
               exact ⟨_,[],rfl,⟨none,0,rfl,Nat.le_refl _,Nat.zero_le _,fun h=>absurd rfl h⟩,rfl⟩
           · injection hm with hm; subst hm
             have hall : ∀ i,i < len → ∃ e',FitsL es e' ∧ e'.length = es.length ∧ RV.relC w (old w) e' (a.add (i * es.length)) 0 ∧ a.block < w.heap.size:=fun i hi=>by
              have h1:=hget i hi
              have h2 : i < elems.length:=by omega
              rw [List.getElem?_eq_getElem h2] at h1
              obtain ⟨ci,hci,htr⟩:=Option.bind_eq_some_iff.1 h1
              rw [← hc.1] at hci
              obtain ⟨hl,hcell⟩:=cells?_get hci
              obtain ⟨xs,f,r,o⟩:=ih n e ci _ es htr hes
              refine ⟨xs,f,fitsL_length f,relC_of_cells r o (fun j hj=>hcell j (by omega)),?_⟩
              have h3:=hcell 0 hc.2
              have h4 : 0 < ci.length:=by omega
              rw [List.getElem?_eq_getElem h4] at h3
              have:=cell_lt h3
              rwa [block_add,block_add] at this
             obtain ⟨els,hlen,hels⟩:=choice len hall
             refine ⟨[.sl es.length els],?_,?_,by simp [Value.oneCell']⟩
             · simp only [FitsL,Fits]
               refine ⟨_,[],rfl,⟨els,rfl,fitsE_of fun e' he'=>?_⟩,rfl⟩
               obtain ⟨i,hi⟩:=List.getElem?_of_mem he'
               exact (hels i e' hi).1
             · simp only [RV.relV,RV.rel]
               refine ⟨_,[],rfl,⟨some a,cap,by rw [hlen],by omega,hcm,fun hne=>?_⟩,rfl⟩
               obtain ⟨e0,he0⟩ : ∃ e0,els[0]? = some e0:=by
                cases els with
                | nil=>exact absurd rfl hne
                | cons a l=>exact ⟨a,rfl⟩
               refine ⟨a,rfl,(hels 0 e0 he0).2.2.2,RV.relE_of_get fun i e' he'=>?_⟩
               obtain ⟨_,q1,q2,_⟩:=hels i e' he'
               exact ⟨q1,RV.relC_unbase _ q2⟩
         · cases hs
       · cases hs
     · rename_i m e ht
       split at hs
       · rename_i es hes
         split at hs
         · rename_i hc
           simp only [Bool.and_eq_true,beq_iff_eq] at hc
           injection hs with hs; subst hs
           obtain ⟨xs,fm,hm,_,hcl,hxl,hget⟩:=DataW.trod_array ht h
           injection hm with hm; subst hm
           have key : ∀ j,j ≤ m → Good3 w (List.replicate j es).flatten (cs.take (j * es.length)):=by
            intro j
            induction j with
            | zero=>intro _; exact ⟨[],by simp [FitsL],by simp [RV.relV],by simp⟩
            | succ j ihj =>
              intro hj
              have h1:=hget j (by omega)
              have h2 : j < xs.length:=by omega
              rw [List.getElem?_eq_getElem h2,← hc.1] at h1
              have h3:=ih n e _ _ es h1 hes
              have:=good3_append (ihj (by omega)) h3
              rw [← List.take_add] at this
              rw [List.replicate_succ',List.flatten_append,Nat.add_mul]
              simpa using this
           have:=key m (Nat.le_refl _)
           rwa [← hc.2,← hcl,List.take_length] at this
         · cases hs
       · cases hs
     · rename_i fs ht
       split at hs
       · rename_i q hq
         split at hs
         · rename_i hc
           simp only [beq_iff_eq] at hc
           injection hs with hs; subst hs
           obtain ⟨xs,fm,hm,_,hcl,hxl,hget⟩:=DataW.trod_struct ht h
           injection hm with hm; subst hm
           have key : ∀ (l : List Field) (o : Nat) (q : List Sh),(∀ f ∈ l,∃ y,DataW.trod enc P w base spare held fuel f.type ((cs.drop f.offset).take (P.cellsOf f.type)) = some y) → fieldsSh P (shape P n) l o = some q → Good3 w q ((cs.drop o).take q.length):=by
            intro l
            induction l with
            | nil =>
              intro o q _ hq
              simp only [fieldsSh,Option.some.injEq] at hq
              subst hq
              exact ⟨[],by simp [FitsL],by simp [RV.relV],by simp⟩
            | cons f l ihl =>
              intro o q hall hq
              simp only [fieldsSh] at hq
              split at hq
              · rename_i s1 hs1
                split at hq
                · rename_i hc1
                  simp only [Bool.and_eq_true,beq_iff_eq] at hc1
                  split at hq
                  · rename_i q2 hq2
                    injection hq with hq; subst hq
                    obtain ⟨y,hy⟩:=hall f (by simp)
                    have g1:=ih n f.type _ _ s1 hy hs1
                    have g2:=ihl (o + s1.length) q2 (fun f' hf'=>hall f' (by simp [hf'])) hq2
                    rw [hc1.1,← hc1.2] at g1
                    have:=good3_append g1 g2
                    rw [← List.drop_drop,← List.take_add] at this
                    simpa using this
                  · cases hq
                · cases hq
              · cases hq
           have:=key fs.toList 0 q (fun f hf=>by
            obtain ⟨i,hi⟩:=List.getElem?_of_mem hf
            have hi' : fs[i]? = some f:=by simpa using hi
            have h1:=hget i f hi'
            have h2 : i < xs.length:=by have:=(Array.getElem?_eq_some_iff.1 hi').1; omega
            exact ⟨xs[i],by rw [h1]; exact List.getElem?_eq_getElem h2⟩) hq
           rwa [List.drop_zero,hc,← hcl,List.take_length] at this
         · cases hs
       · cases hs
     · cases hs
def FitsT (P : Program) (n : Nat) (t : TypeId) (x : RV) : Prop:=∃ ss,shape P n t = some ss ∧ if aggOf P t then ∃ xs,x = .ag xs ∧ FitsL ss xs else FitsL ss [x]
theorem arg_fits {n : Nat} {t : TypeId} {v : Value} {d : DataW H} {ps : List MemPlace} {r : Reach} {b0 : Nat} (hs : (shape P n t).isSome = true) (hval : Value.okWide P w r b0 t v) (h : DataW.Trod enc P w base spare held t v d ps) :
 ∃ x,FitsT P n t x ∧ x.rel w (old w) v:=by
 obtain ⟨ss,hss⟩:=Option.isSome_iff_exists.1 hs
 obtain ⟨fuel,hf⟩:=h
 obtain ⟨xs,f,r,o⟩:=trod_fits fuel n t _ _ ss hf hss
 have one : aggOf P t = false → v.cells.toList = [v] → ∃ x,FitsT P n t x ∧ x.rel w (old w) v:=fun ha hc=>by
  rw [hc] at r
  match xs,r with
  | [x], r =>
    simp only [RV.relV] at r
    obtain ⟨u,us,e,hr,_⟩:=r
    injection e with e1 e2
    subst e1
    exact ⟨x,⟨ss,hss,by rw [ha]; exact f⟩,hr⟩
  | [],r=>simp [RV.relV] at r
  | _ :: _ :: _, r =>
    simp only [RV.relV] at r
    obtain ⟨u,us,e,_,u2,us2,e2,_⟩:=r
    injection e with _ e
    rw [e2] at e; cases e
 cases n with
 | zero=>simp [shape] at hss
 | succ n =>
   have hss':=hss
   unfold shape at hss'
   split at hss'
   · rename_i k ht
     obtain ⟨m,rfl⟩:=okWide_int ht hval
     exact one (by simp [aggOf,ht]) rfl
   · rename_i ht
     obtain ⟨b,rfl⟩:=okWide_bool ht hval
     exact one (by simp [aggOf,ht]) rfl
   · rename_i e ht
     obtain ⟨a,l,c,rfl⟩:=okWide_slice ht hval
     exact one (by simp [aggOf,ht]) rfl
   · rename_i m e ht
     obtain ⟨cs,rfl⟩ : ∃ cs,v = .agg cs:=by
      simp only [Value.okWide,ht] at hval
      obtain ⟨cs,h1,_⟩:=hval
      exact ⟨cs,h1⟩
     exact ⟨.ag xs,⟨ss,hss,by simp only [aggOf,ht,if_true]; exact ⟨xs,rfl,f⟩⟩,by simp only [RV.rel]; exact ⟨cs,rfl,o,r⟩⟩
   · rename_i fs ht
     obtain ⟨cs,rfl,_⟩:=okWide_struct ht hval
     exact ⟨.ag xs,⟨ss,hss,by simp only [aggOf,ht,if_true]; exact ⟨xs,rfl,f⟩⟩,by simp only [RV.rel]; exact ⟨cs,rfl,o,r⟩⟩
   · cases hss'
theorem wf_i64 {n : Int} (h : (Lit.int .i64 n).wf = true) : -9223372036854775808 ≤ n ∧ n ≤ 9223372036854775807:=by
 simp only [Lit.wf,Bool.and_eq_true,decide_eq_true_eq] at h
 have h1 : IntKind.min .i64 = -9223372036854775808:=by decide
 have h2 : IntKind.max .i64 = 9223372036854775807:=by decide
 rw [h1,h2] at h
 exact h
theorem fitsE_ints : ∀ {es : List (List RV)},FitsE [.int .i64] es → ∃ l : List Int,es = l.map (fun x=>[.it .i64 x]) ∧ ∀ x ∈ l,-9223372036854775808 ≤ x ∧ x ≤ 9223372036854775807
 | [],_=>⟨[],rfl,by simp⟩
 | e :: es, h => by
   simp only [FitsE,FitsL,Fits] at h
   obtain ⟨⟨y,ys,rfl,⟨n,rfl,hn⟩,rfl⟩,h⟩:=h
   obtain ⟨l,rfl,hl⟩:=fitsE_ints h
   refine ⟨n :: l,rfl,fun x hx=>?_⟩
   rcases List.mem_cons.1 hx with rfl | hx
   · exact wf_i64 hn
   · exact hl x hx
theorem fitsT_ag {n : Nat} {t : TypeId} {x : RV} {ss : List Sh} (h : FitsT P n t x) (hs : shape P n t = some ss) (ha : aggOf P t = true) : ∃ xs,x = .ag xs ∧ FitsL ss xs:=by
 obtain ⟨s',h1,h2⟩:=h
 rw [hs] at h1; injection h1 with h1; subst h1
 rw [ha] at h2
 exact h2
theorem fitsT_one {n : Nat} {t : TypeId} {x : RV} {s : Sh} (h : FitsT P n t x) (hs : shape P n t = some [s]) (ha : aggOf P t = false) : Fits s x:=by
 obtain ⟨s',h1,h2⟩:=h
 rw [hs] at h1; injection h1 with h1; subst h1
 rw [ha] at h2
 simp only [Bool.false_eq_true,if_false,FitsL] at h2
 obtain ⟨y,ys,e,h3,_⟩:=h2
 injection e with e1 e2
 subst e1
 exact h3
theorem fitsT_int {n : Nat} {t : TypeId} {x : RV} (h : FitsT P n t x) (hs : shape P n t = some [.int .i64]) (ha : aggOf P t = false) : ∃ m,x = .it .i64 m ∧ -9223372036854775808 ≤ m ∧ m ≤ 9223372036854775807:=by
 have:=fitsT_one h hs ha
 simp only [Fits] at this
 obtain ⟨m,h1,h2⟩:=this
 exact ⟨m,h1,wf_i64 h2⟩
theorem fitsT_ints {n : Nat} {t : TypeId} {x : RV} (h : FitsT P n t x) (hs : shape P n t = some [.sl [.int .i64]]) (ha : aggOf P t = false) : ∃ l : List Int,x = .sl 1 (l.map (fun x=>[.it .i64 x])) ∧ ∀ x ∈ l,-9223372036854775808 ≤ x ∧ x ≤ 9223372036854775807:=by
 have:=fitsT_one h hs ha
 simp only [Fits] at this
 obtain ⟨es,h1,h2⟩:=this
 obtain ⟨l,rfl,hl⟩:=fitsE_ints h2
 exact ⟨l,h1,hl⟩
end
end Go.Oc

namespace Go.Proofs.Ytlbfkhikmigpbaa
open Go Go.Oc
theorem wf8 {n : Int} (h : (Lit.int .u8 n).wf = true) : 0 ≤ n ∧ n ≤ 255:=by
 simp only [Lit.wf,Bool.and_eq_true,decide_eq_true_eq] at h
 have h1 : IntKind.min .u8 = 0:=by decide
 have h2 : IntKind.max .u8 = 255:=by decide
 rw [h1,h2] at h
 exact h
theorem wf16 {n : Int} (h : (Lit.int .u16 n).wf = true) : 0 ≤ n ∧ n ≤ 65535:=by
 simp only [Lit.wf,Bool.and_eq_true,decide_eq_true_eq] at h
 have h1 : IntKind.min .u16 = 0:=by decide
 have h2 : IntKind.max .u16 = 65535:=by decide
 rw [h1,h2] at h
 exact h
theorem fitsL_bytes : ∀ (n : Nat) {xs : List RV},FitsL (List.replicate n (.int .u8)) xs → ∃ l : List Int,xs = l.map it8 ∧ l.length = n ∧ ∀ x ∈ l,0 ≤ x ∧ x ≤ 255
 | 0, xs, h => by
   simp only [List.replicate_zero,Oc.FitsL] at h
   exact ⟨[],h,rfl,by simp⟩
 | n + 1, xs, h => by
   simp only [List.replicate_succ,Oc.FitsL,Oc.Fits] at h
   obtain ⟨_,_,rfl,⟨a,rfl,ha⟩,h⟩:=h
   obtain ⟨l,rfl,hl,hx⟩:=fitsL_bytes n h
   refine ⟨a :: l,rfl,by simp [hl],fun x hm=>?_⟩
   rcases List.mem_cons.1 hm with rfl | hm
   · exact wf8 ha
   · exact hx x hm
theorem fitsE_bytes (n : Nat) : ∀ {es : List (List RV)},FitsE (List.replicate n (.int .u8)) es → ∃ l : List (List Int),es = l.map (fun e=>e.map it8) ∧ ∀ e ∈ l,e.length = n ∧ ∀ x ∈ e,0 ≤ x ∧ x ≤ 255
 | [],_=>⟨[],rfl,by simp⟩
 | e :: es, h => by
   simp only [Oc.FitsE] at h
   obtain ⟨h1,h2⟩:=h
   obtain ⟨a,rfl,ha,hx⟩:=fitsL_bytes n h1
   obtain ⟨l,rfl,hl⟩:=fitsE_bytes n h2
   refine ⟨a :: l,rfl,fun x hm=>?_⟩
   rcases List.mem_cons.1 hm with rfl | hm
   · exact ⟨ha,hx⟩
   · exact hl x hm
theorem fitsE_pairs : ∀ {es : List (List RV)},FitsE [.int .u16,.int .u16] es → ∃ l : List (Int × Int),es = l.map (fun e=>[.it .u16 e.1,.it .u16 e.2]) ∧ ∀ e ∈ l,(0 ≤ e.1 ∧ e.1 ≤ 65535) ∧ 0 ≤ e.2 ∧ e.2 ≤ 65535
 | [],_=>⟨[],rfl,by simp⟩
 | e :: es, h => by
   simp only [Oc.FitsE,Oc.FitsL,Oc.Fits] at h
   obtain ⟨⟨_,_,rfl,⟨a,rfl,ha⟩,_,_,rfl,⟨b,rfl,hb⟩,rfl⟩,h⟩:=h
   obtain ⟨l,rfl,hl⟩:=fitsE_pairs h
   refine ⟨(a,b) :: l,rfl,fun x hm=>?_⟩
   rcases List.mem_cons.1 hm with rfl | hm
   · exact ⟨wf16 ha,wf16 hb⟩
   · exact hl x hm
theorem fits66 {x : RV} (h : FitsT Try.prog 9 66 x) : ∃ m : Mt,x = .ag (mtC m) ∧ WfM m:=by
 obtain ⟨xs,rfl,hx⟩:=fitsT_ag (ss:=[.int .u8,.sl (List.replicate 12 (.int .u8)),.int .u8,.int .u8,.sl [.int .u16,.int .u16]]) h (by kernel_rfl) (by kernel_rfl)
 simp only [Oc.FitsL,Oc.Fits] at hx
 obtain ⟨_,_,rfl,⟨d,rfl,hd⟩,_,_,rfl,⟨es,rfl,hes⟩,_,_,rfl,⟨st,rfl,hs⟩,_,_,rfl,⟨ou,rfl,ho⟩,_,_,rfl,⟨en,rfl,hen⟩,rfl⟩:=hx
 obtain ⟨l,rfl,hl⟩:=fitsE_bytes 12 hes
 obtain ⟨e,rfl,he⟩:=fitsE_pairs hen
 exact ⟨⟨d,l,st,ou,e⟩,rfl,⟨wf8 hd,hl,wf8 hs,wf8 ho,he⟩⟩
theorem fits86 {x : RV} (h : FitsT Try.prog 9 86 x) : ∃ a b c d : Int,x = .ag [it8 a,it8 b,it8 c,it8 d] ∧ (0 ≤ a ∧ a ≤ 255) ∧ (0 ≤ b ∧ b ≤ 255) ∧ (0 ≤ c ∧ c ≤ 255) ∧ 0 ≤ d ∧ d ≤ 255:=by
 obtain ⟨xs,rfl,hx⟩:=fitsT_ag (ss:=[.int .u8,.int .u8,.int .u8,.int .u8]) h (by kernel_rfl) (by kernel_rfl)
 simp only [Oc.FitsL,Oc.Fits] at hx
 obtain ⟨_,_,rfl,⟨a,rfl,ha⟩,_,_,rfl,⟨b,rfl,hb⟩,_,_,rfl,⟨c,rfl,hc⟩,_,_,rfl,⟨d,rfl,hd⟩,rfl⟩:=hx
 exact ⟨a,b,c,d,rfl,wf8 ha,wf8 hb,wf8 hc,wf8 hd⟩
theorem fits82 {x : RV} (h : FitsT Try.prog 9 82 x) : ∃ a b : Int,x = .ag [it8 a,it8 b] ∧ (0 ≤ a ∧ a ≤ 255) ∧ 0 ≤ b ∧ b ≤ 255:=by
 obtain ⟨xs,rfl,hx⟩:=fitsT_ag (ss:=[.int .u8,.int .u8]) h (by kernel_rfl) (by kernel_rfl)
 simp only [Oc.FitsL,Oc.Fits] at hx
 obtain ⟨_,_,rfl,⟨a,rfl,ha⟩,_,_,rfl,⟨b,rfl,hb⟩,rfl⟩:=hx
 exact ⟨a,b,rfl,wf8 ha,wf8 hb⟩
theorem fits83 {x : RV} (h : FitsT Try.prog 9 83 x) : ∃ a : Int,x = .it .u16 a ∧ 0 ≤ a ∧ a ≤ 65535:=by
 have h1:=fitsT_one (s:=.int .u16) h (by kernel_rfl) (by kernel_rfl)
 simp only [Oc.Fits] at h1
 obtain ⟨a,rfl,ha⟩:=h1
 exact ⟨a,rfl,wf16 ha⟩
end Go.Proofs.Ytlbfkhikmigpbaa

namespace Go.Oc
open Go Go.RowKit
theorem wf_u8 {n : Int} (h : (Lit.int .u8 n).wf = true) : 0 ≤ n ∧ n ≤ 255:=by
 simp only [Lit.wf,Bool.and_eq_true,decide_eq_true_eq] at h
 have h1 : IntKind.min .u8 = 0:=by decide
 have h2 : IntKind.max .u8 = 255:=by decide
 rw [h1,h2] at h
 exact h
theorem wf_u16 {n : Int} (h : (Lit.int .u16 n).wf = true) : 0 ≤ n ∧ n ≤ 65535:=by
 simp only [Lit.wf,Bool.and_eq_true,decide_eq_true_eq] at h
 have h1 : IntKind.min .u16 = 0:=by decide
 have h2 : IntKind.max .u16 = 65535:=by decide
 rw [h1,h2] at h
 exact h
theorem wf_u32 {n : Int} (h : (Lit.int .u32 n).wf = true) : 0 ≤ n ∧ n ≤ 4294967295:=by
 simp only [Lit.wf,Bool.and_eq_true,decide_eq_true_eq] at h
 have h1 : IntKind.min .u32 = 0:=by decide
 have h2 : IntKind.max .u32 = 4294967295:=by decide
 rw [h1,h2] at h
 exact h
theorem fitsE_u8 : ∀ {es : List (List RV)},FitsE [.int .u8] es → ∃ l : List Int,es = l.map (fun x=>[.it .u8 x]) ∧ ∀ x ∈ l,0 ≤ x ∧ x ≤ 255
 | [],_=>⟨[],rfl,by simp⟩
 | e :: es, h => by
   simp only [FitsE,FitsL,Fits] at h
   obtain ⟨⟨y,ys,rfl,⟨n,rfl,hn⟩,rfl⟩,h⟩:=h
   obtain ⟨l,rfl,hl⟩:=fitsE_u8 h
   refine ⟨n :: l,rfl,fun x hx=>?_⟩
   rcases List.mem_cons.1 hx with rfl | hx
   · exact wf_u8 hn
   · exact hl x hx
theorem fitsE_u16 : ∀ {es : List (List RV)},FitsE [.int .u16] es → ∃ l : List Int,es = l.map (fun x=>[.it .u16 x]) ∧ ∀ x ∈ l,0 ≤ x ∧ x ≤ 65535
 | [],_=>⟨[],rfl,by simp⟩
 | e :: es, h => by
   simp only [FitsE,FitsL,Fits] at h
   obtain ⟨⟨y,ys,rfl,⟨n,rfl,hn⟩,rfl⟩,h⟩:=h
   obtain ⟨l,rfl,hl⟩:=fitsE_u16 h
   refine ⟨n :: l,rfl,fun x hx=>?_⟩
   rcases List.mem_cons.1 hx with rfl | hx
   · exact wf_u16 hn
   · exact hl x hx
end Go.Oc

namespace Go.Proofs.Ytlbfkhikmigpbaa
open Go Go.Oc
theorem fitsE_u8 : ∀ {es : List (List RV)},FitsE [.int .u8] es → ∃ l : List Int,es = l.map (fun x=>[it8 x]) ∧ ∀ x ∈ l,0 ≤ x ∧ x ≤ 255
 | [],_=>⟨[],rfl,by simp⟩
 | e :: es, h => by
   simp only [Oc.FitsE,Oc.FitsL,Oc.Fits] at h
   obtain ⟨⟨_,_,rfl,⟨a,rfl,ha⟩,rfl⟩,h⟩:=h
   obtain ⟨l,rfl,hl⟩:=fitsE_u8 h
   refine ⟨a :: l,rfl,fun x hm=>?_⟩
   rcases List.mem_cons.1 hm with rfl | hm
   · exact wf8 ha
   · exact hl x hm
theorem fits68 {x : RV} (h : FitsT Try.prog 9 68 x) : ∃ b0 b1 b2 : List Int,x = .ag [u8L b0,u8L b1,u8L b2] ∧ (∀ n ∈ b0,0 ≤ n ∧ n ≤ 255) ∧ (∀ n ∈ b1,0 ≤ n ∧ n ≤ 255) ∧ ∀ n ∈ b2,0 ≤ n ∧ n ≤ 255:=by
 obtain ⟨xs,rfl,hx⟩:=fitsT_ag (ss:=[.sl [.int .u8],.sl [.int .u8],.sl [.int .u8]]) h (by kernel_rfl) (by kernel_rfl)
 simp only [Oc.FitsL,Oc.Fits] at hx
 obtain ⟨_,_,rfl,⟨a,rfl,ha⟩,_,_,rfl,⟨b,rfl,hb⟩,_,_,rfl,⟨c,rfl,hc⟩,rfl⟩:=hx
 obtain ⟨la,rfl,ga⟩:=fitsE_u8 ha
 obtain ⟨lb,rfl,gb⟩:=fitsE_u8 hb
 obtain ⟨lc,rfl,gc⟩:=fitsE_u8 hc
 exact ⟨la,lb,lc,rfl,ga,gb,gc⟩
theorem fits5 {x : RV} (h : FitsT Try.prog 9 5 x) : ∃ a : Int,x = it8 a ∧ 0 ≤ a ∧ a ≤ 255:=by
 have h1:=fitsT_one (s:=.int .u8) h (by kernel_rfl) (by kernel_rfl)
 simp only [Oc.Fits] at h1
 obtain ⟨a,rfl,ha⟩:=h1
 exact ⟨a,rfl,wf8 ha⟩
theorem law7' {x0 x1 x2 : RV} (h0 : FitsT Try.prog 9 66 x0) (h1 : FitsT Try.prog 9 68 x1) (h2 : FitsT Try.prog 9 5 x2) : ACalls Try.prog 7 [x0,x1,x2] (.bo true):=by
 obtain ⟨m,rfl,hw⟩:=fits66 h0
 obtain ⟨b0,b1,b2,rfl,g0,g1,g2⟩:=fits68 h1
 obtain ⟨a,rfl,ha⟩:=fits5 h2
 exact truths_law m hw b0 b1 b2 g0 g1 g2 a ha
end Go.Proofs.Ytlbfkhikmigpbaa


namespace Go.Proofs.Ytlbfkhikmigpbaa
open Go Go.Oc Go.ChangeShapes Go.WideShapes Go.RowKit
set_option linter.unusedVariables false
theorem own : ownKnob Try.prog.godebug = none := by kernel_rfl
theorem laidOut : laidOutB Try.prog = true := by kernel_rfl
set_option maxRecDepth 100000 in
theorem lifted (os : Os) (started : os.Started) (H : Type) (enc : TypeId × Value → H) :
    ReturnsInHanded {} Try.checked os 7 .any (Rows.duelTruthsSpec.pre6 enc Try.prog Try.f7 Rows.duelTruthsRow.domain false) (Rows.duelTruthsSpec.post enc Try.prog Try.f7 false true false false) := by
  refine returnsInHanded_of_change (C := Try.checked) own started (by kernel_rfl) Try.func7
    (ChangeSpec.witness6 (enc := enc) (C := Try.checked) false ⟨#[], #[.agg #[.int .u8 0, .slice none 0 0, .int .u8 0, .int .u8 0, .slice none 0 0], .agg #[.slice none 0 0, .slice none 0 0, .slice none 0 0], .int .u8 0], []⟩ 8 (by kernel_rfl) (by kernel_rfl) (by kernel_rfl) (by kernel_rfl)) ?_
  intro W base args ds gs before hval0 hW hcnd _
  have hval : ∀ (j : Nat) t v, Try.f7.params[j]? = some t → args[j]? = some v → Value.okWide Try.prog W .any base t v := hval0
  have hW' := hW
  obtain ⟨p, q, hA0, hV, rfl, hfz, hnd⟩ := hW
  have hA : DataW.TrodAll enc Try.prog W 0 (fun _ => true) true Try.f7.params.toList args.toList ds p := hA0
  rw [Try.params7] at hA hval
  obtain ⟨v0, vs0, d0, ds0, p0, q0, hargs, rfl, rfl, h0, r0⟩ := trodAll_cons hA
  obtain ⟨v1, vs1, d1, ds1, p1, q1, rfl, rfl, rfl, h1, r1⟩ := trodAll_cons r0
  obtain ⟨v2, vs2, d2, ds2, p2, q2, rfl, rfl, rfl, h2, r2⟩ := trodAll_cons r1
  obtain ⟨rfl, rfl, rfl⟩ := trodAll_nil r2
  obtain rfl : args = #[v0, v1, v2] := by cases args; simp_all
  obtain ⟨rfl, rfl⟩ := trodVars_none hV
  have lt0 : ∀ x ∈ p0, x.block < W.heap.size := by obtain ⟨m, hm⟩ := h0; exact DataW.trod_lt m _ _ _ hm
  have lt1 : ∀ x ∈ p1, x.block < W.heap.size := by obtain ⟨m, hm⟩ := h1; exact DataW.trod_lt m _ _ _ hm
  have lt2 : ∀ x ∈ p2, x.block < W.heap.size := by obtain ⟨m, hm⟩ := h2; exact DataW.trod_lt m _ _ _ hm
  obtain ⟨x0, g0, e0⟩ := arg_fits (n := 9) (by kernel_rfl) (hval 0 66 v0 rfl rfl) h0
  obtain ⟨x1, g1, e1⟩ := arg_fits (n := 9) (by kernel_rfl) (hval 1 68 v1 rfl rfl) h1
  obtain ⟨x2, g2, e2⟩ := arg_fits (n := 9) (by kernel_rfl) (hval 2 5 v2 rfl rfl) h2
  clear hA0 hval0
  refine ((law7' g0 g1 g2).2 W (old W) #[v0, v1, v2] (fun _ h => h) (by simp only [RV.relV]; exact ⟨_, _, rfl, e0, _, _, rfl, e1, _, _, rfl, e2, rfl⟩)).mono fun e W' he => ?_
  obtain ⟨v, R', rfl, bel, _, _, _, hr⟩ := he
  simp only [RV.rel] at hr
  subst hr
  exact ⟨_, rfl, _, _, _, [], _, [], hW', trodAll_mk1 (shut_bool Try.underlying4 _), (trodAll_cons_mk (Below.trod laidOut (by kernel_rfl) (of_decide_eq_true (by kernel_rfl)) h0 bel lt0) (trodAll_cons_mk (Below.trod laidOut (by kernel_rfl) (of_decide_eq_true (by kernel_rfl)) h1 bel lt1) (trodAll_cons_mk (Below.trod laidOut (by kernel_rfl) (of_decide_eq_true (by kernel_rfl)) h2 bel lt2) trodAll_mk0))), rfl, bel.frame _, fun h => by cases h⟩
theorem over : Rows.duelTruthsRow.holds Try.pinned (OpenSpec.ofChange Rows.duelTruthsSpec) :=
  OpenClaim.holds_of_wide 7 Try.f7 rfl rfl rfl rfl rfl rfl rfl ⟨rfl, rfl, rfl, rfl, rfl⟩ rfl rfl rfl rfl rfl (by kernel_rfl) Try.func7 (by kernel_rfl)
    (of_decide_eq_true (by kernel_rfl)) (by unfold Func.isWrapper; first | (rw [if_pos (by decide +kernel)]; kernel_rfl) | (rw [if_neg (by decide +kernel)]; exact ⟨rfl, rfl⟩))
    (fun os started H enc _ => lifted os started H enc)
theorem duelTruths_holds : Rows.DuelTruthsSaid := over
#print axioms duelTruths_holds
end Go.Proofs.Ytlbfkhikmigpbaa

/- For all laws and numbers in bytes, the given function TopDuelStake returns true: a stake is shared by the least chance to win of who throws first, and what is left of Whole; together both get all of it; who has the greater chance never gets less; against an opponent who ends the leg less often no share of the player is smaller. No conditions beyond those of the given statement. -/
import Derived.Test.YtlljkgiomkmjbaaVC11
import Derived.Test.YtlljkgiomkmjbaaVC8
import Derived.Test.YtlljkgiomkmjbaaVC9
import Derived.Test.YtlljkgiomkmjbaaVC10
import Derived.Test.YtlljkgiomkmjbaaVC5
import Derived.ChangeShapes
import Derived.WideShapes
import Derived.OpenShut
import Derived.ShutString
import Derived.ChangeOld
import Derived.Carry
import Derived.Below
import Derived.Test.YtlljkgiomkmjbaaRows
import Derived.JoinedOf
namespace Go.Proofs.Ytlljkgiomkmjbaa.Du
open Go Go.Oc
set_option linter.unusedSimpArgs false
set_option linter.unusedVariables false
set_option maxRecDepth 8000
set_option maxHeartbeats 4000000
abbrev stR (d : Int) (l : List Am) (st g : Int) (e0 e1 : Sp) : Ru:=⟨d,l,st,g,[e0,e1,(1000000,1000000)]⟩
theorem stake_law (den : Nat) (hd : den < 256) (A : List (List Nat)) (hA : ∀ a ∈ A,a.length = 12 ∧ ∀ n ∈ a,n < 256) (x0 x1 x2 x3 x4 x5 : Nat) (hx : (x0 < 256 ∧ x1 < 256 ∧ x2 < 256) ∧ x3 < 256 ∧ x4 < 256 ∧ x5 < 256) :
 ACalls Try.prog 3 [u8Q den,.sl 12 (A.map fun a=>a.map u8Q),.ag [u8Q x0,u8Q x1,u8Q x2,u8Q x3,u8Q x4,u8Q x5]] (.bo true):=by
 have hk1:=pubDuel_ok
 have hk2:=Tb.pubPurse_ok
 have hsc:=scatter_ok den hd A hA
 have hmod:=Nat.mod_lt den (show 60 > 0 by omega)
 have hL0:=scL_ok (d:=((4 + den % 60 : Nat) : Int)) (by omega) (fun a ha=>(hA a ha).2)
 have hLl:=scL_len ((4 + den % 60 : Nat) : Int) A
 have hLa:=scL_all (d:=((4 + den % 60 : Nat) : Int)) (by omega) (A:=A) (fun a ha=>(hA a ha).2)
 generalize hD : 4 + den % 60 = D at *
 have hD64 : 4 ≤ D ∧ D < 64:=by omega
 generalize scL (D : Int) A = L at *
 have hwL:=wfL_chk hL0 (by omega)
 have hlaw:=law_ok (D : Int) L (by omega) (fun a ha=>by have:=(hLa a ha).2; omega)
 have m0:=Nat.mod_lt x0 (show 7 > 0 by omega)
 have m1:=Nat.mod_lt x1 (show 3 > 0 by omega)
 have k0 : IntKind.i64.wrap (x0 : Int) = x0:=by rw [zI] <;> omega
 have k1 : IntKind.i64.wrap (x1 : Int) = x1:=by rw [zI] <;> omega
 have k2 : IntKind.i64.wrap (x2 : Int) = x2:=by rw [zI] <;> omega
 have k3 : IntKind.i64.wrap (x3 : Int) = x3:=by rw [zI] <;> omega
 have k4 : IntKind.i64.wrap (x4 : Int) = x4:=by rw [zI] <;> omega
 have k5 : IntKind.i64.wrap (x5 : Int) = x5:=by rw [zI] <;> omega
 have r0 : Int.tmod (x0 : Int) 7 = ((x0 % 7 : Nat) : Int):=rfl
 have r1 : Int.tmod (x1 : Int) 3 = ((x1 % 3 : Nat) : Int):=rfl
 have w0 : IntKind.i64.wrap (2 + ((x0 % 7 : Nat) : Int)) = ((2 + x0 % 7 : Nat) : Int):=by rw [zI] <;> omega
 generalize hst : 2 + x0 % 7 = st at *
 have hst2 : 2 ≤ st ∧ st ≤ 8:=by omega
 generalize hg : x1 % 3 = g at *
 have w1 : IntKind.i64.wrap (3000 * (x2 : Int)) = 3000 * x2:=by rw [zI] <;> omega
 have w2 : IntKind.i64.wrap (500 * (x3 : Int)) = 500 * x3:=by rw [zI] <;> omega
 have w3 : IntKind.i64.wrap (3000 * (x2 : Int) + 500 * x3) = 3000 * x2 + 500 * x3:=by rw [zI] <;> omega
 have w4 : IntKind.i64.wrap (1000 * (x4 : Int)) = 1000 * x4:=by rw [zI] <;> omega
 have w5 : IntKind.i64.wrap (1000 * (x2 : Int)) = 1000 * x2:=by rw [zI] <;> omega
 have w6 : IntKind.i64.wrap (2000 * (x2 : Int)) = 2000 * x2:=by rw [zI] <;> omega
 have w7 : IntKind.i64.wrap (2000 * (x2 : Int) + 500 * x3) = 2000 * x2 + 500 * x3:=by rw [zI] <;> omega
 have w8 : IntKind.i64.wrap (500 * (x4 : Int)) = 500 * x4:=by rw [zI] <;> omega
 have w9 : IntKind.i64.wrap (1000 * (x5 : Int)) = 1000 * x5:=by rw [zI] <;> omega
 have wa : IntKind.i64.wrap (1000 * (x5 : Int) + 1) = 1000 * x5 + 1:=by rw [zI] <;> omega
 have hE1 : ruE (stR (D : Int) L st g (3000 * (x2 : Int),3000 * (x2 : Int) + 500 * x3) (1000 * (x4 : Int),1000 * (x4 : Int))) = 0:=stake_ok hL0 (by omega) (by omega) (by simp only; omega) (by simp only; omega)
 have hE2 : ruE (stR (D : Int) L st g (1000 * (x2 : Int),2000 * (x2 : Int) + 500 * x3) (500 * (x4 : Int),500 * (x4 : Int))) = 0:=stake_ok hL0 (by omega) (by omega) (by simp only; omega) (by simp only; omega)
 have hmono:=stake_mono hE2 hE1 (by simp only; omega) (by simp only; omega)
 have ht1:=toss_ok (stR (D : Int) L st g (3000 * (x2 : Int),3000 * (x2 : Int) + 500 * x3) (1000 * (x4 : Int),1000 * (x4 : Int))) ⟨hwL⟩
 have ht2:=toss_ok (stR (D : Int) L st g (1000 * (x2 : Int),2000 * (x2 : Int) + 500 * x3) (500 * (x4 : Int),500 * (x4 : Int))) ⟨hwL⟩
 have hb1:=toss_le hE1 false
 have hb2:=toss_le hE2 false
 unfold tossV at ht1 ht2
 rw [if_pos hE1,if_pos hE1,hE1] at ht1
 rw [if_pos hE2,if_pos hE2,hE2] at ht2
 generalize tossF (stR (D : Int) L st g (3000 * (x2 : Int),3000 * (x2 : Int) + 500 * x3) (1000 * (x4 : Int),1000 * (x4 : Int))) false = f1 at *
 generalize tossF (stR (D : Int) L st g (3000 * (x2 : Int),3000 * (x2 : Int) + 500 * x3) (1000 * (x4 : Int),1000 * (x4 : Int))) true = f1' at *
 generalize tossS (stR (D : Int) L st g (3000 * (x2 : Int),3000 * (x2 : Int) + 500 * x3) (1000 * (x4 : Int),1000 * (x4 : Int))) false = s1 at *
 generalize tossS (stR (D : Int) L st g (3000 * (x2 : Int),3000 * (x2 : Int) + 500 * x3) (1000 * (x4 : Int),1000 * (x4 : Int))) true = s1' at *
 generalize tossF (stR (D : Int) L st g (1000 * (x2 : Int),2000 * (x2 : Int) + 500 * x3) (500 * (x4 : Int),500 * (x4 : Int))) false = f2 at *
 generalize tossF (stR (D : Int) L st g (1000 * (x2 : Int),2000 * (x2 : Int) + 500 * x3) (500 * (x4 : Int),500 * (x4 : Int))) true = f2' at *
 generalize tossS (stR (D : Int) L st g (1000 * (x2 : Int),2000 * (x2 : Int) + 500 * x3) (500 * (x4 : Int),500 * (x4 : Int))) false = s2 at *
 generalize tossS (stR (D : Int) L st g (1000 * (x2 : Int),2000 * (x2 : Int) + 500 * x3) (500 * (x4 : Int),500 * (x4 : Int))) true = s2' at *
 have z0 : ((0 : Int) != 0) = false:=rfl
 have c1 : decide (f1 < 0) = false:=decide_eq_false (by omega)
 have c2 : decide (1000000 < f1) = false:=decide_eq_false (by omega)
 have c3 : decide (f2 < f1) = false:=decide_eq_false (by omega)
 have c4 : decide (1000000 < f2) = false:=decide_eq_false (by omega)
 have q1 : Int.tdiv f1 100 = f1 / 100:=Int.tdiv_eq_ediv_of_nonneg hb1.1
 have q2 : Int.tdiv f2 100 = f2 / 100:=Int.tdiv_eq_ediv_of_nonneg hb2.1
 have q3 : IntKind.i64.wrap (f1 / 100) = f1 / 100:=by rw [zI] <;> omega
 have q4 : IntKind.i64.wrap (f2 / 100) = f2 / 100:=by rw [zI] <;> omega
 have hp1 : 0 ≤ f1 / 100 ∧ f1 / 100 ≤ 10000:=by omega
 have hp2 : 0 ≤ f2 / 100 ∧ f2 / 100 ≤ 10000:=by omega
 have hpp : f1 / 100 ≤ f2 / 100:=Int.ediv_le_ediv (by omega) hmono
 generalize hP1 : f1 / 100 = p1 at *
 generalize hP2 : f2 / 100 = p2 at *
 obtain ⟨m,hm⟩ : ∃ m : Int,m = 1000 * (x5 : Int) + 1:=⟨_,rfl⟩
 have hm0 : 0 ≤ m ∧ m ≤ 1000000:=by omega
 have hsh : ∀ p : Int,0 ≤ p ∧ p ≤ 10000 → ACalls Try.prog 14 [i64 m,ints [p,10000 - p]] (.tu [ints [Tb.shareA m 10000 p,m - Tb.shareA m 10000 p],i64 0]):=fun p hp=>by
  have h:=Tb.share_ok m [p,10000 - p] (by omega) (by simp) (fun w hw=>by
   simp only [List.mem_cons,List.not_mem_nil,or_false] at hw
   rcases hw with rfl | rfl <;> omega) (by simp; omega)
  rw [Tb.share_val (by omega) (by omega) (by omega) (by omega),show p + (10000 - p) = 10000 by omega] at h
  exact h
 have hmo:=Tb.share_mono (m:=m) (s:=10000) (by omega) (by omega) hpp
 have hh1:=Tb.share_half (m:=m) (s:=10000) (by omega) hp1.1 hp1.2 (by omega)
 have hh2:=Tb.share_half (m:=m) (s:=10000) (by omega) hp2.1 hp2.2 (by omega)
 have hr1:=Tb.share_in (m:=m) (s:=10000) (by omega) hp1.1 hp1.2 (by omega)
 have hr2:=Tb.share_in (m:=m) (s:=10000) (by omega) hp2.1 hp2.2 (by omega)
 have hs1:=hsh p1 hp1
 have hs2:=hsh p2 hp2
 have u1 : IntKind.i64.wrap (10000 - p1) = 10000 - p1:=by rw [zI] <;> omega
 have u2 : IntKind.i64.wrap (10000 - p2) = 10000 - p2:=by rw [zI] <;> omega
 generalize Tb.shareA m 10000 p1 = a1 at *
 generalize Tb.shareA m 10000 p2 = a2 at *
 refine acalls_st (rs:=[.bo true]) [.tmp 6] Try.func3 rfl (by kernel_rfl) Try.ntmps3 rfl (by simp) rfl fun C vs=>?_
 refine zq ?_
 refine zb fun K hK=>?_;simp only [go_sem];refine hK _ ?_;clear hK K;refine zw (sub_frzP 5 5 [u8Q x0,u8Q x1,u8Q x2,u8Q x3,u8Q x4,u8Q x5] (by omega) rfl rfl) ?_;refine zw (zk [0,1,5]) ?_;simp only [go_sem]
 refine zq ?_
 refine zb fun K hK=>?_;simp only [go_sem]
 refine zh (hsc) rfl (by simp only [go_sem,i64,ints]) (by simp only [go_sem,i64,ints]) (by first | exact .inl rfl | exact .inr rfl) ?_
 (try simp only [go_sem]);refine hK _ ?_;clear hK K;refine zw (sub_frzP 7 7 [i64 (D : Int),aimsR L] (by omega) rfl rfl) ?_;refine zw (zk [5,7]) ?_;simp only [go_sem]
 refine zq ?_
 refine zg follows (by decide +kernel) (by kernel_rfl) fun K hK=>?_;simp only [go_sem,k0,k1,k2,k3,k4,r0,r1,w0,w1,w2,w3,w4]
 refine zh (span_mk (3000 * (x2 : Int)) (3000 * (x2 : Int) + 500 * x3)) rfl (by simp only [go_sem,i64,ints,k0,k1,k2,k3,k4,r0,r1,w0,w1,w2,w3,w4]) (by simp only [go_sem,i64,ints,k0,k1,k2,k3,k4,r0,r1,w0,w1,w2,w3,w4]) (by first | exact .inl rfl | exact .inr rfl) ?_
 (try simp only [go_sem,k0,k1,k2,k3,k4,r0,r1,w0,w1,w2,w3,w4])
 refine zh (one_mk (1000 * (x4 : Int))) rfl (by simp only [go_sem,i64,ints,k0,k1,k2,k3,k4,r0,r1,w0,w1,w2,w3,w4]) (by simp only [go_sem,i64,ints,k0,k1,k2,k3,k4,r0,r1,w0,w1,w2,w3,w4]) (by first | exact .inl rfl | exact .inr rfl) ?_
 (try simp only [go_sem,k0,k1,k2,k3,k4,r0,r1,w0,w1,w2,w3,w4])
 refine zh (one_mk 1000000) rfl (by simp only [go_sem,i64,ints]) (by simp only [go_sem,i64,ints]) (by first | exact .inl rfl | exact .inr rfl) ?_
 (try simp only [go_sem]);refine hK _ ?_;clear hK K;refine zw (sub_frzP 8 8 [i64 (D : Int),aimsR L,i64 (st : Int),i64 (g : Int),spansR [(3000 * (x2 : Int),3000 * (x2 : Int) + 500 * x3),(1000 * (x4 : Int),1000 * (x4 : Int)),(1000000,1000000)]] (by omega) rfl rfl) ?_;refine zw (zk [5,7,8]) ?_;simp only [go_sem]
 refine zq ?_
 refine zg follows (by decide +kernel) (by kernel_rfl) fun K hK=>?_;simp only [go_sem,k2,k3,k4,w5,w6,w7,w8,w2]
 refine zh (hlaw) rfl (by simp only [go_sem,i64,ints]) (by simp only [go_sem,i64,ints]) (by first | exact .inl rfl | exact .inr rfl) ?_
 (try simp only [go_sem]);(try simp (disch:=omega) only [zI])
 refine zh (span_mk (1000 * (x2 : Int)) (2000 * (x2 : Int) + 500 * x3)) rfl (by simp only [go_sem,i64,ints,k2,k3,k4,w5,w6,w7,w8,w2]) (by simp only [go_sem,i64,ints,k2,k3,k4,w5,w6,w7,w8,w2]) (by first | exact .inl rfl | exact .inr rfl) ?_
 (try simp only [go_sem,k2,k3,k4,w5,w6,w7,w8,w2])
 refine zh (one_mk (500 * (x4 : Int))) rfl (by simp only [go_sem,i64,ints,k2,k3,k4,w5,w6,w7,w8,w2]) (by simp only [go_sem,i64,ints,k2,k3,k4,w5,w6,w7,w8,w2]) (by first | exact .inl rfl | exact .inr rfl) ?_
 (try simp only [go_sem,k2,k3,k4,w5,w6,w7,w8,w2])
 refine zh (one_mk 1000000) rfl (by simp only [go_sem,i64,ints]) (by simp only [go_sem,i64,ints]) (by first | exact .inl rfl | exact .inr rfl) ?_
 (try simp only [go_sem]);refine hK _ ?_;clear hK K;refine zw (sub_frzP 9 9 [i64 (D : Int),aimsR L,i64 (st : Int),i64 (g : Int),spansR [(1000 * (x2 : Int),2000 * (x2 : Int) + 500 * x3),(500 * (x4 : Int),500 * (x4 : Int)),(1000000,1000000)]] (by omega) rfl rfl) ?_;refine zw (zk [5,8,9]) ?_;simp only [go_sem]
 refine zq ?_
 refine zb fun K hK=>?_;simp only [go_sem]
 refine zh (ht1) rfl (by simp only [go_sem,i64,ints,ruV,ruC,spansR,spanR,List.map_cons,List.map_nil]) (by simp only [go_sem,i64,ints,ruV,ruC,spansR,spanR,List.map_cons,List.map_nil]) (by first | exact .inl rfl | exact .inr rfl) ?_
 (try simp only [go_sem,ruV,ruC,spansR,spanR,List.map_cons,List.map_nil]);refine hK _ ?_;clear hK K;refine zw (sub_frzP 10 10 [i64 f1,i64 f1'] (by omega) rfl rfl) ?_;refine zw (zk [5,9,10,12]) ?_;simp only [go_sem]
 refine zq ?_
 refine zb fun K hK=>?_;simp only [go_sem]
 refine zh (ht2) rfl (by simp only [go_sem,i64,ints,ruV,ruC,spansR,spanR,List.map_cons,List.map_nil]) (by simp only [go_sem,i64,ints,ruV,ruC,spansR,spanR,List.map_cons,List.map_nil]) (by first | exact .inl rfl | exact .inr rfl) ?_
 (try simp only [go_sem,ruV,ruC,spansR,spanR,List.map_cons,List.map_nil]);refine hK _ ?_;clear hK K;refine zw (sub_frzP 13 13 [i64 f2,i64 f2'] (by omega) rfl rfl) ?_;refine zw (zk [5,10,12,13,15]) ?_;simp only [go_sem]
 repeat refine zq ?_
 refine zb fun K hK=>?_;simp only [go_sem,z0,c1,c2,c3,c4];refine hK _ ?_;clear hK K;refine zw (zk [5,10,13,124]) ?_;simp only [go_sem]
 refine zc rfl (fun hc=>?_) (fun hc=>?_) <;> (try simp only [go_sem] at hc)
 refine zx ?_
 try simp only [go_sem]
 refine zq ?_
 refine zb fun K hK=>?_;simp only [go_sem,q1,q2,q3,q4,hP1,hP2];refine hK _ ?_;clear hK K;refine zw (sub_frzP 16 16 [i64 p1,i64 p2] (by omega) rfl rfl) ?_;refine zw (zk [5,16]) ?_;simp only [go_sem]
 refine zq ?_
 refine zb fun K hK=>?_;simp only [go_sem,k5,w9,wa];refine hK _ ?_;clear hK K;refine zw (zk [16,17]) ?_;simp only [go_sem];rw [← hm]
 refine zq ?_
 refine zb fun K hK=>?_;simp only [go_sem];refine hK _ ?_;clear hK K;refine zw (zk [16,17,18]) ?_;simp only [go_sem]
 repeat refine zq ?_
 refine zb fun K hK=>?_;simp only [go_sem];refine hK _ ?_;clear hK K;refine zw (zk [16,17,18,19]) ?_;simp only [go_sem];refine zd ?_
 refine awp_uptoV (n:=223) 2 (fun i vs=>[(16,.r (.rp [i64 p1,i64 p2])),(17,.r (i64 m)),(18,.pt 18 (vs 18) 0),(19,.r (i64 (i : Int)))])
  (fun i vs=>[(18,.box [if i = 0 then .r .ns else .r (ints [a1,m - a1]),if i ≤ 1 then .r .ns else .r (ints [a2,m - a2])])]) (fun _=>True) 0 (zj [11,14] ?_ ?_) (Nat.zero_le _) trivial ?_
 · try simp only [go_sem]
   try rfl
 · try simp only [go_sem]
   try rfl
 · intro i vs hi _
   have hi3 : i = 0 ∨ i = 1 ∨ i = 2:=by omega
   rcases hi3 with rfl | rfl | rfl
   · repeat refine zq ?_
     refine zb fun K hK=>?_;simp only [go_sem];refine hK _ ?_;clear hK K;refine zw (zk [16,17,18,19,139]) ?_;simp only [go_sem]
     refine zc rfl (fun hc=>?_) (fun hc=>?_) <;> (try simp only [go_sem] at hc)
     refine zx ?_
     try simp only [go_sem]
     refine zq ?_
     refine zd ?_
     refine zq ?_
     refine zg follows (by decide +kernel) (by kernel_rfl) fun K hK=>?_;simp only [go_sem,u1]
     refine zh (hs1) rfl (by simp only [go_sem,i64,ints,u1]) (by simp only [go_sem,i64,ints,u1]) (by first | exact .inl rfl | exact .inr rfl) ?_
     (try simp only [go_sem,u1]);refine hK _ ?_;clear hK K;refine zw (zk [16,17,18,19,20,21]) ?_;simp only [go_sem]
     have v1 : IntKind.i64.wrap (a1 + (m - a1)) = m:=by rw [zI] <;> omega
     have v2 : IntKind.i64.wrap (2 * p1) = 2 * p1:=by rw [zI] <;> omega
     have lt2 : ((2 : Int) != 2) = false:=rfl
     have nl : ((((0 : Nat) + 1 + 1 : Nat) : Int) != 2) = false:=rfl
     have hgA : (10000 < 2 * p1 → decide (a1 < m - a1) = false):=fun h=>decide_eq_false (by have:=hh1.1 h; omega)
     have hgB : (2 * p1 < 10000 → decide (m - a1 < a1) = false):=fun h=>decide_eq_false (by have:=hh1.2 h; omega)
     cases e1 : decide (10000 < 2 * p1) <;> cases e2 : decide (2 * p1 < 10000)
     all_goals (simp only [decide_eq_true_eq,decide_eq_false_iff_not] at e1 e2)
     all_goals (try omega)
     · have f1 : decide (10000 < 2 * p1) = false:=decide_eq_false e1
       have f2 : decide (2 * p1 < 10000) = false:=decide_eq_false e2
       repeat refine zq ?_
       refine zg follows (by decide +kernel) (by kernel_rfl) fun K hK=>?_;simp only [go_sem,z0,bne_self_eq_false,lt2,v1,v2,f1,f2];refine hK _ ?_;clear hK K;refine zw (zk [16,17,18,19,20,204]) ?_;simp only [go_sem]
       refine zc rfl (fun hc=>?_) (fun hc=>?_) <;> (try simp only [go_sem] at hc)
       refine zx ?_
       try simp only [go_sem]
       refine zb fun K hK=>?_;simp only [go_sem];refine hK _ ?_;clear hK K;refine zw (zk [16,17,18,19]) ?_;simp only [go_sem];refine zb fun K hK=>?_;simp only [go_sem];(try simp (disch:=omega) only [zI]);refine hK _ ?_;clear hK K
       try simp only [go_sem]
       refine zj [] ?_ ?_
       · try simp only [go_sem]
         try rfl
       · try simp only [go_sem]
         try rfl
     · have f1 : decide (10000 < 2 * p1) = false:=decide_eq_false e1
       have f2 : decide (2 * p1 < 10000) = true:=decide_eq_true e2
       have f3:=hgB e2
       repeat refine zq ?_
       refine zg follows (by decide +kernel) (by kernel_rfl) fun K hK=>?_;simp only [go_sem,z0,bne_self_eq_false,lt2,v1,v2,f1,f2,f3];refine hK _ ?_;clear hK K;refine zw (zk [16,17,18,19,20,204]) ?_;simp only [go_sem]
       refine zc rfl (fun hc=>?_) (fun hc=>?_) <;> (try simp only [go_sem] at hc)
       refine zx ?_
       try simp only [go_sem]
       refine zb fun K hK=>?_;simp only [go_sem];refine hK _ ?_;clear hK K;refine zw (zk [16,17,18,19]) ?_;simp only [go_sem];refine zb fun K hK=>?_;simp only [go_sem];(try simp (disch:=omega) only [zI]);refine hK _ ?_;clear hK K
       try simp only [go_sem]
       refine zj [] ?_ ?_
       · try simp only [go_sem]
         try rfl
       · try simp only [go_sem]
         try rfl
     · have f1 : decide (10000 < 2 * p1) = true:=decide_eq_true e1
       have f2 : decide (2 * p1 < 10000) = false:=decide_eq_false e2
       have f3:=hgA e1
       repeat refine zq ?_
       refine zg follows (by decide +kernel) (by kernel_rfl) fun K hK=>?_;simp only [go_sem,z0,bne_self_eq_false,lt2,v1,v2,f1,f2,f3];refine hK _ ?_;clear hK K;refine zw (zk [16,17,18,19,20,204]) ?_;simp only [go_sem]
       refine zc rfl (fun hc=>?_) (fun hc=>?_) <;> (try simp only [go_sem] at hc)
       refine zx ?_
       try simp only [go_sem]
       refine zb fun K hK=>?_;simp only [go_sem];refine hK _ ?_;clear hK K;refine zw (zk [16,17,18,19]) ?_;simp only [go_sem];refine zb fun K hK=>?_;simp only [go_sem];(try simp (disch:=omega) only [zI]);refine hK _ ?_;clear hK K
       try simp only [go_sem]
       refine zj [] ?_ ?_
       · try simp only [go_sem]
         try rfl
       · try simp only [go_sem]
         try rfl
   · repeat refine zq ?_
     refine zb fun K hK=>?_;simp only [go_sem];refine hK _ ?_;clear hK K;refine zw (zk [16,17,18,19,139]) ?_;simp only [go_sem]
     refine zc rfl (fun hc=>?_) (fun hc=>?_) <;> (try simp only [go_sem] at hc)
     refine zx ?_
     try simp only [go_sem]
     refine zq ?_
     refine zd ?_
     refine zq ?_
     refine zg follows (by decide +kernel) (by kernel_rfl) fun K hK=>?_;simp only [go_sem,u2]
     refine zh (hs2) rfl (by simp only [go_sem,i64,ints,u2]) (by simp only [go_sem,i64,ints,u2]) (by first | exact .inl rfl | exact .inr rfl) ?_
     (try simp only [go_sem,u2]);refine hK _ ?_;clear hK K;refine zw (zk [16,17,18,19,20,21]) ?_;simp only [go_sem]
     have v1 : IntKind.i64.wrap (a2 + (m - a2)) = m:=by rw [zI] <;> omega
     have v2 : IntKind.i64.wrap (2 * p2) = 2 * p2:=by rw [zI] <;> omega
     have lt2 : ((2 : Int) != 2) = false:=rfl
     have nl : ((((0 : Nat) + 1 + 1 : Nat) : Int) != 2) = false:=rfl
     have hgA : (10000 < 2 * p2 → decide (a2 < m - a2) = false):=fun h=>decide_eq_false (by have:=hh2.1 h; omega)
     have hgB : (2 * p2 < 10000 → decide (m - a2 < a2) = false):=fun h=>decide_eq_false (by have:=hh2.2 h; omega)
     cases e1 : decide (10000 < 2 * p2) <;> cases e2 : decide (2 * p2 < 10000)
     all_goals (simp only [decide_eq_true_eq,decide_eq_false_iff_not] at e1 e2)
     all_goals (try omega)
     · have f1 : decide (10000 < 2 * p2) = false:=decide_eq_false e1
       have f2 : decide (2 * p2 < 10000) = false:=decide_eq_false e2
       repeat refine zq ?_
       refine zg follows (by decide +kernel) (by kernel_rfl) fun K hK=>?_;simp only [go_sem,z0,bne_self_eq_false,lt2,v1,v2,f1,f2];refine hK _ ?_;clear hK K;refine zw (zk [16,17,18,19,20,204]) ?_;simp only [go_sem]
       refine zc rfl (fun hc=>?_) (fun hc=>?_) <;> (try simp only [go_sem] at hc)
       refine zx ?_
       try simp only [go_sem]
       refine zb fun K hK=>?_;simp only [go_sem];refine hK _ ?_;clear hK K;refine zw (zk [16,17,18,19]) ?_;simp only [go_sem];refine zb fun K hK=>?_;simp only [go_sem];(try simp (disch:=omega) only [zI]);refine hK _ ?_;clear hK K
       try simp only [go_sem]
       refine zj [] ?_ ?_
       · try simp only [go_sem]
         try rfl
       · try simp only [go_sem]
         try rfl
     · have f1 : decide (10000 < 2 * p2) = false:=decide_eq_false e1
       have f2 : decide (2 * p2 < 10000) = true:=decide_eq_true e2
       have f3:=hgB e2
       repeat refine zq ?_
       refine zg follows (by decide +kernel) (by kernel_rfl) fun K hK=>?_;simp only [go_sem,z0,bne_self_eq_false,lt2,v1,v2,f1,f2,f3];refine hK _ ?_;clear hK K;refine zw (zk [16,17,18,19,20,204]) ?_;simp only [go_sem]
       refine zc rfl (fun hc=>?_) (fun hc=>?_) <;> (try simp only [go_sem] at hc)
       refine zx ?_
       try simp only [go_sem]
       refine zb fun K hK=>?_;simp only [go_sem];refine hK _ ?_;clear hK K;refine zw (zk [16,17,18,19]) ?_;simp only [go_sem];refine zb fun K hK=>?_;simp only [go_sem];(try simp (disch:=omega) only [zI]);refine hK _ ?_;clear hK K
       try simp only [go_sem]
       refine zj [] ?_ ?_
       · try simp only [go_sem]
         try rfl
       · try simp only [go_sem]
         try rfl
     · have f1 : decide (10000 < 2 * p2) = true:=decide_eq_true e1
       have f2 : decide (2 * p2 < 10000) = false:=decide_eq_false e2
       have f3:=hgA e1
       repeat refine zq ?_
       refine zg follows (by decide +kernel) (by kernel_rfl) fun K hK=>?_;simp only [go_sem,z0,bne_self_eq_false,lt2,v1,v2,f1,f2,f3];refine hK _ ?_;clear hK K;refine zw (zk [16,17,18,19,20,204]) ?_;simp only [go_sem]
       refine zc rfl (fun hc=>?_) (fun hc=>?_) <;> (try simp only [go_sem] at hc)
       refine zx ?_
       try simp only [go_sem]
       refine zb fun K hK=>?_;simp only [go_sem];refine hK _ ?_;clear hK K;refine zw (zk [16,17,18,19]) ?_;simp only [go_sem];refine zb fun K hK=>?_;simp only [go_sem];(try simp (disch:=omega) only [zI]);refine hK _ ?_;clear hK K
       try simp only [go_sem]
       refine zj [] ?_ ?_
       · try simp only [go_sem]
         try rfl
       · try simp only [go_sem]
         try rfl
   · repeat refine zq ?_
     refine zb fun K hK=>?_;simp only [go_sem];refine hK _ ?_;clear hK K;refine zw (zk [18,139]) ?_;simp only [go_sem]
     refine zc rfl (fun hc=>?_) (fun hc=>?_) <;> (try simp only [go_sem] at hc)
     refine zf ?_;simp only [go_sem]
     have g3 : decide (a1 ≤ a2) = true:=decide_eq_true hmo
     refine zq ?_
     refine zg follows (by decide +kernel) (by kernel_rfl) fun K hK=>?_;simp only [go_sem,g3]
     refine zh (hk1) rfl (by simp only [go_sem,i64,ints]) (by simp only [go_sem,i64,ints]) (by first | exact .inl rfl | exact .inr rfl) ?_
     (try simp only [go_sem])
     refine zh (hk2) rfl (by simp only [go_sem,i64,ints]) (by simp only [go_sem,i64,ints]) (by first | exact .inl rfl | exact .inr rfl) ?_
     (try simp only [go_sem]);refine hK _ ?_;clear hK K;refine zw (zk [6]) ?_;simp only [go_sem];refine ze ?_;simp only [go_sem]
     try rfl
end Go.Proofs.Ytlljkgiomkmjbaa.Du

namespace Go.Oc
open Go Go.RowKit Go.ChangeShapes Go.WideShapes
inductive Sh where
 | int (k : IntKind)
 | bool
 | sl (es : List Sh)
def fieldsSh (P : Program) (sh : TypeId → Option (List Sh)) : List Field → Nat → Option (List Sh)
 | [],_=>some []
 | f :: fs, o =>
   match sh f.type with
   | some ss=>if f.offset == o && ss.length == P.cellsOf f.type then match fieldsSh P sh fs (o + ss.length) with | some q=>some (ss ++ q) | none=>none else none
   | none=>none
def shape (P : Program) : Nat → TypeId → Option (List Sh)
 | 0,_=>none
 | n + 1, t =>
   match P.underlying t with
   | some (.int k)=>some [.int k]
   | some .bool=>some [.bool]
   | some (.slice e) =>
     match shape P n e with
     | some ss=>if ss.length == P.cellsOf e && decide (0 < ss.length) then some [.sl ss] else none
     | none=>none
   | some (.array m e) =>
     match shape P n e with
     | some ss=>if ss.length == P.cellsOf e && P.cellsOf t == m * ss.length then some (List.replicate m ss).flatten else none
     | none=>none
   | some (.struct fs) =>
     match fieldsSh P (shape P n) fs.toList 0 with
     | some ss=>if ss.length == P.cellsOf t then some ss else none
     | none=>none
   | _=>none
mutual
def Fits : Sh → RV → Prop
 | .int k,x=>∃ n,x = .it k n ∧ (Lit.int k n).wf = true
 | .bool,x=>∃ b,x = .bo b
 | .sl ss,x=>∃ es,x = .sl ss.length es ∧ FitsE ss es
def FitsL : List Sh → List RV → Prop
 | [],xs=>xs = []
 | s :: ss,xs=>∃ y ys,xs = y :: ys ∧ Fits s y ∧ FitsL ss ys
def FitsE (ss : List Sh) : List (List RV) → Prop
 | []=>True
 | e :: es=>FitsL ss e ∧ FitsE ss es
end
theorem fitsL_append : ∀ {s1 s2 : List Sh} {x1 x2 : List RV},FitsL s1 x1 → FitsL s2 x2 → FitsL (s1 ++ s2) (x1 ++ x2)
 | [],_,_,_,h1,h2=>by simp only [FitsL] at h1; subst h1; simpa using h2
 | s :: ss, s2, x1, x2, h1, h2 => by
   simp only [FitsL] at h1
   obtain ⟨y,ys,rfl,h3,h4⟩:=h1
   simp only [List.cons_append,FitsL];exact ⟨y,_,rfl,h3,fitsL_append h4 h2⟩
theorem fitsL_length : ∀ {ss : List Sh} {xs : List RV},FitsL ss xs → xs.length = ss.length
 | [],_,h=>by simp only [FitsL] at h; subst h; rfl
 | s :: ss, _, h => by
   simp only [FitsL] at h
   obtain ⟨y,ys,rfl,_,h⟩:=h
   simp [fitsL_length h]
theorem fitsE_of : ∀ {ss : List Sh} {es : List (List RV)},(∀ e ∈ es,FitsL ss e) → FitsE ss es
 | _,[],_=>by simp only [FitsE]
 | ss,e :: es,h=>by simp only [FitsE]; exact ⟨h e (by simp),fitsE_of fun x hx=>h x (by simp [hx])⟩
theorem choice {α : Type} {Q : Nat → α → Prop} : ∀ (n : Nat),(∀ i,i < n → ∃ x,Q i x) → ∃ xs : List α,xs.length = n ∧ ∀ i x,xs[i]? = some x → Q i x
 | 0,_=>⟨[],rfl,by simp⟩
 | n + 1, h => by
   obtain ⟨xs,hl,hx⟩:=choice n fun i hi=>h i (by omega)
   obtain ⟨y,hy⟩:=h n (by omega)
   refine ⟨xs ++ [y],by simp [hl],fun i x hi=>?_⟩
   by_cases h1 : i < n
   · rw [List.getElem?_append_left (by omega)] at hi; exact hx i x hi
   · rw [List.getElem?_append_right (by omega)] at hi
     have : i = n:=by have:=(List.getElem?_eq_some_iff.1 hi).1; simp at this; omega
     subst this
     simp [hl] at hi
     exact hi ▸ hy
section
variable {w : World} {P : Program}
theorem cells?_get {base n : Nat} {a : Addr} {cs : List Value} (h : w.cells? base a n = some cs) : cs.length = n ∧ ∀ i,i < n → w.cell? (a.add i) = cs[i]?:=by
 unfold World.cells? at h
 split at h
 · exact ⟨by simpa using mapM_some_length h,fun i hi=>mapM_some_get h i i (by simp [hi])⟩
 · cases h
theorem cell_lt {a : Addr} {v : Value} (h : w.cell? a = some v) : a.block < w.heap.size:=by
 refine Decidable.byContradiction fun hn=>?_
 have : w.heap[a.block]? = none:=by simp; omega
 simp [World.cell?,this] at h
def old (w : World) : Nat → Prop:=fun b=>b < w.heap.size
theorem relC_of_cells {xs : List RV} {cs : List Value} {ad : Addr} (hV : RV.relV w (old w) xs cs) (hone : ∀ u ∈ cs,u.oneCell' = true) (hc : ∀ i,i < cs.length → w.cell? (ad.add i) = cs[i]?) : RV.relC w (old w) xs ad 0:=by
 refine RV.relC_of_get fun i x hx=>?_
 obtain ⟨u,hu,hr⟩:=RV.relV_get hV hx
 have hi:=(List.getElem?_eq_some_iff.1 hu).1
 refine ⟨u,?_,hone u (List.mem_of_getElem? hu),hr⟩
 rw [Nat.zero_add,hc i hi,hu]
variable {H : Type} {enc : TypeId × Value → H} {base : Nat} {spare : Nat → Bool} {held : Bool}
def Good3 (w : World) (ss : List Sh) (cs : List Value) : Prop:=∃ xs,FitsL ss xs ∧ RV.relV w (old w) xs cs ∧ ∀ u ∈ cs,u.oneCell' = true
theorem good3_append {s1 s2 : List Sh} {c1 c2 : List Value} (h1 : Good3 w s1 c1) (h2 : Good3 w s2 c2) : Good3 w (s1 ++ s2) (c1 ++ c2):=by
 obtain ⟨x1,f1,r1,o1⟩:=h1
 obtain ⟨x2,f2,r2,o2⟩:=h2
 refine ⟨x1 ++ x2,fitsL_append f1 f2,RV.relV_append r1 r2,fun u hu=>?_⟩
 rcases List.mem_append.1 hu with hu | hu
 · exact o1 u hu
 · exact o2 u hu
theorem good3_length {ss : List Sh} {cs : List Value} (h : Good3 w ss cs) : cs.length = ss.length:=by
 obtain ⟨xs,f,r,_⟩:=h
 rw [RV.relV_length r,fitsL_length f]
theorem trod_fits : ∀ (fuel n : Nat) (t : TypeId) (cs : List Value) (x : DataW H × List MemPlace) (ss : List Sh),DataW.trod enc P w base spare held fuel t cs = some x → shape P n t = some ss → Good3 w ss cs:=by
 intro fuel
 induction fuel with
 | zero=>intro n t cs x ss h; simp [DataW.trod] at h
 | succ fuel ih =>
   intro n t cs x ss h hs
   cases n with
   | zero=>simp [shape] at hs
   | succ n =>
     unfold shape at hs
     split at hs
     · rename_i k ht
       injection hs with hs; subst hs
       obtain ⟨m,rfl,_,hw⟩:=DataW.trod_int ht h
       exact ⟨[.it k m],by simp only [FitsL,Fits]; exact ⟨_,[],rfl,⟨m,rfl,hw⟩,rfl⟩,by simp only [RV.relV,RV.rel]; exact ⟨_,[],rfl,rfl,rfl⟩,by simp [Value.oneCell']⟩
     · rename_i ht
       injection hs with hs; subst hs
       obtain ⟨b,rfl,_⟩:=DataW.trod_bool ht h
       exact ⟨[.bo b],by simp only [FitsL,Fits]; exact ⟨_,[],rfl,⟨b,rfl⟩,rfl⟩,by simp only [RV.relV,RV.rel]; exact ⟨_,[],rfl,rfl,rfl⟩,by simp [Value.oneCell']⟩
     · rename_i e ht
       split at hs
       · rename_i es hes
         split at hs
         · rename_i hc
           simp only [Bool.and_eq_true,beq_iff_eq,decide_eq_true_eq] at hc
           injection hs with hs; subst hs
           rcases DataW.trod_slice ht h with ⟨rfl,_⟩ | ⟨a,len,cap,elems,rest,m,hm,rfl,_,_,hlc,hcm,hel,hget,_⟩
           · refine ⟨[.sl es.length []],?_,?_,by simp [Value.oneCell']⟩
             · simp only [FitsL,Fits];exact ⟨_,[],rfl,⟨[],rfl,by simp only [FitsE]⟩,rfl⟩
             · simp only [RV.relV,RV.rel];exact ⟨_,[],rfl,⟨none,0,rfl,Nat.le_refl _,Nat.zero_le _,fun h=>absurd rfl h⟩,rfl⟩
           · injection hm with hm; subst hm
             have hall : ∀ i,i < len → ∃ e',FitsL es e' ∧ e'.length = es.length ∧ RV.relC w (old w) e' (a.add (i * es.length)) 0 ∧ a.block < w.heap.size:=fun i hi=>by
              have h1:=hget i hi
              have h2 : i < elems.length:=by omega
              rw [List.getElem?_eq_getElem h2] at h1
              obtain ⟨ci,hci,htr⟩:=Option.bind_eq_some_iff.1 h1
              rw [← hc.1] at hci
              obtain ⟨hl,hcell⟩:=cells?_get hci
              obtain ⟨xs,f,r,o⟩:=ih n e ci _ es htr hes
              refine ⟨xs,f,fitsL_length f,relC_of_cells r o (fun j hj=>hcell j (by omega)),?_⟩
              have h3:=hcell 0 hc.2
              have h4 : 0 < ci.length:=by omega
              rw [List.getElem?_eq_getElem h4] at h3
              have:=cell_lt h3
              rwa [block_add,block_add] at this
             obtain ⟨els,hlen,hels⟩:=choice len hall
             refine ⟨[.sl es.length els],?_,?_,by simp [Value.oneCell']⟩
             · simp only [FitsL,Fits]
               refine ⟨_,[],rfl,⟨els,rfl,fitsE_of fun e' he'=>?_⟩,rfl⟩
               obtain ⟨i,hi⟩:=List.getElem?_of_mem he'
               exact (hels i e' hi).1
             · simp only [RV.relV,RV.rel]
               refine ⟨_,[],rfl,⟨some a,cap,by rw [hlen],by omega,hcm,fun hne=>?_⟩,rfl⟩
               obtain ⟨e0,he0⟩ : ∃ e0,els[0]? = some e0:=by
                cases els with
                | nil=>exact absurd rfl hne
                | cons a l=>exact ⟨a,rfl⟩
               refine ⟨a,rfl,(hels 0 e0 he0).2.2.2,RV.relE_of_get fun i e' he'=>?_⟩
               obtain ⟨_,q1,q2,_⟩:=hels i e' he'
               exact ⟨q1,RV.relC_unbase _ q2⟩
         · cases hs
       · cases hs
     · rename_i m e ht
       split at hs
       · rename_i es hes
         split at hs
         · rename_i hc
           simp only [Bool.and_eq_true,beq_iff_eq] at hc
           injection hs with hs; subst hs
           obtain ⟨xs,fm,hm,_,hcl,hxl,hget⟩:=DataW.trod_array ht h
           injection hm with hm; subst hm
           have key : ∀ j,j ≤ m → Good3 w (List.replicate j es).flatten (cs.take (j * es.length)):=by
            intro j
            induction j with
            | zero=>intro _; exact ⟨[],by simp [FitsL],by simp [RV.relV],by simp⟩
            | succ j ihj =>
              intro hj
              have h1:=hget j (by omega)
              have h2 : j < xs.length:=by omega
              rw [List.getElem?_eq_getElem h2,← hc.1] at h1
              have h3:=ih n e _ _ es h1 hes
              have:=good3_append (ihj (by omega)) h3
              rw [← List.take_add] at this
              rw [List.replicate_succ',List.flatten_append,Nat.add_mul]
              simpa using this
           have:=key m (Nat.le_refl _)
           rwa [← hc.2,← hcl,List.take_length] at this
         · cases hs
       · cases hs
     · rename_i fs ht
       split at hs
       · rename_i q hq
         split at hs
         · rename_i hc
           simp only [beq_iff_eq] at hc
           injection hs with hs; subst hs
           obtain ⟨xs,fm,hm,_,hcl,hxl,hget⟩:=DataW.trod_struct ht h
           injection hm with hm; subst hm
           have key : ∀ (l : List Field) (o : Nat) (q : List Sh),(∀ f ∈ l,∃ y,DataW.trod enc P w base spare held fuel f.type ((cs.drop f.offset).take (P.cellsOf f.type)) = some y) → fieldsSh P (shape P n) l o = some q → Good3 w q ((cs.drop o).take q.length):=by
            intro l
            induction l with
            | nil =>
              intro o q _ hq
              simp only [fieldsSh,Option.some.injEq] at hq
              subst hq
              exact ⟨[],by simp [FitsL],by simp [RV.relV],by simp⟩
            | cons f l ihl =>
              intro o q hall hq
              simp only [fieldsSh] at hq
              split at hq
              · rename_i s1 hs1
                split at hq
                · rename_i hc1
                  simp only [Bool.and_eq_true,beq_iff_eq] at hc1
                  split at hq
                  · rename_i q2 hq2
                    injection hq with hq; subst hq
                    obtain ⟨y,hy⟩:=hall f (by simp)
                    have g1:=ih n f.type _ _ s1 hy hs1
                    have g2:=ihl (o + s1.length) q2 (fun f' hf'=>hall f' (by simp [hf'])) hq2
                    rw [hc1.1,← hc1.2] at g1
                    have:=good3_append g1 g2
                    rw [← List.drop_drop,← List.take_add] at this
                    simpa using this
                  · cases hq
                · cases hq
              · cases hq
           have:=key fs.toList 0 q (fun f hf=>by
            obtain ⟨i,hi⟩:=List.getElem?_of_mem hf
            have hi' : fs[i]? = some f:=by simpa using hi
            have h1:=hget i f hi'
            have h2 : i < xs.length:=by have:=(Array.getElem?_eq_some_iff.1 hi').1; omega
            exact ⟨xs[i],by rw [h1]; exact List.getElem?_eq_getElem h2⟩) hq
           rwa [List.drop_zero,hc,← hcl,List.take_length] at this
         · cases hs
       · cases hs
     · cases hs
def FitsT (P : Program) (n : Nat) (t : TypeId) (x : RV) : Prop:=∃ ss,shape P n t = some ss ∧ if aggOf P t then ∃ xs,x = .ag xs ∧ FitsL ss xs else FitsL ss [x]
theorem arg_fits {n : Nat} {t : TypeId} {v : Value} {d : DataW H} {ps : List MemPlace} {r : Reach} {b0 : Nat} (hs : (shape P n t).isSome = true) (hval : Value.okWide P w r b0 t v) (h : DataW.Trod enc P w base spare held t v d ps) :
 ∃ x,FitsT P n t x ∧ x.rel w (old w) v:=by
 obtain ⟨ss,hss⟩:=Option.isSome_iff_exists.1 hs
 obtain ⟨fuel,hf⟩:=h
 obtain ⟨xs,f,r,o⟩:=trod_fits fuel n t _ _ ss hf hss
 have one : aggOf P t = false → v.cells.toList = [v] → ∃ x,FitsT P n t x ∧ x.rel w (old w) v:=fun ha hc=>by
  rw [hc] at r
  match xs,r with
  | [x], r =>
    simp only [RV.relV] at r
    obtain ⟨u,us,e,hr,_⟩:=r
    injection e with e1 e2
    subst e1
    exact ⟨x,⟨ss,hss,by rw [ha]; exact f⟩,hr⟩
  | [],r=>simp [RV.relV] at r
  | _ :: _ :: _, r =>
    simp only [RV.relV] at r
    obtain ⟨u,us,e,_,u2,us2,e2,_⟩:=r
    injection e with _ e
    rw [e2] at e; cases e
 cases n with
 | zero=>simp [shape] at hss
 | succ n =>
   have hss':=hss
   unfold shape at hss'
   split at hss'
   · rename_i k ht
     obtain ⟨m,rfl⟩:=okWide_int ht hval
     exact one (by simp [aggOf,ht]) rfl
   · rename_i ht
     obtain ⟨b,rfl⟩:=okWide_bool ht hval
     exact one (by simp [aggOf,ht]) rfl
   · rename_i e ht
     obtain ⟨a,l,c,rfl⟩:=okWide_slice ht hval
     exact one (by simp [aggOf,ht]) rfl
   · rename_i m e ht
     obtain ⟨cs,rfl⟩ : ∃ cs,v = .agg cs:=by
      simp only [Value.okWide,ht] at hval
      obtain ⟨cs,h1,_⟩:=hval
      exact ⟨cs,h1⟩
     exact ⟨.ag xs,⟨ss,hss,by simp only [aggOf,ht,if_true]; exact ⟨xs,rfl,f⟩⟩,by simp only [RV.rel]; exact ⟨cs,rfl,o,r⟩⟩
   · rename_i fs ht
     obtain ⟨cs,rfl,_⟩:=okWide_struct ht hval
     exact ⟨.ag xs,⟨ss,hss,by simp only [aggOf,ht,if_true]; exact ⟨xs,rfl,f⟩⟩,by simp only [RV.rel]; exact ⟨cs,rfl,o,r⟩⟩
   · cases hss'
theorem wf_i64 {n : Int} (h : (Lit.int .i64 n).wf = true) : -9223372036854775808 ≤ n ∧ n ≤ 9223372036854775807:=by
 simp only [Lit.wf,Bool.and_eq_true,decide_eq_true_eq] at h
 have h1 : IntKind.min .i64 = -9223372036854775808:=by decide
 have h2 : IntKind.max .i64 = 9223372036854775807:=by decide
 rw [h1,h2] at h
 exact h
theorem fitsE_ints : ∀ {es : List (List RV)},FitsE [.int .i64] es → ∃ l : List Int,es = l.map (fun x=>[.it .i64 x]) ∧ ∀ x ∈ l,-9223372036854775808 ≤ x ∧ x ≤ 9223372036854775807
 | [],_=>⟨[],rfl,by simp⟩
 | e :: es, h => by
   simp only [FitsE,FitsL,Fits] at h
   obtain ⟨⟨y,ys,rfl,⟨n,rfl,hn⟩,rfl⟩,h⟩:=h
   obtain ⟨l,rfl,hl⟩:=fitsE_ints h
   refine ⟨n :: l,rfl,fun x hx=>?_⟩
   rcases List.mem_cons.1 hx with rfl | hx
   · exact wf_i64 hn
   · exact hl x hx
theorem fitsT_ag {n : Nat} {t : TypeId} {x : RV} {ss : List Sh} (h : FitsT P n t x) (hs : shape P n t = some ss) (ha : aggOf P t = true) : ∃ xs,x = .ag xs ∧ FitsL ss xs:=by
 obtain ⟨s',h1,h2⟩:=h
 rw [hs] at h1; injection h1 with h1; subst h1
 rw [ha] at h2
 exact h2
theorem fitsT_one {n : Nat} {t : TypeId} {x : RV} {s : Sh} (h : FitsT P n t x) (hs : shape P n t = some [s]) (ha : aggOf P t = false) : Fits s x:=by
 obtain ⟨s',h1,h2⟩:=h
 rw [hs] at h1; injection h1 with h1; subst h1
 rw [ha] at h2
 simp only [Bool.false_eq_true,if_false,FitsL] at h2
 obtain ⟨y,ys,e,h3,_⟩:=h2
 injection e with e1 e2
 subst e1
 exact h3
theorem fitsT_int {n : Nat} {t : TypeId} {x : RV} (h : FitsT P n t x) (hs : shape P n t = some [.int .i64]) (ha : aggOf P t = false) : ∃ m,x = .it .i64 m ∧ -9223372036854775808 ≤ m ∧ m ≤ 9223372036854775807:=by
 have:=fitsT_one h hs ha
 simp only [Fits] at this
 obtain ⟨m,h1,h2⟩:=this
 exact ⟨m,h1,wf_i64 h2⟩
theorem fitsT_ints {n : Nat} {t : TypeId} {x : RV} (h : FitsT P n t x) (hs : shape P n t = some [.sl [.int .i64]]) (ha : aggOf P t = false) : ∃ l : List Int,x = .sl 1 (l.map (fun x=>[.it .i64 x])) ∧ ∀ x ∈ l,-9223372036854775808 ≤ x ∧ x ≤ 9223372036854775807:=by
 have:=fitsT_one h hs ha
 simp only [Fits] at this
 obtain ⟨es,h1,h2⟩:=this
 obtain ⟨l,rfl,hl⟩:=fitsE_ints h2
 exact ⟨l,h1,hl⟩
end
end Go.Oc

namespace Go.Oc
open Go Go.RowKit
theorem wf_u8 {n : Int} (h : (Lit.int .u8 n).wf = true) : 0 ≤ n ∧ n ≤ 255:=by
 simp only [Lit.wf,Bool.and_eq_true,decide_eq_true_eq] at h
 have h1 : IntKind.min .u8 = 0:=by decide
 have h2 : IntKind.max .u8 = 255:=by decide
 rw [h1,h2] at h
 exact h
theorem wf_u16 {n : Int} (h : (Lit.int .u16 n).wf = true) : 0 ≤ n ∧ n ≤ 65535:=by
 simp only [Lit.wf,Bool.and_eq_true,decide_eq_true_eq] at h
 have h1 : IntKind.min .u16 = 0:=by decide
 have h2 : IntKind.max .u16 = 65535:=by decide
 rw [h1,h2] at h
 exact h
theorem wf_u32 {n : Int} (h : (Lit.int .u32 n).wf = true) : 0 ≤ n ∧ n ≤ 4294967295:=by
 simp only [Lit.wf,Bool.and_eq_true,decide_eq_true_eq] at h
 have h1 : IntKind.min .u32 = 0:=by decide
 have h2 : IntKind.max .u32 = 4294967295:=by decide
 rw [h1,h2] at h
 exact h
theorem fitsE_u8 : ∀ {es : List (List RV)},FitsE [.int .u8] es → ∃ l : List Int,es = l.map (fun x=>[.it .u8 x]) ∧ ∀ x ∈ l,0 ≤ x ∧ x ≤ 255
 | [],_=>⟨[],rfl,by simp⟩
 | e :: es, h => by
   simp only [FitsE,FitsL,Fits] at h
   obtain ⟨⟨y,ys,rfl,⟨n,rfl,hn⟩,rfl⟩,h⟩:=h
   obtain ⟨l,rfl,hl⟩:=fitsE_u8 h
   refine ⟨n :: l,rfl,fun x hx=>?_⟩
   rcases List.mem_cons.1 hx with rfl | hx
   · exact wf_u8 hn
   · exact hl x hx
theorem fitsE_u16 : ∀ {es : List (List RV)},FitsE [.int .u16] es → ∃ l : List Int,es = l.map (fun x=>[.it .u16 x]) ∧ ∀ x ∈ l,0 ≤ x ∧ x ≤ 65535
 | [],_=>⟨[],rfl,by simp⟩
 | e :: es, h => by
   simp only [FitsE,FitsL,Fits] at h
   obtain ⟨⟨y,ys,rfl,⟨n,rfl,hn⟩,rfl⟩,h⟩:=h
   obtain ⟨l,rfl,hl⟩:=fitsE_u16 h
   refine ⟨n :: l,rfl,fun x hx=>?_⟩
   rcases List.mem_cons.1 hx with rfl | hx
   · exact wf_u16 hn
   · exact hl x hx
end Go.Oc

namespace Go.Proofs.Ytlljkgiomkmjbaa.Du
open Go Go.Oc
set_option maxRecDepth 8000
theorem wfb8 {n : Int} (h : (Lit.int .u8 n).wf = true) : ∃ k : Nat,n = k ∧ k < 256:=by
 simp only [Lit.wf,Bool.and_eq_true,decide_eq_true_eq] at h
 have h1 : IntKind.min .u8 = 0:=by decide
 have h2 : IntKind.max .u8 = 255:=by decide
 rw [h1,h2] at h
 obtain ⟨k,hk⟩:=Int.eq_ofNat_of_zero_le h.1
 exact ⟨k,hk,by omega⟩
theorem fitsL_by8 : ∀ {n : Nat} {xs : List RV},FitsL (List.replicate n (.int .u8)) xs → ∃ l : List Nat,xs = l.map u8Q ∧ l.length = n ∧ ∀ k ∈ l,k < 256
 | 0, xs, h => by
   simp only [List.replicate_zero,Oc.FitsL] at h
   subst h
   exact ⟨[],rfl,rfl,by simp⟩
 | n + 1, xs, h => by
   simp only [List.replicate_succ,Oc.FitsL,Oc.Fits] at h
   obtain ⟨_,ys,rfl,⟨a,rfl,ha⟩,h⟩:=h
   obtain ⟨k,rfl,kk⟩:=wfb8 ha
   obtain ⟨l,rfl,hn,hl⟩:=fitsL_by8 h
   refine ⟨k :: l,rfl,by simp [hn],fun x hx=>?_⟩
   rcases List.mem_cons.1 hx with rfl | hx
   · exact kk
   · exact hl x hx
theorem fitsE_by8 {m : Nat} : ∀ {es : List (List RV)},FitsE (List.replicate m (.int .u8)) es → ∃ A : List (List Nat),es = A.map (fun a=>a.map u8Q) ∧ ∀ a ∈ A,a.length = m ∧ ∀ n ∈ a,n < 256
 | [],_=>⟨[],rfl,by simp⟩
 | e :: es, h => by
   simp only [Oc.FitsE] at h
   obtain ⟨h1,h2⟩:=h
   obtain ⟨l,rfl,hn,hl⟩:=fitsL_by8 h1
   obtain ⟨A,rfl,hA⟩:=fitsE_by8 h2
   refine ⟨l :: A,rfl,fun x hx=>?_⟩
   rcases List.mem_cons.1 hx with rfl | hx
   · exact ⟨hn,hl⟩
   · exact hA x hx
theorem fits5 {x : RV} (h : FitsT Try.prog 9 5 x) : ∃ n : Nat,x = u8Q n ∧ n < 256:=by
 have:=fitsT_one (s:=.int .u8) h (by kernel_rfl) (by kernel_rfl)
 simp only [Oc.Fits] at this
 obtain ⟨m,rfl,hm⟩:=this
 obtain ⟨k,rfl,kk⟩:=wfb8 hm
 exact ⟨k,rfl,kk⟩
theorem fits22 {x : RV} (h : FitsT Try.prog 9 22 x) : ∃ A : List (List Nat),x = .sl 12 (A.map fun a=>a.map u8Q) ∧ ∀ a ∈ A,a.length = 12 ∧ ∀ n ∈ a,n < 256:=by
 have:=fitsT_one (s:=.sl (List.replicate 12 (.int .u8))) h (by kernel_rfl) (by kernel_rfl)
 simp only [Oc.Fits] at this
 obtain ⟨es,rfl,hes⟩:=this
 obtain ⟨A,rfl,hA⟩:=fitsE_by8 hes
 exact ⟨A,rfl,hA⟩
theorem fits95 {x : RV} (h : FitsT Try.prog 9 95 x) : ∃ A : List (List Nat),x = .sl 3 (A.map fun a=>a.map u8Q) ∧ ∀ a ∈ A,a.length = 3 ∧ ∀ n ∈ a,n < 256:=by
 have:=fitsT_one (s:=.sl (List.replicate 3 (.int .u8))) h (by kernel_rfl) (by kernel_rfl)
 simp only [Oc.Fits] at this
 obtain ⟨es,rfl,hes⟩:=this
 obtain ⟨A,rfl,hA⟩:=fitsE_by8 hes
 exact ⟨A,rfl,hA⟩
theorem fits47 {x : RV} (h : FitsT Try.prog 9 47 x) : ∃ l : List Nat,x = .sl 1 (l.map fun n=>[u8Q n]) ∧ ∀ n ∈ l,n < 256:=by
 have:=fitsT_one (s:=.sl (List.replicate 1 (.int .u8))) h (by kernel_rfl) (by kernel_rfl)
 simp only [Oc.Fits] at this
 obtain ⟨es,rfl,hes⟩:=this
 obtain ⟨A,rfl,hA⟩:=fitsE_by8 hes
 have key : ∀ A : List (List Nat),(∀ a ∈ A,a.length = 1 ∧ ∀ n ∈ a,n < 256) → A = A.flatten.map (fun n=>[n]) ∧ ∀ n ∈ A.flatten,n < 256:=by
  intro A
  induction A with
  | nil=>intro _; exact ⟨rfl,by simp⟩
  | cons a A ih =>
    intro h
    obtain ⟨i1,i2⟩:=ih fun b hb=>h b (by simp [hb])
    obtain ⟨h1,h2⟩:=h a (by simp)
    match a,h1,h2 with
    | [n], _, h2 =>
      refine ⟨?_,?_⟩
      · simp only [List.flatten_cons,List.singleton_append,List.map_cons];rw [← i1]
      · intro x hx
        simp only [List.flatten_cons,List.singleton_append,List.mem_cons] at hx
        rcases hx with rfl | hx
        · exact h2 _ (by simp)
        · exact i2 x hx
 obtain ⟨k1,k2⟩:=key A hA
 refine ⟨A.flatten,?_,k2⟩
 conv=>lhs; rw [k1]
 rw [List.map_map]; rfl
theorem fits71 {x : RV} (h : FitsT Try.prog 9 71 x) : ∃ a b c : Nat,x = .ag [u8Q a,u8Q b,u8Q c] ∧ a < 256 ∧ b < 256 ∧ c < 256:=by
 obtain ⟨xs,rfl,hx⟩:=fitsT_ag (ss:=List.replicate 3 (.int .u8)) h (by kernel_rfl) (by kernel_rfl)
 obtain ⟨l,rfl,hn,hl⟩:=fitsL_by8 hx
 match l,hn,hl with
 | [a,b,c],_,hl=>exact ⟨a,b,c,rfl,hl a (by simp),hl b (by simp),hl c (by simp)⟩
theorem fits23 {x : RV} (h : FitsT Try.prog 9 23 x) : ∃ a b c d e f : Nat,x = .ag [u8Q a,u8Q b,u8Q c,u8Q d,u8Q e,u8Q f] ∧ (a < 256 ∧ b < 256 ∧ c < 256) ∧ d < 256 ∧ e < 256 ∧ f < 256:=by
 obtain ⟨xs,rfl,hx⟩:=fitsT_ag (ss:=List.replicate 6 (.int .u8)) h (by kernel_rfl) (by kernel_rfl)
 obtain ⟨l,rfl,hn,hl⟩:=fitsL_by8 hx
 match l,hn,hl with
 | [a,b,c,d,e,f],_,hl=>exact ⟨a,b,c,d,e,f,rfl,⟨hl a (by simp),hl b (by simp),hl c (by simp)⟩,hl d (by simp),hl e (by simp),hl f (by simp)⟩
end Go.Proofs.Ytlljkgiomkmjbaa.Du

namespace Go.Proofs.Ytlljkgiomkmjbaa
open Go Go.Oc
theorem law3' {x0 x1 x2 : RV} (h0 : FitsT Try.prog 9 5 x0) (h1 : FitsT Try.prog 9 22 x1) (h2 : FitsT Try.prog 9 23 x2) : ACalls Try.prog 3 [x0,x1,x2] (.bo true):=by
 obtain ⟨n,rfl,hn⟩:=Du.fits5 h0
 obtain ⟨A,rfl,hA⟩:=Du.fits22 h1
 obtain ⟨a,b,c,d,e,f,rfl,k⟩:=Du.fits23 h2
 exact Du.stake_law n hn A hA a b c d e f k
end Go.Proofs.Ytlljkgiomkmjbaa


namespace Go.Proofs.Ytlljkgiomkmjbaa
open Go Go.Oc Go.ChangeShapes Go.WideShapes Go.RowKit
set_option linter.unusedVariables false
theorem own : ownKnob Try.prog.godebug = none := by kernel_rfl
theorem laidOut : laidOutB Try.prog = true := by kernel_rfl
set_option maxRecDepth 100000 in
theorem lifted (os : Os) (started : os.Started) (H : Type) (enc : TypeId × Value → H) :
    ReturnsInHanded {} Try.checked os 3 .any (Rows.topDuelStakeSpec.pre6 enc Try.prog Try.f3 Rows.topDuelStakeRow.domain false) (Rows.topDuelStakeSpec.post enc Try.prog Try.f3 false true false false) := by
  refine returnsInHanded_of_change (C := Try.checked) own started (by kernel_rfl) Try.func3
    (ChangeSpec.witness6 (enc := enc) (C := Try.checked) false ⟨#[], #[.int .u8 0, .slice none 0 0, .agg #[.int .u8 0, .int .u8 0, .int .u8 0, .int .u8 0, .int .u8 0, .int .u8 0]], []⟩ 8 (by kernel_rfl) (by kernel_rfl) (by kernel_rfl) (by kernel_rfl)) ?_
  intro W base args ds gs before hval0 hW hcnd _
  have hval : ∀ (j : Nat) t v, Try.f3.params[j]? = some t → args[j]? = some v → Value.okWide Try.prog W .any base t v := hval0
  have hW' := hW
  obtain ⟨p, q, hA0, hV, rfl, hfz, hnd⟩ := hW
  have hA : DataW.TrodAll enc Try.prog W 0 (fun _ => true) true Try.f3.params.toList args.toList ds p := hA0
  rw [Try.params3] at hA hval
  obtain ⟨v0, vs0, d0, ds0, p0, q0, hargs, rfl, rfl, h0, r0⟩ := trodAll_cons hA
  obtain ⟨v1, vs1, d1, ds1, p1, q1, rfl, rfl, rfl, h1, r1⟩ := trodAll_cons r0
  obtain ⟨v2, vs2, d2, ds2, p2, q2, rfl, rfl, rfl, h2, r2⟩ := trodAll_cons r1
  obtain ⟨rfl, rfl, rfl⟩ := trodAll_nil r2
  obtain rfl : args = #[v0, v1, v2] := by cases args; simp_all
  obtain ⟨rfl, rfl⟩ := trodVars_none hV
  have lt0 : ∀ x ∈ p0, x.block < W.heap.size := by obtain ⟨m, hm⟩ := h0; exact DataW.trod_lt m _ _ _ hm
  have lt1 : ∀ x ∈ p1, x.block < W.heap.size := by obtain ⟨m, hm⟩ := h1; exact DataW.trod_lt m _ _ _ hm
  have lt2 : ∀ x ∈ p2, x.block < W.heap.size := by obtain ⟨m, hm⟩ := h2; exact DataW.trod_lt m _ _ _ hm
  obtain ⟨x0, g0, e0⟩ := arg_fits (n := 9) (by kernel_rfl) (hval 0 5 v0 rfl rfl) h0
  obtain ⟨x1, g1, e1⟩ := arg_fits (n := 9) (by kernel_rfl) (hval 1 22 v1 rfl rfl) h1
  obtain ⟨x2, g2, e2⟩ := arg_fits (n := 9) (by kernel_rfl) (hval 2 23 v2 rfl rfl) h2
  clear hA0 hval0
  refine ((law3' g0 g1 g2).2 W (old W) #[v0, v1, v2] (fun _ h => h) (by simp only [RV.relV]; exact ⟨_, _, rfl, e0, _, _, rfl, e1, _, _, rfl, e2, rfl⟩)).mono fun e W' he => ?_
  obtain ⟨v, R', rfl, bel, _, _, _, hr⟩ := he
  simp only [RV.rel] at hr
  subst hr
  exact ⟨_, rfl, _, _, _, [], _, [], hW', trodAll_mk1 (shut_bool Try.underlying4 _), (trodAll_cons_mk (Below.trod laidOut (by kernel_rfl) (of_decide_eq_true (by kernel_rfl)) h0 bel lt0) (trodAll_cons_mk (Below.trod laidOut (by kernel_rfl) (of_decide_eq_true (by kernel_rfl)) h1 bel lt1) (trodAll_cons_mk (Below.trod laidOut (by kernel_rfl) (of_decide_eq_true (by kernel_rfl)) h2 bel lt2) trodAll_mk0))), rfl, bel.frame _, fun h => by cases h⟩
theorem over : Rows.topDuelStakeRow.holds Try.pinned (OpenSpec.ofChange Rows.topDuelStakeSpec) :=
  OpenClaim.holds_of_wide 3 Try.f3 rfl rfl rfl rfl rfl rfl rfl ⟨rfl, rfl, rfl, rfl, rfl⟩ rfl rfl rfl rfl rfl (by kernel_rfl) Try.func3 (by kernel_rfl)
    (of_decide_eq_true (by kernel_rfl)) (by unfold Func.isWrapper; first | (rw [if_pos (by decide +kernel)]; kernel_rfl) | (rw [if_neg (by decide +kernel)]; exact ⟨rfl, rfl⟩))
    (fun os started H enc _ => lifted os started H enc)
theorem topDuelStake_holds : Rows.TopDuelStakeSaid := over
#print axioms topDuelStake_holds
end Go.Proofs.Ytlljkgiomkmjbaa

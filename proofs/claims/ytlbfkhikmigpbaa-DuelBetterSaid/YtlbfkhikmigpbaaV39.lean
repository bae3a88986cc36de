/- Part 9 of the texts of this claim. -/
import Derived.Test.YtlbfkhikmigpbaaV38
import Derived.Test.YtlbfkhikmigpbaaV37
namespace Go.Proofs.Ytlbfkhikmigpbaa
open Go Go.Oc
set_option linter.unusedSimpArgs false
set_option linter.unusedVariables false
set_option maxRecDepth 8000
set_option maxHeartbeats 1000000
section
variable {P : Program} {C : Ctx} {s : AS} {Q : Exit → AS → Prop} {ops : Array Oper}
theorem sops_sx {l : List Oper} {t : TypeId} {n : Nat} {ps : List (Nat × Operand)} {d : Nat} {ty : TypeId} {pos : String} {af : Array Edge} (sz : Nat) (es : List (List RV)) (hdn : d < s.n) (hne : es ≠ [])
 (hp : (sBuildSlice P s t n (evp s ps)).pre) (hy : (sBuildSlice P s t n (evp s ps)).y = ⟨.r (.sl sz es),[]⟩)
 (h : sops P C ops l Q (s.put (some d) (.r (.sx sz es)))) : sops P C ops (⟨some d,.buildSlice t n ps.toArray,ty,pos,af,none⟩ :: l) Q s:=fun a w ⟨p,hs⟩=>by
 rw [← evp_eq] at hp hy
 unfold wpListIn
 rw [if_pos (wantA_sound hs (by simp [wantA]))]
 refine wpIn_of_wp (by intro c h; cases h) ?_
 have hAY : AY P ⟨some d,.buildSlice t n ps.toArray,ty,pos,af,none⟩ s ⟨.r (.sx sz es),[]⟩:=by
  unfold AY
  exact .inl ⟨hp,.inr ⟨rfl,sz,es,hne,hy,rfl⟩⟩
 refine AY_sound hs hAY (fun t ht=>by injection ht with ht; subst ht; exact hdn) fun a' w' p' hs'=>?_
 exact h a' w' ⟨p',hs'⟩
end
theorem half_ok (a b : Int) : ACalls Try.prog 36 [.sx 2 [[i64 a,i64 b]]] (ruV (halfR [(a,b)])):=by
 have h1:=one_ok 1
 have hm:=one_ok 1000000
 refine acalls_st (rs:=[ruV (halfR [(a,b)])]) [.cell 2 28] Try.func36 rfl (by kernel_rfl) Try.ntmps36 rfl (by simp) rfl fun C vs=>?_
 repeat refine zq ?_
 refine zb fun K hK=>?_;simp only [go_sem];(try simp (disch:=omega) only [zI]);repeat first | intro _ | refine ⟨by omega,?_⟩
 refine hK _ ?_;clear hK K;refine zw (zk [0,2]) ?_;simp only [go_sem]
 repeat refine zq ?_
 refine zb fun K hK=>?_;simp only [go_sem];(try simp (disch:=omega) only [zI])
 refine zh (h1) rfl (by simp only [go_sem,i64,ints]) (by simp only [go_sem,i64,ints]) (by first | exact .inl rfl | exact .inr rfl) ?_
 (try simp only [go_sem]);(try simp (disch:=omega) only [zI])
 refine zh (h1) rfl (by simp only [go_sem,i64,ints]) (by simp only [go_sem,i64,ints]) (by first | exact .inl rfl | exact .inr rfl) ?_
 (try simp only [go_sem]);(try simp (disch:=omega) only [zI])
 refine zh (hm) rfl (by simp only [go_sem,i64,ints]) (by simp only [go_sem,i64,ints]) (by first | exact .inl rfl | exact .inr rfl) ?_
 (try simp only [go_sem]);(try simp (disch:=omega) only [zI]);repeat first | intro _ | refine ⟨by omega,?_⟩
 refine hK _ ?_;clear hK K;refine zw (sub_frzB 2 4 14 (ty:=52) (sz:=2) (off:=0) (m:=2) (es:=[[i64 a,i64 b],[i64 1000000,i64 1000000]]) (by omega) (by omega) rfl (by simp only [go_sem,List.getElem?_cons_succ,List.getElem?_cons_zero]) (by rfl) (by simp)) ?_
 try simp only [go_sem]
 refine zw (zk [2]) ?_;simp only [go_sem];refine ze ?_;simp only [go_sem];exact ⟨rfl,rfl,rfl,rfl,rfl⟩
theorem half_nil : ACalls Try.prog 36 [.ns] (ruV (halfR [])):=by
 have h1:=one_ok 1
 have hm:=one_ok 1000000
 refine acalls_st (rs:=[ruV (halfR [])]) [.cell 2 28] Try.func36 rfl (by kernel_rfl) Try.ntmps36 rfl (by simp) rfl fun C vs=>?_
 repeat refine zq ?_
 refine zb fun K hK=>?_;simp only [go_sem];(try simp (disch:=omega) only [zI]);repeat first | intro _ | refine ⟨by omega,?_⟩
 refine hK _ ?_;clear hK K;refine zw (zk [0,2]) ?_;simp only [go_sem]
 repeat refine zq ?_
 refine zb fun K hK=>?_;simp only [go_sem];(try simp (disch:=omega) only [zI])
 refine zh (h1) rfl (by simp only [go_sem,i64,ints]) (by simp only [go_sem,i64,ints]) (by first | exact .inl rfl | exact .inr rfl) ?_
 (try simp only [go_sem]);(try simp (disch:=omega) only [zI])
 refine zh (h1) rfl (by simp only [go_sem,i64,ints]) (by simp only [go_sem,i64,ints]) (by first | exact .inl rfl | exact .inr rfl) ?_
 (try simp only [go_sem]);(try simp (disch:=omega) only [zI])
 refine zh (hm) rfl (by simp only [go_sem,i64,ints]) (by simp only [go_sem,i64,ints]) (by first | exact .inl rfl | exact .inr rfl) ?_
 (try simp only [go_sem]);(try simp (disch:=omega) only [zI]);repeat first | intro _ | refine ⟨by omega,?_⟩
 refine hK _ ?_;clear hK K;refine zw (sub_frzB 2 4 14 (ty:=52) (sz:=2) (off:=0) (m:=1) (es:=[[i64 1000000,i64 1000000]]) (by omega) (by omega) rfl (by simp only [go_sem,List.getElem?_cons_succ,List.getElem?_cons_zero]) (by rfl) (by simp)) ?_
 try simp only [go_sem]
 refine zw (zk [2]) ?_;simp only [go_sem];refine ze ?_;simp only [go_sem];exact ⟨rfl,rfl,rfl,rfl,rfl⟩
theorem half_wf (e : List Sp) : WfR (halfR e):=by
 refine ⟨⟨show (-9223372036854775808 : Int) ≤ 2 ∧ (2 : Int) ≤ 9223372036854775807 by decide,fun a ha=>?_⟩⟩
 simp only [halfR,List.mem_singleton] at ha
 subst ha
 refine ⟨by unfold I64; decide,fun c hc=>?_⟩
 simp only [List.mem_cons,List.not_mem_nil,or_false] at hc
 rcases hc with rfl | rfl <;> (unfold I64; decide)
theorem ex_table : ACalls Try.prog 16 [ruV (halfR [(0,500000)])] (.tu [tabR [[0,0,929687],[0,0,875000]],tabR [[0,0,984375],[0,0,875000]],i64 0]):=by
 have h:=table_ok (halfR [(0,500000)]) (half_wf _)
 have h0 : ruE (halfR [(0,500000)]) = 0:=by decide +kernel
 have h1 : tabF (halfR [(0,500000)]) false = [[0,0,929687],[0,0,875000]]:=by decide +kernel
 have h2 : tabF (halfR [(0,500000)]) true = [[0,0,984375],[0,0,875000]]:=by decide +kernel
 unfold tabsV at h
 rw [if_pos h0,if_pos h0,h0,h1,h2] at h
 exact h
theorem ex_toss : ACalls Try.prog 30 [ruV (halfR [(500000,500000)])] (.tu [.ag [i64 929687,i64 929688],.ag [i64 437500,i64 437500],i64 0]):=by
 have h:=toss_ok (halfR [(500000,500000)]) (half_wf _)
 have h0 : ruE (halfR [(500000,500000)]) = 0:=by decide +kernel
 have h1 : tossF (halfR [(500000,500000)]) false = 929687:=by decide +kernel
 have h2 : tossF (halfR [(500000,500000)]) true = 929688:=by decide +kernel
 have h3 : tossS (halfR [(500000,500000)]) false = 437500:=by decide +kernel
 have h4 : tossS (halfR [(500000,500000)]) true = 437500:=by decide +kernel
 unfold tossV at h
 rw [if_pos h0,if_pos h0,h0,h1,h2,h3,h4] at h
 exact h
theorem ex_odds : ∃ hi : Int,ACalls Try.prog 21 [ruV (halfR []),.ag [i64 0,i64 2,i64 2,i64 2]] (.tu [spansR [(750000,hi)],i64 0]):=by
 have h:=odds_ok (halfR []) (half_wf _) ⟨0,2,2,2⟩
 have h0 : oddsE (halfR []) ⟨0,2,2,2⟩ = 0:=by decide +kernel
 rcases odds_cases (halfR []) ⟨0,2,2,2⟩ with ⟨_,_,_,hR⟩ | ⟨hE,_⟩
 · rw [h0,hR] at h
   have h1 : oddsL (halfR []) ⟨0,2,2,2⟩ = [(750000,750000)]:=by decide +kernel
   rw [h1] at h
   exact ⟨_,h⟩
 · exact absurd h0 hE
theorem ex_aim : ACalls Try.prog 22 [ruV (halfR []),.ag [i64 0,i64 2,i64 2,i64 3]] (.tu [i64 0,i64 875000,i64 0]):=by
 have h:=aim_ok (halfR []) (half_wf _) ⟨0,2,2,3⟩
 have h0 : oddsE (halfR []) ⟨0,2,2,3⟩ = 0:=by decide +kernel
 have h1 : bestL (oddsL (halfR []) ⟨0,2,2,3⟩) = 0:=by decide +kernel
 have h2 : lowL (oddsL (halfR []) ⟨0,2,2,3⟩) = 875000:=by decide +kernel
 rw [if_pos h0,if_pos h0,h0,h1,h2] at h
 exact h
theorem ex_may : ACalls Try.prog 23 [ruV (halfR []),.ag [i64 0,i64 2,i64 2,i64 1]] (.tu [ints [0],i64 0]):=by
 have h:=may_ok (halfR []) (half_wf _) ⟨0,2,2,1⟩
 have h0 : oddsE (halfR []) ⟨0,2,2,1⟩ = 0:=by decide +kernel
 have h1 : mayL (oddsL (halfR []) ⟨0,2,2,1⟩) (lowL (oddsL (halfR []) ⟨0,2,2,1⟩)) (oddsL (halfR []) ⟨0,2,2,1⟩).length = [0]:=by decide +kernel
 rw [if_pos h0,h0,h1] at h
 exact h
theorem ex_proves : ACalls Try.prog 27 [ruV (halfR [(500000,500000)]),.sl 1 [[.sl 1 [[i64 0],[i64 0],[i64 929688]]],[.sl 1 [[i64 0],[i64 0],[i64 875000]]]],.bo false] (.tu [.bo false,i64 0,i64 2,i64 0]):=by
 have h:=proves_ok (halfR [(500000,500000)]) (half_wf _) false [[0,0,929688],[0,0,875000]]
 have h0 : provesE (halfR [(500000,500000)]) [[0,0,929688],[0,0,875000]] = 0:=by decide +kernel
 have h1 : provesO (halfR [(500000,500000)]) false [[0,0,929688],[0,0,875000]] = some (0,2):=by decide +kernel
 unfold provesR at h
 rw [if_pos h0,h1] at h
 exact h
theorem known_ok : ACalls Try.prog 13 [] (.bo true):=by
 obtain ⟨hi,hod⟩:=ex_odds
 have hta:=ex_table
 have hto:=ex_toss
 have hai:=ex_aim
 have hma:=ex_may
 have hpr:=ex_proves
 have hn:=half_nil
 have h1:=half_ok 0 500000
 have h2:=half_ok 500000 500000
 have ho:=one_ok 500000
 generalize halfR [(0,500000)] = A0 at hta h1
 generalize halfR [(500000,500000)] = A1 at hto hpr h2
 generalize halfR [] = A2 at hod hai hma hn
 refine acalls_st (rs:=[.bo true]) [.tmp 0] Try.func13 rfl (by kernel_rfl) Try.ntmps13 rfl (by simp) rfl fun C vs=>?_
 repeat refine zq ?_
 refine zb fun K hK=>?_;simp only [go_sem];(try simp (disch:=omega) only [zI]);repeat first | intro _ | refine ⟨by omega,?_⟩
 refine hK _ ?_;clear hK K
 repeat refine zq ?_
 refine awp_long ?_
 refine sops_take 1 (by kernel_rfl) fun K hK=>?_
 simp only [go_sem,List.take_succ_cons,List.take_zero,List.drop_succ_cons,List.drop_zero,List.append_eq,List.cons_append,List.nil_append];(try simp (disch:=omega) only [zI]);repeat first | intro _ | refine ⟨by omega,?_⟩
 refine hK _ rfl ?_
 clear hK K
 refine sops_sx 2 [[i64 0,i64 500000]] (by simp [go_sem]) (by simp) (by simp only [go_sem]; trivial) (by simp only [go_sem]; rfl) ?_
 try simp only [go_sem]
 refine sops_end (by kernel_rfl) fun K hK=>?_
 simp only [go_sem,List.drop_succ_cons,List.drop_zero,List.append_eq,List.cons_append,List.nil_append];(try simp (disch:=omega) only [zI])
 refine zh (h1) rfl (by simp only [go_sem,i64,ints]) (by simp only [go_sem,i64,ints]) (by first | exact .inl rfl | exact .inr rfl) ?_
 (try simp only [go_sem]);(try simp (disch:=omega) only [zI])
 refine zh (hta) rfl (by simp only [go_sem,i64,ints]) (by simp only [go_sem,i64,ints]) (by first | exact .inl rfl | exact .inr rfl) ?_
 (try simp only [go_sem]);(try simp (disch:=omega) only [zI]);repeat first | intro _ | refine ⟨by omega,?_⟩
 refine hK _ ?_;clear hK K;refine zw (zk [1,2,3]) ?_;simp only [go_sem]
 repeat refine zq ?_
 refine awp_long ?_
 refine sops_take 1 (by kernel_rfl) fun K hK=>?_
 simp only [go_sem,List.take_succ_cons,List.take_zero,List.drop_succ_cons,List.drop_zero,List.append_eq,List.cons_append,List.nil_append];(try simp (disch:=omega) only [zI])
 refine zh (ho) rfl (by simp only [go_sem,i64,ints]) (by simp only [go_sem,i64,ints]) (by first | exact .inl rfl | exact .inr rfl) ?_
 (try simp only [go_sem]);(try simp (disch:=omega) only [zI]);repeat first | intro _ | refine ⟨by omega,?_⟩
 refine hK _ rfl ?_
 clear hK K
 refine sops_sx 2 [[i64 500000,i64 500000]] (by simp [go_sem]) (by simp) (by simp only [go_sem]; trivial) (by simp only [go_sem]; rfl) ?_
 try simp only [go_sem]
 refine sops_end (by kernel_rfl) fun K hK=>?_
 simp only [go_sem,List.drop_succ_cons,List.drop_zero,List.append_eq,List.cons_append,List.nil_append];(try simp (disch:=omega) only [zI])
 refine zh (h2) rfl (by simp only [go_sem,i64,ints]) (by simp only [go_sem,i64,ints]) (by first | exact .inl rfl | exact .inr rfl) ?_
 (try simp only [go_sem]);(try simp (disch:=omega) only [zI])
 refine zh (hto) rfl (by simp only [go_sem,i64,ints]) (by simp only [go_sem,i64,ints]) (by first | exact .inl rfl | exact .inr rfl) ?_
 (try simp only [go_sem]);(try simp (disch:=omega) only [zI]);repeat first | intro _ | refine ⟨by omega,?_⟩
 refine hK _ ?_;clear hK K;refine zw (sub_frzP 4 4 [i64 929687,i64 929688] (by omega) rfl rfl) ?_;refine zw (zk [1,2,3,4,5,6]) ?_;simp only [go_sem];refine zw (sub_frzP 5 5 [i64 437500,i64 437500] (by omega) rfl rfl) ?_;refine zw (zk [1,2,3,4,5,6]) ?_;simp only [go_sem]
 repeat refine zq ?_
 refine zb fun K hK=>?_;simp only [go_sem];(try simp (disch:=omega) only [zI])
 refine zh (hn) rfl (by simp only [go_sem,i64,ints]) (by simp only [go_sem,i64,ints]) (by first | exact .inl rfl | exact .inr rfl) ?_
 (try simp only [go_sem]);(try simp (disch:=omega) only [zI])
 refine zh (hod) rfl (by simp only [go_sem,i64,ints]) (by simp only [go_sem,i64,ints]) (by first | exact .inl rfl | exact .inr rfl) ?_
 (try simp only [go_sem]);(try simp (disch:=omega) only [zI]);repeat first | intro _ | refine ⟨by omega,?_⟩
 refine hK _ ?_;clear hK K;refine zw (zk [1,2,3,4,5,6,7,8]) ?_;simp only [go_sem]
 repeat refine zq ?_
 refine zb fun K hK=>?_;simp only [go_sem];(try simp (disch:=omega) only [zI])
 refine zh (hn) rfl (by simp only [go_sem,i64,ints]) (by simp only [go_sem,i64,ints]) (by first | exact .inl rfl | exact .inr rfl) ?_
 (try simp only [go_sem]);(try simp (disch:=omega) only [zI])
 refine zh (hai) rfl (by simp only [go_sem,i64,ints]) (by simp only [go_sem,i64,ints]) (by first | exact .inl rfl | exact .inr rfl) ?_
 (try simp only [go_sem]);(try simp (disch:=omega) only [zI]);repeat first | intro _ | refine ⟨by omega,?_⟩
 refine hK _ ?_;clear hK K;refine zw (zk [1,2,3,4,5,6,7,8,9,10,11]) ?_;simp only [go_sem]
 repeat refine zq ?_
 refine zb fun K hK=>?_;simp only [go_sem];(try simp (disch:=omega) only [zI])
 refine zh (hn) rfl (by simp only [go_sem,i64,ints]) (by simp only [go_sem,i64,ints]) (by first | exact .inl rfl | exact .inr rfl) ?_
 (try simp only [go_sem]);(try simp (disch:=omega) only [zI])
 refine zh (hma) rfl (by simp only [go_sem,i64,ints]) (by simp only [go_sem,i64,ints]) (by first | exact .inl rfl | exact .inr rfl) ?_
 (try simp only [go_sem]);(try simp (disch:=omega) only [zI]);repeat first | intro _ | refine ⟨by omega,?_⟩
 refine hK _ ?_;clear hK K;refine zw (zk [1,2,3,4,5,6,7,8,9,10,11,12,13]) ?_;simp only [go_sem]
 repeat refine zq ?_
 refine awp_long ?_
 refine sops_take 1 (by kernel_rfl) fun K hK=>?_
 simp only [go_sem,List.take_succ_cons,List.take_zero,List.drop_succ_cons,List.drop_zero,List.append_eq,List.cons_append,List.nil_append];(try simp (disch:=omega) only [zI])
 refine zh (ho) rfl (by simp only [go_sem,i64,ints]) (by simp only [go_sem,i64,ints]) (by first | exact .inl rfl | exact .inr rfl) ?_
 (try simp only [go_sem]);(try simp (disch:=omega) only [zI]);repeat first | intro _ | refine ⟨by omega,?_⟩
 refine hK _ rfl ?_
 clear hK K
 refine sops_sx 2 [[i64 500000,i64 500000]] (by simp [go_sem]) (by simp) (by simp only [go_sem]; trivial) (by simp only [go_sem]; rfl) ?_
 try simp only [go_sem]
 refine sops_end (by kernel_rfl) fun K hK=>?_
 simp only [go_sem,List.drop_succ_cons,List.drop_zero,List.append_eq,List.cons_append,List.nil_append];(try simp (disch:=omega) only [zI])
 refine zh (h2) rfl (by simp only [go_sem,i64,ints]) (by simp only [go_sem,i64,ints]) (by first | exact .inl rfl | exact .inr rfl) ?_
 (try simp only [go_sem]);(try simp (disch:=omega) only [zI])
 refine zh (hpr) rfl (by simp only [go_sem,i64,ints]) (by simp only [go_sem,i64,ints]) (by first | exact .inl rfl | exact .inr rfl) ?_
 (try simp only [go_sem]);(try simp (disch:=omega) only [zI]);repeat first | intro _ | refine ⟨by omega,?_⟩
 refine hK _ ?_;clear hK K;refine zw (zk [1,2,3,4,5,6,7,8,9,10,11,12,13,14,15,16,17]) ?_;simp only [go_sem]
 repeat refine zq ?_
 refine zb fun K hK=>?_;simp only [go_sem,bne_self_eq_false,List.append_eq,List.cons_append,List.nil_append];(try simp (disch:=omega) only [zI])
 repeat intro _
 repeat first | intro _ | refine ⟨by omega,?_⟩
 refine hK _ ?_;clear hK K;refine zw (zk [1,2,4,5,7,9,10,14,15,16,120]) ?_;simp only [go_sem]
 repeat refine zq ?_
 refine zc rfl (fun hc=>?_) (fun hc=>?_) <;> (try simp only [go_sem] at hc)
 refine zx ?_
 try simp only [go_sem]
 repeat refine zq ?_
 refine zb fun K hK=>?_;simp only [go_sem,spanR,beq_self_eq_true,List.append_eq,List.cons_append,List.nil_append];(try simp (disch:=omega) only [zI])
 repeat intro _
 repeat first | intro _ | refine ⟨by omega,?_⟩
 refine hK _ ?_;clear hK K;refine zw (zk [0]) ?_;simp only [go_sem];refine ze ?_;simp only [go_sem]
end Go.Proofs.Ytlbfkhikmigpbaa

namespace Go.Oc
open Go Go.RowKit
set_option linter.unusedVariables false
set_option linter.unusedSimpArgs false
def sAppB (P : Program) (s : AS) (d : Nat) (t t' : TypeId) (x y : AV) : Res :=
 match tyq P t,decide (t = t'),x,y with
 | some ⟨.slice e esz eb _, _, _, _⟩, true, .os k n sz off m, .os j n2 sz2 off2 m2 =>
   match s.rows k,s.rows j with
   | ⟨n',.ara e' sz' cs⟩,⟨n2',.ara e2 sz2' ds⟩=>⟨(n = n' ∧ n2 = n2') ∧ (e' = e ∧ e2 = e) ∧ (sz = esz ∧ sz' = esz ∧ sz2 = esz ∧ sz2' = esz) ∧ (off = 0 ∧ off2 = 0) ∧ (cs.length = m * esz ∧ ds.length = m2 * esz) ∧ (0 < m ∧ 0 < m2 ∧ 0 < esz) ∧ (m + m2) * eb ≤ 140737488355328 ∧ m + m2 ≤ 9223372036854775807 ∧ k < 1000,True,
    ⟨.os k (n' + 1) esz 0 (m + m2),[(k,⟨n' + 1,.ara e esz (cs ++ ds)⟩)]⟩⟩
   | _,_=>.bad
 | some ⟨.slice e esz eb _, _, _, _⟩, true, .r .ns, .os j n2 sz2 off2 m2 =>
   match s.rows j with
   | ⟨n2',.ara e2 sz2' ds⟩=>⟨n2 = n2' ∧ e2 = e ∧ (sz2 = esz ∧ sz2' = esz) ∧ off2 = 0 ∧ ds.length = m2 * esz ∧ (0 < m2 ∧ 0 < esz) ∧ m2 * eb ≤ 140737488355328 ∧ m2 ≤ 9223372036854775807 ∧ d < 1000,True,
    ⟨.os d ((s.rows d).ver + 1) esz 0 m2,[(d,⟨(s.rows d).ver + 1,.ara e esz ds⟩)]⟩⟩
   | _=>.bad
 | _,_,_,_=>.bad
section
variable {P : Program} {C : Ctx} {p : Plan} {s : AS} {a : Act} {w : World} {o : Oper}
theorem ara_read (h : SR C p s a w) {k n esz e m : Nat} {cs : List AV} {x : Operand} (e3 : s.ev x = .os k n esz 0 m) (e5 : s.rows k = ⟨n,.ara e esz cs⟩) (hm : cs.length = m * esz) (h0 : 0 < m) :
 ∃ b cells l rest, p.β k = some b ∧ a.eval x = .slice (some ⟨b, 0, none⟩) m (p.γ k) ∧ w.heap[b]? = some (.cells cells e (0, 0)) ∧ cells.size = p.γ k * esz ∧ cells.toList = l ++ rest ∧ AV.relV w p s.ver cs l ∧ (∀ u ∈ l, u.oneCell' = true) ∧ l.length = m * esz ∧
   m ≤ p.γ k ∧ ∀ j u,l[j]? = some u → w.cell? ((⟨b,0,none⟩ : Addr).add j) = some u:=by
 have hver : n = s.ver k:=by simp [AS.ver,e5]
 have hrow:=h.rw k
 rw [e5] at hrow
 simp only [rowRel] at hrow
 obtain ⟨b,cells,hβ,hh,hcs,l,rest,hl,hV,h1⟩:=hrow
 rcases ev_os h e3 hver with ⟨hb0,_⟩ | ⟨b',A,hβ',hv,hle,hA⟩
 · rw [hb0] at hβ; cases hβ
 · rw [hβ] at hβ'
   injection hβ' with hβ'
   subst hβ'
   obtain rfl:=hA (.inl h0)
   simp only [Nat.zero_mul,Nat.sub_zero,Nat.zero_add] at hv hle
   refine ⟨b,cells,l,rest,hβ,hv,hh,hcs,hl,hV,h1,by rw [AV.relV_length hV,hm],hle,fun j u hj=>?_⟩
   rw [add_at,Nat.zero_add,cell_of_row w b j cells e (0,0) hh,← Array.getElem?_toList,hl,List.getElem?_append_left (List.getElem?_eq_some_iff.1 hj).1]
   exact hj
theorem good_appB {x y : Operand} {t t' : TypeId} (h : SR C p s a w) (ho : o.op = .call ⟨.builtin .append,#[x,y],#[t,t']⟩) (hp : (sAppB P s (o.dst.getD 0) t t' (s.ev x) (s.ev y)).pre) :
 Done P C o s a w (sAppB P s (o.dst.getD 0) t t' (s.ev x) (s.ev y)):=by
 have go : ∀ {v : Value} {w2 : World},(Builtin.append_ #[t,t'] o.type #[a.eval x,a.eval y]).run P w = .ok v w2 → (execOp a.eval o).run P w = .ok (.value v) w2:=fun hr =>
  run_builtin_of ho (by simp only [builtin,Sem.run_bind,List.map_toArray,List.map_cons,List.map_nil,hr,Result.andThen_ok,Sem.run_pure])
 unfold sAppB at hp ⊢
 split at hp
 · rename_i e esz eb ez ssz sagg sz0 k n sz off m j n2 sz2 off2 m2 e1 e2 e3 e4
   obtain rfl : t = t':=by simpa using e2
   split at hp
   · rename_i n' e' sz' cs n2' ee sz2' ds e5 e6
     obtain ⟨⟨g1,g2⟩,⟨g3,g4⟩,⟨g5,g6,g7,g8⟩,⟨g9,g10⟩,⟨hm,hm2⟩,⟨h0,h02,hpos⟩,hb,hmax,hk0⟩:=hp
     subst g1 g2 g3 g4 g5 g6 g7 g8 g9 g10
     have hn2 : n = (s.rows k).ver:=by rw [e5]
     obtain ⟨b,cells,l,rest,hβ,hv,hh,hcs,hl,hV,h1,hll,hle,hget⟩:=ara_read h e3 e5 hm h0
     obtain ⟨bj,cellsj,vs,restj,hβj,hvj,hhj,hcsj,hlj,hVj,h1j,hlv,hlej,hgv⟩:=ara_read h e4 e6 hm2 h02
     obtain ⟨hu,hok,hco,hby,zv,hzv,hez⟩:=tyq_slice e1
     obtain ⟨i,z,hi,hzero,hcells,hz1,hzl⟩:=zeroOf_spec hzv
     rw [cellsOf_info hi] at hco
     rw [bytesOf_info hi] at hby
     by_cases hroom : m + m2 ≤ p.γ k
     · have hfit : m * sz2' + vs.length ≤ cells.size:=by
        rw [hlv,hcs,← Nat.add_mul]; exact Nat.mul_le_mul_right _ hroom
       have hr:=run_append_room (P:=P) w t o.type ee i hu hi b m (p.γ k) cells hh ⟨bj,0,none⟩ m2 (p.γ j) vs (by rw [hlv,hco]) hgv h1j hroom (by rw [hco]; exact hfit)
       rw [hco] at hr
       have htk : cells.toList.take (m * sz2') = l:=by rw [hl,← hll,List.take_left]
       have hSR:=h.reRow (w':=w.setRow b (cells.toList.take (m * sz2') ++ vs ++ cells.toList.drop (m * sz2' + vs.length)).toArray) k hk0 (.ara ee sz2' (cs ++ ds)) rfl (some b) (p.γ k) (h.cap k) rfl rfl rfl (by simp)
        (fun j _ hj=>setRow_other w b j _ (fun e=>hj (by rw [e]; exact hβ))) (fun b2 h2=>by injection h2 with h2; subst h2; exact ⟨by simpa using (h.bl k _ hβ).1,.inl hβ⟩) (fun p' ver' hR' hβ' hγ' hk=>by
        simp only [rowRel];rw [hγ']
        refine ⟨b,_,hβ',setRow_heap w b cells _ ee _ hh,?_,l ++ vs,cells.toList.drop (m * sz2' + vs.length),by rw [htk],?_,fun u hu=>(List.mem_append.1 hu).elim (h1 u) (h1j u)⟩
        · simp; omega
        · exact AV.relV_append (AV.relV_mono hk _ _ hV) (AV.relV_mono hk _ _ hVj))
       refine ⟨_,.slice (some ⟨b,0,none⟩) (m + m2) (p.γ k),_,{ p with β:=upd p.β k (some b),γ:=upd p.γ k (p.γ k) },go (by rw [hv,hvj]; exact hr),.inl rfl,trivial,?_,?_⟩
       · rw [rows_one,hn2]; exact hSR
       · rw [rows_one,hn2]
         simp only [AV.rel,vers,upd_same];exact ⟨Nat.le_refl _,fun _=>.inr ⟨b,_,rfl,by simp; rfl,by simpa using hroom,fun _=>by simp⟩⟩
     · have hr:=run_append_grow (P:=P) w t o.type ee i z hu hi hzero ⟨b,0,none⟩ m (p.γ k) l (by rw [hll,hco]) hget ⟨bj,0,none⟩ m2 (p.γ j) vs (by rw [hlv,hco]) hgv (by omega) (by omega)
        (growslice_fits (by omega) (by rw [hby]; exact hb))
       have hge:=grownCap_ge w (m + m2) (p.γ k) ee
       have hcap:=grownCap_le_maxLen w (m + m2) (p.γ k) ee (by simp only [maxLen]; omega)
       have hzc : z.cells.size = sz2':=by rw [cellsOf_info hi,hco] at hzl; rw [← hzl,← hcells]; simp
       have hd : SR C p s a w.drew:=h.below (w':=w.drew) ((Below.refl _ _).drew) (fun _ h=>h) (fun _ h=>.inl h) h.rb
       have hVd : AV.relV w.drew p s.ver cs l:=by
        obtain ⟨b3,cells3,hβ3,hh3,_,l3,rest3,hl3,hV3,_⟩ : ∃ b cells,p.β k = some b ∧ w.drew.heap[b]? = some (.cells cells ee (0,0)) ∧ cells.size = p.γ k * sz2' ∧ ∃ l rest,cells.toList = l ++ rest ∧ AV.relV w.drew p s.ver cs l ∧ ∀ u ∈ l,u.oneCell' = true:=by
         have:=hd.rw k
         rw [e5] at this
         simpa only [rowRel] using this
        rw [hβ] at hβ3; injection hβ3 with hβ3; subst hβ3
        have hh3' : w.heap[b]? = some (.cells cells3 ee (0,0)):=hh3
        rw [hh] at hh3'; injection hh3' with hh3'; injection hh3' with hh3'; subst hh3'
        have e7 : l3 = l:=by
         have e8:=AV.relV_length hV3
         rw [hl] at hl3
         have : l.length = l3.length:=by rw [hll,← hm]; exact e8.symm
         exact (List.append_inj hl3 this).1.symm
        subst e7
        exact hV3
       have hVjd : AV.relV w.drew p s.ver ds vs:=by
        obtain ⟨b3,cells3,hβ3,hh3,_,l3,rest3,hl3,hV3,_⟩ : ∃ b cells,p.β j = some b ∧ w.drew.heap[b]? = some (.cells cells ee (0,0)) ∧ cells.size = p.γ j * sz2' ∧ ∃ l rest,cells.toList = l ++ rest ∧ AV.relV w.drew p s.ver ds l ∧ ∀ u ∈ l,u.oneCell' = true:=by
         have:=hd.rw j
         rw [e6] at this
         simpa only [rowRel] using this
        rw [hβj] at hβ3; injection hβ3 with hβ3; subst hβ3
        have hh3' : w.heap[bj]? = some (.cells cells3 ee (0,0)):=hh3
        rw [hhj] at hh3'; injection hh3' with hh3'; injection hh3' with hh3'; subst hh3'
        have e7 : l3 = vs:=by
         have e8:=AV.relV_length hV3
         rw [hlj] at hl3
         have : vs.length = l3.length:=by rw [hlv,← hm2]; exact e8.symm
         exact (List.append_inj hl3 this).1.symm
        subst e7
        exact hV3
       have hn:=hd.newRow k hk0 (.ara ee sz2' (cs ++ ds)) rfl (grownCap w (m + m2) (p.γ k) ee) hcap
        (.cells (l.toArray ++ vs.toArray ++ Builtin.zeroCells z.cells (grownCap w (m + m2) (p.γ k) ee - (m + m2))) ee) (fun p' ver' _ hβ hγ hk=>by
        simp only [rowRel];rw [hγ]
        refine ⟨_,_,hβ,heap_alloc_new w.drew _,?_,l ++ vs,(Builtin.zeroCells z.cells (grownCap w (m + m2) (p.γ k) ee - (m + m2))).toList,?_,AV.relV_append (AV.relV_mono hk _ _ hVd) (AV.relV_mono hk _ _ hVjd),fun u hu=>(List.mem_append.1 hu).elim (h1 u) (h1j u)⟩
        · rw [Array.size_append,Array.size_append,size_zero,hzc,List.size_toArray,List.size_toArray,hll,hlv,← Nat.add_mul,← Nat.add_mul]
          congr 1; omega
        · simp only [Array.toList_append,List.append_assoc])
       refine ⟨_,_,_,_,go (by rw [hv,hvj]; exact hr),.inl rfl,trivial,by rw [rows_one,hn2]; exact hn,?_⟩
       rw [rows_one,hn2]
       simp only [AV.rel,vers,upd_same];exact ⟨Nat.le_refl _,fun _=>.inr ⟨_,_,rfl,by simp; rfl,by simpa using hge,fun _=>by simp⟩⟩
   · exact hp.elim
 · rename_i e esz eb ez ssz sagg sz0 j n2 sz2 off2 m2 e1 e2 e3 e4
   obtain rfl : t = t':=by simpa using e2
   split at hp
   · rename_i n2' ee sz2' ds e6
     obtain ⟨g2,g4,⟨g7,g8⟩,g10,hm2,⟨h02,hpos⟩,hb,hmax,hd0⟩:=hp
     subst g2 g4 g7 g8 g10
     obtain ⟨A,hv⟩:=ev_ns h e3
     obtain ⟨bj,cellsj,vs,restj,hβj,hvj,hhj,hcsj,hlj,hVj,h1j,hlv,hlej,hgv⟩:=ara_read h e4 e6 hm2 h02
     obtain ⟨hu,hok,hco,hby,zv,hzv,hez⟩:=tyq_slice e1
     obtain ⟨i,z,hi,hzero,hcells,hz1,hzl⟩:=zeroOf_spec hzv
     rw [cellsOf_info hi] at hco
     rw [bytesOf_info hi] at hby
     have hrun : (Builtin.append_ #[t,t] o.type #[.slice A 0 0,.slice (some ⟨bj,0,none⟩) m2 (p.γ j)]).run P w =
      .ok (.slice (some ⟨w.heap.size,0,none⟩) m2 (grownCap w m2 0 ee)) (w.drew.alloc (.cells (vs.toArray ++ Builtin.zeroCells z.cells (grownCap w m2 0 ee - m2)) ee)):=by
      cases A with
      | none=>exact run_append_nil (P:=P) w t o.type ee i z hu hi hzero ⟨bj,0,none⟩ m2 (p.γ j) vs (by rw [hlv,hco]) hgv h02 (by omega) (by rw [hby]; omega)
      | some b =>
        have:=run_append_grow (P:=P) w t o.type ee i z hu hi hzero b 0 0 [] (by simp) (by simp) ⟨bj,0,none⟩ m2 (p.γ j) vs (by rw [hlv,hco]) hgv (by omega) (by omega) (growslice_fits (by omega) (by rw [hby]; simpa using hb))
        simpa using this
     have hge:=grownCap_ge w m2 0 ee
     have hcap:=grownCap_le_maxLen w m2 0 ee (by simp only [maxLen]; omega)
     have hzc : z.cells.size = sz2':=by rw [cellsOf_info hi,hco] at hzl; rw [← hzl,← hcells]; simp
     have hd : SR C p s a w.drew:=h.below (w':=w.drew) ((Below.refl _ _).drew) (fun _ h=>h) (fun _ h=>.inl h) h.rb
     have hVjd : AV.relV w.drew p s.ver ds vs:=by
      obtain ⟨b3,cells3,hβ3,hh3,_,l3,rest3,hl3,hV3,_⟩ : ∃ b cells,p.β j = some b ∧ w.drew.heap[b]? = some (.cells cells ee (0,0)) ∧ cells.size = p.γ j * sz2' ∧ ∃ l rest,cells.toList = l ++ rest ∧ AV.relV w.drew p s.ver ds l ∧ ∀ u ∈ l,u.oneCell' = true:=by
       have:=hd.rw j
       rw [e6] at this
       simpa only [rowRel] using this
      rw [hβj] at hβ3; injection hβ3 with hβ3; subst hβ3
      have hh3' : w.heap[bj]? = some (.cells cells3 ee (0,0)):=hh3
      rw [hhj] at hh3'; injection hh3' with hh3'; injection hh3' with hh3'; subst hh3'
      have e7 : l3 = vs:=by
       have e8:=AV.relV_length hV3
       rw [hlj] at hl3
       have : vs.length = l3.length:=by rw [hlv,← hm2]; exact e8.symm
       exact (List.append_inj hl3 this).1.symm
      subst e7
      exact hV3
     have hn:=hd.newRow (o.dst.getD 0) hd0 (.ara ee sz2' ds) rfl (grownCap w m2 0 ee) hcap
      (.cells (vs.toArray ++ Builtin.zeroCells z.cells (grownCap w m2 0 ee - m2)) ee) (fun p' ver' _ hβ hγ hk=>by
      simp only [rowRel];rw [hγ]
      refine ⟨_,_,hβ,heap_alloc_new w.drew _,?_,vs,(Builtin.zeroCells z.cells (grownCap w m2 0 ee - m2)).toList,?_,AV.relV_mono hk _ _ hVjd,h1j⟩
      · rw [Array.size_append,size_zero,hzc,List.size_toArray,hlv,← Nat.add_mul]
        congr 1; omega
      · simp only [Array.toList_append])
     refine ⟨_,_,_,_,go (by rw [hv,hvj]; exact hrun),.inl rfl,trivial,by rw [rows_one]; exact hn,?_⟩
     rw [rows_one]
     simp only [AV.rel,vers,upd_same];exact ⟨Nat.le_refl _,fun _=>.inr ⟨_,_,rfl,by simp; rfl,by simpa using hge,fun _=>by simp⟩⟩
   · exact hp.elim
 · exact hp.elim
variable {Q : Exit → AS → Prop} {ops : Array Oper}
theorem sops_appB {l : List Oper} {t t' : TypeId} {x y : Operand} {d : Nat} {ty : TypeId} {pos : String} {af : Array Edge} (hdn : d < s.n)
 (h : aR s (some d) (sAppB P s d t t' (s.ev x) (s.ev y)) (fun s'=>sops P C ops l Q s')) : sops P C ops (⟨some d,.call ⟨.builtin .append,#[x,y],#[t,t']⟩,ty,pos,af,none⟩ :: l) Q s:=fun a w ⟨p,hs⟩=>by
 unfold wpListIn
 rw [if_pos (wantA_sound hs (by simp [wantA]))]
 refine wpIn_of_wp (by intro c h; cases h) ?_
 obtain ⟨nx,v,w',p',hrun,hnx,hass,hSR,hrel⟩:=good_appB (o:=⟨some d,.call ⟨.builtin .append,#[x,y],#[t,t']⟩,ty,pos,af,none⟩) hs rfl h.1
 unfold Oper.wp
 rw [hrun]
 have hput:=hSR.put' (d:=some d) hrel (fun t ht=>by injection ht with ht; subst ht; exact hdn)
 rcases hnx with rfl | ⟨rfl,rfl⟩
 · exact h.2 hass _ _ ⟨p',hput⟩
 · exact h.2 hass _ _ ⟨p',hput⟩
end
end Go.Oc

namespace Go.Proofs.Ytlbfkhikmigpbaa
open Go Go.Oc
set_option linter.unusedSimpArgs false
set_option linter.unusedVariables false
set_option maxRecDepth 8000
set_option maxHeartbeats 2000000
theorem rules_newE (r : Ru) (hlen : r.aims.length ≤ 1000000) (hne : 1 ≤ r.ends.length) (hends : r.ends.length ≤ 1000000) (hb : ∀ a ∈ r.aims,a.beds.length ≤ 1000000) :
 NCalls Try.prog 14 [ruV r] [(10,.arr 52 2 (r.ends.map spanR))] (.ag [.r (i64 r.d),.r (aimsR r.aims),.r (i64 r.start),.r (i64 r.out),.os 10 0 2 0 r.ends.length]):=by
 refine ncalls_st (n:=42) _ _ (.cell 2 28) Try.func14 rfl (by kernel_rfl) Try.ntmps14 rfl (by simp) rfl rfl fun C hC=>?_
 repeat refine zq ?_
 refine zb fun K hK=>?_;simp only [go_sem];(try simp (disch:=omega) only [zI]);repeat first | intro _ | refine ⟨by omega,?_⟩
 refine hK _ ?_;clear hK K;refine zw (sub_frzP 1 1 (ruC r) (by omega) rfl rfl) ?_;refine zw (zk [1,2]) ?_;simp only [go_sem]
 repeat refine zq ?_
 refine zb fun K hK=>?_;simp only [go_sem];(try simp (disch:=omega) only [zI]);repeat first | intro _ | refine ⟨by omega,?_⟩
 refine hK _ ?_;clear hK K;refine zw (zk [1,2,3]) ?_;simp only [go_sem]
 repeat refine zq ?_
 refine zb fun K hK=>?_;simp only [go_sem];(try simp (disch:=omega) only [zI]);repeat first | intro _ | refine ⟨by omega,?_⟩
 refine hK _ ?_;clear hK K;refine zw (zk [1,2,3]) ?_;simp only [go_sem];refine zw (sub_ownB 3 1 38 78 2 (by omega) (by omega) rfl (by simp only [go_sem,List.getElem?_cons_succ,List.getElem?_cons_zero])) ?_
 try simp only [go_sem]
 repeat refine zq ?_
 refine zb fun K hK=>?_;simp only [go_sem];(try simp (disch:=omega) only [zI]);repeat first | intro _ | refine ⟨by omega,?_⟩
 refine hK _ ?_;clear hK K;refine zw (zk [1,2,3,4]) ?_;simp only [go_sem]
 repeat refine zq ?_
 refine zd ?_
 refine awp_uptoV (n:=42) r.aims.length (fun i vs=>[(1,.r (.rp (ruC r))),(2,.pt 2 (vs 2) 0),(3,.pt 3 (vs 3) 0),(4,.r (i64 (i : Int)))])
  (fun i vs=>[(2,.box [.r (i64 0),.r .ns,.r (i64 0),.r (i64 0),.r .ns]),(3,.box [.r (i64 r.d),.os 38 (vs 38) 2 0 i,.r (i64 r.start),.r (i64 r.out),.os 10 (vs 10) 2 0 r.ends.length]),(10,.arr 52 2 (r.ends.map spanR)),(38,.arr 78 2 ((r.aims.take i).map aimR))]) (fun _=>True) 0 (zj [] ?_ ?_) (Nat.zero_le _) trivial ?_
 · try simp only [go_sem]
 · try simp only [go_sem]
 · intro i vs hi _
   repeat refine zq ?_
   refine zb fun K hK=>?_;simp only [go_sem];(try simp (disch:=omega) only [zI]);repeat first | intro _ | refine ⟨by omega,?_⟩
   refine hK _ ?_;clear hK K;refine zw (zk [1,2,3,4,19]) ?_;simp only [go_sem]
   repeat refine zq ?_
   refine zc rfl (fun hc=>?_) (fun hc=>?_) <;> (try simp only [go_sem] at hc)
   · have hci : i < r.aims.length:=by omega
     obtain ⟨a,ha⟩:=opt_of_lt hci
     have hal:=hb a (mem_of_opt ha)
     have hli : ((r.aims.take i).map aimR).length = i:=by rw [List.length_map,List.length_take]; omega
     have htk : (r.aims.take (i + 1)).map aimR = (r.aims.take i).map aimR ++ [aimR a]:=by rw [take_of_opt ha]; simp
     refine zx ?_
     try simp only [go_sem]
     repeat refine zq ?_
     refine zd ?_
     repeat refine zq ?_
     refine zb fun K hK=>?_;simp only [go_sem,ha,hci,aimR];(try simp (disch:=omega) only [zI]);repeat first | intro _ | refine ⟨by omega,?_⟩
     refine hK _ ?_;clear hK K;refine zw (zk [1,2,3,4,5]) ?_;simp only [go_sem]
     repeat refine zq ?_
     refine zb fun K hK=>?_;simp only [go_sem];(try simp (disch:=omega) only [zI]);repeat first | intro _ | refine ⟨by omega,?_⟩
     refine hK _ ?_;clear hK K;refine zw (sub_frzB 5 1 31 (ty:=90) (sz:=3) (off:=0) (m:=a.beds.length) (es:=a.beds.map bedR) (by omega) (by omega) rfl (by simp only [go_sem,List.getElem?_cons_succ,List.getElem?_cons_zero]) (by rfl) (by simp)) ?_
     have e2 : ((a.beds.map bedR).drop 0).take a.beds.length = a.beds.map bedR:=by
      rw [List.drop_zero,List.take_of_length_le (by simp)]
     rw [e2]
     refine zw (zk [1,2,3,4,5]) ?_;simp only [go_sem]
     repeat refine zq ?_
     refine zb fun K hK=>?_;simp only [go_sem,hli];(try simp (disch:=omega) only [zI]);repeat first | intro _ | refine ⟨by omega,?_⟩
     refine hK _ ?_;clear hK K;refine zw (zk [1,2,3,4]) ?_;simp only [go_sem]
     repeat refine zq ?_
     refine zb fun K hK=>?_;simp only [go_sem];(try simp (disch:=omega) only [zI]);repeat first | intro _ | refine ⟨by omega,?_⟩
     refine hK _ ?_;clear hK K
     try simp only [go_sem]
     refine ⟨by omega,zj [5] ?_ ?_⟩
     · try simp only [go_sem]
     · try simp only [go_sem]
       rw [htk]
       rfl
   · have hil : i = r.aims.length:=by omega
     subst hil
     rw [List.take_length]
     refine zf ?_;simp only [go_sem];refine zw (sub_frzB 3 1 38 (ty:=78) (sz:=2) (off:=0) (m:=r.aims.length) (es:=r.aims.map aimR) (by omega) (by omega) rfl (by simp only [go_sem,List.getElem?_cons_succ,List.getElem?_cons_zero]) (by rfl) (by simp)) ?_
     have e2 : ((r.aims.map aimR).drop 0).take r.aims.length = r.aims.map aimR:=by
      rw [List.drop_zero,List.take_of_length_le (by simp)]
     rw [e2]
     refine zw (zk [2,3]) ?_;simp only [go_sem]
     repeat refine zq ?_
     refine zb fun K hK=>?_;simp only [go_sem];(try simp (disch:=omega) only [zI]);repeat first | intro _ | refine ⟨by omega,?_⟩
     refine hK _ ?_;clear hK K;refine zw (zk [2]) ?_;simp only [go_sem];refine ze ?_
     try simp only [go_sem]
def raX (i : Nat) (vs : Nat → Nat) : AV:=if i = 0 then .r .ns else .os 38 (vs 38) 2 0 i
def raR (r : Ru) (a b c : Am) (i : Nat) (vs : Nat → Nat) : List (Nat × RowC) :=
 (2,.box [.r (i64 0),.r .ns,.r (i64 0),.r (i64 0),.r .ns]) :: (3,.box [.r (i64 r.d),raX i vs,.r (i64 r.start),.r (i64 r.out),.os 10 (vs 10) 2 0 r.ends.length]) :: (10,.arr 52 2 (r.ends.map spanR)) ::
 (if i = 0 then [] else if i = 1 then [(38,.ara 78 2 [.r (i64 a.at_),.os 500 (vs 500) 3 0 a.beds.length]),(500,.arr 90 3 (a.beds.map bedR))]
  else if i = 2 then [(38,.ara 78 2 [.r (i64 a.at_),.os 500 (vs 500) 3 0 a.beds.length,.r (i64 b.at_),.os 501 (vs 501) 3 0 b.beds.length]),(500,.arr 90 3 (a.beds.map bedR)),(501,.arr 90 3 (b.beds.map bedR))]
  else [(38,.ara 78 2 [.r (i64 a.at_),.os 500 (vs 500) 3 0 a.beds.length,.r (i64 b.at_),.os 501 (vs 501) 3 0 b.beds.length,.r (i64 c.at_),.os 502 (vs 502) 3 0 c.beds.length]),(500,.arr 90 3 (a.beds.map bedR)),(501,.arr 90 3 (b.beds.map bedR)),(502,.arr 90 3 (c.beds.map bedR))])
theorem rules_newA1 (r : Ru) (a : Am) (hr : r.aims = [a]) (hne : 1 ≤ r.ends.length) (hends : r.ends.length ≤ 1000000) (ha : 1 ≤ a.beds.length ∧ a.beds.length ≤ 1000000) :
 NCalls Try.prog 14 [ruV r] [(10,.arr 52 2 (r.ends.map spanR)),(38,.ara 78 2 [.r (i64 a.at_),.os 500 0 3 0 a.beds.length]),(500,.arr 90 3 (a.beds.map bedR))] (.ag [.r (i64 r.d),.os 38 0 2 0 1,.r (i64 r.start),.r (i64 r.out),.os 10 0 2 0 r.ends.length]):=by
 refine ncalls_st (n:=42) _ _ (.cell 2 28) Try.func14 rfl (by kernel_rfl) Try.ntmps14 rfl (by simp) rfl rfl fun C hC=>?_
 have hrl : r.aims.length = 1:=by rw [hr]; rfl
 repeat refine zq ?_
 refine zb fun K hK=>?_;simp only [go_sem];(try simp (disch:=omega) only [zI]);repeat first | intro _ | refine ⟨by omega,?_⟩
 refine hK _ ?_;clear hK K;refine zw (sub_frzP 1 1 (ruC r) (by omega) rfl rfl) ?_;refine zw (zk [1,2]) ?_;simp only [go_sem]
 repeat refine zq ?_
 refine zb fun K hK=>?_;simp only [go_sem];(try simp (disch:=omega) only [zI]);repeat first | intro _ | refine ⟨by omega,?_⟩
 refine hK _ ?_;clear hK K;refine zw (zk [1,2,3]) ?_;simp only [go_sem]
 repeat refine zq ?_
 refine zb fun K hK=>?_;simp only [go_sem];(try simp (disch:=omega) only [zI]);repeat first | intro _ | refine ⟨by omega,?_⟩
 refine hK _ ?_;clear hK K;refine zw (zk [1,2,3]) ?_;simp only [go_sem]
 repeat refine zq ?_
 refine zb fun K hK=>?_;simp only [go_sem];(try simp (disch:=omega) only [zI]);repeat first | intro _ | refine ⟨by omega,?_⟩
 refine hK _ ?_;clear hK K;refine zw (zk [1,2,3,4]) ?_;simp only [go_sem]
 repeat refine zq ?_
 refine zd ?_
 refine awp_uptoV (n:=42) 1 (fun i vs=>[(1,.r (.rp (ruC r))),(2,.pt 2 (vs 2) 0),(3,.pt 3 (vs 3) 0),(4,.r (i64 (i : Int)))])
  (raR r a a a) (fun _=>True) 0 (zj [] ?_ ?_) (Nat.zero_le _) trivial ?_
 · try simp only [go_sem]
 · simp only [raR,raX,if_true]
   try simp only [go_sem]
 · intro i vs hi _
   rcases (show i = 0 ∨ i = 1 by omega) with rfl | rfl
   · simp only [raR,raX,if_true]
     have hx : r.aims[0]? = some a:=by rw [hr]; rfl
     have hci : 0 < r.aims.length:=by omega
     repeat refine zq ?_
     refine zb fun K hK=>?_;simp only [go_sem,hrl];(try simp (disch:=omega) only [zI]);repeat first | intro _ | refine ⟨by omega,?_⟩
     refine hK _ ?_;clear hK K;refine zw (zk [1,2,3,4,19]) ?_;simp only [go_sem]
     repeat refine zq ?_
     refine zc rfl (fun hc=>?_) (fun hc=>?_) <;> (try simp only [go_sem] at hc)
     refine zx ?_
     try simp only [go_sem]
     repeat refine zq ?_
     refine zd ?_
     repeat refine zq ?_
     refine zb fun K hK=>?_;simp only [go_sem,hx,hci,aimR];(try simp (disch:=omega) only [zI]);repeat first | intro _ | refine ⟨by omega,?_⟩
     refine hK _ ?_;clear hK K;refine zw (zk [1,2,3,4,5]) ?_;simp only [go_sem]
     repeat refine zq ?_
     refine awp_long ?_
     refine sops_take 4 (by kernel_rfl) fun K hK=>?_
     simp only [go_sem,List.take_succ_cons,List.take_zero,List.drop_succ_cons,List.drop_zero,List.append_eq,List.cons_append,List.nil_append];(try simp (disch:=omega) only [zI]);repeat first | intro _ | refine ⟨by omega,?_⟩
     refine hK _ rfl ?_
     clear hK K
     refine sops_sub (sub_move (sz:=3) (off:=0) (m:=a.beds.length) (ty:=90) (sz':=3) (es:=a.beds.map bedR) 31 31 500 (by omega) (by omega) (by omega) (by try simp only [go_sem]) (by rfl) (by rfl)) ?_
     refine sops_sub (zk [1,2,3,4,5,31]) ?_
     simp only [go_sem]
     refine sops_end (by kernel_rfl) fun K hK=>?_
     simp only [go_sem,List.drop_succ_cons,List.drop_zero,List.append_eq,List.cons_append,List.nil_append];(try simp (disch:=omega) only [zI]);repeat first | intro _ | refine ⟨by omega,?_⟩
     refine hK _ ?_;clear hK K;refine zw (zk [1,2,3,4,5]) ?_;simp only [go_sem]
     repeat refine zq ?_
     refine awp_long ?_
     refine sops_take 4 (by kernel_rfl) fun K hK=>?_
     simp only [go_sem,List.take_succ_cons,List.take_zero,List.drop_succ_cons,List.drop_zero,List.append_eq,List.cons_append,List.nil_append];(try simp (disch:=omega) only [zI]);repeat first | intro _ | refine ⟨by omega,?_⟩
     refine hK _ rfl ?_
     clear hK K
     refine sops_sub (zk [1,2,3,4,35,36]) ?_
     simp only [go_sem]
     refine sops_litB (by simp [go_sem]) ?_
     simp only [go_sem,sLitBox,lay,List.replicate_succ,List.replicate_zero,List.flatten_cons,List.flatten_nil,List.map_cons,List.map_nil,List.cons_append,List.nil_append]
     repeat first | refine ⟨by omega,?_⟩
     refine sops_appB (by simp [go_sem]) ?_
     simp only [go_sem,sAppB,List.length_cons,List.length_nil,decide_true]
     refine sops_end (by kernel_rfl) fun K hK=>?_
     simp only [go_sem,List.drop_succ_cons,List.drop_zero,List.append_eq,List.cons_append,List.nil_append];(try simp (disch:=omega) only [zI]);repeat first | intro _ | refine ⟨by omega,?_⟩
     refine hK _ ?_;clear hK K;refine zw (zk [1,2,3,4]) ?_;simp only [go_sem]
     repeat refine zq ?_
     refine zb fun K hK=>?_;simp only [go_sem];(try simp (disch:=omega) only [zI]);repeat first | intro _ | refine ⟨by omega,?_⟩
     refine hK _ ?_;clear hK K
     try simp only [go_sem]
     first | refine zj [5,37] ?_ ?_ | refine ⟨by omega,zj [5,37] ?_ ?_⟩
     · try simp only [go_sem]
     · simp only [raR,raX,if_neg (show ¬ (0 + 1 : Nat) = 0 by omega),if_true]
       try simp only [go_sem]
       try rfl
   · simp only [raR,raX,if_neg (show ¬ (1 : Nat) = 0 by omega),if_true]
     repeat refine zq ?_
     refine zb fun K hK=>?_;simp only [go_sem,hrl];(try simp (disch:=omega) only [zI]);repeat first | intro _ | refine ⟨by omega,?_⟩
     refine hK _ ?_;clear hK K;refine zw (zk [1,2,3,4,19]) ?_;simp only [go_sem]
     repeat refine zq ?_
     refine zc rfl (fun hc=>?_) (fun hc=>?_) <;> (try simp only [go_sem] at hc)
     refine zf ?_;simp only [go_sem];refine zw (zk [2,3]) ?_;simp only [go_sem]
     repeat refine zq ?_
     refine zb fun K hK=>?_;simp only [go_sem];(try simp (disch:=omega) only [zI]);repeat first | intro _ | refine ⟨by omega,?_⟩
     refine hK _ ?_;clear hK K;refine zw (zk [2]) ?_;simp only [go_sem];refine ze ?_
     try simp only [go_sem]
theorem rules_newA2 (r : Ru) (a b : Am) (hr : r.aims = [a,b]) (hne : 1 ≤ r.ends.length) (hends : r.ends.length ≤ 1000000) (ha : 1 ≤ a.beds.length ∧ a.beds.length ≤ 1000000) (hb : 1 ≤ b.beds.length ∧ b.beds.length ≤ 1000000) :
 NCalls Try.prog 14 [ruV r] [(10,.arr 52 2 (r.ends.map spanR)),(38,.ara 78 2 [.r (i64 a.at_),.os 500 0 3 0 a.beds.length,.r (i64 b.at_),.os 501 0 3 0 b.beds.length]),(500,.arr 90 3 (a.beds.map bedR)),(501,.arr 90 3 (b.beds.map bedR))] (.ag [.r (i64 r.d),.os 38 0 2 0 2,.r (i64 r.start),.r (i64 r.out),.os 10 0 2 0 r.ends.length]):=by
 refine ncalls_st (n:=42) _ _ (.cell 2 28) Try.func14 rfl (by kernel_rfl) Try.ntmps14 rfl (by simp) rfl rfl fun C hC=>?_
 have hrl : r.aims.length = 2:=by rw [hr]; rfl
 repeat refine zq ?_
 refine zb fun K hK=>?_;simp only [go_sem];(try simp (disch:=omega) only [zI]);repeat first | intro _ | refine ⟨by omega,?_⟩
 refine hK _ ?_;clear hK K;refine zw (sub_frzP 1 1 (ruC r) (by omega) rfl rfl) ?_;refine zw (zk [1,2]) ?_;simp only [go_sem]
 repeat refine zq ?_
 refine zb fun K hK=>?_;simp only [go_sem];(try simp (disch:=omega) only [zI]);repeat first | intro _ | refine ⟨by omega,?_⟩
 refine hK _ ?_;clear hK K;refine zw (zk [1,2,3]) ?_;simp only [go_sem]
 repeat refine zq ?_
 refine zb fun K hK=>?_;simp only [go_sem];(try simp (disch:=omega) only [zI]);repeat first | intro _ | refine ⟨by omega,?_⟩
 refine hK _ ?_;clear hK K;refine zw (zk [1,2,3]) ?_;simp only [go_sem]
 repeat refine zq ?_
 refine zb fun K hK=>?_;simp only [go_sem];(try simp (disch:=omega) only [zI]);repeat first | intro _ | refine ⟨by omega,?_⟩
 refine hK _ ?_;clear hK K;refine zw (zk [1,2,3,4]) ?_;simp only [go_sem]
 repeat refine zq ?_
 refine zd ?_
 refine awp_uptoV (n:=42) 2 (fun i vs=>[(1,.r (.rp (ruC r))),(2,.pt 2 (vs 2) 0),(3,.pt 3 (vs 3) 0),(4,.r (i64 (i : Int)))])
  (raR r a b a) (fun _=>True) 0 (zj [] ?_ ?_) (Nat.zero_le _) trivial ?_
 · try simp only [go_sem]
 · simp only [raR,raX,if_true]
   try simp only [go_sem]
 · intro i vs hi _
   rcases (show i = 0 ∨ i = 1 ∨ i = 2 by omega) with rfl | rfl | rfl
   · simp only [raR,raX,if_true]
     have hx : r.aims[0]? = some a:=by rw [hr]; rfl
     have hci : 0 < r.aims.length:=by omega
     repeat refine zq ?_
     refine zb fun K hK=>?_;simp only [go_sem,hrl];(try simp (disch:=omega) only [zI]);repeat first | intro _ | refine ⟨by omega,?_⟩
     refine hK _ ?_;clear hK K;refine zw (zk [1,2,3,4,19]) ?_;simp only [go_sem]
     repeat refine zq ?_
     refine zc rfl (fun hc=>?_) (fun hc=>?_) <;> (try simp only [go_sem] at hc)
     refine zx ?_
     try simp only [go_sem]
     repeat refine zq ?_
     refine zd ?_
     repeat refine zq ?_
     refine zb fun K hK=>?_;simp only [go_sem,hx,hci,aimR];(try simp (disch:=omega) only [zI]);repeat first | intro _ | refine ⟨by omega,?_⟩
     refine hK _ ?_;clear hK K;refine zw (zk [1,2,3,4,5]) ?_;simp only [go_sem]
     repeat refine zq ?_
     refine awp_long ?_
     refine sops_take 4 (by kernel_rfl) fun K hK=>?_
     simp only [go_sem,List.take_succ_cons,List.take_zero,List.drop_succ_cons,List.drop_zero,List.append_eq,List.cons_append,List.nil_append];(try simp (disch:=omega) only [zI]);repeat first | intro _ | refine ⟨by omega,?_⟩
     refine hK _ rfl ?_
     clear hK K
     refine sops_sub (sub_move (sz:=3) (off:=0) (m:=a.beds.length) (ty:=90) (sz':=3) (es:=a.beds.map bedR) 31 31 500 (by omega) (by omega) (by omega) (by try simp only [go_sem]) (by rfl) (by rfl)) ?_
     refine sops_sub (zk [1,2,3,4,5,31]) ?_
     simp only [go_sem]
     refine sops_end (by kernel_rfl) fun K hK=>?_
     simp only [go_sem,List.drop_succ_cons,List.drop_zero,List.append_eq,List.cons_append,List.nil_append];(try simp (disch:=omega) only [zI]);repeat first | intro _ | refine ⟨by omega,?_⟩
     refine hK _ ?_;clear hK K;refine zw (zk [1,2,3,4,5]) ?_;simp only [go_sem]
     repeat refine zq ?_
     refine awp_long ?_
     refine sops_take 4 (by kernel_rfl) fun K hK=>?_
     simp only [go_sem,List.take_succ_cons,List.take_zero,List.drop_succ_cons,List.drop_zero,List.append_eq,List.cons_append,List.nil_append];(try simp (disch:=omega) only [zI]);repeat first | intro _ | refine ⟨by omega,?_⟩
     refine hK _ rfl ?_
     clear hK K
     refine sops_sub (zk [1,2,3,4,35,36]) ?_
     simp only [go_sem]
     refine sops_litB (by simp [go_sem]) ?_
     simp only [go_sem,sLitBox,lay,List.replicate_succ,List.replicate_zero,List.flatten_cons,List.flatten_nil,List.map_cons,List.map_nil,List.cons_append,List.nil_append]
     repeat first | refine ⟨by omega,?_⟩
     refine sops_appB (by simp [go_sem]) ?_
     simp only [go_sem,sAppB,List.length_cons,List.length_nil,decide_true]
     refine sops_end (by kernel_rfl) fun K hK=>?_
     simp only [go_sem,List.drop_succ_cons,List.drop_zero,List.append_eq,List.cons_append,List.nil_append];(try simp (disch:=omega) only [zI]);repeat first | intro _ | refine ⟨by omega,?_⟩
     refine hK _ ?_;clear hK K;refine zw (zk [1,2,3,4]) ?_;simp only [go_sem]
     repeat refine zq ?_
     refine zb fun K hK=>?_;simp only [go_sem];(try simp (disch:=omega) only [zI]);repeat first | intro _ | refine ⟨by omega,?_⟩
     refine hK _ ?_;clear hK K
     try simp only [go_sem]
     first | refine zj [5,37] ?_ ?_ | refine ⟨by omega,zj [5,37] ?_ ?_⟩
     · try simp only [go_sem]
     · simp only [raR,raX,if_neg (show ¬ (0 + 1 : Nat) = 0 by omega),if_true]
       try simp only [go_sem]
       try rfl
   · simp only [raR,raX,if_neg (show ¬ (1 : Nat) = 0 by omega),if_true]
     have hx : r.aims[1]? = some b:=by rw [hr]; rfl
     have hci : 1 < r.aims.length:=by omega
     repeat refine zq ?_
     refine zb fun K hK=>?_;simp only [go_sem,hrl];(try simp (disch:=omega) only [zI]);repeat first | intro _ | refine ⟨by omega,?_⟩
     refine hK _ ?_;clear hK K;refine zw (zk [1,2,3,4,19]) ?_;simp only [go_sem]
     repeat refine zq ?_
     refine zc rfl (fun hc=>?_) (fun hc=>?_) <;> (try simp only [go_sem] at hc)
     refine zx ?_
     try simp only [go_sem]
     repeat refine zq ?_
     refine zd ?_
     repeat refine zq ?_
     refine zb fun K hK=>?_;simp only [go_sem,hx,hci,aimR];(try simp (disch:=omega) only [zI]);repeat first | intro _ | refine ⟨by omega,?_⟩
     refine hK _ ?_;clear hK K;refine zw (zk [1,2,3,4,5]) ?_;simp only [go_sem]
     repeat refine zq ?_
     refine awp_long ?_
     refine sops_take 4 (by kernel_rfl) fun K hK=>?_
     simp only [go_sem,List.take_succ_cons,List.take_zero,List.drop_succ_cons,List.drop_zero,List.append_eq,List.cons_append,List.nil_append];(try simp (disch:=omega) only [zI]);repeat first | intro _ | refine ⟨by omega,?_⟩
     refine hK _ rfl ?_
     clear hK K
     refine sops_sub (sub_move (sz:=3) (off:=0) (m:=b.beds.length) (ty:=90) (sz':=3) (es:=b.beds.map bedR) 31 31 501 (by omega) (by omega) (by omega) (by try simp only [go_sem]) (by rfl) (by rfl)) ?_
     refine sops_sub (zk [1,2,3,4,5,31]) ?_
     simp only [go_sem]
     refine sops_end (by kernel_rfl) fun K hK=>?_
     simp only [go_sem,List.drop_succ_cons,List.drop_zero,List.append_eq,List.cons_append,List.nil_append];(try simp (disch:=omega) only [zI]);repeat first | intro _ | refine ⟨by omega,?_⟩
     refine hK _ ?_;clear hK K;refine zw (zk [1,2,3,4,5]) ?_;simp only [go_sem]
     repeat refine zq ?_
     refine awp_long ?_
     refine sops_take 4 (by kernel_rfl) fun K hK=>?_
     simp only [go_sem,List.take_succ_cons,List.take_zero,List.drop_succ_cons,List.drop_zero,List.append_eq,List.cons_append,List.nil_append];(try simp (disch:=omega) only [zI]);repeat first | intro _ | refine ⟨by omega,?_⟩
     refine hK _ rfl ?_
     clear hK K
     refine sops_sub (zk [1,2,3,4,35,36]) ?_
     simp only [go_sem]
     refine sops_litB (by simp [go_sem]) ?_
     simp only [go_sem,sLitBox,lay,List.replicate_succ,List.replicate_zero,List.flatten_cons,List.flatten_nil,List.map_cons,List.map_nil,List.cons_append,List.nil_append]
     repeat first | refine ⟨by omega,?_⟩
     refine sops_appB (by simp [go_sem]) ?_
     simp only [go_sem,sAppB,List.length_cons,List.length_nil,decide_true]
     refine sops_end (by kernel_rfl) fun K hK=>?_
     simp only [go_sem,List.drop_succ_cons,List.drop_zero,List.append_eq,List.cons_append,List.nil_append];(try simp (disch:=omega) only [zI]);repeat first | intro _ | refine ⟨by omega,?_⟩
     refine hK _ ?_;clear hK K;refine zw (zk [1,2,3,4]) ?_;simp only [go_sem]
     repeat refine zq ?_
     refine zb fun K hK=>?_;simp only [go_sem];(try simp (disch:=omega) only [zI]);repeat first | intro _ | refine ⟨by omega,?_⟩
     refine hK _ ?_;clear hK K
     try simp only [go_sem]
     first | refine zj [5,37] ?_ ?_ | refine ⟨by omega,zj [5,37] ?_ ?_⟩
     · try simp only [go_sem]
     · simp only [raR,raX,if_neg (show ¬ (1 + 1 : Nat) = 0 by omega),if_neg (show ¬ (1 + 1 : Nat) = 1 by omega),if_true]
       try simp only [go_sem]
       try rfl
   · simp only [raR,raX,if_neg (show ¬ (2 : Nat) = 0 by omega),if_neg (show ¬ (2 : Nat) = 1 by omega),if_true]
     repeat refine zq ?_
     refine zb fun K hK=>?_;simp only [go_sem,hrl];(try simp (disch:=omega) only [zI]);repeat first | intro _ | refine ⟨by omega,?_⟩
     refine hK _ ?_;clear hK K;refine zw (zk [1,2,3,4,19]) ?_;simp only [go_sem]
     repeat refine zq ?_
     refine zc rfl (fun hc=>?_) (fun hc=>?_) <;> (try simp only [go_sem] at hc)
     refine zf ?_;simp only [go_sem];refine zw (zk [2,3]) ?_;simp only [go_sem]
     repeat refine zq ?_
     refine zb fun K hK=>?_;simp only [go_sem];(try simp (disch:=omega) only [zI]);repeat first | intro _ | refine ⟨by omega,?_⟩
     refine hK _ ?_;clear hK K;refine zw (zk [2]) ?_;simp only [go_sem];refine ze ?_
     try simp only [go_sem]
theorem rules_newA3 (r : Ru) (a b c : Am) (hr : r.aims = [a,b,c]) (hne : 1 ≤ r.ends.length) (hends : r.ends.length ≤ 1000000) (ha : 1 ≤ a.beds.length ∧ a.beds.length ≤ 1000000) (hb : 1 ≤ b.beds.length ∧ b.beds.length ≤ 1000000) (hc : 1 ≤ c.beds.length ∧ c.beds.length ≤ 1000000) :
 NCalls Try.prog 14 [ruV r] [(10,.arr 52 2 (r.ends.map spanR)),(38,.ara 78 2 [.r (i64 a.at_),.os 500 0 3 0 a.beds.length,.r (i64 b.at_),.os 501 0 3 0 b.beds.length,.r (i64 c.at_),.os 502 0 3 0 c.beds.length]),(500,.arr 90 3 (a.beds.map bedR)),(501,.arr 90 3 (b.beds.map bedR)),(502,.arr 90 3 (c.beds.map bedR))] (.ag [.r (i64 r.d),.os 38 0 2 0 3,.r (i64 r.start),.r (i64 r.out),.os 10 0 2 0 r.ends.length]):=by
 refine ncalls_st (n:=42) _ _ (.cell 2 28) Try.func14 rfl (by kernel_rfl) Try.ntmps14 rfl (by simp) rfl rfl fun C hC=>?_
 have hrl : r.aims.length = 3:=by rw [hr]; rfl
 repeat refine zq ?_
 refine zb fun K hK=>?_;simp only [go_sem];(try simp (disch:=omega) only [zI]);repeat first | intro _ | refine ⟨by omega,?_⟩
 refine hK _ ?_;clear hK K;refine zw (sub_frzP 1 1 (ruC r) (by omega) rfl rfl) ?_;refine zw (zk [1,2]) ?_;simp only [go_sem]
 repeat refine zq ?_
 refine zb fun K hK=>?_;simp only [go_sem];(try simp (disch:=omega) only [zI]);repeat first | intro _ | refine ⟨by omega,?_⟩
 refine hK _ ?_;clear hK K;refine zw (zk [1,2,3]) ?_;simp only [go_sem]
 repeat refine zq ?_
 refine zb fun K hK=>?_;simp only [go_sem];(try simp (disch:=omega) only [zI]);repeat first | intro _ | refine ⟨by omega,?_⟩
 refine hK _ ?_;clear hK K;refine zw (zk [1,2,3]) ?_;simp only [go_sem]
 repeat refine zq ?_
 refine zb fun K hK=>?_;simp only [go_sem];(try simp (disch:=omega) only [zI]);repeat first | intro _ | refine ⟨by omega,?_⟩
 refine hK _ ?_;clear hK K;refine zw (zk [1,2,3,4]) ?_;simp only [go_sem]
 repeat refine zq ?_
 refine zd ?_
 refine awp_uptoV (n:=42) 3 (fun i vs=>[(1,.r (.rp (ruC r))),(2,.pt 2 (vs 2) 0),(3,.pt 3 (vs 3) 0),(4,.r (i64 (i : Int)))])
  (raR r a b c) (fun _=>True) 0 (zj [] ?_ ?_) (Nat.zero_le _) trivial ?_
 · try simp only [go_sem]
 · simp only [raR,raX,if_true]
   try simp only [go_sem]
 · intro i vs hi _
   rcases (show i = 0 ∨ i = 1 ∨ i = 2 ∨ i = 3 by omega) with rfl | rfl | rfl | rfl
   · simp only [raR,raX,if_true]
     have hx : r.aims[0]? = some a:=by rw [hr]; rfl
     have hci : 0 < r.aims.length:=by omega
     repeat refine zq ?_
     refine zb fun K hK=>?_;simp only [go_sem,hrl];(try simp (disch:=omega) only [zI]);repeat first | intro _ | refine ⟨by omega,?_⟩
     refine hK _ ?_;clear hK K;refine zw (zk [1,2,3,4,19]) ?_;simp only [go_sem]
     repeat refine zq ?_
     refine zc rfl (fun hc=>?_) (fun hc=>?_) <;> (try simp only [go_sem] at hc)
     refine zx ?_
     try simp only [go_sem]
     repeat refine zq ?_
     refine zd ?_
     repeat refine zq ?_
     refine zb fun K hK=>?_;simp only [go_sem,hx,hci,aimR];(try simp (disch:=omega) only [zI]);repeat first | intro _ | refine ⟨by omega,?_⟩
     refine hK _ ?_;clear hK K;refine zw (zk [1,2,3,4,5]) ?_;simp only [go_sem]
     repeat refine zq ?_
     refine awp_long ?_
     refine sops_take 4 (by kernel_rfl) fun K hK=>?_
     simp only [go_sem,List.take_succ_cons,List.take_zero,List.drop_succ_cons,List.drop_zero,List.append_eq,List.cons_append,List.nil_append];(try simp (disch:=omega) only [zI]);repeat first | intro _ | refine ⟨by omega,?_⟩
     refine hK _ rfl ?_
     clear hK K
     refine sops_sub (sub_move (sz:=3) (off:=0) (m:=a.beds.length) (ty:=90) (sz':=3) (es:=a.beds.map bedR) 31 31 500 (by omega) (by omega) (by omega) (by try simp only [go_sem]) (by rfl) (by rfl)) ?_
     refine sops_sub (zk [1,2,3,4,5,31]) ?_
     simp only [go_sem]
     refine sops_end (by kernel_rfl) fun K hK=>?_
     simp only [go_sem,List.drop_succ_cons,List.drop_zero,List.append_eq,List.cons_append,List.nil_append];(try simp (disch:=omega) only [zI]);repeat first | intro _ | refine ⟨by omega,?_⟩
     refine hK _ ?_;clear hK K;refine zw (zk [1,2,3,4,5]) ?_;simp only [go_sem]
     repeat refine zq ?_
     refine awp_long ?_
     refine sops_take 4 (by kernel_rfl) fun K hK=>?_
     simp only [go_sem,List.take_succ_cons,List.take_zero,List.drop_succ_cons,List.drop_zero,List.append_eq,List.cons_append,List.nil_append];(try simp (disch:=omega) only [zI]);repeat first | intro _ | refine ⟨by omega,?_⟩
     refine hK _ rfl ?_
     clear hK K
     refine sops_sub (zk [1,2,3,4,35,36]) ?_
     simp only [go_sem]
     refine sops_litB (by simp [go_sem]) ?_
     simp only [go_sem,sLitBox,lay,List.replicate_succ,List.replicate_zero,List.flatten_cons,List.flatten_nil,List.map_cons,List.map_nil,List.cons_append,List.nil_append]
     repeat first | refine ⟨by omega,?_⟩
     refine sops_appB (by simp [go_sem]) ?_
     simp only [go_sem,sAppB,List.length_cons,List.length_nil,decide_true]
     refine sops_end (by kernel_rfl) fun K hK=>?_
     simp only [go_sem,List.drop_succ_cons,List.drop_zero,List.append_eq,List.cons_append,List.nil_append];(try simp (disch:=omega) only [zI]);repeat first | intro _ | refine ⟨by omega,?_⟩
     refine hK _ ?_;clear hK K;refine zw (zk [1,2,3,4]) ?_;simp only [go_sem]
     repeat refine zq ?_
     refine zb fun K hK=>?_;simp only [go_sem];(try simp (disch:=omega) only [zI]);repeat first | intro _ | refine ⟨by omega,?_⟩
     refine hK _ ?_;clear hK K
     try simp only [go_sem]
     first | refine zj [5,37] ?_ ?_ | refine ⟨by omega,zj [5,37] ?_ ?_⟩
     · try simp only [go_sem]
     · simp only [raR,raX,if_neg (show ¬ (0 + 1 : Nat) = 0 by omega),if_true]
       try simp only [go_sem]
       try rfl
   · simp only [raR,raX,if_neg (show ¬ (1 : Nat) = 0 by omega),if_true]
     have hx : r.aims[1]? = some b:=by rw [hr]; rfl
     have hci : 1 < r.aims.length:=by omega
     repeat refine zq ?_
     refine zb fun K hK=>?_;simp only [go_sem,hrl];(try simp (disch:=omega) only [zI]);repeat first | intro _ | refine ⟨by omega,?_⟩
     refine hK _ ?_;clear hK K;refine zw (zk [1,2,3,4,19]) ?_;simp only [go_sem]
     repeat refine zq ?_
     refine zc rfl (fun hc=>?_) (fun hc=>?_) <;> (try simp only [go_sem] at hc)
     refine zx ?_
     try simp only [go_sem]
     repeat refine zq ?_
     refine zd ?_
     repeat refine zq ?_
     refine zb fun K hK=>?_;simp only [go_sem,hx,hci,aimR];(try simp (disch:=omega) only [zI]);repeat first | intro _ | refine ⟨by omega,?_⟩
     refine hK _ ?_;clear hK K;refine zw (zk [1,2,3,4,5]) ?_;simp only [go_sem]
     repeat refine zq ?_
     refine awp_long ?_
     refine sops_take 4 (by kernel_rfl) fun K hK=>?_
     simp only [go_sem,List.take_succ_cons,List.take_zero,List.drop_succ_cons,List.drop_zero,List.append_eq,List.cons_append,List.nil_append];(try simp (disch:=omega) only [zI]);repeat first | intro _ | refine ⟨by omega,?_⟩
     refine hK _ rfl ?_
     clear hK K
     refine sops_sub (sub_move (sz:=3) (off:=0) (m:=b.beds.length) (ty:=90) (sz':=3) (es:=b.beds.map bedR) 31 31 501 (by omega) (by omega) (by omega) (by try simp only [go_sem]) (by rfl) (by rfl)) ?_
     refine sops_sub (zk [1,2,3,4,5,31]) ?_
     simp only [go_sem]
     refine sops_end (by kernel_rfl) fun K hK=>?_
     simp only [go_sem,List.drop_succ_cons,List.drop_zero,List.append_eq,List.cons_append,List.nil_append];(try simp (disch:=omega) only [zI]);repeat first | intro _ | refine ⟨by omega,?_⟩
     refine hK _ ?_;clear hK K;refine zw (zk [1,2,3,4,5]) ?_;simp only [go_sem]
     repeat refine zq ?_
     refine awp_long ?_
     refine sops_take 4 (by kernel_rfl) fun K hK=>?_
     simp only [go_sem,List.take_succ_cons,List.take_zero,List.drop_succ_cons,List.drop_zero,List.append_eq,List.cons_append,List.nil_append];(try simp (disch:=omega) only [zI]);repeat first | intro _ | refine ⟨by omega,?_⟩
     refine hK _ rfl ?_
     clear hK K
     refine sops_sub (zk [1,2,3,4,35,36]) ?_
     simp only [go_sem]
     refine sops_litB (by simp [go_sem]) ?_
     simp only [go_sem,sLitBox,lay,List.replicate_succ,List.replicate_zero,List.flatten_cons,List.flatten_nil,List.map_cons,List.map_nil,List.cons_append,List.nil_append]
     repeat first | refine ⟨by omega,?_⟩
     refine sops_appB (by simp [go_sem]) ?_
     simp only [go_sem,sAppB,List.length_cons,List.length_nil,decide_true]
     refine sops_end (by kernel_rfl) fun K hK=>?_
     simp only [go_sem,List.drop_succ_cons,List.drop_zero,List.append_eq,List.cons_append,List.nil_append];(try simp (disch:=omega) only [zI]);repeat first | intro _ | refine ⟨by omega,?_⟩
     refine hK _ ?_;clear hK K;refine zw (zk [1,2,3,4]) ?_;simp only [go_sem]
     repeat refine zq ?_
     refine zb fun K hK=>?_;simp only [go_sem];(try simp (disch:=omega) only [zI]);repeat first | intro _ | refine ⟨by omega,?_⟩
     refine hK _ ?_;clear hK K
     try simp only [go_sem]
     first | refine zj [5,37] ?_ ?_ | refine ⟨by omega,zj [5,37] ?_ ?_⟩
     · try simp only [go_sem]
     · simp only [raR,raX,if_neg (show ¬ (1 + 1 : Nat) = 0 by omega),if_neg (show ¬ (1 + 1 : Nat) = 1 by omega),if_true]
       try simp only [go_sem]
       try rfl
   · simp only [raR,raX,if_neg (show ¬ (2 : Nat) = 0 by omega),if_neg (show ¬ (2 : Nat) = 1 by omega),if_true]
     have hx : r.aims[2]? = some c:=by rw [hr]; rfl
     have hci : 2 < r.aims.length:=by omega
     repeat refine zq ?_
     refine zb fun K hK=>?_;simp only [go_sem,hrl];(try simp (disch:=omega) only [zI]);repeat first | intro _ | refine ⟨by omega,?_⟩
     refine hK _ ?_;clear hK K;refine zw (zk [1,2,3,4,19]) ?_;simp only [go_sem]
     repeat refine zq ?_
     refine zc rfl (fun hc=>?_) (fun hc=>?_) <;> (try simp only [go_sem] at hc)
     refine zx ?_
     try simp only [go_sem]
     repeat refine zq ?_
     refine zd ?_
     repeat refine zq ?_
     refine zb fun K hK=>?_;simp only [go_sem,hx,hci,aimR];(try simp (disch:=omega) only [zI]);repeat first | intro _ | refine ⟨by omega,?_⟩
     refine hK _ ?_;clear hK K;refine zw (zk [1,2,3,4,5]) ?_;simp only [go_sem]
     repeat refine zq ?_
     refine awp_long ?_
     refine sops_take 4 (by kernel_rfl) fun K hK=>?_
     simp only [go_sem,List.take_succ_cons,List.take_zero,List.drop_succ_cons,List.drop_zero,List.append_eq,List.cons_append,List.nil_append];(try simp (disch:=omega) only [zI]);repeat first | intro _ | refine ⟨by omega,?_⟩
     refine hK _ rfl ?_
     clear hK K
     refine sops_sub (sub_move (sz:=3) (off:=0) (m:=c.beds.length) (ty:=90) (sz':=3) (es:=c.beds.map bedR) 31 31 502 (by omega) (by omega) (by omega) (by try simp only [go_sem]) (by rfl) (by rfl)) ?_
     refine sops_sub (zk [1,2,3,4,5,31]) ?_
     simp only [go_sem]
     refine sops_end (by kernel_rfl) fun K hK=>?_
     simp only [go_sem,List.drop_succ_cons,List.drop_zero,List.append_eq,List.cons_append,List.nil_append];(try simp (disch:=omega) only [zI]);repeat first | intro _ | refine ⟨by omega,?_⟩
     refine hK _ ?_;clear hK K;refine zw (zk [1,2,3,4,5]) ?_;simp only [go_sem]
     repeat refine zq ?_
     refine awp_long ?_
     refine sops_take 4 (by kernel_rfl) fun K hK=>?_
     simp only [go_sem,List.take_succ_cons,List.take_zero,List.drop_succ_cons,List.drop_zero,List.append_eq,List.cons_append,List.nil_append];(try simp (disch:=omega) only [zI]);repeat first | intro _ | refine ⟨by omega,?_⟩
     refine hK _ rfl ?_
     clear hK K
     refine sops_sub (zk [1,2,3,4,35,36]) ?_
     simp only [go_sem]
     refine sops_litB (by simp [go_sem]) ?_
     simp only [go_sem,sLitBox,lay,List.replicate_succ,List.replicate_zero,List.flatten_cons,List.flatten_nil,List.map_cons,List.map_nil,List.cons_append,List.nil_append]
     repeat first | refine ⟨by omega,?_⟩
     refine sops_appB (by simp [go_sem]) ?_
     simp only [go_sem,sAppB,List.length_cons,List.length_nil,decide_true]
     refine sops_end (by kernel_rfl) fun K hK=>?_
     simp only [go_sem,List.drop_succ_cons,List.drop_zero,List.append_eq,List.cons_append,List.nil_append];(try simp (disch:=omega) only [zI]);repeat first | intro _ | refine ⟨by omega,?_⟩
     refine hK _ ?_;clear hK K;refine zw (zk [1,2,3,4]) ?_;simp only [go_sem]
     repeat refine zq ?_
     refine zb fun K hK=>?_;simp only [go_sem];(try simp (disch:=omega) only [zI]);repeat first | intro _ | refine ⟨by omega,?_⟩
     refine hK _ ?_;clear hK K
     try simp only [go_sem]
     first | refine zj [5,37] ?_ ?_ | refine ⟨by omega,zj [5,37] ?_ ?_⟩
     · try simp only [go_sem]
     · simp only [raR,raX,if_neg (show ¬ (2 + 1 : Nat) = 0 by omega),if_neg (show ¬ (2 + 1 : Nat) = 1 by omega),if_neg (show ¬ (2 + 1 : Nat) = 2 by omega)]
       try simp only [go_sem]
       try rfl
   · simp only [raR,raX,if_neg (show ¬ (3 : Nat) = 0 by omega),if_neg (show ¬ (3 : Nat) = 1 by omega),if_neg (show ¬ (3 : Nat) = 2 by omega)]
     repeat refine zq ?_
     refine zb fun K hK=>?_;simp only [go_sem,hrl];(try simp (disch:=omega) only [zI]);repeat first | intro _ | refine ⟨by omega,?_⟩
     refine hK _ ?_;clear hK K;refine zw (zk [1,2,3,4,19]) ?_;simp only [go_sem]
     repeat refine zq ?_
     refine zc rfl (fun hc=>?_) (fun hc=>?_) <;> (try simp only [go_sem] at hc)
     refine zf ?_;simp only [go_sem];refine zw (zk [2,3]) ?_;simp only [go_sem]
     repeat refine zq ?_
     refine zb fun K hK=>?_;simp only [go_sem];(try simp (disch:=omega) only [zI]);repeat first | intro _ | refine ⟨by omega,?_⟩
     refine hK _ ?_;clear hK K;refine zw (zk [2]) ?_;simp only [go_sem];refine ze ?_
     try simp only [go_sem]
abbrev Pv:=Int × Int
def fillP : List Pv → Int × Int → Int × Int
 | [],x=>x
 | c :: cs,x=>fillP cs (x.1 - min x.1 c.1,x.2 + min x.1 c.1 * c.2)
theorem fillG_P : ∀ (l : List Bd) (x : Int × Int),fillG l x = fillP (l.map fun c=>(c.hi - c.lo,c.b)) x
 | [],_=>rfl
 | c :: l,x=>by simp only [fillG,List.map_cons,fillP]; exact fillG_P l _
def leD (most : Bool) (x y : Int) : Prop:=if most then y ≤ x else x ≤ y
theorem leD_trans {most : Bool} {x y z : Int} (h : leD most x y) (g : leD most y z) : leD most x z:=by
 unfold leD at *; split at h <;> simp_all <;> omega
abbrev SortP (most : Bool) (S : List Pv) : Prop:=S.Pairwise fun a b=>leD most a.2 b.2
theorem fillP_done : ∀ {S : List Pv} {y : Int},(∀ a ∈ S,0 ≤ a.1) → fillP S (0,y) = (0,y)
 | [],_,_=>rfl
 | c :: S, y, h => by
   have h0:=h c (by simp)
   have e : min 0 c.1 = 0:=by omega
   simp only [fillP,e]
   simpa using fillP_done fun a ha=>h a (by simp [ha])
theorem insB_pw {most : Bool} {x : Bd} : ∀ {R : List Bd},R.Pairwise (fun y z=>leD most z.b y.b) → (insB (ltD most) x R).Pairwise (fun y z=>leD most z.b y.b)
 | [],_=>by simp [insB]
 | y :: R, h => by
   obtain ⟨h1,h2⟩:=List.pairwise_cons.1 h
   unfold insB
   split
   · rename_i hlt
     refine List.pairwise_cons.2 ⟨fun z hz=>?_,insB_pw h2⟩
     rcases (mem_insB _ _ _ _).1 hz with rfl | hz
     · unfold ltD at hlt; unfold leD; cases most <;> simp at hlt ⊢ <;> omega
     · exact h1 z hz
   · rename_i hlt
     have hyx : leD most y.b x.b:=by unfold ltD at hlt; unfold leD; cases most <;> simp at hlt ⊢ <;> omega
     refine List.pairwise_cons.2 ⟨fun z hz=>?_,h⟩
     rcases List.mem_cons.1 hz with rfl | hz
     · exact hyx
     · exact leD_trans (h1 z hz) hyx
theorem sortB_pw {most : Bool} : ∀ {l R : List Bd},R.Pairwise (fun y z=>leD most z.b y.b) → (sortB (ltD most) l R).Pairwise (fun y z=>leD most z.b y.b)
 | [],_,h=>h
 | x :: l,R,h=>by rw [sortB]; exact sortB_pw (insB_pw h)
theorem sortN_pw {most : Bool} (l : List Bd) : (sortN (ltD most) l).Pairwise (fun y z=>leD most y.b z.b):=by
 unfold sortN
 rw [List.pairwise_reverse]
 exact sortB_pw List.Pairwise.nil
def beats (most : Bool) (x y : Int) : Bool:=if most then decide (y < x) else decide (x < y)
def bestI (most : Bool) (M V : List Int) : Nat → Int
 | 0=>-1
 | i + 1=>if decide (0 < M.getD i 0) && (decide (bestI most M V i < 0) || beats most (V.getD i 0) (V.getD (bestI most M V i).toNat 0)) then i else bestI most M V i
structure RefI (most : Bool) (V : List Int) (target : Int) (M : List Int) (left sum : Int) : Prop where
 len : M.length = V.length
 l19 : V.length ≤ 19
 vals : ∀ v ∈ V,0 ≤ v ∧ v ≤ 1000000
 mores : ∀ m ∈ M,0 ≤ m ∧ m ≤ 3000
 ok : GOk (left,sum)
 enough : left ≤ M.sum
 same : ∃ S : List Pv,S.Perm (M.zip V) ∧ SortP most S ∧ (fillP S (left,sum)).2 = target
theorem RefI.done {most : Bool} {V M : List Int} {target left sum : Int} (h : RefI most V target M left sum) (h0 : ¬ 0 < left) : sum = target:=by
 obtain ⟨S,h1,_,h3⟩:=h.same
 have:=h.ok.1.1
 have e : left = 0:=by simp only at this; omega
 rw [e,fillP_done] at h3
 · exact h3
 · intro a ha
   have:=h1.mem_iff.1 ha
   exact (h.mores a.1 (List.of_mem_zip this).1).1
theorem RefI.start {most : Bool} {den : Int} {l : List Bd} (h : ChG den l) (hh : den ≤ hiS l) :
 RefI most (l.map (·.b)) (fillG (sortN (ltD most) l) (den - loS (sortN (ltD most) l),loV (sortN (ltD most) l))).2 (l.map fun c=>c.hi - c.lo) (den - loS l) (loV l):=by
 have hp:=sortN_perm (ltD most) l
 have e1 : loS (sortN (ltD most) l) = loS l:=perm_sum hp
 have e2 : loV (sortN (ltD most) l) = loV l:=perm_sum hp
 have hl:=h.low
 have hd:=h.den1
 have hv:=loV_le h.each
 have hlen:=h.len
 have hlo0 : 0 ≤ loS l:=by
  have : ∀ m : List Bd,(∀ c ∈ m,0 ≤ c.lo) → 0 ≤ loS m:=by
   intro m
   induction m with
   | nil=>intro _; simp [loS]
   | cons c m ih=>intro hc; have h1:=hc c (by simp); have h2:=ih fun x hx=>hc x (by simp [hx]); simp only [loS,List.map_cons,List.sum_cons] at h2 ⊢; omega
  exact this l fun c hc=>(h.each c hc).2.1
 refine ⟨by simp,by simpa using hlen,?_,?_,?_,?_,?_⟩
 · intro v hv
   obtain ⟨c,hc,rfl⟩:=List.mem_map.1 hv
   exact (h.each c hc).1
 · intro m hm
   obtain ⟨c,hc,rfl⟩:=List.mem_map.1 hm
   obtain ⟨_,g0,g1,g2⟩:=h.each c hc
   omega
 · refine ⟨⟨by simp only; omega,by simp only; omega⟩,by simp only; omega,by simp only; omega⟩
 · have : (l.map fun c=>c.hi - c.lo).sum = hiS l - loS l:=by
    clear hh hp e1 e2 hl hv hlen hlo0 h
    induction l with
    | nil=>simp [hiS,loS]
    | cons c l ih=>simp only [hiS,loS,List.map_cons,List.sum_cons] at ih ⊢; omega
   omega
 · refine ⟨(sortN (ltD most) l).map fun c=>(c.hi - c.lo,c.b),?_,?_,?_⟩
   · have : (l.map fun c=>c.hi - c.lo).zip (l.map (·.b)) = l.map fun c=>(c.hi - c.lo,c.b):=by
      rw [List.zip_map',]
     rw [this]
     exact hp.map _
   · exact List.Pairwise.map _ (fun a b h=>h) (sortN_pw l)
   · rw [← fillG_P,e1,e2]
def dotP : List Pv → List Int → Int
 | c :: S,y :: ys=>y * c.2 + dotP S ys
 | _,_=>0
inductive FeasP : List Pv → List Int → Prop where
 | nil : FeasP [] []
 | cons {c : Pv} {S : List Pv} {y : Int} {ys : List Int} (h : 0 ≤ y ∧ y ≤ c.1) (t : FeasP S ys) : FeasP (c :: S) (y :: ys)
theorem feas_sum {S : List Pv} {ys : List Int} (h : FeasP S ys) : 0 ≤ ys.sum:=by
 induction h with
 | nil=>simp
 | cons h t ih=>simp only [List.sum_cons]; omega
theorem feas_less {v : Int} {S : List Pv} {ys : List Int} (h : FeasP S ys) : ∀ δ : Int,0 ≤ δ → δ ≤ ys.sum → (∀ c ∈ S,v ≤ c.2) → ∃ zs,FeasP S zs ∧ zs.sum = ys.sum - δ ∧ dotP S zs + δ * v ≤ dotP S ys:=by
 induction h with
 | nil =>
   intro δ h0 h1 _
   simp only [List.sum_nil] at h1
   have : δ = 0:=by omega
   subst this
   exact ⟨[],.nil,by simp,by simp [dotP]⟩
 | @cons c S y ys h t ih =>
   intro δ h0 h1 hv
   simp only [List.sum_cons] at h1
   have hs:=feas_sum t
   obtain ⟨zs,g1,g2,g3⟩:=ih (δ - min δ y) (by omega) (by omega) fun x hx=>hv x (by simp [hx])
   have hc:=hv c (by simp)
   have e0 : 0 ≤ min δ y:=by omega
   have p:=Int.mul_nonneg e0 (show 0 ≤ c.2 - v by omega)
   refine ⟨(y - min δ y) :: zs,.cons ⟨by omega,by omega⟩ g1,by simp only [List.sum_cons]; omega,?_⟩
   simp only [dotP]
   generalize min δ y = e at *
   rw [Int.mul_sub] at p
   rw [Int.sub_mul] at g3
   rw [Int.sub_mul]
   omega
theorem fill_min : ∀ {S : List Pv} {ys : List Int},FeasP S ys → ∀ (left s : Int),S.Pairwise (fun a b=>a.2 ≤ b.2) → ys.sum = left → (fillP S (left,s)).2 ≤ s + dotP S ys
 | [],_,h,left,s,_,_=>by cases h; simp [fillP,dotP]
 | c :: S, _, h, left, s, hp, hsum => by
   cases h with
   | @cons _ _ y ys h t =>
     obtain ⟨hp1,hp2⟩:=List.pairwise_cons.1 hp
     simp only [List.sum_cons] at hsum
     have hs:=feas_sum t
     obtain ⟨zs,g1,g2,g3⟩:=feas_less t (min left c.1 - y) (by omega) (by omega) hp1
     have:=fill_min g1 (left - min left c.1) (s + min left c.1 * c.2) hp2 (by omega)
     simp only [fillP,dotP]
     rw [Int.sub_mul] at g3
     omega
def negP (S : List Pv) : List Pv:=S.map fun c=>(c.1,-c.2)
theorem fill_neg : ∀ (S : List Pv) (x y : Int),(fillP (negP S) (x,-y)).2 = -(fillP S (x,y)).2
 | [],_,_=>rfl
 | c :: S, x, y => by
   have:=fill_neg S (x - min x c.1) (y + min x c.1 * c.2)
   simp only [negP,List.map_cons,fillP] at this ⊢
   rw [← this]
   congr 3
   rw [Int.mul_neg]; omega
theorem dot_neg : ∀ (S : List Pv) (ys : List Int),dotP (negP S) ys = -dotP S ys
 | [],_=>by simp [negP,dotP]
 | _ :: _,[]=>by simp [negP,dotP]
 | c :: S, y :: ys => by
   have:=dot_neg S ys
   simp only [negP,List.map_cons,dotP] at this ⊢
   rw [this,Int.mul_neg]; omega
theorem feas_neg : ∀ {S : List Pv} {ys : List Int},FeasP S ys → FeasP (negP S) ys
 | _,_,.nil=>.nil
 | _,_,.cons h t=>.cons h (feas_neg t)
theorem fill_max {S : List Pv} {ys : List Int} (h : FeasP S ys) (left s : Int) (hp : S.Pairwise (fun a b=>b.2 ≤ a.2)) (hs : ys.sum = left) : s + dotP S ys ≤ (fillP S (left,s)).2:=by
 have:=fill_min (feas_neg h) left (-s) (by unfold negP; exact List.Pairwise.map _ (fun a b h=>by simp only; omega) hp) hs
 rw [fill_neg,dot_neg] at this
 omega
theorem greedy_amt {m v : Nat → Int} : ∀ {I : List Nat} {left s : Int},I.Nodup → (∀ i ∈ I,0 ≤ m i) → 0 ≤ left → left ≤ (I.map m).sum →
 ∃ x : Nat → Int,(∀ i ∈ I,0 ≤ x i ∧ x i ≤ m i) ∧ (I.map x).sum = left ∧ (fillP (I.map fun i=>(m i,v i)) (left,s)).2 = s + (I.map fun i=>x i * v i).sum
 | [], left, s, _, _, h0, h1 => by
   simp only [List.map_nil,List.sum_nil] at h1
   exact ⟨fun _=>0,by simp,by simp; omega,by simp [fillP]⟩
 | i :: I, left, s, hn, hm, h0, h1 => by
   obtain ⟨hi,hn2⟩:=List.nodup_cons.1 hn
   have hmi:=hm i (by simp)
   simp only [List.map_cons,List.sum_cons] at h1
   have hms : 0 ≤ (I.map m).sum:=by
    have : ∀ J : List Nat,(∀ j ∈ J,0 ≤ m j) → 0 ≤ (J.map m).sum:=by
     intro J
     induction J with
     | nil=>intro _; simp
     | cons j J ih=>intro hJ; have h1:=hJ j (by simp); have h2:=ih fun y hy=>hJ y (by simp [hy]); simp only [List.map_cons,List.sum_cons]; omega
    exact this I fun j hj=>hm j (by simp [hj])
   obtain ⟨x,g1,g2,g3⟩:=greedy_amt (v:=v) (left:=left - min left (m i)) (s:=s + min left (m i) * v i) hn2 (fun j hj=>hm j (by simp [hj])) (by omega) (by omega)
   have hne : ∀ j ∈ I,j ≠ i:=fun j hj e=>hi (by rw [← e]; exact hj)
   refine ⟨fun j=>if j = i then min left (m i) else x j,fun j hj=>?_,?_,?_⟩
   · rcases List.mem_cons.1 hj with rfl | hj
     · simp only [if_true]; omega
     · simp only [if_neg (hne j hj)]; exact g1 j hj
   · simp only [List.map_cons,if_true,List.sum_cons]
     rw [List.map_congr_left (g:=x) fun j hj=>by simp only [if_neg (hne j hj)],g2]
     omega
   · simp only [List.map_cons,fillP,if_true,List.sum_cons]
     rw [g3,List.map_congr_left (f:=fun j=>(if j = i then min left (m i) else x j) * v j) (g:=fun j=>x j * v j) fun j hj=>by simp only [if_neg (hne j hj)]]
     omega
theorem feas_map {m v x : Nat → Int} : ∀ {I : List Nat},(∀ i ∈ I,0 ≤ x i ∧ x i ≤ m i) → FeasP (I.map fun i=>(m i,v i)) (I.map x)
 | [],_=>.nil
 | i :: I,h=>.cons (h i (by simp)) (feas_map fun j hj=>h j (by simp [hj]))
theorem dot_map {m v x : Nat → Int} : ∀ I : List Nat,dotP (I.map fun i=>(m i,v i)) (I.map x) = (I.map fun i=>x i * v i).sum
 | []=>rfl
 | i :: I=>by simp only [List.map_cons,dotP,List.sum_cons,dot_map I]
def insN (lt : Nat → Nat → Bool) (x : Nat) : List Nat → List Nat
 | []=>[x]
 | y :: ys=>if lt x y then y :: insN lt x ys else x :: y :: ys
def sortBN (lt : Nat → Nat → Bool) : List Nat → List Nat → List Nat
 | [],R=>R
 | x :: xs,R=>sortBN lt xs (insN lt x R)
def sortI (lt : Nat → Nat → Bool) (l : List Nat) : List Nat:=(sortBN lt l []).reverse
theorem insN_map (f : Nat → Bd) (lt : Bd → Bd → Bool) (x : Nat) : ∀ R : List Nat,(insN (fun i j=>lt (f i) (f j)) x R).map f = insB lt (f x) (R.map f)
 | []=>rfl
 | y :: R => by
   have:=insN_map f lt x R
   simp only [insN,List.map_cons,insB]
   split
   · rw [List.map_cons,this]
   · rfl
theorem sortBN_map (f : Nat → Bd) (lt : Bd → Bd → Bool) : ∀ l R : List Nat,(sortBN (fun i j=>lt (f i) (f j)) l R).map f = sortB lt (l.map f) (R.map f)
 | [],_=>rfl
 | x :: l,R=>by simp only [sortBN,List.map_cons,sortB]; rw [sortBN_map f lt l,insN_map]
theorem sortI_map (f : Nat → Bd) (lt : Bd → Bd → Bool) (l : List Nat) : (sortI (fun i j=>lt (f i) (f j)) l).map f = sortN lt (l.map f):=by
 unfold sortI sortN
 rw [List.map_reverse,sortBN_map]; rfl
theorem insN_perm (lt : Nat → Nat → Bool) (x : Nat) : ∀ R,(insN lt x R).Perm (x :: R)
 | []=>List.Perm.refl _
 | y :: R => by
   unfold insN
   split
   · exact ((insN_perm lt x R).cons y).trans (List.Perm.swap _ _ _)
   · exact List.Perm.refl _
theorem sortBN_perm (lt : Nat → Nat → Bool) : ∀ l R,(sortBN lt l R).Perm (l ++ R)
 | [],R=>List.Perm.refl _
 | x :: l, R => by
   rw [sortBN]
   refine (sortBN_perm lt l _).trans ?_
   exact ((insN_perm lt x R).append_left l).trans List.perm_middle
theorem sortI_perm (lt : Nat → Nat → Bool) (l : List Nat) : (sortI lt l).Perm l:=by
 unfold sortI
 have:=sortBN_perm lt l []
 rw [List.append_nil] at this
 exact (List.reverse_perm _).trans this
theorem mean_idx {most : Bool} {den : Int} {l : List Bd} (h : ChG den l) (hh : den ≤ hiS l) : ∃ I : List Nat,I.Perm (List.range l.length) ∧ I.Nodup ∧
 (I.Pairwise fun a b=>leD most (l.getD a ⟨0,0,0⟩).b (l.getD b ⟨0,0,0⟩).b) ∧
 meanD most den l = overD most (fillP (I.map fun i=>((l.getD i ⟨0,0,0⟩).hi - (l.getD i ⟨0,0,0⟩).lo,(l.getD i ⟨0,0,0⟩).b)) (den - loS l,loV l)).2 den:=by
 have hl : (List.range l.length).map (fun i=>l.getD i ⟨0,0,0⟩) = l:=by
  refine List.ext_getElem (by simp) fun i h1 h2=>?_
  simp [List.getD,List.getElem?_eq_getElem h2]
 have hm:=sortI_map (fun i=>l.getD i ⟨0,0,0⟩) (ltD most) (List.range l.length)
 rw [hl] at hm
 have hp:=sortI_perm (fun i j=>ltD most (l.getD i ⟨0,0,0⟩) (l.getD j ⟨0,0,0⟩)) (List.range l.length)
 have hpw:=sortN_pw (most:=most) l
 rw [← hm] at hpw
 have e1 : loS (sortN (ltD most) l) = loS l:=perm_sum (sortN_perm _ _)
 have e2 : loV (sortN (ltD most) l) = loV l:=perm_sum (sortN_perm _ _)
 refine ⟨_,hp,hp.nodup_iff.2 List.nodup_range,(List.pairwise_map (f:=fun i=>l.getD i ⟨0,0,0⟩) (R:=fun y z : Bd=>leD most y.b z.b)).1 hpw,?_⟩
 unfold meanD
 rw [e1,e2,fillG_P,← hm,List.map_map]
 rfl
theorem overD_mono {m1 m2 : Bool} (hm : m1 = true → m2 = true) {a b den : Int} (hd : 1 ≤ den) (hab : a ≤ b) : overD m1 a den ≤ overD m2 b den:=by
 have h1 : ∀ x y : Int,x ≤ y → x / den ≤ y / den:=fun x y h=>Int.ediv_le_ediv (by omega) h
 cases m1 <;> cases m2 <;> simp only [overD,if_true,Bool.false_eq_true,if_false]
 · exact h1 _ _ hab
 · exact h1 _ _ (by omega)
 · simp at hm
 · exact h1 _ _ (by omega)
theorem sum_le_map {f g : Nat → Int} : ∀ {I : List Nat},(∀ i ∈ I,f i ≤ g i) → (I.map f).sum ≤ (I.map g).sum
 | [],_=>by simp
 | i :: I, h => by
   have h1:=h i (by simp)
   have h2:=sum_le_map (f:=f) (g:=g) (I:=I) fun j hj=>h j (by simp [hj])
   simp only [List.map_cons,List.sum_cons]; omega
theorem meanD_mono {m1 m2 : Bool} (hm : m1 = true → m2 = true) {den : Int} {l : List Bd} {f g : Int → Int} (hf : ChG den (chW f l)) (hg : ChG den (chW g l)) (hh : den ≤ hiS l) (hfg : ∀ c ∈ l,f c.b ≤ g c.b) :
 meanD m1 den (chW f l) ≤ meanD m2 den (chW g l):=by
 obtain ⟨I,p1,n1,w1,e1⟩:=mean_idx (most:=m1) hf (by rw [hiS_chW]; exact hh)
 obtain ⟨J,p2,n2,w2,e2⟩:=mean_idx (most:=m2) hg (by rw [hiS_chW]; exact hh)
 have lf : (chW f l).length = l.length:=by simp [chW]
 have lg : (chW g l).length = l.length:=by simp [chW]
 rw [lf] at p1
 rw [lg] at p2
 have gf : ∀ i,i < l.length → (chW f l).getD i ⟨0,0,0⟩ = ⟨f (l.getD i ⟨0,0,0⟩).b,(l.getD i ⟨0,0,0⟩).lo,(l.getD i ⟨0,0,0⟩).hi⟩:=fun i hi=>by simp [chW,List.getD,List.getElem?_eq_getElem hi]
 have gg : ∀ i,i < l.length → (chW g l).getD i ⟨0,0,0⟩ = ⟨g (l.getD i ⟨0,0,0⟩).b,(l.getD i ⟨0,0,0⟩).lo,(l.getD i ⟨0,0,0⟩).hi⟩:=fun i hi=>by simp [chW,List.getD,List.getElem?_eq_getElem hi]
 have hI : ∀ i ∈ I,i < l.length:=fun i hi=>List.mem_range.1 (p1.mem_iff.1 hi)
 have hJ : ∀ i ∈ J,i < l.length:=fun i hi=>List.mem_range.1 (p2.mem_iff.1 hi)
 have hmem : ∀ i,i < l.length → l.getD i ⟨0,0,0⟩ ∈ l:=fun i hi=>by
  rw [List.getD_eq_getElem?_getD,List.getElem?_eq_getElem hi]; exact List.getElem_mem hi
 rw [e1,e2,loS_chW,loS_chW]
 refine overD_mono hm hf.den0 ?_
 have ef : (I.map fun i=>(((chW f l).getD i ⟨0,0,0⟩).hi - ((chW f l).getD i ⟨0,0,0⟩).lo,((chW f l).getD i ⟨0,0,0⟩).b)) = I.map fun i=>((l.getD i ⟨0,0,0⟩).hi - (l.getD i ⟨0,0,0⟩).lo,f (l.getD i ⟨0,0,0⟩).b) :=
  List.map_congr_left fun i hi=>by rw [gf i (hI i hi)]
 have eg : (J.map fun i=>(((chW g l).getD i ⟨0,0,0⟩).hi - ((chW g l).getD i ⟨0,0,0⟩).lo,((chW g l).getD i ⟨0,0,0⟩).b)) = J.map fun i=>((l.getD i ⟨0,0,0⟩).hi - (l.getD i ⟨0,0,0⟩).lo,g (l.getD i ⟨0,0,0⟩).b) :=
  List.map_congr_left fun i hi=>by rw [gg i (hJ i hi)]
 rw [ef,eg]
 have pIJ : I.Perm J:=p1.trans p2.symm
 have hlow : loS l ≤ den:=by have:=hf.low; rwa [loS_chW] at this
 have hm0 : ∀ i,i < l.length → 0 ≤ (l.getD i ⟨0,0,0⟩).hi - (l.getD i ⟨0,0,0⟩).lo:=fun i hi=>by
  have:=hf.each ⟨f (l.getD i ⟨0,0,0⟩).b,(l.getD i ⟨0,0,0⟩).lo,(l.getD i ⟨0,0,0⟩).hi⟩ (List.mem_map.2 ⟨_,hmem i hi,rfl⟩)
  simp only at this; omega
 have hsm : ((List.range l.length).map fun i=>(l.getD i ⟨0,0,0⟩).hi - (l.getD i ⟨0,0,0⟩).lo).sum = hiS l - loS l:=by
  have hl : (List.range l.length).map (fun i=>l.getD i ⟨0,0,0⟩) = l:=by
   refine List.ext_getElem (by simp) fun i h1 h2=>?_
   simp [List.getD,List.getElem?_eq_getElem h2]
  have : ((List.range l.length).map fun i=>(l.getD i ⟨0,0,0⟩).hi - (l.getD i ⟨0,0,0⟩).lo) = l.map fun c=>c.hi - c.lo:=by
   conv=>rhs; rw [← hl]
   rw [List.map_map]; rfl
  rw [this]
  generalize l = l
  induction l with
  | nil=>simp [hiS,loS]
  | cons c l ih=>simp only [hiS,loS,List.map_cons,List.sum_cons] at ih ⊢; omega
 have hv : loV (chW f l) ≤ loV (chW g l):=by
  have h0 : ∀ c ∈ l,0 ≤ c.lo:=fun c hc=>(hf.each _ (List.mem_map.2 ⟨c,hc,rfl⟩)).2.1
  clear e1 e2 ef eg gf gg hI hJ hmem hm0 hsm p1 p2 pIJ w1 w2 lf lg hf hg hh hlow
  induction l with
  | nil=>simp [chW,loV]
  | cons c l ih =>
    have h1:=ih (fun x hx=>hfg x (by simp [hx])) fun x hx=>h0 x (by simp [hx])
    have h2:=Int.mul_le_mul_of_nonneg_left (hfg c (by simp)) (h0 c (by simp))
    simp only [chW,loV,List.map_cons,List.sum_cons,List.map_map] at h1 ⊢
    omega
 generalize hmm : (fun i=>(l.getD i ⟨0,0,0⟩).hi - (l.getD i ⟨0,0,0⟩).lo) = m at *
 have hmi : ∀ i,(l.getD i ⟨0,0,0⟩).hi - (l.getD i ⟨0,0,0⟩).lo = m i:=fun i=>by rw [← hmm]
 simp only [hmi] at *
 have fgi : ∀ i,i < l.length → f (l.getD i ⟨0,0,0⟩).b ≤ g (l.getD i ⟨0,0,0⟩).b:=fun i hi=>hfg _ (hmem i hi)
 generalize hu : (fun i=>f (l.getD i ⟨0,0,0⟩).b) = u at *
 have hui : ∀ i,f (l.getD i ⟨0,0,0⟩).b = u i:=fun i=>by rw [← hu]
 generalize hw : (fun i=>g (l.getD i ⟨0,0,0⟩).b) = w at *
 have hwi : ∀ i,g (l.getD i ⟨0,0,0⟩).b = w i:=fun i=>by rw [← hw]
 simp only [hui,hwi] at *
 have hsI : (I.map m).sum = hiS l - loS l:=by rw [← hsm]; exact perm_sum p1
 have hsJ : (J.map m).sum = hiS l - loS l:=by rw [← hsm]; exact perm_sum p2
 have wI : I.Pairwise fun a b=>leD m1 (u a) (u b):=w1.imp_of_mem fun {a b} ha hb h=>by
  rw [gf a (hI a ha),gf b (hI b hb)] at h; exact h
 have wJ : J.Pairwise fun a b=>leD m2 (w a) (w b):=w2.imp_of_mem fun {a b} ha hb h=>by
  rw [gg a (hJ a ha),gg b (hJ b hb)] at h; exact h
 have ms : ∀ (K : List Nat) (x z : Nat → Int),(∀ i ∈ K,i < l.length) → (∀ i ∈ K,0 ≤ x i) → (K.map fun i=>x i * u i).sum ≤ (K.map fun i=>x i * w i).sum:=fun K x z hK hx =>
  sum_le_map fun i hi=>Int.mul_le_mul_of_nonneg_left (fgi i (hK i hi)) (hx i hi)
 cases m1 with
 | false =>
   obtain ⟨x,x1,x2,x3⟩:=greedy_amt (m:=m) (v:=w) (I:=J) (left:=den - loS l) (s:=loV (chW g l)) n2 (fun i hi=>hm0 i (hJ i hi)) (by omega) (by omega)
   have hx : ∀ i ∈ I,0 ≤ x i ∧ x i ≤ m i:=fun i hi=>x1 i (pIJ.mem_iff.1 hi)
   have hmin:=fill_min (feas_map (v:=u) hx) (den - loS l) (loV (chW f l)) (List.pairwise_map.2 (wI.imp fun h=>by simpa [leD] using h)) (by rw [perm_sum (f:=x) pIJ]; exact x2)
   rw [dot_map] at hmin
   have h2:=ms I x x hI fun i hi=>(hx i hi).1
   have h3 : (I.map fun i=>x i * w i).sum = (J.map fun i=>x i * w i).sum:=perm_sum pIJ
   rw [x3]
   omega
 | true =>
   have hm2 : m2 = true:=hm rfl
   subst hm2
   obtain ⟨x,x1,x2,x3⟩:=greedy_amt (m:=m) (v:=u) (I:=I) (left:=den - loS l) (s:=loV (chW f l)) n1 (fun i hi=>hm0 i (hI i hi)) (by omega) (by omega)
   have hx : ∀ i ∈ J,0 ≤ x i ∧ x i ≤ m i:=fun i hi=>x1 i (pIJ.mem_iff.2 hi)
   have hmax:=fill_max (feas_map (v:=w) hx) (den - loS l) (loV (chW g l)) (List.pairwise_map.2 (wJ.imp fun h=>by simpa [leD] using h)) (by rw [perm_sum (f:=x) pIJ.symm]; exact x2)
   rw [dot_map] at hmax
   have h2:=ms I x x hI fun i hi=>(x1 i hi).1
   have h3 : (I.map fun i=>x i * w i).sum = (J.map fun i=>x i * w i).sum:=perm_sum pIJ
   rw [x3]
   omega
theorem mem_tw {α : Type} {p : α → Bool} {x : α} : ∀ {l : List α},x ∈ l.takeWhile p → p x = true
 | [],h=>by simp at h
 | y :: l, h => by
   rw [List.takeWhile_cons] at h
   split at h
   · rename_i hy
     rcases List.mem_cons.1 h with rfl | h
     · exact hy
     · exact mem_tw h
   · cases h
def bedN (n : Int) : Int:=if n % 16 = 0 then 0 else 100 * (1 + n / 16 % 3) + 1 + n % 16 % 12
theorem bedN_ok (n : Int) : bedN n = 0 ∨ bedOk (bedN n) = true:=by
 unfold bedN
 split
 · exact .inl rfl
 · right
   simp only [bedOk,Bool.or_eq_true,Bool.and_eq_true,decide_eq_true_eq]
   right
   omega
def frontB (b : Int) (l : List Bd) : List Bd:=l.takeWhile fun c=>decide (c.b ≤ b)
def addB (den : Int) (x : List Bd × Int) (v : Int × Int × Int) : List Bd × Int :=
 if (frontB (bedN v.1) x.1).any (fun c=>decide (c.b = bedN v.1)) then x
 else (x.1.take (frontB (bedN v.1) x.1).length ++ (⟨bedN v.1,x.2 * v.2.1 / 512,min den (x.2 * v.2.1 / 512 + v.2.2 % 50)⟩ :: x.1.drop (frontB (bedN v.1) x.1).length),x.2 - x.2 * v.2.1 / 512)
structure BedsI (den : Int) (x : List Bd × Int) : Prop where
 up : x.1.Pairwise fun a b=>a.b < b.b
 ok : ∀ c ∈ x.1,(c.b = 0 ∨ bedOk c.b = true) ∧ 0 ≤ c.lo ∧ c.lo ≤ c.hi ∧ c.hi ≤ den
 sum : loS x.1 + x.2 = den
 left0 : 0 ≤ x.2
theorem addB_ok {den : Int} {x : List Bd × Int} {v : Int × Int × Int} (h : BedsI den x) (hd : 1 ≤ den) (hv : 0 ≤ v.2.1 ∧ v.2.1 ≤ 255) (hw : 0 ≤ v.2.2) : BedsI den (addB den x v) ∧ (addB den x v).1.length ≤ x.1.length + 1:=by
 unfold addB
 split
 · exact ⟨h,by omega⟩
 · rename_i hn
   obtain ⟨l,left⟩:=x
   simp only at hn ⊢
   have hs:=h.sum
   have hl0:=h.left0
   simp only at hs hl0
   have hlow : 0 ≤ left * v.2.1 / 512 ∧ left * v.2.1 / 512 ≤ left:=by
    have h0:=Int.mul_nonneg hl0 hv.1
    have h1 : left * v.2.1 ≤ left * 255:=Int.mul_le_mul_of_nonneg_left hv.2 hl0
    omega
   have hlos : 0 ≤ loS l:=by
    have : ∀ m : List Bd,(∀ c ∈ m,0 ≤ c.lo) → 0 ≤ loS m:=by
     intro m
     induction m with
     | nil=>intro _; simp [loS]
     | cons c m ih=>intro hc; have h1:=hc c (by simp); have h2:=ih fun x hx=>hc x (by simp [hx]); simp only [loS,List.map_cons,List.sum_cons] at h2 ⊢; omega
    exact this l fun c hc=>(h.ok c hc).2.1
   generalize hlo : left * v.2.1 / 512 = low at *
   have hfr : l.take (frontB (bedN v.1) l).length = frontB (bedN v.1) l:=by
    unfold frontB
    exact (List.prefix_iff_eq_take.1 (List.takeWhile_prefix _)).symm
   have hdr : l.drop (frontB (bedN v.1) l).length = l.dropWhile fun c=>decide (c.b ≤ bedN v.1):=by
    have e:=List.takeWhile_append_dropWhile (p:=fun c : Bd=>decide (c.b ≤ bedN v.1)) (l:=l)
    have:=congrArg (List.drop (frontB (bedN v.1) l).length) e
    rw [← this]
    unfold frontB
    rw [List.drop_left]
   have hle : ∀ c ∈ frontB (bedN v.1) l,c.b < bedN v.1:=fun c hc=>by
    have h1 : decide (c.b ≤ bedN v.1) = true:=mem_tw (p:=fun c : Bd=>decide (c.b ≤ bedN v.1)) hc
    have h2 : ¬ c.b = bedN v.1:=fun e=>hn (List.any_eq_true.2 ⟨c,hc,by simpa using e⟩)
    have h1 : c.b ≤ bedN v.1:=by simpa using h1
    omega
   have hspl : frontB (bedN v.1) l ++ l.drop (frontB (bedN v.1) l).length = l:=by
    conv=>lhs; lhs; rw [← hfr]
    exact List.take_append_drop _ _
   have hup:=h.up
   simp only at hup
   rw [← hspl] at hup
   obtain ⟨u1,u2,u3⟩:=List.pairwise_append.1 hup
   have hgt : ∀ c ∈ l.drop (frontB (bedN v.1) l).length,bedN v.1 < c.b:=by
    rw [hdr]
    intro c hc
    cases hdw : l.dropWhile (fun c=>decide (c.b ≤ bedN v.1)) with
    | nil=>rw [hdw] at hc; cases hc
    | cons d dl =>
      have hd0 : ¬ (decide (d.b ≤ bedN v.1) = true):=by
       have:=List.head?_dropWhile_not (p:=fun c : Bd=>decide (c.b ≤ bedN v.1)) (l:=l)
       rw [hdw] at this
       simpa using this
      have hd1 : bedN v.1 < d.b:=by simpa using hd0
      rw [hdw] at hc
      rw [hdr,hdw] at u2
      rcases List.mem_cons.1 hc with rfl | hc
      · exact hd1
      · have:=(List.pairwise_cons.1 u2).1 c hc
        omega
   refine ⟨⟨?_,?_,?_,by simp only; omega⟩,?_⟩
   · simp only [hfr]
     refine List.pairwise_append.2 ⟨u1,List.pairwise_cons.2 ⟨fun c hc=>hgt c hc,u2⟩,fun a ha b hb=>?_⟩
     rcases List.mem_cons.1 hb with rfl | hb
     · exact hle a ha
     · exact u3 a ha b hb
   · simp only [hfr]
     intro c hc
     rcases List.mem_append.1 hc with hc | hc
     · exact h.ok c (by rw [← hspl]; exact List.mem_append_left _ hc)
     · rcases List.mem_cons.1 hc with rfl | hc
       · refine ⟨bedN_ok _,hlow.1,by simp only; omega,by simp only; omega⟩
       · exact h.ok c (by rw [← hspl]; exact List.mem_append_right _ hc)
   · simp only [hfr]
     have : loS l = loS (frontB (bedN v.1) l) + loS (l.drop (frontB (bedN v.1) l).length):=by
      conv=>lhs; rw [← hspl]
      simp only [loS,List.map_append,List.sum_append]
     simp only [loS,List.map_append,List.sum_append,List.map_cons,List.sum_cons] at this hs ⊢
     omega
   · simp only [List.length_append,List.length_cons,List.length_take,List.length_drop]
     omega
set_option maxHeartbeats 2000000
theorem bed_ok (n : Int) (h0 : 0 ≤ n) (h1 : n ≤ 255) : ACalls Try.prog 60 [.it .u8 n] (i64 (bedN n)):=by
 have e1 : n.tmod 16 = n % 16:=Int.tmod_eq_emod_of_nonneg h0
 have e2 : IntKind.i64.wrap (n.tdiv 16) = n / 16:=by rw [Int.tdiv_eq_ediv_of_nonneg h0,zI] <;> omega
 have e3 : (n / 16).tmod 3 = n / 16 % 3:=Int.tmod_eq_emod_of_nonneg (by omega)
 have e4 : (n % 16).tmod 12 = n % 16 % 12:=Int.tmod_eq_emod_of_nonneg (by omega)
 have e5 : IntKind.i64.wrap n = n:=by rw [zI] <;> omega
 refine acalls_st (rs:=[i64 (bedN n)]) [.tmp 2] Try.func60 rfl (by kernel_rfl) Try.ntmps60 rfl (by simp) rfl fun C vs=>?_
 repeat refine zq ?_
 refine zb fun K hK=>?_;simp only [go_sem];(try simp (disch:=omega) only [zI]);repeat first | intro _ | refine ⟨by omega,?_⟩
 refine hK _ ?_;clear hK K;refine zw (zk [0]) ?_;simp only [go_sem]
 by_cases hz : n % 16 = 0
 · have c : (n % 16 == 0) = true:=by simpa using hz
   repeat refine zq ?_
   refine zb fun K hK=>?_;simp only [go_sem,e1,c];(try simp (disch:=omega) only [zI]);repeat first | intro _ | refine ⟨by omega,?_⟩
   refine hK _ ?_;clear hK K;refine zw (zk [0,5]) ?_;simp only [go_sem]
   repeat refine zq ?_
   refine zc rfl (fun hc=>?_) (fun hc=>?_) <;> (try simp only [go_sem] at hc)
   repeat refine zq ?_
   refine zb fun K hK=>?_;simp only [go_sem];(try simp (disch:=omega) only [zI]);repeat first | intro _ | refine ⟨by omega,?_⟩
   refine hK _ ?_;clear hK K;refine zw (zk [2]) ?_;simp only [go_sem];refine ze ?_;simp only [go_sem]
   simp [bedN,hz]
 · have c : (n % 16 == 0) = false:=by simpa using hz
   repeat refine zq ?_
   refine zb fun K hK=>?_;simp only [go_sem,e1,c];(try simp (disch:=omega) only [zI]);repeat first | intro _ | refine ⟨by omega,?_⟩
   refine hK _ ?_;clear hK K;refine zw (zk [0,5]) ?_;simp only [go_sem]
   repeat refine zq ?_
   refine zc rfl (fun hc=>?_) (fun hc=>?_) <;> (try simp only [go_sem] at hc)
   refine zx ?_
   try simp only [go_sem]
   repeat refine zq ?_
   refine zb fun K hK=>?_;simp only [go_sem,e1,e2,e3,e4,e5];(try simp (disch:=omega) only [zI]);repeat first | intro _ | refine ⟨by omega,?_⟩
   refine hK _ ?_;clear hK K;refine zw (zk [2]) ?_;simp only [go_sem];refine ze ?_;simp only [go_sem];simp only [bedN,if_neg hz]
structure Mt where
 den : Int
 aims : List (List Int)
 start : Int
 out : Int
 ends : List (Int × Int)
abbrev it8 (n : Int) : RV:=.it .u8 n
abbrev mtC (m : Mt) : List RV:=[it8 m.den,.sl 12 (m.aims.map fun e=>e.map it8),it8 m.start,it8 m.out,.sl 2 (m.ends.map fun e=>[.it .u16 e.1,.it .u16 e.2])]
structure WfM (m : Mt) : Prop where
 den : 0 ≤ m.den ∧ m.den ≤ 255
 aims : ∀ e ∈ m.aims,e.length = 12 ∧ ∀ x ∈ e,0 ≤ x ∧ x ≤ 255
 start : 0 ≤ m.start ∧ m.start ≤ 255
 out : 0 ≤ m.out ∧ m.out ≤ 255
 ends : ∀ e ∈ m.ends,(0 ≤ e.1 ∧ e.1 ≤ 65535) ∧ 0 ≤ e.2 ∧ e.2 ≤ 65535
def vAt (e : List Int) (k : Nat) : Int × Int × Int:=(e.getD (3 * k) 0,e.getD (3 * k + 1) 0,e.getD (3 * k + 2) 0)
def stB (den : Int) (e : List Int) : Nat → List Bd × Int
 | 0=>([],den)
 | k + 1=>addB den (stB den e k) (vAt e k)
def finB (den : Int) : List Bd → List Bd
 | []=>[⟨201,0,den⟩]
 | c :: l=>⟨c.b,c.lo,den⟩ :: l
def bedsM (m : Mt) (i : Nat) : List Bd:=if i < m.aims.length then (stB (4 + m.den) (m.aims.getD i []) 4).1 else []
def aimM (m : Mt) (i : Nat) : Am:=⟨201,finB (4 + m.den) (bedsM m i)⟩
def aimN (m : Mt) : Nat:=max 1 (min 3 m.aims.length)
def endM (e : Int × Int) : Sp:=(e.1 * 15,min 1000000 (e.1 * 15 + e.2 * 4))
def ruM (m : Mt) : Ru:=⟨4 + m.den,(List.range (aimN m)).map (aimM m),2 + m.start % 7,m.out % 3,((m.ends.take 3).map endM) ++ [(1000000,1000000)]⟩
theorem v_drop {e : List Int} (h : e.length = 12) {k : Nat} (hk : k < 4) : List.take 3 (List.drop (k * 3) (e.map it8)) = [it8 (vAt e k).1,it8 (vAt e k).2.1,it8 (vAt e k).2.2] ∧ 3 ≤ (List.drop (k * 3) (e.map it8)).length:=by
 match e,h with
 | [a0, a1, a2, a3, a4, a5, a6, a7, a8, a9, a10, a11], _ =>
   have : k = 0 ∨ k = 1 ∨ k = 2 ∨ k = 3:=by omega
   rcases this with rfl | rfl | rfl | rfl <;> exact ⟨rfl,by simp⟩
theorem v_le {e : List Int} (h : ∀ x ∈ e,0 ≤ x ∧ x ≤ 255) (k : Nat) : (0 ≤ (vAt e k).1 ∧ (vAt e k).1 ≤ 255) ∧ (0 ≤ (vAt e k).2.1 ∧ (vAt e k).2.1 ≤ 255) ∧ 0 ≤ (vAt e k).2.2 ∧ (vAt e k).2.2 ≤ 255:=by
 have g : ∀ i,0 ≤ e.getD i 0 ∧ e.getD i 0 ≤ 255:=fun i=>by
  rw [List.getD_eq_getElem?_getD]
  cases hx : e[i]? with
  | none=>simp
  | some x=>exact h x (List.mem_of_getElem? hx)
 exact ⟨g _,g _,g _⟩
theorem stB_ok {den : Int} (hd : 1 ≤ den) {e : List Int} (h : ∀ x ∈ e,0 ≤ x ∧ x ≤ 255) : ∀ k,BedsI den (stB den e k) ∧ (stB den e k).1.length ≤ k
 | 0=>⟨⟨by simp [stB],by simp [stB],by simp [stB,loS],by simp only [stB]; omega⟩,by simp [stB]⟩
 | k + 1 => by
   obtain ⟨h1,h2⟩:=stB_ok hd h k
   obtain ⟨g1,g2⟩:=addB_ok (v:=vAt e k) h1 hd (v_le h k).2.1 (v_le h k).2.2.1
   exact ⟨g1,by simp only [stB]; omega⟩
theorem loS_nonneg : ∀ m : List Bd,(∀ c ∈ m,0 ≤ c.lo) → 0 ≤ loS m
 | [],_=>by simp [loS]
 | c :: m,hc=>by have h1:=hc c (by simp); have h2:=loS_nonneg m fun x hx=>hc x (by simp [hx]); simp only [loS,List.map_cons,List.sum_cons] at h2 ⊢; omega
theorem beds_left {den : Int} {x : List Bd × Int} (h : BedsI den x) : x.2 ≤ den:=by
 have h1:=loS_nonneg x.1 fun c hc=>(h.ok c hc).2.1
 have h2:=h.sum
 omega
theorem front_get {b : Int} {l : List Bd} {j : Nat} (h : j < (frontB b l).length) : ∃ c,l[j]? = some c ∧ (frontB b l)[j]? = some c ∧ c.b ≤ b:=by
 obtain ⟨c,hc⟩:=opt_of_lt h
 have hp : frontB b l <+: l:=List.takeWhile_prefix _
 obtain ⟨t,ht⟩:=hp
 refine ⟨c,?_,hc,?_⟩
 · rw [← ht,List.getElem?_append_left h]; exact hc
 · have:=mem_tw (p:=fun c : Bd=>decide (c.b ≤ b)) (mem_of_opt hc)
   simpa using this
theorem front_end {b : Int} {l : List Bd} {c : Bd} (h : l[(frontB b l).length]? = some c) : b < c.b:=by
 have e:=List.takeWhile_append_dropWhile (p:=fun c : Bd=>decide (c.b ≤ b)) (l:=l)
 have h' : ((l.takeWhile fun c=>decide (c.b ≤ b)) ++ l.dropWhile fun c=>decide (c.b ≤ b))[(l.takeWhile fun c=>decide (c.b ≤ b)).length]? = some c:=by rw [e]; exact h
 rw [List.getElem?_append_right (Nat.le_refl _),Nat.sub_self] at h'
 have h2 : (l.dropWhile fun c=>decide (c.b ≤ b))[0]? = some c:=h'
 have h3:=List.head?_dropWhile_not (p:=fun c : Bd=>decide (c.b ≤ b)) (l:=l)
 rw [List.head?_eq_getElem?,h2] at h3
 simpa using h3
theorem front_le (b : Int) (l : List Bd) : (frontB b l).length ≤ l.length:=(List.takeWhile_prefix _).length_le
theorem foldl_max_ge : ∀ {l : List Int} {x : Int},x ≤ l.foldl max x ∧ ∀ y ∈ l,y ≤ l.foldl max x
 | [],x=>by simp
 | z :: l, x => by
   obtain ⟨h1,h2⟩:=foldl_max_ge (l:=l) (x:=max x z)
   simp only [List.foldl_cons]
   refine ⟨by omega,fun y hy=>?_⟩
   rcases List.mem_cons.1 hy with rfl | hy
   · omega
   · exact h2 y hy
theorem foldl_max_mem : ∀ {l : List Int} {x : Int},l.foldl max x = x ∨ l.foldl max x ∈ l
 | [],x=>by simp
 | z :: l, x => by
   rcases foldl_max_mem (l:=l) (x:=max x z) with h | h
   · simp only [List.foldl_cons,h]
     by_cases hz : z ≤ x
     · left; omega
     · right; rw [show max x z = z by omega]; simp
   · right; simp [h]
theorem le_maxL {l : List Int} {x : Int} (h : x ∈ l) : x ≤ maxL l:=foldl_max_ge.2 x h
theorem maxL_mem {l : List Int} (h : l ≠ []) : maxL l ∈ l:=by
 cases l with
 | nil=>exact absurd rfl h
 | cons x l =>
   unfold maxL
   simp only [List.headD_cons]
   rcases foldl_max_mem (l:=x :: l) (x:=x) with h | h
   · rw [h]; simp
   · exact h
theorem after_mono {r : Ru} {m1 m2 : Bool} (hm : m1 = true → m2 = true) {T T' : List (List Int)} {k y : Nat} (hk : k < r.ends.length) (he : ∀ x ∈ r.ends,endOk x = true)
 (hT : k + 1 < r.ends.length → 0 ≤ (T.getD (k + 1) []).getD y 0 ∧ (T.getD (k + 1) []).getD y 0 ≤ (T'.getD (k + 1) []).getD y 0) : afterD r m1 T k y ≤ afterD r m2 T' k y:=by
 unfold afterD
 split
 · omega
 · rename_i hn
   obtain ⟨h0,h1⟩:=hT (by omega)
   obtain ⟨e,hek⟩:=opt_of_lt hk
   obtain ⟨g1,g2,g3⟩:=endOk_le (he e (mem_of_opt hek))
   have e2 : r.ends.getD k (0,0) = e:=by simp [List.getD_eq_getElem?_getD,hek]
   rw [e2]
   refine overD_mono hm (by omega) ?_
   have hd : endsD m2 e ≤ endsD m1 e ∧ 0 ≤ 1000000 - endsD m1 e:=by unfold endsD; cases m1 <;> cases m2 <;> simp at hm ⊢ <;> omega
   exact Int.mul_le_mul h1 (by omega) hd.2 (by omega)
def RowLe (r : Ru) (T T' : List (List Int)) (k : Nat) : Prop:=k + 1 < r.ends.length → ∀ y : Nat,(y : Int) ≤ r.start → (T.getD (k + 1) []).getD y 0 ≤ (T'.getD (k + 1) []).getD y 0
theorem VisG.row0 {r : Ru} {T : List (List Int)} {k st : Nat} (h : VisG r T k st) {y : Nat} (hy : (y : Int) ≤ r.start) (hk : k + 1 < r.ends.length) : 0 ≤ (T.getD (k + 1) []).getD y 0:=by
 obtain ⟨row,v,hv⟩:=h.tab y hy
 obtain ⟨t1,t2,t3,t4⟩:=hv hk
 simp [List.getD_eq_getElem?_getD,t1,t2,t3]
theorem VisG.after_mono {r : Ru} {m1 m2 : Bool} (hm : m1 = true → m2 = true) {T T' : List (List Int)} {k st : Nat} (h : VisG r T k st) (hT : RowLe r T T' k) (y : Nat) (hy : (y : Int) ≤ r.start) : afterD r m1 T k y ≤ afterD r m2 T' k y :=
 Go.Proofs.Ytlbfkhikmigpbaa.after_mono hm h.kk h.ends fun hk=>⟨h.row0 hy hk,hT hk y hy⟩
theorem means_mono {r : Ru} {m1 m2 : Bool} (hm : m1 = true → m2 = true) (hA : AimsG r) (hH : RefH r) {f g : Int → Int} (hf : ∀ b,0 ≤ b → b ≤ 499 → 0 ≤ f b ∧ f b ≤ 1000000) (hg : ∀ b,0 ≤ b → b ≤ 499 → 0 ≤ g b ∧ g b ≤ 1000000)
 (hfg : ∀ b,0 ≤ b → b ≤ 499 → f b ≤ g b) : ∀ a ∈ r.aims,meanD m1 r.d (chW f a.beds) ≤ meanD m2 r.d (chW g a.beds):=fun a ha =>
 meanD_mono hm (hA.ch hf a ha) (hA.ch hg a ha) (hH.hi a ha) fun c hc=>hfg c.b ((hA.beds a ha).2.2 c hc).1.1 ((hA.beds a ha).2.2 c hc).1.2
theorem rowV_getD (r : Ru) (most : Bool) (T : List (List Int)) (k y : Nat) (h : (y : Int) ≤ r.start) : (rowV r most T k).getD y 0 = if (y : Int) < lowestR r then 0 else valV r most T k y 3 y:=by
 rw [List.getD_eq_getElem?_getD,rowV_get r most T k y h]; rfl
theorem tabF_row {r : Ru} (most : Bool) {k : Nat} (hk : k < r.ends.length) : (tabF r most).getD k [] = rowV r most (tabI r most (r.ends.length - 1 - k)) k:=by
 unfold tabF
 rw [List.getD_eq_getElem?_getD,tabI_get r most _ (Nat.le_refl _) k (by omega) hk]; rfl
theorem rowV_len (r : Ru) (most : Bool) (T : List (List Int)) (k : Nat) : (rowV r most T k).length = r.start.toNat + 1:=by simp [rowV]
theorem tabF_len (r : Ru) (most : Bool) : (tabF r most).length = r.ends.length:=tabI_len _ _ _
abbrev bAt (l : List Bd) (i : Nat) : Bd:=l.getD i ⟨0,0,0⟩
def dotF (l : List Bd) (x : Nat → Int) : Int:=((List.range l.length).map fun i=>x i * (bAt l i).b).sum
structure TruthN (den : Int) (l : List Bd) (x : Nat → Int) : Prop where
 each : ∀ i,i < l.length → (bAt l i).lo ≤ x i ∧ x i ≤ (bAt l i).hi
 sum : ((List.range l.length).map x).sum = den
theorem range_bAt (l : List Bd) : (List.range l.length).map (bAt l) = l:=by
 refine List.ext_getElem (by simp) fun i h1 h2=>?_
 simp [bAt,List.getD,List.getElem?_eq_getElem h2]
theorem sum_bAt (l : List Bd) (F : Bd → Int) : ((List.range l.length).map fun i=>F (bAt l i)).sum = (l.map F).sum:=by
 conv=>rhs; rw [← range_bAt l]
 rw [List.map_map]; rfl
theorem sum_add {f g : Nat → Int} : ∀ I : List Nat,(I.map fun i=>f i + g i).sum = (I.map f).sum + (I.map g).sum
 | []=>by simp
 | i :: I=>by simp only [List.map_cons,List.sum_cons,sum_add I]; omega
theorem sum_sub {f g : Nat → Int} : ∀ I : List Nat,(I.map fun i=>f i - g i).sum = (I.map f).sum - (I.map g).sum
 | []=>by simp
 | i :: I=>by simp only [List.map_cons,List.sum_cons,sum_sub I]; omega
theorem bAt_mem {l : List Bd} {i : Nat} (h : i < l.length) : bAt l i ∈ l:=by
 unfold bAt
 rw [List.getD_eq_getElem?_getD,List.getElem?_eq_getElem h]; exact List.getElem_mem h
theorem mean_opt {most : Bool} {den : Int} {l : List Bd} (h : ChG den l) (hh : den ≤ hiS l) : ∃ x,TruthN den l x ∧ meanD most den l = overD most (dotF l x) den ∧ ∀ y,TruthN den l y → leD most (dotF l x) (dotF l y):=by
 obtain ⟨I,p,n,w,e⟩:=mean_idx (most:=most) h hh
 have hI : ∀ i ∈ I,i < l.length:=fun i hi=>List.mem_range.1 (p.mem_iff.1 hi)
 have hlow:=h.low
 have hm0 : ∀ i ∈ I,0 ≤ (bAt l i).hi - (bAt l i).lo:=fun i hi=>by
  have:=(h.each _ (bAt_mem (hI i hi))).2
  omega
 have hsm : (I.map fun i=>(bAt l i).hi - (bAt l i).lo).sum = hiS l - loS l:=by
  rw [perm_sum (f:=fun i=>(bAt l i).hi - (bAt l i).lo) p,sum_sub]
  rw [sum_bAt l (·.hi),sum_bAt l (·.lo)]; rfl
 have hlo : loS l = (I.map fun i=>(bAt l i).lo).sum:=by
  rw [perm_sum (f:=fun i=>(bAt l i).lo) p,sum_bAt l (·.lo)]; rfl
 have hlv : loV l = (I.map fun i=>(bAt l i).lo * (bAt l i).b).sum:=by
  rw [perm_sum (f:=fun i=>(bAt l i).lo * (bAt l i).b) p,sum_bAt l fun c=>c.lo * c.b]; rfl
 have hdot : ∀ x,dotF l x = (I.map fun i=>x i * (bAt l i).b).sum:=fun x=>(perm_sum (f:=fun i=>x i * (bAt l i).b) p).symm
 have hsum : ∀ x : Nat → Int,((List.range l.length).map x).sum = (I.map x).sum:=fun x=>(perm_sum (f:=x) p).symm
 obtain ⟨x,x1,x2,x3⟩:=greedy_amt (m:=fun i=>(bAt l i).hi - (bAt l i).lo) (v:=fun i=>(bAt l i).b) (I:=I) (left:=den - loS l) (s:=loV l) n hm0 (by omega) (by omega)
 have hd : dotF l (fun i=>(bAt l i).lo + x i) = loV l + (I.map fun i=>x i * (bAt l i).b).sum:=by
  rw [hdot,hlv,← sum_add]
  congr 1
  exact List.map_congr_left fun i _=>by rw [Int.add_mul]
 refine ⟨fun i=>(bAt l i).lo + x i,⟨fun i hi=>?_,?_⟩,?_,fun y hy=>?_⟩
 · have:=x1 i (p.mem_iff.2 (List.mem_range.2 hi))
   omega
 · rw [hsum,sum_add,x2,← hlo]; omega
 · rw [e,hd,x3]
 · have hfe : ∀ i ∈ I,0 ≤ y i - (bAt l i).lo ∧ y i - (bAt l i).lo ≤ (bAt l i).hi - (bAt l i).lo:=fun i hi=>by
    have:=hy.each i (hI i hi)
    omega
   have hys : (I.map fun i=>y i - (bAt l i).lo).sum = den - loS l:=by
    rw [sum_sub,← hsum y,hy.sum,← hlo]
   have hyd : dotF l y = loV l + (I.map fun i=>(y i - (bAt l i).lo) * (bAt l i).b).sum:=by
    rw [hdot,hlv,← sum_add]
    congr 1
    exact List.map_congr_left fun i _=>by rw [Int.sub_mul]; omega
   rw [hd,hyd]
   have hf:=feas_map (m:=fun i=>(bAt l i).hi - (bAt l i).lo) (v:=fun i=>(bAt l i).b) (x:=fun i=>y i - (bAt l i).lo) hfe
   have hdm:=dot_map (m:=fun i=>(bAt l i).hi - (bAt l i).lo) (v:=fun i=>(bAt l i).b) (x:=fun i=>y i - (bAt l i).lo) I
   cases most with
   | false =>
     have:=fill_min hf (den - loS l) (loV l) (List.pairwise_map.2 (w.imp fun h=>by simpa [leD] using h)) hys
     rw [hdm,x3] at this
     simp only [leD,Bool.false_eq_true,if_false]
     omega
   | true =>
     have:=fill_max hf (den - loS l) (loV l) (List.pairwise_map.2 (w.imp fun h=>by simpa [leD] using h)) hys
     rw [hdm,x3] at this
     simp only [leD,if_true]
     omega
theorem bAt_chW (f : Int → Int) (l : List Bd) {i : Nat} (hi : i < l.length) : bAt (chW f l) i = ⟨f (bAt l i).b,(bAt l i).lo,(bAt l i).hi⟩:=by simp [chW,bAt,List.getD,List.getElem?_eq_getElem hi]
theorem chW_len (f : Int → Int) (l : List Bd) : (chW f l).length = l.length:=by simp [chW]
theorem dotF_chW (f : Int → Int) (l : List Bd) (x : Nat → Int) : dotF (chW f l) x = ((List.range l.length).map fun i=>x i * f (bAt l i).b).sum:=by
 unfold dotF
 rw [chW_len]
 congr 1
 exact List.map_congr_left fun i hi=>by rw [bAt_chW f l (List.mem_range.1 hi)]
theorem TruthN.chW {den : Int} {l : List Bd} {x : Nat → Int} {f g : Int → Int} (h : TruthN den (chW f l) x) : TruthN den (chW g l) x:=by
 refine ⟨fun i hi=>?_,?_⟩
 · rw [chW_len] at hi
   have:=h.each i (by rw [chW_len]; exact hi)
   rw [bAt_chW f l hi] at this
   rw [bAt_chW g l hi]
   exact this
 · have:=h.sum
   rw [chW_len] at this ⊢
   exact this
abbrev u8L (l : List Int) : RV:=.sl 1 (l.map fun n=>[it8 n])
def moreT (l : List Bd) (bs : List Int) (k i : Nat) (x : List Int × Int) : Int :=
 if k = 0 ∧ 0 < bs.length then min x.2 ((bAt l i).hi - x.1.getD i 0) * bs.getD (i % bs.length) 0 / 255 else min x.2 ((bAt l i).hi - x.1.getD i 0)
def stepT (l : List Bd) (bs : List Int) (k i : Nat) (x : List Int × Int) : List Int × Int:=(x.1.set i (x.1.getD i 0 + moreT l bs k i x),x.2 - moreT l bs k i x)
def passT (l : List Bd) (bs : List Int) (k : Nat) (x : List Int × Int) : Nat → List Int × Int
 | 0=>x
 | i + 1=>stepT l bs k i (passT l bs k x i)
def startT (l : List Bd) (den : Int) : List Int × Int:=(l.map (·.lo),den - loS l)
def atT (l : List Bd) (den : Int) (bs : List Int) : Nat → List Int × Int
 | 0=>startT l den
 | k + 1=>passT l bs k (atT l den bs k) l.length
def truthL (l : List Bd) (den : Int) (bs : List Int) : List Int:=(atT l den bs 2).1
structure TI (l : List Bd) (den : Int) (x : List Int × Int) : Prop where
 len : x.1.length = l.length
 each : ∀ i,i < l.length → (bAt l i).lo ≤ x.1.getD i 0 ∧ x.1.getD i 0 ≤ (bAt l i).hi
 sum : x.1.sum + x.2 = den
 left : 0 ≤ x.2
theorem sum_setT : ∀ {M : List Int} {a : Nat} {y : Int},a < M.length → (M.set a y).sum = M.sum - M.getD a 0 + y
 | x :: M,0,y,_=>by simp; omega
 | x :: M, a + 1, y, h => by
   have:=sum_setT (M:=M) (a:=a) (y:=y) (by simpa using h)
   simp only [List.set_cons_succ,List.sum_cons,this,List.getD_cons_succ]
   omega
theorem getD_set (M : List Int) (a i : Nat) (y : Int) (h : a < M.length) : (M.set a y).getD i 0 = if i = a then y else M.getD i 0:=by
 rw [List.getD_eq_getElem?_getD,List.getElem?_set,List.getD_eq_getElem?_getD]
 by_cases e : a = i
 · subst e; simp [h]
 · rw [if_neg e,if_neg (fun h=>e h.symm)]
theorem more_le {l : List Bd} {den : Int} {bs : List Int} (hb : ∀ n ∈ bs,0 ≤ n ∧ n ≤ 255) {x : List Int × Int} (h : TI l den x) (k : Nat) {i : Nat} (hi : i < l.length) :
 0 ≤ moreT l bs k i x ∧ moreT l bs k i x ≤ min x.2 ((bAt l i).hi - x.1.getD i 0):=by
 have h1:=h.each i hi
 have h2:=h.left
 unfold moreT
 split
 · rename_i hk
   have hq : 0 ≤ bs.getD (i % bs.length) 0 ∧ bs.getD (i % bs.length) 0 ≤ 255:=by
    have hlt : i % bs.length < bs.length:=Nat.mod_lt _ hk.2
    rw [List.getD_eq_getElem?_getD,List.getElem?_eq_getElem hlt]
    exact hb _ (List.getElem_mem _)
   generalize bs.getD (i % bs.length) 0 = q at hq
   generalize hm : min x.2 ((bAt l i).hi - x.1.getD i 0) = m at *
   have hm0 : 0 ≤ m:=by omega
   have g1:=Int.mul_nonneg hm0 hq.1
   have g2:=Int.mul_le_mul_of_nonneg_left hq.2 hm0
   omega
 · omega
theorem TI.step {l : List Bd} {den : Int} {bs : List Int} (hb : ∀ n ∈ bs,0 ≤ n ∧ n ≤ 255) {x : List Int × Int} (h : TI l den x) (k : Nat) {i : Nat} (hi : i < l.length) : TI l den (stepT l bs k i x):=by
 have hm:=more_le hb h k hi
 have hl:=h.len
 refine ⟨by simp [stepT,hl],fun j hj=>?_,?_,?_⟩
 · simp only [stepT];rw [getD_set _ _ _ _ (by omega)]
   have:=h.each j hj
   split
   · rename_i e; subst e; omega
   · exact this
 · simp only [stepT];rw [sum_setT (by omega)]
   have:=h.sum
   omega
 · simp only [stepT]; omega
theorem TI.pass {l : List Bd} {den : Int} {bs : List Int} (hb : ∀ n ∈ bs,0 ≤ n ∧ n ≤ 255) {x : List Int × Int} (h : TI l den x) (k : Nat) : ∀ i,i ≤ l.length → TI l den (passT l bs k x i)
 | 0,_=>h
 | i + 1,hi=>(TI.pass hb h k i (by omega)).step hb k (by omega)
theorem TI.start {l : List Bd} {den : Int} (h : loS l ≤ den) (h1 : ∀ c ∈ l,c.lo ≤ c.hi) : TI l den (startT l den):=by
 refine ⟨by simp [startT],fun i hi=>?_,?_,?_⟩
 · have:=h1 _ (bAt_mem hi)
   have e : (startT l den).1.getD i 0 = (bAt l i).lo:=by simp [startT,bAt,List.getD,List.getElem?_eq_getElem hi]
   rw [e]; omega
 · simp only [startT,loS]; omega
 · simp only [startT]; omega
theorem TI.at {l : List Bd} {den : Int} {bs : List Int} (hb : ∀ n ∈ bs,0 ≤ n ∧ n ≤ 255) (h : loS l ≤ den) (h1 : ∀ c ∈ l,c.lo ≤ c.hi) : ∀ k,TI l den (atT l den bs k)
 | 0=>TI.start h h1
 | k + 1=>(TI.at hb h h1 k).pass hb k l.length (Nat.le_refl _)
theorem pass_full {l : List Bd} {den : Int} {bs : List Int} (hb : ∀ n ∈ bs,0 ≤ n ∧ n ≤ 255) {x : List Int × Int} (h : TI l den x) : ∀ i,i ≤ l.length → (passT l bs 1 x i).2 = 0 ∨ ∀ j,j < i → (passT l bs 1 x i).1.getD j 0 = (bAt l j).hi
 | 0,_=>.inr fun j hj=>by omega
 | i + 1, hi => by
   have hT:=TI.pass hb h 1 i (by omega)
   have hl:=hT.len
   have he:=hT.each i (by omega)
   have h0:=hT.left
   simp only [passT]
   obtain ⟨y,hy⟩ : ∃ y,y = passT l bs 1 x i:=⟨_,rfl⟩
   have ih:=pass_full hb h i (by omega)
   rw [← hy] at hT hl he h0 ih ⊢
   have hm : moreT l bs 1 i y = min y.2 ((bAt l i).hi - y.1.getD i 0):=by unfold moreT; rw [if_neg (by omega)]
   by_cases c : y.2 ≤ (bAt l i).hi - y.1.getD i 0
   · left; simp only [stepT,hm]; omega
   · right
     intro j hj
     simp only [stepT,hm];rw [getD_set _ _ _ _ (by omega)]
     split
     · rename_i e; subst e; omega
     · rcases ih with ih | ih
       · omega
       · exact ih j (by omega)
theorem sum_getD (M : List Int) : ((List.range M.length).map fun i=>M.getD i 0).sum = M.sum:=by
 congr 1
 refine List.ext_getElem (by simp) fun i h1 h2=>?_
 simp [List.getD,List.getElem?_eq_getElem h2]
theorem truth_ok {l : List Bd} {den : Int} {bs : List Int} (hb : ∀ n ∈ bs,0 ≤ n ∧ n ≤ 255) (h : loS l ≤ den) (h1 : ∀ c ∈ l,c.lo ≤ c.hi) (hh : den ≤ hiS l) :
 TruthN den l (fun i=>(truthL l den bs).getD i 0) ∧ (truthL l den bs).length = l.length:=by
 have hT:=TI.at hb h h1 2
 have hT1:=TI.at hb h h1 1
 have hf:=pass_full hb hT1 l.length (Nat.le_refl _)
 have e : (passT l bs 1 (atT l den bs 1) l.length).2 = 0:=by
  rcases hf with hf | hf
  · exact hf
  · have hs:=hT.sum
    have hl:=hT.left
    have h2 : (atT l den bs 2).1.sum = hiS l:=by
     rw [← sum_getD,hT.len,hiS,← sum_bAt l (·.hi)]
     congr 1
     exact List.map_congr_left fun i hi=>hf i (List.mem_range.1 hi)
    have e2 : (passT l bs 1 (atT l den bs 1) l.length) = atT l den bs 2:=rfl
    rw [e2]; omega
 refine ⟨⟨hT.each,?_⟩,hT.len⟩
 have hs:=hT.sum
 have e2 : (passT l bs 1 (atT l den bs 1) l.length) = atT l den bs 2:=rfl
 rw [e2] at e
 show ((List.range l.length).map fun i=>(atT l den bs 2).1.getD i 0).sum = den
 rw [← hT.len,sum_getD]; omega
theorem sum_nonneg : ∀ {M : List Int},(∀ v ∈ M,0 ≤ v) → 0 ≤ M.sum
 | [],_=>by simp
 | x :: M, h => by
   have:=sum_nonneg (M:=M) fun v hv=>h v (by simp [hv])
   have:=h x (by simp)
   simp only [List.sum_cons]; omega
theorem TI.le {l : List Bd} {den : Int} {x : List Int × Int} (h : TI l den x) (h0 : ∀ c ∈ l,0 ≤ c.lo) : x.2 ≤ den:=by
 have hs:=h.sum
 have hl:=h.len
 have : 0 ≤ x.1.sum:=sum_nonneg fun v hv=>by
  obtain ⟨i,hi⟩:=List.getElem?_of_mem hv
  have hil:=(List.getElem?_eq_some_iff.1 hi).1
  have:=(h.each i (by omega)).1
  rw [List.getD_eq_getElem?_getD,hi] at this
  have:=h0 _ (bAt_mem (show i < l.length by omega))
  simp only [Option.getD_some] at *
  omega
 omega
end Go.Proofs.Ytlbfkhikmigpbaa

/- Part 9 of the texts of this claim. -/
import Derived.Test.YtlbfkhikmigpbaaV68
import Derived.Test.YtlbfkhikmigpbaaV67
namespace Go.Proofs.Ytlbfkhikmigpbaa
open Go Go.Oc
set_option linter.unusedSimpArgs false
set_option linter.unusedVariables false
set_option maxRecDepth 8000
set_option maxHeartbeats 1000000
section
variable {P : Program} {C : Ctx} {s : AS} {Q : Exit → AS → Prop} {ops : Array Oper}
theorem sops_sx {l : List Oper} {t : TypeId} {n : Nat} {ps : List (Nat × Operand)} {d : Nat} {ty : TypeId} {pos : String} {af : Array Edge} (sz : Nat) (es : List (List RV)) (hdn : d < s.n) (hne : es ≠ [])
 (hp : (sBuildSlice P s t n (evp s ps)).pre) (hy : (sBuildSlice P s t n (evp s ps)).y = ⟨.r (.sl sz es),[]⟩)
 (h : sops P C ops l Q (s.put (some d) (.r (.sx sz es)))) : sops P C ops (⟨some d,.buildSlice t n ps.toArray,ty,pos,af,none⟩ :: l) Q s:=fun a w ⟨p,hs⟩=>by
 rw [← evp_eq] at hp hy
 unfold wpListIn
 rw [if_pos (wantA_sound hs (by simp [wantA]))]
 refine wpIn_of_wp (by intro c h; cases h) ?_
 have hAY : AY P ⟨some d,.buildSlice t n ps.toArray,ty,pos,af,none⟩ s ⟨.r (.sx sz es),[]⟩:=by
  unfold AY
  exact .inl ⟨hp,.inr ⟨rfl,sz,es,hne,hy,rfl⟩⟩
 refine AY_sound hs hAY (fun t ht=>by injection ht with ht; subst ht; exact hdn) fun a' w' p' hs'=>?_
 exact h a' w' ⟨p',hs'⟩
end
theorem half_ok (a b : Int) : ACalls Try.prog 36 [.sx 2 [[i64 a,i64 b]]] (ruV (halfR [(a,b)])):=by
 have h1:=one_ok 1
 have hm:=one_ok 1000000
 refine acalls_st (rs:=[ruV (halfR [(a,b)])]) [.cell 2 28] Try.func36 rfl (by kernel_rfl) Try.ntmps36 rfl (by simp) rfl fun C vs=>?_
 repeat refine zq ?_
 refine zb (by kernel_rfl) fun K hK=>?_
 simp only [go_sem]
 (try simp (disch:=omega) only [zI])
 repeat first | intro _ | refine ⟨by omega,?_⟩ | refine ⟨⟨by omega,by omega⟩,?_⟩
 refine hK _ ?_
 clear hK K
 refine zw (zk [0,2]) ?_
 simp only [go_sem]
 repeat refine zq ?_
 refine zb (by kernel_rfl) fun K hK=>?_
 simp only [go_sem]
 (try simp (disch:=omega) only [zI])
 refine zh (h1) rfl (by simp only [go_sem,i64,ints]) (by simp only [go_sem,i64,ints]) (by first | exact .inl rfl | exact .inr rfl) ?_
 (try simp only [go_sem])
 (try simp (disch:=omega) only [zI])
 refine zh (h1) rfl (by simp only [go_sem,i64,ints]) (by simp only [go_sem,i64,ints]) (by first | exact .inl rfl | exact .inr rfl) ?_
 (try simp only [go_sem])
 (try simp (disch:=omega) only [zI])
 refine zh (hm) rfl (by simp only [go_sem,i64,ints]) (by simp only [go_sem,i64,ints]) (by first | exact .inl rfl | exact .inr rfl) ?_
 (try simp only [go_sem])
 (try simp (disch:=omega) only [zI])
 repeat first | intro _ | refine ⟨by omega,?_⟩ | refine ⟨⟨by omega,by omega⟩,?_⟩
 refine hK _ ?_
 clear hK K
 refine zw (sub_frzB 2 4 14 (ty:=52) (sz:=2) (off:=0) (m:=2) (es:=[[i64 a,i64 b],[i64 1000000,i64 1000000]]) (by omega) (by omega) rfl (by simp only [go_sem,List.getElem?_cons_succ,List.getElem?_cons_zero]) (by rfl) (by simp)) ?_
 try simp only [go_sem]
 refine zw (zk [2]) ?_
 simp only [go_sem]
 refine ze ?_
 simp only [go_sem]
 exact ⟨rfl,rfl,rfl,rfl,rfl⟩
theorem half_nil : ACalls Try.prog 36 [.ns] (ruV (halfR [])):=by
 have h1:=one_ok 1
 have hm:=one_ok 1000000
 refine acalls_st (rs:=[ruV (halfR [])]) [.cell 2 28] Try.func36 rfl (by kernel_rfl) Try.ntmps36 rfl (by simp) rfl fun C vs=>?_
 repeat refine zq ?_
 refine zb (by kernel_rfl) fun K hK=>?_
 simp only [go_sem]
 (try simp (disch:=omega) only [zI])
 repeat first | intro _ | refine ⟨by omega,?_⟩ | refine ⟨⟨by omega,by omega⟩,?_⟩
 refine hK _ ?_
 clear hK K
 refine zw (zk [0,2]) ?_
 simp only [go_sem]
 repeat refine zq ?_
 refine zb (by kernel_rfl) fun K hK=>?_
 simp only [go_sem]
 (try simp (disch:=omega) only [zI])
 refine zh (h1) rfl (by simp only [go_sem,i64,ints]) (by simp only [go_sem,i64,ints]) (by first | exact .inl rfl | exact .inr rfl) ?_
 (try simp only [go_sem])
 (try simp (disch:=omega) only [zI])
 refine zh (h1) rfl (by simp only [go_sem,i64,ints]) (by simp only [go_sem,i64,ints]) (by first | exact .inl rfl | exact .inr rfl) ?_
 (try simp only [go_sem])
 (try simp (disch:=omega) only [zI])
 refine zh (hm) rfl (by simp only [go_sem,i64,ints]) (by simp only [go_sem,i64,ints]) (by first | exact .inl rfl | exact .inr rfl) ?_
 (try simp only [go_sem])
 (try simp (disch:=omega) only [zI])
 repeat first | intro _ | refine ⟨by omega,?_⟩ | refine ⟨⟨by omega,by omega⟩,?_⟩
 refine hK _ ?_
 clear hK K
 refine zw (sub_frzB 2 4 14 (ty:=52) (sz:=2) (off:=0) (m:=1) (es:=[[i64 1000000,i64 1000000]]) (by omega) (by omega) rfl (by simp only [go_sem,List.getElem?_cons_succ,List.getElem?_cons_zero]) (by rfl) (by simp)) ?_
 try simp only [go_sem]
 refine zw (zk [2]) ?_
 simp only [go_sem]
 refine ze ?_
 simp only [go_sem]
 exact ⟨rfl,rfl,rfl,rfl,rfl⟩
theorem half_wf (e : List Sp) : WfR (halfR e):=by
 refine ⟨⟨show (-9223372036854775808 : Int) ≤ 2 ∧ (2 : Int) ≤ 9223372036854775807 by decide,fun a ha=>?_⟩⟩
 simp only [halfR,List.mem_singleton] at ha
 subst ha
 refine ⟨by unfold I64; decide,fun c hc=>?_⟩
 simp only [List.mem_cons,List.not_mem_nil,or_false] at hc
 rcases hc with rfl | rfl <;> (unfold I64; decide)
theorem ex_table : ACalls Try.prog 16 [ruV (halfR [(0,500000)])] (.tu [tabR [[0,0,929687],[0,0,875000]],tabR [[0,0,984375],[0,0,875000]],i64 0]):=by
 have h:=table_ok (halfR [(0,500000)]) (half_wf _)
 have h0 : ruE (halfR [(0,500000)]) = 0:=by decide +kernel
 have h1 : tabF (halfR [(0,500000)]) false = [[0,0,929687],[0,0,875000]]:=by decide +kernel
 have h2 : tabF (halfR [(0,500000)]) true = [[0,0,984375],[0,0,875000]]:=by decide +kernel
 unfold tabsV at h
 rw [if_pos h0,if_pos h0,h0,h1,h2] at h
 exact h
theorem ex_toss : ACalls Try.prog 30 [ruV (halfR [(500000,500000)])] (.tu [.ag [i64 929687,i64 929688],.ag [i64 437500,i64 437500],i64 0]):=by
 have h:=toss_ok (halfR [(500000,500000)]) (half_wf _)
 have h0 : ruE (halfR [(500000,500000)]) = 0:=by decide +kernel
 have h1 : tossF (halfR [(500000,500000)]) false = 929687:=by decide +kernel
 have h2 : tossF (halfR [(500000,500000)]) true = 929688:=by decide +kernel
 have h3 : tossS (halfR [(500000,500000)]) false = 437500:=by decide +kernel
 have h4 : tossS (halfR [(500000,500000)]) true = 437500:=by decide +kernel
 unfold tossV at h
 rw [if_pos h0,if_pos h0,h0,h1,h2,h3,h4] at h
 exact h
theorem ex_odds : ∃ hi : Int,ACalls Try.prog 21 [ruV (halfR []),.ag [i64 0,i64 2,i64 2,i64 2]] (.tu [spansR [(750000,hi)],i64 0]):=by
 have h:=odds_ok (halfR []) (half_wf _) ⟨0,2,2,2⟩
 have h0 : oddsE (halfR []) ⟨0,2,2,2⟩ = 0:=by decide +kernel
 rcases odds_cases (halfR []) ⟨0,2,2,2⟩ with ⟨_,_,_,hR⟩ | ⟨hE,_⟩
 · rw [h0,hR] at h
   have h1 : oddsL (halfR []) ⟨0,2,2,2⟩ = [(750000,750000)]:=by decide +kernel
   rw [h1] at h
   exact ⟨_,h⟩
 · exact absurd h0 hE
theorem ex_aim : ACalls Try.prog 22 [ruV (halfR []),.ag [i64 0,i64 2,i64 2,i64 3]] (.tu [i64 0,i64 875000,i64 0]):=by
 have h:=aim_ok (halfR []) (half_wf _) ⟨0,2,2,3⟩
 have h0 : oddsE (halfR []) ⟨0,2,2,3⟩ = 0:=by decide +kernel
 have h1 : bestL (oddsL (halfR []) ⟨0,2,2,3⟩) = 0:=by decide +kernel
 have h2 : lowL (oddsL (halfR []) ⟨0,2,2,3⟩) = 875000:=by decide +kernel
 rw [if_pos h0,if_pos h0,h0,h1,h2] at h
 exact h
theorem ex_may : ACalls Try.prog 23 [ruV (halfR []),.ag [i64 0,i64 2,i64 2,i64 1]] (.tu [ints [0],i64 0]):=by
 have h:=may_ok (halfR []) (half_wf _) ⟨0,2,2,1⟩
 have h0 : oddsE (halfR []) ⟨0,2,2,1⟩ = 0:=by decide +kernel
 have h1 : mayL (oddsL (halfR []) ⟨0,2,2,1⟩) (lowL (oddsL (halfR []) ⟨0,2,2,1⟩)) (oddsL (halfR []) ⟨0,2,2,1⟩).length = [0]:=by decide +kernel
 rw [if_pos h0,h0,h1] at h
 exact h
theorem ex_proves : ACalls Try.prog 27 [ruV (halfR [(500000,500000)]),.sl 1 [[.sl 1 [[i64 0],[i64 0],[i64 929688]]],[.sl 1 [[i64 0],[i64 0],[i64 875000]]]],.bo false] (.tu [.bo false,i64 0,i64 2,i64 0]):=by
 have h:=proves_ok (halfR [(500000,500000)]) (half_wf _) false [[0,0,929688],[0,0,875000]]
 have h0 : provesE (halfR [(500000,500000)]) [[0,0,929688],[0,0,875000]] = 0:=by decide +kernel
 have h1 : provesO (halfR [(500000,500000)]) false [[0,0,929688],[0,0,875000]] = some (0,2):=by decide +kernel
 unfold provesR at h
 rw [if_pos h0,h1] at h
 exact h
theorem known_ok : ACalls Try.prog 13 [] (.bo true):=by
 obtain ⟨hi,hod⟩:=ex_odds
 have hta:=ex_table
 have hto:=ex_toss
 have hai:=ex_aim
 have hma:=ex_may
 have hpr:=ex_proves
 have hn:=half_nil
 have h1:=half_ok 0 500000
 have h2:=half_ok 500000 500000
 have ho:=one_ok 500000
 generalize halfR [(0,500000)] = A0 at hta h1
 generalize halfR [(500000,500000)] = A1 at hto hpr h2
 generalize halfR [] = A2 at hod hai hma hn
 refine acalls_st (rs:=[.bo true]) [.tmp 0] Try.func13 rfl (by kernel_rfl) Try.ntmps13 rfl (by simp) rfl fun C vs=>?_
 repeat refine zq ?_
 refine zb (by kernel_rfl) fun K hK=>?_
 simp only [go_sem]
 (try simp (disch:=omega) only [zI])
 repeat first | intro _ | refine ⟨by omega,?_⟩ | refine ⟨⟨by omega,by omega⟩,?_⟩
 refine hK _ ?_
 clear hK K
 repeat refine zq ?_
 refine awp_long ?_
 refine sops_take 1 (by kernel_rfl) fun K hK=>?_
 simp only [go_sem,List.take_succ_cons,List.take_zero,List.drop_succ_cons,List.drop_zero,List.append_eq,List.cons_append,List.nil_append]
 (try simp (disch:=omega) only [zI])
 repeat first | intro _ | refine ⟨by omega,?_⟩ | refine ⟨⟨by omega,by omega⟩,?_⟩
 refine hK _ rfl ?_
 clear hK K
 refine sops_sx 2 [[i64 0,i64 500000]] (by simp [go_sem]) (by simp) (by simp only [go_sem]; trivial) (by simp only [go_sem]; rfl) ?_
 try simp only [go_sem]
 refine sops_end (by kernel_rfl) fun K hK=>?_
 simp only [go_sem,List.drop_succ_cons,List.drop_zero,List.append_eq,List.cons_append,List.nil_append]
 (try simp (disch:=omega) only [zI])
 refine zh (h1) rfl (by simp only [go_sem,i64,ints]) (by simp only [go_sem,i64,ints]) (by first | exact .inl rfl | exact .inr rfl) ?_
 (try simp only [go_sem])
 (try simp (disch:=omega) only [zI])
 refine zh (hta) rfl (by simp only [go_sem,i64,ints]) (by simp only [go_sem,i64,ints]) (by first | exact .inl rfl | exact .inr rfl) ?_
 (try simp only [go_sem])
 (try simp (disch:=omega) only [zI])
 repeat first | intro _ | refine ⟨by omega,?_⟩ | refine ⟨⟨by omega,by omega⟩,?_⟩
 refine hK _ ?_
 clear hK K
 refine zw (zk [1,2,3]) ?_
 simp only [go_sem]
 repeat refine zq ?_
 refine awp_long ?_
 refine sops_take 1 (by kernel_rfl) fun K hK=>?_
 simp only [go_sem,List.take_succ_cons,List.take_zero,List.drop_succ_cons,List.drop_zero,List.append_eq,List.cons_append,List.nil_append]
 (try simp (disch:=omega) only [zI])
 refine zh (ho) rfl (by simp only [go_sem,i64,ints]) (by simp only [go_sem,i64,ints]) (by first | exact .inl rfl | exact .inr rfl) ?_
 (try simp only [go_sem])
 (try simp (disch:=omega) only [zI])
 repeat first | intro _ | refine ⟨by omega,?_⟩ | refine ⟨⟨by omega,by omega⟩,?_⟩
 refine hK _ rfl ?_
 clear hK K
 refine sops_sx 2 [[i64 500000,i64 500000]] (by simp [go_sem]) (by simp) (by simp only [go_sem]; trivial) (by simp only [go_sem]; rfl) ?_
 try simp only [go_sem]
 refine sops_end (by kernel_rfl) fun K hK=>?_
 simp only [go_sem,List.drop_succ_cons,List.drop_zero,List.append_eq,List.cons_append,List.nil_append]
 (try simp (disch:=omega) only [zI])
 refine zh (h2) rfl (by simp only [go_sem,i64,ints]) (by simp only [go_sem,i64,ints]) (by first | exact .inl rfl | exact .inr rfl) ?_
 (try simp only [go_sem])
 (try simp (disch:=omega) only [zI])
 refine zh (hto) rfl (by simp only [go_sem,i64,ints]) (by simp only [go_sem,i64,ints]) (by first | exact .inl rfl | exact .inr rfl) ?_
 (try simp only [go_sem])
 (try simp (disch:=omega) only [zI])
 repeat first | intro _ | refine ⟨by omega,?_⟩ | refine ⟨⟨by omega,by omega⟩,?_⟩
 refine hK _ ?_
 clear hK K
 refine zw (sub_frzP 4 4 [i64 929687,i64 929688] (by omega) rfl rfl) ?_
 refine zw (zk [1,2,3,4,5,6]) ?_
 simp only [go_sem]
 refine zw (sub_frzP 5 5 [i64 437500,i64 437500] (by omega) rfl rfl) ?_
 refine zw (zk [1,2,3,4,5,6]) ?_
 simp only [go_sem]
 repeat refine zq ?_
 refine zb (by kernel_rfl) fun K hK=>?_
 simp only [go_sem]
 (try simp (disch:=omega) only [zI])
 refine zh (hn) rfl (by simp only [go_sem,i64,ints]) (by simp only [go_sem,i64,ints]) (by first | exact .inl rfl | exact .inr rfl) ?_
 (try simp only [go_sem])
 (try simp (disch:=omega) only [zI])
 refine zh (hod) rfl (by simp only [go_sem,i64,ints]) (by simp only [go_sem,i64,ints]) (by first | exact .inl rfl | exact .inr rfl) ?_
 (try simp only [go_sem])
 (try simp (disch:=omega) only [zI])
 repeat first | intro _ | refine ⟨by omega,?_⟩ | refine ⟨⟨by omega,by omega⟩,?_⟩
 refine hK _ ?_
 clear hK K
 refine zw (zk [1,2,3,4,5,6,7,8]) ?_
 simp only [go_sem]
 repeat refine zq ?_
 refine zb (by kernel_rfl) fun K hK=>?_
 simp only [go_sem]
 (try simp (disch:=omega) only [zI])
 refine zh (hn) rfl (by simp only [go_sem,i64,ints]) (by simp only [go_sem,i64,ints]) (by first | exact .inl rfl | exact .inr rfl) ?_
 (try simp only [go_sem])
 (try simp (disch:=omega) only [zI])
 refine zh (hai) rfl (by simp only [go_sem,i64,ints]) (by simp only [go_sem,i64,ints]) (by first | exact .inl rfl | exact .inr rfl) ?_
 (try simp only [go_sem])
 (try simp (disch:=omega) only [zI])
 repeat first | intro _ | refine ⟨by omega,?_⟩ | refine ⟨⟨by omega,by omega⟩,?_⟩
 refine hK _ ?_
 clear hK K
 refine zw (zk [1,2,3,4,5,6,7,8,9,10,11]) ?_
 simp only [go_sem]
 repeat refine zq ?_
 refine zb (by kernel_rfl) fun K hK=>?_
 simp only [go_sem]
 (try simp (disch:=omega) only [zI])
 refine zh (hn) rfl (by simp only [go_sem,i64,ints]) (by simp only [go_sem,i64,ints]) (by first | exact .inl rfl | exact .inr rfl) ?_
 (try simp only [go_sem])
 (try simp (disch:=omega) only [zI])
 refine zh (hma) rfl (by simp only [go_sem,i64,ints]) (by simp only [go_sem,i64,ints]) (by first | exact .inl rfl | exact .inr rfl) ?_
 (try simp only [go_sem])
 (try simp (disch:=omega) only [zI])
 repeat first | intro _ | refine ⟨by omega,?_⟩ | refine ⟨⟨by omega,by omega⟩,?_⟩
 refine hK _ ?_
 clear hK K
 refine zw (zk [1,2,3,4,5,6,7,8,9,10,11,12,13]) ?_
 simp only [go_sem]
 repeat refine zq ?_
 refine awp_long ?_
 refine sops_take 1 (by kernel_rfl) fun K hK=>?_
 simp only [go_sem,List.take_succ_cons,List.take_zero,List.drop_succ_cons,List.drop_zero,List.append_eq,List.cons_append,List.nil_append]
 (try simp (disch:=omega) only [zI])
 refine zh (ho) rfl (by simp only [go_sem,i64,ints]) (by simp only [go_sem,i64,ints]) (by first | exact .inl rfl | exact .inr rfl) ?_
 (try simp only [go_sem])
 (try simp (disch:=omega) only [zI])
 repeat first | intro _ | refine ⟨by omega,?_⟩ | refine ⟨⟨by omega,by omega⟩,?_⟩
 refine hK _ rfl ?_
 clear hK K
 refine sops_sx 2 [[i64 500000,i64 500000]] (by simp [go_sem]) (by simp) (by simp only [go_sem]; trivial) (by simp only [go_sem]; rfl) ?_
 try simp only [go_sem]
 refine sops_end (by kernel_rfl) fun K hK=>?_
 simp only [go_sem,List.drop_succ_cons,List.drop_zero,List.append_eq,List.cons_append,List.nil_append]
 (try simp (disch:=omega) only [zI])
 refine zh (h2) rfl (by simp only [go_sem,i64,ints]) (by simp only [go_sem,i64,ints]) (by first | exact .inl rfl | exact .inr rfl) ?_
 (try simp only [go_sem])
 (try simp (disch:=omega) only [zI])
 refine zh (hpr) rfl (by simp only [go_sem,i64,ints]) (by simp only [go_sem,i64,ints]) (by first | exact .inl rfl | exact .inr rfl) ?_
 (try simp only [go_sem])
 (try simp (disch:=omega) only [zI])
 repeat first | intro _ | refine ⟨by omega,?_⟩ | refine ⟨⟨by omega,by omega⟩,?_⟩
 refine hK _ ?_
 clear hK K
 refine zw (zk [1,2,3,4,5,6,7,8,9,10,11,12,13,14,15,16,17]) ?_
 simp only [go_sem]
 repeat refine zq ?_
 refine zb (by kernel_rfl) fun K hK=>?_
 simp only [go_sem,bne_self_eq_false,List.append_eq,List.cons_append,List.nil_append]
 (try simp (disch:=omega) only [zI])
 repeat intro _
 repeat first | intro _ | refine ⟨by omega,?_⟩ | refine ⟨⟨by omega,by omega⟩,?_⟩
 refine hK _ ?_
 clear hK K
 refine zw (zk [1,2,4,5,7,9,10,14,15,16,120]) ?_
 simp only [go_sem]
 repeat refine zq ?_
 refine zc rfl (fun hc=>?_) (fun hc=>?_) <;> (try simp only [go_sem] at hc)
 refine zx ?_
 try simp only [go_sem]
 repeat refine zq ?_
 refine zb (by kernel_rfl) fun K hK=>?_
 simp only [go_sem,spanR,beq_self_eq_true,List.append_eq,List.cons_append,List.nil_append]
 (try simp (disch:=omega) only [zI])
 repeat intro _
 repeat first | intro _ | refine ⟨by omega,?_⟩ | refine ⟨⟨by omega,by omega⟩,?_⟩
 refine hK _ ?_
 clear hK K
 refine zw (zk [0]) ?_
 simp only [go_sem]
 refine ze ?_
 simp only [go_sem]
end Go.Proofs.Ytlbfkhikmigpbaa

namespace Go.Proofs.Ytlbfkhikmigpbaa
open Go Go.Oc
set_option linter.unusedSimpArgs false
set_option linter.unusedVariables false
set_option maxRecDepth 8000
abbrev Pv:=Int × Int
def fillP : List Pv → Int × Int → Int × Int
 | [],x=>x
 | c :: cs,x=>fillP cs (x.1 - min x.1 c.1,x.2 + min x.1 c.1 * c.2)
theorem fillG_P : ∀ (l : List Bd) (x : Int × Int),fillG l x = fillP (l.map fun c=>(c.hi - c.lo,c.b)) x
 | [],_=>rfl
 | c :: l,x=>by simp only [fillG,List.map_cons,fillP]; exact fillG_P l _
def leD (most : Bool) (x y : Int) : Prop:=if most then y ≤ x else x ≤ y
theorem leD_trans {most : Bool} {x y z : Int} (h : leD most x y) (g : leD most y z) : leD most x z:=by
 unfold leD at *; split at h <;> simp_all <;> omega
abbrev SortP (most : Bool) (S : List Pv) : Prop:=S.Pairwise fun a b=>leD most a.2 b.2
theorem fillP_done : ∀ {S : List Pv} {y : Int},(∀ a ∈ S,0 ≤ a.1) → fillP S (0,y) = (0,y)
 | [],_,_=>rfl
 | c :: S, y, h => by
   have h0:=h c (by simp)
   have e : min 0 c.1 = 0:=by omega
   simp only [fillP,e]
   simpa using fillP_done fun a ha=>h a (by simp [ha])
theorem insB_pw {most : Bool} {x : Bd} : ∀ {R : List Bd},R.Pairwise (fun y z=>leD most z.b y.b) → (insB (ltD most) x R).Pairwise (fun y z=>leD most z.b y.b)
 | [],_=>by simp [insB]
 | y :: R, h => by
   obtain ⟨h1,h2⟩:=List.pairwise_cons.1 h
   unfold insB
   split
   · rename_i hlt
     refine List.pairwise_cons.2 ⟨fun z hz=>?_,insB_pw h2⟩
     rcases (mem_insB _ _ _ _).1 hz with rfl | hz
     · unfold ltD at hlt; unfold leD; cases most <;> simp at hlt ⊢ <;> omega
     · exact h1 z hz
   · rename_i hlt
     have hyx : leD most y.b x.b:=by unfold ltD at hlt; unfold leD; cases most <;> simp at hlt ⊢ <;> omega
     refine List.pairwise_cons.2 ⟨fun z hz=>?_,h⟩
     rcases List.mem_cons.1 hz with rfl | hz
     · exact hyx
     · exact leD_trans (h1 z hz) hyx
theorem sortB_pw {most : Bool} : ∀ {l R : List Bd},R.Pairwise (fun y z=>leD most z.b y.b) → (sortB (ltD most) l R).Pairwise (fun y z=>leD most z.b y.b)
 | [],_,h=>h
 | x :: l,R,h=>by rw [sortB]; exact sortB_pw (insB_pw h)
theorem sortN_pw {most : Bool} (l : List Bd) : (sortN (ltD most) l).Pairwise (fun y z=>leD most y.b z.b):=by
 unfold sortN
 rw [List.pairwise_reverse]
 exact sortB_pw List.Pairwise.nil
def beats (most : Bool) (x y : Int) : Bool:=if most then decide (y < x) else decide (x < y)
def bestI (most : Bool) (M V : List Int) : Nat → Int
 | 0=>-1
 | i + 1=>if decide (0 < M.getD i 0) && (decide (bestI most M V i < 0) || beats most (V.getD i 0) (V.getD (bestI most M V i).toNat 0)) then i else bestI most M V i
structure RefI (most : Bool) (V : List Int) (target : Int) (M : List Int) (left sum : Int) : Prop where
 len : M.length = V.length
 l19 : V.length ≤ 19
 vals : ∀ v ∈ V,0 ≤ v ∧ v ≤ 1000000
 mores : ∀ m ∈ M,0 ≤ m ∧ m ≤ 3000
 ok : GOk (left,sum)
 enough : left ≤ M.sum
 same : ∃ S : List Pv,S.Perm (M.zip V) ∧ SortP most S ∧ (fillP S (left,sum)).2 = target
theorem RefI.done {most : Bool} {V M : List Int} {target left sum : Int} (h : RefI most V target M left sum) (h0 : ¬ 0 < left) : sum = target:=by
 obtain ⟨S,h1,_,h3⟩:=h.same
 have:=h.ok.1.1
 have e : left = 0:=by simp only at this; omega
 rw [e,fillP_done] at h3
 · exact h3
 · intro a ha
   have:=h1.mem_iff.1 ha
   exact (h.mores a.1 (List.of_mem_zip this).1).1
theorem RefI.start {most : Bool} {den : Int} {l : List Bd} (h : ChG den l) (hh : den ≤ hiS l) :
 RefI most (l.map (·.b)) (fillG (sortN (ltD most) l) (den - loS (sortN (ltD most) l),loV (sortN (ltD most) l))).2 (l.map fun c=>c.hi - c.lo) (den - loS l) (loV l):=by
 have hp:=sortN_perm (ltD most) l
 have e1 : loS (sortN (ltD most) l) = loS l:=perm_sum hp
 have e2 : loV (sortN (ltD most) l) = loV l:=perm_sum hp
 have hl:=h.low
 have hd:=h.den1
 have hv:=loV_le h.each
 have hlen:=h.len
 have hlo0 : 0 ≤ loS l:=by
  have : ∀ m : List Bd,(∀ c ∈ m,0 ≤ c.lo) → 0 ≤ loS m:=by
   intro m
   induction m with
   | nil=>intro _; simp [loS]
   | cons c m ih=>intro hc; have h1:=hc c (by simp); have h2:=ih fun x hx=>hc x (by simp [hx]); simp only [loS,List.map_cons,List.sum_cons] at h2 ⊢; omega
  exact this l fun c hc=>(h.each c hc).2.1
 refine ⟨by simp,by simpa using hlen,?_,?_,?_,?_,?_⟩
 · intro v hv
   obtain ⟨c,hc,rfl⟩:=List.mem_map.1 hv
   exact (h.each c hc).1
 · intro m hm
   obtain ⟨c,hc,rfl⟩:=List.mem_map.1 hm
   obtain ⟨_,g0,g1,g2⟩:=h.each c hc
   omega
 · refine ⟨⟨by simp only; omega,by simp only; omega⟩,by simp only; omega,by simp only; omega⟩
 · have : (l.map fun c=>c.hi - c.lo).sum = hiS l - loS l:=by
    clear hh hp e1 e2 hl hv hlen hlo0 h
    induction l with
    | nil=>simp [hiS,loS]
    | cons c l ih=>simp only [hiS,loS,List.map_cons,List.sum_cons] at ih ⊢; omega
   omega
 · refine ⟨(sortN (ltD most) l).map fun c=>(c.hi - c.lo,c.b),?_,?_,?_⟩
   · have : (l.map fun c=>c.hi - c.lo).zip (l.map (·.b)) = l.map fun c=>(c.hi - c.lo,c.b):=by
      rw [List.zip_map',]
     rw [this]
     exact hp.map _
   · exact List.Pairwise.map _ (fun a b h=>h) (sortN_pw l)
   · rw [← fillG_P,e1,e2]
end Go.Proofs.Ytlbfkhikmigpbaa

namespace Go.Proofs.Ytlbfkhikmigpbaa
open Go Go.Oc
set_option linter.unusedSimpArgs false
set_option linter.unusedVariables false
set_option maxRecDepth 8000
def dotP : List Pv → List Int → Int
 | c :: S,y :: ys=>y * c.2 + dotP S ys
 | _,_=>0
inductive FeasP : List Pv → List Int → Prop where
 | nil : FeasP [] []
 | cons {c : Pv} {S : List Pv} {y : Int} {ys : List Int} (h : 0 ≤ y ∧ y ≤ c.1) (t : FeasP S ys) : FeasP (c :: S) (y :: ys)
theorem feas_sum {S : List Pv} {ys : List Int} (h : FeasP S ys) : 0 ≤ ys.sum:=by
 induction h with
 | nil=>simp
 | cons h t ih=>simp only [List.sum_cons]; omega
theorem feas_less {v : Int} {S : List Pv} {ys : List Int} (h : FeasP S ys) : ∀ δ : Int,0 ≤ δ → δ ≤ ys.sum → (∀ c ∈ S,v ≤ c.2) → ∃ zs,FeasP S zs ∧ zs.sum = ys.sum - δ ∧ dotP S zs + δ * v ≤ dotP S ys:=by
 induction h with
 | nil =>
   intro δ h0 h1 _
   simp only [List.sum_nil] at h1
   have : δ = 0:=by omega
   subst this
   exact ⟨[],.nil,by simp,by simp [dotP]⟩
 | @cons c S y ys h t ih =>
   intro δ h0 h1 hv
   simp only [List.sum_cons] at h1
   have hs:=feas_sum t
   obtain ⟨zs,g1,g2,g3⟩:=ih (δ - min δ y) (by omega) (by omega) fun x hx=>hv x (by simp [hx])
   have hc:=hv c (by simp)
   have e0 : 0 ≤ min δ y:=by omega
   have p:=Int.mul_nonneg e0 (show 0 ≤ c.2 - v by omega)
   refine ⟨(y - min δ y) :: zs,.cons ⟨by omega,by omega⟩ g1,by simp only [List.sum_cons]; omega,?_⟩
   simp only [dotP]
   generalize min δ y = e at *
   rw [Int.mul_sub] at p
   rw [Int.sub_mul] at g3
   rw [Int.sub_mul]
   omega
theorem fill_min : ∀ {S : List Pv} {ys : List Int},FeasP S ys → ∀ (left s : Int),S.Pairwise (fun a b=>a.2 ≤ b.2) → ys.sum = left → (fillP S (left,s)).2 ≤ s + dotP S ys
 | [],_,h,left,s,_,_=>by cases h; simp [fillP,dotP]
 | c :: S, _, h, left, s, hp, hsum => by
   cases h with
   | @cons _ _ y ys h t =>
     obtain ⟨hp1,hp2⟩:=List.pairwise_cons.1 hp
     simp only [List.sum_cons] at hsum
     have hs:=feas_sum t
     obtain ⟨zs,g1,g2,g3⟩:=feas_less t (min left c.1 - y) (by omega) (by omega) hp1
     have:=fill_min g1 (left - min left c.1) (s + min left c.1 * c.2) hp2 (by omega)
     simp only [fillP,dotP]
     rw [Int.sub_mul] at g3
     omega
def negP (S : List Pv) : List Pv:=S.map fun c=>(c.1,-c.2)
theorem fill_neg : ∀ (S : List Pv) (x y : Int),(fillP (negP S) (x,-y)).2 = -(fillP S (x,y)).2
 | [],_,_=>rfl
 | c :: S, x, y => by
   have:=fill_neg S (x - min x c.1) (y + min x c.1 * c.2)
   simp only [negP,List.map_cons,fillP] at this ⊢
   rw [← this]
   congr 3
   rw [Int.mul_neg]; omega
theorem dot_neg : ∀ (S : List Pv) (ys : List Int),dotP (negP S) ys = -dotP S ys
 | [],_=>by simp [negP,dotP]
 | _ :: _,[]=>by simp [negP,dotP]
 | c :: S, y :: ys => by
   have:=dot_neg S ys
   simp only [negP,List.map_cons,dotP] at this ⊢
   rw [this,Int.mul_neg]; omega
theorem feas_neg : ∀ {S : List Pv} {ys : List Int},FeasP S ys → FeasP (negP S) ys
 | _,_,.nil=>.nil
 | _,_,.cons h t=>.cons h (feas_neg t)
theorem fill_max {S : List Pv} {ys : List Int} (h : FeasP S ys) (left s : Int) (hp : S.Pairwise (fun a b=>b.2 ≤ a.2)) (hs : ys.sum = left) : s + dotP S ys ≤ (fillP S (left,s)).2:=by
 have:=fill_min (feas_neg h) left (-s) (by unfold negP; exact List.Pairwise.map _ (fun a b h=>by simp only; omega) hp) hs
 rw [fill_neg,dot_neg] at this
 omega
theorem greedy_amt {m v : Nat → Int} : ∀ {I : List Nat} {left s : Int},I.Nodup → (∀ i ∈ I,0 ≤ m i) → 0 ≤ left → left ≤ (I.map m).sum →
 ∃ x : Nat → Int,(∀ i ∈ I,0 ≤ x i ∧ x i ≤ m i) ∧ (I.map x).sum = left ∧ (fillP (I.map fun i=>(m i,v i)) (left,s)).2 = s + (I.map fun i=>x i * v i).sum
 | [], left, s, _, _, h0, h1 => by
   simp only [List.map_nil,List.sum_nil] at h1
   exact ⟨fun _=>0,by simp,by simp; omega,by simp [fillP]⟩
 | i :: I, left, s, hn, hm, h0, h1 => by
   obtain ⟨hi,hn2⟩:=List.nodup_cons.1 hn
   have hmi:=hm i (by simp)
   simp only [List.map_cons,List.sum_cons] at h1
   have hms : 0 ≤ (I.map m).sum:=by
    have : ∀ J : List Nat,(∀ j ∈ J,0 ≤ m j) → 0 ≤ (J.map m).sum:=by
     intro J
     induction J with
     | nil=>intro _; simp
     | cons j J ih=>intro hJ; have h1:=hJ j (by simp); have h2:=ih fun y hy=>hJ y (by simp [hy]); simp only [List.map_cons,List.sum_cons]; omega
    exact this I fun j hj=>hm j (by simp [hj])
   obtain ⟨x,g1,g2,g3⟩:=greedy_amt (v:=v) (left:=left - min left (m i)) (s:=s + min left (m i) * v i) hn2 (fun j hj=>hm j (by simp [hj])) (by omega) (by omega)
   have hne : ∀ j ∈ I,j ≠ i:=fun j hj e=>hi (by rw [← e]; exact hj)
   refine ⟨fun j=>if j = i then min left (m i) else x j,fun j hj=>?_,?_,?_⟩
   · rcases List.mem_cons.1 hj with rfl | hj
     · simp only [if_true]; omega
     · simp only [if_neg (hne j hj)]; exact g1 j hj
   · simp only [List.map_cons,if_true,List.sum_cons]
     rw [List.map_congr_left (g:=x) fun j hj=>by simp only [if_neg (hne j hj)],g2]
     omega
   · simp only [List.map_cons,fillP,if_true,List.sum_cons]
     rw [g3,List.map_congr_left (f:=fun j=>(if j = i then min left (m i) else x j) * v j) (g:=fun j=>x j * v j) fun j hj=>by simp only [if_neg (hne j hj)]]
     omega
theorem feas_map {m v x : Nat → Int} : ∀ {I : List Nat},(∀ i ∈ I,0 ≤ x i ∧ x i ≤ m i) → FeasP (I.map fun i=>(m i,v i)) (I.map x)
 | [],_=>.nil
 | i :: I,h=>.cons (h i (by simp)) (feas_map fun j hj=>h j (by simp [hj]))
theorem dot_map {m v x : Nat → Int} : ∀ I : List Nat,dotP (I.map fun i=>(m i,v i)) (I.map x) = (I.map fun i=>x i * v i).sum
 | []=>rfl
 | i :: I=>by simp only [List.map_cons,dotP,List.sum_cons,dot_map I]
def insN (lt : Nat → Nat → Bool) (x : Nat) : List Nat → List Nat
 | []=>[x]
 | y :: ys=>if lt x y then y :: insN lt x ys else x :: y :: ys
def sortBN (lt : Nat → Nat → Bool) : List Nat → List Nat → List Nat
 | [],R=>R
 | x :: xs,R=>sortBN lt xs (insN lt x R)
def sortI (lt : Nat → Nat → Bool) (l : List Nat) : List Nat:=(sortBN lt l []).reverse
theorem insN_map (f : Nat → Bd) (lt : Bd → Bd → Bool) (x : Nat) : ∀ R : List Nat,(insN (fun i j=>lt (f i) (f j)) x R).map f = insB lt (f x) (R.map f)
 | []=>rfl
 | y :: R => by
   have:=insN_map f lt x R
   simp only [insN,List.map_cons,insB]
   split
   · rw [List.map_cons,this]
   · rfl
theorem sortBN_map (f : Nat → Bd) (lt : Bd → Bd → Bool) : ∀ l R : List Nat,(sortBN (fun i j=>lt (f i) (f j)) l R).map f = sortB lt (l.map f) (R.map f)
 | [],_=>rfl
 | x :: l,R=>by simp only [sortBN,List.map_cons,sortB]; rw [sortBN_map f lt l,insN_map]
theorem sortI_map (f : Nat → Bd) (lt : Bd → Bd → Bool) (l : List Nat) : (sortI (fun i j=>lt (f i) (f j)) l).map f = sortN lt (l.map f):=by
 unfold sortI sortN
 rw [List.map_reverse,sortBN_map]; rfl
theorem insN_perm (lt : Nat → Nat → Bool) (x : Nat) : ∀ R,(insN lt x R).Perm (x :: R)
 | []=>List.Perm.refl _
 | y :: R => by
   unfold insN
   split
   · exact ((insN_perm lt x R).cons y).trans (List.Perm.swap _ _ _)
   · exact List.Perm.refl _
theorem sortBN_perm (lt : Nat → Nat → Bool) : ∀ l R,(sortBN lt l R).Perm (l ++ R)
 | [],R=>List.Perm.refl _
 | x :: l, R => by
   rw [sortBN]
   refine (sortBN_perm lt l _).trans ?_
   exact ((insN_perm lt x R).append_left l).trans List.perm_middle
theorem sortI_perm (lt : Nat → Nat → Bool) (l : List Nat) : (sortI lt l).Perm l:=by
 unfold sortI
 have:=sortBN_perm lt l []
 rw [List.append_nil] at this
 exact (List.reverse_perm _).trans this
theorem mean_idx {most : Bool} {den : Int} {l : List Bd} (h : ChG den l) (hh : den ≤ hiS l) : ∃ I : List Nat,I.Perm (List.range l.length) ∧ I.Nodup ∧
 (I.Pairwise fun a b=>leD most (l.getD a ⟨0,0,0⟩).b (l.getD b ⟨0,0,0⟩).b) ∧
 meanD most den l = overD most (fillP (I.map fun i=>((l.getD i ⟨0,0,0⟩).hi - (l.getD i ⟨0,0,0⟩).lo,(l.getD i ⟨0,0,0⟩).b)) (den - loS l,loV l)).2 den:=by
 have hl : (List.range l.length).map (fun i=>l.getD i ⟨0,0,0⟩) = l:=by
  refine List.ext_getElem (by simp) fun i h1 h2=>?_
  simp [List.getD,List.getElem?_eq_getElem h2]
 have hm:=sortI_map (fun i=>l.getD i ⟨0,0,0⟩) (ltD most) (List.range l.length)
 rw [hl] at hm
 have hp:=sortI_perm (fun i j=>ltD most (l.getD i ⟨0,0,0⟩) (l.getD j ⟨0,0,0⟩)) (List.range l.length)
 have hpw:=sortN_pw (most:=most) l
 rw [← hm] at hpw
 have e1 : loS (sortN (ltD most) l) = loS l:=perm_sum (sortN_perm _ _)
 have e2 : loV (sortN (ltD most) l) = loV l:=perm_sum (sortN_perm _ _)
 refine ⟨_,hp,hp.nodup_iff.2 List.nodup_range,(List.pairwise_map (f:=fun i=>l.getD i ⟨0,0,0⟩) (R:=fun y z : Bd=>leD most y.b z.b)).1 hpw,?_⟩
 unfold meanD
 rw [e1,e2,fillG_P,← hm,List.map_map]
 rfl
theorem overD_mono {m1 m2 : Bool} (hm : m1 = true → m2 = true) {a b den : Int} (hd : 1 ≤ den) (hab : a ≤ b) : overD m1 a den ≤ overD m2 b den:=by
 have h1 : ∀ x y : Int,x ≤ y → x / den ≤ y / den:=fun x y h=>Int.ediv_le_ediv (by omega) h
 cases m1 <;> cases m2 <;> simp only [overD,if_true,Bool.false_eq_true,if_false]
 · exact h1 _ _ hab
 · exact h1 _ _ (by omega)
 · simp at hm
 · exact h1 _ _ (by omega)
theorem sum_le_map {f g : Nat → Int} : ∀ {I : List Nat},(∀ i ∈ I,f i ≤ g i) → (I.map f).sum ≤ (I.map g).sum
 | [],_=>by simp
 | i :: I, h => by
   have h1:=h i (by simp)
   have h2:=sum_le_map (f:=f) (g:=g) (I:=I) fun j hj=>h j (by simp [hj])
   simp only [List.map_cons,List.sum_cons]; omega
end Go.Proofs.Ytlbfkhikmigpbaa

namespace Go.Proofs.Ytlbfkhikmigpbaa
open Go Go.Oc
set_option linter.unusedSimpArgs false
set_option linter.unusedVariables false
set_option maxRecDepth 8000
theorem foldl_max_ge : ∀ {l : List Int} {x : Int},x ≤ l.foldl max x ∧ ∀ y ∈ l,y ≤ l.foldl max x
 | [],x=>by simp
 | z :: l, x => by
   obtain ⟨h1,h2⟩:=foldl_max_ge (l:=l) (x:=max x z)
   simp only [List.foldl_cons]
   refine ⟨by omega,fun y hy=>?_⟩
   rcases List.mem_cons.1 hy with rfl | hy
   · omega
   · exact h2 y hy
theorem foldl_max_mem : ∀ {l : List Int} {x : Int},l.foldl max x = x ∨ l.foldl max x ∈ l
 | [],x=>by simp
 | z :: l, x => by
   rcases foldl_max_mem (l:=l) (x:=max x z) with h | h
   · simp only [List.foldl_cons,h]
     by_cases hz : z ≤ x
     · left; omega
     · right; rw [show max x z = z by omega]; simp
   · right; simp [h]
theorem le_maxL {l : List Int} {x : Int} (h : x ∈ l) : x ≤ maxL l:=foldl_max_ge.2 x h
theorem maxL_mem {l : List Int} (h : l ≠ []) : maxL l ∈ l:=by
 cases l with
 | nil=>exact absurd rfl h
 | cons x l =>
   unfold maxL
   simp only [List.headD_cons]
   rcases foldl_max_mem (l:=x :: l) (x:=x) with h | h
   · rw [h]; simp
   · exact h
theorem after_mono {r : Ru} {m1 m2 : Bool} (hm : m1 = true → m2 = true) {T T' : List (List Int)} {k y : Nat} (hk : k < r.ends.length) (he : ∀ x ∈ r.ends,endOk x = true)
 (hT : k + 1 < r.ends.length → 0 ≤ (T.getD (k + 1) []).getD y 0 ∧ (T.getD (k + 1) []).getD y 0 ≤ (T'.getD (k + 1) []).getD y 0) : afterD r m1 T k y ≤ afterD r m2 T' k y:=by
 unfold afterD
 split
 · omega
 · rename_i hn
   obtain ⟨h0,h1⟩:=hT (by omega)
   obtain ⟨e,hek⟩:=opt_of_lt hk
   obtain ⟨g1,g2,g3⟩:=endOk_le (he e (mem_of_opt hek))
   have e2 : r.ends.getD k (0,0) = e:=by simp [List.getD_eq_getElem?_getD,hek]
   rw [e2]
   refine overD_mono hm (by omega) ?_
   have hd : endsD m2 e ≤ endsD m1 e ∧ 0 ≤ 1000000 - endsD m1 e:=by unfold endsD; cases m1 <;> cases m2 <;> simp at hm ⊢ <;> omega
   exact Int.mul_le_mul h1 (by omega) hd.2 (by omega)
def RowLe (r : Ru) (T T' : List (List Int)) (k : Nat) : Prop:=k + 1 < r.ends.length → ∀ y : Nat,(y : Int) ≤ r.start → (T.getD (k + 1) []).getD y 0 ≤ (T'.getD (k + 1) []).getD y 0
theorem VisG.row0 {r : Ru} {T : List (List Int)} {k st : Nat} (h : VisG r T k st) {y : Nat} (hy : (y : Int) ≤ r.start) (hk : k + 1 < r.ends.length) : 0 ≤ (T.getD (k + 1) []).getD y 0:=by
 obtain ⟨row,v,hv⟩:=h.tab y hy
 obtain ⟨t1,t2,t3,t4⟩:=hv hk
 simp [List.getD_eq_getElem?_getD,t1,t2,t3]
theorem VisG.after_mono {r : Ru} {m1 m2 : Bool} (hm : m1 = true → m2 = true) {T T' : List (List Int)} {k st : Nat} (h : VisG r T k st) (hT : RowLe r T T' k) (y : Nat) (hy : (y : Int) ≤ r.start) : afterD r m1 T k y ≤ afterD r m2 T' k y :=
 Go.Proofs.Ytlbfkhikmigpbaa.after_mono hm h.kk h.ends fun hk=>⟨h.row0 hy hk,hT hk y hy⟩
theorem rowV_getD (r : Ru) (most : Bool) (T : List (List Int)) (k y : Nat) (h : (y : Int) ≤ r.start) : (rowV r most T k).getD y 0 = if (y : Int) < lowestR r then 0 else valV r most T k y 3 y:=by
 rw [List.getD_eq_getElem?_getD,rowV_get r most T k y h]; rfl
theorem val_congr {r : Ru} {most : Bool} {T T' : List (List Int)} {k : Nat} (hk : k < r.ends.length) (h : k + 1 < r.ends.length → T.getD (k + 1) [] = T'.getD (k + 1) []) (st : Nat) : ∀ n left,valV r most T k st n left = valV r most T' k st n left:=by
 have hA : ∀ y,afterD r most T k y = afterD r most T' k y:=fun y=>by
  unfold afterD
  split
  · rfl
  · rename_i hn
    rw [h (by omega)]
 have hN : nextV r most T k st = nextV r most T' k st:=by
  funext val last left b
  simp only [nextV,hA]
 intro n
 induction n with
 | zero=>intro _; rfl
 | succ n ih =>
   intro left
   have e : valV r most T k st n = valV r most T' k st n:=funext ih
   simp only [valV,hN,e]
theorem tabF_row {r : Ru} (most : Bool) {k : Nat} (hk : k < r.ends.length) : (tabF r most).getD k [] = rowV r most (tabI r most (r.ends.length - 1 - k)) k:=by
 unfold tabF
 rw [List.getD_eq_getElem?_getD,tabI_get r most _ (Nat.le_refl _) k (by omega) hk]; rfl
theorem tabF_val {r : Ru} (most : Bool) {k y : Nat} (hk : k < r.ends.length) (hy : (y : Int) ≤ r.start) : ((tabF r most).getD k []).getD y 0 = if (y : Int) < lowestR r then 0 else valV r most (tabF r most) k y 3 y:=by
 rw [tabF_row most hk,rowV_getD _ _ _ _ _ hy]
 split
 · rfl
 · refine val_congr hk (fun hk1=>?_) y 3 y
   rw [tabF_row most hk1,List.getD_eq_getElem?_getD,tabI_get r most (r.ends.length - 1 - k) (by omega) (k + 1) (by omega) hk1]
   rfl
theorem rowV_len (r : Ru) (most : Bool) (T : List (List Int)) (k : Nat) : (rowV r most T k).length = r.start.toNat + 1:=by simp [rowV]
theorem tabF_len (r : Ru) (most : Bool) : (tabF r most).length = r.ends.length:=tabI_len _ _ _
theorem tabF_bound {r : Ru} (h : RuG r) (most : Bool) {k y : Nat} (hk : k < r.ends.length) (hy : (y : Int) ≤ r.start) : 0 ≤ ((tabF r most).getD k []).getD y 0 ∧ ((tabF r most).getD k []).getD y 0 ≤ 1000000:=by
 rw [tabF_val most hk hy]
 split
 · omega
 · exact valV_le (vis_tab h most hk y hy) h.aims 3 y hy
end Go.Proofs.Ytlbfkhikmigpbaa

namespace Go.Proofs.Ytlbfkhikmigpbaa
open Go Go.Oc
set_option linter.unusedSimpArgs false
set_option linter.unusedVariables false
set_option maxRecDepth 8000
theorem bestS_spec (l : List Sp) : ∀ i,i ≤ l.length → ∃ b : Nat,bestS l i = b ∧ (0 < i → b < i) ∧ (∀ j,j < i → (l.getD j (0,0)).1 ≤ (l.getD b (0,0)).1) ∧ ∀ j,j < b → (l.getD j (0,0)).1 < (l.getD b (0,0)).1
 | 0,_=>⟨0,rfl,by omega,by omega,by omega⟩
 | i + 1, hi => by
   obtain ⟨b,h1,h2,h3,h4⟩:=bestS_spec l i (by omega)
   simp only [bestS,h1,Int.toNat_natCast]
   split
   · rename_i hlt
     refine ⟨i,rfl,by omega,fun j hj=>?_,fun j hj=>?_⟩
     · by_cases e : j = i
       · subst e; omega
       · have:=h3 j (by omega); omega
     · have:=h3 j hj; omega
   · rename_i hlt
     by_cases hi0 : i = 0
     · subst hi0
       have hb : b = 0:=by
        have : bestS l 0 = 0:=rfl
        omega
       subst hb
       exact ⟨0, rfl, by omega, fun j hj => by have : j = 0 := by omega
                                               subst this; omega,by omega⟩
     · refine ⟨b,rfl,by omega,fun j hj=>?_,h4⟩
       by_cases e : j = i
       · subst e; omega
       · exact h3 j (by omega)
def topF (f : Sp → Int) (l : List Sp) : Int:=l.foldl (fun a x=>max a (f x)) (-1)
theorem oddsV_len (r : Ru) (most : Bool) (T : List (List Int)) (k s left d : Nat) : (oddsV r most T k s left d).length = r.aims.length:=by simp [oddsV,meansV]
theorem oddsS_map (r : Ru) (k s left d : Nat) : (oddsS r k s left d).map (·.1) = oddsV r false (tabF r false) k s left d ∧ (oddsS r k s left d).map (·.2) = oddsV r true (tabF r true) k s left d:=by
 unfold oddsS
 exact ⟨List.map_fst_zip (by rw [oddsV_len,oddsV_len]; exact Nat.le_refl _),List.map_snd_zip (by rw [oddsV_len,oddsV_len]; exact Nat.le_refl _)⟩
theorem lowest_le (r : Ru) : lowestR r = 1 ∨ lowestR r = 2:=by unfold lowestR; split <;> simp
end Go.Proofs.Ytlbfkhikmigpbaa

namespace Go.Proofs.Ytlbfkhikmigpbaa
open Go Go.Oc
set_option linter.unusedSimpArgs false
set_option linter.unusedVariables false
set_option maxRecDepth 8000
abbrev bAt (l : List Bd) (i : Nat) : Bd:=l.getD i ⟨0,0,0⟩
def dotF (l : List Bd) (x : Nat → Int) : Int:=((List.range l.length).map fun i=>x i * (bAt l i).b).sum
structure TruthN (den : Int) (l : List Bd) (x : Nat → Int) : Prop where
 each : ∀ i,i < l.length → (bAt l i).lo ≤ x i ∧ x i ≤ (bAt l i).hi
 sum : ((List.range l.length).map x).sum = den
theorem range_bAt (l : List Bd) : (List.range l.length).map (bAt l) = l:=by
 refine List.ext_getElem (by simp) fun i h1 h2=>?_
 simp [bAt,List.getD,List.getElem?_eq_getElem h2]
theorem sum_bAt (l : List Bd) (F : Bd → Int) : ((List.range l.length).map fun i=>F (bAt l i)).sum = (l.map F).sum:=by
 conv=>rhs; rw [← range_bAt l]
 rw [List.map_map]; rfl
theorem sum_add {f g : Nat → Int} : ∀ I : List Nat,(I.map fun i=>f i + g i).sum = (I.map f).sum + (I.map g).sum
 | []=>by simp
 | i :: I=>by simp only [List.map_cons,List.sum_cons,sum_add I]; omega
theorem sum_sub {f g : Nat → Int} : ∀ I : List Nat,(I.map fun i=>f i - g i).sum = (I.map f).sum - (I.map g).sum
 | []=>by simp
 | i :: I=>by simp only [List.map_cons,List.sum_cons,sum_sub I]; omega
theorem bAt_mem {l : List Bd} {i : Nat} (h : i < l.length) : bAt l i ∈ l:=by
 unfold bAt
 rw [List.getD_eq_getElem?_getD,List.getElem?_eq_getElem h]; exact List.getElem_mem h
theorem mean_opt {most : Bool} {den : Int} {l : List Bd} (h : ChG den l) (hh : den ≤ hiS l) : ∃ x,TruthN den l x ∧ meanD most den l = overD most (dotF l x) den ∧ ∀ y,TruthN den l y → leD most (dotF l x) (dotF l y):=by
 obtain ⟨I,p,n,w,e⟩:=mean_idx (most:=most) h hh
 have hI : ∀ i ∈ I,i < l.length:=fun i hi=>List.mem_range.1 (p.mem_iff.1 hi)
 have hlow:=h.low
 have hm0 : ∀ i ∈ I,0 ≤ (bAt l i).hi - (bAt l i).lo:=fun i hi=>by
  have:=(h.each _ (bAt_mem (hI i hi))).2
  omega
 have hsm : (I.map fun i=>(bAt l i).hi - (bAt l i).lo).sum = hiS l - loS l:=by
  rw [perm_sum (f:=fun i=>(bAt l i).hi - (bAt l i).lo) p,sum_sub]
  rw [sum_bAt l (·.hi),sum_bAt l (·.lo)]; rfl
 have hlo : loS l = (I.map fun i=>(bAt l i).lo).sum:=by
  rw [perm_sum (f:=fun i=>(bAt l i).lo) p,sum_bAt l (·.lo)]; rfl
 have hlv : loV l = (I.map fun i=>(bAt l i).lo * (bAt l i).b).sum:=by
  rw [perm_sum (f:=fun i=>(bAt l i).lo * (bAt l i).b) p,sum_bAt l fun c=>c.lo * c.b]; rfl
 have hdot : ∀ x,dotF l x = (I.map fun i=>x i * (bAt l i).b).sum:=fun x=>(perm_sum (f:=fun i=>x i * (bAt l i).b) p).symm
 have hsum : ∀ x : Nat → Int,((List.range l.length).map x).sum = (I.map x).sum:=fun x=>(perm_sum (f:=x) p).symm
 obtain ⟨x,x1,x2,x3⟩:=greedy_amt (m:=fun i=>(bAt l i).hi - (bAt l i).lo) (v:=fun i=>(bAt l i).b) (I:=I) (left:=den - loS l) (s:=loV l) n hm0 (by omega) (by omega)
 have hd : dotF l (fun i=>(bAt l i).lo + x i) = loV l + (I.map fun i=>x i * (bAt l i).b).sum:=by
  rw [hdot,hlv,← sum_add]
  congr 1
  exact List.map_congr_left fun i _=>by rw [Int.add_mul]
 refine ⟨fun i=>(bAt l i).lo + x i,⟨fun i hi=>?_,?_⟩,?_,fun y hy=>?_⟩
 · have:=x1 i (p.mem_iff.2 (List.mem_range.2 hi))
   omega
 · rw [hsum,sum_add,x2,← hlo]; omega
 · rw [e,hd,x3]
 · have hfe : ∀ i ∈ I,0 ≤ y i - (bAt l i).lo ∧ y i - (bAt l i).lo ≤ (bAt l i).hi - (bAt l i).lo:=fun i hi=>by
    have:=hy.each i (hI i hi)
    omega
   have hys : (I.map fun i=>y i - (bAt l i).lo).sum = den - loS l:=by
    rw [sum_sub,← hsum y,hy.sum,← hlo]
   have hyd : dotF l y = loV l + (I.map fun i=>(y i - (bAt l i).lo) * (bAt l i).b).sum:=by
    rw [hdot,hlv,← sum_add]
    congr 1
    exact List.map_congr_left fun i _=>by rw [Int.sub_mul]; omega
   rw [hd,hyd]
   have hf:=feas_map (m:=fun i=>(bAt l i).hi - (bAt l i).lo) (v:=fun i=>(bAt l i).b) (x:=fun i=>y i - (bAt l i).lo) hfe
   have hdm:=dot_map (m:=fun i=>(bAt l i).hi - (bAt l i).lo) (v:=fun i=>(bAt l i).b) (x:=fun i=>y i - (bAt l i).lo) I
   cases most with
   | false =>
     have:=fill_min hf (den - loS l) (loV l) (List.pairwise_map.2 (w.imp fun h=>by simpa [leD] using h)) hys
     rw [hdm,x3] at this
     simp only [leD,Bool.false_eq_true,if_false]
     omega
   | true =>
     have:=fill_max hf (den - loS l) (loV l) (List.pairwise_map.2 (w.imp fun h=>by simpa [leD] using h)) hys
     rw [hdm,x3] at this
     simp only [leD,if_true]
     omega
theorem bAt_chW (f : Int → Int) (l : List Bd) {i : Nat} (hi : i < l.length) : bAt (chW f l) i = ⟨f (bAt l i).b,(bAt l i).lo,(bAt l i).hi⟩:=by simp [chW,bAt,List.getD,List.getElem?_eq_getElem hi]
theorem chW_len (f : Int → Int) (l : List Bd) : (chW f l).length = l.length:=by simp [chW]
theorem dotF_chW (f : Int → Int) (l : List Bd) (x : Nat → Int) : dotF (chW f l) x = ((List.range l.length).map fun i=>x i * f (bAt l i).b).sum:=by
 unfold dotF
 rw [chW_len]
 congr 1
 exact List.map_congr_left fun i hi=>by rw [bAt_chW f l (List.mem_range.1 hi)]
theorem TruthN.chW {den : Int} {l : List Bd} {x : Nat → Int} {f g : Int → Int} (h : TruthN den (chW f l) x) : TruthN den (chW g l) x:=by
 refine ⟨fun i hi=>?_,?_⟩
 · rw [chW_len] at hi
   have:=h.each i (by rw [chW_len]; exact hi)
   rw [bAt_chW f l hi] at this
   rw [bAt_chW g l hi]
   exact this
 · have:=h.sum
   rw [chW_len] at this ⊢
   exact this
theorem sum_mul (c : Int) {f : Nat → Int} : ∀ I : List Nat,(I.map fun i=>c * f i).sum = c * (I.map f).sum
 | []=>by simp
 | i :: I=>by simp only [List.map_cons,List.sum_cons,sum_mul c I,Int.mul_add]
end Go.Proofs.Ytlbfkhikmigpbaa

namespace Go.Proofs.Ytlbfkhikmigpbaa
open Go Go.Oc
set_option linter.unusedSimpArgs false
set_option linter.unusedVariables false
set_option maxRecDepth 8000
def cE (r : Ru) (most : Bool) (k : Nat) : Int:=1000000 - endsD most (r.ends.getD k (0,0))
theorem after_eq {r : Ru} {most : Bool} {T : List (List Int)} {k : Nat} (hk : k + 1 < r.ends.length) (y : Nat) : afterD r most T k y = overD most ((T.getD (k + 1) []).getD y 0 * cE r most k) 1000000:=by
 unfold afterD cE
 rw [if_neg (by omega)]
end Go.Proofs.Ytlbfkhikmigpbaa

namespace Go.Proofs.Ytlbfkhikmigpbaa
open Go Go.Oc
set_option linter.unusedSimpArgs false
set_option linter.unusedVariables false
set_option maxRecDepth 8000
structure Cu where
 r : Ru
 xs : List (List Int)
 es : List Int
 bs : List Int
 wise : Bool
def aimC (c : Cu) (k st left d : Nat) : Nat :=
 if c.wise then (bestL (oddsS c.r k st left (d - 1))).toNat else if c.bs.length = 0 then 0 else (c.bs.getD ((k + 3 * left + d) % c.bs.length) 0).toNat % c.r.aims.length
def afterC (c : Cu) (k : Nat) (p : Pv) : Pv:=(p.1 * (1000000 - c.es.getD k 0) / 1000000,(p.2 * (1000000 - c.es.getD k 0) + 1000000 - 1) / 1000000)
def cellC (c : Cu) (nr val : Nat → Pv) (k st : Nat) (last : Bool) (left : Nat) (b : Int) : Pv :=
 if b ≠ 0 ∧ (left : Int) - scoreOf b = 0 ∧ opensD c.r.out b = true then (1000000,1000000)
 else if last = false ∧ lowestR c.r ≤ (left : Int) - scoreOf b then val ((left : Int) - scoreOf b).toNat
 else if k + 1 < c.r.ends.length then afterC c k (nr (if (left : Int) - scoreOf b < lowestR c.r then st else ((left : Int) - scoreOf b).toNat))
 else (0,0)
def sumC (x : List Int) (l : List Bd) (f : Int → Pv) : Nat → Pv
 | 0=>(0,0)
 | i + 1=>((sumC x l f i).1 + x.getD i 0 * (f (bAt l i).b).1,(sumC x l f i).2 + x.getD i 0 * (f (bAt l i).b).2)
def bedsC (c : Cu) (a : Nat) : List Bd:=(c.r.aims.getD a ⟨0,[]⟩).beds
def meanC (c : Cu) (a : Nat) (f : Int → Pv) : Pv :=
 ((sumC (c.xs.getD a []) (bedsC c a) f (bedsC c a).length).1 / c.r.d,((sumC (c.xs.getD a []) (bedsC c a) f (bedsC c a).length).2 + c.r.d - 1) / c.r.d)
def cvV (c : Cu) (nr : Nat → Pv) (k st : Nat) : Nat → Nat → Pv
 | 0,_=>(0,0)
 | d + 1,left=>meanC c (aimC c k st left (d + 1)) (cellC c nr (cvV c nr k st d) k st (decide (d = 0)) left)
def cvP (c : Cu) : Nat → Nat → Nat → Nat → Nat → Pv
 | 0,k,st,d,left=>cvV c (fun _=>(0,0)) k st d left
 | n + 1,k,st,d,left=>cvV c (fun y=>cvP c n (k + 1) y 3 y) k st d left
structure CuG (c : Cu) : Prop where
 g : RuG c.r
 h : RefH c.r
 xs : ∀ a,a < c.r.aims.length → TruthN c.r.d (bedsC c a) (fun i=>(c.xs.getD a []).getD i 0)
 es : ∀ k,k < c.r.ends.length → (c.r.ends.getD k (0,0)).1 ≤ c.es.getD k 0 ∧ c.es.getD k 0 ≤ (c.r.ends.getD k (0,0)).2
def OkC (w : Bool) (lo hi : Int) (p : Pv) : Prop:=(0 ≤ p.1 ∧ p.1 ≤ hi) ∧ hi ≤ 1000000 ∧ (0 ≤ p.2 ∧ p.2 ≤ 1000000) ∧ (w = true → lo ≤ p.2)
theorem sumC_eq (x : List Int) (l : List Bd) (f : Int → Pv) : ∀ i,sumC x l f i = (((List.range i).map fun j=>x.getD j 0 * (f (bAt l j).b).1).sum,((List.range i).map fun j=>x.getD j 0 * (f (bAt l j).b).2).sum)
 | 0=>rfl
 | i + 1 => by
   simp only [sumC,sumC_eq x l f i,List.range_succ,List.map_append,List.map_cons,List.map_nil,List.sum_append,List.sum_cons,List.sum_nil,Int.add_zero]
theorem TruthN.up {den : Int} {l : List Bd} {x : Nat → Int} (f : Int → Int) (h : TruthN den l x) : TruthN den (Go.Proofs.Ytlbfkhikmigpbaa.chW f l) x:=by
 refine ⟨fun i hi=>?_,?_⟩
 · rw [chW_len] at hi
   rw [bAt_chW f l hi]
   exact h.each i hi
 · rw [chW_len]
   exact h.sum
theorem TruthN.nonneg {den : Int} {l : List Bd} {x : Nat → Int} (h : TruthN den l x) (h0 : ∀ c ∈ l,0 ≤ c.lo) : ∀ i ∈ List.range l.length,0 ≤ x i:=fun i hi=>by
 have:=h.each i (List.mem_range.1 hi)
 have:=h0 _ (bAt_mem (List.mem_range.1 hi))
 omega
theorem truth_high {den : Int} {l : List Bd} {f F : Int → Int} {x : Nat → Int} (h : ChG den (Go.Proofs.Ytlbfkhikmigpbaa.chW f l)) (hh : den ≤ hiS l) (ht : TruthN den l x) (h0 : ∀ c ∈ l,0 ≤ c.lo) (hF : ∀ c ∈ l,F c.b ≤ f c.b) :
 ((List.range l.length).map fun i=>x i * F (bAt l i).b).sum / den ≤ meanD true den (Go.Proofs.Ytlbfkhikmigpbaa.chW f l):=by
 obtain ⟨y,y1,y2,y3⟩:=mean_opt (most:=true) h (by rw [hiS_chW]; exact hh)
 have h1:=y3 x (ht.up f)
 have hd:=h.den0
 simp only [leD,if_true,dotF_chW] at h1
 rw [y2,dotF_chW]
 have h2 : ((List.range l.length).map fun i=>x i * F (bAt l i).b).sum ≤ ((List.range l.length).map fun i=>x i * f (bAt l i).b).sum:=sum_le_map fun i hi =>
  Int.mul_le_mul_of_nonneg_left (hF _ (bAt_mem (List.mem_range.1 hi))) (ht.nonneg h0 i hi)
 simp only [overD,if_true]
 exact Int.ediv_le_ediv (by omega) (by omega)
theorem truth_low {den : Int} {l : List Bd} {f F : Int → Int} {x : Nat → Int} (h : ChG den (Go.Proofs.Ytlbfkhikmigpbaa.chW f l)) (hh : den ≤ hiS l) (ht : TruthN den l x) (h0 : ∀ c ∈ l,0 ≤ c.lo) (hF : ∀ c ∈ l,f c.b ≤ F c.b) :
 meanD false den (Go.Proofs.Ytlbfkhikmigpbaa.chW f l) ≤ (((List.range l.length).map fun i=>x i * F (bAt l i).b).sum + den - 1) / den:=by
 obtain ⟨y,y1,y2,y3⟩:=mean_opt (most:=false) h (by rw [hiS_chW]; exact hh)
 have h1:=y3 x (ht.up f)
 have hd:=h.den0
 simp only [leD,Bool.false_eq_true,if_false,dotF_chW] at h1
 rw [y2,dotF_chW]
 have h2 : ((List.range l.length).map fun i=>x i * f (bAt l i).b).sum ≤ ((List.range l.length).map fun i=>x i * F (bAt l i).b).sum:=sum_le_map fun i hi =>
  Int.mul_le_mul_of_nonneg_left (hF _ (bAt_mem (List.mem_range.1 hi))) (ht.nonneg h0 i hi)
 simp only [overD,Bool.false_eq_true,if_false]
 exact Int.ediv_le_ediv (by omega) (by omega)
theorem truth_le {den : Int} {l : List Bd} {F : Int → Int} {x : Nat → Int} (hd : 1 ≤ den) (ht : TruthN den l x) (h0 : ∀ c ∈ l,0 ≤ c.lo) (hF : ∀ c ∈ l,0 ≤ F c.b ∧ F c.b ≤ 1000000) :
 0 ≤ ((List.range l.length).map fun i=>x i * F (bAt l i).b).sum ∧ ((List.range l.length).map fun i=>x i * F (bAt l i).b).sum ≤ 1000000 * den:=by
 have e : 1000000 * den = ((List.range l.length).map fun i=>1000000 * x i).sum:=by rw [sum_mul,ht.sum]
 have z : (0 : Int) = ((List.range l.length).map fun i=>0 * x i).sum:=by rw [sum_mul,Int.zero_mul]
 rw [e]
 refine ⟨?_,sum_le_map fun i hi=>?_⟩
 · conv=>lhs; rw [z]
   refine sum_le_map fun i hi=>?_
   rw [Int.zero_mul]
   exact Int.mul_nonneg (ht.nonneg h0 i hi) (hF _ (bAt_mem (List.mem_range.1 hi))).1
 · rw [Int.mul_comm 1000000]
   exact Int.mul_le_mul_of_nonneg_left (hF _ (bAt_mem (List.mem_range.1 hi))).2 (ht.nonneg h0 i hi)
theorem after_okC {c : Cu} (hC : CuG c) {k y : Nat} {w : Bool} {p : Pv} (hk : k + 1 < c.r.ends.length) (hy : (y : Int) ≤ c.r.start)
 (h : OkC w (((tabF c.r false).getD (k + 1) []).getD y 0) (((tabF c.r true).getD (k + 1) []).getD y 0) p) : OkC w (afterD c.r false (tabF c.r false) k y) (afterD c.r true (tabF c.r true) k y) (afterC c k p):=by
 obtain ⟨⟨h1,h2⟩,h3,⟨h4,h5⟩,h6⟩:=h
 have hl:=(tabF_bound hC.g false hk hy).1
 have ha:=(after_le (vis_tab hC.g true (show k < c.r.ends.length by omega) y hy) true (left:=y) hy).2
 obtain ⟨e1,e2⟩:=hC.es k (by omega)
 obtain ⟨g1,g2,g3⟩:=endOk_le (hC.g.ends _ (show c.r.ends.getD k (0,0) ∈ c.r.ends by
  rw [List.getD_eq_getElem?_getD,List.getElem?_eq_getElem (show k < c.r.ends.length by omega)]; exact List.getElem_mem _))
 rw [after_eq hk] at ha
 rw [after_eq hk,after_eq hk]
 obtain ⟨e,he⟩ : ∃ e,e = c.es.getD k 0:=⟨_,rfl⟩
 obtain ⟨q,hq⟩ : ∃ q,q = c.r.ends.getD k (0,0):=⟨_,rfl⟩
 have hc0 : cE c.r false k = 1000000 - q.2:=by rw [hq]; rfl
 have hc1 : cE c.r true k = 1000000 - q.1:=by rw [hq]; rfl
 rw [← hq] at e1 e2 g1 g2 g3
 rw [← he] at e1 e2
 rw [hc1] at ha
 rw [hc0,hc1]
 have m1:=Int.mul_le_mul h2 (show 1000000 - e ≤ 1000000 - q.1 by omega) (by omega) (by omega)
 have m0:=Int.mul_nonneg h1 (show 0 ≤ 1000000 - e by omega)
 have m2:=Int.mul_nonneg h4 (show 0 ≤ 1000000 - e by omega)
 have m3:=Int.mul_le_mul h5 (show 1000000 - e ≤ 1000000 by omega) (by omega) (by omega)
 refine ⟨⟨?_,?_⟩,ha,⟨?_,?_⟩,fun hw=>?_⟩
 · simp only [afterC,← he]; omega
 · simp only [afterC,← he,overD,if_true]; omega
 · simp only [afterC,← he]; omega
 · simp only [afterC,← he]; omega
 · have m4:=Int.mul_le_mul (h6 hw) (show 1000000 - q.2 ≤ 1000000 - e by omega) (by omega) (by omega)
   simp only [afterC,← he,overD,Bool.false_eq_true,if_false]; omega
theorem cell_okC {c : Cu} (hC : CuG c) {k st left : Nat} {w last : Bool} {b : Int} {nr val : Nat → Pv} {Vl Vh : Nat → Int} (hk : k < c.r.ends.length) (hs0 : lowestR c.r ≤ st) (hs : (st : Int) ≤ c.r.start) (hl0 : lowestR c.r ≤ left) (hl : (left : Int) ≤ c.r.start)
 (b0 : 0 ≤ b) (b1 : b ≤ 499) (hb : b = 0 ∨ 0 < scoreOf b)
 (hn : k + 1 < c.r.ends.length → ∀ y : Nat,lowestR c.r ≤ y → (y : Int) ≤ c.r.start → OkC w (((tabF c.r false).getD (k + 1) []).getD y 0) (((tabF c.r true).getD (k + 1) []).getD y 0) (nr y))
 (hv : last = false → ∀ y : Nat,lowestR c.r ≤ y → (y : Int) ≤ c.r.start → OkC w (Vl y) (Vh y) (val y)) :
 OkC w (nextV c.r false (tabF c.r false) k st Vl last left b) (nextV c.r true (tabF c.r true) k st Vh last left b) (cellC c nr val k st last left b):=by
 obtain ⟨s0,s1⟩:=score_le b0 b1
 have hlow:=lowest_le c.r
 have hA : ∀ y : Nat,lowestR c.r ≤ y → (y : Int) ≤ c.r.start → OkC w (afterD c.r false (tabF c.r false) k y) (afterD c.r true (tabF c.r true) k y) (if k + 1 < c.r.ends.length then afterC c k (nr y) else (0,0)):=fun y y0 y1=>by
  split
  · rename_i hk1
    exact after_okC hC hk1 y1 (hn hk1 y y0 y1)
  · have e : ∀ m,afterD c.r m (tabF c.r m) k y = 0:=fun m=>by unfold afterD; rw [if_pos (by omega)]
    rw [e,e]
    exact ⟨⟨by simp,by simp⟩,by omega,⟨by simp,by simp⟩,fun _=>by simp⟩
 by_cases z : 0 < scoreOf b
 · have hb0 : b ≠ 0:=fun h=>by subst h; simp [scoreOf] at z
   unfold nextV cellC
   simp only [z,hb0,decide_true,Bool.true_and,Bool.and_eq_true,decide_eq_true_eq,ne_eq,not_false_eq_true,true_and]
   by_cases c1 : (left : Int) - scoreOf b = 0 ∧ opensD c.r.out b = true
   · rw [if_pos c1,if_pos c1,if_pos c1]
     exact ⟨⟨by simp,by simp⟩,by omega,⟨by simp,by simp⟩,fun _=>by simp⟩
   · rw [if_neg c1,if_neg c1,if_neg c1]
     by_cases c2 : (left : Int) - scoreOf b < lowestR c.r
     · rw [if_pos c2,if_pos c2,if_neg (by omega),if_pos c2]
       exact hA st hs0 hs
     · rw [if_neg c2,if_neg c2,if_neg c2]
       cases last with
       | true =>
         simp only [if_true,Bool.true_eq_false,false_and,if_false]
         exact hA _ (by omega) (by omega)
       | false =>
         simp only [Bool.false_eq_true,if_false,true_and]
         rw [if_pos (by omega)]
         exact hv rfl _ (by omega) (by omega)
 · have hb0 : b = 0:=by omega
   subst hb0
   have z0 : scoreOf 0 = 0:=by simp [scoreOf]
   unfold nextV cellC
   simp only [z0,Int.sub_zero,Int.toNat_natCast,show decide ((0 : Int) < 0) = false from rfl,Bool.false_and,Bool.false_eq_true,if_false,ne_eq,not_true_eq_false,false_and]
   rw [if_neg (show ¬ (left : Int) < lowestR c.r by omega)]
   cases last with
   | true =>
     simp only [if_true,Bool.true_eq_false,false_and,if_false]
     exact hA left hl0 hl
   | false =>
     simp only [Bool.false_eq_true,if_false,true_and]
     rw [if_pos hl0]
     exact hv rfl left hl0 hl
theorem bedsC_mem {c : Cu} {a : Nat} (ha : a < c.r.aims.length) : c.r.aims[a]? = some (c.r.aims.getD a ⟨0,[]⟩) ∧ c.r.aims.getD a ⟨0,[]⟩ ∈ c.r.aims:=by
 rw [List.getD_eq_getElem?_getD,List.getElem?_eq_getElem ha]
 exact ⟨rfl,List.getElem_mem ha⟩
theorem mean_okC {c : Cu} (hC : CuG c) {a : Nat} {w : Bool} {cell : Int → Pv} {fl fh : Int → Int} (ha : a < c.r.aims.length) (hfl : ∀ b,0 ≤ b → b ≤ 499 → 0 ≤ fl b ∧ fl b ≤ 1000000) (hfh : ∀ b,0 ≤ b → b ≤ 499 → 0 ≤ fh b ∧ fh b ≤ 1000000)
 (h : ∀ x ∈ bedsC c a,OkC w (fl x.b) (fh x.b) (cell x.b)) :
 OkC w (meanD false c.r.d (Go.Proofs.Ytlbfkhikmigpbaa.chW fl (bedsC c a))) (meanD true c.r.d (Go.Proofs.Ytlbfkhikmigpbaa.chW fh (bedsC c a))) (meanC c a cell):=by
 obtain ⟨ha1,ha2⟩:=bedsC_mem ha
 have gl:=hC.g.aims.ch hfl _ ha2
 have gh:=hC.g.aims.ch hfh _ ha2
 have hh:=hC.h.hi _ ha2
 have h0 : ∀ x ∈ bedsC c a,0 ≤ x.lo:=fun x hx=>((hC.g.aims.beds _ ha2).2.2 x hx).2.1
 have ht:=hC.xs a ha
 have hd:=hC.g.aims.den0
 have t1:=truth_high (F:=fun b=>(cell b).1) gh hh ht h0 fun x hx=>(h x hx).1.2
 have t2:=truth_low (F:=fun b=>(cell b).2) gl hh ht h0
 have t3:=(truth_le (F:=fun b=>(cell b).1) hd ht h0 fun x hx=>⟨(h x hx).1.1,by have:=(h x hx).1.2; have:=(h x hx).2.1; omega⟩).1
 obtain ⟨t4,t5⟩:=truth_le (F:=fun b=>(cell b).2) hd ht h0 fun x hx=>(h x hx).2.2.1
 unfold meanC
 rw [sumC_eq]
 refine ⟨⟨Int.ediv_nonneg t3 (by omega),t1⟩,(meanD_le gh).2,⟨Int.ediv_nonneg (by show 0 ≤ _ + c.r.d - 1; omega) (by omega),?_⟩,fun hw=>t2 fun x hx=>(h x hx).2.2.2 hw⟩
 have : (((List.range (bedsC c a).length).map fun j=>(c.xs.getD a []).getD j 0 * (cell (bAt (bedsC c a) j).b).2).sum + c.r.d - 1) / c.r.d < 1000000 + 1:=Int.ediv_lt_of_lt_mul (by omega) (by rw [Int.add_mul]; omega)
 simp only
 omega
theorem meansV_at (r : Ru) (most : Bool) (f : Int → Int) {a : Nat} {x : Am} (h : r.aims[a]? = some x) : (meansV r most f)[a]? = some (meanD most r.d (Go.Proofs.Ytlbfkhikmigpbaa.chW f x.beds)):=by
 simp [meansV,h]
theorem best_max {r : Ru} {k st left d : Nat} (hne : r.aims ≠ []) : ∃ b : Nat,bestL (oddsS r k st left d) = b ∧ b < r.aims.length ∧ maxL (oddsV r false (tabF r false) k st left d) ≤ (oddsV r false (tabF r false) k st left d).getD b 0:=by
 obtain ⟨h1,h2⟩:=oddsS_map r k st left d
 have hlen : (oddsS r k st left d).length = r.aims.length:=by rw [← oddsV_len r false (tabF r false) k st left d,← h1,List.length_map]
 have hpos : 0 < r.aims.length:=List.length_pos_iff.2 hne
 obtain ⟨b,b1,b2,b3,b4⟩:=bestS_spec (oddsS r k st left d) _ (Nat.le_refl _)
 refine ⟨b,b1,by omega,?_⟩
 have hm : maxL (oddsV r false (tabF r false) k st left d) ∈ oddsV r false (tabF r false) k st left d:=maxL_mem (by
  intro e; have:=oddsV_len r false (tabF r false) k st left d; rw [e] at this; simp at this; omega)
 obtain ⟨j,hj⟩:=List.getElem?_of_mem hm
 have hjl:=(List.getElem?_eq_some_iff.1 hj).1
 rw [oddsV_len] at hjl
 have:=b3 j (by omega)
 have g : ∀ i,(oddsV r false (tabF r false) k st left d).getD i 0 = ((oddsS r k st left d).getD i (0,0)).1:=fun i=>by
  rw [← h1,List.getD_eq_getElem?_getD,List.getD_eq_getElem?_getD,List.getElem?_map]
  cases (oddsS r k st left d)[i]? <;> rfl
 have e : maxL (oddsV r false (tabF r false) k st left d) = ((oddsS r k st left d).getD j (0,0)).1:=by
  rw [← g j,List.getD_eq_getElem?_getD,hj]; rfl
 rw [e,g b]
 exact this
theorem aimC_lt {c : Cu} (hne : c.r.aims ≠ []) (k st left d : Nat) : aimC c k st left d < c.r.aims.length:=by
 have hpos : 0 < c.r.aims.length:=List.length_pos_iff.2 hne
 unfold aimC
 split
 · obtain ⟨b,b1,b2,_⟩:=best_max (r:=c.r) (k:=k) (st:=st) (left:=left) (d:=d - 1) hne
   rw [b1]; simpa using b2
 · split
   · exact hpos
   · exact Nat.mod_lt _ hpos
theorem cvV_okC {c : Cu} (hC : CuG c) {nr : Nat → Pv} {k st : Nat} (hk : k < c.r.ends.length) (hs0 : lowestR c.r ≤ st) (hs : (st : Int) ≤ c.r.start)
 (hn : k + 1 < c.r.ends.length → ∀ y : Nat,lowestR c.r ≤ y → (y : Int) ≤ c.r.start → OkC c.wise (((tabF c.r false).getD (k + 1) []).getD y 0) (((tabF c.r true).getD (k + 1) []).getD y 0) (nr y)) :
 ∀ d left : Nat,lowestR c.r ≤ left → (left : Int) ≤ c.r.start → OkC c.wise (valV c.r false (tabF c.r false) k st d left) (valV c.r true (tabF c.r true) k st d left) (cvV c nr k st d left)
 | 0,left,_,_=>⟨⟨by simp [cvV],by simp [cvV,valV]⟩,by simp [valV],⟨by simp [cvV],by simp [cvV]⟩,fun _=>by simp [cvV,valV]⟩
 | d + 1, left, hl0, hl => by
   have v0:=vis_tab hC.g false hk st hs
   have v1:=vis_tab hC.g true hk st hs
   have hne:=hC.g.aims.ne
   have hlt:=aimC_lt (c:=c) hne k st left (d + 1)
   obtain ⟨a,ha⟩ : ∃ a,a = aimC c k st left (d + 1):=⟨_,rfl⟩
   have hm:=mean_okC (w:=c.wise) (cell:=cellC c nr (cvV c nr k st d) k st (decide (d = 0)) left) hC hlt
    (fun b b0 b1=>nextV_le v0 hl b0 b1 fun _ x hx=>valV_le v0 hC.g.aims d x hx)
    (fun b b0 b1=>nextV_le v1 hl b0 b1 fun _ x hx=>valV_le v1 hC.g.aims d x hx)
    fun x hx=>by
     obtain ⟨q1,q2⟩:=bedsC_mem hlt
     have hb:=((hC.g.aims.beds _ q2).2.2 x hx).1
     exact cell_okC hC hk hs0 hs hl0 hl hb.1 hb.2 (hC.h.beds _ q2 x hx) hn fun hd y y0 y1=>cvV_okC hC hk hs0 hs hn d y y0 y1
   simp only [cvV,valV]
   rw [← ha] at hm hlt ⊢
   obtain ⟨m1,m2,m3,m4⟩:=hm
   obtain ⟨q1,q2⟩:=bedsC_mem (c:=c) hlt
   have hmax:=le_maxL (List.mem_of_getElem? (meansV_at c.r true (nextV c.r true (tabF c.r true) k st (valV c.r true (tabF c.r true) k st d) (decide (d = 0)) left) q1))
   have hle:=(valV_le (most:=true) v1 hC.g.aims (d + 1) left hl).2
   simp only [valV] at hle
   refine ⟨⟨m1.1,Int.le_trans m1.2 hmax⟩,hle,m3,fun hw=>Int.le_trans ?_ (m4 hw)⟩
   obtain ⟨b,b1,b2,b3⟩:=best_max (r:=c.r) (k:=k) (st:=st) (left:=left) (d:=d) hne
   have hab : a = b:=by rw [ha]; unfold aimC; rw [if_pos hw,Nat.add_sub_cancel,b1]; rfl
   subst hab
   have e:=meansV_at c.r false (nextV c.r false (tabF c.r false) k st (valV c.r false (tabF c.r false) k st d) (decide (d = 0)) left) q1
   rw [List.getD_eq_getElem?_getD] at b3
   unfold oddsV at b3
   rw [e] at b3
   exact b3
theorem cvP_okC {c : Cu} (hC : CuG c) : ∀ n k : Nat,k + n + 1 = c.r.ends.length → ∀ st d left : Nat,lowestR c.r ≤ st → (st : Int) ≤ c.r.start → lowestR c.r ≤ left → (left : Int) ≤ c.r.start →
 OkC c.wise (valV c.r false (tabF c.r false) k st d left) (valV c.r true (tabF c.r true) k st d left) (cvP c n k st d left)
 | 0,k,hk,st,d,left,s0,s1,l0,l1=>cvV_okC hC (by omega) s0 s1 (by omega) d left l0 l1
 | n + 1, k, hk, st, d, left, s0, s1, l0, l1 => cvV_okC hC (by omega) s0 s1 (fun hk1 y y0 y1 => by
     have e:=fun m=>tabF_val (r:=c.r) m hk1 y1
     simp only [show ¬ (y : Int) < lowestR c.r by omega,if_false] at e
     rw [e,e]
     exact cvP_okC hC n (k + 1) (by omega) y 3 y y0 y1 y0 y1) d left l0 l1
end Go.Proofs.Ytlbfkhikmigpbaa

namespace Go.Proofs.Ytlbfkhikmigpbaa
open Go Go.Oc
set_option linter.unusedSimpArgs false
set_option linter.unusedVariables false
set_option maxRecDepth 8000
theorem mem_tw {α : Type} {p : α → Bool} {x : α} : ∀ {l : List α},x ∈ l.takeWhile p → p x = true
 | [],h=>by simp at h
 | y :: l, h => by
   rw [List.takeWhile_cons] at h
   split at h
   · rename_i hy
     rcases List.mem_cons.1 h with rfl | h
     · exact hy
     · exact mem_tw h
   · cases h
def bedN (n : Int) : Int:=if n % 16 = 0 then 0 else 100 * (1 + n / 16 % 3) + 1 + n % 16 % 12
theorem bedN_ok (n : Int) : bedN n = 0 ∨ bedOk (bedN n) = true:=by
 unfold bedN
 split
 · exact .inl rfl
 · right
   simp only [bedOk,Bool.or_eq_true,Bool.and_eq_true,decide_eq_true_eq]
   right
   omega
def frontB (b : Int) (l : List Bd) : List Bd:=l.takeWhile fun c=>decide (c.b ≤ b)
def addB (den : Int) (x : List Bd × Int) (v : Int × Int × Int) : List Bd × Int :=
 if (frontB (bedN v.1) x.1).any (fun c=>decide (c.b = bedN v.1)) then x
 else (x.1.take (frontB (bedN v.1) x.1).length ++ (⟨bedN v.1,x.2 * v.2.1 / 512,min den (x.2 * v.2.1 / 512 + v.2.2 % 50)⟩ :: x.1.drop (frontB (bedN v.1) x.1).length),x.2 - x.2 * v.2.1 / 512)
structure BedsI (den : Int) (x : List Bd × Int) : Prop where
 up : x.1.Pairwise fun a b=>a.b < b.b
 ok : ∀ c ∈ x.1,(c.b = 0 ∨ bedOk c.b = true) ∧ 0 ≤ c.lo ∧ c.lo ≤ c.hi ∧ c.hi ≤ den
 sum : loS x.1 + x.2 = den
 left0 : 0 ≤ x.2
theorem addB_ok {den : Int} {x : List Bd × Int} {v : Int × Int × Int} (h : BedsI den x) (hd : 1 ≤ den) (hv : 0 ≤ v.2.1 ∧ v.2.1 ≤ 255) (hw : 0 ≤ v.2.2) : BedsI den (addB den x v) ∧ (addB den x v).1.length ≤ x.1.length + 1:=by
 unfold addB
 split
 · exact ⟨h,by omega⟩
 · rename_i hn
   obtain ⟨l,left⟩:=x
   simp only at hn ⊢
   have hs:=h.sum
   have hl0:=h.left0
   simp only at hs hl0
   have hlow : 0 ≤ left * v.2.1 / 512 ∧ left * v.2.1 / 512 ≤ left:=by
    have h0:=Int.mul_nonneg hl0 hv.1
    have h1 : left * v.2.1 ≤ left * 255:=Int.mul_le_mul_of_nonneg_left hv.2 hl0
    omega
   have hlos : 0 ≤ loS l:=by
    have : ∀ m : List Bd,(∀ c ∈ m,0 ≤ c.lo) → 0 ≤ loS m:=by
     intro m
     induction m with
     | nil=>intro _; simp [loS]
     | cons c m ih=>intro hc; have h1:=hc c (by simp); have h2:=ih fun x hx=>hc x (by simp [hx]); simp only [loS,List.map_cons,List.sum_cons] at h2 ⊢; omega
    exact this l fun c hc=>(h.ok c hc).2.1
   generalize hlo : left * v.2.1 / 512 = low at *
   have hfr : l.take (frontB (bedN v.1) l).length = frontB (bedN v.1) l:=by
    unfold frontB
    exact (List.prefix_iff_eq_take.1 (List.takeWhile_prefix _)).symm
   have hdr : l.drop (frontB (bedN v.1) l).length = l.dropWhile fun c=>decide (c.b ≤ bedN v.1):=by
    have e:=List.takeWhile_append_dropWhile (p:=fun c : Bd=>decide (c.b ≤ bedN v.1)) (l:=l)
    have:=congrArg (List.drop (frontB (bedN v.1) l).length) e
    rw [← this]
    unfold frontB
    rw [List.drop_left]
   have hle : ∀ c ∈ frontB (bedN v.1) l,c.b < bedN v.1:=fun c hc=>by
    have h1 : decide (c.b ≤ bedN v.1) = true:=mem_tw (p:=fun c : Bd=>decide (c.b ≤ bedN v.1)) hc
    have h2 : ¬ c.b = bedN v.1:=fun e=>hn (List.any_eq_true.2 ⟨c,hc,by simpa using e⟩)
    have h1 : c.b ≤ bedN v.1:=by simpa using h1
    omega
   have hspl : frontB (bedN v.1) l ++ l.drop (frontB (bedN v.1) l).length = l:=by
    conv=>lhs; lhs; rw [← hfr]
    exact List.take_append_drop _ _
   have hup:=h.up
   simp only at hup
   rw [← hspl] at hup
   obtain ⟨u1,u2,u3⟩:=List.pairwise_append.1 hup
   have hgt : ∀ c ∈ l.drop (frontB (bedN v.1) l).length,bedN v.1 < c.b:=by
    rw [hdr]
    intro c hc
    cases hdw : l.dropWhile (fun c=>decide (c.b ≤ bedN v.1)) with
    | nil=>rw [hdw] at hc; cases hc
    | cons d dl =>
      have hd0 : ¬ (decide (d.b ≤ bedN v.1) = true):=by
       have:=List.head?_dropWhile_not (p:=fun c : Bd=>decide (c.b ≤ bedN v.1)) (l:=l)
       rw [hdw] at this
       simpa using this
      have hd1 : bedN v.1 < d.b:=by simpa using hd0
      rw [hdw] at hc
      rw [hdr,hdw] at u2
      rcases List.mem_cons.1 hc with rfl | hc
      · exact hd1
      · have:=(List.pairwise_cons.1 u2).1 c hc
        omega
   refine ⟨⟨?_,?_,?_,by simp only; omega⟩,?_⟩
   · simp only [hfr]
     refine List.pairwise_append.2 ⟨u1,List.pairwise_cons.2 ⟨fun c hc=>hgt c hc,u2⟩,fun a ha b hb=>?_⟩
     rcases List.mem_cons.1 hb with rfl | hb
     · exact hle a ha
     · exact u3 a ha b hb
   · simp only [hfr]
     intro c hc
     rcases List.mem_append.1 hc with hc | hc
     · exact h.ok c (by rw [← hspl]; exact List.mem_append_left _ hc)
     · rcases List.mem_cons.1 hc with rfl | hc
       · refine ⟨bedN_ok _,hlow.1,by simp only; omega,by simp only; omega⟩
       · exact h.ok c (by rw [← hspl]; exact List.mem_append_right _ hc)
   · simp only [hfr]
     have : loS l = loS (frontB (bedN v.1) l) + loS (l.drop (frontB (bedN v.1) l).length):=by
      conv=>lhs; rw [← hspl]
      simp only [loS,List.map_append,List.sum_append]
     simp only [loS,List.map_append,List.sum_append,List.map_cons,List.sum_cons] at this hs ⊢
     omega
   · simp only [List.length_append,List.length_cons,List.length_take,List.length_drop]
     omega
end Go.Proofs.Ytlbfkhikmigpbaa

namespace Go.Proofs.Ytlbfkhikmigpbaa
open Go Go.Oc
set_option linter.unusedSimpArgs false
set_option linter.unusedVariables false
set_option maxRecDepth 8000
set_option maxHeartbeats 2000000
theorem bed_ok (n : Int) (h0 : 0 ≤ n) (h1 : n ≤ 255) : ACalls Try.prog 60 [.it .u8 n] (i64 (bedN n)):=by
 have e1 : n.tmod 16 = n % 16:=Int.tmod_eq_emod_of_nonneg h0
 have e2 : IntKind.i64.wrap (n.tdiv 16) = n / 16:=by rw [Int.tdiv_eq_ediv_of_nonneg h0,zI] <;> omega
 have e3 : (n / 16).tmod 3 = n / 16 % 3:=Int.tmod_eq_emod_of_nonneg (by omega)
 have e4 : (n % 16).tmod 12 = n % 16 % 12:=Int.tmod_eq_emod_of_nonneg (by omega)
 have e5 : IntKind.i64.wrap n = n:=by rw [zI] <;> omega
 refine acalls_st (rs:=[i64 (bedN n)]) [.tmp 2] Try.func60 rfl (by kernel_rfl) Try.ntmps60 rfl (by simp) rfl fun C vs=>?_
 repeat refine zq ?_
 refine zb (by kernel_rfl) fun K hK=>?_
 simp only [go_sem]
 (try simp (disch:=omega) only [zI])
 repeat first | intro _ | refine ⟨by omega,?_⟩ | refine ⟨⟨by omega,by omega⟩,?_⟩
 refine hK _ ?_
 clear hK K
 refine zw (zk [0]) ?_
 simp only [go_sem]
 by_cases hz : n % 16 = 0
 · have c : (n % 16 == 0) = true:=by simpa using hz
   repeat refine zq ?_
   refine zb (by kernel_rfl) fun K hK=>?_
   simp only [go_sem,e1,c]
   (try simp (disch:=omega) only [zI])
   repeat first | intro _ | refine ⟨by omega,?_⟩ | refine ⟨⟨by omega,by omega⟩,?_⟩
   refine hK _ ?_
   clear hK K
   refine zw (zk [0,5]) ?_
   simp only [go_sem]
   repeat refine zq ?_
   refine zc rfl (fun hc=>?_) (fun hc=>?_) <;> (try simp only [go_sem] at hc)
   repeat refine zq ?_
   refine zb (by kernel_rfl) fun K hK=>?_
   simp only [go_sem]
   (try simp (disch:=omega) only [zI])
   repeat first | intro _ | refine ⟨by omega,?_⟩ | refine ⟨⟨by omega,by omega⟩,?_⟩
   refine hK _ ?_
   clear hK K
   refine zw (zk [2]) ?_
   simp only [go_sem]
   refine ze ?_
   simp only [go_sem]
   simp [bedN,hz]
 · have c : (n % 16 == 0) = false:=by simpa using hz
   repeat refine zq ?_
   refine zb (by kernel_rfl) fun K hK=>?_
   simp only [go_sem,e1,c]
   (try simp (disch:=omega) only [zI])
   repeat first | intro _ | refine ⟨by omega,?_⟩ | refine ⟨⟨by omega,by omega⟩,?_⟩
   refine hK _ ?_
   clear hK K
   refine zw (zk [0,5]) ?_
   simp only [go_sem]
   repeat refine zq ?_
   refine zc rfl (fun hc=>?_) (fun hc=>?_) <;> (try simp only [go_sem] at hc)
   refine zx ?_
   try simp only [go_sem]
   repeat refine zq ?_
   refine zb (by kernel_rfl) fun K hK=>?_
   simp only [go_sem,e1,e2,e3,e4,e5]
   (try simp (disch:=omega) only [zI])
   repeat first | intro _ | refine ⟨by omega,?_⟩ | refine ⟨⟨by omega,by omega⟩,?_⟩
   refine hK _ ?_
   clear hK K
   refine zw (zk [2]) ?_
   simp only [go_sem]
   refine ze ?_
   simp only [go_sem]
   simp only [bedN,if_neg hz]
structure Mt where
 den : Int
 aims : List (List Int)
 start : Int
 out : Int
 ends : List (Int × Int)
abbrev it8 (n : Int) : RV:=.it .u8 n
abbrev mtC (m : Mt) : List RV:=[it8 m.den,.sl 12 (m.aims.map fun e=>e.map it8),it8 m.start,it8 m.out,.sl 2 (m.ends.map fun e=>[.it .u16 e.1,.it .u16 e.2])]
structure WfM (m : Mt) : Prop where
 den : 0 ≤ m.den ∧ m.den ≤ 255
 aims : ∀ e ∈ m.aims,e.length = 12 ∧ ∀ x ∈ e,0 ≤ x ∧ x ≤ 255
 start : 0 ≤ m.start ∧ m.start ≤ 255
 out : 0 ≤ m.out ∧ m.out ≤ 255
 ends : ∀ e ∈ m.ends,(0 ≤ e.1 ∧ e.1 ≤ 65535) ∧ 0 ≤ e.2 ∧ e.2 ≤ 65535
def vAt (e : List Int) (k : Nat) : Int × Int × Int:=(e.getD (3 * k) 0,e.getD (3 * k + 1) 0,e.getD (3 * k + 2) 0)
def stB (den : Int) (e : List Int) : Nat → List Bd × Int
 | 0=>([],den)
 | k + 1=>addB den (stB den e k) (vAt e k)
def finB (den : Int) : List Bd → List Bd
 | []=>[⟨201,0,den⟩]
 | c :: l=>⟨c.b,c.lo,den⟩ :: l
def bedsM (m : Mt) (i : Nat) : List Bd:=if i < m.aims.length then (stB (4 + m.den) (m.aims.getD i []) 4).1 else []
def aimM (m : Mt) (i : Nat) : Am:=⟨201,finB (4 + m.den) (bedsM m i)⟩
def aimN (m : Mt) : Nat:=max 1 (min 3 m.aims.length)
def endM (e : Int × Int) : Sp:=(e.1 * 15,min 1000000 (e.1 * 15 + e.2 * 4))
def ruM (m : Mt) : Ru:=⟨4 + m.den,(List.range (aimN m)).map (aimM m),2 + m.start % 7,m.out % 3,((m.ends.take 3).map endM) ++ [(1000000,1000000)]⟩
theorem v_drop {e : List Int} (h : e.length = 12) {k : Nat} (hk : k < 4) : List.take 3 (List.drop (k * 3) (e.map it8)) = [it8 (vAt e k).1,it8 (vAt e k).2.1,it8 (vAt e k).2.2] ∧ 3 ≤ (List.drop (k * 3) (e.map it8)).length:=by
 match e,h with
 | [a0, a1, a2, a3, a4, a5, a6, a7, a8, a9, a10, a11], _ =>
   have : k = 0 ∨ k = 1 ∨ k = 2 ∨ k = 3:=by omega
   rcases this with rfl | rfl | rfl | rfl <;> exact ⟨rfl,by simp⟩
theorem v_le {e : List Int} (h : ∀ x ∈ e,0 ≤ x ∧ x ≤ 255) (k : Nat) : (0 ≤ (vAt e k).1 ∧ (vAt e k).1 ≤ 255) ∧ (0 ≤ (vAt e k).2.1 ∧ (vAt e k).2.1 ≤ 255) ∧ 0 ≤ (vAt e k).2.2 ∧ (vAt e k).2.2 ≤ 255:=by
 have g : ∀ i,0 ≤ e.getD i 0 ∧ e.getD i 0 ≤ 255:=fun i=>by
  rw [List.getD_eq_getElem?_getD]
  cases hx : e[i]? with
  | none=>simp
  | some x=>exact h x (List.mem_of_getElem? hx)
 exact ⟨g _,g _,g _⟩
theorem stB_ok {den : Int} (hd : 1 ≤ den) {e : List Int} (h : ∀ x ∈ e,0 ≤ x ∧ x ≤ 255) : ∀ k,BedsI den (stB den e k) ∧ (stB den e k).1.length ≤ k
 | 0=>⟨⟨by simp [stB],by simp [stB],by simp [stB,loS],by simp only [stB]; omega⟩,by simp [stB]⟩
 | k + 1 => by
   obtain ⟨h1,h2⟩:=stB_ok hd h k
   obtain ⟨g1,g2⟩:=addB_ok (v:=vAt e k) h1 hd (v_le h k).2.1 (v_le h k).2.2.1
   exact ⟨g1,by simp only [stB]; omega⟩
theorem loS_nonneg : ∀ m : List Bd,(∀ c ∈ m,0 ≤ c.lo) → 0 ≤ loS m
 | [],_=>by simp [loS]
 | c :: m,hc=>by have h1:=hc c (by simp); have h2:=loS_nonneg m fun x hx=>hc x (by simp [hx]); simp only [loS,List.map_cons,List.sum_cons] at h2 ⊢; omega
theorem beds_left {den : Int} {x : List Bd × Int} (h : BedsI den x) : x.2 ≤ den:=by
 have h1:=loS_nonneg x.1 fun c hc=>(h.ok c hc).2.1
 have h2:=h.sum
 omega
theorem front_get {b : Int} {l : List Bd} {j : Nat} (h : j < (frontB b l).length) : ∃ c,l[j]? = some c ∧ (frontB b l)[j]? = some c ∧ c.b ≤ b:=by
 obtain ⟨c,hc⟩:=opt_of_lt h
 have hp : frontB b l <+: l:=List.takeWhile_prefix _
 obtain ⟨t,ht⟩:=hp
 refine ⟨c,?_,hc,?_⟩
 · rw [← ht,List.getElem?_append_left h]; exact hc
 · have:=mem_tw (p:=fun c : Bd=>decide (c.b ≤ b)) (mem_of_opt hc)
   simpa using this
theorem front_end {b : Int} {l : List Bd} {c : Bd} (h : l[(frontB b l).length]? = some c) : b < c.b:=by
 have e:=List.takeWhile_append_dropWhile (p:=fun c : Bd=>decide (c.b ≤ b)) (l:=l)
 have h' : ((l.takeWhile fun c=>decide (c.b ≤ b)) ++ l.dropWhile fun c=>decide (c.b ≤ b))[(l.takeWhile fun c=>decide (c.b ≤ b)).length]? = some c:=by rw [e]; exact h
 rw [List.getElem?_append_right (Nat.le_refl _),Nat.sub_self] at h'
 have h2 : (l.dropWhile fun c=>decide (c.b ≤ b))[0]? = some c:=h'
 have h3:=List.head?_dropWhile_not (p:=fun c : Bd=>decide (c.b ≤ b)) (l:=l)
 rw [List.head?_eq_getElem?,h2] at h3
 simpa using h3
theorem front_le (b : Int) (l : List Bd) : (frontB b l).length ≤ l.length:=(List.takeWhile_prefix _).length_le
end Go.Proofs.Ytlbfkhikmigpbaa

namespace Go.Proofs.Ytlbfkhikmigpbaa
open Go Go.Oc
set_option linter.unusedSimpArgs false
set_option linter.unusedVariables false
set_option maxRecDepth 8000
abbrev u8L (l : List Int) : RV:=.sl 1 (l.map fun n=>[it8 n])
def moreT (l : List Bd) (bs : List Int) (k i : Nat) (x : List Int × Int) : Int :=
 if k = 0 ∧ 0 < bs.length then min x.2 ((bAt l i).hi - x.1.getD i 0) * bs.getD (i % bs.length) 0 / 255 else min x.2 ((bAt l i).hi - x.1.getD i 0)
def stepT (l : List Bd) (bs : List Int) (k i : Nat) (x : List Int × Int) : List Int × Int:=(x.1.set i (x.1.getD i 0 + moreT l bs k i x),x.2 - moreT l bs k i x)
def passT (l : List Bd) (bs : List Int) (k : Nat) (x : List Int × Int) : Nat → List Int × Int
 | 0=>x
 | i + 1=>stepT l bs k i (passT l bs k x i)
def startT (l : List Bd) (den : Int) : List Int × Int:=(l.map (·.lo),den - loS l)
def atT (l : List Bd) (den : Int) (bs : List Int) : Nat → List Int × Int
 | 0=>startT l den
 | k + 1=>passT l bs k (atT l den bs k) l.length
def truthL (l : List Bd) (den : Int) (bs : List Int) : List Int:=(atT l den bs 2).1
structure TI (l : List Bd) (den : Int) (x : List Int × Int) : Prop where
 len : x.1.length = l.length
 each : ∀ i,i < l.length → (bAt l i).lo ≤ x.1.getD i 0 ∧ x.1.getD i 0 ≤ (bAt l i).hi
 sum : x.1.sum + x.2 = den
 left : 0 ≤ x.2
theorem sum_setT : ∀ {M : List Int} {a : Nat} {y : Int},a < M.length → (M.set a y).sum = M.sum - M.getD a 0 + y
 | x :: M,0,y,_=>by simp; omega
 | x :: M, a + 1, y, h => by
   have:=sum_setT (M:=M) (a:=a) (y:=y) (by simpa using h)
   simp only [List.set_cons_succ,List.sum_cons,this,List.getD_cons_succ]
   omega
theorem getD_set (M : List Int) (a i : Nat) (y : Int) (h : a < M.length) : (M.set a y).getD i 0 = if i = a then y else M.getD i 0:=by
 rw [List.getD_eq_getElem?_getD,List.getElem?_set,List.getD_eq_getElem?_getD]
 by_cases e : a = i
 · subst e; simp [h]
 · rw [if_neg e,if_neg (fun h=>e h.symm)]
theorem more_le {l : List Bd} {den : Int} {bs : List Int} (hb : ∀ n ∈ bs,0 ≤ n ∧ n ≤ 255) {x : List Int × Int} (h : TI l den x) (k : Nat) {i : Nat} (hi : i < l.length) :
 0 ≤ moreT l bs k i x ∧ moreT l bs k i x ≤ min x.2 ((bAt l i).hi - x.1.getD i 0):=by
 have h1:=h.each i hi
 have h2:=h.left
 unfold moreT
 split
 · rename_i hk
   have hq : 0 ≤ bs.getD (i % bs.length) 0 ∧ bs.getD (i % bs.length) 0 ≤ 255:=by
    have hlt : i % bs.length < bs.length:=Nat.mod_lt _ hk.2
    rw [List.getD_eq_getElem?_getD,List.getElem?_eq_getElem hlt]
    exact hb _ (List.getElem_mem _)
   generalize bs.getD (i % bs.length) 0 = q at hq
   generalize hm : min x.2 ((bAt l i).hi - x.1.getD i 0) = m at *
   have hm0 : 0 ≤ m:=by omega
   have g1:=Int.mul_nonneg hm0 hq.1
   have g2:=Int.mul_le_mul_of_nonneg_left hq.2 hm0
   omega
 · omega
theorem TI.step {l : List Bd} {den : Int} {bs : List Int} (hb : ∀ n ∈ bs,0 ≤ n ∧ n ≤ 255) {x : List Int × Int} (h : TI l den x) (k : Nat) {i : Nat} (hi : i < l.length) : TI l den (stepT l bs k i x):=by
 have hm:=more_le hb h k hi
 have hl:=h.len
 refine ⟨by simp [stepT,hl],fun j hj=>?_,?_,?_⟩
 · simp only [stepT]
   rw [getD_set _ _ _ _ (by omega)]
   have:=h.each j hj
   split
   · rename_i e; subst e; omega
   · exact this
 · simp only [stepT]
   rw [sum_setT (by omega)]
   have:=h.sum
   omega
 · simp only [stepT]; omega
theorem TI.pass {l : List Bd} {den : Int} {bs : List Int} (hb : ∀ n ∈ bs,0 ≤ n ∧ n ≤ 255) {x : List Int × Int} (h : TI l den x) (k : Nat) : ∀ i,i ≤ l.length → TI l den (passT l bs k x i)
 | 0,_=>h
 | i + 1,hi=>(TI.pass hb h k i (by omega)).step hb k (by omega)
theorem TI.start {l : List Bd} {den : Int} (h : loS l ≤ den) (h1 : ∀ c ∈ l,c.lo ≤ c.hi) : TI l den (startT l den):=by
 refine ⟨by simp [startT],fun i hi=>?_,?_,?_⟩
 · have:=h1 _ (bAt_mem hi)
   have e : (startT l den).1.getD i 0 = (bAt l i).lo:=by simp [startT,bAt,List.getD,List.getElem?_eq_getElem hi]
   rw [e]; omega
 · simp only [startT,loS]; omega
 · simp only [startT]; omega
theorem TI.at {l : List Bd} {den : Int} {bs : List Int} (hb : ∀ n ∈ bs,0 ≤ n ∧ n ≤ 255) (h : loS l ≤ den) (h1 : ∀ c ∈ l,c.lo ≤ c.hi) : ∀ k,TI l den (atT l den bs k)
 | 0=>TI.start h h1
 | k + 1=>(TI.at hb h h1 k).pass hb k l.length (Nat.le_refl _)
theorem pass_full {l : List Bd} {den : Int} {bs : List Int} (hb : ∀ n ∈ bs,0 ≤ n ∧ n ≤ 255) {x : List Int × Int} (h : TI l den x) : ∀ i,i ≤ l.length → (passT l bs 1 x i).2 = 0 ∨ ∀ j,j < i → (passT l bs 1 x i).1.getD j 0 = (bAt l j).hi
 | 0,_=>.inr fun j hj=>by omega
 | i + 1, hi => by
   have hT:=TI.pass hb h 1 i (by omega)
   have hl:=hT.len
   have he:=hT.each i (by omega)
   have h0:=hT.left
   simp only [passT]
   obtain ⟨y,hy⟩ : ∃ y,y = passT l bs 1 x i:=⟨_,rfl⟩
   have ih:=pass_full hb h i (by omega)
   rw [← hy] at hT hl he h0 ih ⊢
   have hm : moreT l bs 1 i y = min y.2 ((bAt l i).hi - y.1.getD i 0):=by unfold moreT; rw [if_neg (by omega)]
   by_cases c : y.2 ≤ (bAt l i).hi - y.1.getD i 0
   · left; simp only [stepT,hm]; omega
   · right
     intro j hj
     simp only [stepT,hm]
     rw [getD_set _ _ _ _ (by omega)]
     split
     · rename_i e; subst e; omega
     · rcases ih with ih | ih
       · omega
       · exact ih j (by omega)
theorem sum_getD (M : List Int) : ((List.range M.length).map fun i=>M.getD i 0).sum = M.sum:=by
 congr 1
 refine List.ext_getElem (by simp) fun i h1 h2=>?_
 simp [List.getD,List.getElem?_eq_getElem h2]
theorem truth_ok {l : List Bd} {den : Int} {bs : List Int} (hb : ∀ n ∈ bs,0 ≤ n ∧ n ≤ 255) (h : loS l ≤ den) (h1 : ∀ c ∈ l,c.lo ≤ c.hi) (hh : den ≤ hiS l) :
 TruthN den l (fun i=>(truthL l den bs).getD i 0) ∧ (truthL l den bs).length = l.length:=by
 have hT:=TI.at hb h h1 2
 have hT1:=TI.at hb h h1 1
 have hf:=pass_full hb hT1 l.length (Nat.le_refl _)
 have e : (passT l bs 1 (atT l den bs 1) l.length).2 = 0:=by
  rcases hf with hf | hf
  · exact hf
  · have hs:=hT.sum
    have hl:=hT.left
    have h2 : (atT l den bs 2).1.sum = hiS l:=by
     rw [← sum_getD,hT.len,hiS,← sum_bAt l (·.hi)]
     congr 1
     exact List.map_congr_left fun i hi=>hf i (List.mem_range.1 hi)
    have e2 : (passT l bs 1 (atT l den bs 1) l.length) = atT l den bs 2:=rfl
    rw [e2]; omega
 refine ⟨⟨hT.each,?_⟩,hT.len⟩
 have hs:=hT.sum
 have e2 : (passT l bs 1 (atT l den bs 1) l.length) = atT l den bs 2:=rfl
 rw [e2] at e
 show ((List.range l.length).map fun i=>(atT l den bs 2).1.getD i 0).sum = den
 rw [← hT.len,sum_getD]; omega
theorem sum_nonneg : ∀ {M : List Int},(∀ v ∈ M,0 ≤ v) → 0 ≤ M.sum
 | [],_=>by simp
 | x :: M, h => by
   have:=sum_nonneg (M:=M) fun v hv=>h v (by simp [hv])
   have:=h x (by simp)
   simp only [List.sum_cons]; omega
theorem TI.le {l : List Bd} {den : Int} {x : List Int × Int} (h : TI l den x) (h0 : ∀ c ∈ l,0 ≤ c.lo) : x.2 ≤ den:=by
 have hs:=h.sum
 have hl:=h.len
 have : 0 ≤ x.1.sum:=sum_nonneg fun v hv=>by
  obtain ⟨i,hi⟩:=List.getElem?_of_mem hv
  have hil:=(List.getElem?_eq_some_iff.1 hi).1
  have:=(h.each i (by omega)).1
  rw [List.getD_eq_getElem?_getD,hi] at this
  have:=h0 _ (bAt_mem (show i < l.length by omega))
  simp only [Option.getD_some] at *
  omega
 omega
theorem truthL_ok (a : Am) (den : Int) (bs : List Int) (hb : ∀ n ∈ bs,0 ≤ n ∧ n ≤ 255) (h : loS a.beds ≤ den) (hd : den ≤ 3000) (hl : a.beds.length ≤ 19) (h1 : ∀ c ∈ a.beds,0 ≤ c.lo ∧ c.lo ≤ c.hi ∧ c.hi ≤ 3000) :
 ACalls Try.prog 33 [.ag (aimR a),i64 den,u8L bs] (ints (truthL a.beds den bs)):=by
 have hT:=TI.at (bs:=bs) hb h (fun c hc=>(h1 c hc).2.1)
 obtain ⟨L,hL⟩ : ∃ L,L = a.beds:=⟨_,rfl⟩
 rw [← hL] at h hl h1 hT
 have hlo : ∀ i,i ≤ L.length → (0 ≤ loS (L.take i) ∧ loS (L.take i) ≤ den):=fun i hi=>by
  have hnn : ∀ M : List Bd,(∀ c ∈ M,0 ≤ c.lo) → 0 ≤ loS M:=loS_nonneg
  have h2:=hnn (L.take i) fun c hc=>(h1 c (List.mem_of_mem_take hc)).1
  have h3:=hnn (L.drop i) fun c hc=>(h1 c (List.mem_of_mem_drop hc)).1
  have h4 : loS L = loS (L.take i) + loS (L.drop i):=by
   have:=congrArg loS (List.take_append_drop i L).symm
   rw [this]
   simp only [loS,List.map_append,List.sum_append]
  omega
 refine acalls_st (rs:=[ints (truthL a.beds den bs)]) [.tmp 6] Try.func33 rfl (by kernel_rfl) Try.ntmps33 rfl (by simp) rfl fun C vs=>?_
 repeat refine zq ?_
 refine zb (by kernel_rfl) fun K hK=>?_
 simp only [go_sem]
 (try simp (disch:=omega) only [zI])
 repeat first | intro _ | refine ⟨by omega,?_⟩ | refine ⟨⟨by omega,by omega⟩,?_⟩
 refine hK _ ?_
 clear hK K
 refine zw (sub_frzP 3 3 (aimR a) (by omega) rfl rfl) ?_
 simp only [go_sem,aimR]
 refine zw (zk [1,2,3]) ?_
 simp only [go_sem]
 repeat refine zq ?_
 refine zb (by kernel_rfl) fun K hK=>?_
 simp only [go_sem]
 (try simp (disch:=omega) only [zI])
 repeat first | intro _ | refine ⟨by omega,?_⟩ | refine ⟨⟨by omega,by omega⟩,?_⟩
 refine hK _ ?_
 clear hK K
 refine zw (zk [2,3,7,8]) ?_
 simp only [go_sem]
 refine zw (sub_own 7 31 3 1 (by omega) rfl) ?_
 try simp only [go_sem]
 repeat refine zq ?_
 refine zb (by kernel_rfl) fun K hK=>?_
 simp only [go_sem]
 (try simp (disch:=omega) only [zI])
 repeat first | intro _ | refine ⟨by omega,?_⟩ | refine ⟨⟨by omega,by omega⟩,?_⟩
 refine hK _ ?_
 clear hK K
 refine zw (zk [2,3,7,8,9]) ?_
 simp only [go_sem]
 rw [← hL]
 repeat refine zq ?_
 refine zd ?_
 refine awp_uptoV (n:=96) L.length (fun i vs=>[(2,.r (u8L bs)),(3,.r (.rp [i64 a.at_,bedsR L])),(7,.os 31 (vs 31) 1 0 i),(8,.r (i64 (den - loS (L.take i)))),(9,.r (i64 (i : Int)))])
  (fun i vs=>[(31,.arr 3 1 (((L.map (·.lo)).take i).map fun x=>[i64 x]))]) (fun _=>True) 0 (zj [] ?_ ?_) (Nat.zero_le _) trivial ?_
 · try simp only [go_sem]
   simp [loS]
 · try simp only [go_sem]
 · intro i vs hi _
   repeat refine zq ?_
   refine zb (by kernel_rfl) fun K hK=>?_
   simp only [go_sem]
   (try simp (disch:=omega) only [zI])
   repeat first | intro _ | refine ⟨by omega,?_⟩ | refine ⟨⟨by omega,by omega⟩,?_⟩
   refine hK _ ?_
   clear hK K
   refine zw (zk [2,3,7,8,9,19]) ?_
   simp only [go_sem]
   repeat refine zq ?_
   refine zc rfl (fun hc=>?_) (fun hc=>?_) <;> (try simp only [go_sem] at hc)
   · have hci : i < L.length:=by omega
     obtain ⟨c,hc1⟩:=opt_of_lt hci
     obtain ⟨g0,g1,g2⟩:=h1 c (mem_of_opt hc1)
     have hs0:=hlo i (by omega)
     have hs1:=hlo (i + 1) (by omega)
     have hlS : loS (L.take (i + 1)) = loS (L.take i) + c.lo:=by rw [take_of_opt hc1,loS_snoc]
     have hli : ((L.map (·.lo)).take i).length = i:=by rw [List.length_take]; simp; omega
     have hMt : (L.map (·.lo)).take (i + 1) = (L.map (·.lo)).take i ++ [c.lo]:=take_of_opt (by simp [hc1])
     refine zx ?_
     try simp only [go_sem]
     repeat refine zq ?_
     refine zd ?_
     repeat refine zq ?_
     refine awp_dreg2 [(7,some 31),(3,none),(8,none),(9,none)] follows (by decide +kernel) (by kernel_rfl) (by simp only [keysOk,List.mem_cons,List.not_mem_nil,forall_eq_or_imp,Oc.keyOf,go_sem]; simp) fun K hK=>?_
     simp only [go_sem,hc1,hci,bedR,hli]
     (try simp (disch:=omega) only [zI])
     repeat first | intro _ | refine ⟨by omega,?_⟩ | refine ⟨⟨by omega,by omega⟩,?_⟩
     refine hK _ ?_
     clear hK K
     refine zw (zk [2,3,7,8,9]) ?_
     simp only [go_sem]
     repeat refine zq ?_
     refine zb (by kernel_rfl) fun K hK=>?_
     simp only [go_sem]
     (try simp (disch:=omega) only [zI])
     repeat first | intro _ | refine ⟨by omega,?_⟩ | refine ⟨⟨by omega,by omega⟩,?_⟩
     refine hK _ ?_
     clear hK K
     try simp only [go_sem]
     refine ⟨by omega,zj [] ?_ ?_⟩
     · try simp only [go_sem]
       rw [hlS]
       omega
     · try simp only [go_sem]
       rw [hMt]
       simp
   · have hil : i = L.length:=by omega
     subst hil
     rw [List.take_length,List.take_of_length_le (by simp)]
     refine zf ?_
     simp only [go_sem]
     refine zw (zk [2,3,7,8]) ?_
     simp only [go_sem]
     repeat refine zq ?_
     refine zb (by kernel_rfl) fun K hK=>?_
     simp only [go_sem]
     (try simp (disch:=omega) only [zI])
     repeat first | intro _ | refine ⟨by omega,?_⟩ | refine ⟨⟨by omega,by omega⟩,?_⟩
     refine hK _ ?_
     clear hK K
     refine zw (zk [2,3,7,8,10]) ?_
     simp only [go_sem]
     repeat refine zq ?_
     refine zd ?_
     refine awp_uptoV (n:=96) 2 (fun k vs=>[(2,.r (u8L bs)),(3,.r (.rp [i64 a.at_,bedsR L])),(7,.os 31 (vs 31) 1 0 L.length),(8,.r (i64 (atT L den bs k).2)),(10,.r (i64 (k : Int)))])
      (fun k vs=>[(31,.arr 3 1 ((atT L den bs k).1.map fun x=>[i64 x]))]) (fun _=>True) 0 (zj [] ?_ ?_) (Nat.zero_le _) trivial ?_
     · try simp only [go_sem]
       rfl
     · try simp only [go_sem]
       rfl
     · intro k vs hk _
       repeat refine zq ?_
       refine zb (by kernel_rfl) fun K hK=>?_
       simp only [go_sem]
       (try simp (disch:=omega) only [zI])
       repeat first | intro _ | refine ⟨by omega,?_⟩ | refine ⟨⟨by omega,by omega⟩,?_⟩
       refine hK _ ?_
       clear hK K
       refine zw (zk [2,3,7,8,10,42]) ?_
       simp only [go_sem]
       repeat refine zq ?_
       refine zc rfl (fun hc=>?_) (fun hc=>?_) <;> (try simp only [go_sem] at hc)
       · have hck : k < 2:=by omega
         have hTk:=hT k
         refine zx ?_
         try simp only [go_sem]
         repeat refine zq ?_
         refine zd ?_
         repeat refine zq ?_
         refine zb (by kernel_rfl) fun K hK=>?_
         simp only [go_sem]
         (try simp (disch:=omega) only [zI])
         repeat first | intro _ | refine ⟨by omega,?_⟩ | refine ⟨⟨by omega,by omega⟩,?_⟩
         refine hK _ ?_
         clear hK K
         refine zw (zk [2,3,7,8,10,11]) ?_
         simp only [go_sem]
         repeat refine zq ?_
         refine zd ?_
         refine awp_uptoV (n:=96) L.length (fun i vs=>[(2,.r (u8L bs)),(3,.r (.rp [i64 a.at_,bedsR L])),(7,.os 31 (vs 31) 1 0 L.length),(8,.r (i64 (passT L bs k (atT L den bs k) i).2)),(10,.r (i64 (k : Int))),(11,.r (i64 (i : Int)))])
          (fun i vs=>[(31,.arr 3 1 ((passT L bs k (atT L den bs k) i).1.map fun x=>[i64 x]))]) (fun _=>True) 0 (zj [] ?_ ?_) (Nat.zero_le _) trivial ?_
         · try simp only [go_sem]
           rfl
         · try simp only [go_sem]
           rfl
         · intro i vs hi _
           have hTi:=TI.pass (bs:=bs) hb hTk k i (by omega)
           have hms:=fun (hi : i < L.length)=>more_le (bs:=bs) hb hTi k hi
           have hpl:=hTi.len
           have hp0:=hTi.left
           have hpe:=hTi.each i
           have hsx : ∀ hi : i < L.length,passT L bs k (atT L den bs k) (i + 1) = ((passT L bs k (atT L den bs k) i).1.set i ((passT L bs k (atT L den bs k) i).1.getD i 0 + moreT L bs k i (passT L bs k (atT L den bs k) i)),(passT L bs k (atT L den bs k) i).2 - moreT L bs k i (passT L bs k (atT L den bs k) i)):=fun _=>rfl
           obtain ⟨x,hx⟩ : ∃ x,x = passT L bs k (atT L den bs k) i:=⟨_,rfl⟩
           rw [← hx] at hms hpl hp0 hpe hsx ⊢
           repeat refine zq ?_
           refine zb (by kernel_rfl) fun K hK=>?_
           simp only [go_sem]
           (try simp (disch:=omega) only [zI])
           repeat first | intro _ | refine ⟨by omega,?_⟩ | refine ⟨⟨by omega,by omega⟩,?_⟩
           refine hK _ ?_
           clear hK K
           refine zw (zk [2,3,7,8,10,11,48]) ?_
           simp only [go_sem]
           repeat refine zq ?_
           refine zc rfl (fun hc=>?_) (fun hc=>?_) <;> (try simp only [go_sem] at hc)
           · have hci : i < L.length:=by omega
             obtain ⟨c,hc1⟩:=opt_of_lt hci
             obtain ⟨g0,g1,g2⟩:=h1 c (mem_of_opt hc1)
             have hbc : bAt L i = c:=by simp [bAt,List.getD,hc1]
             have hxi : x.1[i]? = some (x.1.getD i 0):=by rw [List.getD_eq_getElem?_getD,List.getElem?_eq_getElem (by omega)]; rfl
             obtain ⟨m,hm⟩ : ∃ m,m = moreT L bs k i x:=⟨_,rfl⟩
             have hmo:=hms hci
             have hpi:=hpe hci
             rw [hbc] at hmo hpi
             have hsx':=hsx hci
             rw [← hm] at hmo hsx'
             obtain ⟨y,hy⟩ : ∃ y,y = x.1.getD i 0:=⟨_,rfl⟩
             rw [← hy] at hxi hmo hpi hsx'
             have hdw : IntKind.i64.wrap (c.hi - y) = c.hi - y:=by rw [zI] <;> omega
             have hmd : m = if k = 0 ∧ 0 < bs.length then min x.2 (c.hi - y) * bs.getD (i % bs.length) 0 / 255 else min x.2 (c.hi - y):=by rw [hm,hy]; unfold moreT; rw [hbc]
             have hsum : 0 ≤ x.2 ∧ x.2 ≤ 3000:=by
              have:=hTi.le fun c hc=>(h1 c hc).1
              rw [← hx] at this
              omega
             refine zx ?_
             try simp only [go_sem]
             repeat refine zq ?_
             refine zd ?_
             repeat refine zq ?_
             refine awp_dreg2 [(7,some 31),(3,none),(8,none),(11,none)] follows (by decide +kernel) (by kernel_rfl) (by simp only [keysOk,List.mem_cons,List.not_mem_nil,forall_eq_or_imp,Oc.keyOf,go_sem]; simp) fun K hK=>?_
             simp only [go_sem,hc1,hci,bedR,hxi,hdw,hpl]
             (try simp (disch:=omega) only [zI])
             repeat first | intro _ | refine ⟨by omega,?_⟩ | refine ⟨⟨by omega,by omega⟩,?_⟩
             refine hK _ ?_
             clear hK K
             refine zw (zk [2,3,7,8,10,11,12]) ?_
             simp only [go_sem]
             repeat refine zq ?_
             refine awp_joinV (n:=96) (fun (_ : Unit) vs=>[(2,.r (u8L bs)),(3,.r (.rp [i64 a.at_,bedsR L])),(7,.os 31 (vs 31) 1 0 L.length),(8,.r (i64 x.2)),(10,.r (i64 (k : Int))),(11,.r (i64 (i : Int))),(12,.r (i64 (min x.2 (c.hi - y)))),(71,.r (.bo (decide (k = 0 ∧ 0 < bs.length))))]) (fun _ vs=>[(31,.arr 3 1 (x.1.map fun x=>[i64 x]))]) (fun _=>True) (fun _ h=>h) ?_ ?_
             · by_cases k0 : k = 0
               · have d1 : ((k : Int) == 0) = true:=by simp [k0]
                 repeat refine zq ?_
                 refine zb (by kernel_rfl) fun K hK=>?_
                 simp only [go_sem,d1]
                 (try simp (disch:=omega) only [zI])
                 repeat first | intro _ | refine ⟨by omega,?_⟩ | refine ⟨⟨by omega,by omega⟩,?_⟩
                 refine hK _ ?_
                 clear hK K
                 refine ⟨(),trivial,zj [] ?_ ?_⟩
                 · try simp only [go_sem]
                   simp [k0]
                 · try simp only [go_sem]
               · have d1 : ((k : Int) == 0) = false:=by simp [k0]
                 repeat refine zq ?_
                 refine zb (by kernel_rfl) fun K hK=>?_
                 simp only [go_sem,d1]
                 (try simp (disch:=omega) only [zI])
                 repeat first | intro _ | refine ⟨by omega,?_⟩ | refine ⟨⟨by omega,by omega⟩,?_⟩
                 refine hK _ ?_
                 clear hK K
                 refine ⟨(),trivial,zj [] ?_ ?_⟩
                 · try simp only [go_sem]
                   simp [k0]
                 · try simp only [go_sem]
             intro _ vs _
             repeat refine zq ?_
             refine awp_joinV (n:=96) (fun (_ : Unit) vs=>[(2,.r (u8L bs)),(3,.r (.rp [i64 a.at_,bedsR L])),(7,.os 31 (vs 31) 1 0 L.length),(8,.r (i64 x.2)),(10,.r (i64 (k : Int))),(11,.r (i64 (i : Int))),(12,.r (i64 m))]) (fun _ vs=>[(31,.arr 3 1 (x.1.map fun x=>[i64 x]))]) (fun _=>True) (fun _ h=>h) ?_ ?_
             · repeat refine zq ?_
               refine zc rfl (fun hc=>?_) (fun hc=>?_) <;> (try simp only [go_sem] at hc)
               · have hck0 : k = 0 ∧ 0 < bs.length:=by simpa using hc
                 rw [if_pos hck0] at hmd
                 have hlt : i % bs.length < bs.length:=Nat.mod_lt _ hck0.2
                 obtain ⟨q,hq⟩:=opt_of_lt hlt
                 have hqq:=hb q (mem_of_opt hq)
                 have hqd : bs.getD (i % bs.length) 0 = q:=by simp [List.getD_eq_getElem?_getD,hq]
                 rw [hqd] at hmd
                 have hmod : (i : Int).tmod (bs.length : Int) = ((i % bs.length : Nat) : Int):=by
                  rw [Int.tmod_eq_emod_of_nonneg (by omega)]; rfl
                 obtain ⟨mm,hmm⟩ : ∃ mm,mm = min x.2 (c.hi - y):=⟨_,rfl⟩
                 rw [← hmm] at hmd ⊢
                 have hm0 : 0 ≤ mm ∧ mm ≤ 3000:=by omega
                 have p0:=Int.mul_nonneg hm0.1 hqq.1
                 have p1 : mm * q ≤ 3000 * 255:=Int.mul_le_mul hm0.2 hqq.2 hqq.1 (by omega)
                 have hpw : IntKind.i64.wrap (mm * q) = mm * q:=by rw [zI] <;> omega
                 have hdv : (mm * q).tdiv 255 = mm * q / 255:=Int.tdiv_eq_ediv_of_nonneg p0
                 repeat refine zq ?_
                 refine zb (by kernel_rfl) fun K hK=>?_
                 simp only [go_sem,hmod,hq,hlt,hpw,hdv]
                 (try simp (disch:=omega) only [zI])
                 repeat first | intro _ | refine ⟨by omega,?_⟩ | refine ⟨⟨by omega,by omega⟩,?_⟩
                 refine hK _ ?_
                 clear hK K
                 refine ⟨(),trivial,zj [] ?_ ?_⟩
                 · try simp only [go_sem]
                   rw [hmd,hdv]
                 · try simp only [go_sem]
               · have hck0 : ¬ (k = 0 ∧ 0 < bs.length):=by simpa using hc
                 rw [if_neg hck0] at hmd
                 rw [← hmd]
                 refine zx ?_
                 try simp only [go_sem]
                 refine ⟨(),zj [] ?_ ?_⟩
                 · try simp only [go_sem]
                 · try simp only [go_sem]
             intro _ vs _
             repeat refine zq ?_
             refine zb (by kernel_rfl) fun K hK=>?_
             simp only [go_sem,hxi,hpl,hci]
             (try simp (disch:=omega) only [zI])
             repeat first | intro _ | refine ⟨by omega,?_⟩ | refine ⟨⟨by omega,by omega⟩,?_⟩
             refine hK _ ?_
             clear hK K
             refine zw (zk [2,3,7,8,10,11]) ?_
             simp only [go_sem]
             repeat refine zq ?_
             refine zb (by kernel_rfl) fun K hK=>?_
             simp only [go_sem]
             (try simp (disch:=omega) only [zI])
             repeat first | intro _ | refine ⟨by omega,?_⟩ | refine ⟨⟨by omega,by omega⟩,?_⟩
             refine hK _ ?_
             clear hK K
             try simp only [go_sem]
             refine ⟨by omega,zj [] ?_ ?_⟩
             · try simp only [go_sem]
               rw [hsx']
             · try simp only [go_sem]
               rw [hsx',List.map_set]
           · have hil : i = L.length:=by omega
             refine zf ?_
             simp only [go_sem]
             repeat refine zq ?_
             refine zb (by kernel_rfl) fun K hK=>?_
             simp only [go_sem]
             (try simp (disch:=omega) only [zI])
             repeat first | intro _ | refine ⟨by omega,?_⟩ | refine ⟨⟨by omega,by omega⟩,?_⟩
             refine hK _ ?_
             clear hK K
             try simp only [go_sem]
             refine ⟨by omega,zj [] ?_ ?_⟩
             · try simp only [go_sem]
               rw [hx,hil]; rfl
             · try simp only [go_sem]
               rw [hx,hil]; rfl
       · have hke : k = 2:=by omega
         subst hke
         have hTk:=hT 2
         have hlk:=hTk.len
         refine zf ?_
         simp only [go_sem]
         refine zw (sub_frz 7 31 (ty:=3) (sz:=1) (off:=0) (m:=L.length) (es:=(atT L den bs 2).1.map fun x=>[i64 x]) (by omega) rfl (by rfl) (by simp [hlk])) ?_
         have e0 : (((atT L den bs 2).1.map fun x=>[i64 x]).drop 0).take L.length = (truthL L den bs).map fun x=>[i64 x]:=by
          rw [List.drop_zero,List.take_of_length_le (by simp [hlk])]; rfl
         rw [e0]
         refine zw (zk [7]) ?_
         simp only [go_sem]
         repeat refine zq ?_
         refine zb (by kernel_rfl) fun K hK=>?_
         simp only [go_sem]
         (try simp (disch:=omega) only [zI])
         repeat first | intro _ | refine ⟨by omega,?_⟩ | refine ⟨⟨by omega,by omega⟩,?_⟩
         refine hK _ ?_
         clear hK K
         refine zw (zk [6]) ?_
         simp only [go_sem]
         refine ze ?_
         simp only [go_sem]
end Go.Proofs.Ytlbfkhikmigpbaa

namespace Go.Proofs.Ytlbfkhikmigpbaa
open Go Go.Oc
set_option linter.unusedSimpArgs false
set_option linter.unusedVariables false
set_option maxRecDepth 8000
theorem lscore_ok (b : Int) (b0 : 0 ≤ b) (b1 : b ≤ 499) : ACalls Try.prog 61 [i64 b] (i64 (scoreOf b)):=by
 have hm:=score_mul b0 b1
 have hq:=tdiv100 (b:=b) ⟨by omega,by omega⟩
 refine acalls_st (rs:=[i64 (scoreOf b)]) [.tmp 2] Try.func61 rfl (by kernel_rfl) Try.ntmps61 rfl (by simp) rfl fun C vs=>?_
 repeat refine zq ?_
 refine zb (by kernel_rfl) fun K hK=>?_
 simp only [go_sem]
 (try simp (disch:=omega) only [zI])
 repeat first | intro _ | refine ⟨by omega,?_⟩ | refine ⟨⟨by omega,by omega⟩,?_⟩
 refine hK _ ?_
 clear hK K
 refine zw (zk [0]) ?_
 simp only [go_sem]
 repeat refine zq ?_
 refine zb (by kernel_rfl) fun K hK=>?_
 simp only [go_sem,hm,hq]
 (try simp (disch:=omega) only [zI])
 repeat first | intro _ | refine ⟨by omega,?_⟩ | refine ⟨⟨by omega,by omega⟩,?_⟩
 refine hK _ ?_
 clear hK K
 refine zw (zk [2]) ?_
 simp only [go_sem]
 refine ze ?_
 simp only [go_sem]
theorem lopens_ok (out b : Int) (b0 : 0 ≤ b) (b1 : b ≤ 499) (ho : out = 0 ∨ out = 1 ∨ out = 2) : ACalls Try.prog 62 [i64 out,i64 b] (.bo (decide (b ≠ 0) && opensD out b)):=by
 have hq:=tdiv100 (b:=b) ⟨by omega,by omega⟩
 have hd : b.tdiv 100 = b / 100:=Int.tdiv_eq_ediv_of_nonneg b0
 refine acalls_st (rs:=[.bo (decide (b ≠ 0) && opensD out b)]) [.tmp 4] Try.func62 rfl (by kernel_rfl) Try.ntmps62 rfl (by simp) rfl fun C vs=>?_
 repeat refine zq ?_
 refine zb (by kernel_rfl) fun K hK=>?_
 simp only [go_sem]
 (try simp (disch:=omega) only [zI])
 repeat first | intro _ | refine ⟨by omega,?_⟩ | refine ⟨⟨by omega,by omega⟩,?_⟩
 refine hK _ ?_
 clear hK K
 refine zw (zk [0,1]) ?_
 simp only [go_sem]
 unfold opensD
 by_cases hb : b = 0
 · subst hb
   have d1 : ((0 : Int) != 0) = false:=rfl
   repeat refine zq ?_
   refine zb (by kernel_rfl) fun K hK=>?_
   simp only [go_sem,d1]
   (try simp (disch:=omega) only [zI])
   repeat' first | intro _ | refine And.intro ?_ ?_
   all_goals first | omega | skip
   all_goals (refine hK _ ?_; clear hK K)
   all_goals (refine ze ?_; simp only [go_sem])
   all_goals simp_all
 · have d1 : (b != 0) = true:=by simpa using hb
   rcases ho with rfl | rfl | rfl
   · repeat refine zq ?_
     refine zb (by kernel_rfl) fun K hK=>?_
     simp only [go_sem,d1,hq]
     (try simp (disch:=omega) only [zI])
     repeat' first | intro _ | refine And.intro ?_ ?_
     all_goals first | omega | skip
     all_goals (refine hK _ ?_; clear hK K)
     all_goals (refine ze ?_; simp only [go_sem])
     all_goals simp [hb]
   · repeat refine zq ?_
     refine zb (by kernel_rfl) fun K hK=>?_
     simp only [go_sem,d1,hq,hd]
     (try simp (disch:=omega) only [zI])
     repeat' first | intro _ | refine And.intro ?_ ?_
     all_goals first | omega | skip
     all_goals (refine hK _ ?_; clear hK K)
     all_goals (refine ze ?_; simp only [go_sem])
     all_goals simp_all
   · repeat refine zq ?_
     refine zb (by kernel_rfl) fun K hK=>?_
     simp only [go_sem,d1,hq,hd]
     (try simp (disch:=omega) only [zI])
     repeat' first | intro _ | refine And.intro ?_ ?_
     all_goals first | omega | skip
     all_goals (refine hK _ ?_; clear hK K)
     all_goals (refine ze ?_; simp only [go_sem])
     all_goals (simp_all; try omega)
end Go.Proofs.Ytlbfkhikmigpbaa

namespace Go.Proofs.Ytlbfkhikmigpbaa
open Go Go.Oc
set_option linter.unusedSimpArgs false
set_option linter.unusedVariables false
set_option maxRecDepth 8000
theorem awp_join0 {P : Program} {C : Ctx} {Q : Exit → AS → Prop} {s : AS} {n : Nat} {c d : Code} {Q1 : Exit → AS → Prop} {α : Type} (F : α → (Nat → Nat) → List (Nat × AV)) (R : α → List (Nat × RowC)) (I : α → Prop)
 (h0 : ∀ s,awp P C d Q1 s → Q .normal s) (h1 : awp P C c (andThen (fun s'=>∃ z,I z ∧ Fit0 n (F z) (R z) s') Q) s) (h2 : ∀ z vs,Lent vs → I z → awp P C d Q1 (st n (F z vs) vs (R z))) : awp P C c Q s:=by
 refine awp_mono ?_ h1
 intro e s' hq
 cases e with
 | normal =>
   obtain ⟨z,hz,vs,hv,hf⟩:=hq
   exact h0 s' (zw hf (h2 z vs hv hz))
 | _=>exact hq
abbrev posN4 (k st left d : Nat) : RV:=.ag [i64 (k : Int),i64 (st : Int),i64 (left : Int),i64 (d : Int)]
abbrev pairR (p : Pv) : RV:=.ag [i64 p.1,i64 p.2]
def cvA (c : Cu) (k st left d : Nat) : Pv:=cvP c (c.r.ends.length - 1 - k) k st d left
def memoC (c : Cu) (m : List (RV × RV)) : Prop:=∀ e ∈ m,∃ k st left d : Nat,e = (posN4 k st left d,pairR (cvA c k st left d))
theorem memoC_find {c : Cu} {k st left d : Nat} : ∀ {m : List (RV × RV)} {i : Nat},memoC c m →
 findK (posN4 k st left d) m i = some none ∨ ∃ j,findK (posN4 k st left d) m i = some (some (j,pairR (cvA c k st left d)))
 | [],i,_=>.inl rfl
 | e :: m, i, h => by
   obtain ⟨k',st',left',d',rfl⟩:=h e (by simp)
   have ih:=memoC_find (k:=k) (st:=st) (left:=left) (d:=d) (m:=m) (i:=i + 1) fun x hx=>h x (by simp [hx])
   by_cases he : k = k' ∧ st = st' ∧ left = left' ∧ d = d'
   · obtain ⟨rfl,rfl,rfl,rfl⟩:=he
     exact .inr ⟨i,by simp [findK,posN4,sameK,cmpL,i64]⟩
   · have hf : sameK (posN4 k st left d) (posN4 k' st' left' d') = some false:=by
      simp only [posN4,sameK,cmpL,i64,if_true,Option.some.injEq,Bool.and_true,Bool.and_eq_false_iff,beq_eq_false_iff_ne]
      omega
     simp only [findK,hf]
     exact ih
theorem memoC_set {c : Cu} {k st left d : Nat} {m : List (RV × RV)} (h : memoC c m) (i : Nat) : memoC c (m.set i (posN4 k st left d,pairR (cvA c k st left d))):=fun e he=>by
 rcases List.mem_or_eq_of_mem_set he with he | rfl
 · exact h e he
 · exact ⟨k,st,left,d,rfl⟩
theorem memoC_app {c : Cu} {k st left d : Nat} {m : List (RV × RV)} (h : memoC c m) : memoC c (m ++ [(posN4 k st left d,pairR (cvA c k st left d))]):=fun e he=>by
 rcases List.mem_append.1 he with he | he
 · exact h e he
 · rw [List.mem_singleton] at he; exact ⟨k,st,left,d,he⟩
abbrev couB (c : Cu) (m v : Nat) : List AV:=[.r (i64 c.r.d),.r (aimsR c.r.aims),.r (i64 c.r.start),.r (i64 c.r.out),.r (spansR c.r.ends),.r (tabR c.xs),.r (ints c.es),.r (u8L c.bs),.r (.bo c.wise),.r (.bo false),.mp m v]
abbrev couL (c : Cu) : List (Nat × RowC):=[(1000,.box (couB c 1001 0)),(1001,.mem (memoC c))]
structure CuW (c : Cu) : Prop where
 g : CuG c
 wf : WfR c.r
 e : ruE c.r = 0
 xl : c.xs.length = c.r.aims.length
 xa : ∀ a,a < c.r.aims.length → (c.xs.getD a []).length = (bedsC c a).length
 el : c.es.length = c.r.ends.length
 bs : ∀ n ∈ c.bs,0 ≤ n ∧ n ≤ 255
structure PosC (c : Cu) (k st left d : Nat) : Prop where
 k : k < c.r.ends.length
 s0 : lowestR c.r ≤ st
 s1 : (st : Int) ≤ c.r.start
 l0 : lowestR c.r ≤ left
 l1 : left ≤ st
 d2 : d ≤ 2
 full : d = 2 → left = st
theorem CuW.beds {c : Cu} (h : CuW c) {a : Nat} (ha : a < c.r.aims.length) : (bedsC c a).length ≤ 19 ∧ ∀ x ∈ bedsC c a,(0 ≤ x.b ∧ x.b ≤ 499) ∧ 0 ≤ x.lo ∧ x.lo ≤ x.hi ∧ x.hi ≤ 3000:=by
 obtain ⟨_,q2⟩:=bedsC_mem (c:=c) ha
 obtain ⟨h1,_,h3⟩:=h.g.g.aims.beds _ q2
 exact ⟨h1,h3⟩
theorem sumC_le {x : List Int} {l : List Bd} {f : Int → Pv} (hx : ∀ i,i < l.length → 0 ≤ x.getD i 0 ∧ x.getD i 0 ≤ 3000) (hf : ∀ c ∈ l,(0 ≤ (f c.b).1 ∧ (f c.b).1 ≤ 1000000) ∧ 0 ≤ (f c.b).2 ∧ (f c.b).2 ≤ 1000000) :
 ∀ i,i ≤ l.length → (0 ≤ (sumC x l f i).1 ∧ (sumC x l f i).1 ≤ 3000000000 * i) ∧ 0 ≤ (sumC x l f i).2 ∧ (sumC x l f i).2 ≤ 3000000000 * i
 | 0,_=>by simp [sumC]
 | i + 1, hi => by
   obtain ⟨⟨a0,a1⟩,b0,b1⟩:=sumC_le hx hf i (by omega)
   obtain ⟨x0,x1⟩:=hx i (by omega)
   obtain ⟨⟨f0,f1⟩,g0,g1⟩:=hf _ (bAt_mem (show i < l.length by omega))
   have m1:=Int.mul_nonneg x0 f0
   have m2:=Int.mul_le_mul x1 f1 f0 (by omega)
   have m3:=Int.mul_nonneg x0 g0
   have m4:=Int.mul_le_mul x1 g1 g0 (by omega)
   simp only [sumC]
   omega
end Go.Proofs.Ytlbfkhikmigpbaa

/- Part 9 of the texts of this claim. -/
import Derived.Test.YtlbfkhikmigpbaaV58
import Derived.Test.YtlbfkhikmigpbaaV57
namespace Go.Proofs.Ytlbfkhikmigpbaa
open Go Go.Oc
set_option linter.unusedSimpArgs false
set_option linter.unusedVariables false
set_option maxRecDepth 8000
set_option maxHeartbeats 1000000
section
variable {P : Program} {C : Ctx} {s : AS} {Q : Exit → AS → Prop} {ops : Array Oper}
theorem sops_sx {l : List Oper} {t : TypeId} {n : Nat} {ps : List (Nat × Operand)} {d : Nat} {ty : TypeId} {pos : String} {af : Array Edge} (sz : Nat) (es : List (List RV)) (hdn : d < s.n) (hne : es ≠ [])
 (hp : (sBuildSlice P s t n (evp s ps)).pre) (hy : (sBuildSlice P s t n (evp s ps)).y = ⟨.r (.sl sz es),[]⟩)
 (h : sops P C ops l Q (s.put (some d) (.r (.sx sz es)))) : sops P C ops (⟨some d,.buildSlice t n ps.toArray,ty,pos,af,none⟩ :: l) Q s:=fun a w ⟨p,hs⟩=>by
 rw [← evp_eq] at hp hy
 unfold wpListIn
 rw [if_pos (wantA_sound hs (by simp [wantA]))]
 refine wpIn_of_wp (by intro c h; cases h) ?_
 have hAY : AY P ⟨some d,.buildSlice t n ps.toArray,ty,pos,af,none⟩ s ⟨.r (.sx sz es),[]⟩:=by
  unfold AY
  exact .inl ⟨hp,.inr ⟨rfl,sz,es,hne,hy,rfl⟩⟩
 refine AY_sound hs hAY (fun t ht=>by injection ht with ht; subst ht; exact hdn) fun a' w' p' hs'=>?_
 exact h a' w' ⟨p',hs'⟩
end
theorem half_ok (a b : Int) : ACalls Try.prog 36 [.sx 2 [[i64 a,i64 b]]] (ruV (halfR [(a,b)])):=by
 have h1:=one_ok 1
 have hm:=one_ok 1000000
 refine acalls_st (rs:=[ruV (halfR [(a,b)])]) [.cell 2 28] Try.func36 rfl (by kernel_rfl) Try.ntmps36 rfl (by simp) rfl fun C vs=>?_
 repeat refine zq ?_
 refine zb (by kernel_rfl) fun K hK=>?_
 simp only [go_sem]
 (try simp (disch:=omega) only [zI])
 repeat first | intro _ | refine ⟨by omega,?_⟩ | refine ⟨⟨by omega,by omega⟩,?_⟩
 refine hK _ ?_
 clear hK K
 refine zw (zk [0,2]) ?_
 simp only [go_sem]
 repeat refine zq ?_
 refine zb (by kernel_rfl) fun K hK=>?_
 simp only [go_sem]
 (try simp (disch:=omega) only [zI])
 refine zh (h1) rfl (by simp only [go_sem,i64,ints]) (by simp only [go_sem,i64,ints]) (by first | exact .inl rfl | exact .inr rfl) ?_
 (try simp only [go_sem])
 (try simp (disch:=omega) only [zI])
 refine zh (h1) rfl (by simp only [go_sem,i64,ints]) (by simp only [go_sem,i64,ints]) (by first | exact .inl rfl | exact .inr rfl) ?_
 (try simp only [go_sem])
 (try simp (disch:=omega) only [zI])
 refine zh (hm) rfl (by simp only [go_sem,i64,ints]) (by simp only [go_sem,i64,ints]) (by first | exact .inl rfl | exact .inr rfl) ?_
 (try simp only [go_sem])
 (try simp (disch:=omega) only [zI])
 repeat first | intro _ | refine ⟨by omega,?_⟩ | refine ⟨⟨by omega,by omega⟩,?_⟩
 refine hK _ ?_
 clear hK K
 refine zw (sub_frzB 2 4 14 (ty:=52) (sz:=2) (off:=0) (m:=2) (es:=[[i64 a,i64 b],[i64 1000000,i64 1000000]]) (by omega) (by omega) rfl (by simp only [go_sem,List.getElem?_cons_succ,List.getElem?_cons_zero]) (by rfl) (by simp)) ?_
 try simp only [go_sem]
 refine zw (zk [2]) ?_
 simp only [go_sem]
 refine ze ?_
 simp only [go_sem]
 exact ⟨rfl,rfl,rfl,rfl,rfl⟩
theorem half_nil : ACalls Try.prog 36 [.ns] (ruV (halfR [])):=by
 have h1:=one_ok 1
 have hm:=one_ok 1000000
 refine acalls_st (rs:=[ruV (halfR [])]) [.cell 2 28] Try.func36 rfl (by kernel_rfl) Try.ntmps36 rfl (by simp) rfl fun C vs=>?_
 repeat refine zq ?_
 refine zb (by kernel_rfl) fun K hK=>?_
 simp only [go_sem]
 (try simp (disch:=omega) only [zI])
 repeat first | intro _ | refine ⟨by omega,?_⟩ | refine ⟨⟨by omega,by omega⟩,?_⟩
 refine hK _ ?_
 clear hK K
 refine zw (zk [0,2]) ?_
 simp only [go_sem]
 repeat refine zq ?_
 refine zb (by kernel_rfl) fun K hK=>?_
 simp only [go_sem]
 (try simp (disch:=omega) only [zI])
 refine zh (h1) rfl (by simp only [go_sem,i64,ints]) (by simp only [go_sem,i64,ints]) (by first | exact .inl rfl | exact .inr rfl) ?_
 (try simp only [go_sem])
 (try simp (disch:=omega) only [zI])
 refine zh (h1) rfl (by simp only [go_sem,i64,ints]) (by simp only [go_sem,i64,ints]) (by first | exact .inl rfl | exact .inr rfl) ?_
 (try simp only [go_sem])
 (try simp (disch:=omega) only [zI])
 refine zh (hm) rfl (by simp only [go_sem,i64,ints]) (by simp only [go_sem,i64,ints]) (by first | exact .inl rfl | exact .inr rfl) ?_
 (try simp only [go_sem])
 (try simp (disch:=omega) only [zI])
 repeat first | intro _ | refine ⟨by omega,?_⟩ | refine ⟨⟨by omega,by omega⟩,?_⟩
 refine hK _ ?_
 clear hK K
 refine zw (sub_frzB 2 4 14 (ty:=52) (sz:=2) (off:=0) (m:=1) (es:=[[i64 1000000,i64 1000000]]) (by omega) (by omega) rfl (by simp only [go_sem,List.getElem?_cons_succ,List.getElem?_cons_zero]) (by rfl) (by simp)) ?_
 try simp only [go_sem]
 refine zw (zk [2]) ?_
 simp only [go_sem]
 refine ze ?_
 simp only [go_sem]
 exact ⟨rfl,rfl,rfl,rfl,rfl⟩
theorem half_wf (e : List Sp) : WfR (halfR e):=by
 refine ⟨⟨show (-9223372036854775808 : Int) ≤ 2 ∧ (2 : Int) ≤ 9223372036854775807 by decide,fun a ha=>?_⟩⟩
 simp only [halfR,List.mem_singleton] at ha
 subst ha
 refine ⟨by unfold I64; decide,fun c hc=>?_⟩
 simp only [List.mem_cons,List.not_mem_nil,or_false] at hc
 rcases hc with rfl | rfl <;> (unfold I64; decide)
theorem ex_table : ACalls Try.prog 16 [ruV (halfR [(0,500000)])] (.tu [tabR [[0,0,929687],[0,0,875000]],tabR [[0,0,984375],[0,0,875000]],i64 0]):=by
 have h:=table_ok (halfR [(0,500000)]) (half_wf _)
 have h0 : ruE (halfR [(0,500000)]) = 0:=by decide +kernel
 have h1 : tabF (halfR [(0,500000)]) false = [[0,0,929687],[0,0,875000]]:=by decide +kernel
 have h2 : tabF (halfR [(0,500000)]) true = [[0,0,984375],[0,0,875000]]:=by decide +kernel
 unfold tabsV at h
 rw [if_pos h0,if_pos h0,h0,h1,h2] at h
 exact h
theorem ex_toss : ACalls Try.prog 30 [ruV (halfR [(500000,500000)])] (.tu [.ag [i64 929687,i64 929688],.ag [i64 437500,i64 437500],i64 0]):=by
 have h:=toss_ok (halfR [(500000,500000)]) (half_wf _)
 have h0 : ruE (halfR [(500000,500000)]) = 0:=by decide +kernel
 have h1 : tossF (halfR [(500000,500000)]) false = 929687:=by decide +kernel
 have h2 : tossF (halfR [(500000,500000)]) true = 929688:=by decide +kernel
 have h3 : tossS (halfR [(500000,500000)]) false = 437500:=by decide +kernel
 have h4 : tossS (halfR [(500000,500000)]) true = 437500:=by decide +kernel
 unfold tossV at h
 rw [if_pos h0,if_pos h0,h0,h1,h2,h3,h4] at h
 exact h
theorem ex_odds : ∃ hi : Int,ACalls Try.prog 21 [ruV (halfR []),.ag [i64 0,i64 2,i64 2,i64 2]] (.tu [spansR [(750000,hi)],i64 0]):=by
 have h:=odds_ok (halfR []) (half_wf _) ⟨0,2,2,2⟩
 have h0 : oddsE (halfR []) ⟨0,2,2,2⟩ = 0:=by decide +kernel
 rcases odds_cases (halfR []) ⟨0,2,2,2⟩ with ⟨_,_,_,hR⟩ | ⟨hE,_⟩
 · rw [h0,hR] at h
   have h1 : oddsL (halfR []) ⟨0,2,2,2⟩ = [(750000,750000)]:=by decide +kernel
   rw [h1] at h
   exact ⟨_,h⟩
 · exact absurd h0 hE
theorem ex_aim : ACalls Try.prog 22 [ruV (halfR []),.ag [i64 0,i64 2,i64 2,i64 3]] (.tu [i64 0,i64 875000,i64 0]):=by
 have h:=aim_ok (halfR []) (half_wf _) ⟨0,2,2,3⟩
 have h0 : oddsE (halfR []) ⟨0,2,2,3⟩ = 0:=by decide +kernel
 have h1 : bestL (oddsL (halfR []) ⟨0,2,2,3⟩) = 0:=by decide +kernel
 have h2 : lowL (oddsL (halfR []) ⟨0,2,2,3⟩) = 875000:=by decide +kernel
 rw [if_pos h0,if_pos h0,h0,h1,h2] at h
 exact h
theorem ex_may : ACalls Try.prog 23 [ruV (halfR []),.ag [i64 0,i64 2,i64 2,i64 1]] (.tu [ints [0],i64 0]):=by
 have h:=may_ok (halfR []) (half_wf _) ⟨0,2,2,1⟩
 have h0 : oddsE (halfR []) ⟨0,2,2,1⟩ = 0:=by decide +kernel
 have h1 : mayL (oddsL (halfR []) ⟨0,2,2,1⟩) (lowL (oddsL (halfR []) ⟨0,2,2,1⟩)) (oddsL (halfR []) ⟨0,2,2,1⟩).length = [0]:=by decide +kernel
 rw [if_pos h0,h0,h1] at h
 exact h
theorem ex_proves : ACalls Try.prog 27 [ruV (halfR [(500000,500000)]),.sl 1 [[.sl 1 [[i64 0],[i64 0],[i64 929688]]],[.sl 1 [[i64 0],[i64 0],[i64 875000]]]],.bo false] (.tu [.bo false,i64 0,i64 2,i64 0]):=by
 have h:=proves_ok (halfR [(500000,500000)]) (half_wf _) false [[0,0,929688],[0,0,875000]]
 have h0 : provesE (halfR [(500000,500000)]) [[0,0,929688],[0,0,875000]] = 0:=by decide +kernel
 have h1 : provesO (halfR [(500000,500000)]) false [[0,0,929688],[0,0,875000]] = some (0,2):=by decide +kernel
 unfold provesR at h
 rw [if_pos h0,h1] at h
 exact h
theorem known_ok : ACalls Try.prog 13 [] (.bo true):=by
 obtain ⟨hi,hod⟩:=ex_odds
 have hta:=ex_table
 have hto:=ex_toss
 have hai:=ex_aim
 have hma:=ex_may
 have hpr:=ex_proves
 have hn:=half_nil
 have h1:=half_ok 0 500000
 have h2:=half_ok 500000 500000
 have ho:=one_ok 500000
 generalize halfR [(0,500000)] = A0 at hta h1
 generalize halfR [(500000,500000)] = A1 at hto hpr h2
 generalize halfR [] = A2 at hod hai hma hn
 refine acalls_st (rs:=[.bo true]) [.tmp 0] Try.func13 rfl (by kernel_rfl) Try.ntmps13 rfl (by simp) rfl fun C vs=>?_
 repeat refine zq ?_
 refine zb (by kernel_rfl) fun K hK=>?_
 simp only [go_sem]
 (try simp (disch:=omega) only [zI])
 repeat first | intro _ | refine ⟨by omega,?_⟩ | refine ⟨⟨by omega,by omega⟩,?_⟩
 refine hK _ ?_
 clear hK K
 repeat refine zq ?_
 refine awp_long ?_
 refine sops_take 1 (by kernel_rfl) fun K hK=>?_
 simp only [go_sem,List.take_succ_cons,List.take_zero,List.drop_succ_cons,List.drop_zero,List.append_eq,List.cons_append,List.nil_append]
 (try simp (disch:=omega) only [zI])
 repeat first | intro _ | refine ⟨by omega,?_⟩ | refine ⟨⟨by omega,by omega⟩,?_⟩
 refine hK _ rfl ?_
 clear hK K
 refine sops_sx 2 [[i64 0,i64 500000]] (by simp [go_sem]) (by simp) (by simp only [go_sem]; trivial) (by simp only [go_sem]; rfl) ?_
 try simp only [go_sem]
 refine sops_end (by kernel_rfl) fun K hK=>?_
 simp only [go_sem,List.drop_succ_cons,List.drop_zero,List.append_eq,List.cons_append,List.nil_append]
 (try simp (disch:=omega) only [zI])
 refine zh (h1) rfl (by simp only [go_sem,i64,ints]) (by simp only [go_sem,i64,ints]) (by first | exact .inl rfl | exact .inr rfl) ?_
 (try simp only [go_sem])
 (try simp (disch:=omega) only [zI])
 refine zh (hta) rfl (by simp only [go_sem,i64,ints]) (by simp only [go_sem,i64,ints]) (by first | exact .inl rfl | exact .inr rfl) ?_
 (try simp only [go_sem])
 (try simp (disch:=omega) only [zI])
 repeat first | intro _ | refine ⟨by omega,?_⟩ | refine ⟨⟨by omega,by omega⟩,?_⟩
 refine hK _ ?_
 clear hK K
 refine zw (zk [1,2,3]) ?_
 simp only [go_sem]
 repeat refine zq ?_
 refine awp_long ?_
 refine sops_take 1 (by kernel_rfl) fun K hK=>?_
 simp only [go_sem,List.take_succ_cons,List.take_zero,List.drop_succ_cons,List.drop_zero,List.append_eq,List.cons_append,List.nil_append]
 (try simp (disch:=omega) only [zI])
 refine zh (ho) rfl (by simp only [go_sem,i64,ints]) (by simp only [go_sem,i64,ints]) (by first | exact .inl rfl | exact .inr rfl) ?_
 (try simp only [go_sem])
 (try simp (disch:=omega) only [zI])
 repeat first | intro _ | refine ⟨by omega,?_⟩ | refine ⟨⟨by omega,by omega⟩,?_⟩
 refine hK _ rfl ?_
 clear hK K
 refine sops_sx 2 [[i64 500000,i64 500000]] (by simp [go_sem]) (by simp) (by simp only [go_sem]; trivial) (by simp only [go_sem]; rfl) ?_
 try simp only [go_sem]
 refine sops_end (by kernel_rfl) fun K hK=>?_
 simp only [go_sem,List.drop_succ_cons,List.drop_zero,List.append_eq,List.cons_append,List.nil_append]
 (try simp (disch:=omega) only [zI])
 refine zh (h2) rfl (by simp only [go_sem,i64,ints]) (by simp only [go_sem,i64,ints]) (by first | exact .inl rfl | exact .inr rfl) ?_
 (try simp only [go_sem])
 (try simp (disch:=omega) only [zI])
 refine zh (hto) rfl (by simp only [go_sem,i64,ints]) (by simp only [go_sem,i64,ints]) (by first | exact .inl rfl | exact .inr rfl) ?_
 (try simp only [go_sem])
 (try simp (disch:=omega) only [zI])
 repeat first | intro _ | refine ⟨by omega,?_⟩ | refine ⟨⟨by omega,by omega⟩,?_⟩
 refine hK _ ?_
 clear hK K
 refine zw (sub_frzP 4 4 [i64 929687,i64 929688] (by omega) rfl rfl) ?_
 refine zw (zk [1,2,3,4,5,6]) ?_
 simp only [go_sem]
 refine zw (sub_frzP 5 5 [i64 437500,i64 437500] (by omega) rfl rfl) ?_
 refine zw (zk [1,2,3,4,5,6]) ?_
 simp only [go_sem]
 repeat refine zq ?_
 refine zb (by kernel_rfl) fun K hK=>?_
 simp only [go_sem]
 (try simp (disch:=omega) only [zI])
 refine zh (hn) rfl (by simp only [go_sem,i64,ints]) (by simp only [go_sem,i64,ints]) (by first | exact .inl rfl | exact .inr rfl) ?_
 (try simp only [go_sem])
 (try simp (disch:=omega) only [zI])
 refine zh (hod) rfl (by simp only [go_sem,i64,ints]) (by simp only [go_sem,i64,ints]) (by first | exact .inl rfl | exact .inr rfl) ?_
 (try simp only [go_sem])
 (try simp (disch:=omega) only [zI])
 repeat first | intro _ | refine ⟨by omega,?_⟩ | refine ⟨⟨by omega,by omega⟩,?_⟩
 refine hK _ ?_
 clear hK K
 refine zw (zk [1,2,3,4,5,6,7,8]) ?_
 simp only [go_sem]
 repeat refine zq ?_
 refine zb (by kernel_rfl) fun K hK=>?_
 simp only [go_sem]
 (try simp (disch:=omega) only [zI])
 refine zh (hn) rfl (by simp only [go_sem,i64,ints]) (by simp only [go_sem,i64,ints]) (by first | exact .inl rfl | exact .inr rfl) ?_
 (try simp only [go_sem])
 (try simp (disch:=omega) only [zI])
 refine zh (hai) rfl (by simp only [go_sem,i64,ints]) (by simp only [go_sem,i64,ints]) (by first | exact .inl rfl | exact .inr rfl) ?_
 (try simp only [go_sem])
 (try simp (disch:=omega) only [zI])
 repeat first | intro _ | refine ⟨by omega,?_⟩ | refine ⟨⟨by omega,by omega⟩,?_⟩
 refine hK _ ?_
 clear hK K
 refine zw (zk [1,2,3,4,5,6,7,8,9,10,11]) ?_
 simp only [go_sem]
 repeat refine zq ?_
 refine zb (by kernel_rfl) fun K hK=>?_
 simp only [go_sem]
 (try simp (disch:=omega) only [zI])
 refine zh (hn) rfl (by simp only [go_sem,i64,ints]) (by simp only [go_sem,i64,ints]) (by first | exact .inl rfl | exact .inr rfl) ?_
 (try simp only [go_sem])
 (try simp (disch:=omega) only [zI])
 refine zh (hma) rfl (by simp only [go_sem,i64,ints]) (by simp only [go_sem,i64,ints]) (by first | exact .inl rfl | exact .inr rfl) ?_
 (try simp only [go_sem])
 (try simp (disch:=omega) only [zI])
 repeat first | intro _ | refine ⟨by omega,?_⟩ | refine ⟨⟨by omega,by omega⟩,?_⟩
 refine hK _ ?_
 clear hK K
 refine zw (zk [1,2,3,4,5,6,7,8,9,10,11,12,13]) ?_
 simp only [go_sem]
 repeat refine zq ?_
 refine awp_long ?_
 refine sops_take 1 (by kernel_rfl) fun K hK=>?_
 simp only [go_sem,List.take_succ_cons,List.take_zero,List.drop_succ_cons,List.drop_zero,List.append_eq,List.cons_append,List.nil_append]
 (try simp (disch:=omega) only [zI])
 refine zh (ho) rfl (by simp only [go_sem,i64,ints]) (by simp only [go_sem,i64,ints]) (by first | exact .inl rfl | exact .inr rfl) ?_
 (try simp only [go_sem])
 (try simp (disch:=omega) only [zI])
 repeat first | intro _ | refine ⟨by omega,?_⟩ | refine ⟨⟨by omega,by omega⟩,?_⟩
 refine hK _ rfl ?_
 clear hK K
 refine sops_sx 2 [[i64 500000,i64 500000]] (by simp [go_sem]) (by simp) (by simp only [go_sem]; trivial) (by simp only [go_sem]; rfl) ?_
 try simp only [go_sem]
 refine sops_end (by kernel_rfl) fun K hK=>?_
 simp only [go_sem,List.drop_succ_cons,List.drop_zero,List.append_eq,List.cons_append,List.nil_append]
 (try simp (disch:=omega) only [zI])
 refine zh (h2) rfl (by simp only [go_sem,i64,ints]) (by simp only [go_sem,i64,ints]) (by first | exact .inl rfl | exact .inr rfl) ?_
 (try simp only [go_sem])
 (try simp (disch:=omega) only [zI])
 refine zh (hpr) rfl (by simp only [go_sem,i64,ints]) (by simp only [go_sem,i64,ints]) (by first | exact .inl rfl | exact .inr rfl) ?_
 (try simp only [go_sem])
 (try simp (disch:=omega) only [zI])
 repeat first | intro _ | refine ⟨by omega,?_⟩ | refine ⟨⟨by omega,by omega⟩,?_⟩
 refine hK _ ?_
 clear hK K
 refine zw (zk [1,2,3,4,5,6,7,8,9,10,11,12,13,14,15,16,17]) ?_
 simp only [go_sem]
 repeat refine zq ?_
 refine zb (by kernel_rfl) fun K hK=>?_
 simp only [go_sem,bne_self_eq_false,List.append_eq,List.cons_append,List.nil_append]
 (try simp (disch:=omega) only [zI])
 repeat intro _
 repeat first | intro _ | refine ⟨by omega,?_⟩ | refine ⟨⟨by omega,by omega⟩,?_⟩
 refine hK _ ?_
 clear hK K
 refine zw (zk [1,2,4,5,7,9,10,14,15,16,120]) ?_
 simp only [go_sem]
 repeat refine zq ?_
 refine zc rfl (fun hc=>?_) (fun hc=>?_) <;> (try simp only [go_sem] at hc)
 refine zx ?_
 try simp only [go_sem]
 repeat refine zq ?_
 refine zb (by kernel_rfl) fun K hK=>?_
 simp only [go_sem,spanR,beq_self_eq_true,List.append_eq,List.cons_append,List.nil_append]
 (try simp (disch:=omega) only [zI])
 repeat intro _
 repeat first | intro _ | refine ⟨by omega,?_⟩ | refine ⟨⟨by omega,by omega⟩,?_⟩
 refine hK _ ?_
 clear hK K
 refine zw (zk [0]) ?_
 simp only [go_sem]
 refine ze ?_
 simp only [go_sem]
end Go.Proofs.Ytlbfkhikmigpbaa

namespace Go.Proofs.Ytlbfkhikmigpbaa
open Go Go.Oc
set_option linter.unusedSimpArgs false
set_option linter.unusedVariables false
set_option maxRecDepth 8000
abbrev Pv:=Int × Int
def fillP : List Pv → Int × Int → Int × Int
 | [],x=>x
 | c :: cs,x=>fillP cs (x.1 - min x.1 c.1,x.2 + min x.1 c.1 * c.2)
theorem fillG_P : ∀ (l : List Bd) (x : Int × Int),fillG l x = fillP (l.map fun c=>(c.hi - c.lo,c.b)) x
 | [],_=>rfl
 | c :: l,x=>by simp only [fillG,List.map_cons,fillP]; exact fillG_P l _
theorem fillP_swap {a c : Pv} {B : List Pv} {x : Int × Int} (h : a.1 = 0 ∨ a.2 = c.2) (ha : 0 ≤ a.1) (hc : 0 ≤ c.1) (hx : 0 ≤ x.1) : fillP (a :: c :: B) x = fillP (c :: a :: B) x:=by
 simp only [fillP]
 congr 1
 refine Prod.ext (by simp only; omega) ?_
 simp only
 rcases h with h | h
 · have e1 : min x.1 a.1 = 0:=by omega
   have e2 : min (x.1 - min x.1 c.1) a.1 = 0:=by omega
   rw [e1,e2]; simp
 · rw [h,Int.add_assoc,Int.add_assoc,← Int.add_mul,← Int.add_mul]
   congr 2
   omega
theorem fillP_move {c : Pv} {B : List Pv} (hc : 0 ≤ c.1) : ∀ (A : List Pv) {x : Int × Int},(∀ a ∈ A,(a.1 = 0 ∨ a.2 = c.2) ∧ 0 ≤ a.1) → 0 ≤ x.1 → fillP (A ++ c :: B) x = fillP (c :: (A ++ B)) x
 | [],_,_,_=>rfl
 | a :: A, x, h, hx => by
   have h1:=h a (by simp)
   have ih:=fillP_move (B:=B) hc A (x:=(x.1 - min x.1 a.1,x.2 + min x.1 a.1 * a.2)) (fun y hy=>h y (by simp [hy])) (by simp only; omega)
   have e : fillP (a :: A ++ c :: B) x = fillP (a :: c :: (A ++ B)) x:=by
    rw [List.cons_append,fillP,ih]; rfl
   rw [e,fillP_swap h1.1 h1.2 hc hx]
   rfl
def leD (most : Bool) (x y : Int) : Prop:=if most then y ≤ x else x ≤ y
theorem leD_trans {most : Bool} {x y z : Int} (h : leD most x y) (g : leD most y z) : leD most x z:=by
 unfold leD at *; split at h <;> simp_all <;> omega
theorem leD_anti {most : Bool} {x y : Int} (h : leD most x y) (g : leD most y x) : x = y:=by
 unfold leD at *; split at h <;> simp_all <;> omega
abbrev SortP (most : Bool) (S : List Pv) : Prop:=S.Pairwise fun a b=>leD most a.2 b.2
theorem fill_step {most : Bool} {A B : List Pv} {c : Pv} {x : Int × Int} (hS : SortP most (A ++ c :: B)) (hn : ∀ a ∈ A ++ c :: B,0 ≤ a.1) (hbest : ∀ a ∈ A ++ c :: B,0 < a.1 → leD most c.2 a.2) (hx : 0 ≤ x.1) :
 fillP (A ++ (c.1 - min x.1 c.1,c.2) :: B) (x.1 - min x.1 c.1,x.2 + min x.1 c.1 * c.2) = fillP (A ++ c :: B) x:=by
 have hc0 : 0 ≤ c.1:=hn c (by simp)
 have hA : ∀ a ∈ A,(a.1 = 0 ∨ a.2 = c.2) ∧ 0 ≤ a.1:=fun a ha=>by
  have h0:=hn a (by simp [ha])
  refine ⟨?_,h0⟩
  by_cases h : a.1 = 0
  · exact .inl h
  · have h1:=hbest a (by simp [ha]) (by omega)
    have h2 : leD most a.2 c.2:=(List.pairwise_append.1 hS).2.2 a ha c (by simp)
    exact .inr (leD_anti h2 h1)
 rw [fillP_move hc0 A hA hx,fillP_move (c:=(c.1 - min x.1 c.1,c.2)) (by simp only; omega) A hA (by simp only; omega)]
 simp only [fillP]
 congr 1
 have e : min (x.1 - min x.1 c.1) (c.1 - min x.1 c.1) = 0:=by omega
 rw [e]; simp
theorem fillP_done : ∀ {S : List Pv} {y : Int},(∀ a ∈ S,0 ≤ a.1) → fillP S (0,y) = (0,y)
 | [],_,_=>rfl
 | c :: S, y, h => by
   have h0:=h c (by simp)
   have e : min 0 c.1 = 0:=by omega
   simp only [fillP,e]
   simpa using fillP_done fun a ha=>h a (by simp [ha])
theorem insB_pw {most : Bool} {x : Bd} : ∀ {R : List Bd},R.Pairwise (fun y z=>leD most z.b y.b) → (insB (ltD most) x R).Pairwise (fun y z=>leD most z.b y.b)
 | [],_=>by simp [insB]
 | y :: R, h => by
   obtain ⟨h1,h2⟩:=List.pairwise_cons.1 h
   unfold insB
   split
   · rename_i hlt
     refine List.pairwise_cons.2 ⟨fun z hz=>?_,insB_pw h2⟩
     rcases (mem_insB _ _ _ _).1 hz with rfl | hz
     · unfold ltD at hlt; unfold leD; cases most <;> simp at hlt ⊢ <;> omega
     · exact h1 z hz
   · rename_i hlt
     have hyx : leD most y.b x.b:=by unfold ltD at hlt; unfold leD; cases most <;> simp at hlt ⊢ <;> omega
     refine List.pairwise_cons.2 ⟨fun z hz=>?_,h⟩
     rcases List.mem_cons.1 hz with rfl | hz
     · exact hyx
     · exact leD_trans (h1 z hz) hyx
theorem sortB_pw {most : Bool} : ∀ {l R : List Bd},R.Pairwise (fun y z=>leD most z.b y.b) → (sortB (ltD most) l R).Pairwise (fun y z=>leD most z.b y.b)
 | [],_,h=>h
 | x :: l,R,h=>by rw [sortB]; exact sortB_pw (insB_pw h)
theorem sortN_pw {most : Bool} (l : List Bd) : (sortN (ltD most) l).Pairwise (fun y z=>leD most y.b z.b):=by
 unfold sortN
 rw [List.pairwise_reverse]
 exact sortB_pw List.Pairwise.nil
def beats (most : Bool) (x y : Int) : Bool:=if most then decide (y < x) else decide (x < y)
def bestI (most : Bool) (M V : List Int) : Nat → Int
 | 0=>-1
 | i + 1=>if decide (0 < M.getD i 0) && (decide (bestI most M V i < 0) || beats most (V.getD i 0) (V.getD (bestI most M V i).toNat 0)) then i else bestI most M V i
theorem bestI_spec (most : Bool) (M V : List Int) : ∀ i,(bestI most M V i = -1 ∧ ∀ j,j < i → M.getD j 0 ≤ 0) ∨
 ∃ a : Nat,a < i ∧ bestI most M V i = a ∧ 0 < M.getD a 0 ∧ ∀ j,j < i → 0 < M.getD j 0 → leD most (V.getD a 0) (V.getD j 0)
 | 0=>.inl ⟨rfl,fun j hj=>by omega⟩
 | i + 1 => by
   have ih:=bestI_spec most M V i
   simp only [bestI]
   by_cases hm : 0 < M.getD i 0
   · rcases ih with ⟨h1,h2⟩ | ⟨a,h1,h2,h3,h4⟩
     · refine .inr ⟨i,by omega,?_,hm,fun j hj hj0=>?_⟩
       · rw [if_pos (by rw [decide_eq_true hm,h1]; simp)]
       · by_cases e : j = i
         · subst e; unfold leD; split <;> omega
         · have:=h2 j (by omega); omega
     · by_cases hb : beats most (V.getD i 0) (V.getD a 0) = true
       · refine .inr ⟨i,by omega,?_,hm,fun j hj hj0=>?_⟩
         · rw [if_pos (by rw [decide_eq_true hm,h2,Int.toNat_natCast,hb]; simp)]
         · have hia : leD most (V.getD i 0) (V.getD a 0):=by unfold beats at hb; unfold leD; cases most <;> simp at hb ⊢ <;> omega
           by_cases e : j = i
           · subst e; unfold leD; split <;> omega
           · exact leD_trans hia (h4 j (by omega) hj0)
       · refine .inr ⟨a,by omega,?_,h3,fun j hj hj0=>?_⟩
         · rw [if_neg,h2]
           simp only [h2,Int.toNat_natCast,Bool.not_eq_true] at hb ⊢
           simp only [hb]
           simp
         · by_cases e : j = i
           · subst e; unfold beats at hb; unfold leD; cases most <;> simp at hb ⊢ <;> omega
           · exact h4 j (by omega) hj0
   · have hc : ¬ ((decide (0 < M.getD i 0) && (decide (bestI most M V i < 0) || beats most (V.getD i 0) (V.getD (bestI most M V i).toNat 0))) = true):=by rw [decide_eq_false hm]; simp
     rw [if_neg hc]
     rcases ih with ⟨h1,h2⟩ | ⟨a,h1,h2,h3,h4⟩
     · exact .inl ⟨h1,fun j hj=>by
        by_cases e : j = i
        · subst e; omega
        · exact h2 j (by omega)⟩
     · exact .inr ⟨a,by omega,h2,h3,fun j hj hj0=>by
        by_cases e : j = i
        · subst e; omega
        · exact h4 j (by omega) hj0⟩
theorem sum_pos : ∀ {M : List Int},0 < M.sum → ∃ j,j < M.length ∧ 0 < M.getD j 0
 | [],h=>by simp at h
 | m :: M, h => by
   by_cases hm : 0 < m
   · exact ⟨0,by simp,by simpa using hm⟩
   · obtain ⟨j,h1,h2⟩:=sum_pos (M:=M) (by simp only [List.sum_cons] at h; omega)
     exact ⟨j + 1,by simpa using h1,by simpa using h2⟩
theorem sum_set : ∀ {M : List Int} {a : Nat} {y : Int},a < M.length → (M.set a y).sum = M.sum - M.getD a 0 + y
 | m :: M,0,y,_=>by simp; omega
 | m :: M, a + 1, y, h => by
   have:=sum_set (M:=M) (a:=a) (y:=y) (by simpa using h)
   simp at this ⊢
   omega
theorem zip_set : ∀ {M V : List Int} {a : Nat} {y v : Int},V[a]? = some v → (M.set a y).zip V = (M.zip V).set a (y,v)
 | [],_,_,_,_,_=>by simp
 | _ :: _,[],_,_,_,h=>by simp at h
 | m :: M,w :: V,0,y,v,h=>by simp at h; subst h; simp
 | m :: M, w :: V, a + 1, y, v, h => by
   simp at h
   simp only [List.set_cons_succ,List.zip_cons_cons,zip_set (M:=M) (V:=V) (a:=a) (y:=y) h]
structure RefI (most : Bool) (V : List Int) (target : Int) (M : List Int) (left sum : Int) : Prop where
 len : M.length = V.length
 l19 : V.length ≤ 19
 vals : ∀ v ∈ V,0 ≤ v ∧ v ≤ 1000000
 mores : ∀ m ∈ M,0 ≤ m ∧ m ≤ 3000
 ok : GOk (left,sum)
 enough : left ≤ M.sum
 same : ∃ S : List Pv,S.Perm (M.zip V) ∧ SortP most S ∧ (fillP S (left,sum)).2 = target
theorem RefI.done {most : Bool} {V M : List Int} {target left sum : Int} (h : RefI most V target M left sum) (h0 : ¬ 0 < left) : sum = target:=by
 obtain ⟨S,h1,_,h3⟩:=h.same
 have:=h.ok.1.1
 have e : left = 0:=by simp only at this; omega
 rw [e,fillP_done] at h3
 · exact h3
 · intro a ha
   have:=h1.mem_iff.1 ha
   exact (h.mores a.1 (List.of_mem_zip this).1).1
theorem RefI.best {most : Bool} {V M : List Int} {target left sum : Int} (h : RefI most V target M left sum) (h0 : 0 < left) :
 ∃ a : Nat, ∃ m v, a < M.length ∧ bestI most M V M.length = a ∧ M[a]? = some m ∧ V[a]? = some v ∧ 0 < m ∧ (m ≤ 3000 ∧ 0 ≤ v ∧ v ≤ 1000000) ∧
   RefI most V target (M.set a (m - min left m)) (left - min left m) (sum + min left m * v):=by
 rcases bestI_spec most M V M.length with ⟨_,h2⟩ | ⟨a,ha,hb,hm,hbest⟩
 · obtain ⟨j,hj,hj0⟩:=sum_pos (M:=M) (by have:=h.enough; omega)
   have:=h2 j hj
   omega
 · have hav : a < V.length:=by rw [← h.len]; exact ha
   have hma : M[a]? = some M[a]:=List.getElem?_eq_getElem ha
   have hva : V[a]? = some V[a]:=List.getElem?_eq_getElem hav
   have egm : M.getD a 0 = M[a]:=by simp [List.getD,hma]
   have egv : V.getD a 0 = V[a]:=by simp [List.getD,hva]
   have hmb:=h.mores _ (List.getElem_mem ha)
   have hvb:=h.vals _ (List.getElem_mem hav)
   rw [egm] at hm
   refine ⟨a,M[a],V[a],ha,hb,hma,hva,hm,⟨hmb.2,hvb⟩,?_⟩
   obtain ⟨S,hp,hs,hf⟩:=h.same
   have hza : (M.zip V)[a]? = some (M[a],V[a]):=by
    rw [List.getElem?_zip_eq_some]; exact ⟨hma,hva⟩
   have hlz : a < (M.zip V).length:=(List.getElem?_eq_some_iff.1 hza).1
   have hin : (M[a],V[a]) ∈ S:=hp.mem_iff.2 (List.mem_of_getElem? hza)
   obtain ⟨A,B,rfl⟩:=List.append_of_mem hin
   have hn : ∀ x ∈ A ++ (M[a],V[a]) :: B,0 ≤ x.1:=fun x hx=>(h.mores x.1 (List.of_mem_zip (hp.mem_iff.1 hx)).1).1
   have hbt : ∀ x ∈ A ++ (M[a],V[a]) :: B,0 < x.1 → leD most (M[a],V[a]).2 x.2:=fun x hx hx0=>by
    obtain ⟨j,hj⟩:=List.getElem?_of_mem (hp.mem_iff.1 hx)
    obtain ⟨g1,g2⟩:=List.getElem?_zip_eq_some.1 hj
    have:=hbest j (List.getElem?_eq_some_iff.1 g1).1 (by simpa [List.getD,g1] using hx0)
    rw [egv] at this
    simpa [List.getD,g2] using this
   have hst:=fill_step (x:=(left,sum)) hs hn hbt (by simp only; omega)
   obtain ⟨k1,k2,k3⟩:=gOk_step (c:=⟨V[a],0,M[a]⟩) h.ok ⟨hvb,by simp only; omega,by simp only; omega,by simp only; omega⟩
   simp only [Int.sub_zero] at k1 k2 k3
   refine ⟨by simp [h.len],h.l19,h.vals,fun m hm'=>?_,k3,?_,?_⟩
   · rcases List.mem_or_eq_of_mem_set hm' with hm' | rfl
     · exact h.mores m hm'
     · omega
   · rw [sum_set ha,egm]
     have:=h.enough
     omega
   · refine ⟨A ++ (M[a] - min left M[a],V[a]) :: B,?_,?_,?_⟩
     · rw [zip_set hva]
       have hz : M.zip V = (M.zip V).take a ++ (M[a],V[a]) :: (M.zip V).drop (a + 1):=by
        have e:=List.getElem?_eq_some_iff.1 hza
        rw [← e.2,← List.drop_eq_getElem_cons hlz,List.take_append_drop]
       have hset : (M.zip V).set a (M[a] - min left M[a],V[a]) = (M.zip V).take a ++ (M[a] - min left M[a],V[a]) :: (M.zip V).drop (a + 1):=List.set_eq_take_append_cons_drop .. |>.trans (if_pos hlz)
       rw [hset]
       rw [hz] at hp
       have h1:=(List.perm_middle.symm.trans hp).trans List.perm_middle
       exact List.perm_middle.trans (((List.perm_cons _).1 h1).cons _ |>.trans List.perm_middle.symm)
     · have h1:=List.pairwise_append.1 hs
       have h2:=List.pairwise_cons.1 h1.2.1
       refine List.pairwise_append.2 ⟨h1.1,List.pairwise_cons.2 ⟨h2.1,h2.2⟩,fun x hx y hy=>?_⟩
       rcases List.mem_cons.1 hy with rfl | hy
       · exact h1.2.2 x hx (M[a],V[a]) (by simp)
       · exact h1.2.2 x hx y (by simp [hy])
     · rw [hst]
       exact hf
theorem RefI.start {most : Bool} {den : Int} {l : List Bd} (h : ChG den l) (hh : den ≤ hiS l) :
 RefI most (l.map (·.b)) (fillG (sortN (ltD most) l) (den - loS (sortN (ltD most) l),loV (sortN (ltD most) l))).2 (l.map fun c=>c.hi - c.lo) (den - loS l) (loV l):=by
 have hp:=sortN_perm (ltD most) l
 have e1 : loS (sortN (ltD most) l) = loS l:=perm_sum hp
 have e2 : loV (sortN (ltD most) l) = loV l:=perm_sum hp
 have hl:=h.low
 have hd:=h.den1
 have hv:=loV_le h.each
 have hlen:=h.len
 have hlo0 : 0 ≤ loS l:=by
  have : ∀ m : List Bd,(∀ c ∈ m,0 ≤ c.lo) → 0 ≤ loS m:=by
   intro m
   induction m with
   | nil=>intro _; simp [loS]
   | cons c m ih=>intro hc; have h1:=hc c (by simp); have h2:=ih fun x hx=>hc x (by simp [hx]); simp only [loS,List.map_cons,List.sum_cons] at h2 ⊢; omega
  exact this l fun c hc=>(h.each c hc).2.1
 refine ⟨by simp,by simpa using hlen,?_,?_,?_,?_,?_⟩
 · intro v hv
   obtain ⟨c,hc,rfl⟩:=List.mem_map.1 hv
   exact (h.each c hc).1
 · intro m hm
   obtain ⟨c,hc,rfl⟩:=List.mem_map.1 hm
   obtain ⟨_,g0,g1,g2⟩:=h.each c hc
   omega
 · refine ⟨⟨by simp only; omega,by simp only; omega⟩,by simp only; omega,by simp only; omega⟩
 · have : (l.map fun c=>c.hi - c.lo).sum = hiS l - loS l:=by
    clear hh hp e1 e2 hl hv hlen hlo0 h
    induction l with
    | nil=>simp [hiS,loS]
    | cons c l ih=>simp only [hiS,loS,List.map_cons,List.sum_cons] at ih ⊢; omega
   omega
 · refine ⟨(sortN (ltD most) l).map fun c=>(c.hi - c.lo,c.b),?_,?_,?_⟩
   · have : (l.map fun c=>c.hi - c.lo).zip (l.map (·.b)) = l.map fun c=>(c.hi - c.lo,c.b):=by
      rw [List.zip_map',]
     rw [this]
     exact hp.map _
   · exact List.Pairwise.map _ (fun a b h=>h) (sortN_pw l)
   · rw [← fillG_P,e1,e2]
end Go.Proofs.Ytlbfkhikmigpbaa

namespace Go.Proofs.Ytlbfkhikmigpbaa
open Go Go.Oc
set_option linter.unusedSimpArgs false
set_option linter.unusedVariables false
set_option maxRecDepth 8000
def dotP : List Pv → List Int → Int
 | c :: S,y :: ys=>y * c.2 + dotP S ys
 | _,_=>0
inductive FeasP : List Pv → List Int → Prop where
 | nil : FeasP [] []
 | cons {c : Pv} {S : List Pv} {y : Int} {ys : List Int} (h : 0 ≤ y ∧ y ≤ c.1) (t : FeasP S ys) : FeasP (c :: S) (y :: ys)
theorem feas_sum {S : List Pv} {ys : List Int} (h : FeasP S ys) : 0 ≤ ys.sum:=by
 induction h with
 | nil=>simp
 | cons h t ih=>simp only [List.sum_cons]; omega
theorem feas_less {v : Int} {S : List Pv} {ys : List Int} (h : FeasP S ys) : ∀ δ : Int,0 ≤ δ → δ ≤ ys.sum → (∀ c ∈ S,v ≤ c.2) → ∃ zs,FeasP S zs ∧ zs.sum = ys.sum - δ ∧ dotP S zs + δ * v ≤ dotP S ys:=by
 induction h with
 | nil =>
   intro δ h0 h1 _
   simp only [List.sum_nil] at h1
   have : δ = 0:=by omega
   subst this
   exact ⟨[],.nil,by simp,by simp [dotP]⟩
 | @cons c S y ys h t ih =>
   intro δ h0 h1 hv
   simp only [List.sum_cons] at h1
   have hs:=feas_sum t
   obtain ⟨zs,g1,g2,g3⟩:=ih (δ - min δ y) (by omega) (by omega) fun x hx=>hv x (by simp [hx])
   have hc:=hv c (by simp)
   have e0 : 0 ≤ min δ y:=by omega
   have p:=Int.mul_nonneg e0 (show 0 ≤ c.2 - v by omega)
   refine ⟨(y - min δ y) :: zs,.cons ⟨by omega,by omega⟩ g1,by simp only [List.sum_cons]; omega,?_⟩
   simp only [dotP]
   generalize min δ y = e at *
   rw [Int.mul_sub] at p
   rw [Int.sub_mul] at g3
   rw [Int.sub_mul]
   omega
theorem fill_min : ∀ {S : List Pv} {ys : List Int},FeasP S ys → ∀ (left s : Int),S.Pairwise (fun a b=>a.2 ≤ b.2) → ys.sum = left → (fillP S (left,s)).2 ≤ s + dotP S ys
 | [],_,h,left,s,_,_=>by cases h; simp [fillP,dotP]
 | c :: S, _, h, left, s, hp, hsum => by
   cases h with
   | @cons _ _ y ys h t =>
     obtain ⟨hp1,hp2⟩:=List.pairwise_cons.1 hp
     simp only [List.sum_cons] at hsum
     have hs:=feas_sum t
     obtain ⟨zs,g1,g2,g3⟩:=feas_less t (min left c.1 - y) (by omega) (by omega) hp1
     have:=fill_min g1 (left - min left c.1) (s + min left c.1 * c.2) hp2 (by omega)
     simp only [fillP,dotP]
     rw [Int.sub_mul] at g3
     omega
def negP (S : List Pv) : List Pv:=S.map fun c=>(c.1,-c.2)
theorem fill_neg : ∀ (S : List Pv) (x y : Int),(fillP (negP S) (x,-y)).2 = -(fillP S (x,y)).2
 | [],_,_=>rfl
 | c :: S, x, y => by
   have:=fill_neg S (x - min x c.1) (y + min x c.1 * c.2)
   simp only [negP,List.map_cons,fillP] at this ⊢
   rw [← this]
   congr 3
   rw [Int.mul_neg]; omega
theorem dot_neg : ∀ (S : List Pv) (ys : List Int),dotP (negP S) ys = -dotP S ys
 | [],_=>by simp [negP,dotP]
 | _ :: _,[]=>by simp [negP,dotP]
 | c :: S, y :: ys => by
   have:=dot_neg S ys
   simp only [negP,List.map_cons,dotP] at this ⊢
   rw [this,Int.mul_neg]; omega
theorem feas_neg : ∀ {S : List Pv} {ys : List Int},FeasP S ys → FeasP (negP S) ys
 | _,_,.nil=>.nil
 | _,_,.cons h t=>.cons h (feas_neg t)
theorem fill_max {S : List Pv} {ys : List Int} (h : FeasP S ys) (left s : Int) (hp : S.Pairwise (fun a b=>b.2 ≤ a.2)) (hs : ys.sum = left) : s + dotP S ys ≤ (fillP S (left,s)).2:=by
 have:=fill_min (feas_neg h) left (-s) (by unfold negP; exact List.Pairwise.map _ (fun a b h=>by simp only; omega) hp) hs
 rw [fill_neg,dot_neg] at this
 omega
theorem greedy_amt {m v : Nat → Int} : ∀ {I : List Nat} {left s : Int},I.Nodup → (∀ i ∈ I,0 ≤ m i) → 0 ≤ left → left ≤ (I.map m).sum →
 ∃ x : Nat → Int,(∀ i ∈ I,0 ≤ x i ∧ x i ≤ m i) ∧ (I.map x).sum = left ∧ (fillP (I.map fun i=>(m i,v i)) (left,s)).2 = s + (I.map fun i=>x i * v i).sum
 | [], left, s, _, _, h0, h1 => by
   simp only [List.map_nil,List.sum_nil] at h1
   exact ⟨fun _=>0,by simp,by simp; omega,by simp [fillP]⟩
 | i :: I, left, s, hn, hm, h0, h1 => by
   obtain ⟨hi,hn2⟩:=List.nodup_cons.1 hn
   have hmi:=hm i (by simp)
   simp only [List.map_cons,List.sum_cons] at h1
   have hms : 0 ≤ (I.map m).sum:=by
    have : ∀ J : List Nat,(∀ j ∈ J,0 ≤ m j) → 0 ≤ (J.map m).sum:=by
     intro J
     induction J with
     | nil=>intro _; simp
     | cons j J ih=>intro hJ; have h1:=hJ j (by simp); have h2:=ih fun y hy=>hJ y (by simp [hy]); simp only [List.map_cons,List.sum_cons]; omega
    exact this I fun j hj=>hm j (by simp [hj])
   obtain ⟨x,g1,g2,g3⟩:=greedy_amt (v:=v) (left:=left - min left (m i)) (s:=s + min left (m i) * v i) hn2 (fun j hj=>hm j (by simp [hj])) (by omega) (by omega)
   have hne : ∀ j ∈ I,j ≠ i:=fun j hj e=>hi (by rw [← e]; exact hj)
   refine ⟨fun j=>if j = i then min left (m i) else x j,fun j hj=>?_,?_,?_⟩
   · rcases List.mem_cons.1 hj with rfl | hj
     · simp only [if_true]; omega
     · simp only [if_neg (hne j hj)]; exact g1 j hj
   · simp only [List.map_cons,if_true,List.sum_cons]
     rw [List.map_congr_left (g:=x) fun j hj=>by simp only [if_neg (hne j hj)],g2]
     omega
   · simp only [List.map_cons,fillP,if_true,List.sum_cons]
     rw [g3,List.map_congr_left (f:=fun j=>(if j = i then min left (m i) else x j) * v j) (g:=fun j=>x j * v j) fun j hj=>by simp only [if_neg (hne j hj)]]
     omega
theorem feas_map {m v x : Nat → Int} : ∀ {I : List Nat},(∀ i ∈ I,0 ≤ x i ∧ x i ≤ m i) → FeasP (I.map fun i=>(m i,v i)) (I.map x)
 | [],_=>.nil
 | i :: I,h=>.cons (h i (by simp)) (feas_map fun j hj=>h j (by simp [hj]))
theorem dot_map {m v x : Nat → Int} : ∀ I : List Nat,dotP (I.map fun i=>(m i,v i)) (I.map x) = (I.map fun i=>x i * v i).sum
 | []=>rfl
 | i :: I=>by simp only [List.map_cons,dotP,List.sum_cons,dot_map I]
def insN (lt : Nat → Nat → Bool) (x : Nat) : List Nat → List Nat
 | []=>[x]
 | y :: ys=>if lt x y then y :: insN lt x ys else x :: y :: ys
def sortBN (lt : Nat → Nat → Bool) : List Nat → List Nat → List Nat
 | [],R=>R
 | x :: xs,R=>sortBN lt xs (insN lt x R)
def sortI (lt : Nat → Nat → Bool) (l : List Nat) : List Nat:=(sortBN lt l []).reverse
theorem insN_map (f : Nat → Bd) (lt : Bd → Bd → Bool) (x : Nat) : ∀ R : List Nat,(insN (fun i j=>lt (f i) (f j)) x R).map f = insB lt (f x) (R.map f)
 | []=>rfl
 | y :: R => by
   have:=insN_map f lt x R
   simp only [insN,List.map_cons,insB]
   split
   · rw [List.map_cons,this]
   · rfl
theorem sortBN_map (f : Nat → Bd) (lt : Bd → Bd → Bool) : ∀ l R : List Nat,(sortBN (fun i j=>lt (f i) (f j)) l R).map f = sortB lt (l.map f) (R.map f)
 | [],_=>rfl
 | x :: l,R=>by simp only [sortBN,List.map_cons,sortB]; rw [sortBN_map f lt l,insN_map]
theorem sortI_map (f : Nat → Bd) (lt : Bd → Bd → Bool) (l : List Nat) : (sortI (fun i j=>lt (f i) (f j)) l).map f = sortN lt (l.map f):=by
 unfold sortI sortN
 rw [List.map_reverse,sortBN_map]; rfl
theorem insN_perm (lt : Nat → Nat → Bool) (x : Nat) : ∀ R,(insN lt x R).Perm (x :: R)
 | []=>List.Perm.refl _
 | y :: R => by
   unfold insN
   split
   · exact ((insN_perm lt x R).cons y).trans (List.Perm.swap _ _ _)
   · exact List.Perm.refl _
theorem sortBN_perm (lt : Nat → Nat → Bool) : ∀ l R,(sortBN lt l R).Perm (l ++ R)
 | [],R=>List.Perm.refl _
 | x :: l, R => by
   rw [sortBN]
   refine (sortBN_perm lt l _).trans ?_
   exact ((insN_perm lt x R).append_left l).trans List.perm_middle
theorem sortI_perm (lt : Nat → Nat → Bool) (l : List Nat) : (sortI lt l).Perm l:=by
 unfold sortI
 have:=sortBN_perm lt l []
 rw [List.append_nil] at this
 exact (List.reverse_perm _).trans this
theorem mean_idx {most : Bool} {den : Int} {l : List Bd} (h : ChG den l) (hh : den ≤ hiS l) : ∃ I : List Nat,I.Perm (List.range l.length) ∧ I.Nodup ∧
 (I.Pairwise fun a b=>leD most (l.getD a ⟨0,0,0⟩).b (l.getD b ⟨0,0,0⟩).b) ∧
 meanD most den l = overD most (fillP (I.map fun i=>((l.getD i ⟨0,0,0⟩).hi - (l.getD i ⟨0,0,0⟩).lo,(l.getD i ⟨0,0,0⟩).b)) (den - loS l,loV l)).2 den:=by
 have hl : (List.range l.length).map (fun i=>l.getD i ⟨0,0,0⟩) = l:=by
  refine List.ext_getElem (by simp) fun i h1 h2=>?_
  simp [List.getD,List.getElem?_eq_getElem h2]
 have hm:=sortI_map (fun i=>l.getD i ⟨0,0,0⟩) (ltD most) (List.range l.length)
 rw [hl] at hm
 have hp:=sortI_perm (fun i j=>ltD most (l.getD i ⟨0,0,0⟩) (l.getD j ⟨0,0,0⟩)) (List.range l.length)
 have hpw:=sortN_pw (most:=most) l
 rw [← hm] at hpw
 have e1 : loS (sortN (ltD most) l) = loS l:=perm_sum (sortN_perm _ _)
 have e2 : loV (sortN (ltD most) l) = loV l:=perm_sum (sortN_perm _ _)
 refine ⟨_,hp,hp.nodup_iff.2 List.nodup_range,(List.pairwise_map (f:=fun i=>l.getD i ⟨0,0,0⟩) (R:=fun y z : Bd=>leD most y.b z.b)).1 hpw,?_⟩
 unfold meanD
 rw [e1,e2,fillG_P,← hm,List.map_map]
 rfl
theorem overD_mono {m1 m2 : Bool} (hm : m1 = true → m2 = true) {a b den : Int} (hd : 1 ≤ den) (hab : a ≤ b) : overD m1 a den ≤ overD m2 b den:=by
 have h1 : ∀ x y : Int,x ≤ y → x / den ≤ y / den:=fun x y h=>Int.ediv_le_ediv (by omega) h
 cases m1 <;> cases m2 <;> simp only [overD,if_true,Bool.false_eq_true,if_false]
 · exact h1 _ _ hab
 · exact h1 _ _ (by omega)
 · simp at hm
 · exact h1 _ _ (by omega)
theorem sum_le_map {f g : Nat → Int} : ∀ {I : List Nat},(∀ i ∈ I,f i ≤ g i) → (I.map f).sum ≤ (I.map g).sum
 | [],_=>by simp
 | i :: I, h => by
   have h1:=h i (by simp)
   have h2:=sum_le_map (f:=f) (g:=g) (I:=I) fun j hj=>h j (by simp [hj])
   simp only [List.map_cons,List.sum_cons]; omega
theorem meanD_mono {m1 m2 : Bool} (hm : m1 = true → m2 = true) {den : Int} {l : List Bd} {f g : Int → Int} (hf : ChG den (chW f l)) (hg : ChG den (chW g l)) (hh : den ≤ hiS l) (hfg : ∀ c ∈ l,f c.b ≤ g c.b) :
 meanD m1 den (chW f l) ≤ meanD m2 den (chW g l):=by
 obtain ⟨I,p1,n1,w1,e1⟩:=mean_idx (most:=m1) hf (by rw [hiS_chW]; exact hh)
 obtain ⟨J,p2,n2,w2,e2⟩:=mean_idx (most:=m2) hg (by rw [hiS_chW]; exact hh)
 have lf : (chW f l).length = l.length:=by simp [chW]
 have lg : (chW g l).length = l.length:=by simp [chW]
 rw [lf] at p1
 rw [lg] at p2
 have gf : ∀ i,i < l.length → (chW f l).getD i ⟨0,0,0⟩ = ⟨f (l.getD i ⟨0,0,0⟩).b,(l.getD i ⟨0,0,0⟩).lo,(l.getD i ⟨0,0,0⟩).hi⟩:=fun i hi=>by simp [chW,List.getD,List.getElem?_eq_getElem hi]
 have gg : ∀ i,i < l.length → (chW g l).getD i ⟨0,0,0⟩ = ⟨g (l.getD i ⟨0,0,0⟩).b,(l.getD i ⟨0,0,0⟩).lo,(l.getD i ⟨0,0,0⟩).hi⟩:=fun i hi=>by simp [chW,List.getD,List.getElem?_eq_getElem hi]
 have hI : ∀ i ∈ I,i < l.length:=fun i hi=>List.mem_range.1 (p1.mem_iff.1 hi)
 have hJ : ∀ i ∈ J,i < l.length:=fun i hi=>List.mem_range.1 (p2.mem_iff.1 hi)
 have hmem : ∀ i,i < l.length → l.getD i ⟨0,0,0⟩ ∈ l:=fun i hi=>by
  rw [List.getD_eq_getElem?_getD,List.getElem?_eq_getElem hi]; exact List.getElem_mem hi
 rw [e1,e2,loS_chW,loS_chW]
 refine overD_mono hm hf.den0 ?_
 have ef : (I.map fun i=>(((chW f l).getD i ⟨0,0,0⟩).hi - ((chW f l).getD i ⟨0,0,0⟩).lo,((chW f l).getD i ⟨0,0,0⟩).b)) = I.map fun i=>((l.getD i ⟨0,0,0⟩).hi - (l.getD i ⟨0,0,0⟩).lo,f (l.getD i ⟨0,0,0⟩).b) :=
  List.map_congr_left fun i hi=>by rw [gf i (hI i hi)]
 have eg : (J.map fun i=>(((chW g l).getD i ⟨0,0,0⟩).hi - ((chW g l).getD i ⟨0,0,0⟩).lo,((chW g l).getD i ⟨0,0,0⟩).b)) = J.map fun i=>((l.getD i ⟨0,0,0⟩).hi - (l.getD i ⟨0,0,0⟩).lo,g (l.getD i ⟨0,0,0⟩).b) :=
  List.map_congr_left fun i hi=>by rw [gg i (hJ i hi)]
 rw [ef,eg]
 have pIJ : I.Perm J:=p1.trans p2.symm
 have hlow : loS l ≤ den:=by have:=hf.low; rwa [loS_chW] at this
 have hm0 : ∀ i,i < l.length → 0 ≤ (l.getD i ⟨0,0,0⟩).hi - (l.getD i ⟨0,0,0⟩).lo:=fun i hi=>by
  have:=hf.each ⟨f (l.getD i ⟨0,0,0⟩).b,(l.getD i ⟨0,0,0⟩).lo,(l.getD i ⟨0,0,0⟩).hi⟩ (List.mem_map.2 ⟨_,hmem i hi,rfl⟩)
  simp only at this; omega
 have hsm : ((List.range l.length).map fun i=>(l.getD i ⟨0,0,0⟩).hi - (l.getD i ⟨0,0,0⟩).lo).sum = hiS l - loS l:=by
  have hl : (List.range l.length).map (fun i=>l.getD i ⟨0,0,0⟩) = l:=by
   refine List.ext_getElem (by simp) fun i h1 h2=>?_
   simp [List.getD,List.getElem?_eq_getElem h2]
  have : ((List.range l.length).map fun i=>(l.getD i ⟨0,0,0⟩).hi - (l.getD i ⟨0,0,0⟩).lo) = l.map fun c=>c.hi - c.lo:=by
   conv=>rhs; rw [← hl]
   rw [List.map_map]; rfl
  rw [this]
  generalize l = l
  induction l with
  | nil=>simp [hiS,loS]
  | cons c l ih=>simp only [hiS,loS,List.map_cons,List.sum_cons] at ih ⊢; omega
 have hv : loV (chW f l) ≤ loV (chW g l):=by
  have h0 : ∀ c ∈ l,0 ≤ c.lo:=fun c hc=>(hf.each _ (List.mem_map.2 ⟨c,hc,rfl⟩)).2.1
  clear e1 e2 ef eg gf gg hI hJ hmem hm0 hsm p1 p2 pIJ w1 w2 lf lg hf hg hh hlow
  induction l with
  | nil=>simp [chW,loV]
  | cons c l ih =>
    have h1:=ih (fun x hx=>hfg x (by simp [hx])) fun x hx=>h0 x (by simp [hx])
    have h2:=Int.mul_le_mul_of_nonneg_left (hfg c (by simp)) (h0 c (by simp))
    simp only [chW,loV,List.map_cons,List.sum_cons,List.map_map] at h1 ⊢
    omega
 generalize hmm : (fun i=>(l.getD i ⟨0,0,0⟩).hi - (l.getD i ⟨0,0,0⟩).lo) = m at *
 have hmi : ∀ i,(l.getD i ⟨0,0,0⟩).hi - (l.getD i ⟨0,0,0⟩).lo = m i:=fun i=>by rw [← hmm]
 simp only [hmi] at *
 have fgi : ∀ i,i < l.length → f (l.getD i ⟨0,0,0⟩).b ≤ g (l.getD i ⟨0,0,0⟩).b:=fun i hi=>hfg _ (hmem i hi)
 generalize hu : (fun i=>f (l.getD i ⟨0,0,0⟩).b) = u at *
 have hui : ∀ i,f (l.getD i ⟨0,0,0⟩).b = u i:=fun i=>by rw [← hu]
 generalize hw : (fun i=>g (l.getD i ⟨0,0,0⟩).b) = w at *
 have hwi : ∀ i,g (l.getD i ⟨0,0,0⟩).b = w i:=fun i=>by rw [← hw]
 simp only [hui,hwi] at *
 have hsI : (I.map m).sum = hiS l - loS l:=by rw [← hsm]; exact perm_sum p1
 have hsJ : (J.map m).sum = hiS l - loS l:=by rw [← hsm]; exact perm_sum p2
 have wI : I.Pairwise fun a b=>leD m1 (u a) (u b):=w1.imp_of_mem fun {a b} ha hb h=>by
  rw [gf a (hI a ha),gf b (hI b hb)] at h; exact h
 have wJ : J.Pairwise fun a b=>leD m2 (w a) (w b):=w2.imp_of_mem fun {a b} ha hb h=>by
  rw [gg a (hJ a ha),gg b (hJ b hb)] at h; exact h
 have ms : ∀ (K : List Nat) (x z : Nat → Int),(∀ i ∈ K,i < l.length) → (∀ i ∈ K,0 ≤ x i) → (K.map fun i=>x i * u i).sum ≤ (K.map fun i=>x i * w i).sum:=fun K x z hK hx =>
  sum_le_map fun i hi=>Int.mul_le_mul_of_nonneg_left (fgi i (hK i hi)) (hx i hi)
 cases m1 with
 | false =>
   obtain ⟨x,x1,x2,x3⟩:=greedy_amt (m:=m) (v:=w) (I:=J) (left:=den - loS l) (s:=loV (chW g l)) n2 (fun i hi=>hm0 i (hJ i hi)) (by omega) (by omega)
   have hx : ∀ i ∈ I,0 ≤ x i ∧ x i ≤ m i:=fun i hi=>x1 i (pIJ.mem_iff.1 hi)
   have hmin:=fill_min (feas_map (v:=u) hx) (den - loS l) (loV (chW f l)) (List.pairwise_map.2 (wI.imp fun h=>by simpa [leD] using h)) (by rw [perm_sum (f:=x) pIJ]; exact x2)
   rw [dot_map] at hmin
   have h2:=ms I x x hI fun i hi=>(hx i hi).1
   have h3 : (I.map fun i=>x i * w i).sum = (J.map fun i=>x i * w i).sum:=perm_sum pIJ
   rw [x3]
   omega
 | true =>
   have hm2 : m2 = true:=hm rfl
   subst hm2
   obtain ⟨x,x1,x2,x3⟩:=greedy_amt (m:=m) (v:=u) (I:=I) (left:=den - loS l) (s:=loV (chW f l)) n1 (fun i hi=>hm0 i (hI i hi)) (by omega) (by omega)
   have hx : ∀ i ∈ J,0 ≤ x i ∧ x i ≤ m i:=fun i hi=>x1 i (pIJ.mem_iff.2 hi)
   have hmax:=fill_max (feas_map (v:=w) hx) (den - loS l) (loV (chW g l)) (List.pairwise_map.2 (wJ.imp fun h=>by simpa [leD] using h)) (by rw [perm_sum (f:=x) pIJ.symm]; exact x2)
   rw [dot_map] at hmax
   have h2:=ms I x x hI fun i hi=>(x1 i hi).1
   have h3 : (I.map fun i=>x i * w i).sum = (J.map fun i=>x i * w i).sum:=perm_sum pIJ
   rw [x3]
   omega
end Go.Proofs.Ytlbfkhikmigpbaa

namespace Go.Proofs.Ytlbfkhikmigpbaa
open Go Go.Oc
set_option linter.unusedSimpArgs false
set_option linter.unusedVariables false
set_option maxRecDepth 8000
theorem mem_tw {α : Type} {p : α → Bool} {x : α} : ∀ {l : List α},x ∈ l.takeWhile p → p x = true
 | [],h=>by simp at h
 | y :: l, h => by
   rw [List.takeWhile_cons] at h
   split at h
   · rename_i hy
     rcases List.mem_cons.1 h with rfl | h
     · exact hy
     · exact mem_tw h
   · cases h
def bedN (n : Int) : Int:=if n % 16 = 0 then 0 else 100 * (1 + n / 16 % 3) + 1 + n % 16 % 12
theorem bedN_ok (n : Int) : bedN n = 0 ∨ bedOk (bedN n) = true:=by
 unfold bedN
 split
 · exact .inl rfl
 · right
   simp only [bedOk,Bool.or_eq_true,Bool.and_eq_true,decide_eq_true_eq]
   right
   omega
def frontB (b : Int) (l : List Bd) : List Bd:=l.takeWhile fun c=>decide (c.b ≤ b)
def addB (den : Int) (x : List Bd × Int) (v : Int × Int × Int) : List Bd × Int :=
 if (frontB (bedN v.1) x.1).any (fun c=>decide (c.b = bedN v.1)) then x
 else (x.1.take (frontB (bedN v.1) x.1).length ++ (⟨bedN v.1,x.2 * v.2.1 / 512,min den (x.2 * v.2.1 / 512 + v.2.2 % 50)⟩ :: x.1.drop (frontB (bedN v.1) x.1).length),x.2 - x.2 * v.2.1 / 512)
structure BedsI (den : Int) (x : List Bd × Int) : Prop where
 up : x.1.Pairwise fun a b=>a.b < b.b
 ok : ∀ c ∈ x.1,(c.b = 0 ∨ bedOk c.b = true) ∧ 0 ≤ c.lo ∧ c.lo ≤ c.hi ∧ c.hi ≤ den
 sum : loS x.1 + x.2 = den
 left0 : 0 ≤ x.2
theorem addB_ok {den : Int} {x : List Bd × Int} {v : Int × Int × Int} (h : BedsI den x) (hd : 1 ≤ den) (hv : 0 ≤ v.2.1 ∧ v.2.1 ≤ 255) (hw : 0 ≤ v.2.2) : BedsI den (addB den x v) ∧ (addB den x v).1.length ≤ x.1.length + 1:=by
 unfold addB
 split
 · exact ⟨h,by omega⟩
 · rename_i hn
   obtain ⟨l,left⟩:=x
   simp only at hn ⊢
   have hs:=h.sum
   have hl0:=h.left0
   simp only at hs hl0
   have hlow : 0 ≤ left * v.2.1 / 512 ∧ left * v.2.1 / 512 ≤ left:=by
    have h0:=Int.mul_nonneg hl0 hv.1
    have h1 : left * v.2.1 ≤ left * 255:=Int.mul_le_mul_of_nonneg_left hv.2 hl0
    omega
   have hlos : 0 ≤ loS l:=by
    have : ∀ m : List Bd,(∀ c ∈ m,0 ≤ c.lo) → 0 ≤ loS m:=by
     intro m
     induction m with
     | nil=>intro _; simp [loS]
     | cons c m ih=>intro hc; have h1:=hc c (by simp); have h2:=ih fun x hx=>hc x (by simp [hx]); simp only [loS,List.map_cons,List.sum_cons] at h2 ⊢; omega
    exact this l fun c hc=>(h.ok c hc).2.1
   generalize hlo : left * v.2.1 / 512 = low at *
   have hfr : l.take (frontB (bedN v.1) l).length = frontB (bedN v.1) l:=by
    unfold frontB
    exact (List.prefix_iff_eq_take.1 (List.takeWhile_prefix _)).symm
   have hdr : l.drop (frontB (bedN v.1) l).length = l.dropWhile fun c=>decide (c.b ≤ bedN v.1):=by
    have e:=List.takeWhile_append_dropWhile (p:=fun c : Bd=>decide (c.b ≤ bedN v.1)) (l:=l)
    have:=congrArg (List.drop (frontB (bedN v.1) l).length) e
    rw [← this]
    unfold frontB
    rw [List.drop_left]
   have hle : ∀ c ∈ frontB (bedN v.1) l,c.b < bedN v.1:=fun c hc=>by
    have h1 : decide (c.b ≤ bedN v.1) = true:=mem_tw (p:=fun c : Bd=>decide (c.b ≤ bedN v.1)) hc
    have h2 : ¬ c.b = bedN v.1:=fun e=>hn (List.any_eq_true.2 ⟨c,hc,by simpa using e⟩)
    have h1 : c.b ≤ bedN v.1:=by simpa using h1
    omega
   have hspl : frontB (bedN v.1) l ++ l.drop (frontB (bedN v.1) l).length = l:=by
    conv=>lhs; lhs; rw [← hfr]
    exact List.take_append_drop _ _
   have hup:=h.up
   simp only at hup
   rw [← hspl] at hup
   obtain ⟨u1,u2,u3⟩:=List.pairwise_append.1 hup
   have hgt : ∀ c ∈ l.drop (frontB (bedN v.1) l).length,bedN v.1 < c.b:=by
    rw [hdr]
    intro c hc
    cases hdw : l.dropWhile (fun c=>decide (c.b ≤ bedN v.1)) with
    | nil=>rw [hdw] at hc; cases hc
    | cons d dl =>
      have hd0 : ¬ (decide (d.b ≤ bedN v.1) = true):=by
       have:=List.head?_dropWhile_not (p:=fun c : Bd=>decide (c.b ≤ bedN v.1)) (l:=l)
       rw [hdw] at this
       simpa using this
      have hd1 : bedN v.1 < d.b:=by simpa using hd0
      rw [hdw] at hc
      rw [hdr,hdw] at u2
      rcases List.mem_cons.1 hc with rfl | hc
      · exact hd1
      · have:=(List.pairwise_cons.1 u2).1 c hc
        omega
   refine ⟨⟨?_,?_,?_,by simp only; omega⟩,?_⟩
   · simp only [hfr]
     refine List.pairwise_append.2 ⟨u1,List.pairwise_cons.2 ⟨fun c hc=>hgt c hc,u2⟩,fun a ha b hb=>?_⟩
     rcases List.mem_cons.1 hb with rfl | hb
     · exact hle a ha
     · exact u3 a ha b hb
   · simp only [hfr]
     intro c hc
     rcases List.mem_append.1 hc with hc | hc
     · exact h.ok c (by rw [← hspl]; exact List.mem_append_left _ hc)
     · rcases List.mem_cons.1 hc with rfl | hc
       · refine ⟨bedN_ok _,hlow.1,by simp only; omega,by simp only; omega⟩
       · exact h.ok c (by rw [← hspl]; exact List.mem_append_right _ hc)
   · simp only [hfr]
     have : loS l = loS (frontB (bedN v.1) l) + loS (l.drop (frontB (bedN v.1) l).length):=by
      conv=>lhs; rw [← hspl]
      simp only [loS,List.map_append,List.sum_append]
     simp only [loS,List.map_append,List.sum_append,List.map_cons,List.sum_cons] at this hs ⊢
     omega
   · simp only [List.length_append,List.length_cons,List.length_take,List.length_drop]
     omega
end Go.Proofs.Ytlbfkhikmigpbaa

namespace Go.Proofs.Ytlbfkhikmigpbaa
open Go Go.Oc
set_option linter.unusedSimpArgs false
set_option linter.unusedVariables false
set_option maxRecDepth 8000
set_option maxHeartbeats 2000000
theorem bed_ok (n : Int) (h0 : 0 ≤ n) (h1 : n ≤ 255) : ACalls Try.prog 60 [.it .u8 n] (i64 (bedN n)):=by
 have e1 : n.tmod 16 = n % 16:=Int.tmod_eq_emod_of_nonneg h0
 have e2 : IntKind.i64.wrap (n.tdiv 16) = n / 16:=by rw [Int.tdiv_eq_ediv_of_nonneg h0,zI] <;> omega
 have e3 : (n / 16).tmod 3 = n / 16 % 3:=Int.tmod_eq_emod_of_nonneg (by omega)
 have e4 : (n % 16).tmod 12 = n % 16 % 12:=Int.tmod_eq_emod_of_nonneg (by omega)
 have e5 : IntKind.i64.wrap n = n:=by rw [zI] <;> omega
 refine acalls_st (rs:=[i64 (bedN n)]) [.tmp 2] Try.func60 rfl (by kernel_rfl) Try.ntmps60 rfl (by simp) rfl fun C vs=>?_
 repeat refine zq ?_
 refine zb (by kernel_rfl) fun K hK=>?_
 simp only [go_sem]
 (try simp (disch:=omega) only [zI])
 repeat first | intro _ | refine ⟨by omega,?_⟩ | refine ⟨⟨by omega,by omega⟩,?_⟩
 refine hK _ ?_
 clear hK K
 refine zw (zk [0]) ?_
 simp only [go_sem]
 by_cases hz : n % 16 = 0
 · have c : (n % 16 == 0) = true:=by simpa using hz
   repeat refine zq ?_
   refine zb (by kernel_rfl) fun K hK=>?_
   simp only [go_sem,e1,c]
   (try simp (disch:=omega) only [zI])
   repeat first | intro _ | refine ⟨by omega,?_⟩ | refine ⟨⟨by omega,by omega⟩,?_⟩
   refine hK _ ?_
   clear hK K
   refine zw (zk [0,5]) ?_
   simp only [go_sem]
   repeat refine zq ?_
   refine zc rfl (fun hc=>?_) (fun hc=>?_) <;> (try simp only [go_sem] at hc)
   repeat refine zq ?_
   refine zb (by kernel_rfl) fun K hK=>?_
   simp only [go_sem]
   (try simp (disch:=omega) only [zI])
   repeat first | intro _ | refine ⟨by omega,?_⟩ | refine ⟨⟨by omega,by omega⟩,?_⟩
   refine hK _ ?_
   clear hK K
   refine zw (zk [2]) ?_
   simp only [go_sem]
   refine ze ?_
   simp only [go_sem]
   simp [bedN,hz]
 · have c : (n % 16 == 0) = false:=by simpa using hz
   repeat refine zq ?_
   refine zb (by kernel_rfl) fun K hK=>?_
   simp only [go_sem,e1,c]
   (try simp (disch:=omega) only [zI])
   repeat first | intro _ | refine ⟨by omega,?_⟩ | refine ⟨⟨by omega,by omega⟩,?_⟩
   refine hK _ ?_
   clear hK K
   refine zw (zk [0,5]) ?_
   simp only [go_sem]
   repeat refine zq ?_
   refine zc rfl (fun hc=>?_) (fun hc=>?_) <;> (try simp only [go_sem] at hc)
   refine zx ?_
   try simp only [go_sem]
   repeat refine zq ?_
   refine zb (by kernel_rfl) fun K hK=>?_
   simp only [go_sem,e1,e2,e3,e4,e5]
   (try simp (disch:=omega) only [zI])
   repeat first | intro _ | refine ⟨by omega,?_⟩ | refine ⟨⟨by omega,by omega⟩,?_⟩
   refine hK _ ?_
   clear hK K
   refine zw (zk [2]) ?_
   simp only [go_sem]
   refine ze ?_
   simp only [go_sem]
   simp only [bedN,if_neg hz]
structure Mt where
 den : Int
 aims : List (List Int)
 start : Int
 out : Int
 ends : List (Int × Int)
abbrev it8 (n : Int) : RV:=.it .u8 n
abbrev mtC (m : Mt) : List RV:=[it8 m.den,.sl 12 (m.aims.map fun e=>e.map it8),it8 m.start,it8 m.out,.sl 2 (m.ends.map fun e=>[.it .u16 e.1,.it .u16 e.2])]
structure WfM (m : Mt) : Prop where
 den : 0 ≤ m.den ∧ m.den ≤ 255
 aims : ∀ e ∈ m.aims,e.length = 12 ∧ ∀ x ∈ e,0 ≤ x ∧ x ≤ 255
 start : 0 ≤ m.start ∧ m.start ≤ 255
 out : 0 ≤ m.out ∧ m.out ≤ 255
 ends : ∀ e ∈ m.ends,(0 ≤ e.1 ∧ e.1 ≤ 65535) ∧ 0 ≤ e.2 ∧ e.2 ≤ 65535
def vAt (e : List Int) (k : Nat) : Int × Int × Int:=(e.getD (3 * k) 0,e.getD (3 * k + 1) 0,e.getD (3 * k + 2) 0)
def stB (den : Int) (e : List Int) : Nat → List Bd × Int
 | 0=>([],den)
 | k + 1=>addB den (stB den e k) (vAt e k)
def finB (den : Int) : List Bd → List Bd
 | []=>[⟨201,0,den⟩]
 | c :: l=>⟨c.b,c.lo,den⟩ :: l
def bedsM (m : Mt) (i : Nat) : List Bd:=if i < m.aims.length then (stB (4 + m.den) (m.aims.getD i []) 4).1 else []
def aimM (m : Mt) (i : Nat) : Am:=⟨201,finB (4 + m.den) (bedsM m i)⟩
def aimN (m : Mt) : Nat:=max 1 (min 3 m.aims.length)
def endM (e : Int × Int) : Sp:=(e.1 * 15,min 1000000 (e.1 * 15 + e.2 * 4))
def ruM (m : Mt) : Ru:=⟨4 + m.den,(List.range (aimN m)).map (aimM m),2 + m.start % 7,m.out % 3,((m.ends.take 3).map endM) ++ [(1000000,1000000)]⟩
theorem v_drop {e : List Int} (h : e.length = 12) {k : Nat} (hk : k < 4) : List.take 3 (List.drop (k * 3) (e.map it8)) = [it8 (vAt e k).1,it8 (vAt e k).2.1,it8 (vAt e k).2.2] ∧ 3 ≤ (List.drop (k * 3) (e.map it8)).length:=by
 match e,h with
 | [a0, a1, a2, a3, a4, a5, a6, a7, a8, a9, a10, a11], _ =>
   have : k = 0 ∨ k = 1 ∨ k = 2 ∨ k = 3:=by omega
   rcases this with rfl | rfl | rfl | rfl <;> exact ⟨rfl,by simp⟩
theorem v_le {e : List Int} (h : ∀ x ∈ e,0 ≤ x ∧ x ≤ 255) (k : Nat) : (0 ≤ (vAt e k).1 ∧ (vAt e k).1 ≤ 255) ∧ (0 ≤ (vAt e k).2.1 ∧ (vAt e k).2.1 ≤ 255) ∧ 0 ≤ (vAt e k).2.2 ∧ (vAt e k).2.2 ≤ 255:=by
 have g : ∀ i,0 ≤ e.getD i 0 ∧ e.getD i 0 ≤ 255:=fun i=>by
  rw [List.getD_eq_getElem?_getD]
  cases hx : e[i]? with
  | none=>simp
  | some x=>exact h x (List.mem_of_getElem? hx)
 exact ⟨g _,g _,g _⟩
theorem stB_ok {den : Int} (hd : 1 ≤ den) {e : List Int} (h : ∀ x ∈ e,0 ≤ x ∧ x ≤ 255) : ∀ k,BedsI den (stB den e k) ∧ (stB den e k).1.length ≤ k
 | 0=>⟨⟨by simp [stB],by simp [stB],by simp [stB,loS],by simp only [stB]; omega⟩,by simp [stB]⟩
 | k + 1 => by
   obtain ⟨h1,h2⟩:=stB_ok hd h k
   obtain ⟨g1,g2⟩:=addB_ok (v:=vAt e k) h1 hd (v_le h k).2.1 (v_le h k).2.2.1
   exact ⟨g1,by simp only [stB]; omega⟩
theorem loS_nonneg : ∀ m : List Bd,(∀ c ∈ m,0 ≤ c.lo) → 0 ≤ loS m
 | [],_=>by simp [loS]
 | c :: m,hc=>by have h1:=hc c (by simp); have h2:=loS_nonneg m fun x hx=>hc x (by simp [hx]); simp only [loS,List.map_cons,List.sum_cons] at h2 ⊢; omega
theorem beds_left {den : Int} {x : List Bd × Int} (h : BedsI den x) : x.2 ≤ den:=by
 have h1:=loS_nonneg x.1 fun c hc=>(h.ok c hc).2.1
 have h2:=h.sum
 omega
theorem front_get {b : Int} {l : List Bd} {j : Nat} (h : j < (frontB b l).length) : ∃ c,l[j]? = some c ∧ (frontB b l)[j]? = some c ∧ c.b ≤ b:=by
 obtain ⟨c,hc⟩:=opt_of_lt h
 have hp : frontB b l <+: l:=List.takeWhile_prefix _
 obtain ⟨t,ht⟩:=hp
 refine ⟨c,?_,hc,?_⟩
 · rw [← ht,List.getElem?_append_left h]; exact hc
 · have:=mem_tw (p:=fun c : Bd=>decide (c.b ≤ b)) (mem_of_opt hc)
   simpa using this
theorem front_end {b : Int} {l : List Bd} {c : Bd} (h : l[(frontB b l).length]? = some c) : b < c.b:=by
 have e:=List.takeWhile_append_dropWhile (p:=fun c : Bd=>decide (c.b ≤ b)) (l:=l)
 have h' : ((l.takeWhile fun c=>decide (c.b ≤ b)) ++ l.dropWhile fun c=>decide (c.b ≤ b))[(l.takeWhile fun c=>decide (c.b ≤ b)).length]? = some c:=by rw [e]; exact h
 rw [List.getElem?_append_right (Nat.le_refl _),Nat.sub_self] at h'
 have h2 : (l.dropWhile fun c=>decide (c.b ≤ b))[0]? = some c:=h'
 have h3:=List.head?_dropWhile_not (p:=fun c : Bd=>decide (c.b ≤ b)) (l:=l)
 rw [List.head?_eq_getElem?,h2] at h3
 simpa using h3
theorem front_le (b : Int) (l : List Bd) : (frontB b l).length ≤ l.length:=(List.takeWhile_prefix _).length_le
end Go.Proofs.Ytlbfkhikmigpbaa

namespace Go.Proofs.Ytlbfkhikmigpbaa
open Go Go.Oc
set_option linter.unusedSimpArgs false
set_option linter.unusedVariables false
set_option maxRecDepth 8000
set_option maxHeartbeats 4000000
abbrev aimsN (m : Mt) (i : Nat) : List Am:=(List.range i).map (aimM m)
theorem aimsN_succ (m : Mt) (i : Nat) : aimsN m (i + 1) = aimsN m i ++ [aimM m i]:=by simp only [aimsN,List.range_succ,List.map_append,List.map_cons,List.map_nil]
theorem aimN_lt (m : Mt) (i : Nat) : i < aimN m ↔ i = 0 ∨ (i < m.aims.length ∧ i < 3):=by unfold aimN; omega
def vI (b : Nat → Bool) (j : Nat) (v : AV) : AV:=if b j then v else .r .un
theorem dI {ops : Array Oper} {b : Nat → Bool} (h : ∀ j e,j < ops.size → (deps ops j).contains e = true → b j = true → b e = true) (j e : Nat) (h1 : j < ops.size) (h2 : (deps ops j).contains e = true) (he : b e = false) : b j = false:=by
 cases hb : b j
 · rfl
 · rw [h j e h1 h2 hb] at he; cases he
def ibF (A : List RV) (i k j : Nat) (left : Int) (c : Bd) (l : List Bd) (b : Nat → Bool) (vs : Nat → Nat) : List (Nat × AV) :=
 [(1,.r (.rp A)),(2,.pt 2 (vs 2) 0),(3,.pt 3 (vs 3) 0),(4,.r (i64 (i : Int))),(5,.pt 5 (vs 5) 0),(6,.r (i64 left)),(7,.r (i64 (k : Int))),(10,.r (i64 (j : Int))),(13,.r (.rp (bedR c))),
  (123,vI b 0 (.r .ns)),
  (124,vI b 1 (.pt 5 (vs 5) 1)),
  (125,vI b 2 (.r (.sl 3 (l.map bedR)))),
  (126,vI b 3 (.r (i64 (j : Int)))),
  (127,vI b 4 (.r (.sl 3 ((l.map bedR).take j)))),
  (128,vI b 5 (.os 128 (vs 128 - (bif b 13 then 2 else bif b 8 then 1 else 0)) 3 0 j)),
  (129,vI b 6 (.r (.ag (bedR c)))),
  (130,vI b 7 (.r (.sl 3 [bedR c]))),
  (131,vI b 8 (.os 128 (vs 128 - (bif b 13 then 1 else 0)) 3 0 (j + 1))),
  (132,vI b 9 (.pt 5 (vs 5) 1)),
  (133,vI b 10 (.r (.sl 3 (l.map bedR)))),
  (134,vI b 11 (.r (i64 (j : Int)))),
  (135,vI b 12 (.r (.sl 3 ((l.map bedR).drop j)))),
  (136,vI b 13 (.os 128 (vs 128) 3 0 (l.length + 1))),
  (137,vI b 14 (.pt 5 (vs 5) 1))]
def ibR (d s o : Int) (i j : Nat) (aa : List (List RV)) (c : Bd) (l : List Bd) (b : Nat → Bool) (vs : Nat → Nat) : List (Nat × RowC) :=
 bif b 15 then [(2,.box [.r (i64 0),.r .ns,.r (i64 0),.r (i64 0),.r .ns]),(3,.box [.r (i64 d),.os 158 (vs 158) 2 0 i,.r (i64 s),.r (i64 o),.r .ns]),(5,.box [.r (i64 201),.os 128 (vs 128) 3 0 (l.length + 1)]),(128,.arr 90 3 ((l.map bedR).take j ++ bedR c :: (l.map bedR).drop j)),(158,.arr 78 2 aa)]
 else bif b 13 then [(2,.box [.r (i64 0),.r .ns,.r (i64 0),.r (i64 0),.r .ns]),(3,.box [.r (i64 d),.os 158 (vs 158) 2 0 i,.r (i64 s),.r (i64 o),.r .ns]),(5,.box [.r (i64 201),.r (.sl 3 (l.map bedR))]),(128,.arr 90 3 ((l.map bedR).take j ++ bedR c :: (l.map bedR).drop j)),(158,.arr 78 2 aa)]
 else bif b 8 then [(2,.box [.r (i64 0),.r .ns,.r (i64 0),.r (i64 0),.r .ns]),(3,.box [.r (i64 d),.os 158 (vs 158) 2 0 i,.r (i64 s),.r (i64 o),.r .ns]),(5,.box [.r (i64 201),.r (.sl 3 (l.map bedR))]),(128,.arr 90 3 ((l.map bedR).take j ++ [bedR c])),(158,.arr 78 2 aa)]
 else bif b 5 then [(2,.box [.r (i64 0),.r .ns,.r (i64 0),.r (i64 0),.r .ns]),(3,.box [.r (i64 d),.os 158 (vs 158) 2 0 i,.r (i64 s),.r (i64 o),.r .ns]),(5,.box [.r (i64 201),.r (.sl 3 (l.map bedR))]),(128,.arr 90 3 ((l.map bedR).take j)),(158,.arr 78 2 aa)]
 else [(2,.box [.r (i64 0),.r .ns,.r (i64 0),.r (i64 0),.r .ns]),(3,.box [.r (i64 d),.os 158 (vs 158) 2 0 i,.r (i64 s),.r (i64 o),.r .ns]),(5,.box [.r (i64 201),.r (.sl 3 (l.map bedR))]),(158,.arr 78 2 aa)]
theorem awp_fitV {P : Program} {C : Ctx} {c : Code} {Q : Exit → AS → Prop} {n : Nat} {F : (Nat → Nat) → List (Nat × AV)} {R : (Nat → Nat) → List (Nat × RowC)} {s : AS} (h : FitV n F R s) (hQ : ∀ vs,awp P C c Q (st n (F vs) vs (R vs))) : awp P C c Q s:=by
 obtain ⟨vs,hs⟩:=h
 exact zw hs (hQ vs)
theorem mrules_walk (m : Mt) (hw : WfM m) : ∃ c,Try.f32.body = some c ∧ ∀ (C : Ctx) (vs0 : Nat → Nat) (Q : Exit → AS → Prop),
 (∀ vs,awp Try.prog C .ret Q (st 205 [(2,.pt 2 (vs 2) 0)] vs [(2,.box [.r (i64 (ruM m).d),.r (aimsR (ruM m).aims),.r (i64 (ruM m).start),.r (i64 (ruM m).out),.os 196 (vs 196) 2 0 (ruM m).ends.length]),(196,.arr 52 2 ((ruM m).ends.map spanR))])) →
 awp Try.prog C c Q (st 205 (argL 0 [.ag (mtC m)]) vs0 []):=by
 have hone:=one_ok 1000000
 obtain ⟨d0,d1⟩:=hw.den
 obtain ⟨s0,s1⟩:=hw.start
 obtain ⟨o0,o1⟩:=hw.out
 have q1 : IntKind.i64.wrap m.den = m.den:=by rw [zI] <;> omega
 have q2 : IntKind.i64.wrap m.start = m.start:=by rw [zI] <;> omega
 have q3 : IntKind.i64.wrap m.out = m.out:=by rw [zI] <;> omega
 have q4 : m.start.tmod 7 = m.start % 7:=Int.tmod_eq_emod_of_nonneg s0
 have q5 : m.out.tmod 3 = m.out % 3:=Int.tmod_eq_emod_of_nonneg o0
 refine ⟨_,rfl,fun C vs0 Q hQ=>?_⟩
 repeat refine zq ?_
 refine zb (by kernel_rfl) fun K hK=>?_
 simp only [go_sem]
 (try simp (disch:=omega) only [zI])
 repeat first | intro _ | refine ⟨by omega,?_⟩ | refine ⟨⟨by omega,by omega⟩,?_⟩
 refine hK _ ?_
 clear hK K
 refine zw (sub_frzP 1 1 (mtC m) (by omega) rfl rfl) ?_
 refine zw (zk [1,2]) ?_
 simp only [go_sem]
 repeat refine zq ?_
 refine zb (by kernel_rfl) fun K hK=>?_
 simp only [go_sem,q1,q2,q3,q4,q5]
 (try simp (disch:=omega) only [zI])
 repeat first | intro _ | refine ⟨by omega,?_⟩ | refine ⟨⟨by omega,by omega⟩,?_⟩
 refine hK _ ?_
 clear hK K
 refine zw (zk [1,2,3]) ?_
 simp only [go_sem]
 repeat refine zq ?_
 refine zb (by kernel_rfl) fun K hK=>?_
 simp only [go_sem]
 (try simp (disch:=omega) only [zI])
 repeat first | intro _ | refine ⟨by omega,?_⟩ | refine ⟨⟨by omega,by omega⟩,?_⟩
 refine hK _ ?_
 clear hK K
 refine zw (zk [1,2,3,4]) ?_
 simp only [go_sem]
 repeat refine zq ?_
 refine zd ?_
 refine zw (sub_ownB 3 1 158 78 2 (by omega) (by omega) rfl rfl) ?_
 try simp only [go_sem]
 refine awp_whileV (n:=205) (fun (i : Nat) vs=>[(1,.r (.rp (mtC m))),(2,.pt 2 (vs 2) 0),(3,.pt 3 (vs 3) 0),(4,.r (i64 i))])
  (fun i vs=>[(2,.box [.r (i64 0),.r .ns,.r (i64 0),.r (i64 0),.r .ns]),(3,.box [.r (i64 (4 + m.den)),.os 158 (vs 158) 2 0 i,.r (i64 (2 + m.start % 7)),.r (i64 (m.out % 3)),.r .ns]),(158,.arr 78 2 ((aimsN m i).map aimR))])
  (fun i=>i ≤ aimN m) (fun i=>aimN m - i) 0 (zj [] ?_ ?_) (Nat.zero_le _) ?_
 · try simp only [go_sem]
 · try simp only [go_sem]
   rfl
 · intro i vs hi
   have hml:=aimN_lt m i
   repeat refine zq ?_
   refine awp_joinV (n:=205) (fun (_ : Unit) vs=>[(1,.r (.rp (mtC m))),(2,.pt 2 (vs 2) 0),(3,.pt 3 (vs 3) 0),(4,.r (i64 i)),(43,.r (.bo (decide (i < aimN m))))])
    (fun _ vs=>[(2,.box [.r (i64 0),.r .ns,.r (i64 0),.r (i64 0),.r .ns]),(3,.box [.r (i64 (4 + m.den)),.os 158 (vs 158) 2 0 i,.r (i64 (2 + m.start % 7)),.r (i64 (m.out % 3)),.r .ns]),(158,.arr 78 2 ((aimsN m i).map aimR))]) (fun _=>True) (fun _ h=>h) ?_ ?_
   · repeat refine zq ?_
     refine zb (by kernel_rfl) fun K hK=>?_
     simp only [go_sem]
     (try simp (disch:=omega) only [zI])
     repeat' first | intro _ | refine And.intro ?_ ?_
     all_goals first | omega | skip
     all_goals (refine hK _ ?_; clear hK K)
     all_goals (try simp only [go_sem])
     all_goals (refine ⟨(),zj [] ?_ ?_⟩ <;> try simp only [go_sem])
     all_goals (rw [Bool.eq_iff_iff]; simp; omega)
   · intro _ vs _
     repeat refine zq ?_
     refine zc rfl (fun hc=>?_) (fun hc=>?_) <;> (try simp only [go_sem] at hc)
     · have hil : i < aimN m:=by simpa using hc
       refine zx ?_
       try simp only [go_sem]
       repeat refine zq ?_
       refine zd ?_
       repeat refine zq ?_
       refine zb (by kernel_rfl) fun K hK=>?_
       simp only [go_sem]
       (try simp (disch:=omega) only [zI])
       repeat first | intro _ | refine ⟨by omega,?_⟩ | refine ⟨⟨by omega,by omega⟩,?_⟩
       refine hK _ ?_
       clear hK K
       refine zw (zk [1,2,3,4,5]) ?_
       simp only [go_sem]
       repeat refine zq ?_
       refine zb (by kernel_rfl) fun K hK=>?_
       simp only [go_sem]
       (try simp (disch:=omega) only [zI])
       repeat first | intro _ | refine ⟨by omega,?_⟩ | refine ⟨⟨by omega,by omega⟩,?_⟩
       refine hK _ ?_
       clear hK K
       refine zw (zk [1,2,3,4,5,6]) ?_
       simp only [go_sem]
       repeat refine zq ?_
       refine zb (by kernel_rfl) fun K hK=>?_
       simp only [go_sem]
       (try simp (disch:=omega) only [zI])
       repeat first | intro _ | refine ⟨by omega,?_⟩ | refine ⟨⟨by omega,by omega⟩,?_⟩
       refine hK _ ?_
       clear hK K
       refine zw (sub_ownB 5 1 128 90 3 (by omega) (by omega) rfl rfl) ?_
       refine zw (zk [1,2,3,4,5,6,7]) ?_
       simp only [go_sem]
       repeat refine zq ?_
       refine zd ?_
       generalize hee : m.aims.getD i [] = e
       have heL : i < m.aims.length → m.aims[i]? = some e ∧ e.length = 12 ∧ ∀ x ∈ e,0 ≤ x ∧ x ≤ 255:=fun h=>by
        obtain ⟨e',he'⟩:=opt_of_lt h
        have : e' = e:=by rw [← hee]; simp [List.getD,he']
        subst this
        exact ⟨he',hw.aims e' (mem_of_opt he')⟩
       obtain ⟨N,hN⟩ : ∃ N : Nat,N = if i < m.aims.length then 4 else 0:=⟨_,rfl⟩
       refine awp_uptoV (n:=205) N (fun k vs=>[(1,.r (.rp (mtC m))),(2,.pt 2 (vs 2) 0),(3,.pt 3 (vs 3) 0),(4,.r (i64 i)),(5,.pt 5 (vs 5) 0),(6,.r (i64 (stB (4 + m.den) e k).2)),(7,.r (i64 (k : Int)))])
        (fun k vs=>[(2,.box [.r (i64 0),.r .ns,.r (i64 0),.r (i64 0),.r .ns]),(3,.box [.r (i64 (4 + m.den)),.os 158 (vs 158) 2 0 i,.r (i64 (2 + m.start % 7)),.r (i64 (m.out % 3)),.r .ns]),(5,.box [.r (i64 201),.os 128 (vs 128) 3 0 (stB (4 + m.den) e k).1.length]),(128,.arr 90 3 ((stB (4 + m.den) e k).1.map bedR)),(158,.arr 78 2 ((aimsN m i).map aimR))]) (fun _=>True) 0 (zj [] ?_ ?_) (Nat.zero_le _) trivial ?_
       · try simp only [go_sem]
         simp [stB]
       · try simp only [go_sem]
         simp [stB]
       · intro k vs hk _
         repeat refine zq ?_
         refine awp_joinV (n:=205) (fun (_ : Unit) vs=>[(1,.r (.rp (mtC m))),(2,.pt 2 (vs 2) 0),(3,.pt 3 (vs 3) 0),(4,.r (i64 i)),(5,.pt 5 (vs 5) 0),(6,.r (i64 (stB (4 + m.den) e k).2)),(7,.r (i64 (k : Int))),(58,.r (.bo (decide (k < N))))])
          (fun _ vs=>[(2,.box [.r (i64 0),.r .ns,.r (i64 0),.r (i64 0),.r .ns]),(3,.box [.r (i64 (4 + m.den)),.os 158 (vs 158) 2 0 i,.r (i64 (2 + m.start % 7)),.r (i64 (m.out % 3)),.r .ns]),(5,.box [.r (i64 201),.os 128 (vs 128) 3 0 (stB (4 + m.den) e k).1.length]),(128,.arr 90 3 ((stB (4 + m.den) e k).1.map bedR)),(158,.arr 78 2 ((aimsN m i).map aimR))]) (fun _=>True) (fun _ h=>h) ?_ ?_
         · repeat refine zq ?_
           refine zb (by kernel_rfl) fun K hK=>?_
           simp only [go_sem]
           (try simp (disch:=omega) only [zI])
           repeat' first | intro _ | refine And.intro ?_ ?_
           all_goals first | omega | skip
           all_goals (refine hK _ ?_; clear hK K)
           all_goals (try simp only [go_sem])
           all_goals (refine ⟨(),zj [] ?_ ?_⟩ <;> try simp only [go_sem])
           all_goals (rw [Bool.eq_iff_iff]; simp; first | omega | (split at hN <;> omega))
         · intro _ vs _
           repeat refine zq ?_
           refine zc rfl (fun hc=>?_) (fun hc=>?_) <;> (try simp only [go_sem] at hc)
           · have hkN : k < N:=by simpa using hc
             have hiL : i < m.aims.length:=by
              by_cases h : i < m.aims.length
              · exact h
              · rw [if_neg h] at hN; omega
             have hk4 : k < 4:=by rw [if_pos hiL] at hN; omega
             obtain ⟨he1,he2,he3⟩:=heL hiL
             obtain ⟨hv1,hv2⟩:=v_drop he2 hk4
             obtain ⟨⟨vx0,vx1⟩,⟨vy0,vy1⟩,vz0,vz1⟩:=v_le he3 k
             have hst:=(stB_ok (den:=4 + m.den) (by omega) he3 k).1
             have hsl:=(stB_ok (den:=4 + m.den) (by omega) he3 k).2
             have hnx : stB (4 + m.den) e (k + 1) = addB (4 + m.den) (stB (4 + m.den) e k) (vAt e k):=rfl
             generalize hS : stB (4 + m.den) e k = S at hst hsl hnx ⊢
             obtain ⟨l,left⟩:=S
             simp only at hsl
             generalize hv : vAt e k = v at *
             obtain ⟨x,y,z⟩:=v
             simp only at hv1 vx0 vx1 vy0 vy1 vz0 vz1
             refine zx ?_
             try simp only [go_sem]
             repeat refine zq ?_
             refine zd ?_
             repeat refine zq ?_
             refine zb (by kernel_rfl) fun K hK=>?_
             simp only [go_sem,he1,hiL,hv1,hv2]
             (try simp (disch:=omega) only [zI])
             repeat first | intro _ | refine ⟨by omega,?_⟩ | refine ⟨⟨by omega,by omega⟩,?_⟩
             refine hK _ ?_
             clear hK K
             refine zw (sub_frzP 8 8 [it8 x,it8 y,it8 z] (by omega) rfl rfl) ?_
             refine zw (zk [1,2,3,4,5,6,7,8]) ?_
             simp only [go_sem]
             have hbed:=bed_ok x vx0 vx1
             repeat refine zq ?_
             refine zb (by kernel_rfl) fun K hK=>?_
             simp only [go_sem]
             (try simp (disch:=omega) only [zI])
             refine zh (hbed) rfl (by simp only [go_sem,i64,ints]) (by simp only [go_sem,i64,ints]) (by first | exact .inl rfl | exact .inr rfl) ?_
             (try simp only [go_sem])
             (try simp (disch:=omega) only [zI])
             repeat first | intro _ | refine ⟨by omega,?_⟩ | refine ⟨⟨by omega,by omega⟩,?_⟩
             refine hK _ ?_
             clear hK K
             refine zw (zk [1,2,3,4,5,6,7,8,9,10]) ?_
             simp only [go_sem]
             repeat refine zq ?_
             refine zb (by kernel_rfl) fun K hK=>?_
             simp only [go_sem]
             (try simp (disch:=omega) only [zI])
             repeat first | intro _ | refine ⟨by omega,?_⟩ | refine ⟨⟨by omega,by omega⟩,?_⟩
             refine hK _ ?_
             clear hK K
             refine zw (zk [1,2,3,4,5,6,7,8,9,10,11]) ?_
             simp only [go_sem]
             repeat refine zq ?_
             refine zd ?_
             refine awp_uptoV (n:=205) (frontB (bedN x) l).length (fun j vs=>[(1,.r (.rp (mtC m))),(2,.pt 2 (vs 2) 0),(3,.pt 3 (vs 3) 0),(4,.r (i64 i)),(5,.pt 5 (vs 5) 0),(6,.r (i64 left)),(7,.r (i64 (k : Int))),(8,.r (.rp [it8 x,it8 y,it8 z])),(9,.r (i64 (bedN x))),(10,.r (i64 (j : Int))),(11,.r (.bo (((frontB (bedN x) l).take j).any fun c=>decide (c.b = bedN x))))])
              (fun j vs=>[(2,.box [.r (i64 0),.r .ns,.r (i64 0),.r (i64 0),.r .ns]),(3,.box [.r (i64 (4 + m.den)),.os 158 (vs 158) 2 0 i,.r (i64 (2 + m.start % 7)),.r (i64 (m.out % 3)),.r .ns]),(5,.box [.r (i64 201),.os 128 (vs 128) 3 0 l.length]),(128,.arr 90 3 (l.map bedR)),(158,.arr 78 2 ((aimsN m i).map aimR))]) (fun _=>True) 0 (zj [] ?_ ?_) (Nat.zero_le _) trivial ?_
             · try simp only [go_sem]
               rfl
             · try simp only [go_sem]
             · intro j vs hj _
               have hfl:=front_le (bedN x) l
               by_cases hjN : j < (frontB (bedN x) l).length
               · obtain ⟨c,hc1,hc2,hc3⟩:=front_get hjN
                 have hjl : j < l.length:=by omega
                 repeat refine zq ?_
                 refine zb (by kernel_rfl) fun K hK=>?_
                 simp only [go_sem,hc1,hc3,hjl,bedR,List.headD_cons]
                 (try simp (disch:=omega) only [zI])
                 repeat first | intro _ | refine ⟨by omega,?_⟩ | refine ⟨⟨by omega,by omega⟩,?_⟩
                 refine hK _ ?_
                 clear hK K
                 refine zw (zk [1,2,3,4,5,6,7,8,9,10,11,85]) ?_
                 simp only [go_sem]
                 repeat refine zq ?_
                 refine zc rfl (fun hc=>?_) (fun hc=>?_) <;> (try simp only [go_sem] at hc)
                 refine zx ?_
                 try simp only [go_sem]
                 repeat refine zq ?_
                 refine zd ?_
                 have hts : ((frontB (bedN x) l).take (j + 1)).any (fun c=>decide (c.b = bedN x)) = (((frontB (bedN x) l).take j).any (fun c=>decide (c.b = bedN x)) || decide (c.b = bedN x)):=by
                  rw [List.take_add_one,hc2]; simp
                 have hj1 : IntKind.i64.wrap ((j : Int) + 1) = ((j + 1 : Nat) : Int):=by rw [zI] <;> omega
                 cases hA : ((frontB (bedN x) l).take j).any (fun c=>decide (c.b = bedN x)) with
                 | true =>
                   rw [hA,Bool.true_or] at hts
                   repeat refine zq ?_
                   refine zb (by kernel_rfl) fun K hK=>?_
                   simp only [go_sem]
                   (try simp (disch:=omega) only [zI])
                   repeat first | intro _ | refine ⟨by omega,?_⟩ | refine ⟨⟨by omega,by omega⟩,?_⟩
                   refine hK _ ?_
                   clear hK K
                   refine zw (zk [1,2,3,4,5,6,7,8,9,10,11]) ?_
                   simp only [go_sem]
                   repeat refine zq ?_
                   refine zb (by kernel_rfl) fun K hK=>?_
                   simp only [go_sem]
                   (try simp (disch:=omega) only [zI])
                   repeat first | intro _ | refine ⟨by omega,?_⟩ | refine ⟨⟨by omega,by omega⟩,?_⟩
                   refine hK _ ?_
                   clear hK K
                   try simp only [go_sem]
                   refine ⟨hjN,zj [] ?_ ?_⟩
                   · try simp only [go_sem]
                     simpa using hts
                   · try simp only [go_sem]
                 | false =>
                   rw [hA,Bool.false_or] at hts
                   repeat refine zq ?_
                   refine zb (by kernel_rfl) fun K hK=>?_
                   simp only [go_sem,hc1,hjl,bedR,List.headD_cons]
                   (try simp (disch:=omega) only [zI])
                   repeat first | intro _ | refine ⟨by omega,?_⟩ | refine ⟨⟨by omega,by omega⟩,?_⟩
                   refine hK _ ?_
                   clear hK K
                   refine zw (zk [1,2,3,4,5,6,7,8,9,10,11]) ?_
                   simp only [go_sem]
                   repeat refine zq ?_
                   refine zb (by kernel_rfl) fun K hK=>?_
                   simp only [go_sem]
                   (try simp (disch:=omega) only [zI])
                   repeat first | intro _ | refine ⟨by omega,?_⟩ | refine ⟨⟨by omega,by omega⟩,?_⟩
                   refine hK _ ?_
                   clear hK K
                   try simp only [go_sem]
                   refine ⟨hjN,zj [] ?_ ?_⟩
                   · try simp only [go_sem]
                     rw [hts]; rfl
                   · try simp only [go_sem]
               · have hjN : j = (frontB (bedN x) l).length:=by omega
                 have hft : (frontB (bedN x) l).take j = frontB (bedN x) l:=by rw [hjN]; exact List.take_length
                 rw [hft]
                 generalize hany : (frontB (bedN x) l).any (fun c=>decide (c.b = bedN x)) = an at *
                 repeat refine zq ?_
                 refine awp_joinV (n:=205) (fun (_ : Unit) vs=>[(1,.r (.rp (mtC m))),(2,.pt 2 (vs 2) 0),(3,.pt 3 (vs 3) 0),(4,.r (i64 i)),(5,.pt 5 (vs 5) 0),(6,.r (i64 left)),(7,.r (i64 (k : Int))),(8,.r (.rp [it8 x,it8 y,it8 z])),(9,.r (i64 (bedN x))),(10,.r (i64 (j : Int))),(11,.r (.bo an)),(85,.r (.bo false))])
                  (fun _ vs=>[(2,.box [.r (i64 0),.r .ns,.r (i64 0),.r (i64 0),.r .ns]),(3,.box [.r (i64 (4 + m.den)),.os 158 (vs 158) 2 0 i,.r (i64 (2 + m.start % 7)),.r (i64 (m.out % 3)),.r .ns]),(5,.box [.r (i64 201),.os 128 (vs 128) 3 0 l.length]),(128,.arr 90 3 (l.map bedR)),(158,.arr 78 2 ((aimsN m i).map aimR))]) (fun _=>True) (fun _ h=>h) ?_ ?_
                 · by_cases hjl : j < l.length
                   · obtain ⟨c,hc1⟩:=opt_of_lt hjl
                     have hgt : bedN x < c.b:=front_end (by rw [← hjN]; exact hc1)
                     have hcle : (decide (c.b ≤ bedN x)) = false:=by simp; omega
                     repeat refine zq ?_
                     refine zb (by kernel_rfl) fun K hK=>?_
                     simp only [go_sem,hc1,hjl,hcle,bedR,List.headD_cons]
                     (try simp (disch:=omega) only [zI])
                     repeat first | intro _ | refine ⟨by omega,?_⟩ | refine ⟨⟨by omega,by omega⟩,?_⟩
                     refine hK _ ?_
                     clear hK K
                     try simp only [go_sem]
                     exact ⟨(),zj [] (by try simp only [go_sem]) (by try simp only [go_sem])⟩
                   · repeat refine zq ?_
                     refine zb (by kernel_rfl) fun K hK=>?_
                     simp only [go_sem,hjl]
                     (try simp (disch:=omega) only [zI])
                     repeat first | intro _ | refine ⟨by omega,?_⟩ | refine ⟨⟨by omega,by omega⟩,?_⟩
                     refine hK _ ?_
                     clear hK K
                     try simp only [go_sem]
                     exact ⟨(),zj [] (by try simp only [go_sem]) (by try simp only [go_sem])⟩
                 intro _ vs _
                 repeat refine zq ?_
                 refine zc rfl (fun hc=>?_) (fun hc=>?_) <;> (try simp only [go_sem] at hc)
                 refine zf ?_
                 simp only [go_sem]
                 repeat refine zq ?_
                 refine zb (by kernel_rfl) fun K hK=>?_
                 simp only [go_sem]
                 (try simp (disch:=omega) only [zI])
                 repeat first | intro _ | refine ⟨by omega,?_⟩ | refine ⟨⟨by omega,by omega⟩,?_⟩
                 refine hK _ ?_
                 clear hK K
                 refine zw (zk [1,2,3,4,5,6,7,8,9,10,99]) ?_
                 simp only [go_sem]
                 repeat refine zq ?_
                 refine zc rfl (fun hc=>?_) (fun hc=>?_) <;> (try simp only [go_sem] at hc)
                 · have hnx2 : stB (4 + m.den) e (k + 1) = (l,left):=by
                    rw [hnx]
                    simp [addB,hany,hc]
                   refine zf ?_
                   simp only [go_sem]
                   repeat refine zq ?_
                   refine zb (by kernel_rfl) fun K hK=>?_
                   simp only [go_sem]
                   (try simp (disch:=omega) only [zI])
                   repeat first | intro _ | refine ⟨by omega,?_⟩ | refine ⟨⟨by omega,by omega⟩,?_⟩
                   refine hK _ ?_
                   clear hK K
                   try simp only [go_sem]
                   refine ⟨hkN,zj [] ?_ ?_⟩
                   · try simp only [go_sem]
                     simp [hnx2]
                   · try simp only [go_sem]
                     simp [hnx2]
                 · have hll:=beds_left hst
                   simp only at hll
                   have hlf0 : 0 ≤ left:=hst.left0
                   have hly0 : 0 ≤ left * y:=Int.mul_nonneg hlf0 vy0
                   have hly : left * y ≤ 259 * 255:=Int.mul_le_mul (by omega) vy1 vy0 (by omega)
                   have hnx2 : stB (4 + m.den) e (k + 1) = (l.take (frontB (bedN x) l).length ++ (⟨bedN x,left * y / 512,min (4 + m.den) (left * y / 512 + z % 50)⟩ :: l.drop (frontB (bedN x) l).length),left - left * y / 512):=by
                    rw [hnx]
                    simp [addB,hany,hc]
                   have w1 : IntKind.i64.wrap (left * y) = left * y:=by rw [zI] <;> omega
                   have w2 : IntKind.i64.wrap ((left * y).tdiv 512) = left * y / 512:=by rw [Int.tdiv_eq_ediv_of_nonneg hly0,zI] <;> omega
                   have w3 : z.tmod 50 = z % 50:=Int.tmod_eq_emod_of_nonneg vz0
                   have w4 : IntKind.i64.wrap y = y:=by rw [zI] <;> omega
                   have w5 : IntKind.i64.wrap z = z:=by rw [zI] <;> omega
                   have hlo0 : 0 ≤ left * y / 512 ∧ left * y / 512 ≤ 200:=by omega
                   refine zx ?_
                   try simp only [go_sem]
                   repeat refine zq ?_
                   refine zb (by kernel_rfl) fun K hK=>?_
                   simp only [go_sem,w1,w2,w4]
                   (try simp (disch:=omega) only [zI])
                   repeat first | intro _ | refine ⟨by omega,?_⟩ | refine ⟨⟨by omega,by omega⟩,?_⟩
                   refine hK _ ?_
                   clear hK K
                   generalize hlow : left * y / 512 = low at *
                   refine zw (zk [1,2,3,4,5,6,7,8,9,10,12]) ?_
                   simp only [go_sem]
                   repeat refine zq ?_
                   refine zb (by kernel_rfl) fun K hK=>?_
                   simp only [go_sem,w3,w5]
                   (try simp (disch:=omega) only [zI])
                   repeat first | intro _ | refine ⟨by omega,?_⟩ | refine ⟨⟨by omega,by omega⟩,?_⟩
                   refine hK _ ?_
                   clear hK K
                   refine zw (sub_frzP 13 13 [i64 (bedN x),i64 low,i64 (min (4 + m.den) (low + z % 50))] (by omega) rfl rfl) ?_
                   refine zw (zk [1,2,3,4,5,6,7,10,12,13]) ?_
                   simp only [go_sem]
                   repeat refine zq ?_
                   refine zb (by kernel_rfl) fun K hK=>?_
                   simp only [go_sem]
                   (try simp (disch:=omega) only [zI])
                   repeat first | intro _ | refine ⟨by omega,?_⟩ | refine ⟨⟨by omega,by omega⟩,?_⟩
                   refine hK _ ?_
                   clear hK K
                   refine zw (zk [1,2,3,4,5,6,7,10,13]) ?_
                   simp only [go_sem]
                   refine zw (sub_frzB 5 1 128 (by omega) (by omega) rfl rfl rfl (by simp)) ?_
                   try simp only [go_sem]
                   have hfl2:=front_le (bedN x) l
                   have hjl : j ≤ l.length:=by omega
                   have hmin : min j l.length = j:=by omega
                   have hj1 : j + 1 + (l.length - j) = l.length + 1:=by omega
                   have ha1 : ∀ n : Nat,n + 1 - 1 = n:=fun n=>by omega
                   have ha2 : ∀ n : Nat,n + 1 - 2 = n - 1:=fun n=>by omega
                   have hcb : (⟨bedN x,low,min (4 + m.den) (low + z % 50)⟩ : Bd) = (⟨bedN x,low,min (4 + m.den) (low + z % 50)⟩ : Bd):=rfl
                   generalize hcd : (⟨bedN x,low,min (4 + m.den) (low + z % 50)⟩ : Bd) = c at hcb
                   have hcR : [i64 (bedN x),i64 low,i64 (min (4 + m.den) (low + z % 50))] = bedR c:=by rw [← hcd]; rfl
                   rw [hcR]
                   repeat refine zq ?_
                   refine awp_inv (n:=205) (ibF (mtC m) i k j (left - low) c l) (ibR (4 + m.den) (2 + m.start % 7) (m.out % 3) i j ((aimsN m i).map aimR) c l) follows (by kernel_rfl) (by kernel_rfl) (by decide +kernel) (zj [] ?_ ?_) ?_ ?_
                   · simp only [go_sem,ibF,vI,if_true,if_false,Bool.false_eq_true]
                   · simp only [go_sem,ibR]
                   · refine ⟨fun b vs hdn hbk hde=>?_,fun b vs hdn hbk hde=>?_,fun b vs hdn hbk hde=>?_,fun b vs hdn hbk hde=>?_,fun b vs hdn hbk hde=>?_,fun b vs hdn hbk hde=>?_,fun b vs hdn hbk hde=>?_,fun b vs hdn hbk hde=>?_,fun b vs hdn hbk hde=>?_,fun b vs hdn hbk hde=>?_,fun b vs hdn hbk hde=>?_,fun b vs hdn hbk hde=>?_,fun b vs hdn hbk hde=>?_,fun b vs hdn hbk hde=>?_,fun b vs hdn hbk hde=>?_,fun b vs hdn hbk hde=>?_,trivial⟩
                     · skip
                       have f5 : b 5 = false:=dI hdn 5 0 (by decide +kernel) (by decide +kernel) hbk
                       have f14 : b 14 = false:=dI hdn 14 0 (by decide +kernel) (by decide +kernel) hbk
                       have f15 : b 15 = false:=dI hdn 15 0 (by decide +kernel) (by decide +kernel) hbk
                       have f8 : b 8 = false:=dI hdn 8 5 (by decide +kernel) (by decide +kernel) f5
                       have f13 : b 13 = false:=dI hdn 13 8 (by decide +kernel) (by decide +kernel) f8
                       (simp only [go_sem,ibF,ibR,upd,vI,cond_true,cond_false,if_true,Bool.false_eq_true,if_false,hbk,f5,f8,f13,f14,f15,hmin,Nat.sub_zero,hj1,bedR,List.length_map,List.length_take,List.length_drop,List.length_append,List.length_cons,List.length_nil,Nat.zero_add])
                       all_goals (refine zj [] ?_ ?_ <;> (simp only [go_sem,ibF,ibR,upd,vI,cond_true,cond_false,if_true,Bool.false_eq_true,if_false,hbk,f5,f8,f13,f14,f15,hj1,ha1,ha2,Nat.sub_zero,List.append_assoc,List.cons_append,List.nil_append,bedR]))
                     · skip
                       have f2 : b 2 = false:=dI hdn 2 1 (by decide +kernel) (by decide +kernel) hbk
                       have f14 : b 14 = false:=dI hdn 14 1 (by decide +kernel) (by decide +kernel) hbk
                       have f15 : b 15 = false:=dI hdn 15 1 (by decide +kernel) (by decide +kernel) hbk
                       have f4 : b 4 = false:=dI hdn 4 2 (by decide +kernel) (by decide +kernel) f2
                       have f5 : b 5 = false:=dI hdn 5 4 (by decide +kernel) (by decide +kernel) f4
                       have f8 : b 8 = false:=dI hdn 8 5 (by decide +kernel) (by decide +kernel) f5
                       have f13 : b 13 = false:=dI hdn 13 8 (by decide +kernel) (by decide +kernel) f8
                       (simp only [go_sem,ibF,ibR,upd,vI,cond_true,cond_false,if_true,Bool.false_eq_true,if_false,hbk,f2,f4,f5,f8,f13,f14,f15,hmin,Nat.sub_zero,hj1,bedR,List.length_map,List.length_take,List.length_drop,List.length_append,List.length_cons,List.length_nil,Nat.zero_add])
                       all_goals (refine zj [] ?_ ?_ <;> (simp only [go_sem,ibF,ibR,upd,vI,cond_true,cond_false,if_true,Bool.false_eq_true,if_false,hbk,f2,f4,f5,f8,f13,f14,f15,hj1,ha1,ha2,Nat.sub_zero,List.append_assoc,List.cons_append,List.nil_append,bedR]))
                     · skip
                       have h1 : b 1 = true:=hde 1 (by decide +kernel)
                       have f4 : b 4 = false:=dI hdn 4 2 (by decide +kernel) (by decide +kernel) hbk
                       have f14 : b 14 = false:=dI hdn 14 2 (by decide +kernel) (by decide +kernel) hbk
                       have f15 : b 15 = false:=dI hdn 15 2 (by decide +kernel) (by decide +kernel) hbk
                       have f5 : b 5 = false:=dI hdn 5 4 (by decide +kernel) (by decide +kernel) f4
                       have f8 : b 8 = false:=dI hdn 8 5 (by decide +kernel) (by decide +kernel) f5
                       have f13 : b 13 = false:=dI hdn 13 8 (by decide +kernel) (by decide +kernel) f8
                       (simp only [go_sem,ibF,ibR,upd,vI,cond_true,cond_false,if_true,Bool.false_eq_true,if_false,h1,hbk,f4,f5,f8,f13,f14,f15,hmin,Nat.sub_zero,hj1,bedR,List.length_map,List.length_take,List.length_drop,List.length_append,List.length_cons,List.length_nil,Nat.zero_add])
                       all_goals (refine zj [] ?_ ?_ <;> (simp only [go_sem,ibF,ibR,upd,vI,cond_true,cond_false,if_true,Bool.false_eq_true,if_false,h1,hbk,f4,f5,f8,f13,f14,f15,hj1,ha1,ha2,Nat.sub_zero,List.append_assoc,List.cons_append,List.nil_append,bedR]))
                     · skip
                       have f4 : b 4 = false:=dI hdn 4 3 (by decide +kernel) (by decide +kernel) hbk
                       have f14 : b 14 = false:=dI hdn 14 3 (by decide +kernel) (by decide +kernel) hbk
                       have f15 : b 15 = false:=dI hdn 15 3 (by decide +kernel) (by decide +kernel) hbk
                       have f5 : b 5 = false:=dI hdn 5 4 (by decide +kernel) (by decide +kernel) f4
                       have f8 : b 8 = false:=dI hdn 8 5 (by decide +kernel) (by decide +kernel) f5
                       have f13 : b 13 = false:=dI hdn 13 8 (by decide +kernel) (by decide +kernel) f8
                       (simp only [go_sem,ibF,ibR,upd,vI,cond_true,cond_false,if_true,Bool.false_eq_true,if_false,hbk,f4,f5,f8,f13,f14,f15,hmin,Nat.sub_zero,hj1,bedR,List.length_map,List.length_take,List.length_drop,List.length_append,List.length_cons,List.length_nil,Nat.zero_add])
                       all_goals (refine zj [] ?_ ?_ <;> (simp only [go_sem,ibF,ibR,upd,vI,cond_true,cond_false,if_true,Bool.false_eq_true,if_false,hbk,f4,f5,f8,f13,f14,f15,hj1,ha1,ha2,Nat.sub_zero,List.append_assoc,List.cons_append,List.nil_append,bedR]))
                     · skip
                       have h2 : b 2 = true:=hde 2 (by decide +kernel)
                       have h3 : b 3 = true:=hde 3 (by decide +kernel)
                       have h1 : b 1 = true:=hdn 2 1 (by decide +kernel) (by decide +kernel) h2
                       have f5 : b 5 = false:=dI hdn 5 4 (by decide +kernel) (by decide +kernel) hbk
                       have f14 : b 14 = false:=dI hdn 14 4 (by decide +kernel) (by decide +kernel) hbk
                       have f15 : b 15 = false:=dI hdn 15 4 (by decide +kernel) (by decide +kernel) hbk
                       have f8 : b 8 = false:=dI hdn 8 5 (by decide +kernel) (by decide +kernel) f5
                       have f13 : b 13 = false:=dI hdn 13 8 (by decide +kernel) (by decide +kernel) f8
                       (simp only [go_sem,ibF,ibR,upd,vI,cond_true,cond_false,if_true,Bool.false_eq_true,if_false,h1,h2,h3,hbk,f5,f8,f13,f14,f15,hmin,Nat.sub_zero,hj1,bedR,List.length_map,List.length_take,List.length_drop,List.length_append,List.length_cons,List.length_nil,Nat.zero_add])
                       all_goals refine ⟨by omega,?_⟩
                       all_goals (refine zj [] ?_ ?_ <;> (simp only [go_sem,ibF,ibR,upd,vI,cond_true,cond_false,if_true,Bool.false_eq_true,if_false,h1,h2,h3,hbk,f5,f8,f13,f14,f15,hj1,ha1,ha2,Nat.sub_zero,List.append_assoc,List.cons_append,List.nil_append,bedR]))
                     · skip
                       have h0 : b 0 = true:=hde 0 (by decide +kernel)
                       have h4 : b 4 = true:=hde 4 (by decide +kernel)
                       have h2 : b 2 = true:=hdn 4 2 (by decide +kernel) (by decide +kernel) h4
                       have h3 : b 3 = true:=hdn 4 3 (by decide +kernel) (by decide +kernel) h4
                       have h1 : b 1 = true:=hdn 2 1 (by decide +kernel) (by decide +kernel) h2
                       have f8 : b 8 = false:=dI hdn 8 5 (by decide +kernel) (by decide +kernel) hbk
                       have f14 : b 14 = false:=dI hdn 14 5 (by decide +kernel) (by decide +kernel) hbk
                       have f15 : b 15 = false:=dI hdn 15 5 (by decide +kernel) (by decide +kernel) hbk
                       have f13 : b 13 = false:=dI hdn 13 8 (by decide +kernel) (by decide +kernel) f8
                       (simp only [go_sem,ibF,ibR,upd,vI,cond_true,cond_false,if_true,Bool.false_eq_true,if_false,h0,h1,h2,h3,h4,hbk,f8,f13,f14,f15,hmin,Nat.sub_zero,hj1,bedR,List.length_map,List.length_take,List.length_drop,List.length_append,List.length_cons,List.length_nil,Nat.zero_add])
                       all_goals refine ⟨by omega,?_⟩
                       all_goals (refine zj [] ?_ ?_ <;> (simp only [go_sem,ibF,ibR,upd,vI,cond_true,cond_false,if_true,Bool.false_eq_true,if_false,h0,h1,h2,h3,h4,hbk,f8,f13,f14,f15,hj1,ha1,ha2,Nat.sub_zero,List.append_assoc,List.cons_append,List.nil_append,bedR]))
                     · skip
                       have f7 : b 7 = false:=dI hdn 7 6 (by decide +kernel) (by decide +kernel) hbk
                       have f14 : b 14 = false:=dI hdn 14 6 (by decide +kernel) (by decide +kernel) hbk
                       have f15 : b 15 = false:=dI hdn 15 6 (by decide +kernel) (by decide +kernel) hbk
                       have f8 : b 8 = false:=dI hdn 8 7 (by decide +kernel) (by decide +kernel) f7
                       have f13 : b 13 = false:=dI hdn 13 8 (by decide +kernel) (by decide +kernel) f8
                       cases g5 : b 5
                       all_goals (simp only [go_sem,ibF,ibR,upd,vI,cond_true,cond_false,if_true,Bool.false_eq_true,if_false,hbk,f7,f8,f13,f14,f15,g5,hmin,Nat.sub_zero,hj1,bedR,List.length_map,List.length_take,List.length_drop,List.length_append,List.length_cons,List.length_nil,Nat.zero_add])
                       all_goals (refine zj [] ?_ ?_ <;> (simp only [go_sem,ibF,ibR,upd,vI,cond_true,cond_false,if_true,Bool.false_eq_true,if_false,hbk,f7,f8,f13,f14,f15,g5,hj1,ha1,ha2,Nat.sub_zero,List.append_assoc,List.cons_append,List.nil_append,bedR]))
                     · skip
                       have h6 : b 6 = true:=hde 6 (by decide +kernel)
                       have f8 : b 8 = false:=dI hdn 8 7 (by decide +kernel) (by decide +kernel) hbk
                       have f14 : b 14 = false:=dI hdn 14 7 (by decide +kernel) (by decide +kernel) hbk
                       have f15 : b 15 = false:=dI hdn 15 7 (by decide +kernel) (by decide +kernel) hbk
                       have f13 : b 13 = false:=dI hdn 13 8 (by decide +kernel) (by decide +kernel) f8
                       cases g5 : b 5
                       all_goals (simp only [go_sem,ibF,ibR,upd,vI,cond_true,cond_false,if_true,Bool.false_eq_true,if_false,h6,hbk,f8,f13,f14,f15,g5,hmin,Nat.sub_zero,hj1,bedR,List.length_map,List.length_take,List.length_drop,List.length_append,List.length_cons,List.length_nil,Nat.zero_add])
                       all_goals (refine zj [] ?_ ?_ <;> (simp only [go_sem,ibF,ibR,upd,vI,cond_true,cond_false,if_true,Bool.false_eq_true,if_false,h6,hbk,f8,f13,f14,f15,g5,hj1,ha1,ha2,Nat.sub_zero,List.append_assoc,List.cons_append,List.nil_append,bedR]))
                     · skip
                       have h5 : b 5 = true:=hde 5 (by decide +kernel)
                       have h7 : b 7 = true:=hde 7 (by decide +kernel)
                       have h0 : b 0 = true:=hdn 5 0 (by decide +kernel) (by decide +kernel) h5
                       have h4 : b 4 = true:=hdn 5 4 (by decide +kernel) (by decide +kernel) h5
                       have h6 : b 6 = true:=hdn 7 6 (by decide +kernel) (by decide +kernel) h7
                       have h2 : b 2 = true:=hdn 4 2 (by decide +kernel) (by decide +kernel) h4
                       have h3 : b 3 = true:=hdn 4 3 (by decide +kernel) (by decide +kernel) h4
                       have h1 : b 1 = true:=hdn 2 1 (by decide +kernel) (by decide +kernel) h2
                       have f13 : b 13 = false:=dI hdn 13 8 (by decide +kernel) (by decide +kernel) hbk
                       have f14 : b 14 = false:=dI hdn 14 8 (by decide +kernel) (by decide +kernel) hbk
                       have f15 : b 15 = false:=dI hdn 15 8 (by decide +kernel) (by decide +kernel) hbk
                       (simp only [go_sem,ibF,ibR,upd,vI,cond_true,cond_false,if_true,Bool.false_eq_true,if_false,h0,h1,h2,h3,h4,h5,h6,h7,hbk,f13,f14,f15,hmin,Nat.sub_zero,hj1,bedR,List.length_map,List.length_take,List.length_drop,List.length_append,List.length_cons,List.length_nil,Nat.zero_add])
                       all_goals refine ⟨by omega,?_⟩
                       all_goals (refine zj [] ?_ ?_ <;> (simp only [go_sem,ibF,ibR,upd,vI,cond_true,cond_false,if_true,Bool.false_eq_true,if_false,h0,h1,h2,h3,h4,h5,h6,h7,hbk,f13,f14,f15,hj1,ha1,ha2,Nat.sub_zero,List.append_assoc,List.cons_append,List.nil_append,bedR]))
                     · skip
                       have f10 : b 10 = false:=dI hdn 10 9 (by decide +kernel) (by decide +kernel) hbk
                       have f14 : b 14 = false:=dI hdn 14 9 (by decide +kernel) (by decide +kernel) hbk
                       have f15 : b 15 = false:=dI hdn 15 9 (by decide +kernel) (by decide +kernel) hbk
                       have f12 : b 12 = false:=dI hdn 12 10 (by decide +kernel) (by decide +kernel) f10
                       have f13 : b 13 = false:=dI hdn 13 12 (by decide +kernel) (by decide +kernel) f12
                       cases g5 : b 5 <;> cases g8 : b 8
                       all_goals (simp only [go_sem,ibF,ibR,upd,vI,cond_true,cond_false,if_true,Bool.false_eq_true,if_false,hbk,f10,f12,f13,f14,f15,g5,g8,hmin,Nat.sub_zero,hj1,bedR,List.length_map,List.length_take,List.length_drop,List.length_append,List.length_cons,List.length_nil,Nat.zero_add])
                       all_goals (refine zj [] ?_ ?_ <;> (simp only [go_sem,ibF,ibR,upd,vI,cond_true,cond_false,if_true,Bool.false_eq_true,if_false,hbk,f10,f12,f13,f14,f15,g5,g8,hj1,ha1,ha2,Nat.sub_zero,List.append_assoc,List.cons_append,List.nil_append,bedR]))
                     · skip
                       have h9 : b 9 = true:=hde 9 (by decide +kernel)
                       have f12 : b 12 = false:=dI hdn 12 10 (by decide +kernel) (by decide +kernel) hbk
                       have f14 : b 14 = false:=dI hdn 14 10 (by decide +kernel) (by decide +kernel) hbk
                       have f15 : b 15 = false:=dI hdn 15 10 (by decide +kernel) (by decide +kernel) hbk
                       have f13 : b 13 = false:=dI hdn 13 12 (by decide +kernel) (by decide +kernel) f12
                       cases g5 : b 5 <;> cases g8 : b 8
                       all_goals (simp only [go_sem,ibF,ibR,upd,vI,cond_true,cond_false,if_true,Bool.false_eq_true,if_false,h9,hbk,f12,f13,f14,f15,g5,g8,hmin,Nat.sub_zero,hj1,bedR,List.length_map,List.length_take,List.length_drop,List.length_append,List.length_cons,List.length_nil,Nat.zero_add])
                       all_goals (refine zj [] ?_ ?_ <;> (simp only [go_sem,ibF,ibR,upd,vI,cond_true,cond_false,if_true,Bool.false_eq_true,if_false,h9,hbk,f12,f13,f14,f15,g5,g8,hj1,ha1,ha2,Nat.sub_zero,List.append_assoc,List.cons_append,List.nil_append,bedR]))
                     · skip
                       have f12 : b 12 = false:=dI hdn 12 11 (by decide +kernel) (by decide +kernel) hbk
                       have f14 : b 14 = false:=dI hdn 14 11 (by decide +kernel) (by decide +kernel) hbk
                       have f15 : b 15 = false:=dI hdn 15 11 (by decide +kernel) (by decide +kernel) hbk
                       have f13 : b 13 = false:=dI hdn 13 12 (by decide +kernel) (by decide +kernel) f12
                       cases g5 : b 5 <;> cases g8 : b 8
                       all_goals (simp only [go_sem,ibF,ibR,upd,vI,cond_true,cond_false,if_true,Bool.false_eq_true,if_false,hbk,f12,f13,f14,f15,g5,g8,hmin,Nat.sub_zero,hj1,bedR,List.length_map,List.length_take,List.length_drop,List.length_append,List.length_cons,List.length_nil,Nat.zero_add])
                       all_goals (refine zj [] ?_ ?_ <;> (simp only [go_sem,ibF,ibR,upd,vI,cond_true,cond_false,if_true,Bool.false_eq_true,if_false,hbk,f12,f13,f14,f15,g5,g8,hj1,ha1,ha2,Nat.sub_zero,List.append_assoc,List.cons_append,List.nil_append,bedR]))
                     · skip
                       have h10 : b 10 = true:=hde 10 (by decide +kernel)
                       have h11 : b 11 = true:=hde 11 (by decide +kernel)
                       have h9 : b 9 = true:=hdn 10 9 (by decide +kernel) (by decide +kernel) h10
                       have f13 : b 13 = false:=dI hdn 13 12 (by decide +kernel) (by decide +kernel) hbk
                       have f14 : b 14 = false:=dI hdn 14 12 (by decide +kernel) (by decide +kernel) hbk
                       have f15 : b 15 = false:=dI hdn 15 12 (by decide +kernel) (by decide +kernel) hbk
                       cases g5 : b 5 <;> cases g8 : b 8
                       all_goals (simp only [go_sem,ibF,ibR,upd,vI,cond_true,cond_false,if_true,Bool.false_eq_true,if_false,h9,h10,h11,hbk,f13,f14,f15,g5,g8,hmin,Nat.sub_zero,hj1,bedR,List.length_map,List.length_take,List.length_drop,List.length_append,List.length_cons,List.length_nil,Nat.zero_add])
                       all_goals refine ⟨by omega,?_⟩
                       all_goals (refine zj [] ?_ ?_ <;> (simp only [go_sem,ibF,ibR,upd,vI,cond_true,cond_false,if_true,Bool.false_eq_true,if_false,h9,h10,h11,hbk,f13,f14,f15,g5,g8,hj1,ha1,ha2,Nat.sub_zero,List.append_assoc,List.cons_append,List.nil_append,bedR]))
                     · skip
                       have h8 : b 8 = true:=hde 8 (by decide +kernel)
                       have h12 : b 12 = true:=hde 12 (by decide +kernel)
                       have h5 : b 5 = true:=hdn 8 5 (by decide +kernel) (by decide +kernel) h8
                       have h7 : b 7 = true:=hdn 8 7 (by decide +kernel) (by decide +kernel) h8
                       have h10 : b 10 = true:=hdn 12 10 (by decide +kernel) (by decide +kernel) h12
                       have h11 : b 11 = true:=hdn 12 11 (by decide +kernel) (by decide +kernel) h12
                       have h0 : b 0 = true:=hdn 5 0 (by decide +kernel) (by decide +kernel) h5
                       have h4 : b 4 = true:=hdn 5 4 (by decide +kernel) (by decide +kernel) h5
                       have h6 : b 6 = true:=hdn 7 6 (by decide +kernel) (by decide +kernel) h7
                       have h9 : b 9 = true:=hdn 10 9 (by decide +kernel) (by decide +kernel) h10
                       have h2 : b 2 = true:=hdn 4 2 (by decide +kernel) (by decide +kernel) h4
                       have h3 : b 3 = true:=hdn 4 3 (by decide +kernel) (by decide +kernel) h4
                       have h1 : b 1 = true:=hdn 2 1 (by decide +kernel) (by decide +kernel) h2
                       have f14 : b 14 = false:=dI hdn 14 13 (by decide +kernel) (by decide +kernel) hbk
                       have f15 : b 15 = false:=dI hdn 15 13 (by decide +kernel) (by decide +kernel) hbk
                       (simp only [go_sem,ibF,ibR,upd,vI,cond_true,cond_false,if_true,Bool.false_eq_true,if_false,h0,h1,h2,h3,h4,h5,h6,h7,h8,h9,h10,h11,h12,hbk,f14,f15,hmin,Nat.sub_zero,hj1,bedR,List.length_map,List.length_take,List.length_drop,List.length_append,List.length_cons,List.length_nil,Nat.zero_add])
                       all_goals refine ⟨by omega,?_⟩
                       all_goals (refine zj [] ?_ ?_ <;> (simp only [go_sem,ibF,ibR,upd,vI,cond_true,cond_false,if_true,Bool.false_eq_true,if_false,h0,h1,h2,h3,h4,h5,h6,h7,h8,h9,h10,h11,h12,hbk,f14,f15,hj1,ha1,ha2,Nat.sub_zero,List.append_assoc,List.cons_append,List.nil_append,bedR]))
                     · skip
                       have h0 : b 0 = true:=hde 0 (by decide +kernel)
                       have h1 : b 1 = true:=hde 1 (by decide +kernel)
                       have h2 : b 2 = true:=hde 2 (by decide +kernel)
                       have h3 : b 3 = true:=hde 3 (by decide +kernel)
                       have h4 : b 4 = true:=hde 4 (by decide +kernel)
                       have h5 : b 5 = true:=hde 5 (by decide +kernel)
                       have h6 : b 6 = true:=hde 6 (by decide +kernel)
                       have h7 : b 7 = true:=hde 7 (by decide +kernel)
                       have h8 : b 8 = true:=hde 8 (by decide +kernel)
                       have h9 : b 9 = true:=hde 9 (by decide +kernel)
                       have h10 : b 10 = true:=hde 10 (by decide +kernel)
                       have h11 : b 11 = true:=hde 11 (by decide +kernel)
                       have h12 : b 12 = true:=hde 12 (by decide +kernel)
                       have h13 : b 13 = true:=hde 13 (by decide +kernel)
                       have f15 : b 15 = false:=dI hdn 15 14 (by decide +kernel) (by decide +kernel) hbk
                       (simp only [go_sem,ibF,ibR,upd,vI,cond_true,cond_false,if_true,Bool.false_eq_true,if_false,h0,h1,h2,h3,h4,h5,h6,h7,h8,h9,h10,h11,h12,h13,hbk,f15,hmin,Nat.sub_zero,hj1,bedR,List.length_map,List.length_take,List.length_drop,List.length_append,List.length_cons,List.length_nil,Nat.zero_add])
                       all_goals (refine zj [] ?_ ?_ <;> (simp only [go_sem,ibF,ibR,upd,vI,cond_true,cond_false,if_true,Bool.false_eq_true,if_false,h0,h1,h2,h3,h4,h5,h6,h7,h8,h9,h10,h11,h12,h13,hbk,f15,hj1,ha1,ha2,Nat.sub_zero,List.append_assoc,List.cons_append,List.nil_append,bedR]))
                     · skip
                       have h0 : b 0 = true:=hde 0 (by decide +kernel)
                       have h1 : b 1 = true:=hde 1 (by decide +kernel)
                       have h2 : b 2 = true:=hde 2 (by decide +kernel)
                       have h3 : b 3 = true:=hde 3 (by decide +kernel)
                       have h4 : b 4 = true:=hde 4 (by decide +kernel)
                       have h5 : b 5 = true:=hde 5 (by decide +kernel)
                       have h6 : b 6 = true:=hde 6 (by decide +kernel)
                       have h7 : b 7 = true:=hde 7 (by decide +kernel)
                       have h8 : b 8 = true:=hde 8 (by decide +kernel)
                       have h9 : b 9 = true:=hde 9 (by decide +kernel)
                       have h10 : b 10 = true:=hde 10 (by decide +kernel)
                       have h11 : b 11 = true:=hde 11 (by decide +kernel)
                       have h12 : b 12 = true:=hde 12 (by decide +kernel)
                       have h13 : b 13 = true:=hde 13 (by decide +kernel)
                       have h14 : b 14 = true:=hde 14 (by decide +kernel)
                       (simp only [go_sem,ibF,ibR,upd,vI,cond_true,cond_false,if_true,Bool.false_eq_true,if_false,h0,h1,h2,h3,h4,h5,h6,h7,h8,h9,h10,h11,h12,h13,h14,hbk,hmin,Nat.sub_zero,hj1,bedR,List.length_map,List.length_take,List.length_drop,List.length_append,List.length_cons,List.length_nil,Nat.zero_add])
                       all_goals (refine zj [] ?_ ?_ <;> (simp only [go_sem,ibF,ibR,upd,vI,cond_true,cond_false,if_true,Bool.false_eq_true,if_false,h0,h1,h2,h3,h4,h5,h6,h7,h8,h9,h10,h11,h12,h13,h14,hbk,hj1,ha1,ha2,Nat.sub_zero,List.append_assoc,List.cons_append,List.nil_append,bedR]))
                   · intro b vs hb
                     have fb : ∀ j v,vI b j v = v:=fun j v=>by rw [vI,if_pos (hb j)]
                     have hk1 : IntKind.i64.wrap ((k : Int) + 1) = ((k + 1 : Nat) : Int):=by rw [zI] <;> omega
                     have hlen : (l.take j ++ c :: l.drop j).length = l.length + 1:=by simp; omega
                     rw [hcd,← hjN] at hnx2
                     simp only [go_sem,ibF,ibR,fb,hb 15,cond_true]
                     refine zw (zk [1,2,3,4,5,6,7]) ?_
                     simp only [go_sem]
                     repeat refine zq ?_
                     refine zb (by kernel_rfl) fun K hK=>?_
                     simp only [go_sem,hk1]
                     (try simp (disch:=omega) only [zI])
                     repeat first | intro _ | refine ⟨by omega,?_⟩ | refine ⟨⟨by omega,by omega⟩,?_⟩
                     refine hK _ ?_
                     clear hK K
                     try simp only [go_sem]
                     refine ⟨hkN,zj [] ?_ ?_⟩
                     · try simp only [go_sem]
                       simp [hnx2]
                     · try simp only [go_sem]
                       simp [hnx2,hmin]
                       omega
           · have hkN' : k = N:=by
              have : ¬ k < N:=by simpa using hc
              omega
             have hB : (stB (4 + m.den) e k).1 = bedsM m i ∧ (stB (4 + m.den) e k).1.length ≤ 4:=by
              by_cases hiL : i < m.aims.length
              · obtain ⟨he1,he2,he3⟩:=heL hiL
                rw [if_pos hiL] at hN
                have hst:=(stB_ok (den:=4 + m.den) (by omega) he3 k).2
                refine ⟨?_,by omega⟩
                rw [hkN',hN]
                simp only [bedsM,if_pos hiL,hee]
              · rw [if_neg hiL] at hN
                rw [hkN',hN]
                simp [bedsM,if_neg hiL,stB]
             generalize (stB (4 + m.den) e k).2 = left
             generalize (stB (4 + m.den) e k).1 = bs at hB ⊢
             obtain ⟨hB,hB4⟩:=hB
             have hfin : aimM m i = ⟨201,finB (4 + m.den) bs⟩:=by rw [hB]; rfl
             have hsucc:=aimsN_succ m i
             have hi1 : IntKind.i64.wrap ((i : Int) + 1) = ((i + 1 : Nat) : Int):=by rw [zI] <;> omega
             have hml : i < 3:=by omega
             have hal : (aimsN m i).length = i:=by simp [aimsN]
             refine zf ?_
             simp only [go_sem]
             repeat refine zq ?_
             refine zb (by kernel_rfl) fun K hK=>?_
             simp only [go_sem]
             (try simp (disch:=omega) only [zI])
             repeat first | intro _ | refine ⟨by omega,?_⟩ | refine ⟨⟨by omega,by omega⟩,?_⟩
             refine hK _ ?_
             clear hK K
             refine zw (zk [1,2,3,4,5,141]) ?_
             simp only [go_sem]
             cases bs with
             | nil =>
               repeat refine zq ?_
               refine zc rfl (fun hc=>?_) (fun hc=>?_) <;> (try simp only [go_sem] at hc)
               repeat refine zq ?_
               refine awp_long ?_
               refine sops_take 1 (by kernel_rfl) fun K hK=>?_
               simp only [go_sem,List.take_succ_cons,List.take_zero,List.drop_succ_cons,List.drop_zero,List.append_eq,List.cons_append,List.nil_append]
               (try simp (disch:=omega) only [zI])
               repeat first | intro _ | refine ⟨by omega,?_⟩ | refine ⟨⟨by omega,by omega⟩,?_⟩
               refine hK _ rfl ?_
               clear hK K
               refine sops_litB (by simp [go_sem]) ?_
               simp only [go_sem,sLitBox,lay,List.replicate_succ,List.replicate_zero,List.flatten_cons,List.flatten_nil,List.map_cons,List.map_nil,List.cons_append,List.nil_append]
               repeat first | refine ⟨by omega,?_⟩ | refine ⟨⟨by omega,by omega⟩,?_⟩
               refine sops_end (by kernel_rfl) fun K hK=>?_
               simp only [go_sem,List.drop_succ_cons,List.drop_zero,List.append_eq,List.cons_append,List.nil_append]
               (try simp (disch:=omega) only [zI])
               repeat first | intro _ | refine ⟨by omega,?_⟩ | refine ⟨⟨by omega,by omega⟩,?_⟩
               refine hK _ ?_
               clear hK K
               refine zw (sub_arr 143 [[i64 201,i64 0,i64 0]] rfl (by rfl) (by simp) (by omega)) ?_
               refine zw (zk [1,2,3,4,5]) ?_
               simp only [go_sem]
               repeat refine zq ?_
               refine zb (by kernel_rfl) fun K hK=>?_
               simp only [go_sem]
               (try simp (disch:=omega) only [zI])
               repeat first | intro _ | refine ⟨by omega,?_⟩ | refine ⟨⟨by omega,by omega⟩,?_⟩
               refine hK _ ?_
               clear hK K
               refine zw (zk [1,2,3,4,5]) ?_
               simp only [go_sem]
               refine zw (sub_frzB 5 1 143 (by omega) (by omega) rfl rfl rfl (by simp)) ?_
               try simp only [go_sem]
               repeat refine zq ?_
               refine zb (by kernel_rfl) fun K hK=>?_
               simp only [go_sem,hal,List.length_map]
               (try simp (disch:=omega) only [zI])
               repeat first | intro _ | refine ⟨by omega,?_⟩ | refine ⟨⟨by omega,by omega⟩,?_⟩
               refine hK _ ?_
               clear hK K
               refine zw (zk [1,2,3,4]) ?_
               simp only [go_sem]
               repeat refine zq ?_
               refine zb (by kernel_rfl) fun K hK=>?_
               simp only [go_sem,hi1]
               (try simp (disch:=omega) only [zI])
               repeat first | intro _ | refine ⟨by omega,?_⟩ | refine ⟨⟨by omega,by omega⟩,?_⟩
               refine hK _ ?_
               clear hK K
               try simp only [go_sem]
               refine ⟨i + 1,by omega,by omega,zj [5,128] ?_ ?_⟩
               · try simp only [go_sem]
               · rw [hsucc,hfin]
                 try simp only [go_sem]
                 simp [aimR,bedR,finB]
             | cons c rest =>
               repeat refine zq ?_
               refine zc rfl (fun hc=>?_) (fun hc=>?_) <;> (try simp only [go_sem] at hc)
               · exfalso
                 omega
               refine zx ?_
               try simp only [go_sem]
               repeat refine zq ?_
               refine zb (by kernel_rfl) fun K hK=>?_
               simp only [go_sem,bedR]
               (try simp (disch:=omega) only [zI])
               repeat first | intro _ | refine ⟨by omega,?_⟩ | refine ⟨⟨by omega,by omega⟩,?_⟩
               refine hK _ ?_
               clear hK K
               refine zw (zk [1,2,3,4,5]) ?_
               simp only [go_sem]
               refine zw (sub_frzB 5 1 128 (by omega) (by omega) rfl rfl rfl (by simp)) ?_
               try simp only [go_sem]
               repeat refine zq ?_
               refine zb (by kernel_rfl) fun K hK=>?_
               simp only [go_sem,hal,List.length_map]
               (try simp (disch:=omega) only [zI])
               repeat first | intro _ | refine ⟨by omega,?_⟩ | refine ⟨⟨by omega,by omega⟩,?_⟩
               refine hK _ ?_
               clear hK K
               refine zw (zk [1,2,3,4]) ?_
               simp only [go_sem]
               repeat refine zq ?_
               refine zb (by kernel_rfl) fun K hK=>?_
               simp only [go_sem,hi1]
               (try simp (disch:=omega) only [zI])
               repeat first | intro _ | refine ⟨by omega,?_⟩ | refine ⟨⟨by omega,by omega⟩,?_⟩
               refine hK _ ?_
               clear hK K
               try simp only [go_sem]
               refine ⟨i + 1,by omega,by omega,zj [5,128] ?_ ?_⟩
               · try simp only [go_sem]
               · rw [hsucc,hfin]
                 try simp only [go_sem]
                 simp [aimR,bedR,finB]
     · have : i = aimN m:=by
        have : ¬ i < aimN m:=by simpa using hc
        omega
       subst this
       have hal : (aimsN m (aimN m)).length = aimN m:=by simp [aimsN]
       refine zw (sub_frzB 3 1 158 (by omega) (by omega) rfl rfl rfl (by simp [aimsN])) ?_
       refine zf ?_
       simp only [go_sem]
       try simp only [go_sem]
       refine zw (sub_ownB 3 4 196 52 2 (by omega) (by omega) rfl rfl) ?_
       repeat refine zq ?_
       refine zb (by kernel_rfl) fun K hK=>?_
       simp only [go_sem]
       (try simp (disch:=omega) only [zI])
       repeat first | intro _ | refine ⟨by omega,?_⟩ | refine ⟨⟨by omega,by omega⟩,?_⟩
       refine hK _ ?_
       clear hK K
       refine zw (zk [1,2,3,14]) ?_
       simp only [go_sem]
       repeat refine zq ?_
       refine zd ?_
       have hE1 : ∀ e ∈ m.ends,0 ≤ e.1 * 15 ∧ e.1 * 15 ≤ 1000000:=fun e he=>by
        have:=(hw.ends e he).1
        omega
       refine awp_uptoV (n:=205) (min 3 m.ends.length) (fun k vs=>[(1,.r (.rp (mtC m))),(2,.pt 2 (vs 2) 0),(3,.pt 3 (vs 3) 0),(14,.r (i64 (k : Int)))])
        (fun k vs=>[(2,.box [.r (i64 0),.r .ns,.r (i64 0),.r (i64 0),.r .ns]),(3,.box [.r (i64 (4 + m.den)),.r (aimsR (ruM m).aims),.r (i64 (2 + m.start % 7)),.r (i64 (m.out % 3)),.os 196 (vs 196) 2 0 k]),(196,.arr 52 2 (((m.ends.take k).map endM).map spanR))]) (fun _=>True) 0 (zj [] ?_ ?_) (Nat.zero_le _) trivial ?_
       · try simp only [go_sem]
       · try simp only [go_sem]
         rw [show List.take (aimN m) (List.map aimR (aimsN m (aimN m))) = List.map aimR (ruM m).aims from List.take_of_length_le (by simp [aimsN])]
       · intro k vs hk _
         repeat refine zq ?_
         refine awp_joinV (n:=205) (fun (_ : Unit) vs=>[(1,.r (.rp (mtC m))),(2,.pt 2 (vs 2) 0),(3,.pt 3 (vs 3) 0),(14,.r (i64 (k : Int))),(169,.r (.bo (decide (k < min 3 m.ends.length))))])
          (fun _ vs=>[(2,.box [.r (i64 0),.r .ns,.r (i64 0),.r (i64 0),.r .ns]),(3,.box [.r (i64 (4 + m.den)),.r (aimsR (ruM m).aims),.r (i64 (2 + m.start % 7)),.r (i64 (m.out % 3)),.os 196 (vs 196) 2 0 k]),(196,.arr 52 2 (((m.ends.take k).map endM).map spanR))]) (fun _=>True) (fun _ h=>h) ?_ ?_
         · repeat refine zq ?_
           refine zb (by kernel_rfl) fun K hK=>?_
           simp only [go_sem]
           (try simp (disch:=omega) only [zI])
           repeat' first | intro _ | refine And.intro ?_ ?_
           all_goals first | omega | skip
           all_goals (refine hK _ ?_; clear hK K)
           all_goals (try simp only [go_sem])
           all_goals (refine ⟨(),zj [] ?_ ?_⟩ <;> try simp only [go_sem])
           all_goals (rw [Bool.eq_iff_iff]; simp; omega)
         · intro _ vs _
           repeat refine zq ?_
           refine zc rfl (fun hc=>?_) (fun hc=>?_) <;> (try simp only [go_sem] at hc)
           · have hkl : k < min 3 m.ends.length:=by simpa using hc
             obtain ⟨e,he⟩:=opt_of_lt (show k < m.ends.length by omega)
             obtain ⟨⟨a0,a1⟩,b0,b1⟩:=hw.ends e (mem_of_opt he)
             have hel : (m.ends.take k).length = k:=by simp; omega
             have ht : m.ends.take (k + 1) = m.ends.take k ++ [e]:=by rw [List.take_add_one,he]; rfl
             have v1 : IntKind.i64.wrap e.1 = e.1:=by rw [zI] <;> omega
             have v2 : IntKind.i64.wrap e.2 = e.2:=by rw [zI] <;> omega
             have hk1 : IntKind.i64.wrap ((k : Int) + 1) = ((k + 1 : Nat) : Int):=by rw [zI] <;> omega
             refine zx ?_
             try simp only [go_sem]
             repeat refine zq ?_
             refine zd ?_
             repeat refine zq ?_
             refine zb (by kernel_rfl) fun K hK=>?_
             simp only [go_sem,he,v1]
             (try simp (disch:=omega) only [zI])
             repeat first | intro _ | refine ⟨by omega,?_⟩ | refine ⟨⟨by omega,by omega⟩,?_⟩
             refine hK _ ?_
             clear hK K
             refine zw (zk [1,2,3,14,15]) ?_
             simp only [go_sem]
             repeat refine zq ?_
             refine awp_dreg3 [(1,none),(3,some 3),(14,none),(15,none)] [3] follows (by decide +kernel) (by kernel_rfl) (by simp only [keysOk,List.mem_cons,List.not_mem_nil,forall_eq_or_imp,Oc.keyOf,go_sem]; simp) (by intro k hk; simp only [List.mem_cons,List.not_mem_nil,or_false] at hk; first | (subst hk; exact ⟨_,rfl⟩) | (rcases hk with rfl | rfl <;> exact ⟨_,rfl⟩) | (rcases hk with rfl | rfl | rfl <;> exact ⟨_,rfl⟩)) fun K hK=>?_
             simp only [go_sem,he,v2,List.length_map,hel]
             (try simp (disch:=omega) only [zI])
             repeat first | intro _ | refine ⟨by omega,?_⟩ | refine ⟨⟨by omega,by omega⟩,?_⟩
             refine hK _ ?_
             clear hK K
             refine zw (zk [1,2,3,14]) ?_
             simp only [go_sem]
             repeat refine zq ?_
             refine zb (by kernel_rfl) fun K hK=>?_
             simp only [go_sem,hk1]
             (try simp (disch:=omega) only [zI])
             repeat first | intro _ | refine ⟨by omega,?_⟩ | refine ⟨⟨by omega,by omega⟩,?_⟩
             refine hK _ ?_
             clear hK K
             try simp only [go_sem]
             refine ⟨hkl,zj [] ?_ ?_⟩
             · try simp only [go_sem]
             · try simp only [go_sem]
               simp [ht,endM,spanR]
           · have hkl : k = min 3 m.ends.length:=by
              have : ¬ k < min 3 m.ends.length:=by simpa using hc
              omega
             have hel : (m.ends.take k).length = k:=by simp; omega
             have htk : m.ends.take k = m.ends.take 3:=by
              rw [List.take_eq_take_iff]
              omega
             refine zf ?_
             simp only [go_sem]
             have hkm : min k m.ends.length = k:=by omega
             repeat refine zq ?_
             refine awp_dreg3 [(3,some 3)] [3] follows (by decide +kernel) (by kernel_rfl) (by simp only [keysOk,List.mem_cons,List.not_mem_nil,forall_eq_or_imp,Oc.keyOf,go_sem]; simp) (by intro k hk; simp only [List.mem_cons,List.not_mem_nil,or_false] at hk; first | (subst hk; exact ⟨_,rfl⟩) | (rcases hk with rfl | rfl <;> exact ⟨_,rfl⟩) | (rcases hk with rfl | rfl | rfl <;> exact ⟨_,rfl⟩)) fun K hK=>?_
             simp only [go_sem,List.length_map,hkm]
             (try simp (disch:=omega) only [zI])
             refine zh (hone) rfl (by simp only [go_sem,i64,ints,List.length_map,hkm]) (by simp only [go_sem,i64,ints,List.length_map,hkm]) (by first | exact .inl rfl | exact .inr rfl) ?_
             (try simp only [go_sem,List.length_map,hkm])
             (try simp (disch:=omega) only [zI])
             repeat first | intro _ | refine ⟨by omega,?_⟩ | refine ⟨⟨by omega,by omega⟩,?_⟩
             refine hK _ ?_
             clear hK K
             refine zw (zk [2,3]) ?_
             simp only [go_sem]
             have hen : (m.ends.take k).map endM ++ [(1000000,1000000)] = (ruM m).ends:=by rw [htk]; rfl
             have hel2 : (ruM m).ends.length = k + 1:=by rw [← hen]; simp [hkm]
             repeat refine zq ?_
             refine zb (by kernel_rfl) fun K hK=>?_
             simp only [go_sem]
             (try simp (disch:=omega) only [zI])
             repeat first | intro _ | refine ⟨by omega,?_⟩ | refine ⟨⟨by omega,by omega⟩,?_⟩
             refine hK _ ?_
             clear hK K
             refine zw (zk [2]) ?_
             simp only [go_sem]
             refine awp_fitV (F:=fun vs=>[(2,.pt 2 (vs 2) 0)]) (R:=fun vs=>[(2,.box [.r (i64 (ruM m).d),.r (aimsR (ruM m).aims),.r (i64 (ruM m).start),.r (i64 (ruM m).out),.os 196 (vs 196) 2 0 (ruM m).ends.length]),(196,.arr 52 2 ((ruM m).ends.map spanR))]) (zj [3] ?_ ?_) hQ
             · try simp only [go_sem]
             · try simp only [go_sem]
               rw [hel2,← hen,List.map_append]
               rfl
theorem mrules_ok (m : Mt) (hw : WfM m) : ACalls Try.prog 32 [.ag (mtC m)] (ruV (ruM m)):=by
 obtain ⟨c,hc,hwalk⟩:=mrules_walk m hw
 refine acalls_st (rs:=[ruV (ruM m)]) [.cell 2 28] Try.func32 hc (by kernel_rfl) Try.ntmps32 rfl (by simp) rfl fun C vs=>hwalk C vs _ fun vs=>?_
 refine zw (sub_frzB 2 4 196 (by omega) (by omega) rfl rfl rfl (by simp)) ?_
 try simp only [go_sem]
 refine ze ?_
 simp only [go_sem]
end Go.Proofs.Ytlbfkhikmigpbaa

namespace Go.Proofs.Ytlbfkhikmigpbaa
open Go Go.Oc
set_option linter.unusedSimpArgs false
set_option linter.unusedVariables false
set_option maxRecDepth 8000
theorem seqOk_of : ∀ {l : List Bd} {p : Option Int},l.Pairwise (fun a b=>a.b < b.b) → (∀ c ∈ l,c.b = 0 ∨ bedOk c.b = true) → (∀ q,p = some q → ∀ c ∈ l,q < c.b) → seqOk p l = true
 | [],_,_,_,_=>by simp [seqOk]
 | c :: l, p, hp, hb, hq => by
   obtain ⟨h1,h2⟩:=List.pairwise_cons.1 hp
   have ih:=seqOk_of (p:=some c.b) h2 (fun x hx=>hb x (by simp [hx])) fun q e x hx=>by injection e with e; subst e; exact h1 x hx
   have hc:=hb c (by simp)
   unfold seqOk
   rw [ih,Bool.and_true,Bool.and_eq_true]
   refine ⟨by simpa using hc,?_⟩
   cases p with
   | none=>rfl
   | some q=>simpa using hq q rfl c (by simp)
theorem bedsM_ok (m : Mt) (hw : WfM m) (i : Nat) : BedsI (4 + m.den) ((bedsM m i),4 + m.den - loS (bedsM m i)) ∧ (bedsM m i).length ≤ 4:=by
 obtain ⟨d0,d1⟩:=hw.den
 unfold bedsM
 split
 · rename_i h
   obtain ⟨e,he⟩:=opt_of_lt h
   have e2 : m.aims.getD i [] = e:=by simp [List.getD,he]
   rw [e2]
   obtain ⟨h1,h2⟩:=stB_ok (den:=4 + m.den) (by omega) (hw.aims e (mem_of_opt he)).2 4
   have hs:=h1.sum
   have h0:=h1.left0
   exact ⟨⟨h1.up,h1.ok,by simp only; omega,by simp only; omega⟩,h2⟩
 · exact ⟨⟨by simp,by simp,by simp [loS],by simp only [loS,List.map_nil,List.sum_nil]; omega⟩,by simp⟩
theorem aimM_ok (m : Mt) (hw : WfM m) (i : Nat) : aimOk (4 + m.den) (aimM m i) = true ∧ WfA (aimM m i) ∧ (aimM m i).beds.length ≤ 4:=by
 obtain ⟨d0,d1⟩:=hw.den
 obtain ⟨h,h4⟩:=bedsM_ok m hw i
 unfold aimM
 generalize bedsM m i = l at *
 have key : ∀ k : List Bd,k ≠ [] → k.length ≤ 4 → k.Pairwise (fun a b=>a.b < b.b) → (∀ c ∈ k,(c.b = 0 ∨ bedOk c.b = true) ∧ 0 ≤ c.lo ∧ c.lo ≤ c.hi ∧ c.hi ≤ 4 + m.den) → loS k ≤ 4 + m.den → 4 + m.den ≤ hiS k →
  aimOk (4 + m.den) ⟨201,k⟩ = true ∧ WfA ⟨201,k⟩ ∧ k.length ≤ 4:=fun k hne hl hp hc hlo hhi=>by
  refine ⟨?_,⟨by unfold I64; simp only; omega,fun c hx=>?_⟩,hl⟩
  · have h1 : seqOk none k = true:=seqOk_of hp (fun c hx=>(hc c hx).1) fun q e=>by cases e
    have h2 : chOk (4 + m.den) k = true:=by
     simp only [chOk,List.all_eq_true,Bool.and_eq_true,decide_eq_true_eq]
     exact fun c hx=>⟨⟨(hc c hx).2.1,(hc c hx).2.2.1⟩,(hc c hx).2.2.2⟩
    simp only [aimOk,h1,h2,Bool.and_true,Bool.and_eq_true,decide_eq_true_eq]
    refine ⟨⟨⟨by decide,?_⟩,hlo⟩,hhi⟩
    cases k with
    | nil=>exact absurd rfl hne
    | cons c k=>rfl
  · obtain ⟨g1,g2,g3,g4⟩:=hc c hx
    have hb : 0 ≤ c.b ∧ c.b ≤ 499:=by
     rcases g1 with g | g
     · omega
     · exact bedOk_le g
    unfold I64
    omega
 cases l with
 | nil =>
   refine key [⟨201,0,4 + m.den⟩] (by simp) (by simp) (by simp) (fun c hc=>?_) (by simp [loS]; omega) (by simp [hiS])
   simp only [List.mem_singleton] at hc
   subst hc
   exact ⟨.inr (show bedOk 201 = true by decide),by simp only; omega,by simp only; omega,by simp only; omega⟩
 | cons c l =>
   have hs:=h.sum
   have hl0:=h.left0
   have hup:=List.pairwise_cons.1 h.up
   have hc:=h.ok c (by simp)
   simp only at hs hl0
   have hlo : loS ((⟨c.b,c.lo,4 + m.den⟩ : Bd) :: l) = loS (c :: l):=by simp [loS]
   have hhi : 4 + m.den ≤ hiS ((⟨c.b,c.lo,4 + m.den⟩ : Bd) :: l):=by
    have : ∀ k : List Bd,(∀ x ∈ k,0 ≤ x.hi) → 0 ≤ hiS k:=by
     intro k
     induction k with
     | nil=>intro _; simp [hiS]
     | cons x k ih=>intro hk; have h1:=hk x (by simp); have h2:=ih fun y hy=>hk y (by simp [hy]); simp only [hiS,List.map_cons,List.sum_cons] at h2 ⊢; omega
    have h3:=this l fun x hx=>by have:=(h.ok x (by simp [hx])).2; omega
    simp only [hiS,List.map_cons,List.sum_cons] at h3 ⊢
    omega
   refine key (⟨c.b,c.lo,4 + m.den⟩ :: l) (by simp) (by simpa using h4) (List.pairwise_cons.2 ⟨hup.1,hup.2⟩) (fun x hx=>?_) (by rw [hlo]; omega) hhi
   rcases List.mem_cons.1 hx with rfl | hx
   · exact ⟨hc.1,hc.2.1,by simp only; omega,by simp only; omega⟩
   · exact h.ok x (by simp [hx])
theorem ruM_wf (m : Mt) (hw : WfM m) : WfR (ruM m):=by
 obtain ⟨d0,d1⟩:=hw.den
 refine ⟨⟨by unfold I64; simp only [ruM]; omega,fun a ha=>?_⟩⟩
 obtain ⟨i,_,rfl⟩:=List.mem_map.1 (show a ∈ (List.range (aimN m)).map (aimM m) from ha)
 exact (aimM_ok m hw i).2.1
theorem ends_ok (m : Mt) (hw : WfM m) : ∀ x ∈ (ruM m).ends,endOk x = true:=fun x hx=>by
 rcases List.mem_append.1 (show x ∈ ((m.ends.take 3).map endM) ++ [(1000000,1000000)] from hx) with hx | hx
 · obtain ⟨e,he,rfl⟩:=List.mem_map.1 hx
   obtain ⟨⟨a0,a1⟩,b0,b1⟩:=hw.ends e (List.mem_of_mem_take he)
   simp only [endOk,endM,withinL,List.all_cons,List.all_nil,Bool.and_true,Bool.and_eq_true,decide_eq_true_eq]
   refine ⟨?_,⟨?_,?_⟩,?_,?_⟩
   · exact decide_eq_true (by omega)
   all_goals omega
 · simp only [List.mem_singleton] at hx
   subst hx
   decide
theorem ruM_ok (m : Mt) (hw : WfM m) : ruE (ruM m) = 0:=by
 obtain ⟨d0,d1⟩:=hw.den
 have hc : checkV (ruM m).d (ruM m).aims = 0:=by
  have hn : 1 ≤ aimN m ∧ aimN m ≤ 3:=by unfold aimN; omega
  have h1 : (decide (20 < (ruM m).aims.length) || (ruM m).aims.any fun a=>decide (10 < a.beds.length)) = false:=by
   simp only [ruM,List.length_map,List.length_range,Bool.or_eq_false_iff,decide_eq_false_iff_not,List.any_eq_false]
   refine ⟨by omega,fun a ha=>?_⟩
   obtain ⟨i,_,rfl⟩:=List.mem_map.1 ha
   have:=(aimM_ok m hw i).2.2
   simp; omega
  have h2 : ((ruM m).aims.isEmpty || !(decide (1 ≤ (ruM m).d) && decide ((ruM m).d ≤ 3000))) = false:=by
   have e1 : (ruM m).aims.isEmpty = false:=by
    cases h : (ruM m).aims with
    | nil=>have:=congrArg List.length h; simp [ruM] at this; omega
    | cons=>rfl
   have e2 : 1 ≤ (ruM m).d ∧ (ruM m).d ≤ 3000:=by simp only [ruM]; omega
   rw [e1]
   simp only [Bool.false_or,Bool.not_eq_false',Bool.and_eq_true,decide_eq_true_eq]
   exact e2
  have h3 : (ruM m).aims.all (aimOk (ruM m).d) = true:=List.all_eq_true.2 fun a ha=>by
   obtain ⟨i,_,rfl⟩:=List.mem_map.1 (show a ∈ (List.range (aimN m)).map (aimM m) from ha)
   exact (aimM_ok m hw i).1
  simp only [checkV,h1,h2,h3,Bool.false_eq_true,if_false,if_true]
 have he:=List.all_eq_true.2 (ends_ok m hw)
 have hl : lastE (ruM m) = 1000000:=by
  unfold lastE
  simp [ruM]
 have s : 2 ≤ (ruM m).start ∧ (ruM m).start ≤ 40:=by simp only [ruM]; omega
 have o : 0 ≤ (ruM m).out ∧ (ruM m).out ≤ 2:=by simp only [ruM]; omega
 have n : 1 ≤ (ruM m).ends.length ∧ (ruM m).ends.length ≤ 10:=by simp only [ruM,List.length_append,List.length_map,List.length_take,List.length_singleton]; omega
 simp [ruE,hc,he,hl,s,o,n]
end Go.Proofs.Ytlbfkhikmigpbaa

namespace Go.Proofs.Ytlbfkhikmigpbaa
open Go Go.Oc
set_option linter.unusedSimpArgs false
set_option linter.unusedVariables false
set_option maxRecDepth 8000
theorem foldl_max_ge : ∀ {l : List Int} {x : Int},x ≤ l.foldl max x ∧ ∀ y ∈ l,y ≤ l.foldl max x
 | [],x=>by simp
 | z :: l, x => by
   obtain ⟨h1,h2⟩:=foldl_max_ge (l:=l) (x:=max x z)
   simp only [List.foldl_cons]
   refine ⟨by omega,fun y hy=>?_⟩
   rcases List.mem_cons.1 hy with rfl | hy
   · omega
   · exact h2 y hy
theorem foldl_max_mem : ∀ {l : List Int} {x : Int},l.foldl max x = x ∨ l.foldl max x ∈ l
 | [],x=>by simp
 | z :: l, x => by
   rcases foldl_max_mem (l:=l) (x:=max x z) with h | h
   · simp only [List.foldl_cons,h]
     by_cases hz : z ≤ x
     · left; omega
     · right; rw [show max x z = z by omega]; simp
   · right; simp [h]
theorem le_maxL {l : List Int} {x : Int} (h : x ∈ l) : x ≤ maxL l:=foldl_max_ge.2 x h
theorem maxL_mem {l : List Int} (h : l ≠ []) : maxL l ∈ l:=by
 cases l with
 | nil=>exact absurd rfl h
 | cons x l =>
   unfold maxL
   simp only [List.headD_cons]
   rcases foldl_max_mem (l:=x :: l) (x:=x) with h | h
   · rw [h]; simp
   · exact h
theorem maxL_mono {α : Type} {l : List α} {F G : α → Int} (hne : l ≠ []) (h : ∀ a ∈ l,F a ≤ G a) : maxL (l.map F) ≤ maxL (l.map G):=by
 obtain ⟨a,ha,e⟩:=List.mem_map.1 (maxL_mem (l:=l.map F) (by simpa using hne))
 rw [← e]
 exact Int.le_trans (h a ha) (le_maxL (List.mem_map.2 ⟨a,ha,rfl⟩))
theorem after_mono {r : Ru} {m1 m2 : Bool} (hm : m1 = true → m2 = true) {T T' : List (List Int)} {k y : Nat} (hk : k < r.ends.length) (he : ∀ x ∈ r.ends,endOk x = true)
 (hT : k + 1 < r.ends.length → 0 ≤ (T.getD (k + 1) []).getD y 0 ∧ (T.getD (k + 1) []).getD y 0 ≤ (T'.getD (k + 1) []).getD y 0) : afterD r m1 T k y ≤ afterD r m2 T' k y:=by
 unfold afterD
 split
 · omega
 · rename_i hn
   obtain ⟨h0,h1⟩:=hT (by omega)
   obtain ⟨e,hek⟩:=opt_of_lt hk
   obtain ⟨g1,g2,g3⟩:=endOk_le (he e (mem_of_opt hek))
   have e2 : r.ends.getD k (0,0) = e:=by simp [List.getD_eq_getElem?_getD,hek]
   rw [e2]
   refine overD_mono hm (by omega) ?_
   have hd : endsD m2 e ≤ endsD m1 e ∧ 0 ≤ 1000000 - endsD m1 e:=by unfold endsD; cases m1 <;> cases m2 <;> simp at hm ⊢ <;> omega
   exact Int.mul_le_mul h1 (by omega) hd.2 (by omega)
theorem next_mono {r : Ru} {m1 m2 : Bool} {T T' : List (List Int)} {k st left : Nat} {val val' : Nat → Int} {last : Bool} {b : Int} (b0 : 0 ≤ b) (b1 : b ≤ 499) (hst : (st : Int) ≤ r.start) (hl : (left : Int) ≤ r.start)
 (hA : ∀ y : Nat,(y : Int) ≤ r.start → afterD r m1 T k y ≤ afterD r m2 T' k y) (hv : last = false → ∀ y : Nat,(y : Int) ≤ r.start → val y ≤ val' y) :
 nextV r m1 T k st val last left b ≤ nextV r m2 T' k st val' last left b:=by
 obtain ⟨s0,s1⟩:=score_le b0 b1
 unfold nextV
 split
 · omega
 · split
   · exact hA st hst
   · split
     · exact hA _ (by omega)
     · rename_i hn
       exact hv (by simpa using hn) _ (by omega)
def RowLe (r : Ru) (T T' : List (List Int)) (k : Nat) : Prop:=k + 1 < r.ends.length → ∀ y : Nat,(y : Int) ≤ r.start → (T.getD (k + 1) []).getD y 0 ≤ (T'.getD (k + 1) []).getD y 0
theorem VisG.row0 {r : Ru} {T : List (List Int)} {k st : Nat} (h : VisG r T k st) {y : Nat} (hy : (y : Int) ≤ r.start) (hk : k + 1 < r.ends.length) : 0 ≤ (T.getD (k + 1) []).getD y 0:=by
 obtain ⟨row,v,hv⟩:=h.tab y hy
 obtain ⟨t1,t2,t3,t4⟩:=hv hk
 simp [List.getD_eq_getElem?_getD,t1,t2,t3]
theorem VisG.after_mono {r : Ru} {m1 m2 : Bool} (hm : m1 = true → m2 = true) {T T' : List (List Int)} {k st : Nat} (h : VisG r T k st) (hT : RowLe r T T' k) (y : Nat) (hy : (y : Int) ≤ r.start) : afterD r m1 T k y ≤ afterD r m2 T' k y :=
 Go.Proofs.Ytlbfkhikmigpbaa.after_mono hm h.kk h.ends fun hk=>⟨h.row0 hy hk,hT hk y hy⟩
theorem means_mono {r : Ru} {m1 m2 : Bool} (hm : m1 = true → m2 = true) (hA : AimsG r) (hH : RefH r) {f g : Int → Int} (hf : ∀ b,0 ≤ b → b ≤ 499 → 0 ≤ f b ∧ f b ≤ 1000000) (hg : ∀ b,0 ≤ b → b ≤ 499 → 0 ≤ g b ∧ g b ≤ 1000000)
 (hfg : ∀ b,0 ≤ b → b ≤ 499 → f b ≤ g b) : ∀ a ∈ r.aims,meanD m1 r.d (chW f a.beds) ≤ meanD m2 r.d (chW g a.beds):=fun a ha =>
 meanD_mono hm (hA.ch hf a ha) (hA.ch hg a ha) (hH.hi a ha) fun c hc=>hfg c.b ((hA.beds a ha).2.2 c hc).1.1 ((hA.beds a ha).2.2 c hc).1.2
theorem val_mono {r : Ru} {m1 m2 : Bool} (hm : m1 = true → m2 = true) (hA : AimsG r) (hH : RefH r) {T T' : List (List Int)} {k st : Nat} (h : VisG r T k st) (h' : VisG r T' k st) (hT : RowLe r T T' k) :
 ∀ n left : Nat,(left : Int) ≤ r.start → valV r m1 T k st n left ≤ valV r m2 T' k st n left
 | 0,_,_=>by simp only [valV]; omega
 | n + 1, left, hl => by
   simp only [valV]
   exact maxL_mono hA.ne (means_mono hm hA hH (fun b b0 b1=>nextV_le h hl b0 b1 fun _ x hx=>valV_le h hA n x hx) (fun b b0 b1=>nextV_le h' hl b0 b1 fun _ x hx=>valV_le h' hA n x hx)
    fun b b0 b1=>next_mono b0 b1 h.st40 hl (h.after_mono hm hT) fun _ y hy=>val_mono hm hA hH h h' hT n y hy)
theorem odds_mono {r : Ru} {m1 m2 : Bool} (hm : m1 = true → m2 = true) (hA : AimsG r) (hH : RefH r) {T T' : List (List Int)} {k st left d : Nat} (h : VisG r T k st) (h' : VisG r T' k st) (hT : RowLe r T T' k) (hl : (left : Int) ≤ r.start) :
 ∀ i : Nat,(oddsV r m1 T k st left d).getD i 0 ≤ (oddsV r m2 T' k st left d).getD i 0:=fun i=>by
 unfold oddsV meansV
 by_cases hi : i < r.aims.length
 · obtain ⟨a,ha⟩:=opt_of_lt hi
   simp only [List.getD_eq_getElem?_getD,List.getElem?_map,ha,Option.map_some,Option.getD_some]
   exact means_mono hm hA hH (fun b b0 b1=>nextV_le h hl b0 b1 fun _ x hx=>valV_le h hA d x hx) (fun b b0 b1=>nextV_le h' hl b0 b1 fun _ x hx=>valV_le h' hA d x hx)
    (fun b b0 b1=>next_mono b0 b1 h.st40 hl (h.after_mono hm hT) fun _ y hy=>val_mono hm hA hH h h' hT d y hy) a (mem_of_opt ha)
 · have e : r.aims[i]? = none:=List.getElem?_eq_none (by omega)
   simp [List.getD_eq_getElem?_getD,e]
theorem rowV_getD (r : Ru) (most : Bool) (T : List (List Int)) (k y : Nat) (h : (y : Int) ≤ r.start) : (rowV r most T k).getD y 0 = if (y : Int) < lowestR r then 0 else valV r most T k y 3 y:=by
 rw [List.getD_eq_getElem?_getD,rowV_get r most T k y h]; rfl
theorem tab_mono {r : Ru} (h : RuG r) (hH : RefH r) : ∀ i,i ≤ r.ends.length → ∀ j y : Nat,(y : Int) ≤ r.start → ((tabI r false i).getD j []).getD y 0 ≤ ((tabI r true i).getD j []).getD y 0
 | 0,_,j,y,_=>by simp only [tabI]; omega
 | i + 1, hi, j, y, hy => by
   have ih:=tab_mono h hH i (by omega)
   simp only [tabI]
   by_cases e : j = r.ends.length - 1 - i
   · subst e
     have g0 : ((tabI r false i).set (r.ends.length - 1 - i) (rowV r false (tabI r false i) (r.ends.length - 1 - i))).getD (r.ends.length - 1 - i) [] = rowV r false (tabI r false i) (r.ends.length - 1 - i):=by
      rw [List.getD_eq_getElem?_getD,List.getElem?_set_self (by rw [tabI_len]; omega)]; rfl
     have g1 : ((tabI r true i).set (r.ends.length - 1 - i) (rowV r true (tabI r true i) (r.ends.length - 1 - i))).getD (r.ends.length - 1 - i) [] = rowV r true (tabI r true i) (r.ends.length - 1 - i):=by
      rw [List.getD_eq_getElem?_getD,List.getElem?_set_self (by rw [tabI_len]; omega)]; rfl
     rw [g0,g1,rowV_getD _ _ _ _ _ hy,rowV_getD _ _ _ _ _ hy]
     split
     · omega
     · exact val_mono (by simp) h.aims hH (vis_at h false i (by omega) y hy) (vis_at h true i (by omega) y hy) (fun _ z hz=>ih _ z hz) 3 y hy
   · have g0 : ∀ (A : List (List Int)) (x : List Int),(A.set (r.ends.length - 1 - i) x).getD j [] = A.getD j []:=fun A x=>by
      rw [List.getD_eq_getElem?_getD,List.getD_eq_getElem?_getD,List.getElem?_set_ne (fun h=>e h.symm)]
     rw [g0,g0]
     exact ih j y hy
theorem val_congr {r : Ru} {most : Bool} {T T' : List (List Int)} {k : Nat} (hk : k < r.ends.length) (h : k + 1 < r.ends.length → T.getD (k + 1) [] = T'.getD (k + 1) []) (st : Nat) : ∀ n left,valV r most T k st n left = valV r most T' k st n left:=by
 have hA : ∀ y,afterD r most T k y = afterD r most T' k y:=fun y=>by
  unfold afterD
  split
  · rfl
  · rename_i hn
    rw [h (by omega)]
 have hN : nextV r most T k st = nextV r most T' k st:=by
  funext val last left b
  simp only [nextV,hA]
 intro n
 induction n with
 | zero=>intro _; rfl
 | succ n ih =>
   intro left
   have e : valV r most T k st n = valV r most T' k st n:=funext ih
   simp only [valV,hN,e]
theorem tabF_row {r : Ru} (most : Bool) {k : Nat} (hk : k < r.ends.length) : (tabF r most).getD k [] = rowV r most (tabI r most (r.ends.length - 1 - k)) k:=by
 unfold tabF
 rw [List.getD_eq_getElem?_getD,tabI_get r most _ (Nat.le_refl _) k (by omega) hk]; rfl
theorem tabF_val {r : Ru} (most : Bool) {k y : Nat} (hk : k < r.ends.length) (hy : (y : Int) ≤ r.start) : ((tabF r most).getD k []).getD y 0 = if (y : Int) < lowestR r then 0 else valV r most (tabF r most) k y 3 y:=by
 rw [tabF_row most hk,rowV_getD _ _ _ _ _ hy]
 split
 · rfl
 · refine val_congr hk (fun hk1=>?_) y 3 y
   rw [tabF_row most hk1,List.getD_eq_getElem?_getD,tabI_get r most (r.ends.length - 1 - k) (by omega) (k + 1) (by omega) hk1]
   rfl
theorem rowV_len (r : Ru) (most : Bool) (T : List (List Int)) (k : Nat) : (rowV r most T k).length = r.start.toNat + 1:=by simp [rowV]
theorem tabF_len (r : Ru) (most : Bool) : (tabF r most).length = r.ends.length:=tabI_len _ _ _
theorem tabF_mem {r : Ru} {most : Bool} {row : List Int} (h : row ∈ tabF r most) : ∃ k,k < r.ends.length ∧ row = rowV r most (tabI r most (r.ends.length - 1 - k)) k:=by
 obtain ⟨k,hk⟩:=List.getElem?_of_mem h
 have hl:=(List.getElem?_eq_some_iff.1 hk).1
 rw [tabF_len] at hl
 have:=tabI_get r most r.ends.length (Nat.le_refl _) k (by omega) hl
 unfold tabF at hk
 rw [hk] at this
 exact ⟨k,hl,Option.some.inj this⟩
theorem tabF_bound {r : Ru} (h : RuG r) (most : Bool) {k y : Nat} (hk : k < r.ends.length) (hy : (y : Int) ≤ r.start) : 0 ≤ ((tabF r most).getD k []).getD y 0 ∧ ((tabF r most).getD k []).getD y 0 ≤ 1000000:=by
 rw [tabF_val most hk hy]
 split
 · omega
 · exact valV_le (vis_tab h most hk y hy) h.aims 3 y hy
end Go.Proofs.Ytlbfkhikmigpbaa

namespace Go.Proofs.Ytlbfkhikmigpbaa
open Go Go.Oc
set_option linter.unusedSimpArgs false
set_option linter.unusedVariables false
set_option maxRecDepth 8000
theorem bestS_spec (l : List Sp) : ∀ i,i ≤ l.length → ∃ b : Nat,bestS l i = b ∧ (0 < i → b < i) ∧ (∀ j,j < i → (l.getD j (0,0)).1 ≤ (l.getD b (0,0)).1) ∧ ∀ j,j < b → (l.getD j (0,0)).1 < (l.getD b (0,0)).1
 | 0,_=>⟨0,rfl,by omega,by omega,by omega⟩
 | i + 1, hi => by
   obtain ⟨b,h1,h2,h3,h4⟩:=bestS_spec l i (by omega)
   simp only [bestS,h1,Int.toNat_natCast]
   split
   · rename_i hlt
     refine ⟨i,rfl,by omega,fun j hj=>?_,fun j hj=>?_⟩
     · by_cases e : j = i
       · subst e; omega
       · have:=h3 j (by omega); omega
     · have:=h3 j hj; omega
   · rename_i hlt
     by_cases hi0 : i = 0
     · subst hi0
       have hb : b = 0:=by
        have : bestS l 0 = 0:=rfl
        omega
       subst hb
       exact ⟨0, rfl, by omega, fun j hj => by have : j = 0 := by omega
                                               subst this; omega,by omega⟩
     · refine ⟨b,rfl,by omega,fun j hj=>?_,h4⟩
       by_cases e : j = i
       · subst e; omega
       · exact h3 j (by omega)
theorem mayL_spec (l : List Sp) (least : Int) : ∀ i,(mayL l least i).Pairwise (· < ·) ∧ ∀ v,v ∈ mayL l least i ↔ ∃ j : Nat,v = j ∧ j < i ∧ least ≤ (l.getD j (0,0)).2
 | 0=>by simp [mayL]
 | i + 1 => by
   obtain ⟨h1,h2⟩:=mayL_spec l least i
   simp only [mayL]
   split
   · rename_i h
     refine ⟨List.pairwise_append.2 ⟨h1,by simp,fun x hx y hy=>?_⟩,fun v=>?_⟩
     · obtain ⟨j,rfl,hj,_⟩:=(h2 x).1 hx
       simp only [List.mem_singleton] at hy
       subst hy
       omega
     · rw [List.mem_append,h2]
       constructor
       · rintro (⟨j,rfl,hj,g⟩ | hv)
         · exact ⟨j,rfl,by omega,g⟩
         · simp only [List.mem_singleton] at hv
           exact ⟨i,hv,by omega,h⟩
       · rintro ⟨j,rfl,hj,g⟩
         by_cases e : j = i
         · subst e; right; simp
         · exact .inl ⟨j,rfl,by omega,g⟩
   · rename_i h
     refine ⟨h1,fun v=>?_⟩
     rw [h2]
     constructor
     · rintro ⟨j,rfl,hj,g⟩
       exact ⟨j,rfl,by omega,g⟩
     · rintro ⟨j,rfl,hj,g⟩
       refine ⟨j,rfl,?_,g⟩
       by_cases e : j = i
       · subst e; exact absurd g h
       · omega
def topF (f : Sp → Int) (l : List Sp) : Int:=l.foldl (fun a x=>max a (f x)) (-1)
theorem topF_snoc (f : Sp → Int) (l : List Sp) (x : Sp) : topF f (l ++ [x]) = max (topF f l) (f x):=by simp [topF]
theorem fold_ge (f : Sp → Int) : ∀ (l : List Sp) (a : Int),a ≤ l.foldl (fun a x=>max a (f x)) a ∧ (∀ x ∈ l,f x ≤ l.foldl (fun a x=>max a (f x)) a) ∧ (l.foldl (fun a x=>max a (f x)) a = a ∨ ∃ x ∈ l,l.foldl (fun a x=>max a (f x)) a = f x)
 | [],a=>by simp
 | y :: l, a => by
   obtain ⟨h1,h2,h3⟩:=fold_ge f l (max a (f y))
   simp only [List.foldl_cons]
   refine ⟨by omega,fun x hx=>?_,?_⟩
   · rcases List.mem_cons.1 hx with rfl | hx
     · omega
     · exact h2 x hx
   · rcases h3 with h3 | ⟨x,hx,e⟩
     · by_cases hay : f y ≤ a
       · left; omega
       · right; exact ⟨y,by simp,by omega⟩
     · right; exact ⟨x,by simp [hx],e⟩
theorem topF_max {f : Sp → Int} {l : List Sp} (hne : l ≠ []) (h0 : ∀ x ∈ l,0 ≤ f x) : topF f l = maxL (l.map f):=by
 obtain ⟨h1,h2,h3⟩:=fold_ge f l (-1)
 have hm:=maxL_mem (l:=l.map f) (by simpa using hne)
 obtain ⟨y,hy,e⟩:=List.mem_map.1 hm
 have g1:=h2 y hy
 rcases h3 with h3 | ⟨x,hx,h3⟩
 · have:=h0 y hy; omega
 · have:=le_maxL (l:=l.map f) (List.mem_map.2 ⟨x,hx,rfl⟩)
   unfold topF
   omega
theorem topF_at {f : Sp → Int} {l : List Sp} {b : Nat} {x : Sp} (hb : l[b]? = some x) (h0 : 0 ≤ f x) (h : ∀ y ∈ l,f y ≤ f x) : topF f l = f x:=by
 obtain ⟨h1,h2,h3⟩:=fold_ge f l (-1)
 have g1:=h2 x (List.mem_of_getElem? hb)
 unfold topF
 rcases h3 with h3 | ⟨y,hy,h3⟩
 · omega
 · have:=h y hy; omega
theorem oddsV_len (r : Ru) (most : Bool) (T : List (List Int)) (k s left d : Nat) : (oddsV r most T k s left d).length = r.aims.length:=by simp [oddsV,meansV]
theorem oddsV_bound {r : Ru} {most : Bool} {T : List (List Int)} {k s left d : Nat} (hA : AimsG r) (h : VisG r T k s) (hl : (left : Int) ≤ r.start) : ∀ x ∈ oddsV r most T k s left d,0 ≤ x ∧ x ≤ 1000000:=fun x hx=>by
 unfold oddsV meansV at hx
 obtain ⟨a,ha,rfl⟩:=List.mem_map.1 hx
 exact meanD_le (hA.ch (fun b b0 b1=>nextV_le h hl b0 b1 fun _ x hx=>valV_le h hA d x hx) a ha)
theorem oddsS_map (r : Ru) (k s left d : Nat) : (oddsS r k s left d).map (·.1) = oddsV r false (tabF r false) k s left d ∧ (oddsS r k s left d).map (·.2) = oddsV r true (tabF r true) k s left d:=by
 unfold oddsS
 exact ⟨List.map_fst_zip (by rw [oddsV_len,oddsV_len]; exact Nat.le_refl _),List.map_snd_zip (by rw [oddsV_len,oddsV_len]; exact Nat.le_refl _)⟩
theorem oddsS_at {r : Ru} {k s left d i : Nat} {x : Sp} (h : (oddsS r k s left d)[i]? = some x) : x.1 = (oddsV r false (tabF r false) k s left d).getD i 0 ∧ x.2 = (oddsV r true (tabF r true) k s left d).getD i 0:=by
 obtain ⟨h1,h2⟩:=oddsS_map r k s left d
 rw [← h1,← h2]
 simp [List.getD_eq_getElem?_getD,h]
theorem lowest_le (r : Ru) : lowestR r = 1 ∨ lowestR r = 2:=by unfold lowestR; split <;> simp
theorem rowle_tab {r : Ru} (h : RuG r) (hH : RefH r) (k : Nat) : RowLe r (tabF r false) (tabF r true) k:=fun hk y hy=>tab_mono h hH r.ends.length (Nat.le_refl _) (k + 1) y hy
theorem oddsS_ok {r : Ru} (h : RuG r) (hH : RefH r) {k s left d : Nat} (hk : k < r.ends.length) (hs : (s : Int) ≤ r.start) (hl : (left : Int) ≤ r.start) : ∀ x ∈ oddsS r k s left d,0 ≤ x.1 ∧ x.1 ≤ x.2 ∧ x.2 ≤ 1000000:=fun x hx=>by
 obtain ⟨i,hi⟩:=List.getElem?_of_mem hx
 obtain ⟨e1,e2⟩:=oddsS_at hi
 have v0:=vis_tab h false hk s hs
 have v1:=vis_tab h true hk s hs
 have hm:=odds_mono (m1:=false) (m2:=true) (by simp) h.aims hH v0 v1 (rowle_tab h hH k) (d:=d) hl i
 obtain ⟨h1,h2⟩:=oddsS_map r k s left d
 have g1:=oddsV_bound (most:=false) (d:=d) h.aims v0 hl x.1 (by rw [← h1]; exact List.mem_map.2 ⟨x,hx,rfl⟩)
 have g2:=oddsV_bound (most:=true) (d:=d) h.aims v1 hl x.2 (by rw [← h2]; exact List.mem_map.2 ⟨x,hx,rfl⟩)
 omega
theorem odds_tab {r : Ru} (h : RuG r) {k s : Nat} (hk : k < r.ends.length) (hs : (s : Int) ≤ r.start) (hl : lowestR r ≤ s) :
 ((tabF r false).getD k []).getD s 0 = maxL ((oddsS r k s s 2).map (·.1)) ∧ ((tabF r true).getD k []).getD s 0 = maxL ((oddsS r k s s 2).map (·.2)):=by
 obtain ⟨h1,h2⟩:=oddsS_map r k s s 2
 rw [h1,h2,tabF_val false hk hs,tabF_val true hk hs,if_neg (by omega),if_neg (by omega)]
 exact ⟨rfl,rfl⟩
end Go.Proofs.Ytlbfkhikmigpbaa

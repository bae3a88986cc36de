/- Part 9 of the texts of this claim. -/
import Derived.Test.YtlbfkhikmigpbaaV78
import Derived.Test.YtlbfkhikmigpbaaV77
namespace Go.Proofs.Ytlbfkhikmigpbaa
open Go Go.Oc
set_option linter.unusedSimpArgs false
set_option linter.unusedVariables false
set_option maxRecDepth 8000
set_option maxHeartbeats 1000000
section
variable {P : Program} {C : Ctx} {s : AS} {Q : Exit → AS → Prop} {ops : Array Oper}
theorem sops_sx {l : List Oper} {t : TypeId} {n : Nat} {ps : List (Nat × Operand)} {d : Nat} {ty : TypeId} {pos : String} {af : Array Edge} (sz : Nat) (es : List (List RV)) (hdn : d < s.n) (hne : es ≠ [])
 (hp : (sBuildSlice P s t n (evp s ps)).pre) (hy : (sBuildSlice P s t n (evp s ps)).y = ⟨.r (.sl sz es),[]⟩)
 (h : sops P C ops l Q (s.put (some d) (.r (.sx sz es)))) : sops P C ops (⟨some d,.buildSlice t n ps.toArray,ty,pos,af,none⟩ :: l) Q s:=fun a w ⟨p,hs⟩=>by
 rw [← evp_eq] at hp hy
 unfold wpListIn
 rw [if_pos (wantA_sound hs (by simp [wantA]))]
 refine wpIn_of_wp (by intro c h; cases h) ?_
 have hAY : AY P ⟨some d,.buildSlice t n ps.toArray,ty,pos,af,none⟩ s ⟨.r (.sx sz es),[]⟩:=by
  unfold AY
  exact .inl ⟨hp,.inr ⟨rfl,sz,es,hne,hy,rfl⟩⟩
 refine AY_sound hs hAY (fun t ht=>by injection ht with ht; subst ht; exact hdn) fun a' w' p' hs'=>?_
 exact h a' w' ⟨p',hs'⟩
end
theorem half_ok (a b : Int) : ACalls Try.prog 36 [.sx 2 [[i64 a,i64 b]]] (ruV (halfR [(a,b)])):=by
 have h1:=one_ok 1
 have hm:=one_ok 1000000
 refine acalls_st (rs:=[ruV (halfR [(a,b)])]) [.cell 2 28] Try.func36 rfl (by kernel_rfl) Try.ntmps36 rfl (by simp) rfl fun C vs=>?_
 repeat refine zq ?_
 refine zb (by kernel_rfl) fun K hK=>?_
 simp only [go_sem]
 (try simp (disch:=omega) only [zI])
 repeat first | intro _ | refine ⟨by omega,?_⟩ | refine ⟨⟨by omega,by omega⟩,?_⟩
 refine hK _ ?_
 clear hK K
 refine zw (zk [0,2]) ?_
 simp only [go_sem]
 repeat refine zq ?_
 refine zb (by kernel_rfl) fun K hK=>?_
 simp only [go_sem]
 (try simp (disch:=omega) only [zI])
 refine zh (h1) rfl (by simp only [go_sem,i64,ints]) (by simp only [go_sem,i64,ints]) (by first | exact .inl rfl | exact .inr rfl) ?_
 (try simp only [go_sem])
 (try simp (disch:=omega) only [zI])
 refine zh (h1) rfl (by simp only [go_sem,i64,ints]) (by simp only [go_sem,i64,ints]) (by first | exact .inl rfl | exact .inr rfl) ?_
 (try simp only [go_sem])
 (try simp (disch:=omega) only [zI])
 refine zh (hm) rfl (by simp only [go_sem,i64,ints]) (by simp only [go_sem,i64,ints]) (by first | exact .inl rfl | exact .inr rfl) ?_
 (try simp only [go_sem])
 (try simp (disch:=omega) only [zI])
 repeat first | intro _ | refine ⟨by omega,?_⟩ | refine ⟨⟨by omega,by omega⟩,?_⟩
 refine hK _ ?_
 clear hK K
 refine zw (sub_frzB 2 4 14 (ty:=52) (sz:=2) (off:=0) (m:=2) (es:=[[i64 a,i64 b],[i64 1000000,i64 1000000]]) (by omega) (by omega) rfl (by simp only [go_sem,List.getElem?_cons_succ,List.getElem?_cons_zero]) (by rfl) (by simp)) ?_
 try simp only [go_sem]
 refine zw (zk [2]) ?_
 simp only [go_sem]
 refine ze ?_
 simp only [go_sem]
 exact ⟨rfl,rfl,rfl,rfl,rfl⟩
theorem half_nil : ACalls Try.prog 36 [.ns] (ruV (halfR [])):=by
 have h1:=one_ok 1
 have hm:=one_ok 1000000
 refine acalls_st (rs:=[ruV (halfR [])]) [.cell 2 28] Try.func36 rfl (by kernel_rfl) Try.ntmps36 rfl (by simp) rfl fun C vs=>?_
 repeat refine zq ?_
 refine zb (by kernel_rfl) fun K hK=>?_
 simp only [go_sem]
 (try simp (disch:=omega) only [zI])
 repeat first | intro _ | refine ⟨by omega,?_⟩ | refine ⟨⟨by omega,by omega⟩,?_⟩
 refine hK _ ?_
 clear hK K
 refine zw (zk [0,2]) ?_
 simp only [go_sem]
 repeat refine zq ?_
 refine zb (by kernel_rfl) fun K hK=>?_
 simp only [go_sem]
 (try simp (disch:=omega) only [zI])
 refine zh (h1) rfl (by simp only [go_sem,i64,ints]) (by simp only [go_sem,i64,ints]) (by first | exact .inl rfl | exact .inr rfl) ?_
 (try simp only [go_sem])
 (try simp (disch:=omega) only [zI])
 refine zh (h1) rfl (by simp only [go_sem,i64,ints]) (by simp only [go_sem,i64,ints]) (by first | exact .inl rfl | exact .inr rfl) ?_
 (try simp only [go_sem])
 (try simp (disch:=omega) only [zI])
 refine zh (hm) rfl (by simp only [go_sem,i64,ints]) (by simp only [go_sem,i64,ints]) (by first | exact .inl rfl | exact .inr rfl) ?_
 (try simp only [go_sem])
 (try simp (disch:=omega) only [zI])
 repeat first | intro _ | refine ⟨by omega,?_⟩ | refine ⟨⟨by omega,by omega⟩,?_⟩
 refine hK _ ?_
 clear hK K
 refine zw (sub_frzB 2 4 14 (ty:=52) (sz:=2) (off:=0) (m:=1) (es:=[[i64 1000000,i64 1000000]]) (by omega) (by omega) rfl (by simp only [go_sem,List.getElem?_cons_succ,List.getElem?_cons_zero]) (by rfl) (by simp)) ?_
 try simp only [go_sem]
 refine zw (zk [2]) ?_
 simp only [go_sem]
 refine ze ?_
 simp only [go_sem]
 exact ⟨rfl,rfl,rfl,rfl,rfl⟩
theorem half_wf (e : List Sp) : WfR (halfR e):=by
 refine ⟨⟨show (-9223372036854775808 : Int) ≤ 2 ∧ (2 : Int) ≤ 9223372036854775807 by decide,fun a ha=>?_⟩⟩
 simp only [halfR,List.mem_singleton] at ha
 subst ha
 refine ⟨by unfold I64; decide,fun c hc=>?_⟩
 simp only [List.mem_cons,List.not_mem_nil,or_false] at hc
 rcases hc with rfl | rfl <;> (unfold I64; decide)
theorem ex_table : ACalls Try.prog 16 [ruV (halfR [(0,500000)])] (.tu [tabR [[0,0,929687],[0,0,875000]],tabR [[0,0,984375],[0,0,875000]],i64 0]):=by
 have h:=table_ok (halfR [(0,500000)]) (half_wf _)
 have h0 : ruE (halfR [(0,500000)]) = 0:=by decide +kernel
 have h1 : tabF (halfR [(0,500000)]) false = [[0,0,929687],[0,0,875000]]:=by decide +kernel
 have h2 : tabF (halfR [(0,500000)]) true = [[0,0,984375],[0,0,875000]]:=by decide +kernel
 unfold tabsV at h
 rw [if_pos h0,if_pos h0,h0,h1,h2] at h
 exact h
theorem ex_toss : ACalls Try.prog 30 [ruV (halfR [(500000,500000)])] (.tu [.ag [i64 929687,i64 929688],.ag [i64 437500,i64 437500],i64 0]):=by
 have h:=toss_ok (halfR [(500000,500000)]) (half_wf _)
 have h0 : ruE (halfR [(500000,500000)]) = 0:=by decide +kernel
 have h1 : tossF (halfR [(500000,500000)]) false = 929687:=by decide +kernel
 have h2 : tossF (halfR [(500000,500000)]) true = 929688:=by decide +kernel
 have h3 : tossS (halfR [(500000,500000)]) false = 437500:=by decide +kernel
 have h4 : tossS (halfR [(500000,500000)]) true = 437500:=by decide +kernel
 unfold tossV at h
 rw [if_pos h0,if_pos h0,h0,h1,h2,h3,h4] at h
 exact h
theorem ex_odds : ∃ hi : Int,ACalls Try.prog 21 [ruV (halfR []),.ag [i64 0,i64 2,i64 2,i64 2]] (.tu [spansR [(750000,hi)],i64 0]):=by
 have h:=odds_ok (halfR []) (half_wf _) ⟨0,2,2,2⟩
 have h0 : oddsE (halfR []) ⟨0,2,2,2⟩ = 0:=by decide +kernel
 rcases odds_cases (halfR []) ⟨0,2,2,2⟩ with ⟨_,_,_,hR⟩ | ⟨hE,_⟩
 · rw [h0,hR] at h
   have h1 : oddsL (halfR []) ⟨0,2,2,2⟩ = [(750000,750000)]:=by decide +kernel
   rw [h1] at h
   exact ⟨_,h⟩
 · exact absurd h0 hE
theorem ex_aim : ACalls Try.prog 22 [ruV (halfR []),.ag [i64 0,i64 2,i64 2,i64 3]] (.tu [i64 0,i64 875000,i64 0]):=by
 have h:=aim_ok (halfR []) (half_wf _) ⟨0,2,2,3⟩
 have h0 : oddsE (halfR []) ⟨0,2,2,3⟩ = 0:=by decide +kernel
 have h1 : bestL (oddsL (halfR []) ⟨0,2,2,3⟩) = 0:=by decide +kernel
 have h2 : lowL (oddsL (halfR []) ⟨0,2,2,3⟩) = 875000:=by decide +kernel
 rw [if_pos h0,if_pos h0,h0,h1,h2] at h
 exact h
theorem ex_may : ACalls Try.prog 23 [ruV (halfR []),.ag [i64 0,i64 2,i64 2,i64 1]] (.tu [ints [0],i64 0]):=by
 have h:=may_ok (halfR []) (half_wf _) ⟨0,2,2,1⟩
 have h0 : oddsE (halfR []) ⟨0,2,2,1⟩ = 0:=by decide +kernel
 have h1 : mayL (oddsL (halfR []) ⟨0,2,2,1⟩) (lowL (oddsL (halfR []) ⟨0,2,2,1⟩)) (oddsL (halfR []) ⟨0,2,2,1⟩).length = [0]:=by decide +kernel
 rw [if_pos h0,h0,h1] at h
 exact h
theorem ex_proves : ACalls Try.prog 27 [ruV (halfR [(500000,500000)]),.sl 1 [[.sl 1 [[i64 0],[i64 0],[i64 929688]]],[.sl 1 [[i64 0],[i64 0],[i64 875000]]]],.bo false] (.tu [.bo false,i64 0,i64 2,i64 0]):=by
 have h:=proves_ok (halfR [(500000,500000)]) (half_wf _) false [[0,0,929688],[0,0,875000]]
 have h0 : provesE (halfR [(500000,500000)]) [[0,0,929688],[0,0,875000]] = 0:=by decide +kernel
 have h1 : provesO (halfR [(500000,500000)]) false [[0,0,929688],[0,0,875000]] = some (0,2):=by decide +kernel
 unfold provesR at h
 rw [if_pos h0,h1] at h
 exact h
theorem known_ok : ACalls Try.prog 13 [] (.bo true):=by
 obtain ⟨hi,hod⟩:=ex_odds
 have hta:=ex_table
 have hto:=ex_toss
 have hai:=ex_aim
 have hma:=ex_may
 have hpr:=ex_proves
 have hn:=half_nil
 have h1:=half_ok 0 500000
 have h2:=half_ok 500000 500000
 have ho:=one_ok 500000
 generalize halfR [(0,500000)] = A0 at hta h1
 generalize halfR [(500000,500000)] = A1 at hto hpr h2
 generalize halfR [] = A2 at hod hai hma hn
 refine acalls_st (rs:=[.bo true]) [.tmp 0] Try.func13 rfl (by kernel_rfl) Try.ntmps13 rfl (by simp) rfl fun C vs=>?_
 repeat refine zq ?_
 refine zb (by kernel_rfl) fun K hK=>?_
 simp only [go_sem]
 (try simp (disch:=omega) only [zI])
 repeat first | intro _ | refine ⟨by omega,?_⟩ | refine ⟨⟨by omega,by omega⟩,?_⟩
 refine hK _ ?_
 clear hK K
 repeat refine zq ?_
 refine awp_long ?_
 refine sops_take 1 (by kernel_rfl) fun K hK=>?_
 simp only [go_sem,List.take_succ_cons,List.take_zero,List.drop_succ_cons,List.drop_zero,List.append_eq,List.cons_append,List.nil_append]
 (try simp (disch:=omega) only [zI])
 repeat first | intro _ | refine ⟨by omega,?_⟩ | refine ⟨⟨by omega,by omega⟩,?_⟩
 refine hK _ rfl ?_
 clear hK K
 refine sops_sx 2 [[i64 0,i64 500000]] (by simp [go_sem]) (by simp) (by simp only [go_sem]; trivial) (by simp only [go_sem]; rfl) ?_
 try simp only [go_sem]
 refine sops_end (by kernel_rfl) fun K hK=>?_
 simp only [go_sem,List.drop_succ_cons,List.drop_zero,List.append_eq,List.cons_append,List.nil_append]
 (try simp (disch:=omega) only [zI])
 refine zh (h1) rfl (by simp only [go_sem,i64,ints]) (by simp only [go_sem,i64,ints]) (by first | exact .inl rfl | exact .inr rfl) ?_
 (try simp only [go_sem])
 (try simp (disch:=omega) only [zI])
 refine zh (hta) rfl (by simp only [go_sem,i64,ints]) (by simp only [go_sem,i64,ints]) (by first | exact .inl rfl | exact .inr rfl) ?_
 (try simp only [go_sem])
 (try simp (disch:=omega) only [zI])
 repeat first | intro _ | refine ⟨by omega,?_⟩ | refine ⟨⟨by omega,by omega⟩,?_⟩
 refine hK _ ?_
 clear hK K
 refine zw (zk [1,2,3]) ?_
 simp only [go_sem]
 repeat refine zq ?_
 refine awp_long ?_
 refine sops_take 1 (by kernel_rfl) fun K hK=>?_
 simp only [go_sem,List.take_succ_cons,List.take_zero,List.drop_succ_cons,List.drop_zero,List.append_eq,List.cons_append,List.nil_append]
 (try simp (disch:=omega) only [zI])
 refine zh (ho) rfl (by simp only [go_sem,i64,ints]) (by simp only [go_sem,i64,ints]) (by first | exact .inl rfl | exact .inr rfl) ?_
 (try simp only [go_sem])
 (try simp (disch:=omega) only [zI])
 repeat first | intro _ | refine ⟨by omega,?_⟩ | refine ⟨⟨by omega,by omega⟩,?_⟩
 refine hK _ rfl ?_
 clear hK K
 refine sops_sx 2 [[i64 500000,i64 500000]] (by simp [go_sem]) (by simp) (by simp only [go_sem]; trivial) (by simp only [go_sem]; rfl) ?_
 try simp only [go_sem]
 refine sops_end (by kernel_rfl) fun K hK=>?_
 simp only [go_sem,List.drop_succ_cons,List.drop_zero,List.append_eq,List.cons_append,List.nil_append]
 (try simp (disch:=omega) only [zI])
 refine zh (h2) rfl (by simp only [go_sem,i64,ints]) (by simp only [go_sem,i64,ints]) (by first | exact .inl rfl | exact .inr rfl) ?_
 (try simp only [go_sem])
 (try simp (disch:=omega) only [zI])
 refine zh (hto) rfl (by simp only [go_sem,i64,ints]) (by simp only [go_sem,i64,ints]) (by first | exact .inl rfl | exact .inr rfl) ?_
 (try simp only [go_sem])
 (try simp (disch:=omega) only [zI])
 repeat first | intro _ | refine ⟨by omega,?_⟩ | refine ⟨⟨by omega,by omega⟩,?_⟩
 refine hK _ ?_
 clear hK K
 refine zw (sub_frzP 4 4 [i64 929687,i64 929688] (by omega) rfl rfl) ?_
 refine zw (zk [1,2,3,4,5,6]) ?_
 simp only [go_sem]
 refine zw (sub_frzP 5 5 [i64 437500,i64 437500] (by omega) rfl rfl) ?_
 refine zw (zk [1,2,3,4,5,6]) ?_
 simp only [go_sem]
 repeat refine zq ?_
 refine zb (by kernel_rfl) fun K hK=>?_
 simp only [go_sem]
 (try simp (disch:=omega) only [zI])
 refine zh (hn) rfl (by simp only [go_sem,i64,ints]) (by simp only [go_sem,i64,ints]) (by first | exact .inl rfl | exact .inr rfl) ?_
 (try simp only [go_sem])
 (try simp (disch:=omega) only [zI])
 refine zh (hod) rfl (by simp only [go_sem,i64,ints]) (by simp only [go_sem,i64,ints]) (by first | exact .inl rfl | exact .inr rfl) ?_
 (try simp only [go_sem])
 (try simp (disch:=omega) only [zI])
 repeat first | intro _ | refine ⟨by omega,?_⟩ | refine ⟨⟨by omega,by omega⟩,?_⟩
 refine hK _ ?_
 clear hK K
 refine zw (zk [1,2,3,4,5,6,7,8]) ?_
 simp only [go_sem]
 repeat refine zq ?_
 refine zb (by kernel_rfl) fun K hK=>?_
 simp only [go_sem]
 (try simp (disch:=omega) only [zI])
 refine zh (hn) rfl (by simp only [go_sem,i64,ints]) (by simp only [go_sem,i64,ints]) (by first | exact .inl rfl | exact .inr rfl) ?_
 (try simp only [go_sem])
 (try simp (disch:=omega) only [zI])
 refine zh (hai) rfl (by simp only [go_sem,i64,ints]) (by simp only [go_sem,i64,ints]) (by first | exact .inl rfl | exact .inr rfl) ?_
 (try simp only [go_sem])
 (try simp (disch:=omega) only [zI])
 repeat first | intro _ | refine ⟨by omega,?_⟩ | refine ⟨⟨by omega,by omega⟩,?_⟩
 refine hK _ ?_
 clear hK K
 refine zw (zk [1,2,3,4,5,6,7,8,9,10,11]) ?_
 simp only [go_sem]
 repeat refine zq ?_
 refine zb (by kernel_rfl) fun K hK=>?_
 simp only [go_sem]
 (try simp (disch:=omega) only [zI])
 refine zh (hn) rfl (by simp only [go_sem,i64,ints]) (by simp only [go_sem,i64,ints]) (by first | exact .inl rfl | exact .inr rfl) ?_
 (try simp only [go_sem])
 (try simp (disch:=omega) only [zI])
 refine zh (hma) rfl (by simp only [go_sem,i64,ints]) (by simp only [go_sem,i64,ints]) (by first | exact .inl rfl | exact .inr rfl) ?_
 (try simp only [go_sem])
 (try simp (disch:=omega) only [zI])
 repeat first | intro _ | refine ⟨by omega,?_⟩ | refine ⟨⟨by omega,by omega⟩,?_⟩
 refine hK _ ?_
 clear hK K
 refine zw (zk [1,2,3,4,5,6,7,8,9,10,11,12,13]) ?_
 simp only [go_sem]
 repeat refine zq ?_
 refine awp_long ?_
 refine sops_take 1 (by kernel_rfl) fun K hK=>?_
 simp only [go_sem,List.take_succ_cons,List.take_zero,List.drop_succ_cons,List.drop_zero,List.append_eq,List.cons_append,List.nil_append]
 (try simp (disch:=omega) only [zI])
 refine zh (ho) rfl (by simp only [go_sem,i64,ints]) (by simp only [go_sem,i64,ints]) (by first | exact .inl rfl | exact .inr rfl) ?_
 (try simp only [go_sem])
 (try simp (disch:=omega) only [zI])
 repeat first | intro _ | refine ⟨by omega,?_⟩ | refine ⟨⟨by omega,by omega⟩,?_⟩
 refine hK _ rfl ?_
 clear hK K
 refine sops_sx 2 [[i64 500000,i64 500000]] (by simp [go_sem]) (by simp) (by simp only [go_sem]; trivial) (by simp only [go_sem]; rfl) ?_
 try simp only [go_sem]
 refine sops_end (by kernel_rfl) fun K hK=>?_
 simp only [go_sem,List.drop_succ_cons,List.drop_zero,List.append_eq,List.cons_append,List.nil_append]
 (try simp (disch:=omega) only [zI])
 refine zh (h2) rfl (by simp only [go_sem,i64,ints]) (by simp only [go_sem,i64,ints]) (by first | exact .inl rfl | exact .inr rfl) ?_
 (try simp only [go_sem])
 (try simp (disch:=omega) only [zI])
 refine zh (hpr) rfl (by simp only [go_sem,i64,ints]) (by simp only [go_sem,i64,ints]) (by first | exact .inl rfl | exact .inr rfl) ?_
 (try simp only [go_sem])
 (try simp (disch:=omega) only [zI])
 repeat first | intro _ | refine ⟨by omega,?_⟩ | refine ⟨⟨by omega,by omega⟩,?_⟩
 refine hK _ ?_
 clear hK K
 refine zw (zk [1,2,3,4,5,6,7,8,9,10,11,12,13,14,15,16,17]) ?_
 simp only [go_sem]
 repeat refine zq ?_
 refine zb (by kernel_rfl) fun K hK=>?_
 simp only [go_sem,bne_self_eq_false,List.append_eq,List.cons_append,List.nil_append]
 (try simp (disch:=omega) only [zI])
 repeat intro _
 repeat first | intro _ | refine ⟨by omega,?_⟩ | refine ⟨⟨by omega,by omega⟩,?_⟩
 refine hK _ ?_
 clear hK K
 refine zw (zk [1,2,4,5,7,9,10,14,15,16,120]) ?_
 simp only [go_sem]
 repeat refine zq ?_
 refine zc rfl (fun hc=>?_) (fun hc=>?_) <;> (try simp only [go_sem] at hc)
 refine zx ?_
 try simp only [go_sem]
 repeat refine zq ?_
 refine zb (by kernel_rfl) fun K hK=>?_
 simp only [go_sem,spanR,beq_self_eq_true,List.append_eq,List.cons_append,List.nil_append]
 (try simp (disch:=omega) only [zI])
 repeat intro _
 repeat first | intro _ | refine ⟨by omega,?_⟩ | refine ⟨⟨by omega,by omega⟩,?_⟩
 refine hK _ ?_
 clear hK K
 refine zw (zk [0]) ?_
 simp only [go_sem]
 refine ze ?_
 simp only [go_sem]
end Go.Proofs.Ytlbfkhikmigpbaa

namespace Go.Oc
open Go Go.RowKit
set_option linter.unusedVariables false
set_option linter.unusedSimpArgs false
def sAppB (P : Program) (s : AS) (d : Nat) (t t' : TypeId) (x y : AV) : Res :=
 match tyq P t,decide (t = t'),x,y with
 | some ⟨.slice e esz eb _, _, _, _⟩, true, .os k n sz off m, .os j n2 sz2 off2 m2 =>
   match s.rows k,s.rows j with
   | ⟨n',.ara e' sz' cs⟩,⟨n2',.ara e2 sz2' ds⟩=>⟨(n = n' ∧ n2 = n2') ∧ (e' = e ∧ e2 = e) ∧ (sz = esz ∧ sz' = esz ∧ sz2 = esz ∧ sz2' = esz) ∧ (off = 0 ∧ off2 = 0) ∧ (cs.length = m * esz ∧ ds.length = m2 * esz) ∧ (0 < m ∧ 0 < m2 ∧ 0 < esz) ∧ (m + m2) * eb ≤ 140737488355328 ∧ m + m2 ≤ 9223372036854775807 ∧ k < 1000,True,
    ⟨.os k (n' + 1) esz 0 (m + m2),[(k,⟨n' + 1,.ara e esz (cs ++ ds)⟩)]⟩⟩
   | _,_=>.bad
 | some ⟨.slice e esz eb _, _, _, _⟩, true, .r .ns, .os j n2 sz2 off2 m2 =>
   match s.rows j with
   | ⟨n2',.ara e2 sz2' ds⟩=>⟨n2 = n2' ∧ e2 = e ∧ (sz2 = esz ∧ sz2' = esz) ∧ off2 = 0 ∧ ds.length = m2 * esz ∧ (0 < m2 ∧ 0 < esz) ∧ m2 * eb ≤ 140737488355328 ∧ m2 ≤ 9223372036854775807 ∧ d < 1000,True,
    ⟨.os d ((s.rows d).ver + 1) esz 0 m2,[(d,⟨(s.rows d).ver + 1,.ara e esz ds⟩)]⟩⟩
   | _=>.bad
 | _,_,_,_=>.bad
section
variable {P : Program} {C : Ctx} {p : Plan} {s : AS} {a : Act} {w : World} {o : Oper}
theorem ara_read (h : SR C p s a w) {k n esz e m : Nat} {cs : List AV} {x : Operand} (e3 : s.ev x = .os k n esz 0 m) (e5 : s.rows k = ⟨n,.ara e esz cs⟩) (hm : cs.length = m * esz) (h0 : 0 < m) :
 ∃ b cells l rest, p.β k = some b ∧ a.eval x = .slice (some ⟨b, 0, none⟩) m (p.γ k) ∧ w.heap[b]? = some (.cells cells e (0, 0)) ∧ cells.size = p.γ k * esz ∧ cells.toList = l ++ rest ∧ AV.relV w p s.ver cs l ∧ (∀ u ∈ l, u.oneCell' = true) ∧ l.length = m * esz ∧
   m ≤ p.γ k ∧ ∀ j u,l[j]? = some u → w.cell? ((⟨b,0,none⟩ : Addr).add j) = some u:=by
 have hver : n = s.ver k:=by simp [AS.ver,e5]
 have hrow:=h.rw k
 rw [e5] at hrow
 simp only [rowRel] at hrow
 obtain ⟨b,cells,hβ,hh,hcs,l,rest,hl,hV,h1⟩:=hrow
 rcases ev_os h e3 hver with ⟨hb0,_⟩ | ⟨b',A,hβ',hv,hle,hA⟩
 · rw [hb0] at hβ; cases hβ
 · rw [hβ] at hβ'
   injection hβ' with hβ'
   subst hβ'
   obtain rfl:=hA (.inl h0)
   simp only [Nat.zero_mul,Nat.sub_zero,Nat.zero_add] at hv hle
   refine ⟨b,cells,l,rest,hβ,hv,hh,hcs,hl,hV,h1,by rw [AV.relV_length hV,hm],hle,fun j u hj=>?_⟩
   rw [add_at,Nat.zero_add,cell_of_row w b j cells e (0,0) hh,← Array.getElem?_toList,hl,List.getElem?_append_left (List.getElem?_eq_some_iff.1 hj).1]
   exact hj
theorem good_appB {x y : Operand} {t t' : TypeId} (h : SR C p s a w) (ho : o.op = .call ⟨.builtin .append,#[x,y],#[t,t']⟩) (hp : (sAppB P s (o.dst.getD 0) t t' (s.ev x) (s.ev y)).pre) :
 Done P C o s a w (sAppB P s (o.dst.getD 0) t t' (s.ev x) (s.ev y)):=by
 have go : ∀ {v : Value} {w2 : World},(Builtin.append_ #[t,t'] o.type #[a.eval x,a.eval y]).run P w = .ok v w2 → (execOp a.eval o).run P w = .ok (.value v) w2:=fun hr =>
  run_builtin_of ho (by simp only [builtin,Sem.run_bind,List.map_toArray,List.map_cons,List.map_nil,hr,Result.andThen_ok,Sem.run_pure])
 unfold sAppB at hp ⊢
 split at hp
 · rename_i e esz eb ez ssz sagg sz0 k n sz off m j n2 sz2 off2 m2 e1 e2 e3 e4
   obtain rfl : t = t':=by simpa using e2
   split at hp
   · rename_i n' e' sz' cs n2' ee sz2' ds e5 e6
     obtain ⟨⟨g1,g2⟩,⟨g3,g4⟩,⟨g5,g6,g7,g8⟩,⟨g9,g10⟩,⟨hm,hm2⟩,⟨h0,h02,hpos⟩,hb,hmax,hk0⟩:=hp
     subst g1 g2 g3 g4 g5 g6 g7 g8 g9 g10
     have hn2 : n = (s.rows k).ver:=by rw [e5]
     obtain ⟨b,cells,l,rest,hβ,hv,hh,hcs,hl,hV,h1,hll,hle,hget⟩:=ara_read h e3 e5 hm h0
     obtain ⟨bj,cellsj,vs,restj,hβj,hvj,hhj,hcsj,hlj,hVj,h1j,hlv,hlej,hgv⟩:=ara_read h e4 e6 hm2 h02
     obtain ⟨hu,hok,hco,hby,zv,hzv,hez⟩:=tyq_slice e1
     obtain ⟨i,z,hi,hzero,hcells,hz1,hzl⟩:=zeroOf_spec hzv
     rw [cellsOf_info hi] at hco
     rw [bytesOf_info hi] at hby
     by_cases hroom : m + m2 ≤ p.γ k
     · have hfit : m * sz2' + vs.length ≤ cells.size:=by
        rw [hlv,hcs,← Nat.add_mul]; exact Nat.mul_le_mul_right _ hroom
       have hr:=run_append_room (P:=P) w t o.type ee i hu hi b m (p.γ k) cells hh ⟨bj,0,none⟩ m2 (p.γ j) vs (by rw [hlv,hco]) hgv h1j hroom (by rw [hco]; exact hfit)
       rw [hco] at hr
       have htk : cells.toList.take (m * sz2') = l:=by rw [hl,← hll,List.take_left]
       have hSR:=h.reRow (w':=w.setRow b (cells.toList.take (m * sz2') ++ vs ++ cells.toList.drop (m * sz2' + vs.length)).toArray) k hk0 (.ara ee sz2' (cs ++ ds)) rfl (some b) (p.γ k) (h.cap k) rfl rfl rfl (by simp)
        (fun j _ hj=>setRow_other w b j _ (fun e=>hj (by rw [e]; exact hβ))) (fun b2 h2=>by injection h2 with h2; subst h2; exact ⟨by simpa using (h.bl k _ hβ).1,.inl hβ⟩) (fun p' ver' hR' hβ' hγ' hk=>by
        simp only [rowRel]
        rw [hγ']
        refine ⟨b,_,hβ',setRow_heap w b cells _ ee _ hh,?_,l ++ vs,cells.toList.drop (m * sz2' + vs.length),by rw [htk],?_,fun u hu=>(List.mem_append.1 hu).elim (h1 u) (h1j u)⟩
        · simp; omega
        · exact AV.relV_append (AV.relV_mono hk _ _ hV) (AV.relV_mono hk _ _ hVj))
       refine ⟨_,.slice (some ⟨b,0,none⟩) (m + m2) (p.γ k),_,{ p with β:=upd p.β k (some b),γ:=upd p.γ k (p.γ k) },go (by rw [hv,hvj]; exact hr),.inl rfl,trivial,?_,?_⟩
       · rw [rows_one,hn2]; exact hSR
       · rw [rows_one,hn2]
         simp only [AV.rel,vers,upd_same]
         exact ⟨Nat.le_refl _,fun _=>.inr ⟨b,_,rfl,by simp; rfl,by simpa using hroom,fun _=>by simp⟩⟩
     · have hr:=run_append_grow (P:=P) w t o.type ee i z hu hi hzero ⟨b,0,none⟩ m (p.γ k) l (by rw [hll,hco]) hget ⟨bj,0,none⟩ m2 (p.γ j) vs (by rw [hlv,hco]) hgv (by omega) (by omega)
        (growslice_fits (by omega) (by rw [hby]; exact hb))
       have hge:=grownCap_ge w (m + m2) (p.γ k) ee
       have hcap:=grownCap_le_maxLen w (m + m2) (p.γ k) ee (by simp only [maxLen]; omega)
       have hzc : z.cells.size = sz2':=by rw [cellsOf_info hi,hco] at hzl; rw [← hzl,← hcells]; simp
       have hd : SR C p s a w.drew:=h.below (w':=w.drew) ((Below.refl _ _).drew) (fun _ h=>h) (fun _ h=>.inl h) h.rb
       have hVd : AV.relV w.drew p s.ver cs l:=by
        obtain ⟨b3,cells3,hβ3,hh3,_,l3,rest3,hl3,hV3,_⟩ : ∃ b cells,p.β k = some b ∧ w.drew.heap[b]? = some (.cells cells ee (0,0)) ∧ cells.size = p.γ k * sz2' ∧ ∃ l rest,cells.toList = l ++ rest ∧ AV.relV w.drew p s.ver cs l ∧ ∀ u ∈ l,u.oneCell' = true:=by
         have:=hd.rw k
         rw [e5] at this
         simpa only [rowRel] using this
        rw [hβ] at hβ3; injection hβ3 with hβ3; subst hβ3
        have hh3' : w.heap[b]? = some (.cells cells3 ee (0,0)):=hh3
        rw [hh] at hh3'; injection hh3' with hh3'; injection hh3' with hh3'; subst hh3'
        have e7 : l3 = l:=by
         have e8:=AV.relV_length hV3
         rw [hl] at hl3
         have : l.length = l3.length:=by rw [hll,← hm]; exact e8.symm
         exact (List.append_inj hl3 this).1.symm
        subst e7
        exact hV3
       have hVjd : AV.relV w.drew p s.ver ds vs:=by
        obtain ⟨b3,cells3,hβ3,hh3,_,l3,rest3,hl3,hV3,_⟩ : ∃ b cells,p.β j = some b ∧ w.drew.heap[b]? = some (.cells cells ee (0,0)) ∧ cells.size = p.γ j * sz2' ∧ ∃ l rest,cells.toList = l ++ rest ∧ AV.relV w.drew p s.ver ds l ∧ ∀ u ∈ l,u.oneCell' = true:=by
         have:=hd.rw j
         rw [e6] at this
         simpa only [rowRel] using this
        rw [hβj] at hβ3; injection hβ3 with hβ3; subst hβ3
        have hh3' : w.heap[bj]? = some (.cells cells3 ee (0,0)):=hh3
        rw [hhj] at hh3'; injection hh3' with hh3'; injection hh3' with hh3'; subst hh3'
        have e7 : l3 = vs:=by
         have e8:=AV.relV_length hV3
         rw [hlj] at hl3
         have : vs.length = l3.length:=by rw [hlv,← hm2]; exact e8.symm
         exact (List.append_inj hl3 this).1.symm
        subst e7
        exact hV3
       have hn:=hd.newRow k hk0 (.ara ee sz2' (cs ++ ds)) rfl (grownCap w (m + m2) (p.γ k) ee) hcap
        (.cells (l.toArray ++ vs.toArray ++ Builtin.zeroCells z.cells (grownCap w (m + m2) (p.γ k) ee - (m + m2))) ee) (fun p' ver' _ hβ hγ hk=>by
        simp only [rowRel]
        rw [hγ]
        refine ⟨_,_,hβ,heap_alloc_new w.drew _,?_,l ++ vs,(Builtin.zeroCells z.cells (grownCap w (m + m2) (p.γ k) ee - (m + m2))).toList,?_,AV.relV_append (AV.relV_mono hk _ _ hVd) (AV.relV_mono hk _ _ hVjd),fun u hu=>(List.mem_append.1 hu).elim (h1 u) (h1j u)⟩
        · rw [Array.size_append,Array.size_append,size_zero,hzc,List.size_toArray,List.size_toArray,hll,hlv,← Nat.add_mul,← Nat.add_mul]
          congr 1; omega
        · simp only [Array.toList_append,List.append_assoc])
       refine ⟨_,_,_,_,go (by rw [hv,hvj]; exact hr),.inl rfl,trivial,by rw [rows_one,hn2]; exact hn,?_⟩
       rw [rows_one,hn2]
       simp only [AV.rel,vers,upd_same]
       exact ⟨Nat.le_refl _,fun _=>.inr ⟨_,_,rfl,by simp; rfl,by simpa using hge,fun _=>by simp⟩⟩
   · exact hp.elim
 · rename_i e esz eb ez ssz sagg sz0 j n2 sz2 off2 m2 e1 e2 e3 e4
   obtain rfl : t = t':=by simpa using e2
   split at hp
   · rename_i n2' ee sz2' ds e6
     obtain ⟨g2,g4,⟨g7,g8⟩,g10,hm2,⟨h02,hpos⟩,hb,hmax,hd0⟩:=hp
     subst g2 g4 g7 g8 g10
     obtain ⟨A,hv⟩:=ev_ns h e3
     obtain ⟨bj,cellsj,vs,restj,hβj,hvj,hhj,hcsj,hlj,hVj,h1j,hlv,hlej,hgv⟩:=ara_read h e4 e6 hm2 h02
     obtain ⟨hu,hok,hco,hby,zv,hzv,hez⟩:=tyq_slice e1
     obtain ⟨i,z,hi,hzero,hcells,hz1,hzl⟩:=zeroOf_spec hzv
     rw [cellsOf_info hi] at hco
     rw [bytesOf_info hi] at hby
     have hrun : (Builtin.append_ #[t,t] o.type #[.slice A 0 0,.slice (some ⟨bj,0,none⟩) m2 (p.γ j)]).run P w =
      .ok (.slice (some ⟨w.heap.size,0,none⟩) m2 (grownCap w m2 0 ee)) (w.drew.alloc (.cells (vs.toArray ++ Builtin.zeroCells z.cells (grownCap w m2 0 ee - m2)) ee)):=by
      cases A with
      | none=>exact run_append_nil (P:=P) w t o.type ee i z hu hi hzero ⟨bj,0,none⟩ m2 (p.γ j) vs (by rw [hlv,hco]) hgv h02 (by omega) (by rw [hby]; omega)
      | some b =>
        have:=run_append_grow (P:=P) w t o.type ee i z hu hi hzero b 0 0 [] (by simp) (by simp) ⟨bj,0,none⟩ m2 (p.γ j) vs (by rw [hlv,hco]) hgv (by omega) (by omega) (growslice_fits (by omega) (by rw [hby]; simpa using hb))
        simpa using this
     have hge:=grownCap_ge w m2 0 ee
     have hcap:=grownCap_le_maxLen w m2 0 ee (by simp only [maxLen]; omega)
     have hzc : z.cells.size = sz2':=by rw [cellsOf_info hi,hco] at hzl; rw [← hzl,← hcells]; simp
     have hd : SR C p s a w.drew:=h.below (w':=w.drew) ((Below.refl _ _).drew) (fun _ h=>h) (fun _ h=>.inl h) h.rb
     have hVjd : AV.relV w.drew p s.ver ds vs:=by
      obtain ⟨b3,cells3,hβ3,hh3,_,l3,rest3,hl3,hV3,_⟩ : ∃ b cells,p.β j = some b ∧ w.drew.heap[b]? = some (.cells cells ee (0,0)) ∧ cells.size = p.γ j * sz2' ∧ ∃ l rest,cells.toList = l ++ rest ∧ AV.relV w.drew p s.ver ds l ∧ ∀ u ∈ l,u.oneCell' = true:=by
       have:=hd.rw j
       rw [e6] at this
       simpa only [rowRel] using this
      rw [hβj] at hβ3; injection hβ3 with hβ3; subst hβ3
      have hh3' : w.heap[bj]? = some (.cells cells3 ee (0,0)):=hh3
      rw [hhj] at hh3'; injection hh3' with hh3'; injection hh3' with hh3'; subst hh3'
      have e7 : l3 = vs:=by
       have e8:=AV.relV_length hV3
       rw [hlj] at hl3
       have : vs.length = l3.length:=by rw [hlv,← hm2]; exact e8.symm
       exact (List.append_inj hl3 this).1.symm
      subst e7
      exact hV3
     have hn:=hd.newRow (o.dst.getD 0) hd0 (.ara ee sz2' ds) rfl (grownCap w m2 0 ee) hcap
      (.cells (vs.toArray ++ Builtin.zeroCells z.cells (grownCap w m2 0 ee - m2)) ee) (fun p' ver' _ hβ hγ hk=>by
      simp only [rowRel]
      rw [hγ]
      refine ⟨_,_,hβ,heap_alloc_new w.drew _,?_,vs,(Builtin.zeroCells z.cells (grownCap w m2 0 ee - m2)).toList,?_,AV.relV_mono hk _ _ hVjd,h1j⟩
      · rw [Array.size_append,size_zero,hzc,List.size_toArray,hlv,← Nat.add_mul]
        congr 1; omega
      · simp only [Array.toList_append])
     refine ⟨_,_,_,_,go (by rw [hv,hvj]; exact hrun),.inl rfl,trivial,by rw [rows_one]; exact hn,?_⟩
     rw [rows_one]
     simp only [AV.rel,vers,upd_same]
     exact ⟨Nat.le_refl _,fun _=>.inr ⟨_,_,rfl,by simp; rfl,by simpa using hge,fun _=>by simp⟩⟩
   · exact hp.elim
 · exact hp.elim
variable {Q : Exit → AS → Prop} {ops : Array Oper}
theorem sops_appB {l : List Oper} {t t' : TypeId} {x y : Operand} {d : Nat} {ty : TypeId} {pos : String} {af : Array Edge} (hdn : d < s.n)
 (h : aR s (some d) (sAppB P s d t t' (s.ev x) (s.ev y)) (fun s'=>sops P C ops l Q s')) : sops P C ops (⟨some d,.call ⟨.builtin .append,#[x,y],#[t,t']⟩,ty,pos,af,none⟩ :: l) Q s:=fun a w ⟨p,hs⟩=>by
 unfold wpListIn
 rw [if_pos (wantA_sound hs (by simp [wantA]))]
 refine wpIn_of_wp (by intro c h; cases h) ?_
 obtain ⟨nx,v,w',p',hrun,hnx,hass,hSR,hrel⟩:=good_appB (o:=⟨some d,.call ⟨.builtin .append,#[x,y],#[t,t']⟩,ty,pos,af,none⟩) hs rfl h.1
 unfold Oper.wp
 rw [hrun]
 have hput:=hSR.put' (d:=some d) hrel (fun t ht=>by injection ht with ht; subst ht; exact hdn)
 rcases hnx with rfl | ⟨rfl,rfl⟩
 · exact h.2 hass _ _ ⟨p',hput⟩
 · exact h.2 hass _ _ ⟨p',hput⟩
end
end Go.Oc

namespace Go.Proofs.Ytlbfkhikmigpbaa
open Go Go.Oc
set_option linter.unusedSimpArgs false
set_option linter.unusedVariables false
set_option maxRecDepth 8000
set_option maxHeartbeats 1000000
def cellP (T : List (List Int)) (i : Nat) : List AV:=(T.take i).map fun row=>.r (ints row)
def cellQ (q : Nat) (T : List (List Int)) (k i v : Nat) : List AV:=((T.take k).map fun row=>AV.r (ints row)) ++ .os q v 1 0 (T.getD k []).length :: (((T.take i).drop (k + 1)).map fun row=>AV.r (ints row))
abbrev cellK (T : List (List Int)) (k i v : Nat) : List AV:=cellQ 30 T k i v
theorem lendL_app {ρ : List (Nat × Nat)} {ver : Nat → Nat} : ∀ {xs ys a b : List AV},lendL ρ ver xs = some a → lendL ρ ver ys = some b → lendL ρ ver (xs ++ ys) = some (a ++ b)
 | [], ys, a, b, h1, h2 => by
   simp only [lendL,Option.some.injEq] at h1
   subst h1; simpa using h2
 | x :: xs, ys, a, b, h1, h2 => by
   simp only [lendL] at h1
   split at h1
   · rename_i y ys' e1 e2
     injection h1 with h1
     subst h1
     simp only [List.cons_append,lendL,e1,lendL_app e2 h2]
   · cases h1
theorem lendL_r {α : Type} {f : α → RV} {ρ : List (Nat × Nat)} {ver : Nat → Nat} : ∀ l : List α,lendL ρ ver (l.map fun x=>AV.r (f x)) = some (l.map fun x=>AV.r (f x))
 | []=>by simp only [List.map_nil,lendL]
 | x :: l=>by simp only [List.map_cons,lendL,lendA,lendL_r l]
theorem backL_app {ρ : List (Nat × Nat)} {ver : Nat → Nat} : ∀ xs ys : List AV,backL ρ ver (xs ++ ys) = backL ρ ver xs ++ backL ρ ver ys
 | [],ys=>by simp only [List.nil_append,backL]
 | x :: xs,ys=>by simp only [List.cons_append,backL,backL_app xs ys]
theorem backL_r {α : Type} {f : α → RV} {ρ : List (Nat × Nat)} {ver : Nat → Nat} : ∀ l : List α,backL ρ ver (l.map fun x=>AV.r (f x)) = l.map fun x=>AV.r (f x)
 | []=>by simp only [List.map_nil,backL]
 | x :: l=>by simp only [List.map_cons,backL,backA,backL_r l]
theorem lend_cellQ {q q' : Nat} {ρ : List (Nat × Nat)} {ver : Nat → Nat} {T : List (List Int)} {k i v : Nat} (h1 : lendKey ρ q = some q') (h2 : v = ver q) : lendL ρ ver (cellQ q T k i v) = some (cellQ q' T k i 0):=by
 unfold cellQ
 refine lendL_app (lendL_r _) ?_
 simp only [lendL,lendA,h1,if_pos h2,lendL_r]
theorem back_cellQ {q q' : Nat} {ρ : List (Nat × Nat)} {ver : Nat → Nat} {T : List (List Int)} {k i v : Nat} (h1 : pinOf ρ q = some q') : backL ρ ver (cellQ q T k i v) = cellQ q' T k i (ver q'):=by
 unfold cellQ
 rw [backL_app,backL_r]
 simp only [backL,backA,h1,backL_r]
theorem cellQ_get {q : Nat} {T : List (List Int)} {k i v : Nat} (h : k < T.length) : (cellQ q T k i v)[k]? = some (.os q v 1 0 (T.getD k []).length):=by
 unfold cellQ
 rw [List.getElem?_append_right (by simp; omega),List.length_map,List.length_take,show k - min k T.length = 0 by omega]
 rfl
theorem cellQ_set {q : Nat} {T : List (List Int)} {k v : Nat} {row : List Int} (h : k < T.length) : (cellQ q T k T.length v).set k (.r (ints row)) = (T.set k row).map fun row=>AV.r (ints row):=by
 unfold cellQ
 rw [List.take_length,List.set_append_right _ _ (by simp; omega),List.length_map,List.length_take,show k - min k T.length = 0 by omega,List.set_cons_zero,List.set_eq_take_append_cons_drop,if_pos h,List.map_append,List.map_cons]
theorem flat_tab : ∀ T : List (List Int),(T.map fun row=>AV.r (ints row)) = (T.map fun row=>[ints row]).flatten.map .r
 | []=>rfl
 | row :: T=>by simp only [List.map_cons,List.flatten_cons,List.map_append,← flat_tab T]; rfl
theorem cellP_len {T : List (List Int)} {i : Nat} (h : i ≤ T.length) : (cellP T i).length = i:=by simp [cellP]; omega
theorem cellK_len {q : Nat} {T : List (List Int)} {k i v : Nat} (h : i ≤ T.length) (hk : k < i) : (cellQ q T k i v).length = i:=by simp [cellQ]; omega
theorem cellP_succ {T : List (List Int)} {i : Nat} {row : List Int} (h : T[i]? = some row) : cellP T (i + 1) = cellP T i ++ [.r (ints row)]:=by
 unfold cellP
 rw [List.take_add_one,h]; simp
theorem cellK_start {T : List (List Int)} {i v : Nat} {row : List Int} (h : T[i]? = some row) : cellK T i (i + 1) v = cellP T i ++ [.os 30 v 1 0 row.length]:=by
 unfold cellK cellQ cellP
 rw [List.drop_eq_nil_of_le (by simp; omega)]
 simp [List.getD_eq_getElem?_getD,h]
theorem cellK_succ {T : List (List Int)} {k i v : Nat} {row : List Int} (h : T[i]? = some row) (hk : k < i) : cellK T k (i + 1) v = cellK T k i v ++ [.r (ints row)]:=by
 have hl:=(List.getElem?_eq_some_iff.1 h).1
 unfold cellK cellQ
 rw [List.take_add_one,h,List.drop_append_of_le_length (by simp; omega)]
 simp
def lsF (T : List (List Int)) (i : Nat) (vs : Nat → Nat) : List (Nat × AV):=[(0,.r (tabR T)),(3,if i = 0 then .r .ns else .os 20 (vs 20) 1 0 i),(4,.r (i64 (i : Int)))]
def lsR (T : List (List Int)) (k i : Nat) (vs : Nat → Nat) : List (Nat × RowC) :=
 if i = 0 then [] else if i ≤ k then [(20,.ara 46 1 (cellP T i))] else [(20,.ara 46 1 (cellK T k i (vs 30))),(30,.arr 3 1 ((T.getD k []).map fun x=>[i64 x]))]
theorem lists_new (T : List (List Int)) (k : Nat) (hk : k < T.length) (hl : T.length ≤ 1000000) (hr : ∀ row ∈ T,row.length ≤ 1000000) :
 NCalls Try.prog 26 [tabR T] [(20,.ara 46 1 (cellK T k T.length 0)),(30,.arr 3 1 ((T.getD k []).map fun x=>[i64 x]))] (.os 20 0 1 0 T.length):=by
 refine ncalls_st (n:=22) _ _ (.tmp 2) Try.func26 rfl (by kernel_rfl) Try.ntmps26 rfl (by simp) rfl rfl fun C hC=>?_
 repeat refine zq ?_
 refine zb (by kernel_rfl) fun K hK=>?_
 simp only [go_sem]
 (try simp (disch:=omega) only [zI])
 repeat first | intro _ | refine ⟨by omega,?_⟩ | refine ⟨⟨by omega,by omega⟩,?_⟩
 refine hK _ ?_
 clear hK K
 refine zw (zk [0]) ?_
 simp only [go_sem]
 repeat refine zq ?_
 refine zb (by kernel_rfl) fun K hK=>?_
 simp only [go_sem]
 (try simp (disch:=omega) only [zI])
 repeat first | intro _ | refine ⟨by omega,?_⟩ | refine ⟨⟨by omega,by omega⟩,?_⟩
 refine hK _ ?_
 clear hK K
 refine zw (zk [0,3]) ?_
 simp only [go_sem]
 repeat refine zq ?_
 refine zb (by kernel_rfl) fun K hK=>?_
 simp only [go_sem]
 (try simp (disch:=omega) only [zI])
 repeat first | intro _ | refine ⟨by omega,?_⟩ | refine ⟨⟨by omega,by omega⟩,?_⟩
 refine hK _ ?_
 clear hK K
 refine zw (zk [0,3,4]) ?_
 simp only [go_sem]
 repeat refine zq ?_
 refine zd ?_
 refine awp_uptoV (n:=22) T.length (lsF T) (lsR T k) (fun _=>True) 0 (zj [] ?_ ?_) (Nat.zero_le _) trivial ?_
 · simp only [lsF,if_true]
   try simp only [go_sem]
 · simp only [lsR,if_true]
   try simp only [go_sem]
 · intro i vs hi _
   have hi1 : ∀ j : Nat,j ≤ T.length → IntKind.i64.wrap ((j : Int) + 1) = ((j + 1 : Nat) : Int):=fun j hj=>by rw [zI] <;> omega
   rcases Nat.eq_zero_or_pos i with rfl | hi00
   · rcases Nat.eq_zero_or_pos k with rfl | hk0
     · skip
       simp only [lsF,lsR,if_true]
       repeat refine zq ?_
       refine zb (by kernel_rfl) fun K hK=>?_
       simp only [go_sem]
       (try simp (disch:=omega) only [zI])
       intro hl8
       repeat first | intro _ | refine ⟨by omega,?_⟩ | refine ⟨⟨by omega,by omega⟩,?_⟩
       refine hK _ ?_
       clear hK K
       refine zw (zk [0,3,4,9]) ?_
       simp only [go_sem]
       repeat refine zq ?_
       refine zc rfl (fun hc=>?_) (fun hc=>?_) <;> (try simp only [go_sem] at hc)
       · have hci : 0 < T.length:=by omega
         obtain ⟨row,hrow⟩:=opt_of_lt hci
         have hrl:=hr row (mem_of_opt hrow)
         refine zx ?_
         try simp only [go_sem]
         repeat refine zq ?_
         refine zd ?_
         repeat refine zq ?_
         refine awp_long ?_
         refine sops_take 7 (by kernel_rfl) fun K hK=>?_
         simp only [go_sem,List.take_succ_cons,List.take_zero,List.drop_succ_cons,List.drop_zero,List.append_eq,List.cons_append,List.nil_append,hrow,hci]
         (try simp (disch:=omega) only [zI])
         repeat first | intro _ | refine ⟨by omega,?_⟩ | refine ⟨⟨by omega,by omega⟩,?_⟩
         refine hK _ rfl ?_
         clear hK K
         refine sops_sub (sub_move (sz:=1) (off:=0) (m:=row.length) (ty:=3) (sz':=1) (es:=row.map fun x=>[i64 x]) 18 18 30 (by omega) (by omega) (by omega) (by try simp only [go_sem]) (by rfl) (by rfl)) ?_
         refine sops_sub (zk [0,4,12,18]) ?_
         simp only [go_sem]
         refine sops_litB (by simp [go_sem]) ?_
         simp only [go_sem,sLitBox,lay,List.replicate_succ,List.replicate_zero,List.flatten_cons,List.flatten_nil,List.map_cons,List.map_nil,List.cons_append,List.nil_append]
         repeat first | refine ⟨by omega,?_⟩ | refine ⟨⟨by omega,by omega⟩,?_⟩
         refine sops_appB (by simp [go_sem]) ?_
         simp only [go_sem,sAppB,List.length_cons,List.length_nil,decide_true]
         refine sops_end (by kernel_rfl) fun K hK=>?_
         simp only [go_sem,List.drop_succ_cons,List.drop_zero,List.append_eq,List.cons_append,List.nil_append]
         (try simp (disch:=omega) only [zI])
         repeat first | intro _ | refine ⟨by omega,?_⟩ | refine ⟨⟨by omega,by omega⟩,?_⟩
         refine hK _ ?_
         clear hK K
         refine zw (zk [0,3,4]) ?_
         simp only [go_sem]
         repeat refine zq ?_
         refine zb (by kernel_rfl) fun K hK=>?_
         simp only [go_sem]
         (try simp (disch:=omega) only [zI])
         repeat first | intro _ | refine ⟨by omega,?_⟩ | refine ⟨⟨by omega,by omega⟩,?_⟩
         refine hK _ ?_
         clear hK K
         try simp only [go_sem]
         refine ⟨by omega,zj [19] ?_ ?_⟩
         · simp only [lsF,if_neg (show ¬ 0 + 1 = 0 by omega)]
           try simp only [go_sem]
         · simp only [lsR,if_neg (show ¬ 0 + 1 = 0 by omega),if_neg (show ¬ 0 + 1 ≤ 0 by omega)]
           try simp only [go_sem]
           rw [cellK_start hrow,show T.getD 0 [] = row by simp [List.getD_eq_getElem?_getD,hrow]]
           rfl
       · exfalso; omega
     · skip
       simp only [lsF,lsR,if_true]
       repeat refine zq ?_
       refine zb (by kernel_rfl) fun K hK=>?_
       simp only [go_sem]
       (try simp (disch:=omega) only [zI])
       intro hl8
       repeat first | intro _ | refine ⟨by omega,?_⟩ | refine ⟨⟨by omega,by omega⟩,?_⟩
       refine hK _ ?_
       clear hK K
       refine zw (zk [0,3,4,9]) ?_
       simp only [go_sem]
       repeat refine zq ?_
       refine zc rfl (fun hc=>?_) (fun hc=>?_) <;> (try simp only [go_sem] at hc)
       · have hci : 0 < T.length:=by omega
         obtain ⟨row,hrow⟩:=opt_of_lt hci
         have hrl:=hr row (mem_of_opt hrow)
         refine zx ?_
         try simp only [go_sem]
         repeat refine zq ?_
         refine zd ?_
         repeat refine zq ?_
         refine awp_long ?_
         refine sops_take 7 (by kernel_rfl) fun K hK=>?_
         simp only [go_sem,List.take_succ_cons,List.take_zero,List.drop_succ_cons,List.drop_zero,List.append_eq,List.cons_append,List.nil_append,hrow,hci]
         (try simp (disch:=omega) only [zI])
         repeat first | intro _ | refine ⟨by omega,?_⟩ | refine ⟨⟨by omega,by omega⟩,?_⟩
         refine hK _ rfl ?_
         clear hK K
         refine sops_sub (sub_frz (ty:=3) (sz:=1) (off:=0) (m:=row.length) (es:=row.map fun x=>[i64 x]) 18 18 (by omega) (by try simp only [go_sem]) (by rfl) (by simp)) ?_
         have e2 : ((row.map fun x=>[i64 x]).drop 0).take row.length = row.map fun x=>[i64 x]:=by
          rw [List.drop_zero,List.take_of_length_le (by simp)]
         rw [e2]
         refine sops_sub (zk [0,4,12,18]) ?_
         simp only [go_sem]
         refine sops_litB (by simp [go_sem]) ?_
         simp only [go_sem,sLitBox,lay,List.replicate_succ,List.replicate_zero,List.flatten_cons,List.flatten_nil,List.map_cons,List.map_nil,List.cons_append,List.nil_append]
         repeat first | refine ⟨by omega,?_⟩ | refine ⟨⟨by omega,by omega⟩,?_⟩
         refine sops_appB (by simp [go_sem]) ?_
         simp only [go_sem,sAppB,List.length_cons,List.length_nil,decide_true]
         refine sops_end (by kernel_rfl) fun K hK=>?_
         simp only [go_sem,List.drop_succ_cons,List.drop_zero,List.append_eq,List.cons_append,List.nil_append]
         (try simp (disch:=omega) only [zI])
         repeat first | intro _ | refine ⟨by omega,?_⟩ | refine ⟨⟨by omega,by omega⟩,?_⟩
         refine hK _ ?_
         clear hK K
         refine zw (zk [0,3,4]) ?_
         simp only [go_sem]
         repeat refine zq ?_
         refine zb (by kernel_rfl) fun K hK=>?_
         simp only [go_sem]
         (try simp (disch:=omega) only [zI])
         repeat first | intro _ | refine ⟨by omega,?_⟩ | refine ⟨⟨by omega,by omega⟩,?_⟩
         refine hK _ ?_
         clear hK K
         try simp only [go_sem]
         refine ⟨by omega,zj [19] ?_ ?_⟩
         · simp only [lsF,if_neg (show ¬ 0 + 1 = 0 by omega)]
           try simp only [go_sem]
         · simp only [lsR,if_neg (show ¬ 0 + 1 = 0 by omega),if_pos (show 0 + 1 ≤ k by omega)]
           try simp only [go_sem]
           rw [cellP_succ hrow]; rfl
       · exfalso; omega
   · have hi0 : ¬ i = 0:=by omega
     rcases Nat.lt_trichotomy i k with hlt | rfl | hgt
     · have hikS : i ≤ k:=by omega
       simp only [lsF,lsR,if_neg hi0,hikS]
       repeat refine zq ?_
       refine zb (by kernel_rfl) fun K hK=>?_
       simp only [go_sem]
       (try simp (disch:=omega) only [zI])
       intro hl8
       repeat first | intro _ | refine ⟨by omega,?_⟩ | refine ⟨⟨by omega,by omega⟩,?_⟩
       refine hK _ ?_
       clear hK K
       refine zw (zk [0,3,4,9]) ?_
       simp only [go_sem]
       repeat refine zq ?_
       refine zc rfl (fun hc=>?_) (fun hc=>?_) <;> (try simp only [go_sem] at hc)
       · have hci : i < T.length:=by omega
         obtain ⟨row,hrow⟩:=opt_of_lt hci
         have hrl:=hr row (mem_of_opt hrow)
         refine zx ?_
         try simp only [go_sem]
         repeat refine zq ?_
         refine zd ?_
         repeat refine zq ?_
         refine awp_long ?_
         refine sops_take 7 (by kernel_rfl) fun K hK=>?_
         simp only [go_sem,List.take_succ_cons,List.take_zero,List.drop_succ_cons,List.drop_zero,List.append_eq,List.cons_append,List.nil_append,hrow,hci]
         (try simp (disch:=omega) only [zI])
         repeat first | intro _ | refine ⟨by omega,?_⟩ | refine ⟨⟨by omega,by omega⟩,?_⟩
         refine hK _ rfl ?_
         clear hK K
         refine sops_sub (sub_frz (ty:=3) (sz:=1) (off:=0) (m:=row.length) (es:=row.map fun x=>[i64 x]) 18 18 (by omega) (by try simp only [go_sem]) (by rfl) (by simp)) ?_
         have e2 : ((row.map fun x=>[i64 x]).drop 0).take row.length = row.map fun x=>[i64 x]:=by
          rw [List.drop_zero,List.take_of_length_le (by simp)]
         rw [e2]
         refine sops_sub (zk [0,4,12,18]) ?_
         simp only [go_sem]
         refine sops_litB (by simp [go_sem]) ?_
         simp only [go_sem,sLitBox,lay,List.replicate_succ,List.replicate_zero,List.flatten_cons,List.flatten_nil,List.map_cons,List.map_nil,List.cons_append,List.nil_append]
         repeat first | refine ⟨by omega,?_⟩ | refine ⟨⟨by omega,by omega⟩,?_⟩
         have hlen : (cellP T i).length = i:=cellP_len (by omega)
         refine sops_appB (by simp [go_sem]) ?_
         simp only [go_sem,sAppB,List.length_cons,List.length_nil,decide_true,hlen]
         refine ⟨⟨by omega,by omega,by omega,by omega⟩,?_⟩
         refine sops_end (by kernel_rfl) fun K hK=>?_
         simp only [go_sem,List.drop_succ_cons,List.drop_zero,List.append_eq,List.cons_append,List.nil_append]
         (try simp (disch:=omega) only [zI])
         repeat first | intro _ | refine ⟨by omega,?_⟩ | refine ⟨⟨by omega,by omega⟩,?_⟩
         refine hK _ ?_
         clear hK K
         refine zw (zk [0,3,4]) ?_
         simp only [go_sem]
         repeat refine zq ?_
         refine zb (by kernel_rfl) fun K hK=>?_
         simp only [go_sem]
         (try simp (disch:=omega) only [zI])
         repeat first | intro _ | refine ⟨by omega,?_⟩ | refine ⟨⟨by omega,by omega⟩,?_⟩
         refine hK _ ?_
         clear hK K
         try simp only [go_sem]
         refine ⟨by omega,zj [19] ?_ ?_⟩
         · simp only [lsF,if_neg (show ¬ i + 1 = 0 by omega)]
           try simp only [go_sem]
         · simp only [lsR,if_neg (show ¬ i + 1 = 0 by omega),if_pos (show i + 1 ≤ k by omega)]
           try simp only [go_sem]
           rw [cellP_succ hrow]
       · exfalso; omega
     · have hikS : i ≤ i:=by omega
       simp only [lsF,lsR,if_neg hi0,hikS]
       repeat refine zq ?_
       refine zb (by kernel_rfl) fun K hK=>?_
       simp only [go_sem]
       (try simp (disch:=omega) only [zI])
       intro hl8
       repeat first | intro _ | refine ⟨by omega,?_⟩ | refine ⟨⟨by omega,by omega⟩,?_⟩
       refine hK _ ?_
       clear hK K
       refine zw (zk [0,3,4,9]) ?_
       simp only [go_sem]
       repeat refine zq ?_
       refine zc rfl (fun hc=>?_) (fun hc=>?_) <;> (try simp only [go_sem] at hc)
       · have hci : i < T.length:=by omega
         obtain ⟨row,hrow⟩:=opt_of_lt hci
         have hrl:=hr row (mem_of_opt hrow)
         refine zx ?_
         try simp only [go_sem]
         repeat refine zq ?_
         refine zd ?_
         repeat refine zq ?_
         refine awp_long ?_
         refine sops_take 7 (by kernel_rfl) fun K hK=>?_
         simp only [go_sem,List.take_succ_cons,List.take_zero,List.drop_succ_cons,List.drop_zero,List.append_eq,List.cons_append,List.nil_append,hrow,hci]
         (try simp (disch:=omega) only [zI])
         repeat first | intro _ | refine ⟨by omega,?_⟩ | refine ⟨⟨by omega,by omega⟩,?_⟩
         refine hK _ rfl ?_
         clear hK K
         refine sops_sub (sub_move (sz:=1) (off:=0) (m:=row.length) (ty:=3) (sz':=1) (es:=row.map fun x=>[i64 x]) 18 18 30 (by omega) (by omega) (by omega) (by try simp only [go_sem]) (by rfl) (by rfl)) ?_
         refine sops_sub (zk [0,4,12,18]) ?_
         simp only [go_sem]
         refine sops_litB (by simp [go_sem]) ?_
         simp only [go_sem,sLitBox,lay,List.replicate_succ,List.replicate_zero,List.flatten_cons,List.flatten_nil,List.map_cons,List.map_nil,List.cons_append,List.nil_append]
         repeat first | refine ⟨by omega,?_⟩ | refine ⟨⟨by omega,by omega⟩,?_⟩
         have hlen : (cellP T i).length = i:=cellP_len (by omega)
         refine sops_appB (by simp [go_sem]) ?_
         simp only [go_sem,sAppB,List.length_cons,List.length_nil,decide_true,hlen]
         refine ⟨⟨by omega,by omega,by omega,by omega⟩,?_⟩
         refine sops_end (by kernel_rfl) fun K hK=>?_
         simp only [go_sem,List.drop_succ_cons,List.drop_zero,List.append_eq,List.cons_append,List.nil_append]
         (try simp (disch:=omega) only [zI])
         repeat first | intro _ | refine ⟨by omega,?_⟩ | refine ⟨⟨by omega,by omega⟩,?_⟩
         refine hK _ ?_
         clear hK K
         refine zw (zk [0,3,4]) ?_
         simp only [go_sem]
         repeat refine zq ?_
         refine zb (by kernel_rfl) fun K hK=>?_
         simp only [go_sem]
         (try simp (disch:=omega) only [zI])
         repeat first | intro _ | refine ⟨by omega,?_⟩ | refine ⟨⟨by omega,by omega⟩,?_⟩
         refine hK _ ?_
         clear hK K
         try simp only [go_sem]
         refine ⟨by omega,zj [19] ?_ ?_⟩
         · simp only [lsF,if_neg (show ¬ i + 1 = 0 by omega)]
           try simp only [go_sem]
         · simp only [lsR,if_neg (show ¬ i + 1 = 0 by omega),if_neg (show ¬ i + 1 ≤ i by omega)]
           try simp only [go_sem]
           rw [cellK_start hrow,show T.getD i [] = row by simp [List.getD_eq_getElem?_getD,hrow]]
       · exfalso; omega
     · have hikS : ¬ i ≤ k:=by omega
       simp only [lsF,lsR,if_neg hi0,hikS]
       repeat refine zq ?_
       refine zb (by kernel_rfl) fun K hK=>?_
       simp only [go_sem]
       (try simp (disch:=omega) only [zI])
       intro hl8
       repeat first | intro _ | refine ⟨by omega,?_⟩ | refine ⟨⟨by omega,by omega⟩,?_⟩
       refine hK _ ?_
       clear hK K
       refine zw (zk [0,3,4,9]) ?_
       simp only [go_sem]
       repeat refine zq ?_
       refine zc rfl (fun hc=>?_) (fun hc=>?_) <;> (try simp only [go_sem] at hc)
       · have hci : i < T.length:=by omega
         obtain ⟨row,hrow⟩:=opt_of_lt hci
         have hrl:=hr row (mem_of_opt hrow)
         refine zx ?_
         try simp only [go_sem]
         repeat refine zq ?_
         refine zd ?_
         repeat refine zq ?_
         refine awp_long ?_
         refine sops_take 7 (by kernel_rfl) fun K hK=>?_
         simp only [go_sem,List.take_succ_cons,List.take_zero,List.drop_succ_cons,List.drop_zero,List.append_eq,List.cons_append,List.nil_append,hrow,hci]
         (try simp (disch:=omega) only [zI])
         repeat first | intro _ | refine ⟨by omega,?_⟩ | refine ⟨⟨by omega,by omega⟩,?_⟩
         refine hK _ rfl ?_
         clear hK K
         refine sops_sub (sub_frz (ty:=3) (sz:=1) (off:=0) (m:=row.length) (es:=row.map fun x=>[i64 x]) 18 18 (by omega) (by try simp only [go_sem]) (by rfl) (by simp)) ?_
         have e2 : ((row.map fun x=>[i64 x]).drop 0).take row.length = row.map fun x=>[i64 x]:=by
          rw [List.drop_zero,List.take_of_length_le (by simp)]
         rw [e2]
         refine sops_sub (zk [0,4,12,18]) ?_
         simp only [go_sem]
         refine sops_litB (by simp [go_sem]) ?_
         simp only [go_sem,sLitBox,lay,List.replicate_succ,List.replicate_zero,List.flatten_cons,List.flatten_nil,List.map_cons,List.map_nil,List.cons_append,List.nil_append]
         repeat first | refine ⟨by omega,?_⟩ | refine ⟨⟨by omega,by omega⟩,?_⟩
         have hlen : (cellK T k i (vs 30)).length = i:=cellK_len (by omega) (by omega)
         refine sops_appB (by simp [go_sem]) ?_
         simp only [go_sem,sAppB,List.length_cons,List.length_nil,decide_true,hlen]
         refine ⟨⟨by omega,by omega,by omega,by omega⟩,?_⟩
         refine sops_end (by kernel_rfl) fun K hK=>?_
         simp only [go_sem,List.drop_succ_cons,List.drop_zero,List.append_eq,List.cons_append,List.nil_append]
         (try simp (disch:=omega) only [zI])
         repeat first | intro _ | refine ⟨by omega,?_⟩ | refine ⟨⟨by omega,by omega⟩,?_⟩
         refine hK _ ?_
         clear hK K
         refine zw (zk [0,3,4]) ?_
         simp only [go_sem]
         repeat refine zq ?_
         refine zb (by kernel_rfl) fun K hK=>?_
         simp only [go_sem]
         (try simp (disch:=omega) only [zI])
         repeat first | intro _ | refine ⟨by omega,?_⟩ | refine ⟨⟨by omega,by omega⟩,?_⟩
         refine hK _ ?_
         clear hK K
         try simp only [go_sem]
         refine ⟨by omega,zj [19] ?_ ?_⟩
         · simp only [lsF,if_neg (show ¬ i + 1 = 0 by omega)]
           try simp only [go_sem]
         · simp only [lsR,if_neg (show ¬ i + 1 = 0 by omega),if_neg (show ¬ i + 1 ≤ k by omega)]
           try simp only [go_sem]
           rw [cellK_succ hrow hgt]
       · have hil : i = T.length:=by omega
         subst hil
         refine zf ?_
         simp only [go_sem]
         repeat refine zq ?_
         refine zb (by kernel_rfl) fun K hK=>?_
         simp only [go_sem]
         (try simp (disch:=omega) only [zI])
         repeat first | intro _ | refine ⟨by omega,?_⟩ | refine ⟨⟨by omega,by omega⟩,?_⟩
         refine hK _ ?_
         clear hK K
         refine zw (zk [2]) ?_
         simp only [go_sem]
         refine ze ?_
         simp only [go_sem]
         rw [lend_cellQ (q':=30) (by rfl) rfl]
end Go.Proofs.Ytlbfkhikmigpbaa

namespace Go.Proofs.Ytlbfkhikmigpbaa
open Go Go.Oc
set_option linter.unusedSimpArgs false
set_option linter.unusedVariables false
set_option maxRecDepth 8000
abbrev Pv:=Int × Int
def fillP : List Pv → Int × Int → Int × Int
 | [],x=>x
 | c :: cs,x=>fillP cs (x.1 - min x.1 c.1,x.2 + min x.1 c.1 * c.2)
theorem fillG_P : ∀ (l : List Bd) (x : Int × Int),fillG l x = fillP (l.map fun c=>(c.hi - c.lo,c.b)) x
 | [],_=>rfl
 | c :: l,x=>by simp only [fillG,List.map_cons,fillP]; exact fillG_P l _
def leD (most : Bool) (x y : Int) : Prop:=if most then y ≤ x else x ≤ y
theorem leD_trans {most : Bool} {x y z : Int} (h : leD most x y) (g : leD most y z) : leD most x z:=by
 unfold leD at *; split at h <;> simp_all <;> omega
abbrev SortP (most : Bool) (S : List Pv) : Prop:=S.Pairwise fun a b=>leD most a.2 b.2
theorem fillP_done : ∀ {S : List Pv} {y : Int},(∀ a ∈ S,0 ≤ a.1) → fillP S (0,y) = (0,y)
 | [],_,_=>rfl
 | c :: S, y, h => by
   have h0:=h c (by simp)
   have e : min 0 c.1 = 0:=by omega
   simp only [fillP,e]
   simpa using fillP_done fun a ha=>h a (by simp [ha])
theorem insB_pw {most : Bool} {x : Bd} : ∀ {R : List Bd},R.Pairwise (fun y z=>leD most z.b y.b) → (insB (ltD most) x R).Pairwise (fun y z=>leD most z.b y.b)
 | [],_=>by simp [insB]
 | y :: R, h => by
   obtain ⟨h1,h2⟩:=List.pairwise_cons.1 h
   unfold insB
   split
   · rename_i hlt
     refine List.pairwise_cons.2 ⟨fun z hz=>?_,insB_pw h2⟩
     rcases (mem_insB _ _ _ _).1 hz with rfl | hz
     · unfold ltD at hlt; unfold leD; cases most <;> simp at hlt ⊢ <;> omega
     · exact h1 z hz
   · rename_i hlt
     have hyx : leD most y.b x.b:=by unfold ltD at hlt; unfold leD; cases most <;> simp at hlt ⊢ <;> omega
     refine List.pairwise_cons.2 ⟨fun z hz=>?_,h⟩
     rcases List.mem_cons.1 hz with rfl | hz
     · exact hyx
     · exact leD_trans (h1 z hz) hyx
theorem sortB_pw {most : Bool} : ∀ {l R : List Bd},R.Pairwise (fun y z=>leD most z.b y.b) → (sortB (ltD most) l R).Pairwise (fun y z=>leD most z.b y.b)
 | [],_,h=>h
 | x :: l,R,h=>by rw [sortB]; exact sortB_pw (insB_pw h)
theorem sortN_pw {most : Bool} (l : List Bd) : (sortN (ltD most) l).Pairwise (fun y z=>leD most y.b z.b):=by
 unfold sortN
 rw [List.pairwise_reverse]
 exact sortB_pw List.Pairwise.nil
def beats (most : Bool) (x y : Int) : Bool:=if most then decide (y < x) else decide (x < y)
def bestI (most : Bool) (M V : List Int) : Nat → Int
 | 0=>-1
 | i + 1=>if decide (0 < M.getD i 0) && (decide (bestI most M V i < 0) || beats most (V.getD i 0) (V.getD (bestI most M V i).toNat 0)) then i else bestI most M V i
structure RefI (most : Bool) (V : List Int) (target : Int) (M : List Int) (left sum : Int) : Prop where
 len : M.length = V.length
 l19 : V.length ≤ 19
 vals : ∀ v ∈ V,0 ≤ v ∧ v ≤ 1000000
 mores : ∀ m ∈ M,0 ≤ m ∧ m ≤ 3000
 ok : GOk (left,sum)
 enough : left ≤ M.sum
 same : ∃ S : List Pv,S.Perm (M.zip V) ∧ SortP most S ∧ (fillP S (left,sum)).2 = target
theorem RefI.done {most : Bool} {V M : List Int} {target left sum : Int} (h : RefI most V target M left sum) (h0 : ¬ 0 < left) : sum = target:=by
 obtain ⟨S,h1,_,h3⟩:=h.same
 have:=h.ok.1.1
 have e : left = 0:=by simp only at this; omega
 rw [e,fillP_done] at h3
 · exact h3
 · intro a ha
   have:=h1.mem_iff.1 ha
   exact (h.mores a.1 (List.of_mem_zip this).1).1
theorem RefI.start {most : Bool} {den : Int} {l : List Bd} (h : ChG den l) (hh : den ≤ hiS l) :
 RefI most (l.map (·.b)) (fillG (sortN (ltD most) l) (den - loS (sortN (ltD most) l),loV (sortN (ltD most) l))).2 (l.map fun c=>c.hi - c.lo) (den - loS l) (loV l):=by
 have hp:=sortN_perm (ltD most) l
 have e1 : loS (sortN (ltD most) l) = loS l:=perm_sum hp
 have e2 : loV (sortN (ltD most) l) = loV l:=perm_sum hp
 have hl:=h.low
 have hd:=h.den1
 have hv:=loV_le h.each
 have hlen:=h.len
 have hlo0 : 0 ≤ loS l:=by
  have : ∀ m : List Bd,(∀ c ∈ m,0 ≤ c.lo) → 0 ≤ loS m:=by
   intro m
   induction m with
   | nil=>intro _; simp [loS]
   | cons c m ih=>intro hc; have h1:=hc c (by simp); have h2:=ih fun x hx=>hc x (by simp [hx]); simp only [loS,List.map_cons,List.sum_cons] at h2 ⊢; omega
  exact this l fun c hc=>(h.each c hc).2.1
 refine ⟨by simp,by simpa using hlen,?_,?_,?_,?_,?_⟩
 · intro v hv
   obtain ⟨c,hc,rfl⟩:=List.mem_map.1 hv
   exact (h.each c hc).1
 · intro m hm
   obtain ⟨c,hc,rfl⟩:=List.mem_map.1 hm
   obtain ⟨_,g0,g1,g2⟩:=h.each c hc
   omega
 · refine ⟨⟨by simp only; omega,by simp only; omega⟩,by simp only; omega,by simp only; omega⟩
 · have : (l.map fun c=>c.hi - c.lo).sum = hiS l - loS l:=by
    clear hh hp e1 e2 hl hv hlen hlo0 h
    induction l with
    | nil=>simp [hiS,loS]
    | cons c l ih=>simp only [hiS,loS,List.map_cons,List.sum_cons] at ih ⊢; omega
   omega
 · refine ⟨(sortN (ltD most) l).map fun c=>(c.hi - c.lo,c.b),?_,?_,?_⟩
   · have : (l.map fun c=>c.hi - c.lo).zip (l.map (·.b)) = l.map fun c=>(c.hi - c.lo,c.b):=by
      rw [List.zip_map',]
     rw [this]
     exact hp.map _
   · exact List.Pairwise.map _ (fun a b h=>h) (sortN_pw l)
   · rw [← fillG_P,e1,e2]
end Go.Proofs.Ytlbfkhikmigpbaa

namespace Go.Proofs.Ytlbfkhikmigpbaa
open Go Go.Oc
set_option linter.unusedSimpArgs false
set_option linter.unusedVariables false
set_option maxRecDepth 8000
def dotP : List Pv → List Int → Int
 | c :: S,y :: ys=>y * c.2 + dotP S ys
 | _,_=>0
inductive FeasP : List Pv → List Int → Prop where
 | nil : FeasP [] []
 | cons {c : Pv} {S : List Pv} {y : Int} {ys : List Int} (h : 0 ≤ y ∧ y ≤ c.1) (t : FeasP S ys) : FeasP (c :: S) (y :: ys)
theorem feas_sum {S : List Pv} {ys : List Int} (h : FeasP S ys) : 0 ≤ ys.sum:=by
 induction h with
 | nil=>simp
 | cons h t ih=>simp only [List.sum_cons]; omega
theorem feas_less {v : Int} {S : List Pv} {ys : List Int} (h : FeasP S ys) : ∀ δ : Int,0 ≤ δ → δ ≤ ys.sum → (∀ c ∈ S,v ≤ c.2) → ∃ zs,FeasP S zs ∧ zs.sum = ys.sum - δ ∧ dotP S zs + δ * v ≤ dotP S ys:=by
 induction h with
 | nil =>
   intro δ h0 h1 _
   simp only [List.sum_nil] at h1
   have : δ = 0:=by omega
   subst this
   exact ⟨[],.nil,by simp,by simp [dotP]⟩
 | @cons c S y ys h t ih =>
   intro δ h0 h1 hv
   simp only [List.sum_cons] at h1
   have hs:=feas_sum t
   obtain ⟨zs,g1,g2,g3⟩:=ih (δ - min δ y) (by omega) (by omega) fun x hx=>hv x (by simp [hx])
   have hc:=hv c (by simp)
   have e0 : 0 ≤ min δ y:=by omega
   have p:=Int.mul_nonneg e0 (show 0 ≤ c.2 - v by omega)
   refine ⟨(y - min δ y) :: zs,.cons ⟨by omega,by omega⟩ g1,by simp only [List.sum_cons]; omega,?_⟩
   simp only [dotP]
   generalize min δ y = e at *
   rw [Int.mul_sub] at p
   rw [Int.sub_mul] at g3
   rw [Int.sub_mul]
   omega
theorem fill_min : ∀ {S : List Pv} {ys : List Int},FeasP S ys → ∀ (left s : Int),S.Pairwise (fun a b=>a.2 ≤ b.2) → ys.sum = left → (fillP S (left,s)).2 ≤ s + dotP S ys
 | [],_,h,left,s,_,_=>by cases h; simp [fillP,dotP]
 | c :: S, _, h, left, s, hp, hsum => by
   cases h with
   | @cons _ _ y ys h t =>
     obtain ⟨hp1,hp2⟩:=List.pairwise_cons.1 hp
     simp only [List.sum_cons] at hsum
     have hs:=feas_sum t
     obtain ⟨zs,g1,g2,g3⟩:=feas_less t (min left c.1 - y) (by omega) (by omega) hp1
     have:=fill_min g1 (left - min left c.1) (s + min left c.1 * c.2) hp2 (by omega)
     simp only [fillP,dotP]
     rw [Int.sub_mul] at g3
     omega
def negP (S : List Pv) : List Pv:=S.map fun c=>(c.1,-c.2)
theorem fill_neg : ∀ (S : List Pv) (x y : Int),(fillP (negP S) (x,-y)).2 = -(fillP S (x,y)).2
 | [],_,_=>rfl
 | c :: S, x, y => by
   have:=fill_neg S (x - min x c.1) (y + min x c.1 * c.2)
   simp only [negP,List.map_cons,fillP] at this ⊢
   rw [← this]
   congr 3
   rw [Int.mul_neg]; omega
theorem dot_neg : ∀ (S : List Pv) (ys : List Int),dotP (negP S) ys = -dotP S ys
 | [],_=>by simp [negP,dotP]
 | _ :: _,[]=>by simp [negP,dotP]
 | c :: S, y :: ys => by
   have:=dot_neg S ys
   simp only [negP,List.map_cons,dotP] at this ⊢
   rw [this,Int.mul_neg]; omega
theorem feas_neg : ∀ {S : List Pv} {ys : List Int},FeasP S ys → FeasP (negP S) ys
 | _,_,.nil=>.nil
 | _,_,.cons h t=>.cons h (feas_neg t)
theorem fill_max {S : List Pv} {ys : List Int} (h : FeasP S ys) (left s : Int) (hp : S.Pairwise (fun a b=>b.2 ≤ a.2)) (hs : ys.sum = left) : s + dotP S ys ≤ (fillP S (left,s)).2:=by
 have:=fill_min (feas_neg h) left (-s) (by unfold negP; exact List.Pairwise.map _ (fun a b h=>by simp only; omega) hp) hs
 rw [fill_neg,dot_neg] at this
 omega
theorem greedy_amt {m v : Nat → Int} : ∀ {I : List Nat} {left s : Int},I.Nodup → (∀ i ∈ I,0 ≤ m i) → 0 ≤ left → left ≤ (I.map m).sum →
 ∃ x : Nat → Int,(∀ i ∈ I,0 ≤ x i ∧ x i ≤ m i) ∧ (I.map x).sum = left ∧ (fillP (I.map fun i=>(m i,v i)) (left,s)).2 = s + (I.map fun i=>x i * v i).sum
 | [], left, s, _, _, h0, h1 => by
   simp only [List.map_nil,List.sum_nil] at h1
   exact ⟨fun _=>0,by simp,by simp; omega,by simp [fillP]⟩
 | i :: I, left, s, hn, hm, h0, h1 => by
   obtain ⟨hi,hn2⟩:=List.nodup_cons.1 hn
   have hmi:=hm i (by simp)
   simp only [List.map_cons,List.sum_cons] at h1
   have hms : 0 ≤ (I.map m).sum:=by
    have : ∀ J : List Nat,(∀ j ∈ J,0 ≤ m j) → 0 ≤ (J.map m).sum:=by
     intro J
     induction J with
     | nil=>intro _; simp
     | cons j J ih=>intro hJ; have h1:=hJ j (by simp); have h2:=ih fun y hy=>hJ y (by simp [hy]); simp only [List.map_cons,List.sum_cons]; omega
    exact this I fun j hj=>hm j (by simp [hj])
   obtain ⟨x,g1,g2,g3⟩:=greedy_amt (v:=v) (left:=left - min left (m i)) (s:=s + min left (m i) * v i) hn2 (fun j hj=>hm j (by simp [hj])) (by omega) (by omega)
   have hne : ∀ j ∈ I,j ≠ i:=fun j hj e=>hi (by rw [← e]; exact hj)
   refine ⟨fun j=>if j = i then min left (m i) else x j,fun j hj=>?_,?_,?_⟩
   · rcases List.mem_cons.1 hj with rfl | hj
     · simp only [if_true]; omega
     · simp only [if_neg (hne j hj)]; exact g1 j hj
   · simp only [List.map_cons,if_true,List.sum_cons]
     rw [List.map_congr_left (g:=x) fun j hj=>by simp only [if_neg (hne j hj)],g2]
     omega
   · simp only [List.map_cons,fillP,if_true,List.sum_cons]
     rw [g3,List.map_congr_left (f:=fun j=>(if j = i then min left (m i) else x j) * v j) (g:=fun j=>x j * v j) fun j hj=>by simp only [if_neg (hne j hj)]]
     omega
theorem feas_map {m v x : Nat → Int} : ∀ {I : List Nat},(∀ i ∈ I,0 ≤ x i ∧ x i ≤ m i) → FeasP (I.map fun i=>(m i,v i)) (I.map x)
 | [],_=>.nil
 | i :: I,h=>.cons (h i (by simp)) (feas_map fun j hj=>h j (by simp [hj]))
theorem dot_map {m v x : Nat → Int} : ∀ I : List Nat,dotP (I.map fun i=>(m i,v i)) (I.map x) = (I.map fun i=>x i * v i).sum
 | []=>rfl
 | i :: I=>by simp only [List.map_cons,dotP,List.sum_cons,dot_map I]
def insN (lt : Nat → Nat → Bool) (x : Nat) : List Nat → List Nat
 | []=>[x]
 | y :: ys=>if lt x y then y :: insN lt x ys else x :: y :: ys
def sortBN (lt : Nat → Nat → Bool) : List Nat → List Nat → List Nat
 | [],R=>R
 | x :: xs,R=>sortBN lt xs (insN lt x R)
def sortI (lt : Nat → Nat → Bool) (l : List Nat) : List Nat:=(sortBN lt l []).reverse
theorem insN_map (f : Nat → Bd) (lt : Bd → Bd → Bool) (x : Nat) : ∀ R : List Nat,(insN (fun i j=>lt (f i) (f j)) x R).map f = insB lt (f x) (R.map f)
 | []=>rfl
 | y :: R => by
   have:=insN_map f lt x R
   simp only [insN,List.map_cons,insB]
   split
   · rw [List.map_cons,this]
   · rfl
theorem sortBN_map (f : Nat → Bd) (lt : Bd → Bd → Bool) : ∀ l R : List Nat,(sortBN (fun i j=>lt (f i) (f j)) l R).map f = sortB lt (l.map f) (R.map f)
 | [],_=>rfl
 | x :: l,R=>by simp only [sortBN,List.map_cons,sortB]; rw [sortBN_map f lt l,insN_map]
theorem sortI_map (f : Nat → Bd) (lt : Bd → Bd → Bool) (l : List Nat) : (sortI (fun i j=>lt (f i) (f j)) l).map f = sortN lt (l.map f):=by
 unfold sortI sortN
 rw [List.map_reverse,sortBN_map]; rfl
theorem insN_perm (lt : Nat → Nat → Bool) (x : Nat) : ∀ R,(insN lt x R).Perm (x :: R)
 | []=>List.Perm.refl _
 | y :: R => by
   unfold insN
   split
   · exact ((insN_perm lt x R).cons y).trans (List.Perm.swap _ _ _)
   · exact List.Perm.refl _
theorem sortBN_perm (lt : Nat → Nat → Bool) : ∀ l R,(sortBN lt l R).Perm (l ++ R)
 | [],R=>List.Perm.refl _
 | x :: l, R => by
   rw [sortBN]
   refine (sortBN_perm lt l _).trans ?_
   exact ((insN_perm lt x R).append_left l).trans List.perm_middle
theorem sortI_perm (lt : Nat → Nat → Bool) (l : List Nat) : (sortI lt l).Perm l:=by
 unfold sortI
 have:=sortBN_perm lt l []
 rw [List.append_nil] at this
 exact (List.reverse_perm _).trans this
theorem mean_idx {most : Bool} {den : Int} {l : List Bd} (h : ChG den l) (hh : den ≤ hiS l) : ∃ I : List Nat,I.Perm (List.range l.length) ∧ I.Nodup ∧
 (I.Pairwise fun a b=>leD most (l.getD a ⟨0,0,0⟩).b (l.getD b ⟨0,0,0⟩).b) ∧
 meanD most den l = overD most (fillP (I.map fun i=>((l.getD i ⟨0,0,0⟩).hi - (l.getD i ⟨0,0,0⟩).lo,(l.getD i ⟨0,0,0⟩).b)) (den - loS l,loV l)).2 den:=by
 have hl : (List.range l.length).map (fun i=>l.getD i ⟨0,0,0⟩) = l:=by
  refine List.ext_getElem (by simp) fun i h1 h2=>?_
  simp [List.getD,List.getElem?_eq_getElem h2]
 have hm:=sortI_map (fun i=>l.getD i ⟨0,0,0⟩) (ltD most) (List.range l.length)
 rw [hl] at hm
 have hp:=sortI_perm (fun i j=>ltD most (l.getD i ⟨0,0,0⟩) (l.getD j ⟨0,0,0⟩)) (List.range l.length)
 have hpw:=sortN_pw (most:=most) l
 rw [← hm] at hpw
 have e1 : loS (sortN (ltD most) l) = loS l:=perm_sum (sortN_perm _ _)
 have e2 : loV (sortN (ltD most) l) = loV l:=perm_sum (sortN_perm _ _)
 refine ⟨_,hp,hp.nodup_iff.2 List.nodup_range,(List.pairwise_map (f:=fun i=>l.getD i ⟨0,0,0⟩) (R:=fun y z : Bd=>leD most y.b z.b)).1 hpw,?_⟩
 unfold meanD
 rw [e1,e2,fillG_P,← hm,List.map_map]
 rfl
theorem overD_mono {m1 m2 : Bool} (hm : m1 = true → m2 = true) {a b den : Int} (hd : 1 ≤ den) (hab : a ≤ b) : overD m1 a den ≤ overD m2 b den:=by
 have h1 : ∀ x y : Int,x ≤ y → x / den ≤ y / den:=fun x y h=>Int.ediv_le_ediv (by omega) h
 cases m1 <;> cases m2 <;> simp only [overD,if_true,Bool.false_eq_true,if_false]
 · exact h1 _ _ hab
 · exact h1 _ _ (by omega)
 · simp at hm
 · exact h1 _ _ (by omega)
theorem sum_le_map {f g : Nat → Int} : ∀ {I : List Nat},(∀ i ∈ I,f i ≤ g i) → (I.map f).sum ≤ (I.map g).sum
 | [],_=>by simp
 | i :: I, h => by
   have h1:=h i (by simp)
   have h2:=sum_le_map (f:=f) (g:=g) (I:=I) fun j hj=>h j (by simp [hj])
   simp only [List.map_cons,List.sum_cons]; omega
theorem meanD_mono {m1 m2 : Bool} (hm : m1 = true → m2 = true) {den : Int} {l : List Bd} {f g : Int → Int} (hf : ChG den (chW f l)) (hg : ChG den (chW g l)) (hh : den ≤ hiS l) (hfg : ∀ c ∈ l,f c.b ≤ g c.b) :
 meanD m1 den (chW f l) ≤ meanD m2 den (chW g l):=by
 obtain ⟨I,p1,n1,w1,e1⟩:=mean_idx (most:=m1) hf (by rw [hiS_chW]; exact hh)
 obtain ⟨J,p2,n2,w2,e2⟩:=mean_idx (most:=m2) hg (by rw [hiS_chW]; exact hh)
 have lf : (chW f l).length = l.length:=by simp [chW]
 have lg : (chW g l).length = l.length:=by simp [chW]
 rw [lf] at p1
 rw [lg] at p2
 have gf : ∀ i,i < l.length → (chW f l).getD i ⟨0,0,0⟩ = ⟨f (l.getD i ⟨0,0,0⟩).b,(l.getD i ⟨0,0,0⟩).lo,(l.getD i ⟨0,0,0⟩).hi⟩:=fun i hi=>by simp [chW,List.getD,List.getElem?_eq_getElem hi]
 have gg : ∀ i,i < l.length → (chW g l).getD i ⟨0,0,0⟩ = ⟨g (l.getD i ⟨0,0,0⟩).b,(l.getD i ⟨0,0,0⟩).lo,(l.getD i ⟨0,0,0⟩).hi⟩:=fun i hi=>by simp [chW,List.getD,List.getElem?_eq_getElem hi]
 have hI : ∀ i ∈ I,i < l.length:=fun i hi=>List.mem_range.1 (p1.mem_iff.1 hi)
 have hJ : ∀ i ∈ J,i < l.length:=fun i hi=>List.mem_range.1 (p2.mem_iff.1 hi)
 have hmem : ∀ i,i < l.length → l.getD i ⟨0,0,0⟩ ∈ l:=fun i hi=>by
  rw [List.getD_eq_getElem?_getD,List.getElem?_eq_getElem hi]; exact List.getElem_mem hi
 rw [e1,e2,loS_chW,loS_chW]
 refine overD_mono hm hf.den0 ?_
 have ef : (I.map fun i=>(((chW f l).getD i ⟨0,0,0⟩).hi - ((chW f l).getD i ⟨0,0,0⟩).lo,((chW f l).getD i ⟨0,0,0⟩).b)) = I.map fun i=>((l.getD i ⟨0,0,0⟩).hi - (l.getD i ⟨0,0,0⟩).lo,f (l.getD i ⟨0,0,0⟩).b) :=
  List.map_congr_left fun i hi=>by rw [gf i (hI i hi)]
 have eg : (J.map fun i=>(((chW g l).getD i ⟨0,0,0⟩).hi - ((chW g l).getD i ⟨0,0,0⟩).lo,((chW g l).getD i ⟨0,0,0⟩).b)) = J.map fun i=>((l.getD i ⟨0,0,0⟩).hi - (l.getD i ⟨0,0,0⟩).lo,g (l.getD i ⟨0,0,0⟩).b) :=
  List.map_congr_left fun i hi=>by rw [gg i (hJ i hi)]
 rw [ef,eg]
 have pIJ : I.Perm J:=p1.trans p2.symm
 have hlow : loS l ≤ den:=by have:=hf.low; rwa [loS_chW] at this
 have hm0 : ∀ i,i < l.length → 0 ≤ (l.getD i ⟨0,0,0⟩).hi - (l.getD i ⟨0,0,0⟩).lo:=fun i hi=>by
  have:=hf.each ⟨f (l.getD i ⟨0,0,0⟩).b,(l.getD i ⟨0,0,0⟩).lo,(l.getD i ⟨0,0,0⟩).hi⟩ (List.mem_map.2 ⟨_,hmem i hi,rfl⟩)
  simp only at this; omega
 have hsm : ((List.range l.length).map fun i=>(l.getD i ⟨0,0,0⟩).hi - (l.getD i ⟨0,0,0⟩).lo).sum = hiS l - loS l:=by
  have hl : (List.range l.length).map (fun i=>l.getD i ⟨0,0,0⟩) = l:=by
   refine List.ext_getElem (by simp) fun i h1 h2=>?_
   simp [List.getD,List.getElem?_eq_getElem h2]
  have : ((List.range l.length).map fun i=>(l.getD i ⟨0,0,0⟩).hi - (l.getD i ⟨0,0,0⟩).lo) = l.map fun c=>c.hi - c.lo:=by
   conv=>rhs; rw [← hl]
   rw [List.map_map]; rfl
  rw [this]
  generalize l = l
  induction l with
  | nil=>simp [hiS,loS]
  | cons c l ih=>simp only [hiS,loS,List.map_cons,List.sum_cons] at ih ⊢; omega
 have hv : loV (chW f l) ≤ loV (chW g l):=by
  have h0 : ∀ c ∈ l,0 ≤ c.lo:=fun c hc=>(hf.each _ (List.mem_map.2 ⟨c,hc,rfl⟩)).2.1
  clear e1 e2 ef eg gf gg hI hJ hmem hm0 hsm p1 p2 pIJ w1 w2 lf lg hf hg hh hlow
  induction l with
  | nil=>simp [chW,loV]
  | cons c l ih =>
    have h1:=ih (fun x hx=>hfg x (by simp [hx])) fun x hx=>h0 x (by simp [hx])
    have h2:=Int.mul_le_mul_of_nonneg_left (hfg c (by simp)) (h0 c (by simp))
    simp only [chW,loV,List.map_cons,List.sum_cons,List.map_map] at h1 ⊢
    omega
 generalize hmm : (fun i=>(l.getD i ⟨0,0,0⟩).hi - (l.getD i ⟨0,0,0⟩).lo) = m at *
 have hmi : ∀ i,(l.getD i ⟨0,0,0⟩).hi - (l.getD i ⟨0,0,0⟩).lo = m i:=fun i=>by rw [← hmm]
 simp only [hmi] at *
 have fgi : ∀ i,i < l.length → f (l.getD i ⟨0,0,0⟩).b ≤ g (l.getD i ⟨0,0,0⟩).b:=fun i hi=>hfg _ (hmem i hi)
 generalize hu : (fun i=>f (l.getD i ⟨0,0,0⟩).b) = u at *
 have hui : ∀ i,f (l.getD i ⟨0,0,0⟩).b = u i:=fun i=>by rw [← hu]
 generalize hw : (fun i=>g (l.getD i ⟨0,0,0⟩).b) = w at *
 have hwi : ∀ i,g (l.getD i ⟨0,0,0⟩).b = w i:=fun i=>by rw [← hw]
 simp only [hui,hwi] at *
 have hsI : (I.map m).sum = hiS l - loS l:=by rw [← hsm]; exact perm_sum p1
 have hsJ : (J.map m).sum = hiS l - loS l:=by rw [← hsm]; exact perm_sum p2
 have wI : I.Pairwise fun a b=>leD m1 (u a) (u b):=w1.imp_of_mem fun {a b} ha hb h=>by
  rw [gf a (hI a ha),gf b (hI b hb)] at h; exact h
 have wJ : J.Pairwise fun a b=>leD m2 (w a) (w b):=w2.imp_of_mem fun {a b} ha hb h=>by
  rw [gg a (hJ a ha),gg b (hJ b hb)] at h; exact h
 have ms : ∀ (K : List Nat) (x z : Nat → Int),(∀ i ∈ K,i < l.length) → (∀ i ∈ K,0 ≤ x i) → (K.map fun i=>x i * u i).sum ≤ (K.map fun i=>x i * w i).sum:=fun K x z hK hx =>
  sum_le_map fun i hi=>Int.mul_le_mul_of_nonneg_left (fgi i (hK i hi)) (hx i hi)
 cases m1 with
 | false =>
   obtain ⟨x,x1,x2,x3⟩:=greedy_amt (m:=m) (v:=w) (I:=J) (left:=den - loS l) (s:=loV (chW g l)) n2 (fun i hi=>hm0 i (hJ i hi)) (by omega) (by omega)
   have hx : ∀ i ∈ I,0 ≤ x i ∧ x i ≤ m i:=fun i hi=>x1 i (pIJ.mem_iff.1 hi)
   have hmin:=fill_min (feas_map (v:=u) hx) (den - loS l) (loV (chW f l)) (List.pairwise_map.2 (wI.imp fun h=>by simpa [leD] using h)) (by rw [perm_sum (f:=x) pIJ]; exact x2)
   rw [dot_map] at hmin
   have h2:=ms I x x hI fun i hi=>(hx i hi).1
   have h3 : (I.map fun i=>x i * w i).sum = (J.map fun i=>x i * w i).sum:=perm_sum pIJ
   rw [x3]
   omega
 | true =>
   have hm2 : m2 = true:=hm rfl
   subst hm2
   obtain ⟨x,x1,x2,x3⟩:=greedy_amt (m:=m) (v:=u) (I:=I) (left:=den - loS l) (s:=loV (chW f l)) n1 (fun i hi=>hm0 i (hI i hi)) (by omega) (by omega)
   have hx : ∀ i ∈ J,0 ≤ x i ∧ x i ≤ m i:=fun i hi=>x1 i (pIJ.mem_iff.2 hi)
   have hmax:=fill_max (feas_map (v:=w) hx) (den - loS l) (loV (chW g l)) (List.pairwise_map.2 (wJ.imp fun h=>by simpa [leD] using h)) (by rw [perm_sum (f:=x) pIJ.symm]; exact x2)
   rw [dot_map] at hmax
   have h2:=ms I x x hI fun i hi=>(x1 i hi).1
   have h3 : (I.map fun i=>x i * w i).sum = (J.map fun i=>x i * w i).sum:=perm_sum pIJ
   rw [x3]
   omega
end Go.Proofs.Ytlbfkhikmigpbaa

namespace Go.Proofs.Ytlbfkhikmigpbaa
open Go Go.Oc
set_option linter.unusedSimpArgs false
set_option linter.unusedVariables false
set_option maxRecDepth 8000
theorem foldl_max_ge : ∀ {l : List Int} {x : Int},x ≤ l.foldl max x ∧ ∀ y ∈ l,y ≤ l.foldl max x
 | [],x=>by simp
 | z :: l, x => by
   obtain ⟨h1,h2⟩:=foldl_max_ge (l:=l) (x:=max x z)
   simp only [List.foldl_cons]
   refine ⟨by omega,fun y hy=>?_⟩
   rcases List.mem_cons.1 hy with rfl | hy
   · omega
   · exact h2 y hy
theorem foldl_max_mem : ∀ {l : List Int} {x : Int},l.foldl max x = x ∨ l.foldl max x ∈ l
 | [],x=>by simp
 | z :: l, x => by
   rcases foldl_max_mem (l:=l) (x:=max x z) with h | h
   · simp only [List.foldl_cons,h]
     by_cases hz : z ≤ x
     · left; omega
     · right; rw [show max x z = z by omega]; simp
   · right; simp [h]
theorem le_maxL {l : List Int} {x : Int} (h : x ∈ l) : x ≤ maxL l:=foldl_max_ge.2 x h
theorem maxL_mem {l : List Int} (h : l ≠ []) : maxL l ∈ l:=by
 cases l with
 | nil=>exact absurd rfl h
 | cons x l =>
   unfold maxL
   simp only [List.headD_cons]
   rcases foldl_max_mem (l:=x :: l) (x:=x) with h | h
   · rw [h]; simp
   · exact h
theorem maxL_mono {α : Type} {l : List α} {F G : α → Int} (hne : l ≠ []) (h : ∀ a ∈ l,F a ≤ G a) : maxL (l.map F) ≤ maxL (l.map G):=by
 obtain ⟨a,ha,e⟩:=List.mem_map.1 (maxL_mem (l:=l.map F) (by simpa using hne))
 rw [← e]
 exact Int.le_trans (h a ha) (le_maxL (List.mem_map.2 ⟨a,ha,rfl⟩))
theorem after_mono {r : Ru} {m1 m2 : Bool} (hm : m1 = true → m2 = true) {T T' : List (List Int)} {k y : Nat} (hk : k < r.ends.length) (he : ∀ x ∈ r.ends,endOk x = true)
 (hT : k + 1 < r.ends.length → 0 ≤ (T.getD (k + 1) []).getD y 0 ∧ (T.getD (k + 1) []).getD y 0 ≤ (T'.getD (k + 1) []).getD y 0) : afterD r m1 T k y ≤ afterD r m2 T' k y:=by
 unfold afterD
 split
 · omega
 · rename_i hn
   obtain ⟨h0,h1⟩:=hT (by omega)
   obtain ⟨e,hek⟩:=opt_of_lt hk
   obtain ⟨g1,g2,g3⟩:=endOk_le (he e (mem_of_opt hek))
   have e2 : r.ends.getD k (0,0) = e:=by simp [List.getD_eq_getElem?_getD,hek]
   rw [e2]
   refine overD_mono hm (by omega) ?_
   have hd : endsD m2 e ≤ endsD m1 e ∧ 0 ≤ 1000000 - endsD m1 e:=by unfold endsD; cases m1 <;> cases m2 <;> simp at hm ⊢ <;> omega
   exact Int.mul_le_mul h1 (by omega) hd.2 (by omega)
theorem next_mono {r : Ru} {m1 m2 : Bool} {T T' : List (List Int)} {k st left : Nat} {val val' : Nat → Int} {last : Bool} {b : Int} (b0 : 0 ≤ b) (b1 : b ≤ 499) (hst : (st : Int) ≤ r.start) (hl : (left : Int) ≤ r.start)
 (hA : ∀ y : Nat,(y : Int) ≤ r.start → afterD r m1 T k y ≤ afterD r m2 T' k y) (hv : last = false → ∀ y : Nat,(y : Int) ≤ r.start → val y ≤ val' y) :
 nextV r m1 T k st val last left b ≤ nextV r m2 T' k st val' last left b:=by
 obtain ⟨s0,s1⟩:=score_le b0 b1
 unfold nextV
 split
 · omega
 · split
   · exact hA st hst
   · split
     · exact hA _ (by omega)
     · rename_i hn
       exact hv (by simpa using hn) _ (by omega)
def RowLe (r : Ru) (T T' : List (List Int)) (k : Nat) : Prop:=k + 1 < r.ends.length → ∀ y : Nat,(y : Int) ≤ r.start → (T.getD (k + 1) []).getD y 0 ≤ (T'.getD (k + 1) []).getD y 0
theorem VisG.row0 {r : Ru} {T : List (List Int)} {k st : Nat} (h : VisG r T k st) {y : Nat} (hy : (y : Int) ≤ r.start) (hk : k + 1 < r.ends.length) : 0 ≤ (T.getD (k + 1) []).getD y 0:=by
 obtain ⟨row,v,hv⟩:=h.tab y hy
 obtain ⟨t1,t2,t3,t4⟩:=hv hk
 simp [List.getD_eq_getElem?_getD,t1,t2,t3]
theorem VisG.after_mono {r : Ru} {m1 m2 : Bool} (hm : m1 = true → m2 = true) {T T' : List (List Int)} {k st : Nat} (h : VisG r T k st) (hT : RowLe r T T' k) (y : Nat) (hy : (y : Int) ≤ r.start) : afterD r m1 T k y ≤ afterD r m2 T' k y :=
 Go.Proofs.Ytlbfkhikmigpbaa.after_mono hm h.kk h.ends fun hk=>⟨h.row0 hy hk,hT hk y hy⟩
theorem means_mono {r : Ru} {m1 m2 : Bool} (hm : m1 = true → m2 = true) (hA : AimsG r) (hH : RefH r) {f g : Int → Int} (hf : ∀ b,0 ≤ b → b ≤ 499 → 0 ≤ f b ∧ f b ≤ 1000000) (hg : ∀ b,0 ≤ b → b ≤ 499 → 0 ≤ g b ∧ g b ≤ 1000000)
 (hfg : ∀ b,0 ≤ b → b ≤ 499 → f b ≤ g b) : ∀ a ∈ r.aims,meanD m1 r.d (chW f a.beds) ≤ meanD m2 r.d (chW g a.beds):=fun a ha =>
 meanD_mono hm (hA.ch hf a ha) (hA.ch hg a ha) (hH.hi a ha) fun c hc=>hfg c.b ((hA.beds a ha).2.2 c hc).1.1 ((hA.beds a ha).2.2 c hc).1.2
theorem val_mono {r : Ru} {m1 m2 : Bool} (hm : m1 = true → m2 = true) (hA : AimsG r) (hH : RefH r) {T T' : List (List Int)} {k st : Nat} (h : VisG r T k st) (h' : VisG r T' k st) (hT : RowLe r T T' k) :
 ∀ n left : Nat,(left : Int) ≤ r.start → valV r m1 T k st n left ≤ valV r m2 T' k st n left
 | 0,_,_=>by simp only [valV]; omega
 | n + 1, left, hl => by
   simp only [valV]
   exact maxL_mono hA.ne (means_mono hm hA hH (fun b b0 b1=>nextV_le h hl b0 b1 fun _ x hx=>valV_le h hA n x hx) (fun b b0 b1=>nextV_le h' hl b0 b1 fun _ x hx=>valV_le h' hA n x hx)
    fun b b0 b1=>next_mono b0 b1 h.st40 hl (h.after_mono hm hT) fun _ y hy=>val_mono hm hA hH h h' hT n y hy)
theorem rowV_getD (r : Ru) (most : Bool) (T : List (List Int)) (k y : Nat) (h : (y : Int) ≤ r.start) : (rowV r most T k).getD y 0 = if (y : Int) < lowestR r then 0 else valV r most T k y 3 y:=by
 rw [List.getD_eq_getElem?_getD,rowV_get r most T k y h]; rfl
theorem val_congr {r : Ru} {most : Bool} {T T' : List (List Int)} {k : Nat} (hk : k < r.ends.length) (h : k + 1 < r.ends.length → T.getD (k + 1) [] = T'.getD (k + 1) []) (st : Nat) : ∀ n left,valV r most T k st n left = valV r most T' k st n left:=by
 have hA : ∀ y,afterD r most T k y = afterD r most T' k y:=fun y=>by
  unfold afterD
  split
  · rfl
  · rename_i hn
    rw [h (by omega)]
 have hN : nextV r most T k st = nextV r most T' k st:=by
  funext val last left b
  simp only [nextV,hA]
 intro n
 induction n with
 | zero=>intro _; rfl
 | succ n ih =>
   intro left
   have e : valV r most T k st n = valV r most T' k st n:=funext ih
   simp only [valV,hN,e]
theorem tabF_row {r : Ru} (most : Bool) {k : Nat} (hk : k < r.ends.length) : (tabF r most).getD k [] = rowV r most (tabI r most (r.ends.length - 1 - k)) k:=by
 unfold tabF
 rw [List.getD_eq_getElem?_getD,tabI_get r most _ (Nat.le_refl _) k (by omega) hk]; rfl
theorem tabF_val {r : Ru} (most : Bool) {k y : Nat} (hk : k < r.ends.length) (hy : (y : Int) ≤ r.start) : ((tabF r most).getD k []).getD y 0 = if (y : Int) < lowestR r then 0 else valV r most (tabF r most) k y 3 y:=by
 rw [tabF_row most hk,rowV_getD _ _ _ _ _ hy]
 split
 · rfl
 · refine val_congr hk (fun hk1=>?_) y 3 y
   rw [tabF_row most hk1,List.getD_eq_getElem?_getD,tabI_get r most (r.ends.length - 1 - k) (by omega) (k + 1) (by omega) hk1]
   rfl
theorem rowV_len (r : Ru) (most : Bool) (T : List (List Int)) (k : Nat) : (rowV r most T k).length = r.start.toNat + 1:=by simp [rowV]
theorem tabF_len (r : Ru) (most : Bool) : (tabF r most).length = r.ends.length:=tabI_len _ _ _
theorem tabF_bound {r : Ru} (h : RuG r) (most : Bool) {k y : Nat} (hk : k < r.ends.length) (hy : (y : Int) ≤ r.start) : 0 ≤ ((tabF r most).getD k []).getD y 0 ∧ ((tabF r most).getD k []).getD y 0 ≤ 1000000:=by
 rw [tabF_val most hk hy]
 split
 · omega
 · exact valV_le (vis_tab h most hk y hy) h.aims 3 y hy
end Go.Proofs.Ytlbfkhikmigpbaa

namespace Go.Proofs.Ytlbfkhikmigpbaa
open Go Go.Oc
set_option linter.unusedSimpArgs false
set_option linter.unusedVariables false
set_option maxRecDepth 8000
def topF (f : Sp → Int) (l : List Sp) : Int:=l.foldl (fun a x=>max a (f x)) (-1)
theorem lowest_le (r : Ru) : lowestR r = 1 ∨ lowestR r = 2:=by unfold lowestR; split <;> simp
end Go.Proofs.Ytlbfkhikmigpbaa

namespace Go.Proofs.Ytlbfkhikmigpbaa
open Go Go.Oc
set_option linter.unusedSimpArgs false
set_option linter.unusedVariables false
set_option maxRecDepth 8000
theorem scan_none {bad : Nat → Bool} : ∀ (m s : Nat),(∀ i,s ≤ i → i < s + m → bad i = false) → scan bad s m = none
 | 0,s,_=>rfl
 | m + 1, s, h => by
   unfold scan
   rw [if_neg (by rw [h s (by omega) (by omega)]; simp)]
   exact scan_none m (s + 1) fun i h1 h2=>h i (by omega) (by omega)
theorem scan_some {bad : Nat → Bool} {q : Nat} (hq : bad q = true) : ∀ (m s : Nat),s ≤ q → q < s + m → (∀ i,s ≤ i → i < q → bad i = false) → scan bad s m = some q
 | 0,s,h1,h2,_=>by omega
 | m + 1, s, h1, h2, h => by
   unfold scan
   by_cases e : s = q
   · subst e; rw [if_pos hq]
   · rw [if_neg (by rw [h s (by omega) (by omega)]; simp)]
     exact scan_some hq m (s + 1) (by omega) (by omega) fun i h3 h4=>h i (by omega) h4
theorem scan2_none {f : Nat → Option Nat} : ∀ (m s : Nat),(∀ i,s ≤ i → i < s + m → f i = none) → scan2 f s m = none
 | 0,s,_=>rfl
 | m + 1, s, h => by
   unfold scan2
   rw [h s (by omega) (by omega)]
   exact scan2_none m (s + 1) fun i h1 h2=>h i (by omega) (by omega)
theorem scan2_some {f : Nat → Option Nat} {q x : Nat} (hq : f q = some x) : ∀ (m s : Nat),s ≤ q → q < s + m → (∀ i,s ≤ i → i < q → f i = none) → scan2 f s m = some (q,x)
 | 0,s,h1,h2,_=>by omega
 | m + 1, s, h1, h2, h => by
   unfold scan2
   by_cases e : s = q
   · subst e; rw [hq]
   · rw [h s (by omega) (by omega)]
     exact scan2_some hq m (s + 1) (by omega) (by omega) fun i h3 h4=>h i (by omega) h4
def setT (T : List (List Int)) (k p : Nat) (n : Int) : List (List Int):=T.set k ((T.getD k []).set p n)
theorem setT_len (T : List (List Int)) (k p : Nat) (n : Int) : (setT T k p n).length = T.length:=by simp [setT]
theorem setT_ne {T : List (List Int)} {k p j : Nat} {n : Int} (h : j ≠ k) : (setT T k p n).getD j [] = T.getD j []:=by
 simp only [setT,List.getD_eq_getElem?_getD]
 rw [List.getElem?_set_ne (by omega)]
theorem setT_eq {T : List (List Int)} {k p : Nat} {n : Int} (h : k < T.length) : (setT T k p n).getD k [] = (T.getD k []).set p n:=by
 simp only [setT,List.getD_eq_getElem?_getD]
 rw [List.getElem?_set_self h]; rfl
theorem setT_at {T : List (List Int)} {k p y : Nat} {n : Int} (h : k < T.length) (hp : p < (T.getD k []).length) : ((setT T k p n).getD k []).getD y 0 = if y = p then n else (T.getD k []).getD y 0:=by
 rw [setT_eq h]
 simp only [List.getD_eq_getElem?_getD] at hp ⊢
 by_cases e : y = p
 · subst e; rw [if_pos rfl,List.getElem?_set_self hp]; rfl
 · rw [if_neg e,List.getElem?_set_ne (by omega)]
theorem tabF_rowlen {r : Ru} (most : Bool) {k : Nat} (hk : k < r.ends.length) : ((tabF r most).getD k []).length = r.start.toNat + 1:=by rw [tabF_row most hk,rowV_len]
theorem form_mk {r : Ru} {T : List (List Int)} (h1 : T.length = r.ends.length) (h2 : ∀ k,k < r.ends.length → (T.getD k []).length = r.start.toNat + 1 ∧ ∀ y : Nat,(y : Int) ≤ r.start → (0 ≤ (T.getD k []).getD y 0 ∧ (T.getD k []).getD y 0 ≤ 1000000) ∧ ((y : Int) < lowestR r → (T.getD k []).getD y 0 = 0)) (hs : 0 ≤ r.start) :
 formE r T = 0:=by
 have hrow : ∀ row ∈ T,∃ k,k < r.ends.length ∧ row = T.getD k []:=fun row hr=>by
  obtain ⟨k,hk⟩:=List.getElem?_of_mem hr
  exact ⟨k,by rw [← h1]; exact (List.getElem?_eq_some_iff.1 hk).1,by simp [List.getD_eq_getElem?_getD,hk]⟩
 have hall : T.all (rowOk r) = true:=List.all_eq_true.2 fun row hr=>by
  obtain ⟨k,hk,rfl⟩:=hrow row hr
  obtain ⟨g1,g2⟩:=h2 k hk
  simp only [rowOk,Bool.and_eq_true,decide_eq_true_eq]
  refine ⟨g1,?_⟩
  simp only [withinL,List.all_eq_true,Bool.and_eq_true,decide_eq_true_eq]
  intro x hx
  obtain ⟨y,hy⟩:=List.getElem?_of_mem hx
  have hyl:=(List.getElem?_eq_some_iff.1 hy).1
  rw [List.length_take] at hyl
  rw [List.getElem?_take_of_lt (by omega)] at hy
  have hyl2:=(List.getElem?_eq_some_iff.1 hy).1
  have:=(g2 y (by rw [g1] at hyl2; omega)).2 (by omega)
  rw [List.getD_eq_getElem?_getD,hy] at this
  simp only [Option.getD_some] at this
  omega
 have hw : withinL 0 1000000 T.flatten = true:=by
  simp only [withinL,List.all_eq_true,Bool.and_eq_true,decide_eq_true_eq]
  intro x hx
  obtain ⟨row,hr,hxr⟩:=List.mem_flatten.1 hx
  obtain ⟨k,hk,rfl⟩:=hrow row hr
  obtain ⟨g1,g2⟩:=h2 k hk
  obtain ⟨y,hy⟩:=List.getElem?_of_mem hxr
  have hyl2:=(List.getElem?_eq_some_iff.1 hy).1
  have:=(g2 y (by rw [g1] at hyl2; omega)).1
  rw [List.getD_eq_getElem?_getD,hy] at this
  simpa using this
 unfold formE
 rw [if_pos h1,if_pos hall,if_pos hw]
theorem tabF_low {r : Ru} (most : Bool) {k y : Nat} (hk : k < r.ends.length) (hy : (y : Int) ≤ r.start) (hl : (y : Int) < lowestR r) : ((tabF r most).getD k []).getD y 0 = 0:=by
 rw [tabF_val most hk hy,if_pos hl]
theorem tabF_form {r : Ru} (h : RuG r) (most : Bool) : formE r (tabF r most) = 0 :=
 form_mk (tabF_len r most) (fun k hk=>⟨tabF_rowlen most hk,fun y hy=>⟨tabF_bound h most hk hy,tabF_low most hk hy⟩⟩) (by have:=h.s2; omega)
theorem badP_eq {r : Ru} {most : Bool} {T : List (List Int)} {k s : Nat} (h : (T.getD k []).getD s 0 = valV r most T k s 3 s) : badP r most T k s = false:=by
 unfold badP
 rw [h]
 cases most <;> simp
theorem tabF_proves {r : Ru} (h : RuG r) (most : Bool) : provesO r most (tabF r most) = none:=by
 unfold provesO
 refine scan2_none _ _ fun k _ hk=>scan_none _ _ fun s hs1 hs2=>badP_eq ?_
 rw [tabF_len] at hk
 have:=h.s2
 have hl:=lowest_le r
 rw [tabF_val most (by omega) (by omega),if_neg (by omega)]
section
variable {r : Ru} {most : Bool} {k0 p : Nat} {n : Int}
theorem set_form (h : RuG r) (hk : k0 < r.ends.length) (hp1 : lowestR r ≤ p) (hp2 : (p : Int) ≤ r.start) (hn : 0 ≤ n ∧ n ≤ 1000000) : formE r (setT (tabF r most) k0 p n) = 0:=by
 have hl:=tabF_len r most
 refine form_mk (by rw [setT_len,hl]) (fun k hkl=>?_) (by have:=h.s2; omega)
 have hr:=tabF_rowlen (r:=r) most hk
 by_cases e : k = k0
 · subst e
   refine ⟨by rw [setT_eq (by omega),List.length_set,hr],fun y hy=>?_⟩
   rw [setT_at (by omega) (by rw [hr]; omega)]
   split
   · exact ⟨hn,fun hlt=>by omega⟩
   · exact ⟨tabF_bound h most hkl hy,tabF_low most hkl hy⟩
 · rw [setT_ne e]
   exact ⟨tabF_rowlen most hkl,fun y hy=>⟨tabF_bound h most hkl hy,tabF_low most hkl hy⟩⟩
theorem set_keep (h : RuG r) {k s : Nat} (hk : k < r.ends.length) (hs1 : lowestR r ≤ s) (hs2 : (s : Int) ≤ r.start) (h1 : k + 1 ≠ k0) (h2 : (((setT (tabF r most) k0 p n)).getD k []).getD s 0 = ((tabF r most).getD k []).getD s 0) :
 badP r most (setT (tabF r most) k0 p n) k s = false:=by
 refine badP_eq ?_
 rw [h2,tabF_val most hk hs2,if_neg (by omega)]
 exact val_congr hk (fun _=>(setT_ne h1).symm) s 3 s
theorem set_before (h : RuG r) (hH : RefH r) (hk0 : k0 < r.ends.length) (hp1 : lowestR r ≤ p) (hp2 : (p : Int) ≤ r.start) (hn : 0 ≤ n ∧ n ≤ 1000000) (hnt : if most then n ≤ ((tabF r most).getD k0 []).getD p 0 else ((tabF r most).getD k0 []).getD p 0 ≤ n)
 {k s : Nat} (hk : k + 1 = k0) (hs1 : lowestR r ≤ s) (hs2 : (s : Int) ≤ r.start) : badP r most (setT (tabF r most) k0 p n) k s = false:=by
 have hl:=tabF_len r most
 have hr:=tabF_rowlen (r:=r) most hk0
 have hf:=set_form (most:=most) h hk0 hp1 hp2 hn
 have v0:=vis_tab h most (show k < r.ends.length by omega) s hs2
 have v1:=vis_form h hf (show k < r.ends.length by omega) hs2
 have e : (((setT (tabF r most) k0 p n)).getD k []).getD s 0 = valV r most (tabF r most) k s 3 s:=by
  rw [setT_ne (by omega),tabF_val most (by omega) hs2,if_neg (by omega)]
 unfold badP
 rw [e]
 cases most with
 | false =>
   simp only [Bool.false_eq_true,if_false] at hnt ⊢
   have:=val_mono (m1:=false) (m2:=false) (by simp) h.aims hH v0 v1 (fun _ y hy=>by
    subst hk
    rw [setT_at (by omega) (by rw [hr]; omega)]
    split
    · rename_i e; subst e; exact hnt
    · exact Int.le_refl _) 3 s hs2
   simpa using this
 | true =>
   simp only [if_true] at hnt ⊢
   have:=val_mono (m1:=true) (m2:=true) (by simp) h.aims hH v1 v0 (fun _ y hy=>by
    subst hk
    rw [setT_at (by omega) (by rw [hr]; omega)]
    split
    · rename_i e; subst e; exact hnt
    · exact Int.le_refl _) 3 s hs2
   simpa using this
theorem set_bad (h : RuG r) (hH : RefH r) (hk0 : k0 < r.ends.length) (hp1 : lowestR r ≤ p) (hp2 : (p : Int) ≤ r.start) (hn : 0 ≤ n ∧ n ≤ 1000000) (hnt : if most then n < ((tabF r most).getD k0 []).getD p 0 else ((tabF r most).getD k0 []).getD p 0 < n) :
 provesO r most (setT (tabF r most) k0 p n) = some (k0,p):=by
 have hl:=tabF_len r most
 have hr:=tabF_rowlen (r:=r) most hk0
 have hlow:=lowest_le r
 unfold provesO
 rw [setT_len,hl]
 refine scan2_some (x:=p) ?_ _ _ (by omega) (by omega) fun k _ hk=>?_
 · refine scan_some ?_ _ _ (by omega) (by omega) fun s hs1 hs2=>set_keep h hk0 (by omega) (by omega) (by omega) ?_
   · have e : valV r most (setT (tabF r most) k0 p n) k0 p 3 p = ((tabF r most).getD k0 []).getD p 0:=by
      rw [tabF_val most hk0 hp2,if_neg (by omega)]
      exact (val_congr hk0 (fun _=>(setT_ne (by omega)).symm) p 3 p).symm
     unfold badP
     rw [e,setT_at (by omega) (by rw [hr]; omega),if_pos rfl]
     cases most <;> simpa using hnt
   · rw [setT_at (by omega) (by rw [hr]; omega),if_neg (by omega)]
 · refine scan_none _ _ fun s hs1 hs2=>?_
   by_cases e : k + 1 = k0
   · refine set_before h hH hk0 hp1 hp2 hn ?_ e (by omega) (by omega)
     cases most <;> simp only [Bool.false_eq_true,if_false,if_true] at hnt ⊢ <;> omega
   · exact set_keep h (by omega) (by omega) (by omega) e (by rw [setT_ne (by omega)])
theorem set_easy (h : RuG r) (hH : RefH r) (hp1 : lowestR r ≤ p) (hp2 : (p : Int) ≤ r.start) (hnt : if most then ((tabF r most).getD 0 []).getD p 0 ≤ n else n ≤ ((tabF r most).getD 0 []).getD p 0) :
 provesO r most (setT (tabF r most) 0 p n) = none:=by
 have hl:=tabF_len r most
 have e1:=h.e1
 have hr:=tabF_rowlen (r:=r) most (show 0 < r.ends.length by omega)
 have hlow:=lowest_le r
 unfold provesO
 rw [setT_len,hl]
 refine scan2_none _ _ fun k _ hk=>scan_none _ _ fun s hs1 hs2=>?_
 by_cases e : k = 0 ∧ s = p
 · obtain ⟨rfl,rfl⟩:=e
   have e : valV r most (setT (tabF r most) 0 s n) 0 s 3 s = ((tabF r most).getD 0 []).getD s 0:=by
    rw [tabF_val most (by omega) hp2,if_neg (by omega)]
    exact (val_congr (by omega) (fun _=>(setT_ne (by omega)).symm) s 3 s).symm
   unfold badP
   rw [e,setT_at (by omega) (by rw [hr]; omega),if_pos rfl]
   cases most <;> simpa using hnt
 · refine set_keep h (by omega) (by omega) (by omega) (by omega) ?_
   by_cases e0 : k = 0
   · subst e0
     rw [setT_at (by omega) (by rw [hr]; omega),if_neg (by omega)]
   · rw [setT_ne e0]
end
end Go.Proofs.Ytlbfkhikmigpbaa

namespace Go.Proofs.Ytlbfkhikmigpbaa
open Go Go.Oc
set_option linter.unusedSimpArgs false
set_option linter.unusedVariables false
set_option maxRecDepth 8000
theorem mem_tw {α : Type} {p : α → Bool} {x : α} : ∀ {l : List α},x ∈ l.takeWhile p → p x = true
 | [],h=>by simp at h
 | y :: l, h => by
   rw [List.takeWhile_cons] at h
   split at h
   · rename_i hy
     rcases List.mem_cons.1 h with rfl | h
     · exact hy
     · exact mem_tw h
   · cases h
def bedN (n : Int) : Int:=if n % 16 = 0 then 0 else 100 * (1 + n / 16 % 3) + 1 + n % 16 % 12
theorem bedN_ok (n : Int) : bedN n = 0 ∨ bedOk (bedN n) = true:=by
 unfold bedN
 split
 · exact .inl rfl
 · right
   simp only [bedOk,Bool.or_eq_true,Bool.and_eq_true,decide_eq_true_eq]
   right
   omega
def frontB (b : Int) (l : List Bd) : List Bd:=l.takeWhile fun c=>decide (c.b ≤ b)
def addB (den : Int) (x : List Bd × Int) (v : Int × Int × Int) : List Bd × Int :=
 if (frontB (bedN v.1) x.1).any (fun c=>decide (c.b = bedN v.1)) then x
 else (x.1.take (frontB (bedN v.1) x.1).length ++ (⟨bedN v.1,x.2 * v.2.1 / 512,min den (x.2 * v.2.1 / 512 + v.2.2 % 50)⟩ :: x.1.drop (frontB (bedN v.1) x.1).length),x.2 - x.2 * v.2.1 / 512)
structure BedsI (den : Int) (x : List Bd × Int) : Prop where
 up : x.1.Pairwise fun a b=>a.b < b.b
 ok : ∀ c ∈ x.1,(c.b = 0 ∨ bedOk c.b = true) ∧ 0 ≤ c.lo ∧ c.lo ≤ c.hi ∧ c.hi ≤ den
 sum : loS x.1 + x.2 = den
 left0 : 0 ≤ x.2
theorem addB_ok {den : Int} {x : List Bd × Int} {v : Int × Int × Int} (h : BedsI den x) (hd : 1 ≤ den) (hv : 0 ≤ v.2.1 ∧ v.2.1 ≤ 255) (hw : 0 ≤ v.2.2) : BedsI den (addB den x v) ∧ (addB den x v).1.length ≤ x.1.length + 1:=by
 unfold addB
 split
 · exact ⟨h,by omega⟩
 · rename_i hn
   obtain ⟨l,left⟩:=x
   simp only at hn ⊢
   have hs:=h.sum
   have hl0:=h.left0
   simp only at hs hl0
   have hlow : 0 ≤ left * v.2.1 / 512 ∧ left * v.2.1 / 512 ≤ left:=by
    have h0:=Int.mul_nonneg hl0 hv.1
    have h1 : left * v.2.1 ≤ left * 255:=Int.mul_le_mul_of_nonneg_left hv.2 hl0
    omega
   have hlos : 0 ≤ loS l:=by
    have : ∀ m : List Bd,(∀ c ∈ m,0 ≤ c.lo) → 0 ≤ loS m:=by
     intro m
     induction m with
     | nil=>intro _; simp [loS]
     | cons c m ih=>intro hc; have h1:=hc c (by simp); have h2:=ih fun x hx=>hc x (by simp [hx]); simp only [loS,List.map_cons,List.sum_cons] at h2 ⊢; omega
    exact this l fun c hc=>(h.ok c hc).2.1
   generalize hlo : left * v.2.1 / 512 = low at *
   have hfr : l.take (frontB (bedN v.1) l).length = frontB (bedN v.1) l:=by
    unfold frontB
    exact (List.prefix_iff_eq_take.1 (List.takeWhile_prefix _)).symm
   have hdr : l.drop (frontB (bedN v.1) l).length = l.dropWhile fun c=>decide (c.b ≤ bedN v.1):=by
    have e:=List.takeWhile_append_dropWhile (p:=fun c : Bd=>decide (c.b ≤ bedN v.1)) (l:=l)
    have:=congrArg (List.drop (frontB (bedN v.1) l).length) e
    rw [← this]
    unfold frontB
    rw [List.drop_left]
   have hle : ∀ c ∈ frontB (bedN v.1) l,c.b < bedN v.1:=fun c hc=>by
    have h1 : decide (c.b ≤ bedN v.1) = true:=mem_tw (p:=fun c : Bd=>decide (c.b ≤ bedN v.1)) hc
    have h2 : ¬ c.b = bedN v.1:=fun e=>hn (List.any_eq_true.2 ⟨c,hc,by simpa using e⟩)
    have h1 : c.b ≤ bedN v.1:=by simpa using h1
    omega
   have hspl : frontB (bedN v.1) l ++ l.drop (frontB (bedN v.1) l).length = l:=by
    conv=>lhs; lhs; rw [← hfr]
    exact List.take_append_drop _ _
   have hup:=h.up
   simp only at hup
   rw [← hspl] at hup
   obtain ⟨u1,u2,u3⟩:=List.pairwise_append.1 hup
   have hgt : ∀ c ∈ l.drop (frontB (bedN v.1) l).length,bedN v.1 < c.b:=by
    rw [hdr]
    intro c hc
    cases hdw : l.dropWhile (fun c=>decide (c.b ≤ bedN v.1)) with
    | nil=>rw [hdw] at hc; cases hc
    | cons d dl =>
      have hd0 : ¬ (decide (d.b ≤ bedN v.1) = true):=by
       have:=List.head?_dropWhile_not (p:=fun c : Bd=>decide (c.b ≤ bedN v.1)) (l:=l)
       rw [hdw] at this
       simpa using this
      have hd1 : bedN v.1 < d.b:=by simpa using hd0
      rw [hdw] at hc
      rw [hdr,hdw] at u2
      rcases List.mem_cons.1 hc with rfl | hc
      · exact hd1
      · have:=(List.pairwise_cons.1 u2).1 c hc
        omega
   refine ⟨⟨?_,?_,?_,by simp only; omega⟩,?_⟩
   · simp only [hfr]
     refine List.pairwise_append.2 ⟨u1,List.pairwise_cons.2 ⟨fun c hc=>hgt c hc,u2⟩,fun a ha b hb=>?_⟩
     rcases List.mem_cons.1 hb with rfl | hb
     · exact hle a ha
     · exact u3 a ha b hb
   · simp only [hfr]
     intro c hc
     rcases List.mem_append.1 hc with hc | hc
     · exact h.ok c (by rw [← hspl]; exact List.mem_append_left _ hc)
     · rcases List.mem_cons.1 hc with rfl | hc
       · refine ⟨bedN_ok _,hlow.1,by simp only; omega,by simp only; omega⟩
       · exact h.ok c (by rw [← hspl]; exact List.mem_append_right _ hc)
   · simp only [hfr]
     have : loS l = loS (frontB (bedN v.1) l) + loS (l.drop (frontB (bedN v.1) l).length):=by
      conv=>lhs; rw [← hspl]
      simp only [loS,List.map_append,List.sum_append]
     simp only [loS,List.map_append,List.sum_append,List.map_cons,List.sum_cons] at this hs ⊢
     omega
   · simp only [List.length_append,List.length_cons,List.length_take,List.length_drop]
     omega
end Go.Proofs.Ytlbfkhikmigpbaa

namespace Go.Proofs.Ytlbfkhikmigpbaa
open Go Go.Oc
set_option linter.unusedSimpArgs false
set_option linter.unusedVariables false
set_option maxRecDepth 8000
set_option maxHeartbeats 2000000
theorem bed_ok (n : Int) (h0 : 0 ≤ n) (h1 : n ≤ 255) : ACalls Try.prog 60 [.it .u8 n] (i64 (bedN n)):=by
 have e1 : n.tmod 16 = n % 16:=Int.tmod_eq_emod_of_nonneg h0
 have e2 : IntKind.i64.wrap (n.tdiv 16) = n / 16:=by rw [Int.tdiv_eq_ediv_of_nonneg h0,zI] <;> omega
 have e3 : (n / 16).tmod 3 = n / 16 % 3:=Int.tmod_eq_emod_of_nonneg (by omega)
 have e4 : (n % 16).tmod 12 = n % 16 % 12:=Int.tmod_eq_emod_of_nonneg (by omega)
 have e5 : IntKind.i64.wrap n = n:=by rw [zI] <;> omega
 refine acalls_st (rs:=[i64 (bedN n)]) [.tmp 2] Try.func60 rfl (by kernel_rfl) Try.ntmps60 rfl (by simp) rfl fun C vs=>?_
 repeat refine zq ?_
 refine zb (by kernel_rfl) fun K hK=>?_
 simp only [go_sem]
 (try simp (disch:=omega) only [zI])
 repeat first | intro _ | refine ⟨by omega,?_⟩ | refine ⟨⟨by omega,by omega⟩,?_⟩
 refine hK _ ?_
 clear hK K
 refine zw (zk [0]) ?_
 simp only [go_sem]
 by_cases hz : n % 16 = 0
 · have c : (n % 16 == 0) = true:=by simpa using hz
   repeat refine zq ?_
   refine zb (by kernel_rfl) fun K hK=>?_
   simp only [go_sem,e1,c]
   (try simp (disch:=omega) only [zI])
   repeat first | intro _ | refine ⟨by omega,?_⟩ | refine ⟨⟨by omega,by omega⟩,?_⟩
   refine hK _ ?_
   clear hK K
   refine zw (zk [0,5]) ?_
   simp only [go_sem]
   repeat refine zq ?_
   refine zc rfl (fun hc=>?_) (fun hc=>?_) <;> (try simp only [go_sem] at hc)
   repeat refine zq ?_
   refine zb (by kernel_rfl) fun K hK=>?_
   simp only [go_sem]
   (try simp (disch:=omega) only [zI])
   repeat first | intro _ | refine ⟨by omega,?_⟩ | refine ⟨⟨by omega,by omega⟩,?_⟩
   refine hK _ ?_
   clear hK K
   refine zw (zk [2]) ?_
   simp only [go_sem]
   refine ze ?_
   simp only [go_sem]
   simp [bedN,hz]
 · have c : (n % 16 == 0) = false:=by simpa using hz
   repeat refine zq ?_
   refine zb (by kernel_rfl) fun K hK=>?_
   simp only [go_sem,e1,c]
   (try simp (disch:=omega) only [zI])
   repeat first | intro _ | refine ⟨by omega,?_⟩ | refine ⟨⟨by omega,by omega⟩,?_⟩
   refine hK _ ?_
   clear hK K
   refine zw (zk [0,5]) ?_
   simp only [go_sem]
   repeat refine zq ?_
   refine zc rfl (fun hc=>?_) (fun hc=>?_) <;> (try simp only [go_sem] at hc)
   refine zx ?_
   try simp only [go_sem]
   repeat refine zq ?_
   refine zb (by kernel_rfl) fun K hK=>?_
   simp only [go_sem,e1,e2,e3,e4,e5]
   (try simp (disch:=omega) only [zI])
   repeat first | intro _ | refine ⟨by omega,?_⟩ | refine ⟨⟨by omega,by omega⟩,?_⟩
   refine hK _ ?_
   clear hK K
   refine zw (zk [2]) ?_
   simp only [go_sem]
   refine ze ?_
   simp only [go_sem]
   simp only [bedN,if_neg hz]
structure Mt where
 den : Int
 aims : List (List Int)
 start : Int
 out : Int
 ends : List (Int × Int)
abbrev it8 (n : Int) : RV:=.it .u8 n
abbrev mtC (m : Mt) : List RV:=[it8 m.den,.sl 12 (m.aims.map fun e=>e.map it8),it8 m.start,it8 m.out,.sl 2 (m.ends.map fun e=>[.it .u16 e.1,.it .u16 e.2])]
structure WfM (m : Mt) : Prop where
 den : 0 ≤ m.den ∧ m.den ≤ 255
 aims : ∀ e ∈ m.aims,e.length = 12 ∧ ∀ x ∈ e,0 ≤ x ∧ x ≤ 255
 start : 0 ≤ m.start ∧ m.start ≤ 255
 out : 0 ≤ m.out ∧ m.out ≤ 255
 ends : ∀ e ∈ m.ends,(0 ≤ e.1 ∧ e.1 ≤ 65535) ∧ 0 ≤ e.2 ∧ e.2 ≤ 65535
def vAt (e : List Int) (k : Nat) : Int × Int × Int:=(e.getD (3 * k) 0,e.getD (3 * k + 1) 0,e.getD (3 * k + 2) 0)
def stB (den : Int) (e : List Int) : Nat → List Bd × Int
 | 0=>([],den)
 | k + 1=>addB den (stB den e k) (vAt e k)
def finB (den : Int) : List Bd → List Bd
 | []=>[⟨201,0,den⟩]
 | c :: l=>⟨c.b,c.lo,den⟩ :: l
def bedsM (m : Mt) (i : Nat) : List Bd:=if i < m.aims.length then (stB (4 + m.den) (m.aims.getD i []) 4).1 else []
def aimM (m : Mt) (i : Nat) : Am:=⟨201,finB (4 + m.den) (bedsM m i)⟩
def aimN (m : Mt) : Nat:=max 1 (min 3 m.aims.length)
def endM (e : Int × Int) : Sp:=(e.1 * 15,min 1000000 (e.1 * 15 + e.2 * 4))
def ruM (m : Mt) : Ru:=⟨4 + m.den,(List.range (aimN m)).map (aimM m),2 + m.start % 7,m.out % 3,((m.ends.take 3).map endM) ++ [(1000000,1000000)]⟩
theorem v_drop {e : List Int} (h : e.length = 12) {k : Nat} (hk : k < 4) : List.take 3 (List.drop (k * 3) (e.map it8)) = [it8 (vAt e k).1,it8 (vAt e k).2.1,it8 (vAt e k).2.2] ∧ 3 ≤ (List.drop (k * 3) (e.map it8)).length:=by
 match e,h with
 | [a0, a1, a2, a3, a4, a5, a6, a7, a8, a9, a10, a11], _ =>
   have : k = 0 ∨ k = 1 ∨ k = 2 ∨ k = 3:=by omega
   rcases this with rfl | rfl | rfl | rfl <;> exact ⟨rfl,by simp⟩
theorem v_le {e : List Int} (h : ∀ x ∈ e,0 ≤ x ∧ x ≤ 255) (k : Nat) : (0 ≤ (vAt e k).1 ∧ (vAt e k).1 ≤ 255) ∧ (0 ≤ (vAt e k).2.1 ∧ (vAt e k).2.1 ≤ 255) ∧ 0 ≤ (vAt e k).2.2 ∧ (vAt e k).2.2 ≤ 255:=by
 have g : ∀ i,0 ≤ e.getD i 0 ∧ e.getD i 0 ≤ 255:=fun i=>by
  rw [List.getD_eq_getElem?_getD]
  cases hx : e[i]? with
  | none=>simp
  | some x=>exact h x (List.mem_of_getElem? hx)
 exact ⟨g _,g _,g _⟩
theorem stB_ok {den : Int} (hd : 1 ≤ den) {e : List Int} (h : ∀ x ∈ e,0 ≤ x ∧ x ≤ 255) : ∀ k,BedsI den (stB den e k) ∧ (stB den e k).1.length ≤ k
 | 0=>⟨⟨by simp [stB],by simp [stB],by simp [stB,loS],by simp only [stB]; omega⟩,by simp [stB]⟩
 | k + 1 => by
   obtain ⟨h1,h2⟩:=stB_ok hd h k
   obtain ⟨g1,g2⟩:=addB_ok (v:=vAt e k) h1 hd (v_le h k).2.1 (v_le h k).2.2.1
   exact ⟨g1,by simp only [stB]; omega⟩
theorem loS_nonneg : ∀ m : List Bd,(∀ c ∈ m,0 ≤ c.lo) → 0 ≤ loS m
 | [],_=>by simp [loS]
 | c :: m,hc=>by have h1:=hc c (by simp); have h2:=loS_nonneg m fun x hx=>hc x (by simp [hx]); simp only [loS,List.map_cons,List.sum_cons] at h2 ⊢; omega
theorem beds_left {den : Int} {x : List Bd × Int} (h : BedsI den x) : x.2 ≤ den:=by
 have h1:=loS_nonneg x.1 fun c hc=>(h.ok c hc).2.1
 have h2:=h.sum
 omega
theorem front_get {b : Int} {l : List Bd} {j : Nat} (h : j < (frontB b l).length) : ∃ c,l[j]? = some c ∧ (frontB b l)[j]? = some c ∧ c.b ≤ b:=by
 obtain ⟨c,hc⟩:=opt_of_lt h
 have hp : frontB b l <+: l:=List.takeWhile_prefix _
 obtain ⟨t,ht⟩:=hp
 refine ⟨c,?_,hc,?_⟩
 · rw [← ht,List.getElem?_append_left h]; exact hc
 · have:=mem_tw (p:=fun c : Bd=>decide (c.b ≤ b)) (mem_of_opt hc)
   simpa using this
theorem front_end {b : Int} {l : List Bd} {c : Bd} (h : l[(frontB b l).length]? = some c) : b < c.b:=by
 have e:=List.takeWhile_append_dropWhile (p:=fun c : Bd=>decide (c.b ≤ b)) (l:=l)
 have h' : ((l.takeWhile fun c=>decide (c.b ≤ b)) ++ l.dropWhile fun c=>decide (c.b ≤ b))[(l.takeWhile fun c=>decide (c.b ≤ b)).length]? = some c:=by rw [e]; exact h
 rw [List.getElem?_append_right (Nat.le_refl _),Nat.sub_self] at h'
 have h2 : (l.dropWhile fun c=>decide (c.b ≤ b))[0]? = some c:=h'
 have h3:=List.head?_dropWhile_not (p:=fun c : Bd=>decide (c.b ≤ b)) (l:=l)
 rw [List.head?_eq_getElem?,h2] at h3
 simpa using h3
theorem front_le (b : Int) (l : List Bd) : (frontB b l).length ≤ l.length:=(List.takeWhile_prefix _).length_le
end Go.Proofs.Ytlbfkhikmigpbaa

/- Part 11 of the texts of this claim. -/
import Derived.Test.YtlbfkhikmigpbaaV310
import Derived.Test.YtlbfkhikmigpbaaV39
import Derived.Test.YtlbfkhikmigpbaaV38
import Derived.Test.YtlbfkhikmigpbaaV35
import Derived.ChangeShapes
import Derived.WideShapes
import Derived.OpenShut
import Derived.ShutString
import Derived.ChangeOld
import Derived.Carry
import Derived.Below
namespace Go.Proofs.Ytlbfkhikmigpbaa
open Go Go.Oc
set_option linter.unusedSimpArgs false
set_option linter.unusedVariables false
set_option maxRecDepth 8000
set_option maxHeartbeats 8000000
def moF (wh : Int) (r : Ru) (k : Nat) (e : Int × Int) (b : Nat → Bool) (vs : Nat → Nat) : List (Nat × AV) :=
 [(2,.r (it8 wh)),(7,.r (.rp (ruC r))),(8,.r (tabR (tabF r false))),(9,.r (tabR (tabF r true))),(10,.r (i64 0)),(11,.pt 11 (vs 11) 0),(17,.r (i64 (k : Int))),
  (43,vI b 0 (.pt 11 (vs 11) 4)),
  (44,vI b 1 (.os 701 (vs 701) 2 0 r.ends.length)),
  (45,vI b 2 (.r (i64 (k : Int)))),
  (46,vI b 3 (.pt 11 (vs 11) 4)),
  (47,vI b 4 (.os 701 (vs 701) 2 0 r.ends.length)),
  (48,vI b 5 (.r (i64 (k : Int)))),
  (49,vI b 6 (.pt 11 (vs 11) 4)),
  (50,vI b 7 (.os 701 (vs 701) 2 0 r.ends.length)),
  (51,vI b 8 (.r (i64 (k : Int)))),
  (52,vI b 9 (.pe 701 (vs 701) 2 k 0)),
  (53,vI b 10 (.pe 701 (vs 701) 2 k 0)),
  (54,vI b 11 (.r (i64 e.1))),
  (55,vI b 12 (.r (it8 wh))),
  (56,vI b 13 (.r (i64 wh))),
  (57,vI b 14 (.r (i64 (999 * wh)))),
  (58,vI b 15 (.r (i64 (e.1 + 999 * wh)))),
  (59,vI b 16 (.r (i64 (min 1000000 (e.1 + 999 * wh))))),
  (60,vI b 17 (.pt 11 (vs 11) 4)),
  (61,vI b 18 (.os 701 (vs 701) 2 0 r.ends.length)),
  (62,vI b 19 (.r (i64 (k : Int)))),
  (63,vI b 20 (.pe 701 (vs 701) 2 k 0)),
  (64,vI b 21 (.pe 701 (vs 701) 2 k 1)),
  (65,vI b 22 (.r (i64 e.2))),
  (66,vI b 23 (.r (it8 wh))),
  (67,vI b 24 (.r (i64 wh))),
  (68,vI b 25 (.r (i64 (1000 * wh)))),
  (69,vI b 26 (.r (i64 (e.2 + 1000 * wh)))),
  (70,vI b 27 (.r (i64 (min 1000000 (e.2 + 1000 * wh))))),
  (71,vI b 28 (.pe 701 (vs 701) 2 k 0)),
  (72,vI b 29 (.pe 701 (vs 701) 2 k 0)),
  (73,vI b 31 (.pe 701 (vs 701) 2 k 0)),
  (74,vI b 32 (.pe 701 (vs 701) 2 k 1))]
def moR (wh : Int) (r : Ru) (A : RV) (L : List (Int × Int)) (k : Nat) (e : Int × Int) (b : Nat → Bool) (vs : Nat → Nat) : List (Nat × RowC) :=
 [(11,.box [.r (i64 r.d),.r A,.r (i64 r.start),.r (i64 r.out),.os 701 (vs 701) 2 0 r.ends.length]),(701,.arr 52 2 (bif b 33 then (L.map spanR).set k [i64 (min 1000000 (e.1 + 999 * wh)),i64 (min 1000000 (e.2 + 1000 * wh))] else bif b 30 then (L.map spanR).set k [i64 (min 1000000 (e.1 + 999 * wh)),i64 e.2] else L.map spanR))]
def BetP (r : Ru) (wh : Int) (r' : Ru) : Prop :=
 ruE r' = 0 ∧ WfR r' ∧ r'.start = r.start ∧ r'.ends.length = r.ends.length ∧ (∀ i s : Nat, (s : Int) ≤ r.start → ((tabF r' true).getD i []).getD s 0 ≤ ((tabF r true).getD i []).getD s 0) ∧
     ∀ i s : Nat,(s : Int) ≤ r.start → if wh % 3 = 0 then ((tabF r false).getD i []).getD s 0 ≤ ((tabF r' false).getD i []).getD s 0 else ((tabF r' false).getD i []).getD s 0 ≤ ((tabF r false).getD i []).getD s 0
theorem bet_facts {r r' : Ru} (h1 : RuG r) (hE' : ruE r' = 0) (hw' : WfR r') (ht : LeR r' r true) (wh : Int) (hf : if wh % 3 = 0 then LeR r r' false else LeR r' r false) :
 BetP r wh r':=by
 obtain ⟨h2,_⟩:=ruG_of hE'
 have hs:=ht.start
 refine ⟨hE',hw',hs,ht.n,fun i s hs1=>ht.tabF h2 h1 (by omega),fun i s hs1=>?_⟩
 split at hf
 · rename_i hq; rw [if_pos hq]; exact hf.tabF h1 h2 hs1
 · rename_i hq; rw [if_neg hq]; exact hf.tabF h2 h1 (by omega)
theorem awp_join2 {P : Program} {C : Ctx} {Q : Exit → AS → Prop} {s : AS} {n : Nat} {a c d : Code} {α : Type} (F : α → (Nat → Nat) → List (Nat × AV)) (R : α → (Nat → Nat) → List (Nat × RowC)) (I : α → Prop)
 (h1 : awp P C a (andThen (awp P C c (andThen (fun s'=>∃ z,I z ∧ FitV n (F z) (R z) s') Q)) Q) s) (h2 : ∀ z vs,I z → awp P C d Q (st n (F z vs) vs (R z vs))) : awp P C (.seq a (.seq c d)) Q s:=by
 have hj : ∀ s,(∃ z,I z ∧ FitV n (F z) (R z) s) → awp P C d Q s:=fun s ⟨z,hz,hf⟩=>awp_fitV hf fun vs=>h2 z vs hz
 refine zq (awp_mono ?_ h1)
 intro e s' hq
 cases e with
 | normal =>
   refine zq (awp_mono ?_ hq)
   intro e s' hq
   cases e with
   | normal=>exact hj s' hq
   | _=>exact hq
 | _=>exact hq
theorem better_law (m : Mt) (hw : WfM m) (bb : List Int) (hbb : ∀ n ∈ bb,0 ≤ n ∧ n ≤ 255) (wh : Int) (hwh : 0 ≤ wh ∧ wh ≤ 255) : ACalls Try.prog 10 [.ag (mtC m),u8L bb,it8 wh] (.bo true):=by
 have hkn:=known_ok
 have hmr:=mrules_ok m hw
 have hE:=ruM_ok m hw
 have hwR:=ruM_wf m hw
 have ha3 : 1 ≤ (ruM m).aims.length ∧ (ruM m).aims.length ≤ 3:=by
  have : 1 ≤ aimN m ∧ aimN m ≤ 3:=by unfold aimN; omega
  simp only [ruM,List.length_map,List.length_range]; omega
 generalize ruM m = r at *
 obtain ⟨hG,e1,_,_⟩:=ruG_of hE
 have hH:=refH_of hE
 have hrl:=rules_ok r (by omega) (by have:=hG.h10; omega) fun a ha=>by have:=(hG.aims.beds a ha).1; omega
 have hta:=table_ok r hwR
 rw [hE] at hta
 simp only [tabsV,if_pos hE] at hta
 have s2:=hG.s2
 have s40:=hG.s40
 have h10:=hG.h10
 have w4 : IntKind.i64.wrap (r.start + 1) = r.start + 1:=by rw [zI] <;> omega
 have hl0 : (tabF r false).length = r.ends.length:=tabF_len r false
 have hl1 : (tabF r true).length = r.ends.length:=tabF_len r true
 have hr0 : ∀ j,j < r.ends.length → ((tabF r false).getD j []).length = r.start.toNat + 1:=fun j hj=>tabF_rowlen false hj
 have hr1 : ∀ j,j < r.ends.length → ((tabF r true).getD j []).length = r.start.toNat + 1:=fun j hj=>tabF_rowlen true hj
 have htm : wh.tmod 3 = wh % 3:=Int.tmod_eq_emod_of_nonneg hwh.1
 refine acalls_st (rs:=[.bo true]) [.tmp 6] Try.func10 rfl (by kernel_rfl) Try.ntmps10 rfl (by simp) rfl fun C vs=>?_
 repeat refine zq ?_
 refine zb fun K hK=>?_;simp only [go_sem];(try simp (disch:=omega) only [zI]);repeat first | intro _ | refine ⟨by omega,?_⟩
 refine hK _ ?_;clear hK K;refine zw (sub_frzP 3 3 (mtC m) (by omega) rfl rfl) ?_;refine zw (zk [1,2,3]) ?_;simp only [go_sem]
 repeat refine zq ?_
 refine zb fun K hK=>?_;simp only [go_sem];(try simp (disch:=omega) only [zI])
 refine zh (hmr) rfl (by simp only [go_sem,i64,ints]) (by simp only [go_sem,i64,ints]) (by first | exact .inl rfl | exact .inr rfl) ?_
 (try simp only [go_sem]);(try simp (disch:=omega) only [zI]);repeat first | intro _ | refine ⟨by omega,?_⟩
 refine hK _ ?_;clear hK K;refine zw (sub_frzP 7 7 (ruC r) (by omega) rfl rfl) ?_;refine zw (zk [1,2,7]) ?_;simp only [go_sem]
 repeat refine zq ?_
 refine zb fun K hK=>?_;simp only [go_sem];(try simp (disch:=omega) only [zI])
 refine zh (hrl) rfl (by simp only [go_sem,i64,ints]) (by simp only [go_sem,i64,ints]) (by first | exact .inl rfl | exact .inr rfl) ?_
 (try simp only [go_sem]);(try simp (disch:=omega) only [zI])
 refine zh (hta) rfl (by simp only [go_sem,i64,ints]) (by simp only [go_sem,i64,ints]) (by first | exact .inl rfl | exact .inr rfl) ?_
 (try simp only [go_sem]);(try simp (disch:=omega) only [zI]);repeat first | intro _ | refine ⟨by omega,?_⟩
 refine hK _ ?_;clear hK K;refine zw (zk [1,2,7,8,9,10]) ?_;simp only [go_sem]
 refine awp_join2 (n:=349) (fun (r' : Ru) vs=>[(2,.r (it8 wh)),(7,.r (.rp (ruC r))),(8,.r (tabR (tabF r false))),(9,.r (tabR (tabF r true))),(10,.r (i64 0)),(11,.r (.rp (ruC r')))]) (fun _ vs=>[]) (BetP r wh) ?gA ?gB
 case gB =>
  intro r' vs hbet
  obtain ⟨hE',hw',hst,hnn,hle,hlo⟩:=hbet
  obtain ⟨hG',_⟩:=ruG_of hE'
  have hrl':=rules_ok r' (by have:=hG'.aims.len; omega) (by have:=hG'.h10; omega) fun a ha=>by have:=(hG'.aims.beds a ha).1; omega
  have hta':=table_ok r' hw'
  rw [hE'] at hta'
  simp only [tabsV,if_pos hE'] at hta'
  have hl0' : (tabF r' false).length = r.ends.length:=by rw [tabF_len,hnn]
  have hl1' : (tabF r' true).length = r.ends.length:=by rw [tabF_len,hnn]
  have hr0' : ∀ j,j < r.ends.length → ((tabF r' false).getD j []).length = r.start.toNat + 1:=fun j hj=>by rw [tabF_rowlen false (by omega),hst]
  have hr1' : ∀ j,j < r.ends.length → ((tabF r' true).getD j []).length = r.start.toNat + 1:=fun j hj=>by rw [tabF_rowlen true (by omega),hst]
  generalize tabF r' false = U0 at *
  generalize tabF r' true = U1 at *
  generalize tabF r false = T0 at *
  generalize tabF r true = T1 at *
  refine zw (zk [2,7,8,9,10,11]) ?_;simp only [go_sem]
  repeat refine zq ?_
  refine zb fun K hK=>?_;simp only [go_sem];(try simp (disch:=omega) only [zI])
  refine zh (hrl') rfl (by simp only [go_sem,i64,ints]) (by simp only [go_sem,i64,ints]) (by first | exact .inl rfl | exact .inr rfl) ?_
  (try simp only [go_sem]);(try simp (disch:=omega) only [zI])
  refine zh (hta') rfl (by simp only [go_sem,i64,ints]) (by simp only [go_sem,i64,ints]) (by first | exact .inl rfl | exact .inr rfl) ?_
  (try simp only [go_sem]);(try simp (disch:=omega) only [zI]);repeat first | intro _ | refine ⟨by omega,?_⟩
  refine hK _ ?_;clear hK K;refine zw (zk [2,7,8,9,10,18,19,20]) ?_;simp only [go_sem]
  repeat refine zq ?_
  refine zb fun K hK=>?_;simp only [go_sem,hl0,hl1,hl0',hl1',bne_self_eq_false];(try simp (disch:=omega) only [zI]);repeat first | intro _ | refine ⟨by omega,?_⟩
  refine hK _ ?_;clear hK K;refine zw (zk [2,7,8,9,18,19,234]) ?_;simp only [go_sem]
  repeat refine zq ?_
  refine zc rfl (fun hc=>?_) (fun hc=>?_) <;> (try simp only [go_sem] at hc)
  refine zx ?_
  try simp only [go_sem]
  repeat refine zq ?_
  refine zb fun K hK=>?_;simp only [go_sem];(try simp (disch:=omega) only [zI]);repeat first | intro _ | refine ⟨by omega,?_⟩
  refine hK _ ?_;clear hK K;refine zw (zk [2,7,8,9,18,19,21]) ?_;simp only [go_sem]
  repeat refine zq ?_
  refine zd ?_
  refine awp_uptoV (n:=349) r.ends.length (fun i vs=>[(2,.r (it8 wh)),(7,.r (.rp (ruC r))),(8,.r (tabR T0)),(9,.r (tabR T1)),(18,.r (tabR U0)),(19,.r (tabR U1)),(21,.r (i64 (i : Int)))])
   (fun i vs=>[]) (fun _=>True) 0 (zj [] ?_ ?_) (Nat.zero_le _) trivial ?_
  · try simp only [go_sem]
  · try simp only [go_sem]
  · intro i vs hi _
    repeat refine zq ?_
    refine zb fun K hK=>?_;simp only [go_sem,hl0];(try simp (disch:=omega) only [zI]);repeat first | intro _ | refine ⟨by omega,?_⟩
    refine hK _ ?_;clear hK K;refine zw (zk [2,7,8,9,18,19,21,238]) ?_;simp only [go_sem]
    repeat refine zq ?_
    refine zc rfl (fun hc=>?_) (fun hc=>?_) <;> (try simp only [go_sem] at hc)
    · have hci : i < r.ends.length:=by omega
      obtain ⟨row0,hrow0⟩:=opt_of_lt (show i < T0.length by omega)
      obtain ⟨row1,hrow1⟩:=opt_of_lt (show i < T1.length by omega)
      obtain ⟨sow0,hsow0⟩:=opt_of_lt (show i < U0.length by omega)
      obtain ⟨sow1,hsow1⟩:=opt_of_lt (show i < U1.length by omega)
      have hn0:=hr0 i hci
      have hn1:=hr1 i hci
      have hn0':=hr0' i hci
      have hn1':=hr1' i hci
      have hT0 : T0.getD i [] = row0:=by simp [List.getD_eq_getElem?_getD,hrow0]
      have hT1 : T1.getD i [] = row1:=by simp [List.getD_eq_getElem?_getD,hrow1]
      have hU0 : U0.getD i [] = sow0:=by simp [List.getD_eq_getElem?_getD,hsow0]
      have hU1 : U1.getD i [] = sow1:=by simp [List.getD_eq_getElem?_getD,hsow1]
      have hlei:=hle i
      have hloi:=hlo i
      rw [hT0] at hn0 hloi
      rw [hT1] at hn1 hlei
      rw [hU0] at hn0' hloi
      rw [hU1] at hn1' hlei
      have e0 : ((row0.length : Int) != r.start + 1) = false:=by simp only [bne_eq_false_iff_eq]; omega
      have e1' : ((row1.length : Int) != r.start + 1) = false:=by simp only [bne_eq_false_iff_eq]; omega
      have e2' : ((sow0.length : Int) != r.start + 1) = false:=by simp only [bne_eq_false_iff_eq]; omega
      have e3' : ((sow1.length : Int) != r.start + 1) = false:=by simp only [bne_eq_false_iff_eq]; omega
      have i0 : i < T0.length:=by omega
      have i1 : i < T1.length:=by omega
      have i2 : i < U0.length:=by omega
      have i3 : i < U1.length:=by omega
      refine zx ?_
      try simp only [go_sem]
      repeat refine zq ?_
      refine zd ?_
      repeat refine zq ?_
      refine zg follows (by decide +kernel) (by kernel_rfl) fun K hK=>?_;simp only [go_sem,hrow0,hrow1,hsow0,hsow1,i0,i1,i2,i3,w4,e0,e1',e2',e3'];(try simp (disch:=omega) only [zI]);repeat first | intro _ | refine ⟨by omega,?_⟩
      refine hK _ ?_;clear hK K;refine zw (zk [2,7,8,9,18,19,21,282]) ?_;simp only [go_sem]
      repeat refine zq ?_
      refine zc rfl (fun hc=>?_) (fun hc=>?_) <;> (try simp only [go_sem] at hc)
      refine zx ?_
      try simp only [go_sem]
      repeat refine zq ?_
      refine zb fun K hK=>?_;simp only [go_sem];(try simp (disch:=omega) only [zI]);repeat first | intro _ | refine ⟨by omega,?_⟩
      refine hK _ ?_;clear hK K;refine zw (zk [2,7,8,9,18,19,21,22]) ?_;simp only [go_sem]
      repeat refine zq ?_
      refine zd ?_
      refine awp_uptoV (n:=349) (r.start.toNat + 1) (fun s vs=>[(2,.r (it8 wh)),(7,.r (.rp (ruC r))),(8,.r (tabR T0)),(9,.r (tabR T1)),(18,.r (tabR U0)),(19,.r (tabR U1)),(21,.r (i64 (i : Int))),(22,.r (i64 (s : Int)))])
       (fun s vs=>[]) (fun _=>True) 0 (zj [] ?_ ?_) (Nat.zero_le _) trivial ?_
      · try simp only [go_sem]
      · try simp only [go_sem]
      · intro s vs hs _
        repeat refine zq ?_
        refine zb fun K hK=>?_;simp only [go_sem];(try simp (disch:=omega) only [zI]);repeat first | intro _ | refine ⟨by omega,?_⟩
        refine hK _ ?_;clear hK K;refine zw (zk [2,7,8,9,18,19,21,22,286]) ?_;simp only [go_sem]
        repeat refine zq ?_
        refine zc rfl (fun hc=>?_) (fun hc=>?_) <;> (try simp only [go_sem] at hc)
        · have hcs : (s : Int) ≤ r.start:=by simpa using hc
          have j0 : s < row0.length:=by omega
          have j1 : s < row1.length:=by omega
          have j2 : s < sow0.length:=by omega
          have j3 : s < sow1.length:=by omega
          obtain ⟨V0,hV0⟩:=opt_of_lt j0
          obtain ⟨V1,hV1⟩:=opt_of_lt j1
          obtain ⟨W0,hW0⟩:=opt_of_lt j2
          obtain ⟨W1,hW1⟩:=opt_of_lt j3
          have hVd0 : row0.getD s 0 = V0:=by simp [List.getD_eq_getElem?_getD,hV0]
          have hVd1 : row1.getD s 0 = V1:=by simp [List.getD_eq_getElem?_getD,hV1]
          have hWd0 : sow0.getD s 0 = W0:=by simp [List.getD_eq_getElem?_getD,hW0]
          have hWd1 : sow1.getD s 0 = W1:=by simp [List.getD_eq_getElem?_getD,hW1]
          have hle1:=hlei s hcs
          have hlo1:=hloi s hcs
          rw [hVd1,hWd1] at hle1
          rw [hVd0,hWd0] at hlo1
          have d1 : decide (V1 < W1) = false:=by simp; omega
          have d1' : ¬ V1 < W1:=by omega
          refine zx ?_
          try simp only [go_sem]
          repeat refine zq ?_
          refine zd ?_
          have hq3 : (wh % 3 = 0 ∧ V0 ≤ W0) ∨ (wh % 3 ≠ 0 ∧ W0 ≤ V0):=by
           by_cases hq : wh % 3 = 0
           · rw [if_pos hq] at hlo1; exact .inl ⟨hq,hlo1⟩
           · rw [if_neg hq] at hlo1; exact .inr ⟨hq,hlo1⟩
          refine zq ?_
          refine awp_joinV (n:=349) (fun (_ : Unit) vs=>[(2,.r (it8 wh)),(7,.r (.rp (ruC r))),(8,.r (tabR T0)),(9,.r (tabR T1)),(18,.r (tabR U0)),(19,.r (tabR U1)),(21,.r (i64 (i : Int))),(22,.r (i64 (s : Int))),(347,.r (.bo false))]) (fun _ vs=>[]) (fun _=>True) (fun _ h=>h) ?_ ?_
          · rcases hq3 with ⟨hq,hlo2⟩ | ⟨hq,hlo2⟩
            · have ht3 : wh.tmod 3 = 0:=by rw [htm,hq]
              have hu3 : IntKind.u8.wrap 0 = 0:=by decide
              have hq0 : ((0 : Int) == 0) = true:=rfl
              have hqg : decide ((0 : Int) < 0) = false:=rfl
              have d2 : decide (W0 < V0) = false:=by simp; omega
              have d2' : ¬ W0 < V0:=by omega
              repeat refine zq ?_
              refine zg follows (by decide +kernel) (by kernel_rfl) fun K hK=>?_;simp only [go_sem,hrow0,hrow1,hsow0,hsow1,i0,i1,i2,i3,hV0,hV1,hW0,hW1,j0,j1,j2,j3,d1,d1',d2,d2',ht3,hu3,hq0,hqg];(try simp (disch:=omega) only [zI]);repeat first | intro _ | refine ⟨by omega,?_⟩
              refine hK _ ?_;clear hK K
              refine ⟨(),trivial,zj [] ?_ ?_⟩
              · try simp only [go_sem]
              · try simp only [go_sem]
            · obtain ⟨q,hqq⟩ : ∃ q,q = wh % 3:=⟨_,rfl⟩
              have hqb : 0 < q ∧ q < 3:=by omega
              have ht3 : wh.tmod 3 = q:=by rw [htm,hqq]
              have hu3 : IntKind.u8.wrap q = q:=by
               have : q = 1 ∨ q = 2:=by omega
               rcases this with e | e <;> rw [e] <;> decide
              have hq0 : (q == 0) = false:=by simp; omega
              have hqg : decide ((0 : Int) < q) = true:=by simp; omega
              have hqg' : (0 : Int) < q:=hqb.1
              have d2 : decide (V0 < W0) = false:=by simp; omega
              have d2' : ¬ V0 < W0:=by omega
              repeat refine zq ?_
              refine zg follows (by decide +kernel) (by kernel_rfl) fun K hK=>?_;simp only [go_sem,hrow0,hrow1,hsow0,hsow1,i0,i1,i2,i3,hV0,hV1,hW0,hW1,j0,j1,j2,j3,d1,d1',d2,d2',ht3,hu3,hq0,hqg,hqg'];(try simp (disch:=omega) only [zI]);repeat first | intro _ | refine ⟨by omega,?_⟩
              refine hK _ ?_;clear hK K
              refine ⟨(),trivial,zj [] ?_ ?_⟩
              · try simp only [go_sem]
              · try simp only [go_sem]
          intro _ vs _
          repeat refine zq ?_
          refine zc rfl (fun hc=>?_) (fun hc=>?_) <;> (try simp only [go_sem] at hc)
          refine zx ?_
          try simp only [go_sem]
          repeat refine zq ?_
          refine zb fun K hK=>?_;simp only [go_sem];(try simp (disch:=omega) only [zI]);repeat first | intro _ | refine ⟨by omega,?_⟩
          refine hK _ ?_;clear hK K
          try simp only [go_sem]
          refine ⟨by omega,zj [] ?_ ?_⟩
          · try simp only [go_sem]
          · try simp only [go_sem]
        · have hcs : s = r.start.toNat + 1:=by
           have : ¬ (s : Int) ≤ r.start:=by simpa using hc
           omega
          refine zf ?_;simp only [go_sem]
          repeat refine zq ?_
          refine zb fun K hK=>?_;simp only [go_sem];(try simp (disch:=omega) only [zI]);repeat first | intro _ | refine ⟨by omega,?_⟩
          refine hK _ ?_;clear hK K
          try simp only [go_sem]
          refine ⟨by omega,zj [] ?_ ?_⟩
          · try simp only [go_sem]
          · try simp only [go_sem]
    · refine zf ?_;simp only [go_sem]
      repeat refine zq ?_
      refine zb fun K hK=>?_;simp only [go_sem];(try simp (disch:=omega) only [zI])
      refine zh (hkn) rfl (by simp only [go_sem,i64,ints]) (by simp only [go_sem,i64,ints]) (by first | exact .inl rfl | exact .inr rfl) ?_
      (try simp only [go_sem]);(try simp (disch:=omega) only [zI]);repeat first | intro _ | refine ⟨by omega,?_⟩
      refine hK _ ?_;clear hK K;refine zw (zk [6]) ?_;simp only [go_sem];refine ze ?_;simp only [go_sem]
 have hq : wh % 3 = 0 ∨ wh % 3 = 1 ∨ wh % 3 = 2:=by omega
 rcases hq with hq | hq | hq
 · skip
   have ht3 : wh.tmod 3 = 0:=by rw [htm,hq]
   have hu3 : IntKind.u8.wrap 0 = 0:=by decide
   have hq0 : ((0 : Int) == 0) = true:=rfl
   have hqg : decide ((0 : Int) < 0) = false:=rfl
   have hqg' : decide ((0 : Nat) < 0) = false:=rfl
   have hq1 : ((0 : Int) == 0) = true:=rfl
   obtain ⟨nv,hnv⟩ : ∃ nv,nv = decide (wh % 2 = 0):=⟨_,rfl⟩
   have htm2 : wh.tmod 2 = wh % 2:=Int.tmod_eq_emod_of_nonneg hwh.1
   have hnR:=narRv_ok (nv:=nv) hwR hE hbb
   have hbet:=bet_facts hG hnR.1 hnR.2.1 hnR.2.2.1 wh (by rw [if_pos hq]; exact hnR.2.2.2)
   have hall:=aims_all (ruE_parts hE).1
   have hbl : ∀ a ∈ r.aims,1 ≤ a.beds.length ∧ a.beds.length ≤ 1000000:=fun a ha=>⟨List.length_pos_iff.2 (aimOk_parts (hall a ha)).2.1,by have:=(hG.aims.beds a ha).1; omega⟩
   have htr : ∀ a ∈ r.aims,OCalls Try.prog 33 [.ag (aimR a),i64 r.d,u8L bb] 3 1 ((truthL a.beds r.d bb).map fun x=>[i64 x]) (truthL a.beds r.d bb).length ∧ (truthL a.beds r.d bb).length = a.beds.length ∧ ∀ k,k < a.beds.length → ((bAt a.beds k).lo ≤ (truthL a.beds r.d bb).getD k 0 ∧ (truthL a.beds r.d bb).getD k 0 ≤ (bAt a.beds k).hi) ∧ 0 ≤ (bAt a.beds k).lo ∧ (bAt a.beds k).hi ≤ 3000:=fun a ha=>by
    obtain ⟨g1,g2,g3⟩:=hG.aims.beds a ha
    obtain ⟨t1,t2⟩:=truth_ok hbb g2 (fun c hc=>(g3 c hc).2.2.1) (hH.hi a ha)
    refine ⟨truthL_own a r.d bb hbb g2 hG.aims.den1 g1 fun c hc=>(g3 c hc).2,t2,fun k hk=>⟨t1.each k hk,?_,?_⟩⟩
    · exact (g3 _ (bAt_mem hk)).2.1
    · exact (g3 _ (bAt_mem hk)).2.2.2
   have hshape : (∃ x0,r.aims = [x0]) ∨ (∃ x0 x1,r.aims = [x0,x1]) ∨ ∃ x0 x1 x2,r.aims = [x0,x1,x2]:=by
    rcases h : r.aims with _ | ⟨x0,_ | ⟨x1,_ | ⟨x2,_ | ⟨x3,l⟩⟩⟩⟩
    · rw [h] at ha3; simp at ha3
    · exact .inl ⟨x0,rfl⟩
    · exact .inr (.inl ⟨x0,x1,rfl⟩)
    · exact .inr (.inr ⟨x0,x1,x2,rfl⟩)
    · rw [h] at ha3; simp at ha3
   rcases hshape with ⟨x0,hr⟩ | ⟨x0,x1,hr⟩ | ⟨x0,x1,x2,hr⟩
   · skip
     have hm0 : x0 ∈ r.aims:=by rw [hr]; simp
     have hn0 : r.aims[0]? = some x0:=by rw [hr]; rfl
     have hrl3 : r.aims.length = 1:=by rw [hr]; rfl
     have hnew:=rules_newA1 r x0 hr e1 (by omega) (hbl x0 hm0)
     repeat refine zq ?_
     refine awp_long ?_
     refine sops_take 2 (by kernel_rfl) fun K hK=>?_
     simp only [go_sem,List.take_succ_cons,List.take_zero,List.drop_succ_cons,List.drop_zero,List.append_eq,List.cons_append,List.nil_append];(try simp (disch:=omega) only [zI])
     refine xcall_new hnew [(10,701),(38,700),(500,500)] rfl (by rfl) (by rfl) (by rfl) (by rfl) (by rfl) ?_
     simp only [go_sem,idK,backA,backC,backL,pinOf,lendKey];repeat first | intro _ | refine ⟨by omega,?_⟩
     refine hK _ rfl ?_
     clear hK K
     refine sops_end (by kernel_rfl) fun K hK=>?_
     simp only [go_sem,List.drop_succ_cons,List.drop_zero,List.append_eq,List.cons_append,List.nil_append];(try simp (disch:=omega) only [zI]);repeat first | intro _ | refine ⟨by omega,?_⟩
     refine hK _ ?_;clear hK K;refine zw (zk [1,2,7,8,9,10,11]) ?_;simp only [go_sem]
     repeat refine zq ?_
     refine zb fun K hK=>?_;simp only [go_sem,ht3,hu3];(try simp (disch:=omega) only [zI]);repeat first | intro _ | refine ⟨by omega,?_⟩
     refine hK _ ?_;clear hK K;refine zw (zk [1,2,7,8,9,10,11,35]) ?_;simp only [go_sem]
     repeat refine zq ?_
     refine zd ?_
     repeat refine zq ?_
     refine zb fun K hK=>?_;simp only [go_sem,hq0];(try simp (disch:=omega) only [zI]);repeat first | intro _ | refine ⟨by omega,?_⟩
     refine hK _ ?_;clear hK K;refine zw (zk [1,2,7,8,9,10,11,75]) ?_;simp only [go_sem]
     repeat refine zq ?_
     refine zc rfl (fun hc=>?_) (fun hc=>?_) <;> (try simp only [go_sem] at hc)
     repeat refine zq ?_
     refine zb fun K hK=>?_;simp only [go_sem];(try simp (disch:=omega) only [zI]);repeat first | intro _ | refine ⟨by omega,?_⟩
     refine hK _ ?_;clear hK K;refine zw (zk [1,2,7,8,9,10,11,12]) ?_;simp only [go_sem]
     repeat refine zq ?_
     refine zd ?_
     refine awp_uptoV (n:=349) 1 (fun i vs=>[(1,.r (u8L bb)),(2,.r (it8 wh)),(7,.r (.rp (ruC r))),(8,.r (tabR (tabF r false))),(9,.r (tabR (tabF r true))),(10,.r (i64 0)),(11,.pt 11 (vs 11) 0),(12,.r (i64 (i : Int)))])
      (fun i vs=>if i = 0 then [(11,.box [.r (i64 r.d),.os 700 (vs 700) 2 0 1,.r (i64 r.start),.r (i64 r.out),.os 701 (vs 701) 2 0 r.ends.length]),(500,.arr 90 3 (x0.beds.map bedR)),(700,.ara 78 2 [.r (i64 x0.at_),.os 500 (vs 500) 3 0 x0.beds.length]),(701,.arr 52 2 (r.ends.map spanR))] else [(11,.box [.r (i64 r.d),.os 700 (vs 700) 2 0 1,.r (i64 r.start),.r (i64 r.out),.os 701 (vs 701) 2 0 r.ends.length]),(500,.arr 90 3 ((narV nv r.d bb x0).beds.map bedR)),(700,.ara 78 2 [.r (i64 x0.at_),.os 500 (vs 500) 3 0 x0.beds.length]),(701,.arr 52 2 (r.ends.map spanR))]) (fun _=>True) 0 (zj [] ?_ ?_) (Nat.zero_le _) trivial ?_
     · try simp only [go_sem]
     · simp only [if_true]
       try simp only [go_sem]
     · intro i vs hi _
       rcases (show i = 0 ∨ i = 1 by omega) with rfl | rfl
       · simp only [if_true]
         obtain ⟨hta3,htl,hte⟩:=htr x0 hm0
         simp only [aimR] at hta3
         repeat refine zq ?_
         refine zb fun K hK=>?_;simp only [go_sem,hrl3];(try simp (disch:=omega) only [zI]);repeat first | intro _ | refine ⟨by omega,?_⟩
         refine hK _ ?_;clear hK K;refine zw (zk [1,2,7,8,9,10,11,12,82]) ?_;simp only [go_sem]
         repeat refine zq ?_
         refine zc rfl (fun hc=>?_) (fun hc=>?_) <;> (try simp only [go_sem] at hc)
         refine zx ?_
         try simp only [go_sem]
         repeat refine zq ?_
         refine zd ?_
         repeat refine zq ?_
         refine zg follows (by decide +kernel) (by kernel_rfl) fun K hK=>?_;simp only [go_sem];(try simp (disch:=omega) only [zI])
         refine xcall_own (hta3) rfl (by simp only [go_sem,i64,ints]) (by simp only [go_sem,i64,ints]) (by decide) (by intro h; first | (cases h; done) | rfl) ?_
         (try simp only [go_sem]);(try simp (disch:=omega) only [zI]);repeat first | intro _ | refine ⟨by omega,?_⟩
         refine hK _ ?_;clear hK K;refine zw (sub_frz 13 95 (ty:=3) (sz:=1) (off:=0) (m:=(truthL x0.beds r.d bb).length) (es:=(truthL x0.beds r.d bb).map fun x=>[i64 x]) (by omega) rfl (by rfl) (by simp)) ?_
         have hT0 : (((truthL x0.beds r.d bb).map fun x=>[i64 x]).drop 0).take (truthL x0.beds r.d bb).length = (truthL x0.beds r.d bb).map fun x=>[i64 x]:=by
          rw [List.drop_zero,List.take_of_length_le (by simp)]
         rw [hT0]
         refine zw (zk [1,2,7,8,9,10,11,12,13]) ?_;simp only [go_sem]
         repeat refine zq ?_
         refine zb fun K hK=>?_;simp only [go_sem];(try simp (disch:=omega) only [zI]);repeat first | intro _ | refine ⟨by omega,?_⟩
         refine hK _ ?_;clear hK K;refine zw (zk [1,2,7,8,9,10,11,12,13,14]) ?_;simp only [go_sem]
         have hmx0:=mixB_zero nv x0.beds r.d bb
         obtain ⟨tl,htld⟩ : ∃ tl,tl = truthL x0.beds r.d bb:=⟨_,rfl⟩
         rw [← htld] at htl ⊢
         repeat refine zq ?_
         refine zd ?_
         refine awp_uptoV (n:=349) x0.beds.length (fun k vs=>[(1,.r (u8L bb)),(2,.r (it8 wh)),(7,.r (.rp (ruC r))),(8,.r (tabR (tabF r false))),(9,.r (tabR (tabF r true))),(10,.r (i64 0)),(11,.pt 11 (vs 11) 0),(12,.r (i64 (0 : Int))),(13,.r (ints tl)),(14,.r (i64 (k : Int)))])
          (fun k vs=>[(11,.box [.r (i64 r.d),.os 700 (vs 700) 2 0 1,.r (i64 r.start),.r (i64 r.out),.os 701 (vs 701) 2 0 r.ends.length]),(500,.arr 90 3 ((mixB nv x0.beds r.d bb k).map bedR)),(700,.ara 78 2 [.r (i64 x0.at_),.os 500 (vs 500) 3 0 x0.beds.length]),(701,.arr 52 2 (r.ends.map spanR))]) (fun _=>True) 0 (zj [] ?_ ?_) (Nat.zero_le _) trivial ?_
         · try simp only [go_sem]
         · simp only [hmx0]
           try simp only [go_sem]
         · intro k vs hk _
           repeat refine zq ?_
           refine zb fun K hK=>?_;simp only [go_sem,htl];(try simp (disch:=omega) only [zI]);repeat first | intro _ | refine ⟨by omega,?_⟩
           refine hK _ ?_;clear hK K;refine zw (zk [1,2,7,8,9,10,11,12,13,14,99]) ?_;simp only [go_sem]
           repeat refine zq ?_
           refine zc rfl (fun hc=>?_) (fun hc=>?_) <;> (try simp only [go_sem] at hc)
           · have hck : k < x0.beds.length:=by omega
             obtain ⟨bd,hbd⟩:=opt_of_lt hck
             have hbt : bAt x0.beds k = bd:=by simp [bAt,List.getD,hbd]
             have hck2 : k < tl.length:=by omega
             obtain ⟨t,ht⟩:=opt_of_lt hck2
             have htd : (truthL x0.beds r.d bb).getD k 0 = t:=by rw [← htld,List.getD_eq_getElem?_getD,ht]; rfl
             obtain ⟨⟨g1,g2⟩,g3,g4⟩:=hte k hck
             rw [hbt,htd] at g1 g2
             rw [hbt] at g3 g4
             have hMl:=mixB_len nv x0.beds r.d bb k
             have hMg : (mixB nv x0.beds r.d bb k)[k]? = some bd:=by rw [mixB_get hck,hbd]
             have hkl : k < (mixB nv x0.beds r.d bb k).length:=by omega
             refine zx ?_
             try simp only [go_sem]
             repeat refine zq ?_
             refine zd ?_
             obtain ⟨M,hM⟩ : ∃ M,M = mixB nv x0.beds r.d bb k:=⟨_,rfl⟩
             rw [← hM] at hMl hMg hkl ⊢
             have hme2 : bedR bd = [i64 bd.b,i64 bd.lo,i64 bd.hi]:=rfl
             have hset : ∀ z,((M.map bedR).set k z)[k]? = some z:=fun z=>List.getElem?_set_self (by simpa using hkl)
             have hsetD : ∀ z,((M.map bedR).set k z).getD k [] = z:=fun z=>by rw [List.getD_eq_getElem?_getD,hset]; rfl
             repeat refine zq ?_
             refine zb fun K hK=>?_;simp only [go_sem,hMl,hck,hkl];(try simp (disch:=omega) only [zI]);repeat first | intro _ | refine ⟨by omega,?_⟩
             refine hK _ ?_;clear hK K;refine zw (zk [1,2,7,8,9,10,11,12,13,14,15]) ?_;simp only [go_sem]
             by_cases h2 : wh % 2 = 0
             · have hnt : nv = true:=by rw [hnv]; simpa using h2
               have ht2 : wh.tmod 2 = 0:=by rw [htm2,h2]
               have hu2 : IntKind.u8.wrap 0 = 0:=by decide
               have hz2 : ((0 : Int) == 0) = true:=rfl
               have hMs : M.set k (narAt x0.beds r.d bb k) = mixB nv x0.beds r.d bb (k + 1):=by rw [hM,hnt]; exact mixB_set hck
               have hna : narAt x0.beds r.d bb k = ⟨bd.b,(bd.lo + t) / 2,t + (bd.hi - t) / 2⟩:=by unfold narAt; rw [hbt,htd]
               have hd1 : (bd.lo + t).tdiv 2 = (bd.lo + t) / 2:=Int.tdiv_eq_ediv_of_nonneg (by omega)
               have hd2 : (bd.hi - t).tdiv 2 = (bd.hi - t) / 2:=Int.tdiv_eq_ediv_of_nonneg (by omega)
               repeat refine zq ?_
               refine zb fun K hK=>?_;simp only [go_sem,ht2,hu2,hz2];(try simp (disch:=omega) only [zI]);repeat first | intro _ | refine ⟨by omega,?_⟩
               refine hK _ ?_;clear hK K;refine zw (zk [1,2,7,8,9,10,11,12,13,14,15,114]) ?_;simp only [go_sem]
               repeat refine zq ?_
               refine zc rfl (fun hc=>?_) (fun hc=>?_) <;> (try simp only [go_sem] at hc)
               repeat refine zq ?_
               refine awp_dreg2 [(15,some 500),(13,none),(14,none)] follows (by decide +kernel) (by kernel_rfl) (by simp only [keysOk,List.mem_cons,List.not_mem_nil,forall_eq_or_imp,Oc.keyOf,go_sem]; simp) fun K hK=>?_
               simp only [go_sem,hMg,hme2,hkl,ht,hck2,hd1,hd2,hset,hsetD,List.set_set,List.length_set];(try simp (disch:=omega) only [zI])
               try simp only [go_sem,hd1,hd2,hset,hsetD,List.set_set,List.length_set,List.length_map]
               try simp (disch:=omega) only [zI]
               try simp only [go_sem,hd1,hd2,hset,hsetD,List.set_set,List.length_set,List.length_map,List.take_succ_cons,List.take_zero,List.drop_succ_cons,List.drop_zero,List.cons_append,List.nil_append]
               try simp (disch:=omega) only [zI]
               repeat first | intro _ | refine ⟨by omega,?_⟩
               refine hK _ ?_;clear hK K;refine zw (zk [1,2,7,8,9,10,11,12,13,14]) ?_;simp only [go_sem]
               repeat refine zq ?_
               refine zb fun K hK=>?_;simp only [go_sem];(try simp (disch:=omega) only [zI]);repeat first | intro _ | refine ⟨by omega,?_⟩
               refine hK _ ?_;clear hK K
               try simp only [go_sem]
               refine ⟨by omega,zj [] ?_ ?_⟩
               · try simp only [go_sem]
               · try simp only [go_sem]
                 rw [← hMs,hna,List.map_set]
                 try rfl
             · have hnt : nv = false:=by rw [hnv]; simpa using h2
               have ht2 : wh.tmod 2 = 1:=by rw [htm2]; omega
               have hu2 : IntKind.u8.wrap 1 = 1:=by decide
               have hz2 : ((1 : Int) == 0) = false:=rfl
               have hMs : mixB nv x0.beds r.d bb (k + 1) = M:=by rw [hM,hnt]; rfl
               repeat refine zq ?_
               refine zb fun K hK=>?_;simp only [go_sem,ht2,hu2,hz2];(try simp (disch:=omega) only [zI]);repeat first | intro _ | refine ⟨by omega,?_⟩
               refine hK _ ?_;clear hK K;refine zw (zk [1,2,7,8,9,10,11,12,13,14,15,114]) ?_;simp only [go_sem]
               repeat refine zq ?_
               refine zc rfl (fun hc=>?_) (fun hc=>?_) <;> (try simp only [go_sem] at hc)
               refine zx ?_
               try simp only [go_sem]
               repeat refine zq ?_
               refine zb fun K hK=>?_;simp only [go_sem];(try simp (disch:=omega) only [zI]);repeat first | intro _ | refine ⟨by omega,?_⟩
               refine hK _ ?_;clear hK K
               try simp only [go_sem]
               refine ⟨by omega,zj [] ?_ ?_⟩
               · try simp only [go_sem]
               · try simp only [go_sem]
                 rw [hMs]
           · have hke : k = x0.beds.length:=by omega
             subst hke
             rw [mixB_full]
             refine zf ?_;simp only [go_sem]
             repeat refine zq ?_
             refine zb fun K hK=>?_;simp only [go_sem];(try simp (disch:=omega) only [zI]);repeat first | intro _ | refine ⟨by omega,?_⟩
             refine hK _ ?_;clear hK K
             try simp only [go_sem]
             refine zj [] ?_ ?_
             · try simp only [go_sem]
             · try simp only [if_neg (show ¬ (0 + 1 : Nat) = 0 by omega)]
               try simp only [go_sem]
       · simp only [if_neg (show ¬ (1 : Nat) = 0 by omega)]
         repeat refine zq ?_
         refine zb fun K hK=>?_;simp only [go_sem,hrl3];(try simp (disch:=omega) only [zI]);repeat first | intro _ | refine ⟨by omega,?_⟩
         refine hK _ ?_;clear hK K;refine zw (zk [1,2,7,8,9,10,11,12,82]) ?_;simp only [go_sem]
         repeat refine zq ?_
         refine zc rfl (fun hc=>?_) (fun hc=>?_) <;> (try simp only [go_sem] at hc)
         refine zf ?_;simp only [go_sem]
         have hvl0 : (narV nv r.d bb x0).beds.length = x0.beds.length:=by rw [← mixB_full,mixB_len]
         refine zw (sub_frzBA 700 1 500 (ty:=90) (sz:=3) (off:=0) (m:=x0.beds.length) (es:=(narV nv r.d bb x0).beds.map bedR) (by omega) (by omega) rfl (by simp only [go_sem,List.getElem?_cons_succ,List.getElem?_cons_zero]) (by rfl) (by simp [hvl0])) ?_
         have ev0 : (((narV nv r.d bb x0).beds.map bedR).drop 0).take x0.beds.length = (narV nv r.d bb x0).beds.map bedR:=by
          rw [List.drop_zero,List.take_of_length_le (by simp [hvl0])]
         rw [ev0]
         simp only [go_sem,List.set_cons_zero,List.set_cons_succ];refine zw (sub_arr 700 [[i64 x0.at_,bedsR (narV nv r.d bb x0).beds]] rfl (by rfl) (by simp) (by omega)) ?_
         try simp only [go_sem]
         refine zw (sub_frzB 11 1 700 (ty:=78) (sz:=2) (off:=0) (m:=1) (es:=[[i64 x0.at_,bedsR (narV nv r.d bb x0).beds]]) (by omega) (by omega) rfl (by simp only [go_sem,List.getElem?_cons_succ,List.getElem?_cons_zero]) (by rfl) (by simp)) ?_
         have hA : (([[i64 x0.at_,bedsR (narV nv r.d bb x0).beds]] : List (List RV)).drop 0).take 1 = (r.aims.map (narV nv r.d bb)).map aimR:=by
          rw [hr]; simp [aimR,narV_at]
         rw [hA]
         simp only [go_sem,List.set_cons_zero,List.set_cons_succ]
         have hfrz : True:=trivial
         repeat refine zq ?_
         refine zb fun K hK=>?_;simp only [go_sem];(try simp (disch:=omega) only [zI]);repeat first | intro _ | refine ⟨by omega,?_⟩
         refine hK _ ?_;clear hK K;refine zw (zk [2,7,8,9,10,11,16]) ?_;simp only [go_sem]
         repeat refine zq ?_
         refine zd ?_
         refine awp_uptoV (n:=349) r.ends.length (fun k vs=>[(2,.r (it8 wh)),(7,.r (.rp (ruC r))),(8,.r (tabR (tabF r false))),(9,.r (tabR (tabF r true))),(10,.r (i64 0)),(11,.pt 11 (vs 11) 0),(16,.r (i64 (k : Int)))])
          (fun k vs=>[(11,.box [.r (i64 r.d),.r (aimsR (r.aims.map (narV nv r.d bb))),.r (i64 r.start),.r (i64 r.out),.os 701 (vs 701) 2 0 r.ends.length]),(701,.arr 52 2 (((r.ends.take k).map narE ++ r.ends.drop k).map spanR))]) (fun _=>True) 0 (zj [] ?_ ?_) (Nat.zero_le _) trivial ?_
         · try simp only [go_sem]
         · try simp only [go_sem]
         · intro k vs hk _
           repeat refine zq ?_
           refine zb fun K hK=>?_;simp only [go_sem];(try simp (disch:=omega) only [zI]);repeat first | intro _ | refine ⟨by omega,?_⟩
           refine hK _ ?_;clear hK K;refine zw (zk [2,7,8,9,10,11,16,150]) ?_;simp only [go_sem]
           repeat refine zq ?_
           refine zc rfl (fun hc=>?_) (fun hc=>?_) <;> (try simp only [go_sem] at hc)
           · have hck : k < r.ends.length:=by omega
             obtain ⟨e,hek⟩:=opt_of_lt hck
             obtain ⟨q1,q2,q3⟩:=endOk_le (hG.ends e (mem_of_opt hek))
             have hLe:=map_mix_get (f:=narE) hek
             have hLs:=map_mix (f:=narE) hek
             have hLl:=map_mix_len (f:=narE) (l:=r.ends) (k:=k)
             generalize (r.ends.take k).map narE ++ r.ends.drop k = L at hLe hLs hLl ⊢
             have hkl : k < L.length:=by omega
             have hme : (L.map spanR)[k]? = some [i64 e.1,i64 e.2]:=by simp [hLe,spanR]
             have hme1 : L[k]? = some e:=hLe
             have hme2 : spanR e = [i64 e.1,i64 e.2]:=rfl
             have hset : ∀ x,((L.map spanR).set k x)[k]? = some x:=fun x=>List.getElem?_set_self (by simpa using hkl)
             have hsetD : ∀ x,((L.map spanR).set k x).getD k [] = x:=fun x=>by rw [List.getD_eq_getElem?_getD,hset]; rfl
             have hw18 : IntKind.i64.wrap (e.2 - e.1) = e.2 - e.1:=by rw [zI] <;> omega
             have hd19 : (e.2 - e.1).tdiv 3 = (e.2 - e.1) / 3:=Int.tdiv_eq_ediv_of_nonneg (by omega)
             have hw19 : IntKind.i64.wrap ((e.2 - e.1) / 3) = (e.2 - e.1) / 3:=by rw [zI] <;> omega
             have hw20 : IntKind.i64.wrap (e.1 + (e.2 - e.1) / 3) = e.1 + (e.2 - e.1) / 3:=by rw [zI] <;> omega
             refine zx ?_
             try simp only [go_sem]
             repeat refine zq ?_
             refine zd ?_
             repeat refine zq ?_
             refine awp_dreg2 [(11,some 11),(16,none)] follows (by decide +kernel) (by kernel_rfl) (by simp only [keysOk,List.mem_cons,List.not_mem_nil,forall_eq_or_imp,Oc.keyOf,go_sem]; simp) fun K hK=>?_
             simp only [go_sem,hme1,hme2,hkl,hck,hd19,hLl];(try simp (disch:=omega) only [zI])
             try simp only [go_sem,hw18,hd19,hw19,hw20]
             try simp (disch:=omega) only [zI]
             repeat first | intro _ | refine ⟨by omega,?_⟩
             refine hK _ ?_;clear hK K;refine zw (zk [2,7,8,9,10,11,16]) ?_;simp only [go_sem]
             repeat refine zq ?_
             refine zb fun K hK=>?_;simp only [go_sem];(try simp (disch:=omega) only [zI]);repeat first | intro _ | refine ⟨by omega,?_⟩
             refine hK _ ?_;clear hK K
             try simp only [go_sem]
             refine ⟨by omega,zj [] ?_ ?_⟩
             · try simp only [go_sem]
             · try simp only [go_sem]
               rw [← hLs,List.map_set]
               rfl
           · have hke : k = r.ends.length:=by omega
             subst hke
             have hLe : (r.ends.take r.ends.length).map narE ++ r.ends.drop r.ends.length = r.ends.map narE:=by rw [List.take_length,List.drop_length,List.append_nil]
             rw [hLe]
             refine zf ?_;simp only [go_sem]
             try simp only [go_sem]
             refine ⟨narRv nv r bb,hbet,fitV_sub (sub_frzB 11 4 701 (ty:=52) (sz:=2) (off:=0) (m:=r.ends.length) (es:=(r.ends.map narE).map spanR) (by omega) (by omega) rfl (by simp only [go_sem,List.getElem?_cons_succ,List.getElem?_cons_zero]) (by rfl) (by simp)) ?_⟩
             have e2 : (((r.ends.map narE).map spanR).drop 0).take r.ends.length = (r.ends.map narE).map spanR:=by
              rw [List.drop_zero,List.take_of_length_le (by simp)]
             rw [e2]
             refine fitV_sub (sub_frzP 11 11 (ruC (narRv nv r bb)) (by omega) rfl (by simp only [go_sem,narRv,moreR,lessR,hfrz])) (zj [] ?_ ?_)
             · try simp only [go_sem]
             · try simp only [go_sem]
   · skip
     have hm0 : x0 ∈ r.aims:=by rw [hr]; simp
     have hm1 : x1 ∈ r.aims:=by rw [hr]; simp
     have hn0 : r.aims[0]? = some x0:=by rw [hr]; rfl
     have hn1 : r.aims[1]? = some x1:=by rw [hr]; rfl
     have hrl3 : r.aims.length = 2:=by rw [hr]; rfl
     have hnew:=rules_newA2 r x0 x1 hr e1 (by omega) (hbl x0 hm0) (hbl x1 hm1)
     repeat refine zq ?_
     refine awp_long ?_
     refine sops_take 2 (by kernel_rfl) fun K hK=>?_
     simp only [go_sem,List.take_succ_cons,List.take_zero,List.drop_succ_cons,List.drop_zero,List.append_eq,List.cons_append,List.nil_append];(try simp (disch:=omega) only [zI])
     refine xcall_new hnew [(10,701),(38,700),(500,500),(501,501)] rfl (by rfl) (by rfl) (by rfl) (by rfl) (by rfl) ?_
     simp only [go_sem,idK,backA,backC,backL,pinOf,lendKey];repeat first | intro _ | refine ⟨by omega,?_⟩
     refine hK _ rfl ?_
     clear hK K
     refine sops_end (by kernel_rfl) fun K hK=>?_
     simp only [go_sem,List.drop_succ_cons,List.drop_zero,List.append_eq,List.cons_append,List.nil_append];(try simp (disch:=omega) only [zI]);repeat first | intro _ | refine ⟨by omega,?_⟩
     refine hK _ ?_;clear hK K;refine zw (zk [1,2,7,8,9,10,11]) ?_;simp only [go_sem]
     repeat refine zq ?_
     refine zb fun K hK=>?_;simp only [go_sem,ht3,hu3];(try simp (disch:=omega) only [zI]);repeat first | intro _ | refine ⟨by omega,?_⟩
     refine hK _ ?_;clear hK K;refine zw (zk [1,2,7,8,9,10,11,35]) ?_;simp only [go_sem]
     repeat refine zq ?_
     refine zd ?_
     repeat refine zq ?_
     refine zb fun K hK=>?_;simp only [go_sem,hq0];(try simp (disch:=omega) only [zI]);repeat first | intro _ | refine ⟨by omega,?_⟩
     refine hK _ ?_;clear hK K;refine zw (zk [1,2,7,8,9,10,11,75]) ?_;simp only [go_sem]
     repeat refine zq ?_
     refine zc rfl (fun hc=>?_) (fun hc=>?_) <;> (try simp only [go_sem] at hc)
     repeat refine zq ?_
     refine zb fun K hK=>?_;simp only [go_sem];(try simp (disch:=omega) only [zI]);repeat first | intro _ | refine ⟨by omega,?_⟩
     refine hK _ ?_;clear hK K;refine zw (zk [1,2,7,8,9,10,11,12]) ?_;simp only [go_sem]
     repeat refine zq ?_
     refine zd ?_
     refine awp_uptoV (n:=349) 2 (fun i vs=>[(1,.r (u8L bb)),(2,.r (it8 wh)),(7,.r (.rp (ruC r))),(8,.r (tabR (tabF r false))),(9,.r (tabR (tabF r true))),(10,.r (i64 0)),(11,.pt 11 (vs 11) 0),(12,.r (i64 (i : Int)))])
      (fun i vs=>if i = 0 then [(11,.box [.r (i64 r.d),.os 700 (vs 700) 2 0 2,.r (i64 r.start),.r (i64 r.out),.os 701 (vs 701) 2 0 r.ends.length]),(500,.arr 90 3 (x0.beds.map bedR)),(501,.arr 90 3 (x1.beds.map bedR)),(700,.ara 78 2 [.r (i64 x0.at_),.os 500 (vs 500) 3 0 x0.beds.length,.r (i64 x1.at_),.os 501 (vs 501) 3 0 x1.beds.length]),(701,.arr 52 2 (r.ends.map spanR))] else if i = 1 then [(11,.box [.r (i64 r.d),.os 700 (vs 700) 2 0 2,.r (i64 r.start),.r (i64 r.out),.os 701 (vs 701) 2 0 r.ends.length]),(500,.arr 90 3 ((narV nv r.d bb x0).beds.map bedR)),(501,.arr 90 3 (x1.beds.map bedR)),(700,.ara 78 2 [.r (i64 x0.at_),.os 500 (vs 500) 3 0 x0.beds.length,.r (i64 x1.at_),.os 501 (vs 501) 3 0 x1.beds.length]),(701,.arr 52 2 (r.ends.map spanR))] else [(11,.box [.r (i64 r.d),.os 700 (vs 700) 2 0 2,.r (i64 r.start),.r (i64 r.out),.os 701 (vs 701) 2 0 r.ends.length]),(500,.arr 90 3 ((narV nv r.d bb x0).beds.map bedR)),(501,.arr 90 3 ((narV nv r.d bb x1).beds.map bedR)),(700,.ara 78 2 [.r (i64 x0.at_),.os 500 (vs 500) 3 0 x0.beds.length,.r (i64 x1.at_),.os 501 (vs 501) 3 0 x1.beds.length]),(701,.arr 52 2 (r.ends.map spanR))]) (fun _=>True) 0 (zj [] ?_ ?_) (Nat.zero_le _) trivial ?_
     · try simp only [go_sem]
     · simp only [if_true]
       try simp only [go_sem]
     · intro i vs hi _
       rcases (show i = 0 ∨ i = 1 ∨ i = 2 by omega) with rfl | rfl | rfl
       · simp only [if_true]
         obtain ⟨hta3,htl,hte⟩:=htr x0 hm0
         simp only [aimR] at hta3
         repeat refine zq ?_
         refine zb fun K hK=>?_;simp only [go_sem,hrl3];(try simp (disch:=omega) only [zI]);repeat first | intro _ | refine ⟨by omega,?_⟩
         refine hK _ ?_;clear hK K;refine zw (zk [1,2,7,8,9,10,11,12,82]) ?_;simp only [go_sem]
         repeat refine zq ?_
         refine zc rfl (fun hc=>?_) (fun hc=>?_) <;> (try simp only [go_sem] at hc)
         refine zx ?_
         try simp only [go_sem]
         repeat refine zq ?_
         refine zd ?_
         repeat refine zq ?_
         refine zg follows (by decide +kernel) (by kernel_rfl) fun K hK=>?_;simp only [go_sem];(try simp (disch:=omega) only [zI])
         refine xcall_own (hta3) rfl (by simp only [go_sem,i64,ints]) (by simp only [go_sem,i64,ints]) (by decide) (by intro h; first | (cases h; done) | rfl) ?_
         (try simp only [go_sem]);(try simp (disch:=omega) only [zI]);repeat first | intro _ | refine ⟨by omega,?_⟩
         refine hK _ ?_;clear hK K;refine zw (sub_frz 13 95 (ty:=3) (sz:=1) (off:=0) (m:=(truthL x0.beds r.d bb).length) (es:=(truthL x0.beds r.d bb).map fun x=>[i64 x]) (by omega) rfl (by rfl) (by simp)) ?_
         have hT0 : (((truthL x0.beds r.d bb).map fun x=>[i64 x]).drop 0).take (truthL x0.beds r.d bb).length = (truthL x0.beds r.d bb).map fun x=>[i64 x]:=by
          rw [List.drop_zero,List.take_of_length_le (by simp)]
         rw [hT0]
         refine zw (zk [1,2,7,8,9,10,11,12,13]) ?_;simp only [go_sem]
         repeat refine zq ?_
         refine zb fun K hK=>?_;simp only [go_sem];(try simp (disch:=omega) only [zI]);repeat first | intro _ | refine ⟨by omega,?_⟩
         refine hK _ ?_;clear hK K;refine zw (zk [1,2,7,8,9,10,11,12,13,14]) ?_;simp only [go_sem]
         have hmx0:=mixB_zero nv x0.beds r.d bb
         obtain ⟨tl,htld⟩ : ∃ tl,tl = truthL x0.beds r.d bb:=⟨_,rfl⟩
         rw [← htld] at htl ⊢
         repeat refine zq ?_
         refine zd ?_
         refine awp_uptoV (n:=349) x0.beds.length (fun k vs=>[(1,.r (u8L bb)),(2,.r (it8 wh)),(7,.r (.rp (ruC r))),(8,.r (tabR (tabF r false))),(9,.r (tabR (tabF r true))),(10,.r (i64 0)),(11,.pt 11 (vs 11) 0),(12,.r (i64 (0 : Int))),(13,.r (ints tl)),(14,.r (i64 (k : Int)))])
          (fun k vs=>[(11,.box [.r (i64 r.d),.os 700 (vs 700) 2 0 2,.r (i64 r.start),.r (i64 r.out),.os 701 (vs 701) 2 0 r.ends.length]),(500,.arr 90 3 ((mixB nv x0.beds r.d bb k).map bedR)),(501,.arr 90 3 (x1.beds.map bedR)),(700,.ara 78 2 [.r (i64 x0.at_),.os 500 (vs 500) 3 0 x0.beds.length,.r (i64 x1.at_),.os 501 (vs 501) 3 0 x1.beds.length]),(701,.arr 52 2 (r.ends.map spanR))]) (fun _=>True) 0 (zj [] ?_ ?_) (Nat.zero_le _) trivial ?_
         · try simp only [go_sem]
         · simp only [hmx0]
           try simp only [go_sem]
         · intro k vs hk _
           repeat refine zq ?_
           refine zb fun K hK=>?_;simp only [go_sem,htl];(try simp (disch:=omega) only [zI]);repeat first | intro _ | refine ⟨by omega,?_⟩
           refine hK _ ?_;clear hK K;refine zw (zk [1,2,7,8,9,10,11,12,13,14,99]) ?_;simp only [go_sem]
           repeat refine zq ?_
           refine zc rfl (fun hc=>?_) (fun hc=>?_) <;> (try simp only [go_sem] at hc)
           · have hck : k < x0.beds.length:=by omega
             obtain ⟨bd,hbd⟩:=opt_of_lt hck
             have hbt : bAt x0.beds k = bd:=by simp [bAt,List.getD,hbd]
             have hck2 : k < tl.length:=by omega
             obtain ⟨t,ht⟩:=opt_of_lt hck2
             have htd : (truthL x0.beds r.d bb).getD k 0 = t:=by rw [← htld,List.getD_eq_getElem?_getD,ht]; rfl
             obtain ⟨⟨g1,g2⟩,g3,g4⟩:=hte k hck
             rw [hbt,htd] at g1 g2
             rw [hbt] at g3 g4
             have hMl:=mixB_len nv x0.beds r.d bb k
             have hMg : (mixB nv x0.beds r.d bb k)[k]? = some bd:=by rw [mixB_get hck,hbd]
             have hkl : k < (mixB nv x0.beds r.d bb k).length:=by omega
             refine zx ?_
             try simp only [go_sem]
             repeat refine zq ?_
             refine zd ?_
             obtain ⟨M,hM⟩ : ∃ M,M = mixB nv x0.beds r.d bb k:=⟨_,rfl⟩
             rw [← hM] at hMl hMg hkl ⊢
             have hme2 : bedR bd = [i64 bd.b,i64 bd.lo,i64 bd.hi]:=rfl
             have hset : ∀ z,((M.map bedR).set k z)[k]? = some z:=fun z=>List.getElem?_set_self (by simpa using hkl)
             have hsetD : ∀ z,((M.map bedR).set k z).getD k [] = z:=fun z=>by rw [List.getD_eq_getElem?_getD,hset]; rfl
             repeat refine zq ?_
             refine zb fun K hK=>?_;simp only [go_sem,hMl,hck,hkl];(try simp (disch:=omega) only [zI]);repeat first | intro _ | refine ⟨by omega,?_⟩
             refine hK _ ?_;clear hK K;refine zw (zk [1,2,7,8,9,10,11,12,13,14,15]) ?_;simp only [go_sem]
             by_cases h2 : wh % 2 = 0
             · have hnt : nv = true:=by rw [hnv]; simpa using h2
               have ht2 : wh.tmod 2 = 0:=by rw [htm2,h2]
               have hu2 : IntKind.u8.wrap 0 = 0:=by decide
               have hz2 : ((0 : Int) == 0) = true:=rfl
               have hMs : M.set k (narAt x0.beds r.d bb k) = mixB nv x0.beds r.d bb (k + 1):=by rw [hM,hnt]; exact mixB_set hck
               have hna : narAt x0.beds r.d bb k = ⟨bd.b,(bd.lo + t) / 2,t + (bd.hi - t) / 2⟩:=by unfold narAt; rw [hbt,htd]
               have hd1 : (bd.lo + t).tdiv 2 = (bd.lo + t) / 2:=Int.tdiv_eq_ediv_of_nonneg (by omega)
               have hd2 : (bd.hi - t).tdiv 2 = (bd.hi - t) / 2:=Int.tdiv_eq_ediv_of_nonneg (by omega)
               repeat refine zq ?_
               refine zb fun K hK=>?_;simp only [go_sem,ht2,hu2,hz2];(try simp (disch:=omega) only [zI]);repeat first | intro _ | refine ⟨by omega,?_⟩
               refine hK _ ?_;clear hK K;refine zw (zk [1,2,7,8,9,10,11,12,13,14,15,114]) ?_;simp only [go_sem]
               repeat refine zq ?_
               refine zc rfl (fun hc=>?_) (fun hc=>?_) <;> (try simp only [go_sem] at hc)
               repeat refine zq ?_
               refine awp_dreg2 [(15,some 500),(13,none),(14,none)] follows (by decide +kernel) (by kernel_rfl) (by simp only [keysOk,List.mem_cons,List.not_mem_nil,forall_eq_or_imp,Oc.keyOf,go_sem]; simp) fun K hK=>?_
               simp only [go_sem,hMg,hme2,hkl,ht,hck2,hd1,hd2,hset,hsetD,List.set_set,List.length_set];(try simp (disch:=omega) only [zI])
               try simp only [go_sem,hd1,hd2,hset,hsetD,List.set_set,List.length_set,List.length_map]
               try simp (disch:=omega) only [zI]
               try simp only [go_sem,hd1,hd2,hset,hsetD,List.set_set,List.length_set,List.length_map,List.take_succ_cons,List.take_zero,List.drop_succ_cons,List.drop_zero,List.cons_append,List.nil_append]
               try simp (disch:=omega) only [zI]
               repeat first | intro _ | refine ⟨by omega,?_⟩
               refine hK _ ?_;clear hK K;refine zw (zk [1,2,7,8,9,10,11,12,13,14]) ?_;simp only [go_sem]
               repeat refine zq ?_
               refine zb fun K hK=>?_;simp only [go_sem];(try simp (disch:=omega) only [zI]);repeat first | intro _ | refine ⟨by omega,?_⟩
               refine hK _ ?_;clear hK K
               try simp only [go_sem]
               refine ⟨by omega,zj [] ?_ ?_⟩
               · try simp only [go_sem]
               · try simp only [go_sem]
                 rw [← hMs,hna,List.map_set]
                 try rfl
             · have hnt : nv = false:=by rw [hnv]; simpa using h2
               have ht2 : wh.tmod 2 = 1:=by rw [htm2]; omega
               have hu2 : IntKind.u8.wrap 1 = 1:=by decide
               have hz2 : ((1 : Int) == 0) = false:=rfl
               have hMs : mixB nv x0.beds r.d bb (k + 1) = M:=by rw [hM,hnt]; rfl
               repeat refine zq ?_
               refine zb fun K hK=>?_;simp only [go_sem,ht2,hu2,hz2];(try simp (disch:=omega) only [zI]);repeat first | intro _ | refine ⟨by omega,?_⟩
               refine hK _ ?_;clear hK K;refine zw (zk [1,2,7,8,9,10,11,12,13,14,15,114]) ?_;simp only [go_sem]
               repeat refine zq ?_
               refine zc rfl (fun hc=>?_) (fun hc=>?_) <;> (try simp only [go_sem] at hc)
               refine zx ?_
               try simp only [go_sem]
               repeat refine zq ?_
               refine zb fun K hK=>?_;simp only [go_sem];(try simp (disch:=omega) only [zI]);repeat first | intro _ | refine ⟨by omega,?_⟩
               refine hK _ ?_;clear hK K
               try simp only [go_sem]
               refine ⟨by omega,zj [] ?_ ?_⟩
               · try simp only [go_sem]
               · try simp only [go_sem]
                 rw [hMs]
           · have hke : k = x0.beds.length:=by omega
             subst hke
             rw [mixB_full]
             refine zf ?_;simp only [go_sem]
             repeat refine zq ?_
             refine zb fun K hK=>?_;simp only [go_sem];(try simp (disch:=omega) only [zI]);repeat first | intro _ | refine ⟨by omega,?_⟩
             refine hK _ ?_;clear hK K
             try simp only [go_sem]
             refine zj [] ?_ ?_
             · try simp only [go_sem]
             · try simp only [if_neg (show ¬ (0 + 1 : Nat) = 0 by omega),if_true]
               try simp only [go_sem]
       · simp only [if_neg (show ¬ (1 : Nat) = 0 by omega),if_true]
         obtain ⟨hta3,htl,hte⟩:=htr x1 hm1
         simp only [aimR] at hta3
         repeat refine zq ?_
         refine zb fun K hK=>?_;simp only [go_sem,hrl3];(try simp (disch:=omega) only [zI]);repeat first | intro _ | refine ⟨by omega,?_⟩
         refine hK _ ?_;clear hK K;refine zw (zk [1,2,7,8,9,10,11,12,82]) ?_;simp only [go_sem]
         repeat refine zq ?_
         refine zc rfl (fun hc=>?_) (fun hc=>?_) <;> (try simp only [go_sem] at hc)
         refine zx ?_
         try simp only [go_sem]
         repeat refine zq ?_
         refine zd ?_
         repeat refine zq ?_
         refine zg follows (by decide +kernel) (by kernel_rfl) fun K hK=>?_;simp only [go_sem];(try simp (disch:=omega) only [zI])
         refine xcall_own (hta3) rfl (by simp only [go_sem,i64,ints]) (by simp only [go_sem,i64,ints]) (by decide) (by intro h; first | (cases h; done) | rfl) ?_
         (try simp only [go_sem]);(try simp (disch:=omega) only [zI]);repeat first | intro _ | refine ⟨by omega,?_⟩
         refine hK _ ?_;clear hK K;refine zw (sub_frz 13 95 (ty:=3) (sz:=1) (off:=0) (m:=(truthL x1.beds r.d bb).length) (es:=(truthL x1.beds r.d bb).map fun x=>[i64 x]) (by omega) rfl (by rfl) (by simp)) ?_
         have hT0 : (((truthL x1.beds r.d bb).map fun x=>[i64 x]).drop 0).take (truthL x1.beds r.d bb).length = (truthL x1.beds r.d bb).map fun x=>[i64 x]:=by
          rw [List.drop_zero,List.take_of_length_le (by simp)]
         rw [hT0]
         refine zw (zk [1,2,7,8,9,10,11,12,13]) ?_;simp only [go_sem]
         repeat refine zq ?_
         refine zb fun K hK=>?_;simp only [go_sem];(try simp (disch:=omega) only [zI]);repeat first | intro _ | refine ⟨by omega,?_⟩
         refine hK _ ?_;clear hK K;refine zw (zk [1,2,7,8,9,10,11,12,13,14]) ?_;simp only [go_sem]
         have hmx0:=mixB_zero nv x1.beds r.d bb
         obtain ⟨tl,htld⟩ : ∃ tl,tl = truthL x1.beds r.d bb:=⟨_,rfl⟩
         rw [← htld] at htl ⊢
         repeat refine zq ?_
         refine zd ?_
         refine awp_uptoV (n:=349) x1.beds.length (fun k vs=>[(1,.r (u8L bb)),(2,.r (it8 wh)),(7,.r (.rp (ruC r))),(8,.r (tabR (tabF r false))),(9,.r (tabR (tabF r true))),(10,.r (i64 0)),(11,.pt 11 (vs 11) 0),(12,.r (i64 (1 : Int))),(13,.r (ints tl)),(14,.r (i64 (k : Int)))])
          (fun k vs=>[(11,.box [.r (i64 r.d),.os 700 (vs 700) 2 0 2,.r (i64 r.start),.r (i64 r.out),.os 701 (vs 701) 2 0 r.ends.length]),(500,.arr 90 3 ((narV nv r.d bb x0).beds.map bedR)),(501,.arr 90 3 ((mixB nv x1.beds r.d bb k).map bedR)),(700,.ara 78 2 [.r (i64 x0.at_),.os 500 (vs 500) 3 0 x0.beds.length,.r (i64 x1.at_),.os 501 (vs 501) 3 0 x1.beds.length]),(701,.arr 52 2 (r.ends.map spanR))]) (fun _=>True) 0 (zj [] ?_ ?_) (Nat.zero_le _) trivial ?_
         · try simp only [go_sem]
         · simp only [hmx0]
           try simp only [go_sem]
         · intro k vs hk _
           repeat refine zq ?_
           refine zb fun K hK=>?_;simp only [go_sem,htl];(try simp (disch:=omega) only [zI]);repeat first | intro _ | refine ⟨by omega,?_⟩
           refine hK _ ?_;clear hK K;refine zw (zk [1,2,7,8,9,10,11,12,13,14,99]) ?_;simp only [go_sem]
           repeat refine zq ?_
           refine zc rfl (fun hc=>?_) (fun hc=>?_) <;> (try simp only [go_sem] at hc)
           · have hck : k < x1.beds.length:=by omega
             obtain ⟨bd,hbd⟩:=opt_of_lt hck
             have hbt : bAt x1.beds k = bd:=by simp [bAt,List.getD,hbd]
             have hck2 : k < tl.length:=by omega
             obtain ⟨t,ht⟩:=opt_of_lt hck2
             have htd : (truthL x1.beds r.d bb).getD k 0 = t:=by rw [← htld,List.getD_eq_getElem?_getD,ht]; rfl
             obtain ⟨⟨g1,g2⟩,g3,g4⟩:=hte k hck
             rw [hbt,htd] at g1 g2
             rw [hbt] at g3 g4
             have hMl:=mixB_len nv x1.beds r.d bb k
             have hMg : (mixB nv x1.beds r.d bb k)[k]? = some bd:=by rw [mixB_get hck,hbd]
             have hkl : k < (mixB nv x1.beds r.d bb k).length:=by omega
             refine zx ?_
             try simp only [go_sem]
             repeat refine zq ?_
             refine zd ?_
             obtain ⟨M,hM⟩ : ∃ M,M = mixB nv x1.beds r.d bb k:=⟨_,rfl⟩
             rw [← hM] at hMl hMg hkl ⊢
             have hme2 : bedR bd = [i64 bd.b,i64 bd.lo,i64 bd.hi]:=rfl
             have hset : ∀ z,((M.map bedR).set k z)[k]? = some z:=fun z=>List.getElem?_set_self (by simpa using hkl)
             have hsetD : ∀ z,((M.map bedR).set k z).getD k [] = z:=fun z=>by rw [List.getD_eq_getElem?_getD,hset]; rfl
             repeat refine zq ?_
             refine zb fun K hK=>?_;simp only [go_sem,hMl,hck,hkl];(try simp (disch:=omega) only [zI]);repeat first | intro _ | refine ⟨by omega,?_⟩
             refine hK _ ?_;clear hK K;refine zw (zk [1,2,7,8,9,10,11,12,13,14,15]) ?_;simp only [go_sem]
             by_cases h2 : wh % 2 = 0
             · have hnt : nv = true:=by rw [hnv]; simpa using h2
               have ht2 : wh.tmod 2 = 0:=by rw [htm2,h2]
               have hu2 : IntKind.u8.wrap 0 = 0:=by decide
               have hz2 : ((0 : Int) == 0) = true:=rfl
               have hMs : M.set k (narAt x1.beds r.d bb k) = mixB nv x1.beds r.d bb (k + 1):=by rw [hM,hnt]; exact mixB_set hck
               have hna : narAt x1.beds r.d bb k = ⟨bd.b,(bd.lo + t) / 2,t + (bd.hi - t) / 2⟩:=by unfold narAt; rw [hbt,htd]
               have hd1 : (bd.lo + t).tdiv 2 = (bd.lo + t) / 2:=Int.tdiv_eq_ediv_of_nonneg (by omega)
               have hd2 : (bd.hi - t).tdiv 2 = (bd.hi - t) / 2:=Int.tdiv_eq_ediv_of_nonneg (by omega)
               repeat refine zq ?_
               refine zb fun K hK=>?_;simp only [go_sem,ht2,hu2,hz2];(try simp (disch:=omega) only [zI]);repeat first | intro _ | refine ⟨by omega,?_⟩
               refine hK _ ?_;clear hK K;refine zw (zk [1,2,7,8,9,10,11,12,13,14,15,114]) ?_;simp only [go_sem]
               repeat refine zq ?_
               refine zc rfl (fun hc=>?_) (fun hc=>?_) <;> (try simp only [go_sem] at hc)
               repeat refine zq ?_
               refine awp_dreg2 [(15,some 501),(13,none),(14,none)] follows (by decide +kernel) (by kernel_rfl) (by simp only [keysOk,List.mem_cons,List.not_mem_nil,forall_eq_or_imp,Oc.keyOf,go_sem]; simp) fun K hK=>?_
               simp only [go_sem,hMg,hme2,hkl,ht,hck2,hd1,hd2,hset,hsetD,List.set_set,List.length_set];(try simp (disch:=omega) only [zI])
               try simp only [go_sem,hd1,hd2,hset,hsetD,List.set_set,List.length_set,List.length_map]
               try simp (disch:=omega) only [zI]
               try simp only [go_sem,hd1,hd2,hset,hsetD,List.set_set,List.length_set,List.length_map,List.take_succ_cons,List.take_zero,List.drop_succ_cons,List.drop_zero,List.cons_append,List.nil_append]
               try simp (disch:=omega) only [zI]
               repeat first | intro _ | refine ⟨by omega,?_⟩
               refine hK _ ?_;clear hK K;refine zw (zk [1,2,7,8,9,10,11,12,13,14]) ?_;simp only [go_sem]
               repeat refine zq ?_
               refine zb fun K hK=>?_;simp only [go_sem];(try simp (disch:=omega) only [zI]);repeat first | intro _ | refine ⟨by omega,?_⟩
               refine hK _ ?_;clear hK K
               try simp only [go_sem]
               refine ⟨by omega,zj [] ?_ ?_⟩
               · try simp only [go_sem]
               · try simp only [go_sem]
                 rw [← hMs,hna,List.map_set]
                 try rfl
             · have hnt : nv = false:=by rw [hnv]; simpa using h2
               have ht2 : wh.tmod 2 = 1:=by rw [htm2]; omega
               have hu2 : IntKind.u8.wrap 1 = 1:=by decide
               have hz2 : ((1 : Int) == 0) = false:=rfl
               have hMs : mixB nv x1.beds r.d bb (k + 1) = M:=by rw [hM,hnt]; rfl
               repeat refine zq ?_
               refine zb fun K hK=>?_;simp only [go_sem,ht2,hu2,hz2];(try simp (disch:=omega) only [zI]);repeat first | intro _ | refine ⟨by omega,?_⟩
               refine hK _ ?_;clear hK K;refine zw (zk [1,2,7,8,9,10,11,12,13,14,15,114]) ?_;simp only [go_sem]
               repeat refine zq ?_
               refine zc rfl (fun hc=>?_) (fun hc=>?_) <;> (try simp only [go_sem] at hc)
               refine zx ?_
               try simp only [go_sem]
               repeat refine zq ?_
               refine zb fun K hK=>?_;simp only [go_sem];(try simp (disch:=omega) only [zI]);repeat first | intro _ | refine ⟨by omega,?_⟩
               refine hK _ ?_;clear hK K
               try simp only [go_sem]
               refine ⟨by omega,zj [] ?_ ?_⟩
               · try simp only [go_sem]
               · try simp only [go_sem]
                 rw [hMs]
           · have hke : k = x1.beds.length:=by omega
             subst hke
             rw [mixB_full]
             refine zf ?_;simp only [go_sem]
             repeat refine zq ?_
             refine zb fun K hK=>?_;simp only [go_sem];(try simp (disch:=omega) only [zI]);repeat first | intro _ | refine ⟨by omega,?_⟩
             refine hK _ ?_;clear hK K
             try simp only [go_sem]
             refine zj [] ?_ ?_
             · try simp only [go_sem]
             · try simp only [if_neg (show ¬ (1 + 1 : Nat) = 0 by omega),if_neg (show ¬ (1 + 1 : Nat) = 1 by omega)]
               try simp only [go_sem]
       · simp only [if_neg (show ¬ (2 : Nat) = 0 by omega),if_neg (show ¬ (2 : Nat) = 1 by omega)]
         repeat refine zq ?_
         refine zb fun K hK=>?_;simp only [go_sem,hrl3];(try simp (disch:=omega) only [zI]);repeat first | intro _ | refine ⟨by omega,?_⟩
         refine hK _ ?_;clear hK K;refine zw (zk [1,2,7,8,9,10,11,12,82]) ?_;simp only [go_sem]
         repeat refine zq ?_
         refine zc rfl (fun hc=>?_) (fun hc=>?_) <;> (try simp only [go_sem] at hc)
         refine zf ?_;simp only [go_sem]
         have hvl0 : (narV nv r.d bb x0).beds.length = x0.beds.length:=by rw [← mixB_full,mixB_len]
         refine zw (sub_frzBA 700 1 500 (ty:=90) (sz:=3) (off:=0) (m:=x0.beds.length) (es:=(narV nv r.d bb x0).beds.map bedR) (by omega) (by omega) rfl (by simp only [go_sem,List.getElem?_cons_succ,List.getElem?_cons_zero]) (by rfl) (by simp [hvl0])) ?_
         have ev0 : (((narV nv r.d bb x0).beds.map bedR).drop 0).take x0.beds.length = (narV nv r.d bb x0).beds.map bedR:=by
          rw [List.drop_zero,List.take_of_length_le (by simp [hvl0])]
         rw [ev0]
         simp only [go_sem,List.set_cons_zero,List.set_cons_succ]
         have hvl1 : (narV nv r.d bb x1).beds.length = x1.beds.length:=by rw [← mixB_full,mixB_len]
         refine zw (sub_frzBA 700 3 501 (ty:=90) (sz:=3) (off:=0) (m:=x1.beds.length) (es:=(narV nv r.d bb x1).beds.map bedR) (by omega) (by omega) rfl (by simp only [go_sem,List.getElem?_cons_succ,List.getElem?_cons_zero]) (by rfl) (by simp [hvl1])) ?_
         have ev1 : (((narV nv r.d bb x1).beds.map bedR).drop 0).take x1.beds.length = (narV nv r.d bb x1).beds.map bedR:=by
          rw [List.drop_zero,List.take_of_length_le (by simp [hvl1])]
         rw [ev1]
         simp only [go_sem,List.set_cons_zero,List.set_cons_succ];refine zw (sub_arr 700 [[i64 x0.at_,bedsR (narV nv r.d bb x0).beds],[i64 x1.at_,bedsR (narV nv r.d bb x1).beds]] rfl (by rfl) (by simp) (by omega)) ?_
         try simp only [go_sem]
         refine zw (sub_frzB 11 1 700 (ty:=78) (sz:=2) (off:=0) (m:=2) (es:=[[i64 x0.at_,bedsR (narV nv r.d bb x0).beds],[i64 x1.at_,bedsR (narV nv r.d bb x1).beds]]) (by omega) (by omega) rfl (by simp only [go_sem,List.getElem?_cons_succ,List.getElem?_cons_zero]) (by rfl) (by simp)) ?_
         have hA : (([[i64 x0.at_,bedsR (narV nv r.d bb x0).beds],[i64 x1.at_,bedsR (narV nv r.d bb x1).beds]] : List (List RV)).drop 0).take 2 = (r.aims.map (narV nv r.d bb)).map aimR:=by
          rw [hr]; simp [aimR,narV_at]
         rw [hA]
         simp only [go_sem,List.set_cons_zero,List.set_cons_succ]
         have hfrz : True:=trivial
         repeat refine zq ?_
         refine zb fun K hK=>?_;simp only [go_sem];(try simp (disch:=omega) only [zI]);repeat first | intro _ | refine ⟨by omega,?_⟩
         refine hK _ ?_;clear hK K;refine zw (zk [2,7,8,9,10,11,16]) ?_;simp only [go_sem]
         repeat refine zq ?_
         refine zd ?_
         refine awp_uptoV (n:=349) r.ends.length (fun k vs=>[(2,.r (it8 wh)),(7,.r (.rp (ruC r))),(8,.r (tabR (tabF r false))),(9,.r (tabR (tabF r true))),(10,.r (i64 0)),(11,.pt 11 (vs 11) 0),(16,.r (i64 (k : Int)))])
          (fun k vs=>[(11,.box [.r (i64 r.d),.r (aimsR (r.aims.map (narV nv r.d bb))),.r (i64 r.start),.r (i64 r.out),.os 701 (vs 701) 2 0 r.ends.length]),(701,.arr 52 2 (((r.ends.take k).map narE ++ r.ends.drop k).map spanR))]) (fun _=>True) 0 (zj [] ?_ ?_) (Nat.zero_le _) trivial ?_
         · try simp only [go_sem]
         · try simp only [go_sem]
         · intro k vs hk _
           repeat refine zq ?_
           refine zb fun K hK=>?_;simp only [go_sem];(try simp (disch:=omega) only [zI]);repeat first | intro _ | refine ⟨by omega,?_⟩
           refine hK _ ?_;clear hK K;refine zw (zk [2,7,8,9,10,11,16,150]) ?_;simp only [go_sem]
           repeat refine zq ?_
           refine zc rfl (fun hc=>?_) (fun hc=>?_) <;> (try simp only [go_sem] at hc)
           · have hck : k < r.ends.length:=by omega
             obtain ⟨e,hek⟩:=opt_of_lt hck
             obtain ⟨q1,q2,q3⟩:=endOk_le (hG.ends e (mem_of_opt hek))
             have hLe:=map_mix_get (f:=narE) hek
             have hLs:=map_mix (f:=narE) hek
             have hLl:=map_mix_len (f:=narE) (l:=r.ends) (k:=k)
             generalize (r.ends.take k).map narE ++ r.ends.drop k = L at hLe hLs hLl ⊢
             have hkl : k < L.length:=by omega
             have hme : (L.map spanR)[k]? = some [i64 e.1,i64 e.2]:=by simp [hLe,spanR]
             have hme1 : L[k]? = some e:=hLe
             have hme2 : spanR e = [i64 e.1,i64 e.2]:=rfl
             have hset : ∀ x,((L.map spanR).set k x)[k]? = some x:=fun x=>List.getElem?_set_self (by simpa using hkl)
             have hsetD : ∀ x,((L.map spanR).set k x).getD k [] = x:=fun x=>by rw [List.getD_eq_getElem?_getD,hset]; rfl
             have hw18 : IntKind.i64.wrap (e.2 - e.1) = e.2 - e.1:=by rw [zI] <;> omega
             have hd19 : (e.2 - e.1).tdiv 3 = (e.2 - e.1) / 3:=Int.tdiv_eq_ediv_of_nonneg (by omega)
             have hw19 : IntKind.i64.wrap ((e.2 - e.1) / 3) = (e.2 - e.1) / 3:=by rw [zI] <;> omega
             have hw20 : IntKind.i64.wrap (e.1 + (e.2 - e.1) / 3) = e.1 + (e.2 - e.1) / 3:=by rw [zI] <;> omega
             refine zx ?_
             try simp only [go_sem]
             repeat refine zq ?_
             refine zd ?_
             repeat refine zq ?_
             refine awp_dreg2 [(11,some 11),(16,none)] follows (by decide +kernel) (by kernel_rfl) (by simp only [keysOk,List.mem_cons,List.not_mem_nil,forall_eq_or_imp,Oc.keyOf,go_sem]; simp) fun K hK=>?_
             simp only [go_sem,hme1,hme2,hkl,hck,hd19,hLl];(try simp (disch:=omega) only [zI])
             try simp only [go_sem,hw18,hd19,hw19,hw20]
             try simp (disch:=omega) only [zI]
             repeat first | intro _ | refine ⟨by omega,?_⟩
             refine hK _ ?_;clear hK K;refine zw (zk [2,7,8,9,10,11,16]) ?_;simp only [go_sem]
             repeat refine zq ?_
             refine zb fun K hK=>?_;simp only [go_sem];(try simp (disch:=omega) only [zI]);repeat first | intro _ | refine ⟨by omega,?_⟩
             refine hK _ ?_;clear hK K
             try simp only [go_sem]
             refine ⟨by omega,zj [] ?_ ?_⟩
             · try simp only [go_sem]
             · try simp only [go_sem]
               rw [← hLs,List.map_set]
               rfl
           · have hke : k = r.ends.length:=by omega
             subst hke
             have hLe : (r.ends.take r.ends.length).map narE ++ r.ends.drop r.ends.length = r.ends.map narE:=by rw [List.take_length,List.drop_length,List.append_nil]
             rw [hLe]
             refine zf ?_;simp only [go_sem]
             try simp only [go_sem]
             refine ⟨narRv nv r bb,hbet,fitV_sub (sub_frzB 11 4 701 (ty:=52) (sz:=2) (off:=0) (m:=r.ends.length) (es:=(r.ends.map narE).map spanR) (by omega) (by omega) rfl (by simp only [go_sem,List.getElem?_cons_succ,List.getElem?_cons_zero]) (by rfl) (by simp)) ?_⟩
             have e2 : (((r.ends.map narE).map spanR).drop 0).take r.ends.length = (r.ends.map narE).map spanR:=by
              rw [List.drop_zero,List.take_of_length_le (by simp)]
             rw [e2]
             refine fitV_sub (sub_frzP 11 11 (ruC (narRv nv r bb)) (by omega) rfl (by simp only [go_sem,narRv,moreR,lessR,hfrz])) (zj [] ?_ ?_)
             · try simp only [go_sem]
             · try simp only [go_sem]
   · skip
     have hm0 : x0 ∈ r.aims:=by rw [hr]; simp
     have hm1 : x1 ∈ r.aims:=by rw [hr]; simp
     have hm2 : x2 ∈ r.aims:=by rw [hr]; simp
     have hn0 : r.aims[0]? = some x0:=by rw [hr]; rfl
     have hn1 : r.aims[1]? = some x1:=by rw [hr]; rfl
     have hn2 : r.aims[2]? = some x2:=by rw [hr]; rfl
     have hrl3 : r.aims.length = 3:=by rw [hr]; rfl
     have hnew:=rules_newA3 r x0 x1 x2 hr e1 (by omega) (hbl x0 hm0) (hbl x1 hm1) (hbl x2 hm2)
     repeat refine zq ?_
     refine awp_long ?_
     refine sops_take 2 (by kernel_rfl) fun K hK=>?_
     simp only [go_sem,List.take_succ_cons,List.take_zero,List.drop_succ_cons,List.drop_zero,List.append_eq,List.cons_append,List.nil_append];(try simp (disch:=omega) only [zI])
     refine xcall_new hnew [(10,701),(38,700),(500,500),(501,501),(502,502)] rfl (by rfl) (by rfl) (by rfl) (by rfl) (by rfl) ?_
     simp only [go_sem,idK,backA,backC,backL,pinOf,lendKey];repeat first | intro _ | refine ⟨by omega,?_⟩
     refine hK _ rfl ?_
     clear hK K
     refine sops_end (by kernel_rfl) fun K hK=>?_
     simp only [go_sem,List.drop_succ_cons,List.drop_zero,List.append_eq,List.cons_append,List.nil_append];(try simp (disch:=omega) only [zI]);repeat first | intro _ | refine ⟨by omega,?_⟩
     refine hK _ ?_;clear hK K;refine zw (zk [1,2,7,8,9,10,11]) ?_;simp only [go_sem]
     repeat refine zq ?_
     refine zb fun K hK=>?_;simp only [go_sem,ht3,hu3];(try simp (disch:=omega) only [zI]);repeat first | intro _ | refine ⟨by omega,?_⟩
     refine hK _ ?_;clear hK K;refine zw (zk [1,2,7,8,9,10,11,35]) ?_;simp only [go_sem]
     repeat refine zq ?_
     refine zd ?_
     repeat refine zq ?_
     refine zb fun K hK=>?_;simp only [go_sem,hq0];(try simp (disch:=omega) only [zI]);repeat first | intro _ | refine ⟨by omega,?_⟩
     refine hK _ ?_;clear hK K;refine zw (zk [1,2,7,8,9,10,11,75]) ?_;simp only [go_sem]
     repeat refine zq ?_
     refine zc rfl (fun hc=>?_) (fun hc=>?_) <;> (try simp only [go_sem] at hc)
     repeat refine zq ?_
     refine zb fun K hK=>?_;simp only [go_sem];(try simp (disch:=omega) only [zI]);repeat first | intro _ | refine ⟨by omega,?_⟩
     refine hK _ ?_;clear hK K;refine zw (zk [1,2,7,8,9,10,11,12]) ?_;simp only [go_sem]
     repeat refine zq ?_
     refine zd ?_
     refine awp_uptoV (n:=349) 3 (fun i vs=>[(1,.r (u8L bb)),(2,.r (it8 wh)),(7,.r (.rp (ruC r))),(8,.r (tabR (tabF r false))),(9,.r (tabR (tabF r true))),(10,.r (i64 0)),(11,.pt 11 (vs 11) 0),(12,.r (i64 (i : Int)))])
      (fun i vs=>if i = 0 then [(11,.box [.r (i64 r.d),.os 700 (vs 700) 2 0 3,.r (i64 r.start),.r (i64 r.out),.os 701 (vs 701) 2 0 r.ends.length]),(500,.arr 90 3 (x0.beds.map bedR)),(501,.arr 90 3 (x1.beds.map bedR)),(502,.arr 90 3 (x2.beds.map bedR)),(700,.ara 78 2 [.r (i64 x0.at_),.os 500 (vs 500) 3 0 x0.beds.length,.r (i64 x1.at_),.os 501 (vs 501) 3 0 x1.beds.length,.r (i64 x2.at_),.os 502 (vs 502) 3 0 x2.beds.length]),(701,.arr 52 2 (r.ends.map spanR))] else if i = 1 then [(11,.box [.r (i64 r.d),.os 700 (vs 700) 2 0 3,.r (i64 r.start),.r (i64 r.out),.os 701 (vs 701) 2 0 r.ends.length]),(500,.arr 90 3 ((narV nv r.d bb x0).beds.map bedR)),(501,.arr 90 3 (x1.beds.map bedR)),(502,.arr 90 3 (x2.beds.map bedR)),(700,.ara 78 2 [.r (i64 x0.at_),.os 500 (vs 500) 3 0 x0.beds.length,.r (i64 x1.at_),.os 501 (vs 501) 3 0 x1.beds.length,.r (i64 x2.at_),.os 502 (vs 502) 3 0 x2.beds.length]),(701,.arr 52 2 (r.ends.map spanR))] else if i = 2 then [(11,.box [.r (i64 r.d),.os 700 (vs 700) 2 0 3,.r (i64 r.start),.r (i64 r.out),.os 701 (vs 701) 2 0 r.ends.length]),(500,.arr 90 3 ((narV nv r.d bb x0).beds.map bedR)),(501,.arr 90 3 ((narV nv r.d bb x1).beds.map bedR)),(502,.arr 90 3 (x2.beds.map bedR)),(700,.ara 78 2 [.r (i64 x0.at_),.os 500 (vs 500) 3 0 x0.beds.length,.r (i64 x1.at_),.os 501 (vs 501) 3 0 x1.beds.length,.r (i64 x2.at_),.os 502 (vs 502) 3 0 x2.beds.length]),(701,.arr 52 2 (r.ends.map spanR))] else [(11,.box [.r (i64 r.d),.os 700 (vs 700) 2 0 3,.r (i64 r.start),.r (i64 r.out),.os 701 (vs 701) 2 0 r.ends.length]),(500,.arr 90 3 ((narV nv r.d bb x0).beds.map bedR)),(501,.arr 90 3 ((narV nv r.d bb x1).beds.map bedR)),(502,.arr 90 3 ((narV nv r.d bb x2).beds.map bedR)),(700,.ara 78 2 [.r (i64 x0.at_),.os 500 (vs 500) 3 0 x0.beds.length,.r (i64 x1.at_),.os 501 (vs 501) 3 0 x1.beds.length,.r (i64 x2.at_),.os 502 (vs 502) 3 0 x2.beds.length]),(701,.arr 52 2 (r.ends.map spanR))]) (fun _=>True) 0 (zj [] ?_ ?_) (Nat.zero_le _) trivial ?_
     · try simp only [go_sem]
     · simp only [if_true]
       try simp only [go_sem]
     · intro i vs hi _
       rcases (show i = 0 ∨ i = 1 ∨ i = 2 ∨ i = 3 by omega) with rfl | rfl | rfl | rfl
       · simp only [if_true]
         obtain ⟨hta3,htl,hte⟩:=htr x0 hm0
         simp only [aimR] at hta3
         repeat refine zq ?_
         refine zb fun K hK=>?_;simp only [go_sem,hrl3];(try simp (disch:=omega) only [zI]);repeat first | intro _ | refine ⟨by omega,?_⟩
         refine hK _ ?_;clear hK K;refine zw (zk [1,2,7,8,9,10,11,12,82]) ?_;simp only [go_sem]
         repeat refine zq ?_
         refine zc rfl (fun hc=>?_) (fun hc=>?_) <;> (try simp only [go_sem] at hc)
         refine zx ?_
         try simp only [go_sem]
         repeat refine zq ?_
         refine zd ?_
         repeat refine zq ?_
         refine zg follows (by decide +kernel) (by kernel_rfl) fun K hK=>?_;simp only [go_sem];(try simp (disch:=omega) only [zI])
         refine xcall_own (hta3) rfl (by simp only [go_sem,i64,ints]) (by simp only [go_sem,i64,ints]) (by decide) (by intro h; first | (cases h; done) | rfl) ?_
         (try simp only [go_sem]);(try simp (disch:=omega) only [zI]);repeat first | intro _ | refine ⟨by omega,?_⟩
         refine hK _ ?_;clear hK K;refine zw (sub_frz 13 95 (ty:=3) (sz:=1) (off:=0) (m:=(truthL x0.beds r.d bb).length) (es:=(truthL x0.beds r.d bb).map fun x=>[i64 x]) (by omega) rfl (by rfl) (by simp)) ?_
         have hT0 : (((truthL x0.beds r.d bb).map fun x=>[i64 x]).drop 0).take (truthL x0.beds r.d bb).length = (truthL x0.beds r.d bb).map fun x=>[i64 x]:=by
          rw [List.drop_zero,List.take_of_length_le (by simp)]
         rw [hT0]
         refine zw (zk [1,2,7,8,9,10,11,12,13]) ?_;simp only [go_sem]
         repeat refine zq ?_
         refine zb fun K hK=>?_;simp only [go_sem];(try simp (disch:=omega) only [zI]);repeat first | intro _ | refine ⟨by omega,?_⟩
         refine hK _ ?_;clear hK K;refine zw (zk [1,2,7,8,9,10,11,12,13,14]) ?_;simp only [go_sem]
         have hmx0:=mixB_zero nv x0.beds r.d bb
         obtain ⟨tl,htld⟩ : ∃ tl,tl = truthL x0.beds r.d bb:=⟨_,rfl⟩
         rw [← htld] at htl ⊢
         repeat refine zq ?_
         refine zd ?_
         refine awp_uptoV (n:=349) x0.beds.length (fun k vs=>[(1,.r (u8L bb)),(2,.r (it8 wh)),(7,.r (.rp (ruC r))),(8,.r (tabR (tabF r false))),(9,.r (tabR (tabF r true))),(10,.r (i64 0)),(11,.pt 11 (vs 11) 0),(12,.r (i64 (0 : Int))),(13,.r (ints tl)),(14,.r (i64 (k : Int)))])
          (fun k vs=>[(11,.box [.r (i64 r.d),.os 700 (vs 700) 2 0 3,.r (i64 r.start),.r (i64 r.out),.os 701 (vs 701) 2 0 r.ends.length]),(500,.arr 90 3 ((mixB nv x0.beds r.d bb k).map bedR)),(501,.arr 90 3 (x1.beds.map bedR)),(502,.arr 90 3 (x2.beds.map bedR)),(700,.ara 78 2 [.r (i64 x0.at_),.os 500 (vs 500) 3 0 x0.beds.length,.r (i64 x1.at_),.os 501 (vs 501) 3 0 x1.beds.length,.r (i64 x2.at_),.os 502 (vs 502) 3 0 x2.beds.length]),(701,.arr 52 2 (r.ends.map spanR))]) (fun _=>True) 0 (zj [] ?_ ?_) (Nat.zero_le _) trivial ?_
         · try simp only [go_sem]
         · simp only [hmx0]
           try simp only [go_sem]
         · intro k vs hk _
           repeat refine zq ?_
           refine zb fun K hK=>?_;simp only [go_sem,htl];(try simp (disch:=omega) only [zI]);repeat first | intro _ | refine ⟨by omega,?_⟩
           refine hK _ ?_;clear hK K;refine zw (zk [1,2,7,8,9,10,11,12,13,14,99]) ?_;simp only [go_sem]
           repeat refine zq ?_
           refine zc rfl (fun hc=>?_) (fun hc=>?_) <;> (try simp only [go_sem] at hc)
           · have hck : k < x0.beds.length:=by omega
             obtain ⟨bd,hbd⟩:=opt_of_lt hck
             have hbt : bAt x0.beds k = bd:=by simp [bAt,List.getD,hbd]
             have hck2 : k < tl.length:=by omega
             obtain ⟨t,ht⟩:=opt_of_lt hck2
             have htd : (truthL x0.beds r.d bb).getD k 0 = t:=by rw [← htld,List.getD_eq_getElem?_getD,ht]; rfl
             obtain ⟨⟨g1,g2⟩,g3,g4⟩:=hte k hck
             rw [hbt,htd] at g1 g2
             rw [hbt] at g3 g4
             have hMl:=mixB_len nv x0.beds r.d bb k
             have hMg : (mixB nv x0.beds r.d bb k)[k]? = some bd:=by rw [mixB_get hck,hbd]
             have hkl : k < (mixB nv x0.beds r.d bb k).length:=by omega
             refine zx ?_
             try simp only [go_sem]
             repeat refine zq ?_
             refine zd ?_
             obtain ⟨M,hM⟩ : ∃ M,M = mixB nv x0.beds r.d bb k:=⟨_,rfl⟩
             rw [← hM] at hMl hMg hkl ⊢
             have hme2 : bedR bd = [i64 bd.b,i64 bd.lo,i64 bd.hi]:=rfl
             have hset : ∀ z,((M.map bedR).set k z)[k]? = some z:=fun z=>List.getElem?_set_self (by simpa using hkl)
             have hsetD : ∀ z,((M.map bedR).set k z).getD k [] = z:=fun z=>by rw [List.getD_eq_getElem?_getD,hset]; rfl
             repeat refine zq ?_
             refine zb fun K hK=>?_;simp only [go_sem,hMl,hck,hkl];(try simp (disch:=omega) only [zI]);repeat first | intro _ | refine ⟨by omega,?_⟩
             refine hK _ ?_;clear hK K;refine zw (zk [1,2,7,8,9,10,11,12,13,14,15]) ?_;simp only [go_sem]
             by_cases h2 : wh % 2 = 0
             · have hnt : nv = true:=by rw [hnv]; simpa using h2
               have ht2 : wh.tmod 2 = 0:=by rw [htm2,h2]
               have hu2 : IntKind.u8.wrap 0 = 0:=by decide
               have hz2 : ((0 : Int) == 0) = true:=rfl
               have hMs : M.set k (narAt x0.beds r.d bb k) = mixB nv x0.beds r.d bb (k + 1):=by rw [hM,hnt]; exact mixB_set hck
               have hna : narAt x0.beds r.d bb k = ⟨bd.b,(bd.lo + t) / 2,t + (bd.hi - t) / 2⟩:=by unfold narAt; rw [hbt,htd]
               have hd1 : (bd.lo + t).tdiv 2 = (bd.lo + t) / 2:=Int.tdiv_eq_ediv_of_nonneg (by omega)
               have hd2 : (bd.hi - t).tdiv 2 = (bd.hi - t) / 2:=Int.tdiv_eq_ediv_of_nonneg (by omega)
               repeat refine zq ?_
               refine zb fun K hK=>?_;simp only [go_sem,ht2,hu2,hz2];(try simp (disch:=omega) only [zI]);repeat first | intro _ | refine ⟨by omega,?_⟩
               refine hK _ ?_;clear hK K;refine zw (zk [1,2,7,8,9,10,11,12,13,14,15,114]) ?_;simp only [go_sem]
               repeat refine zq ?_
               refine zc rfl (fun hc=>?_) (fun hc=>?_) <;> (try simp only [go_sem] at hc)
               repeat refine zq ?_
               refine awp_dreg2 [(15,some 500),(13,none),(14,none)] follows (by decide +kernel) (by kernel_rfl) (by simp only [keysOk,List.mem_cons,List.not_mem_nil,forall_eq_or_imp,Oc.keyOf,go_sem]; simp) fun K hK=>?_
               simp only [go_sem,hMg,hme2,hkl,ht,hck2,hd1,hd2,hset,hsetD,List.set_set,List.length_set];(try simp (disch:=omega) only [zI])
               try simp only [go_sem,hd1,hd2,hset,hsetD,List.set_set,List.length_set,List.length_map]
               try simp (disch:=omega) only [zI]
               try simp only [go_sem,hd1,hd2,hset,hsetD,List.set_set,List.length_set,List.length_map,List.take_succ_cons,List.take_zero,List.drop_succ_cons,List.drop_zero,List.cons_append,List.nil_append]
               try simp (disch:=omega) only [zI]
               repeat first | intro _ | refine ⟨by omega,?_⟩
               refine hK _ ?_;clear hK K;refine zw (zk [1,2,7,8,9,10,11,12,13,14]) ?_;simp only [go_sem]
               repeat refine zq ?_
               refine zb fun K hK=>?_;simp only [go_sem];(try simp (disch:=omega) only [zI]);repeat first | intro _ | refine ⟨by omega,?_⟩
               refine hK _ ?_;clear hK K
               try simp only [go_sem]
               refine ⟨by omega,zj [] ?_ ?_⟩
               · try simp only [go_sem]
               · try simp only [go_sem]
                 rw [← hMs,hna,List.map_set]
                 try rfl
             · have hnt : nv = false:=by rw [hnv]; simpa using h2
               have ht2 : wh.tmod 2 = 1:=by rw [htm2]; omega
               have hu2 : IntKind.u8.wrap 1 = 1:=by decide
               have hz2 : ((1 : Int) == 0) = false:=rfl
               have hMs : mixB nv x0.beds r.d bb (k + 1) = M:=by rw [hM,hnt]; rfl
               repeat refine zq ?_
               refine zb fun K hK=>?_;simp only [go_sem,ht2,hu2,hz2];(try simp (disch:=omega) only [zI]);repeat first | intro _ | refine ⟨by omega,?_⟩
               refine hK _ ?_;clear hK K;refine zw (zk [1,2,7,8,9,10,11,12,13,14,15,114]) ?_;simp only [go_sem]
               repeat refine zq ?_
               refine zc rfl (fun hc=>?_) (fun hc=>?_) <;> (try simp only [go_sem] at hc)
               refine zx ?_
               try simp only [go_sem]
               repeat refine zq ?_
               refine zb fun K hK=>?_;simp only [go_sem];(try simp (disch:=omega) only [zI]);repeat first | intro _ | refine ⟨by omega,?_⟩
               refine hK _ ?_;clear hK K
               try simp only [go_sem]
               refine ⟨by omega,zj [] ?_ ?_⟩
               · try simp only [go_sem]
               · try simp only [go_sem]
                 rw [hMs]
           · have hke : k = x0.beds.length:=by omega
             subst hke
             rw [mixB_full]
             refine zf ?_;simp only [go_sem]
             repeat refine zq ?_
             refine zb fun K hK=>?_;simp only [go_sem];(try simp (disch:=omega) only [zI]);repeat first | intro _ | refine ⟨by omega,?_⟩
             refine hK _ ?_;clear hK K
             try simp only [go_sem]
             refine zj [] ?_ ?_
             · try simp only [go_sem]
             · try simp only [if_neg (show ¬ (0 + 1 : Nat) = 0 by omega),if_true]
               try simp only [go_sem]
       · simp only [if_neg (show ¬ (1 : Nat) = 0 by omega),if_true]
         obtain ⟨hta3,htl,hte⟩:=htr x1 hm1
         simp only [aimR] at hta3
         repeat refine zq ?_
         refine zb fun K hK=>?_;simp only [go_sem,hrl3];(try simp (disch:=omega) only [zI]);repeat first | intro _ | refine ⟨by omega,?_⟩
         refine hK _ ?_;clear hK K;refine zw (zk [1,2,7,8,9,10,11,12,82]) ?_;simp only [go_sem]
         repeat refine zq ?_
         refine zc rfl (fun hc=>?_) (fun hc=>?_) <;> (try simp only [go_sem] at hc)
         refine zx ?_
         try simp only [go_sem]
         repeat refine zq ?_
         refine zd ?_
         repeat refine zq ?_
         refine zg follows (by decide +kernel) (by kernel_rfl) fun K hK=>?_;simp only [go_sem];(try simp (disch:=omega) only [zI])
         refine xcall_own (hta3) rfl (by simp only [go_sem,i64,ints]) (by simp only [go_sem,i64,ints]) (by decide) (by intro h; first | (cases h; done) | rfl) ?_
         (try simp only [go_sem]);(try simp (disch:=omega) only [zI]);repeat first | intro _ | refine ⟨by omega,?_⟩
         refine hK _ ?_;clear hK K;refine zw (sub_frz 13 95 (ty:=3) (sz:=1) (off:=0) (m:=(truthL x1.beds r.d bb).length) (es:=(truthL x1.beds r.d bb).map fun x=>[i64 x]) (by omega) rfl (by rfl) (by simp)) ?_
         have hT0 : (((truthL x1.beds r.d bb).map fun x=>[i64 x]).drop 0).take (truthL x1.beds r.d bb).length = (truthL x1.beds r.d bb).map fun x=>[i64 x]:=by
          rw [List.drop_zero,List.take_of_length_le (by simp)]
         rw [hT0]
         refine zw (zk [1,2,7,8,9,10,11,12,13]) ?_;simp only [go_sem]
         repeat refine zq ?_
         refine zb fun K hK=>?_;simp only [go_sem];(try simp (disch:=omega) only [zI]);repeat first | intro _ | refine ⟨by omega,?_⟩
         refine hK _ ?_;clear hK K;refine zw (zk [1,2,7,8,9,10,11,12,13,14]) ?_;simp only [go_sem]
         have hmx0:=mixB_zero nv x1.beds r.d bb
         obtain ⟨tl,htld⟩ : ∃ tl,tl = truthL x1.beds r.d bb:=⟨_,rfl⟩
         rw [← htld] at htl ⊢
         repeat refine zq ?_
         refine zd ?_
         refine awp_uptoV (n:=349) x1.beds.length (fun k vs=>[(1,.r (u8L bb)),(2,.r (it8 wh)),(7,.r (.rp (ruC r))),(8,.r (tabR (tabF r false))),(9,.r (tabR (tabF r true))),(10,.r (i64 0)),(11,.pt 11 (vs 11) 0),(12,.r (i64 (1 : Int))),(13,.r (ints tl)),(14,.r (i64 (k : Int)))])
          (fun k vs=>[(11,.box [.r (i64 r.d),.os 700 (vs 700) 2 0 3,.r (i64 r.start),.r (i64 r.out),.os 701 (vs 701) 2 0 r.ends.length]),(500,.arr 90 3 ((narV nv r.d bb x0).beds.map bedR)),(501,.arr 90 3 ((mixB nv x1.beds r.d bb k).map bedR)),(502,.arr 90 3 (x2.beds.map bedR)),(700,.ara 78 2 [.r (i64 x0.at_),.os 500 (vs 500) 3 0 x0.beds.length,.r (i64 x1.at_),.os 501 (vs 501) 3 0 x1.beds.length,.r (i64 x2.at_),.os 502 (vs 502) 3 0 x2.beds.length]),(701,.arr 52 2 (r.ends.map spanR))]) (fun _=>True) 0 (zj [] ?_ ?_) (Nat.zero_le _) trivial ?_
         · try simp only [go_sem]
         · simp only [hmx0]
           try simp only [go_sem]
         · intro k vs hk _
           repeat refine zq ?_
           refine zb fun K hK=>?_;simp only [go_sem,htl];(try simp (disch:=omega) only [zI]);repeat first | intro _ | refine ⟨by omega,?_⟩
           refine hK _ ?_;clear hK K;refine zw (zk [1,2,7,8,9,10,11,12,13,14,99]) ?_;simp only [go_sem]
           repeat refine zq ?_
           refine zc rfl (fun hc=>?_) (fun hc=>?_) <;> (try simp only [go_sem] at hc)
           · have hck : k < x1.beds.length:=by omega
             obtain ⟨bd,hbd⟩:=opt_of_lt hck
             have hbt : bAt x1.beds k = bd:=by simp [bAt,List.getD,hbd]
             have hck2 : k < tl.length:=by omega
             obtain ⟨t,ht⟩:=opt_of_lt hck2
             have htd : (truthL x1.beds r.d bb).getD k 0 = t:=by rw [← htld,List.getD_eq_getElem?_getD,ht]; rfl
             obtain ⟨⟨g1,g2⟩,g3,g4⟩:=hte k hck
             rw [hbt,htd] at g1 g2
             rw [hbt] at g3 g4
             have hMl:=mixB_len nv x1.beds r.d bb k
             have hMg : (mixB nv x1.beds r.d bb k)[k]? = some bd:=by rw [mixB_get hck,hbd]
             have hkl : k < (mixB nv x1.beds r.d bb k).length:=by omega
             refine zx ?_
             try simp only [go_sem]
             repeat refine zq ?_
             refine zd ?_
             obtain ⟨M,hM⟩ : ∃ M,M = mixB nv x1.beds r.d bb k:=⟨_,rfl⟩
             rw [← hM] at hMl hMg hkl ⊢
             have hme2 : bedR bd = [i64 bd.b,i64 bd.lo,i64 bd.hi]:=rfl
             have hset : ∀ z,((M.map bedR).set k z)[k]? = some z:=fun z=>List.getElem?_set_self (by simpa using hkl)
             have hsetD : ∀ z,((M.map bedR).set k z).getD k [] = z:=fun z=>by rw [List.getD_eq_getElem?_getD,hset]; rfl
             repeat refine zq ?_
             refine zb fun K hK=>?_;simp only [go_sem,hMl,hck,hkl];(try simp (disch:=omega) only [zI]);repeat first | intro _ | refine ⟨by omega,?_⟩
             refine hK _ ?_;clear hK K;refine zw (zk [1,2,7,8,9,10,11,12,13,14,15]) ?_;simp only [go_sem]
             by_cases h2 : wh % 2 = 0
             · have hnt : nv = true:=by rw [hnv]; simpa using h2
               have ht2 : wh.tmod 2 = 0:=by rw [htm2,h2]
               have hu2 : IntKind.u8.wrap 0 = 0:=by decide
               have hz2 : ((0 : Int) == 0) = true:=rfl
               have hMs : M.set k (narAt x1.beds r.d bb k) = mixB nv x1.beds r.d bb (k + 1):=by rw [hM,hnt]; exact mixB_set hck
               have hna : narAt x1.beds r.d bb k = ⟨bd.b,(bd.lo + t) / 2,t + (bd.hi - t) / 2⟩:=by unfold narAt; rw [hbt,htd]
               have hd1 : (bd.lo + t).tdiv 2 = (bd.lo + t) / 2:=Int.tdiv_eq_ediv_of_nonneg (by omega)
               have hd2 : (bd.hi - t).tdiv 2 = (bd.hi - t) / 2:=Int.tdiv_eq_ediv_of_nonneg (by omega)
               repeat refine zq ?_
               refine zb fun K hK=>?_;simp only [go_sem,ht2,hu2,hz2];(try simp (disch:=omega) only [zI]);repeat first | intro _ | refine ⟨by omega,?_⟩
               refine hK _ ?_;clear hK K;refine zw (zk [1,2,7,8,9,10,11,12,13,14,15,114]) ?_;simp only [go_sem]
               repeat refine zq ?_
               refine zc rfl (fun hc=>?_) (fun hc=>?_) <;> (try simp only [go_sem] at hc)
               repeat refine zq ?_
               refine awp_dreg2 [(15,some 501),(13,none),(14,none)] follows (by decide +kernel) (by kernel_rfl) (by simp only [keysOk,List.mem_cons,List.not_mem_nil,forall_eq_or_imp,Oc.keyOf,go_sem]; simp) fun K hK=>?_
               simp only [go_sem,hMg,hme2,hkl,ht,hck2,hd1,hd2,hset,hsetD,List.set_set,List.length_set];(try simp (disch:=omega) only [zI])
               try simp only [go_sem,hd1,hd2,hset,hsetD,List.set_set,List.length_set,List.length_map]
               try simp (disch:=omega) only [zI]
               try simp only [go_sem,hd1,hd2,hset,hsetD,List.set_set,List.length_set,List.length_map,List.take_succ_cons,List.take_zero,List.drop_succ_cons,List.drop_zero,List.cons_append,List.nil_append]
               try simp (disch:=omega) only [zI]
               repeat first | intro _ | refine ⟨by omega,?_⟩
               refine hK _ ?_;clear hK K;refine zw (zk [1,2,7,8,9,10,11,12,13,14]) ?_;simp only [go_sem]
               repeat refine zq ?_
               refine zb fun K hK=>?_;simp only [go_sem];(try simp (disch:=omega) only [zI]);repeat first | intro _ | refine ⟨by omega,?_⟩
               refine hK _ ?_;clear hK K
               try simp only [go_sem]
               refine ⟨by omega,zj [] ?_ ?_⟩
               · try simp only [go_sem]
               · try simp only [go_sem]
                 rw [← hMs,hna,List.map_set]
                 try rfl
             · have hnt : nv = false:=by rw [hnv]; simpa using h2
               have ht2 : wh.tmod 2 = 1:=by rw [htm2]; omega
               have hu2 : IntKind.u8.wrap 1 = 1:=by decide
               have hz2 : ((1 : Int) == 0) = false:=rfl
               have hMs : mixB nv x1.beds r.d bb (k + 1) = M:=by rw [hM,hnt]; rfl
               repeat refine zq ?_
               refine zb fun K hK=>?_;simp only [go_sem,ht2,hu2,hz2];(try simp (disch:=omega) only [zI]);repeat first | intro _ | refine ⟨by omega,?_⟩
               refine hK _ ?_;clear hK K;refine zw (zk [1,2,7,8,9,10,11,12,13,14,15,114]) ?_;simp only [go_sem]
               repeat refine zq ?_
               refine zc rfl (fun hc=>?_) (fun hc=>?_) <;> (try simp only [go_sem] at hc)
               refine zx ?_
               try simp only [go_sem]
               repeat refine zq ?_
               refine zb fun K hK=>?_;simp only [go_sem];(try simp (disch:=omega) only [zI]);repeat first | intro _ | refine ⟨by omega,?_⟩
               refine hK _ ?_;clear hK K
               try simp only [go_sem]
               refine ⟨by omega,zj [] ?_ ?_⟩
               · try simp only [go_sem]
               · try simp only [go_sem]
                 rw [hMs]
           · have hke : k = x1.beds.length:=by omega
             subst hke
             rw [mixB_full]
             refine zf ?_;simp only [go_sem]
             repeat refine zq ?_
             refine zb fun K hK=>?_;simp only [go_sem];(try simp (disch:=omega) only [zI]);repeat first | intro _ | refine ⟨by omega,?_⟩
             refine hK _ ?_;clear hK K
             try simp only [go_sem]
             refine zj [] ?_ ?_
             · try simp only [go_sem]
             · try simp only [if_neg (show ¬ (1 + 1 : Nat) = 0 by omega),if_neg (show ¬ (1 + 1 : Nat) = 1 by omega),if_true]
               try simp only [go_sem]
       · simp only [if_neg (show ¬ (2 : Nat) = 0 by omega),if_neg (show ¬ (2 : Nat) = 1 by omega),if_true]
         obtain ⟨hta3,htl,hte⟩:=htr x2 hm2
         simp only [aimR] at hta3
         repeat refine zq ?_
         refine zb fun K hK=>?_;simp only [go_sem,hrl3];(try simp (disch:=omega) only [zI]);repeat first | intro _ | refine ⟨by omega,?_⟩
         refine hK _ ?_;clear hK K;refine zw (zk [1,2,7,8,9,10,11,12,82]) ?_;simp only [go_sem]
         repeat refine zq ?_
         refine zc rfl (fun hc=>?_) (fun hc=>?_) <;> (try simp only [go_sem] at hc)
         refine zx ?_
         try simp only [go_sem]
         repeat refine zq ?_
         refine zd ?_
         repeat refine zq ?_
         refine zg follows (by decide +kernel) (by kernel_rfl) fun K hK=>?_;simp only [go_sem];(try simp (disch:=omega) only [zI])
         refine xcall_own (hta3) rfl (by simp only [go_sem,i64,ints]) (by simp only [go_sem,i64,ints]) (by decide) (by intro h; first | (cases h; done) | rfl) ?_
         (try simp only [go_sem]);(try simp (disch:=omega) only [zI]);repeat first | intro _ | refine ⟨by omega,?_⟩
         refine hK _ ?_;clear hK K;refine zw (sub_frz 13 95 (ty:=3) (sz:=1) (off:=0) (m:=(truthL x2.beds r.d bb).length) (es:=(truthL x2.beds r.d bb).map fun x=>[i64 x]) (by omega) rfl (by rfl) (by simp)) ?_
         have hT0 : (((truthL x2.beds r.d bb).map fun x=>[i64 x]).drop 0).take (truthL x2.beds r.d bb).length = (truthL x2.beds r.d bb).map fun x=>[i64 x]:=by
          rw [List.drop_zero,List.take_of_length_le (by simp)]
         rw [hT0]
         refine zw (zk [1,2,7,8,9,10,11,12,13]) ?_;simp only [go_sem]
         repeat refine zq ?_
         refine zb fun K hK=>?_;simp only [go_sem];(try simp (disch:=omega) only [zI]);repeat first | intro _ | refine ⟨by omega,?_⟩
         refine hK _ ?_;clear hK K;refine zw (zk [1,2,7,8,9,10,11,12,13,14]) ?_;simp only [go_sem]
         have hmx0:=mixB_zero nv x2.beds r.d bb
         obtain ⟨tl,htld⟩ : ∃ tl,tl = truthL x2.beds r.d bb:=⟨_,rfl⟩
         rw [← htld] at htl ⊢
         repeat refine zq ?_
         refine zd ?_
         refine awp_uptoV (n:=349) x2.beds.length (fun k vs=>[(1,.r (u8L bb)),(2,.r (it8 wh)),(7,.r (.rp (ruC r))),(8,.r (tabR (tabF r false))),(9,.r (tabR (tabF r true))),(10,.r (i64 0)),(11,.pt 11 (vs 11) 0),(12,.r (i64 (2 : Int))),(13,.r (ints tl)),(14,.r (i64 (k : Int)))])
          (fun k vs=>[(11,.box [.r (i64 r.d),.os 700 (vs 700) 2 0 3,.r (i64 r.start),.r (i64 r.out),.os 701 (vs 701) 2 0 r.ends.length]),(500,.arr 90 3 ((narV nv r.d bb x0).beds.map bedR)),(501,.arr 90 3 ((narV nv r.d bb x1).beds.map bedR)),(502,.arr 90 3 ((mixB nv x2.beds r.d bb k).map bedR)),(700,.ara 78 2 [.r (i64 x0.at_),.os 500 (vs 500) 3 0 x0.beds.length,.r (i64 x1.at_),.os 501 (vs 501) 3 0 x1.beds.length,.r (i64 x2.at_),.os 502 (vs 502) 3 0 x2.beds.length]),(701,.arr 52 2 (r.ends.map spanR))]) (fun _=>True) 0 (zj [] ?_ ?_) (Nat.zero_le _) trivial ?_
         · try simp only [go_sem]
         · simp only [hmx0]
           try simp only [go_sem]
         · intro k vs hk _
           repeat refine zq ?_
           refine zb fun K hK=>?_;simp only [go_sem,htl];(try simp (disch:=omega) only [zI]);repeat first | intro _ | refine ⟨by omega,?_⟩
           refine hK _ ?_;clear hK K;refine zw (zk [1,2,7,8,9,10,11,12,13,14,99]) ?_;simp only [go_sem]
           repeat refine zq ?_
           refine zc rfl (fun hc=>?_) (fun hc=>?_) <;> (try simp only [go_sem] at hc)
           · have hck : k < x2.beds.length:=by omega
             obtain ⟨bd,hbd⟩:=opt_of_lt hck
             have hbt : bAt x2.beds k = bd:=by simp [bAt,List.getD,hbd]
             have hck2 : k < tl.length:=by omega
             obtain ⟨t,ht⟩:=opt_of_lt hck2
             have htd : (truthL x2.beds r.d bb).getD k 0 = t:=by rw [← htld,List.getD_eq_getElem?_getD,ht]; rfl
             obtain ⟨⟨g1,g2⟩,g3,g4⟩:=hte k hck
             rw [hbt,htd] at g1 g2
             rw [hbt] at g3 g4
             have hMl:=mixB_len nv x2.beds r.d bb k
             have hMg : (mixB nv x2.beds r.d bb k)[k]? = some bd:=by rw [mixB_get hck,hbd]
             have hkl : k < (mixB nv x2.beds r.d bb k).length:=by omega
             refine zx ?_
             try simp only [go_sem]
             repeat refine zq ?_
             refine zd ?_
             obtain ⟨M,hM⟩ : ∃ M,M = mixB nv x2.beds r.d bb k:=⟨_,rfl⟩
             rw [← hM] at hMl hMg hkl ⊢
             have hme2 : bedR bd = [i64 bd.b,i64 bd.lo,i64 bd.hi]:=rfl
             have hset : ∀ z,((M.map bedR).set k z)[k]? = some z:=fun z=>List.getElem?_set_self (by simpa using hkl)
             have hsetD : ∀ z,((M.map bedR).set k z).getD k [] = z:=fun z=>by rw [List.getD_eq_getElem?_getD,hset]; rfl
             repeat refine zq ?_
             refine zb fun K hK=>?_;simp only [go_sem,hMl,hck,hkl];(try simp (disch:=omega) only [zI]);repeat first | intro _ | refine ⟨by omega,?_⟩
             refine hK _ ?_;clear hK K;refine zw (zk [1,2,7,8,9,10,11,12,13,14,15]) ?_;simp only [go_sem]
             by_cases h2 : wh % 2 = 0
             · have hnt : nv = true:=by rw [hnv]; simpa using h2
               have ht2 : wh.tmod 2 = 0:=by rw [htm2,h2]
               have hu2 : IntKind.u8.wrap 0 = 0:=by decide
               have hz2 : ((0 : Int) == 0) = true:=rfl
               have hMs : M.set k (narAt x2.beds r.d bb k) = mixB nv x2.beds r.d bb (k + 1):=by rw [hM,hnt]; exact mixB_set hck
               have hna : narAt x2.beds r.d bb k = ⟨bd.b,(bd.lo + t) / 2,t + (bd.hi - t) / 2⟩:=by unfold narAt; rw [hbt,htd]
               have hd1 : (bd.lo + t).tdiv 2 = (bd.lo + t) / 2:=Int.tdiv_eq_ediv_of_nonneg (by omega)
               have hd2 : (bd.hi - t).tdiv 2 = (bd.hi - t) / 2:=Int.tdiv_eq_ediv_of_nonneg (by omega)
               repeat refine zq ?_
               refine zb fun K hK=>?_;simp only [go_sem,ht2,hu2,hz2];(try simp (disch:=omega) only [zI]);repeat first | intro _ | refine ⟨by omega,?_⟩
               refine hK _ ?_;clear hK K;refine zw (zk [1,2,7,8,9,10,11,12,13,14,15,114]) ?_;simp only [go_sem]
               repeat refine zq ?_
               refine zc rfl (fun hc=>?_) (fun hc=>?_) <;> (try simp only [go_sem] at hc)
               repeat refine zq ?_
               refine awp_dreg2 [(15,some 502),(13,none),(14,none)] follows (by decide +kernel) (by kernel_rfl) (by simp only [keysOk,List.mem_cons,List.not_mem_nil,forall_eq_or_imp,Oc.keyOf,go_sem]; simp) fun K hK=>?_
               simp only [go_sem,hMg,hme2,hkl,ht,hck2,hd1,hd2,hset,hsetD,List.set_set,List.length_set];(try simp (disch:=omega) only [zI])
               try simp only [go_sem,hd1,hd2,hset,hsetD,List.set_set,List.length_set,List.length_map]
               try simp (disch:=omega) only [zI]
               try simp only [go_sem,hd1,hd2,hset,hsetD,List.set_set,List.length_set,List.length_map,List.take_succ_cons,List.take_zero,List.drop_succ_cons,List.drop_zero,List.cons_append,List.nil_append]
               try simp (disch:=omega) only [zI]
               repeat first | intro _ | refine ⟨by omega,?_⟩
               refine hK _ ?_;clear hK K;refine zw (zk [1,2,7,8,9,10,11,12,13,14]) ?_;simp only [go_sem]
               repeat refine zq ?_
               refine zb fun K hK=>?_;simp only [go_sem];(try simp (disch:=omega) only [zI]);repeat first | intro _ | refine ⟨by omega,?_⟩
               refine hK _ ?_;clear hK K
               try simp only [go_sem]
               refine ⟨by omega,zj [] ?_ ?_⟩
               · try simp only [go_sem]
               · try simp only [go_sem]
                 rw [← hMs,hna,List.map_set]
                 try rfl
             · have hnt : nv = false:=by rw [hnv]; simpa using h2
               have ht2 : wh.tmod 2 = 1:=by rw [htm2]; omega
               have hu2 : IntKind.u8.wrap 1 = 1:=by decide
               have hz2 : ((1 : Int) == 0) = false:=rfl
               have hMs : mixB nv x2.beds r.d bb (k + 1) = M:=by rw [hM,hnt]; rfl
               repeat refine zq ?_
               refine zb fun K hK=>?_;simp only [go_sem,ht2,hu2,hz2];(try simp (disch:=omega) only [zI]);repeat first | intro _ | refine ⟨by omega,?_⟩
               refine hK _ ?_;clear hK K;refine zw (zk [1,2,7,8,9,10,11,12,13,14,15,114]) ?_;simp only [go_sem]
               repeat refine zq ?_
               refine zc rfl (fun hc=>?_) (fun hc=>?_) <;> (try simp only [go_sem] at hc)
               refine zx ?_
               try simp only [go_sem]
               repeat refine zq ?_
               refine zb fun K hK=>?_;simp only [go_sem];(try simp (disch:=omega) only [zI]);repeat first | intro _ | refine ⟨by omega,?_⟩
               refine hK _ ?_;clear hK K
               try simp only [go_sem]
               refine ⟨by omega,zj [] ?_ ?_⟩
               · try simp only [go_sem]
               · try simp only [go_sem]
                 rw [hMs]
           · have hke : k = x2.beds.length:=by omega
             subst hke
             rw [mixB_full]
             refine zf ?_;simp only [go_sem]
             repeat refine zq ?_
             refine zb fun K hK=>?_;simp only [go_sem];(try simp (disch:=omega) only [zI]);repeat first | intro _ | refine ⟨by omega,?_⟩
             refine hK _ ?_;clear hK K
             try simp only [go_sem]
             refine zj [] ?_ ?_
             · try simp only [go_sem]
             · try simp only [if_neg (show ¬ (2 + 1 : Nat) = 0 by omega),if_neg (show ¬ (2 + 1 : Nat) = 1 by omega),if_neg (show ¬ (2 + 1 : Nat) = 2 by omega)]
               try simp only [go_sem]
       · simp only [if_neg (show ¬ (3 : Nat) = 0 by omega),if_neg (show ¬ (3 : Nat) = 1 by omega),if_neg (show ¬ (3 : Nat) = 2 by omega)]
         repeat refine zq ?_
         refine zb fun K hK=>?_;simp only [go_sem,hrl3];(try simp (disch:=omega) only [zI]);repeat first | intro _ | refine ⟨by omega,?_⟩
         refine hK _ ?_;clear hK K;refine zw (zk [1,2,7,8,9,10,11,12,82]) ?_;simp only [go_sem]
         repeat refine zq ?_
         refine zc rfl (fun hc=>?_) (fun hc=>?_) <;> (try simp only [go_sem] at hc)
         refine zf ?_;simp only [go_sem]
         have hvl0 : (narV nv r.d bb x0).beds.length = x0.beds.length:=by rw [← mixB_full,mixB_len]
         refine zw (sub_frzBA 700 1 500 (ty:=90) (sz:=3) (off:=0) (m:=x0.beds.length) (es:=(narV nv r.d bb x0).beds.map bedR) (by omega) (by omega) rfl (by simp only [go_sem,List.getElem?_cons_succ,List.getElem?_cons_zero]) (by rfl) (by simp [hvl0])) ?_
         have ev0 : (((narV nv r.d bb x0).beds.map bedR).drop 0).take x0.beds.length = (narV nv r.d bb x0).beds.map bedR:=by
          rw [List.drop_zero,List.take_of_length_le (by simp [hvl0])]
         rw [ev0]
         simp only [go_sem,List.set_cons_zero,List.set_cons_succ]
         have hvl1 : (narV nv r.d bb x1).beds.length = x1.beds.length:=by rw [← mixB_full,mixB_len]
         refine zw (sub_frzBA 700 3 501 (ty:=90) (sz:=3) (off:=0) (m:=x1.beds.length) (es:=(narV nv r.d bb x1).beds.map bedR) (by omega) (by omega) rfl (by simp only [go_sem,List.getElem?_cons_succ,List.getElem?_cons_zero]) (by rfl) (by simp [hvl1])) ?_
         have ev1 : (((narV nv r.d bb x1).beds.map bedR).drop 0).take x1.beds.length = (narV nv r.d bb x1).beds.map bedR:=by
          rw [List.drop_zero,List.take_of_length_le (by simp [hvl1])]
         rw [ev1]
         simp only [go_sem,List.set_cons_zero,List.set_cons_succ]
         have hvl2 : (narV nv r.d bb x2).beds.length = x2.beds.length:=by rw [← mixB_full,mixB_len]
         refine zw (sub_frzBA 700 5 502 (ty:=90) (sz:=3) (off:=0) (m:=x2.beds.length) (es:=(narV nv r.d bb x2).beds.map bedR) (by omega) (by omega) rfl (by simp only [go_sem,List.getElem?_cons_succ,List.getElem?_cons_zero]) (by rfl) (by simp [hvl2])) ?_
         have ev2 : (((narV nv r.d bb x2).beds.map bedR).drop 0).take x2.beds.length = (narV nv r.d bb x2).beds.map bedR:=by
          rw [List.drop_zero,List.take_of_length_le (by simp [hvl2])]
         rw [ev2]
         simp only [go_sem,List.set_cons_zero,List.set_cons_succ];refine zw (sub_arr 700 [[i64 x0.at_,bedsR (narV nv r.d bb x0).beds],[i64 x1.at_,bedsR (narV nv r.d bb x1).beds],[i64 x2.at_,bedsR (narV nv r.d bb x2).beds]] rfl (by rfl) (by simp) (by omega)) ?_
         try simp only [go_sem]
         refine zw (sub_frzB 11 1 700 (ty:=78) (sz:=2) (off:=0) (m:=3) (es:=[[i64 x0.at_,bedsR (narV nv r.d bb x0).beds],[i64 x1.at_,bedsR (narV nv r.d bb x1).beds],[i64 x2.at_,bedsR (narV nv r.d bb x2).beds]]) (by omega) (by omega) rfl (by simp only [go_sem,List.getElem?_cons_succ,List.getElem?_cons_zero]) (by rfl) (by simp)) ?_
         have hA : (([[i64 x0.at_,bedsR (narV nv r.d bb x0).beds],[i64 x1.at_,bedsR (narV nv r.d bb x1).beds],[i64 x2.at_,bedsR (narV nv r.d bb x2).beds]] : List (List RV)).drop 0).take 3 = (r.aims.map (narV nv r.d bb)).map aimR:=by
          rw [hr]; simp [aimR,narV_at]
         rw [hA]
         simp only [go_sem,List.set_cons_zero,List.set_cons_succ]
         have hfrz : True:=trivial
         repeat refine zq ?_
         refine zb fun K hK=>?_;simp only [go_sem];(try simp (disch:=omega) only [zI]);repeat first | intro _ | refine ⟨by omega,?_⟩
         refine hK _ ?_;clear hK K;refine zw (zk [2,7,8,9,10,11,16]) ?_;simp only [go_sem]
         repeat refine zq ?_
         refine zd ?_
         refine awp_uptoV (n:=349) r.ends.length (fun k vs=>[(2,.r (it8 wh)),(7,.r (.rp (ruC r))),(8,.r (tabR (tabF r false))),(9,.r (tabR (tabF r true))),(10,.r (i64 0)),(11,.pt 11 (vs 11) 0),(16,.r (i64 (k : Int)))])
          (fun k vs=>[(11,.box [.r (i64 r.d),.r (aimsR (r.aims.map (narV nv r.d bb))),.r (i64 r.start),.r (i64 r.out),.os 701 (vs 701) 2 0 r.ends.length]),(701,.arr 52 2 (((r.ends.take k).map narE ++ r.ends.drop k).map spanR))]) (fun _=>True) 0 (zj [] ?_ ?_) (Nat.zero_le _) trivial ?_
         · try simp only [go_sem]
         · try simp only [go_sem]
         · intro k vs hk _
           repeat refine zq ?_
           refine zb fun K hK=>?_;simp only [go_sem];(try simp (disch:=omega) only [zI]);repeat first | intro _ | refine ⟨by omega,?_⟩
           refine hK _ ?_;clear hK K;refine zw (zk [2,7,8,9,10,11,16,150]) ?_;simp only [go_sem]
           repeat refine zq ?_
           refine zc rfl (fun hc=>?_) (fun hc=>?_) <;> (try simp only [go_sem] at hc)
           · have hck : k < r.ends.length:=by omega
             obtain ⟨e,hek⟩:=opt_of_lt hck
             obtain ⟨q1,q2,q3⟩:=endOk_le (hG.ends e (mem_of_opt hek))
             have hLe:=map_mix_get (f:=narE) hek
             have hLs:=map_mix (f:=narE) hek
             have hLl:=map_mix_len (f:=narE) (l:=r.ends) (k:=k)
             generalize (r.ends.take k).map narE ++ r.ends.drop k = L at hLe hLs hLl ⊢
             have hkl : k < L.length:=by omega
             have hme : (L.map spanR)[k]? = some [i64 e.1,i64 e.2]:=by simp [hLe,spanR]
             have hme1 : L[k]? = some e:=hLe
             have hme2 : spanR e = [i64 e.1,i64 e.2]:=rfl
             have hset : ∀ x,((L.map spanR).set k x)[k]? = some x:=fun x=>List.getElem?_set_self (by simpa using hkl)
             have hsetD : ∀ x,((L.map spanR).set k x).getD k [] = x:=fun x=>by rw [List.getD_eq_getElem?_getD,hset]; rfl
             have hw18 : IntKind.i64.wrap (e.2 - e.1) = e.2 - e.1:=by rw [zI] <;> omega
             have hd19 : (e.2 - e.1).tdiv 3 = (e.2 - e.1) / 3:=Int.tdiv_eq_ediv_of_nonneg (by omega)
             have hw19 : IntKind.i64.wrap ((e.2 - e.1) / 3) = (e.2 - e.1) / 3:=by rw [zI] <;> omega
             have hw20 : IntKind.i64.wrap (e.1 + (e.2 - e.1) / 3) = e.1 + (e.2 - e.1) / 3:=by rw [zI] <;> omega
             refine zx ?_
             try simp only [go_sem]
             repeat refine zq ?_
             refine zd ?_
             repeat refine zq ?_
             refine awp_dreg2 [(11,some 11),(16,none)] follows (by decide +kernel) (by kernel_rfl) (by simp only [keysOk,List.mem_cons,List.not_mem_nil,forall_eq_or_imp,Oc.keyOf,go_sem]; simp) fun K hK=>?_
             simp only [go_sem,hme1,hme2,hkl,hck,hd19,hLl];(try simp (disch:=omega) only [zI])
             try simp only [go_sem,hw18,hd19,hw19,hw20]
             try simp (disch:=omega) only [zI]
             repeat first | intro _ | refine ⟨by omega,?_⟩
             refine hK _ ?_;clear hK K;refine zw (zk [2,7,8,9,10,11,16]) ?_;simp only [go_sem]
             repeat refine zq ?_
             refine zb fun K hK=>?_;simp only [go_sem];(try simp (disch:=omega) only [zI]);repeat first | intro _ | refine ⟨by omega,?_⟩
             refine hK _ ?_;clear hK K
             try simp only [go_sem]
             refine ⟨by omega,zj [] ?_ ?_⟩
             · try simp only [go_sem]
             · try simp only [go_sem]
               rw [← hLs,List.map_set]
               rfl
           · have hke : k = r.ends.length:=by omega
             subst hke
             have hLe : (r.ends.take r.ends.length).map narE ++ r.ends.drop r.ends.length = r.ends.map narE:=by rw [List.take_length,List.drop_length,List.append_nil]
             rw [hLe]
             refine zf ?_;simp only [go_sem]
             try simp only [go_sem]
             refine ⟨narRv nv r bb,hbet,fitV_sub (sub_frzB 11 4 701 (ty:=52) (sz:=2) (off:=0) (m:=r.ends.length) (es:=(r.ends.map narE).map spanR) (by omega) (by omega) rfl (by simp only [go_sem,List.getElem?_cons_succ,List.getElem?_cons_zero]) (by rfl) (by simp)) ?_⟩
             have e2 : (((r.ends.map narE).map spanR).drop 0).take r.ends.length = (r.ends.map narE).map spanR:=by
              rw [List.drop_zero,List.take_of_length_le (by simp)]
             rw [e2]
             refine fitV_sub (sub_frzP 11 11 (ruC (narRv nv r bb)) (by omega) rfl (by simp only [go_sem,narRv,moreR,lessR,hfrz])) (zj [] ?_ ?_)
             · try simp only [go_sem]
             · try simp only [go_sem]
 · skip
   have ht3 : wh.tmod 3 = 1:=by rw [htm,hq]
   have hu3 : IntKind.u8.wrap 1 = 1:=by decide
   have hq0 : ((1 : Int) == 0) = false:=rfl
   have hqg : decide ((0 : Int) < 1) = true:=rfl
   have hqg' : decide ((0 : Nat) < 1) = true:=rfl
   have hq1 : ((1 : Int) == 1) = true:=rfl
   have hbet:=bet_facts (r':=lessR r) hG (lessR_ok hE) ⟨hwR.law.1,fun a ha=>hwR.law.2 a (List.mem_of_mem_take ha)⟩ (fewer_le hG.aims hH true _) wh (by rw [if_neg (by omega)]; exact fewer_le hG.aims hH false _)
   have hmx : (max 1 ((r.aims.length : Int) - 1)).toNat = max 1 (r.aims.length - 1):=by omega
   have hlw : IntKind.i64.wrap ((r.aims.length : Int) - 1) = (r.aims.length : Int) - 1:=by rw [zI] <;> omega
   repeat refine zq ?_
   refine zb fun K hK=>?_;simp only [go_sem];(try simp (disch:=omega) only [zI])
   refine zh (hrl) rfl (by simp only [go_sem,i64,ints]) (by simp only [go_sem,i64,ints]) (by first | exact .inl rfl | exact .inr rfl) ?_
   (try simp only [go_sem]);(try simp (disch:=omega) only [zI]);repeat first | intro _ | refine ⟨by omega,?_⟩
   refine hK _ ?_;clear hK K;refine zw (zk [2,7,8,9,10,11]) ?_;simp only [go_sem]
   repeat refine zq ?_
   refine zb fun K hK=>?_;simp only [go_sem,ht3,hu3];(try simp (disch:=omega) only [zI]);repeat first | intro _ | refine ⟨by omega,?_⟩
   refine hK _ ?_;clear hK K;refine zw (zk [2,7,8,9,10,11,35]) ?_;simp only [go_sem]
   repeat refine zq ?_
   refine zd ?_
   repeat refine zq ?_
   refine zb fun K hK=>?_;simp only [go_sem,hq0];(try simp (disch:=omega) only [zI]);repeat first | intro _ | refine ⟨by omega,?_⟩
   refine hK _ ?_;clear hK K;refine zw (zk [2,7,8,9,10,11,35,75]) ?_;simp only [go_sem]
   repeat refine zq ?_
   refine zc rfl (fun hc=>?_) (fun hc=>?_) <;> (try simp only [go_sem] at hc)
   repeat refine zq ?_
   refine zb fun K hK=>?_;simp only [go_sem,hq1];(try simp (disch:=omega) only [zI]);repeat first | intro _ | refine ⟨by omega,?_⟩
   refine hK _ ?_;clear hK K;refine zw (zk [2,7,8,9,10,11,176]) ?_;simp only [go_sem]
   repeat refine zq ?_
   refine zc rfl (fun hc=>?_) (fun hc=>?_) <;> (try simp only [go_sem] at hc)
   repeat refine zq ?_
   refine zb fun K hK=>?_;simp only [go_sem,hlw,hmx];(try simp (disch:=omega) only [zI])
   try simp only [go_sem,hlw,hmx,List.drop_zero]
   repeat first | intro _ | refine ⟨by omega,?_⟩
   refine hK _ ?_;clear hK K
   have hfrz : List.take (max 1 (r.aims.length - 1)) (List.map aimR r.aims) = (r.aims.take (max 1 (r.aims.length - 1))).map aimR:=List.map_take.symm
   try simp only [go_sem]
   refine ⟨lessR r,hbet,?_⟩
   refine fitV_sub (sub_frzP 11 11 (ruC (lessR r)) (by omega) rfl (by simp only [go_sem,narRv,moreR,lessR,hfrz])) (zj [] ?_ ?_)
   · try simp only [go_sem]
   · try simp only [go_sem]
 · skip
   have ht3 : wh.tmod 3 = 2:=by rw [htm,hq]
   have hu3 : IntKind.u8.wrap 2 = 2:=by decide
   have hq0 : ((2 : Int) == 0) = false:=rfl
   have hqg : decide ((0 : Int) < 2) = true:=rfl
   have hqg' : decide ((0 : Nat) < 2) = true:=rfl
   have hq1 : ((2 : Int) == 1) = false:=rfl
   have hbet:=bet_facts (r':=moreR r wh) hG (moreR_ok hE hwh.1) ⟨hwR.law⟩ (moreR_le hE hwh.1 true) wh (by rw [if_neg (by omega)]; exact moreR_le hE hwh.1 false)
   have hnew:=rules_newE r (by omega) e1 (by omega) fun a ha=>by have:=(hG.aims.beds a ha).1; omega
   have hfrz : True:=trivial
   repeat refine zq ?_
   refine awp_long ?_
   refine sops_take 2 (by kernel_rfl) fun K hK=>?_
   simp only [go_sem,List.take_succ_cons,List.take_zero,List.drop_succ_cons,List.drop_zero,List.append_eq,List.cons_append,List.nil_append];(try simp (disch:=omega) only [zI])
   refine xcall_new hnew [(10,701)] rfl (by rfl) (by rfl) (by rfl) (by rfl) (by rfl) ?_
   simp only [go_sem,idK,backA,backC,backL,pinOf,lendKey];repeat first | intro _ | refine ⟨by omega,?_⟩
   refine hK _ rfl ?_
   clear hK K
   refine sops_end (by kernel_rfl) fun K hK=>?_
   simp only [go_sem,List.drop_succ_cons,List.drop_zero,List.append_eq,List.cons_append,List.nil_append];(try simp (disch:=omega) only [zI]);repeat first | intro _ | refine ⟨by omega,?_⟩
   refine hK _ ?_;clear hK K;refine zw (zk [2,7,8,9,10,11]) ?_;simp only [go_sem]
   repeat refine zq ?_
   refine zb fun K hK=>?_;simp only [go_sem,ht3,hu3];(try simp (disch:=omega) only [zI]);repeat first | intro _ | refine ⟨by omega,?_⟩
   refine hK _ ?_;clear hK K;refine zw (zk [2,7,8,9,10,11,35]) ?_;simp only [go_sem]
   repeat refine zq ?_
   refine zd ?_
   repeat refine zq ?_
   refine zb fun K hK=>?_;simp only [go_sem,hq0];(try simp (disch:=omega) only [zI]);repeat first | intro _ | refine ⟨by omega,?_⟩
   refine hK _ ?_;clear hK K;refine zw (zk [2,7,8,9,10,11,35,75]) ?_;simp only [go_sem]
   repeat refine zq ?_
   refine zc rfl (fun hc=>?_) (fun hc=>?_) <;> (try simp only [go_sem] at hc)
   repeat refine zq ?_
   refine zb fun K hK=>?_;simp only [go_sem,hq1];(try simp (disch:=omega) only [zI]);repeat first | intro _ | refine ⟨by omega,?_⟩
   refine hK _ ?_;clear hK K;refine zw (zk [2,7,8,9,10,11,176]) ?_;simp only [go_sem]
   repeat refine zq ?_
   refine zc rfl (fun hc=>?_) (fun hc=>?_) <;> (try simp only [go_sem] at hc)
   repeat refine zq ?_
   refine zb fun K hK=>?_;simp only [go_sem];(try simp (disch:=omega) only [zI]);repeat first | intro _ | refine ⟨by omega,?_⟩
   refine hK _ ?_;clear hK K;refine zw (zk [2,7,8,9,10,11,17]) ?_;simp only [go_sem]
   repeat refine zq ?_
   refine zd ?_
   refine awp_uptoV (n:=349) r.ends.length (fun k vs=>[(2,.r (it8 wh)),(7,.r (.rp (ruC r))),(8,.r (tabR (tabF r false))),(9,.r (tabR (tabF r true))),(10,.r (i64 0)),(11,.pt 11 (vs 11) 0),(17,.r (i64 (k : Int)))])
    (fun k vs=>[(11,.box [.r (i64 r.d),.r (aimsR r.aims),.r (i64 r.start),.r (i64 r.out),.os 701 (vs 701) 2 0 r.ends.length]),(701,.arr 52 2 (((r.ends.take k).map (moreE wh) ++ r.ends.drop k).map spanR))]) (fun _=>True) 0 (zj [] ?_ ?_) (Nat.zero_le _) trivial ?_
   · try simp only [go_sem]
   · try simp only [go_sem]
   · intro k vs hk _
     repeat refine zq ?_
     refine zb fun K hK=>?_;simp only [go_sem];(try simp (disch:=omega) only [zI]);repeat first | intro _ | refine ⟨by omega,?_⟩
     refine hK _ ?_;clear hK K;refine zw (zk [2,7,8,9,10,11,17,40]) ?_;simp only [go_sem]
     repeat refine zq ?_
     refine zc rfl (fun hc=>?_) (fun hc=>?_) <;> (try simp only [go_sem] at hc)
     · have hck : k < r.ends.length:=by omega
       obtain ⟨e,hek⟩:=opt_of_lt hck
       obtain ⟨q1,q2,q3⟩:=endOk_le (hG.ends e (mem_of_opt hek))
       have hLe:=map_mix_get (f:=(moreE wh)) hek
       have hLs:=map_mix (f:=(moreE wh)) hek
       have hLl:=map_mix_len (f:=(moreE wh)) (l:=r.ends) (k:=k)
       generalize (r.ends.take k).map (moreE wh) ++ r.ends.drop k = L at hLe hLs hLl ⊢
       have hkl : k < L.length:=by omega
       have hme : (L.map spanR)[k]? = some [i64 e.1,i64 e.2]:=by simp [hLe,spanR]
       have hme1 : L[k]? = some e:=hLe
       have hme2 : spanR e = [i64 e.1,i64 e.2]:=rfl
       have hset : ∀ x,((L.map spanR).set k x)[k]? = some x:=fun x=>List.getElem?_set_self (by simpa using hkl)
       have hsetD : ∀ x,((L.map spanR).set k x).getD k [] = x:=fun x=>by rw [List.getD_eq_getElem?_getD,hset]; rfl
       have hww : IntKind.i64.wrap wh = wh:=by rw [zI] <;> omega
       have hw9 : IntKind.i64.wrap (999 * wh) = 999 * wh:=by rw [zI] <;> omega
       have hw10 : IntKind.i64.wrap (1000 * wh) = 1000 * wh:=by rw [zI] <;> omega
       have hw15 : IntKind.i64.wrap (e.1 + 999 * wh) = e.1 + 999 * wh:=by rw [zI] <;> omega
       have hw26 : IntKind.i64.wrap (e.2 + 1000 * wh) = e.2 + 1000 * wh:=by rw [zI] <;> omega
       refine zx ?_
       try simp only [go_sem]
       repeat refine zq ?_
       refine zd ?_
       repeat refine zq ?_
       refine awp_inv (n:=349) (moF wh r k e) (moR wh r (aimsR r.aims) L k e) follows (by kernel_rfl) (by kernel_rfl) (by decide +kernel) (zj [] ?_ ?_) ?_ ?_
       · simp only [go_sem,moF,vI,if_true,if_false,Bool.false_eq_true]
       · simp only [go_sem,moR,cond_false,List.cons_append,List.nil_append]
       · refine ⟨fun b vs hdn hbk hde=>?_,fun b vs hdn hbk hde=>?_,fun b vs hdn hbk hde=>?_,fun b vs hdn hbk hde=>?_,fun b vs hdn hbk hde=>?_,fun b vs hdn hbk hde=>?_,fun b vs hdn hbk hde=>?_,fun b vs hdn hbk hde=>?_,fun b vs hdn hbk hde=>?_,fun b vs hdn hbk hde=>?_,fun b vs hdn hbk hde=>?_,fun b vs hdn hbk hde=>?_,fun b vs hdn hbk hde=>?_,fun b vs hdn hbk hde=>?_,fun b vs hdn hbk hde=>?_,fun b vs hdn hbk hde=>?_,fun b vs hdn hbk hde=>?_,fun b vs hdn hbk hde=>?_,fun b vs hdn hbk hde=>?_,fun b vs hdn hbk hde=>?_,fun b vs hdn hbk hde=>?_,fun b vs hdn hbk hde=>?_,fun b vs hdn hbk hde=>?_,fun b vs hdn hbk hde=>?_,fun b vs hdn hbk hde=>?_,fun b vs hdn hbk hde=>?_,fun b vs hdn hbk hde=>?_,fun b vs hdn hbk hde=>?_,fun b vs hdn hbk hde=>?_,fun b vs hdn hbk hde=>?_,fun b vs hdn hbk hde=>?_,fun b vs hdn hbk hde=>?_,fun b vs hdn hbk hde=>?_,fun b vs hdn hbk hde=>?_,trivial⟩
         · skip
           have G:=dnT hdn hbk [1,28,29,30,31,32,33] (by decide +kernel)
           simp only [allB,and_true] at G
           (simp only [go_sem,moF,moR,upd,vI,cond_true,cond_false,if_true,Bool.false_eq_true,if_false,hbk,G])
           all_goals (refine zj [] ?_ ?_ <;> (simp only [go_sem,moF,moR,upd,vI,cond_true,cond_false,if_true,Bool.false_eq_true,if_false,hbk,G]))
         · skip
           have H:=upT hdn hde [0] (by decide +kernel)
           have G:=dnT hdn hbk [28,29,30,31,32,33] (by decide +kernel)
           simp only [allB,and_true] at H G
           (simp only [go_sem,moF,moR,upd,vI,cond_true,cond_false,if_true,Bool.false_eq_true,if_false,hbk,H,G])
           all_goals (refine zj [] ?_ ?_ <;> (simp only [go_sem,moF,moR,upd,vI,cond_true,cond_false,if_true,Bool.false_eq_true,if_false,hbk,H,G]))
         · skip
           have G:=dnT hdn hbk [28,29,30,31,32,33] (by decide +kernel)
           simp only [allB,and_true] at G
           (simp only [go_sem,moF,moR,upd,vI,cond_true,cond_false,if_true,Bool.false_eq_true,if_false,hbk,G])
           all_goals (refine zj [] ?_ ?_ <;> (simp only [go_sem,moF,moR,upd,vI,cond_true,cond_false,if_true,Bool.false_eq_true,if_false,hbk,G]))
         · skip
           have G:=dnT hdn hbk [4,31,32,33] (by decide +kernel)
           simp only [allB,and_true] at G
           cases g30 : b 30
           all_goals (simp only [go_sem,moF,moR,upd,vI,cond_true,cond_false,if_true,Bool.false_eq_true,if_false,hbk,G,g30])
           all_goals (refine zj [] ?_ ?_ <;> (simp only [go_sem,moF,moR,upd,vI,cond_true,cond_false,if_true,Bool.false_eq_true,if_false,hbk,G,g30]))
         · skip
           have H:=upT hdn hde [3] (by decide +kernel)
           have G:=dnT hdn hbk [31,32,33] (by decide +kernel)
           simp only [allB,and_true] at H G
           cases g30 : b 30
           all_goals (simp only [go_sem,moF,moR,upd,vI,cond_true,cond_false,if_true,Bool.false_eq_true,if_false,hbk,H,G,g30])
           all_goals (refine zj [] ?_ ?_ <;> (simp only [go_sem,moF,moR,upd,vI,cond_true,cond_false,if_true,Bool.false_eq_true,if_false,hbk,H,G,g30]))
         · skip
           have G:=dnT hdn hbk [31,32,33] (by decide +kernel)
           simp only [allB,and_true] at G
           cases g30 : b 30
           all_goals (simp only [go_sem,moF,moR,upd,vI,cond_true,cond_false,if_true,Bool.false_eq_true,if_false,hbk,G,g30])
           all_goals (refine zj [] ?_ ?_ <;> (simp only [go_sem,moF,moR,upd,vI,cond_true,cond_false,if_true,Bool.false_eq_true,if_false,hbk,G,g30]))
         · skip
           have G:=dnT hdn hbk [7,28,29,30,31,32,33,9,10,11,15,16] (by decide +kernel)
           simp only [allB,and_true] at G
           (simp only [go_sem,moF,moR,upd,vI,cond_true,cond_false,if_true,Bool.false_eq_true,if_false,hbk,G])
           all_goals (refine zj [] ?_ ?_ <;> (simp only [go_sem,moF,moR,upd,vI,cond_true,cond_false,if_true,Bool.false_eq_true,if_false,hbk,G]))
         · skip
           have H:=upT hdn hde [6] (by decide +kernel)
           have G:=dnT hdn hbk [9,28,29,30,31,32,33,10,11,15,16] (by decide +kernel)
           simp only [allB,and_true] at H G
           (simp only [go_sem,moF,moR,upd,vI,cond_true,cond_false,if_true,Bool.false_eq_true,if_false,hbk,H,G])
           all_goals (refine zj [] ?_ ?_ <;> (simp only [go_sem,moF,moR,upd,vI,cond_true,cond_false,if_true,Bool.false_eq_true,if_false,hbk,H,G]))
         · skip
           have G:=dnT hdn hbk [9,28,29,30,31,32,33,10,11,15,16] (by decide +kernel)
           simp only [allB,and_true] at G
           (simp only [go_sem,moF,moR,upd,vI,cond_true,cond_false,if_true,Bool.false_eq_true,if_false,hbk,G])
           all_goals (refine zj [] ?_ ?_ <;> (simp only [go_sem,moF,moR,upd,vI,cond_true,cond_false,if_true,Bool.false_eq_true,if_false,hbk,G]))
         · skip
           have H:=upT hdn hde [7,8,6] (by decide +kernel)
           have G:=dnT hdn hbk [10,28,29,30,31,32,33,11,15,16] (by decide +kernel)
           simp only [allB,and_true] at H G
           (simp only [go_sem,moF,moR,upd,vI,cond_true,cond_false,if_true,Bool.false_eq_true,if_false,hbk,H,G,hkl,hww,hw9,hw10,hw15,hw26,hme1,hme2])
           all_goals refine ⟨hck,?_⟩
           all_goals (refine zj [] ?_ ?_ <;> (simp only [go_sem,moF,moR,upd,vI,cond_true,cond_false,if_true,Bool.false_eq_true,if_false,hbk,H,G,hkl,hww,hw9,hw10,hw15,hw26,hme1,hme2]))
         · skip
           have H:=upT hdn hde [9,7,8,6] (by decide +kernel)
           have G:=dnT hdn hbk [11,28,29,30,31,32,33,15,16] (by decide +kernel)
           simp only [allB,and_true] at H G
           (simp only [go_sem,moF,moR,upd,vI,cond_true,cond_false,if_true,Bool.false_eq_true,if_false,hbk,H,G])
           all_goals (refine zj [] ?_ ?_ <;> (simp only [go_sem,moF,moR,upd,vI,cond_true,cond_false,if_true,Bool.false_eq_true,if_false,hbk,H,G]))
         · skip
           have H:=upT hdn hde [10,9,7,8,6] (by decide +kernel)
           have G:=dnT hdn hbk [15,28,29,30,31,32,33,16] (by decide +kernel)
           simp only [allB,and_true] at H G
           (simp only [go_sem,moF,moR,upd,vI,cond_true,cond_false,if_true,Bool.false_eq_true,if_false,hbk,H,G,hkl,hww,hw9,hw10,hw15,hw26,hme1,hme2,hme,hset,hsetD,List.take_succ_cons,List.take_zero,List.drop_succ_cons,List.drop_zero,List.set_set,List.set_cons_zero,List.set_cons_succ,List.getElem?_cons_zero,List.getElem?_cons_succ,List.length_set,List.length_map])
           all_goals (refine zj [] ?_ ?_ <;> (simp only [go_sem,moF,moR,upd,vI,cond_true,cond_false,if_true,Bool.false_eq_true,if_false,hbk,H,G,hkl,hww,hw9,hw10,hw15,hw26,hme1,hme2,hme,hset,hsetD,List.take_succ_cons,List.take_zero,List.drop_succ_cons,List.drop_zero,List.set_set,List.set_cons_zero,List.set_cons_succ,List.getElem?_cons_zero,List.getElem?_cons_succ,List.length_set,List.length_map]))
         · skip
           have G:=dnT hdn hbk [13,28,29,30,31,32,33,14,15,16] (by decide +kernel)
           simp only [allB,and_true] at G
           (simp only [go_sem,moF,moR,upd,vI,cond_true,cond_false,if_true,Bool.false_eq_true,if_false,hbk,G])
           all_goals (refine zj [] ?_ ?_ <;> (simp only [go_sem,moF,moR,upd,vI,cond_true,cond_false,if_true,Bool.false_eq_true,if_false,hbk,G]))
         · skip
           have H:=upT hdn hde [12] (by decide +kernel)
           have G:=dnT hdn hbk [14,28,29,30,31,32,33,15,16] (by decide +kernel)
           simp only [allB,and_true] at H G
           (simp only [go_sem,moF,moR,upd,vI,cond_true,cond_false,if_true,Bool.false_eq_true,if_false,hbk,H,G,hkl,hww,hw9,hw10,hw15,hw26,hme1,hme2])
           all_goals (refine zj [] ?_ ?_ <;> (simp only [go_sem,moF,moR,upd,vI,cond_true,cond_false,if_true,Bool.false_eq_true,if_false,hbk,H,G,hkl,hww,hw9,hw10,hw15,hw26,hme1,hme2]))
         · skip
           have H:=upT hdn hde [13,12] (by decide +kernel)
           have G:=dnT hdn hbk [15,28,29,30,31,32,33,16] (by decide +kernel)
           simp only [allB,and_true] at H G
           (simp only [go_sem,moF,moR,upd,vI,cond_true,cond_false,if_true,Bool.false_eq_true,if_false,hbk,H,G,hkl,hww,hw9,hw10,hw15,hw26,hme1,hme2])
           all_goals (refine zj [] ?_ ?_ <;> (simp only [go_sem,moF,moR,upd,vI,cond_true,cond_false,if_true,Bool.false_eq_true,if_false,hbk,H,G,hkl,hww,hw9,hw10,hw15,hw26,hme1,hme2]))
         · skip
           have H:=upT hdn hde [11,14,10,13,9,12,7,8,6] (by decide +kernel)
           have G:=dnT hdn hbk [16,28,29,30,31,32,33] (by decide +kernel)
           simp only [allB,and_true] at H G
           (simp only [go_sem,moF,moR,upd,vI,cond_true,cond_false,if_true,Bool.false_eq_true,if_false,hbk,H,G,hkl,hww,hw9,hw10,hw15,hw26,hme1,hme2])
           all_goals (refine zj [] ?_ ?_ <;> (simp only [go_sem,moF,moR,upd,vI,cond_true,cond_false,if_true,Bool.false_eq_true,if_false,hbk,H,G,hkl,hww,hw9,hw10,hw15,hw26,hme1,hme2]))
         · skip
           have H:=upT hdn hde [15,11,14,10,13,9,12,7,8,6] (by decide +kernel)
           have G:=dnT hdn hbk [28,29,30,31,32,33] (by decide +kernel)
           simp only [allB,and_true] at H G
           (simp only [go_sem,moF,moR,upd,vI,cond_true,cond_false,if_true,Bool.false_eq_true,if_false,hbk,H,G,hkl,hww,hw9,hw10,hw15,hw26,hme1,hme2])
           all_goals (refine zj [] ?_ ?_ <;> (simp only [go_sem,moF,moR,upd,vI,cond_true,cond_false,if_true,Bool.false_eq_true,if_false,hbk,H,G,hkl,hww,hw9,hw10,hw15,hw26,hme1,hme2]))
         · skip
           have G:=dnT hdn hbk [18,31,32,33,20,21,22,26,28,29,30,27] (by decide +kernel)
           simp only [allB,and_true] at G
           (simp only [go_sem,moF,moR,upd,vI,cond_true,cond_false,if_true,Bool.false_eq_true,if_false,hbk,G])
           all_goals (refine zj [] ?_ ?_ <;> (simp only [go_sem,moF,moR,upd,vI,cond_true,cond_false,if_true,Bool.false_eq_true,if_false,hbk,G]))
         · skip
           have H:=upT hdn hde [17] (by decide +kernel)
           have G:=dnT hdn hbk [20,31,32,33,21,22,26,28,29,30,27] (by decide +kernel)
           simp only [allB,and_true] at H G
           (simp only [go_sem,moF,moR,upd,vI,cond_true,cond_false,if_true,Bool.false_eq_true,if_false,hbk,H,G])
           all_goals (refine zj [] ?_ ?_ <;> (simp only [go_sem,moF,moR,upd,vI,cond_true,cond_false,if_true,Bool.false_eq_true,if_false,hbk,H,G]))
         · skip
           have G:=dnT hdn hbk [20,31,32,33,21,22,26,28,29,30,27] (by decide +kernel)
           simp only [allB,and_true] at G
           (simp only [go_sem,moF,moR,upd,vI,cond_true,cond_false,if_true,Bool.false_eq_true,if_false,hbk,G])
           all_goals (refine zj [] ?_ ?_ <;> (simp only [go_sem,moF,moR,upd,vI,cond_true,cond_false,if_true,Bool.false_eq_true,if_false,hbk,G]))
         · skip
           have H:=upT hdn hde [18,19,17] (by decide +kernel)
           have G:=dnT hdn hbk [21,31,32,33,22,26,28,29,30,27] (by decide +kernel)
           simp only [allB,and_true] at H G
           (simp only [go_sem,moF,moR,upd,vI,cond_true,cond_false,if_true,Bool.false_eq_true,if_false,hbk,H,G,hkl,hww,hw9,hw10,hw15,hw26,hme1,hme2])
           all_goals refine ⟨hck,?_⟩
           all_goals (refine zj [] ?_ ?_ <;> (simp only [go_sem,moF,moR,upd,vI,cond_true,cond_false,if_true,Bool.false_eq_true,if_false,hbk,H,G,hkl,hww,hw9,hw10,hw15,hw26,hme1,hme2]))
         · skip
           have H:=upT hdn hde [20,18,19,17] (by decide +kernel)
           have G:=dnT hdn hbk [22,31,32,33,26,28,29,30,27] (by decide +kernel)
           simp only [allB,and_true] at H G
           (simp only [go_sem,moF,moR,upd,vI,cond_true,cond_false,if_true,Bool.false_eq_true,if_false,hbk,H,G])
           all_goals (refine zj [] ?_ ?_ <;> (simp only [go_sem,moF,moR,upd,vI,cond_true,cond_false,if_true,Bool.false_eq_true,if_false,hbk,H,G]))
         · skip
           have H:=upT hdn hde [21,20,18,19,17] (by decide +kernel)
           have G:=dnT hdn hbk [26,28,29,30,31,32,33,27] (by decide +kernel)
           simp only [allB,and_true] at H G
           (simp only [go_sem,moF,moR,upd,vI,cond_true,cond_false,if_true,Bool.false_eq_true,if_false,hbk,H,G,hkl,hww,hw9,hw10,hw15,hw26,hme1,hme2,hme,hset,hsetD,List.take_succ_cons,List.take_zero,List.drop_succ_cons,List.drop_zero,List.set_set,List.set_cons_zero,List.set_cons_succ,List.getElem?_cons_zero,List.getElem?_cons_succ,List.length_set,List.length_map])
           all_goals (refine zj [] ?_ ?_ <;> (simp only [go_sem,moF,moR,upd,vI,cond_true,cond_false,if_true,Bool.false_eq_true,if_false,hbk,H,G,hkl,hww,hw9,hw10,hw15,hw26,hme1,hme2,hme,hset,hsetD,List.take_succ_cons,List.take_zero,List.drop_succ_cons,List.drop_zero,List.set_set,List.set_cons_zero,List.set_cons_succ,List.getElem?_cons_zero,List.getElem?_cons_succ,List.length_set,List.length_map]))
         · skip
           have G:=dnT hdn hbk [24,31,32,33,25,26,27] (by decide +kernel)
           simp only [allB,and_true] at G
           cases g30 : b 30
           all_goals (simp only [go_sem,moF,moR,upd,vI,cond_true,cond_false,if_true,Bool.false_eq_true,if_false,hbk,G,g30])
           all_goals (refine zj [] ?_ ?_ <;> (simp only [go_sem,moF,moR,upd,vI,cond_true,cond_false,if_true,Bool.false_eq_true,if_false,hbk,G,g30]))
         · skip
           have H:=upT hdn hde [23] (by decide +kernel)
           have G:=dnT hdn hbk [25,31,32,33,26,27] (by decide +kernel)
           simp only [allB,and_true] at H G
           cases g30 : b 30
           all_goals (simp only [go_sem,moF,moR,upd,vI,cond_true,cond_false,if_true,Bool.false_eq_true,if_false,hbk,H,G,g30,hkl,hww,hw9,hw10,hw15,hw26,hme1,hme2])
           all_goals (refine zj [] ?_ ?_ <;> (simp only [go_sem,moF,moR,upd,vI,cond_true,cond_false,if_true,Bool.false_eq_true,if_false,hbk,H,G,g30,hkl,hww,hw9,hw10,hw15,hw26,hme1,hme2]))
         · skip
           have H:=upT hdn hde [24,23] (by decide +kernel)
           have G:=dnT hdn hbk [26,31,32,33,27] (by decide +kernel)
           simp only [allB,and_true] at H G
           cases g30 : b 30
           all_goals (simp only [go_sem,moF,moR,upd,vI,cond_true,cond_false,if_true,Bool.false_eq_true,if_false,hbk,H,G,g30,hkl,hww,hw9,hw10,hw15,hw26,hme1,hme2])
           all_goals (refine zj [] ?_ ?_ <;> (simp only [go_sem,moF,moR,upd,vI,cond_true,cond_false,if_true,Bool.false_eq_true,if_false,hbk,H,G,g30,hkl,hww,hw9,hw10,hw15,hw26,hme1,hme2]))
         · skip
           have H:=upT hdn hde [22,25,21,24,20,23,18,19,17] (by decide +kernel)
           have G:=dnT hdn hbk [27,31,32,33] (by decide +kernel)
           simp only [allB,and_true] at H G
           cases g30 : b 30
           all_goals (simp only [go_sem,moF,moR,upd,vI,cond_true,cond_false,if_true,Bool.false_eq_true,if_false,hbk,H,G,g30,hkl,hww,hw9,hw10,hw15,hw26,hme1,hme2])
           all_goals (refine zj [] ?_ ?_ <;> (simp only [go_sem,moF,moR,upd,vI,cond_true,cond_false,if_true,Bool.false_eq_true,if_false,hbk,H,G,g30,hkl,hww,hw9,hw10,hw15,hw26,hme1,hme2]))
         · skip
           have H:=upT hdn hde [26,22,25,21,24,20,23,18,19,17] (by decide +kernel)
           have G:=dnT hdn hbk [31,32,33] (by decide +kernel)
           simp only [allB,and_true] at H G
           cases g30 : b 30
           all_goals (simp only [go_sem,moF,moR,upd,vI,cond_true,cond_false,if_true,Bool.false_eq_true,if_false,hbk,H,G,g30,hkl,hww,hw9,hw10,hw15,hw26,hme1,hme2])
           all_goals (refine zj [] ?_ ?_ <;> (simp only [go_sem,moF,moR,upd,vI,cond_true,cond_false,if_true,Bool.false_eq_true,if_false,hbk,H,G,g30,hkl,hww,hw9,hw10,hw15,hw26,hme1,hme2]))
         · skip
           have H:=upT hdn hde [0,1,1,2,2,6,7,8,9,10,11,12,13,14,15,16,22,21,20,18,19,17] (by decide +kernel)
           have G:=dnT hdn hbk [29,31,32,33,30] (by decide +kernel)
           simp only [allB,and_true] at H G
           (simp only [go_sem,moF,moR,upd,vI,cond_true,cond_false,if_true,Bool.false_eq_true,if_false,hbk,H,G,hkl,hww,hw9,hw10,hw15,hw26,hme1,hme2])
           all_goals refine ⟨hck,?_⟩
           all_goals (refine zj [] ?_ ?_ <;> (simp only [go_sem,moF,moR,upd,vI,cond_true,cond_false,if_true,Bool.false_eq_true,if_false,hbk,H,G,hkl,hww,hw9,hw10,hw15,hw26,hme1,hme2]))
         · skip
           have H:=upT hdn hde [0,1,2,6,7,8,9,10,11,12,13,14,15,16,22,28,21,20,18,19,17] (by decide +kernel)
           have G:=dnT hdn hbk [30,31,32,33] (by decide +kernel)
           simp only [allB,and_true] at H G
           (simp only [go_sem,moF,moR,upd,vI,cond_true,cond_false,if_true,Bool.false_eq_true,if_false,hbk,H,G])
           all_goals (refine zj [] ?_ ?_ <;> (simp only [go_sem,moF,moR,upd,vI,cond_true,cond_false,if_true,Bool.false_eq_true,if_false,hbk,H,G]))
         · skip
           have H:=upT hdn hde [0,1,2,6,7,8,9,10,11,12,13,14,15,16,16,22,29,21,28,20,18,19,17] (by decide +kernel)
           have G:=dnT hdn hbk [31,32,33] (by decide +kernel)
           simp only [allB,and_true] at H G
           (simp only [go_sem,moF,moR,upd,vI,cond_true,cond_false,if_true,Bool.false_eq_true,if_false,hbk,H,G,hkl,hww,hw9,hw10,hw15,hw26,hme1,hme2,hme,hset,hsetD,List.take_succ_cons,List.take_zero,List.drop_succ_cons,List.drop_zero,List.set_set,List.set_cons_zero,List.set_cons_succ,List.getElem?_cons_zero,List.getElem?_cons_succ,List.length_set,List.length_map])
           all_goals (refine zj [] ?_ ?_ <;> (simp only [go_sem,moF,moR,upd,vI,cond_true,cond_false,if_true,Bool.false_eq_true,if_false,hbk,H,G,hkl,hww,hw9,hw10,hw15,hw26,hme1,hme2,hme,hset,hsetD,List.take_succ_cons,List.take_zero,List.drop_succ_cons,List.drop_zero,List.set_set,List.set_cons_zero,List.set_cons_succ,List.getElem?_cons_zero,List.getElem?_cons_succ,List.length_set,List.length_map]))
         · skip
           have H:=upT hdn hde [0,1,2,3,4,4,5,5,6,7,8,9,10,11,12,13,14,15,16,17,18,19,20,21,22,23,24,25,26,27,28,29,30] (by decide +kernel)
           have G:=dnT hdn hbk [32,33] (by decide +kernel)
           simp only [allB,and_true] at H G
           (simp only [go_sem,moF,moR,upd,vI,cond_true,cond_false,if_true,Bool.false_eq_true,if_false,hbk,H,G,hkl,hww,hw9,hw10,hw15,hw26,hme1,hme2])
           all_goals refine ⟨hck,?_⟩
           all_goals (refine zj [] ?_ ?_ <;> (simp only [go_sem,moF,moR,upd,vI,cond_true,cond_false,if_true,Bool.false_eq_true,if_false,hbk,H,G,hkl,hww,hw9,hw10,hw15,hw26,hme1,hme2]))
         · skip
           have H:=upT hdn hde [0,1,2,3,4,5,6,7,8,9,10,11,12,13,14,15,16,17,18,19,20,21,22,23,24,25,26,27,28,29,30,31] (by decide +kernel)
           have G:=dnT hdn hbk [33] (by decide +kernel)
           simp only [allB,and_true] at H G
           (simp only [go_sem,moF,moR,upd,vI,cond_true,cond_false,if_true,Bool.false_eq_true,if_false,hbk,H,G])
           all_goals (refine zj [] ?_ ?_ <;> (simp only [go_sem,moF,moR,upd,vI,cond_true,cond_false,if_true,Bool.false_eq_true,if_false,hbk,H,G]))
         · skip
           have H:=upT hdn hde [0,1,2,3,4,5,6,7,8,9,10,11,12,13,14,15,16,17,18,19,20,21,22,23,24,25,26,27,27,28,29,30,30,32,31] (by decide +kernel)
           simp only [allB,and_true] at H
           (simp only [go_sem,moF,moR,upd,vI,cond_true,cond_false,if_true,Bool.false_eq_true,if_false,hbk,H,hkl,hww,hw9,hw10,hw15,hw26,hme1,hme2,hme,hset,hsetD,List.take_succ_cons,List.take_zero,List.drop_succ_cons,List.drop_zero,List.set_set,List.set_cons_zero,List.set_cons_succ,List.getElem?_cons_zero,List.getElem?_cons_succ,List.length_set,List.length_map])
           all_goals (refine zj [] ?_ ?_ <;> (simp only [go_sem,moF,moR,upd,vI,cond_true,cond_false,if_true,Bool.false_eq_true,if_false,hbk,H,hkl,hww,hw9,hw10,hw15,hw26,hme1,hme2,hme,hset,hsetD,List.take_succ_cons,List.take_zero,List.drop_succ_cons,List.drop_zero,List.set_set,List.set_cons_zero,List.set_cons_succ,List.getElem?_cons_zero,List.getElem?_cons_succ,List.length_set,List.length_map]))
       intro b vs hb
       simp only [go_sem,moF,moR,vI,hb,if_true,cond_true,List.cons_append,List.nil_append];refine zw (zk [2,7,8,9,10,11,17]) ?_;simp only [go_sem]
       repeat refine zq ?_
       refine zb fun K hK=>?_;simp only [go_sem];(try simp (disch:=omega) only [zI]);repeat first | intro _ | refine ⟨by omega,?_⟩
       refine hK _ ?_;clear hK K
       try simp only [go_sem]
       refine ⟨by omega,zj [] ?_ ?_⟩
       · try simp only [go_sem]
       · try simp only [go_sem]
         rw [← hLs,List.map_set]
         rfl
     · have hke : k = r.ends.length:=by omega
       subst hke
       have hLe : (r.ends.take r.ends.length).map (moreE wh) ++ r.ends.drop r.ends.length = r.ends.map (moreE wh):=by rw [List.take_length,List.drop_length,List.append_nil]
       rw [hLe]
       refine zf ?_;simp only [go_sem]
       try simp only [go_sem]
       refine ⟨moreR r wh,hbet,fitV_sub (sub_frzB 11 4 701 (ty:=52) (sz:=2) (off:=0) (m:=r.ends.length) (es:=(r.ends.map (moreE wh)).map spanR) (by omega) (by omega) rfl (by simp only [go_sem,List.getElem?_cons_succ,List.getElem?_cons_zero]) (by rfl) (by simp)) ?_⟩
       have e2 : (((r.ends.map (moreE wh)).map spanR).drop 0).take r.ends.length = (r.ends.map (moreE wh)).map spanR:=by
        rw [List.drop_zero,List.take_of_length_le (by simp)]
       rw [e2]
       refine fitV_sub (sub_frzP 11 11 (ruC (moreR r wh)) (by omega) rfl (by simp only [go_sem,narRv,moreR,lessR,hfrz])) (zj [] ?_ ?_)
       · try simp only [go_sem]
       · try simp only [go_sem]
end Go.Proofs.Ytlbfkhikmigpbaa

namespace Go.Oc
open Go Go.RowKit Go.ChangeShapes Go.WideShapes
inductive Sh where
 | int (k : IntKind)
 | bool
 | sl (es : List Sh)
def fieldsSh (P : Program) (sh : TypeId → Option (List Sh)) : List Field → Nat → Option (List Sh)
 | [],_=>some []
 | f :: fs, o =>
   match sh f.type with
   | some ss=>if f.offset == o && ss.length == P.cellsOf f.type then match fieldsSh P sh fs (o + ss.length) with | some q=>some (ss ++ q) | none=>none else none
   | none=>none
def shape (P : Program) : Nat → TypeId → Option (List Sh)
 | 0,_=>none
 | n + 1, t =>
   match P.underlying t with
   | some (.int k)=>some [.int k]
   | some .bool=>some [.bool]
   | some (.slice e) =>
     match shape P n e with
     | some ss=>if ss.length == P.cellsOf e && decide (0 < ss.length) then some [.sl ss] else none
     | none=>none
   | some (.array m e) =>
     match shape P n e with
     | some ss=>if ss.length == P.cellsOf e && P.cellsOf t == m * ss.length then some (List.replicate m ss).flatten else none
     | none=>none
   | some (.struct fs) =>
     match fieldsSh P (shape P n) fs.toList 0 with
     | some ss=>if ss.length == P.cellsOf t then some ss else none
     | none=>none
   | _=>none
mutual
def Fits : Sh → RV → Prop
 | .int k,x=>∃ n,x = .it k n ∧ (Lit.int k n).wf = true
 | .bool,x=>∃ b,x = .bo b
 | .sl ss,x=>∃ es,x = .sl ss.length es ∧ FitsE ss es
def FitsL : List Sh → List RV → Prop
 | [],xs=>xs = []
 | s :: ss,xs=>∃ y ys,xs = y :: ys ∧ Fits s y ∧ FitsL ss ys
def FitsE (ss : List Sh) : List (List RV) → Prop
 | []=>True
 | e :: es=>FitsL ss e ∧ FitsE ss es
end
theorem fitsL_append : ∀ {s1 s2 : List Sh} {x1 x2 : List RV},FitsL s1 x1 → FitsL s2 x2 → FitsL (s1 ++ s2) (x1 ++ x2)
 | [],_,_,_,h1,h2=>by simp only [FitsL] at h1; subst h1; simpa using h2
 | s :: ss, s2, x1, x2, h1, h2 => by
   simp only [FitsL] at h1
   obtain ⟨y,ys,rfl,h3,h4⟩:=h1
   simp only [List.cons_append,FitsL];exact ⟨y,_,rfl,h3,fitsL_append h4 h2⟩
theorem fitsL_length : ∀ {ss : List Sh} {xs : List RV},FitsL ss xs → xs.length = ss.length
 | [],_,h=>by simp only [FitsL] at h; subst h; rfl
 | s :: ss, _, h => by
   simp only [FitsL] at h
   obtain ⟨y,ys,rfl,_,h⟩:=h
   simp [fitsL_length h]
theorem fitsE_of : ∀ {ss : List Sh} {es : List (List RV)},(∀ e ∈ es,FitsL ss e) → FitsE ss es
 | _,[],_=>by simp only [FitsE]
 | ss,e :: es,h=>by simp only [FitsE]; exact ⟨h e (by simp),fitsE_of fun x hx=>h x (by simp [hx])⟩
theorem choice {α : Type} {Q : Nat → α → Prop} : ∀ (n : Nat),(∀ i,i < n → ∃ x,Q i x) → ∃ xs : List α,xs.length = n ∧ ∀ i x,xs[i]? = some x → Q i x
 | 0,_=>⟨[],rfl,by simp⟩
 | n + 1, h => by
   obtain ⟨xs,hl,hx⟩:=choice n fun i hi=>h i (by omega)
   obtain ⟨y,hy⟩:=h n (by omega)
   refine ⟨xs ++ [y],by simp [hl],fun i x hi=>?_⟩
   by_cases h1 : i < n
   · rw [List.getElem?_append_left (by omega)] at hi; exact hx i x hi
   · rw [List.getElem?_append_right (by omega)] at hi
     have : i = n:=by have:=(List.getElem?_eq_some_iff.1 hi).1; simp at this; omega
     subst this
     simp [hl] at hi
     exact hi ▸ hy
section
variable {w : World} {P : Program}
theorem cells?_get {base n : Nat} {a : Addr} {cs : List Value} (h : w.cells? base a n = some cs) : cs.length = n ∧ ∀ i,i < n → w.cell? (a.add i) = cs[i]?:=by
 unfold World.cells? at h
 split at h
 · exact ⟨by simpa using mapM_some_length h,fun i hi=>mapM_some_get h i i (by simp [hi])⟩
 · cases h
theorem cell_lt {a : Addr} {v : Value} (h : w.cell? a = some v) : a.block < w.heap.size:=by
 refine Decidable.byContradiction fun hn=>?_
 have : w.heap[a.block]? = none:=by simp; omega
 simp [World.cell?,this] at h
def old (w : World) : Nat → Prop:=fun b=>b < w.heap.size
theorem relC_of_cells {xs : List RV} {cs : List Value} {ad : Addr} (hV : RV.relV w (old w) xs cs) (hone : ∀ u ∈ cs,u.oneCell' = true) (hc : ∀ i,i < cs.length → w.cell? (ad.add i) = cs[i]?) : RV.relC w (old w) xs ad 0:=by
 refine RV.relC_of_get fun i x hx=>?_
 obtain ⟨u,hu,hr⟩:=RV.relV_get hV hx
 have hi:=(List.getElem?_eq_some_iff.1 hu).1
 refine ⟨u,?_,hone u (List.mem_of_getElem? hu),hr⟩
 rw [Nat.zero_add,hc i hi,hu]
variable {H : Type} {enc : TypeId × Value → H} {base : Nat} {spare : Nat → Bool} {held : Bool}
def Good3 (w : World) (ss : List Sh) (cs : List Value) : Prop:=∃ xs,FitsL ss xs ∧ RV.relV w (old w) xs cs ∧ ∀ u ∈ cs,u.oneCell' = true
theorem good3_append {s1 s2 : List Sh} {c1 c2 : List Value} (h1 : Good3 w s1 c1) (h2 : Good3 w s2 c2) : Good3 w (s1 ++ s2) (c1 ++ c2):=by
 obtain ⟨x1,f1,r1,o1⟩:=h1
 obtain ⟨x2,f2,r2,o2⟩:=h2
 refine ⟨x1 ++ x2,fitsL_append f1 f2,RV.relV_append r1 r2,fun u hu=>?_⟩
 rcases List.mem_append.1 hu with hu | hu
 · exact o1 u hu
 · exact o2 u hu
theorem trod_fits : ∀ (fuel n : Nat) (t : TypeId) (cs : List Value) (x : DataW H × List MemPlace) (ss : List Sh),DataW.trod enc P w base spare held fuel t cs = some x → shape P n t = some ss → Good3 w ss cs:=by
 intro fuel
 induction fuel with
 | zero=>intro n t cs x ss h; simp [DataW.trod] at h
 | succ fuel ih =>
   intro n t cs x ss h hs
   cases n with
   | zero=>simp [shape] at hs
   | succ n =>
     unfold shape at hs
     split at hs
     · rename_i k ht
       injection hs with hs; subst hs
       obtain ⟨m,rfl,_,hw⟩:=DataW.trod_int ht h
       exact ⟨[.it k m],by simp only [FitsL,Fits]; exact ⟨_,[],rfl,⟨m,rfl,hw⟩,rfl⟩,by simp only [RV.relV,RV.rel]; exact ⟨_,[],rfl,rfl,rfl⟩,by simp [Value.oneCell']⟩
     · rename_i ht
       injection hs with hs; subst hs
       obtain ⟨b,rfl,_⟩:=DataW.trod_bool ht h
       exact ⟨[.bo b],by simp only [FitsL,Fits]; exact ⟨_,[],rfl,⟨b,rfl⟩,rfl⟩,by simp only [RV.relV,RV.rel]; exact ⟨_,[],rfl,rfl,rfl⟩,by simp [Value.oneCell']⟩
     · rename_i e ht
       split at hs
       · rename_i es hes
         split at hs
         · rename_i hc
           simp only [Bool.and_eq_true,beq_iff_eq,decide_eq_true_eq] at hc
           injection hs with hs; subst hs
           rcases DataW.trod_slice ht h with ⟨rfl,_⟩ | ⟨a,len,cap,elems,rest,m,hm,rfl,_,_,hlc,hcm,hel,hget,_⟩
           · refine ⟨[.sl es.length []],?_,?_,by simp [Value.oneCell']⟩
             · simp only [FitsL,Fits];exact ⟨_,[],rfl,⟨[],rfl,by simp only [FitsE]⟩,rfl⟩
             · simp only [RV.relV,RV.rel];exact ⟨_,[],rfl,⟨none,0,rfl,Nat.le_refl _,Nat.zero_le _,fun h=>absurd rfl h⟩,rfl⟩
           · injection hm with hm; subst hm
             have hall : ∀ i,i < len → ∃ e',FitsL es e' ∧ e'.length = es.length ∧ RV.relC w (old w) e' (a.add (i * es.length)) 0 ∧ a.block < w.heap.size:=fun i hi=>by
              have h1:=hget i hi
              have h2 : i < elems.length:=by omega
              rw [List.getElem?_eq_getElem h2] at h1
              obtain ⟨ci,hci,htr⟩:=Option.bind_eq_some_iff.1 h1
              rw [← hc.1] at hci
              obtain ⟨hl,hcell⟩:=cells?_get hci
              obtain ⟨xs,f,r,o⟩:=ih n e ci _ es htr hes
              refine ⟨xs,f,fitsL_length f,relC_of_cells r o (fun j hj=>hcell j (by omega)),?_⟩
              have h3:=hcell 0 hc.2
              have h4 : 0 < ci.length:=by omega
              rw [List.getElem?_eq_getElem h4] at h3
              have:=cell_lt h3
              rwa [block_add,block_add] at this
             obtain ⟨els,hlen,hels⟩:=choice len hall
             refine ⟨[.sl es.length els],?_,?_,by simp [Value.oneCell']⟩
             · simp only [FitsL,Fits]
               refine ⟨_,[],rfl,⟨els,rfl,fitsE_of fun e' he'=>?_⟩,rfl⟩
               obtain ⟨i,hi⟩:=List.getElem?_of_mem he'
               exact (hels i e' hi).1
             · simp only [RV.relV,RV.rel]
               refine ⟨_,[],rfl,⟨some a,cap,by rw [hlen],by omega,hcm,fun hne=>?_⟩,rfl⟩
               obtain ⟨e0,he0⟩ : ∃ e0,els[0]? = some e0:=by
                cases els with
                | nil=>exact absurd rfl hne
                | cons a l=>exact ⟨a,rfl⟩
               refine ⟨a,rfl,(hels 0 e0 he0).2.2.2,RV.relE_of_get fun i e' he'=>?_⟩
               obtain ⟨_,q1,q2,_⟩:=hels i e' he'
               exact ⟨q1,RV.relC_unbase _ q2⟩
         · cases hs
       · cases hs
     · rename_i m e ht
       split at hs
       · rename_i es hes
         split at hs
         · rename_i hc
           simp only [Bool.and_eq_true,beq_iff_eq] at hc
           injection hs with hs; subst hs
           obtain ⟨xs,fm,hm,_,hcl,hxl,hget⟩:=DataW.trod_array ht h
           injection hm with hm; subst hm
           have key : ∀ j,j ≤ m → Good3 w (List.replicate j es).flatten (cs.take (j * es.length)):=by
            intro j
            induction j with
            | zero=>intro _; exact ⟨[],by simp [FitsL],by simp [RV.relV],by simp⟩
            | succ j ihj =>
              intro hj
              have h1:=hget j (by omega)
              have h2 : j < xs.length:=by omega
              rw [List.getElem?_eq_getElem h2,← hc.1] at h1
              have h3:=ih n e _ _ es h1 hes
              have:=good3_append (ihj (by omega)) h3
              rw [← List.take_add] at this
              rw [List.replicate_succ',List.flatten_append,Nat.add_mul]
              simpa using this
           have:=key m (Nat.le_refl _)
           rwa [← hc.2,← hcl,List.take_length] at this
         · cases hs
       · cases hs
     · rename_i fs ht
       split at hs
       · rename_i q hq
         split at hs
         · rename_i hc
           simp only [beq_iff_eq] at hc
           injection hs with hs; subst hs
           obtain ⟨xs,fm,hm,_,hcl,hxl,hget⟩:=DataW.trod_struct ht h
           injection hm with hm; subst hm
           have key : ∀ (l : List Field) (o : Nat) (q : List Sh),(∀ f ∈ l,∃ y,DataW.trod enc P w base spare held fuel f.type ((cs.drop f.offset).take (P.cellsOf f.type)) = some y) → fieldsSh P (shape P n) l o = some q → Good3 w q ((cs.drop o).take q.length):=by
            intro l
            induction l with
            | nil =>
              intro o q _ hq
              simp only [fieldsSh,Option.some.injEq] at hq
              subst hq
              exact ⟨[],by simp [FitsL],by simp [RV.relV],by simp⟩
            | cons f l ihl =>
              intro o q hall hq
              simp only [fieldsSh] at hq
              split at hq
              · rename_i s1 hs1
                split at hq
                · rename_i hc1
                  simp only [Bool.and_eq_true,beq_iff_eq] at hc1
                  split at hq
                  · rename_i q2 hq2
                    injection hq with hq; subst hq
                    obtain ⟨y,hy⟩:=hall f (by simp)
                    have g1:=ih n f.type _ _ s1 hy hs1
                    have g2:=ihl (o + s1.length) q2 (fun f' hf'=>hall f' (by simp [hf'])) hq2
                    rw [hc1.1,← hc1.2] at g1
                    have:=good3_append g1 g2
                    rw [← List.drop_drop,← List.take_add] at this
                    simpa using this
                  · cases hq
                · cases hq
              · cases hq
           have:=key fs.toList 0 q (fun f hf=>by
            obtain ⟨i,hi⟩:=List.getElem?_of_mem hf
            have hi' : fs[i]? = some f:=by simpa using hi
            have h1:=hget i f hi'
            have h2 : i < xs.length:=by have:=(Array.getElem?_eq_some_iff.1 hi').1; omega
            exact ⟨xs[i],by rw [h1]; exact List.getElem?_eq_getElem h2⟩) hq
           rwa [List.drop_zero,hc,← hcl,List.take_length] at this
         · cases hs
       · cases hs
     · cases hs
def FitsT (P : Program) (n : Nat) (t : TypeId) (x : RV) : Prop:=∃ ss,shape P n t = some ss ∧ if aggOf P t then ∃ xs,x = .ag xs ∧ FitsL ss xs else FitsL ss [x]
theorem arg_fits {n : Nat} {t : TypeId} {v : Value} {d : DataW H} {ps : List MemPlace} {r : Reach} {b0 : Nat} (hs : (shape P n t).isSome = true) (hval : Value.okWide P w r b0 t v) (h : DataW.Trod enc P w base spare held t v d ps) :
 ∃ x,FitsT P n t x ∧ x.rel w (old w) v:=by
 obtain ⟨ss,hss⟩:=Option.isSome_iff_exists.1 hs
 obtain ⟨fuel,hf⟩:=h
 obtain ⟨xs,f,r,o⟩:=trod_fits fuel n t _ _ ss hf hss
 have one : aggOf P t = false → v.cells.toList = [v] → ∃ x,FitsT P n t x ∧ x.rel w (old w) v:=fun ha hc=>by
  rw [hc] at r
  match xs,r with
  | [x], r =>
    simp only [RV.relV] at r
    obtain ⟨u,us,e,hr,_⟩:=r
    injection e with e1 e2
    subst e1
    exact ⟨x,⟨ss,hss,by rw [ha]; exact f⟩,hr⟩
  | [],r=>simp [RV.relV] at r
  | _ :: _ :: _, r =>
    simp only [RV.relV] at r
    obtain ⟨u,us,e,_,u2,us2,e2,_⟩:=r
    injection e with _ e
    rw [e2] at e; cases e
 cases n with
 | zero=>simp [shape] at hss
 | succ n =>
   have hss':=hss
   unfold shape at hss'
   split at hss'
   · rename_i k ht
     obtain ⟨m,rfl⟩:=okWide_int ht hval
     exact one (by simp [aggOf,ht]) rfl
   · rename_i ht
     obtain ⟨b,rfl⟩:=okWide_bool ht hval
     exact one (by simp [aggOf,ht]) rfl
   · rename_i e ht
     obtain ⟨a,l,c,rfl⟩:=okWide_slice ht hval
     exact one (by simp [aggOf,ht]) rfl
   · rename_i m e ht
     obtain ⟨cs,rfl⟩ : ∃ cs,v = .agg cs:=by
      simp only [Value.okWide,ht] at hval
      obtain ⟨cs,h1,_⟩:=hval
      exact ⟨cs,h1⟩
     exact ⟨.ag xs,⟨ss,hss,by simp only [aggOf,ht,if_true]; exact ⟨xs,rfl,f⟩⟩,by simp only [RV.rel]; exact ⟨cs,rfl,o,r⟩⟩
   · rename_i fs ht
     obtain ⟨cs,rfl,_⟩:=okWide_struct ht hval
     exact ⟨.ag xs,⟨ss,hss,by simp only [aggOf,ht,if_true]; exact ⟨xs,rfl,f⟩⟩,by simp only [RV.rel]; exact ⟨cs,rfl,o,r⟩⟩
   · cases hss'
theorem fitsT_ag {n : Nat} {t : TypeId} {x : RV} {ss : List Sh} (h : FitsT P n t x) (hs : shape P n t = some ss) (ha : aggOf P t = true) : ∃ xs,x = .ag xs ∧ FitsL ss xs:=by
 obtain ⟨s',h1,h2⟩:=h
 rw [hs] at h1; injection h1 with h1; subst h1
 rw [ha] at h2
 exact h2
theorem fitsT_one {n : Nat} {t : TypeId} {x : RV} {s : Sh} (h : FitsT P n t x) (hs : shape P n t = some [s]) (ha : aggOf P t = false) : Fits s x:=by
 obtain ⟨s',h1,h2⟩:=h
 rw [hs] at h1; injection h1 with h1; subst h1
 rw [ha] at h2
 simp only [Bool.false_eq_true,if_false,FitsL] at h2
 obtain ⟨y,ys,e,h3,_⟩:=h2
 injection e with e1 e2
 subst e1
 exact h3
end
end Go.Oc

namespace Go.Proofs.Ytlbfkhikmigpbaa
open Go Go.Oc
theorem wf8 {n : Int} (h : (Lit.int .u8 n).wf = true) : 0 ≤ n ∧ n ≤ 255:=by
 simp only [Lit.wf,Bool.and_eq_true,decide_eq_true_eq] at h
 have h1 : IntKind.min .u8 = 0:=by decide
 have h2 : IntKind.max .u8 = 255:=by decide
 rw [h1,h2] at h
 exact h
theorem wf16 {n : Int} (h : (Lit.int .u16 n).wf = true) : 0 ≤ n ∧ n ≤ 65535:=by
 simp only [Lit.wf,Bool.and_eq_true,decide_eq_true_eq] at h
 have h1 : IntKind.min .u16 = 0:=by decide
 have h2 : IntKind.max .u16 = 65535:=by decide
 rw [h1,h2] at h
 exact h
theorem fitsL_bytes : ∀ (n : Nat) {xs : List RV},FitsL (List.replicate n (.int .u8)) xs → ∃ l : List Int,xs = l.map it8 ∧ l.length = n ∧ ∀ x ∈ l,0 ≤ x ∧ x ≤ 255
 | 0, xs, h => by
   simp only [List.replicate_zero,Oc.FitsL] at h
   exact ⟨[],h,rfl,by simp⟩
 | n + 1, xs, h => by
   simp only [List.replicate_succ,Oc.FitsL,Oc.Fits] at h
   obtain ⟨_,_,rfl,⟨a,rfl,ha⟩,h⟩:=h
   obtain ⟨l,rfl,hl,hx⟩:=fitsL_bytes n h
   refine ⟨a :: l,rfl,by simp [hl],fun x hm=>?_⟩
   rcases List.mem_cons.1 hm with rfl | hm
   · exact wf8 ha
   · exact hx x hm
theorem fitsE_bytes (n : Nat) : ∀ {es : List (List RV)},FitsE (List.replicate n (.int .u8)) es → ∃ l : List (List Int),es = l.map (fun e=>e.map it8) ∧ ∀ e ∈ l,e.length = n ∧ ∀ x ∈ e,0 ≤ x ∧ x ≤ 255
 | [],_=>⟨[],rfl,by simp⟩
 | e :: es, h => by
   simp only [Oc.FitsE] at h
   obtain ⟨h1,h2⟩:=h
   obtain ⟨a,rfl,ha,hx⟩:=fitsL_bytes n h1
   obtain ⟨l,rfl,hl⟩:=fitsE_bytes n h2
   refine ⟨a :: l,rfl,fun x hm=>?_⟩
   rcases List.mem_cons.1 hm with rfl | hm
   · exact ⟨ha,hx⟩
   · exact hl x hm
theorem fitsE_pairs : ∀ {es : List (List RV)},FitsE [.int .u16,.int .u16] es → ∃ l : List (Int × Int),es = l.map (fun e=>[.it .u16 e.1,.it .u16 e.2]) ∧ ∀ e ∈ l,(0 ≤ e.1 ∧ e.1 ≤ 65535) ∧ 0 ≤ e.2 ∧ e.2 ≤ 65535
 | [],_=>⟨[],rfl,by simp⟩
 | e :: es, h => by
   simp only [Oc.FitsE,Oc.FitsL,Oc.Fits] at h
   obtain ⟨⟨_,_,rfl,⟨a,rfl,ha⟩,_,_,rfl,⟨b,rfl,hb⟩,rfl⟩,h⟩:=h
   obtain ⟨l,rfl,hl⟩:=fitsE_pairs h
   refine ⟨(a,b) :: l,rfl,fun x hm=>?_⟩
   rcases List.mem_cons.1 hm with rfl | hm
   · exact ⟨wf16 ha,wf16 hb⟩
   · exact hl x hm
theorem fits66 {x : RV} (h : FitsT Try.prog 9 66 x) : ∃ m : Mt,x = .ag (mtC m) ∧ WfM m:=by
 obtain ⟨xs,rfl,hx⟩:=fitsT_ag (ss:=[.int .u8,.sl (List.replicate 12 (.int .u8)),.int .u8,.int .u8,.sl [.int .u16,.int .u16]]) h (by kernel_rfl) (by kernel_rfl)
 simp only [Oc.FitsL,Oc.Fits] at hx
 obtain ⟨_,_,rfl,⟨d,rfl,hd⟩,_,_,rfl,⟨es,rfl,hes⟩,_,_,rfl,⟨st,rfl,hs⟩,_,_,rfl,⟨ou,rfl,ho⟩,_,_,rfl,⟨en,rfl,hen⟩,rfl⟩:=hx
 obtain ⟨l,rfl,hl⟩:=fitsE_bytes 12 hes
 obtain ⟨e,rfl,he⟩:=fitsE_pairs hen
 exact ⟨⟨d,l,st,ou,e⟩,rfl,⟨wf8 hd,hl,wf8 hs,wf8 ho,he⟩⟩
end Go.Proofs.Ytlbfkhikmigpbaa

/- For all matches by small numbers and all positions, the given function DuelNoOther returns true: the listed aim is among those that may be the best ones, no aim has a greater Low, each aim's Low is at most its High, all are from 0 to Whole, and with three darts the greatest Low and High are the numbers of the tables. No conditions beyond those of the given statement. -/
import Derived.Test.YtlbfkhikmigpbaaV59
import Derived.Test.YtlbfkhikmigpbaaV55
import Derived.ChangeShapes
import Derived.WideShapes
import Derived.OpenShut
import Derived.ShutString
import Derived.ChangeOld
import Derived.Carry
import Derived.Below
import Derived.Test.YtlbfkhikmigpbaaRows
import Derived.JoinedOf
namespace Go.Proofs.Ytlbfkhikmigpbaa
open Go Go.Oc
set_option linter.unusedSimpArgs false
set_option linter.unusedVariables false
set_option maxRecDepth 8000
set_option maxHeartbeats 4000000
theorem ruM_len (m : Mt) (hw : WfM m) : (ruM m).aims.length ≤ 1000000 ∧ (ruM m).ends.length ≤ 1000000 ∧ ∀ a ∈ (ruM m).aims,a.beds.length ≤ 1000000:=by
 refine ⟨?_,?_,fun a ha=>?_⟩
 · have : aimN m ≤ 3:=by unfold aimN; omega
   simp only [ruM,List.length_map,List.length_range]; omega
 · simp only [ruM,List.length_append,List.length_map,List.length_take,List.length_singleton]; omega
 · obtain ⟨i,_,rfl⟩:=List.mem_map.1 (show a ∈ (List.range (aimN m)).map (aimM m) from ha)
   have:=(aimM_ok m hw i).2.2
   omega
def posN (r : Ru) (a b c d : Int) : Pos :=
 ⟨a % r.ends.length,2 + b % (r.start - 1),if 1 + d % 3 = 3 then 2 + b % (r.start - 1) else 2 + c % (2 + b % (r.start - 1) - 1),1 + d % 3⟩
theorem posN_ok {r : Ru} (h : RuG r) {a b c d : Int} (a0 : 0 ≤ a) (b0 : 0 ≤ b) (c0 : 0 ≤ c) (d0 : 0 ≤ d) : posOk r (posN r a b c d) = true:=by
 have s2:=h.s2
 have e1:=h.e1
 have hlow:=lowest_le r
 have h1 : 0 ≤ a % r.ends.length ∧ a % r.ends.length < r.ends.length:=⟨Int.emod_nonneg _ (by omega),Int.emod_lt_of_pos _ (by omega)⟩
 have h2 : 0 ≤ b % (r.start - 1) ∧ b % (r.start - 1) < r.start - 1:=⟨Int.emod_nonneg _ (by omega),Int.emod_lt_of_pos _ (by omega)⟩
 unfold posN
 generalize a % r.ends.length = k at *
 generalize b % (r.start - 1) = s at *
 have h3 : 0 ≤ c % (2 + s - 1) ∧ c % (2 + s - 1) < 2 + s - 1:=⟨Int.emod_nonneg _ (by omega),Int.emod_lt_of_pos _ (by omega)⟩
 generalize c % (2 + s - 1) = l at *
 have h4 : 0 ≤ d % 3 ∧ d % 3 < 3:=by omega
 generalize d % 3 = n at *
 simp only [posOk,inB,Bool.and_eq_true,decide_eq_true_eq,Bool.or_eq_true,beq_iff_eq]
 split <;> refine ⟨by omega,by omega,by omega,by omega,?_⟩ <;> omega
theorem noOther_law (m : Mt) (hw : WfM m) (a b c d : Int) (ha : 0 ≤ a ∧ a ≤ 255) (hb : 0 ≤ b ∧ b ≤ 255) (hc : 0 ≤ c ∧ c ≤ 255) (hd : 0 ≤ d ∧ d ≤ 255) :
 ACalls Try.prog 9 [.ag (mtC m),.ag [it8 a,it8 b,it8 c,it8 d]] (.bo true):=by
 have hkn:=known_ok
 have hmr:=mrules_ok m hw
 have hE:=ruM_ok m hw
 have hwR:=ruM_wf m hw
 obtain ⟨l1,l2,l3⟩:=ruM_len m hw
 generalize ruM m = r at *
 obtain ⟨hG,e1,_,_⟩:=ruG_of hE
 have hH:=refH_of hE
 have hrl:=rules_ok r l1 l2 l3
 have hpos:=posN_ok hG ha.1 hb.1 hc.1 hd.1
 have s2:=hG.s2
 have s40:=hG.s40
 have h10:=hG.h10
 have q1 : IntKind.i64.wrap a = a:=by rw [zI] <;> omega
 have q2 : IntKind.i64.wrap b = b:=by rw [zI] <;> omega
 have q3 : IntKind.i64.wrap c = c:=by rw [zI] <;> omega
 have q4 : IntKind.i64.wrap d = d:=by rw [zI] <;> omega
 have t1 : a.tmod r.ends.length = a % r.ends.length:=Int.tmod_eq_emod_of_nonneg ha.1
 have t2 : b.tmod (r.start - 1) = b % (r.start - 1):=Int.tmod_eq_emod_of_nonneg hb.1
 have t4 : d.tmod 3 = d % 3:=Int.tmod_eq_emod_of_nonneg hd.1
 have t3 : c.tmod (2 + b % (r.start - 1) - 1) = c % (2 + b % (r.start - 1) - 1):=Int.tmod_eq_emod_of_nonneg hc.1
 have z2 : 0 ≤ b % (r.start - 1) ∧ b % (r.start - 1) < r.start - 1:=⟨Int.emod_nonneg _ (by omega),Int.emod_lt_of_pos _ (by omega)⟩
 have z3 : 0 ≤ c % (2 + b % (r.start - 1) - 1) ∧ c % (2 + b % (r.start - 1) - 1) < 2 + b % (r.start - 1) - 1:=⟨Int.emod_nonneg _ (by omega),Int.emod_lt_of_pos _ (by omega)⟩
 have n1 : ((r.ends.length : Int) == 0) = false:=beq_eq_false_iff_ne.2 (by omega)
 have n2 : (r.start - 1 == 0) = false:=beq_eq_false_iff_ne.2 (by omega)
 have n3 : (2 + b % (r.start - 1) - 1 == 0) = false:=beq_eq_false_iff_ne.2 (by omega)
 have w2 : IntKind.i64.wrap (r.start - 1) = r.start - 1:=by rw [zI] <;> omega
 have w3 : IntKind.i64.wrap (2 + b % (r.start - 1) - 1) = 2 + b % (r.start - 1) - 1:=by rw [zI] <;> omega
 refine acalls_st (rs:=[.bo true]) [.tmp 4] Try.func9 rfl (by kernel_rfl) Try.ntmps9 rfl (by simp) rfl fun C vs=>?_
 repeat refine zq ?_
 refine zb (by kernel_rfl) fun K hK=>?_
 simp only [go_sem]
 (try simp (disch:=omega) only [zI])
 repeat first | intro _ | refine ⟨by omega,?_⟩ | refine ⟨⟨by omega,by omega⟩,?_⟩
 refine hK _ ?_
 clear hK K
 refine zw (sub_frzP 3 3 [it8 a,it8 b,it8 c,it8 d] (by omega) rfl rfl) ?_
 refine zw (zk [2,3]) ?_
 simp only [go_sem]
 repeat refine zq ?_
 refine zb (by kernel_rfl) fun K hK=>?_
 simp only [go_sem]
 (try simp (disch:=omega) only [zI])
 refine zh (hmr) rfl (by simp only [go_sem,i64,ints]) (by simp only [go_sem,i64,ints]) (by first | exact .inl rfl | exact .inr rfl) ?_
 (try simp only [go_sem])
 (try simp (disch:=omega) only [zI])
 repeat first | intro _ | refine ⟨by omega,?_⟩ | refine ⟨⟨by omega,by omega⟩,?_⟩
 refine hK _ ?_
 clear hK K
 refine zw (sub_frzP 5 5 (ruC r) (by omega) rfl rfl) ?_
 refine zw (zk [3,5]) ?_
 simp only [go_sem]
 repeat refine zq ?_
 refine zg follows (by decide +kernel) (by kernel_rfl) fun K hK=>?_
 simp only [go_sem,q1,q2,q4,t1,w2,t2,t4,n1,n2]
 (try simp (disch:=omega) only [zI])
 repeat first | intro _ | refine ⟨by omega,?_⟩ | refine ⟨⟨by omega,by omega⟩,?_⟩
 refine hK _ ?_
 clear hK K
 refine zw (zk [3,5,6]) ?_
 simp only [go_sem]
 repeat refine zq ?_
 refine zb (by kernel_rfl) fun K hK=>?_
 simp only [go_sem,q3,w3,t3,n3]
 (try simp (disch:=omega) only [zI])
 repeat first | intro _ | refine ⟨by omega,?_⟩ | refine ⟨⟨by omega,by omega⟩,?_⟩
 refine hK _ ?_
 clear hK K
 refine zw (zk [5,6]) ?_
 simp only [go_sem]
 repeat refine zq ?_
 refine zb (by kernel_rfl) fun K hK=>?_
 simp only [go_sem]
 (try simp (disch:=omega) only [zI])
 repeat first | intro _ | refine ⟨by omega,?_⟩ | refine ⟨⟨by omega,by omega⟩,?_⟩
 refine hK _ ?_
 clear hK K
 refine zw (zk [5,6,56]) ?_
 simp only [go_sem]
 repeat refine zq ?_
 refine awp_joinV (n:=328) (fun (_ : Unit) vs=>[(5,.r (.rp (ruC r))),(6,.pt 6 (vs 6) 0)]) (fun _ vs=>[(6,.box ((posC (posN r a b c d)).map .r))]) (fun _=>True) (fun _ h=>h) ?_ ?_
 · repeat refine zq ?_
   refine zc rfl (fun hc=>?_) (fun hc=>?_) <;> (try simp only [go_sem] at hc)
   · have e : posN r a b c d = ⟨a % r.ends.length,2 + b % (r.start - 1),2 + b % (r.start - 1),1 + d % 3⟩:=by unfold posN; rw [if_pos (by simpa using hc)]
     repeat refine zq ?_
     refine zb (by kernel_rfl) fun K hK=>?_
     simp only [go_sem]
     (try simp (disch:=omega) only [zI])
     repeat first | intro _ | refine ⟨by omega,?_⟩ | refine ⟨⟨by omega,by omega⟩,?_⟩
     refine hK _ ?_
     clear hK K
     try simp only [go_sem]
     exact ⟨(),zj [2] (by try simp only [go_sem]) (by rw [e]; try simp only [go_sem])⟩
   · have e : posN r a b c d = ⟨a % r.ends.length,2 + b % (r.start - 1),2 + c % (2 + b % (r.start - 1) - 1),1 + d % 3⟩:=by unfold posN; rw [if_neg (by simpa using hc)]
     refine zx ?_
     try simp only [go_sem]
     try simp only [go_sem]
     exact ⟨(),zj [2] (by try simp only [go_sem]) (by rw [e]; try simp only [go_sem])⟩
 intro _ vs _
 refine zw (sub_frzP 6 6 (posC (posN r a b c d)) (by omega) rfl rfl) ?_
 refine zw (zk [5,6]) ?_
 simp only [go_sem]
 clear t1 t2 t3 t4 z2 z3 n1 n2 n3 w2 w3 q1 q2 q3 q4
 generalize posN r a b c d = p at *
 obtain ⟨k,s,left,dd,rfl,hk,hs1,hs2,hl1,hl2,hdd⟩:=posOk_nat hpos
 have hOE : oddsE r (pos k s left dd) = 0:=by simp only [oddsE,if_pos hE,hpos,if_true]
 have hod:=odds_ok r hwR (pos k s left dd)
 have hai:=aim_ok r hwR (pos k s left dd)
 have hma:=may_ok r hwR (pos k s left dd)
 have hta:=table_ok r hwR
 have hL : oddsL r (pos k s left dd) = oddsS r k s left dd:=by
  simp only [oddsL,Int.toNat_natCast]
  rw [show ((dd : Int) + 1 - 1).toNat = dd by omega]
 have hR : oddsR r (pos k s left dd) = spansR (oddsS r k s left dd):=by
  rw [← hL]
  simp only [oddsR,oddsL,if_pos hE,hpos,if_true]
 rw [hOE,hR] at hod
 rw [hOE,if_pos rfl,if_pos rfl,hL] at hai
 rw [hOE,if_pos rfl,hL] at hma
 rw [hE] at hta
 simp only [tabsV,if_pos hE] at hta
 have hll:=odds_len r (pos k s left dd)
 rw [hL] at hll
 have hO:=oddsS_ok hG hH (k:=k) (s:=s) (left:=left) (d:=dd) hk hs2 (by omega)
 have hne : oddsS r k s left dd ≠ []:=by
  intro h
  rw [h] at hll
  exact hG.aims.ne (List.eq_nil_of_length_eq_zero hll.symm)
 obtain ⟨b',hb1,hb2,hb3,hb4⟩:=bestS_spec (oddsS r k s left dd) _ (Nat.le_refl _)
 have hb2:=hb2 (List.length_pos_iff.2 hne)
 have hbL : bestL (oddsS r k s left dd) = (b' : Int):=hb1
 obtain ⟨xb,hxb⟩:=opt_of_lt hb2
 have hlow : lowL (oddsS r k s left dd) = xb.1:=by unfold lowL; rw [hbL,Int.toNat_natCast]; simp [List.getD,hxb]
 rw [hbL,hlow] at hai
 rw [hlow] at hma
 have hO2:=hO xb (List.mem_of_getElem? hxb)
 obtain ⟨hm1,hm2⟩:=mayL_spec (oddsS r k s left dd) xb.1 (oddsS r k s left dd).length
 have hgD : ∀ {j : Nat} {y : Sp},(oddsS r k s left dd)[j]? = some y → (oddsS r k s left dd).getD j (0,0) = y:=fun h=>by simp [List.getD_eq_getElem?_getD,h]
 have hT0:=tabF_row (r:=r) false hk
 have hT1:=tabF_row (r:=r) true hk
 obtain ⟨row0,hr0⟩ : ∃ row,(tabF r false)[k]? = some row:=opt_of_lt (by rw [tabF_len]; exact hk)
 obtain ⟨row1,hr1⟩ : ∃ row,(tabF r true)[k]? = some row:=opt_of_lt (by rw [tabF_len]; exact hk)
 have e0 : (tabF r false).getD k [] = row0:=by simp [List.getD_eq_getElem?_getD,hr0]
 have e1 : (tabF r true).getD k [] = row1:=by simp [List.getD_eq_getElem?_getD,hr1]
 have hrl0 : row0.length = r.start.toNat + 1:=by rw [← e0,hT0,rowV_len]
 have hrl1 : row1.length = r.start.toNat + 1:=by rw [← e1,hT1,rowV_len]
 have hod3 : dd = 2 → left = s ∧ row0.getD s 0 = maxL ((oddsS r k s left dd).map (·.1)) ∧ row1.getD s 0 = maxL ((oddsS r k s left dd).map (·.2)):=fun h=>by
  have : left = s:=by
   subst h
   simp [posOk,inB] at hpos
   omega
  subst this h
  have:=odds_tab hG hk hs2 hs1
  rw [e0,e1] at this
  exact ⟨rfl,this⟩
 have hmx1:=topF_max (f:=(·.1)) hne (fun x hx=>(hO x hx).1)
 have hmx2:=topF_max (f:=(·.2)) hne (fun x hx=>by have:=hO x hx; omega)
 have hmx3:=topF_at (f:=(·.1)) hxb hO2.1 fun y hy=>by
  obtain ⟨j,hj⟩:=List.getElem?_of_mem hy
  have:=hb3 j (List.getElem?_eq_some_iff.1 hj).1
  rw [hgD hj,hgD hxb] at this
  exact this
 have hT0l:=tabF_len r false
 have hT1l:=tabF_len r true
 generalize oddsS r k s left dd = L at *
 generalize tabF r false = T0 at *
 generalize tabF r true = T1 at *
 clear hT0 hT1 hL hR hb1 hbL
 generalize hM : mayL L xb.1 L.length = M at *
 repeat refine zq ?_
 refine zg follows (by decide +kernel) (by kernel_rfl) fun K hK=>?_
 simp only [go_sem]
 (try simp (disch:=omega) only [zI])
 refine zh (hrl) rfl (by simp only [go_sem,i64,ints]) (by simp only [go_sem,i64,ints]) (by first | exact .inl rfl | exact .inr rfl) ?_
 (try simp only [go_sem])
 (try simp (disch:=omega) only [zI])
 refine zh (hod) rfl (by simp only [go_sem,i64,ints]) (by simp only [go_sem,i64,ints]) (by first | exact .inl rfl | exact .inr rfl) ?_
 (try simp only [go_sem])
 (try simp (disch:=omega) only [zI])
 repeat first | intro _ | refine ⟨by omega,?_⟩ | refine ⟨⟨by omega,by omega⟩,?_⟩
 refine hK _ ?_
 clear hK K
 refine zw (zk [5,6,7,8]) ?_
 simp only [go_sem]
 repeat refine zq ?_
 refine zg follows (by decide +kernel) (by kernel_rfl) fun K hK=>?_
 simp only [go_sem]
 (try simp (disch:=omega) only [zI])
 refine zh (hrl) rfl (by simp only [go_sem,i64,ints]) (by simp only [go_sem,i64,ints]) (by first | exact .inl rfl | exact .inr rfl) ?_
 (try simp only [go_sem])
 (try simp (disch:=omega) only [zI])
 refine zh (hai) rfl (by simp only [go_sem,i64,ints]) (by simp only [go_sem,i64,ints]) (by first | exact .inl rfl | exact .inr rfl) ?_
 (try simp only [go_sem])
 (try simp (disch:=omega) only [zI])
 repeat first | intro _ | refine ⟨by omega,?_⟩ | refine ⟨⟨by omega,by omega⟩,?_⟩
 refine hK _ ?_
 clear hK K
 refine zw (zk [5,6,7,8,9,10,11]) ?_
 simp only [go_sem]
 repeat refine zq ?_
 refine zg follows (by decide +kernel) (by kernel_rfl) fun K hK=>?_
 simp only [go_sem]
 (try simp (disch:=omega) only [zI])
 refine zh (hrl) rfl (by simp only [go_sem,i64,ints]) (by simp only [go_sem,i64,ints]) (by first | exact .inl rfl | exact .inr rfl) ?_
 (try simp only [go_sem])
 (try simp (disch:=omega) only [zI])
 refine zh (hma) rfl (by simp only [go_sem,i64,ints]) (by simp only [go_sem,i64,ints]) (by first | exact .inl rfl | exact .inr rfl) ?_
 (try simp only [go_sem])
 (try simp (disch:=omega) only [zI])
 repeat first | intro _ | refine ⟨by omega,?_⟩ | refine ⟨⟨by omega,by omega⟩,?_⟩
 refine hK _ ?_
 clear hK K
 refine zw (zk [5,6,7,8,9,10,11,12,13]) ?_
 simp only [go_sem]
 repeat refine zq ?_
 refine zb (by kernel_rfl) fun K hK=>?_
 simp only [go_sem]
 (try simp (disch:=omega) only [zI])
 refine zh (hrl) rfl (by simp only [go_sem,i64,ints]) (by simp only [go_sem,i64,ints]) (by first | exact .inl rfl | exact .inr rfl) ?_
 (try simp only [go_sem])
 (try simp (disch:=omega) only [zI])
 refine zh (hta) rfl (by simp only [go_sem,i64,ints]) (by simp only [go_sem,i64,ints]) (by first | exact .inl rfl | exact .inr rfl) ?_
 (try simp only [go_sem])
 (try simp (disch:=omega) only [zI])
 repeat first | intro _ | refine ⟨by omega,?_⟩ | refine ⟨⟨by omega,by omega⟩,?_⟩
 refine hK _ ?_
 clear hK K
 refine zw (zk [5,6,7,8,9,10,11,12,13,14,15,16]) ?_
 simp only [go_sem]
 have c1 : ((L.length : Int) != r.aims.length) = false:=by simp; omega
 have c2 : decide ((b' : Int) < 0) = false:=by simp
 have c3 : decide ((L.length : Int) ≤ b') = false:=by simp; omega
 have c9 : ¬ L.length ≤ b':=by omega
 have c10 : k < T0.length:=by omega
 have c11 : k < T1.length:=by omega
 have c4 : ((T0.length : Int) != r.ends.length) = false:=by simp; omega
 have c5 : ((T1.length : Int) != r.ends.length) = false:=by simp; omega
 have c6 : ((row0.length : Int) != r.start + 1) = false:=by simp; omega
 have c7 : ((row1.length : Int) != r.start + 1) = false:=by simp; omega
 have c8 : IntKind.i64.wrap (r.start + 1) = r.start + 1:=by rw [zI] <;> omega
 repeat refine zq ?_
 refine zg follows (by decide +kernel) (by kernel_rfl) fun K hK=>?_
 simp only [go_sem,List.append_eq,List.cons_append,List.nil_append,bne_self_eq_false,c1,c2,c3,c4,c5,c6,c7,c8,c9,c10,c11,hr0,hr1]
 (try simp (disch:=omega) only [zI])
 repeat first | intro _ | refine ⟨by omega,?_⟩ | refine ⟨⟨by omega,by omega⟩,?_⟩
 refine hK _ ?_
 clear hK K
 refine zw (zk [6,7,9,10,12,14,15,161]) ?_
 simp only [go_sem]
 repeat refine zq ?_
 refine zc rfl (fun hc=>?_) (fun hc=>?_) <;> (try simp only [go_sem] at hc)
 refine zx ?_
 try simp only [go_sem]
 clear hod hai hma hta hrl hmr
 repeat refine zq ?_
 refine zb (by kernel_rfl) fun K hK=>?_
 simp only [go_sem]
 (try simp (disch:=omega) only [zI])
 repeat first | intro _ | refine ⟨by omega,?_⟩ | refine ⟨⟨by omega,by omega⟩,?_⟩
 refine hK _ ?_
 clear hK K
 refine zw (zk [6,7,9,10,12,14,15,17,18,19]) ?_
 simp only [go_sem]
 repeat refine zq ?_
 refine zb (by kernel_rfl) fun K hK=>?_
 simp only [go_sem]
 (try simp (disch:=omega) only [zI])
 repeat first | intro _ | refine ⟨by omega,?_⟩ | refine ⟨⟨by omega,by omega⟩,?_⟩
 refine hK _ ?_
 clear hK K
 refine zw (zk [6,7,9,10,12,14,15,17,18,19,20]) ?_
 simp only [go_sem]
 repeat refine zq ?_
 refine zd ?_
 refine awp_upto (n:=328) L.length (fun i vs=>[(6,.r (.rp (posC (pos k s left dd)))),(7,.r (spansR L)),(9,.r (i64 (b' : Int))),(10,.r (i64 xb.1)),(12,.r (ints M)),(14,.r (tabR T0)),(15,.r (tabR T1)),(17,.r (.bo false)),(18,.r (i64 (topF (·.1) (L.take i)))),(19,.r (i64 (topF (·.2) (L.take i)))),(20,.r (i64 (i : Int)))])
  (fun i=>[]) (fun _=>True) 0 (fit_of [] ?_ ?_) (Nat.zero_le _) trivial ?_
 · try simp only [go_sem]
   exact ⟨rfl,rfl⟩
 · try simp only [go_sem]
 · intro i vs hi _
   repeat refine zq ?_
   refine zb (by kernel_rfl) fun K hK=>?_
   simp only [go_sem]
   (try simp (disch:=omega) only [zI])
   repeat first | intro _ | refine ⟨by omega,?_⟩ | refine ⟨⟨by omega,by omega⟩,?_⟩
   refine hK _ ?_
   clear hK K
   refine zw (zk [6,7,9,10,12,14,15,17,18,19,20,165]) ?_
   simp only [go_sem]
   repeat refine zq ?_
   refine zc rfl (fun hc=>?_) (fun hc=>?_) <;> (try simp only [go_sem] at hc)
   · have hci : i < L.length:=by omega
     obtain ⟨x,hx⟩:=opt_of_lt hci
     obtain ⟨g0,g1,g2⟩:=hO x (mem_of_opt hx)
     have g3 : x.1 ≤ xb.1:=by have:=hb3 i hci; rw [hgD hx,hgD hxb] at this; exact this
     have d1 : decide (x.1 < 0) = false:=by simpa using g0
     have d2 : decide (x.2 < x.1) = false:=by simpa using g1
     have d3 : decide (1000000 < x.2) = false:=by simpa using g2
     have d4 : decide (xb.1 < x.1) = false:=by simpa using g3
     have ht1 : topF (·.1) (L.take (i + 1)) = max (topF (·.1) (L.take i)) x.1:=by rw [List.take_add_one,hx]; exact topF_snoc _ _ _
     have ht2 : topF (·.2) (L.take (i + 1)) = max (topF (·.2) (L.take i)) x.2:=by rw [List.take_add_one,hx]; exact topF_snoc _ _ _
     have hi1 : IntKind.i64.wrap ((i : Int) + 1) = ((i + 1 : Nat) : Int):=by rw [zI] <;> omega
     refine zx ?_
     try simp only [go_sem]
     repeat refine zq ?_
     refine zd ?_
     repeat refine zq ?_
     refine awp_joinV (n:=328) (fun (_ : Unit) vs=>[(6,.r (.rp (posC (pos k s left dd)))),(7,.r (spansR L)),(9,.r (i64 (b' : Int))),(10,.r (i64 xb.1)),(12,.r (ints M)),(14,.r (tabR T0)),(15,.r (tabR T1)),(17,.r (.bo false)),(18,.r (i64 (topF (·.1) (L.take i)))),(19,.r (i64 (topF (·.2) (L.take i)))),(20,.r (i64 (i : Int))),(217,.r (.bo false))]) (fun _ vs=>[]) (fun _=>True) (fun _ h=>h) ?_ ?_
     · rcases Nat.lt_or_ge i b' with hib | hib
       · have d6 : (x.1 == xb.1) = false:=by
          have:=hb4 i hib
          rw [hgD hx,hgD hxb] at this
          exact beq_eq_false_iff_ne.2 (by omega)
         repeat refine zq ?_
         refine zg follows (by decide +kernel) (by kernel_rfl) fun K hK=>?_
         simp only [go_sem,d1,d2,d3,d4,d6,hib,hx,hci,spanR,List.headD_cons]
         (try simp (disch:=omega) only [zI])
         repeat first | intro _ | refine ⟨by omega,?_⟩ | refine ⟨⟨by omega,by omega⟩,?_⟩
         refine hK _ ?_
         clear hK K
         try simp only [go_sem]
         exact ⟨(),zj [] (by try simp only [go_sem]) (by try simp only [go_sem])⟩
       · have d6 : ¬ i < b':=by omega
         repeat refine zq ?_
         refine zg follows (by decide +kernel) (by kernel_rfl) fun K hK=>?_
         simp only [go_sem,d1,d2,d3,d4,d6,hx,hci,spanR,List.headD_cons]
         (try simp (disch:=omega) only [zI])
         repeat first | intro _ | refine ⟨by omega,?_⟩ | refine ⟨⟨by omega,by omega⟩,?_⟩
         refine hK _ ?_
         clear hK K
         try simp only [go_sem]
         exact ⟨(),zj [] (by try simp only [go_sem]) (by try simp only [go_sem])⟩
     intro _ vs _
     repeat refine zq ?_
     refine zc rfl (fun hc=>?_) (fun hc=>?_) <;> (try simp only [go_sem] at hc)
     refine zx ?_
     try simp only [go_sem]
     repeat refine zq ?_
     refine zg follows (by decide +kernel) (by kernel_rfl) fun K hK=>?_
     simp only [go_sem,hx,hci,spanR,List.headD_cons]
     (try simp (disch:=omega) only [zI])
     repeat first | intro _ | refine ⟨by omega,?_⟩ | refine ⟨⟨by omega,by omega⟩,?_⟩
     refine hK _ ?_
     clear hK K
     refine zw (zk [6,7,9,10,12,14,15,17,18,19,20]) ?_
     simp only [go_sem]
     repeat refine zq ?_
     refine zb (by kernel_rfl) fun K hK=>?_
     simp only [go_sem,hi1]
     (try simp (disch:=omega) only [zI])
     repeat first | intro _ | refine ⟨by omega,?_⟩ | refine ⟨⟨by omega,by omega⟩,?_⟩
     refine hK _ ?_
     clear hK K
     try simp only [go_sem]
     refine ⟨hci,fit_of [] ?_ ?_⟩
     · try simp only [go_sem]
       exact ⟨ht1.symm,ht2.symm⟩
     · try simp only [go_sem]
   · have hci : i = L.length:=by omega
     subst hci
     rw [List.take_length]
     generalize hbest : topF (·.1) L = best at *
     generalize hmost : topF (·.2) L = most at *
     have hM3 : M.length ≤ 1000000000:=by rw [← hM]; have:=mayL_le L xb.1 L.length; omega
     refine zf ?_
     simp only [go_sem]
     repeat refine zq ?_
     refine zb (by kernel_rfl) fun K hK=>?_
     simp only [go_sem]
     (try simp (disch:=omega) only [zI])
     repeat first | intro _ | refine ⟨by omega,?_⟩ | refine ⟨⟨by omega,by omega⟩,?_⟩
     refine hK _ ?_
     clear hK K
     refine zw (zk [6,7,9,10,12,14,15,17,18,19,21]) ?_
     simp only [go_sem]
     repeat refine zq ?_
     refine zd ?_
     refine awp_upto (n:=328) M.length (fun j vs=>[(6,.r (.rp (posC (pos k s left dd)))),(7,.r (spansR L)),(9,.r (i64 (b' : Int))),(10,.r (i64 xb.1)),(12,.r (ints M)),(14,.r (tabR T0)),(15,.r (tabR T1)),(17,.r (.bo ((M.take j).any fun v=>v == (b' : Int)))),(18,.r (i64 best)),(19,.r (i64 most)),(21,.r (i64 (j : Int)))])
      (fun i=>[]) (fun _=>True) 0 (fit_of [] ?_ ?_) (Nat.zero_le _) trivial ?_
     · try simp only [go_sem]
       rfl
     · try simp only [go_sem]
     · intro j vs hj _
       repeat refine zq ?_
       refine zb (by kernel_rfl) fun K hK=>?_
       simp only [go_sem]
       (try simp (disch:=omega) only [zI])
       repeat first | intro _ | refine ⟨by omega,?_⟩ | refine ⟨⟨by omega,by omega⟩,?_⟩
       refine hK _ ?_
       clear hK K
       refine zw (zk [6,7,9,10,12,14,15,17,18,19,21,235]) ?_
       simp only [go_sem]
       repeat refine zq ?_
       refine zc rfl (fun hc=>?_) (fun hc=>?_) <;> (try simp only [go_sem] at hc)
       · have hcj : j < M.length:=by omega
         obtain ⟨v,hv⟩:=opt_of_lt hcj
         obtain ⟨v',rfl,hv1,hv2⟩:=(hm2 v).1 (mem_of_opt hv)
         obtain ⟨y,hy⟩:=opt_of_lt hv1
         rw [hgD hy] at hv2
         have d1 : decide ((v' : Int) < 0) = false:=by simp
         have d2 : ¬ L.length ≤ v':=by omega
         have d3 : decide (y.2 < xb.1) = false:=by simpa using hv2
         have hj1 : IntKind.i64.wrap ((j : Int) + 1) = ((j + 1 : Nat) : Int):=by rw [zI] <;> omega
         have hts : ((M.take (j + 1)).any fun v=>v == (b' : Int)) = (((M.take j).any fun v=>v == (b' : Int)) || ((v' : Int) == (b' : Int))):=by
          rw [List.take_add_one,hv]; simp
         refine zx ?_
         try simp only [go_sem]
         repeat refine zq ?_
         refine zd ?_
         repeat refine zq ?_
         refine awp_joinV (n:=328) (fun (_ : Unit) vs=>[(6,.r (.rp (posC (pos k s left dd)))),(7,.r (spansR L)),(9,.r (i64 (b' : Int))),(10,.r (i64 xb.1)),(12,.r (ints M)),(14,.r (tabR T0)),(15,.r (tabR T1)),(17,.r (.bo ((M.take j).any fun v=>v == (b' : Int)))),(18,.r (i64 best)),(19,.r (i64 most)),(21,.r (i64 (j : Int))),(279,.r (.bo false))]) (fun _ vs=>[]) (fun _=>True) (fun _ h=>h) ?_ ?_
         · cases j with
           | zero =>
             repeat refine zq ?_
             refine zg follows (by decide +kernel) (by kernel_rfl) fun K hK=>?_
             simp only [go_sem,d1,d2,d3,hv,hv1,hcj,hy,spanR,List.headD_cons]
             (try simp (disch:=omega) only [zI])
             repeat first | intro _ | refine ⟨by omega,?_⟩ | refine ⟨⟨by omega,by omega⟩,?_⟩
             refine hK _ ?_
             clear hK K
             try simp only [go_sem]
             exact ⟨(),zj [] (by try simp only [go_sem]) (by try simp only [go_sem])⟩
           | succ j =>
             obtain ⟨u,hu⟩:=opt_of_lt (show j < M.length by omega)
             have huv : u < (v' : Int):=by
              have h1:=List.getElem?_eq_some_iff.1 hu
              have h2:=List.getElem?_eq_some_iff.1 hv
              have:=List.pairwise_iff_getElem.1 hm1 j (j + 1) h1.1 h2.1 (by omega)
              rw [h1.2,h2.2] at this
              exact this
             have hju : j < M.length:=by omega
             have d4 : decide ((v' : Int) ≤ u) = false:=by simp; omega
             have d5 : (0 : Int) < (j : Int) + 1:=by omega
             have d6 : ((j : Int) + 1 - 1) = (j : Int):=by omega
             have d7 : IntKind.i64.wrap (j : Int) = (j : Int):=by rw [zI] <;> omega
             repeat refine zq ?_
             refine zg follows (by decide +kernel) (by kernel_rfl) fun K hK=>?_
             simp only [go_sem,d1,d2,d3,d4,d5,d6,d7,hv,hv1,hcj,hy,hu,hju,spanR,List.headD_cons]
             (try simp (disch:=omega) only [zI])
             repeat first | intro _ | refine ⟨by omega,?_⟩ | refine ⟨⟨by omega,by omega⟩,?_⟩
             refine hK _ ?_
             clear hK K
             try simp only [go_sem]
             exact ⟨(),zj [] (by try simp only [go_sem]) (by try simp only [go_sem])⟩
         intro _ vs _
         repeat refine zq ?_
         refine zc rfl (fun hc=>?_) (fun hc=>?_) <;> (try simp only [go_sem] at hc)
         refine zx ?_
         try simp only [go_sem]
         cases hA : (M.take j).any fun v=>v == (b' : Int) with
         | true =>
           rw [hA,Bool.true_or] at hts
           repeat refine zq ?_
           refine zb (by kernel_rfl) fun K hK=>?_
           simp only [go_sem]
           (try simp (disch:=omega) only [zI])
           repeat first | intro _ | refine ⟨by omega,?_⟩ | refine ⟨⟨by omega,by omega⟩,?_⟩
           refine hK _ ?_
           clear hK K
           refine zw (zk [6,7,9,10,12,14,15,17,18,19,21]) ?_
           simp only [go_sem]
           repeat refine zq ?_
           refine zb (by kernel_rfl) fun K hK=>?_
           simp only [go_sem,hj1]
           (try simp (disch:=omega) only [zI])
           repeat first | intro _ | refine ⟨by omega,?_⟩ | refine ⟨⟨by omega,by omega⟩,?_⟩
           refine hK _ ?_
           clear hK K
           try simp only [go_sem]
           refine ⟨hcj,fit_of [] ?_ ?_⟩
           · try simp only [go_sem]
             exact hts.symm
           · try simp only [go_sem]
         | false =>
           rw [hA,Bool.false_or] at hts
           repeat refine zq ?_
           refine zb (by kernel_rfl) fun K hK=>?_
           simp only [go_sem,hv,hcj]
           (try simp (disch:=omega) only [zI])
           repeat first | intro _ | refine ⟨by omega,?_⟩ | refine ⟨⟨by omega,by omega⟩,?_⟩
           refine hK _ ?_
           clear hK K
           refine zw (zk [6,7,9,10,12,14,15,17,18,19,21]) ?_
           simp only [go_sem]
           repeat refine zq ?_
           refine zb (by kernel_rfl) fun K hK=>?_
           simp only [go_sem,hj1]
           (try simp (disch:=omega) only [zI])
           repeat first | intro _ | refine ⟨by omega,?_⟩ | refine ⟨⟨by omega,by omega⟩,?_⟩
           refine hK _ ?_
           clear hK K
           try simp only [go_sem]
           refine ⟨hcj,fit_of [] ?_ ?_⟩
           · try simp only [go_sem]
             exact hts.symm
           · try simp only [go_sem]
       · have hcj : j = M.length:=by omega
         have hthere : ((M.take j).any fun v=>v == (b' : Int)) = true:=by
          rw [hcj,List.take_length]
          refine List.any_eq_true.2 ⟨(b' : Int),(hm2 _).2 ⟨b',rfl,hb2,?_⟩,by simp⟩
          rw [hgD hxb]
          omega
         rw [hthere]
         have f1 : (best != xb.1) = false:=by rw [hmx3]; simp
         refine zf ?_
         simp only [go_sem]
         by_cases hd3 : dd = 2
         · obtain ⟨rfl,r0,r1⟩:=hod3 hd3
           subst hd3
           obtain ⟨v0,hv0⟩:=opt_of_lt (show left < row0.length by omega)
           obtain ⟨v1,hv1⟩:=opt_of_lt (show left < row1.length by omega)
           have f2 : (v0 != best) = false:=by
            have : row0.getD left 0 = v0:=by simp [List.getD_eq_getElem?_getD,hv0]
            rw [← this,r0,← hmx1]; simp
           have f3 : (v1 != most) = false:=by
            have : row1.getD left 0 = v1:=by simp [List.getD_eq_getElem?_getD,hv1]
            rw [← this,r1,← hmx2]; simp
           have f4 : left < row0.length:=by omega
           have f5 : left < row1.length:=by omega
           repeat refine zq ?_
           refine zg follows (by decide +kernel) (by kernel_rfl) fun K hK=>?_
           simp only [go_sem,f1,f2,f3,f4,f5,hv0,hv1,hr0,hr1,c10,c11]
           (try simp (disch:=omega) only [zI])
           repeat first | intro _ | refine ⟨by omega,?_⟩ | refine ⟨⟨by omega,by omega⟩,?_⟩
           refine hK _ ?_
           clear hK K
           refine zw (zk [326]) ?_
           simp only [go_sem]
           repeat refine zq ?_
           refine zc rfl (fun hc=>?_) (fun hc=>?_) <;> (try simp only [go_sem] at hc)
           refine zx ?_
           try simp only [go_sem]
           repeat refine zq ?_
           refine zb (by kernel_rfl) fun K hK=>?_
           simp only [go_sem]
           (try simp (disch:=omega) only [zI])
           refine zh (hkn) rfl (by simp only [go_sem,i64,ints]) (by simp only [go_sem,i64,ints]) (by first | exact .inl rfl | exact .inr rfl) ?_
           (try simp only [go_sem])
           (try simp (disch:=omega) only [zI])
           repeat first | intro _ | refine ⟨by omega,?_⟩ | refine ⟨⟨by omega,by omega⟩,?_⟩
           refine hK _ ?_
           clear hK K
           refine zw (zk [4]) ?_
           simp only [go_sem]
           refine ze ?_
           simp only [go_sem]
         · have f2 : ((dd : Int) + 1 == 3) = false:=beq_eq_false_iff_ne.2 (by omega)
           repeat refine zq ?_
           refine zg follows (by decide +kernel) (by kernel_rfl) fun K hK=>?_
           simp only [go_sem,f1,f2]
           (try simp (disch:=omega) only [zI])
           repeat first | intro _ | refine ⟨by omega,?_⟩ | refine ⟨⟨by omega,by omega⟩,?_⟩
           refine hK _ ?_
           clear hK K
           refine zw (zk [326]) ?_
           simp only [go_sem]
           repeat refine zq ?_
           refine zc rfl (fun hc=>?_) (fun hc=>?_) <;> (try simp only [go_sem] at hc)
           refine zx ?_
           try simp only [go_sem]
           repeat refine zq ?_
           refine zb (by kernel_rfl) fun K hK=>?_
           simp only [go_sem]
           (try simp (disch:=omega) only [zI])
           refine zh (hkn) rfl (by simp only [go_sem,i64,ints]) (by simp only [go_sem,i64,ints]) (by first | exact .inl rfl | exact .inr rfl) ?_
           (try simp only [go_sem])
           (try simp (disch:=omega) only [zI])
           repeat first | intro _ | refine ⟨by omega,?_⟩ | refine ⟨⟨by omega,by omega⟩,?_⟩
           refine hK _ ?_
           clear hK K
           refine zw (zk [4]) ?_
           simp only [go_sem]
           refine ze ?_
           simp only [go_sem]
end Go.Proofs.Ytlbfkhikmigpbaa

namespace Go.Oc
open Go Go.RowKit Go.ChangeShapes Go.WideShapes
inductive Sh where
 | int (k : IntKind)
 | bool
 | sl (es : List Sh)
def fieldsSh (P : Program) (sh : TypeId → Option (List Sh)) : List Field → Nat → Option (List Sh)
 | [],_=>some []
 | f :: fs, o =>
   match sh f.type with
   | some ss=>if f.offset == o && ss.length == P.cellsOf f.type then match fieldsSh P sh fs (o + ss.length) with | some q=>some (ss ++ q) | none=>none else none
   | none=>none
def shape (P : Program) : Nat → TypeId → Option (List Sh)
 | 0,_=>none
 | n + 1, t =>
   match P.underlying t with
   | some (.int k)=>some [.int k]
   | some .bool=>some [.bool]
   | some (.slice e) =>
     match shape P n e with
     | some ss=>if ss.length == P.cellsOf e && decide (0 < ss.length) then some [.sl ss] else none
     | none=>none
   | some (.array m e) =>
     match shape P n e with
     | some ss=>if ss.length == P.cellsOf e && P.cellsOf t == m * ss.length then some (List.replicate m ss).flatten else none
     | none=>none
   | some (.struct fs) =>
     match fieldsSh P (shape P n) fs.toList 0 with
     | some ss=>if ss.length == P.cellsOf t then some ss else none
     | none=>none
   | _=>none
mutual
def Fits : Sh → RV → Prop
 | .int k,x=>∃ n,x = .it k n ∧ (Lit.int k n).wf = true
 | .bool,x=>∃ b,x = .bo b
 | .sl ss,x=>∃ es,x = .sl ss.length es ∧ FitsE ss es
def FitsL : List Sh → List RV → Prop
 | [],xs=>xs = []
 | s :: ss,xs=>∃ y ys,xs = y :: ys ∧ Fits s y ∧ FitsL ss ys
def FitsE (ss : List Sh) : List (List RV) → Prop
 | []=>True
 | e :: es=>FitsL ss e ∧ FitsE ss es
end
theorem fitsL_append : ∀ {s1 s2 : List Sh} {x1 x2 : List RV},FitsL s1 x1 → FitsL s2 x2 → FitsL (s1 ++ s2) (x1 ++ x2)
 | [],_,_,_,h1,h2=>by simp only [FitsL] at h1; subst h1; simpa using h2
 | s :: ss, s2, x1, x2, h1, h2 => by
   simp only [FitsL] at h1
   obtain ⟨y,ys,rfl,h3,h4⟩:=h1
   simp only [List.cons_append,FitsL]
   exact ⟨y,_,rfl,h3,fitsL_append h4 h2⟩
theorem fitsL_length : ∀ {ss : List Sh} {xs : List RV},FitsL ss xs → xs.length = ss.length
 | [],_,h=>by simp only [FitsL] at h; subst h; rfl
 | s :: ss, _, h => by
   simp only [FitsL] at h
   obtain ⟨y,ys,rfl,_,h⟩:=h
   simp [fitsL_length h]
theorem fitsE_of : ∀ {ss : List Sh} {es : List (List RV)},(∀ e ∈ es,FitsL ss e) → FitsE ss es
 | _,[],_=>by simp only [FitsE]
 | ss,e :: es,h=>by simp only [FitsE]; exact ⟨h e (by simp),fitsE_of fun x hx=>h x (by simp [hx])⟩
theorem choice {α : Type} {Q : Nat → α → Prop} : ∀ (n : Nat),(∀ i,i < n → ∃ x,Q i x) → ∃ xs : List α,xs.length = n ∧ ∀ i x,xs[i]? = some x → Q i x
 | 0,_=>⟨[],rfl,by simp⟩
 | n + 1, h => by
   obtain ⟨xs,hl,hx⟩:=choice n fun i hi=>h i (by omega)
   obtain ⟨y,hy⟩:=h n (by omega)
   refine ⟨xs ++ [y],by simp [hl],fun i x hi=>?_⟩
   by_cases h1 : i < n
   · rw [List.getElem?_append_left (by omega)] at hi; exact hx i x hi
   · rw [List.getElem?_append_right (by omega)] at hi
     have : i = n:=by have:=(List.getElem?_eq_some_iff.1 hi).1; simp at this; omega
     subst this
     simp [hl] at hi
     exact hi ▸ hy
section
variable {w : World} {P : Program}
theorem cells?_get {base n : Nat} {a : Addr} {cs : List Value} (h : w.cells? base a n = some cs) : cs.length = n ∧ ∀ i,i < n → w.cell? (a.add i) = cs[i]?:=by
 unfold World.cells? at h
 split at h
 · exact ⟨by simpa using mapM_some_length h,fun i hi=>mapM_some_get h i i (by simp [hi])⟩
 · cases h
theorem cell_lt {a : Addr} {v : Value} (h : w.cell? a = some v) : a.block < w.heap.size:=by
 refine Decidable.byContradiction fun hn=>?_
 have : w.heap[a.block]? = none:=by simp; omega
 simp [World.cell?,this] at h
def old (w : World) : Nat → Prop:=fun b=>b < w.heap.size
theorem relC_of_cells {xs : List RV} {cs : List Value} {ad : Addr} (hV : RV.relV w (old w) xs cs) (hone : ∀ u ∈ cs,u.oneCell' = true) (hc : ∀ i,i < cs.length → w.cell? (ad.add i) = cs[i]?) : RV.relC w (old w) xs ad 0:=by
 refine RV.relC_of_get fun i x hx=>?_
 obtain ⟨u,hu,hr⟩:=RV.relV_get hV hx
 have hi:=(List.getElem?_eq_some_iff.1 hu).1
 refine ⟨u,?_,hone u (List.mem_of_getElem? hu),hr⟩
 rw [Nat.zero_add,hc i hi,hu]
variable {H : Type} {enc : TypeId × Value → H} {base : Nat} {spare : Nat → Bool} {held : Bool}
def Good3 (w : World) (ss : List Sh) (cs : List Value) : Prop:=∃ xs,FitsL ss xs ∧ RV.relV w (old w) xs cs ∧ ∀ u ∈ cs,u.oneCell' = true
theorem good3_append {s1 s2 : List Sh} {c1 c2 : List Value} (h1 : Good3 w s1 c1) (h2 : Good3 w s2 c2) : Good3 w (s1 ++ s2) (c1 ++ c2):=by
 obtain ⟨x1,f1,r1,o1⟩:=h1
 obtain ⟨x2,f2,r2,o2⟩:=h2
 refine ⟨x1 ++ x2,fitsL_append f1 f2,RV.relV_append r1 r2,fun u hu=>?_⟩
 rcases List.mem_append.1 hu with hu | hu
 · exact o1 u hu
 · exact o2 u hu
theorem good3_length {ss : List Sh} {cs : List Value} (h : Good3 w ss cs) : cs.length = ss.length:=by
 obtain ⟨xs,f,r,_⟩:=h
 rw [RV.relV_length r,fitsL_length f]
theorem trod_fits : ∀ (fuel n : Nat) (t : TypeId) (cs : List Value) (x : DataW H × List MemPlace) (ss : List Sh),DataW.trod enc P w base spare held fuel t cs = some x → shape P n t = some ss → Good3 w ss cs:=by
 intro fuel
 induction fuel with
 | zero=>intro n t cs x ss h; simp [DataW.trod] at h
 | succ fuel ih =>
   intro n t cs x ss h hs
   cases n with
   | zero=>simp [shape] at hs
   | succ n =>
     unfold shape at hs
     split at hs
     · rename_i k ht
       injection hs with hs; subst hs
       obtain ⟨m,rfl,_,hw⟩:=DataW.trod_int ht h
       exact ⟨[.it k m],by simp only [FitsL,Fits]; exact ⟨_,[],rfl,⟨m,rfl,hw⟩,rfl⟩,by simp only [RV.relV,RV.rel]; exact ⟨_,[],rfl,rfl,rfl⟩,by simp [Value.oneCell']⟩
     · rename_i ht
       injection hs with hs; subst hs
       obtain ⟨b,rfl,_⟩:=DataW.trod_bool ht h
       exact ⟨[.bo b],by simp only [FitsL,Fits]; exact ⟨_,[],rfl,⟨b,rfl⟩,rfl⟩,by simp only [RV.relV,RV.rel]; exact ⟨_,[],rfl,rfl,rfl⟩,by simp [Value.oneCell']⟩
     · rename_i e ht
       split at hs
       · rename_i es hes
         split at hs
         · rename_i hc
           simp only [Bool.and_eq_true,beq_iff_eq,decide_eq_true_eq] at hc
           injection hs with hs; subst hs
           rcases DataW.trod_slice ht h with ⟨rfl,_⟩ | ⟨a,len,cap,elems,rest,m,hm,rfl,_,_,hlc,hcm,hel,hget,_⟩
           · refine ⟨[.sl es.length []],?_,?_,by simp [Value.oneCell']⟩
             · simp only [FitsL,Fits]
               exact ⟨_,[],rfl,⟨[],rfl,by simp only [FitsE]⟩,rfl⟩
             · simp only [RV.relV,RV.rel]
               exact ⟨_,[],rfl,⟨none,0,rfl,Nat.le_refl _,Nat.zero_le _,fun h=>absurd rfl h⟩,rfl⟩
           · injection hm with hm; subst hm
             have hall : ∀ i,i < len → ∃ e',FitsL es e' ∧ e'.length = es.length ∧ RV.relC w (old w) e' (a.add (i * es.length)) 0 ∧ a.block < w.heap.size:=fun i hi=>by
              have h1:=hget i hi
              have h2 : i < elems.length:=by omega
              rw [List.getElem?_eq_getElem h2] at h1
              obtain ⟨ci,hci,htr⟩:=Option.bind_eq_some_iff.1 h1
              rw [← hc.1] at hci
              obtain ⟨hl,hcell⟩:=cells?_get hci
              obtain ⟨xs,f,r,o⟩:=ih n e ci _ es htr hes
              refine ⟨xs,f,fitsL_length f,relC_of_cells r o (fun j hj=>hcell j (by omega)),?_⟩
              have h3:=hcell 0 hc.2
              have h4 : 0 < ci.length:=by omega
              rw [List.getElem?_eq_getElem h4] at h3
              have:=cell_lt h3
              rwa [block_add,block_add] at this
             obtain ⟨els,hlen,hels⟩:=choice len hall
             refine ⟨[.sl es.length els],?_,?_,by simp [Value.oneCell']⟩
             · simp only [FitsL,Fits]
               refine ⟨_,[],rfl,⟨els,rfl,fitsE_of fun e' he'=>?_⟩,rfl⟩
               obtain ⟨i,hi⟩:=List.getElem?_of_mem he'
               exact (hels i e' hi).1
             · simp only [RV.relV,RV.rel]
               refine ⟨_,[],rfl,⟨some a,cap,by rw [hlen],by omega,hcm,fun hne=>?_⟩,rfl⟩
               obtain ⟨e0,he0⟩ : ∃ e0,els[0]? = some e0:=by
                cases els with
                | nil=>exact absurd rfl hne
                | cons a l=>exact ⟨a,rfl⟩
               refine ⟨a,rfl,(hels 0 e0 he0).2.2.2,RV.relE_of_get fun i e' he'=>?_⟩
               obtain ⟨_,q1,q2,_⟩:=hels i e' he'
               exact ⟨q1,RV.relC_unbase _ q2⟩
         · cases hs
       · cases hs
     · rename_i m e ht
       split at hs
       · rename_i es hes
         split at hs
         · rename_i hc
           simp only [Bool.and_eq_true,beq_iff_eq] at hc
           injection hs with hs; subst hs
           obtain ⟨xs,fm,hm,_,hcl,hxl,hget⟩:=DataW.trod_array ht h
           injection hm with hm; subst hm
           have key : ∀ j,j ≤ m → Good3 w (List.replicate j es).flatten (cs.take (j * es.length)):=by
            intro j
            induction j with
            | zero=>intro _; exact ⟨[],by simp [FitsL],by simp [RV.relV],by simp⟩
            | succ j ihj =>
              intro hj
              have h1:=hget j (by omega)
              have h2 : j < xs.length:=by omega
              rw [List.getElem?_eq_getElem h2,← hc.1] at h1
              have h3:=ih n e _ _ es h1 hes
              have:=good3_append (ihj (by omega)) h3
              rw [← List.take_add] at this
              rw [List.replicate_succ',List.flatten_append,Nat.add_mul]
              simpa using this
           have:=key m (Nat.le_refl _)
           rwa [← hc.2,← hcl,List.take_length] at this
         · cases hs
       · cases hs
     · rename_i fs ht
       split at hs
       · rename_i q hq
         split at hs
         · rename_i hc
           simp only [beq_iff_eq] at hc
           injection hs with hs; subst hs
           obtain ⟨xs,fm,hm,_,hcl,hxl,hget⟩:=DataW.trod_struct ht h
           injection hm with hm; subst hm
           have key : ∀ (l : List Field) (o : Nat) (q : List Sh),(∀ f ∈ l,∃ y,DataW.trod enc P w base spare held fuel f.type ((cs.drop f.offset).take (P.cellsOf f.type)) = some y) → fieldsSh P (shape P n) l o = some q → Good3 w q ((cs.drop o).take q.length):=by
            intro l
            induction l with
            | nil =>
              intro o q _ hq
              simp only [fieldsSh,Option.some.injEq] at hq
              subst hq
              exact ⟨[],by simp [FitsL],by simp [RV.relV],by simp⟩
            | cons f l ihl =>
              intro o q hall hq
              simp only [fieldsSh] at hq
              split at hq
              · rename_i s1 hs1
                split at hq
                · rename_i hc1
                  simp only [Bool.and_eq_true,beq_iff_eq] at hc1
                  split at hq
                  · rename_i q2 hq2
                    injection hq with hq; subst hq
                    obtain ⟨y,hy⟩:=hall f (by simp)
                    have g1:=ih n f.type _ _ s1 hy hs1
                    have g2:=ihl (o + s1.length) q2 (fun f' hf'=>hall f' (by simp [hf'])) hq2
                    rw [hc1.1,← hc1.2] at g1
                    have:=good3_append g1 g2
                    rw [← List.drop_drop,← List.take_add] at this
                    simpa using this
                  · cases hq
                · cases hq
              · cases hq
           have:=key fs.toList 0 q (fun f hf=>by
            obtain ⟨i,hi⟩:=List.getElem?_of_mem hf
            have hi' : fs[i]? = some f:=by simpa using hi
            have h1:=hget i f hi'
            have h2 : i < xs.length:=by have:=(Array.getElem?_eq_some_iff.1 hi').1; omega
            exact ⟨xs[i],by rw [h1]; exact List.getElem?_eq_getElem h2⟩) hq
           rwa [List.drop_zero,hc,← hcl,List.take_length] at this
         · cases hs
       · cases hs
     · cases hs
def FitsT (P : Program) (n : Nat) (t : TypeId) (x : RV) : Prop:=∃ ss,shape P n t = some ss ∧ if aggOf P t then ∃ xs,x = .ag xs ∧ FitsL ss xs else FitsL ss [x]
theorem arg_fits {n : Nat} {t : TypeId} {v : Value} {d : DataW H} {ps : List MemPlace} {r : Reach} {b0 : Nat} (hs : (shape P n t).isSome = true) (hval : Value.okWide P w r b0 t v) (h : DataW.Trod enc P w base spare held t v d ps) :
 ∃ x,FitsT P n t x ∧ x.rel w (old w) v:=by
 obtain ⟨ss,hss⟩:=Option.isSome_iff_exists.1 hs
 obtain ⟨fuel,hf⟩:=h
 obtain ⟨xs,f,r,o⟩:=trod_fits fuel n t _ _ ss hf hss
 have one : aggOf P t = false → v.cells.toList = [v] → ∃ x,FitsT P n t x ∧ x.rel w (old w) v:=fun ha hc=>by
  rw [hc] at r
  match xs,r with
  | [x], r =>
    simp only [RV.relV] at r
    obtain ⟨u,us,e,hr,_⟩:=r
    injection e with e1 e2
    subst e1
    exact ⟨x,⟨ss,hss,by rw [ha]; exact f⟩,hr⟩
  | [],r=>simp [RV.relV] at r
  | _ :: _ :: _, r =>
    simp only [RV.relV] at r
    obtain ⟨u,us,e,_,u2,us2,e2,_⟩:=r
    injection e with _ e
    rw [e2] at e; cases e
 cases n with
 | zero=>simp [shape] at hss
 | succ n =>
   have hss':=hss
   unfold shape at hss'
   split at hss'
   · rename_i k ht
     obtain ⟨m,rfl⟩:=okWide_int ht hval
     exact one (by simp [aggOf,ht]) rfl
   · rename_i ht
     obtain ⟨b,rfl⟩:=okWide_bool ht hval
     exact one (by simp [aggOf,ht]) rfl
   · rename_i e ht
     obtain ⟨a,l,c,rfl⟩:=okWide_slice ht hval
     exact one (by simp [aggOf,ht]) rfl
   · rename_i m e ht
     obtain ⟨cs,rfl⟩ : ∃ cs,v = .agg cs:=by
      simp only [Value.okWide,ht] at hval
      obtain ⟨cs,h1,_⟩:=hval
      exact ⟨cs,h1⟩
     exact ⟨.ag xs,⟨ss,hss,by simp only [aggOf,ht,if_true]; exact ⟨xs,rfl,f⟩⟩,by simp only [RV.rel]; exact ⟨cs,rfl,o,r⟩⟩
   · rename_i fs ht
     obtain ⟨cs,rfl,_⟩:=okWide_struct ht hval
     exact ⟨.ag xs,⟨ss,hss,by simp only [aggOf,ht,if_true]; exact ⟨xs,rfl,f⟩⟩,by simp only [RV.rel]; exact ⟨cs,rfl,o,r⟩⟩
   · cases hss'
theorem wf_i64 {n : Int} (h : (Lit.int .i64 n).wf = true) : -9223372036854775808 ≤ n ∧ n ≤ 9223372036854775807:=by
 simp only [Lit.wf,Bool.and_eq_true,decide_eq_true_eq] at h
 have h1 : IntKind.min .i64 = -9223372036854775808:=by decide
 have h2 : IntKind.max .i64 = 9223372036854775807:=by decide
 rw [h1,h2] at h
 exact h
theorem fitsE_ints : ∀ {es : List (List RV)},FitsE [.int .i64] es → ∃ l : List Int,es = l.map (fun x=>[.it .i64 x]) ∧ ∀ x ∈ l,-9223372036854775808 ≤ x ∧ x ≤ 9223372036854775807
 | [],_=>⟨[],rfl,by simp⟩
 | e :: es, h => by
   simp only [FitsE,FitsL,Fits] at h
   obtain ⟨⟨y,ys,rfl,⟨n,rfl,hn⟩,rfl⟩,h⟩:=h
   obtain ⟨l,rfl,hl⟩:=fitsE_ints h
   refine ⟨n :: l,rfl,fun x hx=>?_⟩
   rcases List.mem_cons.1 hx with rfl | hx
   · exact wf_i64 hn
   · exact hl x hx
theorem fitsT_ag {n : Nat} {t : TypeId} {x : RV} {ss : List Sh} (h : FitsT P n t x) (hs : shape P n t = some ss) (ha : aggOf P t = true) : ∃ xs,x = .ag xs ∧ FitsL ss xs:=by
 obtain ⟨s',h1,h2⟩:=h
 rw [hs] at h1; injection h1 with h1; subst h1
 rw [ha] at h2
 exact h2
theorem fitsT_one {n : Nat} {t : TypeId} {x : RV} {s : Sh} (h : FitsT P n t x) (hs : shape P n t = some [s]) (ha : aggOf P t = false) : Fits s x:=by
 obtain ⟨s',h1,h2⟩:=h
 rw [hs] at h1; injection h1 with h1; subst h1
 rw [ha] at h2
 simp only [Bool.false_eq_true,if_false,FitsL] at h2
 obtain ⟨y,ys,e,h3,_⟩:=h2
 injection e with e1 e2
 subst e1
 exact h3
theorem fitsT_int {n : Nat} {t : TypeId} {x : RV} (h : FitsT P n t x) (hs : shape P n t = some [.int .i64]) (ha : aggOf P t = false) : ∃ m,x = .it .i64 m ∧ -9223372036854775808 ≤ m ∧ m ≤ 9223372036854775807:=by
 have:=fitsT_one h hs ha
 simp only [Fits] at this
 obtain ⟨m,h1,h2⟩:=this
 exact ⟨m,h1,wf_i64 h2⟩
theorem fitsT_ints {n : Nat} {t : TypeId} {x : RV} (h : FitsT P n t x) (hs : shape P n t = some [.sl [.int .i64]]) (ha : aggOf P t = false) : ∃ l : List Int,x = .sl 1 (l.map (fun x=>[.it .i64 x])) ∧ ∀ x ∈ l,-9223372036854775808 ≤ x ∧ x ≤ 9223372036854775807:=by
 have:=fitsT_one h hs ha
 simp only [Fits] at this
 obtain ⟨es,h1,h2⟩:=this
 obtain ⟨l,rfl,hl⟩:=fitsE_ints h2
 exact ⟨l,h1,hl⟩
end
end Go.Oc

namespace Go.Proofs.Ytlbfkhikmigpbaa
open Go Go.Oc
theorem wf8 {n : Int} (h : (Lit.int .u8 n).wf = true) : 0 ≤ n ∧ n ≤ 255:=by
 simp only [Lit.wf,Bool.and_eq_true,decide_eq_true_eq] at h
 have h1 : IntKind.min .u8 = 0:=by decide
 have h2 : IntKind.max .u8 = 255:=by decide
 rw [h1,h2] at h
 exact h
theorem wf16 {n : Int} (h : (Lit.int .u16 n).wf = true) : 0 ≤ n ∧ n ≤ 65535:=by
 simp only [Lit.wf,Bool.and_eq_true,decide_eq_true_eq] at h
 have h1 : IntKind.min .u16 = 0:=by decide
 have h2 : IntKind.max .u16 = 65535:=by decide
 rw [h1,h2] at h
 exact h
theorem fitsL_bytes : ∀ (n : Nat) {xs : List RV},FitsL (List.replicate n (.int .u8)) xs → ∃ l : List Int,xs = l.map it8 ∧ l.length = n ∧ ∀ x ∈ l,0 ≤ x ∧ x ≤ 255
 | 0, xs, h => by
   simp only [List.replicate_zero,Oc.FitsL] at h
   exact ⟨[],h,rfl,by simp⟩
 | n + 1, xs, h => by
   simp only [List.replicate_succ,Oc.FitsL,Oc.Fits] at h
   obtain ⟨_,_,rfl,⟨a,rfl,ha⟩,h⟩:=h
   obtain ⟨l,rfl,hl,hx⟩:=fitsL_bytes n h
   refine ⟨a :: l,rfl,by simp [hl],fun x hm=>?_⟩
   rcases List.mem_cons.1 hm with rfl | hm
   · exact wf8 ha
   · exact hx x hm
theorem fitsE_bytes (n : Nat) : ∀ {es : List (List RV)},FitsE (List.replicate n (.int .u8)) es → ∃ l : List (List Int),es = l.map (fun e=>e.map it8) ∧ ∀ e ∈ l,e.length = n ∧ ∀ x ∈ e,0 ≤ x ∧ x ≤ 255
 | [],_=>⟨[],rfl,by simp⟩
 | e :: es, h => by
   simp only [Oc.FitsE] at h
   obtain ⟨h1,h2⟩:=h
   obtain ⟨a,rfl,ha,hx⟩:=fitsL_bytes n h1
   obtain ⟨l,rfl,hl⟩:=fitsE_bytes n h2
   refine ⟨a :: l,rfl,fun x hm=>?_⟩
   rcases List.mem_cons.1 hm with rfl | hm
   · exact ⟨ha,hx⟩
   · exact hl x hm
theorem fitsE_pairs : ∀ {es : List (List RV)},FitsE [.int .u16,.int .u16] es → ∃ l : List (Int × Int),es = l.map (fun e=>[.it .u16 e.1,.it .u16 e.2]) ∧ ∀ e ∈ l,(0 ≤ e.1 ∧ e.1 ≤ 65535) ∧ 0 ≤ e.2 ∧ e.2 ≤ 65535
 | [],_=>⟨[],rfl,by simp⟩
 | e :: es, h => by
   simp only [Oc.FitsE,Oc.FitsL,Oc.Fits] at h
   obtain ⟨⟨_,_,rfl,⟨a,rfl,ha⟩,_,_,rfl,⟨b,rfl,hb⟩,rfl⟩,h⟩:=h
   obtain ⟨l,rfl,hl⟩:=fitsE_pairs h
   refine ⟨(a,b) :: l,rfl,fun x hm=>?_⟩
   rcases List.mem_cons.1 hm with rfl | hm
   · exact ⟨wf16 ha,wf16 hb⟩
   · exact hl x hm
theorem fits66 {x : RV} (h : FitsT Try.prog 9 66 x) : ∃ m : Mt,x = .ag (mtC m) ∧ WfM m:=by
 obtain ⟨xs,rfl,hx⟩:=fitsT_ag (ss:=[.int .u8,.sl (List.replicate 12 (.int .u8)),.int .u8,.int .u8,.sl [.int .u16,.int .u16]]) h (by kernel_rfl) (by kernel_rfl)
 simp only [Oc.FitsL,Oc.Fits] at hx
 obtain ⟨_,_,rfl,⟨d,rfl,hd⟩,_,_,rfl,⟨es,rfl,hes⟩,_,_,rfl,⟨st,rfl,hs⟩,_,_,rfl,⟨ou,rfl,ho⟩,_,_,rfl,⟨en,rfl,hen⟩,rfl⟩:=hx
 obtain ⟨l,rfl,hl⟩:=fitsE_bytes 12 hes
 obtain ⟨e,rfl,he⟩:=fitsE_pairs hen
 exact ⟨⟨d,l,st,ou,e⟩,rfl,⟨wf8 hd,hl,wf8 hs,wf8 ho,he⟩⟩
theorem fits86 {x : RV} (h : FitsT Try.prog 9 86 x) : ∃ a b c d : Int,x = .ag [it8 a,it8 b,it8 c,it8 d] ∧ (0 ≤ a ∧ a ≤ 255) ∧ (0 ≤ b ∧ b ≤ 255) ∧ (0 ≤ c ∧ c ≤ 255) ∧ 0 ≤ d ∧ d ≤ 255:=by
 obtain ⟨xs,rfl,hx⟩:=fitsT_ag (ss:=[.int .u8,.int .u8,.int .u8,.int .u8]) h (by kernel_rfl) (by kernel_rfl)
 simp only [Oc.FitsL,Oc.Fits] at hx
 obtain ⟨_,_,rfl,⟨a,rfl,ha⟩,_,_,rfl,⟨b,rfl,hb⟩,_,_,rfl,⟨c,rfl,hc⟩,_,_,rfl,⟨d,rfl,hd⟩,rfl⟩:=hx
 exact ⟨a,b,c,d,rfl,wf8 ha,wf8 hb,wf8 hc,wf8 hd⟩
theorem fits82 {x : RV} (h : FitsT Try.prog 9 82 x) : ∃ a b : Int,x = .ag [it8 a,it8 b] ∧ (0 ≤ a ∧ a ≤ 255) ∧ 0 ≤ b ∧ b ≤ 255:=by
 obtain ⟨xs,rfl,hx⟩:=fitsT_ag (ss:=[.int .u8,.int .u8]) h (by kernel_rfl) (by kernel_rfl)
 simp only [Oc.FitsL,Oc.Fits] at hx
 obtain ⟨_,_,rfl,⟨a,rfl,ha⟩,_,_,rfl,⟨b,rfl,hb⟩,rfl⟩:=hx
 exact ⟨a,b,rfl,wf8 ha,wf8 hb⟩
theorem fits83 {x : RV} (h : FitsT Try.prog 9 83 x) : ∃ a : Int,x = .it .u16 a ∧ 0 ≤ a ∧ a ≤ 65535:=by
 have h1:=fitsT_one (s:=.int .u16) h (by kernel_rfl) (by kernel_rfl)
 simp only [Oc.Fits] at h1
 obtain ⟨a,rfl,ha⟩:=h1
 exact ⟨a,rfl,wf16 ha⟩
end Go.Proofs.Ytlbfkhikmigpbaa

namespace Go.Oc
open Go Go.RowKit
theorem wf_u8 {n : Int} (h : (Lit.int .u8 n).wf = true) : 0 ≤ n ∧ n ≤ 255:=by
 simp only [Lit.wf,Bool.and_eq_true,decide_eq_true_eq] at h
 have h1 : IntKind.min .u8 = 0:=by decide
 have h2 : IntKind.max .u8 = 255:=by decide
 rw [h1,h2] at h
 exact h
theorem wf_u16 {n : Int} (h : (Lit.int .u16 n).wf = true) : 0 ≤ n ∧ n ≤ 65535:=by
 simp only [Lit.wf,Bool.and_eq_true,decide_eq_true_eq] at h
 have h1 : IntKind.min .u16 = 0:=by decide
 have h2 : IntKind.max .u16 = 65535:=by decide
 rw [h1,h2] at h
 exact h
theorem wf_u32 {n : Int} (h : (Lit.int .u32 n).wf = true) : 0 ≤ n ∧ n ≤ 4294967295:=by
 simp only [Lit.wf,Bool.and_eq_true,decide_eq_true_eq] at h
 have h1 : IntKind.min .u32 = 0:=by decide
 have h2 : IntKind.max .u32 = 4294967295:=by decide
 rw [h1,h2] at h
 exact h
theorem fitsE_u8 : ∀ {es : List (List RV)},FitsE [.int .u8] es → ∃ l : List Int,es = l.map (fun x=>[.it .u8 x]) ∧ ∀ x ∈ l,0 ≤ x ∧ x ≤ 255
 | [],_=>⟨[],rfl,by simp⟩
 | e :: es, h => by
   simp only [FitsE,FitsL,Fits] at h
   obtain ⟨⟨y,ys,rfl,⟨n,rfl,hn⟩,rfl⟩,h⟩:=h
   obtain ⟨l,rfl,hl⟩:=fitsE_u8 h
   refine ⟨n :: l,rfl,fun x hx=>?_⟩
   rcases List.mem_cons.1 hx with rfl | hx
   · exact wf_u8 hn
   · exact hl x hx
theorem fitsE_u16 : ∀ {es : List (List RV)},FitsE [.int .u16] es → ∃ l : List Int,es = l.map (fun x=>[.it .u16 x]) ∧ ∀ x ∈ l,0 ≤ x ∧ x ≤ 65535
 | [],_=>⟨[],rfl,by simp⟩
 | e :: es, h => by
   simp only [FitsE,FitsL,Fits] at h
   obtain ⟨⟨y,ys,rfl,⟨n,rfl,hn⟩,rfl⟩,h⟩:=h
   obtain ⟨l,rfl,hl⟩:=fitsE_u16 h
   refine ⟨n :: l,rfl,fun x hx=>?_⟩
   rcases List.mem_cons.1 hx with rfl | hx
   · exact wf_u16 hn
   · exact hl x hx
end Go.Oc

namespace Go.Proofs.Ytlbfkhikmigpbaa
open Go Go.Oc
theorem law9' {x0 x1 : RV} (h0 : FitsT Try.prog 9 66 x0) (h1 : FitsT Try.prog 9 86 x1) : ACalls Try.prog 9 [x0,x1] (.bo true):=by
 obtain ⟨m,rfl,hw⟩:=fits66 h0
 obtain ⟨a,b,c,d,rfl,ha,hb,hc,hd⟩:=fits86 h1
 exact noOther_law m hw a b c d ha hb hc hd
end Go.Proofs.Ytlbfkhikmigpbaa


namespace Go.Proofs.Ytlbfkhikmigpbaa
open Go Go.Oc Go.ChangeShapes Go.WideShapes Go.RowKit
set_option linter.unusedVariables false
theorem own : ownKnob Try.prog.godebug = none := by kernel_rfl
theorem laidOut : laidOutB Try.prog = true := by kernel_rfl
set_option maxRecDepth 100000 in
theorem lifted (os : Os) (started : os.Started) (H : Type) (enc : TypeId × Value → H) :
    ReturnsInHanded {} Try.checked os 9 .any (Rows.duelNoOtherSpec.pre6 enc Try.prog Try.f9 Rows.duelNoOtherRow.domain false) (Rows.duelNoOtherSpec.post enc Try.prog Try.f9 false true false false) := by
  refine returnsInHanded_of_change (C := Try.checked) own started (by kernel_rfl) Try.func9
    (ChangeSpec.witness6 (enc := enc) (C := Try.checked) false ⟨#[], #[.agg #[.int .u8 0, .slice none 0 0, .int .u8 0, .int .u8 0, .slice none 0 0], .agg #[.int .u8 0, .int .u8 0, .int .u8 0, .int .u8 0]], []⟩ 8 (by kernel_rfl) (by kernel_rfl) (by kernel_rfl) (by kernel_rfl)) ?_
  intro W base args ds gs before hval0 hW hcnd _
  have hval : ∀ (j : Nat) t v, Try.f9.params[j]? = some t → args[j]? = some v → Value.okWide Try.prog W .any base t v := hval0
  have hW' := hW
  obtain ⟨p, q, hA0, hV, rfl, hfz, hnd⟩ := hW
  have hA : DataW.TrodAll enc Try.prog W 0 (fun _ => true) true Try.f9.params.toList args.toList ds p := hA0
  rw [Try.params9] at hA hval
  obtain ⟨v0, vs0, d0, ds0, p0, q0, hargs, rfl, rfl, h0, r0⟩ := trodAll_cons hA
  obtain ⟨v1, vs1, d1, ds1, p1, q1, rfl, rfl, rfl, h1, r1⟩ := trodAll_cons r0
  obtain ⟨rfl, rfl, rfl⟩ := trodAll_nil r1
  obtain rfl : args = #[v0, v1] := by cases args; simp_all
  obtain ⟨rfl, rfl⟩ := trodVars_none hV
  have lt0 : ∀ x ∈ p0, x.block < W.heap.size := by obtain ⟨m, hm⟩ := h0; exact DataW.trod_lt m _ _ _ hm
  have lt1 : ∀ x ∈ p1, x.block < W.heap.size := by obtain ⟨m, hm⟩ := h1; exact DataW.trod_lt m _ _ _ hm
  obtain ⟨x0, g0, e0⟩ := arg_fits (n := 9) (by kernel_rfl) (hval 0 66 v0 rfl rfl) h0
  obtain ⟨x1, g1, e1⟩ := arg_fits (n := 9) (by kernel_rfl) (hval 1 86 v1 rfl rfl) h1
  clear hA0 hval0
  refine ((law9' g0 g1).2 W (old W) #[v0, v1] (fun _ h => h) (by simp only [RV.relV]; exact ⟨_, _, rfl, e0, _, _, rfl, e1, rfl⟩)).mono fun e W' he => ?_
  obtain ⟨v, R', rfl, bel, _, _, _, hr⟩ := he
  simp only [RV.rel] at hr
  subst hr
  exact ⟨_, rfl, _, _, _, [], _, [], hW', trodAll_mk1 (shut_bool Try.underlying4 _), (trodAll_cons_mk (Below.trod laidOut (by kernel_rfl) (of_decide_eq_true (by kernel_rfl)) h0 bel lt0) (trodAll_cons_mk (Below.trod laidOut (by kernel_rfl) (of_decide_eq_true (by kernel_rfl)) h1 bel lt1) trodAll_mk0)), rfl, bel.frame _, fun h => by cases h⟩
theorem over : Rows.duelNoOtherRow.holds Try.pinned (OpenSpec.ofChange Rows.duelNoOtherSpec) :=
  OpenClaim.holds_of_wide 9 Try.f9 rfl rfl rfl rfl rfl rfl rfl ⟨rfl, rfl, rfl, rfl, rfl⟩ rfl rfl rfl rfl rfl (by kernel_rfl) Try.func9 (by kernel_rfl)
    (of_decide_eq_true (by kernel_rfl)) (by unfold Func.isWrapper; first | (rw [if_pos (by decide +kernel)]; kernel_rfl) | (rw [if_neg (by decide +kernel)]; exact ⟨rfl, rfl⟩))
    (fun os started H enc _ => lifted os started H enc)
theorem duelNoOther_holds : Rows.DuelNoOtherSaid := over
#print axioms duelNoOther_holds
end Go.Proofs.Ytlbfkhikmigpbaa

/- For all rules and truths made of bytes, the given function AimEnough returns true: whoever aims as Aim says needs no more visits than the upper number says. No conditions beyond those of the given statement. -/
import Derived.Test.YtgfbenanljjgaaaVF10
import Derived.Test.YtgfbenanljjgaaaVF7
import Derived.Test.YtgfbenanljjgaaaVF5
import Derived.Test.YtgfbenanljjgaaaVF6
import Derived.ChangeShapes
import Derived.WideShapes
import Derived.OpenShut
import Derived.ShutString
import Derived.ChangeOld
import Derived.Carry
import Derived.Below
import Derived.Test.YtgfbenanljjgaaaRows
import Derived.JoinedOf
namespace Go.Proofs.Ytgfbenanljjgaaa.Du.Th.Ai
open Go Go.Oc
set_option linter.unusedSimpArgs false
set_option linter.unusedVariables false
set_option maxRecDepth 8000
set_option maxHeartbeats 8000000
def partV (r : Rk) (up : Int) (bs : List Int) (ai : Nat → Nat → Nat) (own : Int) (s darts : Nat) (dart : List Int) (n : Nat) : List Int :=
 (List.range (s + 1)).map fun l=>if l < n then cellV r up bs ai own s darts dart l else 0
theorem partV_len {r : Rk} {up : Int} {bs : List Int} {ai : Nat → Nat → Nat} {own : Int} {s darts : Nat} {dart : List Int} {n : Nat} : (partV r up bs ai own s darts dart n).length = s + 1:=by simp [partV]
theorem partV_zero {r : Rk} {up : Int} {bs : List Int} {ai : Nat → Nat → Nat} {own : Int} {s darts : Nat} {dart : List Int} {n : Nat} (hn : (n : Int) ≤ lowG r.out) : partV r up bs ai own s darts dart n = List.replicate (s + 1) 0:=by
 refine List.ext_getElem (by simp [partV]) fun i h1 h2=>?_
 simp only [partV,List.getElem_map,List.getElem_range,List.getElem_replicate]
 split
 · unfold cellV
   rw [if_pos (by omega)]
 · rfl
theorem partV_full {r : Rk} {up : Int} {bs : List Int} {ai : Nat → Nat → Nat} {own : Int} {s darts : Nat} {dart : List Int} : partV r up bs ai own s darts dart (s + 1) = rowV r up bs ai own s darts dart:=by
 refine List.ext_getElem (by simp [partV,rowV]) fun i h1 h2=>?_
 have : i < s + 1:=by rw [partV_len] at h1; exact h1
 simp only [partV,rowV,List.getElem_map,List.getElem_range];rw [if_pos this]
theorem partV_set {r : Rk} {up : Int} {bs : List Int} {ai : Nat → Nat → Nat} {own : Int} {s darts : Nat} {dart : List Int} {n : Nat} (hn : n ≤ s) : (partV r up bs ai own s darts dart n).set n (cellV r up bs ai own s darts dart n) = partV r up bs ai own s darts dart (n + 1):=by
 refine List.ext_getElem (by simp [partV]) fun i h1 h2=>?_
 rw [List.getElem_set]
 simp only [partV,List.getElem_map,List.getElem_range]
 by_cases h : n = i
 · subst h
   rw [if_pos rfl,if_pos (by omega)]
 · rw [if_neg h]
   by_cases h' : i < n
   · rw [if_pos h',if_pos (by omega)]
   · rw [if_neg h',if_neg (by omega)]
theorem partV_skip {r : Rk} {up : Int} {bs : List Int} {ai : Nat → Nat → Nat} {own : Int} {s darts : Nat} {dart : List Int} {n : Nat} (h0 : cellV r up bs ai own s darts dart n = 0) : partV r up bs ai own s darts dart n = partV r up bs ai own s darts dart (n + 1):=by
 refine List.ext_getElem (by simp [partV]) fun i h1 h2=>?_
 simp only [partV,List.getElem_map,List.getElem_range]
 by_cases h : n = i
 · subst h
   rw [if_neg (by omega),if_pos (by omega),h0]
 · by_cases h' : i < n
   · rw [if_pos h',if_pos (by omega)]
   · rw [if_neg h',if_neg (by omega)]
theorem visit_ok {R : Rk} (hr : ROk R) (h24 : ∀ a ∈ R.aims,A24 a) {up : Int} (hup : 0 ≤ up ∧ up ≤ 1) {bs : List Int} (hb : ∀ n ∈ bs,0 ≤ n ∧ n ≤ 255) (F : Nat) (caps : List RV) (ai : Nat → Nat → Nat) {visits : List Int} {s : Nat} (hs : s < visits.length) (hs60 : s ≤ 60) (hlo : lowG R.out ≤ s)
 {M : Int} (hM : 0 ≤ M ∧ M ≤ 4000000000) (hv : ∀ x,0 ≤ visits.getD x 0 ∧ visits.getD x 0 ≤ M)
 (hF : ∀ left darts,lowG R.out ≤ (left : Nat) → left ≤ s → (darts = 3 → left = s) → 1 ≤ darts → darts ≤ 3 → ai left darts < R.aims.length ∧ ACalls Try.prog F (i64 (left : Int) :: i64 (darts : Int) :: caps) (i64 (ai left darts : Nat))) :
 ACalls Try.prog 27 [rkR R,i64 (s : Int),ints visits,.fn F caps,u8s bs,i64 up] (i64 (visV R up bs ai visits s)):=by
 have hlow:=lowest_ok R.out
 have hlg:=lowG_le R.out
 obtain ⟨base,hbase⟩ : ∃ base : Nat,(base : Int) = lowG R.out:=⟨(lowG R.out).toNat,by omega⟩
 have hmem : ∀ left darts,ai left darts < R.aims.length → aimN R (ai left darts) ∈ R.aims ∧ R.aims[ai left darts]? = some (aimN R (ai left darts)):=fun left darts h=>by
  unfold aimN
  rw [List.getD_eq_getElem?_getD,List.getElem?_eq_getElem h]
  exact ⟨List.getElem_mem _,rfl⟩
 have hA24 : ∀ left darts,lowG R.out ≤ (left : Nat) → left ≤ s → (darts = 3 → left = s) → 1 ≤ darts → darts ≤ 3 → A24 (aimN R (ai left darts)):=fun left darts q1 q2 q3 q4 q5=>h24 _ (hmem _ _ (hF left darts q1 q2 q3 q4 q5).1).1
 have hdl:=dart_le hup hb (ai:=ai) (visits:=visits) (s:=s) hM.1 hv hA24
 have hro:=hr.out
 have ws : IntKind.i64.wrap ((s : Int) + 1) = (s : Int) + 1:=by rw [zI] <;> omega
 obtain ⟨V,hV⟩ : ∃ V,V = visV R up bs ai visits s:=⟨_,rfl⟩
 rw [← hV]
 unfold visV at hV
 refine acalls_st (rs:=[i64 V]) [.tmp 12] Try.func27 rfl (by kernel_rfl) Try.ntmps27 rfl (by simp) rfl fun C vs=>?_
 refine zq ?_
 refine zb fun K hK=>?_;simp only [go_sem];refine hK _ ?_;clear hK K;refine zw (sub_frzP 6 6 [i64 R.d,aimsR R.aims,i64 R.start,i64 R.out] (by omega) rfl rfl) ?_;refine zw (zk [1,2,3,4,5,6]) ?_;simp only [go_sem]
 refine zq ?_
 refine zb fun K hK=>?_;simp only [go_sem];refine hK _ ?_;clear hK K;refine zw (zk [1,2,3,4,5,6,13]) ?_;simp only [go_sem]
 repeat refine zq ?_
 refine zb fun K hK=>?_;simp only [go_sem];refine hK _ ?_;clear hK K;refine zw (zk [1,2,3,4,5,6,13,14]) ?_;simp only [go_sem];refine zd ?_
 refine awp_upto (n:=98) 3 (fun k vs=>[(1,.r (i64 (s : Int))),(2,.r (ints visits)),(3,.r (.fn F caps)),(4,.r (u8s bs)),(5,.r (i64 up)),(6,.r (.rp [i64 R.d,aimsR R.aims,i64 R.start,i64 R.out])),(13,.r (ints (dartV R up bs ai visits s k))),(14,.r (i64 ((k : Int) + 1)))])
  (fun i=>[]) (fun _=>True) 0 (fit_of [] ?_ ?_) (Nat.zero_le _) trivial ?_
 · try simp only [go_sem]
   try rfl
 · try simp only [go_sem]
 intro k vs hk _
 by_cases hk3 : k < 3
 · have e3 : decide ((k : Int) + 1 ≤ 3) = true:=decide_eq_true (by omega)
   have hdk:=hdl k (by omega)
   have hdn : dartV R up bs ai visits s (k + 1) = rowV R up bs ai (visits.getD s 0) s (k + 1) (dartV R up bs ai visits s k):=rfl
   have hdlen : s < (dartV R up bs ai visits s k).length:=by
    cases k with
    | zero=>exact hs
    | succ k=>show s < (rowV _ _ _ _ _ _ _ _).length; rw [rowV_len]; omega
   rw [hdn]
   obtain ⟨own,hown⟩ : ∃ own,own = visits.getD s 0:=⟨_,rfl⟩
   have hob:=hv s
   rw [← hown] at hob
   have haft:=fun (left : Nat) (b : Int) (q1 : 0 ≤ b ∧ b ≤ 499) (q2 : left ≤ s)=>after_ok R hro s left b q1 visits (dartV R up bs ai visits s k) hs (by omega) (by omega)
   rw [← hown] at haft ⊢
   generalize dartV R up bs ai visits s k = dart at *
   obtain ⟨D,hD⟩ : ∃ D : Nat,D = k + 1:=⟨_,rfl⟩
   have hDk : (k : Int) + 1 = (D : Int):=by omega
   rw [hDk] at e3 ⊢
   rw [← hD]
   repeat refine zq ?_
   refine zb fun K hK=>?_;simp only [go_sem,e3];refine hK _ ?_;clear hK K;refine zw (zk [1,2,3,4,5,6,13,14,23]) ?_;simp only [go_sem]
   refine zc rfl (fun hc=>?_) (fun hc=>?_) <;> (try simp only [go_sem] at hc)
   refine zx ?_
   try simp only [go_sem]
   refine zq ?_
   refine zd ?_
   refine zq ?_
   refine zb fun K hK=>?_;simp only [go_sem,ws]
   refine ⟨⟨by omega,by omega,by omega⟩,?_⟩
   refine hK _ ?_;clear hK K;refine zw (zk [1,2,3,4,5,6,13,14,15]) ?_;simp only [go_sem]
   repeat refine zq ?_
   refine zb fun K hK=>?_;simp only [go_sem]
   refine zh (hlow) rfl (by simp only [go_sem,i64,ints]) (by simp only [go_sem,i64,ints]) (by first | exact .inl rfl | exact .inr rfl) ?_
   (try simp only [go_sem]);refine hK _ ?_;clear hK K;refine zw (zk [1,2,3,4,5,6,13,14,15,16]) ?_;simp only [go_sem]
   have hD3 : 1 ≤ D ∧ D ≤ 3:=by omega
   refine zd ?_
   refine awp_uptoV (n:=98) (s + 1 - base) (fun i vs=>[(1,.r (i64 (s : Int))),(2,.r (ints visits)),(3,.r (.fn F caps)),(4,.r (u8s bs)),(5,.r (i64 up)),(6,.r (.rp [i64 R.d,aimsR R.aims,i64 R.start,i64 R.out])),(13,.r (ints dart)),(14,.r (i64 (D : Int))),(15,.os 28 (vs 28) 1 0 (s + 1)),(16,.r (i64 ((base + i : Nat) : Int)))])
    (fun i vs=>[(28,.arr 3 1 ((partV R up bs ai own s D dart (base + i)).map fun x=>[i64 x]))]) (fun _=>True) 0 (zj [] ?_ ?_) (Nat.zero_le _) trivial ?_
   · try simp only [go_sem]
     rw [← hbase]
   · try simp only [go_sem]
     rw [partV_zero (by omega)]
     simp [List.map_replicate,List.replicate_succ]
   intro i vs hi _
   obtain ⟨left,hleft⟩ : ∃ left,left = base + i:=⟨_,rfl⟩
   have hnx : base + (i + 1) = left + 1:=by omega
   rw [hnx]
   rw [← hleft]
   have wl : IntKind.i64.wrap ((left : Int) + 1) = ((left + 1 : Nat) : Int):=by rw [zI] <;> omega
   have hcells : ∀ (l : List Int) (q : Nat) (y : Int),(l.map fun x=>[i64 x]).set q [i64 y] = (l.set q y).map fun x=>[i64 x]:=fun l q y=>by rw [List.map_set]
   by_cases hls : left ≤ s
   · have e1 : decide ((left : Int) ≤ (s : Int)) = true:=decide_eq_true (by omega)
     have hpl : (partV R up bs ai own s D dart left).length = s + 1:=partV_len
     repeat refine zq ?_
     refine zb fun K hK=>?_;simp only [go_sem,e1];refine hK _ ?_;clear hK K;refine zw (zk [1,2,3,4,5,6,13,14,15,16,34]) ?_;simp only [go_sem]
     refine zc rfl (fun hc=>?_) (fun hc=>?_) <;> (try simp only [go_sem] at hc)
     rotate_left
     · exact absurd hls hc
     refine zx ?_
     try simp only [go_sem]
     refine zq ?_
     refine zd ?_
     by_cases hd3 : D = 3 ∧ left < s
     · have q1 : ((D : Int) == 3) = true:=by simp; omega
       have q2 : decide ((left : Int) < (s : Int)) = true:=decide_eq_true (by omega)
       have hsk:=partV_skip (r:=R) (up:=up) (bs:=bs) (ai:=ai) (own:=own) (s:=s) (darts:=D) (dart:=dart) (n:=left) (by unfold cellV; rw [if_pos (.inr hd3)])
       repeat refine zq ?_
       refine zb fun K hK=>?_;simp only [go_sem,q1,q2];refine hK _ ?_;clear hK K;refine zw (zk [1,2,3,4,5,6,13,14,15,16,43]) ?_;simp only [go_sem]
       refine zc rfl (fun hc=>?_) (fun hc=>?_) <;> (try simp only [go_sem] at hc)
       rotate_left
       · exact absurd hd3.2 hc
       refine zf ?_;simp only [go_sem];refine zb fun K hK=>?_;simp only [go_sem,wl];refine hK _ ?_;clear hK K
       try simp only [go_sem]
       refine ⟨by omega,zj [] ?_ ?_⟩
       · try simp only [go_sem]
       · try simp only [go_sem]
         rw [hsk]
     repeat refine zq ?_
     refine awp_joinV (n:=98) (fun (_ : Unit) vs=>[(1,.r (i64 (s : Int))),(2,.r (ints visits)),(3,.r (.fn F caps)),(4,.r (u8s bs)),(5,.r (i64 up)),(6,.r (.rp [i64 R.d,aimsR R.aims,i64 R.start,i64 R.out])),(13,.r (ints dart)),(14,.r (i64 (D : Int))),(15,.os 28 (vs 28) 1 0 (s + 1)),(16,.r (i64 (left : Int))),(43,.r (.bo false))])
      (fun _ vs=>[(28,.arr 3 1 ((partV R up bs ai own s D dart left).map fun x=>[i64 x]))]) (fun _=>True) (fun _ h=>h) ?_ ?_
     · by_cases hD' : D = 3
       · have q1 : ((D : Int) == 3) = true:=by simp; omega
         have q2 : decide ((left : Int) < (s : Int)) = false:=decide_eq_false (by omega)
         refine zb fun K hK=>?_;simp only [go_sem,q1,q2];refine hK _ ?_;clear hK K
         refine ⟨(),trivial,zj [] ?_ ?_⟩
         · try simp only [go_sem]
           omega
         · try simp only [go_sem]
       · have q1 : ((D : Int) == 3) = false:=by simp; omega
         refine zb fun K hK=>?_;simp only [go_sem,q1];refine hK _ ?_;clear hK K
         refine ⟨(),trivial,zj [] ?_ ?_⟩
         · try simp only [go_sem]
         · try simp only [go_sem]
     intro _ vs _
     refine zc rfl (fun hc=>?_) (fun hc=>?_) <;> (try simp only [go_sem] at hc)
     refine zx ?_
     try simp only [go_sem]
     obtain ⟨hai,hcl⟩:=hF left D (by omega) hls (by omega) hD3.1 hD3.2
     obtain ⟨hmA,hgA⟩:=hmem left D hai
     have hat:=h24 _ hmA
     have hcell : cellV R up bs ai own s D dart left = rowM R up bs own left D dart (aimN R (ai left D)):=by
      unfold cellV
      rw [if_neg (by omega)]
     have hset:=partV_set (r:=R) (up:=up) (bs:=bs) (ai:=ai) (own:=own) (s:=s) (darts:=D) (dart:=dart) hls
     rw [hcell] at hset
     generalize partV R up bs ai own s D dart left = PV0 at *
     generalize partV R up bs ai own s D dart (left + 1) = PV1 at *
     generalize aimN R (ai left D) = a at *
     generalize ai left D = j at *
     have htr:=truthA_ok a bs (5 * left + D) hat hb (by omega)
     have htt:=hat.truth hb (5 * left + D)
     have ec : ((5 * left + D : Nat) : Int) = 5 * (left : Int) + (D : Int):=by omega
     rw [ec] at htr
     unfold rowM at hset
     have htn:=truth_nn htt fun c hc=>(hat.ok.each c hc).1
     have hts:=htt.sum
     have htl:=htt.len
     have hal:=hat.len
     have hbed:=hat.ok.bed
     have heach:=htt.each
     generalize truthT a.beds bs (5 * left + D) 24 = tr at *
     obtain ⟨vals,hvals⟩ : ∃ vals,vals = a.beds.map fun b=>aftV R own (left : Int) dart b.b:=⟨_,rfl⟩
     rw [← hvals] at hset
     have hvl : vals.length = a.beds.length:=by rw [hvals]; simp
     have hvb : ∀ y ∈ vals,0 ≤ y ∧ y ≤ M:=fun y hy=>by
      rw [hvals] at hy
      obtain ⟨b,_,rfl⟩:=List.mem_map.1 hy
      exact aftV_le hM.1 hob hdk _
     have hsum : ∀ q,0 ≤ dotV (tr.take q) (vals.take q) ∧ dotV (tr.take q) (vals.take q) ≤ 24 * 4000000000:=fun q=>by
      have h1:=dotV_le (xs:=tr.take q) (ys:=vals.take q) (M:=M) (fun x hx=>htn x (List.mem_of_mem_take hx)) (fun y hy=>hvb y (List.mem_of_mem_take hy)) hM.1
      have h2 : (tr.take q).sum ≤ 24:=by
       have e:=congrArg List.sum (List.take_append_drop q tr)
       rw [List.sum_append] at e
       have:=sum_nn (l:=tr.drop q) fun x hx=>htn x (List.mem_of_mem_drop hx)
       omega
      have h3 : (tr.take q).sum * M ≤ 24 * 4000000000:=Int.mul_le_mul h2 hM.2 hM.1 (by omega)
      omega
     refine zq ?_
     refine zg follows (by decide +kernel) (by kernel_rfl) fun K hK=>?_;simp only [go_sem,hgA,hai,List.length_map,aimR]
     refine zh (hcl) rfl (by simp only [go_sem,i64,ints,hgA,hai,List.length_map,aimR]) (by simp only [go_sem,i64,ints,hgA,hai,List.length_map,aimR]) (by first | exact .inl rfl | exact .inr rfl) ?_
     (try simp only [go_sem,hgA,hai,List.length_map,aimR]);refine hK _ ?_;clear hK K;refine zw (sub_frzP 17 17 [i64 a.at_,bedsR a.beds] (by omega) rfl rfl) ?_;refine zw (zk [1,2,3,4,5,6,13,14,15,16,17]) ?_;simp only [go_sem]
     refine zq ?_
     refine zb fun K hK=>?_;simp only [go_sem];(try simp (disch:=omega) only [zI])
     refine zh (htr) rfl (by simp only [go_sem,i64,ints]) (by simp only [go_sem,i64,ints]) (by first | exact .inl rfl | exact .inr rfl) ?_
     (try simp only [go_sem]);(try simp (disch:=omega) only [zI]);refine hK _ ?_;clear hK K;refine zw (zk [1,2,3,4,5,6,13,14,15,16,17,18,19]) ?_;simp only [go_sem]
     repeat refine zq ?_
     refine zb fun K hK=>?_;simp only [go_sem];refine hK _ ?_;clear hK K;refine zw (zk [1,2,3,4,5,6,13,14,15,16,17,18,19,20]) ?_;simp only [go_sem];refine zd ?_
     refine awp_uptoV (n:=98) tr.length (fun q vs=>[(1,.r (i64 (s : Int))),(2,.r (ints visits)),(3,.r (.fn F caps)),(4,.r (u8s bs)),(5,.r (i64 up)),(6,.r (.rp [i64 R.d,aimsR R.aims,i64 R.start,i64 R.out])),(13,.r (ints dart)),(14,.r (i64 (D : Int))),(15,.os 28 (vs 28) 1 0 (s + 1)),(16,.r (i64 (left : Int))),(17,.r (.rp [i64 a.at_,bedsR a.beds])),(18,.r (ints tr)),(19,.r (i64 (up * 23 + dotV (tr.take q) (vals.take q)))),(20,.r (i64 (q : Int)))])
      (fun q vs=>[(28,.arr 3 1 (PV0.map fun x=>[i64 x]))]) (fun _=>True) 0 (zj [] ?_ ?_) (Nat.zero_le _) trivial ?_
     · try simp only [go_sem]
       simp [dotV]
     · try simp only [go_sem]
     intro q vs hq _
     by_cases hqt : q < tr.length
     · obtain ⟨n,hn⟩:=opt_of_lt hqt
       have hqb : q < a.beds.length:=by omega
       obtain ⟨c,hc1⟩:=opt_of_lt hqb
       have hcb:=hbed c (mem_of_opt hc1)
       have hafc:=haft left c.b hcb hls
       have hvq : vals[q]? = some (aftV R own (left : Int) dart c.b):=by rw [hvals,List.getElem?_map,hc1]; rfl
       have hv1:=hvb _ (mem_of_opt hvq)
       have hn1:=htn n (mem_of_opt hn)
       have hn2 : n ≤ 24:=by
        have h1:=(heach q hqb).2
        have h2:=(hat.ok.each _ (bAt_mem hqb)).2.2
        have h3 : tr.getD q 0 = n:=by simp [List.getD,hn]
        omega
       have hsn : dotV (tr.take (q + 1)) (vals.take (q + 1)) = dotV (tr.take q) (vals.take q) + n * aftV R own (left : Int) dart c.b:=by
        rw [take_of_opt hn,take_of_opt hvq]
        exact dotV_snoc (by rw [List.length_take,List.length_take]; omega)
       have hs1:=hsum q
       have hs2:=hsum (q + 1)
       rw [hsn] at hs2
       have hs3 : up * 23 + dotV (tr.take (q + 1)) (vals.take (q + 1)) = up * 23 + dotV (tr.take q) (vals.take q) + n * aftV R own (left : Int) dart c.b:=by rw [hsn]; omega
       rw [hs3]
       generalize aftV R own (left : Int) dart c.b = v at *
       generalize dotV (tr.take q) (vals.take q) = S at *
       have hp0:=Int.mul_nonneg hn1 hv1.1
       have hp1 : n * v ≤ 24 * 4000000000:=Int.mul_le_mul hn2 (by omega) hv1.1 (by omega)
       have wp : IntKind.i64.wrap (n * v) = n * v:=by rw [zI] <;> omega
       have wsum : IntKind.i64.wrap (up * 23 + S + n * v) = up * 23 + S + n * v:=by
        generalize n * v = P at *
        rw [zI] <;> omega
       have wq : IntKind.i64.wrap ((q : Int) + 1) = (q : Int) + 1:=by rw [zI] <;> omega
       repeat refine zq ?_
       refine zb fun K hK=>?_;simp only [go_sem,List.length_map]
       intro _
       refine hK _ ?_;clear hK K;refine zw (zk [1,2,3,4,5,6,13,14,15,16,17,18,19,20,65]) ?_;simp only [go_sem]
       refine zc rfl (fun hc=>?_) (fun hc=>?_) <;> (try simp only [go_sem] at hc)
       rotate_left
       · exact absurd hqt hc
       refine zx ?_
       try simp only [go_sem]
       refine zq ?_
       refine zd ?_;refine zg follows (by decide +kernel) (by kernel_rfl) fun K hK=>?_;simp only [go_sem,hn,hqt,hc1,hqb,List.length_map,bedR,wp,wsum]
       refine zh (hafc) rfl (by simp only [go_sem,i64,ints,hn,hqt,hc1,hqb,List.length_map,bedR,wp,wsum]) (by simp only [go_sem,i64,ints,hn,hqt,hc1,hqb,List.length_map,bedR,wp,wsum]) (by first | exact .inl rfl | exact .inr rfl) ?_
       (try simp only [go_sem,hn,hqt,hc1,hqb,List.length_map,bedR,wp,wsum]);refine hK _ ?_;clear hK K;refine zw (zk [1,2,3,4,5,6,13,14,15,16,17,18,19,20]) ?_;simp only [go_sem];refine zb fun K hK=>?_;simp only [go_sem,wq];refine hK _ ?_;clear hK K
       try simp only [go_sem]
       refine ⟨hqt,zj [] ?_ ?_⟩
       · try simp only [go_sem]
       · try simp only [go_sem]
     have hqe : q = tr.length:=by omega
     subst hqe
     have hsf:=hsum tr.length
     have htv : vals.take tr.length = vals:=List.take_of_length_le (by omega)
     rw [List.take_length,htv] at hsf ⊢
     obtain ⟨y0,hy0⟩:=opt_of_lt (show left < PV0.length by omega)
     generalize dotV tr vals = S at *
     have hdv : (up * 23 + S).tdiv 24 = (up * 23 + S) / 24:=Int.tdiv_eq_ediv_of_nonneg (by omega)
     have wdv : IntKind.i64.wrap ((up * 23 + S) / 24) = (up * 23 + S) / 24:=by rw [zI] <;> omega
     repeat refine zq ?_
     refine zb fun K hK=>?_;simp only [go_sem,List.length_map,Nat.lt_irrefl]
     intro _
     refine hK _ ?_;clear hK K;refine zw (zk [1,2,3,4,5,6,13,14,15,16,17,18,19,20,65]) ?_;simp only [go_sem]
     refine zc rfl (fun hc=>?_) (fun hc=>?_) <;> (try simp only [go_sem] at hc)
     refine zf ?_;simp only [go_sem]
     have hls1 : left < s + 1:=by omega
     refine zb fun K hK=>?_;simp only [go_sem,hdv,wdv,hpl,hls1,hy0,List.length_map]
     refine ⟨by omega,?_⟩
     refine hK _ ?_;clear hK K;refine zw (zk [1,2,3,4,5,6,13,14,15,16]) ?_;simp only [go_sem];refine zb fun K hK=>?_;simp only [go_sem,wl];refine hK _ ?_;clear hK K
     try simp only [go_sem]
     refine ⟨by omega,zj [] ?_ ?_⟩
     · try simp only [go_sem]
     · try simp only [go_sem]
       rw [hcells,hset]
   · have hie : left = s + 1:=by omega
     subst hie
     have e1 : decide (((s + 1 : Nat) : Int) ≤ (s : Int)) = false:=decide_eq_false (by omega)
     rw [partV_full]
     have hrl : (rowV R up bs ai own s D dart).length = s + 1:=rowV_len
     generalize rowV R up bs ai own s D dart = RW at *
     repeat refine zq ?_
     refine zb fun K hK=>?_;simp only [go_sem,e1];refine hK _ ?_;clear hK K;refine zw (zk [1,2,3,4,5,6,13,14,15,16,34]) ?_;simp only [go_sem]
     refine zc rfl (fun hc=>?_) (fun hc=>?_) <;> (try simp only [go_sem] at hc)
     · exfalso; omega
     refine zf ?_;simp only [go_sem];refine zw (sub_frz 15 28 (ty:=3) (sz:=1) (off:=0) (m:=s + 1) (es:=RW.map fun x=>[i64 x]) (by omega) rfl (by rfl) (by simp [hrl])) ?_
     have ef : (((RW.map fun x=>[i64 x])).drop 0).take (s + 1) = RW.map fun x=>[i64 x]:=by rw [List.drop_zero,List.take_of_length_le (by simp [hrl])]
     rw [ef]
     refine zw (zk [1,2,3,4,5,6,13,14,15]) ?_;simp only [go_sem];refine zb fun K hK=>?_;simp only [go_sem];refine hK _ ?_;clear hK K;refine zw (zk [1,2,3,4,5,6,13,14]) ?_;simp only [go_sem]
     have wD : IntKind.i64.wrap ((D : Int) + 1) = (D : Int) + 1:=by rw [zI] <;> omega
     refine zb fun K hK=>?_;simp only [go_sem,wD];refine hK _ ?_;clear hK K
     try simp only [go_sem]
     refine ⟨hk3,fit_of [] ?_ ?_⟩
     · try simp only [go_sem]
       try omega
     · try simp only [go_sem]
 · have hke : k = 3:=by omega
   subst hke
   have hd3:=hdl 3 (by omega) s
   have hl3 : s < (dartV R up bs ai visits s 3).length:=by show s < (rowV _ _ _ _ _ _ _ _).length; rw [rowV_len]; omega
   obtain ⟨y,hy⟩:=opt_of_lt hl3
   have hyd : (dartV R up bs ai visits s 3).getD s 0 = y:=by simp [List.getD,hy]
   rw [hyd] at hV hd3
   generalize dartV R up bs ai visits s 3 = dart at *
   repeat refine zq ?_
   refine zb fun K hK=>?_;simp only [go_sem];refine hK _ ?_;clear hK K;refine zw (zk [1,2,3,4,5,6,13,14,23]) ?_;simp only [go_sem]
   refine zc rfl (fun hc=>?_) (fun hc=>?_) <;> (try simp only [go_sem] at hc)
   refine zf ?_;simp only [go_sem]
   refine zq ?_
   refine zb fun K hK=>?_;simp only [go_sem,hy,hl3];(try simp (disch:=omega) only [zI]);refine hK _ ?_;clear hK K;refine zw (zk [12]) ?_;simp only [go_sem];refine ze ?_;simp only [go_sem];exact hV.symm
theorem posOk_of {r : Rk} {s left darts : Nat} (h1 : lowG r.out ≤ (left : Nat)) (h2 : left ≤ s) (h3 : (s : Int) ≤ r.start) (h4 : darts = 3 → left = s) (h5 : 1 ≤ darts) (h6 : darts ≤ 3) : posOk r ⟨s,left,darts⟩ = true:=by
 simp only [posOk,decide_eq_true_eq]
 omega
theorem openR_of {r : Rk} (hck : checkR r = 0) {s left darts : Nat} (h1 : lowG r.out ≤ (left : Nat)) (h2 : left ≤ s) (h3 : (s : Int) ≤ r.start) (h4 : darts = 3 → left = s) (h5 : 1 ≤ darts) (h6 : darts ≤ 3) : openR r ⟨s,left,darts⟩ = 0:=by
 unfold openR
 rw [if_pos hck,if_pos (posOk_of h1 h2 h3 h4 h5 h6)]
theorem soon_ok {r : Rk} (hck : checkR r = 0) (hd : r.d = 24) (h24 : ∀ a ∈ r.aims,A24 a) {bs : List Int} (hb : ∀ n ∈ bs,0 ≤ n ∧ n ≤ 255) {ai : Nat → Nat → Nat} {visits : List Int} {s : Nat} (h1 : lowG r.out ≤ s) (h2 : (s : Int) ≤ r.start)
 (hai : ∀ left darts,ai left darts < r.aims.length) (h : ∀ x : Nat,lowG r.out ≤ x → x ≤ s → (tabT r true).getD x 0 ≤ visits.getD x 0) : (tabT r true).getD s 0 ≤ visV r 1 bs ai visits s:=by
 have hr:=(checkR_zero hck).2
 have hT : ∀ x ∈ tabT r true,VOk x:=(tab_eq hr true (cntA r) (Nat.le_refl _)).2.2
 have hl:=fun (x : Nat) (q1 : lowG r.out ≤ x) (q2 : x ≤ s)=>(tabT_more hr q1 (show (x : Int) ≤ r.start by omega)).1
 have k1:=tabT_holds hr true h1 h2
 unfold holdsA at k1
 simp only [if_true,decide_eq_true_eq] at k1
 have hai' : ∀ left darts,aimN r (ai left darts) ∈ r.aims:=fun left darts=>by
  unfold aimN
  rw [List.getD_eq_getElem?_getD,List.getElem?_eq_getElem (hai left darts)]
  exact List.getElem_mem _
 have hv:=val_low hr hd hb (ai:=ai) (T:=tabT r true) (visits:=visits) (s:=s) (own:=(tabT r true).getD s 0) hT (getD_vok hT s) ⟨by have:=hl s h1 (Nat.le_refl _); omega,h s h1 (Nat.le_refl _)⟩ (fun x q1 q2=>⟨by have:=hl x q1 q2; omega,h x q1 q2⟩) (fun left darts _ _ _ _ _=>⟨hai' left darts,h24 _ (hai' left darts)⟩) 3 (by omega) s h1 (Nat.le_refl _) (fun _=>rfl)
 unfold visV
 omega
theorem list_ok {r : Rk} (hck : checkR r = 0) {s left darts : Nat} (h1 : lowG r.out ≤ (left : Nat)) (h2 : left ≤ s) (h3 : (s : Int) ≤ r.start) (h4 : darts = 3 → left = s) (h5 : 1 ≤ darts) (h6 : darts ≤ 3) :
 ((aimQ r ⟨s,left,darts⟩).2.2 = 0 ∨ (aimQ r ⟨s,left,darts⟩).2.2 = 7 ∧ (aimQ r ⟨s,left,darts⟩).1 = 0) ∧ (aimQ r ⟨s,left,darts⟩).1 = (listI r s left darts : Int) ∧ listI r s left darts < r.aims.length ∧
 (valA r false (tabT r false) ((tabT r false).getD s 0) (darts - 1 + 1) left ≠ 2000000000 → meanA r false ((tabT r false).getD s 0) left (valA r false (tabT r false) ((tabT r false).getD s 0) (darts - 1)) (aimN r (listI r s left darts)) = valA r false (tabT r false) ((tabT r false).getD s 0) (darts - 1 + 1) left):=by
 have ho:=openR_of hck h1 h2 h3 h4 h5 h6
 obtain ⟨hr,_⟩:=openR_zero ho
 have hn : 0 < r.aims.length:=List.length_pos_iff.2 hr.ne
 have hQ : aimQ r ⟨s,left,darts⟩ = aimL (At.atV r false (tabT r false) s left (darts - 1)):=by
  unfold aimQ; rw [if_pos ho]
  simp only [Int.toNat_natCast];rw [show ((darts : Int) - 1).toNat = darts - 1 by omega]
 have hB : At.atV r false (tabT r false) s left (darts - 1) = r.aims.map (meanA r false ((tabT r false).getD s 0) (left : Int) (valA r false (tabT r false) ((tabT r false).getD s 0) (darts - 1))):=rfl
 have hV : valA r false (tabT r false) ((tabT r false).getD s 0) (darts - 1 + 1) left = leastA (At.atV r false (tabT r false) s left (darts - 1)):=rfl
 have hlB : (At.atV r false (tabT r false) s left (darts - 1)).length = r.aims.length:=by simp [At.atV]
 unfold listI
 rw [hQ,hV]
 unfold aimL
 by_cases hl : leastA (At.atV r false (tabT r false) s left (darts - 1)) = 2000000000
 · rw [if_pos hl]
   exact ⟨.inr ⟨by first | rfl | trivial,by first | rfl | trivial⟩,by first | rfl | trivial,hn,fun h=>absurd hl h⟩
 · rw [if_neg hl]
   obtain ⟨_,_,f3⟩:=foldl_min (At.atV r false (tabT r false) s left (darts - 1)) 2000000000
   rcases f3 with f3 | f3
   · exact absurd f3 hl
   obtain ⟨i,hi,he,hs⟩:=atI_mem (leastA (At.atV r false (tabT r false) s left (darts - 1))) _ 0 f3
   simp only [Nat.zero_add] at he
   simp only [he,Int.toNat_natCast]
   refine ⟨.inl (by first | rfl | trivial),by first | rfl | trivial,by omega,fun _=>?_⟩
   rw [hB,List.getElem?_map] at hs
   cases hq : r.aims[i]? with
   | none=>rw [hq] at hs; simp at hs
   | some a =>
     rw [hq] at hs
     simp only [Option.map_some,Option.some.injEq] at hs
     have ea : aimN r i = a:=by unfold aimN; simp [List.getD,hq]
     rw [ea]
     exact hs
theorem enough_ok {r : Rk} (hck : checkR r = 0) (hd : r.d = 24) (h24 : ∀ a ∈ r.aims,A24 a) {bs : List Int} (hb : ∀ n ∈ bs,0 ≤ n ∧ n ≤ 255) {ai : Nat → Nat → Nat} {visits : List Int} {s : Nat} {M : Int} (hM : 0 ≤ M ∧ M ≤ 1000000000) (h1 : lowG r.out ≤ s) (h2 : (s : Int) ≤ r.start)
 (hai : ∀ left darts,lowG r.out ≤ (left : Nat) → left ≤ s → (darts = 3 → left = s) → 1 ≤ darts → darts ≤ 3 → ai left darts = listI r s left darts)
 (hv : ∀ x,0 ≤ visits.getD x 0 ∧ visits.getD x 0 ≤ M) (h : ∀ x : Nat,lowG r.out ≤ x → x ≤ s → visits.getD x 0 ≤ (tabT r false).getD x 0) : visV r 0 bs ai visits s ≤ (tabT r false).getD s 0:=by
 have hr:=(checkR_zero hck).2
 have hT : ∀ x ∈ tabT r false,VOk x:=(tab_eq hr false (cntA r) (Nat.le_refl _)).2.2
 have k1:=tabT_holds hr false h1 h2
 unfold holdsA at k1
 simp only [Bool.false_eq_true,if_false,decide_eq_true_eq,Bool.or_eq_true] at k1
 have hmem : ∀ left darts,lowG r.out ≤ (left : Nat) → left ≤ s → (darts = 3 → left = s) → 1 ≤ darts → darts ≤ 3 → aimN r (ai left darts) ∈ r.aims:=fun left darts q1 q2 q3 q4 q5=>by
  have:=(list_ok hck q1 q2 h2 q3 q4 q5).2.2.1
  rw [hai left darts q1 q2 q3 q4 q5]
  unfold aimN
  rw [List.getD_eq_getElem?_getD,List.getElem?_eq_getElem this]
  exact List.getElem_mem _
 have hx:=vis_le (r:=r) (up:=0) (by omega) hb (ai:=ai) (s:=s) hM.1 hv (fun left darts q1 q2 q3 q4 q5=>h24 _ (hmem left darts q1 q2 q3 q4 q5))
 have hvv:=val_up hr hd hb (ai:=ai) (T:=tabT r false) (visits:=visits) (s:=s) (own:=(tabT r false).getD s 0) (M:=M) (by omega) hT (getD_vok hT s) (h s h1 (Nat.le_refl _)) hv h (fun left darts q1 q2 q3 q4 q5=>⟨hmem left darts q1 q2 q3 q4 q5,h24 _ (hmem left darts q1 q2 q3 q4 q5)⟩)
  (fun left k q1 q2 q3 q4 q5=>by
   have:=(list_ok hck (darts:=k + 1) q1 q2 h2 (by omega) (by omega) (by omega)).2.2.2
   rw [hai left (k + 1) q1 q2 (by omega) (by omega) (by omega)]
   simpa using this (by simpa using q5)) 3 (by omega) s h1 (Nat.le_refl _) (fun _=>rfl)
 rcases k1 with k1 | k1
 · unfold visV; omega
 · rw [k1]; omega
def nxV (R : Rk) (up : Int) (bs : List Int) (ai : Nat → Nat → Nat → Nat) (now : List Int) (s : Nat) : Int:=if (s : Int) < lowG R.out then 0 else visV R up bs (ai s) now s
def nextV (R : Rk) (up : Int) (bs : List Int) (ai : Nat → Nat → Nat → Nat) (now : List Int) (len : Nat) : List Int:=(List.range len).map (nxV R up bs ai now)
def partN (R : Rk) (up : Int) (bs : List Int) (ai : Nat → Nat → Nat → Nat) (now : List Int) (len n : Nat) : List Int:=(List.range len).map fun s=>if s < n then nxV R up bs ai now s else 0
theorem nextV_len {R : Rk} {up : Int} {bs : List Int} {ai : Nat → Nat → Nat → Nat} {now : List Int} {len : Nat} : (nextV R up bs ai now len).length = len:=by simp [nextV]
theorem partN_len {R : Rk} {up : Int} {bs : List Int} {ai : Nat → Nat → Nat → Nat} {now : List Int} {len n : Nat} : (partN R up bs ai now len n).length = len:=by simp [partN]
theorem nextV_get {R : Rk} {up : Int} {bs : List Int} {ai : Nat → Nat → Nat → Nat} {now : List Int} {len : Nat} (s : Nat) : (nextV R up bs ai now len).getD s 0 = if s < len then nxV R up bs ai now s else 0:=by
 unfold nextV
 rw [List.getD_eq_getElem?_getD,List.getElem?_map]
 by_cases h : s < len
 · rw [List.getElem?_range h,if_pos h]; rfl
 · rw [List.getElem?_eq_none (by simp; omega),if_neg h]; rfl
theorem partN_zero {R : Rk} {up : Int} {bs : List Int} {ai : Nat → Nat → Nat → Nat} {now : List Int} {len n : Nat} (hn : (n : Int) ≤ lowG R.out) : partN R up bs ai now len n = List.replicate len 0:=by
 refine List.ext_getElem (by simp [partN]) fun i h1 h2=>?_
 simp only [partN,List.getElem_map,List.getElem_range,List.getElem_replicate]
 split
 · unfold nxV
   rw [if_pos (by omega)]
 · rfl
theorem partN_full {R : Rk} {up : Int} {bs : List Int} {ai : Nat → Nat → Nat → Nat} {now : List Int} {len : Nat} : partN R up bs ai now len len = nextV R up bs ai now len:=by
 refine List.ext_getElem (by simp [partN,nextV]) fun i h1 h2=>?_
 have : i < len:=by rw [partN_len] at h1; exact h1
 simp only [partN,nextV,List.getElem_map,List.getElem_range];rw [if_pos this]
theorem partN_set {R : Rk} {up : Int} {bs : List Int} {ai : Nat → Nat → Nat → Nat} {now : List Int} {len n : Nat} (hl : lowG R.out ≤ n) : (partN R up bs ai now len n).set n (visV R up bs (ai n) now n) = partN R up bs ai now len (n + 1):=by
 refine List.ext_getElem (by simp [partN]) fun i h1 h2=>?_
 rw [List.getElem_set]
 simp only [partN,List.getElem_map,List.getElem_range]
 by_cases h : n = i
 · subst h
   rw [if_pos rfl,if_pos (by omega)]
   unfold nxV
   rw [if_neg (by omega)]
 · rw [if_neg h]
   by_cases h' : i < n
   · rw [if_pos h',if_pos (by omega)]
   · rw [if_neg h',if_neg (by omega)]
def nowV (R : Rk) (up : Int) (bs : List Int) (ai : Nat → Nat → Nat → Nat → Nat) (T : List Int) (len : Nat) : Nat → List Int
 | 0=>T
 | k + 1=>nextV R up bs (ai k) (nowV R up bs ai T len k) len
theorem nowV_len {R : Rk} {up : Int} {bs : List Int} {ai : Nat → Nat → Nat → Nat → Nat} {T : List Int} {len : Nat} (hT : T.length = len) : ∀ k,(nowV R up bs ai T len k).length = len
 | 0=>hT
 | _ + 1=>nextV_len
theorem aimN_mem {R : Rk} {i : Nat} (h : i < R.aims.length) : aimN R i ∈ R.aims:=by
 unfold aimN
 rw [List.getD_eq_getElem?_getD,List.getElem?_eq_getElem h]
 exact List.getElem_mem _
theorem nowV_le {R : Rk} (h24 : ∀ a ∈ R.aims,A24 a) {up : Int} (hup : 0 ≤ up ∧ up ≤ 1) {bs : List Int} (hb : ∀ n ∈ bs,0 ≤ n ∧ n ≤ 255) {ai : Nat → Nat → Nat → Nat → Nat} {T : List Int} {len : Nat} (hlen : (len : Int) ≤ R.start + 1) {M : Int} (hM : 0 ≤ M) (hT : ∀ x,0 ≤ T.getD x 0 ∧ T.getD x 0 ≤ M)
 (hai : ∀ k s left darts,lowG R.out ≤ (left : Nat) → left ≤ s → (s : Int) ≤ R.start → (darts = 3 → left = s) → 1 ≤ darts → darts ≤ 3 → ai k s left darts < R.aims.length) :
 ∀ k,∀ x,0 ≤ (nowV R up bs ai T len k).getD x 0 ∧ (nowV R up bs ai T len k).getD x 0 ≤ M + k * 1000000
 | 0,x=>by have:=hT x; simp only [nowV]; omega
 | k + 1, x => by
   have ih:=nowV_le h24 hup hb (ai:=ai) hlen hM hT hai k
   simp only [nowV];rw [nextV_get]
   split
   · unfold nxV
     split
     · omega
     · have:=vis_le (r:=R) hup hb (ai:=ai k x) (visits:=nowV R up bs ai T len k) (s:=x) (M:=M + k * 1000000) (by omega) ih fun left darts q1 q2 q3 q4 q5=>h24 _ (aimN_mem (hai k x left darts q1 q2 (by omega) q3 q4 q5))
       omega
   · omega
def aiS (al : List Int) (n k left darts : Nat) : Nat:=(byteL al (7 * left + 3 * darts + k)).toNat % n
theorem soon_now {r : Rk} (hck : checkR r = 0) (hd : r.d = 24) (h24 : ∀ a ∈ r.aims,A24 a) {bs al : List Int} (hb : ∀ n ∈ bs,0 ≤ n ∧ n ≤ 255) : ∀ (k s : Nat),lowG r.out ≤ s → (s : Int) ≤ r.start →
 (tabT r true).getD s 0 ≤ (nowV r 1 bs (fun k _=>aiS al r.aims.length k) (tabT r true) (tabT r true).length k).getD s 0
 | 0,s,_,_=>Int.le_refl _
 | k + 1, s, h1, h2 => by
   have hr:=(checkR_zero hck).2
   have hlt:=tabT_len hr true
   have ih:=soon_now hck hd h24 (al:=al) hb k
   have hn : 0 < r.aims.length:=List.length_pos_iff.2 hr.ne
   simp only [nowV];rw [nextV_get,if_pos (by omega)]
   unfold nxV
   rw [if_neg (by omega)]
   exact soon_ok hck hd h24 hb h1 h2 (fun left darts=>Nat.mod_lt _ hn) fun x q1 q2=>ih x q1 (by omega)
theorem enough_now {r : Rk} (hck : checkR r = 0) (hd : r.d = 24) (h24 : ∀ a ∈ r.aims,A24 a) {bs : List Int} (hb : ∀ n ∈ bs,0 ≤ n ∧ n ≤ 255) {ai : Nat → Nat → Nat → Nat → Nat} {len : Nat} (hlen : (len : Int) = r.start + 1)
 (hai : ∀ k s left darts,lowG r.out ≤ (left : Nat) → left ≤ s → (s : Int) ≤ r.start → (darts = 3 → left = s) → 1 ≤ darts → darts ≤ 3 → ai k s left darts = listI r s left darts) : ∀ (k : Nat),k ≤ 3 → ∀ (s : Nat),lowG r.out ≤ s → (s : Int) ≤ r.start →
 (nowV r 0 bs ai (List.replicate len 0) len k).getD s 0 ≤ (tabT r false).getD s 0
 | 0, _, s, h1, h2 => by
   have hr:=(checkR_zero hck).2
   have hU:=(tab_eq hr false (cntA r) (Nat.le_refl _)).2.2
   have : VOk ((tabT r false).getD s 0):=getD_vok hU s
   have e : (List.replicate len (0 : Int)).getD s 0 = 0:=by
    rw [List.getD_eq_getElem?_getD,List.getElem?_replicate]
    split <;> rfl
   simp only [nowV];rw [e]
   unfold VOk at this
   show (0 : Int) ≤ (tabT r false).getD s 0
   omega
 | k + 1, hk, s, h1, h2 => by
   have hr:=(checkR_zero hck).2
   have ih:=enough_now hck hd h24 hb (ai:=ai) hlen hai k (by omega)
   have hz : ∀ x,(List.replicate len (0 : Int)).getD x 0 = 0:=fun x=>by
    rw [List.getD_eq_getElem?_getD,List.getElem?_replicate]
    split <;> rfl
   have hbd:=nowV_le (R:=r) h24 (up:=0) (by omega) hb (ai:=ai) (T:=List.replicate len 0) (len:=len) (by omega) (M:=0) (by omega) (fun x=>by rw [hz]; omega) (fun k s left darts q1 q2 q3 q4 q5 q6=>by
    rw [hai k s left darts q1 q2 q3 q4 q5 q6]
    exact (list_ok hck q1 q2 q3 q4 q5 q6).2.2.1) k
   simp only [nowV];rw [nextV_get,if_pos (by omega)]
   unfold nxV
   rw [if_neg (by omega)]
   exact enough_ok hck hd h24 hb (M:=0 + k * 1000000) (by omega) h1 h2 (fun left darts q1 q2 q3 q4 q5=>hai k s left darts q1 q2 h2 q3 q4 q5) hbd fun x q1 q2=>ih x q1 (by omega)
theorem low_whole {r : Rk} (hr : ROk r) {st : Nat} (h1 : lowG r.out ≤ st) (h2 : (st : Int) ≤ r.start) : 1000000 ≤ (tabT r true).getD st 0:=by
 refine Int.not_lt.1 fun hlt=>?_
 have hm:=(tabT_more hr h1 h2).2 (by omega)
 have hT : ∀ x ∈ tabT r true,VOk x:=(tab_eq hr true (cntA r) (Nat.le_refl _)).2.2
 have hl:=tabT_len hr true
 have h0:=(tabT_more hr h1 h2).1
 obtain ⟨l,hle⟩ : ∃ l,l = (tabT r true).getD st 0:=⟨_,rfl⟩
 rw [← hle] at hm hlt h0
 have hS : ∀ x ∈ (tabT r true).set st (l + 1),VOk x:=fun x hx=>by
  rcases List.mem_or_eq_of_mem_set hx with hx | rfl
  · exact hT x hx
  · unfold VOk; omega
 unfold holdsA at hm
 have hg : ((tabT r true).set st (l + 1)).getD st 0 = l + 1:=by
  rw [List.getD_eq_getElem?_getD,List.getElem?_set_self (by omega)]; rfl
 rw [hg] at hm
 simp only [if_true,decide_eq_false_iff_not] at hm
 have hv:=(valA_le hr (s:=true) hS (own:=l + 1) (by unfold VOk; omega) 3 st).1
 omega
set_option maxHeartbeats 4000000
theorem rule_24e {x : Rx} (hx : WfRx x) (m : Nat) (hm : m ≤ 20) : ∀ a ∈ (ruleX x m).aims,A24 a:=fun a ha=>by
 have hck:=ruleX_check hx hm
 have hr:=(checkR_zero hck).2
 have h:=hr.aims a ha
 have hl:=(ruleX_aim hx ha).2
 exact ⟨h,by have:=List.length_pos_iff.2 h.ne; omega⟩
theorem ty49 : tyq Try.prog 49 = some ⟨.arr 5 20 true,100,true,List.replicate 100 (.it .i64 0)⟩:=by kernel_rfl
def ixL (s d l : Nat) : Nat:=s * 20 + d * 5 + l
theorem aimsE_ok (Ls : List Int) (hC : Ls.length = 100) (s d l : Nat) (hs : s < 5) (hd : d < 4) (hl : l < 5) :
 ACalls Try.prog 28 [i64 (l : Int),i64 (d : Int),.rp (Ls.map i64),.rp [i64 (s : Int)]] (i64 (Ls.getD (ixL s d l) 0)):=by
 obtain ⟨z,hz⟩:=opt_of_lt (show ixL s d l < Ls.length by unfold ixL; omega)
 have hzd : Ls.getD (ixL s d l) 0 = z:=by simp [List.getD,hz]
 rw [hzd]
 have hq : (List.drop (l * 1) (List.drop (d * 5) (List.drop (s * 20) (List.map i64 Ls)))).headD RV.un = i64 z:=by
  have e : List.drop (l * 1) (List.drop (d * 5) (List.drop (s * 20) (List.map i64 Ls))) = List.drop (ixL s d l) (List.map i64 Ls):=by
   simp only [List.drop_drop]
   congr 1
   unfold ixL; omega
  have hz2 : (List.map i64 Ls)[ixL s d l]? = some (i64 z):=by rw [List.getElem?_map,hz]; rfl
  rw [e,drop_of_opt hz2]
  rfl
 refine acalls_st (rs:=[i64 z]) [.tmp 6] Try.func28 rfl (by kernel_rfl) Try.ntmps28 rfl (by simp) rfl fun C vs=>?_
 refine zq ?_
 refine zb fun K hK=>?_;simp only [go_sem];refine hK _ ?_;clear hK K;refine zw (zk [0,1,2,3]) ?_;simp only [go_sem]
 refine zq ?_
 refine zb fun K hK=>?_;simp only [go_sem,ty49]
 repeat refine ⟨by omega,?_⟩
 rw [hq]
 refine hK _ ?_;clear hK K;refine zw (zk [6]) ?_;simp only [go_sem];refine ze ?_;simp only [go_sem]
theorem tA_set {Ls : List Int} {i : Nat} {y : Int} (h : i < Ls.length) : (tA Ls).take i ++ (AV.r (i64 y) :: (tA Ls).drop (i + 1)) = tA (Ls.set i y):=by
 unfold tA
 rw [List.map_set,List.set_eq_take_append_cons_drop,if_pos (by simpa using h)]
def okP (R : Rk) (s d l : Nat) : Prop:=lowG R.out ≤ (l : Int) ∧ l ≤ s ∧ (s : Int) ≤ R.start ∧ (d = 3 → l = s) ∧ 1 ≤ d ∧ d ≤ 3
structure IL (R : Rk) (P : Nat → Nat → Nat → Prop) (Ls : List Int) : Prop where
 len : Ls.length = 100
 val : ∀ s d l,okP R s d l → P s d l → Ls.getD (ixL s d l) 0 = (listI R s l d : Nat)
theorem IL.mono {R : Rk} {P Q : Nat → Nat → Nat → Prop} {Ls : List Int} (h : IL R P Ls) (hq : ∀ s d l,okP R s d l → Q s d l → P s d l) : IL R Q Ls :=
 ⟨h.len,fun s d l h1 h2=>h.val s d l h1 (hq s d l h1 h2)⟩
theorem IL.put {R : Rk} (hst : R.start ≤ 4) {P Q : Nat → Nat → Nat → Prop} {Ls : List Int} {s0 d0 l0 : Nat} (h : IL R P Ls) (h0 : okP R s0 d0 l0) (hq : ∀ s d l,okP R s d l → Q s d l → P s d l ∨ (s = s0 ∧ d = d0 ∧ l = l0)) : IL R Q (Ls.set (ixL s0 d0 l0) (listI R s0 l0 d0 : Nat)):=by
 refine ⟨by rw [List.length_set]; exact h.len,fun s d l h1 h2=>?_⟩
 have hl:=h.len
 have hi : ixL s0 d0 l0 < Ls.length:=by unfold ixL; unfold okP at h0; omega
 rw [Th.getD_set _ _ _ _ hi]
 rcases hq s d l h1 h2 with h3 | ⟨rfl,rfl,rfl⟩
 · by_cases e : ixL s d l = ixL s0 d0 l0
   · have : s = s0 ∧ d = d0 ∧ l = l0:=by
      unfold ixL at e
      unfold okP at h0 h1
      have e1 : l = l0:=by omega
      have e2 : s * 4 + d = s0 * 4 + d0:=by omega
      have e3 : d = d0:=by omega
      omega
     obtain ⟨rfl,rfl,rfl⟩:=this
     rw [if_pos rfl]
   · rw [if_neg e]
     exact h.val s d l h1 h3
 · rw [if_pos rfl]
theorem IL.zero (R : Rk) : IL R (fun _ _ _=>False) (List.replicate 100 0):=⟨by simp,fun _ _ _ _ h=>h.elim⟩
end Go.Proofs.Ytgfbenanljjgaaa.Du.Th.Ai

namespace Go.Oc
open Go Go.RowKit
set_option linter.unusedVariables false
set_option linter.unusedSimpArgs false
def xopW (P : Program) (ol : List Nat) (o : Oper) (K : AS → Prop) (s : AS) : Prop :=
 match o.op,o.dst with
 | .buildSlice t n ps,some d=>if ol.contains d then aR s (some d) (sBuildOwn P s d t n (ps.toList.map fun (i,x)=>(i,s.ev x))) K else xop P false o K s
 | _,_=>xop P false o K s
theorem xopW_sound {P : Program} {C : Ctx} {s : AS} {ol : List Nat} {p : Plan} {a : Act} {w : World} {o : Oper} {KA : AS → Prop} (hp : SR C p s a w) (h : xopW P ol o KA s) (hd0 : ∀ t,o.dst = some t → t < s.n) {K : Act → World → Prop} {Q : Exit → Act → World → Prop}
 (hK : ∀ a' w' p' s',SR C p' s' a' w' → s'.n = s.n → KA s' → K a' w') (hnd : ∀ c,o.op ≠ .defer c) : o.wpIn (fnc C.rd) 0 P a w K Q:=by
 unfold xopW at h
 split at h
 · rename_i t n ps d ho hdst
   split at h
   · refine wpIn_of_wp hnd ?_
     have hd1 : o.dst.getD 0 = d:=by rw [hdst]; rfl
     have hg:=good_buildOwn (o:=o) hp ho (by rw [hd1]; exact h.1)
     rw [hd1] at hg
     obtain ⟨nx,v,w',p',hrun,hnx,hass,hSR,hrel⟩:=hg
     unfold Oper.wp
     rw [hrun]
     have hput:=hSR.put' (d:=o.dst) hrel (fun t ht=>hd0 t ht)
     have hk:=h.2 hass
     rw [← hdst] at hk
     rcases hnx with rfl | ⟨rfl,rfl⟩
     · exact hK (a.put o.dst v) w' p' _ hput (app_n _ _ _) hk
     · exact hK (a.put o.dst undef) w' p' _ hput (app_n _ _ _) hk
   · exact xop_sound hp h hd0 hK hnd
 · exact xop_sound hp h hd0 hK hnd
def stepAllO (P : Program) (ol : List Nat) (ops : Array Oper) (n : Nat) (F : (Nat → Bool) → (Nat → Nat) → List (Nat × AV)) (R : (Nat → Bool) → (Nat → Nat) → List (Nat × RowC)) : Nat → List Oper → Prop
 | _,[]=>True
 | k,o :: rest=>(∀ b vs,(∀ j e,j < ops.size → (deps ops j).contains e = true → b j = true → b e = true) → b k = false → (∀ e ∈ deps ops k,b e = true) →
  xopW P ol o (FitV n (F (upd b k true)) (R (upd b k true))) (st n (F b vs) vs (R b vs))) ∧ stepAllO P ol ops n F R (k + 1) rest
theorem stepAllO_get {P : Program} {ol : List Nat} {ops : Array Oper} {n : Nat} {F : (Nat → Bool) → (Nat → Nat) → List (Nat × AV)} {R : (Nat → Bool) → (Nat → Nat) → List (Nat × RowC)} : ∀ {l : List Oper} {k i : Nat} {o : Oper},stepAllO P ol ops n F R k l → l[i]? = some o →
 ∀ b vs, (∀ j e, j < ops.size → (deps ops j).contains e = true → b j = true → b e = true) → b (k + i) = false → (∀ e ∈ deps ops (k + i), b e = true) →
   xopW P ol o (FitV n (F (upd b (k + i) true)) (R (upd b (k + i) true))) (st n (F b vs) vs (R b vs))
 | [],_,_,_,_,h=>by simp at h
 | x :: l, k, 0, o, hs, h => by
   simp only [List.getElem?_cons_zero,Option.some.injEq] at h
   subst h
   exact hs.1
 | x :: l, k, i + 1, o, hs, h => by
   have:=stepAllO_get (k:=k + 1) (i:=i) hs.2 (by simpa using h)
   rwa [show k + 1 + i = k + (i + 1) by omega] at this
section
variable {P : Program} {C : Ctx} {s : AS} {a : Act} {w : World} {ops : Array Oper}
theorem inv_anyO {ol : List Nat} {Q : AS → Prop} {Q' : Exit → Act → World → Prop} (hQ : ∀ s a w,Q s → SRel C s a w → Q' .normal a w) {n : Nat} {F : (Nat → Bool) → (Nat → Nat) → List (Nat × AV)} {R : (Nat → Bool) → (Nat → Nat) → List (Nat × RowC)}
 (hd : dstOk ops n = true) (hg : ops.all (fun o=>o.guard.isNone) = true) (hu : upOk ops = true) (hstep : stepAllO P ol ops n F R 0 ops.toList)
 (hend : ∀ b vs,(∀ j,b j = true) → Q (st n (F b vs) vs (R b vs))) :
 ∀ (fuel : Nat) (vs : Nat → Nat) (listed : Array Bool) (a : Act) (w : World), listed.size = ops.size → down ops listed → unl listed ops.size ≤ fuel → SRel C (st n (F (fun j => listed.getD j true) vs) vs (R (fun j => listed.getD j true) vs)) a w →
   wpAnyIn (fnc C.rd) 0 P .any ops Q' fuel listed a w:=by
 have all : ∀ {listed : Array Bool},listed.size = ops.size → (∀ j,j < ops.size → listed.getD j true = true) → ∀ j,(fun j=>listed.getD j true) j = true:=fun {listed} hsz h j=>by
  by_cases hj : j < ops.size
  · exact h j hj
  · show listed.getD j true = true
    have : ¬ j < listed.size:=by omega
    simp [this]
 intro fuel
 induction fuel with
 | zero =>
   intro vs listed a w hsz hdn hf hs
   have h0:=unl_zero (listed:=listed) ops.size (by omega)
   refine ⟨List.eq_nil_iff_forall_not_mem.2 fun j hj=>?_,hQ _ _ _ (hend _ _ (all hsz h0)) hs⟩
   obtain ⟨h1,o,ho,_⟩:=mem_ready.1 hj
   have:=h0 j (Array.getElem?_eq_some_iff.1 ho).1
   rw [this] at h1
   cases h1
 | succ fuel ih =>
   intro vs listed a w hsz hdn hf hs
   refine ⟨fun h0=>hQ _ _ _ (hend _ _ (all hsz (ready_nil hu h0 hsz))) hs,fun i hi=>?_⟩
   obtain ⟨hi1,o,ho,hall⟩:=mem_ready.1 hi
   unfold wpOpIn
   rw [ho]
   simp only
   have hil : i < ops.size:=(Array.getElem?_eq_some_iff.1 ho).1
   have hgo : o.guard = none:=by
    have:=Array.all_eq_true_iff_forall_mem.1 hg o (Array.mem_of_getElem? ho)
    simpa using this
   obtain ⟨p,hp⟩:=hs
   rw [if_pos (wantA_sound hp (by simp [wantA,hgo]))]
   have hx:=stepAllO_get (k:=0) (i:=i) hstep (by rw [Array.getElem?_toList]; exact ho) (fun j=>listed.getD j true) vs (fun j e hj he hb=>?_) (by rw [Nat.zero_add]; exact hi1) (fun e he=>?_)
   · rw [Nat.zero_add] at hx
     refine xopW_sound hp hx (dstOk_get hd ho) (fun a' w' p' s' hs' hn hK=>?_) (dstOk_nd hd ho)
     obtain ⟨vs',hsub⟩:=hK
     have e : upd (fun j=>listed.getD j true) i true = fun j=>(listed.setIfInBounds i true).getD j true:=by
      funext j
      rw [getD_setT]
      rfl
     rw [e] at hsub
     exact ih vs' _ a' w' (by simpa using hsz) (down_set hdn hi) (by have:=unl_set hi1 ops.size hil; omega) (hsub C a' w' ⟨p',hs'⟩)
   · have hjs : j < listed.size:=by omega
     have hb' : listed.getD j true = true:=hb
     have h2:=hdn j (by simpa [hjs] using hb') e (by simpa using he)
     show listed.getD e true = true
     by_cases hes : e < listed.size
     · simpa [hes] using h2
     · simp [hes]
   · have h2:=ready_deps hi e (by simpa using he)
     show listed.getD e true = true
     by_cases hes : e < listed.size
     · simpa [hes] using h2
     · simp [hes]
end
theorem awp_invO {P : Program} (ol : List Nat) {C : Ctx} {id : Nat} {l : List Oper} {n : Nat} {Q : Exit → AS → Prop} {s : AS} (F : (Nat → Bool) → (Nat → Nat) → List (Nat × AV)) (R : (Nat → Bool) → (Nat → Nat) → List (Nat × RowC)) (hm : P.follows .mixedOrders = true)
 (hd : dstOk l.toArray n = true) (hg : l.toArray.all (fun o=>o.guard.isNone) = true) (hu : upOk l.toArray = true) (h0 : FitV n (F fun j=>decide (l.length ≤ j)) (R fun j=>decide (l.length ≤ j)) s)
 (hstep : stepAllO P ol l.toArray n F R 0 l) (hend : ∀ b vs,(∀ j,b j = true) → Q .normal (st n (F b vs) vs (R b vs))) : awp P C (.region id l.toArray true) Q s:=fun a w hs=>by
 obtain ⟨vs,hsub⟩:=h0
 obtain ⟨p,hp⟩:=hsub C a w hs
 have hs' : SR C p _ a { w with drawn:=w.drawn + 1 }:=hp.below (w':=w.drew) ((Below.refl _ _).drew) (fun _ h=>h) (fun _ h=>.inl h) hp.rb
 refine wpIn_region_any hm ?_
 have e : (fun j=>(Array.replicate l.toArray.size false).getD j true) = fun j=>decide (l.length ≤ j):=by
  funext j
  by_cases h : j < l.length
  · have : ¬ l.length ≤ j:=by omega
    simp [h,this]
  · have : l.length ≤ j:=by omega
    simp [h,this]
 refine inv_anyO (ol:=ol) (Q:=fun s=>Q .normal s) (n:=n) (F:=F) (R:=R) (fun s a w hq hs=>⟨s,hs,hq⟩) hd hg hu (by simpa using hstep) hend _ vs _ _ _ (by simp) (fun j hj=>?_) ?_ ?_
 · exfalso
   simp only [Array.getD_eq_getD_getElem?,Array.getElem?_replicate] at hj
   split at hj <;> simp at hj
 · have : ∀ m,unl (Array.replicate l.toArray.size false) m ≤ m:=by
    intro m
    induction m with
    | zero=>exact Nat.le_refl _
    | succ m ih=>simp only [unl]; split <;> omega
   exact this _
 · rw [e]
   exact ⟨p,hs'⟩
end Go.Oc

namespace Go.Proofs.Ytgfbenanljjgaaa.Du.Th.Ai
open Go Go.Oc
set_option linter.unusedSimpArgs false
set_option linter.unusedVariables false
set_option maxRecDepth 8000
set_option maxHeartbeats 8000000
abbrev rxC (x : Rx) : List RV:=[.sl 1 (x.which.map fun n=>[.it .u16 n]),u8s x.low,u8s x.high,.it .u8 x.start,.it .u8 x.out]
def vG (b : Nat → Bool) (j : Nat) (v : AV) : AV:=if b j then v else .r .un
def gbF (A : List RV) (most n i k : Nat) (w q sm hgh : Int) (c : Bd) (l : List Bd) (b : Nat → Bool) (vs : Nat → Nat) : List (Nat × AV) :=
 [(1,.r (i64 most)),(2,.r (.rp A)),(4,.pt 4 (vs 4) 0),(5,.pt 5 (vs 5) 0),(6,.r (i64 (n : Int))),(7,.r (i64 (i : Int))),(8,.r (.it .u16 w)),(9,.pt 9 (vs 9) 0),(10,.r (ints beds10)),(11,.r (i64 sm)),(12,.r (i64 hgh)),(13,.r (i64 (k : Int))),(14,.r (.rp [i64 c.lo,i64 c.hi])),
  (106,vG b 0 (.r (ints beds10))),
  (107,vG b 1 (.r (i64 (k : Int)))),
  (108,vG b 2 (.r (.rp [i64 c.b]))),
  (109,vG b 3 (.r (i64 c.b))),
  (110,vG b 4 (.r (.ag [i64 c.lo,i64 c.hi]))),
  (111,vG b 5 (.ag [.r (i64 c.b),.r (i64 c.lo),.r (i64 c.hi)])),
  (112,vG b 6 (.os 112 (vs 112 - (bif b 9 then 1 else 0)) 3 0 1)),
  (113,vG b 7 (.pt 9 (vs 9) 1)),
  (114,vG b 8 (.r (.sl 3 (l.map bedR)))),
  (115,vG b 9 (.os 112 (vs 112) 3 0 (l.length + 1))),
  (116,vG b 10 (.pt 9 (vs 9) 1))]
def gbR (S O q : Int) (i : Nat) (aa : List (List RV)) (c : Bd) (l : List Bd) (b : Nat → Bool) (vs : Nat → Nat) : List (Nat × RowC) :=
 bif b 11 then [(4,.box [.r (i64 0),.r .ns,.r (i64 0),.r (i64 0)]),(5,.box [.r (i64 24),.os 158 (vs 158) 2 0 i,.r (i64 S),.r (i64 O)]),(9,.box [.r (i64 q),.os 112 (vs 112) 3 0 (l.length + 1)]),(112,.arr 68 3 (bedR c :: l.map bedR)),(158,.arr 63 2 aa)]
 else bif b 9 then [(4,.box [.r (i64 0),.r .ns,.r (i64 0),.r (i64 0)]),(5,.box [.r (i64 24),.os 158 (vs 158) 2 0 i,.r (i64 S),.r (i64 O)]),(9,.box [.r (i64 q),.r (.sl 3 (l.map bedR))]),(112,.arr 68 3 (bedR c :: l.map bedR)),(158,.arr 63 2 aa)]
 else bif b 6 then [(4,.box [.r (i64 0),.r .ns,.r (i64 0),.r (i64 0)]),(5,.box [.r (i64 24),.os 158 (vs 158) 2 0 i,.r (i64 S),.r (i64 O)]),(9,.box [.r (i64 q),.r (.sl 3 (l.map bedR))]),(112,.arr 68 3 [bedR c]),(158,.arr 63 2 aa)]
 else [(4,.box [.r (i64 0),.r .ns,.r (i64 0),.r (i64 0)]),(5,.box [.r (i64 24),.os 158 (vs 158) 2 0 i,.r (i64 S),.r (i64 O)]),(9,.box [.r (i64 q),.r (.sl 3 (l.map bedR))]),(158,.arr 63 2 aa)]
theorem rules_ok {x : Rx} (hw : WfRx x) (most : Nat) (hmost : most ≤ 20) : ACalls Try.prog 24 [.ag (rxC x),i64 most] (rkR (ruleX x most)):=by
 obtain ⟨s0,s1⟩:=hw.start
 obtain ⟨o0,o1⟩:=hw.out
 have q1 : IntKind.i64.wrap x.start = x.start:=by rw [zI] <;> omega
 have q2 : x.start.tmod 5 = x.start % 5:=Int.tmod_eq_emod_of_nonneg s0
 have q3 : x.out.tmod 3 = x.out % 3:=Int.tmod_eq_emod_of_nonneg o0
 have q4 : IntKind.i64.wrap (x.out % 3) = x.out % 3:=by rw [zI] <;> omega
 have q5 : IntKind.i64.wrap (2 + x.start % 5) = 2 + x.start % 5:=by rw [zI] <;> omega
 have hbe:=beds_ok
 refine acalls_st (rs:=[rkR (ruleX x most)]) [.cell 4 27] Try.func24 rfl (by kernel_rfl) Try.ntmps24 rfl (by simp) rfl fun C vs=>?_
 refine zq ?_
 refine zb fun K hK=>?_;simp only [go_sem];refine hK _ ?_;clear hK K;refine zw (sub_frzP 2 2 (rxC x) (by omega) rfl rfl) ?_;refine zw (zk [1,2,4]) ?_;simp only [go_sem]
 refine zq ?_
 refine zb fun K hK=>?_;simp only [go_sem,q1,q2,q3,q4,q5];refine hK _ ?_;clear hK K;refine zw (zk [1,2,4,5]) ?_;simp only [go_sem]
 refine zq ?_
 refine zb fun K hK=>?_;simp only [go_sem];refine hK _ ?_;clear hK K;refine zw (zk [1,2,4,5,6]) ?_;simp only [go_sem]
 repeat refine zq ?_
 refine zb fun K hK=>?_;simp only [go_sem];refine hK _ ?_;clear hK K;refine zw (zk [1,2,4,5,6,7]) ?_;simp only [go_sem];refine zd ?_;refine zw (sub_ownB 5 1 158 63 2 (by omega) (by omega) rfl rfl) ?_
 try simp only [go_sem]
 generalize hS : 2 + x.start % 5 = S
 generalize hO : x.out % 3 = O
 refine awp_whileV (n:=153) (fun (i : Nat) vs=>[(1,.r (i64 most)),(2,.r (.rp (rxC x))),(4,.pt 4 (vs 4) 0),(5,.pt 5 (vs 5) 0),(6,.r (i64 (nX x i : Int))),(7,.r (i64 (i : Int)))])
  (fun i vs=>[(4,.box [.r (i64 0),.r .ns,.r (i64 0),.r (i64 0)]),(5,.box [.r (i64 24),.os 158 (vs 158) 2 0 i,.r (i64 S),.r (i64 O)]),(158,.arr 63 2 ((aimsX x i).map aimR))])
  (fun i=>i ≤ cntX x most) (fun i=>cntX x most - i) 0 (zj [] ?_ ?_) (Nat.zero_le _) ?_
 · try simp only [go_sem]
   try rfl
 · try simp only [go_sem]
   try rfl
 intro i vs hi
 have hml:=cntX_lt x most i
 repeat refine zq ?_
 refine awp_joinV (n:=153) (fun (_ : Unit) vs=>[(1,.r (i64 most)),(2,.r (.rp (rxC x))),(4,.pt 4 (vs 4) 0),(5,.pt 5 (vs 5) 0),(6,.r (i64 (nX x i : Int))),(7,.r (i64 (i : Int))),(39,.r (.bo (decide (i < cntX x most))))])
  (fun _ vs=>[(4,.box [.r (i64 0),.r .ns,.r (i64 0),.r (i64 0)]),(5,.box [.r (i64 24),.os 158 (vs 158) 2 0 i,.r (i64 S),.r (i64 O)]),(158,.arr 63 2 ((aimsX x i).map aimR))]) (fun _=>True) (fun _ h=>h) ?_ ?_
 · skip
   refine zb fun K hK=>?_;simp only [go_sem,List.length_map]
   repeat' first | intro _ | refine And.intro ?_ ?_
   all_goals first | omega | skip
   all_goals (refine hK _ ?_; clear hK K)
   all_goals (try simp only [go_sem])
   all_goals (refine ⟨(),zj [] ?_ ?_⟩ <;> try simp only [go_sem])
   all_goals (rw [Bool.eq_iff_iff]; simp; omega)
 intro _ vs _
 refine zc rfl (fun hc=>?_) (fun hc=>?_) <;> (try simp only [go_sem] at hc)
 rotate_left
 · have hie : i = cntX x most:=by
    have : ¬ i < cntX x most:=by simpa using hc
    omega
   subst hie
   have hR : rkR (ruleX x most) = .ag [i64 24,aimsR (aimsX x (cntX x most)),i64 S,i64 O]:=by rw [← hS,← hO]; rfl
   have hal : (aimsX x (cntX x most)).length = cntX x most:=by simp [aimsX]
   rw [hR]
   refine zf ?_;simp only [go_sem];refine zw (sub_frzB 5 1 158 (by omega) (by omega) rfl rfl rfl (by simp [hal])) ?_
   try simp only [go_sem]
   rw [List.take_of_length_le (show ((aimsX x (cntX x most)).map aimR).length ≤ cntX x most by simp [hal])]
   refine zw (zk [4,5]) ?_;simp only [go_sem]
   refine zq ?_
   refine zb fun K hK=>?_;simp only [go_sem];refine hK _ ?_;clear hK K;refine zw (zk [4]) ?_;simp only [go_sem];refine ze ?_;simp only [go_sem]
 have hil : i < cntX x most:=by simpa using hc
 refine zx ?_
 try simp only [go_sem]
 refine zq ?_
 refine zd ?_
 obtain ⟨q,hq⟩ : ∃ q,q = 6 + i % 3:=⟨_,rfl⟩
 have hq8 : q ≤ 8:=by omega
 have ht : (i : Int).tmod 3 = ((i % 3 : Nat) : Int):=(Int.ofNat_tmod _ _).symm
 have hqi : IntKind.i64.wrap (6 + (i : Int).tmod 3) = (q : Int):=by rw [ht,zI] <;> omega
 have hqw : (0 : Int) ≤ IntKind.u64.wrap (q : Int):=by rw [wrap64s q (by omega)]; omega
 obtain ⟨w,hwq⟩ : ∃ w,w = whX x i:=⟨_,rfl⟩
 refine zq ?_
 refine zb fun K hK=>?_;simp only [go_sem];refine hK _ ?_;clear hK K;refine zw (zk [1,2,4,5,6,7,8]) ?_;simp only [go_sem]
 repeat refine zq ?_
 refine zb fun K hK=>?_;simp only [go_sem,List.length_map]
 intro _
 refine hK _ ?_;clear hK K;refine zw (zk [1,2,4,5,6,7,8,46]) ?_;simp only [go_sem]
 refine awp_joinV (n:=153) (fun (_ : Unit) vs=>[(1,.r (i64 most)),(2,.r (.rp (rxC x))),(4,.pt 4 (vs 4) 0),(5,.pt 5 (vs 5) 0),(6,.r (i64 (nX x i : Int))),(7,.r (i64 (i : Int))),(8,.r (.it .u16 w))])
  (fun _ vs=>[(4,.box [.r (i64 0),.r .ns,.r (i64 0),.r (i64 0)]),(5,.box [.r (i64 24),.os 158 (vs 158) 2 0 i,.r (i64 S),.r (i64 O)]),(158,.arr 63 2 ((aimsX x i).map aimR))]) (fun _=>True) (fun _ h=>h) ?_ ?_
 · by_cases hiw : i < x.which.length
   · obtain ⟨n,hn⟩:=opt_of_lt hiw
     have hwv : w = bitOr .u16 n (shlI .u16 1 (IntKind.u64.wrap (q : Int))):=by
      rw [hwq,whX,if_pos hiw,hq]
      simp [List.getD,hn]
     rw [hwv]
     have hm:=hw.which n (mem_of_opt hn)
     refine zc rfl (fun hc=>?_) (fun hc=>?_) <;> (try simp only [go_sem] at hc)
     rotate_left
     · exact absurd hiw hc
     refine zb fun K hK=>?_;simp only [go_sem,hn,hiw,hqi,List.length_map];refine hK _ ?_;clear hK K
     try simp only [go_sem]
     exact ⟨(),zj [] (by try simp only [go_sem]) (by try simp only [go_sem])⟩
   · have hwv : w = 64:=by rw [hwq,whX,if_neg hiw]
     rw [hwv]
     refine zc rfl (fun hc=>?_) (fun hc=>?_) <;> (try simp only [go_sem] at hc)
     · exact absurd hc hiw
     refine zx ?_
     try simp only [go_sem]
     exact ⟨(),zj [] (by try simp only [go_sem]) (by try simp only [go_sem])⟩
 intro _ vs _
 have hbl : beds10.length = 10:=rfl
 have hq10 : q < 10:=by omega
 have hqb : beds10[q]? = some (bedX q):=by
  unfold bedX
  rw [List.getD_eq_getElem?_getD,List.getElem?_eq_getElem (by rw [hbl]; exact hq10)]; rfl
 refine zq ?_
 refine awp_dreg2 [(7,none)] follows (by decide +kernel) (by kernel_rfl) (by simp only [keysOk,List.mem_cons,List.not_mem_nil,forall_eq_or_imp,Oc.keyOf,go_sem]; simp) fun K hK=>?_
 simp only [go_sem,hqi,hqb,hbl,hq10]
 refine zh (hbe) rfl (by simp only [go_sem,i64,ints,hqi,hqb,hbl,hq10]) (by simp only [go_sem,i64,ints,hqi,hqb,hbl,hq10]) (by first | exact .inl rfl | exact .inr rfl) ?_
 (try simp only [go_sem,hqi,hqb,hbl,hq10])
 refine ⟨by omega,?_⟩
 refine zh (hbe) rfl (by simp only [go_sem,i64,ints,hqi,hqb,hbl,hq10]) (by simp only [go_sem,i64,ints,hqi,hqb,hbl,hq10]) (by first | exact .inl rfl | exact .inr rfl) ?_
 (try simp only [go_sem,hqi,hqb,hbl,hq10]);refine hK _ ?_;clear hK K;refine zw (sub_ownB 9 1 112 68 3 (by omega) (by omega) rfl rfl) ?_;refine zw (zk [1,2,4,5,6,7,8,9,10,11,12]) ?_;simp only [go_sem]
 repeat refine zq ?_
 refine zb fun K hK=>?_;simp only [go_sem];refine hK _ ?_;clear hK K;refine zw (zk [1,2,4,5,6,7,8,9,10,11,12,13]) ?_;simp only [go_sem];refine zd ?_
 have hnj:=fun j=>iterX_n x w (nX x i) j
 have hnx:=nX_le x i
 have hcn : i < 20:=by unfold cntX at hil; omega
 have hI:=fun j (hj : j ≤ 10)=>iterX_ok hw w (nX x i) j hj
 have hn10 : nX x (i + 1) = (iterX x w (nX x i) 10).n:=by rw [hwq]; rfl
 have hs10 : aimX x i = ⟨bedX q,fixX (iterX x w (nX x i) 10)⟩:=by rw [hwq,hq]; rfl
 have hn0 : nX x i = (iterX x w (nX x i) 0).n:=rfl
 have hfull:=iterX_full x w (nX x i)
 have hstep : ∀ j,iterX x w (nX x i) (j + 1) = addX x w (9 - j) (iterX x w (nX x i) j):=fun j=>rfl
 have hz : iterX x w (nX x i) 0 = ⟨[],0,0,nX x i⟩:=rfl
 generalize hitd : iterX x w (nX x i) = it at *
 refine awp_uptoV (n:=153) 10 (fun j vs=>[(1,.r (i64 most)),(2,.r (.rp (rxC x))),(4,.pt 4 (vs 4) 0),(5,.pt 5 (vs 5) 0),(6,.r (i64 ((it j).n : Int))),(7,.r (i64 (i : Int))),(8,.r (.it .u16 w)),(9,.pt 9 (vs 9) 0),(10,.r (ints beds10)),(11,.r (i64 (it j).sum)),(12,.r (i64 (it j).high)),(13,.r (i64 (9 - (j : Int))))])
  (fun j vs=>[(4,.box [.r (i64 0),.r .ns,.r (i64 0),.r (i64 0)]),(5,.box [.r (i64 24),.os 158 (vs 158) 2 0 i,.r (i64 S),.r (i64 O)]),(9,.box [.r (i64 (bedX q)),.os 112 (vs 112) 3 0 (it j).l.length]),(112,.arr 68 3 ((it j).l.map bedR)),(158,.arr 63 2 ((aimsX x i).map aimR))]) (fun _=>True) 0 (zj [] ?_ ?_) (Nat.zero_le _) trivial ?_
 · try simp only [go_sem]
   rw [hz]
   try simp
 · try simp only [go_sem]
   rw [hz]
   try rfl
 intro j vs hj _
 have hIj:=hI j hj
 have hfj:=hfull j
 have hsj:=hstep j
 have hnj':=hnj j
 generalize hP : it j = P at *
 obtain ⟨l,sm,hgh,n⟩:=P
 simp only at hIj hfj
 have hl5:=hIj.len
 simp only at hl5
 by_cases hcj : j < 10 ∧ l.length < 5
 · obtain ⟨hj10,hlt5⟩:=hcj
   obtain ⟨k,hk⟩ : ∃ k,k = 9 - j:=⟨_,rfl⟩
   have hk9 : (9 : Int) - (j : Int) = (k : Int):=by omega
   have hkd : IntKind.i64.wrap ((k : Int) - 1) = 9 - ((j + 1 : Nat) : Int):=by rw [zI] <;> omega
   have hkw : (0 : Int) ≤ IntKind.u64.wrap (k : Int):=by rw [wrap64s k (by omega)]; omega
   rw [← hk] at hsj
   have e1 : decide ((k : Int) ≥ 0) = true:=by simp
   have e2 : decide ((l.length : Int) < 5) = true:=by simp; omega
   simp only
   rw [hk9]
   repeat refine zq ?_
   refine zb fun K hK=>?_;simp only [go_sem,e1,e2,List.length_map]
   intro _
   refine hK _ ?_;clear hK K;refine zw (zk [1,2,4,5,6,7,8,9,10,11,12,13,73]) ?_;simp only [go_sem]
   refine zc rfl (fun hc=>?_) (fun hc=>?_) <;> (try simp only [go_sem] at hc)
   refine zx ?_
   try simp only [go_sem]
   refine zq ?_
   refine zd ?_
   refine zq ?_
   refine zb fun K hK=>?_;simp only [go_sem];refine hK _ ?_;clear hK K;refine zw (zk [1,2,4,5,6,7,8,9,10,11,12,13,81]) ?_;simp only [go_sem]
   cases hB : hasB w k
   · have hB' : (bitAnd IntKind.u16 (shrI IntKind.u16 w (IntKind.u64.wrap (k : Int))) 1 == 1) = false:=hB
     have hns : it (j + 1) = ⟨l,sm,hgh,n⟩:=by
      rw [hsj]; unfold addX; rw [if_neg (by simp [hB])]
     rw [hns]
     rw [hB']
     refine zc rfl (fun hc=>?_) (fun hc=>?_) <;> (try simp only [go_sem] at hc)
     refine zx ?_
     try simp only [go_sem]
     refine zb fun K hK=>?_;simp only [go_sem,hkd];refine hK _ ?_;clear hK K
     try simp only [go_sem]
     refine ⟨hj10,zj [] ?_ ?_⟩
     · try simp only [go_sem]
     · try simp only [go_sem]
   · have hB' : (bitAnd IntKind.u16 (shrI IntKind.u16 w (IntKind.u64.wrap (k : Int))) 1 == 1) = true:=hB
     rw [hB']
     refine zc rfl (fun hc=>?_) (fun hc=>?_) <;> (try simp only [go_sem] at hc)
     have bl:=byteL_le hw.low n
     have bh:=byteL_le hw.high n
     have hb1:=byteOf_ok x.low n
     have hb2:=byteOf_ok x.high n
     obtain ⟨smb0,smb1⟩:=hIj.sum0
     obtain ⟨hgb0,hgb1⟩:=hIj.high0
     simp only at smb0 smb1 hgb0 hgb1
     obtain ⟨bl',hbl'⟩ : ∃ b,b = byteL x.low n:=⟨_,rfl⟩
     obtain ⟨bh',hbh'⟩ : ∃ b,b = byteL x.high n:=⟨_,rfl⟩
     obtain ⟨lo,hlo⟩ : ∃ lo,lo = min (bl' % 6) (24 - sm):=⟨_,rfl⟩
     obtain ⟨hi',hhi⟩ : ∃ hi,hi = min 24 (lo + bh' % 9):=⟨_,rfl⟩
     have hns : it (j + 1) = ⟨⟨bedX k,lo,hi'⟩ :: l,sm + lo,hgh + hi',n + 1⟩:=by
      rw [hsj]; unfold addX; rw [if_pos ⟨hlt5,hB⟩,hhi,hlo,hbl',hbh']
     rw [← hbl'] at bl hb1
     rw [← hbh'] at bh hb2
     have t1 : bl'.tmod 6 = bl' % 6:=Int.tmod_eq_emod_of_nonneg bl.1
     have t2 : bh'.tmod 9 = bh' % 9:=Int.tmod_eq_emod_of_nonneg bh.1
     have w1 : IntKind.i64.wrap bl' = bl':=by rw [zI] <;> omega
     have w2 : IntKind.i64.wrap bh' = bh':=by rw [zI] <;> omega
     have w3 : IntKind.i64.wrap (24 - sm) = 24 - sm:=by rw [zI] <;> omega
     have w4 : IntKind.i64.wrap (lo + bh' % 9) = lo + bh' % 9:=by rw [zI] <;> omega
     have w5 : IntKind.i64.wrap ((n : Int) + 1) = ((n + 1 : Nat) : Int):=by
      have : n ≤ 1000:=by simp only at hnj'; omega
      rw [zI] <;> omega
     have hk10 : k < 10:=by omega
     have hkb : beds10[k]? = some (bedX k):=by
      unfold bedX
      rw [List.getD_eq_getElem?_getD,List.getElem?_eq_getElem (by rw [hbl]; exact hk10)]; rfl
     rw [hns]
     refine zq ?_
     refine zb fun K hK=>?_;simp only [go_sem,w1,t1]
     refine zh (hb1) rfl (by simp only [go_sem,i64,ints,w1,t1]) (by simp only [go_sem,i64,ints,w1,t1]) (by first | exact .inl rfl | exact .inr rfl) ?_
     (try simp only [go_sem,w1,t1]);refine hK _ ?_;clear hK K;refine zw (zk [1,2,4,5,6,7,8,9,10,11,12,13,14]) ?_;simp only [go_sem]
     refine zq ?_
     refine zb fun K hK=>?_;simp only [go_sem,w3];refine hK _ ?_;clear hK K;rw [← hlo]
     refine zw (zk [1,2,4,5,6,7,8,9,10,11,12,13,14]) ?_;simp only [go_sem]
     refine zq ?_
     refine awp_dreg2 [(2,none),(6,none),(14,some 14)] follows (by decide +kernel) (by kernel_rfl) (by simp only [keysOk,List.mem_cons,List.not_mem_nil,forall_eq_or_imp,Oc.keyOf,go_sem]; simp) fun K hK=>?_
     simp only [go_sem,w2,t2,w4]
     refine zh (hb2) rfl (by simp only [go_sem,i64,ints,w2,t2,w4]) (by simp only [go_sem,i64,ints,w2,t2,w4]) (by first | exact .inl rfl | exact .inr rfl) ?_
     (try simp only [go_sem,w2,t2,w4]);refine hK _ ?_;clear hK K;rw [← hhi]
     refine zw (sub_frzP 14 14 [i64 lo,i64 hi'] (by omega) rfl rfl) ?_;refine zw (sub_frzB 9 1 112 (by omega) (by omega) rfl rfl rfl (by simp)) ?_
     try simp only [go_sem]
     refine zw (zk [1,2,4,5,6,7,8,9,10,11,12,13,14]) ?_;simp only [go_sem]
     obtain ⟨c,hc'⟩ : ∃ c : Bd,c = ⟨bedX k,lo,hi'⟩:=⟨_,rfl⟩
     rw [← hc']
     have hclo : lo = c.lo:=by rw [hc']
     have hchi : hi' = c.hi:=by rw [hc']
     have hcb : bedX k = c.b:=by rw [hc']
     rw [hclo,hchi]
     refine zq ?_
     refine awp_invO [112] (n:=153) (gbF (rxC x) most n i k w (bedX q) sm hgh c l) (gbR S O (bedX q) i ((aimsX x i).map aimR) c l) follows (by kernel_rfl) (by kernel_rfl) (by decide +kernel) (zj [] ?_ ?_) ?_ ?_
     · simp only [go_sem,gbF,vG,hclo,hchi,if_true,if_false,Bool.false_eq_true,cond_false]
     · simp only [go_sem,gbR,cond_false,List.cons_append,List.nil_append]
     · refine ⟨fun b vs hdn hbk hde=>?_,fun b vs hdn hbk hde=>?_,fun b vs hdn hbk hde=>?_,fun b vs hdn hbk hde=>?_,fun b vs hdn hbk hde=>?_,fun b vs hdn hbk hde=>?_,fun b vs hdn hbk hde=>?_,fun b vs hdn hbk hde=>?_,fun b vs hdn hbk hde=>?_,fun b vs hdn hbk hde=>?_,fun b vs hdn hbk hde=>?_,fun b vs hdn hbk hde=>?_,trivial⟩
       · skip
         have G:=dnT hdn hbk [2,10,11,3,5,6,9] (by decide +kernel)
         simp only [allB,and_true] at G
         (simp only [go_sem,gbF,gbR,upd,vG,cond_true,cond_false,if_true,Bool.false_eq_true,if_false,hbk,G,xopW,sBuildOwn,hkb,hbl,hk10,hcb,List.length_map,List.length_cons,List.length_nil,Nat.sub_zero,Nat.add_sub_cancel,Nat.zero_add,Nat.add_comm 1 l.length,bedR])
         all_goals (refine zj [] ?_ ?_ <;> (simp only [go_sem,gbF,gbR,upd,vG,cond_true,cond_false,if_true,Bool.false_eq_true,if_false,hbk,G,xopW,sBuildOwn,hkb,hbl,hk10,hcb,List.length_map,List.length_cons,List.length_nil,Nat.sub_zero,Nat.add_sub_cancel,Nat.zero_add,Nat.add_comm 1 l.length,bedR]))
       · skip
         have G:=dnT hdn hbk [2,10,11,3,5,6,9] (by decide +kernel)
         simp only [allB,and_true] at G
         (simp only [go_sem,gbF,gbR,upd,vG,cond_true,cond_false,if_true,Bool.false_eq_true,if_false,hbk,G,xopW,sBuildOwn,hkb,hbl,hk10,hcb,List.length_map,List.length_cons,List.length_nil,Nat.sub_zero,Nat.add_sub_cancel,Nat.zero_add,Nat.add_comm 1 l.length,bedR])
         all_goals (refine zj [] ?_ ?_ <;> (simp only [go_sem,gbF,gbR,upd,vG,cond_true,cond_false,if_true,Bool.false_eq_true,if_false,hbk,G,xopW,sBuildOwn,hkb,hbl,hk10,hcb,List.length_map,List.length_cons,List.length_nil,Nat.sub_zero,Nat.add_sub_cancel,Nat.zero_add,Nat.add_comm 1 l.length,bedR]))
       · skip
         have H:=upT hdn hde [0,1] (by decide +kernel)
         have G:=dnT hdn hbk [3,10,11,5,6,9] (by decide +kernel)
         simp only [allB,and_true] at H G
         (simp only [go_sem,gbF,gbR,upd,vG,cond_true,cond_false,if_true,Bool.false_eq_true,if_false,hbk,H,G,xopW,sBuildOwn,hkb,hbl,hk10,hcb,List.length_map,List.length_cons,List.length_nil,Nat.sub_zero,Nat.add_sub_cancel,Nat.zero_add,Nat.add_comm 1 l.length,bedR])
         all_goals refine ⟨by omega,?_⟩
         all_goals (refine zj [] ?_ ?_ <;> (simp only [go_sem,gbF,gbR,upd,vG,cond_true,cond_false,if_true,Bool.false_eq_true,if_false,hbk,H,G,xopW,sBuildOwn,hkb,hbl,hk10,hcb,List.length_map,List.length_cons,List.length_nil,Nat.sub_zero,Nat.add_sub_cancel,Nat.zero_add,Nat.add_comm 1 l.length,bedR]))
       · skip
         have H:=upT hdn hde [2,0,1] (by decide +kernel)
         have G:=dnT hdn hbk [5,10,11,6,9] (by decide +kernel)
         simp only [allB,and_true] at H G
         (simp only [go_sem,gbF,gbR,upd,vG,cond_true,cond_false,if_true,Bool.false_eq_true,if_false,hbk,H,G,xopW,sBuildOwn,hkb,hbl,hk10,hcb,List.length_map,List.length_cons,List.length_nil,Nat.sub_zero,Nat.add_sub_cancel,Nat.zero_add,Nat.add_comm 1 l.length,bedR])
         all_goals (refine zj [] ?_ ?_ <;> (simp only [go_sem,gbF,gbR,upd,vG,cond_true,cond_false,if_true,Bool.false_eq_true,if_false,hbk,H,G,xopW,sBuildOwn,hkb,hbl,hk10,hcb,List.length_map,List.length_cons,List.length_nil,Nat.sub_zero,Nat.add_sub_cancel,Nat.zero_add,Nat.add_comm 1 l.length,bedR]))
       · skip
         have G:=dnT hdn hbk [5,10,11,6,9] (by decide +kernel)
         simp only [allB,and_true] at G
         (simp only [go_sem,gbF,gbR,upd,vG,cond_true,cond_false,if_true,Bool.false_eq_true,if_false,hbk,G,xopW,sBuildOwn,hkb,hbl,hk10,hcb,List.length_map,List.length_cons,List.length_nil,Nat.sub_zero,Nat.add_sub_cancel,Nat.zero_add,Nat.add_comm 1 l.length,bedR])
         all_goals (refine zj [] ?_ ?_ <;> (simp only [go_sem,gbF,gbR,upd,vG,cond_true,cond_false,if_true,Bool.false_eq_true,if_false,hbk,G,xopW,sBuildOwn,hkb,hbl,hk10,hcb,List.length_map,List.length_cons,List.length_nil,Nat.sub_zero,Nat.add_sub_cancel,Nat.zero_add,Nat.add_comm 1 l.length,bedR]))
       · skip
         have H:=upT hdn hde [3,4,2,0,1] (by decide +kernel)
         have G:=dnT hdn hbk [6,10,11,9] (by decide +kernel)
         simp only [allB,and_true] at H G
         (simp only [go_sem,gbF,gbR,upd,vG,cond_true,cond_false,if_true,Bool.false_eq_true,if_false,hbk,H,G,xopW,sBuildOwn,hkb,hbl,hk10,hcb,List.length_map,List.length_cons,List.length_nil,Nat.sub_zero,Nat.add_sub_cancel,Nat.zero_add,Nat.add_comm 1 l.length,bedR])
         all_goals (refine zj [] ?_ ?_ <;> (simp only [go_sem,gbF,gbR,upd,vG,cond_true,cond_false,if_true,Bool.false_eq_true,if_false,hbk,H,G,xopW,sBuildOwn,hkb,hbl,hk10,hcb,List.length_map,List.length_cons,List.length_nil,Nat.sub_zero,Nat.add_sub_cancel,Nat.zero_add,Nat.add_comm 1 l.length,bedR]))
       · skip
         have H:=upT hdn hde [5,3,4,2,0,1] (by decide +kernel)
         have G:=dnT hdn hbk [9,10,11] (by decide +kernel)
         simp only [allB,and_true] at H G
         (simp only [go_sem,gbF,gbR,upd,vG,cond_true,cond_false,if_true,Bool.false_eq_true,if_false,hbk,H,G,xopW,sBuildOwn,hkb,hbl,hk10,hcb,List.length_map,List.length_cons,List.length_nil,Nat.sub_zero,Nat.add_sub_cancel,Nat.zero_add,Nat.add_comm 1 l.length,bedR])
         all_goals (refine zj [] ?_ ?_ <;> (simp only [go_sem,gbF,gbR,upd,vG,cond_true,cond_false,if_true,Bool.false_eq_true,if_false,hbk,H,G,xopW,sBuildOwn,hkb,hbl,hk10,hcb,List.length_map,List.length_cons,List.length_nil,Nat.sub_zero,Nat.add_sub_cancel,Nat.zero_add,Nat.add_comm 1 l.length,bedR]))
       · skip
         have G:=dnT hdn hbk [8,10,11,9] (by decide +kernel)
         simp only [allB,and_true] at G
         cases g6 : b 6
         all_goals (simp only [go_sem,gbF,gbR,upd,vG,cond_true,cond_false,if_true,Bool.false_eq_true,if_false,hbk,G,g6,xopW,sBuildOwn,hkb,hbl,hk10,hcb,List.length_map,List.length_cons,List.length_nil,Nat.sub_zero,Nat.add_sub_cancel,Nat.zero_add,Nat.add_comm 1 l.length,bedR])
         all_goals (refine zj [] ?_ ?_ <;> (simp only [go_sem,gbF,gbR,upd,vG,cond_true,cond_false,if_true,Bool.false_eq_true,if_false,hbk,G,g6,xopW,sBuildOwn,hkb,hbl,hk10,hcb,List.length_map,List.length_cons,List.length_nil,Nat.sub_zero,Nat.add_sub_cancel,Nat.zero_add,Nat.add_comm 1 l.length,bedR]))
       · skip
         have H:=upT hdn hde [7] (by decide +kernel)
         have G:=dnT hdn hbk [9,10,11] (by decide +kernel)
         simp only [allB,and_true] at H G
         cases g6 : b 6
         all_goals (simp only [go_sem,gbF,gbR,upd,vG,cond_true,cond_false,if_true,Bool.false_eq_true,if_false,hbk,H,G,g6,xopW,sBuildOwn,hkb,hbl,hk10,hcb,List.length_map,List.length_cons,List.length_nil,Nat.sub_zero,Nat.add_sub_cancel,Nat.zero_add,Nat.add_comm 1 l.length,bedR])
         all_goals (refine zj [] ?_ ?_ <;> (simp only [go_sem,gbF,gbR,upd,vG,cond_true,cond_false,if_true,Bool.false_eq_true,if_false,hbk,H,G,g6,xopW,sBuildOwn,hkb,hbl,hk10,hcb,List.length_map,List.length_cons,List.length_nil,Nat.sub_zero,Nat.add_sub_cancel,Nat.zero_add,Nat.add_comm 1 l.length,bedR]))
       · skip
         have H:=upT hdn hde [6,8,5,7,3,4,2,0,1] (by decide +kernel)
         have G:=dnT hdn hbk [10,11] (by decide +kernel)
         simp only [allB,and_true] at H G
         (simp only [go_sem,gbF,gbR,upd,vG,cond_true,cond_false,if_true,Bool.false_eq_true,if_false,hbk,H,G,xopW,sBuildOwn,hkb,hbl,hk10,hcb,List.length_map,List.length_cons,List.length_nil,Nat.sub_zero,Nat.add_sub_cancel,Nat.zero_add,Nat.add_comm 1 l.length,bedR])
         all_goals refine ⟨by omega,?_⟩
         all_goals (refine zj [] ?_ ?_ <;> (simp only [go_sem,gbF,gbR,upd,vG,cond_true,cond_false,if_true,Bool.false_eq_true,if_false,hbk,H,G,xopW,sBuildOwn,hkb,hbl,hk10,hcb,List.length_map,List.length_cons,List.length_nil,Nat.sub_zero,Nat.add_sub_cancel,Nat.zero_add,Nat.add_comm 1 l.length,bedR]))
       · skip
         have H:=upT hdn hde [0,1,2,3,4,5,6,7,8,9] (by decide +kernel)
         have G:=dnT hdn hbk [11] (by decide +kernel)
         simp only [allB,and_true] at H G
         (simp only [go_sem,gbF,gbR,upd,vG,cond_true,cond_false,if_true,Bool.false_eq_true,if_false,hbk,H,G,xopW,sBuildOwn,hkb,hbl,hk10,hcb,List.length_map,List.length_cons,List.length_nil,Nat.sub_zero,Nat.add_sub_cancel,Nat.zero_add,Nat.add_comm 1 l.length,bedR])
         all_goals (refine zj [] ?_ ?_ <;> (simp only [go_sem,gbF,gbR,upd,vG,cond_true,cond_false,if_true,Bool.false_eq_true,if_false,hbk,H,G,xopW,sBuildOwn,hkb,hbl,hk10,hcb,List.length_map,List.length_cons,List.length_nil,Nat.sub_zero,Nat.add_sub_cancel,Nat.zero_add,Nat.add_comm 1 l.length,bedR]))
       · skip
         have H:=upT hdn hde [0,1,2,3,4,5,6,7,8,9,9,9,10] (by decide +kernel)
         simp only [allB,and_true] at H
         (simp only [go_sem,gbF,gbR,upd,vG,cond_true,cond_false,if_true,Bool.false_eq_true,if_false,hbk,H,xopW,sBuildOwn,hkb,hbl,hk10,hcb,List.length_map,List.length_cons,List.length_nil,Nat.sub_zero,Nat.add_sub_cancel,Nat.zero_add,Nat.add_comm 1 l.length,bedR])
         all_goals (refine zj [] ?_ ?_ <;> (simp only [go_sem,gbF,gbR,upd,vG,cond_true,cond_false,if_true,Bool.false_eq_true,if_false,hbk,H,xopW,sBuildOwn,hkb,hbl,hk10,hcb,List.length_map,List.length_cons,List.length_nil,Nat.sub_zero,Nat.add_sub_cancel,Nat.zero_add,Nat.add_comm 1 l.length,bedR]))
     intro b vs hb
     simp only [go_sem,gbF,gbR,vG,hb,if_true,cond_true,List.cons_append,List.nil_append];refine zw (zk [1,2,4,5,6,7,8,9,10,11,12,13,14]) ?_;simp only [go_sem]
     have w6 : IntKind.i64.wrap (sm + c.lo) = sm + c.lo:=by rw [zI] <;> omega
     have w7 : IntKind.i64.wrap (hgh + c.hi) = hgh + c.hi:=by rw [zI] <;> omega
     refine awp_dreg2 [(6,none),(11,none),(12,none),(14,none)] follows (by decide +kernel) (by kernel_rfl) (by simp only [keysOk,List.mem_cons,List.not_mem_nil,forall_eq_or_imp,Oc.keyOf,go_sem]; simp) fun K hK=>?_
     simp only [go_sem,w5,w6,w7];refine hK _ ?_;clear hK K;refine zw (zk [1,2,4,5,6,7,8,9,10,11,12,13]) ?_;simp only [go_sem];refine zb fun K hK=>?_;simp only [go_sem,hkd];refine hK _ ?_;clear hK K
     try simp only [go_sem]
     refine ⟨hj10,zj [] ?_ ?_⟩
     · try simp only [go_sem]
     · try simp only [go_sem]
       try simp
 have hend : it 10 = ⟨l,sm,hgh,n⟩:=by
  by_cases hj10 : j < 10
  · have h5 : ¬ l.length < 5:=fun h=>hcj ⟨hj10,h⟩
    have:=hfj h5 (10 - j)
    rwa [show j + (10 - j) = 10 by omega] at this
  · have : j = 10:=by omega
    rw [← this]; exact hP
 have hne : l ≠ []:=by
  have:=bedsX_ne hw (show i = 0 ∨ i < x.which.length by omega) (nX x i)
  rw [← hwq,hitd,hend] at this
  exact this
 simp only
 repeat refine zq ?_
 refine awp_joinV (n:=153) (fun (_ : Unit) vs=>[(1,.r (i64 most)),(2,.r (.rp (rxC x))),(4,.pt 4 (vs 4) 0),(5,.pt 5 (vs 5) 0),(6,.r (i64 (n : Int))),(7,.r (i64 (i : Int))),(9,.pt 9 (vs 9) 0),(12,.r (i64 hgh)),(73,.r (.bo false))])
  (fun _ vs=>[(4,.box [.r (i64 0),.r .ns,.r (i64 0),.r (i64 0)]),(5,.box [.r (i64 24),.os 158 (vs 158) 2 0 i,.r (i64 S),.r (i64 O)]),(9,.box [.r (i64 (bedX q)),.os 112 (vs 112) 3 0 l.length]),(112,.arr 68 3 (l.map bedR)),(158,.arr 63 2 ((aimsX x i).map aimR))]) (fun _=>True) (fun _ h=>h) ?_ ?_
 · by_cases hj10 : j < 10
   · have e1 : decide (9 - (j : Int) ≥ 0) = true:=by simp; omega
     have e2 : decide ((l.length : Int) < 5) = false:=by simp; omega
     refine zb fun K hK=>?_;simp only [go_sem,e1,e2,List.length_map]
     intro _
     refine hK _ ?_;clear hK K
     try simp only [go_sem]
     exact ⟨(),zj [] (by try simp only [go_sem]) (by try simp only [go_sem])⟩
   · have e1 : decide (9 - (j : Int) ≥ 0) = false:=by simp; omega
     refine zb fun K hK=>?_;simp only [go_sem,e1,List.length_map];refine hK _ ?_;clear hK K
     try simp only [go_sem]
     exact ⟨(),zj [] (by try simp only [go_sem]) (by try simp only [go_sem])⟩
 intro _ vs _
 refine zc rfl (fun hc=>?_) (fun hc=>?_) <;> (try simp only [go_sem] at hc)
 refine zf ?_;simp only [go_sem]
 have hnn : n = nX x (i + 1):=by rw [hn10,hend]
 have haim : aimX x i = ⟨bedX q,fixX ⟨l,sm,hgh,n⟩⟩:=by rw [hs10,hend]
 obtain ⟨c,l',rfl⟩ : ∃ c l',l = c :: l':=by
  cases l with
  | nil=>exact absurd rfl hne
  | cons c l'=>exact ⟨c,l',rfl⟩
 obtain ⟨fx,hfx⟩ : ∃ fx,fx = fixX ⟨c :: l',sm,hgh,n⟩:=⟨_,rfl⟩
 rw [← hfx] at haim
 have hfl : fx.length = l'.length + 1:=by rw [hfx]; unfold fixX; simp only; split <;> simp
 have hcI:=hIj.each c (by simp)
 obtain ⟨_,hcI0,hcI1,hcI2⟩:=hcI
 obtain ⟨hgb0,hgb1⟩:=hIj.high0
 simp only [List.length_cons] at hgb0 hgb1
 have hl5' : l'.length + 1 ≤ 5:=by simpa using hl5
 repeat refine zq ?_
 refine zb fun K hK=>?_;simp only [go_sem];refine hK _ ?_;clear hK K;refine zw (zk [1,2,4,5,6,7,9,12,128]) ?_;simp only [go_sem]
 refine awp_joinV (n:=153) (fun (_ : Unit) vs=>[(1,.r (i64 most)),(2,.r (.rp (rxC x))),(4,.pt 4 (vs 4) 0),(5,.pt 5 (vs 5) 0),(6,.r (i64 (n : Int))),(7,.r (i64 (i : Int))),(9,.pt 9 (vs 9) 0)])
  (fun _ vs=>[(4,.box [.r (i64 0),.r .ns,.r (i64 0),.r (i64 0)]),(5,.box [.r (i64 24),.os 158 (vs 158) 2 0 i,.r (i64 S),.r (i64 O)]),(9,.box [.r (i64 (bedX q)),.os 112 (vs 112) 3 0 (l'.length + 1)]),(112,.arr 68 3 (fx.map bedR)),(158,.arr 63 2 ((aimsX x i).map aimR))]) (fun _=>True) (fun _ h=>h) ?_ ?_
 · by_cases h24 : hgh < 24
   · have hfe : fx = ⟨c.b,c.lo,min 24 (c.hi + 24 - hgh)⟩ :: l':=by rw [hfx]; unfold fixX; simp only; rw [if_pos h24]
     have e1 : decide (hgh < 24) = true:=decide_eq_true h24
     have w8 : IntKind.i64.wrap (IntKind.i64.wrap (c.hi + 24) - hgh) = c.hi + 24 - hgh:=by
      have : IntKind.i64.wrap (c.hi + 24) = c.hi + 24:=by rw [zI] <;> omega
      rw [this,zI] <;> omega
     rw [hfe,e1]
     refine zc rfl (fun hc=>?_) (fun hc=>?_) <;> (try simp only [go_sem] at hc)
     refine awp_dreg2 [(9,some 9),(12,none)] follows (by decide +kernel) (by kernel_rfl) (by simp only [keysOk,List.mem_cons,List.not_mem_nil,forall_eq_or_imp,Oc.keyOf,go_sem]; simp) fun K hK=>?_
     simp only [go_sem,w8,bedR];(try simp (disch:=omega) only [zI])
     refine ⟨by omega,by omega,by omega,?_⟩
     refine hK _ ?_;clear hK K
     try simp only [go_sem]
     refine ⟨(),zj [] (by try simp only [go_sem]) ?_⟩
     try simp only [go_sem]
     rfl
   · have hfe : fx = c :: l':=by rw [hfx]; unfold fixX; simp only; rw [if_neg h24]
     have e1 : decide (hgh < 24) = false:=decide_eq_false h24
     rw [hfe,e1]
     refine zc rfl (fun hc=>?_) (fun hc=>?_) <;> (try simp only [go_sem] at hc)
     refine zx ?_
     try simp only [go_sem]
     exact ⟨(),zj [] (by try simp only [go_sem]) (by try simp only [go_sem])⟩
 intro _ vs _
 refine zw (sub_frzB 9 1 112 (by omega) (by omega) rfl rfl rfl (by simp [hfl])) ?_
 try simp only [go_sem]
 rw [List.take_of_length_le (show (fx.map bedR).length ≤ l'.length + 1 by simp [hfl])]
 refine zw (sub_frzP 9 9 [i64 (bedX q),bedsR fx] (by omega) rfl rfl) ?_
 have hal : (aimsX x i).length = i:=by simp [aimsX]
 have hsu:=aimsX_succ x i
 refine zw (zk [1,2,4,5,6,7,9]) ?_;simp only [go_sem];refine zb fun K hK=>?_;simp only [go_sem,hal,List.length_map]
 refine ⟨by omega,?_⟩
 refine hK _ ?_;clear hK K;refine zw (zk [1,2,4,5,6,7]) ?_;simp only [go_sem]
 have hi1 : IntKind.i64.wrap ((i : Int) + 1) = ((i + 1 : Nat) : Int):=by rw [zI] <;> omega
 refine zb fun K hK=>?_;simp only [go_sem,hi1];refine hK _ ?_;clear hK K
 try simp only [go_sem]
 refine ⟨i + 1,by omega,by omega,zj [] ?_ ?_⟩
 · try simp only [go_sem]
   rw [hnn]
 · try simp only [go_sem]
   rw [hsu,haim]
   simp [aimR,bedsR]
theorem law_enough {x : Rx} (hx : WfRx x) {bs : List Int} (hb : ∀ n ∈ bs,0 ≤ n ∧ n ≤ 255) : ACalls Try.prog 4 [.ag (rxC x),u8s bs] (.bo true):=by
 have hru:=rules_ok hx 2 (by omega)
 have h24:=rule_24e hx 2 (by omega)
 obtain ⟨R0,hR0⟩ : ∃ R0,R0 = ruleX x 2:=⟨_,rfl⟩
 have hck0 : checkR R0 = 0:=by rw [hR0]; exact ruleX_check hx (by omega)
 have hwf : WfL R0.d R0.aims:=by rw [hR0]; exact ruleX_wf hx
 have hd : R0.d = 24:=by rw [hR0]; rfl
 have hle : R0.aims.length ≤ 20 ∧ ∀ a ∈ R0.aims,a.beds.length ≤ 5:=by
  rw [hR0]
  refine ⟨?_,fun a ha=>(ruleX_aim hx ha).2⟩
  rw [ruleX_len]; unfold cntX; omega
 rw [← hR0] at hru h24
 obtain ⟨hcv,hr0⟩:=checkR_zero hck0
 obtain ⟨R,hR⟩ : ∃ R : Rk,R = ⟨R0.d,R0.aims,min R0.start 4,R0.out⟩:=⟨_,rfl⟩
 have q1 : R0.d = R.d:=by rw [hR]
 have q2 : R0.aims = R.aims:=by rw [hR]
 have q3 : min R0.start 4 = R.start:=by rw [hR]
 have q4 : R0.out = R.out:=by rw [hR]
 have hs0:=hr0.start
 have ho0:=hr0.out
 have hck : checkR R = 0:=by
  unfold checkR
  rw [← q1,← q2,if_pos hcv,if_pos]
  rw [← q3,← q4]; omega
 rw [q1] at hd hwf
 rw [q2] at hwf hle h24
 have hst4 : R.start ≤ 4:=by omega
 have hr:=(checkR_zero hck).2
 have hown:=own_ok R (by omega) (fun a ha=>by have:=hle.2 a ha; omega)
 have htb:=table_ok R hwf
 rw [if_pos hck,if_pos hck,hck] at htb
 have hlU:=tabT_len hr false
 have hlL:=tabT_len hr true
 have hkn:=known_ok
 have hlow:=lowest_ok R.out
 have hlg:=lowG_le R.out
 have hrs:=hr.start
 have hn : 0 < R.aims.length:=List.length_pos_iff.2 hr.ne
 have hlis:=fun {s left darts : Nat} (h : okP R s darts left)=>list_ok hck h.1 h.2.1 h.2.2.1 h.2.2.2.1 h.2.2.2.2.1 h.2.2.2.2.2
 obtain ⟨base,hbase⟩ : ∃ base : Nat,(base : Int) = lowG R.out:=⟨(lowG R.out).toNat,by omega⟩
 have hUb : ∀ s : Nat,lowG R.out ≤ s → (s : Int) ≤ R.start → (tabT R false).getD s 0 = 2000000000 ∨ (1000000 ≤ (tabT R false).getD s 0 ∧ (tabT R false).getD s 0 ≤ 1000000000):=fun s h1 h2=>by
  by_cases h : (tabT R false).getD s 0 = 2000000000
  · left; exact h
  · right; exact (tabT_less hr h1 h2 h).1
 have hen:=fun {len : Nat} (hlen : (len : Int) = R.start + 1) {Ls : List Int} (hLs : IL R (fun _ _ _=>True) Ls)=>enough_now hck hd h24 hb (ai:=fun _ s left darts=>(Ls.getD (ixL s darts left) 0).toNat) hlen (fun k s left darts a1 a2 a3 a4 a5 a6=>by
  have:=hLs.val s darts left ⟨a1,a2,a3,a4,a5,a6⟩ trivial
  show (Ls.getD (ixL s darts left) 0).toNat = _
  rw [this]; rfl)
 have hbd:=fun {len : Nat} (hlen : (len : Int) = R.start + 1) {Ls : List Int} (hLs : IL R (fun _ _ _=>True) Ls)=>nowV_le (R:=R) h24 (up:=0) (by omega) hb (ai:=fun _ s left darts=>(Ls.getD (ixL s darts left) 0).toNat) (T:=List.replicate len 0) (len:=len) (by omega) (M:=0) (by omega) (fun x=>by
  have : (List.replicate len (0 : Int)).getD x 0 = 0:=by
   rw [List.getD_eq_getElem?_getD,List.getElem?_replicate]
   split <;> rfl
  rw [this]; omega) (fun k s left darts a1 a2 a3 a4 a5 a6=>by
  have:=hLs.val s darts left ⟨a1,a2,a3,a4,a5,a6⟩ trivial
  show (Ls.getD (ixL s darts left) 0).toNat < _
  rw [this]
  exact (list_ok hck a1 a2 a3 a4 a5 a6).2.2.1)
 have hvis : ∀ {Ls : List Int} (hLs : IL R (fun _ _ _=>True) Ls) (s : Nat) (visits : List Int),s < visits.length → (s : Int) ≤ R.start → lowG R.out ≤ s → (∀ x,0 ≤ visits.getD x 0 ∧ visits.getD x 0 ≤ 4000000000) →
  ACalls Try.prog 27 [rkR R,i64 (s : Int),ints visits,.fn 28 [.rp (Ls.map i64),.rp [i64 (s : Int)]],u8s bs,i64 0] (i64 (visV R 0 bs (fun left darts=>(Ls.getD (ixL s darts left) 0).toNat) visits s)):=fun {Ls} hLs s visits h1 h2 h3 h4 =>
  visit_ok hr h24 (up:=0) (by omega) hb 28 _ _ h1 (by omega) h3 (M:=4000000000) (by omega) h4 fun left darts a1 a2 a3 a4 a5=>by
   have hv:=hLs.val s darts left ⟨a1,a2,h2,a3,a4,a5⟩ trivial
   have hi:=(list_ok hck a1 a2 h2 a3 a4 a5).2.2.1
   have hc:=aimsE_ok Ls hLs.len s darts left (by omega) (by omega) (by omega)
   (try simp only)
   rw [hv] at hc ⊢
   exact ⟨hi,hc⟩
 obtain ⟨U,hU⟩ : ∃ U,U = tabT R false:=⟨_,rfl⟩
 obtain ⟨L,hL⟩ : ∃ L,L = tabT R true:=⟨_,rfl⟩
 rw [← hU] at htb hlU hUb hen
 rw [← hL] at htb hlL
 obtain ⟨len,hlen⟩ : ∃ len : Nat,len = U.length:=⟨_,rfl⟩
 have hlL2 : L.length = len:=by omega
 have w1 : IntKind.i64.wrap (R.start + 1) = (len : Int):=by rw [zI] <;> omega
 have hsl : R.start = (len : Int) - 1:=by omega
 refine acalls_st (rs:=[.bo true]) [.tmp 4] Try.func4 rfl (by kernel_rfl) Try.ntmps4 rfl (by simp) rfl fun C vs=>?_
 refine zq ?_
 refine zb fun K hK=>?_;simp only [go_sem];refine hK _ ?_;clear hK K;refine zw (sub_frzP 2 2 (rxC x) (by omega) rfl rfl) ?_;refine zw (zk [1,2]) ?_;simp only [go_sem]
 refine zq ?_
 refine zb fun K hK=>?_;simp only [go_sem]
 refine zh (hru) rfl (by simp only [go_sem,i64,ints]) (by simp only [go_sem,i64,ints]) (by first | exact .inl rfl | exact .inr rfl) ?_
 (try simp only [go_sem]);refine hK _ ?_;clear hK K;refine zw (zk [1,5]) ?_;simp only [go_sem]
 refine zq ?_
 refine zb fun K hK=>?_;simp only [go_sem,q3];refine hK _ ?_;clear hK K;refine zw (sub_frzP 5 5 [i64 R0.d,aimsR R0.aims,i64 R.start,i64 R0.out] (by omega) (by try simp only [go_sem]) (by try simp only [go_sem])) ?_;rw [q1,q2,q4]
 refine zw (zk [1,5]) ?_;simp only [go_sem]
 refine zq ?_
 refine zb fun K hK=>?_;simp only [go_sem]
 refine zh (hown) rfl (by simp only [go_sem,i64,ints]) (by simp only [go_sem,i64,ints]) (by first | exact .inl rfl | exact .inr rfl) ?_
 (try simp only [go_sem])
 refine zh (htb) rfl (by simp only [go_sem,i64,ints]) (by simp only [go_sem,i64,ints]) (by first | exact .inl rfl | exact .inr rfl) ?_
 (try simp only [go_sem]);refine hK _ ?_;clear hK K;refine zw (zk [1,5,6,7,8]) ?_;simp only [go_sem]
 have e00 : ((0 : Int) != 0) = false:=rfl
 have eU : ((U.length : Int) != (len : Int)) = false:=by rw [hlen]; simp
 have eL : ((L.length : Int) != (len : Int)) = false:=by rw [hlL2]; simp
 repeat refine zq ?_
 refine zb fun K hK=>?_;simp only [go_sem,e00,w1,eU,eL,List.length_map]
 (try intros)
 refine hK _ ?_;clear hK K;refine zw (zk [1,5,6,51]) ?_;simp only [go_sem]
 refine zc rfl (fun hc=>?_) (fun hc=>?_) <;> (try simp only [go_sem] at hc)
 refine zx ?_
 try simp only [go_sem]
 refine zq ?_
 refine zb fun K hK=>?_;simp only [go_sem,ty49];refine hK _ ?_;clear hK K;refine zw (zk [1,5,6,9]) ?_;simp only [go_sem]
 repeat refine zq ?_
 refine zb fun K hK=>?_;simp only [go_sem]
 refine zh (hlow) rfl (by simp only [go_sem,i64,ints]) (by simp only [go_sem,i64,ints]) (by first | exact .inl rfl | exact .inr rfl) ?_
 (try simp only [go_sem]);refine hK _ ?_;clear hK K;refine zw (zk [1,5,6,9,10]) ?_;simp only [go_sem];refine zd ?_
 refine awp_while (n:=186) (α:=Nat × List Int) (fun y vs=>[(1,.r (u8s bs)),(5,.r (.rp [i64 R.d,aimsR R.aims,i64 R.start,i64 R.out])),(6,.r (ints U)),(9,.pt 9 (vs 9) 0),(10,.r (i64 (y.1 : Int)))]) (fun y=>[(9,.box (tA y.2))])
  (fun y=>(base ≤ y.1 ∧ y.1 ≤ len) ∧ IL R (fun s _ _=>s < y.1) y.2) (fun y=>len - y.1) (base,List.replicate 100 0) (fit_of [] ?_ ?_) ⟨⟨Nat.le_refl _,by omega⟩,(IL.zero R).mono fun s d l h1 h2=>by unfold okP at h1; (try simp only at h2); omega⟩ ?_
 · try simp only [go_sem]
   rw [hbase]
 · try simp only [go_sem]
   try rfl
 rintro ⟨s0,Ls⟩ vs ⟨⟨hs1,hs2⟩,hIL⟩
 simp only at hs1 hs2 hIL
 by_cases hs : s0 < len
 · have e1 : decide ((s0 : Int) ≤ R.start) = true:=decide_eq_true (by omega)
   have ws : IntKind.i64.wrap ((s0 : Int) + 1) = ((s0 + 1 : Nat) : Int):=by rw [zI] <;> omega
   repeat refine zq ?_
   refine zb fun K hK=>?_;simp only [go_sem,e1];refine hK _ ?_;clear hK K;refine zw (zk [1,5,6,9,10,59]) ?_;simp only [go_sem]
   refine zc rfl (fun hc=>?_) (fun hc=>?_) <;> (try simp only [go_sem] at hc)
   refine zx ?_
   try simp only [go_sem]
   refine zq ?_
   refine zd ?_
   refine zq ?_
   refine zb fun K hK=>?_;simp only [go_sem];refine hK _ ?_;clear hK K;refine zw (zk [1,5,6,9,10,11]) ?_;simp only [go_sem];refine zd ?_
   refine awp_while (n:=186) (α:=Nat × List Int) (fun y vs=>[(1,.r (u8s bs)),(5,.r (.rp [i64 R.d,aimsR R.aims,i64 R.start,i64 R.out])),(6,.r (ints U)),(9,.pt 9 (vs 9) 0),(10,.r (i64 (s0 : Int))),(11,.r (i64 (y.1 : Int)))]) (fun y=>[(9,.box (tA y.2))])
    (fun y=>(1 ≤ y.1 ∧ y.1 ≤ 4) ∧ IL R (fun s d _=>s < s0 ∨ (s = s0 ∧ d < y.1)) y.2) (fun y=>4 - y.1) (1,Ls) (fit_of [] ?_ ?_) ⟨⟨Nat.le_refl _,by omega⟩,hIL.mono fun s d l h1 h2=>by unfold okP at h1; (try simp only at h2); omega⟩ ?_
   · try simp only [go_sem]
     try rfl
   · try simp only [go_sem]
   clear hIL
   rintro ⟨d0,Ls⟩ vs ⟨⟨hd1,hd2⟩,hIL⟩
   simp only at hd1 hd2 hIL
   by_cases hd4 : d0 < 4
   · have e2 : decide ((d0 : Int) ≤ 3) = true:=decide_eq_true (by omega)
     have wd : IntKind.i64.wrap ((d0 : Int) + 1) = ((d0 + 1 : Nat) : Int):=by rw [zI] <;> omega
     repeat refine zq ?_
     refine zb fun K hK=>?_;simp only [go_sem,e2];refine hK _ ?_;clear hK K;refine zw (zk [1,5,6,9,10,11,63]) ?_;simp only [go_sem]
     refine zc rfl (fun hc=>?_) (fun hc=>?_) <;> (try simp only [go_sem] at hc)
     refine zx ?_
     try simp only [go_sem]
     refine zq ?_
     refine zd ?_
     refine zq ?_
     refine zb fun K hK=>?_;simp only [go_sem]
     refine zh (hlow) rfl (by simp only [go_sem,i64,ints]) (by simp only [go_sem,i64,ints]) (by first | exact .inl rfl | exact .inr rfl) ?_
     (try simp only [go_sem]);refine hK _ ?_;clear hK K;refine zw (zk [1,5,6,9,10,11,12]) ?_;simp only [go_sem];refine zd ?_
     refine awp_while (n:=186) (α:=Nat × List Int) (fun y vs=>[(1,.r (u8s bs)),(5,.r (.rp [i64 R.d,aimsR R.aims,i64 R.start,i64 R.out])),(6,.r (ints U)),(9,.pt 9 (vs 9) 0),(10,.r (i64 (s0 : Int))),(11,.r (i64 (d0 : Int))),(12,.r (i64 (y.1 : Int)))]) (fun y=>[(9,.box (tA y.2))])
      (fun y=>(base ≤ y.1 ∧ y.1 ≤ s0 + 1) ∧ IL R (fun s d l=>s < s0 ∨ (s = s0 ∧ (d < d0 ∨ (d = d0 ∧ l < y.1)))) y.2) (fun y=>s0 + 1 - y.1) (base,Ls) (fit_of [] ?_ ?_) ⟨⟨Nat.le_refl _,by omega⟩,hIL.mono fun s d l h1 h2=>by unfold okP at h1; (try simp only at h2); omega⟩ ?_
     · try simp only [go_sem]
       rw [hbase]
     · try simp only [go_sem]
     clear hIL
     rintro ⟨l0,Ls⟩ vs ⟨⟨hl1,hl2⟩,hIL⟩
     simp only at hl1 hl2 hIL
     by_cases hl4 : l0 ≤ s0
     · have e3 : decide ((l0 : Int) ≤ (s0 : Int)) = true:=decide_eq_true (by omega)
       have wl : IntKind.i64.wrap ((l0 : Int) + 1) = ((l0 + 1 : Nat) : Int):=by rw [zI] <;> omega
       repeat refine zq ?_
       refine zb fun K hK=>?_;simp only [go_sem,e3];refine hK _ ?_;clear hK K;refine zw (zk [1,5,6,9,10,11,12,71]) ?_;simp only [go_sem]
       refine zc rfl (fun hc=>?_) (fun hc=>?_) <;> (try simp only [go_sem] at hc)
       rotate_left
       · exact absurd hl4 hc
       refine zx ?_
       try simp only [go_sem]
       refine zq ?_
       refine zd ?_
       by_cases hd3 : d0 = 3 ∧ l0 < s0
       · have r1 : ((d0 : Int) == 3) = true:=by simp; omega
         have r2 : decide ((l0 : Int) < (s0 : Int)) = true:=decide_eq_true (by omega)
         repeat refine zq ?_
         refine zb fun K hK=>?_;simp only [go_sem,r1,r2];refine hK _ ?_;clear hK K;refine zw (zk [1,5,6,9,10,11,12,80]) ?_;simp only [go_sem]
         refine zc rfl (fun hc=>?_) (fun hc=>?_) <;> (try simp only [go_sem] at hc)
         rotate_left
         · exact absurd hd3.2 hc
         refine zf ?_;simp only [go_sem];refine zb fun K hK=>?_;simp only [go_sem,wl];refine hK _ ?_;clear hK K
         try simp only [go_sem]
         refine ⟨(l0 + 1,Ls),⟨⟨by simp only; omega,by simp only; omega⟩,hIL.mono fun s d l h1 h2=>by unfold okP at h1; (try simp only at h2); omega⟩,by simp only; omega,fit_of [] ?_ ?_⟩
         · try simp only [go_sem]
         · try simp only [go_sem]
       have h0 : okP R s0 d0 l0:=⟨by omega,hl4,by omega,by omega,hd1,by omega⟩
       repeat refine zq ?_
       refine awp_join (n:=186) (fun (_ : Unit) vs=>[(1,.r (u8s bs)),(5,.r (.rp [i64 R.d,aimsR R.aims,i64 R.start,i64 R.out])),(6,.r (ints U)),(9,.pt 9 (vs 9) 0),(10,.r (i64 (s0 : Int))),(11,.r (i64 (d0 : Int))),(12,.r (i64 (l0 : Int))),(80,.r (.bo false))])
        (fun _=>[(9,.box (tA Ls))]) (fun _=>True) (fun _ h=>h) ?_ ?_
       · by_cases hD' : d0 = 3
         · have r1 : ((d0 : Int) == 3) = true:=by simp; omega
           have r2 : decide ((l0 : Int) < (s0 : Int)) = false:=decide_eq_false (by omega)
           refine zb fun K hK=>?_;simp only [go_sem,r1,r2];refine hK _ ?_;clear hK K
           refine ⟨(),trivial,fit_of [] ?_ ?_⟩
           · try simp only [go_sem]
             omega
           · try simp only [go_sem]
         · have r1 : ((d0 : Int) == 3) = false:=by simp; omega
           refine zb fun K hK=>?_;simp only [go_sem,r1];refine hK _ ?_;clear hK K
           refine ⟨(),trivial,fit_of [] ?_ ?_⟩
           · try simp only [go_sem]
           · try simp only [go_sem]
       intro _ vs _
       refine zc rfl (fun hc=>?_) (fun hc=>?_) <;> (try simp only [go_sem] at hc)
       refine zx ?_
       try simp only [go_sem]
       obtain ⟨hE,hj,hjn,_⟩:=hlis h0
       have haim:=aim_ok R ⟨(s0 : Int),(l0 : Int),(d0 : Int)⟩ hwf
       have hput:=hIL.put (Q:=fun s d l=>s < s0 ∨ (s = s0 ∧ (d < d0 ∨ (d = d0 ∧ l < l0 + 1)))) hst4 h0 (fun s d l h1 h2=>by (try simp only at h2); omega)
       generalize aimQ R ⟨(s0 : Int),(l0 : Int),(d0 : Int)⟩ = Q at *
       obtain ⟨a,w,e⟩:=Q
       simp only at hE hj haim
       generalize listI R s0 l0 d0 = j at *
       subst hj
       refine zq ?_
       refine zb fun K hK=>?_;simp only [go_sem]
       refine zh (hown) rfl (by simp only [go_sem,i64,ints]) (by simp only [go_sem,i64,ints]) (by first | exact .inl rfl | exact .inr rfl) ?_
       (try simp only [go_sem])
       refine zh (haim) rfl (by simp only [go_sem,i64,ints]) (by simp only [go_sem,i64,ints]) (by first | exact .inl rfl | exact .inr rfl) ?_
       (try simp only [go_sem]);refine hK _ ?_;clear hK K;refine zw (zk [1,5,6,9,10,11,12,13,15]) ?_;simp only [go_sem]
       repeat refine zq ?_
       refine awp_join (n:=186) (fun (_ : Unit) vs=>[(1,.r (u8s bs)),(5,.r (.rp [i64 R.d,aimsR R.aims,i64 R.start,i64 R.out])),(6,.r (ints U)),(9,.pt 9 (vs 9) 0),(10,.r (i64 (s0 : Int))),(11,.r (i64 (d0 : Int))),(12,.r (i64 (l0 : Int))),(13,.r (i64 (j : Int))),(117,.r (.bo false))])
        (fun _=>[(9,.box (tA Ls))]) (fun _=>True) (fun _ h=>h) ?_ ?_
       · have j1 : decide ((j : Int) < 0) = false:=decide_eq_false (by omega)
         have j2 : decide ((R.aims.length : Int) ≤ (j : Int)) = false:=decide_eq_false (by omega)
         have j3 : ¬ R.aims.length ≤ j:=by omega
         rcases hE with rfl | ⟨rfl,hj0⟩
         · have f1 : ((0 : Int) == 7) = false:=rfl
           refine zb fun K hK=>?_;simp only [go_sem,e00,f1,j1,j2,j3,List.length_map]
           (try intros)
           refine hK _ ?_;clear hK K
           refine ⟨(),trivial,fit_of [] ?_ ?_⟩
           · try simp only [go_sem]
           · try simp only [go_sem]
         · have f1 : ((7 : Int) != 0) = true:=rfl
           have f2 : ((7 : Int) != 7) = false:=rfl
           have f3 : ((7 : Int) == 7) = true:=rfl
           have f4 : ((j : Int) != 0) = false:=by rw [hj0]; rfl
           refine zb fun K hK=>?_;simp only [go_sem,f1,f2,f3,f4,j1,j2,j3,List.length_map]
           (try intros)
           refine hK _ ?_;clear hK K
           refine ⟨(),trivial,fit_of [] ?_ ?_⟩
           · try simp only [go_sem]
           · try simp only [go_sem]
       intro _ vs _
       refine zc rfl (fun hc=>?_) (fun hc=>?_) <;> (try simp only [go_sem] at hc)
       refine zx ?_
       try simp only [go_sem]
       have hLl:=hIL.len
       have hix : ixL s0 d0 l0 < Ls.length:=by unfold ixL; omega
       have hse:=tA_set (Ls:=Ls) (i:=s0 * 20 + d0 * 5 + l0 * 1) (y:=(j : Int)) (by unfold ixL at hix; omega)
       have hixe : s0 * 20 + d0 * 5 + l0 * 1 = ixL s0 d0 l0:=by unfold ixL; omega
       have b1 : s0 < 5:=by omega
       have b2 : d0 < 4:=by omega
       have b3 : l0 < 5:=by omega
       refine zb fun K hK=>?_;simp only [go_sem,ty49]
       refine ⟨by omega,by omega,by omega,by omega,?_⟩
       rw [hse,hixe]
       refine hK _ ?_;clear hK K;refine zw (zk [1,5,6,9,10,11,12]) ?_;simp only [go_sem];refine zb fun K hK=>?_;simp only [go_sem,wl];refine hK _ ?_;clear hK K
       try simp only [go_sem]
       refine ⟨(l0 + 1,Ls.set (ixL s0 d0 l0) (j : Int)),⟨⟨by simp only; omega,by simp only; omega⟩,hput⟩,by simp only; omega,fit_of [] ?_ ?_⟩
       · try simp only [go_sem]
       · try simp only [go_sem]
     · have hle : l0 = s0 + 1:=by omega
       have e3 : decide ((l0 : Int) ≤ (s0 : Int)) = false:=decide_eq_false (by omega)
       repeat refine zq ?_
       refine zb fun K hK=>?_;simp only [go_sem,e3];refine hK _ ?_;clear hK K;refine zw (zk [1,5,6,9,10,11,12,71]) ?_;simp only [go_sem]
       refine zc rfl (fun hc=>?_) (fun hc=>?_) <;> (try simp only [go_sem] at hc)
       · exact absurd hc hl4
       refine zf ?_;simp only [go_sem];refine zb fun K hK=>?_;simp only [go_sem,wd];refine hK _ ?_;clear hK K
       try simp only [go_sem]
       refine ⟨(d0 + 1,Ls),⟨⟨by simp only; omega,by simp only; omega⟩,hIL.mono fun s d l h1 h2=>by unfold okP at h1; (try simp only at h2); omega⟩,by simp only; omega,fit_of [] ?_ ?_⟩
       · try simp only [go_sem]
       · try simp only [go_sem]
   · have hde : d0 = 4:=by omega
     have e2 : decide ((d0 : Int) ≤ 3) = false:=decide_eq_false (by omega)
     repeat refine zq ?_
     refine zb fun K hK=>?_;simp only [go_sem,e2];refine hK _ ?_;clear hK K;refine zw (zk [1,5,6,9,10,11,63]) ?_;simp only [go_sem]
     refine zc rfl (fun hc=>?_) (fun hc=>?_) <;> (try simp only [go_sem] at hc)
     refine zf ?_;simp only [go_sem];refine zb fun K hK=>?_;simp only [go_sem,ws];refine hK _ ?_;clear hK K
     try simp only [go_sem]
     refine ⟨(s0 + 1,Ls),⟨⟨by simp only; omega,by simp only; omega⟩,hIL.mono fun s d l h1 h2=>by unfold okP at h1; (try simp only at h2); omega⟩,by simp only; omega,fit_of [] ?_ ?_⟩
     · try simp only [go_sem]
     · try simp only [go_sem]
 have hse : s0 = len:=by omega
 have e1 : decide ((s0 : Int) ≤ R.start) = false:=decide_eq_false (by omega)
 have hLs : IL R (fun _ _ _=>True) Ls:=hIL.mono fun s d l h1 h2=>by unfold okP at h1; omega
 clear hIL
 repeat refine zq ?_
 refine zb fun K hK=>?_;simp only [go_sem,e1];refine hK _ ?_;clear hK K;refine zw (zk [1,5,6,9,10,59]) ?_;simp only [go_sem]
 refine zc rfl (fun hc=>?_) (fun hc=>?_) <;> (try simp only [go_sem] at hc)
 refine zf ?_;simp only [go_sem]
 have htA : tA Ls = (Ls.map i64).map AV.r:=by simp [tA]
 rw [htA]
 refine zw (sub_frzP 9 9 (Ls.map i64) (by omega) rfl rfl) ?_
 have hen':=hen (len:=len) (by omega) hLs
 have hbd':=hbd (len:=len) (by omega) hLs
 have hnl:=nowV_len (R:=R) (up:=0) (bs:=bs) (ai:=fun _ s left darts=>(Ls.getD (ixL s darts left) 0).toNat) (T:=List.replicate len 0) (len:=len) (by simp)
 have hvis':=fun s visits=>hvis hLs s visits
 have hLl:=hLs.len
 refine zw (zk [1,5,6,9]) ?_;simp only [go_sem]
 refine zq ?_
 refine zb fun K hK=>?_;simp only [go_sem,w1]
 refine ⟨by omega,?_⟩
 refine hK _ ?_;clear hK K;refine zw (sub_frz 16 128 (ty:=3) (sz:=1) (off:=0) (m:=len) (es:=arrV (List.replicate len 0)) (by omega) rfl (by simp only [List.map_replicate]; rfl) (by simp)) ?_
 have htk : ∀ l : List Int,(arrV l).take l.length = arrV l:=fun l=>List.take_of_length_le (by simp)
 have htr:=htk (List.replicate len 0)
 rw [List.length_replicate] at htr
 rw [List.drop_zero,htr]
 refine zw (zk [1,5,6,9,16]) ?_;simp only [go_sem]
 repeat refine zq ?_
 refine zb fun K hK=>?_;simp only [go_sem];refine hK _ ?_;clear hK K;refine zw (zk [1,5,6,9,16,17]) ?_;simp only [go_sem];refine zd ?_
 refine awp_upto (n:=186) 3 (fun k vs=>[(1,.r (u8s bs)),(5,.r (.rp [i64 R.d,aimsR R.aims,i64 R.start,i64 R.out])),(6,.r (ints U)),(9,.r (.rp (Ls.map i64))),(16,.r (ints (nowV R 0 bs (fun _ s left darts=>(Ls.getD (ixL s darts left) 0).toNat) (List.replicate len 0) len k))),(17,.r (i64 (k : Int)))])
  (fun k=>[]) (fun _=>True) 0 (fit_of [] ?_ ?_) (Nat.zero_le _) trivial ?_
 · try simp only [go_sem]
   try rfl
 · try simp only [go_sem]
 intro k vs hk _
 have hbk:=hbd' k
 have hen1:=hen' (k + 1)
 have hnk:=hnl k
 have hnk1 : nowV R 0 bs (fun _ s left darts=>(Ls.getD (ixL s darts left) 0).toNat) (List.replicate len 0) len (k + 1) = nextV R 0 bs (fun s left darts=>(Ls.getD (ixL s darts left) 0).toNat) (nowV R 0 bs (fun _ s left darts=>(Ls.getD (ixL s darts left) 0).toNat) (List.replicate len 0) len k) len:=rfl
 rw [hnk1] at hen1 ⊢
 generalize nowV R 0 bs (fun _ s left darts=>(Ls.getD (ixL s darts left) 0).toNat) (List.replicate len 0) len k = now at *
 by_cases hk4 : k < 3
 · have wk : IntKind.i64.wrap ((k : Int) + 1) = (k : Int) + 1:=by rw [zI] <;> omega
   have e4 : decide ((k : Int) < 3) = true:=decide_eq_true (by omega)
   repeat refine zq ?_
   refine zb fun K hK=>?_;simp only [go_sem,e4];refine hK _ ?_;clear hK K;refine zw (zk [1,5,6,9,16,17,130]) ?_;simp only [go_sem]
   refine zc rfl (fun hc=>?_) (fun hc=>?_) <;> (try simp only [go_sem] at hc)
   refine zx ?_
   try simp only [go_sem]
   refine zq ?_
   refine zd ?_
   refine zq ?_
   refine zb fun K hK=>?_;simp only [go_sem,w1]
   refine ⟨by omega,?_⟩
   refine hK _ ?_;clear hK K;refine zw (zk [1,5,6,9,16,17,18]) ?_;simp only [go_sem]
   repeat refine zq ?_
   refine zb fun K hK=>?_;simp only [go_sem]
   refine zh (hlow) rfl (by simp only [go_sem,i64,ints]) (by simp only [go_sem,i64,ints]) (by first | exact .inl rfl | exact .inr rfl) ?_
   (try simp only [go_sem]);refine hK _ ?_;clear hK K;refine zw (zk [1,5,6,9,16,17,18,19]) ?_;simp only [go_sem];refine zd ?_
   refine awp_uptoV (n:=186) (len - base) (fun i vs=>[(1,.r (u8s bs)),(5,.r (.rp [i64 R.d,aimsR R.aims,i64 R.start,i64 R.out])),(6,.r (ints U)),(9,.r (.rp (Ls.map i64))),(16,.r (ints now)),(17,.r (i64 (k : Int))),(18,.os 136 (vs 136) 1 0 len),(19,.pt 19 (vs 19) 0)])
    (fun i vs=>[(19,.box [.r (i64 ((base + i : Nat) : Int))]),(136,.arr 3 1 ((partN R 0 bs (fun s left darts=>(Ls.getD (ixL s darts left) 0).toNat) now len (base + i)).map fun x=>[i64 x]))]) (fun _=>True) 0 (zj [] ?_ ?_) (Nat.zero_le _) trivial ?_
   · try simp only [go_sem]
   · try simp only [go_sem]
     rw [partN_zero (by omega)]
     simp [List.map_replicate]
     try rw [hbase]
   intro i vs hi _
   obtain ⟨q,hq⟩ : ∃ q,q = base + i:=⟨_,rfl⟩
   have hnx : base + (i + 1) = q + 1:=by omega
   rw [hnx]
   rw [← hq]
   have wl : IntKind.i64.wrap ((q : Int) + 1) = ((q + 1 : Nat) : Int):=by rw [zI] <;> omega
   have hpl : (partN R 0 bs (fun s left darts=>(Ls.getD (ixL s darts left) 0).toNat) now len q).length = len:=partN_len
   by_cases hqs : q < len
   · have e1 : decide ((q : Int) ≤ R.start) = true:=decide_eq_true (by omega)
     have hv:=hvis' q now (by omega) (by omega) (by omega) (fun x=>by have:=hbk x; omega)
     have hset:=partN_set (R:=R) (up:=0) (bs:=bs) (ai:=fun s left darts=>(Ls.getD (ixL s darts left) 0).toNat) (now:=now) (len:=len) (n:=q) (by omega)
     have hge : visV R 0 bs (fun left darts=>(Ls.getD (ixL q darts left) 0).toNat) now q ≤ U.getD q 0:=by
      have:=hen1 (by omega) q (by omega) (by omega)
      rw [nextV_get,if_pos hqs] at this
      unfold nxV at this
      rwa [if_neg (by omega)] at this
     obtain ⟨u,hu⟩:=opt_of_lt (show q < U.length by omega)
     have hqU : q < U.length:=by omega
     have gu : U.getD q 0 = u:=by simp [List.getD,hu]
     have hub:=hUb q (by omega) (by omega)
     rw [gu] at hge hub
     (try simp only at hset)
     generalize visV R 0 bs (fun left darts=>(Ls.getD (ixL q darts left) 0).toNat) now q = n at *
     generalize partN R 0 bs (fun s left darts=>(Ls.getD (ixL s darts left) 0).toNat) now len q = P0 at *
     generalize partN R 0 bs (fun s left darts=>(Ls.getD (ixL s darts left) 0).toNat) now len (q + 1) = P1 at *
     have d1 : decide (u < n) = false:=decide_eq_false (by omega)
     have d2 : decide (u < 1000000) = false:=decide_eq_false (by omega)
     obtain ⟨y0,hy0⟩:=opt_of_lt (show q < P0.length by omega)
     repeat refine zq ?_
     refine zb fun K hK=>?_;simp only [go_sem,e1];refine hK _ ?_;clear hK K;refine zw (sub_frzP 19 19 [i64 (q : Int)] (by omega) (by try simp only [go_sem]) (by try simp only [go_sem])) ?_;refine zw (zk [1,5,6,9,16,17,18,19,143]) ?_;simp only [go_sem]
     refine zc rfl (fun hc=>?_) (fun hc=>?_) <;> (try simp only [go_sem] at hc)
     refine zx ?_
     try simp only [go_sem]
     refine zq ?_
     refine zd ?_
     refine zq ?_
     refine zb fun K hK=>?_;simp only [go_sem]
     refine zh (hv) rfl (by simp only [go_sem,i64,ints]) (by simp only [go_sem,i64,ints]) (by first | exact .inl rfl | exact .inr rfl) ?_
     (try simp only [go_sem]);refine hK _ ?_;clear hK K;refine zw (zk [1,5,6,9,16,17,18,19,20]) ?_;simp only [go_sem]
     repeat refine zq ?_
     refine awp_joinV (n:=186) (fun (_ : Unit) vs=>[(1,.r (u8s bs)),(5,.r (.rp [i64 R.d,aimsR R.aims,i64 R.start,i64 R.out])),(6,.r (ints U)),(9,.r (.rp (Ls.map i64))),(16,.r (ints now)),(17,.r (i64 (k : Int))),(18,.os 136 (vs 136) 1 0 len),(19,.r (.rp [i64 (q : Int)])),(20,.r (i64 n)),(178,.r (.bo false))])
      (fun _ vs=>[(136,.arr 3 1 (P0.map fun x=>[i64 x]))]) (fun _=>True) (fun _ h=>h) ?_ ?_
     · rcases hub with hub | hub
       · have d3 : decide (1000000000 < u) = true:=decide_eq_true (by omega)
         have d4 : (u != 2000000000) = false:=by rw [hub]; rfl
         refine zb fun K hK=>?_;simp only [go_sem,hu,hqU,d1,d2,d3,d4,List.length_map]
         (try intros)
         refine hK _ ?_;clear hK K
         refine ⟨(),trivial,zj [] ?_ ?_⟩
         · try simp only [go_sem]
         · try simp only [go_sem]
       · have d3 : decide (1000000000 < u) = false:=decide_eq_false (by omega)
         refine zb fun K hK=>?_;simp only [go_sem,hu,hqU,d1,d2,d3,List.length_map]
         (try intros)
         refine hK _ ?_;clear hK K
         refine ⟨(),trivial,zj [] ?_ ?_⟩
         · try simp only [go_sem]
         · try simp only [go_sem]
     intro _ vs _
     refine zc rfl (fun hc=>?_) (fun hc=>?_) <;> (try simp only [go_sem] at hc)
     refine zx ?_
     try simp only [go_sem]
     refine zb fun K hK=>?_;simp only [go_sem,hpl,hqs,hy0,List.length_map];refine hK _ ?_;clear hK K;refine zw (zk [1,5,6,9,16,17,18,19]) ?_;simp only [go_sem]
     repeat refine zq ?_
     refine zb fun K hK=>?_;simp only [go_sem];refine hK _ ?_;clear hK K;refine zw (zk [1,5,6,9,16,17,18,183]) ?_;simp only [go_sem];refine zb fun K hK=>?_;simp only [go_sem];refine hK _ ?_;clear hK K;refine zw (zk [1,5,6,9,16,17,18,19]) ?_;simp only [go_sem];refine zb fun K hK=>?_;simp only [go_sem,wl];refine hK _ ?_;clear hK K
     try simp only [go_sem]
     refine ⟨by omega,zj [] ?_ ?_⟩
     · try simp only [go_sem]
     · try simp only [go_sem]
       rw [← hset,List.map_set]
   · have hqe : q = len:=by omega
     have e1 : decide ((q : Int) ≤ R.start) = false:=decide_eq_false (by omega)
     rw [hqe] at e1 ⊢
     rw [partN_full]
     have hNl : (nextV R 0 bs (fun s left darts=>(Ls.getD (ixL s darts left) 0).toNat) now len).length = len:=nextV_len
     generalize nextV R 0 bs (fun s left darts=>(Ls.getD (ixL s darts left) 0).toNat) now len = NX at *
     repeat refine zq ?_
     refine zb fun K hK=>?_;simp only [go_sem,e1];refine hK _ ?_;clear hK K;refine zw (zk [1,5,6,9,16,17,18,143]) ?_;simp only [go_sem]
     refine zc rfl (fun hc=>?_) (fun hc=>?_) <;> (try simp only [go_sem] at hc)
     refine zf ?_;simp only [go_sem];refine zw (sub_frz 18 136 (ty:=3) (sz:=1) (off:=0) (m:=len) (es:=arrV NX) (by omega) rfl (by rfl) (by simp [hNl])) ?_
     have htn:=htk NX
     rw [hNl] at htn
     rw [List.drop_zero,htn]
     refine zw (zk [1,5,6,9,17,18]) ?_;simp only [go_sem];refine zb fun K hK=>?_;simp only [go_sem];refine hK _ ?_;clear hK K;refine zw (zk [1,5,6,9,16,17]) ?_;simp only [go_sem];refine zb fun K hK=>?_;simp only [go_sem,wk];refine hK _ ?_;clear hK K
     try simp only [go_sem]
     refine ⟨hk4,fit_of [19] ?_ ?_⟩
     · try simp only [go_sem]
     · try simp only [go_sem]
 · have hke : k = 3:=by omega
   subst hke
   repeat refine zq ?_
   refine zb fun K hK=>?_;simp only [go_sem];refine hK _ ?_;clear hK K;refine zw (zk [1,5,130]) ?_;simp only [go_sem]
   refine zc rfl (fun hc=>?_) (fun hc=>?_) <;> (try simp only [go_sem] at hc)
   refine zf ?_;simp only [go_sem]
   refine zq ?_
   refine zb fun K hK=>?_;simp only [go_sem]
   refine zh (hkn) rfl (by simp only [go_sem,i64,ints]) (by simp only [go_sem,i64,ints]) (by first | exact .inl rfl | exact .inr rfl) ?_
   (try simp only [go_sem]);refine hK _ ?_;clear hK K;refine zw (zk [4]) ?_;simp only [go_sem];refine ze ?_;simp only [go_sem]
end Go.Proofs.Ytgfbenanljjgaaa.Du.Th.Ai

namespace Go.Oc
open Go Go.RowKit Go.ChangeShapes Go.WideShapes
inductive Sh where
 | int (k : IntKind)
 | bool
 | sl (es : List Sh)
def fieldsSh (P : Program) (sh : TypeId → Option (List Sh)) : List Field → Nat → Option (List Sh)
 | [],_=>some []
 | f :: fs, o =>
   match sh f.type with
   | some ss=>if f.offset == o && ss.length == P.cellsOf f.type then match fieldsSh P sh fs (o + ss.length) with | some q=>some (ss ++ q) | none=>none else none
   | none=>none
def shape (P : Program) : Nat → TypeId → Option (List Sh)
 | 0,_=>none
 | n + 1, t =>
   match P.underlying t with
   | some (.int k)=>some [.int k]
   | some .bool=>some [.bool]
   | some (.slice e) =>
     match shape P n e with
     | some ss=>if ss.length == P.cellsOf e && decide (0 < ss.length) then some [.sl ss] else none
     | none=>none
   | some (.array m e) =>
     match shape P n e with
     | some ss=>if ss.length == P.cellsOf e && P.cellsOf t == m * ss.length then some (List.replicate m ss).flatten else none
     | none=>none
   | some (.struct fs) =>
     match fieldsSh P (shape P n) fs.toList 0 with
     | some ss=>if ss.length == P.cellsOf t then some ss else none
     | none=>none
   | _=>none
mutual
def Fits : Sh → RV → Prop
 | .int k,x=>∃ n,x = .it k n ∧ (Lit.int k n).wf = true
 | .bool,x=>∃ b,x = .bo b
 | .sl ss,x=>∃ es,x = .sl ss.length es ∧ FitsE ss es
def FitsL : List Sh → List RV → Prop
 | [],xs=>xs = []
 | s :: ss,xs=>∃ y ys,xs = y :: ys ∧ Fits s y ∧ FitsL ss ys
def FitsE (ss : List Sh) : List (List RV) → Prop
 | []=>True
 | e :: es=>FitsL ss e ∧ FitsE ss es
end
theorem fitsL_append : ∀ {s1 s2 : List Sh} {x1 x2 : List RV},FitsL s1 x1 → FitsL s2 x2 → FitsL (s1 ++ s2) (x1 ++ x2)
 | [],_,_,_,h1,h2=>by simp only [FitsL] at h1; subst h1; simpa using h2
 | s :: ss, s2, x1, x2, h1, h2 => by
   simp only [FitsL] at h1
   obtain ⟨y,ys,rfl,h3,h4⟩:=h1
   simp only [List.cons_append,FitsL];exact ⟨y,_,rfl,h3,fitsL_append h4 h2⟩
theorem fitsL_length : ∀ {ss : List Sh} {xs : List RV},FitsL ss xs → xs.length = ss.length
 | [],_,h=>by simp only [FitsL] at h; subst h; rfl
 | s :: ss, _, h => by
   simp only [FitsL] at h
   obtain ⟨y,ys,rfl,_,h⟩:=h
   simp [fitsL_length h]
theorem fitsE_of : ∀ {ss : List Sh} {es : List (List RV)},(∀ e ∈ es,FitsL ss e) → FitsE ss es
 | _,[],_=>by simp only [FitsE]
 | ss,e :: es,h=>by simp only [FitsE]; exact ⟨h e (by simp),fitsE_of fun x hx=>h x (by simp [hx])⟩
theorem choice {α : Type} {Q : Nat → α → Prop} : ∀ (n : Nat),(∀ i,i < n → ∃ x,Q i x) → ∃ xs : List α,xs.length = n ∧ ∀ i x,xs[i]? = some x → Q i x
 | 0,_=>⟨[],rfl,by simp⟩
 | n + 1, h => by
   obtain ⟨xs,hl,hx⟩:=choice n fun i hi=>h i (by omega)
   obtain ⟨y,hy⟩:=h n (by omega)
   refine ⟨xs ++ [y],by simp [hl],fun i x hi=>?_⟩
   by_cases h1 : i < n
   · rw [List.getElem?_append_left (by omega)] at hi; exact hx i x hi
   · rw [List.getElem?_append_right (by omega)] at hi
     have : i = n:=by have:=(List.getElem?_eq_some_iff.1 hi).1; simp at this; omega
     subst this
     simp [hl] at hi
     exact hi ▸ hy
section
variable {w : World} {P : Program}
theorem cells?_get {base n : Nat} {a : Addr} {cs : List Value} (h : w.cells? base a n = some cs) : cs.length = n ∧ ∀ i,i < n → w.cell? (a.add i) = cs[i]?:=by
 unfold World.cells? at h
 split at h
 · exact ⟨by simpa using mapM_some_length h,fun i hi=>mapM_some_get h i i (by simp [hi])⟩
 · cases h
theorem cell_lt {a : Addr} {v : Value} (h : w.cell? a = some v) : a.block < w.heap.size:=by
 refine Decidable.byContradiction fun hn=>?_
 have : w.heap[a.block]? = none:=by simp; omega
 simp [World.cell?,this] at h
def old (w : World) : Nat → Prop:=fun b=>b < w.heap.size
theorem relC_of_cells {xs : List RV} {cs : List Value} {ad : Addr} (hV : RV.relV w (old w) xs cs) (hone : ∀ u ∈ cs,u.oneCell' = true) (hc : ∀ i,i < cs.length → w.cell? (ad.add i) = cs[i]?) : RV.relC w (old w) xs ad 0:=by
 refine RV.relC_of_get fun i x hx=>?_
 obtain ⟨u,hu,hr⟩:=RV.relV_get hV hx
 have hi:=(List.getElem?_eq_some_iff.1 hu).1
 refine ⟨u,?_,hone u (List.mem_of_getElem? hu),hr⟩
 rw [Nat.zero_add,hc i hi,hu]
variable {H : Type} {enc : TypeId × Value → H} {base : Nat} {spare : Nat → Bool} {held : Bool}
def Good3 (w : World) (ss : List Sh) (cs : List Value) : Prop:=∃ xs,FitsL ss xs ∧ RV.relV w (old w) xs cs ∧ ∀ u ∈ cs,u.oneCell' = true
theorem good3_append {s1 s2 : List Sh} {c1 c2 : List Value} (h1 : Good3 w s1 c1) (h2 : Good3 w s2 c2) : Good3 w (s1 ++ s2) (c1 ++ c2):=by
 obtain ⟨x1,f1,r1,o1⟩:=h1
 obtain ⟨x2,f2,r2,o2⟩:=h2
 refine ⟨x1 ++ x2,fitsL_append f1 f2,RV.relV_append r1 r2,fun u hu=>?_⟩
 rcases List.mem_append.1 hu with hu | hu
 · exact o1 u hu
 · exact o2 u hu
theorem good3_length {ss : List Sh} {cs : List Value} (h : Good3 w ss cs) : cs.length = ss.length:=by
 obtain ⟨xs,f,r,_⟩:=h
 rw [RV.relV_length r,fitsL_length f]
theorem trod_fits : ∀ (fuel n : Nat) (t : TypeId) (cs : List Value) (x : DataW H × List MemPlace) (ss : List Sh),DataW.trod enc P w base spare held fuel t cs = some x → shape P n t = some ss → Good3 w ss cs:=by
 intro fuel
 induction fuel with
 | zero=>intro n t cs x ss h; simp [DataW.trod] at h
 | succ fuel ih =>
   intro n t cs x ss h hs
   cases n with
   | zero=>simp [shape] at hs
   | succ n =>
     unfold shape at hs
     split at hs
     · rename_i k ht
       injection hs with hs; subst hs
       obtain ⟨m,rfl,_,hw⟩:=DataW.trod_int ht h
       exact ⟨[.it k m],by simp only [FitsL,Fits]; exact ⟨_,[],rfl,⟨m,rfl,hw⟩,rfl⟩,by simp only [RV.relV,RV.rel]; exact ⟨_,[],rfl,rfl,rfl⟩,by simp [Value.oneCell']⟩
     · rename_i ht
       injection hs with hs; subst hs
       obtain ⟨b,rfl,_⟩:=DataW.trod_bool ht h
       exact ⟨[.bo b],by simp only [FitsL,Fits]; exact ⟨_,[],rfl,⟨b,rfl⟩,rfl⟩,by simp only [RV.relV,RV.rel]; exact ⟨_,[],rfl,rfl,rfl⟩,by simp [Value.oneCell']⟩
     · rename_i e ht
       split at hs
       · rename_i es hes
         split at hs
         · rename_i hc
           simp only [Bool.and_eq_true,beq_iff_eq,decide_eq_true_eq] at hc
           injection hs with hs; subst hs
           rcases DataW.trod_slice ht h with ⟨rfl,_⟩ | ⟨a,len,cap,elems,rest,m,hm,rfl,_,_,hlc,hcm,hel,hget,_⟩
           · refine ⟨[.sl es.length []],?_,?_,by simp [Value.oneCell']⟩
             · simp only [FitsL,Fits];exact ⟨_,[],rfl,⟨[],rfl,by simp only [FitsE]⟩,rfl⟩
             · simp only [RV.relV,RV.rel];exact ⟨_,[],rfl,⟨none,0,rfl,Nat.le_refl _,Nat.zero_le _,fun h=>absurd rfl h⟩,rfl⟩
           · injection hm with hm; subst hm
             have hall : ∀ i,i < len → ∃ e',FitsL es e' ∧ e'.length = es.length ∧ RV.relC w (old w) e' (a.add (i * es.length)) 0 ∧ a.block < w.heap.size:=fun i hi=>by
              have h1:=hget i hi
              have h2 : i < elems.length:=by omega
              rw [List.getElem?_eq_getElem h2] at h1
              obtain ⟨ci,hci,htr⟩:=Option.bind_eq_some_iff.1 h1
              rw [← hc.1] at hci
              obtain ⟨hl,hcell⟩:=cells?_get hci
              obtain ⟨xs,f,r,o⟩:=ih n e ci _ es htr hes
              refine ⟨xs,f,fitsL_length f,relC_of_cells r o (fun j hj=>hcell j (by omega)),?_⟩
              have h3:=hcell 0 hc.2
              have h4 : 0 < ci.length:=by omega
              rw [List.getElem?_eq_getElem h4] at h3
              have:=cell_lt h3
              rwa [block_add,block_add] at this
             obtain ⟨els,hlen,hels⟩:=choice len hall
             refine ⟨[.sl es.length els],?_,?_,by simp [Value.oneCell']⟩
             · simp only [FitsL,Fits]
               refine ⟨_,[],rfl,⟨els,rfl,fitsE_of fun e' he'=>?_⟩,rfl⟩
               obtain ⟨i,hi⟩:=List.getElem?_of_mem he'
               exact (hels i e' hi).1
             · simp only [RV.relV,RV.rel]
               refine ⟨_,[],rfl,⟨some a,cap,by rw [hlen],by omega,hcm,fun hne=>?_⟩,rfl⟩
               obtain ⟨e0,he0⟩ : ∃ e0,els[0]? = some e0:=by
                cases els with
                | nil=>exact absurd rfl hne
                | cons a l=>exact ⟨a,rfl⟩
               refine ⟨a,rfl,(hels 0 e0 he0).2.2.2,RV.relE_of_get fun i e' he'=>?_⟩
               obtain ⟨_,q1,q2,_⟩:=hels i e' he'
               exact ⟨q1,RV.relC_unbase _ q2⟩
         · cases hs
       · cases hs
     · rename_i m e ht
       split at hs
       · rename_i es hes
         split at hs
         · rename_i hc
           simp only [Bool.and_eq_true,beq_iff_eq] at hc
           injection hs with hs; subst hs
           obtain ⟨xs,fm,hm,_,hcl,hxl,hget⟩:=DataW.trod_array ht h
           injection hm with hm; subst hm
           have key : ∀ j,j ≤ m → Good3 w (List.replicate j es).flatten (cs.take (j * es.length)):=by
            intro j
            induction j with
            | zero=>intro _; exact ⟨[],by simp [FitsL],by simp [RV.relV],by simp⟩
            | succ j ihj =>
              intro hj
              have h1:=hget j (by omega)
              have h2 : j < xs.length:=by omega
              rw [List.getElem?_eq_getElem h2,← hc.1] at h1
              have h3:=ih n e _ _ es h1 hes
              have:=good3_append (ihj (by omega)) h3
              rw [← List.take_add] at this
              rw [List.replicate_succ',List.flatten_append,Nat.add_mul]
              simpa using this
           have:=key m (Nat.le_refl _)
           rwa [← hc.2,← hcl,List.take_length] at this
         · cases hs
       · cases hs
     · rename_i fs ht
       split at hs
       · rename_i q hq
         split at hs
         · rename_i hc
           simp only [beq_iff_eq] at hc
           injection hs with hs; subst hs
           obtain ⟨xs,fm,hm,_,hcl,hxl,hget⟩:=DataW.trod_struct ht h
           injection hm with hm; subst hm
           have key : ∀ (l : List Field) (o : Nat) (q : List Sh),(∀ f ∈ l,∃ y,DataW.trod enc P w base spare held fuel f.type ((cs.drop f.offset).take (P.cellsOf f.type)) = some y) → fieldsSh P (shape P n) l o = some q → Good3 w q ((cs.drop o).take q.length):=by
            intro l
            induction l with
            | nil =>
              intro o q _ hq
              simp only [fieldsSh,Option.some.injEq] at hq
              subst hq
              exact ⟨[],by simp [FitsL],by simp [RV.relV],by simp⟩
            | cons f l ihl =>
              intro o q hall hq
              simp only [fieldsSh] at hq
              split at hq
              · rename_i s1 hs1
                split at hq
                · rename_i hc1
                  simp only [Bool.and_eq_true,beq_iff_eq] at hc1
                  split at hq
                  · rename_i q2 hq2
                    injection hq with hq; subst hq
                    obtain ⟨y,hy⟩:=hall f (by simp)
                    have g1:=ih n f.type _ _ s1 hy hs1
                    have g2:=ihl (o + s1.length) q2 (fun f' hf'=>hall f' (by simp [hf'])) hq2
                    rw [hc1.1,← hc1.2] at g1
                    have:=good3_append g1 g2
                    rw [← List.drop_drop,← List.take_add] at this
                    simpa using this
                  · cases hq
                · cases hq
              · cases hq
           have:=key fs.toList 0 q (fun f hf=>by
            obtain ⟨i,hi⟩:=List.getElem?_of_mem hf
            have hi' : fs[i]? = some f:=by simpa using hi
            have h1:=hget i f hi'
            have h2 : i < xs.length:=by have:=(Array.getElem?_eq_some_iff.1 hi').1; omega
            exact ⟨xs[i],by rw [h1]; exact List.getElem?_eq_getElem h2⟩) hq
           rwa [List.drop_zero,hc,← hcl,List.take_length] at this
         · cases hs
       · cases hs
     · cases hs
def FitsT (P : Program) (n : Nat) (t : TypeId) (x : RV) : Prop:=∃ ss,shape P n t = some ss ∧ if aggOf P t then ∃ xs,x = .ag xs ∧ FitsL ss xs else FitsL ss [x]
theorem arg_fits {n : Nat} {t : TypeId} {v : Value} {d : DataW H} {ps : List MemPlace} {r : Reach} {b0 : Nat} (hs : (shape P n t).isSome = true) (hval : Value.okWide P w r b0 t v) (h : DataW.Trod enc P w base spare held t v d ps) :
 ∃ x,FitsT P n t x ∧ x.rel w (old w) v:=by
 obtain ⟨ss,hss⟩:=Option.isSome_iff_exists.1 hs
 obtain ⟨fuel,hf⟩:=h
 obtain ⟨xs,f,r,o⟩:=trod_fits fuel n t _ _ ss hf hss
 have one : aggOf P t = false → v.cells.toList = [v] → ∃ x,FitsT P n t x ∧ x.rel w (old w) v:=fun ha hc=>by
  rw [hc] at r
  match xs,r with
  | [x], r =>
    simp only [RV.relV] at r
    obtain ⟨u,us,e,hr,_⟩:=r
    injection e with e1 e2
    subst e1
    exact ⟨x,⟨ss,hss,by rw [ha]; exact f⟩,hr⟩
  | [],r=>simp [RV.relV] at r
  | _ :: _ :: _, r =>
    simp only [RV.relV] at r
    obtain ⟨u,us,e,_,u2,us2,e2,_⟩:=r
    injection e with _ e
    rw [e2] at e; cases e
 cases n with
 | zero=>simp [shape] at hss
 | succ n =>
   have hss':=hss
   unfold shape at hss'
   split at hss'
   · rename_i k ht
     obtain ⟨m,rfl⟩:=okWide_int ht hval
     exact one (by simp [aggOf,ht]) rfl
   · rename_i ht
     obtain ⟨b,rfl⟩:=okWide_bool ht hval
     exact one (by simp [aggOf,ht]) rfl
   · rename_i e ht
     obtain ⟨a,l,c,rfl⟩:=okWide_slice ht hval
     exact one (by simp [aggOf,ht]) rfl
   · rename_i m e ht
     obtain ⟨cs,rfl⟩ : ∃ cs,v = .agg cs:=by
      simp only [Value.okWide,ht] at hval
      obtain ⟨cs,h1,_⟩:=hval
      exact ⟨cs,h1⟩
     exact ⟨.ag xs,⟨ss,hss,by simp only [aggOf,ht,if_true]; exact ⟨xs,rfl,f⟩⟩,by simp only [RV.rel]; exact ⟨cs,rfl,o,r⟩⟩
   · rename_i fs ht
     obtain ⟨cs,rfl,_⟩:=okWide_struct ht hval
     exact ⟨.ag xs,⟨ss,hss,by simp only [aggOf,ht,if_true]; exact ⟨xs,rfl,f⟩⟩,by simp only [RV.rel]; exact ⟨cs,rfl,o,r⟩⟩
   · cases hss'
theorem wf_i64 {n : Int} (h : (Lit.int .i64 n).wf = true) : -9223372036854775808 ≤ n ∧ n ≤ 9223372036854775807:=by
 simp only [Lit.wf,Bool.and_eq_true,decide_eq_true_eq] at h
 have h1 : IntKind.min .i64 = -9223372036854775808:=by decide
 have h2 : IntKind.max .i64 = 9223372036854775807:=by decide
 rw [h1,h2] at h
 exact h
theorem fitsE_ints : ∀ {es : List (List RV)},FitsE [.int .i64] es → ∃ l : List Int,es = l.map (fun x=>[.it .i64 x]) ∧ ∀ x ∈ l,-9223372036854775808 ≤ x ∧ x ≤ 9223372036854775807
 | [],_=>⟨[],rfl,by simp⟩
 | e :: es, h => by
   simp only [FitsE,FitsL,Fits] at h
   obtain ⟨⟨y,ys,rfl,⟨n,rfl,hn⟩,rfl⟩,h⟩:=h
   obtain ⟨l,rfl,hl⟩:=fitsE_ints h
   refine ⟨n :: l,rfl,fun x hx=>?_⟩
   rcases List.mem_cons.1 hx with rfl | hx
   · exact wf_i64 hn
   · exact hl x hx
theorem fitsT_ag {n : Nat} {t : TypeId} {x : RV} {ss : List Sh} (h : FitsT P n t x) (hs : shape P n t = some ss) (ha : aggOf P t = true) : ∃ xs,x = .ag xs ∧ FitsL ss xs:=by
 obtain ⟨s',h1,h2⟩:=h
 rw [hs] at h1; injection h1 with h1; subst h1
 rw [ha] at h2
 exact h2
theorem fitsT_one {n : Nat} {t : TypeId} {x : RV} {s : Sh} (h : FitsT P n t x) (hs : shape P n t = some [s]) (ha : aggOf P t = false) : Fits s x:=by
 obtain ⟨s',h1,h2⟩:=h
 rw [hs] at h1; injection h1 with h1; subst h1
 rw [ha] at h2
 simp only [Bool.false_eq_true,if_false,FitsL] at h2
 obtain ⟨y,ys,e,h3,_⟩:=h2
 injection e with e1 e2
 subst e1
 exact h3
theorem fitsT_int {n : Nat} {t : TypeId} {x : RV} (h : FitsT P n t x) (hs : shape P n t = some [.int .i64]) (ha : aggOf P t = false) : ∃ m,x = .it .i64 m ∧ -9223372036854775808 ≤ m ∧ m ≤ 9223372036854775807:=by
 have:=fitsT_one h hs ha
 simp only [Fits] at this
 obtain ⟨m,h1,h2⟩:=this
 exact ⟨m,h1,wf_i64 h2⟩
theorem fitsT_ints {n : Nat} {t : TypeId} {x : RV} (h : FitsT P n t x) (hs : shape P n t = some [.sl [.int .i64]]) (ha : aggOf P t = false) : ∃ l : List Int,x = .sl 1 (l.map (fun x=>[.it .i64 x])) ∧ ∀ x ∈ l,-9223372036854775808 ≤ x ∧ x ≤ 9223372036854775807:=by
 have:=fitsT_one h hs ha
 simp only [Fits] at this
 obtain ⟨es,h1,h2⟩:=this
 obtain ⟨l,rfl,hl⟩:=fitsE_ints h2
 exact ⟨l,h1,hl⟩
end
end Go.Oc

namespace Go.Oc
open Go Go.RowKit
theorem wf_u8 {n : Int} (h : (Lit.int .u8 n).wf = true) : 0 ≤ n ∧ n ≤ 255:=by
 simp only [Lit.wf,Bool.and_eq_true,decide_eq_true_eq] at h
 have h1 : IntKind.min .u8 = 0:=by decide
 have h2 : IntKind.max .u8 = 255:=by decide
 rw [h1,h2] at h
 exact h
theorem wf_u16 {n : Int} (h : (Lit.int .u16 n).wf = true) : 0 ≤ n ∧ n ≤ 65535:=by
 simp only [Lit.wf,Bool.and_eq_true,decide_eq_true_eq] at h
 have h1 : IntKind.min .u16 = 0:=by decide
 have h2 : IntKind.max .u16 = 65535:=by decide
 rw [h1,h2] at h
 exact h
theorem wf_u32 {n : Int} (h : (Lit.int .u32 n).wf = true) : 0 ≤ n ∧ n ≤ 4294967295:=by
 simp only [Lit.wf,Bool.and_eq_true,decide_eq_true_eq] at h
 have h1 : IntKind.min .u32 = 0:=by decide
 have h2 : IntKind.max .u32 = 4294967295:=by decide
 rw [h1,h2] at h
 exact h
theorem fitsE_u8 : ∀ {es : List (List RV)},FitsE [.int .u8] es → ∃ l : List Int,es = l.map (fun x=>[.it .u8 x]) ∧ ∀ x ∈ l,0 ≤ x ∧ x ≤ 255
 | [],_=>⟨[],rfl,by simp⟩
 | e :: es, h => by
   simp only [FitsE,FitsL,Fits] at h
   obtain ⟨⟨y,ys,rfl,⟨n,rfl,hn⟩,rfl⟩,h⟩:=h
   obtain ⟨l,rfl,hl⟩:=fitsE_u8 h
   refine ⟨n :: l,rfl,fun x hx=>?_⟩
   rcases List.mem_cons.1 hx with rfl | hx
   · exact wf_u8 hn
   · exact hl x hx
theorem fitsE_u16 : ∀ {es : List (List RV)},FitsE [.int .u16] es → ∃ l : List Int,es = l.map (fun x=>[.it .u16 x]) ∧ ∀ x ∈ l,0 ≤ x ∧ x ≤ 65535
 | [],_=>⟨[],rfl,by simp⟩
 | e :: es, h => by
   simp only [FitsE,FitsL,Fits] at h
   obtain ⟨⟨y,ys,rfl,⟨n,rfl,hn⟩,rfl⟩,h⟩:=h
   obtain ⟨l,rfl,hl⟩:=fitsE_u16 h
   refine ⟨n :: l,rfl,fun x hx=>?_⟩
   rcases List.mem_cons.1 hx with rfl | hx
   · exact wf_u16 hn
   · exact hl x hx
end Go.Oc

namespace Go.Proofs.Ytgfbenanljjgaaa.Du.Th.Ai
open Go Go.Oc
theorem fitsE_u16 : ∀ {es : List (List RV)},FitsE [.int .u16] es → ∃ l : List Int,es = l.map (fun x=>[.it .u16 x]) ∧ ∀ x ∈ l,0 ≤ x ∧ x ≤ 65535
 | [],_=>⟨[],rfl,by simp⟩
 | e :: es, h => by
   simp only [FitsE,FitsL,Oc.Fits] at h
   obtain ⟨⟨y,ys,rfl,⟨n,rfl,hn⟩,rfl⟩,h⟩:=h
   obtain ⟨l,rfl,hl⟩:=fitsE_u16 h
   refine ⟨n :: l,rfl,fun x hx=>?_⟩
   rcases List.mem_cons.1 hx with rfl | hx
   · exact wf_u16 hn
   · exact hl x hx
theorem fits45 {x : RV} (h : FitsT Try.prog 9 45 x) : ∃ y,x = .ag (rxC y) ∧ WfRx y:=by
 obtain ⟨xs,rfl,hx⟩:=fitsT_ag (ss:=[.sl [.int .u16],.sl [.int .u8],.sl [.int .u8],.int .u8,.int .u8]) h (by kernel_rfl) (by kernel_rfl)
 simp only [Oc.FitsL,Oc.Fits] at hx
 obtain ⟨_,_,rfl,⟨es,rfl,hes⟩,_,_,rfl,⟨es1,rfl,hes1⟩,_,_,rfl,⟨es2,rfl,hes2⟩,_,_,rfl,⟨r,rfl,hr⟩,_,_,rfl,⟨o,rfl,ho⟩,rfl⟩:=hx
 obtain ⟨l,rfl,hl⟩:=fitsE_u16 hes
 obtain ⟨l1,rfl,hl1⟩:=fitsE_u8 hes1
 obtain ⟨l2,rfl,hl2⟩:=fitsE_u8 hes2
 exact ⟨⟨l,l1,l2,r,o⟩,rfl,⟨hl,hl1,hl2,wf_u8 hr,wf_u8 ho⟩⟩
theorem fits75 {x : RV} (h : FitsT Try.prog 9 75 x) : ∃ b0 b1 b2 : Int,x = .ag [.it .u8 b0,.it .u8 b1,.it .u8 b2] ∧ (0 ≤ b0 ∧ b0 ≤ 255) ∧ (0 ≤ b1 ∧ b1 ≤ 255) ∧ (0 ≤ b2 ∧ b2 ≤ 255):=by
 obtain ⟨xs,rfl,hx⟩:=fitsT_ag (ss:=[.int .u8,.int .u8,.int .u8]) h (by kernel_rfl) (by kernel_rfl)
 simp only [Oc.FitsL,Oc.Fits] at hx
 obtain ⟨_,_,rfl,⟨a,rfl,ha⟩,_,_,rfl,⟨b,rfl,hb⟩,_,_,rfl,⟨c,rfl,hc⟩,rfl⟩:=hx
 exact ⟨a,b,c,rfl,wf_u8 ha,wf_u8 hb,wf_u8 hc⟩
theorem fits43 {x : RV} (h : FitsT Try.prog 9 43 x) : ∃ l : List Int,x = u8s l ∧ ∀ n ∈ l,0 ≤ n ∧ n ≤ 255:=by
 have:=fitsT_one (s:=.sl [.int .u8]) h (by kernel_rfl) (by kernel_rfl)
 simp only [Oc.Fits] at this
 obtain ⟨es,rfl,hes⟩:=this
 obtain ⟨l,rfl,hl⟩:=fitsE_u8 hes
 exact ⟨l,rfl,hl⟩
end Go.Proofs.Ytgfbenanljjgaaa.Du.Th.Ai

namespace Go.Proofs.Ytgfbenanljjgaaa
open Go Go.Oc
theorem law4' {x0 x1 : RV} (h0 : FitsT Try.prog 9 45 x0) (h1 : FitsT Try.prog 9 43 x1) : ACalls Try.prog 4 [x0,x1] (.bo true):=by
 obtain ⟨x,rfl,hx⟩:=Du.Th.Ai.fits45 h0
 obtain ⟨bs,rfl,hb⟩:=Du.Th.Ai.fits43 h1
 exact Du.Th.Ai.law_enough hx hb
end Go.Proofs.Ytgfbenanljjgaaa


namespace Go.Proofs.Ytgfbenanljjgaaa
open Go Go.Oc Go.ChangeShapes Go.WideShapes Go.RowKit
set_option linter.unusedVariables false
theorem own : ownKnob Try.prog.godebug = none := by kernel_rfl
theorem laidOut : laidOutB Try.prog = true := by kernel_rfl
set_option maxRecDepth 100000 in
theorem lifted (os : Os) (started : os.Started) (H : Type) (enc : TypeId × Value → H) :
    ReturnsInHanded {} Try.checked os 4 .any (Rows.aimEnoughSpec.pre6 enc Try.prog Try.f4 Rows.aimEnoughRow.domain false) (Rows.aimEnoughSpec.post enc Try.prog Try.f4 false true false false) := by
  refine returnsInHanded_of_change (C := Try.checked) own started (by kernel_rfl) Try.func4
    (ChangeSpec.witness6 (enc := enc) (C := Try.checked) false ⟨#[], #[.agg #[.slice none 0 0, .slice none 0 0, .slice none 0 0, .int .u8 0, .int .u8 0], .slice none 0 0], []⟩ 8 (by kernel_rfl) (by kernel_rfl) (by kernel_rfl) (by kernel_rfl)) ?_
  intro W base args ds gs before hval0 hW hcnd _
  have hval : ∀ (j : Nat) t v, Try.f4.params[j]? = some t → args[j]? = some v → Value.okWide Try.prog W .any base t v := hval0
  have hW' := hW
  obtain ⟨p, q, hA0, hV, rfl, hfz, hnd⟩ := hW
  have hA : DataW.TrodAll enc Try.prog W 0 (fun _ => true) true Try.f4.params.toList args.toList ds p := hA0
  rw [Try.params4] at hA hval
  obtain ⟨v0, vs0, d0, ds0, p0, q0, hargs, rfl, rfl, h0, r0⟩ := trodAll_cons hA
  obtain ⟨v1, vs1, d1, ds1, p1, q1, rfl, rfl, rfl, h1, r1⟩ := trodAll_cons r0
  obtain ⟨rfl, rfl, rfl⟩ := trodAll_nil r1
  obtain rfl : args = #[v0, v1] := by cases args; simp_all
  obtain ⟨rfl, rfl⟩ := trodVars_none hV
  have lt0 : ∀ x ∈ p0, x.block < W.heap.size := by obtain ⟨m, hm⟩ := h0; exact DataW.trod_lt m _ _ _ hm
  have lt1 : ∀ x ∈ p1, x.block < W.heap.size := by obtain ⟨m, hm⟩ := h1; exact DataW.trod_lt m _ _ _ hm
  obtain ⟨x0, g0, e0⟩ := arg_fits (n := 9) (by kernel_rfl) (hval 0 45 v0 rfl rfl) h0
  obtain ⟨x1, g1, e1⟩ := arg_fits (n := 9) (by kernel_rfl) (hval 1 43 v1 rfl rfl) h1
  clear hA0 hval0
  refine ((law4' g0 g1).2 W (old W) #[v0, v1] (fun _ h => h) (by simp only [RV.relV]; exact ⟨_, _, rfl, e0, _, _, rfl, e1, rfl⟩)).mono fun e W' he => ?_
  obtain ⟨v, R', rfl, bel, _, _, _, hr⟩ := he
  simp only [RV.rel] at hr
  subst hr
  exact ⟨_, rfl, _, _, _, [], _, [], hW', trodAll_mk1 (shut_bool Try.underlying4 _), (trodAll_cons_mk (Below.trod laidOut (by kernel_rfl) (of_decide_eq_true (by kernel_rfl)) h0 bel lt0) (trodAll_cons_mk (Below.trod laidOut (by kernel_rfl) (of_decide_eq_true (by kernel_rfl)) h1 bel lt1) trodAll_mk0)), rfl, bel.frame _, fun h => by cases h⟩
theorem over : Rows.aimEnoughRow.holds Try.pinned (OpenSpec.ofChange Rows.aimEnoughSpec) :=
  OpenClaim.holds_of_wide 4 Try.f4 rfl rfl rfl rfl rfl rfl rfl ⟨rfl, rfl, rfl, rfl, rfl⟩ rfl rfl rfl rfl rfl (by kernel_rfl) Try.func4 (by kernel_rfl)
    (of_decide_eq_true (by kernel_rfl)) (by unfold Func.isWrapper; first | (rw [if_pos (by decide +kernel)]; kernel_rfl) | (rw [if_neg (by decide +kernel)]; exact ⟨rfl, rfl⟩))
    (fun os started H enc _ => lifted os started H enc)
theorem aimEnough_holds : Rows.AimEnoughSaid := over
#print axioms aimEnough_holds
end Go.Proofs.Ytgfbenanljjgaaa

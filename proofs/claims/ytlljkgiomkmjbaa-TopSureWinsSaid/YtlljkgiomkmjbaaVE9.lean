/- Part 9 of the texts of this claim. -/
import Derived.Test.YtlljkgiomkmjbaaVE8
namespace Go.Proofs.Ytlljkgiomkmjbaa.Du
open Go Go.Oc
set_option linter.unusedSimpArgs false
set_option linter.unusedVariables false
set_option maxRecDepth 8000
set_option maxHeartbeats 4000000
theorem span_mk (a b : Int) : ACalls Try.prog 10 [i64 a,i64 b] (.ag [i64 a,i64 b]):=by
 refine acalls_st (rs:=[.ag [i64 a,i64 b]]) [.cell 4 30] Try.func10 rfl (by kernel_rfl) Try.ntmps10 rfl (by simp) rfl fun C vs=>?_
 repeat refine zq ?_
 refine zb fun K hK=>?_;simp only [go_sem];(try simp (disch:=omega) only [zI]);repeat first | intro _ | refine ⟨by omega,?_⟩
 refine hK _ ?_;clear hK K;refine zw (zk [0,1,4]) ?_;simp only [go_sem]
 repeat refine zq ?_
 refine zb fun K hK=>?_;simp only [go_sem];(try simp (disch:=omega) only [zI]);repeat first | intro _ | refine ⟨by omega,?_⟩
 refine hK _ ?_;clear hK K;refine zw (zk [4]) ?_;simp only [go_sem];refine ze ?_;simp only [go_sem]
def aimJ (d : Int) (A : List (List Nat)) (j : Nat) : Am:=if A.length = 0 then ⟨201,headD d []⟩ else scA d (A.getD j [])
def aimsJ (d : Int) (A : List (List Nat)) (i : Nat) : List Am:=(List.range i).map (aimJ d A)
def vI (b : Nat → Bool) (j : Nat) (v : AV) : AV:=if b j then v else .r .un
def sgF (A0 : RV) (i k P n : Nat) (lf lo hi bd : Int) (M : List (List RV)) (b : Nat → Bool) (vs : Nat → Nat) : List (Nat × AV) :=
 [(1,.r A0),(4,.pt 4 (vs 4) 0),(5,.pt 5 (vs 5) 0),(6,.r (i64 (i : Int))),(7,.pt 7 (vs 7) 0),(8,.r (i64 (bif b 19 then lf - lo else lf))),(9,.r (i64 (k : Int))),(11,.r (i64 (P : Int))),(14,.r (i64 lo)),(15,.r (.rp [i64 bd,i64 lo,i64 hi])),
  (119,vI b 0 (.r .ns)),
  (120,vI b 1 (.pt 7 (vs 7) 1)),
  (121,vI b 2 (.r (.sl 3 M))),
  (122,vI b 3 (.r (i64 (P : Int)))),
  (123,vI b 4 (.r (.sl 3 (M.take P)))),
  (124,vI b 5 (bif b 8 then .r .un else .os 124 (vs 124) 3 0 P)),
  (125,vI b 6 (.r (.ag [i64 bd,i64 lo,i64 hi]))),
  (126,vI b 7 (.r (.sl 3 [[i64 bd,i64 lo,i64 hi]]))),
  (127,vI b 8 (bif b 13 then .r .un else .os 124 (vs 124) 3 0 (P + 1))),
  (128,vI b 9 (.pt 7 (vs 7) 1)),
  (129,vI b 10 (.r (.sl 3 M))),
  (130,vI b 11 (.r (i64 (P : Int)))),
  (131,vI b 12 (.r (.sl 3 (M.drop P)))),
  (132,vI b 13 (.os 124 (vs 124) 3 0 (P + 1 + (n - P)))),
  (133,vI b 14 (.r (i64 lf))),
  (134,vI b 15 (.r (i64 lo))),
  (135,vI b 16 (.r (i64 (lf - lo)))),
  (136,vI b 17 (.pt 7 (vs 7) 1))]
def sgR (D i P n : Nat) (lo hi bd : Int) (M : List (List RV)) (JR : List (List RV)) (b : Nat → Bool) (vs : Nat → Nat) : List (Nat × RowC) :=
 [(4,.box [.r (i64 0),.r .ns]),(5,.box [.r (i64 (D : Int)),.os 155 (vs 155) 2 0 i]),(7,.box [.r (i64 201),bif b 18 then .os 124 (vs 124) 3 0 (P + 1 + (n - P)) else .r (.sl 3 M)])] ++
  ((bif b 5 then [(124,.arr 83 3 (bif b 8 then (bif b 13 then M.take P ++ ([i64 bd,i64 lo,i64 hi] :: M.drop P) else M.take P ++ [[i64 bd,i64 lo,i64 hi]]) else M.take P))] else []) ++ [(155,.arr 81 2 JR)])
theorem one_mk (n : Int) : ACalls Try.prog 11 [i64 n] (.ag [i64 n,i64 n]):=by
 refine acalls_st (rs:=[.ag [i64 n,i64 n]]) [.cell 2 30] Try.func11 rfl (by kernel_rfl) Try.ntmps11 rfl (by simp) rfl fun C vs=>?_
 repeat refine zq ?_
 refine zb fun K hK=>?_;simp only [go_sem];(try simp (disch:=omega) only [zI]);repeat first | intro _ | refine ⟨by omega,?_⟩
 refine hK _ ?_;clear hK K;refine zw (zk [0,2]) ?_;simp only [go_sem]
 repeat refine zq ?_
 refine zb fun K hK=>?_;simp only [go_sem];(try simp (disch:=omega) only [zI]);repeat first | intro _ | refine ⟨by omega,?_⟩
 refine hK _ ?_;clear hK K;refine zw (zk [2]) ?_;simp only [go_sem];refine ze ?_;simp only [go_sem]
def rndL (n : Nat) : List Sp:=List.replicate (n - 1) (0,0) ++ [(1000000,1000000)]
theorem rounds_ok (n : Nat) (h1 : 1 ≤ n) (h2 : n ≤ 100) : ACalls Try.prog 26 [i64 (n : Int)] (spansR (rndL n)):=by
 have ho:=one_mk 1000000
 refine acalls_st (rs:=[spansR (rndL n)]) [.tmp 2] Try.func26 rfl (by kernel_rfl) Try.ntmps26 rfl (by simp) rfl fun C vs=>?_
 repeat refine zq ?_
 refine zb fun K hK=>?_;simp only [go_sem];(try simp (disch:=omega) only [zI]);repeat first | intro _ | refine ⟨by omega,?_⟩
 refine hK _ ?_;clear hK K;refine zw (zk [0,2]) ?_;simp only [go_sem]
 repeat refine zq ?_
 refine zb fun K hK=>?_;simp only [go_sem];(try simp (disch:=omega) only [zI]);repeat first | intro _ | refine ⟨by omega,?_⟩
 refine hK _ ?_;clear hK K;refine zw (sub_own 3 14 30 2 (by omega) rfl) ?_;refine zw (zk [0,2,3]) ?_;simp only [go_sem]
 repeat refine zq ?_
 refine zb fun K hK=>?_;simp only [go_sem];(try simp (disch:=omega) only [zI]);repeat first | intro _ | refine ⟨by omega,?_⟩
 refine hK _ ?_;clear hK K;refine zw (zk [0,2,3,4]) ?_;simp only [go_sem]
 repeat refine zq ?_
 refine zd ?_
 refine awp_uptoV (n:=19) (n - 1) (fun i vs=>[(0,.r (i64 (n : Int))),(3,.os 14 (vs 14) 2 0 i),(4,.r (i64 ((i : Int) + 1)))])
  (fun i vs=>[(14,.arr 30 2 ((List.replicate i ((0,0) : Sp)).map spanR))]) (fun _=>True) 0 (zj [] ?_ ?_) (Nat.zero_le _) trivial ?_
 · try simp only [go_sem]
   try rfl
 · try simp only [go_sem]
   try rfl
 · intro i vs hi _
   have hr : List.replicate (i + 1) ((0,0) : Sp) = List.replicate i (0,0) ++ [(0,0)]:=List.replicate_succ'
   have hrl : (List.replicate i ((0,0) : Sp)).length = i:=List.length_replicate
   rw [hr]
   by_cases hin : i < n - 1
   · have d1 : decide ((i : Int) + 1 < (n : Int)) = true:=decide_eq_true (by omega)
     generalize List.replicate i ((0,0) : Sp) = L at *
     repeat refine zq ?_
     refine zb fun K hK=>?_;simp only [go_sem,d1];(try simp (disch:=omega) only [zI]);repeat first | intro _ | refine ⟨by omega,?_⟩
     refine hK _ ?_;clear hK K;refine zw (zk [0,3,4,8]) ?_;simp only [go_sem]
     repeat refine zq ?_
     refine zc rfl (fun hc=>?_) (fun hc=>?_) <;> (try simp only [go_sem] at hc)
     refine zx ?_
     try simp only [go_sem]
     repeat refine zq ?_
     refine zd ?_
     repeat refine zq ?_
     refine zb fun K hK=>?_;simp only [go_sem,hrl,List.length_map];(try simp (disch:=omega) only [zI]);repeat first | intro _ | refine ⟨by omega,?_⟩
     refine hK _ ?_;clear hK K;refine zw (zk [0,3,4]) ?_;simp only [go_sem]
     repeat refine zq ?_
     refine zb fun K hK=>?_;simp only [go_sem];(try simp (disch:=omega) only [zI]);repeat first | intro _ | refine ⟨by omega,?_⟩
     refine hK _ ?_;clear hK K
     try simp only [go_sem]
     refine ⟨by omega,zj [] ?_ ?_⟩
     · try simp only [go_sem]
     · try simp only [go_sem]
       simp only [List.map_append,List.map_cons,List.map_nil,spanR]
   · have hin2 : i = n - 1:=by omega
     have d1 : decide ((i : Int) + 1 < (n : Int)) = false:=decide_eq_false (by omega)
     have hR : rndL n = List.replicate i (0,0) ++ [(1000000,1000000)]:=by unfold rndL; rw [hin2]
     rw [hR]
     generalize List.replicate i ((0,0) : Sp) = L at *
     repeat refine zq ?_
     refine zb fun K hK=>?_;simp only [go_sem,d1];(try simp (disch:=omega) only [zI]);repeat first | intro _ | refine ⟨by omega,?_⟩
     refine hK _ ?_;clear hK K;refine zw (zk [0,3,4,8]) ?_;simp only [go_sem]
     repeat refine zq ?_
     refine zc rfl (fun hc=>?_) (fun hc=>?_) <;> (try simp only [go_sem] at hc)
     refine zf ?_;simp only [go_sem]
     repeat refine zq ?_
     refine zb fun K hK=>?_;simp only [go_sem];(try simp (disch:=omega) only [zI])
     refine zh (ho) rfl (by simp only [go_sem,i64,ints,hrl,List.length_map]) (by simp only [go_sem,i64,ints,hrl,List.length_map]) (by first | exact .inl rfl | exact .inr rfl) ?_
     (try simp only [go_sem,hrl,List.length_map]);(try simp (disch:=omega) only [zI]);repeat first | intro _ | refine ⟨by omega,?_⟩
     repeat first | intro _ | refine ⟨by omega,?_⟩
     refine hK _ ?_;clear hK K;refine zw (sub_frz (ty:=30) (sz:=2) (off:=0) (m:=i + 1) (es:=L.map spanR ++ [[i64 1000000,i64 1000000]]) 2 14 (by omega) rfl (by rfl) (by simp [hrl])) ?_;refine zw (zk [2]) ?_;simp only [go_sem]
     have tk : List.take (i + 1) (L.map spanR ++ [[i64 1000000,i64 1000000]]) = L.map spanR ++ [[i64 1000000,i64 1000000]]:=List.take_of_length_le (by simp [hrl])
     try rw [tk]
     refine ze ?_;simp only [go_sem]
     try simp only [List.map_append,List.map_cons,List.map_nil,spanR]
     try rfl
def popB (g b : Int) : Bool:=(b != 0) && (((g == 0) || (b / 100 == 2)) || ((g == 2) && decide (2 < b / 100)))
def endB (g : Int) (bs : List Int) : Nat → Int → Bool
 | 0,s=>s == 0
 | d + 1,s=>s == 0 || (throwsO g s bs).any fun x=>endB g bs d x.2
theorem end_mono {g : Int} {bs : List Int} : ∀ {d : Nat} {s : Int},endB g bs d s = true → endB g bs (d + 1) s = true
 | 0, s, h => by
   unfold endB at h ⊢
   rw [h]; rfl
 | d + 1, s, h => by
   unfold endB at h ⊢
   rw [Bool.or_eq_true,List.any_eq_true] at h ⊢
   rcases h with h | ⟨x,hx,hd⟩
   · exact .inl h
   · exact .inr ⟨x,hx,end_mono hd⟩
theorem end_le {g : Int} {bs : List Int} {d e : Nat} {s : Int} (h : endB g bs d s = true) (hde : d ≤ e) : endB g bs e s = true:=by
 induction e with
 | zero=>rw [show (0 : Nat) = d by omega]; exact h
 | succ e ih =>
   by_cases c : d ≤ e
   · exact end_mono (ih c)
   · rw [show e + 1 = d by omega]; exact h
theorem best_spec {l : List Int} (h : ∀ x ∈ l,-1 ≤ x) : ∀ (n : Nat) (T : List (Int × Int)),T.length = n → (bestF l T = -1 ∧ ∀ x ∈ T,l.getD x.2.toNat 0 = -1) ∨
 (0 ≤ bestF l T ∧ (∃ x ∈ T,l.getD x.2.toNat 0 ≠ -1 ∧ bestF l T = l.getD x.2.toNat 0 + 1) ∧ ∀ y ∈ T,l.getD y.2.toNat 0 ≠ -1 → bestF l T ≤ l.getD y.2.toNat 0 + 1)
 | 0, T, hn => by
   rw [List.length_eq_zero_iff.1 hn]
   exact .inl ⟨rfl,by simp⟩
 | n + 1, T, hn => by
   have hne : T ≠ []:=fun e=>by subst e; simp at hn
   obtain ⟨U,x,rfl⟩ : ∃ U x,T = U ++ [x]:=⟨T.dropLast,T.getLast hne,(List.dropLast_concat_getLast hne).symm⟩
   have hU : U.length = n:=by simp at hn; omega
   have ih:=best_spec h n U hU
   rw [best_snoc]
   have hx : -1 ≤ l.getD x.2.toNat 0:=by
    rw [List.getD_eq_getElem?_getD]
    cases e : l[x.2.toNat]? with
    | none=>simp
    | some y=>exact h y (mem_of_opt e)
   unfold stepB
   rcases ih with ⟨i1,i2⟩ | ⟨i1,⟨z,iz,i2,i3⟩,i4⟩
   · by_cases c : l.getD x.2.toNat 0 = -1
     · rw [if_neg (fun hh=>hh.1 c)]
       exact .inl ⟨i1,fun y hy=>by
        rw [List.mem_append,List.mem_singleton] at hy
        rcases hy with hy | rfl
        · exact i2 y hy
        · exact c⟩
     · rw [if_pos ⟨c,.inl i1⟩]
       refine .inr ⟨by omega,⟨x,by simp,c,rfl⟩,fun y hy hc=>?_⟩
       rw [List.mem_append,List.mem_singleton] at hy
       rcases hy with hy | rfl
       · exact absurd (i2 y hy) hc
       · exact Int.le_refl _
   · right
     by_cases c : l.getD x.2.toNat 0 ≠ -1 ∧ (bestF l U = -1 ∨ l.getD x.2.toNat 0 + 1 < bestF l U)
     · rw [if_pos c]
       refine ⟨by omega,⟨x,by simp,c.1,rfl⟩,fun y hy hc=>?_⟩
       rw [List.mem_append,List.mem_singleton] at hy
       rcases hy with hy | rfl
       · have:=i4 y hy hc; omega
       · exact Int.le_refl _
     · rw [if_neg c]
       refine ⟨i1,⟨z,by simp [iz],i2,i3⟩,fun y hy hc=>?_⟩
       rw [List.mem_append,List.mem_singleton] at hy
       rcases hy with hy | rfl
       · exact i4 y hy hc
       · omega
theorem few_get {g : Int} {bs : List Int} {s : Nat} : ∀ {n : Nat},s ≤ n → (fewO g bs n).getD s 0 = (fewO g bs s).getD s 0
 | 0,h=>by rw [show s = 0 by omega]
 | n + 1, h => by
   by_cases c : s = n + 1
   · rw [c]
   · have hl:=few_len g bs n
     rw [show fewO g bs (n + 1) = fewO g bs n ++ [bestF (fewO g bs n) (throwsO g ((n + 1 : Nat) : Int) bs)] from rfl,List.getD_eq_getElem?_getD,List.getElem?_append_left (by omega),← List.getD_eq_getElem?_getD]
     exact few_get (by omega)
theorem few_step {g : Int} {bs : List Int} (n : Nat) : (fewO g bs (n + 1)).getD (n + 1) 0 = bestF (fewO g bs n) (throwsO g ((n + 1 : Nat) : Int) bs):=by
 have hl:=few_len g bs n
 rw [show fewO g bs (n + 1) = fewO g bs n ++ [bestF (fewO g bs n) (throwsO g ((n + 1 : Nat) : Int) bs)] from rfl,List.getD_eq_getElem?_getD,List.getElem?_append_right (by omega),hl,Nat.sub_self]; rfl
theorem few_spec {g : Int} {bs : List Int} (hB : ∀ b ∈ bs,bedOk b = true) : ∀ (N s : Nat),s ≤ N → ∀ d,endB g bs d s = true ↔ (0 ≤ (fewO g bs s).getD s 0 ∧ (fewO g bs s).getD s 0 ≤ d)
 | N, 0, _, d => by
   have h1 : endB g bs d 0 = true:=by
    cases d with
    | zero=>rfl
    | succ d=>unfold endB; rfl
   have h2 : (fewO g bs 0).getD 0 0 = 0:=rfl
   rw [h2]
   constructor
   · intro _; omega
   · intro _; exact h1
 | 0,s + 1,h,d=>by omega
 | N + 1, s + 1, h, d => by
   rw [few_step]
   have hle : ∀ x ∈ fewO g bs s,-1 ≤ x:=fun x hx=>(few_le g bs s x hx).1
   have hT:=fun x (hx : x ∈ throwsO g ((s + 1 : Nat) : Int) bs)=>throws_mem hB hx
   have hsub : ∀ x ∈ throwsO g ((s + 1 : Nat) : Int) bs,∀ d,endB g bs d x.2 = true ↔ (0 ≤ (fewO g bs s).getD x.2.toNat 0 ∧ (fewO g bs s).getD x.2.toNat 0 ≤ d):=fun x hx d=>by
    obtain ⟨_,q1,q2,_⟩:=hT x hx
    have ih:=few_spec (g:=g) hB N x.2.toNat (by omega) d
    rw [few_get (s:=x.2.toNat) (n:=s) (by omega),← ih,show ((x.2.toNat : Nat) : Int) = x.2 by omega]
   have hz : (((s + 1 : Nat) : Int) == 0) = false:=by rw [beq_eq_false_iff_ne]; omega
   rcases best_spec hle _ (throwsO g ((s + 1 : Nat) : Int) bs) rfl with ⟨b1,b2⟩ | ⟨b1,⟨z,hzm,b2,b3⟩,b4⟩
   · rw [b1]
     constructor
     · intro he
       exfalso
       cases d with
       | zero=>unfold endB at he; rw [hz] at he; cases he
       | succ d =>
         unfold endB at he
         rw [hz,Bool.false_or,List.any_eq_true] at he
         obtain ⟨x,hx,hd⟩:=he
         have:=(hsub x hx d).1 hd
         rw [b2 x hx] at this
         omega
     · intro hh; omega
   · constructor
     · intro he
       cases d with
       | zero=>unfold endB at he; rw [hz] at he; cases he
       | succ d =>
         unfold endB at he
         rw [hz,Bool.false_or,List.any_eq_true] at he
         obtain ⟨x,hx,hd⟩:=he
         have q:=(hsub x hx d).1 hd
         have:=b4 x hx (by omega)
         omega
     · intro hh
       cases d with
       | zero =>
         have hzl : -1 ≤ (fewO g bs s).getD z.2.toNat 0:=by
          rw [List.getD_eq_getElem?_getD]
          cases e : (fewO g bs s)[z.2.toNat]? with
          | none=>simp
          | some y=>exact hle y (mem_of_opt e)
         omega
       | succ d =>
         unfold endB
         rw [hz,Bool.false_or,List.any_eq_true]
         have hzl : -1 ≤ (fewO g bs s).getD z.2.toNat 0:=by
          rw [List.getD_eq_getElem?_getD]
          cases e : (fewO g bs s)[z.2.toNat]? with
          | none=>simp
          | some y=>exact hle y (mem_of_opt e)
         exact ⟨z,hzm,(hsub z hzm d).2 (by omega)⟩
def sureA (b : Int) : Am:=⟨b,[⟨b,1,1⟩]⟩
def sureL (bs : List Int) : List Am:=bs.map sureA
def suR (bs : List Int) (st g : Int) (n : Nat) : Ru:=⟨1,sureL bs,st,g,rndL n⟩
theorem sure_aim {b : Int} (h : bedOk b = true) : aimOk 1 (sureA b) = true:=by
 unfold aimOk sureA
 simp only [h,Bool.true_and,Bool.and_eq_true,decide_eq_true_eq]
 refine ⟨⟨⟨⟨rfl,?_⟩,?_⟩,?_⟩,?_⟩
 · simp [seqOk,h]
 · simp [chOk]
 · simp [loS]
 · simp [hiS]
theorem sure_chk {bs : List Int} (hB : ∀ b ∈ bs,bedOk b = true) (hl : 1 ≤ bs.length ∧ bs.length ≤ 10) : checkV 1 (sureL bs) = 0:=by
 have hne : bs ≠ []:=fun e=>by subst e; simp at hl
 unfold checkV
 rw [if_neg,if_neg,if_pos]
 · rw [List.all_eq_true]
   intro a ha
   obtain ⟨b,hb,rfl⟩:=List.mem_map.1 ha
   exact sure_aim (hB b hb)
 · simp [sureL,hne]
 · simp [sureL,sureA]; omega
theorem rnd_get (n k : Nat) (hk : k < n) : (rndL n).getD k (0,0) = if k + 1 = n then (1000000,1000000) else (0,0):=by
 unfold rndL
 rw [List.getD_eq_getElem?_getD]
 split
 · rw [List.getElem?_append_right (by simp; omega)]
   simp [show k - (n - 1) = 0 by omega]
 · rw [List.getElem?_append_left (by simp; omega),List.getElem?_replicate,if_pos (by omega)]; rfl
theorem rnd_len (n : Nat) (h : 1 ≤ n) : (rndL n).length = n:=by unfold rndL; simp; omega
theorem su_ok {bs : List Int} {st g : Int} {n : Nat} (hB : ∀ b ∈ bs,bedOk b = true) (hl : 1 ≤ bs.length ∧ bs.length ≤ 10) (hs : 2 ≤ st ∧ st ≤ 40) (hg : 0 ≤ g ∧ g ≤ 2) (hn : 1 ≤ n ∧ n ≤ 10) : ruE (suR bs st g n) = 0:=by
 refine ruE_of (sure_chk hB hl) hs hg ?_ ?_ ?_
 · have:=rnd_len n hn.1
   simp only [suR]; omega
 · intro x hx
   simp only [suR,rndL,List.mem_append,List.mem_singleton] at hx
   rcases hx with hx | rfl
   · rw [List.eq_of_mem_replicate hx]; decide
   · decide
 · unfold lastE
   simp only [suR];rw [rnd_len n hn.1,rnd_get n (n - 1) (by omega),if_pos (by omega)]
theorem sure_mean {most : Bool} {f : Int → Int} {b : Int} : meanD most 1 (Go.Proofs.Ytlljkgiomkmjbaa.Du.chW f (sureA b).beds) = f b:=by
 have hs : sortN (ltD most) [⟨f b,1,1⟩] = [⟨f b,1,1⟩]:=rfl
 have e : Go.Proofs.Ytlljkgiomkmjbaa.Du.chW f (sureA b).beds = [⟨f b,1,1⟩]:=rfl
 rw [e]
 unfold meanD
 rw [hs]
 cases most <;> simp [fillG,loS,loV,overD]
theorem sure_means {most : Bool} {bs : List Int} {st g : Int} {n : Nat} {f : Int → Int} : meansV (suR bs st g n) most f = bs.map f:=by
 unfold meansV
 simp only [suR,sureL,List.map_map];exact List.map_congr_left fun b _=>sure_mean
theorem throws_in {g s : Int} {bs : List Int} {b : Int} (hb : b ∈ bs) (h1 : (afterO g s b).2 = true) (h2 : 0 < s) : (b,(afterO g s b).1) ∈ throwsO g s bs:=by
 unfold throwsO
 refine List.mem_filterMap.2 ⟨b,hb,?_⟩
 rw [if_pos (by simp [h1,h2])]
theorem throws_ok2 {g s : Int} {bs : List Int} {x : Int × Int} (h : x ∈ throwsO g s bs) : (afterO g s x.1).2 = true:=by
 unfold throwsO at h
 obtain ⟨b,_,e⟩:=List.mem_filterMap.1 h
 split at e
 · rename_i hc
   injection e with e
   subst e
   simp only [Bool.and_eq_true] at hc
   exact hc.1
 · cases e
abbrev nxS (bs : List Int) (st g : Int) (n : Nat) (most : Bool) (T : List (List Int)) (k s : Nat) (val : Nat → Int) (last : Bool) (left : Nat) (b : Int) : Int:=nextV (suR bs st g n) most T k s val last left b
theorem next_cases {bs : List Int} {st g : Int} {n : Nat} {b : Int} (hb : b ∈ bs) (hv : bedOk b = true) {left : Nat} (hl : 1 ≤ left) (most : Bool) (T : List (List Int)) (k s : Nat) (val : Nat → Int) (last : Bool) :
 ((b,(0 : Int)) ∈ throwsO g left bs ∧ nxS bs st g n most T k s val last left b = 1000000) ∨
 ((afterO g left b).2 = false ∧ nxS bs st g n most T k s val last left b = afterD (suR bs st g n) most T k s) ∨
 (∃ y : Nat,(b,(y : Int)) ∈ throwsO g left bs ∧ lowestR (suR bs st g n) ≤ (y : Int) ∧ y < left ∧ nxS bs st g n most T k s val last left b = if last = true then afterD (suR bs st g n) most T k y else val y):=by
 have hp:=bedOk_pos hv
 have hd : decide (0 < scoreOf b) = true:=decide_eq_true hp
 have hlow : lowestR (suR bs st g n) = if g = 0 then 1 else 2:=rfl
 unfold nxS nextV
 have hin:=throws_in (g:=g) (s:=(left : Int)) (bs:=bs) (b:=b) hb
 unfold afterO at hin ⊢
 rw [hd,Bool.true_and,Bool.true_and]
 by_cases c0 : (left : Int) - scoreOf b = 0
 · rw [if_pos c0] at hin ⊢
   have hd0 : decide ((left : Int) - scoreOf b = 0) = true:=decide_eq_true c0
   rw [hd0,Bool.true_and]
   have hout : (suR bs st g n).out = g:=rfl
   rw [hout]
   cases ho : opensD g b with
   | true =>
     rw [ho] at hin
     exact .inl ⟨hin rfl (by omega),by rw [if_pos rfl]⟩
   | false =>
     right; left
     refine ⟨rfl,?_⟩
     rw [if_neg (by simp),if_pos]
     rw [decide_eq_true_eq,c0,hlow]
     split <;> omega
 · rw [if_neg c0] at hin ⊢
   have hd0 : decide ((left : Int) - scoreOf b = 0) = false:=decide_eq_false c0
   rw [hd0,Bool.false_and,if_neg (by simp)]
   by_cases cl : (left : Int) - scoreOf b < lowestR (suR bs st g n)
   · right; left
     have hdl : decide ((left : Int) - scoreOf b < lowestR (suR bs st g n)) = true:=decide_eq_true cl
     rw [hdl,if_pos rfl]
     refine ⟨?_,rfl⟩
     rw [hlow] at cl
     by_cases c1 : (left : Int) - scoreOf b = 1
     · rw [if_pos c1]
       by_cases cg : g = 0
       · rw [if_pos cg] at cl; omega
       · simp [cg]
     · rw [if_neg c1]
       simp only [decide_eq_false_iff_not]
       split at cl <;> omega
   · right; right
     have hdl : decide ((left : Int) - scoreOf b < lowestR (suR bs st g n)) = false:=decide_eq_false cl
     have hl1 : 1 ≤ lowestR (suR bs st g n):=by rw [hlow]; split <;> omega
     refine ⟨((left : Int) - scoreOf b).toNat,?_,by omega,by omega,?_⟩
     · have e : ((((left : Int) - scoreOf b).toNat : Nat) : Int) = (left : Int) - scoreOf b:=by omega
       rw [e]
       by_cases c1 : (left : Int) - scoreOf b = 1
       · rw [if_pos c1] at hin
         rw [c1]
         refine hin ?_ (by omega)
         rw [hlow] at cl
         by_cases cg : g = 0
         · simp [cg]
         · rw [if_neg cg] at cl; omega
       · rw [if_neg c1] at hin
         exact hin (by simp only [decide_eq_true_eq]; omega) (by omega)
     · rw [hdl,if_neg (by simp)]
theorem val_sure {bs : List Int} {st : Nat} {g : Int} {n : Nat} (hB : ∀ b ∈ bs,bedOk b = true) (hne : bs ≠ []) {most : Bool} {T : List (List Int)} {k s M : Nat} (hs : lowestR (suR bs st g n) ≤ (s : Int) ∧ s ≤ st)
 (hA : ∀ y : Nat,lowestR (suR bs st g n) ≤ (y : Int) → y ≤ st → afterD (suR bs st g n) most T k y = if endB g bs M y = true then 1000000 else 0) :
 ∀ (d left : Nat), lowestR (suR bs st g n) ≤ (left : Int) → left ≤ st →
   (endB g bs (d + 1 + M) left = true → valV (suR bs st g n) most T k s (d + 1) left = 1000000) ∧
   (valV (suR bs st g n) most T k s (d + 1) left = 0 ∨ (valV (suR bs st g n) most T k s (d + 1) left = 1000000 ∧ (endB g bs (d + 1 + M) left = true ∨ endB g bs M s = true)))
 | d, left, h1, h2 => by
   have hlow : 1 ≤ lowestR (suR bs st g n):=by unfold lowestR; split <;> omega
   have hl1 : 1 ≤ left:=by omega
   have hz : (((left : Nat) : Int) == 0) = false:=by rw [beq_eq_false_iff_ne]; omega
   have hval : valV (suR bs st g n) most T k s (d + 1) left = maxL (bs.map (nxS bs st g n most T k s (valV (suR bs st g n) most T k s d) (decide (d = 0)) left)):=by
    show maxL (meansV _ _ _) = _
    rw [sure_means]
   have hstep : ∀ x ∈ throwsO g left bs,endB g bs (d + M) x.2 = true → endB g bs (d + 1 + M) left = true:=fun x hx he=>by
    rw [show d + 1 + M = (d + M) + 1 by omega]
    unfold endB
    rw [hz,Bool.false_or,List.any_eq_true]
    exact ⟨x,hx,he⟩
   have hBv : ∀ b ∈ bs,nxS bs st g n most T k s (valV (suR bs st g n) most T k s d) (decide (d = 0)) left b = 0 ∨ (nxS bs st g n most T k s (valV (suR bs st g n) most T k s d) (decide (d = 0)) left b = 1000000 ∧ (endB g bs (d + 1 + M) left = true ∨ endB g bs M s = true)):=fun b hb=>by
    rcases next_cases (st:=st) (n:=n) hb (hB b hb) hl1 most T k s (valV (suR bs st g n) most T k s d) (decide (d = 0)) with ⟨q1,q2⟩ | ⟨q1,q2⟩ | ⟨y,q1,q2,q3,q4⟩
    · right
      refine ⟨q2,.inl (hstep _ q1 ?_)⟩
      show endB g bs (d + M) 0 = true
      cases d + M with
      | zero=>rfl
      | succ m=>unfold endB; rfl
    · rw [q2,hA s hs.1 hs.2]
      by_cases c : endB g bs M s = true
      · rw [if_pos c]; exact .inr ⟨rfl,.inr c⟩
      · rw [if_neg c]; exact .inl rfl
    · rw [q4]
      cases d with
      | zero =>
        rw [if_pos (by rfl),hA y q2 (by omega)]
        by_cases c : endB g bs M y = true
        · rw [if_pos c]
          exact .inr ⟨rfl,.inl (hstep _ q1 (by rw [Nat.zero_add]; exact c))⟩
        · rw [if_neg c]; exact .inl rfl
      | succ d =>
        rw [if_neg (by simp)]
        rcases (val_sure hB hne hs hA d y q2 (by omega)).2 with i1 | ⟨i1,i2⟩
        · exact .inl i1
        · refine .inr ⟨i1,?_⟩
          rcases i2 with i2 | i2
          · exact .inl (hstep _ q1 i2)
          · exact .inr i2
   have hBm : valV (suR bs st g n) most T k s (d + 1) left = 0 ∨ (valV (suR bs st g n) most T k s (d + 1) left = 1000000 ∧ (endB g bs (d + 1 + M) left = true ∨ endB g bs M s = true)):=by
    rw [hval]
    obtain ⟨b,hb,e⟩:=List.mem_map.1 (maxL_mem (l:=bs.map (nxS bs st g n most T k s (valV (suR bs st g n) most T k s d) (decide (d = 0)) left)) (by simpa using hne))
    rw [← e]
    exact hBv b hb
   refine ⟨fun he=>?_,hBm⟩
   rw [show d + 1 + M = (d + M) + 1 by omega] at he
   unfold endB at he
   rw [hz,Bool.false_or,List.any_eq_true] at he
   obtain ⟨x,hx,he⟩:=he
   obtain ⟨t1,t2,t3,t4⟩:=throws_mem hB hx
   have hnx : nxS bs st g n most T k s (valV (suR bs st g n) most T k s d) (decide (d = 0)) left x.1 = 1000000:=by
    rcases next_cases (st:=st) (n:=n) t1 (hB _ t1) hl1 most T k s (valV (suR bs st g n) most T k s d) (decide (d = 0)) with ⟨q1,q2⟩ | ⟨q1,q2⟩ | ⟨y,q1,q2,q3,q4⟩
    · exact q2
    · rw [throws_ok2 hx] at q1; cases q1
    · have hy : (y : Int) = x.2:=by
       obtain ⟨_,_,_,u4⟩:=throws_mem hB q1
       simp only at u4
       omega
      rw [q4]
      cases d with
      | zero =>
        rw [if_pos (by rfl),hA y q2 (by omega),hy,if_pos (by rw [Nat.zero_add] at he; exact he)]
      | succ d =>
        rw [if_neg (by simp)]
        exact (val_sure hB hne hs hA d y q2 (by omega)).1 (by rw [hy]; exact he)
   have hge : 1000000 ≤ valV (suR bs st g n) most T k s (d + 1) left:=by
    rw [hval,← hnx]
    exact le_maxL (List.mem_map.2 ⟨x.1,t1,rfl⟩)
   rcases hBm with h | ⟨h,_⟩
   · omega
   · exact h
termination_by d=>d
theorem visit_sure {bs : List Int} {st : Nat} {g : Int} {n : Nat} (hB : ∀ b ∈ bs,bedOk b = true) (hne : bs ≠ []) {most : Bool} {T : List (List Int)} {k s M : Nat} (hs : lowestR (suR bs st g n) ≤ (s : Int) ∧ s ≤ st)
 (hA : ∀ y : Nat,lowestR (suR bs st g n) ≤ (y : Int) → y ≤ st → afterD (suR bs st g n) most T k y = if endB g bs M y = true then 1000000 else 0) :
 valV (suR bs st g n) most T k s 3 s = if endB g bs (3 + M) s = true then 1000000 else 0:=by
 obtain ⟨h1,h2⟩:=val_sure hB hne hs hA 2 s hs.1 hs.2
 by_cases c : endB g bs (3 + M) s = true
 · rw [if_pos c]; exact h1 c
 · rw [if_neg c]
   rcases h2 with h2 | ⟨_,h2 | h2⟩
   · exact h2
   · exact absurd h2 c
   · exact absurd (end_le h2 (by omega)) c
theorem tab_sure {bs : List Int} {st : Nat} {g : Int} {n : Nat} (hB : ∀ b ∈ bs,bedOk b = true) (hne : bs ≠ []) (hn : 1 ≤ n) (most : Bool) :
 ∀ i,i < n → ∀ s : Nat,lowestR (suR bs st g n) ≤ (s : Int) → s ≤ st → valV (suR bs st g n) most (tabI (suR bs st g n) most i) (n - 1 - i) s 3 s = if endB g bs (3 * (i + 1)) s = true then 1000000 else 0
 | i, hi, s, h1, h2 => by
   have hel : (suR bs st g n).ends.length = n:=rnd_len n hn
   have hlow : 1 ≤ lowestR (suR bs st g n):=by unfold lowestR; split <;> omega
   rw [show 3 * (i + 1) = 3 + 3 * i by omega]
   refine visit_sure hB hne ⟨h1,h2⟩ fun y y1 y2=>?_
   unfold afterD
   rw [hel]
   cases i with
   | zero =>
     rw [if_pos (by omega),if_neg]
     show ¬ (endB g bs 0 y = true)
     unfold endB
     rw [beq_iff_eq]; omega
   | succ i =>
     rw [if_neg (by omega)]
     have hrow:=tabI_get (suR bs st g n) most (i + 1) (by rw [hel]; omega) (n - 1 - (i + 1) + 1) (by rw [hel]; omega) (by rw [hel]; omega)
     rw [hel,show n - 1 - (n - 1 - (i + 1) + 1) = i by omega,show n - 1 - (i + 1) + 1 = n - 1 - i by omega] at hrow
     have hg : (tabI (suR bs st g n) most (i + 1)).getD (n - 1 - i) [] = rowV (suR bs st g n) most (tabI (suR bs st g n) most i) (n - 1 - i):=by rw [List.getD_eq_getElem?_getD,hrow]; rfl
     rw [show n - 1 - (i + 1) + 1 = n - 1 - i by omega,hg,List.getD_eq_getElem?_getD,rowV_get _ _ _ _ _ (by show (y : Int) ≤ (st : Int); omega),Option.getD_some,if_neg (by omega),tab_sure hB hne hn most i (by omega) y y1 y2]
     have he : (suR bs st g n).ends.getD (n - 1 - (i + 1)) (0,0) = (0,0):=by
      show (rndL n).getD _ _ = _
      rw [rnd_get n _ (by omega),if_neg (by omega)]
     rw [he]
     have h0 : endsD most (0,0) = 0:=by unfold endsD; split <;> rfl
     rw [h0]
     split <;> cases most <;> simp [overD]
theorem tabF_sure {bs : List Int} {st : Nat} {g : Int} {n : Nat} (hB : ∀ b ∈ bs,bedOk b = true) (hne : bs ≠ []) (hn : 1 ≤ n) (most : Bool) {k s : Nat} (hk : k < n) (h1 : lowestR (suR bs st g n) ≤ (s : Int)) (h2 : s ≤ st) :
 ((tabF (suR bs st g n) most).getD k []).getD s 0 = if endB g bs (3 * (n - k)) s = true then 1000000 else 0:=by
 have hel : (suR bs st g n).ends.length = n:=rnd_len n hn
 have hrow:=tabI_get (suR bs st g n) most n (by omega) k (by omega) (by omega)
 rw [hel] at hrow
 unfold tabF
 have hg : (tabI (suR bs st g n) most n).getD k [] = rowV (suR bs st g n) most (tabI (suR bs st g n) most (n - 1 - k)) k:=by rw [List.getD_eq_getElem?_getD,hrow]; rfl
 rw [hel,hg,List.getD_eq_getElem?_getD,rowV_get _ _ _ _ _ (by show (s : Int) ≤ (st : Int); omega),Option.getD_some,if_neg (by omega)]
 have:=tab_sure hB hne hn most (n - 1 - k) (by omega) s h1 h2
 rw [show n - 1 - (n - 1 - k) = k by omega,show n - 1 - k + 1 = n - k by omega] at this
 exact this
set_option maxHeartbeats 4000000
abbrev bytR (l : List Nat) : RV:=.sl 1 (l.map fun n=>[u8Q n])
def bytA (l : List Nat) (i : Nat) : Nat:=if l.length = 0 then 0 else l.getD (i % l.length) 0
theorem bytA_lt {l : List Nat} (h : ∀ n ∈ l,n < 256) (i : Nat) : bytA l i < 256:=by
 unfold bytA
 split
 · omega
 · rename_i hl
   obtain ⟨x,hx⟩:=opt_of_lt (l:=l) (i:=i % l.length) (Nat.mod_lt _ (by omega))
   rw [List.getD_eq_getElem?_getD,hx]
   exact h x (mem_of_opt hx)
theorem pbyte_ok (l : List Nat) (i : Nat) (hl : ∀ n ∈ l,n < 256) : ACalls Try.prog 51 [bytR l,i64 (i : Int)] (i64 (bytA l i : Int)):=by
 refine acalls_st (rs:=[i64 (bytA l i : Int)]) [.tmp 4] Try.func51 rfl (by kernel_rfl) Try.ntmps51 rfl (by simp) rfl fun C vs=>?_
 repeat refine zq ?_
 refine zb fun K hK=>?_;simp only [go_sem];(try simp (disch:=omega) only [zI]);repeat first | intro _ | refine ⟨by omega,?_⟩
 refine hK _ ?_;clear hK K;refine zw (zk [0,1]) ?_;simp only [go_sem]
 cases hE : (l.length == 0)
 · have hne : l.length ≠ 0:=by simpa using hE
   have hm:=Nat.mod_lt i (show l.length > 0 by omega)
   obtain ⟨x,hx⟩:=opt_of_lt hm
   have hx2:=hl x (mem_of_opt hx)
   have e1 : bytA l i = x:=by unfold bytA; rw [if_neg hne,List.getD_eq_getElem?_getD,hx]; rfl
   have e2 : Int.tmod (i : Int) (l.length : Int) = ((i % l.length : Nat) : Int):=rfl
   have e3 : ((l.length : Int) == 0) = false:=by rw [beq_eq_false_iff_ne]; omega
   have e4 : (l.length : Int) ≠ 0:=by omega
   have e6 : IntKind.i64.wrap (x : Int) = x:=by rw [zI] <;> omega
   repeat refine zq ?_
   refine zb fun K hK=>?_;simp only [go_sem,hE,e3,List.length_map];(try simp (disch:=omega) only [zI]);repeat first | intro _ | refine ⟨by omega,?_⟩
   refine hK _ ?_;clear hK K;refine zw (zk [0,1,7]) ?_;simp only [go_sem]
   repeat refine zq ?_
   refine zc rfl (fun hc=>?_) (fun hc=>?_) <;> (try simp only [go_sem] at hc)
   refine zx ?_
   try simp only [go_sem]
   have e5 : IntKind.i64.wrap ((i % l.length : Nat) : Int) = ((i % l.length : Nat) : Int):=by rw [zI] <;> omega
   generalize i % l.length = j at *
   repeat refine zq ?_
   refine zb fun K hK=>?_;simp only [go_sem,e2,hx,e4,e5,e6,hm,List.length_map];(try simp (disch:=omega) only [zI]);repeat first | intro _ | refine ⟨by omega,?_⟩
   repeat first | intro _ | refine ⟨by omega,?_⟩
   refine hK _ ?_;clear hK K;refine ze ?_;simp only [go_sem];rw [e1]
 · have hne : l.length = 0:=by simpa using hE
   have e1 : bytA l i = 0:=by unfold bytA; rw [if_pos hne]
   have e3 : ((l.length : Int) == 0) = true:=by rw [beq_iff_eq]; omega
   repeat refine zq ?_
   refine zb fun K hK=>?_;simp only [go_sem,hE,e3,List.length_map];(try simp (disch:=omega) only [zI]);repeat first | intro _ | refine ⟨by omega,?_⟩
   refine hK _ ?_;clear hK K;refine zw (zk [0,1,7]) ?_;simp only [go_sem]
   repeat refine zq ?_
   refine zc rfl (fun hc=>?_) (fun hc=>?_) <;> (try simp only [go_sem] at hc)
   repeat refine zq ?_
   refine zb fun K hK=>?_;simp only [go_sem];(try simp (disch:=omega) only [zI]);repeat first | intro _ | refine ⟨by omega,?_⟩
   refine hK _ ?_;clear hK K;refine ze ?_;simp only [go_sem]
   rw [e1]; rfl
abbrev btA (B : List Bool) : List AV:=(B.map fun b=>RV.bo b).map AV.r
theorem aR_drop {L : List RV} {i : Nat} {x : RV} (h : L[i]? = some x) : (L.map AV.r).drop i = .r x :: (L.map AV.r).drop (i + 1):=by
 refine drop_of_opt ?_
 simp [h]
theorem aR_set {L : List RV} {i : Nat} {y : RV} (h : i < L.length) : (L.map AV.r).take i ++ (AV.r y :: (L.map AV.r).drop (i + 1)) = (L.set i y).map AV.r:=by
 rw [show (L.set i y).map AV.r = (L.map AV.r).set i (.r y) by simp [List.map_set],List.set_eq_take_append_cons_drop,if_pos (by simpa using h)]
theorem btA_get {B : List Bool} {i : Nat} {x d : Bool} (h : B.getD i d = x) (hi : i < B.length) : (List.drop i (btA B)).headD (AV.r RV.un) = AV.r (.bo x):=by
 obtain ⟨y,hy⟩:=opt_of_lt (l:=B) (i:=i) hi
 rw [List.getD_eq_getElem?_getD,hy] at h
 simp only [Option.getD_some] at h
 subst h
 rw [aR_drop (L:=B.map fun b=>RV.bo b) (x:=.bo y) (by rw [List.getElem?_map,hy]; rfl)]
 rfl
theorem btA_len (B : List Bool) : (btA B).length = B.length:=by simp
theorem ty149 : tyq Try.prog 149 = some ⟨.arr 500 1 false,500,true,List.replicate 500 (.bo false)⟩:=by kernel_rfl
def bedP (n : Nat) : Nat:=if 240 ≤ n then 125 + 100 * (n % 2) else 100 * (1 + n % 3) + 1 + n / 3 % 20
theorem bedP_lt {n : Nat} : 101 ≤ bedP n ∧ bedP n ≤ 320:=by
 unfold bedP
 split <;> omega
def thereB (l : List Nat) : Nat → List Bool
 | 0=>List.replicate 500 false
 | i + 1=>(thereB l i).set (bedP (bytA l i)) true
theorem there_len (l : List Nat) : ∀ i,(thereB l i).length = 500
 | 0=>by simp [thereB]
 | i + 1=>by simp [thereB,there_len l i]
def rndN (l : List Nat) (most : Nat) : Nat:=max 1 (min most l.length)
def hereB (B : List Bool) (k : Nat) : List Nat:=(List.range k).filter fun b=>B.getD b false
theorem here_snoc (B : List Bool) (k : Nat) : hereB B (k + 1) = hereB B k ++ if B.getD k false = true then [k] else []:=by
 unfold hereB
 rw [List.range_succ,List.filter_append]
 congr 1
 simp only [List.filter_cons,List.filter_nil]
def bedsP (l : List Nat) (most : Nat) : List Nat:=hereB (thereB l (rndN l most)) 500
abbrev intsN (l : List Nat) : RV:=ints (l.map fun n : Nat=>(n : Int))
theorem pbeds_ok (l : List Nat) (most : Nat) (hl : ∀ n ∈ l,n < 256) (hm : 1 ≤ most ∧ most ≤ 100) : ACalls Try.prog 17 [bytR l,i64 (most : Int)] (intsN (bedsP l most)):=by
 refine acalls_st (rs:=[intsN (bedsP l most)]) [.tmp 4] Try.func17 rfl (by kernel_rfl) Try.ntmps17 rfl (by simp) rfl fun C vs=>?_
 repeat refine zq ?_
 refine zb fun K hK=>?_;simp only [go_sem];(try simp (disch:=omega) only [zI]);repeat first | intro _ | refine ⟨by omega,?_⟩
 refine hK _ ?_;clear hK K;refine zw (zk [0,1]) ?_;simp only [go_sem]
 repeat refine zq ?_
 refine zb fun K hK=>?_;simp only [go_sem,ty149];(try simp (disch:=omega) only [zI]);repeat first | intro _ | refine ⟨by omega,?_⟩
 refine hK _ ?_;clear hK K;refine zw (sub_own 6 216 69 1 (by omega) rfl) ?_;refine zw (zk [0,1,5,6]) ?_;simp only [go_sem]
 repeat refine zq ?_
 refine zb fun K hK=>?_;simp only [go_sem];(try simp (disch:=omega) only [zI]);repeat first | intro _ | refine ⟨by omega,?_⟩
 refine hK _ ?_;clear hK K;refine zw (zk [0,1,5,6,7]) ?_;simp only [go_sem]
 repeat refine zq ?_
 have hrn : 1 ≤ rndN l most ∧ rndN l most ≤ 100:=by unfold rndN; omega
 refine awp_joinV (n:=60) (fun (_ : Unit) vs=>[(5,.pt 5 (vs 5) 0),(6,.os 216 (vs 216) 1 0 0)]) (fun _ vs=>[(5,.box (btA (thereB l (rndN l most)))),(216,.arr 69 1 [])]) (fun _=>True) (fun _ h=>h) ?_ ?_
 · repeat refine zq ?_
   refine zd ?_
   refine awp_uptoV (n:=60) (rndN l most) (fun i vs=>[(0,.r (bytR l)),(1,.r (i64 (most : Int))),(5,.pt 5 (vs 5) 0),(6,.os 216 (vs 216) 1 0 0),(7,.r (i64 (i : Int)))])
    (fun i vs=>[(5,.box (btA (thereB l i))),(216,.arr 69 1 [])]) (fun _=>True) 0 (zj [] ?_ ?_) (Nat.zero_le _) trivial ?_
   · try simp only [go_sem]
     try rfl
   · try simp only [go_sem]
     try rfl
   · intro i vs hi _
     by_cases hin : i < rndN l most
     · have hB:=there_len l i
       have hnx : thereB l (i + 1) = (thereB l i).set (bedP (bytA l i)) true:=rfl
       rw [hnx]
       generalize thereB l i = B at *
       have hb8:=bytA_lt hl i
       have hbp:=bedP_lt (n:=bytA l i)
       have hby:=pbyte_ok l i hl
       repeat refine zq ?_
       refine awp_joinV (n:=60) (fun (_ : Unit) vs=>[(0,.r (bytR l)),(1,.r (i64 (most : Int))),(5,.pt 5 (vs 5) 0),(6,.os 216 (vs 216) 1 0 0),(7,.r (i64 (i : Int))),(25,.r (.bo true))]) (fun _ vs=>[(5,.box (btA B)),(216,.arr 69 1 [])]) (fun _=>True) (fun _ h=>h) ?_ ?_
       · by_cases hi0 : i = 0
         · subst hi0
           repeat refine zq ?_
           refine zb fun K hK=>?_;simp only [go_sem,beq_self_eq_true];(try simp (disch:=omega) only [zI]);repeat first | intro _ | refine ⟨by omega,?_⟩
           refine hK _ ?_;clear hK K
           try simp only [go_sem]
           refine ⟨(),zj [] ?_ ?_⟩
           · try simp only [go_sem]
           · try simp only [go_sem]
         · have q0 : ((i : Int) == 0) = false:=by rw [beq_eq_false_iff_ne]; omega
           have q0' : (i == 0) = false:=by rw [beq_eq_false_iff_ne]; omega
           have q1 : i < l.length:=by unfold rndN at hin; omega
           have q2 : i < most:=by unfold rndN at hin; omega
           have q3 : decide ((i : Int) < (most : Int)) = true:=decide_eq_true (by omega)
           repeat refine zq ?_
           refine zb fun K hK=>?_;simp only [go_sem,q0,q0',q1,q2,q3,List.length_map];(try simp (disch:=omega) only [zI]);repeat first | intro _ | refine ⟨by omega,?_⟩
           repeat first | intro _ | refine ⟨by omega,?_⟩
           refine hK _ ?_;clear hK K
           try simp only [go_sem]
           refine ⟨(),zj [] ?_ ?_⟩
           · try simp only [go_sem]
           · try simp only [go_sem]
       intro _ vs _
       repeat refine zq ?_
       refine zc rfl (fun hc=>?_) (fun hc=>?_) <;> (try simp only [go_sem] at hc)
       refine zx ?_
       try simp only [go_sem]
       repeat refine zq ?_
       refine zd ?_
       repeat refine zq ?_
       refine zb fun K hK=>?_;simp only [go_sem];(try simp (disch:=omega) only [zI])
       refine zh (hby) rfl (by simp only [go_sem,i64,ints]) (by simp only [go_sem,i64,ints]) (by first | exact .inl rfl | exact .inr rfl) ?_
       (try simp only [go_sem]);(try simp (disch:=omega) only [zI]);repeat first | intro _ | refine ⟨by omega,?_⟩
       refine hK _ ?_;clear hK K;refine zw (zk [0,1,5,6,7,8]) ?_;simp only [go_sem]
       obtain ⟨N,hN⟩ : ∃ N,N = bytA l i:=⟨_,rfl⟩
       rw [← hN] at hb8 hbp
       rw [← hN]
       have m0:=Nat.mod_lt N (show 3 > 0 by omega)
       have m1:=Nat.mod_lt (N / 3) (show 20 > 0 by omega)
       have m2:=Nat.mod_lt N (show 2 > 0 by omega)
       have r0 : Int.tmod (N : Int) 3 = ((N % 3 : Nat) : Int):=rfl
       have r1 : Int.tdiv (N : Int) 3 = ((N / 3 : Nat) : Int):=rfl
       have r2 : Int.tmod ((N / 3 : Nat) : Int) 20 = ((N / 3 % 20 : Nat) : Int):=rfl
       have r3 : Int.tmod (N : Int) 2 = ((N % 2 : Nat) : Int):=rfl
       have v0 : IntKind.i64.wrap (1 + ((N % 3 : Nat) : Int)) = 1 + ((N % 3 : Nat) : Int):=by rw [zI] <;> omega
       have v1 : IntKind.i64.wrap (100 * (1 + ((N % 3 : Nat) : Int))) = 100 * (1 + ((N % 3 : Nat) : Int)):=by rw [zI] <;> omega
       have v2 : IntKind.i64.wrap (100 * (1 + ((N % 3 : Nat) : Int)) + 1) = 100 * (1 + ((N % 3 : Nat) : Int)) + 1:=by rw [zI] <;> omega
       have v3 : IntKind.i64.wrap ((N / 3 : Nat) : Int) = ((N / 3 : Nat) : Int):=by rw [zI] <;> omega
       have v4 : IntKind.i64.wrap (100 * (1 + ((N % 3 : Nat) : Int)) + 1 + ((N / 3 % 20 : Nat) : Int)) = ((100 * (1 + N % 3) + 1 + N / 3 % 20 : Nat) : Int):=by rw [zI] <;> omega
       have v5 : IntKind.i64.wrap (100 * ((N % 2 : Nat) : Int)) = 100 * ((N % 2 : Nat) : Int):=by rw [zI] <;> omega
       have v6 : IntKind.i64.wrap (125 + 100 * ((N % 2 : Nat) : Int)) = ((125 + 100 * (N % 2) : Nat) : Int):=by rw [zI] <;> omega
       repeat refine zq ?_
       refine zb fun K hK=>?_;simp only [go_sem,r0,r1,r2,v0,v1,v2,v3,v4];(try simp (disch:=omega) only [zI]);repeat first | intro _ | refine ⟨by omega,?_⟩
       repeat first | intro _ | refine ⟨by omega,?_⟩
       refine hK _ ?_;clear hK K;refine zw (zk [0,1,5,6,7,8,9]) ?_;simp only [go_sem]
       repeat refine zq ?_
       refine awp_joinV (n:=60) (fun (_ : Unit) vs=>[(0,.r (bytR l)),(1,.r (i64 (most : Int))),(5,.pt 5 (vs 5) 0),(6,.os 216 (vs 216) 1 0 0),(7,.r (i64 (i : Int))),(8,.r (i64 (N : Int))),(9,.r (i64 ((100 * (1 + N % 3) + 1 + N / 3 % 20 : Nat) : Int))),(41,.r (.bo (decide (240 ≤ N))))]) (fun _ vs=>[(5,.box (btA B)),(216,.arr 69 1 [])]) (fun _=>True) (fun _ h=>h) ?_ ?_
       · have g0 : decide ((240 : Int) ≤ (N : Int)) = decide (240 ≤ N):=by rw [Bool.eq_iff_iff,decide_eq_true_eq,decide_eq_true_eq]; omega
         repeat refine zq ?_
         refine zb fun K hK=>?_;simp only [go_sem,g0];(try simp (disch:=omega) only [zI]);repeat first | intro _ | refine ⟨by omega,?_⟩
         refine hK _ ?_;clear hK K
         try simp only [go_sem]
         refine ⟨(),zj [] ?_ ?_⟩
         · try simp only [go_sem]
           try simp
           try omega
         · try simp only [go_sem]
       intro _ vs _
       refine awp_joinV (n:=60) (fun (_ : Unit) vs=>[(0,.r (bytR l)),(1,.r (i64 (most : Int))),(5,.pt 5 (vs 5) 0),(6,.os 216 (vs 216) 1 0 0),(7,.r (i64 (i : Int))),(9,.r (i64 (bedP N : Int)))]) (fun _ vs=>[(5,.box (btA B)),(216,.arr 69 1 [])]) (fun _=>True) (fun _ h=>h) ?_ ?_
       · by_cases hbig : 240 ≤ N
         · have hd : decide (240 ≤ N) = true:=decide_eq_true hbig
           have hbe : bedP N = 125 + 100 * (N % 2):=by unfold bedP; rw [if_pos hbig]
           rw [hd,hbe]
           repeat refine zq ?_
           refine zc rfl (fun hc=>?_) (fun hc=>?_) <;> (try simp only [go_sem] at hc)
           repeat refine zq ?_
           refine zb fun K hK=>?_;simp only [go_sem,r3,v5,v6];(try simp (disch:=omega) only [zI]);repeat first | intro _ | refine ⟨by omega,?_⟩
           repeat first | intro _ | refine ⟨by omega,?_⟩
           refine hK _ ?_;clear hK K
           try simp only [go_sem]
           refine ⟨(),zj [] ?_ ?_⟩
           · try simp only [go_sem]
           · try simp only [go_sem]
         · have hd : decide (240 ≤ N) = false:=decide_eq_false hbig
           have hbe : bedP N = 100 * (1 + N % 3) + 1 + N / 3 % 20:=by unfold bedP; rw [if_neg hbig]
           rw [hd,hbe]
           repeat refine zq ?_
           refine zc rfl (fun hc=>?_) (fun hc=>?_) <;> (try simp only [go_sem] at hc)
           refine zx ?_
           try simp only [go_sem]
           refine ⟨(),zj [] ?_ ?_⟩
           · try simp only [go_sem]
           · try simp only [go_sem]
       intro _ vs _
       generalize bedP N = bd at *
       obtain ⟨yb,hyb⟩:=opt_of_lt (l:=B) (i:=bd) (by omega)
       have hdr:=aR_drop (L:=B.map fun b=>RV.bo b) (i:=bd) (x:=.bo yb) (by rw [List.getElem?_map,hyb]; rfl)
       have hse:=aR_set (L:=B.map fun b=>RV.bo b) (i:=bd) (y:=.bo true) (by rw [List.length_map]; omega)
       have hbl:=btA_len B
       repeat refine zq ?_
       refine zb fun K hK=>?_;simp only [go_sem,ty149,hdr,hse,hbl,hB,List.length_map,Nat.mul_one,List.headD_cons];(try simp (disch:=omega) only [zI]);repeat first | intro _ | refine ⟨by omega,?_⟩
       repeat first | intro _ | refine ⟨by omega,?_⟩
       refine hK _ ?_;clear hK K;refine zw (zk [0,1,5,6,7]) ?_;simp only [go_sem]
       repeat refine zq ?_
       refine zb fun K hK=>?_;simp only [go_sem];(try simp (disch:=omega) only [zI]);repeat first | intro _ | refine ⟨by omega,?_⟩
       refine hK _ ?_;clear hK K
       try simp only [go_sem]
       have hA : btA (B.set bd true) = List.map AV.r ((B.map fun b=>RV.bo b).set bd (.bo true)):=by
        show List.map AV.r (List.map _ (B.set bd true)) = _
        rw [List.map_set]
       refine ⟨by omega,zj [] ?_ ?_⟩
       · try simp only [go_sem]
       · try simp only [go_sem]
         try rw [hA]
     · have hie : i = rndN l most:=by omega
       subst hie
       have q0 : (((rndN l most : Nat) : Int) == 0) = false:=by rw [beq_eq_false_iff_ne]; omega
       have q0' : (rndN l most == 0) = false:=by rw [beq_eq_false_iff_ne]; omega
       generalize hB : thereB l (rndN l most) = B at *
       repeat refine zq ?_
       refine awp_joinV (n:=60) (fun (_ : Unit) vs=>[(5,.pt 5 (vs 5) 0),(6,.os 216 (vs 216) 1 0 0),(25,.r (.bo false))]) (fun _ vs=>[(5,.box (btA B)),(216,.arr 69 1 [])]) (fun _=>True) (fun _ h=>h) ?_ ?_
       · by_cases hq : rndN l most < l.length
         · have hq2 : decide (((rndN l most : Nat) : Int) < (most : Int)) = false:=decide_eq_false (by unfold rndN at hq ⊢; omega)
           have hq3 : ¬ rndN l most < most:=by unfold rndN at hq ⊢; omega
           repeat refine zq ?_
           refine zb fun K hK=>?_;simp only [go_sem,q0,q0',hq,hq2,List.length_map];(try simp (disch:=omega) only [zI]);repeat first | intro _ | refine ⟨by omega,?_⟩
           repeat first | intro _ | refine ⟨by omega,?_⟩
           refine hK _ ?_;clear hK K
           try simp only [go_sem]
           refine ⟨(),zj [] ?_ ?_⟩
           · try simp only [go_sem]
             try exact hq3
           · try simp only [go_sem]
         · repeat refine zq ?_
           refine zb fun K hK=>?_;simp only [go_sem,q0,q0',hq,List.length_map];(try simp (disch:=omega) only [zI]);repeat first | intro _ | refine ⟨by omega,?_⟩
           repeat first | intro _ | refine ⟨by omega,?_⟩
           refine hK _ ?_;clear hK K
           try simp only [go_sem]
           refine ⟨(),zj [] ?_ ?_⟩
           · try simp only [go_sem]
           · try simp only [go_sem]
       intro _ vs _
       repeat refine zq ?_
       refine zc rfl (fun hc=>?_) (fun hc=>?_) <;> (try simp only [go_sem] at hc)
       refine zf ?_;simp only [go_sem]
       refine ⟨(),zj [] ?_ ?_⟩
       · try simp only [go_sem]
       · try simp only [go_sem]
 intro _ vs _
 have hB:=there_len l (rndN l most)
 have hbp : bedsP l most = hereB (thereB l (rndN l most)) 500:=rfl
 rw [hbp]
 generalize thereB l (rndN l most) = B at *
 have hbl:=btA_len B
 repeat refine zq ?_
 refine zb fun K hK=>?_;simp only [go_sem];(try simp (disch:=omega) only [zI]);repeat first | intro _ | refine ⟨by omega,?_⟩
 refine hK _ ?_;clear hK K;refine zw (zk [5,6,10]) ?_;simp only [go_sem]
 repeat refine zq ?_
 refine zd ?_
 refine awp_uptoV (n:=60) 500 (fun i vs=>[(5,.pt 5 (vs 5) 0),(6,.os 216 (vs 216) 1 0 (hereB B i).length),(10,.r (i64 (i : Int)))])
  (fun i vs=>[(5,.box (btA B)),(216,.arr 69 1 ((hereB B i).map fun n : Nat=>[i64 (n : Int)]))]) (fun _=>True) 0 (zj [] ?_ ?_) (Nat.zero_le _) trivial ?_
 · try simp only [go_sem]
   try rfl
 · try simp only [go_sem]
   try rfl
 · intro i vs hi _
   by_cases hin : i < 500
   · have hsn:=here_snoc B i
     have hll : (hereB B i).length ≤ i:=by
      have:=List.length_filter_le (fun b=>B.getD b false) (List.range i)
      rw [List.length_range] at this
      exact this
     have g1 : decide ((i : Int) < 500) = true:=decide_eq_true (by omega)
     have hget : (List.drop i (btA B)).headD (AV.r RV.un) = AV.r (.bo (B.getD i false)):=btA_get (i:=i) (d:=false) rfl (by omega)
     rw [hsn]
     generalize hereB B i = H at *
     repeat refine zq ?_
     refine zb fun K hK=>?_;simp only [go_sem,g1];(try simp (disch:=omega) only [zI]);repeat first | intro _ | refine ⟨by omega,?_⟩
     refine hK _ ?_;clear hK K;refine zw (zk [5,6,10,49]) ?_;simp only [go_sem]
     repeat refine zq ?_
     refine zc rfl (fun hc=>?_) (fun hc=>?_) <;> (try simp only [go_sem] at hc)
     refine zx ?_
     try simp only [go_sem]
     repeat refine zq ?_
     refine zd ?_
     repeat refine zq ?_
     refine zb fun K hK=>?_;simp only [go_sem,ty149,hget,hbl,hB,hin,List.length_map,Nat.mul_one,List.headD_cons];(try simp (disch:=omega) only [zI]);repeat first | intro _ | refine ⟨by omega,?_⟩
     repeat first | intro _ | refine ⟨by omega,?_⟩
     refine hK _ ?_;clear hK K;refine zw (zk [5,6,10,54]) ?_;simp only [go_sem]
     repeat refine zq ?_
     cases hq : B.getD i false
     · repeat refine zq ?_
       refine zc rfl (fun hc=>?_) (fun hc=>?_) <;> (try simp only [go_sem] at hc)
       refine zx ?_
       try simp only [go_sem]
       repeat refine zq ?_
       refine zb fun K hK=>?_;simp only [go_sem];(try simp (disch:=omega) only [zI]);repeat first | intro _ | refine ⟨by omega,?_⟩
       refine hK _ ?_;clear hK K
       try simp only [go_sem]
       try simp only [Bool.false_eq_true,if_false,List.append_nil]
       refine ⟨by omega,zj [] ?_ ?_⟩
       · try simp only [go_sem]
       · try simp only [go_sem]
     · repeat refine zq ?_
       refine zc rfl (fun hc=>?_) (fun hc=>?_) <;> (try simp only [go_sem] at hc)
       repeat refine zq ?_
       refine zb fun K hK=>?_;simp only [go_sem,List.length_map];(try simp (disch:=omega) only [zI]);repeat first | intro _ | refine ⟨by omega,?_⟩
       refine hK _ ?_;clear hK K;refine zw (zk [5,6,10]) ?_;simp only [go_sem]
       repeat refine zq ?_
       refine zb fun K hK=>?_;simp only [go_sem];(try simp (disch:=omega) only [zI]);repeat first | intro _ | refine ⟨by omega,?_⟩
       refine hK _ ?_;clear hK K
       try simp only [go_sem]
       try simp only [if_true,List.length_append,List.length_cons,List.length_nil,List.map_append,List.map_cons,List.map_nil]
       refine ⟨by omega,zj [] ?_ ?_⟩
       · try simp only [go_sem]
       · try simp only [go_sem]
   · have hie : i = 500:=by omega
     subst hie
     repeat refine zq ?_
     refine zb fun K hK=>?_;simp only [go_sem];(try simp (disch:=omega) only [zI]);repeat first | intro _ | refine ⟨by omega,?_⟩
     refine hK _ ?_;clear hK K;refine zw (zk [5,6,10,49]) ?_;simp only [go_sem]
     repeat refine zq ?_
     refine zc rfl (fun hc=>?_) (fun hc=>?_) <;> (try simp only [go_sem] at hc)
     refine zf ?_;simp only [go_sem];refine zw (sub_frz (ty:=69) (sz:=1) (off:=0) (m:=(hereB B 500).length) (es:=(hereB B 500).map fun n : Nat=>[i64 (n : Int)]) 6 216 (by omega) rfl (by rfl) (by simp)) ?_
     have tk2 : List.take (hereB B 500).length ((hereB B 500).map fun n : Nat=>[i64 (n : Int)]) = (hereB B 500).map fun n : Nat=>[i64 (n : Int)]:=List.take_of_length_le (by simp)
     try simp only [go_sem]
     try rw [tk2]
     repeat refine zq ?_
     refine zb fun K hK=>?_;simp only [go_sem];(try simp (disch:=omega) only [zI]);repeat first | intro _ | refine ⟨by omega,?_⟩
     refine hK _ ?_;clear hK K;refine zw (zk [4]) ?_;simp only [go_sem];refine ze ?_;simp only [go_sem]
     try simp
theorem wfA_aim {d : Int} {a : Am} (hd : d ≤ 3000) (h : aimOk d a = true) : WfA a:=by
 obtain ⟨h1,_,h3,h4,_,_⟩:=aimOk_parts h
 have hb:=fun b (hb : bedOk b = true)=>bedOk_le hb
 have:=hb _ h1
 refine ⟨by unfold I64; omega,fun c hc=>?_⟩
 have:=h4 c hc
 have hcb : 0 ≤ c.b ∧ c.b ≤ 499:=by
  rcases seq_beds h3 c hc with h | h
  · omega
  · exact hb _ h
 unfold I64
 omega
theorem wfL_chk {d : Int} {l : List Am} (h : checkV d l = 0) (hd : 0 ≤ d ∧ d ≤ 3000) : WfL d l:=⟨by unfold I64; omega,fun a ha=>wfA_aim hd.2 (aims_all (r:=⟨d,l,0,0,[]⟩) h a ha)⟩
set_option linter.unusedSimpArgs false
set_option maxRecDepth 8000
theorem bedP_all : ∀ n,n < 256 → bedOk (bedP n) = true ∧ 0 ≤ scoreOf (bedP n) ∧ scoreOf (bedP n) ≤ 60:=by decide +kernel
theorem there_mem {l : List Nat} {b : Nat} : ∀ {i : Nat},(thereB l i).getD b false = true → ∃ j,j < i ∧ b = bedP (bytA l j)
 | 0, h => by
   unfold thereB at h
   rw [List.getD_eq_getElem?_getD,List.getElem?_replicate] at h
   split at h <;> simp at h
 | i + 1, h => by
   unfold thereB at h
   rw [List.getD_eq_getElem?_getD,List.getElem?_set] at h
   split at h
   · rename_i e
     exact ⟨i,by omega,e.symm⟩
   · rw [← List.getD_eq_getElem?_getD] at h
     obtain ⟨j,hj,e⟩:=there_mem h
     exact ⟨j,by omega,e⟩
theorem there_set (l : List Nat) (i : Nat) : (thereB l (i + 1)).getD (bedP (bytA l i)) false = true:=by
 have:=bedP_lt (n:=bytA l i)
 unfold thereB
 rw [List.getD_eq_getElem?_getD,List.getElem?_set,if_pos rfl,if_pos (by rw [there_len]; omega)]
 rfl
theorem here_len (B : List Bool) : ∀ k,(hereB B k).length = (B.take k).countP id
 | 0=>by simp [hereB]
 | k + 1 => by
   rw [here_snoc,List.length_append,here_len B k]
   by_cases h : k < B.length
   · obtain ⟨x,hx⟩:=opt_of_lt h
     rw [take_of_opt hx,List.countP_append,List.getD_eq_getElem?_getD,hx]
     cases x <;> simp
   · rw [List.take_of_length_le (by omega),List.take_of_length_le (by omega),List.getD_eq_getElem?_getD,List.getElem?_eq_none (by omega)]
     simp
theorem count_set (v : Bool) : ∀ (B : List Bool) (j : Nat),(B.set j v).countP id ≤ B.countP id + 1
 | [],j=>by simp
 | x :: B, 0 => by
   rw [List.set_cons_zero,List.countP_cons,List.countP_cons]
   split <;> split <;> omega
 | x :: B, j + 1 => by
   rw [List.set_cons_succ,List.countP_cons,List.countP_cons]
   have:=count_set v B j
   omega
theorem there_count (l : List Nat) : ∀ i,(thereB l i).countP id ≤ i
 | 0=>by simp [thereB,List.countP_replicate]
 | i + 1 => by
   have h1:=there_count l i
   have h2:=count_set true (thereB l i) (bedP (bytA l i))
   unfold thereB
   omega
abbrev bsP (l : List Nat) (most : Nat) : List Int:=(bedsP l most).map fun n : Nat=>(n : Int)
theorem bsP_all {l : List Nat} (hl : ∀ n ∈ l,n < 256) {most : Nat} (hm : 1 ≤ most ∧ most ≤ 100) : (bsP l most).Pairwise (· < ·) ∧ bsP l most ≠ [] ∧ (bsP l most).length ≤ most ∧ ∀ b ∈ bsP l most,bedOk b = true ∧ 0 ≤ scoreOf b ∧ scoreOf b ≤ 60:=by
 have hr : 1 ≤ rndN l most ∧ rndN l most ≤ most:=by unfold rndN; omega
 refine ⟨?_,?_,?_,?_⟩
 · rw [List.pairwise_map]
   have : (bedsP l most).Pairwise (· < ·):=by
    unfold bedsP hereB
    exact (List.pairwise_lt_range (n:=500)).filter _
   exact this.imp fun h=>by omega
 · intro e
   have e:=List.map_eq_nil_iff.1 e
   have hs:=there_set l (rndN l most - 1)
   have hlt:=bedP_lt (n:=bytA l (rndN l most - 1))
   rw [show rndN l most - 1 + 1 = rndN l most by omega] at hs
   have hmem : bedP (bytA l (rndN l most - 1)) ∈ bedsP l most:=List.mem_filter.2 ⟨List.mem_range.2 (by omega),hs⟩
   rw [e] at hmem
   cases hmem
 · rw [List.length_map]
   have h1:=here_len (thereB l (rndN l most)) 500
   have h2:=there_count l (rndN l most)
   rw [List.take_of_length_le (by rw [there_len]; omega)] at h1
   unfold bedsP
   omega
 · intro b hb
   obtain ⟨n,hn,rfl⟩:=List.mem_map.1 hb
   obtain ⟨j,_,rfl⟩:=there_mem (List.mem_filter.1 hn).2
   obtain ⟨q1,q2⟩:=bedP_all _ (bytA_lt hl j)
   exact ⟨q1,q2⟩
set_option maxHeartbeats 4000000
theorem wfA_of {l : List Am} (h : (l.all fun a=>decide (0 ≤ a.at_ ∧ a.at_ ≤ 1000) && a.beds.all fun c=>decide ((0 ≤ c.b ∧ c.b ≤ 1000) ∧ (0 ≤ c.lo ∧ c.lo ≤ 1000) ∧ 0 ≤ c.hi ∧ c.hi ≤ 1000)) = true) : ∀ a ∈ l,WfA a:=fun a ha=>by
 have:=List.all_eq_true.1 h a ha
 simp only [Bool.and_eq_true,decide_eq_true_eq,List.all_eq_true] at this
 obtain ⟨h1,h2⟩:=this
 refine ⟨by unfold I64; omega,fun c hc=>?_⟩
 have:=h2 c hc
 unfold I64
 omega
def duR : Ru:=⟨2,[⟨201,[⟨0,1,1⟩,⟨201,1,1⟩]⟩],2,1,[(0,500000),(1000000,1000000)]⟩
theorem duR_wf : WfR duR:=⟨⟨by unfold duR I64; simp only; omega,wfA_of (by decide)⟩⟩
theorem pubDuel_ok : ACalls Try.prog 15 [] (.bo true):=by
 have h:=table_ok duR duR_wf
 have h0 : ruE duR = 0:=by decide +kernel
 have h1 : tabF duR false = [[0,0,929687],[0,0,875000]]:=by decide +kernel
 have h2 : tabF duR true = [[0,0,984375],[0,0,875000]]:=by decide +kernel
 unfold tabsV at h
 rw [if_pos h0,if_pos h0,h1,h2,h0] at h
 have hs:=fun a b=>span_mk a b
 have ho:=fun a=>one_mk a
 refine acalls_st (rs:=[.bo true]) [.tmp 0] Try.func15 rfl (by kernel_rfl) Try.ntmps15 rfl (by simp) rfl fun C vs=>?_
 repeat refine zq ?_
 refine zb fun K hK=>?_;simp only [go_sem];(try simp (disch:=omega) only [zI]);repeat first | intro _ | refine ⟨by omega,?_⟩
 refine hK _ ?_;clear hK K;refine zw (zk [0]) ?_;simp only [go_sem]
 repeat refine zq ?_
 refine zb fun K hK=>?_;simp only [go_sem];(try simp (disch:=omega) only [zI])
 refine zh (ho 1) rfl (by simp only [go_sem,i64,ints]) (by simp only [go_sem,i64,ints]) (by first | exact .inl rfl | exact .inr rfl) ?_
 (try simp only [go_sem]);(try simp (disch:=omega) only [zI])
 refine zh (ho 1) rfl (by simp only [go_sem,i64,ints]) (by simp only [go_sem,i64,ints]) (by first | exact .inl rfl | exact .inr rfl) ?_
 (try simp only [go_sem]);(try simp (disch:=omega) only [zI]);repeat first | intro _ | refine ⟨by omega,?_⟩
 refine hK _ ?_;clear hK K;refine zw (sub_frzP 1 1 [i64 2,aimsR duR.aims] (by omega) rfl rfl) ?_;refine zw (zk [0,1]) ?_;simp only [go_sem]
 repeat refine zq ?_
 refine zg follows (by decide +kernel) (by kernel_rfl) fun K hK=>?_;simp only [go_sem];(try simp (disch:=omega) only [zI])
 refine zh (hs 0 500000) rfl (by simp only [go_sem,i64,ints]) (by simp only [go_sem,i64,ints]) (by first | exact .inl rfl | exact .inr rfl) ?_
 (try simp only [go_sem]);(try simp (disch:=omega) only [zI])
 refine zh (ho 1000000) rfl (by simp only [go_sem,i64,ints]) (by simp only [go_sem,i64,ints]) (by first | exact .inl rfl | exact .inr rfl) ?_
 (try simp only [go_sem]);(try simp (disch:=omega) only [zI])
 refine zh (h) rfl (by simp only [go_sem,i64,ints,duR,ruV,ruC,aimsR,bedsR,spansR,aimR,bedR,spanR,List.map_cons,List.map_nil]) (by simp only [go_sem,i64,ints,duR,ruV,ruC,aimsR,bedsR,spansR,aimR,bedR,spanR,List.map_cons,List.map_nil]) (by first | exact .inl rfl | exact .inr rfl) ?_
 (try simp only [go_sem,duR,ruV,ruC,aimsR,bedsR,spansR,aimR,bedR,spanR,List.map_cons,List.map_nil]);(try simp (disch:=omega) only [zI]);repeat first | intro _ | refine ⟨by omega,?_⟩
 refine hK _ ?_;clear hK K;refine zw (zk [0,2,3,4]) ?_;simp only [go_sem]
 repeat refine zq ?_
 refine zb fun K hK=>?_;simp only [go_sem];(try simp (disch:=omega) only [zI]);repeat first | intro _ | refine ⟨by omega,?_⟩
 refine hK _ ?_;clear hK K;refine zw (zk [0]) ?_;simp only [go_sem];refine ze ?_;simp only [go_sem]
theorem bdsO_of {l : List Nat} (hl : ∀ n ∈ l,n < 256) {most : Nat} (hm : 1 ≤ most ∧ most ≤ 82) : BdsO (bsP l most):=by
 obtain ⟨h1,h2,h3,h4⟩:=bsP_all hl (most:=most) (by omega)
 have:=List.length_pos_iff.2 h2
 exact ⟨h1,by omega,by omega,fun b hb=>⟨(h4 b hb).1,bedOk_le (h4 b hb).1⟩⟩
theorem sure_ok (bs : List Int) (h : BdsO bs) : ACalls Try.prog 33 [ints bs] (lawV 1 (sureL bs)):=by
 have ho:=one_mk 1
 have hlen:=h.len
 refine acalls_st (rs:=[lawV 1 (sureL bs)]) [.cell 2 26] Try.func33 rfl (by kernel_rfl) Try.ntmps33 rfl (by simp) rfl fun C vs=>?_
 repeat refine zq ?_
 refine zb fun K hK=>?_;simp only [go_sem];(try simp (disch:=omega) only [zI]);repeat first | intro _ | refine ⟨by omega,?_⟩
 refine hK _ ?_;clear hK K;refine zw (zk [0,2]) ?_;simp only [go_sem]
 repeat refine zq ?_
 refine zb fun K hK=>?_;simp only [go_sem];(try simp (disch:=omega) only [zI]);repeat first | intro _ | refine ⟨by omega,?_⟩
 refine hK _ ?_;clear hK K;refine zw (sub_ownB 3 1 303 81 2 (by omega) (by omega) rfl (by simp only [go_sem,List.getElem?_cons_succ,List.getElem?_cons_zero])) ?_;refine zw (zk [0,2,3]) ?_;simp only [go_sem]
 repeat refine zq ?_
 refine zb fun K hK=>?_;simp only [go_sem];(try simp (disch:=omega) only [zI]);repeat first | intro _ | refine ⟨by omega,?_⟩
 refine hK _ ?_;clear hK K;refine zw (zk [0,2,3,4]) ?_;simp only [go_sem]
 repeat refine zq ?_
 refine zd ?_
 refine awp_uptoV (n:=30) bs.length (fun i vs=>[(0,.r (ints bs)),(2,.pt 2 (vs 2) 0),(3,.pt 3 (vs 3) 0),(4,.r (i64 (i : Int)))])
  (fun i vs=>[(2,.box [.r (i64 0),.r .ns]),(3,.box [.r (i64 1),.os 303 (vs 303) 2 0 i]),(303,.arr 81 2 ((sureL (bs.take i)).map aimR))]) (fun _=>True) 0 (zj [] ?_ ?_) (Nat.zero_le _) trivial ?_
 · try simp only [go_sem]
   try rfl
 · try simp only [go_sem]
   try rfl
 · intro i vs hi _
   by_cases hin : i < bs.length
   · obtain ⟨b,hb⟩:=opt_of_lt hin
     have hlt : (sureL (bs.take i)).length = i:=by simp only [sureL,List.length_map,List.length_take]; omega
     have hsn : sureL (bs.take (i + 1)) = sureL (bs.take i) ++ [sureA b]:=by rw [take_of_opt hb]; simp [sureL]
     rw [hsn]
     generalize sureL (bs.take i) = Z at *
     repeat refine zq ?_
     refine zb fun K hK=>?_;simp only [go_sem,hin,List.length_map];(try simp (disch:=omega) only [zI]);repeat first | intro _ | refine ⟨by omega,?_⟩
     refine hK _ ?_;clear hK K;refine zw (zk [0,2,3,4,9]) ?_;simp only [go_sem]
     repeat refine zq ?_
     refine zc rfl (fun hc=>?_) (fun hc=>?_) <;> (try simp only [go_sem] at hc)
     refine zx ?_
     try simp only [go_sem]
     repeat refine zq ?_
     refine zd ?_
     repeat refine zq ?_
     refine awp_dreg3 [(0,none),(2,some 2),(3,some 3),(4,none)] [3] follows (by decide +kernel) (by kernel_rfl) (by simp only [keysOk,List.mem_cons,List.not_mem_nil,forall_eq_or_imp,Oc.keyOf,go_sem]; simp) (by intro k hk; simp only [List.mem_cons,List.not_mem_nil,or_false] at hk; first | (subst hk; exact ⟨_,rfl⟩) | (rcases hk with rfl | rfl <;> exact ⟨_,rfl⟩) | (rcases hk with rfl | rfl | rfl <;> exact ⟨_,rfl⟩)) fun K hK=>?_
     simp only [go_sem,hb,hin,hlt,List.length_map];(try simp (disch:=omega) only [zI]);repeat first | intro _ | refine ⟨by omega,?_⟩
     refine zh (ho) rfl (by simp only [go_sem,i64,ints,hb,hin,hlt,List.length_map]) (by simp only [go_sem,i64,ints,hb,hin,hlt,List.length_map]) (by first | exact .inl rfl | exact .inr rfl) ?_
     (try simp only [go_sem,hb,hin,hlt,List.length_map]);(try simp (disch:=omega) only [zI]);repeat first | intro _ | refine ⟨by omega,?_⟩
     repeat first | intro _ | refine ⟨by omega,?_⟩
     refine hK _ ?_;clear hK K;refine zw (zk [0,2,3,4]) ?_;simp only [go_sem]
     repeat refine zq ?_
     refine zb fun K hK=>?_;simp only [go_sem];(try simp (disch:=omega) only [zI]);repeat first | intro _ | refine ⟨by omega,?_⟩
     refine hK _ ?_;clear hK K
     try simp only [go_sem]
     refine ⟨by omega,zj [] ?_ ?_⟩
     · try simp only [go_sem]
     · try simp only [go_sem]
       try simp [sureA,aimR,bedR]
   · have hie : i = bs.length:=by omega
     subst hie
     rw [List.take_length]
     have hsl : (sureL bs).length = bs.length:=by simp [sureL]
     repeat refine zq ?_
     refine zb fun K hK=>?_;simp only [go_sem,Nat.lt_irrefl,List.length_map];(try simp (disch:=omega) only [zI]);repeat first | intro _ | refine ⟨by omega,?_⟩
     refine hK _ ?_;clear hK K;refine zw (zk [2,3,9]) ?_;simp only [go_sem]
     repeat refine zq ?_
     refine zc rfl (fun hc=>?_) (fun hc=>?_) <;> (try simp only [go_sem] at hc)
     refine zf ?_;simp only [go_sem];refine zw (sub_frzB 3 1 303 (ty:=81) (sz:=2) (off:=0) (m:=bs.length) (es:=(sureL bs).map aimR) (by omega) (by omega) rfl (by simp only [go_sem,List.getElem?_cons_succ,List.getElem?_cons_zero]) (by rfl) (by simp [sureL])) ?_
     have tk1 : List.take bs.length ((sureL bs).map aimR) = (sureL bs).map aimR:=List.take_of_length_le (by simp [sureL])
     simp only [go_sem,List.drop_zero,tk1,List.set_cons_succ,List.set_cons_zero];refine zw (sub_frzP 3 3 [i64 1,aimsR (sureL bs)] (by omega) rfl rfl) ?_;refine zw (zk [2,3]) ?_;simp only [go_sem]
     repeat refine zq ?_
     refine zb fun K hK=>?_;simp only [go_sem];(try simp (disch:=omega) only [zI]);repeat first | intro _ | refine ⟨by omega,?_⟩
     refine hK _ ?_;clear hK K;refine zw (zk [2]) ?_;simp only [go_sem];refine ze ?_;simp only [go_sem]
     try exact rv_le _
structure SurT (F : List Int) (A B : List (List Int)) (n st : Nat) : Prop where
 f : F.length = st + 1
 a : A.length = n ∧ ∀ r ∈ A,r.length = st + 1
 b : B.length = n ∧ ∀ r ∈ B,r.length = st + 1
 val : ∀ k s : Nat,k < n → 2 ≤ s → s ≤ st → (A.getD k []).getD s 0 = (if 0 < F.getD s 0 ∧ F.getD s 0 ≤ 3 * ((n : Int) - k) then 1000000 else 0) ∧ (B.getD k []).getD s 0 = (if 0 < F.getD s 0 ∧ F.getD s 0 ≤ 3 * ((n : Int) - k) then 1000000 else 0)
 le : ∀ x ∈ F,-1 ≤ x ∧ x ≤ st
theorem sur_all {bs : List Int} {st g n : Nat} (h : BdsO bs) (h10 : bs.length ≤ 10) (hs : 2 ≤ st ∧ st ≤ 40) (hg : g ≤ 2) (hn : 1 ≤ n ∧ n ≤ 10) :
 ruE (suR bs st g n) = 0 ∧ SurT (fewO g bs st) (tabF (suR bs st g n) false) (tabF (suR bs st g n) true) n st:=by
 have hB : ∀ b ∈ bs,bedOk b = true:=fun b hb=>(h.bed b hb).1
 have hne : bs ≠ []:=fun e=>by have:=h.ne; subst e; simp at this
 have hE : ruE (suR bs st g n) = 0:=su_ok hB ⟨h.ne,h10⟩ (by omega) (by omega) hn
 have hlen : (suR bs st g n).ends.length = n:=rnd_len n hn.1
 have t1:=tab_rows hE false
 have t2:=tab_rows hE true
 have hst : (suR bs st g n).start.toNat = st:=by simp [suR]
 rw [hlen,hst] at t1 t2
 refine ⟨hE,few_len g bs st,t1,t2,fun k s hk h2 hs2=>?_,few_le g bs st⟩
 have hlow : lowestR (suR bs st g n) ≤ (s : Int):=by unfold lowestR; split <;> omega
 have e1:=tabF_sure (st:=st) (g:=g) hB hne hn.1 false hk hlow hs2
 have e2:=tabF_sure (st:=st) (g:=g) hB hne hn.1 true hk hlow hs2
 have hsp:=few_spec (g:=g) hB s s (Nat.le_refl _)
 rw [← few_get (n:=st) hs2] at hsp
 have h0 : ¬ endB (g : Int) bs 0 (s : Int) = true:=by unfold endB; rw [beq_iff_eq]; omega
 have hz : ¬ (0 ≤ (fewO (g : Int) bs st).getD s 0 ∧ (fewO (g : Int) bs st).getD s 0 ≤ ((0 : Nat) : Int)):=fun hh=>h0 ((hsp 0).2 hh)
 have hd:=hsp (3 * (n - k))
 have hc : (endB (g : Int) bs (3 * (n - k)) (s : Int) = true) ↔ (0 < (fewO (g : Int) bs st).getD s 0 ∧ (fewO (g : Int) bs st).getD s 0 ≤ 3 * ((n : Int) - k)):=by
  rw [hd]; omega
 simp only [hc] at e1 e2
 exact ⟨e1,e2⟩
theorem surewins_law (l : List Nat) (hl : ∀ n ∈ l,n < 256) (x0 x1 x2 : Nat) (h0 : x0 < 256) (h1 : x1 < 256) (h2 : x2 < 256) :
 ACalls Try.prog 6 [bytR l,.ag [u8Q x0,u8Q x1,u8Q x2]] (.bo true):=by
 have hk1:=pubOut_ok
 have hk2:=pubDuel_ok
 have hpb:=pbeds_ok l 4 hl (by omega)
 have hint : intsN (bedsP l 4) = ints (bsP l 4):=rfl
 rw [hint] at hpb
 have hbd:=bdsO_of hl (most:=4) (by omega)
 have hb4:=(bsP_all hl (most:=4) (by omega)).2.2.1
 generalize bsP l 4 = bs at *
 have hsu:=sure_ok bs hbd
 have hchk:=sure_chk (fun b hb=>(hbd.bed b hb).1) ⟨hbd.ne,by omega⟩
 have hwL:=wfL_chk hchk (by omega)
 have m0:=Nat.mod_lt x0 (show 3 > 0 by omega)
 have m1:=Nat.mod_lt x1 (show 19 > 0 by omega)
 have m2:=Nat.mod_lt x2 (show 4 > 0 by omega)
 have k0 : IntKind.i64.wrap (x0 : Int) = x0:=by rw [zI] <;> omega
 have k1 : IntKind.i64.wrap (x1 : Int) = x1:=by rw [zI] <;> omega
 have k2 : IntKind.i64.wrap (x2 : Int) = x2:=by rw [zI] <;> omega
 have r0 : Int.tmod (x0 : Int) 3 = ((x0 % 3 : Nat) : Int):=rfl
 have r1 : Int.tmod (x1 : Int) 19 = ((x1 % 19 : Nat) : Int):=rfl
 have r2 : Int.tmod (x2 : Int) 4 = ((x2 % 4 : Nat) : Int):=rfl
 have w1 : IntKind.i64.wrap (2 + ((x1 % 19 : Nat) : Int)) = ((2 + x1 % 19 : Nat) : Int):=by rw [zI] <;> omega
 have w2 : IntKind.i64.wrap (1 + ((x2 % 4 : Nat) : Int)) = ((1 + x2 % 4 : Nat) : Int):=by rw [zI] <;> omega
 generalize hst : 2 + x1 % 19 = st at *
 generalize hg : x0 % 3 = g at *
 generalize hn : 1 + x2 % 4 = n at *
 have hst2 : 2 ≤ st ∧ st ≤ 20:=by omega
 have hn2 : 1 ≤ n ∧ n ≤ 4:=by omega
 have hro:=rounds_ok n hn2.1 (by omega)
 have hfe:=fewest_ok bs g 3 st hbd (by omega) (by omega) (by omega)
 obtain ⟨hE,hT⟩:=sur_all (st:=st) (g:=g) (n:=n) hbd (by omega) (by omega) (by omega) (by omega)
 have hta:=table_ok (suR bs st g n) ⟨hwL⟩
 unfold tabsV at hta
 rw [if_pos hE,if_pos hE,hE] at hta
 generalize tabF (suR bs st g n) false = A at *
 generalize tabF (suR bs st g n) true = B at *
 generalize fewO (g : Int) bs st = F at *
 have hq:=tables_ok A B n st (by omega) (by omega) hT.a hT.b
 have hFl:=hT.f
 have ws : IntKind.i64.wrap ((st : Int) + 1) = (st : Int) + 1:=by rw [zI] <;> omega
 have z0 : ((0 : Int) != 0) = false:=rfl
 have e1 : (((st + 1 : Nat) : Int) != (st : Int) + 1) = false:=by simp
 refine acalls_st (rs:=[.bo true]) [.tmp 4] Try.func6 rfl (by kernel_rfl) Try.ntmps6 rfl (by simp) rfl fun C vs=>?_
 repeat refine zq ?_
 refine zb fun K hK=>?_;simp only [go_sem];(try simp (disch:=omega) only [zI]);repeat first | intro _ | refine ⟨by omega,?_⟩
 refine hK _ ?_;clear hK K;refine zw (sub_frzP 3 3 [u8Q x0,u8Q x1,u8Q x2] (by omega) rfl rfl) ?_;refine zw (zk [0,3]) ?_;simp only [go_sem]
 repeat refine zq ?_
 refine zg follows (by decide +kernel) (by kernel_rfl) fun K hK=>?_;simp only [go_sem,k2,r2,w2];(try simp (disch:=omega) only [zI])
 refine zh (hpb) rfl (by simp only [go_sem,i64,ints,k2,r2,w2]) (by simp only [go_sem,i64,ints,k2,r2,w2]) (by first | exact .inl rfl | exact .inr rfl) ?_
 (try simp only [go_sem,k2,r2,w2]);(try simp (disch:=omega) only [zI]);repeat first | intro _ | refine ⟨by omega,?_⟩
 repeat first | intro _ | refine ⟨by omega,?_⟩
 refine hK _ ?_;clear hK K;refine zw (zk [3,5,6]) ?_;simp only [go_sem]
 repeat refine zq ?_
 refine zg follows (by decide +kernel) (by kernel_rfl) fun K hK=>?_;simp only [go_sem,k0,k1,r0,r1,w1];(try simp (disch:=omega) only [zI])
 refine zh (hsu) rfl (by simp only [go_sem,i64,ints,k0,k1,r0,r1,w1]) (by simp only [go_sem,i64,ints,k0,k1,r0,r1,w1]) (by first | exact .inl rfl | exact .inr rfl) ?_
 (try simp only [go_sem,k0,k1,r0,r1,w1]);(try simp (disch:=omega) only [zI])
 refine zh (hro) rfl (by simp only [go_sem,i64,ints,k0,k1,r0,r1,w1]) (by simp only [go_sem,i64,ints,k0,k1,r0,r1,w1]) (by first | exact .inl rfl | exact .inr rfl) ?_
 (try simp only [go_sem,k0,k1,r0,r1,w1]);(try simp (disch:=omega) only [zI]);repeat first | intro _ | refine ⟨by omega,?_⟩
 repeat first | intro _ | refine ⟨by omega,?_⟩
 refine hK _ ?_;clear hK K;refine zw (sub_frzP 7 7 [i64 1,aimsR (sureL bs),i64 (st : Int),i64 (g : Int),spansR (rndL n)] (by omega) rfl rfl) ?_;refine zw (zk [5,6,7]) ?_;simp only [go_sem]
 repeat refine zq ?_
 refine zb fun K hK=>?_;simp only [go_sem];(try simp (disch:=omega) only [zI])
 refine zh (hfe) rfl (by simp only [go_sem,i64,ints]) (by simp only [go_sem,i64,ints]) (by first | exact .inl rfl | exact .inr rfl) ?_
 (try simp only [go_sem]);(try simp (disch:=omega) only [zI]);repeat first | intro _ | refine ⟨by omega,?_⟩
 refine hK _ ?_;clear hK K;refine zw (zk [6,7,8,9]) ?_;simp only [go_sem]
 repeat refine zq ?_
 refine zb fun K hK=>?_;simp only [go_sem];(try simp (disch:=omega) only [zI])
 refine zh (hta) rfl (by simp only [go_sem,i64,ints,ruV,ruC,suR]) (by simp only [go_sem,i64,ints,ruV,ruC,suR]) (by first | exact .inl rfl | exact .inr rfl) ?_
 (try simp only [go_sem,ruV,ruC,suR]);(try simp (disch:=omega) only [zI]);repeat first | intro _ | refine ⟨by omega,?_⟩
 refine hK _ ?_;clear hK K;refine zw (zk [6,7,8,9,10,11,12]) ?_;simp only [go_sem]
 repeat refine zq ?_
 refine zb fun K hK=>?_;simp only [go_sem,z0,hFl,ws,e1,List.length_map,bne_self_eq_false];(try simp (disch:=omega) only [zI]);repeat first | intro _ | refine ⟨by omega,?_⟩
 refine zh (hq) rfl (by simp only [go_sem,i64,ints,z0,hFl,ws,e1]) (by simp only [go_sem,i64,ints,z0,hFl,ws,e1]) (by first | exact .inl rfl | exact .inr rfl) ?_
 (try simp only [go_sem,z0,hFl,ws,e1]);(try simp (disch:=omega) only [zI]);repeat first | intro _ | refine ⟨by omega,?_⟩
 repeat first | intro _ | refine ⟨by omega,?_⟩
 refine hK _ ?_;clear hK K;refine zw (zk [6,7,8,10,11,75]) ?_;simp only [go_sem]
 repeat refine zq ?_
 refine zc rfl (fun hc=>?_) (fun hc=>?_) <;> (try simp only [go_sem] at hc)
 refine zx ?_
 try simp only [go_sem]
 repeat refine zq ?_
 refine zb fun K hK=>?_;simp only [go_sem];(try simp (disch:=omega) only [zI]);repeat first | intro _ | refine ⟨by omega,?_⟩
 refine hK _ ?_;clear hK K;refine zw (zk [6,7,8,10,11,13]) ?_;simp only [go_sem]
 repeat refine zq ?_
 refine zd ?_
 refine awp_uptoV (n:=127) n (fun k vs=>[(6,.r (i64 (n : Int))),(7,.r (.rp [i64 1,aimsR (sureL bs),i64 (st : Int),i64 (g : Int),spansR (rndL n)])),(8,.r (ints F)),(10,.r (tabR A)),(11,.r (tabR B)),(13,.r (i64 (k : Int)))])
  (fun k vs=>[]) (fun _=>True) 0 (zj [] ?_ ?_) (Nat.zero_le _) trivial ?_
 · try simp only [go_sem]
   try rfl
 · try simp only [go_sem]
   try rfl
 · intro k vs hk _
   by_cases hkn : k < n
   · obtain ⟨ra,hra⟩:=opt_of_lt (l:=A) (i:=k) (by rw [hT.a.1]; omega)
     obtain ⟨rb,hrb⟩:=opt_of_lt (l:=B) (i:=k) (by rw [hT.b.1]; omega)
     have la:=hT.a.2 ra (mem_of_opt hra)
     have lb:=hT.b.2 rb (mem_of_opt hrb)
     have kA:=hT.a.1
     have kB:=hT.b.1
     have v1 : IntKind.i64.wrap ((n : Int) - (k : Int)) = (n : Int) - k:=by rw [zI] <;> omega
     have v2 : IntKind.i64.wrap (3 * ((n : Int) - (k : Int))) = 3 * ((n : Int) - k):=by rw [zI] <;> omega
     repeat refine zq ?_
     refine zb fun K hK=>?_;simp only [go_sem,hkn];(try simp (disch:=omega) only [zI]);repeat first | intro _ | refine ⟨by omega,?_⟩
     refine hK _ ?_;clear hK K;refine zw (zk [6,7,8,10,11,13,78]) ?_;simp only [go_sem]
     repeat refine zq ?_
     refine zc rfl (fun hc=>?_) (fun hc=>?_) <;> (try simp only [go_sem] at hc)
     refine zx ?_
     try simp only [go_sem]
     repeat refine zq ?_
     refine zd ?_
     repeat refine zq ?_
     refine zb fun K hK=>?_;simp only [go_sem];(try simp (disch:=omega) only [zI]);repeat first | intro _ | refine ⟨by omega,?_⟩
     refine hK _ ?_;clear hK K;refine zw (zk [6,7,8,10,11,13,14]) ?_;simp only [go_sem]
     repeat refine zq ?_
     refine zd ?_
     refine awp_uptoV (n:=127) (st - 1) (fun y vs=>[(6,.r (i64 (n : Int))),(7,.r (.rp [i64 1,aimsR (sureL bs),i64 (st : Int),i64 (g : Int),spansR (rndL n)])),(8,.r (ints F)),(10,.r (tabR A)),(11,.r (tabR B)),(13,.r (i64 (k : Int))),(14,.r (i64 ((2 + y : Nat) : Int)))])
      (fun y vs=>[]) (fun _=>True) 0 (zj [] ?_ ?_) (Nat.zero_le _) trivial ?_
     · try simp only [go_sem]
       try rfl
     · try simp only [go_sem]
       try rfl
     · intro y vs hy _
       by_cases hyn : y < st - 1
       · obtain ⟨s,hs⟩ : ∃ s,s = 2 + y:=⟨_,rfl⟩
         have hs2 : 2 ≤ s ∧ s ≤ st:=by omega
         obtain ⟨f,hf⟩:=opt_of_lt (l:=F) (i:=s) (by omega)
         obtain ⟨va,hva⟩:=opt_of_lt (l:=ra) (i:=s) (by omega)
         obtain ⟨vb,hvb⟩:=opt_of_lt (l:=rb) (i:=s) (by omega)
         obtain ⟨q1,q2⟩:=hT.val k s hkn hs2.1 hs2.2
         simp only [List.getD_eq_getElem?_getD,hra,Option.getD_some,hva,hf] at q1
         simp only [List.getD_eq_getElem?_getD,hrb,Option.getD_some,hvb,hf] at q2
         have hsF : s < F.length:=by omega
         have hsA : s < st + 1:=by omega
         have hfM:=hT.le f (mem_of_opt hf)
         have hy1 : 2 + (y + 1) = s + 1:=by omega
         rw [hy1,← hs]
         generalize 2 + y = zz at *
         repeat refine zq ?_
         refine zb fun K hK=>?_;simp only [go_sem,hs2.2];(try simp (disch:=omega) only [zI]);repeat first | intro _ | refine ⟨by omega,?_⟩
         refine hK _ ?_;clear hK K;refine zw (zk [6,7,8,10,11,13,14,84]) ?_;simp only [go_sem]
         repeat refine zq ?_
         refine zc rfl (fun hc=>?_) (fun hc=>?_) <;> (try simp only [go_sem] at hc)
         refine zx ?_
         try simp only [go_sem]
         repeat refine zq ?_
         refine zd ?_
         repeat refine zq ?_
         refine zb fun K hK=>?_;simp only [go_sem];(try simp (disch:=omega) only [zI]);repeat first | intro _ | refine ⟨by omega,?_⟩
         refine hK _ ?_;clear hK K;refine zw (zk [6,7,8,10,11,13,14,15]) ?_;simp only [go_sem]
         repeat refine zq ?_
         refine awp_joinV (n:=127) (fun (_ : Unit) vs=>[(6,.r (i64 (n : Int))),(7,.r (.rp [i64 1,aimsR (sureL bs),i64 (st : Int),i64 (g : Int),spansR (rndL n)])),(8,.r (ints F)),(10,.r (tabR A)),(11,.r (tabR B)),(13,.r (i64 (k : Int))),(14,.r (i64 (s : Int))),(15,.r (i64 0)),(102,.r (.bo (decide (0 < f) && decide (f ≤ 3 * ((n : Int) - k)))))])
          (fun _ vs=>[]) (fun _=>True) (fun _ h=>h) ?_ ?_
         · cases c0 : decide (0 < f)
           · repeat refine zq ?_
             refine zb fun K hK=>?_;simp only [go_sem,hf,hsF,hFl,hsA,c0,List.length_map];(try simp (disch:=omega) only [zI]);repeat first | intro _ | refine ⟨by omega,?_⟩
             repeat first | intro _ | refine ⟨by omega,?_⟩
             refine hK _ ?_;clear hK K
             try simp only [go_sem]
             try simp only [Bool.false_and]
             refine ⟨(),zj [] ?_ ?_⟩
             · try simp only [go_sem]
             · try simp only [go_sem]
           · repeat refine zq ?_
             refine zb fun K hK=>?_;simp only [go_sem,hf,hsF,hFl,hsA,c0,v1,v2,List.length_map];(try simp (disch:=omega) only [zI]);repeat first | intro _ | refine ⟨by omega,?_⟩
             repeat first | intro _ | refine ⟨by omega,?_⟩
             refine hK _ ?_;clear hK K
             try simp only [go_sem]
             try simp only [Bool.true_and]
             refine ⟨(),zj [] ?_ ?_⟩
             · try simp only [go_sem]
             · try simp only [go_sem]
         intro _ vs _
         have hval : va = (if (decide (0 < f) && decide (f ≤ 3 * ((n : Int) - k))) = true then 1000000 else 0) ∧ vb = (if (decide (0 < f) && decide (f ≤ 3 * ((n : Int) - k))) = true then 1000000 else 0):=by
          simp only [Bool.and_eq_true,decide_eq_true_eq];exact ⟨q1,q2⟩
         generalize (decide (0 < f) && decide (f ≤ 3 * ((n : Int) - k))) = q at *
         refine awp_joinV (n:=127) (fun (_ : Unit) vs=>[(6,.r (i64 (n : Int))),(7,.r (.rp [i64 1,aimsR (sureL bs),i64 (st : Int),i64 (g : Int),spansR (rndL n)])),(8,.r (ints F)),(10,.r (tabR A)),(11,.r (tabR B)),(13,.r (i64 (k : Int))),(14,.r (i64 (s : Int))),(15,.r (i64 (if q = true then 1000000 else 0)))])
          (fun _ vs=>[]) (fun _=>True) (fun _ h=>h) ?_ ?_
         · cases q
           · repeat refine zq ?_
             refine zc rfl (fun hc=>?_) (fun hc=>?_) <;> (try simp only [go_sem] at hc)
             refine zx ?_
             try simp only [go_sem]
             refine ⟨(),zj [] ?_ ?_⟩
             · try simp only [go_sem]
               try rfl
             · try simp only [go_sem]
           · repeat refine zq ?_
             refine zc rfl (fun hc=>?_) (fun hc=>?_) <;> (try simp only [go_sem] at hc)
             repeat refine zq ?_
             refine zb fun K hK=>?_;simp only [go_sem];(try simp (disch:=omega) only [zI]);repeat first | intro _ | refine ⟨by omega,?_⟩
             refine hK _ ?_;clear hK K
             try simp only [go_sem]
             refine ⟨(),zj [] ?_ ?_⟩
             · try simp only [go_sem]
               try rfl
             · try simp only [go_sem]
         intro _ vs _
         obtain ⟨hv1,hv2⟩:=hval
         rw [← hv1] at hv2 ⊢
         subst hv2
         repeat refine zq ?_
         refine zb fun K hK=>?_;simp only [go_sem,hra,hrb,hva,hvb,la,lb,kA,kB,hkn,hsA,bne_self_eq_false,List.length_map];(try simp (disch:=omega) only [zI]);repeat first | intro _ | refine ⟨by omega,?_⟩
         repeat first | intro _ | refine ⟨by omega,?_⟩
         refine hK _ ?_;clear hK K;refine zw (zk [6,7,8,10,11,13,14,122]) ?_;simp only [go_sem]
         repeat refine zq ?_
         refine zc rfl (fun hc=>?_) (fun hc=>?_) <;> (try simp only [go_sem] at hc)
         refine zx ?_
         try simp only [go_sem]
         repeat refine zq ?_
         refine zb fun K hK=>?_;simp only [go_sem];(try simp (disch:=omega) only [zI]);repeat first | intro _ | refine ⟨by omega,?_⟩
         refine hK _ ?_;clear hK K
         try simp only [go_sem]
         refine ⟨by omega,zj [] ?_ ?_⟩
         · try simp only [go_sem]
         · try simp only [go_sem]
       · have hye : 2 + y = st + 1:=by omega
         rw [hye]
         have g2 : ¬ (st + 1 ≤ st):=by omega
         have g3 : decide (((st + 1 : Nat) : Int) ≤ (st : Int)) = false:=decide_eq_false (by omega)
         have g4 : ¬ ((st : Int) + 1 ≤ (st : Int)):=by omega
         repeat refine zq ?_
         refine zb fun K hK=>?_;simp only [go_sem,g3,g2,g4];(try simp (disch:=omega) only [zI]);repeat first | intro _ | refine ⟨by omega,?_⟩
         refine hK _ ?_;clear hK K;refine zw (zk [6,7,8,10,11,13,84]) ?_;simp only [go_sem]
         repeat refine zq ?_
         refine zc rfl (fun hc=>?_) (fun hc=>?_) <;> (try simp only [go_sem] at hc)
         refine zf ?_;simp only [go_sem]
         repeat refine zq ?_
         refine zb fun K hK=>?_;simp only [go_sem];(try simp (disch:=omega) only [zI]);repeat first | intro _ | refine ⟨by omega,?_⟩
         refine hK _ ?_;clear hK K
         try simp only [go_sem]
         refine ⟨by omega,zj [] ?_ ?_⟩
         · try simp only [go_sem]
         · try simp only [go_sem]
   · have hke : k = n:=by omega
     subst hke
     repeat refine zq ?_
     refine zb fun K hK=>?_;simp only [go_sem,Nat.lt_irrefl];(try simp (disch:=omega) only [zI]);repeat first | intro _ | refine ⟨by omega,?_⟩
     refine hK _ ?_;clear hK K;refine zw (zk [78]) ?_;simp only [go_sem]
     repeat refine zq ?_
     refine zc rfl (fun hc=>?_) (fun hc=>?_) <;> (try simp only [go_sem] at hc)
     refine zf ?_;simp only [go_sem]
     repeat refine zq ?_
     refine zb fun K hK=>?_;simp only [go_sem];(try simp (disch:=omega) only [zI])
     refine zh (hk1) rfl (by simp only [go_sem,i64,ints]) (by simp only [go_sem,i64,ints]) (by first | exact .inl rfl | exact .inr rfl) ?_
     (try simp only [go_sem]);(try simp (disch:=omega) only [zI])
     refine zh (hk2) rfl (by simp only [go_sem,i64,ints]) (by simp only [go_sem,i64,ints]) (by first | exact .inl rfl | exact .inr rfl) ?_
     (try simp only [go_sem]);(try simp (disch:=omega) only [zI]);repeat first | intro _ | refine ⟨by omega,?_⟩
     refine hK _ ?_;clear hK K;refine zw (zk [4]) ?_;simp only [go_sem];refine ze ?_;simp only [go_sem]
     try rfl
end Go.Proofs.Ytlljkgiomkmjbaa.Du

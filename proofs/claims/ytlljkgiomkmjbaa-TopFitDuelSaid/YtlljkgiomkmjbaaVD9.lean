/- Part 9 of the texts of this claim. -/
import Derived.Test.YtlljkgiomkmjbaaVD8
import Derived.Test.YtlljkgiomkmjbaaVD7
namespace Go.Proofs.Ytlljkgiomkmjbaa.Du
open Go Go.Oc
set_option linter.unusedSimpArgs false
set_option linter.unusedVariables false
set_option maxRecDepth 8000
set_option maxHeartbeats 4000000
theorem span_mk (a b : Int) : ACalls Try.prog 10 [i64 a,i64 b] (.ag [i64 a,i64 b]):=by
 refine acalls_st (rs:=[.ag [i64 a,i64 b]]) [.cell 4 30] Try.func10 rfl (by kernel_rfl) Try.ntmps10 rfl (by simp) rfl fun C vs=>?_
 repeat refine zq ?_
 refine zb fun K hK=>?_;simp only [go_sem];(try simp (disch:=omega) only [zI]);repeat first | intro _ | refine ⟨by omega,?_⟩
 refine hK _ ?_;clear hK K;refine zw (zk [0,1,4]) ?_;simp only [go_sem]
 repeat refine zq ?_
 refine zb fun K hK=>?_;simp only [go_sem];(try simp (disch:=omega) only [zI]);repeat first | intro _ | refine ⟨by omega,?_⟩
 refine hK _ ?_;clear hK K;refine zw (zk [4]) ?_;simp only [go_sem];refine ze ?_;simp only [go_sem]
def aimJ (d : Int) (A : List (List Nat)) (j : Nat) : Am:=if A.length = 0 then ⟨201,headD d []⟩ else scA d (A.getD j [])
def aimsJ (d : Int) (A : List (List Nat)) (i : Nat) : List Am:=(List.range i).map (aimJ d A)
def vI (b : Nat → Bool) (j : Nat) (v : AV) : AV:=if b j then v else .r .un
def sgF (A0 : RV) (i k P n : Nat) (lf lo hi bd : Int) (M : List (List RV)) (b : Nat → Bool) (vs : Nat → Nat) : List (Nat × AV) :=
 [(1,.r A0),(4,.pt 4 (vs 4) 0),(5,.pt 5 (vs 5) 0),(6,.r (i64 (i : Int))),(7,.pt 7 (vs 7) 0),(8,.r (i64 (bif b 19 then lf - lo else lf))),(9,.r (i64 (k : Int))),(11,.r (i64 (P : Int))),(14,.r (i64 lo)),(15,.r (.rp [i64 bd,i64 lo,i64 hi])),
  (119,vI b 0 (.r .ns)),
  (120,vI b 1 (.pt 7 (vs 7) 1)),
  (121,vI b 2 (.r (.sl 3 M))),
  (122,vI b 3 (.r (i64 (P : Int)))),
  (123,vI b 4 (.r (.sl 3 (M.take P)))),
  (124,vI b 5 (bif b 8 then .r .un else .os 124 (vs 124) 3 0 P)),
  (125,vI b 6 (.r (.ag [i64 bd,i64 lo,i64 hi]))),
  (126,vI b 7 (.r (.sl 3 [[i64 bd,i64 lo,i64 hi]]))),
  (127,vI b 8 (bif b 13 then .r .un else .os 124 (vs 124) 3 0 (P + 1))),
  (128,vI b 9 (.pt 7 (vs 7) 1)),
  (129,vI b 10 (.r (.sl 3 M))),
  (130,vI b 11 (.r (i64 (P : Int)))),
  (131,vI b 12 (.r (.sl 3 (M.drop P)))),
  (132,vI b 13 (.os 124 (vs 124) 3 0 (P + 1 + (n - P)))),
  (133,vI b 14 (.r (i64 lf))),
  (134,vI b 15 (.r (i64 lo))),
  (135,vI b 16 (.r (i64 (lf - lo)))),
  (136,vI b 17 (.pt 7 (vs 7) 1))]
def sgR (D i P n : Nat) (lo hi bd : Int) (M : List (List RV)) (JR : List (List RV)) (b : Nat → Bool) (vs : Nat → Nat) : List (Nat × RowC) :=
 [(4,.box [.r (i64 0),.r .ns]),(5,.box [.r (i64 (D : Int)),.os 155 (vs 155) 2 0 i]),(7,.box [.r (i64 201),bif b 18 then .os 124 (vs 124) 3 0 (P + 1 + (n - P)) else .r (.sl 3 M)])] ++
  ((bif b 5 then [(124,.arr 83 3 (bif b 8 then (bif b 13 then M.take P ++ ([i64 bd,i64 lo,i64 hi] :: M.drop P) else M.take P ++ [[i64 bd,i64 lo,i64 hi]]) else M.take P))] else []) ++ [(155,.arr 81 2 JR)])
theorem one_mk (n : Int) : ACalls Try.prog 11 [i64 n] (.ag [i64 n,i64 n]):=by
 refine acalls_st (rs:=[.ag [i64 n,i64 n]]) [.cell 2 30] Try.func11 rfl (by kernel_rfl) Try.ntmps11 rfl (by simp) rfl fun C vs=>?_
 repeat refine zq ?_
 refine zb fun K hK=>?_;simp only [go_sem];(try simp (disch:=omega) only [zI]);repeat first | intro _ | refine ⟨by omega,?_⟩
 refine hK _ ?_;clear hK K;refine zw (zk [0,2]) ?_;simp only [go_sem]
 repeat refine zq ?_
 refine zb fun K hK=>?_;simp only [go_sem];(try simp (disch:=omega) only [zI]);repeat first | intro _ | refine ⟨by omega,?_⟩
 refine hK _ ?_;clear hK K;refine zw (zk [2]) ?_;simp only [go_sem];refine ze ?_;simp only [go_sem]
theorem worth_ok (b : Int) (hb : 0 ≤ b ∧ b ≤ 499) : ACalls Try.prog 29 [i64 b] (i64 (scoreOf b)):=by
 have e1 : Int.tdiv b 100 = b / 100:=Int.tdiv_eq_ediv_of_nonneg hb.1
 have e2 : Int.tmod b 100 = b % 100:=Int.tmod_eq_emod_of_nonneg hb.1
 have h1 : 0 ≤ b / 100 ∧ b / 100 ≤ 4:=by omega
 have h2 : 0 ≤ b % 100 ∧ b % 100 ≤ 99:=by omega
 have h3:=Int.mul_nonneg h1.1 h2.1
 have h4:=Int.mul_le_mul h1.2 h2.2 h2.1 (show (0 : Int) ≤ 4 by omega)
 have w1 : IntKind.i64.wrap (b / 100) = b / 100:=by rw [zI] <;> omega
 have w2 : IntKind.i64.wrap (b % 100) = b % 100:=by rw [zI] <;> omega
 have w3 : IntKind.i64.wrap (b / 100 * (b % 100)) = b / 100 * (b % 100):=by rw [zI] <;> omega
 have hs : scoreOf b = b / 100 * (b % 100):=rfl
 rw [hs]
 refine acalls_st (rs:=[i64 (b / 100 * (b % 100))]) [.tmp 2] Try.func29 rfl (by kernel_rfl) Try.ntmps29 rfl (by simp) rfl fun C vs=>?_
 repeat refine zq ?_
 refine zb fun K hK=>?_;simp only [go_sem];(try simp (disch:=omega) only [zI]);repeat first | intro _ | refine ⟨by omega,?_⟩
 refine hK _ ?_;clear hK K;refine zw (zk [0,2]) ?_;simp only [go_sem]
 repeat refine zq ?_
 refine zb fun K hK=>?_;simp only [go_sem,e1,e2,w1,w2,w3];(try simp (disch:=omega) only [zI]);repeat first | intro _ | refine ⟨by omega,?_⟩
 repeat first | intro _ | refine ⟨by omega,?_⟩
 refine hK _ ?_;clear hK K;refine zw (zk [2]) ?_;simp only [go_sem];refine ze ?_;simp only [go_sem]
def rndL (n : Nat) : List Sp:=List.replicate (n - 1) (0,0) ++ [(1000000,1000000)]
def popB (g b : Int) : Bool:=(b != 0) && (((g == 0) || (b / 100 == 2)) || ((g == 2) && decide (2 < b / 100)))
abbrev bytR (l : List Nat) : RV:=.sl 1 (l.map fun n=>[u8Q n])
def bytA (l : List Nat) (i : Nat) : Nat:=if l.length = 0 then 0 else l.getD (i % l.length) 0
theorem bytA_lt {l : List Nat} (h : ∀ n ∈ l,n < 256) (i : Nat) : bytA l i < 256:=by
 unfold bytA
 split
 · omega
 · rename_i hl
   obtain ⟨x,hx⟩:=opt_of_lt (l:=l) (i:=i % l.length) (Nat.mod_lt _ (by omega))
   rw [List.getD_eq_getElem?_getD,hx]
   exact h x (mem_of_opt hx)
theorem pbyte_ok (l : List Nat) (i : Nat) (hl : ∀ n ∈ l,n < 256) : ACalls Try.prog 51 [bytR l,i64 (i : Int)] (i64 (bytA l i : Int)):=by
 refine acalls_st (rs:=[i64 (bytA l i : Int)]) [.tmp 4] Try.func51 rfl (by kernel_rfl) Try.ntmps51 rfl (by simp) rfl fun C vs=>?_
 repeat refine zq ?_
 refine zb fun K hK=>?_;simp only [go_sem];(try simp (disch:=omega) only [zI]);repeat first | intro _ | refine ⟨by omega,?_⟩
 refine hK _ ?_;clear hK K;refine zw (zk [0,1]) ?_;simp only [go_sem]
 cases hE : (l.length == 0)
 · have hne : l.length ≠ 0:=by simpa using hE
   have hm:=Nat.mod_lt i (show l.length > 0 by omega)
   obtain ⟨x,hx⟩:=opt_of_lt hm
   have hx2:=hl x (mem_of_opt hx)
   have e1 : bytA l i = x:=by unfold bytA; rw [if_neg hne,List.getD_eq_getElem?_getD,hx]; rfl
   have e2 : Int.tmod (i : Int) (l.length : Int) = ((i % l.length : Nat) : Int):=rfl
   have e3 : ((l.length : Int) == 0) = false:=by rw [beq_eq_false_iff_ne]; omega
   have e4 : (l.length : Int) ≠ 0:=by omega
   have e6 : IntKind.i64.wrap (x : Int) = x:=by rw [zI] <;> omega
   repeat refine zq ?_
   refine zb fun K hK=>?_;simp only [go_sem,hE,e3,List.length_map];(try simp (disch:=omega) only [zI]);repeat first | intro _ | refine ⟨by omega,?_⟩
   refine hK _ ?_;clear hK K;refine zw (zk [0,1,7]) ?_;simp only [go_sem]
   repeat refine zq ?_
   refine zc rfl (fun hc=>?_) (fun hc=>?_) <;> (try simp only [go_sem] at hc)
   refine zx ?_
   try simp only [go_sem]
   have e5 : IntKind.i64.wrap ((i % l.length : Nat) : Int) = ((i % l.length : Nat) : Int):=by rw [zI] <;> omega
   generalize i % l.length = j at *
   repeat refine zq ?_
   refine zb fun K hK=>?_;simp only [go_sem,e2,hx,e4,e5,e6,hm,List.length_map];(try simp (disch:=omega) only [zI]);repeat first | intro _ | refine ⟨by omega,?_⟩
   repeat first | intro _ | refine ⟨by omega,?_⟩
   refine hK _ ?_;clear hK K;refine ze ?_;simp only [go_sem];rw [e1]
 · have hne : l.length = 0:=by simpa using hE
   have e1 : bytA l i = 0:=by unfold bytA; rw [if_pos hne]
   have e3 : ((l.length : Int) == 0) = true:=by rw [beq_iff_eq]; omega
   repeat refine zq ?_
   refine zb fun K hK=>?_;simp only [go_sem,hE,e3,List.length_map];(try simp (disch:=omega) only [zI]);repeat first | intro _ | refine ⟨by omega,?_⟩
   refine hK _ ?_;clear hK K;refine zw (zk [0,1,7]) ?_;simp only [go_sem]
   repeat refine zq ?_
   refine zc rfl (fun hc=>?_) (fun hc=>?_) <;> (try simp only [go_sem] at hc)
   repeat refine zq ?_
   refine zb fun K hK=>?_;simp only [go_sem];(try simp (disch:=omega) only [zI]);repeat first | intro _ | refine ⟨by omega,?_⟩
   refine hK _ ?_;clear hK K;refine ze ?_;simp only [go_sem]
   rw [e1]; rfl
abbrev btA (B : List Bool) : List AV:=(B.map fun b=>RV.bo b).map AV.r
theorem aR_drop {L : List RV} {i : Nat} {x : RV} (h : L[i]? = some x) : (L.map AV.r).drop i = .r x :: (L.map AV.r).drop (i + 1):=by
 refine drop_of_opt ?_
 simp [h]
theorem aR_set {L : List RV} {i : Nat} {y : RV} (h : i < L.length) : (L.map AV.r).take i ++ (AV.r y :: (L.map AV.r).drop (i + 1)) = (L.set i y).map AV.r:=by
 rw [show (L.set i y).map AV.r = (L.map AV.r).set i (.r y) by simp [List.map_set],List.set_eq_take_append_cons_drop,if_pos (by simpa using h)]
theorem btA_get {B : List Bool} {i : Nat} {x d : Bool} (h : B.getD i d = x) (hi : i < B.length) : (List.drop i (btA B)).headD (AV.r RV.un) = AV.r (.bo x):=by
 obtain ⟨y,hy⟩:=opt_of_lt (l:=B) (i:=i) hi
 rw [List.getD_eq_getElem?_getD,hy] at h
 simp only [Option.getD_some] at h
 subst h
 rw [aR_drop (L:=B.map fun b=>RV.bo b) (x:=.bo y) (by rw [List.getElem?_map,hy]; rfl)]
 rfl
theorem btA_len (B : List Bool) : (btA B).length = B.length:=by simp
theorem ty149 : tyq Try.prog 149 = some ⟨.arr 500 1 false,500,true,List.replicate 500 (.bo false)⟩:=by kernel_rfl
def bedP (n : Nat) : Nat:=if 240 ≤ n then 125 + 100 * (n % 2) else 100 * (1 + n % 3) + 1 + n / 3 % 20
theorem bedP_lt {n : Nat} : 101 ≤ bedP n ∧ bedP n ≤ 320:=by
 unfold bedP
 split <;> omega
def thereB (l : List Nat) : Nat → List Bool
 | 0=>List.replicate 500 false
 | i + 1=>(thereB l i).set (bedP (bytA l i)) true
theorem there_len (l : List Nat) : ∀ i,(thereB l i).length = 500
 | 0=>by simp [thereB]
 | i + 1=>by simp [thereB,there_len l i]
def rndN (l : List Nat) (most : Nat) : Nat:=max 1 (min most l.length)
def hereB (B : List Bool) (k : Nat) : List Nat:=(List.range k).filter fun b=>B.getD b false
theorem here_snoc (B : List Bool) (k : Nat) : hereB B (k + 1) = hereB B k ++ if B.getD k false = true then [k] else []:=by
 unfold hereB
 rw [List.range_succ,List.filter_append]
 congr 1
 simp only [List.filter_cons,List.filter_nil]
def bedsP (l : List Nat) (most : Nat) : List Nat:=hereB (thereB l (rndN l most)) 500
abbrev intsN (l : List Nat) : RV:=ints (l.map fun n : Nat=>(n : Int))
theorem pbeds_ok (l : List Nat) (most : Nat) (hl : ∀ n ∈ l,n < 256) (hm : 1 ≤ most ∧ most ≤ 100) : ACalls Try.prog 17 [bytR l,i64 (most : Int)] (intsN (bedsP l most)):=by
 refine acalls_st (rs:=[intsN (bedsP l most)]) [.tmp 4] Try.func17 rfl (by kernel_rfl) Try.ntmps17 rfl (by simp) rfl fun C vs=>?_
 repeat refine zq ?_
 refine zb fun K hK=>?_;simp only [go_sem];(try simp (disch:=omega) only [zI]);repeat first | intro _ | refine ⟨by omega,?_⟩
 refine hK _ ?_;clear hK K;refine zw (zk [0,1]) ?_;simp only [go_sem]
 repeat refine zq ?_
 refine zb fun K hK=>?_;simp only [go_sem,ty149];(try simp (disch:=omega) only [zI]);repeat first | intro _ | refine ⟨by omega,?_⟩
 refine hK _ ?_;clear hK K;refine zw (sub_own 6 216 69 1 (by omega) rfl) ?_;refine zw (zk [0,1,5,6]) ?_;simp only [go_sem]
 repeat refine zq ?_
 refine zb fun K hK=>?_;simp only [go_sem];(try simp (disch:=omega) only [zI]);repeat first | intro _ | refine ⟨by omega,?_⟩
 refine hK _ ?_;clear hK K;refine zw (zk [0,1,5,6,7]) ?_;simp only [go_sem]
 repeat refine zq ?_
 have hrn : 1 ≤ rndN l most ∧ rndN l most ≤ 100:=by unfold rndN; omega
 refine awp_joinV (n:=60) (fun (_ : Unit) vs=>[(5,.pt 5 (vs 5) 0),(6,.os 216 (vs 216) 1 0 0)]) (fun _ vs=>[(5,.box (btA (thereB l (rndN l most)))),(216,.arr 69 1 [])]) (fun _=>True) (fun _ h=>h) ?_ ?_
 · repeat refine zq ?_
   refine zd ?_
   refine awp_uptoV (n:=60) (rndN l most) (fun i vs=>[(0,.r (bytR l)),(1,.r (i64 (most : Int))),(5,.pt 5 (vs 5) 0),(6,.os 216 (vs 216) 1 0 0),(7,.r (i64 (i : Int)))])
    (fun i vs=>[(5,.box (btA (thereB l i))),(216,.arr 69 1 [])]) (fun _=>True) 0 (zj [] ?_ ?_) (Nat.zero_le _) trivial ?_
   · try simp only [go_sem]
     try rfl
   · try simp only [go_sem]
     try rfl
   · intro i vs hi _
     by_cases hin : i < rndN l most
     · have hB:=there_len l i
       have hnx : thereB l (i + 1) = (thereB l i).set (bedP (bytA l i)) true:=rfl
       rw [hnx]
       generalize thereB l i = B at *
       have hb8:=bytA_lt hl i
       have hbp:=bedP_lt (n:=bytA l i)
       have hby:=pbyte_ok l i hl
       repeat refine zq ?_
       refine awp_joinV (n:=60) (fun (_ : Unit) vs=>[(0,.r (bytR l)),(1,.r (i64 (most : Int))),(5,.pt 5 (vs 5) 0),(6,.os 216 (vs 216) 1 0 0),(7,.r (i64 (i : Int))),(25,.r (.bo true))]) (fun _ vs=>[(5,.box (btA B)),(216,.arr 69 1 [])]) (fun _=>True) (fun _ h=>h) ?_ ?_
       · by_cases hi0 : i = 0
         · subst hi0
           repeat refine zq ?_
           refine zb fun K hK=>?_;simp only [go_sem,beq_self_eq_true];(try simp (disch:=omega) only [zI]);repeat first | intro _ | refine ⟨by omega,?_⟩
           refine hK _ ?_;clear hK K
           try simp only [go_sem]
           refine ⟨(),zj [] ?_ ?_⟩
           · try simp only [go_sem]
           · try simp only [go_sem]
         · have q0 : ((i : Int) == 0) = false:=by rw [beq_eq_false_iff_ne]; omega
           have q0' : (i == 0) = false:=by rw [beq_eq_false_iff_ne]; omega
           have q1 : i < l.length:=by unfold rndN at hin; omega
           have q2 : i < most:=by unfold rndN at hin; omega
           have q3 : decide ((i : Int) < (most : Int)) = true:=decide_eq_true (by omega)
           repeat refine zq ?_
           refine zb fun K hK=>?_;simp only [go_sem,q0,q0',q1,q2,q3,List.length_map];(try simp (disch:=omega) only [zI]);repeat first | intro _ | refine ⟨by omega,?_⟩
           repeat first | intro _ | refine ⟨by omega,?_⟩
           refine hK _ ?_;clear hK K
           try simp only [go_sem]
           refine ⟨(),zj [] ?_ ?_⟩
           · try simp only [go_sem]
           · try simp only [go_sem]
       intro _ vs _
       repeat refine zq ?_
       refine zc rfl (fun hc=>?_) (fun hc=>?_) <;> (try simp only [go_sem] at hc)
       refine zx ?_
       try simp only [go_sem]
       repeat refine zq ?_
       refine zd ?_
       repeat refine zq ?_
       refine zb fun K hK=>?_;simp only [go_sem];(try simp (disch:=omega) only [zI])
       refine zh (hby) rfl (by simp only [go_sem,i64,ints]) (by simp only [go_sem,i64,ints]) (by first | exact .inl rfl | exact .inr rfl) ?_
       (try simp only [go_sem]);(try simp (disch:=omega) only [zI]);repeat first | intro _ | refine ⟨by omega,?_⟩
       refine hK _ ?_;clear hK K;refine zw (zk [0,1,5,6,7,8]) ?_;simp only [go_sem]
       obtain ⟨N,hN⟩ : ∃ N,N = bytA l i:=⟨_,rfl⟩
       rw [← hN] at hb8 hbp
       rw [← hN]
       have m0:=Nat.mod_lt N (show 3 > 0 by omega)
       have m1:=Nat.mod_lt (N / 3) (show 20 > 0 by omega)
       have m2:=Nat.mod_lt N (show 2 > 0 by omega)
       have r0 : Int.tmod (N : Int) 3 = ((N % 3 : Nat) : Int):=rfl
       have r1 : Int.tdiv (N : Int) 3 = ((N / 3 : Nat) : Int):=rfl
       have r2 : Int.tmod ((N / 3 : Nat) : Int) 20 = ((N / 3 % 20 : Nat) : Int):=rfl
       have r3 : Int.tmod (N : Int) 2 = ((N % 2 : Nat) : Int):=rfl
       have v0 : IntKind.i64.wrap (1 + ((N % 3 : Nat) : Int)) = 1 + ((N % 3 : Nat) : Int):=by rw [zI] <;> omega
       have v1 : IntKind.i64.wrap (100 * (1 + ((N % 3 : Nat) : Int))) = 100 * (1 + ((N % 3 : Nat) : Int)):=by rw [zI] <;> omega
       have v2 : IntKind.i64.wrap (100 * (1 + ((N % 3 : Nat) : Int)) + 1) = 100 * (1 + ((N % 3 : Nat) : Int)) + 1:=by rw [zI] <;> omega
       have v3 : IntKind.i64.wrap ((N / 3 : Nat) : Int) = ((N / 3 : Nat) : Int):=by rw [zI] <;> omega
       have v4 : IntKind.i64.wrap (100 * (1 + ((N % 3 : Nat) : Int)) + 1 + ((N / 3 % 20 : Nat) : Int)) = ((100 * (1 + N % 3) + 1 + N / 3 % 20 : Nat) : Int):=by rw [zI] <;> omega
       have v5 : IntKind.i64.wrap (100 * ((N % 2 : Nat) : Int)) = 100 * ((N % 2 : Nat) : Int):=by rw [zI] <;> omega
       have v6 : IntKind.i64.wrap (125 + 100 * ((N % 2 : Nat) : Int)) = ((125 + 100 * (N % 2) : Nat) : Int):=by rw [zI] <;> omega
       repeat refine zq ?_
       refine zb fun K hK=>?_;simp only [go_sem,r0,r1,r2,v0,v1,v2,v3,v4];(try simp (disch:=omega) only [zI]);repeat first | intro _ | refine ⟨by omega,?_⟩
       repeat first | intro _ | refine ⟨by omega,?_⟩
       refine hK _ ?_;clear hK K;refine zw (zk [0,1,5,6,7,8,9]) ?_;simp only [go_sem]
       repeat refine zq ?_
       refine awp_joinV (n:=60) (fun (_ : Unit) vs=>[(0,.r (bytR l)),(1,.r (i64 (most : Int))),(5,.pt 5 (vs 5) 0),(6,.os 216 (vs 216) 1 0 0),(7,.r (i64 (i : Int))),(8,.r (i64 (N : Int))),(9,.r (i64 ((100 * (1 + N % 3) + 1 + N / 3 % 20 : Nat) : Int))),(41,.r (.bo (decide (240 ≤ N))))]) (fun _ vs=>[(5,.box (btA B)),(216,.arr 69 1 [])]) (fun _=>True) (fun _ h=>h) ?_ ?_
       · have g0 : decide ((240 : Int) ≤ (N : Int)) = decide (240 ≤ N):=by rw [Bool.eq_iff_iff,decide_eq_true_eq,decide_eq_true_eq]; omega
         repeat refine zq ?_
         refine zb fun K hK=>?_;simp only [go_sem,g0];(try simp (disch:=omega) only [zI]);repeat first | intro _ | refine ⟨by omega,?_⟩
         refine hK _ ?_;clear hK K
         try simp only [go_sem]
         refine ⟨(),zj [] ?_ ?_⟩
         · try simp only [go_sem]
           try simp
           try omega
         · try simp only [go_sem]
       intro _ vs _
       refine awp_joinV (n:=60) (fun (_ : Unit) vs=>[(0,.r (bytR l)),(1,.r (i64 (most : Int))),(5,.pt 5 (vs 5) 0),(6,.os 216 (vs 216) 1 0 0),(7,.r (i64 (i : Int))),(9,.r (i64 (bedP N : Int)))]) (fun _ vs=>[(5,.box (btA B)),(216,.arr 69 1 [])]) (fun _=>True) (fun _ h=>h) ?_ ?_
       · by_cases hbig : 240 ≤ N
         · have hd : decide (240 ≤ N) = true:=decide_eq_true hbig
           have hbe : bedP N = 125 + 100 * (N % 2):=by unfold bedP; rw [if_pos hbig]
           rw [hd,hbe]
           repeat refine zq ?_
           refine zc rfl (fun hc=>?_) (fun hc=>?_) <;> (try simp only [go_sem] at hc)
           repeat refine zq ?_
           refine zb fun K hK=>?_;simp only [go_sem,r3,v5,v6];(try simp (disch:=omega) only [zI]);repeat first | intro _ | refine ⟨by omega,?_⟩
           repeat first | intro _ | refine ⟨by omega,?_⟩
           refine hK _ ?_;clear hK K
           try simp only [go_sem]
           refine ⟨(),zj [] ?_ ?_⟩
           · try simp only [go_sem]
           · try simp only [go_sem]
         · have hd : decide (240 ≤ N) = false:=decide_eq_false hbig
           have hbe : bedP N = 100 * (1 + N % 3) + 1 + N / 3 % 20:=by unfold bedP; rw [if_neg hbig]
           rw [hd,hbe]
           repeat refine zq ?_
           refine zc rfl (fun hc=>?_) (fun hc=>?_) <;> (try simp only [go_sem] at hc)
           refine zx ?_
           try simp only [go_sem]
           refine ⟨(),zj [] ?_ ?_⟩
           · try simp only [go_sem]
           · try simp only [go_sem]
       intro _ vs _
       generalize bedP N = bd at *
       obtain ⟨yb,hyb⟩:=opt_of_lt (l:=B) (i:=bd) (by omega)
       have hdr:=aR_drop (L:=B.map fun b=>RV.bo b) (i:=bd) (x:=.bo yb) (by rw [List.getElem?_map,hyb]; rfl)
       have hse:=aR_set (L:=B.map fun b=>RV.bo b) (i:=bd) (y:=.bo true) (by rw [List.length_map]; omega)
       have hbl:=btA_len B
       repeat refine zq ?_
       refine zb fun K hK=>?_;simp only [go_sem,ty149,hdr,hse,hbl,hB,List.length_map,Nat.mul_one,List.headD_cons];(try simp (disch:=omega) only [zI]);repeat first | intro _ | refine ⟨by omega,?_⟩
       repeat first | intro _ | refine ⟨by omega,?_⟩
       refine hK _ ?_;clear hK K;refine zw (zk [0,1,5,6,7]) ?_;simp only [go_sem]
       repeat refine zq ?_
       refine zb fun K hK=>?_;simp only [go_sem];(try simp (disch:=omega) only [zI]);repeat first | intro _ | refine ⟨by omega,?_⟩
       refine hK _ ?_;clear hK K
       try simp only [go_sem]
       have hA : btA (B.set bd true) = List.map AV.r ((B.map fun b=>RV.bo b).set bd (.bo true)):=by
        show List.map AV.r (List.map _ (B.set bd true)) = _
        rw [List.map_set]
       refine ⟨by omega,zj [] ?_ ?_⟩
       · try simp only [go_sem]
       · try simp only [go_sem]
         try rw [hA]
     · have hie : i = rndN l most:=by omega
       subst hie
       have q0 : (((rndN l most : Nat) : Int) == 0) = false:=by rw [beq_eq_false_iff_ne]; omega
       have q0' : (rndN l most == 0) = false:=by rw [beq_eq_false_iff_ne]; omega
       generalize hB : thereB l (rndN l most) = B at *
       repeat refine zq ?_
       refine awp_joinV (n:=60) (fun (_ : Unit) vs=>[(5,.pt 5 (vs 5) 0),(6,.os 216 (vs 216) 1 0 0),(25,.r (.bo false))]) (fun _ vs=>[(5,.box (btA B)),(216,.arr 69 1 [])]) (fun _=>True) (fun _ h=>h) ?_ ?_
       · by_cases hq : rndN l most < l.length
         · have hq2 : decide (((rndN l most : Nat) : Int) < (most : Int)) = false:=decide_eq_false (by unfold rndN at hq ⊢; omega)
           have hq3 : ¬ rndN l most < most:=by unfold rndN at hq ⊢; omega
           repeat refine zq ?_
           refine zb fun K hK=>?_;simp only [go_sem,q0,q0',hq,hq2,List.length_map];(try simp (disch:=omega) only [zI]);repeat first | intro _ | refine ⟨by omega,?_⟩
           repeat first | intro _ | refine ⟨by omega,?_⟩
           refine hK _ ?_;clear hK K
           try simp only [go_sem]
           refine ⟨(),zj [] ?_ ?_⟩
           · try simp only [go_sem]
             try exact hq3
           · try simp only [go_sem]
         · repeat refine zq ?_
           refine zb fun K hK=>?_;simp only [go_sem,q0,q0',hq,List.length_map];(try simp (disch:=omega) only [zI]);repeat first | intro _ | refine ⟨by omega,?_⟩
           repeat first | intro _ | refine ⟨by omega,?_⟩
           refine hK _ ?_;clear hK K
           try simp only [go_sem]
           refine ⟨(),zj [] ?_ ?_⟩
           · try simp only [go_sem]
           · try simp only [go_sem]
       intro _ vs _
       repeat refine zq ?_
       refine zc rfl (fun hc=>?_) (fun hc=>?_) <;> (try simp only [go_sem] at hc)
       refine zf ?_;simp only [go_sem]
       refine ⟨(),zj [] ?_ ?_⟩
       · try simp only [go_sem]
       · try simp only [go_sem]
 intro _ vs _
 have hB:=there_len l (rndN l most)
 have hbp : bedsP l most = hereB (thereB l (rndN l most)) 500:=rfl
 rw [hbp]
 generalize thereB l (rndN l most) = B at *
 have hbl:=btA_len B
 repeat refine zq ?_
 refine zb fun K hK=>?_;simp only [go_sem];(try simp (disch:=omega) only [zI]);repeat first | intro _ | refine ⟨by omega,?_⟩
 refine hK _ ?_;clear hK K;refine zw (zk [5,6,10]) ?_;simp only [go_sem]
 repeat refine zq ?_
 refine zd ?_
 refine awp_uptoV (n:=60) 500 (fun i vs=>[(5,.pt 5 (vs 5) 0),(6,.os 216 (vs 216) 1 0 (hereB B i).length),(10,.r (i64 (i : Int)))])
  (fun i vs=>[(5,.box (btA B)),(216,.arr 69 1 ((hereB B i).map fun n : Nat=>[i64 (n : Int)]))]) (fun _=>True) 0 (zj [] ?_ ?_) (Nat.zero_le _) trivial ?_
 · try simp only [go_sem]
   try rfl
 · try simp only [go_sem]
   try rfl
 · intro i vs hi _
   by_cases hin : i < 500
   · have hsn:=here_snoc B i
     have hll : (hereB B i).length ≤ i:=by
      have:=List.length_filter_le (fun b=>B.getD b false) (List.range i)
      rw [List.length_range] at this
      exact this
     have g1 : decide ((i : Int) < 500) = true:=decide_eq_true (by omega)
     have hget : (List.drop i (btA B)).headD (AV.r RV.un) = AV.r (.bo (B.getD i false)):=btA_get (i:=i) (d:=false) rfl (by omega)
     rw [hsn]
     generalize hereB B i = H at *
     repeat refine zq ?_
     refine zb fun K hK=>?_;simp only [go_sem,g1];(try simp (disch:=omega) only [zI]);repeat first | intro _ | refine ⟨by omega,?_⟩
     refine hK _ ?_;clear hK K;refine zw (zk [5,6,10,49]) ?_;simp only [go_sem]
     repeat refine zq ?_
     refine zc rfl (fun hc=>?_) (fun hc=>?_) <;> (try simp only [go_sem] at hc)
     refine zx ?_
     try simp only [go_sem]
     repeat refine zq ?_
     refine zd ?_
     repeat refine zq ?_
     refine zb fun K hK=>?_;simp only [go_sem,ty149,hget,hbl,hB,hin,List.length_map,Nat.mul_one,List.headD_cons];(try simp (disch:=omega) only [zI]);repeat first | intro _ | refine ⟨by omega,?_⟩
     repeat first | intro _ | refine ⟨by omega,?_⟩
     refine hK _ ?_;clear hK K;refine zw (zk [5,6,10,54]) ?_;simp only [go_sem]
     repeat refine zq ?_
     cases hq : B.getD i false
     · repeat refine zq ?_
       refine zc rfl (fun hc=>?_) (fun hc=>?_) <;> (try simp only [go_sem] at hc)
       refine zx ?_
       try simp only [go_sem]
       repeat refine zq ?_
       refine zb fun K hK=>?_;simp only [go_sem];(try simp (disch:=omega) only [zI]);repeat first | intro _ | refine ⟨by omega,?_⟩
       refine hK _ ?_;clear hK K
       try simp only [go_sem]
       try simp only [Bool.false_eq_true,if_false,List.append_nil]
       refine ⟨by omega,zj [] ?_ ?_⟩
       · try simp only [go_sem]
       · try simp only [go_sem]
     · repeat refine zq ?_
       refine zc rfl (fun hc=>?_) (fun hc=>?_) <;> (try simp only [go_sem] at hc)
       repeat refine zq ?_
       refine zb fun K hK=>?_;simp only [go_sem,List.length_map];(try simp (disch:=omega) only [zI]);repeat first | intro _ | refine ⟨by omega,?_⟩
       refine hK _ ?_;clear hK K;refine zw (zk [5,6,10]) ?_;simp only [go_sem]
       repeat refine zq ?_
       refine zb fun K hK=>?_;simp only [go_sem];(try simp (disch:=omega) only [zI]);repeat first | intro _ | refine ⟨by omega,?_⟩
       refine hK _ ?_;clear hK K
       try simp only [go_sem]
       try simp only [if_true,List.length_append,List.length_cons,List.length_nil,List.map_append,List.map_cons,List.map_nil]
       refine ⟨by omega,zj [] ?_ ?_⟩
       · try simp only [go_sem]
       · try simp only [go_sem]
   · have hie : i = 500:=by omega
     subst hie
     repeat refine zq ?_
     refine zb fun K hK=>?_;simp only [go_sem];(try simp (disch:=omega) only [zI]);repeat first | intro _ | refine ⟨by omega,?_⟩
     refine hK _ ?_;clear hK K;refine zw (zk [5,6,10,49]) ?_;simp only [go_sem]
     repeat refine zq ?_
     refine zc rfl (fun hc=>?_) (fun hc=>?_) <;> (try simp only [go_sem] at hc)
     refine zf ?_;simp only [go_sem];refine zw (sub_frz (ty:=69) (sz:=1) (off:=0) (m:=(hereB B 500).length) (es:=(hereB B 500).map fun n : Nat=>[i64 (n : Int)]) 6 216 (by omega) rfl (by rfl) (by simp)) ?_
     have tk2 : List.take (hereB B 500).length ((hereB B 500).map fun n : Nat=>[i64 (n : Int)]) = (hereB B 500).map fun n : Nat=>[i64 (n : Int)]:=List.take_of_length_le (by simp)
     try simp only [go_sem]
     try rw [tk2]
     repeat refine zq ?_
     refine zb fun K hK=>?_;simp only [go_sem];(try simp (disch:=omega) only [zI]);repeat first | intro _ | refine ⟨by omega,?_⟩
     refine hK _ ?_;clear hK K;refine zw (zk [4]) ?_;simp only [go_sem];refine ze ?_;simp only [go_sem]
     try simp
abbrev Pv:=Int × Int
def fillP : List Pv → Int × Int → Int × Int
 | [],x=>x
 | c :: cs,x=>fillP cs (x.1 - min x.1 c.1,x.2 + min x.1 c.1 * c.2)
theorem fillG_P : ∀ (l : List Bd) (x : Int × Int),fillG l x = fillP (l.map fun c=>(c.hi - c.lo,c.b)) x
 | [],_=>rfl
 | c :: l,x=>by simp only [fillG,List.map_cons,fillP]; exact fillG_P l _
def leD (most : Bool) (x y : Int) : Prop:=if most then y ≤ x else x ≤ y
theorem leD_trans {most : Bool} {x y z : Int} (h : leD most x y) (g : leD most y z) : leD most x z:=by
 unfold leD at *; split at h <;> simp_all <;> omega
abbrev SortP (most : Bool) (S : List Pv) : Prop:=S.Pairwise fun a b=>leD most a.2 b.2
theorem fillP_done : ∀ {S : List Pv} {y : Int},(∀ a ∈ S,0 ≤ a.1) → fillP S (0,y) = (0,y)
 | [],_,_=>rfl
 | c :: S, y, h => by
   have h0:=h c (by simp)
   have e : min 0 c.1 = 0:=by omega
   simp only [fillP,e]
   simpa using fillP_done fun a ha=>h a (by simp [ha])
theorem insB_pw {most : Bool} {x : Bd} : ∀ {R : List Bd},R.Pairwise (fun y z=>leD most z.b y.b) → (insB (ltD most) x R).Pairwise (fun y z=>leD most z.b y.b)
 | [],_=>by simp [insB]
 | y :: R, h => by
   obtain ⟨h1,h2⟩:=List.pairwise_cons.1 h
   unfold insB
   split
   · rename_i hlt
     refine List.pairwise_cons.2 ⟨fun z hz=>?_,insB_pw h2⟩
     rcases (mem_insB _ _ _ _).1 hz with rfl | hz
     · unfold ltD at hlt; unfold leD; cases most <;> simp at hlt ⊢ <;> omega
     · exact h1 z hz
   · rename_i hlt
     have hyx : leD most y.b x.b:=by unfold ltD at hlt; unfold leD; cases most <;> simp at hlt ⊢ <;> omega
     refine List.pairwise_cons.2 ⟨fun z hz=>?_,h⟩
     rcases List.mem_cons.1 hz with rfl | hz
     · exact hyx
     · exact leD_trans (h1 z hz) hyx
theorem sortB_pw {most : Bool} : ∀ {l R : List Bd},R.Pairwise (fun y z=>leD most z.b y.b) → (sortB (ltD most) l R).Pairwise (fun y z=>leD most z.b y.b)
 | [],_,h=>h
 | x :: l,R,h=>by rw [sortB]; exact sortB_pw (insB_pw h)
theorem sortN_pw {most : Bool} (l : List Bd) : (sortN (ltD most) l).Pairwise (fun y z=>leD most y.b z.b):=by
 unfold sortN
 rw [List.pairwise_reverse]
 exact sortB_pw List.Pairwise.nil
def beats (most : Bool) (x y : Int) : Bool:=if most then decide (y < x) else decide (x < y)
def bestI (most : Bool) (M V : List Int) : Nat → Int
 | 0=>-1
 | i + 1=>if decide (0 < M.getD i 0) && (decide (bestI most M V i < 0) || beats most (V.getD i 0) (V.getD (bestI most M V i).toNat 0)) then i else bestI most M V i
theorem sum_set : ∀ {M : List Int} {a : Nat} {y : Int},a < M.length → (M.set a y).sum = M.sum - M.getD a 0 + y
 | m :: M,0,y,_=>by simp; omega
 | m :: M, a + 1, y, h => by
   have:=sum_set (M:=M) (a:=a) (y:=y) (by simpa using h)
   simp at this ⊢
   omega
structure RefI (most : Bool) (V : List Int) (target : Int) (M : List Int) (left sum : Int) : Prop where
 len : M.length = V.length
 l19 : V.length ≤ 19
 vals : ∀ v ∈ V,0 ≤ v ∧ v ≤ 1000000
 mores : ∀ m ∈ M,0 ≤ m ∧ m ≤ 3000
 ok : GOk (left,sum)
 enough : left ≤ M.sum
 same : ∃ S : List Pv,S.Perm (M.zip V) ∧ SortP most S ∧ (fillP S (left,sum)).2 = target
theorem RefI.done {most : Bool} {V M : List Int} {target left sum : Int} (h : RefI most V target M left sum) (h0 : ¬ 0 < left) : sum = target:=by
 obtain ⟨S,h1,_,h3⟩:=h.same
 have:=h.ok.1.1
 have e : left = 0:=by simp only at this; omega
 rw [e,fillP_done] at h3
 · exact h3
 · intro a ha
   have:=h1.mem_iff.1 ha
   exact (h.mores a.1 (List.of_mem_zip this).1).1
theorem RefI.start {most : Bool} {den : Int} {l : List Bd} (h : ChG den l) (hh : den ≤ hiS l) :
 RefI most (l.map (·.b)) (fillG (sortN (ltD most) l) (den - loS (sortN (ltD most) l),loV (sortN (ltD most) l))).2 (l.map fun c=>c.hi - c.lo) (den - loS l) (loV l):=by
 have hp:=sortN_perm (ltD most) l
 have e1 : loS (sortN (ltD most) l) = loS l:=perm_sum hp
 have e2 : loV (sortN (ltD most) l) = loV l:=perm_sum hp
 have hl:=h.low
 have hd:=h.den1
 have hv:=loV_le h.each
 have hlen:=h.len
 have hlo0 : 0 ≤ loS l:=by
  have : ∀ m : List Bd,(∀ c ∈ m,0 ≤ c.lo) → 0 ≤ loS m:=by
   intro m
   induction m with
   | nil=>intro _; simp [loS]
   | cons c m ih=>intro hc; have h1:=hc c (by simp); have h2:=ih fun x hx=>hc x (by simp [hx]); simp only [loS,List.map_cons,List.sum_cons] at h2 ⊢; omega
  exact this l fun c hc=>(h.each c hc).2.1
 refine ⟨by simp,by simpa using hlen,?_,?_,?_,?_,?_⟩
 · intro v hv
   obtain ⟨c,hc,rfl⟩:=List.mem_map.1 hv
   exact (h.each c hc).1
 · intro m hm
   obtain ⟨c,hc,rfl⟩:=List.mem_map.1 hm
   obtain ⟨_,g0,g1,g2⟩:=h.each c hc
   omega
 · refine ⟨⟨by simp only; omega,by simp only; omega⟩,by simp only; omega,by simp only; omega⟩
 · have : (l.map fun c=>c.hi - c.lo).sum = hiS l - loS l:=by
    clear hh hp e1 e2 hl hv hlen hlo0 h
    induction l with
    | nil=>simp [hiS,loS]
    | cons c l ih=>simp only [hiS,loS,List.map_cons,List.sum_cons] at ih ⊢; omega
   omega
 · refine ⟨(sortN (ltD most) l).map fun c=>(c.hi - c.lo,c.b),?_,?_,?_⟩
   · have : (l.map fun c=>c.hi - c.lo).zip (l.map (·.b)) = l.map fun c=>(c.hi - c.lo,c.b):=by
      rw [List.zip_map',]
     rw [this]
     exact hp.map _
   · exact List.Pairwise.map _ (fun a b h=>h) (sortN_pw l)
   · rw [← fillG_P,e1,e2]
def dotP : List Pv → List Int → Int
 | c :: S,y :: ys=>y * c.2 + dotP S ys
 | _,_=>0
inductive FeasP : List Pv → List Int → Prop where
 | nil : FeasP [] []
 | cons {c : Pv} {S : List Pv} {y : Int} {ys : List Int} (h : 0 ≤ y ∧ y ≤ c.1) (t : FeasP S ys) : FeasP (c :: S) (y :: ys)
theorem feas_sum {S : List Pv} {ys : List Int} (h : FeasP S ys) : 0 ≤ ys.sum:=by
 induction h with
 | nil=>simp
 | cons h t ih=>simp only [List.sum_cons]; omega
theorem feas_less {v : Int} {S : List Pv} {ys : List Int} (h : FeasP S ys) : ∀ δ : Int,0 ≤ δ → δ ≤ ys.sum → (∀ c ∈ S,v ≤ c.2) → ∃ zs,FeasP S zs ∧ zs.sum = ys.sum - δ ∧ dotP S zs + δ * v ≤ dotP S ys:=by
 induction h with
 | nil =>
   intro δ h0 h1 _
   simp only [List.sum_nil] at h1
   have : δ = 0:=by omega
   subst this
   exact ⟨[],.nil,by simp,by simp [dotP]⟩
 | @cons c S y ys h t ih =>
   intro δ h0 h1 hv
   simp only [List.sum_cons] at h1
   have hs:=feas_sum t
   obtain ⟨zs,g1,g2,g3⟩:=ih (δ - min δ y) (by omega) (by omega) fun x hx=>hv x (by simp [hx])
   have hc:=hv c (by simp)
   have e0 : 0 ≤ min δ y:=by omega
   have p:=Int.mul_nonneg e0 (show 0 ≤ c.2 - v by omega)
   refine ⟨(y - min δ y) :: zs,.cons ⟨by omega,by omega⟩ g1,by simp only [List.sum_cons]; omega,?_⟩
   simp only [dotP]
   generalize min δ y = e at *
   rw [Int.mul_sub] at p
   rw [Int.sub_mul] at g3
   rw [Int.sub_mul]
   omega
theorem fill_min : ∀ {S : List Pv} {ys : List Int},FeasP S ys → ∀ (left s : Int),S.Pairwise (fun a b=>a.2 ≤ b.2) → ys.sum = left → (fillP S (left,s)).2 ≤ s + dotP S ys
 | [],_,h,left,s,_,_=>by cases h; simp [fillP,dotP]
 | c :: S, _, h, left, s, hp, hsum => by
   cases h with
   | @cons _ _ y ys h t =>
     obtain ⟨hp1,hp2⟩:=List.pairwise_cons.1 hp
     simp only [List.sum_cons] at hsum
     have hs:=feas_sum t
     obtain ⟨zs,g1,g2,g3⟩:=feas_less t (min left c.1 - y) (by omega) (by omega) hp1
     have:=fill_min g1 (left - min left c.1) (s + min left c.1 * c.2) hp2 (by omega)
     simp only [fillP,dotP]
     rw [Int.sub_mul] at g3
     omega
def negP (S : List Pv) : List Pv:=S.map fun c=>(c.1,-c.2)
theorem fill_neg : ∀ (S : List Pv) (x y : Int),(fillP (negP S) (x,-y)).2 = -(fillP S (x,y)).2
 | [],_,_=>rfl
 | c :: S, x, y => by
   have:=fill_neg S (x - min x c.1) (y + min x c.1 * c.2)
   simp only [negP,List.map_cons,fillP] at this ⊢
   rw [← this]
   congr 3
   rw [Int.mul_neg]; omega
theorem dot_neg : ∀ (S : List Pv) (ys : List Int),dotP (negP S) ys = -dotP S ys
 | [],_=>by simp [negP,dotP]
 | _ :: _,[]=>by simp [negP,dotP]
 | c :: S, y :: ys => by
   have:=dot_neg S ys
   simp only [negP,List.map_cons,dotP] at this ⊢
   rw [this,Int.mul_neg]; omega
theorem feas_neg : ∀ {S : List Pv} {ys : List Int},FeasP S ys → FeasP (negP S) ys
 | _,_,.nil=>.nil
 | _,_,.cons h t=>.cons h (feas_neg t)
theorem fill_max {S : List Pv} {ys : List Int} (h : FeasP S ys) (left s : Int) (hp : S.Pairwise (fun a b=>b.2 ≤ a.2)) (hs : ys.sum = left) : s + dotP S ys ≤ (fillP S (left,s)).2:=by
 have:=fill_min (feas_neg h) left (-s) (by unfold negP; exact List.Pairwise.map _ (fun a b h=>by simp only; omega) hp) hs
 rw [fill_neg,dot_neg] at this
 omega
theorem greedy_amt {m v : Nat → Int} : ∀ {I : List Nat} {left s : Int},I.Nodup → (∀ i ∈ I,0 ≤ m i) → 0 ≤ left → left ≤ (I.map m).sum →
 ∃ x : Nat → Int,(∀ i ∈ I,0 ≤ x i ∧ x i ≤ m i) ∧ (I.map x).sum = left ∧ (fillP (I.map fun i=>(m i,v i)) (left,s)).2 = s + (I.map fun i=>x i * v i).sum
 | [], left, s, _, _, h0, h1 => by
   simp only [List.map_nil,List.sum_nil] at h1
   exact ⟨fun _=>0,by simp,by simp; omega,by simp [fillP]⟩
 | i :: I, left, s, hn, hm, h0, h1 => by
   obtain ⟨hi,hn2⟩:=List.nodup_cons.1 hn
   have hmi:=hm i (by simp)
   simp only [List.map_cons,List.sum_cons] at h1
   have hms : 0 ≤ (I.map m).sum:=by
    have : ∀ J : List Nat,(∀ j ∈ J,0 ≤ m j) → 0 ≤ (J.map m).sum:=by
     intro J
     induction J with
     | nil=>intro _; simp
     | cons j J ih=>intro hJ; have h1:=hJ j (by simp); have h2:=ih fun y hy=>hJ y (by simp [hy]); simp only [List.map_cons,List.sum_cons]; omega
    exact this I fun j hj=>hm j (by simp [hj])
   obtain ⟨x,g1,g2,g3⟩:=greedy_amt (v:=v) (left:=left - min left (m i)) (s:=s + min left (m i) * v i) hn2 (fun j hj=>hm j (by simp [hj])) (by omega) (by omega)
   have hne : ∀ j ∈ I,j ≠ i:=fun j hj e=>hi (by rw [← e]; exact hj)
   refine ⟨fun j=>if j = i then min left (m i) else x j,fun j hj=>?_,?_,?_⟩
   · rcases List.mem_cons.1 hj with rfl | hj
     · simp only [if_true]; omega
     · simp only [if_neg (hne j hj)]; exact g1 j hj
   · simp only [List.map_cons,if_true,List.sum_cons]
     rw [List.map_congr_left (g:=x) fun j hj=>by simp only [if_neg (hne j hj)],g2]
     omega
   · simp only [List.map_cons,fillP,if_true,List.sum_cons]
     rw [g3,List.map_congr_left (f:=fun j=>(if j = i then min left (m i) else x j) * v j) (g:=fun j=>x j * v j) fun j hj=>by simp only [if_neg (hne j hj)]]
     omega
theorem feas_map {m v x : Nat → Int} : ∀ {I : List Nat},(∀ i ∈ I,0 ≤ x i ∧ x i ≤ m i) → FeasP (I.map fun i=>(m i,v i)) (I.map x)
 | [],_=>.nil
 | i :: I,h=>.cons (h i (by simp)) (feas_map fun j hj=>h j (by simp [hj]))
theorem dot_map {m v x : Nat → Int} : ∀ I : List Nat,dotP (I.map fun i=>(m i,v i)) (I.map x) = (I.map fun i=>x i * v i).sum
 | []=>rfl
 | i :: I=>by simp only [List.map_cons,dotP,List.sum_cons,dot_map I]
def insN (lt : Nat → Nat → Bool) (x : Nat) : List Nat → List Nat
 | []=>[x]
 | y :: ys=>if lt x y then y :: insN lt x ys else x :: y :: ys
def sortBN (lt : Nat → Nat → Bool) : List Nat → List Nat → List Nat
 | [],R=>R
 | x :: xs,R=>sortBN lt xs (insN lt x R)
def sortI (lt : Nat → Nat → Bool) (l : List Nat) : List Nat:=(sortBN lt l []).reverse
theorem insN_map (f : Nat → Bd) (lt : Bd → Bd → Bool) (x : Nat) : ∀ R : List Nat,(insN (fun i j=>lt (f i) (f j)) x R).map f = insB lt (f x) (R.map f)
 | []=>rfl
 | y :: R => by
   have:=insN_map f lt x R
   simp only [insN,List.map_cons,insB]
   split
   · rw [List.map_cons,this]
   · rfl
theorem sortBN_map (f : Nat → Bd) (lt : Bd → Bd → Bool) : ∀ l R : List Nat,(sortBN (fun i j=>lt (f i) (f j)) l R).map f = sortB lt (l.map f) (R.map f)
 | [],_=>rfl
 | x :: l,R=>by simp only [sortBN,List.map_cons,sortB]; rw [sortBN_map f lt l,insN_map]
theorem sortI_map (f : Nat → Bd) (lt : Bd → Bd → Bool) (l : List Nat) : (sortI (fun i j=>lt (f i) (f j)) l).map f = sortN lt (l.map f):=by
 unfold sortI sortN
 rw [List.map_reverse,sortBN_map]; rfl
theorem insN_perm (lt : Nat → Nat → Bool) (x : Nat) : ∀ R,(insN lt x R).Perm (x :: R)
 | []=>List.Perm.refl _
 | y :: R => by
   unfold insN
   split
   · exact ((insN_perm lt x R).cons y).trans (List.Perm.swap _ _ _)
   · exact List.Perm.refl _
theorem sortBN_perm (lt : Nat → Nat → Bool) : ∀ l R,(sortBN lt l R).Perm (l ++ R)
 | [],R=>List.Perm.refl _
 | x :: l, R => by
   rw [sortBN]
   refine (sortBN_perm lt l _).trans ?_
   exact ((insN_perm lt x R).append_left l).trans List.perm_middle
theorem sortI_perm (lt : Nat → Nat → Bool) (l : List Nat) : (sortI lt l).Perm l:=by
 unfold sortI
 have:=sortBN_perm lt l []
 rw [List.append_nil] at this
 exact (List.reverse_perm _).trans this
theorem mean_idx {most : Bool} {den : Int} {l : List Bd} (h : ChG den l) (hh : den ≤ hiS l) : ∃ I : List Nat,I.Perm (List.range l.length) ∧ I.Nodup ∧
 (I.Pairwise fun a b=>leD most (l.getD a ⟨0,0,0⟩).b (l.getD b ⟨0,0,0⟩).b) ∧
 meanD most den l = overD most (fillP (I.map fun i=>((l.getD i ⟨0,0,0⟩).hi - (l.getD i ⟨0,0,0⟩).lo,(l.getD i ⟨0,0,0⟩).b)) (den - loS l,loV l)).2 den:=by
 have hl : (List.range l.length).map (fun i=>l.getD i ⟨0,0,0⟩) = l:=by
  refine List.ext_getElem (by simp) fun i h1 h2=>?_
  simp [List.getD,List.getElem?_eq_getElem h2]
 have hm:=sortI_map (fun i=>l.getD i ⟨0,0,0⟩) (ltD most) (List.range l.length)
 rw [hl] at hm
 have hp:=sortI_perm (fun i j=>ltD most (l.getD i ⟨0,0,0⟩) (l.getD j ⟨0,0,0⟩)) (List.range l.length)
 have hpw:=sortN_pw (most:=most) l
 rw [← hm] at hpw
 have e1 : loS (sortN (ltD most) l) = loS l:=perm_sum (sortN_perm _ _)
 have e2 : loV (sortN (ltD most) l) = loV l:=perm_sum (sortN_perm _ _)
 refine ⟨_,hp,hp.nodup_iff.2 List.nodup_range,(List.pairwise_map (f:=fun i=>l.getD i ⟨0,0,0⟩) (R:=fun y z : Bd=>leD most y.b z.b)).1 hpw,?_⟩
 unfold meanD
 rw [e1,e2,fillG_P,← hm,List.map_map]
 rfl
theorem overD_mono {m1 m2 : Bool} (hm : m1 = true → m2 = true) {a b den : Int} (hd : 1 ≤ den) (hab : a ≤ b) : overD m1 a den ≤ overD m2 b den:=by
 have h1 : ∀ x y : Int,x ≤ y → x / den ≤ y / den:=fun x y h=>Int.ediv_le_ediv (by omega) h
 cases m1 <;> cases m2 <;> simp only [overD,if_true,Bool.false_eq_true,if_false]
 · exact h1 _ _ hab
 · exact h1 _ _ (by omega)
 · simp at hm
 · exact h1 _ _ (by omega)
theorem sum_le_map {f g : Nat → Int} : ∀ {I : List Nat},(∀ i ∈ I,f i ≤ g i) → (I.map f).sum ≤ (I.map g).sum
 | [],_=>by simp
 | i :: I, h => by
   have h1:=h i (by simp)
   have h2:=sum_le_map (f:=f) (g:=g) (I:=I) fun j hj=>h j (by simp [hj])
   simp only [List.map_cons,List.sum_cons]; omega
set_option maxHeartbeats 2000000
def posOk (r : Ru) (p : Pos) : Bool:=inB p.round 0 ((r.ends.length : Int) - 1) && (inB p.start (lowestR r) r.start && (inB p.left (lowestR r) p.start && (inB p.darts 1 3 && (decide (p.darts < 3) || (p.left == p.start)))))
def bestS (l : List Sp) : Nat → Int
 | 0=>0
 | i + 1=>if (l.getD (bestS l i).toNat (0,0)).1 < (l.getD i (0,0)).1 then i else bestS l i
abbrev pos (k s left d : Nat) : Pos:=⟨k,s,left,(d : Int) + 1⟩
def vB (b : Nat → Bool) (j : Nat) (v : AV) : AV:=if b j then v else .r .un
def odF (r : Ru) (T0 T1 : List (List Int)) (k s left d : Nat) (b : Nat → Bool) (vs : Nat → Nat) : List (Nat × AV) :=
 [(3,.r (.rp (posC (pos k s left d)))),(4,.r .ns),(6,.r (.rp [sideP r false T0,sideP r true T1])),(7,.r (.rp [i64 (left : Int),i64 ((d : Int) + 1)])),
  (34,vB b 0 (.r (.rp [sideP r false T0,sideP r true T1]))),
  (35,vB b 1 (.r (sideP r false T0))),
  (36,vB b 2 (.r (.rp (posC (pos k s left d))))),
  (37,vB b 3 (.r (i64 (k : Int)))),
  (38,vB b 4 (.r (.rp [i64 (s : Int),i64 (left : Int),i64 ((d : Int) + 1)]))),
  (39,vB b 5 (.r (i64 (s : Int)))),
  (40,vB b 6 (.pt 940 (vs 940) 0)),
  (41,vB b 7 (.r (.ag [i64 (left : Int),i64 ((d : Int) + 1)]))),
  (42,vB b 8 (.r (ints (oddsV r false T0 k s left d)))),
  (43,vB b 9 (.r (.rp [sideP r true T1]))),
  (44,vB b 10 (.r (sideP r true T1))),
  (45,vB b 11 (.r (.rp (posC (pos k s left d))))),
  (46,vB b 12 (.r (i64 (k : Int)))),
  (47,vB b 13 (.r (.rp [i64 (s : Int),i64 (left : Int),i64 ((d : Int) + 1)]))),
  (48,vB b 14 (.r (i64 (s : Int)))),
  (49,vB b 15 (.pt 942 (vs 942) 0)),
  (50,vB b 16 (.r (.ag [i64 (left : Int),i64 ((d : Int) + 1)]))),
  (51,vB b 17 (.r (ints (oddsV r true T1 k s left d)))),
  (8,vB b 18 (.r (ints (oddsV r false T0 k s left d)))),
  (9,vB b 19 (.r (ints (oddsV r true T1 k s left d))))]
def odR (r : Ru) (T0 T1 : List (List Int)) (k s left d : Nat) (b : Nat → Bool) (vs : Nat → Nat) : List (Nat × RowC) :=
 bif b 15 then [(940,.box (visC r false T0 (k : Int) (s : Int) 941 (vs 941))),(941,.mem (memoV r false T0 k s)),(942,.box (visC r true T1 (k : Int) (s : Int) 943 (vs 943))),(943,.mem (memoV r true T1 k s))]
 else bif b 6 then [(940,.box (visC r false T0 (k : Int) (s : Int) 941 (vs 941))),(941,.mem (memoV r false T0 k s))]
 else []
def oddsS (r : Ru) (k s left d : Nat) : List Sp:=(oddsV r false (tabF r false) k s left d).zip (oddsV r true (tabF r true) k s left d)
def oddsE (r : Ru) (p : Pos) : Int:=if ruE r = 0 then (if posOk r p = true then 0 else 2) else ruE r
def oddsR (r : Ru) (p : Pos) : RV:=if ruE r = 0 then (if posOk r p = true then spansR (oddsS r p.round.toNat p.start.toNat p.left.toNat (p.darts - 1).toNat) else .ns) else .ns
end Go.Proofs.Ytlljkgiomkmjbaa.Du

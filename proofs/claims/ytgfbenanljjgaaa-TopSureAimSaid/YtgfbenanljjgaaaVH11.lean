/- Part 11 of the texts of this claim. -/
import Derived.Test.YtgfbenanljjgaaaVH10
import Derived.Test.YtgfbenanljjgaaaVH8
import Derived.Test.YtgfbenanljjgaaaVH7
import Derived.Test.YtgfbenanljjgaaaVH9
import Derived.Test.YtgfbenanljjgaaaVH6
import Derived.Test.YtgfbenanljjgaaaVH5
import Derived.ChangeShapes
import Derived.WideShapes
import Derived.OpenShut
import Derived.ShutString
import Derived.ChangeOld
import Derived.Carry
import Derived.Below
namespace Go.Proofs.Ytgfbenanljjgaaa.Du.Th
open Go Go.Oc
set_option linter.unusedSimpArgs false
set_option linter.unusedVariables false
set_option maxRecDepth 8000
abbrev u8Q (n : Nat) : RV:=.it .u8 (n : Int)
structure NarB (l l' : List Bd) : Prop where
 len : l'.length = l.length
 each : ∀ i,i < l.length → (bAt l' i).b = (bAt l i).b ∧ (bAt l i).lo ≤ (bAt l' i).lo ∧ (bAt l' i).hi ≤ (bAt l i).hi
theorem aims_all {d : Int} {l : List Am} (h : checkV d l = 0) : ∀ a ∈ l,aimOk d a = true:=(checkV_zero h).2.2.2.2
theorem aimOk_parts {d : Int} {a : Am} (h : aimOk d a = true) : bedOk a.at_ = true ∧ a.beds ≠ [] ∧ seqOk none a.beds = true ∧ (∀ x ∈ a.beds,0 ≤ x.lo ∧ x.lo ≤ x.hi ∧ x.hi ≤ d) ∧ loS a.beds ≤ d ∧ d ≤ hiS a.beds:=by
 simp only [aimOk,Bool.and_eq_true,decide_eq_true_eq] at h
 obtain ⟨⟨⟨⟨⟨h1,h2⟩,h3⟩,h4⟩,h5⟩,h6⟩:=h
 refine ⟨h1,fun e=>by rw [e] at h2; simp at h2,h3,fun x hx=>?_,h5,h6⟩
 simp only [chOk,List.all_eq_true,Bool.and_eq_true,decide_eq_true_eq] at h4
 have:=h4 x hx
 omega
theorem seq_beds : ∀ {p : Option Int} {l : List Bd},seqOk p l = true → ∀ x ∈ l,x.b = 0 ∨ bedOk x.b = true
 | _,[],_,x,hx=>by cases hx
 | p, y :: l, h, x, hx => by
   simp only [seqOk,Bool.and_eq_true,Bool.or_eq_true,decide_eq_true_eq] at h
   rcases List.mem_cons.1 hx with rfl | hx
   · exact h.1.1
   · exact seq_beds h.2 x hx
theorem wfA_aim {d : Int} {a : Am} (hd : d ≤ 3000) (h : aimOk d a = true) : WfA a:=by
 obtain ⟨h1,_,h3,h4,_,_⟩:=aimOk_parts h
 have hb:=fun b (hb : bedOk b = true)=>bedOk_le hb
 have:=hb _ h1
 refine ⟨by unfold I64; omega,fun c hc=>?_⟩
 have:=h4 c hc
 have hcb : 0 ≤ c.b ∧ c.b ≤ 499:=by
  rcases seq_beds h3 c hc with h | h
  · omega
  · exact hb _ h
 unfold I64
 omega
theorem wfL_chk {d : Int} {l : List Am} (h : checkV d l = 0) (hd : 0 ≤ d ∧ d ≤ 3000) : WfL d l:=⟨by unfold I64; omega,fun a ha=>wfA_aim hd.2 (aims_all h a ha)⟩
def cellT (l : List Int) : RV:=if l = [] then .ns else ints l
set_option maxHeartbeats 4000000
abbrev bytR (l : List Nat) : RV:=.sl 1 (l.map fun n=>[u8Q n])
def bytA (l : List Nat) (i : Nat) : Nat:=if l.length = 0 then 0 else l.getD (i % l.length) 0
theorem bytA_lt {l : List Nat} (h : ∀ n ∈ l,n < 256) (i : Nat) : bytA l i < 256:=by
 unfold bytA
 split
 · omega
 · rename_i hl
   obtain ⟨x,hx⟩:=opt_of_lt (l:=l) (i:=i % l.length) (Nat.mod_lt _ (by omega))
   rw [List.getD_eq_getElem?_getD,hx]
   exact h x (mem_of_opt hx)
theorem pbyte_ok (l : List Nat) (i : Nat) (hl : ∀ n ∈ l,n < 256) : ACalls Try.prog 81 [bytR l,i64 (i : Int)] (i64 (bytA l i : Int)):=by
 refine acalls_st (rs:=[i64 (bytA l i : Int)]) [.tmp 4] Try.func81 rfl (by kernel_rfl) Try.ntmps81 rfl (by simp) rfl fun C vs=>?_
 refine zq ?_
 refine zb fun K hK=>?_;simp only [go_sem];refine hK _ ?_;clear hK K;refine zw (zk [0,1]) ?_;simp only [go_sem]
 cases hE : (l.length == 0)
 · have hne : l.length ≠ 0:=by simpa using hE
   have hm:=Nat.mod_lt i (show l.length > 0 by omega)
   obtain ⟨x,hx⟩:=opt_of_lt hm
   have hx2:=hl x (mem_of_opt hx)
   have e1 : bytA l i = x:=by unfold bytA; rw [if_neg hne,List.getD_eq_getElem?_getD,hx]; rfl
   have e2 : Int.tmod (i : Int) (l.length : Int) = ((i % l.length : Nat) : Int):=rfl
   have e3 : ((l.length : Int) == 0) = false:=by rw [beq_eq_false_iff_ne]; omega
   have e4 : (l.length : Int) ≠ 0:=by omega
   have e6 : IntKind.i64.wrap (x : Int) = x:=by rw [zI] <;> omega
   repeat refine zq ?_
   refine zb fun K hK=>?_;simp only [go_sem,hE,e3,List.length_map]
   intro _
   refine hK _ ?_;clear hK K;refine zw (zk [0,1,7]) ?_;simp only [go_sem]
   refine zc rfl (fun hc=>?_) (fun hc=>?_) <;> (try simp only [go_sem] at hc)
   refine zx ?_
   try simp only [go_sem]
   have e5 : IntKind.i64.wrap ((i % l.length : Nat) : Int) = ((i % l.length : Nat) : Int):=by rw [zI] <;> omega
   generalize i % l.length = j at *
   refine zq ?_
   refine zb fun K hK=>?_;simp only [go_sem,e2,hx,e4,e5,e6,hm,List.length_map];repeat first | intro _ | refine ⟨by omega,?_⟩
   refine hK _ ?_;clear hK K;refine ze ?_;simp only [go_sem];rw [e1]
 · have hne : l.length = 0:=by simpa using hE
   have e1 : bytA l i = 0:=by unfold bytA; rw [if_pos hne]
   have e3 : ((l.length : Int) == 0) = true:=by rw [beq_iff_eq]; omega
   repeat refine zq ?_
   refine zb fun K hK=>?_;simp only [go_sem,hE,e3,List.length_map]
   intro _
   refine hK _ ?_;clear hK K;refine zw (zk [0,1,7]) ?_;simp only [go_sem]
   refine zc rfl (fun hc=>?_) (fun hc=>?_) <;> (try simp only [go_sem] at hc)
   refine zq ?_
   refine zb fun K hK=>?_;simp only [go_sem];refine hK _ ?_;clear hK K;refine ze ?_;simp only [go_sem]
   rw [e1]; rfl
abbrev btA (B : List Bool) : List AV:=(B.map fun b=>RV.bo b).map AV.r
theorem aR_drop {L : List RV} {i : Nat} {x : RV} (h : L[i]? = some x) : (L.map AV.r).drop i = .r x :: (L.map AV.r).drop (i + 1):=by
 refine drop_of_opt ?_
 simp [h]
theorem aR_set {L : List RV} {i : Nat} {y : RV} (h : i < L.length) : (L.map AV.r).take i ++ (AV.r y :: (L.map AV.r).drop (i + 1)) = (L.set i y).map AV.r:=by
 rw [show (L.set i y).map AV.r = (L.map AV.r).set i (.r y) by simp [List.map_set],List.set_eq_take_append_cons_drop,if_pos (by simpa using h)]
theorem btA_get {B : List Bool} {i : Nat} {x d : Bool} (h : B.getD i d = x) (hi : i < B.length) : (List.drop i (btA B)).headD (AV.r RV.un) = AV.r (.bo x):=by
 obtain ⟨y,hy⟩:=opt_of_lt (l:=B) (i:=i) hi
 rw [List.getD_eq_getElem?_getD,hy] at h
 simp only [Option.getD_some] at h
 subst h
 rw [aR_drop (L:=B.map fun b=>RV.bo b) (x:=.bo y) (by rw [List.getElem?_map,hy]; rfl)]
 rfl
theorem btA_len (B : List Bool) : (btA B).length = B.length:=by simp
theorem ty138 : tyq Try.prog 138 = some ⟨.arr 500 1 false,500,true,List.replicate 500 (.bo false)⟩:=by kernel_rfl
def bedP (n : Nat) : Nat:=if 240 ≤ n then 125 + 100 * (n % 2) else 100 * (1 + n % 3) + 1 + n / 3 % 20
theorem bedP_lt {n : Nat} : 101 ≤ bedP n ∧ bedP n ≤ 320:=by
 unfold bedP
 split <;> omega
def thereB (l : List Nat) : Nat → List Bool
 | 0=>List.replicate 500 false
 | i + 1=>(thereB l i).set (bedP (bytA l i)) true
theorem there_len (l : List Nat) : ∀ i,(thereB l i).length = 500
 | 0=>by simp [thereB]
 | i + 1=>by simp [thereB,there_len l i]
def rndN (l : List Nat) (most : Nat) : Nat:=max 1 (min most l.length)
def hereB (B : List Bool) (k : Nat) : List Nat:=(List.range k).filter fun b=>B.getD b false
theorem here_snoc (B : List Bool) (k : Nat) : hereB B (k + 1) = hereB B k ++ if B.getD k false = true then [k] else []:=by
 unfold hereB
 rw [List.range_succ,List.filter_append]
 congr 1
 simp only [List.filter_cons,List.filter_nil]
def bedsP (l : List Nat) (most : Nat) : List Nat:=hereB (thereB l (rndN l most)) 500
abbrev intsN (l : List Nat) : RV:=ints (l.map fun n : Nat=>(n : Int))
theorem pbeds_ok (l : List Nat) (most : Nat) (hl : ∀ n ∈ l,n < 256) (hm : 1 ≤ most ∧ most ≤ 100) : ACalls Try.prog 47 [bytR l,i64 (most : Int)] (intsN (bedsP l most)):=by
 refine acalls_st (rs:=[intsN (bedsP l most)]) [.tmp 4] Try.func47 rfl (by kernel_rfl) Try.ntmps47 rfl (by simp) rfl fun C vs=>?_
 refine zq ?_
 refine zb fun K hK=>?_;simp only [go_sem];refine hK _ ?_;clear hK K;refine zw (zk [0,1]) ?_;simp only [go_sem]
 refine zq ?_
 refine zb fun K hK=>?_;simp only [go_sem,ty138];refine hK _ ?_;clear hK K;refine zw (sub_own 6 216 60 1 (by omega) rfl) ?_;refine zw (zk [0,1,5,6]) ?_;simp only [go_sem]
 repeat refine zq ?_
 refine zb fun K hK=>?_;simp only [go_sem];refine hK _ ?_;clear hK K;refine zw (zk [0,1,5,6,7]) ?_;simp only [go_sem]
 have hrn : 1 ≤ rndN l most ∧ rndN l most ≤ 100:=by unfold rndN; omega
 refine awp_joinV (n:=60) (fun (_ : Unit) vs=>[(5,.pt 5 (vs 5) 0),(6,.os 216 (vs 216) 1 0 0)]) (fun _ vs=>[(5,.box (btA (thereB l (rndN l most)))),(216,.arr 60 1 [])]) (fun _=>True) (fun _ h=>h) ?_ ?_
 · skip
   refine zd ?_
   refine awp_uptoV (n:=60) (rndN l most) (fun i vs=>[(0,.r (bytR l)),(1,.r (i64 (most : Int))),(5,.pt 5 (vs 5) 0),(6,.os 216 (vs 216) 1 0 0),(7,.r (i64 (i : Int)))])
    (fun i vs=>[(5,.box (btA (thereB l i))),(216,.arr 60 1 [])]) (fun _=>True) 0 (zj [] ?_ ?_) (Nat.zero_le _) trivial ?_
   · try simp only [go_sem]
     try rfl
   · try simp only [go_sem]
     try rfl
   · intro i vs hi _
     by_cases hin : i < rndN l most
     · have hB:=there_len l i
       have hnx : thereB l (i + 1) = (thereB l i).set (bedP (bytA l i)) true:=rfl
       rw [hnx]
       generalize thereB l i = B at *
       have hb8:=bytA_lt hl i
       have hbp:=bedP_lt (n:=bytA l i)
       have hby:=pbyte_ok l i hl
       repeat refine zq ?_
       refine awp_joinV (n:=60) (fun (_ : Unit) vs=>[(0,.r (bytR l)),(1,.r (i64 (most : Int))),(5,.pt 5 (vs 5) 0),(6,.os 216 (vs 216) 1 0 0),(7,.r (i64 (i : Int))),(25,.r (.bo true))]) (fun _ vs=>[(5,.box (btA B)),(216,.arr 60 1 [])]) (fun _=>True) (fun _ h=>h) ?_ ?_
       · by_cases hi0 : i = 0
         · subst hi0
           refine zb fun K hK=>?_;simp only [go_sem,beq_self_eq_true];refine hK _ ?_;clear hK K
           try simp only [go_sem]
           refine ⟨(),zj [] ?_ ?_⟩
           · try simp only [go_sem]
           · try simp only [go_sem]
         · have q0 : ((i : Int) == 0) = false:=by rw [beq_eq_false_iff_ne]; omega
           have q0' : (i == 0) = false:=by rw [beq_eq_false_iff_ne]; omega
           have q1 : i < l.length:=by unfold rndN at hin; omega
           have q2 : i < most:=by unfold rndN at hin; omega
           have q3 : decide ((i : Int) < (most : Int)) = true:=decide_eq_true (by omega)
           refine zb fun K hK=>?_;simp only [go_sem,q0,q0',q1,q2,q3,List.length_map]
           intro _
           refine hK _ ?_;clear hK K
           try simp only [go_sem]
           refine ⟨(),zj [] ?_ ?_⟩
           · try simp only [go_sem]
           · try simp only [go_sem]
       intro _ vs _
       refine zc rfl (fun hc=>?_) (fun hc=>?_) <;> (try simp only [go_sem] at hc)
       refine zx ?_
       try simp only [go_sem]
       refine zq ?_
       refine zd ?_
       refine zq ?_
       refine zb fun K hK=>?_;simp only [go_sem]
       refine zh (hby) rfl (by simp only [go_sem,i64,ints]) (by simp only [go_sem,i64,ints]) (by first | exact .inl rfl | exact .inr rfl) ?_
       (try simp only [go_sem]);refine hK _ ?_;clear hK K;refine zw (zk [0,1,5,6,7,8]) ?_;simp only [go_sem]
       obtain ⟨N,hN⟩ : ∃ N,N = bytA l i:=⟨_,rfl⟩
       rw [← hN] at hb8 hbp
       rw [← hN]
       have m0:=Nat.mod_lt N (show 3 > 0 by omega)
       have m1:=Nat.mod_lt (N / 3) (show 20 > 0 by omega)
       have m2:=Nat.mod_lt N (show 2 > 0 by omega)
       have r0 : Int.tmod (N : Int) 3 = ((N % 3 : Nat) : Int):=rfl
       have r1 : Int.tdiv (N : Int) 3 = ((N / 3 : Nat) : Int):=rfl
       have r2 : Int.tmod ((N / 3 : Nat) : Int) 20 = ((N / 3 % 20 : Nat) : Int):=rfl
       have r3 : Int.tmod (N : Int) 2 = ((N % 2 : Nat) : Int):=rfl
       have v0 : IntKind.i64.wrap (1 + ((N % 3 : Nat) : Int)) = 1 + ((N % 3 : Nat) : Int):=by rw [zI] <;> omega
       have v1 : IntKind.i64.wrap (100 * (1 + ((N % 3 : Nat) : Int))) = 100 * (1 + ((N % 3 : Nat) : Int)):=by rw [zI] <;> omega
       have v2 : IntKind.i64.wrap (100 * (1 + ((N % 3 : Nat) : Int)) + 1) = 100 * (1 + ((N % 3 : Nat) : Int)) + 1:=by rw [zI] <;> omega
       have v3 : IntKind.i64.wrap ((N / 3 : Nat) : Int) = ((N / 3 : Nat) : Int):=by rw [zI] <;> omega
       have v4 : IntKind.i64.wrap (100 * (1 + ((N % 3 : Nat) : Int)) + 1 + ((N / 3 % 20 : Nat) : Int)) = ((100 * (1 + N % 3) + 1 + N / 3 % 20 : Nat) : Int):=by rw [zI] <;> omega
       have v5 : IntKind.i64.wrap (100 * ((N % 2 : Nat) : Int)) = 100 * ((N % 2 : Nat) : Int):=by rw [zI] <;> omega
       have v6 : IntKind.i64.wrap (125 + 100 * ((N % 2 : Nat) : Int)) = ((125 + 100 * (N % 2) : Nat) : Int):=by rw [zI] <;> omega
       refine zq ?_
       refine zb fun K hK=>?_;simp only [go_sem,r0,r1,r2,v0,v1,v2,v3,v4];refine hK _ ?_;clear hK K;refine zw (zk [0,1,5,6,7,8,9]) ?_;simp only [go_sem]
       repeat refine zq ?_
       refine awp_joinV (n:=60) (fun (_ : Unit) vs=>[(0,.r (bytR l)),(1,.r (i64 (most : Int))),(5,.pt 5 (vs 5) 0),(6,.os 216 (vs 216) 1 0 0),(7,.r (i64 (i : Int))),(8,.r (i64 (N : Int))),(9,.r (i64 ((100 * (1 + N % 3) + 1 + N / 3 % 20 : Nat) : Int))),(41,.r (.bo (decide (240 ≤ N))))]) (fun _ vs=>[(5,.box (btA B)),(216,.arr 60 1 [])]) (fun _=>True) (fun _ h=>h) ?_ ?_
       · have g0 : decide ((240 : Int) ≤ (N : Int)) = decide (240 ≤ N):=by rw [Bool.eq_iff_iff,decide_eq_true_eq,decide_eq_true_eq]; omega
         refine zb fun K hK=>?_;simp only [go_sem,g0];refine hK _ ?_;clear hK K
         try simp only [go_sem]
         refine ⟨(),zj [] ?_ ?_⟩
         · try simp only [go_sem]
           try simp
           try omega
         · try simp only [go_sem]
       intro _ vs _
       refine awp_joinV (n:=60) (fun (_ : Unit) vs=>[(0,.r (bytR l)),(1,.r (i64 (most : Int))),(5,.pt 5 (vs 5) 0),(6,.os 216 (vs 216) 1 0 0),(7,.r (i64 (i : Int))),(9,.r (i64 (bedP N : Int)))]) (fun _ vs=>[(5,.box (btA B)),(216,.arr 60 1 [])]) (fun _=>True) (fun _ h=>h) ?_ ?_
       · by_cases hbig : 240 ≤ N
         · have hd : decide (240 ≤ N) = true:=decide_eq_true hbig
           have hbe : bedP N = 125 + 100 * (N % 2):=by unfold bedP; rw [if_pos hbig]
           rw [hd,hbe]
           refine zc rfl (fun hc=>?_) (fun hc=>?_) <;> (try simp only [go_sem] at hc)
           refine zb fun K hK=>?_;simp only [go_sem,r3,v5,v6];refine hK _ ?_;clear hK K
           try simp only [go_sem]
           refine ⟨(),zj [] ?_ ?_⟩
           · try simp only [go_sem]
           · try simp only [go_sem]
         · have hd : decide (240 ≤ N) = false:=decide_eq_false hbig
           have hbe : bedP N = 100 * (1 + N % 3) + 1 + N / 3 % 20:=by unfold bedP; rw [if_neg hbig]
           rw [hd,hbe]
           refine zc rfl (fun hc=>?_) (fun hc=>?_) <;> (try simp only [go_sem] at hc)
           refine zx ?_
           try simp only [go_sem]
           refine ⟨(),zj [] ?_ ?_⟩
           · try simp only [go_sem]
           · try simp only [go_sem]
       intro _ vs _
       generalize bedP N = bd at *
       obtain ⟨yb,hyb⟩:=opt_of_lt (l:=B) (i:=bd) (by omega)
       have hdr:=aR_drop (L:=B.map fun b=>RV.bo b) (i:=bd) (x:=.bo yb) (by rw [List.getElem?_map,hyb]; rfl)
       have hse:=aR_set (L:=B.map fun b=>RV.bo b) (i:=bd) (y:=.bo true) (by rw [List.length_map]; omega)
       have hbl:=btA_len B
       refine zb fun K hK=>?_;simp only [go_sem,ty138,hdr,hse,hbl,hB,List.length_map,Nat.mul_one,List.headD_cons]
       repeat refine ⟨by omega,?_⟩
       refine hK _ ?_;clear hK K;refine zw (zk [0,1,5,6,7]) ?_;simp only [go_sem];refine zb fun K hK=>?_;simp only [go_sem];(try simp (disch:=omega) only [zI]);refine hK _ ?_;clear hK K
       try simp only [go_sem]
       have hA : btA (B.set bd true) = List.map AV.r ((B.map fun b=>RV.bo b).set bd (.bo true)):=by
        show List.map AV.r (List.map _ (B.set bd true)) = _
        rw [List.map_set]
       refine ⟨by omega,zj [] ?_ ?_⟩
       · try simp only [go_sem]
       · try simp only [go_sem]
         try rw [hA]
     · have hie : i = rndN l most:=by omega
       subst hie
       have q0 : (((rndN l most : Nat) : Int) == 0) = false:=by rw [beq_eq_false_iff_ne]; omega
       have q0' : (rndN l most == 0) = false:=by rw [beq_eq_false_iff_ne]; omega
       generalize hB : thereB l (rndN l most) = B at *
       repeat refine zq ?_
       refine awp_joinV (n:=60) (fun (_ : Unit) vs=>[(5,.pt 5 (vs 5) 0),(6,.os 216 (vs 216) 1 0 0),(25,.r (.bo false))]) (fun _ vs=>[(5,.box (btA B)),(216,.arr 60 1 [])]) (fun _=>True) (fun _ h=>h) ?_ ?_
       · by_cases hq : rndN l most < l.length
         · have hq2 : decide (((rndN l most : Nat) : Int) < (most : Int)) = false:=decide_eq_false (by unfold rndN at hq ⊢; omega)
           have hq3 : ¬ rndN l most < most:=by unfold rndN at hq ⊢; omega
           refine zb fun K hK=>?_;simp only [go_sem,q0,q0',hq,hq2,List.length_map]
           intro _
           refine hK _ ?_;clear hK K
           try simp only [go_sem]
           refine ⟨(),zj [] ?_ ?_⟩
           · try simp only [go_sem]
             try exact hq3
           · try simp only [go_sem]
         · skip
           refine zb fun K hK=>?_;simp only [go_sem,q0,q0',hq,List.length_map]
           intro _
           refine hK _ ?_;clear hK K
           try simp only [go_sem]
           refine ⟨(),zj [] ?_ ?_⟩
           · try simp only [go_sem]
           · try simp only [go_sem]
       intro _ vs _
       refine zc rfl (fun hc=>?_) (fun hc=>?_) <;> (try simp only [go_sem] at hc)
       refine zf ?_;simp only [go_sem]
       refine ⟨(),zj [] ?_ ?_⟩
       · try simp only [go_sem]
       · try simp only [go_sem]
 intro _ vs _
 have hB:=there_len l (rndN l most)
 have hbp : bedsP l most = hereB (thereB l (rndN l most)) 500:=rfl
 rw [hbp]
 generalize thereB l (rndN l most) = B at *
 have hbl:=btA_len B
 repeat refine zq ?_
 refine zb fun K hK=>?_;simp only [go_sem];refine hK _ ?_;clear hK K;refine zw (zk [5,6,10]) ?_;simp only [go_sem];refine zd ?_
 refine awp_uptoV (n:=60) 500 (fun i vs=>[(5,.pt 5 (vs 5) 0),(6,.os 216 (vs 216) 1 0 (hereB B i).length),(10,.r (i64 (i : Int)))])
  (fun i vs=>[(5,.box (btA B)),(216,.arr 60 1 ((hereB B i).map fun n : Nat=>[i64 (n : Int)]))]) (fun _=>True) 0 (zj [] ?_ ?_) (Nat.zero_le _) trivial ?_
 · try simp only [go_sem]
   try rfl
 · try simp only [go_sem]
   try rfl
 · intro i vs hi _
   by_cases hin : i < 500
   · have hsn:=here_snoc B i
     have hll : (hereB B i).length ≤ i:=by
      have:=List.length_filter_le (fun b=>B.getD b false) (List.range i)
      rw [List.length_range] at this
      exact this
     have g1 : decide ((i : Int) < 500) = true:=decide_eq_true (by omega)
     have hget : (List.drop i (btA B)).headD (AV.r RV.un) = AV.r (.bo (B.getD i false)):=btA_get (i:=i) (d:=false) rfl (by omega)
     rw [hsn]
     generalize hereB B i = H at *
     repeat refine zq ?_
     refine zb fun K hK=>?_;simp only [go_sem,g1];refine hK _ ?_;clear hK K;refine zw (zk [5,6,10,49]) ?_;simp only [go_sem]
     refine zc rfl (fun hc=>?_) (fun hc=>?_) <;> (try simp only [go_sem] at hc)
     refine zx ?_
     try simp only [go_sem]
     refine zq ?_
     refine zd ?_
     refine zq ?_
     refine zb fun K hK=>?_;simp only [go_sem,ty138,hget,hbl,hB,hin,List.length_map,Nat.mul_one,List.headD_cons]
     repeat refine ⟨by omega,?_⟩
     refine hK _ ?_;clear hK K;refine zw (zk [5,6,10,54]) ?_;simp only [go_sem]
     cases hq : B.getD i false
     · skip
       refine zc rfl (fun hc=>?_) (fun hc=>?_) <;> (try simp only [go_sem] at hc)
       refine zx ?_
       try simp only [go_sem]
       refine zb fun K hK=>?_;simp only [go_sem];(try simp (disch:=omega) only [zI]);refine hK _ ?_;clear hK K
       try simp only [go_sem]
       refine ⟨by omega,zj [] ?_ ?_⟩
       · try simp only [go_sem]
       · try simp only [go_sem]
     · skip
       refine zc rfl (fun hc=>?_) (fun hc=>?_) <;> (try simp only [go_sem] at hc)
       refine zb fun K hK=>?_;simp only [go_sem,List.length_map]
       refine ⟨by omega,?_⟩
       refine hK _ ?_;clear hK K;refine zw (zk [5,6,10]) ?_;simp only [go_sem];refine zb fun K hK=>?_;simp only [go_sem];(try simp (disch:=omega) only [zI]);refine hK _ ?_;clear hK K
       try simp only [go_sem]
       try simp only [if_true,List.length_append,List.length_cons,List.length_nil,List.map_append,List.map_cons,List.map_nil]
       refine ⟨by omega,zj [] ?_ ?_⟩
       · try simp only [go_sem]
       · try simp only [go_sem]
   · have hie : i = 500:=by omega
     subst hie
     repeat refine zq ?_
     refine zb fun K hK=>?_;simp only [go_sem];refine hK _ ?_;clear hK K;refine zw (zk [5,6,10,49]) ?_;simp only [go_sem]
     refine zc rfl (fun hc=>?_) (fun hc=>?_) <;> (try simp only [go_sem] at hc)
     refine zf ?_;simp only [go_sem];refine zw (sub_frz (ty:=60) (sz:=1) (off:=0) (m:=(hereB B 500).length) (es:=(hereB B 500).map fun n : Nat=>[i64 (n : Int)]) 6 216 (by omega) rfl (by rfl) (by simp)) ?_
     have tk2 : List.take (hereB B 500).length ((hereB B 500).map fun n : Nat=>[i64 (n : Int)]) = (hereB B 500).map fun n : Nat=>[i64 (n : Int)]:=List.take_of_length_le (by simp)
     try simp only [go_sem]
     try rw [tk2]
     refine zq ?_
     refine zb fun K hK=>?_;simp only [go_sem];refine hK _ ?_;clear hK K;refine zw (zk [4]) ?_;simp only [go_sem];refine ze ?_;simp only [go_sem]
     try simp
theorem bedP_all : ∀ n,n < 256 → bedOk (bedP n) = true ∧ 0 ≤ scoreOf (bedP n) ∧ scoreOf (bedP n) ≤ 60:=by decide +kernel
theorem there_mem {l : List Nat} {b : Nat} : ∀ {i : Nat},(thereB l i).getD b false = true → ∃ j,j < i ∧ b = bedP (bytA l j)
 | 0, h => by
   unfold thereB at h
   rw [List.getD_eq_getElem?_getD,List.getElem?_replicate] at h
   split at h <;> simp at h
 | i + 1, h => by
   unfold thereB at h
   rw [List.getD_eq_getElem?_getD,List.getElem?_set] at h
   split at h
   · rename_i e
     exact ⟨i,by omega,e.symm⟩
   · rw [← List.getD_eq_getElem?_getD] at h
     obtain ⟨j,hj,e⟩:=there_mem h
     exact ⟨j,by omega,e⟩
theorem there_set (l : List Nat) (i : Nat) : (thereB l (i + 1)).getD (bedP (bytA l i)) false = true:=by
 have:=bedP_lt (n:=bytA l i)
 unfold thereB
 rw [List.getD_eq_getElem?_getD,List.getElem?_set,if_pos rfl,if_pos (by rw [there_len]; omega)]
 rfl
theorem here_len (B : List Bool) : ∀ k,(hereB B k).length = (B.take k).countP id
 | 0=>by simp [hereB]
 | k + 1 => by
   rw [here_snoc,List.length_append,here_len B k]
   by_cases h : k < B.length
   · obtain ⟨x,hx⟩:=opt_of_lt h
     rw [take_of_opt hx,List.countP_append,List.getD_eq_getElem?_getD,hx]
     cases x <;> simp
   · rw [List.take_of_length_le (by omega),List.take_of_length_le (by omega),List.getD_eq_getElem?_getD,List.getElem?_eq_none (by omega)]
     simp
theorem count_set (v : Bool) : ∀ (B : List Bool) (j : Nat),(B.set j v).countP id ≤ B.countP id + 1
 | [],j=>by simp
 | x :: B, 0 => by
   rw [List.set_cons_zero,List.countP_cons,List.countP_cons]
   split <;> split <;> omega
 | x :: B, j + 1 => by
   rw [List.set_cons_succ,List.countP_cons,List.countP_cons]
   have:=count_set v B j
   omega
theorem there_count (l : List Nat) : ∀ i,(thereB l i).countP id ≤ i
 | 0=>by simp [thereB,List.countP_replicate]
 | i + 1 => by
   have h1:=there_count l i
   have h2:=count_set true (thereB l i) (bedP (bytA l i))
   unfold thereB
   omega
abbrev bsP (l : List Nat) (most : Nat) : List Int:=(bedsP l most).map fun n : Nat=>(n : Int)
theorem bsP_all {l : List Nat} (hl : ∀ n ∈ l,n < 256) {most : Nat} (hm : 1 ≤ most ∧ most ≤ 100) : (bsP l most).Pairwise (· < ·) ∧ bsP l most ≠ [] ∧ (bsP l most).length ≤ most ∧ ∀ b ∈ bsP l most,bedOk b = true ∧ 0 ≤ scoreOf b ∧ scoreOf b ≤ 60:=by
 have hr : 1 ≤ rndN l most ∧ rndN l most ≤ most:=by unfold rndN; omega
 refine ⟨?_,?_,?_,?_⟩
 · rw [List.pairwise_map]
   have : (bedsP l most).Pairwise (· < ·):=by
    unfold bedsP hereB
    exact (List.pairwise_lt_range (n:=500)).filter _
   exact this.imp fun h=>by omega
 · intro e
   have e:=List.map_eq_nil_iff.1 e
   have hs:=there_set l (rndN l most - 1)
   have hlt:=bedP_lt (n:=bytA l (rndN l most - 1))
   rw [show rndN l most - 1 + 1 = rndN l most by omega] at hs
   have hmem : bedP (bytA l (rndN l most - 1)) ∈ bedsP l most:=List.mem_filter.2 ⟨List.mem_range.2 (by omega),hs⟩
   rw [e] at hmem
   cases hmem
 · rw [List.length_map]
   have h1:=here_len (thereB l (rndN l most)) 500
   have h2:=there_count l (rndN l most)
   rw [List.take_of_length_le (by rw [there_len]; omega)] at h1
   unfold bedsP
   omega
 · intro b hb
   obtain ⟨n,hn,rfl⟩:=List.mem_map.1 hb
   obtain ⟨j,_,rfl⟩:=there_mem (List.mem_filter.1 hn).2
   obtain ⟨q1,q2⟩:=bedP_all _ (bytA_lt hl j)
   exact ⟨q1,q2⟩
end Go.Proofs.Ytgfbenanljjgaaa.Du.Th

namespace Go.Proofs.Ytgfbenanljjgaaa.Du.Th.Ai
open Go Go.Oc
set_option linter.unusedSimpArgs false
set_option linter.unusedVariables false
set_option maxRecDepth 8000
def sureA (b : Int) : Am:=⟨b,[⟨b,1,1⟩]⟩
def sureL (bs : List Int) : List Am:=bs.map sureA
def suK (bs : List Int) (st g : Int) : Rk:=⟨1,sureL bs,st,g⟩
theorem sure_aim {b : Int} (h : bedOk b = true) : aimOk 1 (sureA b) = true:=by
 unfold aimOk sureA
 simp only [h,Bool.true_and,Bool.and_eq_true,decide_eq_true_eq]
 refine ⟨⟨⟨⟨rfl,?_⟩,?_⟩,?_⟩,?_⟩
 · simp [seqOk,h]
 · simp [chOk]
 · simp [loS]
 · simp [hiS]
theorem sure_chk {bs : List Int} (hB : ∀ b ∈ bs,bedOk b = true) (hl : 1 ≤ bs.length ∧ bs.length ≤ 10) : checkV 1 (sureL bs) = 0:=by
 have hne : bs ≠ []:=fun e=>by subst e; simp at hl
 unfold checkV
 rw [if_neg,if_neg,if_pos]
 · rw [List.all_eq_true]
   intro a ha
   obtain ⟨b,hb,rfl⟩:=List.mem_map.1 ha
   exact sure_aim (hB b hb)
 · simp [sureL,hne]
 · simp [sureL,sureA]; omega
theorem su_ok {bs : List Int} {st g : Int} (hB : ∀ b ∈ bs,bedOk b = true) (hl : 1 ≤ bs.length ∧ bs.length ≤ 10) (hs : 2 ≤ st ∧ st ≤ 60) (hg : 0 ≤ g ∧ g ≤ 2) : checkR (suK bs st g) = 0:=by
 have h : checkV (suK bs st g).d (suK bs st g).aims = 0:=sure_chk hB hl
 unfold checkR
 rw [if_pos h,if_pos ⟨hs,hg⟩]
def endB (g : Int) (bs : List Int) : Nat → Int → Bool
 | 0,s=>s == 0
 | d + 1,s=>s == 0 || (throwsO g s bs).any fun x=>endB g bs d x.2
theorem end_zero (g : Int) (bs : List Int) : ∀ d,endB g bs d 0 = true
 | 0=>rfl
 | d + 1=>by unfold endB; rfl
theorem end_mono {g : Int} {bs : List Int} : ∀ {d : Nat} {s : Int},endB g bs d s = true → endB g bs (d + 1) s = true
 | 0, s, h => by
   unfold endB at h ⊢
   rw [h]; rfl
 | d + 1, s, h => by
   unfold endB at h ⊢
   rw [Bool.or_eq_true,List.any_eq_true] at h ⊢
   rcases h with h | ⟨x,hx,hd⟩
   · exact .inl h
   · exact .inr ⟨x,hx,end_mono hd⟩
theorem end_le {g : Int} {bs : List Int} {d e : Nat} {s : Int} (h : endB g bs d s = true) (hde : d ≤ e) : endB g bs e s = true:=by
 induction e with
 | zero=>rw [show (0 : Nat) = d by omega]; exact h
 | succ e ih =>
   by_cases c : d ≤ e
   · exact end_mono (ih c)
   · rw [show e + 1 = d by omega]; exact h
theorem end_step {g : Int} {bs : List Int} {d : Nat} {left : Nat} (hl : 1 ≤ left) {x : Int × Int} (hx : x ∈ throwsO g left bs) (he : endB g bs d x.2 = true) : endB g bs (d + 1) left = true:=by
 unfold endB
 rw [Bool.or_eq_true,List.any_eq_true]
 exact .inr ⟨x,hx,he⟩
theorem throws_in {g s : Int} {bs : List Int} {b : Int} (hb : b ∈ bs) (h1 : (afterO g s b).2 = true) (h2 : 0 < s) : (b,(afterO g s b).1) ∈ throwsO g s bs:=by
 unfold throwsO
 refine List.mem_filterMap.2 ⟨b,hb,?_⟩
 rw [if_pos (by simp [h1,h2])]
theorem throws_ok2 {g s : Int} {bs : List Int} {x : Int × Int} (h : x ∈ throwsO g s bs) : (afterO g s x.1).2 = true:=by
 unfold throwsO at h
 obtain ⟨b,_,e⟩:=List.mem_filterMap.1 h
 split at e
 · rename_i hc
   injection e with e
   subst e
   simp only [Bool.and_eq_true] at hc
   exact hc.1
 · cases e
theorem op_eq {g b : Int} (hv : bedOk b = true) : opA g b = opensD g b:=by
 have : b ≠ 0:=fun e=>by subst e; simp [bedOk] at hv
 unfold opA opensD
 split
 · rfl
 · split
   · rfl
   · simp [this]
theorem next_cases {bs : List Int} {g own : Int} {b : Int} (hb : b ∈ bs) (hv : bedOk b = true) {left : Nat} (hl : 1 ≤ left) (f : Int → Int) :
 ((b,(0 : Int)) ∈ throwsO g left bs ∧ nextA g own left f b = 0) ∨
 ((afterO g left b).2 = false ∧ nextA g own left f b = own) ∨
 (∃ y : Nat,(b,(y : Int)) ∈ throwsO g left bs ∧ lowG g ≤ (y : Int) ∧ y < left ∧ nextA g own left f b = f y):=by
 have hp:=bedOk_pos hv
 have hin:=throws_in (g:=g) (s:=(left : Int)) (bs:=bs) (b:=b) hb
 unfold nextA
 rw [op_eq hv]
 unfold afterO at hin ⊢
 by_cases c0 : (left : Int) - scoreOf b = 0
 · rw [if_pos c0] at hin ⊢
   have hd0 : decide ((left : Int) - scoreOf b = 0) = true:=decide_eq_true c0
   rw [hd0,Bool.true_and]
   cases ho : opensD g b with
   | true =>
     rw [ho] at hin
     exact .inl ⟨hin rfl (by omega),by rw [if_pos rfl]⟩
   | false =>
     right; left
     refine ⟨rfl,?_⟩
     have:=lowG_le g
     rw [if_neg (by simp),if_pos (by omega)]
 · rw [if_neg c0] at hin ⊢
   have hd0 : decide ((left : Int) - scoreOf b = 0) = false:=decide_eq_false c0
   rw [hd0,Bool.false_and,if_neg (by simp)]
   by_cases cl : (left : Int) - scoreOf b < lowG g
   · right; left
     rw [if_pos cl]
     refine ⟨?_,rfl⟩
     unfold lowG at cl
     by_cases c1 : (left : Int) - scoreOf b = 1
     · rw [if_pos c1]
       by_cases cg : g = 0
       · rw [if_pos cg] at cl; omega
       · simp [cg]
     · rw [if_neg c1]
       simp only [decide_eq_false_iff_not]
       split at cl <;> omega
   · right; right
     have hl1:=lowG_le g
     refine ⟨((left : Int) - scoreOf b).toNat,?_,by omega,by omega,?_⟩
     · have e : ((((left : Int) - scoreOf b).toNat : Nat) : Int) = (left : Int) - scoreOf b:=by omega
       rw [e]
       by_cases c1 : (left : Int) - scoreOf b = 1
       · rw [if_pos c1] at hin
         rw [c1]
         refine hin ?_ (by omega)
         unfold lowG at cl
         by_cases cg : g = 0
         · simp [cg]
         · rw [if_neg cg] at cl; omega
       · rw [if_neg c1] at hin
         exact hin (by simp only [decide_eq_true_eq]; omega) (by omega)
     · rw [if_neg cl]
       congr 1; omega
theorem sure_mean {s : Bool} {own left : Int} {f : Int → Int} {st g b : Int} {bs : List Int} (hB : bedOk b = true) (hv : VOk (nextA g own left f b)) : meanA (suK bs st g) s own left f (sureA b) = nextA g own left f b:=by
 unfold meanA
 show meanS s 1 [⟨b,1,1⟩] [nextA g own left f b] = _
 generalize nextA g own left f b = v at *
 have hc : canA [⟨b,1,1⟩] 0 1 = 1:=rfl
 by_cases h2 : v = 2000000000
 · subst h2
   unfold meanS
   rw [if_pos]
   refine List.any_eq_true.2 ⟨0,by simp,?_⟩
   simp only [badA,Bool.and_eq_true,decide_eq_true_eq,hc];exact ⟨rfl,by omega⟩
 · have hnb : ¬ (List.range [(⟨b,1,1⟩ : Bd)].length).any (badA [⟨b,1,1⟩] 1 [v]) = true:=fun hh=>by
    obtain ⟨i,hi,hbi⟩:=List.any_eq_true.1 hh
    have hi0 : i = 0:=by simpa using hi
    subst hi0
    simp only [badA,Bool.and_eq_true,decide_eq_true_eq] at hbi
    exact h2 hbi.1
   have hz : [v].map zN = [v]:=by simp [zN,h2]
   have hAok : AOk 1 [(⟨b,1,1⟩ : Bd)] → meanZ s 1 [⟨b,1,1⟩] [v] = v:=fun h=>by
    have hd1 : ∀ y,TruthN 1 [(⟨b,1,1⟩ : Bd)] y → dotV y [v] = v:=fun y hy=>by
     have hl:=hy.len
     have he:=hy.each 0 (by simp)
     match y,hl with
     | [z], _ =>
       have : z = 1:=by simp [bAt] at he; omega
       subst this
       simp [dotV]
    unfold meanZ
    cases s
    · have e : meanHi 1 [⟨b,1,1⟩] [v] = v:=hd1 _ (h.truth _ _)
      simp only [Bool.false_eq_true,if_false,e]
      omega
    · have e : meanLo 1 [⟨b,1,1⟩] [v] = v:=hd1 _ (h.truth _ _)
      simp only [if_true,e]
      omega
   unfold meanS
   rw [if_neg hnb,hz]
   exact hAok ⟨by omega,by simp [chOk],by simp [loS],by simp [hiS],by simp,by simp,fun c hc=>by simp at hc; subst hc; exact .inr hB⟩
theorem val_sure {bs : List Int} {st g : Int} (hB : ∀ b ∈ bs,bedOk b = true) (hne : bs ≠ []) {sd : Bool} {T : List Int} {n Nv : Int} {s : Nat} (hr : ROk (suK bs st g)) (vT : ∀ x ∈ T,VOk x) (vn : VOk n)
 (hT : ∀ y : Nat,lowG g ≤ y → y < s → (∃ v : Nat,1 ≤ v ∧ T.getD y 0 = (v : Int) * 1000000 ∧ endB g bs (3 * v) y = true ∧ endB g bs (3 * (v - 1)) y = false) ∨ (T.getD y 0 = Nv ∧ ∀ M,endB g bs M y = false)) :
 ∀ (d left : Nat), lowG g ≤ left → left ≤ s → (d = 0 → left < s) →
   (∀ M : Nat,endB g bs (d + 3 * M) left = true → valA (suK bs st g) sd T n d left ≤ (M : Int) * 1000000) ∧
   (valA (suK bs st g) sd T n d left = n ∨ valA (suK bs st g) sd T n d left = Nv ∨ ∃ M : Nat,valA (suK bs st g) sd T n d left = (M : Int) * 1000000 ∧ endB g bs (d + 3 * M) left = true)
 | 0, left, h1, h2, h3 => by
   have h3:=h3 rfl
   have e : valA (suK bs st g) sd T n 0 left = T.getD left 0:=by simp [valA]
   rw [e]
   rcases hT left h1 h3 with ⟨v,v1,v2,v3,v4⟩ | ⟨v1,v2⟩
   · refine ⟨fun M hM=>?_,.inr (.inr ⟨v,v2,by rw [Nat.zero_add]; exact v3⟩)⟩
     rw [Nat.zero_add] at hM
     have : v ≤ M:=by
      refine Nat.not_lt.1 fun hlt=>?_
      have:=end_le hM (show 3 * M ≤ 3 * (v - 1) by omega)
      rw [v4] at this; cases this
     rw [v2]; omega
   · refine ⟨fun M hM=>?_,.inr (.inl v1)⟩
     rw [v2] at hM; cases hM
 | d + 1, left, h1, h2, _ => by
   have hlg:=lowG_le g
   have hl1 : 1 ≤ left:=by omega
   have ih:=fun (y : Nat) (y1 : lowG g ≤ y) (y2 : y < left)=>val_sure hB hne (sd:=sd) (Nv:=Nv) hr vT vn hT d y y1 (by omega) (fun _=>by omega)
   have hvv:=fun x=>valA_vok hr (s:=sd) vT vn d x
   have hnv : ∀ b,VOk (nextA g n left (valA (suK bs st g) sd T n d) b):=fun b=>nextA_vok vn hvv b
   have hval : valA (suK bs st g) sd T n (d + 1) left = leastA (bs.map (nextA g n left (valA (suK bs st g) sd T n d))):=by
    show leastA ((bs.map sureA).map _) = _
    rw [List.map_map]
    congr 1
    exact List.map_congr_left fun b hb=>sure_mean (hB b hb) (hnv b)
   obtain ⟨f1,f2,f3⟩:=foldl_min (bs.map (nextA g n left (valA (suK bs st g) sd T n d))) 2000000000
   have hmem : ∃ b ∈ bs,leastA (bs.map (nextA g n left (valA (suK bs st g) sd T n d))) = nextA g n left (valA (suK bs st g) sd T n d) b:=by
    rcases f3 with f3 | f3
    · obtain ⟨b,hb⟩:=List.exists_mem_of_ne_nil _ hne
      refine ⟨b,hb,?_⟩
      have h4:=f2 _ (List.mem_map.2 ⟨b,hb,rfl⟩)
      have h5:=hnv b
      unfold VOk at h5
      show List.foldl min 2000000000 _ = _
      omega
    · obtain ⟨b,hb,e⟩:=List.mem_map.1 f3
      exact ⟨b,hb,e.symm⟩
   rw [hval]
   refine ⟨fun M hM=>?_,?_⟩
   · rw [show d + 1 + 3 * M = (d + 3 * M) + 1 by omega] at hM
     unfold endB at hM
     have hz : ((left : Int) == 0) = false:=by rw [beq_eq_false_iff_ne]; omega
     rw [hz,Bool.false_or,List.any_eq_true] at hM
     obtain ⟨x,hx,he⟩:=hM
     obtain ⟨t1,t2,t3,t4⟩:=throws_mem hB hx
     refine Int.le_trans (f2 _ (List.mem_map.2 ⟨x.1,t1,rfl⟩)) ?_
     rcases next_cases (own:=n) t1 (hB _ t1) hl1 (valA (suK bs st g) sd T n d) with ⟨q1,q2⟩ | ⟨q1,q2⟩ | ⟨y,q1,q2,q3,q4⟩
     · rw [q2]; omega
     · rw [throws_ok2 hx] at q1; cases q1
     · have hy : (y : Int) = x.2:=by
        obtain ⟨_,_,_,u4⟩:=throws_mem hB q1
        simp only at u4
        omega
       rw [q4]
       exact (ih y q2 q3).1 M (by rw [hy]; exact he)
   · obtain ⟨b,hb,e⟩:=hmem
     rw [e]
     rcases next_cases (own:=n) hb (hB b hb) hl1 (valA (suK bs st g) sd T n d) with ⟨q1,q2⟩ | ⟨q1,q2⟩ | ⟨y,q1,q2,q3,q4⟩
     · exact .inr (.inr ⟨0,by rw [q2]; rfl,end_le (end_step (d:=0) hl1 q1 (end_zero g bs 0)) (by omega)⟩)
     · exact .inl q2
     · rw [q4]
       rcases (ih y q2 q3).2 with i1 | i1 | ⟨M,i1,i2⟩
       · exact .inl i1
       · exact .inr (.inl i1)
       · refine .inr (.inr ⟨M,i1,?_⟩)
         have:=end_step (d:=d + 3 * M) hl1 q1 i2
         rw [show d + 1 + 3 * M = d + 3 * M + 1 by omega]
         exact this
theorem end_self {g : Int} {bs : List Int} (hB : ∀ b ∈ bs,bedOk b = true) : ∀ (N left : Nat),left ≤ N → ∀ M,endB g bs M left = true → endB g bs left left = true
 | _,0,_,_,_=>end_zero g bs 0
 | 0,left + 1,h,_,_=>by omega
 | N + 1, left + 1, h, M, hM => by
   have hz : (((left + 1 : Nat) : Int) == 0) = false:=by rw [beq_eq_false_iff_ne]; omega
   cases M with
   | zero=>unfold endB at hM; rw [hz] at hM; cases hM
   | succ M =>
     unfold endB at hM
     rw [hz,Bool.false_or,List.any_eq_true] at hM
     obtain ⟨x,hx,he⟩:=hM
     obtain ⟨t1,t2,t3,t4⟩:=throws_mem hB hx
     have hy : ((x.2.toNat : Nat) : Int) = x.2:=by omega
     have ih:=end_self hB N x.2.toNat (by omega) M (by rw [hy]; exact he)
     rw [hy] at ih
     exact end_step (by omega) hx (end_le ih (by omega))
theorem end_first {g : Int} {bs : List Int} {s : Nat} (h0 : endB g bs 0 s = false) : ∀ (w : Nat),endB g bs (3 * w) s = true → ∃ v : Nat,1 ≤ v ∧ v ≤ w ∧ endB g bs (3 * v) s = true ∧ endB g bs (3 * (v - 1)) s = false
 | 0,h=>by rw [Nat.mul_zero,h0] at h; cases h
 | w + 1, h => by
   cases hw : endB g bs (3 * w) s
   · exact ⟨w + 1,by omega,Nat.le_refl _,h,by rw [Nat.add_sub_cancel]; exact hw⟩
   · obtain ⟨v,a,b,c,d⟩:=end_first h0 w hw
     exact ⟨v,a,by omega,c,d⟩
def nvS (sd : Bool) : Int:=if sd then 1000000000 else 2000000000
theorem sure_at {bs : List Int} {st g : Int} (hB : ∀ b ∈ bs,bedOk b = true) (hne : bs ≠ []) (hr : ROk (suK bs st g)) (sd : Bool) : ∀ s : Nat,lowG g ≤ s → (s : Int) ≤ st →
 (∃ v : Nat,1 ≤ v ∧ (tabT (suK bs st g) sd).getD s 0 = (v : Int) * 1000000 ∧ endB g bs (3 * v) s = true ∧ endB g bs (3 * (v - 1)) s = false) ∨ ((tabT (suK bs st g) sd).getD s 0 = nvS sd ∧ ∀ M,endB g bs M s = false):=by
 intro s
 induction s using Nat.strongRecOn with
 | _ s ih =>
   intro h1 h2
   have hlg:=lowG_le g
   have hst:=hr.start
   have hstE : (suK bs st g).start = st:=rfl
   obtain ⟨nums,hnn,hns,g1,g2,g3⟩:=tabT_at hr sd (st:=s) h1 h2
   have hy : ∀ y,y < s → nums.getD y 0 = (tabT (suK bs st g) sd).getD y 0:=fun y hy=>by
    rw [g3 y (by omega),getD_set hns,if_neg (by omega)]
   have hset : ∀ (n : Int) y,(nums.set s n).getD y 0 = if s = y then n else nums.getD y 0:=fun n y=>getD_set hns n y
   have hvs:=fun (n : Int) (vn : VOk n)=>val_sure hB hne (sd:=sd) (T:=nums.set s n) (n:=n) (Nv:=nvS sd) (s:=s) hr (fun x hx=>by
    rcases List.mem_or_eq_of_mem_set hx with hx | rfl
    · exact hnn x hx
    · exact vn) vn (fun y y1 y2=>by
    rw [hset,if_neg (by omega),hy y y2]
    exact ih y y2 y1 (by omega)) 3 s h1 (Nat.le_refl _) (fun h=>by omega)
   have hgn : ∀ n,(nums.set s n).getD s 0 = n:=fun n=>by rw [hset,if_pos rfl]
   have hU : ∀ n,holdsA (suK bs st g) false (nums.set s n) s = (decide (1000000 + valA (suK bs st g) false (nums.set s n) n 3 s ≤ n) || decide (n = 2000000000)):=fun n=>by
    unfold holdsA
    simp only [Bool.false_eq_true,if_false,hgn]
   have hL : ∀ n,holdsA (suK bs st g) true (nums.set s n) s = decide (n ≤ 1000000 + valA (suK bs st g) true (nums.set s n) n 3 s):=fun n=>by
    unfold holdsA
    simp only [if_true,hgn]
   have h0 : endB g bs 0 s = false:=by
    unfold endB
    rw [beq_eq_false_iff_ne]; omega
   rw [g1]
   by_cases he : ∃ M,endB g bs M s = true
   · left
     obtain ⟨M,hM⟩:=he
     have hs1:=end_le (end_self hB s s (Nat.le_refl _) M hM) (show s ≤ 3 * s by omega)
     obtain ⟨v,v1,v2,v3,v4⟩:=end_first h0 s hs1
     refine ⟨v,v1,?_,v3,v4⟩
     have hs60 : s ≤ 60:=by omega
     have key : ∀ n : Int,VOk n → ((v : Int) - 1) * 1000000 < n → valA (suK bs st g) sd (nums.set s n) n 3 s = ((v : Int) - 1) * 1000000:=fun n vn hn=>by
      obtain ⟨a1,a2⟩:=hvs n vn
      have b1:=a1 (v - 1) (by rw [show 3 + 3 * (v - 1) = 3 * v by omega]; exact v3)
      have e1 : (((v - 1 : Nat) : Int)) = (v : Int) - 1:=by omega
      rw [e1] at b1
      rcases a2 with a2 | a2 | ⟨W,w1,w2⟩
      · omega
      · have : nvS sd = 1000000000 ∨ nvS sd = 2000000000:=by unfold nvS; cases sd <;> simp
        omega
      · have hw : v - 1 ≤ W:=by
         refine Nat.not_lt.1 fun hlt=>?_
         have:=end_le w2 (show 3 + 3 * W ≤ 3 * (v - 1) by omega)
         rw [v4] at this; cases this
        omega
     cases sd
     · refine numA_upper hr hnn hns h1 (by omega) ?_ (.inr ?_)
       · rw [hU,key _ (by unfold VOk; omega) (by omega)]
         simp only [Bool.or_eq_true,decide_eq_true_eq]
         left; omega
       · rw [hU,key _ (by unfold VOk; omega) (by omega)]
         simp only [Bool.or_eq_false_iff,decide_eq_false_iff_not]
         omega
     · refine numA_lower hr hnn hns h1 (by omega) (.inr ?_) (.inr ?_)
       · rw [hL,key _ (by unfold VOk; omega) (by omega)]
         simp only [decide_eq_true_eq]
         omega
       · rw [hL,key _ (by unfold VOk; omega) (by omega)]
         simp only [decide_eq_false_iff_not]
         omega
   · right
     have hno : ∀ M,endB g bs M s = false:=fun M=>by
      cases h : endB g bs M s
      · rfl
      · exact absurd ⟨M,h⟩ he
     refine ⟨?_,hno⟩
     obtain ⟨_,a2⟩:=hvs 1000000000 (by unfold VOk; omega)
     cases sd
     · show _ = (2000000000 : Int)
       refine numA_never hr hnn hns h1 ?_
       rw [hU]
       simp only [Bool.or_eq_false_iff,decide_eq_false_iff_not]
       rcases a2 with a2 | a2 | ⟨W,w1,w2⟩
       · omega
       · have : nvS false = 2000000000:=rfl
         omega
       · rw [hno] at w2; cases w2
     · show _ = (1000000000 : Int)
       refine numA_lower hr hnn hns h1 (by omega) (.inr ?_) (.inl rfl)
       rw [hL]
       simp only [decide_eq_true_eq]
       rcases a2 with a2 | a2 | ⟨W,w1,w2⟩
       · omega
       · have : nvS true = 1000000000:=rfl
         omega
       · rw [hno] at w2; cases w2
end Go.Proofs.Ytgfbenanljjgaaa.Du.Th.Ai

namespace Go.Proofs.Ytgfbenanljjgaaa.Du.Th
open Go Go.Oc
set_option linter.unusedSimpArgs false
set_option linter.unusedVariables false
set_option maxRecDepth 8000
theorem one_mk (n : Int) : ACalls Try.prog 77 [i64 n] (.ag [i64 n,i64 n]):=by
 refine acalls_st (rs:=[.ag [i64 n,i64 n]]) [.cell 2 66] Try.func77 rfl (by kernel_rfl) Try.ntmps77 rfl (by simp) rfl fun C vs=>?_
 refine zq ?_
 refine zb fun K hK=>?_;simp only [go_sem];refine hK _ ?_;clear hK K;refine zw (zk [0,2]) ?_;simp only [go_sem]
 refine zq ?_
 refine zb fun K hK=>?_;simp only [go_sem];refine hK _ ?_;clear hK K;refine zw (zk [2]) ?_;simp only [go_sem];refine ze ?_;simp only [go_sem]
end Go.Proofs.Ytgfbenanljjgaaa.Du.Th

namespace Go.Proofs.Ytgfbenanljjgaaa.Du.Th.Ai
open Go Go.Oc
set_option linter.unusedSimpArgs false
set_option linter.unusedVariables false
set_option maxRecDepth 8000
set_option maxHeartbeats 4000000
theorem bdsO_of {l : List Nat} (hl : ∀ n ∈ l,n < 256) {most : Nat} (hm : 1 ≤ most ∧ most ≤ 82) : BdsO (bsP l most):=by
 obtain ⟨h1,h2,h3,h4⟩:=bsP_all hl (most:=most) (by omega)
 have:=List.length_pos_iff.2 h2
 exact ⟨h1,by omega,by omega,fun b hb=>⟨(h4 b hb).1,bedOk_le (h4 b hb).1⟩⟩
theorem sure_ok (bs : List Int) (h : BdsO bs) : ACalls Try.prog 48 [ints bs] (lawV 1 (sureL bs)):=by
 have ho:=one_mk 1
 have hlen:=h.len
 refine acalls_st (rs:=[lawV 1 (sureL bs)]) [.cell 2 24] Try.func48 rfl (by kernel_rfl) Try.ntmps48 rfl (by simp) rfl fun C vs=>?_
 refine zq ?_
 refine zb fun K hK=>?_;simp only [go_sem];refine hK _ ?_;clear hK K;refine zw (zk [0,2]) ?_;simp only [go_sem]
 refine zq ?_
 refine zb fun K hK=>?_;simp only [go_sem];refine hK _ ?_;clear hK K;refine zw (sub_ownB 3 1 303 63 2 (by omega) (by omega) rfl (by simp only [go_sem,List.getElem?_cons_succ,List.getElem?_cons_zero])) ?_;refine zw (zk [0,2,3]) ?_;simp only [go_sem]
 repeat refine zq ?_
 refine zb fun K hK=>?_;simp only [go_sem];refine hK _ ?_;clear hK K;refine zw (zk [0,2,3,4]) ?_;simp only [go_sem];refine zd ?_
 refine awp_uptoV (n:=30) bs.length (fun i vs=>[(0,.r (ints bs)),(2,.pt 2 (vs 2) 0),(3,.pt 3 (vs 3) 0),(4,.r (i64 (i : Int)))])
  (fun i vs=>[(2,.box [.r (i64 0),.r .ns]),(3,.box [.r (i64 1),.os 303 (vs 303) 2 0 i]),(303,.arr 63 2 ((sureL (bs.take i)).map aimR))]) (fun _=>True) 0 (zj [] ?_ ?_) (Nat.zero_le _) trivial ?_
 · try simp only [go_sem]
   try rfl
 · try simp only [go_sem]
   try rfl
 · intro i vs hi _
   by_cases hin : i < bs.length
   · obtain ⟨b,hb⟩:=opt_of_lt hin
     have hlt : (sureL (bs.take i)).length = i:=by simp only [sureL,List.length_map,List.length_take]; omega
     have hsn : sureL (bs.take (i + 1)) = sureL (bs.take i) ++ [sureA b]:=by rw [take_of_opt hb]; simp [sureL]
     rw [hsn]
     generalize sureL (bs.take i) = Z at *
     repeat refine zq ?_
     refine zb fun K hK=>?_;simp only [go_sem,hin,List.length_map]
     intro _
     refine hK _ ?_;clear hK K;refine zw (zk [0,2,3,4,9]) ?_;simp only [go_sem]
     refine zc rfl (fun hc=>?_) (fun hc=>?_) <;> (try simp only [go_sem] at hc)
     refine zx ?_
     try simp only [go_sem]
     refine zq ?_
     refine zd ?_
     refine awp_dreg3 [(0,none),(2,some 2),(3,some 3),(4,none)] [3] follows (by decide +kernel) (by kernel_rfl) (by simp only [keysOk,List.mem_cons,List.not_mem_nil,forall_eq_or_imp,Oc.keyOf,go_sem]; simp) (by intro k hk; simp only [List.mem_cons,List.not_mem_nil,or_false] at hk; first | (subst hk; exact ⟨_,rfl⟩) | (rcases hk with rfl | rfl <;> exact ⟨_,rfl⟩) | (rcases hk with rfl | rfl | rfl <;> exact ⟨_,rfl⟩)) fun K hK=>?_
     simp only [go_sem,hb,hin,hlt,List.length_map]
     refine zh (ho) rfl (by simp only [go_sem,i64,ints,hb,hin,hlt,List.length_map]) (by simp only [go_sem,i64,ints,hb,hin,hlt,List.length_map]) (by first | exact .inl rfl | exact .inr rfl) ?_
     (try simp only [go_sem,hb,hin,hlt,List.length_map])
     refine ⟨by omega,?_⟩
     refine hK _ ?_;clear hK K;refine zw (zk [0,2,3,4]) ?_;simp only [go_sem];refine zb fun K hK=>?_;simp only [go_sem];(try simp (disch:=omega) only [zI]);refine hK _ ?_;clear hK K
     try simp only [go_sem]
     refine ⟨by omega,zj [] ?_ ?_⟩
     · try simp only [go_sem]
     · try simp only [go_sem]
       try simp [sureA,aimR,bedR]
   · have hie : i = bs.length:=by omega
     subst hie
     rw [List.take_length]
     have hsl : (sureL bs).length = bs.length:=by simp [sureL]
     repeat refine zq ?_
     refine zb fun K hK=>?_;simp only [go_sem,Nat.lt_irrefl,List.length_map]
     intro _
     refine hK _ ?_;clear hK K;refine zw (zk [2,3,9]) ?_;simp only [go_sem]
     refine zc rfl (fun hc=>?_) (fun hc=>?_) <;> (try simp only [go_sem] at hc)
     refine zf ?_;simp only [go_sem];refine zw (sub_frzB 3 1 303 (ty:=63) (sz:=2) (off:=0) (m:=bs.length) (es:=(sureL bs).map aimR) (by omega) (by omega) rfl (by simp only [go_sem,List.getElem?_cons_succ,List.getElem?_cons_zero]) (by rfl) (by simp [sureL])) ?_
     have tk1 : List.take bs.length ((sureL bs).map aimR) = (sureL bs).map aimR:=List.take_of_length_le (by simp [sureL])
     simp only [go_sem,List.drop_zero,tk1,List.set_cons_succ,List.set_cons_zero];refine zw (sub_frzP 3 3 [i64 1,aimsR (sureL bs)] (by omega) rfl rfl) ?_;refine zw (zk [2,3]) ?_;simp only [go_sem]
     refine zq ?_
     refine zb fun K hK=>?_;simp only [go_sem];refine hK _ ?_;clear hK K;refine zw (zk [2]) ?_;simp only [go_sem];refine ze ?_;simp only [go_sem]
     try exact rv_le _
theorem plaw_ok (d : Int) (l : List Am) (hl : l.length ≤ 1000) (hb : ∀ a ∈ l,a.beds.length ≤ 1000) : ACalls Try.prog 51 [lawV d l] (lawV d l):=by
 refine acalls_st (rs:=[lawV d l]) [.cell 2 24] Try.func51 rfl (by kernel_rfl) Try.ntmps51 rfl (by simp) rfl fun C vs=>?_
 refine zq ?_
 refine zb fun K hK=>?_;simp only [go_sem];refine hK _ ?_;clear hK K;refine zw (sub_frzP 1 1 [i64 d,aimsR l] (by omega) rfl rfl) ?_;refine zw (zk [1,2]) ?_;simp only [go_sem]
 refine zq ?_
 refine zb fun K hK=>?_;simp only [go_sem];refine hK _ ?_;clear hK K;refine zw (zk [1,2,3]) ?_;simp only [go_sem]
 repeat refine zq ?_
 refine zb fun K hK=>?_;simp only [go_sem];refine hK _ ?_;clear hK K;refine zw (zk [1,2,3,4]) ?_;simp only [go_sem];refine zd ?_;refine zw (sub_ownB 3 1 130 63 2 (by omega) (by omega) rfl rfl) ?_
 try simp only [go_sem]
 refine awp_uptoV (n:=36) l.length (fun i vs=>[(1,.r (.rp [i64 d,aimsR l])),(2,.pt 2 (vs 2) 0),(3,.pt 3 (vs 3) 0),(4,.r (i64 i))])
  (fun i vs=>[(2,.box [.r (i64 0),.r .ns]),(3,.box [.r (i64 d),.os 130 (vs 130) 2 0 i]),(130,.arr 63 2 ((l.take i).map aimR))]) (fun _=>True) 0 (zj [] ?_ ?_) (Nat.zero_le _) trivial ?_
 · try simp only [go_sem]
 · try simp only [go_sem]
 · intro i vs hi _
   repeat refine zq ?_
   refine zb fun K hK=>?_;simp only [go_sem]
   intro _
   refine hK _ ?_;clear hK K;refine zw (zk [1,2,3,4,12]) ?_;simp only [go_sem]
   refine zc rfl (fun hc=>?_) (fun hc=>?_) <;> (try simp only [go_sem] at hc)
   · skip
     have hci:=hc
     obtain ⟨x,hx⟩:=opt_of_lt hc
     have hlt : (l.take i).length = i:=by rw [List.length_take]; omega
     have hxb:=hb x (mem_of_opt hx)
     have tk : List.take x.beds.length (x.beds.map bedR) = x.beds.map bedR:=List.take_of_length_le (by simp)
     refine zx ?_
     try simp only [go_sem]
     refine zq ?_
     refine zd ?_
     refine awp_dregC3 [30] [(1,none),(2,some 2),(3,some 3),(4,none)] [3] follows (by decide +kernel) (by kernel_rfl) (by simp only [keysOk,List.mem_cons,List.not_mem_nil,forall_eq_or_imp,Oc.keyOf,go_sem]; simp) (by intro k hk; simp only [List.mem_cons,List.not_mem_nil,or_false] at hk; first | (subst hk; exact ⟨_,rfl⟩) | (rcases hk with rfl | rfl <;> exact ⟨_,rfl⟩) | (rcases hk with rfl | rfl | rfl <;> exact ⟨_,rfl⟩)) fun K hK=>?_
     simp only [go_sem,hx,hci,aimR,hlt]
     repeat refine ⟨by omega,?_⟩
     refine hK _ ?_;clear hK K;refine zw (zk [1,2,3,4]) ?_;simp only [go_sem];refine zb fun K hK=>?_;simp only [go_sem];(try simp (disch:=omega) only [zI]);refine hK _ ?_;clear hK K
     try simp only [go_sem]
     refine ⟨hci,zj [] ?_ ?_⟩
     · try simp only [go_sem]
     · try simp only [go_sem]
       rw [take_of_opt hx]
       simp [aimR]
   · skip
     refine zf ?_;simp only [go_sem]
     refine zq ?_
     refine zb fun K hK=>?_;simp only [go_sem];refine hK _ ?_;clear hK K;refine zw (zk [2]) ?_;simp only [go_sem];refine ze ?_;simp only [go_sem]
     have : i = l.length:=by omega
     subst this
     simp [List.take_of_length_le]
theorem pcopy_ok (l : List Int) (h : 1 ≤ l.length) (hl : l.length ≤ 1000) : ACalls Try.prog 50 [ints l] (ints l):=by
 refine acalls_st (rs:=[ints l]) [.tmp 2] Try.func50 rfl (by kernel_rfl) Try.ntmps50 rfl (by simp) rfl fun C vs=>?_
 refine zq ?_
 refine zb fun K hK=>?_;simp only [go_sem];refine hK _ ?_;clear hK K;refine zw (zk [0]) ?_;simp only [go_sem]
 refine zq ?_
 refine zb fun K hK=>?_;simp only [go_sem,List.length_map]
 refine ⟨by omega,?_⟩
 refine hK _ ?_;clear hK K;refine zw (sub_frz 2 5 (ty:=60) (sz:=1) (off:=0) (m:=l.length) (es:=arrV l) (by omega) rfl (by rfl) (by simp)) ?_
 have htk : (arrV l).take l.length = arrV l:=List.take_of_length_le (by simp)
 rw [List.drop_zero,htk]
 refine zw (zk [2]) ?_;simp only [go_sem];refine ze ?_;simp only [go_sem]
theorem best_spec {l : List Int} (h : ∀ x ∈ l,-1 ≤ x) : ∀ (n : Nat) (T : List (Int × Int)),T.length = n → (bestF l T = -1 ∧ ∀ x ∈ T,l.getD x.2.toNat 0 = -1) ∨
 (0 ≤ bestF l T ∧ (∃ x ∈ T,l.getD x.2.toNat 0 ≠ -1 ∧ bestF l T = l.getD x.2.toNat 0 + 1) ∧ ∀ y ∈ T,l.getD y.2.toNat 0 ≠ -1 → bestF l T ≤ l.getD y.2.toNat 0 + 1)
 | 0, T, hn => by
   rw [List.length_eq_zero_iff.1 hn]
   exact .inl ⟨rfl,by simp⟩
 | n + 1, T, hn => by
   have hne : T ≠ []:=fun e=>by subst e; simp at hn
   obtain ⟨U,x,rfl⟩ : ∃ U x,T = U ++ [x]:=⟨T.dropLast,T.getLast hne,(List.dropLast_concat_getLast hne).symm⟩
   have hU : U.length = n:=by simp at hn; omega
   have ih:=best_spec h n U hU
   rw [best_snoc]
   have hx : -1 ≤ l.getD x.2.toNat 0:=by
    rw [List.getD_eq_getElem?_getD]
    cases e : l[x.2.toNat]? with
    | none=>simp
    | some y=>exact h y (mem_of_opt e)
   unfold stepB
   rcases ih with ⟨i1,i2⟩ | ⟨i1,⟨z,iz,i2,i3⟩,i4⟩
   · by_cases c : l.getD x.2.toNat 0 = -1
     · rw [if_neg (fun hh=>hh.1 c)]
       exact .inl ⟨i1,fun y hy=>by
        rw [List.mem_append,List.mem_singleton] at hy
        rcases hy with hy | rfl
        · exact i2 y hy
        · exact c⟩
     · rw [if_pos ⟨c,.inl i1⟩]
       refine .inr ⟨by omega,⟨x,by simp,c,rfl⟩,fun y hy hc=>?_⟩
       rw [List.mem_append,List.mem_singleton] at hy
       rcases hy with hy | rfl
       · exact absurd (i2 y hy) hc
       · exact Int.le_refl _
   · right
     by_cases c : l.getD x.2.toNat 0 ≠ -1 ∧ (bestF l U = -1 ∨ l.getD x.2.toNat 0 + 1 < bestF l U)
     · rw [if_pos c]
       refine ⟨by omega,⟨x,by simp,c.1,rfl⟩,fun y hy hc=>?_⟩
       rw [List.mem_append,List.mem_singleton] at hy
       rcases hy with hy | rfl
       · have:=i4 y hy hc; omega
       · exact Int.le_refl _
     · rw [if_neg c]
       refine ⟨i1,⟨z,by simp [iz],i2,i3⟩,fun y hy hc=>?_⟩
       rw [List.mem_append,List.mem_singleton] at hy
       rcases hy with hy | rfl
       · exact i4 y hy hc
       · omega
theorem few_get {g : Int} {bs : List Int} {s : Nat} : ∀ {n : Nat},s ≤ n → (fewO g bs n).getD s 0 = (fewO g bs s).getD s 0
 | 0,h=>by rw [show s = 0 by omega]
 | n + 1, h => by
   by_cases c : s = n + 1
   · rw [c]
   · have hl:=few_len g bs n
     rw [show fewO g bs (n + 1) = fewO g bs n ++ [bestF (fewO g bs n) (throwsO g ((n + 1 : Nat) : Int) bs)] from rfl,List.getD_eq_getElem?_getD,List.getElem?_append_left (by omega),← List.getD_eq_getElem?_getD]
     exact few_get (by omega)
theorem few_step {g : Int} {bs : List Int} (n : Nat) : (fewO g bs (n + 1)).getD (n + 1) 0 = bestF (fewO g bs n) (throwsO g ((n + 1 : Nat) : Int) bs):=by
 have hl:=few_len g bs n
 rw [show fewO g bs (n + 1) = fewO g bs n ++ [bestF (fewO g bs n) (throwsO g ((n + 1 : Nat) : Int) bs)] from rfl,List.getD_eq_getElem?_getD,List.getElem?_append_right (by omega),hl,Nat.sub_self]; rfl
theorem few_spec {g : Int} {bs : List Int} (hB : ∀ b ∈ bs,bedOk b = true) : ∀ (N s : Nat),s ≤ N → ∀ d,endB g bs d s = true ↔ (0 ≤ (fewO g bs s).getD s 0 ∧ (fewO g bs s).getD s 0 ≤ d)
 | N, 0, _, d => by
   have h1 : endB g bs d 0 = true:=by
    cases d with
    | zero=>rfl
    | succ d=>unfold endB; rfl
   have h2 : (fewO g bs 0).getD 0 0 = 0:=rfl
   rw [h2]
   constructor
   · intro _; omega
   · intro _; exact h1
 | 0,s + 1,h,d=>by omega
 | N + 1, s + 1, h, d => by
   rw [few_step]
   have hle : ∀ x ∈ fewO g bs s,-1 ≤ x:=fun x hx=>(few_le g bs s x hx).1
   have hT:=fun x (hx : x ∈ throwsO g ((s + 1 : Nat) : Int) bs)=>throws_mem hB hx
   have hsub : ∀ x ∈ throwsO g ((s + 1 : Nat) : Int) bs,∀ d,endB g bs d x.2 = true ↔ (0 ≤ (fewO g bs s).getD x.2.toNat 0 ∧ (fewO g bs s).getD x.2.toNat 0 ≤ d):=fun x hx d=>by
    obtain ⟨_,q1,q2,_⟩:=hT x hx
    have ih:=few_spec (g:=g) hB N x.2.toNat (by omega) d
    rw [few_get (s:=x.2.toNat) (n:=s) (by omega),← ih,show ((x.2.toNat : Nat) : Int) = x.2 by omega]
   have hz : (((s + 1 : Nat) : Int) == 0) = false:=by rw [beq_eq_false_iff_ne]; omega
   rcases best_spec hle _ (throwsO g ((s + 1 : Nat) : Int) bs) rfl with ⟨b1,b2⟩ | ⟨b1,⟨z,hzm,b2,b3⟩,b4⟩
   · rw [b1]
     constructor
     · intro he
       exfalso
       cases d with
       | zero=>unfold endB at he; rw [hz] at he; cases he
       | succ d =>
         unfold endB at he
         rw [hz,Bool.false_or,List.any_eq_true] at he
         obtain ⟨x,hx,hd⟩:=he
         have:=(hsub x hx d).1 hd
         rw [b2 x hx] at this
         omega
     · intro hh; omega
   · constructor
     · intro he
       cases d with
       | zero=>unfold endB at he; rw [hz] at he; cases he
       | succ d =>
         unfold endB at he
         rw [hz,Bool.false_or,List.any_eq_true] at he
         obtain ⟨x,hx,hd⟩:=he
         have q:=(hsub x hx d).1 hd
         have:=b4 x hx (by omega)
         omega
     · intro hh
       cases d with
       | zero =>
         have hzl : -1 ≤ (fewO g bs s).getD z.2.toNat 0:=by
          rw [List.getD_eq_getElem?_getD]
          cases e : (fewO g bs s)[z.2.toNat]? with
          | none=>simp
          | some y=>exact hle y (mem_of_opt e)
         omega
       | succ d =>
         unfold endB
         rw [hz,Bool.false_or,List.any_eq_true]
         have hzl : -1 ≤ (fewO g bs s).getD z.2.toNat 0:=by
          rw [List.getD_eq_getElem?_getD]
          cases e : (fewO g bs s)[z.2.toNat]? with
          | none=>simp
          | some y=>exact hle y (mem_of_opt e)
         exact ⟨z,hzm,(hsub z hzm d).2 (by omega)⟩
set_option maxHeartbeats 8000000
theorem any_step {α : Type} {p : α → Bool} {l : List α} {k : Nat} {y : α} (hy : l[k]? = some y) : (l.take (k + 1)).any p = ((l.take k).any p || p y):=by rw [take_of_opt hy]; simp
theorem any_of {α : Type} {p : α → Bool} {l : List α} {k : Nat} {y : α} (hy : l[k]? = some y) (h : p y = true) : l.any p = true:=List.any_eq_true.2 ⟨y,mem_of_opt hy,h⟩
def bigB (a : Am) : Bool:=decide ((6 < a.beds.length ∧ a.beds.length ≤ 10) ∨ 12 < a.beds.length)
def greatR (r : Rk) : Bool:=decide ((24 < r.start ∧ r.start ≤ 60) ∨ (4 < r.aims.length ∧ r.aims.length ≤ 20) ∨ 25 < r.aims.length) || r.aims.any bigB
end Go.Proofs.Ytgfbenanljjgaaa.Du.Th.Ai

namespace Go.Oc
open Go Go.RowKit
set_option linter.unusedVariables false
set_option linter.unusedSimpArgs false
def NamedU (n : Nat) (F : Addr → (Nat → Nat) → List (Nat × AV)) (R : Addr → (Nat → Nat) → List (Nat × RowC)) (s : AS) : Prop:=∀ C a w,SRel C s a w → ∃ x vs,SRel C (st n (F x vs) vs (R x vs)) a w
theorem named_fit {n : Nat} {F : Addr → (Nat → Nat) → List (Nat × AV)} {R : Addr → (Nat → Nat) → List (Nat × RowC)} {x : Addr} {s : AS} (h : FitV n (F x) (R x) s) : NamedU n F R s:=fun C a w hs=>by
 obtain ⟨vs,hsub⟩:=h
 exact ⟨x,vs,hsub C a w hs⟩
theorem named_name {n : Nat} {F : Addr → (Nat → Nat) → List (Nat × AV)} {R : Addr → (Nat → Nat) → List (Nat × RowC)} {l : List (Nat × AV)} {vs : Nat → Nat} {cs : List (Nat × RowC)} (t : Nat) {k v : Nat} (ht : look l t = .pt k v 0) (hv : v = vs k) (h : ∀ u,FitV n (F u) (R u) (st n ((t,.pu k v u) :: l) vs cs)) : NamedU n F R (st n l vs cs):=fun C a w ⟨p,hp⟩=>by
 have hx:=hp.tm t
 have e2 : (st n l vs cs).tm t = .pt k v 0:=ht
 rw [e2] at hx
 simp only [AV.rel] at hx
 obtain ⟨b,hb,hbv⟩:=hx.2 (by rw [hv]; rfl)
 obtain ⟨vs',hsub⟩:=h ⟨b,0,none⟩
 refine ⟨⟨b,0,none⟩,vs',hsub C a w ⟨p,{ hp with tm:=fun j=>?_ }⟩⟩
 show AV.rel w _ _ (look ((t,.pu k v ⟨b,0,none⟩) :: l) j) _
 rw [look_cons]
 split
 · rename_i e
   subst e
   simp only [AV.rel];exact ⟨hbv,hx⟩
 · exact hp.tm j
def stepAllU (P : Program) (ops : Array Oper) (n : Nat) (F : Addr → (Nat → Bool) → (Nat → Nat) → List (Nat × AV)) (R : Addr → (Nat → Bool) → (Nat → Nat) → List (Nat × RowC)) : Nat → List Oper → Prop
 | _,[]=>True
 | k,o :: rest=>(∀ x b vs,(∀ j e,j < ops.size → (deps ops j).contains e = true → b j = true → b e = true) → b k = false → (∀ e ∈ deps ops k,b e = true) →
  xop P false o (NamedU n (fun x=>F x (upd b k true)) (fun x=>R x (upd b k true))) (st n (F x b vs) vs (R x b vs))) ∧ stepAllU P ops n F R (k + 1) rest
theorem stepAllU_get {P : Program} {ops : Array Oper} {n : Nat} {F : Addr → (Nat → Bool) → (Nat → Nat) → List (Nat × AV)} {R : Addr → (Nat → Bool) → (Nat → Nat) → List (Nat × RowC)} : ∀ {l : List Oper} {k i : Nat} {o : Oper},stepAllU P ops n F R k l → l[i]? = some o →
 ∀ x b vs, (∀ j e, j < ops.size → (deps ops j).contains e = true → b j = true → b e = true) → b (k + i) = false → (∀ e ∈ deps ops (k + i), b e = true) →
   xop P false o (NamedU n (fun x=>F x (upd b (k + i) true)) (fun x=>R x (upd b (k + i) true))) (st n (F x b vs) vs (R x b vs))
 | [],_,_,_,_,h=>by simp at h
 | x :: l, k, 0, o, hs, h => by
   simp at h
   subst h
   exact hs.1
 | x :: l, k, i + 1, o, hs, h => by
   have:=stepAllU_get (k:=k + 1) (i:=i) hs.2 (by simpa using h)
   rwa [show k + 1 + i = k + (i + 1) by omega] at this
section
variable {P : Program} {C : Ctx} {s : AS} {a : Act} {w : World} {ops : Array Oper}
theorem inv_anyU {Q : AS → Prop} {Q' : Exit → Act → World → Prop} (hQ : ∀ s a w,Q s → SRel C s a w → Q' .normal a w) {n : Nat} {F : Addr → (Nat → Bool) → (Nat → Nat) → List (Nat × AV)} {R : Addr → (Nat → Bool) → (Nat → Nat) → List (Nat × RowC)}
 (hd : dstOk ops n = true) (hg : ops.all (fun o=>o.guard.isNone) = true) (hu : upOk ops = true) (hstep : stepAllU P ops n F R 0 ops.toList)
 (hend : ∀ x b vs,(∀ j,b j = true) → Q (st n (F x b vs) vs (R x b vs))) :
 ∀ (fuel : Nat) (x : Addr) (vs : Nat → Nat) (listed : Array Bool) (a : Act) (w : World), listed.size = ops.size → down ops listed → unl listed ops.size ≤ fuel → SRel C (st n (F x (fun j => listed.getD j true) vs) vs (R x (fun j => listed.getD j true) vs)) a w →
   wpAnyIn (fnc C.rd) 0 P .any ops Q' fuel listed a w:=by
 have all : ∀ {listed : Array Bool},listed.size = ops.size → (∀ j,j < ops.size → listed.getD j true = true) → ∀ j,(fun j=>listed.getD j true) j = true:=fun {listed} hsz h j=>by
  by_cases hj : j < ops.size
  · exact h j hj
  · show listed.getD j true = true
    have : ¬ j < listed.size:=by omega
    simp [this]
 intro fuel
 induction fuel with
 | zero =>
   intro x vs listed a w hsz hdn hf hs
   have h0:=unl_zero (listed:=listed) ops.size (by omega)
   refine ⟨List.eq_nil_iff_forall_not_mem.2 fun j hj=>?_,hQ _ _ _ (hend _ _ _ (all hsz h0)) hs⟩
   obtain ⟨h1,o,ho,_⟩:=mem_ready.1 hj
   have:=h0 j (Array.getElem?_eq_some_iff.1 ho).1
   rw [this] at h1
   cases h1
 | succ fuel ih =>
   intro x vs listed a w hsz hdn hf hs
   refine ⟨fun h0=>hQ _ _ _ (hend _ _ _ (all hsz (ready_nil hu h0 hsz))) hs,fun i hi=>?_⟩
   obtain ⟨hi1,o,ho,hall⟩:=mem_ready.1 hi
   unfold wpOpIn
   rw [ho]
   simp only
   have hil : i < ops.size:=(Array.getElem?_eq_some_iff.1 ho).1
   have hgo : o.guard = none:=by
    have:=Array.all_eq_true_iff_forall_mem.1 hg o (Array.mem_of_getElem? ho)
    simpa using this
   obtain ⟨p,hp⟩:=hs
   rw [if_pos (wantA_sound hp (by simp [wantA,hgo]))]
   have hx:=stepAllU_get (k:=0) (i:=i) hstep (by rw [Array.getElem?_toList]; exact ho) x (fun j=>listed.getD j true) vs (fun j e hj he hb=>?_) (by rw [Nat.zero_add]; exact hi1) (fun e he=>?_)
   · rw [Nat.zero_add] at hx
     refine xop_sound hp hx (dstOk_get hd ho) (fun a' w' p' s' hs' hn hK=>?_) (dstOk_nd hd ho)
     obtain ⟨x',vs',hsub⟩:=hK C a' w' ⟨p',hs'⟩
     have e : upd (fun j=>listed.getD j true) i true = fun j=>(listed.setIfInBounds i true).getD j true:=by
      funext j
      rw [getD_setT]
      rfl
     rw [e] at hsub
     exact ih x' vs' _ a' w' (by simpa using hsz) (down_set hdn hi) (by have:=unl_set hi1 ops.size hil; omega) hsub
   · have hjs : j < listed.size:=by omega
     have hb' : listed.getD j true = true:=hb
     have h2:=hdn j (by simpa [hjs] using hb') e (by simpa using he)
     show listed.getD e true = true
     by_cases hes : e < listed.size
     · simpa [hes] using h2
     · simp [hes]
   · have h2:=ready_deps hi e (by simpa using he)
     show listed.getD e true = true
     by_cases hes : e < listed.size
     · simpa [hes] using h2
     · simp [hes]
end
theorem awp_invU {P : Program} {C : Ctx} {id : Nat} {l : List Oper} {n : Nat} {Q : Exit → AS → Prop} {s : AS} (F : Addr → (Nat → Bool) → (Nat → Nat) → List (Nat × AV)) (R : Addr → (Nat → Bool) → (Nat → Nat) → List (Nat × RowC)) (x0 : Addr) (hm : P.follows .mixedOrders = true)
 (hd : dstOk l.toArray n = true) (hg : l.toArray.all (fun o=>o.guard.isNone) = true) (hu : upOk l.toArray = true) (h0 : FitV n (F x0 fun j=>decide (l.length ≤ j)) (R x0 fun j=>decide (l.length ≤ j)) s)
 (hstep : stepAllU P l.toArray n F R 0 l) (hend : ∀ x b vs,(∀ j,b j = true) → Q .normal (st n (F x b vs) vs (R x b vs))) : awp P C (.region id l.toArray true) Q s:=fun a w hs=>by
 obtain ⟨vs,hsub⟩:=h0
 obtain ⟨p,hp⟩:=hsub C a w hs
 have hs' : SR C p _ a { w with drawn:=w.drawn + 1 }:=hp.below (w':=w.drew) ((Below.refl _ _).drew) (fun _ h=>h) (fun _ h=>.inl h) hp.rb
 refine wpIn_region_any hm ?_
 have e : (fun j=>(Array.replicate l.toArray.size false).getD j true) = fun j=>decide (l.length ≤ j):=by
  funext j
  by_cases h : j < l.length
  · have : ¬ l.length ≤ j:=by omega
    simp [h,this]
  · have : l.length ≤ j:=by omega
    simp [h,this]
 refine inv_anyU (Q:=fun s=>Q .normal s) (n:=n) (F:=F) (R:=R) (fun s a w hq hs=>⟨s,hs,hq⟩) hd hg hu (by simpa using hstep) hend _ x0 vs _ _ _ (by simp) (fun j hj=>?_) ?_ ?_
 · exfalso
   simp only [Array.getD_eq_getD_getElem?,Array.getElem?_replicate] at hj
   split at hj <;> simp at hj
 · have : ∀ m,unl (Array.replicate l.toArray.size false) m ≤ m:=by
    intro m
    induction m with
    | zero=>exact Nat.le_refl _
    | succ m ih=>simp only [unl]; split <;> omega
   exact this _
 · rw [e]
   exact ⟨p,hs'⟩
end Go.Oc

namespace Go.Proofs.Ytgfbenanljjgaaa.Du.Th.Ai.At
open Go Go.Oc
set_option linter.unusedSimpArgs false
set_option linter.unusedVariables false
set_option maxRecDepth 8000
set_option maxHeartbeats 8000000
def atV (r : Rk) (s : Bool) (T : List Int) (st left k : Nat) : List Int:=r.aims.map (meanA r s (T.getD st 0) (left : Int) (valA r s T (T.getD st 0) k))
def vY (b : Nat → Bool) (j : Nat) (v : AV) : AV:=if b j then v else .r .un
def mkF (r : Rk) (s : Bool) (T : List Int) (st left k : Nat) (u : Addr) (b : Nat → Bool) (vs : Nat → Nat) : List (Nat × AV) :=
 [(2,.r (.bo s)),(3,.r (.rp [i64 r.d,aimsR r.aims,i64 r.start,i64 r.out])),(4,.r (.rp [i64 (st : Int),i64 (left : Int),i64 ((k : Int) + 1)])),(6,.pt 6 (vs 6) 0),
  (9,vY b 0 (.r (rkR r))),
  (10,vY b 1 (.r (.bo s))),
  (11,vY b 2 (.r (.rp (tabC r s T)))),
  (12,vY b 3 (.r (.rp [i64 (st : Int),i64 (left : Int),i64 ((k : Int) + 1)]))),
  (13,vY b 4 (.r (i64 (st : Int)))),
  (14,vY b 5 (.pu 30 (vs 30) u)),
  (15,vY b 6 (.r (.rp [i64 (left : Int),i64 ((k : Int) + 1)]))),
  (16,vY b 7 (.r (i64 (left : Int)))),
  (17,vY b 8 (.r (.rp [i64 ((k : Int) + 1)]))),
  (18,vY b 9 (.r (i64 ((k : Int) + 1)))),
  (19,vY b 10 (.r (.fn 130 (capM u left k))))]
def mkR (vis : List AV) (u : Addr) (b : Nat → Bool) (vs : Nat → Nat) : List (Nat × RowC) :=
 bif b 5 then [(6,.box [.r .ns]),(30,.box vis)] else [(6,.box [.r .ns])]
theorem at_ok {r : Rk} (hr : ROk r) (s : Bool) (st left k : Nat) (hk : k ≤ 2) (hlo : lowG r.out ≤ left) (hle : left ≤ st) (hst : (st : Int) ≤ r.start) :
 ACalls Try.prog 61 [rkR r,.ag [i64 (st : Int),i64 (left : Int),i64 ((k : Int) + 1)],.bo s] (ints (atV r s (tabT r s) st left k)):=by
 have hrs:=hr.start
 have hlg:=lowG_le r.out
 have htt:=tab_eq hr s (cntA r) (Nat.le_refl _)
 have hfi:=filled_ok r s hr
 obtain ⟨T,hT⟩ : ∃ T,T = tabT r s:=⟨_,rfl⟩
 have hTl : T.length = (r.start + 1).toNat:=by rw [hT]; exact htt.2.1
 have hTv : ∀ x ∈ T,VOk x:=by rw [hT]; exact htt.2.2
 rw [← hT] at hfi ⊢
 have hvs : VsOk r s T st:=⟨hr,hTl,hTv,by omega,hst⟩
 have hK0:=okK_zero r s T (ownV T st)
 have hfr:=from_ok r s T st
 generalize List.replicate 244 (0 : Int) = K0 at *
 have hMf : MfOk r s T (ownV T st) left (valM r s T (ownV T st) k) (valA r s T (ownV T st) k):=fun x K' q1 q2 q3=>valM_ok hr hTv hvs.own k (by omega) x K' q1 (by omega) q3
 have hA1:=(aimsM_ok hMf r.aims K0 hr.aims hK0).1
 have hM : atV r s T st left k = (aimsM r s (ownV T st) left (valM r s T (ownV T st) k) r.aims K0).1:=by rw [hA1]; rfl
 have hJ:=fun u=>means1_ok hvs hk (value_ok hvs k (by omega)) u left K0 hlo hle hK0
 rw [hM]
 generalize aimsM r s (ownV T st) left (valM r s T (ownV T st) k) r.aims K0 = A at *
 have hAl : A.1.length ≤ 20:=by rw [hA1,List.length_map]; exact hr.len
 have follows : Try.prog.follows .mixedOrders = true:=by kernel_rfl
 refine acalls_stR (rs:=[ints A.1]) [.cell 6 33] Try.func61 rfl (by kernel_rfl) Try.ntmps61 rfl (by simp) rfl fun C hC vs=>?_
 refine zq ?_
 refine zb fun K hK=>?_;simp only [go_sem];refine hK _ ?_;clear hK K;refine zw (sub_frzP 3 3 [i64 r.d,aimsR r.aims,i64 r.start,i64 r.out] (by omega) rfl rfl) ?_;refine zw (sub_frzP 4 4 [i64 (st : Int),i64 (left : Int),i64 ((k : Int) + 1)] (by omega) rfl rfl) ?_;refine zw (zk [2,3,4,6]) ?_;simp only [go_sem]
 repeat refine zq ?_
 refine awp_invU (n:=27) (mkF r s T st left k) (mkR (visA r s T st K0)) ⟨0,0,none⟩ follows (by kernel_rfl) (by kernel_rfl) (by decide +kernel) (zj [] ?_ ?_) ?_ ?_
 · simp only [go_sem,mkF,vY,if_true,if_false,Bool.false_eq_true,cond_false]
 · simp only [go_sem,mkR,cond_false,List.cons_append,List.nil_append]
 · refine ⟨fun u b vs hdn hbk hde=>?_,fun u b vs hdn hbk hde=>?_,fun u b vs hdn hbk hde=>?_,fun u b vs hdn hbk hde=>?_,fun u b vs hdn hbk hde=>?_,fun u b vs hdn hbk hde=>?_,fun u b vs hdn hbk hde=>?_,fun u b vs hdn hbk hde=>?_,fun u b vs hdn hbk hde=>?_,fun u b vs hdn hbk hde=>?_,fun u b vs hdn hbk hde=>?_,trivial⟩
   · skip
     have G:=dnT hdn hbk [2,5,10] (by decide +kernel)
     simp only [allB,and_true] at G
     (simp only [go_sem,mkF,mkR,upd,vY,cond_true,cond_false,if_true,Bool.false_eq_true,if_false,hbk,G])
     all_goals (refine named_fit (x:=u) (zj [] ?_ ?_) <;> (simp only [go_sem,mkF,mkR,upd,vY,cond_true,cond_false,if_true,Bool.false_eq_true,if_false,hbk,G]))
   · skip
     have G:=dnT hdn hbk [2,5,10] (by decide +kernel)
     simp only [allB,and_true] at G
     (simp only [go_sem,mkF,mkR,upd,vY,cond_true,cond_false,if_true,Bool.false_eq_true,if_false,hbk,G])
     all_goals (refine named_fit (x:=u) (zj [] ?_ ?_) <;> (simp only [go_sem,mkF,mkR,upd,vY,cond_true,cond_false,if_true,Bool.false_eq_true,if_false,hbk,G]))
   · skip
     have H:=upT hdn hde [0,1] (by decide +kernel)
     have G:=dnT hdn hbk [5,10] (by decide +kernel)
     simp only [allB,and_true] at H G
     (simp only [go_sem,mkF,mkR,upd,vY,cond_true,cond_false,if_true,Bool.false_eq_true,if_false,hbk,H,G])
     all_goals (refine zh hfi rfl (by simp only [go_sem,i64,ints]) (by simp only [go_sem,i64,ints]) (by first | exact .inl rfl | exact .inr rfl) ?_)
     all_goals (simp only [go_sem,mkF,mkR,vY,cond_true,cond_false,if_true,Bool.false_eq_true,if_false,hbk,H,G])
     all_goals (refine named_fit (x:=u) (zj [] ?_ ?_) <;> (simp only [go_sem,mkF,mkR,upd,vY,cond_true,cond_false,if_true,Bool.false_eq_true,if_false,hbk,H,G]))
   · skip
     have G:=dnT hdn hbk [4,5,10] (by decide +kernel)
     simp only [allB,and_true] at G
     (simp only [go_sem,mkF,mkR,upd,vY,cond_true,cond_false,if_true,Bool.false_eq_true,if_false,hbk,G])
     all_goals (refine named_fit (x:=u) (zj [] ?_ ?_) <;> (simp only [go_sem,mkF,mkR,upd,vY,cond_true,cond_false,if_true,Bool.false_eq_true,if_false,hbk,G]))
   · skip
     have H:=upT hdn hde [3] (by decide +kernel)
     have G:=dnT hdn hbk [5,10] (by decide +kernel)
     simp only [allB,and_true] at H G
     (simp only [go_sem,mkF,mkR,upd,vY,cond_true,cond_false,if_true,Bool.false_eq_true,if_false,hbk,H,G])
     all_goals (refine named_fit (x:=u) (zj [] ?_ ?_) <;> (simp only [go_sem,mkF,mkR,upd,vY,cond_true,cond_false,if_true,Bool.false_eq_true,if_false,hbk,H,G]))
   · skip
     have H:=upT hdn hde [2,2,4,0,1,3] (by decide +kernel)
     have G:=dnT hdn hbk [10] (by decide +kernel)
     simp only [allB,and_true] at H G
     (simp only [go_sem,mkF,mkR,upd,vY,cond_true,cond_false,if_true,Bool.false_eq_true,if_false,hbk,H,G])
     all_goals (refine xcall_new hfr [(8,30)] rfl (by rfl) (by rfl) (by rfl) (by rfl) (by rfl) ?_)
     all_goals (simp only [go_sem,idK,backA,backC,backL,back_tA,pinOf,lendKey])
     all_goals (refine named_name 14 (by rfl) (by rfl) fun u=>?_)
     all_goals (refine zj [] ?_ ?_ <;> (simp only [go_sem,mkF,mkR,upd,vY,cond_true,cond_false,if_true,Bool.false_eq_true,if_false,hbk,H,G]))
   · skip
     have G:=dnT hdn hbk [7,10] (by decide +kernel)
     simp only [allB,and_true] at G
     cases g5 : b 5
     all_goals (simp only [go_sem,mkF,mkR,upd,vY,cond_true,cond_false,if_true,Bool.false_eq_true,if_false,hbk,G,g5])
     all_goals (refine named_fit (x:=u) (zj [] ?_ ?_) <;> (simp only [go_sem,mkF,mkR,upd,vY,cond_true,cond_false,if_true,Bool.false_eq_true,if_false,hbk,G,g5]))
   · skip
     have H:=upT hdn hde [6] (by decide +kernel)
     have G:=dnT hdn hbk [10] (by decide +kernel)
     simp only [allB,and_true] at H G
     cases g5 : b 5
     all_goals (simp only [go_sem,mkF,mkR,upd,vY,cond_true,cond_false,if_true,Bool.false_eq_true,if_false,hbk,H,G,g5])
     all_goals (refine named_fit (x:=u) (zj [] ?_ ?_) <;> (simp only [go_sem,mkF,mkR,upd,vY,cond_true,cond_false,if_true,Bool.false_eq_true,if_false,hbk,H,G,g5]))
   · skip
     have G:=dnT hdn hbk [9,10] (by decide +kernel)
     simp only [allB,and_true] at G
     cases g5 : b 5
     all_goals (simp only [go_sem,mkF,mkR,upd,vY,cond_true,cond_false,if_true,Bool.false_eq_true,if_false,hbk,G,g5])
     all_goals (refine named_fit (x:=u) (zj [] ?_ ?_) <;> (simp only [go_sem,mkF,mkR,upd,vY,cond_true,cond_false,if_true,Bool.false_eq_true,if_false,hbk,G,g5]))
   · skip
     have H:=upT hdn hde [8] (by decide +kernel)
     have G:=dnT hdn hbk [10] (by decide +kernel)
     simp only [allB,and_true] at H G
     cases g5 : b 5
     all_goals (simp only [go_sem,mkF,mkR,upd,vY,cond_true,cond_false,if_true,Bool.false_eq_true,if_false,hbk,H,G,g5])
     all_goals (refine named_fit (x:=u) (zj [] ?_ ?_) <;> (simp only [go_sem,mkF,mkR,upd,vY,cond_true,cond_false,if_true,Bool.false_eq_true,if_false,hbk,H,G,g5]))
   · skip
     have H:=upT hdn hde [5,5,7,9,2,4,6,8,0,1,3] (by decide +kernel)
     simp only [allB,and_true] at H
     (simp only [go_sem,mkF,mkR,upd,vY,cond_true,cond_false,if_true,Bool.false_eq_true,if_false,hbk,H])
     all_goals (refine zh (means_ok u left k) rfl (by simp only [go_sem,i64,ints]) (by simp only [go_sem,i64,ints]) (by first | exact .inl rfl | exact .inr rfl) ?_)
     all_goals (simp only [go_sem,mkF,mkR,vY,cond_true,cond_false,if_true,Bool.false_eq_true,if_false,hbk,H])
     all_goals (refine named_fit (x:=u) (zj [] ?_ ?_) <;> (simp only [go_sem,mkF,mkR,upd,vY,cond_true,cond_false,if_true,Bool.false_eq_true,if_false,hbk,H]))
 intro u b vs hb
 simp only [go_sem,mkF,mkR,vY,hb,if_true,cond_true,List.cons_append,List.nil_append];refine zw (sub_ownB 6 0 25 3 1 (by omega) (by omega) rfl (by rfl)) ?_
 try simp only [go_sem]
 refine zw (zk [14,6,19]) ?_;simp only [go_sem];refine zd ?_
 refine Eq.mp (congrArg (fun z=>awp _ _ _ _ (Go.Oc.st 27 _ _ [_,_,(30,RowC.box z)])) (visR_A r s T st K0)) ?_
 have hlen : (enumM A.1).length = A.1.length:=by simp [enumM]
 refine awp_rangeG (n:=27) (t:=19) hC 30 14 u (by omega) (by omega) (visR r s T st K0) (visR r s T st A.2) (enumM A.1) (hJ u) [6,19] (by decide) (by decide) (by decide)
  (fun vs=>[(6,.pt 6 (vs 6) 0),(19,.r (.fn 130 (capM u left k)))])
  (fun i vs=>[(6,.box [.os 25 (vs 25) 1 0 i]),(25,.arr 3 1 (arrV (A.1.take i)))]) (fun i=>i ≤ A.1.length) (upd vs 25 (vs 25 + 1)) (Nat.zero_le _) ?_ ?_ ?_ (fun _=>rfl) ?_ (fun _ _=>rfl) ?_ ?_ ?_ ?_
 · rfl
 · rfl
 · rfl
 · rfl
 · decide
 · intro e he
   obtain ⟨i,hi⟩:=List.getElem?_of_mem he
   simp only [enumM,List.getElem?_mapIdx,Option.map_eq_some_iff] at hi
   obtain ⟨a,_,rfl⟩:=hi
   rfl
 · intro i e vs us C' he hi
   obtain ⟨x,hn⟩ : ∃ x,A.1[i]? = some x:=by
    simp only [enumM,List.getElem?_mapIdx,Option.map_eq_some_iff] at he
    obtain ⟨a,ha,_⟩:=he
    exact ⟨a,ha⟩
   have he' : e = [i64 (i : Int),i64 x]:=by
    simp only [enumM,List.getElem?_mapIdx,hn,Option.map_some,Option.some.injEq] at he
    exact he.symm
   subst he'
   have hil : i < A.1.length:=(List.getElem?_eq_some_iff.1 hn).1
   have hsn : A.1.take (i + 1) = A.1.take i ++ [x]:=take_of_opt hn
   have hil2 : (A.1.take i).length = i:=by rw [List.length_take]; omega
   rw [hsn]
   generalize A.1.take i = B at *
   refine zb fun K hK=>?_;simp only [go_sem];refine hK _ ?_;clear hK K
   refine ⟨rfl,fun C''=>?_⟩
   refine zw (zk [6,8,19]) ?_;simp only [go_sem];refine zd ?_;refine zb fun K hK=>?_;simp only [go_sem,hil2,List.length_map]
   refine ⟨by omega,?_⟩
   refine hK _ ?_;clear hK K
   try simp only [go_sem]
   refine ⟨by omega,?_⟩
   refine zj (F:=fun _=>[]) [] ?_ ?_
   · try simp only [go_sem]
   · try simp only [go_sem]
     simp
 · intro vs us hi
   rw [hlen,List.take_length]
   have htk : (arrV A.1).take A.1.length = arrV A.1:=List.take_of_length_le (by simp)
   try simp only [go_sem]
   refine zw (sub_wake rfl) ?_;refine zw (zk [6]) ?_;simp only [go_sem]
   refine zq ?_
   refine zb fun K hK=>?_;simp only [go_sem];refine hK _ ?_;clear hK K;refine zw (zk [6]) ?_;simp only [go_sem];refine ze ?_;simp only [go_sem]
end Go.Proofs.Ytgfbenanljjgaaa.Du.Th.Ai.At

namespace Go.Proofs.Ytgfbenanljjgaaa.Du.Th.Ai
open Go Go.Oc
set_option linter.unusedSimpArgs false
set_option linter.unusedVariables false
set_option maxRecDepth 8000
set_option maxHeartbeats 8000000
structure Ps where
 st : Int
 left : Int
 darts : Int
abbrev psR (p : Ps) : RV:=.ag [i64 p.st,i64 p.left,i64 p.darts]
def posOk (r : Rk) (p : Ps) : Bool:=decide ((lowG r.out ≤ p.st ∧ p.st ≤ r.start) ∧ (lowG r.out ≤ p.left ∧ p.left ≤ p.st) ∧ (1 ≤ p.darts ∧ p.darts ≤ 3) ∧ (p.darts < 3 ∨ p.left = p.st))
theorem isPos_ok (r : Rk) (p : Ps) : ACalls Try.prog 95 [rkR r,psR p] (.bo (posOk r p)):=by
 have hlow:=alow_ok r.out
 have ha:=awithin_ok (lowG r.out) r.start [p.st]
 have hb:=awithin_ok (lowG r.out) p.st [p.left]
 have hd:=awithin_ok 1 3 [p.darts]
 have ea : withinL (lowG r.out) r.start [p.st] = decide (lowG r.out ≤ p.st ∧ p.st ≤ r.start):=by simp [withinL]
 have eb : withinL (lowG r.out) p.st [p.left] = decide (lowG r.out ≤ p.left ∧ p.left ≤ p.st):=by simp [withinL]
 have ed : withinL 1 3 [p.darts] = decide (1 ≤ p.darts ∧ p.darts ≤ 3):=by simp [withinL]
 rw [ea] at ha
 rw [eb] at hb
 rw [ed] at hd
 unfold posOk
 refine acalls_st (rs:=[.bo (decide ((lowG r.out ≤ p.st ∧ p.st ≤ r.start) ∧ (lowG r.out ≤ p.left ∧ p.left ≤ p.st) ∧ (1 ≤ p.darts ∧ p.darts ≤ 3) ∧ (p.darts < 3 ∨ p.left = p.st)))]) [.tmp 4] Try.func95 rfl (by kernel_rfl) Try.ntmps95 rfl (by simp) rfl fun C vs=>?_
 refine zq ?_
 refine zb fun K hK=>?_;simp only [go_sem];refine hK _ ?_;clear hK K;refine zw (sub_frzP 2 2 [i64 r.d,aimsR r.aims,i64 r.start,i64 r.out] (by omega) rfl rfl) ?_;refine zw (sub_frzP 3 3 [i64 p.st,i64 p.left,i64 p.darts] (by omega) rfl rfl) ?_;refine zw (zk [2,3]) ?_;simp only [go_sem]
 refine zq ?_
 refine zb fun K hK=>?_;simp only [go_sem]
 refine zh (hlow) rfl (by simp only [go_sem,i64,ints]) (by simp only [go_sem,i64,ints]) (by first | exact .inl rfl | exact .inr rfl) ?_
 (try simp only [go_sem]);refine hK _ ?_;clear hK K;refine zw (zk [2,3,5]) ?_;simp only [go_sem]
 by_cases h1 : lowG r.out ≤ p.st ∧ p.st ≤ r.start
 · rw [decide_eq_true h1] at ha
   by_cases h2 : lowG r.out ≤ p.left ∧ p.left ≤ p.st
   · rw [decide_eq_true h2] at hb
     by_cases h3 : 1 ≤ p.darts ∧ p.darts ≤ 3
     · rw [decide_eq_true h3] at hd
       by_cases h4 : p.darts < 3
       · have e4 : decide (p.darts < 3) = true:=by simpa using h4
         refine zq ?_
         refine zb fun K hK=>?_;simp only [go_sem,e4]
         refine zh (ha) rfl (by simp only [go_sem,i64,ints,e4]) (by simp only [go_sem,i64,ints,e4]) (by first | exact .inl rfl | exact .inr rfl) ?_
         (try simp only [go_sem,e4])
         refine zh (hb) rfl (by simp only [go_sem,i64,ints,e4]) (by simp only [go_sem,i64,ints,e4]) (by first | exact .inl rfl | exact .inr rfl) ?_
         (try simp only [go_sem,e4])
         refine zh (hd) rfl (by simp only [go_sem,i64,ints,e4]) (by simp only [go_sem,i64,ints,e4]) (by first | exact .inl rfl | exact .inr rfl) ?_
         (try simp only [go_sem,e4]);refine hK _ ?_;clear hK K;refine zw (zk [4]) ?_;simp only [go_sem];refine ze ?_;simp only [go_sem]
         simp [h1,h2,h3,h4]
       · have e4 : decide (p.darts < 3) = false:=by simpa using h4
         refine zq ?_
         refine zb fun K hK=>?_;simp only [go_sem,e4]
         refine zh (ha) rfl (by simp only [go_sem,i64,ints,e4]) (by simp only [go_sem,i64,ints,e4]) (by first | exact .inl rfl | exact .inr rfl) ?_
         (try simp only [go_sem,e4])
         refine zh (hb) rfl (by simp only [go_sem,i64,ints,e4]) (by simp only [go_sem,i64,ints,e4]) (by first | exact .inl rfl | exact .inr rfl) ?_
         (try simp only [go_sem,e4])
         refine zh (hd) rfl (by simp only [go_sem,i64,ints,e4]) (by simp only [go_sem,i64,ints,e4]) (by first | exact .inl rfl | exact .inr rfl) ?_
         (try simp only [go_sem,e4]);refine hK _ ?_;clear hK K;refine zw (zk [4]) ?_;simp only [go_sem];refine ze ?_;simp only [go_sem];rw [Bool.eq_iff_iff]
         simp [h1,h2,h3,h4]
     · rw [decide_eq_false h3] at hd
       refine zq ?_
       refine zb fun K hK=>?_;simp only [go_sem]
       refine zh (ha) rfl (by simp only [go_sem,i64,ints]) (by simp only [go_sem,i64,ints]) (by first | exact .inl rfl | exact .inr rfl) ?_
       (try simp only [go_sem])
       refine zh (hb) rfl (by simp only [go_sem,i64,ints]) (by simp only [go_sem,i64,ints]) (by first | exact .inl rfl | exact .inr rfl) ?_
       (try simp only [go_sem])
       refine zh (hd) rfl (by simp only [go_sem,i64,ints]) (by simp only [go_sem,i64,ints]) (by first | exact .inl rfl | exact .inr rfl) ?_
       (try simp only [go_sem]);refine hK _ ?_;clear hK K;refine zw (zk [4]) ?_;simp only [go_sem];refine ze ?_;simp only [go_sem]
       simp [h3]
   · rw [decide_eq_false h2] at hb
     refine zq ?_
     refine zb fun K hK=>?_;simp only [go_sem]
     refine zh (ha) rfl (by simp only [go_sem,i64,ints]) (by simp only [go_sem,i64,ints]) (by first | exact .inl rfl | exact .inr rfl) ?_
     (try simp only [go_sem])
     refine zh (hb) rfl (by simp only [go_sem,i64,ints]) (by simp only [go_sem,i64,ints]) (by first | exact .inl rfl | exact .inr rfl) ?_
     (try simp only [go_sem]);refine hK _ ?_;clear hK K;refine zw (zk [4]) ?_;simp only [go_sem];refine ze ?_;simp only [go_sem]
     simp [h2]
 · rw [decide_eq_false h1] at ha
   refine zq ?_
   refine zb fun K hK=>?_;simp only [go_sem]
   refine zh (ha) rfl (by simp only [go_sem,i64,ints]) (by simp only [go_sem,i64,ints]) (by first | exact .inl rfl | exact .inr rfl) ?_
   (try simp only [go_sem]);refine hK _ ?_;clear hK K;refine zw (zk [4]) ?_;simp only [go_sem];refine ze ?_;simp only [go_sem]
   simp [h1]
def openR (r : Rk) (p : Ps) : Int:=if checkR r = 0 then (if posOk r p = true then 0 else 2) else checkR r
theorem open_ok (r : Rk) (p : Ps) (hw : WfL r.d r.aims) : ACalls Try.prog 60 [rkR r,psR p] (i64 (openR r p)):=by
 have hch:=acheck_ok r hw
 have hp:=isPos_ok r p
 unfold openR
 refine acalls_st (rs:=[i64 (if checkR r = 0 then (if posOk r p = true then 0 else 2) else checkR r)]) [.tmp 4] Try.func60 rfl (by kernel_rfl) Try.ntmps60 rfl (by simp) rfl fun C vs=>?_
 refine zq ?_
 refine zb fun K hK=>?_;simp only [go_sem];refine hK _ ?_;clear hK K;refine zw (sub_frzP 2 2 [i64 r.d,aimsR r.aims,i64 r.start,i64 r.out] (by omega) rfl rfl) ?_;refine zw (sub_frzP 3 3 [i64 p.st,i64 p.left,i64 p.darts] (by omega) rfl rfl) ?_;refine zw (zk [2,3]) ?_;simp only [go_sem]
 refine zq ?_
 refine zb fun K hK=>?_;simp only [go_sem]
 refine zh (hch) rfl (by simp only [go_sem,i64,ints]) (by simp only [go_sem,i64,ints]) (by first | exact .inl rfl | exact .inr rfl) ?_
 (try simp only [go_sem]);refine hK _ ?_;clear hK K;refine zw (zk [2,3,5]) ?_;simp only [go_sem]
 by_cases h0 : checkR r = 0
 · have e0 : (checkR r == 0) = true:=by simpa using h0
   rw [if_pos h0]
   cases hP : posOk r p
   · rw [hP] at hp
     repeat refine zq ?_
     refine zb fun K hK=>?_;simp only [go_sem,e0]
     refine zh (hp) rfl (by simp only [go_sem,i64,ints]) (by simp only [go_sem,i64,ints]) (by first | exact .inl rfl | exact .inr rfl) ?_
     (try simp only [go_sem]);refine hK _ ?_;clear hK K;refine zw (zk [5,15]) ?_;simp only [go_sem]
     refine zc rfl (fun hc=>?_) (fun hc=>?_) <;> (try simp only [go_sem] at hc)
     refine zb fun K hK=>?_;simp only [go_sem];refine hK _ ?_;clear hK K;refine zw (zk [5]) ?_;simp only [go_sem]
     refine zq ?_
     refine zb fun K hK=>?_;simp only [go_sem];refine hK _ ?_;clear hK K;refine zw (zk [4]) ?_;simp only [go_sem];refine ze ?_;simp only [go_sem]
   · rw [hP] at hp
     repeat refine zq ?_
     refine zb fun K hK=>?_;simp only [go_sem,e0]
     refine zh (hp) rfl (by simp only [go_sem,i64,ints]) (by simp only [go_sem,i64,ints]) (by first | exact .inl rfl | exact .inr rfl) ?_
     (try simp only [go_sem]);refine hK _ ?_;clear hK K;refine zw (zk [5,15]) ?_;simp only [go_sem]
     refine zc rfl (fun hc=>?_) (fun hc=>?_) <;> (try simp only [go_sem] at hc)
     refine zx ?_
     try simp only [go_sem]
     refine zq ?_
     refine zb fun K hK=>?_;simp only [go_sem];refine hK _ ?_;clear hK K;refine zw (zk [4]) ?_;simp only [go_sem];refine ze ?_;simp only [go_sem]
     simp [h0]
 · have e0 : (checkR r == 0) = false:=by simpa using h0
   rw [if_neg h0]
   repeat refine zq ?_
   refine zb fun K hK=>?_;simp only [go_sem,e0];refine hK _ ?_;clear hK K;refine zw (zk [5,15]) ?_;simp only [go_sem]
   refine zc rfl (fun hc=>?_) (fun hc=>?_) <;> (try simp only [go_sem] at hc)
   refine zx ?_
   try simp only [go_sem]
   refine zq ?_
   refine zb fun K hK=>?_;simp only [go_sem];refine hK _ ?_;clear hK K;refine zw (zk [4]) ?_;simp only [go_sem];refine ze ?_;simp only [go_sem]
theorem min_ok (x : Int) (l : List Int) (hl : l.length ≤ 1000) : ACalls Try.prog 62 [ints (x :: l)] (i64 (l.foldl min x)):=by
 refine acalls_st (rs:=[i64 (l.foldl min x)]) [.tmp 2] Try.func62 rfl (by kernel_rfl) Try.ntmps62 rfl (by simp) rfl fun C vs=>?_
 refine zq ?_
 refine zb fun K hK=>?_;simp only [go_sem];refine hK _ ?_;clear hK K;refine zw (zk [0]) ?_;simp only [go_sem]
 have e0 : decide ((l.length : Int) + 1 < 1) = false:=by simp; omega
 repeat refine zq ?_
 refine zb fun K hK=>?_;simp only [go_sem,List.length_map,e0]
 intro _
 refine hK _ ?_;clear hK K;refine zw (zk [0,7]) ?_;simp only [go_sem]
 refine zc rfl (fun hc=>?_) (fun hc=>?_) <;> (try simp only [go_sem] at hc)
 refine zx ?_
 try simp only [go_sem]
 refine zq ?_
 refine zb fun K hK=>?_;simp only [go_sem,List.length_map]
 refine ⟨by omega,?_⟩
 refine hK _ ?_;clear hK K;refine zw (zk [0,3]) ?_;simp only [go_sem]
 repeat refine zq ?_
 refine zb fun K hK=>?_;simp only [go_sem];refine hK _ ?_;clear hK K;refine zw (zk [0,3,4]) ?_;simp only [go_sem];refine zd ?_
 refine awp_upto (n:=25) l.length (fun i vs=>[(0,.r (ints (x :: l))),(3,.r (i64 ((l.take i).foldl min x))),(4,.r (i64 ((i : Int) + 1)))]) (fun _=>[]) (fun _=>True) 0 (fit_of [] ?_ ?_) (Nat.zero_le _) trivial ?_
 · try simp only [go_sem]
   try simp
 · try simp only [go_sem]
 intro i vs hi _
 by_cases hc0 : i < l.length
 · obtain ⟨y,hy⟩:=opt_of_lt hc0
   have hsn : (l.take (i + 1)).foldl min x = min ((l.take i).foldl min x) y:=by rw [take_of_opt hy,List.foldl_append]; rfl
   have e1 : decide ((i : Int) + 1 < (l.length : Int) + 1) = true:=by simp; omega
   repeat refine zq ?_
   refine zb fun K hK=>?_;simp only [go_sem,e1,List.length_map,hc0]
   intro _
   refine hK _ ?_;clear hK K;refine zw (zk [0,3,4,15]) ?_;simp only [go_sem]
   refine zc rfl (fun hc=>?_) (fun hc=>?_) <;> (try simp only [go_sem] at hc)
   refine zx ?_
   try simp only [go_sem]
   refine zq ?_
   refine zd ?_;refine zb fun K hK=>?_;simp only [go_sem,hy,hc0,List.length_map,List.length_cons,List.getElem?_cons_succ]
   refine ⟨by omega,?_⟩
   refine hK _ ?_;clear hK K;refine zw (zk [0,3,4]) ?_;simp only [go_sem]
   have w1 : IntKind.i64.wrap ((i : Int) + 1 + 1) = (i : Int) + 1 + 1:=by rw [zI] <;> omega
   refine zb fun K hK=>?_;simp only [go_sem,w1];refine hK _ ?_;clear hK K
   try simp only [go_sem]
   refine ⟨hc0,fit_of [] ?_ ?_⟩
   · simp only [go_sem,hsn]
   · try simp only [go_sem]
 · have hie : i = l.length:=by omega
   subst hie
   have e1 : decide ((l.length : Int) + 1 < (l.length : Int) + 1) = false:=by simp
   repeat refine zq ?_
   refine zb fun K hK=>?_;simp only [go_sem,e1,List.length_map]
   intro _
   refine hK _ ?_;clear hK K;refine zw (zk [0,3,4,15]) ?_;simp only [go_sem]
   refine zc rfl (fun hc=>?_) (fun hc=>?_) <;> (try simp only [go_sem] at hc)
   refine zf ?_;simp only [go_sem]
   refine zq ?_
   refine zb fun K hK=>?_;simp only [go_sem];refine hK _ ?_;clear hK K;refine zw (zk [2]) ?_;simp only [go_sem];refine ze ?_;simp only [go_sem]
   simp
def atI (v : Int) : List Int → Nat → Int
 | [],_=>-1
 | x :: l,i=>if v = x then i else atI v l (i + 1)
theorem atI_step (v : Int) : ∀ (l : List Int) (i : Nat),(∀ x ∈ l.take i,v ≠ x) → atI v l 0 = atI v (l.drop i) i
 | l,0,_=>rfl
 | [],i + 1,_=>by simp [atI]
 | y :: l, i + 1, h => by
   have gen : ∀ (l : List Int) (i k : Nat),(∀ x ∈ l.take i,v ≠ x) → atI v l k = atI v (l.drop i) (k + i):=by
    intro l
    induction l with
    | nil=>intro i k _; simp [atI]
    | cons z l ih =>
      intro i k hz
      cases i with
      | zero=>rfl
      | succ i =>
        have h0:=hz z (by simp)
        rw [atI,if_neg h0,ih i (k + 1) (fun x hx=>hz x (by simp [hx]))]
        simp only [List.drop_succ_cons]
        congr 1; omega
   have:=gen (y :: l) (i + 1) 0 h
   rwa [Nat.zero_add] at this
theorem index_ok (v : Int) (l : List Int) (hl : l.length ≤ 1000) : ACalls Try.prog 63 [ints l,i64 v] (i64 (atI v l 0)):=by
 refine acalls_st (rs:=[i64 (atI v l 0)]) [.tmp 4] Try.func63 rfl (by kernel_rfl) Try.ntmps63 rfl (by simp) rfl fun C vs=>?_
 refine zq ?_
 refine zb fun K hK=>?_;simp only [go_sem];refine hK _ ?_;clear hK K;refine zw (zk [0,1]) ?_;simp only [go_sem]
 repeat refine zq ?_
 refine zb fun K hK=>?_;simp only [go_sem,List.length_map]
 intro _
 refine hK _ ?_;clear hK K;refine zw (zk [0,1,7,8]) ?_;simp only [go_sem];refine zd ?_
 refine awp_upto (n:=19) l.length (fun i vs=>[(0,.r (ints l)),(1,.r (i64 v)),(7,.r (i64 l.length)),(8,.r (i64 (i : Int)))]) (fun _=>[]) (fun i=>∀ x ∈ l.take i,v ≠ x) 0 (fit_of [] ?_ ?_) (Nat.zero_le _) (by simp) ?_
 · try simp only [go_sem]
 · try simp only [go_sem]
 intro i vs hi hI
 by_cases hc0 : i < l.length
 · obtain ⟨y,hy⟩:=opt_of_lt hc0
   have hst:=atI_step v l i hI
   rw [drop_of_opt hy] at hst
   refine zq ?_
   refine zb fun K hK=>?_;simp only [go_sem,hc0];refine hK _ ?_;clear hK K;refine zw (zk [0,1,7,8,9]) ?_;simp only [go_sem]
   refine zq ?_
   refine zc rfl (fun hc=>?_) (fun hc=>?_) <;> (try simp only [go_sem] at hc)
   refine zx ?_
   try simp only [go_sem]
   refine zq ?_
   refine zd ?_
   refine zq ?_
   refine zb fun K hK=>?_;simp only [go_sem];refine hK _ ?_;clear hK K;refine zw (zk [0,1,5,7,8]) ?_;simp only [go_sem]
   refine zq ?_
   refine zb fun K hK=>?_;simp only [go_sem,hy,hc0,List.length_map];refine hK _ ?_;clear hK K;refine zw (zk [0,1,5,7,8,16]) ?_;simp only [go_sem]
   by_cases hvy : v = y
   · have e1 : (v == y) = true:=by simpa using hvy
     rw [e1]
     refine zc rfl (fun hc=>?_) (fun hc=>?_) <;> (try simp only [go_sem] at hc)
     refine zq ?_
     refine zb fun K hK=>?_;simp only [go_sem];refine hK _ ?_;clear hK K;refine zw (zk [4]) ?_;simp only [go_sem];refine ze ?_;simp only [go_sem];rw [hst,atI,if_pos hvy]
   · have e1 : (v == y) = false:=by simpa using hvy
     rw [e1]
     refine zc rfl (fun hc=>?_) (fun hc=>?_) <;> (try simp only [go_sem] at hc)
     refine zx ?_
     try simp only [go_sem]
     refine zb fun K hK=>?_;simp only [go_sem];(try simp (disch:=omega) only [zI]);refine hK _ ?_;clear hK K
     try simp only [go_sem]
     refine ⟨hc0,?_,fit_of [] ?_ ?_⟩
     · intro x hx
       rw [take_of_opt hy] at hx
       rcases List.mem_append.1 hx with hx | hx
       · exact hI x hx
       · simp at hx; subst hx; exact hvy
     · try simp only [go_sem]
     · try simp only [go_sem]
 · have hie : i = l.length:=by omega
   subst hie
   have hst:=atI_step v l l.length hI
   rw [List.drop_length] at hst
   refine zq ?_
   refine zb fun K hK=>?_;simp only [go_sem,Nat.lt_irrefl];refine hK _ ?_;clear hK K;refine zw (zk [0,1,7,8,9]) ?_;simp only [go_sem]
   refine zq ?_
   refine zc rfl (fun hc=>?_) (fun hc=>?_) <;> (try simp only [go_sem] at hc)
   refine zf ?_;simp only [go_sem]
   refine zq ?_
   refine zb fun K hK=>?_;simp only [go_sem];refine hK _ ?_;clear hK K;refine zw (zk [4]) ?_;simp only [go_sem];refine ze ?_;simp only [go_sem]
   rw [hst]; rfl
def aimL (l : List Int) : Int × Int × Int:=if leastA l = 2000000000 then (0,0,7) else (atI (leastA l) l 0,leastA l,0)
def aimQ (r : Rk) (p : Ps) : Int × Int × Int:=if openR r p = 0 then aimL (At.atV r false (tabT r false) p.st.toNat p.left.toNat (p.darts - 1).toNat) else (0,0,openR r p)
theorem openR_zero {r : Rk} {p : Ps} (h : openR r p = 0) : ROk r ∧ posOk r p = true:=by
 unfold openR at h
 by_cases h0 : checkR r = 0
 · rw [if_pos h0] at h
   refine ⟨(checkR_zero h0).2,?_⟩
   cases hp : posOk r p
   · rw [hp] at h; simp at h
   · rfl
 · rw [if_neg h0] at h; exact (h0 h).elim
theorem aim_ok (r : Rk) (p : Ps) (hw : WfL r.d r.aims) : ACalls Try.prog 26 [rkR r,psR p] (.tu [i64 (aimQ r p).1,i64 (aimQ r p).2.1,i64 (aimQ r p).2.2]):=by
 have hop:=open_ok r p hw
 refine acalls_st (rs:=[i64 (aimQ r p).1,i64 (aimQ r p).2.1,i64 (aimQ r p).2.2]) [.tmp 4,.tmp 5,.tmp 6] Try.func26 rfl (by kernel_rfl) Try.ntmps26 rfl (by simp) rfl fun C vs=>?_
 refine zq ?_
 refine zb fun K hK=>?_;simp only [go_sem];refine hK _ ?_;clear hK K;refine zw (sub_frzP 2 2 [i64 r.d,aimsR r.aims,i64 r.start,i64 r.out] (by omega) rfl rfl) ?_;refine zw (sub_frzP 3 3 [i64 p.st,i64 p.left,i64 p.darts] (by omega) rfl rfl) ?_;refine zw (zk [2,3]) ?_;simp only [go_sem]
 repeat refine zq ?_
 refine zb fun K hK=>?_;simp only [go_sem]
 refine zh (hop) rfl (by simp only [go_sem,i64,ints]) (by simp only [go_sem,i64,ints]) (by first | exact .inl rfl | exact .inr rfl) ?_
 (try simp only [go_sem]);refine hK _ ?_;clear hK K;refine zw (zk [2,3,7]) ?_;simp only [go_sem]
 refine zq ?_
 refine zb fun K hK=>?_;simp only [go_sem];refine hK _ ?_;clear hK K;refine zw (zk [2,3,7,13]) ?_;simp only [go_sem]
 by_cases h0 : openR r p = 0
 · have e0 : (openR r p != 0) = false:=by simp [h0]
   have hA : aimQ r p = aimL (At.atV r false (tabT r false) p.st.toNat p.left.toNat (p.darts - 1).toNat):=by unfold aimQ; rw [if_pos h0]
   obtain ⟨hr,hp⟩:=openR_zero h0
   simp only [posOk,decide_eq_true_eq] at hp
   have hlg:=lowG_le r.out
   have hrs:=hr.start
   have hat:=At.at_ok hr false p.st.toNat p.left.toNat (p.darts - 1).toNat (by omega) (by omega) (by omega) (by omega)
   have g1 : ((p.st.toNat : Nat) : Int) = p.st:=by omega
   have g2 : ((p.left.toNat : Nat) : Int) = p.left:=by omega
   have g3 : (((p.darts - 1).toNat : Nat) : Int) + 1 = p.darts:=by omega
   rw [g1,g2,g3] at hat
   have hlen : (At.atV r false (tabT r false) p.st.toNat p.left.toNat (p.darts - 1).toNat).length = r.aims.length:=by simp [At.atV]
   have htt:=tab_eq hr false (cntA r) (Nat.le_refl _)
   have hLv : ∀ y ∈ At.atV r false (tabT r false) p.st.toNat p.left.toNat (p.darts - 1).toNat,VOk y:=fun y hy=>by
    obtain ⟨a,ha,rfl⟩:=List.mem_map.1 hy
    exact meanA_vok (getD_vok htt.2.2 _) (valA_vok hr htt.2.2 (getD_vok htt.2.2 _) _) (hr.aims a ha)
   rw [hA,e0]
   generalize At.atV r false (tabT r false) p.st.toNat p.left.toNat (p.darts - 1).toNat = L at *
   have hLl : L.length ≤ 20:=by rw [hlen]; exact hr.len
   obtain ⟨x,L',rfl⟩ : ∃ x L',L = x :: L':=by
    cases L with
    | nil=>exact absurd (List.length_eq_zero_iff.1 hlen.symm) hr.ne
    | cons x L'=>exact ⟨x,L',rfl⟩
   have hmin:=min_ok x L' (by simp at hLl; omega)
   have hleast : leastA (x :: L') = min 2000000000 (L'.foldl min x):=by
    unfold leastA
    simp only [List.foldl_cons]
    have : ∀ (l : List Int) (a b : Int),l.foldl min (min a b) = min a (l.foldl min b):=by
     intro l
     induction l with
     | nil=>intro a b; rfl
     | cons y l ih=>intro a b; simp only [List.foldl_cons]; rw [← ih]; congr 1; omega
    exact this L' 2000000000 x
   refine zc rfl (fun hc=>?_) (fun hc=>?_) <;> (try simp only [go_sem] at hc)
   refine zx ?_
   try simp only [go_sem]
   refine zq ?_
   refine zb fun K hK=>?_;simp only [go_sem]
   refine zh (hat) rfl (by simp only [go_sem,i64,ints]) (by simp only [go_sem,i64,ints]) (by first | exact .inl rfl | exact .inr rfl) ?_
   (try simp only [go_sem]);refine hK _ ?_;clear hK K;refine zw (zk [8]) ?_;simp only [go_sem]
   refine zq ?_
   refine zb fun K hK=>?_;simp only [go_sem]
   refine zh (hmin) rfl (by simp only [go_sem,i64,ints]) (by simp only [go_sem,i64,ints]) (by first | exact .inl rfl | exact .inr rfl) ?_
   (try simp only [go_sem]);refine hK _ ?_;clear hK K;refine zw (zk [5,8]) ?_;simp only [go_sem]
   have hx:=hLv x (by simp)
   have hfm:=foldl_min L' x
   have hm : leastA (x :: L') = L'.foldl min x:=by rw [hleast]; unfold VOk at hx; omega
   have hix:=index_ok (leastA (x :: L')) (x :: L') (by omega)
   rw [← hm]
   unfold aimL
   generalize leastA (x :: L') = m at *
   repeat refine zq ?_
   refine zb fun K hK=>?_;simp only [go_sem];refine hK _ ?_;clear hK K;refine zw (zk [5,8,21]) ?_;simp only [go_sem]
   by_cases hN : m = 2000000000
   · have eN : (m == 2000000000) = true:=by simpa using hN
     rw [eN,if_pos hN]
     refine zc rfl (fun hc=>?_) (fun hc=>?_) <;> (try simp only [go_sem] at hc)
     refine zq ?_
     refine zb fun K hK=>?_;simp only [go_sem];refine hK _ ?_;clear hK K;refine zw (zk [4,5,6]) ?_;simp only [go_sem];refine ze ?_;simp only [go_sem]
   · have eN : (m == 2000000000) = false:=by simpa using hN
     rw [eN,if_neg hN]
     refine zc rfl (fun hc=>?_) (fun hc=>?_) <;> (try simp only [go_sem] at hc)
     refine zx ?_
     try simp only [go_sem]
     refine zq ?_
     refine zb fun K hK=>?_;simp only [go_sem]
     refine zh (hix) rfl (by simp only [go_sem,i64,ints]) (by simp only [go_sem,i64,ints]) (by first | exact .inl rfl | exact .inr rfl) ?_
     (try simp only [go_sem]);refine hK _ ?_;clear hK K;refine zw (zk [4,5,6]) ?_;simp only [go_sem];refine ze ?_;simp only [go_sem]
 · have e0 : (openR r p != 0) = true:=by simpa using h0
   have hA : aimQ r p = (0,0,openR r p):=by unfold aimQ; rw [if_neg h0]
   rw [hA,e0]
   refine zc rfl (fun hc=>?_) (fun hc=>?_) <;> (try simp only [go_sem] at hc)
   refine zq ?_
   refine zb fun K hK=>?_;simp only [go_sem];refine hK _ ?_;clear hK K;refine zw (zk [4,5,6]) ?_;simp only [go_sem];refine ze ?_;simp only [go_sem]
end Go.Proofs.Ytgfbenanljjgaaa.Du.Th.Ai

namespace Go.Proofs.Ytgfbenanljjgaaa.Du.Th
open Go Go.Oc
set_option linter.unusedSimpArgs false
set_option linter.unusedVariables false
set_option maxRecDepth 8000
instance : DecidableEq Bd:=fun a b=>decidable_of_iff (a.b = b.b ∧ a.lo = b.lo ∧ a.hi = b.hi) (by cases a; cases b; simp)
instance : DecidableEq Am:=fun a b=>decidable_of_iff (a.at_ = b.at_ ∧ a.beds = b.beds) (by cases a; cases b; simp)
theorem any_step {α : Type} {p : α → Bool} {l : List α} {k : Nat} {y : α} (hy : l[k]? = some y) : (l.take (k + 1)).any p = ((l.take k).any p || p y):=by rw [take_of_opt hy]; simp
theorem any_of {α : Type} {p : α → Bool} {l : List α} {k : Nat} {y : α} (hy : l[k]? = some y) (h : p y = true) : l.any p = true:=List.any_eq_true.2 ⟨y,mem_of_opt hy,h⟩
def greatL (l : List Am) : Bool:=decide (22 < l.length) || l.any fun a=>decide (12 < a.beds.length)
theorem alike_ok (a b : List Int) : ACalls Try.prog 23 [ints a,ints b] (.bo (decide (a = b))):=by
 refine acalls_st (rs:=[.bo (decide (a = b))]) [.tmp 4] Try.func23 rfl (by kernel_rfl) Try.ntmps23 rfl (by simp) rfl fun C vs=>?_
 refine zq ?_
 refine zb fun K hK=>?_;simp only [go_sem];refine hK _ ?_;clear hK K;refine zw (zk [0,1]) ?_;simp only [go_sem]
 repeat refine zq ?_
 refine zb fun K hK=>?_;simp only [go_sem]
 intro hla hlb
 by_cases h1 : a.length = b.length
 case neg =>
  have e4 : ((a.length : Int) != b.length) = true:=by simp; omega
  rw [e4]
  refine hK _ ?_;clear hK K
  refine zc rfl (fun hc=>?_) (fun hc=>?_) <;> (try simp only [go_sem] at hc)
  refine zq ?_
  refine zb fun K hK=>?_;simp only [go_sem];refine hK _ ?_;clear hK K;refine ze ?_;simp only [go_sem]
  simp
  exact fun h=>h1 (by rw [h])
 have e4 : ((a.length : Int) != b.length) = false:=by simp [h1]
 rw [e4]
 refine hK _ ?_;clear hK K;refine zw (zk [0,1,10]) ?_;simp only [go_sem]
 refine zc rfl (fun hc=>?_) (fun hc=>?_) <;> (try simp only [go_sem] at hc)
 refine zx ?_
 try simp only [go_sem]
 repeat refine zq ?_
 refine zb fun K hK=>?_;simp only [go_sem];refine hK _ ?_;clear hK K;refine zw (zk [0,1,5]) ?_;simp only [go_sem];refine zd ?_
 refine awp_upto (n:=26) a.length (fun i vs=>[(0,.r (ints a)),(1,.r (ints b)),(5,.r (i64 i))])
  (fun i=>[]) (fun i=>a.take i = b.take i) 0 (fit_of [] ?_ ?_) (Nat.zero_le _) (by simp) ?_
 · try simp only [go_sem]
 · try simp only [go_sem]
 · intro i vs hi hI
   repeat refine zq ?_
   refine zb fun K hK=>?_;simp only [go_sem]
   intro _
   refine hK _ ?_;clear hK K;refine zw (zk [0,1,5,14]) ?_;simp only [go_sem]
   refine zc rfl (fun hc=>?_) (fun hc=>?_) <;> (try simp only [go_sem] at hc)
   · skip
     have hci : i < a.length:=by omega
     have hc2 : i < b.length:=by omega
     obtain ⟨u,hu⟩:=opt_of_lt hci
     obtain ⟨v,hv⟩:=opt_of_lt hc2
     refine zx ?_
     try simp only [go_sem]
     refine zq ?_
     refine zd ?_
     refine zq ?_
     refine zg follows (by decide +kernel) (by kernel_rfl) fun K hK=>?_;simp only [go_sem,hu,hv,hci,hc2];refine hK _ ?_;clear hK K
     by_cases huv : u = v
     · have e6 : (u != v) = false:=by simp [huv]
       rw [e6]
       refine zc rfl (fun hc=>?_) (fun hc=>?_) <;> (try simp only [go_sem] at hc)
       refine zx ?_
       try simp only [go_sem]
       refine zb fun K hK=>?_;simp only [go_sem];(try simp (disch:=omega) only [zI]);refine hK _ ?_;clear hK K
       try simp only [go_sem]
       refine ⟨hci,?_,fit_of [] ?_ ?_⟩
       · rw [take_of_opt hu,take_of_opt hv,hI,huv]
       · try simp only [go_sem]
       · try simp only [go_sem]
     · have e6 : (u != v) = true:=by simp [huv]
       rw [e6]
       refine zc rfl (fun hc=>?_) (fun hc=>?_) <;> (try simp only [go_sem] at hc)
       refine zq ?_
       refine zb fun K hK=>?_;simp only [go_sem];refine hK _ ?_;clear hK K;refine ze ?_;simp only [go_sem]
       simp
       rintro rfl
       rw [hu] at hv
       injection hv with hv
       exact huv hv
   · skip
     refine zf ?_;simp only [go_sem]
     refine zq ?_
     refine zb fun K hK=>?_;simp only [go_sem];refine hK _ ?_;clear hK K;refine zw (zk [4]) ?_;simp only [go_sem];refine ze ?_;simp only [go_sem]
     have : i = a.length:=by omega
     subst this
     have hab : a = b:=by rwa [List.take_length,h1,List.take_length] at hI
     simp [hab]
end Go.Proofs.Ytgfbenanljjgaaa.Du.Th

namespace Go.Proofs.Ytgfbenanljjgaaa.Du.Th.Ai
open Go Go.Oc
set_option linter.unusedSimpArgs false
set_option linter.unusedVariables false
set_option maxRecDepth 8000
set_option maxHeartbeats 8000000
def dblB (b : Bool) : List Bd:=if b then [⟨0,0,1⟩,⟨101,0,1⟩,⟨201,1,1⟩] else [⟨0,1,1⟩,⟨201,1,1⟩]
def dbl (st : Int) (b : Bool) : Rk:=⟨2,[⟨201,dblB b⟩],st,1⟩
theorem double_ok (st : Int) (b : Bool) : ACalls Try.prog 53 [i64 st,.bo b] (rkR (dbl st b)):=by
 refine acalls_st (rs:=[rkR (dbl st b)]) [.cell 4 27] Try.func53 rfl (by kernel_rfl) Try.ntmps53 rfl (by simp) rfl fun C vs=>?_
 refine zq ?_
 refine zb fun K hK=>?_;simp only [go_sem];refine hK _ ?_;clear hK K;refine zw (zk [0,1,4]) ?_;simp only [go_sem]
 cases b
 · refine zq ?_
   refine zb fun K hK=>?_;simp only [go_sem];refine hK _ ?_;clear hK K;refine zw (zk [0,1,4,5]) ?_;simp only [go_sem]
   repeat refine zq ?_
   refine zb fun K hK=>?_;simp only [go_sem];refine hK _ ?_;clear hK K;refine zw (zk [0,4,5,11]) ?_;simp only [go_sem]
   refine zc rfl (fun hc=>?_) (fun hc=>?_) <;> (try simp only [go_sem] at hc)
   refine zx ?_
   try simp only [go_sem]
   refine zq ?_
   refine zb fun K hK=>?_;simp only [go_sem];refine hK _ ?_;clear hK K;refine zw (zk [4]) ?_;simp only [go_sem];refine ze ?_;simp only [go_sem];exact ⟨rfl,rfl,rfl,rfl⟩
 · refine zq ?_
   refine zb fun K hK=>?_;simp only [go_sem];refine hK _ ?_;clear hK K;refine zw (zk [0,1,4,5]) ?_;simp only [go_sem]
   repeat refine zq ?_
   refine zb fun K hK=>?_;simp only [go_sem];refine hK _ ?_;clear hK K;refine zw (zk [0,4,5,11]) ?_;simp only [go_sem]
   refine zc rfl (fun hc=>?_) (fun hc=>?_) <;> (try simp only [go_sem] at hc)
   refine zb fun K hK=>?_;simp only [go_sem];refine hK _ ?_;clear hK K;refine zw (zk [0,4,5]) ?_;simp only [go_sem]
   refine zq ?_
   refine zb fun K hK=>?_;simp only [go_sem];refine hK _ ?_;clear hK K;refine zw (zk [4]) ?_;simp only [go_sem];refine ze ?_;simp only [go_sem];exact ⟨rfl,rfl,rfl,rfl⟩
theorem dbl_ok32 : ROk (dbl 3 false):=(checkR_zero (by decide +kernel)).2
theorem dbl_ok22 : ROk (dbl 2 false):=(checkR_zero (by decide +kernel)).2
theorem dbl_ok2t : ROk (dbl 2 true):=(checkR_zero (by decide +kernel)).2
theorem vok_list {l : List Int} (h : l.all (fun x=>decide (0 ≤ x) && decide (x ≤ 1000000000) || decide (x = 2000000000)) = true) : ∀ x ∈ l,VOk x:=fun x hx=>by
 have:=List.all_eq_true.1 h x hx
 simp at this
 exact this
theorem u3 : tabT (dbl 3 false) false = [0,0,1142858,2000000000]:=by
 have h1 : numA (dbl 3 false) false [0,0,0,0] 2 = 1142858:=numA_upper dbl_ok32 (vok_list (by decide)) (by decide) (by decide) (by omega) (by decide +kernel) (.inr (by decide +kernel))
 have h2 : numA (dbl 3 false) false [0,0,1142858,0] 3 = 2000000000:=numA_never dbl_ok32 (vok_list (by decide)) (by decide) (by decide) (by decide +kernel)
 show (([0,0,0,0] : List Int).set 2 (numA (dbl 3 false) false [0,0,0,0] 2)).set 3 (numA (dbl 3 false) false (([0,0,0,0] : List Int).set 2 (numA (dbl 3 false) false [0,0,0,0] 2)) 3) = _
 rw [h1]
 show ([0,0,1142858,0] : List Int).set 3 (numA (dbl 3 false) false [0,0,1142858,0] 3) = _
 rw [h2]; rfl
theorem l3 : tabT (dbl 3 false) true = [0,0,1142857,1000000000]:=by
 have h1 : numA (dbl 3 false) true [0,0,0,0] 2 = 1142857:=numA_lower dbl_ok32 (vok_list (by decide)) (by decide) (by decide) (by omega) (.inr (by decide +kernel)) (.inr (by decide +kernel))
 have h2 : numA (dbl 3 false) true [0,0,1142857,0] 3 = 1000000000:=numA_lower dbl_ok32 (vok_list (by decide)) (by decide) (by decide) (by omega) (.inr (by decide +kernel)) (.inl rfl)
 show (([0,0,0,0] : List Int).set 2 (numA (dbl 3 false) true [0,0,0,0] 2)).set 3 (numA (dbl 3 false) true (([0,0,0,0] : List Int).set 2 (numA (dbl 3 false) true [0,0,0,0] 2)) 3) = _
 rw [h1]
 show ([0,0,1142857,0] : List Int).set 3 (numA (dbl 3 false) true [0,0,1142857,0] 3) = _
 rw [h2]; rfl
theorem u2t : tabT (dbl 2 true) false = [0,0,2000000]:=by
 have h1 : numA (dbl 2 true) false [0,0,0] 2 = 2000000:=numA_upper dbl_ok2t (vok_list (by decide)) (by decide) (by decide) (by omega) (by decide +kernel) (.inr (by decide +kernel))
 show ([0,0,0] : List Int).set 2 (numA (dbl 2 true) false [0,0,0] 2) = _
 rw [h1]; rfl
theorem l2t : tabT (dbl 2 true) true = [0,0,1142857]:=by
 have h1 : numA (dbl 2 true) true [0,0,0] 2 = 1142857:=numA_lower dbl_ok2t (vok_list (by decide)) (by decide) (by decide) (by omega) (.inr (by decide +kernel)) (.inr (by decide +kernel))
 show ([0,0,0] : List Int).set 2 (numA (dbl 2 true) true [0,0,0] 2) = _
 rw [h1]; rfl
theorem u2 : tabT (dbl 2 false) false = [0,0,1142858]:=by
 have h1 : numA (dbl 2 false) false [0,0,0] 2 = 1142858:=numA_upper dbl_ok22 (vok_list (by decide)) (by decide) (by decide) (by omega) (by decide +kernel) (.inr (by decide +kernel))
 show ([0,0,0] : List Int).set 2 (numA (dbl 2 false) false [0,0,0] 2) = _
 rw [h1]; rfl
theorem aim2 : aimQ (dbl 2 false) ⟨2,2,1⟩ = (0,571429,0):=by
 unfold aimQ
 rw [u2]
 decide +kernel
theorem nev3 : nevL (dbl 3 false) (tabT (dbl 3 false) false) (cntA (dbl 3 false)) = [3]:=by
 rw [u3]
 decide +kernel
theorem wf_dbl (st : Int) (b : Bool) : WfL (dbl st b).d (dbl st b).aims:=by
 refine ⟨⟨by show (_ : Int) ≤ 2; omega,by show (2 : Int) ≤ _; omega⟩,fun a ha=>?_⟩
 simp only [dbl,List.mem_singleton] at ha
 subst ha
 refine ⟨⟨by show (_ : Int) ≤ 201; omega,by show (201 : Int) ≤ _; omega⟩,?_⟩
 cases b <;> intro x hx <;> simp [dblB] at hx <;> (first | (rcases hx with rfl | rfl | rfl) | (rcases hx with rfl | rfl)) <;> exact ⟨⟨by simp,by simp⟩,⟨by simp,by simp⟩,⟨by simp,by simp⟩⟩
theorem table_at {r : Rk} {u l : List Int} (hw : WfL r.d r.aims) (h0 : checkR r = 0) (hu : tabT r false = u) (hl : tabT r true = l) : ACalls Try.prog 17 [rkR r] (.tu [ints u,ints l,i64 0]):=by
 have:=table_ok r hw
 rw [h0,if_pos rfl,if_pos rfl,hu,hl] at this
 exact this
theorem known_ok : ACalls Try.prog 14 [] (.bo true):=by
 have d3:=double_ok 3 false
 have d2t:=double_ok 2 true
 have d2:=double_ok 2 false
 have t3:=table_at (wf_dbl 3 false) (by decide +kernel) u3 l3
 have t2:=table_at (wf_dbl 2 true) (by decide +kernel) u2t l2t
 have a2:=aim_ok (dbl 2 false) ⟨2,2,1⟩ (wf_dbl 2 false)
 rw [aim2] at a2
 have n3:=never_ok (dbl 3 false) (wf_dbl 3 false)
 rw [nev3,show checkR (dbl 3 false) = 0 by decide +kernel,if_pos rfl] at n3
 have k1:=alike_ok [0,0,1142858,2000000000] [0,0,1142858,2000000000]
 have k2:=alike_ok [0,0,1142857,1000000000] [0,0,1142857,1000000000]
 have k3:=alike_ok [0,0,2000000] [0,0,2000000]
 have k4:=alike_ok [0,0,1142857] [0,0,1142857]
 have k5:=alike_ok [3] [3]
 rw [decide_eq_true rfl] at k1 k2 k3 k4 k5
 generalize dbl 3 false = R3 at *
 generalize dbl 2 true = R2t at *
 generalize dbl 2 false = R2 at *
 refine acalls_st (rs:=[.bo true]) [.tmp 0] Try.func14 rfl (by kernel_rfl) Try.ntmps14 rfl (by simp) rfl fun C vs=>?_
 refine zq ?_
 refine zb fun K hK=>?_;simp only [go_sem];refine hK _ ?_;clear hK K
 refine zq ?_
 refine zb fun K hK=>?_;simp only [go_sem]
 refine zh (d3) rfl (by simp only [go_sem,i64,ints]) (by simp only [go_sem,i64,ints]) (by first | exact .inl rfl | exact .inr rfl) ?_
 (try simp only [go_sem])
 refine zh (t3) rfl (by simp only [go_sem,i64,ints]) (by simp only [go_sem,i64,ints]) (by first | exact .inl rfl | exact .inr rfl) ?_
 (try simp only [go_sem]);refine hK _ ?_;clear hK K;refine zw (zk [1,2,3]) ?_;simp only [go_sem]
 refine zq ?_
 refine zb fun K hK=>?_;simp only [go_sem]
 refine zh (d2t) rfl (by simp only [go_sem,i64,ints]) (by simp only [go_sem,i64,ints]) (by first | exact .inl rfl | exact .inr rfl) ?_
 (try simp only [go_sem])
 refine zh (t2) rfl (by simp only [go_sem,i64,ints]) (by simp only [go_sem,i64,ints]) (by first | exact .inl rfl | exact .inr rfl) ?_
 (try simp only [go_sem]);refine hK _ ?_;clear hK K;refine zw (zk [1,2,3,4,5,6]) ?_;simp only [go_sem]
 refine zq ?_
 refine zb fun K hK=>?_;simp only [go_sem]
 refine zh (d2) rfl (by simp only [go_sem,i64,ints]) (by simp only [go_sem,i64,ints]) (by first | exact .inl rfl | exact .inr rfl) ?_
 (try simp only [go_sem])
 refine zh (a2) rfl (by simp only [go_sem,i64,ints]) (by simp only [go_sem,i64,ints]) (by first | exact .inl rfl | exact .inr rfl) ?_
 (try simp only [go_sem]);refine hK _ ?_;clear hK K;refine zw (zk [1,2,3,4,5,6,7,8,9]) ?_;simp only [go_sem]
 refine zq ?_
 refine zb fun K hK=>?_;simp only [go_sem]
 refine zh (d3) rfl (by simp only [go_sem,i64,ints]) (by simp only [go_sem,i64,ints]) (by first | exact .inl rfl | exact .inr rfl) ?_
 (try simp only [go_sem])
 refine zh (n3) rfl (by simp only [go_sem,i64,ints]) (by simp only [go_sem,i64,ints]) (by first | exact .inl rfl | exact .inr rfl) ?_
 (try simp only [go_sem]);refine hK _ ?_;clear hK K;refine zw (zk [1,2,3,4,5,6,7,8,9,10,11]) ?_;simp only [go_sem]
 refine zq ?_
 refine zb fun K hK=>?_;simp only [go_sem]
 refine zh (k1) rfl (by simp only [go_sem,i64,ints]) (by simp only [go_sem,i64,ints]) (by first | exact .inl rfl | exact .inr rfl) ?_
 (try simp only [go_sem])
 refine zh (k2) rfl (by simp only [go_sem,i64,ints]) (by simp only [go_sem,i64,ints]) (by first | exact .inl rfl | exact .inr rfl) ?_
 (try simp only [go_sem])
 refine zh (k3) rfl (by simp only [go_sem,i64,ints]) (by simp only [go_sem,i64,ints]) (by first | exact .inl rfl | exact .inr rfl) ?_
 (try simp only [go_sem])
 refine zh (k4) rfl (by simp only [go_sem,i64,ints]) (by simp only [go_sem,i64,ints]) (by first | exact .inl rfl | exact .inr rfl) ?_
 (try simp only [go_sem])
 refine zh (k5) rfl (by simp only [go_sem,i64,ints]) (by simp only [go_sem,i64,ints]) (by first | exact .inl rfl | exact .inr rfl) ?_
 (try simp only [go_sem]);refine hK _ ?_;clear hK K;refine zw (zk [0]) ?_;simp only [go_sem];refine ze ?_;simp only [go_sem]
theorem l2 : tabT (dbl 2 false) true = [0,0,1142857]:=by
 have h1 : numA (dbl 2 false) true [0,0,0] 2 = 1142857:=numA_lower dbl_ok22 (vok_list (by decide)) (by decide) (by decide) (by omega) (.inr (by decide +kernel)) (.inr (by decide +kernel))
 show ([0,0,0] : List Int).set 2 (numA (dbl 2 false) true [0,0,0] 2) = _
 rw [h1]; rfl
theorem pubAim_ok : ACalls Try.prog 38 [] (.bo true):=by
 have hck : checkR (dbl 2 false) = 0:=by decide +kernel
 have hwf : WfL (dbl 2 false).d (dbl 2 false).aims:=wfL_chk (checkR_zero hck).1 (by decide)
 have htb:=table_ok (dbl 2 false) hwf
 rw [if_pos hck,if_pos hck,hck,u2,l2] at htb
 have htb' : ACalls Try.prog 17 [.ag [.it .i64 2,aimsR (dbl 2 false).aims,.it .i64 2,.it .i64 1]] (.tu [ints [0,0,1142858],ints [0,0,1142857],i64 0]):=htb
 have h1:=one_mk 1
 refine acalls_st (rs:=[.bo true]) [.tmp 0] Try.func38 rfl (by kernel_rfl) Try.ntmps38 rfl (by simp) rfl fun C vs=>?_
 refine zq ?_
 refine zb fun K hK=>?_;simp only [go_sem];refine hK _ ?_;clear hK K;refine zw (zk []) ?_;simp only [go_sem]
 refine zq ?_
 refine zb fun K hK=>?_;simp only [go_sem]
 refine zh (h1) rfl (by simp only [go_sem,i64,ints]) (by simp only [go_sem,i64,ints]) (by first | exact .inl rfl | exact .inr rfl) ?_
 (try simp only [go_sem])
 refine zh (h1) rfl (by simp only [go_sem,i64,ints]) (by simp only [go_sem,i64,ints]) (by first | exact .inl rfl | exact .inr rfl) ?_
 (try simp only [go_sem]);refine hK _ ?_;clear hK K;refine zw (sub_frzP 1 1 [i64 2,aimsR (dbl 2 false).aims] (by omega) (by try simp only [go_sem]) (by try simp only [go_sem]; rfl)) ?_;refine zw (zk [1]) ?_;simp only [go_sem]
 refine zq ?_
 refine zb fun K hK=>?_;simp only [go_sem]
 refine zh (htb') rfl (by simp only [go_sem,i64,ints]) (by simp only [go_sem,i64,ints]) (by first | exact .inl rfl | exact .inr rfl) ?_
 (try simp only [go_sem]);refine hK _ ?_;clear hK K;refine zw (zk [2,3,4]) ?_;simp only [go_sem]
 have e0 : ((0 : Int) == 0) = true:=rfl
 have e1 : ((3 : Int) == 3) = true:=rfl
 have e2 : ((1142858 : Int) == 1142858) = true:=rfl
 have e3 : ((1142857 : Int) == 1142857) = true:=rfl
 refine zq ?_
 refine zb fun K hK=>?_;simp only [go_sem,e0,e1,e2,e3,List.map_cons,List.map_nil,List.length_cons,List.length_nil]
 (try intros)
 refine hK _ ?_;clear hK K;refine zw (zk [0]) ?_;simp only [go_sem];refine ze ?_;simp only [go_sem]
set_option maxHeartbeats 4000000
theorem nevL_pre (r : Rk) (T : List Int) (i : Nat) : ∀ m,∃ l,nevL r T (i + m) = nevL r T i ++ l
 | 0=>⟨[],by simp⟩
 | m + 1 => by
   obtain ⟨l,hl⟩:=nevL_pre r T i m
   rw [← Nat.add_assoc,nevL_succ]
   split
   · exact ⟨l ++ [lowG r.out + ((i + m : Nat) : Int)],by rw [hl,List.append_assoc]⟩
   · exact ⟨l,hl⟩
theorem nevL_at {r : Rk} {T : List Int} {i n : Nat} (hi : i < n) (h : T.getD ((lowG r.out).toNat + i) 0 = 2000000000) : (nevL r T n)[(nevL r T i).length]? = some (lowG r.out + (i : Int)):=by
 obtain ⟨l,hl⟩:=nevL_pre r T (i + 1) (n - (i + 1))
 rw [show i + 1 + (n - (i + 1)) = n by omega,nevL_succ,if_pos h] at hl
 rw [hl,List.append_assoc,List.getElem?_append_right (Nat.le_refl _),Nat.sub_self]
 rfl
theorem nevL_le9 (r : Rk) (T : List Int) : ∀ i,(nevL r T i).length ≤ i
 | 0=>by simp [nevL]
 | i + 1 => by
   have:=nevL_le9 r T i
   rw [nevL_succ]
   split
   · rw [List.length_append]; simp; omega
   · omega
theorem sure_few {bs : List Int} {st g : Int} (hB : ∀ b ∈ bs,bedOk b = true) (hne : bs ≠ []) (hr : ROk (suK bs st g)) {s N : Nat} (h1 : lowG g ≤ s) (h2 : (s : Int) ≤ st) (hN : s ≤ N) :
 ((fewO g bs N).getD s 0 < 0 ∧ (tabT (suK bs st g) false).getD s 0 = 2000000000 ∧ (tabT (suK bs st g) true).getD s 0 = 1000000000) ∨
 ((1 ≤ (fewO g bs N).getD s 0 ∧ (fewO g bs N).getD s 0 ≤ s) ∧ (tabT (suK bs st g) false).getD s 0 = ((fewO g bs N).getD s 0 + 2) / 3 * 1000000 ∧ (tabT (suK bs st g) true).getD s 0 = ((fewO g bs N).getD s 0 + 2) / 3 * 1000000):=by
 have hlg:=lowG_le g
 have hsp:=few_spec (g:=g) hB s s (Nat.le_refl _)
 have hu:=sure_at hB hne hr false s h1 h2
 have hl:=sure_at hB hne hr true s h1 h2
 have h0 : endB g bs 0 s = false:=by
  unfold endB
  rw [beq_eq_false_iff_ne]; omega
 rw [few_get hN]
 generalize (fewO g bs s).getD s 0 = f at *
 by_cases hf : 0 ≤ f
 · right
   have hE : endB g bs f.toNat s = true:=(hsp f.toNat).2 ⟨hf,by omega⟩
   have hs1:=(hsp s).1 (end_self hB s s (Nat.le_refl _) _ hE)
   have hf1 : 1 ≤ f:=by
    refine Int.not_lt.1 fun hlt=>?_
    have:=(hsp 0).2 ⟨hf,by omega⟩
    rw [h0] at this; cases this
   have key : ∀ v : Nat,1 ≤ v → endB g bs (3 * v) s = true → endB g bs (3 * (v - 1)) s = false → (v : Int) = (f + 2) / 3:=fun v v1 v2 v3=>by
    have k1:=(hsp (3 * v)).1 v2
    have k2 : ¬ f ≤ ((3 * (v - 1) : Nat) : Int):=fun hle=>by
     have:=(hsp (3 * (v - 1))).2 ⟨hf,hle⟩
     rw [v3] at this; cases this
    omega
   refine ⟨⟨hf1,hs1.2⟩,?_,?_⟩
   · rcases hu with ⟨v,v1,v2,v3,v4⟩ | ⟨v1,v2⟩
     · rw [v2,key v v1 v3 v4]
     · rw [v2] at hE; cases hE
   · rcases hl with ⟨v,v1,v2,v3,v4⟩ | ⟨v1,v2⟩
     · rw [v2,key v v1 v3 v4]
     · rw [v2] at hE; cases hE
 · left
   have hno : ∀ M,endB g bs M s = true → False:=fun M hM=>hf ((hsp M).1 hM).1
   refine ⟨by omega,?_,?_⟩
   · rcases hu with ⟨v,v1,v2,v3,v4⟩ | ⟨v1,v2⟩
     · exact (hno _ v3).elim
     · exact v1
   · rcases hl with ⟨v,v1,v2,v3,v4⟩ | ⟨v1,v2⟩
     · exact (hno _ v3).elim
     · exact v1
theorem law_sureaim (l : List Nat) (hl : ∀ n ∈ l,n < 256) (x1 x2 : Nat) (h1 : x1 < 256) (h2 : x2 < 256) : ACalls Try.prog 12 [bytR l,u8Q x1,u8Q x2] (.bo true):=by
 have hk1:=pubOut_ok
 have hk2:=pubAim_ok
 have hpb:=pbeds_ok l 4 hl (by omega)
 have hint : intsN (bedsP l 4) = ints (bsP l 4):=rfl
 rw [hint] at hpb
 have hbd:=bdsO_of hl (most:=4) (by omega)
 have hb4:=(bsP_all hl (most:=4) (by omega)).2.2.1
 have hne:=(bsP_all hl (most:=4) (by omega)).2.1
 generalize bsP l 4 = bs at *
 have hB : ∀ b ∈ bs,bedOk b = true:=fun b hb=>(hbd.bed b hb).1
 have hsu:=sure_ok bs hbd
 have m1:=Nat.mod_lt x1 (show 3 > 0 by omega)
 have m2:=Nat.mod_lt x2 (show 8 > 0 by omega)
 have k1 : IntKind.i64.wrap (x1 : Int) = x1:=by rw [zI] <;> omega
 have k2 : IntKind.i64.wrap (x2 : Int) = x2:=by rw [zI] <;> omega
 have r1 : Int.tmod (x1 : Int) 3 = ((x1 % 3 : Nat) : Int):=rfl
 have r2 : Int.tmod (x2 : Int) 8 = ((x2 % 8 : Nat) : Int):=rfl
 have w2 : IntKind.i64.wrap (2 + ((x2 % 8 : Nat) : Int)) = ((2 + x2 % 8 : Nat) : Int):=by rw [zI] <;> omega
 generalize hst : 2 + x2 % 8 = st at *
 generalize hg : x1 % 3 = g at *
 have hst2 : 2 ≤ st ∧ st ≤ 9:=by omega
 have hck : checkR (suK bs st g) = 0:=su_ok hB ⟨hbd.ne,by omega⟩ (by omega) (by omega)
 have hwf : WfL (suK bs st g).d (suK bs st g).aims:=wfL_chk (checkR_zero hck).1 (by show (0 : Int) ≤ 1 ∧ (1 : Int) ≤ 3000; omega)
 have hr:=(checkR_zero hck).2
 have hfe:=fewest_ok bs g 3 st hbd (by omega) (by omega) (by omega)
 have hcp:=pcopy_ok bs hbd.ne (by omega)
 have hlw:=plaw_ok 1 (sureL bs) (by simp [sureL]; omega) (fun a ha=>by obtain ⟨b,_,rfl⟩:=List.mem_map.1 ha; simp [sureA])
 have htb:=table_ok (suK bs st g) hwf
 have hnv:=never_ok (suK bs st g) hwf
 rw [if_pos hck,if_pos hck,hck] at htb
 rw [if_pos hck,hck] at hnv
 have hsf:=fun (s : Nat) (q1 : lowG (g : Int) ≤ s) (q2 : s ≤ st)=>sure_few hB hne hr (s:=s) (N:=st) q1 (by omega) q2
 have hlU:=tabT_len hr false
 have hlL:=tabT_len hr true
 have hF:=few_len (g : Int) bs st
 have hstE : (suK bs st g).start = (st : Int):=rfl
 have houE : (suK bs st g).out = (g : Int):=rfl
 rw [hstE] at hlU hlL
 have hlg:=lowG_le (g : Int)
 have hcn : (cntA (suK bs st g) : Int) = (st : Int) + 1 - lowG (g : Int):=by unfold cntA; rw [hstE,houE]; omega
 have hnat:=fun (i : Nat)=>nevL_at (r:=suK bs st g) (T:=tabT (suK bs st g) false) (i:=i) (n:=cntA (suK bs st g))
 have hnsu:=fun (i : Nat)=>nevL_succ (suK bs st g) (tabT (suK bs st g) false) i
 have hnle:=fun (i : Nat)=>nevL_le9 (suK bs st g) (tabT (suK bs st g) false) i
 rw [houE] at hnat hnsu
 have hn0 : (nevL (suK bs st g) (tabT (suK bs st g) false) 0).length = 0:=by simp [nevL]
 generalize hNf : nevL (suK bs st g) (tabT (suK bs st g) false) = Nf at *
 generalize tabT (suK bs st g) false = U at *
 generalize tabT (suK bs st g) true = L at *
 generalize fewO (g : Int) bs st = F at *
 generalize cntA (suK bs st g) = cnt at *
 have htb2 : ACalls Try.prog 17 [.ag [.it .i64 1,aimsR (sureL bs),.it .i64 (st : Int),.it .i64 (g : Int)]] (.tu [ints U,ints L,i64 0]):=htb
 have hnv2 : ACalls Try.prog 18 [.ag [.it .i64 1,aimsR (sureL bs),.it .i64 (st : Int),.it .i64 (g : Int)]] (.tu [ints (Nf cnt),i64 0]):=hnv
 obtain ⟨base,hbase⟩ : ∃ base : Nat,(base : Int) = lowG (g : Int):=⟨(lowG (g : Int)).toNat,by omega⟩
 have hbt : (lowG (g : Int)).toNat = base:=by omega
 rw [hbt] at hnat hnsu
 have lU : U.length = st + 1:=by omega
 have lL : L.length = st + 1:=by omega
 have ws : IntKind.i64.wrap ((st : Int) + 1) = ((st + 1 : Nat) : Int):=by rw [zI] <;> omega
 have z0 : ((0 : Int) != 0) = false:=rfl
 have zl : (((st + 1 : Nat) : Int) != ((st + 1 : Nat) : Int)) = false:=by simp
 have zl2 : ((st : Int) + 1 != (st : Int) + 1) = false:=by simp
 refine acalls_st (rs:=[.bo true]) [.tmp 6] Try.func12 rfl (by kernel_rfl) Try.ntmps12 rfl (by simp) rfl fun C vs=>?_
 refine zq ?_
 refine zb fun K hK=>?_;simp only [go_sem];refine hK _ ?_;clear hK K;refine zw (zk [0,1,2]) ?_;simp only [go_sem]
 refine zq ?_
 refine zb fun K hK=>?_;simp only [go_sem]
 refine zh (hpb) rfl (by simp only [go_sem,i64,ints]) (by simp only [go_sem,i64,ints]) (by first | exact .inl rfl | exact .inr rfl) ?_
 (try simp only [go_sem]);refine hK _ ?_;clear hK K;refine zw (zk [1,2,7]) ?_;simp only [go_sem]
 refine zq ?_
 refine zb fun K hK=>?_;simp only [go_sem]
 refine zh (hsu) rfl (by simp only [go_sem,i64,ints,k1,k2,r1,r2,w2]) (by simp only [go_sem,i64,ints,k1,k2,r1,r2,w2]) (by first | exact .inl rfl | exact .inr rfl) ?_
 (try simp only [go_sem,k1,k2,r1,r2,w2]);refine hK _ ?_;clear hK K;refine zw (sub_frzP 8 8 [i64 1,aimsR (sureL bs),i64 (st : Int),i64 (g : Int)] (by omega) (by try simp only [go_sem]) (by try simp only [go_sem])) ?_;refine zw (zk [7,8]) ?_;simp only [go_sem]
 refine zq ?_
 refine zb fun K hK=>?_;simp only [go_sem];refine hK _ ?_;clear hK K;refine zw (zk [7,8,9]) ?_;simp only [go_sem]
 repeat refine zq ?_
 refine zb fun K hK=>?_;simp only [go_sem];refine hK _ ?_;clear hK K;refine zw (zk [7,8,9,34]) ?_;simp only [go_sem]
 refine awp_join (n:=170) (fun (_ : Unit) vs=>[(7,.r (ints bs)),(8,.r (.rp [i64 1,aimsR (sureL bs),i64 (st : Int),i64 (g : Int)])),(9,.r (i64 (base : Int)))]) (fun _=>[]) (fun _=>True) (fun _ h=>h) ?_ ?_
 · by_cases hg0 : g = 0
   · have e0 : ((g : Int) == 0) = true:=by simp [hg0]
     have eb : (base : Int) = 1:=by rw [hbase,hg0]; rfl
     rw [e0,eb]
     refine zc rfl (fun hc=>?_) (fun hc=>?_) <;> (try simp only [go_sem] at hc)
     refine zb fun K hK=>?_;simp only [go_sem];refine hK _ ?_;clear hK K;exact ⟨(),trivial,fit_of [] (by try simp only [go_sem]) (by try simp only [go_sem])⟩
   · have e0 : ((g : Int) == 0) = false:=by simp; omega
     have eb : (base : Int) = 2:=by
      rw [hbase]; unfold lowG; rw [if_neg (by omega)]
     rw [e0,eb]
     refine zc rfl (fun hc=>?_) (fun hc=>?_) <;> (try simp only [go_sem] at hc)
     refine zx ?_
     try simp only [go_sem]
     exact ⟨(),fit_of [] (by try simp only [go_sem]) (by try simp only [go_sem])⟩
 intro _ vs _
 refine zq ?_
 refine zg follows (by decide +kernel) (by kernel_rfl) fun K hK=>?_;simp only [go_sem]
 refine zh (hcp) rfl (by simp only [go_sem,i64,ints]) (by simp only [go_sem,i64,ints]) (by first | exact .inl rfl | exact .inr rfl) ?_
 (try simp only [go_sem])
 refine zh (hfe) rfl (by simp only [go_sem,i64,ints]) (by simp only [go_sem,i64,ints]) (by first | exact .inl rfl | exact .inr rfl) ?_
 (try simp only [go_sem]);refine hK _ ?_;clear hK K;refine zw (zk [8,9,10,11]) ?_;simp only [go_sem]
 refine zq ?_
 refine zg follows (by decide +kernel) (by kernel_rfl) fun K hK=>?_;simp only [go_sem]
 refine zh (hlw) rfl (by simp only [go_sem,i64,ints]) (by simp only [go_sem,i64,ints]) (by first | exact .inl rfl | exact .inr rfl) ?_
 (try simp only [go_sem])
 refine zh (htb2) rfl (by simp only [go_sem,i64,ints]) (by simp only [go_sem,i64,ints]) (by first | exact .inl rfl | exact .inr rfl) ?_
 (try simp only [go_sem]);refine hK _ ?_;clear hK K;refine zw (zk [8,9,10,11,12,13,14]) ?_;simp only [go_sem]
 refine zq ?_
 refine zb fun K hK=>?_;simp only [go_sem]
 refine zh (hnv2) rfl (by simp only [go_sem,i64,ints]) (by simp only [go_sem,i64,ints]) (by first | exact .inl rfl | exact .inr rfl) ?_
 (try simp only [go_sem]);refine hK _ ?_;clear hK K;refine zw (zk [8,9,10,11,12,13,14,15,16]) ?_;simp only [go_sem]
 repeat refine zq ?_
 refine zb fun K hK=>?_;simp only [go_sem,z0,hF,lU,lL,ws,zl,zl2,List.length_map]
 (try intros)
 refine hK _ ?_;clear hK K;refine zw (zk [8,9,10,12,13,15,97]) ?_;simp only [go_sem]
 refine zc rfl (fun hc=>?_) (fun hc=>?_) <;> (try simp only [go_sem] at hc)
 refine zx ?_
 try simp only [go_sem]
 refine zq ?_
 refine zb fun K hK=>?_;simp only [go_sem];refine hK _ ?_;clear hK K;refine zw (zk [8,9,10,12,13,15,17]) ?_;simp only [go_sem]
 repeat refine zq ?_
 refine zb fun K hK=>?_;simp only [go_sem];refine hK _ ?_;clear hK K;refine zw (zk [8,10,12,13,15,17,18]) ?_;simp only [go_sem];refine zd ?_
 have hNc:=hnle cnt
 refine awp_upto (n:=170) cnt (fun i vs=>[(8,.r (.rp [i64 1,aimsR (sureL bs),i64 (st : Int),i64 (g : Int)])),(10,.r (ints F)),(12,.r (ints U)),(13,.r (ints L)),(15,.r (ints (Nf cnt))),(17,.r (i64 ((Nf i).length : Int))),(18,.r (i64 ((base + i : Nat) : Int)))])
  (fun i=>[]) (fun _=>True) 0 (fit_of [] ?_ ?_) (Nat.zero_le _) trivial ?_
 · try simp only [go_sem]
   rw [hn0]
   try rfl
 · try simp only [go_sem]
 intro i vs hi _
 obtain ⟨s,hs⟩ : ∃ s,s = base + i:=⟨_,rfl⟩
 have hnx : base + (i + 1) = s + 1:=by omega
 rw [hnx,← hs]
 have hni:=hnle i
 by_cases hic : i < cnt
 · have hss : s ≤ st:=by omega
   have e1 : decide ((s : Int) ≤ (st : Int)) = true:=decide_eq_true (by omega)
   have ws1 : IntKind.i64.wrap ((s : Int) + 1) = ((s + 1 : Nat) : Int):=by rw [zI] <;> omega
   have hsF : s < F.length:=by omega
   have hsU : s < U.length:=by omega
   have hsL : s < L.length:=by omega
   obtain ⟨f,hf⟩:=opt_of_lt hsF
   obtain ⟨u,hu⟩:=opt_of_lt hsU
   obtain ⟨v,hv⟩:=opt_of_lt hsL
   have gf : F.getD s 0 = f:=by simp [List.getD,hf]
   have gu : U.getD s 0 = u:=by simp [List.getD,hu]
   have gv : L.getD s 0 = v:=by simp [List.getD,hv]
   have hd:=hsf s (by omega) hss
   have hna:=hnat i hic
   have hns:=hnsu i
   rw [← hs,gu] at hna hns
   rw [gf,gu,gv] at hd
   repeat refine zq ?_
   refine zb fun K hK=>?_;simp only [go_sem,e1];refine hK _ ?_;clear hK K;refine zw (zk [8,10,12,13,15,17,18,102]) ?_;simp only [go_sem]
   refine zc rfl (fun hc=>?_) (fun hc=>?_) <;> (try simp only [go_sem] at hc)
   rotate_left
   · exact absurd hss hc
   refine zx ?_
   try simp only [go_sem]
   refine zq ?_
   refine zd ?_
   rcases hd with ⟨d1,d2,d3⟩ | ⟨⟨d0,d1⟩,d2,d3⟩
   · have c1 : decide (f < 0) = true:=decide_eq_true d1
     have hnn:=hna d2
     rw [if_pos d2] at hns
     have hnl : (Nf (i + 1)).length = (Nf i).length + 1:=by rw [hns]; simp
     have hlt : (Nf i).length < (Nf cnt).length:=(List.getElem?_eq_some_iff.1 hnn).1
     rw [← hbase] at hnn
     have hnn2 : (Nf cnt)[(Nf i).length]? = some (s : Int):=by rw [hnn]; congr 1; omega
     have e2 : (u != 2000000000) = false:=by rw [d2]; rfl
     have e3 : (v != 1000000000) = false:=by rw [d3]; rfl
     have e4 : decide (((Nf cnt).length : Int) ≤ ((Nf i).length : Int)) = false:=decide_eq_false (by omega)
     have e4' : ¬ (Nf cnt).length ≤ (Nf i).length:=by omega
     have e5 : ((s : Int) != (s : Int)) = false:=by simp
     have wa : IntKind.i64.wrap (((Nf i).length : Int) + 1) = ((Nf i).length : Int) + 1:=by rw [zI] <;> omega
     rw [hnl]
     repeat refine zq ?_
     refine zb fun K hK=>?_;simp only [go_sem,hf,hsF,c1,List.length_map];refine hK _ ?_;clear hK K;refine zw (zk [8,10,12,13,15,17,18,109]) ?_;simp only [go_sem]
     refine zc rfl (fun hc=>?_) (fun hc=>?_) <;> (try simp only [go_sem] at hc)
     repeat refine zq ?_
     refine zb fun K hK=>?_;simp only [go_sem,hu,hv,hsU,hsL,hnn2,hlt,e2,e3,e4,e4',e5,List.length_map]
     (try intros)
     refine hK _ ?_;clear hK K;refine zw (zk [8,10,12,13,15,17,18,135]) ?_;simp only [go_sem]
     refine zc rfl (fun hc=>?_) (fun hc=>?_) <;> (try simp only [go_sem] at hc)
     refine zx ?_
     try simp only [go_sem]
     refine zq ?_
     refine zb fun K hK=>?_;simp only [go_sem,wa];refine hK _ ?_;clear hK K;refine zw (zk [8,10,12,13,15,17,18]) ?_;simp only [go_sem];refine zf ?_;simp only [go_sem];refine zb fun K hK=>?_;simp only [go_sem,ws1];refine hK _ ?_;clear hK K
     try simp only [go_sem]
     refine ⟨hic,fit_of [] ?_ ?_⟩
     · try simp only [go_sem]
       try simp
     · try simp only [go_sem]
   · have c1 : decide (f < 0) = false:=decide_eq_false (by omega)
     have hu2 : u ≠ 2000000000:=by omega
     rw [if_neg hu2] at hns
     rw [hns]
     have q1 : IntKind.i64.wrap (f + 3) = f + 3:=by rw [zI] <;> omega
     have q2 : IntKind.i64.wrap (f + 3 - 1) = f + 2:=by rw [zI] <;> omega
     have q3 : (f + 2).tdiv 3 = (f + 2) / 3:=Int.tdiv_eq_ediv_of_nonneg (by omega)
     have q4 : IntKind.i64.wrap ((f + 2) / 3) = (f + 2) / 3:=by rw [zI] <;> omega
     have q5 : IntKind.i64.wrap ((f + 2) / 3 * 1000000) = u:=by rw [zI] <;> omega
     have e2 : (u != u) = false:=by simp
     have e3 : (v != u) = false:=by rw [d3,d2]; simp
     repeat refine zq ?_
     refine zb fun K hK=>?_;simp only [go_sem,hf,hsF,c1,List.length_map];refine hK _ ?_;clear hK K;refine zw (zk [8,10,12,13,15,17,18,109]) ?_;simp only [go_sem]
     refine zc rfl (fun hc=>?_) (fun hc=>?_) <;> (try simp only [go_sem] at hc)
     refine zx ?_
     try simp only [go_sem]
     refine zq ?_
     refine zb fun K hK=>?_;simp only [go_sem,hf,hsF,q1,q2,q3,q4,q5,List.length_map];refine hK _ ?_;clear hK K;refine zw (zk [8,10,12,13,15,17,18,19]) ?_;simp only [go_sem]
     refine zq ?_
     refine zb fun K hK=>?_;simp only [go_sem,hu,hv,hsU,hsL,e2,e3,List.length_map]
     (try intros)
     refine hK _ ?_;clear hK K;refine zw (zk [8,10,12,13,15,17,18,159]) ?_;simp only [go_sem]
     refine zc rfl (fun hc=>?_) (fun hc=>?_) <;> (try simp only [go_sem] at hc)
     refine zx ?_
     try simp only [go_sem]
     refine zb fun K hK=>?_;simp only [go_sem,ws1];refine hK _ ?_;clear hK K
     try simp only [go_sem]
     refine ⟨hic,fit_of [] ?_ ?_⟩
     · try simp only [go_sem]
       try simp
     · try simp only [go_sem]
 · have hie : i = cnt:=by omega
   subst hie
   have e1 : decide ((s : Int) ≤ (st : Int)) = false:=decide_eq_false (by omega)
   have e2 : (((Nf i).length : Int) == ((Nf i).length : Int)) = true:=by simp
   repeat refine zq ?_
   refine zb fun K hK=>?_;simp only [go_sem,e1];refine hK _ ?_;clear hK K;refine zw (zk [8,10,12,13,15,17,18,102]) ?_;simp only [go_sem]
   refine zc rfl (fun hc=>?_) (fun hc=>?_) <;> (try simp only [go_sem] at hc)
   · exact absurd hc (by omega)
   refine zf ?_;simp only [go_sem]
   refine zq ?_
   refine zb fun K hK=>?_;simp only [go_sem,e2,List.length_map]
   intro _
   refine zh (hk1) rfl (by simp only [go_sem,i64,ints,e2,List.length_map]) (by simp only [go_sem,i64,ints,e2,List.length_map]) (by first | exact .inl rfl | exact .inr rfl) ?_
   (try simp only [go_sem,e2,List.length_map])
   refine zh (hk2) rfl (by simp only [go_sem,i64,ints,e2,List.length_map]) (by simp only [go_sem,i64,ints,e2,List.length_map]) (by first | exact .inl rfl | exact .inr rfl) ?_
   (try simp only [go_sem,e2,List.length_map]);refine hK _ ?_;clear hK K;refine zw (zk [6]) ?_;simp only [go_sem];refine ze ?_;simp only [go_sem]
end Go.Proofs.Ytgfbenanljjgaaa.Du.Th.Ai

namespace Go.Oc
open Go Go.RowKit Go.ChangeShapes Go.WideShapes
inductive Sh where
 | int (k : IntKind)
 | bool
 | sl (es : List Sh)
def fieldsSh (P : Program) (sh : TypeId → Option (List Sh)) : List Field → Nat → Option (List Sh)
 | [],_=>some []
 | f :: fs, o =>
   match sh f.type with
   | some ss=>if f.offset == o && ss.length == P.cellsOf f.type then match fieldsSh P sh fs (o + ss.length) with | some q=>some (ss ++ q) | none=>none else none
   | none=>none
def shape (P : Program) : Nat → TypeId → Option (List Sh)
 | 0,_=>none
 | n + 1, t =>
   match P.underlying t with
   | some (.int k)=>some [.int k]
   | some .bool=>some [.bool]
   | some (.slice e) =>
     match shape P n e with
     | some ss=>if ss.length == P.cellsOf e && decide (0 < ss.length) then some [.sl ss] else none
     | none=>none
   | some (.array m e) =>
     match shape P n e with
     | some ss=>if ss.length == P.cellsOf e && P.cellsOf t == m * ss.length then some (List.replicate m ss).flatten else none
     | none=>none
   | some (.struct fs) =>
     match fieldsSh P (shape P n) fs.toList 0 with
     | some ss=>if ss.length == P.cellsOf t then some ss else none
     | none=>none
   | _=>none
mutual
def Fits : Sh → RV → Prop
 | .int k,x=>∃ n,x = .it k n ∧ (Lit.int k n).wf = true
 | .bool,x=>∃ b,x = .bo b
 | .sl ss,x=>∃ es,x = .sl ss.length es ∧ FitsE ss es
def FitsL : List Sh → List RV → Prop
 | [],xs=>xs = []
 | s :: ss,xs=>∃ y ys,xs = y :: ys ∧ Fits s y ∧ FitsL ss ys
def FitsE (ss : List Sh) : List (List RV) → Prop
 | []=>True
 | e :: es=>FitsL ss e ∧ FitsE ss es
end
theorem fitsL_append : ∀ {s1 s2 : List Sh} {x1 x2 : List RV},FitsL s1 x1 → FitsL s2 x2 → FitsL (s1 ++ s2) (x1 ++ x2)
 | [],_,_,_,h1,h2=>by simp only [FitsL] at h1; subst h1; simpa using h2
 | s :: ss, s2, x1, x2, h1, h2 => by
   simp only [FitsL] at h1
   obtain ⟨y,ys,rfl,h3,h4⟩:=h1
   simp only [List.cons_append,FitsL];exact ⟨y,_,rfl,h3,fitsL_append h4 h2⟩
theorem fitsL_length : ∀ {ss : List Sh} {xs : List RV},FitsL ss xs → xs.length = ss.length
 | [],_,h=>by simp only [FitsL] at h; subst h; rfl
 | s :: ss, _, h => by
   simp only [FitsL] at h
   obtain ⟨y,ys,rfl,_,h⟩:=h
   simp [fitsL_length h]
theorem fitsE_of : ∀ {ss : List Sh} {es : List (List RV)},(∀ e ∈ es,FitsL ss e) → FitsE ss es
 | _,[],_=>by simp only [FitsE]
 | ss,e :: es,h=>by simp only [FitsE]; exact ⟨h e (by simp),fitsE_of fun x hx=>h x (by simp [hx])⟩
theorem choice {α : Type} {Q : Nat → α → Prop} : ∀ (n : Nat),(∀ i,i < n → ∃ x,Q i x) → ∃ xs : List α,xs.length = n ∧ ∀ i x,xs[i]? = some x → Q i x
 | 0,_=>⟨[],rfl,by simp⟩
 | n + 1, h => by
   obtain ⟨xs,hl,hx⟩:=choice n fun i hi=>h i (by omega)
   obtain ⟨y,hy⟩:=h n (by omega)
   refine ⟨xs ++ [y],by simp [hl],fun i x hi=>?_⟩
   by_cases h1 : i < n
   · rw [List.getElem?_append_left (by omega)] at hi; exact hx i x hi
   · rw [List.getElem?_append_right (by omega)] at hi
     have : i = n:=by have:=(List.getElem?_eq_some_iff.1 hi).1; simp at this; omega
     subst this
     simp [hl] at hi
     exact hi ▸ hy
section
variable {w : World} {P : Program}
theorem cells?_get {base n : Nat} {a : Addr} {cs : List Value} (h : w.cells? base a n = some cs) : cs.length = n ∧ ∀ i,i < n → w.cell? (a.add i) = cs[i]?:=by
 unfold World.cells? at h
 split at h
 · exact ⟨by simpa using mapM_some_length h,fun i hi=>mapM_some_get h i i (by simp [hi])⟩
 · cases h
theorem cell_lt {a : Addr} {v : Value} (h : w.cell? a = some v) : a.block < w.heap.size:=by
 refine Decidable.byContradiction fun hn=>?_
 have : w.heap[a.block]? = none:=by simp; omega
 simp [World.cell?,this] at h
def old (w : World) : Nat → Prop:=fun b=>b < w.heap.size
theorem relC_of_cells {xs : List RV} {cs : List Value} {ad : Addr} (hV : RV.relV w (old w) xs cs) (hone : ∀ u ∈ cs,u.oneCell' = true) (hc : ∀ i,i < cs.length → w.cell? (ad.add i) = cs[i]?) : RV.relC w (old w) xs ad 0:=by
 refine RV.relC_of_get fun i x hx=>?_
 obtain ⟨u,hu,hr⟩:=RV.relV_get hV hx
 have hi:=(List.getElem?_eq_some_iff.1 hu).1
 refine ⟨u,?_,hone u (List.mem_of_getElem? hu),hr⟩
 rw [Nat.zero_add,hc i hi,hu]
variable {H : Type} {enc : TypeId × Value → H} {base : Nat} {spare : Nat → Bool} {held : Bool}
def Good3 (w : World) (ss : List Sh) (cs : List Value) : Prop:=∃ xs,FitsL ss xs ∧ RV.relV w (old w) xs cs ∧ ∀ u ∈ cs,u.oneCell' = true
theorem good3_append {s1 s2 : List Sh} {c1 c2 : List Value} (h1 : Good3 w s1 c1) (h2 : Good3 w s2 c2) : Good3 w (s1 ++ s2) (c1 ++ c2):=by
 obtain ⟨x1,f1,r1,o1⟩:=h1
 obtain ⟨x2,f2,r2,o2⟩:=h2
 refine ⟨x1 ++ x2,fitsL_append f1 f2,RV.relV_append r1 r2,fun u hu=>?_⟩
 rcases List.mem_append.1 hu with hu | hu
 · exact o1 u hu
 · exact o2 u hu
theorem trod_fits : ∀ (fuel n : Nat) (t : TypeId) (cs : List Value) (x : DataW H × List MemPlace) (ss : List Sh),DataW.trod enc P w base spare held fuel t cs = some x → shape P n t = some ss → Good3 w ss cs:=by
 intro fuel
 induction fuel with
 | zero=>intro n t cs x ss h; simp [DataW.trod] at h
 | succ fuel ih =>
   intro n t cs x ss h hs
   cases n with
   | zero=>simp [shape] at hs
   | succ n =>
     unfold shape at hs
     split at hs
     · rename_i k ht
       injection hs with hs; subst hs
       obtain ⟨m,rfl,_,hw⟩:=DataW.trod_int ht h
       exact ⟨[.it k m],by simp only [FitsL,Fits]; exact ⟨_,[],rfl,⟨m,rfl,hw⟩,rfl⟩,by simp only [RV.relV,RV.rel]; exact ⟨_,[],rfl,rfl,rfl⟩,by simp [Value.oneCell']⟩
     · rename_i ht
       injection hs with hs; subst hs
       obtain ⟨b,rfl,_⟩:=DataW.trod_bool ht h
       exact ⟨[.bo b],by simp only [FitsL,Fits]; exact ⟨_,[],rfl,⟨b,rfl⟩,rfl⟩,by simp only [RV.relV,RV.rel]; exact ⟨_,[],rfl,rfl,rfl⟩,by simp [Value.oneCell']⟩
     · rename_i e ht
       split at hs
       · rename_i es hes
         split at hs
         · rename_i hc
           simp only [Bool.and_eq_true,beq_iff_eq,decide_eq_true_eq] at hc
           injection hs with hs; subst hs
           rcases DataW.trod_slice ht h with ⟨rfl,_⟩ | ⟨a,len,cap,elems,rest,m,hm,rfl,_,_,hlc,hcm,hel,hget,_⟩
           · refine ⟨[.sl es.length []],?_,?_,by simp [Value.oneCell']⟩
             · simp only [FitsL,Fits];exact ⟨_,[],rfl,⟨[],rfl,by simp only [FitsE]⟩,rfl⟩
             · simp only [RV.relV,RV.rel];exact ⟨_,[],rfl,⟨none,0,rfl,Nat.le_refl _,Nat.zero_le _,fun h=>absurd rfl h⟩,rfl⟩
           · injection hm with hm; subst hm
             have hall : ∀ i,i < len → ∃ e',FitsL es e' ∧ e'.length = es.length ∧ RV.relC w (old w) e' (a.add (i * es.length)) 0 ∧ a.block < w.heap.size:=fun i hi=>by
              have h1:=hget i hi
              have h2 : i < elems.length:=by omega
              rw [List.getElem?_eq_getElem h2] at h1
              obtain ⟨ci,hci,htr⟩:=Option.bind_eq_some_iff.1 h1
              rw [← hc.1] at hci
              obtain ⟨hl,hcell⟩:=cells?_get hci
              obtain ⟨xs,f,r,o⟩:=ih n e ci _ es htr hes
              refine ⟨xs,f,fitsL_length f,relC_of_cells r o (fun j hj=>hcell j (by omega)),?_⟩
              have h3:=hcell 0 hc.2
              have h4 : 0 < ci.length:=by omega
              rw [List.getElem?_eq_getElem h4] at h3
              have:=cell_lt h3
              rwa [block_add,block_add] at this
             obtain ⟨els,hlen,hels⟩:=choice len hall
             refine ⟨[.sl es.length els],?_,?_,by simp [Value.oneCell']⟩
             · simp only [FitsL,Fits]
               refine ⟨_,[],rfl,⟨els,rfl,fitsE_of fun e' he'=>?_⟩,rfl⟩
               obtain ⟨i,hi⟩:=List.getElem?_of_mem he'
               exact (hels i e' hi).1
             · simp only [RV.relV,RV.rel]
               refine ⟨_,[],rfl,⟨some a,cap,by rw [hlen],by omega,hcm,fun hne=>?_⟩,rfl⟩
               obtain ⟨e0,he0⟩ : ∃ e0,els[0]? = some e0:=by
                cases els with
                | nil=>exact absurd rfl hne
                | cons a l=>exact ⟨a,rfl⟩
               refine ⟨a,rfl,(hels 0 e0 he0).2.2.2,RV.relE_of_get fun i e' he'=>?_⟩
               obtain ⟨_,q1,q2,_⟩:=hels i e' he'
               exact ⟨q1,RV.relC_unbase _ q2⟩
         · cases hs
       · cases hs
     · rename_i m e ht
       split at hs
       · rename_i es hes
         split at hs
         · rename_i hc
           simp only [Bool.and_eq_true,beq_iff_eq] at hc
           injection hs with hs; subst hs
           obtain ⟨xs,fm,hm,_,hcl,hxl,hget⟩:=DataW.trod_array ht h
           injection hm with hm; subst hm
           have key : ∀ j,j ≤ m → Good3 w (List.replicate j es).flatten (cs.take (j * es.length)):=by
            intro j
            induction j with
            | zero=>intro _; exact ⟨[],by simp [FitsL],by simp [RV.relV],by simp⟩
            | succ j ihj =>
              intro hj
              have h1:=hget j (by omega)
              have h2 : j < xs.length:=by omega
              rw [List.getElem?_eq_getElem h2,← hc.1] at h1
              have h3:=ih n e _ _ es h1 hes
              have:=good3_append (ihj (by omega)) h3
              rw [← List.take_add] at this
              rw [List.replicate_succ',List.flatten_append,Nat.add_mul]
              simpa using this
           have:=key m (Nat.le_refl _)
           rwa [← hc.2,← hcl,List.take_length] at this
         · cases hs
       · cases hs
     · rename_i fs ht
       split at hs
       · rename_i q hq
         split at hs
         · rename_i hc
           simp only [beq_iff_eq] at hc
           injection hs with hs; subst hs
           obtain ⟨xs,fm,hm,_,hcl,hxl,hget⟩:=DataW.trod_struct ht h
           injection hm with hm; subst hm
           have key : ∀ (l : List Field) (o : Nat) (q : List Sh),(∀ f ∈ l,∃ y,DataW.trod enc P w base spare held fuel f.type ((cs.drop f.offset).take (P.cellsOf f.type)) = some y) → fieldsSh P (shape P n) l o = some q → Good3 w q ((cs.drop o).take q.length):=by
            intro l
            induction l with
            | nil =>
              intro o q _ hq
              simp only [fieldsSh,Option.some.injEq] at hq
              subst hq
              exact ⟨[],by simp [FitsL],by simp [RV.relV],by simp⟩
            | cons f l ihl =>
              intro o q hall hq
              simp only [fieldsSh] at hq
              split at hq
              · rename_i s1 hs1
                split at hq
                · rename_i hc1
                  simp only [Bool.and_eq_true,beq_iff_eq] at hc1
                  split at hq
                  · rename_i q2 hq2
                    injection hq with hq; subst hq
                    obtain ⟨y,hy⟩:=hall f (by simp)
                    have g1:=ih n f.type _ _ s1 hy hs1
                    have g2:=ihl (o + s1.length) q2 (fun f' hf'=>hall f' (by simp [hf'])) hq2
                    rw [hc1.1,← hc1.2] at g1
                    have:=good3_append g1 g2
                    rw [← List.drop_drop,← List.take_add] at this
                    simpa using this
                  · cases hq
                · cases hq
              · cases hq
           have:=key fs.toList 0 q (fun f hf=>by
            obtain ⟨i,hi⟩:=List.getElem?_of_mem hf
            have hi' : fs[i]? = some f:=by simpa using hi
            have h1:=hget i f hi'
            have h2 : i < xs.length:=by have:=(Array.getElem?_eq_some_iff.1 hi').1; omega
            exact ⟨xs[i],by rw [h1]; exact List.getElem?_eq_getElem h2⟩) hq
           rwa [List.drop_zero,hc,← hcl,List.take_length] at this
         · cases hs
       · cases hs
     · cases hs
def FitsT (P : Program) (n : Nat) (t : TypeId) (x : RV) : Prop:=∃ ss,shape P n t = some ss ∧ if aggOf P t then ∃ xs,x = .ag xs ∧ FitsL ss xs else FitsL ss [x]
theorem arg_fits {n : Nat} {t : TypeId} {v : Value} {d : DataW H} {ps : List MemPlace} {r : Reach} {b0 : Nat} (hs : (shape P n t).isSome = true) (hval : Value.okWide P w r b0 t v) (h : DataW.Trod enc P w base spare held t v d ps) :
 ∃ x,FitsT P n t x ∧ x.rel w (old w) v:=by
 obtain ⟨ss,hss⟩:=Option.isSome_iff_exists.1 hs
 obtain ⟨fuel,hf⟩:=h
 obtain ⟨xs,f,r,o⟩:=trod_fits fuel n t _ _ ss hf hss
 have one : aggOf P t = false → v.cells.toList = [v] → ∃ x,FitsT P n t x ∧ x.rel w (old w) v:=fun ha hc=>by
  rw [hc] at r
  match xs,r with
  | [x], r =>
    simp only [RV.relV] at r
    obtain ⟨u,us,e,hr,_⟩:=r
    injection e with e1 e2
    subst e1
    exact ⟨x,⟨ss,hss,by rw [ha]; exact f⟩,hr⟩
  | [],r=>simp [RV.relV] at r
  | _ :: _ :: _, r =>
    simp only [RV.relV] at r
    obtain ⟨u,us,e,_,u2,us2,e2,_⟩:=r
    injection e with _ e
    rw [e2] at e; cases e
 cases n with
 | zero=>simp [shape] at hss
 | succ n =>
   have hss':=hss
   unfold shape at hss'
   split at hss'
   · rename_i k ht
     obtain ⟨m,rfl⟩:=okWide_int ht hval
     exact one (by simp [aggOf,ht]) rfl
   · rename_i ht
     obtain ⟨b,rfl⟩:=okWide_bool ht hval
     exact one (by simp [aggOf,ht]) rfl
   · rename_i e ht
     obtain ⟨a,l,c,rfl⟩:=okWide_slice ht hval
     exact one (by simp [aggOf,ht]) rfl
   · rename_i m e ht
     obtain ⟨cs,rfl⟩ : ∃ cs,v = .agg cs:=by
      simp only [Value.okWide,ht] at hval
      obtain ⟨cs,h1,_⟩:=hval
      exact ⟨cs,h1⟩
     exact ⟨.ag xs,⟨ss,hss,by simp only [aggOf,ht,if_true]; exact ⟨xs,rfl,f⟩⟩,by simp only [RV.rel]; exact ⟨cs,rfl,o,r⟩⟩
   · rename_i fs ht
     obtain ⟨cs,rfl,_⟩:=okWide_struct ht hval
     exact ⟨.ag xs,⟨ss,hss,by simp only [aggOf,ht,if_true]; exact ⟨xs,rfl,f⟩⟩,by simp only [RV.rel]; exact ⟨cs,rfl,o,r⟩⟩
   · cases hss'
theorem fitsT_one {n : Nat} {t : TypeId} {x : RV} {s : Sh} (h : FitsT P n t x) (hs : shape P n t = some [s]) (ha : aggOf P t = false) : Fits s x:=by
 obtain ⟨s',h1,h2⟩:=h
 rw [hs] at h1; injection h1 with h1; subst h1
 rw [ha] at h2
 simp only [Bool.false_eq_true,if_false,FitsL] at h2
 obtain ⟨y,ys,e,h3,_⟩:=h2
 injection e with e1 e2
 subst e1
 exact h3
end
end Go.Oc

/- Part 10 of the texts of this claim. -/
import Derived.Test.YtobokbhpeaakjaaVE9
import Derived.Test.YtobokbhpeaakjaaVE5
import Derived.ChangeShapes
import Derived.WideShapes
import Derived.OpenShut
import Derived.ShutString
import Derived.ChangeOld
import Derived.Carry
import Derived.Below
namespace Go.Proofs.Ytobokbhpeaakjaa
open Go Go.Oc
set_option linter.unusedSimpArgs false
set_option linter.unusedVariables false
set_option maxRecDepth 8000
set_option maxHeartbeats 4000000
structure Sm where
 teams : Nat
 legs : Nat
 win : Nat
 draw : Nat
 up : Nat
 down : Nat
 ded : List Nat
 ms : List (Nat × Nat × Nat)
 left : Nat
abbrev m3R (v : Nat × Nat × Nat) : List RV:=[u8 v.1,u8 v.2.1,u8 v.2.2]
abbrev smC (x : Sm) : List RV:=[u8 x.teams,u8 x.legs,u8 x.win,u8 x.draw,u8 x.up,u8 x.down,bytesR x.ded,.sl 3 (x.ms.map m3R),u8 x.left]
abbrev smV (x : Sm) : RV:=.ag (smC x)
structure WfS (x : Sm) : Prop where
 teams : x.teams < 256
 legs : x.legs < 256
 win : x.win < 256
 draw : x.draw < 256
 up : x.up < 256
 down : x.down < 256
 ded : ∀ n ∈ x.ded,n < 256
 ms : ∀ v ∈ x.ms,v.1 < 256 ∧ v.2.1 < 256 ∧ v.2.2 < 256
 left : x.left < 256
def sT (x : Sm) : Nat:=2 + x.teams % 7
def sL (x : Sm) : Nat:=1 + x.legs % 12
def sW (x : Sm) : Nat:=x.win % 10
def sD (x : Sm) : Nat:=x.draw % (sW x + 1)
def sU (x : Sm) : Nat:=x.up % (sT x + 1)
def sN (x : Sm) : Nat:=x.down % (sT x - sU x + 1)
def sDed (x : Sm) (i : Nat) : List Int:=(List.range i).map fun k=>((x.ded.getD (k % x.ded.length) 0 % 20 : Nat) : Int)
def divR (x : Sm) : Tr:=⟨sT x,sL x,sW x,sD x,if x.ded = [] then [] else sDed x (sT x),sU x,sN x⟩
def playedB (x : Sm) (i : Nat) : Bool:=decide ((i : Int) < (x.ms.length : Int) - ((x.left % 6 : Nat) : Int)) && decide ((i : Int) < 30 - ((x.left % 6 : Nat) : Int))
def mkM (x : Sm) (i : Nat) (v : Nat × Nat × Nat) : Mt :=
 ⟨((v.1 % sT x : Nat) : Int),(((v.1 % sT x + 1 + v.2.1 % (sT x - 1)) % sT x : Nat) : Int),playedB x i,if playedB x i then ((v.2.2 % (sL x + 1) : Nat) : Int) else 0,if playedB x i then (sL x : Int) - ((v.2.2 % (sL x + 1) : Nat) : Int) else 0⟩
def divK (x : Sm) (i : Nat) : List Mt:=(List.range i).map fun k=>mkM x k (x.ms.getD k (0,0,0))
def divN (x : Sm) : Nat:=min x.ms.length 30
def divL (x : Sm) : List Mt:=divK x (divN x)
theorem sT_le (x : Sm) : 2 ≤ sT x ∧ sT x ≤ 8:=by unfold sT; omega
theorem sL_le (x : Sm) : 1 ≤ sL x ∧ sL x ≤ 12:=by unfold sL; omega
theorem sW_le (x : Sm) : sW x ≤ 9:=by unfold sW; omega
theorem sD_le (x : Sm) : sD x ≤ sW x:=by unfold sD; have:=Nat.mod_lt x.draw (show sW x + 1 > 0 by omega); omega
theorem sU_le (x : Sm) : sU x ≤ sT x:=by unfold sU; have:=Nat.mod_lt x.up (show sT x + 1 > 0 by omega); omega
theorem sN_le (x : Sm) : sN x ≤ sT x - sU x:=by unfold sN; have:=Nat.mod_lt x.down (show sT x - sU x + 1 > 0 by omega); omega
theorem divR_ok (x : Sm) : RulesI (divR x):=by
 have h1:=sT_le x
 have h2:=sL_le x
 have h3:=sW_le x
 have h4:=sD_le x
 have h5:=sU_le x
 have h6:=sN_le x
 refine ⟨?_,?_,?_,?_,?_,?_,?_⟩ <;> simp only [divR] <;> (try omega)
 by_cases h : x.ded = []
 · exact .inl (by rw [if_pos h])
 · refine .inr ?_
   rw [if_neg h]
   refine ⟨by simp [sDed],fun y hy=>?_⟩
   obtain ⟨k,_,rfl⟩:=List.mem_map.1 hy
   omega
theorem mkM_ok (x : Sm) (i : Nat) (v : Nat × Nat × Nat) : MatchI (divR x) (mkM x i v):=by
 have h1:=sT_le x
 have h2:=sL_le x
 have ha:=Nat.mod_lt v.1 (show sT x > 0 by omega)
 have hb:=Nat.mod_lt v.2.1 (show sT x - 1 > 0 by omega)
 have hc:=Nat.mod_lt (v.1 % sT x + 1 + v.2.1 % (sT x - 1)) (show sT x > 0 by omega)
 have hd:=Nat.mod_lt v.2.2 (show sL x + 1 > 0 by omega)
 have hne : v.1 % sT x ≠ (v.1 % sT x + 1 + v.2.1 % (sT x - 1)) % sT x:=by
  generalize v.1 % sT x = p at *
  generalize v.2.1 % (sT x - 1) = q at *
  by_cases h : p + 1 + q < sT x
  · rw [Nat.mod_eq_of_lt h]; omega
  · rw [Nat.mod_eq_sub_mod (by omega),Nat.mod_eq_of_lt (by omega)]; omega
 generalize hpb : playedB x i = pb
 refine ⟨?_,?_,?_,?_,?_⟩ <;> simp only [mkM,divR,legsOf,hpb] <;> generalize v.1 % sT x = p1 at * <;> generalize (p1 + 1 + v.2.1 % (sT x - 1)) % sT x = p2 at * <;> generalize v.2.2 % (sL x + 1) = p3 at *
 · omega
 · omega
 · omega
 · cases pb <;> simp only [Bool.false_eq_true,if_true,if_false] <;> omega
 · cases pb <;> simp only [Bool.false_eq_true,if_true,if_false] <;> omega
theorem divL_ok (x : Sm) : ∀ m ∈ divL x,MatchI (divR x) m:=fun m hm=>by
 obtain ⟨k,_,rfl⟩:=List.mem_map.1 hm
 exact mkM_ok x k _
theorem divL_len (x : Sm) : (divL x).length ≤ 30:=by unfold divL divK divN; rw [List.length_map,List.length_range]; omega
theorem divK_succ {x : Sm} {i : Nat} {v : Nat × Nat × Nat} (h : x.ms[i]? = some v) : divK x (i + 1) = divK x i ++ [mkM x i v]:=by
 unfold divK
 rw [List.range_succ,List.map_append,List.map_cons,List.map_nil,List.getD_eq_getElem?_getD,h]; rfl
def dedAt (x : Sm) (i : Nat) : Int:=((x.ded.getD (i % x.ded.length) 0 % 20 : Nat) : Int)
theorem sDed_succ (x : Sm) (i : Nat) : sDed x (i + 1) = sDed x i ++ [dedAt x i]:=by simp [sDed,dedAt,List.range_succ]
theorem division_ok (x : Sm) (hw : WfS x) : ACalls Try.prog 36 [smV x] (.tu [trV (divR x),mtsR (divL x)]):=by
 obtain ⟨w1,w2,w3,w4,w5,w6,w7,w8,w9⟩:=hw
 have b1:=sT_le x
 have b2:=sL_le x
 have b3:=sW_le x
 have b4:=sD_le x
 have b5:=sU_le x
 have b6:=sN_le x
 have q1 : Int.tmod (x.teams : Int) 7 = ((x.teams % 7 : Nat) : Int):=rfl
 have q2 : Int.tmod (x.legs : Int) 12 = ((x.legs % 12 : Nat) : Int):=rfl
 have q3 : Int.tmod (x.win : Int) 10 = (sW x : Int):=rfl
 have e1 : 2 + ((x.teams % 7 : Nat) : Int) = (sT x : Int):=by unfold sT; omega
 have e2 : 1 + ((x.legs % 12 : Nat) : Int) = (sL x : Int):=by unfold sL; omega
 have hc1 : IntKind.i64.wrap (x.teams : Int) = x.teams:=by rw [zI] <;> omega
 have hc2 : IntKind.i64.wrap (x.legs : Int) = x.legs:=by rw [zI] <;> omega
 have hc3 : IntKind.i64.wrap (x.win : Int) = x.win:=by rw [zI] <;> omega
 have hc4 : IntKind.i64.wrap (x.draw : Int) = x.draw:=by rw [zI] <;> omega
 have hc5 : IntKind.i64.wrap (x.up : Int) = x.up:=by rw [zI] <;> omega
 have hc6 : IntKind.i64.wrap (x.down : Int) = x.down:=by rw [zI] <;> omega
 have hc9 : IntKind.i64.wrap (x.left : Int) = x.left:=by rw [zI] <;> omega
 have hs2 : IntKind.i64.wrap ((sW x : Int) + 1) = (sW x : Int) + 1:=by rw [zI] <;> omega
 have q4 : Int.tmod (x.draw : Int) ((sW x : Int) + 1) = (sD x : Int):=by rw [show (sW x : Int) + 1 = ((sW x + 1 : Nat) : Int) by omega]; rfl
 have hs3 : IntKind.i64.wrap ((sT x : Int) + 1) = (sT x : Int) + 1:=by rw [zI] <;> omega
 have q5 : Int.tmod (x.up : Int) ((sT x : Int) + 1) = (sU x : Int):=by rw [show (sT x : Int) + 1 = ((sT x + 1 : Nat) : Int) by omega]; rfl
 have hs4 : IntKind.i64.wrap ((sT x : Int) - sU x) = (sT x : Int) - sU x:=by rw [zI] <;> omega
 have hs5 : IntKind.i64.wrap ((sT x : Int) - sU x + 1) = (sT x : Int) - sU x + 1:=by rw [zI] <;> omega
 have q6 : Int.tmod (x.down : Int) ((sT x : Int) - sU x + 1) = (sN x : Int):=by rw [show (sT x : Int) - sU x + 1 = ((sT x - sU x + 1 : Nat) : Int) by omega]; rfl
 have q9 : Int.tmod (x.left : Int) 6 = ((x.left % 6 : Nat) : Int):=rfl
 have hwa : IntKind.i64.wrap (2 + ((x.teams % 7 : Nat) : Int)) = (sT x : Int):=by rw [zI] <;> omega
 have hwb : IntKind.i64.wrap (1 + ((x.legs % 12 : Nat) : Int)) = (sL x : Int):=by rw [zI] <;> omega
 refine acalls_st (rs:=[trV (divR x),mtsR (divL x)]) [.cell 2 35,.tmp 3] Try.func36 rfl (by kernel_rfl) Try.ntmps36 rfl (by simp) rfl fun C vs=>?_
 refine zq ?_
 refine zb fun K hK=>?_;simp only [go_sem];refine hK _ ?_;clear hK K;refine zw (sub_frzP 1 1 (smC x) (by omega) rfl rfl) ?_;refine zw (zk [1,2]) ?_;simp only [go_sem]
 refine zq ?_
 refine zb fun K hK=>?_;simp only [go_sem,hc1,hc2,hc3,q1,q2,q3,hwa,hwb];refine hK _ ?_;clear hK K;refine zw (zk [1,2,4]) ?_;simp only [go_sem]
 refine zq ?_
 refine zb fun K hK=>?_;simp only [go_sem,hc4,hs2,q4]
 refine ⟨by omega,?_⟩
 refine hK _ ?_;clear hK K;refine zw (zk [1,2,4]) ?_;simp only [go_sem]
 refine zq ?_
 refine zb fun K hK=>?_;simp only [go_sem,hc5,hs3,q5]
 refine ⟨by omega,?_⟩
 refine hK _ ?_;clear hK K;refine zw (zk [1,2,4]) ?_;simp only [go_sem]
 refine zq ?_
 refine zb fun K hK=>?_;simp only [go_sem,hc6,hs4,hs5,q6]
 refine ⟨by omega,?_⟩
 refine hK _ ?_;clear hK K;refine zw (zk [1,2,4]) ?_;simp only [go_sem]
 have hdr : (divR x).ded = if x.ded = [] then [] else sDed x (sT x):=rfl
 repeat refine zq ?_
 refine zb fun K hK=>?_;simp only [go_sem]
 intro _
 refine hK _ ?_;clear hK K;refine zw (zk [1,2,4,56]) ?_;simp only [go_sem]
 refine awp_joinV (n:=156) (fun (_ : Unit) vs=>[(1,.r (.rp (smC x))),(2,.pt 2 (vs 2) 0),(4,.pt 4 (vs 4) 0)])
  (fun _ vs=>[(2,.box [.r (i64 0),.r (i64 0),.r (i64 0),.r (i64 0),.r .ns,.r (i64 0),.r (i64 0)]),(4,.box [.r (i64 (sT x : Int)),.r (i64 (sL x : Int)),.r (i64 (sW x : Int)),.r (i64 (sD x : Int)),.r (if x.ded = [] then .ns else ints (sDed x (sT x))),.r (i64 (sU x : Int)),.r (i64 (sN x : Int))])]) (fun _=>True) (fun _ h=>h) ?_ ?_
 · by_cases hd0 : x.ded = []
   · rw [if_pos hd0]
     have hlz : x.ded.length = 0:=by rw [hd0]; rfl
     refine zc rfl (fun hc=>?_) (fun hc=>?_) <;> (try simp only [go_sem] at hc)
     · exfalso; simp [hd0] at hc
     · refine zx ?_
       try simp only [go_sem]
       refine ⟨(),zj [] ?_ ?_⟩
       · try simp only [go_sem]
       · try simp only [go_sem]
         try rfl
   · rw [if_neg hd0]
     have hdl : 0 < x.ded.length:=List.length_pos_iff.2 hd0
     refine zc rfl (fun hc=>?_) (fun hc=>?_) <;> (try simp only [go_sem] at hc)
     · refine zw (sub_ownB 4 4 77 3 1 (by omega) (by omega) rfl rfl) ?_;refine zw (zk [1,2,4]) ?_;simp only [go_sem]
       refine zq ?_
       refine zb fun K hK=>?_;simp only [go_sem];refine hK _ ?_;clear hK K;refine zw (zk [1,2,4,5]) ?_;simp only [go_sem];refine zd ?_
       refine awp_uptoV (n:=156) (sT x) (fun i vs=>[(1,.r (.rp (smC x))),(2,.pt 2 (vs 2) 0),(4,.pt 4 (vs 4) 0),(5,.r (i64 (i : Int)))])
        (fun i vs=>[(2,.box [.r (i64 0),.r (i64 0),.r (i64 0),.r (i64 0),.r .ns,.r (i64 0),.r (i64 0)]),(4,.box [.r (i64 (sT x : Int)),.r (i64 (sL x : Int)),.r (i64 (sW x : Int)),.r (i64 (sD x : Int)),.os 77 (vs 77) 1 0 i,.r (i64 (sU x : Int)),.r (i64 (sN x : Int))]),(77,.arr 3 1 ((sDed x i).map fun y=>[i64 y]))]) (fun _=>True) 0 (zj [] ?_ ?_) (Nat.zero_le _) trivial ?_
       · try simp only [go_sem]
         try rfl
       · try simp only [go_sem]
         try rfl
       · intro i vs hi _
         repeat refine zq ?_
         refine zb fun K hK=>?_;simp only [go_sem];refine hK _ ?_;clear hK K;refine zw (zk [1,2,4,5,60]) ?_;simp only [go_sem]
         refine zc rfl (fun hc=>?_) (fun hc=>?_) <;> (try simp only [go_sem] at hc)
         · have hil : i < sT x:=by omega
           have hkb : i % x.ded.length < x.ded.length:=Nat.mod_lt _ hdl
           obtain ⟨b,hbg⟩:=opt_of_lt hkb
           have hb256:=w7 b (mem_of_opt hbg)
           have hda : dedAt x i = ((b % 20 : Nat) : Int):=by unfold dedAt; rw [List.getD_eq_getElem?_getD,hbg]; rfl
           have hsu:=sDed_succ x i
           rw [hda] at hsu
           have hq : Int.tmod (i : Int) (x.ded.length : Int) = ((i % x.ded.length : Nat) : Int):=rfl
           have hqb : Int.tmod (b : Int) 20 = ((b % 20 : Nat) : Int):=rfl
           have hwb2 : IntKind.i64.wrap (b : Int) = b:=by rw [zI] <;> omega
           have hnz : ¬ x.ded.length = 0:=by omega
           have hlr : (sDed x i).length = i:=by simp [sDed]
           generalize sDed x i = D at *
           generalize sDed x (i + 1) = D' at *
           generalize i % x.ded.length = kb at *
           refine zx ?_
           try simp only [go_sem]
           refine zq ?_
           refine zd ?_
           refine awp_dreg3 [(4,some 4),(1,none),(5,none)] [4] follows (by decide +kernel) (by kernel_rfl) (by simp only [keysOk,List.mem_cons,List.not_mem_nil,forall_eq_or_imp,Oc.keyOf,go_sem]; simp) (by intro k hk; simp only [List.mem_cons,List.not_mem_nil,or_false] at hk; first | (subst hk; exact ⟨_,rfl⟩) | (rcases hk with rfl | rfl <;> exact ⟨_,rfl⟩) | (rcases hk with rfl | rfl | rfl <;> exact ⟨_,rfl⟩)) fun K hK=>?_
           simp only [go_sem,hq,hbg,hkb,hwb2,hqb,hnz,hlr,List.length_map];repeat first | intro _ | refine ⟨by omega,?_⟩
           refine hK _ ?_;clear hK K;refine zw (zk [1,2,4,5]) ?_;simp only [go_sem];refine zb fun K hK=>?_;simp only [go_sem];(try simp (disch:=omega) only [zI]);refine hK _ ?_;clear hK K
           try simp only [go_sem]
           refine ⟨by omega,zj [] ?_ ?_⟩
           · try simp only [go_sem]
           · try simp only [go_sem]
             rw [hsu,List.map_append]
             rfl
         · have hil : i = sT x:=by omega
           subst hil
           have hlr : (sDed x (sT x)).length = sT x:=by simp [sDed]
           refine zf ?_;simp only [go_sem]
           refine ⟨(),fitV_sub (sub_frzB 4 4 77 (ty:=3) (sz:=1) (off:=0) (m:=sT x) (es:=(sDed x (sT x)).map fun y=>[i64 y]) (by omega) (by omega) rfl rfl rfl (by simp [hlr])) (zj [] ?_ ?_)⟩
           · try simp only [go_sem]
           · try simp only [go_sem]
             rw [List.take_of_length_le (by simp [hlr])]
     · exact absurd hdl (by first | omega | (simp at hc; omega))
 intro _ vs _
 refine zq ?_
 have hcd : [.r (i64 (sT x : Int)),.r (i64 (sL x : Int)),.r (i64 (sW x : Int)),.r (i64 (sD x : Int)),.r (if x.ded = [] then .ns else ints (sDed x (sT x))),.r (i64 (sU x : Int)),.r (i64 (sN x : Int))] = ([i64 (sT x : Int),i64 (sL x : Int),i64 (sW x : Int),i64 (sD x : Int),(if x.ded = [] then .ns else ints (sDed x (sT x))),i64 (sU x : Int),i64 (sN x : Int)]).map AV.r:=rfl
 rw [hcd]
 refine zw (sub_frzP 4 4 [i64 (sT x : Int),i64 (sL x : Int),i64 (sW x : Int),i64 (sD x : Int),(if x.ded = [] then .ns else ints (sDed x (sT x))),i64 (sU x : Int),i64 (sN x : Int)] (by omega) rfl rfl) ?_;refine zw (zk [1,2,4]) ?_;simp only [go_sem]
 have hRR : RV.le (.ag [i64 (sT x : Int),i64 (sL x : Int),i64 (sW x : Int),i64 (sD x : Int),(if x.ded = [] then .ns else ints (sDed x (sT x))),i64 (sU x : Int),i64 (sN x : Int)]) (trV (divR x)):=by
  by_cases hd0 : x.ded = []
  · rw [if_pos hd0]
    simp only [trV,trC,hdr,if_pos hd0,divR,RV.le,RV.leL,ints,List.map_nil,and_true,true_and,or_true]
  · rw [if_neg hd0]
    simp only [trV,trC,hdr,if_neg hd0,divR];exact leL_refl.le_refl _
 generalize (if x.ded = [] then RV.ns else ints (sDed x (sT x))) = DD at *
 refine zg follows (by decide +kernel) (by kernel_rfl) fun K hK=>?_;simp only [go_sem,hc9,q9];refine hK _ ?_;clear hK K;refine zw (sub_own 6 153 70 5 (by omega) rfl) ?_;refine zw (zk [1,2,4,6,7]) ?_;simp only [go_sem]
 repeat refine zq ?_
 refine zb fun K hK=>?_;simp only [go_sem];refine hK _ ?_;clear hK K;refine zw (zk [1,2,4,6,7,8]) ?_;simp only [go_sem];refine zd ?_
 refine awp_uptoV (n:=156) (divN x) (fun i vs=>[(1,.r (.rp (smC x))),(2,.pt 2 (vs 2) 0),(4,.r (.rp [i64 (sT x : Int),i64 (sL x : Int),i64 (sW x : Int),i64 (sD x : Int),DD,i64 (sU x : Int),i64 (sN x : Int)])),(6,.os 153 (vs 153) 5 0 i),(7,.r (i64 ((x.left % 6 : Nat) : Int))),(8,.r (i64 (i : Int)))])
  (fun i vs=>[(2,.box [.r (i64 0),.r (i64 0),.r (i64 0),.r (i64 0),.r .ns,.r (i64 0),.r (i64 0)]),(153,.arr 70 5 ((divK x i).map mtR))]) (fun _=>True) 0 (zj [] ?_ ?_) (Nat.zero_le _) trivial ?_
 · try simp only [go_sem]
   try rfl
 · try simp only [go_sem]
   try rfl
 · intro i vs hi _
   have hkl : (divK x i).length = i:=by simp [divK]
   by_cases hin : i < divN x
   · have hi1 : i < x.ms.length:=by unfold divN at hin; omega
     have hi2 : i < 30:=by unfold divN at hin; omega
     have g1 : decide ((i : Int) < 30) = true:=by simp; omega
     obtain ⟨v,hv⟩:=opt_of_lt hi1
     obtain ⟨v1,v2,v3⟩:=w8 v (mem_of_opt hv)
     have hks:=divK_succ hv
     have hmk : mtR (mkM x i v) = [i64 ((v.1 % sT x : Nat) : Int),i64 (((v.1 % sT x + 1 + v.2.1 % (sT x - 1)) % sT x : Nat) : Int),.bo (playedB x i),i64 (if playedB x i then ((v.2.2 % (sL x + 1) : Nat) : Int) else 0),i64 (if playedB x i then (sL x : Int) - ((v.2.2 % (sL x + 1) : Nat) : Int) else 0)]:=rfl
     generalize divK x i = K at *
     generalize divK x (i + 1) = K' at *
     have k1 : IntKind.i64.wrap (v.1 : Int) = v.1:=by rw [zI] <;> omega
     have k2 : Int.tmod (v.1 : Int) (sT x : Int) = ((v.1 % sT x : Nat) : Int):=rfl
     have k3 : IntKind.i64.wrap (v.2.1 : Int) = v.2.1:=by rw [zI] <;> omega
     have k4 : IntKind.i64.wrap ((sT x : Int) - 1) = (sT x : Int) - 1:=by rw [zI] <;> omega
     have k5 : Int.tmod (v.2.1 : Int) ((sT x : Int) - 1) = ((v.2.1 % (sT x - 1) : Nat) : Int):=by rw [show (sT x : Int) - 1 = ((sT x - 1 : Nat) : Int) by omega]; rfl
     have m1:=Nat.mod_lt v.1 (show sT x > 0 by omega)
     have m2:=Nat.mod_lt v.2.1 (show sT x - 1 > 0 by omega)
     generalize v.1 % sT x = p at *
     generalize v.2.1 % (sT x - 1) = q at *
     have k6 : IntKind.i64.wrap ((p : Int) + 1) = (p : Int) + 1:=by rw [zI] <;> omega
     have k7 : IntKind.i64.wrap ((p : Int) + 1 + (q : Int)) = (p : Int) + 1 + (q : Int):=by rw [zI] <;> omega
     have k8 : Int.tmod ((p : Int) + 1 + (q : Int)) (sT x : Int) = (((p + 1 + q) % sT x : Nat) : Int):=by rw [show (p : Int) + 1 + (q : Int) = ((p + 1 + q : Nat) : Int) by omega]; rfl
     have m3:=Nat.mod_lt (p + 1 + q) (show sT x > 0 by omega)
     generalize (p + 1 + q) % sT x = w at *
     have j1 : IntKind.i64.wrap (v.2.2 : Int) = v.2.2:=by rw [zI] <;> omega
     have j2 : IntKind.i64.wrap ((sL x : Int) + 1) = (sL x : Int) + 1:=by rw [zI] <;> omega
     have j3 : Int.tmod (v.2.2 : Int) ((sL x : Int) + 1) = ((v.2.2 % (sL x + 1) : Nat) : Int):=by rw [show (sL x : Int) + 1 = ((sL x + 1 : Nat) : Int) by omega]; rfl
     have m4:=Nat.mod_lt v.2.2 (show sL x + 1 > 0 by omega)
     generalize v.2.2 % (sL x + 1) = u at *
     repeat refine zq ?_
     refine zb fun K hK=>?_;simp only [go_sem,hi1,g1]
     intro _
     refine hK _ ?_;clear hK K;refine zw (zk [1,2,4,6,7,8,92]) ?_;simp only [go_sem]
     refine zc rfl (fun hc=>?_) (fun hc=>?_) <;> (try simp only [go_sem] at hc)
     refine zx ?_
     try simp only [go_sem]
     refine zq ?_
     refine zd ?_
     refine zq ?_
     refine zb fun K hK=>?_;simp only [go_sem,hv,hi1];refine hK _ ?_;clear hK K;refine zw (sub_frzP 9 9 (m3R v) (by omega) rfl rfl) ?_;refine zw (zk [1,2,4,6,7,8,9]) ?_;simp only [go_sem]
     refine zq ?_
     refine zb fun K hK=>?_;simp only [go_sem,k1,k2]
     refine ⟨by omega,?_⟩
     refine hK _ ?_;clear hK K;refine zw (zk [1,2,4,6,7,8,9,10]) ?_;simp only [go_sem]
     refine zq ?_
     refine awp_dreg2 [(10,some 10),(9,none),(4,none)] follows (by decide +kernel) (by kernel_rfl) (by simp only [keysOk,List.mem_cons,List.not_mem_nil,forall_eq_or_imp,Oc.keyOf,go_sem]; simp) fun K hK=>?_
     simp only [go_sem,k3,k4,k5,k6,k7,k8]
     repeat refine ⟨by omega,?_⟩
     refine hK _ ?_;clear hK K;refine zw (zk [1,2,4,6,7,8,9,10]) ?_;simp only [go_sem]
     repeat refine zq ?_
     refine awp_joinV (n:=156) (fun (_ : Unit) vs=>[(1,.r (.rp (smC x))),(2,.pt 2 (vs 2) 0),(4,.r (.rp [i64 (sT x : Int),i64 (sL x : Int),i64 (sW x : Int),i64 (sD x : Int),DD,i64 (sU x : Int),i64 (sN x : Int)])),(6,.os 153 (vs 153) 5 0 i),(7,.r (i64 ((x.left % 6 : Nat) : Int))),(8,.r (i64 (i : Int))),(9,.r (.rp (m3R v))),(10,.pt 10 (vs 10) 0),(134,.r (.bo (playedB x i)))])
      (fun _ vs=>[(2,.box [.r (i64 0),.r (i64 0),.r (i64 0),.r (i64 0),.r .ns,.r (i64 0),.r (i64 0)]),(10,.box [.r (i64 (p : Int)),.r (i64 (w : Int)),.r (.bo false),.r (i64 0),.r (i64 0)]),(153,.arr 70 5 (K.map mtR))]) (fun _=>True) (fun _ h=>h) ?_ ?_
     · have z1 : IntKind.i64.wrap ((x.ms.length : Int) - ((x.left % 6 : Nat) : Int)) = (x.ms.length : Int) - ((x.left % 6 : Nat) : Int):=by rw [zI] <;> omega
       have z2 : IntKind.i64.wrap (30 - ((x.left % 6 : Nat) : Int)) = 30 - ((x.left % 6 : Nat) : Int):=by rw [zI] <;> omega
       by_cases y1 : (i : Int) < (x.ms.length : Int) - ((x.left % 6 : Nat) : Int)
       · have y1b : decide ((i : Int) < (x.ms.length : Int) - ((x.left % 6 : Nat) : Int)) = true:=by simpa using y1
         refine zb fun K hK=>?_;simp only [go_sem,z1,z2,y1b]
         intro _
         refine hK _ ?_;clear hK K
         refine ⟨(),trivial,zj [] ?_ ?_⟩
         · try simp only [go_sem]
           unfold playedB
           rw [y1b]; rfl
         · try simp only [go_sem]
       · have y1b : decide ((i : Int) < (x.ms.length : Int) - ((x.left % 6 : Nat) : Int)) = false:=by simpa using y1
         refine zb fun K hK=>?_;simp only [go_sem,z1,z2,y1b]
         intro _
         refine hK _ ?_;clear hK K
         refine ⟨(),trivial,zj [] ?_ ?_⟩
         · try simp only [go_sem]
           unfold playedB
           rw [y1b]; rfl
         · try simp only [go_sem]
     intro _ vs _
     refine awp_joinV (n:=156) (fun (_ : Unit) vs=>[(1,.r (.rp (smC x))),(2,.pt 2 (vs 2) 0),(4,.r (.rp [i64 (sT x : Int),i64 (sL x : Int),i64 (sW x : Int),i64 (sD x : Int),DD,i64 (sU x : Int),i64 (sN x : Int)])),(6,.os 153 (vs 153) 5 0 i),(7,.r (i64 ((x.left % 6 : Nat) : Int))),(8,.r (i64 (i : Int))),(10,.pt 10 (vs 10) 0)])
      (fun _ vs=>[(2,.box [.r (i64 0),.r (i64 0),.r (i64 0),.r (i64 0),.r .ns,.r (i64 0),.r (i64 0)]),(10,.box [.r (i64 (p : Int)),.r (i64 (w : Int)),.r (.bo (playedB x i)),.r (i64 (if playedB x i then (u : Int) else 0)),.r (i64 (if playedB x i then (sL x : Int) - (u : Int) else 0))]),(153,.arr 70 5 (K.map mtR))]) (fun _=>True) (fun _ h=>h) ?_ ?_
     · cases hpb : playedB x i with
       | true =>
         refine zc rfl (fun hc=>?_) (fun hc=>?_) <;> (try simp only [go_sem] at hc)
         refine zq ?_
         refine awp_dreg2 [(10,some 10),(9,none),(4,none)] follows (by decide +kernel) (by kernel_rfl) (by simp only [keysOk,List.mem_cons,List.not_mem_nil,forall_eq_or_imp,Oc.keyOf,go_sem]; simp) fun K hK=>?_
         simp only [go_sem,j1,j2,j3]
         refine ⟨by omega,?_⟩
         refine hK _ ?_;clear hK K;refine zw (zk [1,2,4,6,7,8,10]) ?_;simp only [go_sem];refine zb fun K hK=>?_;simp only [go_sem];(try simp (disch:=omega) only [zI]);refine hK _ ?_;clear hK K
         refine ⟨(),zj [] ?_ ?_⟩
         · try simp only [go_sem]
         · try simp only [go_sem]
           try simp
       | false =>
         refine zc rfl (fun hc=>?_) (fun hc=>?_) <;> (try simp only [go_sem] at hc)
         refine zx ?_
         try simp only [go_sem]
         refine ⟨(),zj [] ?_ ?_⟩
         · try simp only [go_sem]
         · try simp only [go_sem]
           try simp
     intro _ vs _
     refine zw (sub_frzP 10 10 (mtR (mkM x i v)) (by omega) rfl (by rw [hmk]; rfl)) ?_;refine zw (zk [1,2,4,6,7,8,10]) ?_;simp only [go_sem];refine zb fun K hK=>?_;simp only [go_sem,hkl,List.length_map]
     refine ⟨by omega,?_⟩
     refine hK _ ?_;clear hK K;refine zw (zk [1,2,4,6,7,8]) ?_;simp only [go_sem];refine zb fun K hK=>?_;simp only [go_sem];(try simp (disch:=omega) only [zI]);refine hK _ ?_;clear hK K
     try simp only [go_sem]
     refine ⟨by omega,zj [] ?_ ?_⟩
     · try simp only [go_sem]
     · try simp only [go_sem]
       rw [hks,List.map_append]
       rfl
   · have hil : i = divN x:=by omega
     subst hil
     have hdv : divK x (divN x) = divL x:=rfl
     rw [hdv] at hkl ⊢
     by_cases y1 : divN x < x.ms.length
     · have h30 : divN x = 30:=by unfold divN at y1 ⊢; omega
       have g1 : decide ((divN x : Int) < 30) = false:=by simp; omega
       repeat refine zq ?_
       refine zb fun K hK=>?_;simp only [go_sem,y1,g1]
       intro _
       refine hK _ ?_;clear hK K;refine zw (zk [1,2,4,6,7,8,92]) ?_;simp only [go_sem]
       refine zc rfl (fun hc=>?_) (fun hc=>?_) <;> (try simp only [go_sem] at hc)
       refine zw (sub_frz 6 153 (by omega) rfl rfl (by simp [hkl])) ?_
       have htp : List.take (divN x) ((divL x).map mtR) = (divL x).map mtR:=List.take_of_length_le (by simp [hkl])
       refine zf ?_;simp only [go_sem];refine zw (zk [2,4,6]) ?_;simp only [go_sem];rw [htp]
       refine zq ?_
       refine zb fun K hK=>?_;simp only [go_sem];refine hK _ ?_;clear hK K;refine zw (zk [2,3]) ?_;simp only [go_sem];refine ze ?_;simp only [go_sem]
       simpa only [go_sem] using hRR
     · repeat refine zq ?_
       refine zb fun K hK=>?_;simp only [go_sem,y1]
       intro _
       refine hK _ ?_;clear hK K;refine zw (zk [1,2,4,6,7,8,92]) ?_;simp only [go_sem]
       refine zc rfl (fun hc=>?_) (fun hc=>?_) <;> (try simp only [go_sem] at hc)
       refine zw (sub_frz 6 153 (by omega) rfl rfl (by simp [hkl])) ?_
       have htp : List.take (divN x) ((divL x).map mtR) = (divL x).map mtR:=List.take_of_length_le (by simp [hkl])
       refine zf ?_;simp only [go_sem];refine zw (zk [2,4,6]) ?_;simp only [go_sem];rw [htp]
       refine zq ?_
       refine zb fun K hK=>?_;simp only [go_sem];refine hK _ ?_;clear hK K;refine zw (zk [2,3]) ?_;simp only [go_sem];refine ze ?_;simp only [go_sem]
       simpa only [go_sem] using hRR
abbrev thsR (ts : List Th) : RV:=.sl 21 (ts.map thC)
def span99 (n : Nat) (ts : List Th) (x : Nat) : Int × Int:=ts.foldl (spanS n x) (99,0)
def canB (x : Nat) (m : Nat) (ts : List Th) : Bool:=ts.any fun t=>t.won.getD x 0 == (m : Int)
def sureB (n x : Nat) (place : Int) (m : Nat) (ts : List Th) : Bool:=ts.all fun t=>!(decide ((m : Int) ≤ t.won.getD x 0) && decide (place < (placesV n t x).2))
def magB (n x : Nat) (place : Int) (ts : List Th) (m : Nat) : Bool:=canB x m ts && sureB n x place m ts
def refMagicV (n x : Nat) (place : Int) (ts : List Th) : Int:=match (List.range 91).find? (magB n x place ts) with | some m=>(m : Int) | none=>-1
def betB (a b : Rw) : Bool :=
 if a.pts ≠ b.pts then decide (b.pts < a.pts) else if a.f - a.g ≠ b.f - b.g then decide (b.f - b.g < a.f - a.g) else if a.f ≠ b.f then decide (b.f < a.f) else decide (a.team < b.team)
abbrev rwA (x : Rw) : List AV:=[.r (i64 x.team),.r (i64 x.pl),.r (i64 x.won),.r (i64 x.dr),.r (i64 x.lo),.r (i64 x.f),.r (i64 x.g),.r (i64 x.pts)]
def zeroW : Rw:=⟨0,0,0,0,0,0,0,0⟩
def atK (w : Nat → Rw) (i k : Nat) : Nat:=((List.range k).filter fun j=>betB (w j) (w i)).length
def tabK (w : Nat → Rw) (n i : Nat) : List Rw:=(List.range i).foldl (fun out j=>out.set (atK w j n) (w j)) (List.replicate n zeroW)
theorem orV_step (x y : Int) (L : List Int) : decide (orV (cmpI x y :: L) < 0) = if y ≠ x then decide (x < y) else decide (orV L < 0):=by
 unfold cmpI
 rcases Int.lt_trichotomy x y with h | h | h
 · have h2 : y ≠ x:=by omega
   simp [orV,h,h2]
 · subst h
   simp [orV]
 · have h1 : ¬ x < y:=by omega
   have h2 : y ≠ x:=by omega
   simp [orV,h,h1,h2]
theorem betB_lt (a b : Rw) : betB a b = ltW a b:=by
 unfold betB ltW cmpW
 rw [orV_step,orV_step,orV_step,orV_step]
 by_cases h : b.team ≠ a.team
 · rw [if_pos h]
 · rw [if_neg h]
   have : ¬ a.team < b.team:=by omega
   simp [orV,this]
theorem insB_perm (lt : Rw → Rw → Bool) (x : Rw) : ∀ R,(insB lt x R).Perm (x :: R)
 | []=>by simp [insB]
 | y :: R => by
   unfold insB
   split
   · exact ((insB_perm lt x R).cons y).trans (List.Perm.swap x y R)
   · exact List.Perm.refl _
theorem sortB_perm (lt : Rw → Rw → Bool) : ∀ l R,(sortB lt l R).Perm (l ++ R)
 | [],R=>by simp [sortB]
 | x :: l, R => by
   simp only [sortB]
   refine (sortB_perm lt l _).trans ?_
   refine ((insB_perm lt x R).append_left l).trans ?_
   exact List.perm_middle
theorem sortN_perm (lt : Rw → Rw → Bool) (l : List Rw) : (sortN lt l).Perm l:=by
 unfold sortN
 refine (List.reverse_perm _).trans ?_
 simpa using sortB_perm lt l []
def DescP (lt : Rw → Rw → Bool) (R : List Rw) : Prop:=R.Pairwise fun a b=>lt a b = false
theorem insB_desc {lt : Rw → Rw → Bool} (asym : ∀ a b,lt a b = true → lt b a = false) (trans : ∀ a b c,lt a b = false → lt b c = false → lt a c = false) (x : Rw) : ∀ R,DescP lt R → DescP lt (insB lt x R)
 | [],_=>by simp [insB,DescP]
 | y :: R, h => by
   obtain ⟨h1,h2⟩:=List.pairwise_cons.1 h
   unfold insB
   split
   · rename_i hy
     refine List.pairwise_cons.2 ⟨fun z hz=>?_,insB_desc asym trans x R h2⟩
     rw [mem_insB] at hz
     rcases hz with rfl | hz
     · exact asym _ _ hy
     · exact h1 z hz
   · rename_i hy
     have hy' : lt x y = false:=by simpa using hy
     refine List.pairwise_cons.2 ⟨fun z hz=>?_,h⟩
     rcases List.mem_cons.1 hz with rfl | hz
     · exact hy'
     · exact trans _ _ _ hy' (h1 z hz)
theorem sortB_desc {lt : Rw → Rw → Bool} (asym : ∀ a b,lt a b = true → lt b a = false) (trans : ∀ a b c,lt a b = false → lt b c = false → lt a c = false) : ∀ l R,DescP lt R → DescP lt (sortB lt l R)
 | [],R,h=>h
 | x :: l,R,h=>by simp only [sortB]; exact sortB_desc asym trans l _ (insB_desc asym trans x R h)
theorem sortN_asc {lt : Rw → Rw → Bool} (asym : ∀ a b,lt a b = true → lt b a = false) (trans : ∀ a b c,lt a b = false → lt b c = false → lt a c = false) (l : List Rw) : (sortN lt l).Pairwise fun a b=>lt b a = false:=by
 unfold sortN
 rw [List.pairwise_reverse]
 exact sortB_desc asym trans l [] List.Pairwise.nil
theorem betB_asym (a b : Rw) (h : betB a b = true) : betB b a = false:=by
 unfold betB at *
 (repeat' split at h) <;> (repeat' split) <;> simp at * <;> omega
theorem betB_trans (a b c : Rw) (h : betB a b = false) (h2 : betB b c = false) : betB a c = false:=by
 unfold betB at *
 (repeat' split at h) <;> (repeat' split at h2) <;> (repeat' split) <;> simp at * <;> omega
theorem team_row (r : Tr) (l : List Mt) (t : Nat) : (rowT r l t).team = t:=by
 induction l using snoc_ind with
 | h0=>rfl
 | h1 l m ih =>
   rw [rowT_snoc]
   unfold stepW
   (repeat' split) <;> simp [addW,ih]
set_option maxHeartbeats 2000000
def sumF {α : Type} (f : α → Int) : List α → Int
 | []=>0
 | x :: l=>f x + sumF f l
theorem sumF_app {α : Type} (f : α → Int) : ∀ a b : List α,sumF f (a ++ b) = sumF f a + sumF f b
 | [],b=>by simp [sumF]
 | x :: a,b=>by simp only [List.cons_append,sumF,sumF_app f a b]; omega
theorem sumF_perm {α : Type} (f : α → Int) {a b : List α} (h : a.Perm b) : sumF f a = sumF f b:=by
 induction h with
 | nil=>rfl
 | cons x _ ih=>simp only [sumF,ih]
 | swap x y l=>simp only [sumF]; omega
 | trans _ _ h1 h2=>rw [h1,h2]
theorem sumF_map {α β : Type} (f : β → Int) (g : α → β) : ∀ l : List α,sumF f (l.map g) = sumF (fun x=>f (g x)) l
 | []=>rfl
 | x :: l=>by simp only [List.map_cons,sumF,sumF_map f g l]
theorem sumF_add {α : Type} (f g : α → Int) : ∀ l : List α,sumF (fun x=>f x + g x) l = sumF f l + sumF g l
 | []=>rfl
 | x :: l=>by simp only [sumF,sumF_add f g l]; omega
theorem sumF_zero {α : Type} {f : α → Int} : ∀ {l : List α},(∀ x ∈ l,f x = 0) → sumF f l = 0
 | [],_=>rfl
 | x :: l,h=>by simp only [sumF,h x (by simp),sumF_zero (l:=l) fun y hy=>h y (by simp [hy])]; rfl
theorem sumF_congr {α : Type} {f g : α → Int} : ∀ {l : List α},(∀ x ∈ l,f x = g x) → sumF f l = sumF g l
 | [],_=>rfl
 | x :: l,h=>by simp only [sumF,h x (by simp),sumF_congr (l:=l) fun y hy=>h y (by simp [hy])]
theorem sumF_two (h a : Nat) (A B : Int) (hne : h ≠ a) : ∀ n,sumF (fun t : Nat=>if h = t then A else if a = t then B else 0) (List.range n) = (if h < n then A else 0) + (if a < n then B else 0)
 | 0=>by simp [sumF]
 | n + 1 => by
   rw [List.range_succ,sumF_app,sumF_two h a A B hne n]
   simp only [sumF]
   (repeat' split) <;> omega
theorem sum_rows {r : Tr} (hr : RulesI r) (g : Rw → Int) (A B : Mt → Int) (h0 : ∀ t,g (startW r t) = 0)
 (hg : ∀ x t m,MatchI r m → g (stepW r t x m) = g x + (if m.p then (if m.h = (t : Int) then A m else if m.a = (t : Int) then B m else 0) else 0)) (l : List Mt) (hl : ∀ m ∈ l,MatchI r m) :
 sumF g (rowsL r l) = sumF (fun m=>if m.p then A m + B m else 0) l:=by
 unfold rowsL
 rw [sumF_map]
 obtain ⟨hn,hn2,hn10⟩:=nT_eq hr
 induction l using snoc_ind with
 | h0=>exact sumF_zero fun t _=>h0 t
 | h1 l m ih =>
   have hmi:=hl m (by simp)
   have ih:=ih fun m' h=>hl m' (by simp [h])
   rw [sumF_app,← ih]
   have e : sumF (fun t=>g (rowT r (l ++ [m]) t)) (List.range (nT r)) = sumF (fun t=>g (rowT r l t) + (if m.p then (if m.h = (t : Int) then A m else if m.a = (t : Int) then B m else 0) else 0)) (List.range (nT r)) :=
    sumF_congr fun t _=>by rw [rowT_snoc]; exact hg _ t m hmi
   rw [e,sumF_add]
   congr 1
   simp only [sumF]
   cases hp : m.p with
   | false=>simp only [Bool.false_eq_true,if_false]; rw [sumF_zero fun _ _=>rfl]; rfl
   | true =>
     simp only [if_true]
     obtain ⟨h,hh⟩:=Int.eq_ofNat_of_zero_le hmi.h.1
     obtain ⟨a,ha⟩:=Int.eq_ofNat_of_zero_le hmi.a.1
     have b1:=hmi.h
     have b2:=hmi.a
     have b3:=hmi.ne
     have:=sumF_two h a (A m) (B m) (by omega) (nT r)
     rw [if_pos (by omega),if_pos (by omega)] at this
     rw [Int.add_zero,← this]
     refine sumF_congr fun t _=>?_
     rw [hh,ha]
     by_cases c1 : h = t
     · rw [if_pos (by omega),if_pos c1]
     · rw [if_neg (by omega),if_neg c1]
       by_cases c2 : a = t
       · rw [if_pos (by omega),if_pos c2]
       · rw [if_neg (by omega),if_neg c2]
def gPts (r : Tr) (x : Rw) : Int:=r.win * x.won + r.draw * x.dr
def gLeg (x : Rw) : Int:=x.f - x.g
def aPts (r : Tr) (m : Mt) : Int:=if m.g < m.f then r.win else if m.f = m.g then r.draw else 0
def bPts (r : Tr) (m : Mt) : Int:=if m.f < m.g then r.win else if m.f = m.g then r.draw else 0
def mPts (r : Tr) (m : Mt) : Int:=if m.p = true ∧ m.f = m.g then 2 * r.draw else if m.p = true then r.win else 0
theorem gPts_add (r : Tr) (x : Rw) (won lost pts : Int) : gPts r (addW x won lost pts) = gPts r x + (if lost < won then r.win else if won = lost then r.draw else 0):=by
 unfold gPts addW
 simp only
 (repeat' split) <;> simp only [Int.mul_add,Int.mul_one,Int.add_zero,Int.mul_zero] <;> omega
theorem ab_pts (r : Tr) (m : Mt) : aPts r m + bPts r m = if m.f = m.g then 2 * r.draw else r.win:=by
 unfold aPts bPts
 (repeat' split) <;> omega
theorem sum_pts {r : Tr} (hr : RulesI r) (l : List Mt) (hl : ∀ m ∈ l,MatchI r m) : sumF (gPts r) (rowsL r l) = sumF (mPts r) l:=by
 rw [sum_rows hr (gPts r) (aPts r) (bPts r) (fun t=>by simp [gPts,startW]) ?_ l hl]
 · refine sumF_congr fun m hm=>?_
   unfold mPts
   cases m.p
   · simp
   · simp only [if_true,true_and];exact ab_pts r m
 · intro x t m hm
   unfold stepW
   cases m.p
   · simp
   · simp only [if_true]
     by_cases h1 : m.h = (t : Int)
     · rw [if_pos h1,if_pos h1,gPts_add]; rfl
     · rw [if_neg h1,if_neg h1]
       by_cases h2 : m.a = (t : Int)
       · rw [if_pos h2,if_pos h2,gPts_add]
         unfold bPts
         congr 2
         simp only [eq_comm]
       · rw [if_neg h2,if_neg h2]; omega
theorem sum_leg {r : Tr} (hr : RulesI r) (l : List Mt) (hl : ∀ m ∈ l,MatchI r m) : sumF gLeg (rowsL r l) = 0:=by
 rw [sum_rows hr gLeg (fun m=>m.f - m.g) (fun m=>m.g - m.f) (fun t=>by simp [gLeg,startW]) ?_ l hl]
 · refine sumF_zero fun m hm=>?_
   cases m.p
   · simp
   · simp only [if_true]
     show m.f - m.g + (m.g - m.f) = 0
     omega
 · intro x t m hm
   unfold stepW
   cases m.p
   · simp
   · simp only [if_true]
     by_cases h1 : m.h = (t : Int)
     · rw [if_pos h1,if_pos h1]; simp only [gLeg,addW]; omega
     · rw [if_neg h1,if_neg h1]
       by_cases h2 : m.a = (t : Int)
       · rw [if_pos h2,if_pos h2]; simp only [gLeg,addW]; omega
       · rw [if_neg h2,if_neg h2]; omega
theorem ptsV_res (r : Tr) (m : Mt) : (ptsV r (resV m)).1 = aPts r m ∧ (ptsV r (resV m)).2 = bPts r m:=by
 unfold resV aPts bPts
 rcases Int.lt_trichotomy m.f m.g with h | h | h
 · have n1 : ¬ m.g < m.f:=by omega
   have n2 : ¬ m.f = m.g:=by omega
   simp [n1,n2,h,ptsV]
 · have n1 : ¬ m.g < m.f:=by omega
   have n2 : ¬ m.f < m.g:=by omega
   simp [n1,n2,h,ptsV]
 · have n1 : ¬ m.f < m.g:=by omega
   have n2 : ¬ m.f = m.g:=by omega
   simp [n1,n2,h,ptsV]
structure RowI (r : Tr) (t : Nat) (x : Rw) : Prop where
 team : x.team = t
 pl : x.pl = x.won + x.dr + x.lo
 legs : x.f + x.g = r.legs * x.pl
 own : gPts r x - x.pts = if r.ded = [] then 0 else r.ded.getD t 0
theorem rowI_add {r : Tr} {t : Nat} {x : Rw} (h : RowI r t x) {won lost pts : Int} (hs : won + lost = r.legs) (hp : pts = if lost < won then r.win else if won = lost then r.draw else 0) : RowI r t (addW x won lost pts):=by
 obtain ⟨h1,h2,h3,h4⟩:=h
 refine ⟨h1,?_,?_,?_⟩
 · unfold addW; simp only
   (repeat' split) <;> omega
 · unfold addW; simp only
   rw [Int.mul_add,Int.mul_one]; omega
 · rw [gPts_add,← hp]
   have : (addW x won lost pts).pts = x.pts + pts:=rfl
   rw [this]; omega
theorem row_inv {r : Tr} (l : List Mt) (hl : ∀ m ∈ l,MatchI r m) (t : Nat) : RowI r t (rowT r l t):=by
 induction l using snoc_ind with
 | h0 =>
   refine ⟨rfl,rfl,by simp [rowT,startW],?_⟩
   simp only [rowT,startW,List.foldl_nil,gPts]
   split <;> simp
 | h1 l m ih =>
   have hmi:=hl m (by simp)
   have ih:=ih fun m' h=>hl m' (by simp [h])
   have hf:=hmi.f
   have hg:=hmi.g
   rw [rowT_snoc]
   unfold stepW
   cases hp : m.p with
   | false=>simpa using ih
   | true =>
     have hlo : legsOf r m = r.legs:=by unfold legsOf; rw [hp]; rfl
     rw [hlo] at hf hg
     simp only [if_true]
     by_cases h1 : m.h = (t : Int)
     · rw [if_pos h1]
       exact rowI_add ih (by omega) (ptsV_res r m).1
     · rw [if_neg h1]
       by_cases h2 : m.a = (t : Int)
       · rw [if_pos h2]
         refine rowI_add ih (by omega) ?_
         rw [(ptsV_res r m).2]
         unfold bPts
         (repeat' split) <;> omega
       · rw [if_neg h2]; exact ih
theorem step_comm (r : Tr) (t : Nat) (x : Rw) (m m' : Mt) : stepW r t (stepW r t x m) m' = stepW r t (stepW r t x m') m:=by
 have hc : ∀ a b c a' b' c',addW (addW x a b c) a' b' c' = addW (addW x a' b' c') a b c:=fun a b c a' b' c'=>by
  unfold addW; simp only [Rw.mk.injEq]; refine ⟨trivial,?_,?_,?_,?_,?_,?_,?_⟩ <;> first | trivial | exact Int.add_right_comm _ _ _
 unfold stepW
 cases m.p <;> cases m'.p <;> simp only [Bool.false_eq_true,if_true,if_false] <;> (repeat' split) <;> first | rfl | exact hc _ _ _ _ _ _
theorem rowT_perm {r : Tr} {l l' : List Mt} (h : l.Perm l') (t : Nat) : rowT r l t = rowT r l' t:=by
 unfold rowT
 generalize startW r t = x
 induction h generalizing x with
 | nil=>rfl
 | cons m _ ih=>exact ih _
 | swap m m' l=>simp only [List.foldl_cons,step_comm]
 | trans _ _ h1 h2=>rw [h1,h2]
theorem rowsL_perm {r : Tr} {l l' : List Mt} (h : l.Perm l') : rowsL r l = rowsL r l':=List.map_congr_left fun t _=>rowT_perm h t
def backL (l : List Mt) (s i : Nat) : List Mt:=(List.range i).foldl (fun b k=>l.getD ((k + s) % l.length) ⟨0,0,false,0,0⟩ :: b) []
theorem backL_succ (l : List Mt) (s i : Nat) : backL l s (i + 1) = l.getD ((i + s) % l.length) ⟨0,0,false,0,0⟩ :: backL l s i:=by simp [backL,List.range_succ]
theorem backL_len (l : List Mt) (s : Nat) : ∀ i,(backL l s i).length = i
 | 0=>rfl
 | i + 1=>by rw [backL_succ,List.length_cons,backL_len l s i]
theorem back_rev (l : List Mt) (s : Nat) : ∀ i,(backL l s i).reverse = (List.range i).map fun k=>l.getD ((k + s) % l.length) ⟨0,0,false,0,0⟩
 | 0=>rfl
 | i + 1=>by rw [backL_succ,List.reverse_cons,back_rev l s i,List.range_succ,List.map_append]; rfl
theorem back_perm (l : List Mt) (s : Nat) : (backL l s l.length).Perm l:=by
 refine (List.reverse_perm _).symm.trans ?_
 rw [back_rev]
 by_cases h0 : l.length = 0
 · rw [List.length_eq_zero_iff] at h0; subst h0; exact List.Perm.refl _
 have hs : s % l.length < l.length:=Nat.mod_lt _ (by omega)
 have e : (List.range l.length).map (fun k=>l.getD ((k + s) % l.length) ⟨0,0,false,0,0⟩) = l.drop (s % l.length) ++ l.take (s % l.length):=by
  refine List.ext_getElem? fun k=>?_
  by_cases hk : k < l.length
  · rw [List.getElem?_map,List.getElem?_range hk,Option.map_some]
    have hm : (k + s) % l.length = (k + s % l.length) % l.length:=by rw [Nat.add_mod,Nat.mod_eq_of_lt hk]
    rw [hm]
    generalize s % l.length = z at *
    by_cases hz : k < l.length - z
    · rw [List.getElem?_append_left (by rw [List.length_drop]; omega),List.getElem?_drop,Nat.mod_eq_of_lt (by omega),List.getD_eq_getElem?_getD,List.getElem?_eq_getElem (by omega),Nat.add_comm z k,List.getElem?_eq_getElem (by omega)]
      rfl
    · rw [List.getElem?_append_right (by rw [List.length_drop]; omega),List.length_drop,List.getElem?_take_of_lt (by omega),Nat.mod_eq_sub_mod (by omega),Nat.mod_eq_of_lt (by omega),List.getD_eq_getElem?_getD,show k + z - l.length = k - (l.length - z) by omega,List.getElem?_eq_getElem (by omega)]
      rfl
  · rw [List.getElem?_eq_none (by simp; omega),List.getElem?_eq_none (by simp; omega)]
 rw [e]
 refine List.perm_append_comm.trans ?_
 rw [List.take_append_drop]
theorem index_none' {α : Type} {p : α → Bool} : ∀ {l : List α},(∀ y ∈ l,p y = false) → indexF p l = -1
 | [],_=>rfl
 | y :: l, h => by
   have ih:=index_none' (l:=l) fun z hz=>h z (by simp [hz])
   unfold indexF
   rw [ih]
   simp [h y (by simp)]
theorem ded_len {r : Tr} (hr : RulesI r) : r.ded.length ≤ 10:=by
 rcases hr.ded with h | ⟨h,_⟩
 · rw [h]; simp
 · have:=hr.teams; omega
theorem check_good {r : Tr} {l : List Mt} (hr : RulesI r) (hl : ∀ m ∈ l,MatchI r m) (hll : l.length ≤ 180) : checkV r l = (0,0):=by
 have hd:=ded_len hr
 have hb : badM r l = -1:=index_none' fun x hx=>by simp [matchOk_iff.2 (hl x hx)]
 unfold checkV
 rw [if_neg (by omega),if_neg (by simp [rulesOk_iff.2 hr]),hb,if_neg (by omega)]
theorem wf_good {r : Tr} {l : List Mt} (hr : RulesI r) (hl : ∀ m ∈ l,MatchI r m) : Wf r l:=by
 obtain ⟨h1,h2,h3,h4,h5,h6,h7⟩:=hr
 refine ⟨⟨?_,?_,?_,?_,fun x hx=>?_,?_,?_⟩,fun m hm=>?_⟩
 · unfold I64; omega
 · unfold I64; omega
 · unfold I64; omega
 · unfold I64; omega
 · rcases h5 with h | ⟨_,h⟩
   · rw [h] at hx; simp at hx
   · have:=h x hx; unfold I64; omega
 · unfold I64; omega
 · unfold I64; omega
 · obtain ⟨a1,a2,a3,a4,a5⟩:=hl m hm
   have hlg : 0 ≤ legsOf r m ∧ legsOf r m ≤ 25:=by unfold legsOf; split <;> omega
   refine ⟨?_,?_,?_,?_⟩ <;> unfold I64 <;> omega
def tabT (r : Tr) (l : List Mt) : List Rw:=sortW (rowsL r l)
theorem tab_perm (r : Tr) (l : List Mt) : (tabT r l).Perm (rowsL r l):=by unfold tabT sortW; exact sortN_perm _ _
theorem tab_len (r : Tr) (l : List Mt) : (tabT r l).length = nT r:=by rw [(tab_perm r l).length_eq]; simp [rowsL]
theorem tab_mem {r : Tr} {l : List Mt} {w : Rw} (h : w ∈ tabT r l) : ∃ t,t < nT r ∧ w = rowT r l t:=by
 obtain ⟨t,ht,rfl⟩:=List.mem_map.1 ((tab_perm r l).mem_iff.1 h)
 exact ⟨t,List.mem_range.1 ht,rfl⟩
theorem tab_asc (r : Tr) (l : List Mt) : (tabT r l).Pairwise fun a b=>betB b a = false:=by
 have e : tabT r l = sortN betB (rowsL r l):=by
  have : betB = ltW:=funext fun a=>funext fun b=>betB_lt a b
  unfold tabT sortW; rw [this]
 rw [e]
 exact sortN_asc betB_asym betB_trans _
theorem tab_adj {r : Tr} {l : List Mt} {i : Nat} {v w : Rw} (hv : (tabT r l)[i]? = some v) (hw : (tabT r l)[i + 1]? = some w) : betB w v = false:=by
 obtain ⟨h1,rfl⟩:=List.getElem?_eq_some_iff.1 hv
 obtain ⟨h2,rfl⟩:=List.getElem?_eq_some_iff.1 hw
 exact List.pairwise_iff_getElem.1 (tab_asc r l) i (i + 1) h1 h2 (by omega)
theorem tab_nodup {r : Tr} {l : List Mt} : ((tabT r l).map (·.team)).Nodup:=by
 refine ((tab_perm r l).map _).nodup_iff.2 ?_
 unfold rowsL
 rw [List.map_map]
 have : ((fun x : Rw=>x.team) ∘ rowT r l) = fun i : Nat=>(i : Int):=funext fun i=>team_row r l i
 rw [this]
 unfold List.Nodup
 rw [List.pairwise_map]
 exact List.nodup_range.imp fun hab e=>hab (by omega)
theorem tab_new {r : Tr} {l : List Mt} {i : Nat} {w : Rw} (hw : (tabT r l)[i]? = some w) : ∀ v ∈ (tabT r l).take i,v.team ≠ w.team:=fun v hv e=>by
 obtain ⟨k,hk,rfl⟩:=List.getElem_of_mem hv
 rw [List.length_take] at hk
 rw [List.getElem_take] at e
 obtain ⟨h2,rfl⟩:=List.getElem?_eq_some_iff.1 hw
 have:=List.pairwise_iff_getElem.1 (tab_nodup (r:=r) (l:=l)) k i (by simp; omega) (by simpa using h2) (by omega)
 simp only [List.getElem_map] at this
 exact this e
def seenB (T : List Rw) (i : Nat) : List Bool:=(List.range 10).map fun j : Nat=>(T.take i).any fun w=>w.team == (j : Int)
theorem seenB_zero (T : List Rw) : seenB T 0 = List.replicate 10 false:=by simp [seenB,List.range_succ]
theorem seenB_get {T : List Rw} {i t : Nat} (ht : t < 10) (h : ∀ v ∈ T.take i,v.team ≠ (t : Int)) : (seenB T i).getD t false = false:=by
 unfold seenB
 rw [List.getD_eq_getElem?_getD,List.getElem?_map,List.getElem?_range ht]
 simp only [Option.map_some,Option.getD_some,List.any_eq_false,beq_iff_eq];exact h
theorem seenB_set {T : List Rw} {i t : Nat} {w : Rw} (hw : T[i]? = some w) (ht : w.team = (t : Int)) (h10 : t < 10) : (seenB T i).set t true = seenB T (i + 1):=by
 refine List.ext_getElem? fun j=>?_
 unfold seenB
 by_cases hj : j < 10
 · by_cases e : j = t
   · subst e
     rw [List.getElem?_set_self (by simpa using hj),List.getElem?_map,List.getElem?_range hj,Option.map_some,take_of_opt hw,List.any_append]
     simp [ht]
   · rw [List.getElem?_set_ne (fun e'=>e e'.symm),List.getElem?_map,List.getElem?_map,List.getElem?_range hj,Option.map_some,Option.map_some,take_of_opt hw,List.any_append]
     have : (w.team == (j : Int)) = false:=by simp; omega
     simp [this]
 · rw [List.getElem?_eq_none (by simp; omega),List.getElem?_eq_none (by simp; omega)]
theorem sumF_le {α : Type} {f : α → Int} {B : Int} : ∀ {l : List α},(∀ x ∈ l,-B ≤ f x ∧ f x ≤ B) → -(B * l.length) ≤ sumF f l ∧ sumF f l ≤ B * l.length
 | [],_=>by simp [sumF]
 | x :: l, h => by
   have h1:=h x (by simp)
   have h2:=sumF_le (l:=l) fun y hy=>h y (by simp [hy])
   simp only [sumF,List.length_cons,Int.natCast_add,Int.mul_add]
   omega
theorem gPts_le {r : Tr} (hr : RulesI r) {x : Rw} (hs : SmallW 200 x) : -4000 ≤ gPts r x ∧ gPts r x ≤ 4000:=by
 have h1:=hr.win
 have h2:=hr.draw
 have h3:=hs.won
 have h4:=hs.dr
 unfold gPts
 have a1 : 0 ≤ r.win * x.won:=Int.mul_nonneg (by omega) (by omega)
 have a2 : 0 ≤ r.draw * x.dr:=Int.mul_nonneg (by omega) (by omega)
 have a3 : r.win * x.won ≤ 9 * 200:=Int.mul_le_mul (by omega) (by omega) (by omega) (by omega)
 have a4 : r.draw * x.dr ≤ 9 * 200:=Int.mul_le_mul (by omega) (by omega) (by omega) (by omega)
 omega
theorem mPts_le {r : Tr} (hr : RulesI r) (m : Mt) : -20 ≤ mPts r m ∧ mPts r m ≤ 20:=by
 have h1:=hr.win
 have h2:=hr.draw
 unfold mPts; (repeat' split) <;> omega
set_option maxRecDepth 8000
set_option maxHeartbeats 4000000
abbrev aB (b : Bool) : AV:=.r (.bo b)
theorem head_bools (L : List Bool) (i : Nat) (h : i < L.length) : (List.drop i (L.map aB)).headD (AV.r RV.un) = .r (.bo (L.getD i false)):=by
 rw [List.headD_eq_head?_getD,List.head?_drop,List.getElem?_map,List.getD_eq_getElem?_getD,List.getElem?_eq_getElem h]; rfl
theorem set_bools (L : List Bool) (q : Nat) (v : Bool) (h : q < L.length) : (L.map aB).take q ++ AV.r (.bo v) :: (L.map aB).drop (q + 1) = (L.set q v).map aB:=by
 rw [List.map_set,List.set_eq_take_append_cons_drop,if_pos (by simpa using h)]
theorem eqn49 : eqN Try.prog 49 = some 8:=by kernel_rfl
def bkR (l : List Mt) (s i : Nat) : RV:=if i = 0 then .ns else mtsR (backL l s i)
theorem sums_law (x : Sm) (hx : WfS x) (turn : Nat) (htu : turn < 256) : ACalls Try.prog 6 [smV x,u8 turn] (.bo true):=by
 have hkn:=known_ok
 have hdi:=division_ok x hx
 have hR:=divR_ok x
 have hM:=divL_ok x
 have hll:=divL_len x
 have hwf:=wf_good hR hM
 have hck:=check_good hR hM (by omega)
 have hta:=table_ok _ _ hwf
 have how:=own_ok (divR x) (by have:=ded_len hR; omega)
 have hco:=copied_ok (divL x) (by omega)
 have hsp:=sum_pts hR (divL x) hM
 have hsl:=sum_leg hR (divL x) hM
 have hbp:=back_perm (divL x) turn
 have hMb : ∀ m ∈ backL (divL x) turn (divL x).length,MatchI (divR x) m:=fun m hm=>hM m (hbp.mem_iff.1 hm)
 have hlb : (backL (divL x) turn (divL x).length).length ≤ 30:=by rw [hbp.length_eq]; exact hll
 have htb:=table_ok _ _ (wf_good hR hMb)
 rw [check_good hR hMb (by omega),rowsL_perm hbp,if_pos rfl] at htb
 rw [hck,if_pos rfl] at hta
 have hTp:=tab_perm (divR x) (divL x)
 have hTl:=tab_len (divR x) (divL x)
 have hTm:=fun w h=>tab_mem (r:=divR x) (l:=divL x) (w:=w) h
 have hTa:=fun i v w h h'=>tab_adj (r:=divR x) (l:=divL x) (i:=i) (v:=v) (w:=w) h h'
 have hTn:=fun i w h=>tab_new (r:=divR x) (l:=divL x) (i:=i) (w:=w) h
 have hro:=fun t=>row_inv (r:=divR x) (divL x) hM t
 have hsm : ∀ t,SmallW 200 (rowT (divR x) (divL x) t):=fun t=>by
  have:=(small_row hR hM t (divL x).length (Nat.le_refl _)).le (B':=200) (by omega)
  rwa [List.take_length] at this
 have hsT : sortW (rowsL (divR x) (divL x)) = tabT (divR x) (divL x):=rfl
 rw [hsT] at hta htb
 have hsp2 : sumF (gPts (divR x)) (tabT (divR x) (divL x)) = sumF (mPts (divR x)) (divL x):=by rw [← hsp]; exact sumF_perm _ hTp
 have hsl2 : sumF gLeg (tabT (divR x) (divL x)) = 0:=by rw [← hsl]; exact sumF_perm _ hTp
 obtain ⟨hn,hn2,hn10⟩:=nT_eq hR
 have hleg:=hR.legs
 have hwin:=hR.win
 have hdrw:=hR.draw
 refine acalls_st (rs:=[.bo true]) [.tmp 4] Try.func6 rfl (by kernel_rfl) Try.ntmps6 rfl (by simp) rfl fun C vs=>?_
 refine zq ?_
 refine zb fun K hK=>?_;simp only [go_sem];refine hK _ ?_;clear hK K;refine zw (sub_frzP 2 2 (smC x) (by omega) rfl rfl) ?_;refine zw (zk [1,2]) ?_;simp only [go_sem]
 refine zq ?_
 refine zb fun K hK=>?_;simp only [go_sem]
 refine zh (hdi) rfl (by simp only [go_sem,i64,ints]) (by simp only [go_sem,i64,ints]) (by first | exact .inl rfl | exact .inr rfl) ?_
 (try simp only [go_sem]);refine hK _ ?_;clear hK K;refine zw (sub_frzP 5 5 (trC (divR x)) (by omega) rfl rfl) ?_;refine zw (zk [1,5,6]) ?_;simp only [go_sem]
 clear hdi hx
 generalize tabT (divR x) (divL x) = T at *
 generalize hrr : rowT (divR x) (divL x) = ro at *
 generalize divL x = l at *
 generalize divR x = r at *
 clear hTp hsp hsl hwf hck hrr hsT
 have hn' : r.teams = (nT r : Int):=hn.symm
 refine zq ?_
 refine zb fun K hK=>?_;simp only [go_sem]
 refine zh (how) rfl (by simp only [go_sem,i64,ints]) (by simp only [go_sem,i64,ints]) (by first | exact .inl rfl | exact .inr rfl) ?_
 (try simp only [go_sem])
 refine zh (hco) rfl (by simp only [go_sem,i64,ints]) (by simp only [go_sem,i64,ints]) (by first | exact .inl rfl | exact .inr rfl) ?_
 (try simp only [go_sem])
 refine zh (hta) rfl (by simp only [go_sem,i64,ints]) (by simp only [go_sem,i64,ints]) (by first | exact .inl rfl | exact .inr rfl) ?_
 (try simp only [go_sem]);refine hK _ ?_;clear hK K;refine zw (zk [1,5,6,7,8,9]) ?_;simp only [go_sem]
 have hz : ((0 : Int) != 0) = false:=rfl
 have hnn : ((nT r : Int) != (nT r : Int)) = false:=bne_self_eq_false _
 repeat refine zq ?_
 refine zb fun K hK=>?_;simp only [go_sem,hz,hnn,hTl,hn']
 intro _
 refine hK _ ?_;clear hK K;refine zw (zk [1,5,6,7,50]) ?_;simp only [go_sem]
 refine zc rfl (fun hc=>?_) (fun hc=>?_) <;> (try simp only [go_sem] at hc)
 refine zx ?_
 try simp only [go_sem]
 refine zq ?_
 refine zb fun K hK=>?_;simp only [go_sem];refine hK _ ?_;clear hK K;refine zw (zk [1,5,6,7,10]) ?_;simp only [go_sem]
 repeat refine zq ?_
 refine zb fun K hK=>?_;simp only [go_sem];refine hK _ ?_;clear hK K;refine zw (zk [1,5,6,7,10,11]) ?_;simp only [go_sem];refine zd ?_
 refine awp_uptoV (n:=310) l.length (fun i vs=>[(1,.r (u8 turn)),(5,.r (.rp (trC r))),(6,.r (mtsR l)),(7,.r (rwsR T)),(10,.r (bkR l turn i)),(11,.r (i64 (i : Int)))])
  (fun i vs=>[]) (fun _=>True) 0 (zj [] ?_ ?_) (Nat.zero_le _) trivial ?_
 · try simp only [go_sem]
   try rfl
 · try simp only [go_sem]
 · intro i vs hi _
   repeat refine zq ?_
   refine zb fun K hK=>?_;simp only [go_sem]
   intro _
   refine hK _ ?_;clear hK K;refine zw (zk [1,5,6,7,10,11,55]) ?_;simp only [go_sem]
   refine zc rfl (fun hc=>?_) (fun hc=>?_) <;> (try simp only [go_sem] at hc)
   · have hil : i < l.length:=by omega
     have hkb : (i + turn) % l.length < l.length:=Nat.mod_lt _ (by omega)
     obtain ⟨m,hm⟩:=opt_of_lt hkb
     have hbs:=backL_succ l turn i
     rw [List.getD_eq_getElem?_getD,hm] at hbs
     have hbs : backL l turn (i + 1) = m :: backL l turn i:=hbs
     have hbl:=backL_len l turn i
     have hwt : IntKind.i64.wrap (turn : Int) = turn:=by rw [zI] <;> omega
     have hwi : IntKind.i64.wrap ((i : Int) + turn) = (i : Int) + turn:=by rw [zI] <;> omega
     have hq : Int.tmod ((i : Int) + turn) (l.length : Int) = (((i + turn) % l.length : Nat) : Int):=by rw [show (i : Int) + turn = ((i + turn : Nat) : Int) by omega]; rfl
     have hnz : ¬ l.length = 0:=by omega
     have hb1 : bkR l turn (i + 1) = mtsR (m :: backL l turn i):=by unfold bkR; rw [if_neg (by omega),hbs]
     rw [hb1]
     generalize (i + turn) % l.length = kb at *
     by_cases hi0 : i = 0
     · have hb0 : bkR l turn i = .ns:=by unfold bkR; rw [if_pos hi0]
       have hB0 : backL l turn i = []:=List.length_eq_zero_iff.1 (by omega)
       rw [hb0,hB0]
       refine zx ?_
       try simp only [go_sem]
       refine zq ?_
       refine zd ?_
       refine awp_long ?_
       refine sops_take 10 (by kernel_rfl) fun K hK=>?_
       simp only [go_sem,List.take_succ_cons,List.take_zero,List.drop_succ_cons,List.drop_zero,List.append_eq,List.cons_append,List.nil_append,hwt,hwi,hq,hm,hkb];repeat first | intro _ | refine ⟨by omega,?_⟩
       refine hK _ rfl ?_
       clear hK K
       refine sops_sub (zk [1,5,6,7,10,11,67]) ?_
       simp only [go_sem]
       refine sops_own (by simp [go_sem]) ?_
       simp only [go_sem,sBuildOwn]
       repeat first | refine ⟨by omega,?_⟩
       refine sops_end (by kernel_rfl) fun K hK=>?_
       simp only [go_sem,List.drop_succ_cons,List.drop_zero,List.append_eq,List.cons_append,List.nil_append];refine hK _ ?_;clear hK K;refine zw (zk [1,5,6,7,10,11]) ?_;simp only [go_sem];refine zw (sub_frz (ty:=70) (sz:=5) (off:=0) (m:=1) (es:=[mtR m]) 10 68 (by omega) rfl rfl (by simp)) ?_;refine zw (zk [1,5,6,7,10,11]) ?_;simp only [go_sem];refine zb fun K hK=>?_;simp only [go_sem];(try simp (disch:=omega) only [zI]);refine hK _ ?_;clear hK K
       try simp only [go_sem]
       refine ⟨by omega,zj [] ?_ ?_⟩
       · try simp only [go_sem]
         try rfl
       · try simp only [go_sem]
     · have hb0 : bkR l turn i = mtsR (backL l turn i):=by unfold bkR; rw [if_neg hi0]
       rw [hb0]
       generalize backL l turn i = B at *
       refine zx ?_
       try simp only [go_sem]
       refine zq ?_
       refine zd ?_
       refine awp_long ?_
       refine sops_take 10 (by kernel_rfl) fun K hK=>?_
       simp only [go_sem,List.take_succ_cons,List.take_zero,List.drop_succ_cons,List.drop_zero,List.append_eq,List.cons_append,List.nil_append,hwt,hwi,hq,hm,hkb];repeat first | intro _ | refine ⟨by omega,?_⟩
       refine hK _ rfl ?_
       clear hK K
       refine sops_sub (zk [1,5,6,7,10,11,67]) ?_
       simp only [go_sem]
       refine sops_own (by simp [go_sem]) ?_
       simp only [go_sem,sBuildOwn]
       repeat first | refine ⟨by omega,?_⟩
       refine sops_end (by kernel_rfl) fun K hK=>?_
       simp only [go_sem,List.drop_succ_cons,List.drop_zero,List.append_eq,List.cons_append,List.nil_append]
       refine ⟨⟨by omega,by omega⟩,?_⟩
       refine hK _ ?_;clear hK K;refine zw (zk [1,5,6,7,10,11]) ?_;simp only [go_sem];refine zw (sub_frz (ty:=70) (sz:=5) (off:=0) (m:=1 + B.length) (es:=(m :: B).map mtR) 10 68 (by omega) rfl rfl (by simp; omega)) ?_;refine zw (zk [1,5,6,7,10,11]) ?_;simp only [go_sem]
       have htp : List.take (1 + B.length) ((m :: B).map mtR) = (m :: B).map mtR:=List.take_of_length_le (by simp; omega)
       refine zb fun K hK=>?_;simp only [go_sem];(try simp (disch:=omega) only [zI]);refine hK _ ?_;clear hK K
       try simp only [go_sem]
       refine ⟨by omega,zj [] ?_ ?_⟩
       · try simp only [go_sem]
         exact List.take_of_length_le (by simp; omega)
       · try simp only [go_sem]
   · have hil : i = l.length:=by omega
     subst hil
     refine zf ?_;simp only [go_sem];refine zw (zk [1,5,6,7,10]) ?_;simp only [go_sem]
     refine zq ?_
     refine awp_joinV (n:=310) (fun (_ : Unit) vs=>[(5,.r (.rp (trC r))),(6,.r (mtsR l)),(7,.r (rwsR T)),(9,.r (i64 0)),(12,.r (rwsR T))]) (fun _ vs=>[]) (fun _=>True) (fun _ h=>h) ?_ ?_
     · by_cases h0 : l.length = 0
       · have hb0 : bkR l turn l.length = .ns:=by unfold bkR; rw [if_pos h0]
         have hB0 : backL l turn l.length = []:=List.length_eq_zero_iff.1 (by rw [backL_len]; exact h0)
         rw [hB0] at htb
         rw [hb0]
         refine zb fun K hK=>?_;simp only [go_sem]
         refine zh (how) rfl (by simp only [go_sem,i64,ints]) (by simp only [go_sem,i64,ints]) (by first | exact .inl rfl | exact .inr rfl) ?_
         (try simp only [go_sem])
         refine .inl (acall_of (htb) rfl (by simp only [go_sem,i64,ints]) (by simp only [go_sem,i64,ints]; try simp) (by first | exact .inl rfl | exact .inr rfl) ?_)
         (try simp only [go_sem]);refine hK _ ?_;clear hK K
         refine ⟨(),trivial,zj [] ?_ ?_⟩
         · try simp only [go_sem]
         · try simp only [go_sem]
       · have hb0 : bkR l turn l.length = mtsR (backL l turn l.length):=by unfold bkR; rw [if_neg h0]
         rw [hb0]
         refine zb fun K hK=>?_;simp only [go_sem]
         refine zh (how) rfl (by simp only [go_sem,i64,ints]) (by simp only [go_sem,i64,ints]) (by first | exact .inl rfl | exact .inr rfl) ?_
         (try simp only [go_sem])
         refine zh (htb) rfl (by simp only [go_sem,i64,ints]) (by simp only [go_sem,i64,ints]) (by first | exact .inl rfl | exact .inr rfl) ?_
         (try simp only [go_sem]);refine hK _ ?_;clear hK K
         refine ⟨(),trivial,zj [] ?_ ?_⟩
         · try simp only [go_sem]
         · try simp only [go_sem]
     intro _ vs _
     repeat refine zq ?_
     refine zb fun K hK=>?_;simp only [go_sem,hz,hnn,hTl,hn']
     intro _
     refine hK _ ?_;clear hK K;refine zw (zk [5,6,7,12,87]) ?_;simp only [go_sem]
     refine zc rfl (fun hc=>?_) (fun hc=>?_) <;> (try simp only [go_sem] at hc)
     refine zx ?_
     try simp only [go_sem]
     refine zq ?_
     refine zb fun K hK=>?_;simp only [go_sem];refine hK _ ?_;clear hK K;refine zw (zk [5,6,7,12,14,15,16]) ?_;simp only [go_sem]
     repeat refine zq ?_
     refine zb fun K hK=>?_;simp only [go_sem];refine hK _ ?_;clear hK K;refine zw (zk [5,6,7,12,14,15,16,17]) ?_;simp only [go_sem]
     have hbx : ∀ vs : Nat → Nat,[(14,RowC.box [AV.r (RV.bo false),AV.r (RV.bo false),AV.r (RV.bo false),AV.r (RV.bo false),AV.r (RV.bo false),AV.r (RV.bo false),AV.r (RV.bo false),AV.r (RV.bo false),AV.r (RV.bo false),AV.r (RV.bo false)])] = [(14,RowC.box ((List.replicate 10 false).map aB))]:=fun _=>rfl
     refine zd ?_
     refine awp_uptoV (n:=310) l.length (fun i vs=>[(5,.r (.rp (trC r))),(6,.r (mtsR l)),(7,.r (rwsR T)),(12,.r (rwsR T)),(14,.pt 14 (vs 14) 0),(15,.r (i64 (sumF (mPts r) (l.take i)))),(16,.r (i64 0)),(17,.r (i64 (i : Int)))])
      (fun i vs=>[(14,.box ((List.replicate 10 false).map aB))]) (fun _=>True) 0 (zj [] ?_ ?_) (Nat.zero_le _) trivial ?_
     · try simp only [go_sem]
       try rfl
     · try simp only [go_sem]
       try rfl
     · intro i vs hi _
       repeat refine zq ?_
       refine zb fun K hK=>?_;simp only [go_sem]
       intro _
       refine hK _ ?_;clear hK K;refine zw (zk [5,6,7,12,14,15,16,17,92]) ?_;simp only [go_sem]
       refine zc rfl (fun hc=>?_) (fun hc=>?_) <;> (try simp only [go_sem] at hc)
       · have hil : i < l.length:=by omega
         obtain ⟨m,hm⟩:=opt_of_lt hil
         have hst : sumF (mPts r) (l.take (i + 1)) = sumF (mPts r) (l.take i) + mPts r m:=by rw [take_of_opt hm,sumF_app]; simp [sumF]
         have hbd:=sumF_le (f:=mPts r) (B:=20) (l:=l.take i) fun m _=>mPts_le hR m
         have hbl : ((l.take i).length : Int) ≤ 30:=by rw [List.length_take]; omega
         rw [hst]
         generalize sumF (mPts r) (l.take i) = S at *
         refine zx ?_
         try simp only [go_sem]
         refine zq ?_
         refine zd ?_
         cases hp : m.p with
         | false =>
           have hmp : mPts r m = 0:=by unfold mPts; rw [hp]; simp
           rw [hmp]
           refine zq ?_
           refine zg follows (by decide +kernel) (by kernel_rfl) fun K hK=>?_;simp only [go_sem,hm,hil,hp];refine hK _ ?_;clear hK K;refine zw (zk [5,6,7,12,14,15,16,17,112]) ?_;simp only [go_sem]
           refine zc rfl (fun hc=>?_) (fun hc=>?_) <;> (try simp only [go_sem] at hc)
           refine zq ?_
           refine zb fun K hK=>?_;simp only [go_sem,hm,hil,hp];refine hK _ ?_;clear hK K;refine zw (zk [5,6,7,12,14,15,16,17,122]) ?_;simp only [go_sem]
           refine zc rfl (fun hc=>?_) (fun hc=>?_) <;> (try simp only [go_sem] at hc)
           refine zx ?_
           try simp only [go_sem]
           refine zb fun K hK=>?_;simp only [go_sem];(try simp (disch:=omega) only [zI]);refine hK _ ?_;clear hK K
           try simp only [go_sem]
           refine ⟨by omega,zj [] ?_ ?_⟩
           · try simp only [go_sem]
             try simp
           · try simp only [go_sem]
         | true =>
           by_cases he : m.f = m.g
           · have hmp : mPts r m = 2 * r.draw:=by unfold mPts; rw [if_pos ⟨hp,he⟩]
             have heb : (m.f == m.g) = true:=by simpa using he
             rw [hmp]
             refine zq ?_
             refine zg follows (by decide +kernel) (by kernel_rfl) fun K hK=>?_;simp only [go_sem,hm,hil,hp,heb];refine hK _ ?_;clear hK K;refine zw (zk [5,6,7,12,14,15,16,17,112]) ?_;simp only [go_sem]
             refine zc rfl (fun hc=>?_) (fun hc=>?_) <;> (try simp only [go_sem] at hc)
             refine zb fun K hK=>?_;simp only [go_sem];(try simp (disch:=omega) only [zI]);refine hK _ ?_;clear hK K;refine zw (zk [5,6,7,12,14,15,16,17]) ?_;simp only [go_sem];refine zb fun K hK=>?_;simp only [go_sem];(try simp (disch:=omega) only [zI]);refine hK _ ?_;clear hK K
             try simp only [go_sem]
             refine ⟨by omega,zj [] ?_ ?_⟩
             · try simp only [go_sem]
             · try simp only [go_sem]
           · have hmp : mPts r m = r.win:=by unfold mPts; rw [if_neg (fun h=>he h.2),if_pos hp]
             have heb : (m.f == m.g) = false:=by simpa using he
             rw [hmp]
             refine zq ?_
             refine zg follows (by decide +kernel) (by kernel_rfl) fun K hK=>?_;simp only [go_sem,hm,hil,hp,heb];refine hK _ ?_;clear hK K;refine zw (zk [5,6,7,12,14,15,16,17,112]) ?_;simp only [go_sem]
             refine zc rfl (fun hc=>?_) (fun hc=>?_) <;> (try simp only [go_sem] at hc)
             refine zq ?_
             refine zb fun K hK=>?_;simp only [go_sem,hm,hil,hp];refine hK _ ?_;clear hK K;refine zw (zk [5,6,7,12,14,15,16,17,122]) ?_;simp only [go_sem]
             refine zc rfl (fun hc=>?_) (fun hc=>?_) <;> (try simp only [go_sem] at hc)
             refine zb fun K hK=>?_;simp only [go_sem];(try simp (disch:=omega) only [zI]);refine hK _ ?_;clear hK K;refine zw (zk [5,6,7,12,14,15,16,17]) ?_;simp only [go_sem];refine zb fun K hK=>?_;simp only [go_sem];(try simp (disch:=omega) only [zI]);refine hK _ ?_;clear hK K
             try simp only [go_sem]
             refine ⟨by omega,zj [] ?_ ?_⟩
             · try simp only [go_sem]
             · try simp only [go_sem]
       · have hil : i = l.length:=by omega
         subst hil
         rw [List.take_length]
         have hbd0:=sumF_le (f:=mPts r) (B:=20) (l:=l) fun m _=>mPts_le hR m
         refine zf ?_;simp only [go_sem]
         repeat refine zq ?_
         refine zb fun K hK=>?_;simp only [go_sem];refine hK _ ?_;clear hK K;refine zw (zk [5,7,12,14,15,16,18]) ?_;simp only [go_sem];refine zd ?_
         rw [← hsp2] at hbd0 ⊢
         refine awp_uptoV (n:=310) T.length (fun i vs=>[(5,.r (.rp (trC r))),(7,.r (rwsR T)),(12,.r (rwsR T)),(14,.pt 14 (vs 14) 0),(15,.r (i64 (sumF (gPts r) (T.drop i)))),(16,.r (i64 (sumF gLeg (T.take i)))),(18,.r (i64 (i : Int)))])
          (fun i vs=>[(14,.box ((seenB T i).map aB))]) (fun _=>True) 0 (zj [] ?_ ?_) (Nat.zero_le _) trivial ?_
         · try simp only [go_sem]
           try rfl
         · try simp only [go_sem]
           rw [seenB_zero]
           try rfl
         · intro i vs hi _
           repeat refine zq ?_
           refine zb fun K hK=>?_;simp only [go_sem]
           intro _
           refine hK _ ?_;clear hK K;refine zw (zk [5,7,12,14,15,16,18,130]) ?_;simp only [go_sem]
           refine zc rfl (fun hc=>?_) (fun hc=>?_) <;> (try simp only [go_sem] at hc)
           · have hiT : i < T.length:=by omega
             obtain ⟨w,hw⟩:=opt_of_lt hiT
             obtain ⟨t,htn,hwt⟩:=hTm w (mem_of_opt hw)
             obtain ⟨i1,i2,i3,i4⟩:=hro t
             have hsw:=hsm t
             rw [← hwt] at i1 i2 i3 i4 hsw
             have hnew:=hTn i w hw
             rw [i1] at hnew
             have hgp:=gPts_le hR hsw
             obtain ⟨s1,s2,s3,s4,s5,s6,s7⟩:=hsw
             have hsg:=seenB_get (T:=T) (i:=i) (t:=t) (by omega) hnew
             have hss:=seenB_set hw i1 (by omega)
             have hsl0 : (seenB T i).length = 10:=by simp [seenB]
             have hdr : T.drop i = w :: T.drop (i + 1):=drop_of_opt hw
             have hst1 : sumF (gPts r) (T.drop i) = gPts r w + sumF (gPts r) (T.drop (i + 1)):=by rw [hdr]; rfl
             have hst2 : sumF gLeg (T.take (i + 1)) = sumF gLeg (T.take i) + gLeg w:=by rw [take_of_opt hw,sumF_app]; simp [sumF]
             have hb1:=sumF_le (f:=gPts r) (B:=4000) (l:=T.drop (i + 1)) fun v hv=>by
              obtain ⟨t',_,rfl⟩:=hTm v (List.mem_of_mem_drop hv)
              exact gPts_le hR (hsm t')
             have hb2:=sumF_le (f:=gLeg) (B:=6000) (l:=T.take i) fun v hv=>by
              obtain ⟨t',_,rfl⟩:=hTm v (List.mem_of_mem_take hv)
              obtain ⟨_,_,_,_,z5,z6,_⟩:=hsm t'
              unfold gLeg; omega
             have hb3 : ((T.drop (i + 1)).length : Int) ≤ 10:=by rw [List.length_drop]; omega
             have hb4 : ((T.take i).length : Int) ≤ 10:=by rw [List.length_take]; omega
             have hgl : gLeg w = w.f - w.g:=rfl
             have hadj : ∀ v,i ≠ 0 → T[i - 1]? = some v → betB w v = false:=fun v h0 hv=>hTa (i - 1) v w hv (by rw [show i - 1 + 1 = i by omega]; exact hw)
             have hgpe : r.win * w.won + r.draw * w.dr = gPts r w:=rfl
             rw [hst1,hst2]
             generalize sumF (gPts r) (T.drop (i + 1)) = S1 at *
             generalize sumF gLeg (T.take i) = S2 at *
             generalize seenB T i = SB at *
             generalize seenB T (i + 1) = SB' at *
             generalize gPts r w = gp at *
             refine zx ?_
             try simp only [go_sem]
             refine zq ?_
             refine zd ?_
             refine zq ?_
             refine zb fun K hK=>?_;simp only [go_sem,hw,hiT];refine hK _ ?_;clear hK K;refine zw (sub_frzP 19 19 (rwR w) (by omega) rfl rfl) ?_;refine zw (zk [5,7,12,14,15,16,18,19]) ?_;simp only [go_sem]
             have c1 : decide ((t : Int) < 0) = false:=decide_eq_false (by omega)
             have c2 : decide ((nT r : Int) ≤ (t : Int)) = false:=decide_eq_false (by omega)
             have c3 : ¬ nT r ≤ t:=by omega
             have dh : (List.drop t (SB.map aB)).headD (AV.r RV.un) = .r (.bo false):=by rw [head_bools _ _ (by omega),hsg]
             have k1 : IntKind.i64.wrap (w.won + w.dr) = w.won + w.dr:=by rw [zI] <;> omega
             have k2 : IntKind.i64.wrap (w.won + w.dr + w.lo) = w.won + w.dr + w.lo:=by rw [zI] <;> omega
             have e1 : (w.pl != w.won + w.dr + w.lo) = false:=bne_eq_false_iff_eq.2 i2
             have k3 : IntKind.i64.wrap (w.f + w.g) = w.f + w.g:=by rw [zI] <;> omega
             have k4 : IntKind.i64.wrap (r.legs * w.pl) = r.legs * w.pl:=by rw [← i3]; exact k3
             have e2 : (w.f + w.g != r.legs * w.pl) = false:=bne_eq_false_iff_eq.2 i3
             repeat refine zq ?_
             refine zg follows (by decide +kernel) (by kernel_rfl) fun K hK=>?_;simp only [go_sem,i1,hn',c1,c2,c3,dh,k1,k2,e1,k3,k4,e2,hw,hiT,eqn49,beq_self_eq_true,Bool.and_self,Bool.not_true,Nat.mul_one,Nat.zero_add]
             repeat refine ⟨by omega,?_⟩
             refine hK _ ?_;clear hK K;refine zw (zk [5,7,12,14,15,16,18,19,186]) ?_;simp only [go_sem]
             refine zc rfl (fun hc=>?_) (fun hc=>?_) <;> (try simp only [go_sem] at hc)
             refine zx ?_
             try simp only [go_sem]
             have dM : List.take t (SB.map aB) ++ (AV.r (.bo true) :: List.drop (t + 1) (SB.map aB)) = SB'.map aB:=by rw [set_bools _ _ _ (by omega),hss]
             refine zq ?_
             refine zb fun K hK=>?_;simp only [go_sem,i1,dM,Nat.mul_one,Nat.zero_add]
             repeat refine ⟨by omega,?_⟩
             refine hK _ ?_;clear hK K;refine zw (zk [5,7,12,14,15,16,18,19]) ?_;simp only [go_sem]
             have a1 : 0 ≤ r.win * w.won:=Int.mul_nonneg (by omega) (by omega)
             have a2 : 0 ≤ r.draw * w.dr:=Int.mul_nonneg (by omega) (by omega)
             have f1 : IntKind.i64.wrap (r.win * w.won) = r.win * w.won:=by rw [zI] <;> omega
             have f2 : IntKind.i64.wrap (r.draw * w.dr) = r.draw * w.dr:=by rw [zI] <;> omega
             have f3 : IntKind.i64.wrap (r.win * w.won + r.draw * w.dr) = gp:=by rw [hgpe,zI] <;> omega
             have f4 : IntKind.i64.wrap (gp - w.pts) = gp - w.pts:=by rw [zI] <;> omega
             refine zq ?_
             refine zb fun K hK=>?_;simp only [go_sem,f1,f2,f3,f4];refine hK _ ?_;clear hK K;refine zw (zk [5,7,12,14,15,16,18,19,20]) ?_;simp only [go_sem]
             repeat refine zq ?_
             refine awp_joinV (n:=310) (fun (_ : Unit) vs=>[(5,.r (.rp (trC r))),(7,.r (rwsR T)),(12,.r (rwsR T)),(14,.pt 14 (vs 14) 0),(15,.r (i64 (gp + S1))),(16,.r (i64 S2)),(18,.r (i64 (i : Int))),(19,.r (.rp (rwR w))),(20,.r (i64 (gp - w.pts))),(227,.r (.bo false))]) (fun _ vs=>[(14,.box (SB'.map aB))]) (fun _=>True) (fun _ h=>h) ?_ ?_
             · by_cases hd : r.ded = []
               · have hdl : ¬ 0 < r.ded.length:=by rw [hd]; simp
                 have hdb : ((r.ded.length : Int) == 0) = true:=by rw [hd]; rfl
                 rw [if_pos hd] at i4
                 have e3 : (gp - w.pts != 0) = false:=bne_eq_false_iff_eq.2 i4
                 refine zb fun K hK=>?_;simp only [go_sem,hdb,e3,hdl];repeat first | intro _ | refine ⟨by omega,?_⟩
                 refine hK _ ?_;clear hK K
                 refine ⟨(),trivial,zj [] ?_ ?_⟩
                 · try simp only [go_sem]
                 · try simp only [go_sem]
               · have hpos:=List.length_pos_iff.2 hd
                 have hdb : ((r.ded.length : Int) == 0) = false:=by simp; exact hd
                 have hposI : (0 : Int) < (r.ded.length : Int):=by omega
                 rw [if_neg hd] at i4
                 have htl : t < r.ded.length:=by
                  rcases hR.ded with h | ⟨h,_⟩
                  · exact absurd h hd
                  · omega
                 obtain ⟨d,hdt⟩:=opt_of_lt htl
                 rw [List.getD_eq_getElem?_getD,hdt] at i4
                 have e3 : (gp - w.pts != d) = false:=bne_eq_false_iff_eq.2 i4
                 refine zb fun K hK=>?_;simp only [go_sem,hdb,i1,hdt,htl,e3,hpos,hposI]
                 repeat intro _
                 refine hK _ ?_;clear hK K
                 refine ⟨(),trivial,zj [] ?_ ?_⟩
                 · try simp only [go_sem]
                 · try simp only [go_sem]
             intro _ vs _
             refine zc rfl (fun hc=>?_) (fun hc=>?_) <;> (try simp only [go_sem] at hc)
             refine zx ?_
             try simp only [go_sem]
             have y1 : IntKind.i64.wrap (gp + S1 - w.pts) = gp + S1 - w.pts:=by rw [zI] <;> omega
             have y2 : IntKind.i64.wrap (gp + S1 - w.pts - (gp - w.pts)) = S1:=by rw [zI] <;> omega
             have y3 : IntKind.i64.wrap (S2 + w.f) = S2 + w.f:=by rw [zI] <;> omega
             have y4 : IntKind.i64.wrap (S2 + w.f - w.g) = S2 + gLeg w:=by rw [hgl,zI] <;> omega
             refine zq ?_
             refine zg follows (by decide +kernel) (by kernel_rfl) fun K hK=>?_;simp only [go_sem,y1,y2,y3,y4];refine hK _ ?_;clear hK K;refine zw (zk [5,7,12,14,15,16,18,19]) ?_;simp only [go_sem]
             repeat refine zq ?_
             refine zb fun K hK=>?_;simp only [go_sem];refine hK _ ?_;clear hK K;refine zw (zk [5,7,12,14,15,16,18,19,242]) ?_;simp only [go_sem]
             by_cases hi0 : i = 0
             · subst hi0
               refine zc rfl (fun hc=>?_) (fun hc=>?_) <;> (try simp only [go_sem] at hc)
               refine zf ?_;simp only [go_sem];refine zb fun K hK=>?_;simp only [go_sem];(try simp (disch:=omega) only [zI]);refine hK _ ?_;clear hK K
               try simp only [go_sem]
               refine ⟨by omega,zj [] ?_ ?_⟩
               · try simp only [go_sem]
               · try simp only [go_sem]
             obtain ⟨v,hv⟩:=opt_of_lt (show i - 1 < T.length by omega)
             have hbw:=hadj v hi0 hv
             obtain ⟨t',_,hvt⟩:=hTm v (mem_of_opt hv)
             have hsv:=hsm t'
             rw [← hvt] at hsv
             obtain ⟨_,_,_,_,v5,v6,v7⟩:=hsv
             have hvi : i - 1 < T.length:=by omega
             have hw1 : IntKind.i64.wrap ((i : Int) - 1) = ((i - 1 : Nat) : Int):=by rw [zI] <;> omega
             refine zc rfl (fun hc=>?_) (fun hc=>?_) <;> (try simp only [go_sem] at hc)
             · exact absurd hi0 (by first | omega | (simp at hc; omega))
             refine zx ?_
             try simp only [go_sem]
             refine zq ?_
             refine zb fun K hK=>?_;simp only [go_sem,hw1,hv,hvi];refine hK _ ?_;clear hK K;refine zw (sub_frzP 21 21 (rwR v) (by omega) rfl rfl) ?_;refine zw (zk [5,7,12,14,15,16,18,19,21]) ?_;simp only [go_sem]
             refine zq ?_
             refine zg follows (by decide +kernel) (by kernel_rfl) fun K hK=>?_;simp only [go_sem];(try simp (disch:=omega) only [zI]);refine hK _ ?_;clear hK K;refine zw (zk [5,7,12,14,15,16,18,19,21,22,23]) ?_;simp only [go_sem]
             refine zq ?_
             refine awp_joinV (n:=310) (fun (_ : Unit) vs=>[(5,.r (.rp (trC r))),(7,.r (rwsR T)),(12,.r (rwsR T)),(14,.pt 14 (vs 14) 0),(15,.r (i64 S1)),(16,.r (i64 (S2 + gLeg w))),(18,.r (i64 (i : Int))),(300,.r (.bo false))]) (fun _ vs=>[(14,.box (SB'.map aB))]) (fun _=>True) (fun _ h=>h) ?_ ?_
             · unfold betB at hbw
               by_cases h1 : w.pts = v.pts
               · rw [if_neg (not_not_intro h1)] at hbw
                 have q1 : decide (v.pts < w.pts) = false:=decide_eq_false (by omega)
                 have q2 : (w.pts == v.pts) = true:=by simpa using h1
                 by_cases h2 : w.f - w.g = v.f - v.g
                 · rw [if_neg (not_not_intro h2)] at hbw
                   have q3 : decide (v.f - v.g < w.f - w.g) = false:=decide_eq_false (by omega)
                   have q4 : (w.f - w.g == v.f - v.g) = true:=by simpa using h2
                   by_cases h3 : w.f = v.f
                   · rw [if_neg (not_not_intro h3)] at hbw
                     have q5 : decide (v.f < w.f) = false:=decide_eq_false (by omega)
                     have q6 : (w.f == v.f) = true:=by simpa using h3
                     refine zb fun K hK=>?_;simp only [go_sem,q1,q2,q3,q4,q5,q6,hbw];refine hK _ ?_;clear hK K
                     refine ⟨(),trivial,zj [] ?_ ?_⟩
                     · try simp only [go_sem]
                     · try simp only [go_sem]
                   · rw [if_pos h3] at hbw
                     have q6 : (w.f == v.f) = false:=by simpa using h3
                     refine zb fun K hK=>?_;simp only [go_sem,q1,q2,q3,q4,hbw,q6];refine hK _ ?_;clear hK K
                     refine ⟨(),trivial,zj [] ?_ ?_⟩
                     · try simp only [go_sem]
                     · try simp only [go_sem]
                 · rw [if_pos h2] at hbw
                   have q4 : (w.f - w.g == v.f - v.g) = false:=by simpa using h2
                   refine zb fun K hK=>?_;simp only [go_sem,q1,q2,hbw,q4];refine hK _ ?_;clear hK K
                   refine ⟨(),trivial,zj [] ?_ ?_⟩
                   · try simp only [go_sem]
                   · try simp only [go_sem]
               · rw [if_pos h1] at hbw
                 have q2 : (w.pts == v.pts) = false:=by simpa using h1
                 refine zb fun K hK=>?_;simp only [go_sem,hbw,q2];refine hK _ ?_;clear hK K
                 refine ⟨(),trivial,zj [] ?_ ?_⟩
                 · try simp only [go_sem]
                 · try simp only [go_sem]
             intro _ vs _
             refine zc rfl (fun hc=>?_) (fun hc=>?_) <;> (try simp only [go_sem] at hc)
             refine zx ?_
             try simp only [go_sem]
             refine zb fun K hK=>?_;simp only [go_sem];(try simp (disch:=omega) only [zI]);refine hK _ ?_;clear hK K
             try simp only [go_sem]
             refine ⟨by omega,zj [] ?_ ?_⟩
             · try simp only [go_sem]
             · try simp only [go_sem]
           · have hil : i = T.length:=by omega
             subst hil
             rw [List.take_length,List.drop_length,hsl2]
             have hs0 : sumF (gPts r) ([] : List Rw) = 0:=rfl
             rw [hs0]
             refine zf ?_;simp only [go_sem]
             refine zq ?_
             refine zb fun K hK=>?_;simp only [go_sem,beq_self_eq_true]
             repeat refine ⟨fun _=>?_,fun h=>by first | (cases h; done) | (simp at h)⟩
             refine zh (hkn) rfl (by simp only [go_sem,i64,ints,beq_self_eq_true]) (by simp only [go_sem,i64,ints,beq_self_eq_true]) (by first | exact .inl rfl | exact .inr rfl) ?_
             (try simp only [go_sem,beq_self_eq_true]);refine hK _ ?_;clear hK K;refine zw (zk [4]) ?_;simp only [go_sem];refine ze ?_;simp only [go_sem]
end Go.Proofs.Ytobokbhpeaakjaa

namespace Go.Oc
open Go Go.RowKit Go.ChangeShapes Go.WideShapes
inductive Sh where
 | int (k : IntKind)
 | bool
 | sl (es : List Sh)
def fieldsSh (P : Program) (sh : TypeId → Option (List Sh)) : List Field → Nat → Option (List Sh)
 | [],_=>some []
 | f :: fs, o =>
   match sh f.type with
   | some ss=>if f.offset == o && ss.length == P.cellsOf f.type then match fieldsSh P sh fs (o + ss.length) with | some q=>some (ss ++ q) | none=>none else none
   | none=>none
def shape (P : Program) : Nat → TypeId → Option (List Sh)
 | 0,_=>none
 | n + 1, t =>
   match P.underlying t with
   | some (.int k)=>some [.int k]
   | some .bool=>some [.bool]
   | some (.slice e) =>
     match shape P n e with
     | some ss=>if ss.length == P.cellsOf e && decide (0 < ss.length) then some [.sl ss] else none
     | none=>none
   | some (.array m e) =>
     match shape P n e with
     | some ss=>if ss.length == P.cellsOf e && P.cellsOf t == m * ss.length then some (List.replicate m ss).flatten else none
     | none=>none
   | some (.struct fs) =>
     match fieldsSh P (shape P n) fs.toList 0 with
     | some ss=>if ss.length == P.cellsOf t then some ss else none
     | none=>none
   | _=>none
mutual
def Fits : Sh → RV → Prop
 | .int k,x=>∃ n,x = .it k n ∧ (Lit.int k n).wf = true
 | .bool,x=>∃ b,x = .bo b
 | .sl ss,x=>∃ es,x = .sl ss.length es ∧ FitsE ss es
def FitsL : List Sh → List RV → Prop
 | [],xs=>xs = []
 | s :: ss,xs=>∃ y ys,xs = y :: ys ∧ Fits s y ∧ FitsL ss ys
def FitsE (ss : List Sh) : List (List RV) → Prop
 | []=>True
 | e :: es=>FitsL ss e ∧ FitsE ss es
end
theorem fitsL_append : ∀ {s1 s2 : List Sh} {x1 x2 : List RV},FitsL s1 x1 → FitsL s2 x2 → FitsL (s1 ++ s2) (x1 ++ x2)
 | [],_,_,_,h1,h2=>by simp only [FitsL] at h1; subst h1; simpa using h2
 | s :: ss, s2, x1, x2, h1, h2 => by
   simp only [FitsL] at h1
   obtain ⟨y,ys,rfl,h3,h4⟩:=h1
   simp only [List.cons_append,FitsL];exact ⟨y,_,rfl,h3,fitsL_append h4 h2⟩
theorem fitsL_length : ∀ {ss : List Sh} {xs : List RV},FitsL ss xs → xs.length = ss.length
 | [],_,h=>by simp only [FitsL] at h; subst h; rfl
 | s :: ss, _, h => by
   simp only [FitsL] at h
   obtain ⟨y,ys,rfl,_,h⟩:=h
   simp [fitsL_length h]
theorem fitsE_of : ∀ {ss : List Sh} {es : List (List RV)},(∀ e ∈ es,FitsL ss e) → FitsE ss es
 | _,[],_=>by simp only [FitsE]
 | ss,e :: es,h=>by simp only [FitsE]; exact ⟨h e (by simp),fitsE_of fun x hx=>h x (by simp [hx])⟩
theorem choice {α : Type} {Q : Nat → α → Prop} : ∀ (n : Nat),(∀ i,i < n → ∃ x,Q i x) → ∃ xs : List α,xs.length = n ∧ ∀ i x,xs[i]? = some x → Q i x
 | 0,_=>⟨[],rfl,by simp⟩
 | n + 1, h => by
   obtain ⟨xs,hl,hx⟩:=choice n fun i hi=>h i (by omega)
   obtain ⟨y,hy⟩:=h n (by omega)
   refine ⟨xs ++ [y],by simp [hl],fun i x hi=>?_⟩
   by_cases h1 : i < n
   · rw [List.getElem?_append_left (by omega)] at hi; exact hx i x hi
   · rw [List.getElem?_append_right (by omega)] at hi
     have : i = n:=by have:=(List.getElem?_eq_some_iff.1 hi).1; simp at this; omega
     subst this
     simp [hl] at hi
     exact hi ▸ hy
section
variable {w : World} {P : Program}
theorem cells?_get {base n : Nat} {a : Addr} {cs : List Value} (h : w.cells? base a n = some cs) : cs.length = n ∧ ∀ i,i < n → w.cell? (a.add i) = cs[i]?:=by
 unfold World.cells? at h
 split at h
 · exact ⟨by simpa using mapM_some_length h,fun i hi=>mapM_some_get h i i (by simp [hi])⟩
 · cases h
theorem cell_lt {a : Addr} {v : Value} (h : w.cell? a = some v) : a.block < w.heap.size:=by
 refine Decidable.byContradiction fun hn=>?_
 have : w.heap[a.block]? = none:=by simp; omega
 simp [World.cell?,this] at h
def old (w : World) : Nat → Prop:=fun b=>b < w.heap.size
theorem relC_of_cells {xs : List RV} {cs : List Value} {ad : Addr} (hV : RV.relV w (old w) xs cs) (hone : ∀ u ∈ cs,u.oneCell' = true) (hc : ∀ i,i < cs.length → w.cell? (ad.add i) = cs[i]?) : RV.relC w (old w) xs ad 0:=by
 refine RV.relC_of_get fun i x hx=>?_
 obtain ⟨u,hu,hr⟩:=RV.relV_get hV hx
 have hi:=(List.getElem?_eq_some_iff.1 hu).1
 refine ⟨u,?_,hone u (List.mem_of_getElem? hu),hr⟩
 rw [Nat.zero_add,hc i hi,hu]
variable {H : Type} {enc : TypeId × Value → H} {base : Nat} {spare : Nat → Bool} {held : Bool}
def Good3 (w : World) (ss : List Sh) (cs : List Value) : Prop:=∃ xs,FitsL ss xs ∧ RV.relV w (old w) xs cs ∧ ∀ u ∈ cs,u.oneCell' = true
theorem good3_append {s1 s2 : List Sh} {c1 c2 : List Value} (h1 : Good3 w s1 c1) (h2 : Good3 w s2 c2) : Good3 w (s1 ++ s2) (c1 ++ c2):=by
 obtain ⟨x1,f1,r1,o1⟩:=h1
 obtain ⟨x2,f2,r2,o2⟩:=h2
 refine ⟨x1 ++ x2,fitsL_append f1 f2,RV.relV_append r1 r2,fun u hu=>?_⟩
 rcases List.mem_append.1 hu with hu | hu
 · exact o1 u hu
 · exact o2 u hu
theorem trod_fits : ∀ (fuel n : Nat) (t : TypeId) (cs : List Value) (x : DataW H × List MemPlace) (ss : List Sh),DataW.trod enc P w base spare held fuel t cs = some x → shape P n t = some ss → Good3 w ss cs:=by
 intro fuel
 induction fuel with
 | zero=>intro n t cs x ss h; simp [DataW.trod] at h
 | succ fuel ih =>
   intro n t cs x ss h hs
   cases n with
   | zero=>simp [shape] at hs
   | succ n =>
     unfold shape at hs
     split at hs
     · rename_i k ht
       injection hs with hs; subst hs
       obtain ⟨m,rfl,_,hw⟩:=DataW.trod_int ht h
       exact ⟨[.it k m],by simp only [FitsL,Fits]; exact ⟨_,[],rfl,⟨m,rfl,hw⟩,rfl⟩,by simp only [RV.relV,RV.rel]; exact ⟨_,[],rfl,rfl,rfl⟩,by simp [Value.oneCell']⟩
     · rename_i ht
       injection hs with hs; subst hs
       obtain ⟨b,rfl,_⟩:=DataW.trod_bool ht h
       exact ⟨[.bo b],by simp only [FitsL,Fits]; exact ⟨_,[],rfl,⟨b,rfl⟩,rfl⟩,by simp only [RV.relV,RV.rel]; exact ⟨_,[],rfl,rfl,rfl⟩,by simp [Value.oneCell']⟩
     · rename_i e ht
       split at hs
       · rename_i es hes
         split at hs
         · rename_i hc
           simp only [Bool.and_eq_true,beq_iff_eq,decide_eq_true_eq] at hc
           injection hs with hs; subst hs
           rcases DataW.trod_slice ht h with ⟨rfl,_⟩ | ⟨a,len,cap,elems,rest,m,hm,rfl,_,_,hlc,hcm,hel,hget,_⟩
           · refine ⟨[.sl es.length []],?_,?_,by simp [Value.oneCell']⟩
             · simp only [FitsL,Fits];exact ⟨_,[],rfl,⟨[],rfl,by simp only [FitsE]⟩,rfl⟩
             · simp only [RV.relV,RV.rel];exact ⟨_,[],rfl,⟨none,0,rfl,Nat.le_refl _,Nat.zero_le _,fun h=>absurd rfl h⟩,rfl⟩
           · injection hm with hm; subst hm
             have hall : ∀ i,i < len → ∃ e',FitsL es e' ∧ e'.length = es.length ∧ RV.relC w (old w) e' (a.add (i * es.length)) 0 ∧ a.block < w.heap.size:=fun i hi=>by
              have h1:=hget i hi
              have h2 : i < elems.length:=by omega
              rw [List.getElem?_eq_getElem h2] at h1
              obtain ⟨ci,hci,htr⟩:=Option.bind_eq_some_iff.1 h1
              rw [← hc.1] at hci
              obtain ⟨hl,hcell⟩:=cells?_get hci
              obtain ⟨xs,f,r,o⟩:=ih n e ci _ es htr hes
              refine ⟨xs,f,fitsL_length f,relC_of_cells r o (fun j hj=>hcell j (by omega)),?_⟩
              have h3:=hcell 0 hc.2
              have h4 : 0 < ci.length:=by omega
              rw [List.getElem?_eq_getElem h4] at h3
              have:=cell_lt h3
              rwa [block_add,block_add] at this
             obtain ⟨els,hlen,hels⟩:=choice len hall
             refine ⟨[.sl es.length els],?_,?_,by simp [Value.oneCell']⟩
             · simp only [FitsL,Fits]
               refine ⟨_,[],rfl,⟨els,rfl,fitsE_of fun e' he'=>?_⟩,rfl⟩
               obtain ⟨i,hi⟩:=List.getElem?_of_mem he'
               exact (hels i e' hi).1
             · simp only [RV.relV,RV.rel]
               refine ⟨_,[],rfl,⟨some a,cap,by rw [hlen],by omega,hcm,fun hne=>?_⟩,rfl⟩
               obtain ⟨e0,he0⟩ : ∃ e0,els[0]? = some e0:=by
                cases els with
                | nil=>exact absurd rfl hne
                | cons a l=>exact ⟨a,rfl⟩
               refine ⟨a,rfl,(hels 0 e0 he0).2.2.2,RV.relE_of_get fun i e' he'=>?_⟩
               obtain ⟨_,q1,q2,_⟩:=hels i e' he'
               exact ⟨q1,RV.relC_unbase _ q2⟩
         · cases hs
       · cases hs
     · rename_i m e ht
       split at hs
       · rename_i es hes
         split at hs
         · rename_i hc
           simp only [Bool.and_eq_true,beq_iff_eq] at hc
           injection hs with hs; subst hs
           obtain ⟨xs,fm,hm,_,hcl,hxl,hget⟩:=DataW.trod_array ht h
           injection hm with hm; subst hm
           have key : ∀ j,j ≤ m → Good3 w (List.replicate j es).flatten (cs.take (j * es.length)):=by
            intro j
            induction j with
            | zero=>intro _; exact ⟨[],by simp [FitsL],by simp [RV.relV],by simp⟩
            | succ j ihj =>
              intro hj
              have h1:=hget j (by omega)
              have h2 : j < xs.length:=by omega
              rw [List.getElem?_eq_getElem h2,← hc.1] at h1
              have h3:=ih n e _ _ es h1 hes
              have:=good3_append (ihj (by omega)) h3
              rw [← List.take_add] at this
              rw [List.replicate_succ',List.flatten_append,Nat.add_mul]
              simpa using this
           have:=key m (Nat.le_refl _)
           rwa [← hc.2,← hcl,List.take_length] at this
         · cases hs
       · cases hs
     · rename_i fs ht
       split at hs
       · rename_i q hq
         split at hs
         · rename_i hc
           simp only [beq_iff_eq] at hc
           injection hs with hs; subst hs
           obtain ⟨xs,fm,hm,_,hcl,hxl,hget⟩:=DataW.trod_struct ht h
           injection hm with hm; subst hm
           have key : ∀ (l : List Field) (o : Nat) (q : List Sh),(∀ f ∈ l,∃ y,DataW.trod enc P w base spare held fuel f.type ((cs.drop f.offset).take (P.cellsOf f.type)) = some y) → fieldsSh P (shape P n) l o = some q → Good3 w q ((cs.drop o).take q.length):=by
            intro l
            induction l with
            | nil =>
              intro o q _ hq
              simp only [fieldsSh,Option.some.injEq] at hq
              subst hq
              exact ⟨[],by simp [FitsL],by simp [RV.relV],by simp⟩
            | cons f l ihl =>
              intro o q hall hq
              simp only [fieldsSh] at hq
              split at hq
              · rename_i s1 hs1
                split at hq
                · rename_i hc1
                  simp only [Bool.and_eq_true,beq_iff_eq] at hc1
                  split at hq
                  · rename_i q2 hq2
                    injection hq with hq; subst hq
                    obtain ⟨y,hy⟩:=hall f (by simp)
                    have g1:=ih n f.type _ _ s1 hy hs1
                    have g2:=ihl (o + s1.length) q2 (fun f' hf'=>hall f' (by simp [hf'])) hq2
                    rw [hc1.1,← hc1.2] at g1
                    have:=good3_append g1 g2
                    rw [← List.drop_drop,← List.take_add] at this
                    simpa using this
                  · cases hq
                · cases hq
              · cases hq
           have:=key fs.toList 0 q (fun f hf=>by
            obtain ⟨i,hi⟩:=List.getElem?_of_mem hf
            have hi' : fs[i]? = some f:=by simpa using hi
            have h1:=hget i f hi'
            have h2 : i < xs.length:=by have:=(Array.getElem?_eq_some_iff.1 hi').1; omega
            exact ⟨xs[i],by rw [h1]; exact List.getElem?_eq_getElem h2⟩) hq
           rwa [List.drop_zero,hc,← hcl,List.take_length] at this
         · cases hs
       · cases hs
     · cases hs
def FitsT (P : Program) (n : Nat) (t : TypeId) (x : RV) : Prop:=∃ ss,shape P n t = some ss ∧ if aggOf P t then ∃ xs,x = .ag xs ∧ FitsL ss xs else FitsL ss [x]
theorem arg_fits {n : Nat} {t : TypeId} {v : Value} {d : DataW H} {ps : List MemPlace} {r : Reach} {b0 : Nat} (hs : (shape P n t).isSome = true) (hval : Value.okWide P w r b0 t v) (h : DataW.Trod enc P w base spare held t v d ps) :
 ∃ x,FitsT P n t x ∧ x.rel w (old w) v:=by
 obtain ⟨ss,hss⟩:=Option.isSome_iff_exists.1 hs
 obtain ⟨fuel,hf⟩:=h
 obtain ⟨xs,f,r,o⟩:=trod_fits fuel n t _ _ ss hf hss
 have one : aggOf P t = false → v.cells.toList = [v] → ∃ x,FitsT P n t x ∧ x.rel w (old w) v:=fun ha hc=>by
  rw [hc] at r
  match xs,r with
  | [x], r =>
    simp only [RV.relV] at r
    obtain ⟨u,us,e,hr,_⟩:=r
    injection e with e1 e2
    subst e1
    exact ⟨x,⟨ss,hss,by rw [ha]; exact f⟩,hr⟩
  | [],r=>simp [RV.relV] at r
  | _ :: _ :: _, r =>
    simp only [RV.relV] at r
    obtain ⟨u,us,e,_,u2,us2,e2,_⟩:=r
    injection e with _ e
    rw [e2] at e; cases e
 cases n with
 | zero=>simp [shape] at hss
 | succ n =>
   have hss':=hss
   unfold shape at hss'
   split at hss'
   · rename_i k ht
     obtain ⟨m,rfl⟩:=okWide_int ht hval
     exact one (by simp [aggOf,ht]) rfl
   · rename_i ht
     obtain ⟨b,rfl⟩:=okWide_bool ht hval
     exact one (by simp [aggOf,ht]) rfl
   · rename_i e ht
     obtain ⟨a,l,c,rfl⟩:=okWide_slice ht hval
     exact one (by simp [aggOf,ht]) rfl
   · rename_i m e ht
     obtain ⟨cs,rfl⟩ : ∃ cs,v = .agg cs:=by
      simp only [Value.okWide,ht] at hval
      obtain ⟨cs,h1,_⟩:=hval
      exact ⟨cs,h1⟩
     exact ⟨.ag xs,⟨ss,hss,by simp only [aggOf,ht,if_true]; exact ⟨xs,rfl,f⟩⟩,by simp only [RV.rel]; exact ⟨cs,rfl,o,r⟩⟩
   · rename_i fs ht
     obtain ⟨cs,rfl,_⟩:=okWide_struct ht hval
     exact ⟨.ag xs,⟨ss,hss,by simp only [aggOf,ht,if_true]; exact ⟨xs,rfl,f⟩⟩,by simp only [RV.rel]; exact ⟨cs,rfl,o,r⟩⟩
   · cases hss'
theorem fitsT_ag {n : Nat} {t : TypeId} {x : RV} {ss : List Sh} (h : FitsT P n t x) (hs : shape P n t = some ss) (ha : aggOf P t = true) : ∃ xs,x = .ag xs ∧ FitsL ss xs:=by
 obtain ⟨s',h1,h2⟩:=h
 rw [hs] at h1; injection h1 with h1; subst h1
 rw [ha] at h2
 exact h2
theorem fitsT_one {n : Nat} {t : TypeId} {x : RV} {s : Sh} (h : FitsT P n t x) (hs : shape P n t = some [s]) (ha : aggOf P t = false) : Fits s x:=by
 obtain ⟨s',h1,h2⟩:=h
 rw [hs] at h1; injection h1 with h1; subst h1
 rw [ha] at h2
 simp only [Bool.false_eq_true,if_false,FitsL] at h2
 obtain ⟨y,ys,e,h3,_⟩:=h2
 injection e with e1 e2
 subst e1
 exact h3
end
end Go.Oc

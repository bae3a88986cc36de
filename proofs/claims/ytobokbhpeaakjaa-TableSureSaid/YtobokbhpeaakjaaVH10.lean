/- Part 10 of the texts of this claim. -/
import Derived.Test.YtobokbhpeaakjaaVH9
import Derived.Test.YtobokbhpeaakjaaVH8
namespace Go.Proofs.Ytobokbhpeaakjaa
open Go Go.Oc
set_option linter.unusedSimpArgs false
set_option linter.unusedVariables false
set_option maxRecDepth 8000
set_option maxHeartbeats 4000000
structure Sm where
 teams : Nat
 legs : Nat
 win : Nat
 draw : Nat
 up : Nat
 down : Nat
 ded : List Nat
 ms : List (Nat × Nat × Nat)
 left : Nat
abbrev m3R (v : Nat × Nat × Nat) : List RV:=[u8 v.1,u8 v.2.1,u8 v.2.2]
abbrev smC (x : Sm) : List RV:=[u8 x.teams,u8 x.legs,u8 x.win,u8 x.draw,u8 x.up,u8 x.down,bytesR x.ded,.sl 3 (x.ms.map m3R),u8 x.left]
abbrev smV (x : Sm) : RV:=.ag (smC x)
structure WfS (x : Sm) : Prop where
 teams : x.teams < 256
 legs : x.legs < 256
 win : x.win < 256
 draw : x.draw < 256
 up : x.up < 256
 down : x.down < 256
 ded : ∀ n ∈ x.ded,n < 256
 ms : ∀ v ∈ x.ms,v.1 < 256 ∧ v.2.1 < 256 ∧ v.2.2 < 256
 left : x.left < 256
def sT (x : Sm) : Nat:=2 + x.teams % 7
def sL (x : Sm) : Nat:=1 + x.legs % 12
def sW (x : Sm) : Nat:=x.win % 10
def sD (x : Sm) : Nat:=x.draw % (sW x + 1)
def sU (x : Sm) : Nat:=x.up % (sT x + 1)
def sN (x : Sm) : Nat:=x.down % (sT x - sU x + 1)
def sDed (x : Sm) (i : Nat) : List Int:=(List.range i).map fun k=>((x.ded.getD (k % x.ded.length) 0 % 20 : Nat) : Int)
def divR (x : Sm) : Tr:=⟨sT x,sL x,sW x,sD x,if x.ded = [] then [] else sDed x (sT x),sU x,sN x⟩
def playedB (x : Sm) (i : Nat) : Bool:=decide ((i : Int) < (x.ms.length : Int) - ((x.left % 6 : Nat) : Int)) && decide ((i : Int) < 30 - ((x.left % 6 : Nat) : Int))
def mkM (x : Sm) (i : Nat) (v : Nat × Nat × Nat) : Mt :=
 ⟨((v.1 % sT x : Nat) : Int),(((v.1 % sT x + 1 + v.2.1 % (sT x - 1)) % sT x : Nat) : Int),playedB x i,if playedB x i then ((v.2.2 % (sL x + 1) : Nat) : Int) else 0,if playedB x i then (sL x : Int) - ((v.2.2 % (sL x + 1) : Nat) : Int) else 0⟩
def divK (x : Sm) (i : Nat) : List Mt:=(List.range i).map fun k=>mkM x k (x.ms.getD k (0,0,0))
def divN (x : Sm) : Nat:=min x.ms.length 30
def divL (x : Sm) : List Mt:=divK x (divN x)
theorem sT_le (x : Sm) : 2 ≤ sT x ∧ sT x ≤ 8:=by unfold sT; omega
theorem sL_le (x : Sm) : 1 ≤ sL x ∧ sL x ≤ 12:=by unfold sL; omega
theorem sW_le (x : Sm) : sW x ≤ 9:=by unfold sW; omega
theorem sD_le (x : Sm) : sD x ≤ sW x:=by unfold sD; have:=Nat.mod_lt x.draw (show sW x + 1 > 0 by omega); omega
theorem sU_le (x : Sm) : sU x ≤ sT x:=by unfold sU; have:=Nat.mod_lt x.up (show sT x + 1 > 0 by omega); omega
theorem sN_le (x : Sm) : sN x ≤ sT x - sU x:=by unfold sN; have:=Nat.mod_lt x.down (show sT x - sU x + 1 > 0 by omega); omega
theorem divR_ok (x : Sm) : RulesI (divR x):=by
 have h1:=sT_le x
 have h2:=sL_le x
 have h3:=sW_le x
 have h4:=sD_le x
 have h5:=sU_le x
 have h6:=sN_le x
 refine ⟨?_,?_,?_,?_,?_,?_,?_⟩ <;> simp only [divR] <;> (try omega)
 by_cases h : x.ded = []
 · exact .inl (by rw [if_pos h])
 · refine .inr ?_
   rw [if_neg h]
   refine ⟨by simp [sDed],fun y hy=>?_⟩
   obtain ⟨k,_,rfl⟩:=List.mem_map.1 hy
   omega
theorem mkM_ok (x : Sm) (i : Nat) (v : Nat × Nat × Nat) : MatchI (divR x) (mkM x i v):=by
 have h1:=sT_le x
 have h2:=sL_le x
 have ha:=Nat.mod_lt v.1 (show sT x > 0 by omega)
 have hb:=Nat.mod_lt v.2.1 (show sT x - 1 > 0 by omega)
 have hc:=Nat.mod_lt (v.1 % sT x + 1 + v.2.1 % (sT x - 1)) (show sT x > 0 by omega)
 have hd:=Nat.mod_lt v.2.2 (show sL x + 1 > 0 by omega)
 have hne : v.1 % sT x ≠ (v.1 % sT x + 1 + v.2.1 % (sT x - 1)) % sT x:=by
  generalize v.1 % sT x = p at *
  generalize v.2.1 % (sT x - 1) = q at *
  by_cases h : p + 1 + q < sT x
  · rw [Nat.mod_eq_of_lt h]; omega
  · rw [Nat.mod_eq_sub_mod (by omega),Nat.mod_eq_of_lt (by omega)]; omega
 generalize hpb : playedB x i = pb
 refine ⟨?_,?_,?_,?_,?_⟩ <;> simp only [mkM,divR,legsOf,hpb] <;> generalize v.1 % sT x = p1 at * <;> generalize (p1 + 1 + v.2.1 % (sT x - 1)) % sT x = p2 at * <;> generalize v.2.2 % (sL x + 1) = p3 at *
 · omega
 · omega
 · omega
 · cases pb <;> simp only [Bool.false_eq_true,if_true,if_false] <;> omega
 · cases pb <;> simp only [Bool.false_eq_true,if_true,if_false] <;> omega
theorem divL_ok (x : Sm) : ∀ m ∈ divL x,MatchI (divR x) m:=fun m hm=>by
 obtain ⟨k,_,rfl⟩:=List.mem_map.1 hm
 exact mkM_ok x k _
theorem divL_len (x : Sm) : (divL x).length ≤ 30:=by unfold divL divK divN; rw [List.length_map,List.length_range]; omega
theorem divK_succ {x : Sm} {i : Nat} {v : Nat × Nat × Nat} (h : x.ms[i]? = some v) : divK x (i + 1) = divK x i ++ [mkM x i v]:=by
 unfold divK
 rw [List.range_succ,List.map_append,List.map_cons,List.map_nil,List.getD_eq_getElem?_getD,h]; rfl
theorem left_divK (x : Sm) : ∀ i,i ≤ divN x → (leftV (divK x i)).length = i - min i (divN x - x.left % 6)
 | 0,_=>by simp [divK,leftV]
 | i + 1, h => by
   have ih:=left_divK x i (by omega)
   unfold divN at *
   obtain ⟨v,hv⟩:=opt_of_lt (show i < x.ms.length by omega)
   rw [divK_succ hv,leftV_snoc,List.length_append,ih]
   have e : (mkM x i v).p = playedB x i:=rfl
   rw [e]
   cases hp : playedB x i with
   | true =>
     unfold playedB at hp
     simp only [Bool.and_eq_true,decide_eq_true_eq] at hp
     simp only [if_true,List.length_nil]
     omega
   | false =>
     unfold playedB at hp
     simp only [Bool.and_eq_false_iff,decide_eq_false_iff_not] at hp
     simp only [Bool.false_eq_true,if_false,List.length_cons,List.length_nil]
     omega
theorem left_div (x : Sm) : (leftV (divL x)).length ≤ 5:=by
 unfold divL
 rw [left_divK x _ (Nat.le_refl _)]
 have:=Nat.mod_lt x.left (show 6 > 0 by omega)
 omega
def dedAt (x : Sm) (i : Nat) : Int:=((x.ded.getD (i % x.ded.length) 0 % 20 : Nat) : Int)
theorem sDed_succ (x : Sm) (i : Nat) : sDed x (i + 1) = sDed x i ++ [dedAt x i]:=by simp [sDed,dedAt,List.range_succ]
theorem division_ok (x : Sm) (hw : WfS x) : ACalls Try.prog 36 [smV x] (.tu [trV (divR x),mtsR (divL x)]):=by
 obtain ⟨w1,w2,w3,w4,w5,w6,w7,w8,w9⟩:=hw
 have b1:=sT_le x
 have b2:=sL_le x
 have b3:=sW_le x
 have b4:=sD_le x
 have b5:=sU_le x
 have b6:=sN_le x
 have q1 : Int.tmod (x.teams : Int) 7 = ((x.teams % 7 : Nat) : Int):=rfl
 have q2 : Int.tmod (x.legs : Int) 12 = ((x.legs % 12 : Nat) : Int):=rfl
 have q3 : Int.tmod (x.win : Int) 10 = (sW x : Int):=rfl
 have e1 : 2 + ((x.teams % 7 : Nat) : Int) = (sT x : Int):=by unfold sT; omega
 have e2 : 1 + ((x.legs % 12 : Nat) : Int) = (sL x : Int):=by unfold sL; omega
 have hc1 : IntKind.i64.wrap (x.teams : Int) = x.teams:=by rw [zI] <;> omega
 have hc2 : IntKind.i64.wrap (x.legs : Int) = x.legs:=by rw [zI] <;> omega
 have hc3 : IntKind.i64.wrap (x.win : Int) = x.win:=by rw [zI] <;> omega
 have hc4 : IntKind.i64.wrap (x.draw : Int) = x.draw:=by rw [zI] <;> omega
 have hc5 : IntKind.i64.wrap (x.up : Int) = x.up:=by rw [zI] <;> omega
 have hc6 : IntKind.i64.wrap (x.down : Int) = x.down:=by rw [zI] <;> omega
 have hc9 : IntKind.i64.wrap (x.left : Int) = x.left:=by rw [zI] <;> omega
 have hs2 : IntKind.i64.wrap ((sW x : Int) + 1) = (sW x : Int) + 1:=by rw [zI] <;> omega
 have q4 : Int.tmod (x.draw : Int) ((sW x : Int) + 1) = (sD x : Int):=by rw [show (sW x : Int) + 1 = ((sW x + 1 : Nat) : Int) by omega]; rfl
 have hs3 : IntKind.i64.wrap ((sT x : Int) + 1) = (sT x : Int) + 1:=by rw [zI] <;> omega
 have q5 : Int.tmod (x.up : Int) ((sT x : Int) + 1) = (sU x : Int):=by rw [show (sT x : Int) + 1 = ((sT x + 1 : Nat) : Int) by omega]; rfl
 have hs4 : IntKind.i64.wrap ((sT x : Int) - sU x) = (sT x : Int) - sU x:=by rw [zI] <;> omega
 have hs5 : IntKind.i64.wrap ((sT x : Int) - sU x + 1) = (sT x : Int) - sU x + 1:=by rw [zI] <;> omega
 have q6 : Int.tmod (x.down : Int) ((sT x : Int) - sU x + 1) = (sN x : Int):=by rw [show (sT x : Int) - sU x + 1 = ((sT x - sU x + 1 : Nat) : Int) by omega]; rfl
 have q9 : Int.tmod (x.left : Int) 6 = ((x.left % 6 : Nat) : Int):=rfl
 have hwa : IntKind.i64.wrap (2 + ((x.teams % 7 : Nat) : Int)) = (sT x : Int):=by rw [zI] <;> omega
 have hwb : IntKind.i64.wrap (1 + ((x.legs % 12 : Nat) : Int)) = (sL x : Int):=by rw [zI] <;> omega
 refine acalls_st (rs:=[trV (divR x),mtsR (divL x)]) [.cell 2 35,.tmp 3] Try.func36 rfl (by kernel_rfl) Try.ntmps36 rfl (by simp) rfl fun C vs=>?_
 refine zq ?_
 refine zb fun K hK=>?_;simp only [go_sem];refine hK _ ?_;clear hK K;refine zw (sub_frzP 1 1 (smC x) (by omega) rfl rfl) ?_;refine zw (zk [1,2]) ?_;simp only [go_sem]
 refine zq ?_
 refine zb fun K hK=>?_;simp only [go_sem,hc1,hc2,hc3,q1,q2,q3,hwa,hwb];refine hK _ ?_;clear hK K;refine zw (zk [1,2,4]) ?_;simp only [go_sem]
 refine zq ?_
 refine zb fun K hK=>?_;simp only [go_sem,hc4,hs2,q4]
 refine ⟨by omega,?_⟩
 refine hK _ ?_;clear hK K;refine zw (zk [1,2,4]) ?_;simp only [go_sem]
 refine zq ?_
 refine zb fun K hK=>?_;simp only [go_sem,hc5,hs3,q5]
 refine ⟨by omega,?_⟩
 refine hK _ ?_;clear hK K;refine zw (zk [1,2,4]) ?_;simp only [go_sem]
 refine zq ?_
 refine zb fun K hK=>?_;simp only [go_sem,hc6,hs4,hs5,q6]
 refine ⟨by omega,?_⟩
 refine hK _ ?_;clear hK K;refine zw (zk [1,2,4]) ?_;simp only [go_sem]
 have hdr : (divR x).ded = if x.ded = [] then [] else sDed x (sT x):=rfl
 repeat refine zq ?_
 refine zb fun K hK=>?_;simp only [go_sem]
 intro _
 refine hK _ ?_;clear hK K;refine zw (zk [1,2,4,56]) ?_;simp only [go_sem]
 refine awp_joinV (n:=156) (fun (_ : Unit) vs=>[(1,.r (.rp (smC x))),(2,.pt 2 (vs 2) 0),(4,.pt 4 (vs 4) 0)])
  (fun _ vs=>[(2,.box [.r (i64 0),.r (i64 0),.r (i64 0),.r (i64 0),.r .ns,.r (i64 0),.r (i64 0)]),(4,.box [.r (i64 (sT x : Int)),.r (i64 (sL x : Int)),.r (i64 (sW x : Int)),.r (i64 (sD x : Int)),.r (if x.ded = [] then .ns else ints (sDed x (sT x))),.r (i64 (sU x : Int)),.r (i64 (sN x : Int))])]) (fun _=>True) (fun _ h=>h) ?_ ?_
 · by_cases hd0 : x.ded = []
   · rw [if_pos hd0]
     have hlz : x.ded.length = 0:=by rw [hd0]; rfl
     refine zc rfl (fun hc=>?_) (fun hc=>?_) <;> (try simp only [go_sem] at hc)
     · exfalso; simp [hd0] at hc
     · refine zx ?_
       try simp only [go_sem]
       refine ⟨(),zj [] ?_ ?_⟩
       · try simp only [go_sem]
       · try simp only [go_sem]
         try rfl
   · rw [if_neg hd0]
     have hdl : 0 < x.ded.length:=List.length_pos_iff.2 hd0
     refine zc rfl (fun hc=>?_) (fun hc=>?_) <;> (try simp only [go_sem] at hc)
     · refine zw (sub_ownB 4 4 77 3 1 (by omega) (by omega) rfl rfl) ?_;refine zw (zk [1,2,4]) ?_;simp only [go_sem]
       refine zq ?_
       refine zb fun K hK=>?_;simp only [go_sem];refine hK _ ?_;clear hK K;refine zw (zk [1,2,4,5]) ?_;simp only [go_sem];refine zd ?_
       refine awp_uptoV (n:=156) (sT x) (fun i vs=>[(1,.r (.rp (smC x))),(2,.pt 2 (vs 2) 0),(4,.pt 4 (vs 4) 0),(5,.r (i64 (i : Int)))])
        (fun i vs=>[(2,.box [.r (i64 0),.r (i64 0),.r (i64 0),.r (i64 0),.r .ns,.r (i64 0),.r (i64 0)]),(4,.box [.r (i64 (sT x : Int)),.r (i64 (sL x : Int)),.r (i64 (sW x : Int)),.r (i64 (sD x : Int)),.os 77 (vs 77) 1 0 i,.r (i64 (sU x : Int)),.r (i64 (sN x : Int))]),(77,.arr 3 1 ((sDed x i).map fun y=>[i64 y]))]) (fun _=>True) 0 (zj [] ?_ ?_) (Nat.zero_le _) trivial ?_
       · try simp only [go_sem]
         try rfl
       · try simp only [go_sem]
         try rfl
       · intro i vs hi _
         repeat refine zq ?_
         refine zb fun K hK=>?_;simp only [go_sem];refine hK _ ?_;clear hK K;refine zw (zk [1,2,4,5,60]) ?_;simp only [go_sem]
         refine zc rfl (fun hc=>?_) (fun hc=>?_) <;> (try simp only [go_sem] at hc)
         · have hil : i < sT x:=by omega
           have hkb : i % x.ded.length < x.ded.length:=Nat.mod_lt _ hdl
           obtain ⟨b,hbg⟩:=opt_of_lt hkb
           have hb256:=w7 b (mem_of_opt hbg)
           have hda : dedAt x i = ((b % 20 : Nat) : Int):=by unfold dedAt; rw [List.getD_eq_getElem?_getD,hbg]; rfl
           have hsu:=sDed_succ x i
           rw [hda] at hsu
           have hq : Int.tmod (i : Int) (x.ded.length : Int) = ((i % x.ded.length : Nat) : Int):=rfl
           have hqb : Int.tmod (b : Int) 20 = ((b % 20 : Nat) : Int):=rfl
           have hwb2 : IntKind.i64.wrap (b : Int) = b:=by rw [zI] <;> omega
           have hnz : ¬ x.ded.length = 0:=by omega
           have hlr : (sDed x i).length = i:=by simp [sDed]
           generalize sDed x i = D at *
           generalize sDed x (i + 1) = D' at *
           generalize i % x.ded.length = kb at *
           refine zx ?_
           try simp only [go_sem]
           refine zq ?_
           refine zd ?_
           refine awp_dreg3 [(4,some 4),(1,none),(5,none)] [4] follows (by decide +kernel) (by kernel_rfl) (by simp only [keysOk,List.mem_cons,List.not_mem_nil,forall_eq_or_imp,Oc.keyOf,go_sem]; simp) (by intro k hk; simp only [List.mem_cons,List.not_mem_nil,or_false] at hk; first | (subst hk; exact ⟨_,rfl⟩) | (rcases hk with rfl | rfl <;> exact ⟨_,rfl⟩) | (rcases hk with rfl | rfl | rfl <;> exact ⟨_,rfl⟩)) fun K hK=>?_
           simp only [go_sem,hq,hbg,hkb,hwb2,hqb,hnz,hlr,List.length_map];repeat first | intro _ | refine ⟨by omega,?_⟩
           refine hK _ ?_;clear hK K;refine zw (zk [1,2,4,5]) ?_;simp only [go_sem];refine zb fun K hK=>?_;simp only [go_sem];(try simp (disch:=omega) only [zI]);refine hK _ ?_;clear hK K
           try simp only [go_sem]
           refine ⟨by omega,zj [] ?_ ?_⟩
           · try simp only [go_sem]
           · try simp only [go_sem]
             rw [hsu,List.map_append]
             rfl
         · have hil : i = sT x:=by omega
           subst hil
           have hlr : (sDed x (sT x)).length = sT x:=by simp [sDed]
           refine zf ?_;simp only [go_sem]
           refine ⟨(),fitV_sub (sub_frzB 4 4 77 (ty:=3) (sz:=1) (off:=0) (m:=sT x) (es:=(sDed x (sT x)).map fun y=>[i64 y]) (by omega) (by omega) rfl rfl rfl (by simp [hlr])) (zj [] ?_ ?_)⟩
           · try simp only [go_sem]
           · try simp only [go_sem]
             rw [List.take_of_length_le (by simp [hlr])]
     · exact absurd hdl (by first | omega | (simp at hc; omega))
 intro _ vs _
 refine zq ?_
 have hcd : [.r (i64 (sT x : Int)),.r (i64 (sL x : Int)),.r (i64 (sW x : Int)),.r (i64 (sD x : Int)),.r (if x.ded = [] then .ns else ints (sDed x (sT x))),.r (i64 (sU x : Int)),.r (i64 (sN x : Int))] = ([i64 (sT x : Int),i64 (sL x : Int),i64 (sW x : Int),i64 (sD x : Int),(if x.ded = [] then .ns else ints (sDed x (sT x))),i64 (sU x : Int),i64 (sN x : Int)]).map AV.r:=rfl
 rw [hcd]
 refine zw (sub_frzP 4 4 [i64 (sT x : Int),i64 (sL x : Int),i64 (sW x : Int),i64 (sD x : Int),(if x.ded = [] then .ns else ints (sDed x (sT x))),i64 (sU x : Int),i64 (sN x : Int)] (by omega) rfl rfl) ?_;refine zw (zk [1,2,4]) ?_;simp only [go_sem]
 have hRR : RV.le (.ag [i64 (sT x : Int),i64 (sL x : Int),i64 (sW x : Int),i64 (sD x : Int),(if x.ded = [] then .ns else ints (sDed x (sT x))),i64 (sU x : Int),i64 (sN x : Int)]) (trV (divR x)):=by
  by_cases hd0 : x.ded = []
  · rw [if_pos hd0]
    simp only [trV,trC,hdr,if_pos hd0,divR,RV.le,RV.leL,ints,List.map_nil,and_true,true_and,or_true]
  · rw [if_neg hd0]
    simp only [trV,trC,hdr,if_neg hd0,divR];exact leL_refl.le_refl _
 generalize (if x.ded = [] then RV.ns else ints (sDed x (sT x))) = DD at *
 refine zg follows (by decide +kernel) (by kernel_rfl) fun K hK=>?_;simp only [go_sem,hc9,q9];refine hK _ ?_;clear hK K;refine zw (sub_own 6 153 70 5 (by omega) rfl) ?_;refine zw (zk [1,2,4,6,7]) ?_;simp only [go_sem]
 repeat refine zq ?_
 refine zb fun K hK=>?_;simp only [go_sem];refine hK _ ?_;clear hK K;refine zw (zk [1,2,4,6,7,8]) ?_;simp only [go_sem];refine zd ?_
 refine awp_uptoV (n:=156) (divN x) (fun i vs=>[(1,.r (.rp (smC x))),(2,.pt 2 (vs 2) 0),(4,.r (.rp [i64 (sT x : Int),i64 (sL x : Int),i64 (sW x : Int),i64 (sD x : Int),DD,i64 (sU x : Int),i64 (sN x : Int)])),(6,.os 153 (vs 153) 5 0 i),(7,.r (i64 ((x.left % 6 : Nat) : Int))),(8,.r (i64 (i : Int)))])
  (fun i vs=>[(2,.box [.r (i64 0),.r (i64 0),.r (i64 0),.r (i64 0),.r .ns,.r (i64 0),.r (i64 0)]),(153,.arr 70 5 ((divK x i).map mtR))]) (fun _=>True) 0 (zj [] ?_ ?_) (Nat.zero_le _) trivial ?_
 · try simp only [go_sem]
   try rfl
 · try simp only [go_sem]
   try rfl
 · intro i vs hi _
   have hkl : (divK x i).length = i:=by simp [divK]
   by_cases hin : i < divN x
   · have hi1 : i < x.ms.length:=by unfold divN at hin; omega
     have hi2 : i < 30:=by unfold divN at hin; omega
     have g1 : decide ((i : Int) < 30) = true:=by simp; omega
     obtain ⟨v,hv⟩:=opt_of_lt hi1
     obtain ⟨v1,v2,v3⟩:=w8 v (mem_of_opt hv)
     have hks:=divK_succ hv
     have hmk : mtR (mkM x i v) = [i64 ((v.1 % sT x : Nat) : Int),i64 (((v.1 % sT x + 1 + v.2.1 % (sT x - 1)) % sT x : Nat) : Int),.bo (playedB x i),i64 (if playedB x i then ((v.2.2 % (sL x + 1) : Nat) : Int) else 0),i64 (if playedB x i then (sL x : Int) - ((v.2.2 % (sL x + 1) : Nat) : Int) else 0)]:=rfl
     generalize divK x i = K at *
     generalize divK x (i + 1) = K' at *
     have k1 : IntKind.i64.wrap (v.1 : Int) = v.1:=by rw [zI] <;> omega
     have k2 : Int.tmod (v.1 : Int) (sT x : Int) = ((v.1 % sT x : Nat) : Int):=rfl
     have k3 : IntKind.i64.wrap (v.2.1 : Int) = v.2.1:=by rw [zI] <;> omega
     have k4 : IntKind.i64.wrap ((sT x : Int) - 1) = (sT x : Int) - 1:=by rw [zI] <;> omega
     have k5 : Int.tmod (v.2.1 : Int) ((sT x : Int) - 1) = ((v.2.1 % (sT x - 1) : Nat) : Int):=by rw [show (sT x : Int) - 1 = ((sT x - 1 : Nat) : Int) by omega]; rfl
     have m1:=Nat.mod_lt v.1 (show sT x > 0 by omega)
     have m2:=Nat.mod_lt v.2.1 (show sT x - 1 > 0 by omega)
     generalize v.1 % sT x = p at *
     generalize v.2.1 % (sT x - 1) = q at *
     have k6 : IntKind.i64.wrap ((p : Int) + 1) = (p : Int) + 1:=by rw [zI] <;> omega
     have k7 : IntKind.i64.wrap ((p : Int) + 1 + (q : Int)) = (p : Int) + 1 + (q : Int):=by rw [zI] <;> omega
     have k8 : Int.tmod ((p : Int) + 1 + (q : Int)) (sT x : Int) = (((p + 1 + q) % sT x : Nat) : Int):=by rw [show (p : Int) + 1 + (q : Int) = ((p + 1 + q : Nat) : Int) by omega]; rfl
     have m3:=Nat.mod_lt (p + 1 + q) (show sT x > 0 by omega)
     generalize (p + 1 + q) % sT x = w at *
     have j1 : IntKind.i64.wrap (v.2.2 : Int) = v.2.2:=by rw [zI] <;> omega
     have j2 : IntKind.i64.wrap ((sL x : Int) + 1) = (sL x : Int) + 1:=by rw [zI] <;> omega
     have j3 : Int.tmod (v.2.2 : Int) ((sL x : Int) + 1) = ((v.2.2 % (sL x + 1) : Nat) : Int):=by rw [show (sL x : Int) + 1 = ((sL x + 1 : Nat) : Int) by omega]; rfl
     have m4:=Nat.mod_lt v.2.2 (show sL x + 1 > 0 by omega)
     generalize v.2.2 % (sL x + 1) = u at *
     repeat refine zq ?_
     refine zb fun K hK=>?_;simp only [go_sem,hi1,g1]
     intro _
     refine hK _ ?_;clear hK K;refine zw (zk [1,2,4,6,7,8,92]) ?_;simp only [go_sem]
     refine zc rfl (fun hc=>?_) (fun hc=>?_) <;> (try simp only [go_sem] at hc)
     refine zx ?_
     try simp only [go_sem]
     refine zq ?_
     refine zd ?_
     refine zq ?_
     refine zb fun K hK=>?_;simp only [go_sem,hv,hi1];refine hK _ ?_;clear hK K;refine zw (sub_frzP 9 9 (m3R v) (by omega) rfl rfl) ?_;refine zw (zk [1,2,4,6,7,8,9]) ?_;simp only [go_sem]
     refine zq ?_
     refine zb fun K hK=>?_;simp only [go_sem,k1,k2]
     refine ⟨by omega,?_⟩
     refine hK _ ?_;clear hK K;refine zw (zk [1,2,4,6,7,8,9,10]) ?_;simp only [go_sem]
     refine zq ?_
     refine awp_dreg2 [(10,some 10),(9,none),(4,none)] follows (by decide +kernel) (by kernel_rfl) (by simp only [keysOk,List.mem_cons,List.not_mem_nil,forall_eq_or_imp,Oc.keyOf,go_sem]; simp) fun K hK=>?_
     simp only [go_sem,k3,k4,k5,k6,k7,k8]
     repeat refine ⟨by omega,?_⟩
     refine hK _ ?_;clear hK K;refine zw (zk [1,2,4,6,7,8,9,10]) ?_;simp only [go_sem]
     repeat refine zq ?_
     refine awp_joinV (n:=156) (fun (_ : Unit) vs=>[(1,.r (.rp (smC x))),(2,.pt 2 (vs 2) 0),(4,.r (.rp [i64 (sT x : Int),i64 (sL x : Int),i64 (sW x : Int),i64 (sD x : Int),DD,i64 (sU x : Int),i64 (sN x : Int)])),(6,.os 153 (vs 153) 5 0 i),(7,.r (i64 ((x.left % 6 : Nat) : Int))),(8,.r (i64 (i : Int))),(9,.r (.rp (m3R v))),(10,.pt 10 (vs 10) 0),(134,.r (.bo (playedB x i)))])
      (fun _ vs=>[(2,.box [.r (i64 0),.r (i64 0),.r (i64 0),.r (i64 0),.r .ns,.r (i64 0),.r (i64 0)]),(10,.box [.r (i64 (p : Int)),.r (i64 (w : Int)),.r (.bo false),.r (i64 0),.r (i64 0)]),(153,.arr 70 5 (K.map mtR))]) (fun _=>True) (fun _ h=>h) ?_ ?_
     · have z1 : IntKind.i64.wrap ((x.ms.length : Int) - ((x.left % 6 : Nat) : Int)) = (x.ms.length : Int) - ((x.left % 6 : Nat) : Int):=by rw [zI] <;> omega
       have z2 : IntKind.i64.wrap (30 - ((x.left % 6 : Nat) : Int)) = 30 - ((x.left % 6 : Nat) : Int):=by rw [zI] <;> omega
       by_cases y1 : (i : Int) < (x.ms.length : Int) - ((x.left % 6 : Nat) : Int)
       · have y1b : decide ((i : Int) < (x.ms.length : Int) - ((x.left % 6 : Nat) : Int)) = true:=by simpa using y1
         refine zb fun K hK=>?_;simp only [go_sem,z1,z2,y1b]
         intro _
         refine hK _ ?_;clear hK K
         refine ⟨(),trivial,zj [] ?_ ?_⟩
         · try simp only [go_sem]
           unfold playedB
           rw [y1b]; rfl
         · try simp only [go_sem]
       · have y1b : decide ((i : Int) < (x.ms.length : Int) - ((x.left % 6 : Nat) : Int)) = false:=by simpa using y1
         refine zb fun K hK=>?_;simp only [go_sem,z1,z2,y1b]
         intro _
         refine hK _ ?_;clear hK K
         refine ⟨(),trivial,zj [] ?_ ?_⟩
         · try simp only [go_sem]
           unfold playedB
           rw [y1b]; rfl
         · try simp only [go_sem]
     intro _ vs _
     refine awp_joinV (n:=156) (fun (_ : Unit) vs=>[(1,.r (.rp (smC x))),(2,.pt 2 (vs 2) 0),(4,.r (.rp [i64 (sT x : Int),i64 (sL x : Int),i64 (sW x : Int),i64 (sD x : Int),DD,i64 (sU x : Int),i64 (sN x : Int)])),(6,.os 153 (vs 153) 5 0 i),(7,.r (i64 ((x.left % 6 : Nat) : Int))),(8,.r (i64 (i : Int))),(10,.pt 10 (vs 10) 0)])
      (fun _ vs=>[(2,.box [.r (i64 0),.r (i64 0),.r (i64 0),.r (i64 0),.r .ns,.r (i64 0),.r (i64 0)]),(10,.box [.r (i64 (p : Int)),.r (i64 (w : Int)),.r (.bo (playedB x i)),.r (i64 (if playedB x i then (u : Int) else 0)),.r (i64 (if playedB x i then (sL x : Int) - (u : Int) else 0))]),(153,.arr 70 5 (K.map mtR))]) (fun _=>True) (fun _ h=>h) ?_ ?_
     · cases hpb : playedB x i with
       | true =>
         refine zc rfl (fun hc=>?_) (fun hc=>?_) <;> (try simp only [go_sem] at hc)
         refine zq ?_
         refine awp_dreg2 [(10,some 10),(9,none),(4,none)] follows (by decide +kernel) (by kernel_rfl) (by simp only [keysOk,List.mem_cons,List.not_mem_nil,forall_eq_or_imp,Oc.keyOf,go_sem]; simp) fun K hK=>?_
         simp only [go_sem,j1,j2,j3]
         refine ⟨by omega,?_⟩
         refine hK _ ?_;clear hK K;refine zw (zk [1,2,4,6,7,8,10]) ?_;simp only [go_sem];refine zb fun K hK=>?_;simp only [go_sem];(try simp (disch:=omega) only [zI]);refine hK _ ?_;clear hK K
         refine ⟨(),zj [] ?_ ?_⟩
         · try simp only [go_sem]
         · try simp only [go_sem]
           try simp
       | false =>
         refine zc rfl (fun hc=>?_) (fun hc=>?_) <;> (try simp only [go_sem] at hc)
         refine zx ?_
         try simp only [go_sem]
         refine ⟨(),zj [] ?_ ?_⟩
         · try simp only [go_sem]
         · try simp only [go_sem]
           try simp
     intro _ vs _
     refine zw (sub_frzP 10 10 (mtR (mkM x i v)) (by omega) rfl (by rw [hmk]; rfl)) ?_;refine zw (zk [1,2,4,6,7,8,10]) ?_;simp only [go_sem];refine zb fun K hK=>?_;simp only [go_sem,hkl,List.length_map]
     refine ⟨by omega,?_⟩
     refine hK _ ?_;clear hK K;refine zw (zk [1,2,4,6,7,8]) ?_;simp only [go_sem];refine zb fun K hK=>?_;simp only [go_sem];(try simp (disch:=omega) only [zI]);refine hK _ ?_;clear hK K
     try simp only [go_sem]
     refine ⟨by omega,zj [] ?_ ?_⟩
     · try simp only [go_sem]
     · try simp only [go_sem]
       rw [hks,List.map_append]
       rfl
   · have hil : i = divN x:=by omega
     subst hil
     have hdv : divK x (divN x) = divL x:=rfl
     rw [hdv] at hkl ⊢
     by_cases y1 : divN x < x.ms.length
     · have h30 : divN x = 30:=by unfold divN at y1 ⊢; omega
       have g1 : decide ((divN x : Int) < 30) = false:=by simp; omega
       repeat refine zq ?_
       refine zb fun K hK=>?_;simp only [go_sem,y1,g1]
       intro _
       refine hK _ ?_;clear hK K;refine zw (zk [1,2,4,6,7,8,92]) ?_;simp only [go_sem]
       refine zc rfl (fun hc=>?_) (fun hc=>?_) <;> (try simp only [go_sem] at hc)
       refine zw (sub_frz 6 153 (by omega) rfl rfl (by simp [hkl])) ?_
       have htp : List.take (divN x) ((divL x).map mtR) = (divL x).map mtR:=List.take_of_length_le (by simp [hkl])
       refine zf ?_;simp only [go_sem];refine zw (zk [2,4,6]) ?_;simp only [go_sem];rw [htp]
       refine zq ?_
       refine zb fun K hK=>?_;simp only [go_sem];refine hK _ ?_;clear hK K;refine zw (zk [2,3]) ?_;simp only [go_sem];refine ze ?_;simp only [go_sem]
       simpa only [go_sem] using hRR
     · repeat refine zq ?_
       refine zb fun K hK=>?_;simp only [go_sem,y1]
       intro _
       refine hK _ ?_;clear hK K;refine zw (zk [1,2,4,6,7,8,92]) ?_;simp only [go_sem]
       refine zc rfl (fun hc=>?_) (fun hc=>?_) <;> (try simp only [go_sem] at hc)
       refine zw (sub_frz 6 153 (by omega) rfl rfl (by simp [hkl])) ?_
       have htp : List.take (divN x) ((divL x).map mtR) = (divL x).map mtR:=List.take_of_length_le (by simp [hkl])
       refine zf ?_;simp only [go_sem];refine zw (zk [2,4,6]) ?_;simp only [go_sem];rw [htp]
       refine zq ?_
       refine zb fun K hK=>?_;simp only [go_sem];refine hK _ ?_;clear hK K;refine zw (zk [2,3]) ?_;simp only [go_sem];refine ze ?_;simp only [go_sem]
       simpa only [go_sem] using hRR
abbrev thsR (ts : List Th) : RV:=.sl 21 (ts.map thC)
def span99 (n : Nat) (ts : List Th) (x : Nat) : Int × Int:=ts.foldl (spanS n x) (99,0)
def canB (x : Nat) (m : Nat) (ts : List Th) : Bool:=ts.any fun t=>t.won.getD x 0 == (m : Int)
def sureB (n x : Nat) (place : Int) (m : Nat) (ts : List Th) : Bool:=ts.all fun t=>!(decide ((m : Int) ≤ t.won.getD x 0) && decide (place < (placesV n t x).2))
def magB (n x : Nat) (place : Int) (ts : List Th) (m : Nat) : Bool:=canB x m ts && sureB n x place m ts
def refMagicV (n x : Nat) (place : Int) (ts : List Th) : Int:=match (List.range 91).find? (magB n x place ts) with | some m=>(m : Int) | none=>-1
def betB (a b : Rw) : Bool :=
 if a.pts ≠ b.pts then decide (b.pts < a.pts) else if a.f - a.g ≠ b.f - b.g then decide (b.f - b.g < a.f - a.g) else if a.f ≠ b.f then decide (b.f < a.f) else decide (a.team < b.team)
abbrev rwA (x : Rw) : List AV:=[.r (i64 x.team),.r (i64 x.pl),.r (i64 x.won),.r (i64 x.dr),.r (i64 x.lo),.r (i64 x.f),.r (i64 x.g),.r (i64 x.pts)]
def zeroW : Rw:=⟨0,0,0,0,0,0,0,0⟩
def atK (w : Nat → Rw) (i k : Nat) : Nat:=((List.range k).filter fun j=>betB (w j) (w i)).length
def tabK (w : Nat → Rw) (n i : Nat) : List Rw:=(List.range i).foldl (fun out j=>out.set (atK w j n) (w j)) (List.replicate n zeroW)
theorem orV_step (x y : Int) (L : List Int) : decide (orV (cmpI x y :: L) < 0) = if y ≠ x then decide (x < y) else decide (orV L < 0):=by
 unfold cmpI
 rcases Int.lt_trichotomy x y with h | h | h
 · have h2 : y ≠ x:=by omega
   simp [orV,h,h2]
 · subst h
   simp [orV]
 · have h1 : ¬ x < y:=by omega
   have h2 : y ≠ x:=by omega
   simp [orV,h,h1,h2]
theorem betB_lt (a b : Rw) : betB a b = ltW a b:=by
 unfold betB ltW cmpW
 rw [orV_step,orV_step,orV_step,orV_step]
 by_cases h : b.team ≠ a.team
 · rw [if_pos h]
 · rw [if_neg h]
   have : ¬ a.team < b.team:=by omega
   simp [orV,this]
theorem insB_perm (lt : Rw → Rw → Bool) (x : Rw) : ∀ R,(insB lt x R).Perm (x :: R)
 | []=>by simp [insB]
 | y :: R => by
   unfold insB
   split
   · exact ((insB_perm lt x R).cons y).trans (List.Perm.swap x y R)
   · exact List.Perm.refl _
theorem sortB_perm (lt : Rw → Rw → Bool) : ∀ l R,(sortB lt l R).Perm (l ++ R)
 | [],R=>by simp [sortB]
 | x :: l, R => by
   simp only [sortB]
   refine (sortB_perm lt l _).trans ?_
   refine ((insB_perm lt x R).append_left l).trans ?_
   exact List.perm_middle
theorem sortN_perm (lt : Rw → Rw → Bool) (l : List Rw) : (sortN lt l).Perm l:=by
 unfold sortN
 refine (List.reverse_perm _).trans ?_
 simpa using sortB_perm lt l []
def DescP (lt : Rw → Rw → Bool) (R : List Rw) : Prop:=R.Pairwise fun a b=>lt a b = false
theorem insB_desc {lt : Rw → Rw → Bool} (asym : ∀ a b,lt a b = true → lt b a = false) (trans : ∀ a b c,lt a b = false → lt b c = false → lt a c = false) (x : Rw) : ∀ R,DescP lt R → DescP lt (insB lt x R)
 | [],_=>by simp [insB,DescP]
 | y :: R, h => by
   obtain ⟨h1,h2⟩:=List.pairwise_cons.1 h
   unfold insB
   split
   · rename_i hy
     refine List.pairwise_cons.2 ⟨fun z hz=>?_,insB_desc asym trans x R h2⟩
     rw [mem_insB] at hz
     rcases hz with rfl | hz
     · exact asym _ _ hy
     · exact h1 z hz
   · rename_i hy
     have hy' : lt x y = false:=by simpa using hy
     refine List.pairwise_cons.2 ⟨fun z hz=>?_,h⟩
     rcases List.mem_cons.1 hz with rfl | hz
     · exact hy'
     · exact trans _ _ _ hy' (h1 z hz)
theorem sortB_desc {lt : Rw → Rw → Bool} (asym : ∀ a b,lt a b = true → lt b a = false) (trans : ∀ a b c,lt a b = false → lt b c = false → lt a c = false) : ∀ l R,DescP lt R → DescP lt (sortB lt l R)
 | [],R,h=>h
 | x :: l,R,h=>by simp only [sortB]; exact sortB_desc asym trans l _ (insB_desc asym trans x R h)
theorem sortN_asc {lt : Rw → Rw → Bool} (asym : ∀ a b,lt a b = true → lt b a = false) (trans : ∀ a b c,lt a b = false → lt b c = false → lt a c = false) (l : List Rw) : (sortN lt l).Pairwise fun a b=>lt b a = false:=by
 unfold sortN
 rw [List.pairwise_reverse]
 exact sortB_desc asym trans l [] List.Pairwise.nil
theorem betB_asym (a b : Rw) (h : betB a b = true) : betB b a = false:=by
 unfold betB at *
 (repeat' split at h) <;> (repeat' split) <;> simp at * <;> omega
theorem betB_trans (a b c : Rw) (h : betB a b = false) (h2 : betB b c = false) : betB a c = false:=by
 unfold betB at *
 (repeat' split at h) <;> (repeat' split at h2) <;> (repeat' split) <;> simp at * <;> omega
theorem team_row (r : Tr) (l : List Mt) (t : Nat) : (rowT r l t).team = t:=by
 induction l using snoc_ind with
 | h0=>rfl
 | h1 l m ih =>
   rw [rowT_snoc]
   unfold stepW
   (repeat' split) <;> simp [addW,ih]
set_option maxHeartbeats 2000000
def sumF {α : Type} (f : α → Int) : List α → Int
 | []=>0
 | x :: l=>f x + sumF f l
theorem sumF_app {α : Type} (f : α → Int) : ∀ a b : List α,sumF f (a ++ b) = sumF f a + sumF f b
 | [],b=>by simp [sumF]
 | x :: a,b=>by simp only [List.cons_append,sumF,sumF_app f a b]; omega
theorem sumF_perm {α : Type} (f : α → Int) {a b : List α} (h : a.Perm b) : sumF f a = sumF f b:=by
 induction h with
 | nil=>rfl
 | cons x _ ih=>simp only [sumF,ih]
 | swap x y l=>simp only [sumF]; omega
 | trans _ _ h1 h2=>rw [h1,h2]
theorem sumF_map {α β : Type} (f : β → Int) (g : α → β) : ∀ l : List α,sumF f (l.map g) = sumF (fun x=>f (g x)) l
 | []=>rfl
 | x :: l=>by simp only [List.map_cons,sumF,sumF_map f g l]
theorem sumF_zero {α : Type} {f : α → Int} : ∀ {l : List α},(∀ x ∈ l,f x = 0) → sumF f l = 0
 | [],_=>rfl
 | x :: l,h=>by simp only [sumF,h x (by simp),sumF_zero (l:=l) fun y hy=>h y (by simp [hy])]; rfl
theorem sumF_congr {α : Type} {f g : α → Int} : ∀ {l : List α},(∀ x ∈ l,f x = g x) → sumF f l = sumF g l
 | [],_=>rfl
 | x :: l,h=>by simp only [sumF,h x (by simp),sumF_congr (l:=l) fun y hy=>h y (by simp [hy])]
def gPts (r : Tr) (x : Rw) : Int:=r.win * x.won + r.draw * x.dr
def gLeg (x : Rw) : Int:=x.f - x.g
def aPts (r : Tr) (m : Mt) : Int:=if m.g < m.f then r.win else if m.f = m.g then r.draw else 0
def bPts (r : Tr) (m : Mt) : Int:=if m.f < m.g then r.win else if m.f = m.g then r.draw else 0
def mPts (r : Tr) (m : Mt) : Int:=if m.p = true ∧ m.f = m.g then 2 * r.draw else if m.p = true then r.win else 0
structure RowI (r : Tr) (t : Nat) (x : Rw) : Prop where
 team : x.team = t
 pl : x.pl = x.won + x.dr + x.lo
 legs : x.f + x.g = r.legs * x.pl
 own : gPts r x - x.pts = if r.ded = [] then 0 else r.ded.getD t 0
def backL (l : List Mt) (s i : Nat) : List Mt:=(List.range i).foldl (fun b k=>l.getD ((k + s) % l.length) ⟨0,0,false,0,0⟩ :: b) []
theorem index_none' {α : Type} {p : α → Bool} : ∀ {l : List α},(∀ y ∈ l,p y = false) → indexF p l = -1
 | [],_=>rfl
 | y :: l, h => by
   have ih:=index_none' (l:=l) fun z hz=>h z (by simp [hz])
   unfold indexF
   rw [ih]
   simp [h y (by simp)]
theorem ded_len {r : Tr} (hr : RulesI r) : r.ded.length ≤ 10:=by
 rcases hr.ded with h | ⟨h,_⟩
 · rw [h]; simp
 · have:=hr.teams; omega
theorem check_good {r : Tr} {l : List Mt} (hr : RulesI r) (hl : ∀ m ∈ l,MatchI r m) (hll : l.length ≤ 180) : checkV r l = (0,0):=by
 have hd:=ded_len hr
 have hb : badM r l = -1:=index_none' fun x hx=>by simp [matchOk_iff.2 (hl x hx)]
 unfold checkV
 rw [if_neg (by omega),if_neg (by simp [rulesOk_iff.2 hr]),hb,if_neg (by omega)]
theorem wf_good {r : Tr} {l : List Mt} (hr : RulesI r) (hl : ∀ m ∈ l,MatchI r m) : Wf r l:=by
 obtain ⟨h1,h2,h3,h4,h5,h6,h7⟩:=hr
 refine ⟨⟨?_,?_,?_,?_,fun x hx=>?_,?_,?_⟩,fun m hm=>?_⟩
 · unfold I64; omega
 · unfold I64; omega
 · unfold I64; omega
 · unfold I64; omega
 · rcases h5 with h | ⟨_,h⟩
   · rw [h] at hx; simp at hx
   · have:=h x hx; unfold I64; omega
 · unfold I64; omega
 · unfold I64; omega
 · obtain ⟨a1,a2,a3,a4,a5⟩:=hl m hm
   have hlg : 0 ≤ legsOf r m ∧ legsOf r m ≤ 25:=by unfold legsOf; split <;> omega
   refine ⟨?_,?_,?_,?_⟩ <;> unfold I64 <;> omega
def tabT (r : Tr) (l : List Mt) : List Rw:=sortW (rowsL r l)
theorem tab_perm (r : Tr) (l : List Mt) : (tabT r l).Perm (rowsL r l):=by unfold tabT sortW; exact sortN_perm _ _
theorem tab_len (r : Tr) (l : List Mt) : (tabT r l).length = nT r:=by rw [(tab_perm r l).length_eq]; simp [rowsL]
theorem tab_mem {r : Tr} {l : List Mt} {w : Rw} (h : w ∈ tabT r l) : ∃ t,t < nT r ∧ w = rowT r l t:=by
 obtain ⟨t,ht,rfl⟩:=List.mem_map.1 ((tab_perm r l).mem_iff.1 h)
 exact ⟨t,List.mem_range.1 ht,rfl⟩
theorem tab_asc (r : Tr) (l : List Mt) : (tabT r l).Pairwise fun a b=>betB b a = false:=by
 have e : tabT r l = sortN betB (rowsL r l):=by
  have : betB = ltW:=funext fun a=>funext fun b=>betB_lt a b
  unfold tabT sortW; rw [this]
 rw [e]
 exact sortN_asc betB_asym betB_trans _
def seenB (T : List Rw) (i : Nat) : List Bool:=(List.range 10).map fun j : Nat=>(T.take i).any fun w=>w.team == (j : Int)
def ctr (r : Tr) (m : Mt) (x : Int) (i : Nat) : Int:=(if m.h.toNat = i then (ptsV r x).1 else 0) + (if m.a.toNat = i then (ptsV r x).2 else 0)
def ctrs (r : Tr) : List Mt → List Int → Nat → Int
 | m :: ms,x :: xs,i=>ctr r m x i + ctrs r ms xs i
 | _,_,_=>0
def truthOf (r : Tr) (left : List Mt) (t : Th) (res : List Int) : Th :=
 ⟨t.res ++ res,(List.range 10).map fun i=>t.pts.getD i 0 + ctrs r left res i,(List.range 10).map fun i=>t.won.getD i 0 + ctrs r left res i⟩
def resL (r : Tr) : Nat → List (List Int)
 | 0=>[[]]
 | n + 1=>(xsOf r).flatMap fun x=>(resL r n).map (x :: ·)
theorem getD_set (l : List Int) (h : Nat) (v : Int) (i : Nat) (hh : h < l.length) : (l.set h v).getD i 0 = if h = i then v else l.getD i 0:=by
 rw [List.getD_eq_getElem?_getD,List.getElem?_set,List.getD_eq_getElem?_getD]
 by_cases e : h = i
 · subst e; rw [if_pos rfl,if_pos rfl,if_pos hh]; rfl
 · rw [if_neg e,if_neg e]
theorem bump_getD (l : List Int) (h a : Nat) (p q : Int) (i : Nat) (hh : h < l.length) (ha : a < l.length) (hne : h ≠ a) : (bump l h a p q).getD i 0 = l.getD i 0 + ((if h = i then p else 0) + (if a = i then q else 0)):=by
 unfold bump
 rw [getD_set _ _ _ _ (by simpa using ha),getD_set _ _ _ _ hh]
 by_cases e : a = i
 · subst e; rw [if_pos rfl,if_pos rfl,if_neg hne]; omega
 · by_cases e2 : h = i
   · subst e2; rw [if_neg e,if_neg e,if_pos rfl,if_pos rfl]; omega
   · rw [if_neg e,if_neg e,if_neg e2,if_neg e2]; omega
theorem range_getD (l : List Int) (h : l.length = 10) : (List.range 10).map (fun i=>l.getD i 0) = l:=by
 refine List.ext_getElem? fun i=>?_
 rw [List.getElem?_map]
 by_cases hi : i < 10
 · rw [List.getElem?_range hi,Option.map_some,List.getD_eq_getElem?_getD,List.getElem?_eq_getElem (by omega)]; rfl
 · rw [List.getElem?_eq_none (by simp; omega),List.getElem?_eq_none (by omega)]; rfl
theorem truthOf_nil (r : Tr) (t : Th) (h : t.pts.length = 10) (h2 : t.won.length = 10) : truthOf r [] t [] = t:=by
 unfold truthOf
 simp only [ctrs,Int.add_zero,List.append_nil];rw [range_getD _ h,range_getD _ h2]
theorem truthOf_cons (r : Tr) (m : Mt) (ms : List Mt) (t : Th) (x : Int) (xs : List Int) (h : t.pts.length = 10) (h2 : t.won.length = 10) (hh : m.h.toNat < 10) (ha : m.a.toNat < 10) (hne : m.h.toNat ≠ m.a.toNat) :
 truthOf r ms (nextT r m x t) xs = truthOf r (m :: ms) t (x :: xs):=by
 unfold truthOf nextT
 simp only [ctrs,List.append_assoc,List.cons_append,List.nil_append]
 congr 1
 · refine List.map_congr_left fun i _=>?_
   rw [bump_getD _ _ _ _ _ _ (by omega) (by omega) hne]
   unfold ctr; omega
 · refine List.map_congr_left fun i _=>?_
   rw [bump_getD _ _ _ _ _ _ (by omega) (by omega) hne]
   unfold ctr; omega
theorem flatMap_ext {α β : Type} {l : List α} {f g : α → List β} (h : ∀ x ∈ l,f x = g x) : l.flatMap f = l.flatMap g:=by
 induction l with
 | nil=>rfl
 | cons x l ih=>rw [List.flatMap_cons,List.flatMap_cons,h x (by simp),ih fun y hy=>h y (by simp [hy])]
theorem truthsV_eq {r : Tr} (hr : RulesI r) : ∀ (left : List Mt) (t : Th),(∀ m ∈ left,MatchI r m) → t.pts.length = 10 → t.won.length = 10 →
 truthsV r left t = (resL r left.length).map (truthOf r left t)
 | [],t,_,h1,h2=>by simp only [truthsV,resL,List.length_nil,List.map_cons,List.map_nil]; rw [truthOf_nil r t h1 h2]
 | m :: ms, t, hm, h1, h2 => by
   have hmi:=hm m (by simp)
   have b1:=hmi.h
   have b2:=hmi.a
   have b3:=hmi.ne
   have b4:=hr.teams
   simp only [truthsV,resL,List.length_cons,List.map_flatMap,List.map_map]
   refine flatMap_ext fun x _=>?_
   rw [truthsV_eq hr ms _ (fun m' h=>hm m' (by simp [h])) (by simp [nextT,bump_len,h1]) (by simp [nextT,bump_len,h2])]
   refine List.map_congr_left fun xs _=>?_
   exact truthOf_cons r m ms t x xs h1 h2 (by omega) (by omega) (by omega)
theorem left_mem {r : Tr} {l : List Mt} (h : ∀ m ∈ l,MatchI r m) : ∀ m ∈ leftV l,MatchI r m:=fun m hm=>h m ((List.mem_filter.1 hm).1)
theorem start_len {r : Tr} (hr : RulesI r) (l : List Mt) : (startT r l).pts.length = 10 ∧ (startT r l).won.length = 10:=by
 obtain ⟨hn,hn2,hn10⟩:=nT_eq hr
 refine ⟨?_,by simp [startT]⟩
 simp only [startT,List.length_append,ptsL_len,List.length_replicate]; omega
theorem truthsL_eq {r : Tr} (hr : RulesI r) {l : List Mt} (hl : ∀ m ∈ l,MatchI r m) : truthsL r l = (resL r (leftV l).length).map (truthOf r (leftV l) (startT r l)) :=
 truthsV_eq hr _ _ (left_mem hl) (start_len hr l).1 (start_len hr l).2
theorem resL_mem {r : Tr} : ∀ {n : Nat} {res : List Int},res ∈ resL r n ↔ res.length = n ∧ ∀ x ∈ res,x ∈ xsOf r
 | 0, res => by
   simp only [resL,List.mem_singleton]
   constructor
   · rintro rfl; simp
   · rintro ⟨h,_⟩; exact List.length_eq_zero_iff.1 h
 | n + 1, res => by
   simp only [resL,List.mem_flatMap,List.mem_map]
   constructor
   · rintro ⟨x,hx,ys,hy,rfl⟩
     obtain ⟨h1,h2⟩:=resL_mem.1 hy
     refine ⟨by simp [h1],fun z hz=>?_⟩
     rcases List.mem_cons.1 hz with rfl | hz
     · exact hx
     · exact h2 z hz
   · rintro ⟨h1,h2⟩
     cases res with
     | nil=>simp at h1
     | cons x ys=>exact ⟨x,h2 x (by simp),ys,resL_mem.2 ⟨by simpa using h1,fun z hz=>h2 z (by simp [hz])⟩,rfl⟩
set_option maxHeartbeats 2000000
def cM (r : Tr) (t : Nat) (m : Mt) : Int:=if m.p then (if m.h = (t : Int) then (ptsV r (resV m)).1 else if m.a = (t : Int) then (ptsV r (resV m)).2 else 0) else 0
theorem pts_sum (r : Tr) (l : List Mt) (t : Nat) : (rowT r l t).pts = (startW r t).pts + sumF (cM r t) l:=by
 induction l using snoc_ind with
 | h0=>simp [rowT,sumF]
 | h1 l m ih =>
   rw [rowT_snoc,sumF_app]
   simp only [sumF]
   have hc : cM r t m = if m.p then (if m.h = (t : Int) then (ptsV r (resV m)).1 else if m.a = (t : Int) then (ptsV r (resV m)).2 else 0) else 0:=rfl
   rw [hc]
   unfold stepW
   cases m.p
   · simp [ih]
   · simp only [if_true]
     (repeat' split) <;> simp only [addW,ih] <;> omega
theorem resV_put {r : Tr} (hr : RulesI r) {res : List Int} {k : Nat} {x : Int} (hk : res[k]? = some x) (hx : x ∈ xsOf r) {m : Mt} (hf : m.f = 0) : resV (putM r res k m) = x:=by
 have h1:=hr.legs
 have hx' : x = 0 ∨ (x = 1 ∧ r.legs % 2 = 0) ∨ x = 2:=by
  unfold xsOf at hx
  by_cases h : r.legs % 2 = 1
  · rw [if_pos h] at hx; simp at hx; omega
  · rw [if_neg h] at hx; simp at hx; omega
 unfold resV putM forV
 rw [hk,hf]
 rcases hx' with rfl | ⟨rfl,h⟩ | rfl
 · simp only [Option.some.injEq,if_true]; rw [if_pos (by omega)]
 · simp only [Option.some.injEq,if_true,Int.reduceEq,if_false]; rw [if_neg (by omega),if_neg (by omega)]
 · simp only [Option.some.injEq,if_true,Int.reduceEq,if_false]; rw [if_neg (by omega),if_pos (by omega)]
theorem leftV_cons (m : Mt) (l : List Mt) : leftV (m :: l) = if m.p then leftV l else m :: leftV l:=by
 unfold leftV; rw [List.filter_cons]; cases m.p <;> simp
theorem fill_sum {r : Tr} (hr : RulesI r) {res : List Int} (hx : ∀ x ∈ res,x ∈ xsOf r) (t : Nat) : ∀ (l : List Mt) (k : Nat),(∀ m ∈ l,MatchI r m) → k + (leftV l).length ≤ res.length →
 sumF (cM r t) (fillL r res k l) = sumF (cM r t) l + ctrs r (leftV l) (res.drop k) t
 | [],k,_,_=>by simp [fillL,sumF,leftV,ctrs]
 | m :: ms, k, hl, hk => by
   have hm:=hl m (by simp)
   have ih:=fun k' h=>fill_sum hr hx t ms k' (fun m' h=>hl m' (by simp [h])) h
   rw [leftV_cons] at hk ⊢
   unfold fillL
   cases hp : m.p with
   | true =>
     simp only [hp,if_true] at hk ⊢
     simp only [sumF,ih k hk]; omega
   | false =>
     simp only [hp,Bool.false_eq_true,if_false,List.length_cons] at hk ⊢
     obtain ⟨x,hxk⟩:=opt_of_lt (show k < res.length by omega)
     have hxm:=hx x (mem_of_opt hxk)
     have hlg : legsOf r m = 0:=by unfold legsOf; rw [hp]; rfl
     have hf:=hm.f
     rw [hlg] at hf
     have hrv:=resV_put hr hxk hxm (m:=m) (by omega)
     rw [drop_of_opt hxk]
     simp only [sumF,ctrs,ih (k + 1) (by omega)]
     have e1 : cM r t m = 0:=by unfold cM; rw [hp]; rfl
     have e2 : cM r t (putM r res k m) = ctr r m x t:=by
      have b1:=hm.h
      have b2:=hm.a
      have b3:=hm.ne
      unfold cM ctr
      rw [hrv]
      have p1 : (putM r res k m).p = true:=rfl
      have p2 : (putM r res k m).h = m.h:=rfl
      have p3 : (putM r res k m).a = m.a:=rfl
      rw [p1,p2,p3]
      simp only [if_true]
      (repeat' split) <;> omega
     rw [e1,e2]; omega
theorem forV_le {r : Tr} (hr : RulesI r) (res : List Int) (k : Nat) {f : Int} (hf : f = 0) : 0 ≤ forV r res k f ∧ forV r res k f ≤ r.legs:=by
 have:=hr.legs
 unfold forV; (repeat' split) <;> omega
theorem fill_match {r : Tr} (hr : RulesI r) (res : List Int) : ∀ (l : List Mt) (k : Nat),(∀ m ∈ l,MatchI r m) → ∀ m ∈ fillL r res k l,MatchI r m
 | [],_,_,m,h=>by simp [fillL] at h
 | x :: ms, k, hl, m, h => by
   have hx:=hl x (by simp)
   unfold fillL at h
   cases hp : x.p with
   | true =>
     rw [hp,if_pos rfl] at h
     rcases List.mem_cons.1 h with rfl | h
     · exact hx
     · exact fill_match hr res ms k (fun m' h=>hl m' (by simp [h])) m h
   | false =>
     rw [hp] at h
     simp only [Bool.false_eq_true,if_false] at h
     rcases List.mem_cons.1 h with rfl | h
     · have hlg : legsOf r x = 0:=by unfold legsOf; rw [hp]; rfl
       have hf:=hx.f
       rw [hlg] at hf
       have hb:=forV_le hr res k (show x.f = 0 by omega)
       have hlo : legsOf r (putM r res k x) = r.legs:=rfl
       refine ⟨hx.h,hx.a,hx.ne,?_,?_⟩
       · rw [hlo]; exact hb
       · rw [hlo]; rfl
     · exact fill_match hr res ms (k + 1) (fun m' h=>hl m' (by simp [h])) m h
theorem start_getD {r : Tr} (l : List Mt) {t : Nat} (ht : t < nT r) : (startT r l).pts.getD t 0 = (rowT r l t).pts:=by
 unfold startT
 simp only
 rw [List.getD_eq_getElem?_getD,List.getElem?_append_left (by rw [ptsL_len]; exact ht)]
 unfold ptsL rowsL
 rw [List.getElem?_map,List.getElem?_map,List.getElem?_range ht]
 rfl
theorem fill_pts {r : Tr} (hr : RulesI r) {l : List Mt} (hl : ∀ m ∈ l,MatchI r m) {res : List Int} (hx : ∀ x ∈ res,x ∈ xsOf r) (hlen : res.length = (leftV l).length) {t : Nat} (ht : t < nT r) :
 (rowT r (fillL r res 0 l) t).pts = (truthOf r (leftV l) (startT r l) res).pts.getD t 0:=by
 obtain ⟨hn,hn2,hn10⟩:=nT_eq hr
 rw [pts_sum,fill_sum hr hx t l 0 hl (by omega),List.drop_zero]
 unfold truthOf
 simp only
 have hg : ((List.range 10).map fun i=>(startT r l).pts.getD i 0 + ctrs r (leftV l) res i).getD t 0 = (startT r l).pts.getD t 0 + ctrs r (leftV l) res t:=by
  rw [List.getD_eq_getElem?_getD,List.getElem?_map,List.getElem?_range (by omega)]; rfl
 rw [hg,start_getD l ht,pts_sum]; omega
def b1 (p : Prop) [Decidable p] : Int:=if p then 1 else 0
theorem places_cnt1 (T : Th) (x : Nat) : ∀ n,(placesV n T x).1 = 1 + sumF (fun j : Nat=>b1 (T.pts.getD x 0 < T.pts.getD j 0)) (List.range n)
 | 0=>by simp [placesV,sumF]
 | n + 1 => by
   rw [places_succ,List.range_succ,sumF_app]
   simp only [plS,sumF,places_cnt1 T x n,b1]
   omega
theorem places_cnt2' (T : Th) (x : Nat) : ∀ n,(placesV n T x).2 = (if x < n then 0 else 1) + sumF (fun j : Nat=>b1 (T.pts.getD x 0 ≤ T.pts.getD j 0)) (List.range n)
 | 0=>by simp [placesV,sumF]
 | n + 1 => by
   rw [places_succ,List.range_succ,sumF_app]
   simp only [plS,sumF,places_cnt2' T x n,b1]
   by_cases e : x = n
   · subst e
     rw [if_neg (Nat.lt_irrefl _),if_pos (show x < x + 1 by omega),if_neg (by simp),if_pos (Int.le_refl _)]; omega
   · have h1 : (x < n + 1) = (x < n):=by simp; omega
     simp only [h1]
     (repeat' split) <;> omega
theorem places_cnt2 (T : Th) {x n : Nat} (hx : x < n) : (placesV n T x).2 = sumF (fun j : Nat=>b1 (T.pts.getD x 0 ≤ T.pts.getD j 0)) (List.range n):=by
 rw [places_cnt2',if_pos hx]; omega
theorem cnt_tab (r : Tr) (l : List Mt) (g : Int → Int) : sumF (fun v : Rw=>g v.pts) (tabT r l) = sumF (fun j=>g (rowT r l j).pts) (List.range (nT r)):=by
 rw [sumF_perm _ (tab_perm r l)]
 unfold rowsL
 rw [sumF_map]
theorem cnt_le {α : Type} {p : α → Prop} [∀ x,Decidable (p x)] : ∀ l : List α,0 ≤ sumF (fun x=>b1 (p x)) l ∧ sumF (fun x=>b1 (p x)) l ≤ l.length
 | []=>by simp [sumF]
 | x :: l => by
   have ih:=cnt_le (p:=p) l
   simp only [sumF,b1,List.length_cons] at ih ⊢
   split <;> omega
theorem cnt_all {α : Type} {p : α → Prop} [∀ x,Decidable (p x)] : ∀ {l : List α},(∀ x ∈ l,p x) → sumF (fun x=>b1 (p x)) l = l.length
 | [],_=>rfl
 | x :: l, h => by
   have ih:=cnt_all (p:=p) (l:=l) fun y hy=>h y (by simp [hy])
   simp only [sumF,b1,List.length_cons] at ih ⊢
   rw [if_pos (h x (by simp)),ih]; omega
theorem betB_pts {a b : Rw} (h : betB a b = false) : a.pts ≤ b.pts:=by
 unfold betB at h
 by_cases e : a.pts = b.pts
 · omega
 · rw [if_pos e] at h
   have:=of_decide_eq_false h
   omega
theorem tab_place {r : Tr} {l : List Mt} {i : Nat} {w : Rw} (hw : (tabT r l)[i]? = some w) :
 sumF (fun v : Rw=>b1 (w.pts < v.pts)) (tabT r l) ≤ i ∧ (i : Int) + 1 ≤ sumF (fun v : Rw=>b1 (w.pts ≤ v.pts)) (tabT r l):=by
 have hasc:=tab_asc r l
 generalize tabT r l = T at *
 obtain ⟨hi,hwi⟩:=List.getElem?_eq_some_iff.1 hw
 have hT : T = T.take i ++ w :: T.drop (i + 1):=by rw [← drop_of_opt hw,List.take_append_drop]
 have hlt : (T.take i).length = i:=by rw [List.length_take]; omega
 have hd : ∀ v ∈ T.drop (i + 1),v.pts ≤ w.pts:=fun v hv=>by
  obtain ⟨k,hk,rfl⟩:=List.getElem_of_mem hv
  rw [List.length_drop] at hk
  rw [List.getElem_drop]
  have:=List.pairwise_iff_getElem.1 hasc i (i + 1 + k) hi (by omega) (by omega)
  rw [hwi] at this
  exact betB_pts this
 have ht : ∀ v ∈ T.take i,w.pts ≤ v.pts:=fun v hv=>by
  obtain ⟨k,hk,rfl⟩:=List.getElem_of_mem hv
  rw [hlt] at hk
  rw [List.getElem_take]
  have:=List.pairwise_iff_getElem.1 hasc k i (by omega) hi (by omega)
  rw [hwi] at this
  exact betB_pts this
 constructor
 · rw [hT,sumF_app]
   simp only [sumF]
   have h1:=(cnt_le (p:=fun v : Rw=>w.pts < v.pts) (T.take i)).2
   have h2 : sumF (fun v : Rw=>b1 (w.pts < v.pts)) (T.drop (i + 1)) = 0:=sumF_zero fun v hv=>by unfold b1; rw [if_neg (by have:=hd v hv; omega)]
   have h3 : b1 (w.pts < w.pts) = 0:=by unfold b1; rw [if_neg (by omega)]
   rw [h2,h3]; omega
 · rw [hT,sumF_app]
   simp only [sumF]
   have h1:=cnt_all (p:=fun v : Rw=>w.pts ≤ v.pts) ht
   have h2:=(cnt_le (p:=fun v : Rw=>w.pts ≤ v.pts) (T.drop (i + 1))).1
   have h3 : b1 (w.pts ≤ w.pts) = 1:=by unfold b1; rw [if_pos (by omega)]
   rw [h1,h3]; omega
theorem span_le (n x : Nat) {T : Th} {ts : List Th} (h : T ∈ ts) : (spanF n ts x).1 ≤ (placesV n T x).1 ∧ (placesV n T x).2 ≤ (spanF n ts x).2:=by
 induction ts using snoc_ind with
 | h0=>simp at h
 | h1 l t ih =>
   rw [spanF_snoc]
   unfold spanS
   simp only
   rcases List.mem_append.1 h with h | h
   · have:=ih h; omega
   · rw [List.mem_singleton] at h; subst h; omega
theorem place1_le (T : Th) {x n : Nat} (hx : x < n) : (placesV n T x).1 ≤ n:=by
 have hc:=places_cnt1 T x n
 have e : List.range n = List.range x ++ x :: (List.range n).drop (x + 1):=by
  rw [← drop_of_opt (l:=List.range n) (by rw [List.getElem?_range hx]),← List.take_append_drop x (List.range n),List.take_range]
  rw [Nat.min_eq_left (by omega)]
  simp
 have h1:=(cnt_le (p:=fun j : Nat=>T.pts.getD x 0 < T.pts.getD j 0) (List.range x)).2
 have h2:=(cnt_le (p:=fun j : Nat=>T.pts.getD x 0 < T.pts.getD j 0) ((List.range n).drop (x + 1))).2
 have h3 : b1 (T.pts.getD x 0 < T.pts.getD x 0) = 0:=by unfold b1; rw [if_neg (by omega)]
 rw [e,sumF_app] at hc
 simp only [sumF,h3] at hc
 rw [List.length_range] at h1
 rw [List.length_drop,List.length_range] at h2
 omega
theorem span_at1 {n x : Nat} (hx : x < n) {ts : List Th} (h : ts ≠ []) : ∃ T ∈ ts,(placesV n T x).1 = (spanF n ts x).1:=by
 induction ts using snoc_ind with
 | h0=>exact absurd rfl h
 | h1 l t ih =>
   rw [spanF_snoc]
   unfold spanS
   simp only
   by_cases hl : l = []
   · subst hl
     refine ⟨t,by simp,?_⟩
     have:=place1_le t hx
     simp only [spanF,List.foldl_nil]
     omega
   · obtain ⟨T,hT,e⟩:=ih hl
     by_cases hc : (spanF n l x).1 ≤ (placesV n t x).1
     · exact ⟨T,by simp [hT],by omega⟩
     · exact ⟨t,by simp,by omega⟩
theorem span_at2 {n x : Nat} {ts : List Th} (h : ts ≠ []) : ∃ T ∈ ts,(placesV n T x).2 = (spanF n ts x).2:=by
 induction ts using snoc_ind with
 | h0=>exact absurd rfl h
 | h1 l t ih =>
   rw [spanF_snoc]
   unfold spanS
   simp only
   by_cases hl : l = []
   · subst hl
     refine ⟨t,by simp,?_⟩
     have:=(places_le t x n).2.1
     simp only [spanF,List.foldl_nil]
     omega
   · obtain ⟨T,hT,e⟩:=ih hl
     by_cases hc : (placesV n t x).2 ≤ (spanF n l x).2
     · exact ⟨T,by simp [hT],by omega⟩
     · exact ⟨t,by simp,by omega⟩
structure ResI (r : Tr) (l : List Mt) (res : List Int) : Prop where
 len : res.length = (leftV l).length
 xs : ∀ x ∈ res,x ∈ xsOf r
abbrev trR (r : Tr) (l : List Mt) (res : List Int) : Th:=truthOf r (leftV l) (startT r l) res
theorem truth_mem {r : Tr} (hr : RulesI r) {l : List Mt} (hl : ∀ m ∈ l,MatchI r m) {res : List Int} (h : ResI r l res) : trR r l res ∈ truthsL r l:=by
 rw [truthsL_eq hr hl]
 exact List.mem_map.2 ⟨res,resL_mem.2 ⟨h.len,h.xs⟩,rfl⟩
theorem truth_res {r : Tr} (hr : RulesI r) {l : List Mt} (hl : ∀ m ∈ l,MatchI r m) {T : Th} (h : T ∈ truthsL r l) : ∃ res,ResI r l res ∧ T = trR r l res ∧ T.res = res:=by
 rw [truthsL_eq hr hl] at h
 obtain ⟨res,h1,rfl⟩:=List.mem_map.1 h
 obtain ⟨h2,h3⟩:=resL_mem.1 h1
 exact ⟨res,⟨h2,h3⟩,rfl,by simp [truthOf,startT]⟩
theorem some_res {r : Tr} (hr : RulesI r) (l : List Mt) (bs : List Nat) : ResI r l (someV r l bs):=by
 refine ⟨by simp [someV],fun x hx=>?_⟩
 obtain ⟨k,_,rfl⟩:=List.mem_map.1 hx
 have h3:=rawB_lt bs k
 unfold someN xsOf
 generalize rawB bs k = n at *
 by_cases h1 : r.legs % 2 = 1
 · rw [if_pos h1]
   by_cases h2 : n = 1
   · rw [if_pos ⟨h2,h1⟩]; simp
   · rw [if_neg (fun h=>h2 h.1)]; simp; omega
 · rw [if_neg h1,if_neg (fun h=>h1 h.2)]; simp; omega
theorem fill_more {r : Tr} (hr : RulesI r) {l : List Mt} (hl : ∀ m ∈ l,MatchI r m) {res : List Int} (h : ResI r l res) {t : Nat} (ht : t < nT r) :
 1 + sumF (fun v : Rw=>b1 ((rowT r (fillL r res 0 l) t).pts < v.pts)) (tabT r (fillL r res 0 l)) = (placesV (nT r) (trR r l res) t).1:=by
 rw [places_cnt1,cnt_tab r _ fun a=>b1 ((rowT r (fillL r res 0 l) t).pts < a)]
 congr 1
 refine sumF_congr fun j hj=>?_
 rw [fill_pts hr hl h.xs h.len ht,fill_pts hr hl h.xs h.len (List.mem_range.1 hj)]
theorem fill_same {r : Tr} (hr : RulesI r) {l : List Mt} (hl : ∀ m ∈ l,MatchI r m) {res : List Int} (h : ResI r l res) {t : Nat} (ht : t < nT r) :
 sumF (fun v : Rw=>b1 ((rowT r (fillL r res 0 l) t).pts ≤ v.pts)) (tabT r (fillL r res 0 l)) = (placesV (nT r) (trR r l res) t).2:=by
 rw [places_cnt2 _ ht,cnt_tab r _ fun a=>b1 ((rowT r (fillL r res 0 l) t).pts ≤ a)]
 refine sumF_congr fun j hj=>?_
 rw [fill_pts hr hl h.xs h.len ht,fill_pts hr hl h.xs h.len (List.mem_range.1 hj)]
abbrev spF (r : Tr) (l : List Mt) (t : Nat) : Int × Int:=spanF (nT r) (truthsL r l) t
theorem sp_le {r : Tr} {l : List Mt} (x : Nat) {T : Th} (h : T ∈ truthsL r l) : (spF r l x).1 ≤ (placesV (nT r) T x).1 ∧ (placesV (nT r) T x).2 ≤ (spF r l x).2:=span_le _ _ h
theorem any_place {r : Tr} (hr : RulesI r) {l : List Mt} (hl : ∀ m ∈ l,MatchI r m) {res : List Int} (h : ResI r l res) {i : Nat} {w : Rw} (hw : (tabT r (fillL r res 0 l))[i]? = some w) :
 ∃ t,t < nT r ∧ w.team = (t : Int) ∧ w.pts = (rowT r (fillL r res 0 l) t).pts ∧ (spF r l t).1 ≤ (i : Int) + 1 ∧ (i : Int) + 1 ≤ (spF r l t).2:=by
 obtain ⟨t,ht,rfl⟩:=tab_mem (List.mem_of_getElem? hw)
 refine ⟨t,ht,team_row r _ t,rfl,?_,?_⟩
 · have h1:=(tab_place hw).1
   have h2:=fill_more hr hl h ht
   have h3:=(sp_le t (truth_mem hr hl h)).1
   omega
 · have h1:=(tab_place hw).2
   have h2:=fill_same hr hl h ht
   have h3:=(sp_le t (truth_mem hr hl h)).2
   omega
theorem truthsL_ne {r : Tr} (hr : RulesI r) {l : List Mt} (hl : ∀ m ∈ l,MatchI r m) : truthsL r l ≠ []:=fun e=>by
 have:=truth_mem hr hl (some_res hr l [])
 rw [e] at this; simp at this
theorem sp_at1 {r : Tr} (hr : RulesI r) {l : List Mt} (hl : ∀ m ∈ l,MatchI r m) {t : Nat} (ht : t < nT r) : ∃ T ∈ truthsL r l,(placesV (nT r) T t).1 = (spF r l t).1:=span_at1 ht (truthsL_ne hr hl)
theorem sp_at2 {r : Tr} (hr : RulesI r) {l : List Mt} (hl : ∀ m ∈ l,MatchI r m) (t : Nat) : ∃ T ∈ truthsL r l,(placesV (nT r) T t).2 = (spF r l t).2:=span_at2 (truthsL_ne hr hl)
theorem open_good {r : Tr} {l : List Mt} (hr : RulesI r) (hl : ∀ m ∈ l,MatchI r m) (hll : l.length ≤ 180) (hle : (leftV l).length ≤ 10) {team place : Int} (ht : 0 ≤ team ∧ team < r.teams) (hp : 1 ≤ place ∧ place ≤ r.teams) : openV r l team place = 0:=by
 unfold openV
 rw [check_good hr hl hll,if_neg (by simp)]
 have : tpOk r team place = true:=by unfold tpOk; rw [Bool.and_eq_true,withinL_one,withinL_one]; exact ⟨⟨ht.1,by omega⟩,hp⟩
 rw [if_pos this]
 unfold fullV; rw [if_neg (by omega)]
theorem find_way {r : Tr} (hr : RulesI r) {l : List Mt} (hl : ∀ m ∈ l,MatchI r m) (hll : l.length ≤ 180) (hle : (leftV l).length ≤ 10) {t : Nat} (ht : t < nT r) {place : Int} (hp : 1 ≤ place ∧ place ≤ r.teams) (miss : Bool)
 (hex : ∃ T ∈ truthsL r l,wayF r t place miss T = true) : ∃ res,ResI r l res ∧ wayV r l (t : Int) place miss = (ints res,0) ∧ wayF r t place miss (trR r l res) = true:=by
 obtain ⟨hn,hn2,hn10⟩:=nT_eq hr
 have ho:=open_good hr hl hll hle (team:=(t : Int)) (by omega) hp
 unfold wayV
 rw [if_neg (by simp [ho]),Int.toNat_natCast]
 cases hf : (truthsL r l).find? (wayF r t place miss) with
 | none =>
   obtain ⟨T,hT,hw⟩:=hex
   have:=List.find?_eq_none.1 hf T hT
   simp [hw] at this
 | some T =>
   obtain ⟨res,h1,h2,h3⟩:=truth_res hr hl (List.mem_of_find?_eq_some hf)
   refine ⟨res,h1,show (ints T.res,(0 : Int)) = _ by rw [h3],?_⟩
   rw [← h2]; exact List.find?_some hf
theorem sp_bounds {r : Tr} (hr : RulesI r) {l : List Mt} (hl : ∀ m ∈ l,MatchI r m) {t : Nat} (ht : t < nT r) : 1 ≤ (spF r l t).1 ∧ (spF r l t).1 ≤ (spF r l t).2 ∧ (spF r l t).2 ≤ 1 + nT r ∧ (spF r l t).1 ≤ nT r:=by
 obtain ⟨T,hT,e⟩:=sp_at1 hr hl ht
 obtain ⟨T',hT',e'⟩:=sp_at2 hr hl t
 have h1:=places_le T t (nT r)
 have h2:=places_le T' t (nT r)
 have h3:=place1_le T ht
 have h4:=(sp_le t hT).2
 have h5 : (placesV (nT r) T t).1 ≤ (placesV (nT r) T t).2:=by
  rw [places_cnt1,places_cnt2 _ ht]
  have e : List.range (nT r) = List.range t ++ t :: (List.range (nT r)).drop (t + 1):=by
   rw [← drop_of_opt (l:=List.range (nT r)) (by rw [List.getElem?_range ht]),← List.take_append_drop t (List.range (nT r)),List.take_range]
   rw [Nat.min_eq_left (by omega)]
   simp
  have hm : ∀ L : List Nat,sumF (fun j : Nat=>b1 (T.pts.getD t 0 < T.pts.getD j 0)) L ≤ sumF (fun j : Nat=>b1 (T.pts.getD t 0 ≤ T.pts.getD j 0)) L:=fun L=>by
   induction L with
   | nil=>exact Int.le_refl _
   | cons j L ih=>simp only [sumF,b1] at ih ⊢; (repeat' split) <;> omega
  rw [e,sumF_app,sumF_app]
  simp only [sumF]
  have a1:=hm (List.range t)
  have a2:=hm ((List.range (nT r)).drop (t + 1))
  have a3 : b1 (T.pts.getD t 0 < T.pts.getD t 0) = 0:=by unfold b1; rw [if_neg (by omega)]
  have a4 : b1 (T.pts.getD t 0 ≤ T.pts.getD t 0) = 1:=by unfold b1; rw [if_pos (by omega)]
  rw [a3,a4]; omega
 refine ⟨by omega,by omega,by omega,by omega⟩
theorem way_low {r : Tr} (hr : RulesI r) {l : List Mt} (hl : ∀ m ∈ l,MatchI r m) (hll : l.length ≤ 180) (hle : (leftV l).length ≤ 10) {t : Nat} (ht : t < nT r) :
 ∃ res,ResI r l res ∧ wayV r l (t : Int) (spF r l t).1 false = (ints res,0) ∧ (placesV (nT r) (trR r l res) t).1 = (spF r l t).1:=by
 obtain ⟨hn,hn2,hn10⟩:=nT_eq hr
 have hb:=sp_bounds hr hl ht
 obtain ⟨T,hT,e⟩:=sp_at1 hr hl ht
 obtain ⟨res,h1,h2,h3⟩:=find_way hr hl hll hle ht (place:=(spF r l t).1) ⟨by omega,by omega⟩ false ⟨T,hT,by unfold wayF spanOk; simp; omega⟩
 refine ⟨res,h1,h2,?_⟩
 have h4:=(sp_le t (truth_mem hr hl h1)).1
 unfold wayF spanOk at h3
 simp at h3
 omega
theorem way_high {r : Tr} (hr : RulesI r) {l : List Mt} (hl : ∀ m ∈ l,MatchI r m) (hll : l.length ≤ 180) (hle : (leftV l).length ≤ 10) {t : Nat} (ht : t < nT r) (hp : 1 ≤ (spF r l t).2 - 1) :
 ∃ res,ResI r l res ∧ wayV r l (t : Int) ((spF r l t).2 - 1) true = (ints res,0) ∧ (placesV (nT r) (trR r l res) t).2 = (spF r l t).2:=by
 obtain ⟨hn,hn2,hn10⟩:=nT_eq hr
 have hb:=sp_bounds hr hl ht
 obtain ⟨T,hT,e⟩:=sp_at2 hr hl t
 obtain ⟨res,h1,h2,h3⟩:=find_way hr hl hll hle ht (place:=(spF r l t).2 - 1) ⟨by omega,by omega⟩ true ⟨T,hT,by unfold wayF spanOk; simp; omega⟩
 refine ⟨res,h1,h2,?_⟩
 have h4:=(sp_le t (truth_mem hr hl h1)).2
 unfold wayF spanOk at h3
 simp at h3
 omega
def mineF (t : Nat) (T : List Rw) : Int:=T.foldl (fun a v=>if v.team = (t : Int) then v.pts else a) 0
theorem mineF_snoc (t : Nat) (T : List Rw) (v : Rw) : mineF t (T ++ [v]) = if v.team = (t : Int) then v.pts else mineF t T:=by simp [mineF]
theorem mine_eq' (t : Nat) (p : Int) : ∀ (T : List Rw) (a : Int),(∀ v ∈ T,v.team = (t : Int) → v.pts = p) → (a = p ∨ ∃ v ∈ T,v.team = (t : Int)) → T.foldl (fun a v=>if v.team = (t : Int) then v.pts else a) a = p
 | [],a,_,h=>by simpa using h
 | v :: T, a, h1, h2 => by
   rw [List.foldl_cons]
   refine mine_eq' t p T _ (fun u hu=>h1 u (by simp [hu])) ?_
   by_cases hv : v.team = (t : Int)
   · rw [if_pos hv]; exact .inl (h1 v (by simp) hv)
   · rw [if_neg hv]
     rcases h2 with h | ⟨u,hu,hut⟩
     · exact .inl h
     · rcases List.mem_cons.1 hu with rfl | hu
       · exact absurd hut hv
       · exact .inr ⟨u,hu,hut⟩
theorem mine_eq {r : Tr} {l : List Mt} {t : Nat} (ht : t < nT r) : mineF t (tabT r l) = (rowT r l t).pts:=by
 refine mine_eq' t _ _ 0 (fun v hv e=>?_) (.inr ⟨rowT r l t,?_,team_row r l t⟩)
 · obtain ⟨t',_,rfl⟩:=tab_mem hv
   rw [team_row] at e
   rw [show t' = t by omega]
 · exact (tab_perm r l).mem_iff.2 (List.mem_map.2 ⟨t,List.mem_range.2 ht,rfl⟩)
def oneL (r : Tr) (res : List Int) : List Mt → List Mt
 | []=>[]
 | m :: ms=>if m.p then m :: oneL r res ms else putM r res 0 m :: ms
theorem one_split (r : Tr) (res : List Int) : ∀ l : List Mt,(leftV l = [] ∧ oneL r res l = l) ∨ ∃ A m B,l = A ++ m :: B ∧ leftV A = [] ∧ m.p = false ∧ oneL r res l = A ++ putM r res 0 m :: B
 | []=>.inl ⟨rfl,rfl⟩
 | m :: ms => by
   cases hp : m.p with
   | false=>exact .inr ⟨[],m,ms,rfl,rfl,hp,by unfold oneL; rw [hp]; rfl⟩
   | true =>
     rcases one_split r res ms with ⟨h1,h2⟩ | ⟨A,k,B,h1,h2,h3,h4⟩
     · exact .inl ⟨by rw [leftV_cons,hp,if_pos rfl,h1],by unfold oneL; rw [hp,if_pos rfl,h2]⟩
     · exact .inr ⟨m :: A,k,B,by rw [h1]; rfl,by rw [leftV_cons,hp,if_pos rfl,h2],h3,by unfold oneL; rw [hp,if_pos rfl,h4]; rfl⟩
theorem leftV_app (A B : List Mt) : leftV (A ++ B) = leftV A ++ leftV B:=by unfold leftV; rw [List.filter_append]
theorem cM_put {r : Tr} (hr : RulesI r) {res : List Int} {x : Int} (hxk : res[0]? = some x) (hxm : x ∈ xsOf r) {m : Mt} (hm : MatchI r m) (hp : m.p = false) (t : Nat) : cM r t (putM r res 0 m) = ctr r m x t:=by
 have hlg : legsOf r m = 0:=by unfold legsOf; rw [hp]; rfl
 have hf:=hm.f
 rw [hlg] at hf
 have hrv:=resV_put hr hxk hxm (m:=m) (by omega)
 have b1:=hm.h
 have b2:=hm.a
 have b3:=hm.ne
 unfold cM ctr
 rw [hrv]
 have p1 : (putM r res 0 m).p = true:=rfl
 have p2 : (putM r res 0 m).h = m.h:=rfl
 have p3 : (putM r res 0 m).a = m.a:=rfl
 rw [p1,p2,p3]
 simp only [if_true]
 (repeat' split) <;> omega
theorem places_congr {n : Nat} {T T' : Th} (h : ∀ j,j < n → T.pts.getD j 0 = T'.pts.getD j 0) {x : Nat} (hx : x < n) : placesV n T x = placesV n T' x:=by
 have h1 : (placesV n T x).1 = (placesV n T' x).1:=by
  rw [places_cnt1,places_cnt1]
  congr 1
  exact sumF_congr fun j hj=>by rw [h x hx,h j (List.mem_range.1 hj)]
 have h2 : (placesV n T x).2 = (placesV n T' x).2:=by
  rw [places_cnt2 _ hx,places_cnt2 _ hx]
  exact sumF_congr fun j hj=>by rw [h x hx,h j (List.mem_range.1 hj)]
 exact Prod.ext h1 h2
theorem one_good {r : Tr} (hr : RulesI r) {l : List Mt} (hl : ∀ m ∈ l,MatchI r m) (res : List Int) : (∀ m ∈ oneL r res l,MatchI r m) ∧ (oneL r res l).length = l.length ∧ (leftV (oneL r res l)).length ≤ (leftV l).length:=by
 rcases one_split r res l with ⟨h1,h2⟩ | ⟨A,m,B,h1,h2,h3,h4⟩
 · rw [h2]; exact ⟨hl,rfl,Nat.le_refl _⟩
 · have hp : (putM r res 0 m).p = true:=rfl
   have hm:=hl m (by rw [h1]; simp)
   have hlg : legsOf r m = 0:=by unfold legsOf; rw [h3]; rfl
   have hf:=hm.f
   rw [hlg] at hf
   rw [h4]
   refine ⟨fun k hk=>?_,by rw [h1]; simp,by rw [h1,leftV_app,leftV_app,leftV_cons,leftV_cons,hp,h3]; simp⟩
   rcases List.mem_append.1 hk with hk | hk
   · exact hl k (by rw [h1]; simp [hk])
   · rcases List.mem_cons.1 hk with rfl | hk
     · have hb:=forV_le hr res 0 (show m.f = 0 by omega)
       have hlo : legsOf r (putM r res 0 m) = r.legs:=rfl
       refine ⟨hm.h,hm.a,hm.ne,?_,?_⟩
       · rw [hlo]; exact hb
       · rw [hlo]; rfl
     · exact hl k (by rw [h1]; simp [hk])
theorem one_truth {r : Tr} (hr : RulesI r) {l : List Mt} (hl : ∀ m ∈ l,MatchI r m) {res : List Int} (hres : ResI r l res) {T : Th} (hT : T ∈ truthsL r (oneL r res l)) :
 ∃ T' ∈ truthsL r l,∀ x,x < nT r → placesV (nT r) T x = placesV (nT r) T' x:=by
 obtain ⟨hn,hn2,hn10⟩:=nT_eq hr
 have hM1:=(one_good hr hl res).1
 rcases one_split r res l with ⟨h1,h2⟩ | ⟨A,m,B,h1,h2,h3,h4⟩
 · rw [h2] at hT; exact ⟨T,hT,fun _ _=>rfl⟩
 · obtain ⟨res',hr',rfl,_⟩:=truth_res hr hM1 hT
   have hp : (putM r res 0 m).p = true:=rfl
   have hlv : leftV l = m :: leftV B:=by rw [h1,leftV_app,h2,leftV_cons,h3]; simp
   have hlv1 : leftV (oneL r res l) = leftV B:=by rw [h4,leftV_app,h2,leftV_cons,hp]; simp
   have hm:=hl m (by rw [h1]; simp)
   have hlen:=hres.len
   rw [hlv] at hlen
   obtain ⟨x,hx⟩:=opt_of_lt (show 0 < res.length by simp at hlen; omega)
   have hxx:=hres.xs x (mem_of_opt hx)
   have hR : ResI r l (x :: res'):=by
    refine ⟨?_,fun y hy=>?_⟩
    · rw [hlv]; have:=hr'.len; rw [hlv1] at this; simp [this]
    · rcases List.mem_cons.1 hy with rfl | hy
      · exact hxx
      · exact hr'.xs y hy
   refine ⟨trR r l (x :: res'),truth_mem hr hl hR,fun z hz=>places_congr (fun j hj=>?_) hz⟩
   have e1 : ∀ (l' : List Mt) (rs : List Int),(trR r l' rs).pts.getD j 0 = (rowT r l' j).pts + ctrs r (leftV l') rs j:=fun l' rs=>by
    unfold trR truthOf
    simp only
    have hg : ((List.range 10).map fun i=>(startT r l').pts.getD i 0 + ctrs r (leftV l') rs i).getD j 0 = (startT r l').pts.getD j 0 + ctrs r (leftV l') rs j:=by
     rw [List.getD_eq_getElem?_getD,List.getElem?_map,List.getElem?_range (by omega)]; rfl
    rw [hg,start_getD l' hj]
   rw [e1,e1,hlv,hlv1,pts_sum,pts_sum,h4]
   conv=>rhs; rw [h1]
   rw [sumF_app,sumF_app]
   have c1:=cM_put hr hx hxx hm h3 j
   have c2 : cM r j m = 0:=by unfold cM; rw [h3]; rfl
   simp only [sumF,ctrs,c1,c2]
   omega
theorem one_span {r : Tr} (hr : RulesI r) {l : List Mt} (hl : ∀ m ∈ l,MatchI r m) {res : List Int} (hres : ResI r l res) {t : Nat} (ht : t < nT r) :
 (spF r l t).1 ≤ (spF r (oneL r res l) t).1 ∧ (spF r (oneL r res l) t).2 ≤ (spF r l t).2:=by
 have hM1:=(one_good hr hl res).1
 obtain ⟨T,hT,e⟩:=sp_at1 hr hM1 ht
 obtain ⟨T',hT',e'⟩:=sp_at2 hr hM1 t
 obtain ⟨U,hU,hu⟩:=one_truth hr hl hres hT
 obtain ⟨U',hU',hu'⟩:=one_truth hr hl hres hT'
 have a1:=(sp_le t hU).1
 have a2:=(sp_le t hU').2
 rw [← hu t ht] at a1
 rw [← hu' t ht] at a2
 omega
theorem up_cases (r : Tr) {s : Int × Int} {i : Nat} (h1 : s.1 ≤ (i : Int) + 1) (h2 : (i : Int) + 1 ≤ s.2) :
 (upV r s = 2 ∧ decide ((i : Int) < r.up) = true) ∨ (upV r s = 0 ∧ decide ((i : Int) < r.up) = false) ∨ upV r s = 1:=by
 unfold upV
 by_cases a : s.2 ≤ r.up
 · rw [if_pos a]; exact .inl ⟨rfl,decide_eq_true (by omega)⟩
 · rw [if_neg a]
   by_cases b : s.1 > r.up
   · rw [if_pos b]; exact .inr (.inl ⟨rfl,decide_eq_false (by omega)⟩)
   · rw [if_neg b]; exact .inr (.inr rfl)
theorem dn_cases (r : Tr) {s : Int × Int} {i : Nat} (h1 : s.1 ≤ (i : Int) + 1) (h2 : (i : Int) + 1 ≤ s.2) :
 (dnV r s = 2 ∧ decide (r.teams - r.down ≤ (i : Int)) = true) ∨ (dnV r s = 0 ∧ decide (r.teams - r.down ≤ (i : Int)) = false) ∨ dnV r s = 1:=by
 unfold dnV
 by_cases a : s.1 > r.teams - r.down
 · rw [if_pos a]; exact .inl ⟨rfl,decide_eq_true (by omega)⟩
 · rw [if_neg a]
   by_cases b : s.2 ≤ r.teams - r.down
   · rw [if_pos b]; exact .inr (.inl ⟨rfl,decide_eq_false (by omega)⟩)
   · rw [if_neg b]; exact .inr (.inr rfl)
theorem not_both {r : Tr} (hr : RulesI r) {s : Int × Int} (h : s.1 ≤ s.2) : ¬ (upV r s = 2 ∧ dnV r s = 2):=by
 have:=hr.up
 have:=hr.down
 rintro ⟨a,b⟩
 unfold upV at a
 unfold dnV at b
 split at a <;> split at b <;> (try split at a) <;> (try split at b) <;> omega
theorem up_keep (r : Tr) {s s' : Int × Int} (h1 : s.1 ≤ s'.1) (h2 : s'.2 ≤ s.2) (h3 : s'.1 ≤ s'.2) : upV r s = 1 ∨ upV r s' = upV r s:=by
 unfold upV
 (repeat' split) <;> omega
theorem dn_keep (r : Tr) {s s' : Int × Int} (h1 : s.1 ≤ s'.1) (h2 : s'.2 ≤ s.2) (h3 : s'.1 ≤ s'.2) : dnV r s = 1 ∨ dnV r s' = dnV r s:=by
 unfold dnV
 (repeat' split) <;> omega
end Go.Proofs.Ytobokbhpeaakjaa

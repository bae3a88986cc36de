/- For all beds, scores, gates and rounds made of bytes, the given function TopNeverMiss returns true: the chance of who never misses is the whole just if the visits that the table of chapter 8 says are at most those that are left, and otherwise nothing. No conditions beyond those of the given statement. -/
import Derived.Test.YtgfbenanljjgaaaGreatVB10
import Derived.Test.YtgfbenanljjgaaaGreatVB8
import Derived.Test.YtgfbenanljjgaaaGreatVB5
import Derived.ChangeShapes
import Derived.WideShapes
import Derived.OpenShut
import Derived.ShutString
import Derived.ChangeOld
import Derived.Carry
import Derived.Below
import Derived.Test.YtgfbenanljjgaaaGreatRows
import Derived.JoinedOf
set_option linter.unusedSimpArgs false
set_option linter.unusedVariables false
namespace Go.Proofs.YtgfbenanljjgaaaGreat.Du
open Go Go.Oc
set_option maxRecDepth 8000
set_option maxHeartbeats 2000000
abbrev pos (k s left d : Nat) : Pos:=⟨k,s,left,(d : Int) + 1⟩
theorem vis_tab {r : Ru} (h : RuG r) (most : Bool) {k : Nat} (hk : k < r.ends.length) (s : Nat) (hs : (s : Int) ≤ r.start) : VisG r (tabF r most) k s:=by
 refine ⟨hk,h.h10,h.ends,hs,h.s40,fun left hl=>?_⟩
 by_cases hk1 : k + 1 < r.ends.length
 · have hg:=tabI_get r most r.ends.length (Nat.le_refl _) (k + 1) (by omega) hk1
   refine ⟨_,_,fun _=>⟨hg,rowV_get _ _ _ _ _ hl,?_⟩⟩
   split
   · omega
   · have hv:=vis_at h most (r.ends.length - 1 - (k + 1)) (by omega) left hl
     rw [show r.ends.length - 1 - (r.ends.length - 1 - (k + 1)) = k + 1 by omega] at hv
     exact valV_le hv h.aims 3 left hl
 · exact ⟨[],0,fun h=>absurd h hk1⟩
set_option maxHeartbeats 1000000
def tossF (r : Ru) (most : Bool) : Int:=((tabF r most).getD 0 []).getD r.start.toNat 0
def tossS (r : Ru) (most : Bool) : Int:=afterD r most (tabF r most) 0 r.start.toNat
theorem tab_zero {r : Ru} (h : RuG r) (most : Bool) : ∃ row,(tabF r most)[0]? = some row ∧ row[r.start.toNat]? = some (tossF r most):=by
 have hs:=h.s2
 have h1:=tabI_get r most r.ends.length (Nat.le_refl _) 0 (by omega) h.e1
 have h2:=rowV_get r most (tabI r most (r.ends.length - 1 - 0)) 0 r.start.toNat (by omega)
 refine ⟨_,h1,?_⟩
 have e : tossF r most = (rowV r most (tabI r most (r.ends.length - 1 - 0)) 0).getD r.start.toNat 0:=by
  unfold tossF tabF
  simp only [List.getD_eq_getElem?_getD,h1,Option.getD_some]
 rw [e,List.getD_eq_getElem?_getD,h2]
 rfl
theorem toss1_ok {r : Ru} (h : RuG r) (most : Bool) : ACalls Tryz.prog 89 [sideP r most (tabF r most)] (i64 (tossF r most)):=by
 obtain ⟨row,h1,h2⟩:=tab_zero h most
 have hl1 : 0 < (tabF r most).length:=(List.getElem?_eq_some_iff.1 h1).1
 have hl2 : r.start.toNat < row.length:=(List.getElem?_eq_some_iff.1 h2).1
 have hs:=h.s2
 have hs0 : 0 ≤ r.start:=by omega
 have hsl : r.start < (row.length : Int):=by omega
 have hl3 : (0 : Int) < ((tabF r most).length : Int):=by omega
 generalize tabF r most = T at *
 refine zas (rs:=[i64 (tossF r most)]) [.tmp 2] Tryz.func89 rfl (by kernel_rfl) Tryz.ntmps89 rfl (by simp) rfl fun C vs=>?_
 refine zq ?_
 refine zb fun K hK=>?_;simp only [go_sem];refine hK _ ?_;clear hK K;refine zw (zk [0]) ?_;simp only [go_sem]
 refine zq ?_
 refine zg follows (by decide +kernel) (by kernel_rfl) fun K hK=>?_;simp only [go_sem,h1,h2,hl1,hl2,hs0,hsl,hl3];refine hK _ ?_;clear hK K;refine zw (zk [2]) ?_;simp only [go_sem];refine ze ?_;simp only [go_sem]
theorem toss2_ok {r : Ru} (h : RuG r) (most : Bool) : ACalls Tryz.prog 90 [sideP r most (tabF r most)] (i64 (tossS r most)):=by
 have hs:=h.s2
 have hG:=vis_tab h most (k:=0) h.e1 r.start.toNat (by omega)
 have hA:=hG.after most (left:=r.start.toNat) (by omega)
 rw [show ((r.start.toNat : Nat) : Int) = r.start by omega] at hA
 refine zas (rs:=[i64 (tossS r most)]) [.tmp 2] Tryz.func90 rfl (by kernel_rfl) Tryz.ntmps90 rfl (by simp) rfl fun C vs=>?_
 refine zq ?_
 refine zb fun K hK=>?_;simp only [go_sem];refine hK _ ?_;clear hK K;refine zw (zk [0]) ?_;simp only [go_sem]
 refine zq ?_
 refine zb fun K hK=>?_;simp only [go_sem]
 refine zh (hA) rfl (by simp only [go_sem,i64,ints]) (by simp only [go_sem,i64,ints]) (by first | exact .inl rfl | exact .inr rfl) ?_
 (try simp only [go_sem]);refine hK _ ?_;clear hK K;refine zw (zk [2]) ?_;simp only [go_sem];refine ze ?_;simp only [go_sem]
 rfl
abbrev tossV (r : Ru) (f : Bool → Int) : RV:=if ruE r = 0 then .ag [i64 (f false),i64 (f true)] else .ag [i64 0,i64 0]
theorem toss_ok (r : Ru) (hw : WfR r) : ACalls Tryz.prog 62 [ruV r] (.tu [tossV r (tossF r),tossV r (tossS r),i64 (ruE r)]):=by
 have hs:=sides_ok r hw
 refine zas (rs:=[tossV r (tossF r),tossV r (tossS r),i64 (ruE r)]) [.cell 2 48,.cell 3 48,.tmp 4] Tryz.func62 rfl (by kernel_rfl) Tryz.ntmps62 rfl (by simp) rfl fun C vs=>?_
 refine zq ?_
 refine zb fun K hK=>?_;simp only [go_sem];refine hK _ ?_;clear hK K;refine zw (zfP 1 1 (ruC r) (by omega) rfl rfl) ?_;refine zw (zk [1,2,3]) ?_;simp only [go_sem]
 by_cases h0 : ruE r = 0
 rotate_left
 · have e1 : sidesV r = .ag [.np,.np]:=if_neg h0
   have c : (ruE r != 0) = true:=by simpa using h0
   rw [e1] at hs
   refine zq ?_
   refine zb fun K hK=>?_;simp only [go_sem]
   refine zh (hs) rfl (by simp only [go_sem,i64,ints]) (by simp only [go_sem,i64,ints]) (by first | exact .inl rfl | exact .inr rfl) ?_
   (try simp only [go_sem]);refine hK _ ?_;clear hK K;refine zw (zk [2,3,4,5]) ?_;simp only [go_sem]
   repeat refine zq ?_
   refine zb fun K hK=>?_;simp only [go_sem,c];refine hK _ ?_;clear hK K;refine zw (zk [2,3,4,5,15]) ?_;simp only [go_sem]
   refine zc rfl (fun hc=>?_) (fun hc=>?_) <;> (try simp only [go_sem] at hc)
   refine zq ?_
   refine zb fun K hK=>?_;simp only [go_sem];refine hK _ ?_;clear hK K;refine zw (zk [2,3,4]) ?_;simp only [go_sem];refine ze ?_;simp only [go_sem];simp only [tossV,if_neg h0];exact ⟨rv_le _,rv_le _⟩
 have e1 : sidesV r = .ag [sideP r false (tabF r false),sideP r true (tabF r true)]:=if_pos h0
 obtain ⟨hG,hn1,_,_⟩:=ruG_of h0
 rw [e1,h0] at hs
 have hF0:=toss1_ok hG false
 have hF1:=toss1_ok hG true
 have hS0:=toss2_ok hG false
 have hS1:=toss2_ok hG true
 refine zq ?_
 refine zb fun K hK=>?_;simp only [go_sem]
 refine zh (hs) rfl (by simp only [go_sem,i64,ints]) (by simp only [go_sem,i64,ints]) (by first | exact .inl rfl | exact .inr rfl) ?_
 (try simp only [go_sem]);refine hK _ ?_;clear hK K;refine zw (zfP 5 5 [sideP r false (tabF r false),sideP r true (tabF r true)] (by omega) rfl rfl) ?_;refine zw (zk [2,3,4,5]) ?_;simp only [go_sem]
 repeat refine zq ?_
 refine zb fun K hK=>?_;simp only [go_sem,bne_self_eq_false];refine hK _ ?_;clear hK K;refine zw (zk [2,3,4,5,15]) ?_;simp only [go_sem]
 refine zc rfl (fun hc=>?_) (fun hc=>?_) <;> (try simp only [go_sem] at hc)
 refine zx ?_
 try simp only [go_sem]
 refine zq ?_
 refine zb fun K hK=>?_;simp only [go_sem];refine hK _ ?_;clear hK K;refine zw (zk [2,3,5,6]) ?_;simp only [go_sem]
 repeat refine zq ?_
 refine zb fun K hK=>?_;simp only [go_sem];refine hK _ ?_;clear hK K;refine zw (zk [2,3,5,22,23]) ?_;simp only [go_sem];refine zd ?_
 refine zuv (n:=43) 2 (fun i vs=>[(2,.pt 2 (vs 2) 0),(3,.pt 3 (vs 3) 0),(5,.r (.rp [sideP r false (tabF r false),sideP r true (tabF r true)])),(22,.ag [.pt 2 (vs 2) 0,.r (.fn 89 []),.pt 3 (vs 3) 0,.r (.fn 90 [])]),(23,.r (i64 (i : Int)))])
  (fun i vs=>[(2,.box [if 0 < i then .r (i64 (tossF r false)) else .r (i64 0),if 0 < i then .r (i64 (tossF r true)) else .r (i64 0)]),(3,.box [if 1 < i then .r (i64 (tossS r false)) else .r (i64 0),if 1 < i then .r (i64 (tossS r true)) else .r (i64 0)])]) (fun _=>True) 0 (zj [6] ?_ ?_) (Nat.zero_le _) trivial ?_
 · try simp only [go_sem]
   done
 · try simp only [go_sem]
   done
 · intro i vs hi _
   have h012 : i = 0 ∨ i = 1 ∨ i = 2:=by omega
   rcases h012 with rfl | rfl | rfl
   · refine zq ?_
     refine zb fun K hK=>?_;simp only [go_sem];refine hK _ ?_;clear hK K;refine zw (zk [2,3,5,22,23,24]) ?_;simp only [go_sem]
     refine zq ?_
     refine zc rfl (fun hc=>?_) (fun hc=>?_) <;> (try simp only [go_sem] at hc)
     refine zx ?_
     try simp only [go_sem]
     refine zq ?_
     refine zd ?_
     refine zq ?_
     refine zb fun K hK=>?_;simp only [go_sem];refine hK _ ?_;clear hK K;refine zw (zk [2,3,5,8,22,23]) ?_;simp only [go_sem];refine zg follows (by decide +kernel) (by kernel_rfl) fun K hK=>?_;simp only [go_sem]
     refine zh (hF0) rfl (by simp only [go_sem,i64,ints]) (by simp only [go_sem,i64,ints]) (by first | exact .inl rfl | exact .inr rfl) ?_
     (try simp only [go_sem])
     refine zh (hF1) rfl (by simp only [go_sem,i64,ints]) (by simp only [go_sem,i64,ints]) (by first | exact .inl rfl | exact .inr rfl) ?_
     (try simp only [go_sem]);refine hK _ ?_;clear hK K;refine zw (zk [2,3,5,22,23]) ?_;simp only [go_sem];refine zb fun K hK=>?_;simp only [go_sem];(try simp (disch:=omega) only [zI]);refine hK _ ?_;clear hK K
     try simp only [go_sem]
     refine zj [8] ?_ ?_
     · try simp only [go_sem]
     · try simp only [go_sem]
   · refine zq ?_
     refine zb fun K hK=>?_;simp only [go_sem];refine hK _ ?_;clear hK K;refine zw (zk [2,3,5,22,23,24]) ?_;simp only [go_sem]
     refine zq ?_
     refine zc rfl (fun hc=>?_) (fun hc=>?_) <;> (try simp only [go_sem] at hc)
     refine zx ?_
     try simp only [go_sem]
     refine zq ?_
     refine zd ?_
     refine zq ?_
     refine zb fun K hK=>?_;simp only [go_sem];refine hK _ ?_;clear hK K;refine zw (zk [2,3,5,8,22,23]) ?_;simp only [go_sem];refine zg follows (by decide +kernel) (by kernel_rfl) fun K hK=>?_;simp only [go_sem]
     refine zh (hS0) rfl (by simp only [go_sem,i64,ints]) (by simp only [go_sem,i64,ints]) (by first | exact .inl rfl | exact .inr rfl) ?_
     (try simp only [go_sem])
     refine zh (hS1) rfl (by simp only [go_sem,i64,ints]) (by simp only [go_sem,i64,ints]) (by first | exact .inl rfl | exact .inr rfl) ?_
     (try simp only [go_sem]);refine hK _ ?_;clear hK K;refine zw (zk [2,3,5,22,23]) ?_;simp only [go_sem];refine zb fun K hK=>?_;simp only [go_sem];(try simp (disch:=omega) only [zI]);refine hK _ ?_;clear hK K
     try simp only [go_sem]
     refine zj [8] ?_ ?_
     · try simp only [go_sem]
     · try simp only [go_sem]
   · refine zq ?_
     refine zb fun K hK=>?_;simp only [go_sem];refine hK _ ?_;clear hK K;refine zw (zk [2,3,5,22,23,24]) ?_;simp only [go_sem]
     refine zq ?_
     refine zc rfl (fun hc=>?_) (fun hc=>?_) <;> (try simp only [go_sem] at hc)
     refine zf ?_;simp only [go_sem]
     refine zq ?_
     refine zb fun K hK=>?_;simp only [go_sem];refine hK _ ?_;clear hK K;refine zw (zk [2,3,4]) ?_;simp only [go_sem];refine ze ?_;simp only [go_sem];simp only [tossV,if_pos h0];exact ⟨rv_le _,rv_le _,h0.symm⟩
theorem ruE_of {r : Ru} (hc : checkV r.d r.aims = 0) (hs : 2 ≤ r.start ∧ r.start ≤ 40) (ho : 0 ≤ r.out ∧ r.out ≤ 2) (hn : 1 ≤ r.ends.length ∧ r.ends.length ≤ 10) (he : ∀ x ∈ r.ends,endOk x = true) (hl : lastE r = 1000000) : ruE r = 0:=by
 have he':=List.all_eq_true.2 he
 simp [ruE,hc,he',hl,hs,ho,hn]
def rndL (n : Nat) : List Sp:=List.replicate (n - 1) (0,0) ++ [(1000000,1000000)]
theorem tab_rows {r : Ru} (h : ruE r = 0) (most : Bool) : (tabF r most).length = r.ends.length ∧ ∀ row ∈ tabF r most,row.length = r.start.toNat + 1:=by
 have hl : (tabF r most).length = r.ends.length:=tabI_len r most _
 refine ⟨hl,fun row hr=>?_⟩
 obtain ⟨j,hj⟩:=List.getElem?_of_mem hr
 have hjl:=(List.getElem?_eq_some_iff.1 hj).1
 have:=tabI_get r most r.ends.length (Nat.le_refl _) j (by omega) (by omega)
 unfold tabF at hj
 rw [hj] at this
 injection this with this
 rw [this]
 simp [rowV]
theorem foldl_max_ge : ∀ {l : List Int} {x : Int},x ≤ l.foldl max x ∧ ∀ y ∈ l,y ≤ l.foldl max x
 | [],x=>by simp
 | z :: l, x => by
   obtain ⟨h1,h2⟩:=foldl_max_ge (l:=l) (x:=max x z)
   simp only [List.foldl_cons]
   refine ⟨by omega,fun y hy=>?_⟩
   rcases List.mem_cons.1 hy with rfl | hy
   · omega
   · exact h2 y hy
theorem foldl_max_mem : ∀ {l : List Int} {x : Int},l.foldl max x = x ∨ l.foldl max x ∈ l
 | [],x=>by simp
 | z :: l, x => by
   rcases foldl_max_mem (l:=l) (x:=max x z) with h | h
   · simp only [List.foldl_cons,h]
     by_cases hz : z ≤ x
     · left;omega
     · right;rw [show max x z = z by omega];simp
   · right;simp [h]
theorem le_maxL {l : List Int} {x : Int} (h : x ∈ l) : x ≤ maxL l:=foldl_max_ge.2 x h
theorem maxL_mem {l : List Int} (h : l ≠ []) : maxL l ∈ l:=by
 cases l with
 | nil=>exact absurd rfl h
 | cons x l =>
   unfold maxL
   simp only [List.headD_cons]
   rcases foldl_max_mem (l:=x :: l) (x:=x) with h | h
   · rw [h];simp
   · exact h
end Go.Proofs.YtgfbenanljjgaaaGreat.Du

namespace Go.Proofs.YtgfbenanljjgaaaGreat.Du.Th.Ai
open Go Go.Oc
set_option maxRecDepth 8000
def suR (bs : List Int) (st g : Int) (n : Nat) : Ru:=⟨1,sureL bs,st,g,rndL n⟩
theorem rnd_get (n k : Nat) (hk : k < n) : (rndL n).getD k (0,0) = if k + 1 = n then (1000000,1000000) else (0,0):=by
 unfold rndL
 rw [List.getD_eq_getElem?_getD]
 split
 · rw [List.getElem?_append_right (by simp;omega)]
   simp [show k - (n - 1) = 0 by omega]
 · rw [List.getElem?_append_left (by simp;omega),List.getElem?_replicate,if_pos (by omega)];rfl
theorem rnd_len (n : Nat) (h : 1 ≤ n) : (rndL n).length = n:=by unfold rndL;simp;omega
theorem dsu_ok {bs : List Int} {st g : Int} {n : Nat} (hB : ∀ b ∈ bs,bedOk b = true) (hl : 1 ≤ bs.length ∧ bs.length ≤ 10) (hs : 2 ≤ st ∧ st ≤ 40) (hg : 0 ≤ g ∧ g ≤ 2) (hn : 1 ≤ n ∧ n ≤ 10) : ruE (suR bs st g n) = 0:=by
 refine ruE_of (sure_chk hB hl) hs hg ?_ ?_ ?_
 · have:=rnd_len n hn.1
   simp only [suR];omega
 · intro x hx
   simp only [suR,rndL,List.mem_append,List.mem_singleton] at hx
   rcases hx with hx | rfl
   · rw [List.eq_of_mem_replicate hx];decide
   · decide
 · unfold lastE
   simp only [suR];rw [rnd_len n hn.1,rnd_get n (n - 1) (by omega),if_pos (by omega)]
theorem dsure_mean {most : Bool} {f : Int → Int} {b : Int} : meanD most 1 (Go.Proofs.YtgfbenanljjgaaaGreat.Du.chW f (sureA b).beds) = f b:=by
 have hs : Go.Proofs.YtgfbenanljjgaaaGreat.Du.sortN (ltD most) [⟨f b,1,1⟩] = [⟨f b,1,1⟩]:=rfl
 have e : Go.Proofs.YtgfbenanljjgaaaGreat.Du.chW f (sureA b).beds = [⟨f b,1,1⟩]:=rfl
 rw [e]
 unfold meanD
 rw [hs]
 cases most <;> simp [fillG,loS,loV,overD]
theorem sure_means {most : Bool} {bs : List Int} {st g : Int} {n : Nat} {f : Int → Int} : meansV (suR bs st g n) most f = bs.map f:=by
 unfold meansV
 simp only [suR,sureL,List.map_map];exact List.map_congr_left fun b _=>dsure_mean
abbrev nxS (bs : List Int) (st g : Int) (n : Nat) (most : Bool) (T : List (List Int)) (k s : Nat) (val : Nat → Int) (last : Bool) (left : Nat) (b : Int) : Int:=nextV (suR bs st g n) most T k s val last left b
theorem dnext_cases {bs : List Int} {st g : Int} {n : Nat} {b : Int} (hb : b ∈ bs) (hv : bedOk b = true) {left : Nat} (hl : 1 ≤ left) (most : Bool) (T : List (List Int)) (k s : Nat) (val : Nat → Int) (last : Bool) :
 ((b,(0 : Int)) ∈ throwsO g left bs ∧ nxS bs st g n most T k s val last left b = 1000000) ∨
 ((afterO g left b).2 = false ∧ nxS bs st g n most T k s val last left b = afterD (suR bs st g n) most T k s) ∨
 (∃ y : Nat,(b,(y : Int)) ∈ throwsO g left bs ∧ lowestR (suR bs st g n) ≤ (y : Int) ∧ y < left ∧ nxS bs st g n most T k s val last left b = if last = true then afterD (suR bs st g n) most T k y else val y):=by
 have hp:=bedOk_pos hv
 have hd : decide (0 < scoreOf b) = true:=decide_eq_true hp
 have hlow : lowestR (suR bs st g n) = if g = 0 then 1 else 2:=rfl
 unfold nxS nextV
 have hin:=throws_in (g:=g) (s:=(left : Int)) (bs:=bs) (b:=b) hb
 unfold afterO at hin ⊢
 rw [hd,Bool.true_and,Bool.true_and]
 by_cases c0 : (left : Int) - scoreOf b = 0
 · rw [if_pos c0] at hin ⊢
   have hd0 : decide ((left : Int) - scoreOf b = 0) = true:=decide_eq_true c0
   rw [hd0,Bool.true_and]
   have hout : (suR bs st g n).out = g:=rfl
   rw [hout]
   cases ho : opensD g b with
   | true =>
     rw [ho] at hin
     exact .inl ⟨hin rfl (by omega),by rw [if_pos rfl]⟩
   | false =>
     right;left
     refine ⟨rfl,?_⟩
     rw [if_neg (by simp),if_pos]
     rw [decide_eq_true_eq,c0,hlow]
     split <;> omega
 · rw [if_neg c0] at hin ⊢
   have hd0 : decide ((left : Int) - scoreOf b = 0) = false:=decide_eq_false c0
   rw [hd0,Bool.false_and,if_neg (by simp)]
   by_cases cl : (left : Int) - scoreOf b < lowestR (suR bs st g n)
   · right;left
     have hdl : decide ((left : Int) - scoreOf b < lowestR (suR bs st g n)) = true:=decide_eq_true cl
     rw [hdl,if_pos rfl]
     refine ⟨?_,rfl⟩
     rw [hlow] at cl
     by_cases c1 : (left : Int) - scoreOf b = 1
     · rw [if_pos c1]
       by_cases cg : g = 0
       · rw [if_pos cg] at cl;omega
       · simp [cg]
     · rw [if_neg c1]
       simp only [decide_eq_false_iff_not]
       split at cl <;> omega
   · right;right
     have hdl : decide ((left : Int) - scoreOf b < lowestR (suR bs st g n)) = false:=decide_eq_false cl
     have hl1 : 1 ≤ lowestR (suR bs st g n):=by rw [hlow];split <;> omega
     refine ⟨((left : Int) - scoreOf b).toNat,?_,by omega,by omega,?_⟩
     · have e : ((((left : Int) - scoreOf b).toNat : Nat) : Int) = (left : Int) - scoreOf b:=by omega
       rw [e]
       by_cases c1 : (left : Int) - scoreOf b = 1
       · rw [if_pos c1] at hin
         rw [c1]
         refine hin ?_ (by omega)
         rw [hlow] at cl
         by_cases cg : g = 0
         · simp [cg]
         · rw [if_neg cg] at cl;omega
       · rw [if_neg c1] at hin
         exact hin (by simp only [decide_eq_true_eq];omega) (by omega)
     · rw [hdl,if_neg (by simp)]
theorem dval_sure {bs : List Int} {st : Nat} {g : Int} {n : Nat} (hB : ∀ b ∈ bs,bedOk b = true) (hne : bs ≠ []) {most : Bool} {T : List (List Int)} {k s M : Nat} (hs : lowestR (suR bs st g n) ≤ (s : Int) ∧ s ≤ st)
 (hA : ∀ y : Nat,lowestR (suR bs st g n) ≤ (y : Int) → y ≤ st → afterD (suR bs st g n) most T k y = if endB g bs M y = true then 1000000 else 0) :
 ∀ (d left : Nat), lowestR (suR bs st g n) ≤ (left : Int) → left ≤ st →
   (endB g bs (d + 1 + M) left = true → valV (suR bs st g n) most T k s (d + 1) left = 1000000) ∧
   (valV (suR bs st g n) most T k s (d + 1) left = 0 ∨ (valV (suR bs st g n) most T k s (d + 1) left = 1000000 ∧ (endB g bs (d + 1 + M) left = true ∨ endB g bs M s = true)))
 | d, left, h1, h2 => by
   have hlow : 1 ≤ lowestR (suR bs st g n):=by unfold lowestR;split <;> omega
   have hl1 : 1 ≤ left:=by omega
   have hz : (((left : Nat) : Int) == 0) = false:=by rw [beq_eq_false_iff_ne];omega
   have hval : valV (suR bs st g n) most T k s (d + 1) left = maxL (bs.map (nxS bs st g n most T k s (valV (suR bs st g n) most T k s d) (decide (d = 0)) left)):=by
    show maxL (meansV _ _ _) = _
    rw [sure_means]
   have hstep : ∀ x ∈ throwsO g left bs,endB g bs (d + M) x.2 = true → endB g bs (d + 1 + M) left = true:=fun x hx he=>by
    rw [show d + 1 + M = (d + M) + 1 by omega]
    unfold endB
    rw [hz,Bool.false_or,List.any_eq_true]
    exact ⟨x,hx,he⟩
   have hBv : ∀ b ∈ bs,nxS bs st g n most T k s (valV (suR bs st g n) most T k s d) (decide (d = 0)) left b = 0 ∨ (nxS bs st g n most T k s (valV (suR bs st g n) most T k s d) (decide (d = 0)) left b = 1000000 ∧ (endB g bs (d + 1 + M) left = true ∨ endB g bs M s = true)):=fun b hb=>by
    rcases dnext_cases (st:=st) (n:=n) hb (hB b hb) hl1 most T k s (valV (suR bs st g n) most T k s d) (decide (d = 0)) with ⟨q1,q2⟩ | ⟨q1,q2⟩ | ⟨y,q1,q2,q3,q4⟩
    · right
      refine ⟨q2,.inl (hstep _ q1 ?_)⟩
      show endB g bs (d + M) 0 = true
      cases d + M with
      | zero=>rfl
      | succ m=>unfold endB;rfl
    · rw [q2,hA s hs.1 hs.2]
      by_cases c : endB g bs M s = true
      · rw [if_pos c];exact .inr ⟨rfl,.inr c⟩
      · rw [if_neg c];exact .inl rfl
    · rw [q4]
      cases d with
      | zero =>
        rw [if_pos (by rfl),hA y q2 (by omega)]
        by_cases c : endB g bs M y = true
        · rw [if_pos c]
          exact .inr ⟨rfl,.inl (hstep _ q1 (by rw [Nat.zero_add];exact c))⟩
        · rw [if_neg c];exact .inl rfl
      | succ d =>
        rw [if_neg (by simp)]
        rcases (dval_sure hB hne hs hA d y q2 (by omega)).2 with i1 | ⟨i1,i2⟩
        · exact .inl i1
        · refine .inr ⟨i1,?_⟩
          rcases i2 with i2 | i2
          · exact .inl (hstep _ q1 i2)
          · exact .inr i2
   have hBm : valV (suR bs st g n) most T k s (d + 1) left = 0 ∨ (valV (suR bs st g n) most T k s (d + 1) left = 1000000 ∧ (endB g bs (d + 1 + M) left = true ∨ endB g bs M s = true)):=by
    rw [hval]
    obtain ⟨b,hb,e⟩:=List.mem_map.1 (maxL_mem (l:=bs.map (nxS bs st g n most T k s (valV (suR bs st g n) most T k s d) (decide (d = 0)) left)) (by simpa using hne))
    rw [← e]
    exact hBv b hb
   refine ⟨fun he=>?_,hBm⟩
   rw [show d + 1 + M = (d + M) + 1 by omega] at he
   unfold endB at he
   rw [hz,Bool.false_or,List.any_eq_true] at he
   obtain ⟨x,hx,he⟩:=he
   obtain ⟨t1,t2,t3,t4⟩:=throws_mem hB hx
   have hnx : nxS bs st g n most T k s (valV (suR bs st g n) most T k s d) (decide (d = 0)) left x.1 = 1000000:=by
    rcases dnext_cases (st:=st) (n:=n) t1 (hB _ t1) hl1 most T k s (valV (suR bs st g n) most T k s d) (decide (d = 0)) with ⟨q1,q2⟩ | ⟨q1,q2⟩ | ⟨y,q1,q2,q3,q4⟩
    · exact q2
    · rw [throws_ok2 hx] at q1;cases q1
    · have hy : (y : Int) = x.2:=by
       obtain ⟨_,_,_,u4⟩:=throws_mem hB q1
       simp only at u4
       omega
      rw [q4]
      cases d with
      | zero =>
        rw [if_pos (by rfl),hA y q2 (by omega),hy,if_pos (by rw [Nat.zero_add] at he;exact he)]
      | succ d =>
        rw [if_neg (by simp)]
        exact (dval_sure hB hne hs hA d y q2 (by omega)).1 (by rw [hy];exact he)
   have hge : 1000000 ≤ valV (suR bs st g n) most T k s (d + 1) left:=by
    rw [hval,← hnx]
    exact le_maxL (List.mem_map.2 ⟨x.1,t1,rfl⟩)
   rcases hBm with h | ⟨h,_⟩
   · omega
   · exact h
termination_by d=>d
theorem dvisit_sure {bs : List Int} {st : Nat} {g : Int} {n : Nat} (hB : ∀ b ∈ bs,bedOk b = true) (hne : bs ≠ []) {most : Bool} {T : List (List Int)} {k s M : Nat} (hs : lowestR (suR bs st g n) ≤ (s : Int) ∧ s ≤ st)
 (hA : ∀ y : Nat,lowestR (suR bs st g n) ≤ (y : Int) → y ≤ st → afterD (suR bs st g n) most T k y = if endB g bs M y = true then 1000000 else 0) :
 valV (suR bs st g n) most T k s 3 s = if endB g bs (3 + M) s = true then 1000000 else 0:=by
 obtain ⟨h1,h2⟩:=dval_sure hB hne hs hA 2 s hs.1 hs.2
 by_cases c : endB g bs (3 + M) s = true
 · rw [if_pos c];exact h1 c
 · rw [if_neg c]
   rcases h2 with h2 | ⟨_,h2 | h2⟩
   · exact h2
   · exact absurd h2 c
   · exact absurd (end_le h2 (by omega)) c
theorem tab_sure {bs : List Int} {st : Nat} {g : Int} {n : Nat} (hB : ∀ b ∈ bs,bedOk b = true) (hne : bs ≠ []) (hn : 1 ≤ n) (most : Bool) :
 ∀ i,i < n → ∀ s : Nat,lowestR (suR bs st g n) ≤ (s : Int) → s ≤ st → valV (suR bs st g n) most (tabI (suR bs st g n) most i) (n - 1 - i) s 3 s = if endB g bs (3 * (i + 1)) s = true then 1000000 else 0
 | i, hi, s, h1, h2 => by
   have hel : (suR bs st g n).ends.length = n:=rnd_len n hn
   have hlow : 1 ≤ lowestR (suR bs st g n):=by unfold lowestR;split <;> omega
   rw [show 3 * (i + 1) = 3 + 3 * i by omega]
   refine dvisit_sure hB hne ⟨h1,h2⟩ fun y y1 y2=>?_
   unfold afterD
   rw [hel]
   cases i with
   | zero =>
     rw [if_pos (by omega),if_neg]
     show ¬ (endB g bs 0 y = true)
     unfold endB
     rw [beq_iff_eq];omega
   | succ i =>
     rw [if_neg (by omega)]
     have hrow:=tabI_get (suR bs st g n) most (i + 1) (by rw [hel];omega) (n - 1 - (i + 1) + 1) (by rw [hel];omega) (by rw [hel];omega)
     rw [hel,show n - 1 - (n - 1 - (i + 1) + 1) = i by omega,show n - 1 - (i + 1) + 1 = n - 1 - i by omega] at hrow
     have hg : (tabI (suR bs st g n) most (i + 1)).getD (n - 1 - i) [] = rowV (suR bs st g n) most (tabI (suR bs st g n) most i) (n - 1 - i):=by rw [List.getD_eq_getElem?_getD,hrow];rfl
     rw [show n - 1 - (i + 1) + 1 = n - 1 - i by omega,hg,List.getD_eq_getElem?_getD,rowV_get _ _ _ _ _ (by show (y : Int) ≤ (st : Int);omega),Option.getD_some,if_neg (by omega),tab_sure hB hne hn most i (by omega) y y1 y2]
     have he : (suR bs st g n).ends.getD (n - 1 - (i + 1)) (0,0) = (0,0):=by
      show (rndL n).getD _ _ = _
      rw [rnd_get n _ (by omega),if_neg (by omega)]
     rw [he]
     have h0 : endsD most (0,0) = 0:=by unfold endsD;split <;> rfl
     rw [h0]
     split <;> cases most <;> simp [overD]
theorem tabF_sure {bs : List Int} {st : Nat} {g : Int} {n : Nat} (hB : ∀ b ∈ bs,bedOk b = true) (hne : bs ≠ []) (hn : 1 ≤ n) (most : Bool) {k s : Nat} (hk : k < n) (h1 : lowestR (suR bs st g n) ≤ (s : Int)) (h2 : s ≤ st) :
 ((tabF (suR bs st g n) most).getD k []).getD s 0 = if endB g bs (3 * (n - k)) s = true then 1000000 else 0:=by
 have hel : (suR bs st g n).ends.length = n:=rnd_len n hn
 have hrow:=tabI_get (suR bs st g n) most n (by omega) k (by omega) (by omega)
 rw [hel] at hrow
 unfold tabF
 have hg : (tabI (suR bs st g n) most n).getD k [] = rowV (suR bs st g n) most (tabI (suR bs st g n) most (n - 1 - k)) k:=by rw [List.getD_eq_getElem?_getD,hrow];rfl
 rw [hel,hg,List.getD_eq_getElem?_getD,rowV_get _ _ _ _ _ (by show (s : Int) ≤ (st : Int);omega),Option.getD_some,if_neg (by omega)]
 have:=tab_sure hB hne hn most (n - 1 - k) (by omega) s h1 h2
 rw [show n - 1 - (n - 1 - k) = k by omega,show n - 1 - k + 1 = n - k by omega] at this
 exact this
set_option maxHeartbeats 4000000
def armB : List Int:=[0,101,102,103,105,120,125,201,202,220,225,301,320]
theorem lawbeds_ok : ACalls Tryz.prog 61 [] (ints armB):=by
 refine zas (rs:=[ints armB]) [.tmp 0] Tryz.func61 rfl (by kernel_rfl) Tryz.ntmps61 rfl (by simp) rfl fun C vs=>?_
 refine zq ?_
 refine zb fun K hK=>?_;simp only [go_sem];refine hK _ ?_;clear hK K;refine zw (zk []) ?_;simp only [go_sem]
 refine zq ?_
 refine zb fun K hK=>?_;simp only [go_sem];refine hK _ ?_;clear hK K;refine zw (zk [0]) ?_;simp only [go_sem];refine ze ?_;simp only [go_sem]
 try rfl
theorem aspan_ok (a b : Int) : ACalls Tryz.prog 30 [i64 a,i64 b] (.ag [i64 a,i64 b]):=by
 refine zas (rs:=[.ag [i64 a,i64 b]]) [.cell 4 48] Tryz.func30 rfl (by kernel_rfl) Tryz.ntmps30 rfl (by simp) rfl fun C vs=>?_
 refine zq ?_
 refine zb fun K hK=>?_;simp only [go_sem];refine hK _ ?_;clear hK K;refine zw (zk [0,1,4]) ?_;simp only [go_sem]
 refine zq ?_
 refine zb fun K hK=>?_;simp only [go_sem];refine hK _ ?_;clear hK K;refine zw (zk [4]) ?_;simp only [go_sem];refine ze ?_;simp only [go_sem]
theorem armlow_ok (g : Int) : ACalls Tryz.prog 31 [i64 g] (i64 (lowG g)):=by
 refine zas (rs:=[i64 (lowG g)]) [.tmp 2] Tryz.func31 rfl (by kernel_rfl) Tryz.ntmps31 rfl (by simp) rfl fun C vs=>?_
 refine zq ?_
 refine zb fun K hK=>?_;simp only [go_sem];refine hK _ ?_;clear hK K;refine zw (zk [0]) ?_;simp only [go_sem]
 repeat refine zq ?_
 refine zb fun K hK=>?_;simp only [go_sem];refine hK _ ?_;clear hK K;refine zw (zk [0,4]) ?_;simp only [go_sem]
 by_cases h : g = 0
 · subst h
   refine zc rfl (fun hc=>?_) (fun hc=>?_) <;> (try simp only [go_sem] at hc)
   refine zq ?_
   refine zb fun K hK=>?_;simp only [go_sem];refine hK _ ?_;clear hK K;refine zw (zk [2]) ?_;simp only [go_sem];refine ze ?_;simp only [go_sem]
   rfl
 · have e : (g == 0) = false:=by simpa using h
   rw [e]
   refine zc rfl (fun hc=>?_) (fun hc=>?_) <;> (try simp only [go_sem] at hc)
   refine zx ?_
   try simp only [go_sem]
   refine zq ?_
   refine zb fun K hK=>?_;simp only [go_sem];refine hK _ ?_;clear hK K;refine zw (zk [2]) ?_;simp only [go_sem];refine ze ?_;simp only [go_sem]
   simp [lowG,h]
def addS (w : Int) (k : Nat) (L : List Int) : List Int:=if L.length < 4 ∧ (hasB w k = true ∨ (k = 12 ∧ L = [])) then L ++ [armB.getD k 0] else L
def iterS (w : Int) : Nat → List Int
 | 0=>[]
 | j + 1=>addS w (j + 1) (iterS w j)
def bsS (w : Int) : List Int:=iterS w 12
theorem iterS_full (w : Int) (j : Nat) (h : ¬ (iterS w j).length < 4) : ∀ m,iterS w (j + m) = iterS w j
 | 0=>rfl
 | m + 1 => by
   show addS w (j + m + 1) (iterS w (j + m)) = _
   rw [iterS_full w j h m]
   unfold addS
   rw [if_neg fun h'=>h h'.1]
theorem armB_ok {k : Nat} (h1 : 1 ≤ k) (h2 : k ≤ 12) : bedOk (armB.getD k 0) = true:=by
 have : ∀ k,k < 13 → 1 ≤ k → bedOk (armB.getD k 0) = true:=by decide
 exact this k (by omega) h1
theorem iterS_ok (w : Int) : ∀ j,j ≤ 12 → (iterS w j).length ≤ 4 ∧ ∀ b ∈ iterS w j,bedOk b = true
 | 0,_=>⟨by simp [iterS],fun b hb=>by simp [iterS] at hb⟩
 | j + 1, hj => by
   obtain ⟨h1,h2⟩:=iterS_ok w j (by omega)
   show (addS w (j + 1) (iterS w j)).length ≤ 4 ∧ ∀ b ∈ addS w (j + 1) (iterS w j),bedOk b = true
   unfold addS
   split
   · rename_i h
     refine ⟨by rw [List.length_append];simp;omega,fun b hb=>?_⟩
     rcases List.mem_append.1 hb with hb | hb
     · exact h2 b hb
     · rw [List.mem_singleton] at hb
       subst hb
       exact armB_ok (by omega) hj
   · exact ⟨h1,h2⟩
theorem bsS_ok (w : Int) : (∀ b ∈ bsS w,bedOk b = true) ∧ 1 ≤ (bsS w).length ∧ (bsS w).length ≤ 4:=by
 obtain ⟨h1,h2⟩:=iterS_ok w 12 (Nat.le_refl _)
 refine ⟨h2,?_,h1⟩
 show 1 ≤ (addS w 12 (iterS w 11)).length
 unfold addS
 split
 · rw [List.length_append];simp
 · rename_i h
   by_cases hl : (iterS w 11).length < 4
   · have : iterS w 11 ≠ []:=fun e=>h ⟨hl,.inr ⟨rfl,e⟩⟩
     exact List.length_pos_iff.2 this
   · omega
theorem armsure_ok (w : Int) : ACalls Tryz.prog 29 [.it .u16 w] (.tu [lawV 1 (sureL (bsS w)),ints (bsS w)]):=by
 have hlb:=lawbeds_ok
 have hsp:=aspan_ok 1 1
 refine zas (rs:=[lawV 1 (sureL (bsS w)),ints (bsS w)]) [.cell 2 24,.tmp 3] Tryz.func29 rfl (by kernel_rfl) Tryz.ntmps29 rfl (by simp) rfl fun C vs=>?_
 refine zq ?_
 refine zb fun K hK=>?_;simp only [go_sem];refine hK _ ?_;clear hK K;refine zw (zk [0,2]) ?_;simp only [go_sem]
 refine zq ?_
 refine zb fun K hK=>?_;simp only [go_sem]
 refine zh (hlb) rfl (by simp only [go_sem,i64,ints]) (by simp only [go_sem,i64,ints]) (by first | exact .inl rfl | exact .inr rfl) ?_
 (try simp only [go_sem]);refine hK _ ?_;clear hK K;refine zw (sub_own 6 36 84 1 (by omega) (by rfl)) ?_;refine zw (zk [0,2,4,5,6]) ?_;simp only [go_sem]
 repeat refine zq ?_
 refine zb fun K hK=>?_;simp only [go_sem];refine hK _ ?_;clear hK K;refine zw (zk [0,2,4,5,6,7]) ?_;simp only [go_sem];refine zd ?_;refine zw (sub_ownB 4 1 57 93 2 (by omega) (by omega) rfl (by simp only [go_sem,List.getElem?_cons_succ,List.getElem?_cons_zero])) ?_
 try simp only [go_sem]
 refine zuv (n:=61) 12 (fun i vs=>[(0,.r (.it .u16 w)),(2,.pt 2 (vs 2) 0),(4,.pt 4 (vs 4) 0),(5,.r (ints armB)),(6,.os 36 (vs 36) 1 0 (iterS w i).length),(7,.r (i64 ((i : Int) + 1)))])
  (fun i vs=>[(2,.box [.r (i64 0),.r .ns]),(4,.box [.r (i64 1),.os 57 (vs 57) 2 0 (iterS w i).length]),(36,.arr 84 1 (arrV (iterS w i))),(57,.arr 93 2 ((sureL (iterS w i)).map aimR))]) (fun _=>True) 0 (zj [] ?_ ?_) (Nat.zero_le _) trivial ?_
 · try simp only [go_sem]
   try rfl
 · try simp only [go_sem]
   try rfl
 intro i vs hi _
 obtain ⟨Lc,hLc⟩ : ∃ Lc,Lc = iterS w i:=⟨_,rfl⟩
 have hst : iterS w (i + 1) = addS w (i + 1) Lc:=by rw [hLc];rfl
 have hfull:=iterS_full w i
 rw [← hLc] at hfull ⊢
 have htk : (arrV Lc).take Lc.length = arrV Lc:=List.take_of_length_le (by simp)
 have htk2 : ((sureL Lc).map aimR).take Lc.length = (sureL Lc).map aimR:=List.take_of_length_le (by simp [sureL])
 have hsl : (sureL Lc).length = Lc.length:=by simp [sureL]
 obtain ⟨k,hk⟩ : ∃ k,k = i + 1:=⟨_,rfl⟩
 have hki : (i : Int) + 1 = (k : Int):=by omega
 rw [hst,← hk,hki]
 have wk : IntKind.i64.wrap ((k : Int) + 1) = ((i + 1 : Nat) : Int) + 1:=by rw [zI] <;> omega
 by_cases hl4 : Lc.length < 4
 · have c2 : decide ((Lc.length : Int) < 4) = true:=decide_eq_true (by omega)
   by_cases h12 : i < 12
   · have c1 : decide ((k : Int) < 13) = true:=decide_eq_true (by omega)
     have h13 : armB.length = 13:=rfl
     obtain ⟨b,hb⟩:=zol (show k < armB.length by omega)
     have hkl : k < armB.length:=by omega
     have hbd : armB.getD k 0 = b:=by simp [List.getD,hb]
     repeat refine zq ?_
     refine zb fun K hK=>?_;simp only [go_sem,c1,c2,List.length_map]
     (try intros)
     refine hK _ ?_;clear hK K;refine zw (zk [0,2,4,5,6,7,17]) ?_;simp only [go_sem]
     refine zc rfl (fun hc=>?_) (fun hc=>?_) <;> (try simp only [go_sem] at hc)
     refine zx ?_
     try simp only [go_sem]
     refine zq ?_
     refine zd ?_
     by_cases hC : hasB w k = true ∨ (k = 12 ∧ Lc = [])
     · have hadd : addS w k Lc = Lc ++ [b]:=by unfold addS;rw [if_pos ⟨hl4,hC⟩,hbd]
       rw [hadd]
       refine zq ?_
       refine zaw (n:=61) (fun (_ : Unit) vs=>[(0,.r (.it .u16 w)),(2,.pt 2 (vs 2) 0),(4,.pt 4 (vs 4) 0),(5,.r (ints armB)),(6,.os 36 (vs 36) 1 0 Lc.length),(7,.r (i64 (k : Int))),(34,.r (.bo true))])
        (fun _ vs=>[(2,.box [.r (i64 0),.r .ns]),(4,.box [.r (i64 1),.os 57 (vs 57) 2 0 Lc.length]),(36,.arr 84 1 (arrV Lc)),(57,.arr 93 2 ((sureL Lc).map aimR))]) (fun _=>True) (fun _ h=>h) ?_ ?_
       · cases hB : hasB w k
         · have hB' : (bitAnd IntKind.u16 (shrI IntKind.u16 w (IntKind.u64.wrap (k : Int))) 1 == 1) = false:=hB
           have hC2 : k = 12 ∧ Lc = []:=by
            rcases hC with h | h
            · rw [hB] at h;cases h
            · exact h
           have d1 : ((k : Int) == 12) = true:=by simp;omega
           have d2 : ((Lc.length : Int) == 0) = true:=by simp [hC2.2]
           refine zb fun K hK=>?_;simp only [go_sem,hB',d1,d2,List.length_map]
           (try intros)
           refine hK _ ?_;clear hK K
           refine ⟨(),trivial,zj [] ?_ ?_⟩
           · try simp only [go_sem]
           · try simp only [go_sem]
         · have hB' : (bitAnd IntKind.u16 (shrI IntKind.u16 w (IntKind.u64.wrap (k : Int))) 1 == 1) = true:=hB
           refine zb fun K hK=>?_;simp only [go_sem,hB',List.length_map]
           (try intros)
           refine hK _ ?_;clear hK K
           refine ⟨(),trivial,zj [] ?_ ?_⟩
           · try simp only [go_sem]
           · try simp only [go_sem]
       intro _ vs _
       refine zc rfl (fun hc=>?_) (fun hc=>?_) <;> (try simp only [go_sem] at hc)
       refine zq ?_
       refine zb fun K hK=>?_;simp only [go_sem,hb,hkl,List.length_map]
       refine ⟨by omega,?_⟩
       refine hK _ ?_;clear hK K;refine zw (zk [0,2,4,5,6,7]) ?_;simp only [go_sem]
       refine awp_dreg3 [(2,some 2),(4,some 4),(5,none),(6,some 36),(7,none)] [4] follows (by decide +kernel) (by kernel_rfl) (by simp only [keysOk,List.mem_cons,List.not_mem_nil,forall_eq_or_imp,Oc.keyOf,go_sem];simp) (by intro k hk;simp only [List.mem_cons,List.not_mem_nil,or_false] at hk;first | (subst hk;exact ⟨_,rfl⟩) | (rcases hk with rfl | rfl <;> exact ⟨_,rfl⟩) | (rcases hk with rfl | rfl | rfl <;> exact ⟨_,rfl⟩)) fun K hK=>?_
       simp only [go_sem,hb,hkl,hsl,List.length_map]
       refine zh (hsp) rfl (by simp only [go_sem,i64,ints,hb,hkl,hsl,List.length_map]) (by simp only [go_sem,i64,ints,hb,hkl,hsl,List.length_map]) (by first | exact .inl rfl | exact .inr rfl) ?_
       (try simp only [go_sem,hb,hkl,hsl,List.length_map])
       refine ⟨by omega,?_⟩
       refine hK _ ?_;clear hK K;refine zw (zk [0,2,4,5,6,7]) ?_;simp only [go_sem];refine zb fun K hK=>?_;simp only [go_sem,wk];refine hK _ ?_;clear hK K
       try simp only [go_sem]
       refine ⟨by omega,zj [] ?_ ?_⟩
       · try simp only [go_sem]
         try simp
         try omega
       · try simp only [go_sem]
         try simp [sureL,sureA,aimR,bedR]
     · have hadd : addS w k Lc = Lc:=by unfold addS;rw [if_neg fun h=>hC h.2]
       rw [hadd]
       have hB : hasB w k = false:=by
        cases h : hasB w k
        · rfl
        · exact absurd (.inl h) hC
       have hB' : (bitAnd IntKind.u16 (shrI IntKind.u16 w (IntKind.u64.wrap (k : Int))) 1 == 1) = false:=hB
       refine zq ?_
       refine zaw (n:=61) (fun (_ : Unit) vs=>[(0,.r (.it .u16 w)),(2,.pt 2 (vs 2) 0),(4,.pt 4 (vs 4) 0),(5,.r (ints armB)),(6,.os 36 (vs 36) 1 0 Lc.length),(7,.r (i64 (k : Int))),(34,.r (.bo false))])
        (fun _ vs=>[(2,.box [.r (i64 0),.r .ns]),(4,.box [.r (i64 1),.os 57 (vs 57) 2 0 Lc.length]),(36,.arr 84 1 (arrV Lc)),(57,.arr 93 2 ((sureL Lc).map aimR))]) (fun _=>True) (fun _ h=>h) ?_ ?_
       · by_cases hk12 : k = 12
         · have d1 : ((k : Int) == 12) = true:=by simp;omega
           have hne : Lc ≠ []:=fun e=>hC (.inr ⟨hk12,e⟩)
           have hp:=List.length_pos_iff.2 hne
           have d2 : ((Lc.length : Int) == 0) = false:=by rw [beq_eq_false_iff_ne];omega
           refine zb fun K hK=>?_;simp only [go_sem,hB',d1,d2,List.length_map]
           (try intros)
           refine hK _ ?_;clear hK K
           refine ⟨(),trivial,zj [] ?_ ?_⟩
           · try simp only [go_sem]
           · try simp only [go_sem]
         · have d1 : ((k : Int) == 12) = false:=by rw [beq_eq_false_iff_ne];omega
           refine zb fun K hK=>?_;simp only [go_sem,hB',d1,List.length_map]
           (try intros)
           refine hK _ ?_;clear hK K
           refine ⟨(),trivial,zj [] ?_ ?_⟩
           · try simp only [go_sem]
           · try simp only [go_sem]
       intro _ vs _
       refine zc rfl (fun hc=>?_) (fun hc=>?_) <;> (try simp only [go_sem] at hc)
       refine zx ?_
       try simp only [go_sem]
       refine zb fun K hK=>?_;simp only [go_sem,wk];refine hK _ ?_;clear hK K
       try simp only [go_sem]
       refine ⟨by omega,zj [] ?_ ?_⟩
       · try simp only [go_sem]
         try omega
       · try simp only [go_sem]
   · have c1 : decide ((k : Int) < 13) = false:=decide_eq_false (by omega)
     have hfin : bsS w = Lc:=by unfold bsS;rw [hLc,show i = 12 by omega]
     rw [hfin]
     repeat refine zq ?_
     refine zb fun K hK=>?_;simp only [go_sem,c1,List.length_map]
     (try intros)
     refine hK _ ?_;clear hK K;refine zw (zk [2,4,6,17]) ?_;simp only [go_sem]
     refine zc rfl (fun hc=>?_) (fun hc=>?_) <;> (try simp only [go_sem] at hc)
     refine zf ?_;simp only [go_sem];refine zw (sub_frz 6 36 (ty:=84) (sz:=1) (off:=0) (m:=Lc.length) (es:=arrV Lc) (by omega) rfl (by rfl) (by simp)) ?_;rw [List.drop_zero,htk]
     refine zw (sub_frzB 4 1 57 (ty:=93) (sz:=2) (off:=0) (m:=Lc.length) (es:=(sureL Lc).map aimR) (by omega) (by omega) rfl (by simp only [go_sem,List.getElem?_cons_succ,List.getElem?_cons_zero]) (by rfl) (by simp [sureL])) ?_;simp only [go_sem,List.drop_zero,htk2,List.set_cons_succ,List.set_cons_zero];refine zw (zfP 4 4 [i64 1,aimsR (sureL Lc)] (by omega) (by try simp only [go_sem]) (by try simp only [go_sem])) ?_;refine zw (zk [2,4,6]) ?_;simp only [go_sem]
     refine zq ?_
     refine zb fun K hK=>?_;simp only [go_sem];refine hK _ ?_;clear hK K;refine zw (zk [2,3]) ?_;simp only [go_sem];refine ze ?_;simp only [go_sem]
     try exact ⟨rv_le _,rv_le _⟩
 · have c2 : decide ((Lc.length : Int) < 4) = false:=decide_eq_false (by omega)
   have hfin : bsS w = Lc:=by
    have:=hfull hl4 (12 - i)
    rw [show i + (12 - i) = 12 by omega] at this
    exact this
   rw [hfin]
   by_cases h12 : i < 12
   · have c1 : decide ((k : Int) < 13) = true:=decide_eq_true (by omega)
     repeat refine zq ?_
     refine zb fun K hK=>?_;simp only [go_sem,c1,c2,List.length_map]
     (try intros)
     refine hK _ ?_;clear hK K;refine zw (zk [2,4,6,17]) ?_;simp only [go_sem]
     refine zc rfl (fun hc=>?_) (fun hc=>?_) <;> (try simp only [go_sem] at hc)
     refine zf ?_;simp only [go_sem];refine zw (sub_frz 6 36 (ty:=84) (sz:=1) (off:=0) (m:=Lc.length) (es:=arrV Lc) (by omega) rfl (by rfl) (by simp)) ?_;rw [List.drop_zero,htk]
     refine zw (sub_frzB 4 1 57 (ty:=93) (sz:=2) (off:=0) (m:=Lc.length) (es:=(sureL Lc).map aimR) (by omega) (by omega) rfl (by simp only [go_sem,List.getElem?_cons_succ,List.getElem?_cons_zero]) (by rfl) (by simp [sureL])) ?_;simp only [go_sem,List.drop_zero,htk2,List.set_cons_succ,List.set_cons_zero];refine zw (zfP 4 4 [i64 1,aimsR (sureL Lc)] (by omega) (by try simp only [go_sem]) (by try simp only [go_sem])) ?_;refine zw (zk [2,4,6]) ?_;simp only [go_sem]
     refine zq ?_
     refine zb fun K hK=>?_;simp only [go_sem];refine hK _ ?_;clear hK K;refine zw (zk [2,3]) ?_;simp only [go_sem];refine ze ?_;simp only [go_sem]
     try exact ⟨rv_le _,rv_le _⟩
   · have c1 : decide ((k : Int) < 13) = false:=decide_eq_false (by omega)
     repeat refine zq ?_
     refine zb fun K hK=>?_;simp only [go_sem,c1,List.length_map]
     (try intros)
     refine hK _ ?_;clear hK K;refine zw (zk [2,4,6,17]) ?_;simp only [go_sem]
     refine zc rfl (fun hc=>?_) (fun hc=>?_) <;> (try simp only [go_sem] at hc)
     refine zf ?_;simp only [go_sem];refine zw (sub_frz 6 36 (ty:=84) (sz:=1) (off:=0) (m:=Lc.length) (es:=arrV Lc) (by omega) rfl (by rfl) (by simp)) ?_;rw [List.drop_zero,htk]
     refine zw (sub_frzB 4 1 57 (ty:=93) (sz:=2) (off:=0) (m:=Lc.length) (es:=(sureL Lc).map aimR) (by omega) (by omega) rfl (by simp only [go_sem,List.getElem?_cons_succ,List.getElem?_cons_zero]) (by rfl) (by simp [sureL])) ?_;simp only [go_sem,List.drop_zero,htk2,List.set_cons_succ,List.set_cons_zero];refine zw (zfP 4 4 [i64 1,aimsR (sureL Lc)] (by omega) (by try simp only [go_sem]) (by try simp only [go_sem])) ?_;refine zw (zk [2,4,6]) ?_;simp only [go_sem]
     refine zq ?_
     refine zb fun K hK=>?_;simp only [go_sem];refine hK _ ?_;clear hK K;refine zw (zk [2,3]) ?_;simp only [go_sem];refine ze ?_;simp only [go_sem]
     try exact ⟨rv_le _,rv_le _⟩
set_option maxHeartbeats 8000000
def dbK : Rk:=⟨2,[⟨201,[⟨0,1,1⟩,⟨201,1,1⟩]⟩],2,1⟩
theorem dbK_ok : ROk dbK:=(checkR_zero (by decide +kernel)).2
theorem vokK {l : List Int} (h : l.all (fun x=>decide (0 ≤ x) && decide (x ≤ 1000000000) || decide (x = 2000000000)) = true) : ∀ x ∈ l,VOk x:=fun x hx=>by
 have:=List.all_eq_true.1 h x hx
 simp at this
 exact this
theorem ku : tabT dbK false = [0,0,1142858]:=by
 have h1 : numA dbK false [0,0,0] 2 = 1142858:=numA_upper dbK_ok (vokK (by decide)) (by decide) (by decide) (by omega) (by decide +kernel) (.inr (by decide +kernel))
 show ([0,0,0] : List Int).set 2 (numA dbK false [0,0,0] 2) = _
 rw [h1];rfl
theorem kl : tabT dbK true = [0,0,1142857]:=by
 have h1 : numA dbK true [0,0,0] 2 = 1142857:=numA_lower dbK_ok (vokK (by decide)) (by decide) (by decide) (by omega) (.inr (by decide +kernel)) (.inr (by decide +kernel))
 show ([0,0,0] : List Int).set 2 (numA dbK true [0,0,0] 2) = _
 rw [h1];rfl
theorem wfK (d : Int) (hd : d = 2) : WfL d [⟨201,[⟨0,1,1⟩,⟨201,1,1⟩]⟩]:=by
 subst hd
 refine ⟨by unfold I64;omega,fun a ha=>?_⟩
 simp only [List.mem_singleton] at ha
 subst ha
 refine ⟨by unfold I64;decide,fun c hc=>?_⟩
 simp only [List.mem_cons,List.not_mem_nil,or_false] at hc
 rcases hc with rfl | rfl <;> (unfold I64;decide)
theorem knownaim_ok : ACalls Tryz.prog 32 [] (.bo true):=by
 have hck : checkR dbK = 0:=by decide +kernel
 have htb:=table_ok dbK (wfK 2 rfl)
 rw [if_pos hck,if_pos hck,hck,ku,kl] at htb
 have htb' : ACalls Tryz.prog 22 [.ag [.it .i64 2,.sl 2 [[.it .i64 201,.sl 3 [[.it .i64 0,i64 1,i64 1],[.it .i64 201,i64 1,i64 1]]]],.it .i64 2,.it .i64 1]] (.tu [ints [0,0,1142858],ints [0,0,1142857],i64 0]):=htb
 have h1:=aspan_ok 1 1
 refine zas (rs:=[.bo true]) [.tmp 0] Tryz.func32 rfl (by kernel_rfl) Tryz.ntmps32 rfl (by simp) rfl fun C vs=>?_
 refine zq ?_
 refine zb fun K hK=>?_;simp only [go_sem];refine hK _ ?_;clear hK K;refine zw (zk []) ?_;simp only [go_sem]
 refine zq ?_
 refine zb fun K hK=>?_;simp only [go_sem]
 refine zh (h1) rfl (by simp only [go_sem,i64,ints]) (by simp only [go_sem,i64,ints]) (by first | exact .inl rfl | exact .inr rfl) ?_
 (try simp only [go_sem])
 refine zh (h1) rfl (by simp only [go_sem,i64,ints]) (by simp only [go_sem,i64,ints]) (by first | exact .inl rfl | exact .inr rfl) ?_
 (try simp only [go_sem])
 refine zh (htb') rfl (by simp only [go_sem,i64,ints]) (by simp only [go_sem,i64,ints]) (by first | exact .inl rfl | exact .inr rfl) ?_
 (try simp only [go_sem]);refine hK _ ?_;clear hK K;refine zw (zk [1,2,3]) ?_;simp only [go_sem]
 have e0 : ((0 : Int) == 0) = true:=rfl
 have e1 : ((3 : Int) == 3) = true:=rfl
 have e2 : ((1142858 : Int) == 1142858) = true:=rfl
 have e3 : ((1142857 : Int) == 1142857) = true:=rfl
 refine zq ?_
 refine zb fun K hK=>?_;simp only [go_sem,e0,e1,e2,e3,List.map_cons,List.map_nil,List.length_cons,List.length_nil]
 (try intros)
 refine hK _ ?_;clear hK K;refine zw (zk [0]) ?_;simp only [go_sem];refine ze ?_;simp only [go_sem]
def duK : Ru:=⟨2,[⟨201,[⟨0,1,1⟩,⟨201,1,1⟩]⟩],2,1,[(500000,500000),(1000000,1000000)]⟩
theorem ktoss : ACalls Tryz.prog 62 [.ag [.it .i64 2,.sl 2 [[.it .i64 201,.sl 3 [[.it .i64 0,i64 1,i64 1],[.it .i64 201,i64 1,i64 1]]]],.it .i64 2,.it .i64 1,.sl 2 [[i64 500000,i64 500000],[i64 1000000,i64 1000000]]]] (.tu [.ag [i64 929687,i64 929688],.ag [i64 437500,i64 437500],i64 0]):=by
 have h:=toss_ok duK ⟨wfK 2 rfl⟩
 have h0 : ruE duK = 0:=by decide +kernel
 have h1 : tossF duK false = 929687:=by decide +kernel
 have h2 : tossF duK true = 929688:=by decide +kernel
 have h3 : tossS duK false = 437500:=by decide +kernel
 have h4 : tossS duK true = 437500:=by decide +kernel
 unfold tossV at h
 rw [if_pos h0,if_pos h0,h0,h1,h2,h3,h4] at h
 exact h
theorem eqN48k : eqN Tryz.prog 48 = some 2:=by kernel_rfl
theorem knownduel_ok : ACalls Tryz.prog 33 [] (.bo true):=by
 have hto:=ktoss
 have h1:=aspan_ok 1 1
 have h2:=aspan_ok 500000 500000
 have h3:=aspan_ok 1000000 1000000
 have h4:=aspan_ok 929687 929688
 have h5:=aspan_ok 437500 437500
 refine zas (rs:=[.bo true]) [.tmp 0] Tryz.func33 rfl (by kernel_rfl) Tryz.ntmps33 rfl (by simp) rfl fun C vs=>?_
 refine zq ?_
 refine zb fun K hK=>?_;simp only [go_sem];refine hK _ ?_;clear hK K;refine zw (zk []) ?_;simp only [go_sem]
 refine zq ?_
 refine zb fun K hK=>?_;simp only [go_sem]
 refine zh (h1) rfl (by simp only [go_sem,i64,ints]) (by simp only [go_sem,i64,ints]) (by first | exact .inl rfl | exact .inr rfl) ?_
 (try simp only [go_sem])
 refine zh (h1) rfl (by simp only [go_sem,i64,ints]) (by simp only [go_sem,i64,ints]) (by first | exact .inl rfl | exact .inr rfl) ?_
 (try simp only [go_sem])
 refine zh (h2) rfl (by simp only [go_sem,i64,ints]) (by simp only [go_sem,i64,ints]) (by first | exact .inl rfl | exact .inr rfl) ?_
 (try simp only [go_sem])
 refine zh (h3) rfl (by simp only [go_sem,i64,ints]) (by simp only [go_sem,i64,ints]) (by first | exact .inl rfl | exact .inr rfl) ?_
 (try simp only [go_sem])
 refine zh (hto) rfl (by simp only [go_sem,i64,ints]) (by simp only [go_sem,i64,ints]) (by first | exact .inl rfl | exact .inr rfl) ?_
 (try simp only [go_sem]);refine hK _ ?_;clear hK K;refine zw (zfP 1 1 [i64 929687,i64 929688] (by omega) (by try simp only [go_sem]) (by try simp only [go_sem])) ?_;refine zw (zfP 2 2 [i64 437500,i64 437500] (by omega) (by try simp only [go_sem]) (by try simp only [go_sem])) ?_;refine zw (zk [1,2,3]) ?_;simp only [go_sem]
 have e0 : ((0 : Int) == 0) = true:=rfl
 refine zq ?_
 refine zg follows (by decide +kernel) (by kernel_rfl) fun K hK=>?_;simp only [go_sem,e0,eqN48k,cmpL,eq_self,if_true,List.length_cons,List.length_nil,beq_self_eq_true,Bool.and_true,Bool.and_self]
 refine zh (h4) rfl (by simp only [go_sem,i64,ints,e0,eqN48k,cmpL,eq_self,if_true,List.length_cons,List.length_nil,beq_self_eq_true,Bool.and_true,Bool.and_self]) (by simp only [go_sem,i64,ints,e0,eqN48k,cmpL,eq_self,if_true,List.length_cons,List.length_nil,beq_self_eq_true,Bool.and_true,Bool.and_self]) (by first | exact .inl rfl | exact .inr rfl) ?_
 (try simp only [go_sem,e0,eqN48k,cmpL,eq_self,if_true,List.length_cons,List.length_nil,beq_self_eq_true,Bool.and_true,Bool.and_self])
 refine zh (h5) rfl (by simp only [go_sem,i64,ints,e0,eqN48k,cmpL,eq_self,if_true,List.length_cons,List.length_nil,beq_self_eq_true,Bool.and_true,Bool.and_self]) (by simp only [go_sem,i64,ints,e0,eqN48k,cmpL,eq_self,if_true,List.length_cons,List.length_nil,beq_self_eq_true,Bool.and_true,Bool.and_self]) (by first | exact .inl rfl | exact .inr rfl) ?_
 (try simp only [go_sem,e0,eqN48k,cmpL,eq_self,if_true,List.length_cons,List.length_nil,beq_self_eq_true,Bool.and_true,Bool.and_self]);refine hK _ ?_;clear hK K;refine zw (zk [0]) ?_;simp only [go_sem];refine ze ?_;simp only [go_sem]
theorem sure_want {bs : List Int} {st : Nat} {g : Int} {n k s : Nat} (hB : ∀ b ∈ bs,bedOk b = true) (hne : bs ≠ []) (hr : ROk (suK bs st g)) (h1 : lowG g ≤ s) (h2 : s ≤ st) (hs12 : s ≤ 60) (hk : k < n) :
 (endB g bs (3 * (n - k)) s = true ∧ ∃ v : Nat,(tabT (suK bs st g) false).getD s 0 = (v : Int) * 1000000 ∧ v ≤ 60 ∧ v ≤ n - k) ∨
 (endB g bs (3 * (n - k)) s = false ∧ ((tabT (suK bs st g) false).getD s 0 = 2000000000 ∨ ∃ v : Nat,(tabT (suK bs st g) false).getD s 0 = (v : Int) * 1000000 ∧ v ≤ 60 ∧ n - k < v)):=by
 rcases sure_at hB hne hr false s h1 (by omega) with ⟨v,v1,v2,v3,v4⟩ | ⟨v1,v2⟩
 · have hv60 : v ≤ 60:=by
    refine Nat.not_lt.1 fun hlt=>?_
    have:=end_le (end_self hB s s (Nat.le_refl _) _ v3) (show s ≤ 3 * (v - 1) by omega)
    rw [v4] at this;cases this
   by_cases hE : endB g bs (3 * (n - k)) s = true
   · left
     refine ⟨hE,v,v2,hv60,?_⟩
     refine Nat.not_lt.1 fun hlt=>?_
     have:=end_le hE (show 3 * (n - k) ≤ 3 * (v - 1) by omega)
     rw [v4] at this;cases this
   · right
     refine ⟨by simpa using hE,.inr ⟨v,v2,hv60,?_⟩⟩
     refine Nat.not_le.1 fun hle=>?_
     exact hE (end_le v3 (by omega))
 · right
   exact ⟨v2 _,.inl v1⟩
theorem law_nevermiss (w : Int) (v0 v1 v2 : Nat) (h0 : v0 < 256) (h1 : v1 < 256) (h2 : v2 < 256) : ACalls Tryz.prog 5 [.it .u16 w,.ag [.it .u8 (v0 : Int),.it .u8 (v1 : Int),.it .u8 (v2 : Int)]] (.bo true):=by
 have hk1:=knownaim_ok
 have hk2:=knownduel_ok
 have hsu:=armsure_ok w
 have hsp0:=aspan_ok 0 0
 have hsp1:=aspan_ok 1000000 1000000
 obtain ⟨hB,hlen⟩:=bsS_ok w
 generalize bsS w = bs at *
 have hne : bs ≠ []:=List.length_pos_iff.1 (by omega)
 have m0:=Nat.mod_lt v0 (show 11 > 0 by omega)
 have m1:=Nat.mod_lt v1 (show 3 > 0 by omega)
 have m2:=Nat.mod_lt v2 (show 8 > 0 by omega)
 have k0 : IntKind.i64.wrap (v0 : Int) = v0:=by rw [zI] <;> omega
 have k2 : IntKind.i64.wrap (v2 : Int) = v2:=by rw [zI] <;> omega
 have r0 : Int.tmod (v0 : Int) 11 = ((v0 % 11 : Nat) : Int):=rfl
 have r1 : Int.tmod (v1 : Int) 3 = ((v1 % 3 : Nat) : Int):=rfl
 have r2 : Int.tmod (v2 : Int) 8 = ((v2 % 8 : Nat) : Int):=rfl
 have w0 : IntKind.i64.wrap (2 + ((v0 % 11 : Nat) : Int)) = ((2 + v0 % 11 : Nat) : Int):=by rw [zI] <;> omega
 have w1 : IntKind.i64.wrap ((v1 % 3 : Nat) : Int) = ((v1 % 3 : Nat) : Int):=by rw [zI] <;> omega
 generalize hst : 2 + v0 % 11 = st at *
 generalize hg : v1 % 3 = g at *
 generalize hfr : v2 % 8 = free at *
 have hst2 : 2 ≤ st ∧ st ≤ 12:=by omega
 have hck : checkR (suK bs st g) = 0:=su_ok hB ⟨by omega,by omega⟩ (by omega) (by omega)
 have hchk : checkV 1 (sureL bs) = 0:=sure_chk hB ⟨by omega,by omega⟩
 have hwL : WfL 1 (sureL bs):=by
  refine ⟨by unfold I64;omega,fun a ha=>?_⟩
  obtain ⟨b,hb,rfl⟩:=List.mem_map.1 ha
  have hv:=hB b hb
  have hb2 : 0 ≤ b ∧ b ≤ 499:=by
   simp only [bedOk,Bool.or_eq_true,Bool.and_eq_true,decide_eq_true_eq] at hv
   omega
  refine ⟨by show I64 b;unfold I64;omega,fun c hc=>?_⟩
  simp only [sureA,List.mem_singleton] at hc
  subst hc
  refine ⟨?_,?_,?_⟩ <;> (unfold I64;simp only;omega)
 have hr:=(checkR_zero hck).2
 have htb:=table_ok (suK bs st g) hwL
 rw [if_pos hck,if_pos hck,hck] at htb
 have hn : 1 ≤ free + 1 ∧ free + 1 ≤ 10:=by omega
 have hE:=dsu_ok (st:=(st : Int)) (g:=(g : Int)) (n:=free + 1) hB ⟨by omega,by omega⟩ (by omega) (by omega) hn
 have hdt:=Go.Proofs.YtgfbenanljjgaaaGreat.Du.table_ok (suR bs st g (free + 1)) ⟨hwL⟩
 unfold tabsV at hdt
 rw [if_pos hE,if_pos hE,hE] at hdt
 have hta0:=fun {k s : Nat} (q1 : k < free + 1) (q2 : lowG (g : Int) ≤ s) (q3 : s ≤ st)=>tabF_sure (g:=(g : Int)) hB hne hn.1 false q1 q2 q3
 have hta1:=fun {k s : Nat} (q1 : k < free + 1) (q2 : lowG (g : Int) ≤ s) (q3 : s ≤ st)=>tabF_sure (g:=(g : Int)) hB hne hn.1 true q1 q2 q3
 have hro0:=tab_rows hE false
 have hro1:=tab_rows hE true
 have hel : (suR bs st g (free + 1)).ends.length = free + 1:=rnd_len (free + 1) hn.1
 have hsl : (suR bs st g (free + 1)).start.toNat = st:=by show (st : Int).toNat = st;omega
 rw [hel,hsl] at hro0 hro1
 have hwant:=fun {k s : Nat} (q1 : lowG (g : Int) ≤ s) (q2 : s ≤ st) (q3 : k < free + 1)=>sure_want (n:=free + 1) hB hne hr q1 q2 (by omega) q3
 have hlU:=tabT_len hr false
 have hstE : (suK bs st g).start = (st : Int):=rfl
 rw [hstE] at hlU
 have htb2 : ACalls Tryz.prog 22 [.ag [i64 1,aimsR (sureL bs),i64 (st : Int),i64 (g : Int)]] (.tu [ints (tabT (suK bs st g) false),ints (tabT (suK bs st g) true),i64 0]):=htb
 have hdt2 : ACalls Tryz.prog 24 [.ag [i64 1,aimsR (sureL bs),i64 (st : Int),i64 (g : Int),spansR (rndL (free + 1))]] (.tu [tabR (tabF (suR bs st g (free + 1)) false),tabR (tabF (suR bs st g (free + 1)) true),i64 0]):=hdt
 have hlg:=lowG_le (g : Int)
 have hlow:=armlow_ok (g : Int)
 generalize tabF (suR bs st g (free + 1)) false = A at *
 generalize tabF (suR bs st g (free + 1)) true = B2 at *
 generalize tabT (suK bs st g) false = U at *
 generalize tabT (suK bs st g) true = L at *
 have lU : U.length = st + 1:=by omega
 have ws : IntKind.i64.wrap ((st : Int) + 1) = ((st + 1 : Nat) : Int):=by rw [zI] <;> omega
 have wf : IntKind.i64.wrap ((free : Int) + 1) = ((free + 1 : Nat) : Int):=by rw [zI] <;> omega
 have z0 : ((0 : Int) != 0) = false:=rfl
 have zl : (((st + 1 : Nat) : Int) != ((st + 1 : Nat) : Int)) = false:=by simp
 have zl2 : ((st : Int) + 1 != (st : Int) + 1) = false:=by simp
 have yf1 : (((free + 1 : Nat) : Int) != ((free + 1 : Nat) : Int)) = false:=by simp
 have zf2 : ((free : Int) + 1 != (free : Int) + 1) = false:=by simp
 refine zas (rs:=[.bo true]) [.tmp 4] Tryz.func5 rfl (by kernel_rfl) Tryz.ntmps5 rfl (by simp) rfl fun C vs=>?_
 refine zq ?_
 refine zb fun K hK=>?_;simp only [go_sem];refine hK _ ?_;clear hK K;refine zw (zfP 3 3 [.it .u8 (v0 : Int),.it .u8 (v1 : Int),.it .u8 (v2 : Int)] (by omega) rfl rfl) ?_;refine zw (zk [0,3]) ?_;simp only [go_sem]
 refine zq ?_
 refine zb fun K hK=>?_;simp only [go_sem]
 refine zh (hsu) rfl (by simp only [go_sem,i64,ints]) (by simp only [go_sem,i64,ints]) (by first | exact .inl rfl | exact .inr rfl) ?_
 (try simp only [go_sem]);refine hK _ ?_;clear hK K;refine zw (zfP 5 5 [i64 1,aimsR (sureL bs)] (by omega) (by try simp only [go_sem]) (by try simp only [go_sem])) ?_;refine zw (zk [3,5]) ?_;simp only [go_sem]
 refine zq ?_
 refine zb fun K hK=>?_;simp only [go_sem,k0,r0,r1,w0,w1];refine hK _ ?_;clear hK K;refine zw (zfP 7 7 [i64 1,aimsR (sureL bs),i64 (st : Int),i64 (g : Int)] (by omega) (by try simp only [go_sem]) (by try simp only [go_sem])) ?_;refine zw (zk [3,5,7]) ?_;simp only [go_sem]
 refine zq ?_
 refine zb fun K hK=>?_;simp only [go_sem]
 refine zh (htb2) rfl (by simp only [go_sem,i64,ints]) (by simp only [go_sem,i64,ints]) (by first | exact .inl rfl | exact .inr rfl) ?_
 (try simp only [go_sem]);refine hK _ ?_;clear hK K;refine zw (zk [3,5,7,8,10]) ?_;simp only [go_sem]
 refine zq ?_
 refine awp_dreg2 [(3,none),(5,none),(7,none)] follows (by decide +kernel) (by kernel_rfl) (by simp only [keysOk,List.mem_cons,List.not_mem_nil,forall_eq_or_imp,Oc.keyOf,go_sem];simp) fun K hK=>?_
 simp only [go_sem,k2,r2];refine hK _ ?_;clear hK K;refine zw (zk [7,8,10,11,12]) ?_;simp only [go_sem];refine zw (sub_ownB 11 4 61 48 2 (by omega) (by omega) rfl (by simp only [go_sem,List.getElem?_cons_succ,List.getElem?_cons_zero])) ?_
 try simp only [go_sem]
 repeat refine zq ?_
 refine zb fun K hK=>?_;simp only [go_sem];refine hK _ ?_;clear hK K;refine zw (zk [7,8,10,11,12,13]) ?_;simp only [go_sem];refine zd ?_
 refine zuv (n:=178) free (fun i vs=>[(7,.r (.rp [i64 1,aimsR (sureL bs),i64 (st : Int),i64 (g : Int)])),(8,.r (ints U)),(10,.r (i64 0)),(11,.pt 11 (vs 11) 0),(12,.r (i64 (free : Int))),(13,.r (i64 (i : Int)))])
  (fun i vs=>[(11,.box [.r (i64 1),.r (aimsR (sureL bs)),.r (i64 (st : Int)),.r (i64 (g : Int)),.os 61 (vs 61) 2 0 i]),(61,.arr 48 2 (List.replicate i [i64 0,i64 0]))]) (fun _=>True) 0 (zj [] ?_ ?_) (Nat.zero_le _) trivial ?_
 · try simp only [go_sem]
   try rfl
 · try simp only [go_sem]
   try rfl
 intro i vs hi _
 by_cases hif : i < free
 · have wi : IntKind.i64.wrap ((i : Int) + 1) = (i : Int) + 1:=by rw [zI] <;> omega
   have hlr : (List.replicate i [i64 0,i64 0]).length = i:=by simp
   have hrep : List.replicate (i + 1) [i64 0,i64 0] = List.replicate i [i64 0,i64 0] ++ [[i64 0,i64 0]]:=List.replicate_succ'
   rw [hrep]
   have e1 : decide ((i : Int) < (free : Int)) = true:=decide_eq_true (by omega)
   repeat refine zq ?_
   refine zb fun K hK=>?_;simp only [go_sem,e1];refine hK _ ?_;clear hK K;refine zw (zk [7,8,10,11,12,13,54]) ?_;simp only [go_sem]
   refine zc rfl (fun hc=>?_) (fun hc=>?_) <;> (try simp only [go_sem] at hc)
   rotate_left
   · exact absurd hif hc
   refine zx ?_
   try simp only [go_sem]
   refine zq ?_
   refine zd ?_
   refine awp_dreg3 [(11,some 11)] [11] follows (by decide +kernel) (by kernel_rfl) (by simp only [keysOk,List.mem_cons,List.not_mem_nil,forall_eq_or_imp,Oc.keyOf,go_sem];simp) (by intro k hk;simp only [List.mem_cons,List.not_mem_nil,or_false] at hk;first | (subst hk;exact ⟨_,rfl⟩) | (rcases hk with rfl | rfl <;> exact ⟨_,rfl⟩) | (rcases hk with rfl | rfl | rfl <;> exact ⟨_,rfl⟩)) fun K hK=>?_
   simp only [go_sem,hlr]
   refine zh (hsp0) rfl (by simp only [go_sem,i64,ints,hlr]) (by simp only [go_sem,i64,ints,hlr]) (by first | exact .inl rfl | exact .inr rfl) ?_
   (try simp only [go_sem,hlr])
   refine ⟨by omega,?_⟩
   refine hK _ ?_;clear hK K;refine zw (zk [7,8,10,11,12,13]) ?_;simp only [go_sem];refine zb fun K hK=>?_;simp only [go_sem,wi];refine hK _ ?_;clear hK K
   try simp only [go_sem]
   refine ⟨by omega,zj [] ?_ ?_⟩
   · try simp only [go_sem]
   · try simp only [go_sem]
 have hie : i = free:=by omega
 subst hie
 repeat refine zq ?_
 refine zb fun K hK=>?_;simp only [go_sem,Nat.lt_irrefl];refine hK _ ?_;clear hK K;refine zw (zk [7,8,10,11,12,54]) ?_;simp only [go_sem]
 refine zc rfl (fun hc=>?_) (fun hc=>?_) <;> (try simp only [go_sem] at hc)
 refine zf ?_;simp only [go_sem]
 have hlr : (List.replicate i [i64 0,i64 0]).length = i:=by simp
 refine zq ?_
 refine awp_dreg3 [(11,some 11)] [11] follows (by decide +kernel) (by kernel_rfl) (by simp only [keysOk,List.mem_cons,List.not_mem_nil,forall_eq_or_imp,Oc.keyOf,go_sem];simp) (by intro k hk;simp only [List.mem_cons,List.not_mem_nil,or_false] at hk;first | (subst hk;exact ⟨_,rfl⟩) | (rcases hk with rfl | rfl <;> exact ⟨_,rfl⟩) | (rcases hk with rfl | rfl | rfl <;> exact ⟨_,rfl⟩)) fun K hK=>?_
 simp only [go_sem,hlr]
 refine zh (hsp1) rfl (by simp only [go_sem,i64,ints,hlr]) (by simp only [go_sem,i64,ints,hlr]) (by first | exact .inl rfl | exact .inr rfl) ?_
 (try simp only [go_sem,hlr])
 refine ⟨by omega,?_⟩
 refine hK _ ?_;clear hK K
 have hrs : List.replicate i [i64 0,i64 0] ++ [[i64 1000000,i64 1000000]] = (rndL (i + 1)).map spanR:=by
  unfold rndL
  simp [spanR]
 rw [hrs]
 refine zw (sub_frzB 11 4 61 (ty:=48) (sz:=2) (off:=0) (m:=i + 1) (es:=(rndL (i + 1)).map spanR) (by omega) (by omega) (by rfl) (by simp only [go_sem,List.getElem?_cons_succ,List.getElem?_cons_zero]) (by rfl) (by simp [rnd_len])) ?_
 have tk1 : (((rndL (i + 1)).map spanR).drop 0).take (i + 1) = (rndL (i + 1)).map spanR:=by
  rw [List.drop_zero,List.take_of_length_le (by simp [rnd_len])]
 rw [tk1]
 simp only [go_sem,List.set_cons_succ,List.set_cons_zero];refine zw (zfP 11 11 [i64 1,aimsR (sureL bs),i64 (st : Int),i64 (g : Int),spansR (rndL (i + 1))] (by omega) (by try simp only [go_sem]) (by try simp only [go_sem])) ?_;refine zw (zk [7,8,10,11,12]) ?_;simp only [go_sem]
 refine zq ?_
 refine zb fun K hK=>?_;simp only [go_sem]
 refine zh (hdt2) rfl (by simp only [go_sem,i64,ints]) (by simp only [go_sem,i64,ints]) (by first | exact .inl rfl | exact .inr rfl) ?_
 (try simp only [go_sem]);refine hK _ ?_;clear hK K;refine zw (zk [7,8,10,12,14,15,16]) ?_;simp only [go_sem]
 obtain ⟨lA,hrA⟩:=hro0
 obtain ⟨lB,hrB⟩:=hro1
 repeat refine zq ?_
 refine zb fun K hK=>?_;simp only [go_sem,z0,lU,lA,lB,ws,wf,zl,zl2,yf1,zf2,List.length_map]
 (try intros)
 refine hK _ ?_;clear hK K;refine zw (zk [7,8,12,14,15,102]) ?_;simp only [go_sem]
 refine zc rfl (fun hc=>?_) (fun hc=>?_) <;> (try simp only [go_sem] at hc)
 refine zx ?_
 try simp only [go_sem]
 repeat refine zq ?_
 refine zb fun K hK=>?_;simp only [go_sem];refine hK _ ?_;clear hK K;refine zw (zk [7,8,12,14,15,17]) ?_;simp only [go_sem];refine zd ?_
 obtain ⟨base,hbase⟩ : ∃ base : Nat,(base : Int) = lowG (g : Int):=⟨(lowG (g : Int)).toNat,by omega⟩
 refine zup (n:=178) (i + 1) (fun k vs=>[(7,.r (.rp [i64 1,aimsR (sureL bs),i64 (st : Int),i64 (g : Int)])),(8,.r (ints U)),(12,.r (i64 (i : Int))),(14,.r (tabR A)),(15,.r (tabR B2)),(17,.r (i64 (k : Int)))])
  (fun k=>[]) (fun _=>True) 0 (zfo [] ?_ ?_) (Nat.zero_le _) trivial ?_
 · try simp only [go_sem]
 · try simp only [go_sem]
 intro k vs hk _
 by_cases hkn : k < i + 1
 · have e1 : decide ((k : Int) ≤ (i : Int)) = true:=decide_eq_true (by omega)
   have hkA : k < A.length:=by omega
   have hkB : k < B2.length:=by omega
   obtain ⟨ra,hra⟩:=zol hkA
   obtain ⟨rb,hrb⟩:=zol hkB
   have la:=hrA ra (zmo hra)
   have lb:=hrB rb (zmo hrb)
   have ga : A.getD k [] = ra:=by simp [List.getD,hra]
   have gb : B2.getD k [] = rb:=by simp [List.getD,hrb]
   have wk : IntKind.i64.wrap ((k : Int) + 1) = (k : Int) + 1:=by rw [zI] <;> omega
   have hki : k ≤ i:=by omega
   repeat refine zq ?_
   refine zb fun K hK=>?_;simp only [go_sem,e1];refine hK _ ?_;clear hK K;refine zw (zk [7,8,12,14,15,17,105]) ?_;simp only [go_sem]
   refine zc rfl (fun hc=>?_) (fun hc=>?_) <;> (try simp only [go_sem] at hc)
   rotate_left
   · exact absurd hki hc
   refine zx ?_
   try simp only [go_sem]
   refine zq ?_
   refine zd ?_
   repeat refine zq ?_
   refine zg follows (by decide +kernel) (by kernel_rfl) fun K hK=>?_;simp only [go_sem,hra,hrb,hkA,hkB,la,lb,lA,lB,ws,zl,zl2,List.length_map];repeat first | intro _ | refine ⟨by omega,?_⟩
   refine hK _ ?_;clear hK K;refine zw (zk [7,8,12,14,15,17,127]) ?_;simp only [go_sem]
   refine zc rfl (fun hc=>?_) (fun hc=>?_) <;> (try simp only [go_sem] at hc)
   refine zx ?_
   try simp only [go_sem]
   refine zq ?_
   refine zb fun K hK=>?_;simp only [go_sem]
   refine zh (hlow) rfl (by simp only [go_sem,i64,ints]) (by simp only [go_sem,i64,ints]) (by first | exact .inl rfl | exact .inr rfl) ?_
   (try simp only [go_sem]);refine hK _ ?_;clear hK K;refine zw (zk [7,8,12,14,15,17,18]) ?_;simp only [go_sem];refine zd ?_
   refine zup (n:=178) (st + 1 - base) (fun j vs=>[(7,.r (.rp [i64 1,aimsR (sureL bs),i64 (st : Int),i64 (g : Int)])),(8,.r (ints U)),(12,.r (i64 (i : Int))),(14,.r (tabR A)),(15,.r (tabR B2)),(17,.r (i64 (k : Int))),(18,.r (i64 ((base + j : Nat) : Int)))])
    (fun j=>[]) (fun _=>True) 0 (zfo [] ?_ ?_) (Nat.zero_le _) trivial ?_
   · try simp only [go_sem]
     rw [← hbase]
   · try simp only [go_sem]
   intro j vs hj _
   obtain ⟨s,hs⟩ : ∃ s,s = base + j:=⟨_,rfl⟩
   have hnx : base + (j + 1) = s + 1:=by omega
   rw [hnx,← hs]
   have wl : IntKind.i64.wrap ((s : Int) + 1) = ((s + 1 : Nat) : Int):=by rw [zI] <;> omega
   by_cases hss : s ≤ st
   · have e2 : decide ((s : Int) ≤ (st : Int)) = true:=decide_eq_true (by omega)
     obtain ⟨u,hu⟩:=zol (show s < U.length by omega)
     obtain ⟨a,ha⟩:=zol (show s < ra.length by omega)
     obtain ⟨b,hb⟩:=zol (show s < rb.length by omega)
     have hsU : s < U.length:=by omega
     have hsa : s < ra.length:=by omega
     have hsb : s < rb.length:=by omega
     have gu : U.getD s 0 = u:=by simp [List.getD,hu]
     have va:=hta0 hkn (s:=s) (by omega) hss
     have vb:=hta1 hkn (s:=s) (by omega) hss
     have hw:=hwant (k:=k) (s:=s) (by omega) hss hkn
     rw [gu] at hw
     have eva : a = if endB (g : Int) bs (3 * (i + 1 - k)) s = true then 1000000 else 0:=by
      rw [← va,ga];simp [List.getD,ha]
     have evb : b = if endB (g : Int) bs (3 * (i + 1 - k)) s = true then 1000000 else 0:=by
      rw [← vb,gb];simp [List.getD,hb]
     obtain ⟨W,hW⟩ : ∃ W : Int,W = if endB (g : Int) bs (3 * (i + 1 - k)) s = true then 1000000 else 0:=⟨_,rfl⟩
     rw [← hW] at eva evb
     repeat refine zq ?_
     refine zb fun K hK=>?_;simp only [go_sem,e2];refine hK _ ?_;clear hK K;refine zw (zk [7,8,12,14,15,17,18,134]) ?_;simp only [go_sem]
     refine zc rfl (fun hc=>?_) (fun hc=>?_) <;> (try simp only [go_sem] at hc)
     rotate_left
     · exact absurd hss hc
     refine zx ?_
     try simp only [go_sem]
     refine zq ?_
     refine zd ?_
     refine zq ?_
     refine zb fun K hK=>?_;simp only [go_sem];refine hK _ ?_;clear hK K;refine zw (zk [7,8,12,14,15,17,18,19]) ?_;simp only [go_sem]
     repeat refine zq ?_
     refine zaj (n:=178) (fun (_ : Unit) vs=>[(7,.r (.rp [i64 1,aimsR (sureL bs),i64 (st : Int),i64 (g : Int)])),(8,.r (ints U)),(12,.r (i64 (i : Int))),(14,.r (tabR A)),(15,.r (tabR B2)),(17,.r (i64 (k : Int))),(18,.r (i64 (s : Int))),(19,.r (i64 0)),(153,.r (.bo (endB (g : Int) bs (3 * (i + 1 - k)) s)))]) (fun _=>[]) (fun _=>True) (fun _ h=>h) ?_ ?_
     · have p1 : IntKind.i64.wrap ((i : Int) - (k : Int)) = (i : Int) - k:=by rw [zI] <;> omega
       have p2 : IntKind.i64.wrap ((i : Int) - (k : Int) + 1) = (i : Int) - k + 1:=by rw [zI] <;> omega
       rcases hw with ⟨x1,v,x2,x3,x4⟩ | ⟨x1,x2 | ⟨v,x2,x3,x4⟩⟩
       · have c1 : (u != 2000000000) = true:=by rw [bne_iff_ne];omega
         have c2 : u.tdiv 1000000 = (v : Int):=by rw [Int.tdiv_eq_ediv_of_nonneg (by omega)];omega
         have c3 : IntKind.i64.wrap (v : Int) = (v : Int):=by rw [zI] <;> omega
         have c4 : decide ((v : Int) ≤ (i : Int) - (k : Int) + 1) = true:=decide_eq_true (by omega)
         rw [x1]
         refine zb fun K hK=>?_;simp only [go_sem,hu,hsU,c1,c2,c3,p1,p2,c4,List.length_map];refine hK _ ?_;clear hK K;exact ⟨(),trivial,zfo [] (by try simp only [go_sem]) (by try simp only [go_sem])⟩
       · have c1 : (u != 2000000000) = false:=by rw [x2];rfl
         rw [x1]
         refine zb fun K hK=>?_;simp only [go_sem,hu,hsU,c1,List.length_map];refine hK _ ?_;clear hK K;exact ⟨(),trivial,zfo [] (by try simp only [go_sem]) (by try simp only [go_sem])⟩
       · have c1 : (u != 2000000000) = true:=by rw [bne_iff_ne];omega
         have c2 : u.tdiv 1000000 = (v : Int):=by rw [Int.tdiv_eq_ediv_of_nonneg (by omega)];omega
         have c3 : IntKind.i64.wrap (v : Int) = (v : Int):=by rw [zI] <;> omega
         have c4 : decide ((v : Int) ≤ (i : Int) - (k : Int) + 1) = false:=decide_eq_false (by omega)
         rw [x1]
         refine zb fun K hK=>?_;simp only [go_sem,hu,hsU,c1,c2,c3,p1,p2,c4,List.length_map];refine hK _ ?_;clear hK K;exact ⟨(),trivial,zfo [] (by try simp only [go_sem]) (by try simp only [go_sem])⟩
     intro _ vs _
     generalize endB (g : Int) bs (3 * (i + 1 - k)) s = E at *
     refine zaj (n:=178) (fun (_ : Unit) vs=>[(7,.r (.rp [i64 1,aimsR (sureL bs),i64 (st : Int),i64 (g : Int)])),(8,.r (ints U)),(12,.r (i64 (i : Int))),(14,.r (tabR A)),(15,.r (tabR B2)),(17,.r (i64 (k : Int))),(18,.r (i64 (s : Int))),(19,.r (i64 W))]) (fun _=>[]) (fun _=>True) (fun _ h=>h) ?_ ?_
     · cases E
       · have hW1 : W = 0:=by rw [hW,if_neg (by simp)]
         rw [hW1]
         refine zc rfl (fun hc=>?_) (fun hc=>?_) <;> (try simp only [go_sem] at hc)
         refine zx ?_
         try simp only [go_sem]
         exact ⟨(),zfo [] (by try simp only [go_sem]) (by try simp only [go_sem])⟩
       · have hW1 : W = 1000000:=by rw [hW,if_pos rfl]
         rw [hW1]
         refine zc rfl (fun hc=>?_) (fun hc=>?_) <;> (try simp only [go_sem] at hc)
         refine zb fun K hK=>?_;simp only [go_sem];refine hK _ ?_;clear hK K;exact ⟨(),trivial,zfo [] (by try simp only [go_sem]) (by try simp only [go_sem])⟩
     intro _ vs _
     have yw1 : (W != W) = false:=by simp
     rw [eva] at ha
     rw [evb] at hb
     refine zq ?_
     refine zb fun K hK=>?_;simp only [go_sem,hra,hrb,hkA,hkB,ha,hb,hsa,hsb,yw1,List.length_map];refine hK _ ?_;clear hK K;refine zw (zk [7,8,12,14,15,17,18,173]) ?_;simp only [go_sem]
     refine zc rfl (fun hc=>?_) (fun hc=>?_) <;> (try simp only [go_sem] at hc)
     refine zx ?_
     try simp only [go_sem]
     refine zb fun K hK=>?_;simp only [go_sem,wl];refine hK _ ?_;clear hK K
     try simp only [go_sem]
     refine ⟨by omega,zfo [] ?_ ?_⟩
     · try simp only [go_sem]
     · try simp only [go_sem]
   · have e2 : decide ((s : Int) ≤ (st : Int)) = false:=decide_eq_false (by omega)
     repeat refine zq ?_
     refine zb fun K hK=>?_;simp only [go_sem,e2];refine hK _ ?_;clear hK K;refine zw (zk [7,8,12,14,15,17,134]) ?_;simp only [go_sem]
     refine zc rfl (fun hc=>?_) (fun hc=>?_) <;> (try simp only [go_sem] at hc)
     · exact absurd hc hss
     refine zf ?_;simp only [go_sem];refine zb fun K hK=>?_;simp only [go_sem,wk];refine hK _ ?_;clear hK K
     try simp only [go_sem]
     refine ⟨hkn,zfo [] ?_ ?_⟩
     · try simp only [go_sem]
     · try simp only [go_sem]
 · have e1 : decide ((k : Int) ≤ (i : Int)) = false:=decide_eq_false (by omega)
   have hkn2 : ¬ k ≤ i:=by omega
   repeat refine zq ?_
   refine zb fun K hK=>?_;simp only [go_sem,e1];refine hK _ ?_;clear hK K;refine zw (zk [105]) ?_;simp only [go_sem]
   refine zc rfl (fun hc=>?_) (fun hc=>?_) <;> (try simp only [go_sem] at hc)
   · exact absurd hc hkn2
   refine zf ?_;simp only [go_sem]
   refine zq ?_
   refine zb fun K hK=>?_;simp only [go_sem]
   refine zh (hk1) rfl (by simp only [go_sem,i64,ints]) (by simp only [go_sem,i64,ints]) (by first | exact .inl rfl | exact .inr rfl) ?_
   (try simp only [go_sem])
   refine zh (hk2) rfl (by simp only [go_sem,i64,ints]) (by simp only [go_sem,i64,ints]) (by first | exact .inl rfl | exact .inr rfl) ?_
   (try simp only [go_sem]);refine hK _ ?_;clear hK K;refine zw (zk [4]) ?_;simp only [go_sem];refine ze ?_;simp only [go_sem]
end Go.Proofs.YtgfbenanljjgaaaGreat.Du.Th.Ai

namespace Go.Oc
open Go Go.RowKit Go.ChangeShapes Go.WideShapes
inductive Sh where
 | int (k : IntKind)
 | bool
 | sl (es : List Sh)
def fieldsSh (P : Program) (sh : TypeId → Option (List Sh)) : List Field → Nat → Option (List Sh)
 | [],_=>some []
 | f :: fs, o =>
   match sh f.type with
   | some ss=>if f.offset == o && ss.length == P.cellsOf f.type then match fieldsSh P sh fs (o + ss.length) with | some q=>some (ss ++ q) | none=>none else none
   | none=>none
def shape (P : Program) : Nat → TypeId → Option (List Sh)
 | 0,_=>none
 | n + 1, t =>
   match P.underlying t with
   | some (.int k)=>some [.int k]
   | some .bool=>some [.bool]
   | some (.slice e) =>
     match shape P n e with
     | some ss=>if ss.length == P.cellsOf e && decide (0 < ss.length) then some [.sl ss] else none
     | none=>none
   | some (.array m e) =>
     match shape P n e with
     | some ss=>if ss.length == P.cellsOf e && P.cellsOf t == m * ss.length then some (List.replicate m ss).flatten else none
     | none=>none
   | some (.struct fs) =>
     match fieldsSh P (shape P n) fs.toList 0 with
     | some ss=>if ss.length == P.cellsOf t then some ss else none
     | none=>none
   | _=>none
mutual
def Fits : Sh → RV → Prop
 | .int k,x=>∃ n,x = .it k n ∧ (Lit.int k n).wf = true
 | .bool,x=>∃ b,x = .bo b
 | .sl ss,x=>∃ es,x = .sl ss.length es ∧ FitsE ss es
def FitsL : List Sh → List RV → Prop
 | [],xs=>xs = []
 | s :: ss,xs=>∃ y ys,xs = y :: ys ∧ Fits s y ∧ FitsL ss ys
def FitsE (ss : List Sh) : List (List RV) → Prop
 | []=>True
 | e :: es=>FitsL ss e ∧ FitsE ss es
end
theorem fitsL_append : ∀ {s1 s2 : List Sh} {x1 x2 : List RV},FitsL s1 x1 → FitsL s2 x2 → FitsL (s1 ++ s2) (x1 ++ x2)
 | [],_,_,_,h1,h2=>by simp only [FitsL] at h1;subst h1;simpa using h2
 | s :: ss, s2, x1, x2, h1, h2 => by
   simp only [FitsL] at h1
   obtain ⟨y,ys,rfl,h3,h4⟩:=h1
   simp only [List.cons_append,FitsL];exact ⟨y,_,rfl,h3,fitsL_append h4 h2⟩
theorem fitsL_length : ∀ {ss : List Sh} {xs : List RV},FitsL ss xs → xs.length = ss.length
 | [],_,h=>by simp only [FitsL] at h;subst h;rfl
 | s :: ss, _, h => by
   simp only [FitsL] at h
   obtain ⟨y,ys,rfl,_,h⟩:=h
   simp [fitsL_length h]
theorem fitsE_of : ∀ {ss : List Sh} {es : List (List RV)},(∀ e ∈ es,FitsL ss e) → FitsE ss es
 | _,[],_=>by simp only [FitsE]
 | ss,e :: es,h=>by simp only [FitsE];exact ⟨h e (by simp),fitsE_of fun x hx=>h x (by simp [hx])⟩
theorem choice {α : Type} {Q : Nat → α → Prop} : ∀ (n : Nat),(∀ i,i < n → ∃ x,Q i x) → ∃ xs : List α,xs.length = n ∧ ∀ i x,xs[i]? = some x → Q i x
 | 0,_=>⟨[],rfl,by simp⟩
 | n + 1, h => by
   obtain ⟨xs,hl,hx⟩:=choice n fun i hi=>h i (by omega)
   obtain ⟨y,hy⟩:=h n (by omega)
   refine ⟨xs ++ [y],by simp [hl],fun i x hi=>?_⟩
   by_cases h1 : i < n
   · rw [List.getElem?_append_left (by omega)] at hi;exact hx i x hi
   · rw [List.getElem?_append_right (by omega)] at hi
     have : i = n:=by have:=(List.getElem?_eq_some_iff.1 hi).1;simp at this;omega
     subst this
     simp [hl] at hi
     exact hi ▸ hy
section
variable {w : World} {P : Program}
theorem cells?_get {base n : Nat} {a : Addr} {cs : List Value} (h : w.cells? base a n = some cs) : cs.length = n ∧ ∀ i,i < n → w.cell? (a.add i) = cs[i]?:=by
 unfold World.cells? at h
 split at h
 · exact ⟨by simpa using mapM_some_length h,fun i hi=>mapM_some_get h i i (by simp [hi])⟩
 · cases h
theorem cell_lt {a : Addr} {v : Value} (h : w.cell? a = some v) : a.block < w.heap.size:=by
 refine Decidable.byContradiction fun hn=>?_
 have : w.heap[a.block]? = none:=by simp;omega
 simp [World.cell?,this] at h
def old (w : World) : Nat → Prop:=fun b=>b < w.heap.size
theorem relC_of_cells {xs : List RV} {cs : List Value} {ad : Addr} (hV : RV.relV w (old w) xs cs) (hone : ∀ u ∈ cs,u.oneCell' = true) (hc : ∀ i,i < cs.length → w.cell? (ad.add i) = cs[i]?) : RV.relC w (old w) xs ad 0:=by
 refine RV.relC_of_get fun i x hx=>?_
 obtain ⟨u,hu,hr⟩:=RV.relV_get hV hx
 have hi:=(List.getElem?_eq_some_iff.1 hu).1
 refine ⟨u,?_,hone u (List.mem_of_getElem? hu),hr⟩
 rw [Nat.zero_add,hc i hi,hu]
variable {H : Type} {enc : TypeId × Value → H} {base : Nat} {spare : Nat → Bool} {held : Bool}
def Good3 (w : World) (ss : List Sh) (cs : List Value) : Prop:=∃ xs,FitsL ss xs ∧ RV.relV w (old w) xs cs ∧ ∀ u ∈ cs,u.oneCell' = true
theorem good3_append {s1 s2 : List Sh} {c1 c2 : List Value} (h1 : Good3 w s1 c1) (h2 : Good3 w s2 c2) : Good3 w (s1 ++ s2) (c1 ++ c2):=by
 obtain ⟨x1,f1,r1,o1⟩:=h1
 obtain ⟨x2,f2,r2,o2⟩:=h2
 refine ⟨x1 ++ x2,fitsL_append f1 f2,RV.relV_append r1 r2,fun u hu=>?_⟩
 rcases List.mem_append.1 hu with hu | hu
 · exact o1 u hu
 · exact o2 u hu
theorem trod_fits : ∀ (fuel n : Nat) (t : TypeId) (cs : List Value) (x : DataW H × List MemPlace) (ss : List Sh),DataW.trod enc P w base spare held fuel t cs = some x → shape P n t = some ss → Good3 w ss cs:=by
 intro fuel
 induction fuel with
 | zero=>intro n t cs x ss h;simp [DataW.trod] at h
 | succ fuel ih =>
   intro n t cs x ss h hs
   cases n with
   | zero=>simp [shape] at hs
   | succ n =>
     unfold shape at hs
     split at hs
     · rename_i k ht
       injection hs with hs;subst hs
       obtain ⟨m,rfl,_,hw⟩:=DataW.trod_int ht h
       exact ⟨[.it k m],by simp only [FitsL,Fits];exact ⟨_,[],rfl,⟨m,rfl,hw⟩,rfl⟩,by simp only [RV.relV,RV.rel];exact ⟨_,[],rfl,rfl,rfl⟩,by simp [Value.oneCell']⟩
     · rename_i ht
       injection hs with hs;subst hs
       obtain ⟨b,rfl,_⟩:=DataW.trod_bool ht h
       exact ⟨[.bo b],by simp only [FitsL,Fits];exact ⟨_,[],rfl,⟨b,rfl⟩,rfl⟩,by simp only [RV.relV,RV.rel];exact ⟨_,[],rfl,rfl,rfl⟩,by simp [Value.oneCell']⟩
     · rename_i e ht
       split at hs
       · rename_i es hes
         split at hs
         · rename_i hc
           simp only [Bool.and_eq_true,beq_iff_eq,decide_eq_true_eq] at hc
           injection hs with hs;subst hs
           rcases DataW.trod_slice ht h with ⟨rfl,_⟩ | ⟨a,len,cap,elems,rest,m,hm,rfl,_,_,hlc,hcm,hel,hget,_⟩
           · refine ⟨[.sl es.length []],?_,?_,by simp [Value.oneCell']⟩
             · simp only [FitsL,Fits];exact ⟨_,[],rfl,⟨[],rfl,by simp only [FitsE]⟩,rfl⟩
             · simp only [RV.relV,RV.rel];exact ⟨_,[],rfl,⟨none,0,rfl,Nat.le_refl _,Nat.zero_le _,fun h=>absurd rfl h⟩,rfl⟩
           · injection hm with hm;subst hm
             have hall : ∀ i,i < len → ∃ e',FitsL es e' ∧ e'.length = es.length ∧ RV.relC w (old w) e' (a.add (i * es.length)) 0 ∧ a.block < w.heap.size:=fun i hi=>by
              have h1:=hget i hi
              have h2 : i < elems.length:=by omega
              rw [List.getElem?_eq_getElem h2] at h1
              obtain ⟨ci,hci,htr⟩:=Option.bind_eq_some_iff.1 h1
              rw [← hc.1] at hci
              obtain ⟨hl,hcell⟩:=cells?_get hci
              obtain ⟨xs,f,r,o⟩:=ih n e ci _ es htr hes
              refine ⟨xs,f,fitsL_length f,relC_of_cells r o (fun j hj=>hcell j (by omega)),?_⟩
              have h3:=hcell 0 hc.2
              have h4 : 0 < ci.length:=by omega
              rw [List.getElem?_eq_getElem h4] at h3
              have:=cell_lt h3
              rwa [block_add,block_add] at this
             obtain ⟨els,hlen,hels⟩:=choice len hall
             refine ⟨[.sl es.length els],?_,?_,by simp [Value.oneCell']⟩
             · simp only [FitsL,Fits]
               refine ⟨_,[],rfl,⟨els,rfl,fitsE_of fun e' he'=>?_⟩,rfl⟩
               obtain ⟨i,hi⟩:=List.getElem?_of_mem he'
               exact (hels i e' hi).1
             · simp only [RV.relV,RV.rel]
               refine ⟨_,[],rfl,⟨some a,cap,by rw [hlen],by omega,hcm,fun hne=>?_⟩,rfl⟩
               obtain ⟨e0,he0⟩ : ∃ e0,els[0]? = some e0:=by
                cases els with
                | nil=>exact absurd rfl hne
                | cons a l=>exact ⟨a,rfl⟩
               refine ⟨a,rfl,(hels 0 e0 he0).2.2.2,RV.relE_of_get fun i e' he'=>?_⟩
               obtain ⟨_,q1,q2,_⟩:=hels i e' he'
               exact ⟨q1,RV.relC_unbase _ q2⟩
         · cases hs
       · cases hs
     · rename_i m e ht
       split at hs
       · rename_i es hes
         split at hs
         · rename_i hc
           simp only [Bool.and_eq_true,beq_iff_eq] at hc
           injection hs with hs;subst hs
           obtain ⟨xs,fm,hm,_,hcl,hxl,hget⟩:=DataW.trod_array ht h
           injection hm with hm;subst hm
           have key : ∀ j,j ≤ m → Good3 w (List.replicate j es).flatten (cs.take (j * es.length)):=by
            intro j
            induction j with
            | zero=>intro _;exact ⟨[],by simp [FitsL],by simp [RV.relV],by simp⟩
            | succ j ihj =>
              intro hj
              have h1:=hget j (by omega)
              have h2 : j < xs.length:=by omega
              rw [List.getElem?_eq_getElem h2,← hc.1] at h1
              have h3:=ih n e _ _ es h1 hes
              have:=good3_append (ihj (by omega)) h3
              rw [← List.take_add] at this
              rw [List.replicate_succ',List.flatten_append,Nat.add_mul]
              simpa using this
           have:=key m (Nat.le_refl _)
           rwa [← hc.2,← hcl,List.take_length] at this
         · cases hs
       · cases hs
     · rename_i fs ht
       split at hs
       · rename_i q hq
         split at hs
         · rename_i hc
           simp only [beq_iff_eq] at hc
           injection hs with hs;subst hs
           obtain ⟨xs,fm,hm,_,hcl,hxl,hget⟩:=DataW.trod_struct ht h
           injection hm with hm;subst hm
           have key : ∀ (l : List Field) (o : Nat) (q : List Sh),(∀ f ∈ l,∃ y,DataW.trod enc P w base spare held fuel f.type ((cs.drop f.offset).take (P.cellsOf f.type)) = some y) → fieldsSh P (shape P n) l o = some q → Good3 w q ((cs.drop o).take q.length):=by
            intro l
            induction l with
            | nil =>
              intro o q _ hq
              simp only [fieldsSh,Option.some.injEq] at hq
              subst hq
              exact ⟨[],by simp [FitsL],by simp [RV.relV],by simp⟩
            | cons f l ihl =>
              intro o q hall hq
              simp only [fieldsSh] at hq
              split at hq
              · rename_i s1 hs1
                split at hq
                · rename_i hc1
                  simp only [Bool.and_eq_true,beq_iff_eq] at hc1
                  split at hq
                  · rename_i q2 hq2
                    injection hq with hq;subst hq
                    obtain ⟨y,hy⟩:=hall f (by simp)
                    have g1:=ih n f.type _ _ s1 hy hs1
                    have g2:=ihl (o + s1.length) q2 (fun f' hf'=>hall f' (by simp [hf'])) hq2
                    rw [hc1.1,← hc1.2] at g1
                    have:=good3_append g1 g2
                    rw [← List.drop_drop,← List.take_add] at this
                    simpa using this
                  · cases hq
                · cases hq
              · cases hq
           have:=key fs.toList 0 q (fun f hf=>by
            obtain ⟨i,hi⟩:=List.getElem?_of_mem hf
            have hi' : fs[i]? = some f:=by simpa using hi
            have h1:=hget i f hi'
            have h2 : i < xs.length:=by have:=(Array.getElem?_eq_some_iff.1 hi').1;omega
            exact ⟨xs[i],by rw [h1];exact List.getElem?_eq_getElem h2⟩) hq
           rwa [List.drop_zero,hc,← hcl,List.take_length] at this
         · cases hs
       · cases hs
     · cases hs
def FitsT (P : Program) (n : Nat) (t : TypeId) (x : RV) : Prop:=∃ ss,shape P n t = some ss ∧ if aggOf P t then ∃ xs,x = .ag xs ∧ FitsL ss xs else FitsL ss [x]
theorem arg_fits {n : Nat} {t : TypeId} {v : Value} {d : DataW H} {ps : List MemPlace} {r : Reach} {b0 : Nat} (hs : (shape P n t).isSome = true) (hval : Value.okWide P w r b0 t v) (h : DataW.Trod enc P w base spare held t v d ps) :
 ∃ x,FitsT P n t x ∧ x.rel w (old w) v:=by
 obtain ⟨ss,hss⟩:=Option.isSome_iff_exists.1 hs
 obtain ⟨fuel,hf⟩:=h
 obtain ⟨xs,f,r,o⟩:=trod_fits fuel n t _ _ ss hf hss
 have one : aggOf P t = false → v.cells.toList = [v] → ∃ x,FitsT P n t x ∧ x.rel w (old w) v:=fun ha hc=>by
  rw [hc] at r
  match xs,r with
  | [x], r =>
    simp only [RV.relV] at r
    obtain ⟨u,us,e,hr,_⟩:=r
    injection e with e1 e2
    subst e1
    exact ⟨x,⟨ss,hss,by rw [ha];exact f⟩,hr⟩
  | [],r=>simp [RV.relV] at r
  | _ :: _ :: _, r =>
    simp only [RV.relV] at r
    obtain ⟨u,us,e,_,u2,us2,e2,_⟩:=r
    injection e with _ e
    rw [e2] at e;cases e
 cases n with
 | zero=>simp [shape] at hss
 | succ n =>
   have hss':=hss
   unfold shape at hss'
   split at hss'
   · rename_i k ht
     obtain ⟨m,rfl⟩:=okWide_int ht hval
     exact one (by simp [aggOf,ht]) rfl
   · rename_i ht
     obtain ⟨b,rfl⟩:=okWide_bool ht hval
     exact one (by simp [aggOf,ht]) rfl
   · rename_i e ht
     obtain ⟨a,l,c,rfl⟩:=okWide_slice ht hval
     exact one (by simp [aggOf,ht]) rfl
   · rename_i m e ht
     obtain ⟨cs,rfl⟩ : ∃ cs,v = .agg cs:=by
      simp only [Value.okWide,ht] at hval
      obtain ⟨cs,h1,_⟩:=hval
      exact ⟨cs,h1⟩
     exact ⟨.ag xs,⟨ss,hss,by simp only [aggOf,ht,if_true];exact ⟨xs,rfl,f⟩⟩,by simp only [RV.rel];exact ⟨cs,rfl,o,r⟩⟩
   · rename_i fs ht
     obtain ⟨cs,rfl,_⟩:=okWide_struct ht hval
     exact ⟨.ag xs,⟨ss,hss,by simp only [aggOf,ht,if_true];exact ⟨xs,rfl,f⟩⟩,by simp only [RV.rel];exact ⟨cs,rfl,o,r⟩⟩
   · cases hss'
theorem fitsT_ag {n : Nat} {t : TypeId} {x : RV} {ss : List Sh} (h : FitsT P n t x) (hs : shape P n t = some ss) (ha : aggOf P t = true) : ∃ xs,x = .ag xs ∧ FitsL ss xs:=by
 obtain ⟨s',h1,h2⟩:=h
 rw [hs] at h1;injection h1 with h1;subst h1
 rw [ha] at h2
 exact h2
theorem fitsT_one {n : Nat} {t : TypeId} {x : RV} {s : Sh} (h : FitsT P n t x) (hs : shape P n t = some [s]) (ha : aggOf P t = false) : Fits s x:=by
 obtain ⟨s',h1,h2⟩:=h
 rw [hs] at h1;injection h1 with h1;subst h1
 rw [ha] at h2
 simp only [Bool.false_eq_true,if_false,FitsL] at h2
 obtain ⟨y,ys,e,h3,_⟩:=h2
 injection e with e1 e2
 subst e1
 exact h3
end
end Go.Oc

namespace Go.Oc
open Go Go.RowKit
end Go.Oc

namespace Go.Proofs.YtgfbenanljjgaaaGreat.Du.Th.Ai
open Go Go.Oc
set_option maxRecDepth 8000
theorem wfq8 {n : Int} (h : (Lit.int .u8 n).wf = true) : ∃ k : Nat,n = k ∧ k < 256:=by
 simp only [Lit.wf,Bool.and_eq_true,decide_eq_true_eq] at h
 have h1 : IntKind.min .u8 = 0:=by decide
 have h2 : IntKind.max .u8 = 255:=by decide
 rw [h1,h2] at h
 obtain ⟨k,hk⟩:=Int.eq_ofNat_of_zero_le h.1
 exact ⟨k,hk,by omega⟩
theorem fitsQ64 {x : RV} (h : FitsT Tryz.prog 9 64 x) : ∃ w : Int,x = .it .u16 w:=by
 have:=fitsT_one (s:=.int .u16) h (by kernel_rfl) (by kernel_rfl)
 simp only [Oc.Fits] at this
 obtain ⟨m,rfl,_⟩:=this
 exact ⟨m,rfl⟩
theorem fitsQ51 {x : RV} (h : FitsT Tryz.prog 9 51 x) : ∃ a b c : Nat,x = .ag [.it .u8 (a : Int),.it .u8 (b : Int),.it .u8 (c : Int)] ∧ a < 256 ∧ b < 256 ∧ c < 256:=by
 obtain ⟨xs,rfl,hx⟩:=fitsT_ag (ss:=[.int .u8,.int .u8,.int .u8]) h (by kernel_rfl) (by kernel_rfl)
 simp only [Oc.FitsL,Oc.Fits] at hx
 obtain ⟨_,_,rfl,⟨a,rfl,ha⟩,_,_,rfl,⟨b,rfl,hb⟩,_,_,rfl,⟨c,rfl,hc⟩,rfl⟩:=hx
 obtain ⟨a,rfl,ka⟩:=wfq8 ha
 obtain ⟨b,rfl,kb⟩:=wfq8 hb
 obtain ⟨c,rfl,kc⟩:=wfq8 hc
 exact ⟨a,b,c,rfl,ka,kb,kc⟩
end Go.Proofs.YtgfbenanljjgaaaGreat.Du.Th.Ai

namespace Go.Proofs.YtgfbenanljjgaaaGreat
open Go Go.Oc
theorem law5' {x0 x1 : RV} (h0 : FitsT Tryz.prog 9 64 x0) (h1 : FitsT Tryz.prog 9 51 x1) : ACalls Tryz.prog 5 [x0,x1] (.bo true):=by
 obtain ⟨w,rfl⟩:=Du.Th.Ai.fitsQ64 h0
 obtain ⟨a,b,c,rfl,ka,kb,kc⟩:=Du.Th.Ai.fitsQ51 h1
 exact Du.Th.Ai.law_nevermiss w a b c ka kb kc
end Go.Proofs.YtgfbenanljjgaaaGreat


namespace Go.Proofs.YtgfbenanljjgaaaGreat
open Go Go.Oc Go.ChangeShapes Go.WideShapes Go.RowKit
theorem own : ownKnob Tryz.prog.godebug = none := by kernel_rfl
theorem laidOut : laidOutB Tryz.prog = true := by kernel_rfl
set_option maxRecDepth 100000 in
theorem lifted (os : Os) (started : os.Started) (H : Type) (enc : TypeId × Value → H) :
    ReturnsInHanded {} Tryz.checked os 5 .any (Rows.topNeverMissSpec.pre6 enc Tryz.prog Tryz.f5 Rows.topNeverMissRow.domain false) (Rows.topNeverMissSpec.post enc Tryz.prog Tryz.f5 false true false false) := by
  refine returnsInHanded_of_change (C := Tryz.checked) own started (by kernel_rfl) Tryz.func5
    (ChangeSpec.witness6 (enc := enc) (C := Tryz.checked) false ⟨#[], #[.int .u16 0, .agg #[.int .u8 0, .int .u8 0, .int .u8 0]], []⟩ 8 (by kernel_rfl) (by kernel_rfl) (by kernel_rfl) (by kernel_rfl)) ?_
  intro W base args ds gs before hval0 hW hcnd _
  have hval : ∀ (j : Nat) t v, Tryz.f5.params[j]? = some t → args[j]? = some v → Value.okWide Tryz.prog W .any base t v := hval0
  have hW' := hW
  obtain ⟨p, q, hA0, hV, rfl, hfz, hnd⟩ := hW
  have hA : DataW.TrodAll enc Tryz.prog W 0 (fun _ => true) true Tryz.f5.params.toList args.toList ds p := hA0
  rw [Tryz.params5] at hA hval
  obtain ⟨v0, vs0, d0, ds0, p0, q0, hargs, rfl, rfl, h0, r0⟩ := trodAll_cons hA
  obtain ⟨v1, vs1, d1, ds1, p1, q1, rfl, rfl, rfl, h1, r1⟩ := trodAll_cons r0
  obtain ⟨rfl, rfl, rfl⟩ := trodAll_nil r1
  obtain rfl : args = #[v0, v1] := by cases args;simp_all
  obtain ⟨rfl, rfl⟩ := trodVars_none hV
  have lt0 : ∀ x ∈ p0, x.block < W.heap.size := by obtain ⟨m, hm⟩ := h0;exact DataW.trod_lt m _ _ _ hm
  have lt1 : ∀ x ∈ p1, x.block < W.heap.size := by obtain ⟨m, hm⟩ := h1;exact DataW.trod_lt m _ _ _ hm
  obtain ⟨x0, g0, e0⟩ := arg_fits (n := 9) (by kernel_rfl) (hval 0 64 v0 rfl rfl) h0
  obtain ⟨x1, g1, e1⟩ := arg_fits (n := 9) (by kernel_rfl) (hval 1 51 v1 rfl rfl) h1
  clear hA0 hval0
  refine ((law5' g0 g1).2 W (old W) #[v0, v1] (fun _ h => h) (by simp only [RV.relV];exact ⟨_, _, rfl, e0, _, _, rfl, e1, rfl⟩)).mono fun e W' he => ?_
  obtain ⟨v, R', rfl, bel, _, _, _, hr⟩ := he
  simp only [RV.rel] at hr
  subst hr
  exact ⟨_, rfl, _, _, _, [], _, [], hW', trodAll_mk1 (shut_bool Tryz.underlying4 _), (trodAll_cons_mk (Below.trod laidOut (by kernel_rfl) (of_decide_eq_true (by kernel_rfl)) h0 bel lt0) (trodAll_cons_mk (Below.trod laidOut (by kernel_rfl) (of_decide_eq_true (by kernel_rfl)) h1 bel lt1) trodAll_mk0)), rfl, bel.frame _, fun h => by cases h⟩
theorem over : Rows.topNeverMissRow.holds Tryz.pinned (OpenSpec.ofChange Rows.topNeverMissSpec) :=
  OpenClaim.holds_of_wide 5 Tryz.f5 rfl rfl rfl rfl rfl rfl rfl ⟨rfl, rfl, rfl, rfl, rfl⟩ rfl rfl rfl rfl rfl (by kernel_rfl) Tryz.func5 (by kernel_rfl)
    (of_decide_eq_true (by kernel_rfl)) (by unfold Func.isWrapper;first | (rw [if_pos (by decide +kernel)];kernel_rfl) | (rw [if_neg (by decide +kernel)];exact ⟨rfl, rfl⟩))
    (fun os started H enc _ => lifted os started H enc)
theorem topNeverMiss_holds : Rows.TopNeverMissSaid := over
#print axioms topNeverMiss_holds
end Go.Proofs.YtgfbenanljjgaaaGreat

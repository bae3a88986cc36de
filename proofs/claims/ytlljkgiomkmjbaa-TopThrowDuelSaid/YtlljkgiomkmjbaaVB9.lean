/- Part 9 of the texts of this claim. -/
import Derived.Test.YtlljkgiomkmjbaaVB8
import Derived.Test.YtlljkgiomkmjbaaVB6
namespace Go.Proofs.Ytlljkgiomkmjbaa.Du
open Go Go.Oc
set_option linter.unusedSimpArgs false
set_option linter.unusedVariables false
set_option maxRecDepth 8000
set_option maxHeartbeats 2000000
theorem fitV_sub {n : Nat} {F : (Nat → Nat) → List (Nat × AV)} {R : (Nat → Nat) → List (Nat × RowC)} {s s' : AS} (h : Sub s s') (hf : FitV n F R s') : FitV n F R s:=by
 obtain ⟨vs,hs⟩:=hf
 exact ⟨vs,fun C a w hw=>hs C a w (h C a w hw)⟩
abbrev pos (k s left d : Nat) : Pos:=⟨k,s,left,(d : Int) + 1⟩
def vB (b : Nat → Bool) (j : Nat) (v : AV) : AV:=if b j then v else .r .un
def odF (r : Ru) (T0 T1 : List (List Int)) (k s left d : Nat) (b : Nat → Bool) (vs : Nat → Nat) : List (Nat × AV) :=
 [(3,.r (.rp (posC (pos k s left d)))),(4,.r .ns),(6,.r (.rp [sideP r false T0,sideP r true T1])),(7,.r (.rp [i64 (left : Int),i64 ((d : Int) + 1)])),
  (34,vB b 0 (.r (.rp [sideP r false T0,sideP r true T1]))),
  (35,vB b 1 (.r (sideP r false T0))),
  (36,vB b 2 (.r (.rp (posC (pos k s left d))))),
  (37,vB b 3 (.r (i64 (k : Int)))),
  (38,vB b 4 (.r (.rp [i64 (s : Int),i64 (left : Int),i64 ((d : Int) + 1)]))),
  (39,vB b 5 (.r (i64 (s : Int)))),
  (40,vB b 6 (.pt 940 (vs 940) 0)),
  (41,vB b 7 (.r (.ag [i64 (left : Int),i64 ((d : Int) + 1)]))),
  (42,vB b 8 (.r (ints (oddsV r false T0 k s left d)))),
  (43,vB b 9 (.r (.rp [sideP r true T1]))),
  (44,vB b 10 (.r (sideP r true T1))),
  (45,vB b 11 (.r (.rp (posC (pos k s left d))))),
  (46,vB b 12 (.r (i64 (k : Int)))),
  (47,vB b 13 (.r (.rp [i64 (s : Int),i64 (left : Int),i64 ((d : Int) + 1)]))),
  (48,vB b 14 (.r (i64 (s : Int)))),
  (49,vB b 15 (.pt 942 (vs 942) 0)),
  (50,vB b 16 (.r (.ag [i64 (left : Int),i64 ((d : Int) + 1)]))),
  (51,vB b 17 (.r (ints (oddsV r true T1 k s left d)))),
  (8,vB b 18 (.r (ints (oddsV r false T0 k s left d)))),
  (9,vB b 19 (.r (ints (oddsV r true T1 k s left d))))]
def odR (r : Ru) (T0 T1 : List (List Int)) (k s left d : Nat) (b : Nat → Bool) (vs : Nat → Nat) : List (Nat × RowC) :=
 bif b 15 then [(940,.box (visC r false T0 (k : Int) (s : Int) 941 (vs 941))),(941,.mem (memoV r false T0 k s)),(942,.box (visC r true T1 (k : Int) (s : Int) 943 (vs 943))),(943,.mem (memoV r true T1 k s))]
 else bif b 6 then [(940,.box (visC r false T0 (k : Int) (s : Int) 941 (vs 941))),(941,.mem (memoV r false T0 k s))]
 else []
theorem dmeans_ok {r : Ru} (most : Bool) {T : List (List Int)} {k st : Nat} (h : VisG r T k st) (ha : AimsG r) (n left : Nat) (hn : n ≤ 99) (hl1 : 1 ≤ left) (hl : (left : Int) ≤ r.start) :
 MCalls Try.prog 69 (visL r most T k st) (visL r most T k st) [.pt 1000 0 0,.r (.ag [i64 (left : Int),i64 ((n : Int) + 1)])] (.r (ints (oddsV r most T k st left n))):=by
 have h40:=h.s40
 refine means_ok r most T k st n left _ (by omega) (by omega) ha.len (ha.ch fun b b0 b1=>nextV_le h hl b0 b1 fun _ x hx=>valV_le h ha n x hx) (fun a haM c hc=>((ha.beds a haM).2.2 c hc).1) fun b b0 b1=>?_
 refine next_ok r most T k st n left b h hl1 hl (by omega) b0 b1 fun hn0 left' h1 h2=>?_
 match n,hn0 with
 | m + 1,_=>exact vis_ok most h ha m left' (by omega) h1 h2
theorem dn {ops : Array Oper} {b : Nat → Bool} (h : ∀ j e,j < ops.size → (deps ops j).contains e = true → b j = true → b e = true) (j e : Nat) (h1 : j < ops.size) (h2 : (deps ops j).contains e = true) (he : b e = false) : b j = false:=by
 cases hb : b j
 · rfl
 · rw [h j e h1 h2 hb] at he; cases he
def oddsS (r : Ru) (k s left d : Nat) : List Sp:=(oddsV r false (tabF r false) k s left d).zip (oddsV r true (tabF r true) k s left d)
def oddsE (r : Ru) (p : Pos) : Int:=if ruE r = 0 then (if posOk r p = true then 0 else 2) else ruE r
def oddsR (r : Ru) (p : Pos) : RV:=if ruE r = 0 then (if posOk r p = true then spansR (oddsS r p.round.toNat p.start.toNat p.left.toNat (p.darts - 1).toNat) else .ns) else .ns
theorem posOk_nat {r : Ru} {p : Pos} (h : posOk r p = true) : ∃ k s left d : Nat,p = pos k s left d ∧ k < r.ends.length ∧ lowestR r ≤ s ∧ (s : Int) ≤ r.start ∧ lowestR r ≤ left ∧ left ≤ s ∧ d ≤ 2:=by
 have hlow : lowestR r = 1 ∨ lowestR r = 2:=by unfold lowestR; split <;> simp
 obtain ⟨a,b,c,e⟩:=p
 simp only [posOk,inB,Bool.and_eq_true,decide_eq_true_eq] at h
 obtain ⟨⟨h1,h2⟩,⟨h3,h4⟩,⟨h5,h6⟩,⟨h7,h8⟩,_⟩:=h
 refine ⟨a.toNat,b.toNat,c.toNat,(e - 1).toNat,?_,by omega,by omega,by omega,by omega,by omega,by omega⟩
 simp only [pos,Pos.mk.injEq]
 refine ⟨by omega,by omega,by omega,by omega⟩
theorem vis_tab {r : Ru} (h : RuG r) (most : Bool) {k : Nat} (hk : k < r.ends.length) (s : Nat) (hs : (s : Int) ≤ r.start) : VisG r (tabF r most) k s:=by
 refine ⟨hk,h.h10,h.ends,hs,h.s40,fun left hl=>?_⟩
 by_cases hk1 : k + 1 < r.ends.length
 · have hg:=tabI_get r most r.ends.length (Nat.le_refl _) (k + 1) (by omega) hk1
   refine ⟨_,_,fun _=>⟨hg,rowV_get _ _ _ _ _ hl,?_⟩⟩
   split
   · omega
   · have hv:=vis_at h most (r.ends.length - 1 - (k + 1)) (by omega) left hl
     rw [show r.ends.length - 1 - (r.ends.length - 1 - (k + 1)) = k + 1 by omega] at hv
     exact valV_le hv h.aims 3 left hl
 · exact ⟨[],0,fun h=>absurd h hk1⟩
theorem odds_ok (r : Ru) (hw : WfR r) (p : Pos) : ACalls Try.prog 27 [ruV r,posV p] (.tu [oddsR r p,i64 (oddsE r p)]):=by
 have hs:=sides_ok r hw
 refine acalls_st (rs:=[oddsR r p,i64 (oddsE r p)]) [.tmp 4,.tmp 5] Try.func27 rfl (by kernel_rfl) Try.ntmps27 rfl (by simp) rfl fun C vs=>?_
 repeat refine zq ?_
 refine zb fun K hK=>?_;simp only [go_sem];(try simp (disch:=omega) only [zI]);repeat first | intro _ | refine ⟨by omega,?_⟩
 refine hK _ ?_;clear hK K;refine zw (sub_frzP 2 2 (ruC r) (by omega) rfl rfl) ?_;refine zw (zk [2,3,4]) ?_;simp only [go_sem];refine zw (sub_frzP 3 3 (posC p) (by omega) rfl rfl) ?_;refine zw (zk [2,3,4]) ?_;simp only [go_sem]
 by_cases h0 : ruE r = 0
 rotate_left
 · have e1 : sidesV r = .ag [.np,.np]:=if_neg h0
   have c : (ruE r != 0) = true:=by simpa using h0
   rw [e1] at hs
   repeat refine zq ?_
   refine zb fun K hK=>?_;simp only [go_sem];(try simp (disch:=omega) only [zI])
   refine zh (hs) rfl (by simp only [go_sem,i64,ints]) (by simp only [go_sem,i64,ints]) (by first | exact .inl rfl | exact .inr rfl) ?_
   (try simp only [go_sem]);(try simp (disch:=omega) only [zI]);repeat first | intro _ | refine ⟨by omega,?_⟩
   refine hK _ ?_;clear hK K;refine zw (zk [3,4,5,6]) ?_;simp only [go_sem]
   repeat refine zq ?_
   refine zd ?_
   repeat refine zq ?_
   refine zb fun K hK=>?_;simp only [go_sem,c];(try simp (disch:=omega) only [zI]);repeat first | intro _ | refine ⟨by omega,?_⟩
   refine hK _ ?_;clear hK K;refine zw (zk [3,4,5,6,16]) ?_;simp only [go_sem]
   repeat refine zq ?_
   refine zc rfl (fun hc=>?_) (fun hc=>?_) <;> (try simp only [go_sem] at hc)
   repeat refine zq ?_
   refine zb fun K hK=>?_;simp only [go_sem];(try simp (disch:=omega) only [zI]);repeat first | intro _ | refine ⟨by omega,?_⟩
   refine hK _ ?_;clear hK K;refine zw (zk [4,5]) ?_;simp only [go_sem];refine ze ?_;simp only [go_sem];simp only [oddsR,oddsE,if_neg h0];exact ⟨rv_le _,trivial⟩
 have e1 : sidesV r = .ag [sideP r false (tabF r false),sideP r true (tabF r true)]:=if_pos h0
 obtain ⟨hG,hn1,_,_⟩:=ruG_of h0
 have h10:=hG.h10
 rw [e1,h0] at hs
 repeat refine zq ?_
 refine zb fun K hK=>?_;simp only [go_sem];(try simp (disch:=omega) only [zI])
 refine zh (hs) rfl (by simp only [go_sem,i64,ints]) (by simp only [go_sem,i64,ints]) (by first | exact .inl rfl | exact .inr rfl) ?_
 (try simp only [go_sem]);(try simp (disch:=omega) only [zI]);repeat first | intro _ | refine ⟨by omega,?_⟩
 refine hK _ ?_;clear hK K;refine zw (sub_frzP 6 6 [sideP r false (tabF r false),sideP r true (tabF r true)] (by omega) rfl rfl) ?_;refine zw (zk [3,4,5,6]) ?_;simp only [go_sem]
 repeat refine zq ?_
 refine zd ?_
 repeat refine zq ?_
 refine zb fun K hK=>?_;simp only [go_sem,bne_self_eq_false];(try simp (disch:=omega) only [zI]);repeat first | intro _ | refine ⟨by omega,?_⟩
 refine hK _ ?_;clear hK K;refine zw (zk [3,4,5,6,16]) ?_;simp only [go_sem]
 repeat refine zq ?_
 refine zc rfl (fun hc=>?_) (fun hc=>?_) <;> (try simp only [go_sem] at hc)
 have hip:=isPosition_ok r p hn1 (by omega)
 cases hp : posOk r p
 · rw [hp] at hip
   repeat refine zq ?_
   refine zg follows (by decide +kernel) (by kernel_rfl) fun K hK=>?_;simp only [go_sem];(try simp (disch:=omega) only [zI])
   refine zh (hip) rfl (by simp only [go_sem,i64,ints]) (by simp only [go_sem,i64,ints]) (by first | exact .inl rfl | exact .inr rfl) ?_
   (try simp only [go_sem]);(try simp (disch:=omega) only [zI]);repeat first | intro _ | refine ⟨by omega,?_⟩
   refine hK _ ?_;clear hK K;refine zw (zk [3,4,6,20]) ?_;simp only [go_sem]
   repeat refine zq ?_
   refine zc rfl (fun hc=>?_) (fun hc=>?_) <;> (try simp only [go_sem] at hc)
   repeat refine zq ?_
   refine zb fun K hK=>?_;simp only [go_sem];(try simp (disch:=omega) only [zI]);repeat first | intro _ | refine ⟨by omega,?_⟩
   refine hK _ ?_;clear hK K;refine zw (zk [4,5]) ?_;simp only [go_sem];refine ze ?_;simp only [go_sem];simp only [oddsR,oddsE,if_pos h0,hp,Bool.false_eq_true,if_false];exact ⟨rv_le _,trivial⟩
 rw [hp] at hip
 obtain ⟨k,s,left,d,rfl,hk,hs1,hs2,hl1,hl2,hd⟩:=posOk_nat hp
 have hlow : lowestR r = 1 ∨ lowestR r = 2:=by unfold lowestR; split <;> simp
 have hs40:=hG.s40
 have hA:=hG.aims
 have hE : oddsE r (pos k s left d) = 0:=by simp only [oddsE,if_pos h0,hp,if_true]
 have hR : oddsR r (pos k s left d) = spansR (oddsS r k s left d):=by
  simp only [oddsR,if_pos h0,hp,if_true,Int.toNat_natCast];rw [show ((d : Int) + 1 - 1).toNat = d by omega]
 rw [hE,hR]
 have hG0:=vis_tab hG false hk s hs2
 have hG1:=vis_tab hG true hk s hs2
 have hoS : oddsS r k s left d = (oddsV r false (tabF r false) k s left d).zip (oddsV r true (tabF r true) k s left d):=rfl
 generalize hT0 : tabF r false = T0 at *
 generalize hT1 : tabF r true = T1 at *
 repeat refine zq ?_
 refine zg follows (by decide +kernel) (by kernel_rfl) fun K hK=>?_;simp only [go_sem];(try simp (disch:=omega) only [zI])
 refine zh (hip) rfl (by simp only [go_sem,i64,ints]) (by simp only [go_sem,i64,ints]) (by first | exact .inl rfl | exact .inr rfl) ?_
 (try simp only [go_sem]);(try simp (disch:=omega) only [zI]);repeat first | intro _ | refine ⟨by omega,?_⟩
 refine hK _ ?_;clear hK K;refine zw (zk [3,4,6,20]) ?_;simp only [go_sem]
 repeat refine zq ?_
 refine zc rfl (fun hc=>?_) (fun hc=>?_) <;> (try simp only [go_sem] at hc)
 refine zx ?_
 try simp only [go_sem]
 repeat refine zq ?_
 refine zb fun K hK=>?_;simp only [go_sem];(try simp (disch:=omega) only [zI]);repeat first | intro _ | refine ⟨by omega,?_⟩
 refine hK _ ?_;clear hK K;refine zw (sub_frzP 7 7 [i64 (left : Int),i64 ((d : Int) + 1)] (by omega) rfl rfl) ?_;refine zw (zk [3,4,6,7]) ?_;simp only [go_sem]
 repeat refine zq ?_
 refine awp_inv (n:=71) (odF r T0 T1 k s left d) (odR r T0 T1 k s left d) follows (by kernel_rfl) (by kernel_rfl) (by decide +kernel) (zj [] ?_ ?_) ?_ ?_
 · simp only [go_sem,odF,vB,if_true,if_false,Bool.false_eq_true]
 · simp only [go_sem,odR]
 · refine ⟨fun b vs hdn hbk hde=>?_,fun b vs hdn hbk hde=>?_,fun b vs hdn hbk hde=>?_,fun b vs hdn hbk hde=>?_,fun b vs hdn hbk hde=>?_,fun b vs hdn hbk hde=>?_,fun b vs hdn hbk hde=>?_,fun b vs hdn hbk hde=>?_,fun b vs hdn hbk hde=>?_,fun b vs hdn hbk hde=>?_,fun b vs hdn hbk hde=>?_,fun b vs hdn hbk hde=>?_,fun b vs hdn hbk hde=>?_,fun b vs hdn hbk hde=>?_,fun b vs hdn hbk hde=>?_,fun b vs hdn hbk hde=>?_,fun b vs hdn hbk hde=>?_,fun b vs hdn hbk hde=>?_,fun b vs hdn hbk hde=>?_,fun b vs hdn hbk hde=>?_,trivial⟩
   · skip
     simp only [go_sem,odF]
     refine zj [] ?_ ?_
     · simp only [go_sem,odF,vB,upd,hbk,if_true]
     · simp only [go_sem,odR,upd,hbk,cond_true,cond_false]
   · skip
     have h0 : b 0 = true:=hde 0 (by decide +kernel)
     have e0 : ∀ v,vB b 0 v = v:=fun v=>by rw [vB,if_pos h0]
     simp only [go_sem,odF,e0]
     refine zj [] ?_ ?_
     · simp only [go_sem,odF,vB,upd,hbk,h0,if_true]
     · simp only [go_sem,odR,upd,hbk,h0,cond_true,cond_false]
   · skip
     simp only [go_sem,odF]
     refine zj [] ?_ ?_
     · simp only [go_sem,odF,vB,upd,hbk,if_true]
     · simp only [go_sem,odR,upd,hbk,cond_true,cond_false]
   · skip
     have h2 : b 2 = true:=hde 2 (by decide +kernel)
     have e2 : ∀ v,vB b 2 v = v:=fun v=>by rw [vB,if_pos h2]
     simp only [go_sem,odF,e2]
     refine zj [] ?_ ?_
     · simp only [go_sem,odF,vB,upd,hbk,h2,if_true]
     · simp only [go_sem,odR,upd,hbk,h2,cond_true,cond_false]
   · skip
     simp only [go_sem,odF]
     refine zj [] ?_ ?_
     · simp only [go_sem,odF,vB,upd,hbk,if_true]
     · simp only [go_sem,odR,upd,hbk,cond_true,cond_false]
   · skip
     have h4 : b 4 = true:=hde 4 (by decide +kernel)
     have e4 : ∀ v,vB b 4 v = v:=fun v=>by rw [vB,if_pos h4]
     simp only [go_sem,odF,e4]
     refine zj [] ?_ ?_
     · simp only [go_sem,odF,vB,upd,hbk,h4,if_true]
     · simp only [go_sem,odR,upd,hbk,h4,cond_true,cond_false]
   · skip
     have h1 : b 1 = true:=hde 1 (by decide +kernel)
     have e1 : ∀ v,vB b 1 v = v:=fun v=>by rw [vB,if_pos h1]
     have h3 : b 3 = true:=hde 3 (by decide +kernel)
     have e3 : ∀ v,vB b 3 v = v:=fun v=>by rw [vB,if_pos h3]
     have h5 : b 5 = true:=hde 5 (by decide +kernel)
     have e5 : ∀ v,vB b 5 v = v:=fun v=>by rw [vB,if_pos h5]
     have b8:=dn hdn 8 6 (by decide +kernel) (by decide +kernel) hbk
     have b15:=dn hdn 15 8 (by decide +kernel) (by decide +kernel) b8
     simp only [go_sem,odF,upd,e1,e3,e5,odR,hbk,b15,cond_false]
     refine xcall_new (newVisit_ok r false T0 (k : Int) (s : Int)) [(12,940),(10,941)] rfl (by rfl) (by rfl) (by rfl) (by rfl) (by rfl) ?_
     simp only [go_sem,idK,backA,backC,backL,pinOf,lendKey]
     refine fitV_sub (sub_shutM (memoV r false T0 k s) 941 (by rfl) (fun e he=>by cases he)) ?_
     refine zj [] ?_ ?_
     · simp only [go_sem,odF,vB,upd,hbk,h1,h3,h5,if_true]
     · simp only [go_sem,odR,upd,hbk,h1,h3,h5,b15,cond_true,cond_false]
   · skip
     simp only [go_sem,odF]
     refine zj [] ?_ ?_
     · simp only [go_sem,odF,vB,upd,hbk,if_true]
     · simp only [go_sem,odR,upd,hbk,cond_true,cond_false]
   · skip
     have h6 : b 6 = true:=hde 6 (by decide +kernel)
     have e6 : ∀ v,vB b 6 v = v:=fun v=>by rw [vB,if_pos h6]
     have h7 : b 7 = true:=hde 7 (by decide +kernel)
     have e7 : ∀ v,vB b 7 v = v:=fun v=>by rw [vB,if_pos h7]
     have b15:=dn hdn 15 8 (by decide +kernel) (by decide +kernel) hbk
     simp only [go_sem,odF,upd,e6,e7,odR,h6,b15,cond_false,cond_true]
     refine xcall_mut (dmeans_ok false hG0 hA d left (by omega) (by omega) (by omega)) [(1000,940),(1001,941)] rfl (by simp only [go_sem,i64,ints]) (by simp only [go_sem,i64,ints]) (by rfl) (by rfl) ?_
     (try simp only [go_sem])
     refine zj [] ?_ ?_
     · simp only [go_sem,odF,vB,upd,hbk,h6,h7,if_true]
     · simp only [go_sem,odR,upd,hbk,h6,h7,b15,cond_true,cond_false]
   · skip
     simp only [go_sem,odF]
     refine zj [] ?_ ?_
     · simp only [go_sem,odF,vB,upd,hbk,if_true]
     · simp only [go_sem,odR,upd,hbk,cond_true,cond_false]
   · skip
     have h9 : b 9 = true:=hde 9 (by decide +kernel)
     have e9 : ∀ v,vB b 9 v = v:=fun v=>by rw [vB,if_pos h9]
     simp only [go_sem,odF,e9]
     refine zj [] ?_ ?_
     · simp only [go_sem,odF,vB,upd,hbk,h9,if_true]
     · simp only [go_sem,odR,upd,hbk,h9,cond_true,cond_false]
   · skip
     simp only [go_sem,odF]
     refine zj [] ?_ ?_
     · simp only [go_sem,odF,vB,upd,hbk,if_true]
     · simp only [go_sem,odR,upd,hbk,cond_true,cond_false]
   · skip
     have h11 : b 11 = true:=hde 11 (by decide +kernel)
     have e11 : ∀ v,vB b 11 v = v:=fun v=>by rw [vB,if_pos h11]
     simp only [go_sem,odF,e11]
     refine zj [] ?_ ?_
     · simp only [go_sem,odF,vB,upd,hbk,h11,if_true]
     · simp only [go_sem,odR,upd,hbk,h11,cond_true,cond_false]
   · skip
     simp only [go_sem,odF]
     refine zj [] ?_ ?_
     · simp only [go_sem,odF,vB,upd,hbk,if_true]
     · simp only [go_sem,odR,upd,hbk,cond_true,cond_false]
   · skip
     have h13 : b 13 = true:=hde 13 (by decide +kernel)
     have e13 : ∀ v,vB b 13 v = v:=fun v=>by rw [vB,if_pos h13]
     simp only [go_sem,odF,e13]
     refine zj [] ?_ ?_
     · simp only [go_sem,odF,vB,upd,hbk,h13,if_true]
     · simp only [go_sem,odR,upd,hbk,h13,cond_true,cond_false]
   · skip
     have h8 : b 8 = true:=hde 8 (by decide +kernel)
     have e8 : ∀ v,vB b 8 v = v:=fun v=>by rw [vB,if_pos h8]
     have h10 : b 10 = true:=hde 10 (by decide +kernel)
     have e10 : ∀ v,vB b 10 v = v:=fun v=>by rw [vB,if_pos h10]
     have h12 : b 12 = true:=hde 12 (by decide +kernel)
     have e12 : ∀ v,vB b 12 v = v:=fun v=>by rw [vB,if_pos h12]
     have h14 : b 14 = true:=hde 14 (by decide +kernel)
     have e14 : ∀ v,vB b 14 v = v:=fun v=>by rw [vB,if_pos h14]
     have h6 : b 6 = true:=hdn 8 6 (by decide +kernel) (by decide +kernel) h8
     simp only [go_sem,odF,upd,e8,e10,e12,e14,odR,h6,hbk,cond_false,cond_true]
     refine xcall_new (newVisit_ok r true T1 (k : Int) (s : Int)) [(12,942),(10,943)] rfl (by rfl) (by rfl) (by rfl) (by rfl) (by rfl) ?_
     simp only [go_sem,idK,backA,backC,backL,pinOf,lendKey]
     refine fitV_sub (sub_shutM (memoV r true T1 k s) 943 (by rfl) (fun e he=>by cases he)) ?_
     refine zj [] ?_ ?_
     · simp only [go_sem,odF,vB,upd,hbk,h8,h10,h12,h14,h6,if_true]
     · simp only [go_sem,odR,upd,hbk,h8,h10,h12,h14,h6,cond_true,cond_false]
   · skip
     simp only [go_sem,odF]
     refine zj [] ?_ ?_
     · simp only [go_sem,odF,vB,upd,hbk,if_true]
     · simp only [go_sem,odR,upd,hbk,cond_true,cond_false]
   · skip
     have h15 : b 15 = true:=hde 15 (by decide +kernel)
     have e15 : ∀ v,vB b 15 v = v:=fun v=>by rw [vB,if_pos h15]
     have h16 : b 16 = true:=hde 16 (by decide +kernel)
     have e16 : ∀ v,vB b 16 v = v:=fun v=>by rw [vB,if_pos h16]
     simp only [go_sem,odF,upd,e15,e16,odR,h15,cond_true]
     refine xcall_mut (dmeans_ok true hG1 hA d left (by omega) (by omega) (by omega)) [(1000,942),(1001,943)] rfl (by simp only [go_sem,i64,ints]) (by simp only [go_sem,i64,ints]) (by rfl) (by rfl) ?_
     (try simp only [go_sem])
     refine zj [] ?_ ?_
     · simp only [go_sem,odF,vB,upd,hbk,h15,h16,if_true]
     · simp only [go_sem,odR,upd,hbk,h15,h16,cond_true,cond_false]
   · skip
     have h0 : b 0 = true:=hde 0 (by decide +kernel)
     have e0 : ∀ v,vB b 0 v = v:=fun v=>by rw [vB,if_pos h0]
     have h1 : b 1 = true:=hde 1 (by decide +kernel)
     have e1 : ∀ v,vB b 1 v = v:=fun v=>by rw [vB,if_pos h1]
     have h2 : b 2 = true:=hde 2 (by decide +kernel)
     have e2 : ∀ v,vB b 2 v = v:=fun v=>by rw [vB,if_pos h2]
     have h3 : b 3 = true:=hde 3 (by decide +kernel)
     have e3 : ∀ v,vB b 3 v = v:=fun v=>by rw [vB,if_pos h3]
     have h4 : b 4 = true:=hde 4 (by decide +kernel)
     have e4 : ∀ v,vB b 4 v = v:=fun v=>by rw [vB,if_pos h4]
     have h5 : b 5 = true:=hde 5 (by decide +kernel)
     have e5 : ∀ v,vB b 5 v = v:=fun v=>by rw [vB,if_pos h5]
     have h6 : b 6 = true:=hde 6 (by decide +kernel)
     have e6 : ∀ v,vB b 6 v = v:=fun v=>by rw [vB,if_pos h6]
     have h7 : b 7 = true:=hde 7 (by decide +kernel)
     have e7 : ∀ v,vB b 7 v = v:=fun v=>by rw [vB,if_pos h7]
     have h8 : b 8 = true:=hde 8 (by decide +kernel)
     have e8 : ∀ v,vB b 8 v = v:=fun v=>by rw [vB,if_pos h8]
     have h17 : b 17 = true:=hde 17 (by decide +kernel)
     have e17 : ∀ v,vB b 17 v = v:=fun v=>by rw [vB,if_pos h17]
     simp only [go_sem,odF,e0,e1,e2,e3,e4,e5,e6,e7,e8,e17]
     refine zj [] ?_ ?_
     · simp only [go_sem,odF,vB,upd,hbk,h0,h1,h2,h3,h4,h5,h6,h7,h8,h17,if_true]
     · simp only [go_sem,odR,upd,hbk,h0,h1,h2,h3,h4,h5,h6,h7,h8,h17,cond_true,cond_false]
   · skip
     have h0 : b 0 = true:=hde 0 (by decide +kernel)
     have e0 : ∀ v,vB b 0 v = v:=fun v=>by rw [vB,if_pos h0]
     have h1 : b 1 = true:=hde 1 (by decide +kernel)
     have e1 : ∀ v,vB b 1 v = v:=fun v=>by rw [vB,if_pos h1]
     have h2 : b 2 = true:=hde 2 (by decide +kernel)
     have e2 : ∀ v,vB b 2 v = v:=fun v=>by rw [vB,if_pos h2]
     have h3 : b 3 = true:=hde 3 (by decide +kernel)
     have e3 : ∀ v,vB b 3 v = v:=fun v=>by rw [vB,if_pos h3]
     have h4 : b 4 = true:=hde 4 (by decide +kernel)
     have e4 : ∀ v,vB b 4 v = v:=fun v=>by rw [vB,if_pos h4]
     have h5 : b 5 = true:=hde 5 (by decide +kernel)
     have e5 : ∀ v,vB b 5 v = v:=fun v=>by rw [vB,if_pos h5]
     have h6 : b 6 = true:=hde 6 (by decide +kernel)
     have e6 : ∀ v,vB b 6 v = v:=fun v=>by rw [vB,if_pos h6]
     have h7 : b 7 = true:=hde 7 (by decide +kernel)
     have e7 : ∀ v,vB b 7 v = v:=fun v=>by rw [vB,if_pos h7]
     have h8 : b 8 = true:=hde 8 (by decide +kernel)
     have e8 : ∀ v,vB b 8 v = v:=fun v=>by rw [vB,if_pos h8]
     have h9 : b 9 = true:=hde 9 (by decide +kernel)
     have e9 : ∀ v,vB b 9 v = v:=fun v=>by rw [vB,if_pos h9]
     have h10 : b 10 = true:=hde 10 (by decide +kernel)
     have e10 : ∀ v,vB b 10 v = v:=fun v=>by rw [vB,if_pos h10]
     have h11 : b 11 = true:=hde 11 (by decide +kernel)
     have e11 : ∀ v,vB b 11 v = v:=fun v=>by rw [vB,if_pos h11]
     have h12 : b 12 = true:=hde 12 (by decide +kernel)
     have e12 : ∀ v,vB b 12 v = v:=fun v=>by rw [vB,if_pos h12]
     have h13 : b 13 = true:=hde 13 (by decide +kernel)
     have e13 : ∀ v,vB b 13 v = v:=fun v=>by rw [vB,if_pos h13]
     have h14 : b 14 = true:=hde 14 (by decide +kernel)
     have e14 : ∀ v,vB b 14 v = v:=fun v=>by rw [vB,if_pos h14]
     have h15 : b 15 = true:=hde 15 (by decide +kernel)
     have e15 : ∀ v,vB b 15 v = v:=fun v=>by rw [vB,if_pos h15]
     have h16 : b 16 = true:=hde 16 (by decide +kernel)
     have e16 : ∀ v,vB b 16 v = v:=fun v=>by rw [vB,if_pos h16]
     have h17 : b 17 = true:=hde 17 (by decide +kernel)
     have e17 : ∀ v,vB b 17 v = v:=fun v=>by rw [vB,if_pos h17]
     have h18 : b 18 = true:=hde 18 (by decide +kernel)
     have e18 : ∀ v,vB b 18 v = v:=fun v=>by rw [vB,if_pos h18]
     simp only [go_sem,odF,e0,e1,e2,e3,e4,e5,e6,e7,e8,e9,e10,e11,e12,e13,e14,e15,e16,e17,e18]
     refine zj [] ?_ ?_
     · simp only [go_sem,odF,vB,upd,hbk,h0,h1,h2,h3,h4,h5,h6,h7,h8,h9,h10,h11,h12,h13,h14,h15,h16,h17,h18,if_true]
     · simp only [go_sem,odR,upd,hbk,h0,h1,h2,h3,h4,h5,h6,h7,h8,h9,h10,h11,h12,h13,h14,h15,h16,h17,h18,cond_true,cond_false]
 intro b vs hb
 have fb : ∀ j v,vB b j v = v:=fun j v=>by rw [vB,if_pos (hb j)]
 simp only [go_sem,odF,odR,fb,hb 15,cond_true];rw [hoS]
 have hl0 : (oddsV r false T0 k s left d).length = r.aims.length:=by simp [oddsV,meansV]
 have hl1' : (oddsV r true T1 k s left d).length = r.aims.length:=by simp [oddsV,meansV]
 have hal:=hA.len
 generalize oddsV r false T0 k s left d = L0 at *
 generalize oddsV r true T1 k s left d = L1 at *
 have hzl : (L0.zip L1).length = L0.length:=by rw [List.length_zip]; omega
 refine zw (sub_own 4 68 30 2 (by omega) rfl) ?_;refine zw (zk [4,8,9]) ?_;simp only [go_sem]
 repeat refine zq ?_
 refine zb fun K hK=>?_;simp only [go_sem];(try simp (disch:=omega) only [zI]);repeat first | intro _ | refine ⟨by omega,?_⟩
 refine hK _ ?_;clear hK K;refine zw (zk [4,8,9,53,54]) ?_;simp only [go_sem]
 repeat refine zq ?_
 refine zd ?_
 refine awp_uptoV (n:=71) L0.length (fun i vs=>[(4,.os 68 (vs 68) 2 0 i),(8,.r (ints L0)),(9,.r (ints L1)),(53,.r (i64 L0.length)),(54,.r (i64 i))])
  (fun i vs=>[(68,.arr 30 2 (((L0.zip L1).take i).map spanR))]) (fun _=>True) 0 (zj [940,941,942,943] ?_ ?_) (Nat.zero_le _) trivial ?_
 · try simp only [go_sem]
 · try simp only [go_sem]
 · intro i vs hi _
   repeat refine zq ?_
   refine zb fun K hK=>?_;simp only [go_sem];(try simp (disch:=omega) only [zI]);repeat first | intro _ | refine ⟨by omega,?_⟩
   refine hK _ ?_;clear hK K;refine zw (zk [4,8,9,53,54,55]) ?_;simp only [go_sem]
   repeat refine zq ?_
   refine zc rfl (fun hc=>?_) (fun hc=>?_) <;> (try simp only [go_sem] at hc)
   · have hci : i < L0.length:=by omega
     have hci1 : i < L1.length:=by omega
     obtain ⟨x,hx⟩:=opt_of_lt hci
     obtain ⟨y,hy⟩:=opt_of_lt hci1
     have hz : (L0.zip L1)[i]? = some (x,y):=by rw [List.getElem?_zip_eq_some]; exact ⟨hx,hy⟩
     have htk : (L0.zip L1).take (i + 1) = (L0.zip L1).take i ++ [(x,y)]:=take_of_opt hz
     have hli : ((L0.zip L1).take i).length = i:=by rw [List.length_take]; omega
     refine zx ?_
     try simp only [go_sem]
     repeat refine zq ?_
     refine zd ?_
     repeat refine zq ?_
     refine zb fun K hK=>?_;simp only [go_sem];(try simp (disch:=omega) only [zI]);repeat first | intro _ | refine ⟨by omega,?_⟩
     refine hK _ ?_;clear hK K;refine zw (zk [4,8,9,10,53,54]) ?_;simp only [go_sem]
     repeat refine zq ?_
     refine zg follows (by decide +kernel) (by kernel_rfl) fun K hK=>?_;simp only [go_sem,hx,hy,hci,hci1,hli];(try simp (disch:=omega) only [zI]);repeat first | intro _ | refine ⟨by omega,?_⟩
     refine hK _ ?_;clear hK K;refine zw (zk [4,8,9,53,54]) ?_;simp only [go_sem]
     repeat refine zq ?_
     refine zb fun K hK=>?_;simp only [go_sem];(try simp (disch:=omega) only [zI]);repeat first | intro _ | refine ⟨by omega,?_⟩
     refine hK _ ?_;clear hK K
     try simp only [go_sem]
     refine ⟨by omega,zj [] ?_ ?_⟩
     · try simp only [go_sem]
     · try simp only [go_sem]
       rw [htk]
       simp [spanR]
   · have hil : i = L0.length:=by omega
     subst hil
     have hzt : (L0.zip L1).take L0.length = L0.zip L1:=List.take_of_length_le (by omega)
     rw [hzt]
     refine zf ?_;simp only [go_sem];refine zw (sub_frz (ty:=30) (sz:=2) (off:=0) (m:=L0.length) (es:=(L0.zip L1).map spanR) 4 68 (by omega) (by try simp only [go_sem]) (by try simp only [go_sem]) (by rw [List.length_map,hzl]; omega)) ?_
     have e2 : (((L0.zip L1).map spanR).drop 0).take L0.length = (L0.zip L1).map spanR:=by
      rw [List.drop_zero,List.take_of_length_le (by rw [List.length_map,hzl]; exact Nat.le_refl _)]
     rw [e2]
     refine zw (zk [4]) ?_;simp only [go_sem]
     repeat refine zq ?_
     refine zb fun K hK=>?_;simp only [go_sem];(try simp (disch:=omega) only [zI]);repeat first | intro _ | refine ⟨by omega,?_⟩
     refine hK _ ?_;clear hK K;refine zw (zk [4,5]) ?_;simp only [go_sem];refine ze ?_;simp only [go_sem]
theorem foldl_max_ge : ∀ {l : List Int} {x : Int},x ≤ l.foldl max x ∧ ∀ y ∈ l,y ≤ l.foldl max x
 | [],x=>by simp
 | z :: l, x => by
   obtain ⟨h1,h2⟩:=foldl_max_ge (l:=l) (x:=max x z)
   simp only [List.foldl_cons]
   refine ⟨by omega,fun y hy=>?_⟩
   rcases List.mem_cons.1 hy with rfl | hy
   · omega
   · exact h2 y hy
theorem foldl_max_mem : ∀ {l : List Int} {x : Int},l.foldl max x = x ∨ l.foldl max x ∈ l
 | [],x=>by simp
 | z :: l, x => by
   rcases foldl_max_mem (l:=l) (x:=max x z) with h | h
   · simp only [List.foldl_cons,h]
     by_cases hz : z ≤ x
     · left; omega
     · right; rw [show max x z = z by omega]; simp
   · right; simp [h]
theorem le_maxL {l : List Int} {x : Int} (h : x ∈ l) : x ≤ maxL l:=foldl_max_ge.2 x h
theorem maxL_mem {l : List Int} (h : l ≠ []) : maxL l ∈ l:=by
 cases l with
 | nil=>exact absurd rfl h
 | cons x l =>
   unfold maxL
   simp only [List.headD_cons]
   rcases foldl_max_mem (l:=x :: l) (x:=x) with h | h
   · rw [h]; simp
   · exact h
theorem after_mono {r : Ru} {m1 m2 : Bool} (hm : m1 = true → m2 = true) {T T' : List (List Int)} {k y : Nat} (hk : k < r.ends.length) (he : ∀ x ∈ r.ends,endOk x = true)
 (hT : k + 1 < r.ends.length → 0 ≤ (T.getD (k + 1) []).getD y 0 ∧ (T.getD (k + 1) []).getD y 0 ≤ (T'.getD (k + 1) []).getD y 0) : afterD r m1 T k y ≤ afterD r m2 T' k y:=by
 unfold afterD
 split
 · omega
 · rename_i hn
   obtain ⟨h0,h1⟩:=hT (by omega)
   obtain ⟨e,hek⟩:=opt_of_lt hk
   obtain ⟨g1,g2,g3⟩:=endOk_le (he e (mem_of_opt hek))
   have e2 : r.ends.getD k (0,0) = e:=by simp [List.getD_eq_getElem?_getD,hek]
   rw [e2]
   refine overD_mono hm (by omega) ?_
   have hd : endsD m2 e ≤ endsD m1 e ∧ 0 ≤ 1000000 - endsD m1 e:=by unfold endsD; cases m1 <;> cases m2 <;> simp at hm ⊢ <;> omega
   exact Int.mul_le_mul h1 (by omega) hd.2 (by omega)
def RowLe (r : Ru) (T T' : List (List Int)) (k : Nat) : Prop:=k + 1 < r.ends.length → ∀ y : Nat,(y : Int) ≤ r.start → (T.getD (k + 1) []).getD y 0 ≤ (T'.getD (k + 1) []).getD y 0
theorem VisG.row0 {r : Ru} {T : List (List Int)} {k st : Nat} (h : VisG r T k st) {y : Nat} (hy : (y : Int) ≤ r.start) (hk : k + 1 < r.ends.length) : 0 ≤ (T.getD (k + 1) []).getD y 0:=by
 obtain ⟨row,v,hv⟩:=h.tab y hy
 obtain ⟨t1,t2,t3,t4⟩:=hv hk
 simp [List.getD_eq_getElem?_getD,t1,t2,t3]
theorem VisG.after_mono {r : Ru} {m1 m2 : Bool} (hm : m1 = true → m2 = true) {T T' : List (List Int)} {k st : Nat} (h : VisG r T k st) (hT : RowLe r T T' k) (y : Nat) (hy : (y : Int) ≤ r.start) : afterD r m1 T k y ≤ afterD r m2 T' k y :=
 Go.Proofs.Ytlljkgiomkmjbaa.Du.after_mono hm h.kk h.ends fun hk=>⟨h.row0 hy hk,hT hk y hy⟩
theorem rowV_getD (r : Ru) (most : Bool) (T : List (List Int)) (k y : Nat) (h : (y : Int) ≤ r.start) : (rowV r most T k).getD y 0 = if (y : Int) < lowestR r then 0 else valV r most T k y 3 y:=by
 rw [List.getD_eq_getElem?_getD,rowV_get r most T k y h]; rfl
abbrev bAt (l : List Bd) (i : Nat) : Bd:=l.getD i ⟨0,0,0⟩
def dotF (l : List Bd) (x : Nat → Int) : Int:=((List.range l.length).map fun i=>x i * (bAt l i).b).sum
structure TruthN (den : Int) (l : List Bd) (x : Nat → Int) : Prop where
 each : ∀ i,i < l.length → (bAt l i).lo ≤ x i ∧ x i ≤ (bAt l i).hi
 sum : ((List.range l.length).map x).sum = den
theorem range_bAt (l : List Bd) : (List.range l.length).map (bAt l) = l:=by
 refine List.ext_getElem (by simp) fun i h1 h2=>?_
 simp [bAt,List.getD,List.getElem?_eq_getElem h2]
theorem sum_bAt (l : List Bd) (F : Bd → Int) : ((List.range l.length).map fun i=>F (bAt l i)).sum = (l.map F).sum:=by
 conv=>rhs; rw [← range_bAt l]
 rw [List.map_map]; rfl
theorem sum_add {f g : Nat → Int} : ∀ I : List Nat,(I.map fun i=>f i + g i).sum = (I.map f).sum + (I.map g).sum
 | []=>by simp
 | i :: I=>by simp only [List.map_cons,List.sum_cons,sum_add I]; omega
theorem sum_sub {f g : Nat → Int} : ∀ I : List Nat,(I.map fun i=>f i - g i).sum = (I.map f).sum - (I.map g).sum
 | []=>by simp
 | i :: I=>by simp only [List.map_cons,List.sum_cons,sum_sub I]; omega
theorem bAt_mem {l : List Bd} {i : Nat} (h : i < l.length) : bAt l i ∈ l:=by
 unfold bAt
 rw [List.getD_eq_getElem?_getD,List.getElem?_eq_getElem h]; exact List.getElem_mem h
theorem mean_opt {most : Bool} {den : Int} {l : List Bd} (h : ChG den l) (hh : den ≤ hiS l) : ∃ x,TruthN den l x ∧ meanD most den l = overD most (dotF l x) den ∧ ∀ y,TruthN den l y → leD most (dotF l x) (dotF l y):=by
 obtain ⟨I,p,n,w,e⟩:=mean_idx (most:=most) h hh
 have hI : ∀ i ∈ I,i < l.length:=fun i hi=>List.mem_range.1 (p.mem_iff.1 hi)
 have hlow:=h.low
 have hm0 : ∀ i ∈ I,0 ≤ (bAt l i).hi - (bAt l i).lo:=fun i hi=>by
  have:=(h.each _ (bAt_mem (hI i hi))).2
  omega
 have hsm : (I.map fun i=>(bAt l i).hi - (bAt l i).lo).sum = hiS l - loS l:=by
  rw [perm_sum (f:=fun i=>(bAt l i).hi - (bAt l i).lo) p,sum_sub]
  rw [sum_bAt l (·.hi),sum_bAt l (·.lo)]; rfl
 have hlo : loS l = (I.map fun i=>(bAt l i).lo).sum:=by
  rw [perm_sum (f:=fun i=>(bAt l i).lo) p,sum_bAt l (·.lo)]; rfl
 have hlv : loV l = (I.map fun i=>(bAt l i).lo * (bAt l i).b).sum:=by
  rw [perm_sum (f:=fun i=>(bAt l i).lo * (bAt l i).b) p,sum_bAt l fun c=>c.lo * c.b]; rfl
 have hdot : ∀ x,dotF l x = (I.map fun i=>x i * (bAt l i).b).sum:=fun x=>(perm_sum (f:=fun i=>x i * (bAt l i).b) p).symm
 have hsum : ∀ x : Nat → Int,((List.range l.length).map x).sum = (I.map x).sum:=fun x=>(perm_sum (f:=x) p).symm
 obtain ⟨x,x1,x2,x3⟩:=greedy_amt (m:=fun i=>(bAt l i).hi - (bAt l i).lo) (v:=fun i=>(bAt l i).b) (I:=I) (left:=den - loS l) (s:=loV l) n hm0 (by omega) (by omega)
 have hd : dotF l (fun i=>(bAt l i).lo + x i) = loV l + (I.map fun i=>x i * (bAt l i).b).sum:=by
  rw [hdot,hlv,← sum_add]
  congr 1
  exact List.map_congr_left fun i _=>by rw [Int.add_mul]
 refine ⟨fun i=>(bAt l i).lo + x i,⟨fun i hi=>?_,?_⟩,?_,fun y hy=>?_⟩
 · have:=x1 i (p.mem_iff.2 (List.mem_range.2 hi))
   omega
 · rw [hsum,sum_add,x2,← hlo]; omega
 · rw [e,hd,x3]
 · have hfe : ∀ i ∈ I,0 ≤ y i - (bAt l i).lo ∧ y i - (bAt l i).lo ≤ (bAt l i).hi - (bAt l i).lo:=fun i hi=>by
    have:=hy.each i (hI i hi)
    omega
   have hys : (I.map fun i=>y i - (bAt l i).lo).sum = den - loS l:=by
    rw [sum_sub,← hsum y,hy.sum,← hlo]
   have hyd : dotF l y = loV l + (I.map fun i=>(y i - (bAt l i).lo) * (bAt l i).b).sum:=by
    rw [hdot,hlv,← sum_add]
    congr 1
    exact List.map_congr_left fun i _=>by rw [Int.sub_mul]; omega
   rw [hd,hyd]
   have hf:=feas_map (m:=fun i=>(bAt l i).hi - (bAt l i).lo) (v:=fun i=>(bAt l i).b) (x:=fun i=>y i - (bAt l i).lo) hfe
   have hdm:=dot_map (m:=fun i=>(bAt l i).hi - (bAt l i).lo) (v:=fun i=>(bAt l i).b) (x:=fun i=>y i - (bAt l i).lo) I
   cases most with
   | false =>
     have:=fill_min hf (den - loS l) (loV l) (List.pairwise_map.2 (w.imp fun h=>by simpa [leD] using h)) hys
     rw [hdm,x3] at this
     simp only [leD,Bool.false_eq_true,if_false]
     omega
   | true =>
     have:=fill_max hf (den - loS l) (loV l) (List.pairwise_map.2 (w.imp fun h=>by simpa [leD] using h)) hys
     rw [hdm,x3] at this
     simp only [leD,if_true]
     omega
theorem bAt_chW (f : Int → Int) (l : List Bd) {i : Nat} (hi : i < l.length) : bAt (chW f l) i = ⟨f (bAt l i).b,(bAt l i).lo,(bAt l i).hi⟩:=by simp [chW,bAt,List.getD,List.getElem?_eq_getElem hi]
theorem chW_len (f : Int → Int) (l : List Bd) : (chW f l).length = l.length:=by simp [chW]
theorem dotF_chW (f : Int → Int) (l : List Bd) (x : Nat → Int) : dotF (chW f l) x = ((List.range l.length).map fun i=>x i * f (bAt l i).b).sum:=by
 unfold dotF
 rw [chW_len]
 congr 1
 exact List.map_congr_left fun i hi=>by rw [bAt_chW f l (List.mem_range.1 hi)]
theorem TruthN.chW {den : Int} {l : List Bd} {x : Nat → Int} {f g : Int → Int} (h : TruthN den (chW f l) x) : TruthN den (chW g l) x:=by
 refine ⟨fun i hi=>?_,?_⟩
 · rw [chW_len] at hi
   have:=h.each i (by rw [chW_len]; exact hi)
   rw [bAt_chW f l hi] at this
   rw [bAt_chW g l hi]
   exact this
 · have:=h.sum
   rw [chW_len] at this ⊢
   exact this
theorem lowest_eq {r1 r2 : Ru} (h : r1.out = r2.out) : lowestR r1 = lowestR r2:=by unfold lowestR; rw [h]
structure LeR (r1 r2 : Ru) (m : Bool) : Prop where
 start : r1.start = r2.start
 out : r1.out = r2.out
 n : r1.ends.length = r2.ends.length
 aims : ∀ a1 ∈ r1.aims,∃ a2 ∈ r2.aims,∀ f g : Int → Int,(∀ b,0 ≤ b → b ≤ 499 → 0 ≤ f b ∧ f b ≤ 1000000) → (∀ b,0 ≤ b → b ≤ 499 → 0 ≤ g b ∧ g b ≤ 1000000) → (∀ b,0 ≤ b → b ≤ 499 → f b ≤ g b) → meanD m r1.d (chW f a1.beds) ≤ meanD m r2.d (chW g a2.beds)
 ends : ∀ k,k < r1.ends.length → endsD m (r2.ends.getD k (0,0)) ≤ endsD m (r1.ends.getD k (0,0))
theorem LeR.means {r1 r2 : Ru} {m : Bool} (h : LeR r1 r2 m) (hne : r1.aims ≠ []) {f g : Int → Int} (hf : ∀ b,0 ≤ b → b ≤ 499 → 0 ≤ f b ∧ f b ≤ 1000000) (hg : ∀ b,0 ≤ b → b ≤ 499 → 0 ≤ g b ∧ g b ≤ 1000000) (hfg : ∀ b,0 ≤ b → b ≤ 499 → f b ≤ g b) :
 maxL (meansV r1 m f) ≤ maxL (meansV r2 m g):=by
 obtain ⟨a,ha,e⟩:=List.mem_map.1 (maxL_mem (l:=meansV r1 m f) (by simpa [meansV] using hne))
 obtain ⟨a2,h2,h3⟩:=h.aims a ha
 rw [← e]
 exact Int.le_trans (h3 f g hf hg hfg) (le_maxL (List.mem_map.2 ⟨a2,h2,rfl⟩))
theorem LeR.after {r1 r2 : Ru} {m : Bool} (h : LeR r1 r2 m) (he : ∀ x ∈ r1.ends,endOk x = true) {T T' : List (List Int)} {k y : Nat} (hk : k < r1.ends.length)
 (hT : k + 1 < r1.ends.length → 0 ≤ (T.getD (k + 1) []).getD y 0 ∧ (T.getD (k + 1) []).getD y 0 ≤ (T'.getD (k + 1) []).getD y 0) : afterD r1 m T k y ≤ afterD r2 m T' k y:=by
 unfold afterD
 rw [← h.n]
 split
 · omega
 · rename_i hn
   obtain ⟨h0,h1⟩:=hT (by omega)
   have hm : r1.ends.getD k (0,0) ∈ r1.ends:=by
    rw [List.getD_eq_getElem?_getD,List.getElem?_eq_getElem hk]; exact List.getElem_mem _
   obtain ⟨g1,g2,g3⟩:=endOk_le (he _ hm)
   have hd:=h.ends k hk
   refine overD_mono (fun h=>h) (by omega) ?_
   have h3 : 0 ≤ 1000000 - endsD m (r1.ends.getD k (0,0)):=by unfold endsD; split <;> omega
   exact Int.mul_le_mul h1 (by omega) h3 (by omega)
theorem next_le2 {r1 r2 : Ru} {m : Bool} {T T' : List (List Int)} {k st left : Nat} {val val' : Nat → Int} {last : Bool} {b : Int} (ho : r1.out = r2.out) (b0 : 0 ≤ b) (b1 : b ≤ 499) (hst : (st : Int) ≤ r1.start) (hl : (left : Int) ≤ r1.start)
 (hA : ∀ y : Nat,(y : Int) ≤ r1.start → afterD r1 m T k y ≤ afterD r2 m T' k y) (hv : last = false → ∀ y : Nat,(y : Int) ≤ r1.start → val y ≤ val' y) :
 nextV r1 m T k st val last left b ≤ nextV r2 m T' k st val' last left b:=by
 obtain ⟨s0,s1⟩:=score_le b0 b1
 unfold nextV
 rw [lowest_eq ho,ho]
 split
 · omega
 · split
   · exact hA st hst
   · split
     · exact hA _ (by omega)
     · rename_i hn
       exact hv (by simpa using hn) _ (by omega)
theorem LeR.val {r1 r2 : Ru} {m : Bool} (hL : LeR r1 r2 m) (hA : AimsG r1) (hA2 : AimsG r2) {T T' : List (List Int)} {k st : Nat} (h : VisG r1 T k st) (h' : VisG r2 T' k st) (hT : RowLe r1 T T' k) :
 ∀ n left : Nat,(left : Int) ≤ r1.start → valV r1 m T k st n left ≤ valV r2 m T' k st n left
 | 0,_,_=>by simp only [valV]; omega
 | n + 1, left, hl => by
   simp only [valV]
   have hl2 : (left : Int) ≤ r2.start:=by rw [← hL.start]; exact hl
   exact hL.means hA.ne (fun b b0 b1=>nextV_le h hl b0 b1 fun _ x hx=>valV_le h hA n x hx) (fun b b0 b1=>nextV_le h' hl2 b0 b1 fun _ x hx=>valV_le h' hA2 n x hx)
    fun b b0 b1=>next_le2 hL.out b0 b1 h.st40 hl (fun y hy=>hL.after h.ends h.kk fun hk=>⟨h.row0 hy hk,hT hk y hy⟩) fun _ y hy=>hL.val hA hA2 h h' hT n y hy
theorem LeR.tab {r1 r2 : Ru} {m : Bool} (hL : LeR r1 r2 m) (h1 : RuG r1) (h2 : RuG r2) : ∀ i,i ≤ r1.ends.length → ∀ j y : Nat,(y : Int) ≤ r1.start → ((tabI r1 m i).getD j []).getD y 0 ≤ ((tabI r2 m i).getD j []).getD y 0
 | 0,_,j,y,_=>by simp only [tabI,hL.n]; omega
 | i + 1, hi, j, y, hy => by
   have ih:=hL.tab h1 h2 i (by omega)
   have hy2 : (y : Int) ≤ r2.start:=by rw [← hL.start]; exact hy
   have hn:=hL.n
   simp only [tabI];rw [← hn]
   by_cases e : j = r1.ends.length - 1 - i
   · subst e
     have g0 : ((tabI r1 m i).set (r1.ends.length - 1 - i) (rowV r1 m (tabI r1 m i) (r1.ends.length - 1 - i))).getD (r1.ends.length - 1 - i) [] = rowV r1 m (tabI r1 m i) (r1.ends.length - 1 - i):=by
      rw [List.getD_eq_getElem?_getD,List.getElem?_set_self (by rw [tabI_len]; omega)]; rfl
     have g1 : ((tabI r2 m i).set (r1.ends.length - 1 - i) (rowV r2 m (tabI r2 m i) (r1.ends.length - 1 - i))).getD (r1.ends.length - 1 - i) [] = rowV r2 m (tabI r2 m i) (r1.ends.length - 1 - i):=by
      rw [List.getD_eq_getElem?_getD,List.getElem?_set_self (by rw [tabI_len]; omega)]; rfl
     rw [g0,g1,rowV_getD _ _ _ _ _ hy,rowV_getD _ _ _ _ _ hy2,lowest_eq hL.out]
     split
     · omega
     · have v2:=vis_at h2 m i (by omega) y hy2
       rw [← hn] at v2
       exact hL.val h1.aims h2.aims (vis_at h1 m i (by omega) y hy) v2 (fun _ z hz=>ih _ z hz) 3 y hy
   · have g0 : ∀ (A : List (List Int)) (x : List Int),(A.set (r1.ends.length - 1 - i) x).getD j [] = A.getD j []:=fun A x=>by
      rw [List.getD_eq_getElem?_getD,List.getD_eq_getElem?_getD,List.getElem?_set_ne (fun h=>e h.symm)]
     rw [g0,g0]
     exact ih j y hy
theorem LeR.tabF {r1 r2 : Ru} {m : Bool} (hL : LeR r1 r2 m) (h1 : RuG r1) (h2 : RuG r2) {j y : Nat} (hy : (y : Int) ≤ r1.start) : ((Go.Proofs.Ytlljkgiomkmjbaa.Du.tabF r1 m).getD j []).getD y 0 ≤ ((Go.Proofs.Ytlljkgiomkmjbaa.Du.tabF r2 m).getD j []).getD y 0:=by
 unfold Go.Proofs.Ytlljkgiomkmjbaa.Du.tabF
 rw [← hL.n]
 exact hL.tab h1 h2 _ (Nat.le_refl _) j y hy
structure NarB (l l' : List Bd) : Prop where
 len : l'.length = l.length
 each : ∀ i,i < l.length → (bAt l' i).b = (bAt l i).b ∧ (bAt l i).lo ≤ (bAt l' i).lo ∧ (bAt l' i).hi ≤ (bAt l i).hi
theorem TruthN.wide {den : Int} {l l' : List Bd} {x : Nat → Int} {f g : Int → Int} (hN : NarB l l') (h : TruthN den (Go.Proofs.Ytlljkgiomkmjbaa.Du.chW f l') x) : TruthN den (Go.Proofs.Ytlljkgiomkmjbaa.Du.chW g l) x:=by
 refine ⟨fun i hi=>?_,?_⟩
 · rw [chW_len] at hi
   have h1:=h.each i (by rw [chW_len,hN.len]; exact hi)
   rw [bAt_chW f l' (by rw [hN.len]; exact hi)] at h1
   rw [bAt_chW g l hi]
   have h2:=hN.each i hi
   simp only at h1 ⊢
   omega
 · have:=h.sum
   rw [chW_len,hN.len] at this
   rw [chW_len]; exact this
theorem ruE_parts {r : Ru} (h : ruE r = 0) : checkV r.d r.aims = 0 ∧ (2 ≤ r.start ∧ r.start ≤ 40) ∧ (0 ≤ r.out ∧ r.out ≤ 2) ∧ (1 ≤ r.ends.length ∧ r.ends.length ≤ 10) ∧ (∀ x ∈ r.ends,endOk x = true) ∧ lastE r = 1000000:=by
 unfold ruE at h
 split at h
 · rename_i h1; exact absurd h h1
 · rename_i h1
   split at h
   · rename_i h2
     simp only [Bool.and_eq_true,decide_eq_true_eq] at h2
     obtain ⟨⟨⟨⟨⟨⟨⟨a1,a2⟩,a3⟩,a4⟩,a5⟩,a6⟩,a7⟩,a8⟩:=h2
     exact ⟨by simpa using h1,⟨a1,a2⟩,⟨a3,a4⟩,⟨a5,a6⟩,List.all_eq_true.1 a7,a8⟩
   · cases h
theorem ruE_of {r : Ru} (hc : checkV r.d r.aims = 0) (hs : 2 ≤ r.start ∧ r.start ≤ 40) (ho : 0 ≤ r.out ∧ r.out ≤ 2) (hn : 1 ≤ r.ends.length ∧ r.ends.length ≤ 10) (he : ∀ x ∈ r.ends,endOk x = true) (hl : lastE r = 1000000) : ruE r = 0:=by
 have he':=List.all_eq_true.2 he
 simp [ruE,hc,he',hl,hs,ho,hn]
theorem aims_all {r : Ru} (h : checkV r.d r.aims = 0) : ∀ a ∈ r.aims,aimOk r.d a = true:=by
 unfold checkV at h
 split at h
 · cases h
 · split at h
   · cases h
   · split at h
     · rename_i h3; exact List.all_eq_true.1 h3
     · cases h
theorem seqOk_map : ∀ {l l' : List Bd} {p : Option Int},l'.map (·.b) = l.map (·.b) → seqOk p l' = seqOk p l
 | [],[],_,_=>rfl
 | [],c :: l',_,h=>by simp at h
 | c :: l,[],_,h=>by simp at h
 | c :: l, c' :: l', p, h => by
   simp only [List.map_cons,List.cons.injEq] at h
   unfold seqOk
   rw [h.1,seqOk_map h.2]
theorem aimOk_parts {d : Int} {a : Am} (h : aimOk d a = true) : bedOk a.at_ = true ∧ a.beds ≠ [] ∧ seqOk none a.beds = true ∧ (∀ x ∈ a.beds,0 ≤ x.lo ∧ x.lo ≤ x.hi ∧ x.hi ≤ d) ∧ loS a.beds ≤ d ∧ d ≤ hiS a.beds:=by
 simp only [aimOk,Bool.and_eq_true,decide_eq_true_eq] at h
 obtain ⟨⟨⟨⟨⟨h1,h2⟩,h3⟩,h4⟩,h5⟩,h6⟩:=h
 refine ⟨h1,fun e=>by rw [e] at h2; simp at h2,h3,fun x hx=>?_,h5,h6⟩
 simp only [chOk,List.all_eq_true,Bool.and_eq_true,decide_eq_true_eq] at h4
 have:=h4 x hx
 omega
def oddsL (r : Ru) (p : Pos) : List Sp:=oddsS r p.round.toNat p.start.toNat p.left.toNat (p.darts - 1).toNat
theorem odds_len (r : Ru) (p : Pos) : (oddsL r p).length = r.aims.length:=by
 simp only [oddsL,oddsS,List.length_zip,oddsV,meansV,List.length_map]; omega
theorem odds_cases (r : Ru) (p : Pos) : (oddsE r p = 0 ∧ ruE r = 0 ∧ posOk r p = true ∧ oddsR r p = spansR (oddsL r p)) ∨ (oddsE r p ≠ 0 ∧ oddsR r p = .ns):=by
 unfold oddsE oddsR
 by_cases h : ruE r = 0
 · by_cases hp : posOk r p = true
   · exact .inl ⟨by rw [if_pos h,if_pos hp],h,hp,by rw [if_pos h,if_pos hp]; rfl⟩
   · exact .inr ⟨by rw [if_pos h,if_neg hp]; decide,by rw [if_pos h,if_neg hp]⟩
 · exact .inr ⟨by rw [if_neg h]; exact h,by rw [if_neg h]⟩
def bestL (l : List Sp) : Int:=bestS l l.length
def lowL (l : List Sp) : Int:=(l.getD (bestL l).toNat (0,0)).1
theorem bestL_nat {l : List Sp} (h : l ≠ []) : ∃ b : Nat,bestL l = b ∧ b < l.length:=by
 have hl:=List.length_pos_iff.2 h
 have:=bestS_lt l l.length
 exact ⟨(bestL l).toNat,by unfold bestL; omega,by unfold bestL; omega⟩
theorem aim_ok (r : Ru) (hw : WfR r) (p : Pos) : ACalls Try.prog 28 [ruV r,posV p] (.tu [i64 (if oddsE r p = 0 then bestL (oddsL r p) else 0),i64 (if oddsE r p = 0 then lowL (oddsL r p) else 0),i64 (oddsE r p)]):=by
 have ho:=odds_ok r hw p
 refine acalls_st (rs:=[i64 (if oddsE r p = 0 then bestL (oddsL r p) else 0),i64 (if oddsE r p = 0 then lowL (oddsL r p) else 0),i64 (oddsE r p)]) [.tmp 4,.tmp 5,.tmp 6] Try.func28 rfl (by kernel_rfl) Try.ntmps28 rfl (by simp) rfl fun C vs=>?_
 repeat refine zq ?_
 refine zb fun K hK=>?_;simp only [go_sem];(try simp (disch:=omega) only [zI]);repeat first | intro _ | refine ⟨by omega,?_⟩
 refine hK _ ?_;clear hK K;refine zw (sub_frzP 2 2 (ruC r) (by omega) rfl rfl) ?_;refine zw (zk [2,3]) ?_;simp only [go_sem];refine zw (sub_frzP 3 3 (posC p) (by omega) rfl rfl) ?_;refine zw (zk [2,3]) ?_;simp only [go_sem]
 rcases odds_cases r p with ⟨hE,h0,hp,hR⟩ | ⟨hE,hR⟩
 · rw [hE,hR] at ho
   rw [if_pos hE,if_pos hE,hE]
   obtain ⟨hG,_⟩:=ruG_of h0
   have hb:=best_ok (oddsL r p)
   have hne : oddsL r p ≠ []:=by
    intro h
    have:=odds_len r p
    rw [h] at this
    exact hG.aims.ne (List.eq_nil_of_length_eq_zero this.symm)
   obtain ⟨b,hbe,hbl⟩:=bestL_nat hne
   have hbs : bestS (oddsL r p) (oddsL r p).length = (b : Int):=hbe
   obtain ⟨x,hx⟩:=opt_of_lt hbl
   have hlow : lowL (oddsL r p) = x.1:=by unfold lowL; rw [hbe,Int.toNat_natCast]; simp [List.getD,hx]
   rw [hlow,hbe]
   rw [hbs] at hb
   generalize oddsL r p = L at *
   repeat refine zq ?_
   refine zb fun K hK=>?_;simp only [go_sem];(try simp (disch:=omega) only [zI])
   refine zh (ho) rfl (by simp only [go_sem,i64,ints]) (by simp only [go_sem,i64,ints]) (by first | exact .inl rfl | exact .inr rfl) ?_
   (try simp only [go_sem]);(try simp (disch:=omega) only [zI]);repeat first | intro _ | refine ⟨by omega,?_⟩
   refine hK _ ?_;clear hK K;refine zw (zk [6,7]) ?_;simp only [go_sem]
   repeat refine zq ?_
   refine zb fun K hK=>?_;simp only [go_sem,bne_self_eq_false];(try simp (disch:=omega) only [zI]);repeat first | intro _ | refine ⟨by omega,?_⟩
   refine hK _ ?_;clear hK K;refine zw (zk [6,7,15]) ?_;simp only [go_sem]
   repeat refine zq ?_
   refine zc rfl (fun hc=>?_) (fun hc=>?_) <;> (try simp only [go_sem] at hc)
   refine zx ?_
   try simp only [go_sem]
   repeat refine zq ?_
   refine zb fun K hK=>?_;simp only [go_sem];(try simp (disch:=omega) only [zI])
   refine zh (hb) rfl (by simp only [go_sem,i64,ints]) (by simp only [go_sem,i64,ints]) (by first | exact .inl rfl | exact .inr rfl) ?_
   (try simp only [go_sem]);(try simp (disch:=omega) only [zI]);repeat first | intro _ | refine ⟨by omega,?_⟩
   refine hK _ ?_;clear hK K;refine zw (zk [4,7]) ?_;simp only [go_sem]
   repeat refine zq ?_
   refine zg follows (by decide +kernel) (by kernel_rfl) fun K hK=>?_;simp only [go_sem,hx,hbl,spanR];(try simp (disch:=omega) only [zI]);repeat first | intro _ | refine ⟨by omega,?_⟩
   refine hK _ ?_;clear hK K;refine zw (zk [4,5,6]) ?_;simp only [go_sem];refine ze ?_;simp only [go_sem]
 · have c : (oddsE r p != 0) = true:=by simpa using hE
   rw [hR] at ho
   rw [if_neg hE,if_neg hE]
   repeat refine zq ?_
   refine zb fun K hK=>?_;simp only [go_sem];(try simp (disch:=omega) only [zI])
   refine zh (ho) rfl (by simp only [go_sem,i64,ints]) (by simp only [go_sem,i64,ints]) (by first | exact .inl rfl | exact .inr rfl) ?_
   (try simp only [go_sem]);(try simp (disch:=omega) only [zI]);repeat first | intro _ | refine ⟨by omega,?_⟩
   refine hK _ ?_;clear hK K;refine zw (zk [6,7]) ?_;simp only [go_sem]
   repeat refine zq ?_
   refine zb fun K hK=>?_;simp only [go_sem,c];(try simp (disch:=omega) only [zI]);repeat first | intro _ | refine ⟨by omega,?_⟩
   refine hK _ ?_;clear hK K;refine zw (zk [6,7,15]) ?_;simp only [go_sem]
   repeat refine zq ?_
   refine zc rfl (fun hc=>?_) (fun hc=>?_) <;> (try simp only [go_sem] at hc)
   repeat refine zq ?_
   refine zb fun K hK=>?_;simp only [go_sem];(try simp (disch:=omega) only [zI]);repeat first | intro _ | refine ⟨by omega,?_⟩
   refine hK _ ?_;clear hK K;refine zw (zk [4,5,6]) ?_;simp only [go_sem];refine ze ?_;simp only [go_sem]
def mayL (l : List Sp) (least : Int) : Nat → List Int
 | 0=>[]
 | i + 1=>if least ≤ (l.getD i (0,0)).2 then mayL l least i ++ [(i : Int)] else mayL l least i
theorem bestS_spec (l : List Sp) : ∀ i,i ≤ l.length → ∃ b : Nat,bestS l i = b ∧ (0 < i → b < i) ∧ (∀ j,j < i → (l.getD j (0,0)).1 ≤ (l.getD b (0,0)).1) ∧ ∀ j,j < b → (l.getD j (0,0)).1 < (l.getD b (0,0)).1
 | 0,_=>⟨0,rfl,by omega,by omega,by omega⟩
 | i + 1, hi => by
   obtain ⟨b,h1,h2,h3,h4⟩:=bestS_spec l i (by omega)
   simp only [bestS,h1,Int.toNat_natCast]
   split
   · rename_i hlt
     refine ⟨i,rfl,by omega,fun j hj=>?_,fun j hj=>?_⟩
     · by_cases e : j = i
       · subst e; omega
       · have:=h3 j (by omega); omega
     · have:=h3 j hj; omega
   · rename_i hlt
     by_cases hi0 : i = 0
     · subst hi0
       have hb : b = 0:=by
        have : bestS l 0 = 0:=rfl
        omega
       subst hb
       exact ⟨0, rfl, by omega, fun j hj => by have : j = 0 := by omega
                                               subst this; omega,by omega⟩
     · refine ⟨b,rfl,by omega,fun j hj=>?_,h4⟩
       by_cases e : j = i
       · subst e; omega
       · exact h3 j (by omega)
def topF (f : Sp → Int) (l : List Sp) : Int:=l.foldl (fun a x=>max a (f x)) (-1)
end Go.Proofs.Ytlljkgiomkmjbaa.Du

namespace Go.Oc
open Go Go.RowKit
set_option linter.unusedVariables false
set_option linter.unusedSimpArgs false
def xlit (P : Program) (o : Oper) (K : AS → Prop) (s : AS) : Prop :=
 match o.op,o.dst with
 | .buildSlice t n ps,some d=>aR s (some d) (sLitBox P s d t n (ps.toList.map fun (i,x)=>(i,s.ev x))) K
 | _,_=>False
def xappB (P : Program) (o : Oper) (K : AS → Prop) (s : AS) : Prop :=
 match o.op,o.dst with
 | .call ⟨.builtin .append,⟨[x,y]⟩,⟨[t,t']⟩⟩,some d=>aR s (some d) (sAppB P s d t t' (s.ev x) (s.ev y)) K
 | _,_=>False
def xopL (P : Program) (o : Oper) (K : AS → Prop) (s : AS) : Prop:=xop P false o K s ∨ xlit P o K s ∨ xappB P o K s
section
variable {P : Program} {C : Ctx} {s : AS}
end
def stepAllL (P : Program) (ops : Array Oper) (n : Nat) (F : (Nat → Bool) → (Nat → Nat) → List (Nat × AV)) (R : (Nat → Bool) → (Nat → Nat) → List (Nat × RowC)) : Nat → List Oper → Prop
 | _,[]=>True
 | k,o :: rest=>(∀ b vs,(∀ j e,j < ops.size → (deps ops j).contains e = true → b j = true → b e = true) → b k = false → (∀ e ∈ deps ops k,b e = true) →
  xopL P o (FitV n (F (upd b k true)) (R (upd b k true))) (st n (F b vs) vs (R b vs))) ∧ stepAllL P ops n F R (k + 1) rest
section
variable {P : Program} {C : Ctx} {s : AS} {a : Act} {w : World} {ops : Array Oper}
end
end Go.Oc

namespace Go.Proofs.Ytlljkgiomkmjbaa.Du
open Go Go.Oc
set_option linter.unusedSimpArgs false
set_option linter.unusedVariables false
set_option maxRecDepth 8000
set_option maxHeartbeats 4000000
abbrev u8Q (n : Nat) : RV:=.it .u8 (n : Int)
def bedN (v : Nat) : Nat:=if v % 16 = 0 then 0 else 100 * (1 + v % 3) + 1 + v / 3 % 10
def posN (b : Int) : List Bd → Nat
 | []=>0
 | x :: L=>if x.b ≤ b then posN b L + 1 else 0
def seenB (b : Int) (L : List Bd) (k : Nat) : Bool:=(L.take k).any fun x=>x.b == b
def scN (d left : Int) (v : Nat × Nat × Nat) : Bd:=⟨bedN v.1,left * v.2.1 / 512,min d (left * v.2.1 / 512 + ((v.2.2 % 20 : Nat) : Int))⟩
def scS (d : Int) (s : List Bd × Int) (v : Nat × Nat × Nat) : List Bd × Int :=
 if seenB (bedN v.1) s.1 (posN (bedN v.1) s.1) then s
 else (s.1.take (posN (bedN v.1) s.1) ++ [scN d s.2 v] ++ s.1.drop (posN (bedN v.1) s.1),s.2 - s.2 * v.2.1 / 512)
def triK (a : List Nat) (k : Nat) : Nat × Nat × Nat:=(a.getD (3 * k) 0,a.getD (3 * k + 1) 0,a.getD (3 * k + 2) 0)
def scF (d : Int) (a : List Nat) : Nat → List Bd × Int
 | 0=>([],d)
 | k + 1=>scS d (scF d a k) (triK a k)
def headD (d : Int) : List Bd → List Bd
 | []=>[⟨201,0,d⟩]
 | x :: L=>⟨x.b,x.lo,d⟩ :: L
def scA (d : Int) (a : List Nat) : Am:=⟨201,headD d (scF d a 4).1⟩
def scL (d : Int) (as_ : List (List Nat)) : List Am:=if as_.length = 0 then [⟨201,headD d []⟩] else (as_.take 3).map (scA d)
structure ScI (d : Int) (s : List Bd × Int) : Prop where
 left : 0 ≤ s.2 ∧ s.2 ≤ d
 lo : loS s.1 + s.2 = d
 ok : ∀ x ∈ s.1,0 ≤ x.lo ∧ x.lo ≤ x.hi ∧ x.hi ≤ d ∧ (x.b = 0 ∨ bedOk x.b = true)
 asc : s.1.Pairwise fun x y=>x.b < y.b
theorem bedN_ok (v : Nat) : (bedN v : Int) = 0 ∨ bedOk (bedN v) = true:=by
 unfold bedN
 split
 · exact .inl rfl
 · right
   have h1:=Nat.mod_lt v (show 3 > 0 by omega)
   have h2:=Nat.mod_lt (v / 3) (show 10 > 0 by omega)
   generalize v % 3 = x at *
   generalize v / 3 % 10 = y at *
   unfold bedOk
   simp only [Bool.or_eq_true,Bool.and_eq_true,decide_eq_true_eq]
   right
   refine ⟨⟨⟨by omega,by omega⟩,by omega⟩,by omega⟩
theorem pos_split {b : Int} : ∀ {L : List Bd},L.Pairwise (fun x y=>x.b < y.b) → posN b L ≤ L.length ∧ (∀ x ∈ L.take (posN b L),x.b ≤ b) ∧ (∀ x ∈ L.drop (posN b L),b < x.b)
 | [],_=>by simp [posN]
 | x :: L, h => by
   obtain ⟨h1,h2⟩:=List.pairwise_cons.1 h
   obtain ⟨i1,i2,i3⟩:=pos_split (b:=b) h2
   unfold posN
   by_cases c : x.b ≤ b
   · rw [if_pos c]
     refine ⟨by simp; omega,?_,?_⟩
     · intro y hy
       rw [List.take_succ_cons,List.mem_cons] at hy
       rcases hy with rfl | hy
       · exact c
       · exact i2 y hy
     · intro y hy
       rw [List.drop_succ_cons] at hy
       exact i3 y hy
   · rw [if_neg c]
     refine ⟨by simp,by simp,?_⟩
     intro y hy
     rw [List.drop_zero,List.mem_cons] at hy
     rcases hy with rfl | hy
     · omega
     · have:=h1 y hy; omega
theorem loS_app (l m : List Bd) : loS (l ++ m) = loS l + loS m:=by simp [loS]
theorem scS_ok {d : Int} (hd : 0 ≤ d) {s : List Bd × Int} (h : ScI d s) (v : Nat × Nat × Nat) (hv : v.2.1 < 256) : ScI d (scS d s v):=by
 obtain ⟨h1,h2,h3,h4⟩:=h
 obtain ⟨p1,p2,p3⟩:=pos_split (b:=bedN v.1) h4
 unfold scS
 split
 · exact ⟨h1,h2,h3,h4⟩
 · rename_i hs
   have hne : ∀ x ∈ s.1.take (posN (bedN v.1) s.1),x.b < bedN v.1:=fun x hx=>by
    have:=p2 x hx
    by_cases e : x.b = bedN v.1
    · exfalso
      apply hs
      unfold seenB
      rw [List.any_eq_true]
      exact ⟨x,hx,by simp [e]⟩
    · omega
   have c1:=Int.mul_nonneg h1.1 (show (0 : Int) ≤ v.2.1 by omega)
   have c2 : s.2 * (v.2.1 : Int) ≤ s.2 * 255:=Int.mul_le_mul_of_nonneg_left (by omega) h1.1
   have c3 : 0 ≤ s.2 * (v.2.1 : Int) / 512 ∧ s.2 * (v.2.1 : Int) / 512 ≤ s.2:=⟨by omega,by omega⟩
   have hsplit:=List.take_append_drop (posN (bedN v.1) s.1) s.1
   refine ⟨⟨by simp only; omega,by simp only; omega⟩,?_,?_,?_⟩
   · have e1 : loS (s.1.take (posN (bedN v.1) s.1)) + loS (s.1.drop (posN (bedN v.1) s.1)) = loS s.1:=by rw [← loS_app,hsplit]
     have e2 : loS [scN d s.2 v] = s.2 * (v.2.1 : Int) / 512:=by simp [loS,scN]
     simp only [loS_app,e2]
     omega
   · intro x hx
     simp only [List.mem_append,List.mem_singleton] at hx
     rcases hx with (hx | rfl) | hx
     · exact h3 x (List.mem_of_mem_take hx)
     · have:=bedN_ok v.1
       simp only [scN];exact ⟨c3.1,by omega,by omega,this⟩
     · exact h3 x (List.mem_of_mem_drop hx)
   · have hp4 : (s.1.take (posN (bedN v.1) s.1) ++ s.1.drop (posN (bedN v.1) s.1)).Pairwise fun x y=>x.b < y.b:=by rw [hsplit]; exact h4
     obtain ⟨q1,q2,q3⟩:=List.pairwise_append.1 hp4
     simp only [List.append_assoc];rw [List.pairwise_append]
     refine ⟨q1,?_,?_⟩
     · rw [List.singleton_append,List.pairwise_cons]
       exact ⟨fun y hy=>p3 y hy,q2⟩
     · intro x hx y hy
       rw [List.singleton_append,List.mem_cons] at hy
       rcases hy with rfl | hy
       · exact hne x hx
       · have:=hne x hx; have:=p3 y hy; omega
theorem scF_ok {d : Int} (hd : 0 ≤ d) {a : List Nat} (ha : ∀ n ∈ a,n < 256) : ∀ k,ScI d (scF d a k)
 | 0=>⟨⟨hd,Int.le_refl _⟩,by simp [scF,loS],by simp [scF],by simp [scF]⟩
 | k + 1 => scS_ok hd (scF_ok hd ha k) _ (by
   show a.getD (3 * k + 1) 0 < 256
   rw [List.getD_eq_getElem?_getD]
   cases e : a[3 * k + 1]? with
   | none=>simp
   | some x=>exact ha x (List.mem_of_getElem? e))
theorem scF_len {d : Int} (a : List Nat) : ∀ k,(scF d a k).1.length ≤ k
 | 0=>by simp [scF]
 | k + 1 => by
   have ih:=scF_len (d:=d) a k
   simp only [scF,scS]
   split
   · omega
   · simp only [List.length_append,List.length_cons,List.length_nil,List.length_take,List.length_drop]; omega
theorem seq_of : ∀ {L : List Bd} {p : Option Int},(∀ x ∈ L,x.b = 0 ∨ bedOk x.b = true) → L.Pairwise (fun x y=>x.b < y.b) → (∀ q,p = some q → ∀ x ∈ L,q < x.b) → seqOk p L = true
 | [],_,_,_,_=>rfl
 | x :: L, p, hb, hp, hq => by
   obtain ⟨h1,h2⟩:=List.pairwise_cons.1 hp
   have ih:=seq_of (L:=L) (p:=some x.b) (fun y hy=>hb y (List.mem_cons_of_mem x hy)) h2 fun q e y hy=>by
    injection e with e
    subst e
    exact h1 y hy
   unfold seqOk
   rw [ih,Bool.and_true,Bool.and_eq_true]
   refine ⟨?_,?_⟩
   · rcases hb x (by simp) with h | h
     · simp [h]
     · simp [h]
   · cases p with
     | none=>rfl
     | some q=>simpa using hq q rfl x (by simp)
theorem hiS_nn : ∀ {L : List Bd},(∀ x ∈ L,0 ≤ x.hi) → 0 ≤ hiS L
 | [],_=>by simp [hiS]
 | x :: L, h => by
   have ih:=hiS_nn (L:=L) fun y hy=>h y (List.mem_cons_of_mem x hy)
   have:=h x (by simp)
   have e : hiS (x :: L) = x.hi + hiS L:=by simp [hiS]
   omega
theorem head_ok {d : Int} (hd : 4 ≤ d ∧ d ≤ 63) {s : List Bd × Int} (h : ScI d s) : aimOk d ⟨201,headD d s.1⟩ = true:=by
 obtain ⟨h1,h2,h3,h4⟩:=h
 obtain ⟨L,left⟩:=s
 simp only at h1 h2 h3 h4 ⊢
 unfold aimOk
 simp only [Bool.and_eq_true,decide_eq_true_eq]
 cases L with
 | nil =>
   refine ⟨⟨⟨⟨⟨rfl,rfl⟩,rfl⟩,?_⟩,?_⟩,?_⟩
   · simp [headD,chOk]; omega
   · simp [headD,loS]; omega
   · simp [headD,hiS]
 | cons x L =>
   have hx:=h3 x (by simp)
   have hL : ∀ y ∈ L,0 ≤ y.lo ∧ y.lo ≤ y.hi ∧ y.hi ≤ d ∧ (y.b = 0 ∨ bedOk y.b = true):=fun y hy=>h3 y (List.mem_cons_of_mem x hy)
   have hn:=hiS_nn (L:=L) fun y hy=>by have:=hL y hy; omega
   have e1 : loS (x :: L) = x.lo + loS L:=by simp [loS]
   refine ⟨⟨⟨⟨⟨rfl,rfl⟩,?_⟩,?_⟩,?_⟩,?_⟩
   · refine seq_of (fun y hy=>?_) ?_ (fun q e=>by cases e)
     · simp only [headD,List.mem_cons] at hy
       rcases hy with rfl | hy
       · exact hx.2.2.2
       · exact (hL y hy).2.2.2
     · obtain ⟨q1,q2⟩:=List.pairwise_cons.1 h4
       exact List.pairwise_cons.2 ⟨fun y hy=>q1 y hy,q2⟩
   · unfold chOk
     rw [List.all_eq_true]
     intro y hy
     simp only [headD,List.mem_cons] at hy
     simp only [Bool.and_eq_true,decide_eq_true_eq]
     rcases hy with rfl | hy
     · simp only; omega
     · have:=hL y hy; omega
   · have e2 : loS (headD d (x :: L)) = x.lo + loS L:=by simp [headD,loS]
     omega
   · have e2 : hiS (headD d (x :: L)) = d + hiS L:=by simp [headD,hiS]
     omega
theorem headD_len (d : Int) (L : List Bd) : (headD d L).length ≤ max 1 L.length:=by cases L <;> simp [headD]
theorem scL_all {d : Int} (hd : 4 ≤ d ∧ d ≤ 63) {A : List (List Nat)} (hA : ∀ a ∈ A,∀ n ∈ a,n < 256) : ∀ x ∈ scL d A,aimOk d x = true ∧ x.beds.length ≤ 4:=fun x hx=>by
 unfold scL at hx
 split at hx
 · rw [List.mem_singleton] at hx
   subst hx
   exact ⟨head_ok hd (s:=([],d)) ⟨⟨by omega,by omega⟩,by simp [loS],by simp,by simp⟩,by simp [headD]⟩
 · obtain ⟨a,ha,rfl⟩:=List.mem_map.1 hx
   have h:=scF_ok (d:=d) (by omega) (hA a (List.mem_of_mem_take ha)) 4
   have hl:=scF_len (d:=d) a 4
   have h2:=headD_len d (scF d a 4).1
   exact ⟨head_ok hd h,by simp only [scA]; omega⟩
theorem scL_len (d : Int) (A : List (List Nat)) : 1 ≤ (scL d A).length ∧ (scL d A).length ≤ 3:=by
 unfold scL
 split
 · simp
 · simp only [List.length_map,List.length_take]; omega
theorem scL_ok {d : Int} (hd : 4 ≤ d ∧ d ≤ 63) {A : List (List Nat)} (hA : ∀ a ∈ A,∀ n ∈ a,n < 256) : checkV d (scL d A) = 0:=by
 have h:=scL_all hd hA
 have hl:=scL_len d A
 unfold checkV
 rw [if_neg,if_neg,if_pos]
 · rw [List.all_eq_true]; exact fun x hx=>(h x hx).1
 · intro hc
   simp only [Bool.or_eq_true,Bool.not_eq_true',Bool.and_eq_false_iff,decide_eq_false_iff_not,List.isEmpty_iff] at hc
   rcases hc with hc | hc | hc
   · rw [hc] at hl; simp at hl
   · omega
   · omega
 · intro hc
   simp only [Bool.or_eq_true,decide_eq_true_eq,List.any_eq_true] at hc
   rcases hc with hc | ⟨x,hx,hc⟩
   · omega
   · have:=(h x hx).2; omega
set_option maxHeartbeats 4000000
theorem span_mk (a b : Int) : ACalls Try.prog 10 [i64 a,i64 b] (.ag [i64 a,i64 b]):=by
 refine acalls_st (rs:=[.ag [i64 a,i64 b]]) [.cell 4 30] Try.func10 rfl (by kernel_rfl) Try.ntmps10 rfl (by simp) rfl fun C vs=>?_
 repeat refine zq ?_
 refine zb fun K hK=>?_;simp only [go_sem];(try simp (disch:=omega) only [zI]);repeat first | intro _ | refine ⟨by omega,?_⟩
 refine hK _ ?_;clear hK K;refine zw (zk [0,1,4]) ?_;simp only [go_sem]
 repeat refine zq ?_
 refine zb fun K hK=>?_;simp only [go_sem];(try simp (disch:=omega) only [zI]);repeat first | intro _ | refine ⟨by omega,?_⟩
 refine hK _ ?_;clear hK K;refine zw (zk [4]) ?_;simp only [go_sem];refine ze ?_;simp only [go_sem]
theorem pos_at {b : Int} : ∀ {L : List Bd} {j : Nat},j < posN b L → ∃ x,L[j]? = some x ∧ x.b ≤ b
 | [],j,h=>by simp [posN] at h
 | x :: L, j, h => by
   unfold posN at h
   by_cases c : x.b ≤ b
   · rw [if_pos c] at h
     cases j with
     | zero=>exact ⟨x,rfl,c⟩
     | succ j =>
       obtain ⟨y,hy,hyb⟩:=pos_at (b:=b) (L:=L) (j:=j) (by omega)
       exact ⟨y,by simpa using hy,hyb⟩
   · rw [if_neg c] at h; omega
theorem pos_end {b : Int} : ∀ {L : List Bd},posN b L = L.length ∨ ∃ x,L[posN b L]? = some x ∧ b < x.b
 | []=>.inl rfl
 | x :: L => by
   unfold posN
   by_cases c : x.b ≤ b
   · rw [if_pos c]
     rcases pos_end (b:=b) (L:=L) with h | ⟨y,hy,hyb⟩
     · left; simp [h]
     · right; exact ⟨y,by simpa using hy,hyb⟩
   · rw [if_neg c]
     right; exact ⟨x,rfl,by omega⟩
theorem pos_le {b : Int} : ∀ {L : List Bd},posN b L ≤ L.length
 | []=>Nat.le_refl _
 | x :: L=>by unfold posN; split <;> simp; exact pos_le
theorem seen_step {b : Int} {L : List Bd} {j : Nat} {x : Bd} (h : L[j]? = some x) : seenB b L (j + 1) = (seenB b L j || x.b == b):=by
 unfold seenB; rw [take_of_opt h]; simp
def aimJ (d : Int) (A : List (List Nat)) (j : Nat) : Am:=if A.length = 0 then ⟨201,headD d []⟩ else scA d (A.getD j [])
def aimsJ (d : Int) (A : List (List Nat)) (i : Nat) : List Am:=(List.range i).map (aimJ d A)
theorem aimsJ_all (d : Int) (A : List (List Nat)) : aimsJ d A (if A.length = 0 then 1 else min 3 A.length) = scL d A:=by
 unfold aimsJ scL
 by_cases h : A.length = 0
 · rw [if_pos h,if_pos h]; simp [aimJ,h]
 · rw [if_neg h,if_neg h]
   refine List.ext_getElem? fun i=>?_
   rw [List.getElem?_map,List.getElem?_map]
   by_cases hi : i < min 3 A.length
   · rw [List.getElem?_range hi,List.getElem?_take,if_pos (by omega),List.getElem?_eq_getElem (by omega)]
     simp [aimJ,h,List.getD_eq_getElem?_getD,List.getElem?_eq_getElem (show i < A.length by omega)]
   · rw [List.getElem?_eq_none (by simp; omega),List.getElem?_take]
     split
     · rw [List.getElem?_eq_none (by omega)]; rfl
     · rfl
theorem fitV_subS {n : Nat} {F : (Nat → Nat) → List (Nat × AV)} {R : (Nat → Nat) → List (Nat × RowC)} {s s' : AS} (h : Sub s s') (hf : FitV n F R s') : FitV n F R s:=by
 obtain ⟨vs,hs⟩:=hf
 exact ⟨vs,fun C a w hw=>hs C a w (h C a w hw)⟩
def vI (b : Nat → Bool) (j : Nat) (v : AV) : AV:=if b j then v else .r .un
def sgF (A0 : RV) (i k P n : Nat) (lf lo hi bd : Int) (M : List (List RV)) (b : Nat → Bool) (vs : Nat → Nat) : List (Nat × AV) :=
 [(1,.r A0),(4,.pt 4 (vs 4) 0),(5,.pt 5 (vs 5) 0),(6,.r (i64 (i : Int))),(7,.pt 7 (vs 7) 0),(8,.r (i64 (bif b 19 then lf - lo else lf))),(9,.r (i64 (k : Int))),(11,.r (i64 (P : Int))),(14,.r (i64 lo)),(15,.r (.rp [i64 bd,i64 lo,i64 hi])),
  (119,vI b 0 (.r .ns)),
  (120,vI b 1 (.pt 7 (vs 7) 1)),
  (121,vI b 2 (.r (.sl 3 M))),
  (122,vI b 3 (.r (i64 (P : Int)))),
  (123,vI b 4 (.r (.sl 3 (M.take P)))),
  (124,vI b 5 (bif b 8 then .r .un else .os 124 (vs 124) 3 0 P)),
  (125,vI b 6 (.r (.ag [i64 bd,i64 lo,i64 hi]))),
  (126,vI b 7 (.r (.sl 3 [[i64 bd,i64 lo,i64 hi]]))),
  (127,vI b 8 (bif b 13 then .r .un else .os 124 (vs 124) 3 0 (P + 1))),
  (128,vI b 9 (.pt 7 (vs 7) 1)),
  (129,vI b 10 (.r (.sl 3 M))),
  (130,vI b 11 (.r (i64 (P : Int)))),
  (131,vI b 12 (.r (.sl 3 (M.drop P)))),
  (132,vI b 13 (.os 124 (vs 124) 3 0 (P + 1 + (n - P)))),
  (133,vI b 14 (.r (i64 lf))),
  (134,vI b 15 (.r (i64 lo))),
  (135,vI b 16 (.r (i64 (lf - lo)))),
  (136,vI b 17 (.pt 7 (vs 7) 1))]
def sgR (D i P n : Nat) (lo hi bd : Int) (M : List (List RV)) (JR : List (List RV)) (b : Nat → Bool) (vs : Nat → Nat) : List (Nat × RowC) :=
 [(4,.box [.r (i64 0),.r .ns]),(5,.box [.r (i64 (D : Int)),.os 155 (vs 155) 2 0 i]),(7,.box [.r (i64 201),bif b 18 then .os 124 (vs 124) 3 0 (P + 1 + (n - P)) else .r (.sl 3 M)])] ++
  ((bif b 5 then [(124,.arr 83 3 (bif b 8 then (bif b 13 then M.take P ++ ([i64 bd,i64 lo,i64 hi] :: M.drop P) else M.take P ++ [[i64 bd,i64 lo,i64 hi]]) else M.take P))] else []) ++ [(155,.arr 81 2 JR)])
theorem scatter_ok (den : Nat) (hd : den < 256) (A : List (List Nat)) (hA : ∀ a ∈ A,a.length = 12 ∧ ∀ n ∈ a,n < 256) :
 ACalls Try.prog 9 [u8Q den,.sl 12 (A.map fun a=>a.map u8Q)] (lawV ((4 + den % 60 : Nat) : Int) (scL ((4 + den % 60 : Nat) : Int) A)):=by
 have hmod:=Nat.mod_lt den (show 60 > 0 by omega)
 have k1 : IntKind.i64.wrap (den : Int) = den:=by rw [zI] <;> omega
 have k2 : Int.tmod (den : Int) 60 = ((den % 60 : Nat) : Int):=rfl
 have k3 : IntKind.i64.wrap (4 + ((den % 60 : Nat) : Int)) = ((4 + den % 60 : Nat) : Int):=by rw [zI] <;> omega
 generalize hD : 4 + den % 60 = D at *
 have hD64 : 4 ≤ D ∧ D < 64:=by omega
 refine acalls_st (rs:=[lawV (D : Int) (scL (D : Int) A)]) [.cell 4 26] Try.func9 rfl (by kernel_rfl) Try.ntmps9 rfl (by simp) rfl fun C vs=>?_
 repeat refine zq ?_
 refine zb fun K hK=>?_;simp only [go_sem];(try simp (disch:=omega) only [zI]);repeat first | intro _ | refine ⟨by omega,?_⟩
 refine hK _ ?_;clear hK K;refine zw (zk [0,1,4]) ?_;simp only [go_sem]
 repeat refine zq ?_
 refine zb fun K hK=>?_;simp only [go_sem,k1,k2,k3];(try simp (disch:=omega) only [zI]);repeat first | intro _ | refine ⟨by omega,?_⟩
 refine hK _ ?_;clear hK K;refine zw (sub_ownB 5 1 155 81 2 (by omega) (by omega) rfl (by simp only [go_sem,List.getElem?_cons_succ,List.getElem?_cons_zero])) ?_;refine zw (zk [1,4,5]) ?_;simp only [go_sem]
 repeat refine zq ?_
 refine zb fun K hK=>?_;simp only [go_sem];(try simp (disch:=omega) only [zI]);repeat first | intro _ | refine ⟨by omega,?_⟩
 refine hK _ ?_;clear hK K;refine zw (zk [1,4,5,6]) ?_;simp only [go_sem]
 obtain ⟨N,hN⟩ : ∃ N,N = if A.length = 0 then 1 else min 3 A.length:=⟨_,rfl⟩
 have hN3 : N ≤ 3:=by rw [hN]; split <;> omega
 have hall:=aimsJ_all (D : Int) A
 rw [← hN] at hall
 repeat refine zq ?_
 refine zd ?_
 refine awp_uptoV (n:=158) N (fun i vs=>[(1,.r (.sl 12 (A.map fun a=>a.map u8Q))),(4,.pt 4 (vs 4) 0),(5,.pt 5 (vs 5) 0),(6,.r (i64 (i : Int)))])
  (fun i vs=>[(4,.box [.r (i64 0),.r .ns]),(5,.box [.r (i64 (D : Int)),.os 155 (vs 155) 2 0 i]),(155,.arr 81 2 ((aimsJ (D : Int) A i).map aimR))]) (fun _=>True) 0 (zj [] ?_ ?_) (Nat.zero_le _) trivial ?_
 · try simp only [go_sem]
   try rfl
 · try simp only [go_sem]
   try rfl
 · intro i vs hi _
   by_cases hin : i < N
   · have hrec : aimsJ (D : Int) A (i + 1) = aimsJ (D : Int) A i ++ [aimJ (D : Int) A i]:=by simp [aimsJ,List.range_succ]
     have hjl : (aimsJ (D : Int) A i).length = i:=by simp [aimsJ]
     rw [hrec]
     generalize aimsJ (D : Int) A i = J at *
     repeat refine zq ?_
     refine awp_joinV (n:=158) (fun (_ : Unit) vs=>[(1,.r (.sl 12 (A.map fun a=>a.map u8Q))),(4,.pt 4 (vs 4) 0),(5,.pt 5 (vs 5) 0),(6,.r (i64 (i : Int))),(32,.r (.bo true))])
      (fun _ vs=>[(4,.box [.r (i64 0),.r .ns]),(5,.box [.r (i64 (D : Int)),.os 155 (vs 155) 2 0 i]),(155,.arr 81 2 (J.map aimR))]) (fun _=>True) (fun _ h=>h) ?_ ?_
     · by_cases hi0 : i = 0
       · subst hi0
         repeat refine zq ?_
         refine zb fun K hK=>?_;simp only [go_sem,beq_self_eq_true];(try simp (disch:=omega) only [zI]);repeat first | intro _ | refine ⟨by omega,?_⟩
         refine hK _ ?_;clear hK K
         try simp only [go_sem]
         refine ⟨(),zj [] ?_ ?_⟩
         · try simp only [go_sem]
         · try simp only [go_sem]
       · have q0 : ((i : Int) == 0) = false:=by rw [beq_eq_false_iff_ne]; omega
         have q0' : (i == 0) = false:=by rw [beq_eq_false_iff_ne]; omega
         have q1 : i < A.length:=by
          rw [hN] at hin
          split at hin <;> omega
         have q2 : decide ((i : Int) < 3) = true:=decide_eq_true (by rw [hN] at hin; split at hin <;> omega)
         repeat refine zq ?_
         refine zb fun K hK=>?_;simp only [go_sem,q0,q0',q1,q2,List.length_map];(try simp (disch:=omega) only [zI]);repeat first | intro _ | refine ⟨by omega,?_⟩
         repeat first | intro _ | refine ⟨by omega,?_⟩
         refine hK _ ?_;clear hK K
         try simp only [go_sem]
         refine ⟨(),zj [] ?_ ?_⟩
         · try simp only [go_sem]
         · try simp only [go_sem]
     intro _ vs _
     repeat refine zq ?_
     refine zc rfl (fun hc=>?_) (fun hc=>?_) <;> (try simp only [go_sem] at hc)
     refine zx ?_
     try simp only [go_sem]
     repeat refine zq ?_
     refine zd ?_
     repeat refine zq ?_
     refine awp_dreg2 [(5,some 5)] follows (by decide +kernel) (by kernel_rfl) (by simp only [keysOk,List.mem_cons,List.not_mem_nil,forall_eq_or_imp,Oc.keyOf,go_sem]; simp) fun K hK=>?_
     simp only [go_sem];(try simp (disch:=omega) only [zI]);repeat first | intro _ | refine ⟨by omega,?_⟩
     repeat first | intro _ | refine ⟨by omega,?_⟩
     refine hK _ ?_;clear hK K;refine zw (sub_ownB 7 1 124 83 3 (by omega) (by omega) rfl (by simp only [go_sem,List.getElem?_cons_succ,List.getElem?_cons_zero])) ?_;refine zw (zk [1,4,5,6,7,8]) ?_;simp only [go_sem]
     repeat refine zq ?_
     refine zb fun K hK=>?_;simp only [go_sem];(try simp (disch:=omega) only [zI]);repeat first | intro _ | refine ⟨by omega,?_⟩
     refine hK _ ?_;clear hK K;refine zw (zk [1,4,5,6,7,8,9]) ?_;simp only [go_sem]
     obtain ⟨a,ha⟩ : ∃ a : List Nat,a = A.getD i []:=⟨_,rfl⟩
     obtain ⟨Kn,hK⟩ : ∃ Kn : Nat,Kn = if A.length = 0 then 0 else 4:=⟨_,rfl⟩
     have haj : aimJ (D : Int) A i = ⟨201,headD (D : Int) (scF (D : Int) a Kn).1⟩:=by
      unfold aimJ
      by_cases h : A.length = 0
      · rw [if_pos h,hK,if_pos h]; rfl
      · rw [if_neg h,hK,if_neg h,ha]; rfl
     have hab : A.length ≠ 0 → i < A.length ∧ A[i]? = some a ∧ a.length = 12 ∧ ∀ n ∈ a,n < 256:=fun h=>by
      have hil : i < A.length:=by rw [hN] at hin; split at hin <;> omega
      obtain ⟨y,hy⟩:=opt_of_lt hil
      have : a = y:=by rw [ha,List.getD_eq_getElem?_getD,hy]; rfl
      subst this
      obtain ⟨z1,z2⟩:=hA a (mem_of_opt hy)
      exact ⟨hil,hy,z1,z2⟩
     have hK4 : Kn ≤ 4:=by rw [hK]; split <;> omega
     have hI : ∀ k,k ≤ Kn → ScI (D : Int) (scF (D : Int) a k):=fun k hk=>by
      by_cases h : A.length = 0
      · rw [hK,if_pos h] at hk
        have : k = 0:=by omega
        subst this
        exact scF_ok (by omega) (a:=[]) (by simp) 0
      · exact scF_ok (by omega) (hab h).2.2.2 k
     have hlen:=scF_len (d:=(D : Int)) a
     rw [haj]
     repeat refine zq ?_
     refine awp_joinV (n:=158) (fun (_ : Unit) vs=>[(1,.r (.sl 12 (A.map fun a=>a.map u8Q))),(4,.pt 4 (vs 4) 0),(5,.pt 5 (vs 5) 0),(6,.r (i64 (i : Int))),(7,.pt 7 (vs 7) 0)])
      (fun _ vs=>[(4,.box [.r (i64 0),.r .ns]),(5,.box [.r (i64 (D : Int)),.os 155 (vs 155) 2 0 i]),(7,.box [.r (i64 201),.os 124 (vs 124) 3 0 (scF (D : Int) a Kn).1.length]),(124,.arr 83 3 ((scF (D : Int) a Kn).1.map bedR)),(155,.arr 81 2 (J.map aimR))]) (fun _=>True) (fun _ h=>h) ?_ ?_
     · generalize J.map aimR = JR at *
       repeat refine zq ?_
       refine zd ?_
       refine awp_uptoV (n:=158) Kn (fun k vs=>[(1,.r (.sl 12 (A.map fun a=>a.map u8Q))),(4,.pt 4 (vs 4) 0),(5,.pt 5 (vs 5) 0),(6,.r (i64 (i : Int))),(7,.pt 7 (vs 7) 0),(8,.r (i64 (scF (D : Int) a k).2)),(9,.r (i64 (k : Int)))])
        (fun k vs=>[(4,.box [.r (i64 0),.r .ns]),(5,.box [.r (i64 (D : Int)),.os 155 (vs 155) 2 0 i]),(7,.box [.r (i64 201),.os 124 (vs 124) 3 0 (scF (D : Int) a k).1.length]),(124,.arr 83 3 ((scF (D : Int) a k).1.map bedR)),(155,.arr 81 2 JR)]) (fun _=>True) 0 (zj [] ?_ ?_) (Nat.zero_le _) trivial ?_
       · try simp only [go_sem]
         try rfl
       · try simp only [go_sem]
         try rfl
       · intro k vs hk _
         by_cases hkn : k < Kn
         · have hA0 : A.length ≠ 0:=fun h=>by rw [hK,if_pos h] at hkn; omega
           obtain ⟨hil,hai,ha12,ha256⟩:=hab hA0
           have hk4 : k < 4:=by omega
           have g1 : decide ((k : Int) < 4) = true:=decide_eq_true (by omega)
           have hIk:=hI k (by omega)
           have hlk:=hlen k
           have hsF : scF (D : Int) a (k + 1) = scS (D : Int) (scF (D : Int) a k) (triK a k):=rfl
           rw [hsF]
           obtain ⟨x0,hx0⟩:=opt_of_lt (l:=a) (i:=3 * k) (by omega)
           obtain ⟨x1,hx1⟩:=opt_of_lt (l:=a) (i:=3 * k + 1) (by omega)
           obtain ⟨x2,hx2⟩:=opt_of_lt (l:=a) (i:=3 * k + 2) (by omega)
           have htri : triK a k = (x0,x1,x2):=by
            unfold triK
            rw [List.getD_eq_getElem?_getD,List.getD_eq_getElem?_getD,List.getD_eq_getElem?_getD,hx0,hx1,hx2]; rfl
           have b0:=ha256 x0 (mem_of_opt hx0)
           have b1:=ha256 x1 (mem_of_opt hx1)
           have b2:=ha256 x2 (mem_of_opt hx2)
           have hcell : List.take 3 (List.drop (k * 3) (a.map u8Q)) = [u8Q x0,u8Q x1,u8Q x2]:=by
            rw [Nat.mul_comm k 3,drop_of_opt (l:=a.map u8Q) (i:=3 * k) (x:=u8Q x0) (by rw [List.getElem?_map,hx0]; rfl),
             drop_of_opt (l:=a.map u8Q) (i:=3 * k + 1) (x:=u8Q x1) (by rw [List.getElem?_map,hx1]; rfl),drop_of_opt (l:=a.map u8Q) (i:=3 * k + 1 + 1) (x:=u8Q x2) (by rw [List.getElem?_map,hx2]; rfl)]
            rfl
           rw [htri]
           generalize scF (D : Int) a k = S at *
           obtain ⟨L,lf⟩:=S
           simp only at hlk hIk ⊢
           repeat refine zq ?_
           refine zb fun K hK=>?_;simp only [go_sem,g1,hil,List.length_map];(try simp (disch:=omega) only [zI]);repeat first | intro _ | refine ⟨by omega,?_⟩
           repeat first | intro _ | refine ⟨by omega,?_⟩
           refine hK _ ?_;clear hK K;refine zw (zk [1,4,5,6,7,8,9,45]) ?_;simp only [go_sem]
           repeat refine zq ?_
           refine zc rfl (fun hc=>?_) (fun hc=>?_) <;> (try simp only [go_sem] at hc)
           refine zx ?_
           try simp only [go_sem]
           repeat refine zq ?_
           refine zd ?_
           repeat refine zq ?_
           refine zb fun K hK=>?_;simp only [go_sem,hai,hil,hcell,ha12,List.length_map];(try simp (disch:=omega) only [zI]);repeat first | intro _ | refine ⟨by omega,?_⟩
           repeat first | intro _ | refine ⟨by omega,?_⟩
           refine hK _ ?_;clear hK K;refine zw (sub_frzP 10 10 [u8Q x0,u8Q x1,u8Q x2] (by omega) rfl rfl) ?_;refine zw (zk [1,4,5,6,7,8,9,10,11,12]) ?_;simp only [go_sem]
           have e1 : IntKind.i64.wrap (x0 : Int) = x0:=by rw [zI] <;> omega
           have e2 : Int.tmod (x0 : Int) 3 = ((x0 % 3 : Nat) : Int):=rfl
           have n3:=Nat.mod_lt x0 (show 3 > 0 by omega)
           have n10:=Nat.mod_lt (x0 / 3) (show 10 > 0 by omega)
           have e3 : IntKind.i64.wrap (1 + ((x0 % 3 : Nat) : Int)) = ((1 + x0 % 3 : Nat) : Int):=by rw [zI] <;> omega
           have e4 : IntKind.i64.wrap (100 * ((1 + x0 % 3 : Nat) : Int)) = ((100 * (1 + x0 % 3) : Nat) : Int):=by rw [zI] <;> omega
           have e5 : IntKind.i64.wrap (((100 * (1 + x0 % 3) : Nat) : Int) + 1) = ((100 * (1 + x0 % 3) + 1 : Nat) : Int):=by rw [zI] <;> omega
           have e6 : Int.tdiv (x0 : Int) 3 = ((x0 / 3 : Nat) : Int):=rfl
           have e6w : IntKind.i64.wrap ((x0 / 3 : Nat) : Int) = ((x0 / 3 : Nat) : Int):=by rw [zI] <;> omega
           have e7 : Int.tmod ((x0 / 3 : Nat) : Int) 10 = ((x0 / 3 % 10 : Nat) : Int):=rfl
           have e8 : IntKind.i64.wrap (((100 * (1 + x0 % 3) + 1 : Nat) : Int) + ((x0 / 3 % 10 : Nat) : Int)) = ((100 * (1 + x0 % 3) + 1 + x0 / 3 % 10 : Nat) : Int):=by rw [zI] <;> omega
           have e9 : Int.tmod (x0 : Int) 16 = ((x0 % 16 : Nat) : Int):=rfl
           have n16:=Nat.mod_lt x0 (show 16 > 0 by omega)
           have e10 : IntKind.u8.wrap ((x0 % 16 : Nat) : Int) = ((x0 % 16 : Nat) : Int):=by
            have : ∀ q : Nat,q < 16 → IntKind.u8.wrap (q : Int) = (q : Int):=by decide
            exact this _ n16
           repeat refine zq ?_
           refine zb fun K hK=>?_;simp only [go_sem,e1,e2,e3,e4,e5,e6,e6w,e7,e8];(try simp (disch:=omega) only [zI]);repeat first | intro _ | refine ⟨by omega,?_⟩
           repeat first | intro _ | refine ⟨by omega,?_⟩
           refine hK _ ?_;clear hK K;refine zw (zk [1,4,5,6,7,8,9,10,11,12,13]) ?_;simp only [go_sem]
           obtain ⟨bd,hbd⟩ : ∃ bd : Nat,bd = bedN x0:=⟨_,rfl⟩
           have hbd0 : bd = if x0 % 16 = 0 then 0 else 100 * (1 + x0 % 3) + 1 + x0 / 3 % 10:=by rw [hbd]; rfl
           have hbl : bd < 500:=by rw [hbd0]; split <;> omega
           repeat refine zq ?_
           refine zb fun K hK=>?_;simp only [go_sem,e9,e10];(try simp (disch:=omega) only [zI]);repeat first | intro _ | refine ⟨by omega,?_⟩
           repeat first | intro _ | refine ⟨by omega,?_⟩
           refine hK _ ?_;clear hK K;refine zw (zk [1,4,5,6,7,8,9,10,11,12,13,70]) ?_;simp only [go_sem]
           repeat refine zq ?_
           refine awp_joinV (n:=158) (fun (_ : Unit) vs=>[(1,.r (.sl 12 (A.map fun a=>a.map u8Q))),(4,.pt 4 (vs 4) 0),(5,.pt 5 (vs 5) 0),(6,.r (i64 (i : Int))),(7,.pt 7 (vs 7) 0),(8,.r (i64 lf)),(9,.r (i64 (k : Int))),(10,.r (.rp [u8Q x0,u8Q x1,u8Q x2])),(11,.r (i64 0)),(12,.r (.bo false)),(13,.r (i64 (bd : Int)))])
            (fun _ vs=>[(4,.box [.r (i64 0),.r .ns]),(5,.box [.r (i64 (D : Int)),.os 155 (vs 155) 2 0 i]),(7,.box [.r (i64 201),.os 124 (vs 124) 3 0 L.length]),(124,.arr 83 3 (L.map bedR)),(155,.arr 81 2 JR)]) (fun _=>True) (fun _ h=>h) ?_ ?_
           · by_cases h16 : x0 % 16 = 0
             · have z1 : (((x0 % 16 : Nat) : Int) == 0) = true:=by rw [h16]; rfl
               try rw [z1]
               rw [hbd0,if_pos h16]
               repeat refine zq ?_
               refine zc rfl (fun hc=>?_) (fun hc=>?_) <;> (try simp only [go_sem] at hc)
               repeat refine zq ?_
               refine zb fun K hK=>?_;simp only [go_sem];(try simp (disch:=omega) only [zI]);repeat first | intro _ | refine ⟨by omega,?_⟩
               refine hK _ ?_;clear hK K
               try simp only [go_sem]
               refine ⟨(),zj [] ?_ ?_⟩
               · try simp only [go_sem]
                 try rfl
               · try simp only [go_sem]
             · have z1 : (((x0 % 16 : Nat) : Int) == 0) = false:=by rw [beq_eq_false_iff_ne]; omega
               try rw [z1]
               rw [hbd0,if_neg h16]
               repeat refine zq ?_
               refine zc rfl (fun hc=>?_) (fun hc=>?_) <;> (try simp only [go_sem] at hc)
               refine zx ?_
               try simp only [go_sem]
               refine ⟨(),zj [] ?_ ?_⟩
               · try simp only [go_sem]
                 try rfl
               · try simp only [go_sem]
           intro _ vs _
           repeat refine zq ?_
           refine awp_joinV (n:=158) (fun (_ : Unit) vs=>[(1,.r (.sl 12 (A.map fun a=>a.map u8Q))),(4,.pt 4 (vs 4) 0),(5,.pt 5 (vs 5) 0),(6,.r (i64 (i : Int))),(7,.pt 7 (vs 7) 0),(8,.r (i64 lf)),(9,.r (i64 (k : Int))),(10,.r (.rp [u8Q x0,u8Q x1,u8Q x2])),(11,.r (i64 (posN bd L : Int))),(12,.r (.bo (seenB bd L (posN bd L)))),(13,.r (i64 (bd : Int)))])
            (fun _ vs=>[(4,.box [.r (i64 0),.r .ns]),(5,.box [.r (i64 (D : Int)),.os 155 (vs 155) 2 0 i]),(7,.box [.r (i64 201),.os 124 (vs 124) 3 0 L.length]),(124,.arr 83 3 (L.map bedR)),(155,.arr 81 2 JR)]) (fun _=>True) (fun _ h=>h) ?_ ?_
           · repeat refine zq ?_
             refine zd ?_
             refine awp_uptoV (n:=158) (posN bd L) (fun j vs=>[(1,.r (.sl 12 (A.map fun a=>a.map u8Q))),(4,.pt 4 (vs 4) 0),(5,.pt 5 (vs 5) 0),(6,.r (i64 (i : Int))),(7,.pt 7 (vs 7) 0),(8,.r (i64 lf)),(9,.r (i64 (k : Int))),(10,.r (.rp [u8Q x0,u8Q x1,u8Q x2])),(11,.r (i64 (j : Int))),(12,.r (.bo (seenB bd L j))),(13,.r (i64 (bd : Int)))])
              (fun j vs=>[(4,.box [.r (i64 0),.r .ns]),(5,.box [.r (i64 (D : Int)),.os 155 (vs 155) 2 0 i]),(7,.box [.r (i64 201),.os 124 (vs 124) 3 0 L.length]),(124,.arr 83 3 (L.map bedR)),(155,.arr 81 2 JR)]) (fun _=>True) 0 (zj [] ?_ ?_) (Nat.zero_le _) trivial ?_
             · try simp only [go_sem]
               try rfl
             · try simp only [go_sem]
             · intro j vs hj _
               have hpl:=pos_le (b:=(bd : Int)) (L:=L)
               by_cases hjn : j < posN bd L
               · obtain ⟨y,hy,hyb⟩:=pos_at hjn
                 have hjl : j < L.length:=by omega
                 have d1 : decide (y.b ≤ (bd : Int)) = true:=decide_eq_true hyb
                 rw [seen_step hy]
                 repeat refine zq ?_
                 refine zb fun K hK=>?_;simp only [go_sem,hy,hjl,d1,bedR,List.length_map];(try simp (disch:=omega) only [zI]);repeat first | intro _ | refine ⟨by omega,?_⟩
                 repeat first | intro _ | refine ⟨by omega,?_⟩
                 refine hK _ ?_;clear hK K;refine zw (zk [1,4,5,6,7,8,9,10,11,12,13,85]) ?_;simp only [go_sem]
                 repeat refine zq ?_
                 refine zc rfl (fun hc=>?_) (fun hc=>?_) <;> (try simp only [go_sem] at hc)
                 refine zx ?_
                 try simp only [go_sem]
                 repeat refine zq ?_
                 refine zd ?_
                 cases hse : seenB bd L j with
                 | true =>
                   repeat refine zq ?_
                   refine zb fun K hK=>?_;simp only [go_sem];(try simp (disch:=omega) only [zI]);repeat first | intro _ | refine ⟨by omega,?_⟩
                   refine hK _ ?_;clear hK K;refine zw (zk [1,4,5,6,7,8,9,10,11,12,13]) ?_;simp only [go_sem]
                   repeat refine zq ?_
                   refine zb fun K hK=>?_;simp only [go_sem];(try simp (disch:=omega) only [zI]);repeat first | intro _ | refine ⟨by omega,?_⟩
                   refine hK _ ?_;clear hK K
                   try simp only [go_sem]
                   refine ⟨by omega,zj [] ?_ ?_⟩
                   · try simp only [go_sem]
                   · try simp only [go_sem]
                 | false =>
                   repeat refine zq ?_
                   refine zb fun K hK=>?_;simp only [go_sem,hy,hjl,bedR,List.length_map];(try simp (disch:=omega) only [zI]);repeat first | intro _ | refine ⟨by omega,?_⟩
                   repeat first | intro _ | refine ⟨by omega,?_⟩
                   refine hK _ ?_;clear hK K;refine zw (zk [1,4,5,6,7,8,9,10,11,12,13]) ?_;simp only [go_sem]
                   repeat refine zq ?_
                   refine zb fun K hK=>?_;simp only [go_sem];(try simp (disch:=omega) only [zI]);repeat first | intro _ | refine ⟨by omega,?_⟩
                   refine hK _ ?_;clear hK K
                   try simp only [go_sem]
                   refine ⟨by omega,zj [] ?_ ?_⟩
                   · try simp only [go_sem]
                   · try simp only [go_sem]
               · have hjp : j = posN bd L:=by omega
                 subst hjp
                 rcases pos_end (b:=(bd : Int)) (L:=L) with hpe | ⟨y,hy,hyb⟩
                 · have hnl : ¬ posN bd L < L.length:=by omega
                   repeat refine zq ?_
                   refine zb fun K hK=>?_;simp only [go_sem,hnl,List.length_map];(try simp (disch:=omega) only [zI]);repeat first | intro _ | refine ⟨by omega,?_⟩
                   repeat first | intro _ | refine ⟨by omega,?_⟩
                   refine hK _ ?_;clear hK K;refine zw (zk [1,4,5,6,7,8,9,10,11,12,13,85]) ?_;simp only [go_sem]
                   repeat refine zq ?_
                   refine zc rfl (fun hc=>?_) (fun hc=>?_) <;> (try simp only [go_sem] at hc)
                   refine zf ?_;simp only [go_sem]
                   refine ⟨(),zj [] ?_ ?_⟩
                   · try simp only [go_sem]
                   · try simp only [go_sem]
                 · have hjl : posN bd L < L.length:=(List.getElem?_eq_some_iff.1 hy).1
                   have d1 : decide (y.b ≤ (bd : Int)) = false:=decide_eq_false (by omega)
                   repeat refine zq ?_
                   refine zb fun K hK=>?_;simp only [go_sem,hy,hjl,d1,bedR,List.length_map];(try simp (disch:=omega) only [zI]);repeat first | intro _ | refine ⟨by omega,?_⟩
                   repeat first | intro _ | refine ⟨by omega,?_⟩
                   refine hK _ ?_;clear hK K;refine zw (zk [1,4,5,6,7,8,9,10,11,12,13,85]) ?_;simp only [go_sem]
                   repeat refine zq ?_
                   refine zc rfl (fun hc=>?_) (fun hc=>?_) <;> (try simp only [go_sem] at hc)
                   refine zf ?_;simp only [go_sem]
                   refine ⟨(),zj [] ?_ ?_⟩
                   · try simp only [go_sem]
                   · try simp only [go_sem]
           intro _ vs _
           have hps:=pos_le (b:=(bd : Int)) (L:=L)
           have hscS : scS (D : Int) (L,lf) (x0,x1,x2) = if seenB bd L (posN bd L) then (L,lf) else (L.take (posN bd L) ++ [⟨(bd : Int),lf * (x1 : Int) / 512,min (D : Int) (lf * (x1 : Int) / 512 + ((x2 % 20 : Nat) : Int))⟩] ++ L.drop (posN bd L),lf - lf * (x1 : Int) / 512):=by
            unfold scS scN
            simp only [← hbd]
           rw [hscS]
           generalize posN bd L = P at *
           cases hse : seenB bd L P with
           | true =>
             rw [if_pos rfl]
             repeat refine zq ?_
             refine zb fun K hK=>?_;simp only [go_sem];(try simp (disch:=omega) only [zI]);repeat first | intro _ | refine ⟨by omega,?_⟩
             refine hK _ ?_;clear hK K;refine zw (zk [1,4,5,6,7,8,9,10,11,13,99]) ?_;simp only [go_sem]
             repeat refine zq ?_
             refine zc rfl (fun hc=>?_) (fun hc=>?_) <;> (try simp only [go_sem] at hc)
             refine zf ?_;simp only [go_sem]
             repeat refine zq ?_
             refine zb fun K hK=>?_;simp only [go_sem];(try simp (disch:=omega) only [zI]);repeat first | intro _ | refine ⟨by omega,?_⟩
             refine hK _ ?_;clear hK K
             try simp only [go_sem]
             refine ⟨by omega,zj [] ?_ ?_⟩
             · try simp only [go_sem]
             · try simp only [go_sem]
           | false =>
             rw [if_neg (by simp)]
             repeat refine zq ?_
             refine zb fun K hK=>?_;simp only [go_sem];(try simp (disch:=omega) only [zI]);repeat first | intro _ | refine ⟨by omega,?_⟩
             refine hK _ ?_;clear hK K;refine zw (zk [1,4,5,6,7,8,9,10,11,13,99]) ?_;simp only [go_sem]
             repeat refine zq ?_
             refine zc rfl (fun hc=>?_) (fun hc=>?_) <;> (try simp only [go_sem] at hc)
             refine zx ?_
             try simp only [go_sem]
             have hl1:=hIk.left
             simp only at hl1
             have f1 : IntKind.i64.wrap (x1 : Int) = x1:=by rw [zI] <;> omega
             have f2:=Int.mul_nonneg hl1.1 (show (0 : Int) ≤ x1 by omega)
             have f3 : lf * (x1 : Int) ≤ lf * 255:=Int.mul_le_mul_of_nonneg_left (by omega) hl1.1
             have f4 : IntKind.i64.wrap (lf * (x1 : Int)) = lf * (x1 : Int):=by rw [zI] <;> omega
             have f5 : Int.tdiv (lf * (x1 : Int)) 512 = lf * (x1 : Int) / 512:=Int.tdiv_eq_ediv_of_nonneg f2
             have f6 : 0 ≤ lf * (x1 : Int) / 512 ∧ lf * (x1 : Int) / 512 ≤ 64:=⟨by omega,by omega⟩
             generalize lf * (x1 : Int) / 512 = lo at *
             have f7 : IntKind.i64.wrap lo = lo:=by rw [zI] <;> omega
             have f8 : IntKind.i64.wrap (x2 : Int) = x2:=by rw [zI] <;> omega
             have f9 : Int.tmod (x2 : Int) 20 = ((x2 % 20 : Nat) : Int):=rfl
             have n20:=Nat.mod_lt x2 (show 20 > 0 by omega)
             generalize x2 % 20 = y2 at *
             have f10 : IntKind.i64.wrap (lo + (y2 : Int)) = lo + (y2 : Int):=by rw [zI] <;> omega
             have hsm:=span_mk lo (min (D : Int) (lo + (y2 : Int)))
             repeat refine zq ?_
             refine zb fun K hK=>?_;simp only [go_sem,f1,f4,f5,f7];(try simp (disch:=omega) only [zI]);repeat first | intro _ | refine ⟨by omega,?_⟩
             repeat first | intro _ | refine ⟨by omega,?_⟩
             refine hK _ ?_;clear hK K;refine zw (zk [1,4,5,6,7,8,9,10,11,13,14]) ?_;simp only [go_sem]
             repeat refine zq ?_
             refine zb fun K hK=>?_;simp only [go_sem,f8,f9,f10];(try simp (disch:=omega) only [zI])
             refine zh (hsm) rfl (by simp only [go_sem,i64,ints]) (by simp only [go_sem,i64,ints]) (by first | exact .inl rfl | exact .inr rfl) ?_
             (try simp only [go_sem]);(try simp (disch:=omega) only [zI]);repeat first | intro _ | refine ⟨by omega,?_⟩
             refine hK _ ?_;clear hK K;refine zw (sub_frzP 15 15 [i64 (bd : Int),i64 lo,i64 (min (D : Int) (lo + (y2 : Int)))] (by omega) rfl rfl) ?_;refine zw (zk [1,4,5,6,7,8,9,11,14,15]) ?_;simp only [go_sem];refine zw (sub_frzB 7 1 124 (ty:=83) (sz:=3) (off:=0) (m:=L.length) (es:=L.map bedR) (by omega) (by omega) rfl (by simp only [go_sem,List.getElem?_cons_succ,List.getElem?_cons_zero]) (by rfl) (by simp)) ?_;refine zw (zk [1,4,5,6,7,8,9,11,14,15]) ?_;simp only [go_sem]
             have f11 : IntKind.i64.wrap (lf - lo) = lf - lo:=by rw [zI] <;> omega
             have f12 : min P L.length = P:=by omega
             generalize hM : L.map bedR = M at *
             have hMl : M.length = L.length:=by rw [← hM,List.length_map]
             have hMt : List.take L.length M = M:=List.take_of_length_le (by omega)
             repeat refine zq ?_
             refine awp_inv (n:=158) (sgF (.sl 12 (A.map fun a=>a.map u8Q)) i k P L.length lf lo (min (D : Int) (lo + (y2 : Int))) (bd : Int) M) (sgR D i P L.length lo (min (D : Int) (lo + (y2 : Int))) (bd : Int) M JR) follows (by kernel_rfl) (by kernel_rfl) (by decide +kernel) (zj [] ?_ ?_) ?_ ?_
             · simp only [go_sem,sgF,vI,if_true,if_false,Bool.false_eq_true,cond_false]
             · simp only [go_sem,sgR,cond_false,List.cons_append,List.nil_append]
             · refine ⟨fun b vs hdn hbk hde=>?_,fun b vs hdn hbk hde=>?_,fun b vs hdn hbk hde=>?_,fun b vs hdn hbk hde=>?_,fun b vs hdn hbk hde=>?_,fun b vs hdn hbk hde=>?_,fun b vs hdn hbk hde=>?_,fun b vs hdn hbk hde=>?_,fun b vs hdn hbk hde=>?_,fun b vs hdn hbk hde=>?_,fun b vs hdn hbk hde=>?_,fun b vs hdn hbk hde=>?_,fun b vs hdn hbk hde=>?_,fun b vs hdn hbk hde=>?_,fun b vs hdn hbk hde=>?_,fun b vs hdn hbk hde=>?_,fun b vs hdn hbk hde=>?_,fun b vs hdn hbk hde=>?_,fun b vs hdn hbk hde=>?_,fun b vs hdn hbk hde=>?_,trivial⟩
               · skip
                 have G:=dnT hdn hbk [5,17,18,19,8,13] (by decide +kernel)
                 simp only [allB,and_true] at G
                 (simp only [go_sem,sgF,sgR,upd,vI,cond_true,cond_false,if_true,Bool.false_eq_true,if_false,hbk,G,hMl,hps,f11,f12,List.length_append,List.length_take,List.length_drop,List.length_cons,List.length_nil,List.drop_zero,Nat.sub_zero,List.append_assoc,hMt,List.cons_append,List.nil_append])
                 all_goals (refine zj [] ?_ ?_ <;> (simp only [go_sem,sgF,sgR,upd,vI,cond_true,cond_false,if_true,Bool.false_eq_true,if_false,hbk,G,hMl,hps,f11,f12,List.length_append,List.length_take,List.length_drop,List.length_cons,List.length_nil,List.drop_zero,Nat.sub_zero,List.append_assoc,hMt,List.cons_append,List.nil_append]))
               · skip
                 have G:=dnT hdn hbk [2,17,18,19,4,5,8,13] (by decide +kernel)
                 simp only [allB,and_true] at G
                 (simp only [go_sem,sgF,sgR,upd,vI,cond_true,cond_false,if_true,Bool.false_eq_true,if_false,hbk,G,hMl,hps,f11,f12,List.length_append,List.length_take,List.length_drop,List.length_cons,List.length_nil,List.drop_zero,Nat.sub_zero,List.append_assoc,hMt,List.cons_append,List.nil_append])
                 all_goals (refine zj [] ?_ ?_ <;> (simp only [go_sem,sgF,sgR,upd,vI,cond_true,cond_false,if_true,Bool.false_eq_true,if_false,hbk,G,hMl,hps,f11,f12,List.length_append,List.length_take,List.length_drop,List.length_cons,List.length_nil,List.drop_zero,Nat.sub_zero,List.append_assoc,hMt,List.cons_append,List.nil_append]))
               · skip
                 have H:=upT hdn hde [1] (by decide +kernel)
                 have G:=dnT hdn hbk [4,17,18,19,5,8,13] (by decide +kernel)
                 simp only [allB,and_true] at H G
                 (simp only [go_sem,sgF,sgR,upd,vI,cond_true,cond_false,if_true,Bool.false_eq_true,if_false,hbk,H,G,hMl,hps,f11,f12,List.length_append,List.length_take,List.length_drop,List.length_cons,List.length_nil,List.drop_zero,Nat.sub_zero,List.append_assoc,hMt,List.cons_append,List.nil_append])
                 all_goals (refine zj [] ?_ ?_ <;> (simp only [go_sem,sgF,sgR,upd,vI,cond_true,cond_false,if_true,Bool.false_eq_true,if_false,hbk,H,G,hMl,hps,f11,f12,List.length_append,List.length_take,List.length_drop,List.length_cons,List.length_nil,List.drop_zero,Nat.sub_zero,List.append_assoc,hMt,List.cons_append,List.nil_append]))
               · skip
                 have G:=dnT hdn hbk [4,17,18,19,5,8,13] (by decide +kernel)
                 simp only [allB,and_true] at G
                 (simp only [go_sem,sgF,sgR,upd,vI,cond_true,cond_false,if_true,Bool.false_eq_true,if_false,hbk,G,hMl,hps,f11,f12,List.length_append,List.length_take,List.length_drop,List.length_cons,List.length_nil,List.drop_zero,Nat.sub_zero,List.append_assoc,hMt,List.cons_append,List.nil_append])
                 all_goals (refine zj [] ?_ ?_ <;> (simp only [go_sem,sgF,sgR,upd,vI,cond_true,cond_false,if_true,Bool.false_eq_true,if_false,hbk,G,hMl,hps,f11,f12,List.length_append,List.length_take,List.length_drop,List.length_cons,List.length_nil,List.drop_zero,Nat.sub_zero,List.append_assoc,hMt,List.cons_append,List.nil_append]))
               · skip
                 have H:=upT hdn hde [2,3,1] (by decide +kernel)
                 have G:=dnT hdn hbk [5,17,18,19,8,13] (by decide +kernel)
                 simp only [allB,and_true] at H G
                 (simp only [go_sem,sgF,sgR,upd,vI,cond_true,cond_false,if_true,Bool.false_eq_true,if_false,hbk,H,G,hMl,hps,f11,f12,List.length_append,List.length_take,List.length_drop,List.length_cons,List.length_nil,List.drop_zero,Nat.sub_zero,List.append_assoc,hMt,List.cons_append,List.nil_append])
                 all_goals (refine zj [] ?_ ?_ <;> (simp only [go_sem,sgF,sgR,upd,vI,cond_true,cond_false,if_true,Bool.false_eq_true,if_false,hbk,H,G,hMl,hps,f11,f12,List.length_append,List.length_take,List.length_drop,List.length_cons,List.length_nil,List.drop_zero,Nat.sub_zero,List.append_assoc,hMt,List.cons_append,List.nil_append]))
               · skip
                 have H:=upT hdn hde [0,4,2,3,1] (by decide +kernel)
                 have G:=dnT hdn hbk [8,17,18,19,13] (by decide +kernel)
                 simp only [allB,and_true] at H G
                 (simp only [go_sem,sgF,sgR,upd,vI,cond_true,cond_false,if_true,Bool.false_eq_true,if_false,hbk,H,G,hMl,hps,f11,f12,List.length_append,List.length_take,List.length_drop,List.length_cons,List.length_nil,List.drop_zero,Nat.sub_zero,List.append_assoc,hMt,List.cons_append,List.nil_append])
                 all_goals (try refine ⟨⟨by omega,by omega⟩,?_⟩)
                 all_goals (refine zj [] ?_ ?_ <;> (simp only [go_sem,sgF,sgR,upd,vI,cond_true,cond_false,if_true,Bool.false_eq_true,if_false,hbk,H,G,hMl,hps,f11,f12,List.length_append,List.length_take,List.length_drop,List.length_cons,List.length_nil,List.drop_zero,Nat.sub_zero,List.append_assoc,hMt,List.cons_append,List.nil_append]))
               · skip
                 have G:=dnT hdn hbk [7,17,18,19,8,13] (by decide +kernel)
                 simp only [allB,and_true] at G
                 cases g5 : b 5
                 all_goals (simp only [go_sem,sgF,sgR,upd,vI,cond_true,cond_false,if_true,Bool.false_eq_true,if_false,hbk,G,g5,hMl,hps,f11,f12,List.length_append,List.length_take,List.length_drop,List.length_cons,List.length_nil,List.drop_zero,Nat.sub_zero,List.append_assoc,hMt,List.cons_append,List.nil_append])
                 all_goals (refine zj [] ?_ ?_ <;> (simp only [go_sem,sgF,sgR,upd,vI,cond_true,cond_false,if_true,Bool.false_eq_true,if_false,hbk,G,g5,hMl,hps,f11,f12,List.length_append,List.length_take,List.length_drop,List.length_cons,List.length_nil,List.drop_zero,Nat.sub_zero,List.append_assoc,hMt,List.cons_append,List.nil_append]))
               · skip
                 have H:=upT hdn hde [6] (by decide +kernel)
                 have G:=dnT hdn hbk [8,17,18,19,13] (by decide +kernel)
                 simp only [allB,and_true] at H G
                 cases g5 : b 5
                 all_goals (simp only [go_sem,sgF,sgR,upd,vI,cond_true,cond_false,if_true,Bool.false_eq_true,if_false,hbk,H,G,g5,hMl,hps,f11,f12,List.length_append,List.length_take,List.length_drop,List.length_cons,List.length_nil,List.drop_zero,Nat.sub_zero,List.append_assoc,hMt,List.cons_append,List.nil_append])
                 all_goals (refine zj [] ?_ ?_ <;> (simp only [go_sem,sgF,sgR,upd,vI,cond_true,cond_false,if_true,Bool.false_eq_true,if_false,hbk,H,G,g5,hMl,hps,f11,f12,List.length_append,List.length_take,List.length_drop,List.length_cons,List.length_nil,List.drop_zero,Nat.sub_zero,List.append_assoc,hMt,List.cons_append,List.nil_append]))
               · skip
                 have H:=upT hdn hde [5,5,7,0,4,6,2,3,1] (by decide +kernel)
                 have G:=dnT hdn hbk [13,17,18,19] (by decide +kernel)
                 simp only [allB,and_true] at H G
                 (simp only [go_sem,sgF,sgR,upd,vI,cond_true,cond_false,if_true,Bool.false_eq_true,if_false,hbk,H,G,hMl,hps,f11,f12,List.length_append,List.length_take,List.length_drop,List.length_cons,List.length_nil,List.drop_zero,Nat.sub_zero,List.append_assoc,hMt,List.cons_append,List.nil_append])
                 all_goals (try refine ⟨⟨by omega,by omega⟩,?_⟩)
                 all_goals refine fitV_subS (zk [1,4,5,6,7,8,9,11,14,15,119,120,121,122,123,125,126,127,128,129,130,131,132,133,134,135,136]) ?_
                 all_goals simp only [go_sem]
                 all_goals (refine zj [] ?_ ?_ <;> (simp only [go_sem,sgF,sgR,upd,vI,cond_true,cond_false,if_true,Bool.false_eq_true,if_false,hbk,H,G,hMl,hps,f11,f12,List.length_append,List.length_take,List.length_drop,List.length_cons,List.length_nil,List.drop_zero,Nat.sub_zero,List.append_assoc,hMt,List.cons_append,List.nil_append]))
               · skip
                 have G:=dnT hdn hbk [10,17,18,19,12,13] (by decide +kernel)
                 simp only [allB,and_true] at G
                 cases g5 : b 5 <;> cases g8 : b 8
                 all_goals (simp only [go_sem,sgF,sgR,upd,vI,cond_true,cond_false,if_true,Bool.false_eq_true,if_false,hbk,G,g5,g8,hMl,hps,f11,f12,List.length_append,List.length_take,List.length_drop,List.length_cons,List.length_nil,List.drop_zero,Nat.sub_zero,List.append_assoc,hMt,List.cons_append,List.nil_append])
                 all_goals (refine zj [] ?_ ?_ <;> (simp only [go_sem,sgF,sgR,upd,vI,cond_true,cond_false,if_true,Bool.false_eq_true,if_false,hbk,G,g5,g8,hMl,hps,f11,f12,List.length_append,List.length_take,List.length_drop,List.length_cons,List.length_nil,List.drop_zero,Nat.sub_zero,List.append_assoc,hMt,List.cons_append,List.nil_append]))
               · skip
                 have H:=upT hdn hde [9] (by decide +kernel)
                 have G:=dnT hdn hbk [12,17,18,19,13] (by decide +kernel)
                 simp only [allB,and_true] at H G
                 cases g5 : b 5 <;> cases g8 : b 8
                 all_goals (simp only [go_sem,sgF,sgR,upd,vI,cond_true,cond_false,if_true,Bool.false_eq_true,if_false,hbk,H,G,g5,g8,hMl,hps,f11,f12,List.length_append,List.length_take,List.length_drop,List.length_cons,List.length_nil,List.drop_zero,Nat.sub_zero,List.append_assoc,hMt,List.cons_append,List.nil_append])
                 all_goals (refine zj [] ?_ ?_ <;> (simp only [go_sem,sgF,sgR,upd,vI,cond_true,cond_false,if_true,Bool.false_eq_true,if_false,hbk,H,G,g5,g8,hMl,hps,f11,f12,List.length_append,List.length_take,List.length_drop,List.length_cons,List.length_nil,List.drop_zero,Nat.sub_zero,List.append_assoc,hMt,List.cons_append,List.nil_append]))
               · skip
                 have G:=dnT hdn hbk [12,17,18,19,13] (by decide +kernel)
                 simp only [allB,and_true] at G
                 cases g5 : b 5 <;> cases g8 : b 8
                 all_goals (simp only [go_sem,sgF,sgR,upd,vI,cond_true,cond_false,if_true,Bool.false_eq_true,if_false,hbk,G,g5,g8,hMl,hps,f11,f12,List.length_append,List.length_take,List.length_drop,List.length_cons,List.length_nil,List.drop_zero,Nat.sub_zero,List.append_assoc,hMt,List.cons_append,List.nil_append])
                 all_goals (refine zj [] ?_ ?_ <;> (simp only [go_sem,sgF,sgR,upd,vI,cond_true,cond_false,if_true,Bool.false_eq_true,if_false,hbk,G,g5,g8,hMl,hps,f11,f12,List.length_append,List.length_take,List.length_drop,List.length_cons,List.length_nil,List.drop_zero,Nat.sub_zero,List.append_assoc,hMt,List.cons_append,List.nil_append]))
               · skip
                 have H:=upT hdn hde [10,11,9] (by decide +kernel)
                 have G:=dnT hdn hbk [13,17,18,19] (by decide +kernel)
                 simp only [allB,and_true] at H G
                 cases g5 : b 5 <;> cases g8 : b 8
                 all_goals (simp only [go_sem,sgF,sgR,upd,vI,cond_true,cond_false,if_true,Bool.false_eq_true,if_false,hbk,H,G,g5,g8,hMl,hps,f11,f12,List.length_append,List.length_take,List.length_drop,List.length_cons,List.length_nil,List.drop_zero,Nat.sub_zero,List.append_assoc,hMt,List.cons_append,List.nil_append])
                 all_goals (refine zj [] ?_ ?_ <;> (simp only [go_sem,sgF,sgR,upd,vI,cond_true,cond_false,if_true,Bool.false_eq_true,if_false,hbk,H,G,g5,g8,hMl,hps,f11,f12,List.length_append,List.length_take,List.length_drop,List.length_cons,List.length_nil,List.drop_zero,Nat.sub_zero,List.append_assoc,hMt,List.cons_append,List.nil_append]))
               · skip
                 have H:=upT hdn hde [8,8,12,5,7,10,11,0,4,6,9,2,3,1] (by decide +kernel)
                 have G:=dnT hdn hbk [17,18,19] (by decide +kernel)
                 simp only [allB,and_true] at H G
                 (simp only [go_sem,sgF,sgR,upd,vI,cond_true,cond_false,if_true,Bool.false_eq_true,if_false,hbk,H,G,hMl,hps,f11,f12,List.length_append,List.length_take,List.length_drop,List.length_cons,List.length_nil,List.drop_zero,Nat.sub_zero,List.append_assoc,hMt,List.cons_append,List.nil_append])
                 all_goals (try refine ⟨⟨by omega,by omega⟩,?_⟩)
                 all_goals refine fitV_subS (zk [1,4,5,6,7,8,9,11,14,15,119,120,121,122,123,125,126,128,129,130,131,132,133,134,135,136]) ?_
                 all_goals simp only [go_sem]
                 all_goals (refine zj [] ?_ ?_ <;> (simp only [go_sem,sgF,sgR,upd,vI,cond_true,cond_false,if_true,Bool.false_eq_true,if_false,hbk,H,G,hMl,hps,f11,f12,List.length_append,List.length_take,List.length_drop,List.length_cons,List.length_nil,List.drop_zero,Nat.sub_zero,List.append_assoc,hMt,List.cons_append,List.nil_append]))
               · skip
                 have G:=dnT hdn hbk [16,19] (by decide +kernel)
                 simp only [allB,and_true] at G
                 cases g5 : b 5 <;> cases g8 : b 8 <;> cases g13 : b 13 <;> cases g18 : b 18
                 all_goals (simp only [go_sem,sgF,sgR,upd,vI,cond_true,cond_false,if_true,Bool.false_eq_true,if_false,hbk,G,g5,g8,g13,g18,hMl,hps,f11,f12,List.length_append,List.length_take,List.length_drop,List.length_cons,List.length_nil,List.drop_zero,Nat.sub_zero,List.append_assoc,hMt,List.cons_append,List.nil_append])
                 all_goals (refine zj [] ?_ ?_ <;> (simp only [go_sem,sgF,sgR,upd,vI,cond_true,cond_false,if_true,Bool.false_eq_true,if_false,hbk,G,g5,g8,g13,g18,hMl,hps,f11,f12,List.length_append,List.length_take,List.length_drop,List.length_cons,List.length_nil,List.drop_zero,Nat.sub_zero,List.append_assoc,hMt,List.cons_append,List.nil_append]))
               · skip
                 have G:=dnT hdn hbk [16,19] (by decide +kernel)
                 simp only [allB,and_true] at G
                 cases g5 : b 5 <;> cases g8 : b 8 <;> cases g13 : b 13 <;> cases g18 : b 18
                 all_goals (simp only [go_sem,sgF,sgR,upd,vI,cond_true,cond_false,if_true,Bool.false_eq_true,if_false,hbk,G,g5,g8,g13,g18,hMl,hps,f11,f12,List.length_append,List.length_take,List.length_drop,List.length_cons,List.length_nil,List.drop_zero,Nat.sub_zero,List.append_assoc,hMt,List.cons_append,List.nil_append])
                 all_goals (refine zj [] ?_ ?_ <;> (simp only [go_sem,sgF,sgR,upd,vI,cond_true,cond_false,if_true,Bool.false_eq_true,if_false,hbk,G,g5,g8,g13,g18,hMl,hps,f11,f12,List.length_append,List.length_take,List.length_drop,List.length_cons,List.length_nil,List.drop_zero,Nat.sub_zero,List.append_assoc,hMt,List.cons_append,List.nil_append]))
               · skip
                 have H:=upT hdn hde [14,15] (by decide +kernel)
                 have G:=dnT hdn hbk [19] (by decide +kernel)
                 simp only [allB,and_true] at H G
                 cases g5 : b 5 <;> cases g8 : b 8 <;> cases g13 : b 13 <;> cases g18 : b 18
                 all_goals (simp only [go_sem,sgF,sgR,upd,vI,cond_true,cond_false,if_true,Bool.false_eq_true,if_false,hbk,H,G,g5,g8,g13,g18,hMl,hps,f11,f12,List.length_append,List.length_take,List.length_drop,List.length_cons,List.length_nil,List.drop_zero,Nat.sub_zero,List.append_assoc,hMt,List.cons_append,List.nil_append])
                 all_goals (refine zj [] ?_ ?_ <;> (simp only [go_sem,sgF,sgR,upd,vI,cond_true,cond_false,if_true,Bool.false_eq_true,if_false,hbk,H,G,g5,g8,g13,g18,hMl,hps,f11,f12,List.length_append,List.length_take,List.length_drop,List.length_cons,List.length_nil,List.drop_zero,Nat.sub_zero,List.append_assoc,hMt,List.cons_append,List.nil_append]))
               · skip
                 have H:=upT hdn hde [0,1,2,3,4,5,6,7,8,9,10,11,12,13] (by decide +kernel)
                 have G:=dnT hdn hbk [18,19] (by decide +kernel)
                 simp only [allB,and_true] at H G
                 (simp only [go_sem,sgF,sgR,upd,vI,cond_true,cond_false,if_true,Bool.false_eq_true,if_false,hbk,H,G,hMl,hps,f11,f12,List.length_append,List.length_take,List.length_drop,List.length_cons,List.length_nil,List.drop_zero,Nat.sub_zero,List.append_assoc,hMt,List.cons_append,List.nil_append])
                 all_goals (refine zj [] ?_ ?_ <;> (simp only [go_sem,sgF,sgR,upd,vI,cond_true,cond_false,if_true,Bool.false_eq_true,if_false,hbk,H,G,hMl,hps,f11,f12,List.length_append,List.length_take,List.length_drop,List.length_cons,List.length_nil,List.drop_zero,Nat.sub_zero,List.append_assoc,hMt,List.cons_append,List.nil_append]))
               · skip
                 have H:=upT hdn hde [0,1,2,3,4,5,6,7,8,9,10,11,12,13,13,13,17] (by decide +kernel)
                 have G:=dnT hdn hbk [19] (by decide +kernel)
                 simp only [allB,and_true] at H G
                 (simp only [go_sem,sgF,sgR,upd,vI,cond_true,cond_false,if_true,Bool.false_eq_true,if_false,hbk,H,G,hMl,hps,f11,f12,List.length_append,List.length_take,List.length_drop,List.length_cons,List.length_nil,List.drop_zero,Nat.sub_zero,List.append_assoc,hMt,List.cons_append,List.nil_append])
                 all_goals (refine zj [] ?_ ?_ <;> (simp only [go_sem,sgF,sgR,upd,vI,cond_true,cond_false,if_true,Bool.false_eq_true,if_false,hbk,H,G,hMl,hps,f11,f12,List.length_append,List.length_take,List.length_drop,List.length_cons,List.length_nil,List.drop_zero,Nat.sub_zero,List.append_assoc,hMt,List.cons_append,List.nil_append]))
               · skip
                 have H:=upT hdn hde [0,1,2,3,4,5,6,7,8,9,10,11,12,13,14,15,16,16,17,18,18] (by decide +kernel)
                 simp only [allB,and_true] at H
                 (simp only [go_sem,sgF,sgR,upd,vI,cond_true,cond_false,if_true,Bool.false_eq_true,if_false,hbk,H,hMl,hps,f11,f12,List.length_append,List.length_take,List.length_drop,List.length_cons,List.length_nil,List.drop_zero,Nat.sub_zero,List.append_assoc,hMt,List.cons_append,List.nil_append])
                 all_goals (refine zj [] ?_ ?_ <;> (simp only [go_sem,sgF,sgR,upd,vI,cond_true,cond_false,if_true,Bool.false_eq_true,if_false,hbk,H,hMl,hps,f11,f12,List.length_append,List.length_take,List.length_drop,List.length_cons,List.length_nil,List.drop_zero,Nat.sub_zero,List.append_assoc,hMt,List.cons_append,List.nil_append]))
             intro b vs hb
             simp only [go_sem,sgF,sgR,vI,hb,if_true,cond_true,List.cons_append,List.nil_append];refine zw (zk [1,4,5,6,7,8,9]) ?_;simp only [go_sem]
             have hn2 : (L.take P ++ [(⟨(bd : Int),lo,min (D : Int) (lo + (y2 : Int))⟩ : Bd)] ++ L.drop P).length = P + 1 + (L.length - P):=by
              simp only [List.length_append,List.length_take,List.length_cons,List.length_nil,List.length_drop]; omega
             have hm2 : (L.take P ++ [(⟨(bd : Int),lo,min (D : Int) (lo + (y2 : Int))⟩ : Bd)] ++ L.drop P).map bedR = M.take P ++ ([i64 (bd : Int),i64 lo,i64 (min (D : Int) (lo + (y2 : Int)))] :: M.drop P):=by
              rw [← hM]; simp [List.map_take,List.map_drop,bedR]
             rw [hn2,hm2]
             repeat refine zq ?_
             refine zb fun K hK=>?_;simp only [go_sem];(try simp (disch:=omega) only [zI]);repeat first | intro _ | refine ⟨by omega,?_⟩
             refine hK _ ?_;clear hK K
             try simp only [go_sem]
             refine ⟨by omega,zj [] ?_ ?_⟩
             · try simp only [go_sem]
             · try simp only [go_sem]
         · have hke : k = Kn:=by omega
           subst hke
           by_cases hA0 : A.length = 0
           · have hK0 : k = 0:=by rw [hK,if_pos hA0]
             have hnl : ¬ i < A.length:=by omega
             have g1 : decide ((k : Int) < 4) = true:=decide_eq_true (by omega)
             repeat refine zq ?_
             refine zb fun K hK=>?_;simp only [go_sem,g1,hnl,List.length_map];(try simp (disch:=omega) only [zI]);repeat first | intro _ | refine ⟨by omega,?_⟩
             repeat first | intro _ | refine ⟨by omega,?_⟩
             refine hK _ ?_;clear hK K;refine zw (zk [1,4,5,6,7,8,9,45]) ?_;simp only [go_sem]
             repeat refine zq ?_
             refine zc rfl (fun hc=>?_) (fun hc=>?_) <;> (try simp only [go_sem] at hc)
             refine zf ?_;simp only [go_sem]
             refine ⟨(),zj [] ?_ ?_⟩
             · try simp only [go_sem]
             · try simp only [go_sem]
           · have hK0 : k = 4:=by rw [hK,if_neg hA0]
             have g1 : decide ((k : Int) < 4) = false:=decide_eq_false (by omega)
             repeat refine zq ?_
             refine zb fun K hK=>?_;simp only [go_sem,g1];(try simp (disch:=omega) only [zI]);repeat first | intro _ | refine ⟨by omega,?_⟩
             repeat first | intro _ | refine ⟨by omega,?_⟩
             refine hK _ ?_;clear hK K;refine zw (zk [1,4,5,6,7,8,9,45]) ?_;simp only [go_sem]
             repeat refine zq ?_
             refine zc rfl (fun hc=>?_) (fun hc=>?_) <;> (try simp only [go_sem] at hc)
             refine zf ?_;simp only [go_sem]
             refine ⟨(),zj [] ?_ ?_⟩
             · try simp only [go_sem]
             · try simp only [go_sem]
     intro _ vs _
     generalize hLs : (scF (D : Int) a Kn).1 = L at *
     cases L with
     | nil =>
       have hhd : headD (D : Int) ([] : List Bd) = [⟨201,0,(D : Int)⟩]:=rfl
       rw [hhd]
       repeat refine zq ?_
       refine zb fun K hK=>?_;simp only [go_sem,List.map_nil,List.length_nil,beq_self_eq_true];(try simp (disch:=omega) only [zI]);repeat first | intro _ | refine ⟨by omega,?_⟩
       refine hK _ ?_;clear hK K;refine zw (zk [1,4,5,6,7,140]) ?_;simp only [go_sem]
       repeat refine zq ?_
       refine zc rfl (fun hc=>?_) (fun hc=>?_) <;> (try simp only [go_sem] at hc)
       repeat refine zq ?_
       refine awp_long ?_
       refine sops_take 1 (by kernel_rfl) fun K hK=>?_
       simp only [go_sem,List.take_succ_cons,List.take_zero,List.drop_succ_cons,List.drop_zero,List.append_eq,List.cons_append,List.nil_append];(try simp (disch:=omega) only [zI]);repeat first | intro _ | refine ⟨by omega,?_⟩
       refine hK _ rfl ?_
       clear hK K
       refine sops_sub (zk [1,4,5,6,7,141]) ?_
       simp only [go_sem]
       refine sops_own (by simp [go_sem]) ?_
       simp only [go_sem,sBuildOwn]
       repeat first | refine ⟨by omega,?_⟩
       refine sops_end (by kernel_rfl) fun K hK=>?_
       simp only [go_sem,List.drop_succ_cons,List.drop_zero,List.append_eq,List.cons_append,List.nil_append];(try simp (disch:=omega) only [zI]);repeat first | intro _ | refine ⟨by omega,?_⟩
       refine hK _ ?_;clear hK K;refine zw (zk [1,4,5,6,7]) ?_;simp only [go_sem]
       repeat refine zq ?_
       refine zb fun K hK=>?_;simp only [go_sem,List.length_cons,List.length_nil,List.map_nil];(try simp (disch:=omega) only [zI]);repeat first | intro _ | refine ⟨by omega,?_⟩
       repeat first | intro _ | refine ⟨by omega,?_⟩
       refine hK _ ?_;clear hK K;refine zw (zk [1,4,5,6,7]) ?_;simp only [go_sem];refine zw (sub_frzB 7 1 142 (ty:=83) (sz:=3) (off:=0) (m:=1) (es:=[[i64 201,i64 0,i64 (D : Int)]]) (by omega) (by omega) rfl (by simp only [go_sem,List.getElem?_cons_succ,List.getElem?_cons_zero]) (by rfl) (by simp)) ?_;refine zw (zk [1,4,5,6,7]) ?_;simp only [go_sem]
       repeat refine zq ?_
       refine zb fun K hK=>?_;simp only [go_sem,hjl,List.length_map];(try simp (disch:=omega) only [zI]);repeat first | intro _ | refine ⟨by omega,?_⟩
       refine hK _ ?_;clear hK K;refine zw (zk [1,4,5,6]) ?_;simp only [go_sem]
       repeat refine zq ?_
       refine zb fun K hK=>?_;simp only [go_sem];(try simp (disch:=omega) only [zI]);repeat first | intro _ | refine ⟨by omega,?_⟩
       refine hK _ ?_;clear hK K
       try simp only [go_sem]
       refine ⟨by omega,zj [7,124] ?_ ?_⟩
       · try simp only [go_sem]
       · try simp only [go_sem]
         simp only [List.map_append,List.map_cons,List.map_nil,aimR,bedR]
         rfl
     | cons x L' =>
       have hne : ((x :: L').length : Int) == 0 → False:=fun h=>by rw [beq_iff_eq,List.length_cons] at h; omega
       have hne1 : (((x :: L').length : Int) == 0) = false:=by rw [beq_eq_false_iff_ne,List.length_cons]; omega
       have hne2 : (((L'.length : Int) + 1) == 0) = false:=by rw [beq_eq_false_iff_ne]; omega
       have hne3 : ((L'.length + 1) == 0) = false:=by rw [beq_eq_false_iff_ne]; omega
       have hhd : headD (D : Int) (x :: L') = ⟨x.b,x.lo,(D : Int)⟩ :: L':=rfl
       have hbr : bedR x = [i64 x.b,i64 x.lo,i64 x.hi]:=rfl
       rw [hhd]
       repeat refine zq ?_
       refine zb fun K hK=>?_;simp only [go_sem,List.map_cons,List.length_cons,List.length_map,hne1,hne2,hne3];(try simp (disch:=omega) only [zI]);repeat first | intro _ | refine ⟨by omega,?_⟩
       refine hK _ ?_;clear hK K;refine zw (zk [1,4,5,6,7,140]) ?_;simp only [go_sem]
       try rw [hne1]
       repeat refine zq ?_
       refine zc rfl (fun hc=>?_) (fun hc=>?_) <;> (try simp only [go_sem] at hc)
       refine zx ?_
       try simp only [go_sem]
       repeat refine zq ?_
       refine zb fun K hK=>?_;simp only [go_sem,hbr,List.map_cons,List.length_cons,List.length_map];(try simp (disch:=omega) only [zI]);repeat first | intro _ | refine ⟨by omega,?_⟩
       repeat first | intro _ | refine ⟨by omega,?_⟩
       refine hK _ ?_;clear hK K;refine zw (zk [1,4,5,6,7]) ?_;simp only [go_sem];refine zw (sub_frzB 7 1 124 (ty:=83) (sz:=3) (off:=0) (m:=L'.length + 1) (es:=[i64 x.b,i64 x.lo,i64 (D : Int)] :: L'.map bedR) (by omega) (by omega) rfl (by simp only [go_sem,List.getElem?_cons_succ,List.getElem?_cons_zero]) (by rfl) (by simp)) ?_;refine zw (zk [1,4,5,6,7]) ?_;simp only [go_sem]
       have tk5 : List.take (L'.length + 1) ([i64 x.b,i64 x.lo,i64 (D : Int)] :: L'.map bedR) = [i64 x.b,i64 x.lo,i64 (D : Int)] :: L'.map bedR:=List.take_of_length_le (by simp)
       try rw [tk5]
       refine zw (zk [1,4,5,6,7]) ?_;simp only [go_sem]
       repeat refine zq ?_
       refine zb fun K hK=>?_;simp only [go_sem,hjl,List.length_map];(try simp (disch:=omega) only [zI]);repeat first | intro _ | refine ⟨by omega,?_⟩
       refine hK _ ?_;clear hK K;refine zw (zk [1,4,5,6]) ?_;simp only [go_sem]
       repeat refine zq ?_
       refine zb fun K hK=>?_;simp only [go_sem];(try simp (disch:=omega) only [zI]);repeat first | intro _ | refine ⟨by omega,?_⟩
       refine hK _ ?_;clear hK K
       try simp only [go_sem]
       refine ⟨by omega,zj [7] ?_ ?_⟩
       · try simp only [go_sem]
       · try simp only [go_sem]
         simp only [List.map_append,List.map_cons,List.map_nil,aimR,bedR]
         rfl
   · have hiN : i = N:=by omega
     subst hiN
     rw [hall]
     have hsl : (scL (D : Int) A).length = i:=by rw [← hall]; simp [aimsJ]
     have hi0 : i ≠ 0:=by rw [hN]; split <;> omega
     have q0 : ((i : Int) == 0) = false:=by rw [beq_eq_false_iff_ne]; omega
     have q0' : (i == 0) = false:=by rw [beq_eq_false_iff_ne]; omega
     repeat refine zq ?_
     refine awp_joinV (n:=158) (fun (_ : Unit) vs=>[(1,.r (.sl 12 (A.map fun a=>a.map u8Q))),(4,.pt 4 (vs 4) 0),(5,.pt 5 (vs 5) 0),(6,.r (i64 (i : Int))),(32,.r (.bo false))])
      (fun _ vs=>[(4,.box [.r (i64 0),.r .ns]),(5,.box [.r (i64 (D : Int)),.os 155 (vs 155) 2 0 i]),(155,.arr 81 2 ((scL (D : Int) A).map aimR))]) (fun _=>True) (fun _ h=>h) ?_ ?_
     · by_cases q1 : i < A.length
       · have q2 : decide ((i : Int) < 3) = false:=decide_eq_false (by rw [hN] at q1 ⊢; split at q1 <;> rename_i hz <;> (try rw [if_pos hz]) <;> (try rw [if_neg hz]) <;> omega)
         repeat refine zq ?_
         refine zb fun K hK=>?_;simp only [go_sem,q0,q0',q1,q2,List.length_map];(try simp (disch:=omega) only [zI]);repeat first | intro _ | refine ⟨by omega,?_⟩
         repeat first | intro _ | refine ⟨by omega,?_⟩
         refine hK _ ?_;clear hK K
         try simp only [go_sem]
         refine ⟨(),zj [] ?_ ?_⟩
         · try simp only [go_sem]
         · try simp only [go_sem]
       · repeat refine zq ?_
         refine zb fun K hK=>?_;simp only [go_sem,q0,q0',q1,List.length_map];(try simp (disch:=omega) only [zI]);repeat first | intro _ | refine ⟨by omega,?_⟩
         repeat first | intro _ | refine ⟨by omega,?_⟩
         refine hK _ ?_;clear hK K
         try simp only [go_sem]
         refine ⟨(),zj [] ?_ ?_⟩
         · try simp only [go_sem]
         · try simp only [go_sem]
     intro _ vs _
     repeat refine zq ?_
     refine zc rfl (fun hc=>?_) (fun hc=>?_) <;> (try simp only [go_sem] at hc)
     refine zw (sub_frzB 5 1 155 (ty:=81) (sz:=2) (off:=0) (m:=i) (es:=(scL (D : Int) A).map aimR) (by omega) (by omega) rfl (by simp only [go_sem,List.getElem?_cons_succ,List.getElem?_cons_zero]) (by rfl) (by simp [hsl])) ?_;refine zw (zk [4,5]) ?_;simp only [go_sem]
     have tk6 : List.take i ((scL (D : Int) A).map aimR) = (scL (D : Int) A).map aimR:=List.take_of_length_le (by simp [hsl])
     try rw [tk6]
     refine zf ?_;simp only [go_sem]
     repeat refine zq ?_
     refine zb fun K hK=>?_;simp only [go_sem];(try simp (disch:=omega) only [zI]);repeat first | intro _ | refine ⟨by omega,?_⟩
     refine hK _ ?_;clear hK K;refine zw (zk [4]) ?_;simp only [go_sem];refine ze ?_;simp only [go_sem]
theorem one_mk (n : Int) : ACalls Try.prog 11 [i64 n] (.ag [i64 n,i64 n]):=by
 refine acalls_st (rs:=[.ag [i64 n,i64 n]]) [.cell 2 30] Try.func11 rfl (by kernel_rfl) Try.ntmps11 rfl (by simp) rfl fun C vs=>?_
 repeat refine zq ?_
 refine zb fun K hK=>?_;simp only [go_sem];(try simp (disch:=omega) only [zI]);repeat first | intro _ | refine ⟨by omega,?_⟩
 refine hK _ ?_;clear hK K;refine zw (zk [0,2]) ?_;simp only [go_sem]
 repeat refine zq ?_
 refine zb fun K hK=>?_;simp only [go_sem];(try simp (disch:=omega) only [zI]);repeat first | intro _ | refine ⟨by omega,?_⟩
 refine hK _ ?_;clear hK K;refine zw (zk [2]) ?_;simp only [go_sem];refine ze ?_;simp only [go_sem]
theorem worth_ok (b : Int) (hb : 0 ≤ b ∧ b ≤ 499) : ACalls Try.prog 29 [i64 b] (i64 (scoreOf b)):=by
 have e1 : Int.tdiv b 100 = b / 100:=Int.tdiv_eq_ediv_of_nonneg hb.1
 have e2 : Int.tmod b 100 = b % 100:=Int.tmod_eq_emod_of_nonneg hb.1
 have h1 : 0 ≤ b / 100 ∧ b / 100 ≤ 4:=by omega
 have h2 : 0 ≤ b % 100 ∧ b % 100 ≤ 99:=by omega
 have h3:=Int.mul_nonneg h1.1 h2.1
 have h4:=Int.mul_le_mul h1.2 h2.2 h2.1 (show (0 : Int) ≤ 4 by omega)
 have w1 : IntKind.i64.wrap (b / 100) = b / 100:=by rw [zI] <;> omega
 have w2 : IntKind.i64.wrap (b % 100) = b % 100:=by rw [zI] <;> omega
 have w3 : IntKind.i64.wrap (b / 100 * (b % 100)) = b / 100 * (b % 100):=by rw [zI] <;> omega
 have hs : scoreOf b = b / 100 * (b % 100):=rfl
 rw [hs]
 refine acalls_st (rs:=[i64 (b / 100 * (b % 100))]) [.tmp 2] Try.func29 rfl (by kernel_rfl) Try.ntmps29 rfl (by simp) rfl fun C vs=>?_
 repeat refine zq ?_
 refine zb fun K hK=>?_;simp only [go_sem];(try simp (disch:=omega) only [zI]);repeat first | intro _ | refine ⟨by omega,?_⟩
 refine hK _ ?_;clear hK K;refine zw (zk [0,2]) ?_;simp only [go_sem]
 repeat refine zq ?_
 refine zb fun K hK=>?_;simp only [go_sem,e1,e2,w1,w2,w3];(try simp (disch:=omega) only [zI]);repeat first | intro _ | refine ⟨by omega,?_⟩
 repeat first | intro _ | refine ⟨by omega,?_⟩
 refine hK _ ?_;clear hK K;refine zw (zk [2]) ?_;simp only [go_sem];refine ze ?_;simp only [go_sem]
def rndL (n : Nat) : List Sp:=List.replicate (n - 1) (0,0) ++ [(1000000,1000000)]
theorem rounds_ok (n : Nat) (h1 : 1 ≤ n) (h2 : n ≤ 100) : ACalls Try.prog 26 [i64 (n : Int)] (spansR (rndL n)):=by
 have ho:=one_mk 1000000
 refine acalls_st (rs:=[spansR (rndL n)]) [.tmp 2] Try.func26 rfl (by kernel_rfl) Try.ntmps26 rfl (by simp) rfl fun C vs=>?_
 repeat refine zq ?_
 refine zb fun K hK=>?_;simp only [go_sem];(try simp (disch:=omega) only [zI]);repeat first | intro _ | refine ⟨by omega,?_⟩
 refine hK _ ?_;clear hK K;refine zw (zk [0,2]) ?_;simp only [go_sem]
 repeat refine zq ?_
 refine zb fun K hK=>?_;simp only [go_sem];(try simp (disch:=omega) only [zI]);repeat first | intro _ | refine ⟨by omega,?_⟩
 refine hK _ ?_;clear hK K;refine zw (sub_own 3 14 30 2 (by omega) rfl) ?_;refine zw (zk [0,2,3]) ?_;simp only [go_sem]
 repeat refine zq ?_
 refine zb fun K hK=>?_;simp only [go_sem];(try simp (disch:=omega) only [zI]);repeat first | intro _ | refine ⟨by omega,?_⟩
 refine hK _ ?_;clear hK K;refine zw (zk [0,2,3,4]) ?_;simp only [go_sem]
 repeat refine zq ?_
 refine zd ?_
 refine awp_uptoV (n:=19) (n - 1) (fun i vs=>[(0,.r (i64 (n : Int))),(3,.os 14 (vs 14) 2 0 i),(4,.r (i64 ((i : Int) + 1)))])
  (fun i vs=>[(14,.arr 30 2 ((List.replicate i ((0,0) : Sp)).map spanR))]) (fun _=>True) 0 (zj [] ?_ ?_) (Nat.zero_le _) trivial ?_
 · try simp only [go_sem]
   try rfl
 · try simp only [go_sem]
   try rfl
 · intro i vs hi _
   have hr : List.replicate (i + 1) ((0,0) : Sp) = List.replicate i (0,0) ++ [(0,0)]:=List.replicate_succ'
   have hrl : (List.replicate i ((0,0) : Sp)).length = i:=List.length_replicate
   rw [hr]
   by_cases hin : i < n - 1
   · have d1 : decide ((i : Int) + 1 < (n : Int)) = true:=decide_eq_true (by omega)
     generalize List.replicate i ((0,0) : Sp) = L at *
     repeat refine zq ?_
     refine zb fun K hK=>?_;simp only [go_sem,d1];(try simp (disch:=omega) only [zI]);repeat first | intro _ | refine ⟨by omega,?_⟩
     refine hK _ ?_;clear hK K;refine zw (zk [0,3,4,8]) ?_;simp only [go_sem]
     repeat refine zq ?_
     refine zc rfl (fun hc=>?_) (fun hc=>?_) <;> (try simp only [go_sem] at hc)
     refine zx ?_
     try simp only [go_sem]
     repeat refine zq ?_
     refine zd ?_
     repeat refine zq ?_
     refine zb fun K hK=>?_;simp only [go_sem,hrl,List.length_map];(try simp (disch:=omega) only [zI]);repeat first | intro _ | refine ⟨by omega,?_⟩
     refine hK _ ?_;clear hK K;refine zw (zk [0,3,4]) ?_;simp only [go_sem]
     repeat refine zq ?_
     refine zb fun K hK=>?_;simp only [go_sem];(try simp (disch:=omega) only [zI]);repeat first | intro _ | refine ⟨by omega,?_⟩
     refine hK _ ?_;clear hK K
     try simp only [go_sem]
     refine ⟨by omega,zj [] ?_ ?_⟩
     · try simp only [go_sem]
     · try simp only [go_sem]
       simp only [List.map_append,List.map_cons,List.map_nil,spanR]
   · have hin2 : i = n - 1:=by omega
     have d1 : decide ((i : Int) + 1 < (n : Int)) = false:=decide_eq_false (by omega)
     have hR : rndL n = List.replicate i (0,0) ++ [(1000000,1000000)]:=by unfold rndL; rw [hin2]
     rw [hR]
     generalize List.replicate i ((0,0) : Sp) = L at *
     repeat refine zq ?_
     refine zb fun K hK=>?_;simp only [go_sem,d1];(try simp (disch:=omega) only [zI]);repeat first | intro _ | refine ⟨by omega,?_⟩
     refine hK _ ?_;clear hK K;refine zw (zk [0,3,4,8]) ?_;simp only [go_sem]
     repeat refine zq ?_
     refine zc rfl (fun hc=>?_) (fun hc=>?_) <;> (try simp only [go_sem] at hc)
     refine zf ?_;simp only [go_sem]
     repeat refine zq ?_
     refine zb fun K hK=>?_;simp only [go_sem];(try simp (disch:=omega) only [zI])
     refine zh (ho) rfl (by simp only [go_sem,i64,ints,hrl,List.length_map]) (by simp only [go_sem,i64,ints,hrl,List.length_map]) (by first | exact .inl rfl | exact .inr rfl) ?_
     (try simp only [go_sem,hrl,List.length_map]);(try simp (disch:=omega) only [zI]);repeat first | intro _ | refine ⟨by omega,?_⟩
     repeat first | intro _ | refine ⟨by omega,?_⟩
     refine hK _ ?_;clear hK K;refine zw (sub_frz (ty:=30) (sz:=2) (off:=0) (m:=i + 1) (es:=L.map spanR ++ [[i64 1000000,i64 1000000]]) 2 14 (by omega) rfl (by rfl) (by simp [hrl])) ?_;refine zw (zk [2]) ?_;simp only [go_sem]
     have tk : List.take (i + 1) (L.map spanR ++ [[i64 1000000,i64 1000000]]) = L.map spanR ++ [[i64 1000000,i64 1000000]]:=List.take_of_length_le (by simp [hrl])
     try rw [tk]
     refine ze ?_;simp only [go_sem]
     try simp only [List.map_append,List.map_cons,List.map_nil,spanR]
     try rfl
def popB (g b : Int) : Bool:=(b != 0) && (((g == 0) || (b / 100 == 2)) || ((g == 2) && decide (2 < b / 100)))
theorem popens_ok (g b : Int) (hb : 0 ≤ b ∧ b ≤ 499) : ACalls Try.prog 30 [i64 g,i64 b] (.bo (popB g b)):=by
 have e1 : Int.tdiv b 100 = b / 100:=Int.tdiv_eq_ediv_of_nonneg hb.1
 have w1 : IntKind.i64.wrap (b / 100) = b / 100:=by rw [zI] <;> omega
 unfold popB
 refine acalls_st (rs:=[.bo ((b != 0) && (((g == 0) || (b / 100 == 2)) || ((g == 2) && decide (2 < b / 100))))]) [.tmp 4] Try.func30 rfl (by kernel_rfl) Try.ntmps30 rfl (by simp) rfl fun C vs=>?_
 repeat refine zq ?_
 refine zb fun K hK=>?_;simp only [go_sem];(try simp (disch:=omega) only [zI]);repeat first | intro _ | refine ⟨by omega,?_⟩
 refine hK _ ?_;clear hK K;refine zw (zk [0,1,4]) ?_;simp only [go_sem]
 cases h1 : (b != 0) <;> cases h2 : (g == 0) <;> cases h3 : (b / 100 == 2) <;> cases h4 : (g == 2) <;> cases h5 : decide (2 < b / 100)
 all_goals (refine zq ?_)
 all_goals (refine zb fun K hK=>?_)
 all_goals (simp only [go_sem,e1,w1,h1,h2,h3,h4,h5])
 all_goals (repeat first | intro _ | refine ⟨by omega,?_⟩)
 all_goals (refine hK _ ?_; clear hK K)
 all_goals (refine ze ?_; simp only [go_sem])
 all_goals rfl
end Go.Proofs.Ytlljkgiomkmjbaa.Du

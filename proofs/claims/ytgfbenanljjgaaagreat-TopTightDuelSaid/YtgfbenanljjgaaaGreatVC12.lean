/- For all laws made of bytes, starts, gates and chances of an opponent, the given function TopTightDuel returns true: a law with the least spans has the same tables against an opponent, and the same numbers of visits. -/
import Derived.Test.YtgfbenanljjgaaaGreatVC11
import Derived.Test.YtgfbenanljjgaaaGreatVC5
import Derived.ChangeShapes
import Derived.WideShapes
import Derived.OpenShut
import Derived.ShutString
import Derived.ChangeOld
import Derived.Carry
import Derived.Below
import Derived.Test.YtgfbenanljjgaaaGreatRows
import Derived.JoinedOf
set_option linter.unusedSimpArgs false
set_option linter.unusedVariables false
namespace Go.Proofs.YtgfbenanljjgaaaGreat.Du
open Go Go.Oc
set_option maxRecDepth 8000
set_option maxHeartbeats 4000000
abbrev enL (e0 : Sp) (n : Nat) : List Sp:=(List.replicate n e0).set (n - 1) (1000000,1000000)
theorem en_ok {e0 : Sp} (h0 : 0 ≤ e0.1 ∧ e0.1 ≤ e0.2 ∧ e0.2 ≤ 1000000) {n : Nat} (hn : 1 ≤ n) : (enL e0 n).length = n ∧ (∀ x ∈ enL e0 n,endOk x = true) ∧ (enL e0 n).getD (n - 1) (0,0) = (1000000,1000000):=by
 refine ⟨by simp,fun x hx=>?_,?_⟩
 · rcases List.mem_or_eq_of_mem_set hx with h | rfl
   · rw [(List.mem_replicate.1 h).2];exact endOk_mk h0
   · decide
 · rw [List.getD_eq_getElem?_getD,List.getElem?_set_self (by simp;omega)];rfl
theorem tabT_len {r : Th.Ai.Rk} (hr : Th.Ai.ROk r) (s : Bool) : ((Th.Ai.tabT r s).length : Int) = r.start + 1:=by
 have h:=(Th.Ai.tab_eq hr s (Th.Ai.cntA r) (Nat.le_refl _)).2.1
 have hs:=hr.start
 show (((Th.Ai.tabT r s).length : Nat) : Int) = _
 have : (Th.Ai.tabT r s).length = (r.start + 1).toNat:=h
 omega
structure EqT (A B C E : List (List Int)) (U V M W : List Int) (n st : Nat) : Prop where
 a : A.length = n ∧ ∀ r ∈ A,r.length = st + 1
 b : B.length = n ∧ ∀ r ∈ B,r.length = st + 1
 c : C.length = n ∧ ∀ r ∈ C,r.length = st + 1
 e : E.length = n ∧ ∀ r ∈ E,r.length = st + 1
 u : U.length = st + 1
 v : V.length = st + 1
 m : M.length = st + 1
 w : W.length = st + 1
 low : ∀ k y,y ≤ st → (C.getD k []).getD y 0 = (A.getD k []).getD y 0
 high : ∀ k y,y ≤ st → (E.getD k []).getD y 0 = (B.getD k []).getD y 0
 up : ∀ y,y ≤ st → M.getD y 0 = U.getD y 0
 lw : ∀ y,y ≤ st → W.getD y 0 = V.getD y 0
theorem tight_all {d : Int} {l : List Am} {st n : Nat} {g : Int} {e0 : Sp} (hc : checkV d l = 0) (hs : 2 ≤ st ∧ st ≤ 40) (hg : 0 ≤ g ∧ g ≤ 2) (hn : 1 ≤ n ∧ n ≤ 10) (h0 : 0 ≤ e0.1 ∧ e0.1 ≤ e0.2 ∧ e0.2 ≤ 1000000) :
 checkV d (l.map (Th.tightA d)) = 0 ∧ ruE ⟨d,l,st,g,enL e0 n⟩ = 0 ∧ ruE ⟨d,l.map (Th.tightA d),st,g,enL e0 n⟩ = 0 ∧ Th.Ai.checkR ⟨d,l,st,g⟩ = 0 ∧ Th.Ai.checkR ⟨d,l.map (Th.tightA d),st,g⟩ = 0 ∧
 EqT (tabF ⟨d,l,st,g,enL e0 n⟩ false) (tabF ⟨d,l,st,g,enL e0 n⟩ true) (tabF ⟨d,l.map (Th.tightA d),st,g,enL e0 n⟩ false) (tabF ⟨d,l.map (Th.tightA d),st,g,enL e0 n⟩ true)
  (Th.Ai.tabT ⟨d,l,st,g⟩ false) (Th.Ai.tabT ⟨d,l,st,g⟩ true) (Th.Ai.tabT ⟨d,l.map (Th.tightA d),st,g⟩ false) (Th.Ai.tabT ⟨d,l.map (Th.tightA d),st,g⟩ true) n st:=by
 obtain ⟨q1,q2,q3⟩:=en_ok h0 hn.1
 have hck : ∀ x,checkV d x = 0 → Th.Ai.checkR ⟨d,x,st,g⟩ = 0:=fun x hx=>by
  unfold Th.Ai.checkR
  rw [if_pos hx,if_pos ⟨⟨by simp only;omega,by simp only;omega⟩,hg⟩]
 have hk:=hck l hc
 have hr:=(Th.Ai.checkR_zero hk).2
 have hc':=tight_checkV hr.aims hc
 have hk':=hck _ hc'
 have hr':=(Th.Ai.checkR_zero hk').2
 have key : ∀ x,checkV d x = 0 → ruE ⟨d,x,st,g,enL e0 n⟩ = 0:=fun x hx =>
  ruE_of hx (by simp only;omega) hg (by simp only;rw [q1];exact hn) q2 (by unfold lastE;simp only;rw [q1,q3])
 have h:=key l hc
 have h':=key _ hc'
 have t1:=tab_rows h false
 have t2:=tab_rows h true
 have t3:=tab_rows h' false
 have t4:=tab_rows h' true
 simp only [q1,Int.toNat_natCast] at t1 t2 t3 t4
 have l1:=tabT_len hr false
 have l2:=tabT_len hr true
 have l3:=tabT_len hr' false
 have l4:=tabT_len hr' true
 simp only at l1 l2 l3 l4
 exact ⟨hc',h,h',hk,hk',t1,t2,t3,t4,by omega,by omega,by omega,by omega,fun k y hy=>tight_duel h h' hr.aims false k y (by omega),fun k y hy=>tight_duel h h' hr.aims true k y (by omega),
  fun y hy=>Th.Ai.tight_tab hr false y (by omega),fun y hy=>Th.Ai.tight_tab hr true y (by omega)⟩
theorem tightduel_law (den : Nat) (hd : den < 256) (A0 : List (List Nat)) (hA0 : ∀ a ∈ A0,a.length = 12 ∧ ∀ n ∈ a,n < 256) (x0 x1 x2 x3 x4 : Nat) (h0 : x0 < 256) (h1 : x1 < 256) (h2 : x2 < 256) (h3 : x3 < 256) (h4 : x4 < 256) :
 ACalls Tryz.prog 6 [u8Q den,.sl 12 (A0.map fun a=>a.map u8Q),.ag [u8Q x0,u8Q x1,u8Q x2,u8Q x3,u8Q x4]] (.bo true):=by
 have hk1:=pubThrow_ok
 have hk2:=pubDuel_ok
 have hk3:=Th.Ai.pubAim_ok
 have hsc:=scatter_ok den hd A0 hA0
 have hmod:=Nat.mod_lt den (show 60 > 0 by omega)
 have hL0:=scL_ok (d:=((4 + den % 60 : Nat) : Int)) (by omega) (fun a ha=>(hA0 a ha).2)
 have hLl:=scL_len ((4 + den % 60 : Nat) : Int) A0
 have hLa:=scL_all (d:=((4 + den % 60 : Nat) : Int)) (by omega) (A:=A0) (fun a ha=>(hA0 a ha).2)
 generalize hD : 4 + den % 60 = D at *
 have hD64 : 4 ≤ D ∧ D < 64:=by omega
 generalize scL (D : Int) A0 = L at *
 have hne : L ≠ []:=fun e=>by subst e;simp at hLl
 have hwL:=wfL_chk hL0 (by omega)
 have hlaw:=law_ok (D : Int) L (by omega) (fun a ha=>by have:=(hLa a ha).2;omega)
 have m0:=Nat.mod_lt x0 (show 5 > 0 by omega)
 have m1:=Nat.mod_lt x1 (show 3 > 0 by omega)
 have m4:=Nat.mod_lt x4 (show 4 > 0 by omega)
 have k0 : IntKind.i64.wrap (x0 : Int) = x0:=by rw [zI] <;> omega
 have k1 : IntKind.i64.wrap (x1 : Int) = x1:=by rw [zI] <;> omega
 have k2 : IntKind.i64.wrap (x2 : Int) = x2:=by rw [zI] <;> omega
 have k3 : IntKind.i64.wrap (x3 : Int) = x3:=by rw [zI] <;> omega
 have k4 : IntKind.i64.wrap (x4 : Int) = x4:=by rw [zI] <;> omega
 have r0 : Int.tmod (x0 : Int) 5 = ((x0 % 5 : Nat) : Int):=rfl
 have r1 : Int.tmod (x1 : Int) 3 = ((x1 % 3 : Nat) : Int):=rfl
 have r4 : Int.tmod (x4 : Int) 4 = ((x4 % 4 : Nat) : Int):=rfl
 have w0 : IntKind.i64.wrap (2 + ((x0 % 5 : Nat) : Int)) = ((2 + x0 % 5 : Nat) : Int):=by rw [zI] <;> omega
 obtain ⟨e1,he1⟩ : ∃ e : Int,e = 3000 * (x2 : Int):=⟨_,rfl⟩
 obtain ⟨e2,he2⟩ : ∃ e : Int,e = e1 + 900 * (x3 : Int):=⟨_,rfl⟩
 have w2 : IntKind.i64.wrap (3000 * (x2 : Int)) = e1:=by rw [zI] <;> omega
 have w3 : IntKind.i64.wrap (900 * (x3 : Int)) = 900 * (x3 : Int):=by rw [zI] <;> omega
 have w23 : IntKind.i64.wrap (e1 + 900 * (x3 : Int)) = e2:=by rw [zI] <;> omega
 have w4 : IntKind.i64.wrap (1 + ((x4 % 4 : Nat) : Int)) = ((1 + x4 % 4 : Nat) : Int):=by rw [zI] <;> omega
 generalize hst : 2 + x0 % 5 = st at *
 have hst2 : 2 ≤ st ∧ st ≤ 6:=by omega
 generalize hg : x1 % 3 = g at *
 generalize hn : 1 + x4 % 4 = n at *
 have hn2 : 1 ≤ n ∧ n ≤ 4:=by omega
 have he0 : 0 ≤ e1 ∧ e1 ≤ e2 ∧ e2 ≤ 1000000:=by omega
 have hsp:=span_mk e1 e2
 have hti:=Th.Tight_ok (D : Int) L hwL
 rw [if_pos hL0,hL0] at hti
 obtain ⟨c1,c2,c3,c4,c5,hB⟩:=tight_all (d:=(D : Int)) (l:=L) (st:=st) (n:=n) (g:=(g : Int)) (e0:=(e1,e2)) hL0 (by omega) (by omega) (by omega) he0
 generalize hT : L.map (Th.tightA (D : Int)) = T at *
 have hwT:=wfL_chk c1 (by omega)
 have ht1:=table_ok ⟨(D : Int),L,(st : Int),(g : Int),enL (e1,e2) n⟩ ⟨hwL⟩
 have ht2:=table_ok ⟨(D : Int),T,(st : Int),(g : Int),enL (e1,e2) n⟩ ⟨hwT⟩
 unfold tabsV at ht1 ht2
 rw [if_pos c2,if_pos c2,c2] at ht1
 rw [if_pos c3,if_pos c3,c3] at ht2
 have ha1:=Th.Ai.table_ok ⟨(D : Int),L,(st : Int),(g : Int)⟩ hwL
 have ha2:=Th.Ai.table_ok ⟨(D : Int),T,(st : Int),(g : Int)⟩ hwT
 rw [if_pos c4,if_pos c4,c4] at ha1
 rw [if_pos c5,if_pos c5,c5] at ha2
 have hem : spansR (enL (e1,e2) n) = .sl 2 ((List.replicate n [i64 e1,i64 e2]).set (n - 1) [i64 1000000,i64 1000000]):=by
  unfold spansR enL;rw [List.map_set,List.map_replicate];rfl
 have ht1' : ACalls Tryz.prog 24 [.ag [i64 (D : Int),aimsR L,i64 (st : Int),i64 (g : Int),spansR (enL (e1,e2) n)]] _:=ht1
 have ht2' : ACalls Tryz.prog 24 [.ag [i64 (D : Int),aimsR T,i64 (st : Int),i64 (g : Int),spansR (enL (e1,e2) n)]] _:=ht2
 have ha1' : ACalls Tryz.prog 22 [.ag [i64 (D : Int),aimsR L,i64 (st : Int),i64 (g : Int)]] _:=ha1
 have ha2' : ACalls Tryz.prog 22 [.ag [i64 (D : Int),aimsR T,i64 (st : Int),i64 (g : Int)]] _:=ha2
 rw [hem] at ht1' ht2'
 clear ht1 ht2 ha1 ha2
 generalize tabF ⟨(D : Int),L,(st : Int),(g : Int),enL (e1,e2) n⟩ false = A at *
 generalize tabF ⟨(D : Int),L,(st : Int),(g : Int),enL (e1,e2) n⟩ true = B at *
 generalize tabF ⟨(D : Int),T,(st : Int),(g : Int),enL (e1,e2) n⟩ false = C2 at *
 generalize tabF ⟨(D : Int),T,(st : Int),(g : Int),enL (e1,e2) n⟩ true = E at *
 generalize Th.Ai.tabT ⟨(D : Int),L,(st : Int),(g : Int)⟩ false = U at *
 generalize Th.Ai.tabT ⟨(D : Int),L,(st : Int),(g : Int)⟩ true = V at *
 generalize Th.Ai.tabT ⟨(D : Int),T,(st : Int),(g : Int)⟩ false = M at *
 generalize Th.Ai.tabT ⟨(D : Int),T,(st : Int),(g : Int)⟩ true = W at *
 have hq1:=tables_ok A B n st (by omega) (by omega) hB.a hB.b
 have hq2:=tables_ok C2 E n st (by omega) (by omega) hB.c hB.e
 have lU:=hB.u
 have lV:=hB.v
 have lM:=hB.m
 have lW:=hB.w
 have ho:=one_mk 1000000
 have z0 : ((0 : Int) != 0) = false:=rfl
 refine zas (rs:=[.bo true]) [.tmp 6] Tryz.func6 rfl (by kernel_rfl) Tryz.ntmps6 rfl (by simp) rfl fun C vs=>?_
 apply zq
 refine zb fun K hK=>?_;simp only [go_sem];apply hK;clear hK K;refine zw (zfP 5 5 [u8Q x0,u8Q x1,u8Q x2,u8Q x3,u8Q x4] (by omega) rfl rfl) ?_;apply zw (zk [0,1,5]);simp only [go_sem]
 apply zq
 refine zb fun K hK=>?_;simp only [go_sem]
 refine zh (hsc) rfl (by simp only [go_sem,i64,ints]) (by simp only [go_sem,i64,ints]) ?_
 (try simp only [go_sem]);apply hK;clear hK K;refine zw (zfP 7 7 [i64 (D : Int),aimsR L] (by omega) rfl rfl) ?_;apply zw (zk [5,7]);simp only [go_sem]
 apply zq
 refine zb fun K hK=>?_;simp only [go_sem]
 refine zh (hlaw) rfl (by simp only [go_sem,i64,ints]) (by simp only [go_sem,i64,ints]) ?_
 (try simp only [go_sem])
 refine zh (hti) rfl (by simp only [go_sem,i64,ints]) (by simp only [go_sem,i64,ints]) ?_
 (try simp only [go_sem]);apply hK;clear hK K;refine zw (zfP 8 8 [i64 (D : Int),aimsR T] (by omega) rfl rfl) ?_;apply zw (zk [5,7,8,9]);simp only [go_sem]
 apply zq
 refine zg follows (by decide +kernel) (by kernel_rfl) fun K hK=>?_;simp only [go_sem,k0,k1,r0,r1,w0];apply hK;clear hK K;apply zw (zk [5,7,8,9,10,11]);simp only [go_sem]
 apply zq
 refine awp_long ?_
 refine sops_take 14 (by kernel_rfl) fun K hK=>?_
 simp only [go_sem,List.take_succ_cons,List.take_zero,List.drop_succ_cons,List.drop_zero,List.append_eq,List.cons_append,List.nil_append,k2,k3,w2,w3,w23]
 refine zh (hsp) rfl (by simp only [go_sem,i64,ints]) (by simp only [go_sem,i64,ints]) ?_
 (try simp only [go_sem])
 refine hK _ rfl ?_
 clear hK K
 refine sops_sub (zk [5,7,8,9,10,11,58]) ?_
 simp only [go_sem]
 refine sops_own (by simp [go_sem]) ?_
 simp only [go_sem,sBuildOwn]
 repeat first | refine ⟨by omega,?_⟩
 refine sops_end (by kernel_rfl) fun K hK=>?_
 simp only [go_sem,List.drop_succ_cons,List.drop_zero,List.append_eq,List.cons_append,List.nil_append];apply hK;clear hK K;apply zw (zk [5,7,8,9,10,11,12]);simp only [go_sem]
 apply zq
 apply zd
 refine zuv (n:=252) (n - 1) (fun i vs=>[(5,.r (.rp [u8Q x0,u8Q x1,u8Q x2,u8Q x3,u8Q x4])),(7,.r (.rp [i64 (D : Int),aimsR L])),(8,.r (.rp [i64 (D : Int),aimsR T])),(9,.r (i64 0)),(10,.r (i64 (st : Int))),(11,.r (i64 (g : Int))),(12,.os 59 (vs 59) 2 0 (i + 1))])
  (fun i vs=>[(59,.arr 48 2 (List.replicate (i + 1) [i64 e1,i64 e2]))]) (fun _=>True) 0 (zj [] ?_ ?_) (Nat.zero_le _) trivial ?_
 · try simp only [go_sem]
   try rfl
 · try simp only [go_sem]
   try rfl
 intro i vs hi _
 by_cases hin : i < n - 1
 · have wi : IntKind.i64.wrap ((i : Int) + 1) = (i : Int) + 1:=by rw [zI] <;> omega
   have d1 : decide ((i : Int) + 1 < (n : Int)) = true:=decide_eq_true (by omega)
   have d1' : decide (((i + 1 : Nat) : Int) < (n : Int)) = true:=decide_eq_true (by omega)
   have d2 : i + 1 < n:=by omega
   have hrl : (List.replicate (i + 1) [i64 e1,i64 e2]).length = i + 1:=by simp
   have hr0 : (List.replicate (i + 1) [i64 e1,i64 e2]).getD 0 [] = [i64 e1,i64 e2]:=by simp [List.replicate_succ]
   have hrep : List.replicate (i + 1 + 1) [i64 e1,i64 e2] = List.replicate (i + 1) [i64 e1,i64 e2] ++ [[i64 e1,i64 e2]]:=List.replicate_succ'
   rw [hrep]
   generalize List.replicate (i + 1) [i64 e1,i64 e2] = J at *
   repeat apply zq
   refine zb fun K hK=>?_;simp only [go_sem,k4,r4,w4,d1,d1',d2,hrl]
   intro _
   apply hK;clear hK K;apply zw (zk [5,7,8,9,10,11,12,67]);simp only [go_sem]
   apply zc rfl <;> intro hc <;> (try simp only [go_sem] at hc)
   apply zx
   try simp only [go_sem]
   apply zd;refine zb fun K hK=>?_;simp only [go_sem,hrl,hr0]
   repeat refine ⟨by omega,?_⟩
   apply hK;clear hK K
   try simp only [go_sem]
   refine ⟨by omega,zj [] ?_ ?_⟩
   · try simp only [go_sem]
   · try simp only [go_sem]
 have hin2 : i = n - 1:=by omega
 subst hin2
 have en1 : n - 1 + 1 = n:=by omega
 rw [en1]
 have d1 : decide ((n : Int) < (n : Int)) = false:=decide_eq_false (by omega)
 have hrl : (List.replicate n [i64 e1,i64 e2]).length = n:=by simp
 have hlt : n - 1 < n:=by omega
 have wn : IntKind.i64.wrap ((n : Int) - 1) = ((n - 1 : Nat) : Int):=by rw [zI] <;> omega
 have hgl : (List.replicate n [i64 e1,i64 e2]).getD (n - 1) [] = [i64 e1,i64 e2]:=by
  rw [List.getD_eq_getElem?_getD,List.getElem?_replicate,if_pos hlt];rfl
 have htk : ((List.replicate n [i64 e1,i64 e2]).set (n - 1) [i64 1000000,i64 1000000]).length = n:=by simp
 generalize List.replicate n [i64 e1,i64 e2] = J at *
 repeat apply zq
 refine zb fun K hK=>?_;simp only [go_sem,k4,r4,w4,Nat.lt_irrefl,hrl]
 intro _
 apply hK;clear hK K;apply zw (zk [5,7,8,9,10,11,12,67]);simp only [go_sem]
 apply zc rfl <;> intro hc <;> (try simp only [go_sem] at hc)
 apply zf;simp only [go_sem]
 apply zq
 refine zb fun K hK=>?_;simp only [go_sem,wn,hrl,hlt]
 intro _
 refine zh (ho) rfl (by simp only [go_sem,i64,ints,wn,hrl,hlt]) (by simp only [go_sem,i64,ints,wn,hrl,hlt]) ?_
 (try simp only [go_sem,wn,hrl,hlt]);apply hK;clear hK K;rw [hgl]
 refine zw (sub_frz (ty:=48) (sz:=2) (off:=0) (m:=n) (es:=J.set (n - 1) [i64 1000000,i64 1000000]) 12 59 (by omega) rfl (by rfl) (by rw [htk];omega)) ?_;rw [List.drop_zero,List.take_of_length_le (Nat.le_of_eq htk)]
 apply zw (zk [7,8,9,10,11,12]);simp only [go_sem]
 apply zq
 refine zb fun K hK=>?_;simp only [go_sem]
 refine zh (ht1') rfl (by simp only [go_sem,i64,ints]) (by simp only [go_sem,i64,ints]) ?_
 (try simp only [go_sem]);apply hK;clear hK K;apply zw (zk [7,8,9,10,11,12,13,14,15]);simp only [go_sem]
 apply zq
 refine zb fun K hK=>?_;simp only [go_sem]
 refine zh (ht2') rfl (by simp only [go_sem,i64,ints]) (by simp only [go_sem,i64,ints]) ?_
 (try simp only [go_sem]);apply hK;clear hK K;apply zw (zk [7,8,9,10,11,12,13,14,15,16,17,18]);simp only [go_sem]
 apply zq
 refine zb fun K hK=>?_;simp only [go_sem]
 refine zh (ha1') rfl (by simp only [go_sem,i64,ints]) (by simp only [go_sem,i64,ints]) ?_
 (try simp only [go_sem]);apply hK;clear hK K;apply zw (zk [8,9,10,11,12,13,14,15,16,17,18,19,20,21]);simp only [go_sem]
 apply zq
 refine zb fun K hK=>?_;simp only [go_sem]
 refine zh (ha2') rfl (by simp only [go_sem,i64,ints]) (by simp only [go_sem,i64,ints]) ?_
 (try simp only [go_sem]);apply hK;clear hK K;apply zw (zk [9,10,12,13,14,15,16,17,18,19,20,21,22,23,24]);simp only [go_sem]
 have ws : IntKind.i64.wrap ((st : Int) + 1) = ((st + 1 : Nat) : Int):=by rw [zI] <;> omega
 have yl : (((st + 1 : Nat) : Int) != ((st + 1 : Nat) : Int)) = false:=by simp
 have yl2 : ((st : Int) + 1 != (st : Int) + 1) = false:=by simp
 repeat apply zq
 refine zb fun K hK=>?_;simp only [go_sem,z0,htk]
 intro _
 refine zh (hq1) rfl (by simp only [go_sem,i64,ints,z0,htk]) (by simp only [go_sem,i64,ints,z0,htk]) ?_
 (try simp only [go_sem,z0,htk])
 intro _
 refine zh (hq2) rfl (by simp only [go_sem,i64,ints,z0,htk,lU,lV,lM,lW,ws,yl,yl2]) (by simp only [go_sem,i64,ints,z0,htk,lU,lV,lM,lW,ws,yl,yl2]) ?_
 (try simp only [go_sem,z0,htk,lU,lV,lM,lW,ws,yl,yl2])
 repeat intro _
 apply hK;clear hK K;apply zw (zk [10,12,13,14,16,17,19,20,22,23,181]);simp only [go_sem]
 apply zc rfl <;> intro hc <;> (try simp only [go_sem] at hc)
 apply zx
 try simp only [go_sem]
 repeat apply zq
 refine zb fun K hK=>?_;simp only [go_sem];apply hK;clear hK K;apply zw (zk [10,12,13,14,16,17,19,20,22,23,25]);simp only [go_sem];apply zd
 refine zuv (n:=252) (st + 1) (fun y vs=>[(10,.r (i64 (st : Int))),(12,.r (.sl 2 (J.set (n - 1) [i64 1000000,i64 1000000]))),(13,.r (tabR A)),(14,.r (tabR B)),(16,.r (tabR C2)),(17,.r (tabR E)),(19,.r (ints U)),(20,.r (ints V)),(22,.r (ints M)),(23,.r (ints W)),(25,.r (i64 (y : Int)))])
  (fun y vs=>[]) (fun _=>True) 0 (zj [] ?_ ?_) (Nat.zero_le _) trivial ?_
 · try simp only [go_sem]
   try rfl
 · try simp only [go_sem]
   try rfl
 intro y vs hy _
 by_cases hyn : y < st + 1
 · have g2 : decide ((y : Int) ≤ (st : Int)) = true:=decide_eq_true (by omega)
   have g2' : y ≤ st:=by omega
   have wy : IntKind.i64.wrap ((y : Int) + 1) = (y : Int) + 1:=by rw [zI] <;> omega
   repeat apply zq
   refine zb fun K hK=>?_;simp only [go_sem,g2,g2'];apply hK;clear hK K;apply zw (zk [10,12,13,14,16,17,19,20,22,23,25,184]);simp only [go_sem]
   apply zc rfl <;> intro hc <;> (try simp only [go_sem] at hc)
   apply zx
   try simp only [go_sem]
   apply zq
   apply zd
   repeat apply zq
   refine zb fun K hK=>?_;simp only [go_sem];apply hK;clear hK K;apply zw (zk [10,12,13,14,16,17,19,20,22,23,25,26]);simp only [go_sem];apply zd
   refine zuv (n:=252) n (fun k vs=>[(10,.r (i64 (st : Int))),(12,.r (.sl 2 (J.set (n - 1) [i64 1000000,i64 1000000]))),(13,.r (tabR A)),(14,.r (tabR B)),(16,.r (tabR C2)),(17,.r (tabR E)),(19,.r (ints U)),(20,.r (ints V)),(22,.r (ints M)),(23,.r (ints W)),(25,.r (i64 (y : Int))),(26,.r (i64 (k : Int)))])
    (fun k vs=>[]) (fun _=>True) 0 (zj [] ?_ ?_) (Nat.zero_le _) trivial ?_
   · try simp only [go_sem]
     try rfl
   · try simp only [go_sem]
     try rfl
   intro k vs hk _
   by_cases hkn : k < n
   · have g1 : decide ((k : Int) < (n : Int)) = true:=decide_eq_true (by omega)
     have wk : IntKind.i64.wrap ((k : Int) + 1) = (k : Int) + 1:=by rw [zI] <;> omega
     obtain ⟨ra,hra⟩:=zol (l:=A) (i:=k) (by rw [hB.a.1];omega)
     obtain ⟨rb,hrb⟩:=zol (l:=B) (i:=k) (by rw [hB.b.1];omega)
     obtain ⟨rc,hrc⟩:=zol (l:=C2) (i:=k) (by rw [hB.c.1];omega)
     obtain ⟨re,hre⟩:=zol (l:=E) (i:=k) (by rw [hB.e.1];omega)
     have la:=hB.a.2 ra (zmo hra)
     have lb:=hB.b.2 rb (zmo hrb)
     have lc:=hB.c.2 rc (zmo hrc)
     have le:=hB.e.2 re (zmo hre)
     have kA:=hB.a.1
     have kB:=hB.b.1
     have kC:=hB.c.1
     have kE:=hB.e.1
     obtain ⟨va,hva⟩:=zol (l:=ra) (i:=y) (by omega)
     obtain ⟨vb,hvb⟩:=zol (l:=rb) (i:=y) (by omega)
     obtain ⟨vc,hvc⟩:=zol (l:=rc) (i:=y) (by omega)
     obtain ⟨ve,hve⟩:=zol (l:=re) (i:=y) (by omega)
     have lo:=hB.low k y g2'
     have hi2:=hB.high k y g2'
     simp only [List.getD_eq_getElem?_getD,hra,hrc,Option.getD_some,hva,hvc] at lo
     simp only [List.getD_eq_getElem?_getD,hrb,hre,Option.getD_some,hvb,hve] at hi2
     subst lo
     subst hi2
     have q1 : (vc != vc) = false:=by simp
     have q2 : (ve != ve) = false:=by simp
     repeat apply zq
     refine zb fun K hK=>?_;simp only [go_sem,g1,hkn,htk]
     intro _
     apply hK;clear hK K;apply zw (zk [10,12,13,14,16,17,19,20,22,23,25,26,190]);simp only [go_sem]
     apply zc rfl <;> intro hc <;> (try simp only [go_sem] at hc)
     apply zx
     try simp only [go_sem]
     apply zq
     apply zd
     apply zq
     refine zg follows (by decide +kernel) (by kernel_rfl) fun K hK=>?_;simp only [go_sem,hra,hrb,hrc,hre,hva,hvb,hvc,hve,la,lb,lc,le,kA,kB,kC,kE,hkn,hyn,q1,q2,List.length_map]
     repeat refine ⟨by omega,?_⟩
     apply hK;clear hK K;apply zw (zk [10,12,13,14,16,17,19,20,22,23,25,26,224]);simp only [go_sem]
     apply zc rfl <;> intro hc <;> (try simp only [go_sem] at hc)
     apply zx
     try simp only [go_sem]
     refine zb fun K hK=>?_;simp only [go_sem,wk];apply hK;clear hK K
     try simp only [go_sem]
     refine ⟨by omega,zj [] ?_ ?_⟩
     · try simp only [go_sem]
     · try simp only [go_sem]
   · have hke : k = n:=by omega
     subst hke
     obtain ⟨vu,hvu⟩:=zol (l:=U) (i:=y) (by omega)
     obtain ⟨vv,hvv⟩:=zol (l:=V) (i:=y) (by omega)
     obtain ⟨vm,hvm⟩:=zol (l:=M) (i:=y) (by omega)
     obtain ⟨vw,hvw⟩:=zol (l:=W) (i:=y) (by omega)
     have up:=hB.up y g2'
     have lw:=hB.lw y g2'
     simp only [List.getD_eq_getElem?_getD,Option.getD_some,hvu,hvm] at up
     simp only [List.getD_eq_getElem?_getD,Option.getD_some,hvv,hvw] at lw
     subst up
     subst lw
     have q1 : (vm != vm) = false:=by simp
     have q2 : (vw != vw) = false:=by simp
     repeat apply zq
     refine zb fun K hK=>?_;simp only [go_sem,Nat.lt_irrefl,htk]
     intro _
     apply hK;clear hK K;apply zw (zk [10,12,13,14,16,17,19,20,22,23,25,190]);simp only [go_sem]
     apply zc rfl <;> intro hc <;> (try simp only [go_sem] at hc)
     apply zf;simp only [go_sem]
     apply zq
     refine zg follows (by decide +kernel) (by kernel_rfl) fun K hK=>?_;simp only [go_sem,hvu,hvv,hvm,hvw,lU,lV,lM,lW,hyn,q1,q2,List.length_map]
     repeat refine ⟨by omega,?_⟩
     apply hK;clear hK K;apply zw (zk [10,12,13,14,16,17,19,20,22,23,25,244]);simp only [go_sem]
     apply zc rfl <;> intro hc <;> (try simp only [go_sem] at hc)
     apply zx
     try simp only [go_sem]
     refine zb fun K hK=>?_;simp only [go_sem,wy];apply hK;clear hK K
     try simp only [go_sem]
     refine ⟨by omega,zj [] ?_ ?_⟩
     · try simp only [go_sem]
     · try simp only [go_sem]
 have hye : y = st + 1:=by omega
 subst hye
 have g2 : ¬ (st + 1 ≤ st):=by omega
 have g3 : decide (((st + 1 : Nat) : Int) ≤ (st : Int)) = false:=decide_eq_false (by omega)
 have g4 : ¬ ((st : Int) + 1 ≤ (st : Int)):=by omega
 repeat apply zq
 refine zb fun K hK=>?_;simp only [go_sem,g3,g2,g4];apply hK;clear hK K;apply zw (zk [184]);simp only [go_sem]
 apply zc rfl <;> intro hc <;> (try simp only [go_sem] at hc)
 apply zf;simp only [go_sem]
 apply zq
 refine zb fun K hK=>?_;simp only [go_sem]
 refine zh (hk1) rfl (by simp only [go_sem,i64,ints]) (by simp only [go_sem,i64,ints]) ?_
 (try simp only [go_sem])
 refine zh (hk3) rfl (by simp only [go_sem,i64,ints]) (by simp only [go_sem,i64,ints]) ?_
 (try simp only [go_sem])
 refine zh (hk2) rfl (by simp only [go_sem,i64,ints]) (by simp only [go_sem,i64,ints]) ?_
 (try simp only [go_sem]);apply hK;clear hK K;apply zw (zk [6]);simp only [go_sem];apply ze;simp only [go_sem]
 try rfl
end Go.Proofs.YtgfbenanljjgaaaGreat.Du

namespace Go.Oc
open Go Go.RowKit Go.ChangeShapes Go.WideShapes
inductive Sh where
 | int (k : IntKind)
 | bool
 | sl (es : List Sh)
def fieldsSh (P : Program) (sh : TypeId → Option (List Sh)) : List Field → Nat → Option (List Sh)
 | [],_=>some []
 | f :: fs, o =>
   match sh f.type with
   | some ss=>if f.offset == o && ss.length == P.cellsOf f.type then match fieldsSh P sh fs (o + ss.length) with | some q=>some (ss ++ q) | none=>none else none
   | none=>none
def shape (P : Program) : Nat → TypeId → Option (List Sh)
 | 0,_=>none
 | n + 1, t =>
   match P.underlying t with
   | some (.int k)=>some [.int k]
   | some .bool=>some [.bool]
   | some (.slice e) =>
     match shape P n e with
     | some ss=>if ss.length == P.cellsOf e && decide (0 < ss.length) then some [.sl ss] else none
     | none=>none
   | some (.array m e) =>
     match shape P n e with
     | some ss=>if ss.length == P.cellsOf e && P.cellsOf t == m * ss.length then some (List.replicate m ss).flatten else none
     | none=>none
   | some (.struct fs) =>
     match fieldsSh P (shape P n) fs.toList 0 with
     | some ss=>if ss.length == P.cellsOf t then some ss else none
     | none=>none
   | _=>none
mutual
def Fits : Sh → RV → Prop
 | .int k,x=>∃ n,x = .it k n ∧ (Lit.int k n).wf = true
 | .bool,x=>∃ b,x = .bo b
 | .sl ss,x=>∃ es,x = .sl ss.length es ∧ FitsE ss es
def FitsL : List Sh → List RV → Prop
 | [],xs=>xs = []
 | s :: ss,xs=>∃ y ys,xs = y :: ys ∧ Fits s y ∧ FitsL ss ys
def FitsE (ss : List Sh) : List (List RV) → Prop
 | []=>True
 | e :: es=>FitsL ss e ∧ FitsE ss es
end
theorem fitsL_append : ∀ {s1 s2 : List Sh} {x1 x2 : List RV},FitsL s1 x1 → FitsL s2 x2 → FitsL (s1 ++ s2) (x1 ++ x2)
 | [],_,_,_,h1,h2=>by simp only [FitsL] at h1;subst h1;simpa using h2
 | s :: ss, s2, x1, x2, h1, h2 => by
   simp only [FitsL] at h1
   obtain ⟨y,ys,rfl,h3,h4⟩:=h1
   simp only [List.cons_append,FitsL];exact ⟨y,_,rfl,h3,fitsL_append h4 h2⟩
theorem fitsL_length : ∀ {ss : List Sh} {xs : List RV},FitsL ss xs → xs.length = ss.length
 | [],_,h=>by simp only [FitsL] at h;subst h;rfl
 | s :: ss, _, h => by
   simp only [FitsL] at h
   obtain ⟨y,ys,rfl,_,h⟩:=h
   simp [fitsL_length h]
theorem fitsE_of : ∀ {ss : List Sh} {es : List (List RV)},(∀ e ∈ es,FitsL ss e) → FitsE ss es
 | _,[],_=>by simp only [FitsE]
 | ss,e :: es,h=>by simp only [FitsE];exact ⟨h e (by simp),fitsE_of fun x hx=>h x (by simp [hx])⟩
theorem choice {α : Type} {Q : Nat → α → Prop} : ∀ (n : Nat),(∀ i,i < n → ∃ x,Q i x) → ∃ xs : List α,xs.length = n ∧ ∀ i x,xs[i]? = some x → Q i x
 | 0,_=>⟨[],rfl,by simp⟩
 | n + 1, h => by
   obtain ⟨xs,hl,hx⟩:=choice n fun i hi=>h i (by omega)
   obtain ⟨y,hy⟩:=h n (by omega)
   refine ⟨xs ++ [y],by simp [hl],fun i x hi=>?_⟩
   by_cases h1 : i < n
   · rw [List.getElem?_append_left (by omega)] at hi;exact hx i x hi
   · rw [List.getElem?_append_right (by omega)] at hi
     have : i = n:=by have:=(List.getElem?_eq_some_iff.1 hi).1;simp at this;omega
     subst this
     simp [hl] at hi
     exact hi ▸ hy
section
variable {w : World} {P : Program}
theorem cells?_get {base n : Nat} {a : Addr} {cs : List Value} (h : w.cells? base a n = some cs) : cs.length = n ∧ ∀ i,i < n → w.cell? (a.add i) = cs[i]?:=by
 unfold World.cells? at h
 split at h
 · exact ⟨by simpa using mapM_some_length h,fun i hi=>mapM_some_get h i i (by simp [hi])⟩
 · cases h
theorem cell_lt {a : Addr} {v : Value} (h : w.cell? a = some v) : a.block < w.heap.size:=by
 refine Decidable.byContradiction fun hn=>?_
 have : w.heap[a.block]? = none:=by simp;omega
 simp [World.cell?,this] at h
def old (w : World) : Nat → Prop:=fun b=>b < w.heap.size
theorem relC_of_cells {xs : List RV} {cs : List Value} {ad : Addr} (hV : RV.relV w (old w) xs cs) (hone : ∀ u ∈ cs,u.oneCell' = true) (hc : ∀ i,i < cs.length → w.cell? (ad.add i) = cs[i]?) : RV.relC w (old w) xs ad 0:=by
 refine RV.relC_of_get fun i x hx=>?_
 obtain ⟨u,hu,hr⟩:=RV.relV_get hV hx
 have hi:=(List.getElem?_eq_some_iff.1 hu).1
 refine ⟨u,?_,hone u (List.mem_of_getElem? hu),hr⟩
 rw [Nat.zero_add,hc i hi,hu]
variable {H : Type} {enc : TypeId × Value → H} {base : Nat} {spare : Nat → Bool} {held : Bool}
def Good3 (w : World) (ss : List Sh) (cs : List Value) : Prop:=∃ xs,FitsL ss xs ∧ RV.relV w (old w) xs cs ∧ ∀ u ∈ cs,u.oneCell' = true
theorem good3_append {s1 s2 : List Sh} {c1 c2 : List Value} (h1 : Good3 w s1 c1) (h2 : Good3 w s2 c2) : Good3 w (s1 ++ s2) (c1 ++ c2):=by
 obtain ⟨x1,f1,r1,o1⟩:=h1
 obtain ⟨x2,f2,r2,o2⟩:=h2
 refine ⟨x1 ++ x2,fitsL_append f1 f2,RV.relV_append r1 r2,fun u hu=>?_⟩
 rcases List.mem_append.1 hu with hu | hu
 · exact o1 u hu
 · exact o2 u hu
theorem trod_fits : ∀ (fuel n : Nat) (t : TypeId) (cs : List Value) (x : DataW H × List MemPlace) (ss : List Sh),DataW.trod enc P w base spare held fuel t cs = some x → shape P n t = some ss → Good3 w ss cs:=by
 intro fuel
 induction fuel with
 | zero=>intro n t cs x ss h;simp [DataW.trod] at h
 | succ fuel ih =>
   intro n t cs x ss h hs
   cases n with
   | zero=>simp [shape] at hs
   | succ n =>
     unfold shape at hs
     split at hs
     · rename_i k ht
       injection hs with hs;subst hs
       obtain ⟨m,rfl,_,hw⟩:=DataW.trod_int ht h
       exact ⟨[.it k m],by simp only [FitsL,Fits];exact ⟨_,[],rfl,⟨m,rfl,hw⟩,rfl⟩,by simp only [RV.relV,RV.rel];exact ⟨_,[],rfl,rfl,rfl⟩,by simp [Value.oneCell']⟩
     · rename_i ht
       injection hs with hs;subst hs
       obtain ⟨b,rfl,_⟩:=DataW.trod_bool ht h
       exact ⟨[.bo b],by simp only [FitsL,Fits];exact ⟨_,[],rfl,⟨b,rfl⟩,rfl⟩,by simp only [RV.relV,RV.rel];exact ⟨_,[],rfl,rfl,rfl⟩,by simp [Value.oneCell']⟩
     · rename_i e ht
       split at hs
       · rename_i es hes
         split at hs
         · rename_i hc
           simp only [Bool.and_eq_true,beq_iff_eq,decide_eq_true_eq] at hc
           injection hs with hs;subst hs
           rcases DataW.trod_slice ht h with ⟨rfl,_⟩ | ⟨a,len,cap,elems,rest,m,hm,rfl,_,_,hlc,hcm,hel,hget,_⟩
           · refine ⟨[.sl es.length []],?_,?_,by simp [Value.oneCell']⟩
             · simp only [FitsL,Fits];exact ⟨_,[],rfl,⟨[],rfl,by simp only [FitsE]⟩,rfl⟩
             · simp only [RV.relV,RV.rel];exact ⟨_,[],rfl,⟨none,0,rfl,Nat.le_refl _,Nat.zero_le _,fun h=>absurd rfl h⟩,rfl⟩
           · injection hm with hm;subst hm
             have hall : ∀ i,i < len → ∃ e',FitsL es e' ∧ e'.length = es.length ∧ RV.relC w (old w) e' (a.add (i * es.length)) 0 ∧ a.block < w.heap.size:=fun i hi=>by
              have h1:=hget i hi
              have h2 : i < elems.length:=by omega
              rw [List.getElem?_eq_getElem h2] at h1
              obtain ⟨ci,hci,htr⟩:=Option.bind_eq_some_iff.1 h1
              rw [← hc.1] at hci
              obtain ⟨hl,hcell⟩:=cells?_get hci
              obtain ⟨xs,f,r,o⟩:=ih n e ci _ es htr hes
              refine ⟨xs,f,fitsL_length f,relC_of_cells r o (fun j hj=>hcell j (by omega)),?_⟩
              have h3:=hcell 0 hc.2
              have h4 : 0 < ci.length:=by omega
              rw [List.getElem?_eq_getElem h4] at h3
              have:=cell_lt h3
              rwa [block_add,block_add] at this
             obtain ⟨els,hlen,hels⟩:=choice len hall
             refine ⟨[.sl es.length els],?_,?_,by simp [Value.oneCell']⟩
             · simp only [FitsL,Fits]
               refine ⟨_,[],rfl,⟨els,rfl,fitsE_of fun e' he'=>?_⟩,rfl⟩
               obtain ⟨i,hi⟩:=List.getElem?_of_mem he'
               exact (hels i e' hi).1
             · simp only [RV.relV,RV.rel]
               refine ⟨_,[],rfl,⟨some a,cap,by rw [hlen],by omega,hcm,fun hne=>?_⟩,rfl⟩
               obtain ⟨e0,he0⟩ : ∃ e0,els[0]? = some e0:=by
                cases els with
                | nil=>exact absurd rfl hne
                | cons a l=>exact ⟨a,rfl⟩
               refine ⟨a,rfl,(hels 0 e0 he0).2.2.2,RV.relE_of_get fun i e' he'=>?_⟩
               obtain ⟨_,q1,q2,_⟩:=hels i e' he'
               exact ⟨q1,RV.relC_unbase _ q2⟩
         · cases hs
       · cases hs
     · rename_i m e ht
       split at hs
       · rename_i es hes
         split at hs
         · rename_i hc
           simp only [Bool.and_eq_true,beq_iff_eq] at hc
           injection hs with hs;subst hs
           obtain ⟨xs,fm,hm,_,hcl,hxl,hget⟩:=DataW.trod_array ht h
           injection hm with hm;subst hm
           have key : ∀ j,j ≤ m → Good3 w (List.replicate j es).flatten (cs.take (j * es.length)):=by
            intro j
            induction j with
            | zero=>intro _;exact ⟨[],by simp [FitsL],by simp [RV.relV],by simp⟩
            | succ j ihj =>
              intro hj
              have h1:=hget j (by omega)
              have h2 : j < xs.length:=by omega
              rw [List.getElem?_eq_getElem h2,← hc.1] at h1
              have h3:=ih n e _ _ es h1 hes
              have:=good3_append (ihj (by omega)) h3
              rw [← List.take_add] at this
              rw [List.replicate_succ',List.flatten_append,Nat.add_mul]
              simpa using this
           have:=key m (Nat.le_refl _)
           rwa [← hc.2,← hcl,List.take_length] at this
         · cases hs
       · cases hs
     · rename_i fs ht
       split at hs
       · rename_i q hq
         split at hs
         · rename_i hc
           simp only [beq_iff_eq] at hc
           injection hs with hs;subst hs
           obtain ⟨xs,fm,hm,_,hcl,hxl,hget⟩:=DataW.trod_struct ht h
           injection hm with hm;subst hm
           have key : ∀ (l : List Field) (o : Nat) (q : List Sh),(∀ f ∈ l,∃ y,DataW.trod enc P w base spare held fuel f.type ((cs.drop f.offset).take (P.cellsOf f.type)) = some y) → fieldsSh P (shape P n) l o = some q → Good3 w q ((cs.drop o).take q.length):=by
            intro l
            induction l with
            | nil =>
              intro o q _ hq
              simp only [fieldsSh,Option.some.injEq] at hq
              subst hq
              exact ⟨[],by simp [FitsL],by simp [RV.relV],by simp⟩
            | cons f l ihl =>
              intro o q hall hq
              simp only [fieldsSh] at hq
              split at hq
              · rename_i s1 hs1
                split at hq
                · rename_i hc1
                  simp only [Bool.and_eq_true,beq_iff_eq] at hc1
                  split at hq
                  · rename_i q2 hq2
                    injection hq with hq;subst hq
                    obtain ⟨y,hy⟩:=hall f (by simp)
                    have g1:=ih n f.type _ _ s1 hy hs1
                    have g2:=ihl (o + s1.length) q2 (fun f' hf'=>hall f' (by simp [hf'])) hq2
                    rw [hc1.1,← hc1.2] at g1
                    have:=good3_append g1 g2
                    rw [← List.drop_drop,← List.take_add] at this
                    simpa using this
                  · cases hq
                · cases hq
              · cases hq
           have:=key fs.toList 0 q (fun f hf=>by
            obtain ⟨i,hi⟩:=List.getElem?_of_mem hf
            have hi' : fs[i]? = some f:=by simpa using hi
            have h1:=hget i f hi'
            have h2 : i < xs.length:=by have:=(Array.getElem?_eq_some_iff.1 hi').1;omega
            exact ⟨xs[i],by rw [h1];exact List.getElem?_eq_getElem h2⟩) hq
           rwa [List.drop_zero,hc,← hcl,List.take_length] at this
         · cases hs
       · cases hs
     · cases hs
def FitsT (P : Program) (n : Nat) (t : TypeId) (x : RV) : Prop:=∃ ss,shape P n t = some ss ∧ if aggOf P t then ∃ xs,x = .ag xs ∧ FitsL ss xs else FitsL ss [x]
theorem arg_fits {n : Nat} {t : TypeId} {v : Value} {d : DataW H} {ps : List MemPlace} {r : Reach} {b0 : Nat} (hs : (shape P n t).isSome = true) (hval : Value.okWide P w r b0 t v) (h : DataW.Trod enc P w base spare held t v d ps) :
 ∃ x,FitsT P n t x ∧ x.rel w (old w) v:=by
 obtain ⟨ss,hss⟩:=Option.isSome_iff_exists.1 hs
 obtain ⟨fuel,hf⟩:=h
 obtain ⟨xs,f,r,o⟩:=trod_fits fuel n t _ _ ss hf hss
 have one : aggOf P t = false → v.cells.toList = [v] → ∃ x,FitsT P n t x ∧ x.rel w (old w) v:=fun ha hc=>by
  rw [hc] at r
  match xs,r with
  | [x], r =>
    simp only [RV.relV] at r
    obtain ⟨u,us,e,hr,_⟩:=r
    injection e with e1 e2
    subst e1
    exact ⟨x,⟨ss,hss,by rw [ha];exact f⟩,hr⟩
  | [],r=>simp [RV.relV] at r
  | _ :: _ :: _, r =>
    simp only [RV.relV] at r
    obtain ⟨u,us,e,_,u2,us2,e2,_⟩:=r
    injection e with _ e
    rw [e2] at e;cases e
 cases n with
 | zero=>simp [shape] at hss
 | succ n =>
   have hss':=hss
   unfold shape at hss'
   split at hss'
   · rename_i k ht
     obtain ⟨m,rfl⟩:=okWide_int ht hval
     exact one (by simp [aggOf,ht]) rfl
   · rename_i ht
     obtain ⟨b,rfl⟩:=okWide_bool ht hval
     exact one (by simp [aggOf,ht]) rfl
   · rename_i e ht
     obtain ⟨a,l,c,rfl⟩:=okWide_slice ht hval
     exact one (by simp [aggOf,ht]) rfl
   · rename_i m e ht
     obtain ⟨cs,rfl⟩ : ∃ cs,v = .agg cs:=by
      simp only [Value.okWide,ht] at hval
      obtain ⟨cs,h1,_⟩:=hval
      exact ⟨cs,h1⟩
     exact ⟨.ag xs,⟨ss,hss,by simp only [aggOf,ht,if_true];exact ⟨xs,rfl,f⟩⟩,by simp only [RV.rel];exact ⟨cs,rfl,o,r⟩⟩
   · rename_i fs ht
     obtain ⟨cs,rfl,_⟩:=okWide_struct ht hval
     exact ⟨.ag xs,⟨ss,hss,by simp only [aggOf,ht,if_true];exact ⟨xs,rfl,f⟩⟩,by simp only [RV.rel];exact ⟨cs,rfl,o,r⟩⟩
   · cases hss'
theorem fitsT_ag {n : Nat} {t : TypeId} {x : RV} {ss : List Sh} (h : FitsT P n t x) (hs : shape P n t = some ss) (ha : aggOf P t = true) : ∃ xs,x = .ag xs ∧ FitsL ss xs:=by
 obtain ⟨s',h1,h2⟩:=h
 rw [hs] at h1;injection h1 with h1;subst h1
 rw [ha] at h2
 exact h2
theorem fitsT_one {n : Nat} {t : TypeId} {x : RV} {s : Sh} (h : FitsT P n t x) (hs : shape P n t = some [s]) (ha : aggOf P t = false) : Fits s x:=by
 obtain ⟨s',h1,h2⟩:=h
 rw [hs] at h1;injection h1 with h1;subst h1
 rw [ha] at h2
 simp only [Bool.false_eq_true,if_false,FitsL] at h2
 obtain ⟨y,ys,e,h3,_⟩:=h2
 injection e with e1 e2
 subst e1
 exact h3
end
end Go.Oc

namespace Go.Proofs.YtgfbenanljjgaaaGreat.Du
open Go Go.Oc
set_option maxRecDepth 8000
theorem wfb8 {n : Int} (h : (Lit.int .u8 n).wf = true) : ∃ k : Nat,n = k ∧ k < 256:=by
 simp only [Lit.wf,Bool.and_eq_true,decide_eq_true_eq] at h
 have h1 : IntKind.min .u8 = 0:=by decide
 have h2 : IntKind.max .u8 = 255:=by decide
 rw [h1,h2] at h
 obtain ⟨k,hk⟩:=Int.eq_ofNat_of_zero_le h.1
 exact ⟨k,hk,by omega⟩
theorem fitsL_by8 : ∀ {n : Nat} {xs : List RV},FitsL (List.replicate n (.int .u8)) xs → ∃ l : List Nat,xs = l.map u8Q ∧ l.length = n ∧ ∀ k ∈ l,k < 256
 | 0, xs, h => by
   simp only [List.replicate_zero,Oc.FitsL] at h
   subst h
   exact ⟨[],rfl,rfl,by simp⟩
 | n + 1, xs, h => by
   simp only [List.replicate_succ,Oc.FitsL,Oc.Fits] at h
   obtain ⟨_,ys,rfl,⟨a,rfl,ha⟩,h⟩:=h
   obtain ⟨k,rfl,kk⟩:=wfb8 ha
   obtain ⟨l,rfl,hn,hl⟩:=fitsL_by8 h
   refine ⟨k :: l,rfl,by simp [hn],fun x hx=>?_⟩
   rcases List.mem_cons.1 hx with rfl | hx
   · exact kk
   · exact hl x hx
theorem fitsE_by8 {m : Nat} : ∀ {es : List (List RV)},FitsE (List.replicate m (.int .u8)) es → ∃ A : List (List Nat),es = A.map (fun a=>a.map u8Q) ∧ ∀ a ∈ A,a.length = m ∧ ∀ n ∈ a,n < 256
 | [],_=>⟨[],rfl,by simp⟩
 | e :: es, h => by
   simp only [Oc.FitsE] at h
   obtain ⟨h1,h2⟩:=h
   obtain ⟨l,rfl,hn,hl⟩:=fitsL_by8 h1
   obtain ⟨A,rfl,hA⟩:=fitsE_by8 h2
   refine ⟨l :: A,rfl,fun x hx=>?_⟩
   rcases List.mem_cons.1 hx with rfl | hx
   · exact ⟨hn,hl⟩
   · exact hA x hx
theorem fits5 {x : RV} (h : FitsT Tryz.prog 9 5 x) : ∃ n : Nat,x = u8Q n ∧ n < 256:=by
 have:=fitsT_one (s:=.int .u8) h (by kernel_rfl) (by kernel_rfl)
 simp only [Oc.Fits] at this
 obtain ⟨m,rfl,hm⟩:=this
 obtain ⟨k,rfl,kk⟩:=wfb8 hm
 exact ⟨k,rfl,kk⟩
theorem fits50 {x : RV} (h : FitsT Tryz.prog 9 50 x) : ∃ A : List (List Nat),x = .sl 12 (A.map fun a=>a.map u8Q) ∧ ∀ a ∈ A,a.length = 12 ∧ ∀ n ∈ a,n < 256:=by
 have:=fitsT_one (s:=.sl (List.replicate 12 (.int .u8))) h (by kernel_rfl) (by kernel_rfl)
 simp only [Oc.Fits] at this
 obtain ⟨es,rfl,hes⟩:=this
 obtain ⟨A,rfl,hA⟩:=fitsE_by8 hes
 exact ⟨A,rfl,hA⟩
theorem fits71 {x : RV} (h : FitsT Tryz.prog 9 71 x) : ∃ a b c d e : Nat,x = .ag [u8Q a,u8Q b,u8Q c,u8Q d,u8Q e] ∧ a < 256 ∧ b < 256 ∧ c < 256 ∧ d < 256 ∧ e < 256:=by
 obtain ⟨xs,rfl,hx⟩:=fitsT_ag (ss:=[.int .u8,.int .u8,.int .u8,.int .u8,.int .u8]) h (by kernel_rfl) (by kernel_rfl)
 simp only [Oc.FitsL,Oc.Fits] at hx
 obtain ⟨_,_,rfl,⟨a,rfl,ha⟩,_,_,rfl,⟨b,rfl,hb⟩,_,_,rfl,⟨c,rfl,hc⟩,_,_,rfl,⟨d,rfl,hd⟩,_,_,rfl,⟨e,rfl,he⟩,rfl⟩:=hx
 obtain ⟨a,rfl,ka⟩:=wfb8 ha
 obtain ⟨b,rfl,kb⟩:=wfb8 hb
 obtain ⟨c,rfl,kc⟩:=wfb8 hc
 obtain ⟨d,rfl,kd⟩:=wfb8 hd
 obtain ⟨e,rfl,ke⟩:=wfb8 he
 exact ⟨a,b,c,d,e,rfl,ka,kb,kc,kd,ke⟩
end Go.Proofs.YtgfbenanljjgaaaGreat.Du

namespace Go.Proofs.YtgfbenanljjgaaaGreat
open Go Go.Oc
theorem law6' {x0 x1 x2 : RV} (h0 : FitsT Tryz.prog 9 5 x0) (h1 : FitsT Tryz.prog 9 50 x1) (h2 : FitsT Tryz.prog 9 71 x2) : ACalls Tryz.prog 6 [x0,x1,x2] (.bo true):=by
 obtain ⟨n,rfl,hn⟩:=Du.fits5 h0
 obtain ⟨A,rfl,hA⟩:=Du.fits50 h1
 obtain ⟨a,b,c,d,e,rfl,ka,kb,kc,kd,ke⟩:=Du.fits71 h2
 exact Du.tightduel_law n hn A hA a b c d e ka kb kc kd ke
end Go.Proofs.YtgfbenanljjgaaaGreat


namespace Go.Proofs.YtgfbenanljjgaaaGreat
open Go Go.Oc Go.ChangeShapes Go.WideShapes Go.RowKit
theorem own : ownKnob Tryz.prog.godebug = none := by kernel_rfl
theorem laidOut : laidOutB Tryz.prog = true := by kernel_rfl
set_option maxRecDepth 100000 in
theorem lifted (os : Os) (started : os.Started) (H : Type) (enc : TypeId × Value → H) :
    ReturnsInHanded {} Tryz.checked os 6 .any (Rows.topTightDuelSpec.pre6 enc Tryz.prog Tryz.f6 Rows.topTightDuelRow.domain false) (Rows.topTightDuelSpec.post enc Tryz.prog Tryz.f6 false true false false) := by
  refine returnsInHanded_of_change (C := Tryz.checked) own started (by kernel_rfl) Tryz.func6
    (ChangeSpec.witness6 (enc := enc) (C := Tryz.checked) false ⟨#[], #[.int .u8 0, .slice none 0 0, .agg #[.int .u8 0, .int .u8 0, .int .u8 0, .int .u8 0, .int .u8 0]], []⟩ 8 (by kernel_rfl) (by kernel_rfl) (by kernel_rfl) (by kernel_rfl)) ?_
  intro W base args ds gs before hval0 hW hcnd _
  have hval : ∀ (j : Nat) t v, Tryz.f6.params[j]? = some t → args[j]? = some v → Value.okWide Tryz.prog W .any base t v := hval0
  have hW' := hW
  obtain ⟨p, q, hA0, hV, rfl, hfz, hnd⟩ := hW
  have hA : DataW.TrodAll enc Tryz.prog W 0 (fun _ => true) true Tryz.f6.params.toList args.toList ds p := hA0
  rw [Tryz.params6] at hA hval
  obtain ⟨v0, vs0, d0, ds0, p0, q0, hargs, rfl, rfl, h0, r0⟩ := trodAll_cons hA
  obtain ⟨v1, vs1, d1, ds1, p1, q1, rfl, rfl, rfl, h1, r1⟩ := trodAll_cons r0
  obtain ⟨v2, vs2, d2, ds2, p2, q2, rfl, rfl, rfl, h2, r2⟩ := trodAll_cons r1
  obtain ⟨rfl, rfl, rfl⟩ := trodAll_nil r2
  obtain rfl : args = #[v0, v1, v2] := by cases args;simp_all
  obtain ⟨rfl, rfl⟩ := trodVars_none hV
  have lt0 : ∀ x ∈ p0, x.block < W.heap.size := by obtain ⟨m, hm⟩ := h0;exact DataW.trod_lt m _ _ _ hm
  have lt1 : ∀ x ∈ p1, x.block < W.heap.size := by obtain ⟨m, hm⟩ := h1;exact DataW.trod_lt m _ _ _ hm
  have lt2 : ∀ x ∈ p2, x.block < W.heap.size := by obtain ⟨m, hm⟩ := h2;exact DataW.trod_lt m _ _ _ hm
  obtain ⟨x0, g0, e0⟩ := arg_fits (n := 9) (by kernel_rfl) (hval 0 5 v0 rfl rfl) h0
  obtain ⟨x1, g1, e1⟩ := arg_fits (n := 9) (by kernel_rfl) (hval 1 50 v1 rfl rfl) h1
  obtain ⟨x2, g2, e2⟩ := arg_fits (n := 9) (by kernel_rfl) (hval 2 71 v2 rfl rfl) h2
  clear hA0 hval0
  refine ((law6' g0 g1 g2).2 W (old W) #[v0, v1, v2] (fun _ h => h) (by simp only [RV.relV];exact ⟨_, _, rfl, e0, _, _, rfl, e1, _, _, rfl, e2, rfl⟩)).mono fun e W' he => ?_
  obtain ⟨v, R', rfl, bel, _, _, _, hr⟩ := he
  simp only [RV.rel] at hr
  subst hr
  exact ⟨_, rfl, _, _, _, [], _, [], hW', trodAll_mk1 (shut_bool Tryz.underlying4 _), (trodAll_cons_mk (Below.trod laidOut (by kernel_rfl) (of_decide_eq_true (by kernel_rfl)) h0 bel lt0) (trodAll_cons_mk (Below.trod laidOut (by kernel_rfl) (of_decide_eq_true (by kernel_rfl)) h1 bel lt1) (trodAll_cons_mk (Below.trod laidOut (by kernel_rfl) (of_decide_eq_true (by kernel_rfl)) h2 bel lt2) trodAll_mk0))), rfl, bel.frame _, fun h => by cases h⟩
theorem over : Rows.topTightDuelRow.holds Tryz.pinned (OpenSpec.ofChange Rows.topTightDuelSpec) :=
  OpenClaim.holds_of_wide 6 Tryz.f6 rfl rfl rfl rfl rfl rfl rfl ⟨rfl, rfl, rfl, rfl, rfl⟩ rfl rfl rfl rfl rfl (by kernel_rfl) Tryz.func6 (by kernel_rfl)
    (of_decide_eq_true (by kernel_rfl)) (by unfold Func.isWrapper;first | (rw [if_pos (by decide +kernel)];kernel_rfl) | (rw [if_neg (by decide +kernel)];exact ⟨rfl, rfl⟩))
    (fun os started H enc _ => lifted os started H enc)
theorem topTightDuel_holds : Rows.TopTightDuelSaid := over
#print axioms topTightDuel_holds
end Go.Proofs.YtgfbenanljjgaaaGreat

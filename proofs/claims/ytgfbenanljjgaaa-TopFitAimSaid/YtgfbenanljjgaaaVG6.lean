/- Part 6 of the texts of this claim. -/
import Derived.Test.YtgfbenanljjgaaaVG5
import Derived.Test.YtgfbenanljjgaaaVG4
import Derived.KernelRfl
namespace Go.Oc
open Go Go.RowKit
set_option linter.unusedVariables false
set_option linter.unusedSimpArgs false
theorem park_un (k : Nat) (u : Addr) : AV.park k u (.r .un) = .r .un:=by simp only [AV.park]
theorem look_park (k : Nat) (u : Addr) : ∀ (l : List (Nat × AV)) (t : Nat),look (l.map fun x=>(x.1,x.2.park k u)) t = (look l t).park k u
 | [],t=>(park_un k u).symm
 | (j, x) :: l, t => by
   simp only [List.map_cons,look_cons]
   split
   · rfl
   · exact look_park k u l t
theorem lookc_park (k : Nat) (u : Addr) : ∀ (cs : List (Nat × RowC)) (j : Nat),lookc (cs.map fun x=>(x.1,x.2.park k u)) j = (lookc cs j).park k u
 | [],_=>rfl
 | (i, c) :: cs, j => by
   simp only [List.map_cons,lookc_cons]
   split
   · rfl
   · exact lookc_park k u cs j
section
variable {P : Program} {C : Ctx} {n : Nat} {l : List (Nat × AV)} {vs : Nat → Nat} {cs : List (Nat × RowC)} {Q : Exit → AS → Prop}
theorem awp_parkS {c : Code} (k t0 : Nat) (u : Addr) (rs : List RV) (ht0 : look l t0 = .pu k 0 u) (hC : (C.rd = none ∧ C.X = XS.none) ∧ ∀ b,¬ C.own b) (hk : 1000 ≤ k) (hv : vs k = 0) (hc : lookc cs k = .box (rs.map .r)) (hcb : ∃ x,C.pin k = some x ∧ ∀ b,x.1 = some b → C.bor b)
 (h : ∀ us C2,(C2.rd = none ∧ C2.X = XS.none) ∧ (∀ b,¬ C2.own b) → Parked C2 u us → awp P C2 c (fun e s'=>s'.tm t0 = .r (.vl u) ∧ s'.rows k = ⟨0,.sus (rs.map .r) us⟩ ∧ Q e ⟨s'.n,upd s'.tm t0 (.pu k 0 u),upd s'.rows k ⟨0,.box (rs.map .r)⟩⟩)
  (st n (l.map fun x=>(x.1,x.2.park k u)) vs (insc (cs.map fun x=>(x.1,x.2.park k u)) k (.sus (rs.map .r) us)))) : awp P C c Q (st n l vs cs):=by
 refine awp_park k t0 u rs ht0 hC.1.2 hC.1.1 hC.2 hk hv hc hcb fun us C2 hC2 hP=>?_
 have e : (⟨n,fun t=>((st n l vs cs).tm t).park k u,fun j=>if j = k then ⟨0,.sus (rs.map .r) us⟩ else ⟨((st n l vs cs).rows j).ver,((st n l vs cs).rows j).c.park k u⟩⟩ : AS)
  = st n (l.map fun x=>(x.1,x.2.park k u)) vs (insc (cs.map fun x=>(x.1,x.2.park k u)) k (.sus (rs.map .r) us)):=by
  simp only [st,AS.mk.injEq,true_and]
  constructor
  · funext t
    exact (look_park k u l t).symm
  · funext j
    rw [lookc_insc]
    split
    · rename_i e; subst e; rw [hv]
    · rw [lookc_park]
 have:=h us C2 hC2 hP
 rw [← e] at this
 exact this
theorem st_unpark (k t0 : Nat) (x : AV) (c : RowC) (hv : vs k = 0) : (⟨n,upd (st n l vs cs).tm t0 x,upd (st n l vs cs).rows k ⟨0,c⟩⟩ : AS) = st n ((t0,x) :: l) vs (insc cs k c):=by
 simp only [st,AS.mk.injEq,true_and]
 constructor
 · funext t
   rw [look_cons]
   unfold upd
   split <;> rfl
 · funext j
   rw [lookc_insc]
   unfold upd
   split
   · rename_i e; subst e; rw [hv]
   · rfl
theorem awp_rangeK {t : Nat} {ps : Array Tmp} {assign body : Code} (hC : (C.rd = none ∧ C.X = XS.none) ∧ ∀ b,¬ C.own b) (k t0 : Nat) (u : Addr) (ht00 : look l t0 = .pu k 0 u) (hk : 1000 ≤ k) (hcb : ∃ x,C.pin k = some x ∧ ∀ b,x.1 = some b → C.bor b) (rs : List RV) (hl0 : Lent vs) (hc : lookc cs k = .box (rs.map .r))
 {f : FuncId} {cf : List AV} {args : List RV} (xs : List (List RV)) (hI : ICalls P true f args xs) (ts : List Nat) (hnd : ts.Nodup) (F : (Nat → Nat) → List (Nat × AV)) (R : Nat → (Nat → Nat) → List (Nat × RowC)) (I : Nat → Prop)
 (h0 : ∀ us,∃ vs',Lent vs' ∧ Sub (st n (l.map fun x=>(x.1,x.2.park k u)) vs (insc (cs.map fun x=>(x.1,x.2.park k u)) k (.sus (rs.map .r) us))) (st n (F vs') vs' (insc (R 0 vs') k (.sus (rs.map .r) us)))) (hi0 : I 0)
 (hts : ∀ vs,(F vs).map (·.1) = ts) (ht0 : ∀ vs,look (F vs) t0 = .r (.vl u)) (hg : ∀ vs,callee? (look (F vs) t) = some (f,cf))
 (hcap : ∀ (w : World) (p : Plan) (ver : Nat → Nat) (R' : Nat → Prop) (vals : List Value),AV.relV w p ver cf vals → RV.rel w R' (.rp rs) (.pointer (some u)) → (∀ b,p.R b → R' b) → RV.relV w R' args vals)
 (hd : ∀ i vs,lookc (R i vs) 0 = .dead) (hps : ∀ t ∈ ps.toList,t < n) (hlen : ∀ e ∈ xs,e.length = ps.size)
 (round : ∀ i e vs us usp C,xs[i]? = some e → I i → Lent vs → awp P C assign (fun x s2=>x = .normal ∧ ∀ C,awp P C body (fun x s3=>x = .normal ∧ I (i + 1) ∧ ∃ vs',Lent vs' ∧ Sub s3 (st n [] vs' ((0,.sus ((F vs').map (·.2)) us) :: insc (R (i + 1) vs') k (.sus (rs.map .r) usp)))) s2)
  (st n (psL ps.toList e (F vs)) vs ((0,.sus ((F vs).map (·.2)) us) :: insc (R i vs) k (.sus (rs.map .r) usp))))
 (done : ∀ vs us,Lent vs → I xs.length → Q .normal (st n ((t0,.pu k 0 u) :: F vs) vs (insc ((0,.sus ((F vs).map (·.2)) us) :: R xs.length vs) k (.box (rs.map .r))))) : awp P C (.rangeFunc (.tmp t) ps assign body) Q (st n l vs cs):=by
 refine awp_parkS k t0 u rs ht00 hC hk (hl0 k hk) hc hcb fun usp C2 hC2 hP=>?_
 obtain ⟨vs0,hv0,hsub0⟩:=h0 usp
 refine zw hsub0 ?_
 have hk0 : k ≠ 0:=by omega
 have hdrop : ∀ i e rest,xs.drop i = e :: rest → xs[i]? = some e ∧ xs.drop (i + 1) = rest:=fun i e rest h=>by
  refine ⟨?_,by rw [← List.drop_drop,h]; rfl⟩
  have : (xs.drop i)[0]? = some e:=by rw [h]; rfl
  simpa using this
 have hz : ∀ vs,ts.zip ((F vs).map (·.2)) = F vs:=fun vs=>by rw [← hts vs]; exact zip_keys _
 refine awp_rangeFunc hC2.1.1 hC2.1.2 (F:=f) (cs:=cf) (args:=args) (xs:=xs) (z:=true) (hg vs0) (fun p a w hS vals hV=>by
  obtain ⟨b0,hb0,hr⟩:=parked_read (k:=k) (rs:=rs) hS (by show lookc (insc (R 0 vs0) k _) k = _; rw [lookc_insc,if_pos rfl]) hP
  exact ⟨fun b=>b = b0,fun b hb=>⟨hb ▸ hb0,rfl⟩,hcap w p _ _ vals hV hr fun _ h=>.inl h⟩) hI
  (by show lookc (insc (R 0 vs0) k _) 0 = _; rw [lookc_insc,if_neg (Ne.symm hk0)]; exact hd 0 vs0) ts hps
  (fun left us s'=>∃ i vs,left = xs.drop i ∧ i ≤ xs.length ∧ I i ∧ Lent vs ∧ s' = st n [] vs ((0,.sus ((F vs).map (·.2)) us) :: insc (R i vs) k (.sus (rs.map .r) usp)))
  (fun c us s'=>False)
  (fun us=>⟨0,vs0,rfl,Nat.zero_le _,hi0,hv0,?_⟩) ?_ ?_ (fun c us s' _ h=>h.elim)
 · refine (upd_rows_st (c:=.sus (ts.map (st n (F vs0) vs0 (insc (R 0 vs0) k (.sus (rs.map .r) usp))).tm) us)).trans ?_
   congr 3
   have hkk : (F vs0).map (·.2) = ts.map (look (F vs0)):=by
    have:=look_keys (F vs0) (by rw [hts vs0]; exact hnd)
    rw [hts vs0] at this
    exact this
   rw [hkk]; rfl
 · rintro e rest us s' _ ⟨i,vs,hl,hle,hI',hvl,rfl⟩
   obtain ⟨h1,h2⟩:=hdrop i e rest hl.symm
   refine ⟨hlen e (List.mem_of_getElem? h1),(F vs).map (·.2),rfl,fun C'=>?_⟩
   have hr:=round i e vs us usp C' h1 hI' hvl
   rw [hz,psA_look]
   refine awp_mono ?_ hr
   rintro x s2 ⟨hx,hbody⟩
   refine ⟨hx,fun C''=>awp_mono ?_ (hbody C'')⟩
   rintro x s3 ⟨rfl,hI3,vs',hvl',hsub⟩
   refine ⟨_,hsub,i + 1,vs',h2.symm,?_,hI3,hvl',rfl⟩
   have:=(List.getElem?_eq_some_iff.1 h1).1
   omega
 · rintro us s' _ ⟨i,vs,hl,hle,hI',hvl,rfl⟩
   have hi : i = xs.length:=by
    have : (xs.drop i).length = 0:=by rw [← hl]; rfl
    rw [List.length_drop] at this; omega
   subst hi
   refine ⟨(F vs).map (·.2),rfl,?_⟩
   rw [hz]
   refine ⟨ht0 vs,?_,?_⟩
   · show (⟨vs k,lookc ((0,.sus ((F vs).map (·.2)) us) :: insc (R xs.length vs) k (.sus (rs.map .r) usp)) k⟩ : Row) = _
     rw [lookc_cons,if_neg hk0,lookc_insc,if_pos rfl,hvl k hk]
   · have hq:=done vs us hvl hI'
     have e:=st_unpark (n:=n) (l:=F vs) (vs:=vs) (cs:=(0,.sus ((F vs).map (·.2)) us) :: insc (R xs.length vs) k (.sus (rs.map .r) usp)) k t0 (.pu k 0 u) (.box (rs.map .r)) (hvl k hk)
     have e2 : (st n ((t0,.pu k 0 u) :: F vs) vs (insc ((0,.sus ((F vs).map (·.2)) us) :: insc (R xs.length vs) k (.sus (rs.map .r) usp)) k (.box (rs.map .r))) : AS) = st n ((t0,.pu k 0 u) :: F vs) vs (insc ((0,.sus ((F vs).map (·.2)) us) :: R xs.length vs) k (.box (rs.map .r))):=by
      simp only [st,AS.mk.injEq,true_and]
      funext j
      simp only [lookc_insc,lookc_cons]
      split
      · rfl
      · split
        · rfl
        · rfl
     rw [← e2,← e] at hq
     exact hq
end
attribute [go_sem] AV.park AV.parkL RowC.park
end Go.Oc

namespace Go.Oc
open Go Go.RowKit
def cpR (s : AS) (d : Nat) (b : AV) (r : Res) (K : AS → Prop) : Prop :=
 match b,r with
 | .r .ns,⟨pre,_,⟨.os d' v sz 0 m,[(d'',⟨v',.arr _ sz' es⟩)]⟩⟩=>pre ∧ d < 1000 ∧ d' = d ∧ d'' = d ∧ v = (s.rows d).ver + 1 ∧ v' = v ∧ sz' = sz ∧ m = es.length ∧ K (AS.put (s.row d ⟨(s.rows d).ver + 2,.dead⟩) (some d) (.r (.sl sz es)))
 | _,_=>False
def cpX (P : Program) (s : AS) (d : Nat) (t : TypeId) (b : AV) (n : Option (Prop × Nat × List (List RV))) (K : AS → Prop) : Prop :=
 match tyq P t,b,n with
 | some ⟨.slice _ esz eb _, _, _, _⟩, .r (.sx sz0 es), some (c, sz, ns) => sz0 = esz ∧ d < 1000 ∧ c ∧ (sz = esz ∨ ns = []) ∧ 0 < esz ∧ (es.length + ns.length) * eb ≤ 140737488355328 ∧ es.length + ns.length ≤ 9223372036854775807 ∧
   K (AS.put (s.row d ⟨(s.rows d).ver + 2,.dead⟩) (some d) (.r (.sl esz (es ++ ns))))
 | _,_,_=>False
def isSx : AV → Bool
 | .r (.sx _ _)=>true
 | _=>false
def cpB (s : AS) (d : Option Nat) (r : Res) (K : AS → Prop) : Prop :=
 match r with
 | ⟨pre,_,⟨.r (.sl sz es),[]⟩⟩=>pre ∧ es ≠ [] ∧ K (AS.put s d (.r (.sx sz es)))
 | _=>False
def copyK (P : Program) (o : Oper) (K : AS → Prop) (s : AS) : Prop :=
 match o.op with
 | .call ⟨.builtin .append, args, ts⟩ => (match args.toList, ts.toList, o.dst with
   | [x,z],[t,t'],some d=>t = t' ∧ (if isSx (s.ev x) then cpX P s d t (s.ev x) (news? s (s.ev z)) K else cpR s d (s.ev x) (sAppend P s d t t' (s.ev x) (s.ev z)) K)
   | _,_,_=>False)
 | .buildSlice t n ps=>cpB s o.dst (sBuildSlice P s t n (ps.toList.map fun (i,x)=>(i,s.ev x))) K
 | _=>False
def isPl (pl : List Nat) (o : Oper) : Bool :=
 match o.op with
 | .call ⟨.builtin .append,_,_⟩=>(match o.dst with | some d=>pl.contains d | none=>false)
 | .buildSlice _ _ _=>(match o.dst with | some d=>pl.contains d | none=>false)
 | _=>false
def xopC (P : Program) (pl : List Nat) (o : Oper) (K : AS → Prop) (s : AS) : Prop:=if isPl pl o then copyK P o K s else xop P true o K s
def aopsC (P : Program) (pl : List Nat) (ops : Array Oper) : List Oper → (AS → Prop) → AS → Prop
 | [],K,s=>K s
 | o :: rest, K, s =>
   match o.guard with
   | none=>xopC P pl o (aopsC P pl ops rest K) s
   | some (g, want) =>
     match ((ops[g]?).bind (·.dst) : Option Nat) with
     | none=>aopsC P pl ops rest K (s.put o.dst (.r .ud))
     | some t =>
       match s.tm t with
       | .r (.bo b)=>(b = want → xopC P pl o (aopsC P pl ops rest K) (s.put (some t) (.r (.bo want)))) ∧ (b = !want → aopsC P pl ops rest K ((s.put (some t) (.r (.bo (!want)))).put o.dst (.r .ud)))
       | .r .ud=>aopsC P pl ops rest K (s.put o.dst (.r .ud))
       | _=>False
section
variable {P : Program} {C : Ctx} {s : AS} {ops : Array Oper} {pl : List Nat}
variable {n : Nat} {l : List (Nat × AV)} {vs : Nat → Nat} {cs : List (Nat × RowC)} {K : AS → Prop} {d : Option Nat} {ty : TypeId} {pos : String} {af : Array Edge}
theorem aopsC_nil {ops : Array Oper} : aopsC P pl ops [] K s ↔ K s:=Iff.rfl
theorem aopsC_cons {ops : Array Oper} {o : Op} {rest : List Oper} : aopsC P pl ops (⟨d,o,ty,pos,af,none⟩ :: rest) K s ↔ xopC P pl ⟨d,o,ty,pos,af,none⟩ (aopsC P pl ops rest K) s:=Iff.rfl
theorem row_dead {k m : Nat} : AS.row (st n l vs cs) k ⟨m,.dead⟩ = st n l (upd vs k m) (delc cs k):=by
 rw [row_st]
 unfold st
 congr 1
 funext j
 rw [lookc_insc,lookc_delc]
attribute [go_sem] Nat.reduceBEq Bool.or_false Bool.false_or Bool.or_true Bool.true_or
attribute [go_sem] aopsC_nil aopsC_cons xopC isPl copyK cpR cpB cpX isSx List.contains_cons List.contains_nil List.toList_toArray
attribute [go_sem high] row_dead
end
end Go.Oc

namespace Go.Oc
open Go Go.RowKit
set_option linter.unusedVariables false
def idK (L : List (Nat × RowC)) : List (Nat × Nat):=L.map fun x=>(x.1,x.1)
def npostL (P : Program) (rv : ResultVar) (L : List (Nat × RowC)) (r : AV) : Exit → AS → Prop
 | .normal,s=>resC (resA P s rv) fun v=>lendA (idK L) s.ver v = some r ∧ lendOk (idK L) s (idK L) L
 | .ret,s=>resC (resA P s rv) fun v=>lendA (idK L) s.ver v = some r ∧ lendOk (idK L) s (idK L) L
 | _,_=>False
theorem npostL_ret {P : Program} {rv : ResultVar} {L : List (Nat × RowC)} {r : AV} {s : AS} : npostL P rv L r .ret s = resC (resA P s rv) fun v=>lendA (idK L) s.ver v = some r ∧ lendOk (idK L) s (idK L) L:=rfl
theorem npostL_normal {P : Program} {rv : ResultVar} {L : List (Nat × RowC)} {r : AV} {s : AS} : npostL P rv L r .normal s = resC (resA P s rv) fun v=>lendA (idK L) s.ver v = some r ∧ lendOk (idK L) s (idK L) L:=rfl
theorem idK_pin : ∀ {L : List (Nat × RowC)} {k : Nat},(hasKey L k = true → pinOf (idK L) k = some k) ∧ (hasKey L k = false → pinOf (idK L) k = none)
 | [],k=>by simp [hasKey,idK,pinOf]
 | (j, c) :: L, k => by
   obtain ⟨h1,h2⟩:=idK_pin (L:=L) (k:=k)
   simp only [hasKey,List.any_cons,Bool.or_eq_true,beq_iff_eq,Bool.or_eq_false_iff,beq_eq_false_iff_ne] at h1 h2 ⊢
   simp only [idK,List.map_cons,pinOf]
   constructor
   · intro h
     by_cases e : k = j
     · rw [if_pos e,e]
     · rw [if_neg e]
       rcases h with h | h
       · exact absurd h.symm e
       · exact h1 h
   · rintro ⟨h,h'⟩
     rw [if_neg (fun e=>h e.symm)]
     exact h2 h'
theorem ncalls_st {P : Program} {f : FuncId} {fn : Func} {c : Code} {n : Nat} {args : List RV} (L : List (Nat × RowC)) (r : AV) (rv : ResultVar) (hf : P.funcs[f]? = some fn) (hb : fn.body = some c) (hc : callable P f = true) (hn : fn.ntmps = n) (hres : fn.results.toList = [rv]) (hargs : args.length ≤ n)
 (hap : apart (idK L) = true) (hsm : (L.all fun x=>decide (x.1 < 1000)) = true) (h : ∀ C : Ctx,C.rd = none ∧ C.X = XS.none → awp P C c (npostL P rv L r) (st n (argL 0 args) (fun _=>0) [])) : NCalls P f args L r:=by
 refine ⟨hc,fun w R vs hR hV=>?_⟩
 have hlen:=RV.relV_length hV
 simp only [Array.length_toList] at hlen
 let C : Ctx:={ w0:=w,R0:=R,bor:=fun _=>False,pin:=fun _=>none }
 let p : Plan:={ R:=R,β:=fun _=>none,γ:=fun _=>1 }
 have hs : SR C p (st n (argL 0 args) (fun _=>0) []) { tmps:=vs ++ Array.replicate (fn.ntmps - vs.size) undef,defers:=[] } w:={
  base:=⟨rfl,rfl,rfl,Nat.le_refl _,fun _ _ _ _=>rfl⟩
  r0:=fun _ h=>h
  rn:=fun _ h=>.inl h
  rb:=hR
  tm:=fun t=>by
   show (look (argL 0 args) t).rel _ _ _ _
   by_cases hmem : ∃ x,(t,x) ∈ argL 0 args
   · cases e : args[t]? with
     | none =>
       obtain ⟨x,hx⟩:=hmem
       obtain ⟨i,y,h1,h2⟩:=argL_mem _ hx
       simp only [Nat.zero_add,Prod.mk.injEq] at h1
       rw [← h1.1,e] at h2; cases h2
     | some x =>
       obtain ⟨u,hu,hx⟩:=RV.relV_get hV e
       have : (vs ++ Array.replicate (fn.ntmps - vs.size) undef).getD t undef = u:=by
        have ht : t < vs.size:=by have:=(List.getElem?_eq_some_iff.1 hu).1; simpa using this
        rw [Array.getD_eq_getD_getElem?,Array.getElem?_append_left ht]
        simp only [Array.getElem?_toList] at hu
        rw [hu]; rfl
       have e2:=argL_look (k:=0) e
       rw [Nat.zero_add] at e2
       rw [this,e2]
       simpa only [AV.rel] using hx
   · rw [look_none hmem]
     exact AV.rel_un _ _ _ _
  sz:=by simp only [Array.size_append,Array.size_replicate,st]; omega
  ex:=ext_start (fun _ h=>h.elim (fun h=>h.elim) (fun h=>h.elim))
  rw:=fun k=>by simp [st,lookc_nil,rowRel,p]
  bl:=fun k b h=>by simp [p] at h
  ij:=fun k k' b h=>by simp [p] at h
  cap:=fun k=>by simp [p,maxLen]
  pn:=fun k x h=>by cases h
  lk:=fun j km n l cur h _=>by cases h }
 refine callsIn_wide.1 (callsIn_of_wp_marks (n:=0) hf hb trivial (wpIn_mono (h C ⟨rfl,rfl⟩ _ w ⟨p,hs⟩) ?_))
 rintro e a' w' ⟨s',⟨p',hs'⟩,hq⟩
 have fin : ∀ (a' : Act) (w' : World) (_ : SR C p' s' a' w'),(resC (resA P s' rv) fun v=>lendA (idK L) s'.ver v = some r ∧ lendOk (idK L) s' (idK L) L) → ∃ v,(results fn a'.tmps).run P w' = .ok v w' ∧ ∃ v',∃ q : Plan,Ending.returned v = .returned v' ∧ Below w.heap.size w w' ∧ (∀ b,R b → q.R b) ∧ (∀ b,q.R b → R b ∨ w.heap.size ≤ b) ∧ (∀ b,q.R b → b < w'.heap.size) ∧
  (∀ k b,q.β k = some b → w.heap.size ≤ b ∧ b < w'.heap.size ∧ ¬ q.R b ∧ hasKey L k = true) ∧ (∀ k k' b,q.β k = some b → q.β k' = some b → k = k') ∧ (∀ k,q.γ k ≤ maxLen) ∧ (∀ k,hasKey L k = false → q.γ k = 1) ∧
  (∀ k,hasKey L k = true → rowRel w' q (fun _=>0) k (lookc L k)) ∧ r.rel w' q (fun _=>0) v':=fun a' w' hs' ⟨hp,hv,hlo⟩=>by
  obtain ⟨u,hu,hrel⟩:=run_result hs' rv hp
  have hm : (fn.results.mapM (resOp a'.tmps)).run P w' = .ok #[u] w':=by
   rw [Array.mapM_eq_mapM_toList,hres]
   simp only [Sem.run_map,List.mapM_cons,List.mapM_nil,Sem.run_bind,hu,Result.andThen_ok,Sem.run_pure]
  obtain ⟨g1,g2⟩:=lendOk_get hlo
  have hβ : ∀ k b,(lendPlan (idK L) p').β k = some b → hasKey L k = true ∧ p'.β k = some b:=fun k b hb=>by
   cases e : hasKey L k
   · simp [lendPlan,idK_pin.2 e] at hb
   · simp only [lendPlan,idK_pin.1 e] at hb; exact ⟨rfl,hb⟩
  refine ⟨u,by rw [results_eq,Sem.run_bind,hm]; simp,u,lendPlan (idK L) p',rfl,⟨hs'.base.os,hs'.base.tape,hs'.base.output,hs'.base.size,fun k hk=>hs'.base.block k hk (fun h=>h) (fun h=>h)⟩,hs'.r0,fun b hb=>?_,hs'.rb,fun k b hb=>?_,fun k k' b hb hb'=>hs'.ij k k' b (hβ k b hb).2 (hβ k' b hb').2,fun k=>?_,fun k hk=>?_,fun k hk=>?_,lend_rel hap _ _ _ hv hrel⟩
  · rcases hs'.rn b hb with h | h | h
    · exact .inl h
    · exact .inr h
    · exact h.elim
  · obtain ⟨h1,h2⟩:=hβ k b hb
    obtain ⟨g3,g4,g5⟩:=hs'.bl k b h2
    exact ⟨g5.resolve_right (fun h=>h.elim (fun h=>h.2) fun h=>h),g3,g4,h1⟩
  · cases e : hasKey L k
    · simp [lendPlan,idK_pin.2 e,maxLen]
    · simp only [lendPlan,idK_pin.1 e]; exact hs'.cap k
  · simp [lendPlan,idK_pin.2 hk]
  · exact lendC_rel hap (idK_pin.1 hk) (g1 k k (idK_pin.1 hk)) (hs'.rw k)
 cases e with
 | normal=>exact hs'.leave fun a'' w'' _ hs''=>fin a'' w'' hs'' hq
 | ret=>exact hs'.leave fun a'' w'' _ hs''=>fin a'' w'' hs'' hq
 | _=>exact hq.elim
def newVs (vs : Nat → Nat) : List (Nat × Nat) → Nat → Nat
 | []=>vs
 | (_,ck) :: l=>newVs (upd vs ck (vs ck + 1)) l
def newCs (ρ : List (Nat × Nat)) (ver : Nat → Nat) (L : List (Nat × RowC)) : List (Nat × Nat) → List (Nat × RowC) → List (Nat × RowC)
 | [],cs=>cs
 | (pk,ck) :: l,cs=>newCs ρ ver L l (insc cs ck (backC ρ ver (lookc L pk)))
theorem lendKey_none : ∀ {l : List (Nat × Nat)} {ck : Nat},(lendKey l ck).isNone = true → lendKey l ck = none:=fun h=>Option.isNone_iff_eq_none.1 h
theorem newVs_eq : ∀ {ρ : List (Nat × Nat)} {vs : Nat → Nat},apart ρ = true → newVs vs ρ = newVer ρ vs
 | [],vs,_=>by funext k; rfl
 | (pk, ck) :: l, vs, h => by
   simp only [apart,Bool.and_eq_true] at h
   funext k
   rw [newVs,newVs_eq h.2]
   unfold newVer
   simp only [lendKey]
   by_cases e : k = ck
   · subst e
     rw [if_pos rfl,lendKey_none h.1.2,upd_same]
   · rw [if_neg e,upd_other _ _ e]
theorem newCs_eq {σ : List (Nat × Nat)} {ver : Nat → Nat} {L : List (Nat × RowC)} : ∀ {ρ : List (Nat × Nat)} {cs : List (Nat × RowC)} {k : Nat},apart ρ = true →
 lookc (newCs σ ver L ρ cs) k = match lendKey ρ k with | some pk=>backC σ ver (lookc L pk) | none=>lookc cs k
 | [],cs,k,_=>rfl
 | (pk, ck) :: l, cs, k, h => by
   simp only [apart,Bool.and_eq_true] at h
   rw [newCs,newCs_eq h.2]
   simp only [lendKey]
   by_cases e : k = ck
   · subst e
     rw [if_pos rfl,lendKey_none h.1.2]
     simp [lookc_insc]
   · rw [if_neg e]
     cases lendKey l k with
     | none=>simp [lookc_insc,e]
     | some pk'=>rfl
section
variable {n : Nat} {l : List (Nat × AV)} {vs : Nat → Nat} {cs : List (Nat × RowC)}
theorem xcall_new {P : Program} {F : FuncId} {args : List RV} {L : List (Nat × RowC)} {caps : List AV} {r : AV} {d : Option Nat} {f : AV} {xs : List AV} {K : AS → Prop} (h : NCalls P F args L r) (ρ : List (Nat × Nat)) (hf : callee? f = some (F,caps))
 (hp : AV.pureL (xs ++ caps) = true) (he : snapVL (st n l vs cs).rows (xs ++ caps) = args) (ha : apart ρ = true) (hs : sameKeysN ρ L = true) (hsm : smallK ρ = true)
 (hK : K (AS.put (st n l (newVs vs ρ) (newCs ρ (newVs vs ρ) L ρ cs)) d (backA ρ (newVs vs ρ) r))) : xcall P false (st n l vs cs) d f xs K:=by
 refine .inr (.inl ⟨rfl,.inr (.inr (.inr ⟨F,caps,args,ρ,L,r,hf,hp,he ▸ leL_refl _,h,ha,hs,hsm,?_⟩))⟩)
 have e : ({ st n l vs cs with rows:=newRows ρ L (st n l vs cs).rows } : AS) = st n l (newVs vs ρ) (newCs ρ (newVs vs ρ) L ρ cs):=by
  unfold st
  simp only [AS.mk.injEq,true_and]
  funext k
  rw [newCs_eq ha,newVs_eq ha]
  unfold newRows newVer
  have hv : vers (fun k=>(⟨vs k,lookc cs k⟩ : Row)) = vs:=rfl
  rw [hv]
  cases lendKey ρ k <;> rfl
 rw [e]
 have hv : newVer ρ (st n l vs cs).ver = newVs vs ρ:=by rw [newVs_eq ha]; rfl
 rw [hv]
 exact hK
end
attribute [go_sem] npostL_ret npostL_normal newVs newCs idK
end Go.Oc

namespace Go.Proofs.Ytgfbenanljjgaaa.Du
open Go Go.Oc
set_option linter.unusedSimpArgs false
set_option linter.unusedVariables false
set_option maxRecDepth 8000
structure Bd where
 b : Int
 lo : Int
 hi : Int
structure Am where
 at_ : Int
 beds : List Bd
def bedR (x : Bd) : List RV:=[i64 x.b,i64 x.lo,i64 x.hi]
abbrev bedV (x : Bd) : RV:=.ag [i64 x.b,i64 x.lo,i64 x.hi]
abbrev bedsR (l : List Bd) : RV:=.sl 3 (l.map bedR)
def aimR (a : Am) : List RV:=[i64 a.at_,bedsR a.beds]
abbrev aimV (a : Am) : RV:=.ag [i64 a.at_,bedsR a.beds]
abbrev aimsR (l : List Am) : RV:=.sl 2 (l.map aimR)
abbrev lawV (d : Int) (l : List Am) : RV:=.ag [i64 d,aimsR l]
abbrev chV (a : Am) (d : Int) : RV:=.ag [i64 a.at_,bedsR a.beds,i64 d]
def I64 (n : Int) : Prop:=-9223372036854775808 ≤ n ∧ n ≤ 9223372036854775807
theorem within1_ok (n a b : Int) : ACalls Try.prog 120 [i64 n,.rp [i64 a],.rp [i64 b]] (.bo (decide (n < a) || decide (b < n))):=by
 refine acalls_st (rs:=[.bo (decide (n < a) || decide (b < n))]) [.tmp 4] Try.func120 rfl (by kernel_rfl) Try.ntmps120 rfl (by simp) rfl fun C vs=>?_
 refine zq ?_
 refine zb fun K hK=>?_;simp only [go_sem];refine hK _ ?_;clear hK K
 refine zq ?_
 refine zb fun K hK=>?_;simp only [go_sem]
 refine ⟨fun h=>?_,fun h=>?_⟩ <;>
 · skip
   refine hK _ ?_;clear hK K;refine ze ?_;simp only [go_sem]
   try simp [h]
theorem index_ok (p : Int → Bool) (f : Nat) (caps : List RV) (l : List Int) (h : ∀ x ∈ l,ACalls Try.prog f (i64 x :: caps) (.bo (p x))) : ACalls Try.prog 100 [ints l,.fn f caps] (i64 (indexF p l)):=by
 refine acalls_st (rs:=[i64 (indexF p l)]) [.tmp 4] Try.func100 rfl (by kernel_rfl) Try.ntmps100 rfl (by simp) rfl fun C vs=>?_
 refine zq ?_
 refine zb fun K hK=>?_;simp only [go_sem];refine hK _ ?_;clear hK K
 repeat refine zq ?_
 refine zb fun K hK=>?_;simp only [go_sem]
 intro hl
 refine hK _ ?_;clear hK K;refine zd ?_
 refine awp_upto (n:=19) l.length (fun i vs=>[(0,.r (ints l)),(1,.r (.fn f caps)),(7,.r (i64 l.length)),(8,.r (i64 i))]) (fun _=>[])
  (fun i=>indexF p l = if indexF p (l.drop i) < 0 then -1 else i + indexF p (l.drop i)) 0 (fit_of [] ?_ rfl) (Nat.zero_le _) ?_ ?_
 · try simp only [go_sem]
 · simp only [List.drop_zero]
   have:=indexF_ge p l
   split
   · omega
   · simp
 · intro i vs hi hI
   refine zq ?_
   refine zb fun K hK=>?_;simp only [go_sem];refine hK _ ?_;clear hK K
   refine zq ?_
   refine zc rfl (fun hc=>?_) (fun hc=>?_) <;> (try simp only [go_sem] at hc)
   · obtain ⟨x,hx⟩:=opt_of_lt hc
     rw [drop_of_opt hx] at hI
     refine zx ?_
     refine zq ?_
     refine zd ?_
     refine zq ?_
     refine zb fun K hK=>?_;simp only [go_sem];refine hK _ ?_;clear hK K
     refine zq ?_
     refine zb fun K hK=>?_;simp only [go_sem,hx,hc,bedR,aimR]
     refine zh (h x (mem_of_opt hx)) rfl (by simp only [go_sem,i64,ints]) (by simp only [go_sem,i64,ints]) (by first | exact .inl rfl | exact .inr rfl) ?_
     (try simp only [go_sem]);refine hK _ ?_;clear hK K
     refine zc rfl (fun hc=>?_) (fun hc=>?_) <;> (try simp only [go_sem] at hc)
     · refine zq ?_
       refine zb fun K hK=>?_;simp only [go_sem];refine hK _ ?_;clear hK K;refine ze ?_;simp only [go_sem]
       simp [hI,indexF,hc]
     · refine zx ?_
       try simp only [go_sem]
       refine zb fun K hK=>?_;simp only [go_sem];(try simp (disch:=omega) only [zI]);refine hK _ ?_;clear hK K
       try simp only [go_sem]
       refine ⟨‹_›,?_,fit_of [] ?_ rfl⟩
       · rw [hI]
         simp only [indexF,hc,Bool.false_eq_true,if_false]
         have:=indexF_ge p (l.drop (i + 1))
         (repeat' split) <;> omega
       · try simp only [go_sem]
   · refine zf ?_;simp only [go_sem]
     refine zq ?_
     refine zb fun K hK=>?_;simp only [go_sem];refine hK _ ?_;clear hK K;refine ze ?_;simp only [go_sem]
     have : l.drop i = []:=List.drop_eq_nil_of_le (by omega)
     simp [hI,this,indexF]
theorem contains_ok (p : Int → Bool) (f : Nat) (caps : List RV) (l : List Int) (h : ∀ x ∈ l,ACalls Try.prog f (i64 x :: caps) (.bo (p x))) : ACalls Try.prog 67 [ints l,.fn f caps] (.bo (l.any p)):=by
 refine acalls_st (rs:=[.bo (l.any p)]) [.tmp 4] Try.func67 rfl (by kernel_rfl) Try.ntmps67 rfl (by simp) rfl fun C vs=>?_
 refine zq ?_
 refine zb fun K hK=>?_;simp only [go_sem];refine hK _ ?_;clear hK K
 refine zq ?_
 refine zb fun K hK=>?_;simp only [go_sem]
 refine zh (index_ok p f caps l h) rfl (by simp only [go_sem,i64,ints]) (by simp only [go_sem,i64,ints]) (by first | exact .inl rfl | exact .inr rfl) ?_
 (try simp only [go_sem]);refine hK _ ?_;clear hK K;refine ze ?_;simp only [go_sem];rw [← indexF_any]
def withinL (a b : Int) (l : List Int) : Bool:=l.all fun n=>decide (a ≤ n) && decide (n ≤ b)
theorem withinL_not (a b : Int) (l : List Int) : (!(l.any fun n=>decide (n < a) || decide (b < n))) = withinL a b l:=by
 unfold withinL
 rw [List.not_any_eq_all_not]
 congr 1
 funext n
 by_cases h1 : n < a <;> by_cases h2 : b < n <;> simp [h1,h2] <;> omega
theorem within_ok (a b : Int) (l : List Int) : ACalls Try.prog 88 [i64 a,i64 b,ints l] (.bo (withinL a b l)):=by
 refine acalls_st (rs:=[.bo (withinL a b l)]) [.tmp 6] Try.func88 rfl (by kernel_rfl) Try.ntmps88 rfl (by simp) rfl fun C vs=>?_
 refine zq ?_
 refine zb fun K hK=>?_;simp only [go_sem];refine hK _ ?_;clear hK K
 refine zq ?_
 refine zb fun K hK=>?_;simp only [go_sem]
 refine zh (contains_ok (fun n=>decide (n < a) || decide (b < n)) 120 [.rp [i64 a],.rp [i64 b]] l fun x _=>within1_ok x a b) rfl (by simp only [go_sem,i64,ints]) (by simp only [go_sem,i64,ints]) (by first | exact .inl rfl | exact .inr rfl) ?_
 (try simp only [go_sem]);refine hK _ ?_;clear hK K;refine ze ?_;simp only [go_sem];rw [← withinL_not]
theorem indexB_ok (p : Bd → Bool) (f : Nat) (caps : List RV) (l : List Bd) (h : ∀ x ∈ l,ACalls Try.prog f (bedV x :: caps) (.bo (p x))) : ACalls Try.prog 149 [bedsR l,.fn f caps] (i64 (indexF p l)):=by
 refine acalls_st (rs:=[i64 (indexF p l)]) [.tmp 4] Try.func149 rfl (by kernel_rfl) Try.ntmps149 rfl (by simp) rfl fun C vs=>?_
 refine zq ?_
 refine zb fun K hK=>?_;simp only [go_sem];refine hK _ ?_;clear hK K
 repeat refine zq ?_
 refine zb fun K hK=>?_;simp only [go_sem]
 intro hl
 refine hK _ ?_;clear hK K;refine zd ?_
 refine awp_upto (n:=19) l.length (fun i vs=>[(0,.r (bedsR l)),(1,.r (.fn f caps)),(7,.r (i64 l.length)),(8,.r (i64 i))]) (fun _=>[])
  (fun i=>indexF p l = if indexF p (l.drop i) < 0 then -1 else i + indexF p (l.drop i)) 0 (fit_of [] ?_ rfl) (Nat.zero_le _) ?_ ?_
 · try simp only [go_sem]
 · simp only [List.drop_zero]
   have:=indexF_ge p l
   split
   · omega
   · simp
 · intro i vs hi hI
   refine zq ?_
   refine zb fun K hK=>?_;simp only [go_sem];refine hK _ ?_;clear hK K
   refine zq ?_
   refine zc rfl (fun hc=>?_) (fun hc=>?_) <;> (try simp only [go_sem] at hc)
   · obtain ⟨x,hx⟩:=opt_of_lt hc
     rw [drop_of_opt hx] at hI
     refine zx ?_
     refine zq ?_
     refine zd ?_
     refine zq ?_
     refine zb fun K hK=>?_;simp only [go_sem];refine hK _ ?_;clear hK K
     refine zq ?_
     refine zb fun K hK=>?_;simp only [go_sem,hx,hc,bedR,aimR]
     refine zh (h x (mem_of_opt hx)) rfl (by simp only [go_sem,i64,ints]) (by simp only [go_sem,i64,ints]) (by first | exact .inl rfl | exact .inr rfl) ?_
     (try simp only [go_sem]);refine hK _ ?_;clear hK K
     refine zc rfl (fun hc=>?_) (fun hc=>?_) <;> (try simp only [go_sem] at hc)
     · refine zq ?_
       refine zb fun K hK=>?_;simp only [go_sem];refine hK _ ?_;clear hK K;refine ze ?_;simp only [go_sem]
       simp [hI,indexF,hc]
     · refine zx ?_
       try simp only [go_sem]
       refine zb fun K hK=>?_;simp only [go_sem];(try simp (disch:=omega) only [zI]);refine hK _ ?_;clear hK K
       try simp only [go_sem]
       refine ⟨‹_›,?_,fit_of [] ?_ rfl⟩
       · rw [hI]
         simp only [indexF,hc,Bool.false_eq_true,if_false]
         have:=indexF_ge p (l.drop (i + 1))
         (repeat' split) <;> omega
       · try simp only [go_sem]
   · refine zf ?_;simp only [go_sem]
     refine zq ?_
     refine zb fun K hK=>?_;simp only [go_sem];refine hK _ ?_;clear hK K;refine ze ?_;simp only [go_sem]
     have : l.drop i = []:=List.drop_eq_nil_of_le (by omega)
     simp [hI,this,indexF]
theorem containsB_ok (p : Bd → Bool) (f : Nat) (caps : List RV) (l : List Bd) (h : ∀ x ∈ l,ACalls Try.prog f (bedV x :: caps) (.bo (p x))) : ACalls Try.prog 122 [bedsR l,.fn f caps] (.bo (l.any p)):=by
 refine acalls_st (rs:=[.bo (l.any p)]) [.tmp 4] Try.func122 rfl (by kernel_rfl) Try.ntmps122 rfl (by simp) rfl fun C vs=>?_
 refine zq ?_
 refine zb fun K hK=>?_;simp only [go_sem];refine hK _ ?_;clear hK K
 refine zq ?_
 refine zb fun K hK=>?_;simp only [go_sem]
 refine zh (indexB_ok p f caps l h) rfl (by simp only [go_sem,i64,ints]) (by simp only [go_sem,i64,ints]) (by first | exact .inl rfl | exact .inr rfl) ?_
 (try simp only [go_sem]);refine hK _ ?_;clear hK K;refine ze ?_;simp only [go_sem];rw [← indexF_any]
theorem indexA_ok (p : Am → Bool) (f : Nat) (caps : List RV) (l : List Am) (h : ∀ x ∈ l,ACalls Try.prog f (aimV x :: caps) (.bo (p x))) : ACalls Try.prog 119 [aimsR l,.fn f caps] (i64 (indexF p l)):=by
 refine acalls_st (rs:=[i64 (indexF p l)]) [.tmp 4] Try.func119 rfl (by kernel_rfl) Try.ntmps119 rfl (by simp) rfl fun C vs=>?_
 refine zq ?_
 refine zb fun K hK=>?_;simp only [go_sem];refine hK _ ?_;clear hK K
 repeat refine zq ?_
 refine zb fun K hK=>?_;simp only [go_sem]
 intro hl
 refine hK _ ?_;clear hK K;refine zd ?_
 refine awp_upto (n:=19) l.length (fun i vs=>[(0,.r (aimsR l)),(1,.r (.fn f caps)),(7,.r (i64 l.length)),(8,.r (i64 i))]) (fun _=>[])
  (fun i=>indexF p l = if indexF p (l.drop i) < 0 then -1 else i + indexF p (l.drop i)) 0 (fit_of [] ?_ rfl) (Nat.zero_le _) ?_ ?_
 · try simp only [go_sem]
 · simp only [List.drop_zero]
   have:=indexF_ge p l
   split
   · omega
   · simp
 · intro i vs hi hI
   refine zq ?_
   refine zb fun K hK=>?_;simp only [go_sem];refine hK _ ?_;clear hK K
   refine zq ?_
   refine zc rfl (fun hc=>?_) (fun hc=>?_) <;> (try simp only [go_sem] at hc)
   · obtain ⟨x,hx⟩:=opt_of_lt hc
     rw [drop_of_opt hx] at hI
     refine zx ?_
     refine zq ?_
     refine zd ?_
     refine zq ?_
     refine zb fun K hK=>?_;simp only [go_sem];refine hK _ ?_;clear hK K
     refine zq ?_
     refine zb fun K hK=>?_;simp only [go_sem,hx,hc,bedR,aimR]
     refine zh (h x (mem_of_opt hx)) rfl (by simp only [go_sem,i64,ints]) (by simp only [go_sem,i64,ints]) (by first | exact .inl rfl | exact .inr rfl) ?_
     (try simp only [go_sem]);refine hK _ ?_;clear hK K
     refine zc rfl (fun hc=>?_) (fun hc=>?_) <;> (try simp only [go_sem] at hc)
     · refine zq ?_
       refine zb fun K hK=>?_;simp only [go_sem];refine hK _ ?_;clear hK K;refine ze ?_;simp only [go_sem]
       simp [hI,indexF,hc]
     · refine zx ?_
       try simp only [go_sem]
       refine zb fun K hK=>?_;simp only [go_sem];(try simp (disch:=omega) only [zI]);refine hK _ ?_;clear hK K
       try simp only [go_sem]
       refine ⟨‹_›,?_,fit_of [] ?_ rfl⟩
       · rw [hI]
         simp only [indexF,hc,Bool.false_eq_true,if_false]
         have:=indexF_ge p (l.drop (i + 1))
         (repeat' split) <;> omega
       · try simp only [go_sem]
   · refine zf ?_;simp only [go_sem]
     refine zq ?_
     refine zb fun K hK=>?_;simp only [go_sem];refine hK _ ?_;clear hK K;refine ze ?_;simp only [go_sem]
     have : l.drop i = []:=List.drop_eq_nil_of_le (by omega)
     simp [hI,this,indexF]
theorem containsA_ok (p : Am → Bool) (f : Nat) (caps : List RV) (l : List Am) (h : ∀ x ∈ l,ACalls Try.prog f (aimV x :: caps) (.bo (p x))) : ACalls Try.prog 86 [aimsR l,.fn f caps] (.bo (l.any p)):=by
 refine acalls_st (rs:=[.bo (l.any p)]) [.tmp 4] Try.func86 rfl (by kernel_rfl) Try.ntmps86 rfl (by simp) rfl fun C vs=>?_
 refine zq ?_
 refine zb fun K hK=>?_;simp only [go_sem];refine hK _ ?_;clear hK K
 refine zq ?_
 refine zb fun K hK=>?_;simp only [go_sem]
 refine zh (indexA_ok p f caps l h) rfl (by simp only [go_sem,i64,ints]) (by simp only [go_sem,i64,ints]) (by first | exact .inl rfl | exact .inr rfl) ?_
 (try simp only [go_sem]);refine hK _ ?_;clear hK K;refine ze ?_;simp only [go_sem];rw [← indexF_any]
def bedOk (b : Int) : Bool:=decide (b = 125) || decide (b = 225) || (decide (100 ≤ b) && decide (b ≤ 499) && decide (1 ≤ b % 100) && decide (b % 100 ≤ 20))
theorem tdivN {b : Int} (h : b ≤ 0) : b.tdiv 100 = -((-b) / 100):=by
 rw [← Int.tdiv_eq_ediv_of_nonneg (by omega),Int.neg_tdiv,Int.neg_neg]
theorem tdiv100 {b : Int} (h : I64 b) : IntKind.i64.wrap (b.tdiv 100) = b.tdiv 100:=by
 unfold I64 at h
 by_cases h0 : 0 ≤ b
 · rw [Int.tdiv_eq_ediv_of_nonneg h0,zI] <;> omega
 · rw [tdivN (by omega),zI] <;> omega
theorem tdiv_lt {b : Int} (h : b < 100) : b.tdiv 100 ≤ 0:=by
 by_cases h0 : 0 ≤ b
 · rw [Int.tdiv_eq_ediv_of_nonneg h0]; omega
 · rw [tdivN (by omega)]; omega
theorem bedOk_within (b : Int) : (withinL 1 4 [b.tdiv 100] && withinL 1 20 [b.tmod 100] || b == 125 || b == 225) = bedOk b:=by
 unfold bedOk withinL
 by_cases h : b < 100
 · have h1:=tdiv_lt h
   have e1 : decide (1 ≤ b.tdiv 100) = false:=by simp; omega
   have e2 : decide (100 ≤ b) = false:=by simp; omega
   have e3 : decide (b = 125) = false:=by simp; omega
   have e4 : decide (b = 225) = false:=by simp; omega
   have e5 : (b == 125) = false:=by simp; omega
   have e6 : (b == 225) = false:=by simp; omega
   simp [e1,e2,e3,e4,e5,e6]
 · rw [Int.tdiv_eq_ediv_of_nonneg (by omega),Int.tmod_eq_emod_of_nonneg (by omega)]
   have e : (decide (1 ≤ b / 100) && decide (b / 100 ≤ 4)) = (decide (100 ≤ b) && decide (b ≤ 499)):=by
    by_cases h2 : b ≤ 499
    · have : b / 100 ≤ 4:=by omega
      have : 1 ≤ b / 100:=by omega
      have : 100 ≤ b:=by omega
      simp [*]
    · have : ¬ b / 100 ≤ 4:=by omega
      simp [*]
   simp only [List.all_cons,List.all_nil,Bool.and_true,e]
   have e1 : (b == 125) = decide (b = 125):=by rw [Bool.eq_iff_iff]; simp
   have e2 : (b == 225) = decide (b = 225):=by rw [Bool.eq_iff_iff]; simp
   rw [e1,e2]
   cases decide (b = 125) <;> cases decide (b = 225) <;> simp [Bool.and_assoc]
theorem isBed_ok (b : Int) (hb : I64 b) : ACalls Try.prog 135 [i64 b] (.bo (bedOk b)):=by
 have hq:=tdiv100 hb
 refine acalls_st (rs:=[.bo (bedOk b)]) [.tmp 2] Try.func135 rfl (by kernel_rfl) Try.ntmps135 rfl (by simp) rfl fun C vs=>?_
 refine zq ?_
 refine zb fun K hK=>?_;simp only [go_sem];refine hK _ ?_;clear hK K
 refine zq ?_
 refine zb fun K hK=>?_;simp only [go_sem,hq];refine hK _ ?_;clear hK K
 refine zq ?_
 refine zb fun K hK=>?_;simp only [go_sem]
 refine zh (within_ok 1 4 [b.tdiv 100]) rfl (by simp only [go_sem,i64,ints]) (by simp only [go_sem,i64,ints]) (by first | exact .inl rfl | exact .inr rfl) ?_
 (try simp only [go_sem])
 have hw:=bedOk_within b
 refine ⟨fun h1=>?_,fun h1=>?_⟩
 · refine zh (within_ok 1 20 [b.tmod 100]) rfl (by simp only [go_sem,i64,ints]) (by simp only [go_sem,i64,ints]) (by first | exact .inl rfl | exact .inr rfl) ?_
   (try simp only [go_sem])
   repeat' first | intro _ | refine And.intro ?_ ?_
   all_goals first | omega | skip
   all_goals (refine hK _ ?_; clear hK K)
   all_goals (refine ze ?_; simp only [go_sem])
   all_goals (rw [← hw]; clear hw; simp [*])
 · repeat' first | intro _ | refine And.intro ?_ ?_
   all_goals first | omega | skip
   all_goals (refine hK _ ?_; clear hK K)
   all_goals (refine ze ?_; simp only [go_sem])
   all_goals (rw [← hw]; clear hw; simp [*])
def scoreOf (b : Int) : Int:=b / 100 * (b % 100)
theorem score_le {b : Int} (h0 : 0 ≤ b) (h1 : b ≤ 499) : 0 ≤ scoreOf b ∧ scoreOf b ≤ 396:=by
 unfold scoreOf
 have h2 : 0 ≤ b / 100:=by omega
 have h3 : b / 100 ≤ 4:=by omega
 refine ⟨Int.mul_nonneg h2 (by omega),?_⟩
 have:=Int.mul_le_mul h3 (show b % 100 ≤ 99 by omega) (by omega) (by omega)
 omega
theorem score_mul {b : Int} (h0 : 0 ≤ b) (h1 : b ≤ 499) : IntKind.i64.wrap (b.tdiv 100 * b.tmod 100) = scoreOf b:=by
 have:=score_le h0 h1
 rw [Int.tdiv_eq_ediv_of_nonneg h0,Int.tmod_eq_emod_of_nonneg h0]
 show IntKind.i64.wrap (scoreOf b) = _
 rw [zI] <;> omega
def loS (l : List Bd) : Int:=(l.map (·.lo)).sum
def hiS (l : List Bd) : Int:=(l.map (·.hi)).sum
theorem loS_snoc (l : List Bd) (x : Bd) : loS (l ++ [x]) = loS l + x.lo:=by simp [loS]
theorem hiS_snoc (l : List Bd) (x : Bd) : hiS (l ++ [x]) = hiS l + x.hi:=by simp [hiS]
def Small (l : List Bd) : Prop:=∀ x ∈ l,(0 ≤ x.lo ∧ x.lo ≤ 6000) ∧ 0 ≤ x.hi ∧ x.hi ≤ 6000
theorem sums_le : ∀ {l : List Bd},Small l → (0 ≤ loS l ∧ loS l ≤ 6000 * l.length) ∧ 0 ≤ hiS l ∧ hiS l ≤ 6000 * l.length
 | [],_=>by simp [loS,hiS]
 | x :: l, h => by
   have h1:=h x (by simp)
   have h2:=sums_le (l:=l) fun y hy=>h y (by simp [hy])
   simp only [loS,hiS,List.map_cons,List.sum_cons,List.length_cons] at h2 ⊢
   omega
theorem Small.take {l : List Bd} (h : Small l) (i : Nat) : Small (l.take i):=fun x hx=>h x (List.mem_of_mem_take hx)
theorem sums_ok (a : Int) (l : List Bd) (d : Int) (hs : Small l) (hl : l.length ≤ 1000) : ACalls Try.prog 124 [.ag [i64 a,bedsR l,i64 d]] (.ag [i64 (loS l),i64 (hiS l)]):=by
 refine acalls_st (rs:=[.ag [i64 (loS l),i64 (hiS l)]]) [.cell 2 66] Try.func124 rfl (by kernel_rfl) Try.ntmps124 rfl (by simp) rfl fun C vs=>?_
 refine zq ?_
 refine zb fun K hK=>?_;simp only [go_sem];refine hK _ ?_;clear hK K;refine zw (zk [1,2]) ?_;simp only [go_sem]
 repeat refine zq ?_
 refine zb fun K hK=>?_;simp only [go_sem]
 intro _
 refine hK _ ?_;clear hK K;refine zw (zk [2,7,8,9]) ?_;simp only [go_sem];refine zd ?_
 refine awp_upto (n:=29) l.length (fun i vs=>[(2,.pt 2 (vs 2) 0),(7,.r (bedsR l)),(8,.r (i64 l.length)),(9,.r (i64 i))])
  (fun i=>[(2,.box [.r (i64 (loS (l.take i))),.r (i64 (hiS (l.take i)))])]) (fun _=>True) 0 (fit_of [1] ?_ ?_) (Nat.zero_le _) trivial ?_
 · try simp only [go_sem]
 · try simp only [go_sem]
   simp [loS,hiS]
 · intro i vs hi _
   refine zq ?_
   refine zb fun K hK=>?_;simp only [go_sem];refine hK _ ?_;clear hK K
   refine zq ?_
   refine zc rfl (fun hc=>?_) (fun hc=>?_) <;> (try simp only [go_sem] at hc)
   · obtain ⟨x,hx⟩:=opt_of_lt hc
     have hb:=sums_le (hs.take (i + 1))
     have ht:=take_of_opt hx
     have hlt : (l.take (i + 1)).length ≤ 1000:=by rw [List.length_take]; omega
     rw [ht,loS_snoc,hiS_snoc] at hb
     rw [ht] at hlt
     refine zx ?_
     refine zq ?_
     refine zd ?_
     refine zq ?_
     refine zb fun K hK=>?_;simp only [go_sem,hx,hc,bedR];refine hK _ ?_;clear hK K;refine zw (zk [2,4,7,8,9]) ?_;simp only [go_sem]
     refine awp_dreg2 [(2,some 2),(4,some 4)] follows (by decide +kernel) (by kernel_rfl) (by simp only [keysOk,List.mem_cons,List.not_mem_nil,forall_eq_or_imp,Oc.keyOf,go_sem]; simp) fun K hK=>?_
     simp only [go_sem];(try simp (disch:=omega) only [zI]);refine hK _ ?_;clear hK K;refine zw (zk [2,7,8,9]) ?_;simp only [go_sem];refine zb fun K hK=>?_;simp only [go_sem];(try simp (disch:=omega) only [zI]);refine hK _ ?_;clear hK K
     try simp only [go_sem]
     refine ⟨hc,fit_of [4] ?_ ?_⟩
     · try simp only [go_sem]
     · try simp only [go_sem]
       rw [ht,loS_snoc,hiS_snoc]
   · refine zf ?_;simp only [go_sem]
     refine zq ?_
     refine zb fun K hK=>?_;simp only [go_sem];refine hK _ ?_;clear hK K;refine zw (zk [2]) ?_;simp only [go_sem];refine ze ?_;simp only [go_sem]
     have : l.take i = l:=List.take_of_length_le (by omega)
     simp [this]
def seqOk : Option Int → List Bd → Bool
 | _,[]=>true
 | p,x :: l=>(decide (x.b = 0) || bedOk x.b) && (match p with | none=>true | some q=>decide (q < x.b)) && seqOk (some x.b) l
def prevB (l : List Bd) : Nat → Option Int
 | 0=>none
 | i + 1=>(l[i]?).map (·.b)
def Wf (l : List Bd) : Prop:=∀ x ∈ l,I64 x.b ∧ I64 x.lo ∧ I64 x.hi
theorem areBeds_ok (a : Int) (l : List Bd) (d : Int) (ha : I64 a) (hw : Wf l) : ACalls Try.prog 104 [.ag [i64 a,bedsR l,i64 d]] (.bo (bedOk a && !l.isEmpty && seqOk none l)):=by
 refine acalls_st (rs:=[.bo (bedOk a && !l.isEmpty && seqOk none l)]) [.tmp 2] Try.func104 rfl (by kernel_rfl) Try.ntmps104 rfl (by simp) rfl fun C vs=>?_
 refine zq ?_
 refine zb fun K hK=>?_;simp only [go_sem];refine hK _ ?_;clear hK K;refine zw (zk [1]) ?_;simp only [go_sem]
 repeat refine zq ?_
 refine zb fun K hK=>?_;simp only [go_sem]
 refine zh (isBed_ok a ha) rfl (by simp only [go_sem,i64,ints]) (by simp only [go_sem,i64,ints]) (by first | exact .inl rfl | exact .inr rfl) ?_
 (try simp only [go_sem])
 cases hA : bedOk a
 · try simp only [go_sem]
   refine hK _ ?_;clear hK K
   refine zc rfl (fun hc=>?_) (fun hc=>?_) <;> (try simp only [go_sem] at hc)
   refine zq ?_
   refine zb fun K hK=>?_;simp only [go_sem];refine hK _ ?_;clear hK K;refine ze ?_;simp only [go_sem]
   simp [hA]
 try simp only [go_sem]
 intro _
 cases hE : l.isEmpty
 case true =>
  have h0 : l = []:=List.isEmpty_iff.1 hE
  subst h0
  try simp only [go_sem]
  refine hK _ ?_;clear hK K
  refine zc rfl (fun hc=>?_) (fun hc=>?_) <;> (try simp only [go_sem] at hc)
  refine zq ?_
  refine zb fun K hK=>?_;simp only [go_sem];refine hK _ ?_;clear hK K;refine ze ?_;simp only [go_sem]
  simp
 have hne : ((l.length : Int) == 0) = false:=by
  cases l with
  | nil=>simp at hE
  | cons=>simp; omega
 rw [hne]
 refine hK _ ?_;clear hK K;refine zw (zk [1,16]) ?_;simp only [go_sem]
 refine zc rfl (fun hc=>?_) (fun hc=>?_) <;> (try simp only [go_sem] at hc)
 refine zx ?_
 try simp only [go_sem]
 repeat refine zq ?_
 refine zb fun K hK=>?_;simp only [go_sem]
 intro hl9
 refine hK _ ?_;clear hK K;refine zw (zk [1,19,20,21]) ?_;simp only [go_sem];refine zd ?_
 refine awp_upto (n:=53) l.length (fun i vs=>[(1,.pt 1 (vs 1) 0),(19,.r (bedsR l)),(20,.r (i64 l.length)),(21,.r (i64 i))])
  (fun i=>[(1,.box [.r (i64 a),.r (bedsR l),.r (i64 d)])]) (fun i=>seqOk none l = seqOk (prevB l i) (l.drop i)) 0 (fit_of [] ?_ ?_) (Nat.zero_le _) rfl ?_
 · try simp only [go_sem]
 · try simp only [go_sem]
 · intro i vs hi hI
   refine zq ?_
   refine zb fun K hK=>?_;simp only [go_sem];refine hK _ ?_;clear hK K
   refine zq ?_
   refine zc rfl (fun hc=>?_) (fun hc=>?_) <;> (try simp only [go_sem] at hc)
   · obtain ⟨x,hx⟩:=opt_of_lt hc
     rw [drop_of_opt hx] at hI
     obtain ⟨hxb,_,_⟩:=hw x (mem_of_opt hx)
     have hB : ACalls Try.prog 135 [i64 x.b] (.bo (bedOk x.b)):=isBed_ok x.b hxb
     refine zx ?_
     refine zq ?_
     refine zd ?_
     refine zq ?_
     refine zb fun K hK=>?_;simp only [go_sem,hx,hc,bedR];refine hK _ ?_;clear hK K;refine zw (zk [1,3,4,19,20,21]) ?_;simp only [go_sem]
     have hp : ∀ q,prevB l i = some q → ∃ y j,i = j + 1 ∧ l[j]? = some y ∧ q = y.b:=fun q hq=>by
      cases i with
      | zero=>cases hq
      | succ j =>
        obtain ⟨y,hy⟩:=opt_of_lt (l:=l) (i:=j) (by omega)
        simp only [prevB,hy,Option.map_some,Option.some.injEq] at hq
        exact ⟨y,j,rfl,hy,hq.symm⟩
     cases hb0 : decide (x.b = 0) || bedOk x.b
     · have h0 : (x.b != 0) = true:=by simp_all
       have h1 : bedOk x.b = false:=by simp_all
       rw [h1] at hB
       refine zq ?_
       refine awp_dreg2 [(1,some 1),(3,none),(4,some 4)] follows (by decide +kernel) (by kernel_rfl) (by simp only [keysOk,List.mem_cons,List.not_mem_nil,forall_eq_or_imp,Oc.keyOf,go_sem]; simp) fun K hK=>?_
       simp only [go_sem,h0]
       refine zh (hB) rfl (by simp only [go_sem,i64,ints]) (by simp only [go_sem,i64,ints]) (by first | exact .inl rfl | exact .inr rfl) ?_
       (try simp only [go_sem]);refine hK _ ?_;clear hK K;refine zw (zk [1,19,20,21,51]) ?_;simp only [go_sem]
       refine zc rfl (fun hc=>?_) (fun hc=>?_) <;> (try simp only [go_sem] at hc)
       refine zq ?_
       refine zb fun K hK=>?_;simp only [go_sem];refine hK _ ?_;clear hK K;refine ze ?_;simp only [go_sem]
       simp [hI,seqOk,hb0]
     have hnx : prevB l (i + 1) = some x.b:=by simp [prevB,hx]
     have hstep : seqOk none l = ((match prevB l i with | none=>true | some q=>decide (q < x.b)) && seqOk (prevB l (i + 1)) (l.drop (i + 1))):=by
      rw [hI,hnx]
      simp only [seqOk,hb0,Bool.true_and]
     cases i with
     | zero =>
       have hp0 : seqOk none l = seqOk (prevB l 1) (l.drop 1):=by simpa [prevB] using hstep
       by_cases h0 : x.b = 0
       · have e0 : (x.b != 0) = false:=by simp [h0]
         refine zq ?_
         refine awp_dreg2 [(1,some 1),(3,none),(4,some 4)] follows (by decide +kernel) (by kernel_rfl) (by simp only [keysOk,List.mem_cons,List.not_mem_nil,forall_eq_or_imp,Oc.keyOf,go_sem]; simp) fun K hK=>?_
         simp only [go_sem,e0];refine hK _ ?_;clear hK K;refine zw (zk [1,19,20,21,51]) ?_;simp only [go_sem]
         refine zc rfl (fun hc=>?_) (fun hc=>?_) <;> (try simp only [go_sem] at hc)
         refine zx ?_
         try simp only [go_sem]
         refine zb fun K hK=>?_;simp only [go_sem];(try simp (disch:=omega) only [zI]);refine hK _ ?_;clear hK K
         try simp only [go_sem]
         exact ⟨by omega,hp0,fit_of [4] (by try simp only [go_sem]) (by try simp only [go_sem])⟩
       · have e0 : (x.b != 0) = true:=by simp [h0]
         have e1 : bedOk x.b = true:=by simpa [h0] using hb0
         rw [e1] at hB
         refine zq ?_
         refine awp_dreg2 [(1,some 1),(3,none),(4,some 4)] follows (by decide +kernel) (by kernel_rfl) (by simp only [keysOk,List.mem_cons,List.not_mem_nil,forall_eq_or_imp,Oc.keyOf,go_sem]; simp) fun K hK=>?_
         simp only [go_sem,e0]
         refine zh (hB) rfl (by simp only [go_sem,i64,ints]) (by simp only [go_sem,i64,ints]) (by first | exact .inl rfl | exact .inr rfl) ?_
         (try simp only [go_sem]);refine hK _ ?_;clear hK K;refine zw (zk [1,19,20,21,51]) ?_;simp only [go_sem]
         refine zc rfl (fun hc=>?_) (fun hc=>?_) <;> (try simp only [go_sem] at hc)
         refine zx ?_
         try simp only [go_sem]
         refine zb fun K hK=>?_;simp only [go_sem];(try simp (disch:=omega) only [zI]);refine hK _ ?_;clear hK K
         try simp only [go_sem]
         exact ⟨by omega,hp0,fit_of [4] (by try simp only [go_sem]) (by try simp only [go_sem])⟩
     | succ j =>
       obtain ⟨y,hy⟩:=opt_of_lt (l:=l) (i:=j) (by omega)
       have hpy : prevB l (j + 1) = some y.b:=by simp [prevB,hy]
       rw [hpy] at hstep
       have hj1 : IntKind.i64.wrap ((j : Int) + 1 - 1) = (j : Int):=by rw [zI] <;> omega
       have hj2 : j < l.length:=by omega
       have hj0 : (0 < (j : Int) + 1) = True:=by simp
       have go : ∀ (e : Bool),decide (x.b ≤ y.b) = e → (e = true → seqOk none l = false) ∧ (e = false → seqOk none l = seqOk (prevB l (j + 1 + 1)) (l.drop (j + 1 + 1))):=fun e he=>by
        refine ⟨fun h=>?_,fun h=>?_⟩
        · have : decide (y.b < x.b) = false:=by simp_all
          rw [hstep]; simp [this]
        · have : decide (y.b < x.b) = true:=by simp_all
          rw [hstep]; simp [this]
       obtain ⟨go1,go2⟩:=go _ rfl
       by_cases h0 : x.b = 0
       · have e0 : (x.b != 0) = false:=by simp [h0]
         refine zq ?_
         refine awp_dreg2 [(1,some 1),(3,none),(4,some 4)] follows (by decide +kernel) (by kernel_rfl) (by simp only [keysOk,List.mem_cons,List.not_mem_nil,forall_eq_or_imp,Oc.keyOf,go_sem]; simp) fun K hK=>?_
         simp only [go_sem,e0,hj1,hj0,hy,bedR]
         refine ⟨by omega,?_⟩
         refine hK _ ?_;clear hK K;refine zw (zk [1,19,20,21,51]) ?_;simp only [go_sem]
         cases hle : decide (x.b ≤ y.b)
         · skip
           refine zc rfl (fun hc=>?_) (fun hc=>?_) <;> (try simp only [go_sem] at hc)
           refine zx ?_
           try simp only [go_sem]
           refine zb fun K hK=>?_;simp only [go_sem];(try simp (disch:=omega) only [zI]);refine hK _ ?_;clear hK K
           try simp only [go_sem]
           exact ⟨by omega,go2 hle,fit_of [4] (by try simp only [go_sem]) (by try simp only [go_sem])⟩
         · skip
           refine zc rfl (fun hc=>?_) (fun hc=>?_) <;> (try simp only [go_sem] at hc)
           refine zq ?_
           refine zb fun K hK=>?_;simp only [go_sem];refine hK _ ?_;clear hK K;refine ze ?_;simp only [go_sem]
           simp [go1 hle]
       · have e0 : (x.b != 0) = true:=by simp [h0]
         have e1 : bedOk x.b = true:=by simpa [h0] using hb0
         rw [e1] at hB
         refine zq ?_
         refine awp_dreg2 [(1,some 1),(3,none),(4,some 4)] follows (by decide +kernel) (by kernel_rfl) (by simp only [keysOk,List.mem_cons,List.not_mem_nil,forall_eq_or_imp,Oc.keyOf,go_sem]; simp) fun K hK=>?_
         simp only [go_sem,e0,hj1,hj0,hy,bedR]
         refine zh (hB) rfl (by simp only [go_sem,i64,ints,hj1,hj0,hy,bedR]) (by simp only [go_sem,i64,ints,hj1,hj0,hy,bedR]) (by first | exact .inl rfl | exact .inr rfl) ?_
         (try simp only [go_sem,hj1,hj0,hy,bedR])
         refine ⟨by omega,?_⟩
         refine hK _ ?_;clear hK K;refine zw (zk [1,19,20,21,51]) ?_;simp only [go_sem]
         cases hle : decide (x.b ≤ y.b)
         · skip
           refine zc rfl (fun hc=>?_) (fun hc=>?_) <;> (try simp only [go_sem] at hc)
           refine zx ?_
           try simp only [go_sem]
           refine zb fun K hK=>?_;simp only [go_sem];(try simp (disch:=omega) only [zI]);refine hK _ ?_;clear hK K
           try simp only [go_sem]
           exact ⟨by omega,go2 hle,fit_of [4] (by try simp only [go_sem]) (by try simp only [go_sem])⟩
         · skip
           refine zc rfl (fun hc=>?_) (fun hc=>?_) <;> (try simp only [go_sem] at hc)
           refine zq ?_
           refine zb fun K hK=>?_;simp only [go_sem];refine hK _ ?_;clear hK K;refine ze ?_;simp only [go_sem]
           simp [go1 hle]
   · refine zf ?_;simp only [go_sem]
     refine zq ?_
     refine zb fun K hK=>?_;simp only [go_sem];refine hK _ ?_;clear hK K;refine zw (zk [2]) ?_;simp only [go_sem];refine ze ?_;simp only [go_sem]
     have : l.drop i = []:=List.drop_eq_nil_of_le (by omega)
     have h0 : l ≠ []:=fun e=>by rw [e] at hE; simp at hE
     simp [hI,this,seqOk,hA,h0]
def badCh (d : Int) (x : Bd) : Bool:=!withinL 0 d [x.lo,x.hi] || decide (x.hi < x.lo)
theorem valid1_ok (a : Int) (l : List Bd) (d : Int) (x : Bd) : ACalls Try.prog 123 [bedV x,.rp [i64 a,bedsR l,i64 d]] (.bo (badCh d x)):=by
 refine acalls_st (rs:=[.bo (badCh d x)]) [.tmp 3] Try.func123 rfl (by kernel_rfl) Try.ntmps123 rfl (by simp) rfl fun C vs=>?_
 refine zq ?_
 refine zb fun K hK=>?_;simp only [go_sem];refine hK _ ?_;clear hK K
 refine zq ?_
 refine zb fun K hK=>?_;simp only [go_sem]
 refine zh (within_ok 0 d [x.lo,x.hi]) rfl (by simp only [go_sem,i64,ints]) (by simp only [go_sem,i64,ints]) (by first | exact .inl rfl | exact .inr rfl) ?_
 (try simp only [go_sem])
 refine ⟨fun h=>?_,fun h=>?_⟩
 · skip
   refine hK _ ?_;clear hK K;refine ze ?_;simp only [go_sem]
   simp [badCh,h]
 · skip
   refine hK _ ?_;clear hK K;refine ze ?_;simp only [go_sem]
   simp [badCh,h]
def chOk (d : Int) (l : List Bd) : Bool:=l.all fun x=>decide (0 ≤ x.lo) && decide (x.lo ≤ x.hi) && decide (x.hi ≤ d)
theorem badCh_eq (d : Int) (l : List Bd) : (!(l.any (badCh d))) = chOk d l:=by
 unfold chOk
 rw [List.not_any_eq_all_not]
 congr 1
 funext x
 unfold badCh withinL
 simp only [List.all_cons,List.all_nil,Bool.and_true]
 by_cases h1 : 0 ≤ x.lo <;> by_cases h2 : x.lo ≤ d <;> by_cases h3 : 0 ≤ x.hi <;> by_cases h4 : x.hi ≤ d <;> by_cases h5 : x.hi < x.lo <;> by_cases h6 : x.lo ≤ x.hi <;> simp [h1,h2,h3,h4,h5,h6] <;> omega
theorem chOk_small {d : Int} {l : List Bd} (h : chOk d l = true) (hd : d ≤ 6000) : Small l:=fun x hx=>by
 have:=List.all_eq_true.1 h x hx
 simp only [Bool.and_eq_true,decide_eq_true_eq] at this
 omega
def aimOk (d : Int) (a : Am) : Bool:=bedOk a.at_ && !a.beds.isEmpty && seqOk none a.beds && chOk d a.beds && decide (loS a.beds ≤ d) && decide (d ≤ hiS a.beds)
def WfA (a : Am) : Prop:=I64 a.at_ ∧ Wf a.beds
theorem isValid_ok (a : Am) (d : Int) (hw : WfA a) (hd : d ≤ 6000) (hl : a.beds.length ≤ 1000) : ACalls Try.prog 90 [chV a d] (.bo (aimOk d a)):=by
 refine acalls_st (rs:=[.bo (aimOk d a)]) [.tmp 2] Try.func90 rfl (by kernel_rfl) Try.ntmps90 rfl (by simp) rfl fun C vs=>?_
 refine zq ?_
 refine zb fun K hK=>?_;simp only [go_sem];refine hK _ ?_;clear hK K;refine zw (zk [1]) ?_;simp only [go_sem]
 repeat refine zq ?_
 refine zb fun K hK=>?_;simp only [go_sem]
 refine zh (areBeds_ok a.at_ a.beds d hw.1 hw.2) rfl (by simp only [go_sem,i64,ints]) (by simp only [go_sem,i64,ints]) (by first | exact .inl rfl | exact .inr rfl) ?_
 (try simp only [go_sem])
 cases h1 : (bedOk a.at_ && !a.beds.isEmpty && seqOk none a.beds)
 · try simp only [go_sem]
   refine hK _ ?_;clear hK K
   refine zc rfl (fun hc=>?_) (fun hc=>?_) <;> (try simp only [go_sem] at hc)
   refine zq ?_
   refine zb fun K hK=>?_;simp only [go_sem];refine hK _ ?_;clear hK K;refine ze ?_;simp only [go_sem]
   simp [aimOk,h1]
 try simp only [go_sem]
 refine zh (containsB_ok (badCh d) 123 [.rp [i64 a.at_,bedsR a.beds,i64 d]] a.beds fun x _=>valid1_ok a.at_ a.beds d x) rfl (by simp only [go_sem,i64,ints]) (by simp only [go_sem,i64,ints]) (by first | exact .inl rfl | exact .inr rfl) ?_
 (try simp only [go_sem]);refine hK _ ?_;clear hK K;refine zw (zk [1,13]) ?_;simp only [go_sem]
 have h2:=badCh_eq d a.beds
 cases h3 : a.beds.any (badCh d)
 · rw [h3] at h2
   have h4 : chOk d a.beds = true:=by simpa using h2.symm
   refine zc rfl (fun hc=>?_) (fun hc=>?_) <;> (try simp only [go_sem] at hc)
   refine zx ?_
   try simp only [go_sem]
   refine zq ?_
   refine zb fun K hK=>?_;simp only [go_sem]
   refine zh (sums_ok a.at_ a.beds d (chOk_small h4 hd) hl) rfl (by simp only [go_sem,i64,ints]) (by simp only [go_sem,i64,ints]) (by first | exact .inl rfl | exact .inr rfl) ?_
   (try simp only [go_sem]);refine hK _ ?_;clear hK K;refine zw (zk [1,3]) ?_;simp only [go_sem]
   refine zq ?_
   refine zb fun K hK=>?_;simp only [go_sem]
   refine zh (within_ok (loS a.beds) (hiS a.beds) [d]) rfl (by simp only [go_sem,i64,ints]) (by simp only [go_sem,i64,ints]) (by first | exact .inl rfl | exact .inr rfl) ?_
   (try simp only [go_sem]);refine hK _ ?_;clear hK K;refine ze ?_;simp only [go_sem]
   simp [aimOk,h1,h4,withinL]
 · rw [h3] at h2
   have h4 : chOk d a.beds = false:=by simpa using h2.symm
   refine zc rfl (fun hc=>?_) (fun hc=>?_) <;> (try simp only [go_sem] at hc)
   refine zq ?_
   refine zb fun K hK=>?_;simp only [go_sem];refine hK _ ?_;clear hK K;refine ze ?_;simp only [go_sem]
   simp [aimOk,h4]
def enumA (d : Int) (l : List Am) : List (List RV):=l.zipIdx.map fun x=>[i64 x.2,chV x.1 d]
theorem enumA_get {d : Int} {l : List Am} {i : Nat} {e : List RV} (h : (enumA d l)[i]? = some e) : ∃ x,l[i]? = some x ∧ e = [i64 i,chV x d]:=by
 simp only [enumA,List.getElem?_map,List.getElem?_zipIdx,Nat.zero_add] at h
 cases hx : l[i]? with
 | none=>rw [hx] at h; cases h
 | some x=>rw [hx] at h; simp only [Option.map_some,Option.some.injEq] at h; exact ⟨x,rfl,h.symm⟩
theorem enumA_len {d : Int} {l : List Am} {e : List RV} (h : e ∈ enumA d l) : e.length = 2:=by
 obtain ⟨i,hi⟩:=List.getElem?_of_mem h
 obtain ⟨x,_,rfl⟩:=enumA_get hi
 rfl
theorem xcall_yield {n : Nat} {l : List (Nat × AV)} {vs : Nat → Nat} {cs : List (Nat × RowC)} {P : Program} {d : Option Nat} {ll : Nat} {z : Bool} {e : List RV} {rest : List (List RV)} {xs : List AV} {K : AS → Prop} (hrow : lookc cs 999 = .gh P ll z (some (e :: rest)))
 (hp : AV.pureL xs = true) (he : snapVL (st n l vs cs).rows xs = e) (hfl : RV.flatL e = true ∨ z = false) (hK1 : K ((st n l vs (insc cs 999 (.gh P ll z (some rest)))).put d (.r (.bo true)))) (hK2 : K ((st n l vs (insc cs 999 (.gh P ll z none))).put d (.r (.bo false)))) :
 xcall P false (st n l vs cs) d (.r (.yl ll)) xs K:=by
 have hr : ∀ c,(st n l vs cs).row 999 ⟨((st n l vs cs).rows 999).ver,c⟩ = st n l vs (insc cs 999 c):=fun c=>by
  rw [row_st]
  congr 1
  exact upd_self vs 999
 exact .inr (.inl ⟨rfl,.inr (.inr (.inl ⟨ll,z,e,rest,rfl,hrow,hp,he ▸ leL_refl _,hfl,by rw [hr]; exact hK1,by rw [hr]; exact hK2⟩))⟩)
theorem all1_ok (d : Int) (l : List Am) : ICalls Try.prog false 121 [.rp [i64 d,aimsR l]] (enumA d l):=by
 refine icalls_st Try.func121 rfl (by kernel_rfl) Try.ntmps121 rfl (by simp) fun C ll=>?_
 refine zq ?_
 refine zb fun K hK=>?_;simp only [go_sem,argL]
 intro hl7
 refine hK _ ?_;clear hK K;refine zw (zk [0,1,6,7,8]) ?_;simp only [go_sem];refine zd ?_
 refine awp_upto (n:=22) l.length (fun i vs=>[(0,.r (.yl ll)),(1,.r (.rp [i64 d,aimsR l])),(6,.r (aimsR l)),(7,.r (i64 l.length)),(8,.r (i64 i))])
  (fun i=>[(999,.gh Try.prog ll false (some ((enumA d l).drop i)))]) (fun _=>True) 0 (fit_of [] ?_ ?_) (Nat.zero_le _) trivial ?_
 · try simp only [go_sem]
 · try simp only [go_sem]
 · intro i vs hi _
   refine zq ?_
   refine zb fun K hK=>?_;simp only [go_sem];refine hK _ ?_;clear hK K
   refine zq ?_
   refine zc rfl (fun hc=>?_) (fun hc=>?_) <;> (try simp only [go_sem] at hc)
   · obtain ⟨x,hx⟩:=opt_of_lt hc
     have hci:=hc
     have he : (enumA d l).drop i = [i64 i,chV x d] :: (enumA d l).drop (i + 1):=by
      refine drop_of_opt ?_
      simp [enumA,hx]
     refine zx ?_
     refine zq ?_
     refine zd ?_
     refine zq ?_
     refine zb fun K hK=>?_;simp only [go_sem,hx,hc,aimR];refine hK _ ?_;clear hK K;refine zw (zk [0,1,3,4,6,7,8]) ?_;simp only [go_sem]
     refine zq ?_
     refine zb fun K hK=>?_;simp only [go_sem]
     refine xcall_yield (e:=[i64 i,chV x d]) (rest:=(enumA d l).drop (i + 1)) (by simp only [go_sem,he]) rfl (by simp only [go_sem]) (.inr rfl) ?_ ?_
     · simp only [go_sem];refine hK _ ?_;clear hK K;refine zw (zk [0,1,6,7,8,20]) ?_;simp only [go_sem]
       refine zc rfl (fun hc=>?_) (fun hc=>?_) <;> (try simp only [go_sem] at hc)
       refine zx ?_
       try simp only [go_sem]
       refine zb fun K hK=>?_;simp only [go_sem];(try simp (disch:=omega) only [zI]);refine hK _ ?_;clear hK K
       try simp only [go_sem]
       exact ⟨hci,fit_of [4] (by try simp only [go_sem]) (by try simp only [go_sem])⟩
     · simp only [go_sem];refine hK _ ?_;clear hK K;refine zw (zk [20]) ?_;simp only [go_sem]
       refine zc rfl (fun hc=>?_) (fun hc=>?_) <;> (try simp only [go_sem] at hc)
       refine ze ?_;simp only [go_sem];exact ⟨_,_,.inr rfl⟩
   · refine zf ?_;simp only [go_sem]
     have h0 : (enumA d l).drop i = []:=List.drop_eq_nil_of_le (by simp [enumA]; omega)
     exact ⟨ll,false,.inl (by simp only [go_sem,h0])⟩
theorem all_ok (d : Int) (l : List Am) : ACalls Try.prog 89 [lawV d l] (.fn 121 [.rp [i64 d,aimsR l]]):=by
 refine acalls_st (rs:=[.fn 121 [.rp [i64 d,aimsR l]]]) [.tmp 2] Try.func89 rfl (by kernel_rfl) Try.ntmps89 rfl (by simp) rfl fun C vs=>?_
 refine zq ?_
 refine zb fun K hK=>?_;simp only [go_sem];refine hK _ ?_;clear hK K
 refine zq ?_
 refine zb fun K hK=>?_;simp only [go_sem];refine hK _ ?_;clear hK K;refine ze ?_;simp only [go_sem]
 simp [RV.le,leL_refl.le_refl,leL_refl]
theorem check1_ok (a : Am) : ACalls Try.prog 87 [aimV a] (.bo (decide (10 < a.beds.length))):=by
 refine acalls_st (rs:=[.bo (decide (10 < a.beds.length))]) [.tmp 2] Try.func87 rfl (by kernel_rfl) Try.ntmps87 rfl (by simp) rfl fun C vs=>?_
 refine zq ?_
 refine zb fun K hK=>?_;simp only [go_sem];refine hK _ ?_;clear hK K
 refine zq ?_
 refine zb fun K hK=>?_;simp only [go_sem]
 intro _
 refine hK _ ?_;clear hK K;refine ze ?_;simp only [go_sem]
 simp
 omega
def checkV (d : Int) (l : List Am) : Int :=
 if (decide (20 < l.length) || l.any fun a=>decide (10 < a.beds.length)) = true then 5
 else if (l.isEmpty || !(decide (1 ≤ d) && decide (d ≤ 3000))) = true then 2
 else if l.all (aimOk d) = true then 0 else 2
def WfL (d : Int) (l : List Am) : Prop:=I64 d ∧ ∀ a ∈ l,WfA a
theorem check_ok (d : Int) (l : List Am) (hw : WfL d l) : ACalls Try.prog 54 [lawV d l] (i64 (checkV d l)):=by
 refine acalls_stR (rs:=[i64 (checkV d l)]) [.cell 2 31] Try.func54 rfl (by kernel_rfl) Try.ntmps54 rfl (by simp) rfl fun C hC vs=>?_
 refine zq ?_
 refine zb fun K hK=>?_;simp only [go_sem];refine hK _ ?_;clear hK K;refine zw (zk [1,2]) ?_;simp only [go_sem]
 repeat refine zq ?_
 refine zb fun K hK=>?_;simp only [go_sem]
 intro hl8
 refine ⟨fun h1=>?_,fun h1=>?_⟩
 rotate_left
 · skip
   refine hK _ ?_;clear hK K
   refine zc rfl (fun hc=>?_) (fun hc=>?_) <;> (try simp only [go_sem] at hc)
   refine zq ?_
   refine zb fun K hK=>?_;simp only [go_sem];refine hK _ ?_;clear hK K;refine ze ?_;simp only [go_sem]
   have h1' : 20 < l.length:=by omega
   simp [checkV,h1']
 have h1' : ¬ 20 < l.length:=by omega
 refine zh (containsA_ok (fun a=>decide (10 < a.beds.length)) 87 [] l fun x _=>check1_ok x) rfl (by simp only [go_sem,i64,ints]) (by simp only [go_sem,i64,ints]) (by first | exact .inl rfl | exact .inr rfl) ?_
 (try simp only [go_sem]);refine hK _ ?_;clear hK K;refine zw (zk [1,2,13]) ?_;simp only [go_sem]
 cases h2 : l.any fun a=>decide (10 < a.beds.length)
 case true =>
  refine zc rfl (fun hc=>?_) (fun hc=>?_) <;> (try simp only [go_sem] at hc)
  refine zq ?_
  refine zb fun K hK=>?_;simp only [go_sem];refine hK _ ?_;clear hK K;refine ze ?_;simp only [go_sem]
  simp [checkV,h2]
 have hlen : ∀ a ∈ l,a.beds.length ≤ 10:=fun a ha=>by
  have:=List.any_eq_false.1 h2 a ha
  simpa using this
 refine zc rfl (fun hc=>?_) (fun hc=>?_) <;> (try simp only [go_sem] at hc)
 refine zx ?_
 try simp only [go_sem]
 repeat refine zq ?_
 refine zb fun K hK=>?_;simp only [go_sem]
 intro _
 have h12 : (decide (20 < l.length) || l.any fun a=>decide (10 < a.beds.length)) = false:=by simp only [h2,Bool.or_false]; simpa using h1'
 have hV : checkV d l = if (l.isEmpty || !(decide (1 ≤ d) && decide (d ≤ 3000))) = true then 2 else if l.all (aimOk d) = true then 0 else 2:=by
  unfold checkV
  rw [h12]
  rfl
 refine ⟨fun h3=>?_,fun h3=>?_⟩
 rotate_left
 · have h4 : l = []:=List.length_eq_zero_iff.1 (by omega)
   refine hK _ ?_;clear hK K
   refine zc rfl (fun hc=>?_) (fun hc=>?_) <;> (try simp only [go_sem] at hc)
   refine zq ?_
   refine zb fun K hK=>?_;simp only [go_sem];refine hK _ ?_;clear hK K;refine ze ?_;simp only [go_sem];rw [hV,h4]
   rfl
 have h4 : l.isEmpty = false:=by
  cases l with
  | nil=>simp at h3
  | cons=>rfl
 rw [h4,Bool.false_or] at hV
 refine zh (within_ok 1 3000 [d]) rfl (by simp only [go_sem,i64,ints]) (by simp only [go_sem,i64,ints]) (by first | exact .inl rfl | exact .inr rfl) ?_
 (try simp only [go_sem]);refine hK _ ?_;clear hK K;refine zw (zk [1,2,24]) ?_;simp only [go_sem]
 have hwd : withinL 1 3000 [d] = (decide (1 ≤ d) && decide (d ≤ 3000)):=by simp [withinL]
 rw [hwd]
 cases h5 : (decide (1 ≤ d) && decide (d ≤ 3000))
 · skip
   refine zc rfl (fun hc=>?_) (fun hc=>?_) <;> (try simp only [go_sem] at hc)
   refine zq ?_
   refine zb fun K hK=>?_;simp only [go_sem];refine hK _ ?_;clear hK K;refine ze ?_;simp only [go_sem];rw [hV,h5]
   rfl
 rw [h5] at hV
 have hd : d ≤ 6000:=by simp at h5; omega
 refine zc rfl (fun hc=>?_) (fun hc=>?_) <;> (try simp only [go_sem] at hc)
 refine zx ?_
 try simp only [go_sem]
 repeat refine zq ?_
 refine zb fun K hK=>?_;simp only [go_sem]
 refine zh (all_ok d l) rfl (by simp only [go_sem,i64,ints]) (by simp only [go_sem,i64,ints]) (by first | exact .inl rfl | exact .inr rfl) ?_
 (try simp only [go_sem]);refine hK _ ?_;clear hK K;refine zw (zk [2,26]) ?_;simp only [go_sem];refine zd ?_
 refine awp_rangeF hC (enumA d l) (all1_ok d l) [2,26] (by decide) (fun vs=>[(2,.pt 2 (vs 2) 0),(26,.r (.fn 121 [.rp [i64 d,aimsR l]]))]) (fun i vs=>[(2,.box [.r (i64 0)])])
  (fun i=>(l.take i).all (aimOk d) = true) (zj [1] ?_ ?_) (by simp) (fun _=>rfl) (fun _=>rfl) (fun _ _=>rfl) (by simp) (fun e he=>enumA_len he) ?_ ?_
 · try simp only [go_sem]
 · try simp only [go_sem]
 · intro i e vs us C he hI
   obtain ⟨x,hx,rfl⟩:=enumA_get he
   refine zb fun K hK=>?_;simp only [go_sem];refine hK _ ?_;clear hK K
   refine ⟨rfl,fun C'=>?_⟩
   refine zw (zk [2,4,26]) ?_;simp only [go_sem];refine zd ?_
   refine zq ?_
   refine zb fun K hK=>?_;simp only [go_sem]
   refine zh (isValid_ok x d (hw.2 x (mem_of_opt hx)) hd (by have:=hlen x (mem_of_opt hx); omega)) rfl (by simp only [go_sem,i64,ints]) (by simp only [go_sem,i64,ints]) (by first | exact .inl rfl | exact .inr rfl) ?_
   (try simp only [go_sem]);refine hK _ ?_;clear hK K;refine zw (zk [2,26,31]) ?_;simp only [go_sem]
   cases h6 : aimOk d x
   · skip
     refine zc rfl (fun hc=>?_) (fun hc=>?_) <;> (try simp only [go_sem] at hc)
     refine zq ?_
     refine zb fun K hK=>?_;simp only [go_sem];refine hK _ ?_;clear hK K;refine ze ?_;simp only [go_sem]
     refine rf_ret (by simp only [go_sem]; rfl) ?_
     try simp only [go_sem]
     rw [hV]
     have : l.all (aimOk d) = false:=List.all_eq_false.2 ⟨x,mem_of_opt hx,by simp [h6]⟩
     rw [this]
     rfl
   · skip
     refine zc rfl (fun hc=>?_) (fun hc=>?_) <;> (try simp only [go_sem] at hc)
     refine zx ?_
     try simp only [go_sem]
     refine ⟨?_,zj (F:=fun _=>[]) [4] (by try simp only [go_sem]) (by try simp only [go_sem])⟩
     rw [take_of_opt hx]; simp [hI,h6]
 · intro vs us hI
   try simp only [go_sem]
   refine zw (sub_wake rfl) ?_
   refine zq ?_
   refine zb fun K hK=>?_;simp only [go_sem];refine hK _ ?_;clear hK K;refine ze ?_;simp only [go_sem];rw [hV]
   have : (enumA d l).length = l.length:=by simp [enumA]
   rw [this,List.take_length] at hI
   rw [hI]
   rfl
end Go.Proofs.Ytgfbenanljjgaaa.Du

namespace Go.Proofs.Ytgfbenanljjgaaa.Du.Th
open Go Go.Oc
set_option linter.unusedSimpArgs false
set_option maxRecDepth 8000
theorem score_ok (b : Int) (h0 : 0 ≤ b) (h1 : b ≤ 499) : ACalls Try.prog 158 [i64 b] (i64 (scoreOf b)):=by
 have hq:=tdiv100 (b:=b) ⟨by omega,by omega⟩
 have hm:=score_mul h0 h1
 refine acalls_st (rs:=[i64 (scoreOf b)]) [.tmp 2] Try.func158 rfl (by kernel_rfl) Try.ntmps158 rfl (by simp) rfl fun C vs=>?_
 refine zq ?_
 refine zb fun K hK=>?_;simp only [go_sem];refine hK _ ?_;clear hK K
 refine zq ?_
 refine zb fun K hK=>?_;simp only [go_sem,hq,hm];refine hK _ ?_;clear hK K;refine ze ?_;simp only [go_sem]
set_option linter.unusedVariables false
def atE (l : List Int) (v : Int) : Int:=indexF (fun x=>v == x) l
theorem atE_lt (v : Int) : ∀ (l : List Int),atE l v < l.length
 | []=>by simp [atE,indexF]
 | x :: l => by
   have ih:=atE_lt v l
   unfold atE at ih ⊢
   simp only [indexF,List.length_cons]
   split
   · omega
   · split <;> omega
theorem indexE_ok (l : List Int) (v : Int) : ACalls Try.prog 156 [ints l,i64 v] (i64 (atE l v)):=by
 refine acalls_st (rs:=[i64 (atE l v)]) [.tmp 4] Try.func156 rfl (by kernel_rfl) Try.ntmps156 rfl (by simp) rfl fun C vs=>?_
 refine zq ?_
 refine zb fun K hK=>?_;simp only [go_sem];refine hK _ ?_;clear hK K;refine zw (zk [0,1]) ?_;simp only [go_sem]
 repeat refine zq ?_
 refine zb fun K hK=>?_;simp only [go_sem]
 intro hl
 refine hK _ ?_;clear hK K;refine zw (zk [0,1,7,8]) ?_;simp only [go_sem];refine zd ?_
 refine awp_upto (n:=19) l.length (fun i vs=>[(0,.r (ints l)),(1,.r (i64 v)),(7,.r (i64 l.length)),(8,.r (i64 i))]) (fun _=>[])
  (fun i=>atE l v = if atE (l.drop i) v < 0 then -1 else i + atE (l.drop i) v) 0 (fit_of [] ?_ rfl) (Nat.zero_le _) ?_ ?_
 · try simp only [go_sem]
 · simp only [List.drop_zero]
   have:=indexF_ge (fun x=>v == x) l
   unfold atE
   split
   · omega
   · simp
 · intro i vs hi hI
   refine zq ?_
   refine zb fun K hK=>?_;simp only [go_sem];refine hK _ ?_;clear hK K;refine zw (zk [0,1,7,8,9]) ?_;simp only [go_sem]
   refine zq ?_
   refine zc rfl (fun hc=>?_) (fun hc=>?_) <;> (try simp only [go_sem] at hc)
   · have hci:=hc
     obtain ⟨x,hx⟩:=opt_of_lt hci
     rw [drop_of_opt hx] at hI
     refine zx ?_
     try simp only [go_sem]
     refine zq ?_
     refine zd ?_
     refine zq ?_
     refine zb fun K hK=>?_;simp only [go_sem];refine hK _ ?_;clear hK K;refine zw (zk [0,1,5,7,8]) ?_;simp only [go_sem]
     refine zq ?_
     refine zb fun K hK=>?_;simp only [go_sem,hx,hci];refine hK _ ?_;clear hK K;refine zw (zk [0,1,5,7,8,16]) ?_;simp only [go_sem]
     by_cases he : (v == x) = true
     · have h2 : atE l v = i:=by rw [hI]; simp [atE,indexF,he]
       rw [he,h2]
       refine zc rfl (fun hc=>?_) (fun hc=>?_) <;> (try simp only [go_sem] at hc)
       refine zq ?_
       refine zb fun K hK=>?_;simp only [go_sem];refine hK _ ?_;clear hK K;refine zw (zk [4]) ?_;simp only [go_sem];refine ze ?_;simp only [go_sem]
     · have he' : (v == x) = false:=by simpa using he
       rw [he']
       refine zc rfl (fun hc=>?_) (fun hc=>?_) <;> (try simp only [go_sem] at hc)
       refine zx ?_
       try simp only [go_sem]
       refine zb fun K hK=>?_;simp only [go_sem];(try simp (disch:=omega) only [zI]);refine hK _ ?_;clear hK K
       try simp only [go_sem]
       refine ⟨hci,?_,fit_of [] ?_ rfl⟩
       · rw [hI]
         simp only [atE,indexF,he',Bool.false_eq_true,if_false]
         have:=indexF_ge (fun x=>v == x) (l.drop (i + 1))
         split <;> split <;> omega
       · try simp only [go_sem]
   · have hil : i = l.length:=by omega
     subst hil
     rw [List.drop_length] at hI
     have hI' : atE l v = -1:=by rw [hI]; simp [atE,indexF]
     refine zf ?_;simp only [go_sem]
     refine zq ?_
     refine zb fun K hK=>?_;simp only [go_sem];refine hK _ ?_;clear hK K;refine zw (zk [4]) ?_;simp only [go_sem];refine ze ?_;simp only [go_sem];rw [hI']
abbrev tR (t : List Int) : List RV:=t.map fun x=>i64 x
abbrev tA (t : List Int) : List AV:=(tR t).map AV.r
abbrev zeroT : List Int:=[0,0,0,0,0,0,0,0,0,0]
def incT (t : List Int) (i : Nat) : List Int:=t.set i (t.getD i 0 + 1)
theorem incT_len (t : List Int) (i : Nat) : (incT t i).length = t.length:=by simp [incT]
theorem tA_drop {t : List Int} {i : Nat} {x : Int} (h : t[i]? = some x) : (tA t).drop i = .r (i64 x) :: (tA t).drop (i + 1):=by
 refine drop_of_opt ?_
 simp [h]
theorem tA_set {t : List Int} {i : Nat} {y : Int} (h : i < t.length) : (tA t).take i ++ (AV.r (RV.it .i64 y) :: (tA t).drop (i + 1)) = tA (t.set i y):=by
 have : ((t.set i y).map fun x=>i64 x).map AV.r = (((t.map fun x=>i64 x).map AV.r).set i (.r (i64 y))):=by simp [List.map_set]
 show _ = ((t.set i y).map fun x=>i64 x).map AV.r
 rw [this,List.set_eq_take_append_cons_drop,if_pos (by simpa using h)]
theorem tA_len (t : List Int) : (tA t).length = t.length:=by simp
def tallyK (beds : List Int) : List Int → List Int → Option (List Int)
 | t,[]=>some t
 | t,d :: ds=>if atE beds d < 0 then none else tallyK beds (incT t (atE beds d).toNat) ds
def knownXs (beds ds : List Int) : List (List RV):=match tallyK beds zeroT ds with | some t=>[[.ag (tR t)]] | none=>[]
abbrev sheetR (beds le mo : List Int) : List RV:=ints beds :: (tR le ++ tR mo)
theorem flat_tR : ∀ t : List Int,RV.flatL (tR t) = true
 | []=>rfl
 | x :: t=>by simp only [tR,List.map_cons,RV.flatL,RV.flatB,Bool.true_and]; exact flat_tR t
def SmallT (b : Int) (t : List Int) : Prop:=t.length = 10 ∧ ∀ x ∈ t,0 ≤ x ∧ x ≤ b
theorem incT_small {b : Int} {t : List Int} {i : Nat} (h : SmallT b t) (hb : 0 ≤ b) : SmallT (b + 1) (incT t i):=by
 refine ⟨by rw [incT_len]; exact h.1,fun x hx=>?_⟩
 rcases List.mem_or_eq_of_mem_set hx with h1 | h1
 · have:=h.2 x h1; omega
 · subst h1
   rw [List.getD_eq_getElem?_getD]
   cases e : t[i]? with
   | none=>simp; omega
   | some y=>have:=h.2 y (mem_of_opt e); simp; omega
theorem known1_ok (beds ds le mo : List Int) (hb : beds.length ≤ 10) (hd : ds.length ≤ 1000) : ICalls Try.prog true 155 [.rp [ints ds],.rp [.rp (sheetR beds le mo)]] (knownXs beds ds):=by
 refine icalls_st Try.func155 rfl (by kernel_rfl) Try.ntmps155 rfl (by simp) fun C ll=>?_
 refine zq ?_
 refine zb fun K hK=>?_;simp only [go_sem,argL];refine hK _ ?_;clear hK K;refine zw (zk [0,1,2,4]) ?_;simp only [go_sem]
 repeat refine zq ?_
 refine zb fun K hK=>?_;simp only [go_sem]
 intros
 refine hK _ ?_;clear hK K;refine zw (zk [0,2,4,8,9,10]) ?_;simp only [go_sem];refine zd ?_
 refine awp_while (n:=31) (fun (y : Nat × List Int) vs=>[(0,.r (.yl ll)),(2,.r (.rp [.rp (sheetR beds le mo)])),(4,.pt 4 (vs 4) 0),(8,.r (ints ds)),(9,.r (i64 ds.length)),(10,.r (i64 y.1))])
  (fun y=>[(4,.box (tA y.2)),(999,.gh Try.prog ll true (some (knownXs beds ds)))]) (fun y=>y.1 ≤ ds.length ∧ SmallT y.1 y.2 ∧ tallyK beds zeroT ds = tallyK beds y.2 (ds.drop y.1)) (fun y=>ds.length - y.1) (0,zeroT) (fit_of [] ?_ ?_) ⟨Nat.zero_le _,⟨rfl,by decide⟩,rfl⟩ ?_
 · try simp only [go_sem]
 · try simp only [go_sem]
   rfl
 · rintro ⟨i,t⟩ vs ⟨hi,hs,hK⟩
   simp only at hi hs hK
   refine zq ?_
   refine zb fun K hK=>?_;simp only [go_sem];refine hK _ ?_;clear hK K;refine zw (zk [0,2,4,8,9,10,11]) ?_;simp only [go_sem]
   refine zq ?_
   refine zc rfl (fun hc=>?_) (fun hc=>?_) <;> (try simp only [go_sem] at hc)
   · have hci : i < ds.length:=by first | exact hc | omega
     obtain ⟨d,hx⟩:=opt_of_lt hci
     rw [drop_of_opt hx,tallyK] at hK
     have hlt:=atE_lt d beds
     refine zx ?_
     try simp only [go_sem]
     refine zq ?_
     refine zd ?_
     refine zq ?_
     refine zb fun K hK=>?_;simp only [go_sem,hx,hci];refine hK _ ?_;clear hK K;refine zw (zk [0,2,4,6,8,9,10]) ?_;simp only [go_sem]
     refine zq ?_
     refine zb fun K hK=>?_;simp only [go_sem]
     refine zh (indexE_ok beds d) rfl (by simp only [go_sem,i64,ints]) (by simp only [go_sem,i64,ints]) (by first | exact .inl rfl | exact .inr rfl) ?_
     (try simp only [go_sem]);refine hK _ ?_;clear hK K;refine zw (zk [0,2,4,7,8,9,10]) ?_;simp only [go_sem]
     by_cases hneg : atE beds d < 0
     · rw [if_pos hneg] at hK
       have hxs : knownXs beds ds = []:=by rw [knownXs,hK]
       have e1 : decide (atE beds d < 0) = true:=by simp [hneg]
       rw [hxs]
       repeat refine zq ?_
       refine zb fun K hK=>?_;simp only [go_sem];refine hK _ ?_;clear hK K;rw [e1]
       refine zc rfl (fun hc=>?_) (fun hc=>?_) <;> (try simp only [go_sem] at hc)
       refine ze ?_;simp only [go_sem];exact ⟨_,_,.inl rfl⟩
     · rw [if_neg hneg] at hK
       have e1 : decide (atE beds d < 0) = false:=by simp; omega
       obtain ⟨j,hj⟩:=Int.eq_ofNat_of_zero_le (show 0 ≤ atE beds d by omega)
       rw [hj,Int.toNat_natCast] at hK
       have hjl : j < t.length:=by have:=hs.1; omega
       obtain ⟨x,hxj⟩:=opt_of_lt hjl
       have hsm:=hs.2 x (mem_of_opt hxj)
       have hinc : incT t j = t.set j (x + 1):=by simp [incT,List.getD_eq_getElem?_getD,hxj]
       have hd1:=tA_drop hxj
       have hset:=tA_set (y:=x + 1) hjl
       have hal:=tA_len t
       have hj10 : (j : Int) < 10:=by have:=hs.1; omega
       repeat refine zq ?_
       refine zb fun K hK=>?_;simp only [go_sem];refine hK _ ?_;clear hK K;rw [e1]
       refine zc rfl (fun hc=>?_) (fun hc=>?_) <;> (try simp only [go_sem] at hc)
       refine zx ?_
       try simp only [go_sem]
       rw [hj]
       refine zb fun K hK=>?_;simp only [go_sem,Nat.mul_one,hd1,hal,List.headD_cons,List.length_cons];(try simp (disch:=omega) only [zI])
       repeat refine ⟨by omega,?_⟩
       refine hK _ ?_;clear hK K;rw [hset,← hinc]
       refine zw (zk [0,2,4,8,9,10]) ?_;simp only [go_sem];refine zb fun K hK=>?_;simp only [go_sem];(try simp (disch:=omega) only [zI]);refine hK _ ?_;clear hK K
       try simp only [go_sem]
       refine ⟨(i + 1,incT t j),⟨by omega,?_,hK⟩,by simp only; omega,fit_of [] ?_ ?_⟩
       · have:=incT_small (i:=j) hs (by omega)
         simpa using this
       · try simp only [go_sem]
       · try simp only [go_sem]
   · have hil : i = ds.length:=by omega
     subst hil
     rw [List.drop_length,tallyK] at hK
     have hxs : knownXs beds ds = [[.ag (tR t)]]:=by rw [knownXs,hK]
     rw [hxs]
     have htk : List.take 10 (tR t) = tR t:=List.take_of_length_le (by rw [List.length_map,hs.1]; exact Nat.le_refl _)
     have htl : (tR t).length = 10:=by rw [List.length_map,hs.1]
     refine zf ?_;simp only [go_sem];refine zw (sub_frzP 4 4 (tR t) (by omega) rfl rfl) ?_;refine zw (zk [0,4]) ?_;simp only [go_sem];refine zb fun K hK=>?_;simp only [go_sem,htk,htl,Nat.le_refl]
     refine xcall_yield (z:=true) (e:=[.ag (tR t)]) (rest:=[]) (by simp only [go_sem]) rfl (by simp only [go_sem]) (.inl (by simp only [RV.flatL,RV.flatB,flat_tR,Bool.and_self])) ?_ ?_
     · simp only [go_sem];refine hK _ ?_;clear hK K;exact ⟨_,_,.inl rfl⟩
     · simp only [go_sem];refine hK _ ?_;clear hK K;exact ⟨_,_,.inr rfl⟩
theorem known_ok (u : Addr) (ds : List Int) : ACalls Try.prog 136 [.vl u,ints ds] (.fn 155 [.rp [ints ds],.rp [.vl u]]):=by
 refine acalls_st (rs:=[.fn 155 [.rp [ints ds],.rp [.vl u]]]) [.tmp 4] Try.func136 rfl (by kernel_rfl) Try.ntmps136 rfl (by simp) rfl fun C vs=>?_
 refine zq ?_
 refine zb fun K hK=>?_;simp only [go_sem];refine hK _ ?_;clear hK K;refine zw (zk [2,3]) ?_;simp only [go_sem];refine zw (sub_frzP 2 2 [.vl u] (by omega) rfl rfl) ?_;refine zw (sub_frzP 3 3 [ints ds] (by omega) rfl rfl) ?_
 refine zq ?_
 refine zb fun K hK=>?_;simp only [go_sem];refine hK _ ?_;clear hK K;refine ze ?_;simp only [go_sem]
 simp [RV.le,leL_refl.le_refl,leL_refl]
theorem three_ok (u : Addr) (n : Int) : ACalls Try.prog 137 [.vl u,i64 n] (.fn 157 [.rp [.vl u],.rp [i64 n]]):=by
 refine acalls_st (rs:=[.fn 157 [.rp [.vl u],.rp [i64 n]]]) [.tmp 4] Try.func137 rfl (by kernel_rfl) Try.ntmps137 rfl (by simp) rfl fun C vs=>?_
 refine zq ?_
 refine zb fun K hK=>?_;simp only [go_sem];refine hK _ ?_;clear hK K;refine zw (zk [2,3]) ?_;simp only [go_sem];refine zw (sub_frzP 2 2 [.vl u] (by omega) rfl rfl) ?_;refine zw (sub_frzP 3 3 [i64 n] (by omega) rfl rfl) ?_
 refine zq ?_
 refine zb fun K hK=>?_;simp only [go_sem];refine hK _ ?_;clear hK K;refine ze ?_;simp only [go_sem]
 simp [RV.le,leL_refl.le_refl,leL_refl]
def shA (beds le mo : List Int) : List AV:=(sheetR beds le mo).map AV.r
theorem shA_len (beds le mo : List Int) : (shA beds le mo).length = 1 + le.length + mo.length:=by simp [shA,sheetR]; omega
theorem shA_eq (beds le mo : List Int) : shA beds le mo = AV.r (ints beds) :: (tA le ++ tA mo):=by simp [shA,sheetR]
theorem shA_drop1 {beds le mo : List Int} {k : Nat} {a : Int} (h : le[k]? = some a) : (shA beds le mo).drop (1 + k) = .r (RV.it .i64 a) :: (shA beds le mo).drop (1 + k + 1):=by
 refine drop_of_opt ?_
 have hk:=(List.getElem?_eq_some_iff.1 h).1
 rw [shA_eq,Nat.add_comm 1 k,List.getElem?_cons_succ,List.getElem?_append_left (by simpa using hk)]
 simp [h]
theorem shA_drop2 {beds le mo : List Int} {k : Nat} {a : Int} (hl : le.length = 10) (h : mo[k]? = some a) : (shA beds le mo).drop (11 + k) = .r (RV.it .i64 a) :: (shA beds le mo).drop (11 + k + 1):=by
 refine drop_of_opt ?_
 rw [shA_eq,show 11 + k = (10 + k) + 1 by omega,List.getElem?_cons_succ,List.getElem?_append_right (by simp; omega)]
 have : 10 + k - (tA le).length = k:=by rw [tA_len,hl]; omega
 rw [this]
 simp [h]
theorem set_split {α : Type} {l : List α} {i : Nat} {y : α} (h : i < l.length) : l.take i ++ (y :: l.drop (i + 1)) = l.set i y:=by
 rw [List.set_eq_take_append_cons_drop,if_pos h]
theorem shA_set1 {beds le mo : List Int} {k : Nat} {y : Int} (h : k < le.length) : (shA beds le mo).take (1 + k) ++ (AV.r (RV.it .i64 y) :: (shA beds le mo).drop (1 + k + 1)) = shA beds (le.set k y) mo:=by
 rw [set_split (by rw [shA_len]; omega),shA_eq,shA_eq,Nat.add_comm 1 k,List.set_cons_succ,List.set_append_left _ _ (by rw [tA_len]; exact h)]
 simp [List.map_set]
theorem shA_set2 {beds le mo : List Int} {k : Nat} {y : Int} (hl : le.length = 10) (h : k < mo.length) : (shA beds le mo).take (11 + k) ++ (AV.r (RV.it .i64 y) :: (shA beds le mo).drop (11 + k + 1)) = shA beds le (mo.set k y):=by
 rw [set_split (by rw [shA_len]; omega),shA_eq,shA_eq,show 11 + k = (10 + k) + 1 by omega,List.set_cons_succ,List.set_append_right _ _ (by rw [tA_len]; omega)]
 have : 10 + k - (tA le).length = k:=by rw [tA_len,hl]; omega
 rw [this]
 simp [List.map_set]
def leastT (b : Bool) (le t : List Int) : List Int:=if b then List.zipWith min le t else t
def mostT (mo t : List Int) : List Int:=List.zipWith max mo t
def accT (s : Bool × List Int × List Int) (t : List Int) : Bool × List Int × List Int:=(true,leastT s.1 s.2.1 t,mostT s.2.2 t)
def accL (xs : List (List Int)) : Bool × List Int × List Int:=xs.foldl accT (false,zeroT,zeroT)
def mixT (new old : List Int) (k : Nat) : List Int:=new.take k ++ old.drop k
theorem mix_get {new old : List Int} {k : Nat} (hn : new.length = 10) (ho : old.length = 10) (hk : k < 10) : (mixT new old k)[k]? = old[k]?:=by
 unfold mixT
 rw [List.getElem?_append_right (by rw [List.length_take]; omega),List.length_take,hn,show k - min k 10 = 0 by omega,List.getElem?_drop,Nat.add_zero]
theorem mix_set {new old : List Int} {k : Nat} {y : Int} (hn : new[k]? = some y) (hnl : new.length = 10) (ho : old.length = 10) (hk : k < 10) : (mixT new old k).set k y = mixT new old (k + 1):=by
 unfold mixT
 rw [List.set_append_right _ _ (by rw [List.length_take]; omega),List.length_take,hnl,show k - min k 10 = 0 by omega]
 obtain ⟨z,hz⟩:=opt_of_lt (l:=old) (i:=k) (by omega)
 rw [drop_of_opt hz,List.set_cons_zero,take_of_opt hn]
 simp
theorem mix_len {new old : List Int} {k : Nat} (hn : new.length = 10) (ho : old.length = 10) (hk : k ≤ 10) : (mixT new old k).length = 10:=by
 unfold mixT
 rw [List.length_append,List.length_take,List.length_drop]; omega
theorem leastT_len {b : Bool} {le t : List Int} (h1 : le.length = 10) (h2 : t.length = 10) : (leastT b le t).length = 10:=by
 unfold leastT; split
 · rw [List.length_zipWith]; omega
 · exact h2
theorem mostT_len {mo t : List Int} (h1 : mo.length = 10) (h2 : t.length = 10) : (mostT mo t).length = 10:=by
 unfold mostT; rw [List.length_zipWith]; omega
theorem mem_zipW {f : Int → Int → Int} {x : Int} : ∀ {l m : List Int},x ∈ List.zipWith f l m → ∃ a,a ∈ l ∧ ∃ b,b ∈ m ∧ x = f a b
 | [],_,h=>by simp at h
 | _ :: _,[],h=>by simp at h
 | a :: l, b :: m, h => by
   rw [List.zipWith_cons_cons] at h
   rcases List.mem_cons.1 h with h | h
   · exact ⟨a,by simp,b,by simp,h⟩
   · obtain ⟨a',h1,b',h2,h3⟩:=mem_zipW h
     exact ⟨a',by simp [h1],b',by simp [h2],h3⟩
theorem accL_snoc (xs : List (List Int)) (t : List Int) : accL (xs ++ [t]) = accT (accL xs) t:=by simp [accL]
theorem accT_small {b : Int} {s : Bool × List Int × List Int} {t : List Int} (ht : SmallT b t) (h1 : SmallT b s.2.1) (h2 : SmallT b s.2.2) : SmallT b (accT s t).2.1 ∧ SmallT b (accT s t).2.2:=by
 refine ⟨⟨leastT_len h1.1 ht.1,fun x hx=>?_⟩,mostT_len h2.1 ht.1,fun x hx=>?_⟩
 · simp only [accT,leastT] at hx
   split at hx
   · obtain ⟨y,hy,z,hz,rfl⟩:=mem_zipW hx
     have:=h1.2 y hy
     have:=ht.2 z hz
     omega
   · exact ht.2 x hx
 · simp only [accT,mostT] at hx
   obtain ⟨y,hy,z,hz,rfl⟩:=mem_zipW hx
   have:=h2.2 y hy
   have:=ht.2 z hz
   omega
theorem zeroT_small {b : Int} (hb : 0 ≤ b) : SmallT b zeroT:=⟨rfl,fun x hx=>by
 have : x = 0:=by simpa using hx
 omega⟩
theorem accL_small {b : Int} (hb : 0 ≤ b) : ∀ (xs : List (List Int)),(∀ t ∈ xs,SmallT b t) → SmallT b (accL xs).2.1 ∧ SmallT b (accL xs).2.2:=by
 have gen : ∀ (xs : List (List Int)) (s : Bool × List Int × List Int),(∀ t ∈ xs,SmallT b t) → SmallT b s.2.1 → SmallT b s.2.2 → SmallT b (xs.foldl accT s).2.1 ∧ SmallT b (xs.foldl accT s).2.2:=by
  intro xs
  induction xs with
  | nil=>intro s _ h1 h2; exact ⟨h1,h2⟩
  | cons t xs ih =>
    intro s h h1 h2
    obtain ⟨g1,g2⟩:=accT_small (s:=s) (h t (by simp)) h1 h2
    exact ih (accT s t) (fun y hy=>h y (by simp [hy])) g1 g2
 exact fun xs h=>gen xs _ h (zeroT_small hb) (zeroT_small hb)
theorem accL_some (xs : List (List Int)) : (accL xs).1 = !xs.isEmpty:=by
 rcases List.eq_nil_or_concat xs with rfl | ⟨l,x,rfl⟩
 · rfl
 · rw [List.concat_eq_append,accL_snoc]; simp [accT]
theorem frzPL_r (ks : List (Nat × RowC)) (rows : Nat → Row) : ∀ l : List RV,frzPL ks rows (l.map AV.r)
 | []=>trivial
 | x :: l=>⟨trivial,frzPL_r ks rows l⟩
theorem frzL_r (ks : List (Nat × RowC)) (rows : Nat → Row) : ∀ l : List RV,frzL ks rows (l.map AV.r) = l.map AV.r
 | []=>rfl
 | x :: l=>by simp only [List.map_cons,frzL,frz1,frzL_r ks rows l]
def addT (a b : List Int) : List Int:=List.zipWith (· + ·) a b
set_option maxHeartbeats 1000000
theorem add_ok (u : Addr) (beds le mo : List Int) (f : Nat) (caps args : List RV) (xs : List (List Int)) (hle : SmallT 3000 le) (hmo : SmallT 3000 mo) (hxs : ∀ t ∈ xs,SmallT 3 t)
 (hI : ICalls Try.prog true f args (xs.map fun t=>[.ag (tR t)]))
 (hcap : ∀ (w : World) (p : Plan) (ver : Nat → Nat) (R' : Nat → Prop) (vals : List Value),AV.relV w p ver (caps.map .r) vals → RV.rel w R' (.rp (sheetR beds le mo)) (.pointer (some u)) → (∀ b,p.R b → R' b) → RV.relV w R' args vals) :
 MCalls Try.prog 138 [(1000,.box (shA beds le mo))] [(1000,.box (shA beds (addT le (accL xs).2.1) (addT mo (accL xs).2.2)))] [.pu 1000 0 u,.r (.fn f caps)] (.r (.bo (!xs.isEmpty))):=by
 refine mcalls_stO (n:=73) (rs:=[.r (.bo (!xs.isEmpty))]) _ _ [.cell 4 4] Try.func138 rfl (by kernel_rfl) Try.ntmps138 rfl (by simp) rfl rfl fun C hC=>?_
 refine zq ?_
 refine zb fun K hK=>?_;simp only [go_sem];refine hK _ ?_;clear hK K;refine zw (zk [0,1,4]) ?_;simp only [go_sem]
 refine zq ?_
 refine zb fun K hK=>?_;simp only [go_sem];refine hK _ ?_;clear hK K;refine zw (zk [0,1,4,5,6]) ?_;simp only [go_sem]
 repeat refine zq ?_
 refine zb fun K hK=>?_;simp only [go_sem];refine hK _ ?_;clear hK K;refine zw (zk [0,4,5,6,11]) ?_;simp only [go_sem];refine zd ?_
 refine awp_rangeK ⟨hC.1,hC.2.1⟩ 1000 0 u rfl (by omega) (hC.2.2 1000 rfl) (sheetR beds le mo) (by intro j hj; simp only [upd]; (repeat' split); all_goals first | rfl | omega) rfl (cf:=caps.map .r) (xs.map fun t=>[.ag (tR t)]) hI [0,4,5,6,11] (by decide)
  (fun vs=>[(0,.r (.vl u)),(4,.pt 4 (vs 4) 0),(5,.pt 5 (vs 5) 0),(6,.pt 6 (vs 6) 0),(11,.r (.fn f caps))])
  (fun i vs=>[(4,.box [.r (.bo (!(xs.take i).isEmpty))]),(5,.box (tA (accL (xs.take i)).2.1)),(6,.box (tA (accL (xs.take i)).2.2))]) (fun _=>True) (fun us=>?_) trivial (fun _=>rfl) (fun _=>rfl) (fun _=>rfl) hcap (fun _ _=>rfl) (by simp) ?_ ?_ ?_
 · refine fitW_of (n:=73) (F:=fun vs=>[(0,.r (.vl u)),(4,.pt 4 (vs 4) 0),(5,.pt 5 (vs 5) 0),(6,.pt 6 (vs 6) 0),(11,.r (.fn f caps))])
    (R:=fun vs=>insc [(4,.box [.r (.bo (!(xs.take 0).isEmpty))]),(5,.box (tA (accL (xs.take 0)).2.1)),(6,.box (tA (accL (xs.take 0)).2.2))] 1000 (.sus ((sheetR beds le mo).map .r) us)) [] (by intro j hj; simp only [upd]; (repeat' split); all_goals first | rfl | omega) ?_ ?_
   · simp only [List.map_cons,List.map_nil,AV.park,AV.parkL,if_true,if_false,Nat.reduceEqDiff]
     try simp only [go_sem]
   · simp only [List.map_cons,List.map_nil,RowC.park,AV.park,AV.parkL]
     try simp only [go_sem]
     rfl
 · intro e he
   obtain ⟨t,_,rfl⟩:=List.mem_map.1 he
   rfl
 · intro i e vs us usp C' he _ hvl
   obtain ⟨t,ht,rfl⟩ : ∃ t,xs[i]? = some t ∧ e = [.ag (tR t)]:=by
    rw [List.getElem?_map] at he
    cases hx : xs[i]? with
    | none=>rw [hx] at he; cases he
    | some t=>rw [hx] at he; injection he with he; exact ⟨t,rfl,he.symm⟩
   have hts:=hxs t (mem_of_opt ht)
   obtain ⟨al,am⟩:=accL_small (b:=3) (by omega) (xs.take i) (fun t ht=>hxs t (List.mem_of_mem_take ht))
   have hsn : xs.take (i + 1) = xs.take i ++ [t]:=take_of_opt ht
   have hacc : accL (xs.take (i + 1)) = accT (accL (xs.take i)) t:=by rw [hsn,accL_snoc]
   have hsm:=accL_some (xs.take i)
   have hne : (xs.take (i + 1)).isEmpty = false:=by rw [hsn]; simp
   rw [hacc,hne]
   rw [← hsm]
   generalize accL (xs.take i) = S at *
   obtain ⟨b,ol,om⟩:=S
   simp only [accT] at *
   have htk : List.take 10 (tR t) = tR t:=List.take_of_length_le (by rw [List.length_map,hts.1]; exact Nat.le_refl _)
   have htl : (tR t).length = 10:=by rw [List.length_map,hts.1]
   have hol : ol.length = 10:=al.1
   have hom : om.length = 10:=am.1
   have hll : (leastT b ol t).length = 10:=leastT_len hol hts.1
   have hml : (mostT om t).length = 10:=mostT_len hom hts.1
   try simp only [go_sem]
   refine zb fun K hK=>?_;simp only [go_sem]
   refine ⟨hts.1,?_⟩
   refine hK _ ?_;clear hK K
   refine ⟨rfl,fun C''=>?_⟩
   refine zw (sub_frzP 7 7 (tR t) (by omega) rfl rfl) ?_;refine zw (zk [4,5,6,7]) ?_;simp only [go_sem];refine zd ?_
   repeat refine zq ?_
   refine zb fun K hK=>?_;simp only [go_sem,htk,htl,Nat.le_refl];refine hK _ ?_;clear hK K;refine zw (zk [4,5,6,13,14]) ?_;simp only [go_sem];refine zd ?_
   refine awp_uptoW (n:=73) 10 (fun k vs=>[(4,.pt 4 (vs 4) 0),(5,.pt 5 (vs 5) 0),(6,.pt 6 (vs 6) 0),(13,.r (.ag (tR t))),(14,.r (i64 k))])
    (fun k vs=>[(0,.sus [.r (.vl u),.pt 4 (vs 4) 0,.pt 5 (vs 5) 0,.pt 6 (vs 6) 0,.r (.fn f caps)] us),(4,.box [.r (.bo b)]),(5,.box (tA (mixT (leastT b ol t) ol k))),(6,.box (tA (mixT (mostT om t) om k))),(1000,.sus (AV.r (ints beds) :: List.map AV.r (tR le ++ tR mo)) usp)])
    (fun _=>True) 0 (fitW_of [7] (by intro j hj; simp only [upd]; (repeat' split); all_goals first | rfl | omega | exact hvl _ hj) ?_ ?_) (Nat.zero_le _) trivial ?_
   · try simp only [go_sem]
   · try simp only [go_sem]
     simp [mixT,killC,delc]
   · intro k vs hvl hk _
     refine zq ?_
     refine zb fun K hK=>?_;simp only [go_sem];refine hK _ ?_;clear hK K;refine zw (zk [4,5,6,13,14,15]) ?_;simp only [go_sem]
     refine zq ?_
     refine zc rfl (fun hc=>?_) (fun hc=>?_) <;> (try simp only [go_sem] at hc)
     · have hck : k < 10:=by first | exact hc | omega
       obtain ⟨x,hx⟩:=opt_of_lt (l:=t) (i:=k) (by rw [hts.1]; omega)
       obtain ⟨y,hy⟩:=opt_of_lt (l:=ol) (i:=k) (by omega)
       obtain ⟨z,hz⟩:=opt_of_lt (l:=om) (i:=k) (by omega)
       have hxs1:=hts.2 x (mem_of_opt hx)
       have hys1:=al.2 y (mem_of_opt hy)
       have hzs1:=am.2 z (mem_of_opt hz)
       have hnm : (mostT om t)[k]? = some (max z x):=by simp [mostT,List.getElem?_zipWith,hz,hx]
       have hMg : (mixT (mostT om t) om k)[k]? = some z:=(mix_get hml hom hck).trans hz
       have hMl : (mixT (mostT om t) om k).length = 10:=mix_len hml hom hk
       have hMs:=mix_set hnm hml hom hck
       have hLg : (mixT (leastT b ol t) ol k)[k]? = some y:=(mix_get hll hol hck).trans hy
       have hLl : (mixT (leastT b ol t) ol k).length = 10:=mix_len hll hol hk
       have hdr : List.drop k (tR t) = i64 x :: List.drop (k + 1) (tR t):=drop_of_opt (by simp [hx])
       have hk10 : (k : Int) < 10:=by omega
       have hdM:=tA_drop hMg
       have hsM:=tA_set (t:=mixT (mostT om t) om k) (i:=k) (y:=max z x) (by omega)
       rw [hMs] at hsM
       have htl2 : (tR t).length = 10:=htl
       generalize hM : mixT (mostT om t) om k = MK at *
       have hMA:=tA_len MK
       have hns : (leastT b ol t)[k]? = some (if b then min y x else x):=by
        cases b
        · simpa [leastT] using hx
        · simp [leastT,List.getElem?_zipWith,hy,hx]
       have hLs:=mix_set hns hll hol hck
       generalize hL : mixT (leastT b ol t) ol k = LK at *
       have hdL:=tA_drop hLg
       have hLA:=tA_len LK
       refine zx ?_
       try simp only [go_sem]
       refine zq ?_
       refine zd ?_
       refine zq ?_
       refine zb fun K hK=>?_;simp only [go_sem,Nat.mul_one,hdr,htl,List.headD_cons]
       refine ⟨by omega,?_⟩
       refine hK _ ?_;clear hK K;refine zw (zk [4,5,6,8,9,13,14]) ?_;simp only [go_sem]
       repeat refine zq ?_
       refine zb fun K hK=>?_;simp only [go_sem];refine hK _ ?_;clear hK K;refine zw (zk [4,5,6,8,9,13,14,19]) ?_;simp only [go_sem]
       cases b
       · have hLx:=hLs
         simp only [Bool.false_eq_true,if_false] at hLx
         have hs0:=tA_set (t:=LK) (i:=k) (y:=x) (by omega)
         have hg2 : (LK.set k x)[k]? = some x:=by rw [List.getElem?_set,if_pos rfl,if_pos (by omega)]
         have hd2:=tA_drop hg2
         have hl2:=tA_len (LK.set k x)
         have hl3 : (LK.set k x).length = 10:=by rw [List.length_set]; exact hLl
         have hs2:=tA_set (t:=LK.set k x) (i:=k) (y:=x) (by omega)
         rw [List.set_set,hLx] at hs2
         refine zc rfl (fun hc=>?_) (fun hc=>?_) <;> (try simp only [go_sem] at hc)
         refine zb fun K hK=>?_;simp only [go_sem,Nat.mul_one,hLA]
         repeat refine ⟨by omega,?_⟩
         refine hK _ ?_;clear hK K;rw [hs0]
         refine zw (zk [4,5,6,8,9,13,14]) ?_;simp only [go_sem]
         refine awp_dreg2 [(5,some 5),(6,some 6)] follows (by decide +kernel) (by kernel_rfl) (by simp only [keysOk,List.mem_cons,List.not_mem_nil,forall_eq_or_imp,Oc.keyOf,go_sem]; simp) fun K hK=>?_
         simp only [go_sem,Nat.mul_one,hd2,hdM,hl2,hMA,List.headD_cons,List.length_cons,Int.min_self]
         repeat refine ⟨by omega,?_⟩
         refine hK _ ?_;clear hK K;rw [hLx,hs2,hsM]
         refine zw (zk [4,5,6,13,14]) ?_;simp only [go_sem];refine zb fun K hK=>?_;simp only [go_sem];(try simp (disch:=omega) only [zI]);refine hK _ ?_;clear hK K
         try simp only [go_sem]
         refine ⟨hck,fitW_of [] (by first | exact hvl | (intro j hj; simp only [upd]; (repeat' split); all_goals first | rfl | omega | exact hvl _ hj)) ?_ ?_⟩
         · try simp only [go_sem]
         · try simp only [go_sem]
       · have hLx:=hLs
         simp only [if_true] at hLx
         have hs2:=tA_set (t:=LK) (i:=k) (y:=min y x) (by omega)
         rw [hLx] at hs2
         refine zc rfl (fun hc=>?_) (fun hc=>?_) <;> (try simp only [go_sem] at hc)
         refine zx ?_
         try simp only [go_sem]
         refine awp_dreg2 [(5,some 5),(6,some 6)] follows (by decide +kernel) (by kernel_rfl) (by simp only [keysOk,List.mem_cons,List.not_mem_nil,forall_eq_or_imp,Oc.keyOf,go_sem]; simp) fun K hK=>?_
         simp only [go_sem,Nat.mul_one,hdL,hdM,hLA,hMA,List.headD_cons,List.length_cons]
         repeat refine ⟨by omega,?_⟩
         refine hK _ ?_;clear hK K;rw [hs2,hsM]
         refine zw (zk [4,5,6,13,14]) ?_;simp only [go_sem];refine zb fun K hK=>?_;simp only [go_sem];(try simp (disch:=omega) only [zI]);refine hK _ ?_;clear hK K
         try simp only [go_sem]
         refine ⟨hck,fitW_of [] (by first | exact hvl | (intro j hj; simp only [upd]; (repeat' split); all_goals first | rfl | omega | exact hvl _ hj)) ?_ ?_⟩
         · try simp only [go_sem]
         · try simp only [go_sem]
     · have hk10 : k = 10:=by omega
       subst hk10
       have e1 : mixT (leastT b ol t) ol 10 = leastT b ol t:=by
        unfold mixT
        rw [List.take_of_length_le (by omega),List.drop_of_length_le (by omega),List.append_nil]
       have e2 : mixT (mostT om t) om 10 = mostT om t:=by
        unfold mixT
        rw [List.take_of_length_le (by omega),List.drop_of_length_le (by omega),List.append_nil]
       rw [e1,e2]
       refine zf ?_;simp only [go_sem];refine zb fun K hK=>?_;simp only [go_sem];refine hK _ ?_;clear hK K
       try simp only [go_sem]
       refine ⟨vs,hvl,?_⟩
       exact sub_look _ (allEq_mem (by simp only [go_sem]))
 · intro vs us hvl _
   have e0 : (AV.r (ints beds) :: List.map AV.r (tR le ++ tR mo)) = shA beds le mo:=(shA_eq beds le mo ▸ by simp)
   have hlen : (xs.map fun t=>[RV.ag (tR t)]).length = xs.length:=List.length_map _
   obtain ⟨al,am⟩:=accL_small (b:=3) (by omega) xs hxs
   have hsm:=accL_some xs
   rw [hlen,List.take_length]
   generalize accL xs = S at *
   obtain ⟨b,ol,om⟩:=S
   simp only at *
   rw [← hsm]
   try simp only [go_sem]
   rw [e0]
   refine zw (sub_wake rfl) ?_;refine zw (sub_unname 0 rfl) ?_;refine zw (sub_frzP 5 5 (tR ol) (by omega) rfl rfl) ?_;refine zw (sub_frzP 6 6 (tR om) (by omega) rfl rfl) ?_;refine zw (zk [0,4,5,6]) ?_;simp only [go_sem]
   repeat refine zq ?_
   refine zb fun K hK=>?_;simp only [go_sem];refine hK _ ?_;clear hK K;refine zw (zk [0,4,5,6,38]) ?_;simp only [go_sem];refine zd ?_
   have hol : ol.length = 10:=al.1
   have hom : om.length = 10:=am.1
   have hlel : le.length = 10:=hle.1
   have hmol : mo.length = 10:=hmo.1
   have hal : (addT le ol).length = 10:=by unfold addT; rw [List.length_zipWith]; omega
   have haml : (addT mo om).length = 10:=by unfold addT; rw [List.length_zipWith]; omega
   refine awp_upto0 (n:=73) 10 (fun k vs=>[(0,.pt 1000 0 0),(4,.pt 4 (vs 4) 0),(5,.r (.rp (tR ol))),(6,.r (.rp (tR om))),(38,.r (i64 k))])
    (fun k=>[(4,.box [.r (.bo b)]),(1000,.box (shA beds (mixT (addT le ol) le k) (mixT (addT mo om) mo k)))]) (fun _=>True) 0 (fit0_of [] (by intro j hj; simp only [upd]; (repeat' split); all_goals first | rfl | omega | exact hvl _ hj) ?_ ?_) (Nat.zero_le _) trivial ?_
   · try simp only [go_sem]
   · try simp only [go_sem]
     simp [mixT]
   · intro k vs hvl hk _
     have hv0:=hvl 1000 (by omega)
     refine zq ?_
     refine zb fun K hK=>?_;simp only [go_sem];refine hK _ ?_;clear hK K;refine zw (zk [0,4,5,6,38,39]) ?_;simp only [go_sem]
     refine zq ?_
     refine zc rfl (fun hc=>?_) (fun hc=>?_) <;> (try simp only [go_sem] at hc)
     · have hck : k < 10:=by first | exact hc | omega
       obtain ⟨x,hx⟩:=opt_of_lt (l:=ol) (i:=k) (by omega)
       obtain ⟨y,hy⟩:=opt_of_lt (l:=om) (i:=k) (by omega)
       obtain ⟨a,ha⟩:=opt_of_lt (l:=le) (i:=k) (by omega)
       obtain ⟨c,hcc⟩:=opt_of_lt (l:=mo) (i:=k) (by omega)
       have b1:=al.2 x (mem_of_opt hx)
       have b2:=am.2 y (mem_of_opt hy)
       have b3:=hle.2 a (mem_of_opt ha)
       have b4:=hmo.2 c (mem_of_opt hcc)
       have hk10 : (k : Int) < 10:=by omega
       have n1 : (addT le ol)[k]? = some (a + x):=by simp [addT,List.getElem?_zipWith,ha,hx]
       have n2 : (addT mo om)[k]? = some (c + y):=by simp [addT,List.getElem?_zipWith,hcc,hy]
       have g1 : (mixT (addT le ol) le k)[k]? = some a:=(mix_get hal hlel hck).trans ha
       have g2 : (mixT (addT mo om) mo k)[k]? = some c:=(mix_get haml hmol hck).trans hcc
       have l1 : (mixT (addT le ol) le k).length = 10:=mix_len hal hlel hk
       have l2 : (mixT (addT mo om) mo k).length = 10:=mix_len haml hmol hk
       have s1:=mix_set n1 hal hlel hck
       have s2:=mix_set n2 haml hmol hck
       generalize mixT (addT le ol) le k = LK at *
       generalize mixT (addT mo om) mo k = MK at *
       have d1:=shA_drop1 (beds:=beds) (mo:=MK) g1
       have d2:=shA_drop2 (beds:=beds) l1 g2
       have t1:=shA_set1 (beds:=beds) (mo:=MK) (y:=a + x) (show k < LK.length by omega)
       rw [s1] at t1
       have l3 : (mixT (addT le ol) le (k + 1)).length = 10:=mix_len hal hlel (by omega)
       have d3:=shA_drop2 (beds:=beds) l3 g2
       have t2:=shA_set2 (beds:=beds) (le:=mixT (addT le ol) le (k + 1)) (mo:=MK) (k:=k) (y:=c + y) l3 (by omega)
       rw [s2] at t2
       have dx : List.drop k (tR ol) = i64 x :: List.drop (k + 1) (tR ol):=drop_of_opt (by simp [hx])
       have dy : List.drop k (tR om) = i64 y :: List.drop (k + 1) (tR om):=drop_of_opt (by simp [hy])
       have hL1:=shA_len beds LK MK
       have hL2:=shA_len beds (mixT (addT le ol) le (k + 1)) MK
       refine zx ?_
       try simp only [go_sem]
       refine zq ?_
       refine zd ?_
       refine zq ?_
       refine zb fun K hK=>?_;simp only [go_sem];refine hK _ ?_;clear hK K;refine zw (zk [0,4,5,6,10,38]) ?_;simp only [go_sem]
       refine awp_dreg2 [(0,some 1000),(5,none),(6,none)] follows (by decide +kernel) (by kernel_rfl) (by simp only [keysOk,List.mem_cons,List.not_mem_nil,forall_eq_or_imp,Oc.keyOf,go_sem]; simp) fun K hK=>?_
       simp only [go_sem,Nat.mul_one,hv0,d1,d2,d3,dx,dy,t1,t2,hL1,hL2,l1,l2,l3,List.headD_cons,List.length_cons,Nat.zero_add];(try simp (disch:=omega) only [zI]);simp only [t1,t2,hL2,l3,l2]
       repeat refine ⟨by omega,?_⟩
       refine hK _ ?_;clear hK K;refine zw (zk [0,4,5,6,38]) ?_;simp only [go_sem];refine zb fun K hK=>?_;simp only [go_sem];(try simp (disch:=omega) only [zI]);refine hK _ ?_;clear hK K
       try simp only [go_sem]
       refine ⟨hck,fit0_of [] (by first | exact hvl | (intro j hj; simp only [upd]; (repeat' split); all_goals first | rfl | omega | exact hvl _ hj)) ?_ ?_⟩
       · try simp only [go_sem]
       · try simp only [go_sem]
     · have hk10 : k = 10:=by omega
       subst hk10
       have e1 : mixT (addT le ol) le 10 = addT le ol:=by
        unfold mixT
        rw [List.take_of_length_le (by omega),List.drop_of_length_le (by omega),List.append_nil]
       have e2 : mixT (addT mo om) mo 10 = addT mo om:=by
        unfold mixT
        rw [List.take_of_length_le (by omega),List.drop_of_length_le (by omega),List.append_nil]
       rw [e1,e2]
       refine zf ?_;simp only [go_sem]
       refine zq ?_
       refine zb fun K hK=>?_;simp only [go_sem];refine hK _ ?_;clear hK K;refine ze ?_;simp only [go_sem];exact ⟨frzPL_r _ _ _,congrArg RowC.box (frzL_r _ _ _)⟩
def BedsOk (beds : List Int) : Prop:=beds.length ≤ 10 ∧ ∀ b ∈ beds,0 ≤ b ∧ b ≤ 499
def tally3 (i k m : Nat) : List Int:=incT (incT (incT zeroT i) k) m
def cell3 (beds : List Int) (n : Int) (i k m : Nat) : List (List Int) :=
 if scoreOf (beds.getD i 0) + scoreOf (beds.getD k 0) + scoreOf (beds.getD m 0) = n then [tally3 i k m] else []
def rowM (beds : List Int) (n : Int) (i k m : Nat) : List (List Int):=((List.range beds.length).drop m).flatMap (cell3 beds n i k)
def rowK (beds : List Int) (n : Int) (i k : Nat) : List (List Int):=((List.range beds.length).drop k).flatMap fun k=>rowM beds n i k k
def rowI (beds : List Int) (n : Int) (i : Nat) : List (List Int):=((List.range beds.length).drop i).flatMap fun i=>rowK beds n i i
def threeT (beds : List Int) (n : Int) : List (List Int):=rowI beds n 0
theorem range_drop {N m : Nat} (h : m < N) : (List.range N).drop m = m :: (List.range N).drop (m + 1):=drop_of_opt (by simp [h])
theorem rowM_step {beds : List Int} {n : Int} {i k m : Nat} (h : m < beds.length) : rowM beds n i k m = cell3 beds n i k m ++ rowM beds n i k (m + 1):=by
 unfold rowM; rw [range_drop h,List.flatMap_cons]
theorem rowK_step {beds : List Int} {n : Int} {i k : Nat} (h : k < beds.length) : rowK beds n i k = rowM beds n i k k ++ rowK beds n i (k + 1):=by
 unfold rowK; rw [range_drop h,List.flatMap_cons]
theorem rowI_step {beds : List Int} {n : Int} {i : Nat} (h : i < beds.length) : rowI beds n i = rowK beds n i i ++ rowI beds n (i + 1):=by
 unfold rowI; rw [range_drop h,List.flatMap_cons]
theorem rowM_end {beds : List Int} {n : Int} {i k m : Nat} (h : beds.length ≤ m) : rowM beds n i k m = []:=by
 unfold rowM; rw [List.drop_of_length_le (by simpa using h)]; rfl
theorem rowK_end {beds : List Int} {n : Int} {i k : Nat} (h : beds.length ≤ k) : rowK beds n i k = []:=by
 unfold rowK; rw [List.drop_of_length_le (by simpa using h)]; rfl
theorem rowI_end {beds : List Int} {n : Int} {i : Nat} (h : beds.length ≤ i) : rowI beds n i = []:=by
 unfold rowI; rw [List.drop_of_length_le (by simpa using h)]; rfl
theorem incT_eq {t : List Int} {i : Nat} {x : Int} (h : t[i]? = some x) : incT t i = t.set i (x + 1):=by simp [incT,List.getD_eq_getElem?_getD,h]
theorem tally3_small (i k m : Nat) : SmallT 3 (tally3 i k m):=by
 have h0 : SmallT 0 zeroT:=zeroT_small (by omega)
 have h1:=incT_small (i:=i) h0 (by omega)
 have h2:=incT_small (i:=k) h1 (by omega)
 exact incT_small (i:=m) h2 (by omega)
theorem threeT_small {beds : List Int} {n : Int} : ∀ t ∈ threeT beds n,SmallT 3 t:=fun t ht=>by
 unfold threeT rowI at ht
 obtain ⟨i,_,ht⟩:=List.mem_flatMap.1 ht
 unfold rowK at ht
 obtain ⟨k,_,ht⟩:=List.mem_flatMap.1 ht
 unfold rowM at ht
 obtain ⟨m,_,ht⟩:=List.mem_flatMap.1 ht
 unfold cell3 at ht
 split at ht
 · rw [List.mem_singleton.1 ht]; exact tally3_small i k m
 · cases ht
abbrev yl1 (l : List (List Int)) : List (List RV):=l.map fun t=>[.ag (tR t)]
theorem three1_ok (beds le mo : List Int) (n : Int) (hb : BedsOk beds) : ICalls Try.prog true 157 [.rp [.rp (sheetR beds le mo)],.rp [i64 n]] (yl1 (threeT beds n)):=by
 have hlen:=hb.1
 refine icalls_st Try.func157 rfl (by kernel_rfl) Try.ntmps157 rfl (by simp) fun C ll=>?_
 refine zq ?_
 refine zb fun K hK=>?_;simp only [go_sem,argL]
 intros
 refine hK _ ?_;clear hK K;refine zw (zk [0,1,2,14,15,16]) ?_;simp only [go_sem];refine zd ?_
 refine awp_upto (n:=85) beds.length (fun i vs=>[(0,.r (.yl ll)),(1,.r (.rp [.rp (sheetR beds le mo)])),(2,.r (.rp [i64 n])),(14,.r (ints beds)),(15,.r (i64 beds.length)),(16,.r (i64 i))])
  (fun i=>[(999,.gh Try.prog ll true (some (yl1 (rowI beds n i))))]) (fun _=>True) 0 (fit_of [] ?_ ?_) (Nat.zero_le _) trivial ?_
 · try simp only [go_sem]
 · try simp only [go_sem]
   rfl
 · intro i vs hi _
   refine zq ?_
   refine zb fun K hK=>?_;simp only [go_sem];refine hK _ ?_;clear hK K;refine zw (zk [0,1,2,14,15,16,17]) ?_;simp only [go_sem]
   refine zq ?_
   refine zc rfl (fun hc=>?_) (fun hc=>?_) <;> (try simp only [go_sem] at hc)
   · have hci:=hc
     obtain ⟨a,ha⟩:=opt_of_lt hci
     have hs1:=rowI_step (n:=n) hci
     refine zx ?_
     try simp only [go_sem]
     refine zq ?_
     refine zd ?_
     refine zq ?_
     refine zb fun K hK=>?_;simp only [go_sem,ha,hci];refine hK _ ?_;clear hK K;refine zw (zk [0,1,2,4,5,14,15,16]) ?_;simp only [go_sem]
     refine zq ?_
     refine zb fun K hK=>?_;simp only [go_sem]
     intros
     refine ⟨by omega,?_⟩
     intro _
     refine hK _ ?_;clear hK K;refine zw (zk [0,1,2,4,5,14,15,16,26,27,28]) ?_;simp only [go_sem]
     have hdm : List.drop i (beds.map fun x=>[RV.it IntKind.i64 x]) = (beds.drop i).map fun x=>[RV.it IntKind.i64 x]:=List.map_drop.symm
     have hdl : (beds.drop i).length = beds.length - i:=List.length_drop
     rw [hdm,hs1]
     refine zd ?_
     refine awp_upto (n:=85) (beds.length - i) (fun k vs=>[(0,.r (.yl ll)),(1,.r (.rp [.rp (sheetR beds le mo)])),(2,.r (.rp [i64 n])),(4,.r (i64 i)),(5,.r (i64 a)),(14,.r (ints beds)),(15,.r (i64 beds.length)),(16,.r (i64 i)),(26,.r (ints (beds.drop i))),(27,.r (i64 ((beds.length - i : Nat) : Int))),(28,.r (i64 k))])
      (fun k=>[(999,.gh Try.prog ll true (some (yl1 (rowK beds n i (i + k) ++ rowI beds n (i + 1)))))]) (fun _=>True) 0 (fit_of [] ?_ ?_) (Nat.zero_le _) trivial ?_
     · try simp only [go_sem]
     · try simp only [go_sem]
     · intro k vs hk _
       refine zq ?_
       refine zb fun K hK=>?_;simp only [go_sem];refine hK _ ?_;clear hK K;refine zw (zk [0,1,2,4,5,14,15,16,26,27,28,29]) ?_;simp only [go_sem]
       refine zq ?_
       refine zc rfl (fun hc=>?_) (fun hc=>?_) <;> (try simp only [go_sem] at hc)
       · have hck : k < beds.length - i:=by first | exact hc | omega
         have hkl : i + k < beds.length:=by omega
         obtain ⟨b,hbx⟩:=opt_of_lt hkl
         have hbd : (beds.drop i)[k]? = some b:=by rw [List.getElem?_drop]; exact hbx
         have hkd : k < (beds.drop i).length:=by omega
         have hs2:=rowK_step (n:=n) (i:=i) hkl
         refine zx ?_
         try simp only [go_sem]
         refine zq ?_
         refine zd ?_
         refine zq ?_
         refine zb fun K hK=>?_;simp only [go_sem,hbd,hkd]
         refine ⟨by omega,?_⟩
         refine hK _ ?_;clear hK K;refine zw (zk [0,1,2,4,5,6,7,14,15,16,26,27,28]) ?_;simp only [go_sem]
         refine zq ?_
         refine zb fun K hK=>?_;simp only [go_sem];(try simp (disch:=omega) only [zI])
         intros
         refine ⟨by omega,?_⟩
         intro _
         refine hK _ ?_;clear hK K;refine zw (zk [0,1,2,4,5,6,7,14,15,16,26,27,28,40,41,42]) ?_;simp only [go_sem]
         have htn : ((i : Int) + (k : Int)).toNat = i + k:=by omega
         have hdm2 : List.drop (i + k) (beds.map fun x=>[RV.it IntKind.i64 x]) = (beds.drop (i + k)).map fun x=>[RV.it IntKind.i64 x]:=List.map_drop.symm
         have hdl2 : (beds.drop (i + k)).length = beds.length - (i + k):=List.length_drop
         rw [htn,hdm2,hs2]
         refine zd ?_
         refine awp_upto (n:=85) (beds.length - (i + k)) (fun m vs=>[(0,.r (.yl ll)),(1,.r (.rp [.rp (sheetR beds le mo)])),(2,.r (.rp [i64 n])),(4,.r (i64 i)),(5,.r (i64 a)),(6,.r (i64 k)),(7,.r (i64 b)),(14,.r (ints beds)),(15,.r (i64 beds.length)),(16,.r (i64 i)),(26,.r (ints (beds.drop i))),(27,.r (i64 ((beds.length - i : Nat) : Int))),(28,.r (i64 k)),(40,.r (ints (beds.drop (i + k)))),(41,.r (i64 ((beds.length - (i + k) : Nat) : Int))),(42,.r (i64 m))])
          (fun m=>[(999,.gh Try.prog ll true (some (yl1 (rowM beds n i (i + k) (i + k + m) ++ (rowK beds n i (i + k + 1) ++ rowI beds n (i + 1))))))]) (fun _=>True) 0 (fit_of [] ?_ ?_) (Nat.zero_le _) trivial ?_
         · try simp only [go_sem]
         · try simp only [go_sem]
           simp [List.append_assoc]
         · intro m vs hm _
           refine zq ?_
           refine zb fun K hK=>?_;simp only [go_sem];refine hK _ ?_;clear hK K;refine zw (zk [0,1,2,4,5,6,7,14,15,16,26,27,28,40,41,42,43]) ?_;simp only [go_sem]
           refine zq ?_
           refine zc rfl (fun hc=>?_) (fun hc=>?_) <;> (try simp only [go_sem] at hc)
           · have hcm : m < beds.length - (i + k):=by first | exact hc | omega
             have hml : i + k + m < beds.length:=by omega
             obtain ⟨c,hcx⟩:=opt_of_lt hml
             have hcd : (beds.drop (i + k))[m]? = some c:=by rw [List.getElem?_drop]; exact hcx
             have hmd : m < (beds.drop (i + k)).length:=by omega
             have hs3:=rowM_step (n:=n) (i:=i) (k:=i + k) hml
             have ba:=hb.2 a (mem_of_opt ha)
             have bb:=hb.2 b (mem_of_opt hbx)
             have bc:=hb.2 c (mem_of_opt hcx)
             have sa:=score_le ba.1 ba.2
             have sb:=score_le bb.1 bb.2
             have sc:=score_le bc.1 bc.2
             have hcell : cell3 beds n i (i + k) (i + k + m) = if scoreOf a + scoreOf b + scoreOf c = n then [tally3 i (i + k) (i + k + m)] else []:=by
              unfold cell3
              simp only [List.getD_eq_getElem?_getD,ha,hbx,hcx,Option.getD_some]
             rw [hs3,hcell]
             refine zx ?_
             try simp only [go_sem]
             refine zq ?_
             refine zd ?_
             refine zq ?_
             refine zb fun K hK=>?_;simp only [go_sem,hcd,hmd]
             refine ⟨by omega,?_⟩
             refine hK _ ?_;clear hK K;refine zw (zk [0,1,2,4,5,6,7,8,9,14,15,16,26,27,28,40,41,42]) ?_;simp only [go_sem]
             repeat refine zq ?_
             refine zg follows (by decide +kernel) (by kernel_rfl) fun K hK=>?_;simp only [go_sem]
             refine zh (score_ok a ba.1 ba.2) rfl (by simp only [go_sem,i64,ints]) (by simp only [go_sem,i64,ints]) (by first | exact .inl rfl | exact .inr rfl) ?_
             (try simp only [go_sem])
             refine zh (score_ok b bb.1 bb.2) rfl (by simp only [go_sem,i64,ints]) (by simp only [go_sem,i64,ints]) (by first | exact .inl rfl | exact .inr rfl) ?_
             (try simp only [go_sem]);(try simp (disch:=omega) only [zI])
             refine zh (score_ok c bc.1 bc.2) rfl (by simp only [go_sem,i64,ints]) (by simp only [go_sem,i64,ints]) (by first | exact .inl rfl | exact .inr rfl) ?_
             (try simp only [go_sem]);(try simp (disch:=omega) only [zI]);refine hK _ ?_;clear hK K;refine zw (zk [0,1,2,4,5,6,7,8,9,14,15,16,26,27,28,40,41,42,56]) ?_;simp only [go_sem]
             by_cases hsum : scoreOf a + scoreOf b + scoreOf c = n
             · have e1 : (scoreOf a + scoreOf b + scoreOf c != n) = false:=by simp [hsum]
               rw [e1,if_pos hsum]
               refine zc rfl (fun hc=>?_) (fun hc=>?_) <;> (try simp only [go_sem] at hc)
               refine zx ?_
               try simp only [go_sem]
               refine zq ?_
               refine zb fun K hK=>?_;simp only [go_sem];refine hK _ ?_;clear hK K;refine zw (zk [0,1,2,4,5,6,7,8,9,10,14,15,16,26,27,28,40,41,42]) ?_;simp only [go_sem]
               have ez : ([AV.r (RV.it IntKind.i64 0),AV.r (RV.it IntKind.i64 0),AV.r (RV.it IntKind.i64 0),AV.r (RV.it IntKind.i64 0),AV.r (RV.it IntKind.i64 0),AV.r (RV.it IntKind.i64 0),AV.r (RV.it IntKind.i64 0),AV.r (RV.it IntKind.i64 0),AV.r (RV.it IntKind.i64 0),AV.r (RV.it IntKind.i64 0)] : List AV) = tA zeroT:=rfl
               have smx : SmallT 0 zeroT:=zeroT_small (by omega)
               have smy : SmallT 1 (incT zeroT i):=incT_small smx (by omega)
               have smz : SmallT 2 (incT (incT zeroT i) (i + k)):=incT_small smy (by omega)
               have smw : SmallT 3 (tally3 i (i + k) (i + k + m)):=tally3_small _ _ _
               have q0:=smx.1
               have q1:=smy.1
               have q2:=smz.1
               have q3:=smw.1
               have htn3 : ((i : Int) + (k : Int) + (m : Int)).toNat = i + k + m:=by omega
               have wk1 : IntKind.i64.wrap ((i : Int) + (k : Int)) = ((i + k : Nat) : Int):=by rw [zI] <;> omega
               have wk2 : IntKind.i64.wrap (((i + k : Nat) : Int) + (m : Int)) = ((i + k + m : Nat) : Int):=by rw [zI] <;> omega
               rw [ez]
               obtain ⟨x,hx⟩:=opt_of_lt (l:=zeroT) (i:=i) (by omega)
               have ix : incT zeroT (i) = (zeroT).set (i) (x + 1):=incT_eq hx
               have gx:=smx.2 x (mem_of_opt hx)
               have dx:=tA_drop hx
               have sx:=tA_set (t:=zeroT) (i:=i) (y:=x + 1) (by omega)
               have lx:=tA_len (zeroT)
               rw [← ix] at sx
               refine zq ?_
               refine zb fun K hK=>?_;simp only [go_sem,Nat.mul_one,dx,lx,List.headD_cons,List.length_cons];(try simp (disch:=omega) only [zI])
               repeat refine ⟨by omega,?_⟩
               refine hK _ ?_;clear hK K;rw [sx]
               refine zw (zk [0,1,2,4,5,6,7,8,9,10,14,15,16,26,27,28,40,41,42]) ?_;simp only [go_sem]
               obtain ⟨y,hy⟩:=opt_of_lt (l:=incT zeroT i) (i:=i + k) (by omega)
               have iy : incT (incT zeroT i) (i + k) = (incT zeroT i).set (i + k) (y + 1):=incT_eq hy
               have gy:=smy.2 y (mem_of_opt hy)
               have dy:=tA_drop hy
               have sy:=tA_set (t:=incT zeroT i) (i:=i + k) (y:=y + 1) (by omega)
               have ly:=tA_len (incT zeroT i)
               rw [← iy] at sy
               refine zq ?_
               refine zb fun K hK=>?_;simp only [go_sem,Nat.mul_one];(try simp (disch:=omega) only [zI]);simp only [go_sem,Nat.mul_one,htn,dy,ly,List.headD_cons,List.length_cons];(try simp (disch:=omega) only [zI])
               repeat refine ⟨by omega,?_⟩
               refine hK _ ?_;clear hK K;rw [sy]
               refine zw (zk [0,1,2,4,5,6,7,8,9,10,14,15,16,26,27,28,40,41,42]) ?_;simp only [go_sem]
               obtain ⟨z,hz⟩:=opt_of_lt (l:=incT (incT zeroT i) (i + k)) (i:=i + k + m) (by omega)
               have iz : incT (incT (incT zeroT i) (i + k)) (i + k + m) = (incT (incT zeroT i) (i + k)).set (i + k + m) (z + 1):=incT_eq hz
               have gz:=smz.2 z (mem_of_opt hz)
               have dz:=tA_drop hz
               have sz:=tA_set (t:=incT (incT zeroT i) (i + k)) (i:=i + k + m) (y:=z + 1) (by omega)
               have lz:=tA_len (incT (incT zeroT i) (i + k))
               rw [← iz] at sz
               refine zq ?_
               refine zb fun K hK=>?_;simp only [go_sem,Nat.mul_one];(try simp (disch:=omega) only [zI]);simp only [go_sem,Nat.mul_one,htn3,dz,lz,List.headD_cons,List.length_cons];(try simp (disch:=omega) only [zI])
               repeat refine ⟨by omega,?_⟩
               refine hK _ ?_;clear hK K;rw [sz]
               refine zw (zk [0,1,2,4,5,6,7,8,9,10,14,15,16,26,27,28,40,41,42]) ?_;simp only [go_sem]
               have et : incT (incT (incT zeroT i) (i + k)) (i + k + m) = tally3 i (i + k) (i + k + m):=rfl
               rw [et]
               generalize hT : tally3 i (i + k) (i + k + m) = T at *
               have htk : List.take 10 (tR T) = tR T:=List.take_of_length_le (by rw [List.length_map,q3]; exact Nat.le_refl _)
               have htl : (tR T).length = 10:=by rw [List.length_map,q3]
               refine zw (sub_frzP 10 10 (tR T) (by omega) rfl rfl) ?_
               try simp only [go_sem]
               refine zq ?_
               refine zb fun K hK=>?_;simp only [go_sem,htk,htl,Nat.le_refl]
               refine xcall_yield (z:=true) (e:=[.ag (tR T)]) (rest:=yl1 (rowM beds n i (i + k) (i + k + m + 1) ++ (rowK beds n i (i + k + 1) ++ rowI beds n (i + 1)))) (by simp only [go_sem]) rfl (by simp only [go_sem]) (.inl (by simp only [RV.flatL,RV.flatB,flat_tR,Bool.and_self])) ?_ ?_
               · simp only [go_sem];refine hK _ ?_;clear hK K;refine zw (zk [0,1,2,4,5,6,7,14,15,16,26,27,28,40,41,42,81]) ?_;simp only [go_sem]
                 refine zc rfl (fun hc=>?_) (fun hc=>?_) <;> (try simp only [go_sem] at hc)
                 refine zx ?_
                 try simp only [go_sem]
                 refine zb fun K hK=>?_;simp only [go_sem];(try simp (disch:=omega) only [zI]);refine hK _ ?_;clear hK K
                 try simp only [go_sem]
                 refine ⟨hcm,fit_of [] ?_ ?_⟩
                 · try simp only [go_sem]
                 · try simp only [go_sem]
                   simp [Nat.add_assoc]
               · simp only [go_sem];refine hK _ ?_;clear hK K;refine zw (zk [81]) ?_;simp only [go_sem]
                 refine zc rfl (fun hc=>?_) (fun hc=>?_) <;> (try simp only [go_sem] at hc)
                 refine ze ?_;simp only [go_sem];exact ⟨_,_,.inr rfl⟩
             · have e1 : (scoreOf a + scoreOf b + scoreOf c != n) = true:=by simp [hsum]
               rw [e1,if_neg hsum]
               refine zc rfl (fun hc=>?_) (fun hc=>?_) <;> (try simp only [go_sem] at hc)
               refine zf ?_;simp only [go_sem];refine zb fun K hK=>?_;simp only [go_sem];(try simp (disch:=omega) only [zI]);refine hK _ ?_;clear hK K
               try simp only [go_sem]
               refine ⟨hcm,fit_of [] ?_ ?_⟩
               · try simp only [go_sem]
               · try simp only [go_sem]
                 simp [Nat.add_assoc]
           · have hme : m = beds.length - (i + k):=by omega
             refine zf ?_;simp only [go_sem];rw [rowM_end (m:=i + k + m) (by omega)]
             refine zb fun K hK=>?_;simp only [go_sem];(try simp (disch:=omega) only [zI]);refine hK _ ?_;clear hK K
             try simp only [go_sem]
             refine ⟨hck,fit_of [] ?_ ?_⟩
             · try simp only [go_sem]
             · try simp only [go_sem]
               simp [Nat.add_assoc]
       · have hke : k = beds.length - i:=by omega
         refine zf ?_;simp only [go_sem];rw [rowK_end (k:=i + k) (by omega)]
         refine zb fun K hK=>?_;simp only [go_sem];(try simp (disch:=omega) only [zI]);refine hK _ ?_;clear hK K
         try simp only [go_sem]
         refine ⟨hci,fit_of [] ?_ ?_⟩
         · try simp only [go_sem]
         · try simp only [go_sem]
   · refine zf ?_;simp only [go_sem];rw [rowI_end (by omega)]
     exact ⟨_,_,.inl rfl⟩
def truthsK (beds ds : List Int) : List (List Int):=match tallyK beds zeroT ds with | some t=>[t] | none=>[]
theorem knownXs_eq (beds ds : List Int) : knownXs beds ds = yl1 (truthsK beds ds):=by
 unfold knownXs truthsK
 cases tallyK beds zeroT ds <;> rfl
theorem tallyK_small {beds : List Int} : ∀ {ds t r : List Int} {b : Int},tallyK beds t ds = some r → 0 ≤ b → SmallT b t → SmallT (b + ds.length) r
 | [], t, r, b, h, hb, hs => by
   simp only [tallyK,Option.some.injEq] at h
   subst h
   simpa using hs
 | d :: ds, t, r, b, h, hb, hs => by
   rw [tallyK] at h
   split at h
   · cases h
   · have:=tallyK_small h (by omega) (incT_small (i:=(atE beds d).toNat) hs hb)
     rw [List.length_cons]
     have e : b + 1 + (ds.length : Int) = b + ((ds.length + 1 : Nat) : Int):=by omega
     rwa [e] at this
theorem truthsK_small {beds ds : List Int} (h : ds.length = 3) : ∀ t ∈ truthsK beds ds,SmallT 3 t:=fun t ht=>by
 unfold truthsK at ht
 cases e : tallyK beds zeroT ds with
 | none=>rw [e] at ht; cases ht
 | some r =>
   rw [e] at ht
   rw [List.mem_singleton.1 ht]
   have:=tallyK_small e (by omega) (zeroT_small (b:=0) (by omega))
   rw [h] at this
   exact this
def truthsV (beds ds : List Int) (n : Int) : List (List Int):=if ds = [] then threeT beds n else truthsK beds ds
def visitE (beds ds : List Int) (n : Int) : Int :=
 if ds ≠ [] ∧ (ds.length ≠ 3 ∨ n ≠ 0) then 4 else if ¬ (0 ≤ n ∧ n ≤ 240) then 3 else if (truthsV beds ds n).isEmpty then 9 else 0
theorem lift_rp {w : World} {R R' : Nat → Prop} {u : Addr} {rs : List RV} {v : Value} (h : RV.rel w R (.rp [.vl u]) v) (hu : RV.rel w R' (.rp rs) (.pointer (some u))) (hR : ∀ b,R b → R' b) : RV.rel w R' (.rp [.rp rs]) v:=by
 simp only [RV.rel,RV.relC] at h ⊢
 obtain ⟨ad,hv,hr,⟨x,hx,h1,h2⟩,_⟩:=h
 subst h2
 refine ⟨ad,hv,hR _ hr,⟨_,hx,h1,?_⟩,trivial⟩
 simpa only [RV.rel] using hu
theorem cap_known {u : Addr} {ds : List Int} {rs : List RV} (w : World) (p : Plan) (ver : Nat → Nat) (R' : Nat → Prop) (vals : List Value) (h : AV.relV w p ver ([.rp [ints ds],.rp [.vl u]].map .r) vals) (hu : RV.rel w R' (.rp rs) (.pointer (some u))) (hR : ∀ b,p.R b → R' b) :
 RV.relV w R' [.rp [ints ds],.rp [.rp rs]] vals:=by
 simp only [List.map_cons,List.map_nil,AV.relV,AV.rel] at h
 obtain ⟨v1,vs,rfl,h1,v2,vs2,rfl,h2,rfl⟩:=h
 simp only [RV.relV];exact ⟨v1,[v2],rfl,RV.rel_mono hR (fun _ _=>rfl) _ _ h1,v2,[],rfl,lift_rp h2 hu hR,rfl⟩
theorem cap_three {u : Addr} {n : Int} {rs : List RV} (w : World) (p : Plan) (ver : Nat → Nat) (R' : Nat → Prop) (vals : List Value) (h : AV.relV w p ver ([.rp [.vl u],.rp [i64 n]].map .r) vals) (hu : RV.rel w R' (.rp rs) (.pointer (some u))) (hR : ∀ b,p.R b → R' b) :
 RV.relV w R' [.rp [.rp rs],.rp [i64 n]] vals:=by
 simp only [List.map_cons,List.map_nil,AV.relV,AV.rel] at h
 obtain ⟨v1,vs,rfl,h1,v2,vs2,rfl,h2,rfl⟩:=h
 simp only [RV.relV];exact ⟨v1,[v2],rfl,lift_rp h1 hu hR,v2,[],rfl,RV.rel_mono hR (fun _ _=>rfl) _ _ h2,rfl⟩
theorem addT_zero : ∀ (a z : List Int),a.length = z.length → (∀ x ∈ z,x = 0) → addT a z = a
 | [],[],_,_=>rfl
 | a :: l, z :: m, h, hz => by
   have h0:=hz z (by simp)
   simp only [List.length_cons] at h
   have ih:=addT_zero l m (by omega) fun x hx=>hz x (by simp [hx])
   unfold addT at ih ⊢
   rw [List.zipWith_cons_cons,ih,h0,Int.add_zero]
 | [],_ :: _,h,_=>by simp at h
 | _ :: _,[],h,_=>by simp at h
theorem backL_r (ρ : List (Nat × Nat)) (ver : Nat → Nat) : ∀ l : List RV,backL ρ ver (l.map AV.r) = l.map AV.r
 | []=>rfl
 | x :: l=>by simp only [List.map_cons,backL,backA,backL_r ρ ver l]
theorem shA_back (ρ : List (Nat × Nat)) (ver : Nat → Nat) (beds le mo : List Int) : backL ρ ver (shA beds le mo) = shA beds le mo:=backL_r ρ ver _
theorem lendL_r (ρ : List (Nat × Nat)) (ver : Nat → Nat) : ∀ l : List RV,lendL ρ ver (l.map AV.r) = some (l.map AV.r)
 | []=>rfl
 | x :: l=>by simp only [List.map_cons,lendL,lendA,lendL_r ρ ver l]
theorem shA_lend (ρ : List (Nat × Nat)) (ver : Nat → Nat) (beds le mo : List Int) : lendL ρ ver (shA beds le mo) = some (shA beds le mo):=lendL_r ρ ver _
theorem accL_nil : accL [] = (false,zeroT,zeroT):=rfl
def leV (beds le ds : List Int) (n : Int) : List Int:=if visitE beds ds n = 0 then addT le (accL (truthsV beds ds n)).2.1 else le
def moV (beds mo ds : List Int) (n : Int) : List Int:=if visitE beds ds n = 0 then addT mo (accL (truthsV beds ds n)).2.2 else mo
theorem visit_ok (beds le mo ds : List Int) (n : Int) (hb : BedsOk beds) (hle : SmallT 3000 le) (hmo : SmallT 3000 mo) :
 MCalls Try.prog 105 [(1000,.box (shA beds le mo))] [(1000,.box (shA beds (leV beds le ds n) (moV beds mo ds n)))] [.pt 1000 0 0,.ag [.r (ints ds),.r (i64 n)]] (.r (i64 (visitE beds ds n))):=by
 refine mcalls_stO (n:=45) (rs:=[.r (i64 (visitE beds ds n))]) _ _ [.tmp 4] Try.func105 rfl (by kernel_rfl) Try.ntmps105 rfl (by simp) rfl rfl fun C hC=>?_
 refine awp_name 0 rfl fun u=>?_
 have hbl:=hb.1
 have fin : ∀ l : List RV,frzPL [(1000,RowC.box (shA beds le mo))] (fun _=>⟨0,.dead⟩) (l.map AV.r):=fun l=>frzPL_r _ _ l
 refine zq ?_
 refine zb fun K hK=>?_;simp only [go_sem];refine hK _ ?_;clear hK K;refine zw (sub_frzP 3 3 [ints ds,i64 n] (by omega) rfl rfl) ?_;refine zw (zk [0,3,4]) ?_;simp only [go_sem]
 refine zq ?_
 refine zb fun K hK=>?_;simp only [go_sem]
 refine zh (known_ok u ds) rfl (by simp only [go_sem,i64,ints]) (by simp only [go_sem,i64,ints]) (by first | exact .inl rfl | exact .inr rfl) ?_
 (try simp only [go_sem]);refine hK _ ?_;clear hK K;refine zw (zk [0,3,5]) ?_;simp only [go_sem]
 refine zq ?_
 refine zd ?_
 by_cases hds : ds = []
 · subst hds
   have e0 : visitE beds [] n = if ¬ (0 ≤ n ∧ n ≤ 240) then 3 else if (threeT beds n).isEmpty then 9 else 0:=by simp [visitE,truthsV]
   have eL : ∀ e,visitE beds [] n = e → e ≠ 0 → leV beds le [] n = le ∧ moV beds mo [] n = mo:=fun e h1 h2=>by
    unfold leV moV
    rw [if_neg (by rw [h1]; exact h2),if_neg (by rw [h1]; exact h2)]
    exact ⟨rfl,rfl⟩
   refine zq ?_
   refine zb fun K hK=>?_;simp only [go_sem,List.length_nil,bne_self_eq_false]
   intros
   refine hK _ ?_;clear hK K;refine zw (zk [0,3,5,10]) ?_;simp only [go_sem]
   refine zc rfl (fun hc=>?_) (fun hc=>?_) <;> (try simp only [go_sem] at hc)
   by_cases hn : 0 ≤ n ∧ n ≤ 240
   · have w1 : withinL 0 240 [n] = true:=by simp [withinL]; omega
     rw [if_neg (by simpa using hn)] at e0
     refine zq ?_
     refine zb fun K hK=>?_;simp only [go_sem]
     refine zh (within_ok 0 240 [n]) rfl (by simp only [go_sem,i64,ints,w1]) (by simp only [go_sem,i64,ints,w1]) (by first | exact .inl rfl | exact .inr rfl) ?_
     (try simp only [go_sem,w1]);refine hK _ ?_;clear hK K;refine zw (zk [0,3,5,26]) ?_;simp only [go_sem]
     refine zc rfl (fun hc=>?_) (fun hc=>?_) <;> (try simp only [go_sem] at hc)
     refine zq ?_
     refine zb fun K hK=>?_;simp only [go_sem,List.length_nil,beq_self_eq_true]
     intros
     refine hK _ ?_;clear hK K;refine zw (zk [0,3,5,32]) ?_;simp only [go_sem]
     refine zc rfl (fun hc=>?_) (fun hc=>?_) <;> (try simp only [go_sem] at hc)
     refine zb fun K hK=>?_;simp only [go_sem]
     refine zh (three_ok u n) rfl (by simp only [go_sem,i64,ints]) (by simp only [go_sem,i64,ints]) (by first | exact .inl rfl | exact .inr rfl) ?_
     (try simp only [go_sem]);refine hK _ ?_;clear hK K;refine zw (zk [0,5]) ?_;simp only [go_sem]
     have hmut:=add_ok u beds le mo 157 [.rp [.vl u],.rp [i64 n]] [.rp [.rp (sheetR beds le mo)],.rp [i64 n]] (threeT beds n) hle hmo threeT_small (three1_ok beds le mo n hb) cap_three
     repeat refine zq ?_
     refine zb fun K hK=>?_;simp only [go_sem]
     refine xcall_mut (hmut) [(1000,1000)] rfl (by simp only [go_sem,i64,ints,shA_lend,shA_back]) (by simp only [go_sem,i64,ints,shA_lend,shA_back]) (by rfl) (by rfl) ?_
     (try simp only [go_sem,shA_lend,shA_back]);refine hK _ ?_;clear hK K
     try rw [shA_back]
     refine zw (zk [0,44]) ?_;simp only [go_sem]
     cases he : (threeT beds n).isEmpty
     · have e1 : visitE beds [] n = 0:=by rw [e0,he]; simp
       have eq1 : leV beds le [] n = addT le (accL (threeT beds n)).2.1:=by unfold leV; rw [if_pos e1]; rfl
       have eq2 : moV beds mo [] n = addT mo (accL (threeT beds n)).2.2:=by unfold moV; rw [if_pos e1]; rfl
       rw [e1,eq1,eq2]
       refine zc rfl (fun hc=>?_) (fun hc=>?_) <;> (try simp only [go_sem] at hc)
       refine zx ?_
       try simp only [go_sem]
       refine zq ?_
       refine zb fun K hK=>?_;simp only [go_sem];refine hK _ ?_;clear hK K;refine zw (zk [4]) ?_;simp only [go_sem];refine ze ?_;simp only [go_sem];exact ⟨frzPL_r _ _ _,congrArg RowC.box (frzL_r _ _ _)⟩
     · have e1 : visitE beds [] n = 9:=by rw [e0,he]; simp
       obtain ⟨eq1,eq2⟩:=eL 9 e1 (by decide)
       have hnil : threeT beds n = []:=List.isEmpty_iff.1 he
       rw [hnil,accL_nil,addT_zero le zeroT hle.1 (by decide),addT_zero mo zeroT hmo.1 (by decide),e1,eq1,eq2]
       refine zc rfl (fun hc=>?_) (fun hc=>?_) <;> (try simp only [go_sem] at hc)
       refine zq ?_
       refine zb fun K hK=>?_;simp only [go_sem];refine hK _ ?_;clear hK K;refine zw (zk [4]) ?_;simp only [go_sem];refine ze ?_;simp only [go_sem];exact ⟨frzPL_r _ _ _,congrArg RowC.box (frzL_r _ _ _)⟩
   · have w1 : withinL 0 240 [n] = false:=by simp [withinL]; omega
     rw [if_pos hn] at e0
     obtain ⟨eq1,eq2⟩:=eL 3 e0 (by decide)
     rw [e0,eq1,eq2]
     refine zq ?_
     refine zb fun K hK=>?_;simp only [go_sem]
     refine zh (within_ok 0 240 [n]) rfl (by simp only [go_sem,i64,ints,w1]) (by simp only [go_sem,i64,ints,w1]) (by first | exact .inl rfl | exact .inr rfl) ?_
     (try simp only [go_sem,w1]);refine hK _ ?_;clear hK K;refine zw (zk [0,3,5,26]) ?_;simp only [go_sem]
     refine zc rfl (fun hc=>?_) (fun hc=>?_) <;> (try simp only [go_sem] at hc)
     refine zq ?_
     refine zb fun K hK=>?_;simp only [go_sem];refine hK _ ?_;clear hK K;refine zw (zk [4]) ?_;simp only [go_sem];refine ze ?_;simp only [go_sem];exact ⟨frzPL_r _ _ _,congrArg RowC.box (frzL_r _ _ _)⟩
 · have hl0 : ((ds.length : Int) != 0) = true:=by
    have : ds.length ≠ 0:=fun e=>hds (List.eq_nil_of_length_eq_zero e)
    simpa using hds
   have eL : ∀ e,visitE beds ds n = e → e ≠ 0 → leV beds le ds n = le ∧ moV beds mo ds n = mo:=fun e h1 h2=>by
    unfold leV moV
    rw [if_neg (by rw [h1]; exact h2),if_neg (by rw [h1]; exact h2)]
    exact ⟨rfl,rfl⟩
   have hq0 : ((ds.length : Int) == 0) = false:=by simpa using hds
   by_cases h3 : ds.length = 3
   · have c3 : ((ds.length : Int) != 3) = false:=by simp [h3]
     by_cases hn0 : n = 0
     · subst hn0
       have e0 : visitE beds ds 0 = if (truthsK beds ds).isEmpty then 9 else 0:=by simp [visitE,truthsV,h3,hds]
       have w1 : withinL 0 240 [0] = true:=by decide
       refine zq ?_
       refine zb fun K hK=>?_;simp only [go_sem,hl0,c3,bne_self_eq_false]
       intros
       refine hK _ ?_;clear hK K;refine zw (zk [0,3,5,10]) ?_;simp only [go_sem]
       refine zc rfl (fun hc=>?_) (fun hc=>?_) <;> (try simp only [go_sem] at hc)
       refine zq ?_
       refine zb fun K hK=>?_;simp only [go_sem]
       refine zh (within_ok 0 240 [0]) rfl (by simp only [go_sem,i64,ints,w1]) (by simp only [go_sem,i64,ints,w1]) (by first | exact .inl rfl | exact .inr rfl) ?_
       (try simp only [go_sem,w1]);refine hK _ ?_;clear hK K;refine zw (zk [0,3,5,26]) ?_;simp only [go_sem]
       refine zc rfl (fun hc=>?_) (fun hc=>?_) <;> (try simp only [go_sem] at hc)
       refine zq ?_
       refine zb fun K hK=>?_;simp only [go_sem,hq0]
       intros
       refine hK _ ?_;clear hK K;refine zw (zk [0,5,32]) ?_;simp only [go_sem]
       refine zc rfl (fun hc=>?_) (fun hc=>?_) <;> (try simp only [go_sem] at hc)
       refine zx ?_
       try simp only [go_sem]
       have hmut:=add_ok u beds le mo 155 [.rp [ints ds],.rp [.vl u]] [.rp [ints ds],.rp [.rp (sheetR beds le mo)]] (truthsK beds ds) hle hmo (truthsK_small h3) (by have h:=known1_ok beds ds le mo hbl (by omega); rw [knownXs_eq] at h; exact h) cap_known
       repeat refine zq ?_
       refine zb fun K hK=>?_;simp only [go_sem]
       refine xcall_mut (hmut) [(1000,1000)] rfl (by simp only [go_sem,i64,ints,shA_lend,shA_back]) (by simp only [go_sem,i64,ints,shA_lend,shA_back]) (by rfl) (by rfl) ?_
       (try simp only [go_sem,shA_lend,shA_back]);refine hK _ ?_;clear hK K
       try rw [shA_back]
       refine zw (zk [0,44]) ?_;simp only [go_sem]
       cases he : (truthsK beds ds).isEmpty
       · have e1 : visitE beds ds 0 = 0:=by rw [e0,he]; simp
         have eq1 : leV beds le ds 0 = addT le (accL (truthsK beds ds)).2.1:=by unfold leV truthsV; rw [if_pos e1,if_neg hds]
         have eq2 : moV beds mo ds 0 = addT mo (accL (truthsK beds ds)).2.2:=by unfold moV truthsV; rw [if_pos e1,if_neg hds]
         rw [e1,eq1,eq2]
         refine zc rfl (fun hc=>?_) (fun hc=>?_) <;> (try simp only [go_sem] at hc)
         refine zx ?_
         try simp only [go_sem]
         refine zq ?_
         refine zb fun K hK=>?_;simp only [go_sem];refine hK _ ?_;clear hK K;refine zw (zk [4]) ?_;simp only [go_sem];refine ze ?_;simp only [go_sem];exact ⟨frzPL_r _ _ _,congrArg RowC.box (frzL_r _ _ _)⟩
       · have e1 : visitE beds ds 0 = 9:=by rw [e0,he]; simp
         obtain ⟨eq1,eq2⟩:=eL 9 e1 (by decide)
         have hnil : truthsK beds ds = []:=List.isEmpty_iff.1 he
         rw [hnil,accL_nil,addT_zero le zeroT hle.1 (by decide),addT_zero mo zeroT hmo.1 (by decide),e1,eq1,eq2]
         refine zc rfl (fun hc=>?_) (fun hc=>?_) <;> (try simp only [go_sem] at hc)
         refine zq ?_
         refine zb fun K hK=>?_;simp only [go_sem];refine hK _ ?_;clear hK K;refine zw (zk [4]) ?_;simp only [go_sem];refine ze ?_;simp only [go_sem];exact ⟨frzPL_r _ _ _,congrArg RowC.box (frzL_r _ _ _)⟩
     · have cn : (n != 0) = true:=by simpa using hn0
       have e0 : visitE beds ds n = 4:=by simp [visitE,hds,hn0]
       obtain ⟨eq1,eq2⟩:=eL 4 e0 (by decide)
       rw [e0,eq1,eq2]
       refine zq ?_
       refine zb fun K hK=>?_;simp only [go_sem,hl0,c3,cn]
       intros
       refine hK _ ?_;clear hK K;refine zw (zk [0,3,5,10]) ?_;simp only [go_sem]
       refine zc rfl (fun hc=>?_) (fun hc=>?_) <;> (try simp only [go_sem] at hc)
       refine zq ?_
       refine zb fun K hK=>?_;simp only [go_sem];refine hK _ ?_;clear hK K;refine zw (zk [4]) ?_;simp only [go_sem];refine ze ?_;simp only [go_sem];exact ⟨frzPL_r _ _ _,congrArg RowC.box (frzL_r _ _ _)⟩
   · have c3 : ((ds.length : Int) != 3) = true:=by
      have : (ds.length : Int) ≠ 3:=by omega
      simpa using this
     have e0 : visitE beds ds n = 4:=by simp [visitE,hds,h3]
     obtain ⟨eq1,eq2⟩:=eL 4 e0 (by decide)
     rw [e0,eq1,eq2]
     refine zq ?_
     refine zb fun K hK=>?_;simp only [go_sem,hl0,c3]
     intros
     refine hK _ ?_;clear hK K;refine zw (zk [0,3,5,10]) ?_;simp only [go_sem]
     refine zc rfl (fun hc=>?_) (fun hc=>?_) <;> (try simp only [go_sem] at hc)
     refine zq ?_
     refine zb fun K hK=>?_;simp only [go_sem];refine hK _ ?_;clear hK K;refine zw (zk [4]) ?_;simp only [go_sem];refine ze ?_;simp only [go_sem];exact ⟨frzPL_r _ _ _,congrArg RowC.box (frzL_r _ _ _)⟩
set_option maxHeartbeats 1000000
structure Vi where
 ds : List Int
 n : Int
abbrev viC (v : Vi) : List RV:=[ints v.ds,i64 v.n]
abbrev visR (l : List Vi) : RV:=.sl 2 (l.map viC)
def runF (bs : List Int) : List Int → List Int → Nat → List Vi → List Int × List Int × Option (Nat × Int)
 | le,mo,_,[]=>(le,mo,none)
 | le,mo,i,v :: l=>if visitE bs v.ds v.n = 0 then runF bs (leV bs le v.ds v.n) (moV bs mo v.ds v.n) (i + 1) l else (le,mo,some (i,visitE bs v.ds v.n))
def bedAt (bs le mo : List Int) (i : Nat) : Bd:=⟨bs.getD i 0,le.getD i 0,mo.getD i 0⟩
def fitV (a : Am) (l : List Vi) : Am × Int × Int × Int :=
 if 10 < a.beds.length then (⟨0,[]⟩,0,0,5) else if (bedOk a.at_ && !a.beds.isEmpty && seqOk none a.beds) = false then (⟨0,[]⟩,0,0,2) else if l = [] then (⟨0,[]⟩,0,0,7) else if 1000 < l.length then (⟨0,[]⟩,0,0,5) else
 match runF (a.beds.map (·.b)) zeroT zeroT 0 l with
 | (_,_,some (i,e))=>(⟨0,[]⟩,0,i,e)
 | (le,mo,none)=>(⟨a.at_,(List.range a.beds.length).map (bedAt (a.beds.map (·.b)) le mo)⟩,3 * l.length,0,0)
theorem SmallT.mono {b c : Int} {t : List Int} (h : SmallT b t) (hc : b ≤ c) : SmallT c t:=⟨h.1,fun x hx=>by have:=h.2 x hx; omega⟩
theorem truthsV_small {bs ds : List Int} {n : Int} (h : visitE bs ds n = 0) : ∀ t ∈ truthsV bs ds n,SmallT 3 t:=by
 unfold truthsV
 split
 · exact threeT_small
 · rename_i hds
   refine truthsK_small ?_
   unfold visitE at h
   split at h
   · cases h
   · rename_i h1
     have : ¬ (ds.length ≠ 3):=fun h2=>h1 ⟨hds,.inl h2⟩
     omega
theorem addT_small {b c : Int} {s t : List Int} (h1 : SmallT b s) (h2 : SmallT c t) : SmallT (b + c) (addT s t):=by
 refine ⟨by unfold addT; rw [List.length_zipWith,h1.1,h2.1]; rfl,fun x hx=>?_⟩
 obtain ⟨y,hy,z,hz,rfl⟩:=mem_zipW hx
 have:=h1.2 y hy
 have:=h2.2 z hz
 omega
theorem leV_small {b : Int} {bs le ds : List Int} {n : Int} (h : SmallT b le) : SmallT (b + 3) (leV bs le ds n) ∧ True:=by
 refine ⟨?_,trivial⟩
 unfold leV
 split
 · rename_i h0
   exact addT_small h (accL_small (by omega) _ (truthsV_small h0)).1
 · exact h.mono (by omega)
theorem moV_small {b : Int} {bs mo ds : List Int} {n : Int} (h : SmallT b mo) : SmallT (b + 3) (moV bs mo ds n):=by
 unfold moV
 split
 · rename_i h0
   exact addT_small h (accL_small (by omega) _ (truthsV_small h0)).2
 · exact h.mono (by omega)
theorem bedOk_le {b : Int} (h : bedOk b = true) : 0 ≤ b ∧ b ≤ 499:=by
 simp only [bedOk,Bool.or_eq_true,Bool.and_eq_true,decide_eq_true_eq] at h
 omega
theorem seqOk_le : ∀ {l : List Bd} {p : Option Int},seqOk p l = true → ∀ x ∈ l,0 ≤ x.b ∧ x.b ≤ 499
 | [],_,_=>by simp
 | y :: l, p, h => by
   simp only [seqOk,Bool.and_eq_true,Bool.or_eq_true,decide_eq_true_eq] at h
   intro x hx
   rcases List.mem_cons.1 hx with rfl | hx
   · rcases h.1.1 with h1 | h1
     · omega
     · exact bedOk_le h1
   · exact seqOk_le h.2 x hx
theorem fit_ok (a : Am) (l : List Vi) (hw : WfA a) : ACalls Try.prog 76 [aimV a,visR l] (.tu [aimV (fitV a l).1,i64 (fitV a l).2.1,i64 (fitV a l).2.2.1,i64 (fitV a l).2.2.2]):=by
 refine acalls_st (rs:=[aimV (fitV a l).1,i64 (fitV a l).2.1,i64 (fitV a l).2.2.1,i64 (fitV a l).2.2.2]) [.cell 4 63,.tmp 5,.tmp 6,.tmp 7] Try.func76 rfl (by kernel_rfl) Try.ntmps76 rfl (by simp) rfl fun C vs=>?_
 refine zq ?_
 refine zb fun K hK=>?_;simp only [go_sem];refine hK _ ?_;clear hK K;refine zw (sub_frzP 2 2 (aimR a) (by omega) rfl rfl) ?_;refine zw (zk [1,2,4]) ?_;simp only [go_sem]
 refine zq ?_
 refine zb fun K hK=>?_;simp only [go_sem,aimR];refine hK _ ?_;clear hK K;refine zw (sub_frzP 8 8 [i64 a.at_,bedsR a.beds,i64 0] (by omega) rfl rfl) ?_;refine zw (zk [1,2,4,8]) ?_;simp only [go_sem]
 refine zq ?_
 refine zd ?_
 by_cases h1 : 10 < a.beds.length
 · have c1 : decide ((10 : Int) < (a.beds.length : Int)) = true:=by simp; omega
   have hv : fitV a l = (⟨0,[]⟩,0,0,5):=by rw [fitV,if_pos h1]
   rw [hv]
   refine zq ?_
   refine zb fun K hK=>?_;simp only [go_sem,c1,aimR]
   intros
   refine hK _ ?_;clear hK K;refine zw (zk [1,2,4,8,19]) ?_;simp only [go_sem]
   refine zc rfl (fun hc=>?_) (fun hc=>?_) <;> (try simp only [go_sem] at hc)
   refine zq ?_
   refine zb fun K hK=>?_;simp only [go_sem];refine hK _ ?_;clear hK K;refine zw (zk [4,5,6,7]) ?_;simp only [go_sem];refine ze ?_;simp only [go_sem]
 have c1 : decide ((10 : Int) < (a.beds.length : Int)) = false:=by simp; omega
 refine zq ?_
 refine zb fun K hK=>?_;simp only [go_sem,c1,aimR]
 intros
 refine hK _ ?_;clear hK K;refine zw (zk [1,2,4,8,19]) ?_;simp only [go_sem]
 refine zc rfl (fun hc=>?_) (fun hc=>?_) <;> (try simp only [go_sem] at hc)
 refine zq ?_
 refine zb fun K hK=>?_;simp only [go_sem]
 refine zh (areBeds_ok a.at_ a.beds 0 hw.1 hw.2) rfl (by simp only [go_sem,i64,ints]) (by simp only [go_sem,i64,ints]) (by first | exact .inl rfl | exact .inr rfl) ?_
 (try simp only [go_sem]);refine hK _ ?_;clear hK K;refine zw (zk [1,2,4,25]) ?_;simp only [go_sem]
 cases h2 : (bedOk a.at_ && !a.beds.isEmpty && seqOk none a.beds)
 · have hv : fitV a l = (⟨0,[]⟩,0,0,2):=by rw [fitV,if_neg h1,if_pos h2]
   rw [hv]
   refine zc rfl (fun hc=>?_) (fun hc=>?_) <;> (try simp only [go_sem] at hc)
   refine zq ?_
   refine zb fun K hK=>?_;simp only [go_sem];refine hK _ ?_;clear hK K;refine zw (zk [4,5,6,7]) ?_;simp only [go_sem];refine ze ?_;simp only [go_sem]
 refine zc rfl (fun hc=>?_) (fun hc=>?_) <;> (try simp only [go_sem] at hc)
 by_cases h3 : l = []
 · have c3 : ((l.length : Int) == 0) = true:=by simp [h3]
   have hv : fitV a l = (⟨0,[]⟩,0,0,7):=by rw [fitV,if_neg h1,if_neg (by rw [h2]; decide),if_pos h3]
   rw [hv]
   refine zq ?_
   refine zb fun K hK=>?_;simp only [go_sem,c3]
   intros
   refine hK _ ?_;clear hK K;refine zw (zk [1,2,4,30]) ?_;simp only [go_sem]
   refine zc rfl (fun hc=>?_) (fun hc=>?_) <;> (try simp only [go_sem] at hc)
   refine zq ?_
   refine zb fun K hK=>?_;simp only [go_sem];refine hK _ ?_;clear hK K;refine zw (zk [4,5,6,7]) ?_;simp only [go_sem];refine ze ?_;simp only [go_sem]
 have c3 : ((l.length : Int) == 0) = false:=by simpa using h3
 refine zq ?_
 refine zb fun K hK=>?_;simp only [go_sem,c3]
 intros
 refine hK _ ?_;clear hK K;refine zw (zk [1,2,4,30]) ?_;simp only [go_sem]
 refine zc rfl (fun hc=>?_) (fun hc=>?_) <;> (try simp only [go_sem] at hc)
 by_cases h4 : 1000 < l.length
 · have c4 : decide ((1000 : Int) < (l.length : Int)) = true:=by simp; omega
   have hv : fitV a l = (⟨0,[]⟩,0,0,5):=by rw [fitV,if_neg h1,if_neg (by rw [h2]; decide),if_neg h3,if_pos h4]
   rw [hv]
   refine zq ?_
   refine zb fun K hK=>?_;simp only [go_sem,c4]
   intros
   refine hK _ ?_;clear hK K;refine zw (zk [1,2,4,35]) ?_;simp only [go_sem]
   refine zc rfl (fun hc=>?_) (fun hc=>?_) <;> (try simp only [go_sem] at hc)
   refine zq ?_
   refine zb fun K hK=>?_;simp only [go_sem];refine hK _ ?_;clear hK K;refine zw (zk [4,5,6,7]) ?_;simp only [go_sem];refine ze ?_;simp only [go_sem]
 have c4 : decide ((1000 : Int) < (l.length : Int)) = false:=by simp; omega
 refine zq ?_
 refine zb fun K hK=>?_;simp only [go_sem,c4]
 intros
 refine hK _ ?_;clear hK K;refine zw (zk [1,2,4,35]) ?_;simp only [go_sem]
 refine zc rfl (fun hc=>?_) (fun hc=>?_) <;> (try simp only [go_sem] at hc)
 refine zx ?_
 try simp only [go_sem]
 have hV : fitV a l = match runF (a.beds.map (·.b)) zeroT zeroT 0 l with
  | (_,_,some (i,e))=>(⟨0,[]⟩,0,i,e)
  | (le,mo,none)=>(⟨a.at_,(List.range a.beds.length).map (bedAt (a.beds.map (·.b)) le mo)⟩,3 * l.length,0,0):=by
  rw [fitV,if_neg h1,if_neg (by rw [h2]; decide),if_neg h3,if_neg h4]
 have hseq : seqOk none a.beds = true:=by
  simp only [Bool.and_eq_true] at h2
  exact h2.2
 have hle:=seqOk_le hseq
 obtain ⟨bs,hbs⟩ : ∃ bs,bs = a.beds.map (·.b):=⟨_,rfl⟩
 have hbl : bs.length = a.beds.length:=by rw [hbs]; simp
 have hbo : BedsOk bs:=⟨by omega,fun b hb=>by
  rw [hbs] at hb
  obtain ⟨x,hx,rfl⟩:=List.mem_map.1 hb
  exact hle x hx⟩
 rw [← hbs] at hV
 refine zq ?_
 refine zb fun K hK=>?_;simp only [go_sem];refine hK _ ?_;clear hK K;refine zw (zk [1,2,4,9]) ?_;simp only [go_sem]
 repeat refine zq ?_
 refine zb fun K hK=>?_;simp only [go_sem,aimR]
 intros
 refine hK _ ?_;clear hK K;refine zw (zk [1,2,4,9,43,44,45]) ?_;simp only [go_sem];refine zd ?_;refine zw (sub_ownB 41 0 57 60 1 (by omega) (by omega) rfl rfl) ?_
 try simp only [go_sem]
 refine awp_uptoV (n:=115) a.beds.length (fun i vs=>[(1,.r (visR l)),(2,.r (.rp [i64 a.at_,bedsR a.beds])),(4,.pt 4 (vs 4) 0),(9,.pt 41 (vs 41) 0),(43,.r (bedsR a.beds)),(44,.r (i64 a.beds.length)),(45,.r (i64 i))])
  (fun i vs=>[(4,.box [.r (i64 0),.r .ns]),(41,.box (.os 57 (vs 57) 1 0 i :: (tA zeroT ++ tA zeroT))),(57,.arr 60 1 ((bs.take i).map fun x=>[i64 x]))]) (fun _=>True) 0 (zj [8] ?_ ?_) (Nat.zero_le _) trivial ?_
 · try simp only [go_sem]
 · try simp only [go_sem]
   try simp
 · intro i vs hi _
   refine zq ?_
   refine zb fun K hK=>?_;simp only [go_sem];refine hK _ ?_;clear hK K;refine zw (zk [1,2,4,9,43,44,45,46]) ?_;simp only [go_sem]
   refine zq ?_
   refine zc rfl (fun hc=>?_) (fun hc=>?_) <;> (try simp only [go_sem] at hc)
   · have hci:=hc
     obtain ⟨x,hx⟩:=opt_of_lt hci
     have hbx : bs[i]? = some x.b:=by rw [hbs,List.getElem?_map,hx]; rfl
     have htl : (bs.take i).length = i:=by rw [List.length_take]; omega
     refine zx ?_
     try simp only [go_sem]
     refine zq ?_
     refine zd ?_
     refine zq ?_
     refine zb fun K hK=>?_;simp only [go_sem,hx,hci,bedR];refine hK _ ?_;clear hK K;refine zw (zk [1,2,4,9,11,43,44,45]) ?_;simp only [go_sem]
     refine awp_dreg3 [(9,some 41),(11,some 11)] [41,11] follows (by decide +kernel) (by kernel_rfl) (by simp only [keysOk,List.mem_cons,List.not_mem_nil,forall_eq_or_imp,Oc.keyOf,go_sem]; simp) (by intro k hk; simp only [List.mem_cons,List.not_mem_nil,or_false] at hk; first | (subst hk; exact ⟨_,rfl⟩) | (rcases hk with rfl | rfl <;> exact ⟨_,rfl⟩) | (rcases hk with rfl | rfl | rfl <;> exact ⟨_,rfl⟩)) fun K hK=>?_
     simp only [go_sem,htl,List.length_map]
     refine ⟨⟨by omega,by omega⟩,?_⟩
     refine hK _ ?_;clear hK K;refine zw (zk [1,2,4,9,43,44,45]) ?_;simp only [go_sem];refine zb fun K hK=>?_;simp only [go_sem];(try simp (disch:=omega) only [zI]);refine hK _ ?_;clear hK K
     try simp only [go_sem]
     refine ⟨hci,zj [11] ?_ ?_⟩
     · try simp only [go_sem]
     · try simp only [go_sem]
       rw [take_of_opt hbx]
       simp
   · have hil : i = a.beds.length:=by omega
     subst hil
     have etk : bs.take a.beds.length = bs:=by rw [← hbl,List.take_length]
     have etl : List.take a.beds.length (bs.map fun x=>[i64 x]) = bs.map fun x=>[i64 x]:=List.take_of_length_le (by rw [List.length_map]; omega)
     rw [etk]
     refine zf ?_;simp only [go_sem];refine zw (sub_frzB 41 0 57 (by omega) (by omega) rfl rfl rfl (by rw [List.length_map]; omega)) ?_;simp only [go_sem,List.drop_zero,etl,List.set_cons_zero]
     have esh : (AV.r (RV.sl 1 (bs.map fun x=>[i64 x])) :: (tA zeroT ++ tA zeroT)) = shA bs zeroT zeroT:=(shA_eq bs zeroT zeroT).symm
     rw [esh]
     refine zw (zk [1,2,4,9]) ?_;simp only [go_sem]
     repeat refine zq ?_
     refine zb fun K hK=>?_;simp only [go_sem]
     intros
     refine hK _ ?_;clear hK K;refine zw (zk [1,2,4,9,61,62,63]) ?_;simp only [go_sem];refine zd ?_
     refine awp_whileV (n:=115) (fun (y : Nat × List Int × List Int) vs=>[(1,.r (visR l)),(2,.r (.rp [i64 a.at_,bedsR a.beds])),(4,.pt 4 (vs 4) 0),(9,.pt 41 (vs 41) 0),(61,.r (visR l)),(62,.r (i64 l.length)),(63,.r (i64 y.1))])
      (fun y vs=>[(4,.box [.r (i64 0),.r .ns]),(41,.box (shA bs y.2.1 y.2.2))])
      (fun y=>y.1 ≤ l.length ∧ SmallT (3 * (y.1 : Int)) y.2.1 ∧ SmallT (3 * (y.1 : Int)) y.2.2 ∧ runF bs zeroT zeroT 0 l = runF bs y.2.1 y.2.2 y.1 (l.drop y.1)) (fun y=>l.length - y.1) (0,zeroT,zeroT) (zj [] ?_ ?_) ⟨Nat.zero_le _,zeroT_small (by simp),zeroT_small (by simp),rfl⟩ ?_
     · try simp only [go_sem]
     · try simp only [go_sem]
     · rintro ⟨i,le,mo⟩ vs ⟨hi,hs1,hs2,hR⟩
       simp only at hi hs1 hs2 hR
       have hlel:=hs1.1
       have hmol:=hs2.1
       refine zq ?_
       refine zb fun K hK=>?_;simp only [go_sem];refine hK _ ?_;clear hK K;refine zw (zk [1,2,4,9,61,62,63,64]) ?_;simp only [go_sem]
       refine zq ?_
       refine zc rfl (fun hc=>?_) (fun hc=>?_) <;> (try simp only [go_sem] at hc)
       · have hci : i < l.length:=by first | exact hc | omega
         obtain ⟨v,hx⟩:=opt_of_lt hci
         rw [drop_of_opt hx,runF] at hR
         refine zx ?_
         try simp only [go_sem]
         refine zq ?_
         refine zd ?_
         refine zq ?_
         refine zb fun K hK=>?_;simp only [go_sem,hx,hci];refine hK _ ?_;clear hK K;refine zw (zk [1,2,4,9,12,13,61,62,63]) ?_;simp only [go_sem]
         refine zq ?_
         refine zb fun K hK=>?_;simp only [go_sem]
         refine xcall_mut (visit_ok bs le mo v.ds v.n hbo (hs1.mono (by omega)) (hs2.mono (by omega))) [(1000,41)] rfl (by simp only [go_sem,i64,ints,shA_lend,shA_back]) (by simp only [go_sem,i64,ints,shA_lend,shA_back]) (by rfl) (by rfl) ?_
         (try simp only [go_sem,shA_lend,shA_back]);refine hK _ ?_;clear hK K;refine zw (zk [1,2,4,9,12,14,61,62,63]) ?_;simp only [go_sem]
         by_cases hv0 : visitE bs v.ds v.n = 0
         · have c5 : (visitE bs v.ds v.n != 0) = false:=by simp [hv0]
           rw [if_pos hv0] at hR
           refine zq ?_
           refine zb fun K hK=>?_;simp only [go_sem,c5];refine hK _ ?_;clear hK K;refine zw (zk [1,2,4,9,12,14,61,62,63,72]) ?_;simp only [go_sem]
           refine zc rfl (fun hc=>?_) (fun hc=>?_) <;> (try simp only [go_sem] at hc)
           refine zx ?_
           try simp only [go_sem]
           refine zb fun K hK=>?_;simp only [go_sem];(try simp (disch:=omega) only [zI]);refine hK _ ?_;clear hK K
           try simp only [go_sem]
           refine ⟨(i + 1,leV bs le v.ds v.n,moV bs mo v.ds v.n),⟨by omega,?_,?_,hR⟩,by simp only; omega,zj [13] ?_ ?_⟩
           · have:=(leV_small (bs:=bs) (ds:=v.ds) (n:=v.n) hs1).1
             simpa [Int.mul_add] using this
           · have:=moV_small (bs:=bs) (ds:=v.ds) (n:=v.n) hs2
             simpa [Int.mul_add] using this
           · try simp only [go_sem]
           · try simp only [go_sem]
         · have c5 : (visitE bs v.ds v.n != 0) = true:=by simpa using hv0
           rw [if_neg hv0] at hR
           have hv : fitV a l = (⟨0,[]⟩,0,(i : Int),visitE bs v.ds v.n):=by rw [hV,hR]
           rw [hv]
           refine zq ?_
           refine zb fun K hK=>?_;simp only [go_sem,c5];refine hK _ ?_;clear hK K;refine zw (zk [1,2,4,9,12,14,61,62,63,72]) ?_;simp only [go_sem]
           refine zc rfl (fun hc=>?_) (fun hc=>?_) <;> (try simp only [go_sem] at hc)
           refine zq ?_
           refine zb fun K hK=>?_;simp only [go_sem];refine hK _ ?_;clear hK K;refine zw (zk [4,5,6,7]) ?_;simp only [go_sem];refine ze ?_;simp only [go_sem]
       · have hil : i = l.length:=by omega
         subst hil
         rw [List.drop_length,runF] at hR
         have hv : fitV a l = (⟨a.at_,(List.range a.beds.length).map (bedAt bs le mo)⟩,3 * (l.length : Int),0,0):=by rw [hV,hR]
         rw [hv]
         have hll : l.length ≤ 1000:=by omega
         refine zf ?_;simp only [go_sem];refine zw (sub_frzP 9 41 (sheetR bs le mo) (by omega) rfl rfl) ?_
         try simp only [go_sem]
         refine zw (zk [1,2,4,9]) ?_;simp only [go_sem]
         refine zq ?_
         refine zb fun K hK=>?_;simp only [go_sem];refine hK _ ?_;clear hK K;refine zw (zk [1,4,9]) ?_;simp only [go_sem]
         repeat refine zq ?_
         refine zb fun K hK=>?_;simp only [go_sem,hbl]
         intros
         refine hK _ ?_;clear hK K;refine zw (zk [1,4,9,83,84,85]) ?_;simp only [go_sem];refine zd ?_;refine zw (sub_ownB 4 1 108 68 3 (by omega) (by omega) rfl rfl) ?_
         try simp only [go_sem]
         refine awp_uptoV (n:=115) a.beds.length (fun k vs=>[(1,.r (visR l)),(4,.pt 4 (vs 4) 0),(9,.r (.rp (sheetR bs le mo))),(83,.r (ints bs)),(84,.r (i64 a.beds.length)),(85,.r (i64 k))])
          (fun k vs=>[(4,.box [.r (i64 a.at_),.os 108 (vs 108) 3 0 k]),(108,.arr 68 3 (((List.range k).map (bedAt bs le mo)).map bedR))]) (fun _=>True) 0 (zj [13] ?_ ?_) (Nat.zero_le _) trivial ?_
         · try simp only [go_sem]
         · try simp only [go_sem]
           try simp
         · intro k vs hk _
           refine zq ?_
           refine zb fun K hK=>?_;simp only [go_sem];refine hK _ ?_;clear hK K;refine zw (zk [1,4,9,83,84,85,86]) ?_;simp only [go_sem]
           refine zq ?_
           refine zc rfl (fun hc=>?_) (fun hc=>?_) <;> (try simp only [go_sem] at hc)
           · have hck : k < a.beds.length:=by first | exact hc | omega
             have hkb : k < bs.length:=by omega
             obtain ⟨b,hbx⟩:=opt_of_lt hkb
             obtain ⟨x,hxl⟩:=opt_of_lt (l:=le) (i:=k) (by omega)
             obtain ⟨y,hyl⟩:=opt_of_lt (l:=mo) (i:=k) (by omega)
             have hat : bedAt bs le mo k = ⟨b,x,y⟩:=by simp [bedAt,List.getD_eq_getElem?_getD,hbx,hxl,hyl]
             have hrl : ((List.range k).map (bedAt bs le mo)).length = k:=by simp
             have hk10 : (k : Int) < 10:=by omega
             have d1 : List.drop k (tR le ++ tR mo) = i64 x :: List.drop (k + 1) (tR le ++ tR mo):=drop_of_opt (by
              rw [List.getElem?_append_left (by simp; omega)]
              simp [hxl])
             have d0 : List.drop 10 (tR le ++ tR mo) = tR mo:=by
              rw [List.drop_append_of_le_length (by simp; omega),List.drop_of_length_le (by simp; omega),List.nil_append]
             have d2 : List.drop k (tR mo) = i64 y :: List.drop (k + 1) (tR mo):=drop_of_opt (by simp [hyl])
             have hL20 : (tR le ++ tR mo).length = 20:=by simp; omega
             refine zx ?_
             try simp only [go_sem]
             refine zq ?_
             refine zd ?_
             refine zq ?_
             refine zb fun K hK=>?_;simp only [go_sem,hbx,hkb];refine hK _ ?_;clear hK K;refine zw (zk [1,4,9,15,16,83,84,85]) ?_;simp only [go_sem]
             refine awp_dreg3 [(4,some 4),(9,none)] [4] follows (by decide +kernel) (by kernel_rfl) (by simp only [keysOk,List.mem_cons,List.not_mem_nil,forall_eq_or_imp,Oc.keyOf,go_sem]; simp) (by intro k hk; simp only [List.mem_cons,List.not_mem_nil,or_false] at hk; first | (subst hk; exact ⟨_,rfl⟩) | (rcases hk with rfl | rfl <;> exact ⟨_,rfl⟩) | (rcases hk with rfl | rfl | rfl <;> exact ⟨_,rfl⟩)) fun K hK=>?_
             simp only [go_sem,Nat.mul_one,hrl,List.length_map,d0,d1,d2,hL20,List.headD_cons,List.length_cons]
             refine ⟨by omega,by omega,⟨by omega,by omega⟩,?_⟩
             refine hK _ ?_;clear hK K;refine zw (zk [1,4,9,83,84,85]) ?_;simp only [go_sem];refine zb fun K hK=>?_;simp only [go_sem];(try simp (disch:=omega) only [zI]);refine hK _ ?_;clear hK K
             try simp only [go_sem]
             refine ⟨hck,zj [] ?_ ?_⟩
             · try simp only [go_sem]
             · try simp only [go_sem]
               simp [List.range_succ,hat,bedR]
           · have hkl : k = a.beds.length:=by omega
             subst hkl
             have etl2 : List.take a.beds.length (((List.range a.beds.length).map (bedAt bs le mo)).map bedR) = ((List.range a.beds.length).map (bedAt bs le mo)).map bedR:=List.take_of_length_le (by simp)
             refine zf ?_;simp only [go_sem];refine zw (sub_frzB 4 1 108 (by omega) (by omega) rfl rfl rfl (by simp)) ?_;simp only [go_sem,List.drop_zero,etl2,List.set_cons_succ,List.set_cons_zero];refine zw (zk [1,4]) ?_;simp only [go_sem]
             refine zq ?_
             refine zb fun K hK=>?_;simp only [go_sem];(try simp (disch:=omega) only [zI])
             intros
             refine hK _ ?_;clear hK K;refine zw (zk [4,5,6,7]) ?_;simp only [go_sem];refine ze ?_;simp only [go_sem]
             done
end Go.Proofs.Ytgfbenanljjgaaa.Du.Th

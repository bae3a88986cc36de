/- Part 8 of the texts of this claim. -/
import Derived.Test.YtlljkgiomkmjbaaVA7
namespace Go.Oc
open Go Go.RowKit
set_option linter.unusedVariables false
set_option linter.unusedSimpArgs false
def gop (P : Program) (o : Oper) (K : AS → Prop) (s : AS) : Prop :=
 ∀ (C : Ctx) (p : Plan) (a : Act) (w : World), SR C p s a w → (∀ t, o.dst = some t → t < s.n) → (∀ c, o.op ≠ .defer c) → ∀ (KW : Act → World → Prop) (Q : Exit → Act → World → Prop),
   (∀ a' w' p' s',SR C p' s' a' w' → s'.n = s.n → K s' → KW a' w') → o.wpIn (fnc C.rd) 0 P a w KW Q
theorem gop_xopL {P : Program} {o : Oper} {K : AS → Prop} {s : AS} (h : xopL P o K s) : gop P o K s:=fun C p a w hp hd hnd KW Q hK=>xopL_sound hp h hd hK hnd
theorem gop_xop {P : Program} {o : Oper} {K : AS → Prop} {s : AS} (h : xop P false o K s) : gop P o K s:=gop_xopL (.inl h)
section
variable {P : Program} {C : Ctx} {s : AS} {Q : Exit → AS → Prop} {ops : Array Oper}
theorem sops_gop {o : Oper} {l : List Oper} (hg : o.guard = none) (hd : ∀ t,o.dst = some t → t < s.n) (hnd : ∀ c,o.op ≠ .defer c) (h : gop P o (fun s'=>sops P C ops l Q s') s) : sops P C ops (o :: l) Q s:=fun a w ⟨p,hs⟩=>by
 unfold wpListIn
 rw [if_pos (wantA_sound hs (by simp [wantA,hg]))]
 exact h C p a w hs hd hnd _ _ fun a' w' p' s' hs' hn hK=>hK a' w' ⟨p',hs'⟩
theorem app_n' (s : AS) (d : Option Nat) (v : AV) : (s.put d v).n = s.n:=by cases d <;> rfl
theorem gop_copy {o : Oper} {x y : Operand} {t t' : TypeId} {K : AS → Prop} (ho : o.op = .call ⟨.builtin .copy,#[x,y],#[t,t']⟩) {e esz eb : Nat} {ez : List RV} {ssz : Nat} {sagg : Bool} {sz0 : List RV}
 (e1 : tyq P t = some ⟨.slice e esz eb ez,ssz,sagg,sz0⟩) {k n off m : Nat} {es : List (List RV)} (e3 : s.ev x = .os k n esz off m) (e5 : s.rows k = ⟨n,.arr e esz es⟩) {c : Prop} {ns : List (List RV)} (e4 : news? s (s.ev y) = some (c,esz,ns)) (hc : c)
 (hfit : off + m ≤ es.length) (h0 : 0 < m) (h1 : ns ≠ []) (hK : K (AS.put { s with rows:=upd s.rows k ⟨n,.arr e esz (es.take off ++ (ns.take (min ns.length m) ++ es.drop (off + min ns.length m)))⟩ } o.dst (.r (.it .i64 (min ns.length m : Nat))))) : gop P o K s:=by
 intro C p a w h hd hnd KW Q hKW
 have hn2 : n = (s.rows k).ver:=by rw [e5]
 obtain ⟨hu,hok,hco,hby,zv,hzv,hez⟩:=tyq_slice e1
 obtain ⟨B,cB,hyv,hne⟩:=news_rel h e4 hc (.inl rfl)
 obtain ⟨ad,us,hB,hlu,hget,hV,h1u,hl⟩:=hne h1
 subst hB
 obtain ⟨q,hq⟩ : ∃ q,q = min ns.length m:=⟨_,rfl⟩
 have hqn : (ns.take q).length = q:=by rw [List.length_take]; omega
 rcases ev_os h e3 hn2 with ⟨_,_,_,rfl,A,hv⟩ | ⟨b,A,hβ,hv,hle2,hA⟩
 · omega
 · obtain rfl:=hA (.inl h0)
   have hcl : (us.take (q * esz)).length = q * esz:=by
    rw [List.length_take,hlu]
    have : q * esz ≤ ns.length * esz:=Nat.mul_le_mul_right _ (by omega)
    omega
   obtain ⟨cells,hh,hf,hset⟩:=set_row (m:=off) (ns:=ns.take q) (vs:=us.take (q * esz)) h (by rw [e5]) hβ (by rw [hqn]; omega) (by rw [hqn]; exact hcl) (fun x hx=>hl x (List.mem_of_mem_take hx)) (by
    rw [flatten_take_of q hl]
    exact RV.relV_take _ hV) (fun u hu=>h1u u (List.mem_of_mem_take hu))
   have hst:=run_storeCells_at P b (off * esz) e (us.take (q * esz)) 0 cells w hh (by simpa using hf) (fun x hx=>h1u x (List.mem_of_mem_take hx))
   have hld:=run_loadCells_list (P:=P) w ad (us.take (q * esz)) (fun j v hj=>by
    rw [List.getElem?_take] at hj
    split at hj
    · exact hget j v hj
    · cases hj)
   rw [hcl] at hld
   rw [hqn] at hset
   have hrun : (Builtin.copy_ #[t,t'] o.type #[.slice (some ⟨b,off * esz,none⟩) m (p.γ k - off),.slice (some ad) ns.length cB]).run P w = .ok (goInt q) (w.setRow b (cells.toList.take (off * esz) ++ us.take (q * esz) ++ cells.toList.drop (off * esz + (us.take (q * esz)).length)).toArray):=by
    simp only [Nat.add_zero] at hst
    have hmn : Nat.min ns.length m = q:=hq.symm
    simp [Builtin.copy_,run_underlying hu,Builtin.lenOf,Builtin.firstCells,run_sizeOf_ok hok,hco,hmn,hld,hst]
   have hr2 : (execOp a.eval o).run P w = .ok (.value (goInt q)) (w.setRow b (cells.toList.take (off * esz) ++ us.take (q * esz) ++ cells.toList.drop (off * esz + (us.take (q * esz)).length)).toArray) :=
    run_builtin_of ho (by simp only [builtin,Sem.run_bind,List.map_toArray,List.map_cons,List.map_nil,hv,hyv,hrun,Result.andThen_ok,Sem.run_pure])
   refine wpIn_of_wp hnd ?_
   unfold Oper.wp
   rw [hr2]
   have hn3 : (s.rows k).ver = n:=hn2.symm
   rw [hn3] at hset
   rw [← hq] at hK
   have hput:=hset.put' (d:=o.dst) (av:=.r (.it .i64 (q : Nat))) (v:=goInt q) (by simp only [AV.rel,RV.rel,goInt]) hd
   exact hKW _ _ p _ hput (app_n' _ _ _) hK
theorem gop_strIndex {o : Oper} {x i : Operand} {t : TypeId} {K : AS → Prop} (ho : o.op = .index t x i) {str : ByteArray} {k : IntKind} {j : Int} {b : UInt8} (hx : s.ev x = .r (.st str)) (hi : s.ev i = .r (.it k j)) (hu : P.underlying t = some .string) (h0 : 0 ≤ j) (hb : str[j.toNat]? = some b)
 (hK : K (s.put o.dst (.r (.it .u8 b.toNat)))) : gop P o K s:=by
 intro C p a w h hd hnd KW Q hKW
 have hxv : a.eval x = .string str:=by
  have:=h.ev x
  rw [hx] at this
  simpa only [AV.rel,RV.rel] using this
 have hiv:=ev_it h hi
 have hr : (execOp a.eval o).run P w = .ok (.value (.int .u8 b.toNat)) w:=by
  simp [execOp,ho,hxv,hiv,Instr.index,asIntOf,run_underlying hu,h0,hb]
 refine wpIn_of_wp hnd ?_
 unfold Oper.wp
 rw [hr]
 have hput:=h.put' (d:=o.dst) (av:=.r (.it .u8 b.toNat)) (v:=.int .u8 b.toNat) (by simp only [AV.rel,RV.rel]) hd
 exact hKW _ _ p _ hput (by cases o.dst <;> rfl) hK
end
section
variable {P : Program} {s : AS}
theorem gop_ycall {o : Oper} {K : AS → Prop} {f : Operand} {args : Array Operand} {ts : Array TypeId} {F : FuncId} {cs : List AV} {ar : Nat → List RV} {xs rest : List (List RV)} {ll : Nat} (ho : o.op = .call ⟨.value f,args,ts⟩)
 (hF : callee? (s.ev f) = some (F,cs)) (hrow : (s.rows 999).c = .gh P ll false (some (xs ++ rest))) (hpu : AV.pureL (args.toList.map s.ev ++ cs) = true) (hle : RV.leL (snapVL s.rows (args.toList.map s.ev ++ cs)) (ar ll)) (hY : YCalls P F ar xs)
 (h1 : K ((s.row 999 ⟨(s.rows 999).ver,.gh P ll false (some rest)⟩).put o.dst (.r (.bo true)))) (h2 : K ((s.row 999 ⟨(s.rows 999).ver,.gh P ll false none⟩).put o.dst (.r (.bo false)))) :
 gop P o K s:=by
 intro C p a w hs hd hnd KW Q hKW
 refine wpIn_of_wp hnd ?_
 obtain ⟨vs,hfv,hcs⟩:=callee_eval hs hF
 have hargs:=relV_ev hs args.toList
 have hall:=AV.relV_append hargs hcs
 have hlist : (args.map a.eval ++ vs).toList = args.toList.map a.eval ++ vs.toList:=by simp
 rw [← hlist] at hall
 have hV:=le_relV _ _ _ hle (pure_relV (rows:=s.rows) _ _ hpu hall)
 have hr:=hs.rw 999
 rw [hrow] at hr
 simp only [rowRel] at hr
 obtain ⟨_,hβ,hγ,hl,hz,hYo,hX⟩:=hr
 have hrun : (execOp a.eval o).run P w = .ok (.enter F (args.map a.eval ++ vs)) w:=by
  simp only [execOp,ho,Sem.run_bind,resolve,hfv,Deferred.ofValue,Sem.run_pure,Result.andThen_ok,invoke]
  simpa using run_callFunc hY.1 (args.map a.eval ++ vs) w
 unfold Oper.wp
 rw [hrun,Oper.upon_enter]
 have hzX : p.X.z = false:=hz
 refine (hY.2 rest w p.R _ p.X p.Ψ p.Θ hs.rb (by rw [hl]; exact hV) hzX (fun b hb=>?_) ?_ hYo hs.ex.ψl hs.ex.θl hs.ex.ψr hX).mono ?_
 · rw [hs.ex.px]
   have hz' : C.X.z = false:=by rw [← hs.ex.px]; exact hz
   rcases hs.rn b hb with g | g | g
   · exact .inl (hs.ex.ψ0 hz' b g)
   · exact .inr (Nat.le_trans hs.ex.n0 g)
   · exact .inr (hs.ex.ψo b g)
 · rw [hs.ex.px]; exact Nat.le_trans hs.ex.n0 hs.base.size
 rintro e w' ⟨g1,g2,g3,g4,g5,Ψ',Θ',g6,g7,g8,g9,g10⟩
 rcases g10 with ⟨rfl,hX'⟩ | ⟨rfl,hX'⟩
 · have hS:=hs.yielded hrow g1 g2 g3 g4 g5 (fun _ h=>h) g6 g7 g8 g9 hs.ex.px hX'
   have hput:=hS.put' (d:=o.dst) (av:=.r (.bo true)) (v:=.bool true) (by simp only [AV.rel,RV.rel]) hd
   exact hKW _ _ _ _ hput (app_n' _ _ _) h1
 · have hS:=hs.yielded hrow g1 g2 g3 g4 g5 (fun _ h=>h) g6 g7 g8 g9 hs.ex.px hX'
   have hput:=hS.put' (d:=o.dst) (av:=.r (.bo false)) (v:=.bool false) (by simp only [AV.rel,RV.rel]) hd
   exact hKW _ _ _ _ hput (app_n' _ _ _) h2
theorem gop_clip {P : Program} {s : AS} {o : Oper} {x hi mx : Operand} {t : TypeId} {K : AS → Prop} (ho : o.op = .slice t x none (some hi) (some mx)) {e esz eb : Nat} {ez : List RV} {ssz : Nat} {sagg : Bool} {sz0 : List RV} (e1 : tyq P t = some ⟨.slice e esz eb ez,ssz,sagg,sz0⟩)
 {sz : Nat} {es : List (List RV)} (hx : s.ev x = .r (.sl sz es)) {k1 k2 : IntKind} (hh : s.ev hi = .r (.it k1 (es.length : Int))) (hm : s.ev mx = .r (.it k2 (es.length : Int))) (hK : K (s.put o.dst (.r (if es = [] then .ns else .sx sz es)))) : gop P o K s:=by
 intro C p a w h hd hnd KW Q hKW
 obtain ⟨hu,hok,hsz,_,_⟩:=tyq_slice e1
 obtain ⟨A,c,hv,hc1,hc2,hne⟩:=ev_sl h hx
 have hr0:=run_cut3 (P:=P) (w:=w) hu hok (A:=A) (len:=es.length) (cap:=c) (kh:=k1) (km:=k2) (lo:=none) (l:=0) (q:=es.length) (m:=es.length) (.inl ⟨rfl,rfl⟩) (Nat.zero_le _) (Nat.le_refl _) hc1
 have hr : (execOp a.eval o).run P w = .ok (.value (.slice (if es.length = 0 then A else A.map (·.add (0 * P.cellsOf e))) (es.length - 0) (es.length - 0))) w:=by
  simp only [execOp,ho,Sem.run_bind,hv,Option.map_none,Option.map_some,ev_it h hh,ev_it h hm,hr0,Result.andThen_ok,Sem.run_pure]
 have hrel : (AV.r (if es = [] then .ns else .sx sz es)).rel w p s.ver (.slice (if es.length = 0 then A else A.map (·.add (0 * P.cellsOf e))) (es.length - 0) (es.length - 0)):=by
  simp only [AV.rel]
  by_cases h0 : es = []
  · subst h0
    simp only [if_true,RV.rel,List.length_nil,Nat.sub_zero];exact ⟨_,rfl⟩
  · obtain ⟨ad,rfl,hR,hE⟩:=hne h0
    have hl : ¬ es.length = 0:=fun e=>h0 (List.length_eq_zero_iff.1 e)
    simp only [if_neg h0,if_neg hl,RV.rel,Nat.sub_zero,Nat.zero_mul,Option.map_some];exact ⟨ad,rfl,h0,Nat.le_trans hc1 hc2,hR,hE⟩
 refine wpIn_of_wp hnd ?_
 unfold Oper.wp
 rw [hr]
 exact hKW _ _ p _ (h.put' hrel hd) (app_n' _ _ _) hK
end
def stepAllG (P : Program) (ops : Array Oper) (n : Nat) (F : (Nat → Bool) → (Nat → Nat) → List (Nat × AV)) (R : (Nat → Bool) → (Nat → Nat) → List (Nat × RowC)) : Nat → List Oper → Prop
 | _,[]=>True
 | k,o :: rest=>(∀ b vs,(∀ j e,j < ops.size → (deps ops j).contains e = true → b j = true → b e = true) → b k = false → (∀ e ∈ deps ops k,b e = true) →
  gop P o (FitV n (F (upd b k true)) (R (upd b k true))) (st n (F b vs) vs (R b vs))) ∧ stepAllG P ops n F R (k + 1) rest
theorem stepAllG_get {P : Program} {ops : Array Oper} {n : Nat} {F : (Nat → Bool) → (Nat → Nat) → List (Nat × AV)} {R : (Nat → Bool) → (Nat → Nat) → List (Nat × RowC)} : ∀ {l : List Oper} {k i : Nat} {o : Oper},stepAllG P ops n F R k l → l[i]? = some o →
 ∀ b vs, (∀ j e, j < ops.size → (deps ops j).contains e = true → b j = true → b e = true) → b (k + i) = false → (∀ e ∈ deps ops (k + i), b e = true) →
   gop P o (FitV n (F (upd b (k + i) true)) (R (upd b (k + i) true))) (st n (F b vs) vs (R b vs))
 | [],_,_,_,_,h=>by simp at h
 | x :: l, k, 0, o, hs, h => by
   simp only [List.getElem?_cons_zero,Option.some.injEq] at h
   subst h
   exact hs.1
 | x :: l, k, i + 1, o, hs, h => by
   have:=stepAllG_get (k:=k + 1) (i:=i) hs.2 (by simpa using h)
   rwa [show k + 1 + i = k + (i + 1) by omega] at this
section
variable {P : Program} {C : Ctx} {s : AS} {a : Act} {w : World} {ops : Array Oper}
theorem inv_anyG {Q : AS → Prop} {Q' : Exit → Act → World → Prop} (hQ : ∀ s a w,Q s → SRel C s a w → Q' .normal a w) {n : Nat} {F : (Nat → Bool) → (Nat → Nat) → List (Nat × AV)} {R : (Nat → Bool) → (Nat → Nat) → List (Nat × RowC)}
 (hd : dstOk ops n = true) (hg : ops.all (fun o=>o.guard.isNone) = true) (hu : upOk ops = true) (hstep : stepAllG P ops n F R 0 ops.toList)
 (hend : ∀ b vs,(∀ j,b j = true) → Q (st n (F b vs) vs (R b vs))) :
 ∀ (fuel : Nat) (vs : Nat → Nat) (listed : Array Bool) (a : Act) (w : World), listed.size = ops.size → down ops listed → unl listed ops.size ≤ fuel → SRel C (st n (F (fun j => listed.getD j true) vs) vs (R (fun j => listed.getD j true) vs)) a w →
   wpAnyIn (fnc C.rd) 0 P .any ops Q' fuel listed a w:=by
 have all : ∀ {listed : Array Bool},listed.size = ops.size → (∀ j,j < ops.size → listed.getD j true = true) → ∀ j,(fun j=>listed.getD j true) j = true:=fun {listed} hsz h j=>by
  by_cases hj : j < ops.size
  · exact h j hj
  · show listed.getD j true = true
    have : ¬ j < listed.size:=by omega
    simp [this]
 intro fuel
 induction fuel with
 | zero =>
   intro vs listed a w hsz hdn hf hs
   have h0:=unl_zero (listed:=listed) ops.size (by omega)
   refine ⟨List.eq_nil_iff_forall_not_mem.2 fun j hj=>?_,hQ _ _ _ (hend _ _ (all hsz h0)) hs⟩
   obtain ⟨h1,o,ho,_⟩:=mem_ready.1 hj
   have:=h0 j (Array.getElem?_eq_some_iff.1 ho).1
   rw [this] at h1
   cases h1
 | succ fuel ih =>
   intro vs listed a w hsz hdn hf hs
   refine ⟨fun h0=>hQ _ _ _ (hend _ _ (all hsz (ready_nil hu h0 hsz))) hs,fun i hi=>?_⟩
   obtain ⟨hi1,o,ho,hall⟩:=mem_ready.1 hi
   unfold wpOpIn
   rw [ho]
   simp only
   have hil : i < ops.size:=(Array.getElem?_eq_some_iff.1 ho).1
   have hgo : o.guard = none:=by
    have:=Array.all_eq_true_iff_forall_mem.1 hg o (Array.mem_of_getElem? ho)
    simpa using this
   obtain ⟨p,hp⟩:=hs
   rw [if_pos (wantA_sound hp (by simp [wantA,hgo]))]
   have hx:=stepAllG_get (k:=0) (i:=i) hstep (by rw [Array.getElem?_toList]; exact ho) (fun j=>listed.getD j true) vs (fun j e hj he hb=>?_) (by rw [Nat.zero_add]; exact hi1) (fun e he=>?_)
   · rw [Nat.zero_add] at hx
     refine hx C _ _ _ hp (dstOk_get hd ho) (dstOk_nd hd ho) _ _ (fun a' w' p' s' hs' hn hK=>?_)
     obtain ⟨vs',hsub⟩:=hK
     have e : upd (fun j=>listed.getD j true) i true = fun j=>(listed.setIfInBounds i true).getD j true:=by
      funext j
      rw [getD_setT]
      rfl
     rw [e] at hsub
     exact ih vs' _ a' w' (by simpa using hsz) (down_set hdn hi) (by have:=unl_set hi1 ops.size hil; omega) (hsub C a' w' ⟨p',hs'⟩)
   · have hjs : j < listed.size:=by omega
     have hb' : listed.getD j true = true:=hb
     have h2:=hdn j (by simpa [hjs] using hb') e (by simpa using he)
     show listed.getD e true = true
     by_cases hes : e < listed.size
     · simpa [hes] using h2
     · simp [hes]
   · have h2:=ready_deps hi e (by simpa using he)
     show listed.getD e true = true
     by_cases hes : e < listed.size
     · simpa [hes] using h2
     · simp [hes]
end
theorem awp_invG {P : Program} {C : Ctx} {id : Nat} {l : List Oper} {n : Nat} {Q : Exit → AS → Prop} {s : AS} (F : (Nat → Bool) → (Nat → Nat) → List (Nat × AV)) (R : (Nat → Bool) → (Nat → Nat) → List (Nat × RowC)) (hm : P.follows .mixedOrders = true)
 (hd : dstOk l.toArray n = true) (hg : l.toArray.all (fun o=>o.guard.isNone) = true) (hu : upOk l.toArray = true) (h0 : FitV n (F fun j=>decide (l.length ≤ j)) (R fun j=>decide (l.length ≤ j)) s)
 (hstep : stepAllG P l.toArray n F R 0 l) (hend : ∀ b vs,(∀ j,b j = true) → Q .normal (st n (F b vs) vs (R b vs))) : awp P C (.region id l.toArray true) Q s:=fun a w hs=>by
 obtain ⟨vs,hsub⟩:=h0
 obtain ⟨p,hp⟩:=hsub C a w hs
 have hs' : SR C p _ a { w with drawn:=w.drawn + 1 }:=hp.below (w':=w.drew) ((Below.refl _ _).drew) (fun _ h=>h) (fun _ h=>.inl h) hp.rb
 refine wpIn_region_any hm ?_
 have e : (fun j=>(Array.replicate l.toArray.size false).getD j true) = fun j=>decide (l.length ≤ j):=by
  funext j
  by_cases h : j < l.length
  · have : ¬ l.length ≤ j:=by omega
    simp [h,this]
  · have : l.length ≤ j:=by omega
    simp [h,this]
 refine inv_anyG (Q:=fun s=>Q .normal s) (n:=n) (F:=F) (R:=R) (fun s a w hq hs=>⟨s,hs,hq⟩) hd hg hu (by simpa using hstep) hend _ vs _ _ _ (by simp) (fun j hj=>?_) ?_ ?_
 · exfalso
   simp only [Array.getD_eq_getD_getElem?,Array.getElem?_replicate] at hj
   split at hj <;> simp at hj
 · have : ∀ m,unl (Array.replicate l.toArray.size false) m ≤ m:=by
    intro m
    induction m with
    | zero=>exact Nat.le_refl _
    | succ m ih=>simp only [unl]; split <;> omega
   exact this _
 · rw [e]
   exact ⟨p,hs'⟩
def stepAllZ {α : Type} (P : Program) (ops : Array Oper) (n : Nat) (F : (Nat → Bool) → α → (Nat → Nat) → List (Nat × AV)) (R : (Nat → Bool) → α → (Nat → Nat) → List (Nat × RowC)) : Nat → List Oper → Prop
 | _,[]=>True
 | k,o :: rest=>(∀ b z vs,(∀ j e,j < ops.size → (deps ops j).contains e = true → b j = true → b e = true) → b k = false → (∀ e ∈ deps ops k,b e = true) →
  gop P o (fun s'=>∃ z',FitV n (F (upd b k true) z') (R (upd b k true) z') s') (st n (F b z vs) vs (R b z vs))) ∧ stepAllZ P ops n F R (k + 1) rest
theorem stepAllZ_get {P : Program} {ops : Array Oper} {n : Nat} {α : Type} {F : (Nat → Bool) → α → (Nat → Nat) → List (Nat × AV)} {R : (Nat → Bool) → α → (Nat → Nat) → List (Nat × RowC)} : ∀ {l : List Oper} {k i : Nat} {o : Oper},stepAllZ P ops n F R k l → l[i]? = some o →
 ∀ b z vs, (∀ j e, j < ops.size → (deps ops j).contains e = true → b j = true → b e = true) → b (k + i) = false → (∀ e ∈ deps ops (k + i), b e = true) →
   gop P o (fun s'=>∃ z',FitV n (F (upd b (k + i) true) z') (R (upd b (k + i) true) z') s') (st n (F b z vs) vs (R b z vs))
 | [],_,_,_,_,h=>by simp at h
 | x :: l, k, 0, o, hs, h => by
   simp only [List.getElem?_cons_zero,Option.some.injEq] at h
   subst h
   exact hs.1
 | x :: l, k, i + 1, o, hs, h => by
   have:=stepAllZ_get (k:=k + 1) (i:=i) hs.2 (by simpa using h)
   rwa [show k + 1 + i = k + (i + 1) by omega] at this
section
variable {P : Program} {C : Ctx} {s : AS} {a : Act} {w : World} {ops : Array Oper}
theorem inv_anyZ {Q : AS → Prop} {Q' : Exit → Act → World → Prop} (hQ : ∀ s a w,Q s → SRel C s a w → Q' .normal a w) {n : Nat} {α : Type} {F : (Nat → Bool) → α → (Nat → Nat) → List (Nat × AV)} {R : (Nat → Bool) → α → (Nat → Nat) → List (Nat × RowC)}
 (hd : dstOk ops n = true) (hg : ops.all (fun o=>o.guard.isNone) = true) (hu : upOk ops = true) (hstep : stepAllZ P ops n F R 0 ops.toList)
 (hend : ∀ b z vs,(∀ j,b j = true) → Q (st n (F b z vs) vs (R b z vs))) :
 ∀ (fuel : Nat) (z : α) (vs : Nat → Nat) (listed : Array Bool) (a : Act) (w : World), listed.size = ops.size → down ops listed → unl listed ops.size ≤ fuel → SRel C (st n (F (fun j => listed.getD j true) z vs) vs (R (fun j => listed.getD j true) z vs)) a w →
   wpAnyIn (fnc C.rd) 0 P .any ops Q' fuel listed a w:=by
 have all : ∀ {listed : Array Bool},listed.size = ops.size → (∀ j,j < ops.size → listed.getD j true = true) → ∀ j,(fun j=>listed.getD j true) j = true:=fun {listed} hsz h j=>by
  by_cases hj : j < ops.size
  · exact h j hj
  · show listed.getD j true = true
    have : ¬ j < listed.size:=by omega
    simp [this]
 intro fuel
 induction fuel with
 | zero =>
   intro z vs listed a w hsz hdn hf hs
   have h0:=unl_zero (listed:=listed) ops.size (by omega)
   refine ⟨List.eq_nil_iff_forall_not_mem.2 fun j hj=>?_,hQ _ _ _ (hend _ _ _ (all hsz h0)) hs⟩
   obtain ⟨h1,o,ho,_⟩:=mem_ready.1 hj
   have:=h0 j (Array.getElem?_eq_some_iff.1 ho).1
   rw [this] at h1
   cases h1
 | succ fuel ih =>
   intro z vs listed a w hsz hdn hf hs
   refine ⟨fun h0=>hQ _ _ _ (hend _ _ _ (all hsz (ready_nil hu h0 hsz))) hs,fun i hi=>?_⟩
   obtain ⟨hi1,o,ho,hall⟩:=mem_ready.1 hi
   unfold wpOpIn
   rw [ho]
   simp only
   have hil : i < ops.size:=(Array.getElem?_eq_some_iff.1 ho).1
   have hgo : o.guard = none:=by
    have:=Array.all_eq_true_iff_forall_mem.1 hg o (Array.mem_of_getElem? ho)
    simpa using this
   obtain ⟨p,hp⟩:=hs
   rw [if_pos (wantA_sound hp (by simp [wantA,hgo]))]
   have hx:=stepAllZ_get (k:=0) (i:=i) hstep (by rw [Array.getElem?_toList]; exact ho) (fun j=>listed.getD j true) z vs (fun j e hj he hb=>?_) (by rw [Nat.zero_add]; exact hi1) (fun e he=>?_)
   · rw [Nat.zero_add] at hx
     refine hx C _ _ _ hp (dstOk_get hd ho) (dstOk_nd hd ho) _ _ (fun a' w' p' s' hs' hn hK=>?_)
     obtain ⟨z',vs',hsub⟩:=hK
     have e : upd (fun j=>listed.getD j true) i true = fun j=>(listed.setIfInBounds i true).getD j true:=by
      funext j
      rw [getD_setT]
      rfl
     rw [e] at hsub
     exact ih z' vs' _ a' w' (by simpa using hsz) (down_set hdn hi) (by have:=unl_set hi1 ops.size hil; omega) (hsub C a' w' ⟨p',hs'⟩)
   · have hjs : j < listed.size:=by omega
     have hb' : listed.getD j true = true:=hb
     have h2:=hdn j (by simpa [hjs] using hb') e (by simpa using he)
     show listed.getD e true = true
     by_cases hes : e < listed.size
     · simpa [hes] using h2
     · simp [hes]
   · have h2:=ready_deps hi e (by simpa using he)
     show listed.getD e true = true
     by_cases hes : e < listed.size
     · simpa [hes] using h2
     · simp [hes]
end
theorem awp_invZ {P : Program} {C : Ctx} {id : Nat} {l : List Oper} {n : Nat} {Q : Exit → AS → Prop} {s : AS} {α : Type} (F : (Nat → Bool) → α → (Nat → Nat) → List (Nat × AV)) (R : (Nat → Bool) → α → (Nat → Nat) → List (Nat × RowC)) (hm : P.follows .mixedOrders = true)
 (hd : dstOk l.toArray n = true) (hg : l.toArray.all (fun o=>o.guard.isNone) = true) (hu : upOk l.toArray = true) (z0 : α) (h0 : FitV n (F (fun j=>decide (l.length ≤ j)) z0) (R (fun j=>decide (l.length ≤ j)) z0) s)
 (hstep : stepAllZ P l.toArray n F R 0 l) (hend : ∀ b z vs,(∀ j,b j = true) → Q .normal (st n (F b z vs) vs (R b z vs))) : awp P C (.region id l.toArray true) Q s:=fun a w hs=>by
 obtain ⟨vs,hsub⟩:=h0
 obtain ⟨p,hp⟩:=hsub C a w hs
 have hs' : SR C p _ a { w with drawn:=w.drawn + 1 }:=hp.below (w':=w.drew) ((Below.refl _ _).drew) (fun _ h=>h) (fun _ h=>.inl h) hp.rb
 refine wpIn_region_any hm ?_
 have e : (fun j=>(Array.replicate l.toArray.size false).getD j true) = fun j=>decide (l.length ≤ j):=by
  funext j
  by_cases h : j < l.length
  · have : ¬ l.length ≤ j:=by omega
    simp [h,this]
  · have : l.length ≤ j:=by omega
    simp [h,this]
 refine inv_anyZ (Q:=fun s=>Q .normal s) (n:=n) (F:=F) (R:=R) (fun s a w hq hs=>⟨s,hs,hq⟩) hd hg hu (by simpa using hstep) hend _ z0 vs _ _ _ (by simp) (fun j hj=>?_) ?_ ?_
 · exfalso
   simp only [Array.getD_eq_getD_getElem?,Array.getElem?_replicate] at hj
   split at hj <;> simp at hj
 · have : ∀ m,unl (Array.replicate l.toArray.size false) m ≤ m:=by
    intro m
    induction m with
    | zero=>exact Nat.le_refl _
    | succ m ih=>simp only [unl]; split <;> omega
   exact this _
 · rw [e]
   exact ⟨p,hs'⟩
end Go.Oc

namespace Go.Proofs.Ytlljkgiomkmjbaa.Tb
open Go Go.Oc
set_option linter.unusedSimpArgs false
set_option linter.unusedVariables false
set_option maxRecDepth 8000
set_option maxHeartbeats 2000000
def insB (lt : Rw → Rw → Bool) (x : Rw) : List Rw → List Rw
 | []=>[x]
 | y :: ys=>if lt x y then y :: insB lt x ys else x :: y :: ys
def sortB (lt : Rw → Rw → Bool) : List Rw → List Rw → List Rw
 | [],R=>R
 | x :: xs,R=>sortB lt xs (insB lt x R)
def sortN (lt : Rw → Rw → Bool) (l : List Rw) : List Rw:=(sortB lt l []).reverse
theorem insB_len (lt : Rw → Rw → Bool) (x : Rw) : ∀ R,(insB lt x R).length = R.length + 1
 | []=>rfl
 | y :: R => by
   unfold insB
   split
   · simp [insB_len lt x R]
   · rfl
theorem insB_skip (lt : Rw → Rw → Bool) (x : Rw) : ∀ (R : List Rw) (k : Nat),(∀ y ∈ R.take k,lt x y = true) → insB lt x R = R.take k ++ insB lt x (R.drop k)
 | R,0,_=>by simp
 | [],k + 1,_=>by simp
 | y :: R, k + 1, h => by
   have hy : lt x y = true:=h y (by simp)
   have ih:=insB_skip lt x R k fun z hz=>h z (by simp [hz])
   simp only [List.take_succ_cons,List.drop_succ_cons,List.cons_append];rw [← ih]
   simp [insB,hy]
theorem sortB_snoc (lt : Rw → Rw → Bool) : ∀ (l : List Rw) (x : Rw) (R : List Rw),sortB lt (l ++ [x]) R = insB lt x (sortB lt l R)
 | [],_,_=>rfl
 | y :: l,x,R=>by simp only [List.cons_append,sortB]; exact sortB_snoc lt l x _
theorem sortB_len (lt : Rw → Rw → Bool) : ∀ (l R : List Rw),(sortB lt l R).length = l.length + R.length
 | [],R=>by simp [sortB]
 | x :: l,R=>by simp only [sortB]; rw [sortB_len lt l,insB_len]; simp; omega
theorem mem_insB (lt : Rw → Rw → Bool) (x z : Rw) : ∀ R,z ∈ insB lt x R ↔ z = x ∨ z ∈ R
 | []=>by simp [insB]
 | y :: R => by
   unfold insB
   split
   · simp only [List.mem_cons,mem_insB lt x z R]
     constructor
     · rintro (h | h | h) <;> simp [h]
     · rintro (h | h | h) <;> simp [h]
   · simp
theorem mem_sortB (lt : Rw → Rw → Bool) (z : Rw) : ∀ l R,z ∈ sortB lt l R ↔ z ∈ l ∨ z ∈ R
 | [],R=>by simp [sortB]
 | x :: l, R => by
   simp only [sortB];rw [mem_sortB lt z l,mem_insB]
   simp only [List.mem_cons]
   constructor
   · rintro (h | h | h) <;> simp [h]
   · rintro ((h | h) | h) <;> simp [h]
def holeL (R : List Rw) (x : Rw) (k : Nat) (rest : List Rw) : List Rw:=(R.drop k).reverse ++ x :: ((R.take k).reverse ++ rest)
theorem hole_len (R : List Rw) (x : Rw) (k : Nat) (rest : List Rw) (hk : k ≤ R.length) : (holeL R x k rest).length = R.length + 1 + rest.length:=by
 simp [holeL]; omega
theorem hole_at (R : List Rw) (x : Rw) (k : Nat) (rest : List Rw) (hk : k ≤ R.length) : (holeL R x k rest)[R.length - k]? = some x:=by
 unfold holeL
 rw [List.getElem?_append_right (by simp)]
 simp
theorem hole_next {R : List Rw} {x y : Rw} {k : Nat} {rest : List Rw} (hy : R[k]? = some y) : (holeL R x k rest)[R.length - k - 1]? = some y ∧ (holeL R x k rest) = (R.drop (k + 1)).reverse ++ y :: x :: ((R.take k).reverse ++ rest) ∧ holeL R x (k + 1) rest = (R.drop (k + 1)).reverse ++ x :: y :: ((R.take k).reverse ++ rest):=by
 have hk:=(List.getElem?_eq_some_iff.1 hy).1
 have hd:=drop_of_opt hy
 have ht:=take_of_opt hy
 have e1 : (holeL R x k rest) = (R.drop (k + 1)).reverse ++ y :: x :: ((R.take k).reverse ++ rest):=by
  unfold holeL; rw [hd]; simp
 refine ⟨?_,e1,by unfold holeL; rw [ht]; simp⟩
 rw [e1,List.getElem?_append_right (by simp; omega)]
 have : R.length - k - 1 - (R.drop (k + 1)).reverse.length = 0:=by simp; omega
 rw [this]; rfl
theorem hole_swap {α : Type} (g : Rw → α) {R : List Rw} {x y : Rw} {k : Nat} {rest : List Rw} (hy : R[k]? = some y) :
 (((holeL R x k rest).map g).set (R.length - k) (g y)).set (R.length - k - 1) (g x) = (holeL R x (k + 1) rest).map g:=by
 obtain ⟨_,e1,e2⟩:=hole_next (x:=x) (rest:=rest) hy
 have hk:=(List.getElem?_eq_some_iff.1 hy).1
 rw [e1,e2,← List.map_set,← List.map_set]
 congr 1
 have hl : (R.drop (k + 1)).reverse.length = R.length - k - 1:=by simp; omega
 generalize (R.drop (k + 1)).reverse = A at hl
 generalize (R.take k).reverse ++ rest = B
 have e3 : R.length - k = A.length + 1:=by omega
 rw [e3,Nat.add_sub_cancel]
 rw [List.set_append_right _ _ (by omega)]
 simp only [Nat.add_sub_cancel_left,List.set_cons_succ,List.set_cons_zero];rw [List.set_append_right _ _ (by omega)]
 simp
theorem lent_put {vs : Nat → Nat} {k : Nat} (h : Lent vs) : Lent (upd vs k 0):=fun j hj=>by
 unfold upd; split
 · rfl
 · exact h j hj
theorem insertion_ok (lt : Rw → Rw → Bool) (c : Rw → Rw → Int) (f : Nat) (caps : List RV) (l : List Rw) (hl : l.length ≤ 1000) (hlt : ∀ x y,lt x y = decide (c x y < 0))
 (hcc : ∀ x ∈ l,∀ y ∈ l,ACalls Try.prog f (.ag (rwR x) :: .ag (rwR y) :: caps) (i64 (c x y))) :
 MCalls Try.prog 197 [(1000,.arr 125 8 (l.map rwR))] [(1000,.arr 125 8 ((sortN lt l).map rwR))] [.os 1000 0 8 0 l.length,.r (i64 0),.r (i64 l.length),.r (.fn f caps)] (.tu []):=by
 refine mcalls_st (n:=53) (rs:=[]) _ _ [] Try.func197 rfl (by kernel_rfl) Try.ntmps197 rfl (by simp) rfl rfl fun C=>?_
 have hmem : ∀ i z,z ∈ sortB lt (l.take i) [] → z ∈ l:=fun i z hz=>by
  rw [mem_sortB] at hz
  rcases hz with hz | hz
  · exact List.mem_of_mem_take hz
  · cases hz
 repeat refine zq ?_
 refine zb fun K hK=>?_;simp only [go_sem];(try simp (disch:=omega) only [zI]);repeat first | intro _ | refine ⟨by omega,?_⟩
 refine hK _ ?_;clear hK K;refine zw (zk [0,1,2,3,8]) ?_;simp only [go_sem]
 repeat refine zq ?_
 refine zd ?_
 refine awp_upto0 (n:=53) (max l.length 1) (fun i vs=>[(0,.os 1000 0 8 0 l.length),(1,.r (i64 0)),(2,.r (i64 l.length)),(3,.r (.fn f caps)),(8,.r (i64 i))])
  (fun i=>[(1000,.arr 125 8 (((sortB lt (l.take i) []).reverse ++ l.drop i).map rwR))]) (fun i=>1 ≤ i) 1 (fit0_of [] lent_zero ?_ ?_) (by omega) (Nat.le_refl _) ?_
 · try simp only [go_sem]
 · simp only [go_sem]
   cases l with
   | nil=>rfl
   | cons x l=>simp [sortB,insB]
 · intro i vs hv hi hi1
   have hv0:=hv 1000 (by omega)
   repeat refine zq ?_
   refine zb fun K hK=>?_;simp only [go_sem];(try simp (disch:=omega) only [zI]);repeat first | intro _ | refine ⟨by omega,?_⟩
   refine hK _ ?_;clear hK K;refine zw (zk [0,1,2,3,8,14]) ?_;simp only [go_sem]
   repeat refine zq ?_
   refine zc rfl (fun hc=>?_) (fun hc=>?_) <;> (try simp only [go_sem] at hc)
   · have hci : i < l.length:=by omega
     obtain ⟨x,hx⟩:=opt_of_lt hci
     obtain ⟨R,hR⟩ : ∃ R,R = sortB lt (l.take i) []:=⟨_,rfl⟩
     have hRl : R.length = i:=by rw [hR,sortB_len]; simp; omega
     have hRm : ∀ z ∈ R,z ∈ l:=fun z hz=>hmem i z (hR ▸ hz)
     have hnx : sortB lt (l.take (i + 1)) [] = insB lt x R:=by rw [take_of_opt hx,sortB_snoc,hR]
     have hst : (sortB lt (l.take i) []).reverse ++ l.drop i = holeL R x 0 (l.drop (i + 1)):=by rw [← hR,drop_of_opt hx]; simp [holeL]
     rw [hst]
     refine zx ?_
     repeat refine zq ?_
     refine zd ?_
     repeat refine zq ?_
     refine zb fun K hK=>?_;simp only [go_sem];(try simp (disch:=omega) only [zI]);repeat first | intro _ | refine ⟨by omega,?_⟩
     refine hK _ ?_;clear hK K;refine zw (zk [0,1,2,3,8,9]) ?_;simp only [go_sem]
     repeat refine zq ?_
     refine zd ?_
     refine awp_upto0 (n:=53) i (fun k vs=>[(0,.os 1000 0 8 0 l.length),(1,.r (i64 0)),(2,.r (i64 l.length)),(3,.r (.fn f caps)),(8,.r (i64 i)),(9,.r (i64 (i - k : Nat)))])
      (fun k=>[(1000,.arr 125 8 ((holeL R x k (l.drop (i + 1))).map rwR))]) (fun k=>∀ y ∈ R.take k,lt x y = true) 0 (fit0_of [] hv ?_ ?_) (Nat.zero_le _) (by simp) ?_
     · try simp only [go_sem]
     · try simp only [go_sem]
     · intro k vs hv hk hI
       have hv0:=hv 1000 (by omega)
       have hins:=insB_skip lt x R k hI
       have done : insB lt x (R.drop k) = x :: R.drop k → sortB lt (l.take (i + 1)) [] = R.take k ++ x :: R.drop k:=fun h=>by rw [hnx,hins,h]
       by_cases hk0 : k = i
       · have e0 : i - k = 0:=by omega
         repeat refine zq ?_
         refine awp_dreg2 [(0,some 1000)] follows (by decide +kernel) (by kernel_rfl) (by simp only [keysOk,List.mem_cons,List.not_mem_nil,forall_eq_or_imp,Oc.keyOf,go_sem]; simp) fun K hK=>?_
         simp only [go_sem,hv0,e0];(try simp (disch:=omega) only [zI]);repeat first | intro _ | refine ⟨by omega,?_⟩
         refine hK _ ?_;clear hK K;refine zw (zk [0,1,2,3,8,9,34]) ?_;simp only [go_sem]
         repeat refine zq ?_
         refine zc rfl (fun hc=>?_) (fun hc=>?_) <;> (try simp only [go_sem] at hc)
         refine zf ?_;simp only [go_sem]
         repeat refine zq ?_
         refine zb fun K hK=>?_;simp only [go_sem];(try simp (disch:=omega) only [zI]);repeat first | intro _ | refine ⟨by omega,?_⟩
         refine hK _ ?_;clear hK K
         try simp only [go_sem]
         refine ⟨by omega,fit0_of [] hv ?_ ?_⟩
         · try simp only [go_sem]
         · have hd0 : R.drop k = []:=List.drop_eq_nil_of_le (by omega)
           have:=done (by rw [hd0]; rfl)
           simp only [go_sem,this]
           simp [holeL]
       · obtain ⟨y,hy⟩:=opt_of_lt (l:=R) (i:=k) (by omega)
         obtain ⟨j,hj⟩ : ∃ j,i - k = j + 1:=⟨i - k - 1,by omega⟩
         have hjs : IntKind.i64.wrap ((j : Int) + 1 - 1) = j:=by rw [zI] <;> omega
         have hlen : (holeL R x k (l.drop (i + 1))).length = l.length:=by rw [hole_len _ _ _ _ (by omega),List.length_drop]; omega
         have hxa : (holeL R x k (l.drop (i + 1)))[j + 1]? = some x:=by rw [← hj,← hRl]; exact hole_at R x k _ (by omega)
         have hya : (holeL R x k (l.drop (i + 1)))[j]? = some y:=by
          have:=(hole_next (x:=x) (rest:=l.drop (i + 1)) hy).1
          rw [hRl,hj] at this
          exact this
         have hcall:=hcc x (mem_of_opt hx) y (hRm y (mem_of_opt hy))
         have hpos : (0 < (j : Int) + 1) = True:=by simp
         have hlxy:=hlt x y
         repeat refine zq ?_
         refine awp_dreg2 [(0,some 1000)] follows (by decide +kernel) (by kernel_rfl) (by simp only [keysOk,List.mem_cons,List.not_mem_nil,forall_eq_or_imp,Oc.keyOf,go_sem]; simp) fun K hK=>?_
         simp only [go_sem,hv0,hj,hjs,hxa,hya,hlen,hpos];(try simp (disch:=omega) only [zI])
         refine ⟨by omega,by omega,?_⟩
         refine zh (hcall) rfl (by simp only [go_sem,i64,ints,hv0]) (by simp only [go_sem,i64,ints,hv0]) (by first | exact .inl rfl | exact .inr rfl) ?_
         (try simp only [go_sem,hv0]);(try simp (disch:=omega) only [zI]);repeat first | intro _ | refine ⟨by omega,?_⟩
         refine hK _ ?_;clear hK K;refine zw (zk [0,1,2,3,8,9,34]) ?_;simp only [go_sem]
         cases hcx : decide (c x y < 0)
         · repeat refine zq ?_
           refine zc rfl (fun hc=>?_) (fun hc=>?_) <;> (try simp only [go_sem] at hc)
           refine zf ?_;simp only [go_sem]
           repeat refine zq ?_
           refine zb fun K hK=>?_;simp only [go_sem];(try simp (disch:=omega) only [zI]);repeat first | intro _ | refine ⟨by omega,?_⟩
           refine hK _ ?_;clear hK K
           try simp only [go_sem]
           refine ⟨by omega,fit0_of [] hv ?_ ?_⟩
           · try simp only [go_sem]
           · have:=done (by rw [drop_of_opt hy]; simp [insB,hlxy,hcx])
             simp only [go_sem,this]
             simp [holeL]
         · repeat refine zq ?_
           refine zc rfl (fun hc=>?_) (fun hc=>?_) <;> (try simp only [go_sem] at hc)
           refine zx ?_
           try simp only [go_sem]
           repeat refine zq ?_
           refine zd ?_
           have hset : (((holeL R x k (l.drop (i + 1))).map rwR).set (j + 1) (rwR y)).getD j [] = rwR y:=by
            rw [List.getD_eq_getElem?_getD,List.getElem?_set_ne (by omega),List.getElem?_map,hya]; rfl
           have hsw:=hole_swap rwR (x:=x) (rest:=l.drop (i + 1)) hy
           rw [hRl,hj] at hsw
           simp only [Nat.add_sub_cancel] at hsw
           repeat refine zq ?_
           refine awp_dreg2 [(0,some 1000)] follows (by decide +kernel) (by kernel_rfl) (by simp only [keysOk,List.mem_cons,List.not_mem_nil,forall_eq_or_imp,Oc.keyOf,go_sem]; simp) fun K hK=>?_
           simp only [go_sem,hv0,hj,hjs,hxa,hya,hlen,hset,List.length_set];(try simp (disch:=omega) only [zI])
           repeat' first | intro _ | refine And.intro ?_ ?_
           all_goals first | omega | skip
           all_goals (refine hK _ ?_; clear hK K)
           refine zw (zk [0,1,2,3,8,9]) ?_;simp only [go_sem]
           repeat refine zq ?_
           refine zb fun K hK=>?_;simp only [go_sem,hjs];(try simp (disch:=omega) only [zI]);repeat first | intro _ | refine ⟨by omega,?_⟩
           refine hK _ ?_;clear hK K
           try simp only [go_sem]
           have hj2 : i - (k + 1) = j:=by omega
           refine ⟨by omega,?_,fit0_of [] (lent_put (lent_put hv)) ?_ ?_⟩
           · rw [take_of_opt hy]
             intro z hz
             rcases List.mem_append.1 hz with hz | hz
             · exact hI z hz
             · simp only [List.mem_singleton] at hz
               subst hz
               rw [hlxy,hcx]
           · simp only [go_sem,hj2]
           · simp only [go_sem];exact congrArg (fun z=>[(1000,RowC.arr 125 8 z)]) hsw
   · refine zf ?_;simp only [go_sem]
     have h1 : l.take i = l:=List.take_of_length_le (by omega)
     have h2 : l.drop i = []:=List.drop_eq_nil_of_le (by omega)
     rw [h1,h2,List.append_nil]
     rfl
theorem rows_own (r : Tr) (l : List Mt) (hr : RulesI r) (hl : ∀ m ∈ l,MatchI r m) (hll : l.length ≤ 180) : OCalls Try.prog 80 [dvV r l] 125 8 ((rowsL r l).map rwR) (nT r):=by
 obtain ⟨hn,hn2,hn10⟩:=nT_eq hr
 have hrt:=hr.teams
 have htn : r.teams.toNat = nT r:=rfl
 refine ocalls_st (n:=78) (.tmp 2) Try.func80 rfl (by kernel_rfl) Try.ntmps80 rfl (by simp) (fun e he=>by obtain ⟨x,_,rfl⟩:=List.mem_map.1 he; rfl) fun C vs=>?_
 repeat refine zq ?_
 refine zb fun K hK=>?_;simp only [go_sem];(try simp (disch:=omega) only [zI]);repeat first | intro _ | refine ⟨by omega,?_⟩
 refine hK _ ?_;clear hK K;refine zw (sub_frzP 1 1 (dvC r l) (by omega) rfl rfl) ?_;refine zw (zk [1]) ?_;simp only [go_sem]
 repeat refine zq ?_
 refine zb fun K hK=>?_;simp only [go_sem,htn];(try simp (disch:=omega) only [zI]);repeat first | intro _ | refine ⟨by omega,?_⟩
 refine hK _ ?_;clear hK K;refine zw (zk [1,3]) ?_;simp only [go_sem]
 repeat refine zq ?_
 refine zb fun K hK=>?_;simp only [go_sem];(try simp (disch:=omega) only [zI]);repeat first | intro _ | refine ⟨by omega,?_⟩
 refine hK _ ?_;clear hK K;refine zw (zk [1,3,14,15]) ?_;simp only [go_sem]
 repeat refine zq ?_
 refine zd ?_
 refine awp_uptoV (n:=78) (nT r) (fun i vs=>[(1,.r (.rp (dvC r l))),(3,.os 12 (vs 12) 8 0 (nT r)),(14,.r (i64 (nT r : Int))),(15,.r (i64 (i : Int)))])
  (fun i vs=>[(12,.arr 125 8 (((List.range i).map fun t=>rwR (startW r t)) ++ List.replicate (nT r - i) (rwR ⟨0,0,0,0,0,0,0,0⟩)))]) (fun _=>True) 0 (zj [] ?_ ?_) (Nat.zero_le _) trivial ?_
 · try simp only [go_sem]
 · try simp only [go_sem]
   try rfl
 · intro i vs hi _
   repeat refine zq ?_
   refine zb fun K hK=>?_;simp only [go_sem];(try simp (disch:=omega) only [zI]);repeat first | intro _ | refine ⟨by omega,?_⟩
   refine hK _ ?_;clear hK K;refine zw (zk [1,3,14,15,16]) ?_;simp only [go_sem]
   repeat refine zq ?_
   refine zc rfl (fun hc=>?_) (fun hc=>?_) <;> (try simp only [go_sem] at hc)
   · have hci : i < nT r:=by omega
     obtain ⟨E,hEd⟩ : ∃ E,E = ((List.range i).map fun t=>rwR (startW r t)) ++ List.replicate (nT r - i) (rwR ⟨0,0,0,0,0,0,0,0⟩):=⟨_,rfl⟩
     have hEl : E.length = nT r:=by rw [hEd]; simp; omega
     have hE : E[i]? = some (rwR ⟨0,0,0,0,0,0,0,0⟩):=by
      rw [hEd,List.getElem?_append_right (by simp),List.length_map,List.length_range,Nat.sub_self,List.getElem?_replicate,if_pos (by omega)]
     have hED : E.getD i [] = rwR ⟨0,0,0,0,0,0,0,0⟩:=by rw [List.getD_eq_getElem?_getD,hE]; rfl
     have hil : i < E.length:=by omega
     have hset : ∀ y,(E.set i y)[i]? = some y:=fun y=>List.getElem?_set_self hil
     have hsetD : ∀ y,(E.set i y).getD i [] = y:=fun y=>by rw [List.getD_eq_getElem?_getD,hset]; rfl
     have hnext : E.set i (rwR (startW r i)) = ((List.range (i + 1)).map fun t=>rwR (startW r t)) ++ List.replicate (nT r - (i + 1)) (rwR ⟨0,0,0,0,0,0,0,0⟩):=by
      rw [hEd,List.set_append_right _ _ (by simp),List.length_map,List.length_range,Nat.sub_self,show nT r - i = (nT r - (i + 1)) + 1 by omega,List.replicate_succ,List.set_cons_zero,List.range_succ,List.map_append,List.append_assoc]
      rfl
     rw [← hEd]
     refine zx ?_
     try simp only [go_sem]
     repeat refine zq ?_
     refine zd ?_
     repeat refine zq ?_
     refine zb fun K hK=>?_;simp only [go_sem];(try simp (disch:=omega) only [zI]);repeat first | intro _ | refine ⟨by omega,?_⟩
     refine hK _ ?_;clear hK K;refine zw (zk [1,3,4,14,15]) ?_;simp only [go_sem]
     repeat refine zq ?_
     refine zb fun K hK=>?_;simp only [go_sem,hE,hED,hset,hsetD,hil,List.length_set,List.set_set,List.set_cons_succ,List.set_cons_zero,List.take_succ_cons,List.take_zero,List.drop_succ_cons,List.drop_zero];(try simp (disch:=omega) only [zI]);repeat first | intro _ | refine ⟨by omega,?_⟩
     refine hK _ ?_;clear hK K;refine zw (zk [1,3,4,14,15]) ?_;simp only [go_sem]
     repeat refine zq ?_
     refine zb fun K hK=>?_;simp only [go_sem];(try simp (disch:=omega) only [zI])
     intro _
     repeat first | intro _ | refine ⟨by omega,?_⟩
     refine hK _ ?_;clear hK K;refine zw (zk [1,3,4,14,15,27]) ?_;simp only [go_sem]
     repeat refine zq ?_
     refine awp_joinV (n:=78) (fun (_ : Unit) vs=>[(1,.r (.rp (dvC r l))),(3,.os 12 (vs 12) 8 0 (nT r)),(14,.r (i64 (nT r : Int))),(15,.r (i64 (i : Int)))]) (fun _ vs=>[(12,.arr 125 8 (E.set i (rwR (startW r i))))]) (fun _=>True) (fun _ h=>h) ?_ ?_
     · repeat refine zq ?_
       refine zc rfl (fun hc=>?_) (fun hc=>?_) <;> (try simp only [go_sem] at hc)
       · have hd0 : ¬ r.ded = []:=fun e=>by rw [e] at hc; simp at hc
         have hdl : (r.ded.length : Int) = r.teams ∧ ∀ x ∈ r.ded,0 ≤ x ∧ x ≤ 99:=hr.ded.resolve_left hd0
         obtain ⟨dx,hdx⟩:=opt_of_lt (show i < r.ded.length by omega)
         have hdb:=hdl.2 dx (mem_of_opt hdx)
         have hidl : i < r.ded.length:=by omega
         have hneg : IntKind.i64.wrap (-dx) = -dx:=by rw [zI] <;> omega
         have hst : startW r i = ⟨i,0,0,0,0,0,0,-dx⟩:=by unfold startW; rw [if_neg hd0,List.getD_eq_getElem?_getD,hdx]; rfl
         repeat refine zq ?_
         refine zb fun K hK=>?_;simp only [go_sem,hdx,hidl,hneg,hE,hED,hset,hsetD,hil,List.length_set,List.set_set,List.set_cons_succ,List.set_cons_zero,List.take_succ_cons,List.take_zero,List.drop_succ_cons,List.drop_zero];(try simp (disch:=omega) only [zI]);repeat first | intro _ | refine ⟨by omega,?_⟩
         refine hK _ ?_;clear hK K
         refine ⟨(),trivial,zj [] ?_ ?_⟩
         · try simp only [go_sem]
         · try simp only [go_sem]
           rw [hst]
           simp only [Int.zero_sub]
           try rfl
       · have hd0 : r.ded = []:=List.length_eq_zero_iff.1 (by omega)
         have hst : startW r i = ⟨i,0,0,0,0,0,0,0⟩:=by unfold startW; rw [if_pos hd0]
         refine zx ?_
         try simp only [go_sem]
         refine ⟨(),zj [] ?_ ?_⟩
         · try simp only [go_sem]
         · try simp only [go_sem]
           rw [hst]
           try rfl
     intro _ vs _
     repeat refine zq ?_
     refine zb fun K hK=>?_;simp only [go_sem];(try simp (disch:=omega) only [zI]);repeat first | intro _ | refine ⟨by omega,?_⟩
     refine hK _ ?_;clear hK K
     try simp only [go_sem]
     refine ⟨by omega,zj [] ?_ ?_⟩
     · try simp only [go_sem]
     · try simp only [go_sem]
       rw [hnext,List.range_succ]
   · have hin : i = nT r:=by omega
     subst hin
     have e0 : ((List.range (nT r)).map fun t=>rwR (startW r t)) ++ List.replicate (nT r - nT r) (rwR ⟨0,0,0,0,0,0,0,0⟩) = ((List.range (nT r)).map (rowT r (l.take 0))).map rwR:=by
      rw [Nat.sub_self,List.replicate_zero,List.append_nil,List.map_map]
      rfl
     rw [e0]
     refine zf ?_;simp only [go_sem];refine zw (zk [1,3]) ?_;simp only [go_sem]
     repeat refine zq ?_
     refine zb fun K hK=>?_;simp only [go_sem];(try simp (disch:=omega) only [zI])
     intro hll7
     repeat first | intro _ | refine ⟨by omega,?_⟩
     refine hK _ ?_;clear hK K;refine zw (zk [1,3,41,42,43]) ?_;simp only [go_sem]
     repeat refine zq ?_
     refine zd ?_
     refine awp_uptoV (n:=78) l.length (fun k vs=>[(1,.r (.rp (dvC r l))),(3,.os 12 (vs 12) 8 0 (nT r)),(41,.r (mtsR l)),(42,.r (i64 (l.length : Int))),(43,.r (i64 (k : Int)))])
      (fun k vs=>[(12,.arr 125 8 (((List.range (nT r)).map (rowT r (l.take k))).map rwR))]) (fun _=>True) 0 (zj [] ?_ ?_) (Nat.zero_le _) trivial ?_
     · try simp only [go_sem]
     · try simp only [go_sem]
     · intro k vs hk _
       repeat refine zq ?_
       refine zb fun K hK=>?_;simp only [go_sem];(try simp (disch:=omega) only [zI]);repeat first | intro _ | refine ⟨by omega,?_⟩
       refine hK _ ?_;clear hK K;refine zw (zk [1,3,41,42,43,44]) ?_;simp only [go_sem]
       repeat refine zq ?_
       refine zc rfl (fun hc=>?_) (fun hc=>?_) <;> (try simp only [go_sem] at hc)
       · have hck : k < l.length:=by omega
         obtain ⟨m,hm⟩:=opt_of_lt hck
         have hmi:=hl m (mem_of_opt hm)
         have hleg:=legs_le hr hmi
         have hpv:=ptsV_le hr (resV m)
         obtain ⟨h,hh⟩:=Int.eq_ofNat_of_zero_le hmi.h.1
         obtain ⟨a,ha⟩:=Int.eq_ofNat_of_zero_le hmi.a.1
         have hhn : h < nT r:=by have:=hmi.h; omega
         have han : a < nT r:=by have:=hmi.a; omega
         refine zx ?_
         try simp only [go_sem]
         repeat refine zq ?_
         refine zd ?_
         repeat refine zq ?_
         refine zb fun K hK=>?_;simp only [go_sem,hm,hck];(try simp (disch:=omega) only [zI]);repeat first | intro _ | refine ⟨by omega,?_⟩
         refine hK _ ?_;clear hK K;refine zw (sub_frzP 6 6 (mtR m) (by omega) rfl rfl) ?_;refine zw (zk [1,3,6,41,42,43]) ?_;simp only [go_sem]
         repeat refine zq ?_
         refine zb fun K hK=>?_;simp only [go_sem];(try simp (disch:=omega) only [zI]);repeat first | intro _ | refine ⟨by omega,?_⟩
         refine hK _ ?_;clear hK K;refine zw (zk [1,3,6,41,42,43,48]) ?_;simp only [go_sem]
         repeat refine zq ?_
         refine awp_joinV (n:=78) (fun (_ : Unit) vs=>[(1,.r (.rp (dvC r l))),(3,.os 12 (vs 12) 8 0 (nT r)),(41,.r (mtsR l)),(42,.r (i64 (l.length : Int))),(43,.r (i64 (k : Int)))]) (fun _ vs=>[(12,.arr 125 8 (((List.range (nT r)).map (rowT r (l.take (k + 1)))).map rwR))]) (fun _=>True) (fun _ h=>h) ?_ ?_
         · repeat refine zq ?_
           refine zc rfl (fun hc=>?_) (fun hc=>?_) <;> (try simp only [go_sem] at hc)
           · have hmp : m.p = true:=by simpa using hc
             have hstep:=rows_step (r:=r) hm hmi hmp hn hh ha
             have hof:=of_ok m
             have hpo:=points_ok r l (resV m) (resV_or m)
             have hrh:=rows_get (l:=l.take k) hhn
             have hra:=rows_get (l:=l.take k) han
             have hsh:=(small_row hr hl h k (by omega)).le (B':=200) (by omega)
             have hsa:=(small_row hr hl a k (by omega)).le (B':=200) (by omega)
             have hEl0 : (((List.range (nT r)).map (rowT r (l.take k))).map rwR).length = nT r:=by simp
             generalize ((List.range (nT r)).map (rowT r (l.take k))).map rwR = E at *
             have hEl : E.length = nT r:=hEl0
             have hne : h ≠ a:=fun e=>hmi.ne (by rw [hh,ha,e])
             repeat refine zq ?_
             refine zg follows (by decide +kernel) (by kernel_rfl) fun K hK=>?_;simp only [go_sem];(try simp (disch:=omega) only [zI])
             refine zh (hof) rfl (by simp only [go_sem,i64,ints]) (by simp only [go_sem,i64,ints]) (by first | exact .inl rfl | exact .inr rfl) ?_
             (try simp only [go_sem]);(try simp (disch:=omega) only [zI])
             refine zh (hpo) rfl (by simp only [go_sem,i64,ints]) (by simp only [go_sem,i64,ints]) (by first | exact .inl rfl | exact .inr rfl) ?_
             (try simp only [go_sem]);(try simp (disch:=omega) only [zI]);repeat first | intro _ | refine ⟨by omega,?_⟩
             refine hK _ ?_;clear hK K;refine zw (zk [1,3,6,7,8,41,42,43]) ?_;simp only [go_sem]
             repeat refine zq ?_
             refine awp_inv (n:=78) (ro14F r l m h a (ptsV r (resV m)).1 (ptsV r (resV m)).2 k) (ro14R (E) (E.set h (rwR (addW (rowT r (l.take k) h) m.f m.g (ptsV r (resV m)).1)))) follows (by kernel_rfl) (by kernel_rfl) (by decide +kernel) (zj [] ?_ ?_) ?_ ?_
             · simp only [go_sem,ro14F,vI,if_true,if_false,Bool.false_eq_true]
             · simp only [go_sem,ro14R,cond_false]
             · refine ⟨fun b vs hdn hbk hde=>?_,fun b vs hdn hbk hde=>?_,fun b vs hdn hbk hde=>?_,fun b vs hdn hbk hde=>?_,fun b vs hdn hbk hde=>?_,fun b vs hdn hbk hde=>?_,fun b vs hdn hbk hde=>?_,fun b vs hdn hbk hde=>?_,fun b vs hdn hbk hde=>?_,fun b vs hdn hbk hde=>?_,trivial⟩
               · skip
                 have G:=dnT hdn hbk [3,9] (by decide +kernel)
                 simp only [allB,and_true] at G
                 (simp only [go_sem,ro14F,ro14R,upd,vI,cond_true,cond_false,if_true,Bool.false_eq_true,if_false,hbk,G,hEl,hh,ha,hhn,han])
                 all_goals (refine zj [] ?_ ?_ <;> (simp only [go_sem,ro14F,ro14R,upd,vI,cond_true,cond_false,if_true,Bool.false_eq_true,if_false,hbk,G,hEl,hh,ha,hhn,han]))
               · skip
                 have G:=dnT hdn hbk [2,3,9] (by decide +kernel)
                 simp only [allB,and_true] at G
                 (simp only [go_sem,ro14F,ro14R,upd,vI,cond_true,cond_false,if_true,Bool.false_eq_true,if_false,hbk,G,hEl,hh,ha,hhn,han])
                 all_goals (refine zj [] ?_ ?_ <;> (simp only [go_sem,ro14F,ro14R,upd,vI,cond_true,cond_false,if_true,Bool.false_eq_true,if_false,hbk,G,hEl,hh,ha,hhn,han]))
               · skip
                 have H:=upT hdn hde [1] (by decide +kernel)
                 have G:=dnT hdn hbk [3,9] (by decide +kernel)
                 simp only [allB,and_true] at H G
                 (simp only [go_sem,ro14F,ro14R,upd,vI,cond_true,cond_false,if_true,Bool.false_eq_true,if_false,hbk,H,G,hEl,hh,ha,hhn,han])
                 all_goals (refine zj [] ?_ ?_ <;> (simp only [go_sem,ro14F,ro14R,upd,vI,cond_true,cond_false,if_true,Bool.false_eq_true,if_false,hbk,H,G,hEl,hh,ha,hhn,han]))
               · skip
                 have H:=upT hdn hde [0,2,1] (by decide +kernel)
                 have G:=dnT hdn hbk [9] (by decide +kernel)
                 simp only [allB,and_true] at H G
                 (simp only [go_sem,ro14F,ro14R,upd,vI,cond_true,cond_false,if_true,Bool.false_eq_true,if_false,hbk,H,G,hEl,hh,ha,hhn,han])
                 all_goals (refine zj [] ?_ ?_ <;> (simp only [go_sem,ro14F,ro14R,upd,vI,cond_true,cond_false,if_true,Bool.false_eq_true,if_false,hbk,H,G,hEl,hh,ha,hhn,han]))
               · skip
                 have G:=dnT hdn hbk [5,9] (by decide +kernel)
                 simp only [allB,and_true] at G
                 (simp only [go_sem,ro14F,ro14R,upd,vI,cond_true,cond_false,if_true,Bool.false_eq_true,if_false,hbk,G,hEl,hh,ha,hhn,han])
                 all_goals (refine zj [] ?_ ?_ <;> (simp only [go_sem,ro14F,ro14R,upd,vI,cond_true,cond_false,if_true,Bool.false_eq_true,if_false,hbk,G,hEl,hh,ha,hhn,han]))
               · skip
                 have H:=upT hdn hde [4] (by decide +kernel)
                 have G:=dnT hdn hbk [9] (by decide +kernel)
                 simp only [allB,and_true] at H G
                 (simp only [go_sem,ro14F,ro14R,upd,vI,cond_true,cond_false,if_true,Bool.false_eq_true,if_false,hbk,H,G,hEl,hh,ha,hhn,han])
                 all_goals (refine zj [] ?_ ?_ <;> (simp only [go_sem,ro14F,ro14R,upd,vI,cond_true,cond_false,if_true,Bool.false_eq_true,if_false,hbk,H,G,hEl,hh,ha,hhn,han]))
               · skip
                 have G:=dnT hdn hbk [7,9] (by decide +kernel)
                 simp only [allB,and_true] at G
                 (simp only [go_sem,ro14F,ro14R,upd,vI,cond_true,cond_false,if_true,Bool.false_eq_true,if_false,hbk,G,hEl,hh,ha,hhn,han])
                 all_goals (refine zj [] ?_ ?_ <;> (simp only [go_sem,ro14F,ro14R,upd,vI,cond_true,cond_false,if_true,Bool.false_eq_true,if_false,hbk,G,hEl,hh,ha,hhn,han]))
               · skip
                 have H:=upT hdn hde [6] (by decide +kernel)
                 have G:=dnT hdn hbk [9] (by decide +kernel)
                 simp only [allB,and_true] at H G
                 (simp only [go_sem,ro14F,ro14R,upd,vI,cond_true,cond_false,if_true,Bool.false_eq_true,if_false,hbk,H,G,hEl,hh,ha,hhn,han])
                 all_goals (refine zj [] ?_ ?_ <;> (simp only [go_sem,ro14F,ro14R,upd,vI,cond_true,cond_false,if_true,Bool.false_eq_true,if_false,hbk,H,G,hEl,hh,ha,hhn,han]))
               · skip
                 have G:=dnT hdn hbk [9] (by decide +kernel)
                 simp only [allB,and_true] at G
                 (simp only [go_sem,ro14F,ro14R,upd,vI,cond_true,cond_false,if_true,Bool.false_eq_true,if_false,hbk,G,hEl,hh,ha,hhn,han])
                 all_goals (refine zj [] ?_ ?_ <;> (simp only [go_sem,ro14F,ro14R,upd,vI,cond_true,cond_false,if_true,Bool.false_eq_true,if_false,hbk,G,hEl,hh,ha,hhn,han]))
               · skip
                 have H:=upT hdn hde [3,5,7,8,0,2,4,6,1] (by decide +kernel)
                 simp only [allB,and_true] at H
                 (simp only [go_sem,ro14F,ro14R,upd,vI,cond_true,cond_false,if_true,Bool.false_eq_true,if_false,hbk,H,hEl,hh,ha,hhn,han])
                 all_goals (refine xcall_mut (add_ok E h (rowT r (l.take k) h) m.f m.g (ptsV r (resV m)).1 hrh hsh (by omega) (by omega) (by omega)) [(1000,12)] rfl (by simp only [go_sem,i64,ints]) (by simp only [go_sem,i64,ints]) (by rfl) (by rfl) ?_; simp only [go_sem,hEl,hh,ha,hhn,han])
                 all_goals (refine zj [] ?_ ?_ <;> (simp only [go_sem,ro14F,ro14R,upd,vI,cond_true,cond_false,if_true,Bool.false_eq_true,if_false,hbk,H,hEl,hh,ha,hhn,han]))
             intro b vs hb
             simp only [go_sem,ro14F,ro14R,vI,hb,if_true,cond_true];refine zw (zk [1,3,6,7,8,41,42,43]) ?_;simp only [go_sem]
             have hE1l : (E.set h (rwR (addW (rowT r (l.take k) h) m.f m.g (ptsV r (resV m)).1))).length = nT r:=by simp [hEl]
             have hra1 : (E.set h (rwR (addW (rowT r (l.take k) h) m.f m.g (ptsV r (resV m)).1)))[a]? = some (rwR (rowT r (l.take k) a)):=by
              rw [List.getElem?_set_ne hne]; exact hra
             generalize E.set h (rwR (addW (rowT r (l.take k) h) m.f m.g (ptsV r (resV m)).1)) = E1 at *
             clear hEl hEl0
             have hEl:=hE1l
             repeat refine zq ?_
             refine awp_inv (n:=78) (ro15F r l m h a (ptsV r (resV m)).1 (ptsV r (resV m)).2 k) (ro15R (E1) (E1.set a (rwR (addW (rowT r (l.take k) a) m.g m.f (ptsV r (resV m)).2)))) follows (by kernel_rfl) (by kernel_rfl) (by decide +kernel) (zj [] ?_ ?_) ?_ ?_
             · simp only [go_sem,ro15F,vI,if_true,if_false,Bool.false_eq_true]
             · simp only [go_sem,ro15R,cond_false]
             · refine ⟨fun b vs hdn hbk hde=>?_,fun b vs hdn hbk hde=>?_,fun b vs hdn hbk hde=>?_,fun b vs hdn hbk hde=>?_,fun b vs hdn hbk hde=>?_,fun b vs hdn hbk hde=>?_,fun b vs hdn hbk hde=>?_,fun b vs hdn hbk hde=>?_,fun b vs hdn hbk hde=>?_,fun b vs hdn hbk hde=>?_,trivial⟩
               · skip
                 have G:=dnT hdn hbk [3,9] (by decide +kernel)
                 simp only [allB,and_true] at G
                 (simp only [go_sem,ro15F,ro15R,upd,vI,cond_true,cond_false,if_true,Bool.false_eq_true,if_false,hbk,G,hEl,hh,ha,hhn,han])
                 all_goals (refine zj [] ?_ ?_ <;> (simp only [go_sem,ro15F,ro15R,upd,vI,cond_true,cond_false,if_true,Bool.false_eq_true,if_false,hbk,G,hEl,hh,ha,hhn,han]))
               · skip
                 have G:=dnT hdn hbk [2,3,9] (by decide +kernel)
                 simp only [allB,and_true] at G
                 (simp only [go_sem,ro15F,ro15R,upd,vI,cond_true,cond_false,if_true,Bool.false_eq_true,if_false,hbk,G,hEl,hh,ha,hhn,han])
                 all_goals (refine zj [] ?_ ?_ <;> (simp only [go_sem,ro15F,ro15R,upd,vI,cond_true,cond_false,if_true,Bool.false_eq_true,if_false,hbk,G,hEl,hh,ha,hhn,han]))
               · skip
                 have H:=upT hdn hde [1] (by decide +kernel)
                 have G:=dnT hdn hbk [3,9] (by decide +kernel)
                 simp only [allB,and_true] at H G
                 (simp only [go_sem,ro15F,ro15R,upd,vI,cond_true,cond_false,if_true,Bool.false_eq_true,if_false,hbk,H,G,hEl,hh,ha,hhn,han])
                 all_goals (refine zj [] ?_ ?_ <;> (simp only [go_sem,ro15F,ro15R,upd,vI,cond_true,cond_false,if_true,Bool.false_eq_true,if_false,hbk,H,G,hEl,hh,ha,hhn,han]))
               · skip
                 have H:=upT hdn hde [0,2,1] (by decide +kernel)
                 have G:=dnT hdn hbk [9] (by decide +kernel)
                 simp only [allB,and_true] at H G
                 (simp only [go_sem,ro15F,ro15R,upd,vI,cond_true,cond_false,if_true,Bool.false_eq_true,if_false,hbk,H,G,hEl,hh,ha,hhn,han])
                 all_goals (refine zj [] ?_ ?_ <;> (simp only [go_sem,ro15F,ro15R,upd,vI,cond_true,cond_false,if_true,Bool.false_eq_true,if_false,hbk,H,G,hEl,hh,ha,hhn,han]))
               · skip
                 have G:=dnT hdn hbk [5,9] (by decide +kernel)
                 simp only [allB,and_true] at G
                 (simp only [go_sem,ro15F,ro15R,upd,vI,cond_true,cond_false,if_true,Bool.false_eq_true,if_false,hbk,G,hEl,hh,ha,hhn,han])
                 all_goals (refine zj [] ?_ ?_ <;> (simp only [go_sem,ro15F,ro15R,upd,vI,cond_true,cond_false,if_true,Bool.false_eq_true,if_false,hbk,G,hEl,hh,ha,hhn,han]))
               · skip
                 have H:=upT hdn hde [4] (by decide +kernel)
                 have G:=dnT hdn hbk [9] (by decide +kernel)
                 simp only [allB,and_true] at H G
                 (simp only [go_sem,ro15F,ro15R,upd,vI,cond_true,cond_false,if_true,Bool.false_eq_true,if_false,hbk,H,G,hEl,hh,ha,hhn,han])
                 all_goals (refine zj [] ?_ ?_ <;> (simp only [go_sem,ro15F,ro15R,upd,vI,cond_true,cond_false,if_true,Bool.false_eq_true,if_false,hbk,H,G,hEl,hh,ha,hhn,han]))
               · skip
                 have G:=dnT hdn hbk [7,9] (by decide +kernel)
                 simp only [allB,and_true] at G
                 (simp only [go_sem,ro15F,ro15R,upd,vI,cond_true,cond_false,if_true,Bool.false_eq_true,if_false,hbk,G,hEl,hh,ha,hhn,han])
                 all_goals (refine zj [] ?_ ?_ <;> (simp only [go_sem,ro15F,ro15R,upd,vI,cond_true,cond_false,if_true,Bool.false_eq_true,if_false,hbk,G,hEl,hh,ha,hhn,han]))
               · skip
                 have H:=upT hdn hde [6] (by decide +kernel)
                 have G:=dnT hdn hbk [9] (by decide +kernel)
                 simp only [allB,and_true] at H G
                 (simp only [go_sem,ro15F,ro15R,upd,vI,cond_true,cond_false,if_true,Bool.false_eq_true,if_false,hbk,H,G,hEl,hh,ha,hhn,han])
                 all_goals (refine zj [] ?_ ?_ <;> (simp only [go_sem,ro15F,ro15R,upd,vI,cond_true,cond_false,if_true,Bool.false_eq_true,if_false,hbk,H,G,hEl,hh,ha,hhn,han]))
               · skip
                 have G:=dnT hdn hbk [9] (by decide +kernel)
                 simp only [allB,and_true] at G
                 (simp only [go_sem,ro15F,ro15R,upd,vI,cond_true,cond_false,if_true,Bool.false_eq_true,if_false,hbk,G,hEl,hh,ha,hhn,han])
                 all_goals (refine zj [] ?_ ?_ <;> (simp only [go_sem,ro15F,ro15R,upd,vI,cond_true,cond_false,if_true,Bool.false_eq_true,if_false,hbk,G,hEl,hh,ha,hhn,han]))
               · skip
                 have H:=upT hdn hde [3,5,7,8,0,2,4,6,1] (by decide +kernel)
                 simp only [allB,and_true] at H
                 (simp only [go_sem,ro15F,ro15R,upd,vI,cond_true,cond_false,if_true,Bool.false_eq_true,if_false,hbk,H,hEl,hh,ha,hhn,han])
                 all_goals (refine xcall_mut (add_ok E1 a (rowT r (l.take k) a) m.g m.f (ptsV r (resV m)).2 hra1 hsa (by omega) (by omega) (by omega)) [(1000,12)] rfl (by simp only [go_sem,i64,ints]) (by simp only [go_sem,i64,ints]) (by rfl) (by rfl) ?_; simp only [go_sem,hEl,hh,ha,hhn,han])
                 all_goals (refine zj [] ?_ ?_ <;> (simp only [go_sem,ro15F,ro15R,upd,vI,cond_true,cond_false,if_true,Bool.false_eq_true,if_false,hbk,H,hEl,hh,ha,hhn,han]))
             intro b vs hb
             simp only [go_sem,ro15F,ro15R,vI,hb,if_true,cond_true]
             refine ⟨(),zj [] ?_ ?_⟩
             · try simp only [go_sem]
             · simp only [go_sem,hstep]
           · have hmp : m.p = false:=by simpa using hc
             refine zx ?_
             try simp only [go_sem]
             refine ⟨(),zj [] ?_ ?_⟩
             · try simp only [go_sem]
             · try simp only [go_sem]
               rw [rows_skip hm hmp]
         intro _ vs _
         repeat refine zq ?_
         refine zb fun K hK=>?_;simp only [go_sem];(try simp (disch:=omega) only [zI]);repeat first | intro _ | refine ⟨by omega,?_⟩
         refine hK _ ?_;clear hK K
         try simp only [go_sem]
         refine ⟨by omega,zj [] ?_ ?_⟩
         · try simp only [go_sem]
         · try simp only [go_sem]
       · have hkl : k = l.length:=by omega
         subst hkl
         rw [List.take_length]
         refine zf ?_;simp only [go_sem];refine zw (zk [3]) ?_;simp only [go_sem]
         repeat refine zq ?_
         refine zb fun K hK=>?_;simp only [go_sem];(try simp (disch:=omega) only [zI]);repeat first | intro _ | refine ⟨by omega,?_⟩
         refine hK _ ?_;clear hK K;refine zw (zk [2]) ?_;simp only [go_sem];refine ze ?_;simp only [go_sem];exact ⟨12,_,rfl,rfl⟩
def lensL : List (Nat × Nat):=[(2,2),(3,2),(4,3),(5,3),(6,3),(7,3),(8,4),(9,4),(10,4)]
theorem len64_ok (n c : Nat) (h : (n,c) ∈ lensL) : ACalls Try.prog 206 [.it .u64 (n : Int)] (i64 (c : Int)):=by
 simp only [lensL,List.mem_cons,List.not_mem_nil,or_false,Prod.mk.injEq] at h
 rcases h with ⟨rfl,rfl⟩ | ⟨rfl,rfl⟩ | ⟨rfl,rfl⟩ | ⟨rfl,rfl⟩ | ⟨rfl,rfl⟩ | ⟨rfl,rfl⟩ | ⟨rfl,rfl⟩ | ⟨rfl,rfl⟩ | ⟨rfl,rfl⟩ <;>
 · refine acalls_st (rs:=[i64 _]) [.tmp 2] Try.func206 rfl (by kernel_rfl) Try.ntmps206 rfl (by simp) rfl fun C vs=>?_
   repeat refine zq ?_
   refine zb fun K hK=>?_;simp only [go_sem];(try simp (disch:=omega) only [zI]);repeat first | intro _ | refine ⟨by omega,?_⟩
   refine hK _ ?_;clear hK K;refine zw (zk [0,2]) ?_;simp only [go_sem]
   repeat refine zq ?_
   refine zb fun K hK=>?_;simp only [go_sem];(try simp (disch:=omega) only [zI]);repeat first | intro _ | refine ⟨by omega,?_⟩
   refine hK _ ?_;clear hK K;refine zw (zk [0,2,4]) ?_;simp only [go_sem]
   repeat refine zq ?_
   refine zc rfl (fun hc=>?_) (fun hc=>?_) <;> (try simp only [go_sem] at hc)
   refine zx ?_
   try simp only [go_sem]
   repeat refine zq ?_
   refine zb fun K hK=>?_;simp only [go_sem];(try simp (disch:=omega) only [zI]);repeat first | intro _ | refine ⟨by omega,?_⟩
   refine hK _ ?_;clear hK K;refine zw (zk [0,2,8]) ?_;simp only [go_sem]
   repeat refine zq ?_
   refine zc rfl (fun hc=>?_) (fun hc=>?_) <;> (try simp only [go_sem] at hc)
   refine zx ?_
   try simp only [go_sem]
   repeat refine zq ?_
   refine zb fun K hK=>?_;simp only [go_sem];(try simp (disch:=omega) only [zI]);repeat first | intro _ | refine ⟨by omega,?_⟩
   refine hK _ ?_;clear hK K;refine zw (zk [0,2,14]) ?_;simp only [go_sem]
   repeat refine zq ?_
   refine zc rfl (fun hc=>?_) (fun hc=>?_) <;> (try simp only [go_sem] at hc)
   refine zx ?_
   try simp only [go_sem]
   repeat refine zq ?_
   refine awp_long ?_
   refine sops_take 3 (by kernel_rfl) fun K hK=>?_
   simp only [go_sem,List.take_succ_cons,List.take_zero,List.drop_succ_cons,List.drop_zero,List.append_eq,List.cons_append,List.nil_append];(try simp (disch:=omega) only [zI]);repeat first | intro _ | refine ⟨by omega,?_⟩
   refine hK _ rfl ?_
   clear hK K
   refine sops_gop rfl (by intro t h; injection h with h; subst h; show 22 < 25; decide) (by intro c h; cases h) (gop_strIndex rfl (s:=_) rfl rfl (by kernel_rfl) (by decide) rfl ?_)
   try simp only [go_sem]
   refine sops_end (by kernel_rfl) fun K hK=>?_
   simp only [go_sem,List.drop_succ_cons,List.drop_zero,List.append_eq,List.cons_append,List.nil_append];(try simp (disch:=omega) only [zI]);repeat first | intro _ | refine ⟨by omega,?_⟩
   refine hK _ ?_;clear hK K;refine zw (zk [2]) ?_;simp only [go_sem];refine ze ?_;simp only [go_sem]
   kernel_rfl
theorem len_ok (n c : Nat) (h : (n,c) ∈ lensL) : ACalls Try.prog 147 [.it .u64 (n : Int)] (i64 (c : Int)):=by
 refine acalls_st (rs:=[i64 (c : Int)]) [.tmp 2] Try.func147 rfl (by kernel_rfl) Try.ntmps147 rfl (by simp) rfl fun C vs=>?_
 repeat refine zq ?_
 refine zb fun K hK=>?_;simp only [go_sem];(try simp (disch:=omega) only [zI]);repeat first | intro _ | refine ⟨by omega,?_⟩
 refine hK _ ?_;clear hK K
 repeat refine zq ?_
 refine zc rfl (fun hc=>?_) (fun hc=>?_) <;> (try simp only [go_sem] at hc)
 refine zx ?_
 try simp only [go_sem]
 repeat refine zq ?_
 refine zb fun K hK=>?_;simp only [go_sem];(try simp (disch:=omega) only [zI])
 refine zh (len64_ok n c h) rfl (by simp only [go_sem,i64,ints]) (by simp only [go_sem,i64,ints]) (by first | exact .inl rfl | exact .inr rfl) ?_
 (try simp only [go_sem]);(try simp (disch:=omega) only [zI]);repeat first | intro _ | refine ⟨by omega,?_⟩
 refine hK _ ?_;clear hK K;refine zw (zk [2]) ?_;simp only [go_sem];refine ze ?_;simp only [go_sem]
def ltW (a b : Rw) : Bool:=decide (cmpW a b < 0)
def sortW (l : List Rw) : List Rw:=sortN ltW l
theorem pdq_ok (l : List Rw) (hl : l.length ≤ 12) (hs : ∀ x ∈ l,SmallW 200 x) (c : Int) :
 MCalls Try.prog 146 [(1000,.arr 125 8 (l.map rwR))] [(1000,.arr 125 8 ((sortW l).map rwR))] [.os 1000 0 8 0 l.length,.r (i64 0),.r (i64 l.length),.r (i64 c),.r (.fn 82 [])] (.tu []):=by
 refine mcalls_st (n:=148) (rs:=[]) _ _ [] Try.func146 rfl (by kernel_rfl) Try.ntmps146 rfl (by simp) rfl rfl fun C=>?_
 have hw : IntKind.i64.wrap ((l.length : Int) - 0) = l.length:=by rw [zI] <;> omega
 have hle : decide ((l.length : Int) ≤ 12) = true:=by simp; omega
 have hle' : decide (l.length ≤ 12) = true:=by simp; omega
 repeat refine zq ?_
 refine zb fun K hK=>?_;simp only [go_sem];(try simp (disch:=omega) only [zI]);repeat first | intro _ | refine ⟨by omega,?_⟩
 refine hK _ ?_;clear hK K
 repeat refine zq ?_
 refine zb fun K hK=>?_;simp only [go_sem];(try simp (disch:=omega) only [zI]);repeat first | intro _ | refine ⟨by omega,?_⟩
 refine hK _ ?_;clear hK K;refine zw (zk [0,1,2,3,4]) ?_;simp only [go_sem]
 repeat refine zq ?_
 refine zd ?_
 refine awp_upto0 (n:=148) 0 (fun i vs=>[(0,.os 1000 0 8 0 l.length),(1,.r (i64 0)),(2,.r (i64 l.length)),(3,.r (i64 c)),(4,.r (.fn 82 []))])
  (fun i=>[(1000,.arr 125 8 (l.map rwR))]) (fun i=>True) 0 (fit0_of [] lent_zero ?_ ?_) (Nat.zero_le _) trivial ?_
 · try simp only [go_sem]
 · try simp only [go_sem]
 intro i vs hv _ _
 have hv0:=hv 1000 (by omega)
 repeat refine zq ?_
 refine zd ?_
 repeat refine zq ?_
 refine zb fun K hK=>?_;simp only [go_sem,hw];(try simp (disch:=omega) only [zI]);repeat first | intro _ | refine ⟨by omega,?_⟩
 refine hK _ ?_;clear hK K;refine zw (zk [0,1,2,3,4,12]) ?_;simp only [go_sem]
 repeat refine zq ?_
 refine zb fun K hK=>?_;simp only [go_sem,hle,hle'];(try simp (disch:=omega) only [zI]);repeat first | intro _ | refine ⟨by omega,?_⟩
 refine hK _ ?_;clear hK K;refine zw (zk [0,1,2,3,4,25]) ?_;simp only [go_sem]
 repeat refine zq ?_
 refine zc rfl (fun hc=>?_) (fun hc=>?_) <;> (try simp only [go_sem] at hc)
 repeat refine zq ?_
 refine zb fun K hK=>?_;simp only [go_sem];(try simp (disch:=omega) only [zI])
 refine xcall_mut (insertion_ok ltW cmpW 82 [] l (by omega) (fun _ _=>rfl) (fun x hx y hy=>compare_ok x y (hs x hx) (hs y hy))) [(1000,1000)] rfl (by simp only [go_sem,i64,ints,hv0]) (by simp only [go_sem,i64,ints,hv0]) (by rfl) (by rfl) ?_
 (try simp only [go_sem,hv0]);(try simp (disch:=omega) only [zI]);repeat first | intro _ | refine ⟨by omega,?_⟩
 refine hK _ ?_;clear hK K;refine ze ?_
 try simp only [go_sem]
 rfl
theorem sort_ok (l : List Rw) (hl : 2 ≤ l.length ∧ l.length ≤ 10) (hs : ∀ x ∈ l,SmallW 200 x) :
 MCalls Try.prog 81 [(1000,.arr 125 8 (l.map rwR))] [(1000,.arr 125 8 ((sortW l).map rwR))] [.os 1000 0 8 0 l.length,.r (.fn 82 [])] (.tu []):=by
 obtain ⟨c,hc⟩ : ∃ c,(l.length,c) ∈ lensL:=by
  have : l.length = 2 ∨ l.length = 3 ∨ l.length = 4 ∨ l.length = 5 ∨ l.length = 6 ∨ l.length = 7 ∨ l.length = 8 ∨ l.length = 9 ∨ l.length = 10:=by omega
  rcases this with h | h | h | h | h | h | h | h | h <;> rw [h]
  · exact ⟨2,by decide⟩
  · exact ⟨2,by decide⟩
  · exact ⟨3,by decide⟩
  · exact ⟨3,by decide⟩
  · exact ⟨3,by decide⟩
  · exact ⟨3,by decide⟩
  · exact ⟨4,by decide⟩
  · exact ⟨4,by decide⟩
  · exact ⟨4,by decide⟩
 have hlen:=len_ok _ c hc
 have hw : IntKind.u64.wrap (l.length : Int) = l.length:=by
  have : l.length = 2 ∨ l.length = 3 ∨ l.length = 4 ∨ l.length = 5 ∨ l.length = 6 ∨ l.length = 7 ∨ l.length = 8 ∨ l.length = 9 ∨ l.length = 10:=by omega
  rcases this with h | h | h | h | h | h | h | h | h <;> rw [h] <;> rfl
 refine mcalls_st (n:=14) (rs:=[]) _ _ [] Try.func81 rfl (by kernel_rfl) Try.ntmps81 rfl (by simp) rfl rfl fun C=>?_
 repeat refine zq ?_
 refine zb fun K hK=>?_;simp only [go_sem];(try simp (disch:=omega) only [zI])
 intro _
 repeat first | intro _ | refine ⟨by omega,?_⟩
 refine hK _ ?_;clear hK K;refine zw (zk [0,1,4]) ?_;simp only [go_sem]
 repeat refine zq ?_
 refine zb fun K hK=>?_;simp only [go_sem,hw];(try simp (disch:=omega) only [zI])
 refine zh (hlen) rfl (by simp only [go_sem,i64,ints,hw]) (by simp only [go_sem,i64,ints,hw]) (by first | exact .inl rfl | exact .inr rfl) ?_
 (try simp only [go_sem,hw]);(try simp (disch:=omega) only [zI])
 refine xcall_mut (pdq_ok l (by omega) hs c) [(1000,1000)] rfl (by simp only [go_sem,i64,ints]) (by simp only [go_sem,i64,ints]) (by rfl) (by rfl) ?_
 (try simp only [go_sem]);(try simp (disch:=omega) only [zI]);repeat first | intro _ | refine ⟨by omega,?_⟩
 refine hK _ ?_;clear hK K
 try simp only [go_sem]
theorem table_ok (r : Tr) (l : List Mt) (hw : Wf r l) : ACalls Try.prog 39 [trV r,mtsR l] (.tu [if (checkV r l).2 = 0 then rwsR (sortW (rowsL r l)) else .ns,i64 (checkV r l).1,i64 (checkV r l).2]):=by
 have hch:=check_ok r l hw
 refine acalls_st (rs:=[if (checkV r l).2 = 0 then rwsR (sortW (rowsL r l)) else .ns,i64 (checkV r l).1,i64 (checkV r l).2]) [.tmp 4,.tmp 5,.tmp 6] Try.func39 rfl (by kernel_rfl) Try.ntmps39 rfl (by simp) rfl fun C vs=>?_
 repeat refine zq ?_
 refine zb fun K hK=>?_;simp only [go_sem];(try simp (disch:=omega) only [zI]);repeat first | intro _ | refine ⟨by omega,?_⟩
 refine hK _ ?_;clear hK K;refine zw (sub_frzP 2 2 (trC r) (by omega) rfl rfl) ?_;refine zw (zk [1,2]) ?_;simp only [go_sem]
 repeat refine zq ?_
 refine zb fun K hK=>?_;simp only [go_sem];(try simp (disch:=omega) only [zI])
 refine zh (hch) rfl (by simp only [go_sem,i64,ints]) (by simp only [go_sem,i64,ints]) (by first | exact .inl rfl | exact .inr rfl) ?_
 (try simp only [go_sem]);(try simp (disch:=omega) only [zI]);repeat first | intro _ | refine ⟨by omega,?_⟩
 refine hK _ ?_;clear hK K;refine zw (zk [1,2,7,8]) ?_;simp only [go_sem]
 repeat refine zq ?_
 refine zb fun K hK=>?_;simp only [go_sem];(try simp (disch:=omega) only [zI]);repeat first | intro _ | refine ⟨by omega,?_⟩
 refine hK _ ?_;clear hK K;refine zw (zk [1,2,7,8,16]) ?_;simp only [go_sem]
 repeat refine zq ?_
 refine zc rfl (fun hc=>?_) (fun hc=>?_) <;> (try simp only [go_sem] at hc)
 · have he : ¬ (checkV r l).2 = 0:=by simpa using hc
   repeat refine zq ?_
   refine zb fun K hK=>?_;simp only [go_sem];(try simp (disch:=omega) only [zI]);repeat first | intro _ | refine ⟨by omega,?_⟩
   refine hK _ ?_;clear hK K;refine zw (zk [4,5,6]) ?_;simp only [go_sem];refine ze ?_;simp only [go_sem]
   simp [he]
   exact leL_refl.le_refl _
 · have he : (checkV r l).2 = 0:=by simpa using hc
   obtain ⟨h1,h2,h3,h4⟩:=checkV_zero he
   obtain ⟨hn,hn2,hn10⟩:=nT_eq h2
   have hro:=rows_own r l h2 h3 h1
   have hsr : ∀ x ∈ rowsL r l,SmallW 200 x:=fun x hx=>by
    obtain ⟨t,_,rfl⟩:=List.mem_map.1 hx
    have:=small_row h2 h3 t l.length (Nat.le_refl _)
    rw [List.take_length] at this
    exact this.le (by omega)
   have hrl : (rowsL r l).length = nT r:=by simp [rowsL]
   have hso:=sort_ok (rowsL r l) (by omega) hsr
   rw [hrl] at hso
   have hsl : (sortW (rowsL r l)).length = nT r:=by unfold sortW sortN; rw [List.length_reverse,sortB_len]; simp [hrl]
   refine zx ?_
   try simp only [go_sem]
   repeat refine zq ?_
   refine zb fun K hK=>?_;simp only [go_sem];(try simp (disch:=omega) only [zI])
   refine xcall_own (hro) rfl (by simp only [go_sem,i64,ints]) (by simp only [go_sem,i64,ints]) (by decide) (by intro h; first | (cases h; done) | rfl) ?_
   (try simp only [go_sem]);(try simp (disch:=omega) only [zI]);repeat first | intro _ | refine ⟨by omega,?_⟩
   refine hK _ ?_;clear hK K;refine zw (zk [4]) ?_;simp only [go_sem]
   repeat refine zq ?_
   refine zb fun K hK=>?_;simp only [go_sem];(try simp (disch:=omega) only [zI])
   refine xcall_mut (hso) [(1000,22)] rfl (by simp only [go_sem,i64,ints]) (by simp only [go_sem,i64,ints]) (by rfl) (by rfl) ?_
   (try simp only [go_sem]);(try simp (disch:=omega) only [zI]);repeat first | intro _ | refine ⟨by omega,?_⟩
   refine hK _ ?_;clear hK K;refine zw (sub_frz 4 22 (ty:=125) (sz:=8) (off:=0) (m:=nT r) (es:=(sortW (rowsL r l)).map rwR) (by omega) rfl (by rfl) (by simp [hsl])) ?_
   have e2 : (((sortW (rowsL r l)).map rwR).drop 0).take (nT r) = (sortW (rowsL r l)).map rwR:=by
    rw [List.drop_zero,List.take_of_length_le (by simp [hsl])]
   rw [e2]
   refine zw (zk [4]) ?_;simp only [go_sem]
   repeat refine zq ?_
   refine zb fun K hK=>?_;simp only [go_sem];(try simp (disch:=omega) only [zI]);repeat first | intro _ | refine ⟨by omega,?_⟩
   refine hK _ ?_;clear hK K;refine zw (zk [4,5,6]) ?_;simp only [go_sem];refine ze ?_;simp only [go_sem];rw [h4]
   simp
   exact leL_refl.le_refl _
theorem insB_perm (lt : Rw → Rw → Bool) (x : Rw) : ∀ R,(insB lt x R).Perm (x :: R)
 | []=>by simp [insB]
 | y :: R => by
   unfold insB
   split
   · exact ((insB_perm lt x R).cons y).trans (List.Perm.swap x y R)
   · exact List.Perm.refl _
theorem sortB_perm (lt : Rw → Rw → Bool) : ∀ l R,(sortB lt l R).Perm (l ++ R)
 | [],R=>by simp [sortB]
 | x :: l, R => by
   simp only [sortB]
   refine (sortB_perm lt l _).trans ?_
   refine ((insB_perm lt x R).append_left l).trans ?_
   exact List.perm_middle
theorem sortN_perm (lt : Rw → Rw → Bool) (l : List Rw) : (sortN lt l).Perm l:=by
 unfold sortN
 refine (List.reverse_perm _).trans ?_
 simpa using sortB_perm lt l []
def DescP (lt : Rw → Rw → Bool) (R : List Rw) : Prop:=R.Pairwise fun a b=>lt a b = false
set_option maxRecDepth 8000
theorem index_none' {α : Type} {p : α → Bool} : ∀ {l : List α},(∀ y ∈ l,p y = false) → indexF p l = -1
 | [],_=>rfl
 | y :: l, h => by
   have ih:=index_none' (l:=l) fun z hz=>h z (by simp [hz])
   unfold indexF
   rw [ih]
   simp [h y (by simp)]
def r8 (n : Nat) : Tr:=⟨4,n,3,1,[],0,0⟩
theorem r8_ok {n : Nat} (h1 : 1 ≤ n) (h7 : n ≤ 7) : RulesI (r8 n):=⟨by simp only [r8]; omega,by simp only [r8]; omega,by simp only [r8]; omega,by simp only [r8]; omega,.inl rfl,by simp only [r8]; omega,by simp only [r8]; omega⟩
theorem check8 {n : Nat} (h1 : 1 ≤ n) (h7 : n ≤ 7) {l : List Mt} (hl : ∀ m ∈ l,MatchI (r8 n) m) (hll : l.length ≤ 180) : checkV (r8 n) l = (0,0):=by
 have hb : badM (r8 n) l = -1:=index_none' fun x hx=>by simp [matchOk_iff.2 (hl x hx)]
 unfold checkV
 rw [if_neg (by simp only [r8,List.length_nil]; omega),if_neg (by simp [rulesOk_iff.2 (r8_ok h1 h7)]),hb,if_neg (by omega)]
theorem wf8 {n : Nat} (h1 : 1 ≤ n) (h7 : n ≤ 7) {l : List Mt} (hl : ∀ m ∈ l,MatchI (r8 n) m) : Wf (r8 n) l:=by
 refine ⟨⟨by simp [r8,I64],by simp only [r8,I64]; omega,by simp [r8,I64],by simp [r8,I64],by simp [r8],by simp [r8,I64],by simp [r8,I64]⟩,fun m hm=>?_⟩
 obtain ⟨a1,a2,a3,a4,a5⟩:=hl m hm
 have hlg : 0 ≤ legsOf (r8 n) m ∧ legsOf (r8 n) m ≤ 25:=by
  unfold legsOf
  have : (r8 n).legs = n:=rfl
  split <;> omega
 have ht : (r8 n).teams = 4:=rfl
 refine ⟨?_,?_,?_,?_⟩ <;> unfold I64 <;> omega
theorem snoc8 {α : Type} {p : List α → Prop} (h0 : p []) (h1 : ∀ l a,p l → p (l ++ [a])) (l : List α) : p l:=by
 have : ∀ r : List α,p r.reverse:=fun r=>by
  induction r with
  | nil=>exact h0
  | cons a r ih=>rw [List.reverse_cons]; exact h1 _ _ ih
 rw [← List.reverse_reverse l]
 exact this _
def winM (m : Mt) : Nat:=if m.g < m.f then m.h.toNat else m.a.toNat
def wonS (W : List Int) (m : Mt) : List Int:=W.set (winM m) (W.getD (winM m) 0 + 1)
def wonL (l : List Mt) : List Int:=l.foldl wonS [0,0,0,0]
def ptsS (W : List Int) (m : Mt) : List Int:=(W.set m.h.toNat (W.getD m.h.toNat 0 + m.f)).set m.a.toNat (W.getD m.a.toNat 0 + m.g)
def ptsT (l : List Mt) : List Int:=l.foldl ptsS [0,0,0,0]
theorem wonL_snoc (l : List Mt) (m : Mt) : wonL (l ++ [m]) = wonS (wonL l) m:=by simp [wonL]
theorem ptsT_snoc (l : List Mt) (m : Mt) : ptsT (l ++ [m]) = ptsS (ptsT l) m:=by simp [ptsT]
theorem won_len (l : List Mt) : (wonL l).length = 4 ∧ (ptsT l).length = 4:=by
 induction l using snoc8 with
 | h0=>exact ⟨rfl,rfl⟩
 | h1 l a ih=>rw [wonL_snoc,ptsT_snoc,wonS,ptsS,List.length_set,List.length_set,List.length_set]; exact ih
theorem getD_set {W : List Int} {i j : Nat} {x : Int} (hi : i < W.length) : (W.set i x).getD j 0 = if i = j then x else W.getD j 0:=by
 rw [List.getD_eq_getElem?_getD,List.getElem?_set]
 by_cases e : i = j
 · subst e; rw [if_pos rfl,if_pos hi,if_pos rfl]; rfl
 · rw [if_neg e,if_neg e,List.getD_eq_getElem?_getD]
structure Odd8 (n : Nat) (m : Mt) : Prop where
 mt : MatchI (r8 n) m
 p : m.p = true
 ne : m.f ≠ m.g
theorem row8 {n : Nat} (hn : n ≤ 30) {l : List Mt} (hl : ∀ m ∈ l,Odd8 n m) {t : Nat} (ht : t < 4) :
 (rowT (r8 n) l t).won = (wonL l).getD t 0 ∧ (rowT (r8 n) l t).f = (ptsT l).getD t 0 ∧ (rowT (r8 n) l t).dr = 0 ∧ (rowT (r8 n) l t).pts = 3 * (wonL l).getD t 0 ∧ (rowT (r8 n) l t).team = t ∧
  (0 ≤ (wonL l).getD t 0 ∧ (wonL l).getD t 0 ≤ l.length) ∧ 0 ≤ (ptsT l).getD t 0 ∧ (ptsT l).getD t 0 ≤ 30 * l.length:=by
 induction l using snoc8 with
 | h0 =>
   have : t = 0 ∨ t = 1 ∨ t = 2 ∨ t = 3:=by omega
   rcases this with rfl | rfl | rfl | rfl <;> simp [rowT,startW,r8,wonL,ptsT]
 | h1 l m ih =>
   obtain ⟨i1,i2,i3,i4,i5,i6,i7⟩:=ih fun x hx=>hl x (List.mem_append_left _ hx)
   obtain ⟨hm,hp,hne⟩:=hl m (by simp)
   obtain ⟨a1,a2,a3,a4,a5⟩:=hm
   have htm : (r8 n).teams = 4:=rfl
   obtain ⟨w4,p4⟩:=won_len l
   rw [rowT_snoc,wonL_snoc,ptsT_snoc,wonS,ptsS,getD_set (by rw [w4]; unfold winM; split <;> omega),getD_set (by rw [List.length_set,p4]; omega),getD_set (by rw [p4]; omega),List.length_append]
   obtain ⟨h,hh⟩:=Int.eq_ofNat_of_zero_le a1.1
   obtain ⟨a,ha⟩:=Int.eq_ofNat_of_zero_le a2.1
   generalize rowT (r8 n) l t = x at *
   generalize wonL l = W at *
   generalize ptsT l = V at *
   simp only [List.length_cons,List.length_nil]
   unfold stepW winM
   rw [hp,if_pos rfl]
   simp only [legsOf,hp,if_true] at a4 a5
   have hlg : (r8 n).legs = n:=rfl
   have hpts : ptsV (r8 n) (resV m) = if m.g < m.f then (3,0) else (0,3):=by
    unfold ptsV resV
    by_cases c : m.g < m.f
    · simp [c,r8]
    · have c2 : m.f < m.g:=by omega
      simp [c,c2,r8]
   rw [hpts]
   simp only [hh,ha,Int.toNat_natCast]
   have hx : ∀ (w lo p : Int),addW x w lo p = ⟨x.team,x.pl + 1,x.won + (if lo < w then 1 else 0),x.dr + (if w = lo then 1 else 0),x.lo + (if w < lo then 1 else 0),x.f + w,x.g + lo,x.pts + p⟩:=fun w lo p=>rfl
   have hha : h ≠ a:=fun e=>a3 (by rw [hh,ha,e])
   have hht : ((h : Int) = (t : Int)) = (h = t):=by rw [Int.natCast_inj]
   have hat : ((a : Int) = (t : Int)) = (a = t):=by rw [Int.natCast_inj]
   simp only [hht,hat,hx]
   by_cases c : m.g < m.f
   · have c2 : ¬ m.f < m.g:=by omega
     by_cases e1 : h = t
     · subst e1
       simp only [if_pos c,if_neg c2,if_neg (Ne.symm hha),if_true,if_neg hne]
       omega
     · by_cases e2 : a = t
       · subst e2
         simp only [if_pos c,if_neg c2,if_neg hha,if_true,if_neg (Ne.symm hne),if_neg e1]
         omega
       · simp only [if_pos c,if_neg e1,if_neg e2]
         omega
   · have c2 : m.f < m.g:=by omega
     by_cases e1 : h = t
     · subst e1
       simp only [if_neg c,if_pos c2,if_neg (Ne.symm hha),if_true,if_neg hne]
       omega
     · by_cases e2 : a = t
       · subst e2
         simp only [if_neg c,if_pos c2,if_neg hha,if_true,if_neg (Ne.symm hne),if_neg e1]
         omega
       · simp only [if_neg c,if_neg e1,if_neg e2]
         omega
theorem tab8 {n : Nat} (hn : n ≤ 30) {l : List Mt} (hl : ∀ m ∈ l,Odd8 n m) {i : Nat} (hi : i < 4) :
 ∃ (w : Rw) (t : Nat), (sortW (rowsL (r8 n) l))[i]? = some w ∧ t < 4 ∧ w.team = t ∧ w.won = (wonL l).getD t 0 ∧ w.f = (ptsT l).getD t 0 ∧ w.dr = 0 ∧ w.pts = 3 * (wonL l).getD t 0 ∧
   (0 ≤ (wonL l).getD t 0 ∧ (wonL l).getD t 0 ≤ l.length) ∧ 0 ≤ (ptsT l).getD t 0 ∧ (ptsT l).getD t 0 ≤ 30 * l.length:=by
 have hp : (sortW (rowsL (r8 n) l)).Perm (rowsL (r8 n) l):=by unfold sortW; exact sortN_perm _ _
 have hlen : (sortW (rowsL (r8 n) l)).length = 4:=by rw [hp.length_eq]; simp [rowsL,nT,r8]
 obtain ⟨w,hw⟩:=opt_of_lt (l:=sortW (rowsL (r8 n) l)) (i:=i) (by omega)
 have hm:=hp.mem_iff.1 (mem_of_opt hw)
 obtain ⟨t,ht,rfl⟩:=List.mem_map.1 hm
 have ht4 : t < 4:=by have:=List.mem_range.1 ht; simpa [nT,r8] using this
 obtain ⟨i1,i2,i3,i4,i5,i6,i7⟩:=row8 hn hl ht4
 exact ⟨_,t,hw,ht4,i5,i1,i2,i3,i4,i6,i7⟩
theorem tab8_len (n : Nat) (l : List Mt) : (sortW (rowsL (r8 n) l)).length = 4:=by
 have hp : (sortW (rowsL (r8 n) l)).Perm (rowsL (r8 n) l):=by unfold sortW; exact sortN_perm _ _
 rw [hp.length_eq]; simp [rowsL,nT,r8]
set_option maxHeartbeats 2000000
theorem xcall_yield {n : Nat} {l : List (Nat × AV)} {vs : Nat → Nat} {cs : List (Nat × RowC)} {P : Program} {d : Option Nat} {ll : Nat} {z : Bool} {e : List RV} {rest : List (List RV)} {xs : List AV} {K : AS → Prop} (hrow : lookc cs 999 = .gh P ll z (some (e :: rest)))
 (hp : AV.pureL xs = true) (he : snapVL (st n l vs cs).rows xs = e) (hfl : RV.flatL e = true ∨ z = false) (hK1 : K ((st n l vs (insc cs 999 (.gh P ll z (some rest)))).put d (.r (.bo true)))) (hK2 : K ((st n l vs (insc cs 999 (.gh P ll z none))).put d (.r (.bo false)))) :
 xcall P false (st n l vs cs) d (.r (.yl ll)) xs K:=by
 have hr : ∀ c,(st n l vs cs).row 999 ⟨((st n l vs cs).rows 999).ver,c⟩ = st n l vs (insc cs 999 c):=fun c=>by
  rw [row_st]
  congr 1
  exact upd_self vs 999
 exact .inr (.inl ⟨rfl,.inr (.inr (.inl ⟨ll,z,e,rest,rfl,hrow,hp,he ▸ leL_refl _,hfl,by rw [hr]; exact hK1,by rw [hr]; exact hK2⟩))⟩)
theorem fitV_sub {n : Nat} {F : (Nat → Nat) → List (Nat × AV)} {R : (Nat → Nat) → List (Nat × RowC)} {s s' : AS} (h : Sub s s') (hf : FitV n F R s') : FitV n F R s:=by
 obtain ⟨vs,hs⟩:=hf
 exact ⟨vs,fun C a w hw=>hs C a w (h C a w hw)⟩
theorem clip_ok (l : List Int) (hl : l.length ≤ 1000) : ACalls Try.prog 236 [ints l] (if l = [] then .ns else .sx 1 (l.map fun x=>[i64 x])):=by
 refine acalls_st (rs:=[if l = [] then .ns else .sx 1 (l.map fun x=>[i64 x])]) [.tmp 2] Try.func236 rfl (by kernel_rfl) Try.ntmps236 rfl (by simp) rfl fun C vs=>?_
 repeat refine zq ?_
 refine zb fun K hK=>?_;simp only [go_sem];(try simp (disch:=omega) only [zI]);repeat first | intro _ | refine ⟨by omega,?_⟩
 refine hK _ ?_;clear hK K;refine zw (zk [0]) ?_;simp only [go_sem]
 repeat refine zq ?_
 refine awp_long ?_
 refine sops_take 5 (by kernel_rfl) fun K hK=>?_
 simp only [go_sem,List.take_succ_cons,List.take_zero,List.drop_succ_cons,List.drop_zero,List.append_eq,List.cons_append,List.nil_append];(try simp (disch:=omega) only [zI]);repeat first | intro _ | refine ⟨by omega,?_⟩
 refine hK _ rfl ?_
 clear hK K
 refine sops_sub (zk [3,5,7]) ?_
 simp only [go_sem]
 refine sops_gop rfl (by intro t h; injection h with h; subst h; show 8 < 9; decide) (by intro c h; cases h) (gop_clip rfl (s:=_) ty41 (sz:=1) (es:=l.map fun x=>[i64 x]) rfl (k1:=.i64) (k2:=.i64) (by simp only [go_sem,List.length_map]) (by simp only [go_sem,List.length_map]) ?_)
 try simp only [go_sem]
 refine sops_end (by kernel_rfl) fun K hK=>?_
 simp only [go_sem,List.drop_succ_cons,List.drop_zero,List.append_eq,List.cons_append,List.nil_append];(try simp (disch:=omega) only [zI]);repeat first | intro _ | refine ⟨by omega,?_⟩
 refine hK _ ?_;clear hK K;refine zw (zk [2]) ?_;simp only [go_sem];refine ze ?_;simp only [go_sem]
 by_cases h : l = []
 · subst h; simp
   exact leL_refl.le_refl _
 · have : ¬ (l.map fun x=>[i64 x]) = []:=by simpa using h
   simp only [if_neg h,if_neg this];exact leL_refl.le_refl _
set_option maxHeartbeats 4000000
structure Th where
 res : List Int
 pts : List Int
 won : List Int
def thC (t : Th) : List RV:=ints t.res :: (t.pts ++ t.won).map fun x=>i64 x
abbrev thV (t : Th) : RV:=.ag (thC t)
structure WfT (B : Int) (t : Th) : Prop where
 pl : t.pts.length = 10
 wl : t.won.length = 10
 pb : ∀ x ∈ t.pts,-1000 ≤ x ∧ x ≤ B
 wb : ∀ x ∈ t.won,-1000 ≤ x ∧ x ≤ B
 rl : t.res.length ≤ 500
theorem thC_len {B : Int} {t : Th} (h : WfT B t) : (thC t).length = 21:=by simp [thC,h.pl,h.wl]
def bump (l : List Int) (h a : Nat) (p q : Int) : List Int:=(l.set h (l.getD h 0 + p)).set a (l.getD a 0 + q)
theorem bump_len (l : List Int) (h a : Nat) (p q : Int) : (bump l h a p q).length = l.length:=by simp [bump]
def nextT (r : Tr) (m : Mt) (x : Int) (t : Th) : Th:=⟨t.res ++ [x],bump t.pts m.h.toNat m.a.toNat (ptsV r x).1 (ptsV r x).2,bump t.won m.h.toNat m.a.toNat (ptsV r x).1 (ptsV r x).2⟩
def xsOf (r : Tr) : List Int:=if r.legs % 2 = 1 then [0,2] else [0,1,2]
def truthsV (r : Tr) : List Mt → Th → List Th
 | [],t=>[t]
 | m :: ms,t=>(xsOf r).flatMap fun x=>truthsV r ms (nextT r m x t)
theorem getD_le {B : Int} {l : List Int} (h : ∀ x ∈ l,-1000 ≤ x ∧ x ≤ B) (hB : 0 ≤ B) (i : Nat) : -1000 ≤ l.getD i 0 ∧ l.getD i 0 ≤ B:=by
 by_cases hi : i < l.length
 · rw [List.getD_eq_getElem?_getD,List.getElem?_eq_getElem hi]; exact h _ (List.getElem_mem _)
 · rw [List.getD_eq_getElem?_getD,List.getElem?_eq_none (by omega)]; simp; omega
theorem bump_le {B : Int} {l : List Int} (h : ∀ x ∈ l,-1000 ≤ x ∧ x ≤ B) (hB : 0 ≤ B) {i j : Nat} {p q : Int} (hp : 0 ≤ p ∧ p ≤ 9) (hq : 0 ≤ q ∧ q ≤ 9) : ∀ x ∈ bump l i j p q,-1000 ≤ x ∧ x ≤ B + 9:=fun x hx=>by
 unfold bump at hx
 have g1:=getD_le h hB i
 have g2:=getD_le h hB j
 rcases List.mem_or_eq_of_mem_set hx with hx | rfl
 · rcases List.mem_or_eq_of_mem_set hx with hx | rfl
   · have:=h x hx; omega
   · omega
 · omega
theorem WfT.next {B : Int} {t : Th} (h : WfT B t) (hB : 0 ≤ B) {r : Tr} (hr : RulesI r) {m : Mt} {x : Int} (hl : t.res.length < 500) : WfT (B + 9) (nextT r m x t):=by
 have hp:=ptsV_le hr x
 refine ⟨by simp [nextT,bump_len,h.pl],by simp [nextT,bump_len,h.wl],bump_le h.pb hB (by omega) (by omega),bump_le h.wb hB (by omega) (by omega),by simp [nextT]; omega⟩
def remT (r : Tr) (ms : List Mt) (m : Mt) (t : Th) (i : Nat) : List (List RV) :=
 if i = 0 then ((xsOf r).flatMap fun x=>truthsV r ms (nextT r m x t)).map fun t=>[thV t]
 else if i = 1 then (((xsOf r).filter fun x=>decide (1 ≤ x)).flatMap fun x=>truthsV r ms (nextT r m x t)).map fun t=>[thV t]
 else if i = 2 then (truthsV r ms (nextT r m 2 t)).map fun t=>[thV t] else []
theorem remT_skip {r : Tr} {ms : List Mt} {m : Mt} {t : Th} (h : r.legs % 2 = 1) : remT r ms m t 1 = remT r ms m t 2:=by
 simp [remT,xsOf,h]
theorem remT_step {r : Tr} {ms : List Mt} {m : Mt} {t : Th} {i : Nat} (hi : i < 3) (h : ¬ (i = 1 ∧ r.legs % 2 = 1)) : remT r ms m t i = (truthsV r ms (nextT r m (i : Int) t)).map (fun t=>[thV t]) ++ remT r ms m t (i + 1):=by
 have : i = 0 ∨ i = 1 ∨ i = 2:=by omega
 rcases this with rfl | rfl | rfl
 · by_cases h1 : r.legs % 2 = 1 <;> simp [remT,xsOf,h1]
 · have h2 : ¬ r.legs % 2 = 1:=fun e=>h ⟨rfl,e⟩
   simp [remT,xsOf,h2]
 · simp [remT]
abbrev aI (x : Int) : AV:=.r (i64 x)
theorem set_cells (L : List Int) (q : Nat) (v : Int) (h : q < L.length) : (L.map aI).take q ++ AV.r (i64 v) :: (L.map aI).drop (q + 1) = (L.set q v).map aI:=by
 rw [List.map_set,List.set_eq_take_append_cons_drop,if_pos (by simpa using h)]
def cT (t : Th) (h a : Nat) (p q : Int) : Nat → List Int
 | 0=>t.pts ++ t.won
 | 1=>bump t.pts h a p q ++ t.won
 | _=>bump t.pts h a p q ++ bump t.won h a p q
theorem getD_app1 {P W : List Int} {k : Nat} (h : k < P.length) : (P ++ W).getD k 0 = P.getD k 0:=by
 rw [List.getD_eq_getElem?_getD,List.getElem?_append_left h,← List.getD_eq_getElem?_getD]
theorem getD_app2 {P W : List Int} {k : Nat} (h : P.length = 10) : (P ++ W).getD (10 + k) 0 = W.getD k 0:=by
 rw [List.getD_eq_getElem?_getD,List.getElem?_append_right (by omega),h,Nat.add_sub_cancel_left,← List.getD_eq_getElem?_getD]
theorem app_set1 {P W : List Int} {q : Nat} {v : Int} (h : q < P.length) : (P ++ W).set q v = P.set q v ++ W:=List.set_append_left _ _ h
theorem app_set2 {P W : List Int} {q : Nat} {v : Int} (h : P.length = 10) : (P ++ W).set (10 + q) v = P ++ W.set q v:=by
 rw [List.set_append_right _ _ (by omega),h,Nat.add_sub_cancel_left]
def foF (r : Tr) (l : List Mt) (t t2 : Th) (m : Mt) (ms : List Mt) (i ll : Nat) (b : Nat → Bool) (z : Bool) (vs : Nat → Nat) : List (Nat × AV) :=
 [(2,.r (mtsR (m :: ms))),(3,.r (.yl ll)),(4,.r (.rp (dvC r l))),(5,.r (.rp (thC t))),(9,.r (.rp (mtR m))),(10,.r (i64 (i : Int))),(13,.r (.rp (thC t2))),
  (81,vI b 0 (.r (dvV r l))),
  (82,vI b 1 (.r (thV t2))),
  (83,vI b 2 (.r (mtsR (m :: ms)))),
  (84,vI b 3 (.r (mtsR ms))),
  (85,vI b 4 (.r (.yl ll))),
  (86,vI b 5 (.r (.bo z))),
  (87,vI b 6 (.r (.bo (!z))))]
def ghO (x z : Bool) (xs rest : List (List RV)) : Option (List (List RV)):=bif x then (bif z then some rest else none) else some (xs ++ rest)
theorem follow_ok (r : Tr) (hr : RulesI r) (l : List Mt) : ∀ (left : List Mt) (B : Int) (t : Th),(∀ m ∈ left,MatchI r m) → 0 ≤ B → B + 9 * left.length ≤ 100000 → t.res.length + left.length ≤ 400 → WfT B t →
 YCalls Try.prog 209 (fun ll=>[dvV r l,thV t,mtsR left,.yl ll]) ((truthsV r left t).map fun t=>[thV t])
 | [], B, t, _, hB, hB2, hrl, ht => by
   have h21:=thC_len ht
   have htk : List.take 21 (thC t) = thC t:=List.take_of_length_le (by omega)
   refine ycalls_st (n:=88) (t:=8) Try.func209 rfl (by kernel_rfl) Try.ntmps209 rfl (by simp) fun C ll rest hC=>?_
   repeat refine zq ?_
   refine zb fun K hK=>?_;simp only [go_sem,h21];(try simp (disch:=omega) only [zI]);repeat first | intro _ | refine ⟨by omega,?_⟩
   refine hK _ ?_;clear hK K;refine zw (sub_frzP 4 4 (dvC r l) (by omega) rfl rfl) ?_;refine zw (sub_frzP 5 5 (thC t) (by omega) rfl rfl) ?_;refine zw (zk [2,3,4,5]) ?_;simp only [go_sem]
   repeat refine zq ?_
   refine zb fun K hK=>?_;simp only [go_sem];(try simp (disch:=omega) only [zI]);repeat first | intro _ | refine ⟨by omega,?_⟩
   refine hK _ ?_;clear hK K;refine zw (zk [2,3,4,5,18]) ?_;simp only [go_sem]
   repeat refine zq ?_
   refine zc rfl (fun hc=>?_) (fun hc=>?_) <;> (try simp only [go_sem] at hc)
   repeat refine zq ?_
   refine zb fun K hK=>?_;simp only [go_sem,h21,htk];(try simp (disch:=omega) only [zI])
   refine xcall_yield (e:=[thV t]) (rest:=rest) (by simp only [go_sem,truthsV,List.map_cons,List.map_nil,List.cons_append,List.nil_append]) rfl (by simp only [go_sem]) (.inr rfl) ?_ ?_
   · simp only [go_sem];repeat first | intro _ | refine ⟨by omega,?_⟩
     refine hK _ ?_;clear hK K;refine zw (zk [8]) ?_;simp only [go_sem];refine ze ?_;exact ⟨true,ll,rfl,rfl⟩
   · simp only [go_sem];repeat first | intro _ | refine ⟨by omega,?_⟩
     refine hK _ ?_;clear hK K;refine zw (zk [8]) ?_;simp only [go_sem];refine ze ?_;exact ⟨false,ll,rfl,rfl⟩
 | m :: ms, B, t, hms, hB, hB2, hrl, ht => by
   have ih:=fun x=>follow_ok r hr l ms (B + 9) (nextT r m x t) (fun m' h=>hms m' (by simp [h])) (by omega) (by simp at hB2; omega) (by simp [nextT] at hrl ⊢; omega) (ht.next hB hr (by simp at hrl; omega))
   have h21:=thC_len ht
   have htk : List.take 21 (thC t) = thC t:=List.take_of_length_le (by omega)
   have hmi:=hms m (by simp)
   refine ycalls_st (n:=88) (t:=8) Try.func209 rfl (by kernel_rfl) Try.ntmps209 rfl (by simp) fun C ll rest hC=>?_
   repeat refine zq ?_
   refine zb fun K hK=>?_;simp only [go_sem,h21];(try simp (disch:=omega) only [zI]);repeat first | intro _ | refine ⟨by omega,?_⟩
   refine hK _ ?_;clear hK K;refine zw (sub_frzP 4 4 (dvC r l) (by omega) rfl rfl) ?_;refine zw (sub_frzP 5 5 (thC t) (by omega) rfl rfl) ?_;refine zw (zk [2,3,4,5]) ?_;simp only [go_sem]
   repeat refine zq ?_
   refine zb fun K hK=>?_;simp only [go_sem];(try simp (disch:=omega) only [zI]);repeat first | intro _ | refine ⟨by omega,?_⟩
   refine hK _ ?_;clear hK K;refine zw (zk [2,3,4,5,18]) ?_;simp only [go_sem]
   have hlz : (((m :: ms).map mtR).length : Int) = ms.length + 1:=by simp
   repeat refine zq ?_
   refine zc rfl (fun hc=>?_) (fun hc=>?_) <;> (try simp only [go_sem] at hc)
   · exfalso; omega
   refine zx ?_
   try simp only [go_sem]
   repeat refine zq ?_
   refine zb fun K hK=>?_;simp only [go_sem];(try simp (disch:=omega) only [zI]);repeat first | intro _ | refine ⟨by omega,?_⟩
   refine hK _ ?_;clear hK K;refine zw (sub_frzP 9 9 (mtR m) (by omega) rfl rfl) ?_;refine zw (zk [2,3,4,5,9]) ?_;simp only [go_sem]
   repeat refine zq ?_
   refine zb fun K hK=>?_;simp only [go_sem];(try simp (disch:=omega) only [zI]);repeat first | intro _ | refine ⟨by omega,?_⟩
   refine hK _ ?_;clear hK K;refine zw (zk [2,3,4,5,9,10]) ?_;simp only [go_sem]
   repeat refine zq ?_
   refine zd ?_
   obtain ⟨h,hh⟩:=Int.eq_ofNat_of_zero_le hmi.h.1
   obtain ⟨a,ha⟩:=Int.eq_ofNat_of_zero_le hmi.a.1
   have hrt:=hr.teams
   have hh10 : h < 10:=by have:=hmi.h; omega
   have ha10 : a < 10:=by have:=hmi.a; omega
   have hne : h ≠ a:=fun e=>hmi.ne (by rw [hh,ha,e])
   have hleg:=hr.legs
   have hrem : r.legs.tmod 2 = r.legs % 2:=Int.tmod_eq_emod_of_nonneg (by omega)
   refine awp_uptoV (n:=88) 3 (fun i vs=>[(2,.r (mtsR (m :: ms))),(3,.r (.yl ll)),(4,.r (.rp (dvC r l))),(5,.r (.rp (thC t))),(9,.r (.rp (mtR m))),(10,.r (i64 (i : Int)))])
    (fun i vs=>[(999,.gh Try.prog ll false (some (remT r ms m t i ++ rest)))]) (fun _=>True) 0 (zj [] ?_ ?_) (Nat.zero_le _) trivial ?_
   · try simp only [go_sem]
   · try simp only [go_sem]
     rfl
   · intro i vs hi _
     repeat refine zq ?_
     refine zb fun K hK=>?_;simp only [go_sem];(try simp (disch:=omega) only [zI]);repeat first | intro _ | refine ⟨by omega,?_⟩
     refine hK _ ?_;clear hK K;refine zw (zk [2,3,4,5,9,10,26]) ?_;simp only [go_sem]
     repeat refine zq ?_
     refine zc rfl (fun hc=>?_) (fun hc=>?_) <;> (try simp only [go_sem] at hc)
     · have hci : i < 3:=by omega
       refine zx ?_
       try simp only [go_sem]
       repeat refine zq ?_
       refine zd ?_
       by_cases hskip : i = 1 ∧ r.legs % 2 = 1
       · obtain ⟨rfl,hodd⟩:=hskip
         have e1 : (r.legs % 2 == 1) = true:=by simpa using hodd
         repeat refine zq ?_
         refine zb fun K hK=>?_;simp only [go_sem,hrem,e1];(try simp (disch:=omega) only [zI]);repeat first | intro _ | refine ⟨by omega,?_⟩
         refine hK _ ?_;clear hK K;refine zw (zk [2,3,4,5,9,10,37]) ?_;simp only [go_sem]
         repeat refine zq ?_
         refine zc rfl (fun hc=>?_) (fun hc=>?_) <;> (try simp only [go_sem] at hc)
         refine zf ?_;simp only [go_sem]
         repeat refine zq ?_
         refine zb fun K hK=>?_;simp only [go_sem];(try simp (disch:=omega) only [zI]);repeat first | intro _ | refine ⟨by omega,?_⟩
         refine hK _ ?_;clear hK K
         try simp only [go_sem]
         refine zj [] ?_ ?_
         · try simp only [go_sem]
         · simp only [go_sem,remT_skip hodd]
       · have hst:=remT_step (r:=r) (ms:=ms) (m:=m) (t:=t) hci hskip
         repeat refine zq ?_
         refine awp_joinV (n:=88) (fun (_ : Unit) vs=>[(2,.r (mtsR (m :: ms))),(3,.r (.yl ll)),(4,.r (.rp (dvC r l))),(5,.r (.rp (thC t))),(9,.r (.rp (mtR m))),(10,.r (i64 (i : Int))),(37,.r (.bo false))]) (fun _ vs=>[(999,.gh Try.prog ll false (some (remT r ms m t i ++ rest)))]) (fun _=>True) (fun _ h=>h) ?_ ?_
         · by_cases h1 : i = 1
           · have h2 : ¬ r.legs % 2 = 1:=fun e=>hskip ⟨h1,e⟩
             have e1 : (r.legs % 2 == 1) = false:=by simpa using h2
             have e2 : ((i : Int) == 1) = true:=by simp; omega
             repeat refine zq ?_
             refine zb fun K hK=>?_;simp only [go_sem,hrem,e1,e2];(try simp (disch:=omega) only [zI]);repeat first | intro _ | refine ⟨by omega,?_⟩
             refine hK _ ?_;clear hK K
             refine ⟨(),trivial,zj [] ?_ ?_⟩
             · try simp only [go_sem]
             · try simp only [go_sem]
           · have e2 : ((i : Int) == 1) = false:=by simp; omega
             repeat refine zq ?_
             refine zb fun K hK=>?_;simp only [go_sem,e2];(try simp (disch:=omega) only [zI]);repeat first | intro _ | refine ⟨by omega,?_⟩
             refine hK _ ?_;clear hK K
             refine ⟨(),trivial,zj [] ?_ ?_⟩
             · try simp only [go_sem]
             · try simp only [go_sem]
         intro _ vs _
         repeat refine zq ?_
         refine zc rfl (fun hc=>?_) (fun hc=>?_) <;> (try simp only [go_sem] at hc)
         refine zx ?_
         try simp only [go_sem]
         have hpo:=points_ok r l (i : Int) (by omega)
         have hpv:=ptsV_le hr (i : Int)
         obtain ⟨p,hp⟩ : ∃ p,p = (ptsV r (i : Int)).1:=⟨_,rfl⟩
         obtain ⟨q,hq⟩ : ∃ q,q = (ptsV r (i : Int)).2:=⟨_,rfl⟩
         rw [← hp,← hq] at hpo hpv
         repeat refine zq ?_
         refine zb fun K hK=>?_;simp only [go_sem];(try simp (disch:=omega) only [zI])
         refine zh (hpo) rfl (by simp only [go_sem,i64,ints]) (by simp only [go_sem,i64,ints]) (by first | exact .inl rfl | exact .inr rfl) ?_
         (try simp only [go_sem]);(try simp (disch:=omega) only [zI]);repeat first | intro _ | refine ⟨by omega,?_⟩
         refine hK _ ?_;clear hK K;refine zw (zk [2,3,4,5,9,10,11,12]) ?_;simp only [go_sem]
         repeat refine zq ?_
         refine zb fun K hK=>?_;simp only [go_sem,h21,htk];(try simp (disch:=omega) only [zI]);repeat first | intro _ | refine ⟨by omega,?_⟩
         refine hK _ ?_;clear hK K;refine zw (zk [2,3,4,5,9,10,11,12,13]) ?_;simp only [go_sem]
         have hth : List.map AV.r (thC t) = AV.r (ints t.res) :: (t.pts ++ t.won).map aI:=by unfold thC; simp [Function.comp_def]
         have hth0 : thC t = ints t.res :: (t.pts ++ t.won).map fun x=>i64 x:=rfl
         have hcl:=clip_ok t.res (by simp at hrl; omega)
         have hrl2 : t.res.length ≤ 400:=by simp at hrl; omega
         rw [hth]
         repeat refine zq ?_
         refine awp_joinV (n:=88) (fun (_ : Unit) vs=>[(2,.r (mtsR (m :: ms))),(3,.r (.yl ll)),(4,.r (.rp (dvC r l))),(5,.r (.rp (thC t))),(9,.r (.rp (mtR m))),(10,.r (i64 (i : Int))),(11,.r (i64 p)),(12,.r (i64 q)),(13,.pt 13 (vs 13) 0)])
          (fun _ vs=>[(13,.box (.r (ints (t.res ++ [(i : Int)])) :: (t.pts ++ t.won).map aI)),(999,.gh Try.prog ll false (some (remT r ms m t i ++ rest)))]) (fun _=>True) (fun _ h=>h) ?_ ?_
         · by_cases h0 : t.res = []
           · rw [if_pos h0] at hcl
             repeat refine zq ?_
             refine zb fun K hK=>?_;simp only [go_sem,hth0];(try simp (disch:=omega) only [zI])
             refine zh (hcl) rfl (by simp only [go_sem,i64,ints,hth0]) (by simp only [go_sem,i64,ints,hth0]) (by first | exact .inl rfl | exact .inr rfl) ?_
             (try simp only [go_sem,hth0]);(try simp (disch:=omega) only [zI]);repeat first | intro _ | refine ⟨by omega,?_⟩
             refine hK _ ?_;clear hK K
             refine ⟨(),trivial,fitV_sub (sub_frzB 13 0 50 (ty:=3) (sz:=1) (off:=0) (m:=1) (es:=[[i64 (i : Int)]]) (by omega) (by omega) rfl rfl rfl (by simp)) (zj [] ?_ ?_)⟩
             · try simp only [go_sem]
               rfl
             · try simp only [go_sem]
               rw [h0]
               try rfl
           · rw [if_neg h0] at hcl
             repeat refine zq ?_
             refine zb fun K hK=>?_;simp only [go_sem,hth0];(try simp (disch:=omega) only [zI])
             refine zh (hcl) rfl (by simp only [go_sem,i64,ints,hth0]) (by simp only [go_sem,i64,ints,hth0]) (by first | exact .inl rfl | exact .inr rfl) ?_
             (try simp only [go_sem,hth0]);(try simp (disch:=omega) only [zI]);repeat first | intro _ | refine ⟨by omega,?_⟩
             refine hK _ ?_;clear hK K
             refine ⟨(),trivial,fitV_sub (sub_frzB 13 0 50 (ty:=3) (sz:=1) (off:=0) (m:=t.res.length + 1) (es:=t.res.map (fun x=>[i64 x]) ++ [[i64 (i : Int)]]) (by omega) (by omega) rfl rfl rfl (by simp)) (zj [] ?_ ?_)⟩
             · try simp only [go_sem]
               rfl
             · try simp only [go_sem]
               rw [List.take_of_length_le (by simp)]
               simp
         intro _ vs _
         repeat refine zq ?_
         refine awp_long ?_
         refine sops_take 2 (by kernel_rfl) fun K hK=>?_
         simp only [go_sem,List.take_succ_cons,List.take_zero,List.drop_succ_cons,List.drop_zero,List.append_eq,List.cons_append,List.nil_append];(try simp (disch:=omega) only [zI]);repeat first | intro _ | refine ⟨by omega,?_⟩
         refine hK _ rfl ?_
         clear hK K
         refine sops_sub (zk [2,3,4,5,9,10,11,12,13,52,53]) ?_
         simp only [go_sem]
         refine sops_litB (by simp [go_sem]) ?_
         simp only [go_sem,sLitBox,lay,List.replicate_succ,List.replicate_zero,List.flatten_cons,List.flatten_nil,List.map_cons,List.map_nil,List.cons_append,List.nil_append]
         repeat first | refine ⟨by omega,?_⟩
         refine sops_end (by kernel_rfl) fun K hK=>?_
         simp only [go_sem,List.drop_succ_cons,List.drop_zero,List.append_eq,List.cons_append,List.nil_append];(try simp (disch:=omega) only [zI]);repeat first | intro _ | refine ⟨by omega,?_⟩
         refine hK _ ?_;clear hK K;refine zw (zk [2,3,4,5,9,10,11,12,13,54,55,56]) ?_;simp only [go_sem]
         repeat refine zq ?_
         refine zd ?_
         have hpl:=ht.pl
         have hwl:=ht.wl
         have Bp:=getD_le ht.pb hB
         have Bw:=getD_le ht.wb hB
         obtain ⟨X,hX⟩ : ∃ X : AV,X = .r (ints (t.res ++ [(i : Int)])):=⟨_,rfl⟩
         obtain ⟨G,hG⟩ : ∃ G : RowC,G = .gh Try.prog ll false (some (remT r ms m t i ++ rest)):=⟨_,rfl⟩
         rw [← hX,← hG]
         have fh : ∀ (L : List Int) (k : Nat),k < L.length → (List.drop k (L.map aI)).headD (AV.r RV.un) = .r (i64 (L.getD k 0)):=fun L k hk=>by
          rw [List.headD_eq_head?_getD,List.head?_drop,List.getElem?_map,List.getD_eq_getElem?_getD,List.getElem?_eq_getElem hk]; rfl
         refine awp_uptoV (n:=88) 2 (fun j vs=>[(2,.r (mtsR (m :: ms))),(3,.r (.yl ll)),(4,.r (.rp (dvC r l))),(5,.r (.rp (thC t))),(9,.r (.rp (mtR m))),(10,.r (i64 (i : Int))),(11,.r (i64 p)),(12,.r (i64 q)),(13,.pt 13 (vs 13) 0),(54,.os 54 (vs 54) 1 0 2),(55,.r (i64 2)),(56,.r (i64 (j : Int)))])
          (fun j vs=>[(13,.box (X :: (cT t h a p q j).map aI)),(54,.ara 398 1 [.pt 13 (vs 13) 1,.pt 13 (vs 13) 11]),(999,G)]) (fun _=>True) 0 (zj [] ?_ ?_) (Nat.zero_le _) trivial ?_
         · try simp only [go_sem]
         · try simp only [go_sem]
           rfl
         · intro j vs hj _
           have : j = 0 ∨ j = 1 ∨ j = 2:=by omega
           rcases this with rfl | rfl | rfl
           · simp only [cT]
             repeat refine zq ?_
             refine zb fun K hK=>?_;simp only [go_sem];(try simp (disch:=omega) only [zI]);repeat first | intro _ | refine ⟨by omega,?_⟩
             refine hK _ ?_;clear hK K;refine zw (zk [2,3,4,5,9,10,11,12,13,54,55,56,57]) ?_;simp only [go_sem]
             repeat refine zq ?_
             refine zc rfl (fun hc=>?_) (fun hc=>?_) <;> (try simp only [go_sem] at hc)
             refine zx ?_
             try simp only [go_sem]
             repeat refine zq ?_
             refine zd ?_
             repeat refine zq ?_
             refine zb fun K hK=>?_;simp only [go_sem];(try simp (disch:=omega) only [zI]);repeat first | intro _ | refine ⟨by omega,?_⟩
             refine hK _ ?_;clear hK K;refine zw (zk [2,3,4,5,9,10,11,12,13,15,54,55,56]) ?_;simp only [go_sem]
             have d1h : ∀ M : List AV,List.drop (1 + h) (X :: M) = M.drop h:=fun M=>by rw [show 1 + h = h + 1 by omega]; rfl
             have d2h : ∀ M : List AV,List.take (1 + h) (X :: M) = X :: M.take h:=fun M=>by rw [show 1 + h = h + 1 by omega]; rfl
             have d3h : ∀ M : List AV,List.drop (1 + h + 1) (X :: M) = M.drop (h + 1):=fun M=>by rw [show 1 + h + 1 = (h + 1) + 1 by omega]; rfl
             have dLh : (t.pts ++ t.won).length = 20:=by simp [bump_len,hpl,hwl]
             have dgh : (t.pts ++ t.won).getD h 0 = t.pts.getD h 0:=by
              rw [getD_app1 (by first | omega | (simp; omega))]
             have dhh : (List.drop h ((t.pts ++ t.won).map aI)).headD (AV.r RV.un) = .r (i64 (t.pts.getD h 0)):=by rw [fh (t.pts ++ t.won) h (by omega),dgh]
             have dMh : ∀ v,List.take h ((t.pts ++ t.won).map aI) ++ (AV.r (i64 v) :: List.drop (h + 1) ((t.pts ++ t.won).map aI)) = ((t.pts ++ t.won).set h v).map aI:=fun v=>set_cells _ _ _ (by omega)
             have wh : IntKind.i64.wrap (t.pts.getD h 0 + p) = t.pts.getD h 0 + p:=by have:=Bp h; rw [zI] <;> omega
             have wa : IntKind.i64.wrap (t.pts.getD a 0 + q) = t.pts.getD a 0 + q:=by have:=Bp a; rw [zI] <;> omega
             repeat refine zq ?_
             refine awp_dreg2 [(15,some 13),(9,none),(11,none),(12,none)] follows (by decide +kernel) (by kernel_rfl) (by simp only [keysOk,List.mem_cons,List.not_mem_nil,forall_eq_or_imp,Oc.keyOf,go_sem]; simp) fun K hK=>?_
             simp only [go_sem,hh,ha,Nat.mul_one,d1h,d2h,d3h,dhh,dMh,wh];(try simp (disch:=omega) only [zI]);repeat first | intro _ | refine ⟨by omega,?_⟩
             try simp only [go_sem,hh,ha,Nat.mul_one,d1h,d2h,d3h,dhh,dMh,wh]
             repeat first | intro _ | refine ⟨by omega,?_⟩
             repeat first | intro _ | refine ⟨by omega,?_⟩
             refine hK _ ?_;clear hK K;rw [app_set1 (by omega)]
             refine zw (zk [2,3,4,5,9,10,11,12,13,15,54,55,56]) ?_;simp only [go_sem]
             have d1a : ∀ M : List AV,List.drop (1 + a) (X :: M) = M.drop a:=fun M=>by rw [show 1 + a = a + 1 by omega]; rfl
             have d2a : ∀ M : List AV,List.take (1 + a) (X :: M) = X :: M.take a:=fun M=>by rw [show 1 + a = a + 1 by omega]; rfl
             have d3a : ∀ M : List AV,List.drop (1 + a + 1) (X :: M) = M.drop (a + 1):=fun M=>by rw [show 1 + a + 1 = (a + 1) + 1 by omega]; rfl
             have dLa : ((t.pts.set h (t.pts.getD h 0 + p)) ++ t.won).length = 20:=by simp [bump_len,hpl,hwl]
             have dga : ((t.pts.set h (t.pts.getD h 0 + p)) ++ t.won).getD a 0 = t.pts.getD a 0:=by
              rw [getD_app1 (by first | omega | (simp; omega))]
              rw [List.getD_eq_getElem?_getD,List.getElem?_set_ne hne,← List.getD_eq_getElem?_getD]
             have dha : (List.drop a (((t.pts.set h (t.pts.getD h 0 + p)) ++ t.won).map aI)).headD (AV.r RV.un) = .r (i64 (t.pts.getD a 0)):=by rw [fh ((t.pts.set h (t.pts.getD h 0 + p)) ++ t.won) a (by omega),dga]
             have dMa : ∀ v,List.take a (((t.pts.set h (t.pts.getD h 0 + p)) ++ t.won).map aI) ++ (AV.r (i64 v) :: List.drop (a + 1) (((t.pts.set h (t.pts.getD h 0 + p)) ++ t.won).map aI)) = (((t.pts.set h (t.pts.getD h 0 + p)) ++ t.won).set a v).map aI:=fun v=>set_cells _ _ _ (by omega)
             repeat refine zq ?_
             refine awp_dreg2 [(15,some 13),(9,none),(11,none),(12,none)] follows (by decide +kernel) (by kernel_rfl) (by simp only [keysOk,List.mem_cons,List.not_mem_nil,forall_eq_or_imp,Oc.keyOf,go_sem]; simp) fun K hK=>?_
             simp only [go_sem,hh,ha,Nat.mul_one,d1a,d2a,d3a,dha,dMa,wa];(try simp (disch:=omega) only [zI]);repeat first | intro _ | refine ⟨by omega,?_⟩
             try simp only [go_sem,hh,ha,Nat.mul_one,d1a,d2a,d3a,dha,dMa,wa]
             repeat first | intro _ | refine ⟨by omega,?_⟩
             repeat first | intro _ | refine ⟨by omega,?_⟩
             refine hK _ ?_;clear hK K;rw [app_set1 (by first | omega | (simp; omega))]
             refine zw (zk [2,3,4,5,9,10,11,12,13,54,55,56]) ?_;simp only [go_sem]
             repeat refine zq ?_
             refine zb fun K hK=>?_;simp only [go_sem];(try simp (disch:=omega) only [zI]);repeat first | intro _ | refine ⟨by omega,?_⟩
             refine hK _ ?_;clear hK K
             try simp only [go_sem]
             refine zj [] ?_ ?_
             · try simp only [go_sem]
             · try simp only [go_sem]
               try rfl
           · simp only [cT]
             repeat refine zq ?_
             refine zb fun K hK=>?_;simp only [go_sem];(try simp (disch:=omega) only [zI]);repeat first | intro _ | refine ⟨by omega,?_⟩
             refine hK _ ?_;clear hK K;refine zw (zk [2,3,4,5,9,10,11,12,13,54,55,56,57]) ?_;simp only [go_sem]
             repeat refine zq ?_
             refine zc rfl (fun hc=>?_) (fun hc=>?_) <;> (try simp only [go_sem] at hc)
             refine zx ?_
             try simp only [go_sem]
             repeat refine zq ?_
             refine zd ?_
             repeat refine zq ?_
             refine zb fun K hK=>?_;simp only [go_sem];(try simp (disch:=omega) only [zI]);repeat first | intro _ | refine ⟨by omega,?_⟩
             refine hK _ ?_;clear hK K;refine zw (zk [2,3,4,5,9,10,11,12,13,15,54,55,56]) ?_;simp only [go_sem]
             have hPl : (bump t.pts h a p q).length = 10:=by rw [bump_len,hpl]
             have d1h : ∀ M : List AV,List.drop (11 + h) (X :: M) = M.drop (10 + h):=fun M=>by rw [show 11 + h = (10 + h) + 1 by omega]; rfl
             have d2h : ∀ M : List AV,List.take (11 + h) (X :: M) = X :: M.take (10 + h):=fun M=>by rw [show 11 + h = (10 + h) + 1 by omega]; rfl
             have d3h : ∀ M : List AV,List.drop (11 + h + 1) (X :: M) = M.drop ((10 + h) + 1):=fun M=>by rw [show 11 + h + 1 = ((10 + h) + 1) + 1 by omega]; rfl
             have dLh : ((bump t.pts h a p q) ++ t.won).length = 20:=by simp [bump_len,hpl,hwl]
             have dgh : ((bump t.pts h a p q) ++ t.won).getD (10 + h) 0 = t.won.getD h 0:=by
              rw [getD_app2 hPl]
             have dhh : (List.drop (10 + h) (((bump t.pts h a p q) ++ t.won).map aI)).headD (AV.r RV.un) = .r (i64 (t.won.getD h 0)):=by rw [fh ((bump t.pts h a p q) ++ t.won) (10 + h) (by omega),dgh]
             have dMh : ∀ v,List.take (10 + h) (((bump t.pts h a p q) ++ t.won).map aI) ++ (AV.r (i64 v) :: List.drop ((10 + h) + 1) (((bump t.pts h a p q) ++ t.won).map aI)) = (((bump t.pts h a p q) ++ t.won).set (10 + h) v).map aI:=fun v=>set_cells _ _ _ (by omega)
             have wh : IntKind.i64.wrap (t.won.getD h 0 + p) = t.won.getD h 0 + p:=by have:=Bw h; rw [zI] <;> omega
             have wa : IntKind.i64.wrap (t.won.getD a 0 + q) = t.won.getD a 0 + q:=by have:=Bw a; rw [zI] <;> omega
             repeat refine zq ?_
             refine awp_dreg2 [(15,some 13),(9,none),(11,none),(12,none)] follows (by decide +kernel) (by kernel_rfl) (by simp only [keysOk,List.mem_cons,List.not_mem_nil,forall_eq_or_imp,Oc.keyOf,go_sem]; simp) fun K hK=>?_
             simp only [go_sem,hh,ha,Nat.mul_one,d1h,d2h,d3h,dhh,dMh,wh];(try simp (disch:=omega) only [zI]);repeat first | intro _ | refine ⟨by omega,?_⟩
             try simp only [go_sem,hh,ha,Nat.mul_one,d1h,d2h,d3h,dhh,dMh,wh]
             repeat first | intro _ | refine ⟨by omega,?_⟩
             repeat first | intro _ | refine ⟨by omega,?_⟩
             refine hK _ ?_;clear hK K;rw [app_set2 (by omega)]
             refine zw (zk [2,3,4,5,9,10,11,12,13,15,54,55,56]) ?_;simp only [go_sem]
             have d1a : ∀ M : List AV,List.drop (11 + a) (X :: M) = M.drop (10 + a):=fun M=>by rw [show 11 + a = (10 + a) + 1 by omega]; rfl
             have d2a : ∀ M : List AV,List.take (11 + a) (X :: M) = X :: M.take (10 + a):=fun M=>by rw [show 11 + a = (10 + a) + 1 by omega]; rfl
             have d3a : ∀ M : List AV,List.drop (11 + a + 1) (X :: M) = M.drop ((10 + a) + 1):=fun M=>by rw [show 11 + a + 1 = ((10 + a) + 1) + 1 by omega]; rfl
             have dLa : ((bump t.pts h a p q) ++ (t.won.set h (t.won.getD h 0 + p))).length = 20:=by simp [bump_len,hpl,hwl]
             have dga : ((bump t.pts h a p q) ++ (t.won.set h (t.won.getD h 0 + p))).getD (10 + a) 0 = t.won.getD a 0:=by
              rw [getD_app2 hPl]
              rw [List.getD_eq_getElem?_getD,List.getElem?_set_ne hne,← List.getD_eq_getElem?_getD]
             have dha : (List.drop (10 + a) (((bump t.pts h a p q) ++ (t.won.set h (t.won.getD h 0 + p))).map aI)).headD (AV.r RV.un) = .r (i64 (t.won.getD a 0)):=by rw [fh ((bump t.pts h a p q) ++ (t.won.set h (t.won.getD h 0 + p))) (10 + a) (by omega),dga]
             have dMa : ∀ v,List.take (10 + a) (((bump t.pts h a p q) ++ (t.won.set h (t.won.getD h 0 + p))).map aI) ++ (AV.r (i64 v) :: List.drop ((10 + a) + 1) (((bump t.pts h a p q) ++ (t.won.set h (t.won.getD h 0 + p))).map aI)) = (((bump t.pts h a p q) ++ (t.won.set h (t.won.getD h 0 + p))).set (10 + a) v).map aI:=fun v=>set_cells _ _ _ (by omega)
             repeat refine zq ?_
             refine awp_dreg2 [(15,some 13),(9,none),(11,none),(12,none)] follows (by decide +kernel) (by kernel_rfl) (by simp only [keysOk,List.mem_cons,List.not_mem_nil,forall_eq_or_imp,Oc.keyOf,go_sem]; simp) fun K hK=>?_
             simp only [go_sem,hh,ha,Nat.mul_one,d1a,d2a,d3a,dha,dMa,wa];(try simp (disch:=omega) only [zI]);repeat first | intro _ | refine ⟨by omega,?_⟩
             try simp only [go_sem,hh,ha,Nat.mul_one,d1a,d2a,d3a,dha,dMa,wa]
             repeat first | intro _ | refine ⟨by omega,?_⟩
             repeat first | intro _ | refine ⟨by omega,?_⟩
             refine hK _ ?_;clear hK K;rw [app_set2 (by omega)]
             refine zw (zk [2,3,4,5,9,10,11,12,13,54,55,56]) ?_;simp only [go_sem]
             repeat refine zq ?_
             refine zb fun K hK=>?_;simp only [go_sem];(try simp (disch:=omega) only [zI]);repeat first | intro _ | refine ⟨by omega,?_⟩
             refine hK _ ?_;clear hK K
             try simp only [go_sem]
             refine zj [] ?_ ?_
             · try simp only [go_sem]
             · try simp only [go_sem]
               try rfl
           · have hnx : nextT r m (i : Int) t = ⟨t.res ++ [(i : Int)],bump t.pts h a p q,bump t.won h a p q⟩:=by
              unfold nextT; rw [hh,ha,← hp,← hq]; rfl
             have hcell : X :: (cT t h a p q 2).map aI = (thC (nextT r m (i : Int) t)).map AV.r:=by
              rw [hnx,hX]; simp [thC,cT,Function.comp_def]
             have ihx:=ih (i : Int)
             have ht2:=ht.next hB hr (m:=m) (x:=(i : Int)) (by simp at hrl; omega)
             have h221:=thC_len ht2
             obtain ⟨t2,ht2d⟩ : ∃ t2,t2 = nextT r m (i : Int) t:=⟨_,rfl⟩
             rw [← ht2d] at hcell ihx h221 hst
             have htk2 : List.take 21 (thC t2) = thC t2:=List.take_of_length_le (by omega)
             rw [hcell]
             repeat refine zq ?_
             refine zb fun K hK=>?_;simp only [go_sem];(try simp (disch:=omega) only [zI]);repeat first | intro _ | refine ⟨by omega,?_⟩
             refine hK _ ?_;clear hK K;refine zw (zk [2,3,4,5,9,10,13,57]) ?_;simp only [go_sem]
             repeat refine zq ?_
             refine zc rfl (fun hc=>?_) (fun hc=>?_) <;> (try simp only [go_sem] at hc)
             refine zf ?_;simp only [go_sem];refine zw (sub_frzP 13 13 (thC t2) (by omega) rfl rfl) ?_;refine zw (zk [2,3,4,5,9,10,13]) ?_;simp only [go_sem]
             rw [hst,List.append_assoc] at hG
             have hs7 : ((m :: ms).map mtR).drop 1 = ms.map mtR:=rfl
             rw [hG]
             repeat refine zq ?_
             refine awp_invZ (n:=88) (foF r l t t2 m ms i ll) (fun b z vs=>[(999,.gh Try.prog ll false (ghO (b 5) z ((truthsV r ms t2).map fun t=>[thV t]) (remT r ms m t (i + 1) ++ rest)))]) follows (by kernel_rfl) (by kernel_rfl) (by decide +kernel) true (zj [54] ?_ ?_) ?_ ?_
             · simp only [go_sem,foF,vI,if_true,if_false,Bool.false_eq_true]
             · simp only [go_sem,ghO,cond_false]
             · refine ⟨fun b z vs hdn hbk hde=>gop_xop ?_,fun b z vs hdn hbk hde=>gop_xop ?_,fun b z vs hdn hbk hde=>gop_xop ?_,fun b z vs hdn hbk hde=>gop_xop ?_,fun b z vs hdn hbk hde=>gop_xop ?_,fun b z vs hdn hbk hde=>?_,fun b z vs hdn hbk hde=>gop_xop ?_,trivial⟩
               · skip
                 have G:=dnT hdn hbk [5,6] (by decide +kernel)
                 simp only [allB,and_true] at G
                 (simp only [go_sem,foF,ghO,upd,vI,cond_true,cond_false,if_true,Bool.false_eq_true,if_false,hbk,G,h21,htk,h221,htk2,hs7,List.length_map,List.length_cons,cond_false,cond_true,Nat.reduceAdd,Nat.reduceLeDiff,Nat.reduceSub])
                 all_goals (refine ⟨z,zj [] ?_ ?_⟩ <;> (simp only [go_sem,foF,ghO,upd,vI,cond_true,cond_false,if_true,Bool.false_eq_true,if_false,hbk,G,h21,htk,h221,htk2,hs7,List.length_map,List.length_cons,cond_false,cond_true,Nat.reduceAdd,Nat.reduceLeDiff,Nat.reduceSub]))
               · skip
                 have G:=dnT hdn hbk [5,6] (by decide +kernel)
                 simp only [allB,and_true] at G
                 (simp only [go_sem,foF,ghO,upd,vI,cond_true,cond_false,if_true,Bool.false_eq_true,if_false,hbk,G,h21,htk,h221,htk2,hs7,List.length_map,List.length_cons,cond_false,cond_true,Nat.reduceAdd,Nat.reduceLeDiff,Nat.reduceSub])
                 all_goals (refine ⟨z,zj [] ?_ ?_⟩ <;> (simp only [go_sem,foF,ghO,upd,vI,cond_true,cond_false,if_true,Bool.false_eq_true,if_false,hbk,G,h21,htk,h221,htk2,hs7,List.length_map,List.length_cons,cond_false,cond_true,Nat.reduceAdd,Nat.reduceLeDiff,Nat.reduceSub]))
               · skip
                 have G:=dnT hdn hbk [3,5,6] (by decide +kernel)
                 simp only [allB,and_true] at G
                 (simp only [go_sem,foF,ghO,upd,vI,cond_true,cond_false,if_true,Bool.false_eq_true,if_false,hbk,G,h21,htk,h221,htk2,hs7,List.length_map,List.length_cons,cond_false,cond_true,Nat.reduceAdd,Nat.reduceLeDiff,Nat.reduceSub])
                 all_goals (refine ⟨z,zj [] ?_ ?_⟩ <;> (simp only [go_sem,foF,ghO,upd,vI,cond_true,cond_false,if_true,Bool.false_eq_true,if_false,hbk,G,h21,htk,h221,htk2,hs7,List.length_map,List.length_cons,cond_false,cond_true,Nat.reduceAdd,Nat.reduceLeDiff,Nat.reduceSub]))
               · skip
                 have H:=upT hdn hde [2] (by decide +kernel)
                 have G:=dnT hdn hbk [5,6] (by decide +kernel)
                 simp only [allB,and_true] at H G
                 (simp only [go_sem,foF,ghO,upd,vI,cond_true,cond_false,if_true,Bool.false_eq_true,if_false,hbk,H,G,h21,htk,h221,htk2,hs7,List.length_map,List.length_cons,cond_false,cond_true,Nat.reduceAdd,Nat.reduceLeDiff,Nat.reduceSub])
                 all_goals refine ⟨by omega,?_⟩
                 all_goals (refine ⟨z,zj [] ?_ ?_⟩ <;> (simp only [go_sem,foF,ghO,upd,vI,cond_true,cond_false,if_true,Bool.false_eq_true,if_false,hbk,H,G,h21,htk,h221,htk2,hs7,List.length_map,List.length_cons,cond_false,cond_true,Nat.reduceAdd,Nat.reduceLeDiff,Nat.reduceSub]))
               · skip
                 have G:=dnT hdn hbk [5,6] (by decide +kernel)
                 simp only [allB,and_true] at G
                 (simp only [go_sem,foF,ghO,upd,vI,cond_true,cond_false,if_true,Bool.false_eq_true,if_false,hbk,G,h21,htk,h221,htk2,hs7,List.length_map,List.length_cons,cond_false,cond_true,Nat.reduceAdd,Nat.reduceLeDiff,Nat.reduceSub])
                 all_goals (refine ⟨z,zj [] ?_ ?_⟩ <;> (simp only [go_sem,foF,ghO,upd,vI,cond_true,cond_false,if_true,Bool.false_eq_true,if_false,hbk,G,h21,htk,h221,htk2,hs7,List.length_map,List.length_cons,cond_false,cond_true,Nat.reduceAdd,Nat.reduceLeDiff,Nat.reduceSub]))
               · skip
                 have H:=upT hdn hde [0,1,3,4,2] (by decide +kernel)
                 have G:=dnT hdn hbk [6] (by decide +kernel)
                 simp only [allB,and_true] at H G
                 (simp only [go_sem,foF,ghO,upd,vI,cond_true,cond_false,if_true,Bool.false_eq_true,if_false,hbk,H,G,h21,htk,h221,htk2,hs7,List.length_map,List.length_cons,cond_false,cond_true,Nat.reduceAdd,Nat.reduceLeDiff,Nat.reduceSub])
                 refine gop_ycall rfl (F:=209) (cs:=[]) (ar:=fun ll=>[dvV r l,thV t2,mtsR ms,.yl ll]) (xs:=(truthsV r ms t2).map fun t=>[thV t]) (rest:=remT r ms m t (i + 1) ++ rest) (ll:=ll) rfl (by simp only [go_sem,ghO,hbk,cond_false]) (by rfl) (by simp only [go_sem]; exact ⟨leL_refl _,leL_refl.le_refl _⟩) ihx ?_ ?_
                 · rw [row999_st]
                   simp only [go_sem]
                   refine ⟨true,zj [] ?_ ?_⟩ <;> (simp only [go_sem,foF,ghO,upd,vI,cond_true,cond_false,if_true,Bool.false_eq_true,if_false,hbk,H,G]; try rfl)
                 · rw [row999_st]
                   simp only [go_sem]
                   refine ⟨false,zj [] ?_ ?_⟩ <;> (simp only [go_sem,foF,ghO,upd,vI,cond_true,cond_false,if_true,Bool.false_eq_true,if_false,hbk,H,G]; try rfl)
               · skip
                 have H:=upT hdn hde [5,0,1,3,4,2] (by decide +kernel)
                 simp only [allB,and_true] at H
                 (simp only [go_sem,foF,ghO,upd,vI,cond_true,cond_false,if_true,Bool.false_eq_true,if_false,hbk,H,h21,htk,h221,htk2,hs7,List.length_map,List.length_cons,cond_false,cond_true,Nat.reduceAdd,Nat.reduceLeDiff,Nat.reduceSub])
                 all_goals (refine ⟨z,zj [] ?_ ?_⟩ <;> (simp only [go_sem,foF,ghO,upd,vI,cond_true,cond_false,if_true,Bool.false_eq_true,if_false,hbk,H,h21,htk,h221,htk2,hs7,List.length_map,List.length_cons,cond_false,cond_true,Nat.reduceAdd,Nat.reduceLeDiff,Nat.reduceSub]))
             intro b z vs hb
             simp only [go_sem,foF,ghO,vI,hb,if_true,cond_true];refine zw (zk [2,3,4,5,9,10,87]) ?_;simp only [go_sem]
             cases z
             · repeat refine zq ?_
               refine zc rfl (fun hc=>?_) (fun hc=>?_) <;> (try simp only [go_sem] at hc)
               repeat refine zq ?_
               refine zb fun K hK=>?_;simp only [go_sem];(try simp (disch:=omega) only [zI]);repeat first | intro _ | refine ⟨by omega,?_⟩
               refine hK _ ?_;clear hK K;refine zw (zk [8]) ?_;simp only [go_sem];refine ze ?_;exact ⟨false,ll,rfl,rfl⟩
             · repeat refine zq ?_
               refine zc rfl (fun hc=>?_) (fun hc=>?_) <;> (try simp only [go_sem] at hc)
               refine zx ?_
               try simp only [go_sem]
               repeat refine zq ?_
               refine zb fun K hK=>?_;simp only [go_sem];(try simp (disch:=omega) only [zI]);repeat first | intro _ | refine ⟨by omega,?_⟩
               refine hK _ ?_;clear hK K
               try simp only [go_sem]
               refine ⟨by omega,zj [] ?_ ?_⟩
               · try simp only [go_sem]
               · try simp only [go_sem]
     · have hi3 : i = 3:=by omega
       subst hi3
       refine zf ?_;simp only [go_sem]
       repeat refine zq ?_
       refine zb fun K hK=>?_;simp only [go_sem];(try simp (disch:=omega) only [zI]);repeat first | intro _ | refine ⟨by omega,?_⟩
       refine hK _ ?_;clear hK K;refine zw (zk [8]) ?_;simp only [go_sem];refine ze ?_;exact ⟨true,ll,rfl,by simp [remT]; rfl⟩
end Go.Proofs.Ytlljkgiomkmjbaa.Tb

namespace Go.Oc
open Go Go.RowKit
set_option linter.unusedSimpArgs false
set_option linter.unusedVariables false
def IBCalls (P : Program) (z : Bool) (F : FuncId) (caps : List RV) (xs : List (List RV)) : Prop :=
 callable P F = true ∧ ∀ (w : World) (R : Nat → Prop) (vs : Array Value) (X : XS) (Ψ Θ : Nat → Prop),(∀ b,R b → b < w.heap.size) → RV.relV w R caps vs.toList → X.z = z → (z = false → ∀ b,R b → X.R b) → X.n0 ≤ w.heap.size → YOk P X →
  (∀ b,Ψ b → b < w.heap.size) → (∀ b,Θ b → b < w.heap.size) → (∀ b,R b → ¬ Θ b) → X.X (some xs) w Ψ Θ →
  Calls P F (vs ++ #[.func (.yield X.l) #[] #[]]) w fun e w'=>(∃ v,e = .returned v) ∧ (∃ Ψ' Θ',X.X (some []) w' Ψ' Θ' ∨ X.X none w' Ψ' Θ')
theorem ibcalls_st {P : Program} {z : Bool} {f : FuncId} {fn : Func} {c : Code} {n : Nat} {caps : List RV} {xs : List (List RV)} (hf : P.funcs[f]? = some fn) (hb : fn.body = some c) (hc : callable P f = true) (hn : fn.ntmps = n) (hres : fn.results.toList = [])
 (hargs : caps.length + 1 ≤ n) (h : ∀ C l,awp P C c (ipost P) (st n (argL 0 (caps ++ [.yl l])) (fun _=>0) [(999,.gh P l z (some xs))])) : IBCalls P z f caps xs:=by
 refine ⟨hc,fun w R vs0 X Ψ Θ hR hV0 hz hzR hn0 hY hΨ hΘ hRΘ hX=>?_⟩
 have hV : RV.relV w R (caps ++ [.yl X.l]) (vs0 ++ #[Value.func (.yield X.l) #[] #[]]).toList:=by
  rw [Array.toList_append]
  refine RV.relV_append hV0 ?_
  simp only [RV.relV];exact ⟨Value.func (.yield X.l) #[] #[],[],by simp,by simp only [RV.rel],rfl⟩
 generalize vs0 ++ #[Value.func (.yield X.l) #[] #[]] = vs at hV
 have hlen:=RV.relV_length hV
 simp only [Array.length_toList,List.length_append,List.length_cons,List.length_nil] at hlen
 let C : Ctx:={ w0:=w,R0:=R,bor:=Θ,pin:=fun _=>none,X:=X }
 let p : Plan:={ R:=R,β:=fun _=>none,γ:=fun _=>1,X:=X,Ψ:=Ψ,Θ:=Θ }
 have hs : SR C p (st n (argL 0 (caps ++ [.yl X.l])) (fun _=>0) [(999,.gh P X.l z (some xs))]) { tmps:=vs ++ Array.replicate (fn.ntmps - vs.size) undef,defers:=[] } w:={
  base:=⟨rfl,rfl,rfl,Nat.le_refl _,fun _ _ _ _=>rfl⟩
  r0:=fun _ h=>h
  rn:=fun _ h=>.inl h
  rb:=hR
  tm:=fun t=>by
   show (look (argL 0 (caps ++ [.yl X.l])) t).rel _ _ _ _
   by_cases hmem : ∃ x,(t,x) ∈ argL 0 (caps ++ [RV.yl X.l])
   · cases e : (caps ++ [RV.yl X.l])[t]? with
     | none =>
       obtain ⟨x,hx⟩:=hmem
       obtain ⟨i,y,h1,h2⟩:=argL_mem _ hx
       simp only [Nat.zero_add,Prod.mk.injEq] at h1
       rw [← h1.1,e] at h2; cases h2
     | some x =>
       obtain ⟨u,hu,hx⟩:=RV.relV_get hV e
       have : (vs ++ Array.replicate (fn.ntmps - vs.size) undef).getD t undef = u:=by
        have ht : t < vs.size:=by have:=(List.getElem?_eq_some_iff.1 hu).1; simpa using this
        rw [Array.getD_eq_getD_getElem?,Array.getElem?_append_left ht]
        simp only [Array.getElem?_toList] at hu
        rw [hu]; rfl
       have e2:=argL_look (k:=0) e
       rw [Nat.zero_add] at e2
       rw [this,e2]
       simpa only [AV.rel] using hx
   · rw [look_none hmem]
     exact AV.rel_un _ _ _ _
  sz:=by simp only [Array.size_append,Array.size_replicate,st]; omega
  ex:={
   px:=rfl
   n0:=hn0
   ψ0:=fun hz' b hb=>hzR (hz ▸ hz') b hb
   ψl:=hΨ
   θl:=hΘ
   ψb:=fun k b h=>by cases h
   ψr:=hRΘ
   ψo:=fun b h=>h.elim
   θo:=fun b h _=>h
   bo:=fun b h=>h.elim (hΘ b) (fun h=>h.elim)
   ψn:=fun hn=>(hn _ _ _ _ hX).elim
   hd:=fun b h=>h.elim
   rm:=fun _=>rfl
   df:=⟨[],rfl,List.nodup_nil,fun D hD=>by cases hD⟩ }
  rw:=fun k=>by
   show rowRel w p _ k (lookc [(999,RowC.gh P X.l z (some xs))] k)
   rw [lookc_cons,lookc_nil]
   split
   · rename_i e
     simp only [rowRel];exact ⟨e,rfl,rfl,rfl,hz,hY,hX⟩
   · simp only [rowRel]; exact ⟨rfl,rfl⟩
  bl:=fun k b h=>by simp [p] at h
  ij:=fun k k' b h=>by simp [p] at h
  cap:=fun k=>by simp [p,maxLen]
  pn:=fun k x h=>by cases h
  lk:=fun j km n l cur h _=>by
   have h' : lookc [(999,RowC.gh P X.l z (some xs))] j = .mi km n l cur:=h
   rw [lookc_cons,lookc_nil] at h'
   split at h' <;> cases h' }
 refine callsIn_wide.1 (callsIn_of_wp_marks (n:=0) hf hb trivial (wpIn_mono (h C X.l _ w ⟨p,hs⟩) ?_))
 rintro e a' w' ⟨s',⟨p',hs'⟩,hq⟩
 have fin : ∀ (a' : Act) (w' : World),SR C p' s' a' w' → (∃ l z,(s'.rows 999).c = .gh P l z (some []) ∨ (s'.rows 999).c = .gh P l z none) →
  ∃ v,(results fn a'.tmps).run P w' = .ok v w' ∧ ((∃ v',Ending.returned v = .returned v') ∧ ∃ Ψ' Θ',X.X (some []) w' Ψ' Θ' ∨ X.X none w' Ψ' Θ'):=fun a' w' hs' ⟨l,z',hq⟩=>by
  have hm : (fn.results.mapM (resOp a'.tmps)).run P w' = .ok #[] w':=by
   rw [Array.mapM_eq_mapM_toList,hres]
   simp only [Sem.run_map,List.mapM_nil,Sem.run_pure,Result.andThen_ok]
  refine ⟨.tuple #[],by rw [results_eq,Sem.run_bind,hm]; simp,⟨_,rfl⟩,p'.Ψ,p'.Θ,?_⟩
  have hpx : p'.X = X:=hs'.ex.px
  have hr:=hs'.rw 999
  rcases hq with hq | hq
  · rw [hq] at hr
    simp only [rowRel] at hr
    rw [hpx] at hr
    exact .inl hr.2.2.2.2.2.2
  · rw [hq] at hr
    simp only [rowRel] at hr
    rw [hpx] at hr
    exact .inr hr.2.2.2.2.2.2
 cases e with
 | normal=>exact hs'.leave fun a'' w'' _ hs''=>fin a'' w'' hs'' hq
 | ret=>exact hs'.leave fun a'' w'' _ hs''=>fin a'' w'' hs'' hq
 | _=>exact hq.elim
section
variable {P : Program} {C : Ctx} {p : Plan} {s : AS} {a : Act} {w : World}
set_option maxHeartbeats 400000 in
theorem awp_rangeFuncB {g : Operand} {ps : Array Tmp} {assign body : Code} {Q : Exit → AS → Prop} (hrd : C.rd = none) (hC : C.X = XS.none) {F : FuncId} {args : List RV} {xs : List (List RV)} {z : Bool}
 (hF : s.ev g = .r (.bf F args)) (hI : IBCalls P z F args xs) (hdead : (s.rows 0).c = .dead) (ts : List Nat) (hps : ∀ t ∈ ps.toList,t < s.n)
 (I : List (List RV) → List Value → AS → Prop) (J : Code → List Value → AS → Prop)
 (h0 : ∀ us,I xs us { n:=s.n,tm:=look [],rows:=upd s.rows 0 ⟨(s.rows 0).ver,.sus (ts.map s.tm) us⟩ })
 (round : ∀ e rest us s',s'.n = s.n → I (e :: rest) us s' → e.length = ps.size ∧ ∃ avs,(s'.rows 0).c = .sus avs us ∧ ∀ C,awp P C assign (fun x s2=>x = .normal ∧ ∀ C,awp P C body (rpost s.n I J rest us) s2) ⟨s.n,psA ps.toList e (look (ts.zip avs)),s'.rows⟩)
 (done : ∀ us s',s'.n = s.n → I [] us s' → ∃ avs,(s'.rows 0).c = .sus avs us ∧ Q .normal ⟨s.n,look (ts.zip avs),s'.rows⟩)
 (stop : ∀ c us s',s'.n = s.n → J c us s' → ∃ avs,(s'.rows 0).c = .sus avs us ∧ awp P C c Q ⟨s.n,look (ts.zip avs),s'.rows⟩) : awp P C (.rangeFunc g ps assign body) Q s:=by
 rintro a w ⟨p,hS⟩
 have hn : ∀ o w Ψ Θ,¬ C.X.X o w Ψ Θ:=fun o w Ψ Θ h=>by rw [hC] at h; exact h
 have hF0 : fnc C.rd = Fence.wide:=by rw [hrd]; rfl
 rw [hF0]
 refine wpIn_rangeFunc fun fn _=>?_
 obtain ⟨vsC,hgv,hcs⟩ : ∃ vs : Array Value,a.eval g = .func (.func F) vs #[] ∧ RV.relV w p.R args vs.toList:=by
  have:=hS.ev g
  rw [hF] at this
  simpa only [AV.rel,RV.rel] using this
 have hψ0:=hS.ex.ψn hn
 obtain ⟨rec,hrec⟩ : ∃ rec : LoopState → Option Code → Loop,rec = fun st pe=>{ state:=st,pending:=pe,fn,tmps:=a.tmps,params:=ps,assign,body,defers:=w.heap.size }:=⟨_,rfl⟩
 obtain ⟨w1,hw1⟩ : ∃ w1,(w.alloc (.deferred (some []))).alloc (.loop (rec .ready none)) = w1:=⟨_,rfl⟩
 obtain ⟨L,hLdef⟩ : ∃ L,L = w.heap.size + 1:=⟨_,rfl⟩
 obtain ⟨aL,haL⟩ : ∃ aL : Act,aL = { tmps:=a.tmps,defers:={ target:=.collected w.heap.size,args:=#[] } :: a.defers }:=⟨_,rfl⟩
 have hS1 : SR C p s aL w1:=by rw [haL,← hw1]; exact hS.enter hrd _
 have hsz1 : w1.heap.size = w.heap.size + 2:=by rw [← hw1]; simp
 have hL1 : w1.heap[L]? = some (.loop (rec .ready none)):=by
  rw [← hw1,hLdef]; have:=World.alloc_heap_new (w.alloc (.deferred (some []))) (.loop (rec .ready none)); rwa [World.size_alloc] at this
 have hLR : ¬ p.R L:=fun h=>by have:=hS.rb L h; omega
 have hLβ : ∀ k,p.β k ≠ some L:=fun k h=>by have:=(hS.bl k L h).1; omega
 have hL0 : C.w0.heap.size ≤ L:=by have:=hS.base.size; omega
 have hLm : ∀ d ∈ aL.defers,d.target ≠ .collected L:=fun d hd e=>by
  obtain ⟨Ds,g1,_,g3⟩:=hS1.ex.df
  rw [g1] at hd
  obtain ⟨D,hD,rfl⟩:=List.mem_map.1 hd
  injection e with e
  subst e
  have:=(g3 _ hD).1
  rw [hL1] at this; cases this
 obtain ⟨us,hus⟩ : ∃ us,us = ts.map fun t=>aL.tmps.getD t undef:=⟨_,rfl⟩
 have hS2:=hS1.wait hdead ts
 rw [← hus,← look_nil'] at hS2
 have htmps : aL.tmps = a.tmps:=by rw [haL]
 have hsn : s.n = aL.tmps.size:=by rw [htmps]; exact hS.sz.symm
 let X : XS:={ l:=L,z:=z,n0:=w1.heap.size,R:=p.R,X:=XJ C aL L rec (fun left s'=>I left us s') (fun c s'=>J c us s'),st:=XJ.st hn }
 have hcap : RV.relV w1 p.R args vsC.toList:=RV.relV_mono (fun _ h=>h) (fun ad hr=>World.cell?_of_block (by rw [← hw1]; exact (Below.heap_alloc _ _ _ (by have:=hS.rb _ hr; simp; omega)).trans (Below.heap_alloc _ _ _ (hS.rb _ hr)))) _ _ hcs
 have hY : YOk P X:=by
  intro e rest wv Ψ Θ R vs hX hR hV
  obtain ⟨pv,sv,hSv,hsnv,⟨hIv,hLv⟩,hLRv,hLβv,hΨv,hΘv⟩:=hX
  have hψv:=hSv.ex.ψn hn
  obtain ⟨hlen,avs,hrow,hround⟩:=round e rest us sv (hsnv.trans hsn.symm) hIv
  have hvs : vs.size = ps.size:=by have:=RV.relV_length hV; simp only [Array.length_toList] at this; omega
  have hltv : L < wv.heap.size:=(Array.getElem?_eq_some_iff.1 hLv).1
  have hy:=run_yield (P:=P) (args:=vs) hLv (by rw [hrec]; exact hvs)
  rw [hrec] at hy
  refine ⟨fn,_,assign,body,hy,?_⟩
  have hRβ : ∀ b,R b → b < wv.heap.size ∧ ∀ k,pv.β k ≠ some b:=fun b hb=>⟨(hR b hb).1,fun k hk=>(hR b hb).2.1 ((hΘv b).2 (.inl ⟨k,hk⟩))⟩
  have hRL : ¬ R L:=fun hb=>(hR L hb).2.1 ((hΘv L).2 (.inr rfl))
  have hkv : Kept wv wv pv { pv with R:=fun b=>pv.R b ∨ R b } sv.ver sv.ver:=⟨fun _ h=>.inl h,fun _ _=>rfl,fun _=>Nat.le_refl _,fun _ _=>⟨rfl,rfl⟩⟩
  have haw:=hSv.awake (by rw [hrow,hus])
  have hzip : (ps.zip vs).foldl (fun tmps (x : Nat × Value)=>tmps.setIfInBounds x.1 x.2) a.tmps = (ps.toList.zip vs.toList).foldl (fun tmps (x : Nat × Value)=>tmps.setIfInBounds x.1 x.2) a.tmps:=by
   rw [← Array.foldl_toList,Array.toList_zip]
  obtain ⟨hpsz,hprel⟩:=psA_rel (w:=wv) (p:={ pv with R:=fun b=>pv.R b ∨ R b }) (ver:=sv.ver) ps.toList e vs.toList (look (ts.zip avs)) a.tmps (RV.relV_mono (fun _ h=>.inr h) (fun _ _=>rfl) _ _ hV)
   (fun t ht=>by rw [← htmps,← hsn]; exact hps t ht) (fun t=>by rw [← htmps]; exact AV.rel_mono hkv _ _ (haw.tm t))
  let Hd : Nat → Prop:=fun b=>b = L ∨ ∃ d ∈ aL.defers,d.target = .collected b
  have hHd : ∀ b,Hd b → b < wv.heap.size ∧ ¬ C.bor b ∧ ¬ pv.R b ∧ ¬ R b ∧ ∀ k,pv.β k ≠ some b:=fun b hb=>by
   rcases hb with rfl | ⟨d,hd,hdt⟩
   · exact ⟨hltv,fun hb=>by have:=hS.ex.bo b (.inl hb); omega,hLRv,hRL,hLβv⟩
   · obtain ⟨Ds,g1,_,g3⟩:=hSv.ex.df
     rw [g1] at hd
     obtain ⟨D,hD,rfl⟩:=List.mem_map.1 hd
     injection hdt with hdt
     subst hdt
     obtain ⟨k1,k2,k3,k4,k5,k6⟩:=g3 D hD
     refine ⟨(Array.getElem?_eq_some_iff.1 k1).1,fun hb=>by have:=hS.ex.bo D (.inl hb); omega,k3,fun hr=>?_,k4⟩
     have hD1 : D < w1.heap.size:=by
      obtain ⟨Ds',q1,_,q3⟩:=hS1.ex.df
      have : Ds' = Ds:=marks_inj (q1.symm.trans g1)
      subst this
      exact (Array.getElem?_eq_some_iff.1 (q3 D hD).1).1
     rcases (hR D hr).2.2 with q | q
     · obtain ⟨Ds',q1,_,q3⟩:=hS1.ex.df
       have : Ds' = Ds:=marks_inj (q1.symm.trans g1)
       subst this
       exact (q3 D hD).2.2.1 q
     · have q' : w1.heap.size ≤ D:=q
       omega
  have hSa:=hSv.into (L:=L) (w2:=wv) (R:=R) (rd:=some L) (Hd:=Hd) (a':={ tmps:=(ps.zip vs).foldl (fun tmps (x : Nat × Value)=>tmps.setIfInBounds x.1 x.2) a.tmps,defers:=[] }) (tm':=psA ps.toList e (look (ts.zip avs)))
   hn rfl rfl rfl rfl (fun _ _=>rfl) hLRv hLβv hRβ (fun t=>by rw [hzip]; exact hprel t) (by rw [hzip,hpsz,← htmps]; exact hsnv.symm) rfl hHd hC
  have hna:=hsnv.trans hsn.symm
  refine roundIn_of_wpIn trivial ?_
  have hassign:=hround (Cin C pv R wv (some L) Hd) _ _ ⟨_,hna ▸ hSa⟩
  refine wpIn_mono hassign ?_
  rintro x a1 wa ⟨s1,⟨p1,hS1a⟩,rfl,hbody⟩
  have hLa : wa.heap[L]? = some (.loop (rec .ready none)):=(hS1a.base.block L hltv (fun ⟨hb,_⟩=>(hHd L (.inl rfl)).2.1 hb) (fun ⟨k,hk,_⟩=>hLβv k hk)).trans hLv
  have hlta : L < wa.heap.size:=(Array.getElem?_eq_some_iff.1 hLa).1
  refine ⟨_,run_beginRound hLa (by rw [hrec]),?_⟩
  have hop1:=Hop.of (L:=L) (w:=wv) (w2:=wv) rfl rfl rfl rfl (fun _ _=>rfl) hS1a
  have hHd1 : ∀ b,Hd b → b < wa.heap.size ∧ ¬ (Cin C pv R wv (some L) Hd).bor b ∧ ¬ p1.R b ∧ ¬ False ∧ ∀ k,p1.β k ≠ some b:=fun b hb=>by
   obtain ⟨_,q2,_,q4,q5,_,_,q8⟩:=hS1a.ex.hd b hb
   exact ⟨q4,q2,q5,fun h=>h,q8⟩
  have hS1b:=hS1a.into (L:=L) (w2:=wa.putObj L (.loop { rec .ready none with state:=.busy })) (R:=fun _=>False) (rd:=some L) (Hd:=Hd) (a':=a1) (tm':=s1.tm) hn rfl rfl rfl World.putObj_size putObj_other
   (hHd1 L (.inl rfl)).2.2.1 (hHd1 L (.inl rfl)).2.2.2.2 (fun _ h=>h.elim) (fun t=>by
    have hk1 : Kept wa (wa.putObj L (.loop { rec .ready none with state:=.busy })) p1 { p1 with R:=fun b=>p1.R b ∨ False } s1.ver s1.ver :=
     ⟨fun _ h=>.inl h,fun ad hr=>World.cell?_of_block (putObj_other _ fun e=>(hHd1 L (.inl rfl)).2.2.1 (e ▸ hr)),fun _=>Nat.le_refl _,fun _ _=>⟨rfl,rfl⟩⟩
    exact AV.rel_mono hk1 _ _ (hS1a.tm t)) hS1a.sz (hS1a.ex.rm rfl) hHd1 hC
  refine wpIn_mono (hbody _ _ _ ⟨_,hS1b⟩) ?_
  have hLb : (wa.putObj L (.loop { rec .ready none with state:=.busy })).heap[L]? = some (.loop { rec .ready none with state:=.busy }):=World.putObj_heap_same hlta
  have hRo : ∀ b,R b → b < wv.heap.size ∧ (∀ d ∈ aL.defers,d.target ≠ .collected b) ∧ ¬ C.hd b ∧ (C.R0 b ∨ C.w0.heap.size ≤ b ∨ C.own b):=fun b hb=>by
   have hsz0:=hS.base.size
   refine ⟨(hR b hb).1,fun d hd hdt=>(hHd b (.inr ⟨d,hd,hdt⟩)).2.2.2.1 hb,fun hh=>?_,?_⟩
   · obtain ⟨q1,_,_,_,q5,_⟩:=hS.ex.hd b hh
     rcases (hR b hb).2.2 with q | q
     · exact q5 q
     · have q' : w1.heap.size ≤ b:=q; omega
   · rcases (hR b hb).2.2 with q | q
     · exact hS.rn b q
     · have q' : w1.heap.size ≤ b:=q; exact .inr (.inl (by omega))
  have fin : ∀ (jump : Option Code) (s3 : AS) (p3 : Plan) (a3 : Act) (w3 : World),SR (Cin (Cin C pv R wv (some L) Hd) p1 (fun _=>False) (wa.putObj L (.loop { rec .ready none with state:=.busy })) (some L) Hd) p3 s3 a3 w3 →
   (match jump with | none=>∃ s4,Sub s3 s4 ∧ I rest us ⟨s.n,look [],s4.rows⟩ | some c=>∃ s4,Sub s3 s4 ∧ J c us ⟨s.n,look [],s4.rows⟩) →
   ∃ v w', (Instr.endRound L jump).run P w3 = .ok v w' ∧ (w'.os = wv.os ∧ w'.tape = wv.tape ∧ w'.output = wv.output ∧ wv.heap.size ≤ w'.heap.size ∧ (∀ b, b < wv.heap.size → ¬ Θ b → w'.heap[b]? = wv.heap[b]?) ∧
     ∃ Ψ' Θ' : Nat → Prop,(∀ b,Ψ' b → Ψ b ∨ R b ∨ wv.heap.size ≤ b) ∧ (∀ b,Θ' b → Θ b ∨ wv.heap.size ≤ b) ∧ (∀ b,Ψ' b → b < w'.heap.size) ∧ (∀ b,Θ' b → b < w'.heap.size) ∧
     ((Ending.returned v = .returned (.bool true) ∧ X.X (some rest) w' Ψ' Θ') ∨ (Ending.returned v = .returned (.bool false) ∧ X.X Option.none w' Ψ' Θ'))):=by
   intro jump s30 p30 a3 w3 h30 hj0
   obtain ⟨s3,hsub,hj⟩ : ∃ s4,Sub s30 s4 ∧ (match jump with | none=>I rest us ⟨s.n,look [],s4.rows⟩ | some c=>J c us ⟨s.n,look [],s4.rows⟩):=by
    cases jump with
    | none=>exact hj0
    | some c=>exact hj0
   obtain ⟨p3,h3⟩:=hsub _ _ _ ⟨p30,h30⟩
   have hL3 : w3.heap[L]? = some (.loop { rec .ready none with state:=.busy }):=by
    refine (h3.base.block L (by show L < (wa.putObj L _).heap.size; rw [World.putObj_size]; exact hlta) (fun ⟨hb,_⟩=>(hHd1 L (.inl rfl)).2.1 hb) (fun ⟨k,hk,_⟩=>(hHd1 L (.inl rfl)).2.2.2.2 k hk)).trans hLb
   obtain ⟨_,_,_,_,e5,_,_,e8⟩:=h3.ex.hd L (.inl rfl)
   have hend:=run_endRound (P:=P) jump hL3
   have hlt3 : L < w3.heap.size:=(Array.getElem?_eq_some_iff.1 hL3).1
   have hop2:=Hop.of (C:=Cin C pv R wv (some L) Hd) (p:=p1) (L:=L) (w:=wa) (w2:=wa.putObj L (.loop { rec .ready none with state:=.busy })) (R:=fun _=>False) rfl rfl rfl World.putObj_size putObj_other h3
   obtain ⟨o4,ho4⟩ : ∃ o4,o4 = Obj.loop { { rec .ready none with state:=.busy } with state:=if jump.isNone then .ready else .done,pending:=jump }:=⟨_,rfl⟩
   rw [← ho4] at hend
   have hop:=(Hop.trans (C':=Cin C pv R wv (some L) Hd) hop1 (fun _=>Iff.rfl) hop2).put (o:=o4)
   have hL4 : (w3.putObj L o4).heap[L]? = some (.loop (rec (if jump.isNone then .ready else .done) jump)):=by
    rw [World.putObj_heap_same hlt3,ho4,hrec]
   have hS4 : SR C p3 ⟨s.n,look [],s3.rows⟩ aL (w3.putObj L o4):=by
    have:=hSv.land (C':=Cin (Cin C pv R wv (some L) Hd) p1 (fun _=>False) (wa.putObj L (.loop { rec .ready none with state:=.busy })) (some L) Hd) hn hL0 hLm hop hRo rfl rfl h3 e5 e8 rfl rfl rfl World.putObj_size putObj_other
    rw [hna,← look_nil'] at this
    exact this
   have hψ4:=hS4.ex.ψn hn
   refine ⟨_,_,hend,hop.os,hop.tape,hop.output,hop.size,fun b hb hθ=>hop.heap b hb (fun k hk=>hθ ((hΘv b).2 (.inl ⟨k,hk⟩))) (fun e=>hθ ((hΘv b).2 (.inr e))),
    fun b=>p3.R b ∨ (∃ k,p3.β k = some b) ∨ (b < C.w0.heap.size ∧ ¬ C.bor b ∧ ¬ C.own b) ∨ b = L ∨ C.hd b ∨ ∃ d ∈ aL.defers,d.target = .collected b,fun b=>(∃ k,p3.β k = some b) ∨ b = L,fun b hb=>?_,fun b hb=>?_,fun b hb=>?_,fun b hb=>?_,?_⟩
   · rcases hb with g | ⟨k,g⟩ | g | g | g | g
     · rcases hop.rn b g with q | q | q | ⟨k,q,_⟩
       · exact .inl ((hΨv b).2 (.inl q))
       · exact .inr (.inl q)
       · exact .inr (.inr q)
       · exact .inl ((hΨv b).2 (.inr (.inl ⟨k,q⟩)))
     · rcases hop.bl k b g with q | ⟨_,_,k',_,q⟩ | ⟨k',q,_⟩
       · exact .inr (.inr q)
       · exact .inl ((hΨv b).2 (.inr (.inl ⟨k',q⟩)))
       · exact .inl ((hΨv b).2 (.inr (.inl ⟨k',q⟩)))
     · exact .inl ((hΨv b).2 (.inr (.inr (.inl g))))
     · exact .inl ((hΨv b).2 (.inr (.inr (.inr (.inl g)))))
     · exact .inl ((hΨv b).2 (.inr (.inr (.inr (.inr (.inl g))))))
     · exact .inl ((hΨv b).2 (.inr (.inr (.inr (.inr (.inr g))))))
   · rcases hb with ⟨k,g⟩ | g
     · rcases hop.bl k b g with q | ⟨_,_,k',_,q⟩ | ⟨k',q,_⟩
       · exact .inr q
       · exact .inl ((hΘv b).2 (.inl ⟨k',q⟩))
       · exact .inl ((hΘv b).2 (.inl ⟨k',q⟩))
     · exact .inl ((hΘv b).2 (.inr g))
   · have hsz4:=hS4.base.size
     rcases hb with g | ⟨k,g⟩ | g | rfl | g | ⟨d,hd,hdt⟩
     · exact hS4.rb b g
     · exact (hS4.bl k b g).1
     · omega
     · rw [World.putObj_size]; exact hlt3
     · exact (hS4.ex.hd b g).2.2.2.1
     · exact Nat.lt_of_lt_of_le (hHd b (.inr ⟨d,hd,hdt⟩)).1 hop.size
   · rcases hb with ⟨k,g⟩ | rfl
     · exact (hS4.bl k b g).1
     · rw [World.putObj_size]; exact hlt3
   · cases jump with
     | none=>exact .inl ⟨rfl,p3,_,hS4,hsn,⟨hj,hL4⟩,e5,e8,fun _=>Iff.rfl,fun _=>Iff.rfl⟩
     | some c=>exact .inr ⟨rfl,p3,_,hS4,hsn,⟨c,hj,hL4⟩,e5,e8,fun _=>Iff.rfl,fun _=>Iff.rfl⟩
  rintro en a3 w3 ⟨s3,⟨p3,h3⟩,hq⟩
  cases en with
  | normal=>exact fin none s3 p3 a3 w3 h3 hq
  | ret=>exact fin (some .ret) s3 p3 a3 w3 h3 hq
  | exit id=>exact fin (some (.exit id)) s3 p3 a3 w3 h3 hq
  | goto l=>exact fin (some (.goto l)) s3 p3 a3 w3 h3 hq
  | panic ch=>exact hq.elim
  | outgrown=>exact hq.elim
 have hX0 : X.X (some xs) w1 (fun b=>p.R b ∨ (∃ k,p.β k = some b) ∨ (b < C.w0.heap.size ∧ ¬ C.bor b ∧ ¬ C.own b) ∨ b = L ∨ C.hd b ∨ ∃ d ∈ aL.defers,d.target = .collected b) (fun b=>(∃ k,p.β k = some b) ∨ b = L) :=
  ⟨p,_,hS2,hsn,⟨h0 us,hL1⟩,hLR,hLβ,fun _=>Iff.rfl,fun _=>Iff.rfl⟩
 have hlt1 : L < w1.heap.size:=(Array.getElem?_eq_some_iff.1 hL1).1
 have hcall:=hI.2 w1 p.R vsC X _ _ hS1.rb hcap rfl (fun hz b hb=>hb) (Nat.le_refl _) hY (fun b hb=>by
  have hszw:=hS1.base.size
  rcases hb with g | ⟨k,g⟩ | g | rfl | g | ⟨d,hd,hdt⟩
  · exact hS1.rb b g
  · exact (hS1.bl k b g).1
  · omega
  · exact hlt1
  · exact (hS1.ex.hd b g).2.2.2.1
  · obtain ⟨Ds,g1,_,g3⟩:=hS1.ex.df
    rw [g1] at hd
    obtain ⟨D,hD,rfl⟩:=List.mem_map.1 hd
    injection hdt with hdt
    subst hdt
    exact (Array.getElem?_eq_some_iff.1 (g3 D hD).1).1) (fun b hb=>by
  rcases hb with ⟨k,g⟩ | rfl
  · exact (hS1.bl k b g).1
  · exact hlt1) (fun b hb hθ=>by
  rcases hθ with ⟨k,g⟩ | rfl
  · exact (hS1.bl k b g).2.1 hb
  · exact hLR hb) hX0
 have e1 : (Instr.enterLoop fn a.tmps ps assign body none).run P w = .ok (L,[{ target:=.collected w.heap.size,args:=#[] }]) w1:=by
  rw [run_enterLoop_outer,← hw1,hrec,hLdef]
 have e2 : (resolve a.eval (rangeCall g L) 0).run P w1 = .ok { target:=.fn (.func F) #[],args:=vsC ++ #[.func (.yield L) #[] #[]] } w1:=by
  simp only [resolve,hgv,Sem.run_bind,Deferred.ofValue,Sem.run_pure,Result.andThen_ok]
  simp [Act.eval]
 have e3 : (invoke (.fn (.func F) #[]) (vsC ++ #[.func (.yield L) #[] #[]])).run P w1 = .ok (.enter F (vsC ++ #[.func (.yield L) #[] #[]])) w1:=by
  simp only [invoke]
  have:=run_callFunc hI.1 (vsC ++ #[.func (.yield L) #[] #[]] ++ #[]) w1
  simpa using this
 have e4 : Fence.wide.depth.isSome = true → 1 ≤ 0:=fun h=>by simp [Fence.wide] at h
 refine ⟨L,_,w1,_,w1,F,_,w1,e1,e2,?_,e3,e4,?_⟩
 · intro f' _; exact trivial
 · refine callsIn_wide.2 (hcall.mono ?_)
   have haL' : ({ a with defers:=[{ target:=.collected w.heap.size,args:=#[] }] ++ a.defers } : Act) = aL:=by rw [haL]; rfl
   rintro e w' ⟨⟨v,rfl⟩,Ψ',Θ',hX | hX⟩
   · obtain ⟨p',s',hS',hsn',⟨hI',hL'⟩,hLR',hLβ',_⟩:=hX
     have hend:=run_endLoop (P:=P) hL' (by rw [hrec]; simp)
     have hp : (rec .ready none).pending = none:=by rw [hrec]
     rw [hp] at hend
     refine ⟨none,_,hend,?_⟩
     obtain ⟨avs,hrow,hQ⟩:=done us s' (hsn'.trans hsn.symm) hI'
     have hS4 : ∀ o,SR C p' ⟨s.n,look (ts.zip avs),s'.rows⟩ aL (w'.putObj L o):=fun o=>by
      have:=(hS'.turn (o:=o) hLR' hLβ' hL0 (hS'.ex.ψn hn) hLm).awake (by rw [hrow,hus])
      rw [hsn'.trans hsn.symm] at this
      exact this
     rw [haL']
     exact ⟨_,⟨_,hS4 _⟩,hQ⟩
   · obtain ⟨p',s',hS',hsn',⟨c,hJ',hL'⟩,hLR',hLβ',_⟩:=hX
     have hend:=run_endLoop (P:=P) hL' (by rw [hrec]; simp)
     have hp : (rec .done (some c)).pending = some c:=by rw [hrec]
     rw [hp] at hend
     refine ⟨some c,_,hend,?_⟩
     obtain ⟨avs,hrow,hQ⟩:=stop c us s' (hsn'.trans hsn.symm) hJ'
     have hS4 : ∀ o,SR C p' ⟨s.n,look (ts.zip avs),s'.rows⟩ aL (w'.putObj L o):=fun o=>by
      have:=(hS'.turn (o:=o) hLR' hLβ' hL0 (hS'.ex.ψn hn) hLm).awake (by rw [hrow,hus])
      rw [hsn'.trans hsn.symm] at this
      exact this
     have hQ':=fun o=>hQ _ _ ⟨_,hS4 o⟩
     rw [hF0] at hQ'
     rw [haL']
     exact hQ' _
end
theorem awp_rangeFB {P : Program} {C : Ctx} {n : Nat} {s : AS} {t : Nat} {ps : Array Tmp} {assign body : Code} {Q : Exit → AS → Prop} (hC : C.rd = none ∧ C.X = XS.none) {f : FuncId} {caps : List RV} {z : Bool} (xs : List (List RV)) (hI : IBCalls P z f caps xs)
 (ts : List Nat) (hnd : ts.Nodup) (F : (Nat → Nat) → List (Nat × AV)) (R : Nat → (Nat → Nat) → List (Nat × RowC)) (I : Nat → Prop) (h0 : FitV n F (R 0) s) (hi0 : I 0)
 (hts : ∀ vs,(F vs).map (·.1) = ts) (hg : ∀ vs,look (F vs) t = .r (.bf f caps)) (hd : ∀ i vs,lookc (R i vs) 0 = .dead) (hps : ∀ t ∈ ps.toList,t < n) (hlen : ∀ e ∈ xs,e.length = ps.size)
 (round : ∀ i e vs us C,xs[i]? = some e → I i → awp P C assign (fun x s2=>x = .normal ∧ ∀ C,awp P C body (rfpost n ts Q (fun s3=>I (i + 1) ∧ ∃ vs',Sub s3 (st n [] vs' ((0,.sus ((F vs').map (·.2)) us) :: R (i + 1) vs'))) us) s2)
  (st n (psL ps.toList e (F vs)) vs ((0,.sus ((F vs).map (·.2)) us) :: R i vs)))
 (done : ∀ vs us,I xs.length → Q .normal (st n (F vs) vs ((0,.sus ((F vs).map (·.2)) us) :: R xs.length vs))) : awp P C (.rangeFunc (.tmp t) ps assign body) Q s:=by
 obtain ⟨vs0,h0⟩:=h0
 refine zw h0 ?_
 have hdrop : ∀ i e rest,xs.drop i = e :: rest → xs[i]? = some e ∧ xs.drop (i + 1) = rest:=fun i e rest h=>by
  refine ⟨?_,by rw [← List.drop_drop,h]; rfl⟩
  have : (xs.drop i)[0]? = some e:=by rw [h]; rfl
  simpa using this
 have hz : ∀ vs,ts.zip ((F vs).map (·.2)) = F vs:=fun vs=>by rw [← hts vs]; exact zip_keys _
 refine awp_rangeFuncB hC.1 hC.2 (F:=f) (args:=caps) (xs:=xs) (z:=z) (by
  show look (F vs0) t = _
  rw [hg]) hI (hd 0 vs0) ts hps
  (fun left us s'=>∃ i vs,left = xs.drop i ∧ i ≤ xs.length ∧ I i ∧ s' = st n [] vs ((0,.sus ((F vs).map (·.2)) us) :: R i vs))
  (fun c us s'=>∃ avs,(s'.rows 0).c = .sus avs us ∧ ((c = .ret ∧ Q .ret ⟨n,look (ts.zip avs),s'.rows⟩) ∨ ∃ id,c = .exit id ∧ Q (.exit id) ⟨n,look (ts.zip avs),s'.rows⟩))
  (fun us=>⟨0,vs0,rfl,Nat.zero_le _,hi0,?_⟩) ?_ ?_ ?_
 · refine (upd_rows_st (c:=.sus (ts.map (st n (F vs0) vs0 (R 0 vs0)).tm) us)).trans ?_
   congr 3
   have hk : (F vs0).map (·.2) = ts.map (look (F vs0)):=by
    have:=look_keys (F vs0) (by rw [hts vs0]; exact hnd)
    rw [hts vs0] at this
    exact this
   rw [hk]; rfl
 · rintro e rest us s' _ ⟨i,vs,hl,hle,hI',rfl⟩
   obtain ⟨h1,h2⟩:=hdrop i e rest hl.symm
   refine ⟨hlen e (List.mem_of_getElem? h1),(F vs).map (·.2),rfl,fun C'=>?_⟩
   have hr:=round i e vs us C' h1 hI'
   rw [hz,psA_look]
   refine awp_mono ?_ hr
   rintro x s2 ⟨hx,hbody⟩
   refine ⟨hx,fun C''=>awp_mono ?_ (hbody C'')⟩
   intro x s3 hq
   cases x with
   | normal =>
     obtain ⟨hI3,vs',hsub⟩:=hq
     refine ⟨_,hsub,i + 1,vs',h2.symm,?_,hI3,rfl⟩
     have:=(List.getElem?_eq_some_iff.1 h1).1
     omega
   | ret =>
     obtain ⟨avs,h3,h4⟩:=hq
     exact ⟨s3,Sub.refl _,avs,h3,.inl ⟨rfl,h4⟩⟩
   | exit id =>
     obtain ⟨avs,h3,h4⟩:=hq
     exact ⟨s3,Sub.refl _,avs,h3,.inr ⟨id,rfl,h4⟩⟩
   | goto l=>exact hq.elim
   | panic c=>exact hq.elim
   | outgrown=>exact hq.elim
 · rintro us s' _ ⟨i,vs,hl,hle,hI',rfl⟩
   have hi : i = xs.length:=by
    have : (xs.drop i).length = 0:=by rw [← hl]; rfl
    rw [List.length_drop] at this; omega
   subst hi
   refine ⟨(F vs).map (·.2),rfl,?_⟩
   have:=done vs us hI'
   rw [hz]
   exact this
 · rintro c us s' _ ⟨avs,h3,h4⟩
   refine ⟨avs,h3,?_⟩
   rcases h4 with ⟨rfl,h4⟩ | ⟨id,rfl,h4⟩
   · exact ze h4
   · exact zf h4
theorem gop_method {P : Program} {s : AS} {o : Oper} {F : FuncId} {x : Operand} {K : AS → Prop} (ho : o.op = .makeFunc (.func F) #[x] #[]) {v : RV} (hx : s.ev x = .r v) (hK : K (s.put o.dst (.r (.bf F [v])))) : gop P o K s:=by
 intro C p a w h hd hnd KW Q hKW
 have hv : v.rel w p.R (a.eval x):=by
  have:=h.ev x
  rw [hx] at this
  simpa only [AV.rel] using this
 have hr : (execOp a.eval o).run P w = .ok (.value (.func (.func F) #[a.eval x] #[])) w:=by
  simp [execOp,ho,Instr.makeFunc]
 refine wpIn_of_wp hnd ?_
 unfold Oper.wp
 rw [hr]
 have hput:=h.put' (d:=o.dst) (av:=.r (.bf F [v])) (v:=.func (.func F) #[a.eval x] #[]) (by simp only [AV.rel,RV.rel,RV.relV]; exact ⟨_,rfl,_,_,rfl,hv,rfl⟩) hd
 exact hKW _ _ p _ hput (app_n' _ _ _) hK
theorem gop_sliceTo {P : Program} {s : AS} {o : Oper} {x hi : Operand} {t : TypeId} {K : AS → Prop} (ho : o.op = .slice t x none (some hi) none) {n esz : Nat} {eagg : Bool} {sz0 : Nat} {agg0 : Bool} {z0 : List RV} (e1 : tyq P t = some ⟨.arr n esz eagg,sz0,agg0,z0⟩)
 {cs : List RV} (hx : s.ev x = .r (.rp cs)) {k : IntKind} {q : Nat} (hh : s.ev hi = .r (.it k (q : Int))) (hq : q ≤ n) (h1 : n * esz ≤ cs.length) (h2 : n ≤ maxLen) (hK : K (s.put o.dst (.r (.sl esz (chunk esz q cs))))) : gop P o K s:=by
 intro C p a w h hd hnd KW Q hKW
 obtain ⟨e,hu,hok,hsz,_⟩:=tyq_arr e1
 obtain ⟨ad,hv,hR,hC⟩:=ev_rp h hx
 have hb : (Instr.sliceBounds false n n none (some (.int k (q : Int))) none).run P w = .ok (0,q,n) w:=by simp [Instr.sliceBounds,run_sliceBound hq]
 have hr : (Instr.sliceAt t (.pointer (some ad)) none (some (.int k (q : Int))) none).run P w = .ok (.slice (some (if n = 0 then ad else ad.add (0 * esz))) q n) w:=by
  unfold Instr.sliceAt
  simp [Sem.run_bind,run_underlying hu,Result.andThen_ok,Instr.sureAddr,hb,run_sizeOf_ok hok,hsz]
 have hr2 : (execOp a.eval o).run P w = .ok (.value (.slice (some (if n = 0 then ad else ad.add (0 * esz))) q n)) w:=by
  simp only [execOp,ho,Sem.run_bind,hv,Option.map_none,Option.map_some,ev_it h hh,hr,Result.andThen_ok,Sem.run_pure]
 have hm : q * esz ≤ cs.length:=Nat.le_trans (Nat.mul_le_mul_right _ hq) h1
 have hrel : (AV.r (.sl esz (chunk esz q cs))).rel w p s.ver (.slice (some (if n = 0 then ad else ad.add (0 * esz))) q n):=by
  simp only [AV.rel,RV.rel]
  refine ⟨_,_,by rw [chunk_len],by rw [chunk_len]; exact hq,h2,fun _=>⟨ad,?_,hR,chunk_rel hm hC⟩⟩
  split <;> simp [add_zero]
 refine wpIn_of_wp hnd ?_
 unfold Oper.wp
 rw [hr2]
 exact hKW _ _ p _ (h.put' hrel hd) (app_n' _ _ _) hK
theorem chunk_one : ∀ (q : Nat) (cs : List RV),q ≤ cs.length → chunk 1 q cs = (cs.take q).map fun x=>[x]
 | 0,_,_=>by simp [chunk]
 | q + 1,[],h=>by simp at h
 | q + 1, x :: cs, h => by
   simp only [List.length_cons] at h
   simp only [chunk,List.take_succ_cons,List.take_zero,List.drop_succ_cons,List.drop_zero,List.map_cons,chunk_one q cs (by omega)]
end Go.Oc

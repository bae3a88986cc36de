/- Part 7 of the texts of this claim. -/
import Derived.Test.YtlljkgiomkmjbaaVA6
import Derived.Test.YtlljkgiomkmjbaaVA4
import Derived.KernelRfl
namespace Go.Oc
open Go Go.RowKit
set_option linter.unusedSimpArgs false
set_option linter.unusedVariables false
def YCalls (P : Program) (F : FuncId) (args : Nat → List RV) (xs : List (List RV)) : Prop :=
 callable P F = true ∧ ∀ (rest : List (List RV)) (w : World) (R : Nat → Prop) (vs : Array Value) (X : XS) (Ψ Θ : Nat → Prop),(∀ b,R b → b < w.heap.size) → RV.relV w R (args X.l) vs.toList → X.z = false → (∀ b,R b → X.R b ∨ X.n0 ≤ b) → X.n0 ≤ w.heap.size → YOk P X →
  (∀ b,Ψ b → b < w.heap.size) → (∀ b,Θ b → b < w.heap.size) → (∀ b,R b → ¬ Θ b) → X.X (some (xs ++ rest)) w Ψ Θ →
  Calls P F vs w fun e w'=>w'.os = w.os ∧ w'.tape = w.tape ∧ w'.output = w.output ∧ w.heap.size ≤ w'.heap.size ∧ (∀ b,b < w.heap.size → ¬ Θ b → w'.heap[b]? = w.heap[b]?) ∧
   ∃ Ψ' Θ' : Nat → Prop,(∀ b,Ψ' b → Ψ b ∨ R b ∨ w.heap.size ≤ b) ∧ (∀ b,Θ' b → Θ b ∨ w.heap.size ≤ b) ∧ (∀ b,Ψ' b → b < w'.heap.size) ∧ (∀ b,Θ' b → b < w'.heap.size) ∧
   ((e = .returned (.bool true) ∧ X.X (some rest) w' Ψ' Θ') ∨ (e = .returned (.bool false) ∧ X.X none w' Ψ' Θ'))
def XS.since (X : XS) (n : Nat) (R Ψ0 Θ0 : Nat → Prop) : XS where
 l:=X.l
 z:=X.z
 n0:=n
 R:=R
 X:=fun o w Ψ Θ=>X.X o w Ψ Θ ∧ n ≤ w.heap.size ∧ (∀ b,Ψ b → Ψ0 b ∨ R b ∨ n ≤ b) ∧ ∀ b,Θ b → Θ0 b ∨ n ≤ b
 st:=fun h h1 h2 h3 h4 h5=>⟨X.st h.1 h1 h2 h3 h4 h5,Nat.le_trans h.2.1 h4,h.2.2⟩
theorem YOk.since {P : Program} {X : XS} (hY : YOk P X) {n : Nat} {R Ψ0 Θ0 : Nat → Prop} (hR : ∀ b,R b → X.R b ∨ X.n0 ≤ b) (hn : X.n0 ≤ n) : YOk P (X.since n R Ψ0 Θ0):=by
 intro e rest w Ψ Θ R' vs hX hR' hV
 obtain ⟨hX1,hX2,hX3,hX4⟩:=hX
 obtain ⟨fn,tmps,assign,body,hrun,hround⟩:=hY e rest w Ψ Θ R' vs hX1 (fun b hb=>by
  obtain ⟨g1,g2,g3⟩:=hR' b hb
  refine ⟨g1,g2,?_⟩
  rcases g3 with g | g
  · exact hR b g
  · exact .inr (Nat.le_trans hn g)) hV
 refine ⟨fn,tmps,assign,body,hrun,hround.mono ?_⟩
 rintro en w' ⟨g1,g2,g3,g4,g5,Ψ',Θ',g6,g7,g8,g9,g10⟩
 have a1 : ∀ b,Ψ' b → Ψ0 b ∨ R b ∨ n ≤ b:=fun b hb=>by
  rcases g6 b hb with g | g | g
  · exact hX3 b g
  · rcases (hR' b g).2.2 with q | q
    · exact .inr (.inl q)
    · exact .inr (.inr q)
  · exact .inr (.inr (Nat.le_trans hX2 g))
 have a2 : ∀ b,Θ' b → Θ0 b ∨ n ≤ b:=fun b hb=>by
  rcases g7 b hb with g | g
  · exact hX4 b g
  · exact .inr (Nat.le_trans hX2 g)
 refine ⟨g1,g2,g3,g4,g5,Ψ',Θ',g6,g7,g8,g9,?_⟩
 rcases g10 with ⟨rfl,g⟩ | ⟨rfl,g⟩
 · exact .inl ⟨rfl,g,Nat.le_trans hX2 g4,a1,a2⟩
 · exact .inr ⟨rfl,g,Nat.le_trans hX2 g4,a1,a2⟩
def ypost (P : Program) (t : Nat) (rest : List (List RV)) : Exit → AS → Prop
 | .normal,s=>∃ b l,s.tm t = .r (.bo b) ∧ (s.rows 999).c = .gh P l false (if b then some rest else none)
 | .ret,s=>∃ b l,s.tm t = .r (.bo b) ∧ (s.rows 999).c = .gh P l false (if b then some rest else none)
 | _,_=>False
theorem ycalls_st {P : Program} {f : FuncId} {fn : Func} {c : Code} {n t : Nat} {args : Nat → List RV} {xs : List (List RV)} (hf : P.funcs[f]? = some fn) (hb : fn.body = some c) (hc : callable P f = true) (hn : fn.ntmps = n) (hres : fn.results.toList = [.tmp t])
 (hargs : ∀ l,(args l).length ≤ n) (h : ∀ C l rest,C.rd = none → awp P C c (ypost P t rest) (st n (argL 0 (args l)) (fun _=>0) [(999,.gh P l false (some (xs ++ rest)))])) : YCalls P f args xs:=by
 refine ⟨hc,fun rest w R vs X Ψ Θ hR hV hz hRX hn0 hY hΨ hΘ hRΘ hX=>?_⟩
 have hlen:=RV.relV_length hV
 simp only [Array.length_toList] at hlen
 have hal:=hargs X.l
 obtain ⟨X',hX'⟩ : ∃ X' : XS,X' = X.since w.heap.size R Ψ Θ:=⟨_,rfl⟩
 have hl' : X'.l = X.l:=by rw [hX']; rfl
 have hz' : X'.z = false:=by rw [hX']; exact hz
 have hn' : X'.n0 = w.heap.size:=by rw [hX']; rfl
 have hR' : X'.R = R:=by rw [hX']; rfl
 have hY' : YOk P X':=by rw [hX']; exact hY.since hRX hn0
 have hXX : X'.X (some (xs ++ rest)) w Ψ Θ:=by rw [hX']; exact ⟨hX,Nat.le_refl _,fun b h=>.inl h,fun b h=>.inl h⟩
 let C : Ctx:={ w0:=w,R0:=R,bor:=Θ,pin:=fun _=>none,X:=X' }
 let p : Plan:={ R:=R,β:=fun _=>none,γ:=fun _=>1,X:=X',Ψ:=Ψ,Θ:=Θ }
 have hs : SR C p (st n (argL 0 (args X.l)) (fun _=>0) [(999,.gh P X.l false (some (xs ++ rest)))]) { tmps:=vs ++ Array.replicate (fn.ntmps - vs.size) undef,defers:=[] } w:={
  base:=⟨rfl,rfl,rfl,Nat.le_refl _,fun _ _ _ _=>rfl⟩
  r0:=fun _ h=>h
  rn:=fun _ h=>.inl h
  rb:=hR
  tm:=fun t=>by
   show (look (argL 0 (args X.l)) t).rel _ _ _ _
   by_cases hmem : ∃ x,(t,x) ∈ argL 0 (args X.l)
   · cases e : (args X.l)[t]? with
     | none =>
       obtain ⟨x,hx⟩:=hmem
       obtain ⟨i,y,h1,h2⟩:=argL_mem _ hx
       simp only [Nat.zero_add,Prod.mk.injEq] at h1
       rw [← h1.1,e] at h2; cases h2
     | some x =>
       obtain ⟨u,hu,hx⟩:=RV.relV_get hV e
       have : (vs ++ Array.replicate (fn.ntmps - vs.size) undef).getD t undef = u:=by
        have ht : t < vs.size:=by have:=(List.getElem?_eq_some_iff.1 hu).1; simpa using this
        rw [Array.getD_eq_getD_getElem?,Array.getElem?_append_left ht]
        simp only [Array.getElem?_toList] at hu
        rw [hu]; rfl
       have e2:=argL_look (k:=0) e
       rw [Nat.zero_add] at e2
       rw [this,e2]
       simpa only [AV.rel] using hx
   · rw [look_none hmem]
     exact AV.rel_un _ _ _ _
  sz:=by simp only [Array.size_append,Array.size_replicate,st]; omega
  ex:={
   px:=rfl
   n0:=by show X'.n0 ≤ w.heap.size; rw [hn']; exact Nat.le_refl _
   ψ0:=fun _ b hb=>by show X'.R b; rw [hR']; exact hb
   ψl:=hΨ
   θl:=hΘ
   ψb:=fun k b h=>by cases h
   ψr:=hRΘ
   ψo:=fun b h=>h.elim
   θo:=fun b h _=>h
   bo:=fun b h=>h.elim (hΘ b) (fun h=>h.elim)
   ψn:=fun hn=>(hn _ _ _ _ hXX).elim
   hd:=fun b h=>h.elim
   rm:=fun _=>rfl
   df:=⟨[],rfl,List.nodup_nil,fun D hD=>by cases hD⟩ }
  rw:=fun k=>by
   show rowRel w p _ k (lookc [(999,RowC.gh P X.l false (some (xs ++ rest)))] k)
   rw [lookc_cons,lookc_nil]
   split
   · rename_i e
     simp only [rowRel];exact ⟨e,rfl,rfl,hl',hz',hY',hXX⟩
   · simp only [rowRel]; exact ⟨rfl,rfl⟩
  bl:=fun k b h=>by simp [p] at h
  ij:=fun k k' b h=>by simp [p] at h
  cap:=fun k=>by simp [p,maxLen]
  pn:=fun k x h=>by cases h
  lk:=fun j km n l cur h _=>by
   have h' : lookc [(999,RowC.gh P X.l false (some (xs ++ rest)))] j = .mi km n l cur:=h
   rw [lookc_cons,lookc_nil] at h'
   split at h' <;> cases h' }
 refine callsIn_wide.1 (callsIn_of_wp_marks (n:=0) hf hb trivial (wpIn_mono (h C X.l rest rfl _ w ⟨p,hs⟩) ?_))
 rintro e a' w' ⟨s',⟨p',hs'⟩,hq⟩
 have fin : ∀ (a' : Act) (w' : World),SR C p' s' a' w' → (∃ b l,s'.tm t = .r (.bo b) ∧ (s'.rows 999).c = .gh P l false (if b then some rest else none)) →
  ∃ v, (results fn a'.tmps).run P w' = .ok v w' ∧ (w'.os = w.os ∧ w'.tape = w.tape ∧ w'.output = w.output ∧ w.heap.size ≤ w'.heap.size ∧ (∀ b, b < w.heap.size → ¬ Θ b → w'.heap[b]? = w.heap[b]?) ∧
    ∃ Ψ' Θ' : Nat → Prop,(∀ b,Ψ' b → Ψ b ∨ R b ∨ w.heap.size ≤ b) ∧ (∀ b,Θ' b → Θ b ∨ w.heap.size ≤ b) ∧ (∀ b,Ψ' b → b < w'.heap.size) ∧ (∀ b,Θ' b → b < w'.heap.size) ∧
    ((Ending.returned v = .returned (.bool true) ∧ X.X (some rest) w' Ψ' Θ') ∨ (Ending.returned v = .returned (.bool false) ∧ X.X none w' Ψ' Θ'))):=fun a' w' hs' ⟨b,l,hb1,hb2⟩=>by
  have hv : a'.tmps.getD t undef = .bool b:=by
   have:=hs'.tm t
   rw [hb1] at this
   simpa only [AV.rel,RV.rel] using this
  have hu : (resOp a'.tmps (.tmp t)).run P w' = .ok (.bool b) w':=by
   simp only [resOp,Sem.run_pure,hv]
  have hm : (fn.results.mapM (resOp a'.tmps)).run P w' = .ok #[.bool b] w':=by
   rw [Array.mapM_eq_mapM_toList,hres]
   simp only [Sem.run_map,List.mapM_cons,List.mapM_nil,Sem.run_bind,hu,Result.andThen_ok,Sem.run_pure]
  have hpx : p'.X = X':=hs'.ex.px
  have hr:=hs'.rw 999
  rw [hb2] at hr
  simp only [rowRel] at hr
  rw [hpx] at hr
  have hXe:=hr.2.2.2.2.2.2
  refine ⟨.bool b,by rw [results_eq,Sem.run_bind,hm]; simp,hs'.base.os,hs'.base.tape,hs'.base.output,hs'.base.size,fun k hk ht=>hs'.base.block k hk ht (fun h=>h),p'.Ψ,p'.Θ,?_,?_,hs'.ex.ψl,hs'.ex.θl,?_⟩
  · rw [hX'] at hXe; exact hXe.2.2.1
  · rw [hX'] at hXe; exact hXe.2.2.2
  · rw [hX'] at hXe
    cases b
    · exact .inr ⟨rfl,hXe.1⟩
    · exact .inl ⟨rfl,hXe.1⟩
 cases e with
 | normal=>exact hs'.leave fun a'' w'' _ hs''=>fin a'' w'' hs'' hq
 | ret=>exact hs'.leave fun a'' w'' _ hs''=>fin a'' w'' hs'' hq
 | _=>exact hq.elim
section
variable {P : Program} {C : Ctx} {s : AS} {Q : Exit → AS → Prop} {ops : Array Oper}
end
section
variable {n : Nat} {l : List (Nat × AV)} {vs : Nat → Nat} {cs : List (Nat × RowC)}
theorem row999_st {c : RowC} : (st n l vs cs).row 999 ⟨((st n l vs cs).rows 999).ver,c⟩ = st n l vs (insc cs 999 c):=by
 rw [row_st]
 congr 1
 funext k
 unfold upd
 split
 · rename_i e; subst e; rfl
 · rfl
end
end Go.Oc

namespace Go.Oc
open Go Go.RowKit
set_option linter.unusedVariables false
set_option linter.unusedSimpArgs false
def sLitBox (P : Program) (s : AS) (d : Nat) (t : TypeId) (len : Nat) (parts : List (Nat × AV)) : Res :=
 match tyq P t with
 | some ⟨.slice e esz _ ez, _, _, _⟩ =>
   if len = 0 then .bad else
   match lay s.ver (fun i=>some (i * esz,esz)) ((List.replicate len ez).flatten.map .r) parts with
   | some cs=>⟨0 < esz ∧ len * esz ≤ 16777216 ∧ d < 1000,True,⟨.os d ((s.rows d).ver + 1) esz 0 len,[(d,⟨(s.rows d).ver + 1,.ara e esz cs⟩)]⟩⟩
   | none=>.bad
 | _=>.bad
section
variable {P : Program} {C : Ctx} {p : Plan} {s : AS} {a : Act} {w : World} {o : Oper}
theorem relV_map_r {ver : Nat → Nat} : ∀ {xs : List RV} {vs : List Value},RV.relV w p.R xs vs → AV.relV w p ver (xs.map .r) vs
 | [],vs,h=>by simp only [RV.relV] at h; simp only [List.map_nil,AV.relV]; exact h
 | x :: xs, vs, h => by
   simp only [RV.relV] at h
   obtain ⟨u,us,e,h1,h2⟩:=h
   simp only [List.map_cons,AV.relV,AV.rel];exact ⟨u,us,e,h1,relV_map_r h2⟩
theorem lay_len {ver : Nat → Nat} {place : Nat → Option (Nat × Nat)} : ∀ (parts : List (Nat × AV)) (cs cs' : List AV),lay ver place cs parts = some cs' → cs'.length = cs.length
 | [],cs,cs',h=>by simp only [lay] at h; injection h with h; rw [h]
 | (i, x) :: parts, cs, cs', h => by
   simp only [lay] at h
   split at h
   · split at h
     · rename_i o sz xs _ _ hc
       rw [lay_len parts _ _ h]
       simp
       omega
     · cases h
   · cases h
theorem good_litBox {t : TypeId} {n : Nat} {ps : Array (Nat × Operand)} (h : SR C p s a w) (ho : o.op = .buildSlice t n ps) (hp : (sLitBox P s (o.dst.getD 0) t n (ps.toList.map fun (i,x)=>(i,s.ev x))).pre) :
 Done P C o s a w (sLitBox P s (o.dst.getD 0) t n (ps.toList.map fun (i,x)=>(i,s.ev x))):=by
 have hparts:=parts_rel h ps.toList
 unfold sLitBox at hp ⊢
 split at hp
 · rename_i e esz eb ez sz agg z e1
   obtain ⟨hu,hok,hsz,_,zv,hzv,hez⟩:=tyq_slice e1
   subst hsz
   obtain ⟨i,zval,hi,hzero,hcells,hz1,hzl⟩:=zeroOf_spec hzv
   split at hp
   · exact hp.elim
   · rename_i hn0
     rw [if_neg hn0]
     split at hp
     · rename_i cs hlay
       obtain ⟨hpos,hmax,hd⟩ : 0 < P.cellsOf e ∧ n * P.cellsOf e ≤ 16777216 ∧ o.dst.getD 0 < 1000:=hp
       have hzc : zval.cells.size = P.cellsOf e:=by rw [← hzl,← hcells]; simp
       obtain ⟨cells',hf,hr,hr1⟩:=lay_rel (p:=p) (w:=w) _ _ (ps.toList.map fun x=>(x.1,a.eval x.2)) _ _ (madeCells zval.cells (n * P.cellsOf e)) hlay
        (by
         rw [← hzc,madeCells_list,hcells,hez]
         refine relV_map_r ?_
         clear hlay hn0 ho hmax
         induction n with
         | zero=>simp [RV.relV]
         | succ n ih =>
           simp only [List.replicate_succ,List.flatten_cons];exact RV.relV_append (RV.relV_ofV1 w p.R zv) ih)
        (by
         rw [← hzc,madeCells_list,hcells]
         intro u hu
         obtain ⟨l,hl,hul⟩:=List.mem_flatten.1 hu
         rw [List.eq_of_mem_replicate hl] at hul
         exact hz1 u hul)
        hparts.1 hparts.2
       have hcl : cells'.size = n * P.cellsOf e:=by
        rw [← Array.length_toList,AV.relV_length hr,lay_len _ _ _ hlay,List.length_map]
        have : ∀ m,(List.replicate m ez).flatten.length = m * P.cellsOf e:=by
         intro m
         induction m with
         | zero=>simp
         | succ m ih=>rw [List.replicate_succ,List.flatten_cons,List.length_append,ih,hez,List.length_map,hzl,Nat.add_mul]; omega
        exact this n
       have hnm : n ≤ 16777216:=Nat.le_trans (Nat.le_mul_of_pos_right n hpos) hmax
       have hn:=h.newRow (o.dst.getD 0) hd (.ara e (P.cellsOf e) cs) rfl n (by simp only [maxLen]; omega) (.cells cells' e) (fun p' ver' hR hβ hγ hk=>by
        simp only [rowRel];rw [hγ]
        exact ⟨_,_,hβ,heap_alloc_new w _,hcl,cells'.toList,[],by simp,AV.relV_mono hk _ _ hr,hr1⟩)
       refine ⟨_,.slice (some ⟨w.heap.size,0,none⟩) n n,_,_,?_,.inl rfl,trivial,by rw [rows_one]; exact hn,?_⟩
       · have hmap : (ps.map fun (x : Nat × Operand)=>(x.1,a.eval x.2)).toList = ps.toList.map fun x=>(x.1,a.eval x.2):=by simp
         have hne : ¬ (n * P.cellsOf e = 0):=by
          have:=Nat.mul_pos (show 0 < n by omega) hpos
          omega
         have hz : (zeroValue e).run P w = .ok zval w:=by simp [zeroValue,typeInfo,hi,hzero]
         have hf':=hf
         simp only [madeCells] at hf'
         simp only [execOp,ho,Instr.buildSlice,Sem.run_bind,run_underlying hu,Result.andThen_ok,run_sizeOf_ok hok,if_neg (show ¬ (n * P.cellsOf e > 2 ^ 24) by omega),if_neg hne,hz,Sem.run_pure,hmap,hf']
         simp [newRow]
       · rw [rows_one]
         simp only [AV.rel,vers,upd_same];exact ⟨Nat.le_refl _,fun _=>.inr ⟨_,_,rfl,by simp; rfl,by omega,fun _=>by simp⟩⟩
     · exact hp.elim
 · exact hp.elim
variable {Q : Exit → AS → Prop} {ops : Array Oper}
theorem sops_litB {l : List Oper} {t : TypeId} {n : Nat} {ps : List (Nat × Operand)} {d : Nat} {ty : TypeId} {pos : String} {af : Array Edge} (hdn : d < s.n)
 (h : aR s (some d) (sLitBox P s d t n (evp s ps)) (fun s'=>sops P C ops l Q s')) : sops P C ops (⟨some d,.buildSlice t n ps.toArray,ty,pos,af,none⟩ :: l) Q s:=fun a w ⟨p,hs⟩=>by
 rw [← evp_eq] at h
 unfold wpListIn
 rw [if_pos (wantA_sound hs (by simp [wantA]))]
 refine wpIn_of_wp (by intro c h; cases h) ?_
 obtain ⟨nx,v,w',p',hrun,hnx,hass,hSR,hrel⟩:=good_litBox (o:=⟨some d,.buildSlice t n ps.toArray,ty,pos,af,none⟩) hs rfl h.1
 unfold Oper.wp
 rw [hrun]
 have hput:=hSR.put' (d:=some d) hrel (fun t ht=>by injection ht with ht; subst ht; exact hdn)
 rcases hnx with rfl | ⟨rfl,rfl⟩
 · exact h.2 hass _ _ ⟨p',hput⟩
 · exact h.2 hass _ _ ⟨p',hput⟩
end
section
variable {n : Nat} {l : List (Nat × AV)} {vs : Nat → Nat} {cs : List (Nat × RowC)}
end
end Go.Oc

namespace Go.Oc
open Go Go.RowKit
set_option linter.unusedVariables false
set_option linter.unusedSimpArgs false
def unl (listed : Array Bool) : Nat → Nat
 | 0=>0
 | m + 1=>unl listed m + if listed.getD m true then 0 else 1
theorem getD_setT {listed : Array Bool} {i j : Nat} : (listed.setIfInBounds i true).getD j true = if j = i then true else listed.getD j true:=by
 split
 · rename_i e
   subst e
   simp only [Array.getD_eq_getD_getElem?,Array.getElem?_setIfInBounds]
   split
   · split <;> simp_all
   · simp_all
 · rename_i e
   simp only [Array.getD_eq_getD_getElem?,Array.getElem?_setIfInBounds];rw [if_neg (fun h=>e h.symm)]
theorem unl_same {listed : Array Bool} {i : Nat} : ∀ m,m ≤ i → unl (listed.setIfInBounds i true) m = unl listed m
 | 0,_=>rfl
 | m + 1, h => by
   have e2 : m ≠ i:=by omega
   have e3:=unl_same (listed:=listed) (i:=i) m (by omega)
   simp only [unl,getD_setT,e3,if_neg e2]
theorem unl_set {listed : Array Bool} {i : Nat} (hi : listed.getD i true = false) : ∀ m,i < m → unl (listed.setIfInBounds i true) m + 1 = unl listed m
 | 0,h=>by omega
 | m + 1, h => by
   simp only [unl,getD_setT]
   by_cases e : i = m
   · subst e
     rw [unl_same _ (Nat.le_refl _)]
     simp [hi]
   · have:=unl_set hi m (by omega)
     have e2 : m ≠ i:=fun h=>e h.symm
     rw [if_neg e2]
     omega
theorem unl_zero {listed : Array Bool} : ∀ m,unl listed m = 0 → ∀ j,j < m → listed.getD j true = true
 | 0,_,j,h=>by omega
 | m + 1, h, j, hj => by
   simp only [unl] at h
   by_cases e : j = m
   · subst e
     by_cases hx : listed.getD j true = true
     · exact hx
     · simp [hx] at h
   · exact unl_zero m (by omega) j (by omega)
def stepAll (P : Program) (ops : Array Oper) (n : Nat) (F : (Nat → Bool) → (Nat → Nat) → List (Nat × AV)) (R : (Nat → Bool) → (Nat → Nat) → List (Nat × RowC)) : Nat → List Oper → Prop
 | _,[]=>True
 | k,o :: rest=>(∀ b vs,(∀ j e,j < ops.size → (deps ops j).contains e = true → b j = true → b e = true) → b k = false → (∀ e ∈ deps ops k,b e = true) →
  xop P false o (FitV n (F (upd b k true)) (R (upd b k true))) (st n (F b vs) vs (R b vs))) ∧ stepAll P ops n F R (k + 1) rest
theorem stepAll_get {P : Program} {ops : Array Oper} {n : Nat} {F : (Nat → Bool) → (Nat → Nat) → List (Nat × AV)} {R : (Nat → Bool) → (Nat → Nat) → List (Nat × RowC)} : ∀ {l : List Oper} {k i : Nat} {o : Oper},stepAll P ops n F R k l → l[i]? = some o →
 ∀ b vs, (∀ j e, j < ops.size → (deps ops j).contains e = true → b j = true → b e = true) → b (k + i) = false → (∀ e ∈ deps ops (k + i), b e = true) →
   xop P false o (FitV n (F (upd b (k + i) true)) (R (upd b (k + i) true))) (st n (F b vs) vs (R b vs))
 | [],_,_,_,_,h=>by simp at h
 | x :: l, k, 0, o, hs, h => by
   simp only [List.getElem?_cons_zero,Option.some.injEq] at h
   subst h
   exact hs.1
 | x :: l, k, i + 1, o, hs, h => by
   have:=stepAll_get (k:=k + 1) (i:=i) hs.2 (by simpa using h)
   rwa [show k + 1 + i = k + (i + 1) by omega] at this
def upOk (ops : Array Oper) : Bool:=(List.range ops.size).all fun j=>(deps ops j).all fun e=>decide (e < j)
section
variable {P : Program} {C : Ctx} {s : AS} {a : Act} {w : World} {ops : Array Oper}
theorem ready_nil {listed : Array Bool} (hu : upOk ops = true) (h : Region.ready .any ops listed = []) (hsz : listed.size = ops.size) : ∀ j,j < ops.size → listed.getD j true = true:=by
 intro j
 induction j using Nat.strongRecOn with
 | _ j ih =>
   intro hj
   by_cases hx : listed.getD j true = true
   · exact hx
   · exfalso
     have ho : ops[j]? = some ops[j]:=Array.getElem?_eq_getElem hj
     have hr : j ∈ Region.ready .any ops listed:=by
      refine mem_ready.2 ⟨by simpa using hx,ops[j],ho,fun e he hb=>?_⟩
      have hm : e.on ∈ deps ops j:=by unfold deps; rw [ho]; exact List.mem_map.2 ⟨e,List.mem_filter.2 ⟨by simpa using he,hb⟩,rfl⟩
      have hlt:=List.all_eq_true.1 (List.all_eq_true.1 hu j (by simpa using hj)) e.on hm
      simp only [decide_eq_true_eq] at hlt
      have:=ih e.on hlt (by omega)
      have h2 : e.on < listed.size:=by omega
      simpa [h2] using this
     rw [h] at hr
     cases hr
theorem inv_any {Q : AS → Prop} {Q' : Exit → Act → World → Prop} (hQ : ∀ s a w,Q s → SRel C s a w → Q' .normal a w) {n : Nat} {F : (Nat → Bool) → (Nat → Nat) → List (Nat × AV)} {R : (Nat → Bool) → (Nat → Nat) → List (Nat × RowC)}
 (hd : dstOk ops n = true) (hg : ops.all (fun o=>o.guard.isNone) = true) (hu : upOk ops = true) (hstep : stepAll P ops n F R 0 ops.toList)
 (hend : ∀ b vs,(∀ j,b j = true) → Q (st n (F b vs) vs (R b vs))) :
 ∀ (fuel : Nat) (vs : Nat → Nat) (listed : Array Bool) (a : Act) (w : World), listed.size = ops.size → down ops listed → unl listed ops.size ≤ fuel → SRel C (st n (F (fun j => listed.getD j true) vs) vs (R (fun j => listed.getD j true) vs)) a w →
   wpAnyIn (fnc C.rd) 0 P .any ops Q' fuel listed a w:=by
 have all : ∀ {listed : Array Bool},listed.size = ops.size → (∀ j,j < ops.size → listed.getD j true = true) → ∀ j,(fun j=>listed.getD j true) j = true:=fun {listed} hsz h j=>by
  by_cases hj : j < ops.size
  · exact h j hj
  · show listed.getD j true = true
    have : ¬ j < listed.size:=by omega
    simp [this]
 intro fuel
 induction fuel with
 | zero =>
   intro vs listed a w hsz hdn hf hs
   have h0:=unl_zero (listed:=listed) ops.size (by omega)
   refine ⟨List.eq_nil_iff_forall_not_mem.2 fun j hj=>?_,hQ _ _ _ (hend _ _ (all hsz h0)) hs⟩
   obtain ⟨h1,o,ho,_⟩:=mem_ready.1 hj
   have:=h0 j (Array.getElem?_eq_some_iff.1 ho).1
   rw [this] at h1
   cases h1
 | succ fuel ih =>
   intro vs listed a w hsz hdn hf hs
   refine ⟨fun h0=>hQ _ _ _ (hend _ _ (all hsz (ready_nil hu h0 hsz))) hs,fun i hi=>?_⟩
   obtain ⟨hi1,o,ho,hall⟩:=mem_ready.1 hi
   unfold wpOpIn
   rw [ho]
   simp only
   have hil : i < ops.size:=(Array.getElem?_eq_some_iff.1 ho).1
   have hgo : o.guard = none:=by
    have:=Array.all_eq_true_iff_forall_mem.1 hg o (Array.mem_of_getElem? ho)
    simpa using this
   obtain ⟨p,hp⟩:=hs
   rw [if_pos (wantA_sound hp (by simp [wantA,hgo]))]
   have hx:=stepAll_get (k:=0) (i:=i) hstep (by rw [Array.getElem?_toList]; exact ho) (fun j=>listed.getD j true) vs (fun j e hj he hb=>?_) (by rw [Nat.zero_add]; exact hi1) (fun e he=>?_)
   · rw [Nat.zero_add] at hx
     refine xop_sound hp hx (dstOk_get hd ho) (fun a' w' p' s' hs' hn hK=>?_) (dstOk_nd hd ho)
     obtain ⟨vs',hsub⟩:=hK
     have e : upd (fun j=>listed.getD j true) i true = fun j=>(listed.setIfInBounds i true).getD j true:=by
      funext j
      rw [getD_setT]
      rfl
     rw [e] at hsub
     exact ih vs' _ a' w' (by simpa using hsz) (down_set hdn hi) (by have:=unl_set hi1 ops.size hil; omega) (hsub C a' w' ⟨p',hs'⟩)
   · have hjs : j < listed.size:=by omega
     have hb' : listed.getD j true = true:=hb
     have h2:=hdn j (by simpa [hjs] using hb') e (by simpa using he)
     show listed.getD e true = true
     by_cases hes : e < listed.size
     · simpa [hes] using h2
     · simp [hes]
   · have h2:=ready_deps hi e (by simpa using he)
     show listed.getD e true = true
     by_cases hes : e < listed.size
     · simpa [hes] using h2
     · simp [hes]
end
theorem awp_inv {P : Program} {C : Ctx} {id : Nat} {l : List Oper} {n : Nat} {Q : Exit → AS → Prop} {s : AS} (F : (Nat → Bool) → (Nat → Nat) → List (Nat × AV)) (R : (Nat → Bool) → (Nat → Nat) → List (Nat × RowC)) (hm : P.follows .mixedOrders = true)
 (hd : dstOk l.toArray n = true) (hg : l.toArray.all (fun o=>o.guard.isNone) = true) (hu : upOk l.toArray = true) (h0 : FitV n (F fun j=>decide (l.length ≤ j)) (R fun j=>decide (l.length ≤ j)) s)
 (hstep : stepAll P l.toArray n F R 0 l) (hend : ∀ b vs,(∀ j,b j = true) → Q .normal (st n (F b vs) vs (R b vs))) : awp P C (.region id l.toArray true) Q s:=fun a w hs=>by
 obtain ⟨vs,hsub⟩:=h0
 obtain ⟨p,hp⟩:=hsub C a w hs
 have hs' : SR C p _ a { w with drawn:=w.drawn + 1 }:=hp.below (w':=w.drew) ((Below.refl _ _).drew) (fun _ h=>h) (fun _ h=>.inl h) hp.rb
 refine wpIn_region_any hm ?_
 have e : (fun j=>(Array.replicate l.toArray.size false).getD j true) = fun j=>decide (l.length ≤ j):=by
  funext j
  by_cases h : j < l.length
  · have : ¬ l.length ≤ j:=by omega
    simp [h,this]
  · have : l.length ≤ j:=by omega
    simp [h,this]
 refine inv_any (Q:=fun s=>Q .normal s) (n:=n) (F:=F) (R:=R) (fun s a w hq hs=>⟨s,hs,hq⟩) hd hg hu (by simpa using hstep) hend _ vs _ _ _ (by simp) (fun j hj=>?_) ?_ ?_
 · exfalso
   simp only [Array.getD_eq_getD_getElem?,Array.getElem?_replicate] at hj
   split at hj <;> simp at hj
 · have : ∀ m,unl (Array.replicate l.toArray.size false) m ≤ m:=by
    intro m
    induction m with
    | zero=>exact Nat.le_refl _
    | succ m ih=>simp only [unl]; split <;> omega
   exact this _
 · rw [e]
   exact ⟨p,hs'⟩
def allB (b : Nat → Bool) (v : Bool) : List Nat → Prop
 | []=>True
 | e :: es=>b e = v ∧ allB b v es
def chU (ops : Array Oper) (n : Nat) : List Nat → List Nat → Bool
 | _,[]=>true
 | seen,e :: es=>((deps ops n).contains e || seen.any fun j=>decide (j < ops.size) && (deps ops j).contains e) && chU ops n (e :: seen) es
def chD (ops : Array Oper) (n : Nat) : List Nat → List Nat → Bool
 | _,[]=>true
 | seen,e :: es=>(decide (e < ops.size) && ((deps ops e).contains n || seen.any fun j=>(deps ops e).contains j)) && chD ops n (e :: seen) es
theorem upT0 {ops : Array Oper} {b : Nat → Bool} {n : Nat} (hdn : ∀ j e,j < ops.size → (deps ops j).contains e = true → b j = true → b e = true) (hde : ∀ e ∈ deps ops n,b e = true) : ∀ (es seen : List Nat),(∀ j ∈ seen,b j = true) → chU ops n seen es = true → allB b true es
 | [],_,_,_=>trivial
 | e :: es, seen, hs, h => by
   simp only [chU,Bool.and_eq_true,Bool.or_eq_true,List.any_eq_true,decide_eq_true_eq] at h
   have he : b e = true:=by
    rcases h.1 with h1 | ⟨j,hj,h1,h2⟩
    · exact hde e (by simpa using h1)
    · exact hdn j e h1 h2 (hs j hj)
   refine ⟨he,upT0 hdn hde es (e :: seen) (fun j hj=>?_) h.2⟩
   rcases List.mem_cons.1 hj with rfl | hj
   · exact he
   · exact hs j hj
theorem upT {ops : Array Oper} {b : Nat → Bool} {n : Nat} (hdn : ∀ j e,j < ops.size → (deps ops j).contains e = true → b j = true → b e = true) (hde : ∀ e ∈ deps ops n,b e = true) (es : List Nat) (h : chU ops n [] es = true) : allB b true es:=upT0 hdn hde es [] (by simp) h
theorem dnT0 {ops : Array Oper} {b : Nat → Bool} {n : Nat} (hdn : ∀ j e,j < ops.size → (deps ops j).contains e = true → b j = true → b e = true) (hbk : b n = false) : ∀ (es seen : List Nat),(∀ j ∈ seen,b j = false) → chD ops n seen es = true → allB b false es
 | [],_,_,_=>trivial
 | e :: es, seen, hs, h => by
   simp only [chD,Bool.and_eq_true,Bool.or_eq_true,List.any_eq_true,decide_eq_true_eq] at h
   have he : b e = false:=by
    cases hb : b e
    · rfl
    · rcases h.1.2 with h1 | ⟨j,hj,h2⟩
      · rw [hdn e n h.1.1 h1 hb] at hbk; cases hbk
      · have:=hs j hj
        rw [hdn e j h.1.1 h2 hb] at this; cases this
   refine ⟨he,dnT0 hdn hbk es (e :: seen) (fun j hj=>?_) h.2⟩
   rcases List.mem_cons.1 hj with rfl | hj
   · exact he
   · exact hs j hj
theorem dnT {ops : Array Oper} {b : Nat → Bool} {n : Nat} (hdn : ∀ j e,j < ops.size → (deps ops j).contains e = true → b j = true → b e = true) (hbk : b n = false) (es : List Nat) (h : chD ops n [] es = true) : allB b false es:=dnT0 hdn hbk es [] (by simp) h
end Go.Oc

namespace Go.Oc
open Go Go.RowKit
set_option linter.unusedVariables false
set_option linter.unusedSimpArgs false
def sAppB (P : Program) (s : AS) (d : Nat) (t t' : TypeId) (x y : AV) : Res :=
 match tyq P t,decide (t = t'),x,y with
 | some ⟨.slice e esz eb _, _, _, _⟩, true, .os k n sz off m, .os j n2 sz2 off2 m2 =>
   match s.rows k,s.rows j with
   | ⟨n',.ara e' sz' cs⟩,⟨n2',.ara e2 sz2' ds⟩=>⟨(n = n' ∧ n2 = n2') ∧ (e' = e ∧ e2 = e) ∧ (sz = esz ∧ sz' = esz ∧ sz2 = esz ∧ sz2' = esz) ∧ (off = 0 ∧ off2 = 0) ∧ (cs.length = m * esz ∧ ds.length = m2 * esz) ∧ (0 < m ∧ 0 < m2 ∧ 0 < esz) ∧ (m + m2) * eb ≤ 140737488355328 ∧ m + m2 ≤ 9223372036854775807 ∧ k < 1000,True,
    ⟨.os k (n' + 1) esz 0 (m + m2),[(k,⟨n' + 1,.ara e esz (cs ++ ds)⟩)]⟩⟩
   | _,_=>.bad
 | some ⟨.slice e esz eb _, _, _, _⟩, true, .r .ns, .os j n2 sz2 off2 m2 =>
   match s.rows j with
   | ⟨n2',.ara e2 sz2' ds⟩=>⟨n2 = n2' ∧ e2 = e ∧ (sz2 = esz ∧ sz2' = esz) ∧ off2 = 0 ∧ ds.length = m2 * esz ∧ (0 < m2 ∧ 0 < esz) ∧ m2 * eb ≤ 140737488355328 ∧ m2 ≤ 9223372036854775807 ∧ d < 1000,True,
    ⟨.os d ((s.rows d).ver + 1) esz 0 m2,[(d,⟨(s.rows d).ver + 1,.ara e esz ds⟩)]⟩⟩
   | _=>.bad
 | _,_,_,_=>.bad
section
variable {P : Program} {C : Ctx} {p : Plan} {s : AS} {a : Act} {w : World} {o : Oper}
theorem ara_read (h : SR C p s a w) {k n esz e m : Nat} {cs : List AV} {x : Operand} (e3 : s.ev x = .os k n esz 0 m) (e5 : s.rows k = ⟨n,.ara e esz cs⟩) (hm : cs.length = m * esz) (h0 : 0 < m) :
 ∃ b cells l rest, p.β k = some b ∧ a.eval x = .slice (some ⟨b, 0, none⟩) m (p.γ k) ∧ w.heap[b]? = some (.cells cells e (0, 0)) ∧ cells.size = p.γ k * esz ∧ cells.toList = l ++ rest ∧ AV.relV w p s.ver cs l ∧ (∀ u ∈ l, u.oneCell' = true) ∧ l.length = m * esz ∧
   m ≤ p.γ k ∧ ∀ j u,l[j]? = some u → w.cell? ((⟨b,0,none⟩ : Addr).add j) = some u:=by
 have hver : n = s.ver k:=by simp [AS.ver,e5]
 have hrow:=h.rw k
 rw [e5] at hrow
 simp only [rowRel] at hrow
 obtain ⟨b,cells,hβ,hh,hcs,l,rest,hl,hV,h1⟩:=hrow
 rcases ev_os h e3 hver with ⟨hb0,_⟩ | ⟨b',A,hβ',hv,hle,hA⟩
 · rw [hb0] at hβ; cases hβ
 · rw [hβ] at hβ'
   injection hβ' with hβ'
   subst hβ'
   obtain rfl:=hA (.inl h0)
   simp only [Nat.zero_mul,Nat.sub_zero,Nat.zero_add] at hv hle
   refine ⟨b,cells,l,rest,hβ,hv,hh,hcs,hl,hV,h1,by rw [AV.relV_length hV,hm],hle,fun j u hj=>?_⟩
   rw [add_at,Nat.zero_add,cell_of_row w b j cells e (0,0) hh,← Array.getElem?_toList,hl,List.getElem?_append_left (List.getElem?_eq_some_iff.1 hj).1]
   exact hj
theorem good_appB {x y : Operand} {t t' : TypeId} (h : SR C p s a w) (ho : o.op = .call ⟨.builtin .append,#[x,y],#[t,t']⟩) (hp : (sAppB P s (o.dst.getD 0) t t' (s.ev x) (s.ev y)).pre) :
 Done P C o s a w (sAppB P s (o.dst.getD 0) t t' (s.ev x) (s.ev y)):=by
 have go : ∀ {v : Value} {w2 : World},(Builtin.append_ #[t,t'] o.type #[a.eval x,a.eval y]).run P w = .ok v w2 → (execOp a.eval o).run P w = .ok (.value v) w2:=fun hr =>
  run_builtin_of ho (by simp only [builtin,Sem.run_bind,List.map_toArray,List.map_cons,List.map_nil,hr,Result.andThen_ok,Sem.run_pure])
 unfold sAppB at hp ⊢
 split at hp
 · rename_i e esz eb ez ssz sagg sz0 k n sz off m j n2 sz2 off2 m2 e1 e2 e3 e4
   obtain rfl : t = t':=by simpa using e2
   split at hp
   · rename_i n' e' sz' cs n2' ee sz2' ds e5 e6
     obtain ⟨⟨g1,g2⟩,⟨g3,g4⟩,⟨g5,g6,g7,g8⟩,⟨g9,g10⟩,⟨hm,hm2⟩,⟨h0,h02,hpos⟩,hb,hmax,hk0⟩:=hp
     subst g1 g2 g3 g4 g5 g6 g7 g8 g9 g10
     have hn2 : n = (s.rows k).ver:=by rw [e5]
     obtain ⟨b,cells,l,rest,hβ,hv,hh,hcs,hl,hV,h1,hll,hle,hget⟩:=ara_read h e3 e5 hm h0
     obtain ⟨bj,cellsj,vs,restj,hβj,hvj,hhj,hcsj,hlj,hVj,h1j,hlv,hlej,hgv⟩:=ara_read h e4 e6 hm2 h02
     obtain ⟨hu,hok,hco,hby,zv,hzv,hez⟩:=tyq_slice e1
     obtain ⟨i,z,hi,hzero,hcells,hz1,hzl⟩:=zeroOf_spec hzv
     rw [cellsOf_info hi] at hco
     rw [bytesOf_info hi] at hby
     by_cases hroom : m + m2 ≤ p.γ k
     · have hfit : m * sz2' + vs.length ≤ cells.size:=by
        rw [hlv,hcs,← Nat.add_mul]; exact Nat.mul_le_mul_right _ hroom
       have hr:=run_append_room (P:=P) w t o.type ee i hu hi b m (p.γ k) cells hh ⟨bj,0,none⟩ m2 (p.γ j) vs (by rw [hlv,hco]) hgv h1j hroom (by rw [hco]; exact hfit)
       rw [hco] at hr
       have htk : cells.toList.take (m * sz2') = l:=by rw [hl,← hll,List.take_left]
       have hSR:=h.reRow (w':=w.setRow b (cells.toList.take (m * sz2') ++ vs ++ cells.toList.drop (m * sz2' + vs.length)).toArray) k hk0 (.ara ee sz2' (cs ++ ds)) rfl (some b) (p.γ k) (h.cap k) rfl rfl rfl (by simp)
        (fun j _ hj=>setRow_other w b j _ (fun e=>hj (by rw [e]; exact hβ))) (fun b2 h2=>by injection h2 with h2; subst h2; exact ⟨by simpa using (h.bl k _ hβ).1,.inl hβ⟩) (fun p' ver' hR' hβ' hγ' hk=>by
        simp only [rowRel];rw [hγ']
        refine ⟨b,_,hβ',setRow_heap w b cells _ ee _ hh,?_,l ++ vs,cells.toList.drop (m * sz2' + vs.length),by rw [htk],?_,fun u hu=>(List.mem_append.1 hu).elim (h1 u) (h1j u)⟩
        · simp; omega
        · exact AV.relV_append (AV.relV_mono hk _ _ hV) (AV.relV_mono hk _ _ hVj))
       refine ⟨_,.slice (some ⟨b,0,none⟩) (m + m2) (p.γ k),_,{ p with β:=upd p.β k (some b),γ:=upd p.γ k (p.γ k) },go (by rw [hv,hvj]; exact hr),.inl rfl,trivial,?_,?_⟩
       · rw [rows_one,hn2]; exact hSR
       · rw [rows_one,hn2]
         simp only [AV.rel,vers,upd_same];exact ⟨Nat.le_refl _,fun _=>.inr ⟨b,_,rfl,by simp; rfl,by simpa using hroom,fun _=>by simp⟩⟩
     · have hr:=run_append_grow (P:=P) w t o.type ee i z hu hi hzero ⟨b,0,none⟩ m (p.γ k) l (by rw [hll,hco]) hget ⟨bj,0,none⟩ m2 (p.γ j) vs (by rw [hlv,hco]) hgv (by omega) (by omega)
        (growslice_fits (by omega) (by rw [hby]; exact hb))
       have hge:=grownCap_ge w (m + m2) (p.γ k) ee
       have hcap:=grownCap_le_maxLen w (m + m2) (p.γ k) ee (by simp only [maxLen]; omega)
       have hzc : z.cells.size = sz2':=by rw [cellsOf_info hi,hco] at hzl; rw [← hzl,← hcells]; simp
       have hd : SR C p s a w.drew:=h.below (w':=w.drew) ((Below.refl _ _).drew) (fun _ h=>h) (fun _ h=>.inl h) h.rb
       have hVd : AV.relV w.drew p s.ver cs l:=by
        obtain ⟨b3,cells3,hβ3,hh3,_,l3,rest3,hl3,hV3,_⟩ : ∃ b cells,p.β k = some b ∧ w.drew.heap[b]? = some (.cells cells ee (0,0)) ∧ cells.size = p.γ k * sz2' ∧ ∃ l rest,cells.toList = l ++ rest ∧ AV.relV w.drew p s.ver cs l ∧ ∀ u ∈ l,u.oneCell' = true:=by
         have:=hd.rw k
         rw [e5] at this
         simpa only [rowRel] using this
        rw [hβ] at hβ3; injection hβ3 with hβ3; subst hβ3
        have hh3' : w.heap[b]? = some (.cells cells3 ee (0,0)):=hh3
        rw [hh] at hh3'; injection hh3' with hh3'; injection hh3' with hh3'; subst hh3'
        have e7 : l3 = l:=by
         have e8:=AV.relV_length hV3
         rw [hl] at hl3
         have : l.length = l3.length:=by rw [hll,← hm]; exact e8.symm
         exact (List.append_inj hl3 this).1.symm
        subst e7
        exact hV3
       have hVjd : AV.relV w.drew p s.ver ds vs:=by
        obtain ⟨b3,cells3,hβ3,hh3,_,l3,rest3,hl3,hV3,_⟩ : ∃ b cells,p.β j = some b ∧ w.drew.heap[b]? = some (.cells cells ee (0,0)) ∧ cells.size = p.γ j * sz2' ∧ ∃ l rest,cells.toList = l ++ rest ∧ AV.relV w.drew p s.ver ds l ∧ ∀ u ∈ l,u.oneCell' = true:=by
         have:=hd.rw j
         rw [e6] at this
         simpa only [rowRel] using this
        rw [hβj] at hβ3; injection hβ3 with hβ3; subst hβ3
        have hh3' : w.heap[bj]? = some (.cells cells3 ee (0,0)):=hh3
        rw [hhj] at hh3'; injection hh3' with hh3'; injection hh3' with hh3'; subst hh3'
        have e7 : l3 = vs:=by
         have e8:=AV.relV_length hV3
         rw [hlj] at hl3
         have : vs.length = l3.length:=by rw [hlv,← hm2]; exact e8.symm
         exact (List.append_inj hl3 this).1.symm
        subst e7
        exact hV3
       have hn:=hd.newRow k hk0 (.ara ee sz2' (cs ++ ds)) rfl (grownCap w (m + m2) (p.γ k) ee) hcap
        (.cells (l.toArray ++ vs.toArray ++ Builtin.zeroCells z.cells (grownCap w (m + m2) (p.γ k) ee - (m + m2))) ee) (fun p' ver' _ hβ hγ hk=>by
        simp only [rowRel];rw [hγ]
        refine ⟨_,_,hβ,heap_alloc_new w.drew _,?_,l ++ vs,(Builtin.zeroCells z.cells (grownCap w (m + m2) (p.γ k) ee - (m + m2))).toList,?_,AV.relV_append (AV.relV_mono hk _ _ hVd) (AV.relV_mono hk _ _ hVjd),fun u hu=>(List.mem_append.1 hu).elim (h1 u) (h1j u)⟩
        · rw [Array.size_append,Array.size_append,size_zero,hzc,List.size_toArray,List.size_toArray,hll,hlv,← Nat.add_mul,← Nat.add_mul]
          congr 1; omega
        · simp only [Array.toList_append,List.append_assoc])
       refine ⟨_,_,_,_,go (by rw [hv,hvj]; exact hr),.inl rfl,trivial,by rw [rows_one,hn2]; exact hn,?_⟩
       rw [rows_one,hn2]
       simp only [AV.rel,vers,upd_same];exact ⟨Nat.le_refl _,fun _=>.inr ⟨_,_,rfl,by simp; rfl,by simpa using hge,fun _=>by simp⟩⟩
   · exact hp.elim
 · rename_i e esz eb ez ssz sagg sz0 j n2 sz2 off2 m2 e1 e2 e3 e4
   obtain rfl : t = t':=by simpa using e2
   split at hp
   · rename_i n2' ee sz2' ds e6
     obtain ⟨g2,g4,⟨g7,g8⟩,g10,hm2,⟨h02,hpos⟩,hb,hmax,hd0⟩:=hp
     subst g2 g4 g7 g8 g10
     obtain ⟨A,hv⟩:=ev_ns h e3
     obtain ⟨bj,cellsj,vs,restj,hβj,hvj,hhj,hcsj,hlj,hVj,h1j,hlv,hlej,hgv⟩:=ara_read h e4 e6 hm2 h02
     obtain ⟨hu,hok,hco,hby,zv,hzv,hez⟩:=tyq_slice e1
     obtain ⟨i,z,hi,hzero,hcells,hz1,hzl⟩:=zeroOf_spec hzv
     rw [cellsOf_info hi] at hco
     rw [bytesOf_info hi] at hby
     have hrun : (Builtin.append_ #[t,t] o.type #[.slice A 0 0,.slice (some ⟨bj,0,none⟩) m2 (p.γ j)]).run P w =
      .ok (.slice (some ⟨w.heap.size,0,none⟩) m2 (grownCap w m2 0 ee)) (w.drew.alloc (.cells (vs.toArray ++ Builtin.zeroCells z.cells (grownCap w m2 0 ee - m2)) ee)):=by
      cases A with
      | none=>exact run_append_nil (P:=P) w t o.type ee i z hu hi hzero ⟨bj,0,none⟩ m2 (p.γ j) vs (by rw [hlv,hco]) hgv h02 (by omega) (by rw [hby]; omega)
      | some b =>
        have:=run_append_grow (P:=P) w t o.type ee i z hu hi hzero b 0 0 [] (by simp) (by simp) ⟨bj,0,none⟩ m2 (p.γ j) vs (by rw [hlv,hco]) hgv (by omega) (by omega) (growslice_fits (by omega) (by rw [hby]; simpa using hb))
        simpa using this
     have hge:=grownCap_ge w m2 0 ee
     have hcap:=grownCap_le_maxLen w m2 0 ee (by simp only [maxLen]; omega)
     have hzc : z.cells.size = sz2':=by rw [cellsOf_info hi,hco] at hzl; rw [← hzl,← hcells]; simp
     have hd : SR C p s a w.drew:=h.below (w':=w.drew) ((Below.refl _ _).drew) (fun _ h=>h) (fun _ h=>.inl h) h.rb
     have hVjd : AV.relV w.drew p s.ver ds vs:=by
      obtain ⟨b3,cells3,hβ3,hh3,_,l3,rest3,hl3,hV3,_⟩ : ∃ b cells,p.β j = some b ∧ w.drew.heap[b]? = some (.cells cells ee (0,0)) ∧ cells.size = p.γ j * sz2' ∧ ∃ l rest,cells.toList = l ++ rest ∧ AV.relV w.drew p s.ver ds l ∧ ∀ u ∈ l,u.oneCell' = true:=by
       have:=hd.rw j
       rw [e6] at this
       simpa only [rowRel] using this
      rw [hβj] at hβ3; injection hβ3 with hβ3; subst hβ3
      have hh3' : w.heap[bj]? = some (.cells cells3 ee (0,0)):=hh3
      rw [hhj] at hh3'; injection hh3' with hh3'; injection hh3' with hh3'; subst hh3'
      have e7 : l3 = vs:=by
       have e8:=AV.relV_length hV3
       rw [hlj] at hl3
       have : vs.length = l3.length:=by rw [hlv,← hm2]; exact e8.symm
       exact (List.append_inj hl3 this).1.symm
      subst e7
      exact hV3
     have hn:=hd.newRow (o.dst.getD 0) hd0 (.ara ee sz2' ds) rfl (grownCap w m2 0 ee) hcap
      (.cells (vs.toArray ++ Builtin.zeroCells z.cells (grownCap w m2 0 ee - m2)) ee) (fun p' ver' _ hβ hγ hk=>by
      simp only [rowRel];rw [hγ]
      refine ⟨_,_,hβ,heap_alloc_new w.drew _,?_,vs,(Builtin.zeroCells z.cells (grownCap w m2 0 ee - m2)).toList,?_,AV.relV_mono hk _ _ hVjd,h1j⟩
      · rw [Array.size_append,size_zero,hzc,List.size_toArray,hlv,← Nat.add_mul]
        congr 1; omega
      · simp only [Array.toList_append])
     refine ⟨_,_,_,_,go (by rw [hv,hvj]; exact hrun),.inl rfl,trivial,by rw [rows_one]; exact hn,?_⟩
     rw [rows_one]
     simp only [AV.rel,vers,upd_same];exact ⟨Nat.le_refl _,fun _=>.inr ⟨_,_,rfl,by simp; rfl,by simpa using hge,fun _=>by simp⟩⟩
   · exact hp.elim
 · exact hp.elim
variable {Q : Exit → AS → Prop} {ops : Array Oper}
end
end Go.Oc

namespace Go.Oc
open Go Go.RowKit
set_option linter.unusedVariables false
set_option linter.unusedSimpArgs false
def xlit (P : Program) (o : Oper) (K : AS → Prop) (s : AS) : Prop :=
 match o.op,o.dst with
 | .buildSlice t n ps,some d=>aR s (some d) (sLitBox P s d t n (ps.toList.map fun (i,x)=>(i,s.ev x))) K
 | _,_=>False
def xappB (P : Program) (o : Oper) (K : AS → Prop) (s : AS) : Prop :=
 match o.op,o.dst with
 | .call ⟨.builtin .append,⟨[x,y]⟩,⟨[t,t']⟩⟩,some d=>aR s (some d) (sAppB P s d t t' (s.ev x) (s.ev y)) K
 | _,_=>False
def xopL (P : Program) (o : Oper) (K : AS → Prop) (s : AS) : Prop:=xop P false o K s ∨ xlit P o K s ∨ xappB P o K s
section
variable {P : Program} {C : Ctx} {s : AS}
theorem xopL_sound {p : Plan} {a : Act} {w : World} {o : Oper} {KA : AS → Prop} (hp : SR C p s a w) (h : xopL P o KA s) (hd0 : ∀ t,o.dst = some t → t < s.n) {K : Act → World → Prop} {Q : Exit → Act → World → Prop}
 (hK : ∀ a' w' p' s',SR C p' s' a' w' → s'.n = s.n → KA s' → K a' w') (hnd : ∀ c,o.op ≠ .defer c) : o.wpIn (fnc C.rd) 0 P a w K Q:=by
 rcases h with h | h | h
 · exact xop_sound hp h hd0 hK hnd
 · unfold xlit at h
   split at h
   · rename_i t n ps d ho hd
     refine wpIn_of_wp hnd ?_
     have hg:=good_litBox (P:=P) (o:=o) hp ho (by rw [hd]; exact h.1)
     rw [hd] at hg
     obtain ⟨nx,v,w',p',hrun,hnx,hass,hSR,hrel⟩:=hg
     unfold Oper.wp
     rw [hrun]
     have hput:=hSR.put' (d:=some d) hrel (fun t ht=>by injection ht with ht; subst ht; exact hd0 _ hd)
     rcases hnx with rfl | ⟨rfl,rfl⟩
     · show K (a.put o.dst v) w'
       rw [hd]
       exact hK _ _ p' _ hput (app_n _ _ _) (h.2 hass)
     · show K (a.put o.dst undef) w'
       rw [hd]
       exact hK _ _ p' _ hput (app_n _ _ _) (h.2 hass)
   · exact h.elim
 · unfold xappB at h
   split at h
   · rename_i x y t t' d ho hd
     refine wpIn_of_wp hnd ?_
     have hg:=good_appB (P:=P) (o:=o) hp ho (by rw [hd]; exact h.1)
     rw [hd] at hg
     obtain ⟨nx,v,w',p',hrun,hnx,hass,hSR,hrel⟩:=hg
     unfold Oper.wp
     rw [hrun]
     have hput:=hSR.put' (d:=some d) hrel (fun t ht=>by injection ht with ht; subst ht; exact hd0 _ hd)
     rcases hnx with rfl | ⟨rfl,rfl⟩
     · show K (a.put o.dst v) w'
       rw [hd]
       exact hK _ _ p' _ hput (app_n _ _ _) (h.2 hass)
     · show K (a.put o.dst undef) w'
       rw [hd]
       exact hK _ _ p' _ hput (app_n _ _ _) (h.2 hass)
   · exact h.elim
end
def stepAllL (P : Program) (ops : Array Oper) (n : Nat) (F : (Nat → Bool) → (Nat → Nat) → List (Nat × AV)) (R : (Nat → Bool) → (Nat → Nat) → List (Nat × RowC)) : Nat → List Oper → Prop
 | _,[]=>True
 | k,o :: rest=>(∀ b vs,(∀ j e,j < ops.size → (deps ops j).contains e = true → b j = true → b e = true) → b k = false → (∀ e ∈ deps ops k,b e = true) →
  xopL P o (FitV n (F (upd b k true)) (R (upd b k true))) (st n (F b vs) vs (R b vs))) ∧ stepAllL P ops n F R (k + 1) rest
section
variable {P : Program} {C : Ctx} {s : AS} {a : Act} {w : World} {ops : Array Oper}
end
end Go.Oc

namespace Go.Proofs.Ytlljkgiomkmjbaa.Tb
open Go Go.Oc
set_option linter.unusedSimpArgs false
set_option linter.unusedVariables false
set_option maxRecDepth 8000
structure Mt where
 h : Int
 a : Int
 p : Bool
 f : Int
 g : Int
structure Tr where
 teams : Int
 legs : Int
 win : Int
 draw : Int
 ded : List Int
 up : Int
 down : Int
structure Rw where
 team : Int
 pl : Int
 won : Int
 dr : Int
 lo : Int
 f : Int
 g : Int
 pts : Int
abbrev mtR (m : Mt) : List RV:=[i64 m.h,i64 m.a,.bo m.p,i64 m.f,i64 m.g]
abbrev mtsR (l : List Mt) : RV:=.sl 5 (l.map mtR)
abbrev trC (r : Tr) : List RV:=[i64 r.teams,i64 r.legs,i64 r.win,i64 r.draw,ints r.ded,i64 r.up,i64 r.down]
abbrev trV (r : Tr) : RV:=.ag (trC r)
abbrev rwR (x : Rw) : List RV:=[i64 x.team,i64 x.pl,i64 x.won,i64 x.dr,i64 x.lo,i64 x.f,i64 x.g,i64 x.pts]
abbrev rwsR (l : List Rw) : RV:=.sl 8 (l.map rwR)
abbrev dvC (r : Tr) (l : List Mt) : List RV:=[i64 r.teams,i64 r.legs,i64 r.win,i64 r.draw,ints r.ded,i64 r.up,i64 r.down,mtsR l]
abbrev dvV (r : Tr) (l : List Mt) : RV:=.ag (dvC r l)
def I64 (n : Int) : Prop:=-9223372036854775808 ≤ n ∧ n ≤ 9223372036854775807
structure WfR (r : Tr) : Prop where
 teams : I64 r.teams
 legs : I64 r.legs
 win : I64 r.win
 draw : I64 r.draw
 ded : ∀ x ∈ r.ded,I64 x
 up : I64 r.up
 down : I64 r.down
structure WfM (m : Mt) : Prop where
 h : I64 m.h
 a : I64 m.a
 f : I64 m.f
 g : I64 m.g
theorem within1_ok (n a b : Int) : ACalls Try.prog 228 [i64 n,.rp [i64 a],.rp [i64 b]] (.bo (decide (n < a) || decide (b < n))):=by
 refine acalls_st (rs:=[.bo (decide (n < a) || decide (b < n))]) [.tmp 4] Try.func228 rfl (by kernel_rfl) Try.ntmps228 rfl (by simp) rfl fun C vs=>?_
 repeat refine zq ?_
 refine zb fun K hK=>?_;simp only [go_sem];(try simp (disch:=omega) only [zI]);repeat first | intro _ | refine ⟨by omega,?_⟩
 refine hK _ ?_;clear hK K
 repeat refine zq ?_
 refine zb fun K hK=>?_;simp only [go_sem];(try simp (disch:=omega) only [zI])
 refine ⟨fun h=>?_,fun h=>?_⟩ <;>
 · repeat first | intro _ | refine ⟨by omega,?_⟩
   refine hK _ ?_;clear hK K;refine ze ?_;simp only [go_sem]
   try simp [h]
theorem index_ok (p : Int → Bool) (f : Nat) (caps : List RV) (l : List Int) (h : ∀ x ∈ l,ACalls Try.prog f (i64 x :: caps) (.bo (p x))) : ACalls Try.prog 160 [ints l,.fn f caps] (i64 (indexF p l)):=by
 refine acalls_st (rs:=[i64 (indexF p l)]) [.tmp 4] Try.func160 rfl (by kernel_rfl) Try.ntmps160 rfl (by simp) rfl fun C vs=>?_
 repeat refine zq ?_
 refine zb fun K hK=>?_;simp only [go_sem];(try simp (disch:=omega) only [zI]);repeat first | intro _ | refine ⟨by omega,?_⟩
 refine hK _ ?_;clear hK K
 repeat refine zq ?_
 refine zb fun K hK=>?_;simp only [go_sem];(try simp (disch:=omega) only [zI])
 intro hl
 repeat first | intro _ | refine ⟨by omega,?_⟩
 refine hK _ ?_;clear hK K
 repeat refine zq ?_
 refine zd ?_
 refine awp_upto (n:=19) l.length (fun i vs=>[(0,.r (ints l)),(1,.r (.fn f caps)),(7,.r (i64 l.length)),(8,.r (i64 i))]) (fun _=>[])
  (fun i=>indexF p l = if indexF p (l.drop i) < 0 then -1 else i + indexF p (l.drop i)) 0 (fit_of [] ?_ rfl) (Nat.zero_le _) ?_ ?_
 · try simp only [go_sem]
 · simp only [List.drop_zero]
   have:=indexF_ge p l
   split
   · omega
   · simp
 · intro i vs hi hI
   repeat refine zq ?_
   refine zb fun K hK=>?_;simp only [go_sem];(try simp (disch:=omega) only [zI]);repeat first | intro _ | refine ⟨by omega,?_⟩
   refine hK _ ?_;clear hK K
   repeat refine zq ?_
   refine zc rfl (fun hc=>?_) (fun hc=>?_) <;> (try simp only [go_sem] at hc)
   · obtain ⟨x,hx⟩:=opt_of_lt hc
     rw [drop_of_opt hx] at hI
     refine zx ?_
     repeat refine zq ?_
     refine zd ?_
     repeat refine zq ?_
     refine zb fun K hK=>?_;simp only [go_sem];(try simp (disch:=omega) only [zI]);repeat first | intro _ | refine ⟨by omega,?_⟩
     refine hK _ ?_;clear hK K
     repeat refine zq ?_
     refine zb fun K hK=>?_;simp only [go_sem,hx,hc];(try simp (disch:=omega) only [zI])
     refine zh (h x (mem_of_opt hx)) rfl (by simp only [go_sem,i64,ints]) (by simp only [go_sem,i64,ints]) (by first | exact .inl rfl | exact .inr rfl) ?_
     (try simp only [go_sem]);(try simp (disch:=omega) only [zI]);repeat first | intro _ | refine ⟨by omega,?_⟩
     refine hK _ ?_;clear hK K
     repeat refine zq ?_
     refine zc rfl (fun hc=>?_) (fun hc=>?_) <;> (try simp only [go_sem] at hc)
     · repeat refine zq ?_
       refine zb fun K hK=>?_;simp only [go_sem];(try simp (disch:=omega) only [zI]);repeat first | intro _ | refine ⟨by omega,?_⟩
       refine hK _ ?_;clear hK K;refine ze ?_;simp only [go_sem]
       simp [hI,indexF,hc]
     · refine zx ?_
       try simp only [go_sem]
       repeat refine zq ?_
       refine zb fun K hK=>?_;simp only [go_sem];(try simp (disch:=omega) only [zI]);repeat first | intro _ | refine ⟨by omega,?_⟩
       refine hK _ ?_;clear hK K
       try simp only [go_sem]
       refine ⟨‹_›,?_,fit_of [] ?_ rfl⟩
       · rw [hI]
         simp only [indexF,hc,Bool.false_eq_true,if_false]
         have:=indexF_ge p (l.drop (i + 1))
         (repeat' split) <;> omega
       · try simp only [go_sem]
   · refine zf ?_;simp only [go_sem]
     repeat refine zq ?_
     refine zb fun K hK=>?_;simp only [go_sem];(try simp (disch:=omega) only [zI]);repeat first | intro _ | refine ⟨by omega,?_⟩
     refine hK _ ?_;clear hK K;refine ze ?_;simp only [go_sem]
     have : l.drop i = []:=List.drop_eq_nil_of_le (by omega)
     simp [hI,this,indexF]
theorem contains_ok (p : Int → Bool) (f : Nat) (caps : List RV) (l : List Int) (h : ∀ x ∈ l,ACalls Try.prog f (i64 x :: caps) (.bo (p x))) : ACalls Try.prog 92 [ints l,.fn f caps] (.bo (l.any p)):=by
 refine acalls_st (rs:=[.bo (l.any p)]) [.tmp 4] Try.func92 rfl (by kernel_rfl) Try.ntmps92 rfl (by simp) rfl fun C vs=>?_
 repeat refine zq ?_
 refine zb fun K hK=>?_;simp only [go_sem];(try simp (disch:=omega) only [zI]);repeat first | intro _ | refine ⟨by omega,?_⟩
 refine hK _ ?_;clear hK K
 repeat refine zq ?_
 refine zb fun K hK=>?_;simp only [go_sem];(try simp (disch:=omega) only [zI])
 refine zh (index_ok p f caps l h) rfl (by simp only [go_sem,i64,ints]) (by simp only [go_sem,i64,ints]) (by first | exact .inl rfl | exact .inr rfl) ?_
 (try simp only [go_sem]);(try simp (disch:=omega) only [zI]);repeat first | intro _ | refine ⟨by omega,?_⟩
 refine hK _ ?_;clear hK K;refine ze ?_;simp only [go_sem];rw [← indexF_any]
def withinL (a b : Int) (l : List Int) : Bool:=l.all fun n=>decide (a ≤ n) && decide (n ≤ b)
theorem withinL_not (a b : Int) (l : List Int) : (!(l.any fun n=>decide (n < a) || decide (b < n))) = withinL a b l:=by
 unfold withinL
 rw [List.not_any_eq_all_not]
 congr 1
 funext n
 by_cases h1 : n < a <;> by_cases h2 : b < n <;> simp [h1,h2] <;> omega
theorem within_ok (a b : Int) (l : List Int) : ACalls Try.prog 196 [i64 a,i64 b,ints l] (.bo (withinL a b l)):=by
 refine acalls_st (rs:=[.bo (withinL a b l)]) [.tmp 6] Try.func196 rfl (by kernel_rfl) Try.ntmps196 rfl (by simp) rfl fun C vs=>?_
 repeat refine zq ?_
 refine zb fun K hK=>?_;simp only [go_sem];(try simp (disch:=omega) only [zI]);repeat first | intro _ | refine ⟨by omega,?_⟩
 refine hK _ ?_;clear hK K
 repeat refine zq ?_
 refine zb fun K hK=>?_;simp only [go_sem];(try simp (disch:=omega) only [zI])
 refine zh (contains_ok (fun n=>decide (n < a) || decide (b < n)) 228 [.rp [i64 a],.rp [i64 b]] l fun x _=>within1_ok x a b) rfl (by simp only [go_sem,i64,ints]) (by simp only [go_sem,i64,ints]) (by first | exact .inl rfl | exact .inr rfl) ?_
 (try simp only [go_sem]);(try simp (disch:=omega) only [zI]);repeat first | intro _ | refine ⟨by omega,?_⟩
 refine hK _ ?_;clear hK K;refine ze ?_;simp only [go_sem];rw [← withinL_not]
theorem indexM_ok (p : Mt → Bool) (f : Nat) (caps : List RV) (l : List Mt) (h : ∀ x ∈ l,ACalls Try.prog f (.ag (mtR x) :: caps) (.bo (p x))) : ACalls Try.prog 140 [mtsR l,.fn f caps] (i64 (indexF p l)):=by
 refine acalls_st (rs:=[i64 (indexF p l)]) [.tmp 4] Try.func140 rfl (by kernel_rfl) Try.ntmps140 rfl (by simp) rfl fun C vs=>?_
 repeat refine zq ?_
 refine zb fun K hK=>?_;simp only [go_sem];(try simp (disch:=omega) only [zI]);repeat first | intro _ | refine ⟨by omega,?_⟩
 refine hK _ ?_;clear hK K
 repeat refine zq ?_
 refine zb fun K hK=>?_;simp only [go_sem];(try simp (disch:=omega) only [zI])
 intro hl
 repeat first | intro _ | refine ⟨by omega,?_⟩
 refine hK _ ?_;clear hK K
 repeat refine zq ?_
 refine zd ?_
 refine awp_upto (n:=19) l.length (fun i vs=>[(0,.r (mtsR l)),(1,.r (.fn f caps)),(7,.r (i64 l.length)),(8,.r (i64 i))]) (fun _=>[])
  (fun i=>indexF p l = if indexF p (l.drop i) < 0 then -1 else i + indexF p (l.drop i)) 0 (fit_of [] ?_ rfl) (Nat.zero_le _) ?_ ?_
 · try simp only [go_sem]
 · simp only [List.drop_zero]
   have:=indexF_ge p l
   split
   · omega
   · simp
 · intro i vs hi hI
   repeat refine zq ?_
   refine zb fun K hK=>?_;simp only [go_sem];(try simp (disch:=omega) only [zI]);repeat first | intro _ | refine ⟨by omega,?_⟩
   refine hK _ ?_;clear hK K
   repeat refine zq ?_
   refine zc rfl (fun hc=>?_) (fun hc=>?_) <;> (try simp only [go_sem] at hc)
   · obtain ⟨x,hx⟩:=opt_of_lt hc
     rw [drop_of_opt hx] at hI
     refine zx ?_
     repeat refine zq ?_
     refine zd ?_
     repeat refine zq ?_
     refine zb fun K hK=>?_;simp only [go_sem];(try simp (disch:=omega) only [zI]);repeat first | intro _ | refine ⟨by omega,?_⟩
     refine hK _ ?_;clear hK K
     repeat refine zq ?_
     refine zb fun K hK=>?_;simp only [go_sem,hx,hc];(try simp (disch:=omega) only [zI])
     refine zh (h x (mem_of_opt hx)) rfl (by simp only [go_sem,i64,ints]) (by simp only [go_sem,i64,ints]) (by first | exact .inl rfl | exact .inr rfl) ?_
     (try simp only [go_sem]);(try simp (disch:=omega) only [zI]);repeat first | intro _ | refine ⟨by omega,?_⟩
     refine hK _ ?_;clear hK K
     repeat refine zq ?_
     refine zc rfl (fun hc=>?_) (fun hc=>?_) <;> (try simp only [go_sem] at hc)
     · repeat refine zq ?_
       refine zb fun K hK=>?_;simp only [go_sem];(try simp (disch:=omega) only [zI]);repeat first | intro _ | refine ⟨by omega,?_⟩
       refine hK _ ?_;clear hK K;refine ze ?_;simp only [go_sem]
       simp [hI,indexF,hc]
     · refine zx ?_
       try simp only [go_sem]
       repeat refine zq ?_
       refine zb fun K hK=>?_;simp only [go_sem];(try simp (disch:=omega) only [zI]);repeat first | intro _ | refine ⟨by omega,?_⟩
       refine hK _ ?_;clear hK K
       try simp only [go_sem]
       refine ⟨‹_›,?_,fit_of [] ?_ rfl⟩
       · rw [hI]
         simp only [indexF,hc,Bool.false_eq_true,if_false]
         have:=indexF_ge p (l.drop (i + 1))
         (repeat' split) <;> omega
       · try simp only [go_sem]
   · refine zf ?_;simp only [go_sem]
     repeat refine zq ?_
     refine zb fun K hK=>?_;simp only [go_sem];(try simp (disch:=omega) only [zI]);repeat first | intro _ | refine ⟨by omega,?_⟩
     refine hK _ ?_;clear hK K;refine ze ?_;simp only [go_sem]
     have : l.drop i = []:=List.drop_eq_nil_of_le (by omega)
     simp [hI,this,indexF]
def numOk (r : Tr) : Bool:=withinL 2 10 [r.teams] && withinL 1 25 [r.legs] && withinL 0 9 [r.win] && withinL 0 r.win [r.draw]
def dedOk (r : Tr) : Bool:=decide ((r.ded.length : Int) = 0) || (decide ((r.ded.length : Int) = r.teams) && withinL 0 99 r.ded)
def rulesOk (r : Tr) : Bool:=numOk r && dedOk r && withinL 0 r.teams [r.up] && withinL 0 (r.teams - r.up) [r.down]
theorem withinL_one {a b n : Int} : withinL a b [n] = true ↔ a ≤ n ∧ n ≤ b:=by simp [withinL]
theorem withinL_two {a b n m : Int} : withinL a b [n,m] = true ↔ (a ≤ n ∧ n ≤ b) ∧ a ≤ m ∧ m ≤ b:=by simp [withinL]
structure RulesI (r : Tr) : Prop where
 teams : 2 ≤ r.teams ∧ r.teams ≤ 10
 legs : 1 ≤ r.legs ∧ r.legs ≤ 25
 win : 0 ≤ r.win ∧ r.win ≤ 9
 draw : 0 ≤ r.draw ∧ r.draw ≤ r.win
 ded : r.ded = [] ∨ ((r.ded.length : Int) = r.teams ∧ ∀ x ∈ r.ded,0 ≤ x ∧ x ≤ 99)
 up : 0 ≤ r.up ∧ r.up ≤ r.teams
 down : 0 ≤ r.down ∧ r.down ≤ r.teams - r.up
theorem rulesOk_iff {r : Tr} : rulesOk r = true ↔ RulesI r:=by
 unfold rulesOk numOk dedOk
 simp only [Bool.and_eq_true,Bool.or_eq_true,withinL_one,decide_eq_true_eq]
 constructor
 · rintro ⟨⟨⟨⟨⟨⟨h1,h2⟩,h3⟩,h4⟩,h5⟩,h6⟩,h7⟩
   refine ⟨h1,h2,h3,h4,?_,h6,h7⟩
   rcases h5 with h | ⟨h,h'⟩
   · exact .inl (List.length_eq_zero_iff.1 (by omega))
   · refine .inr ⟨h,fun x hx=>?_⟩
     have:=List.all_eq_true.1 h' x hx
     simpa using this
 · rintro ⟨h1,h2,h3,h4,h5,h6,h7⟩
   refine ⟨⟨⟨⟨⟨⟨h1,h2⟩,h3⟩,h4⟩,?_⟩,h6⟩,h7⟩
   rcases h5 with h | ⟨h,h'⟩
   · left; rw [h]; rfl
   · refine .inr ⟨h,List.all_eq_true.2 fun x hx=>?_⟩
     simpa using h' x hx
theorem areRules_ok (r : Tr) (hw : WfR r) : ACalls Try.prog 139 [trV r] (.bo (rulesOk r)):=by
 have hdl : (r.ded.length : Int) = 0 ∨ 0 < (r.ded.length : Int):=by omega
 refine acalls_st (rs:=[.bo (rulesOk r)]) [.tmp 2] Try.func139 rfl (by kernel_rfl) Try.ntmps139 rfl (by simp) rfl fun C vs=>?_
 repeat refine zq ?_
 refine zb fun K hK=>?_;simp only [go_sem];(try simp (disch:=omega) only [zI]);repeat first | intro _ | refine ⟨by omega,?_⟩
 refine hK _ ?_;clear hK K;refine zw (sub_frzP 1 1 (trC r) (by omega) rfl rfl) ?_;refine zw (zk [1]) ?_;simp only [go_sem]
 repeat refine zq ?_
 refine awp_join (n:=69) (fun (_ : Unit) vs=>[(1,.r (.rp (trC r))),(3,.r (.bo (numOk r)))]) (fun _=>[]) (fun _=>True) (fun _ h=>h) ?_ ?_
 · cases a1 : withinL 2 10 [r.teams]
   · repeat refine zq ?_
     refine zb fun K hK=>?_;simp only [go_sem];(try simp (disch:=omega) only [zI])
     refine zh (within_ok 2 10 [r.teams]) rfl (by simp only [go_sem,i64,ints,a1]) (by simp only [go_sem,i64,ints,a1]) (by first | exact .inl rfl | exact .inr rfl) ?_
     (try simp only [go_sem,a1]);(try simp (disch:=omega) only [zI]);repeat first | intro _ | refine ⟨by omega,?_⟩
     refine hK _ ?_;clear hK K
     refine ⟨(),trivial,fit_of [] ?_ ?_⟩
     · try simp only [go_sem]
       simp [numOk,a1]
     · try simp only [go_sem]
   cases a2 : withinL 1 25 [r.legs]
   · repeat refine zq ?_
     refine zb fun K hK=>?_;simp only [go_sem];(try simp (disch:=omega) only [zI])
     refine zh (within_ok 2 10 [r.teams]) rfl (by simp only [go_sem,i64,ints,a1]) (by simp only [go_sem,i64,ints,a1]) (by first | exact .inl rfl | exact .inr rfl) ?_
     (try simp only [go_sem,a1]);(try simp (disch:=omega) only [zI])
     refine zh (within_ok 1 25 [r.legs]) rfl (by simp only [go_sem,i64,ints,a2]) (by simp only [go_sem,i64,ints,a2]) (by first | exact .inl rfl | exact .inr rfl) ?_
     (try simp only [go_sem,a2]);(try simp (disch:=omega) only [zI]);repeat first | intro _ | refine ⟨by omega,?_⟩
     refine hK _ ?_;clear hK K
     refine ⟨(),trivial,fit_of [] ?_ ?_⟩
     · try simp only [go_sem]
       simp [numOk,a1,a2]
     · try simp only [go_sem]
   cases a3 : withinL 0 9 [r.win]
   · repeat refine zq ?_
     refine zb fun K hK=>?_;simp only [go_sem];(try simp (disch:=omega) only [zI])
     refine zh (within_ok 2 10 [r.teams]) rfl (by simp only [go_sem,i64,ints,a1]) (by simp only [go_sem,i64,ints,a1]) (by first | exact .inl rfl | exact .inr rfl) ?_
     (try simp only [go_sem,a1]);(try simp (disch:=omega) only [zI])
     refine zh (within_ok 1 25 [r.legs]) rfl (by simp only [go_sem,i64,ints,a2]) (by simp only [go_sem,i64,ints,a2]) (by first | exact .inl rfl | exact .inr rfl) ?_
     (try simp only [go_sem,a2]);(try simp (disch:=omega) only [zI])
     refine zh (within_ok 0 9 [r.win]) rfl (by simp only [go_sem,i64,ints,a3]) (by simp only [go_sem,i64,ints,a3]) (by first | exact .inl rfl | exact .inr rfl) ?_
     (try simp only [go_sem,a3]);(try simp (disch:=omega) only [zI]);repeat first | intro _ | refine ⟨by omega,?_⟩
     refine hK _ ?_;clear hK K
     refine ⟨(),trivial,fit_of [] ?_ ?_⟩
     · try simp only [go_sem]
       simp [numOk,a1,a2,a3]
     · try simp only [go_sem]
   repeat refine zq ?_
   refine zb fun K hK=>?_;simp only [go_sem];(try simp (disch:=omega) only [zI])
   refine zh (within_ok 2 10 [r.teams]) rfl (by simp only [go_sem,i64,ints,a1]) (by simp only [go_sem,i64,ints,a1]) (by first | exact .inl rfl | exact .inr rfl) ?_
   (try simp only [go_sem,a1]);(try simp (disch:=omega) only [zI])
   refine zh (within_ok 1 25 [r.legs]) rfl (by simp only [go_sem,i64,ints,a2]) (by simp only [go_sem,i64,ints,a2]) (by first | exact .inl rfl | exact .inr rfl) ?_
   (try simp only [go_sem,a2]);(try simp (disch:=omega) only [zI])
   refine zh (within_ok 0 9 [r.win]) rfl (by simp only [go_sem,i64,ints,a3]) (by simp only [go_sem,i64,ints,a3]) (by first | exact .inl rfl | exact .inr rfl) ?_
   (try simp only [go_sem,a3]);(try simp (disch:=omega) only [zI])
   refine zh (within_ok 0 r.win [r.draw]) rfl (by simp only [go_sem,i64,ints]) (by simp only [go_sem,i64,ints]) (by first | exact .inl rfl | exact .inr rfl) ?_
   (try simp only [go_sem]);(try simp (disch:=omega) only [zI]);repeat first | intro _ | refine ⟨by omega,?_⟩
   refine hK _ ?_;clear hK K
   refine ⟨(),trivial,fit_of [] ?_ ?_⟩
   · try simp only [go_sem]
     simp [numOk,a1,a2,a3]
   · try simp only [go_sem]
 intro _ vs _
 repeat refine zq ?_
 refine awp_join (n:=69) (fun (_ : Unit) vs=>[(1,.r (.rp (trC r))),(3,.r (.bo (numOk r))),(4,.r (.bo (dedOk r)))]) (fun _=>[]) (fun _=>True) (fun _ h=>h) ?_ ?_
 · cases a1 : ((r.ded.length : Int) == 0)
   · cases a2 : ((r.ded.length : Int) == r.teams)
     · repeat refine zq ?_
       refine zb fun K hK=>?_;simp only [go_sem,a1,a2];(try simp (disch:=omega) only [zI]);repeat first | intro _ | refine ⟨by omega,?_⟩
       refine hK _ ?_;clear hK K
       refine ⟨(),trivial,fit_of [] ?_ ?_⟩
       · try simp only [go_sem]
         have b1 : ¬ (r.ded.length : Int) = 0:=by simpa using a1
         have b2 : ¬ (r.ded.length : Int) = r.teams:=by simpa using a2
         simp only [dedOk,decide_eq_false b1,decide_eq_false b2]; rfl
       · try simp only [go_sem]
     · repeat refine zq ?_
       refine zb fun K hK=>?_;simp only [go_sem,a1,a2];(try simp (disch:=omega) only [zI]);repeat first | intro _ | refine ⟨by omega,?_⟩
       refine zh (within_ok 0 99 r.ded) rfl (by simp only [go_sem,i64,ints]) (by simp only [go_sem,i64,ints]) (by first | exact .inl rfl | exact .inr rfl) ?_
       (try simp only [go_sem]);(try simp (disch:=omega) only [zI]);repeat first | intro _ | refine ⟨by omega,?_⟩
       refine hK _ ?_;clear hK K
       refine ⟨(),trivial,fit_of [] ?_ ?_⟩
       · try simp only [go_sem]
         have b1 : ¬ (r.ded.length : Int) = 0:=by simpa using a1
         have b2 : (r.ded.length : Int) = r.teams:=by simpa using a2
         simp only [dedOk,decide_eq_false b1,decide_eq_true b2]; rfl
       · try simp only [go_sem]
   · repeat refine zq ?_
     refine zb fun K hK=>?_;simp only [go_sem,a1];(try simp (disch:=omega) only [zI]);repeat first | intro _ | refine ⟨by omega,?_⟩
     refine hK _ ?_;clear hK K
     refine ⟨(),trivial,fit_of [] ?_ ?_⟩
     · try simp only [go_sem]
       have b1 : (r.ded.length : Int) = 0:=by simpa using a1
       simp only [dedOk,decide_eq_true b1]; rfl
     · try simp only [go_sem]
 intro _ vs _
 have e : rulesOk r = (numOk r && dedOk r && withinL 0 r.teams [r.up] && withinL 0 (r.teams - r.up) [r.down]):=rfl
 rw [e]
 cases a1 : numOk r
 · repeat refine zq ?_
   refine zb fun K hK=>?_;simp only [go_sem];(try simp (disch:=omega) only [zI]);repeat first | intro _ | refine ⟨by omega,?_⟩
   refine hK _ ?_;clear hK K;refine zw (zk [2]) ?_;simp only [go_sem];refine ze ?_;simp only [go_sem]
   try simp
 cases a2 : dedOk r
 · repeat refine zq ?_
   refine zb fun K hK=>?_;simp only [go_sem];(try simp (disch:=omega) only [zI]);repeat first | intro _ | refine ⟨by omega,?_⟩
   refine hK _ ?_;clear hK K;refine zw (zk [2]) ?_;simp only [go_sem];refine ze ?_;simp only [go_sem]
   try simp
 cases a3 : withinL 0 r.teams [r.up]
 · repeat refine zq ?_
   refine zb fun K hK=>?_;simp only [go_sem];(try simp (disch:=omega) only [zI])
   refine zh (within_ok 0 r.teams [r.up]) rfl (by simp only [go_sem,i64,ints,a3]) (by simp only [go_sem,i64,ints,a3]) (by first | exact .inl rfl | exact .inr rfl) ?_
   (try simp only [go_sem,a3]);(try simp (disch:=omega) only [zI]);repeat first | intro _ | refine ⟨by omega,?_⟩
   refine hK _ ?_;clear hK K;refine zw (zk [2]) ?_;simp only [go_sem];refine ze ?_;simp only [go_sem]
   try simp
 have b3:=withinL_one.1 a3
 have b1 : withinL 2 10 [r.teams] = true:=by
  unfold numOk at a1
  simp only [Bool.and_eq_true] at a1
  exact a1.1.1.1
 have b1':=withinL_one.1 b1
 repeat refine zq ?_
 refine zb fun K hK=>?_;simp only [go_sem];(try simp (disch:=omega) only [zI])
 refine zh (within_ok 0 r.teams [r.up]) rfl (by simp only [go_sem,i64,ints,a3]) (by simp only [go_sem,i64,ints,a3]) (by first | exact .inl rfl | exact .inr rfl) ?_
 (try simp only [go_sem,a3]);(try simp (disch:=omega) only [zI])
 refine zh (within_ok 0 (r.teams - r.up) [r.down]) rfl (by simp only [go_sem,i64,ints]) (by simp only [go_sem,i64,ints]) (by first | exact .inl rfl | exact .inr rfl) ?_
 (try simp only [go_sem]);(try simp (disch:=omega) only [zI]);repeat first | intro _ | refine ⟨by omega,?_⟩
 refine hK _ ?_;clear hK K;refine zw (zk [2]) ?_;simp only [go_sem];refine ze ?_;simp only [go_sem]
 try simp
def legsOf (r : Tr) (m : Mt) : Int:=if m.p then r.legs else 0
def matchOk (r : Tr) (m : Mt) : Bool:=withinL 0 (r.teams - 1) [m.h,m.a] && (m.h != m.a) && withinL 0 (legsOf r m) [m.f,m.g] && (m.f + m.g == legsOf r m)
structure MatchI (r : Tr) (m : Mt) : Prop where
 h : 0 ≤ m.h ∧ m.h < r.teams
 a : 0 ≤ m.a ∧ m.a < r.teams
 ne : m.h ≠ m.a
 f : 0 ≤ m.f ∧ m.f ≤ legsOf r m
 g : m.g = legsOf r m - m.f
theorem matchOk_iff {r : Tr} {m : Mt} : matchOk r m = true ↔ MatchI r m:=by
 unfold matchOk
 simp only [Bool.and_eq_true,withinL_two,bne_iff_ne,beq_iff_eq,ne_eq]
 constructor
 · rintro ⟨⟨⟨⟨⟨h1,h2⟩,h3,h4⟩,h5⟩,⟨h6,h7⟩,h8,h9⟩,h10⟩
   exact ⟨⟨h1,by omega⟩,⟨h3,by omega⟩,h5,⟨h6,h7⟩,by omega⟩
 · rintro ⟨h1,h2,h3,h4,h5⟩
   refine ⟨⟨⟨⟨⟨h1.1,by omega⟩,h2.1,by omega⟩,h3⟩,⟨h4.1,h4.2⟩,by omega,by omega⟩,by omega⟩
theorem isMatch_ok (r : Tr) (hr : RulesI r) (m : Mt) (hm : WfM m) : ACalls Try.prog 142 [trV r,.ag (mtR m)] (.bo (matchOk r m)):=by
 have hrt:=hr.teams
 have hrl:=hr.legs
 have hw1 : IntKind.i64.wrap (r.teams - 1) = r.teams - 1:=by rw [zI] <;> omega
 refine acalls_st (rs:=[.bo (matchOk r m)]) [.tmp 4] Try.func142 rfl (by kernel_rfl) Try.ntmps142 rfl (by simp) rfl fun C vs=>?_
 repeat refine zq ?_
 refine zb fun K hK=>?_;simp only [go_sem];(try simp (disch:=omega) only [zI]);repeat first | intro _ | refine ⟨by omega,?_⟩
 refine hK _ ?_;clear hK K;refine zw (sub_frzP 2 2 (trC r) (by omega) rfl rfl) ?_;refine zw (sub_frzP 3 3 (mtR m) (by omega) rfl rfl) ?_;refine zw (zk [2,3]) ?_;simp only [go_sem]
 repeat refine zq ?_
 refine zb fun K hK=>?_;simp only [go_sem];(try simp (disch:=omega) only [zI]);repeat first | intro _ | refine ⟨by omega,?_⟩
 refine hK _ ?_;clear hK K;refine zw (zk [2,3,5]) ?_;simp only [go_sem]
 repeat refine zq ?_
 refine zb fun K hK=>?_;simp only [go_sem];(try simp (disch:=omega) only [zI]);repeat first | intro _ | refine ⟨by omega,?_⟩
 refine hK _ ?_;clear hK K;refine zw (zk [2,3,5,7]) ?_;simp only [go_sem]
 repeat refine zq ?_
 refine awp_join (n:=44) (fun (_ : Unit) vs=>[(2,.r (.rp (trC r))),(3,.r (.rp (mtR m))),(5,.r (i64 (legsOf r m)))]) (fun _=>[]) (fun _=>True) (fun _ h=>h) ?_ ?_
 · repeat refine zq ?_
   refine zc rfl (fun hc=>?_) (fun hc=>?_) <;> (try simp only [go_sem] at hc)
   · repeat refine zq ?_
     refine zb fun K hK=>?_;simp only [go_sem];(try simp (disch:=omega) only [zI]);repeat first | intro _ | refine ⟨by omega,?_⟩
     refine hK _ ?_;clear hK K
     refine ⟨(),trivial,fit_of [] ?_ ?_⟩
     · try simp only [go_sem]
       simp [legsOf,hc]
     · try simp only [go_sem]
   · refine zx ?_
     try simp only [go_sem]
     refine ⟨(),fit_of [] ?_ ?_⟩
     · try simp only [go_sem]
       simp [legsOf,hc]
     · try simp only [go_sem]
 intro _ vs _
 have hlg : 0 ≤ legsOf r m ∧ legsOf r m ≤ 25:=by unfold legsOf; split <;> omega
 have e : matchOk r m = (withinL 0 (r.teams - 1) [m.h,m.a] && (m.h != m.a) && withinL 0 (legsOf r m) [m.f,m.g] && (m.f + m.g == legsOf r m)):=rfl
 rw [e]
 generalize legsOf r m = lg at *
 cases a1 : withinL 0 (r.teams - 1) [m.h,m.a]
 · repeat refine zq ?_
   refine zb fun K hK=>?_;simp only [go_sem,hw1];(try simp (disch:=omega) only [zI])
   refine zh (within_ok 0 (r.teams - 1) [m.h,m.a]) rfl (by simp only [go_sem,i64,ints,a1]) (by simp only [go_sem,i64,ints,a1]) (by first | exact .inl rfl | exact .inr rfl) ?_
   (try simp only [go_sem,a1]);(try simp (disch:=omega) only [zI]);repeat first | intro _ | refine ⟨by omega,?_⟩
   refine hK _ ?_;clear hK K;refine zw (zk [4]) ?_;simp only [go_sem];refine ze ?_;simp only [go_sem]
   try simp
 cases a2 : m.h != m.a
 · repeat refine zq ?_
   refine zb fun K hK=>?_;simp only [go_sem,hw1,a2];(try simp (disch:=omega) only [zI])
   refine zh (within_ok 0 (r.teams - 1) [m.h,m.a]) rfl (by simp only [go_sem,i64,ints,a1,a2]) (by simp only [go_sem,i64,ints,a1,a2]) (by first | exact .inl rfl | exact .inr rfl) ?_
   (try simp only [go_sem,a1,a2]);(try simp (disch:=omega) only [zI]);repeat first | intro _ | refine ⟨by omega,?_⟩
   refine hK _ ?_;clear hK K;refine zw (zk [4]) ?_;simp only [go_sem];refine ze ?_;simp only [go_sem]
   try simp
 cases a3 : withinL 0 lg [m.f,m.g]
 · repeat refine zq ?_
   refine zb fun K hK=>?_;simp only [go_sem,hw1,a2];(try simp (disch:=omega) only [zI])
   refine zh (within_ok 0 (r.teams - 1) [m.h,m.a]) rfl (by simp only [go_sem,i64,ints,a1,a2]) (by simp only [go_sem,i64,ints,a1,a2]) (by first | exact .inl rfl | exact .inr rfl) ?_
   (try simp only [go_sem,a1,a2]);(try simp (disch:=omega) only [zI])
   refine zh (within_ok 0 lg [m.f,m.g]) rfl (by simp only [go_sem,i64,ints,a3]) (by simp only [go_sem,i64,ints,a3]) (by first | exact .inl rfl | exact .inr rfl) ?_
   (try simp only [go_sem,a3]);(try simp (disch:=omega) only [zI]);repeat first | intro _ | refine ⟨by omega,?_⟩
   refine hK _ ?_;clear hK K;refine zw (zk [4]) ?_;simp only [go_sem];refine ze ?_;simp only [go_sem]
   try simp
 have b3:=withinL_two.1 a3
 have hw2 : IntKind.i64.wrap (m.f + m.g) = m.f + m.g:=by rw [zI] <;> omega
 repeat refine zq ?_
 refine zb fun K hK=>?_;simp only [go_sem,hw1,hw2,a2];(try simp (disch:=omega) only [zI])
 refine zh (within_ok 0 (r.teams - 1) [m.h,m.a]) rfl (by simp only [go_sem,i64,ints,a1,a2]) (by simp only [go_sem,i64,ints,a1,a2]) (by first | exact .inl rfl | exact .inr rfl) ?_
 (try simp only [go_sem,a1,a2]);(try simp (disch:=omega) only [zI])
 refine zh (within_ok 0 lg [m.f,m.g]) rfl (by simp only [go_sem,i64,ints,a3,hw2]) (by simp only [go_sem,i64,ints,a3,hw2]) (by first | exact .inl rfl | exact .inr rfl) ?_
 (try simp only [go_sem,a3,hw2]);(try simp (disch:=omega) only [zI]);repeat first | intro _ | refine ⟨by omega,?_⟩
 refine hK _ ?_;clear hK K;refine zw (zk [4]) ?_;simp only [go_sem];refine ze ?_;simp only [go_sem]
 try simp
theorem check1_ok (r : Tr) (hr : RulesI r) (m : Mt) (hm : WfM m) : ACalls Try.prog 141 [.ag (mtR m),.rp (trC r)] (.bo (!matchOk r m)):=by
 refine acalls_st (rs:=[.bo (!matchOk r m)]) [.tmp 3] Try.func141 rfl (by kernel_rfl) Try.ntmps141 rfl (by simp) rfl fun C vs=>?_
 repeat refine zq ?_
 refine zb fun K hK=>?_;simp only [go_sem];(try simp (disch:=omega) only [zI]);repeat first | intro _ | refine ⟨by omega,?_⟩
 refine hK _ ?_;clear hK K;refine zw (sub_frzP 2 2 (mtR m) (by omega) rfl rfl) ?_;refine zw (zk [1,2]) ?_;simp only [go_sem]
 repeat refine zq ?_
 refine zb fun K hK=>?_;simp only [go_sem];(try simp (disch:=omega) only [zI])
 refine zh (isMatch_ok r hr m hm) rfl (by simp only [go_sem,i64,ints]) (by simp only [go_sem,i64,ints]) (by first | exact .inl rfl | exact .inr rfl) ?_
 (try simp only [go_sem]);(try simp (disch:=omega) only [zI]);repeat first | intro _ | refine ⟨by omega,?_⟩
 refine hK _ ?_;clear hK K;refine zw (zk [3]) ?_;simp only [go_sem];refine ze ?_;simp only [go_sem]
def badM (r : Tr) (l : List Mt) : Int:=indexF (fun m=>!matchOk r m) l
def checkV (r : Tr) (l : List Mt) : Int × Int :=
 if 180 < l.length ∨ 10 < r.ded.length then (0,5) else if rulesOk r = false then (0,2) else if 0 ≤ badM r l then (badM r l,2) else (0,0)
structure Wf (r : Tr) (l : List Mt) : Prop where
 r : WfR r
 l : ∀ m ∈ l,WfM m
theorem check_ok (r : Tr) (l : List Mt) (hw : Wf r l) : ACalls Try.prog 79 [trV r,mtsR l] (.tu [i64 (checkV r l).1,i64 (checkV r l).2]):=by
 have hru:=areRules_ok r hw.r
 refine acalls_st (rs:=[i64 (checkV r l).1,i64 (checkV r l).2]) [.tmp 4,.tmp 5] Try.func79 rfl (by kernel_rfl) Try.ntmps79 rfl (by simp) rfl fun C vs=>?_
 repeat refine zq ?_
 refine zb fun K hK=>?_;simp only [go_sem];(try simp (disch:=omega) only [zI]);repeat first | intro _ | refine ⟨by omega,?_⟩
 refine hK _ ?_;clear hK K;refine zw (sub_frzP 2 2 (trC r) (by omega) rfl rfl) ?_;refine zw (zk [1,2]) ?_;simp only [go_sem]
 by_cases h1 : 180 < l.length
 · have d1 : decide ((180 : Int) < (l.length : Int)) = true:=by simp; omega
   have d1' : decide (180 < l.length) = true:=by simp; omega
   repeat refine zq ?_
   refine zb fun K hK=>?_;simp only [go_sem,d1,d1'];(try simp (disch:=omega) only [zI]);repeat first | intro _ | refine ⟨by omega,?_⟩
   refine hK _ ?_;clear hK K;refine zw (zk [1,2,14]) ?_;simp only [go_sem]
   repeat refine zq ?_
   refine zc rfl (fun hc=>?_) (fun hc=>?_) <;> (try simp only [go_sem] at hc)
   repeat refine zq ?_
   refine zb fun K hK=>?_;simp only [go_sem];(try simp (disch:=omega) only [zI]);repeat first | intro _ | refine ⟨by omega,?_⟩
   refine hK _ ?_;clear hK K;refine ze ?_;simp only [go_sem]
   simp [checkV,h1]
 have d1 : decide ((180 : Int) < (l.length : Int)) = false:=by simp; omega
 have d1' : decide (180 < l.length) = false:=by simp; omega
 by_cases h2 : 10 < r.ded.length
 · have d2 : decide ((10 : Int) < (r.ded.length : Int)) = true:=by simp; omega
   have d2' : decide (10 < r.ded.length) = true:=by simp; omega
   repeat refine zq ?_
   refine zb fun K hK=>?_;simp only [go_sem,d1,d1',d2,d2'];(try simp (disch:=omega) only [zI]);repeat first | intro _ | refine ⟨by omega,?_⟩
   refine hK _ ?_;clear hK K;refine zw (zk [1,2,14]) ?_;simp only [go_sem]
   repeat refine zq ?_
   refine zc rfl (fun hc=>?_) (fun hc=>?_) <;> (try simp only [go_sem] at hc)
   repeat refine zq ?_
   refine zb fun K hK=>?_;simp only [go_sem];(try simp (disch:=omega) only [zI]);repeat first | intro _ | refine ⟨by omega,?_⟩
   refine hK _ ?_;clear hK K;refine ze ?_;simp only [go_sem]
   simp [checkV,h2]
 have d2 : decide ((10 : Int) < (r.ded.length : Int)) = false:=by simp; omega
 have d2' : decide (10 < r.ded.length) = false:=by simp; omega
 repeat refine zq ?_
 refine zb fun K hK=>?_;simp only [go_sem,d1,d1',d2,d2'];(try simp (disch:=omega) only [zI]);repeat first | intro _ | refine ⟨by omega,?_⟩
 refine hK _ ?_;clear hK K;refine zw (zk [1,2,14]) ?_;simp only [go_sem]
 repeat refine zq ?_
 refine zc rfl (fun hc=>?_) (fun hc=>?_) <;> (try simp only [go_sem] at hc)
 refine zx ?_
 try simp only [go_sem]
 cases h3 : rulesOk r
 · repeat refine zq ?_
   refine zb fun K hK=>?_;simp only [go_sem];(try simp (disch:=omega) only [zI])
   refine zh (hru) rfl (by simp only [go_sem,i64,ints,h3]) (by simp only [go_sem,i64,ints,h3]) (by first | exact .inl rfl | exact .inr rfl) ?_
   (try simp only [go_sem,h3]);(try simp (disch:=omega) only [zI]);repeat first | intro _ | refine ⟨by omega,?_⟩
   refine hK _ ?_;clear hK K;refine zw (zk [1,2,17]) ?_;simp only [go_sem]
   repeat refine zq ?_
   refine zc rfl (fun hc=>?_) (fun hc=>?_) <;> (try simp only [go_sem] at hc)
   repeat refine zq ?_
   refine zb fun K hK=>?_;simp only [go_sem];(try simp (disch:=omega) only [zI]);repeat first | intro _ | refine ⟨by omega,?_⟩
   refine hK _ ?_;clear hK K;refine ze ?_;simp only [go_sem]
   simp [checkV,h1,h2,h3]
 repeat refine zq ?_
 refine zb fun K hK=>?_;simp only [go_sem];(try simp (disch:=omega) only [zI])
 refine zh (hru) rfl (by simp only [go_sem,i64,ints,h3]) (by simp only [go_sem,i64,ints,h3]) (by first | exact .inl rfl | exact .inr rfl) ?_
 (try simp only [go_sem,h3]);(try simp (disch:=omega) only [zI]);repeat first | intro _ | refine ⟨by omega,?_⟩
 refine hK _ ?_;clear hK K;refine zw (zk [1,2,17]) ?_;simp only [go_sem]
 repeat refine zq ?_
 refine zc rfl (fun hc=>?_) (fun hc=>?_) <;> (try simp only [go_sem] at hc)
 refine zx ?_
 try simp only [go_sem]
 have hr:=rulesOk_iff.1 h3
 repeat refine zq ?_
 refine zb fun K hK=>?_;simp only [go_sem];(try simp (disch:=omega) only [zI])
 refine zh (indexM_ok (fun m=>!matchOk r m) 141 [.rp (trC r)] l fun m hm=>check1_ok r hr m (hw.l m hm)) rfl (by simp only [go_sem,i64,ints]) (by simp only [go_sem,i64,ints]) (by first | exact .inl rfl | exact .inr rfl) ?_
 (try simp only [go_sem]);(try simp (disch:=omega) only [zI]);repeat first | intro _ | refine ⟨by omega,?_⟩
 refine hK _ ?_;clear hK K;refine zw (zk [4]) ?_;simp only [go_sem]
 have hb : indexF (fun m=>!matchOk r m) l = badM r l:=rfl
 rw [hb]
 repeat refine zq ?_
 refine zb fun K hK=>?_;simp only [go_sem];(try simp (disch:=omega) only [zI]);repeat first | intro _ | refine ⟨by omega,?_⟩
 refine hK _ ?_;clear hK K;refine zw (zk [4,22]) ?_;simp only [go_sem]
 repeat refine zq ?_
 refine zc rfl (fun hc=>?_) (fun hc=>?_) <;> (try simp only [go_sem] at hc)
 · repeat refine zq ?_
   refine zb fun K hK=>?_;simp only [go_sem];(try simp (disch:=omega) only [zI]);repeat first | intro _ | refine ⟨by omega,?_⟩
   refine hK _ ?_;clear hK K;refine ze ?_;simp only [go_sem]
   have h4 : 0 ≤ badM r l:=by first | exact hc | omega
   simp [checkV,h1,h2,h3,h4]
 · refine zx ?_
   try simp only [go_sem]
   repeat refine zq ?_
   refine zb fun K hK=>?_;simp only [go_sem];(try simp (disch:=omega) only [zI]);repeat first | intro _ | refine ⟨by omega,?_⟩
   refine hK _ ?_;clear hK K;refine ze ?_;simp only [go_sem]
   have h4 : ¬ 0 ≤ badM r l:=by first | exact hc | omega
   simp [checkV,h1,h2,h3,h4]
theorem checkV_zero {r : Tr} {l : List Mt} (h : (checkV r l).2 = 0) : l.length ≤ 180 ∧ RulesI r ∧ (∀ m ∈ l,MatchI r m) ∧ checkV r l = (0,0):=by
 unfold checkV at h ⊢
 split at h
 · cases h
 · rename_i h1
   split at h
   · cases h
   · rename_i h2
     split at h
     · cases h
     · rename_i h3
       rw [if_neg h1,if_neg h2,if_neg h3]
       refine ⟨by omega,rulesOk_iff.1 (by simpa using h2),fun m hm=>?_,rfl⟩
       have:=indexF_any (fun m=>!matchOk r m) l
       have h4 : decide (badM r l ≥ 0) = false:=by simp; omega
       unfold badM at h4
       rw [h4] at this
       have h5:=List.any_eq_false.1 this.symm m hm
       exact matchOk_iff.1 (by simpa using h5)
def resV (m : Mt) : Int:=if m.g < m.f then 0 else if m.f < m.g then 2 else 1
theorem of_ok (m : Mt) : ACalls Try.prog 144 [.ag (mtR m)] (i64 (resV m)):=by
 refine acalls_st (rs:=[i64 (resV m)]) [.tmp 2] Try.func144 rfl (by kernel_rfl) Try.ntmps144 rfl (by simp) rfl fun C vs=>?_
 repeat refine zq ?_
 refine zb fun K hK=>?_;simp only [go_sem];(try simp (disch:=omega) only [zI]);repeat first | intro _ | refine ⟨by omega,?_⟩
 refine hK _ ?_;clear hK K;refine zw (sub_frzP 1 1 (mtR m) (by omega) rfl rfl) ?_;refine zw (zk [1]) ?_;simp only [go_sem]
 repeat refine zq ?_
 refine zd ?_
 repeat refine zq ?_
 refine zb fun K hK=>?_;simp only [go_sem];(try simp (disch:=omega) only [zI]);repeat first | intro _ | refine ⟨by omega,?_⟩
 refine hK _ ?_;clear hK K;refine zw (zk [1,3]) ?_;simp only [go_sem]
 repeat refine zq ?_
 refine zc rfl (fun hc=>?_) (fun hc=>?_) <;> (try simp only [go_sem] at hc)
 · repeat refine zq ?_
   refine zb fun K hK=>?_;simp only [go_sem];(try simp (disch:=omega) only [zI]);repeat first | intro _ | refine ⟨by omega,?_⟩
   refine hK _ ?_;clear hK K;refine ze ?_;simp only [go_sem]
   simp [resV,hc]
 · have h1:=hc
   repeat refine zq ?_
   refine zb fun K hK=>?_;simp only [go_sem];(try simp (disch:=omega) only [zI]);repeat first | intro _ | refine ⟨by omega,?_⟩
   refine hK _ ?_;clear hK K;refine zw (zk [9]) ?_;simp only [go_sem]
   repeat refine zq ?_
   refine zc rfl (fun hc=>?_) (fun hc=>?_) <;> (try simp only [go_sem] at hc)
   · repeat refine zq ?_
     refine zb fun K hK=>?_;simp only [go_sem];(try simp (disch:=omega) only [zI]);repeat first | intro _ | refine ⟨by omega,?_⟩
     refine hK _ ?_;clear hK K;refine ze ?_;simp only [go_sem]
     simp [resV,hc,h1]
   · refine zx ?_
     try simp only [go_sem]
     repeat refine zq ?_
     refine zb fun K hK=>?_;simp only [go_sem];(try simp (disch:=omega) only [zI]);repeat first | intro _ | refine ⟨by omega,?_⟩
     refine hK _ ?_;clear hK K;refine ze ?_;simp only [go_sem]
     simp [resV,hc,h1]
def ptsV (r : Tr) (x : Int) : Int × Int:=if x = 0 then (r.win,0) else if x = 1 then (r.draw,r.draw) else (0,r.win)
theorem points_ok (r : Tr) (l : List Mt) (x : Int) (hx : x = 0 ∨ x = 1 ∨ x = 2) : ACalls Try.prog 143 [dvV r l,i64 x] (.tu [i64 (ptsV r x).1,i64 (ptsV r x).2]):=by
 refine acalls_st (rs:=[i64 (ptsV r x).1,i64 (ptsV r x).2]) [.tmp 4,.tmp 5] Try.func143 rfl (by kernel_rfl) Try.ntmps143 rfl (by simp) rfl fun C vs=>?_
 repeat refine zq ?_
 refine zb fun K hK=>?_;simp only [go_sem];(try simp (disch:=omega) only [zI]);repeat first | intro _ | refine ⟨by omega,?_⟩
 refine hK _ ?_;clear hK K;refine zw (sub_frzP 2 2 (dvC r l) (by omega) rfl rfl) ?_;refine zw (zk [1,2]) ?_;simp only [go_sem]
 rcases hx with rfl | rfl | rfl
 · repeat refine zq ?_
   refine zg follows (by decide +kernel) (by kernel_rfl) fun K hK=>?_;simp only [go_sem];(try simp (disch:=omega) only [zI]);repeat first | intro _ | refine ⟨by omega,?_⟩
   refine hK _ ?_;clear hK K;refine zw (zk [4,5]) ?_;simp only [go_sem];refine ze ?_;simp only [go_sem]
   simp [ptsV]
 · repeat refine zq ?_
   refine zg follows (by decide +kernel) (by kernel_rfl) fun K hK=>?_;simp only [go_sem];(try simp (disch:=omega) only [zI]);repeat first | intro _ | refine ⟨by omega,?_⟩
   refine hK _ ?_;clear hK K;refine zw (zk [4,5]) ?_;simp only [go_sem];refine ze ?_;simp only [go_sem]
   simp [ptsV]
 · repeat refine zq ?_
   refine zg follows (by decide +kernel) (by kernel_rfl) fun K hK=>?_;simp only [go_sem];(try simp (disch:=omega) only [zI]);repeat first | intro _ | refine ⟨by omega,?_⟩
   refine hK _ ?_;clear hK K;refine zw (zk [4,5]) ?_;simp only [go_sem];refine ze ?_;simp only [go_sem]
   simp [ptsV]
set_option maxHeartbeats 2000000
def vI (b : Nat → Bool) (j : Nat) (v : AV) : AV:=if b j then v else .r .un
def addW (x : Rw) (won lost pts : Int) : Rw:=⟨x.team,x.pl + 1,x.won + (if lost < won then 1 else 0),x.dr + (if won = lost then 1 else 0),x.lo + (if won < lost then 1 else 0),x.f + won,x.g + lost,x.pts + pts⟩
structure SmallW (B : Int) (x : Rw) : Prop where
 pl : 0 ≤ x.pl ∧ x.pl ≤ B
 won : 0 ≤ x.won ∧ x.won ≤ B
 dr : 0 ≤ x.dr ∧ x.dr ≤ B
 lo : 0 ≤ x.lo ∧ x.lo ≤ B
 f : 0 ≤ x.f ∧ x.f ≤ 30 * B
 g : 0 ≤ x.g ∧ x.g ≤ 30 * B
 pts : -99 ≤ x.pts ∧ x.pts ≤ 30 * B
theorem SmallW.le {B B' : Int} {x : Rw} (h : SmallW B x) (hb : B ≤ B') : SmallW B' x:=by
 obtain ⟨s1,s2,s3,s4,s5,s6,s7⟩:=h
 exact ⟨by omega,by omega,by omega,by omega,by omega,by omega,by omega⟩
theorem SmallW.add {B : Int} {x : Rw} (h : SmallW B x) {won lost pts : Int} (h1 : 0 ≤ won ∧ won ≤ 30) (h2 : 0 ≤ lost ∧ lost ≤ 30) (h3 : 0 ≤ pts ∧ pts ≤ 30) : SmallW (B + 1) (addW x won lost pts):=by
 obtain ⟨s1,s2,s3,s4,s5,s6,s7⟩:=h
 unfold addW
 refine ⟨?_,?_,?_,?_,?_,?_,?_⟩ <;> simp only <;> (try split) <;> omega
theorem add_ok (es : List (List RV)) (i : Nat) (x : Rw) (won lost pts : Int) (hx : es[i]? = some (rwR x)) (hs : SmallW 200 x) (h1 : 0 ≤ won ∧ won ≤ 30) (h2 : 0 ≤ lost ∧ lost ≤ 30) (h3 : 0 ≤ pts ∧ pts ≤ 30) :
 MCalls Try.prog 145 [(1000,.arr 125 8 es)] [(1000,.arr 125 8 (es.set i (rwR (addW x won lost pts))))] [.pe 1000 0 8 i 0,.r (i64 won),.r (i64 lost),.r (i64 pts)] (.tu []):=by
 have hil:=(List.getElem?_eq_some_iff.1 hx).1
 have hset : ∀ y,(es.set i y)[i]? = some y:=fun y=>List.getElem?_set_self hil
 have hsetD : ∀ y,(es.set i y).getD i [] = y:=fun y=>by rw [List.getD_eq_getElem?_getD,hset]; rfl
 have hxD : es.getD i [] = rwR x:=by rw [List.getD_eq_getElem?_getD,hx]; rfl
 obtain ⟨s1,s2,s3,s4,s5,s6,s7⟩:=hs
 refine mcalls_st (n:=65) (rs:=[]) _ _ [] Try.func145 rfl (by kernel_rfl) Try.ntmps145 rfl (by simp) rfl rfl fun C=>?_
 repeat refine zq ?_
 refine zb fun K hK=>?_;simp only [go_sem];(try simp (disch:=omega) only [zI]);repeat first | intro _ | refine ⟨by omega,?_⟩
 refine hK _ ?_;clear hK K;refine zw (zk [0,1,2,3,8]) ?_;simp only [go_sem]
 repeat refine zq ?_
 refine zd ?_
 rcases Int.lt_trichotomy won lost with hlt | heq | hgt
 · have e1 : decide (lost < won) = false:=by simp; omega
   have e2 : decide (won < lost) = true:=by simpa using hlt
   have hW : addW x won lost pts = ⟨x.team,x.pl + 1,x.won,x.dr,x.lo + 1,x.f + won,x.g + lost,x.pts + pts⟩:=by
    unfold addW; rw [if_neg (by omega),if_neg (by omega),if_pos hlt]; simp
   repeat refine zq ?_
   refine zb fun K hK=>?_;simp only [go_sem,e1];(try simp (disch:=omega) only [zI]);repeat first | intro _ | refine ⟨by omega,?_⟩
   refine hK _ ?_;clear hK K;refine zw (zk [0,1,2,3,8,12]) ?_;simp only [go_sem]
   repeat refine zq ?_
   refine zc rfl (fun hc=>?_) (fun hc=>?_) <;> (try simp only [go_sem] at hc)
   repeat refine zq ?_
   refine zb fun K hK=>?_;simp only [go_sem,e2];(try simp (disch:=omega) only [zI]);repeat first | intro _ | refine ⟨by omega,?_⟩
   refine hK _ ?_;clear hK K;refine zw (zk [0,1,2,3,8,19]) ?_;simp only [go_sem]
   repeat refine zq ?_
   refine zc rfl (fun hc=>?_) (fun hc=>?_) <;> (try simp only [go_sem] at hc)
   repeat refine zq ?_
   refine zb fun K hK=>?_;simp only [go_sem];(try simp (disch:=omega) only [zI]);repeat first | intro _ | refine ⟨by omega,?_⟩
   refine hK _ ?_;clear hK K;refine zw (zk [0,1,2,3,8]) ?_;simp only [go_sem]
   try simp only [go_sem]
   repeat refine zq ?_
   refine zb fun K hK=>?_;simp only [go_sem,hx,hxD,hset,hsetD,hil,List.length_set,List.set_set,List.set_cons_succ,List.set_cons_zero,List.take_succ_cons,List.take_zero,List.drop_succ_cons,List.drop_zero];(try simp (disch:=omega) only [zI]);repeat first | intro _ | refine ⟨by omega,?_⟩
   refine hK _ ?_;clear hK K;refine zw (zk [0,1,2,3]) ?_;simp only [go_sem]
   repeat refine zq ?_
   refine zb fun K hK=>?_;simp only [go_sem,hx,hxD,hset,hsetD,hil,List.length_set,List.set_set,List.set_cons_succ,List.set_cons_zero,List.take_succ_cons,List.take_zero,List.drop_succ_cons,List.drop_zero];(try simp (disch:=omega) only [zI]);repeat first | intro _ | refine ⟨by omega,?_⟩
   refine hK _ ?_;clear hK K;refine zw (zk [0,1,2,3]) ?_;simp only [go_sem]
   repeat refine zq ?_
   refine awp_dreg2 [(0,some 1000),(1,none),(2,none),(3,none)] follows (by decide +kernel) (by kernel_rfl) (by simp only [keysOk,List.mem_cons,List.not_mem_nil,forall_eq_or_imp,Oc.keyOf,go_sem]; simp) fun K hK=>?_
   simp only [go_sem,hx,hxD,hset,hsetD,hil,List.length_set,List.set_set,List.set_cons_succ,List.set_cons_zero,List.take_succ_cons,List.take_zero,List.drop_succ_cons,List.drop_zero];(try simp (disch:=omega) only [zI]);repeat first | intro _ | refine ⟨by omega,?_⟩
   refine hK _ ?_;clear hK K
   try simp only [go_sem]
   rw [hW]
 · have e1 : decide (lost < won) = false:=by simp; omega
   have e2 : decide (won < lost) = false:=by simp; omega
   have hW : addW x won lost pts = ⟨x.team,x.pl + 1,x.won,x.dr + 1,x.lo,x.f + won,x.g + lost,x.pts + pts⟩:=by
    unfold addW; rw [if_neg (by omega),if_pos heq,if_neg (by omega)]; simp
   repeat refine zq ?_
   refine zb fun K hK=>?_;simp only [go_sem,e1];(try simp (disch:=omega) only [zI]);repeat first | intro _ | refine ⟨by omega,?_⟩
   refine hK _ ?_;clear hK K;refine zw (zk [0,1,2,3,8,12]) ?_;simp only [go_sem]
   repeat refine zq ?_
   refine zc rfl (fun hc=>?_) (fun hc=>?_) <;> (try simp only [go_sem] at hc)
   repeat refine zq ?_
   refine zb fun K hK=>?_;simp only [go_sem,e2];(try simp (disch:=omega) only [zI]);repeat first | intro _ | refine ⟨by omega,?_⟩
   refine hK _ ?_;clear hK K;refine zw (zk [0,1,2,3,8,19]) ?_;simp only [go_sem]
   repeat refine zq ?_
   refine zc rfl (fun hc=>?_) (fun hc=>?_) <;> (try simp only [go_sem] at hc)
   refine zx ?_
   try simp only [go_sem]
   repeat refine zq ?_
   refine zb fun K hK=>?_;simp only [go_sem,hx,hxD,hset,hsetD,hil,List.length_set,List.set_set,List.set_cons_succ,List.set_cons_zero,List.take_succ_cons,List.take_zero,List.drop_succ_cons,List.drop_zero];(try simp (disch:=omega) only [zI]);repeat first | intro _ | refine ⟨by omega,?_⟩
   refine hK _ ?_;clear hK K;refine zw (zk [0,1,2,3]) ?_;simp only [go_sem]
   repeat refine zq ?_
   refine zb fun K hK=>?_;simp only [go_sem,hx,hxD,hset,hsetD,hil,List.length_set,List.set_set,List.set_cons_succ,List.set_cons_zero,List.take_succ_cons,List.take_zero,List.drop_succ_cons,List.drop_zero];(try simp (disch:=omega) only [zI]);repeat first | intro _ | refine ⟨by omega,?_⟩
   refine hK _ ?_;clear hK K;refine zw (zk [0,1,2,3]) ?_;simp only [go_sem]
   repeat refine zq ?_
   refine awp_dreg2 [(0,some 1000),(1,none),(2,none),(3,none)] follows (by decide +kernel) (by kernel_rfl) (by simp only [keysOk,List.mem_cons,List.not_mem_nil,forall_eq_or_imp,Oc.keyOf,go_sem]; simp) fun K hK=>?_
   simp only [go_sem,hx,hxD,hset,hsetD,hil,List.length_set,List.set_set,List.set_cons_succ,List.set_cons_zero,List.take_succ_cons,List.take_zero,List.drop_succ_cons,List.drop_zero];(try simp (disch:=omega) only [zI]);repeat first | intro _ | refine ⟨by omega,?_⟩
   refine hK _ ?_;clear hK K
   try simp only [go_sem]
   rw [hW]
 · have e1 : decide (lost < won) = true:=by simp; omega
   have hW : addW x won lost pts = ⟨x.team,x.pl + 1,x.won + 1,x.dr,x.lo,x.f + won,x.g + lost,x.pts + pts⟩:=by
    unfold addW; rw [if_pos hgt,if_neg (by omega),if_neg (by omega)]; simp
   repeat refine zq ?_
   refine zb fun K hK=>?_;simp only [go_sem,e1];(try simp (disch:=omega) only [zI]);repeat first | intro _ | refine ⟨by omega,?_⟩
   refine hK _ ?_;clear hK K;refine zw (zk [0,1,2,3,8,12]) ?_;simp only [go_sem]
   repeat refine zq ?_
   refine zc rfl (fun hc=>?_) (fun hc=>?_) <;> (try simp only [go_sem] at hc)
   repeat refine zq ?_
   refine zb fun K hK=>?_;simp only [go_sem];(try simp (disch:=omega) only [zI]);repeat first | intro _ | refine ⟨by omega,?_⟩
   refine hK _ ?_;clear hK K;refine zw (zk [0,1,2,3,8]) ?_;simp only [go_sem]
   try simp only [go_sem]
   repeat refine zq ?_
   refine zb fun K hK=>?_;simp only [go_sem,hx,hxD,hset,hsetD,hil,List.length_set,List.set_set,List.set_cons_succ,List.set_cons_zero,List.take_succ_cons,List.take_zero,List.drop_succ_cons,List.drop_zero];(try simp (disch:=omega) only [zI]);repeat first | intro _ | refine ⟨by omega,?_⟩
   refine hK _ ?_;clear hK K;refine zw (zk [0,1,2,3]) ?_;simp only [go_sem]
   repeat refine zq ?_
   refine zb fun K hK=>?_;simp only [go_sem,hx,hxD,hset,hsetD,hil,List.length_set,List.set_set,List.set_cons_succ,List.set_cons_zero,List.take_succ_cons,List.take_zero,List.drop_succ_cons,List.drop_zero];(try simp (disch:=omega) only [zI]);repeat first | intro _ | refine ⟨by omega,?_⟩
   refine hK _ ?_;clear hK K;refine zw (zk [0,1,2,3]) ?_;simp only [go_sem]
   repeat refine zq ?_
   refine awp_dreg2 [(0,some 1000),(1,none),(2,none),(3,none)] follows (by decide +kernel) (by kernel_rfl) (by simp only [keysOk,List.mem_cons,List.not_mem_nil,forall_eq_or_imp,Oc.keyOf,go_sem]; simp) fun K hK=>?_
   simp only [go_sem,hx,hxD,hset,hsetD,hil,List.length_set,List.set_set,List.set_cons_succ,List.set_cons_zero,List.take_succ_cons,List.take_zero,List.drop_succ_cons,List.drop_zero];(try simp (disch:=omega) only [zI]);repeat first | intro _ | refine ⟨by omega,?_⟩
   refine hK _ ?_;clear hK K
   try simp only [go_sem]
   rw [hW]
def startW (r : Tr) (t : Nat) : Rw:=⟨t,0,0,0,0,0,0,if r.ded = [] then 0 else -(r.ded.getD t 0)⟩
def stepW (r : Tr) (t : Nat) (x : Rw) (m : Mt) : Rw :=
 if m.p then (if m.h = t then addW x m.f m.g (ptsV r (resV m)).1 else if m.a = t then addW x m.g m.f (ptsV r (resV m)).2 else x) else x
def rowT (r : Tr) (l : List Mt) (t : Nat) : Rw:=l.foldl (stepW r t) (startW r t)
def nT (r : Tr) : Nat:=r.teams.toNat
def rowsL (r : Tr) (l : List Mt) : List Rw:=(List.range (nT r)).map (rowT r l)
theorem rowT_snoc (r : Tr) (l : List Mt) (m : Mt) (t : Nat) : rowT r (l ++ [m]) t = stepW r t (rowT r l t) m:=by simp [rowT]
theorem resV_or (m : Mt) : resV m = 0 ∨ resV m = 1 ∨ resV m = 2:=by unfold resV; split <;> (try split) <;> simp
theorem ptsV_le {r : Tr} (hr : RulesI r) (x : Int) : (0 ≤ (ptsV r x).1 ∧ (ptsV r x).1 ≤ 9) ∧ 0 ≤ (ptsV r x).2 ∧ (ptsV r x).2 ≤ 9:=by
 have h1:=hr.win
 have h2:=hr.draw
 unfold ptsV
 split <;> (try split) <;> simp only <;> omega
theorem legs_le {r : Tr} (hr : RulesI r) {m : Mt} (hm : MatchI r m) : (0 ≤ m.f ∧ m.f ≤ 30) ∧ 0 ≤ m.g ∧ m.g ≤ 30:=by
 have h1:=hr.legs
 have h2:=hm.f
 have h3:=hm.g
 have : legsOf r m ≤ 25 ∧ 0 ≤ legsOf r m:=by unfold legsOf; split <;> omega
 omega
theorem small_start {r : Tr} (hr : RulesI r) (t : Nat) : SmallW 0 (startW r t):=by
 unfold startW
 refine ⟨by simp,by simp,by simp,by simp,by simp,by simp,?_⟩
 simp only
 split
 · omega
 · rename_i h
   rcases hr.ded with h' | ⟨_,h'⟩
   · exact absurd h' h
   · by_cases ht : t < r.ded.length
     · have:=h' (r.ded.getD t 0) (by rw [List.getD_eq_getElem?_getD,List.getElem?_eq_getElem ht]; exact List.getElem_mem _)
       omega
     · rw [List.getD_eq_getElem?_getD,List.getElem?_eq_none (by omega)]; simp
theorem small_row {r : Tr} (hr : RulesI r) {l : List Mt} (hl : ∀ m ∈ l,MatchI r m) (t : Nat) : ∀ k,k ≤ l.length → SmallW k (rowT r (l.take k) t)
 | 0,_=>by simpa [rowT] using small_start hr t
 | k + 1, hk => by
   have ih:=small_row hr hl t k (by omega)
   obtain ⟨m,hm⟩:=opt_of_lt (show k < l.length by omega)
   rw [take_of_opt hm,rowT_snoc]
   have hmi:=legs_le hr (hl m (mem_of_opt hm))
   have hp:=ptsV_le hr (resV m)
   have e : ((k + 1 : Nat) : Int) = (k : Int) + 1:=by omega
   rw [e]
   unfold stepW
   split
   · split
     · exact ih.add (by omega) (by omega) (by omega)
     · split
       · exact ih.add (by omega) (by omega) (by omega)
       · exact ih.le (by omega)
   · exact ih.le (by omega)
theorem rows_step {r : Tr} {l : List Mt} {k : Nat} {m : Mt} (hm : l[k]? = some m) (hmi : MatchI r m) (hp : m.p = true) (hn : (nT r : Int) = r.teams) {h a : Nat} (hh : m.h = h) (ha : m.a = a) :
 ((((List.range (nT r)).map (rowT r (l.take k))).map rwR).set h (rwR (addW (rowT r (l.take k) h) m.f m.g (ptsV r (resV m)).1))).set a (rwR (addW (rowT r (l.take k) a) m.g m.f (ptsV r (resV m)).2)) = ((List.range (nT r)).map (rowT r (l.take (k + 1)))).map rwR:=by
 have h1:=hmi.h
 have h2:=hmi.a
 have h3:=hmi.ne
 have hne : h ≠ a:=fun e=>h3 (by rw [hh,ha,e])
 refine List.ext_getElem? fun j=>?_
 rw [take_of_opt hm]
 by_cases hj : j < nT r
 · rw [List.getElem?_map,List.getElem?_map,List.getElem?_range hj]
   simp only [Option.map_some,rowT_snoc]
   by_cases e1 : j = a
   · subst e1
     rw [List.getElem?_set_self (by simp; omega)]
     unfold stepW
     rw [if_pos hp,if_neg (by omega),if_pos ha]
   · rw [List.getElem?_set_ne (fun e=>e1 e.symm)]
     by_cases e2 : j = h
     · subst e2
       rw [List.getElem?_set_self (by simp; omega)]
       unfold stepW
       rw [if_pos hp,if_pos hh]
     · rw [List.getElem?_set_ne (fun e=>e2 e.symm),List.getElem?_map,List.getElem?_map,List.getElem?_range hj]
       unfold stepW
       rw [if_pos hp,if_neg (by omega),if_neg (by omega)]
       rfl
 · rw [List.getElem?_eq_none (by simp; omega),List.getElem?_eq_none (by simp; omega)]
theorem rows_skip {r : Tr} {l : List Mt} {k : Nat} {m : Mt} (hm : l[k]? = some m) (hp : m.p = false) : (List.range (nT r)).map (rowT r (l.take (k + 1))) = (List.range (nT r)).map (rowT r (l.take k)):=by
 refine List.map_congr_left fun t _=>?_
 rw [take_of_opt hm,rowT_snoc]
 unfold stepW
 rw [hp]; rfl
theorem nT_eq {r : Tr} (hr : RulesI r) : (nT r : Int) = r.teams ∧ 2 ≤ nT r ∧ nT r ≤ 10:=by
 have:=hr.teams
 unfold nT
 omega
theorem rows_get {r : Tr} {l : List Mt} {j : Nat} (h : j < nT r) : (((List.range (nT r)).map (rowT r l)).map rwR)[j]? = some (rwR (rowT r l j)):=by
 rw [List.getElem?_map,List.getElem?_map,List.getElem?_range h]; rfl
def ro14F (r : Tr) (l : List Mt) (m : Mt) (h a : Nat) (p1 p2 : Int) (k : Nat) (b : Nat → Bool) (vs : Nat → Nat) : List (Nat × AV) :=
 [(1,.r (.rp (dvC r l))),(3,.os 12 (vs 12) 8 0 (nT r)),(6,.r (.rp (mtR m))),(7,.r (i64 p1)),(8,.r (i64 p2)),(41,.r (mtsR l)),(42,.r (i64 (l.length : Int))),(43,.r (i64 (k : Int))),
  (56,vI b 0 (.os 12 (vs 12) 8 0 (nT r))),
  (57,vI b 1 (.r (.rp (mtR m)))),
  (58,vI b 2 (.r (i64 (h : Int)))),
  (59,vI b 3 (.pe 12 (vs 12) 8 h 0)),
  (60,vI b 4 (.r (.rp [i64 m.f,i64 m.g]))),
  (61,vI b 5 (.r (i64 m.f))),
  (62,vI b 6 (.r (.rp [i64 m.g]))),
  (63,vI b 7 (.r (i64 m.g))),
  (64,vI b 8 (.r (i64 p1)))]
def ro14R (E E' : List (List RV)) (b : Nat → Bool) (vs : Nat → Nat) : List (Nat × RowC):=[(12,.arr 125 8 (bif b 9 then E' else E))]
def ro15F (r : Tr) (l : List Mt) (m : Mt) (h a : Nat) (p1 p2 : Int) (k : Nat) (b : Nat → Bool) (vs : Nat → Nat) : List (Nat × AV) :=
 [(1,.r (.rp (dvC r l))),(3,.os 12 (vs 12) 8 0 (nT r)),(6,.r (.rp (mtR m))),(7,.r (i64 p1)),(8,.r (i64 p2)),(41,.r (mtsR l)),(42,.r (i64 (l.length : Int))),(43,.r (i64 (k : Int))),
  (66,vI b 0 (.os 12 (vs 12) 8 0 (nT r))),
  (67,vI b 1 (.r (.rp [i64 (a : Int),.bo m.p,i64 m.f,i64 m.g]))),
  (68,vI b 2 (.r (i64 (a : Int)))),
  (69,vI b 3 (.pe 12 (vs 12) 8 a 0)),
  (70,vI b 4 (.r (.rp [i64 m.g]))),
  (71,vI b 5 (.r (i64 m.g))),
  (72,vI b 6 (.r (.rp [i64 m.f,i64 m.g]))),
  (73,vI b 7 (.r (i64 m.f))),
  (74,vI b 8 (.r (i64 p2)))]
def ro15R (E E' : List (List RV)) (b : Nat → Bool) (vs : Nat → Nat) : List (Nat × RowC):=[(12,.arr 125 8 (bif b 9 then E' else E))]
theorem rows_ok (r : Tr) (l : List Mt) (hr : RulesI r) (hl : ∀ m ∈ l,MatchI r m) (hll : l.length ≤ 180) : ACalls Try.prog 80 [dvV r l] (rwsR (rowsL r l)):=by
 obtain ⟨hn,hn2,hn10⟩:=nT_eq hr
 have hrt:=hr.teams
 have htn : r.teams.toNat = nT r:=rfl
 refine acalls_st (rs:=[rwsR (rowsL r l)]) [.tmp 2] Try.func80 rfl (by kernel_rfl) Try.ntmps80 rfl (by simp) rfl fun C vs=>?_
 repeat refine zq ?_
 refine zb fun K hK=>?_;simp only [go_sem];(try simp (disch:=omega) only [zI]);repeat first | intro _ | refine ⟨by omega,?_⟩
 refine hK _ ?_;clear hK K;refine zw (sub_frzP 1 1 (dvC r l) (by omega) rfl rfl) ?_;refine zw (zk [1]) ?_;simp only [go_sem]
 repeat refine zq ?_
 refine zb fun K hK=>?_;simp only [go_sem,htn];(try simp (disch:=omega) only [zI]);repeat first | intro _ | refine ⟨by omega,?_⟩
 refine hK _ ?_;clear hK K;refine zw (zk [1,3]) ?_;simp only [go_sem]
 repeat refine zq ?_
 refine zb fun K hK=>?_;simp only [go_sem];(try simp (disch:=omega) only [zI]);repeat first | intro _ | refine ⟨by omega,?_⟩
 refine hK _ ?_;clear hK K;refine zw (zk [1,3,14,15]) ?_;simp only [go_sem]
 repeat refine zq ?_
 refine zd ?_
 refine awp_uptoV (n:=78) (nT r) (fun i vs=>[(1,.r (.rp (dvC r l))),(3,.os 12 (vs 12) 8 0 (nT r)),(14,.r (i64 (nT r : Int))),(15,.r (i64 (i : Int)))])
  (fun i vs=>[(12,.arr 125 8 (((List.range i).map fun t=>rwR (startW r t)) ++ List.replicate (nT r - i) (rwR ⟨0,0,0,0,0,0,0,0⟩)))]) (fun _=>True) 0 (zj [] ?_ ?_) (Nat.zero_le _) trivial ?_
 · try simp only [go_sem]
 · try simp only [go_sem]
   try rfl
 · intro i vs hi _
   repeat refine zq ?_
   refine zb fun K hK=>?_;simp only [go_sem];(try simp (disch:=omega) only [zI]);repeat first | intro _ | refine ⟨by omega,?_⟩
   refine hK _ ?_;clear hK K;refine zw (zk [1,3,14,15,16]) ?_;simp only [go_sem]
   repeat refine zq ?_
   refine zc rfl (fun hc=>?_) (fun hc=>?_) <;> (try simp only [go_sem] at hc)
   · have hci : i < nT r:=by omega
     obtain ⟨E,hEd⟩ : ∃ E,E = ((List.range i).map fun t=>rwR (startW r t)) ++ List.replicate (nT r - i) (rwR ⟨0,0,0,0,0,0,0,0⟩):=⟨_,rfl⟩
     have hEl : E.length = nT r:=by rw [hEd]; simp; omega
     have hE : E[i]? = some (rwR ⟨0,0,0,0,0,0,0,0⟩):=by
      rw [hEd,List.getElem?_append_right (by simp),List.length_map,List.length_range,Nat.sub_self,List.getElem?_replicate,if_pos (by omega)]
     have hED : E.getD i [] = rwR ⟨0,0,0,0,0,0,0,0⟩:=by rw [List.getD_eq_getElem?_getD,hE]; rfl
     have hil : i < E.length:=by omega
     have hset : ∀ y,(E.set i y)[i]? = some y:=fun y=>List.getElem?_set_self hil
     have hsetD : ∀ y,(E.set i y).getD i [] = y:=fun y=>by rw [List.getD_eq_getElem?_getD,hset]; rfl
     have hnext : E.set i (rwR (startW r i)) = ((List.range (i + 1)).map fun t=>rwR (startW r t)) ++ List.replicate (nT r - (i + 1)) (rwR ⟨0,0,0,0,0,0,0,0⟩):=by
      rw [hEd,List.set_append_right _ _ (by simp),List.length_map,List.length_range,Nat.sub_self,show nT r - i = (nT r - (i + 1)) + 1 by omega,List.replicate_succ,List.set_cons_zero,List.range_succ,List.map_append,List.append_assoc]
      rfl
     rw [← hEd]
     refine zx ?_
     try simp only [go_sem]
     repeat refine zq ?_
     refine zd ?_
     repeat refine zq ?_
     refine zb fun K hK=>?_;simp only [go_sem];(try simp (disch:=omega) only [zI]);repeat first | intro _ | refine ⟨by omega,?_⟩
     refine hK _ ?_;clear hK K;refine zw (zk [1,3,4,14,15]) ?_;simp only [go_sem]
     repeat refine zq ?_
     refine zb fun K hK=>?_;simp only [go_sem,hE,hED,hset,hsetD,hil,List.length_set,List.set_set,List.set_cons_succ,List.set_cons_zero,List.take_succ_cons,List.take_zero,List.drop_succ_cons,List.drop_zero];(try simp (disch:=omega) only [zI]);repeat first | intro _ | refine ⟨by omega,?_⟩
     refine hK _ ?_;clear hK K;refine zw (zk [1,3,4,14,15]) ?_;simp only [go_sem]
     repeat refine zq ?_
     refine zb fun K hK=>?_;simp only [go_sem];(try simp (disch:=omega) only [zI])
     intro _
     repeat first | intro _ | refine ⟨by omega,?_⟩
     refine hK _ ?_;clear hK K;refine zw (zk [1,3,4,14,15,27]) ?_;simp only [go_sem]
     repeat refine zq ?_
     refine awp_joinV (n:=78) (fun (_ : Unit) vs=>[(1,.r (.rp (dvC r l))),(3,.os 12 (vs 12) 8 0 (nT r)),(14,.r (i64 (nT r : Int))),(15,.r (i64 (i : Int)))]) (fun _ vs=>[(12,.arr 125 8 (E.set i (rwR (startW r i))))]) (fun _=>True) (fun _ h=>h) ?_ ?_
     · repeat refine zq ?_
       refine zc rfl (fun hc=>?_) (fun hc=>?_) <;> (try simp only [go_sem] at hc)
       · have hd0 : ¬ r.ded = []:=fun e=>by rw [e] at hc; simp at hc
         have hdl : (r.ded.length : Int) = r.teams ∧ ∀ x ∈ r.ded,0 ≤ x ∧ x ≤ 99:=hr.ded.resolve_left hd0
         obtain ⟨dx,hdx⟩:=opt_of_lt (show i < r.ded.length by omega)
         have hdb:=hdl.2 dx (mem_of_opt hdx)
         have hidl : i < r.ded.length:=by omega
         have hneg : IntKind.i64.wrap (-dx) = -dx:=by rw [zI] <;> omega
         have hst : startW r i = ⟨i,0,0,0,0,0,0,-dx⟩:=by unfold startW; rw [if_neg hd0,List.getD_eq_getElem?_getD,hdx]; rfl
         repeat refine zq ?_
         refine zb fun K hK=>?_;simp only [go_sem,hdx,hidl,hneg,hE,hED,hset,hsetD,hil,List.length_set,List.set_set,List.set_cons_succ,List.set_cons_zero,List.take_succ_cons,List.take_zero,List.drop_succ_cons,List.drop_zero];(try simp (disch:=omega) only [zI]);repeat first | intro _ | refine ⟨by omega,?_⟩
         refine hK _ ?_;clear hK K
         refine ⟨(),trivial,zj [] ?_ ?_⟩
         · try simp only [go_sem]
         · try simp only [go_sem]
           rw [hst]
           simp only [Int.zero_sub]
           try rfl
       · have hd0 : r.ded = []:=List.length_eq_zero_iff.1 (by omega)
         have hst : startW r i = ⟨i,0,0,0,0,0,0,0⟩:=by unfold startW; rw [if_pos hd0]
         refine zx ?_
         try simp only [go_sem]
         refine ⟨(),zj [] ?_ ?_⟩
         · try simp only [go_sem]
         · try simp only [go_sem]
           rw [hst]
           try rfl
     intro _ vs _
     repeat refine zq ?_
     refine zb fun K hK=>?_;simp only [go_sem];(try simp (disch:=omega) only [zI]);repeat first | intro _ | refine ⟨by omega,?_⟩
     refine hK _ ?_;clear hK K
     try simp only [go_sem]
     refine ⟨by omega,zj [] ?_ ?_⟩
     · try simp only [go_sem]
     · try simp only [go_sem]
       rw [hnext,List.range_succ]
   · have hin : i = nT r:=by omega
     subst hin
     have e0 : ((List.range (nT r)).map fun t=>rwR (startW r t)) ++ List.replicate (nT r - nT r) (rwR ⟨0,0,0,0,0,0,0,0⟩) = ((List.range (nT r)).map (rowT r (l.take 0))).map rwR:=by
      rw [Nat.sub_self,List.replicate_zero,List.append_nil,List.map_map]
      rfl
     rw [e0]
     refine zf ?_;simp only [go_sem];refine zw (zk [1,3]) ?_;simp only [go_sem]
     repeat refine zq ?_
     refine zb fun K hK=>?_;simp only [go_sem];(try simp (disch:=omega) only [zI])
     intro hll7
     repeat first | intro _ | refine ⟨by omega,?_⟩
     refine hK _ ?_;clear hK K;refine zw (zk [1,3,41,42,43]) ?_;simp only [go_sem]
     repeat refine zq ?_
     refine zd ?_
     refine awp_uptoV (n:=78) l.length (fun k vs=>[(1,.r (.rp (dvC r l))),(3,.os 12 (vs 12) 8 0 (nT r)),(41,.r (mtsR l)),(42,.r (i64 (l.length : Int))),(43,.r (i64 (k : Int)))])
      (fun k vs=>[(12,.arr 125 8 (((List.range (nT r)).map (rowT r (l.take k))).map rwR))]) (fun _=>True) 0 (zj [] ?_ ?_) (Nat.zero_le _) trivial ?_
     · try simp only [go_sem]
     · try simp only [go_sem]
     · intro k vs hk _
       repeat refine zq ?_
       refine zb fun K hK=>?_;simp only [go_sem];(try simp (disch:=omega) only [zI]);repeat first | intro _ | refine ⟨by omega,?_⟩
       refine hK _ ?_;clear hK K;refine zw (zk [1,3,41,42,43,44]) ?_;simp only [go_sem]
       repeat refine zq ?_
       refine zc rfl (fun hc=>?_) (fun hc=>?_) <;> (try simp only [go_sem] at hc)
       · have hck : k < l.length:=by omega
         obtain ⟨m,hm⟩:=opt_of_lt hck
         have hmi:=hl m (mem_of_opt hm)
         have hleg:=legs_le hr hmi
         have hpv:=ptsV_le hr (resV m)
         obtain ⟨h,hh⟩:=Int.eq_ofNat_of_zero_le hmi.h.1
         obtain ⟨a,ha⟩:=Int.eq_ofNat_of_zero_le hmi.a.1
         have hhn : h < nT r:=by have:=hmi.h; omega
         have han : a < nT r:=by have:=hmi.a; omega
         refine zx ?_
         try simp only [go_sem]
         repeat refine zq ?_
         refine zd ?_
         repeat refine zq ?_
         refine zb fun K hK=>?_;simp only [go_sem,hm,hck];(try simp (disch:=omega) only [zI]);repeat first | intro _ | refine ⟨by omega,?_⟩
         refine hK _ ?_;clear hK K;refine zw (sub_frzP 6 6 (mtR m) (by omega) rfl rfl) ?_;refine zw (zk [1,3,6,41,42,43]) ?_;simp only [go_sem]
         repeat refine zq ?_
         refine zb fun K hK=>?_;simp only [go_sem];(try simp (disch:=omega) only [zI]);repeat first | intro _ | refine ⟨by omega,?_⟩
         refine hK _ ?_;clear hK K;refine zw (zk [1,3,6,41,42,43,48]) ?_;simp only [go_sem]
         repeat refine zq ?_
         refine awp_joinV (n:=78) (fun (_ : Unit) vs=>[(1,.r (.rp (dvC r l))),(3,.os 12 (vs 12) 8 0 (nT r)),(41,.r (mtsR l)),(42,.r (i64 (l.length : Int))),(43,.r (i64 (k : Int)))]) (fun _ vs=>[(12,.arr 125 8 (((List.range (nT r)).map (rowT r (l.take (k + 1)))).map rwR))]) (fun _=>True) (fun _ h=>h) ?_ ?_
         · repeat refine zq ?_
           refine zc rfl (fun hc=>?_) (fun hc=>?_) <;> (try simp only [go_sem] at hc)
           · have hmp : m.p = true:=by simpa using hc
             have hstep:=rows_step (r:=r) hm hmi hmp hn hh ha
             have hof:=of_ok m
             have hpo:=points_ok r l (resV m) (resV_or m)
             have hrh:=rows_get (l:=l.take k) hhn
             have hra:=rows_get (l:=l.take k) han
             have hsh:=(small_row hr hl h k (by omega)).le (B':=200) (by omega)
             have hsa:=(small_row hr hl a k (by omega)).le (B':=200) (by omega)
             have hEl0 : (((List.range (nT r)).map (rowT r (l.take k))).map rwR).length = nT r:=by simp
             generalize ((List.range (nT r)).map (rowT r (l.take k))).map rwR = E at *
             have hEl : E.length = nT r:=hEl0
             have hne : h ≠ a:=fun e=>hmi.ne (by rw [hh,ha,e])
             repeat refine zq ?_
             refine zg follows (by decide +kernel) (by kernel_rfl) fun K hK=>?_;simp only [go_sem];(try simp (disch:=omega) only [zI])
             refine zh (hof) rfl (by simp only [go_sem,i64,ints]) (by simp only [go_sem,i64,ints]) (by first | exact .inl rfl | exact .inr rfl) ?_
             (try simp only [go_sem]);(try simp (disch:=omega) only [zI])
             refine zh (hpo) rfl (by simp only [go_sem,i64,ints]) (by simp only [go_sem,i64,ints]) (by first | exact .inl rfl | exact .inr rfl) ?_
             (try simp only [go_sem]);(try simp (disch:=omega) only [zI]);repeat first | intro _ | refine ⟨by omega,?_⟩
             refine hK _ ?_;clear hK K;refine zw (zk [1,3,6,7,8,41,42,43]) ?_;simp only [go_sem]
             repeat refine zq ?_
             refine awp_inv (n:=78) (ro14F r l m h a (ptsV r (resV m)).1 (ptsV r (resV m)).2 k) (ro14R (E) (E.set h (rwR (addW (rowT r (l.take k) h) m.f m.g (ptsV r (resV m)).1)))) follows (by kernel_rfl) (by kernel_rfl) (by decide +kernel) (zj [] ?_ ?_) ?_ ?_
             · simp only [go_sem,ro14F,vI,if_true,if_false,Bool.false_eq_true]
             · simp only [go_sem,ro14R,cond_false]
             · refine ⟨fun b vs hdn hbk hde=>?_,fun b vs hdn hbk hde=>?_,fun b vs hdn hbk hde=>?_,fun b vs hdn hbk hde=>?_,fun b vs hdn hbk hde=>?_,fun b vs hdn hbk hde=>?_,fun b vs hdn hbk hde=>?_,fun b vs hdn hbk hde=>?_,fun b vs hdn hbk hde=>?_,fun b vs hdn hbk hde=>?_,trivial⟩
               · skip
                 have G:=dnT hdn hbk [3,9] (by decide +kernel)
                 simp only [allB,and_true] at G
                 (simp only [go_sem,ro14F,ro14R,upd,vI,cond_true,cond_false,if_true,Bool.false_eq_true,if_false,hbk,G,hEl,hh,ha,hhn,han])
                 all_goals (refine zj [] ?_ ?_ <;> (simp only [go_sem,ro14F,ro14R,upd,vI,cond_true,cond_false,if_true,Bool.false_eq_true,if_false,hbk,G,hEl,hh,ha,hhn,han]))
               · skip
                 have G:=dnT hdn hbk [2,3,9] (by decide +kernel)
                 simp only [allB,and_true] at G
                 (simp only [go_sem,ro14F,ro14R,upd,vI,cond_true,cond_false,if_true,Bool.false_eq_true,if_false,hbk,G,hEl,hh,ha,hhn,han])
                 all_goals (refine zj [] ?_ ?_ <;> (simp only [go_sem,ro14F,ro14R,upd,vI,cond_true,cond_false,if_true,Bool.false_eq_true,if_false,hbk,G,hEl,hh,ha,hhn,han]))
               · skip
                 have H:=upT hdn hde [1] (by decide +kernel)
                 have G:=dnT hdn hbk [3,9] (by decide +kernel)
                 simp only [allB,and_true] at H G
                 (simp only [go_sem,ro14F,ro14R,upd,vI,cond_true,cond_false,if_true,Bool.false_eq_true,if_false,hbk,H,G,hEl,hh,ha,hhn,han])
                 all_goals (refine zj [] ?_ ?_ <;> (simp only [go_sem,ro14F,ro14R,upd,vI,cond_true,cond_false,if_true,Bool.false_eq_true,if_false,hbk,H,G,hEl,hh,ha,hhn,han]))
               · skip
                 have H:=upT hdn hde [0,2,1] (by decide +kernel)
                 have G:=dnT hdn hbk [9] (by decide +kernel)
                 simp only [allB,and_true] at H G
                 (simp only [go_sem,ro14F,ro14R,upd,vI,cond_true,cond_false,if_true,Bool.false_eq_true,if_false,hbk,H,G,hEl,hh,ha,hhn,han])
                 all_goals (refine zj [] ?_ ?_ <;> (simp only [go_sem,ro14F,ro14R,upd,vI,cond_true,cond_false,if_true,Bool.false_eq_true,if_false,hbk,H,G,hEl,hh,ha,hhn,han]))
               · skip
                 have G:=dnT hdn hbk [5,9] (by decide +kernel)
                 simp only [allB,and_true] at G
                 (simp only [go_sem,ro14F,ro14R,upd,vI,cond_true,cond_false,if_true,Bool.false_eq_true,if_false,hbk,G,hEl,hh,ha,hhn,han])
                 all_goals (refine zj [] ?_ ?_ <;> (simp only [go_sem,ro14F,ro14R,upd,vI,cond_true,cond_false,if_true,Bool.false_eq_true,if_false,hbk,G,hEl,hh,ha,hhn,han]))
               · skip
                 have H:=upT hdn hde [4] (by decide +kernel)
                 have G:=dnT hdn hbk [9] (by decide +kernel)
                 simp only [allB,and_true] at H G
                 (simp only [go_sem,ro14F,ro14R,upd,vI,cond_true,cond_false,if_true,Bool.false_eq_true,if_false,hbk,H,G,hEl,hh,ha,hhn,han])
                 all_goals (refine zj [] ?_ ?_ <;> (simp only [go_sem,ro14F,ro14R,upd,vI,cond_true,cond_false,if_true,Bool.false_eq_true,if_false,hbk,H,G,hEl,hh,ha,hhn,han]))
               · skip
                 have G:=dnT hdn hbk [7,9] (by decide +kernel)
                 simp only [allB,and_true] at G
                 (simp only [go_sem,ro14F,ro14R,upd,vI,cond_true,cond_false,if_true,Bool.false_eq_true,if_false,hbk,G,hEl,hh,ha,hhn,han])
                 all_goals (refine zj [] ?_ ?_ <;> (simp only [go_sem,ro14F,ro14R,upd,vI,cond_true,cond_false,if_true,Bool.false_eq_true,if_false,hbk,G,hEl,hh,ha,hhn,han]))
               · skip
                 have H:=upT hdn hde [6] (by decide +kernel)
                 have G:=dnT hdn hbk [9] (by decide +kernel)
                 simp only [allB,and_true] at H G
                 (simp only [go_sem,ro14F,ro14R,upd,vI,cond_true,cond_false,if_true,Bool.false_eq_true,if_false,hbk,H,G,hEl,hh,ha,hhn,han])
                 all_goals (refine zj [] ?_ ?_ <;> (simp only [go_sem,ro14F,ro14R,upd,vI,cond_true,cond_false,if_true,Bool.false_eq_true,if_false,hbk,H,G,hEl,hh,ha,hhn,han]))
               · skip
                 have G:=dnT hdn hbk [9] (by decide +kernel)
                 simp only [allB,and_true] at G
                 (simp only [go_sem,ro14F,ro14R,upd,vI,cond_true,cond_false,if_true,Bool.false_eq_true,if_false,hbk,G,hEl,hh,ha,hhn,han])
                 all_goals (refine zj [] ?_ ?_ <;> (simp only [go_sem,ro14F,ro14R,upd,vI,cond_true,cond_false,if_true,Bool.false_eq_true,if_false,hbk,G,hEl,hh,ha,hhn,han]))
               · skip
                 have H:=upT hdn hde [3,5,7,8,0,2,4,6,1] (by decide +kernel)
                 simp only [allB,and_true] at H
                 (simp only [go_sem,ro14F,ro14R,upd,vI,cond_true,cond_false,if_true,Bool.false_eq_true,if_false,hbk,H,hEl,hh,ha,hhn,han])
                 all_goals (refine xcall_mut (add_ok E h (rowT r (l.take k) h) m.f m.g (ptsV r (resV m)).1 hrh hsh (by omega) (by omega) (by omega)) [(1000,12)] rfl (by simp only [go_sem,i64,ints]) (by simp only [go_sem,i64,ints]) (by rfl) (by rfl) ?_; simp only [go_sem,hEl,hh,ha,hhn,han])
                 all_goals (refine zj [] ?_ ?_ <;> (simp only [go_sem,ro14F,ro14R,upd,vI,cond_true,cond_false,if_true,Bool.false_eq_true,if_false,hbk,H,hEl,hh,ha,hhn,han]))
             intro b vs hb
             simp only [go_sem,ro14F,ro14R,vI,hb,if_true,cond_true];refine zw (zk [1,3,6,7,8,41,42,43]) ?_;simp only [go_sem]
             have hE1l : (E.set h (rwR (addW (rowT r (l.take k) h) m.f m.g (ptsV r (resV m)).1))).length = nT r:=by simp [hEl]
             have hra1 : (E.set h (rwR (addW (rowT r (l.take k) h) m.f m.g (ptsV r (resV m)).1)))[a]? = some (rwR (rowT r (l.take k) a)):=by
              rw [List.getElem?_set_ne hne]; exact hra
             generalize E.set h (rwR (addW (rowT r (l.take k) h) m.f m.g (ptsV r (resV m)).1)) = E1 at *
             clear hEl hEl0
             have hEl:=hE1l
             repeat refine zq ?_
             refine awp_inv (n:=78) (ro15F r l m h a (ptsV r (resV m)).1 (ptsV r (resV m)).2 k) (ro15R (E1) (E1.set a (rwR (addW (rowT r (l.take k) a) m.g m.f (ptsV r (resV m)).2)))) follows (by kernel_rfl) (by kernel_rfl) (by decide +kernel) (zj [] ?_ ?_) ?_ ?_
             · simp only [go_sem,ro15F,vI,if_true,if_false,Bool.false_eq_true]
             · simp only [go_sem,ro15R,cond_false]
             · refine ⟨fun b vs hdn hbk hde=>?_,fun b vs hdn hbk hde=>?_,fun b vs hdn hbk hde=>?_,fun b vs hdn hbk hde=>?_,fun b vs hdn hbk hde=>?_,fun b vs hdn hbk hde=>?_,fun b vs hdn hbk hde=>?_,fun b vs hdn hbk hde=>?_,fun b vs hdn hbk hde=>?_,fun b vs hdn hbk hde=>?_,trivial⟩
               · skip
                 have G:=dnT hdn hbk [3,9] (by decide +kernel)
                 simp only [allB,and_true] at G
                 (simp only [go_sem,ro15F,ro15R,upd,vI,cond_true,cond_false,if_true,Bool.false_eq_true,if_false,hbk,G,hEl,hh,ha,hhn,han])
                 all_goals (refine zj [] ?_ ?_ <;> (simp only [go_sem,ro15F,ro15R,upd,vI,cond_true,cond_false,if_true,Bool.false_eq_true,if_false,hbk,G,hEl,hh,ha,hhn,han]))
               · skip
                 have G:=dnT hdn hbk [2,3,9] (by decide +kernel)
                 simp only [allB,and_true] at G
                 (simp only [go_sem,ro15F,ro15R,upd,vI,cond_true,cond_false,if_true,Bool.false_eq_true,if_false,hbk,G,hEl,hh,ha,hhn,han])
                 all_goals (refine zj [] ?_ ?_ <;> (simp only [go_sem,ro15F,ro15R,upd,vI,cond_true,cond_false,if_true,Bool.false_eq_true,if_false,hbk,G,hEl,hh,ha,hhn,han]))
               · skip
                 have H:=upT hdn hde [1] (by decide +kernel)
                 have G:=dnT hdn hbk [3,9] (by decide +kernel)
                 simp only [allB,and_true] at H G
                 (simp only [go_sem,ro15F,ro15R,upd,vI,cond_true,cond_false,if_true,Bool.false_eq_true,if_false,hbk,H,G,hEl,hh,ha,hhn,han])
                 all_goals (refine zj [] ?_ ?_ <;> (simp only [go_sem,ro15F,ro15R,upd,vI,cond_true,cond_false,if_true,Bool.false_eq_true,if_false,hbk,H,G,hEl,hh,ha,hhn,han]))
               · skip
                 have H:=upT hdn hde [0,2,1] (by decide +kernel)
                 have G:=dnT hdn hbk [9] (by decide +kernel)
                 simp only [allB,and_true] at H G
                 (simp only [go_sem,ro15F,ro15R,upd,vI,cond_true,cond_false,if_true,Bool.false_eq_true,if_false,hbk,H,G,hEl,hh,ha,hhn,han])
                 all_goals (refine zj [] ?_ ?_ <;> (simp only [go_sem,ro15F,ro15R,upd,vI,cond_true,cond_false,if_true,Bool.false_eq_true,if_false,hbk,H,G,hEl,hh,ha,hhn,han]))
               · skip
                 have G:=dnT hdn hbk [5,9] (by decide +kernel)
                 simp only [allB,and_true] at G
                 (simp only [go_sem,ro15F,ro15R,upd,vI,cond_true,cond_false,if_true,Bool.false_eq_true,if_false,hbk,G,hEl,hh,ha,hhn,han])
                 all_goals (refine zj [] ?_ ?_ <;> (simp only [go_sem,ro15F,ro15R,upd,vI,cond_true,cond_false,if_true,Bool.false_eq_true,if_false,hbk,G,hEl,hh,ha,hhn,han]))
               · skip
                 have H:=upT hdn hde [4] (by decide +kernel)
                 have G:=dnT hdn hbk [9] (by decide +kernel)
                 simp only [allB,and_true] at H G
                 (simp only [go_sem,ro15F,ro15R,upd,vI,cond_true,cond_false,if_true,Bool.false_eq_true,if_false,hbk,H,G,hEl,hh,ha,hhn,han])
                 all_goals (refine zj [] ?_ ?_ <;> (simp only [go_sem,ro15F,ro15R,upd,vI,cond_true,cond_false,if_true,Bool.false_eq_true,if_false,hbk,H,G,hEl,hh,ha,hhn,han]))
               · skip
                 have G:=dnT hdn hbk [7,9] (by decide +kernel)
                 simp only [allB,and_true] at G
                 (simp only [go_sem,ro15F,ro15R,upd,vI,cond_true,cond_false,if_true,Bool.false_eq_true,if_false,hbk,G,hEl,hh,ha,hhn,han])
                 all_goals (refine zj [] ?_ ?_ <;> (simp only [go_sem,ro15F,ro15R,upd,vI,cond_true,cond_false,if_true,Bool.false_eq_true,if_false,hbk,G,hEl,hh,ha,hhn,han]))
               · skip
                 have H:=upT hdn hde [6] (by decide +kernel)
                 have G:=dnT hdn hbk [9] (by decide +kernel)
                 simp only [allB,and_true] at H G
                 (simp only [go_sem,ro15F,ro15R,upd,vI,cond_true,cond_false,if_true,Bool.false_eq_true,if_false,hbk,H,G,hEl,hh,ha,hhn,han])
                 all_goals (refine zj [] ?_ ?_ <;> (simp only [go_sem,ro15F,ro15R,upd,vI,cond_true,cond_false,if_true,Bool.false_eq_true,if_false,hbk,H,G,hEl,hh,ha,hhn,han]))
               · skip
                 have G:=dnT hdn hbk [9] (by decide +kernel)
                 simp only [allB,and_true] at G
                 (simp only [go_sem,ro15F,ro15R,upd,vI,cond_true,cond_false,if_true,Bool.false_eq_true,if_false,hbk,G,hEl,hh,ha,hhn,han])
                 all_goals (refine zj [] ?_ ?_ <;> (simp only [go_sem,ro15F,ro15R,upd,vI,cond_true,cond_false,if_true,Bool.false_eq_true,if_false,hbk,G,hEl,hh,ha,hhn,han]))
               · skip
                 have H:=upT hdn hde [3,5,7,8,0,2,4,6,1] (by decide +kernel)
                 simp only [allB,and_true] at H
                 (simp only [go_sem,ro15F,ro15R,upd,vI,cond_true,cond_false,if_true,Bool.false_eq_true,if_false,hbk,H,hEl,hh,ha,hhn,han])
                 all_goals (refine xcall_mut (add_ok E1 a (rowT r (l.take k) a) m.g m.f (ptsV r (resV m)).2 hra1 hsa (by omega) (by omega) (by omega)) [(1000,12)] rfl (by simp only [go_sem,i64,ints]) (by simp only [go_sem,i64,ints]) (by rfl) (by rfl) ?_; simp only [go_sem,hEl,hh,ha,hhn,han])
                 all_goals (refine zj [] ?_ ?_ <;> (simp only [go_sem,ro15F,ro15R,upd,vI,cond_true,cond_false,if_true,Bool.false_eq_true,if_false,hbk,H,hEl,hh,ha,hhn,han]))
             intro b vs hb
             simp only [go_sem,ro15F,ro15R,vI,hb,if_true,cond_true]
             refine ⟨(),zj [] ?_ ?_⟩
             · try simp only [go_sem]
             · simp only [go_sem,hstep]
           · have hmp : m.p = false:=by simpa using hc
             refine zx ?_
             try simp only [go_sem]
             refine ⟨(),zj [] ?_ ?_⟩
             · try simp only [go_sem]
             · try simp only [go_sem]
               rw [rows_skip hm hmp]
         intro _ vs _
         repeat refine zq ?_
         refine zb fun K hK=>?_;simp only [go_sem];(try simp (disch:=omega) only [zI]);repeat first | intro _ | refine ⟨by omega,?_⟩
         refine hK _ ?_;clear hK K
         try simp only [go_sem]
         refine ⟨by omega,zj [] ?_ ?_⟩
         · try simp only [go_sem]
         · try simp only [go_sem]
       · have hkl : k = l.length:=by omega
         subst hkl
         rw [List.take_length]
         refine zf ?_;simp only [go_sem]
         have hrl : ((List.range (nT r)).map (rowT r l)).length = nT r:=by simp
         refine zw (sub_frz 3 12 (ty:=125) (sz:=8) (off:=0) (m:=nT r) (es:=((List.range (nT r)).map (rowT r l)).map rwR) (by omega) rfl (by rfl) (by simp)) ?_
         have e2 : ((((List.range (nT r)).map (rowT r l)).map rwR).drop 0).take (nT r) = ((List.range (nT r)).map (rowT r l)).map rwR:=by
          rw [List.drop_zero,List.take_of_length_le (by simp)]
         rw [e2]
         refine zw (zk [3]) ?_;simp only [go_sem]
         repeat refine zq ?_
         refine zb fun K hK=>?_;simp only [go_sem];(try simp (disch:=omega) only [zI]);repeat first | intro _ | refine ⟨by omega,?_⟩
         refine hK _ ?_;clear hK K;refine zw (zk [2]) ?_;simp only [go_sem];refine ze ?_;simp only [go_sem]
         rfl
def cmpI (x y : Int) : Int:=if x < y then -1 else if y < x then 1 else 0
theorem nan_ok (n : Int) : ACalls Try.prog 207 [i64 n] (.bo false):=by
 refine acalls_st (rs:=[.bo false]) [.tmp 2] Try.func207 rfl (by kernel_rfl) Try.ntmps207 rfl (by simp) rfl fun C vs=>?_
 repeat refine zq ?_
 refine zb fun K hK=>?_;simp only [go_sem];(try simp (disch:=omega) only [zI]);repeat first | intro _ | refine ⟨by omega,?_⟩
 refine hK _ ?_;clear hK K
 repeat refine zq ?_
 refine zb fun K hK=>?_;simp only [go_sem];(try simp (disch:=omega) only [zI]);repeat first | intro _ | refine ⟨by omega,?_⟩
 refine hK _ ?_;clear hK K;refine ze ?_;simp only [go_sem]
 simp
theorem compareI_ok (x y : Int) : ACalls Try.prog 149 [i64 x,i64 y] (i64 (cmpI x y)):=by
 refine acalls_st (rs:=[i64 (cmpI x y)]) [.tmp 4] Try.func149 rfl (by kernel_rfl) Try.ntmps149 rfl (by simp) rfl fun C vs=>?_
 repeat refine zq ?_
 refine zb fun K hK=>?_;simp only [go_sem];(try simp (disch:=omega) only [zI]);repeat first | intro _ | refine ⟨by omega,?_⟩
 refine hK _ ?_;clear hK K
 repeat refine zq ?_
 refine zb fun K hK=>?_;simp only [go_sem];(try simp (disch:=omega) only [zI])
 refine zh (nan_ok x) rfl (by simp only [go_sem,i64,ints]) (by simp only [go_sem,i64,ints]) (by first | exact .inl rfl | exact .inr rfl) ?_
 (try simp only [go_sem]);(try simp (disch:=omega) only [zI]);repeat first | intro _ | refine ⟨by omega,?_⟩
 refine hK _ ?_;clear hK K
 repeat refine zq ?_
 refine zb fun K hK=>?_;simp only [go_sem];(try simp (disch:=omega) only [zI])
 refine zh (nan_ok y) rfl (by simp only [go_sem,i64,ints]) (by simp only [go_sem,i64,ints]) (by first | exact .inl rfl | exact .inr rfl) ?_
 (try simp only [go_sem]);(try simp (disch:=omega) only [zI]);repeat first | intro _ | refine ⟨by omega,?_⟩
 refine hK _ ?_;clear hK K
 repeat refine zq ?_
 refine zb fun K hK=>?_;simp only [go_sem];(try simp (disch:=omega) only [zI]);repeat first | intro _ | refine ⟨by omega,?_⟩
 refine hK _ ?_;clear hK K
 repeat refine zq ?_
 refine zc rfl (fun hc=>?_) (fun hc=>?_) <;> (try simp only [go_sem] at hc)
 refine zx ?_
 try simp only [go_sem]
 repeat refine zq ?_
 refine zb fun K hK=>?_;simp only [go_sem];(try simp (disch:=omega) only [zI]);repeat first | intro _ | refine ⟨by omega,?_⟩
 refine hK _ ?_;clear hK K
 repeat refine zq ?_
 refine zc rfl (fun hc=>?_) (fun hc=>?_) <;> (try simp only [go_sem] at hc)
 refine zx ?_
 try simp only [go_sem]
 repeat refine zq ?_
 refine zb fun K hK=>?_;simp only [go_sem];(try simp (disch:=omega) only [zI]);repeat first | intro _ | refine ⟨by omega,?_⟩
 refine hK _ ?_;clear hK K
 repeat refine zq ?_
 refine zc rfl (fun hc=>?_) (fun hc=>?_) <;> (try simp only [go_sem] at hc)
 · repeat refine zq ?_
   refine zb fun K hK=>?_;simp only [go_sem];(try simp (disch:=omega) only [zI]);repeat first | intro _ | refine ⟨by omega,?_⟩
   refine hK _ ?_;clear hK K;refine ze ?_;simp only [go_sem]
   simp [cmpI,hc]
 refine zx ?_
 try simp only [go_sem]
 repeat refine zq ?_
 refine zb fun K hK=>?_;simp only [go_sem];(try simp (disch:=omega) only [zI]);repeat first | intro _ | refine ⟨by omega,?_⟩
 refine hK _ ?_;clear hK K
 have h1:=hc
 repeat refine zq ?_
 refine zc rfl (fun hc=>?_) (fun hc=>?_) <;> (try simp only [go_sem] at hc)
 · repeat refine zq ?_
   refine zb fun K hK=>?_;simp only [go_sem];(try simp (disch:=omega) only [zI]);repeat first | intro _ | refine ⟨by omega,?_⟩
   refine hK _ ?_;clear hK K;refine ze ?_;simp only [go_sem]
   have : ¬ x < y:=by omega
   simp [cmpI,hc,this]
 refine zx ?_
 try simp only [go_sem]
 repeat refine zq ?_
 refine zb fun K hK=>?_;simp only [go_sem];(try simp (disch:=omega) only [zI]);repeat first | intro _ | refine ⟨by omega,?_⟩
 refine hK _ ?_;clear hK K;refine ze ?_;simp only [go_sem]
 have h2 : ¬ x < y:=by omega
 have h3 : ¬ y < x:=by omega
 simp [cmpI,h2,h3]
def orV : List Int → Int
 | []=>0
 | x :: l=>if x ≠ 0 then x else orV l
theorem or_ok (l : List Int) : ACalls Try.prog 148 [ints l] (i64 (orV l)):=by
 refine acalls_st (rs:=[i64 (orV l)]) [.tmp 2] Try.func148 rfl (by kernel_rfl) Try.ntmps148 rfl (by simp) rfl fun C vs=>?_
 repeat refine zq ?_
 refine zb fun K hK=>?_;simp only [go_sem];(try simp (disch:=omega) only [zI]);repeat first | intro _ | refine ⟨by omega,?_⟩
 refine hK _ ?_;clear hK K
 repeat refine zq ?_
 refine zb fun K hK=>?_;simp only [go_sem];(try simp (disch:=omega) only [zI]);repeat first | intro _ | refine ⟨by omega,?_⟩
 refine hK _ ?_;clear hK K
 repeat refine zq ?_
 refine zb fun K hK=>?_;simp only [go_sem];(try simp (disch:=omega) only [zI])
 intro hl7
 repeat first | intro _ | refine ⟨by omega,?_⟩
 refine hK _ ?_;clear hK K;refine zw (zk [3,6,7,8]) ?_;simp only [go_sem]
 repeat refine zq ?_
 refine zd ?_
 refine awp_upto (n:=18) l.length (fun i vs=>[(3,.r (i64 0)),(6,.r (ints l)),(7,.r (i64 (l.length : Int))),(8,.r (i64 (i : Int)))])
  (fun i=>[]) (fun i=>orV l = orV (l.drop i)) 0 (fit_of [] ?_ ?_) (Nat.zero_le _) rfl ?_
 · try simp only [go_sem]
 · try simp only [go_sem]
 · intro i vs hi hI
   repeat refine zq ?_
   refine zb fun K hK=>?_;simp only [go_sem];(try simp (disch:=omega) only [zI]);repeat first | intro _ | refine ⟨by omega,?_⟩
   refine hK _ ?_;clear hK K;refine zw (zk [3,6,7,8,9]) ?_;simp only [go_sem]
   repeat refine zq ?_
   refine zc rfl (fun hc=>?_) (fun hc=>?_) <;> (try simp only [go_sem] at hc)
   · have hci : i < l.length:=by omega
     obtain ⟨x,hx⟩:=opt_of_lt hci
     rw [drop_of_opt hx] at hI
     refine zx ?_
     try simp only [go_sem]
     repeat refine zq ?_
     refine zd ?_
     repeat refine zq ?_
     refine zb fun K hK=>?_;simp only [go_sem,hx,hci];(try simp (disch:=omega) only [zI]);repeat first | intro _ | refine ⟨by omega,?_⟩
     refine hK _ ?_;clear hK K;refine zw (zk [3,5,6,7,8]) ?_;simp only [go_sem]
     repeat refine zq ?_
     refine zb fun K hK=>?_;simp only [go_sem];(try simp (disch:=omega) only [zI]);repeat first | intro _ | refine ⟨by omega,?_⟩
     refine hK _ ?_;clear hK K;refine zw (zk [3,5,6,7,8,14]) ?_;simp only [go_sem]
     repeat refine zq ?_
     refine zc rfl (fun hc=>?_) (fun hc=>?_) <;> (try simp only [go_sem] at hc)
     · repeat refine zq ?_
       refine zb fun K hK=>?_;simp only [go_sem];(try simp (disch:=omega) only [zI]);repeat first | intro _ | refine ⟨by omega,?_⟩
       refine hK _ ?_;clear hK K;refine ze ?_;simp only [go_sem]
       have : x ≠ 0:=by simpa using hc
       rw [hI,orV,if_pos this]
     · refine zx ?_
       try simp only [go_sem]
       repeat refine zq ?_
       refine zb fun K hK=>?_;simp only [go_sem];(try simp (disch:=omega) only [zI]);repeat first | intro _ | refine ⟨by omega,?_⟩
       refine hK _ ?_;clear hK K
       try simp only [go_sem]
       refine ⟨hci,?_,fit_of [] ?_ ?_⟩
       · have : ¬ x ≠ 0:=by simpa using hc
         rw [hI,orV,if_neg this]
       · try simp only [go_sem]
       · try simp only [go_sem]
   · refine zf ?_;simp only [go_sem]
     have : l.drop i = []:=List.drop_eq_nil_of_le (by omega)
     repeat refine zq ?_
     refine zb fun K hK=>?_;simp only [go_sem];(try simp (disch:=omega) only [zI]);repeat first | intro _ | refine ⟨by omega,?_⟩
     refine hK _ ?_;clear hK K;refine ze ?_;simp only [go_sem]
     rw [hI,this]; rfl
def cmpW (a b : Rw) : Int:=orV [cmpI b.pts a.pts,cmpI (b.f - b.g) (a.f - a.g),cmpI b.f a.f,cmpI a.team b.team]
theorem compare_ok (a b : Rw) (ha : SmallW 200 a) (hb : SmallW 200 b) : ACalls Try.prog 82 [.ag (rwR a),.ag (rwR b)] (i64 (cmpW a b)):=by
 have a1:=ha.f
 have a2:=ha.g
 have b1:=hb.f
 have b2:=hb.g
 have w1 : IntKind.i64.wrap (b.f - b.g) = b.f - b.g:=by rw [zI] <;> omega
 have w2 : IntKind.i64.wrap (a.f - a.g) = a.f - a.g:=by rw [zI] <;> omega
 refine acalls_st (rs:=[i64 (cmpW a b)]) [.tmp 4] Try.func82 rfl (by kernel_rfl) Try.ntmps82 rfl (by simp) rfl fun C vs=>?_
 repeat refine zq ?_
 refine zb fun K hK=>?_;simp only [go_sem];(try simp (disch:=omega) only [zI]);repeat first | intro _ | refine ⟨by omega,?_⟩
 refine hK _ ?_;clear hK K;refine zw (sub_frzP 2 2 (rwR a) (by omega) rfl rfl) ?_;refine zw (sub_frzP 3 3 (rwR b) (by omega) rfl rfl) ?_;refine zw (zk [2,3]) ?_;simp only [go_sem]
 repeat refine zq ?_
 refine zg follows (by decide +kernel) (by kernel_rfl) fun K hK=>?_;simp only [go_sem,w1,w2];(try simp (disch:=omega) only [zI])
 refine zh (compareI_ok b.pts a.pts) rfl (by simp only [go_sem,i64,ints,w1,w2]) (by simp only [go_sem,i64,ints,w1,w2]) (by first | exact .inl rfl | exact .inr rfl) ?_
 (try simp only [go_sem,w1,w2]);(try simp (disch:=omega) only [zI])
 refine zh (compareI_ok (b.f - b.g) (a.f - a.g)) rfl (by simp only [go_sem,i64,ints,w1,w2]) (by simp only [go_sem,i64,ints,w1,w2]) (by first | exact .inl rfl | exact .inr rfl) ?_
 (try simp only [go_sem,w1,w2]);(try simp (disch:=omega) only [zI])
 refine zh (compareI_ok b.f a.f) rfl (by simp only [go_sem,i64,ints,w1,w2]) (by simp only [go_sem,i64,ints,w1,w2]) (by first | exact .inl rfl | exact .inr rfl) ?_
 (try simp only [go_sem,w1,w2]);(try simp (disch:=omega) only [zI])
 refine zh (compareI_ok a.team b.team) rfl (by simp only [go_sem,i64,ints,w1,w2]) (by simp only [go_sem,i64,ints,w1,w2]) (by first | exact .inl rfl | exact .inr rfl) ?_
 (try simp only [go_sem,w1,w2]);(try simp (disch:=omega) only [zI])
 refine zh (or_ok [cmpI b.pts a.pts,cmpI (b.f - b.g) (a.f - a.g),cmpI b.f a.f,cmpI a.team b.team]) rfl (by simp only [go_sem,i64,ints]) (by simp only [go_sem,i64,ints]) (by first | exact .inl rfl | exact .inr rfl) ?_
 (try simp only [go_sem]);(try simp (disch:=omega) only [zI]);repeat first | intro _ | refine ⟨by omega,?_⟩
 refine hK _ ?_;clear hK K;refine zw (zk [4]) ?_;simp only [go_sem];refine ze ?_;simp only [go_sem]
 rfl
end Go.Proofs.Ytlljkgiomkmjbaa.Tb

/- Part 6 of the texts of this claim. -/
import Derived.Test.YtgkejinoaommeaaVC5
namespace Go.Proofs.Ytgkejinoaommeaa
open Go Go.Oc
set_option linter.unusedSimpArgs false
set_option linter.unusedVariables false
set_option maxRecDepth 8000
abbrev u8s (l : List Int) : RV:=.sl 1 (l.map fun x=>[.it .u8 x])
def byteL (l : List Int) (i : Nat) : Int:=if l = [] then 0 else l.getD (i % l.length) 0
def beds13 : List Int:=[0,101,105,112,120,125,205,220,225,301,305,312,320]
def bedT (k : Nat) : Int:=beds13.getD k 0
structure Lw where
 which : List Int
 low : List Int
 more : List Int
 rest : Int
structure WfLw (x : Lw) : Prop where
 which : ∀ n ∈ x.which,0 ≤ n ∧ n ≤ 65535
 low : ∀ n ∈ x.low,0 ≤ n ∧ n ≤ 255
 more : ∀ n ∈ x.more,0 ≤ n ∧ n ≤ 255
 rest : 0 ≤ x.rest ∧ x.rest ≤ 255
theorem byteL_le {l : List Int} (h : ∀ n ∈ l,0 ≤ n ∧ n ≤ 255) (i : Nat) : 0 ≤ byteL l i ∧ byteL l i ≤ 255:=by
 unfold byteL
 split
 · omega
 · rename_i hne
   have hlt : i % l.length < l.length:=Nat.mod_lt _ (List.length_pos_iff.2 hne)
   rw [List.getD_eq_getElem?_getD,List.getElem?_eq_getElem hlt]
   exact h _ (List.getElem_mem _)
def hasB (w : Int) (k : Nat) : Bool:=bitAnd IntKind.u16 (shrI IntKind.u16 w (IntKind.u64.wrap (k : Int))) 1 == 1
def addM (x : Lw) (most w : Int) (k : Nat) (p : List Bd × Nat) : List Bd × Nat :=
 if p.1.length < 10 ∧ (hasB w k = true ∨ (k = 12 ∧ p.1.length = 0)) then
  (p.1 ++ [⟨bedT k,byteL x.low p.2 % (most + 1),byteL x.low p.2 % (most + 1) + byteL x.more p.2 % (most + 1)⟩],p.2 + 1) else p
def iterM (x : Lw) (most w : Int) (n : Nat) : Nat → List Bd × Nat
 | 0=>([],n)
 | k + 1=>addM x most w k (iterM x most w n k)
def nM (x : Lw) (most : Int) : Nat → Nat
 | 0=>0
 | i + 1=>(iterM x most (x.which.getD i 0) (nM x most i) 13).2
def bedsM (x : Lw) (most : Int) (i : Nat) : List Bd:=(iterM x most (x.which.getD i 0) (nM x most i) 13).1
def atM (i : Nat) : Int:=bedT (1 + i % 12)
def cntM (x : Lw) : Nat:=min 6 x.which.length
theorem bedT_lt {j k : Nat} (h : j < k) (hk : k < 13) : bedT j < bedT k:=by
 have : ∀ k,k < 13 → ∀ j,j < k → bedT j < bedT k:=by decide
 exact this k hk j h
theorem bedT_ok {k : Nat} (hk : k < 13) : bedT k = 0 ∨ bedOk (bedT k) = true:=by
 have : ∀ k,k < 13 → (bedT k = 0 ∨ bedOk (bedT k) = true):=by decide
 exact this k hk
theorem atM_ok (i : Nat) : bedOk (atM i) = true:=by
 have : ∀ k,k < 12 → bedOk (bedT (1 + k)) = true:=by decide
 exact this _ (Nat.mod_lt _ (by omega))
structure IterI (most : Int) (k : Nat) (l : List Bd) : Prop where
 len : l.length ≤ 10
 each : ∀ c ∈ l,(∃ j,j < k ∧ c.b = bedT j) ∧ 0 ≤ c.lo ∧ c.lo ≤ most ∧ c.lo ≤ c.hi ∧ c.hi ≤ 2 * most
 up : l.Pairwise fun a b=>a.b < b.b
theorem iterM_ok {x : Lw} (hx : WfLw x) {most : Int} (hm : 0 ≤ most) (w : Int) (n : Nat) : ∀ k,k ≤ 13 → IterI most k (iterM x most w n k).1
 | 0,_=>⟨by simp [iterM],by simp [iterM],by simp [iterM]⟩
 | k + 1, hk => by
   have ih:=iterM_ok hx hm w n k (by omega)
   simp only [iterM,addM]
   split
   · rename_i h
     have l1:=Int.emod_nonneg (byteL x.low (iterM x most w n k).2) (show most + 1 ≠ 0 by omega)
     have l2:=Int.emod_lt_of_pos (byteL x.low (iterM x most w n k).2) (show 0 < most + 1 by omega)
     have m1:=Int.emod_nonneg (byteL x.more (iterM x most w n k).2) (show most + 1 ≠ 0 by omega)
     have m2:=Int.emod_lt_of_pos (byteL x.more (iterM x most w n k).2) (show 0 < most + 1 by omega)
     refine ⟨by simp; omega,fun c hc=>?_,?_⟩
     · rcases List.mem_append.1 hc with hc | hc
       · obtain ⟨⟨j,j1,j2⟩,h2⟩:=ih.each c hc
         exact ⟨⟨j,by omega,j2⟩,h2⟩
       · rw [List.mem_singleton] at hc
         subst hc
         refine ⟨⟨k,by omega,rfl⟩,l1,?_,?_,?_⟩ <;> simp only <;> omega
     · refine List.pairwise_append.2 ⟨ih.up,by simp,fun a ha b hb=>?_⟩
       rw [List.mem_singleton] at hb
       subst hb
       obtain ⟨⟨j,j1,j2⟩,_⟩:=ih.each a ha
       rw [j2]
       exact bedT_lt j1 (by omega)
   · exact ⟨ih.len,fun c hc=>by
      obtain ⟨⟨j,j1,j2⟩,h2⟩:=ih.each c hc
      exact ⟨⟨j,by omega,j2⟩,h2⟩,ih.up⟩
theorem iterM_n (x : Lw) (most w : Int) (n : Nat) : ∀ k,(iterM x most w n k).2 ≤ n + k
 | 0=>Nat.le_refl _
 | k + 1 => by
   have ih:=iterM_n x most w n k
   simp only [iterM,addM]
   split
   · simp only; omega
   · omega
theorem nM_le (x : Lw) (most : Int) : ∀ i,nM x most i ≤ 13 * i
 | 0=>Nat.le_refl _
 | i + 1 => by
   have ih:=nM_le x most i
   have:=iterM_n x most (x.which.getD i 0) (nM x most i) 13
   simp only [nM]; omega
theorem iterM_full {x : Lw} {most w : Int} {n k : Nat} (h : ¬ (iterM x most w n k).1.length < 10) : ∀ d,iterM x most w n (k + d) = iterM x most w n k
 | 0=>rfl
 | d + 1 => by
   have ih:=iterM_full h d
   show addM x most w (k + d) (iterM x most w n (k + d)) = _
   rw [ih]
   unfold addM
   rw [if_neg fun hh=>h hh.1]
theorem bedsM_ne (x : Lw) (most : Int) (i : Nat) : 1 ≤ (bedsM x most i).length:=by
 unfold bedsM
 show 1 ≤ (addM x most _ 12 (iterM x most _ _ 12)).1.length
 unfold addM
 split
 · simp
 · rename_i h
   by_cases h0 : (iterM x most (x.which.getD i 0) (nM x most i) 12).1.length = 0
   · exact absurd ⟨by omega,.inr ⟨rfl,h0⟩⟩ h
   · omega
def rawM (x : Lw) (most : Int) : List Am:=if cntM x = 0 then [⟨320,[⟨320,x.rest,x.rest⟩]⟩] else (List.range (cntM x)).map fun i=>⟨atM i,bedsM x most i⟩
def sumsM (l : List Am) : Int:=l.foldl (fun d a=>max d (loS a.beds)) 0
def denM (x : Lw) (most : Int) : Int:=max 1 (sumsM (rawM x most) + x.rest % 20)
def capB (den : Int) (l : List Bd) : List Bd:=l.map fun c=>⟨c.b,c.lo,min c.hi den⟩
def raiseB (den : Int) (l : List Bd) (k : Nat) : List Bd :=
 if hiS l < den then l.set k ⟨(l.getD k ⟨0,0,0⟩).b,(l.getD k ⟨0,0,0⟩).lo,min den ((l.getD k ⟨0,0,0⟩).hi + den - hiS l)⟩ else l
def raiseN (den : Int) (l : List Bd) : Nat → List Bd
 | 0=>l
 | k + 1=>raiseB den (raiseN den l k) k
def restK (x : Lw) (l : List Bd) : Nat:=x.rest.toNat % l.length
def fixM (x : Lw) (den : Int) (l : List Bd) : List Bd:=raiseN den (raiseB den (capB den l) (restK x l)) l.length
def aimsM (x : Lw) (most : Int) : List Am:=(rawM x most).map fun a=>⟨a.at_,fixM x (denM x most) a.beds⟩
end Go.Proofs.Ytgkejinoaommeaa

namespace Go.Oc
open Go Go.RowKit
set_option linter.unusedVariables false
set_option linter.unusedSimpArgs false
section
variable {P : Program} {C : Ctx} {s : AS} {Q : Exit → AS → Prop}
variable {n : Nat} {l : List (Nat × AV)} {vs : Nat → Nat} {cs : List (Nat × RowC)}
end
def entOk (ops : Array Oper) (x y : Oper) : Bool :=
 match x.op,y.op with
 | .lookup t (.tmp p) (.tmp q) false,.mapEntry t' (.tmp p') (.tmp q')=>t == t' && p == p' && q == q' && x.guard.isNone && y.guard.isNone && x.apart ops y
 | _,_=>false
section
variable {P : Program} {s : AS} {ops : Array Oper}
def pairE (ops : Array Oper) (x y : Oper) : Bool:=okPair ops x y || entOk ops x y
def lexOkE (ops : Array Oper) : Bool :=
 (List.range ops.size).all fun i=>(deps ops i).all (fun e=>decide (e < i)) &&
  (List.range ops.size).all fun j=>!decide (i < j) || waits ops ops.size j i ||
   (match ops[i]?,ops[j]? with | some x,some y=>pairE ops x y | _,_=>true)
end
end Go.Oc

namespace Go.Oc
open Go Go.RowKit
set_option linter.unusedVariables false
set_option linter.unusedSimpArgs false
def sBuildOwn (P : Program) (s : AS) (d : Nat) (t : TypeId) (len : Nat) (parts : List (Nat × AV)) : Res :=
 match tyq P t with
 | some ⟨.slice e esz _ ez, _, _, _⟩ =>
   if len = 0 then .bad else
   match layE s.ver esz (List.replicate len ez) parts with
   | some es=>⟨0 < esz ∧ len * esz ≤ 16777216 ∧ d < 1000,True,⟨.os d ((s.rows d).ver + 1) esz 0 len,[(d,⟨(s.rows d).ver + 1,.arr e esz es⟩)]⟩⟩
   | none=>.bad
 | _=>.bad
section
variable {P : Program} {C : Ctx} {p : Plan} {s : AS} {a : Act} {w : World} {o : Oper}
theorem good_buildOwn {t : TypeId} {n : Nat} {ps : Array (Nat × Operand)} (h : SR C p s a w) (ho : o.op = .buildSlice t n ps) (hp : (sBuildOwn P s (o.dst.getD 0) t n (ps.toList.map fun (i,x)=>(i,s.ev x))).pre) :
 Done P C o s a w (sBuildOwn P s (o.dst.getD 0) t n (ps.toList.map fun (i,x)=>(i,s.ev x))):=by
 have hparts:=parts_rel h ps.toList
 unfold sBuildOwn at hp ⊢
 split at hp
 · rename_i e esz eb ez sz agg z e1
   obtain ⟨hu,hok,hsz,_,zv,hzv,hez⟩:=tyq_slice e1
   subst hsz
   obtain ⟨i,zval,hi,hzero,hcells,hz1,hzl⟩:=zeroOf_spec hzv
   split at hp
   · exact hp.elim
   · rename_i hn0
     rw [if_neg hn0]
     split at hp
     · rename_i es hlay
       obtain ⟨hpos,hmax,hd⟩ : 0 < P.cellsOf e ∧ n * P.cellsOf e ≤ 16777216 ∧ o.dst.getD 0 < 1000:=hp
       have hzc : zval.cells.size = P.cellsOf e:=by rw [← hzl,← hcells]; simp
       obtain ⟨cells',hf,hle,hl',hr,hr1⟩:=layE_rel (p:=p) (w:=w) _ (ps.toList.map fun x=>(x.1,a.eval x.2)) _ _ (madeCells zval.cells (n * P.cellsOf e)) hlay
        (by intro e he; rw [List.eq_of_mem_replicate he,hez,List.length_map,hzl])
        (by
         rw [← hzc,madeCells_list,hcells,hez]
         clear hlay hn0 ho hmax
         induction n with
         | zero=>simp [RV.relV]
         | succ n ih =>
           simp only [List.replicate_succ,List.flatten_cons]
           exact RV.relV_append (RV.relV_ofV1 w p.R zv) ih)
        (by
         rw [← hzc,madeCells_list,hcells]
         intro u hu
         obtain ⟨l,hl,hul⟩:=List.mem_flatten.1 hu
         rw [List.eq_of_mem_replicate hl] at hul
         exact hz1 u hul)
        hparts.1 hparts.2
       have hnl : es.length = n:=by rw [hle]; simp
       have hcl : cells'.size = n * P.cellsOf e:=by
        rw [← Array.length_toList,RV.relV_length hr]
        have : ∀ (es : List (List RV)),(∀ x ∈ es,x.length = P.cellsOf e) → es.flatten.length = es.length * P.cellsOf e:=by
         intro es
         induction es with
         | nil=>simp
         | cons x es ih =>
           intro h
           rw [List.flatten_cons,List.length_append,ih fun y hy=>h y (by simp [hy]),h x (by simp),List.length_cons,Nat.add_mul]
           omega
        rw [this es hl',hnl]
       have hnm : n ≤ 16777216:=Nat.le_trans (Nat.le_mul_of_pos_right n hpos) hmax
       have hn:=h.newRow (o.dst.getD 0) hd (.arr e (P.cellsOf e) es) rfl n (by simp only [maxLen]; omega) (.cells cells' e) (fun p' ver' hR hβ hγ hk=>by
        simp only [rowRel]
        rw [hγ]
        refine .inr ⟨_,_,hβ,heap_alloc_new w _,hcl,by rw [hnl]; exact Nat.le_refl _,?_⟩
        rw [hR]
        have hV : RV.relV (w.alloc (.cells cells' e)) p.R es.flatten cells'.toList :=
         RV.relV_mono (fun _ h=>h) (fun ad hr=>World.cell?_alloc_lt w _ ad (h.rb _ hr)) _ _ hr
        refine relE_of_vals hl' hV hr1 (fun j u hj=>?_)
        rw [add_at]
        simp only [Nat.zero_add,World.cell?_alloc_new]
        simpa using hj)
       refine ⟨_,.slice (some ⟨w.heap.size,0,none⟩) n n,_,_,?_,.inl rfl,trivial,by rw [rows_one]; exact hn,?_⟩
       · have hmap : (ps.map fun (x : Nat × Operand)=>(x.1,a.eval x.2)).toList = ps.toList.map fun x=>(x.1,a.eval x.2):=by simp
         have hne : ¬ (n * P.cellsOf e = 0):=by
          have:=Nat.mul_pos (show 0 < n by omega) hpos
          omega
         have hz : (zeroValue e).run P w = .ok zval w:=by simp [zeroValue,typeInfo,hi,hzero]
         have hf':=hf
         simp only [madeCells] at hf'
         simp only [execOp,ho,Instr.buildSlice,Sem.run_bind,run_underlying hu,Result.andThen_ok,run_sizeOf_ok hok,if_neg (show ¬ (n * P.cellsOf e > 2 ^ 24) by omega),if_neg hne,hz,Sem.run_pure,hmap,hf']
         simp [newRow]
       · rw [rows_one]
         simp only [AV.rel,vers,upd_same]
         exact ⟨Nat.le_refl _,fun _=>.inr ⟨_,_,rfl,by simp; rfl,by omega,fun _=>by simp⟩⟩
     · exact hp.elim
 · exact hp.elim
variable {Q : Exit → AS → Prop} {ops : Array Oper}
theorem sops_own {l : List Oper} {t : TypeId} {n : Nat} {ps : List (Nat × Operand)} {d : Nat} {ty : TypeId} {pos : String} {af : Array Edge} (hdn : d < s.n)
 (h : aR s (some d) (sBuildOwn P s d t n (evp s ps)) (fun s'=>sops P C ops l Q s')) : sops P C ops (⟨some d,.buildSlice t n ps.toArray,ty,pos,af,none⟩ :: l) Q s:=fun a w ⟨p,hs⟩=>by
 rw [← evp_eq] at h
 unfold wpListIn
 rw [if_pos (wantA_sound hs (by simp [wantA]))]
 refine wpIn_of_wp (by intro c h; cases h) ?_
 obtain ⟨nx,v,w',p',hrun,hnx,hass,hSR,hrel⟩:=good_buildOwn (o:=⟨some d,.buildSlice t n ps.toArray,ty,pos,af,none⟩) hs rfl h.1
 unfold Oper.wp
 rw [hrun]
 have hput:=hSR.put' (d:=some d) hrel (fun t ht=>by injection ht with ht; subst ht; exact hdn)
 rcases hnx with rfl | ⟨rfl,rfl⟩
 · exact h.2 hass _ _ ⟨p',hput⟩
 · exact h.2 hass _ _ ⟨p',hput⟩
end
end Go.Oc

namespace Go.Oc
open Go Go.RowKit
set_option linter.unusedVariables false
set_option linter.unusedSimpArgs false
section
variable {P : Program} {C : Ctx} {s : AS} {Q : Exit → AS → Prop}
variable {n : Nat} {l : List (Nat × AV)} {vs : Nat → Nat} {cs : List (Nat × RowC)}
end
end Go.Oc

namespace Go.Oc
open Go Go.RowKit
set_option linter.unusedVariables false
set_option linter.unusedSimpArgs false
mutual
def AV.park (k : Nat) (u : Addr) : AV → AV
 | .r x=>.r x
 | .pt j n off=>if j = k then (if off = 0 then .r (.vl u) else .r .un) else .pt j n off
 | .pe j n sz idx off=>if j = k then .r .un else .pe j n sz idx off
 | .os j n sz off m=>if j = k then .r .un else .os j n sz off m
 | .mp j n=>if j = k then .r .un else .mp j n
 | .mi j n=>if j = k then .r .un else .mi j n
 | .pu j n u'=>if j = k then .r (.vl u') else .pu j n u'
 | .fn f cs=>.fn f (AV.parkL k u cs)
 | .ag cs=>.ag (AV.parkL k u cs)
 | .tu cs=>.tu (AV.parkL k u cs)
def AV.parkL (k : Nat) (u : Addr) : List AV → List AV
 | []=>[]
 | x :: xs=>x.park k u :: AV.parkL k u xs
end
def RowC.park (k : Nat) (u : Addr) : RowC → RowC
 | .box cs=>.box (AV.parkL k u cs)
 | .ara t sz cs=>.ara t sz (AV.parkL k u cs)
 | .sus cs vs=>.sus (AV.parkL k u cs) vs
 | c=>c
section
variable {w : World} {p : Plan} {ver : Nat → Nat} {k b0 g0 : Nat}
mutual
theorem park_rel (hv : ver k = 0) (hβ : p.β k = some b0) : ∀ (x : AV) (v : Value),x.rel w p ver v → (x.park k ⟨b0,0,none⟩).rel w { p with β:=upd p.β k none,γ:=upd p.γ k 1 } ver v
 | .r x,v,h=>by simpa only [AV.park,AV.rel] using h
 | .pt j n off, v, h => by
   unfold AV.park
   split
   · rename_i e
     subst e
     split
     · rename_i e0
       subst e0
       simp only [AV.rel] at h
       obtain ⟨b,hb,hv'⟩:=h.2 (by omega)
       rw [hβ] at hb
       injection hb with hb
       subst hb
       simp only [AV.rel,RV.rel]
       exact hv'
     · exact AV.rel_un _ _ _ _
   · rename_i e
     simp only [AV.rel,upd_other _ _ e] at h ⊢
     exact h
 | .pe j n sz idx off, v, h => by
   unfold AV.park
   split
   · exact AV.rel_un _ _ _ _
   · rename_i e
     simp only [AV.rel,upd_other _ _ e] at h ⊢
     exact h
 | .os j n sz off m, v, h => by
   unfold AV.park
   split
   · exact AV.rel_un _ _ _ _
   · rename_i e
     simp only [AV.rel,upd_other _ _ e] at h ⊢
     exact h
 | .mp j n, v, h => by
   unfold AV.park
   split
   · exact AV.rel_un _ _ _ _
   · rename_i e
     simp only [AV.rel,upd_other _ _ e] at h ⊢
     exact h
 | .mi j n, v, h => by
   unfold AV.park
   split
   · exact AV.rel_un _ _ _ _
   · rename_i e
     simp only [AV.rel,upd_other _ _ e] at h ⊢
     exact h
 | .pu j n u', v, h => by
   unfold AV.park
   split
   · simp only [AV.rel] at h
     simp only [AV.rel,RV.rel]
     exact h.1
   · rename_i e
     simp only [AV.rel,upd_other _ _ e] at h ⊢
     exact h
 | .fn f cs, v, h => by
   simp only [AV.park,AV.rel] at h ⊢
   obtain ⟨vs,h1,h2⟩:=h
   exact ⟨vs,h1,parkL_rel hv hβ cs _ h2⟩
 | .ag cs, v, h => by
   simp only [AV.park,AV.rel] at h ⊢
   obtain ⟨vs,h1,h2,h3⟩:=h
   exact ⟨vs,h1,h2,parkL_rel hv hβ cs _ h3⟩
 | .tu cs, v, h => by
   simp only [AV.park,AV.rel] at h ⊢
   obtain ⟨vs,h1,h2⟩:=h
   exact ⟨vs,h1,parkL_rel hv hβ cs _ h2⟩
theorem parkL_rel (hv : ver k = 0) (hβ : p.β k = some b0) : ∀ (xs : List AV) (vs : List Value),AV.relV w p ver xs vs → AV.relV w { p with β:=upd p.β k none,γ:=upd p.γ k 1 } ver (AV.parkL k ⟨b0,0,none⟩ xs) vs
 | [],_,h=>by simpa only [AV.parkL,AV.relV] using h
 | x :: xs, vs, h => by
   simp only [AV.parkL,AV.relV] at h ⊢
   obtain ⟨u,us,h1,h2,h3⟩:=h
   exact ⟨u,us,h1,park_rel hv hβ x u h2,parkL_rel hv hβ xs us h3⟩
end
mutual
theorem unpark_rel (hv : ver k = 0) (hβ : p.β k = none) (hγ : p.γ k = 1) : ∀ (x : AV) (v : Value),x.rel w p ver v → x.rel w { p with β:=upd p.β k (some b0),γ:=upd p.γ k g0 } ver v
 | .r x,v,h=>by simpa only [AV.rel] using h
 | .pt j n off, v, h => by
   by_cases e : j = k
   · subst e
     simp only [AV.rel] at h
     obtain ⟨b,hb,_⟩:=h.2 (by omega)
     rw [hβ] at hb; cases hb
   · simp only [AV.rel,upd_other _ _ e] at h ⊢
     exact h
 | .pe j n sz idx off, v, h => by
   by_cases e : j = k
   · subst e
     simp only [AV.rel] at h
     obtain ⟨b,hb,_⟩:=h.2 (by omega)
     rw [hβ] at hb; cases hb
   · simp only [AV.rel,upd_other _ _ e] at h ⊢
     exact h
 | .os j n sz off m, v, h => by
   by_cases e : j = k
   · subst e
     simp only [AV.rel] at h
     rcases h.2 (by omega) with ⟨_,h1,_⟩ | ⟨b,_,hb,_⟩
     · rw [hγ] at h1; cases h1
     · rw [hβ] at hb; cases hb
   · simp only [AV.rel,upd_other _ _ e] at h ⊢
     exact h
 | .mp j n, v, h => by
   by_cases e : j = k
   · subst e
     simp only [AV.rel] at h
     obtain ⟨b,hb,_⟩:=h.2 (by omega)
     rw [hβ] at hb; cases hb
   · simp only [AV.rel,upd_other _ _ e] at h ⊢
     exact h
 | .mi j n, v, h => by
   by_cases e : j = k
   · subst e
     simp only [AV.rel] at h
     obtain ⟨b,hb,_⟩:=h.2 (by omega)
     rw [hβ] at hb; cases hb
   · simp only [AV.rel,upd_other _ _ e] at h ⊢
     exact h
 | .pu j n u', v, h => by
   by_cases e : j = k
   · subst e
     simp only [AV.rel] at h
     obtain ⟨b,hb,_⟩:=h.2.2 (by omega)
     rw [hβ] at hb; cases hb
   · simp only [AV.rel,upd_other _ _ e] at h ⊢
     exact h
 | .fn f cs, v, h => by
   simp only [AV.rel] at h ⊢
   obtain ⟨vs,h1,h2⟩:=h
   exact ⟨vs,h1,unparkL_rel hv hβ hγ cs _ h2⟩
 | .ag cs, v, h => by
   simp only [AV.rel] at h ⊢
   obtain ⟨vs,h1,h2,h3⟩:=h
   exact ⟨vs,h1,h2,unparkL_rel hv hβ hγ cs _ h3⟩
 | .tu cs, v, h => by
   simp only [AV.rel] at h ⊢
   obtain ⟨vs,h1,h2⟩:=h
   exact ⟨vs,h1,unparkL_rel hv hβ hγ cs _ h2⟩
theorem unparkL_rel (hv : ver k = 0) (hβ : p.β k = none) (hγ : p.γ k = 1) : ∀ (xs : List AV) (vs : List Value),AV.relV w p ver xs vs → AV.relV w { p with β:=upd p.β k (some b0),γ:=upd p.γ k g0 } ver xs vs
 | [],_,h=>by simpa only [AV.relV] using h
 | x :: xs, vs, h => by
   simp only [AV.relV] at h ⊢
   obtain ⟨u,us,h1,h2,h3⟩:=h
   exact ⟨u,us,h1,unpark_rel hv hβ hγ x u h2,unparkL_rel hv hβ hγ xs us h3⟩
end
theorem parkRow_rel (hv : ver k = 0) (hβ : p.β k = some b0) {j : Nat} (hj : j ≠ k) : ∀ (c : RowC),(∀ km n l cur,c = .mi km n l cur → km ≠ k) → rowRel w p ver j c → rowRel w { p with β:=upd p.β k none,γ:=upd p.γ k 1 } ver j (c.park k ⟨b0,0,none⟩)
 | .dead,_,h=>by simpa only [RowC.park,rowRel,upd_other _ _ hj] using h
 | .box cs, _, h => by
   simp only [RowC.park,rowRel,upd_other _ _ hj] at h ⊢
   obtain ⟨b,cells,t,h1,h2,h3,h4⟩:=h
   exact ⟨b,cells,t,h1,h2,parkL_rel hv hβ cs _ h3,h4⟩
 | .arr t sz es,_,h=>by simpa only [RowC.park,rowRel,upd_other _ _ hj] using h
 | .arc t sz es c,_,h=>by simpa only [RowC.park,rowRel,upd_other _ _ hj] using h
 | .ara t sz cs, _, h => by
   simp only [RowC.park,rowRel,upd_other _ _ hj] at h ⊢
   obtain ⟨b,cells,h1,h2,h3,l,rest,h4,h5,h6⟩:=h
   exact ⟨b,cells,h1,h2,h3,l,rest,h4,parkL_rel hv hβ cs _ h5,h6⟩
 | .mp m,_,h=>by simpa only [RowC.park,rowRel,upd_other _ _ hj] using h
 | .mpi m,_,h=>by simpa only [RowC.park,rowRel,upd_other _ _ hj] using h
 | .mpx m bs cl,_,h=>by simpa only [RowC.park,rowRel,upd_other _ _ hj] using h
 | .mem Φ,_,h=>by simpa only [RowC.park,rowRel,upd_other _ _ hj] using h
 | .mi km n left cur,hm,h=>by simpa only [RowC.park,rowRel,upd_other _ _ hj,upd_other _ _ (hm km n left cur rfl)] using h
 | .gh P l z left,_,h=>by simpa only [RowC.park,rowRel,upd_other _ _ hj] using h
 | .sus cs vs, _, h => by
   simp only [RowC.park,rowRel,upd_other _ _ hj] at h ⊢
   exact ⟨h.1,h.2.1,parkL_rel hv hβ cs _ h.2.2⟩
theorem unparkRow_rel (hv : ver k = 0) (hβ : p.β k = none) (hγ : p.γ k = 1) {j : Nat} (hj : j ≠ k) : ∀ (c : RowC),(∀ km n l cur,c = .mi km n l cur → km ≠ k) → rowRel w p ver j c → rowRel w { p with β:=upd p.β k (some b0),γ:=upd p.γ k g0 } ver j c
 | .dead,_,h=>by simpa only [rowRel,upd_other _ _ hj] using h
 | .box cs, _, h => by
   simp only [rowRel,upd_other _ _ hj] at h ⊢
   obtain ⟨b,cells,t,h1,h2,h3,h4⟩:=h
   exact ⟨b,cells,t,h1,h2,unparkL_rel hv hβ hγ cs _ h3,h4⟩
 | .arr t sz es,_,h=>by simpa only [rowRel,upd_other _ _ hj] using h
 | .arc t sz es c,_,h=>by simpa only [rowRel,upd_other _ _ hj] using h
 | .ara t sz cs, _, h => by
   simp only [rowRel,upd_other _ _ hj] at h ⊢
   obtain ⟨b,cells,h1,h2,h3,l,rest,h4,h5,h6⟩:=h
   exact ⟨b,cells,h1,h2,h3,l,rest,h4,unparkL_rel hv hβ hγ cs _ h5,h6⟩
 | .mp m,_,h=>by simpa only [rowRel,upd_other _ _ hj] using h
 | .mpi m,_,h=>by simpa only [rowRel,upd_other _ _ hj] using h
 | .mpx m bs cl,_,h=>by simpa only [rowRel,upd_other _ _ hj] using h
 | .mem Φ,_,h=>by simpa only [rowRel,upd_other _ _ hj] using h
 | .mi km n left cur,hm,h=>by simpa only [rowRel,upd_other _ _ hj,upd_other _ _ (hm km n left cur rfl)] using h
 | .gh P l z left,_,h=>by simpa only [rowRel,upd_other _ _ hj] using h
 | .sus cs vs, _, h => by
   simp only [rowRel,upd_other _ _ hj] at h ⊢
   exact ⟨h.1,h.2.1,unparkL_rel hv hβ hγ cs _ h.2.2⟩
end
def Parked (C : Ctx) (u : Addr) (us : List Value) : Prop :=
 ∃ b cells t,u = ⟨b,0,none⟩ ∧ us = cells.toList ∧ C.hd b ∧ C.w0.heap[b]? = some (.cells cells t (0,0)) ∧ ∀ v ∈ us,v.oneCell' = true
section
variable {P : Program} {C : Ctx} {p : Plan} {s : AS} {a : Act} {w : World} {Q : Exit → AS → Prop}
theorem parked_read {k : Nat} {rs : List RV} {u : Addr} {us : List Value} (h : SR C p s a w) (hc : (s.rows k).c = .sus (rs.map .r) us) (hP : Parked C u us) : ∃ b0,C.hd b0 ∧ RV.rel w (fun b=>p.R b ∨ b = b0) (.rp rs) (.pointer (some u)):=by
 obtain ⟨b,cells,t,rfl,rfl,hhd,hw0,h1⟩:=hP
 obtain ⟨g1,g2,g3,_⟩:=h.ex.hd b hhd
 have hb:=(h.base.block b g1 g2 g3).trans hw0
 have hr:=h.rw k
 rw [hc] at hr
 simp only [rowRel] at hr
 refine ⟨b,hhd,?_⟩
 simp only [RV.rel]
 refine ⟨_,rfl,.inr rfl,RV.relC_of_get fun i x hx=>?_⟩
 have hV : ∀ (rs : List RV) (us : List Value),AV.relV w p s.ver (rs.map .r) us → RV.relV w p.R rs us:=by
  intro rs
  induction rs with
  | nil=>intro us h; simpa only [List.map_nil,AV.relV,RV.relV] using h
  | cons r rs ih =>
    intro us h
    simp only [List.map_cons,AV.relV,AV.rel] at h
    simp only [RV.relV]
    obtain ⟨u,us',e,h2,h3⟩:=h
    exact ⟨u,us',e,h2,ih us' h3⟩
 obtain ⟨v,hv,hx'⟩:=RV.relV_get (hV rs _ hr.2.2) hx
 refine ⟨v,?_,h1 v (List.mem_of_getElem? hv),RV.rel_mono (fun _ h=>.inl h) (fun _ _=>rfl) _ _ hx'⟩
 rw [Nat.zero_add,add_at,Nat.zero_add,cell_of_row w b i cells t (0,0) hb]
 simpa using hv
theorem awp_park {c : Code} (k t0 : Nat) (u0 : Addr) (rs : List RV) (ht0 : s.tm t0 = .pu k 0 u0) (hX : C.X = XS.none) (hrd : C.rd = none) (hown : ∀ b,¬ C.own b) (hk : 1000 ≤ k) (hv : s.ver k = 0) (hc : (s.rows k).c = .box (rs.map .r)) (hcb : ∃ x,C.pin k = some x ∧ ∀ b,x.1 = some b → C.bor b)
 (h : ∀ us C2,(C2.rd = none ∧ C2.X = XS.none) ∧ (∀ b,¬ C2.own b) → Parked C2 u0 us → awp P C2 c (fun e s'=>s'.tm t0 = .r (.vl u0) ∧ s'.rows k = ⟨0,.sus (rs.map .r) us⟩ ∧ Q e ⟨s'.n,upd s'.tm t0 (.pu k 0 u0),upd s'.rows k ⟨0,.box (rs.map .r)⟩⟩)
  ⟨s.n,fun t=>(s.tm t).park k u0,fun j=>if j = k then ⟨0,.sus (rs.map .r) us⟩ else ⟨(s.rows j).ver,(s.rows j).c.park k u0⟩⟩) : awp P C c Q s:=by
 rintro a w ⟨p,hS⟩
 have hn : ∀ o w Ψ Θ,¬ C.X.X o w Ψ Θ:=fun o w Ψ Θ h=>by rw [hX] at h; exact h
 have hψ:=hS.ex.ψn hn
 have hrow:=hS.rw k
 rw [hc] at hrow
 simp only [rowRel] at hrow
 obtain ⟨b0,cells,ty,hβ,hheap,hcells,hone⟩:=hrow
 have hbor : C.bor b0:=by
  obtain ⟨x,hx,hxb⟩:=hcb
  exact hxb b0 ((hS.pn k x hx).1.symm.trans hβ)
 have hb0:=hS.ex.bo b0 (.inl hbor)
 have hu0 : u0 = ⟨b0,0,none⟩:=by
  have hx:=hS.tm t0
  rw [ht0] at hx
  simp only [AV.rel] at hx
  obtain ⟨b,hb,hbv⟩:=hx.2.2 hv.symm
  rw [hβ] at hb
  injection hb with hb
  subst hb
  have:=hx.1.symm.trans hbv
  injection this with this
  injection this
 subst hu0
 let C2 : Ctx:={ C with w0:=C.w0.putObj b0 (.cells cells ty (0,0)),bor:=fun b=>C.bor b ∧ b ≠ b0,hd:=fun b=>C.hd b ∨ b = b0,pin:=fun j=>if j = k then none else C.pin j }
 let p2 : Plan:={ p with β:=upd p.β k none,γ:=upd p.γ k 1 }
 have hsz0 : C2.w0.heap.size = C.w0.heap.size:=World.putObj_size
 have hkver : ∀ j,(if j = k then (⟨0,.sus (rs.map .r) cells.toList⟩ : Row) else ⟨(s.rows j).ver,(s.rows j).c.park k ⟨b0,0,none⟩⟩).ver = s.ver j:=fun j=>by
  split
  · rename_i e; subst e; exact hv.symm
  · rfl
 have hver : AS.ver ⟨s.n,fun t=>(s.tm t).park k ⟨b0,0,none⟩,fun j=>if j = k then ⟨0,.sus (rs.map .r) cells.toList⟩ else ⟨(s.rows j).ver,(s.rows j).c.park k ⟨b0,0,none⟩⟩⟩ = s.ver:=funext hkver
 have hβ2 : ∀ j b,p2.β j = some b → j ≠ k ∧ p.β j = some b ∧ b ≠ b0:=fun j b hb=>by
  have hb' : upd p.β k none j = some b:=hb
  by_cases e : j = k
  · subst e; rw [upd_same] at hb'; cases hb'
  · rw [upd_other _ _ e] at hb'
    exact ⟨e,hb',fun e2=>e (hS.ij j k b hb' (e2 ▸ hβ))⟩
 have hmi : ∀ j km n l cur,(s.rows j).c = .mi km n l cur → km ≠ k:=fun j km n l cur hj e=>by
  subst e
  have hr:=hS.rw j
  rw [hj] at hr
  simp only [rowRel] at hr
  obtain ⟨_,_,h2,_⟩:=hr
  have:=hS.lk j km n l cur hj (by omega)
  rw [hc] at this; cases this
 have hS2 : SR C2 p2 ⟨s.n,fun t=>(s.tm t).park k ⟨b0,0,none⟩,fun j=>if j = k then ⟨0,.sus (rs.map .r) cells.toList⟩ else ⟨(s.rows j).ver,(s.rows j).c.park k ⟨b0,0,none⟩⟩⟩ a w:={
  base:=⟨hS.base.os,hS.base.tape,hS.base.output,by rw [hsz0]; exact hS.base.size,fun j hj hjb hjo=>by
   rw [hsz0] at hj
   by_cases e : j = b0
   · subst e
     show _ = (C.w0.putObj j _).heap[j]?
     rw [hheap,World.putObj_heap_same hj]
   · show _ = (C.w0.putObj b0 _).heap[j]?
     rw [World.putObj_heap_other e]
     exact hS.base.block j hj (fun hb=>hjb ⟨hb,e⟩) hjo⟩
  r0:=hS.r0
  rn:=fun b hb=>by
   rcases hS.rn b hb with g | g | g
   · exact .inl g
   · exact .inr (.inl (by rw [hsz0]; exact g))
   · exact .inr (.inr g)
  rb:=hS.rb
  tm:=fun t=>by rw [hver]; exact park_rel hv hβ _ _ (hS.tm t)
  sz:=hS.sz
  ex:={
   px:=hS.ex.px
   n0:=by rw [hsz0]; exact hS.ex.n0
   ψ0:=hS.ex.ψ0
   ψl:=hS.ex.ψl
   θl:=hS.ex.θl
   ψb:=fun j b _=>hψ b
   ψr:=hS.ex.ψr
   ψo:=hS.ex.ψo
   θo:=fun b hb=>((hψ b).2 hb).elim
   bo:=fun b hb=>by rw [hsz0]; exact hS.ex.bo b (hb.imp (fun h=>h.1) id)
   ψn:=hS.ex.ψn
   hd:=fun b hb=>by
    rw [hsz0]
    rcases hb with hb | rfl
    · obtain ⟨g1,g2,g3,g4,g5,g6,g7,g8⟩:=hS.ex.hd b hb
      exact ⟨g1,fun h=>g2 h.1,g3,g4,g5,g6,g7,fun j hj=>g8 j (hβ2 j b hj).2.1⟩
    · exact ⟨hb0,fun h=>h.2 rfl,hown b,(hS.bl k b hβ).1,(hS.bl k b hβ).2.1,(hψ b).1,(hψ b).2,fun j hj=>(hβ2 j b hj).2.2 rfl⟩
   rm:=hS.ex.rm
   df:=by
    obtain ⟨Ds,g1,g2,g3⟩:=hS.ex.df
    refine ⟨Ds,g1,g2,fun D hD=>?_⟩
    obtain ⟨k1,k2,k3,k4,k5⟩:=g3 D hD
    exact ⟨k1,by rw [hsz0]; exact k2,k3,fun j hj=>k4 j (hβ2 j D hj).2.1,k5⟩ }
  rw:=fun j=>by
   rw [hver]
   show rowRel w p2 s.ver j (if j = k then (⟨0,.sus (rs.map .r) cells.toList⟩ : Row) else ⟨(s.rows j).ver,(s.rows j).c.park k ⟨b0,0,none⟩⟩).c
   split
   · rename_i e
     subst e
     simp only [rowRel]
     refine ⟨upd_same _ _ _,upd_same _ _ _,?_⟩
     have hV : ∀ (rs : List RV) (us : List Value),AV.relV w p s.ver (rs.map .r) us → AV.relV w p2 s.ver (rs.map .r) us:=by
      intro rs
      induction rs with
      | nil=>intro us h; simpa only [List.map_nil,AV.relV] using h
      | cons r rs ih =>
        intro us h
        simp only [List.map_cons,AV.relV,AV.rel] at h ⊢
        obtain ⟨u,us',e,h2,h3⟩:=h
        exact ⟨u,us',e,h2,ih us' h3⟩
     exact hV rs _ hcells
   · rename_i e
     exact parkRow_rel hv hβ e _ (fun km n l cur hj=>hmi j km n l cur hj) (hS.rw j)
  bl:=fun j b hb=>by
   obtain ⟨e1,e2,e3⟩:=hβ2 j b hb
   obtain ⟨g1,g2,g3⟩:=hS.bl j b e2
   refine ⟨g1,g2,?_⟩
   rw [hsz0]
   exact g3.imp id (fun h=>h.imp (fun h=>⟨h.1,h.2,e3⟩) id)
  ij:=fun i j b hi hj=>hS.ij i j b (hβ2 i b hi).2.1 (hβ2 j b hj).2.1
  cap:=fun j=>by
   show upd p.γ k 1 j ≤ maxLen
   unfold upd; split
   · simp [maxLen]
   · exact hS.cap j
  pn:=fun j x hx=>by
   have hx' : (if j = k then none else C.pin j) = some x:=hx
   split at hx'
   · cases hx'
   · rename_i e
     obtain ⟨g1,g2,g3,g4⟩:=hS.pn j x hx'
     rw [hver]
     exact ⟨(upd_other _ _ e).trans g1,(upd_other _ _ e).trans g2,g3,g4⟩
  lk:=fun j km n l cur hj hn=>by
   rw [hver] at hn
   have hj' : (if j = k then (⟨0,.sus (rs.map .r) cells.toList⟩ : Row) else ⟨(s.rows j).ver,(s.rows j).c.park k ⟨b0,0,none⟩⟩).c = .mi km n l cur:=hj
   split at hj'
   · cases hj'
   · have hj2 : (s.rows j).c = .mi km n l cur:=by
      generalize (s.rows j).c = c at hj'
      cases c <;> simp only [RowC.park] at hj' <;> first | exact hj' | cases hj'
     have hl:=hS.lk j km n l cur hj2 hn
     show (if km = k then (⟨0,.sus (rs.map .r) cells.toList⟩ : Row) else ⟨(s.rows km).ver,(s.rows km).c.park k ⟨b0,0,none⟩⟩).c.isMpi = true
     rw [if_neg (hmi j km n l cur hj2)]
     generalize (s.rows km).c = c at hl
     cases c <;> first | exact hl | cases hl }
 have hpk : Parked C2 ⟨b0,0,none⟩ cells.toList:=⟨b0,cells,ty,rfl,rfl,.inr rfl,World.putObj_heap_same hb0,hone⟩
 have hrun:=h _ C2 ⟨⟨hrd,hX⟩,hown⟩ hpk a w ⟨p2,hS2⟩
 refine wpIn_mono hrun ?_
 rintro e a' w' ⟨s',⟨p',hS'⟩,ht,hrk,hQ⟩
 refine ⟨_,⟨{ p' with β:=upd p'.β k (some b0),γ:=upd p'.γ k (p.γ k) },?_⟩,hQ⟩
 have hψ':=hS'.ex.ψn hn
 obtain ⟨q1,q2,q3,q4,q5,_,_,q8⟩:=hS'.ex.hd b0 (.inr rfl)
 have hheap' : w'.heap[b0]? = some (.cells cells ty (0,0)):=by
  have:=hS'.base.block b0 q1 q2 q3
  rw [this]
  exact World.putObj_heap_same hb0
 have hvk : s'.ver k = 0:=by show (s'.rows k).ver = 0; rw [hrk]
 have hrk':=hS'.rw k
 rw [hrk] at hrk'
 simp only [rowRel] at hrk'
 obtain ⟨hβk,hγk,hcells'⟩:=hrk'
 have hver' : AS.ver ⟨s'.n,upd s'.tm t0 (.pu k 0 ⟨b0,0,none⟩),upd s'.rows k ⟨0,.box (rs.map .r)⟩⟩ = s'.ver:=by
  funext j
  show (upd s'.rows k _ j).ver = (s'.rows j).ver
  unfold upd; split
  · rename_i e; subst e; exact hvk.symm
  · rfl
 have hβ3 : ∀ j b,upd p'.β k (some b0) j = some b → (j = k ∧ b = b0) ∨ (j ≠ k ∧ p'.β j = some b):=fun j b hb=>by
  by_cases e : j = k
  · subst e; rw [upd_same] at hb; injection hb with hb; exact .inl ⟨rfl,hb.symm⟩
  · rw [upd_other _ _ e] at hb; exact .inr ⟨e,hb⟩
 have hmi' : ∀ j km n l cur,(s'.rows j).c = .mi km n l cur → km ≠ k:=fun j km n l cur hj e=>by
  subst e
  have hr:=hS'.rw j
  rw [hj] at hr
  simp only [rowRel] at hr
  obtain ⟨_,_,h2,_⟩:=hr
  have:=hS'.lk j km n l cur hj (by omega)
  rw [hrk] at this; cases this
 exact {
  base:=⟨hS'.base.os,hS'.base.tape,hS'.base.output,by have:=hS'.base.size; rw [hsz0] at this; exact this,fun j hj hjb hjo=>by
   have hne : j ≠ b0:=fun e=>hjb (e ▸ hbor)
   refine (hS'.base.block j (by rw [hsz0]; exact hj) (fun hb=>hjb hb.1) hjo).trans ?_
   show (C.w0.putObj b0 _).heap[j]? = _
   rw [World.putObj_heap_other hne]⟩
  r0:=hS'.r0
  rn:=fun b hb=>by
   rcases hS'.rn b hb with g | g | g
   · exact .inl g
   · exact .inr (.inl (by rw [hsz0] at g; exact g))
   · exact .inr (.inr g)
  rb:=hS'.rb
  tm:=fun t=>by
   rw [hver']
   show AV.rel w' _ s'.ver (upd s'.tm t0 (.pu k 0 ⟨b0,0,none⟩) t) _
   by_cases e : t = t0
   · subst e
     rw [upd_same]
     have hx:=hS'.tm t
     rw [ht] at hx
     simp only [AV.rel,RV.rel] at hx ⊢
     exact ⟨hx,by omega,fun _=>⟨b0,upd_same _ _ _,hx⟩⟩
   · rw [upd_other _ _ e]
     exact unpark_rel hvk hβk hγk _ _ (hS'.tm t)
  sz:=hS'.sz
  ex:={
   px:=hS'.ex.px
   n0:=by have:=hS'.ex.n0; rw [hsz0] at this; exact this
   ψ0:=hS'.ex.ψ0
   ψl:=hS'.ex.ψl
   θl:=hS'.ex.θl
   ψb:=fun j b _=>hψ' b
   ψr:=hS'.ex.ψr
   ψo:=hS'.ex.ψo
   θo:=fun b hb=>((hψ' b).2 hb).elim
   bo:=hS.ex.bo
   ψn:=hS'.ex.ψn
   hd:=fun b hb=>by
    obtain ⟨g1,g2,g3,g4,g5,g6,g7,g8⟩:=hS'.ex.hd b (.inl hb)
    obtain ⟨_,g2',_⟩:=hS.ex.hd b hb
    refine ⟨by rw [hsz0] at g1; exact g1,g2',g3,g4,g5,g6,g7,fun j hj=>?_⟩
    rcases hβ3 j b hj with ⟨_,e⟩ | ⟨_,e⟩
    · exact g2' (e ▸ hbor)
    · exact g8 j e
   rm:=hS'.ex.rm
   df:=by
    obtain ⟨Ds,g1,g2,g3⟩:=hS'.ex.df
    refine ⟨Ds,g1,g2,fun D hD=>?_⟩
    obtain ⟨k1,k2,k3,k4,k5⟩:=g3 D hD
    rw [hsz0] at k2
    refine ⟨k1,k2,k3,fun j hj=>?_,k5⟩
    rcases hβ3 j D hj with ⟨_,e⟩ | ⟨_,e⟩
    · omega
    · exact k4 j e }
  rw:=fun j=>by
   rw [hver']
   show rowRel w' _ s'.ver j (upd s'.rows k ⟨0,.box (rs.map .r)⟩ j).c
   by_cases e : j = k
   · subst e
     rw [upd_same]
     simp only [rowRel]
     refine ⟨b0,cells,ty,upd_same _ _ _,hheap',unparkL_rel hvk hβk hγk _ _ hcells',hone⟩
   · rw [upd_other _ _ e]
     exact unparkRow_rel hvk hβk hγk e _ (fun km n l cur hj=>hmi' j km n l cur hj) (hS'.rw j)
  bl:=fun j b hb=>by
   rcases hβ3 j b hb with ⟨rfl,rfl⟩ | ⟨e,hb'⟩
   · exact ⟨q4,q5,.inr (.inl ⟨hk,hbor⟩)⟩
   · obtain ⟨g1,g2,g3⟩:=hS'.bl j b hb'
     rw [hsz0] at g3
     exact ⟨g1,g2,g3.imp id (fun h=>h.imp (fun h=>⟨h.1,h.2.1⟩) id)⟩
  ij:=fun i j b hi hj=>by
   rcases hβ3 i b hi with ⟨rfl,rfl⟩ | ⟨ei,hi'⟩
   · rcases hβ3 j b hj with ⟨rfl,_⟩ | ⟨_,hj'⟩
     · rfl
     · exact (q8 j hj').elim
   · rcases hβ3 j b hj with ⟨rfl,rfl⟩ | ⟨_,hj'⟩
     · exact (q8 i hi').elim
     · exact hS'.ij i j b hi' hj'
  cap:=fun j=>by
   show upd p'.γ k (p.γ k) j ≤ maxLen
   unfold upd; split
   · exact hS.cap k
   · exact hS'.cap j
  pn:=fun j x hx=>by
   rw [hver']
   by_cases e : j = k
   · subst e
     obtain ⟨g1,g2,_,g4⟩:=hS.pn j x hx
     exact ⟨(upd_same _ _ _).trans (hβ.symm.trans g1),(upd_same _ _ _).trans g2,hvk,g4⟩
   · obtain ⟨g1,g2,g3,g4⟩:=hS'.pn j x (by show (if j = k then none else C.pin j) = some x; rw [if_neg e]; exact hx)
     exact ⟨(upd_other _ _ e).trans g1,(upd_other _ _ e).trans g2,g3,g4⟩
  lk:=fun j km n l cur hj hn'=>by
   rw [hver'] at hn'
   have hj' : (upd s'.rows k ⟨0,.box (rs.map .r)⟩ j).c = .mi km n l cur:=hj
   by_cases e : j = k
   · subst e; rw [upd_same] at hj'; cases hj'
   · rw [upd_other _ _ e] at hj'
     have hl:=hS'.lk j km n l cur hj' hn'
     show (upd s'.rows k ⟨0,.box (rs.map .r)⟩ km).c.isMpi = true
     rw [upd_other _ _ (hmi' j km n l cur hj')]
     exact hl }
theorem awp_name {c : Code} {n : Nat} {l : List (Nat × AV)} {vs : Nat → Nat} {cs : List (Nat × RowC)} (t : Nat) {k : Nat} (ht : look l t = .pt k (vs k) 0) (h : ∀ u,awp P C c Q (st n ((t,.pu k (vs k) u) :: l) vs cs)) : awp P C c Q (st n l vs cs):=fun a w ⟨p,hp⟩=>by
 have hx:=hp.tm t
 have e2 : (st n l vs cs).tm t = .pt k (vs k) 0:=ht
 rw [e2] at hx
 simp only [AV.rel] at hx
 obtain ⟨b,hb,hbv⟩:=hx.2 rfl
 refine h ⟨b,0,none⟩ a w ⟨p,{ hp with tm:=fun j=>?_ }⟩
 show AV.rel w _ _ (look ((t,.pu k (vs k) ⟨b,0,none⟩) :: l) j) _
 rw [look_cons]
 split
 · rename_i e
   subst e
   simp only [AV.rel]
   exact ⟨hbv,hx⟩
 · exact hp.tm j
theorem sub_unname {n : Nat} {l : List (Nat × AV)} {vs : Nat → Nat} {cs : List (Nat × RowC)} (t : Nat) {k m : Nat} {u : Addr} (ht : look l t = .pu k m u) : Sub (st n l vs cs) (st n ((t,.pt k m 0) :: l) vs cs):=fun C a w ⟨p,hp⟩=>by
 refine ⟨p,{ hp with tm:=fun j=>?_ }⟩
 show AV.rel w _ _ (look ((t,.pt k m 0) :: l) j) _
 rw [look_cons]
 split
 · rename_i e
   subst e
   have hx:=hp.tm j
   have e2 : (st n l vs cs).tm j = .pu k m u:=ht
   rw [e2] at hx
   simp only [AV.rel] at hx ⊢
   exact hx.2
 · exact hp.tm j
end
end Go.Oc

namespace Go.Oc
open Go Go.RowKit
set_option linter.unusedVariables false
set_option linter.unusedSimpArgs false
theorem park_un (k : Nat) (u : Addr) : AV.park k u (.r .un) = .r .un:=by simp only [AV.park]
theorem look_park (k : Nat) (u : Addr) : ∀ (l : List (Nat × AV)) (t : Nat),look (l.map fun x=>(x.1,x.2.park k u)) t = (look l t).park k u
 | [],t=>(park_un k u).symm
 | (j, x) :: l, t => by
   simp only [List.map_cons,look_cons]
   split
   · rfl
   · exact look_park k u l t
theorem lookc_park (k : Nat) (u : Addr) : ∀ (cs : List (Nat × RowC)) (j : Nat),lookc (cs.map fun x=>(x.1,x.2.park k u)) j = (lookc cs j).park k u
 | [],_=>rfl
 | (i, c) :: cs, j => by
   simp only [List.map_cons,lookc_cons]
   split
   · rfl
   · exact lookc_park k u cs j
section
variable {P : Program} {C : Ctx} {n : Nat} {l : List (Nat × AV)} {vs : Nat → Nat} {cs : List (Nat × RowC)} {Q : Exit → AS → Prop}
theorem awp_parkS {c : Code} (k t0 : Nat) (u : Addr) (rs : List RV) (ht0 : look l t0 = .pu k 0 u) (hC : (C.rd = none ∧ C.X = XS.none) ∧ ∀ b,¬ C.own b) (hk : 1000 ≤ k) (hv : vs k = 0) (hc : lookc cs k = .box (rs.map .r)) (hcb : ∃ x,C.pin k = some x ∧ ∀ b,x.1 = some b → C.bor b)
 (h : ∀ us C2,(C2.rd = none ∧ C2.X = XS.none) ∧ (∀ b,¬ C2.own b) → Parked C2 u us → awp P C2 c (fun e s'=>s'.tm t0 = .r (.vl u) ∧ s'.rows k = ⟨0,.sus (rs.map .r) us⟩ ∧ Q e ⟨s'.n,upd s'.tm t0 (.pu k 0 u),upd s'.rows k ⟨0,.box (rs.map .r)⟩⟩)
  (st n (l.map fun x=>(x.1,x.2.park k u)) vs (insc (cs.map fun x=>(x.1,x.2.park k u)) k (.sus (rs.map .r) us)))) : awp P C c Q (st n l vs cs):=by
 refine awp_park k t0 u rs ht0 hC.1.2 hC.1.1 hC.2 hk hv hc hcb fun us C2 hC2 hP=>?_
 have e : (⟨n,fun t=>((st n l vs cs).tm t).park k u,fun j=>if j = k then ⟨0,.sus (rs.map .r) us⟩ else ⟨((st n l vs cs).rows j).ver,((st n l vs cs).rows j).c.park k u⟩⟩ : AS)
  = st n (l.map fun x=>(x.1,x.2.park k u)) vs (insc (cs.map fun x=>(x.1,x.2.park k u)) k (.sus (rs.map .r) us)):=by
  simp only [st,AS.mk.injEq,true_and]
  constructor
  · funext t
    exact (look_park k u l t).symm
  · funext j
    rw [lookc_insc]
    split
    · rename_i e; subst e; rw [hv]
    · rw [lookc_park]
 have:=h us C2 hC2 hP
 rw [← e] at this
 exact this
theorem st_unpark (k t0 : Nat) (x : AV) (c : RowC) (hv : vs k = 0) : (⟨n,upd (st n l vs cs).tm t0 x,upd (st n l vs cs).rows k ⟨0,c⟩⟩ : AS) = st n ((t0,x) :: l) vs (insc cs k c):=by
 simp only [st,AS.mk.injEq,true_and]
 constructor
 · funext t
   rw [look_cons]
   unfold upd
   split <;> rfl
 · funext j
   rw [lookc_insc]
   unfold upd
   split
   · rename_i e; subst e; rw [hv]
   · rfl
theorem awp_rangeK {t : Nat} {ps : Array Tmp} {assign body : Code} (hC : (C.rd = none ∧ C.X = XS.none) ∧ ∀ b,¬ C.own b) (k t0 : Nat) (u : Addr) (ht00 : look l t0 = .pu k 0 u) (hk : 1000 ≤ k) (hcb : ∃ x,C.pin k = some x ∧ ∀ b,x.1 = some b → C.bor b) (rs : List RV) (hl0 : Lent vs) (hc : lookc cs k = .box (rs.map .r))
 {f : FuncId} {cf : List AV} {args : List RV} (xs : List (List RV)) (hI : ICalls P true f args xs) (ts : List Nat) (hnd : ts.Nodup) (F : (Nat → Nat) → List (Nat × AV)) (R : Nat → (Nat → Nat) → List (Nat × RowC)) (I : Nat → Prop)
 (h0 : ∀ us,∃ vs',Lent vs' ∧ Sub (st n (l.map fun x=>(x.1,x.2.park k u)) vs (insc (cs.map fun x=>(x.1,x.2.park k u)) k (.sus (rs.map .r) us))) (st n (F vs') vs' (insc (R 0 vs') k (.sus (rs.map .r) us)))) (hi0 : I 0)
 (hts : ∀ vs,(F vs).map (·.1) = ts) (ht0 : ∀ vs,look (F vs) t0 = .r (.vl u)) (hg : ∀ vs,callee? (look (F vs) t) = some (f,cf))
 (hcap : ∀ (w : World) (p : Plan) (ver : Nat → Nat) (R' : Nat → Prop) (vals : List Value),AV.relV w p ver cf vals → RV.rel w R' (.rp rs) (.pointer (some u)) → (∀ b,p.R b → R' b) → RV.relV w R' args vals)
 (hd : ∀ i vs,lookc (R i vs) 0 = .dead) (hps : ∀ t ∈ ps.toList,t < n) (hlen : ∀ e ∈ xs,e.length = ps.size)
 (round : ∀ i e vs us usp C,xs[i]? = some e → I i → Lent vs → awp P C assign (fun x s2=>x = .normal ∧ ∀ C,awp P C body (fun x s3=>x = .normal ∧ I (i + 1) ∧ ∃ vs',Lent vs' ∧ Sub s3 (st n [] vs' ((0,.sus ((F vs').map (·.2)) us) :: insc (R (i + 1) vs') k (.sus (rs.map .r) usp)))) s2)
  (st n (psL ps.toList e (F vs)) vs ((0,.sus ((F vs).map (·.2)) us) :: insc (R i vs) k (.sus (rs.map .r) usp))))
 (done : ∀ vs us,Lent vs → I xs.length → Q .normal (st n ((t0,.pu k 0 u) :: F vs) vs (insc ((0,.sus ((F vs).map (·.2)) us) :: R xs.length vs) k (.box (rs.map .r))))) : awp P C (.rangeFunc (.tmp t) ps assign body) Q (st n l vs cs):=by
 refine awp_parkS k t0 u rs ht00 hC hk (hl0 k hk) hc hcb fun usp C2 hC2 hP=>?_
 obtain ⟨vs0,hv0,hsub0⟩:=h0 usp
 refine zw hsub0 ?_
 have hk0 : k ≠ 0:=by omega
 have hdrop : ∀ i e rest,xs.drop i = e :: rest → xs[i]? = some e ∧ xs.drop (i + 1) = rest:=fun i e rest h=>by
  refine ⟨?_,by rw [← List.drop_drop,h]; rfl⟩
  have : (xs.drop i)[0]? = some e:=by rw [h]; rfl
  simpa using this
 have hz : ∀ vs,ts.zip ((F vs).map (·.2)) = F vs:=fun vs=>by rw [← hts vs]; exact zip_keys _
 refine awp_rangeFunc hC2.1.1 hC2.1.2 (F:=f) (cs:=cf) (args:=args) (xs:=xs) (z:=true) (hg vs0) (fun p a w hS vals hV=>by
  obtain ⟨b0,hb0,hr⟩:=parked_read (k:=k) (rs:=rs) hS (by show lookc (insc (R 0 vs0) k _) k = _; rw [lookc_insc,if_pos rfl]) hP
  exact ⟨fun b=>b = b0,fun b hb=>⟨hb ▸ hb0,rfl⟩,hcap w p _ _ vals hV hr fun _ h=>.inl h⟩) hI
  (by show lookc (insc (R 0 vs0) k _) 0 = _; rw [lookc_insc,if_neg (Ne.symm hk0)]; exact hd 0 vs0) ts hps
  (fun left us s'=>∃ i vs,left = xs.drop i ∧ i ≤ xs.length ∧ I i ∧ Lent vs ∧ s' = st n [] vs ((0,.sus ((F vs).map (·.2)) us) :: insc (R i vs) k (.sus (rs.map .r) usp)))
  (fun c us s'=>False)
  (fun us=>⟨0,vs0,rfl,Nat.zero_le _,hi0,hv0,?_⟩) ?_ ?_ (fun c us s' _ h=>h.elim)
 · refine (upd_rows_st (c:=.sus (ts.map (st n (F vs0) vs0 (insc (R 0 vs0) k (.sus (rs.map .r) usp))).tm) us)).trans ?_
   congr 3
   have hkk : (F vs0).map (·.2) = ts.map (look (F vs0)):=by
    have:=look_keys (F vs0) (by rw [hts vs0]; exact hnd)
    rw [hts vs0] at this
    exact this
   rw [hkk]; rfl
 · rintro e rest us s' _ ⟨i,vs,hl,hle,hI',hvl,rfl⟩
   obtain ⟨h1,h2⟩:=hdrop i e rest hl.symm
   refine ⟨hlen e (List.mem_of_getElem? h1),(F vs).map (·.2),rfl,fun C'=>?_⟩
   have hr:=round i e vs us usp C' h1 hI' hvl
   rw [hz,psA_look]
   refine awp_mono ?_ hr
   rintro x s2 ⟨hx,hbody⟩
   refine ⟨hx,fun C''=>awp_mono ?_ (hbody C'')⟩
   rintro x s3 ⟨rfl,hI3,vs',hvl',hsub⟩
   refine ⟨_,hsub,i + 1,vs',h2.symm,?_,hI3,hvl',rfl⟩
   have:=(List.getElem?_eq_some_iff.1 h1).1
   omega
 · rintro us s' _ ⟨i,vs,hl,hle,hI',hvl,rfl⟩
   have hi : i = xs.length:=by
    have : (xs.drop i).length = 0:=by rw [← hl]; rfl
    rw [List.length_drop] at this; omega
   subst hi
   refine ⟨(F vs).map (·.2),rfl,?_⟩
   rw [hz]
   refine ⟨ht0 vs,?_,?_⟩
   · show (⟨vs k,lookc ((0,.sus ((F vs).map (·.2)) us) :: insc (R xs.length vs) k (.sus (rs.map .r) usp)) k⟩ : Row) = _
     rw [lookc_cons,if_neg hk0,lookc_insc,if_pos rfl,hvl k hk]
   · have hq:=done vs us hvl hI'
     have e:=st_unpark (n:=n) (l:=F vs) (vs:=vs) (cs:=(0,.sus ((F vs).map (·.2)) us) :: insc (R xs.length vs) k (.sus (rs.map .r) usp)) k t0 (.pu k 0 u) (.box (rs.map .r)) (hvl k hk)
     have e2 : (st n ((t0,.pu k 0 u) :: F vs) vs (insc ((0,.sus ((F vs).map (·.2)) us) :: insc (R xs.length vs) k (.sus (rs.map .r) usp)) k (.box (rs.map .r))) : AS) = st n ((t0,.pu k 0 u) :: F vs) vs (insc ((0,.sus ((F vs).map (·.2)) us) :: R xs.length vs) k (.box (rs.map .r))):=by
      simp only [st,AS.mk.injEq,true_and]
      funext j
      simp only [lookc_insc,lookc_cons]
      split
      · rfl
      · split
        · rfl
        · rfl
     rw [← e2,← e] at hq
     exact hq
end
attribute [go_sem] AV.park AV.parkL RowC.park
end Go.Oc

namespace Go.Oc
open Go Go.RowKit
def cpR (s : AS) (d : Nat) (b : AV) (r : Res) (K : AS → Prop) : Prop :=
 match b,r with
 | .r .ns,⟨pre,_,⟨.os d' v sz 0 m,[(d'',⟨v',.arr _ sz' es⟩)]⟩⟩=>pre ∧ d < 1000 ∧ d' = d ∧ d'' = d ∧ v = (s.rows d).ver + 1 ∧ v' = v ∧ sz' = sz ∧ m = es.length ∧ K (AS.put (s.row d ⟨(s.rows d).ver + 2,.dead⟩) (some d) (.r (.sl sz es)))
 | _,_=>False
def cpX (P : Program) (s : AS) (d : Nat) (t : TypeId) (b : AV) (n : Option (Prop × Nat × List (List RV))) (K : AS → Prop) : Prop :=
 match tyq P t,b,n with
 | some ⟨.slice _ esz eb _, _, _, _⟩, .r (.sx sz0 es), some (c, sz, ns) => sz0 = esz ∧ d < 1000 ∧ c ∧ (sz = esz ∨ ns = []) ∧ 0 < esz ∧ (es.length + ns.length) * eb ≤ 140737488355328 ∧ es.length + ns.length ≤ 9223372036854775807 ∧
   K (AS.put (s.row d ⟨(s.rows d).ver + 2,.dead⟩) (some d) (.r (.sl esz (es ++ ns))))
 | _,_,_=>False
def isSx : AV → Bool
 | .r (.sx _ _)=>true
 | _=>false
def cpB (s : AS) (d : Option Nat) (r : Res) (K : AS → Prop) : Prop :=
 match r with
 | ⟨pre,_,⟨.r (.sl sz es),[]⟩⟩=>pre ∧ es ≠ [] ∧ K (AS.put s d (.r (.sx sz es)))
 | _=>False
def copyK (P : Program) (o : Oper) (K : AS → Prop) (s : AS) : Prop :=
 match o.op with
 | .call ⟨.builtin .append, args, ts⟩ => (match args.toList, ts.toList, o.dst with
   | [x,z],[t,t'],some d=>t = t' ∧ (if isSx (s.ev x) then cpX P s d t (s.ev x) (news? s (s.ev z)) K else cpR s d (s.ev x) (sAppend P s d t t' (s.ev x) (s.ev z)) K)
   | _,_,_=>False)
 | .buildSlice t n ps=>cpB s o.dst (sBuildSlice P s t n (ps.toList.map fun (i,x)=>(i,s.ev x))) K
 | _=>False
def isPl (pl : List Nat) (o : Oper) : Bool :=
 match o.op with
 | .call ⟨.builtin .append,_,_⟩=>(match o.dst with | some d=>pl.contains d | none=>false)
 | .buildSlice _ _ _=>(match o.dst with | some d=>pl.contains d | none=>false)
 | _=>false
def xopC (P : Program) (pl : List Nat) (o : Oper) (K : AS → Prop) (s : AS) : Prop:=if isPl pl o then copyK P o K s else xop P true o K s
def aopsC (P : Program) (pl : List Nat) (ops : Array Oper) : List Oper → (AS → Prop) → AS → Prop
 | [],K,s=>K s
 | o :: rest, K, s =>
   match o.guard with
   | none=>xopC P pl o (aopsC P pl ops rest K) s
   | some (g, want) =>
     match ((ops[g]?).bind (·.dst) : Option Nat) with
     | none=>aopsC P pl ops rest K (s.put o.dst (.r .ud))
     | some t =>
       match s.tm t with
       | .r (.bo b)=>(b = want → xopC P pl o (aopsC P pl ops rest K) (s.put (some t) (.r (.bo want)))) ∧ (b = !want → aopsC P pl ops rest K ((s.put (some t) (.r (.bo (!want)))).put o.dst (.r .ud)))
       | .r .ud=>aopsC P pl ops rest K (s.put o.dst (.r .ud))
       | _=>False
section
variable {P : Program} {C : Ctx} {s : AS} {ops : Array Oper} {pl : List Nat}
variable {n : Nat} {l : List (Nat × AV)} {vs : Nat → Nat} {cs : List (Nat × RowC)} {K : AS → Prop} {d : Option Nat} {ty : TypeId} {pos : String} {af : Array Edge}
theorem aopsC_nil {ops : Array Oper} : aopsC P pl ops [] K s ↔ K s:=Iff.rfl
theorem aopsC_cons {ops : Array Oper} {o : Op} {rest : List Oper} : aopsC P pl ops (⟨d,o,ty,pos,af,none⟩ :: rest) K s ↔ xopC P pl ⟨d,o,ty,pos,af,none⟩ (aopsC P pl ops rest K) s:=Iff.rfl
theorem row_dead {k m : Nat} : AS.row (st n l vs cs) k ⟨m,.dead⟩ = st n l (upd vs k m) (delc cs k):=by
 rw [row_st]
 unfold st
 congr 1
 funext j
 rw [lookc_insc,lookc_delc]
attribute [go_sem] Nat.reduceBEq Bool.or_false Bool.false_or Bool.or_true Bool.true_or
attribute [go_sem] aopsC_nil aopsC_cons xopC isPl copyK cpR cpB cpX isSx List.contains_cons List.contains_nil List.toList_toArray
attribute [go_sem high] row_dead
end
end Go.Oc

namespace Go.Oc
open Go Go.RowKit
set_option linter.unusedVariables false
def idK (L : List (Nat × RowC)) : List (Nat × Nat):=L.map fun x=>(x.1,x.1)
def npostL (P : Program) (rv : ResultVar) (L : List (Nat × RowC)) (r : AV) : Exit → AS → Prop
 | .normal,s=>resC (resA P s rv) fun v=>lendA (idK L) s.ver v = some r ∧ lendOk (idK L) s (idK L) L
 | .ret,s=>resC (resA P s rv) fun v=>lendA (idK L) s.ver v = some r ∧ lendOk (idK L) s (idK L) L
 | _,_=>False
theorem npostL_ret {P : Program} {rv : ResultVar} {L : List (Nat × RowC)} {r : AV} {s : AS} : npostL P rv L r .ret s = resC (resA P s rv) fun v=>lendA (idK L) s.ver v = some r ∧ lendOk (idK L) s (idK L) L:=rfl
theorem npostL_normal {P : Program} {rv : ResultVar} {L : List (Nat × RowC)} {r : AV} {s : AS} : npostL P rv L r .normal s = resC (resA P s rv) fun v=>lendA (idK L) s.ver v = some r ∧ lendOk (idK L) s (idK L) L:=rfl
theorem idK_pin : ∀ {L : List (Nat × RowC)} {k : Nat},(hasKey L k = true → pinOf (idK L) k = some k) ∧ (hasKey L k = false → pinOf (idK L) k = none)
 | [],k=>by simp [hasKey,idK,pinOf]
 | (j, c) :: L, k => by
   obtain ⟨h1,h2⟩:=idK_pin (L:=L) (k:=k)
   simp only [hasKey,List.any_cons,Bool.or_eq_true,beq_iff_eq,Bool.or_eq_false_iff,beq_eq_false_iff_ne] at h1 h2 ⊢
   simp only [idK,List.map_cons,pinOf]
   constructor
   · intro h
     by_cases e : k = j
     · rw [if_pos e,e]
     · rw [if_neg e]
       rcases h with h | h
       · exact absurd h.symm e
       · exact h1 h
   · rintro ⟨h,h'⟩
     rw [if_neg (fun e=>h e.symm)]
     exact h2 h'
theorem ncalls_st {P : Program} {f : FuncId} {fn : Func} {c : Code} {n : Nat} {args : List RV} (L : List (Nat × RowC)) (r : AV) (rv : ResultVar) (hf : P.funcs[f]? = some fn) (hb : fn.body = some c) (hc : callable P f = true) (hn : fn.ntmps = n) (hres : fn.results.toList = [rv]) (hargs : args.length ≤ n)
 (hap : apart (idK L) = true) (hsm : (L.all fun x=>decide (x.1 < 1000)) = true) (h : ∀ C : Ctx,C.rd = none ∧ C.X = XS.none → awp P C c (npostL P rv L r) (st n (argL 0 args) (fun _=>0) [])) : NCalls P f args L r:=by
 refine ⟨hc,fun w R vs hR hV=>?_⟩
 have hlen:=RV.relV_length hV
 simp only [Array.length_toList] at hlen
 let C : Ctx:={ w0:=w,R0:=R,bor:=fun _=>False,pin:=fun _=>none }
 let p : Plan:={ R:=R,β:=fun _=>none,γ:=fun _=>1 }
 have hs : SR C p (st n (argL 0 args) (fun _=>0) []) { tmps:=vs ++ Array.replicate (fn.ntmps - vs.size) undef,defers:=[] } w:={
  base:=⟨rfl,rfl,rfl,Nat.le_refl _,fun _ _ _ _=>rfl⟩
  r0:=fun _ h=>h
  rn:=fun _ h=>.inl h
  rb:=hR
  tm:=fun t=>by
   show (look (argL 0 args) t).rel _ _ _ _
   by_cases hmem : ∃ x,(t,x) ∈ argL 0 args
   · cases e : args[t]? with
     | none =>
       obtain ⟨x,hx⟩:=hmem
       obtain ⟨i,y,h1,h2⟩:=argL_mem _ hx
       simp only [Nat.zero_add,Prod.mk.injEq] at h1
       rw [← h1.1,e] at h2; cases h2
     | some x =>
       obtain ⟨u,hu,hx⟩:=RV.relV_get hV e
       have : (vs ++ Array.replicate (fn.ntmps - vs.size) undef).getD t undef = u:=by
        have ht : t < vs.size:=by have:=(List.getElem?_eq_some_iff.1 hu).1; simpa using this
        rw [Array.getD_eq_getD_getElem?,Array.getElem?_append_left ht]
        simp only [Array.getElem?_toList] at hu
        rw [hu]; rfl
       have e2:=argL_look (k:=0) e
       rw [Nat.zero_add] at e2
       rw [this,e2]
       simpa only [AV.rel] using hx
   · rw [look_none hmem]
     exact AV.rel_un _ _ _ _
  sz:=by simp only [Array.size_append,Array.size_replicate,st]; omega
  ex:=ext_start (fun _ h=>h.elim (fun h=>h.elim) (fun h=>h.elim))
  rw:=fun k=>by simp [st,lookc_nil,rowRel,p]
  bl:=fun k b h=>by simp [p] at h
  ij:=fun k k' b h=>by simp [p] at h
  cap:=fun k=>by simp [p,maxLen]
  pn:=fun k x h=>by cases h
  lk:=fun j km n l cur h _=>by cases h }
 refine callsIn_wide.1 (callsIn_of_wp_marks (n:=0) hf hb trivial (wpIn_mono (h C ⟨rfl,rfl⟩ _ w ⟨p,hs⟩) ?_))
 rintro e a' w' ⟨s',⟨p',hs'⟩,hq⟩
 have fin : ∀ (a' : Act) (w' : World) (_ : SR C p' s' a' w'),(resC (resA P s' rv) fun v=>lendA (idK L) s'.ver v = some r ∧ lendOk (idK L) s' (idK L) L) → ∃ v,(results fn a'.tmps).run P w' = .ok v w' ∧ ∃ v',∃ q : Plan,Ending.returned v = .returned v' ∧ Below w.heap.size w w' ∧ (∀ b,R b → q.R b) ∧ (∀ b,q.R b → R b ∨ w.heap.size ≤ b) ∧ (∀ b,q.R b → b < w'.heap.size) ∧
  (∀ k b,q.β k = some b → w.heap.size ≤ b ∧ b < w'.heap.size ∧ ¬ q.R b ∧ hasKey L k = true) ∧ (∀ k k' b,q.β k = some b → q.β k' = some b → k = k') ∧ (∀ k,q.γ k ≤ maxLen) ∧ (∀ k,hasKey L k = false → q.γ k = 1) ∧
  (∀ k,hasKey L k = true → rowRel w' q (fun _=>0) k (lookc L k)) ∧ r.rel w' q (fun _=>0) v':=fun a' w' hs' ⟨hp,hv,hlo⟩=>by
  obtain ⟨u,hu,hrel⟩:=run_result hs' rv hp
  have hm : (fn.results.mapM (resOp a'.tmps)).run P w' = .ok #[u] w':=by
   rw [Array.mapM_eq_mapM_toList,hres]
   simp only [Sem.run_map,List.mapM_cons,List.mapM_nil,Sem.run_bind,hu,Result.andThen_ok,Sem.run_pure]
  obtain ⟨g1,g2⟩:=lendOk_get hlo
  have hβ : ∀ k b,(lendPlan (idK L) p').β k = some b → hasKey L k = true ∧ p'.β k = some b:=fun k b hb=>by
   cases e : hasKey L k
   · simp [lendPlan,idK_pin.2 e] at hb
   · simp only [lendPlan,idK_pin.1 e] at hb; exact ⟨rfl,hb⟩
  refine ⟨u,by rw [results_eq,Sem.run_bind,hm]; simp,u,lendPlan (idK L) p',rfl,⟨hs'.base.os,hs'.base.tape,hs'.base.output,hs'.base.size,fun k hk=>hs'.base.block k hk (fun h=>h) (fun h=>h)⟩,hs'.r0,fun b hb=>?_,hs'.rb,fun k b hb=>?_,fun k k' b hb hb'=>hs'.ij k k' b (hβ k b hb).2 (hβ k' b hb').2,fun k=>?_,fun k hk=>?_,fun k hk=>?_,lend_rel hap _ _ _ hv hrel⟩
  · rcases hs'.rn b hb with h | h | h
    · exact .inl h
    · exact .inr h
    · exact h.elim
  · obtain ⟨h1,h2⟩:=hβ k b hb
    obtain ⟨g3,g4,g5⟩:=hs'.bl k b h2
    exact ⟨g5.resolve_right (fun h=>h.elim (fun h=>h.2) fun h=>h),g3,g4,h1⟩
  · cases e : hasKey L k
    · simp [lendPlan,idK_pin.2 e,maxLen]
    · simp only [lendPlan,idK_pin.1 e]; exact hs'.cap k
  · simp [lendPlan,idK_pin.2 hk]
  · exact lendC_rel hap (idK_pin.1 hk) (g1 k k (idK_pin.1 hk)) (hs'.rw k)
 cases e with
 | normal=>exact hs'.leave fun a'' w'' _ hs''=>fin a'' w'' hs'' hq
 | ret=>exact hs'.leave fun a'' w'' _ hs''=>fin a'' w'' hs'' hq
 | _=>exact hq.elim
def newVs (vs : Nat → Nat) : List (Nat × Nat) → Nat → Nat
 | []=>vs
 | (_,ck) :: l=>newVs (upd vs ck (vs ck + 1)) l
def newCs (ρ : List (Nat × Nat)) (ver : Nat → Nat) (L : List (Nat × RowC)) : List (Nat × Nat) → List (Nat × RowC) → List (Nat × RowC)
 | [],cs=>cs
 | (pk,ck) :: l,cs=>newCs ρ ver L l (insc cs ck (backC ρ ver (lookc L pk)))
theorem lendKey_none : ∀ {l : List (Nat × Nat)} {ck : Nat},(lendKey l ck).isNone = true → lendKey l ck = none:=fun h=>Option.isNone_iff_eq_none.1 h
theorem newVs_eq : ∀ {ρ : List (Nat × Nat)} {vs : Nat → Nat},apart ρ = true → newVs vs ρ = newVer ρ vs
 | [],vs,_=>by funext k; rfl
 | (pk, ck) :: l, vs, h => by
   simp only [apart,Bool.and_eq_true] at h
   funext k
   rw [newVs,newVs_eq h.2]
   unfold newVer
   simp only [lendKey]
   by_cases e : k = ck
   · subst e
     rw [if_pos rfl,lendKey_none h.1.2,upd_same]
   · rw [if_neg e,upd_other _ _ e]
theorem newCs_eq {σ : List (Nat × Nat)} {ver : Nat → Nat} {L : List (Nat × RowC)} : ∀ {ρ : List (Nat × Nat)} {cs : List (Nat × RowC)} {k : Nat},apart ρ = true →
 lookc (newCs σ ver L ρ cs) k = match lendKey ρ k with | some pk=>backC σ ver (lookc L pk) | none=>lookc cs k
 | [],cs,k,_=>rfl
 | (pk, ck) :: l, cs, k, h => by
   simp only [apart,Bool.and_eq_true] at h
   rw [newCs,newCs_eq h.2]
   simp only [lendKey]
   by_cases e : k = ck
   · subst e
     rw [if_pos rfl,lendKey_none h.1.2]
     simp [lookc_insc]
   · rw [if_neg e]
     cases lendKey l k with
     | none=>simp [lookc_insc,e]
     | some pk'=>rfl
section
variable {n : Nat} {l : List (Nat × AV)} {vs : Nat → Nat} {cs : List (Nat × RowC)}
theorem xcall_new {P : Program} {F : FuncId} {args : List RV} {L : List (Nat × RowC)} {caps : List AV} {r : AV} {d : Option Nat} {f : AV} {xs : List AV} {K : AS → Prop} (h : NCalls P F args L r) (ρ : List (Nat × Nat)) (hf : callee? f = some (F,caps))
 (hp : AV.pureL (xs ++ caps) = true) (he : snapVL (st n l vs cs).rows (xs ++ caps) = args) (ha : apart ρ = true) (hs : sameKeysN ρ L = true) (hsm : smallK ρ = true)
 (hK : K (AS.put (st n l (newVs vs ρ) (newCs ρ (newVs vs ρ) L ρ cs)) d (backA ρ (newVs vs ρ) r))) : xcall P false (st n l vs cs) d f xs K:=by
 refine .inr (.inl ⟨rfl,.inr (.inr (.inr ⟨F,caps,args,ρ,L,r,hf,hp,he ▸ leL_refl _,h,ha,hs,hsm,?_⟩))⟩)
 have e : ({ st n l vs cs with rows:=newRows ρ L (st n l vs cs).rows } : AS) = st n l (newVs vs ρ) (newCs ρ (newVs vs ρ) L ρ cs):=by
  unfold st
  simp only [AS.mk.injEq,true_and]
  funext k
  rw [newCs_eq ha,newVs_eq ha]
  unfold newRows newVer
  have hv : vers (fun k=>(⟨vs k,lookc cs k⟩ : Row)) = vs:=rfl
  rw [hv]
  cases lendKey ρ k <;> rfl
 rw [e]
 have hv : newVer ρ (st n l vs cs).ver = newVs vs ρ:=by rw [newVs_eq ha]; rfl
 rw [hv]
 exact hK
end
attribute [go_sem] npostL_ret npostL_normal newVs newCs idK
end Go.Oc

namespace Go.Oc
open Go Go.RowKit
set_option linter.unusedVariables false
section
variable {ρ : List (Nat × Nat)} {ver ver' : Nat → Nat}
mutual
theorem lendA_congr (hv : ∀ k,(lendKey ρ k).isSome = true → ver' k = ver k) : ∀ x : AV,lendA ρ ver' x = lendA ρ ver x
 | .r _=>by simp only [lendA]
 | .tu _=>by simp only [lendA]
 | .mi _ _=>by simp only [lendA]
 | .pt k _ _=>by simp only [lendA]; cases e : lendKey ρ k with | none=>rfl | some pk=>rw [hv k (by rw [e]; rfl)]
 | .pe k _ _ _ _=>by simp only [lendA]; cases e : lendKey ρ k with | none=>rfl | some pk=>rw [hv k (by rw [e]; rfl)]
 | .os k _ _ _ _=>by simp only [lendA]; cases e : lendKey ρ k with | none=>rfl | some pk=>rw [hv k (by rw [e]; rfl)]
 | .mp k _=>by simp only [lendA]; cases e : lendKey ρ k with | none=>rfl | some pk=>rw [hv k (by rw [e]; rfl)]
 | .pu k _ _=>by simp only [lendA]; cases e : lendKey ρ k with | none=>rfl | some pk=>rw [hv k (by rw [e]; rfl)]
 | .fn _ cs=>by simp only [lendA]; rw [lendL_congr hv cs]
 | .ag cs=>by simp only [lendA]; rw [lendL_congr hv cs]
theorem lendL_congr (hv : ∀ k,(lendKey ρ k).isSome = true → ver' k = ver k) : ∀ xs : List AV,lendL ρ ver' xs = lendL ρ ver xs
 | []=>by simp only [lendL]
 | x :: xs=>by simp only [lendL]; rw [lendA_congr hv x,lendL_congr hv xs]
end
theorem key_of_pin : ∀ {ρ : List (Nat × Nat)} {j ck : Nat},pinOf ρ j = some ck → (lendKey ρ ck).isSome = true
 | [],_,_,h=>by simp [pinOf] at h
 | (x, y) :: ρ, j, ck, h => by
   simp only [pinOf] at h
   simp only [lendKey]
   split at h
   · injection h with h; subst h; simp
   · split
     · rfl
     · exact key_of_pin h
mutual
theorem backA_congr (hv : ∀ k,(lendKey ρ k).isSome = true → ver' k = ver k) : ∀ x : AV,backA ρ ver' x = backA ρ ver x
 | .r _=>by simp only [backA]
 | .mi _ _=>by simp only [backA]
 | .pt k _ _=>by simp only [backA]; cases e : pinOf ρ k with | none=>rfl | some ck=>simp only [hv ck (key_of_pin e)]
 | .pe k _ _ _ _=>by simp only [backA]; cases e : pinOf ρ k with | none=>rfl | some ck=>simp only [hv ck (key_of_pin e)]
 | .os k _ _ _ _=>by simp only [backA]; cases e : pinOf ρ k with | none=>rfl | some ck=>simp only [hv ck (key_of_pin e)]
 | .mp k _=>by simp only [backA]; cases e : pinOf ρ k with | none=>rfl | some ck=>simp only [hv ck (key_of_pin e)]
 | .pu k _ _=>by simp only [backA]; cases e : pinOf ρ k with | none=>rfl | some ck=>simp only [hv ck (key_of_pin e)]
 | .tu cs=>by simp only [backA]; rw [backL_congr hv cs]
 | .fn _ cs=>by simp only [backA]; rw [backL_congr hv cs]
 | .ag cs=>by simp only [backA]; rw [backL_congr hv cs]
theorem backL_congr (hv : ∀ k,(lendKey ρ k).isSome = true → ver' k = ver k) : ∀ xs : List AV,backL ρ ver' xs = backL ρ ver xs
 | []=>by simp only [backL]
 | x :: xs=>by simp only [backL]; rw [backA_congr hv x,backL_congr hv xs]
end
end
section
variable {P : Program} {s : AS}
def found (s : AS) (ρ : List (Nat × Nat)) (xs : List AV) : Prop :=
 ∀ x ∈ ρ,¬ AV.nrL x.2 (s.ver x.2) xs ∨ ∃ y ∈ ρ,∃ cs,¬ AV.nrL y.2 (s.ver y.2) xs ∧ (s.rows y.2).c = .box cs ∧ ¬ AV.nrL x.2 (s.ver x.2) cs
end
section
variable {P : Program} {C : Ctx} {Q : Exit → AS → Prop} {s : AS} {Φ : List (RV × RV) → Prop}
variable {n : Nat} {l : List (Nat × AV)} {vs : Nat → Nat} {cs : List (Nat × RowC)}
end
end Go.Oc

namespace Go.Oc
open Go Go.RowKit
set_option linter.unusedVariables false
set_option linter.unusedSimpArgs false
def sLitBox (P : Program) (s : AS) (d : Nat) (t : TypeId) (len : Nat) (parts : List (Nat × AV)) : Res :=
 match tyq P t with
 | some ⟨.slice e esz _ ez, _, _, _⟩ =>
   if len = 0 then .bad else
   match lay s.ver (fun i=>some (i * esz,esz)) ((List.replicate len ez).flatten.map .r) parts with
   | some cs=>⟨0 < esz ∧ len * esz ≤ 16777216 ∧ d < 1000,True,⟨.os d ((s.rows d).ver + 1) esz 0 len,[(d,⟨(s.rows d).ver + 1,.ara e esz cs⟩)]⟩⟩
   | none=>.bad
 | _=>.bad
section
variable {P : Program} {C : Ctx} {p : Plan} {s : AS} {a : Act} {w : World} {o : Oper}
theorem relV_map_r {ver : Nat → Nat} : ∀ {xs : List RV} {vs : List Value},RV.relV w p.R xs vs → AV.relV w p ver (xs.map .r) vs
 | [],vs,h=>by simp only [RV.relV] at h; simp only [List.map_nil,AV.relV]; exact h
 | x :: xs, vs, h => by
   simp only [RV.relV] at h
   obtain ⟨u,us,e,h1,h2⟩:=h
   simp only [List.map_cons,AV.relV,AV.rel]
   exact ⟨u,us,e,h1,relV_map_r h2⟩
theorem lay_len {ver : Nat → Nat} {place : Nat → Option (Nat × Nat)} : ∀ (parts : List (Nat × AV)) (cs cs' : List AV),lay ver place cs parts = some cs' → cs'.length = cs.length
 | [],cs,cs',h=>by simp only [lay] at h; injection h with h; rw [h]
 | (i, x) :: parts, cs, cs', h => by
   simp only [lay] at h
   split at h
   · split at h
     · rename_i o sz xs _ _ hc
       rw [lay_len parts _ _ h]
       simp
       omega
     · cases h
   · cases h
theorem good_litBox {t : TypeId} {n : Nat} {ps : Array (Nat × Operand)} (h : SR C p s a w) (ho : o.op = .buildSlice t n ps) (hp : (sLitBox P s (o.dst.getD 0) t n (ps.toList.map fun (i,x)=>(i,s.ev x))).pre) :
 Done P C o s a w (sLitBox P s (o.dst.getD 0) t n (ps.toList.map fun (i,x)=>(i,s.ev x))):=by
 have hparts:=parts_rel h ps.toList
 unfold sLitBox at hp ⊢
 split at hp
 · rename_i e esz eb ez sz agg z e1
   obtain ⟨hu,hok,hsz,_,zv,hzv,hez⟩:=tyq_slice e1
   subst hsz
   obtain ⟨i,zval,hi,hzero,hcells,hz1,hzl⟩:=zeroOf_spec hzv
   split at hp
   · exact hp.elim
   · rename_i hn0
     rw [if_neg hn0]
     split at hp
     · rename_i cs hlay
       obtain ⟨hpos,hmax,hd⟩ : 0 < P.cellsOf e ∧ n * P.cellsOf e ≤ 16777216 ∧ o.dst.getD 0 < 1000:=hp
       have hzc : zval.cells.size = P.cellsOf e:=by rw [← hzl,← hcells]; simp
       obtain ⟨cells',hf,hr,hr1⟩:=lay_rel (p:=p) (w:=w) _ _ (ps.toList.map fun x=>(x.1,a.eval x.2)) _ _ (madeCells zval.cells (n * P.cellsOf e)) hlay
        (by
         rw [← hzc,madeCells_list,hcells,hez]
         refine relV_map_r ?_
         clear hlay hn0 ho hmax
         induction n with
         | zero=>simp [RV.relV]
         | succ n ih =>
           simp only [List.replicate_succ,List.flatten_cons]
           exact RV.relV_append (RV.relV_ofV1 w p.R zv) ih)
        (by
         rw [← hzc,madeCells_list,hcells]
         intro u hu
         obtain ⟨l,hl,hul⟩:=List.mem_flatten.1 hu
         rw [List.eq_of_mem_replicate hl] at hul
         exact hz1 u hul)
        hparts.1 hparts.2
       have hcl : cells'.size = n * P.cellsOf e:=by
        rw [← Array.length_toList,AV.relV_length hr,lay_len _ _ _ hlay,List.length_map]
        have : ∀ m,(List.replicate m ez).flatten.length = m * P.cellsOf e:=by
         intro m
         induction m with
         | zero=>simp
         | succ m ih=>rw [List.replicate_succ,List.flatten_cons,List.length_append,ih,hez,List.length_map,hzl,Nat.add_mul]; omega
        exact this n
       have hnm : n ≤ 16777216:=Nat.le_trans (Nat.le_mul_of_pos_right n hpos) hmax
       have hn:=h.newRow (o.dst.getD 0) hd (.ara e (P.cellsOf e) cs) rfl n (by simp only [maxLen]; omega) (.cells cells' e) (fun p' ver' hR hβ hγ hk=>by
        simp only [rowRel]
        rw [hγ]
        exact ⟨_,_,hβ,heap_alloc_new w _,hcl,cells'.toList,[],by simp,AV.relV_mono hk _ _ hr,hr1⟩)
       refine ⟨_,.slice (some ⟨w.heap.size,0,none⟩) n n,_,_,?_,.inl rfl,trivial,by rw [rows_one]; exact hn,?_⟩
       · have hmap : (ps.map fun (x : Nat × Operand)=>(x.1,a.eval x.2)).toList = ps.toList.map fun x=>(x.1,a.eval x.2):=by simp
         have hne : ¬ (n * P.cellsOf e = 0):=by
          have:=Nat.mul_pos (show 0 < n by omega) hpos
          omega
         have hz : (zeroValue e).run P w = .ok zval w:=by simp [zeroValue,typeInfo,hi,hzero]
         have hf':=hf
         simp only [madeCells] at hf'
         simp only [execOp,ho,Instr.buildSlice,Sem.run_bind,run_underlying hu,Result.andThen_ok,run_sizeOf_ok hok,if_neg (show ¬ (n * P.cellsOf e > 2 ^ 24) by omega),if_neg hne,hz,Sem.run_pure,hmap,hf']
         simp [newRow]
       · rw [rows_one]
         simp only [AV.rel,vers,upd_same]
         exact ⟨Nat.le_refl _,fun _=>.inr ⟨_,_,rfl,by simp; rfl,by omega,fun _=>by simp⟩⟩
     · exact hp.elim
 · exact hp.elim
variable {Q : Exit → AS → Prop} {ops : Array Oper}
theorem sops_litB {l : List Oper} {t : TypeId} {n : Nat} {ps : List (Nat × Operand)} {d : Nat} {ty : TypeId} {pos : String} {af : Array Edge} (hdn : d < s.n)
 (h : aR s (some d) (sLitBox P s d t n (evp s ps)) (fun s'=>sops P C ops l Q s')) : sops P C ops (⟨some d,.buildSlice t n ps.toArray,ty,pos,af,none⟩ :: l) Q s:=fun a w ⟨p,hs⟩=>by
 rw [← evp_eq] at h
 unfold wpListIn
 rw [if_pos (wantA_sound hs (by simp [wantA]))]
 refine wpIn_of_wp (by intro c h; cases h) ?_
 obtain ⟨nx,v,w',p',hrun,hnx,hass,hSR,hrel⟩:=good_litBox (o:=⟨some d,.buildSlice t n ps.toArray,ty,pos,af,none⟩) hs rfl h.1
 unfold Oper.wp
 rw [hrun]
 have hput:=hSR.put' (d:=some d) hrel (fun t ht=>by injection ht with ht; subst ht; exact hdn)
 rcases hnx with rfl | ⟨rfl,rfl⟩
 · exact h.2 hass _ _ ⟨p',hput⟩
 · exact h.2 hass _ _ ⟨p',hput⟩
end
theorem relV_of_r {w : World} {p : Plan} {ver : Nat → Nat} : ∀ {xs : List RV} {vs : List Value},AV.relV w p ver (xs.map .r) vs → RV.relV w p.R xs vs
 | [],vs,h=>by simp only [List.map_nil,AV.relV] at h; simp only [RV.relV]; exact h
 | x :: xs, vs, h => by
   simp only [List.map_cons,AV.relV,AV.rel] at h
   obtain ⟨u,us,e,h1,h2⟩:=h
   simp only [RV.relV]
   exact ⟨u,us,e,h1,relV_of_r h2⟩
theorem sub_arrR (s : AS) (k : Nat) {ty sz : Nat} {cs : List AV} (es : List (List RV)) (hc : (s.rows k).c = .ara ty sz cs) (he : cs = es.flatten.map .r) (hl : ∀ e ∈ es,e.length = sz) (hsz : 0 < sz) :
 Sub s { s with rows:=upd s.rows k ⟨(s.rows k).ver,.arr ty sz es⟩ }:=fun C a w ⟨p,hp⟩=>by
 have hr:=hp.rw k
 rw [hc,he] at hr
 simp only [rowRel] at hr
 obtain ⟨b,cells,hβ,hh,hs,l,rest,hlr,hV,h1⟩:=hr
 have hV:=relV_of_r hV
 refine ⟨p,hp.setRow (w':=w) k (.arr ty sz es) (by rw [hc]; rfl) (fun _ _ _ _ h=>by cases h) hβ rfl rfl rfl rfl (fun i _=>rfl) (fun _=>by
  simp only [rowRel]
  refine .inr ⟨b,cells,hβ,hh,hs,?_,relE_of_vals hl hV h1 (fun j u hj=>?_)⟩
  · have e1:=RV.relV_length hV
    rw [length_flatten hl] at e1
    have e2 : l.length + rest.length = p.γ k * sz:=by rw [← hs,← Array.length_toList,hlr,List.length_append]
    have : es.length * sz ≤ p.γ k * sz:=by omega
    exact Nat.le_of_mul_le_mul_right this hsz
  · rw [add_at,Nat.zero_add,Nat.zero_add,cell_of_row w b j cells ty (0,0) hh,← Array.getElem?_toList,hlr,List.getElem?_append_left (List.getElem?_eq_some_iff.1 hj).1]
    exact hj)⟩
theorem sub_freezeBA (s : AS) (kb i k v sz off m : Nat) {tb sb : Nat} {cells : List AV} (hk0 : k < 1000) (hne : kb ≠ k) (hbox : (s.rows kb).c = .ara tb sb cells) (hi : cells[i]? = some (.os k v sz off m)) (hv : v = s.ver k)
 (hc : match (s.rows k).c with | .arr _ sz' es=>sz = sz' ∧ off + m ≤ es.length | .arc _ sz' es _=>sz = sz' ∧ off + m ≤ es.length | _=>False) :
 Sub s { s with rows:=upd (upd s.rows k ⟨(s.rows k).ver + 1,.dead⟩) kb ⟨(s.rows kb).ver,.ara tb sb (cells.set i (.r (match (s.rows k).c with | .arr _ _ es=>RV.sl sz ((es.drop off).take m) | .arc _ _ es _=>RV.sl sz ((es.drop off).take m) | _=>.un)))⟩ }:=fun C a w ⟨p,hp⟩=>by
 have h1:=hp.reRow (w':=w) k hk0 .dead rfl none 1 (by simp [maxLen]) rfl rfl rfl (Nat.le_refl _) (fun _ _ _=>rfl) (fun _ h=>by cases h) (fun p' ver' _ hβ hγ _=>by simp only [rowRel]; exact ⟨hβ,hγ⟩)
 have hr:=hp.rw kb
 rw [hbox] at hr
 simp only [rowRel] at hr
 obtain ⟨b,cs,g1,g2,_,l0,rest0,g0,g3,g4⟩:=hr
 obtain ⟨u,hu,hval⟩:=AV.relV_get g3 hi
 have put : ∀ {p2 : Plan},SR C p2 { s with rows:=upd s.rows k ⟨(s.rows k).ver + 1,.dead⟩ } a w → p2.β kb = p.β kb → (∀ b,p.R b → p2.R b) → (∀ b,p.β k = some b → p2.R b) →
  SRel C { s with rows:=upd (upd s.rows k ⟨(s.rows k).ver + 1,.dead⟩) kb ⟨(s.rows kb).ver,.ara tb sb (cells.set i (.r (match (s.rows k).c with | .arr _ _ es=>RV.sl sz ((es.drop off).take m) | .arc _ _ es _=>RV.sl sz ((es.drop off).take m) | _=>.un)))⟩ } a w:=fun {p2} h2 hβ2 hR hR2=>by
  have hr2:=h2.rw kb
  rw [show (upd s.rows k ⟨(s.rows k).ver + 1,.dead⟩ kb).c = .ara tb sb cells by rw [upd_other _ _ hne]; exact hbox] at hr2
  simp only [rowRel] at hr2
  obtain ⟨b',cs',f1,f2,fs,l',rest',f0,f3,f4⟩:=hr2
  have eb : b' = b:=by rw [hβ2,g1] at f1; injection f1 with e; exact e.symm
  subst eb
  rw [g2] at f2
  injection f2 with e
  injection e with e1 e2 e3
  subst e1
  have hll : l' = l0:=by
   have h1:=AV.relV_length f3
   have h2:=AV.relV_length g3
   rw [g0] at f0
   exact (List.append_inj f0 (by omega)).1.symm
  subst hll
  have:=h2.setRow (w':=w) kb (.ara tb sb (cells.set i (.r (match (s.rows k).c with | .arr _ _ es=>RV.sl sz ((es.drop off).take m) | .arc _ _ es _=>RV.sl sz ((es.drop off).take m) | _=>.un))))
   (by rw [show (upd s.rows k ⟨(s.rows k).ver + 1,.dead⟩ kb).c = .ara tb sb cells by rw [upd_other _ _ hne]; exact hbox]; rfl) (fun _ _ _ _ h=>by cases h) f1 rfl rfl rfl rfl (fun _ _=>rfl) (fun _=>by
    simp only [rowRel]
    refine ⟨b',cs,f1,g2,fs,l',rest',f0,relV_set f3 (fun u' hu'=>?_),f4⟩
    rw [hu] at hu'
    injection hu' with e
    subst e
    simp only [AV.rel]
    exact snap_os hp hv hc hval hR hR2)
  rw [show (upd s.rows k ⟨(s.rows k).ver + 1,.dead⟩ kb).ver = (s.rows kb).ver by rw [upd_other _ _ hne]] at this
  exact ⟨p2,this⟩
 cases hβ : p.β k with
 | none=>exact put h1 (upd_other _ _ hne) (fun _ h=>h) (fun b hb=>by rw [hβ] at hb; cases hb)
 | some b =>
   obtain ⟨g1,_,g2⟩:=hp.bl k b hβ
   have h2:=h1.publish (b:=b) g1 (g2.imp id fun h=>h.resolve_left (fun h=>by omega)) (fun j hj=>by
    have hj' : upd p.β k none j = some b:=hj
    by_cases e : j = k
    · subst e; rw [upd_same] at hj'; cases hj'
    · rw [upd_other _ _ e] at hj'; exact e (hp.ij j k b hj' hβ)) (hp.ex.publish hβ)
   exact put h2 (upd_other _ _ hne) (fun _ h=>.inl h) (fun b' hb'=>by rw [hβ] at hb'; injection hb' with e; exact .inr e.symm)
section
variable {n : Nat} {l : List (Nat × AV)} {vs : Nat → Nat} {cs : List (Nat × RowC)}
theorem sub_arr (k : Nat) {ty sz : Nat} {aa : List AV} (es : List (List RV)) (hc : lookc cs k = .ara ty sz aa) (he : aa = es.flatten.map .r) (hl : ∀ e ∈ es,e.length = sz) (hsz : 0 < sz) :
 Sub (st n l vs cs) (st n l vs (insc cs k (.arr ty sz es))):=by
 have:=sub_arrR (st n l vs cs) k es hc he hl hsz
 have e : ({ st n l vs cs with rows:=upd (st n l vs cs).rows k ⟨((st n l vs cs).rows k).ver,.arr ty sz es⟩ } : AS) = st n l vs (insc cs k (.arr ty sz es)):=by
  simp only [st,AS.mk.injEq,true_and]
  funext j
  rw [lookc_insc]
  unfold upd
  split
  · rename_i e; subst e; rfl
  · rfl
 rwa [e] at this
theorem sub_frzBA (kb i k : Nat) {tb sb : Nat} {cells : List AV} {sz off m ty : Nat} {es : List (List RV)} (hk0 : k < 1000) (hne : kb ≠ k) (hb : lookc cs kb = .ara tb sb cells) (hi : cells[i]? = some (.os k (vs k) sz off m)) (hc : lookc cs k = .arr ty sz es) (hle : off + m ≤ es.length) :
 Sub (st n l vs cs) (st n l (upd vs k (vs k + 1)) (insc (delc cs k) kb (.ara tb sb (cells.set i (.r (.sl sz ((es.drop off).take m))))))):=by
 have:=sub_freezeBA (st n l vs cs) kb i k (vs k) sz off m hk0 hne hb hi rfl (by show match lookc cs k with | .arr _ sz' es=>sz = sz' ∧ off + m ≤ es.length | .arc _ sz' es _=>sz = sz' ∧ off + m ≤ es.length | _=>False; rw [hc]; exact ⟨rfl,hle⟩)
 have e : ({ st n l vs cs with rows:=upd (upd (st n l vs cs).rows k ⟨((st n l vs cs).rows k).ver + 1,.dead⟩) kb ⟨((st n l vs cs).rows kb).ver,.ara tb sb (cells.set i (.r (match ((st n l vs cs).rows k).c with | .arr _ _ es=>RV.sl sz ((es.drop off).take m) | .arc _ _ es _=>RV.sl sz ((es.drop off).take m) | _=>.un)))⟩ } : AS)
  = st n l (upd vs k (vs k + 1)) (insc (delc cs k) kb (.ara tb sb (cells.set i (.r (.sl sz ((es.drop off).take m)))))):=by
  simp only [st,AS.mk.injEq,true_and]
  funext j
  rw [lookc_insc,lookc_delc,hc]
  unfold upd
  split
  · rename_i e; subst e; rw [if_neg hne]
  · split <;> rfl
 rwa [e] at this
end
end Go.Oc

namespace Go.Oc
open Go Go.RowKit
set_option linter.unusedVariables false
set_option linter.unusedSimpArgs false
def sAppB (P : Program) (s : AS) (d : Nat) (t t' : TypeId) (x y : AV) : Res :=
 match tyq P t,decide (t = t'),x,y with
 | some ⟨.slice e esz eb _, _, _, _⟩, true, .os k n sz off m, .os j n2 sz2 off2 m2 =>
   match s.rows k,s.rows j with
   | ⟨n',.ara e' sz' cs⟩,⟨n2',.ara e2 sz2' ds⟩=>⟨(n = n' ∧ n2 = n2') ∧ (e' = e ∧ e2 = e) ∧ (sz = esz ∧ sz' = esz ∧ sz2 = esz ∧ sz2' = esz) ∧ (off = 0 ∧ off2 = 0) ∧ (cs.length = m * esz ∧ ds.length = m2 * esz) ∧ (0 < m ∧ 0 < m2 ∧ 0 < esz) ∧ (m + m2) * eb ≤ 140737488355328 ∧ m + m2 ≤ 9223372036854775807 ∧ k < 1000,True,
    ⟨.os k (n' + 1) esz 0 (m + m2),[(k,⟨n' + 1,.ara e esz (cs ++ ds)⟩)]⟩⟩
   | _,_=>.bad
 | some ⟨.slice e esz eb _, _, _, _⟩, true, .r .ns, .os j n2 sz2 off2 m2 =>
   match s.rows j with
   | ⟨n2',.ara e2 sz2' ds⟩=>⟨n2 = n2' ∧ e2 = e ∧ (sz2 = esz ∧ sz2' = esz) ∧ off2 = 0 ∧ ds.length = m2 * esz ∧ (0 < m2 ∧ 0 < esz) ∧ m2 * eb ≤ 140737488355328 ∧ m2 ≤ 9223372036854775807 ∧ d < 1000,True,
    ⟨.os d ((s.rows d).ver + 1) esz 0 m2,[(d,⟨(s.rows d).ver + 1,.ara e esz ds⟩)]⟩⟩
   | _=>.bad
 | _,_,_,_=>.bad
section
variable {P : Program} {C : Ctx} {p : Plan} {s : AS} {a : Act} {w : World} {o : Oper}
theorem ara_read (h : SR C p s a w) {k n esz e m : Nat} {cs : List AV} {x : Operand} (e3 : s.ev x = .os k n esz 0 m) (e5 : s.rows k = ⟨n,.ara e esz cs⟩) (hm : cs.length = m * esz) (h0 : 0 < m) :
 ∃ b cells l rest, p.β k = some b ∧ a.eval x = .slice (some ⟨b, 0, none⟩) m (p.γ k) ∧ w.heap[b]? = some (.cells cells e (0, 0)) ∧ cells.size = p.γ k * esz ∧ cells.toList = l ++ rest ∧ AV.relV w p s.ver cs l ∧ (∀ u ∈ l, u.oneCell' = true) ∧ l.length = m * esz ∧
   m ≤ p.γ k ∧ ∀ j u,l[j]? = some u → w.cell? ((⟨b,0,none⟩ : Addr).add j) = some u:=by
 have hver : n = s.ver k:=by simp [AS.ver,e5]
 have hrow:=h.rw k
 rw [e5] at hrow
 simp only [rowRel] at hrow
 obtain ⟨b,cells,hβ,hh,hcs,l,rest,hl,hV,h1⟩:=hrow
 rcases ev_os h e3 hver with ⟨hb0,_⟩ | ⟨b',A,hβ',hv,hle,hA⟩
 · rw [hb0] at hβ; cases hβ
 · rw [hβ] at hβ'
   injection hβ' with hβ'
   subst hβ'
   obtain rfl:=hA (.inl h0)
   simp only [Nat.zero_mul,Nat.sub_zero,Nat.zero_add] at hv hle
   refine ⟨b,cells,l,rest,hβ,hv,hh,hcs,hl,hV,h1,by rw [AV.relV_length hV,hm],hle,fun j u hj=>?_⟩
   rw [add_at,Nat.zero_add,cell_of_row w b j cells e (0,0) hh,← Array.getElem?_toList,hl,List.getElem?_append_left (List.getElem?_eq_some_iff.1 hj).1]
   exact hj
theorem good_appB {x y : Operand} {t t' : TypeId} (h : SR C p s a w) (ho : o.op = .call ⟨.builtin .append,#[x,y],#[t,t']⟩) (hp : (sAppB P s (o.dst.getD 0) t t' (s.ev x) (s.ev y)).pre) :
 Done P C o s a w (sAppB P s (o.dst.getD 0) t t' (s.ev x) (s.ev y)):=by
 have go : ∀ {v : Value} {w2 : World},(Builtin.append_ #[t,t'] o.type #[a.eval x,a.eval y]).run P w = .ok v w2 → (execOp a.eval o).run P w = .ok (.value v) w2:=fun hr =>
  run_builtin_of ho (by simp only [builtin,Sem.run_bind,List.map_toArray,List.map_cons,List.map_nil,hr,Result.andThen_ok,Sem.run_pure])
 unfold sAppB at hp ⊢
 split at hp
 · rename_i e esz eb ez ssz sagg sz0 k n sz off m j n2 sz2 off2 m2 e1 e2 e3 e4
   obtain rfl : t = t':=by simpa using e2
   split at hp
   · rename_i n' e' sz' cs n2' ee sz2' ds e5 e6
     obtain ⟨⟨g1,g2⟩,⟨g3,g4⟩,⟨g5,g6,g7,g8⟩,⟨g9,g10⟩,⟨hm,hm2⟩,⟨h0,h02,hpos⟩,hb,hmax,hk0⟩:=hp
     subst g1 g2 g3 g4 g5 g6 g7 g8 g9 g10
     have hn2 : n = (s.rows k).ver:=by rw [e5]
     obtain ⟨b,cells,l,rest,hβ,hv,hh,hcs,hl,hV,h1,hll,hle,hget⟩:=ara_read h e3 e5 hm h0
     obtain ⟨bj,cellsj,vs,restj,hβj,hvj,hhj,hcsj,hlj,hVj,h1j,hlv,hlej,hgv⟩:=ara_read h e4 e6 hm2 h02
     obtain ⟨hu,hok,hco,hby,zv,hzv,hez⟩:=tyq_slice e1
     obtain ⟨i,z,hi,hzero,hcells,hz1,hzl⟩:=zeroOf_spec hzv
     rw [cellsOf_info hi] at hco
     rw [bytesOf_info hi] at hby
     by_cases hroom : m + m2 ≤ p.γ k
     · have hfit : m * sz2' + vs.length ≤ cells.size:=by
        rw [hlv,hcs,← Nat.add_mul]; exact Nat.mul_le_mul_right _ hroom
       have hr:=run_append_room (P:=P) w t o.type ee i hu hi b m (p.γ k) cells hh ⟨bj,0,none⟩ m2 (p.γ j) vs (by rw [hlv,hco]) hgv h1j hroom (by rw [hco]; exact hfit)
       rw [hco] at hr
       have htk : cells.toList.take (m * sz2') = l:=by rw [hl,← hll,List.take_left]
       have hSR:=h.reRow (w':=w.setRow b (cells.toList.take (m * sz2') ++ vs ++ cells.toList.drop (m * sz2' + vs.length)).toArray) k hk0 (.ara ee sz2' (cs ++ ds)) rfl (some b) (p.γ k) (h.cap k) rfl rfl rfl (by simp)
        (fun j _ hj=>setRow_other w b j _ (fun e=>hj (by rw [e]; exact hβ))) (fun b2 h2=>by injection h2 with h2; subst h2; exact ⟨by simpa using (h.bl k _ hβ).1,.inl hβ⟩) (fun p' ver' hR' hβ' hγ' hk=>by
        simp only [rowRel]
        rw [hγ']
        refine ⟨b,_,hβ',setRow_heap w b cells _ ee _ hh,?_,l ++ vs,cells.toList.drop (m * sz2' + vs.length),by rw [htk],?_,fun u hu=>(List.mem_append.1 hu).elim (h1 u) (h1j u)⟩
        · simp; omega
        · exact AV.relV_append (AV.relV_mono hk _ _ hV) (AV.relV_mono hk _ _ hVj))
       refine ⟨_,.slice (some ⟨b,0,none⟩) (m + m2) (p.γ k),_,{ p with β:=upd p.β k (some b),γ:=upd p.γ k (p.γ k) },go (by rw [hv,hvj]; exact hr),.inl rfl,trivial,?_,?_⟩
       · rw [rows_one,hn2]; exact hSR
       · rw [rows_one,hn2]
         simp only [AV.rel,vers,upd_same]
         exact ⟨Nat.le_refl _,fun _=>.inr ⟨b,_,rfl,by simp; rfl,by simpa using hroom,fun _=>by simp⟩⟩
     · have hr:=run_append_grow (P:=P) w t o.type ee i z hu hi hzero ⟨b,0,none⟩ m (p.γ k) l (by rw [hll,hco]) hget ⟨bj,0,none⟩ m2 (p.γ j) vs (by rw [hlv,hco]) hgv (by omega) (by omega)
        (growslice_fits (by omega) (by rw [hby]; exact hb))
       have hge:=grownCap_ge w (m + m2) (p.γ k) ee
       have hcap:=grownCap_le_maxLen w (m + m2) (p.γ k) ee (by simp only [maxLen]; omega)
       have hzc : z.cells.size = sz2':=by rw [cellsOf_info hi,hco] at hzl; rw [← hzl,← hcells]; simp
       have hd : SR C p s a w.drew:=h.below (w':=w.drew) ((Below.refl _ _).drew) (fun _ h=>h) (fun _ h=>.inl h) h.rb
       have hVd : AV.relV w.drew p s.ver cs l:=by
        obtain ⟨b3,cells3,hβ3,hh3,_,l3,rest3,hl3,hV3,_⟩ : ∃ b cells,p.β k = some b ∧ w.drew.heap[b]? = some (.cells cells ee (0,0)) ∧ cells.size = p.γ k * sz2' ∧ ∃ l rest,cells.toList = l ++ rest ∧ AV.relV w.drew p s.ver cs l ∧ ∀ u ∈ l,u.oneCell' = true:=by
         have:=hd.rw k
         rw [e5] at this
         simpa only [rowRel] using this
        rw [hβ] at hβ3; injection hβ3 with hβ3; subst hβ3
        have hh3' : w.heap[b]? = some (.cells cells3 ee (0,0)):=hh3
        rw [hh] at hh3'; injection hh3' with hh3'; injection hh3' with hh3'; subst hh3'
        have e7 : l3 = l:=by
         have e8:=AV.relV_length hV3
         rw [hl] at hl3
         have : l.length = l3.length:=by rw [hll,← hm]; exact e8.symm
         exact (List.append_inj hl3 this).1.symm
        subst e7
        exact hV3
       have hVjd : AV.relV w.drew p s.ver ds vs:=by
        obtain ⟨b3,cells3,hβ3,hh3,_,l3,rest3,hl3,hV3,_⟩ : ∃ b cells,p.β j = some b ∧ w.drew.heap[b]? = some (.cells cells ee (0,0)) ∧ cells.size = p.γ j * sz2' ∧ ∃ l rest,cells.toList = l ++ rest ∧ AV.relV w.drew p s.ver ds l ∧ ∀ u ∈ l,u.oneCell' = true:=by
         have:=hd.rw j
         rw [e6] at this
         simpa only [rowRel] using this
        rw [hβj] at hβ3; injection hβ3 with hβ3; subst hβ3
        have hh3' : w.heap[bj]? = some (.cells cells3 ee (0,0)):=hh3
        rw [hhj] at hh3'; injection hh3' with hh3'; injection hh3' with hh3'; subst hh3'
        have e7 : l3 = vs:=by
         have e8:=AV.relV_length hV3
         rw [hlj] at hl3
         have : vs.length = l3.length:=by rw [hlv,← hm2]; exact e8.symm
         exact (List.append_inj hl3 this).1.symm
        subst e7
        exact hV3
       have hn:=hd.newRow k hk0 (.ara ee sz2' (cs ++ ds)) rfl (grownCap w (m + m2) (p.γ k) ee) hcap
        (.cells (l.toArray ++ vs.toArray ++ Builtin.zeroCells z.cells (grownCap w (m + m2) (p.γ k) ee - (m + m2))) ee) (fun p' ver' _ hβ hγ hk=>by
        simp only [rowRel]
        rw [hγ]
        refine ⟨_,_,hβ,heap_alloc_new w.drew _,?_,l ++ vs,(Builtin.zeroCells z.cells (grownCap w (m + m2) (p.γ k) ee - (m + m2))).toList,?_,AV.relV_append (AV.relV_mono hk _ _ hVd) (AV.relV_mono hk _ _ hVjd),fun u hu=>(List.mem_append.1 hu).elim (h1 u) (h1j u)⟩
        · rw [Array.size_append,Array.size_append,size_zero,hzc,List.size_toArray,List.size_toArray,hll,hlv,← Nat.add_mul,← Nat.add_mul]
          congr 1; omega
        · simp only [Array.toList_append,List.append_assoc])
       refine ⟨_,_,_,_,go (by rw [hv,hvj]; exact hr),.inl rfl,trivial,by rw [rows_one,hn2]; exact hn,?_⟩
       rw [rows_one,hn2]
       simp only [AV.rel,vers,upd_same]
       exact ⟨Nat.le_refl _,fun _=>.inr ⟨_,_,rfl,by simp; rfl,by simpa using hge,fun _=>by simp⟩⟩
   · exact hp.elim
 · rename_i e esz eb ez ssz sagg sz0 j n2 sz2 off2 m2 e1 e2 e3 e4
   obtain rfl : t = t':=by simpa using e2
   split at hp
   · rename_i n2' ee sz2' ds e6
     obtain ⟨g2,g4,⟨g7,g8⟩,g10,hm2,⟨h02,hpos⟩,hb,hmax,hd0⟩:=hp
     subst g2 g4 g7 g8 g10
     obtain ⟨A,hv⟩:=ev_ns h e3
     obtain ⟨bj,cellsj,vs,restj,hβj,hvj,hhj,hcsj,hlj,hVj,h1j,hlv,hlej,hgv⟩:=ara_read h e4 e6 hm2 h02
     obtain ⟨hu,hok,hco,hby,zv,hzv,hez⟩:=tyq_slice e1
     obtain ⟨i,z,hi,hzero,hcells,hz1,hzl⟩:=zeroOf_spec hzv
     rw [cellsOf_info hi] at hco
     rw [bytesOf_info hi] at hby
     have hrun : (Builtin.append_ #[t,t] o.type #[.slice A 0 0,.slice (some ⟨bj,0,none⟩) m2 (p.γ j)]).run P w =
      .ok (.slice (some ⟨w.heap.size,0,none⟩) m2 (grownCap w m2 0 ee)) (w.drew.alloc (.cells (vs.toArray ++ Builtin.zeroCells z.cells (grownCap w m2 0 ee - m2)) ee)):=by
      cases A with
      | none=>exact run_append_nil (P:=P) w t o.type ee i z hu hi hzero ⟨bj,0,none⟩ m2 (p.γ j) vs (by rw [hlv,hco]) hgv h02 (by omega) (by rw [hby]; omega)
      | some b =>
        have:=run_append_grow (P:=P) w t o.type ee i z hu hi hzero b 0 0 [] (by simp) (by simp) ⟨bj,0,none⟩ m2 (p.γ j) vs (by rw [hlv,hco]) hgv (by omega) (by omega) (growslice_fits (by omega) (by rw [hby]; simpa using hb))
        simpa using this
     have hge:=grownCap_ge w m2 0 ee
     have hcap:=grownCap_le_maxLen w m2 0 ee (by simp only [maxLen]; omega)
     have hzc : z.cells.size = sz2':=by rw [cellsOf_info hi,hco] at hzl; rw [← hzl,← hcells]; simp
     have hd : SR C p s a w.drew:=h.below (w':=w.drew) ((Below.refl _ _).drew) (fun _ h=>h) (fun _ h=>.inl h) h.rb
     have hVjd : AV.relV w.drew p s.ver ds vs:=by
      obtain ⟨b3,cells3,hβ3,hh3,_,l3,rest3,hl3,hV3,_⟩ : ∃ b cells,p.β j = some b ∧ w.drew.heap[b]? = some (.cells cells ee (0,0)) ∧ cells.size = p.γ j * sz2' ∧ ∃ l rest,cells.toList = l ++ rest ∧ AV.relV w.drew p s.ver ds l ∧ ∀ u ∈ l,u.oneCell' = true:=by
       have:=hd.rw j
       rw [e6] at this
       simpa only [rowRel] using this
      rw [hβj] at hβ3; injection hβ3 with hβ3; subst hβ3
      have hh3' : w.heap[bj]? = some (.cells cells3 ee (0,0)):=hh3
      rw [hhj] at hh3'; injection hh3' with hh3'; injection hh3' with hh3'; subst hh3'
      have e7 : l3 = vs:=by
       have e8:=AV.relV_length hV3
       rw [hlj] at hl3
       have : vs.length = l3.length:=by rw [hlv,← hm2]; exact e8.symm
       exact (List.append_inj hl3 this).1.symm
      subst e7
      exact hV3
     have hn:=hd.newRow (o.dst.getD 0) hd0 (.ara ee sz2' ds) rfl (grownCap w m2 0 ee) hcap
      (.cells (vs.toArray ++ Builtin.zeroCells z.cells (grownCap w m2 0 ee - m2)) ee) (fun p' ver' _ hβ hγ hk=>by
      simp only [rowRel]
      rw [hγ]
      refine ⟨_,_,hβ,heap_alloc_new w.drew _,?_,vs,(Builtin.zeroCells z.cells (grownCap w m2 0 ee - m2)).toList,?_,AV.relV_mono hk _ _ hVjd,h1j⟩
      · rw [Array.size_append,size_zero,hzc,List.size_toArray,hlv,← Nat.add_mul]
        congr 1; omega
      · simp only [Array.toList_append])
     refine ⟨_,_,_,_,go (by rw [hv,hvj]; exact hrun),.inl rfl,trivial,by rw [rows_one]; exact hn,?_⟩
     rw [rows_one]
     simp only [AV.rel,vers,upd_same]
     exact ⟨Nat.le_refl _,fun _=>.inr ⟨_,_,rfl,by simp; rfl,by simpa using hge,fun _=>by simp⟩⟩
   · exact hp.elim
 · exact hp.elim
variable {Q : Exit → AS → Prop} {ops : Array Oper}
theorem sops_appB {l : List Oper} {t t' : TypeId} {x y : Operand} {d : Nat} {ty : TypeId} {pos : String} {af : Array Edge} (hdn : d < s.n)
 (h : aR s (some d) (sAppB P s d t t' (s.ev x) (s.ev y)) (fun s'=>sops P C ops l Q s')) : sops P C ops (⟨some d,.call ⟨.builtin .append,#[x,y],#[t,t']⟩,ty,pos,af,none⟩ :: l) Q s:=fun a w ⟨p,hs⟩=>by
 unfold wpListIn
 rw [if_pos (wantA_sound hs (by simp [wantA]))]
 refine wpIn_of_wp (by intro c h; cases h) ?_
 obtain ⟨nx,v,w',p',hrun,hnx,hass,hSR,hrel⟩:=good_appB (o:=⟨some d,.call ⟨.builtin .append,#[x,y],#[t,t']⟩,ty,pos,af,none⟩) hs rfl h.1
 unfold Oper.wp
 rw [hrun]
 have hput:=hSR.put' (d:=some d) hrel (fun t ht=>by injection ht with ht; subst ht; exact hdn)
 rcases hnx with rfl | ⟨rfl,rfl⟩
 · exact h.2 hass _ _ ⟨p',hput⟩
 · exact h.2 hass _ _ ⟨p',hput⟩
end
end Go.Oc

namespace Go.Oc
open Go Go.RowKit
set_option linter.unusedVariables false
set_option linter.unusedSimpArgs false
def fam (f : Nat → RowC) : Nat → List (Nat × RowC)
 | 0=>[]
 | n + 1=>fam f n ++ [(n + 600,f n)]
theorem lookc_app : ∀ {a b : List (Nat × RowC)} {k : Nat},(∀ x ∈ a,x.1 ≠ k) → lookc (a ++ b) k = lookc b k
 | [],_,_,_=>rfl
 | (j, c) :: a, b, k, h => by
   have h1:=h (j,c) (by simp)
   simp only [List.cons_append,lookc_cons,if_neg (fun e : k = j=>h1 e.symm)]
   exact lookc_app fun x hx=>h x (by simp [hx])
theorem lookc_app1 : ∀ {a : List (Nat × RowC)} {j k : Nat} {c : RowC},j ≠ k → lookc (a ++ [(j,c)]) k = lookc a k
 | [],j,k,c,h=>by simp only [List.nil_append,lookc_cons,if_neg (fun e : k = j=>h e.symm)]
 | (i, u) :: a, j, k, c, h => by
   simp only [List.cons_append,lookc_cons,lookc_app1 h]
theorem fam_keys {f : Nat → RowC} : ∀ {n : Nat} {x : Nat × RowC},x ∈ fam f n → 600 ≤ x.1 ∧ x.1 < n + 600
 | n + 1, x, h => by
   simp only [fam,List.mem_append,List.mem_singleton] at h
   rcases h with h | rfl
   · have:=fam_keys h; omega
   · simp only; omega
theorem lookc_fam {f : Nat → RowC} : ∀ {n i : Nat},i < n → lookc (fam f n) (i + 600) = f i
 | n + 1, i, h => by
   simp only [fam]
   by_cases e : i = n
   · subst e
     rw [lookc_app fun x hx=>by have:=fam_keys hx; omega]
     simp only [lookc_cons,if_true]
   · rw [lookc_app1 (by omega)]
     exact lookc_fam (by omega)
theorem insc_app_gt : ∀ {a : List (Nat × RowC)} {k : Nat} {c : RowC},(∀ x ∈ a,x.1 < k) → insc a k c = a ++ [(k,c)]
 | [],_,_,_=>rfl
 | (j, u) :: a, k, c, h => by
   have h1:=h (j,u) (by simp)
   simp only at h1
   have ih:=insc_app_gt (a:=a) (k:=k) (c:=c) fun x hx=>h x (List.mem_cons_of_mem _ hx)
   simp only [insc,if_neg (show ¬ k = j by omega),if_neg (show ¬ k < j by omega),List.cons_append,ih]
theorem insc_fam_new {f : Nat → RowC} {n : Nat} {c : RowC} : insc (fam f n) (n + 600) c = fam (upd f n c) (n + 1):=by
 rw [insc_app_gt fun x hx=>(fam_keys hx).2]
 have e : ∀ m,m ≤ n → fam (upd f n c) m = fam f m:=fun m=>by
  induction m with
  | zero=>intro _; rfl
  | succ m ih =>
    intro hm
    simp only [fam,ih (by omega),upd,if_neg (show ¬ m = n by omega)]
 simp only [fam,e n (Nat.le_refl _),upd,if_true]
theorem insc_app_lt : ∀ {a b : List (Nat × RowC)} {k : Nat} {c : RowC},(∃ x ∈ a,x.1 = k) → (a.Pairwise fun x y=>x.1 < y.1) → insc (a ++ b) k c = insc a k c ++ b
 | (j, u) :: a, b, k, c, ⟨x, hx, e⟩, hp => by
   obtain ⟨p1,p2⟩:=List.pairwise_cons.1 hp
   by_cases h : k = j
   · simp only [List.cons_append,insc,if_pos h]
   · have hxa : x ∈ a:=by
      rcases List.mem_cons.1 hx with rfl | hx
      · exact absurd e.symm h
      · exact hx
     have h1:=p1 x hxa
     simp only at h1
     simp only [List.cons_append,insc,if_neg h,if_neg (show ¬ k < j by omega),insc_app_lt (b:=b) (c:=c) ⟨x,hxa,e⟩ p2]
theorem fam_pw {f : Nat → RowC} : ∀ n,(fam f n).Pairwise fun x y=>x.1 < y.1
 | 0=>by simp [fam]
 | n + 1 => by
   simp only [fam]
   refine List.pairwise_append.2 ⟨fam_pw n,by simp,fun x hx y hy=>?_⟩
   rw [List.mem_singleton] at hy
   subst hy
   exact (fam_keys hx).2
theorem fam_mem {f : Nat → RowC} : ∀ {n i : Nat},i < n → (i + 600,f i) ∈ fam f n
 | n + 1, i, h => by
   simp only [fam,List.mem_append,List.mem_singleton]
   by_cases e : i = n
   · subst e; exact .inr rfl
   · exact .inl (fam_mem (by omega))
theorem fam_congr {f g : Nat → RowC} : ∀ {n : Nat},(∀ i,i < n → f i = g i) → fam f n = fam g n
 | 0,_=>rfl
 | n + 1, h => by
   have ih : fam f n = fam g n:=fam_congr fun i hi=>h i (by omega)
   simp only [fam,ih,h n (by omega)]
theorem insc_fam {f : Nat → RowC} {c : RowC} : ∀ {n i : Nat},i < n → insc (fam f n) (i + 600) c = fam (upd f i c) n
 | n + 1, i, h => by
   simp only [fam]
   by_cases e : i = n
   · subst e
     have:=insc_fam_new (f:=f) (n:=i) (c:=c)
     have e1 : ∀ a : List (Nat × RowC),(∀ x ∈ a,x.1 < i + 600) → insc (a ++ [(i + 600,f i)]) (i + 600) c = a ++ [(i + 600,c)]:=fun a=>by
      induction a with
      | nil=>intro _; simp only [List.nil_append,insc,if_true]
      | cons y a ih =>
        intro ha
        obtain ⟨j,u⟩:=y
        have h1:=ha (j,u) (by simp)
        simp only at h1
        simp only [List.cons_append,insc,if_neg (show ¬ i + 600 = j by omega),if_neg (show ¬ i + 600 < j by omega),ih fun x hx=>ha x (by simp [hx])]
     rw [e1 _ fun x hx=>(fam_keys hx).2,fam_congr (g:=upd f i c) fun j hj=>by simp [upd,show j ≠ i by omega]]
     simp only [upd,if_true]
   · rw [insc_app_lt ⟨_,fam_mem (show i < n by omega),rfl⟩ (fam_pw n),insc_fam (by omega)]
     simp only [upd,if_neg (show ¬ n = i by omega)]
theorem insc_fam_lt {f : Nat → RowC} {n k : Nat} {c : RowC} (h : k < 600) : insc (fam f n) k c = (k,c) :: fam f n:=by
 cases hf : fam f n with
 | nil=>rfl
 | cons y l =>
   obtain ⟨j,u⟩:=y
   have:=fam_keys (f:=f) (n:=n) (x:=(j,u)) (by rw [hf]; simp)
   simp only at this
   simp only [insc,if_neg (show ¬ k = j by omega),if_pos (show k < j by omega)]
theorem delc_none : ∀ {a : List (Nat × RowC)} {k : Nat},(∀ x ∈ a,x.1 ≠ k) → delc a k = a
 | [],_,_=>rfl
 | (j, u) :: a, k, h => by
   have h1:=h (j,u) (by simp)
   have ih:=delc_none (a:=a) (k:=k) fun x hx=>h x (List.mem_cons_of_mem _ hx)
   simp only [delc,if_neg (fun e : k = j=>h1 e.symm),ih]
theorem delc_fam_lt {f : Nat → RowC} {n k : Nat} (h : k < 600) : delc (fam f n) k = fam f n:=delc_none fun x hx=>by have:=fam_keys hx; omega
theorem delc_fam_last {f : Nat → RowC} {n : Nat} : delc (fam f (n + 1)) (n + 600) = fam f n:=by
 simp only [fam]
 have : ∀ a : List (Nat × RowC),(∀ x ∈ a,x.1 ≠ n + 600) → delc (a ++ [(n + 600,f n)]) (n + 600) = a:=fun a=>by
  induction a with
  | nil=>intro _; simp [delc]
  | cons y a ih =>
    intro ha
    obtain ⟨j,u⟩:=y
    have h1:=ha (j,u) (by simp)
    simp only at h1
    simp only [List.cons_append,delc,if_neg (fun e : n + 600 = j=>h1 e.symm),ih fun x hx=>ha x (by simp [hx])]
 exact this _ fun x hx=>by have:=fam_keys hx; omega
end Go.Oc

namespace Go.Proofs.Ytgkejinoaommeaa
open Go Go.Oc
set_option linter.unusedSimpArgs false
set_option linter.unusedVariables false
set_option maxRecDepth 8000
set_option maxHeartbeats 2000000
abbrev lwC (x : Lw) : List RV:=[.sl 1 (x.which.map fun n=>[.it .u16 n]),u8s x.low,u8s x.more,.it .u8 x.rest]
theorem mbyteOf_ok (l : List Int) (i : Nat) : ACalls Try.prog 33 [u8s l,i64 i] (.it .u8 (byteL l i)):=by
 refine acalls_st (rs:=[.it .u8 (byteL l i)]) [.tmp 4] Try.func33 rfl (by kernel_rfl) Try.ntmps33 rfl (by simp) rfl fun C vs=>?_
 repeat refine zq ?_
 refine zb (by kernel_rfl) fun K hK=>?_
 simp only [go_sem]
 (try simp (disch:=omega) only [zI])
 repeat first | intro _ | refine ⟨by omega,?_⟩ | refine ⟨⟨by omega,by omega⟩,?_⟩
 refine hK _ ?_
 clear hK K
 refine zw (zk [0,1]) ?_
 simp only [go_sem]
 by_cases h : l = []
 · subst h
   repeat refine zq ?_
   refine zb (by kernel_rfl) fun K hK=>?_
   simp only [go_sem]
   (try simp (disch:=omega) only [zI])
   repeat first | intro _ | refine ⟨by omega,?_⟩ | refine ⟨⟨by omega,by omega⟩,?_⟩
   refine hK _ ?_
   clear hK K
   refine zw (zk [0,1,7]) ?_
   simp only [go_sem]
   repeat refine zq ?_
   refine zc rfl (fun hc=>?_) (fun hc=>?_) <;> (try simp only [go_sem] at hc)
   repeat refine zq ?_
   refine zb (by kernel_rfl) fun K hK=>?_
   simp only [go_sem]
   (try simp (disch:=omega) only [zI])
   repeat first | intro _ | refine ⟨by omega,?_⟩ | refine ⟨⟨by omega,by omega⟩,?_⟩
   refine hK _ ?_
   clear hK K
   refine zw (zk [4]) ?_
   simp only [go_sem]
   refine ze ?_
   simp only [go_sem]
   rfl
 · have hp : 0 < l.length:=List.length_pos_iff.2 h
   have c : ((l.length : Int) == 0) = false:=by simp; omega
   have hm : i % l.length < l.length:=Nat.mod_lt _ hp
   obtain ⟨x,hx⟩:=opt_of_lt hm
   have ht : (i : Int).tmod (l.length : Int) = ((i % l.length : Nat) : Int):=(Int.ofNat_tmod _ _).symm
   repeat refine zq ?_
   refine zb (by kernel_rfl) fun K hK=>?_
   simp only [go_sem,c]
   (try simp (disch:=omega) only [zI])
   intros
   repeat first | intro _ | refine ⟨by omega,?_⟩ | refine ⟨⟨by omega,by omega⟩,?_⟩
   refine hK _ ?_
   clear hK K
   refine zw (zk [0,1,7]) ?_
   simp only [go_sem]
   repeat refine zq ?_
   refine zc rfl (fun hc=>?_) (fun hc=>?_) <;> (try simp only [go_sem] at hc)
   refine zx ?_
   try simp only [go_sem]
   repeat refine zq ?_
   refine zb (by kernel_rfl) fun K hK=>?_
   simp only [go_sem,ht,hx,hm]
   (try simp (disch:=omega) only [zI])
   intros
   refine ⟨by omega,?_⟩
   repeat first | intro _ | refine ⟨by omega,?_⟩ | refine ⟨⟨by omega,by omega⟩,?_⟩
   refine hK _ ?_
   clear hK K
   refine zw (zk [4]) ?_
   simp only [go_sem]
   refine ze ?_
   simp only [go_sem]
   simp [byteL,h,List.getD_eq_getElem?_getD,hx]
theorem mto_ok (a b : Int) : ACalls Try.prog 38 [i64 a,i64 b] (.ag [i64 a,i64 b]):=by
 refine acalls_st (rs:=[.ag [i64 a,i64 b]]) [.cell 4 46] Try.func38 rfl (by kernel_rfl) Try.ntmps38 rfl (by simp) rfl fun C vs=>?_
 repeat refine zq ?_
 refine zb (by kernel_rfl) fun K hK=>?_
 simp only [go_sem]
 (try simp (disch:=omega) only [zI])
 repeat first | intro _ | refine ⟨by omega,?_⟩ | refine ⟨⟨by omega,by omega⟩,?_⟩
 refine hK _ ?_
 clear hK K
 refine zw (zk [0,1,2,3,4]) ?_
 simp only [go_sem]
 repeat refine zq ?_
 refine zb (by kernel_rfl) fun K hK=>?_
 simp only [go_sem]
 (try simp (disch:=omega) only [zI])
 repeat first | intro _ | refine ⟨by omega,?_⟩ | refine ⟨⟨by omega,by omega⟩,?_⟩
 refine hK _ ?_
 clear hK K
 refine zw (zk [4]) ?_
 simp only [go_sem]
 refine ze ?_
 simp only [go_sem]
theorem mbeds_ok : ACalls Try.prog 37 [] (ints beds13):=by
 refine acalls_st (rs:=[ints beds13]) [.tmp 0] Try.func37 rfl (by kernel_rfl) Try.ntmps37 rfl (by simp) rfl fun C vs=>?_
 repeat refine zq ?_
 refine zb (by kernel_rfl) fun K hK=>?_
 simp only [go_sem]
 (try simp (disch:=omega) only [zI])
 repeat first | intro _ | refine ⟨by omega,?_⟩ | refine ⟨⟨by omega,by omega⟩,?_⟩
 refine hK _ ?_
 clear hK K
 refine zw (zk []) ?_
 simp only [go_sem]
 repeat refine zq ?_
 refine zb (by kernel_rfl) fun K hK=>?_
 simp only [go_sem]
 (try simp (disch:=omega) only [zI])
 repeat first | intro _ | refine ⟨by omega,?_⟩ | refine ⟨⟨by omega,by omega⟩,?_⟩
 refine hK _ ?_
 clear hK K
 refine zw (zk [0]) ?_
 simp only [go_sem]
 refine ze ?_
 simp only [go_sem]
 simp [beds13]
theorem sumsA_ok (a : Am) (h : ∀ c ∈ a.beds,(0 ≤ c.lo ∧ c.lo ≤ 100000) ∧ 0 ≤ c.hi ∧ c.hi ≤ 100000) (hl : a.beds.length ≤ 1000) : ACalls Try.prog 63 [.ag [i64 a.at_,bedsR a.beds]] (.tu [i64 (loS a.beds),i64 (hiS a.beds)]):=by
 have hb : ∀ i,i ≤ a.beds.length → (0 ≤ loS (a.beds.take i) ∧ loS (a.beds.take i) ≤ 100000 * i) ∧ 0 ≤ hiS (a.beds.take i) ∧ hiS (a.beds.take i) ≤ 100000 * i:=fun i=>by
  induction i with
  | zero=>intro _; simp [loS,hiS]
  | succ i ih =>
    intro hi
    obtain ⟨c,hc⟩:=opt_of_lt (show i < a.beds.length by omega)
    obtain ⟨q1,q2⟩:=h c (mem_of_opt hc)
    obtain ⟨⟨p1,p2⟩,p3,p4⟩:=ih (by omega)
    have e1 : loS (a.beds.take (i + 1)) = loS (a.beds.take i) + c.lo:=by rw [take_of_opt hc]; simp [loS]
    have e2 : hiS (a.beds.take (i + 1)) = hiS (a.beds.take i) + c.hi:=by rw [take_of_opt hc]; simp [hiS]
    rw [e1,e2]; omega
 refine acalls_st (rs:=[i64 (loS a.beds),i64 (hiS a.beds)]) [.tmp 2,.tmp 3] Try.func63 rfl (by kernel_rfl) Try.ntmps63 rfl (by simp) rfl fun C vs=>?_
 repeat refine zq ?_
 refine zb (by kernel_rfl) fun K hK=>?_
 simp only [go_sem]
 (try simp (disch:=omega) only [zI])
 repeat first | intro _ | refine ⟨by omega,?_⟩ | refine ⟨⟨by omega,by omega⟩,?_⟩
 refine hK _ ?_
 clear hK K
 refine zw (sub_frzP 1 1 [i64 a.at_,bedsR a.beds] (by omega) rfl rfl) ?_
 refine zw (zk [1]) ?_
 simp only [go_sem]
 repeat refine zq ?_
 refine zb (by kernel_rfl) fun K hK=>?_
 simp only [go_sem]
 (try simp (disch:=omega) only [zI])
 repeat first | intro _ | refine ⟨by omega,?_⟩ | refine ⟨⟨by omega,by omega⟩,?_⟩
 refine hK _ ?_
 clear hK K
 refine zw (zk [1,4,5]) ?_
 simp only [go_sem]
 repeat refine zq ?_
 refine zb (by kernel_rfl) fun K hK=>?_
 simp only [go_sem]
 (try simp (disch:=omega) only [zI])
 repeat first | intro _ | refine ⟨by omega,?_⟩ | refine ⟨⟨by omega,by omega⟩,?_⟩
 refine hK _ ?_
 clear hK K
 refine zw (zk [1,4,5,6]) ?_
 simp only [go_sem]
 repeat refine zq ?_
 refine zd ?_
 refine awp_upto (n:=34) a.beds.length (fun i vs=>[(1,.r (.rp [i64 a.at_,bedsR a.beds])),(4,.r (i64 (loS (a.beds.take i)))),(5,.r (i64 (hiS (a.beds.take i)))),(6,.r (i64 (i : Int)))])
  (fun i=>[]) (fun _=>True) 0 (fit_of [] ?_ ?_) (Nat.zero_le _) trivial ?_
 · try simp only [go_sem]
   simp [loS,hiS]
 · try simp only [go_sem]
 · intro i vs hi _
   repeat refine zq ?_
   refine zb (by kernel_rfl) fun K hK=>?_
   simp only [go_sem]
   (try simp (disch:=omega) only [zI])
   repeat first | intro _ | refine ⟨by omega,?_⟩ | refine ⟨⟨by omega,by omega⟩,?_⟩
   refine hK _ ?_
   clear hK K
   refine zw (zk [1,4,5,6,11]) ?_
   simp only [go_sem]
   repeat refine zq ?_
   refine zc rfl (fun hc=>?_) (fun hc=>?_) <;> (try simp only [go_sem] at hc)
   · have hci : i < a.beds.length:=by omega
     obtain ⟨c,hc1⟩:=opt_of_lt hci
     obtain ⟨q1,q2⟩:=h c (mem_of_opt hc1)
     obtain ⟨⟨p1,p2⟩,p3,p4⟩:=hb i (by omega)
     have e1 : loS (a.beds.take (i + 1)) = loS (a.beds.take i) + c.lo:=by rw [take_of_opt hc1]; simp [loS]
     have e2 : hiS (a.beds.take (i + 1)) = hiS (a.beds.take i) + c.hi:=by rw [take_of_opt hc1]; simp [hiS]
     refine zx ?_
     try simp only [go_sem]
     repeat refine zq ?_
     refine zd ?_
     repeat refine zq ?_
     refine zg follows (by decide +kernel) (by kernel_rfl) fun K hK=>?_
     simp only [go_sem,hc1,hci,bedR]
     (try simp (disch:=omega) only [zI])
     repeat first | intro _ | refine ⟨by omega,?_⟩ | refine ⟨⟨by omega,by omega⟩,?_⟩
     refine hK _ ?_
     clear hK K
     refine zw (zk [1,4,5,6]) ?_
     simp only [go_sem]
     repeat refine zq ?_
     refine zb (by kernel_rfl) fun K hK=>?_
     simp only [go_sem]
     (try simp (disch:=omega) only [zI])
     repeat first | intro _ | refine ⟨by omega,?_⟩ | refine ⟨⟨by omega,by omega⟩,?_⟩
     refine hK _ ?_
     clear hK K
     try simp only [go_sem]
     refine ⟨hci,fit_of [] ?_ ?_⟩
     · try simp only [go_sem]
       rw [e1,e2]
       exact ⟨rfl,rfl⟩
     · try simp only [go_sem]
   · have hie : i = a.beds.length:=by omega
     subst hie
     rw [List.take_length]
     refine zf ?_
     simp only [go_sem]
     refine zw (zk [4,5]) ?_
     simp only [go_sem]
     repeat refine zq ?_
     refine zb (by kernel_rfl) fun K hK=>?_
     simp only [go_sem]
     (try simp (disch:=omega) only [zI])
     repeat first | intro _ | refine ⟨by omega,?_⟩ | refine ⟨⟨by omega,by omega⟩,?_⟩
     refine hK _ ?_
     clear hK K
     refine zw (zk [2,3]) ?_
     simp only [go_sem]
     refine ze ?_
     simp only [go_sem]
def mkG (x : Lw) (most : Int) (j : Nat) : RowC:=.arr 67 3 ((bedsM x most j).map bedR)
def araC (x : Lw) (most : Int) (vs : Nat → Nat) : Nat → List AV
 | 0=>[]
 | n + 1=>araC x most vs n ++ [.r (i64 (atM n)),.os (n + 600) (vs (n + 600)) 3 0 (bedsM x most n).length]
def mkX (i : Nat) (vs : Nat → Nat) : AV:=if i = 0 then .r .ns else .os 110 (vs 110) 2 0 i
def mkA (x : Lw) (most : Int) (i : Nat) (vs : Nat → Nat) : List (Nat × RowC):=if i = 0 then [] else [(110,.ara 36 2 (araC x most vs i))]
def mkR (x : Lw) (most : Int) (i : Nat) (vs : Nat → Nat) : List (Nat × RowC):=(4,.box [.r (i64 0),.r .ns]) :: (5,.box [.r (i64 0),mkX i vs]) :: (mkA x most i vs ++ fam (mkG x most) i)
theorem insc_lt {T : List (Nat × RowC)} {k : Nat} {c : RowC} (h : ∀ x ∈ T,k < x.1) : insc T k c = (k,c) :: T:=by
 cases T with
 | nil=>rfl
 | cons y T =>
   obtain ⟨j,u⟩:=y
   have:=h (j,u) (by simp)
   simp only at this
   simp only [insc,if_neg (show ¬ k = j by omega),if_pos (show k < j by omega)]
theorem mkA_keys {x : Lw} {most : Int} {i : Nat} {vs : Nat → Nat} {y : Nat × RowC} (h : y ∈ mkA x most i vs) : y.1 = 110:=by
 unfold mkA at h
 split at h
 · simp at h
 · rw [List.mem_singleton] at h; rw [h]
theorem tl_keys {x : Lw} {most : Int} {i n : Nat} {vs : Nat → Nat} {F : Nat → RowC} {y : Nat × RowC} (h : y ∈ mkA x most i vs ++ fam F n) : 109 < y.1:=by
 rcases List.mem_append.1 h with h | h
 · have:=mkA_keys h; omega
 · have:=fam_keys h; omega
theorem tl_ins {x : Lw} {most : Int} {i n k : Nat} {vs : Nat → Nat} {F : Nat → RowC} {c : RowC} (hk : k < 110) : insc (mkA x most i vs ++ fam F n) k c = (k,c) :: (mkA x most i vs ++ fam F n):=insc_lt fun y hy=>by have:=tl_keys hy; omega
theorem tl_look {x : Lw} {most : Int} {i n j : Nat} {vs : Nat → Nat} {F : Nat → RowC} (h : j < n) : lookc (mkA x most i vs ++ fam F n) (j + 600) = F j:=by
 rw [lookc_app fun y hy=>by have:=mkA_keys hy; omega,lookc_fam h]
theorem insc_skip : ∀ {a b : List (Nat × RowC)} {k : Nat} {c : RowC},(∀ x ∈ a,x.1 < k) → insc (a ++ b) k c = a ++ insc b k c
 | [],_,_,_,_=>rfl
 | (j, u) :: a, b, k, c, h => by
   have h1:=h (j,u) (by simp)
   simp only at h1
   have ih:=insc_skip (a:=a) (b:=b) (k:=k) (c:=c) fun x hx=>h x (List.mem_cons_of_mem _ hx)
   simp only [List.cons_append,insc,if_neg (show ¬ k = j by omega),if_neg (show ¬ k < j by omega),ih]
theorem tl_insN {x : Lw} {most : Int} {i n : Nat} {vs : Nat → Nat} {F : Nat → RowC} {c : RowC} : insc (mkA x most i vs ++ fam F n) (n + 600) c = mkA x most i vs ++ fam (upd F n c) (n + 1):=by
 rw [insc_skip fun y hy=>by have:=mkA_keys hy; omega,insc_fam_new]
theorem tl_insI {x : Lw} {most : Int} {i n j : Nat} {vs : Nat → Nat} {F : Nat → RowC} {c : RowC} (h : j < n) : insc (mkA x most i vs ++ fam F n) (j + 600) c = mkA x most i vs ++ fam (upd F j c) n:=by
 rw [insc_skip fun y hy=>by have:=mkA_keys hy; omega,insc_fam h]
theorem upd_upd {α : Type} (f : Nat → α) (k : Nat) (u v : α) : upd (upd f k u) k v = upd f k v:=by
 funext j; unfold upd; split <;> rfl
theorem araC_congr {x : Lw} {most : Int} {v v' : Nat → Nat} : ∀ {n : Nat},(∀ j,j < n → v (j + 600) = v' (j + 600)) → araC x most v n = araC x most v' n
 | 0,_=>rfl
 | n + 1, h => by
   have ih : araC x most v n = araC x most v' n:=araC_congr fun j hj=>h j (by omega)
   simp only [araC,ih,h n (by omega)]
theorem araC_upd {x : Lw} {most : Int} {n k a : Nat} {v : Nat → Nat} (h : k < 600) : araC x most (upd v k a) n = araC x most v n:=araC_congr fun j hj=>by unfold upd; rw [if_neg (by omega)]
theorem araC_len {x : Lw} {most : Int} {v : Nat → Nat} : ∀ {n : Nat},(araC x most v n).length = n * 2
 | 0=>rfl
 | n + 1=>by simp only [araC,List.length_append,araC_len (n:=n),List.length_cons,List.length_nil]; omega
theorem upd_self {α : Type} (f : Nat → α) (k : Nat) : upd f k (f k) = f:=by
 funext j; unfold upd; split
 · rename_i e; rw [e]
 · rfl
theorem mkA_upd {x : Lw} {most : Int} {i k a : Nat} {v : Nat → Nat} (h : k < 600 ∨ i + 600 ≤ k) : mkA x most i (upd v k a) = mkA x most i v:=by
 unfold mkA
 rw [araC_congr (v:=upd v k a) (v':=v) fun j hj=>by unfold upd; rw [if_neg (by omega)]]
theorem mkX_upd {i k a : Nat} {v : Nat → Nat} (h : k ≠ 110) : mkX i (upd v k a) = mkX i v:=by
 unfold mkX upd; rw [if_neg (show ¬ 110 = k by omega)]
def araG (A : Nat → Am) (vs : Nat → Nat) : Nat → List AV
 | 0=>[]
 | n + 1=>araG A vs n ++ [.r (i64 (A n).at_),.os (n + 600) (vs (n + 600)) 3 0 (A n).beds.length]
theorem araG_len {A : Nat → Am} {v : Nat → Nat} : ∀ {n : Nat},(araG A v n).length = n * 2
 | 0=>rfl
 | n + 1=>by simp only [araG,List.length_append,araG_len (n:=n),List.length_cons,List.length_nil]; omega
theorem araG_congr {A B : Nat → Am} {v v' : Nat → Nat} : ∀ {n : Nat},(∀ j,j < n → v (j + 600) = v' (j + 600) ∧ (A j).at_ = (B j).at_ ∧ (A j).beds.length = (B j).beds.length) → araG A v n = araG B v' n
 | 0,_=>rfl
 | n + 1, h => by
   have ih : araG A v n = araG B v' n:=araG_congr fun j hj=>h j (by omega)
   obtain ⟨h1,h2,h3⟩:=h n (by omega)
   simp only [araG,ih,h1,h2,h3]
theorem araG_upd {A : Nat → Am} {n k a : Nat} {v : Nat → Nat} (h : k < 600) : araG A (upd v k a) n = araG A v n:=araG_congr fun j hj=>by
 refine ⟨?_,rfl,rfl⟩
 unfold upd; rw [if_neg (by omega)]
theorem araG_take {A : Nat → Am} {v : Nat → Nat} : ∀ {n i : Nat},i < n → ((araG A v n).drop (i * 2)).take 2 = [.r (i64 (A i).at_),.os (i + 600) (v (i + 600)) 3 0 (A i).beds.length]
 | n + 1, i, h => by
   simp only [araG]
   by_cases e : i = n
   · subst e
     rw [List.drop_append_of_le_length (by rw [araG_len]; exact Nat.le_refl _),List.drop_eq_nil_of_le (by rw [araG_len]; exact Nat.le_refl _)]
     rfl
   · have hi : i < n:=by omega
     have ih:=araG_take (A:=A) (v:=v) hi
     rw [List.drop_append_of_le_length (by rw [araG_len]; omega),List.take_append_of_le_length (by rw [List.length_drop,araG_len]; omega)]
     exact ih
theorem araG_at {A : Nat → Am} {v : Nat → Nat} {n i : Nat} (h : i < n) : (araG A v n)[i * 2 + 1]? = some (.os (i + 600) (v (i + 600)) 3 0 (A i).beds.length):=by
 have h1:=araG_take (A:=A) (v:=v) h
 have h2 : (((araG A v n).drop (i * 2)).take 2)[1]? = some (.os (i + 600) (v (i + 600)) 3 0 (A i).beds.length):=by rw [h1]; rfl
 rw [List.getElem?_take,if_pos (by omega),List.getElem?_drop] at h2
 exact h2
theorem araC_eq {x : Lw} {most : Int} {v : Nat → Nat} : ∀ {n : Nat},araC x most v n = araG (fun j=>⟨atM j,bedsM x most j⟩) v n
 | 0=>rfl
 | n + 1=>by simp only [araC,araG,araC_eq (n:=n)]
def famG (A : Nat → Am) (j : Nat) : RowC:=.arr 67 3 ((A j).beds.map bedR)
def rawA (x : Lw) (most : Int) (j : Nat) : Am:=(rawM x most).getD j ⟨0,[]⟩
def rawN (x : Lw) (most : Int) : Nat:=(rawM x most).length
structure RawI (a : Am) : Prop where
 at_ : bedOk a.at_ = true
 len : 1 ≤ a.beds.length ∧ a.beds.length ≤ 10
 each : ∀ c ∈ a.beds,(c.b = 0 ∨ bedOk c.b = true) ∧ 0 ≤ c.lo ∧ c.lo ≤ 255 ∧ c.lo ≤ c.hi ∧ c.hi ≤ 510
 up : a.beds.Pairwise fun a b=>a.b < b.b
theorem raw_ok {x : Lw} (hx : WfLw x) {most : Int} (hm : 0 ≤ most ∧ most ≤ 100) : (1 ≤ rawN x most ∧ rawN x most ≤ 6) ∧ ∀ j,j < rawN x most → RawI (rawA x most j):=by
 have hr:=hx.rest
 by_cases h0 : cntM x = 0
 · have hN : rawN x most = 1:=by unfold rawN rawM; rw [if_pos h0]; rfl
   refine ⟨by omega,fun j hj=>?_⟩
   obtain rfl : j = 0:=by omega
   have hA : rawA x most 0 = ⟨320,[⟨320,x.rest,x.rest⟩]⟩:=by unfold rawA rawM; rw [if_pos h0]; rfl
   rw [hA]
   have h320 : bedOk 320 = true:=by decide
   refine ⟨h320,by simp,fun c hc=>?_,by simp⟩
   rw [List.mem_singleton] at hc
   subst hc
   refine ⟨.inr h320,?_⟩
   simp only; omega
 · have hN : rawN x most = cntM x:=by unfold rawN rawM; rw [if_neg h0]; simp
   refine ⟨by unfold cntM at *; omega,fun j hj=>?_⟩
   rw [hN] at hj
   have hA : rawA x most j = ⟨atM j,bedsM x most j⟩:=by
    unfold rawA rawM
    rw [if_neg h0,List.getD_eq_getElem?_getD,List.getElem?_map,List.getElem?_range hj]; rfl
   rw [hA]
   have hI : IterI most 13 (bedsM x most j):=iterM_ok hx hm.1 (x.which.getD j 0) (nM x most j) 13 (Nat.le_refl _)
   have hne:=bedsM_ne x most j
   generalize bedsM x most j = l at *
   refine ⟨atM_ok j,⟨hne,hI.len⟩,fun c hc=>?_,hI.up⟩
   obtain ⟨⟨q,q1,q2⟩,q3⟩:=hI.each c hc
   refine ⟨by rw [q2]; exact bedT_ok q1,?_⟩
   omega
theorem loS_le {B : Int} : ∀ {l : List Bd},(∀ c ∈ l,0 ≤ c.lo ∧ c.lo ≤ B) → 0 ≤ loS l ∧ loS l ≤ B * l.length
 | [],_=>by simp [loS]
 | c :: l, h => by
   have ih:=loS_le (B:=B) (l:=l) fun x hx=>h x (by simp [hx])
   have h1:=h c (by simp)
   have e : loS (c :: l) = c.lo + loS l:=by simp [loS]
   rw [e,List.length_cons,Int.natCast_add,Int.mul_add]
   omega
theorem hiS_le {B : Int} : ∀ {l : List Bd},(∀ c ∈ l,0 ≤ c.hi ∧ c.hi ≤ B) → 0 ≤ hiS l ∧ hiS l ≤ B * l.length
 | [],_=>by simp [hiS]
 | c :: l, h => by
   have ih:=hiS_le (B:=B) (l:=l) fun x hx=>h x (by simp [hx])
   have h1:=h c (by simp)
   have e : hiS (c :: l) = c.hi + hiS l:=by simp [hiS]
   rw [e,List.length_cons,Int.natCast_add,Int.mul_add]
   omega
theorem sumsM_snoc (l : List Am) (a : Am) : sumsM (l ++ [a]) = max (sumsM l) (loS a.beds):=by simp [sumsM]
theorem sumsM_le {B : Int} (h0 : 0 ≤ B) : ∀ {l : List Am} {d : Int},(0 ≤ d ∧ d ≤ B) → (∀ a ∈ l,0 ≤ loS a.beds ∧ loS a.beds ≤ B) → 0 ≤ l.foldl (fun d a=>max d (loS a.beds)) d ∧ l.foldl (fun d a=>max d (loS a.beds)) d ≤ B
 | [],_,hd,_=>hd
 | a :: l, d, hd, h => by
   have h1:=h a (by simp)
   simp only [List.foldl_cons]
   exact sumsM_le h0 (by omega) fun x hx=>h x (by simp [hx])
theorem RawI.lo {a : Am} (h : RawI a) : 0 ≤ loS a.beds ∧ loS a.beds ≤ 2550:=by
 have h1:=loS_le (B:=255) (l:=a.beds) fun c hc=>by have:=h.each c hc; omega
 have h2:=h.len
 omega
structure CapI (D : Int) (l X : List Bd) : Prop where
 len : X.length = l.length
 each : ∀ c ∈ X,(0 ≤ c.lo ∧ c.lo ≤ 255) ∧ 0 ≤ c.hi ∧ c.hi ≤ 3000
def capF (D : Int) (c : Bd) : Bd:=⟨c.b,c.lo,min c.hi D⟩
def mixC (D : Int) (l : List Bd) (k : Nat) : List Bd:=(l.take k).map (capF D) ++ l.drop k
theorem mixC_get {D : Int} {l : List Bd} {k : Nat} {c : Bd} (h : l[k]? = some c) : (mixC D l k)[k]? = some c:=by
 have hk:=(List.getElem?_eq_some_iff.1 h).1
 unfold mixC
 rw [List.getElem?_append_right (by simp; omega)]
 simp only [List.length_map,List.length_take,List.getElem?_drop]
 rw [show k + (k - min k l.length) = k by omega]; exact h
theorem mixC_len {D : Int} {l : List Bd} {k : Nat} : (mixC D l k).length = l.length:=by unfold mixC; simp; omega
theorem mixC_set {D : Int} {l : List Bd} {k : Nat} {c : Bd} (h : l[k]? = some c) : (mixC D l k).set k (capF D c) = mixC D l (k + 1):=by
 have hk:=(List.getElem?_eq_some_iff.1 h).1
 have h2 : l.drop k = c :: l.drop (k + 1):=by
  rw [List.drop_eq_getElem_cons hk]; congr 1; exact (List.getElem?_eq_some_iff.1 h).2
 unfold mixC
 rw [List.set_append_right _ _ (by simp; omega),take_of_opt h,h2]
 simp only [List.length_map,List.length_take,show k - min k l.length = 0 by omega,List.set_cons_zero,List.map_append,List.map_cons,List.map_nil,List.append_assoc,List.singleton_append]
theorem mixC_zero {D : Int} {l : List Bd} : mixC D l 0 = l:=by simp [mixC]
theorem mixC_full {D : Int} {l : List Bd} : mixC D l l.length = capB D l:=by unfold mixC capB capF; simp
theorem CapI.cap {D : Int} {a : Am} (h : RawI a) (hD : 1 ≤ D ∧ D ≤ 3000) : CapI D a.beds (capB D a.beds):=by
 refine ⟨by simp [capB],fun c hc=>?_⟩
 obtain ⟨d,hd,rfl⟩:=List.mem_map.1 hc
 have:=h.each d hd
 simp only; omega
theorem CapI.raise {D : Int} {l X : List Bd} (h : CapI D l X) (hD : 1 ≤ D ∧ D ≤ 3000) (k : Nat) (hk : k < l.length) : CapI D l (raiseB D X k):=by
 unfold raiseB
 split
 · rename_i hh
   have hm : X.getD k ⟨0,0,0⟩ ∈ X:=by
    rw [List.getD_eq_getElem?_getD,List.getElem?_eq_getElem (by rw [h.len]; exact hk)]; exact List.getElem_mem _
   have hc:=h.each _ hm
   refine ⟨by simp [h.len],fun c hc'=>?_⟩
   rcases List.mem_or_eq_of_mem_set hc' with hx | hx
   · exact h.each c hx
   · subst hx
     simp only; omega
 · exact h
theorem CapI.raiseN {D : Int} {l X : List Bd} (h : CapI D l X) (hD : 1 ≤ D ∧ D ≤ 3000) : ∀ k,k ≤ l.length → CapI D l (Go.Proofs.Ytgkejinoaommeaa.raiseN D X k)
 | 0,_=>h
 | k + 1,hk=>(CapI.raiseN h hD k (by omega)).raise hD k (by omega)
theorem CapI.hi {D : Int} {l X : List Bd} (h : CapI D l X) (hl : l.length ≤ 10) : 0 ≤ hiS X ∧ hiS X ≤ 30000:=by
 have h1:=hiS_le (B:=3000) (l:=X) fun c hc=>(h.each c hc).2
 have h2:=h.len
 omega
def plF (A F : Nat → Am) : Nat → List AV
 | 0=>[]
 | m + 1=>plF A F m ++ [.r (i64 (A m).at_),.r (.sl 3 ((F m).beds.map bedR))]
theorem frz_fam {n : Nat} {l : List (Nat × AV)} {κ : Nat} {A F : Nat → Am} {c4 c5 : RowC} (h1 : 5 < κ) (h2 : κ < 600) : ∀ m,m ≤ 300 → (∀ j,j < m → (F j).beds.length = (A j).beds.length) → ∀ (vs : Nat → Nat) (plain : List AV),
 ∃ vs',(∀ k,k < 600 → vs' k = vs k) ∧ Sub (st n l vs ((4,c4) :: (5,c5) :: (κ,.ara 36 2 (araG A vs m ++ plain)) :: fam (famG F) m)) (st n l vs' ((4,c4) :: (5,c5) :: (κ,.ara 36 2 (plF A F m ++ plain)) :: []))
 | 0,_,_,vs,plain=>⟨vs,fun _ _=>rfl,Sub.refl _⟩
 | m + 1, hm, hl, vs, plain => by
   have hlm:=hl m (by omega)
   have hcell : (araG A vs (m + 1) ++ plain)[m * 2 + 1]? = some (.os (m + 600) (vs (m + 600)) 3 0 (A m).beds.length):=by
    rw [List.getElem?_append_left (by rw [araG_len]; omega),araG_at (by omega)]
   have hk4 : ¬ m + 600 = 4:=by omega
   have hk5 : ¬ m + 600 = 5:=by omega
   have hkκ : ¬ m + 600 = κ:=by omega
   have s1:=sub_frzBA (n:=n) (l:=l) (vs:=vs) (cs:=(4,c4) :: (5,c5) :: (κ,.ara 36 2 (araG A vs (m + 1) ++ plain)) :: fam (famG F) (m + 1)) κ (m * 2 + 1) (m + 600) (tb:=36) (sb:=2) (cells:=araG A vs (m + 1) ++ plain) (sz:=3) (off:=0) (m:=(A m).beds.length) (ty:=67) (es:=(F m).beds.map bedR) (by omega) (by omega)
    (by simp only [lookc_cons,if_neg (show ¬ κ = 4 by omega),if_neg (show ¬ κ = 5 by omega),if_true]) hcell
    (by simp only [lookc_cons,if_neg hk4,if_neg hk5,if_neg hkκ]; exact lookc_fam (by omega)) (by simp [hlm])
   have e1 : delc ((4,c4) :: (5,c5) :: (κ,RowC.ara 36 2 (araG A vs (m + 1) ++ plain)) :: fam (famG F) (m + 1)) (m + 600) = (4,c4) :: (5,c5) :: (κ,RowC.ara 36 2 (araG A vs (m + 1) ++ plain)) :: fam (famG F) m:=by
    simp only [delc,if_neg hk4,if_neg hk5,if_neg hkκ,delc_fam_last]
   have e2 : ∀ c,insc ((4,c4) :: (5,c5) :: (κ,RowC.ara 36 2 (araG A vs (m + 1) ++ plain)) :: fam (famG F) m) κ c = (4,c4) :: (5,c5) :: (κ,c) :: fam (famG F) m:=fun c=>by
    simp only [insc,if_neg (show ¬ κ = 4 by omega),if_neg (show ¬ κ = 5 by omega),if_neg (show ¬ κ < 4 by omega),if_neg (show ¬ κ < 5 by omega),if_true]
   have e3 : (((F m).beds.map bedR).drop 0).take (A m).beds.length = (F m).beds.map bedR:=by
    rw [List.drop_zero,List.take_of_length_le (by simp [hlm])]
   have e4 : ∀ x,(araG A vs (m + 1) ++ plain).set (m * 2 + 1) x = araG A vs m ++ ([.r (i64 (A m).at_),x] ++ plain):=fun x=>by
    simp only [araG,List.append_assoc]
    rw [List.set_append_right _ _ (by rw [araG_len]; omega),araG_len,show m * 2 + 1 - m * 2 = 1 by omega]
    rfl
   have e5 : araG A vs m = araG A (upd vs (m + 600) (vs (m + 600) + 1)) m:=araG_congr fun j hj=>⟨by unfold upd; rw [if_neg (by omega)],rfl,rfl⟩
   rw [e1,e2,e3,e4,e5] at s1
   obtain ⟨vs',g1,g2⟩:=frz_fam h1 h2 m (by omega) (fun j hj=>hl j (by omega)) (upd vs (m + 600) (vs (m + 600) + 1)) ([.r (i64 (A m).at_),.r (.sl 3 ((F m).beds.map bedR))] ++ plain)
   refine ⟨vs',fun k hk=>?_,s1.trans ?_⟩
   · rw [g1 k hk]; unfold upd; rw [if_neg (by omega)]
   · have e6 : plF A F (m + 1) ++ plain = plF A F m ++ ([.r (i64 (A m).at_),.r (.sl 3 ((F m).beds.map bedR))] ++ plain):=by simp only [plF,List.append_assoc]
     rw [e6]
     exact g2
theorem plF_flat {A F : Nat → Am} : ∀ {m : Nat},plF A F m = ((List.range m).map fun j=>[i64 (A j).at_,bedsR (F j).beds]).flatten.map .r
 | 0=>rfl
 | m + 1 => by
   rw [List.range_succ,List.map_append,List.flatten_append,List.map_append]
   simp only [plF,plF_flat (m:=m),List.map_cons,List.map_nil,List.flatten_cons,List.flatten_nil,List.append_nil]
end Go.Proofs.Ytgkejinoaommeaa

namespace Go.Proofs.Ytgkejinoaommeaa
open Go Go.Oc
set_option linter.unusedSimpArgs false
set_option linter.unusedVariables false
set_option maxRecDepth 8000
def atE (l : List Int) (v : Int) : Int:=indexF (fun x=>v == x) l
theorem atE_lt (v : Int) : ∀ (l : List Int),atE l v < l.length
 | []=>by simp [atE,indexF]
 | x :: l => by
   have ih:=atE_lt v l
   unfold atE at ih ⊢
   simp only [indexF,List.length_cons]
   split
   · omega
   · split <;> omega
theorem indexE_ok (l : List Int) (v : Int) : ACalls Try.prog 93 [ints l,i64 v] (i64 (atE l v)):=by
 refine acalls_st (rs:=[i64 (atE l v)]) [.tmp 4] Try.func93 rfl (by kernel_rfl) Try.ntmps93 rfl (by simp) rfl fun C vs=>?_
 repeat refine zq ?_
 refine zb (by kernel_rfl) fun K hK=>?_
 simp only [go_sem]
 (try simp (disch:=omega) only [zI])
 repeat first | intro _ | refine ⟨by omega,?_⟩ | refine ⟨⟨by omega,by omega⟩,?_⟩
 refine hK _ ?_
 clear hK K
 refine zw (zk [0,1]) ?_
 simp only [go_sem]
 repeat refine zq ?_
 refine zb (by kernel_rfl) fun K hK=>?_
 simp only [go_sem]
 (try simp (disch:=omega) only [zI])
 intro hl
 repeat first | intro _ | refine ⟨by omega,?_⟩ | refine ⟨⟨by omega,by omega⟩,?_⟩
 refine hK _ ?_
 clear hK K
 refine zw (zk [0,1,7,8]) ?_
 simp only [go_sem]
 repeat refine zq ?_
 refine zd ?_
 refine awp_upto (n:=19) l.length (fun i vs=>[(0,.r (ints l)),(1,.r (i64 v)),(7,.r (i64 l.length)),(8,.r (i64 i))]) (fun _=>[])
  (fun i=>atE l v = if atE (l.drop i) v < 0 then -1 else i + atE (l.drop i) v) 0 (fit_of [] ?_ rfl) (Nat.zero_le _) ?_ ?_
 · try simp only [go_sem]
 · simp only [List.drop_zero]
   have:=indexF_ge (fun x=>v == x) l
   unfold atE
   split
   · omega
   · simp
 · intro i vs hi hI
   repeat refine zq ?_
   refine zb (by kernel_rfl) fun K hK=>?_
   simp only [go_sem]
   (try simp (disch:=omega) only [zI])
   repeat first | intro _ | refine ⟨by omega,?_⟩ | refine ⟨⟨by omega,by omega⟩,?_⟩
   refine hK _ ?_
   clear hK K
   refine zw (zk [0,1,7,8,9]) ?_
   simp only [go_sem]
   repeat refine zq ?_
   refine zc rfl (fun hc=>?_) (fun hc=>?_) <;> (try simp only [go_sem] at hc)
   · have hci:=hc
     obtain ⟨x,hx⟩:=opt_of_lt hci
     rw [drop_of_opt hx] at hI
     refine zx ?_
     try simp only [go_sem]
     repeat refine zq ?_
     refine zd ?_
     repeat refine zq ?_
     refine zb (by kernel_rfl) fun K hK=>?_
     simp only [go_sem]
     (try simp (disch:=omega) only [zI])
     repeat first | intro _ | refine ⟨by omega,?_⟩ | refine ⟨⟨by omega,by omega⟩,?_⟩
     refine hK _ ?_
     clear hK K
     refine zw (zk [0,1,5,7,8]) ?_
     simp only [go_sem]
     repeat refine zq ?_
     refine zb (by kernel_rfl) fun K hK=>?_
     simp only [go_sem,hx,hci]
     (try simp (disch:=omega) only [zI])
     repeat first | intro _ | refine ⟨by omega,?_⟩ | refine ⟨⟨by omega,by omega⟩,?_⟩
     refine hK _ ?_
     clear hK K
     refine zw (zk [0,1,5,7,8,16]) ?_
     simp only [go_sem]
     by_cases he : (v == x) = true
     · have h2 : atE l v = i:=by rw [hI]; simp [atE,indexF,he]
       rw [he,h2]
       repeat refine zq ?_
       refine zc rfl (fun hc=>?_) (fun hc=>?_) <;> (try simp only [go_sem] at hc)
       repeat refine zq ?_
       refine zb (by kernel_rfl) fun K hK=>?_
       simp only [go_sem]
       (try simp (disch:=omega) only [zI])
       repeat first | intro _ | refine ⟨by omega,?_⟩ | refine ⟨⟨by omega,by omega⟩,?_⟩
       refine hK _ ?_
       clear hK K
       refine zw (zk [4]) ?_
       simp only [go_sem]
       refine ze ?_
       simp only [go_sem]
     · have he' : (v == x) = false:=by simpa using he
       rw [he']
       repeat refine zq ?_
       refine zc rfl (fun hc=>?_) (fun hc=>?_) <;> (try simp only [go_sem] at hc)
       refine zx ?_
       try simp only [go_sem]
       repeat refine zq ?_
       refine zb (by kernel_rfl) fun K hK=>?_
       simp only [go_sem]
       (try simp (disch:=omega) only [zI])
       repeat first | intro _ | refine ⟨by omega,?_⟩ | refine ⟨⟨by omega,by omega⟩,?_⟩
       refine hK _ ?_
       clear hK K
       try simp only [go_sem]
       refine ⟨hci,?_,fit_of [] ?_ rfl⟩
       · rw [hI]
         simp only [atE,indexF,he',Bool.false_eq_true,if_false]
         have:=indexF_ge (fun x=>v == x) (l.drop (i + 1))
         split <;> split <;> omega
       · try simp only [go_sem]
   · have hil : i = l.length:=by omega
     subst hil
     rw [List.drop_length] at hI
     have hI' : atE l v = -1:=by rw [hI]; simp [atE,indexF]
     refine zf ?_
     simp only [go_sem]
     repeat refine zq ?_
     refine zb (by kernel_rfl) fun K hK=>?_
     simp only [go_sem]
     (try simp (disch:=omega) only [zI])
     repeat first | intro _ | refine ⟨by omega,?_⟩ | refine ⟨⟨by omega,by omega⟩,?_⟩
     refine hK _ ?_
     clear hK K
     refine zw (zk [4]) ?_
     simp only [go_sem]
     refine ze ?_
     simp only [go_sem]
     rw [hI']
abbrev tR (t : List Int) : List RV:=t.map fun x=>i64 x
abbrev tA (t : List Int) : List AV:=(tR t).map AV.r
abbrev zeroT : List Int:=[0,0,0,0,0,0,0,0,0,0]
def incT (t : List Int) (i : Nat) : List Int:=t.set i (t.getD i 0 + 1)
theorem incT_len (t : List Int) (i : Nat) : (incT t i).length = t.length:=by simp [incT]
theorem tA_drop {t : List Int} {i : Nat} {x : Int} (h : t[i]? = some x) : (tA t).drop i = .r (i64 x) :: (tA t).drop (i + 1):=by
 refine drop_of_opt ?_
 simp [h]
theorem tA_set {t : List Int} {i : Nat} {y : Int} (h : i < t.length) : (tA t).take i ++ (AV.r (RV.it .i64 y) :: (tA t).drop (i + 1)) = tA (t.set i y):=by
 have : ((t.set i y).map fun x=>i64 x).map AV.r = (((t.map fun x=>i64 x).map AV.r).set i (.r (i64 y))):=by simp [List.map_set]
 show _ = ((t.set i y).map fun x=>i64 x).map AV.r
 rw [this,List.set_eq_take_append_cons_drop,if_pos (by simpa using h)]
theorem tA_len (t : List Int) : (tA t).length = t.length:=by simp
def tallyK (beds : List Int) : List Int → List Int → Option (List Int)
 | t,[]=>some t
 | t,d :: ds=>if atE beds d < 0 then none else tallyK beds (incT t (atE beds d).toNat) ds
def knownXs (beds ds : List Int) : List (List RV):=match tallyK beds zeroT ds with | some t=>[[.ag (tR t)]] | none=>[]
abbrev sheetR (beds le mo : List Int) : List RV:=ints beds :: (tR le ++ tR mo)
theorem flat_tR : ∀ t : List Int,RV.flatL (tR t) = true
 | []=>rfl
 | x :: t=>by simp only [tR,List.map_cons,RV.flatL,RV.flatB,Bool.true_and]; exact flat_tR t
def SmallT (b : Int) (t : List Int) : Prop:=t.length = 10 ∧ ∀ x ∈ t,0 ≤ x ∧ x ≤ b
theorem incT_small {b : Int} {t : List Int} {i : Nat} (h : SmallT b t) (hb : 0 ≤ b) : SmallT (b + 1) (incT t i):=by
 refine ⟨by rw [incT_len]; exact h.1,fun x hx=>?_⟩
 rcases List.mem_or_eq_of_mem_set hx with h1 | h1
 · have:=h.2 x h1; omega
 · subst h1
   rw [List.getD_eq_getElem?_getD]
   cases e : t[i]? with
   | none=>simp; omega
   | some y=>have:=h.2 y (mem_of_opt e); simp; omega
theorem known1_ok (beds ds le mo : List Int) (hb : beds.length ≤ 10) (hd : ds.length ≤ 1000) : ICalls Try.prog true 92 [.rp [ints ds],.rp [.rp (sheetR beds le mo)]] (knownXs beds ds):=by
 refine icalls_st Try.func92 rfl (by kernel_rfl) Try.ntmps92 rfl (by simp) fun C ll=>?_
 repeat refine zq ?_
 refine zb (by kernel_rfl) fun K hK=>?_
 simp only [go_sem,argL]
 (try simp (disch:=omega) only [zI])
 repeat first | intro _ | refine ⟨by omega,?_⟩ | refine ⟨⟨by omega,by omega⟩,?_⟩
 refine hK _ ?_
 clear hK K
 refine zw (zk [0,1,2,4]) ?_
 simp only [go_sem]
 repeat refine zq ?_
 refine zb (by kernel_rfl) fun K hK=>?_
 simp only [go_sem]
 (try simp (disch:=omega) only [zI])
 intros
 repeat first | intro _ | refine ⟨by omega,?_⟩ | refine ⟨⟨by omega,by omega⟩,?_⟩
 refine hK _ ?_
 clear hK K
 refine zw (zk [0,2,4,8,9,10]) ?_
 simp only [go_sem]
 repeat refine zq ?_
 refine zd ?_
 refine awp_while (n:=31) (fun (y : Nat × List Int) vs=>[(0,.r (.yl ll)),(2,.r (.rp [.rp (sheetR beds le mo)])),(4,.pt 4 (vs 4) 0),(8,.r (ints ds)),(9,.r (i64 ds.length)),(10,.r (i64 y.1))])
  (fun y=>[(4,.box (tA y.2)),(999,.gh Try.prog ll true (some (knownXs beds ds)))]) (fun y=>y.1 ≤ ds.length ∧ SmallT y.1 y.2 ∧ tallyK beds zeroT ds = tallyK beds y.2 (ds.drop y.1)) (fun y=>ds.length - y.1) (0,zeroT) (fit_of [] ?_ ?_) ⟨Nat.zero_le _,⟨rfl,by decide⟩,rfl⟩ ?_
 · try simp only [go_sem]
 · try simp only [go_sem]
   rfl
 · rintro ⟨i,t⟩ vs ⟨hi,hs,hK⟩
   simp only at hi hs hK
   repeat refine zq ?_
   refine zb (by kernel_rfl) fun K hK=>?_
   simp only [go_sem]
   (try simp (disch:=omega) only [zI])
   repeat first | intro _ | refine ⟨by omega,?_⟩ | refine ⟨⟨by omega,by omega⟩,?_⟩
   refine hK _ ?_
   clear hK K
   refine zw (zk [0,2,4,8,9,10,11]) ?_
   simp only [go_sem]
   repeat refine zq ?_
   refine zc rfl (fun hc=>?_) (fun hc=>?_) <;> (try simp only [go_sem] at hc)
   · have hci : i < ds.length:=by first | exact hc | omega
     obtain ⟨d,hx⟩:=opt_of_lt hci
     rw [drop_of_opt hx,tallyK] at hK
     have hlt:=atE_lt d beds
     refine zx ?_
     try simp only [go_sem]
     repeat refine zq ?_
     refine zd ?_
     repeat refine zq ?_
     refine zb (by kernel_rfl) fun K hK=>?_
     simp only [go_sem,hx,hci]
     (try simp (disch:=omega) only [zI])
     repeat first | intro _ | refine ⟨by omega,?_⟩ | refine ⟨⟨by omega,by omega⟩,?_⟩
     refine hK _ ?_
     clear hK K
     refine zw (zk [0,2,4,6,8,9,10]) ?_
     simp only [go_sem]
     repeat refine zq ?_
     refine zb (by kernel_rfl) fun K hK=>?_
     simp only [go_sem]
     (try simp (disch:=omega) only [zI])
     refine zh (indexE_ok beds d) rfl (by simp only [go_sem,i64,ints]) (by simp only [go_sem,i64,ints]) (by first | exact .inl rfl | exact .inr rfl) ?_
     (try simp only [go_sem])
     (try simp (disch:=omega) only [zI])
     repeat first | intro _ | refine ⟨by omega,?_⟩ | refine ⟨⟨by omega,by omega⟩,?_⟩
     refine hK _ ?_
     clear hK K
     refine zw (zk [0,2,4,7,8,9,10]) ?_
     simp only [go_sem]
     by_cases hneg : atE beds d < 0
     · rw [if_pos hneg] at hK
       have hxs : knownXs beds ds = []:=by rw [knownXs,hK]
       have e1 : decide (atE beds d < 0) = true:=by simp [hneg]
       rw [hxs]
       repeat refine zq ?_
       refine zb (by kernel_rfl) fun K hK=>?_
       simp only [go_sem]
       (try simp (disch:=omega) only [zI])
       repeat first | intro _ | refine ⟨by omega,?_⟩ | refine ⟨⟨by omega,by omega⟩,?_⟩
       refine hK _ ?_
       clear hK K
       rw [e1]
       repeat refine zq ?_
       refine zc rfl (fun hc=>?_) (fun hc=>?_) <;> (try simp only [go_sem] at hc)
       refine ze ?_
       simp only [go_sem]
       exact ⟨_,_,.inl rfl⟩
     · rw [if_neg hneg] at hK
       have e1 : decide (atE beds d < 0) = false:=by simp; omega
       obtain ⟨j,hj⟩:=Int.eq_ofNat_of_zero_le (show 0 ≤ atE beds d by omega)
       rw [hj,Int.toNat_natCast] at hK
       have hjl : j < t.length:=by have:=hs.1; omega
       obtain ⟨x,hxj⟩:=opt_of_lt hjl
       have hsm:=hs.2 x (mem_of_opt hxj)
       have hinc : incT t j = t.set j (x + 1):=by simp [incT,List.getD_eq_getElem?_getD,hxj]
       have hd1:=tA_drop hxj
       have hset:=tA_set (y:=x + 1) hjl
       have hal:=tA_len t
       have hj10 : (j : Int) < 10:=by have:=hs.1; omega
       repeat refine zq ?_
       refine zb (by kernel_rfl) fun K hK=>?_
       simp only [go_sem]
       (try simp (disch:=omega) only [zI])
       repeat first | intro _ | refine ⟨by omega,?_⟩ | refine ⟨⟨by omega,by omega⟩,?_⟩
       refine hK _ ?_
       clear hK K
       rw [e1]
       repeat refine zq ?_
       refine zc rfl (fun hc=>?_) (fun hc=>?_) <;> (try simp only [go_sem] at hc)
       refine zx ?_
       try simp only [go_sem]
       rw [hj]
       repeat refine zq ?_
       refine zb (by kernel_rfl) fun K hK=>?_
       simp only [go_sem,Nat.mul_one,hd1,hal,List.headD_cons,List.length_cons]
       (try simp (disch:=omega) only [zI])
       repeat first | intro _ | refine ⟨by omega,?_⟩ | refine ⟨⟨by omega,by omega⟩,?_⟩
       refine hK _ ?_
       clear hK K
       rw [hset,← hinc]
       refine zw (zk [0,2,4,8,9,10]) ?_
       simp only [go_sem]
       repeat refine zq ?_
       refine zb (by kernel_rfl) fun K hK=>?_
       simp only [go_sem]
       (try simp (disch:=omega) only [zI])
       repeat first | intro _ | refine ⟨by omega,?_⟩ | refine ⟨⟨by omega,by omega⟩,?_⟩
       refine hK _ ?_
       clear hK K
       try simp only [go_sem]
       refine ⟨(i + 1,incT t j),⟨by omega,?_,hK⟩,by simp only; omega,fit_of [] ?_ ?_⟩
       · have:=incT_small (i:=j) hs (by omega)
         simpa using this
       · try simp only [go_sem]
       · try simp only [go_sem]
   · have hil : i = ds.length:=by omega
     subst hil
     rw [List.drop_length,tallyK] at hK
     have hxs : knownXs beds ds = [[.ag (tR t)]]:=by rw [knownXs,hK]
     rw [hxs]
     have htk : List.take 10 (tR t) = tR t:=List.take_of_length_le (by rw [List.length_map,hs.1]; exact Nat.le_refl _)
     have htl : (tR t).length = 10:=by rw [List.length_map,hs.1]
     refine zf ?_
     simp only [go_sem]
     refine zw (sub_frzP 4 4 (tR t) (by omega) rfl rfl) ?_
     refine zw (zk [0,4]) ?_
     simp only [go_sem]
     repeat refine zq ?_
     refine zb (by kernel_rfl) fun K hK=>?_
     simp only [go_sem,htk,htl,Nat.le_refl]
     (try simp (disch:=omega) only [zI])
     refine xcall_yield (z:=true) (e:=[.ag (tR t)]) (rest:=[]) (by simp only [go_sem]) rfl (by simp only [go_sem]) (.inl (by simp only [RV.flatL,RV.flatB,flat_tR,Bool.and_self])) ?_ ?_
     · simp only [go_sem]
       repeat first | intro _ | refine ⟨by omega,?_⟩ | refine ⟨⟨by omega,by omega⟩,?_⟩
       refine hK _ ?_
       clear hK K
       exact ⟨_,_,.inl rfl⟩
     · simp only [go_sem]
       repeat first | intro _ | refine ⟨by omega,?_⟩ | refine ⟨⟨by omega,by omega⟩,?_⟩
       refine hK _ ?_
       clear hK K
       exact ⟨_,_,.inr rfl⟩
theorem known_ok (u : Addr) (ds : List Int) : ACalls Try.prog 82 [.vl u,ints ds] (.fn 92 [.rp [ints ds],.rp [.vl u]]):=by
 refine acalls_st (rs:=[.fn 92 [.rp [ints ds],.rp [.vl u]]]) [.tmp 4] Try.func82 rfl (by kernel_rfl) Try.ntmps82 rfl (by simp) rfl fun C vs=>?_
 repeat refine zq ?_
 refine zb (by kernel_rfl) fun K hK=>?_
 simp only [go_sem]
 (try simp (disch:=omega) only [zI])
 repeat first | intro _ | refine ⟨by omega,?_⟩ | refine ⟨⟨by omega,by omega⟩,?_⟩
 refine hK _ ?_
 clear hK K
 refine zw (zk [2,3]) ?_
 simp only [go_sem]
 refine zw (sub_frzP 2 2 [.vl u] (by omega) rfl rfl) ?_
 refine zw (sub_frzP 3 3 [ints ds] (by omega) rfl rfl) ?_
 repeat refine zq ?_
 refine zb (by kernel_rfl) fun K hK=>?_
 simp only [go_sem]
 (try simp (disch:=omega) only [zI])
 repeat first | intro _ | refine ⟨by omega,?_⟩ | refine ⟨⟨by omega,by omega⟩,?_⟩
 refine hK _ ?_
 clear hK K
 refine ze ?_
 simp only [go_sem]
 simp [RV.le,leL_refl.le_refl,leL_refl]
theorem three_ok (u : Addr) (n : Int) : ACalls Try.prog 83 [.vl u,i64 n] (.fn 94 [.rp [.vl u],.rp [i64 n]]):=by
 refine acalls_st (rs:=[.fn 94 [.rp [.vl u],.rp [i64 n]]]) [.tmp 4] Try.func83 rfl (by kernel_rfl) Try.ntmps83 rfl (by simp) rfl fun C vs=>?_
 repeat refine zq ?_
 refine zb (by kernel_rfl) fun K hK=>?_
 simp only [go_sem]
 (try simp (disch:=omega) only [zI])
 repeat first | intro _ | refine ⟨by omega,?_⟩ | refine ⟨⟨by omega,by omega⟩,?_⟩
 refine hK _ ?_
 clear hK K
 refine zw (zk [2,3]) ?_
 simp only [go_sem]
 refine zw (sub_frzP 2 2 [.vl u] (by omega) rfl rfl) ?_
 refine zw (sub_frzP 3 3 [i64 n] (by omega) rfl rfl) ?_
 repeat refine zq ?_
 refine zb (by kernel_rfl) fun K hK=>?_
 simp only [go_sem]
 (try simp (disch:=omega) only [zI])
 repeat first | intro _ | refine ⟨by omega,?_⟩ | refine ⟨⟨by omega,by omega⟩,?_⟩
 refine hK _ ?_
 clear hK K
 refine ze ?_
 simp only [go_sem]
 simp [RV.le,leL_refl.le_refl,leL_refl]
end Go.Proofs.Ytgkejinoaommeaa

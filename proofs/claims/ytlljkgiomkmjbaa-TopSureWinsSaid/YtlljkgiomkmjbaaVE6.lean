/- Part 6 of the texts of this claim. -/
import Derived.Test.YtlljkgiomkmjbaaVE5
namespace Go.Proofs.Ytlljkgiomkmjbaa.Du
open Go Go.Oc
set_option linter.unusedSimpArgs false
set_option linter.unusedVariables false
set_option maxRecDepth 8000
def loS (l : List Bd) : Int:=(l.map (·.lo)).sum
def hiS (l : List Bd) : Int:=(l.map (·.hi)).sum
theorem loS_snoc (l : List Bd) (x : Bd) : loS (l ++ [x]) = loS l + x.lo:=by simp [loS]
theorem hiS_snoc (l : List Bd) (x : Bd) : hiS (l ++ [x]) = hiS l + x.hi:=by simp [hiS]
def Small (l : List Bd) : Prop:=∀ x ∈ l,(0 ≤ x.lo ∧ x.lo ≤ 6000) ∧ 0 ≤ x.hi ∧ x.hi ≤ 6000
theorem sums_le : ∀ {l : List Bd},Small l → (0 ≤ loS l ∧ loS l ≤ 6000 * l.length) ∧ 0 ≤ hiS l ∧ hiS l ≤ 6000 * l.length
 | [],_=>by simp [loS,hiS]
 | x :: l, h => by
   have h1:=h x (by simp)
   have h2:=sums_le (l:=l) fun y hy=>h y (by simp [hy])
   simp only [loS,hiS,List.map_cons,List.sum_cons,List.length_cons] at h2 ⊢
   omega
theorem Small.take {l : List Bd} (h : Small l) (i : Nat) : Small (l.take i):=fun x hx=>h x (List.mem_of_mem_take hx)
theorem sums_ok (a : Int) (l : List Bd) (d : Int) (hs : Small l) (hl : l.length ≤ 1000) : ACalls Try.prog 224 [.ag [i64 a,bedsR l,i64 d]] (.ag [i64 (loS l),i64 (hiS l)]):=by
 refine acalls_st (rs:=[.ag [i64 (loS l),i64 (hiS l)]]) [.cell 2 30] Try.func224 rfl (by kernel_rfl) Try.ntmps224 rfl (by simp) rfl fun C vs=>?_
 refine zq ?_
 refine zb fun K hK=>?_;simp only [go_sem];refine hK _ ?_;clear hK K;refine zw (zk [1,2]) ?_;simp only [go_sem]
 repeat refine zq ?_
 refine zb fun K hK=>?_;simp only [go_sem]
 intro _
 refine hK _ ?_;clear hK K;refine zw (zk [2,7,8,9]) ?_;simp only [go_sem];refine zd ?_
 refine awp_upto (n:=29) l.length (fun i vs=>[(2,.pt 2 (vs 2) 0),(7,.r (bedsR l)),(8,.r (i64 l.length)),(9,.r (i64 i))])
  (fun i=>[(2,.box [.r (i64 (loS (l.take i))),.r (i64 (hiS (l.take i)))])]) (fun _=>True) 0 (fit_of [1] ?_ ?_) (Nat.zero_le _) trivial ?_
 · try simp only [go_sem]
 · try simp only [go_sem]
   simp [loS,hiS]
 · intro i vs hi _
   refine zq ?_
   refine zb fun K hK=>?_;simp only [go_sem];refine hK _ ?_;clear hK K
   refine zq ?_
   refine zc rfl (fun hc=>?_) (fun hc=>?_) <;> (try simp only [go_sem] at hc)
   · obtain ⟨x,hx⟩:=opt_of_lt hc
     have hb:=sums_le (hs.take (i + 1))
     have ht:=take_of_opt hx
     have hlt : (l.take (i + 1)).length ≤ 1000:=by rw [List.length_take]; omega
     rw [ht,loS_snoc,hiS_snoc] at hb
     rw [ht] at hlt
     refine zx ?_
     refine zq ?_
     refine zd ?_
     refine zq ?_
     refine zb fun K hK=>?_;simp only [go_sem,hx,hc,bedR];refine hK _ ?_;clear hK K;refine zw (zk [2,4,7,8,9]) ?_;simp only [go_sem]
     refine awp_dreg2 [(2,some 2),(4,some 4)] follows (by decide +kernel) (by kernel_rfl) (by simp only [keysOk,List.mem_cons,List.not_mem_nil,forall_eq_or_imp,Oc.keyOf,go_sem]; simp) fun K hK=>?_
     simp only [go_sem];(try simp (disch:=omega) only [zI]);refine hK _ ?_;clear hK K;refine zw (zk [2,7,8,9]) ?_;simp only [go_sem];refine zb fun K hK=>?_;simp only [go_sem];(try simp (disch:=omega) only [zI]);refine hK _ ?_;clear hK K
     try simp only [go_sem]
     refine ⟨hc,fit_of [4] ?_ ?_⟩
     · try simp only [go_sem]
     · try simp only [go_sem]
       rw [ht,loS_snoc,hiS_snoc]
   · refine zf ?_;simp only [go_sem]
     refine zq ?_
     refine zb fun K hK=>?_;simp only [go_sem];refine hK _ ?_;clear hK K;refine zw (zk [2]) ?_;simp only [go_sem];refine ze ?_;simp only [go_sem]
     have : l.take i = l:=List.take_of_length_le (by omega)
     simp [this]
def seqOk : Option Int → List Bd → Bool
 | _,[]=>true
 | p,x :: l=>(decide (x.b = 0) || bedOk x.b) && (match p with | none=>true | some q=>decide (q < x.b)) && seqOk (some x.b) l
def prevB (l : List Bd) : Nat → Option Int
 | 0=>none
 | i + 1=>(l[i]?).map (·.b)
def Wf (l : List Bd) : Prop:=∀ x ∈ l,I64 x.b ∧ I64 x.lo ∧ I64 x.hi
theorem areBeds_ok (a : Int) (l : List Bd) (d : Int) (ha : I64 a) (hw : Wf l) : ACalls Try.prog 130 [.ag [i64 a,bedsR l,i64 d]] (.bo (bedOk a && !l.isEmpty && seqOk none l)):=by
 refine acalls_st (rs:=[.bo (bedOk a && !l.isEmpty && seqOk none l)]) [.tmp 2] Try.func130 rfl (by kernel_rfl) Try.ntmps130 rfl (by simp) rfl fun C vs=>?_
 refine zq ?_
 refine zb fun K hK=>?_;simp only [go_sem];refine hK _ ?_;clear hK K;refine zw (zk [1]) ?_;simp only [go_sem]
 repeat refine zq ?_
 refine zb fun K hK=>?_;simp only [go_sem]
 refine zh (isBed_ok a ha) rfl (by simp only [go_sem,i64,ints]) (by simp only [go_sem,i64,ints]) (by first | exact .inl rfl | exact .inr rfl) ?_
 (try simp only [go_sem])
 cases hA : bedOk a
 · try simp only [go_sem]
   refine hK _ ?_;clear hK K
   refine zc rfl (fun hc=>?_) (fun hc=>?_) <;> (try simp only [go_sem] at hc)
   refine zq ?_
   refine zb fun K hK=>?_;simp only [go_sem];refine hK _ ?_;clear hK K;refine ze ?_;simp only [go_sem]
   simp [hA]
 try simp only [go_sem]
 intro _
 cases hE : l.isEmpty
 case true =>
  have h0 : l = []:=List.isEmpty_iff.1 hE
  subst h0
  try simp only [go_sem]
  refine hK _ ?_;clear hK K
  refine zc rfl (fun hc=>?_) (fun hc=>?_) <;> (try simp only [go_sem] at hc)
  refine zq ?_
  refine zb fun K hK=>?_;simp only [go_sem];refine hK _ ?_;clear hK K;refine ze ?_;simp only [go_sem]
  simp
 have hne : ((l.length : Int) == 0) = false:=by
  cases l with
  | nil=>simp at hE
  | cons=>simp; omega
 rw [hne]
 refine hK _ ?_;clear hK K;refine zw (zk [1,16]) ?_;simp only [go_sem]
 refine zc rfl (fun hc=>?_) (fun hc=>?_) <;> (try simp only [go_sem] at hc)
 refine zx ?_
 try simp only [go_sem]
 repeat refine zq ?_
 refine zb fun K hK=>?_;simp only [go_sem]
 intro hl9
 refine hK _ ?_;clear hK K;refine zw (zk [1,19,20,21]) ?_;simp only [go_sem];refine zd ?_
 refine awp_upto (n:=53) l.length (fun i vs=>[(1,.pt 1 (vs 1) 0),(19,.r (bedsR l)),(20,.r (i64 l.length)),(21,.r (i64 i))])
  (fun i=>[(1,.box [.r (i64 a),.r (bedsR l),.r (i64 d)])]) (fun i=>seqOk none l = seqOk (prevB l i) (l.drop i)) 0 (fit_of [] ?_ ?_) (Nat.zero_le _) rfl ?_
 · try simp only [go_sem]
 · try simp only [go_sem]
 · intro i vs hi hI
   refine zq ?_
   refine zb fun K hK=>?_;simp only [go_sem];refine hK _ ?_;clear hK K
   refine zq ?_
   refine zc rfl (fun hc=>?_) (fun hc=>?_) <;> (try simp only [go_sem] at hc)
   · obtain ⟨x,hx⟩:=opt_of_lt hc
     rw [drop_of_opt hx] at hI
     obtain ⟨hxb,_,_⟩:=hw x (mem_of_opt hx)
     have hB : ACalls Try.prog 189 [i64 x.b] (.bo (bedOk x.b)):=isBed_ok x.b hxb
     refine zx ?_
     refine zq ?_
     refine zd ?_
     refine zq ?_
     refine zb fun K hK=>?_;simp only [go_sem,hx,hc,bedR];refine hK _ ?_;clear hK K;refine zw (zk [1,3,4,19,20,21]) ?_;simp only [go_sem]
     have hp : ∀ q,prevB l i = some q → ∃ y j,i = j + 1 ∧ l[j]? = some y ∧ q = y.b:=fun q hq=>by
      cases i with
      | zero=>cases hq
      | succ j =>
        obtain ⟨y,hy⟩:=opt_of_lt (l:=l) (i:=j) (by omega)
        simp only [prevB,hy,Option.map_some,Option.some.injEq] at hq
        exact ⟨y,j,rfl,hy,hq.symm⟩
     cases hb0 : decide (x.b = 0) || bedOk x.b
     · have h0 : (x.b != 0) = true:=by simp_all
       have h1 : bedOk x.b = false:=by simp_all
       rw [h1] at hB
       refine zq ?_
       refine awp_dreg2 [(1,some 1),(3,none),(4,some 4)] follows (by decide +kernel) (by kernel_rfl) (by simp only [keysOk,List.mem_cons,List.not_mem_nil,forall_eq_or_imp,Oc.keyOf,go_sem]; simp) fun K hK=>?_
       simp only [go_sem,h0]
       refine zh (hB) rfl (by simp only [go_sem,i64,ints]) (by simp only [go_sem,i64,ints]) (by first | exact .inl rfl | exact .inr rfl) ?_
       (try simp only [go_sem]);refine hK _ ?_;clear hK K;refine zw (zk [1,19,20,21,51]) ?_;simp only [go_sem]
       refine zc rfl (fun hc=>?_) (fun hc=>?_) <;> (try simp only [go_sem] at hc)
       refine zq ?_
       refine zb fun K hK=>?_;simp only [go_sem];refine hK _ ?_;clear hK K;refine ze ?_;simp only [go_sem]
       simp [hI,seqOk,hb0]
     have hnx : prevB l (i + 1) = some x.b:=by simp [prevB,hx]
     have hstep : seqOk none l = ((match prevB l i with | none=>true | some q=>decide (q < x.b)) && seqOk (prevB l (i + 1)) (l.drop (i + 1))):=by
      rw [hI,hnx]
      simp only [seqOk,hb0,Bool.true_and]
     cases i with
     | zero =>
       have hp0 : seqOk none l = seqOk (prevB l 1) (l.drop 1):=by simpa [prevB] using hstep
       by_cases h0 : x.b = 0
       · have e0 : (x.b != 0) = false:=by simp [h0]
         refine zq ?_
         refine awp_dreg2 [(1,some 1),(3,none),(4,some 4)] follows (by decide +kernel) (by kernel_rfl) (by simp only [keysOk,List.mem_cons,List.not_mem_nil,forall_eq_or_imp,Oc.keyOf,go_sem]; simp) fun K hK=>?_
         simp only [go_sem,e0];refine hK _ ?_;clear hK K;refine zw (zk [1,19,20,21,51]) ?_;simp only [go_sem]
         refine zc rfl (fun hc=>?_) (fun hc=>?_) <;> (try simp only [go_sem] at hc)
         refine zx ?_
         try simp only [go_sem]
         refine zb fun K hK=>?_;simp only [go_sem];(try simp (disch:=omega) only [zI]);refine hK _ ?_;clear hK K
         try simp only [go_sem]
         exact ⟨by omega,hp0,fit_of [4] (by try simp only [go_sem]) (by try simp only [go_sem])⟩
       · have e0 : (x.b != 0) = true:=by simp [h0]
         have e1 : bedOk x.b = true:=by simpa [h0] using hb0
         rw [e1] at hB
         refine zq ?_
         refine awp_dreg2 [(1,some 1),(3,none),(4,some 4)] follows (by decide +kernel) (by kernel_rfl) (by simp only [keysOk,List.mem_cons,List.not_mem_nil,forall_eq_or_imp,Oc.keyOf,go_sem]; simp) fun K hK=>?_
         simp only [go_sem,e0]
         refine zh (hB) rfl (by simp only [go_sem,i64,ints]) (by simp only [go_sem,i64,ints]) (by first | exact .inl rfl | exact .inr rfl) ?_
         (try simp only [go_sem]);refine hK _ ?_;clear hK K;refine zw (zk [1,19,20,21,51]) ?_;simp only [go_sem]
         refine zc rfl (fun hc=>?_) (fun hc=>?_) <;> (try simp only [go_sem] at hc)
         refine zx ?_
         try simp only [go_sem]
         refine zb fun K hK=>?_;simp only [go_sem];(try simp (disch:=omega) only [zI]);refine hK _ ?_;clear hK K
         try simp only [go_sem]
         exact ⟨by omega,hp0,fit_of [4] (by try simp only [go_sem]) (by try simp only [go_sem])⟩
     | succ j =>
       obtain ⟨y,hy⟩:=opt_of_lt (l:=l) (i:=j) (by omega)
       have hpy : prevB l (j + 1) = some y.b:=by simp [prevB,hy]
       rw [hpy] at hstep
       have hj1 : IntKind.i64.wrap ((j : Int) + 1 - 1) = (j : Int):=by rw [zI] <;> omega
       have hj2 : j < l.length:=by omega
       have hj0 : (0 < (j : Int) + 1) = True:=by simp
       have go : ∀ (e : Bool),decide (x.b ≤ y.b) = e → (e = true → seqOk none l = false) ∧ (e = false → seqOk none l = seqOk (prevB l (j + 1 + 1)) (l.drop (j + 1 + 1))):=fun e he=>by
        refine ⟨fun h=>?_,fun h=>?_⟩
        · have : decide (y.b < x.b) = false:=by simp_all
          rw [hstep]; simp [this]
        · have : decide (y.b < x.b) = true:=by simp_all
          rw [hstep]; simp [this]
       obtain ⟨go1,go2⟩:=go _ rfl
       by_cases h0 : x.b = 0
       · have e0 : (x.b != 0) = false:=by simp [h0]
         refine zq ?_
         refine awp_dreg2 [(1,some 1),(3,none),(4,some 4)] follows (by decide +kernel) (by kernel_rfl) (by simp only [keysOk,List.mem_cons,List.not_mem_nil,forall_eq_or_imp,Oc.keyOf,go_sem]; simp) fun K hK=>?_
         simp only [go_sem,e0,hj1,hj0,hy,bedR]
         refine ⟨by omega,?_⟩
         refine hK _ ?_;clear hK K;refine zw (zk [1,19,20,21,51]) ?_;simp only [go_sem]
         cases hle : decide (x.b ≤ y.b)
         · skip
           refine zc rfl (fun hc=>?_) (fun hc=>?_) <;> (try simp only [go_sem] at hc)
           refine zx ?_
           try simp only [go_sem]
           refine zb fun K hK=>?_;simp only [go_sem];(try simp (disch:=omega) only [zI]);refine hK _ ?_;clear hK K
           try simp only [go_sem]
           exact ⟨by omega,go2 hle,fit_of [4] (by try simp only [go_sem]) (by try simp only [go_sem])⟩
         · skip
           refine zc rfl (fun hc=>?_) (fun hc=>?_) <;> (try simp only [go_sem] at hc)
           refine zq ?_
           refine zb fun K hK=>?_;simp only [go_sem];refine hK _ ?_;clear hK K;refine ze ?_;simp only [go_sem]
           simp [go1 hle]
       · have e0 : (x.b != 0) = true:=by simp [h0]
         have e1 : bedOk x.b = true:=by simpa [h0] using hb0
         rw [e1] at hB
         refine zq ?_
         refine awp_dreg2 [(1,some 1),(3,none),(4,some 4)] follows (by decide +kernel) (by kernel_rfl) (by simp only [keysOk,List.mem_cons,List.not_mem_nil,forall_eq_or_imp,Oc.keyOf,go_sem]; simp) fun K hK=>?_
         simp only [go_sem,e0,hj1,hj0,hy,bedR]
         refine zh (hB) rfl (by simp only [go_sem,i64,ints,hj1,hj0,hy,bedR]) (by simp only [go_sem,i64,ints,hj1,hj0,hy,bedR]) (by first | exact .inl rfl | exact .inr rfl) ?_
         (try simp only [go_sem,hj1,hj0,hy,bedR])
         refine ⟨by omega,?_⟩
         refine hK _ ?_;clear hK K;refine zw (zk [1,19,20,21,51]) ?_;simp only [go_sem]
         cases hle : decide (x.b ≤ y.b)
         · skip
           refine zc rfl (fun hc=>?_) (fun hc=>?_) <;> (try simp only [go_sem] at hc)
           refine zx ?_
           try simp only [go_sem]
           refine zb fun K hK=>?_;simp only [go_sem];(try simp (disch:=omega) only [zI]);refine hK _ ?_;clear hK K
           try simp only [go_sem]
           exact ⟨by omega,go2 hle,fit_of [4] (by try simp only [go_sem]) (by try simp only [go_sem])⟩
         · skip
           refine zc rfl (fun hc=>?_) (fun hc=>?_) <;> (try simp only [go_sem] at hc)
           refine zq ?_
           refine zb fun K hK=>?_;simp only [go_sem];refine hK _ ?_;clear hK K;refine ze ?_;simp only [go_sem]
           simp [go1 hle]
   · refine zf ?_;simp only [go_sem]
     refine zq ?_
     refine zb fun K hK=>?_;simp only [go_sem];refine hK _ ?_;clear hK K;refine zw (zk [2]) ?_;simp only [go_sem];refine ze ?_;simp only [go_sem]
     have : l.drop i = []:=List.drop_eq_nil_of_le (by omega)
     have h0 : l ≠ []:=fun e=>by rw [e] at hE; simp at hE
     simp [hI,this,seqOk,hA,h0]
def badCh (d : Int) (x : Bd) : Bool:=!withinL 0 d [x.lo,x.hi] || decide (x.hi < x.lo)
theorem valid1_ok (a : Int) (l : List Bd) (d : Int) (x : Bd) : ACalls Try.prog 223 [bedV x,.rp [i64 a,bedsR l,i64 d]] (.bo (badCh d x)):=by
 refine acalls_st (rs:=[.bo (badCh d x)]) [.tmp 3] Try.func223 rfl (by kernel_rfl) Try.ntmps223 rfl (by simp) rfl fun C vs=>?_
 refine zq ?_
 refine zb fun K hK=>?_;simp only [go_sem];refine hK _ ?_;clear hK K
 refine zq ?_
 refine zb fun K hK=>?_;simp only [go_sem]
 refine zh (within_ok 0 d [x.lo,x.hi]) rfl (by simp only [go_sem,i64,ints]) (by simp only [go_sem,i64,ints]) (by first | exact .inl rfl | exact .inr rfl) ?_
 (try simp only [go_sem])
 refine ⟨fun h=>?_,fun h=>?_⟩
 · skip
   refine hK _ ?_;clear hK K;refine ze ?_;simp only [go_sem]
   simp [badCh,h]
 · skip
   refine hK _ ?_;clear hK K;refine ze ?_;simp only [go_sem]
   simp [badCh,h]
def chOk (d : Int) (l : List Bd) : Bool:=l.all fun x=>decide (0 ≤ x.lo) && decide (x.lo ≤ x.hi) && decide (x.hi ≤ d)
theorem badCh_eq (d : Int) (l : List Bd) : (!(l.any (badCh d))) = chOk d l:=by
 unfold chOk
 rw [List.not_any_eq_all_not]
 congr 1
 funext x
 unfold badCh withinL
 simp only [List.all_cons,List.all_nil,Bool.and_true]
 by_cases h1 : 0 ≤ x.lo <;> by_cases h2 : x.lo ≤ d <;> by_cases h3 : 0 ≤ x.hi <;> by_cases h4 : x.hi ≤ d <;> by_cases h5 : x.hi < x.lo <;> by_cases h6 : x.lo ≤ x.hi <;> simp [h1,h2,h3,h4,h5,h6] <;> omega
theorem chOk_small {d : Int} {l : List Bd} (h : chOk d l = true) (hd : d ≤ 6000) : Small l:=fun x hx=>by
 have:=List.all_eq_true.1 h x hx
 simp only [Bool.and_eq_true,decide_eq_true_eq] at this
 omega
def aimOk (d : Int) (a : Am) : Bool:=bedOk a.at_ && !a.beds.isEmpty && seqOk none a.beds && chOk d a.beds && decide (loS a.beds ≤ d) && decide (d ≤ hiS a.beds)
def WfA (a : Am) : Prop:=I64 a.at_ ∧ Wf a.beds
theorem isValid_ok (a : Am) (d : Int) (hw : WfA a) (hd : d ≤ 6000) (hl : a.beds.length ≤ 1000) : ACalls Try.prog 185 [chV a d] (.bo (aimOk d a)):=by
 refine acalls_st (rs:=[.bo (aimOk d a)]) [.tmp 2] Try.func185 rfl (by kernel_rfl) Try.ntmps185 rfl (by simp) rfl fun C vs=>?_
 refine zq ?_
 refine zb fun K hK=>?_;simp only [go_sem];refine hK _ ?_;clear hK K;refine zw (zk [1]) ?_;simp only [go_sem]
 repeat refine zq ?_
 refine zb fun K hK=>?_;simp only [go_sem]
 refine zh (areBeds_ok a.at_ a.beds d hw.1 hw.2) rfl (by simp only [go_sem,i64,ints]) (by simp only [go_sem,i64,ints]) (by first | exact .inl rfl | exact .inr rfl) ?_
 (try simp only [go_sem])
 cases h1 : (bedOk a.at_ && !a.beds.isEmpty && seqOk none a.beds)
 · try simp only [go_sem]
   refine hK _ ?_;clear hK K
   refine zc rfl (fun hc=>?_) (fun hc=>?_) <;> (try simp only [go_sem] at hc)
   refine zq ?_
   refine zb fun K hK=>?_;simp only [go_sem];refine hK _ ?_;clear hK K;refine ze ?_;simp only [go_sem]
   simp [aimOk,h1]
 try simp only [go_sem]
 refine zh (containsB_ok (badCh d) 223 [.rp [i64 a.at_,bedsR a.beds,i64 d]] a.beds fun x _=>valid1_ok a.at_ a.beds d x) rfl (by simp only [go_sem,i64,ints]) (by simp only [go_sem,i64,ints]) (by first | exact .inl rfl | exact .inr rfl) ?_
 (try simp only [go_sem]);refine hK _ ?_;clear hK K;refine zw (zk [1,13]) ?_;simp only [go_sem]
 have h2:=badCh_eq d a.beds
 cases h3 : a.beds.any (badCh d)
 · rw [h3] at h2
   have h4 : chOk d a.beds = true:=by simpa using h2.symm
   refine zc rfl (fun hc=>?_) (fun hc=>?_) <;> (try simp only [go_sem] at hc)
   refine zx ?_
   try simp only [go_sem]
   refine zq ?_
   refine zb fun K hK=>?_;simp only [go_sem]
   refine zh (sums_ok a.at_ a.beds d (chOk_small h4 hd) hl) rfl (by simp only [go_sem,i64,ints]) (by simp only [go_sem,i64,ints]) (by first | exact .inl rfl | exact .inr rfl) ?_
   (try simp only [go_sem]);refine hK _ ?_;clear hK K;refine zw (zk [1,3]) ?_;simp only [go_sem]
   refine zq ?_
   refine zb fun K hK=>?_;simp only [go_sem]
   refine zh (within_ok (loS a.beds) (hiS a.beds) [d]) rfl (by simp only [go_sem,i64,ints]) (by simp only [go_sem,i64,ints]) (by first | exact .inl rfl | exact .inr rfl) ?_
   (try simp only [go_sem]);refine hK _ ?_;clear hK K;refine ze ?_;simp only [go_sem]
   simp [aimOk,h1,h4,withinL]
 · rw [h3] at h2
   have h4 : chOk d a.beds = false:=by simpa using h2.symm
   refine zc rfl (fun hc=>?_) (fun hc=>?_) <;> (try simp only [go_sem] at hc)
   refine zq ?_
   refine zb fun K hK=>?_;simp only [go_sem];refine hK _ ?_;clear hK K;refine ze ?_;simp only [go_sem]
   simp [aimOk,h4]
def enumA (d : Int) (l : List Am) : List (List RV):=l.zipIdx.map fun x=>[i64 x.2,chV x.1 d]
theorem enumA_get {d : Int} {l : List Am} {i : Nat} {e : List RV} (h : (enumA d l)[i]? = some e) : ∃ x,l[i]? = some x ∧ e = [i64 i,chV x d]:=by
 simp only [enumA,List.getElem?_map,List.getElem?_zipIdx,Nat.zero_add] at h
 cases hx : l[i]? with
 | none=>rw [hx] at h; cases h
 | some x=>rw [hx] at h; simp only [Option.map_some,Option.some.injEq] at h; exact ⟨x,rfl,h.symm⟩
theorem enumA_len {d : Int} {l : List Am} {e : List RV} (h : e ∈ enumA d l) : e.length = 2:=by
 obtain ⟨i,hi⟩:=List.getElem?_of_mem h
 obtain ⟨x,_,rfl⟩:=enumA_get hi
 rfl
theorem xcall_yield {n : Nat} {l : List (Nat × AV)} {vs : Nat → Nat} {cs : List (Nat × RowC)} {P : Program} {d : Option Nat} {ll : Nat} {z : Bool} {e : List RV} {rest : List (List RV)} {xs : List AV} {K : AS → Prop} (hrow : lookc cs 999 = .gh P ll z (some (e :: rest)))
 (hp : AV.pureL xs = true) (he : snapVL (st n l vs cs).rows xs = e) (hfl : RV.flatL e = true ∨ z = false) (hK1 : K ((st n l vs (insc cs 999 (.gh P ll z (some rest)))).put d (.r (.bo true)))) (hK2 : K ((st n l vs (insc cs 999 (.gh P ll z none))).put d (.r (.bo false)))) :
 xcall P false (st n l vs cs) d (.r (.yl ll)) xs K:=by
 have hr : ∀ c,(st n l vs cs).row 999 ⟨((st n l vs cs).rows 999).ver,c⟩ = st n l vs (insc cs 999 c):=fun c=>by
  rw [row_st]
  congr 1
  exact upd_self vs 999
 exact .inr (.inl ⟨rfl,.inr (.inr (.inl ⟨ll,z,e,rest,rfl,hrow,hp,he ▸ leL_refl _,hfl,by rw [hr]; exact hK1,by rw [hr]; exact hK2⟩))⟩)
theorem all1_ok (d : Int) (l : List Am) : ICalls Try.prog false 188 [.rp [i64 d,aimsR l]] (enumA d l):=by
 refine icalls_st Try.func188 rfl (by kernel_rfl) Try.ntmps188 rfl (by simp) fun C ll=>?_
 refine zq ?_
 refine zb fun K hK=>?_;simp only [go_sem,argL]
 intro hl7
 refine hK _ ?_;clear hK K;refine zw (zk [0,1,6,7,8]) ?_;simp only [go_sem];refine zd ?_
 refine awp_upto (n:=22) l.length (fun i vs=>[(0,.r (.yl ll)),(1,.r (.rp [i64 d,aimsR l])),(6,.r (aimsR l)),(7,.r (i64 l.length)),(8,.r (i64 i))])
  (fun i=>[(999,.gh Try.prog ll false (some ((enumA d l).drop i)))]) (fun _=>True) 0 (fit_of [] ?_ ?_) (Nat.zero_le _) trivial ?_
 · try simp only [go_sem]
 · try simp only [go_sem]
 · intro i vs hi _
   refine zq ?_
   refine zb fun K hK=>?_;simp only [go_sem];refine hK _ ?_;clear hK K
   refine zq ?_
   refine zc rfl (fun hc=>?_) (fun hc=>?_) <;> (try simp only [go_sem] at hc)
   · obtain ⟨x,hx⟩:=opt_of_lt hc
     have hci:=hc
     have he : (enumA d l).drop i = [i64 i,chV x d] :: (enumA d l).drop (i + 1):=by
      refine drop_of_opt ?_
      simp [enumA,hx]
     refine zx ?_
     refine zq ?_
     refine zd ?_
     refine zq ?_
     refine zb fun K hK=>?_;simp only [go_sem,hx,hc,aimR];refine hK _ ?_;clear hK K;refine zw (zk [0,1,3,4,6,7,8]) ?_;simp only [go_sem]
     refine zq ?_
     refine zb fun K hK=>?_;simp only [go_sem]
     refine xcall_yield (e:=[i64 i,chV x d]) (rest:=(enumA d l).drop (i + 1)) (by simp only [go_sem,he]) rfl (by simp only [go_sem]) (.inr rfl) ?_ ?_
     · simp only [go_sem];refine hK _ ?_;clear hK K;refine zw (zk [0,1,6,7,8,20]) ?_;simp only [go_sem]
       refine zc rfl (fun hc=>?_) (fun hc=>?_) <;> (try simp only [go_sem] at hc)
       refine zx ?_
       try simp only [go_sem]
       refine zb fun K hK=>?_;simp only [go_sem];(try simp (disch:=omega) only [zI]);refine hK _ ?_;clear hK K
       try simp only [go_sem]
       exact ⟨hci,fit_of [4] (by try simp only [go_sem]) (by try simp only [go_sem])⟩
     · simp only [go_sem];refine hK _ ?_;clear hK K;refine zw (zk [20]) ?_;simp only [go_sem]
       refine zc rfl (fun hc=>?_) (fun hc=>?_) <;> (try simp only [go_sem] at hc)
       refine ze ?_;simp only [go_sem];exact ⟨_,_,.inr rfl⟩
   · refine zf ?_;simp only [go_sem]
     have h0 : (enumA d l).drop i = []:=List.drop_eq_nil_of_le (by simp [enumA]; omega)
     exact ⟨ll,false,.inl (by simp only [go_sem,h0])⟩
theorem all_ok (d : Int) (l : List Am) : ACalls Try.prog 128 [lawV d l] (.fn 188 [.rp [i64 d,aimsR l]]):=by
 refine acalls_st (rs:=[.fn 188 [.rp [i64 d,aimsR l]]]) [.tmp 2] Try.func128 rfl (by kernel_rfl) Try.ntmps128 rfl (by simp) rfl fun C vs=>?_
 refine zq ?_
 refine zb fun K hK=>?_;simp only [go_sem];refine hK _ ?_;clear hK K
 refine zq ?_
 refine zb fun K hK=>?_;simp only [go_sem];refine hK _ ?_;clear hK K;refine ze ?_;simp only [go_sem]
 simp [RV.le,leL_refl.le_refl,leL_refl]
theorem check1_ok (a : Am) : ACalls Try.prog 184 [aimV a] (.bo (decide (10 < a.beds.length))):=by
 refine acalls_st (rs:=[.bo (decide (10 < a.beds.length))]) [.tmp 2] Try.func184 rfl (by kernel_rfl) Try.ntmps184 rfl (by simp) rfl fun C vs=>?_
 refine zq ?_
 refine zb fun K hK=>?_;simp only [go_sem];refine hK _ ?_;clear hK K
 refine zq ?_
 refine zb fun K hK=>?_;simp only [go_sem]
 intro _
 refine hK _ ?_;clear hK K;refine ze ?_;simp only [go_sem]
 simp
 omega
def checkV (d : Int) (l : List Am) : Int :=
 if (decide (20 < l.length) || l.any fun a=>decide (10 < a.beds.length)) = true then 5
 else if (l.isEmpty || !(decide (1 ≤ d) && decide (d ≤ 3000))) = true then 2
 else if l.all (aimOk d) = true then 0 else 2
def WfL (d : Int) (l : List Am) : Prop:=I64 d ∧ ∀ a ∈ l,WfA a
theorem check_ok (d : Int) (l : List Am) (hw : WfL d l) : ACalls Try.prog 122 [lawV d l] (i64 (checkV d l)):=by
 refine acalls_stR (rs:=[i64 (checkV d l)]) [.cell 2 37] Try.func122 rfl (by kernel_rfl) Try.ntmps122 rfl (by simp) rfl fun C hC vs=>?_
 refine zq ?_
 refine zb fun K hK=>?_;simp only [go_sem];refine hK _ ?_;clear hK K;refine zw (zk [1,2]) ?_;simp only [go_sem]
 repeat refine zq ?_
 refine zb fun K hK=>?_;simp only [go_sem]
 intro hl8
 refine ⟨fun h1=>?_,fun h1=>?_⟩
 rotate_left
 · skip
   refine hK _ ?_;clear hK K
   refine zc rfl (fun hc=>?_) (fun hc=>?_) <;> (try simp only [go_sem] at hc)
   refine zq ?_
   refine zb fun K hK=>?_;simp only [go_sem];refine hK _ ?_;clear hK K;refine ze ?_;simp only [go_sem]
   have h1' : 20 < l.length:=by omega
   simp [checkV,h1']
 have h1' : ¬ 20 < l.length:=by omega
 refine zh (containsA_ok (fun a=>decide (10 < a.beds.length)) 184 [] l fun x _=>check1_ok x) rfl (by simp only [go_sem,i64,ints]) (by simp only [go_sem,i64,ints]) (by first | exact .inl rfl | exact .inr rfl) ?_
 (try simp only [go_sem]);refine hK _ ?_;clear hK K;refine zw (zk [1,2,13]) ?_;simp only [go_sem]
 cases h2 : l.any fun a=>decide (10 < a.beds.length)
 case true =>
  refine zc rfl (fun hc=>?_) (fun hc=>?_) <;> (try simp only [go_sem] at hc)
  refine zq ?_
  refine zb fun K hK=>?_;simp only [go_sem];refine hK _ ?_;clear hK K;refine ze ?_;simp only [go_sem]
  simp [checkV,h2]
 have hlen : ∀ a ∈ l,a.beds.length ≤ 10:=fun a ha=>by
  have:=List.any_eq_false.1 h2 a ha
  simpa using this
 refine zc rfl (fun hc=>?_) (fun hc=>?_) <;> (try simp only [go_sem] at hc)
 refine zx ?_
 try simp only [go_sem]
 repeat refine zq ?_
 refine zb fun K hK=>?_;simp only [go_sem]
 intro _
 have h12 : (decide (20 < l.length) || l.any fun a=>decide (10 < a.beds.length)) = false:=by simp only [h2,Bool.or_false]; simpa using h1'
 have hV : checkV d l = if (l.isEmpty || !(decide (1 ≤ d) && decide (d ≤ 3000))) = true then 2 else if l.all (aimOk d) = true then 0 else 2:=by
  unfold checkV
  rw [h12]
  rfl
 refine ⟨fun h3=>?_,fun h3=>?_⟩
 rotate_left
 · have h4 : l = []:=List.length_eq_zero_iff.1 (by omega)
   refine hK _ ?_;clear hK K
   refine zc rfl (fun hc=>?_) (fun hc=>?_) <;> (try simp only [go_sem] at hc)
   refine zq ?_
   refine zb fun K hK=>?_;simp only [go_sem];refine hK _ ?_;clear hK K;refine ze ?_;simp only [go_sem];rw [hV,h4]
   rfl
 have h4 : l.isEmpty = false:=by
  cases l with
  | nil=>simp at h3
  | cons=>rfl
 rw [h4,Bool.false_or] at hV
 refine zh (within_ok 1 3000 [d]) rfl (by simp only [go_sem,i64,ints]) (by simp only [go_sem,i64,ints]) (by first | exact .inl rfl | exact .inr rfl) ?_
 (try simp only [go_sem]);refine hK _ ?_;clear hK K;refine zw (zk [1,2,24]) ?_;simp only [go_sem]
 have hwd : withinL 1 3000 [d] = (decide (1 ≤ d) && decide (d ≤ 3000)):=by simp [withinL]
 rw [hwd]
 cases h5 : (decide (1 ≤ d) && decide (d ≤ 3000))
 · skip
   refine zc rfl (fun hc=>?_) (fun hc=>?_) <;> (try simp only [go_sem] at hc)
   refine zq ?_
   refine zb fun K hK=>?_;simp only [go_sem];refine hK _ ?_;clear hK K;refine ze ?_;simp only [go_sem];rw [hV,h5]
   rfl
 rw [h5] at hV
 have hd : d ≤ 6000:=by simp at h5; omega
 refine zc rfl (fun hc=>?_) (fun hc=>?_) <;> (try simp only [go_sem] at hc)
 refine zx ?_
 try simp only [go_sem]
 repeat refine zq ?_
 refine zb fun K hK=>?_;simp only [go_sem]
 refine zh (all_ok d l) rfl (by simp only [go_sem,i64,ints]) (by simp only [go_sem,i64,ints]) (by first | exact .inl rfl | exact .inr rfl) ?_
 (try simp only [go_sem]);refine hK _ ?_;clear hK K;refine zw (zk [2,26]) ?_;simp only [go_sem];refine zd ?_
 refine awp_rangeF hC (enumA d l) (all1_ok d l) [2,26] (by decide) (fun vs=>[(2,.pt 2 (vs 2) 0),(26,.r (.fn 188 [.rp [i64 d,aimsR l]]))]) (fun i vs=>[(2,.box [.r (i64 0)])])
  (fun i=>(l.take i).all (aimOk d) = true) (zj [1] ?_ ?_) (by simp) (fun _=>rfl) (fun _=>rfl) (fun _ _=>rfl) (by simp) (fun e he=>enumA_len he) ?_ ?_
 · try simp only [go_sem]
 · try simp only [go_sem]
 · intro i e vs us C he hI
   obtain ⟨x,hx,rfl⟩:=enumA_get he
   refine zb fun K hK=>?_;simp only [go_sem];refine hK _ ?_;clear hK K
   refine ⟨rfl,fun C'=>?_⟩
   refine zw (zk [2,4,26]) ?_;simp only [go_sem];refine zd ?_
   refine zq ?_
   refine zb fun K hK=>?_;simp only [go_sem]
   refine zh (isValid_ok x d (hw.2 x (mem_of_opt hx)) hd (by have:=hlen x (mem_of_opt hx); omega)) rfl (by simp only [go_sem,i64,ints]) (by simp only [go_sem,i64,ints]) (by first | exact .inl rfl | exact .inr rfl) ?_
   (try simp only [go_sem]);refine hK _ ?_;clear hK K;refine zw (zk [2,26,31]) ?_;simp only [go_sem]
   cases h6 : aimOk d x
   · skip
     refine zc rfl (fun hc=>?_) (fun hc=>?_) <;> (try simp only [go_sem] at hc)
     refine zq ?_
     refine zb fun K hK=>?_;simp only [go_sem];refine hK _ ?_;clear hK K;refine ze ?_;simp only [go_sem]
     refine rf_ret (by simp only [go_sem]; rfl) ?_
     try simp only [go_sem]
     rw [hV]
     have : l.all (aimOk d) = false:=List.all_eq_false.2 ⟨x,mem_of_opt hx,by simp [h6]⟩
     rw [this]
     rfl
   · skip
     refine zc rfl (fun hc=>?_) (fun hc=>?_) <;> (try simp only [go_sem] at hc)
     refine zx ?_
     try simp only [go_sem]
     refine ⟨?_,zj (F:=fun _=>[]) [4] (by try simp only [go_sem]) (by try simp only [go_sem])⟩
     rw [take_of_opt hx]; simp [hI,h6]
 · intro vs us hI
   try simp only [go_sem]
   refine zw (sub_wake rfl) ?_
   refine zq ?_
   refine zb fun K hK=>?_;simp only [go_sem];refine hK _ ?_;clear hK K;refine ze ?_;simp only [go_sem];rw [hV]
   have : (enumA d l).length = l.length:=by simp [enumA]
   rw [this,List.take_length] at hI
   rw [hI]
   rfl
abbrev Sp:=Int × Int
def spanR (x : Int × Int) : List RV:=[i64 x.1,i64 x.2]
abbrev spanV (x : Int × Int) : RV:=.ag [i64 x.1,i64 x.2]
abbrev spansR (l : List (Int × Int)) : RV:=.sl 2 (l.map spanR)
structure Ru where
 d : Int
 aims : List Am
 start : Int
 out : Int
 ends : List (Int × Int)
abbrev ruC (r : Ru) : List RV:=[i64 r.d,aimsR r.aims,i64 r.start,i64 r.out,spansR r.ends]
abbrev ruV (r : Ru) : RV:=.ag (ruC r)
theorem indexS_ok (p : (Int × Int) → Bool) (f : Nat) (caps : List RV) (l : List (Int × Int)) (h : ∀ x ∈ l,ACalls Try.prog f (spanV x :: caps) (.bo (p x))) : ACalls Try.prog 210 [spansR l,.fn f caps] (i64 (indexF p l)):=by
 refine acalls_st (rs:=[i64 (indexF p l)]) [.tmp 4] Try.func210 rfl (by kernel_rfl) Try.ntmps210 rfl (by simp) rfl fun C vs=>?_
 refine zq ?_
 refine zb fun K hK=>?_;simp only [go_sem];refine hK _ ?_;clear hK K
 repeat refine zq ?_
 refine zb fun K hK=>?_;simp only [go_sem]
 intro hl
 refine hK _ ?_;clear hK K;refine zd ?_
 refine awp_upto (n:=19) l.length (fun i vs=>[(0,.r (spansR l)),(1,.r (.fn f caps)),(7,.r (i64 l.length)),(8,.r (i64 i))]) (fun _=>[])
  (fun i=>indexF p l = if indexF p (l.drop i) < 0 then -1 else i + indexF p (l.drop i)) 0 (fit_of [] ?_ rfl) (Nat.zero_le _) ?_ ?_
 · try simp only [go_sem]
 · simp only [List.drop_zero]
   have:=indexF_ge p l
   split
   · omega
   · simp
 · intro i vs hi hI
   refine zq ?_
   refine zb fun K hK=>?_;simp only [go_sem];refine hK _ ?_;clear hK K
   refine zq ?_
   refine zc rfl (fun hc=>?_) (fun hc=>?_) <;> (try simp only [go_sem] at hc)
   · obtain ⟨x,hx⟩:=opt_of_lt hc
     rw [drop_of_opt hx] at hI
     refine zx ?_
     refine zq ?_
     refine zd ?_
     refine zq ?_
     refine zb fun K hK=>?_;simp only [go_sem];refine hK _ ?_;clear hK K
     refine zq ?_
     refine zb fun K hK=>?_;simp only [go_sem,hx,hc,spanR]
     refine zh (h x (mem_of_opt hx)) rfl (by simp only [go_sem,i64,ints]) (by simp only [go_sem,i64,ints]) (by first | exact .inl rfl | exact .inr rfl) ?_
     (try simp only [go_sem]);refine hK _ ?_;clear hK K
     refine zc rfl (fun hc=>?_) (fun hc=>?_) <;> (try simp only [go_sem] at hc)
     · refine zq ?_
       refine zb fun K hK=>?_;simp only [go_sem];refine hK _ ?_;clear hK K;refine ze ?_;simp only [go_sem]
       simp [hI,indexF,hc]
     · refine zx ?_
       try simp only [go_sem]
       refine zb fun K hK=>?_;simp only [go_sem];(try simp (disch:=omega) only [zI]);refine hK _ ?_;clear hK K
       try simp only [go_sem]
       refine ⟨‹_›,?_,fit_of [] ?_ rfl⟩
       · rw [hI]
         simp only [indexF,hc,Bool.false_eq_true,if_false]
         have:=indexF_ge p (l.drop (i + 1))
         (repeat' split) <;> omega
       · try simp only [go_sem]
   · refine zf ?_;simp only [go_sem]
     refine zq ?_
     refine zb fun K hK=>?_;simp only [go_sem];refine hK _ ?_;clear hK K;refine ze ?_;simp only [go_sem]
     have : l.drop i = []:=List.drop_eq_nil_of_le (by omega)
     simp [hI,this,indexF]
theorem containsS_ok (p : (Int × Int) → Bool) (f : Nat) (caps : List RV) (l : List (Int × Int)) (h : ∀ x ∈ l,ACalls Try.prog f (spanV x :: caps) (.bo (p x))) : ACalls Try.prog 158 [spansR l,.fn f caps] (.bo (l.any p)):=by
 refine acalls_st (rs:=[.bo (l.any p)]) [.tmp 4] Try.func158 rfl (by kernel_rfl) Try.ntmps158 rfl (by simp) rfl fun C vs=>?_
 refine zq ?_
 refine zb fun K hK=>?_;simp only [go_sem];refine hK _ ?_;clear hK K
 refine zq ?_
 refine zb fun K hK=>?_;simp only [go_sem]
 refine zh (indexS_ok p f caps l h) rfl (by simp only [go_sem,i64,ints]) (by simp only [go_sem,i64,ints]) (by first | exact .inl rfl | exact .inr rfl) ?_
 (try simp only [go_sem]);refine hK _ ?_;clear hK K;refine ze ?_;simp only [go_sem];rw [← indexF_any]
theorem dwithin1_ok (n a b : Int) : ACalls Try.prog 178 [i64 n,.rp [i64 a],.rp [i64 b]] (.bo (decide (n < a) || decide (b < n))):=by
 refine acalls_st (rs:=[.bo (decide (n < a) || decide (b < n))]) [.tmp 4] Try.func178 rfl (by kernel_rfl) Try.ntmps178 rfl (by simp) rfl fun C vs=>?_
 refine zq ?_
 refine zb fun K hK=>?_;simp only [go_sem];refine hK _ ?_;clear hK K
 refine zq ?_
 refine zb fun K hK=>?_;simp only [go_sem]
 refine ⟨fun h=>?_,fun h=>?_⟩ <;>
 · skip
   refine hK _ ?_;clear hK K;refine ze ?_;simp only [go_sem]
   try simp [h]
theorem dwithin_ok (a b : Int) (l : List Int) : ACalls Try.prog 118 [i64 a,i64 b,ints l] (.bo (withinL a b l)):=by
 refine acalls_st (rs:=[.bo (withinL a b l)]) [.tmp 6] Try.func118 rfl (by kernel_rfl) Try.ntmps118 rfl (by simp) rfl fun C vs=>?_
 refine zq ?_
 refine zb fun K hK=>?_;simp only [go_sem];refine hK _ ?_;clear hK K
 refine zq ?_
 refine zb fun K hK=>?_;simp only [go_sem]
 refine zh (contains_ok (fun n=>decide (n < a) || decide (b < n)) 178 [.rp [i64 a],.rp [i64 b]] l fun x _=>dwithin1_ok x a b) rfl (by simp only [go_sem,i64,ints]) (by simp only [go_sem,i64,ints]) (by first | exact .inl rfl | exact .inr rfl) ?_
 (try simp only [go_sem]);refine hK _ ?_;clear hK K;refine ze ?_;simp only [go_sem];rw [← withinL_not]
def endOk (x : Int × Int) : Bool:=decide (x.1 ≤ x.2) && withinL 0 1000000 [x.1,x.2]
theorem isEnd_ok (x : Int × Int) : ACalls Try.prog 157 [spanV x] (.bo (endOk x)):=by
 refine acalls_st (rs:=[.bo (endOk x)]) [.tmp 2] Try.func157 rfl (by kernel_rfl) Try.ntmps157 rfl (by simp) rfl fun C vs=>?_
 refine zq ?_
 refine zb fun K hK=>?_;simp only [go_sem];refine hK _ ?_;clear hK K;refine zw (sub_frzP 1 1 [i64 x.1,i64 x.2] (by omega) rfl rfl) ?_;refine zw (zk [1]) ?_;simp only [go_sem]
 by_cases h : x.1 ≤ x.2
 · have c : decide (x.1 ≤ x.2) = true:=by simpa using h
   refine zq ?_
   refine zb fun K hK=>?_;simp only [go_sem,c]
   refine zh (dwithin_ok 0 1000000 [x.1,x.2]) rfl (by simp only [go_sem,i64,ints]) (by simp only [go_sem,i64,ints]) (by first | exact .inl rfl | exact .inr rfl) ?_
   (try simp only [go_sem]);refine hK _ ?_;clear hK K;refine zw (zk [2]) ?_;simp only [go_sem];refine ze ?_;simp only [go_sem]
   simp [endOk,h]
 · have c : decide (x.1 ≤ x.2) = false:=by simpa using h
   refine zq ?_
   refine zb fun K hK=>?_;simp only [go_sem,c];refine hK _ ?_;clear hK K;refine zw (zk [2]) ?_;simp only [go_sem];refine ze ?_;simp only [go_sem]
   simp [endOk,h]
theorem bad_ok (x : Int × Int) : ACalls Try.prog 156 [spanV x] (.bo (!endOk x)):=by
 refine acalls_st (rs:=[.bo (!endOk x)]) [.tmp 2] Try.func156 rfl (by kernel_rfl) Try.ntmps156 rfl (by simp) rfl fun C vs=>?_
 refine zq ?_
 refine zb fun K hK=>?_;simp only [go_sem];refine hK _ ?_;clear hK K;refine zw (sub_frzP 1 1 [i64 x.1,i64 x.2] (by omega) rfl rfl) ?_;refine zw (zk [1]) ?_;simp only [go_sem]
 refine zq ?_
 refine zb fun K hK=>?_;simp only [go_sem]
 refine zh (isEnd_ok x) rfl (by simp only [go_sem,i64,ints]) (by simp only [go_sem,i64,ints]) (by first | exact .inl rfl | exact .inr rfl) ?_
 (try simp only [go_sem]);refine hK _ ?_;clear hK K;refine zw (zk [2]) ?_;simp only [go_sem];refine ze ?_;simp only [go_sem]
def lowestR (r : Ru) : Int:=if r.out = 0 then 1 else 2
def lastE (r : Ru) : Int:=(r.ends.getD (r.ends.length - 1) (0,0)).1
def ruE (r : Ru) : Int :=
 if checkV r.d r.aims ≠ 0 then checkV r.d r.aims
 else if (decide (2 ≤ r.start) && decide (r.start ≤ 40) && decide (0 ≤ r.out) && decide (r.out ≤ 2) && decide (1 ≤ r.ends.length) && decide (r.ends.length ≤ 10) && r.ends.all endOk && decide (lastE r = 1000000)) = true then 0 else 2
theorem within1L (a b n : Int) : withinL a b [n] = (decide (a ≤ n) && decide (n ≤ b)):=by simp [withinL]
structure WfR (r : Ru) : Prop where
 law : WfL r.d r.aims
theorem dcheck_ok (r : Ru) (hw : WfR r) : ACalls Try.prog 88 [ruV r] (i64 (ruE r)):=by
 have hc:=check_ok r.d r.aims hw.law
 refine acalls_st (rs:=[i64 (ruE r)]) [.tmp 2] Try.func88 rfl (by kernel_rfl) Try.ntmps88 rfl (by simp) rfl fun C vs=>?_
 refine zq ?_
 refine zb fun K hK=>?_;simp only [go_sem];refine hK _ ?_;clear hK K;refine zw (sub_frzP 1 1 (ruC r) (by omega) rfl rfl) ?_;refine zw (zk [1]) ?_;simp only [go_sem]
 repeat refine zq ?_
 refine zb fun K hK=>?_;simp only [go_sem]
 refine zh (hc) rfl (by simp only [go_sem,i64,ints]) (by simp only [go_sem,i64,ints]) (by first | exact .inl rfl | exact .inr rfl) ?_
 (try simp only [go_sem]);refine hK _ ?_;clear hK K;refine zw (zk [1,3]) ?_;simp only [go_sem]
 by_cases h0 : checkV r.d r.aims = 0
 rotate_left
 · have c : (checkV r.d r.aims != 0) = true:=by simpa using h0
   have e : ruE r = checkV r.d r.aims:=by simp [ruE,h0]
   refine zq ?_
   refine zb fun K hK=>?_;simp only [go_sem,c];refine hK _ ?_;clear hK K;refine zw (zk [1,3,9]) ?_;simp only [go_sem]
   refine zc rfl (fun hc=>?_) (fun hc=>?_) <;> (try simp only [go_sem] at hc)
   refine zq ?_
   refine zb fun K hK=>?_;simp only [go_sem];refine hK _ ?_;clear hK K;refine zw (zk [2]) ?_;simp only [go_sem];refine ze ?_;simp only [go_sem];rw [e]
 rw [h0]
 refine zq ?_
 refine zb fun K hK=>?_;simp only [go_sem,bne_self_eq_false];refine hK _ ?_;clear hK K;refine zw (zk [1,3,9]) ?_;simp only [go_sem]
 refine zc rfl (fun hc=>?_) (fun hc=>?_) <;> (try simp only [go_sem] at hc)
 refine zx ?_
 try simp only [go_sem]
 refine zq ?_
 refine zb fun K hK=>?_;simp only [go_sem];refine hK _ ?_;clear hK K;refine zw (zk [1,4]) ?_;simp only [go_sem]
 repeat refine zq ?_
 refine awp_join (n:=49) (fun (b : Bool) vs=>[(48,.r (.bo b))]) (fun _=>[]) (fun b=>ruE r = if b then 2 else 0) (fun _ h=>h) ?_ ?_
 · have w1:=dwithin_ok 2 40 [r.start]
   have w2:=dwithin_ok 0 2 [r.out]
   have w3:=dwithin_ok 1 10 [(r.ends.length : Int)]
   have w4:=containsS_ok (fun x=>!endOk x) 156 [] r.ends fun x _=>bad_ok x
   rw [within1L] at w1 w2 w3
   cases b1 : (decide (2 ≤ r.start) && decide (r.start ≤ 40))
   · rw [b1] at w1
     refine zb fun K hK=>?_;simp only [go_sem]
     refine zh (w1) rfl (by simp only [go_sem,i64,ints]) (by simp only [go_sem,i64,ints]) (by first | exact .inl rfl | exact .inr rfl) ?_
     (try simp only [go_sem]);refine hK _ ?_;clear hK K
     try simp only [go_sem]
     exact ⟨true,by simp [ruE,h0,b1],fit_of [] (by try simp only [go_sem]) (by try simp only [go_sem])⟩
   rw [b1] at w1
   cases b2 : (decide (0 ≤ r.out) && decide (r.out ≤ 2))
   · rw [b2] at w2
     refine zb fun K hK=>?_;simp only [go_sem]
     refine zh (w1) rfl (by simp only [go_sem,i64,ints]) (by simp only [go_sem,i64,ints]) (by first | exact .inl rfl | exact .inr rfl) ?_
     (try simp only [go_sem])
     refine zh (w2) rfl (by simp only [go_sem,i64,ints]) (by simp only [go_sem,i64,ints]) (by first | exact .inl rfl | exact .inr rfl) ?_
     (try simp only [go_sem]);refine hK _ ?_;clear hK K
     try simp only [go_sem]
     exact ⟨true,by simp only [ruE,h0]; simp_all; omega,fit_of [] (by try simp only [go_sem]) (by try simp only [go_sem])⟩
   rw [b2] at w2
   cases b3 : (decide (1 ≤ (r.ends.length : Int)) && decide ((r.ends.length : Int) ≤ 10))
   · rw [b3] at w3
     refine zb fun K hK=>?_;simp only [go_sem]
     refine zh (w1) rfl (by simp only [go_sem,i64,ints]) (by simp only [go_sem,i64,ints]) (by first | exact .inl rfl | exact .inr rfl) ?_
     (try simp only [go_sem])
     refine zh (w2) rfl (by simp only [go_sem,i64,ints]) (by simp only [go_sem,i64,ints]) (by first | exact .inl rfl | exact .inr rfl) ?_
     (try simp only [go_sem])
     intros
     refine zh (w3) rfl (by simp only [go_sem,i64,ints]) (by simp only [go_sem,i64,ints]) (by first | exact .inl rfl | exact .inr rfl) ?_
     (try simp only [go_sem]);refine hK _ ?_;clear hK K
     try simp only [go_sem]
     exact ⟨true,by simp only [ruE,h0]; simp_all; omega,fit_of [] (by try simp only [go_sem]) (by try simp only [go_sem])⟩
   rw [b3] at w3
   cases b4 : (r.ends.any fun x=>!endOk x)
   rotate_left
   · rw [b4] at w4
     have e4 : r.ends.all endOk = false:=by
      rw [List.any_eq_true] at b4
      obtain ⟨x,hx,h⟩:=b4
      exact Bool.eq_false_iff.2 fun h2=>by
       have:=List.all_eq_true.1 h2 x hx
       rw [this] at h; cases h
     refine zb fun K hK=>?_;simp only [go_sem]
     refine zh (w1) rfl (by simp only [go_sem,i64,ints]) (by simp only [go_sem,i64,ints]) (by first | exact .inl rfl | exact .inr rfl) ?_
     (try simp only [go_sem])
     refine zh (w2) rfl (by simp only [go_sem,i64,ints]) (by simp only [go_sem,i64,ints]) (by first | exact .inl rfl | exact .inr rfl) ?_
     (try simp only [go_sem])
     intros
     refine zh (w3) rfl (by simp only [go_sem,i64,ints]) (by simp only [go_sem,i64,ints]) (by first | exact .inl rfl | exact .inr rfl) ?_
     (try simp only [go_sem])
     refine zh (w4) rfl (by simp only [go_sem,i64,ints]) (by simp only [go_sem,i64,ints]) (by first | exact .inl rfl | exact .inr rfl) ?_
     (try simp only [go_sem]);refine hK _ ?_;clear hK K
     try simp only [go_sem]
     exact ⟨true,by simp [ruE,h0,e4],fit_of [] (by try simp only [go_sem]) (by try simp only [go_sem])⟩
   rw [b4] at w4
   have e4 : r.ends.all endOk = true:=by
    rw [List.all_eq_true]
    intro x hx
    have:=List.any_eq_false.1 b4 x hx
    simpa using this
   have hpos : 1 ≤ r.ends.length:=by
    simp only [Bool.and_eq_true,decide_eq_true_eq] at b3; omega
   have h10 : r.ends.length ≤ 10:=by
    simp only [Bool.and_eq_true,decide_eq_true_eq] at b3; omega
   obtain ⟨x,hx⟩:=opt_of_lt (l:=r.ends) (i:=r.ends.length - 1) (by omega)
   have hl : lastE r = x.1:=by simp [lastE,List.getD_eq_getElem?_getD,hx]
   have hsb : IntKind.i64.wrap ((r.ends.length : Int) - 1) = ((r.ends.length - 1 : Nat) : Int):=by rw [zI] <;> omega
   have hlt : r.ends.length - 1 < r.ends.length:=by omega
   refine zb fun K hK=>?_;simp only [go_sem]
   refine zh (w1) rfl (by simp only [go_sem,i64,ints]) (by simp only [go_sem,i64,ints]) (by first | exact .inl rfl | exact .inr rfl) ?_
   (try simp only [go_sem])
   refine zh (w2) rfl (by simp only [go_sem,i64,ints]) (by simp only [go_sem,i64,ints]) (by first | exact .inl rfl | exact .inr rfl) ?_
   (try simp only [go_sem])
   intros
   refine zh (w3) rfl (by simp only [go_sem,i64,ints]) (by simp only [go_sem,i64,ints]) (by first | exact .inl rfl | exact .inr rfl) ?_
   (try simp only [go_sem])
   refine zh (w4) rfl (by simp only [go_sem,i64,ints,hsb,hx,hlt,spanR]) (by simp only [go_sem,i64,ints,hsb,hx,hlt,spanR]) (by first | exact .inl rfl | exact .inr rfl) ?_
   (try simp only [go_sem,hsb,hx,hlt,spanR])
   intros
   refine hK _ ?_;clear hK K
   try simp only [go_sem]
   refine ⟨x.1 != 1000000,?_,fit_of [] (by try simp only [go_sem]) (by try simp only [go_sem])⟩
   have b3' : (decide (1 ≤ r.ends.length) && decide (r.ends.length ≤ 10)) = true:=by simp; omega
   simp only [Bool.and_eq_true,decide_eq_true_eq] at b1 b2
   unfold ruE
   rw [if_neg (by simp [h0]),hl,e4]
   by_cases q : x.1 = 1000000
   · simp [q,b1,b2,hpos,h10]
   · simp [q]
 intro b vs hb
 cases b
 · skip
   refine zc rfl (fun hc=>?_) (fun hc=>?_) <;> (try simp only [go_sem] at hc)
   refine zx ?_
   try simp only [go_sem]
   refine zq ?_
   refine zb fun K hK=>?_;simp only [go_sem];refine hK _ ?_;clear hK K;refine zw (zk [2]) ?_;simp only [go_sem];refine ze ?_;simp only [go_sem]
   rw [hb]; rfl
 · skip
   refine zc rfl (fun hc=>?_) (fun hc=>?_) <;> (try simp only [go_sem] at hc)
   refine zq ?_
   refine zb fun K hK=>?_;simp only [go_sem];refine hK _ ?_;clear hK K;refine zw (zk [2]) ?_;simp only [go_sem];refine ze ?_;simp only [go_sem]
   rw [hb]; rfl
def inB (n a b : Int) : Bool:=decide (a ≤ n) && decide (n ≤ b)
def stepOk (d : Int) (p : Option Int) (x : Bd) : Bool:=(decide (x.b = 0) || bedOk x.b) && (match p with | none=>true | some q=>decide (q < x.b)) && (decide (0 ≤ x.lo) && decide (x.lo ≤ x.hi) && decide (x.hi ≤ d))
def restOk (d : Int) (l : List Bd) (k : Nat) : Bool:=seqOk (prevB l k) (l.drop k) && chOk d (l.drop k)
set_option maxHeartbeats 4000000
theorem dlowest_ok (r : Ru) : ACalls Try.prog 119 [ruV r] (i64 (lowestR r)):=by
 refine acalls_st (rs:=[i64 (lowestR r)]) [.tmp 2] Try.func119 rfl (by kernel_rfl) Try.ntmps119 rfl (by simp) rfl fun C vs=>?_
 repeat refine zq ?_
 refine zb fun K hK=>?_;simp only [go_sem];(try simp (disch:=omega) only [zI]);repeat first | intro _ | refine ⟨by omega,?_⟩
 refine hK _ ?_;clear hK K;refine zw (sub_frzP 1 1 (ruC r) (by omega) rfl rfl) ?_;refine zw (zk [1]) ?_;simp only [go_sem]
 by_cases h : r.out = 0
 · have c : (r.out == 0) = true:=by simpa using h
   repeat refine zq ?_
   refine zb fun K hK=>?_;simp only [go_sem,c];(try simp (disch:=omega) only [zI]);repeat first | intro _ | refine ⟨by omega,?_⟩
   refine hK _ ?_;clear hK K;refine zw (zk [1,6]) ?_;simp only [go_sem]
   repeat refine zq ?_
   refine zc rfl (fun hc=>?_) (fun hc=>?_) <;> (try simp only [go_sem] at hc)
   repeat refine zq ?_
   refine zb fun K hK=>?_;simp only [go_sem];(try simp (disch:=omega) only [zI]);repeat first | intro _ | refine ⟨by omega,?_⟩
   refine hK _ ?_;clear hK K;refine zw (zk [2]) ?_;simp only [go_sem];refine ze ?_;simp only [go_sem]
   simp [lowestR,h]
 · have c : (r.out == 0) = false:=by simpa using h
   repeat refine zq ?_
   refine zb fun K hK=>?_;simp only [go_sem,c];(try simp (disch:=omega) only [zI]);repeat first | intro _ | refine ⟨by omega,?_⟩
   refine hK _ ?_;clear hK K;refine zw (zk [1,6]) ?_;simp only [go_sem]
   repeat refine zq ?_
   refine zc rfl (fun hc=>?_) (fun hc=>?_) <;> (try simp only [go_sem] at hc)
   refine zx ?_
   try simp only [go_sem]
   repeat refine zq ?_
   refine zb fun K hK=>?_;simp only [go_sem];(try simp (disch:=omega) only [zI]);repeat first | intro _ | refine ⟨by omega,?_⟩
   refine hK _ ?_;clear hK K;refine zw (zk [2]) ?_;simp only [go_sem];refine ze ?_;simp only [go_sem]
   simp [lowestR,h]
def insB (lt : Bd → Bd → Bool) (x : Bd) : List Bd → List Bd
 | []=>[x]
 | y :: ys=>if lt x y then y :: insB lt x ys else x :: y :: ys
def sortB (lt : Bd → Bd → Bool) : List Bd → List Bd → List Bd
 | [],R=>R
 | x :: xs,R=>sortB lt xs (insB lt x R)
def sortN (lt : Bd → Bd → Bool) (l : List Bd) : List Bd:=(sortB lt l []).reverse
theorem insB_len (lt : Bd → Bd → Bool) (x : Bd) : ∀ R,(insB lt x R).length = R.length + 1
 | []=>rfl
 | y :: R => by
   unfold insB
   split
   · simp [insB_len lt x R]
   · rfl
theorem insB_skip (lt : Bd → Bd → Bool) (x : Bd) : ∀ (R : List Bd) (k : Nat),(∀ y ∈ R.take k,lt x y = true) → insB lt x R = R.take k ++ insB lt x (R.drop k)
 | R,0,_=>by simp
 | [],k + 1,_=>by simp
 | y :: R, k + 1, h => by
   have hy : lt x y = true:=h y (by simp)
   have ih:=insB_skip lt x R k fun z hz=>h z (by simp [hz])
   simp only [List.take_succ_cons,List.drop_succ_cons,List.cons_append];rw [← ih]
   simp [insB,hy]
theorem sortB_snoc (lt : Bd → Bd → Bool) : ∀ (l : List Bd) (x : Bd) (R : List Bd),sortB lt (l ++ [x]) R = insB lt x (sortB lt l R)
 | [],_,_=>rfl
 | y :: l,x,R=>by simp only [List.cons_append,sortB]; exact sortB_snoc lt l x _
theorem sortB_len (lt : Bd → Bd → Bool) : ∀ (l R : List Bd),(sortB lt l R).length = l.length + R.length
 | [],R=>by simp [sortB]
 | x :: l,R=>by simp only [sortB]; rw [sortB_len lt l,insB_len]; simp; omega
theorem mem_insB (lt : Bd → Bd → Bool) (x z : Bd) : ∀ R,z ∈ insB lt x R ↔ z = x ∨ z ∈ R
 | []=>by simp [insB]
 | y :: R => by
   unfold insB
   split
   · simp only [List.mem_cons,mem_insB lt x z R]
     constructor
     · rintro (h | h | h) <;> simp [h]
     · rintro (h | h | h) <;> simp [h]
   · simp
theorem mem_sortB (lt : Bd → Bd → Bool) (z : Bd) : ∀ l R,z ∈ sortB lt l R ↔ z ∈ l ∨ z ∈ R
 | [],R=>by simp [sortB]
 | x :: l, R => by
   simp only [sortB];rw [mem_sortB lt z l,mem_insB]
   simp only [List.mem_cons]
   constructor
   · rintro (h | h | h) <;> simp [h]
   · rintro ((h | h) | h) <;> simp [h]
def holeL (R : List Bd) (x : Bd) (k : Nat) (rest : List Bd) : List Bd:=(R.drop k).reverse ++ x :: ((R.take k).reverse ++ rest)
theorem hole_len (R : List Bd) (x : Bd) (k : Nat) (rest : List Bd) (hk : k ≤ R.length) : (holeL R x k rest).length = R.length + 1 + rest.length:=by
 simp [holeL]; omega
theorem hole_at (R : List Bd) (x : Bd) (k : Nat) (rest : List Bd) (hk : k ≤ R.length) : (holeL R x k rest)[R.length - k]? = some x:=by
 unfold holeL
 rw [List.getElem?_append_right (by simp)]
 simp
theorem hole_next {R : List Bd} {x y : Bd} {k : Nat} {rest : List Bd} (hy : R[k]? = some y) : (holeL R x k rest)[R.length - k - 1]? = some y ∧ (holeL R x k rest) = (R.drop (k + 1)).reverse ++ y :: x :: ((R.take k).reverse ++ rest) ∧ holeL R x (k + 1) rest = (R.drop (k + 1)).reverse ++ x :: y :: ((R.take k).reverse ++ rest):=by
 have hk:=(List.getElem?_eq_some_iff.1 hy).1
 have hd:=drop_of_opt hy
 have ht:=take_of_opt hy
 have e1 : (holeL R x k rest) = (R.drop (k + 1)).reverse ++ y :: x :: ((R.take k).reverse ++ rest):=by
  unfold holeL; rw [hd]; simp
 refine ⟨?_,e1,by unfold holeL; rw [ht]; simp⟩
 rw [e1,List.getElem?_append_right (by simp; omega)]
 have : R.length - k - 1 - (R.drop (k + 1)).reverse.length = 0:=by simp; omega
 rw [this]; rfl
theorem hole_swap {α : Type} (g : Bd → α) {R : List Bd} {x y : Bd} {k : Nat} {rest : List Bd} (hy : R[k]? = some y) :
 (((holeL R x k rest).map g).set (R.length - k) (g y)).set (R.length - k - 1) (g x) = (holeL R x (k + 1) rest).map g:=by
 obtain ⟨_,e1,e2⟩:=hole_next (x:=x) (rest:=rest) hy
 have hk:=(List.getElem?_eq_some_iff.1 hy).1
 rw [e1,e2,← List.map_set,← List.map_set]
 congr 1
 have hl : (R.drop (k + 1)).reverse.length = R.length - k - 1:=by simp; omega
 generalize (R.drop (k + 1)).reverse = A at hl
 generalize (R.take k).reverse ++ rest = B
 have e3 : R.length - k = A.length + 1:=by omega
 rw [e3,Nat.add_sub_cancel]
 rw [List.set_append_right _ _ (by omega)]
 simp only [Nat.add_sub_cancel_left,List.set_cons_succ,List.set_cons_zero];rw [List.set_append_right _ _ (by omega)]
 simp
theorem lent_put {vs : Nat → Nat} {k : Nat} (h : Lent vs) : Lent (upd vs k 0):=fun j hj=>by
 unfold upd; split
 · rfl
 · exact h j hj
abbrev idx (l : List Bd) : List (List RV):=l.map bedR
theorem insertion_ok (lt : Bd → Bd → Bool) (c : Bd → Bd → Int) (f : Nat) (caps : List RV) (l : List Bd) (hl : l.length ≤ 1000) (hlt : ∀ x y,lt x y = decide (c x y < 0))
 (hcc : ∀ x ∈ l,∀ y ∈ l,ACalls Try.prog f (bedV x :: bedV y :: caps) (i64 (c x y))) :
 MCalls Try.prog 238 [(1000,.arr 285 3 (idx l))] [(1000,.arr 285 3 (idx (sortN lt l)))] [.os 1000 0 3 0 l.length,.r (i64 0),.r (i64 l.length),.r (.fn f caps)] (.tu []):=by
 refine mcalls_st (n:=53) (rs:=[]) _ _ [] Try.func238 rfl (by kernel_rfl) Try.ntmps238 rfl (by simp) rfl rfl fun C=>?_
 have hmem : ∀ i z,z ∈ sortB lt (l.take i) [] → z ∈ l:=fun i z hz=>by
  rw [mem_sortB] at hz
  rcases hz with hz | hz
  · exact List.mem_of_mem_take hz
  · cases hz
 refine zq ?_
 refine zb fun K hK=>?_;simp only [go_sem];(try simp (disch:=omega) only [zI]);refine hK _ ?_;clear hK K;refine zw (zk [0,1,2,3,8]) ?_;simp only [go_sem];refine zd ?_
 refine awp_upto0 (n:=53) (max l.length 1) (fun i vs=>[(0,.os 1000 0 3 0 l.length),(1,.r (i64 0)),(2,.r (i64 l.length)),(3,.r (.fn f caps)),(8,.r (i64 i))])
  (fun i=>[(1000,.arr 285 3 (idx ((sortB lt (l.take i) []).reverse ++ l.drop i)))]) (fun i=>1 ≤ i) 1 (fit0_of [] lent_zero ?_ ?_) (by omega) (Nat.le_refl _) ?_
 · try simp only [go_sem]
 · simp only [go_sem]
   cases l with
   | nil=>rfl
   | cons x l=>simp [sortB,insB]
 · intro i vs hv hi hi1
   have hv0:=hv 1000 (by omega)
   repeat refine zq ?_
   refine zb fun K hK=>?_;simp only [go_sem];refine hK _ ?_;clear hK K;refine zw (zk [0,1,2,3,8,14]) ?_;simp only [go_sem]
   refine zc rfl (fun hc=>?_) (fun hc=>?_) <;> (try simp only [go_sem] at hc)
   · have hci : i < l.length:=by omega
     obtain ⟨x,hx⟩:=opt_of_lt hci
     obtain ⟨R,hR⟩ : ∃ R,R = sortB lt (l.take i) []:=⟨_,rfl⟩
     have hRl : R.length = i:=by rw [hR,sortB_len]; simp; omega
     have hRm : ∀ z ∈ R,z ∈ l:=fun z hz=>hmem i z (hR ▸ hz)
     have hnx : sortB lt (l.take (i + 1)) [] = insB lt x R:=by rw [take_of_opt hx,sortB_snoc,hR]
     have hst : (sortB lt (l.take i) []).reverse ++ l.drop i = holeL R x 0 (l.drop (i + 1)):=by rw [← hR,drop_of_opt hx]; simp [holeL]
     rw [hst]
     refine zx ?_
     refine zq ?_
     refine zd ?_
     refine zq ?_
     refine zb fun K hK=>?_;simp only [go_sem];refine hK _ ?_;clear hK K;refine zw (zk [0,1,2,3,8,9]) ?_;simp only [go_sem];refine zd ?_
     refine awp_upto0 (n:=53) i (fun k vs=>[(0,.os 1000 0 3 0 l.length),(1,.r (i64 0)),(2,.r (i64 l.length)),(3,.r (.fn f caps)),(8,.r (i64 i)),(9,.r (i64 (i - k : Nat)))])
      (fun k=>[(1000,.arr 285 3 (idx (holeL R x k (l.drop (i + 1)))))]) (fun k=>∀ y ∈ R.take k,lt x y = true) 0 (fit0_of [] hv ?_ ?_) (Nat.zero_le _) (by simp) ?_
     · try simp only [go_sem]
     · try simp only [go_sem]
     · intro k vs hv hk hI
       have hv0:=hv 1000 (by omega)
       have hins:=insB_skip lt x R k hI
       have done : insB lt x (R.drop k) = x :: R.drop k → sortB lt (l.take (i + 1)) [] = R.take k ++ x :: R.drop k:=fun h=>by rw [hnx,hins,h]
       by_cases hk0 : k = i
       · have e0 : i - k = 0:=by omega
         repeat refine zq ?_
         refine awp_dreg2 [(0,some 1000)] follows (by decide +kernel) (by kernel_rfl) (by simp only [keysOk,List.mem_cons,List.not_mem_nil,forall_eq_or_imp,Oc.keyOf,go_sem]; simp) fun K hK=>?_
         simp only [go_sem,hv0,e0];refine hK _ ?_;clear hK K;refine zw (zk [0,1,2,3,8,9,34]) ?_;simp only [go_sem]
         refine zc rfl (fun hc=>?_) (fun hc=>?_) <;> (try simp only [go_sem] at hc)
         refine zf ?_;simp only [go_sem];refine zb fun K hK=>?_;simp only [go_sem];(try simp (disch:=omega) only [zI]);refine hK _ ?_;clear hK K
         try simp only [go_sem]
         refine ⟨by omega,fit0_of [] hv ?_ ?_⟩
         · try simp only [go_sem]
         · have hd0 : R.drop k = []:=List.drop_eq_nil_of_le (by omega)
           have:=done (by rw [hd0]; rfl)
           simp only [go_sem,this]
           simp [holeL]
       · obtain ⟨y,hy⟩:=opt_of_lt (l:=R) (i:=k) (by omega)
         obtain ⟨j,hj⟩ : ∃ j,i - k = j + 1:=⟨i - k - 1,by omega⟩
         have hjs : IntKind.i64.wrap ((j : Int) + 1 - 1) = j:=by rw [zI] <;> omega
         have hlen : (holeL R x k (l.drop (i + 1))).length = l.length:=by rw [hole_len _ _ _ _ (by omega),List.length_drop]; omega
         have hxa : (holeL R x k (l.drop (i + 1)))[j + 1]? = some x:=by rw [← hj,← hRl]; exact hole_at R x k _ (by omega)
         have hya : (holeL R x k (l.drop (i + 1)))[j]? = some y:=by
          have:=(hole_next (x:=x) (rest:=l.drop (i + 1)) hy).1
          rw [hRl,hj] at this
          exact this
         have hcall:=hcc x (mem_of_opt hx) y (hRm y (mem_of_opt hy))
         have hpos : (0 < (j : Int) + 1) = True:=by simp
         have hlxy:=hlt x y
         repeat refine zq ?_
         refine awp_dreg2 [(0,some 1000)] follows (by decide +kernel) (by kernel_rfl) (by simp only [keysOk,List.mem_cons,List.not_mem_nil,forall_eq_or_imp,Oc.keyOf,go_sem]; simp) fun K hK=>?_
         simp only [go_sem,hv0,hj,hjs,hxa,hya,hlen,hpos,bedR]
         refine ⟨by omega,by omega,?_⟩
         refine zh (hcall) rfl (by simp only [go_sem,i64,ints,hv0]) (by simp only [go_sem,i64,ints,hv0]) (by first | exact .inl rfl | exact .inr rfl) ?_
         (try simp only [go_sem,hv0]);refine hK _ ?_;clear hK K;refine zw (zk [0,1,2,3,8,9,34]) ?_;simp only [go_sem]
         cases hcx : decide (c x y < 0)
         · skip
           refine zc rfl (fun hc=>?_) (fun hc=>?_) <;> (try simp only [go_sem] at hc)
           refine zf ?_;simp only [go_sem];refine zb fun K hK=>?_;simp only [go_sem];(try simp (disch:=omega) only [zI]);refine hK _ ?_;clear hK K
           try simp only [go_sem]
           refine ⟨by omega,fit0_of [] hv ?_ ?_⟩
           · try simp only [go_sem]
           · have:=done (by rw [drop_of_opt hy]; simp [insB,hlxy,hcx])
             simp only [go_sem,this]
             simp [holeL]
         · skip
           refine zc rfl (fun hc=>?_) (fun hc=>?_) <;> (try simp only [go_sem] at hc)
           refine zx ?_
           try simp only [go_sem]
           refine zq ?_
           refine zd ?_
           have hset : ((idx (holeL R x k (l.drop (i + 1)))).set (j + 1) [i64 y.b,i64 y.lo,i64 y.hi]).getD j [] = [i64 y.b,i64 y.lo,i64 y.hi]:=by
            rw [List.getD_eq_getElem?_getD,List.getElem?_set_ne (by omega),List.getElem?_map,hya]; rfl
           have hsw:=hole_swap bedR (x:=x) (rest:=l.drop (i + 1)) hy
           rw [hRl,hj] at hsw
           simp only [Nat.add_sub_cancel] at hsw
           refine awp_dreg2 [(0,some 1000)] follows (by decide +kernel) (by kernel_rfl) (by simp only [keysOk,List.mem_cons,List.not_mem_nil,forall_eq_or_imp,Oc.keyOf,go_sem]; simp) fun K hK=>?_
           simp only [go_sem,hv0,hj,hjs,hxa,hya,hlen,hset,List.length_set,bedR]
           repeat' first | intro _ | refine And.intro ?_ ?_
           all_goals first | omega | skip
           all_goals (refine hK _ ?_; clear hK K)
           refine zw (zk [0,1,2,3,8,9]) ?_;simp only [go_sem];refine zb fun K hK=>?_;simp only [go_sem,hjs];refine hK _ ?_;clear hK K
           try simp only [go_sem]
           have hj2 : i - (k + 1) = j:=by omega
           refine ⟨by omega,?_,fit0_of [] (lent_put (lent_put hv)) ?_ ?_⟩
           · rw [take_of_opt hy]
             intro z hz
             rcases List.mem_append.1 hz with hz | hz
             · exact hI z hz
             · simp only [List.mem_singleton] at hz
               subst hz
               rw [hlxy,hcx]
           · simp only [go_sem,hj2]
           · simp only [go_sem];exact congrArg (fun z=>[(1000,RowC.arr 285 3 z)]) hsw
   · refine zf ?_;simp only [go_sem]
     have h1 : l.take i = l:=List.take_of_length_le (by omega)
     have h2 : l.drop i = []:=List.drop_eq_nil_of_le (by omega)
     rw [h1,h2,List.append_nil]
     rfl
theorem stable_ok (lt : Bd → Bd → Bool) (c : Bd → Bd → Int) (f : Nat) (caps : List RV) (l : List Bd) (hl : l.length ≤ 19) (hlt : ∀ x y,lt x y = decide (c x y < 0))
 (hcc : ∀ x ∈ l,∀ y ∈ l,ACalls Try.prog f (bedV x :: bedV y :: caps) (i64 (c x y))) :
 MCalls Try.prog 220 [(1000,.arr 285 3 (idx l))] [(1000,.arr 285 3 (idx (sortN lt l)))] [.os 1000 0 3 0 l.length,.r (i64 l.length),.r (.fn f caps)] (.tu []):=by
 refine mcalls_st (n:=63) (rs:=[]) _ _ [] Try.func220 rfl (by kernel_rfl) Try.ntmps220 rfl (by simp) rfl rfl fun C=>?_
 refine zq ?_
 refine zb fun K hK=>?_;simp only [go_sem];refine hK _ ?_;clear hK K
 refine zq ?_
 refine zb fun K hK=>?_;simp only [go_sem];refine hK _ ?_;clear hK K;refine zw (zk [0,1,2,6,7,8]) ?_;simp only [go_sem]
 refine zq ?_
 refine zd ?_
 refine awp_upto0 (n:=63) 0 (fun i vs=>[(0,.os 1000 0 3 0 l.length),(1,.r (i64 l.length)),(2,.r (.fn f caps)),(6,.r (i64 20)),(7,.r (i64 0)),(8,.r (i64 20))])
  (fun i=>[(1000,.arr 285 3 (idx l))]) (fun i=>True) 0 (fit0_of [] lent_zero ?_ ?_) (Nat.zero_le _) trivial ?_
 · try simp only [go_sem]
 · try simp only [go_sem]
 intro i vs hv _ _
 have hv0:=hv 1000 (by omega)
 repeat refine zq ?_
 refine zb fun K hK=>?_;simp only [go_sem];refine hK _ ?_;clear hK K
 refine zc rfl (fun hc=>?_) (fun hc=>?_) <;> (try simp only [go_sem] at hc)
 · omega
 refine zf ?_;simp only [go_sem]
 refine zq ?_
 refine zb fun K hK=>?_;simp only [go_sem]
 refine xcall_mut (insertion_ok lt c f caps l (by omega) hlt hcc) [(1000,1000)] rfl (by simp only [go_sem,i64,ints,hv0]) (by simp only [go_sem,i64,ints,hv0]) (by rfl) (by rfl) ?_
 (try simp only [go_sem,hv0]);refine hK _ ?_;clear hK K
 try simp only [go_sem]
 refine zd ?_
 refine awp_upto0 (n:=63) 0 (fun i vs=>[(1,.r (i64 l.length)),(6,.r (i64 20))])
  (fun i=>[(1000,.arr 285 3 (idx (sortN lt l)))]) (fun i=>True) 0 (fit0_of [] hv ?_ ?_) (Nat.zero_le _) trivial ?_
 · try simp only [go_sem]
 · try simp only [go_sem]
 intro i vs hv _ _
 repeat refine zq ?_
 refine zb fun K hK=>?_;simp only [go_sem];refine hK _ ?_;clear hK K
 refine zc rfl (fun hc=>?_) (fun hc=>?_) <;> (try simp only [go_sem] at hc)
 · omega
 refine zf ?_;simp only [go_sem]
theorem sortStable_ok (lt : Bd → Bd → Bool) (c : Bd → Bd → Int) (f : Nat) (caps : List RV) (l : List Bd) (hl : l.length ≤ 19) (hlt : ∀ x y,lt x y = decide (c x y < 0))
 (hcc : ∀ x ∈ l,∀ y ∈ l,ACalls Try.prog f (bedV x :: bedV y :: caps) (i64 (c x y))) :
 MCalls Try.prog 181 [(1000,.arr 285 3 (idx l))] [(1000,.arr 285 3 (idx (sortN lt l)))] [.os 1000 0 3 0 l.length,.r (.fn f caps)] (.tu []):=by
 refine mcalls_st (n:=9) (rs:=[]) _ _ [] Try.func181 rfl (by kernel_rfl) Try.ntmps181 rfl (by simp) rfl rfl fun C=>?_
 refine zb fun K hK=>?_;simp only [go_sem]
 intro _
 refine xcall_mut (stable_ok lt c f caps l (by omega) hlt hcc) [(1000,1000)] rfl (by simp only [go_sem,i64,ints]) (by simp only [go_sem,i64,ints]) (by rfl) (by rfl) ?_
 (try simp only [go_sem]);refine hK _ ?_;clear hK K
 try simp only [go_sem]
theorem relV_unmap {w : World} {p : Plan} {ver : Nat → Nat} : ∀ {xs : List RV} {vs : List Value},AV.relV w p ver (xs.map .r) vs → RV.relV w p.R xs vs
 | [],_,h=>by simpa only [List.map_nil,AV.relV,RV.relV] using h
 | x :: xs, vs, h => by
   simp only [List.map_cons,AV.relV,AV.rel] at h
   simp only [RV.relV]
   obtain ⟨u,us,h1,h2,h3⟩:=h
   exact ⟨u,us,h1,h2,relV_unmap h3⟩
theorem mcalls_fn {F : Nat} {L L' : List (Nat × RowC)} {x r : AV} {f : Nat} {caps : List RV} (h : MCalls Try.prog F L L' [x,.r (.fn f caps)] r) : MCalls Try.prog F L L' [x,.fn f (caps.map .r)] r :=
 ⟨h.1,fun w p vs h1 h2 h3 h4 h5 h6 hV=>h.2 w p vs h1 h2 h3 h4 h5 h6 (by
  simp only [AV.relV] at hV ⊢
  obtain ⟨u,us,e1,k1,u',us',e2,k2,e3⟩:=hV
  refine ⟨u,us,e1,k1,u',us',e2,?_,e3⟩
  simp only [AV.rel,RV.rel] at k2 ⊢
  obtain ⟨ws,k3,k4⟩:=k2
  exact ⟨ws,k3,relV_unmap k4⟩)⟩
abbrev tabR (T : List (List Int)) : RV:=.sl 1 (T.map fun row=>[ints row])
abbrev sideC (r : Ru) (most : Bool) (T : List (List Int)) : List RV:=[i64 r.d,aimsR r.aims,i64 r.start,i64 r.out,spansR r.ends,.bo most,tabR T]
abbrev sideP (r : Ru) (most : Bool) (T : List (List Int)) : RV:=.rp (sideC r most T)
def overD (most : Bool) (n by_ : Int) : Int:=if most then (n + (by_ - 1)) / by_ else n / by_
theorem overD_le {most : Bool} {n by_ m : Int} (h0 : 0 ≤ n) (hb : 1 ≤ by_) (hm : n ≤ m * by_) : 0 ≤ overD most n by_ ∧ overD most n by_ ≤ m:=by
 unfold overD
 split
 · refine ⟨Int.ediv_nonneg (by omega) (by omega),?_⟩
   have : (n + (by_ - 1)) / by_ < m + 1:=Int.ediv_lt_of_lt_mul (by omega) (by rw [Int.add_mul]; omega)
   omega
 · refine ⟨Int.ediv_nonneg h0 (by omega),?_⟩
   have : n / by_ < m + 1:=Int.ediv_lt_of_lt_mul (by omega) (by rw [Int.add_mul]; omega)
   omega
theorem over_ok (r : Ru) (most : Bool) (T : List (List Int)) (n by_ : Int) (h0 : 0 ≤ n) (h1 : n ≤ 1000000000000000) (b0 : 1 ≤ by_) (b1 : by_ ≤ 1000000) : ACalls Try.prog 91 [sideP r most T,i64 n,i64 by_] (i64 (overD most n by_)):=by
 have hd : ∀ m : Int,0 ≤ m → m ≤ 2000000000000000 → IntKind.i64.wrap (m.tdiv by_) = m / by_:=fun m hm0 hm1=>by
  rw [Int.tdiv_eq_ediv_of_nonneg hm0]
  have:=Int.ediv_nonneg hm0 (b:=by_) (by omega)
  have h2 : m / by_ ≤ m:=Int.ediv_le_self _ hm0
  rw [zI] <;> omega
 have q1:=hd n h0 (by omega)
 have q2:=hd (n + (by_ - 1)) (by omega) (by omega)
 refine acalls_st (rs:=[i64 (overD most n by_)]) [.tmp 6] Try.func91 rfl (by kernel_rfl) Try.ntmps91 rfl (by simp) rfl fun C vs=>?_
 repeat refine zq ?_
 refine zb fun K hK=>?_;simp only [go_sem];(try simp (disch:=omega) only [zI]);repeat first | intro _ | refine ⟨by omega,?_⟩
 refine hK _ ?_;clear hK K;refine zw (zk [0,1,2]) ?_;simp only [go_sem]
 repeat refine zq ?_
 refine zb fun K hK=>?_;simp only [go_sem];(try simp (disch:=omega) only [zI]);repeat first | intro _ | refine ⟨by omega,?_⟩
 refine hK _ ?_;clear hK K;refine zw (zk [0,1,2,10]) ?_;simp only [go_sem]
 cases most
 · repeat refine zq ?_
   refine zc rfl (fun hc=>?_) (fun hc=>?_) <;> (try simp only [go_sem] at hc)
   refine zx ?_
   try simp only [go_sem]
   repeat refine zq ?_
   refine zb fun K hK=>?_;simp only [go_sem,q1];(try simp (disch:=omega) only [zI])
   refine ⟨by omega,?_⟩
   repeat first | intro _ | refine ⟨by omega,?_⟩
   refine hK _ ?_;clear hK K;refine zw (zk [6]) ?_;simp only [go_sem];refine ze ?_;simp only [go_sem]
   simp [overD,q1]
 · repeat refine zq ?_
   refine zc rfl (fun hc=>?_) (fun hc=>?_) <;> (try simp only [go_sem] at hc)
   repeat refine zq ?_
   refine zb fun K hK=>?_;simp only [go_sem];(try simp (disch:=omega) only [zI]);repeat first | intro _ | refine ⟨by omega,?_⟩
   refine hK _ ?_;clear hK K
   try simp only [go_sem]
   repeat refine zq ?_
   refine zb fun K hK=>?_;simp only [go_sem,q2];(try simp (disch:=omega) only [zI])
   refine ⟨by omega,?_⟩
   repeat first | intro _ | refine ⟨by omega,?_⟩
   refine hK _ ?_;clear hK K;refine zw (zk [6]) ?_;simp only [go_sem];refine ze ?_;simp only [go_sem]
   simp [overD,q2]
theorem last_ok (r : Ru) (h : r.ends.length ≤ 1000) : ACalls Try.prog 90 [ruV r] (i64 ((r.ends.length : Int) - 1)):=by
 refine acalls_st (rs:=[i64 ((r.ends.length : Int) - 1)]) [.tmp 2] Try.func90 rfl (by kernel_rfl) Try.ntmps90 rfl (by simp) rfl fun C vs=>?_
 repeat refine zq ?_
 refine zb fun K hK=>?_;simp only [go_sem];(try simp (disch:=omega) only [zI]);repeat first | intro _ | refine ⟨by omega,?_⟩
 refine hK _ ?_;clear hK K;refine zw (sub_frzP 1 1 (ruC r) (by omega) rfl rfl) ?_;refine zw (zk [1]) ?_;simp only [go_sem]
 repeat refine zq ?_
 refine zb fun K hK=>?_;simp only [go_sem];(try simp (disch:=omega) only [zI])
 intros
 repeat first | intro _ | refine ⟨by omega,?_⟩
 refine hK _ ?_;clear hK K;refine zw (zk [2]) ?_;simp only [go_sem];refine ze ?_;simp only [go_sem]
theorem cmp_ok (r : Ru) (most : Bool) (T : List (List Int)) (x y : Bd) (hx : 0 ≤ x.b ∧ x.b ≤ 1000000) (hy : 0 ≤ y.b ∧ y.b ≤ 1000000) : ACalls Try.prog 182 [bedV x,bedV y,.rp [sideP r most T]] (i64 (if most then y.b - x.b else x.b - y.b)):=by
 refine acalls_st (rs:=[i64 (if most then y.b - x.b else x.b - y.b)]) [.tmp 5] Try.func182 rfl (by kernel_rfl) Try.ntmps182 rfl (by simp) rfl fun C vs=>?_
 repeat refine zq ?_
 refine zb fun K hK=>?_;simp only [go_sem];(try simp (disch:=omega) only [zI]);repeat first | intro _ | refine ⟨by omega,?_⟩
 refine hK _ ?_;clear hK K;refine zw (zk [2,3,4]) ?_;simp only [go_sem]
 repeat refine zq ?_
 refine zb fun K hK=>?_;simp only [go_sem];(try simp (disch:=omega) only [zI]);repeat first | intro _ | refine ⟨by omega,?_⟩
 refine hK _ ?_;clear hK K;refine zw (zk [3,4,9]) ?_;simp only [go_sem]
 cases most
 · repeat refine zq ?_
   refine zc rfl (fun hc=>?_) (fun hc=>?_) <;> (try simp only [go_sem] at hc)
   refine zx ?_
   try simp only [go_sem]
   repeat refine zq ?_
   refine zb fun K hK=>?_;simp only [go_sem];(try simp (disch:=omega) only [zI]);repeat first | intro _ | refine ⟨by omega,?_⟩
   refine hK _ ?_;clear hK K;refine zw (zk [5]) ?_;simp only [go_sem];refine ze ?_;simp only [go_sem]
 · repeat refine zq ?_
   refine zc rfl (fun hc=>?_) (fun hc=>?_) <;> (try simp only [go_sem] at hc)
   repeat refine zq ?_
   refine zb fun K hK=>?_;simp only [go_sem];(try simp (disch:=omega) only [zI]);repeat first | intro _ | refine ⟨by omega,?_⟩
   refine hK _ ?_;clear hK K
   try simp only [go_sem]
   repeat refine zq ?_
   refine zb fun K hK=>?_;simp only [go_sem];(try simp (disch:=omega) only [zI]);repeat first | intro _ | refine ⟨by omega,?_⟩
   refine hK _ ?_;clear hK K;refine zw (zk [5]) ?_;simp only [go_sem];refine ze ?_;simp only [go_sem]
def endsD (most : Bool) (e : Int × Int) : Int:=if most then e.1 else e.2
def afterD (r : Ru) (most : Bool) (T : List (List Int)) (k left : Nat) : Int :=
 if k + 1 = r.ends.length then 0 else overD most (((T.getD (k + 1) []).getD left 0) * (1000000 - endsD most (r.ends.getD k (0,0)))) 1000000
theorem endOk_le {x : Int × Int} (h : endOk x = true) : 0 ≤ x.1 ∧ x.1 ≤ x.2 ∧ x.2 ≤ 1000000:=by
 simp only [endOk,withinL,List.all_cons,List.all_nil,Bool.and_true,Bool.and_eq_true,decide_eq_true_eq] at h
 omega
theorem after_ok (r : Ru) (most : Bool) (T : List (List Int)) (k left : Nat) (row : List Int) (v : Int) (hk : k < r.ends.length) (h10 : r.ends.length ≤ 10) (he : ∀ x ∈ r.ends,endOk x = true)
 (hT : k + 1 < r.ends.length → T[k + 1]? = some row ∧ row[left]? = some v ∧ 0 ≤ v ∧ v ≤ 1000000) : ACalls Try.prog 45 [sideP r most T,i64 k,i64 left] (i64 (afterD r most T k left)):=by
 obtain ⟨e,hek⟩:=opt_of_lt hk
 obtain ⟨g1,g2,g3⟩:=endOk_le (he e (mem_of_opt hek))
 have hl:=last_ok r (by omega)
 refine acalls_st (rs:=[i64 (afterD r most T k left)]) [.tmp 6] Try.func45 rfl (by kernel_rfl) Try.ntmps45 rfl (by simp) rfl fun C vs=>?_
 repeat refine zq ?_
 refine zb fun K hK=>?_;simp only [go_sem];(try simp (disch:=omega) only [zI]);repeat first | intro _ | refine ⟨by omega,?_⟩
 refine hK _ ?_;clear hK K;refine zw (zk [0,1,2]) ?_;simp only [go_sem]
 by_cases hlast : k + 1 = r.ends.length
 · have c : ((k : Int) == (r.ends.length : Int) - 1) = true:=by simp; omega
   repeat refine zq ?_
   refine zb fun K hK=>?_;simp only [go_sem,c];(try simp (disch:=omega) only [zI])
   refine zh (hl) rfl (by simp only [go_sem,i64,ints,c]) (by simp only [go_sem,i64,ints,c]) (by first | exact .inl rfl | exact .inr rfl) ?_
   (try simp only [go_sem,c]);(try simp (disch:=omega) only [zI]);repeat first | intro _ | refine ⟨by omega,?_⟩
   refine hK _ ?_;clear hK K;refine zw (zk [0,1,2,14]) ?_;simp only [go_sem]
   repeat refine zq ?_
   refine zc rfl (fun hc=>?_) (fun hc=>?_) <;> (try simp only [go_sem] at hc)
   repeat refine zq ?_
   refine zb fun K hK=>?_;simp only [go_sem];(try simp (disch:=omega) only [zI]);repeat first | intro _ | refine ⟨by omega,?_⟩
   refine hK _ ?_;clear hK K;refine zw (zk [6]) ?_;simp only [go_sem];refine ze ?_;simp only [go_sem]
   simp [afterD,hlast]
 have c : ((k : Int) == (r.ends.length : Int) - 1) = false:=by simp; omega
 obtain ⟨t1,t2,t3,t4⟩:=hT (by omega)
 have hk1 : k + 1 < T.length:=(List.getElem?_eq_some_iff.1 t1).1
 have hlf : left < row.length:=(List.getElem?_eq_some_iff.1 t2).1
 have hA : afterD r most T k left = overD most (v * (1000000 - endsD most e)) 1000000:=by
  simp [afterD,hlast,List.getD_eq_getElem?_getD,t1,t2,hek]
 rw [hA]
 have hm0 : ∀ q : Int,0 ≤ q → q ≤ 1000000 → 0 ≤ v * (1000000 - q) ∧ v * (1000000 - q) ≤ 1000000 * 1000000:=fun q h1 h2 =>
  ⟨Int.mul_nonneg t3 (by omega),Int.mul_le_mul t4 (by omega) (by omega) (by omega)⟩
 have htn : ((k : Int) + 1).toNat = k + 1:=by omega
 have hkw : IntKind.i64.wrap ((k : Int) + 1) = ((k + 1 : Nat) : Int):=by rw [zI] <;> omega
 repeat refine zq ?_
 refine zb fun K hK=>?_;simp only [go_sem,c];(try simp (disch:=omega) only [zI])
 refine zh (hl) rfl (by simp only [go_sem,i64,ints,c]) (by simp only [go_sem,i64,ints,c]) (by first | exact .inl rfl | exact .inr rfl) ?_
 (try simp only [go_sem,c]);(try simp (disch:=omega) only [zI]);repeat first | intro _ | refine ⟨by omega,?_⟩
 refine hK _ ?_;clear hK K;refine zw (zk [0,1,2,14]) ?_;simp only [go_sem]
 repeat refine zq ?_
 refine zc rfl (fun hc=>?_) (fun hc=>?_) <;> (try simp only [go_sem] at hc)
 refine zx ?_
 try simp only [go_sem]
 repeat refine zq ?_
 refine zb fun K hK=>?_;simp only [go_sem,hek,hk,spanR];(try simp (disch:=omega) only [zI]);repeat first | intro _ | refine ⟨by omega,?_⟩
 refine hK _ ?_;clear hK K;refine zw (zk [0,1,2,7]) ?_;simp only [go_sem]
 repeat refine zq ?_
 refine zb fun K hK=>?_;simp only [go_sem];(try simp (disch:=omega) only [zI]);repeat first | intro _ | refine ⟨by omega,?_⟩
 refine hK _ ?_;clear hK K;refine zw (zk [0,1,2,7,28]) ?_;simp only [go_sem]
 cases most
 · obtain ⟨m1,m2⟩:=hm0 e.2 (by omega) (by omega)
   have hov:=over_ok r false T (v * (1000000 - e.2)) 1000000 m1 (by omega) (by omega) (by omega)
   have hmw : IntKind.i64.wrap (v * (1000000 - e.2)) = v * (1000000 - e.2):=by rw [zI] <;> omega
   repeat refine zq ?_
   refine zc rfl (fun hc=>?_) (fun hc=>?_) <;> (try simp only [go_sem] at hc)
   refine zx ?_
   try simp only [go_sem]
   repeat refine zq ?_
   refine zb fun K hK=>?_;simp only [go_sem,hkw,t1,t2,hk1,hlf,htn,hmw];(try simp (disch:=omega) only [zI]);repeat first | intro _ | refine ⟨by omega,?_⟩
   refine zh (hov) rfl (by simp only [go_sem,i64,ints,hmw]) (by simp only [go_sem,i64,ints,hmw]) (by first | exact .inl rfl | exact .inr rfl) ?_
   (try simp only [go_sem,hmw]);(try simp (disch:=omega) only [zI]);repeat first | intro _ | refine ⟨by omega,?_⟩
   refine hK _ ?_;clear hK K;refine zw (zk [6]) ?_;simp only [go_sem];refine ze ?_;simp only [go_sem]
   simp [endsD]
 · obtain ⟨m1,m2⟩:=hm0 e.1 (by omega) (by omega)
   have hov:=over_ok r true T (v * (1000000 - e.1)) 1000000 m1 (by omega) (by omega) (by omega)
   have hmw : IntKind.i64.wrap (v * (1000000 - e.1)) = v * (1000000 - e.1):=by rw [zI] <;> omega
   repeat refine zq ?_
   refine zc rfl (fun hc=>?_) (fun hc=>?_) <;> (try simp only [go_sem] at hc)
   repeat refine zq ?_
   refine zb fun K hK=>?_;simp only [go_sem,hek,hk,spanR];(try simp (disch:=omega) only [zI]);repeat first | intro _ | refine ⟨by omega,?_⟩
   refine hK _ ?_;clear hK K
   try simp only [go_sem]
   repeat refine zq ?_
   refine zb fun K hK=>?_;simp only [go_sem,hkw,t1,t2,hk1,hlf,htn,hmw];(try simp (disch:=omega) only [zI]);repeat first | intro _ | refine ⟨by omega,?_⟩
   refine zh (hov) rfl (by simp only [go_sem,i64,ints,hmw]) (by simp only [go_sem,i64,ints,hmw]) (by first | exact .inl rfl | exact .inr rfl) ?_
   (try simp only [go_sem,hmw]);(try simp (disch:=omega) only [zI]);repeat first | intro _ | refine ⟨by omega,?_⟩
   refine hK _ ?_;clear hK K;refine zw (zk [6]) ?_;simp only [go_sem];refine ze ?_;simp only [go_sem]
   simp [endsD]
def opensD (out b : Int) : Bool:=if out = 1 then decide (b / 100 = 2) else if out = 2 then decide (2 ≤ b / 100) else true
theorem div100 {b : Int} (h0 : 0 ≤ b) (h1 : b ≤ 499) : IntKind.i64.wrap (b.tdiv 100) = b / 100 ∧ 0 ≤ b / 100 ∧ b / 100 ≤ 4:=by
 rw [Int.tdiv_eq_ediv_of_nonneg h0]
 refine ⟨?_,by omega,by omega⟩
 rw [zI] <;> omega
theorem opens_ok (r : Ru) (b : Int) (h0 : 0 ≤ b) (h1 : b ≤ 499) : ACalls Try.prog 179 [ruV r,i64 b] (.bo (opensD r.out b)):=by
 obtain ⟨hd,_,_⟩:=div100 h0 h1
 refine acalls_st (rs:=[.bo (opensD r.out b)]) [.tmp 4] Try.func179 rfl (by kernel_rfl) Try.ntmps179 rfl (by simp) rfl fun C vs=>?_
 repeat refine zq ?_
 refine zb fun K hK=>?_;simp only [go_sem];(try simp (disch:=omega) only [zI]);repeat first | intro _ | refine ⟨by omega,?_⟩
 refine hK _ ?_;clear hK K;refine zw (sub_frzP 2 2 (ruC r) (by omega) rfl rfl) ?_;refine zw (zk [1,2]) ?_;simp only [go_sem]
 repeat refine zq ?_
 refine zb fun K hK=>?_;simp only [go_sem,hd];(try simp (disch:=omega) only [zI]);repeat first | intro _ | refine ⟨by omega,?_⟩
 refine hK _ ?_;clear hK K;refine zw (zk [2,5]) ?_;simp only [go_sem]
 repeat refine zq ?_
 refine zb fun K hK=>?_;simp only [go_sem];(try simp (disch:=omega) only [zI]);repeat first | intro _ | refine ⟨by omega,?_⟩
 refine hK _ ?_;clear hK K;refine zw (zk [5,10]) ?_;simp only [go_sem]
 repeat refine zq ?_
 refine zd ?_
 by_cases c1 : r.out = 1
 · have e1 : (r.out == 1) = true:=by simpa using c1
   repeat refine zq ?_
   refine zb fun K hK=>?_;simp only [go_sem,e1];(try simp (disch:=omega) only [zI]);repeat first | intro _ | refine ⟨by omega,?_⟩
   refine hK _ ?_;clear hK K;refine zw (zk [5,10,11]) ?_;simp only [go_sem]
   repeat refine zq ?_
   refine zc rfl (fun hc=>?_) (fun hc=>?_) <;> (try simp only [go_sem] at hc)
   repeat refine zq ?_
   refine zb fun K hK=>?_;simp only [go_sem];(try simp (disch:=omega) only [zI]);repeat first | intro _ | refine ⟨by omega,?_⟩
   refine hK _ ?_;clear hK K;refine zw (zk [4]) ?_;simp only [go_sem];refine ze ?_;simp only [go_sem];simp only [opensD,c1,if_true]
   rfl
 have e1 : (r.out == 1) = false:=by simpa using c1
 repeat refine zq ?_
 refine zb fun K hK=>?_;simp only [go_sem,e1];(try simp (disch:=omega) only [zI]);repeat first | intro _ | refine ⟨by omega,?_⟩
 refine hK _ ?_;clear hK K;refine zw (zk [5,10,11]) ?_;simp only [go_sem]
 repeat refine zq ?_
 refine zc rfl (fun hc=>?_) (fun hc=>?_) <;> (try simp only [go_sem] at hc)
 by_cases c2 : r.out = 2
 · have e2 : (r.out == 2) = true:=by simpa using c2
   repeat refine zq ?_
   refine zb fun K hK=>?_;simp only [go_sem,e2];(try simp (disch:=omega) only [zI]);repeat first | intro _ | refine ⟨by omega,?_⟩
   refine hK _ ?_;clear hK K;refine zw (zk [5,15]) ?_;simp only [go_sem]
   repeat refine zq ?_
   refine zc rfl (fun hc=>?_) (fun hc=>?_) <;> (try simp only [go_sem] at hc)
   repeat refine zq ?_
   refine zb fun K hK=>?_;simp only [go_sem];(try simp (disch:=omega) only [zI]);repeat first | intro _ | refine ⟨by omega,?_⟩
   refine hK _ ?_;clear hK K;refine zw (zk [4]) ?_;simp only [go_sem];refine ze ?_;simp only [go_sem]
   simp [opensD,c2]
 have e2 : (r.out == 2) = false:=by simpa using c2
 repeat refine zq ?_
 refine zb fun K hK=>?_;simp only [go_sem,e2];(try simp (disch:=omega) only [zI]);repeat first | intro _ | refine ⟨by omega,?_⟩
 refine hK _ ?_;clear hK K;refine zw (zk [5,15]) ?_;simp only [go_sem]
 repeat refine zq ?_
 refine zc rfl (fun hc=>?_) (fun hc=>?_) <;> (try simp only [go_sem] at hc)
 refine zx ?_
 try simp only [go_sem]
 repeat refine zq ?_
 refine zb fun K hK=>?_;simp only [go_sem];(try simp (disch:=omega) only [zI]);repeat first | intro _ | refine ⟨by omega,?_⟩
 refine hK _ ?_;clear hK K;refine zw (zk [4]) ?_;simp only [go_sem];refine ze ?_;simp only [go_sem]
 simp [opensD,c1,c2]
set_option maxHeartbeats 4000000
theorem owithin1_ok (n a b : Int) : ACalls Try.prog 169 [i64 n,.rp [i64 a],.rp [i64 b]] (.bo (decide (n < a) || decide (b < n))):=by
 refine acalls_st (rs:=[.bo (decide (n < a) || decide (b < n))]) [.tmp 4] Try.func169 rfl (by kernel_rfl) Try.ntmps169 rfl (by simp) rfl fun C vs=>?_
 repeat refine zq ?_
 refine zb fun K hK=>?_;simp only [go_sem];(try simp (disch:=omega) only [zI]);repeat first | intro _ | refine ⟨by omega,?_⟩
 refine hK _ ?_;clear hK K
 repeat refine zq ?_
 refine zb fun K hK=>?_;simp only [go_sem];(try simp (disch:=omega) only [zI])
 refine ⟨fun h=>?_,fun h=>?_⟩ <;>
 · repeat first | intro _ | refine ⟨by omega,?_⟩
   refine hK _ ?_;clear hK K;refine ze ?_;simp only [go_sem]
   try simp [h]
theorem owithin_ok (a b : Int) (l : List Int) : ACalls Try.prog 103 [i64 a,i64 b,ints l] (.bo (withinL a b l)):=by
 refine acalls_st (rs:=[.bo (withinL a b l)]) [.tmp 6] Try.func103 rfl (by kernel_rfl) Try.ntmps103 rfl (by simp) rfl fun C vs=>?_
 repeat refine zq ?_
 refine zb fun K hK=>?_;simp only [go_sem];(try simp (disch:=omega) only [zI]);repeat first | intro _ | refine ⟨by omega,?_⟩
 refine hK _ ?_;clear hK K
 repeat refine zq ?_
 refine zb fun K hK=>?_;simp only [go_sem];(try simp (disch:=omega) only [zI])
 refine zh (contains_ok (fun n=>decide (n < a) || decide (b < n)) 169 [.rp [i64 a],.rp [i64 b]] l fun x _=>owithin1_ok x a b) rfl (by simp only [go_sem,i64,ints]) (by simp only [go_sem,i64,ints]) (by first | exact .inl rfl | exact .inr rfl) ?_
 (try simp only [go_sem]);(try simp (disch:=omega) only [zI]);repeat first | intro _ | refine ⟨by omega,?_⟩
 refine hK _ ?_;clear hK K;refine ze ?_;simp only [go_sem];rw [← withinL_not]
theorem factor_ok (b : Int) (hb : 0 ≤ b ∧ b ≤ 499) : ACalls Try.prog 215 [.ag [i64 b]] (i64 (b / 100)):=by
 have e1 : Int.tdiv b 100 = b / 100:=Int.tdiv_eq_ediv_of_nonneg hb.1
 have w1 : IntKind.i64.wrap (b / 100) = b / 100:=by rw [zI] <;> omega
 refine acalls_st (rs:=[i64 (b / 100)]) [.tmp 2] Try.func215 rfl (by kernel_rfl) Try.ntmps215 rfl (by simp) rfl fun C vs=>?_
 repeat refine zq ?_
 refine zb fun K hK=>?_;simp only [go_sem];(try simp (disch:=omega) only [zI]);repeat first | intro _ | refine ⟨by omega,?_⟩
 refine hK _ ?_;clear hK K;refine zw (zk [1]) ?_;simp only [go_sem]
 repeat refine zq ?_
 refine zb fun K hK=>?_;simp only [go_sem,e1,w1];(try simp (disch:=omega) only [zI]);repeat first | intro _ | refine ⟨by omega,?_⟩
 repeat first | intro _ | refine ⟨by omega,?_⟩
 refine hK _ ?_;clear hK K;refine zw (zk [2]) ?_;simp only [go_sem];refine ze ?_;simp only [go_sem]
theorem number_ok (b : Int) (hb : 0 ≤ b ∧ b ≤ 499) : ACalls Try.prog 216 [.ag [i64 b]] (i64 (b % 100)):=by
 have e1 : Int.tmod b 100 = b % 100:=Int.tmod_eq_emod_of_nonneg hb.1
 have w1 : IntKind.i64.wrap (b % 100) = b % 100:=by rw [zI] <;> omega
 refine acalls_st (rs:=[i64 (b % 100)]) [.tmp 2] Try.func216 rfl (by kernel_rfl) Try.ntmps216 rfl (by simp) rfl fun C vs=>?_
 repeat refine zq ?_
 refine zb fun K hK=>?_;simp only [go_sem];(try simp (disch:=omega) only [zI]);repeat first | intro _ | refine ⟨by omega,?_⟩
 refine hK _ ?_;clear hK K;refine zw (zk [1]) ?_;simp only [go_sem]
 repeat refine zq ?_
 refine zb fun K hK=>?_;simp only [go_sem,e1,w1];(try simp (disch:=omega) only [zI]);repeat first | intro _ | refine ⟨by omega,?_⟩
 repeat first | intro _ | refine ⟨by omega,?_⟩
 refine hK _ ?_;clear hK K;refine zw (zk [2]) ?_;simp only [go_sem];refine ze ?_;simp only [go_sem]
theorem bworth_ok (b : Int) (hb : 0 ≤ b ∧ b ≤ 499) : ACalls Try.prog 170 [.ag [i64 b]] (i64 (scoreOf b)):=by
 have hf:=factor_ok b hb
 have hn:=number_ok b hb
 have h1 : 0 ≤ b / 100 ∧ b / 100 ≤ 4:=by omega
 have h2 : 0 ≤ b % 100 ∧ b % 100 ≤ 99:=by omega
 have h3:=Int.mul_nonneg h1.1 h2.1
 have h4:=Int.mul_le_mul h1.2 h2.2 h2.1 (show (0 : Int) ≤ 4 by omega)
 have w3 : IntKind.i64.wrap (b / 100 * (b % 100)) = b / 100 * (b % 100):=by rw [zI] <;> omega
 have hs : scoreOf b = b / 100 * (b % 100):=rfl
 rw [hs]
 refine acalls_st (rs:=[i64 (b / 100 * (b % 100))]) [.tmp 2] Try.func170 rfl (by kernel_rfl) Try.ntmps170 rfl (by simp) rfl fun C vs=>?_
 repeat refine zq ?_
 refine zb fun K hK=>?_;simp only [go_sem];(try simp (disch:=omega) only [zI]);repeat first | intro _ | refine ⟨by omega,?_⟩
 refine hK _ ?_;clear hK K;refine zw (sub_frzP 1 1 [i64 b] (by omega) rfl rfl) ?_;refine zw (zk [1]) ?_;simp only [go_sem]
 repeat refine zq ?_
 refine zg follows (by decide +kernel) (by kernel_rfl) fun K hK=>?_;simp only [go_sem,w3];(try simp (disch:=omega) only [zI])
 refine zh (hf) rfl (by simp only [go_sem,i64,ints]) (by simp only [go_sem,i64,ints]) (by first | exact .inl rfl | exact .inr rfl) ?_
 (try simp only [go_sem]);(try simp (disch:=omega) only [zI])
 refine zh (hn) rfl (by simp only [go_sem,i64,ints,w3]) (by simp only [go_sem,i64,ints,w3]) (by first | exact .inl rfl | exact .inr rfl) ?_
 (try simp only [go_sem,w3]);(try simp (disch:=omega) only [zI]);repeat first | intro _ | refine ⟨by omega,?_⟩
 repeat first | intro _ | refine ⟨by omega,?_⟩
 refine hK _ ?_;clear hK K;refine zw (zk [2]) ?_;simp only [go_sem];refine ze ?_;simp only [go_sem]
theorem bopens_ok (b g : Int) (hb : 0 ≤ b ∧ b ≤ 499) : ACalls Try.prog 171 [.ag [i64 b],i64 g] (.bo (opensD g b)):=by
 have hf:=factor_ok b hb
 refine acalls_st (rs:=[.bo (opensD g b)]) [.tmp 4] Try.func171 rfl (by kernel_rfl) Try.ntmps171 rfl (by simp) rfl fun C vs=>?_
 repeat refine zq ?_
 refine zb fun K hK=>?_;simp only [go_sem];(try simp (disch:=omega) only [zI]);repeat first | intro _ | refine ⟨by omega,?_⟩
 refine hK _ ?_;clear hK K;refine zw (sub_frzP 2 2 [i64 b] (by omega) rfl rfl) ?_;refine zw (zk [1,2]) ?_;simp only [go_sem]
 repeat refine zq ?_
 refine zb fun K hK=>?_;simp only [go_sem];(try simp (disch:=omega) only [zI]);repeat first | intro _ | refine ⟨by omega,?_⟩
 refine hK _ ?_;clear hK K;refine zw (zk [2,5]) ?_;simp only [go_sem]
 repeat refine zq ?_
 refine zd ?_
 repeat refine zq ?_
 refine zb fun K hK=>?_;simp only [go_sem];(try simp (disch:=omega) only [zI]);repeat first | intro _ | refine ⟨by omega,?_⟩
 refine hK _ ?_;clear hK K;refine zw (zk [2,5,6]) ?_;simp only [go_sem]
 by_cases h1 : g = 1
 · subst h1
   repeat refine zq ?_
   refine zc rfl (fun hc=>?_) (fun hc=>?_) <;> (try simp only [go_sem] at hc)
   repeat refine zq ?_
   refine zb fun K hK=>?_;simp only [go_sem];(try simp (disch:=omega) only [zI])
   refine zh (hf) rfl (by simp only [go_sem,i64,ints]) (by simp only [go_sem,i64,ints]) (by first | exact .inl rfl | exact .inr rfl) ?_
   (try simp only [go_sem]);(try simp (disch:=omega) only [zI]);repeat first | intro _ | refine ⟨by omega,?_⟩
   refine hK _ ?_;clear hK K;refine zw (zk [4]) ?_;simp only [go_sem];refine ze ?_;simp only [go_sem];rw [Bool.eq_iff_iff]
   simp [opensD]
 · have e1 : (g == 1) = false:=by simpa using h1
   rw [e1]
   repeat refine zq ?_
   refine zc rfl (fun hc=>?_) (fun hc=>?_) <;> (try simp only [go_sem] at hc)
   repeat refine zq ?_
   refine zb fun K hK=>?_;simp only [go_sem];(try simp (disch:=omega) only [zI]);repeat first | intro _ | refine ⟨by omega,?_⟩
   refine hK _ ?_;clear hK K;refine zw (zk [2,5,11]) ?_;simp only [go_sem]
   by_cases h2 : g = 2
   · subst h2
     repeat refine zq ?_
     refine zc rfl (fun hc=>?_) (fun hc=>?_) <;> (try simp only [go_sem] at hc)
     repeat refine zq ?_
     refine zb fun K hK=>?_;simp only [go_sem];(try simp (disch:=omega) only [zI])
     refine zh (hf) rfl (by simp only [go_sem,i64,ints]) (by simp only [go_sem,i64,ints]) (by first | exact .inl rfl | exact .inr rfl) ?_
     (try simp only [go_sem]);(try simp (disch:=omega) only [zI]);repeat first | intro _ | refine ⟨by omega,?_⟩
     refine hK _ ?_;clear hK K;refine zw (zk [4]) ?_;simp only [go_sem];refine ze ?_;simp only [go_sem]
     simp [opensD]
   · have e2 : (g == 2) = false:=by simpa using h2
     rw [e2]
     repeat refine zq ?_
     refine zc rfl (fun hc=>?_) (fun hc=>?_) <;> (try simp only [go_sem] at hc)
     refine zx ?_
     try simp only [go_sem]
     repeat refine zq ?_
     refine zb fun K hK=>?_;simp only [go_sem];(try simp (disch:=omega) only [zI]);repeat first | intro _ | refine ⟨by omega,?_⟩
     refine hK _ ?_;clear hK K;refine zw (zk [4]) ?_;simp only [go_sem];refine ze ?_;simp only [go_sem]
     simp [opensD,h1,h2]
theorem obed_ok (b : Int) (hb : 0 ≤ b ∧ b ≤ 499) (hv : bedOk b = true) : ACalls Try.prog 214 [.ag [i64 b]] (.bo true):=by
 have hf:=factor_ok b hb
 have hn:=number_ok b hb
 have hv':=hv
 simp only [bedOk,Bool.or_eq_true,Bool.and_eq_true,decide_eq_true_eq] at hv'
 refine acalls_st (rs:=[.bo true]) [.tmp 2] Try.func214 rfl (by kernel_rfl) Try.ntmps214 rfl (by simp) rfl fun C vs=>?_
 repeat refine zq ?_
 refine zb fun K hK=>?_;simp only [go_sem];(try simp (disch:=omega) only [zI]);repeat first | intro _ | refine ⟨by omega,?_⟩
 refine hK _ ?_;clear hK K;refine zw (sub_frzP 1 1 [i64 b] (by omega) rfl rfl) ?_;refine zw (zk [1]) ?_;simp only [go_sem]
 cases h1 : (b == 125)
 · cases h2 : (b == 225)
   · have n1 : b ≠ 125:=by simpa using h1
     have n2 : b ≠ 225:=by simpa using h2
     have w1 : withinL 1 4 [b / 100] = true:=by simp [withinL]; omega
     have w2 : withinL 1 20 [b % 100] = true:=by simp [withinL]; omega
     have c1:=owithin_ok 1 4 [b / 100]
     have c2:=owithin_ok 1 20 [b % 100]
     rw [w1] at c1
     rw [w2] at c2
     repeat refine zq ?_
     refine zb fun K hK=>?_;simp only [go_sem,h1,h2];(try simp (disch:=omega) only [zI])
     refine zh (hf) rfl (by simp only [go_sem,i64,ints]) (by simp only [go_sem,i64,ints]) (by first | exact .inl rfl | exact .inr rfl) ?_
     (try simp only [go_sem]);(try simp (disch:=omega) only [zI])
     refine zh (c1) rfl (by simp only [go_sem,i64,ints]) (by simp only [go_sem,i64,ints]) (by first | exact .inl rfl | exact .inr rfl) ?_
     (try simp only [go_sem]);(try simp (disch:=omega) only [zI])
     refine zh (hn) rfl (by simp only [go_sem,i64,ints]) (by simp only [go_sem,i64,ints]) (by first | exact .inl rfl | exact .inr rfl) ?_
     (try simp only [go_sem]);(try simp (disch:=omega) only [zI])
     refine zh (c2) rfl (by simp only [go_sem,i64,ints]) (by simp only [go_sem,i64,ints]) (by first | exact .inl rfl | exact .inr rfl) ?_
     (try simp only [go_sem]);(try simp (disch:=omega) only [zI]);repeat first | intro _ | refine ⟨by omega,?_⟩
     refine hK _ ?_;clear hK K;refine zw (zk [2]) ?_;simp only [go_sem];refine ze ?_;simp only [go_sem]
   · repeat refine zq ?_
     refine zb fun K hK=>?_;simp only [go_sem,h1,h2];(try simp (disch:=omega) only [zI]);repeat first | intro _ | refine ⟨by omega,?_⟩
     refine hK _ ?_;clear hK K;refine zw (zk [2]) ?_;simp only [go_sem];refine ze ?_;simp only [go_sem]
 · repeat refine zq ?_
   refine zb fun K hK=>?_;simp only [go_sem,h1];(try simp (disch:=omega) only [zI]);repeat first | intro _ | refine ⟨by omega,?_⟩
   refine hK _ ?_;clear hK K;refine zw (zk [2]) ?_;simp only [go_sem];refine ze ?_;simp only [go_sem]
structure BdsO (bs : List Int) : Prop where
 asc : bs.Pairwise (· < ·)
 ne : 1 ≤ bs.length
 len : bs.length ≤ 82
 bed : ∀ b ∈ bs,bedOk b = true ∧ 0 ≤ b ∧ b ≤ 499
theorem areBedsO_ok (bs : List Int) (h : BdsO bs) : ACalls Try.prog 167 [ints bs] (.bo true):=by
 have hne:=h.ne
 have hlen:=h.len
 refine acalls_st (rs:=[.bo true]) [.tmp 2] Try.func167 rfl (by kernel_rfl) Try.ntmps167 rfl (by simp) rfl fun C vs=>?_
 repeat refine zq ?_
 refine zb fun K hK=>?_;simp only [go_sem];(try simp (disch:=omega) only [zI]);repeat first | intro _ | refine ⟨by omega,?_⟩
 refine hK _ ?_;clear hK K;refine zw (zk [0]) ?_;simp only [go_sem]
 repeat refine zq ?_
 refine zb fun K hK=>?_;simp only [go_sem,List.length_map];(try simp (disch:=omega) only [zI]);repeat first | intro _ | refine ⟨by omega,?_⟩
 refine hK _ ?_;clear hK K;refine zw (zk [0,5,6,7]) ?_;simp only [go_sem]
 repeat refine zq ?_
 refine zd ?_
 refine awp_upto (n:=34) bs.length (fun i vs=>[(0,.r (ints bs)),(5,.r (ints bs)),(6,.r (i64 (bs.length : Int))),(7,.r (i64 (i : Int)))])
  (fun i=>[]) (fun _=>True) 0 (fit_of [] ?_ ?_) (Nat.zero_le _) trivial ?_
 · try simp only [go_sem]
 · try simp only [go_sem]
 · intro i vs hi _
   by_cases hin : i < bs.length
   · obtain ⟨b,hb⟩:=opt_of_lt hin
     obtain ⟨q1,q2⟩:=h.bed b (mem_of_opt hb)
     have hq:=obed_ok b q2 q1
     repeat refine zq ?_
     refine zb fun K hK=>?_;simp only [go_sem,hin];(try simp (disch:=omega) only [zI]);repeat first | intro _ | refine ⟨by omega,?_⟩
     refine hK _ ?_;clear hK K;refine zw (zk [0,5,6,7,8]) ?_;simp only [go_sem]
     repeat refine zq ?_
     refine zc rfl (fun hc=>?_) (fun hc=>?_) <;> (try simp only [go_sem] at hc)
     refine zx ?_
     try simp only [go_sem]
     repeat refine zq ?_
     refine zd ?_
     repeat refine zq ?_
     refine zb fun K hK=>?_;simp only [go_sem,hb,hin,List.length_map];(try simp (disch:=omega) only [zI]);repeat first | intro _ | refine ⟨by omega,?_⟩
     refine hK _ ?_;clear hK K;refine zw (zk [0,3,4,5,6,7]) ?_;simp only [go_sem]
     repeat refine zq ?_
     by_cases h0 : i = 0
     · subst h0
       repeat refine zq ?_
       refine zb fun K hK=>?_;simp only [go_sem];(try simp (disch:=omega) only [zI])
       refine zh (hq) rfl (by simp only [go_sem,i64,ints]) (by simp only [go_sem,i64,ints]) (by first | exact .inl rfl | exact .inr rfl) ?_
       (try simp only [go_sem]);(try simp (disch:=omega) only [zI]);repeat first | intro _ | refine ⟨by omega,?_⟩
       refine hK _ ?_;clear hK K;refine zw (zk [0,5,6,7,28]) ?_;simp only [go_sem]
       repeat refine zq ?_
       refine zc rfl (fun hc=>?_) (fun hc=>?_) <;> (try simp only [go_sem] at hc)
       refine zx ?_
       try simp only [go_sem]
       repeat refine zq ?_
       refine zb fun K hK=>?_;simp only [go_sem];(try simp (disch:=omega) only [zI]);repeat first | intro _ | refine ⟨by omega,?_⟩
       refine hK _ ?_;clear hK K
       try simp only [go_sem]
       refine ⟨by omega,fit_of [] ?_ ?_⟩
       · try simp only [go_sem]
       · try simp only [go_sem]
     · obtain ⟨c,hc⟩:=opt_of_lt (l:=bs) (i:=i - 1) (by omega)
       have hlt : c < b:=by
        have:=List.pairwise_iff_getElem.1 h.asc (i - 1) i (by omega) hin (by omega)
        rw [List.getElem?_eq_getElem (by omega)] at hc
        rw [List.getElem?_eq_getElem hin] at hb
        injection hc with hc
        injection hb with hb
        omega
       have g0 : decide ((0 : Int) < (i : Int)) = true:=decide_eq_true (by omega)
       have g0' : 0 < i:=by omega
       have g1 : decide (b ≤ c) = false:=decide_eq_false (by omega)
       have g2 : IntKind.i64.wrap ((i : Int) - 1) = (i : Int) - 1:=by rw [zI] <;> omega
       have g3 : i - 1 < bs.length:=by omega
       have hcx : bs[((i : Int) - 1).toNat]? = some c:=by rw [show ((i : Int) - 1).toNat = i - 1 by omega]; exact hc
       repeat refine zq ?_
       refine zb fun K hK=>?_;simp only [go_sem,hcx,g1,g2];(try simp (disch:=omega) only [zI])
       refine zh (hq) rfl (by simp only [go_sem,i64,ints,g0,g0',g2,hcx,g1]) (by simp only [go_sem,i64,ints,g0,g0',g2,hcx,g1]) (by first | exact .inl rfl | exact .inr rfl) ?_
       (try simp only [go_sem,g0,g0',g2,hcx,g1]);(try simp (disch:=omega) only [zI]);repeat first | intro _ | refine ⟨by omega,?_⟩
       repeat first | intro _ | refine ⟨by omega,?_⟩
       refine hK _ ?_;clear hK K;refine zw (zk [0,5,6,7,28]) ?_;simp only [go_sem]
       repeat refine zq ?_
       refine zc rfl (fun hc=>?_) (fun hc=>?_) <;> (try simp only [go_sem] at hc)
       refine zx ?_
       try simp only [go_sem]
       repeat refine zq ?_
       refine zb fun K hK=>?_;simp only [go_sem];(try simp (disch:=omega) only [zI]);repeat first | intro _ | refine ⟨by omega,?_⟩
       refine hK _ ?_;clear hK K
       try simp only [go_sem]
       refine ⟨by omega,fit_of [] ?_ ?_⟩
       · try simp only [go_sem]
       · try simp only [go_sem]
   · have hie : i = bs.length:=by omega
     subst hie
     have w1 : withinL 1 82 [(bs.length : Int)] = true:=by simp [withinL]; omega
     have c1:=owithin_ok 1 82 [(bs.length : Int)]
     rw [w1] at c1
     repeat refine zq ?_
     refine zb fun K hK=>?_;simp only [go_sem,Nat.lt_irrefl];(try simp (disch:=omega) only [zI]);repeat first | intro _ | refine ⟨by omega,?_⟩
     refine hK _ ?_;clear hK K;refine zw (zk [0,8]) ?_;simp only [go_sem]
     repeat refine zq ?_
     refine zc rfl (fun hc=>?_) (fun hc=>?_) <;> (try simp only [go_sem] at hc)
     refine zf ?_;simp only [go_sem]
     repeat refine zq ?_
     refine zb fun K hK=>?_;simp only [go_sem,List.length_map];(try simp (disch:=omega) only [zI]);repeat first | intro _ | refine ⟨by omega,?_⟩
     refine zh (c1) rfl (by simp only [go_sem,i64,ints]) (by simp only [go_sem,i64,ints]) (by first | exact .inl rfl | exact .inr rfl) ?_
     (try simp only [go_sem]);(try simp (disch:=omega) only [zI]);repeat first | intro _ | refine ⟨by omega,?_⟩
     refine hK _ ?_;clear hK K;refine zw (zk [2]) ?_;simp only [go_sem];refine ze ?_;simp only [go_sem]
abbrev ouR (bs : List Int) (g k : Int) : RV:=.ag [ints bs,i64 g,i64 k]
theorem gateO_ok (g : Int) (h : 0 ≤ g ∧ g ≤ 2) : ACalls Try.prog 168 [i64 g] (.bo true):=by
 have g1 : decide ((0 : Int) ≤ g) = true:=decide_eq_true h.1
 have g2 : decide (g ≤ (2 : Int)) = true:=decide_eq_true h.2
 refine acalls_st (rs:=[.bo true]) [.tmp 2] Try.func168 rfl (by kernel_rfl) Try.ntmps168 rfl (by simp) rfl fun C vs=>?_
 repeat refine zq ?_
 refine zb fun K hK=>?_;simp only [go_sem];(try simp (disch:=omega) only [zI]);repeat first | intro _ | refine ⟨by omega,?_⟩
 refine hK _ ?_;clear hK K;refine zw (zk [0]) ?_;simp only [go_sem]
 repeat refine zq ?_
 refine zb fun K hK=>?_;simp only [go_sem,g1,g2];(try simp (disch:=omega) only [zI]);repeat first | intro _ | refine ⟨by omega,?_⟩
 repeat first | intro _ | refine ⟨by omega,?_⟩
 refine hK _ ?_;clear hK K;refine zw (zk [2]) ?_;simp only [go_sem];refine ze ?_;simp only [go_sem]
theorem ocheck_ok (bs : List Int) (g k : Int) (h : BdsO bs) (hg : 0 ≤ g ∧ g ≤ 2) (hk : 1 ≤ k ∧ k ≤ 9) : ACalls Try.prog 102 [ouR bs g k] (i64 0):=by
 have h1:=areBedsO_ok bs h
 have h2:=gateO_ok g hg
 have w1 : withinL 1 9 [k] = true:=by simp [withinL]; omega
 have c1:=owithin_ok 1 9 [k]
 rw [w1] at c1
 refine acalls_st (rs:=[i64 0]) [.tmp 2] Try.func102 rfl (by kernel_rfl) Try.ntmps102 rfl (by simp) rfl fun C vs=>?_
 repeat refine zq ?_
 refine zb fun K hK=>?_;simp only [go_sem];(try simp (disch:=omega) only [zI]);repeat first | intro _ | refine ⟨by omega,?_⟩
 refine hK _ ?_;clear hK K;refine zw (sub_frzP 1 1 [ints bs,i64 g,i64 k] (by omega) rfl rfl) ?_;refine zw (zk [1]) ?_;simp only [go_sem]
 repeat refine zq ?_
 refine zb fun K hK=>?_;simp only [go_sem];(try simp (disch:=omega) only [zI])
 refine zh (h1) rfl (by simp only [go_sem,i64,ints]) (by simp only [go_sem,i64,ints]) (by first | exact .inl rfl | exact .inr rfl) ?_
 (try simp only [go_sem]);(try simp (disch:=omega) only [zI])
 refine zh (h2) rfl (by simp only [go_sem,i64,ints]) (by simp only [go_sem,i64,ints]) (by first | exact .inl rfl | exact .inr rfl) ?_
 (try simp only [go_sem]);(try simp (disch:=omega) only [zI])
 refine zh (c1) rfl (by simp only [go_sem,i64,ints]) (by simp only [go_sem,i64,ints]) (by first | exact .inl rfl | exact .inr rfl) ?_
 (try simp only [go_sem]);(try simp (disch:=omega) only [zI]);repeat first | intro _ | refine ⟨by omega,?_⟩
 refine hK _ ?_;clear hK K;refine zw (zk [19]) ?_;simp only [go_sem]
 repeat refine zq ?_
 refine zc rfl (fun hc=>?_) (fun hc=>?_) <;> (try simp only [go_sem] at hc)
 refine zx ?_
 try simp only [go_sem]
 repeat refine zq ?_
 refine zb fun K hK=>?_;simp only [go_sem];(try simp (disch:=omega) only [zI]);repeat first | intro _ | refine ⟨by omega,?_⟩
 refine hK _ ?_;clear hK K;refine zw (zk [2]) ?_;simp only [go_sem];refine ze ?_;simp only [go_sem]
theorem checkMost_ok (bs : List Int) (g k m : Int) (h : BdsO bs) (hg : 0 ≤ g ∧ g ≤ 2) (hk : 1 ≤ k ∧ k ≤ 9) (hm : 0 ≤ m ∧ m ≤ 1001) : ACalls Try.prog 55 [ouR bs g k,i64 m] (i64 0):=by
 have h1:=ocheck_ok bs g k h hg hk
 have w1 : withinL 0 1001 [m] = true:=by simp [withinL]; omega
 have c1:=owithin_ok 0 1001 [m]
 rw [w1] at c1
 refine acalls_st (rs:=[i64 0]) [.tmp 4] Try.func55 rfl (by kernel_rfl) Try.ntmps55 rfl (by simp) rfl fun C vs=>?_
 repeat refine zq ?_
 refine zb fun K hK=>?_;simp only [go_sem];(try simp (disch:=omega) only [zI]);repeat first | intro _ | refine ⟨by omega,?_⟩
 refine hK _ ?_;clear hK K;refine zw (sub_frzP 2 2 [ints bs,i64 g,i64 k] (by omega) rfl rfl) ?_;refine zw (zk [1,2]) ?_;simp only [go_sem]
 repeat refine zq ?_
 refine zd ?_
 repeat refine zq ?_
 refine zb fun K hK=>?_;simp only [go_sem];(try simp (disch:=omega) only [zI])
 have z0 : ((0 : Int) != 0) = false:=rfl
 refine zh (h1) rfl (by simp only [go_sem,i64,ints,z0]) (by simp only [go_sem,i64,ints,z0]) (by first | exact .inl rfl | exact .inr rfl) ?_
 (try simp only [go_sem,z0]);(try simp (disch:=omega) only [zI]);repeat first | intro _ | refine ⟨by omega,?_⟩
 refine hK _ ?_;clear hK K;refine zw (zk [1,2,5]) ?_;simp only [go_sem]
 repeat refine zq ?_
 refine zc rfl (fun hc=>?_) (fun hc=>?_) <;> (try simp only [go_sem] at hc)
 repeat refine zq ?_
 refine zb fun K hK=>?_;simp only [go_sem];(try simp (disch:=omega) only [zI])
 refine zh (c1) rfl (by simp only [go_sem,i64,ints]) (by simp only [go_sem,i64,ints]) (by first | exact .inl rfl | exact .inr rfl) ?_
 (try simp only [go_sem]);(try simp (disch:=omega) only [zI]);repeat first | intro _ | refine ⟨by omega,?_⟩
 refine hK _ ?_;clear hK K;refine zw (zk [9]) ?_;simp only [go_sem]
 repeat refine zq ?_
 refine zc rfl (fun hc=>?_) (fun hc=>?_) <;> (try simp only [go_sem] at hc)
 refine zx ?_
 try simp only [go_sem]
 repeat refine zq ?_
 refine zb fun K hK=>?_;simp only [go_sem];(try simp (disch:=omega) only [zI]);repeat first | intro _ | refine ⟨by omega,?_⟩
 refine hK _ ?_;clear hK K;refine zw (zk [4]) ?_;simp only [go_sem];refine ze ?_;simp only [go_sem]
abbrev brdC (bs : List Int) (g : Int) (cs : List (List Int)) : List RV:=[ints bs,i64 g,tabR cs]
abbrev brdP (bs : List Int) (g : Int) (cs : List (List Int)) : RV:=.rp (brdC bs g cs)
def afterO (g s b : Int) : Int × Bool:=if s - scoreOf b = 0 then (0,opensD g b) else if s - scoreOf b = 1 then (1,g == 0) else (s - scoreOf b,decide (1 < s - scoreOf b))
theorem oafter_ok (bs : List Int) (g : Int) (cs : List (List Int)) (s b : Int) (hs : 0 ≤ s ∧ s ≤ 2000) (hb : 0 ≤ b ∧ b ≤ 499) :
 ACalls Try.prog 107 [brdP bs g cs,i64 s,.ag [i64 b]] (.tu [i64 (afterO g s b).1,.bo (afterO g s b).2]):=by
 have hw:=bworth_ok b hb
 have ho:=bopens_ok b g hb
 have hsc:=score_le hb.1 hb.2
 have w1 : IntKind.i64.wrap (s - scoreOf b) = s - scoreOf b:=by rw [zI] <;> omega
 refine acalls_st (rs:=[i64 (afterO g s b).1,.bo (afterO g s b).2]) [.tmp 6,.tmp 7] Try.func107 rfl (by kernel_rfl) Try.ntmps107 rfl (by simp) rfl fun C vs=>?_
 repeat refine zq ?_
 refine zb fun K hK=>?_;simp only [go_sem];(try simp (disch:=omega) only [zI]);repeat first | intro _ | refine ⟨by omega,?_⟩
 refine hK _ ?_;clear hK K;refine zw (sub_frzP 5 5 [i64 b] (by omega) rfl rfl) ?_;refine zw (zk [0,1,5]) ?_;simp only [go_sem]
 repeat refine zq ?_
 refine zb fun K hK=>?_;simp only [go_sem];(try simp (disch:=omega) only [zI])
 refine zh (hw) rfl (by simp only [go_sem,i64,ints,w1]) (by simp only [go_sem,i64,ints,w1]) (by first | exact .inl rfl | exact .inr rfl) ?_
 (try simp only [go_sem,w1]);(try simp (disch:=omega) only [zI]);repeat first | intro _ | refine ⟨by omega,?_⟩
 repeat first | intro _ | refine ⟨by omega,?_⟩
 refine hK _ ?_;clear hK K;refine zw (zk [0,5,6]) ?_;simp only [go_sem]
 unfold afterO
 generalize s - scoreOf b = left at *
 repeat refine zq ?_
 refine zd ?_
 repeat refine zq ?_
 refine zb fun K hK=>?_;simp only [go_sem];(try simp (disch:=omega) only [zI]);repeat first | intro _ | refine ⟨by omega,?_⟩
 refine hK _ ?_;clear hK K;refine zw (zk [0,5,6,12]) ?_;simp only [go_sem]
 by_cases h0 : left = 0
 · subst h0
   repeat refine zq ?_
   refine zc rfl (fun hc=>?_) (fun hc=>?_) <;> (try simp only [go_sem] at hc)
   repeat refine zq ?_
   refine zg follows (by decide +kernel) (by kernel_rfl) fun K hK=>?_;simp only [go_sem];(try simp (disch:=omega) only [zI])
   refine zh (ho) rfl (by simp only [go_sem,i64,ints]) (by simp only [go_sem,i64,ints]) (by first | exact .inl rfl | exact .inr rfl) ?_
   (try simp only [go_sem]);(try simp (disch:=omega) only [zI]);repeat first | intro _ | refine ⟨by omega,?_⟩
   refine hK _ ?_;clear hK K;refine zw (zk [6,7]) ?_;simp only [go_sem];refine ze ?_;simp only [go_sem]
   try simp
 · have e0 : (left == 0) = false:=by simpa using h0
   rw [e0]
   repeat refine zq ?_
   refine zc rfl (fun hc=>?_) (fun hc=>?_) <;> (try simp only [go_sem] at hc)
   repeat refine zq ?_
   refine zb fun K hK=>?_;simp only [go_sem];(try simp (disch:=omega) only [zI]);repeat first | intro _ | refine ⟨by omega,?_⟩
   refine hK _ ?_;clear hK K;refine zw (zk [0,5,6,21]) ?_;simp only [go_sem]
   by_cases h1 : left = 1
   · subst h1
     repeat refine zq ?_
     refine zc rfl (fun hc=>?_) (fun hc=>?_) <;> (try simp only [go_sem] at hc)
     repeat refine zq ?_
     refine zg follows (by decide +kernel) (by kernel_rfl) fun K hK=>?_;simp only [go_sem];(try simp (disch:=omega) only [zI]);repeat first | intro _ | refine ⟨by omega,?_⟩
     refine hK _ ?_;clear hK K;refine zw (zk [6,7]) ?_;simp only [go_sem];refine ze ?_;simp only [go_sem]
     try simp
   · have e1 : (left == 1) = false:=by simpa using h1
     rw [e1]
     repeat refine zq ?_
     refine zc rfl (fun hc=>?_) (fun hc=>?_) <;> (try simp only [go_sem] at hc)
     refine zx ?_
     try simp only [go_sem]
     repeat refine zq ?_
     refine zb fun K hK=>?_;simp only [go_sem];(try simp (disch:=omega) only [zI]);repeat first | intro _ | refine ⟨by omega,?_⟩
     refine hK _ ?_;clear hK K;refine zw (zk [6,7]) ?_;simp only [go_sem];refine ze ?_;simp only [go_sem]
     try simp [h0,h1]
def throwsO (g s : Int) (bs : List Int) : List (Int × Int):=bs.filterMap fun b=>if ((afterO g s b).2 && decide (0 < s)) = true then some (b,(afterO g s b).1) else none
abbrev thrR (x : Int × Int) : List RV:=[.ag [i64 x.1],i64 x.2]
theorem throws1_ok (bs : List Int) (g : Int) (cs : List (List Int)) (s : Int) (hs : 0 ≤ s ∧ s ≤ 2000) (hb : ∀ b ∈ bs,0 ≤ b ∧ b ≤ 499) :
 ICalls Try.prog true 106 [.rp [brdP bs g cs],.rp [i64 s]] ((throwsO g s bs).map thrR):=by
 refine icalls_st Try.func106 rfl (by kernel_rfl) Try.ntmps106 rfl (by simp) fun C ll=>?_
 repeat refine zq ?_
 refine zb fun K hK=>?_;simp only [go_sem,argL];(try simp (disch:=omega) only [zI])
 intro hl7
 repeat first | intro _ | refine ⟨by omega,?_⟩
 refine hK _ ?_;clear hK K;refine zw (zk [0,1,2,11,12,13]) ?_;simp only [go_sem]
 repeat refine zq ?_
 refine zd ?_
 refine awp_upto (n:=37) bs.length (fun i vs=>[(0,.r (.yl ll)),(1,.r (.rp [brdP bs g cs])),(2,.r (.rp [i64 s])),(11,.r (ints bs)),(12,.r (i64 bs.length)),(13,.r (i64 i))])
  (fun i=>[(999,.gh Try.prog ll true (some ((throwsO g s (bs.drop i)).map thrR)))]) (fun _=>True) 0 (fit_of [] ?_ ?_) (Nat.zero_le _) trivial ?_
 · try simp only [go_sem]
 · try simp only [go_sem]
 · intro i vs hi _
   by_cases hin : i < bs.length
   · obtain ⟨b,hbi⟩:=opt_of_lt hin
     have hbq:=hb b (mem_of_opt hbi)
     have hdr : bs.drop i = b :: bs.drop (i + 1):=drop_of_opt hbi
     have haf:=oafter_ok bs g cs s b hs hbq
     have hcons : throwsO g s (bs.drop i) = if ((afterO g s b).2 && decide (0 < s)) = true then (b,(afterO g s b).1) :: throwsO g s (bs.drop (i + 1)) else throwsO g s (bs.drop (i + 1)):=by
      rw [hdr]
      unfold throwsO
      rw [List.filterMap_cons]
      by_cases hq : ((afterO g s b).2 && decide (0 < s)) = true
      · rw [if_pos hq,if_pos hq]
      · rw [if_neg hq,if_neg hq]
     rw [hcons]
     generalize afterO g s b = x at *
     repeat refine zq ?_
     refine zb fun K hK=>?_;simp only [go_sem,hin];(try simp (disch:=omega) only [zI]);repeat first | intro _ | refine ⟨by omega,?_⟩
     refine hK _ ?_;clear hK K
     repeat refine zq ?_
     refine zc rfl (fun hc=>?_) (fun hc=>?_) <;> (try simp only [go_sem] at hc)
     refine zx ?_
     repeat refine zq ?_
     refine zd ?_
     repeat refine zq ?_
     refine zb fun K hK=>?_;simp only [go_sem,hbi,hin,List.length_map];(try simp (disch:=omega) only [zI]);repeat first | intro _ | refine ⟨by omega,?_⟩
     refine hK _ ?_;clear hK K;refine zw (zk [0,1,2,5,11,12,13]) ?_;simp only [go_sem]
     repeat refine zq ?_
     refine zb fun K hK=>?_;simp only [go_sem];(try simp (disch:=omega) only [zI])
     refine zh (haf) rfl (by simp only [go_sem,i64,ints]) (by simp only [go_sem,i64,ints]) (by first | exact .inl rfl | exact .inr rfl) ?_
     (try simp only [go_sem]);(try simp (disch:=omega) only [zI]);repeat first | intro _ | refine ⟨by omega,?_⟩
     refine hK _ ?_;clear hK K;refine zw (zk [0,1,2,5,6,7,11,12,13]) ?_;simp only [go_sem]
     obtain ⟨lf,ok⟩:=x
     cases ok with
     | false =>
       have hgo : (((lf,false) : Int × Bool).2 && decide (0 < s)) = true ↔ False:=by simp
       simp only [hgo,if_false]
       repeat refine zq ?_
       refine zb fun K hK=>?_;simp only [go_sem];(try simp (disch:=omega) only [zI]);repeat first | intro _ | refine ⟨by omega,?_⟩
       refine hK _ ?_;clear hK K;refine zw (zk [0,1,2,11,12,13,35]) ?_;simp only [go_sem]
       repeat refine zq ?_
       refine zc rfl (fun hc=>?_) (fun hc=>?_) <;> (try simp only [go_sem] at hc)
       refine zx ?_
       try simp only [go_sem]
       repeat refine zq ?_
       refine zb fun K hK=>?_;simp only [go_sem];(try simp (disch:=omega) only [zI]);repeat first | intro _ | refine ⟨by omega,?_⟩
       refine hK _ ?_;clear hK K
       try simp only [go_sem]
       refine ⟨by omega,fit_of [5] ?_ ?_⟩
       · try simp only [go_sem]
       · try simp only [go_sem]
     | true =>
       by_cases hs0 : 0 < s
       · have hgo : (((lf,true) : Int × Bool).2 && decide (0 < s)) = true:=by simp [hs0]
         simp only [hgo,if_true,List.map_cons]
         have hd0 : decide (0 < s) = true:=decide_eq_true hs0
         repeat refine zq ?_
         refine zb fun K hK=>?_;simp only [go_sem,hd0,hs0];(try simp (disch:=omega) only [zI])
         refine xcall_yield (z:=true) (e:=thrR (b,lf)) (rest:=(throwsO g s (bs.drop (i + 1))).map thrR) (by simp only [go_sem]) rfl (by simp only [go_sem]) (.inl rfl) ?_ ?_
         · simp only [go_sem];repeat first | intro _ | refine ⟨by omega,?_⟩
           refine hK _ ?_;clear hK K;refine zw (zk [0,1,2,11,12,13,35]) ?_;simp only [go_sem]
           repeat refine zq ?_
           refine zc rfl (fun hc=>?_) (fun hc=>?_) <;> (try simp only [go_sem] at hc)
           refine zx ?_
           try simp only [go_sem]
           repeat refine zq ?_
           refine zb fun K hK=>?_;simp only [go_sem];(try simp (disch:=omega) only [zI]);repeat first | intro _ | refine ⟨by omega,?_⟩
           refine hK _ ?_;clear hK K
           try simp only [go_sem]
           refine ⟨by omega,fit_of [5] ?_ ?_⟩
           · try simp only [go_sem]
           · try simp only [go_sem]
         · simp only [go_sem];repeat first | intro _ | refine ⟨by omega,?_⟩
           refine hK _ ?_;clear hK K;refine zw (zk [35]) ?_;simp only [go_sem]
           repeat refine zq ?_
           refine zc rfl (fun hc=>?_) (fun hc=>?_) <;> (try simp only [go_sem] at hc)
           refine ze ?_;simp only [go_sem];exact ⟨_,_,.inr rfl⟩
       · have hgo : (((lf,true) : Int × Bool).2 && decide (0 < s)) = true ↔ False:=by simp [hs0]
         simp only [hgo,if_false]
         have hd0 : decide (0 < s) = false:=decide_eq_false hs0
         repeat refine zq ?_
         refine zb fun K hK=>?_;simp only [go_sem,hd0,hs0];(try simp (disch:=omega) only [zI]);repeat first | intro _ | refine ⟨by omega,?_⟩
         refine hK _ ?_;clear hK K;refine zw (zk [0,1,2,11,12,13,35]) ?_;simp only [go_sem]
         repeat refine zq ?_
         refine zc rfl (fun hc=>?_) (fun hc=>?_) <;> (try simp only [go_sem] at hc)
         refine zx ?_
         try simp only [go_sem]
         repeat refine zq ?_
         refine zb fun K hK=>?_;simp only [go_sem];(try simp (disch:=omega) only [zI]);repeat first | intro _ | refine ⟨by omega,?_⟩
         refine hK _ ?_;clear hK K
         try simp only [go_sem]
         refine ⟨by omega,fit_of [5] ?_ ?_⟩
         · try simp only [go_sem]
         · try simp only [go_sem]
   · have hie : i = bs.length:=by omega
     subst hie
     repeat refine zq ?_
     refine zb fun K hK=>?_;simp only [go_sem,Nat.lt_irrefl];(try simp (disch:=omega) only [zI]);repeat first | intro _ | refine ⟨by omega,?_⟩
     refine hK _ ?_;clear hK K
     repeat refine zq ?_
     refine zc rfl (fun hc=>?_) (fun hc=>?_) <;> (try simp only [go_sem] at hc)
     refine zf ?_;simp only [go_sem]
     have h0 : (throwsO g s (bs.drop bs.length)).map thrR = []:=by simp [throwsO]
     exact ⟨ll,true,.inl (by simp only [go_sem,h0])⟩
theorem throws_ok (bs : List Int) (g : Int) (cs : List (List Int)) (s : Int) : ACalls Try.prog 57 [brdP bs g cs,i64 s] (.fn 106 [.rp [brdP bs g cs],.rp [i64 s]]):=by
 refine acalls_st (rs:=[.fn 106 [.rp [brdP bs g cs],.rp [i64 s]]]) [.tmp 4] Try.func57 rfl (by kernel_rfl) Try.ntmps57 rfl (by simp) rfl fun C vs=>?_
 repeat refine zq ?_
 refine zb fun K hK=>?_;simp only [go_sem];(try simp (disch:=omega) only [zI]);repeat first | intro _ | refine ⟨by omega,?_⟩
 refine hK _ ?_;clear hK K
 repeat refine zq ?_
 refine zb fun K hK=>?_;simp only [go_sem];(try simp (disch:=omega) only [zI]);repeat first | intro _ | refine ⟨by omega,?_⟩
 refine hK _ ?_;clear hK K;refine ze ?_;simp only [go_sem]
 simp [RV.le,leL_refl.le_refl,leL_refl]
end Go.Proofs.Ytlljkgiomkmjbaa.Du

namespace Go.Oc
open Go Go.RowKit
set_option linter.unusedVariables false
section
variable {ρ : List (Nat × Nat)} {ver ver' : Nat → Nat}
mutual
theorem lendA_congr (hv : ∀ k,(lendKey ρ k).isSome = true → ver' k = ver k) : ∀ x : AV,lendA ρ ver' x = lendA ρ ver x
 | .r _=>by simp only [lendA]
 | .tu _=>by simp only [lendA]
 | .mi _ _=>by simp only [lendA]
 | .pt k _ _=>by simp only [lendA]; cases e : lendKey ρ k with | none=>rfl | some pk=>rw [hv k (by rw [e]; rfl)]
 | .pe k _ _ _ _=>by simp only [lendA]; cases e : lendKey ρ k with | none=>rfl | some pk=>rw [hv k (by rw [e]; rfl)]
 | .os k _ _ _ _=>by simp only [lendA]; cases e : lendKey ρ k with | none=>rfl | some pk=>rw [hv k (by rw [e]; rfl)]
 | .mp k _=>by simp only [lendA]; cases e : lendKey ρ k with | none=>rfl | some pk=>rw [hv k (by rw [e]; rfl)]
 | .pu k _ _=>by simp only [lendA]; cases e : lendKey ρ k with | none=>rfl | some pk=>rw [hv k (by rw [e]; rfl)]
 | .fn _ cs=>by simp only [lendA]; rw [lendL_congr hv cs]
 | .ag cs=>by simp only [lendA]; rw [lendL_congr hv cs]
theorem lendL_congr (hv : ∀ k,(lendKey ρ k).isSome = true → ver' k = ver k) : ∀ xs : List AV,lendL ρ ver' xs = lendL ρ ver xs
 | []=>by simp only [lendL]
 | x :: xs=>by simp only [lendL]; rw [lendA_congr hv x,lendL_congr hv xs]
end
theorem lendC_congr (hv : ∀ k,(lendKey ρ k).isSome = true → ver' k = ver k) (c : RowC) : lendC ρ ver' c = lendC ρ ver c:=by
 cases c <;> simp only [lendC]
 all_goals rw [lendL_congr hv]
theorem key_of_pin : ∀ {ρ : List (Nat × Nat)} {j ck : Nat},pinOf ρ j = some ck → (lendKey ρ ck).isSome = true
 | [],_,_,h=>by simp [pinOf] at h
 | (x, y) :: ρ, j, ck, h => by
   simp only [pinOf] at h
   simp only [lendKey]
   split at h
   · injection h with h; subst h; simp
   · split
     · rfl
     · exact key_of_pin h
mutual
theorem backA_congr (hv : ∀ k,(lendKey ρ k).isSome = true → ver' k = ver k) : ∀ x : AV,backA ρ ver' x = backA ρ ver x
 | .r _=>by simp only [backA]
 | .mi _ _=>by simp only [backA]
 | .pt k _ _=>by simp only [backA]; cases e : pinOf ρ k with | none=>rfl | some ck=>simp only [hv ck (key_of_pin e)]
 | .pe k _ _ _ _=>by simp only [backA]; cases e : pinOf ρ k with | none=>rfl | some ck=>simp only [hv ck (key_of_pin e)]
 | .os k _ _ _ _=>by simp only [backA]; cases e : pinOf ρ k with | none=>rfl | some ck=>simp only [hv ck (key_of_pin e)]
 | .mp k _=>by simp only [backA]; cases e : pinOf ρ k with | none=>rfl | some ck=>simp only [hv ck (key_of_pin e)]
 | .pu k _ _=>by simp only [backA]; cases e : pinOf ρ k with | none=>rfl | some ck=>simp only [hv ck (key_of_pin e)]
 | .tu cs=>by simp only [backA]; rw [backL_congr hv cs]
 | .fn _ cs=>by simp only [backA]; rw [backL_congr hv cs]
 | .ag cs=>by simp only [backA]; rw [backL_congr hv cs]
theorem backL_congr (hv : ∀ k,(lendKey ρ k).isSome = true → ver' k = ver k) : ∀ xs : List AV,backL ρ ver' xs = backL ρ ver xs
 | []=>by simp only [backL]
 | x :: xs=>by simp only [backL]; rw [backA_congr hv x,backL_congr hv xs]
end
theorem backC_congr (hv : ∀ k,(lendKey ρ k).isSome = true → ver' k = ver k) (c : RowC) : backC ρ ver' c = backC ρ ver c:=by
 cases c <;> simp only [backC]
 all_goals rw [backL_congr hv]
theorem lendOk_congr {s s' : AS} (hr : ∀ k,(lendKey ρ k).isSome = true → s'.rows k = s.rows k) : ∀ {l : List (Nat × Nat)} {L : List (Nat × RowC)},(∀ x ∈ l,(lendKey ρ x.2).isSome = true) → lendOk ρ s l L → lendOk ρ s' l L
 | [],[],_,h=>h
 | [],_ :: _,_,h=>h.elim
 | _ :: _,[],_,h=>h.elim
 | (a, b) :: l, (k, c) :: L, hl, h => by
   simp only [lendOk] at h ⊢
   obtain ⟨h1,h2,h3⟩:=h
   refine ⟨h1,?_,lendOk_congr hr (fun x hx=>hl x (by simp [hx])) h3⟩
   rw [hr b (hl (a,b) (by simp)),lendC_congr (ver:=s.ver) fun k hk=>by show (s'.rows k).ver = _; rw [hr k hk]; rfl]
   exact h2
theorem lendKey_mem : ∀ {ρ : List (Nat × Nat)} {x : Nat × Nat},x ∈ ρ → (lendKey ρ x.2).isSome = true
 | (a, b) :: ρ, x, h => by
   simp only [lendKey]
   split
   · rfl
   · rename_i hne
     rcases List.mem_cons.1 h with h | h
     · subst h; exact absurd rfl hne
     · exact lendKey_mem h
theorem mem_of_key : ∀ {ρ : List (Nat × Nat)} {k : Nat},(lendKey ρ k).isSome = true → ∃ x ∈ ρ,x.2 = k
 | [],_,h=>by simp [lendKey] at h
 | (a, b) :: ρ, k, h => by
   simp only [lendKey] at h
   split at h
   · rename_i e; exact ⟨(a,b),by simp,e.symm⟩
   · obtain ⟨x,h1,h2⟩:=mem_of_key h
     exact ⟨x,by simp [h1],h2⟩
theorem pin_mem : ∀ {ρ : List (Nat × Nat)} {j ck : Nat},pinOf ρ j = some ck → (j,ck) ∈ ρ
 | [],_,_,h=>by simp [pinOf] at h
 | (x, y) :: ρ, j, ck, h => by
   simp only [pinOf] at h
   split at h
   · rename_i e; injection h with h; subst h e; simp
   · exact List.mem_cons_of_mem _ (pin_mem h)
end
section
variable {P : Program} {s : AS}
def found (s : AS) (ρ : List (Nat × Nat)) (xs : List AV) : Prop :=
 ∀ x ∈ ρ,¬ AV.nrL x.2 (s.ver x.2) xs ∨ ∃ y ∈ ρ,∃ cs,¬ AV.nrL y.2 (s.ver y.2) xs ∧ (s.rows y.2).c = .box cs ∧ ¬ AV.nrL x.2 (s.ver x.2) cs
theorem bcall_of {f : AV} {xs : List AV} {ρ : List (Nat × Nat)} {L : List (Nat × RowC)} {args : List AV} {F : FuncId} {cs : List AV} {r : RV} (hM : MCalls P F L L args (.r r)) (hF : callee? f = some (F,cs)) (hl : lendL ρ s.ver (xs ++ cs) = some args)
 (hL : lendOk ρ s ρ L) (hap : apart ρ = true) (hsk : sameKeys ρ L = true) (hback : ∀ x ∈ ρ,backC ρ s.ver (lookc L x.1) = (s.rows x.2).c) (hre : found s ρ (f :: xs)) : BCallOk P s f xs r:=by
 refine ⟨fun k=>(lendKey ρ k).isSome = true,fun k hk=>?_,fun s' hs'=>?_⟩
 · obtain ⟨x,hx,rfl⟩:=mem_of_key hk
   rcases hre x hx with h | ⟨y,hy,cs',h1,h2,h3⟩
   · exact .inl h
   · exact .inr ⟨y.2,cs',lendKey_mem hy,h1,h2,h3⟩
 · have hv : ∀ k,(lendKey ρ k).isSome = true → s'.ver k = s.ver k:=fun k hk=>by show (s'.rows k).ver = _; rw [hs' k hk]; rfl
   have hbk : s'.backs ρ L = s':=by
    unfold AS.backs
    refine AS.ext rfl rfl ?_
    funext j
    obtain ⟨g1,g2⟩:=backRows_get (ρ:=ρ) (ver:=s'.ver) (L':=L) (l:=ρ) (rows:=s'.rows) hap j
    cases e : lendKey ρ j with
    | none=>exact g1 e
    | some pk =>
      have hj : (lendKey ρ j).isSome = true:=by rw [e]; rfl
      have hp:=pin_lend hap e
      have hx : (pk,j) ∈ ρ:=pin_mem hp
      refine (g2 pk e).trans ?_
      rw [backC_congr hv,hback _ hx,← hs' j hj]
      rfl
   intro C p a w o g as1 ts hs ho hg has hd K Q hK
   subst hg has
   refine mcall_sound hs ho (KA:=fun t=>t = s'.put o.dst (.r r)) ⟨F,cs,ρ,L,L,args,.r r,hF,by rw [lendL_congr hv]; exact hl,lendOk_congr hs' (fun x hx=>lendKey_mem hx) hL,hap,hsk,hM,?_⟩ hd ?_
   · rw [hbk]; simp only [backA]
   · rintro a' w' p' t ht _ rfl
     exact hK a' w' p' ht
theorem xcall_keep {D : Bool} {n : Nat} {l : List (Nat × AV)} {vs : Nat → Nat} {rw : List (Nat × RowC)} {f : AV} {xs : List AV} {L : List (Nat × RowC)} {args : List AV} {F : FuncId} {caps : List AV} {r : RV} {d : Option Nat} {K : AS → Prop} (hM : MCalls P F L L args (.r r)) (ρ : List (Nat × Nat)) (hF : callee? f = some (F,caps))
 (hl : lendL ρ vs (xs ++ caps) = some args) (hL : lendOk ρ (st n l vs rw) ρ L) (hap : apart ρ = true) (hsk : sameKeys ρ L = true) (hback : ∀ x ∈ ρ,backC ρ vs (lookc L x.1) = lookc rw x.2) (hre : found (st n l vs rw) ρ (f :: xs)) (hK : K ((st n l vs rw).put d (.r r))) : xcall P D (st n l vs rw) d f xs K :=
 .inl ⟨r,.inr (bcall_of hM hF hl hL hap hsk hback hre),hK⟩
end
section
variable {P : Program} {C : Ctx} {Q : Exit → AS → Prop} {s : AS} {Φ : List (RV × RV) → Prop}
theorem awp_openMR {c : Code} (k : Nat) (hc : (s.rows k).c = .mem Φ) (h : ∀ m,Φ m → awp P C c Q { s with rows:=upd s.rows k ⟨(s.rows k).ver,.mp m⟩ }) : awp P C c Q s:=fun a w ⟨p,hs⟩=>by
 have hrow:=hs.rw k
 rw [hc] at hrow
 simp only [rowRel] at hrow
 obtain ⟨m,b,hΦ,hβ,hm⟩:=hrow
 have hset:=hs.setRow (w':=w) k (.mp m) (by rw [hc]; rfl) (fun _ _ _ _ h=>by cases h) hβ rfl rfl rfl rfl (fun i _=>rfl) (fun _=>by
  simp only [rowRel];exact ⟨b,hβ,hm⟩)
 exact h m hΦ a w ⟨p,hset⟩
theorem sub_shutMR (k : Nat) {m : List (RV × RV)} (hc : (s.rows k).c = .mp m) (hΦ : Φ m) : Sub s { s with rows:=upd s.rows k ⟨(s.rows k).ver,.mem Φ⟩ }:=fun C a w ⟨p,hs⟩=>by
 have hrow:=hs.rw k
 rw [hc] at hrow
 simp only [rowRel] at hrow
 obtain ⟨b,hβ,hm⟩:=hrow
 exact ⟨p,hs.setRow (w':=w) k (.mem Φ) (by rw [hc]; rfl) (fun _ _ _ _ h=>by cases h) hβ rfl rfl rfl rfl (fun i _=>rfl) (fun _=>by
  simp only [rowRel];exact ⟨m,b,hΦ,hβ,hm⟩)⟩
variable {n : Nat} {l : List (Nat × AV)} {vs : Nat → Nat} {cs : List (Nat × RowC)}
theorem st_rowQ (k : Nat) (c : RowC) : ({ st n l vs cs with rows:=upd (st n l vs cs).rows k ⟨((st n l vs cs).rows k).ver,c⟩ } : AS) = st n l vs (insc cs k c):=by
 simp only [st,AS.mk.injEq,true_and]
 funext j
 rw [lookc_insc]
 unfold upd
 split
 · rename_i e; subst e; rfl
 · rfl
theorem awp_openM {c : Code} (k : Nat) (hc : lookc cs k = .mem Φ) (h : ∀ m,Φ m → awp P C c Q (st n l vs (insc cs k (.mp m)))) : awp P C c Q (st n l vs cs) :=
 awp_openMR k hc fun m hm=>by rw [st_rowQ]; exact h m hm
theorem sub_shutM (Φ : List (RV × RV) → Prop) (k : Nat) {m : List (RV × RV)} (hc : lookc cs k = .mp m) (hΦ : Φ m) : Sub (st n l vs cs) (st n l vs (insc cs k (.mem Φ))):=by
 have:=sub_shutMR (s:=st n l vs cs) k hc hΦ
 rwa [st_rowQ] at this
end
end Go.Oc

namespace Go.Proofs.Ytlljkgiomkmjbaa.Du
open Go Go.Oc
set_option linter.unusedSimpArgs false
set_option linter.unusedVariables false
set_option maxRecDepth 8000
def ltD (most : Bool) (x y : Bd) : Bool:=decide ((if most then y.b - x.b else x.b - y.b) < 0)
def loV (l : List Bd) : Int:=(l.map fun c=>c.lo * c.b).sum
theorem loV_snoc (l : List Bd) (x : Bd) : loV (l ++ [x]) = loV l + x.lo * x.b:=by simp [loV]
def fillG : List Bd → Int × Int → Int × Int
 | [],x=>x
 | c :: cs,x=>fillG cs (x.1 - min x.1 (c.hi - c.lo),x.2 + min x.1 (c.hi - c.lo) * c.b)
theorem fillG_snoc : ∀ (l : List Bd) (c : Bd) (x : Int × Int),fillG (l ++ [c]) x = ((fillG l x).1 - min (fillG l x).1 (c.hi - c.lo),(fillG l x).2 + min (fillG l x).1 (c.hi - c.lo) * c.b)
 | [],_,_=>rfl
 | d :: l,c,x=>by simp only [List.cons_append,fillG]; exact fillG_snoc l c _
def meanD (most : Bool) (den : Int) (l : List Bd) : Int:=overD most (fillG (sortN (ltD most) l) (den - loS (sortN (ltD most) l),loV (sortN (ltD most) l))).2 den
structure ChG (den : Int) (l : List Bd) : Prop where
 len : l.length ≤ 19
 den0 : 1 ≤ den
 den1 : den ≤ 3000
 low : loS l ≤ den
 each : ∀ c ∈ l,(0 ≤ c.b ∧ c.b ≤ 1000000) ∧ 0 ≤ c.lo ∧ c.lo ≤ c.hi ∧ c.hi ≤ 3000
theorem loV_le {l : List Bd} (h : ∀ c ∈ l,(0 ≤ c.b ∧ c.b ≤ 1000000) ∧ 0 ≤ c.lo ∧ c.lo ≤ c.hi ∧ c.hi ≤ 3000) : 0 ≤ loV l ∧ loV l ≤ 3000000000 * l.length:=by
 induction l with
 | nil=>simp [loV]
 | cons c l ih =>
   obtain ⟨h1,h2⟩:=ih fun x hx=>h x (by simp [hx])
   obtain ⟨⟨b0,b1⟩,g0,g1,g2⟩:=h c (by simp)
   have m0:=Int.mul_nonneg g0 b0
   have m1 : c.lo * c.b ≤ 3000 * 1000000:=Int.mul_le_mul (by omega) b1 b0 (by omega)
   simp only [loV,List.map_cons,List.sum_cons,List.length_cons] at h1 h2 ⊢
   omega
theorem insB_perm (lt : Bd → Bd → Bool) (x : Bd) : ∀ R,(insB lt x R).Perm (x :: R)
 | []=>List.Perm.refl _
 | y :: R => by
   unfold insB
   split
   · exact ((insB_perm lt x R).cons y).trans (List.Perm.swap _ _ _)
   · exact List.Perm.refl _
theorem sortB_perm (lt : Bd → Bd → Bool) : ∀ l R,(sortB lt l R).Perm (l ++ R)
 | [],R=>List.Perm.refl _
 | x :: l, R => by
   rw [sortB]
   refine (sortB_perm lt l _).trans ?_
   exact ((insB_perm lt x R).append_left l).trans List.perm_middle
theorem sortN_perm (lt : Bd → Bd → Bool) (l : List Bd) : (sortN lt l).Perm l:=by
 unfold sortN
 have:=sortB_perm lt l []
 rw [List.append_nil] at this
 exact (List.reverse_perm _).trans this
theorem perm_sum {α : Type} {f : α → Int} {l m : List α} (h : l.Perm m) : (l.map f).sum = (m.map f).sum:=by
 induction h with
 | nil=>rfl
 | cons x _ ih=>simp only [List.map_cons,List.sum_cons,ih]
 | swap x y l=>simp only [List.map_cons,List.sum_cons]; omega
 | trans _ _ h1 h2=>exact h1.trans h2
def GOk (x : Int × Int) : Prop:=(0 ≤ x.1 ∧ x.1 ≤ 3000) ∧ 0 ≤ x.2 ∧ x.2 ≤ 57000000000 + 1000000 * (3000 - x.1)
theorem gOk_step {c : Bd} {x : Int × Int} (h : GOk x) (hc : (0 ≤ c.b ∧ c.b ≤ 1000000) ∧ 0 ≤ c.lo ∧ c.lo ≤ c.hi ∧ c.hi ≤ 3000) :
 (0 ≤ min x.1 (c.hi - c.lo) ∧ min x.1 (c.hi - c.lo) ≤ x.1) ∧ (0 ≤ min x.1 (c.hi - c.lo) * c.b ∧ min x.1 (c.hi - c.lo) * c.b ≤ 3000000000) ∧ GOk (x.1 - min x.1 (c.hi - c.lo),x.2 + min x.1 (c.hi - c.lo) * c.b):=by
 obtain ⟨⟨h1,h2⟩,h3,h4⟩:=h
 obtain ⟨⟨b0,b1⟩,g0,g1,g2⟩:=hc
 generalize hm : min x.1 (c.hi - c.lo) = m
 have m0 : 0 ≤ m:=by omega
 have m1 : m ≤ x.1:=by omega
 have p0:=Int.mul_nonneg m0 b0
 have p1 : m * c.b ≤ m * 1000000:=Int.mul_le_mul_of_nonneg_left b1 m0
 refine ⟨⟨m0,m1⟩,⟨p0,by omega⟩,⟨by simp only; omega,by simp only; omega⟩,by simp only; omega,by simp only; omega⟩
theorem gOk_all {l : List Bd} : ∀ {x : Int × Int},(∀ c ∈ l,(0 ≤ c.b ∧ c.b ≤ 1000000) ∧ 0 ≤ c.lo ∧ c.lo ≤ c.hi ∧ c.hi ≤ 3000) → GOk x → GOk (fillG l x):=by
 induction l with
 | nil=>intro x _ h; exact h
 | cons c l ih =>
   intro x hc h
   exact ih (fun y hy=>hc y (by simp [hy])) (gOk_step h (hc c (by simp))).2.2
theorem mean_ok (r : Ru) (most : Bool) (T : List (List Int)) (l : List Bd) (h : ChG r.d l) :
 MCalls Try.prog 121 [(1000,.arr 285 3 (idx l))] [(1000,.arr 285 3 (idx (sortN (ltD most) l)))] [.r (sideP r most T),.os 1000 0 3 0 l.length] (.r (i64 (meanD most r.d l))):=by
 have hsort:=sortStable_ok (ltD most) (fun x y=>if most then y.b - x.b else x.b - y.b) 182 [.rp [sideP r most T]] l h.len (fun _ _=>rfl) (fun x hx y hy=>cmp_ok r most T x y (h.each x hx).1 (h.each y hy).1)
 obtain ⟨S,hS⟩ : ∃ S,S = sortN (ltD most) l:=⟨_,rfl⟩
 have hperm : S.Perm l:=hS ▸ sortN_perm _ _
 have hSl : S.length = l.length:=hperm.length_eq
 have hSe : ∀ c ∈ S,(0 ≤ c.b ∧ c.b ≤ 1000000) ∧ 0 ≤ c.lo ∧ c.lo ≤ c.hi ∧ c.hi ≤ 3000:=fun c hc=>h.each c (hperm.mem_iff.1 hc)
 have hlo : loS S = loS l:=perm_sum hperm
 have hl19:=h.len
 have hd0:=h.den0
 have hd1:=h.den1
 have hlow:=h.low
 rw [show meanD most r.d l = overD most (fillG S (r.d - loS S,loV S)).2 r.d by rw [meanD,← hS]]
 rw [← hS] at hsort ⊢
 have hsub : ∀ i,(0 ≤ loS (S.take i) ∧ loS (S.take i) ≤ 57000) ∧ 0 ≤ loV (S.take i) ∧ loV (S.take i) ≤ 57000000000:=fun i=>by
  have hm : ∀ c ∈ S.take i,(0 ≤ c.b ∧ c.b ≤ 1000000) ∧ 0 ≤ c.lo ∧ c.lo ≤ c.hi ∧ c.hi ≤ 3000:=fun c hc=>hSe c (List.mem_of_mem_take hc)
  have h1:=loV_le hm
  have h2 : 0 ≤ loS (S.take i) ∧ loS (S.take i) ≤ 3000 * (S.take i).length:=by
   generalize S.take i = L at hm
   clear h1
   induction L with
   | nil=>simp [loS]
   | cons c L ih =>
     obtain ⟨i1,i2⟩:=ih fun x hx=>hm x (by simp [hx])
     have:=hm c (by simp)
     simp only [loS,List.map_cons,List.sum_cons,List.length_cons] at i1 i2 ⊢
     omega
  have h3 : (S.take i).length ≤ 19:=by rw [List.length_take]; omega
  omega
 have hall:=hsub S.length
 rw [List.take_length] at hall
 have hG0 : GOk (r.d - loS S,loV S):=⟨⟨by simp only; omega,by simp only; omega⟩,by simp only; omega,by simp only; omega⟩
 refine mcalls_st (n:=77) (rs:=[.r (i64 (overD most (fillG S (r.d - loS S,loV S)).2 r.d))]) _ _ [.tmp 4] Try.func121 rfl (by kernel_rfl) Try.ntmps121 rfl (by simp) rfl rfl fun C=>?_
 repeat refine zq ?_
 refine zb fun K hK=>?_;simp only [go_sem];(try simp (disch:=omega) only [zI]);repeat first | intro _ | refine ⟨by omega,?_⟩
 refine hK _ ?_;clear hK K;refine zw (sub_frzP 2 2 [sideP r most T] (by omega) rfl rfl) ?_;refine zw (zk [1,2]) ?_;simp only [go_sem]
 repeat refine zq ?_
 refine zb fun K hK=>?_;simp only [go_sem];(try simp (disch:=omega) only [zI])
 refine xcall_mut (mcalls_fn hsort) [(1000,1000)] rfl (by simp only [go_sem,i64,ints]) (by simp only [go_sem,i64,ints]) (by rfl) (by rfl) ?_
 (try simp only [go_sem]);(try simp (disch:=omega) only [zI]);repeat first | intro _ | refine ⟨by omega,?_⟩
 refine hK _ ?_;clear hK K;refine zw (zk [1,2]) ?_;simp only [go_sem]
 repeat refine zq ?_
 refine zb fun K hK=>?_;simp only [go_sem];(try simp (disch:=omega) only [zI]);repeat first | intro _ | refine ⟨by omega,?_⟩
 refine hK _ ?_;clear hK K;refine zw (zk [1,2,5,6]) ?_;simp only [go_sem]
 repeat refine zq ?_
 refine zb fun K hK=>?_;simp only [go_sem];(try simp (disch:=omega) only [zI]);repeat first | intro _ | refine ⟨by omega,?_⟩
 refine hK _ ?_;clear hK K;refine zw (zk [1,2,5,6,22,23,24]) ?_;simp only [go_sem]
 repeat refine zq ?_
 refine zd ?_
 refine awp_uptoV (n:=77) l.length (fun i vs=>[(1,.os 1000 (vs 1000) 3 0 l.length),(2,.r (.rp [sideP r most T])),(5,.r (i64 (r.d - loS (S.take i)))),(6,.r (i64 (loV (S.take i)))),(22,.os 1000 (vs 1000) 3 0 l.length),(23,.r (i64 l.length)),(24,.r (i64 i))])
  (fun i vs=>[(1000,.arr 285 3 (idx S))]) (fun _=>True) 0 (zj [] ?_ ?_) (Nat.zero_le _) trivial ?_
 · try simp only [go_sem]
   simp [loS,loV]
 · try simp only [go_sem]
 · intro i vs hi _
   repeat refine zq ?_
   refine zb fun K hK=>?_;simp only [go_sem];(try simp (disch:=omega) only [zI]);repeat first | intro _ | refine ⟨by omega,?_⟩
   refine hK _ ?_;clear hK K;refine zw (zk [1,2,5,6,22,23,24,25]) ?_;simp only [go_sem]
   repeat refine zq ?_
   refine zc rfl (fun hc=>?_) (fun hc=>?_) <;> (try simp only [go_sem] at hc)
   · have hci : i < S.length:=by omega
     obtain ⟨c,hx⟩:=opt_of_lt hci
     obtain ⟨⟨b0,b1⟩,g0,g1,g2⟩:=hSe c (mem_of_opt hx)
     have m0:=Int.mul_nonneg g0 b0
     have m1 : c.lo * c.b ≤ 3000 * 1000000:=Int.mul_le_mul (by omega) b1 b0 (by omega)
     have hmw : IntKind.i64.wrap (c.lo * c.b) = c.lo * c.b:=by rw [zI] <;> omega
     have hs1:=hsub i
     have hlS : loS (S.take (i + 1)) = loS (S.take i) + c.lo:=by rw [take_of_opt hx,loS_snoc]
     have hlV : loV (S.take (i + 1)) = loV (S.take i) + c.lo * c.b:=by rw [take_of_opt hx,loV_snoc]
     refine zx ?_
     try simp only [go_sem]
     repeat refine zq ?_
     refine zd ?_
     repeat refine zq ?_
     refine zb fun K hK=>?_;simp only [go_sem,hx,hci,hSl,bedR];(try simp (disch:=omega) only [zI]);repeat first | intro _ | refine ⟨by omega,?_⟩
     repeat first | intro _ | refine ⟨by omega,?_⟩
     refine hK _ ?_;clear hK K;refine zw (sub_frzP 8 8 (bedR c) (by omega) rfl rfl) ?_;simp only [go_sem,bedR];refine zw (zk [1,2,5,6,8,22,23,24]) ?_;simp only [go_sem]
     repeat refine zq ?_
     refine zg follows (by decide +kernel) (by kernel_rfl) fun K hK=>?_;simp only [go_sem,hmw];(try simp (disch:=omega) only [zI]);repeat first | intro _ | refine ⟨by omega,?_⟩
     refine hK _ ?_;clear hK K;refine zw (zk [1,2,5,6,22,23,24]) ?_;simp only [go_sem]
     repeat refine zq ?_
     refine zb fun K hK=>?_;simp only [go_sem];(try simp (disch:=omega) only [zI]);repeat first | intro _ | refine ⟨by omega,?_⟩
     refine hK _ ?_;clear hK K
     try simp only [go_sem]
     refine ⟨by omega,zj [] ?_ ?_⟩
     · try simp only [go_sem]
       rw [hlS,hlV]
       exact ⟨by rw [Int.sub_sub],rfl⟩
     · try simp only [go_sem]
   · have hil : i = S.length:=by omega
     subst hil
     rw [List.take_length]
     refine zf ?_;simp only [go_sem]
     repeat refine zq ?_
     refine zb fun K hK=>?_;simp only [go_sem];(try simp (disch:=omega) only [zI]);repeat first | intro _ | refine ⟨by omega,?_⟩
     refine hK _ ?_;clear hK K;refine zw (zk [2,5,6,42,43,44]) ?_;simp only [go_sem]
     repeat refine zq ?_
     refine zd ?_
     refine awp_uptoV (n:=77) l.length (fun i vs=>[(2,.r (.rp [sideP r most T])),(5,.r (i64 (fillG (S.take i) (r.d - loS S,loV S)).1)),(6,.r (i64 (fillG (S.take i) (r.d - loS S,loV S)).2)),(42,.os 1000 (vs 1000) 3 0 l.length),(43,.r (i64 l.length)),(44,.r (i64 i))])
      (fun i vs=>[(1000,.arr 285 3 (idx S))]) (fun _=>True) 0 (zj [] ?_ ?_) (Nat.zero_le _) trivial ?_
     · try simp only [go_sem]
       simp [fillG]
     · try simp only [go_sem]
     · intro i vs hi2 _
       have hG : GOk (fillG (S.take i) (r.d - loS S,loV S)):=gOk_all (fun c hc=>hSe c (List.mem_of_mem_take hc)) hG0
       repeat refine zq ?_
       refine zb fun K hK=>?_;simp only [go_sem];(try simp (disch:=omega) only [zI]);repeat first | intro _ | refine ⟨by omega,?_⟩
       refine hK _ ?_;clear hK K;refine zw (zk [2,5,6,42,43,44,45]) ?_;simp only [go_sem]
       repeat refine zq ?_
       refine zc rfl (fun hc=>?_) (fun hc=>?_) <;> (try simp only [go_sem] at hc)
       · have hci : i < S.length:=by omega
         obtain ⟨c,hx⟩:=opt_of_lt hci
         obtain ⟨⟨b0,b1⟩,g0,g1,g2⟩:=hSe c (mem_of_opt hx)
         obtain ⟨⟨k0,k1⟩,⟨k2,k3⟩,k4⟩:=gOk_step hG (hSe c (mem_of_opt hx))
         rw [take_of_opt hx,fillG_snoc]
         obtain ⟨⟨q1,q2⟩,q3,q4⟩:=hG
         generalize fillG (S.take i) (r.d - loS S,loV S) = X at *
         obtain ⟨lf,sm⟩:=X
         simp only at *
         have hsw : IntKind.i64.wrap (c.hi - c.lo) = c.hi - c.lo:=by rw [zI] <;> omega
         generalize hmm : min lf (c.hi - c.lo) = m at *
         have hmw : IntKind.i64.wrap (m * c.b) = m * c.b:=by rw [zI] <;> omega
         refine zx ?_
         try simp only [go_sem]
         repeat refine zq ?_
         refine zd ?_
         repeat refine zq ?_
         refine zb fun K hK=>?_;simp only [go_sem,hx,hci,hSl,bedR];(try simp (disch:=omega) only [zI]);repeat first | intro _ | refine ⟨by omega,?_⟩
         repeat first | intro _ | refine ⟨by omega,?_⟩
         refine hK _ ?_;clear hK K;refine zw (sub_frzP 10 10 (bedR c) (by omega) rfl rfl) ?_;simp only [go_sem,bedR];refine zw (zk [2,5,6,10,42,43,44]) ?_;simp only [go_sem]
         repeat refine zq ?_
         refine zb fun K hK=>?_;simp only [go_sem,hsw,hmm];(try simp (disch:=omega) only [zI]);repeat first | intro _ | refine ⟨by omega,?_⟩
         refine hK _ ?_;clear hK K;refine zw (zk [2,5,6,10,11,42,43,44]) ?_;simp only [go_sem]
         repeat refine zq ?_
         refine zg follows (by decide +kernel) (by kernel_rfl) fun K hK=>?_;simp only [go_sem,hmw];(try simp (disch:=omega) only [zI]);repeat first | intro _ | refine ⟨by omega,?_⟩
         refine hK _ ?_;clear hK K;refine zw (zk [2,5,6,42,43,44]) ?_;simp only [go_sem]
         repeat refine zq ?_
         refine zb fun K hK=>?_;simp only [go_sem];(try simp (disch:=omega) only [zI]);repeat first | intro _ | refine ⟨by omega,?_⟩
         refine hK _ ?_;clear hK K
         try simp only [go_sem]
         refine ⟨by omega,zj [] ?_ ?_⟩
         · try simp only [go_sem]
         · try simp only [go_sem]
       · have hil : i = S.length:=by omega
         subst hil
         rw [List.take_length] at hG ⊢
         have hov:=over_ok r most T (fillG S (r.d - loS S,loV S)).2 r.d hG.2.1 (by have:=hG.1; have:=hG.2.2; omega) (by omega) (by omega)
         refine zf ?_;simp only [go_sem]
         repeat refine zq ?_
         refine zg follows (by decide +kernel) (by kernel_rfl) fun K hK=>?_;simp only [go_sem];(try simp (disch:=omega) only [zI])
         refine zh (hov) rfl (by simp only [go_sem,i64,ints]) (by simp only [go_sem,i64,ints]) (by first | exact .inl rfl | exact .inr rfl) ?_
         (try simp only [go_sem]);(try simp (disch:=omega) only [zI]);repeat first | intro _ | refine ⟨by omega,?_⟩
         refine hK _ ?_;clear hK K;refine zw (zk [4]) ?_;simp only [go_sem];refine ze ?_;simp only [go_sem]
abbrev visC (r : Ru) (most : Bool) (T : List (List Int)) (k st : Int) (m v : Nat) : List AV:=[.r (sideP r most T),.r (i64 k),.r (i64 st),.mp m v]
theorem newVisit_ok (r : Ru) (most : Bool) (T : List (List Int)) (k st : Int) :
 NCalls Try.prog 68 [sideP r most T,i64 k,i64 st] [(12,.box (visC r most T k st 10 0)),(10,.mp [])] (.pt 12 0 0):=by
 refine ncalls_st (n:=13) _ _ (.tmp 6) Try.func68 rfl (by kernel_rfl) Try.ntmps68 rfl (by simp) rfl rfl fun C hC=>?_
 repeat refine zq ?_
 refine zb fun K hK=>?_;simp only [go_sem];(try simp (disch:=omega) only [zI]);repeat first | intro _ | refine ⟨by omega,?_⟩
 refine hK _ ?_;clear hK K;refine zw (zk [0,1,2]) ?_;simp only [go_sem]
 repeat refine zq ?_
 refine zb fun K hK=>?_;simp only [go_sem];(try simp (disch:=omega) only [zI]);repeat first | intro _ | refine ⟨by omega,?_⟩
 refine hK _ ?_;clear hK K;refine zw (zk [6]) ?_;simp only [go_sem];refine ze ?_
 try simp only [go_sem]
def nextV (r : Ru) (most : Bool) (T : List (List Int)) (k st : Nat) (val : Nat → Int) (last : Bool) (left : Nat) (b : Int) : Int :=
 if decide (0 < scoreOf b) && (decide ((left : Int) - scoreOf b = 0) && opensD r.out b) then 1000000
 else if decide (0 < scoreOf b) && decide ((left : Int) - scoreOf b < lowestR r) then afterD r most T k st
 else if last then afterD r most T k ((left : Int) - scoreOf b).toNat
 else val ((left : Int) - scoreOf b).toNat
def maxL (l : List Int) : Int:=l.foldl max (l.headD 0)
def chW (f : Int → Int) (l : List Bd) : List Bd:=l.map fun c=>⟨f c.b,c.lo,c.hi⟩
def meansV (r : Ru) (most : Bool) (f : Int → Int) : List Int:=r.aims.map fun a=>meanD most r.d (chW f a.beds)
def valV (r : Ru) (most : Bool) (T : List (List Int)) (k st : Nat) : Nat → Nat → Int
 | 0,_=>0
 | n + 1,left=>maxL (meansV r most (nextV r most T k st (valV r most T k st n) (decide (n = 0)) left))
def memoV (r : Ru) (most : Bool) (T : List (List Int)) (k st : Nat) (m : List (RV × RV)) : Prop :=
 ∀ e ∈ m,∃ n left : Nat,e = (.ag [i64 (left : Int),i64 (n : Int)],i64 (valV r most T k st n left))
theorem memo_find {r : Ru} {most : Bool} {T : List (List Int)} {k st n left : Nat} : ∀ {m : List (RV × RV)} {i : Nat},memoV r most T k st m →
 findK (.ag [i64 (left : Int),i64 (n : Int)]) m i = some none ∨ ∃ j,findK (.ag [i64 (left : Int),i64 (n : Int)]) m i = some (some (j,i64 (valV r most T k st n left)))
 | [],i,_=>.inl rfl
 | e :: m, i, h => by
   obtain ⟨n',left',rfl⟩:=h e (by simp)
   have ih:=memo_find (n:=n) (left:=left) (m:=m) (i:=i + 1) fun x hx=>h x (by simp [hx])
   by_cases he : left = left' ∧ n = n'
   · obtain ⟨rfl,rfl⟩:=he
     exact .inr ⟨i,by simp [findK,sameK,cmpL,i64]⟩
   · have hf : sameK (.ag [i64 (left : Int),i64 (n : Int)]) (.ag [i64 (left' : Int),i64 (n' : Int)]) = some false:=by
      simp only [sameK,cmpL,i64,if_true,Option.some.injEq,Bool.and_true,Bool.and_eq_false_iff,beq_eq_false_iff_ne]
      omega
     simp only [findK,hf];exact ih
theorem memo_set {r : Ru} {most : Bool} {T : List (List Int)} {k st n left : Nat} {m : List (RV × RV)} (h : memoV r most T k st m) (i : Nat) : memoV r most T k st (m.set i (.ag [i64 (left : Int),i64 (n : Int)],i64 (valV r most T k st n left))):=fun e he=>by
 rcases List.mem_or_eq_of_mem_set he with he | rfl
 · exact h e he
 · exact ⟨n,left,rfl⟩
theorem memo_app {r : Ru} {most : Bool} {T : List (List Int)} {k st n left : Nat} {m : List (RV × RV)} (h : memoV r most T k st m) : memoV r most T k st (m ++ [(.ag [i64 (left : Int),i64 (n : Int)],i64 (valV r most T k st n left))]):=fun e he=>by
 rcases List.mem_append.1 he with he | he
 · exact h e he
 · rw [List.mem_singleton] at he; exact ⟨n,left,he⟩
abbrev visL (r : Ru) (most : Bool) (T : List (List Int)) (k st : Nat) : List (Nat × RowC):=[(1000,.box (visC r most T (k : Int) (st : Int) 1001 0)),(1001,.mem (memoV r most T k st))]
end Go.Proofs.Ytlljkgiomkmjbaa.Du

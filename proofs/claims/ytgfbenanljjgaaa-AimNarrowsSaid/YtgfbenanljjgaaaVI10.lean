/- Part 10 of the texts of this claim. -/
import Derived.Test.YtgfbenanljjgaaaVI9
import Derived.Test.YtgfbenanljjgaaaVI6
import Derived.Test.YtgfbenanljjgaaaVI7
import Derived.Test.YtgfbenanljjgaaaVI8
set_option linter.unusedSimpArgs false
set_option linter.unusedVariables false
namespace Go.Proofs.Ytgfbenanljjgaaa.Du.Th.Ai
open Go Go.Oc
set_option maxRecDepth 8000
set_option maxHeartbeats 8000000
structure Ps where
 st : Int
 left : Int
 darts : Int
abbrev psR (p : Ps) : RV:=.ag [i64 p.st,i64 p.left,i64 p.darts]
def posOk (r : Rk) (p : Ps) : Bool:=decide ((lowG r.out ≤ p.st ∧ p.st ≤ r.start) ∧ (lowG r.out ≤ p.left ∧ p.left ≤ p.st) ∧ (1 ≤ p.darts ∧ p.darts ≤ 3) ∧ (p.darts < 3 ∨ p.left = p.st))
theorem isPos_ok (r : Rk) (p : Ps) : ACalls Try.prog 95 [rkR r,psR p] (.bo (posOk r p)):=by
 have hlow:=alow_ok r.out
 have ha:=awithin_ok (lowG r.out) r.start [p.st]
 have hb:=awithin_ok (lowG r.out) p.st [p.left]
 have hd:=awithin_ok 1 3 [p.darts]
 have ea : withinL (lowG r.out) r.start [p.st] = decide (lowG r.out ≤ p.st ∧ p.st ≤ r.start):=by simp [withinL]
 have eb : withinL (lowG r.out) p.st [p.left] = decide (lowG r.out ≤ p.left ∧ p.left ≤ p.st):=by simp [withinL]
 have ed : withinL 1 3 [p.darts] = decide (1 ≤ p.darts ∧ p.darts ≤ 3):=by simp [withinL]
 rw [ea] at ha
 rw [eb] at hb
 rw [ed] at hd
 unfold posOk
 refine zas (rs:=[.bo (decide ((lowG r.out ≤ p.st ∧ p.st ≤ r.start) ∧ (lowG r.out ≤ p.left ∧ p.left ≤ p.st) ∧ (1 ≤ p.darts ∧ p.darts ≤ 3) ∧ (p.darts < 3 ∨ p.left = p.st)))]) [.tmp 4] Try.func95 rfl (by kernel_rfl) Try.ntmps95 rfl (by simp) rfl fun C vs=>?_
 refine zq ?_
 refine zb fun K hK=>?_;simp only [go_sem];refine hK _ ?_;clear hK K;refine zw (zfP 2 2 [i64 r.d,aimsR r.aims,i64 r.start,i64 r.out] (by omega) rfl rfl) ?_;refine zw (zfP 3 3 [i64 p.st,i64 p.left,i64 p.darts] (by omega) rfl rfl) ?_;refine zw (zk [2,3]) ?_;simp only [go_sem]
 refine zq ?_
 refine zb fun K hK=>?_;simp only [go_sem]
 refine zh (hlow) rfl (by simp only [go_sem,i64,ints]) (by simp only [go_sem,i64,ints]) (by first | exact .inl rfl | exact .inr rfl) ?_
 (try simp only [go_sem]);refine hK _ ?_;clear hK K;refine zw (zk [2,3,5]) ?_;simp only [go_sem]
 by_cases h1 : lowG r.out ≤ p.st ∧ p.st ≤ r.start
 · rw [decide_eq_true h1] at ha
   by_cases h2 : lowG r.out ≤ p.left ∧ p.left ≤ p.st
   · rw [decide_eq_true h2] at hb
     by_cases h3 : 1 ≤ p.darts ∧ p.darts ≤ 3
     · rw [decide_eq_true h3] at hd
       by_cases h4 : p.darts < 3
       · have e4 : decide (p.darts < 3) = true:=by simpa using h4
         refine zq ?_
         refine zb fun K hK=>?_;simp only [go_sem,e4]
         refine zh (ha) rfl (by simp only [go_sem,i64,ints,e4]) (by simp only [go_sem,i64,ints,e4]) (by first | exact .inl rfl | exact .inr rfl) ?_
         (try simp only [go_sem,e4])
         refine zh (hb) rfl (by simp only [go_sem,i64,ints,e4]) (by simp only [go_sem,i64,ints,e4]) (by first | exact .inl rfl | exact .inr rfl) ?_
         (try simp only [go_sem,e4])
         refine zh (hd) rfl (by simp only [go_sem,i64,ints,e4]) (by simp only [go_sem,i64,ints,e4]) (by first | exact .inl rfl | exact .inr rfl) ?_
         (try simp only [go_sem,e4]);refine hK _ ?_;clear hK K;refine zw (zk [4]) ?_;simp only [go_sem];refine ze ?_;simp only [go_sem]
         simp [h1,h2,h3,h4]
       · have e4 : decide (p.darts < 3) = false:=by simpa using h4
         refine zq ?_
         refine zb fun K hK=>?_;simp only [go_sem,e4]
         refine zh (ha) rfl (by simp only [go_sem,i64,ints,e4]) (by simp only [go_sem,i64,ints,e4]) (by first | exact .inl rfl | exact .inr rfl) ?_
         (try simp only [go_sem,e4])
         refine zh (hb) rfl (by simp only [go_sem,i64,ints,e4]) (by simp only [go_sem,i64,ints,e4]) (by first | exact .inl rfl | exact .inr rfl) ?_
         (try simp only [go_sem,e4])
         refine zh (hd) rfl (by simp only [go_sem,i64,ints,e4]) (by simp only [go_sem,i64,ints,e4]) (by first | exact .inl rfl | exact .inr rfl) ?_
         (try simp only [go_sem,e4]);refine hK _ ?_;clear hK K;refine zw (zk [4]) ?_;simp only [go_sem];refine ze ?_;simp only [go_sem];rw [Bool.eq_iff_iff]
         simp [h1,h2,h3,h4]
     · rw [decide_eq_false h3] at hd
       refine zq ?_
       refine zb fun K hK=>?_;simp only [go_sem]
       refine zh (ha) rfl (by simp only [go_sem,i64,ints]) (by simp only [go_sem,i64,ints]) (by first | exact .inl rfl | exact .inr rfl) ?_
       (try simp only [go_sem])
       refine zh (hb) rfl (by simp only [go_sem,i64,ints]) (by simp only [go_sem,i64,ints]) (by first | exact .inl rfl | exact .inr rfl) ?_
       (try simp only [go_sem])
       refine zh (hd) rfl (by simp only [go_sem,i64,ints]) (by simp only [go_sem,i64,ints]) (by first | exact .inl rfl | exact .inr rfl) ?_
       (try simp only [go_sem]);refine hK _ ?_;clear hK K;refine zw (zk [4]) ?_;simp only [go_sem];refine ze ?_;simp only [go_sem]
       simp [h3]
   · rw [decide_eq_false h2] at hb
     refine zq ?_
     refine zb fun K hK=>?_;simp only [go_sem]
     refine zh (ha) rfl (by simp only [go_sem,i64,ints]) (by simp only [go_sem,i64,ints]) (by first | exact .inl rfl | exact .inr rfl) ?_
     (try simp only [go_sem])
     refine zh (hb) rfl (by simp only [go_sem,i64,ints]) (by simp only [go_sem,i64,ints]) (by first | exact .inl rfl | exact .inr rfl) ?_
     (try simp only [go_sem]);refine hK _ ?_;clear hK K;refine zw (zk [4]) ?_;simp only [go_sem];refine ze ?_;simp only [go_sem]
     simp [h2]
 · rw [decide_eq_false h1] at ha
   refine zq ?_
   refine zb fun K hK=>?_;simp only [go_sem]
   refine zh (ha) rfl (by simp only [go_sem,i64,ints]) (by simp only [go_sem,i64,ints]) (by first | exact .inl rfl | exact .inr rfl) ?_
   (try simp only [go_sem]);refine hK _ ?_;clear hK K;refine zw (zk [4]) ?_;simp only [go_sem];refine ze ?_;simp only [go_sem]
   simp [h1]
def openR (r : Rk) (p : Ps) : Int:=if checkR r = 0 then (if posOk r p = true then 0 else 2) else checkR r
theorem open_ok (r : Rk) (p : Ps) (hw : WfL r.d r.aims) : ACalls Try.prog 60 [rkR r,psR p] (i64 (openR r p)):=by
 have hch:=acheck_ok r hw
 have hp:=isPos_ok r p
 unfold openR
 refine zas (rs:=[i64 (if checkR r = 0 then (if posOk r p = true then 0 else 2) else checkR r)]) [.tmp 4] Try.func60 rfl (by kernel_rfl) Try.ntmps60 rfl (by simp) rfl fun C vs=>?_
 refine zq ?_
 refine zb fun K hK=>?_;simp only [go_sem];refine hK _ ?_;clear hK K;refine zw (zfP 2 2 [i64 r.d,aimsR r.aims,i64 r.start,i64 r.out] (by omega) rfl rfl) ?_;refine zw (zfP 3 3 [i64 p.st,i64 p.left,i64 p.darts] (by omega) rfl rfl) ?_;refine zw (zk [2,3]) ?_;simp only [go_sem]
 refine zq ?_
 refine zb fun K hK=>?_;simp only [go_sem]
 refine zh (hch) rfl (by simp only [go_sem,i64,ints]) (by simp only [go_sem,i64,ints]) (by first | exact .inl rfl | exact .inr rfl) ?_
 (try simp only [go_sem]);refine hK _ ?_;clear hK K;refine zw (zk [2,3,5]) ?_;simp only [go_sem]
 by_cases h0 : checkR r = 0
 · have e0 : (checkR r == 0) = true:=by simpa using h0
   rw [if_pos h0]
   cases hP : posOk r p
   · rw [hP] at hp
     repeat refine zq ?_
     refine zb fun K hK=>?_;simp only [go_sem,e0]
     refine zh (hp) rfl (by simp only [go_sem,i64,ints]) (by simp only [go_sem,i64,ints]) (by first | exact .inl rfl | exact .inr rfl) ?_
     (try simp only [go_sem]);refine hK _ ?_;clear hK K;refine zw (zk [5,15]) ?_;simp only [go_sem]
     refine zc rfl (fun hc=>?_) (fun hc=>?_) <;> (try simp only [go_sem] at hc)
     refine zb fun K hK=>?_;simp only [go_sem];refine hK _ ?_;clear hK K;refine zw (zk [5]) ?_;simp only [go_sem]
     refine zq ?_
     refine zb fun K hK=>?_;simp only [go_sem];refine hK _ ?_;clear hK K;refine zw (zk [4]) ?_;simp only [go_sem];refine ze ?_;simp only [go_sem]
   · rw [hP] at hp
     repeat refine zq ?_
     refine zb fun K hK=>?_;simp only [go_sem,e0]
     refine zh (hp) rfl (by simp only [go_sem,i64,ints]) (by simp only [go_sem,i64,ints]) (by first | exact .inl rfl | exact .inr rfl) ?_
     (try simp only [go_sem]);refine hK _ ?_;clear hK K;refine zw (zk [5,15]) ?_;simp only [go_sem]
     refine zc rfl (fun hc=>?_) (fun hc=>?_) <;> (try simp only [go_sem] at hc)
     refine zx ?_
     try simp only [go_sem]
     refine zq ?_
     refine zb fun K hK=>?_;simp only [go_sem];refine hK _ ?_;clear hK K;refine zw (zk [4]) ?_;simp only [go_sem];refine ze ?_;simp only [go_sem]
     simp [h0]
 · have e0 : (checkR r == 0) = false:=by simpa using h0
   rw [if_neg h0]
   repeat refine zq ?_
   refine zb fun K hK=>?_;simp only [go_sem,e0];refine hK _ ?_;clear hK K;refine zw (zk [5,15]) ?_;simp only [go_sem]
   refine zc rfl (fun hc=>?_) (fun hc=>?_) <;> (try simp only [go_sem] at hc)
   refine zx ?_
   try simp only [go_sem]
   refine zq ?_
   refine zb fun K hK=>?_;simp only [go_sem];refine hK _ ?_;clear hK K;refine zw (zk [4]) ?_;simp only [go_sem];refine ze ?_;simp only [go_sem]
theorem min_ok (x : Int) (l : List Int) (hl : l.length ≤ 1000) : ACalls Try.prog 62 [ints (x :: l)] (i64 (l.foldl min x)):=by
 refine zas (rs:=[i64 (l.foldl min x)]) [.tmp 2] Try.func62 rfl (by kernel_rfl) Try.ntmps62 rfl (by simp) rfl fun C vs=>?_
 refine zq ?_
 refine zb fun K hK=>?_;simp only [go_sem];refine hK _ ?_;clear hK K;refine zw (zk [0]) ?_;simp only [go_sem]
 have e0 : decide ((l.length : Int) + 1 < 1) = false:=by simp;omega
 repeat refine zq ?_
 refine zb fun K hK=>?_;simp only [go_sem,List.length_map,e0]
 intro _
 refine hK _ ?_;clear hK K;refine zw (zk [0,7]) ?_;simp only [go_sem]
 refine zc rfl (fun hc=>?_) (fun hc=>?_) <;> (try simp only [go_sem] at hc)
 refine zx ?_
 try simp only [go_sem]
 refine zq ?_
 refine zb fun K hK=>?_;simp only [go_sem,List.length_map]
 refine ⟨by omega,?_⟩
 refine hK _ ?_;clear hK K;refine zw (zk [0,3]) ?_;simp only [go_sem]
 repeat refine zq ?_
 refine zb fun K hK=>?_;simp only [go_sem];refine hK _ ?_;clear hK K;refine zw (zk [0,3,4]) ?_;simp only [go_sem];refine zd ?_
 refine zup (n:=25) l.length (fun i vs=>[(0,.r (ints (x :: l))),(3,.r (i64 ((l.take i).foldl min x))),(4,.r (i64 ((i : Int) + 1)))]) (fun _=>[]) (fun _=>True) 0 (zfo [] ?_ ?_) (Nat.zero_le _) trivial ?_
 · try simp only [go_sem]
   try simp
 · try simp only [go_sem]
 intro i vs hi _
 by_cases hc0 : i < l.length
 · obtain ⟨y,hy⟩:=zol hc0
   have hsn : (l.take (i + 1)).foldl min x = min ((l.take i).foldl min x) y:=by rw [zto hy,List.foldl_append];rfl
   have e1 : decide ((i : Int) + 1 < (l.length : Int) + 1) = true:=by simp;omega
   repeat refine zq ?_
   refine zb fun K hK=>?_;simp only [go_sem,e1,List.length_map,hc0]
   intro _
   refine hK _ ?_;clear hK K;refine zw (zk [0,3,4,15]) ?_;simp only [go_sem]
   refine zc rfl (fun hc=>?_) (fun hc=>?_) <;> (try simp only [go_sem] at hc)
   refine zx ?_
   try simp only [go_sem]
   refine zq ?_
   refine zd ?_;refine zb fun K hK=>?_;simp only [go_sem,hy,hc0,List.length_map,List.length_cons,List.getElem?_cons_succ]
   refine ⟨by omega,?_⟩
   refine hK _ ?_;clear hK K;refine zw (zk [0,3,4]) ?_;simp only [go_sem]
   have w1 : IntKind.i64.wrap ((i : Int) + 1 + 1) = (i : Int) + 1 + 1:=by rw [zI] <;> omega
   refine zb fun K hK=>?_;simp only [go_sem,w1];refine hK _ ?_;clear hK K
   try simp only [go_sem]
   refine ⟨hc0,zfo [] ?_ ?_⟩
   · simp only [go_sem,hsn]
   · try simp only [go_sem]
 · have hie : i = l.length:=by omega
   subst hie
   have e1 : decide ((l.length : Int) + 1 < (l.length : Int) + 1) = false:=by simp
   repeat refine zq ?_
   refine zb fun K hK=>?_;simp only [go_sem,e1,List.length_map]
   intro _
   refine hK _ ?_;clear hK K;refine zw (zk [0,3,4,15]) ?_;simp only [go_sem]
   refine zc rfl (fun hc=>?_) (fun hc=>?_) <;> (try simp only [go_sem] at hc)
   refine zf ?_;simp only [go_sem]
   refine zq ?_
   refine zb fun K hK=>?_;simp only [go_sem];refine hK _ ?_;clear hK K;refine zw (zk [2]) ?_;simp only [go_sem];refine ze ?_;simp only [go_sem]
   simp
def atI (v : Int) : List Int → Nat → Int
 | [],_=>-1
 | x :: l,i=>if v = x then i else atI v l (i + 1)
theorem atI_step (v : Int) : ∀ (l : List Int) (i : Nat),(∀ x ∈ l.take i,v ≠ x) → atI v l 0 = atI v (l.drop i) i
 | l,0,_=>rfl
 | [],i + 1,_=>by simp [atI]
 | y :: l, i + 1, h => by
   have gen : ∀ (l : List Int) (i k : Nat),(∀ x ∈ l.take i,v ≠ x) → atI v l k = atI v (l.drop i) (k + i):=by
    intro l
    induction l with
    | nil=>intro i k _;simp [atI]
    | cons z l ih =>
      intro i k hz
      cases i with
      | zero=>rfl
      | succ i =>
        have h0:=hz z (by simp)
        rw [atI,if_neg h0,ih i (k + 1) (fun x hx=>hz x (by simp [hx]))]
        simp only [List.drop_succ_cons]
        congr 1;omega
   have:=gen (y :: l) (i + 1) 0 h
   rwa [Nat.zero_add] at this
theorem index_ok (v : Int) (l : List Int) (hl : l.length ≤ 1000) : ACalls Try.prog 63 [ints l,i64 v] (i64 (atI v l 0)):=by
 refine zas (rs:=[i64 (atI v l 0)]) [.tmp 4] Try.func63 rfl (by kernel_rfl) Try.ntmps63 rfl (by simp) rfl fun C vs=>?_
 refine zq ?_
 refine zb fun K hK=>?_;simp only [go_sem];refine hK _ ?_;clear hK K;refine zw (zk [0,1]) ?_;simp only [go_sem]
 repeat refine zq ?_
 refine zb fun K hK=>?_;simp only [go_sem,List.length_map]
 intro _
 refine hK _ ?_;clear hK K;refine zw (zk [0,1,7,8]) ?_;simp only [go_sem];refine zd ?_
 refine zup (n:=19) l.length (fun i vs=>[(0,.r (ints l)),(1,.r (i64 v)),(7,.r (i64 l.length)),(8,.r (i64 (i : Int)))]) (fun _=>[]) (fun i=>∀ x ∈ l.take i,v ≠ x) 0 (zfo [] ?_ ?_) (Nat.zero_le _) (by simp) ?_
 · try simp only [go_sem]
 · try simp only [go_sem]
 intro i vs hi hI
 by_cases hc0 : i < l.length
 · obtain ⟨y,hy⟩:=zol hc0
   have hst:=atI_step v l i hI
   rw [drop_of_opt hy] at hst
   refine zq ?_
   refine zb fun K hK=>?_;simp only [go_sem,hc0];refine hK _ ?_;clear hK K;refine zw (zk [0,1,7,8,9]) ?_;simp only [go_sem]
   refine zq ?_
   refine zc rfl (fun hc=>?_) (fun hc=>?_) <;> (try simp only [go_sem] at hc)
   refine zx ?_
   try simp only [go_sem]
   refine zq ?_
   refine zd ?_
   refine zq ?_
   refine zb fun K hK=>?_;simp only [go_sem];refine hK _ ?_;clear hK K;refine zw (zk [0,1,5,7,8]) ?_;simp only [go_sem]
   refine zq ?_
   refine zb fun K hK=>?_;simp only [go_sem,hy,hc0,List.length_map];refine hK _ ?_;clear hK K;refine zw (zk [0,1,5,7,8,16]) ?_;simp only [go_sem]
   by_cases hvy : v = y
   · have e1 : (v == y) = true:=by simpa using hvy
     rw [e1]
     refine zc rfl (fun hc=>?_) (fun hc=>?_) <;> (try simp only [go_sem] at hc)
     refine zq ?_
     refine zb fun K hK=>?_;simp only [go_sem];refine hK _ ?_;clear hK K;refine zw (zk [4]) ?_;simp only [go_sem];refine ze ?_;simp only [go_sem];rw [hst,atI,if_pos hvy]
   · have e1 : (v == y) = false:=by simpa using hvy
     rw [e1]
     refine zc rfl (fun hc=>?_) (fun hc=>?_) <;> (try simp only [go_sem] at hc)
     refine zx ?_
     try simp only [go_sem]
     refine zb fun K hK=>?_;simp only [go_sem];(try simp (disch:=omega) only [zI]);refine hK _ ?_;clear hK K
     try simp only [go_sem]
     refine ⟨hc0,?_,zfo [] ?_ ?_⟩
     · intro x hx
       rw [zto hy] at hx
       rcases List.mem_append.1 hx with hx | hx
       · exact hI x hx
       · simp at hx;subst hx;exact hvy
     · try simp only [go_sem]
     · try simp only [go_sem]
 · have hie : i = l.length:=by omega
   subst hie
   have hst:=atI_step v l l.length hI
   rw [List.drop_length] at hst
   refine zq ?_
   refine zb fun K hK=>?_;simp only [go_sem,Nat.lt_irrefl];refine hK _ ?_;clear hK K;refine zw (zk [0,1,7,8,9]) ?_;simp only [go_sem]
   refine zq ?_
   refine zc rfl (fun hc=>?_) (fun hc=>?_) <;> (try simp only [go_sem] at hc)
   refine zf ?_;simp only [go_sem]
   refine zq ?_
   refine zb fun K hK=>?_;simp only [go_sem];refine hK _ ?_;clear hK K;refine zw (zk [4]) ?_;simp only [go_sem];refine ze ?_;simp only [go_sem]
   rw [hst];rfl
def aimL (l : List Int) : Int × Int × Int:=if leastA l = 2000000000 then (0,0,7) else (atI (leastA l) l 0,leastA l,0)
def aimQ (r : Rk) (p : Ps) : Int × Int × Int:=if openR r p = 0 then aimL (At.atV r false (tabT r false) p.st.toNat p.left.toNat (p.darts - 1).toNat) else (0,0,openR r p)
theorem openR_zero {r : Rk} {p : Ps} (h : openR r p = 0) : ROk r ∧ posOk r p = true:=by
 unfold openR at h
 by_cases h0 : checkR r = 0
 · rw [if_pos h0] at h
   refine ⟨(checkR_zero h0).2,?_⟩
   cases hp : posOk r p
   · rw [hp] at h;simp at h
   · rfl
 · rw [if_neg h0] at h;exact (h0 h).elim
theorem aim_ok (r : Rk) (p : Ps) (hw : WfL r.d r.aims) : ACalls Try.prog 26 [rkR r,psR p] (.tu [i64 (aimQ r p).1,i64 (aimQ r p).2.1,i64 (aimQ r p).2.2]):=by
 have hop:=open_ok r p hw
 refine zas (rs:=[i64 (aimQ r p).1,i64 (aimQ r p).2.1,i64 (aimQ r p).2.2]) [.tmp 4,.tmp 5,.tmp 6] Try.func26 rfl (by kernel_rfl) Try.ntmps26 rfl (by simp) rfl fun C vs=>?_
 refine zq ?_
 refine zb fun K hK=>?_;simp only [go_sem];refine hK _ ?_;clear hK K;refine zw (zfP 2 2 [i64 r.d,aimsR r.aims,i64 r.start,i64 r.out] (by omega) rfl rfl) ?_;refine zw (zfP 3 3 [i64 p.st,i64 p.left,i64 p.darts] (by omega) rfl rfl) ?_;refine zw (zk [2,3]) ?_;simp only [go_sem]
 repeat refine zq ?_
 refine zb fun K hK=>?_;simp only [go_sem]
 refine zh (hop) rfl (by simp only [go_sem,i64,ints]) (by simp only [go_sem,i64,ints]) (by first | exact .inl rfl | exact .inr rfl) ?_
 (try simp only [go_sem]);refine hK _ ?_;clear hK K;refine zw (zk [2,3,7]) ?_;simp only [go_sem]
 refine zq ?_
 refine zb fun K hK=>?_;simp only [go_sem];refine hK _ ?_;clear hK K;refine zw (zk [2,3,7,13]) ?_;simp only [go_sem]
 by_cases h0 : openR r p = 0
 · have e0 : (openR r p != 0) = false:=by simp [h0]
   have hA : aimQ r p = aimL (At.atV r false (tabT r false) p.st.toNat p.left.toNat (p.darts - 1).toNat):=by unfold aimQ;rw [if_pos h0]
   obtain ⟨hr,hp⟩:=openR_zero h0
   simp only [posOk,decide_eq_true_eq] at hp
   have hlg:=lowG_le r.out
   have hrs:=hr.start
   have hat:=At.at_ok hr false p.st.toNat p.left.toNat (p.darts - 1).toNat (by omega) (by omega) (by omega) (by omega)
   have g1 : ((p.st.toNat : Nat) : Int) = p.st:=by omega
   have g2 : ((p.left.toNat : Nat) : Int) = p.left:=by omega
   have g3 : (((p.darts - 1).toNat : Nat) : Int) + 1 = p.darts:=by omega
   rw [g1,g2,g3] at hat
   have hlen : (At.atV r false (tabT r false) p.st.toNat p.left.toNat (p.darts - 1).toNat).length = r.aims.length:=by simp [At.atV]
   have htt:=tab_eq hr false (cntA r) (Nat.le_refl _)
   have hLv : ∀ y ∈ At.atV r false (tabT r false) p.st.toNat p.left.toNat (p.darts - 1).toNat,VOk y:=fun y hy=>by
    obtain ⟨a,ha,rfl⟩:=List.mem_map.1 hy
    exact meanA_vok (getD_vok htt.2.2 _) (valA_vok hr htt.2.2 (getD_vok htt.2.2 _) _) (hr.aims a ha)
   rw [hA,e0]
   generalize At.atV r false (tabT r false) p.st.toNat p.left.toNat (p.darts - 1).toNat = L at *
   have hLl : L.length ≤ 20:=by rw [hlen];exact hr.len
   obtain ⟨x,L',rfl⟩ : ∃ x L',L = x :: L':=by
    cases L with
    | nil=>exact absurd (List.length_eq_zero_iff.1 hlen.symm) hr.ne
    | cons x L'=>exact ⟨x,L',rfl⟩
   have hmin:=min_ok x L' (by simp at hLl;omega)
   have hleast : leastA (x :: L') = min 2000000000 (L'.foldl min x):=by
    unfold leastA
    simp only [List.foldl_cons]
    have : ∀ (l : List Int) (a b : Int),l.foldl min (min a b) = min a (l.foldl min b):=by
     intro l
     induction l with
     | nil=>intro a b;rfl
     | cons y l ih=>intro a b;simp only [List.foldl_cons];rw [← ih];congr 1;omega
    exact this L' 2000000000 x
   refine zc rfl (fun hc=>?_) (fun hc=>?_) <;> (try simp only [go_sem] at hc)
   refine zx ?_
   try simp only [go_sem]
   refine zq ?_
   refine zb fun K hK=>?_;simp only [go_sem]
   refine zh (hat) rfl (by simp only [go_sem,i64,ints]) (by simp only [go_sem,i64,ints]) (by first | exact .inl rfl | exact .inr rfl) ?_
   (try simp only [go_sem]);refine hK _ ?_;clear hK K;refine zw (zk [8]) ?_;simp only [go_sem]
   refine zq ?_
   refine zb fun K hK=>?_;simp only [go_sem]
   refine zh (hmin) rfl (by simp only [go_sem,i64,ints]) (by simp only [go_sem,i64,ints]) (by first | exact .inl rfl | exact .inr rfl) ?_
   (try simp only [go_sem]);refine hK _ ?_;clear hK K;refine zw (zk [5,8]) ?_;simp only [go_sem]
   have hx:=hLv x (by simp)
   have hfm:=foldl_min L' x
   have hm : leastA (x :: L') = L'.foldl min x:=by rw [hleast];unfold VOk at hx;omega
   have hix:=index_ok (leastA (x :: L')) (x :: L') (by omega)
   rw [← hm]
   unfold aimL
   generalize leastA (x :: L') = m at *
   repeat refine zq ?_
   refine zb fun K hK=>?_;simp only [go_sem];refine hK _ ?_;clear hK K;refine zw (zk [5,8,21]) ?_;simp only [go_sem]
   by_cases hN : m = 2000000000
   · have eN : (m == 2000000000) = true:=by simpa using hN
     rw [eN,if_pos hN]
     refine zc rfl (fun hc=>?_) (fun hc=>?_) <;> (try simp only [go_sem] at hc)
     refine zq ?_
     refine zb fun K hK=>?_;simp only [go_sem];refine hK _ ?_;clear hK K;refine zw (zk [4,5,6]) ?_;simp only [go_sem];refine ze ?_;simp only [go_sem]
   · have eN : (m == 2000000000) = false:=by simpa using hN
     rw [eN,if_neg hN]
     refine zc rfl (fun hc=>?_) (fun hc=>?_) <;> (try simp only [go_sem] at hc)
     refine zx ?_
     try simp only [go_sem]
     refine zq ?_
     refine zb fun K hK=>?_;simp only [go_sem]
     refine zh (hix) rfl (by simp only [go_sem,i64,ints]) (by simp only [go_sem,i64,ints]) (by first | exact .inl rfl | exact .inr rfl) ?_
     (try simp only [go_sem]);refine hK _ ?_;clear hK K;refine zw (zk [4,5,6]) ?_;simp only [go_sem];refine ze ?_;simp only [go_sem]
 · have e0 : (openR r p != 0) = true:=by simpa using h0
   have hA : aimQ r p = (0,0,openR r p):=by unfold aimQ;rw [if_neg h0]
   rw [hA,e0]
   refine zc rfl (fun hc=>?_) (fun hc=>?_) <;> (try simp only [go_sem] at hc)
   refine zq ?_
   refine zb fun K hK=>?_;simp only [go_sem];refine hK _ ?_;clear hK K;refine zw (zk [4,5,6]) ?_;simp only [go_sem];refine ze ?_;simp only [go_sem]
end Go.Proofs.Ytgfbenanljjgaaa.Du.Th.Ai

namespace Go.Proofs.Ytgfbenanljjgaaa.Du.Th
open Go Go.Oc
set_option maxRecDepth 8000
instance : DecidableEq Bd:=fun a b=>decidable_of_iff (a.b = b.b ∧ a.lo = b.lo ∧ a.hi = b.hi) (by cases a;cases b;simp)
instance : DecidableEq Am:=fun a b=>decidable_of_iff (a.at_ = b.at_ ∧ a.beds = b.beds) (by cases a;cases b;simp)
theorem any_step {α : Type} {p : α → Bool} {l : List α} {k : Nat} {y : α} (hy : l[k]? = some y) : (l.take (k + 1)).any p = ((l.take k).any p || p y):=by rw [zto hy];simp
theorem any_of {α : Type} {p : α → Bool} {l : List α} {k : Nat} {y : α} (hy : l[k]? = some y) (h : p y = true) : l.any p = true:=List.any_eq_true.2 ⟨y,zmo hy,h⟩
theorem alike_ok (a b : List Int) : ACalls Try.prog 23 [ints a,ints b] (.bo (decide (a = b))):=by
 refine zas (rs:=[.bo (decide (a = b))]) [.tmp 4] Try.func23 rfl (by kernel_rfl) Try.ntmps23 rfl (by simp) rfl fun C vs=>?_
 refine zq ?_
 refine zb fun K hK=>?_;simp only [go_sem];refine hK _ ?_;clear hK K;refine zw (zk [0,1]) ?_;simp only [go_sem]
 repeat refine zq ?_
 refine zb fun K hK=>?_;simp only [go_sem]
 intro hla hlb
 by_cases h1 : a.length = b.length
 case neg =>
  have e4 : ((a.length : Int) != b.length) = true:=by simp;omega
  rw [e4]
  refine hK _ ?_;clear hK K
  refine zc rfl (fun hc=>?_) (fun hc=>?_) <;> (try simp only [go_sem] at hc)
  refine zq ?_
  refine zb fun K hK=>?_;simp only [go_sem];refine hK _ ?_;clear hK K;refine ze ?_;simp only [go_sem]
  simp
  exact fun h=>h1 (by rw [h])
 have e4 : ((a.length : Int) != b.length) = false:=by simp [h1]
 rw [e4]
 refine hK _ ?_;clear hK K;refine zw (zk [0,1,10]) ?_;simp only [go_sem]
 refine zc rfl (fun hc=>?_) (fun hc=>?_) <;> (try simp only [go_sem] at hc)
 refine zx ?_
 try simp only [go_sem]
 repeat refine zq ?_
 refine zb fun K hK=>?_;simp only [go_sem];refine hK _ ?_;clear hK K;refine zw (zk [0,1,5]) ?_;simp only [go_sem];refine zd ?_
 refine zup (n:=26) a.length (fun i vs=>[(0,.r (ints a)),(1,.r (ints b)),(5,.r (i64 i))])
  (fun i=>[]) (fun i=>a.take i = b.take i) 0 (zfo [] ?_ ?_) (Nat.zero_le _) (by simp) ?_
 · try simp only [go_sem]
 · try simp only [go_sem]
 · intro i vs hi hI
   repeat refine zq ?_
   refine zb fun K hK=>?_;simp only [go_sem]
   intro _
   refine hK _ ?_;clear hK K;refine zw (zk [0,1,5,14]) ?_;simp only [go_sem]
   refine zc rfl (fun hc=>?_) (fun hc=>?_) <;> (try simp only [go_sem] at hc)
   · skip
     have hci : i < a.length:=by omega
     have hc2 : i < b.length:=by omega
     obtain ⟨u,hu⟩:=zol hci
     obtain ⟨v,hv⟩:=zol hc2
     refine zx ?_
     try simp only [go_sem]
     refine zq ?_
     refine zd ?_
     refine zq ?_
     refine zg follows (by decide +kernel) (by kernel_rfl) fun K hK=>?_;simp only [go_sem,hu,hv,hci,hc2];refine hK _ ?_;clear hK K
     by_cases huv : u = v
     · have e6 : (u != v) = false:=by simp [huv]
       rw [e6]
       refine zc rfl (fun hc=>?_) (fun hc=>?_) <;> (try simp only [go_sem] at hc)
       refine zx ?_
       try simp only [go_sem]
       refine zb fun K hK=>?_;simp only [go_sem];(try simp (disch:=omega) only [zI]);refine hK _ ?_;clear hK K
       try simp only [go_sem]
       refine ⟨hci,?_,zfo [] ?_ ?_⟩
       · rw [zto hu,zto hv,hI,huv]
       · try simp only [go_sem]
       · try simp only [go_sem]
     · have e6 : (u != v) = true:=by simp [huv]
       rw [e6]
       refine zc rfl (fun hc=>?_) (fun hc=>?_) <;> (try simp only [go_sem] at hc)
       refine zq ?_
       refine zb fun K hK=>?_;simp only [go_sem];refine hK _ ?_;clear hK K;refine ze ?_;simp only [go_sem]
       simp
       rintro rfl
       rw [hu] at hv
       injection hv with hv
       exact huv hv
   · skip
     refine zf ?_;simp only [go_sem]
     refine zq ?_
     refine zb fun K hK=>?_;simp only [go_sem];refine hK _ ?_;clear hK K;refine zw (zk [4]) ?_;simp only [go_sem];refine ze ?_;simp only [go_sem]
     have : i = a.length:=by omega
     subst this
     have hab : a = b:=by rwa [List.take_length,h1,List.take_length] at hI
     simp [hab]
end Go.Proofs.Ytgfbenanljjgaaa.Du.Th

namespace Go.Proofs.Ytgfbenanljjgaaa.Du.Th.Ai
open Go Go.Oc
set_option maxRecDepth 8000
set_option maxHeartbeats 8000000
def dblB (b : Bool) : List Bd:=if b then [⟨0,0,1⟩,⟨101,0,1⟩,⟨201,1,1⟩] else [⟨0,1,1⟩,⟨201,1,1⟩]
def dbl (st : Int) (b : Bool) : Rk:=⟨2,[⟨201,dblB b⟩],st,1⟩
theorem double_ok (st : Int) (b : Bool) : ACalls Try.prog 53 [i64 st,.bo b] (rkR (dbl st b)):=by
 refine zas (rs:=[rkR (dbl st b)]) [.cell 4 27] Try.func53 rfl (by kernel_rfl) Try.ntmps53 rfl (by simp) rfl fun C vs=>?_
 refine zq ?_
 refine zb fun K hK=>?_;simp only [go_sem];refine hK _ ?_;clear hK K;refine zw (zk [0,1,4]) ?_;simp only [go_sem]
 cases b
 · refine zq ?_
   refine zb fun K hK=>?_;simp only [go_sem];refine hK _ ?_;clear hK K;refine zw (zk [0,1,4,5]) ?_;simp only [go_sem]
   repeat refine zq ?_
   refine zb fun K hK=>?_;simp only [go_sem];refine hK _ ?_;clear hK K;refine zw (zk [0,4,5,11]) ?_;simp only [go_sem]
   refine zc rfl (fun hc=>?_) (fun hc=>?_) <;> (try simp only [go_sem] at hc)
   refine zx ?_
   try simp only [go_sem]
   refine zq ?_
   refine zb fun K hK=>?_;simp only [go_sem];refine hK _ ?_;clear hK K;refine zw (zk [4]) ?_;simp only [go_sem];refine ze ?_;simp only [go_sem];exact ⟨rfl,rfl,rfl,rfl⟩
 · refine zq ?_
   refine zb fun K hK=>?_;simp only [go_sem];refine hK _ ?_;clear hK K;refine zw (zk [0,1,4,5]) ?_;simp only [go_sem]
   repeat refine zq ?_
   refine zb fun K hK=>?_;simp only [go_sem];refine hK _ ?_;clear hK K;refine zw (zk [0,4,5,11]) ?_;simp only [go_sem]
   refine zc rfl (fun hc=>?_) (fun hc=>?_) <;> (try simp only [go_sem] at hc)
   refine zb fun K hK=>?_;simp only [go_sem];refine hK _ ?_;clear hK K;refine zw (zk [0,4,5]) ?_;simp only [go_sem]
   refine zq ?_
   refine zb fun K hK=>?_;simp only [go_sem];refine hK _ ?_;clear hK K;refine zw (zk [4]) ?_;simp only [go_sem];refine ze ?_;simp only [go_sem];exact ⟨rfl,rfl,rfl,rfl⟩
theorem dbl_ok32 : ROk (dbl 3 false):=(checkR_zero (by decide +kernel)).2
theorem dbl_ok22 : ROk (dbl 2 false):=(checkR_zero (by decide +kernel)).2
theorem dbl_ok2t : ROk (dbl 2 true):=(checkR_zero (by decide +kernel)).2
theorem vok_list {l : List Int} (h : l.all (fun x=>decide (0 ≤ x) && decide (x ≤ 1000000000) || decide (x = 2000000000)) = true) : ∀ x ∈ l,VOk x:=fun x hx=>by
 have:=List.all_eq_true.1 h x hx
 simp at this
 exact this
theorem u3 : tabT (dbl 3 false) false = [0,0,1142858,2000000000]:=by
 have h1 : numA (dbl 3 false) false [0,0,0,0] 2 = 1142858:=numA_upper dbl_ok32 (vok_list (by decide)) (by decide) (by decide) (by omega) (by decide +kernel) (.inr (by decide +kernel))
 have h2 : numA (dbl 3 false) false [0,0,1142858,0] 3 = 2000000000:=numA_never dbl_ok32 (vok_list (by decide)) (by decide) (by decide) (by decide +kernel)
 show (([0,0,0,0] : List Int).set 2 (numA (dbl 3 false) false [0,0,0,0] 2)).set 3 (numA (dbl 3 false) false (([0,0,0,0] : List Int).set 2 (numA (dbl 3 false) false [0,0,0,0] 2)) 3) = _
 rw [h1]
 show ([0,0,1142858,0] : List Int).set 3 (numA (dbl 3 false) false [0,0,1142858,0] 3) = _
 rw [h2];rfl
theorem l3 : tabT (dbl 3 false) true = [0,0,1142857,1000000000]:=by
 have h1 : numA (dbl 3 false) true [0,0,0,0] 2 = 1142857:=numA_lower dbl_ok32 (vok_list (by decide)) (by decide) (by decide) (by omega) (.inr (by decide +kernel)) (.inr (by decide +kernel))
 have h2 : numA (dbl 3 false) true [0,0,1142857,0] 3 = 1000000000:=numA_lower dbl_ok32 (vok_list (by decide)) (by decide) (by decide) (by omega) (.inr (by decide +kernel)) (.inl rfl)
 show (([0,0,0,0] : List Int).set 2 (numA (dbl 3 false) true [0,0,0,0] 2)).set 3 (numA (dbl 3 false) true (([0,0,0,0] : List Int).set 2 (numA (dbl 3 false) true [0,0,0,0] 2)) 3) = _
 rw [h1]
 show ([0,0,1142857,0] : List Int).set 3 (numA (dbl 3 false) true [0,0,1142857,0] 3) = _
 rw [h2];rfl
theorem u2t : tabT (dbl 2 true) false = [0,0,2000000]:=by
 have h1 : numA (dbl 2 true) false [0,0,0] 2 = 2000000:=numA_upper dbl_ok2t (vok_list (by decide)) (by decide) (by decide) (by omega) (by decide +kernel) (.inr (by decide +kernel))
 show ([0,0,0] : List Int).set 2 (numA (dbl 2 true) false [0,0,0] 2) = _
 rw [h1];rfl
theorem l2t : tabT (dbl 2 true) true = [0,0,1142857]:=by
 have h1 : numA (dbl 2 true) true [0,0,0] 2 = 1142857:=numA_lower dbl_ok2t (vok_list (by decide)) (by decide) (by decide) (by omega) (.inr (by decide +kernel)) (.inr (by decide +kernel))
 show ([0,0,0] : List Int).set 2 (numA (dbl 2 true) true [0,0,0] 2) = _
 rw [h1];rfl
theorem u2 : tabT (dbl 2 false) false = [0,0,1142858]:=by
 have h1 : numA (dbl 2 false) false [0,0,0] 2 = 1142858:=numA_upper dbl_ok22 (vok_list (by decide)) (by decide) (by decide) (by omega) (by decide +kernel) (.inr (by decide +kernel))
 show ([0,0,0] : List Int).set 2 (numA (dbl 2 false) false [0,0,0] 2) = _
 rw [h1];rfl
theorem aim2 : aimQ (dbl 2 false) ⟨2,2,1⟩ = (0,571429,0):=by
 unfold aimQ
 rw [u2]
 decide +kernel
theorem nev3 : nevL (dbl 3 false) (tabT (dbl 3 false) false) (cntA (dbl 3 false)) = [3]:=by
 rw [u3]
 decide +kernel
theorem wf_dbl (st : Int) (b : Bool) : WfL (dbl st b).d (dbl st b).aims:=by
 refine ⟨⟨by show (_ : Int) ≤ 2;omega,by show (2 : Int) ≤ _;omega⟩,fun a ha=>?_⟩
 simp only [dbl,List.mem_singleton] at ha
 subst ha
 refine ⟨⟨by show (_ : Int) ≤ 201;omega,by show (201 : Int) ≤ _;omega⟩,?_⟩
 cases b <;> intro x hx <;> simp [dblB] at hx <;> (first | (rcases hx with rfl | rfl | rfl) | (rcases hx with rfl | rfl)) <;> exact ⟨⟨by simp,by simp⟩,⟨by simp,by simp⟩,⟨by simp,by simp⟩⟩
theorem table_at {r : Rk} {u l : List Int} (hw : WfL r.d r.aims) (h0 : checkR r = 0) (hu : tabT r false = u) (hl : tabT r true = l) : ACalls Try.prog 17 [rkR r] (.tu [ints u,ints l,i64 0]):=by
 have:=table_ok r hw
 rw [h0,if_pos rfl,if_pos rfl,hu,hl] at this
 exact this
theorem known_ok : ACalls Try.prog 14 [] (.bo true):=by
 have d3:=double_ok 3 false
 have d2t:=double_ok 2 true
 have d2:=double_ok 2 false
 have t3:=table_at (wf_dbl 3 false) (by decide +kernel) u3 l3
 have t2:=table_at (wf_dbl 2 true) (by decide +kernel) u2t l2t
 have a2:=aim_ok (dbl 2 false) ⟨2,2,1⟩ (wf_dbl 2 false)
 rw [aim2] at a2
 have n3:=never_ok (dbl 3 false) (wf_dbl 3 false)
 rw [nev3,show checkR (dbl 3 false) = 0 by decide +kernel,if_pos rfl] at n3
 have k1:=alike_ok [0,0,1142858,2000000000] [0,0,1142858,2000000000]
 have k2:=alike_ok [0,0,1142857,1000000000] [0,0,1142857,1000000000]
 have k3:=alike_ok [0,0,2000000] [0,0,2000000]
 have k4:=alike_ok [0,0,1142857] [0,0,1142857]
 have k5:=alike_ok [3] [3]
 rw [decide_eq_true rfl] at k1 k2 k3 k4 k5
 generalize dbl 3 false = R3 at *
 generalize dbl 2 true = R2t at *
 generalize dbl 2 false = R2 at *
 refine zas (rs:=[.bo true]) [.tmp 0] Try.func14 rfl (by kernel_rfl) Try.ntmps14 rfl (by simp) rfl fun C vs=>?_
 refine zq ?_
 refine zb fun K hK=>?_;simp only [go_sem];refine hK _ ?_;clear hK K
 refine zq ?_
 refine zb fun K hK=>?_;simp only [go_sem]
 refine zh (d3) rfl (by simp only [go_sem,i64,ints]) (by simp only [go_sem,i64,ints]) (by first | exact .inl rfl | exact .inr rfl) ?_
 (try simp only [go_sem])
 refine zh (t3) rfl (by simp only [go_sem,i64,ints]) (by simp only [go_sem,i64,ints]) (by first | exact .inl rfl | exact .inr rfl) ?_
 (try simp only [go_sem]);refine hK _ ?_;clear hK K;refine zw (zk [1,2,3]) ?_;simp only [go_sem]
 refine zq ?_
 refine zb fun K hK=>?_;simp only [go_sem]
 refine zh (d2t) rfl (by simp only [go_sem,i64,ints]) (by simp only [go_sem,i64,ints]) (by first | exact .inl rfl | exact .inr rfl) ?_
 (try simp only [go_sem])
 refine zh (t2) rfl (by simp only [go_sem,i64,ints]) (by simp only [go_sem,i64,ints]) (by first | exact .inl rfl | exact .inr rfl) ?_
 (try simp only [go_sem]);refine hK _ ?_;clear hK K;refine zw (zk [1,2,3,4,5,6]) ?_;simp only [go_sem]
 refine zq ?_
 refine zb fun K hK=>?_;simp only [go_sem]
 refine zh (d2) rfl (by simp only [go_sem,i64,ints]) (by simp only [go_sem,i64,ints]) (by first | exact .inl rfl | exact .inr rfl) ?_
 (try simp only [go_sem])
 refine zh (a2) rfl (by simp only [go_sem,i64,ints]) (by simp only [go_sem,i64,ints]) (by first | exact .inl rfl | exact .inr rfl) ?_
 (try simp only [go_sem]);refine hK _ ?_;clear hK K;refine zw (zk [1,2,3,4,5,6,7,8,9]) ?_;simp only [go_sem]
 refine zq ?_
 refine zb fun K hK=>?_;simp only [go_sem]
 refine zh (d3) rfl (by simp only [go_sem,i64,ints]) (by simp only [go_sem,i64,ints]) (by first | exact .inl rfl | exact .inr rfl) ?_
 (try simp only [go_sem])
 refine zh (n3) rfl (by simp only [go_sem,i64,ints]) (by simp only [go_sem,i64,ints]) (by first | exact .inl rfl | exact .inr rfl) ?_
 (try simp only [go_sem]);refine hK _ ?_;clear hK K;refine zw (zk [1,2,3,4,5,6,7,8,9,10,11]) ?_;simp only [go_sem]
 refine zq ?_
 refine zb fun K hK=>?_;simp only [go_sem]
 refine zh (k1) rfl (by simp only [go_sem,i64,ints]) (by simp only [go_sem,i64,ints]) (by first | exact .inl rfl | exact .inr rfl) ?_
 (try simp only [go_sem])
 refine zh (k2) rfl (by simp only [go_sem,i64,ints]) (by simp only [go_sem,i64,ints]) (by first | exact .inl rfl | exact .inr rfl) ?_
 (try simp only [go_sem])
 refine zh (k3) rfl (by simp only [go_sem,i64,ints]) (by simp only [go_sem,i64,ints]) (by first | exact .inl rfl | exact .inr rfl) ?_
 (try simp only [go_sem])
 refine zh (k4) rfl (by simp only [go_sem,i64,ints]) (by simp only [go_sem,i64,ints]) (by first | exact .inl rfl | exact .inr rfl) ?_
 (try simp only [go_sem])
 refine zh (k5) rfl (by simp only [go_sem,i64,ints]) (by simp only [go_sem,i64,ints]) (by first | exact .inl rfl | exact .inr rfl) ?_
 (try simp only [go_sem]);refine hK _ ?_;clear hK K;refine zw (zk [0]) ?_;simp only [go_sem];refine ze ?_;simp only [go_sem]
end Go.Proofs.Ytgfbenanljjgaaa.Du.Th.Ai

namespace Go.Oc
open Go Go.RowKit
end Go.Oc
namespace Go.Proofs.Ytgfbenanljjgaaa.Du.Th.Ai
open Go Go.Oc
set_option maxRecDepth 8000
set_option maxHeartbeats 8000000
end Go.Proofs.Ytgfbenanljjgaaa.Du.Th.Ai

namespace Go.Proofs.Ytgfbenanljjgaaa.Du.Th.Ai
open Go Go.Oc
set_option maxRecDepth 8000
theorem nextA_cg {out own left : Int} {f g : Int → Int} (h : ∀ x,lowG out ≤ x → x ≤ left → f x = g x) {b : Int} (hb : 0 ≤ b ∧ b ≤ 499) : nextA out own left f b = nextA out own left g b:=by
 have hs:=score_nn hb
 unfold nextA
 split
 · rfl
 · split
   · rfl
   · exact h _ (by omega) (by omega)
theorem meanA_cg {r : Rk} {s : Bool} {own left : Int} {f g : Int → Int} (h : ∀ x,lowG r.out ≤ x → x ≤ left → f x = g x) {a : Am} (ha : AOk r.d a.beds) : meanA r s own left f a = meanA r s own left g a:=by
 unfold meanA
 congr 1
 exact List.map_congr_left fun b hb=>nextA_cg h (ha.bed b hb)
theorem valA_cg {r : Rk} (hr : ROk r) {s : Bool} {T U : List Int} {own : Int} {st : Nat} (h : ∀ x,x ≤ st → T.getD x 0 = U.getD x 0) : ∀ (k : Nat) (left : Int),lowG r.out ≤ left → left ≤ st → valA r s T own k left = valA r s U own k left
 | 0,left,h1,h2=>h _ (by omega)
 | k + 1, left, h1, h2 => by
   unfold valA
   congr 1
   exact List.map_congr_left fun a ha=>meanA_cg (fun x q1 q2=>valA_cg hr h k x q1 (by omega)) (hr.aims a ha)
theorem holds_cg {r : Rk} (hr : ROk r) {s : Bool} {T U : List Int} {st : Nat} (hlo : lowG r.out ≤ st) (h : ∀ x,x ≤ st → T.getD x 0 = U.getD x 0) : zhA r s T st = zhA r s U st:=by
 have h1:=h st (Nat.le_refl _)
 have h2:=valA_cg hr (s:=s) (own:=U.getD st 0) h 3 st hlo (Int.le_refl _)
 unfold zhA
 rw [h1,h2]
theorem numA_false {r : Rk} (hr : ROk r) {nums : List Int} {st : Nat} (hn : ∀ x ∈ nums,VOk x) (hst : st < nums.length) (hlo : lowG r.out ≤ st) :
 numA r false nums st = 2000000000 ∨ ((1000000 ≤ numA r false nums st ∧ numA r false nums st ≤ 1000000000) ∧ zhA r false (nums.set st (numA r false nums st)) st = true ∧ zhA r false (nums.set st (numA r false nums st - 1)) st = false):=by
 obtain ⟨g1,g2,g3,g4⟩:=srch_spec (fun k=>zhA r false (nums.set st (1000000 + (k : Int))) st) 0 999000001 (by omega) fun a b q1 q2 q3 q4=>holds_up hr hn hst hlo (by omega) (by omega) (by omega) q4
 unfold numA
 simp only [Bool.false_eq_true,if_false]
 generalize srch (fun k=>zhA r false (nums.set st (1000000 + (k : Int))) st) 0 999000001 = k at *
 by_cases h : 1000000000 < 1000000 + (k : Int)
 · left;rw [if_pos h]
 · right
   rw [if_neg h]
   refine ⟨by omega,g4 (by omega),?_⟩
   by_cases hk : k = 0
   · subst hk
     have hv:=valA_le hr (s:=false) (set_vok hn st (n:=999999) (.inl ⟨by omega,by omega⟩)) (own:=999999) (.inl ⟨by omega,by omega⟩) 3 st
     have e : (1000000 : Int) + ((0 : Nat) : Int) - 1 = 999999:=by omega
     rw [e]
     unfold zhA
     simp only [Bool.false_eq_true,if_false,getD_set hst,if_true];rw [Bool.or_eq_false_iff,decide_eq_false_iff_not,decide_eq_false_iff_not]
     omega
   · have:=g3 (k - 1) (by omega) (by omega)
     have e : (1000000 : Int) + ((k - 1 : Nat) : Int) = 1000000 + (k : Int) - 1:=by omega
     rw [e] at this
     exact this
theorem numA_true {r : Rk} (hr : ROk r) {nums : List Int} {st : Nat} (hn : ∀ x ∈ nums,VOk x) (hst : st < nums.length) (hlo : lowG r.out ≤ st) :
 (0 ≤ numA r true nums st ∧ numA r true nums st ≤ 1000000000) ∧ zhA r true (nums.set st (numA r true nums st)) st = true ∧ (numA r true nums st < 1000000000 → zhA r true (nums.set st (numA r true nums st + 1)) st = false):=by
 obtain ⟨g1,g2,g3,g4⟩:=srch_spec (fun k=>!zhA r true (nums.set st ((k : Int) + 1)) st) 0 1000000000 (by omega) fun a b q1 q2 q3 q4=>by
  simp only [Bool.not_eq_true'] at q4 ⊢
  cases hb : zhA r true (nums.set st ((b : Int) + 1)) st
  · rfl
  · have:=holds_down hr hn hst hlo (a:=(a : Int) + 1) (by omega) (by omega) (by omega) hb
    rw [q4] at this;cases this
 unfold numA
 simp only [if_true]
 generalize srch (fun k=>!zhA r true (nums.set st ((k : Int) + 1)) st) 0 1000000000 = k at *
 refine ⟨by omega,?_,fun h=>?_⟩
 · by_cases hk : k = 0
   · subst hk
     have hv:=valA_le hr (s:=true) (set_vok hn st (n:=0) (.inl ⟨by omega,by omega⟩)) (own:=0) (.inl ⟨by omega,by omega⟩) 3 st
     show zhA r true (nums.set st 0) st = true
     unfold zhA
     simp only [if_true,getD_set hst];rw [decide_eq_true_eq]
     omega
   · have:=g3 (k - 1) (by omega) (by omega)
     have e : ((k - 1 : Nat) : Int) + 1 = (k : Int):=by omega
     simp only [e,Bool.not_eq_false'] at this
     exact this
 · have:=g4 (by omega)
   simpa using this
theorem tabA_pre {r : Rk} (s : Bool) (i : Nat) (x : Nat) (hx : x ≤ (lowG r.out).toNat + i) : ∀ m,(tabA r s (i + 1 + m)).getD x 0 = (tabA r s (i + 1)).getD x 0
 | 0=>rfl
 | m + 1 => by
   rw [← tabA_pre s i x hx m]
   show ((tabA r s (i + 1 + m)).set ((lowG r.out).toNat + (i + 1 + m)) _).getD x 0 = _
   rw [List.getD_eq_getElem?_getD,List.getElem?_set_ne (by omega),← List.getD_eq_getElem?_getD]
theorem tabT_at {r : Rk} (hr : ROk r) (s : Bool) {st : Nat} (h1 : lowG r.out ≤ st) (h2 : (st : Int) ≤ r.start) : ∃ nums : List Int,(∀ x ∈ nums,VOk x) ∧ st < nums.length ∧ (tabT r s).getD st 0 = numA r s nums st ∧ (∀ v,∀ x,x ≤ st → ((tabT r s).set st v).getD x 0 = (nums.set st v).getD x 0) ∧
 (∀ x,x ≤ st → (tabT r s).getD x 0 = (nums.set st (numA r s nums st)).getD x 0):=by
 have hl:=lowG_le r.out
 obtain ⟨i,hi⟩ : ∃ i,st = (lowG r.out).toNat + i:=⟨st - (lowG r.out).toNat,by omega⟩
 have hic : i < cntA r:=by unfold cntA;omega
 obtain ⟨_,e2,e3⟩:=tab_eq hr s i (by omega)
 obtain ⟨_,f2,f3⟩:=tab_eq hr s (cntA r) (Nat.le_refl _)
 have hlen : st < (tabA r s i).length:=by rw [e2];omega
 obtain ⟨m,hm⟩ : ∃ m,cntA r = i + 1 + m:=⟨cntA r - (i + 1),by omega⟩
 have hpre:=fun x (hx : x ≤ st)=>tabA_pre (r:=r) s i x (by omega) m
 rw [← hm] at hpre
 have hsu : tabA r s (i + 1) = (tabA r s i).set st (numA r s (tabA r s i) st):=by rw [hi];rfl
 rw [hsu] at hpre
 have hlT : st < (tabT r s).length:=by unfold tabT;rw [f2];omega
 refine ⟨tabA r s i,e3,hlen,?_,fun v x hx=>?_,hpre⟩
 · have:=hpre st (Nat.le_refl _)
   rw [getD_set hlen,if_pos rfl] at this
   exact this
 · rw [getD_set hlT,getD_set hlen]
   split
   · rfl
   · rename_i hne
     have:=hpre x hx
     rw [getD_set hlen,if_neg hne] at this
     exact this
theorem tabT_holds {r : Rk} (hr : ROk r) (s : Bool) {st : Nat} (h1 : lowG r.out ≤ st) (h2 : (st : Int) ≤ r.start) : zhA r s (tabT r s) st = true:=by
 obtain ⟨nums,hn,hst,g1,g2,g3⟩:=tabT_at hr s h1 h2
 rw [holds_cg hr h1 g3]
 cases s
 · rcases numA_false hr hn hst h1 with h | ⟨_,h,_⟩
   · rw [h]
     unfold zhA
     simp only [Bool.false_eq_true,if_false,getD_set hst,if_true,decide_true,Bool.or_true]
   · exact h
 · exact (numA_true hr hn hst h1).2.1
theorem tabT_less {r : Rk} (hr : ROk r) {st : Nat} (h1 : lowG r.out ≤ st) (h2 : (st : Int) ≤ r.start) (hne : (tabT r false).getD st 0 ≠ 2000000000) : (1000000 ≤ (tabT r false).getD st 0 ∧ (tabT r false).getD st 0 ≤ 1000000000) ∧ zhA r false ((tabT r false).set st ((tabT r false).getD st 0 - 1)) st = false:=by
 obtain ⟨nums,hn,hst,g1,g2,g3⟩:=tabT_at hr false h1 h2
 rw [holds_cg hr h1 (g2 _),g1]
 rw [g1] at hne
 rcases numA_false hr hn hst h1 with h | ⟨h,_,h'⟩
 · exact absurd h hne
 · exact ⟨h,h'⟩
theorem tabT_more {r : Rk} (hr : ROk r) {st : Nat} (h1 : lowG r.out ≤ st) (h2 : (st : Int) ≤ r.start) : (0 ≤ (tabT r true).getD st 0 ∧ (tabT r true).getD st 0 ≤ 1000000000) ∧ ((tabT r true).getD st 0 < 1000000000 → zhA r true ((tabT r true).set st ((tabT r true).getD st 0 + 1)) st = false):=by
 obtain ⟨nums,hn,hst,g1,g2,g3⟩:=tabT_at hr true h1 h2
 rw [holds_cg hr h1 (g2 _),g1]
 obtain ⟨a,b,c⟩:=numA_true hr hn hst h1
 exact ⟨a,c⟩
theorem tabT_len {r : Rk} (hr : ROk r) (s : Bool) : ((tabT r s).length : Int) = r.start + 1:=by
 have:=(tab_eq hr s (cntA r) (Nat.le_refl _)).2.1
 have hs:=hr.start
 unfold tabT;rw [this];omega
structure NarB (l l' : List Bd) : Prop where
 len : l'.length = l.length
 bed : ∀ i,i < l.length → (bAt l' i).b = (bAt l i).b ∧ (bAt l i).lo ≤ (bAt l' i).lo ∧ (bAt l' i).hi ≤ (bAt l i).hi
theorem NarB.refl (l : List Bd) : NarB l l:=⟨rfl,fun i hi=>⟨rfl,Int.le_refl _,Int.le_refl _⟩⟩
theorem NarB.truth {d : Int} {l l' : List Bd} {y : List Int} (h : NarB l l') (ht : TruthN d l' y) : TruthN d l y :=
 ⟨by rw [ht.len,h.len],fun i hi=>by
  have h1:=ht.each i (by rw [h.len];exact hi)
  have h2:=h.bed i hi
  omega,ht.sum⟩
theorem NarB.can {d : Int} {l l' : List Bd} (h : NarB l l') {i : Nat} (hi : i < l.length) : canA l' i d ≤ canA l i d:=by
 have hg : ∀ j,j < l.length → (l'.map (·.lo)).getD j 0 = (bAt l' j).lo:=fun j hj=>by
  obtain ⟨c,hc⟩:=zol (show j < l'.length by rw [h.len];exact hj)
  simp [List.getD,hc,bAt]
 have hs:=sum_but (l:=l) (y:=l'.map (·.lo)) (i:=i) (by rw [List.length_map,h.len]) (fun j hj=>by rw [hg j hj];exact (h.bed j hj).2.1) hi
 rw [hg i hi] at hs
 have hb:=h.bed i hi
 have e : (l'.map (·.lo)).sum = loS l':=rfl
 rw [e] at hs
 rw [canA_bAt,canA_bAt]
 omega
theorem narUp {d : Int} {l l' : List Bd} (h : AOk d l) (h' : AOk d l') (hn : NarB l l') {u v : List Int} (hu : u.length = l.length) (hv : v.length = l.length) (hvu : ∀ x ∈ u,VOk x) (hvv : ∀ x ∈ v,VOk x)
 (huv : ∀ i,i < l.length → u.getD i 0 ≤ v.getD i 0) : meanS false d l' u ≤ meanS false d l v:=by
 have hd:=h.d1
 have hlen:=hn.len
 have hmv:=meanS_vok false h' hvu
 by_cases hb : (List.range l.length).any (badA l d v) = true
 · have e : meanS false d l v = 2000000000:=by unfold meanS;rw [if_pos hb]
   rw [e];unfold VOk at hmv;omega
 have hgood : ∀ i,i < l.length → 0 < canA l i d → v.getD i 0 ≠ 2000000000:=fun i hi h0 hn=>hb (List.any_eq_true.2 ⟨i,List.mem_range.2 hi,by simp only [badA,Bool.and_eq_true,decide_eq_true_eq];exact ⟨hn,h0⟩⟩)
 have hgu : ∀ i,i < l.length → 0 < canA l' i d → u.getD i 0 ≠ 2000000000 ∧ v.getD i 0 ≠ 2000000000:=fun i hi h0=>by
  have h1:=hn.can (d:=d) hi
  have h2:=hgood i hi (by omega)
  have h3:=getD_vok hvv i
  have h4:=huv i hi
  refine ⟨?_,h2⟩
  unfold VOk at h3;omega
 have hbu : ¬ (List.range l'.length).any (badA l' d u) = true:=fun hh=>by
  obtain ⟨i,hi,hbi⟩:=List.any_eq_true.1 hh
  have hil : i < l.length:=by have:=List.mem_range.1 hi;omega
  simp only [badA,Bool.and_eq_true,decide_eq_true_eq] at hbi
  exact (hgu i hil hbi.2).1 hbi.1
 have eu : meanS false d l' u = (meanHi d l' (u.map zN) + (d - 1)) / d:=by unfold meanS;rw [if_neg hbu];rfl
 have ev : meanS false d l v = (meanHi d l (v.map zN) + (d - 1)) / d:=by unfold meanS;rw [if_neg hb];rfl
 rw [eu,ev]
 have ht':=h'.truth (fun x y=>cmpI y x) (u.map zN)
 have ht:=hn.truth ht'
 have b2:=(filled_bound (d:=d) (l:=l) (vals:=v.map zN) (by rw [List.length_map,hv]) ht).2
 have em : meanHi d l' (u.map zN) = dotV (filledV (fun x y=>cmpI y x) d l' (u.map zN)) (u.map zN):=rfl
 rw [em]
 generalize filledV (fun x y=>cmpI y x) d l' (u.map zN) = y at *
 have key:=dotV_leI (y:=y) (u:=u.map zN) (v:=v.map zN) (c:=0) (by rw [ht.len];simp [hu]) (by rw [ht.len];simp [hv]) fun i hi=>by
  have hil : i < l.length:=by rw [← ht.len];exact hi
  refine ⟨?_,fun h0=>?_⟩
  · have h1:=(ht.each i hil).1
    have h2:=(h.each _ (bAt_mem hil)).1
    omega
  · have hc:=truth_can ht' (show i < l'.length by omega)
    have hg:=hgu i hil (by omega)
    rw [getD_mapz,getD_mapz]
    unfold zN
    rw [if_neg hg.1,if_neg hg.2]
    have:=huv i hil
    omega
 exact Int.ediv_le_ediv (by omega) (by omega)
theorem narLo {d : Int} {l l' : List Bd} (h : AOk d l) (h' : AOk d l') (hn : NarB l l') {u v : List Int} (hu : u.length = l.length) (hv : v.length = l.length) (hvu : ∀ x ∈ u,VOk x) (hvv : ∀ x ∈ v,VOk x)
 (huv : ∀ i,i < l.length → u.getD i 0 ≠ 2000000000 ∧ u.getD i 0 ≤ v.getD i 0) : meanS true d l u ≠ 2000000000 ∧ meanS true d l u ≤ meanS true d l' v:=by
 have hd:=h.d1
 have hlen:=hn.len
 have hnb : ¬ (List.range l.length).any (badA l d u) = true:=fun hh=>by
  obtain ⟨i,hi,hbi⟩:=List.any_eq_true.1 hh
  have hil:=List.mem_range.1 hi
  simp only [badA,Bool.and_eq_true,decide_eq_true_eq] at hbi
  exact (huv i hil).1 hbi.1
 have eu : meanS true d l u = meanLo d l (u.map zN) / d:=by unfold meanS;rw [if_neg hnb];rfl
 have hub:=meanZ_bound true h (M:=1000000000) (by omega) (v:=u.map zN) fun x hx=>by
  obtain ⟨y,hy,rfl⟩:=List.mem_map.1 hx
  exact zN_ok (hvu y hy)
 have hub' : meanLo d l (u.map zN) / d ≤ 1000000000:=by
  have:=hub.2
  unfold meanZ at this
  simpa using this
 rw [eu]
 refine ⟨by omega,?_⟩
 by_cases hb : (List.range l'.length).any (badA l' d v) = true
 · have e : meanS true d l' v = 2000000000:=by unfold meanS;rw [if_pos hb]
   rw [e];omega
 have ev : meanS true d l' v = meanLo d l' (v.map zN) / d:=by unfold meanS;rw [if_neg hb];rfl
 rw [ev]
 have hgood : ∀ i,i < l'.length → 0 < canA l' i d → v.getD i 0 ≠ 2000000000:=fun i hi h0 hn=>hb (List.any_eq_true.2 ⟨i,List.mem_range.2 hi,by simp only [badA,Bool.and_eq_true,decide_eq_true_eq];exact ⟨hn,h0⟩⟩)
 have ht':=h'.truth cmpI (v.map zN)
 have ht:=hn.truth ht'
 have b1:=(filled_bound (d:=d) (l:=l) (vals:=u.map zN) (by rw [List.length_map,hu]) ht).1
 have em : meanLo d l' (v.map zN) = dotV (filledV cmpI d l' (v.map zN)) (v.map zN):=rfl
 rw [em]
 generalize filledV cmpI d l' (v.map zN) = y at *
 have key:=dotV_leI (y:=y) (u:=u.map zN) (v:=v.map zN) (c:=0) (by rw [ht.len];simp [hu]) (by rw [ht.len];simp [hv]) fun i hi=>by
  have hil : i < l.length:=by rw [← ht.len];exact hi
  refine ⟨?_,fun h0=>?_⟩
  · have h1:=(ht.each i hil).1
    have h2:=(h.each _ (bAt_mem hil)).1
    omega
  · have hc:=truth_can ht' (show i < l'.length by omega)
    have hg:=hgood i (by omega) (by omega)
    have:=huv i hil
    rw [getD_mapz,getD_mapz]
    unfold zN
    rw [if_neg this.1,if_neg hg]
    omega
 exact Int.ediv_le_ediv (by omega) (by omega)
theorem nextUp {out own own' left : Int} {f g : Int → Int} (h : ∀ x,lowG out ≤ x → x ≤ left → f x ≤ g x) (ho : own ≤ own') {b : Int} (hb : 0 ≤ b ∧ b ≤ 499) : nextA out own left f b ≤ nextA out own' left g b:=by
 have hs:=score_nn hb
 unfold nextA
 split
 · exact Int.le_refl _
 · split
   · exact ho
   · exact h _ (by omega) (by omega)
theorem nextLo {out own own' left : Int} {f g : Int → Int} (h : ∀ x,lowG out ≤ x → x ≤ left → f x ≠ 2000000000 ∧ f x ≤ g x) (ho : own ≠ 2000000000 ∧ own ≤ own') {b : Int} (hb : 0 ≤ b ∧ b ≤ 499) : nextA out own left f b ≠ 2000000000 ∧ nextA out own left f b ≤ nextA out own' left g b:=by
 have hs:=score_nn hb
 unfold nextA
 split
 · exact ⟨by omega,Int.le_refl _⟩
 · split
   · exact ho
   · exact h _ (by omega) (by omega)
theorem next_at {out own left : Int} {f : Int → Int} {l : List Bd} {i : Nat} (hi : i < l.length) : (l.map fun b=>nextA out own left f b.b).getD i 0 = nextA out own left f (bAt l i).b:=by
 obtain ⟨b,hb⟩:=zol hi
 simp [List.getD,hb,bAt]
theorem next_vok {out own left : Int} {f : Int → Int} (o1 : VOk own) (hf : ∀ x,VOk (f x)) (l : List Bd) : ∀ x ∈ (l.map fun b=>nextA out own left f b.b),VOk x:=fun x hx=>by
 obtain ⟨b,_,rfl⟩:=List.mem_map.1 hx
 exact nextA_vok o1 hf _
theorem meanUp {A B : Rk} (hd : A.d = B.d) (ho : A.out = B.out) {own own' left : Int} {f g : Int → Int} (h : ∀ x,lowG B.out ≤ x → x ≤ left → f x ≤ g x) (hw : own ≤ own') (o1 : VOk own) (o2 : VOk own') (hf : ∀ x,VOk (f x)) (hg : ∀ x,VOk (g x)) {a b : Am} (ha : AOk A.d a.beds) (hb : AOk B.d b.beds) (hn : NarB b.beds a.beds) :
 meanA A false own left f a ≤ meanA B false own' left g b:=by
 unfold meanA
 have hlen:=hn.len
 rw [hd] at ha ⊢
 rw [ho]
 refine narUp hb ha hn (by simp [hlen]) (by simp) (next_vok o1 hf _) (next_vok o2 hg _) fun i hi=>?_
 rw [next_at hi,next_at (by omega),(hn.bed i hi).1]
 exact nextUp h hw (hb.bed _ (bAt_mem hi))
theorem meanLw {A B : Rk} (hd : A.d = B.d) (ho : A.out = B.out) {own own' left : Int} {f g : Int → Int} (h : ∀ x,lowG B.out ≤ x → x ≤ left → f x ≠ 2000000000 ∧ f x ≤ g x) (hw : own ≠ 2000000000 ∧ own ≤ own') (o1 : VOk own) (o2 : VOk own') (hf : ∀ x,VOk (f x)) (hg : ∀ x,VOk (g x)) {a b : Am} (ha : AOk A.d a.beds) (hb : AOk B.d b.beds) (hn : NarB a.beds b.beds) :
 meanA A true own left f a ≠ 2000000000 ∧ meanA A true own left f a ≤ meanA B true own' left g b:=by
 unfold meanA
 have hlen:=hn.len
 rw [hd] at ha ⊢
 rw [ho]
 refine narLo ha hb hn (by simp) (by simp [hlen]) (next_vok o1 hf _) (next_vok o2 hg _) fun i hi=>?_
 rw [next_at hi,next_at (by omega),(hn.bed i hi).1]
 exact nextLo h hw (ha.bed _ (bAt_mem hi))
theorem valUp {A B : Rk} (hA : ROk A) (hB : ROk B) (hd : A.d = B.d) (ho : A.out = B.out) (hs : ∀ b ∈ B.aims,∃ a ∈ A.aims,NarB b.beds a.beds) {T U : List Int} {own own' : Int} {st : Nat} (hT : ∀ x ∈ T,VOk x) (hU : ∀ x ∈ U,VOk x) (o1 : VOk own) (o2 : VOk own') (hw : own ≤ own') (h : ∀ x : Nat,lowG B.out ≤ x → x ≤ st → T.getD x 0 ≤ U.getD x 0) :
 ∀ (k : Nat) (left : Int),lowG B.out ≤ left → left ≤ st → valA A false T own k left ≤ valA B false U own' k left
 | 0, left, h1, h2 => by
   have hl:=lowG_le B.out
   exact h left.toNat (by omega) (by omega)
 | k + 1, left, h1, h2 => by
   unfold valA
   obtain ⟨a1,a2,_⟩:=foldl_min (A.aims.map (meanA A false own left (valA A false T own k))) 2000000000
   obtain ⟨_,_,b3⟩:=foldl_min (B.aims.map (meanA B false own' left (valA B false U own' k))) 2000000000
   rcases b3 with b3 | b3
   · show leastA _ ≤ List.foldl min 2000000000 _
     rw [b3];exact a1
   · obtain ⟨b,hb,hbe⟩:=List.mem_map.1 b3
     obtain ⟨a,ha,hn⟩:=hs b hb
     have hm:=meanUp hd ho (left:=left) (f:=valA A false T own k) (g:=valA B false U own' k) (fun x q1 q2=>valUp hA hB hd ho hs hT hU o1 o2 hw h k x q1 (by omega)) hw o1 o2 (valA_vok hA hT o1 k) (valA_vok hB hU o2 k) (hA.aims a ha) (hB.aims b hb) hn
     rw [hbe] at hm
     exact Int.le_trans (a2 _ (List.mem_map.2 ⟨a,ha,rfl⟩)) hm
theorem valLw {A B : Rk} (hA : ROk A) (hB : ROk B) (hd : A.d = B.d) (ho : A.out = B.out) (hs : ∀ b ∈ B.aims,∃ a ∈ A.aims,NarB a.beds b.beds) {T U : List Int} {own own' : Int} {st : Nat} (hT : ∀ x ∈ T,VOk x) (hU : ∀ x ∈ U,VOk x) (o1 : VOk own) (o2 : VOk own') (hw : own ≠ 2000000000 ∧ own ≤ own') (h : ∀ x : Nat,lowG B.out ≤ x → x ≤ st → T.getD x 0 ≠ 2000000000 ∧ T.getD x 0 ≤ U.getD x 0) :
 ∀ (k : Nat) (left : Int),lowG B.out ≤ left → left ≤ st → valA A true T own k left ≠ 2000000000 ∧ valA A true T own k left ≤ valA B true U own' k left
 | 0, left, h1, h2 => by
   have hl:=lowG_le B.out
   exact h left.toNat (by omega) (by omega)
 | k + 1, left, h1, h2 => by
   have hm:=fun (a b : Am) (ha : a ∈ A.aims) (hb : b ∈ B.aims) (hn : NarB a.beds b.beds)=>meanLw hd ho (left:=left) (f:=valA A true T own k) (g:=valA B true U own' k) (fun x q1 q2=>valLw hA hB hd ho hs hT hU o1 o2 hw h k x q1 (by omega)) hw o1 o2 (valA_vok hA hT o1 k) (valA_vok hB hU o2 k) (hA.aims a ha) (hB.aims b hb) hn
   have hmv:=fun (a : Am) (ha : a ∈ A.aims)=>meanA_vok (r:=A) (s:=true) (left:=left) o1 (valA_vok hA (s:=true) hT o1 k) (hA.aims a ha)
   unfold valA
   obtain ⟨a1,a2,_⟩:=foldl_min (A.aims.map (meanA A true own left (valA A true T own k))) 2000000000
   obtain ⟨_,_,b3⟩:=foldl_min (B.aims.map (meanA B true own' left (valA B true U own' k))) 2000000000
   have hle : ∀ a ∈ A.aims,leastA (A.aims.map (meanA A true own left (valA A true T own k))) ≤ meanA A true own left (valA A true T own k) a:=fun a ha=>a2 _ (List.mem_map.2 ⟨a,ha,rfl⟩)
   refine ⟨?_,?_⟩
   · obtain ⟨b,hb⟩ : ∃ b,b ∈ B.aims:=List.exists_mem_of_ne_nil _ hB.ne
     obtain ⟨a,ha,hn⟩:=hs b hb
     have h3:=hle a ha
     have h4:=(hm a b ha hb hn).1
     have h5:=hmv a ha
     unfold VOk at h5
     omega
   · rcases b3 with b3 | b3
     · show leastA _ ≤ List.foldl min 2000000000 _
       rw [b3];exact a1
     · obtain ⟨b,hb,hbe⟩:=List.mem_map.1 b3
       obtain ⟨a,ha,hn⟩:=hs b hb
       have h6:=(hm a b ha hb hn).2
       rw [hbe] at h6
       exact Int.le_trans (hle a ha) h6
theorem numA_leU {r : Rk} (hr : ROk r) {nums : List Int} {st : Nat} (hn : ∀ x ∈ nums,VOk x) (hst : st < nums.length) (hlo : lowG r.out ≤ st) {b : Int} (hb : 1000000 ≤ b ∧ b ≤ 1000000000) (h : zhA r false (nums.set st b) st = true) : numA r false nums st ≤ b:=by
 obtain ⟨g1,g2,g3,g4⟩:=srch_spec (fun k=>zhA r false (nums.set st (1000000 + (k : Int))) st) 0 999000001 (by omega) fun a b q1 q2 q3 q4=>holds_up hr hn hst hlo (by omega) (by omega) (by omega) q4
 unfold numA
 simp only [Bool.false_eq_true,if_false]
 generalize srch (fun k=>zhA r false (nums.set st (1000000 + (k : Int))) st) 0 999000001 = k at *
 have hk : (k : Int) ≤ b - 1000000:=by
  refine Int.not_lt.1 fun hlt=>?_
  have:=g3 (b - 1000000).toNat (Nat.zero_le _) (by omega)
  rw [show 1000000 + ((b - 1000000).toNat : Int) = b by omega,h] at this
  cases this
 split <;> omega
theorem numA_geL {r : Rk} (hr : ROk r) {nums : List Int} {st : Nat} (hn : ∀ x ∈ nums,VOk x) (hst : st < nums.length) (hlo : lowG r.out ≤ st) {a : Int} (ha : 0 ≤ a ∧ a ≤ 1000000000) (h : zhA r true (nums.set st a) st = true) : a ≤ numA r true nums st:=by
 obtain ⟨g1,g2,g3,g4⟩:=srch_spec (fun k=>!zhA r true (nums.set st ((k : Int) + 1)) st) 0 1000000000 (by omega) fun a b q1 q2 q3 q4=>by
  simp only [Bool.not_eq_true'] at q4 ⊢
  cases hb : zhA r true (nums.set st ((b : Int) + 1)) st
  · rfl
  · have:=holds_down hr hn hst hlo (a:=(a : Int) + 1) (by omega) (by omega) (by omega) hb
    rw [this] at q4;cases q4
 unfold numA
 simp only [if_true]
 generalize srch (fun k=>!zhA r true (nums.set st ((k : Int) + 1)) st) 0 1000000000 = k at *
 refine Int.not_lt.1 fun hlt=>?_
 have hk:=g4 (by omega)
 simp only [Bool.not_eq_true'] at hk
 have:=holds_down hr hn hst hlo (a:=(k : Int) + 1) (b:=a) (by omega) (by omega) (by omega) h
 rw [this] at hk;cases hk
theorem tab_leUp {A B : Rk} (hA : ROk A) (hB : ROk B) (hd : A.d = B.d) (ho : A.out = B.out) (hst : A.start = B.start) (hs : ∀ b ∈ B.aims,∃ a ∈ A.aims,NarB b.beds a.beds) : ∀ (st : Nat),lowG B.out ≤ st → (st : Int) ≤ B.start → (tabT A false).getD st 0 ≤ (tabT B false).getD st 0:=by
 intro st
 induction st using Nat.strongRecOn with
 | _ st ih =>
   intro h1 h2
   have hT : ∀ x ∈ tabT A false,VOk x:=(tab_eq hA false (cntA A) (Nat.le_refl _)).2.2
   have hU : ∀ x ∈ tabT B false,VOk x:=(tab_eq hB false (cntA B) (Nat.le_refl _)).2.2
   have ha:=getD_vok hT st
   by_cases hn : (tabT B false).getD st 0 = 2000000000
   · rw [hn];unfold VOk at ha;omega
   have hb:=(tabT_less hB h1 h2 hn).1
   have k2:=tabT_holds hB false h1 h2
   obtain ⟨b,hbe⟩ : ∃ b,b = (tabT B false).getD st 0:=⟨_,rfl⟩
   have h1' : lowG A.out ≤ st:=by rw [ho];exact h1
   have h2' : (st : Int) ≤ A.start:=by rw [hst];exact h2
   obtain ⟨nums,hnn,hns,g1,g2,g3⟩:=tabT_at hA false h1' h2'
   have hlA:=tabT_len hA false
   unfold zhA at k2
   simp only [Bool.false_eq_true,if_false,decide_eq_true_eq,Bool.or_eq_true] at k2
   rw [← hbe] at k2 hb hn ⊢
   have hS : ∀ x ∈ (tabT A false).set st b,VOk x:=fun x hx=>by
    rcases List.mem_or_eq_of_mem_set hx with hx | rfl
    · exact hT x hx
    · unfold VOk;omega
   have hget : ∀ x,((tabT A false).set st b).getD x 0 = if st = x then b else (tabT A false).getD x 0:=fun x=>getD_set (by omega) b x
   have hv:=valUp hA hB hd ho hs (T:=(tabT A false).set st b) (U:=tabT B false) (own:=b) (own':=b) (st:=st) hS hU (by unfold VOk;omega) (by unfold VOk;omega) (Int.le_refl _) (fun x q1 q2=>by
    rw [hget]
    split
    · rename_i e;subst e;rw [hbe];exact Int.le_refl _
    · exact ih x (by omega) q1 (by omega)) 3 st h1 (Int.le_refl _)
   have hold : zhA A false ((tabT A false).set st b) st = true:=by
    unfold zhA
    simp only [Bool.false_eq_true,if_false,decide_eq_true_eq,Bool.or_eq_true]
    left
    rw [hget,if_pos rfl]
    rcases k2 with k2 | k2
    · omega
    · exact absurd k2 hn
   rw [holds_cg hA h1' (g2 b)] at hold
   rw [g1]
   exact numA_leU hA hnn hns h1' hb hold
theorem tab_leLw {A B : Rk} (hA : ROk A) (hB : ROk B) (hd : A.d = B.d) (ho : A.out = B.out) (hst : A.start = B.start) (hs : ∀ b ∈ B.aims,∃ a ∈ A.aims,NarB a.beds b.beds) : ∀ (st : Nat),lowG B.out ≤ st → (st : Int) ≤ B.start → (tabT A true).getD st 0 ≤ (tabT B true).getD st 0:=by
 intro st
 induction st using Nat.strongRecOn with
 | _ st ih =>
   intro h1 h2
   have hT : ∀ x ∈ tabT A true,VOk x:=(tab_eq hA true (cntA A) (Nat.le_refl _)).2.2
   have hU : ∀ x ∈ tabT B true,VOk x:=(tab_eq hB true (cntA B) (Nat.le_refl _)).2.2
   have h1' : lowG A.out ≤ st:=by rw [ho];exact h1
   have h2' : (st : Int) ≤ A.start:=by rw [hst];exact h2
   have ha:=(tabT_more hA h1' h2').1
   have k1:=tabT_holds hA true h1' h2'
   obtain ⟨nums,hnn,hns,g1,g2,g3⟩:=tabT_at hB true h1 h2
   have hlB:=tabT_len hB true
   unfold zhA at k1
   simp only [if_true,decide_eq_true_eq] at k1
   obtain ⟨a,hae⟩ : ∃ a,a = (tabT A true).getD st 0:=⟨_,rfl⟩
   rw [← hae] at k1 ha ⊢
   have hS : ∀ x ∈ (tabT B true).set st a,VOk x:=fun x hx=>by
    rcases List.mem_or_eq_of_mem_set hx with hx | rfl
    · exact hU x hx
    · unfold VOk;omega
   have hget : ∀ x,((tabT B true).set st a).getD x 0 = if st = x then a else (tabT B true).getD x 0:=fun x=>getD_set (by omega) a x
   have hv:=valLw hA hB hd ho hs (T:=tabT A true) (U:=(tabT B true).set st a) (own:=a) (own':=a) (st:=st) hT hS (by unfold VOk;omega) (by unfold VOk;omega) ⟨by omega,Int.le_refl _⟩ (fun x q1 q2=>by
    rw [hget]
    split
    · rename_i e;subst e;rw [← hae];exact ⟨by omega,Int.le_refl _⟩
    · have:=(tabT_more hA (st:=x) (by rw [ho];exact q1) (by omega)).1
      exact ⟨by omega,ih x (by omega) q1 (by omega)⟩) 3 st h1 (Int.le_refl _)
   have hold : zhA B true ((tabT B true).set st a) st = true:=by
    unfold zhA
    simp only [if_true,decide_eq_true_eq];rw [hget,if_pos rfl]
    omega
   rw [holds_cg hB h1 (g2 a)] at hold
   rw [g1]
   exact numA_geL hB hnn hns h1 ha hold
theorem tab_below (r : Rk) (s : Bool) {x : Nat} (hx : (x : Int) < lowG r.out) : ∀ i,(tabA r s i).getD x 0 = 0
 | 0 => by
   unfold tabA
   rw [List.getD_eq_getElem?_getD,List.getElem?_replicate]
   split <;> rfl
 | i + 1 => by
   have ih:=tab_below r s hx i
   unfold tabA
   rw [List.getD_eq_getElem?_getD,List.getElem?_set_ne (by omega),← List.getD_eq_getElem?_getD]
   exact ih
def idxT (l : List Bd) (bs : List Int) (at_ k : Nat) : Nat:=if k < 8 then ((byteL bs (at_ + k)).toNat + k) % l.length else k % l.length
def moreT (l : List Bd) (bs : List Int) (at_ k : Nat) (x : List Int × Int) : Int :=
 if k < 8 then min (takeU l (idxT l bs at_ k) x) (1 + byteL bs (at_ + k + 1) % 7) else takeU l (idxT l bs at_ k) x
def itT (l : List Bd) (bs : List Int) (at_ : Nat) (den : Int) : Nat → List Int × Int
 | 0=>(l.map (·.lo),den - loS l)
 | k + 1=>giveU (idxT l bs at_ k) (moreT l bs at_ k (itT l bs at_ den k)) (itT l bs at_ den k)
def truthT (l : List Bd) (bs : List Int) (at_ : Nat) (den : Int) : List Int:=(itT l bs at_ den (8 + l.length)).1
theorem idxT_lt {l : List Bd} {bs : List Int} {at_ k : Nat} (h : 1 ≤ l.length) : idxT l bs at_ k < l.length:=by
 unfold idxT
 split <;> exact Nat.mod_lt _ (by omega)
theorem moreT_le {l : List Bd} {bs : List Int} (hb : ∀ n ∈ bs,0 ≤ n ∧ n ≤ 255) (hl : 1 ≤ l.length) {den : Int} {x : List Int × Int} (h : TI l den x) (at_ k : Nat) : 0 ≤ moreT l bs at_ k x ∧ moreT l bs at_ k x ≤ takeU l (idxT l bs at_ k) x:=by
 have h1:=h.take (idxT_lt (bs:=bs) (at_:=at_) (k:=k) hl)
 have h2:=byteL_le hb (at_ + k + 1)
 unfold moreT
 split <;> omega
theorem ti_itT {l : List Bd} {bs : List Int} (hb : ∀ n ∈ bs,0 ≤ n ∧ n ≤ 255) (hl : 1 ≤ l.length) {den : Int} (h : loS l ≤ den) (h1 : ∀ c ∈ l,c.lo ≤ c.hi) (at_ : Nat) : ∀ k,TI l den (itT l bs at_ den k)
 | 0 => by
   refine ⟨by simp [itT],fun i hi=>?_,?_,?_⟩
   · have:=h1 _ (bAt_mem hi)
     have e : (itT l bs at_ den 0).1.getD i 0 = (bAt l i).lo:=by simp [itT,bAt,List.getD,List.getElem?_eq_getElem hi]
     rw [e];omega
   · simp only [itT,loS];omega
   · simp only [itT];omega
 | k + 1=>(ti_itT hb hl h h1 at_ k).give (idxT_lt hl) (moreT_le hb hl (ti_itT hb hl h h1 at_ k) at_ k)
theorem rot5 {n i : Nat} (h1 : 1 ≤ n) (h5 : n ≤ 5) (hi : i < n) : ∃ t,t < n ∧ (8 + t) % n = i:=by
 rcases (by omega : n = 1 ∨ n = 2 ∨ n = 3 ∨ n = 4 ∨ n = 5) with h | h | h | h | h <;> subst h
 · exact ⟨0,by omega,by omega⟩
 · exact ⟨i,by omega,by omega⟩
 · exact ⟨(i + 1) % 3,by omega,by omega⟩
 · exact ⟨i,by omega,by omega⟩
 · exact ⟨(i + 2) % 5,by omega,by omega⟩
theorem itT_stay {l : List Bd} {bs : List Int} (hb : ∀ n ∈ bs,0 ≤ n ∧ n ≤ 255) (hl : 1 ≤ l.length) {den : Int} (h : loS l ≤ den) (h1 : ∀ c ∈ l,c.lo ≤ c.hi) {at_ k : Nat} (h0 : (itT l bs at_ den k).2 = 0) : ∀ d,itT l bs at_ den (k + d) = itT l bs at_ den k
 | 0=>rfl
 | d + 1 => by
   have ih:=itT_stay hb hl h h1 h0 d
   have hT:=ti_itT hb hl h h1 at_ k
   show giveU (idxT l bs at_ (k + d)) (moreT l bs at_ (k + d) (itT l bs at_ den (k + d))) (itT l bs at_ den (k + d)) = _
   rw [ih]
   have hi:=idxT_lt (bs:=bs) (at_:=at_) (k:=k + d) hl
   have hz : takeU l (idxT l bs at_ (k + d)) (itT l bs at_ den k) = 0:=by
    have:=hT.each _ hi
    unfold takeU;omega
   have hm : moreT l bs at_ (k + d) (itT l bs at_ den k) = 0:=by
    have:=moreT_le hb hl hT at_ (k + d)
    rw [hz] at this;omega
   rw [hm,give_zero (by rw [hT.len];exact hi)]
theorem itT_full {l : List Bd} {bs : List Int} (hb : ∀ n ∈ bs,0 ≤ n ∧ n ≤ 255) (hl : 1 ≤ l.length) {den : Int} (h : loS l ≤ den) (h1 : ∀ c ∈ l,c.lo ≤ c.hi) (at_ : Nat) : ∀ j,(itT l bs at_ den (8 + j)).2 = 0 ∨ ∀ t,t < j → (itT l bs at_ den (8 + j)).1.getD ((8 + t) % l.length) 0 = (bAt l ((8 + t) % l.length)).hi
 | 0=>.inr fun t ht=>by omega
 | j + 1 => by
   have ih:=itT_full hb hl h h1 at_ j
   have hT:=ti_itT hb hl h h1 at_ (8 + j)
   rcases ih with ih | ih
   · left
     have:=itT_stay hb hl h h1 ih 1
     rw [show 8 + (j + 1) = 8 + j + 1 by omega,this];exact ih
   have hi : idxT l bs at_ (8 + j) = (8 + j) % l.length:=by unfold idxT;rw [if_neg (by omega)]
   have hlt:=idxT_lt (bs:=bs) (at_:=at_) (k:=8 + j) hl
   have hm : moreT l bs at_ (8 + j) (itT l bs at_ den (8 + j)) = takeU l ((8 + j) % l.length) (itT l bs at_ den (8 + j)):=by unfold moreT;rw [if_neg (by omega),hi]
   have hs : itT l bs at_ den (8 + (j + 1)) = giveU ((8 + j) % l.length) (takeU l ((8 + j) % l.length) (itT l bs at_ den (8 + j))) (itT l bs at_ den (8 + j)):=by
    show giveU (idxT l bs at_ (8 + j)) (moreT l bs at_ (8 + j) (itT l bs at_ den (8 + j))) (itT l bs at_ den (8 + j)) = _
    rw [hm,hi]
   rw [hi] at hlt
   have hlen:=hT.len
   have he:=hT.each _ hlt
   rw [hs]
   generalize itT l bs at_ den (8 + j) = y at *
   by_cases c : y.2 ≤ (bAt l ((8 + j) % l.length)).hi - y.1.getD ((8 + j) % l.length) 0
   · left;simp only [giveU,takeU];omega
   · right
     intro t ht
     simp only [giveU,takeU];rw [Th.getD_set _ _ _ _ (by omega)]
     split
     · rename_i e;rw [e];omega
     · rename_i e
       by_cases htj : t = j
       · subst htj;exact absurd rfl e
       · exact ih t (by omega)
theorem itT_done {l : List Bd} {bs : List Int} (hb : ∀ n ∈ bs,0 ≤ n ∧ n ≤ 255) (hl : 1 ≤ l.length ∧ l.length ≤ 5) {den : Int} (h : loS l ≤ den) (h1 : ∀ c ∈ l,c.lo ≤ c.hi) (hh : den ≤ hiS l) (at_ : Nat) : (itT l bs at_ den (8 + l.length)).2 = 0:=by
 rcases itT_full hb hl.1 h h1 at_ l.length with hf | hf
 · exact hf
 have hT:=ti_itT hb hl.1 h h1 at_ (8 + l.length)
 have hs:=hT.sum
 have h0:=hT.left
 have hy : ∀ i,i < l.length → (itT l bs at_ den (8 + l.length)).1.getD i 0 = (bAt l i).hi:=fun i hi=>by
  obtain ⟨t,ht,e⟩:=rot5 hl.1 hl.2 hi
  have:=hf t ht
  rw [e] at this;exact this
 have h2 : (itT l bs at_ den (8 + l.length)).1.sum = hiS l:=by
  rw [← sum_getD,hT.len]
  have e : hiS l = ((List.range l.length).map fun i=>(bAt l i).hi).sum:=by
   conv=>lhs;rw [hiS,← range_bAt l,List.map_map]
   rfl
  rw [e]
  congr 1
  exact List.map_congr_left fun i hi=>hy i (List.mem_range.1 hi)
 omega
theorem truthT_ok {l : List Bd} {bs : List Int} (hb : ∀ n ∈ bs,0 ≤ n ∧ n ≤ 255) (hl : 1 ≤ l.length ∧ l.length ≤ 5) {den : Int} (h : loS l ≤ den) (h1 : ∀ c ∈ l,c.lo ≤ c.hi) (hh : den ≤ hiS l) (at_ : Nat) : TruthN den l (truthT l bs at_ den):=by
 have hT:=ti_itT hb hl.1 h h1 at_ (8 + l.length)
 have hd:=itT_done hb hl h h1 hh at_
 refine ⟨hT.len,hT.each,?_⟩
 have:=hT.sum
 unfold truthT;omega
structure A24 (a : Am) : Prop where
 ok : AOk 24 a.beds
 len : 1 ≤ a.beds.length ∧ a.beds.length ≤ 5
theorem A24.truth {a : Am} (h : A24 a) {bs : List Int} (hb : ∀ n ∈ bs,0 ≤ n ∧ n ≤ 255) (at_ : Nat) : TruthN 24 a.beds (truthT a.beds bs at_ 24):=by
 have h1:=h.ok.each
 have ht:=h.ok.truth cmpI []
 have:=truth_le ht
 exact truthT_ok hb h.len this.1 (fun c hc=>(h1 c hc).2.1) this.2 at_
theorem ti_le8 {l : List Bd} {den : Int} {x : List Int × Int} (h : TI l den x) (h0 : ∀ c ∈ l,0 ≤ c.lo) : x.2 ≤ den:=by
 have hs:=h.sum
 have : 0 ≤ x.1.sum:=sum_nn fun v hv=>by
  obtain ⟨i,hi⟩:=List.getElem?_of_mem hv
  have hil:=(List.getElem?_eq_some_iff.1 hi).1
  have h1:=(h.each i (by rw [← h.len];exact hil)).1
  rw [List.getD_eq_getElem?_getD,hi] at h1
  have h2:=h0 _ (bAt_mem (show i < l.length by rw [← h.len];exact hil))
  simp only [Option.getD_some] at *
  omega
 omega
def beds10 : List Int:=[0,101,102,103,105,125,201,202,204,301]
def bedX (k : Nat) : Int:=beds10.getD k 0
structure Rx where
 which : List Int
 low : List Int
 high : List Int
 start : Int
 out : Int
structure WfRx (x : Rx) : Prop where
 which : ∀ n ∈ x.which,0 ≤ n ∧ n ≤ 65535
 low : ∀ n ∈ x.low,0 ≤ n ∧ n ≤ 255
 high : ∀ n ∈ x.high,0 ≤ n ∧ n ≤ 255
 start : 0 ≤ x.start ∧ x.start ≤ 255
 out : 0 ≤ x.out ∧ x.out ≤ 255
def whX (x : Rx) (i : Nat) : Int:=if i < x.which.length then bitOr .u16 (x.which.getD i 0) (shlI .u16 1 (IntKind.u64.wrap ((6 + i % 3 : Nat) : Int))) else 64
structure Sx where
 l : List Bd
 sum : Int
 high : Int
 n : Nat
def addX (x : Rx) (w : Int) (k : Nat) (p : Sx) : Sx :=
 if p.l.length < 5 ∧ hasB w k = true then
  ⟨⟨bedX k, min (byteL x.low p.n % 6) (24 - p.sum), min 24 (min (byteL x.low p.n % 6) (24 - p.sum) + byteL x.high p.n % 9)⟩ :: p.l,
    p.sum + min (byteL x.low p.n % 6) (24 - p.sum),p.high + min 24 (min (byteL x.low p.n % 6) (24 - p.sum) + byteL x.high p.n % 9),p.n + 1⟩ else p
def iterX (x : Rx) (w : Int) (n : Nat) : Nat → Sx
 | 0=>⟨[],0,0,n⟩
 | j + 1=>addX x w (9 - j) (iterX x w n j)
theorem iterX_full (x : Rx) (w : Int) (n j : Nat) (h : ¬ (iterX x w n j).l.length < 5) : ∀ m,iterX x w n (j + m) = iterX x w n j
 | 0=>rfl
 | m + 1 => by
   show addX x w (9 - (j + m)) (iterX x w n (j + m)) = _
   rw [iterX_full x w n j h m]
   unfold addX
   rw [if_neg fun h'=>h h'.1]
theorem iterX_n (x : Rx) (w : Int) (n : Nat) : ∀ j,(iterX x w n j).n ≤ n + j
 | 0=>Nat.le_refl _
 | j + 1 => by
   have ih:=iterX_n x w n j
   show (addX x w (9 - j) (iterX x w n j)).n ≤ _
   unfold addX
   split
   · simp only;omega
   · omega
def fixX (p : Sx) : List Bd:=if p.high < 24 then (match p.l with | []=>[] | c :: l=>⟨c.b,c.lo,min 24 (c.hi + 24 - p.high)⟩ :: l) else p.l
def nX (x : Rx) : Nat → Nat
 | 0=>0
 | i + 1=>(iterX x (whX x i) (nX x i) 10).n
theorem nX_le (x : Rx) : ∀ i,nX x i ≤ 10 * i
 | 0=>Nat.le_refl _
 | i + 1 => by
   have ih:=nX_le x i
   have:=iterX_n x (whX x i) (nX x i) 10
   show (iterX x (whX x i) (nX x i) 10).n ≤ _
   omega
def sX (x : Rx) (i : Nat) : Sx:=iterX x (whX x i) (nX x i) 10
def aimX (x : Rx) (i : Nat) : Am:=⟨bedX (6 + i % 3),fixX (sX x i)⟩
def cntX (x : Rx) (most : Nat) : Nat:=max 1 (min x.which.length most)
def aimsX (x : Rx) (i : Nat) : List Am:=(List.range i).map (aimX x)
theorem aimsX_succ (x : Rx) (i : Nat) : aimsX x (i + 1) = aimsX x i ++ [aimX x i]:=by simp only [aimsX,List.range_succ,List.map_append,List.map_cons,List.map_nil]
theorem cntX_lt (x : Rx) (most i : Nat) : i < cntX x most ↔ i = 0 ∨ (i < x.which.length ∧ i < most):=by unfold cntX;omega
def ruleX (x : Rx) (most : Nat) : Rk:=⟨24,aimsX x (cntX x most),2 + x.start % 5,x.out % 3⟩
theorem bedX_lt {j k : Nat} (h : j < k) (hk : k < 10) : bedX j < bedX k:=by
 have : ∀ k,k < 10 → ∀ j,j < k → bedX j < bedX k:=by decide
 exact this k hk j h
theorem bedX_ok {k : Nat} (hk : k < 10) : bedX k = 0 ∨ bedOk (bedX k) = true:=by
 have : ∀ k,k < 10 → (bedX k = 0 ∨ bedOk (bedX k) = true):=by decide
 exact this k hk
structure IterX (j : Nat) (p : Sx) : Prop where
 len : p.l.length ≤ 5
 lenj : p.l.length ≤ j
 each : ∀ c ∈ p.l,(∃ k,10 ≤ k + j ∧ k < 10 ∧ c.b = bedX k) ∧ 0 ≤ c.lo ∧ c.lo ≤ c.hi ∧ c.hi ≤ 24
 up : p.l.Pairwise fun a b=>a.b < b.b
 sum : loS p.l = p.sum
 sum0 : 0 ≤ p.sum ∧ p.sum ≤ 24
 high : hiS p.l = p.high
 high0 : 0 ≤ p.high ∧ p.high ≤ 24 * p.l.length
theorem iterX_ok {x : Rx} (hx : WfRx x) (w : Int) (n : Nat) : ∀ j,j ≤ 10 → IterX j (iterX x w n j)
 | 0,_=>⟨by simp [iterX],by simp [iterX],by simp [iterX],by simp [iterX],by simp [iterX,loS],by simp [iterX],by simp [iterX,hiS],by simp [iterX]⟩
 | j + 1, hj => by
   have ih:=iterX_ok hx w n j (by omega)
   show IterX (j + 1) (addX x w (9 - j) (iterX x w n j))
   generalize iterX x w n j = p at *
   obtain ⟨l,s,h,n'⟩:=p
   obtain ⟨h1,h2,h3,h4,h5,h6,h7,h8⟩:=ih
   simp only at h1 h2 h3 h4 h5 h6 h7 h8
   unfold addX
   by_cases hc : l.length < 5 ∧ hasB w (9 - j) = true
   · rw [if_pos hc]
     have bl:=byteL_le hx.low n'
     have bh:=byteL_le hx.high n'
     simp only
     generalize byteL x.low n' = bl' at *
     generalize byteL x.high n' = bh' at *
     obtain ⟨lo,hlo⟩ : ∃ lo,lo = min (bl' % 6) (24 - s):=⟨_,rfl⟩
     obtain ⟨hi,hhi⟩ : ∃ hi,hi = min 24 (lo + bh' % 9):=⟨_,rfl⟩
     rw [← hlo,← hhi]
     refine ⟨by simp;omega,by simp;omega,?_,?_,?_,?_,?_,?_⟩
     · intro c hcm
       rcases List.mem_cons.1 hcm with rfl | hcm
       · exact ⟨⟨9 - j,by omega,by omega,rfl⟩,by simp only;omega,by simp only;omega,by simp only;omega⟩
       · obtain ⟨⟨k,k1,k2,k3⟩,e⟩:=h3 c hcm
         exact ⟨⟨k,by omega,k2,k3⟩,e⟩
     · refine List.pairwise_cons.2 ⟨fun c hcm=>?_,h4⟩
       obtain ⟨⟨k,k1,k2,k3⟩,e⟩:=h3 c hcm
       simp only
       rw [k3]
       exact bedX_lt (by omega) k2
     · simp only [loS,List.map_cons,List.sum_cons] at h5 ⊢
       omega
     · simp only;omega
     · simp only [hiS,List.map_cons,List.sum_cons] at h7 ⊢
       omega
     · simp only [List.length_cons];omega
   · rw [if_neg hc]
     exact ⟨h1,by simp only;omega,fun c hcm=>by
      obtain ⟨⟨k,k1,k2,k3⟩,e⟩:=h3 c hcm
      exact ⟨⟨k,by omega,k2,k3⟩,e⟩,h4,h5,h6,h7,h8⟩
theorem wrap16 {m : Nat} (h : m < 65536) : IntKind.u16.wrap (m : Int) = m:=by
 unfold IntKind.wrap
 simp [IntKind.bits,IntKind.signed]
 omega
theorem wrap64s : ∀ q : Nat,q < 16 → IntKind.u64.wrap (q : Int) = q:=by decide
theorem shl16 : ∀ q : Nat,q < 16 → shlI .u16 1 (q : Int) = ((2 ^ q : Nat) : Int):=by decide
theorem hasB_or {v : Int} (hv : 0 ≤ v ∧ v ≤ 65535) {q : Nat} (hq : q < 16) : hasB (bitOr .u16 v (shlI .u16 1 (IntKind.u64.wrap (q : Int)))) q = true:=by
 obtain ⟨n,rfl⟩ : ∃ n : Nat,v = n:=⟨v.toNat,by omega⟩
 have hn : n < 2 ^ 16:=by omega
 have hp : 2 ^ q < 2 ^ 16:=Nat.pow_lt_pow_right (by omega) hq
 rw [wrap64s q hq,shl16 q hq]
 have e1 : bitOr .u16 (n : Int) ((2 ^ q : Nat) : Int) = ((n ||| 2 ^ q : Nat) : Int):=by
  unfold bitOr
  have hb : IntKind.u16.bits = 16:=rfl
  rw [hb,BitVec.ofInt_natCast,BitVec.ofInt_natCast,BitVec.toNat_or,BitVec.toNat_ofNat,BitVec.toNat_ofNat,Nat.mod_eq_of_lt hn,Nat.mod_eq_of_lt hp]
  exact wrap16 (Nat.or_lt_two_pow (n:=16) hn hp)
 rw [e1]
 unfold hasB
 rw [wrap64s q hq]
 have e2 : shrI .u16 ((n ||| 2 ^ q : Nat) : Int) (q : Int) = (((n ||| 2 ^ q) / 2 ^ q : Nat) : Int):=by
  unfold shrI
  have hb : IntKind.u16.bits = 16:=rfl
  have hm : min (q : Int).toNat 16 = q:=by omega
  rw [hb,hm,Int.fdiv_eq_ediv_of_nonneg _ (by exact Int.le_of_lt (Int.pow_pos (by decide)))]
  norm_cast
 rw [e2]
 have hlt:=Nat.or_lt_two_pow (n:=16) hn hp
 have ht : Nat.testBit (n ||| 2 ^ q) q = true:=by simp [Nat.testBit_or,Nat.testBit_two_pow_self]
 rw [Nat.testBit_eq_decide_div_mod_eq,decide_eq_true_eq] at ht
 generalize (n ||| 2 ^ q) / 2 ^ q = y at *
 have e3 : bitAnd .u16 (y : Int) 1 = ((y % 2 : Nat) : Int):=by
  unfold bitAnd
  have hb : IntKind.u16.bits = 16:=rfl
  have h1 : (1 : Int) = ((1 : Nat) : Int):=rfl
  rw [hb,h1,BitVec.ofInt_natCast,BitVec.ofInt_natCast,BitVec.toNat_and,BitVec.toNat_ofNat,BitVec.toNat_ofNat,Nat.mod_eq_of_lt (show 1 < 2 ^ 16 by decide),Nat.and_one_is_mod]
  rw [wrap16 (by omega)]
  congr 1;omega
 rw [e3,ht]
 rfl
theorem bedsX_ne {x : Rx} (hx : WfRx x) {i : Nat} (hi : i = 0 ∨ i < x.which.length) (n : Nat) : (iterX x (whX x i) n 10).l ≠ []:=by
 have hq : hasB (whX x i) (6 + i % 3) = true:=by
  unfold whX
  by_cases h : i < x.which.length
  · rw [if_pos h]
    have hm : x.which.getD i 0 ∈ x.which:=by
     rw [List.getD_eq_getElem?_getD,List.getElem?_eq_getElem h];exact List.getElem_mem h
    have:=hasB_or (hx.which _ hm) (q:=6 + i % 3) (by omega)
    exact this
  · rw [if_neg h]
    have : i = 0:=by omega
    subst this
    decide
 generalize whX x i = w at *
 obtain ⟨j,hj⟩ : ∃ j,j = 3 - i % 3:=⟨_,rfl⟩
 have hI:=iterX_ok hx w n j (by omega)
 have hstep : (iterX x w n (j + 1)).l ≠ []:=by
  show (addX x w (9 - j) (iterX x w n j)).l ≠ []
  have hl:=hI.lenj
  have e : 9 - j = 6 + i % 3:=by omega
  rw [e]
  unfold addX
  rw [if_pos ⟨by omega,hq⟩]
  simp
 have hmono : ∀ m,(iterX x w n (j + 1 + m)).l ≠ []:=by
  intro m
  induction m with
  | zero=>exact hstep
  | succ m ih =>
    show (addX x w (9 - (j + 1 + m)) (iterX x w n (j + 1 + m))).l ≠ []
    unfold addX
    split
    · simp
    · exact ih
 have:=hmono (9 - j)
 have e : j + 1 + (9 - j) = 10:=by omega
 rwa [e] at this
theorem seqOk_up : ∀ (l : List Bd) (p : Option Int),(∀ c ∈ l,c.b = 0 ∨ bedOk c.b = true) → l.Pairwise (fun a b=>a.b < b.b) → (∀ q,p = some q → ∀ c ∈ l,q < c.b) → seqOk p l = true
 | [],_,_,_,_=>rfl
 | x :: l, p, h1, h2, h3 => by
   obtain ⟨h4,h5⟩:=List.pairwise_cons.1 h2
   simp only [seqOk,Bool.and_eq_true,Bool.or_eq_true,decide_eq_true_eq]
   refine ⟨⟨h1 x (by simp),?_⟩,seqOk_up l _ (fun c hc=>h1 c (by simp [hc])) h5 (fun q hq c hc=>by injection hq with hq;subst hq;exact h4 c hc)⟩
   cases p with
   | none=>rfl
   | some q=>simpa using h3 q rfl x (by simp)
theorem aimX_ok {x : Rx} (hx : WfRx x) {i : Nat} (hi : i = 0 ∨ i < x.which.length) : aimOk 24 (aimX x i) = true ∧ (aimX x i).beds.length ≤ 5:=by
 have hI:=iterX_ok hx (whX x i) (nX x i) 10 (Nat.le_refl _)
 have hne:=bedsX_ne hx hi (nX x i)
 unfold aimX sX
 generalize iterX x (whX x i) (nX x i) 10 = p at *
 obtain ⟨l,s,h,n'⟩:=p
 obtain ⟨h1,h2,h3,h4,h5,h6,h7,h8⟩:=hI
 simp only at h1 h2 h3 h4 h5 h6 h7 h8 hne
 have hat : bedOk (bedX (6 + i % 3)) = true:=by
  have : ∀ k,k < 3 → bedOk (bedX (6 + k)) = true:=by decide
  exact this _ (Nat.mod_lt _ (by omega))
 have main : ∀ l' : List Bd,l' ≠ [] → l'.length ≤ 5 → (∀ c ∈ l',(∃ k,k < 10 ∧ c.b = bedX k) ∧ 0 ≤ c.lo ∧ c.lo ≤ c.hi ∧ c.hi ≤ 24) → l'.Pairwise (fun a b=>a.b < b.b) → loS l' ≤ 24 → 24 ≤ hiS l' →
  aimOk 24 ⟨bedX (6 + i % 3),l'⟩ = true ∧ l'.length ≤ 5:=by
  intro l' n1 n2 n3 n4 n5 n6
  refine ⟨?_,n2⟩
  unfold aimOk
  simp only [Bool.and_eq_true,decide_eq_true_eq,Bool.not_eq_true']
  refine ⟨⟨⟨⟨⟨hat,?_⟩,?_⟩,?_⟩,n5⟩,n6⟩
  · cases l' with
    | nil=>exact absurd rfl n1
    | cons _ _=>rfl
  · exact seqOk_up l' none (fun c hc=>by
     obtain ⟨⟨k,k1,k2⟩,_⟩:=n3 c hc
     rw [k2];exact bedX_ok k1) n4 (fun q hq=>by cases hq)
  · refine List.all_eq_true.2 fun c hc=>?_
    obtain ⟨_,e1,e2,e3⟩:=n3 c hc
    simp [e1,e2,e3]
 cases l with
 | nil=>exact absurd rfl hne
 | cons c l =>
   obtain ⟨q1,q2⟩:=List.pairwise_cons.1 h4
   unfold fixX
   simp only
   have hc:=h3 c (by simp)
   have hl0 : 0 ≤ hiS l:=by
    have : ∀ l : List Bd,(∀ c ∈ l,0 ≤ c.hi) → 0 ≤ hiS l:=by
     intro l
     induction l with
     | nil=>intro _;simp [hiS]
     | cons y l ih =>
       intro hy
       have a1:=hy y (by simp)
       have a2:=ih fun c hc=>hy c (by simp [hc])
       simp only [hiS,List.map_cons,List.sum_cons] at a2 ⊢
       omega
    exact this l fun c hc=>by have:=h3 c (by simp [hc]);omega
   simp only [loS,hiS,List.map_cons,List.sum_cons] at h5 h7 hl0
   split
   · refine main _ (by simp) (by simpa using h1) ?_ ?_ ?_ ?_
     · intro d hd
       rcases List.mem_cons.1 hd with rfl | hd
       · obtain ⟨⟨k,k1,k2,k3⟩,e1,e2,e3⟩:=hc
         exact ⟨⟨k,k2,k3⟩,e1,by simp only;omega,by simp only;omega⟩
       · obtain ⟨⟨k,k1,k2,k3⟩,e⟩:=h3 d (by simp [hd])
         exact ⟨⟨k,k2,k3⟩,e⟩
     · exact List.pairwise_cons.2 ⟨q1,q2⟩
     · simp only [loS,List.map_cons,List.sum_cons];omega
     · simp only [hiS,List.map_cons,List.sum_cons];omega
   · refine main _ (by simp) (by simpa using h1) ?_ h4 ?_ ?_
     · intro d hd
       obtain ⟨⟨k,k1,k2,k3⟩,e⟩:=h3 d hd
       exact ⟨⟨k,k2,k3⟩,e⟩
     · simp only [loS,List.map_cons,List.sum_cons];omega
     · simp only [hiS,List.map_cons,List.sum_cons];omega
theorem ruleX_aim {x : Rx} (hx : WfRx x) {most : Nat} {a : Am} (ha : a ∈ (ruleX x most).aims) : aimOk 24 a = true ∧ a.beds.length ≤ 5:=by
 obtain ⟨i,hi,rfl⟩:=List.mem_map.1 ha
 rw [List.mem_range,cntX_lt] at hi
 exact aimX_ok hx (by omega)
theorem ruleX_len (x : Rx) (most : Nat) : (ruleX x most).aims.length = cntX x most:=by simp [ruleX,aimsX]
theorem ruleX_check {x : Rx} (hx : WfRx x) {most : Nat} (hm : most ≤ 20) : checkR (ruleX x most) = 0:=by
 have hl:=ruleX_len x most
 have ha:=fun a (h : a ∈ (ruleX x most).aims)=>ruleX_aim hx h
 have hs:=hx.start
 have ho:=hx.out
 have hcv : checkV (ruleX x most).d (ruleX x most).aims = 0:=by
  unfold checkV
  have hc : cntX x most ≤ 20 ∧ 1 ≤ cntX x most:=by unfold cntX;omega
  rw [if_neg,if_neg,if_pos]
  · exact List.all_eq_true.2 fun a h=>(ha a h).1
  · simp only [Bool.or_eq_true,List.isEmpty_iff,Bool.not_eq_true',Bool.and_eq_false_iff,decide_eq_false_iff_not]
    have : (ruleX x most).aims ≠ []:=fun h=>by rw [h] at hl;simp at hl;omega
    have hd : (ruleX x most).d = 24:=rfl
    simp [this,hd]
  · simp only [Bool.or_eq_true,decide_eq_true_eq,List.any_eq_true,not_or,not_exists,not_and]
    refine ⟨by omega,fun a h=>?_⟩
    have:=(ha a h).2
    omega
 unfold checkR
 rw [if_pos hcv,if_pos]
 simp only [ruleX]
 omega
theorem wf_aim {a : Am} (h : aimOk 24 a = true) : WfA a:=by
 obtain ⟨h1,h2,h3,h4,h5,h6⟩:=aimOk_facts h
 have hb : ∀ b : Int,bedOk b = true → I64 b:=fun b hb=>by
  unfold bedOk at hb
  simp only [Bool.or_eq_true,Bool.and_eq_true,decide_eq_true_eq] at hb
  unfold I64;omega
 refine ⟨hb _ h1,fun c hc=>?_⟩
 have hc2:=List.all_eq_true.1 h4 c hc
 simp only [Bool.and_eq_true,decide_eq_true_eq] at hc2
 refine ⟨?_,by unfold I64;omega,by unfold I64;omega⟩
 rcases seqOk_bed _ _ h3 c hc with h | h
 · rw [h];unfold I64;omega
 · exact hb _ h
theorem ruleX_wf {x : Rx} (hx : WfRx x) {most : Nat} : WfL (ruleX x most).d (ruleX x most).aims:=by
 refine ⟨?_,fun a ha=>wf_aim (ruleX_aim hx ha).1⟩
 show I64 24
 unfold I64;omega
end Go.Proofs.Ytgfbenanljjgaaa.Du.Th.Ai

namespace Go.Oc
open Go Go.RowKit
theorem idK_app (a b : List (Nat × RowC)) : idK (a ++ b) = idK a ++ idK b:=by simp [idK]
theorem lendKey_idK : ∀ {L : List (Nat × RowC)} {k : Nat},zLk (idK L) k = pinOf (idK L) k
 | [],_=>rfl
 | (j, c) :: L, k => by
   have ih:=lendKey_idK (L:=L) (k:=k)
   simp only [idK,List.map_cons,zLk,pinOf] at ih ⊢
   rw [ih]
theorem pinOf_idK (L : List (Nat × RowC)) (k : Nat) : pinOf (idK L) k = if hasKey L k then some k else none:=by
 cases h : hasKey L k
 · rw [idK_pin.2 h];rfl
 · rw [idK_pin.1 h];rfl
theorem hasKey_app (a b : List (Nat × RowC)) (k : Nat) : hasKey (a ++ b) k = (hasKey a k || hasKey b k):=by simp [hasKey]
theorem hasKey_fam {f : Nat → RowC} : ∀ {n j : Nat},hasKey (fam f n) (j + 600) = decide (j < n)
 | 0,j=>by simp [fam,hasKey]
 | n + 1, j => by
   simp only [fam,hasKey_app,hasKey_fam (n:=n)];simp only [hasKey,List.any_cons,List.any_nil,Bool.or_false]
   by_cases e : j = n
   · subst e;simp
   · have : (n + 600 == j + 600) = false:=by simp;omega
     rw [this,Bool.or_false]
     exact decide_eq_decide.2 (by omega)
theorem fam_mem_iff {f : Nat → RowC} {n : Nat} {x : Nat × RowC} : x ∈ fam f n ↔ ∃ i,i < n ∧ x = (i + 600,f i):=by
 constructor
 · induction n with
   | zero=>intro h;cases h
   | succ n ih =>
     intro h
     simp only [fam,List.mem_append,List.mem_singleton] at h
     rcases h with h | h
     · obtain ⟨i,hi,e⟩:=ih h;exact ⟨i,by omega,e⟩
     · exact ⟨n,by omega,h⟩
 · rintro ⟨i,hi,rfl⟩;exact fam_mem hi
theorem hasKey_false_of {L : List (Nat × RowC)} {k : Nat} (h : ∀ x ∈ L,x.1 ≠ k) : hasKey L k = false:=by
 cases e : hasKey L k
 · rfl
 · simp only [hasKey,List.any_eq_true,beq_iff_eq] at e
   obtain ⟨x,hx,e⟩:=e
   exact absurd e (h x hx)
theorem apart_idK : ∀ {L : List (Nat × RowC)},(L.Pairwise fun x y=>x.1 < y.1) → apart (idK L) = true
 | [],_=>rfl
 | (j, c) :: L, h => by
   obtain ⟨h1,h2⟩:=List.pairwise_cons.1 h
   have hk : hasKey L j = false:=hasKey_false_of fun x hx=>by have:=h1 x hx;simp only at this;omega
   have h3:=lendKey_idK (L:=L) (k:=j)
   have h4:=pinOf_idK L j
   rw [hk] at h4
   simp only [idK] at h3 h4
   simp only [idK,List.map_cons,apart,h3,h4,if_neg Bool.false_ne_true,Option.isNone_none,Bool.true_and];exact apart_idK h2
theorem sameKeysN_idK : ∀ {L : List (Nat × RowC)},(∀ x ∈ L,okN x.2 = true) → sameKeysN (idK L) L = true
 | [],_=>rfl
 | (j, c) :: L, h => by
   simp only [idK,List.map_cons,sameKeysN,decide_true,Bool.true_and,Bool.and_eq_true];exact ⟨h (j,c) (by simp),sameKeysN_idK fun x hx=>h x (by simp [hx])⟩
theorem smallK_idK {L : List (Nat × RowC)} (h : ∀ x ∈ L,x.1 < 1000) : smallK (idK L) = true:=by
 simp only [smallK,idK,List.all_map,List.all_eq_true,Function.comp_def,decide_eq_true_eq];exact h
theorem lendOk_idK {ρ : List (Nat × Nat)} {s : AS} : ∀ {L : List (Nat × RowC)},(∀ x ∈ L,lendC ρ s.ver (s.rows x.1).c = some x.2) → lendOk ρ s (idK L) L
 | [],_=>trivial
 | (j,c) :: L,h=>⟨rfl,h (j,c) (by simp),lendOk_idK fun x hx=>h x (by simp [hx])⟩
theorem lendL_append {ρ : List (Nat × Nat)} {ver : Nat → Nat} : ∀ {a b a' b' : List AV},lendL ρ ver a = some a' → lendL ρ ver b = some b' → lendL ρ ver (a ++ b) = some (a' ++ b')
 | [],b,a',b',h,h'=>by simp only [lendL,Option.some.injEq] at h;subst h;exact h'
 | x :: a, b, a', b', h, h' => by
   simp only [lendL] at h
   split at h
   · rename_i y ys e1 e2
     injection h with h
     subst h
     simp only [List.cons_append,lendL,e1,lendL_append e2 h']
   · cases h
theorem backL_append {ρ : List (Nat × Nat)} {ver : Nat → Nat} : ∀ {a b : List AV},backL ρ ver (a ++ b) = backL ρ ver a ++ backL ρ ver b
 | [],_=>by simp only [backL,List.nil_append]
 | x :: a,b=>by simp only [List.cons_append,backL,backL_append (a:=a)]
theorem newCs_app {σ : List (Nat × Nat)} {ver : Nat → Nat} {L : List (Nat × RowC)} : ∀ {a b : List (Nat × Nat)} {cs : List (Nat × RowC)},newCs σ ver L (a ++ b) cs = newCs σ ver L b (newCs σ ver L a cs)
 | [],_,_=>rfl
 | (pk,ck) :: a,b,cs=>by simp only [List.cons_append,newCs];exact newCs_app
theorem newCs_fam {σ : List (Nat × Nat)} {ver : Nat → Nat} {L : List (Nat × RowC)} {f : Nat → RowC} : ∀ {n : Nat} {cs : List (Nat × RowC)},(∀ x ∈ cs,x.1 < 600) →
 newCs σ ver L (idK (fam f n)) cs = cs ++ fam (fun j=>backC σ ver (lookc L (j + 600))) n
 | 0,cs,_=>by simp [fam,idK,newCs]
 | n + 1, cs, h => by
   simp only [fam,idK_app,newCs_app,newCs_fam (n:=n) h];simp only [idK,List.map_cons,List.map_nil,newCs];rw [insc_app_gt (fun x hx=>?_),List.append_assoc]
   rcases List.mem_append.1 hx with hx | hx
   · have:=h x hx;omega
   · have:=fam_keys hx;omega
theorem newVs_idK {vs : Nat → Nat} {L : List (Nat × RowC)} (h : L.Pairwise fun x y=>x.1 < y.1) (k : Nat) : newVs vs (idK L) k = if hasKey L k then vs k + 1 else vs k:=by
 rw [newVs_eq (apart_idK h)]
 unfold newVer
 rw [lendKey_idK,pinOf_idK]
 cases hasKey L k <;> rfl
end Go.Oc

namespace Go.Proofs.Ytgfbenanljjgaaa.Du.Th.Ai
open Go Go.Oc
set_option maxRecDepth 8000
set_option maxHeartbeats 4000000
theorem fitV_subS {n : Nat} {F : (Nat → Nat) → List (Nat × AV)} {R : (Nat → Nat) → List (Nat × RowC)} {s s' : AS} (h : Sub s s') (hf : FitV n F R s') : FitV n F R s:=by
 obtain ⟨vs,hf⟩:=hf
 exact ⟨vs,h.trans hf⟩
def vI (b : Nat → Bool) (k : Nat) (v : AV) : AV:=bif b k then v else .r .un
def lA (l : List Am) (j : Nat) : Am:=l.getD j ⟨0,[]⟩
def ow0F (r : Rk) (a : Am) (i : Nat) (b : Nat → Bool) (vs : Nat → Nat) : List (Nat × AV) :=
 [(1,.r (.rp [i64 r.d,aimsR r.aims,i64 r.start,i64 r.out])),(2,.pt 2 (vs 2) 0),(3,.pt 3 (vs 3) 0),(4,.r (i64 (i : Int))),(5,.r (.rp [i64 a.at_,bedsR a.beds])),
  (29,vI b 0 (.pt 3 (vs 3) 0)),
  (30,vI b 1 (.pt 3 (vs 3) 1)),
  (31,vI b 2 (.r .ns)),
  (32,vI b 3 (.r (.rp [i64 a.at_,bedsR a.beds]))),
  (33,vI b 4 (.r (i64 a.at_))),
  (34,vI b 5 (.r .ns)),
  (35,vI b 6 (.r (.rp [bedsR a.beds]))),
  (36,vI b 7 (.r (bedsR a.beds))),
  (37,vI b 8 (.os (i + 600) (vs (i + 600)) 3 0 a.beds.length)),
  (38,vI b 9 (.ag [.r (i64 a.at_),.os (i + 600) (vs (i + 600)) 3 0 a.beds.length])),
  (39,vI b 10 (.os 39 (vs 39) 2 0 1)),
  (40,vI b 11 (.os 40 (vs 40) 2 0 (i + 1))),
  (41,vI b 12 (.pt 3 (vs 3) 0)),
  (42,vI b 13 (.pt 3 (vs 3) 1))]
def ow0R (r : Rk) (a : Am) (i : Nat) (b : Nat → Bool) (vs : Nat → Nat) : List (Nat × RowC) :=
 bif b 14 then (2,.box [.r (i64 0),.r .ns,.r (i64 0),.r (i64 0)]) :: (3,.box [.r (i64 r.d),.os 40 (vs 40) 2 0 (i + 1),.r (i64 r.start),.r (i64 r.out)]) :: (39,.ara 63 2 [.r (i64 a.at_),.os (i + 600) (vs (i + 600)) 3 0 a.beds.length]) :: (40,.ara 63 2 (araG (lA r.aims) vs (i + 1))) :: fam (famG (lA r.aims)) (i + 1)
 else bif b 11 then (2,.box [.r (i64 0),.r .ns,.r (i64 0),.r (i64 0)]) :: (3,.box [.r (i64 r.d),.r .ns,.r (i64 r.start),.r (i64 r.out)]) :: (39,.ara 63 2 [.r (i64 a.at_),.os (i + 600) (vs (i + 600)) 3 0 a.beds.length]) :: (40,.ara 63 2 (araG (lA r.aims) vs (i + 1))) :: fam (famG (lA r.aims)) (i + 1)
 else bif b 10 then (2,.box [.r (i64 0),.r .ns,.r (i64 0),.r (i64 0)]) :: (3,.box [.r (i64 r.d),.r .ns,.r (i64 r.start),.r (i64 r.out)]) :: (39,.ara 63 2 [.r (i64 a.at_),.os (i + 600) (vs (i + 600)) 3 0 a.beds.length]) :: fam (famG (lA r.aims)) (i + 1)
 else bif b 8 then (2,.box [.r (i64 0),.r .ns,.r (i64 0),.r (i64 0)]) :: (3,.box [.r (i64 r.d),.r .ns,.r (i64 r.start),.r (i64 r.out)]) :: fam (famG (lA r.aims)) (i + 1)
 else (2,.box [.r (i64 0),.r .ns,.r (i64 0),.r (i64 0)]) :: (3,.box [.r (i64 r.d),.r .ns,.r (i64 r.start),.r (i64 r.out)]) :: fam (famG (lA r.aims)) i
def ow1F (r : Rk) (a : Am) (i : Nat) (b : Nat → Bool) (vs : Nat → Nat) : List (Nat × AV) :=
 [(1,.r (.rp [i64 r.d,aimsR r.aims,i64 r.start,i64 r.out])),(2,.pt 2 (vs 2) 0),(3,.pt 3 (vs 3) 0),(4,.r (i64 (i : Int))),(5,.r (.rp [i64 a.at_,bedsR a.beds])),
  (29,vI b 0 (.pt 3 (vs 3) 0)),
  (30,vI b 1 (.pt 3 (vs 3) 1)),
  (31,vI b 2 (.os 40 (bif b 11 then vs 40 - 1 else vs 40) 2 0 i)),
  (32,vI b 3 (.r (.rp [i64 a.at_,bedsR a.beds]))),
  (33,vI b 4 (.r (i64 a.at_))),
  (34,vI b 5 (.r .ns)),
  (35,vI b 6 (.r (.rp [bedsR a.beds]))),
  (36,vI b 7 (.r (bedsR a.beds))),
  (37,vI b 8 (.os (i + 600) (vs (i + 600)) 3 0 a.beds.length)),
  (38,vI b 9 (.ag [.r (i64 a.at_),.os (i + 600) (vs (i + 600)) 3 0 a.beds.length])),
  (39,vI b 10 (.os 39 (vs 39) 2 0 1)),
  (40,vI b 11 (.os 40 (vs 40) 2 0 (i + 1))),
  (41,vI b 12 (.pt 3 (vs 3) 0)),
  (42,vI b 13 (.pt 3 (vs 3) 1))]
def ow1R (r : Rk) (a : Am) (i : Nat) (b : Nat → Bool) (vs : Nat → Nat) : List (Nat × RowC) :=
 bif b 14 then (2,.box [.r (i64 0),.r .ns,.r (i64 0),.r (i64 0)]) :: (3,.box [.r (i64 r.d),.os 40 (vs 40) 2 0 (i + 1),.r (i64 r.start),.r (i64 r.out)]) :: (39,.ara 63 2 [.r (i64 a.at_),.os (i + 600) (vs (i + 600)) 3 0 a.beds.length]) :: (40,.ara 63 2 (araG (lA r.aims) vs (i + 1))) :: fam (famG (lA r.aims)) (i + 1)
 else bif b 11 then (2,.box [.r (i64 0),.r .ns,.r (i64 0),.r (i64 0)]) :: (3,.box [.r (i64 r.d),.os 40 (vs 40 - 1) 2 0 i,.r (i64 r.start),.r (i64 r.out)]) :: (39,.ara 63 2 [.r (i64 a.at_),.os (i + 600) (vs (i + 600)) 3 0 a.beds.length]) :: (40,.ara 63 2 (araG (lA r.aims) vs (i + 1))) :: fam (famG (lA r.aims)) (i + 1)
 else bif b 10 then (2,.box [.r (i64 0),.r .ns,.r (i64 0),.r (i64 0)]) :: (3,.box [.r (i64 r.d),.os 40 (vs 40) 2 0 i,.r (i64 r.start),.r (i64 r.out)]) :: (39,.ara 63 2 [.r (i64 a.at_),.os (i + 600) (vs (i + 600)) 3 0 a.beds.length]) :: (40,.ara 63 2 (araG (lA r.aims) vs i)) :: fam (famG (lA r.aims)) (i + 1)
 else bif b 8 then (2,.box [.r (i64 0),.r .ns,.r (i64 0),.r (i64 0)]) :: (3,.box [.r (i64 r.d),.os 40 (vs 40) 2 0 i,.r (i64 r.start),.r (i64 r.out)]) :: (40,.ara 63 2 (araG (lA r.aims) vs i)) :: fam (famG (lA r.aims)) (i + 1)
 else (2,.box [.r (i64 0),.r .ns,.r (i64 0),.r (i64 0)]) :: (3,.box [.r (i64 r.d),.os 40 (vs 40) 2 0 i,.r (i64 r.start),.r (i64 r.out)]) :: (40,.ara 63 2 (araG (lA r.aims) vs i)) :: fam (famG (lA r.aims)) i
def owX (i : Nat) (vs : Nat → Nat) : AV:=if i = 0 then .r .ns else .os 40 (vs 40) 2 0 i
def owR (r : Rk) (i : Nat) (vs : Nat → Nat) : List (Nat × RowC):=(2,.box [.r (i64 0),.r .ns,.r (i64 0),.r (i64 0)]) :: (3,.box [.r (i64 r.d),owX i vs,.r (i64 r.start),.r (i64 r.out)]) :: (if i = 0 then [] else (40,.ara 63 2 (araG (lA r.aims) vs i)) :: fam (famG (lA r.aims)) i)
theorem araG_updN {A : Nat → Am} {n a : Nat} {v : Nat → Nat} : araG A (upd v (n + 600) a) n = araG A v n:=araG_congr fun j hj=>⟨by simp only [upd,if_neg (show ¬ j + 600 = n + 600 by omega)],rfl,rfl⟩
def owL (l : List Am) : List (Nat × RowC):=(40,.ara 63 2 (araG (lA l) (fun _=>0) l.length)) :: fam (famG (lA l)) l.length
theorem owL_pw (l : List Am) : (owL l).Pairwise fun x y=>x.1 < y.1:=List.pairwise_cons.2 ⟨fun x hx=>by have:=fam_keys hx;simp only;omega,fam_pw _⟩
theorem owL_lt {l : List Am} (hl : l.length ≤ 300) : ∀ x ∈ owL l,x.1 < 1000:=fun x hx=>by
 rcases List.mem_cons.1 hx with rfl | hx
 · show 40 < 1000;decide
 · have:=fam_keys hx;omega
theorem owL_has {l : List Am} (j : Nat) : hasKey (owL l) (j + 600) = decide (j < l.length):=by
 have h : hasKey (owL l) (j + 600) = ((40 == j + 600) || hasKey (fam (famG (lA l)) l.length) (j + 600)):=rfl
 have e : (40 == j + 600) = false:=by simp
 rw [h,e,hasKey_fam,Bool.false_or]
theorem owL_lend {ρ : List (Nat × Nat)} {A : Nat → Am} {vs : Nat → Nat} : ∀ {n : Nat},(∀ j,j < n → zLk ρ (j + 600) = some (j + 600)) → lendL ρ vs (araG A vs n) = some (araG A (fun _=>0) n)
 | 0,_=>by simp only [araG,lendL]
 | n + 1, h => by
   refine lendL_append (owL_lend fun j hj=>h j (by omega)) ?_
   simp only [lendL,lendA,h n (by omega),if_true]
theorem owL_back {ρ : List (Nat × Nat)} {A : Nat → Am} {vs u : Nat → Nat} : ∀ {n : Nat},(∀ j,j < n → pinOf ρ (j + 600) = some (j + 600)) → backL ρ vs (araG A u n) = araG A vs n
 | 0,_=>by simp only [araG,backL]
 | n + 1, h => by
   simp only [araG];rw [backL_append,owL_back fun j hj=>h j (by omega)]
   simp only [backL,backA,h n (by omega)]
theorem own_new (r : Rk) (h0 : 1 ≤ r.aims.length) (hl : r.aims.length ≤ 300) (hb : ∀ a ∈ r.aims,1 ≤ a.beds.length ∧ a.beds.length ≤ 1000) :
 NCalls Try.prog 15 [rkR r] (owL r.aims) (.ag [.r (i64 r.d),.os 40 0 2 0 r.aims.length,.r (i64 r.start),.r (i64 r.out)]):=by
 refine ncalls_st (n:=44) _ _ (.cell 2 27) Try.func15 rfl (by kernel_rfl) Try.ntmps15 rfl (by simp) (apart_idK (owL_pw r.aims)) (by simpa using owL_lt hl) fun C hC=>?_
 refine zq ?_
 refine zb fun K hK=>?_;simp only [go_sem];refine hK _ ?_;clear hK K;refine zw (zfP 1 1 [i64 r.d,aimsR r.aims,i64 r.start,i64 r.out] (by omega) rfl rfl) ?_;refine zw (zk [1,2]) ?_;simp only [go_sem]
 refine zq ?_
 refine zb fun K hK=>?_;simp only [go_sem];refine hK _ ?_;clear hK K;refine zw (zk [1,2,3]) ?_;simp only [go_sem]
 repeat refine zq ?_
 refine zb fun K hK=>?_;simp only [go_sem];refine hK _ ?_;clear hK K;refine zw (zk [1,2,3,4]) ?_;simp only [go_sem];refine zd ?_
 refine zuv (n:=44) r.aims.length (fun i vs=>[(1,.r (.rp [i64 r.d,aimsR r.aims,i64 r.start,i64 r.out])),(2,.pt 2 (vs 2) 0),(3,.pt 3 (vs 3) 0),(4,.r (i64 (i : Int)))])
  (owR r) (fun _=>True) 0 (zj [] ?_ ?_) (Nat.zero_le _) trivial ?_
 · try simp only [go_sem]
 · simp only [owR,owX,if_true]
   try simp only [go_sem]
 · intro i vs hi _
   repeat refine zq ?_
   refine zb fun K hK=>?_;simp only [go_sem]
   intro _
   refine hK _ ?_;clear hK K;refine zw (zk [1,2,3,4,20]) ?_;simp only [go_sem]
   refine zc rfl (fun hc=>?_) (fun hc=>?_) <;> (try simp only [go_sem] at hc)
   · have hci : i < r.aims.length:=by omega
     obtain ⟨a,hx⟩:=zol hci
     have ha:=hb a (zmo hx)
     have hla : lA r.aims i = a:=by unfold lA;rw [List.getD_eq_getElem?_getD,hx];rfl
     refine zx ?_
     try simp only [go_sem]
     refine zq ?_
     refine zd ?_
     rcases Nat.eq_zero_or_pos i with hz | hz
     · subst hz
       simp only [owR,owX,if_true]
       refine zq ?_
       refine zb fun K hK=>?_;simp only [go_sem,hx,hci,aimR,List.length_map]
       refine ⟨by omega,?_⟩
       refine hK _ ?_;clear hK K;refine zw (zfP 5 5 [i64 a.at_,bedsR a.beds] (by omega) (by try simp only [go_sem]) (by try simp only [go_sem])) ?_;refine zw (zk [1,2,3,4,5]) ?_;simp only [go_sem]
       refine awp_invL (n:=44) (ow0F r a 0) (ow0R r a 0) follows (by kernel_rfl) (by kernel_rfl) (by decide +kernel) (zj [] ?_ ?_) ?_ ?_
       · simp only [go_sem,ow0F,vI,if_true,if_false,Bool.false_eq_true]
       · simp only [go_sem,ow0R,cond_false,List.cons_append,List.nil_append,fam]
       · refine ⟨fun b vs hdn hbk hde=>.inl ?_,fun b vs hdn hbk hde=>.inl ?_,fun b vs hdn hbk hde=>.inl ?_,fun b vs hdn hbk hde=>.inl ?_,fun b vs hdn hbk hde=>.inl ?_,fun b vs hdn hbk hde=>.inl ?_,fun b vs hdn hbk hde=>.inl ?_,fun b vs hdn hbk hde=>.inl ?_,fun b vs hdn hbk hde=>.inl ?_,fun b vs hdn hbk hde=>.inl ?_,fun b vs hdn hbk hde=>.inr (.inl ?_),fun b vs hdn hbk hde=>.inr (.inr ?_),fun b vs hdn hbk hde=>.inl ?_,fun b vs hdn hbk hde=>.inl ?_,fun b vs hdn hbk hde=>.inl ?_,trivial⟩
         · skip
           have G:=dnT hdn hbk [1,12,13,14,2,11] (by decide +kernel)
           simp only [allB,and_true] at G
           cases g8 : b 8 <;> cases g10 : b 10
           all_goals (simp only [go_sem,ow0F,ow0R,upd,vI,cond_true,cond_false,if_true,Bool.false_eq_true,if_false,hbk,G,g8,g10,hx,hci,aimR,fam,famG,hla,araG,List.nil_append,List.append_nil,List.length_map])
           all_goals (refine zj [] ?_ ?_ <;> (simp only [go_sem,ow0F,ow0R,upd,vI,cond_true,cond_false,if_true,Bool.false_eq_true,if_false,hbk,G,g8,g10,hx,hci,aimR,fam,famG,hla,araG,List.nil_append,List.append_nil,List.length_map]))
         · skip
           have H:=upT hdn hde [0] (by decide +kernel)
           have G:=dnT hdn hbk [2,12,13,14,11] (by decide +kernel)
           simp only [allB,and_true] at H G
           cases g8 : b 8 <;> cases g10 : b 10
           all_goals (simp only [go_sem,ow0F,ow0R,upd,vI,cond_true,cond_false,if_true,Bool.false_eq_true,if_false,hbk,H,G,g8,g10,hx,hci,aimR,fam,famG,hla,araG,List.nil_append,List.append_nil,List.length_map])
           all_goals (refine zj [] ?_ ?_ <;> (simp only [go_sem,ow0F,ow0R,upd,vI,cond_true,cond_false,if_true,Bool.false_eq_true,if_false,hbk,H,G,g8,g10,hx,hci,aimR,fam,famG,hla,araG,List.nil_append,List.append_nil,List.length_map]))
         · skip
           have H:=upT hdn hde [1,0] (by decide +kernel)
           have G:=dnT hdn hbk [11,12,13,14] (by decide +kernel)
           simp only [allB,and_true] at H G
           cases g8 : b 8 <;> cases g10 : b 10
           all_goals (simp only [go_sem,ow0F,ow0R,upd,vI,cond_true,cond_false,if_true,Bool.false_eq_true,if_false,hbk,H,G,g8,g10,hx,hci,aimR,fam,famG,hla,araG,List.nil_append,List.append_nil,List.length_map])
           all_goals (refine zj [] ?_ ?_ <;> (simp only [go_sem,ow0F,ow0R,upd,vI,cond_true,cond_false,if_true,Bool.false_eq_true,if_false,hbk,H,G,g8,g10,hx,hci,aimR,fam,famG,hla,araG,List.nil_append,List.append_nil,List.length_map]))
         · skip
           have G:=dnT hdn hbk [4,12,13,14,9,10,11] (by decide +kernel)
           simp only [allB,and_true] at G
           cases g8 : b 8
           all_goals (simp only [go_sem,ow0F,ow0R,upd,vI,cond_true,cond_false,if_true,Bool.false_eq_true,if_false,hbk,G,g8,hx,hci,aimR,fam,famG,hla,araG,List.nil_append,List.append_nil,List.length_map])
           all_goals (refine zj [] ?_ ?_ <;> (simp only [go_sem,ow0F,ow0R,upd,vI,cond_true,cond_false,if_true,Bool.false_eq_true,if_false,hbk,G,g8,hx,hci,aimR,fam,famG,hla,araG,List.nil_append,List.append_nil,List.length_map]))
         · skip
           have H:=upT hdn hde [3] (by decide +kernel)
           have G:=dnT hdn hbk [9,12,13,14,10,11] (by decide +kernel)
           simp only [allB,and_true] at H G
           cases g8 : b 8
           all_goals (simp only [go_sem,ow0F,ow0R,upd,vI,cond_true,cond_false,if_true,Bool.false_eq_true,if_false,hbk,H,G,g8,hx,hci,aimR,fam,famG,hla,araG,List.nil_append,List.append_nil,List.length_map])
           all_goals (refine zj [] ?_ ?_ <;> (simp only [go_sem,ow0F,ow0R,upd,vI,cond_true,cond_false,if_true,Bool.false_eq_true,if_false,hbk,H,G,g8,hx,hci,aimR,fam,famG,hla,araG,List.nil_append,List.append_nil,List.length_map]))
         · skip
           have G:=dnT hdn hbk [8,12,13,14,9,11,10] (by decide +kernel)
           simp only [allB,and_true] at G
           (simp only [go_sem,ow0F,ow0R,upd,vI,cond_true,cond_false,if_true,Bool.false_eq_true,if_false,hbk,G,hx,hci,aimR,fam,famG,hla,araG,List.nil_append,List.append_nil,List.length_map])
           all_goals (refine zj [] ?_ ?_ <;> (simp only [go_sem,ow0F,ow0R,upd,vI,cond_true,cond_false,if_true,Bool.false_eq_true,if_false,hbk,G,hx,hci,aimR,fam,famG,hla,araG,List.nil_append,List.append_nil,List.length_map]))
         · skip
           have G:=dnT hdn hbk [7,12,13,14,8,9,11,10] (by decide +kernel)
           simp only [allB,and_true] at G
           (simp only [go_sem,ow0F,ow0R,upd,vI,cond_true,cond_false,if_true,Bool.false_eq_true,if_false,hbk,G,hx,hci,aimR,fam,famG,hla,araG,List.nil_append,List.append_nil,List.length_map])
           all_goals (refine zj [] ?_ ?_ <;> (simp only [go_sem,ow0F,ow0R,upd,vI,cond_true,cond_false,if_true,Bool.false_eq_true,if_false,hbk,G,hx,hci,aimR,fam,famG,hla,araG,List.nil_append,List.append_nil,List.length_map]))
         · skip
           have H:=upT hdn hde [6] (by decide +kernel)
           have G:=dnT hdn hbk [8,12,13,14,9,11,10] (by decide +kernel)
           simp only [allB,and_true] at H G
           (simp only [go_sem,ow0F,ow0R,upd,vI,cond_true,cond_false,if_true,Bool.false_eq_true,if_false,hbk,H,G,hx,hci,aimR,fam,famG,hla,araG,List.nil_append,List.append_nil,List.length_map])
           all_goals (refine zj [] ?_ ?_ <;> (simp only [go_sem,ow0F,ow0R,upd,vI,cond_true,cond_false,if_true,Bool.false_eq_true,if_false,hbk,H,G,hx,hci,aimR,fam,famG,hla,araG,List.nil_append,List.append_nil,List.length_map]))
         · skip
           have H:=upT hdn hde [5,7,6] (by decide +kernel)
           have G:=dnT hdn hbk [9,11,12,13,14,10] (by decide +kernel)
           simp only [allB,and_true] at H G
           (simp only [go_sem,ow0F,ow0R,upd,vI,cond_true,cond_false,if_true,Bool.false_eq_true,if_false,hbk,H,G,hx,hci,aimR,fam,famG,hla,araG,List.nil_append,List.append_nil,List.length_map])
           all_goals (try refine ⟨⟨by omega,by omega⟩,?_⟩)
           all_goals refine fitV_subS (sub_move (sz:=3) (off:=0) (m:=a.beds.length) (ty:=68) (sz':=3) (es:=a.beds.map bedR) 37 37 600 (by omega) (by omega) (by omega) (by try simp only [go_sem]) (by try simp only [go_sem]) (by try simp only [go_sem])) ?_
           all_goals simp only [go_sem,hx,hci,aimR,fam,famG,hla,araG,List.nil_append,List.append_nil,List.length_map,zdf,Nat.reduceLT]
           all_goals (refine zj [] ?_ ?_ <;> (simp only [go_sem,ow0F,ow0R,upd,vI,cond_true,cond_false,if_true,Bool.false_eq_true,if_false,hbk,H,G,hx,hci,aimR,fam,famG,hla,araG,List.nil_append,List.append_nil,List.length_map]))
         · skip
           have H:=upT hdn hde [4,8,3,5,7,6] (by decide +kernel)
           have G:=dnT hdn hbk [10,12,13,14,11] (by decide +kernel)
           simp only [allB,and_true] at H G
           (simp only [go_sem,ow0F,ow0R,upd,vI,cond_true,cond_false,if_true,Bool.false_eq_true,if_false,hbk,H,G,hx,hci,aimR,fam,famG,hla,araG,List.nil_append,List.append_nil,List.length_map])
           all_goals (refine zj [] ?_ ?_ <;> (simp only [go_sem,ow0F,ow0R,upd,vI,cond_true,cond_false,if_true,Bool.false_eq_true,if_false,hbk,H,G,hx,hci,aimR,fam,famG,hla,araG,List.nil_append,List.append_nil,List.length_map]))
         · skip
           have H:=upT hdn hde [9,4,8,3,5,7,6] (by decide +kernel)
           have G:=dnT hdn hbk [11,12,13,14] (by decide +kernel)
           simp only [allB,and_true] at H G
           (simp only [go_sem,ow0F,ow0R,upd,vI,cond_true,cond_false,if_true,Bool.false_eq_true,if_false,hbk,H,G,hx,hci,aimR,fam,famG,hla,araG,List.nil_append,List.append_nil,List.length_map,xlit,sLitBox,lay,List.replicate_succ,List.replicate_zero,List.flatten_cons,List.flatten_nil,List.map_cons,List.map_nil,List.cons_append,List.nil_append])
           all_goals (refine zj [] ?_ ?_ <;> (simp only [go_sem,ow0F,ow0R,upd,vI,cond_true,cond_false,if_true,Bool.false_eq_true,if_false,hbk,H,G,hx,hci,aimR,fam,famG,hla,araG,List.nil_append,List.append_nil,List.length_map]))
         · skip
           have H:=upT hdn hde [2,8,10,1,5,7,9,0,6,4,3] (by decide +kernel)
           have G:=dnT hdn hbk [12,13,14] (by decide +kernel)
           simp only [allB,and_true] at H G
           (simp only [go_sem,ow0F,ow0R,upd,vI,cond_true,cond_false,if_true,Bool.false_eq_true,if_false,hbk,H,G,hx,hci,aimR,fam,famG,hla,araG,List.nil_append,List.append_nil,List.length_map,xappB,sAppB,List.length_cons,List.length_nil,decide_true])
           all_goals (refine zj [] ?_ ?_ <;> (simp only [go_sem,ow0F,ow0R,upd,vI,cond_true,cond_false,if_true,Bool.false_eq_true,if_false,hbk,H,G,hx,hci,aimR,fam,famG,hla,araG,List.nil_append,List.append_nil,List.length_map]))
         · skip
           have H:=upT hdn hde [0,1,2,3,4,5,6,7,8,9,10,11] (by decide +kernel)
           have G:=dnT hdn hbk [13,14] (by decide +kernel)
           simp only [allB,and_true] at H G
           (simp only [go_sem,ow0F,ow0R,upd,vI,cond_true,cond_false,if_true,Bool.false_eq_true,if_false,hbk,H,G,hx,hci,aimR,fam,famG,hla,araG,List.nil_append,List.append_nil,List.length_map])
           all_goals (refine zj [] ?_ ?_ <;> (simp only [go_sem,ow0F,ow0R,upd,vI,cond_true,cond_false,if_true,Bool.false_eq_true,if_false,hbk,H,G,hx,hci,aimR,fam,famG,hla,araG,List.nil_append,List.append_nil,List.length_map]))
         · skip
           have H:=upT hdn hde [0,1,2,3,4,5,6,7,8,9,10,11,12] (by decide +kernel)
           have G:=dnT hdn hbk [14] (by decide +kernel)
           simp only [allB,and_true] at H G
           (simp only [go_sem,ow0F,ow0R,upd,vI,cond_true,cond_false,if_true,Bool.false_eq_true,if_false,hbk,H,G,hx,hci,aimR,fam,famG,hla,araG,List.nil_append,List.append_nil,List.length_map])
           all_goals (refine zj [] ?_ ?_ <;> (simp only [go_sem,ow0F,ow0R,upd,vI,cond_true,cond_false,if_true,Bool.false_eq_true,if_false,hbk,H,G,hx,hci,aimR,fam,famG,hla,araG,List.nil_append,List.append_nil,List.length_map]))
         · skip
           have H:=upT hdn hde [0,1,2,3,4,5,6,7,8,9,10,11,11,11,13,12] (by decide +kernel)
           simp only [allB,and_true] at H
           (simp only [go_sem,ow0F,ow0R,upd,vI,cond_true,cond_false,if_true,Bool.false_eq_true,if_false,hbk,H,hx,hci,aimR,fam,famG,hla,araG,List.nil_append,List.append_nil,List.length_map])
           all_goals (refine zj [] ?_ ?_ <;> (simp only [go_sem,ow0F,ow0R,upd,vI,cond_true,cond_false,if_true,Bool.false_eq_true,if_false,hbk,H,hx,hci,aimR,fam,famG,hla,araG,List.nil_append,List.append_nil,List.length_map]))
       intro b vs hb
       simp only [go_sem,ow0F,ow0R,vI,hb,if_true,cond_true,List.cons_append,List.nil_append]
       have dl : ∀ (F : Nat → RowC) n k,k < 600 → delc (fam F n) k = fam F n:=fun F n k h=>zdf h
       refine zw (zk [1,2,3,4]) ?_;simp only [go_sem];refine zb fun K hK=>?_;simp only [go_sem];(try simp (disch:=omega) only [zI]);refine hK _ ?_;clear hK K
       try simp only [go_sem]
       refine ⟨by omega,zj [39] ?_ ?_⟩
       · try simp only [go_sem]
       · simp only [owR,owX,if_neg (show ¬ 0 + 1 = 0 by omega),go_sem,dl]
         try rfl
     · have hi0 : ¬ i = 0:=by omega
       simp only [owR,owX,if_neg hi0]
       refine zq ?_
       refine zb fun K hK=>?_;simp only [go_sem,hx,hci,aimR,List.length_map];refine hK _ ?_;clear hK K;refine zw (zfP 5 5 [i64 a.at_,bedsR a.beds] (by omega) (by try simp only [go_sem]) (by try simp only [go_sem])) ?_;refine zw (zk [1,2,3,4,5]) ?_;simp only [go_sem]
       have acl : ∀ v,(araG (lA r.aims) v i).length = i * 2:=fun v=>araG_len
       have ag1 : ∀ v k a n,k < 600 → araG (lA r.aims) (upd v k a) n = araG (lA r.aims) v n:=fun v k a n h=>araG_upd h
       have ag2 : ∀ v a,araG (lA r.aims) (upd v (i + 600) a) i = araG (lA r.aims) v i:=fun v a=>araG_updN
       have hnl : ∀ a,a ≤ 600 → (i + 600 < a) = False:=fun a h=>by simp only [eq_iff_iff,iff_false];omega
       have hfi : insc (fam (famG (lA r.aims)) i) (i + 600) (.arr 68 3 (a.beds.map bedR)) = fam (famG (lA r.aims)) (i + 1):=by
        rw [insc_fam_new]
        congr 1
        have : famG (lA r.aims) i = .arr 68 3 (a.beds.map bedR):=by unfold famG;rw [hla]
        rw [← this,upd_self]
       refine awp_invL (n:=44) (ow1F r a i) (ow1R r a i) follows (by kernel_rfl) (by kernel_rfl) (by decide +kernel) (zj [] ?_ ?_) ?_ ?_
       · simp only [go_sem,ow1F,vI,if_true,if_false,Bool.false_eq_true]
       · simp only [go_sem,ow1R,cond_false,List.cons_append,List.nil_append,zdf,ag1,Nat.reduceLT]
       · refine ⟨fun b vs hdn hbk hde=>.inl ?_,fun b vs hdn hbk hde=>.inl ?_,fun b vs hdn hbk hde=>.inl ?_,fun b vs hdn hbk hde=>.inl ?_,fun b vs hdn hbk hde=>.inl ?_,fun b vs hdn hbk hde=>.inl ?_,fun b vs hdn hbk hde=>.inl ?_,fun b vs hdn hbk hde=>.inl ?_,fun b vs hdn hbk hde=>.inl ?_,fun b vs hdn hbk hde=>.inl ?_,fun b vs hdn hbk hde=>.inr (.inl ?_),fun b vs hdn hbk hde=>.inr (.inr ?_),fun b vs hdn hbk hde=>.inl ?_,fun b vs hdn hbk hde=>.inl ?_,fun b vs hdn hbk hde=>.inl ?_,trivial⟩
         · skip
           have G:=dnT hdn hbk [1,12,13,14,2,11] (by decide +kernel)
           simp only [allB,and_true] at G
           cases g8 : b 8 <;> cases g10 : b 10
           all_goals (simp only [go_sem,ow1F,ow1R,upd,vI,cond_true,cond_false,if_true,Bool.false_eq_true,if_false,hbk,G,g8,g10,hx,hci,aimR,hla,araG,acl,hnl,ag1,ag2,Nat.reduceLeDiff,Nat.reduceLT,Nat.add_sub_cancel,List.length_map])
           all_goals (refine zj [] ?_ ?_ <;> (simp only [go_sem,ow1F,ow1R,upd,vI,cond_true,cond_false,if_true,Bool.false_eq_true,if_false,hbk,G,g8,g10,hx,hci,aimR,hla,araG,acl,hnl,ag1,ag2,Nat.reduceLeDiff,Nat.reduceLT,Nat.add_sub_cancel,List.length_map]))
         · skip
           have H:=upT hdn hde [0] (by decide +kernel)
           have G:=dnT hdn hbk [2,12,13,14,11] (by decide +kernel)
           simp only [allB,and_true] at H G
           cases g8 : b 8 <;> cases g10 : b 10
           all_goals (simp only [go_sem,ow1F,ow1R,upd,vI,cond_true,cond_false,if_true,Bool.false_eq_true,if_false,hbk,H,G,g8,g10,hx,hci,aimR,hla,araG,acl,hnl,ag1,ag2,Nat.reduceLeDiff,Nat.reduceLT,Nat.add_sub_cancel,List.length_map])
           all_goals (refine zj [] ?_ ?_ <;> (simp only [go_sem,ow1F,ow1R,upd,vI,cond_true,cond_false,if_true,Bool.false_eq_true,if_false,hbk,H,G,g8,g10,hx,hci,aimR,hla,araG,acl,hnl,ag1,ag2,Nat.reduceLeDiff,Nat.reduceLT,Nat.add_sub_cancel,List.length_map]))
         · skip
           have H:=upT hdn hde [1,0] (by decide +kernel)
           have G:=dnT hdn hbk [11,12,13,14] (by decide +kernel)
           simp only [allB,and_true] at H G
           cases g8 : b 8 <;> cases g10 : b 10
           all_goals (simp only [go_sem,ow1F,ow1R,upd,vI,cond_true,cond_false,if_true,Bool.false_eq_true,if_false,hbk,H,G,g8,g10,hx,hci,aimR,hla,araG,acl,hnl,ag1,ag2,Nat.reduceLeDiff,Nat.reduceLT,Nat.add_sub_cancel,List.length_map])
           all_goals (refine zj [] ?_ ?_ <;> (simp only [go_sem,ow1F,ow1R,upd,vI,cond_true,cond_false,if_true,Bool.false_eq_true,if_false,hbk,H,G,g8,g10,hx,hci,aimR,hla,araG,acl,hnl,ag1,ag2,Nat.reduceLeDiff,Nat.reduceLT,Nat.add_sub_cancel,List.length_map]))
         · skip
           have G:=dnT hdn hbk [4,12,13,14,9,10,11] (by decide +kernel)
           simp only [allB,and_true] at G
           cases g8 : b 8
           all_goals (simp only [go_sem,ow1F,ow1R,upd,vI,cond_true,cond_false,if_true,Bool.false_eq_true,if_false,hbk,G,g8,hx,hci,aimR,hla,araG,acl,hnl,ag1,ag2,Nat.reduceLeDiff,Nat.reduceLT,Nat.add_sub_cancel,List.length_map])
           all_goals (refine zj [] ?_ ?_ <;> (simp only [go_sem,ow1F,ow1R,upd,vI,cond_true,cond_false,if_true,Bool.false_eq_true,if_false,hbk,G,g8,hx,hci,aimR,hla,araG,acl,hnl,ag1,ag2,Nat.reduceLeDiff,Nat.reduceLT,Nat.add_sub_cancel,List.length_map]))
         · skip
           have H:=upT hdn hde [3] (by decide +kernel)
           have G:=dnT hdn hbk [9,12,13,14,10,11] (by decide +kernel)
           simp only [allB,and_true] at H G
           cases g8 : b 8
           all_goals (simp only [go_sem,ow1F,ow1R,upd,vI,cond_true,cond_false,if_true,Bool.false_eq_true,if_false,hbk,H,G,g8,hx,hci,aimR,hla,araG,acl,hnl,ag1,ag2,Nat.reduceLeDiff,Nat.reduceLT,Nat.add_sub_cancel,List.length_map])
           all_goals (refine zj [] ?_ ?_ <;> (simp only [go_sem,ow1F,ow1R,upd,vI,cond_true,cond_false,if_true,Bool.false_eq_true,if_false,hbk,H,G,g8,hx,hci,aimR,hla,araG,acl,hnl,ag1,ag2,Nat.reduceLeDiff,Nat.reduceLT,Nat.add_sub_cancel,List.length_map]))
         · skip
           have G:=dnT hdn hbk [8,12,13,14,9,11,10] (by decide +kernel)
           simp only [allB,and_true] at G
           (simp only [go_sem,ow1F,ow1R,upd,vI,cond_true,cond_false,if_true,Bool.false_eq_true,if_false,hbk,G,hx,hci,aimR,hla,araG,acl,hnl,ag1,ag2,Nat.reduceLeDiff,Nat.reduceLT,Nat.add_sub_cancel,List.length_map])
           all_goals (refine zj [] ?_ ?_ <;> (simp only [go_sem,ow1F,ow1R,upd,vI,cond_true,cond_false,if_true,Bool.false_eq_true,if_false,hbk,G,hx,hci,aimR,hla,araG,acl,hnl,ag1,ag2,Nat.reduceLeDiff,Nat.reduceLT,Nat.add_sub_cancel,List.length_map]))
         · skip
           have G:=dnT hdn hbk [7,12,13,14,8,9,11,10] (by decide +kernel)
           simp only [allB,and_true] at G
           (simp only [go_sem,ow1F,ow1R,upd,vI,cond_true,cond_false,if_true,Bool.false_eq_true,if_false,hbk,G,hx,hci,aimR,hla,araG,acl,hnl,ag1,ag2,Nat.reduceLeDiff,Nat.reduceLT,Nat.add_sub_cancel,List.length_map])
           all_goals (refine zj [] ?_ ?_ <;> (simp only [go_sem,ow1F,ow1R,upd,vI,cond_true,cond_false,if_true,Bool.false_eq_true,if_false,hbk,G,hx,hci,aimR,hla,araG,acl,hnl,ag1,ag2,Nat.reduceLeDiff,Nat.reduceLT,Nat.add_sub_cancel,List.length_map]))
         · skip
           have H:=upT hdn hde [6] (by decide +kernel)
           have G:=dnT hdn hbk [8,12,13,14,9,11,10] (by decide +kernel)
           simp only [allB,and_true] at H G
           (simp only [go_sem,ow1F,ow1R,upd,vI,cond_true,cond_false,if_true,Bool.false_eq_true,if_false,hbk,H,G,hx,hci,aimR,hla,araG,acl,hnl,ag1,ag2,Nat.reduceLeDiff,Nat.reduceLT,Nat.add_sub_cancel,List.length_map])
           all_goals (refine zj [] ?_ ?_ <;> (simp only [go_sem,ow1F,ow1R,upd,vI,cond_true,cond_false,if_true,Bool.false_eq_true,if_false,hbk,H,G,hx,hci,aimR,hla,araG,acl,hnl,ag1,ag2,Nat.reduceLeDiff,Nat.reduceLT,Nat.add_sub_cancel,List.length_map]))
         · skip
           have H:=upT hdn hde [5,7,6] (by decide +kernel)
           have G:=dnT hdn hbk [9,11,12,13,14,10] (by decide +kernel)
           simp only [allB,and_true] at H G
           (simp only [go_sem,ow1F,ow1R,upd,vI,cond_true,cond_false,if_true,Bool.false_eq_true,if_false,hbk,H,G,hx,hci,aimR,hla,araG,acl,hnl,ag1,ag2,Nat.reduceLeDiff,Nat.reduceLT,Nat.add_sub_cancel,List.length_map])
           all_goals (try refine ⟨⟨by omega,by omega⟩,?_⟩)
           all_goals refine fitV_subS (sub_move (sz:=3) (off:=0) (m:=a.beds.length) (ty:=68) (sz':=3) (es:=a.beds.map bedR) 37 37 (i + 600) (by omega) (by omega) (by omega) (by try simp only [go_sem]) (by try simp only [go_sem]) (by simp only [go_sem,zlc,lookc_fam_new,Nat.le_refl])) ?_
           all_goals simp only [go_sem,hx,hci,aimR,hla,araG,acl,hnl,ag1,ag2,Nat.reduceLeDiff,Nat.reduceLT,Nat.add_sub_cancel,List.length_map,zdf,Nat.reduceLT,hfi]
           all_goals (refine zj [] ?_ ?_ <;> (simp only [go_sem,ow1F,ow1R,upd,vI,cond_true,cond_false,if_true,Bool.false_eq_true,if_false,hbk,H,G,hx,hci,aimR,hla,araG,acl,hnl,ag1,ag2,Nat.reduceLeDiff,Nat.reduceLT,Nat.add_sub_cancel,List.length_map,hfi]))
         · skip
           have H:=upT hdn hde [4,8,3,5,7,6] (by decide +kernel)
           have G:=dnT hdn hbk [10,12,13,14,11] (by decide +kernel)
           simp only [allB,and_true] at H G
           (simp only [go_sem,ow1F,ow1R,upd,vI,cond_true,cond_false,if_true,Bool.false_eq_true,if_false,hbk,H,G,hx,hci,aimR,hla,araG,acl,hnl,ag1,ag2,Nat.reduceLeDiff,Nat.reduceLT,Nat.add_sub_cancel,List.length_map])
           all_goals (refine zj [] ?_ ?_ <;> (simp only [go_sem,ow1F,ow1R,upd,vI,cond_true,cond_false,if_true,Bool.false_eq_true,if_false,hbk,H,G,hx,hci,aimR,hla,araG,acl,hnl,ag1,ag2,Nat.reduceLeDiff,Nat.reduceLT,Nat.add_sub_cancel,List.length_map]))
         · skip
           have H:=upT hdn hde [9,4,8,3,5,7,6] (by decide +kernel)
           have G:=dnT hdn hbk [11,12,13,14] (by decide +kernel)
           simp only [allB,and_true] at H G
           (simp only [go_sem,ow1F,ow1R,upd,vI,cond_true,cond_false,if_true,Bool.false_eq_true,if_false,hbk,H,G,hx,hci,aimR,hla,araG,acl,hnl,ag1,ag2,Nat.reduceLeDiff,Nat.reduceLT,Nat.add_sub_cancel,List.length_map,xlit,sLitBox,lay,List.replicate_succ,List.replicate_zero,List.flatten_cons,List.flatten_nil,List.map_cons,List.map_nil,List.cons_append,List.nil_append])
           all_goals (refine zj [] ?_ ?_ <;> (simp only [go_sem,ow1F,ow1R,upd,vI,cond_true,cond_false,if_true,Bool.false_eq_true,if_false,hbk,H,G,hx,hci,aimR,hla,araG,acl,hnl,ag1,ag2,Nat.reduceLeDiff,Nat.reduceLT,Nat.add_sub_cancel,List.length_map]))
         · skip
           have H:=upT hdn hde [2,8,10,1,5,7,9,0,6,4,3] (by decide +kernel)
           have G:=dnT hdn hbk [12,13,14] (by decide +kernel)
           simp only [allB,and_true] at H G
           (simp only [go_sem,ow1F,ow1R,upd,vI,cond_true,cond_false,if_true,Bool.false_eq_true,if_false,hbk,H,G,hx,hci,aimR,hla,araG,acl,hnl,ag1,ag2,Nat.reduceLeDiff,Nat.reduceLT,Nat.add_sub_cancel,List.length_map,xappB,sAppB,List.length_cons,List.length_nil,decide_true])
           all_goals refine ⟨⟨by omega,by omega,by omega⟩,?_⟩
           all_goals (refine zj [] ?_ ?_ <;> (simp only [go_sem,ow1F,ow1R,upd,vI,cond_true,cond_false,if_true,Bool.false_eq_true,if_false,hbk,H,G,hx,hci,aimR,hla,araG,acl,hnl,ag1,ag2,Nat.reduceLeDiff,Nat.reduceLT,Nat.add_sub_cancel,List.length_map]))
         · skip
           have H:=upT hdn hde [0,1,2,3,4,5,6,7,8,9,10,11] (by decide +kernel)
           have G:=dnT hdn hbk [13,14] (by decide +kernel)
           simp only [allB,and_true] at H G
           (simp only [go_sem,ow1F,ow1R,upd,vI,cond_true,cond_false,if_true,Bool.false_eq_true,if_false,hbk,H,G,hx,hci,aimR,hla,araG,acl,hnl,ag1,ag2,Nat.reduceLeDiff,Nat.reduceLT,Nat.add_sub_cancel,List.length_map])
           all_goals (refine zj [] ?_ ?_ <;> (simp only [go_sem,ow1F,ow1R,upd,vI,cond_true,cond_false,if_true,Bool.false_eq_true,if_false,hbk,H,G,hx,hci,aimR,hla,araG,acl,hnl,ag1,ag2,Nat.reduceLeDiff,Nat.reduceLT,Nat.add_sub_cancel,List.length_map]))
         · skip
           have H:=upT hdn hde [0,1,2,3,4,5,6,7,8,9,10,11,12] (by decide +kernel)
           have G:=dnT hdn hbk [14] (by decide +kernel)
           simp only [allB,and_true] at H G
           (simp only [go_sem,ow1F,ow1R,upd,vI,cond_true,cond_false,if_true,Bool.false_eq_true,if_false,hbk,H,G,hx,hci,aimR,hla,araG,acl,hnl,ag1,ag2,Nat.reduceLeDiff,Nat.reduceLT,Nat.add_sub_cancel,List.length_map])
           all_goals (refine zj [] ?_ ?_ <;> (simp only [go_sem,ow1F,ow1R,upd,vI,cond_true,cond_false,if_true,Bool.false_eq_true,if_false,hbk,H,G,hx,hci,aimR,hla,araG,acl,hnl,ag1,ag2,Nat.reduceLeDiff,Nat.reduceLT,Nat.add_sub_cancel,List.length_map]))
         · skip
           have H:=upT hdn hde [0,1,2,3,4,5,6,7,8,9,10,11,11,11,13,12] (by decide +kernel)
           simp only [allB,and_true] at H
           (simp only [go_sem,ow1F,ow1R,upd,vI,cond_true,cond_false,if_true,Bool.false_eq_true,if_false,hbk,H,hx,hci,aimR,hla,araG,acl,hnl,ag1,ag2,Nat.reduceLeDiff,Nat.reduceLT,Nat.add_sub_cancel,List.length_map])
           all_goals (refine zj [] ?_ ?_ <;> (simp only [go_sem,ow1F,ow1R,upd,vI,cond_true,cond_false,if_true,Bool.false_eq_true,if_false,hbk,H,hx,hci,aimR,hla,araG,acl,hnl,ag1,ag2,Nat.reduceLeDiff,Nat.reduceLT,Nat.add_sub_cancel,List.length_map]))
       intro b vs hb
       simp only [go_sem,ow1F,ow1R,vI,hb,if_true,cond_true,List.cons_append,List.nil_append]
       have dl : ∀ (F : Nat → RowC) n k,k < 600 → delc (fam F n) k = fam F n:=fun F n k h=>zdf h
       refine zw (zk [1,2,3,4]) ?_;simp only [go_sem];refine zb fun K hK=>?_;simp only [go_sem];(try simp (disch:=omega) only [zI]);refine hK _ ?_;clear hK K
       try simp only [go_sem]
       refine ⟨by omega,zj [39] ?_ ?_⟩
       · try simp only [go_sem]
       · simp only [owR,owX,if_neg (show ¬ i + 1 = 0 by omega),go_sem,dl,ag1,Nat.reduceLT]
         try rfl
   · have hie : i = r.aims.length:=by omega
     subst hie
     simp only [owR,owX,if_neg (show ¬ r.aims.length = 0 by omega)];refine zf ?_;simp only [go_sem];refine zw (zk [2,3]) ?_;simp only [go_sem]
     refine zq ?_
     refine zb fun K hK=>?_;simp only [go_sem];refine hK _ ?_;clear hK K;refine zw (zk [2]) ?_;simp only [go_sem];refine ze ?_
     have hl24 : zLk (idK (owL r.aims)) 40 = some 40:=by rw [lendKey_idK,pinOf_idK];rfl
     have hlj : ∀ j,j < r.aims.length → zLk (idK (owL r.aims)) (j + 600) = some (j + 600):=fun j hj=>by rw [lendKey_idK,pinOf_idK,owL_has,decide_eq_true hj];rfl
     refine ⟨by simp only [resA,go_sem];trivial,?_,lendOk_idK fun x hx=>?_⟩
     · generalize idK (owL r.aims) = J at hl24 ⊢
       simp only [resA,go_sem]
       show lendA J vs (.ag [.r (i64 r.d),.os 40 (vs 40) 2 0 r.aims.length,.r (i64 r.start),.r (i64 r.out)]) = _
       simp only [lendA,lendL,hl24,if_true]
     · have hpl:=owL_lend (A:=lA r.aims) (vs:=vs) (n:=r.aims.length) hlj
       rcases List.mem_cons.1 hx with rfl | hx
       · show lendC _ vs (lookc _ 40) = _
         generalize idK (owL r.aims) = J at hpl ⊢
         simp only [go_sem,lendC,hpl]
       · obtain ⟨j,hj,rfl⟩:=fam_mem_iff.1 hx
         show lendC _ vs (lookc _ (j + 600)) = _
         rw [zlc,if_neg (by omega),zlc,if_neg (by omega),zlc,if_neg (by omega),lookc_fam hj]
         rfl
end Go.Proofs.Ytgfbenanljjgaaa.Du.Th.Ai

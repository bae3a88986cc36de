/- Part 11 of the texts of this claim. -/
import Derived.Test.YtobokbhpeaakjaaVL10
import Derived.Test.YtobokbhpeaakjaaVL8
import Derived.Test.YtobokbhpeaakjaaVL9
namespace Go.Proofs.Ytobokbhpeaakjaa
open Go Go.Oc
set_option linter.unusedSimpArgs false
set_option linter.unusedVariables false
theorem index_none' {α : Type} {p : α → Bool} : ∀ {l : List α},(∀ y ∈ l,p y = false) → indexF p l = -1
 | [],_=>rfl
 | y :: l, h => by
   have ih:=index_none' (l:=l) fun z hz=>h z (by simp [hz])
   unfold indexF
   rw [ih]
   simp [h y (by simp)]
theorem ded_len {r : Tr} (hr : RulesI r) : r.ded.length ≤ 10:=by
 rcases hr.ded with h | ⟨h,_⟩
 · rw [h]; simp
 · have:=hr.teams; omega
theorem check_good {r : Tr} {l : List Mt} (hr : RulesI r) (hl : ∀ m ∈ l,MatchI r m) (hll : l.length ≤ 180) : checkV r l = (0,0):=by
 have hd:=ded_len hr
 have hb : badM r l = -1:=index_none' fun x hx=>by simp [matchOk_iff.2 (hl x hx)]
 unfold checkV
 rw [if_neg (by omega),if_neg (by simp [rulesOk_iff.2 hr]),hb,if_neg (by omega)]
theorem wf_good {r : Tr} {l : List Mt} (hr : RulesI r) (hl : ∀ m ∈ l,MatchI r m) : Wf r l:=by
 obtain ⟨h1,h2,h3,h4,h5,h6,h7⟩:=hr
 refine ⟨⟨?_,?_,?_,?_,fun x hx=>?_,?_,?_⟩,fun m hm=>?_⟩
 · unfold I64; omega
 · unfold I64; omega
 · unfold I64; omega
 · unfold I64; omega
 · rcases h5 with h | ⟨_,h⟩
   · rw [h] at hx; simp at hx
   · have:=h x hx; unfold I64; omega
 · unfold I64; omega
 · unfold I64; omega
 · obtain ⟨a1,a2,a3,a4,a5⟩:=hl m hm
   have hlg : 0 ≤ legsOf r m ∧ legsOf r m ≤ 25:=by unfold legsOf; split <;> omega
   refine ⟨?_,?_,?_,?_⟩ <;> unfold I64 <;> omega
def tabT (r : Tr) (l : List Mt) : List Rw:=sortW (rowsL r l)
theorem tab_perm (r : Tr) (l : List Mt) : (tabT r l).Perm (rowsL r l):=by unfold tabT sortW; exact sortN_perm _ _
theorem tab_len (r : Tr) (l : List Mt) : (tabT r l).length = nT r:=by rw [(tab_perm r l).length_eq]; simp [rowsL]
theorem tab_mem {r : Tr} {l : List Mt} {w : Rw} (h : w ∈ tabT r l) : ∃ t,t < nT r ∧ w = rowT r l t:=by
 obtain ⟨t,ht,rfl⟩:=List.mem_map.1 ((tab_perm r l).mem_iff.1 h)
 exact ⟨t,List.mem_range.1 ht,rfl⟩
theorem tab_asc (r : Tr) (l : List Mt) : (tabT r l).Pairwise fun a b=>betB b a = false:=by
 have e : tabT r l = sortN betB (rowsL r l):=by
  have : betB = ltW:=funext fun a=>funext fun b=>betB_lt a b
  unfold tabT sortW; rw [this]
 rw [e]
 exact sortN_asc betB_asym betB_trans _
theorem tab_nodup {r : Tr} {l : List Mt} : ((tabT r l).map (·.team)).Nodup:=by
 refine ((tab_perm r l).map _).nodup_iff.2 ?_
 unfold rowsL
 rw [List.map_map]
 have : ((fun x : Rw=>x.team) ∘ rowT r l) = fun i : Nat=>(i : Int):=funext fun i=>team_row r l i
 rw [this]
 unfold List.Nodup
 rw [List.pairwise_map]
 exact List.nodup_range.imp fun hab e=>hab (by omega)
def seenB (T : List Rw) (i : Nat) : List Bool:=(List.range 10).map fun j : Nat=>(T.take i).any fun w=>w.team == (j : Int)
def ctr (r : Tr) (m : Mt) (x : Int) (i : Nat) : Int:=(if m.h.toNat = i then (ptsV r x).1 else 0) + (if m.a.toNat = i then (ptsV r x).2 else 0)
def ctrs (r : Tr) : List Mt → List Int → Nat → Int
 | m :: ms,x :: xs,i=>ctr r m x i + ctrs r ms xs i
 | _,_,_=>0
def truthOf (r : Tr) (left : List Mt) (t : Th) (res : List Int) : Th :=
 ⟨t.res ++ res,(List.range 10).map fun i=>t.pts.getD i 0 + ctrs r left res i,(List.range 10).map fun i=>t.won.getD i 0 + ctrs r left res i⟩
def resL (r : Tr) : Nat → List (List Int)
 | 0=>[[]]
 | n + 1=>(xsOf r).flatMap fun x=>(resL r n).map (x :: ·)
theorem getD_set (l : List Int) (h : Nat) (v : Int) (i : Nat) (hh : h < l.length) : (l.set h v).getD i 0 = if h = i then v else l.getD i 0:=by
 rw [List.getD_eq_getElem?_getD,List.getElem?_set,List.getD_eq_getElem?_getD]
 by_cases e : h = i
 · subst e; rw [if_pos rfl,if_pos rfl,if_pos hh]; rfl
 · rw [if_neg e,if_neg e]
theorem bump_getD (l : List Int) (h a : Nat) (p q : Int) (i : Nat) (hh : h < l.length) (ha : a < l.length) (hne : h ≠ a) : (bump l h a p q).getD i 0 = l.getD i 0 + ((if h = i then p else 0) + (if a = i then q else 0)):=by
 unfold bump
 rw [getD_set _ _ _ _ (by simpa using ha),getD_set _ _ _ _ hh]
 by_cases e : a = i
 · subst e; rw [if_pos rfl,if_pos rfl,if_neg hne]; omega
 · by_cases e2 : h = i
   · subst e2; rw [if_neg e,if_neg e,if_pos rfl,if_pos rfl]; omega
   · rw [if_neg e,if_neg e,if_neg e2,if_neg e2]; omega
theorem range_getD (l : List Int) (h : l.length = 10) : (List.range 10).map (fun i=>l.getD i 0) = l:=by
 refine List.ext_getElem? fun i=>?_
 rw [List.getElem?_map]
 by_cases hi : i < 10
 · rw [List.getElem?_range hi,Option.map_some,List.getD_eq_getElem?_getD,List.getElem?_eq_getElem (by omega)]; rfl
 · rw [List.getElem?_eq_none (by simp; omega),List.getElem?_eq_none (by omega)]; rfl
theorem truthOf_nil (r : Tr) (t : Th) (h : t.pts.length = 10) (h2 : t.won.length = 10) : truthOf r [] t [] = t:=by
 unfold truthOf
 simp only [ctrs,Int.add_zero,List.append_nil];rw [range_getD _ h,range_getD _ h2]
theorem truthOf_cons (r : Tr) (m : Mt) (ms : List Mt) (t : Th) (x : Int) (xs : List Int) (h : t.pts.length = 10) (h2 : t.won.length = 10) (hh : m.h.toNat < 10) (ha : m.a.toNat < 10) (hne : m.h.toNat ≠ m.a.toNat) :
 truthOf r ms (nextT r m x t) xs = truthOf r (m :: ms) t (x :: xs):=by
 unfold truthOf nextT
 simp only [ctrs,List.append_assoc,List.cons_append,List.nil_append]
 congr 1
 · refine List.map_congr_left fun i _=>?_
   rw [bump_getD _ _ _ _ _ _ (by omega) (by omega) hne]
   unfold ctr; omega
 · refine List.map_congr_left fun i _=>?_
   rw [bump_getD _ _ _ _ _ _ (by omega) (by omega) hne]
   unfold ctr; omega
theorem flatMap_ext {α β : Type} {l : List α} {f g : α → List β} (h : ∀ x ∈ l,f x = g x) : l.flatMap f = l.flatMap g:=by
 induction l with
 | nil=>rfl
 | cons x l ih=>rw [List.flatMap_cons,List.flatMap_cons,h x (by simp),ih fun y hy=>h y (by simp [hy])]
theorem truthsV_eq {r : Tr} (hr : RulesI r) : ∀ (left : List Mt) (t : Th),(∀ m ∈ left,MatchI r m) → t.pts.length = 10 → t.won.length = 10 →
 truthsV r left t = (resL r left.length).map (truthOf r left t)
 | [],t,_,h1,h2=>by simp only [truthsV,resL,List.length_nil,List.map_cons,List.map_nil]; rw [truthOf_nil r t h1 h2]
 | m :: ms, t, hm, h1, h2 => by
   have hmi:=hm m (by simp)
   have b1:=hmi.h
   have b2:=hmi.a
   have b3:=hmi.ne
   have b4:=hr.teams
   simp only [truthsV,resL,List.length_cons,List.map_flatMap,List.map_map]
   refine flatMap_ext fun x _=>?_
   rw [truthsV_eq hr ms _ (fun m' h=>hm m' (by simp [h])) (by simp [nextT,bump_len,h1]) (by simp [nextT,bump_len,h2])]
   refine List.map_congr_left fun xs _=>?_
   exact truthOf_cons r m ms t x xs h1 h2 (by omega) (by omega) (by omega)
theorem left_mem {r : Tr} {l : List Mt} (h : ∀ m ∈ l,MatchI r m) : ∀ m ∈ leftV l,MatchI r m:=fun m hm=>h m ((List.mem_filter.1 hm).1)
theorem start_len {r : Tr} (hr : RulesI r) (l : List Mt) : (startT r l).pts.length = 10 ∧ (startT r l).won.length = 10:=by
 obtain ⟨hn,hn2,hn10⟩:=nT_eq hr
 refine ⟨?_,by simp [startT]⟩
 simp only [startT,List.length_append,ptsL_len,List.length_replicate]; omega
theorem truthsL_eq {r : Tr} (hr : RulesI r) {l : List Mt} (hl : ∀ m ∈ l,MatchI r m) : truthsL r l = (resL r (leftV l).length).map (truthOf r (leftV l) (startT r l)) :=
 truthsV_eq hr _ _ (left_mem hl) (start_len hr l).1 (start_len hr l).2
theorem resL_mem {r : Tr} : ∀ {n : Nat} {res : List Int},res ∈ resL r n ↔ res.length = n ∧ ∀ x ∈ res,x ∈ xsOf r
 | 0, res => by
   simp only [resL,List.mem_singleton]
   constructor
   · rintro rfl; simp
   · rintro ⟨h,_⟩; exact List.length_eq_zero_iff.1 h
 | n + 1, res => by
   simp only [resL,List.mem_flatMap,List.mem_map]
   constructor
   · rintro ⟨x,hx,ys,hy,rfl⟩
     obtain ⟨h1,h2⟩:=resL_mem.1 hy
     refine ⟨by simp [h1],fun z hz=>?_⟩
     rcases List.mem_cons.1 hz with rfl | hz
     · exact hx
     · exact h2 z hz
   · rintro ⟨h1,h2⟩
     cases res with
     | nil=>simp at h1
     | cons x ys=>exact ⟨x,h2 x (by simp),ys,resL_mem.2 ⟨by simpa using h1,fun z hz=>h2 z (by simp [hz])⟩,rfl⟩
set_option maxHeartbeats 2000000
def cM (r : Tr) (t : Nat) (m : Mt) : Int:=if m.p then (if m.h = (t : Int) then (ptsV r (resV m)).1 else if m.a = (t : Int) then (ptsV r (resV m)).2 else 0) else 0
theorem pts_sum (r : Tr) (l : List Mt) (t : Nat) : (rowT r l t).pts = (startW r t).pts + sumF (cM r t) l:=by
 induction l using snoc_ind with
 | h0=>simp [rowT,sumF]
 | h1 l m ih =>
   rw [rowT_snoc,sumF_app]
   simp only [sumF]
   have hc : cM r t m = if m.p then (if m.h = (t : Int) then (ptsV r (resV m)).1 else if m.a = (t : Int) then (ptsV r (resV m)).2 else 0) else 0:=rfl
   rw [hc]
   unfold stepW
   cases m.p
   · simp [ih]
   · simp only [if_true]
     (repeat' split) <;> simp only [addW,ih] <;> omega
theorem resV_put {r : Tr} (hr : RulesI r) {res : List Int} {k : Nat} {x : Int} (hk : res[k]? = some x) (hx : x ∈ xsOf r) {m : Mt} (hf : m.f = 0) : resV (putM r res k m) = x:=by
 have h1:=hr.legs
 have hx' : x = 0 ∨ (x = 1 ∧ r.legs % 2 = 0) ∨ x = 2:=by
  unfold xsOf at hx
  by_cases h : r.legs % 2 = 1
  · rw [if_pos h] at hx; simp at hx; omega
  · rw [if_neg h] at hx; simp at hx; omega
 unfold resV putM forV
 rw [hk,hf]
 rcases hx' with rfl | ⟨rfl,h⟩ | rfl
 · simp only [Option.some.injEq,if_true]; rw [if_pos (by omega)]
 · simp only [Option.some.injEq,if_true,Int.reduceEq,if_false]; rw [if_neg (by omega),if_neg (by omega)]
 · simp only [Option.some.injEq,if_true,Int.reduceEq,if_false]; rw [if_neg (by omega),if_pos (by omega)]
theorem leftV_cons (m : Mt) (l : List Mt) : leftV (m :: l) = if m.p then leftV l else m :: leftV l:=by
 unfold leftV; rw [List.filter_cons]; cases m.p <;> simp
theorem fill_sum {r : Tr} (hr : RulesI r) {res : List Int} (hx : ∀ x ∈ res,x ∈ xsOf r) (t : Nat) : ∀ (l : List Mt) (k : Nat),(∀ m ∈ l,MatchI r m) → k + (leftV l).length ≤ res.length →
 sumF (cM r t) (fillL r res k l) = sumF (cM r t) l + ctrs r (leftV l) (res.drop k) t
 | [],k,_,_=>by simp [fillL,sumF,leftV,ctrs]
 | m :: ms, k, hl, hk => by
   have hm:=hl m (by simp)
   have ih:=fun k' h=>fill_sum hr hx t ms k' (fun m' h=>hl m' (by simp [h])) h
   rw [leftV_cons] at hk ⊢
   unfold fillL
   cases hp : m.p with
   | true =>
     simp only [hp,if_true] at hk ⊢
     simp only [sumF,ih k hk]; omega
   | false =>
     simp only [hp,Bool.false_eq_true,if_false,List.length_cons] at hk ⊢
     obtain ⟨x,hxk⟩:=opt_of_lt (show k < res.length by omega)
     have hxm:=hx x (mem_of_opt hxk)
     have hlg : legsOf r m = 0:=by unfold legsOf; rw [hp]; rfl
     have hf:=hm.f
     rw [hlg] at hf
     have hrv:=resV_put hr hxk hxm (m:=m) (by omega)
     rw [drop_of_opt hxk]
     simp only [sumF,ctrs,ih (k + 1) (by omega)]
     have e1 : cM r t m = 0:=by unfold cM; rw [hp]; rfl
     have e2 : cM r t (putM r res k m) = ctr r m x t:=by
      have b1:=hm.h
      have b2:=hm.a
      have b3:=hm.ne
      unfold cM ctr
      rw [hrv]
      have p1 : (putM r res k m).p = true:=rfl
      have p2 : (putM r res k m).h = m.h:=rfl
      have p3 : (putM r res k m).a = m.a:=rfl
      rw [p1,p2,p3]
      simp only [if_true]
      (repeat' split) <;> omega
     rw [e1,e2]; omega
theorem start_getD {r : Tr} (l : List Mt) {t : Nat} (ht : t < nT r) : (startT r l).pts.getD t 0 = (rowT r l t).pts:=by
 unfold startT
 simp only
 rw [List.getD_eq_getElem?_getD,List.getElem?_append_left (by rw [ptsL_len]; exact ht)]
 unfold ptsL rowsL
 rw [List.getElem?_map,List.getElem?_map,List.getElem?_range ht]
 rfl
theorem fill_pts {r : Tr} (hr : RulesI r) {l : List Mt} (hl : ∀ m ∈ l,MatchI r m) {res : List Int} (hx : ∀ x ∈ res,x ∈ xsOf r) (hlen : res.length = (leftV l).length) {t : Nat} (ht : t < nT r) :
 (rowT r (fillL r res 0 l) t).pts = (truthOf r (leftV l) (startT r l) res).pts.getD t 0:=by
 obtain ⟨hn,hn2,hn10⟩:=nT_eq hr
 rw [pts_sum,fill_sum hr hx t l 0 hl (by omega),List.drop_zero]
 unfold truthOf
 simp only
 have hg : ((List.range 10).map fun i=>(startT r l).pts.getD i 0 + ctrs r (leftV l) res i).getD t 0 = (startT r l).pts.getD t 0 + ctrs r (leftV l) res t:=by
  rw [List.getD_eq_getElem?_getD,List.getElem?_map,List.getElem?_range (by omega)]; rfl
 rw [hg,start_getD l ht,pts_sum]; omega
def b1 (p : Prop) [Decidable p] : Int:=if p then 1 else 0
theorem places_cnt1 (T : Th) (x : Nat) : ∀ n,(placesV n T x).1 = 1 + sumF (fun j : Nat=>b1 (T.pts.getD x 0 < T.pts.getD j 0)) (List.range n)
 | 0=>by simp [placesV,sumF]
 | n + 1 => by
   rw [places_succ,List.range_succ,sumF_app]
   simp only [plS,sumF,places_cnt1 T x n,b1]
   omega
theorem places_cnt2' (T : Th) (x : Nat) : ∀ n,(placesV n T x).2 = (if x < n then 0 else 1) + sumF (fun j : Nat=>b1 (T.pts.getD x 0 ≤ T.pts.getD j 0)) (List.range n)
 | 0=>by simp [placesV,sumF]
 | n + 1 => by
   rw [places_succ,List.range_succ,sumF_app]
   simp only [plS,sumF,places_cnt2' T x n,b1]
   by_cases e : x = n
   · subst e
     rw [if_neg (Nat.lt_irrefl _),if_pos (show x < x + 1 by omega),if_neg (by simp),if_pos (Int.le_refl _)]; omega
   · have h1 : (x < n + 1) = (x < n):=by simp; omega
     simp only [h1]
     (repeat' split) <;> omega
theorem places_cnt2 (T : Th) {x n : Nat} (hx : x < n) : (placesV n T x).2 = sumF (fun j : Nat=>b1 (T.pts.getD x 0 ≤ T.pts.getD j 0)) (List.range n):=by
 rw [places_cnt2',if_pos hx]; omega
theorem cnt_tab (r : Tr) (l : List Mt) (g : Int → Int) : sumF (fun v : Rw=>g v.pts) (tabT r l) = sumF (fun j=>g (rowT r l j).pts) (List.range (nT r)):=by
 rw [sumF_perm _ (tab_perm r l)]
 unfold rowsL
 rw [sumF_map]
theorem cnt_le {α : Type} {p : α → Prop} [∀ x,Decidable (p x)] : ∀ l : List α,0 ≤ sumF (fun x=>b1 (p x)) l ∧ sumF (fun x=>b1 (p x)) l ≤ l.length
 | []=>by simp [sumF]
 | x :: l => by
   have ih:=cnt_le (p:=p) l
   simp only [sumF,b1,List.length_cons] at ih ⊢
   split <;> omega
theorem cnt_all {α : Type} {p : α → Prop} [∀ x,Decidable (p x)] : ∀ {l : List α},(∀ x ∈ l,p x) → sumF (fun x=>b1 (p x)) l = l.length
 | [],_=>rfl
 | x :: l, h => by
   have ih:=cnt_all (p:=p) (l:=l) fun y hy=>h y (by simp [hy])
   simp only [sumF,b1,List.length_cons] at ih ⊢
   rw [if_pos (h x (by simp)),ih]; omega
theorem betB_pts {a b : Rw} (h : betB a b = false) : a.pts ≤ b.pts:=by
 unfold betB at h
 by_cases e : a.pts = b.pts
 · omega
 · rw [if_pos e] at h
   have:=of_decide_eq_false h
   omega
theorem tab_place {r : Tr} {l : List Mt} {i : Nat} {w : Rw} (hw : (tabT r l)[i]? = some w) :
 sumF (fun v : Rw=>b1 (w.pts < v.pts)) (tabT r l) ≤ i ∧ (i : Int) + 1 ≤ sumF (fun v : Rw=>b1 (w.pts ≤ v.pts)) (tabT r l):=by
 have hasc:=tab_asc r l
 generalize tabT r l = T at *
 obtain ⟨hi,hwi⟩:=List.getElem?_eq_some_iff.1 hw
 have hT : T = T.take i ++ w :: T.drop (i + 1):=by rw [← drop_of_opt hw,List.take_append_drop]
 have hlt : (T.take i).length = i:=by rw [List.length_take]; omega
 have hd : ∀ v ∈ T.drop (i + 1),v.pts ≤ w.pts:=fun v hv=>by
  obtain ⟨k,hk,rfl⟩:=List.getElem_of_mem hv
  rw [List.length_drop] at hk
  rw [List.getElem_drop]
  have:=List.pairwise_iff_getElem.1 hasc i (i + 1 + k) hi (by omega) (by omega)
  rw [hwi] at this
  exact betB_pts this
 have ht : ∀ v ∈ T.take i,w.pts ≤ v.pts:=fun v hv=>by
  obtain ⟨k,hk,rfl⟩:=List.getElem_of_mem hv
  rw [hlt] at hk
  rw [List.getElem_take]
  have:=List.pairwise_iff_getElem.1 hasc k i (by omega) hi (by omega)
  rw [hwi] at this
  exact betB_pts this
 constructor
 · rw [hT,sumF_app]
   simp only [sumF]
   have h1:=(cnt_le (p:=fun v : Rw=>w.pts < v.pts) (T.take i)).2
   have h2 : sumF (fun v : Rw=>b1 (w.pts < v.pts)) (T.drop (i + 1)) = 0:=sumF_zero fun v hv=>by unfold b1; rw [if_neg (by have:=hd v hv; omega)]
   have h3 : b1 (w.pts < w.pts) = 0:=by unfold b1; rw [if_neg (by omega)]
   rw [h2,h3]; omega
 · rw [hT,sumF_app]
   simp only [sumF]
   have h1:=cnt_all (p:=fun v : Rw=>w.pts ≤ v.pts) ht
   have h2:=(cnt_le (p:=fun v : Rw=>w.pts ≤ v.pts) (T.drop (i + 1))).1
   have h3 : b1 (w.pts ≤ w.pts) = 1:=by unfold b1; rw [if_pos (by omega)]
   rw [h1,h3]; omega
theorem span_le (n x : Nat) {T : Th} {ts : List Th} (h : T ∈ ts) : (spanF n ts x).1 ≤ (placesV n T x).1 ∧ (placesV n T x).2 ≤ (spanF n ts x).2:=by
 induction ts using snoc_ind with
 | h0=>simp at h
 | h1 l t ih =>
   rw [spanF_snoc]
   unfold spanS
   simp only
   rcases List.mem_append.1 h with h | h
   · have:=ih h; omega
   · rw [List.mem_singleton] at h; subst h; omega
theorem place1_le (T : Th) {x n : Nat} (hx : x < n) : (placesV n T x).1 ≤ n:=by
 have hc:=places_cnt1 T x n
 have e : List.range n = List.range x ++ x :: (List.range n).drop (x + 1):=by
  rw [← drop_of_opt (l:=List.range n) (by rw [List.getElem?_range hx]),← List.take_append_drop x (List.range n),List.take_range]
  rw [Nat.min_eq_left (by omega)]
  simp
 have h1:=(cnt_le (p:=fun j : Nat=>T.pts.getD x 0 < T.pts.getD j 0) (List.range x)).2
 have h2:=(cnt_le (p:=fun j : Nat=>T.pts.getD x 0 < T.pts.getD j 0) ((List.range n).drop (x + 1))).2
 have h3 : b1 (T.pts.getD x 0 < T.pts.getD x 0) = 0:=by unfold b1; rw [if_neg (by omega)]
 rw [e,sumF_app] at hc
 simp only [sumF,h3] at hc
 rw [List.length_range] at h1
 rw [List.length_drop,List.length_range] at h2
 omega
theorem span_at1 {n x : Nat} (hx : x < n) {ts : List Th} (h : ts ≠ []) : ∃ T ∈ ts,(placesV n T x).1 = (spanF n ts x).1:=by
 induction ts using snoc_ind with
 | h0=>exact absurd rfl h
 | h1 l t ih =>
   rw [spanF_snoc]
   unfold spanS
   simp only
   by_cases hl : l = []
   · subst hl
     refine ⟨t,by simp,?_⟩
     have:=place1_le t hx
     simp only [spanF,List.foldl_nil]
     omega
   · obtain ⟨T,hT,e⟩:=ih hl
     by_cases hc : (spanF n l x).1 ≤ (placesV n t x).1
     · exact ⟨T,by simp [hT],by omega⟩
     · exact ⟨t,by simp,by omega⟩
theorem span_at2 {n x : Nat} {ts : List Th} (h : ts ≠ []) : ∃ T ∈ ts,(placesV n T x).2 = (spanF n ts x).2:=by
 induction ts using snoc_ind with
 | h0=>exact absurd rfl h
 | h1 l t ih =>
   rw [spanF_snoc]
   unfold spanS
   simp only
   by_cases hl : l = []
   · subst hl
     refine ⟨t,by simp,?_⟩
     have:=(places_le t x n).2.1
     simp only [spanF,List.foldl_nil]
     omega
   · obtain ⟨T,hT,e⟩:=ih hl
     by_cases hc : (placesV n t x).2 ≤ (spanF n l x).2
     · exact ⟨T,by simp [hT],by omega⟩
     · exact ⟨t,by simp,by omega⟩
structure ResI (r : Tr) (l : List Mt) (res : List Int) : Prop where
 len : res.length = (leftV l).length
 xs : ∀ x ∈ res,x ∈ xsOf r
abbrev trR (r : Tr) (l : List Mt) (res : List Int) : Th:=truthOf r (leftV l) (startT r l) res
theorem truth_mem {r : Tr} (hr : RulesI r) {l : List Mt} (hl : ∀ m ∈ l,MatchI r m) {res : List Int} (h : ResI r l res) : trR r l res ∈ truthsL r l:=by
 rw [truthsL_eq hr hl]
 exact List.mem_map.2 ⟨res,resL_mem.2 ⟨h.len,h.xs⟩,rfl⟩
theorem some_res {r : Tr} (hr : RulesI r) (l : List Mt) (bs : List Nat) : ResI r l (someV r l bs):=by
 refine ⟨by simp [someV],fun x hx=>?_⟩
 obtain ⟨k,_,rfl⟩:=List.mem_map.1 hx
 have h3:=rawB_lt bs k
 unfold someN xsOf
 generalize rawB bs k = n at *
 by_cases h1 : r.legs % 2 = 1
 · rw [if_pos h1]
   by_cases h2 : n = 1
   · rw [if_pos ⟨h2,h1⟩]; simp
   · rw [if_neg (fun h=>h2 h.1)]; simp; omega
 · rw [if_neg h1,if_neg (fun h=>h1 h.2)]; simp; omega
theorem fill_more {r : Tr} (hr : RulesI r) {l : List Mt} (hl : ∀ m ∈ l,MatchI r m) {res : List Int} (h : ResI r l res) {t : Nat} (ht : t < nT r) :
 1 + sumF (fun v : Rw=>b1 ((rowT r (fillL r res 0 l) t).pts < v.pts)) (tabT r (fillL r res 0 l)) = (placesV (nT r) (trR r l res) t).1:=by
 rw [places_cnt1,cnt_tab r _ fun a=>b1 ((rowT r (fillL r res 0 l) t).pts < a)]
 congr 1
 refine sumF_congr fun j hj=>?_
 rw [fill_pts hr hl h.xs h.len ht,fill_pts hr hl h.xs h.len (List.mem_range.1 hj)]
theorem fill_same {r : Tr} (hr : RulesI r) {l : List Mt} (hl : ∀ m ∈ l,MatchI r m) {res : List Int} (h : ResI r l res) {t : Nat} (ht : t < nT r) :
 sumF (fun v : Rw=>b1 ((rowT r (fillL r res 0 l) t).pts ≤ v.pts)) (tabT r (fillL r res 0 l)) = (placesV (nT r) (trR r l res) t).2:=by
 rw [places_cnt2 _ ht,cnt_tab r _ fun a=>b1 ((rowT r (fillL r res 0 l) t).pts ≤ a)]
 refine sumF_congr fun j hj=>?_
 rw [fill_pts hr hl h.xs h.len ht,fill_pts hr hl h.xs h.len (List.mem_range.1 hj)]
abbrev spF (r : Tr) (l : List Mt) (t : Nat) : Int × Int:=spanF (nT r) (truthsL r l) t
theorem sp_le {r : Tr} {l : List Mt} (x : Nat) {T : Th} (h : T ∈ truthsL r l) : (spF r l x).1 ≤ (placesV (nT r) T x).1 ∧ (placesV (nT r) T x).2 ≤ (spF r l x).2:=span_le _ _ h
theorem truthsL_ne {r : Tr} (hr : RulesI r) {l : List Mt} (hl : ∀ m ∈ l,MatchI r m) : truthsL r l ≠ []:=fun e=>by
 have:=truth_mem hr hl (some_res hr l [])
 rw [e] at this; simp at this
theorem sp_at1 {r : Tr} (hr : RulesI r) {l : List Mt} (hl : ∀ m ∈ l,MatchI r m) {t : Nat} (ht : t < nT r) : ∃ T ∈ truthsL r l,(placesV (nT r) T t).1 = (spF r l t).1:=span_at1 ht (truthsL_ne hr hl)
theorem sp_at2 {r : Tr} (hr : RulesI r) {l : List Mt} (hl : ∀ m ∈ l,MatchI r m) (t : Nat) : ∃ T ∈ truthsL r l,(placesV (nT r) T t).2 = (spF r l t).2:=span_at2 (truthsL_ne hr hl)
theorem sp_bounds {r : Tr} (hr : RulesI r) {l : List Mt} (hl : ∀ m ∈ l,MatchI r m) {t : Nat} (ht : t < nT r) : 1 ≤ (spF r l t).1 ∧ (spF r l t).1 ≤ (spF r l t).2 ∧ (spF r l t).2 ≤ 1 + nT r ∧ (spF r l t).1 ≤ nT r:=by
 obtain ⟨T,hT,e⟩:=sp_at1 hr hl ht
 obtain ⟨T',hT',e'⟩:=sp_at2 hr hl t
 have h1:=places_le T t (nT r)
 have h2:=places_le T' t (nT r)
 have h3:=place1_le T ht
 have h4:=(sp_le t hT).2
 have h5 : (placesV (nT r) T t).1 ≤ (placesV (nT r) T t).2:=by
  rw [places_cnt1,places_cnt2 _ ht]
  have e : List.range (nT r) = List.range t ++ t :: (List.range (nT r)).drop (t + 1):=by
   rw [← drop_of_opt (l:=List.range (nT r)) (by rw [List.getElem?_range ht]),← List.take_append_drop t (List.range (nT r)),List.take_range]
   rw [Nat.min_eq_left (by omega)]
   simp
  have hm : ∀ L : List Nat,sumF (fun j : Nat=>b1 (T.pts.getD t 0 < T.pts.getD j 0)) L ≤ sumF (fun j : Nat=>b1 (T.pts.getD t 0 ≤ T.pts.getD j 0)) L:=fun L=>by
   induction L with
   | nil=>exact Int.le_refl _
   | cons j L ih=>simp only [sumF,b1] at ih ⊢; (repeat' split) <;> omega
  rw [e,sumF_app,sumF_app]
  simp only [sumF]
  have a1:=hm (List.range t)
  have a2:=hm ((List.range (nT r)).drop (t + 1))
  have a3 : b1 (T.pts.getD t 0 < T.pts.getD t 0) = 0:=by unfold b1; rw [if_neg (by omega)]
  have a4 : b1 (T.pts.getD t 0 ≤ T.pts.getD t 0) = 1:=by unfold b1; rw [if_pos (by omega)]
  rw [a3,a4]; omega
 refine ⟨by omega,by omega,by omega,by omega⟩
def mineF (t : Nat) (T : List Rw) : Int:=T.foldl (fun a v=>if v.team = (t : Int) then v.pts else a) 0
set_option maxRecDepth 8000
set_option maxHeartbeats 4000000
theorem spans_at {r : Tr} {l : List Mt} {t : Nat} (ht : t < nT r) : (spansL r l)[t]? = some (spF r l t):=by
 unfold spansL; rw [List.getElem?_map,List.getElem?_range ht]; rfl
abbrev openM (m : Mt) : Mt:=⟨m.h,m.a,false,0,0⟩
def opn (q : Nat → Bool) : Nat → List Mt → List Mt
 | _,[]=>[]
 | i,m :: l=>(if q i then openM m else m) :: opn q (i + 1) l
def resO (q : Nat → Bool) : Nat → List Mt → List Int
 | _,[]=>[]
 | i,m :: l=>if q i then resV m :: resO q (i + 1) l else resO q (i + 1) l
theorem opn_snoc (q : Nat → Bool) (m : Mt) : ∀ (l : List Mt) (i : Nat),opn q i (l ++ [m]) = opn q i l ++ [if q (i + l.length) then openM m else m]
 | [],i=>by simp [opn]
 | x :: l, i => by
   simp only [List.cons_append,opn,opn_snoc q m l,List.length_cons]
   have : i + 1 + l.length = i + (l.length + 1):=by omega
   rw [this]
theorem opn_len (q : Nat → Bool) : ∀ (l : List Mt) (i : Nat),(opn q i l).length = l.length
 | [],_=>rfl
 | _ :: l,i=>by simp only [opn,List.length_cons,opn_len q l]
theorem opn_match {r : Tr} {q : Nat → Bool} : ∀ {l : List Mt} {i : Nat},(∀ m ∈ l,MatchI r m) → ∀ m ∈ opn q i l,MatchI r m
 | [],_,_,m,hm=>by simp [opn] at hm
 | x :: l, i, h, m, hm => by
   simp only [opn,List.mem_cons] at hm
   rcases hm with rfl | hm
   · have hx:=h x (by simp)
     split
     · exact ⟨hx.h,hx.a,hx.ne,by simp [legsOf],by simp [legsOf]⟩
     · exact hx
   · exact opn_match (fun y hy=>h y (by simp [hy])) m hm
theorem resV_xs {r : Tr} {m : Mt} (hm : MatchI r m) (hp : m.p = true) : resV m ∈ xsOf r:=by
 have h1:=hm.g
 have h2:=hm.f
 simp only [legsOf,hp,if_true] at h1 h2
 unfold resV xsOf
 by_cases h : r.legs % 2 = 1
 · rw [if_pos h]
   by_cases a : m.g < m.f
   · rw [if_pos a]; simp
   · rw [if_neg a,if_pos (by omega)]; simp
 · rw [if_neg h]
   split
   · simp
   · split <;> simp
theorem opn_res {r : Tr} {q : Nat → Bool} : ∀ {l : List Mt} {i : Nat},(∀ m ∈ l,MatchI r m ∧ m.p = true) → (resO q i l).length = (leftV (opn q i l)).length ∧ ∀ x ∈ resO q i l,x ∈ xsOf r
 | [],_,_=>by simp [resO,opn,leftV]
 | m :: l, i, h => by
   have hm:=h m (by simp)
   obtain ⟨i1,i2⟩:=opn_res (q:=q) (i:=i + 1) fun y hy=>h y (List.mem_cons_of_mem m hy)
   simp only [resO,opn]
   by_cases hq : q i = true
   · rw [if_pos hq,if_pos hq,leftV_cons]
     refine ⟨by simp [i1],fun x hx=>?_⟩
     rcases List.mem_cons.1 hx with rfl | hx
     · exact resV_xs hm.1 hm.2
     · exact i2 x hx
   · rw [if_neg hq,if_neg hq,leftV_cons,if_pos hm.2]
     exact ⟨i1,i2⟩
theorem opn_sum {r : Tr} (hr : RulesI r) (t : Nat) {q : Nat → Bool} {res : List Int} : ∀ {l : List Mt} {i k : Nat},(∀ m ∈ l,MatchI r m ∧ m.p = true) → res.drop k = resO q i l →
 sumF (cM r t) (fillL r res k (opn q i l)) = sumF (cM r t) l
 | [],_,_,_,_=>by simp [opn,fillL]
 | m :: l, i, k, h, hd => by
   have hm:=h m (by simp)
   have h' : ∀ y ∈ l,MatchI r y ∧ y.p = true:=fun y hy=>h y (List.mem_cons_of_mem m hy)
   simp only [opn]
   by_cases hq : q i = true
   · rw [if_pos hq]
     simp only [resO,if_pos hq] at hd
     have hk : res[k]? = some (resV m):=by
      have : (res.drop k)[0]? = some (resV m):=by rw [hd]; rfl
      simpa using this
     have hd2 : res.drop (k + 1) = resO q (i + 1) l:=by
      have : (res.drop k).drop 1 = resO q (i + 1) l:=by rw [hd]; rfl
      rwa [List.drop_drop] at this
     have hrv:=resV_put hr hk (resV_xs hm.1 hm.2) (m:=openM m) rfl
     unfold fillL
     rw [if_neg (by simp)]
     simp only [sumF,opn_sum hr t h' hd2]
     congr 1
     unfold cM
     rw [hrv,hm.2]
     rfl
   · rw [if_neg hq]
     simp only [resO,if_neg hq] at hd
     unfold fillL
     rw [if_pos hm.2]
     simp only [sumF,opn_sum hr t h' hd]
theorem opn_place {r : Tr} (hr : RulesI r) {l : List Mt} (hl : ∀ m ∈ l,MatchI r m ∧ m.p = true) (q : Nat → Bool) {i : Nat} {w : Rw} (hw : (tabT r l)[i]? = some w) :
 ∃ t,t < nT r ∧ w.team = (t : Int) ∧ (spF r (opn q 0 l) t).1 ≤ (i : Int) + 1 ∧ (i : Int) + 1 ≤ (spF r (opn q 0 l) t).2:=by
 have ho : ∀ m ∈ opn q 0 l,MatchI r m:=opn_match fun m hm=>(hl m hm).1
 have hres : ResI r (opn q 0 l) (resO q 0 l):=⟨(opn_res hl).1,(opn_res hl).2⟩
 have hpts : ∀ t,(rowT r (fillL r (resO q 0 l) 0 (opn q 0 l)) t).pts = (rowT r l t).pts:=fun t=>by
  rw [pts_sum,pts_sum,opn_sum hr t hl rfl]
 obtain ⟨t,ht,rfl⟩:=tab_mem (List.mem_of_getElem? hw)
 have hm:=fill_more hr ho hres ht
 have hs:=fill_same hr ho hres ht
 rw [cnt_tab r _ fun a=>b1 ((rowT r (fillL r (resO q 0 l) 0 (opn q 0 l)) t).pts < a)] at hm
 rw [cnt_tab r _ fun a=>b1 ((rowT r (fillL r (resO q 0 l) 0 (opn q 0 l)) t).pts ≤ a)] at hs
 simp only [hpts] at hm hs
 have h1:=tab_place hw
 rw [cnt_tab r _ fun a=>b1 ((rowT r l t).pts < a),cnt_tab r _ fun a=>b1 ((rowT r l t).pts ≤ a)] at h1
 have h3:=sp_le t (truth_mem hr ho hres)
 exact ⟨t,ht,team_row r _ t,by omega,by omega⟩
def fsN : List (FuncId × Nat):=[(15,0),(52,0),(85,0),(109,0),(86,0)]
def nOrc : Orc:=[]
def factN : Nat → Nat
 | 0=>1
 | n + 1=>factN n * (n + 1)
def digit (m N p : Nat) : Nat:=N / factN (m - 1 - p) % (m - p)
def leftAt (m N : Nat) : Nat → List Int
 | 0=>(List.range m).map fun (x : Nat)=>(x : Int)
 | i + 1=>(leftAt m N i).eraseIdx (digit m N i)
def outAt (m N : Nat) : Nat → List Int
 | 0=>[]
 | i + 1=>outAt m N i ++ [(leftAt m N i).getD (digit m N i) 0]
def drawL (m a b : Int) : List Int × Int :=
 if withinL 1 12 [m] = false then ([],3)
 else if withinL 0 2147483645 [a,b] = false then ([],2)
 else (outAt m.toNat (a + b).toNat m.toNat,0)
def digs (m N i : Nat) : List (List RV):=(List.range m).map fun p=>[i64 (if m ≤ p + i then ((digit m N p : Nat) : Int) else 0)]
def dOrc : Orc:=[(55,[i64 3,i64 4,i64 3],.tu [ints [0,2,1],i64 0]),(15,[i64 5],.tu [.sl 2 ([(0,-1),(1,-1),(2,-1),(3,4)].map prR),i64 0])]
def insBQ (lt : Nat → Nat → Bool) (x : Nat) : List Nat → List Nat
 | []=>[x]
 | y :: ys=>if lt x y then y :: insBQ lt x ys else x :: y :: ys
def sortBQ (lt : Nat → Nat → Bool) : List Nat → List Nat → List Nat
 | [],R=>R
 | x :: xs,R=>sortBQ lt xs (insBQ lt x R)
def sortNQ (lt : Nat → Nat → Bool) (l : List Nat) : List Nat:=(sortBQ lt l []).reverse
theorem insB_lenQ (lt : Nat → Nat → Bool) (x : Nat) : ∀ R,(insBQ lt x R).length = R.length + 1
 | []=>rfl
 | y :: R => by
   unfold insBQ
   split
   · simp [insB_lenQ lt x R]
   · rfl
theorem insB_skipQ (lt : Nat → Nat → Bool) (x : Nat) : ∀ (R : List Nat) (k : Nat),(∀ y ∈ R.take k,lt x y = true) → insBQ lt x R = R.take k ++ insBQ lt x (R.drop k)
 | R,0,_=>by simp
 | [],k + 1,_=>by simp
 | y :: R, k + 1, h => by
   have hy : lt x y = true:=h y (by simp)
   have ih:=insB_skipQ lt x R k fun z hz=>h z (by simp [hz])
   simp only [List.take_succ_cons,List.drop_succ_cons,List.cons_append];rw [← ih]
   simp [insBQ,hy]
theorem sortB_snocQ (lt : Nat → Nat → Bool) : ∀ (l : List Nat) (x : Nat) (R : List Nat),sortBQ lt (l ++ [x]) R = insBQ lt x (sortBQ lt l R)
 | [],_,_=>rfl
 | y :: l,x,R=>by simp only [List.cons_append,sortBQ]; exact sortB_snocQ lt l x _
theorem sortB_lenQ (lt : Nat → Nat → Bool) : ∀ (l R : List Nat),(sortBQ lt l R).length = l.length + R.length
 | [],R=>by simp [sortBQ]
 | x :: l,R=>by simp only [sortBQ]; rw [sortB_lenQ lt l,insB_lenQ]; simp; omega
theorem mem_insBQ (lt : Nat → Nat → Bool) (x z : Nat) : ∀ R,z ∈ insBQ lt x R ↔ z = x ∨ z ∈ R
 | []=>by simp [insBQ]
 | y :: R => by
   unfold insBQ
   split
   · simp only [List.mem_cons,mem_insBQ lt x z R]
     constructor
     · rintro (h | h | h) <;> simp [h]
     · rintro (h | h | h) <;> simp [h]
   · simp
theorem mem_sortBQ (lt : Nat → Nat → Bool) (z : Nat) : ∀ l R,z ∈ sortBQ lt l R ↔ z ∈ l ∨ z ∈ R
 | [],R=>by simp [sortBQ]
 | x :: l, R => by
   simp only [sortBQ];rw [mem_sortBQ lt z l,mem_insBQ]
   simp only [List.mem_cons]
   constructor
   · rintro (h | h | h) <;> simp [h]
   · rintro ((h | h) | h) <;> simp [h]
def holeLQ (R : List Nat) (x k : Nat) (rest : List Nat) : List Nat:=(R.drop k).reverse ++ x :: ((R.take k).reverse ++ rest)
theorem hole_lenQ (R : List Nat) (x k : Nat) (rest : List Nat) (hk : k ≤ R.length) : (holeLQ R x k rest).length = R.length + 1 + rest.length:=by
 simp [holeLQ]; omega
theorem hole_atQ (R : List Nat) (x k : Nat) (rest : List Nat) (hk : k ≤ R.length) : (holeLQ R x k rest)[R.length - k]? = some x:=by
 unfold holeLQ
 rw [List.getElem?_append_right (by simp)]
 simp
theorem hole_nextQ {R : List Nat} {x k y : Nat} {rest : List Nat} (hy : R[k]? = some y) : (holeLQ R x k rest)[R.length - k - 1]? = some y ∧ (holeLQ R x k rest) = (R.drop (k + 1)).reverse ++ y :: x :: ((R.take k).reverse ++ rest) ∧ holeLQ R x (k + 1) rest = (R.drop (k + 1)).reverse ++ x :: y :: ((R.take k).reverse ++ rest):=by
 have hk:=(List.getElem?_eq_some_iff.1 hy).1
 have hd:=drop_of_opt hy
 have ht:=take_of_opt hy
 have e1 : (holeLQ R x k rest) = (R.drop (k + 1)).reverse ++ y :: x :: ((R.take k).reverse ++ rest):=by
  unfold holeLQ; rw [hd]; simp
 refine ⟨?_,e1,by unfold holeLQ; rw [ht]; simp⟩
 rw [e1,List.getElem?_append_right (by simp; omega)]
 have : R.length - k - 1 - (R.drop (k + 1)).reverse.length = 0:=by simp; omega
 rw [this]; rfl
theorem hole_swapQ {α : Type} (g : Nat → α) {R : List Nat} {x k y : Nat} {rest : List Nat} (hy : R[k]? = some y) :
 (((holeLQ R x k rest).map g).set (R.length - k) (g y)).set (R.length - k - 1) (g x) = (holeLQ R x (k + 1) rest).map g:=by
 obtain ⟨_,e1,e2⟩:=hole_nextQ (x:=x) (rest:=rest) hy
 have hk:=(List.getElem?_eq_some_iff.1 hy).1
 rw [e1,e2,← List.map_set,← List.map_set]
 congr 1
 have hl : (R.drop (k + 1)).reverse.length = R.length - k - 1:=by simp; omega
 generalize (R.drop (k + 1)).reverse = A at hl
 generalize (R.take k).reverse ++ rest = B
 have e3 : R.length - k = A.length + 1:=by omega
 rw [e3,Nat.add_sub_cancel]
 rw [List.set_append_right _ _ (by omega)]
 simp only [Nat.add_sub_cancel_left,List.set_cons_succ,List.set_cons_zero];rw [List.set_append_right _ _ (by omega)]
 simp
theorem lent_putQ {vs : Nat → Nat} {k : Nat} (h : Lent vs) : Lent (upd vs k 0):=fun j hj=>by
 unfold upd; split
 · rfl
 · exact h j hj
abbrev idx (l : List Nat) : List (List RV):=l.map fun (x : Nat)=>[i64 (x : Int)]
theorem insertion_okQ (lt : Nat → Nat → Bool) (c : Nat → Nat → Int) (f : Nat) (caps : List RV) (l : List Nat) (hl : l.length ≤ 1000) (hlt : ∀ x y,lt x y = decide (c x y < 0))
 (hcc : ∀ x ∈ l,∀ y ∈ l,ACalls Try.prog f (i64 (x : Int) :: i64 (y : Int) :: caps) (i64 (c x y))) :
 MCalls Try.prog 131 [(1000,.arr 3 1 (idx l))] [(1000,.arr 3 1 (idx (sortNQ lt l)))] [.os 1000 0 1 0 l.length,.r (i64 0),.r (i64 l.length),.r (.fn f caps)] (.tu []):=by
 refine mcalls_st (n:=53) (rs:=[]) _ _ [] Try.func131 rfl (by kernel_rfl) Try.ntmps131 rfl (by simp) rfl rfl fun C=>?_
 have hmem : ∀ i z,z ∈ sortBQ lt (l.take i) [] → z ∈ l:=fun i z hz=>by
  rw [mem_sortBQ] at hz
  rcases hz with hz | hz
  · exact List.mem_of_mem_take hz
  · cases hz
 repeat refine zq ?_
 refine zb fun K hK=>?_;simp only [go_sem];(try simp (disch:=omega) only [zI]);repeat first | intro _ | refine ⟨by omega,?_⟩
 refine hK _ ?_;clear hK K;refine zw (zk [0,1,2,3,8]) ?_;simp only [go_sem]
 repeat refine zq ?_
 refine zd ?_
 refine awp_upto0 (n:=53) (max l.length 1) (fun i vs=>[(0,.os 1000 0 1 0 l.length),(1,.r (i64 0)),(2,.r (i64 l.length)),(3,.r (.fn f caps)),(8,.r (i64 i))])
  (fun i=>[(1000,.arr 3 1 (idx ((sortBQ lt (l.take i) []).reverse ++ l.drop i)))]) (fun i=>1 ≤ i) 1 (fit0_of [] lent_zero ?_ ?_) (by omega) (Nat.le_refl _) ?_
 · try simp only [go_sem]
 · simp only [go_sem]
   cases l with
   | nil=>rfl
   | cons x l=>simp [sortBQ,insBQ]
 · intro i vs hv hi hi1
   have hv0:=hv 1000 (by omega)
   repeat refine zq ?_
   refine zb fun K hK=>?_;simp only [go_sem];(try simp (disch:=omega) only [zI]);repeat first | intro _ | refine ⟨by omega,?_⟩
   refine hK _ ?_;clear hK K;refine zw (zk [0,1,2,3,8,14]) ?_;simp only [go_sem]
   repeat refine zq ?_
   refine zc rfl (fun hc=>?_) (fun hc=>?_) <;> (try simp only [go_sem] at hc)
   · have hci : i < l.length:=by omega
     obtain ⟨x,hx⟩:=opt_of_lt hci
     obtain ⟨R,hR⟩ : ∃ R,R = sortBQ lt (l.take i) []:=⟨_,rfl⟩
     have hRl : R.length = i:=by rw [hR,sortB_lenQ]; simp; omega
     have hRm : ∀ z ∈ R,z ∈ l:=fun z hz=>hmem i z (hR ▸ hz)
     have hnx : sortBQ lt (l.take (i + 1)) [] = insBQ lt x R:=by rw [take_of_opt hx,sortB_snocQ,hR]
     have hst : (sortBQ lt (l.take i) []).reverse ++ l.drop i = holeLQ R x 0 (l.drop (i + 1)):=by rw [← hR,drop_of_opt hx]; simp [holeLQ]
     rw [hst]
     refine zx ?_
     repeat refine zq ?_
     refine zd ?_
     repeat refine zq ?_
     refine zb fun K hK=>?_;simp only [go_sem];(try simp (disch:=omega) only [zI]);repeat first | intro _ | refine ⟨by omega,?_⟩
     refine hK _ ?_;clear hK K;refine zw (zk [0,1,2,3,8,9]) ?_;simp only [go_sem]
     repeat refine zq ?_
     refine zd ?_
     refine awp_upto0 (n:=53) i (fun k vs=>[(0,.os 1000 0 1 0 l.length),(1,.r (i64 0)),(2,.r (i64 l.length)),(3,.r (.fn f caps)),(8,.r (i64 i)),(9,.r (i64 (i - k : Nat)))])
      (fun k=>[(1000,.arr 3 1 (idx (holeLQ R x k (l.drop (i + 1)))))]) (fun k=>∀ y ∈ R.take k,lt x y = true) 0 (fit0_of [] hv ?_ ?_) (Nat.zero_le _) (by simp) ?_
     · try simp only [go_sem]
     · try simp only [go_sem]
     · intro k vs hv hk hI
       have hv0:=hv 1000 (by omega)
       have hins:=insB_skipQ lt x R k hI
       have done : insBQ lt x (R.drop k) = x :: R.drop k → sortBQ lt (l.take (i + 1)) [] = R.take k ++ x :: R.drop k:=fun h=>by rw [hnx,hins,h]
       by_cases hk0 : k = i
       · have e0 : i - k = 0:=by omega
         repeat refine zq ?_
         refine awp_dreg2 [(0,some 1000)] follows (by decide +kernel) (by kernel_rfl) (by simp only [keysOk,List.mem_cons,List.not_mem_nil,forall_eq_or_imp,Oc.keyOf,go_sem]; simp) fun K hK=>?_
         simp only [go_sem,hv0,e0];(try simp (disch:=omega) only [zI]);repeat first | intro _ | refine ⟨by omega,?_⟩
         refine hK _ ?_;clear hK K;refine zw (zk [0,1,2,3,8,9,34]) ?_;simp only [go_sem]
         repeat refine zq ?_
         refine zc rfl (fun hc=>?_) (fun hc=>?_) <;> (try simp only [go_sem] at hc)
         refine zf ?_;simp only [go_sem]
         repeat refine zq ?_
         refine zb fun K hK=>?_;simp only [go_sem];(try simp (disch:=omega) only [zI]);repeat first | intro _ | refine ⟨by omega,?_⟩
         refine hK _ ?_;clear hK K
         try simp only [go_sem]
         refine ⟨by omega,fit0_of [] hv ?_ ?_⟩
         · try simp only [go_sem]
         · have hd0 : R.drop k = []:=List.drop_eq_nil_of_le (by omega)
           have:=done (by rw [hd0]; rfl)
           simp only [go_sem,this]
           simp [holeLQ]
       · obtain ⟨y,hy⟩:=opt_of_lt (l:=R) (i:=k) (by omega)
         obtain ⟨j,hj⟩ : ∃ j,i - k = j + 1:=⟨i - k - 1,by omega⟩
         have hjs : IntKind.i64.wrap ((j : Int) + 1 - 1) = j:=by rw [zI] <;> omega
         have hlen : (holeLQ R x k (l.drop (i + 1))).length = l.length:=by rw [hole_lenQ _ _ _ _ (by omega),List.length_drop]; omega
         have hxa : (holeLQ R x k (l.drop (i + 1)))[j + 1]? = some x:=by rw [← hj,← hRl]; exact hole_atQ R x k _ (by omega)
         have hya : (holeLQ R x k (l.drop (i + 1)))[j]? = some y:=by
          have:=(hole_nextQ (x:=x) (rest:=l.drop (i + 1)) hy).1
          rw [hRl,hj] at this
          exact this
         have hcall:=hcc x (mem_of_opt hx) y (hRm y (mem_of_opt hy))
         have hpos : (0 < (j : Int) + 1) = True:=by simp
         have hlxy:=hlt x y
         repeat refine zq ?_
         refine awp_dreg2 [(0,some 1000)] follows (by decide +kernel) (by kernel_rfl) (by simp only [keysOk,List.mem_cons,List.not_mem_nil,forall_eq_or_imp,Oc.keyOf,go_sem]; simp) fun K hK=>?_
         simp only [go_sem,hv0,hj,hjs,hxa,hya,hlen,hpos];(try simp (disch:=omega) only [zI])
         refine ⟨by omega,by omega,?_⟩
         refine zh (hcall) rfl (by simp only [go_sem,i64,ints,hv0]) (by simp only [go_sem,i64,ints,hv0]) (by first | exact .inl rfl | exact .inr rfl) ?_
         (try simp only [go_sem,hv0]);(try simp (disch:=omega) only [zI]);repeat first | intro _ | refine ⟨by omega,?_⟩
         refine hK _ ?_;clear hK K;refine zw (zk [0,1,2,3,8,9,34]) ?_;simp only [go_sem]
         cases hcx : decide (c x y < 0)
         · repeat refine zq ?_
           refine zc rfl (fun hc=>?_) (fun hc=>?_) <;> (try simp only [go_sem] at hc)
           refine zf ?_;simp only [go_sem]
           repeat refine zq ?_
           refine zb fun K hK=>?_;simp only [go_sem];(try simp (disch:=omega) only [zI]);repeat first | intro _ | refine ⟨by omega,?_⟩
           refine hK _ ?_;clear hK K
           try simp only [go_sem]
           refine ⟨by omega,fit0_of [] hv ?_ ?_⟩
           · try simp only [go_sem]
           · have:=done (by rw [drop_of_opt hy]; simp [insBQ,hlxy,hcx])
             simp only [go_sem,this]
             simp [holeLQ]
         · repeat refine zq ?_
           refine zc rfl (fun hc=>?_) (fun hc=>?_) <;> (try simp only [go_sem] at hc)
           refine zx ?_
           try simp only [go_sem]
           repeat refine zq ?_
           refine zd ?_
           have hset : ((idx (holeLQ R x k (l.drop (i + 1)))).set (j + 1) [i64 (y : Int)]).getD j [] = [i64 (y : Int)]:=by
            rw [List.getD_eq_getElem?_getD,List.getElem?_set_ne (by omega),List.getElem?_map,hya]; rfl
           have hsw:=hole_swapQ (fun (x : Nat)=>[i64 (x : Int)]) (x:=x) (rest:=l.drop (i + 1)) hy
           rw [hRl,hj] at hsw
           simp only [Nat.add_sub_cancel] at hsw
           repeat refine zq ?_
           refine awp_dreg2 [(0,some 1000)] follows (by decide +kernel) (by kernel_rfl) (by simp only [keysOk,List.mem_cons,List.not_mem_nil,forall_eq_or_imp,Oc.keyOf,go_sem]; simp) fun K hK=>?_
           simp only [go_sem,hv0,hj,hjs,hxa,hya,hlen,hset,List.length_set];(try simp (disch:=omega) only [zI])
           repeat' first | intro _ | refine And.intro ?_ ?_
           all_goals first | omega | skip
           all_goals (refine hK _ ?_; clear hK K)
           refine zw (zk [0,1,2,3,8,9]) ?_;simp only [go_sem]
           repeat refine zq ?_
           refine zb fun K hK=>?_;simp only [go_sem,hjs];(try simp (disch:=omega) only [zI]);repeat first | intro _ | refine ⟨by omega,?_⟩
           refine hK _ ?_;clear hK K
           try simp only [go_sem]
           have hj2 : i - (k + 1) = j:=by omega
           refine ⟨by omega,?_,fit0_of [] (lent_putQ (lent_putQ hv)) ?_ ?_⟩
           · rw [take_of_opt hy]
             intro z hz
             rcases List.mem_append.1 hz with hz | hz
             · exact hI z hz
             · simp only [List.mem_singleton] at hz
               subst hz
               rw [hlxy,hcx]
           · simp only [go_sem,hj2]
           · simp only [go_sem];exact congrArg (fun z=>[(1000,RowC.arr 3 1 z)]) hsw
   · refine zf ?_;simp only [go_sem]
     have h1 : l.take i = l:=List.take_of_length_le (by omega)
     have h2 : l.drop i = []:=List.drop_eq_nil_of_le (by omega)
     rw [h1,h2,List.append_nil]
     rfl
theorem stable_ok (lt : Nat → Nat → Bool) (c : Nat → Nat → Int) (f : Nat) (caps : List RV) (l : List Nat) (hl : l.length ≤ 19) (hlt : ∀ x y,lt x y = decide (c x y < 0))
 (hcc : ∀ x ∈ l,∀ y ∈ l,ACalls Try.prog f (i64 (x : Int) :: i64 (y : Int) :: caps) (i64 (c x y))) :
 MCalls Try.prog 125 [(1000,.arr 3 1 (idx l))] [(1000,.arr 3 1 (idx (sortNQ lt l)))] [.os 1000 0 1 0 l.length,.r (i64 l.length),.r (.fn f caps)] (.tu []):=by
 refine mcalls_st (n:=63) (rs:=[]) _ _ [] Try.func125 rfl (by kernel_rfl) Try.ntmps125 rfl (by simp) rfl rfl fun C=>?_
 repeat refine zq ?_
 refine zb fun K hK=>?_;simp only [go_sem];(try simp (disch:=omega) only [zI]);repeat first | intro _ | refine ⟨by omega,?_⟩
 refine hK _ ?_;clear hK K
 repeat refine zq ?_
 refine zb fun K hK=>?_;simp only [go_sem];(try simp (disch:=omega) only [zI]);repeat first | intro _ | refine ⟨by omega,?_⟩
 refine hK _ ?_;clear hK K;refine zw (zk [0,1,2,6,7,8]) ?_;simp only [go_sem]
 repeat refine zq ?_
 refine zd ?_
 refine awp_upto0 (n:=63) 0 (fun i vs=>[(0,.os 1000 0 1 0 l.length),(1,.r (i64 l.length)),(2,.r (.fn f caps)),(6,.r (i64 20)),(7,.r (i64 0)),(8,.r (i64 20))])
  (fun i=>[(1000,.arr 3 1 (idx l))]) (fun i=>True) 0 (fit0_of [] lent_zero ?_ ?_) (Nat.zero_le _) trivial ?_
 · try simp only [go_sem]
 · try simp only [go_sem]
 intro i vs hv _ _
 have hv0:=hv 1000 (by omega)
 repeat refine zq ?_
 refine zb fun K hK=>?_;simp only [go_sem];(try simp (disch:=omega) only [zI]);repeat first | intro _ | refine ⟨by omega,?_⟩
 refine hK _ ?_;clear hK K
 repeat refine zq ?_
 refine zc rfl (fun hc=>?_) (fun hc=>?_) <;> (try simp only [go_sem] at hc)
 · omega
 refine zf ?_;simp only [go_sem]
 repeat refine zq ?_
 refine zb fun K hK=>?_;simp only [go_sem];(try simp (disch:=omega) only [zI])
 refine xcall_mut (insertion_okQ lt c f caps l (by omega) hlt hcc) [(1000,1000)] rfl (by simp only [go_sem,i64,ints,hv0]) (by simp only [go_sem,i64,ints,hv0]) (by rfl) (by rfl) ?_
 (try simp only [go_sem,hv0]);(try simp (disch:=omega) only [zI]);repeat first | intro _ | refine ⟨by omega,?_⟩
 refine hK _ ?_;clear hK K
 try simp only [go_sem]
 repeat refine zq ?_
 refine zd ?_
 refine awp_upto0 (n:=63) 0 (fun i vs=>[(1,.r (i64 l.length)),(6,.r (i64 20))])
  (fun i=>[(1000,.arr 3 1 (idx (sortNQ lt l)))]) (fun i=>True) 0 (fit0_of [] hv ?_ ?_) (Nat.zero_le _) trivial ?_
 · try simp only [go_sem]
 · try simp only [go_sem]
 intro i vs hv _ _
 repeat refine zq ?_
 refine zb fun K hK=>?_;simp only [go_sem];(try simp (disch:=omega) only [zI]);repeat first | intro _ | refine ⟨by omega,?_⟩
 refine hK _ ?_;clear hK K
 repeat refine zq ?_
 refine zc rfl (fun hc=>?_) (fun hc=>?_) <;> (try simp only [go_sem] at hc)
 · omega
 refine zf ?_;simp only [go_sem]
theorem sortStable_ok (lt : Nat → Nat → Bool) (c : Nat → Nat → Int) (f : Nat) (caps : List RV) (l : List Nat) (hl : l.length ≤ 19) (hlt : ∀ x y,lt x y = decide (c x y < 0))
 (hcc : ∀ x ∈ l,∀ y ∈ l,ACalls Try.prog f (i64 (x : Int) :: i64 (y : Int) :: caps) (i64 (c x y))) :
 MCalls Try.prog 107 [(1000,.arr 3 1 (idx l))] [(1000,.arr 3 1 (idx (sortNQ lt l)))] [.os 1000 0 1 0 l.length,.r (.fn f caps)] (.tu []):=by
 refine mcalls_st (n:=9) (rs:=[]) _ _ [] Try.func107 rfl (by kernel_rfl) Try.ntmps107 rfl (by simp) rfl rfl fun C=>?_
 repeat refine zq ?_
 refine zb fun K hK=>?_;simp only [go_sem];(try simp (disch:=omega) only [zI])
 intro _
 refine xcall_mut (stable_ok lt c f caps l (by omega) hlt hcc) [(1000,1000)] rfl (by simp only [go_sem,i64,ints]) (by simp only [go_sem,i64,ints]) (by rfl) (by rfl) ?_
 (try simp only [go_sem]);(try simp (disch:=omega) only [zI]);repeat first | intro _ | refine ⟨by omega,?_⟩
 refine hK _ ?_;clear hK K
 try simp only [go_sem]
theorem mem_sortN {lt : Nat → Nat → Bool} {l : List Nat} {z : Nat} : z ∈ sortNQ lt l ↔ z ∈ l:=by
 unfold sortNQ
 rw [List.mem_reverse,mem_sortBQ]
 simp
theorem sortN_len (lt : Nat → Nat → Bool) (l : List Nat) : (sortNQ lt l).length = l.length:=by
 unfold sortNQ
 rw [List.length_reverse,sortB_lenQ]
 simp
theorem relV_unmap {w : World} {p : Plan} {ver : Nat → Nat} : ∀ {xs : List RV} {vs : List Value},AV.relV w p ver (xs.map .r) vs → RV.relV w p.R xs vs
 | [],_,h=>by simpa only [List.map_nil,AV.relV,RV.relV] using h
 | x :: xs, vs, h => by
   simp only [List.map_cons,AV.relV,AV.rel] at h
   simp only [RV.relV]
   obtain ⟨u,us,h1,h2,h3⟩:=h
   exact ⟨u,us,h1,h2,relV_unmap h3⟩
theorem mcalls_fn {F : Nat} {L L' : List (Nat × RowC)} {x r : AV} {f : Nat} {caps : List RV} (h : MCalls Try.prog F L L' [x,.r (.fn f caps)] r) : MCalls Try.prog F L L' [x,.fn f (caps.map .r)] r :=
 ⟨h.1,fun w p vs h1 h2 h3 h4 h5 h6 hV=>h.2 w p vs h1 h2 h3 h4 h5 h6 (by
  simp only [AV.relV] at hV ⊢
  obtain ⟨u,us,e1,k1,u',us',e2,k2,e3⟩:=hV
  refine ⟨u,us,e1,k1,u',us',e2,?_,e3⟩
  simp only [AV.rel,RV.rel] at k2 ⊢
  obtain ⟨ws,k3,k4⟩:=k2
  exact ⟨ws,k3,relV_unmap k4⟩)⟩
def ltS (m s : Int) (ws : List Int) (x y : Nat) : Bool:=decide (m * (ws[y]?).getD 0 % s - m * (ws[x]?).getD 0 % s < 0)
def bumpQ : List Int → List Nat → List Int
 | p,[]=>p
 | p,i :: is=>bumpQ (p.set i ((p[i]?).getD 0 + 1)) is
def partsS (m s : Int) (ws : List Int) : List Int:=ws.map fun w=>m * w / s
def shareL (m : Int) (ws : List Int) : List Int :=
 bumpQ (partsS m ws.sum ws) ((sortNQ (ltS m ws.sum ws) (List.range ws.length)).take (m - (partsS m ws.sum ws).sum).toNat)
theorem bump_snoc : ∀ (is : List Nat) (p : List Int) (i : Nat),bumpQ p (is ++ [i]) = (bumpQ p is).set i (((bumpQ p is)[i]?).getD 0 + 1)
 | [],_,_=>rfl
 | j :: is,p,i=>by simp only [List.cons_append,bumpQ]; exact bump_snoc is _ i
theorem bump_lenQ : ∀ (is : List Nat) (p : List Int),(bumpQ p is).length = p.length
 | [],_=>rfl
 | j :: is,p=>by simp only [bumpQ]; rw [bump_lenQ is]; simp
theorem parts_near {m s : Int} (hs : 0 < s) (hm : 0 ≤ m) : ∀ (ws : List Int),(∀ w ∈ ws,0 ≤ w) → s * (partsS m s ws).sum ≤ m * ws.sum ∧ m * ws.sum ≤ s * (partsS m s ws).sum + s * (ws.length : Int) ∧ 0 ≤ (partsS m s ws).sum
 | [],_=>by simp [partsS]
 | w :: ws, h => by
   obtain ⟨h1,h2,h3⟩:=parts_near hs hm ws fun x hx=>h x (by simp [hx])
   have e:=Int.emod_add_mul_ediv (m * w) s
   have r1:=Int.emod_nonneg (m * w) (show s ≠ 0 by omega)
   have r2:=Int.emod_lt_of_pos (m * w) hs
   have p1 : 0 ≤ m * w / s:=Int.ediv_nonneg (Int.mul_nonneg hm (h w (by simp))) (by omega)
   simp only [partsS,List.map_cons,List.sum_cons,List.length_cons,Int.natCast_add,Int.mul_add] at h1 h2 h3 ⊢
   omega
theorem parts_lack {m : Int} {ws : List Int} (hs : 0 < ws.sum) (hm : 0 ≤ m) (h : ∀ w ∈ ws,0 ≤ w) : 0 ≤ (partsS m ws.sum ws).sum ∧ (partsS m ws.sum ws).sum ≤ m ∧ m ≤ (partsS m ws.sum ws).sum + (ws.length : Int):=by
 obtain ⟨h1,h2,h3⟩:=parts_near hs hm ws h
 refine ⟨h3,?_,?_⟩
 · rw [Int.mul_comm m] at h1
   exact Int.le_of_mul_le_mul_left h1 hs
 · rw [Int.mul_comm m,← Int.mul_add] at h2
   exact Int.le_of_mul_le_mul_left h2 hs
set_option linter.unusedSimpArgs false
set_option maxRecDepth 8000
theorem pWithin1_ok (n a b : Int) : ACalls Try.prog 105 [i64 n,.rp [i64 a],.rp [i64 b]] (.bo (decide (n < a) || decide (b < n))):=by
 refine acalls_st (rs:=[.bo (decide (n < a) || decide (b < n))]) [.tmp 4] Try.func105 rfl (by kernel_rfl) Try.ntmps105 rfl (by simp) rfl fun C vs=>?_
 repeat refine zq ?_
 refine zb fun K hK=>?_;simp only [go_sem];(try simp (disch:=omega) only [zI]);repeat first | intro _ | refine ⟨by omega,?_⟩
 refine hK _ ?_;clear hK K
 repeat refine zq ?_
 refine zb fun K hK=>?_;simp only [go_sem];(try simp (disch:=omega) only [zI])
 refine ⟨fun h=>?_,fun h=>?_⟩ <;>
 · repeat first | intro _ | refine ⟨by omega,?_⟩
   refine hK _ ?_;clear hK K;refine ze ?_;simp only [go_sem]
   try simp [h]
theorem pWithin_ok (a b : Int) (l : List Int) : ACalls Try.prog 80 [i64 a,i64 b,ints l] (.bo (withinL a b l)):=by
 refine acalls_st (rs:=[.bo (withinL a b l)]) [.tmp 6] Try.func80 rfl (by kernel_rfl) Try.ntmps80 rfl (by simp) rfl fun C vs=>?_
 repeat refine zq ?_
 refine zb fun K hK=>?_;simp only [go_sem];(try simp (disch:=omega) only [zI]);repeat first | intro _ | refine ⟨by omega,?_⟩
 refine hK _ ?_;clear hK K
 repeat refine zq ?_
 refine zb fun K hK=>?_;simp only [go_sem];(try simp (disch:=omega) only [zI])
 refine zh (contains_ok (fun n=>decide (n < a) || decide (b < n)) 105 [.rp [i64 a],.rp [i64 b]] l fun x _=>pWithin1_ok x a b) rfl (by simp only [go_sem,i64,ints]) (by simp only [go_sem,i64,ints]) (by first | exact .inl rfl | exact .inr rfl) ?_
 (try simp only [go_sem]);(try simp (disch:=omega) only [zI]);repeat first | intro _ | refine ⟨by omega,?_⟩
 refine hK _ ?_;clear hK K;refine ze ?_;simp only [go_sem];rw [← withinL_not]
theorem psum_le (b : Int) : ∀ (l : List Int),(∀ x ∈ l,0 ≤ x ∧ x ≤ b) → 0 ≤ l.sum ∧ l.sum ≤ b * l.length
 | [],_=>by simp
 | x :: l, h => by
   have ih:=psum_le b l fun y hy=>h y (by simp [hy])
   have h1:=h x (by simp)
   simp only [List.sum_cons,List.length_cons]
   have : b * ((l.length + 1 : Nat) : Int) = b * l.length + b:=by rw [Int.natCast_add,Int.mul_add]; simp
   omega
theorem ptotal_ok (l : List Int) (hl : l.length ≤ 1000) (h : ∀ x ∈ l,0 ≤ x ∧ x ≤ 100000000000000) : ACalls Try.prog 81 [ints l] (i64 l.sum):=by
 refine acalls_st (rs:=[i64 l.sum]) [.tmp 2] Try.func81 rfl (by kernel_rfl) Try.ntmps81 rfl (by simp) rfl fun C vs=>?_
 repeat refine zq ?_
 refine zb fun K hK=>?_;simp only [go_sem];(try simp (disch:=omega) only [zI]);repeat first | intro _ | refine ⟨by omega,?_⟩
 refine hK _ ?_;clear hK K
 repeat refine zq ?_
 refine zb fun K hK=>?_;simp only [go_sem];(try simp (disch:=omega) only [zI])
 intro _
 repeat first | intro _ | refine ⟨by omega,?_⟩
 refine hK _ ?_;clear hK K
 repeat refine zq ?_
 refine zd ?_
 refine awp_upto (n:=16) l.length (fun i vs=>[(5,.r (ints l)),(6,.r (i64 l.length)),(7,.r (i64 i)),(2,.r (i64 (l.take i).sum))]) (fun _=>[])
  (fun i=>True) 0 (fit_of [] ?_ rfl) (Nat.zero_le _) trivial ?_
 · try simp only [go_sem]
   simp
 · intro i vs hi _
   repeat refine zq ?_
   refine zb fun K hK=>?_;simp only [go_sem];(try simp (disch:=omega) only [zI]);repeat first | intro _ | refine ⟨by omega,?_⟩
   refine hK _ ?_;clear hK K
   repeat refine zq ?_
   refine zc rfl (fun hc=>?_) (fun hc=>?_) <;> (try simp only [go_sem] at hc)
   · obtain ⟨x,hx⟩:=opt_of_lt hc
     have hx1:=h x (mem_of_opt hx)
     have hs:=psum_le 100000000000000 (l.take i) fun y hy=>h y (List.mem_of_mem_take hy)
     simp only [List.length_take] at hs
     have hsn : (l.take (i + 1)).sum = (l.take i).sum + x:=by rw [take_of_opt hx]; simp
     refine zx ?_
     repeat refine zq ?_
     refine zd ?_
     repeat refine zq ?_
     refine zb fun K hK=>?_;simp only [go_sem,hx,hc];(try simp (disch:=omega) only [zI]);repeat first | intro _ | refine ⟨by omega,?_⟩
     refine hK _ ?_;clear hK K
     repeat refine zq ?_
     refine zb fun K hK=>?_;simp only [go_sem];(try simp (disch:=omega) only [zI]);repeat first | intro _ | refine ⟨by omega,?_⟩
     refine hK _ ?_;clear hK K
     try simp only [go_sem]
     repeat refine zq ?_
     refine zb fun K hK=>?_;simp only [go_sem];(try simp (disch:=omega) only [zI]);repeat first | intro _ | refine ⟨by omega,?_⟩
     refine hK _ ?_;clear hK K
     try simp only [go_sem]
     refine ⟨hc,fit_of [] ?_ rfl⟩
     try simp only [go_sem]
     omega
   · refine zf ?_;simp only [go_sem]
     repeat refine zq ?_
     refine zb fun K hK=>?_;simp only [go_sem];(try simp (disch:=omega) only [zI]);repeat first | intro _ | refine ⟨by omega,?_⟩
     refine hK _ ?_;clear hK K;refine ze ?_;simp only [go_sem];rw [List.take_of_length_le (by omega)]
def cS (m s : Int) (ws : List Int) (x y : Nat) : Int:=m * (ws[y]?).getD 0 % s - m * (ws[x]?).getD 0 % s
theorem mul_w {m w : Int} (hm : 0 ≤ m ∧ m ≤ 1000000000) (hw : 0 ≤ w ∧ w ≤ 10000) : 0 ≤ m * w ∧ m * w ≤ 10000000000000:=by
 refine ⟨Int.mul_nonneg hm.1 hw.1,?_⟩
 have:=Int.mul_le_mul hm.2 hw.2 hw.1 (by omega)
 omega
theorem share1_ok (m s : Int) (ws : List Int) (a b : Nat) (hm : 0 ≤ m ∧ m ≤ 1000000000) (hw : ∀ w ∈ ws,0 ≤ w ∧ w ≤ 10000) (hs : 0 < s ∧ s ≤ 10000000) (ha : a < ws.length) (hb : b < ws.length) :
 ACalls Try.prog 108 [i64 a,i64 b,.rp [i64 m],.rp [ints ws],.rp [i64 s]] (i64 (cS m s ws a b)):=by
 obtain ⟨x,hx⟩:=opt_of_lt ha
 obtain ⟨y,hy⟩:=opt_of_lt hb
 have hx1:=mul_w hm (hw x (mem_of_opt hx))
 have hy1:=mul_w hm (hw y (mem_of_opt hy))
 have r1:=Int.emod_nonneg (m * x) (show s ≠ 0 by omega)
 have r2:=Int.emod_lt_of_pos (m * x) hs.1
 have r3:=Int.emod_nonneg (m * y) (show s ≠ 0 by omega)
 have r4:=Int.emod_lt_of_pos (m * y) hs.1
 have t1 : Int.tmod (m * x) s = m * x % s:=Int.tmod_eq_emod_of_nonneg hx1.1
 have t2 : Int.tmod (m * y) s = m * y % s:=Int.tmod_eq_emod_of_nonneg hy1.1
 refine acalls_st (rs:=[i64 (cS m s ws a b)]) [.tmp 7] Try.func108 rfl (by kernel_rfl) Try.ntmps108 rfl (by simp) rfl fun C vs=>?_
 repeat refine zq ?_
 refine zb fun K hK=>?_;simp only [go_sem];(try simp (disch:=omega) only [zI]);repeat first | intro _ | refine ⟨by omega,?_⟩
 refine hK _ ?_;clear hK K
 repeat refine zq ?_
 refine zg follows (by decide +kernel) (by kernel_rfl) fun K hK=>?_;simp only [go_sem,hx,hy,ha,hb,t1,t2];(try simp (disch:=omega) only [zI]);repeat first | intro _ | refine ⟨by omega,?_⟩
 refine hK _ ?_;clear hK K;refine ze ?_;simp only [go_sem]
 simp [cS,hx,hy,t1,t2]
theorem bump_leQ (b : Int) : ∀ (is : List Nat) (c : Int) (p : List Int),(∀ x ∈ p,0 ≤ x ∧ x ≤ c) → 0 ≤ c → (c + is.length ≤ b) → ∀ x ∈ bumpQ p is,0 ≤ x ∧ x ≤ b
 | [], c, p, h, _, hb => fun x hx => by
   have:=h x hx
   simp at hb
   omega
 | i :: is, c, p, h, hc, hb => by
   simp only [List.length_cons] at hb
   simp only [bumpQ]
   refine bump_leQ b is (c + 1) _ (fun x hx=>?_) (by omega) (by omega)
   rcases List.mem_or_eq_of_mem_set hx with h1 | h1
   · have:=h x h1; omega
   · subst h1
     cases hp : p[i]? with
     | none=>simp; omega
     | some y=>have:=h y (mem_of_opt hp); simp; omega
theorem share_ok (m : Int) (ws : List Int) (hm : 0 ≤ m ∧ m ≤ 1000000000) (hl : 1 ≤ ws.length ∧ ws.length ≤ 19) (hw : ∀ w ∈ ws,0 ≤ w ∧ w ≤ 10000) (hs : 0 < ws.sum) :
 ACalls Try.prog 84 [i64 m,ints ws] (.tu [ints (shareL m ws),i64 0]):=by
 have hsum:=psum_le 10000 ws hw
 have hs2 : ws.sum ≤ 10000000:=by omega
 have w1 : withinL 0 1000000000 [m] = true:=by simp [withinL]; omega
 have w2 : withinL 1 60 [(ws.length : Int)] = true:=by simp [withinL]; omega
 have w3 : withinL 0 10000 ws = true:=by
  unfold withinL
  rw [List.all_eq_true]
  intro x hx
  have:=hw x hx
  simp; omega
 obtain ⟨q1,q2,q3⟩:=parts_lack hs hm.1 fun w h=>(hw w h).1
 refine acalls_st (rs:=[ints (shareL m ws),i64 0]) [.tmp 4,.tmp 5] Try.func84 rfl (by kernel_rfl) Try.ntmps84 rfl (by simp) rfl fun C vs=>?_
 repeat refine zq ?_
 refine zb fun K hK=>?_;simp only [go_sem];(try simp (disch:=omega) only [zI]);repeat first | intro _ | refine ⟨by omega,?_⟩
 refine hK _ ?_;clear hK K;refine zw (sub_frzP 2 2 [i64 m] (by omega) rfl rfl) ?_;refine zw (sub_frzP 3 3 [ints ws] (by omega) rfl rfl) ?_;refine zw (zk [2,3,4]) ?_;simp only [go_sem]
 repeat refine zq ?_
 refine zb fun K hK=>?_;simp only [go_sem];(try simp (disch:=omega) only [zI])
 refine zh (ptotal_ok ws (by omega) (fun x hx=>by have:=hw x hx; omega)) rfl (by simp only [go_sem,i64,ints]) (by simp only [go_sem,i64,ints]) (by first | exact .inl rfl | exact .inr rfl) ?_
 (try simp only [go_sem]);(try simp (disch:=omega) only [zI]);repeat first | intro _ | refine ⟨by omega,?_⟩
 refine hK _ ?_;clear hK K;refine zw (sub_frzP 6 6 [i64 ws.sum] (by omega) rfl rfl) ?_;refine zw (zk [2,3,4,6]) ?_;simp only [go_sem]
 repeat refine zq ?_
 refine zd ?_
 repeat refine zq ?_
 refine zb fun K hK=>?_;simp only [go_sem];(try simp (disch:=omega) only [zI])
 refine zh (pWithin_ok 0 1000000000 [m]) rfl (by simp only [go_sem,i64,ints]) (by simp only [go_sem,i64,ints]) (by first | exact .inl rfl | exact .inr rfl) ?_
 (try simp only [go_sem]);(try simp (disch:=omega) only [zI]);repeat first | intro _ | refine ⟨by omega,?_⟩
 refine hK _ ?_;clear hK K;rw [w1]
 repeat refine zq ?_
 refine zc rfl (fun hc=>?_) (fun hc=>?_) <;> (try simp only [go_sem] at hc)
 repeat refine zq ?_
 refine zb fun K hK=>?_;simp only [go_sem];(try simp (disch:=omega) only [zI])
 intro _
 refine zh (pWithin_ok 1 60 [(ws.length : Int)]) rfl (by simp only [go_sem,i64,ints]) (by simp only [go_sem,i64,ints]) (by first | exact .inl rfl | exact .inr rfl) ?_
 (try simp only [go_sem]);(try simp (disch:=omega) only [zI]);repeat first | intro _ | refine ⟨by omega,?_⟩
 refine hK _ ?_;clear hK K;rw [w2]
 repeat refine zq ?_
 refine zc rfl (fun hc=>?_) (fun hc=>?_) <;> (try simp only [go_sem] at hc)
 repeat refine zq ?_
 refine zb fun K hK=>?_;simp only [go_sem];(try simp (disch:=omega) only [zI])
 refine zh (pWithin_ok 0 10000 ws) rfl (by simp only [go_sem,i64,ints]) (by simp only [go_sem,i64,ints]) (by first | exact .inl rfl | exact .inr rfl) ?_
 (try simp only [go_sem]);(try simp (disch:=omega) only [zI]);repeat first | intro _ | refine ⟨by omega,?_⟩
 refine hK _ ?_;clear hK K;rw [w3]
 repeat refine zq ?_
 refine zc rfl (fun hc=>?_) (fun hc=>?_) <;> (try simp only [go_sem] at hc)
 repeat refine zq ?_
 refine zb fun K hK=>?_;simp only [go_sem];(try simp (disch:=omega) only [zI]);repeat first | intro _ | refine ⟨by omega,?_⟩
 refine hK _ ?_;clear hK K
 have z0 : (ws.sum == 0) = false:=by simp; omega
 rw [z0]
 repeat refine zq ?_
 refine zc rfl (fun hc=>?_) (fun hc=>?_) <;> (try simp only [go_sem] at hc)
 refine zx ?_
 try simp only [go_sem]
 repeat refine zq ?_
 refine zb fun K hK=>?_;simp only [go_sem];(try simp (disch:=omega) only [zI]);repeat first | intro _ | refine ⟨by omega,?_⟩
 refine hK _ ?_;clear hK K;refine zw (zk [2,3,4,6,7]) ?_;simp only [go_sem]
 repeat refine zq ?_
 refine zb fun K hK=>?_;simp only [go_sem];(try simp (disch:=omega) only [zI])
 intro _
 repeat first | intro _ | refine ⟨by omega,?_⟩
 refine hK _ ?_;clear hK K;refine zw (zk [2,3,4,6,7,31,32,33]) ?_;simp only [go_sem]
 repeat refine zq ?_
 refine zd ?_
 have hP : ∀ i ≤ ws.length,(partsS m ws.sum (ws.take i)).length = i:=fun i hi=>by simp [partsS]; omega
 refine zw (sub_own 4 45 3 1 (by omega) rfl) ?_;refine zw (sub_own 7 49 3 1 (by omega) rfl) ?_
 refine awp_upto (n:=73) ws.length (fun i vs=>[(2,.r (.rp [i64 m])),(3,.r (.rp [ints ws])),(4,.os 45 (vs 45) 1 0 i),(6,.r (.rp [i64 ws.sum])),(7,.os 49 (vs 49) 1 0 i),(31,.r (ints ws)),(32,.r (i64 ws.length)),(33,.r (i64 i))])
  (fun i=>[(45,.arr 3 1 ((partsS m ws.sum (ws.take i)).map fun x=>[i64 x])),(49,.arr 3 1 (idx (List.range i)))]) (fun _=>True) 0 (fit_of [] ?_ ?_) (Nat.zero_le _) trivial ?_
 · try simp only [go_sem]
 · try simp only [go_sem]
   simp [partsS]
 · intro i vs hi _
   repeat refine zq ?_
   refine zb fun K hK=>?_;simp only [go_sem];(try simp (disch:=omega) only [zI]);repeat first | intro _ | refine ⟨by omega,?_⟩
   refine hK _ ?_;clear hK K
   repeat refine zq ?_
   refine zc rfl (fun hc=>?_) (fun hc=>?_) <;> (try simp only [go_sem] at hc)
   · have hci:=hc
     obtain ⟨x,hx⟩:=opt_of_lt hci
     have hx1:=mul_w hm (hw x (mem_of_opt hx))
     have t1 : Int.tdiv (m * x) ws.sum = m * x / ws.sum:=Int.tdiv_eq_ediv_of_nonneg hx1.1
     have p1 : 0 ≤ m * x / ws.sum:=Int.ediv_nonneg hx1.1 (by omega)
     have p2 : m * x / ws.sum ≤ m * x:=Int.ediv_le_self _ hx1.1
     have hpl:=hP i (by omega)
     refine zx ?_
     try simp only [go_sem]
     repeat refine zq ?_
     refine zd ?_
     repeat refine zq ?_
     refine zb fun K hK=>?_;simp only [go_sem,hx,hci];(try simp (disch:=omega) only [zI]);repeat first | intro _ | refine ⟨by omega,?_⟩
     refine hK _ ?_;clear hK K;refine zw (zk [2,3,4,6,7,8,9,31,32,33]) ?_;simp only [go_sem]
     repeat refine zq ?_
     refine zb fun K hK=>?_;simp only [go_sem,hpl,t1,List.length_range];(try simp (disch:=omega) only [zI]);repeat first | intro _ | refine ⟨by omega,?_⟩
     refine hK _ ?_;clear hK K;refine zw (zk [2,3,4,6,7,31,32,33]) ?_;simp only [go_sem]
     repeat refine zq ?_
     refine zb fun K hK=>?_;simp only [go_sem];(try simp (disch:=omega) only [zI]);repeat first | intro _ | refine ⟨by omega,?_⟩
     refine hK _ ?_;clear hK K
     try simp only [go_sem]
     refine ⟨hci,fit_of [] ?_ ?_⟩
     · try simp only [go_sem]
     · try simp only [go_sem]
       simp [t1,partsS,take_of_opt hx]
   · refine zf ?_;simp only [go_sem]
     have hii : i = ws.length:=by omega
     subst hii
     have e3 : ws.take ws.length = ws:=List.take_length
     rw [e3]
     have hpl:=hP ws.length (Nat.le_refl _)
     rw [e3] at hpl
     have hsort:=sortStable_ok (ltS m ws.sum ws) (cS m ws.sum ws) 108 [.rp [i64 m],.rp [ints ws],.rp [i64 ws.sum]] (List.range ws.length) (by simpa using hl.2) (fun _ _=>rfl) (fun i hi k hk =>
      share1_ok m ws.sum ws i k hm hw ⟨hs,hs2⟩ (List.mem_range.1 hi) (List.mem_range.1 hk))
     rw [List.length_range] at hsort
     repeat refine zq ?_
     refine zb fun K hK=>?_;simp only [go_sem];(try simp (disch:=omega) only [zI])
     refine xcall_mut (mcalls_fn hsort) [(1000,49)] rfl (by simp only [go_sem,i64,ints]) (by simp only [go_sem,i64,ints]) (by rfl) (by rfl) ?_
     (try simp only [go_sem]);(try simp (disch:=omega) only [zI]);repeat first | intro _ | refine ⟨by omega,?_⟩
     refine hK _ ?_;clear hK K;refine zw (zk [2,4,7]) ?_;simp only [go_sem]
     obtain ⟨S,hS⟩ : ∃ S,S = sortNQ (ltS m ws.sum ws) (List.range ws.length):=⟨_,rfl⟩
     obtain ⟨Q,hQ⟩ : ∃ Q,Q = partsS m ws.sum ws:=⟨_,rfl⟩
     have hSl : S.length = ws.length:=by rw [hS,sortN_len,List.length_range]
     have hSm : ∀ i ∈ S,i < ws.length:=fun i hi=>by rw [hS,mem_sortN,List.mem_range] at hi; exact hi
     have hQb : ∀ x ∈ Q,0 ≤ x ∧ x ≤ 10000000000000:=fun x hx=>by
      rw [hQ] at hx
      obtain ⟨w,hw1,rfl⟩:=List.mem_map.1 hx
      have h1:=mul_w hm (hw w hw1)
      have h2:=Int.ediv_nonneg (b:=ws.sum) h1.1 (by omega)
      have h3:=Int.ediv_le_self ws.sum h1.1
      omega
     rw [← hS]
     rw [← hQ] at hpl q1 q2 q3 ⊢
     have tk : ∀ g : Int → List RV,List.take ws.length (Q.map g) = Q.map g:=fun g=>by rw [← hpl,← List.length_map (f:=g),List.take_length]
     have hle : ws.length ≤ Q.length:=by omega
     repeat refine zq ?_
     refine awp_dreg2 [(2,none),(4,some 45),(7,some 49)] follows (by decide +kernel) (by kernel_rfl) (by simp only [keysOk,List.mem_cons,List.not_mem_nil,forall_eq_or_imp,Oc.keyOf,go_sem]; simp) fun K hK=>?_
     simp only [go_sem,hSl];(try simp (disch:=omega) only [zI])
     refine zh (ptotal_ok Q (by omega) (fun x hx=>by have:=hQb x hx; omega)) rfl (by simp only [go_sem,i64,ints,tk,hle]) (by simp only [go_sem,i64,ints,tk,hle]) (by first | exact .inl rfl | exact .inr rfl) ?_
     (try simp only [go_sem,tk,hle]);(try simp (disch:=omega) only [zI]);repeat first | intro _ | refine ⟨by omega,?_⟩
     refine hK _ ?_;clear hK K
     obtain ⟨k,hk⟩ : ∃ k,k = (m - Q.sum).toNat:=⟨_,rfl⟩
     have hkn : k ≤ ws.length:=by omega
     rw [← hk]
     refine zw (zk [4,59,60,61]) ?_;simp only [go_sem]
     repeat refine zq ?_
     refine zd ?_
     refine awp_upto (n:=73) k (fun i vs=>[(4,.os 45 (vs 45) 1 0 ws.length),(59,.os 49 (vs 49) 1 0 k),(60,.r (i64 k)),(61,.r (i64 i))])
      (fun i=>[(45,.arr 3 1 ((bumpQ Q (S.take i)).map fun x=>[i64 x])),(49,.arr 3 1 (idx S))]) (fun _=>True) 0 (fit_of [] ?_ ?_) (Nat.zero_le _) trivial ?_
     · try simp only [go_sem]
     · try simp only [go_sem]
       simp [bumpQ]
     · intro q vs hq _
       repeat refine zq ?_
       refine zb fun K hK=>?_;simp only [go_sem];(try simp (disch:=omega) only [zI]);repeat first | intro _ | refine ⟨by omega,?_⟩
       refine hK _ ?_;clear hK K
       repeat refine zq ?_
       refine zc rfl (fun hc=>?_) (fun hc=>?_) <;> (try simp only [go_sem] at hc)
       · have hci:=hc
         obtain ⟨i,hi⟩:=opt_of_lt (l:=S) (i:=q) (by omega)
         have hil:=hSm i (mem_of_opt hi)
         obtain ⟨F,hF⟩ : ∃ F,F = bumpQ Q (S.take q):=⟨_,rfl⟩
         have hFl : F.length = ws.length:=by rw [hF,bump_lenQ,hpl]
         have hFb : ∀ x ∈ F,0 ≤ x ∧ x ≤ 100000000000000:=by
          rw [hF]
          refine bump_leQ 100000000000000 _ 10000000000000 Q hQb (by omega) ?_
          rw [List.length_take]
          omega
         obtain ⟨o,ho⟩:=opt_of_lt (l:=F) (i:=i) (by omega)
         have hob:=hFb o (mem_of_opt ho)
         have hnx : bumpQ Q (S.take (q + 1)) = F.set i (o + 1):=by
          rw [take_of_opt hi,bump_snoc,← hF]
          simp [ho]
         rw [← hF]
         refine zx ?_
         try simp only [go_sem]
         repeat refine zq ?_
         refine zd ?_
         repeat refine zq ?_
         refine zb fun K hK=>?_;simp only [go_sem,hi,hci];(try simp (disch:=omega) only [zI]);repeat first | intro _ | refine ⟨by omega,?_⟩
         refine hK _ ?_;clear hK K;refine zw (zk [4,11,59,60,61]) ?_;simp only [go_sem]
         repeat refine zq ?_
         refine zb fun K hK=>?_;simp only [go_sem,ho,hil,hFl];(try simp (disch:=omega) only [zI]);repeat first | intro _ | refine ⟨by omega,?_⟩
         refine hK _ ?_;clear hK K;refine zw (zk [4,59,60,61]) ?_;simp only [go_sem]
         repeat refine zq ?_
         refine zb fun K hK=>?_;simp only [go_sem];(try simp (disch:=omega) only [zI]);repeat first | intro _ | refine ⟨by omega,?_⟩
         refine hK _ ?_;clear hK K
         try simp only [go_sem]
         refine ⟨hci,fit_of [] ?_ ?_⟩
         · simp only [go_sem]
         · simp only [go_sem,hnx];rw [List.map_set]
       · refine zf ?_;simp only [go_sem]
         have hqk : q = k:=by omega
         subst hqk
         repeat refine zq ?_
         refine zb fun K hK=>?_;simp only [go_sem];(try simp (disch:=omega) only [zI]);repeat first | intro _ | refine ⟨by omega,?_⟩
         refine hK _ ?_;clear hK K;refine ze ?_;simp only [go_sem]
         have hbl : (bumpQ Q (S.take q)).length = ws.length:=by rw [bump_lenQ,hpl]
         refine ⟨by omega,?_⟩
         rw [List.take_of_length_le (by rw [List.length_map]; omega)]
         unfold shareL
         rw [← hS,← hQ,← hk]
abbrev encIQ (e : Int × Int) : RV × RV:=(i64 e.1,i64 e.2)
abbrev encBQ (p : Int) : RV × RV:=(i64 p,.bo true)
def findIQ (p : Int) : List (Int × Int) → Nat → Option (Nat × Int)
 | [],_=>none
 | e :: l,i=>if p = e.1 then some (i,e.2) else findIQ p l (i + 1)
theorem findK_I (p : Int) : ∀ (M : List (Int × Int)) (i : Nat),findK (i64 p) (M.map encIQ) i = some ((findIQ p M i).map fun x=>(x.1,i64 x.2))
 | [],i=>rfl
 | e :: M, i => by
   simp only [List.map_cons,findK,sameK,if_true,findIQ]
   by_cases h : p = e.1
   · have : (p == e.1) = true:=by simp [h]
     rw [this]; simp [h]
   · have : (p == e.1) = false:=by simp [h]
     rw [this,if_neg h]
     exact findK_I p M (i + 1)
theorem findI_fresh {p : Int} : ∀ {M : List (Int × Int)} (i : Nat),p ∉ M.map (·.1) → findIQ p M i = none
 | [],_,_=>rfl
 | e :: M, i, h => by
   simp only [List.map_cons,List.mem_cons,not_or] at h
   rw [findIQ,if_neg h.1]
   exact findI_fresh (i + 1) h.2
theorem findK_seen {p : Int} : ∀ {l : List Int} (i : Nat),p ∉ l → findK (i64 p) (l.map encBQ) i = some none
 | [],_,_=>rfl
 | e :: l, i, h => by
   simp only [List.mem_cons,not_or] at h
   have : (p == e) = false:=by simp [h.1]
   simp only [List.map_cons,findK,sameK,if_true,this];exact findK_seen (i + 1) h.2
def valM (M : List (Int × Int)) (p : Int) : Int:=match findIQ p M 0 with | some x=>x.2 | none=>0
def prz (m : Int) (sh : List Int) (k : Nat) : Int:=m * sh.getD k 0 / 1000
theorem prz_le {m : Int} {sh : List Int} (hm : 0 ≤ m ∧ m ≤ 1000000000) (hs : ∀ s ∈ sh,0 ≤ s ∧ s ≤ 1000) (k : Nat) : 0 ≤ m * sh.getD k 0 ∧ m * sh.getD k 0 ≤ 1000000000000 ∧ 0 ≤ prz m sh k ∧ prz m sh k ≤ 1000000000:=by
 have h : 0 ≤ sh.getD k 0 ∧ sh.getD k 0 ≤ 1000:=by
  rw [List.getD_eq_getElem?_getD]
  cases e : sh[k]? with
  | none=>simp
  | some s=>exact hs s (mem_of_opt e)
 have h1:=Int.mul_nonneg hm.1 h.1
 have h2:=Int.mul_le_mul hm.2 h.2 h.1 (by omega)
 unfold prz
 omega
theorem prize_ok (m : Int) (sh : List Int) (k : Nat) (mc pc : RV) (hm : 0 ≤ m ∧ m ≤ 1000000000) (hs : ∀ s ∈ sh,0 ≤ s ∧ s ≤ 1000) : ACalls Try.prog 106 [.rp [i64 m,ints sh,mc,pc],i64 k] (i64 (prz m sh k)):=by
 have hp:=prz_le hm hs k
 refine acalls_st (rs:=[i64 (prz m sh k)]) [.tmp 4] Try.func106 rfl (by kernel_rfl) Try.ntmps106 rfl (by simp) rfl fun C vs=>?_
 repeat refine zq ?_
 refine zb fun K hK=>?_;simp only [go_sem];(try simp (disch:=omega) only [zI]);repeat first | intro _ | refine ⟨by omega,?_⟩
 refine hK _ ?_;clear hK K;refine zw (zk [0,1]) ?_;simp only [go_sem]
 repeat refine zq ?_
 refine zb fun K hK=>?_;simp only [go_sem];(try simp (disch:=omega) only [zI]);repeat first | intro _ | refine ⟨by omega,?_⟩
 refine hK _ ?_;clear hK K;refine zw (zk [0,1,11]) ?_;simp only [go_sem]
 by_cases hk : sh.length ≤ k
 · have e1 : decide (sh.length ≤ k) = true:=by simp; omega
   rw [e1]
   repeat refine zq ?_
   refine zc rfl (fun hc=>?_) (fun hc=>?_) <;> (try simp only [go_sem] at hc)
   repeat refine zq ?_
   refine zb fun K hK=>?_;simp only [go_sem];(try simp (disch:=omega) only [zI]);repeat first | intro _ | refine ⟨by omega,?_⟩
   refine hK _ ?_;clear hK K;refine zw (zk [4]) ?_;simp only [go_sem];refine ze ?_;simp only [go_sem]
   have e2 : sh[k]? = none:=List.getElem?_eq_none hk
   simp [prz,List.getD_eq_getElem?_getD,e2]
 · have e1 : decide (sh.length ≤ k) = false:=by simp; omega
   rw [e1]
   repeat refine zq ?_
   refine zc rfl (fun hc=>?_) (fun hc=>?_) <;> (try simp only [go_sem] at hc)
   have hk' : k < sh.length:=by omega
   obtain ⟨s,hx⟩:=opt_of_lt hk'
   have e2 : sh.getD k 0 = s:=by rw [List.getD_eq_getElem?_getD,hx]; rfl
   rw [e2] at hp
   have t1 : Int.tdiv (m * s) 1000 = m * s / 1000:=Int.tdiv_eq_ediv_of_nonneg hp.1
   refine zx ?_
   try simp only [go_sem]
   repeat refine zq ?_
   refine zg follows (by decide +kernel) (by kernel_rfl) fun K hK=>?_;simp only [go_sem,hx,hk',t1];(try simp (disch:=omega) only [zI]);repeat first | intro _ | refine ⟨by omega,?_⟩
   refine hK _ ?_;clear hK K;refine zw (zk [4]) ?_;simp only [go_sem];refine ze ?_;simp only [go_sem]
   simp [prz,hx,t1]
def psumL (m : Int) (sh : List Int) (k n : Nat) : Int:=((List.range n).map fun i=>prz m sh (k + i)).sum
theorem psumL_succ (m : Int) (sh : List Int) (k n : Nat) : psumL m sh k (n + 1) = psumL m sh k n + prz m sh (k + n):=by
 simp [psumL,List.range_succ]
theorem psumL_le {m : Int} {sh : List Int} (hm : 0 ≤ m ∧ m ≤ 1000000000) (hs : ∀ s ∈ sh,0 ≤ s ∧ s ≤ 1000) (k : Nat) : ∀ n : Nat,0 ≤ psumL m sh k n ∧ psumL m sh k n ≤ 1000000000 * n
 | 0=>by simp [psumL]
 | n + 1 => by
   have ih:=psumL_le hm hs k n
   have h:=prz_le hm hs (k + n)
   rw [psumL_succ]
   omega
abbrev fundB (m : Int) (sh : List Int) (k : Int) : List AV:=[.r (i64 m),.r (ints sh),.mp 1001 0,.r (i64 k)]
def payM (M : List (Int × Int)) (g : List Int) (v : Int) : List (Int × Int):=M ++ g.map fun p=>(p,v)
theorem payM_keys (M : List (Int × Int)) (g : List Int) (v : Int) : (payM M g v).map (·.1) = M.map (·.1) ++ g:=by
 simp [payM,Function.comp_def]
theorem payM_snoc (M : List (Int × Int)) (g : List Int) (v p : Int) : payM M (g ++ [p]) v = payM M g v ++ [(p,v)]:=by simp [payM]
theorem pay_ok (m : Int) (sh : List Int) (k : Nat) (M : List (Int × Int)) (g : List Int) (hm : 0 ≤ m ∧ m ≤ 1000000000) (hs : ∀ s ∈ sh,0 ≤ s ∧ s ≤ 1000) (hk : k ≤ 60) (hg : 1 ≤ g.length ∧ g.length ≤ 60) (hn : (M.map (·.1) ++ g).Nodup) :
 MCalls Try.prog 83 [(1000,.box (fundB m sh k)),(1001,.mp (M.map encIQ))] [(1000,.box (fundB m sh ((k : Int) + g.length))),(1001,.mp ((payM M g (psumL m sh k g.length / g.length)).map encIQ))] [.pt 1000 0 0,.r (ints g)] (.r (i64 (psumL m sh k g.length / g.length * g.length))):=by
 refine mcalls_st (n:=51) (rs:=[.r (i64 (psumL m sh k g.length / g.length * g.length))]) _ _ [.tmp 4] Try.func83 rfl (by kernel_rfl) Try.ntmps83 rfl (by simp) rfl rfl fun C=>?_
 repeat refine zq ?_
 refine zb fun K hK=>?_;simp only [go_sem];(try simp (disch:=omega) only [zI]);repeat first | intro _ | refine ⟨by omega,?_⟩
 refine hK _ ?_;clear hK K;refine zw (zk [0,1]) ?_;simp only [go_sem]
 repeat refine zq ?_
 refine zb fun K hK=>?_;simp only [go_sem];(try simp (disch:=omega) only [zI]);repeat first | intro _ | refine ⟨by omega,?_⟩
 refine hK _ ?_;clear hK K;refine zw (zk [0,1,5]) ?_;simp only [go_sem]
 repeat refine zq ?_
 refine zb fun K hK=>?_;simp only [go_sem];(try simp (disch:=omega) only [zI])
 intros
 repeat first | intro _ | refine ⟨by omega,?_⟩
 refine hK _ ?_;clear hK K;refine zw (zk [0,1,5,9,10]) ?_;simp only [go_sem]
 repeat refine zq ?_
 refine zd ?_
 refine awp_upto0 (n:=51) g.length (fun i vs=>[(0,.pt 1000 0 0),(1,.r (ints g)),(5,.r (i64 (psumL m sh k i))),(9,.r (i64 g.length)),(10,.r (i64 i))])
  (fun i=>[(1000,.box (fundB m sh ((k : Int) + i))),(1001,.mp (M.map encIQ))]) (fun _=>True) 0 (fit0_of [] lent_zero ?_ ?_) (Nat.zero_le _) trivial ?_
 · try simp only [go_sem]
   try simp [psumL]
 · try simp only [go_sem]
   try simp
 · intro i vs hvz hi _
   have hv0:=hvz 1000 (by omega)
   have hv1:=hvz 1001 (by omega)
   have hb:=psumL_le hm hs k i
   have hp:=prz_le hm hs (k + i)
   have hsn:=psumL_succ m sh k i
   have hki : ((k : Int) + i) = ((k + i : Nat) : Int):=by omega
   rw [hki]
   repeat refine zq ?_
   refine zb fun K hK=>?_;simp only [go_sem];(try simp (disch:=omega) only [zI]);repeat first | intro _ | refine ⟨by omega,?_⟩
   refine hK _ ?_;clear hK K;refine zw (zk [0,1,5,9,10,11]) ?_;simp only [go_sem]
   repeat refine zq ?_
   refine zc rfl (fun hc=>?_) (fun hc=>?_) <;> (try simp only [go_sem] at hc)
   · have hci:=hc
     refine zx ?_
     try simp only [go_sem]
     repeat refine zq ?_
     refine zd ?_
     repeat refine zq ?_
     refine zb fun K hK=>?_;simp only [go_sem,hv0,hv1];(try simp (disch:=omega) only [zI])
     refine zh (prize_ok m sh (k + i) .un (i64 ((k + i : Nat) : Int)) hm hs) rfl (by simp only [go_sem,i64,ints,hv0,hv1]) (by simp only [go_sem,i64,ints,hv0,hv1]) (by first | exact .inl rfl | exact .inr rfl) ?_
     (try simp only [go_sem,hv0,hv1]);(try simp (disch:=omega) only [zI]);repeat first | intro _ | refine ⟨by omega,?_⟩
     refine hK _ ?_;clear hK K;refine zw (zk [0,1,5,9,10]) ?_;simp only [go_sem]
     repeat refine zq ?_
     refine zb fun K hK=>?_;simp only [go_sem,hv0,hv1];(try simp (disch:=omega) only [zI]);repeat first | intro _ | refine ⟨by omega,?_⟩
     refine hK _ ?_;clear hK K;refine zw (zk [0,1,5,9,10]) ?_;simp only [go_sem]
     repeat refine zq ?_
     refine zb fun K hK=>?_;simp only [go_sem];(try simp (disch:=omega) only [zI]);repeat first | intro _ | refine ⟨by omega,?_⟩
     refine hK _ ?_;clear hK K
     try simp only [go_sem]
     refine ⟨hci,fit0_of [] (by first | exact hvz | (intro j hj; simp only [upd]; (repeat' split); all_goals first | rfl | omega | exact hvz _ hj)) ?_ ?_⟩
     · try simp only [go_sem]
       rw [hsn]
     · try simp only [go_sem]
       simp [Int.add_assoc]
   · have hig : i = g.length:=by omega
     subst hig
     have hq : Int.tdiv (psumL m sh k g.length) g.length = psumL m sh k g.length / g.length:=Int.tdiv_eq_ediv_of_nonneg hb.1
     have hl0 : (g.length : Int) ≠ 0:=by omega
     have hd1 : 0 ≤ psumL m sh k g.length / g.length:=Int.ediv_nonneg hb.1 (by omega)
     have hd2 : psumL m sh k g.length / g.length * g.length ≤ psumL m sh k g.length:=Int.ediv_mul_le _ hl0
     have hd3 : psumL m sh k g.length / g.length ≤ 1000000000:=by
      have:=Int.ediv_le_ediv (show (0 : Int) < g.length by omega) hb.2
      rwa [Int.mul_ediv_cancel _ hl0] at this
     have hd4 : 0 ≤ psumL m sh k g.length / g.length * g.length:=Int.mul_nonneg hd1 (by omega)
     generalize hS : psumL m sh k g.length = S at *
     generalize hv : S / g.length = v at *
     refine zf ?_;simp only [go_sem]
     repeat refine zq ?_
     refine zb fun K hK=>?_;simp only [go_sem,hv0,hv1];(try simp (disch:=omega) only [zI])
     intros
     repeat first | intro _ | refine ⟨by omega,?_⟩
     refine hK _ ?_;clear hK K;refine zw (zk [0,1,5,28,29,30]) ?_;simp only [go_sem]
     repeat refine zq ?_
     refine zd ?_
     refine awp_upto0 (n:=51) g.length (fun i vs=>[(0,.pt 1000 0 0),(1,.r (ints g)),(5,.r (i64 S)),(28,.r (ints g)),(29,.r (i64 g.length)),(30,.r (i64 i))])
      (fun i=>[(1000,.box (fundB m sh ((k : Int) + g.length))),(1001,.mp ((payM M (g.take i) v).map encIQ))]) (fun _=>True) 0 (fit0_of [] hvz ?_ ?_) (Nat.zero_le _) trivial ?_
     · try simp only [go_sem]
     · try simp only [go_sem]
       simp [payM]
     · intro i vs hvz hi _
       have hv0:=hvz 1000 (by omega)
       have hv1:=hvz 1001 (by omega)
       repeat refine zq ?_
       refine zb fun K hK=>?_;simp only [go_sem];(try simp (disch:=omega) only [zI]);repeat first | intro _ | refine ⟨by omega,?_⟩
       refine hK _ ?_;clear hK K;refine zw (zk [0,1,5,28,29,30,31]) ?_;simp only [go_sem]
       repeat refine zq ?_
       refine zc rfl (fun hc=>?_) (fun hc=>?_) <;> (try simp only [go_sem] at hc)
       · have hci:=hc
         obtain ⟨p,hx⟩:=opt_of_lt hci
         have hfr : findIQ p (payM M (g.take i) v) 0 = none:=by
          refine findI_fresh 0 ?_
          rw [payM_keys]
          intro hmem
          have h2 : (M.map (·.1) ++ g.take i ++ [p]).Nodup:=by
           have h3 : (M.map (·.1) ++ g.take i ++ [p]) = M.map (·.1) ++ g.take (i + 1):=by rw [take_of_opt hx,List.append_assoc]
           rw [h3]
           exact List.Nodup.sublist (List.Sublist.append (List.Sublist.refl _) (List.take_sublist _ _)) hn
          rw [List.nodup_append] at h2
          exact h2.2.2 p hmem p (by simp) rfl
         have hfk:=findK_I p (payM M (g.take i) v) 0
         rw [hfr] at hfk
         refine zx ?_
         try simp only [go_sem]
         repeat refine zq ?_
         refine zd ?_
         repeat refine zq ?_
         refine zb fun K hK=>?_;simp only [go_sem,hx,hci];(try simp (disch:=omega) only [zI]);repeat first | intro _ | refine ⟨by omega,?_⟩
         refine hK _ ?_;clear hK K;refine zw (zk [0,1,5,7,28,29,30]) ?_;simp only [go_sem]
         repeat refine zq ?_
         refine zg follows (by decide +kernel) (by kernel_rfl) fun K hK=>?_;simp only [go_sem,hfk,hq,hl0,hv,hv0,hv1,Option.map_none];(try simp (disch:=omega) only [zI]);repeat first | intro _ | refine ⟨by omega,?_⟩
         refine hK _ ?_;clear hK K;refine zw (zk [0,1,5,28,29,30]) ?_;simp only [go_sem]
         repeat refine zq ?_
         refine zb fun K hK=>?_;simp only [go_sem];(try simp (disch:=omega) only [zI]);repeat first | intro _ | refine ⟨by omega,?_⟩
         refine hK _ ?_;clear hK K
         try simp only [go_sem]
         refine ⟨hci,fit0_of [] (by first | exact hvz | (intro j hj; simp only [upd]; (repeat' split); all_goals first | rfl | omega | exact hvz _ hj)) ?_ ?_⟩
         · try simp only [go_sem]
         · try simp only [go_sem]
           rw [take_of_opt hx,payM_snoc]
           simp
       · have hig : i = g.length:=by omega
         subst hig
         rw [List.take_length]
         refine zf ?_;simp only [go_sem]
         repeat refine zq ?_
         refine zb fun K hK=>?_;simp only [go_sem,hq,hl0,hv];(try simp (disch:=omega) only [zI])
         intros
         repeat first | intro _ | refine ⟨by omega,?_⟩
         refine hK _ ?_;clear hK K;refine zw (zk [4]) ?_;simp only [go_sem];refine ze ?_;simp only [go_sem]
theorem fcheck_ok (m : Int) (sh : List Int) (k : Int) (M : List (Int × Int)) (n : Int) (g : List Int) (hn : 1 ≤ n ∧ n ≤ 60) (hg : 1 ≤ g.length ∧ g.length ≤ 60) (hr : ∀ p ∈ g,0 ≤ p ∧ p < n) (hd : (M.map (·.1) ++ g).Nodup) :
 MCalls Try.prog 82 [(1000,.box (fundB m sh k)),(1001,.mp (M.map encIQ))] [(1000,.box (fundB m sh k)),(1001,.mp (M.map encIQ))] [.pt 1000 0 0,.r (i64 n),.r (ints g)] (.r (i64 0)):=by
 refine mcalls_st (n:=48) (rs:=[.r (i64 0)]) _ _ [.tmp 6] Try.func82 rfl (by kernel_rfl) Try.ntmps82 rfl (by simp) rfl rfl fun C=>?_
 have e1 : ((g.length : Int) == 0) = false:=by
  have : (g.length : Int) ≠ 0:=by omega
  simpa using this
 repeat refine zq ?_
 refine zb fun K hK=>?_;simp only [go_sem];(try simp (disch:=omega) only [zI]);repeat first | intro _ | refine ⟨by omega,?_⟩
 refine hK _ ?_;clear hK K;refine zw (zk [0,1,2]) ?_;simp only [go_sem]
 repeat refine zq ?_
 refine zb fun K hK=>?_;simp only [go_sem,e1];(try simp (disch:=omega) only [zI])
 intros
 repeat first | intro _ | refine ⟨by omega,?_⟩
 refine hK _ ?_;clear hK K;refine zw (zk [0,1,2,14]) ?_;simp only [go_sem]
 repeat refine zq ?_
 refine zc rfl (fun hc=>?_) (fun hc=>?_) <;> (try simp only [go_sem] at hc)
 refine zx ?_
 try simp only [go_sem]
 repeat refine zq ?_
 refine zb fun K hK=>?_;simp only [go_sem];(try simp (disch:=omega) only [zI]);repeat first | intro _ | refine ⟨by omega,?_⟩
 refine hK _ ?_;clear hK K;refine zw (zk [0,1,2,7]) ?_;simp only [go_sem]
 repeat refine zq ?_
 refine zb fun K hK=>?_;simp only [go_sem];(try simp (disch:=omega) only [zI])
 intros
 repeat first | intro _ | refine ⟨by omega,?_⟩
 refine hK _ ?_;clear hK K;refine zw (zk [0,1,7,16,17,18]) ?_;simp only [go_sem]
 repeat refine zq ?_
 refine zd ?_
 refine awp_upto0 (n:=48) g.length (fun i vs=>[(0,.pt 1000 0 0),(1,.r (i64 n)),(7,.mp 15 (vs 15)),(16,.r (ints g)),(17,.r (i64 g.length)),(18,.r (i64 i))])
  (fun i=>[(15,.mp ((g.take i).map encBQ)),(1000,.box (fundB m sh k)),(1001,.mp (M.map encIQ))]) (fun _=>True) 0 (fit0_of [] (lent_upd (by omega) lent_zero) ?_ ?_) (Nat.zero_le _) trivial ?_
 · try simp only [go_sem]
 · try simp only [go_sem]
 · intro i vs hvz hi _
   have hv0:=hvz 1000 (by omega)
   have hv1:=hvz 1001 (by omega)
   repeat refine zq ?_
   refine zb fun K hK=>?_;simp only [go_sem];(try simp (disch:=omega) only [zI]);repeat first | intro _ | refine ⟨by omega,?_⟩
   refine hK _ ?_;clear hK K;refine zw (zk [0,1,7,16,17,18,19]) ?_;simp only [go_sem]
   repeat refine zq ?_
   refine zc rfl (fun hc=>?_) (fun hc=>?_) <;> (try simp only [go_sem] at hc)
   · have hci:=hc
     obtain ⟨p,hx⟩:=opt_of_lt hci
     have hp:=hr p (mem_of_opt hx)
     have hw : withinL 0 (n - 1) [p] = true:=by simp [withinL]; omega
     have hfk:=findK_I p M 0
     have h2 : (M.map (·.1) ++ g.take i ++ [p]).Nodup:=by
      have h3 : (M.map (·.1) ++ g.take i ++ [p]) = M.map (·.1) ++ g.take (i + 1):=by rw [take_of_opt hx,List.append_assoc]
      rw [h3]
      exact List.Nodup.sublist (List.Sublist.append (List.Sublist.refl _) (List.take_sublist _ _)) hd
     rw [List.nodup_append] at h2
     have hf1 : p ∉ M.map (·.1):=fun h=>h2.2.2 p (List.mem_append.2 (.inl h)) p (by simp) rfl
     have hf2 : p ∉ g.take i:=fun h=>h2.2.2 p (List.mem_append.2 (.inr h)) p (by simp) rfl
     rw [findI_fresh 0 hf1] at hfk
     have hfs:=findK_seen 0 hf2
     refine zx ?_
     try simp only [go_sem]
     repeat refine zq ?_
     refine zd ?_
     repeat refine zq ?_
     refine zb fun K hK=>?_;simp only [go_sem,hx,hci];(try simp (disch:=omega) only [zI]);repeat first | intro _ | refine ⟨by omega,?_⟩
     refine hK _ ?_;clear hK K;refine zw (zk [0,1,7,9,16,17,18]) ?_;simp only [go_sem]
     repeat refine zq ?_
     refine zb fun K hK=>?_;simp only [go_sem,hfk,hv0,hv1,Option.map_none];(try simp (disch:=omega) only [zI]);repeat first | intro _ | refine ⟨by omega,?_⟩
     refine hK _ ?_;clear hK K;refine zw (zk [0,1,7,9,11,16,17,18]) ?_;simp only [go_sem]
     repeat refine zq ?_
     refine zd ?_
     repeat refine zq ?_
     refine zb fun K hK=>?_;simp only [go_sem];(try simp (disch:=omega) only [zI])
     refine zh (pWithin_ok 0 (n - 1) [p]) rfl (by simp only [go_sem,i64,ints,hw]) (by simp only [go_sem,i64,ints,hw]) (by first | exact .inl rfl | exact .inr rfl) ?_
     (try simp only [go_sem,hw]);(try simp (disch:=omega) only [zI]);repeat first | intro _ | refine ⟨by omega,?_⟩
     refine hK _ ?_;clear hK K;refine zw (zk [0,1,7,9,11,16,17,18,31]) ?_;simp only [go_sem]
     repeat refine zq ?_
     refine zc rfl (fun hc=>?_) (fun hc=>?_) <;> (try simp only [go_sem] at hc)
     repeat refine zq ?_
     refine zb fun K hK=>?_;simp only [go_sem,hfs];(try simp (disch:=omega) only [zI]);repeat first | intro _ | refine ⟨by omega,?_⟩
     refine hK _ ?_;clear hK K;refine zw (zk [0,1,7,9,16,17,18,38]) ?_;simp only [go_sem]
     repeat refine zq ?_
     refine zc rfl (fun hc=>?_) (fun hc=>?_) <;> (try simp only [go_sem] at hc)
     refine zx ?_
     try simp only [go_sem]
     repeat refine zq ?_
     refine zb fun K hK=>?_;simp only [go_sem,hfs];(try simp (disch:=omega) only [zI]);repeat first | intro _ | refine ⟨by omega,?_⟩
     refine hK _ ?_;clear hK K;refine zw (zk [0,1,7,16,17,18]) ?_;simp only [go_sem]
     repeat refine zq ?_
     refine zb fun K hK=>?_;simp only [go_sem];(try simp (disch:=omega) only [zI]);repeat first | intro _ | refine ⟨by omega,?_⟩
     refine hK _ ?_;clear hK K
     try simp only [go_sem]
     refine ⟨hci,fit0_of [] (by first | exact hvz | (intro j hj; simp only [upd]; (repeat' split); all_goals first | rfl | omega | exact hvz _ hj)) ?_ ?_⟩
     · try simp only [go_sem]
     · try simp only [go_sem]
       rw [take_of_opt hx]
       simp
   · refine zf ?_;simp only [go_sem]
     repeat refine zq ?_
     refine zb fun K hK=>?_;simp only [go_sem];(try simp (disch:=omega) only [zI]);repeat first | intro _ | refine ⟨by omega,?_⟩
     refine hK _ ?_;clear hK K;refine zw (zk [6]) ?_;simp only [go_sem];refine ze ?_;simp only [go_sem]
end Go.Proofs.Ytobokbhpeaakjaa

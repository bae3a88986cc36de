/- For all rules, matches, teams and places, the given function TableWays returns true: the results with which a team has a place, or misses it, and its magic points, or the errors, are what the document says. No conditions beyond those of the given statement. -/
import Derived.Test.YtobokbhpeaakjaaVC10
import Derived.Test.YtobokbhpeaakjaaVC5
import Derived.ChangeShapes
import Derived.WideShapes
import Derived.OpenShut
import Derived.ShutString
import Derived.ChangeOld
import Derived.Carry
import Derived.Below
import Derived.Test.YtobokbhpeaakjaaRows
import Derived.JoinedOf
namespace Go.Proofs.Ytobokbhpeaakjaa
open Go Go.Oc
set_option linter.unusedSimpArgs false
set_option linter.unusedVariables false
def idxAt {α : Type} (p : α → Bool) (ts : List α) (i : Nat) : Int:=if indexF p (ts.drop i) < 0 then -1 else i + indexF p (ts.drop i)
theorem idxAt_step {α : Type} {p : α → Bool} {ts : List α} {i : Nat} {x : α} (hx : ts[i]? = some x) : idxAt p ts i = if p x then (i : Int) else idxAt p ts (i + 1):=by
 unfold idxAt
 rw [drop_of_opt hx]
 have:=indexF_ge p (ts.drop (i + 1))
 cases h : p x <;> simp only [indexF,h,Bool.false_eq_true,if_false,if_true]
 · (repeat' split) <;> omega
 · rw [if_neg (by omega)]; omega
theorem idxAt_end {α : Type} (p : α → Bool) (ts : List α) : idxAt p ts ts.length = -1:=by
 unfold idxAt; rw [List.drop_length]; rfl
theorem idxAt_zero {α : Type} (p : α → Bool) (ts : List α) : idxAt p ts 0 = indexF p ts:=by
 unfold idxAt; rw [List.drop_zero]
 have:=indexF_ge p ts
 split <;> omega
theorem index_find {α : Type} (p : α → Bool) (l : List α) : (indexF p l = -1 ∧ l.find? p = none) ∨ ∃ (k : Nat) (x : α),indexF p l = k ∧ l[k]? = some x ∧ l.find? p = some x:=by
 rcases indexF_facts p l with ⟨h1,h2⟩ | ⟨i,h1,h2,h3,x,h4,h5⟩
 · exact .inl ⟨h1,List.find?_eq_none.2 fun x hx=>by simp [h2 x hx]⟩
 · refine .inr ⟨i,x,h1,h4,find_some_at (i:=i) (List.find?_eq_none.2 fun y hy=>by simp [h3 y hy]) h4 h5⟩
theorem mem_canF {x : Nat} {z : Int} {ts : List Th} : z ∈ canF x ts ↔ ∃ t ∈ ts,t.won.getD x 0 = z:=canF_mem x ts z
theorem missF_lt {n x : Nat} {place k : Int} {ts : List Th} : missF n x place ts < k ↔ -1 < k ∧ ∀ t ∈ ts,place < (placesV n t x).2 → t.won.getD x 0 < k:=by
 induction ts using snoc_ind with
 | h0=>simp [missF]
 | h1 l t ih =>
   rw [missF_snoc]
   unfold missS
   by_cases h : (placesV n t x).2 > place
   · rw [if_pos h]
     constructor
     · intro hk
       obtain ⟨h1,h2⟩:=ih.1 (show missF n x place l < k by omega)
       refine ⟨h1,fun s hs hp=>?_⟩
       rcases List.mem_append.1 hs with hs | hs
       · exact h2 s hs hp
       · rw [List.mem_singleton] at hs; subst hs; omega
     · rintro ⟨h1,h2⟩
       have a:=ih.2 ⟨h1,fun s hs hp=>h2 s (by simp [hs]) hp⟩
       have b:=h2 t (by simp) h
       omega
   · rw [if_neg h]
     constructor
     · intro hk
       obtain ⟨h1,h2⟩:=ih.1 hk
       refine ⟨h1,fun s hs hp=>?_⟩
       rcases List.mem_append.1 hs with hs | hs
       · exact h2 s hs hp
       · rw [List.mem_singleton] at hs; subst hs; exact absurd hp h
     · rintro ⟨h1,h2⟩
       exact ih.2 ⟨h1,fun s hs hp=>h2 s (by simp [hs]) hp⟩
theorem magB_iff {n x : Nat} {place : Int} {ts : List Th} {m : Nat} : magB n x place ts m = true ↔ (m : Int) ∈ canF x ts ∧ missF n x place ts < m:=by
 unfold magB canB sureB
 rw [Bool.and_eq_true,mem_canF,missF_lt,List.any_eq_true,List.all_eq_true]
 simp only [beq_iff_eq,Bool.not_eq_true',Bool.and_eq_false_iff,decide_eq_false_iff_not]
 refine and_congr Iff.rfl ⟨fun h=>⟨by omega,fun t ht hp=>?_⟩,fun h t ht=>?_⟩
 · have:=h t ht
   rcases this with h | h <;> omega
 · have:=h.2 t ht
   by_cases hp : place < (placesV n t x).2
   · left; have:=this hp; omega
   · exact .inr hp
theorem magic_eq {n x : Nat} {place : Int} {ts : List Th} (h : ∀ t ∈ ts,0 ≤ t.won.getD x 0 ∧ t.won.getD x 0 ≤ 90) : bestV (missF n x place ts) (canF x ts) = refMagicV n x place ts:=by
 apply bestV_eq
 have hge:=missF_ge n x place ts
 unfold refMagicV
 cases hf : (List.range 91).find? (magB n x place ts) with
 | none =>
   refine .inl ⟨rfl,fun k hk hgt=>?_⟩
   obtain ⟨t,ht,rfl⟩:=mem_canF.1 hk
   obtain ⟨h0,h90⟩:=h t ht
   obtain ⟨m,hm⟩:=Int.eq_ofNat_of_zero_le h0
   have hmb:=List.find?_eq_none.1 hf m (List.mem_range.2 (by omega))
   refine hmb (magB_iff.2 ⟨?_,by omega⟩)
   rw [← hm]; exact hk
 | some m =>
   have hp:=List.find?_some hf
   obtain ⟨h1,h2⟩:=magB_iff.1 hp
   refine .inr ⟨h1,h2,fun k hk hgt=>?_⟩
   obtain ⟨t,ht,rfl⟩:=mem_canF.1 hk
   obtain ⟨h0,h90⟩:=h t ht
   obtain ⟨j,hj⟩:=Int.eq_ofNat_of_zero_le h0
   rw [hj]
   by_cases hlt : j < m
   · exfalso
     rw [List.find?_range_eq_some] at hf
     exact absurd ((magB_iff (n:=n) (place:=place)).2 ⟨by rw [← hj]; exact hk,by omega⟩) (by simpa using hf.2.2 j hlt)
   · simp only; omega
theorem ctrs_le9 {r : Tr} (hr : RulesI r) (i : Nat) : ∀ (ms : List Mt) (xs : List Int),(∀ m ∈ ms,MatchI r m) → 0 ≤ ctrs r ms xs i ∧ ctrs r ms xs i ≤ 9 * ms.length
 | [],xs,_=>by simp [ctrs]
 | m :: ms,[],_=>by simp [ctrs]; omega
 | m :: ms, x :: xs, h => by
   have h1 : 0 ≤ ctr r m x i ∧ ctr r m x i ≤ 9:=by
    have:=ptsV_le hr x
    have hm:=h m (by simp)
    have:=hm.h
    have:=hm.a
    have:=hm.ne
    unfold ctr; split <;> split <;> omega
   have h2:=ctrs_le9 hr i ms xs fun m' h'=>h m' (by simp [h'])
   simp only [ctrs,List.length_cons]; omega
theorem won_le {r : Tr} (hr : RulesI r) {l : List Mt} (hl : ∀ m ∈ l,MatchI r m) (hn : (leftV l).length ≤ 10) (x : Nat) (hx : x < 10) : ∀ t ∈ truthsL r l,0 ≤ t.won.getD x 0 ∧ t.won.getD x 0 ≤ 90:=fun t ht=>by
 rw [truthsL_eq hr hl] at ht
 obtain ⟨res,_,rfl⟩:=List.mem_map.1 ht
 unfold truthOf
 simp only
 rw [rangeF_getD _ _ hx]
 have h1:=ctrs_le9 hr x (leftV l) res (left_mem hl)
 have h2 : (startT r l).won.getD x 0 = 0:=by
  unfold startT; simp only; rw [List.getD_eq_getElem?_getD,List.getElem?_replicate]; split <;> rfl
 rw [h2]; omega
set_option maxRecDepth 8000
set_option maxHeartbeats 4000000
def p1B (n x : Nat) (place : Int) (t : Th) : Bool:=decide ((placesV n t x).1 ≤ place)
def p2B (n x : Nat) (place : Int) (t : Th) : Bool:=decide (place < (placesV n t x).2)
theorem way_idx {r : Tr} {l : List Mt} {team place : Int} (h : openV r l team place = 0) (miss : Bool) (p : Th → Bool) (hp : ∀ t,p t = wayF r team.toNat place miss t) :
 (indexF p (truthsL r l) < 0 ∧ wayV r l team place miss = (.ns,7)) ∨ ∃ (k : Nat) (t : Th),indexF p (truthsL r l) = k ∧ (truthsL r l)[k]? = some t ∧ wayV r l team place miss = (ints t.res,0):=by
 have e : p = wayF r team.toNat place miss:=funext hp
 rw [e]
 unfold wayV
 rw [if_neg (by simp [h])]
 rcases index_find (wayF r team.toNat place miss) (truthsL r l) with ⟨h1,h2⟩ | ⟨k,t,h1,h2,h3⟩
 · rw [h2]; exact .inl ⟨by omega,rfl⟩
 · rw [h3]; exact .inr ⟨k,t,h1,h2,rfl⟩
theorem ways_law (r : Tr) (l : List Mt) (hw : Wf r l) (team place : Int) (hti : I64 team) (hpi : I64 place) : ACalls Try.prog 5 [trV r,mtsR l,.ag [i64 team,i64 place]] (.bo true):=by
 have hgr:=great_ok r l
 have hkn:=known_ok
 unfold I64 at hti hpi
 refine acalls_st (rs:=[.bo true]) [.tmp 6] Try.func5 rfl (by kernel_rfl) Try.ntmps5 rfl (by simp) rfl fun C vs=>?_
 refine zq ?_
 refine zb fun K hK=>?_;simp only [go_sem];refine hK _ ?_;clear hK K;refine zw (sub_frzP 3 3 (trC r) (by omega) rfl rfl) ?_;refine zw (sub_frzP 5 5 [i64 team,i64 place] (by omega) rfl rfl) ?_;refine zw (zk [1,3,5]) ?_;simp only [go_sem]
 by_cases hG : 200 < l.length ∨ 20 < r.ded.length
 · have hGb : (decide (200 < l.length) || decide (20 < r.ded.length)) = true:=by simpa using hG
   rw [hGb] at hgr
   repeat refine zq ?_
   refine zb fun K hK=>?_;simp only [go_sem]
   refine zh (hgr) rfl (by simp only [go_sem,i64,ints]) (by simp only [go_sem,i64,ints]) (by first | exact .inl rfl | exact .inr rfl) ?_
   (try simp only [go_sem]);refine hK _ ?_;clear hK K;refine zw (zk [1,3,5,33]) ?_;simp only [go_sem]
   refine zc rfl (fun hc=>?_) (fun hc=>?_) <;> (try simp only [go_sem] at hc)
   refine zq ?_
   refine zb fun K hK=>?_;simp only [go_sem]
   refine zh (hkn) rfl (by simp only [go_sem,i64,ints]) (by simp only [go_sem,i64,ints]) (by first | exact .inl rfl | exact .inr rfl) ?_
   (try simp only [go_sem]);refine hK _ ?_;clear hK K;refine zw (zk [6]) ?_;simp only [go_sem];refine ze ?_;simp only [go_sem]
 have hGb : (decide (200 < l.length) || decide (20 < r.ded.length)) = false:=by simp; omega
 rw [hGb] at hgr
 have hma:=many_ok l (by omega)
 cases hMb : manyB l with
 | true =>
   rw [hMb] at hma
   repeat refine zq ?_
   refine zb fun K hK=>?_;simp only [go_sem]
   refine zh (hgr) rfl (by simp only [go_sem,i64,ints]) (by simp only [go_sem,i64,ints]) (by first | exact .inl rfl | exact .inr rfl) ?_
   (try simp only [go_sem])
   refine zh (hma) rfl (by simp only [go_sem,i64,ints]) (by simp only [go_sem,i64,ints]) (by first | exact .inl rfl | exact .inr rfl) ?_
   (try simp only [go_sem]);refine hK _ ?_;clear hK K;refine zw (zk [1,3,5,33]) ?_;simp only [go_sem]
   refine zc rfl (fun hc=>?_) (fun hc=>?_) <;> (try simp only [go_sem] at hc)
   refine zq ?_
   refine zb fun K hK=>?_;simp only [go_sem]
   refine zh (hkn) rfl (by simp only [go_sem,i64,ints]) (by simp only [go_sem,i64,ints]) (by first | exact .inl rfl | exact .inr rfl) ?_
   (try simp only [go_sem]);refine hK _ ?_;clear hK K;refine zw (zk [6]) ?_;simp only [go_sem];refine ze ?_;simp only [go_sem]
 | false =>
 rw [hMb] at hma
 have how:=own_ok r (by omega)
 have hco:=copied_ok l (by omega)
 have hwa:=Way_ok r l hw team place false
 have hwb:=Way_ok r l hw team place true
 have hmg:=Magic_ok r l hw team place
 have hre:=refCheck_ok r l hw
 have hlf:=refLeft_ok l (by omega)
 repeat refine zq ?_
 refine zb fun K hK=>?_;simp only [go_sem]
 refine zh (hgr) rfl (by simp only [go_sem,i64,ints]) (by simp only [go_sem,i64,ints]) (by first | exact .inl rfl | exact .inr rfl) ?_
 (try simp only [go_sem])
 refine zh (hma) rfl (by simp only [go_sem,i64,ints]) (by simp only [go_sem,i64,ints]) (by first | exact .inl rfl | exact .inr rfl) ?_
 (try simp only [go_sem]);refine hK _ ?_;clear hK K;refine zw (zk [1,3,5,33]) ?_;simp only [go_sem]
 refine zc rfl (fun hc=>?_) (fun hc=>?_) <;> (try simp only [go_sem] at hc)
 refine zx ?_
 try simp only [go_sem]
 refine zq ?_
 refine zg follows (by decide +kernel) (by kernel_rfl) fun K hK=>?_;simp only [go_sem];refine hK _ ?_;clear hK K;refine zw (zk [1,3,7,8]) ?_;simp only [go_sem]
 refine zq ?_
 refine zb fun K hK=>?_;simp only [go_sem]
 refine zh (how) rfl (by simp only [go_sem,i64,ints]) (by simp only [go_sem,i64,ints]) (by first | exact .inl rfl | exact .inr rfl) ?_
 (try simp only [go_sem])
 refine zh (hco) rfl (by simp only [go_sem,i64,ints]) (by simp only [go_sem,i64,ints]) (by first | exact .inl rfl | exact .inr rfl) ?_
 (try simp only [go_sem])
 refine zh (hwa) rfl (by simp only [go_sem,i64,ints]) (by simp only [go_sem,i64,ints]) (by first | exact .inl rfl | exact .inr rfl) ?_
 (try simp only [go_sem]);refine hK _ ?_;clear hK K;refine zw (zk [1,3,7,8,9,10]) ?_;simp only [go_sem]
 refine zq ?_
 refine zb fun K hK=>?_;simp only [go_sem]
 refine zh (how) rfl (by simp only [go_sem,i64,ints]) (by simp only [go_sem,i64,ints]) (by first | exact .inl rfl | exact .inr rfl) ?_
 (try simp only [go_sem])
 refine zh (hco) rfl (by simp only [go_sem,i64,ints]) (by simp only [go_sem,i64,ints]) (by first | exact .inl rfl | exact .inr rfl) ?_
 (try simp only [go_sem])
 refine zh (hwb) rfl (by simp only [go_sem,i64,ints]) (by simp only [go_sem,i64,ints]) (by first | exact .inl rfl | exact .inr rfl) ?_
 (try simp only [go_sem]);refine hK _ ?_;clear hK K;refine zw (zk [1,3,7,8,9,10,11,12]) ?_;simp only [go_sem]
 refine zq ?_
 refine zb fun K hK=>?_;simp only [go_sem]
 refine zh (how) rfl (by simp only [go_sem,i64,ints]) (by simp only [go_sem,i64,ints]) (by first | exact .inl rfl | exact .inr rfl) ?_
 (try simp only [go_sem])
 refine zh (hco) rfl (by simp only [go_sem,i64,ints]) (by simp only [go_sem,i64,ints]) (by first | exact .inl rfl | exact .inr rfl) ?_
 (try simp only [go_sem])
 refine zh (hmg) rfl (by simp only [go_sem,i64,ints]) (by simp only [go_sem,i64,ints]) (by first | exact .inl rfl | exact .inr rfl) ?_
 (try simp only [go_sem]);refine hK _ ?_;clear hK K;refine zw (zk [1,3,7,8,9,10,11,12,13,14]) ?_;simp only [go_sem]
 refine zq ?_
 refine zb fun K hK=>?_;simp only [go_sem]
 refine zh (hre) rfl (by simp only [go_sem,i64,ints]) (by simp only [go_sem,i64,ints]) (by first | exact .inl rfl | exact .inr rfl) ?_
 (try simp only [go_sem]);refine hK _ ?_;clear hK K;refine zw (zk [1,3,7,8,9,10,11,12,13,14,16]) ?_;simp only [go_sem]
 repeat refine zq ?_
 refine awp_joinV (n:=218) (fun (_ : Unit) vs=>[(1,.r (mtsR l)),(3,.r (.rp (trC r))),(7,.r (i64 team)),(8,.r (i64 place)),(9,.r (wayV r l team place false).1),(10,.r (i64 (wayV r l team place false).2)),(11,.r (wayV r l team place true).1),(12,.r (i64 (wayV r l team place true).2)),(13,.r (i64 (magicV r l team place))),(14,.r (i64 (openV r l team place))),(16,.r (i64 (checkV r l).2)),(96,.r (.bo (decide ((checkV r l).2 = 0 ∧ tpOk r team place = false))))]) (fun _ _=>[]) (fun _=>True) (fun _ h=>h) ?_ ?_
 · by_cases h0 : (checkV r l).2 = 0
   rotate_left
   · have h0b : ((checkV r l).2 == 0) = false:=by simpa using h0
     refine zb fun K hK=>?_;simp only [go_sem,h0b];refine hK _ ?_;clear hK K
     refine ⟨(),trivial,zj [] ?_ ?_⟩
     · try simp only [go_sem]
       simp [*,tpOk,withinL]
       try omega
     · try simp only [go_sem]
   have h0b : ((checkV r l).2 == 0) = true:=by simpa using h0
   obtain ⟨h1,hR,hM,_⟩:=checkV_zero h0
   have hrt:=hR.teams
   clear hR
   by_cases b1 : team < 0
   · have c1 : decide (team < 0) = true:=by simpa using b1
     refine zb fun K hK=>?_;simp only [go_sem,h0b,c1];refine hK _ ?_;clear hK K
     refine ⟨(),trivial,zj [] ?_ ?_⟩
     · try simp only [go_sem]
       simp [*,tpOk,withinL]
       try omega
     · try simp only [go_sem]
   have c1 : decide (team < 0) = false:=by simpa using b1
   by_cases b2 : r.teams ≤ team
   · have c2 : decide (r.teams ≤ team) = true:=by simpa using b2
     refine zb fun K hK=>?_;simp only [go_sem,h0b,c1,c2];refine hK _ ?_;clear hK K
     refine ⟨(),trivial,zj [] ?_ ?_⟩
     · try simp only [go_sem]
       simp [*,tpOk,withinL]
       try omega
     · try simp only [go_sem]
   have c2 : decide (r.teams ≤ team) = false:=by simpa using b2
   by_cases b3 : place < 1
   · have c3 : decide (place < 1) = true:=by simpa using b3
     refine zb fun K hK=>?_;simp only [go_sem,h0b,c1,c2,c3];refine hK _ ?_;clear hK K
     refine ⟨(),trivial,zj [] ?_ ?_⟩
     · try simp only [go_sem]
       simp [*,tpOk,withinL]
       try omega
     · try simp only [go_sem]
   have c3 : decide (place < 1) = false:=by simpa using b3
   by_cases b4 : r.teams < place
   · have c4 : decide (r.teams < place) = true:=by simpa using b4
     refine zb fun K hK=>?_;simp only [go_sem,h0b,c1,c2,c3,c4];refine hK _ ?_;clear hK K
     refine ⟨(),trivial,zj [] ?_ ?_⟩
     · try simp only [go_sem]
       simp [*,tpOk,withinL]
       try omega
     · try simp only [go_sem]
   · have c4 : decide (r.teams < place) = false:=by simpa using b4
     refine zb fun K hK=>?_;simp only [go_sem,h0b,c1,c2,c3,c4];refine hK _ ?_;clear hK K
     refine ⟨(),trivial,zj [] ?_ ?_⟩
     · try simp only [go_sem]
       simp [*,tpOk,withinL]
       try omega
     · try simp only [go_sem]
 intro _ vs _
 obtain ⟨w1,hw1⟩ : ∃ w1,w1 = if (checkV r l).2 = 0 ∧ tpOk r team place = false then 3 else (checkV r l).2:=⟨_,rfl⟩
 refine awp_joinV (n:=218) (fun (_ : Unit) vs=>[(1,.r (mtsR l)),(3,.r (.rp (trC r))),(7,.r (i64 team)),(8,.r (i64 place)),(9,.r (wayV r l team place false).1),(10,.r (i64 (wayV r l team place false).2)),(11,.r (wayV r l team place true).1),(12,.r (i64 (wayV r l team place true).2)),(13,.r (i64 (magicV r l team place))),(14,.r (i64 (openV r l team place))),(16,.r (i64 w1))]) (fun _ _=>[]) (fun _=>True) (fun _ h=>h) ?_ ?_
 · skip
   refine zc rfl (fun hc=>?_) (fun hc=>?_) <;> (try simp only [go_sem] at hc)
   · have hc' : (checkV r l).2 = 0 ∧ tpOk r team place = false:=by simpa using hc
     rw [if_pos hc'] at hw1
     subst hw1
     refine zb fun K hK=>?_;simp only [go_sem];refine hK _ ?_;clear hK K
     refine ⟨(),trivial,zj [] ?_ ?_⟩
     · try simp only [go_sem]
     · try simp only [go_sem]
   · have hc' : ¬ ((checkV r l).2 = 0 ∧ tpOk r team place = false):=by simpa using hc
     rw [if_neg hc'] at hw1
     subst hw1
     refine zx ?_
     try simp only [go_sem]
     refine ⟨(),zj [] ?_ ?_⟩
     · try simp only [go_sem]
     · try simp only [go_sem]
 intro _ vs _
 repeat refine zq ?_
 refine awp_joinV (n:=218) (fun (_ : Unit) vs=>[(1,.r (mtsR l)),(3,.r (.rp (trC r))),(7,.r (i64 team)),(8,.r (i64 place)),(9,.r (wayV r l team place false).1),(10,.r (i64 (wayV r l team place false).2)),(11,.r (wayV r l team place true).1),(12,.r (i64 (wayV r l team place true).2)),(13,.r (i64 (magicV r l team place))),(14,.r (i64 (openV r l team place))),(16,.r (i64 w1)),(104,.r (.bo (decide (w1 = 0 ∧ 10 < (leftV l).length))))]) (fun _ _=>[]) (fun _=>True) (fun _ h=>h) ?_ ?_
 · by_cases h0 : w1 = 0
   · have h0b : (w1 == 0) = true:=by simpa using h0
     refine zb fun K hK=>?_;simp only [go_sem,h0b]
     refine zh (hlf) rfl (by simp only [go_sem,i64,ints,h0b]) (by simp only [go_sem,i64,ints,h0b]) (by first | exact .inl rfl | exact .inr rfl) ?_
     (try simp only [go_sem,h0b])
     intro _
     refine hK _ ?_;clear hK K
     refine ⟨(),trivial,zj [] ?_ ?_⟩
     · try simp only [go_sem]
       simp [h0]
       try omega
     · try simp only [go_sem]
   · have h0b : (w1 == 0) = false:=by simpa using h0
     refine zb fun K hK=>?_;simp only [go_sem,h0b];refine hK _ ?_;clear hK K
     refine ⟨(),trivial,zj [] ?_ ?_⟩
     · try simp only [go_sem]
       simp [h0]
     · try simp only [go_sem]
 intro _ vs _
 have hov : openV r l team place = if w1 = 0 ∧ 10 < (leftV l).length then 8 else w1:=by
  unfold openV fullV
  rw [hw1]
  by_cases h0 : (checkV r l).2 = 0
  · cases ht : tpOk r team place
    · simp [h0]
    · simp [h0]
  · simp [h0]
 refine awp_joinV (n:=218) (fun (_ : Unit) vs=>[(1,.r (mtsR l)),(3,.r (.rp (trC r))),(7,.r (i64 team)),(8,.r (i64 place)),(9,.r (wayV r l team place false).1),(10,.r (i64 (wayV r l team place false).2)),(11,.r (wayV r l team place true).1),(12,.r (i64 (wayV r l team place true).2)),(13,.r (i64 (magicV r l team place))),(14,.r (i64 (openV r l team place))),(16,.r (i64 (openV r l team place)))]) (fun _ _=>[]) (fun _=>True) (fun _ h=>h) ?_ ?_
 · skip
   refine zc rfl (fun hc=>?_) (fun hc=>?_) <;> (try simp only [go_sem] at hc)
   · have hc' : w1 = 0 ∧ 10 < (leftV l).length:=by simpa using hc
     rw [if_pos hc'] at hov
     rw [hov]
     refine zb fun K hK=>?_;simp only [go_sem];refine hK _ ?_;clear hK K
     refine ⟨(),trivial,zj [] ?_ ?_⟩
     · try simp only [go_sem]
     · try simp only [go_sem]
   · have hc' : ¬ (w1 = 0 ∧ 10 < (leftV l).length):=by simpa using hc
     rw [if_neg hc'] at hov
     rw [← hov]
     refine zx ?_
     try simp only [go_sem]
     refine ⟨(),zj [] ?_ ?_⟩
     · try simp only [go_sem]
     · try simp only [go_sem]
 intro _ vs _
 clear hov hw1 w1
 by_cases h0 : openV r l team place = 0
 rotate_left
 · have h0b : (openV r l team place != 0) = true:=by simpa using h0
   have hwf : wayV r l team place false = (.ns,openV r l team place):=by unfold wayV; rw [if_pos h0]
   have hwt : wayV r l team place true = (.ns,openV r l team place):=by unfold wayV; rw [if_pos h0]
   have hmv : magicV r l team place = 0:=by unfold magicV; rw [if_neg h0]
   rw [hwf,hwt,hmv]
   repeat refine zq ?_
   refine zb fun K hK=>?_;simp only [go_sem,h0b];refine hK _ ?_;clear hK K;refine zw (zk [1,3,7,8,9,10,11,12,13,14,16,106]) ?_;simp only [go_sem]
   refine zc rfl (fun hc=>?_) (fun hc=>?_) <;> (try simp only [go_sem] at hc)
   refine zq ?_
   refine zb fun K hK=>?_;simp only [go_sem,beq_self_eq_true];(try simp (disch:=omega) only [zI])
   repeat refine ⟨fun _=>?_,fun h=>by first | (cases h; done) | (simp at h)⟩
   refine zh (hkn) rfl (by simp only [go_sem,i64,ints,beq_self_eq_true]) (by simp only [go_sem,i64,ints,beq_self_eq_true]) (by first | exact .inl rfl | exact .inr rfl) ?_
   (try simp only [go_sem,beq_self_eq_true]);refine hK _ ?_;clear hK K;refine zw (zk [6]) ?_;simp only [go_sem];refine ze ?_;simp only [go_sem]
 obtain ⟨⟨hc0,hfl⟩,⟨ht0,ht1⟩,hp1,hp2⟩:=openV_zero h0
 obtain ⟨h1,hR,hM,_⟩:=checkV_zero hc0
 have hl10 : (leftV l).length ≤ 10:=by
  unfold fullV at hfl
  by_cases h : 10 < (leftV l).length
  · rw [if_pos h] at hfl; cases hfl
  · omega
 have hrt:=refTruths_ok r hR l hM h1 hl10
 have hwf:=truthsL_wf hR hM h1
 obtain ⟨hn,hn2,hn10⟩:=nT_eq hR
 have hn' : r.teams = (nT r : Int):=hn.symm
 obtain ⟨hlen1,hlen2⟩:=truthsL_len hR hM hl10
 obtain ⟨x,hx⟩:=Int.eq_ofNat_of_zero_le ht0
 subst hx
 have hxn : x < nT r:=by omega
 have hpla:=fun (t : Th) (ht : t ∈ truthsL r l)=>refPlace_ok r hR t (hwf t ht) x hxn
 have hrm:=refMagic_ok r hR (truthsL r l) hwf (by omega) x hxn place
 have hmv : magicV r l (x : Int) place = refMagicV (nT r) x place (truthsL r l):=by
  unfold magicV; rw [if_pos h0,Int.toNat_natCast]; exact magic_eq (won_le hR hM hl10 x (by omega))
 have hW1:=way_idx h0 false (p1B (nT r) x place) fun t=>rfl
 have hW2:=way_idx h0 true (p2B (nT r) x place) fun t=>rfl
 rw [hmv]
 generalize wayV r l (x : Int) place false = W1 at *
 generalize wayV r l (x : Int) place true = W2 at *
 generalize truthsL r l = ts at *
 generalize refMagicV (nT r) x place ts = mg at *
 rw [h0]
 have hz : ((0 : Int) != 0) = false:=rfl
 repeat refine zq ?_
 refine zb fun K hK=>?_;simp only [go_sem,hz];refine hK _ ?_;clear hK K;refine zw (zk [1,3,7,8,9,10,11,12,13,14,16,106]) ?_;simp only [go_sem]
 refine zc rfl (fun hc=>?_) (fun hc=>?_) <;> (try simp only [go_sem] at hc)
 refine zx ?_
 try simp only [go_sem]
 refine zq ?_
 refine zb fun K hK=>?_;simp only [go_sem]
 refine zh (hrt) rfl (by simp only [go_sem,i64,ints]) (by simp only [go_sem,i64,ints]) (by first | exact .inl rfl | exact .inr rfl) ?_
 (try simp only [go_sem]);refine hK _ ?_;clear hK K;refine zw (zk [3,7,8,9,10,11,12,13,14,17]) ?_;simp only [go_sem]
 refine zq ?_
 refine zb fun K hK=>?_;simp only [go_sem];refine hK _ ?_;clear hK K;refine zw (zk [3,7,8,9,10,11,12,13,14,17,18,19]) ?_;simp only [go_sem]
 repeat refine zq ?_
 refine zb fun K hK=>?_;simp only [go_sem];(try simp (disch:=omega) only [zI])
 intro _
 refine hK _ ?_;clear hK K;refine zw (zk [3,7,8,9,10,11,12,13,14,17,18,19,20]) ?_;simp only [go_sem];refine zd ?_
 refine awp_uptoV (n:=218) ts.length (fun j vs=>[(3,.r (.rp (trC r))),(7,.r (i64 (x : Int))),(8,.r (i64 place)),(9,.r W1.1),(10,.r (i64 W1.2)),(11,.r W2.1),(12,.r (i64 W2.2)),(13,.r (i64 mg)),(14,.r (i64 0)),(17,.r (thsR ts)),(18,.r (i64 (idxAt (p1B (nT r) x place) ts (ts.length - j)))),(19,.r (i64 (idxAt (p2B (nT r) x place) ts (ts.length - j)))),(20,.r (i64 ((ts.length : Int) - 1 - (j : Int))))])
  (fun j vs=>[]) (fun _=>True) 0 (zj [] ?_ ?_) (Nat.zero_le _) trivial ?_
 · try simp only [go_sem]
   rw [idxAt_end,idxAt_end]
   try simp
 · try simp only [go_sem]
 · intro j vs hj _
   repeat refine zq ?_
   refine zb fun K hK=>?_;simp only [go_sem];refine hK _ ?_;clear hK K;refine zw (zk [3,7,8,9,10,11,12,13,14,17,18,19,20,142]) ?_;simp only [go_sem]
   refine zc rfl (fun hc=>?_) (fun hc=>?_) <;> (try simp only [go_sem] at hc)
   · have hjn : j < ts.length:=by omega
     obtain ⟨k,hk⟩ : ∃ k,ts.length = k + 1 + j:=⟨ts.length - 1 - j,by omega⟩
     have hkl : k < ts.length:=by omega
     obtain ⟨t,ht⟩:=opt_of_lt hkl
     have e1 : ts.length - j = k + 1:=by omega
     have e2 : ts.length - (j + 1) = k:=by omega
     have hcast : (ts.length : Int) - 1 - (j : Int) = (k : Int):=by omega
     have h21:=thC_len (hwf t (mem_of_opt ht))
     have htk : List.take 21 (thC t) = thC t:=List.take_of_length_le (by omega)
     have hst1:=idxAt_step (p:=p1B (nT r) x place) ht
     have hst2:=idxAt_step (p:=p2B (nT r) x place) ht
     have hplt:=hpla t (mem_of_opt ht)
     rw [e1,e2,hcast]
     generalize idxAt (p1B (nT r) x place) ts (k + 1) = a1 at *
     generalize idxAt (p2B (nT r) x place) ts (k + 1) = a2 at *
     refine zx ?_
     try simp only [go_sem]
     refine zq ?_
     refine zd ?_
     refine zq ?_
     refine zg follows (by decide +kernel) (by kernel_rfl) fun K hK=>?_;simp only [go_sem,ht,hkl,h21]
     refine zh (hplt) rfl (by simp only [go_sem,i64,ints,ht,hkl,h21,htk,thV,trC,trV]) (by simp only [go_sem,i64,ints,ht,hkl,h21,htk,thV,trC,trV]) (by first | exact .inl rfl | exact .inr rfl) ?_
     (try simp only [go_sem,ht,hkl,h21,htk,thV,trC,trV]);refine hK _ ?_;clear hK K;refine zw (zk [3,7,8,9,10,11,12,13,14,17,18,19,20,21,22]) ?_;simp only [go_sem]
     repeat refine zq ?_
     refine zb fun K hK=>?_;simp only [go_sem];refine hK _ ?_;clear hK K;refine zw (zk [3,7,8,9,10,11,12,13,14,17,18,19,20,22,157]) ?_;simp only [go_sem]
     refine awp_joinV (n:=218) (fun (_ : Unit) vs=>[(3,.r (.rp (trC r))),(7,.r (i64 (x : Int))),(8,.r (i64 place)),(9,.r W1.1),(10,.r (i64 W1.2)),(11,.r W2.1),(12,.r (i64 W2.2)),(13,.r (i64 mg)),(14,.r (i64 0)),(17,.r (thsR ts)),(18,.r (i64 (idxAt (p1B (nT r) x place) ts k))),(19,.r (i64 a2)),(20,.r (i64 (k : Int))),(22,.r (i64 (placesV (nT r) t x).2))]) (fun _ _=>[]) (fun _=>True) (fun _ h=>h) ?_ ?_
     · skip
       refine zc rfl (fun hc=>?_) (fun hc=>?_) <;> (try simp only [go_sem] at hc)
       · have hb : p1B (nT r) x place t = true:=by unfold p1B; simpa using hc
         rw [hb,if_pos rfl] at hst1
         rw [hst1]
         refine zb fun K hK=>?_;simp only [go_sem];refine hK _ ?_;clear hK K
         refine ⟨(),trivial,zj [] ?_ ?_⟩
         · try simp only [go_sem]
         · try simp only [go_sem]
       · have hb : p1B (nT r) x place t = false:=by unfold p1B; simpa using hc
         rw [hb] at hst1
         simp only [Bool.false_eq_true,if_false] at hst1
         rw [hst1]
         refine zx ?_
         try simp only [go_sem]
         refine ⟨(),zj [] ?_ ?_⟩
         · try simp only [go_sem]
         · try simp only [go_sem]
     intro _ vs _
     refine zq ?_
     refine zb fun K hK=>?_;simp only [go_sem];refine hK _ ?_;clear hK K;refine zw (zk [3,7,8,9,10,11,12,13,14,17,18,19,20,161]) ?_;simp only [go_sem]
     refine zc rfl (fun hc=>?_) (fun hc=>?_) <;> (try simp only [go_sem] at hc)
     · have hb : p2B (nT r) x place t = true:=by unfold p2B; simpa using hc
       rw [hb,if_pos rfl] at hst2
       rw [hst2]
       refine zb fun K hK=>?_;simp only [go_sem];refine hK _ ?_;clear hK K;refine zw (zk [3,7,8,9,10,11,12,13,14,17,18,19,20]) ?_;simp only [go_sem];refine zb fun K hK=>?_;simp only [go_sem];(try simp (disch:=omega) only [zI]);refine hK _ ?_;clear hK K
       try simp only [go_sem]
       refine ⟨by omega,zj [] ?_ ?_⟩
       · try simp only [go_sem]
         omega
       · try simp only [go_sem]
     · have hb : p2B (nT r) x place t = false:=by unfold p2B; simpa using hc
       rw [hb] at hst2
       simp only [Bool.false_eq_true,if_false] at hst2
       rw [hst2]
       refine zx ?_
       try simp only [go_sem]
       refine zb fun K hK=>?_;simp only [go_sem];(try simp (disch:=omega) only [zI]);refine hK _ ?_;clear hK K
       try simp only [go_sem]
       refine ⟨by omega,zj [] ?_ ?_⟩
       · try simp only [go_sem]
         omega
       · try simp only [go_sem]
   · have hjn : j = ts.length:=by omega
     subst hjn
     rw [Nat.sub_self,idxAt_zero,idxAt_zero]
     generalize indexF (p1B (nT r) x place) ts = i1 at *
     generalize indexF (p2B (nT r) x place) ts = i2 at *
     refine zf ?_;simp only [go_sem];refine zw (zk [3,7,8,9,10,11,12,13,14,17,18,19]) ?_;simp only [go_sem]
     repeat refine zq ?_
     refine zb fun K hK=>?_;simp only [go_sem];refine hK _ ?_;clear hK K;refine zw (zk [3,7,8,9,10,11,12,13,14,17,18,19,23]) ?_;simp only [go_sem];refine zd ?_
     refine awp_uptoV (n:=218) 2 (fun i vs=>[(3,.r (.rp (trC r))),(7,.r (i64 (x : Int))),(8,.r (i64 place)),(9,.r W1.1),(10,.r (i64 W1.2)),(11,.r W2.1),(12,.r (i64 W2.2)),(13,.r (i64 mg)),(14,.r (i64 0)),(17,.r (thsR ts)),(18,.r (i64 i1)),(19,.r (i64 i2)),(23,.r (i64 (i : Int)))])
      (fun i vs=>[]) (fun _=>True) 0 (zj [] ?_ ?_) (Nat.zero_le _) trivial ?_
     · try simp only [go_sem]
       try rfl
     · try simp only [go_sem]
     · intro i vs hi _
       repeat refine zq ?_
       refine zb fun K hK=>?_;simp only [go_sem];refine hK _ ?_;clear hK K;refine zw (zk [3,7,8,9,10,11,12,13,14,17,18,19,23,164]) ?_;simp only [go_sem]
       refine zc rfl (fun hc=>?_) (fun hc=>?_) <;> (try simp only [go_sem] at hc)
       · obtain ⟨W,hWd⟩ : ∃ W,W = if i = 1 then W2 else W1:=⟨_,rfl⟩
         obtain ⟨J,hJ⟩ : ∃ J,J = if i = 1 then i2 else i1:=⟨_,rfl⟩
         have hWJ : (J < 0 ∧ W = (.ns,7)) ∨ ∃ (k : Nat) (t : Th),J = k ∧ ts[k]? = some t ∧ W = (ints t.res,0):=by
          rw [hWd,hJ]
          split
          · exact hW2
          · exact hW1
         refine zx ?_
         try simp only [go_sem]
         refine zq ?_
         refine zd ?_
         refine zq ?_
         refine zb fun K hK=>?_;simp only [go_sem];refine hK _ ?_;clear hK K;refine zw (zk [3,7,8,9,10,11,12,13,14,17,18,19,23,24,25,26]) ?_;simp only [go_sem]
         repeat refine zq ?_
         refine zb fun K hK=>?_;simp only [go_sem];refine hK _ ?_;clear hK K;refine zw (zk [3,7,8,9,10,11,12,13,14,17,18,19,23,24,25,26,171]) ?_;simp only [go_sem]
         refine awp_joinV (n:=218) (fun (_ : Unit) vs=>[(3,.r (.rp (trC r))),(7,.r (i64 (x : Int))),(8,.r (i64 place)),(9,.r W1.1),(10,.r (i64 W1.2)),(11,.r W2.1),(12,.r (i64 W2.2)),(13,.r (i64 mg)),(14,.r (i64 0)),(17,.r (thsR ts)),(18,.r (i64 i1)),(19,.r (i64 i2)),(23,.r (i64 (i : Int))),(24,.r W.1),(25,.r (i64 W.2)),(26,.r (i64 J))]) (fun _ _=>[]) (fun _=>True) (fun _ h=>h) ?_ ?_
         · skip
           refine zc rfl (fun hc=>?_) (fun hc=>?_) <;> (try simp only [go_sem] at hc)
           · have hi1 : i = 1:=by first | omega | (simp at hc; omega)
             rw [if_pos hi1] at hWd hJ
             rw [hWd,hJ]
             refine zb fun K hK=>?_;simp only [go_sem];refine hK _ ?_;clear hK K
             refine ⟨(),trivial,zj [] ?_ ?_⟩
             · try simp only [go_sem]
             · try simp only [go_sem]
           · have hi1 : ¬ i = 1:=by first | omega | (simp at hc; omega)
             rw [if_neg hi1] at hWd hJ
             rw [hWd,hJ]
             refine zx ?_
             try simp only [go_sem]
             refine ⟨(),zj [] ?_ ?_⟩
             · try simp only [go_sem]
             · try simp only [go_sem]
         intro _ vs _
         clear hWd hJ
         rcases hWJ with ⟨hJ0,hWe⟩ | ⟨k,t,hJk,htk2,hWe⟩
         · subst hWe
           have c1 : decide (J < 0) = true:=by simpa using hJ0
           have c2 : decide (0 ≤ J) = false:=by simp; omega
           refine zq ?_
           refine zb fun K hK=>?_;simp only [go_sem,c1,c2,bne_self_eq_false];refine hK _ ?_;clear hK K;refine zw (zk [3,7,8,9,10,11,12,13,14,17,18,19,23,203]) ?_;simp only [go_sem]
           refine zc rfl (fun hc=>?_) (fun hc=>?_) <;> (try simp only [go_sem] at hc)
           refine zx ?_
           try simp only [go_sem]
           refine zb fun K hK=>?_;simp only [go_sem];(try simp (disch:=omega) only [zI]);refine hK _ ?_;clear hK K
           try simp only [go_sem]
           refine ⟨by omega,zj [] ?_ ?_⟩
           · try simp only [go_sem]
           · try simp only [go_sem]
         · subst hWe
           subst hJk
           have hkl : k < ts.length:=(List.getElem?_eq_some_iff.1 htk2).1
           have c1 : decide ((k : Int) < 0) = false:=decide_eq_false (by omega)
           have c2 : decide (0 ≤ (k : Int)) = true:=by simp
           have hal:=alike_ok t.res t.res
           rw [decide_eq_true rfl] at hal
           have hth0 : thC t = ints t.res :: (t.pts ++ t.won).map fun x=>i64 x:=rfl
           refine zq ?_
           refine zb fun K hK=>?_;simp only [go_sem,c1,c2,htk2,hkl,hth0,bne_self_eq_false]
           refine zh (hal) rfl (by simp only [go_sem,i64,ints,c1,c2,htk2,hkl,hth0,bne_self_eq_false]) (by simp only [go_sem,i64,ints,c1,c2,htk2,hkl,hth0,bne_self_eq_false]) (by first | exact .inl rfl | exact .inr rfl) ?_
           (try simp only [go_sem,c1,c2,htk2,hkl,hth0,bne_self_eq_false]);refine hK _ ?_;clear hK K;refine zw (zk [3,7,8,9,10,11,12,13,14,17,18,19,23,203]) ?_;simp only [go_sem]
           refine zc rfl (fun hc=>?_) (fun hc=>?_) <;> (try simp only [go_sem] at hc)
           refine zx ?_
           try simp only [go_sem]
           refine zb fun K hK=>?_;simp only [go_sem];(try simp (disch:=omega) only [zI]);refine hK _ ?_;clear hK K
           try simp only [go_sem]
           refine ⟨by omega,zj [] ?_ ?_⟩
           · try simp only [go_sem]
           · try simp only [go_sem]
       · refine zf ?_;simp only [go_sem]
         refine zq ?_
         refine zb fun K hK=>?_;simp only [go_sem,beq_self_eq_true]
         repeat refine ⟨fun _=>?_,fun h=>by first | (cases h; done) | (simp at h)⟩
         refine zh (hrm) rfl (by simp only [go_sem,i64,ints,beq_self_eq_true]) (by simp only [go_sem,i64,ints,beq_self_eq_true]) (by first | exact .inl rfl | exact .inr rfl) ?_
         (try simp only [go_sem,beq_self_eq_true])
         repeat refine ⟨fun _=>?_,fun h=>by first | (cases h; done) | (simp at h)⟩
         refine zh (hkn) rfl (by simp only [go_sem,i64,ints,beq_self_eq_true]) (by simp only [go_sem,i64,ints,beq_self_eq_true]) (by first | exact .inl rfl | exact .inr rfl) ?_
         (try simp only [go_sem,beq_self_eq_true]);refine hK _ ?_;clear hK K;refine zw (zk [6]) ?_;simp only [go_sem];refine ze ?_;simp only [go_sem]
end Go.Proofs.Ytobokbhpeaakjaa

namespace Go.Oc
open Go Go.RowKit Go.ChangeShapes Go.WideShapes
inductive Sh where
 | int (k : IntKind)
 | bool
 | sl (es : List Sh)
def fieldsSh (P : Program) (sh : TypeId → Option (List Sh)) : List Field → Nat → Option (List Sh)
 | [],_=>some []
 | f :: fs, o =>
   match sh f.type with
   | some ss=>if f.offset == o && ss.length == P.cellsOf f.type then match fieldsSh P sh fs (o + ss.length) with | some q=>some (ss ++ q) | none=>none else none
   | none=>none
def shape (P : Program) : Nat → TypeId → Option (List Sh)
 | 0,_=>none
 | n + 1, t =>
   match P.underlying t with
   | some (.int k)=>some [.int k]
   | some .bool=>some [.bool]
   | some (.slice e) =>
     match shape P n e with
     | some ss=>if ss.length == P.cellsOf e && decide (0 < ss.length) then some [.sl ss] else none
     | none=>none
   | some (.array m e) =>
     match shape P n e with
     | some ss=>if ss.length == P.cellsOf e && P.cellsOf t == m * ss.length then some (List.replicate m ss).flatten else none
     | none=>none
   | some (.struct fs) =>
     match fieldsSh P (shape P n) fs.toList 0 with
     | some ss=>if ss.length == P.cellsOf t then some ss else none
     | none=>none
   | _=>none
mutual
def Fits : Sh → RV → Prop
 | .int k,x=>∃ n,x = .it k n ∧ (Lit.int k n).wf = true
 | .bool,x=>∃ b,x = .bo b
 | .sl ss,x=>∃ es,x = .sl ss.length es ∧ FitsE ss es
def FitsL : List Sh → List RV → Prop
 | [],xs=>xs = []
 | s :: ss,xs=>∃ y ys,xs = y :: ys ∧ Fits s y ∧ FitsL ss ys
def FitsE (ss : List Sh) : List (List RV) → Prop
 | []=>True
 | e :: es=>FitsL ss e ∧ FitsE ss es
end
theorem fitsL_append : ∀ {s1 s2 : List Sh} {x1 x2 : List RV},FitsL s1 x1 → FitsL s2 x2 → FitsL (s1 ++ s2) (x1 ++ x2)
 | [],_,_,_,h1,h2=>by simp only [FitsL] at h1; subst h1; simpa using h2
 | s :: ss, s2, x1, x2, h1, h2 => by
   simp only [FitsL] at h1
   obtain ⟨y,ys,rfl,h3,h4⟩:=h1
   simp only [List.cons_append,FitsL];exact ⟨y,_,rfl,h3,fitsL_append h4 h2⟩
theorem fitsL_length : ∀ {ss : List Sh} {xs : List RV},FitsL ss xs → xs.length = ss.length
 | [],_,h=>by simp only [FitsL] at h; subst h; rfl
 | s :: ss, _, h => by
   simp only [FitsL] at h
   obtain ⟨y,ys,rfl,_,h⟩:=h
   simp [fitsL_length h]
theorem fitsE_of : ∀ {ss : List Sh} {es : List (List RV)},(∀ e ∈ es,FitsL ss e) → FitsE ss es
 | _,[],_=>by simp only [FitsE]
 | ss,e :: es,h=>by simp only [FitsE]; exact ⟨h e (by simp),fitsE_of fun x hx=>h x (by simp [hx])⟩
theorem choice {α : Type} {Q : Nat → α → Prop} : ∀ (n : Nat),(∀ i,i < n → ∃ x,Q i x) → ∃ xs : List α,xs.length = n ∧ ∀ i x,xs[i]? = some x → Q i x
 | 0,_=>⟨[],rfl,by simp⟩
 | n + 1, h => by
   obtain ⟨xs,hl,hx⟩:=choice n fun i hi=>h i (by omega)
   obtain ⟨y,hy⟩:=h n (by omega)
   refine ⟨xs ++ [y],by simp [hl],fun i x hi=>?_⟩
   by_cases h1 : i < n
   · rw [List.getElem?_append_left (by omega)] at hi; exact hx i x hi
   · rw [List.getElem?_append_right (by omega)] at hi
     have : i = n:=by have:=(List.getElem?_eq_some_iff.1 hi).1; simp at this; omega
     subst this
     simp [hl] at hi
     exact hi ▸ hy
section
variable {w : World} {P : Program}
theorem cells?_get {base n : Nat} {a : Addr} {cs : List Value} (h : w.cells? base a n = some cs) : cs.length = n ∧ ∀ i,i < n → w.cell? (a.add i) = cs[i]?:=by
 unfold World.cells? at h
 split at h
 · exact ⟨by simpa using mapM_some_length h,fun i hi=>mapM_some_get h i i (by simp [hi])⟩
 · cases h
theorem cell_lt {a : Addr} {v : Value} (h : w.cell? a = some v) : a.block < w.heap.size:=by
 refine Decidable.byContradiction fun hn=>?_
 have : w.heap[a.block]? = none:=by simp; omega
 simp [World.cell?,this] at h
def old (w : World) : Nat → Prop:=fun b=>b < w.heap.size
theorem relC_of_cells {xs : List RV} {cs : List Value} {ad : Addr} (hV : RV.relV w (old w) xs cs) (hone : ∀ u ∈ cs,u.oneCell' = true) (hc : ∀ i,i < cs.length → w.cell? (ad.add i) = cs[i]?) : RV.relC w (old w) xs ad 0:=by
 refine RV.relC_of_get fun i x hx=>?_
 obtain ⟨u,hu,hr⟩:=RV.relV_get hV hx
 have hi:=(List.getElem?_eq_some_iff.1 hu).1
 refine ⟨u,?_,hone u (List.mem_of_getElem? hu),hr⟩
 rw [Nat.zero_add,hc i hi,hu]
variable {H : Type} {enc : TypeId × Value → H} {base : Nat} {spare : Nat → Bool} {held : Bool}
def Good3 (w : World) (ss : List Sh) (cs : List Value) : Prop:=∃ xs,FitsL ss xs ∧ RV.relV w (old w) xs cs ∧ ∀ u ∈ cs,u.oneCell' = true
theorem good3_append {s1 s2 : List Sh} {c1 c2 : List Value} (h1 : Good3 w s1 c1) (h2 : Good3 w s2 c2) : Good3 w (s1 ++ s2) (c1 ++ c2):=by
 obtain ⟨x1,f1,r1,o1⟩:=h1
 obtain ⟨x2,f2,r2,o2⟩:=h2
 refine ⟨x1 ++ x2,fitsL_append f1 f2,RV.relV_append r1 r2,fun u hu=>?_⟩
 rcases List.mem_append.1 hu with hu | hu
 · exact o1 u hu
 · exact o2 u hu
theorem good3_length {ss : List Sh} {cs : List Value} (h : Good3 w ss cs) : cs.length = ss.length:=by
 obtain ⟨xs,f,r,_⟩:=h
 rw [RV.relV_length r,fitsL_length f]
theorem trod_fits : ∀ (fuel n : Nat) (t : TypeId) (cs : List Value) (x : DataW H × List MemPlace) (ss : List Sh),DataW.trod enc P w base spare held fuel t cs = some x → shape P n t = some ss → Good3 w ss cs:=by
 intro fuel
 induction fuel with
 | zero=>intro n t cs x ss h; simp [DataW.trod] at h
 | succ fuel ih =>
   intro n t cs x ss h hs
   cases n with
   | zero=>simp [shape] at hs
   | succ n =>
     unfold shape at hs
     split at hs
     · rename_i k ht
       injection hs with hs; subst hs
       obtain ⟨m,rfl,_,hw⟩:=DataW.trod_int ht h
       exact ⟨[.it k m],by simp only [FitsL,Fits]; exact ⟨_,[],rfl,⟨m,rfl,hw⟩,rfl⟩,by simp only [RV.relV,RV.rel]; exact ⟨_,[],rfl,rfl,rfl⟩,by simp [Value.oneCell']⟩
     · rename_i ht
       injection hs with hs; subst hs
       obtain ⟨b,rfl,_⟩:=DataW.trod_bool ht h
       exact ⟨[.bo b],by simp only [FitsL,Fits]; exact ⟨_,[],rfl,⟨b,rfl⟩,rfl⟩,by simp only [RV.relV,RV.rel]; exact ⟨_,[],rfl,rfl,rfl⟩,by simp [Value.oneCell']⟩
     · rename_i e ht
       split at hs
       · rename_i es hes
         split at hs
         · rename_i hc
           simp only [Bool.and_eq_true,beq_iff_eq,decide_eq_true_eq] at hc
           injection hs with hs; subst hs
           rcases DataW.trod_slice ht h with ⟨rfl,_⟩ | ⟨a,len,cap,elems,rest,m,hm,rfl,_,_,hlc,hcm,hel,hget,_⟩
           · refine ⟨[.sl es.length []],?_,?_,by simp [Value.oneCell']⟩
             · simp only [FitsL,Fits];exact ⟨_,[],rfl,⟨[],rfl,by simp only [FitsE]⟩,rfl⟩
             · simp only [RV.relV,RV.rel];exact ⟨_,[],rfl,⟨none,0,rfl,Nat.le_refl _,Nat.zero_le _,fun h=>absurd rfl h⟩,rfl⟩
           · injection hm with hm; subst hm
             have hall : ∀ i,i < len → ∃ e',FitsL es e' ∧ e'.length = es.length ∧ RV.relC w (old w) e' (a.add (i * es.length)) 0 ∧ a.block < w.heap.size:=fun i hi=>by
              have h1:=hget i hi
              have h2 : i < elems.length:=by omega
              rw [List.getElem?_eq_getElem h2] at h1
              obtain ⟨ci,hci,htr⟩:=Option.bind_eq_some_iff.1 h1
              rw [← hc.1] at hci
              obtain ⟨hl,hcell⟩:=cells?_get hci
              obtain ⟨xs,f,r,o⟩:=ih n e ci _ es htr hes
              refine ⟨xs,f,fitsL_length f,relC_of_cells r o (fun j hj=>hcell j (by omega)),?_⟩
              have h3:=hcell 0 hc.2
              have h4 : 0 < ci.length:=by omega
              rw [List.getElem?_eq_getElem h4] at h3
              have:=cell_lt h3
              rwa [block_add,block_add] at this
             obtain ⟨els,hlen,hels⟩:=choice len hall
             refine ⟨[.sl es.length els],?_,?_,by simp [Value.oneCell']⟩
             · simp only [FitsL,Fits]
               refine ⟨_,[],rfl,⟨els,rfl,fitsE_of fun e' he'=>?_⟩,rfl⟩
               obtain ⟨i,hi⟩:=List.getElem?_of_mem he'
               exact (hels i e' hi).1
             · simp only [RV.relV,RV.rel]
               refine ⟨_,[],rfl,⟨some a,cap,by rw [hlen],by omega,hcm,fun hne=>?_⟩,rfl⟩
               obtain ⟨e0,he0⟩ : ∃ e0,els[0]? = some e0:=by
                cases els with
                | nil=>exact absurd rfl hne
                | cons a l=>exact ⟨a,rfl⟩
               refine ⟨a,rfl,(hels 0 e0 he0).2.2.2,RV.relE_of_get fun i e' he'=>?_⟩
               obtain ⟨_,q1,q2,_⟩:=hels i e' he'
               exact ⟨q1,RV.relC_unbase _ q2⟩
         · cases hs
       · cases hs
     · rename_i m e ht
       split at hs
       · rename_i es hes
         split at hs
         · rename_i hc
           simp only [Bool.and_eq_true,beq_iff_eq] at hc
           injection hs with hs; subst hs
           obtain ⟨xs,fm,hm,_,hcl,hxl,hget⟩:=DataW.trod_array ht h
           injection hm with hm; subst hm
           have key : ∀ j,j ≤ m → Good3 w (List.replicate j es).flatten (cs.take (j * es.length)):=by
            intro j
            induction j with
            | zero=>intro _; exact ⟨[],by simp [FitsL],by simp [RV.relV],by simp⟩
            | succ j ihj =>
              intro hj
              have h1:=hget j (by omega)
              have h2 : j < xs.length:=by omega
              rw [List.getElem?_eq_getElem h2,← hc.1] at h1
              have h3:=ih n e _ _ es h1 hes
              have:=good3_append (ihj (by omega)) h3
              rw [← List.take_add] at this
              rw [List.replicate_succ',List.flatten_append,Nat.add_mul]
              simpa using this
           have:=key m (Nat.le_refl _)
           rwa [← hc.2,← hcl,List.take_length] at this
         · cases hs
       · cases hs
     · rename_i fs ht
       split at hs
       · rename_i q hq
         split at hs
         · rename_i hc
           simp only [beq_iff_eq] at hc
           injection hs with hs; subst hs
           obtain ⟨xs,fm,hm,_,hcl,hxl,hget⟩:=DataW.trod_struct ht h
           injection hm with hm; subst hm
           have key : ∀ (l : List Field) (o : Nat) (q : List Sh),(∀ f ∈ l,∃ y,DataW.trod enc P w base spare held fuel f.type ((cs.drop f.offset).take (P.cellsOf f.type)) = some y) → fieldsSh P (shape P n) l o = some q → Good3 w q ((cs.drop o).take q.length):=by
            intro l
            induction l with
            | nil =>
              intro o q _ hq
              simp only [fieldsSh,Option.some.injEq] at hq
              subst hq
              exact ⟨[],by simp [FitsL],by simp [RV.relV],by simp⟩
            | cons f l ihl =>
              intro o q hall hq
              simp only [fieldsSh] at hq
              split at hq
              · rename_i s1 hs1
                split at hq
                · rename_i hc1
                  simp only [Bool.and_eq_true,beq_iff_eq] at hc1
                  split at hq
                  · rename_i q2 hq2
                    injection hq with hq; subst hq
                    obtain ⟨y,hy⟩:=hall f (by simp)
                    have g1:=ih n f.type _ _ s1 hy hs1
                    have g2:=ihl (o + s1.length) q2 (fun f' hf'=>hall f' (by simp [hf'])) hq2
                    rw [hc1.1,← hc1.2] at g1
                    have:=good3_append g1 g2
                    rw [← List.drop_drop,← List.take_add] at this
                    simpa using this
                  · cases hq
                · cases hq
              · cases hq
           have:=key fs.toList 0 q (fun f hf=>by
            obtain ⟨i,hi⟩:=List.getElem?_of_mem hf
            have hi' : fs[i]? = some f:=by simpa using hi
            have h1:=hget i f hi'
            have h2 : i < xs.length:=by have:=(Array.getElem?_eq_some_iff.1 hi').1; omega
            exact ⟨xs[i],by rw [h1]; exact List.getElem?_eq_getElem h2⟩) hq
           rwa [List.drop_zero,hc,← hcl,List.take_length] at this
         · cases hs
       · cases hs
     · cases hs
def FitsT (P : Program) (n : Nat) (t : TypeId) (x : RV) : Prop:=∃ ss,shape P n t = some ss ∧ if aggOf P t then ∃ xs,x = .ag xs ∧ FitsL ss xs else FitsL ss [x]
theorem arg_fits {n : Nat} {t : TypeId} {v : Value} {d : DataW H} {ps : List MemPlace} {r : Reach} {b0 : Nat} (hs : (shape P n t).isSome = true) (hval : Value.okWide P w r b0 t v) (h : DataW.Trod enc P w base spare held t v d ps) :
 ∃ x,FitsT P n t x ∧ x.rel w (old w) v:=by
 obtain ⟨ss,hss⟩:=Option.isSome_iff_exists.1 hs
 obtain ⟨fuel,hf⟩:=h
 obtain ⟨xs,f,r,o⟩:=trod_fits fuel n t _ _ ss hf hss
 have one : aggOf P t = false → v.cells.toList = [v] → ∃ x,FitsT P n t x ∧ x.rel w (old w) v:=fun ha hc=>by
  rw [hc] at r
  match xs,r with
  | [x], r =>
    simp only [RV.relV] at r
    obtain ⟨u,us,e,hr,_⟩:=r
    injection e with e1 e2
    subst e1
    exact ⟨x,⟨ss,hss,by rw [ha]; exact f⟩,hr⟩
  | [],r=>simp [RV.relV] at r
  | _ :: _ :: _, r =>
    simp only [RV.relV] at r
    obtain ⟨u,us,e,_,u2,us2,e2,_⟩:=r
    injection e with _ e
    rw [e2] at e; cases e
 cases n with
 | zero=>simp [shape] at hss
 | succ n =>
   have hss':=hss
   unfold shape at hss'
   split at hss'
   · rename_i k ht
     obtain ⟨m,rfl⟩:=okWide_int ht hval
     exact one (by simp [aggOf,ht]) rfl
   · rename_i ht
     obtain ⟨b,rfl⟩:=okWide_bool ht hval
     exact one (by simp [aggOf,ht]) rfl
   · rename_i e ht
     obtain ⟨a,l,c,rfl⟩:=okWide_slice ht hval
     exact one (by simp [aggOf,ht]) rfl
   · rename_i m e ht
     obtain ⟨cs,rfl⟩ : ∃ cs,v = .agg cs:=by
      simp only [Value.okWide,ht] at hval
      obtain ⟨cs,h1,_⟩:=hval
      exact ⟨cs,h1⟩
     exact ⟨.ag xs,⟨ss,hss,by simp only [aggOf,ht,if_true]; exact ⟨xs,rfl,f⟩⟩,by simp only [RV.rel]; exact ⟨cs,rfl,o,r⟩⟩
   · rename_i fs ht
     obtain ⟨cs,rfl,_⟩:=okWide_struct ht hval
     exact ⟨.ag xs,⟨ss,hss,by simp only [aggOf,ht,if_true]; exact ⟨xs,rfl,f⟩⟩,by simp only [RV.rel]; exact ⟨cs,rfl,o,r⟩⟩
   · cases hss'
theorem wf_i64 {n : Int} (h : (Lit.int .i64 n).wf = true) : -9223372036854775808 ≤ n ∧ n ≤ 9223372036854775807:=by
 simp only [Lit.wf,Bool.and_eq_true,decide_eq_true_eq] at h
 have h1 : IntKind.min .i64 = -9223372036854775808:=by decide
 have h2 : IntKind.max .i64 = 9223372036854775807:=by decide
 rw [h1,h2] at h
 exact h
theorem fitsE_ints : ∀ {es : List (List RV)},FitsE [.int .i64] es → ∃ l : List Int,es = l.map (fun x=>[.it .i64 x]) ∧ ∀ x ∈ l,-9223372036854775808 ≤ x ∧ x ≤ 9223372036854775807
 | [],_=>⟨[],rfl,by simp⟩
 | e :: es, h => by
   simp only [FitsE,FitsL,Fits] at h
   obtain ⟨⟨y,ys,rfl,⟨n,rfl,hn⟩,rfl⟩,h⟩:=h
   obtain ⟨l,rfl,hl⟩:=fitsE_ints h
   refine ⟨n :: l,rfl,fun x hx=>?_⟩
   rcases List.mem_cons.1 hx with rfl | hx
   · exact wf_i64 hn
   · exact hl x hx
theorem fitsT_ag {n : Nat} {t : TypeId} {x : RV} {ss : List Sh} (h : FitsT P n t x) (hs : shape P n t = some ss) (ha : aggOf P t = true) : ∃ xs,x = .ag xs ∧ FitsL ss xs:=by
 obtain ⟨s',h1,h2⟩:=h
 rw [hs] at h1; injection h1 with h1; subst h1
 rw [ha] at h2
 exact h2
theorem fitsT_one {n : Nat} {t : TypeId} {x : RV} {s : Sh} (h : FitsT P n t x) (hs : shape P n t = some [s]) (ha : aggOf P t = false) : Fits s x:=by
 obtain ⟨s',h1,h2⟩:=h
 rw [hs] at h1; injection h1 with h1; subst h1
 rw [ha] at h2
 simp only [Bool.false_eq_true,if_false,FitsL] at h2
 obtain ⟨y,ys,e,h3,_⟩:=h2
 injection e with e1 e2
 subst e1
 exact h3
theorem fitsT_int {n : Nat} {t : TypeId} {x : RV} (h : FitsT P n t x) (hs : shape P n t = some [.int .i64]) (ha : aggOf P t = false) : ∃ m,x = .it .i64 m ∧ -9223372036854775808 ≤ m ∧ m ≤ 9223372036854775807:=by
 have:=fitsT_one h hs ha
 simp only [Fits] at this
 obtain ⟨m,h1,h2⟩:=this
 exact ⟨m,h1,wf_i64 h2⟩
theorem fitsT_ints {n : Nat} {t : TypeId} {x : RV} (h : FitsT P n t x) (hs : shape P n t = some [.sl [.int .i64]]) (ha : aggOf P t = false) : ∃ l : List Int,x = .sl 1 (l.map (fun x=>[.it .i64 x])) ∧ ∀ x ∈ l,-9223372036854775808 ≤ x ∧ x ≤ 9223372036854775807:=by
 have:=fitsT_one h hs ha
 simp only [Fits] at this
 obtain ⟨es,h1,h2⟩:=this
 obtain ⟨l,rfl,hl⟩:=fitsE_ints h2
 exact ⟨l,h1,hl⟩
end
end Go.Oc

namespace Go.Proofs.Ytobokbhpeaakjaa
open Go Go.Oc
theorem fitsE_mts : ∀ {es : List (List RV)},FitsE [.int .i64,.int .i64,.bool,.int .i64,.int .i64] es → ∃ l : List Mt,es = l.map mtR ∧ ∀ m ∈ l,WfM m
 | [],_=>⟨[],rfl,by simp⟩
 | e :: es, h => by
   simp only [Oc.FitsE,Oc.FitsL,Oc.Fits] at h
   obtain ⟨⟨_,_,rfl,⟨a,rfl,ha⟩,_,_,rfl,⟨b,rfl,hb⟩,_,_,rfl,⟨p,rfl⟩,_,_,rfl,⟨c,rfl,hc⟩,_,_,rfl,⟨d,rfl,hd⟩,rfl⟩,h⟩:=h
   obtain ⟨l,rfl,hl⟩:=fitsE_mts h
   refine ⟨⟨a,b,p,c,d⟩ :: l,rfl,fun x hx=>?_⟩
   rcases List.mem_cons.1 hx with rfl | hx
   · exact ⟨wf_i64 ha,wf_i64 hb,wf_i64 hc,wf_i64 hd⟩
   · exact hl x hx
theorem fits35 {x : RV} (h : FitsT Try.prog 9 35 x) : ∃ r : Tr,x = trV r ∧ WfR r:=by
 obtain ⟨xs,rfl,hx⟩:=fitsT_ag (ss:=[.int .i64,.int .i64,.int .i64,.int .i64,.sl [.int .i64],.int .i64,.int .i64]) h (by kernel_rfl) (by kernel_rfl)
 simp only [Oc.FitsL,Oc.Fits] at hx
 obtain ⟨_,_,rfl,⟨a,rfl,ha⟩,_,_,rfl,⟨b,rfl,hb⟩,_,_,rfl,⟨c,rfl,hc⟩,_,_,rfl,⟨d,rfl,hd⟩,_,_,rfl,⟨es,rfl,hes⟩,_,_,rfl,⟨u,rfl,hu⟩,_,_,rfl,⟨w,rfl,hw⟩,rfl⟩:=hx
 obtain ⟨l,rfl,hl⟩:=fitsE_ints hes
 exact ⟨⟨a,b,c,d,l,u,w⟩,rfl,⟨wf_i64 ha,wf_i64 hb,wf_i64 hc,wf_i64 hd,hl,wf_i64 hu,wf_i64 hw⟩⟩
theorem fits36 {x : RV} (h : FitsT Try.prog 9 36 x) : ∃ l : List Mt,x = mtsR l ∧ ∀ m ∈ l,WfM m:=by
 have:=fitsT_one (s:=.sl [.int .i64,.int .i64,.bool,.int .i64,.int .i64]) h (by kernel_rfl) (by kernel_rfl)
 simp only [Oc.Fits] at this
 obtain ⟨es,rfl,hes⟩:=this
 obtain ⟨l,rfl,hl⟩:=fitsE_mts hes
 exact ⟨l,rfl,hl⟩
theorem fits31 {x : RV} (h : FitsT Try.prog 9 31 x) : ∃ a b : Int,x = .ag [i64 a,i64 b] ∧ I64 a ∧ I64 b:=by
 obtain ⟨xs,rfl,hx⟩:=fitsT_ag (ss:=[.int .i64,.int .i64]) h (by kernel_rfl) (by kernel_rfl)
 simp only [Oc.FitsL,Oc.Fits] at hx
 obtain ⟨_,_,rfl,⟨a,rfl,ha⟩,_,_,rfl,⟨b,rfl,hb⟩,rfl⟩:=hx
 exact ⟨a,b,rfl,wf_i64 ha,wf_i64 hb⟩
end Go.Proofs.Ytobokbhpeaakjaa

namespace Go.Oc
open Go Go.RowKit
theorem wf_u8 {n : Int} (h : (Lit.int .u8 n).wf = true) : 0 ≤ n ∧ n ≤ 255:=by
 simp only [Lit.wf,Bool.and_eq_true,decide_eq_true_eq] at h
 have h1 : IntKind.min .u8 = 0:=by decide
 have h2 : IntKind.max .u8 = 255:=by decide
 rw [h1,h2] at h
 exact h
theorem wf_u16 {n : Int} (h : (Lit.int .u16 n).wf = true) : 0 ≤ n ∧ n ≤ 65535:=by
 simp only [Lit.wf,Bool.and_eq_true,decide_eq_true_eq] at h
 have h1 : IntKind.min .u16 = 0:=by decide
 have h2 : IntKind.max .u16 = 65535:=by decide
 rw [h1,h2] at h
 exact h
theorem wf_u32 {n : Int} (h : (Lit.int .u32 n).wf = true) : 0 ≤ n ∧ n ≤ 4294967295:=by
 simp only [Lit.wf,Bool.and_eq_true,decide_eq_true_eq] at h
 have h1 : IntKind.min .u32 = 0:=by decide
 have h2 : IntKind.max .u32 = 4294967295:=by decide
 rw [h1,h2] at h
 exact h
theorem fitsE_u8 : ∀ {es : List (List RV)},FitsE [.int .u8] es → ∃ l : List Int,es = l.map (fun x=>[.it .u8 x]) ∧ ∀ x ∈ l,0 ≤ x ∧ x ≤ 255
 | [],_=>⟨[],rfl,by simp⟩
 | e :: es, h => by
   simp only [FitsE,FitsL,Fits] at h
   obtain ⟨⟨y,ys,rfl,⟨n,rfl,hn⟩,rfl⟩,h⟩:=h
   obtain ⟨l,rfl,hl⟩:=fitsE_u8 h
   refine ⟨n :: l,rfl,fun x hx=>?_⟩
   rcases List.mem_cons.1 hx with rfl | hx
   · exact wf_u8 hn
   · exact hl x hx
theorem fitsE_u16 : ∀ {es : List (List RV)},FitsE [.int .u16] es → ∃ l : List Int,es = l.map (fun x=>[.it .u16 x]) ∧ ∀ x ∈ l,0 ≤ x ∧ x ≤ 65535
 | [],_=>⟨[],rfl,by simp⟩
 | e :: es, h => by
   simp only [FitsE,FitsL,Fits] at h
   obtain ⟨⟨y,ys,rfl,⟨n,rfl,hn⟩,rfl⟩,h⟩:=h
   obtain ⟨l,rfl,hl⟩:=fitsE_u16 h
   refine ⟨n :: l,rfl,fun x hx=>?_⟩
   rcases List.mem_cons.1 hx with rfl | hx
   · exact wf_u16 hn
   · exact hl x hx
end Go.Oc

namespace Go.Proofs.Ytobokbhpeaakjaa
open Go Go.Oc
theorem law5' {x0 x1 x2 : RV} (h0 : FitsT Try.prog 9 35 x0) (h1 : FitsT Try.prog 9 36 x1) (h2 : FitsT Try.prog 9 31 x2) : ACalls Try.prog 5 [x0,x1,x2] (.bo true):=by
 obtain ⟨r,rfl,hr⟩:=fits35 h0
 obtain ⟨l,rfl,hl⟩:=fits36 h1
 obtain ⟨a,b,rfl,ha,hb⟩:=fits31 h2
 exact ways_law r l ⟨hr,hl⟩ a b ha hb
end Go.Proofs.Ytobokbhpeaakjaa


namespace Go.Proofs.Ytobokbhpeaakjaa
open Go Go.Oc Go.ChangeShapes Go.WideShapes Go.RowKit
set_option linter.unusedVariables false
theorem own : ownKnob Try.prog.godebug = none := by kernel_rfl
theorem laidOut : laidOutB Try.prog = true := by kernel_rfl
set_option maxRecDepth 100000 in
theorem lifted (os : Os) (started : os.Started) (H : Type) (enc : TypeId × Value → H) :
    ReturnsInHanded {} Try.checked os 5 .any (Rows.tableWaysSpec.pre6 enc Try.prog Try.f5 Rows.tableWaysRow.domain false) (Rows.tableWaysSpec.post enc Try.prog Try.f5 false true false false) := by
  refine returnsInHanded_of_change (C := Try.checked) own started (by kernel_rfl) Try.func5
    (ChangeSpec.witness6 (enc := enc) (C := Try.checked) false ⟨#[], #[.agg #[.int .i64 0, .int .i64 0, .int .i64 0, .int .i64 0, .slice none 0 0, .int .i64 0, .int .i64 0], .slice none 0 0, .agg #[.int .i64 0, .int .i64 0]], []⟩ 8 (by kernel_rfl) (by kernel_rfl) (by kernel_rfl) (by kernel_rfl)) ?_
  intro W base args ds gs before hval0 hW hcnd _
  have hval : ∀ (j : Nat) t v, Try.f5.params[j]? = some t → args[j]? = some v → Value.okWide Try.prog W .any base t v := hval0
  have hW' := hW
  obtain ⟨p, q, hA0, hV, rfl, hfz, hnd⟩ := hW
  have hA : DataW.TrodAll enc Try.prog W 0 (fun _ => true) true Try.f5.params.toList args.toList ds p := hA0
  rw [Try.params5] at hA hval
  obtain ⟨v0, vs0, d0, ds0, p0, q0, hargs, rfl, rfl, h0, r0⟩ := trodAll_cons hA
  obtain ⟨v1, vs1, d1, ds1, p1, q1, rfl, rfl, rfl, h1, r1⟩ := trodAll_cons r0
  obtain ⟨v2, vs2, d2, ds2, p2, q2, rfl, rfl, rfl, h2, r2⟩ := trodAll_cons r1
  obtain ⟨rfl, rfl, rfl⟩ := trodAll_nil r2
  obtain rfl : args = #[v0, v1, v2] := by cases args; simp_all
  obtain ⟨rfl, rfl⟩ := trodVars_none hV
  have lt0 : ∀ x ∈ p0, x.block < W.heap.size := by obtain ⟨m, hm⟩ := h0; exact DataW.trod_lt m _ _ _ hm
  have lt1 : ∀ x ∈ p1, x.block < W.heap.size := by obtain ⟨m, hm⟩ := h1; exact DataW.trod_lt m _ _ _ hm
  have lt2 : ∀ x ∈ p2, x.block < W.heap.size := by obtain ⟨m, hm⟩ := h2; exact DataW.trod_lt m _ _ _ hm
  obtain ⟨x0, g0, e0⟩ := arg_fits (n := 9) (by kernel_rfl) (hval 0 35 v0 rfl rfl) h0
  obtain ⟨x1, g1, e1⟩ := arg_fits (n := 9) (by kernel_rfl) (hval 1 36 v1 rfl rfl) h1
  obtain ⟨x2, g2, e2⟩ := arg_fits (n := 9) (by kernel_rfl) (hval 2 31 v2 rfl rfl) h2
  clear hA0 hval0
  refine ((law5' g0 g1 g2).2 W (old W) #[v0, v1, v2] (fun _ h => h) (by simp only [RV.relV]; exact ⟨_, _, rfl, e0, _, _, rfl, e1, _, _, rfl, e2, rfl⟩)).mono fun e W' he => ?_
  obtain ⟨v, R', rfl, bel, _, _, _, hr⟩ := he
  simp only [RV.rel] at hr
  subst hr
  exact ⟨_, rfl, _, _, _, [], _, [], hW', trodAll_mk1 (shut_bool Try.underlying4 _), (trodAll_cons_mk (Below.trod laidOut (by kernel_rfl) (of_decide_eq_true (by kernel_rfl)) h0 bel lt0) (trodAll_cons_mk (Below.trod laidOut (by kernel_rfl) (of_decide_eq_true (by kernel_rfl)) h1 bel lt1) (trodAll_cons_mk (Below.trod laidOut (by kernel_rfl) (of_decide_eq_true (by kernel_rfl)) h2 bel lt2) trodAll_mk0))), rfl, bel.frame _, fun h => by cases h⟩
theorem over : Rows.tableWaysRow.holds Try.pinned (OpenSpec.ofChange Rows.tableWaysSpec) :=
  OpenClaim.holds_of_wide 5 Try.f5 rfl rfl rfl rfl rfl rfl rfl ⟨rfl, rfl, rfl, rfl, rfl⟩ rfl rfl rfl rfl rfl (by kernel_rfl) Try.func5 (by kernel_rfl)
    (of_decide_eq_true (by kernel_rfl)) (by unfold Func.isWrapper; first | (rw [if_pos (by decide +kernel)]; kernel_rfl) | (rw [if_neg (by decide +kernel)]; exact ⟨rfl, rfl⟩))
    (fun os started H enc _ => lifted os started H enc)
theorem tableWays_holds : Rows.TableWaysSaid := over
#print axioms tableWays_holds
end Go.Proofs.Ytobokbhpeaakjaa

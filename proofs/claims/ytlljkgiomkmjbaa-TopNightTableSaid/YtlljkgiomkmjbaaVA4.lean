/- Part 4 of the texts of this claim. -/
import Derived.Test.YtlljkgiomkmjbaaVA3
import Derived.Test.YtlljkgiomkmjbaaProg
import Derived.KernelRfl
import Derived.Lib.EndianBits
namespace Go.Proofs.Ytlljkgiomkmjbaa
open Go Go.Oc
theorem ty3 : tyq Try.prog 3 = some ⟨.int .i64,1,false,[.it .i64 0]⟩:=by kernel_rfl
theorem ty4 : tyq Try.prog 4 = some ⟨.bool,1,false,[.bo false]⟩:=by kernel_rfl
theorem ty5 : tyq Try.prog 5 = some ⟨.int .u8,1,false,[.it .u8 0]⟩:=by kernel_rfl
theorem ty9 : tyq Try.prog 9 = some ⟨.str,1,false,[.st ⟨#[]⟩]⟩:=by kernel_rfl
theorem ty30 : tyq Try.prog 30 = some ⟨.struct [(0,1,false),(1,1,false)],2,true,[.it .i64 0,.it .i64 0]⟩:=by kernel_rfl
theorem ty33 : tyq Try.prog 33 = some ⟨.slice 30 2 16 [.it .i64 0,.it .i64 0],1,false,[.ns]⟩:=by kernel_rfl
theorem ty37 : tyq Try.prog 37 = some ⟨.int .i64,1,false,[.it .i64 0]⟩:=by kernel_rfl
theorem ty40 : tyq Try.prog 40 = some ⟨.arr 2 1 false,2,true,[.it .i64 0,.it .i64 0]⟩:=by kernel_rfl
theorem ty41 : tyq Try.prog 41 = some ⟨.slice 3 1 8 [.it .i64 0],1,false,[.ns]⟩:=by kernel_rfl
theorem ty47 : tyq Try.prog 47 = some ⟨.slice 5 1 1 [.it .u8 0],1,false,[.ns]⟩:=by kernel_rfl
theorem ty99 : tyq Try.prog 99 = some ⟨.slice 106 2 2 [.it .u8 0,.it .u8 0],1,false,[.ns]⟩:=by kernel_rfl
theorem ty101 : tyq Try.prog 101 = some ⟨.struct [(0,1,false),(1,1,false),(2,1,false),(3,1,false)],4,true,[.it .u8 0,.ns,.ns,.it .u8 0]⟩:=by kernel_rfl
theorem ty103 : tyq Try.prog 103 = some ⟨.struct [(0,1,false),(1,1,false),(2,1,false),(3,1,false),(4,1,false),(5,1,false),(6,1,false)],7,true,[.it .i64 0,.it .i64 0,.it .i64 0,.it .i64 0,.ns,.it .i64 0,.it .i64 0]⟩:=by kernel_rfl
theorem ty104 : tyq Try.prog 104 = some ⟨.slice 120 5 40 [.it .i64 0,.it .i64 0,.bo false,.it .i64 0,.it .i64 0],1,false,[.ns]⟩:=by kernel_rfl
theorem ty105 : tyq Try.prog 105 = some ⟨.arr 4 1 false,4,true,[.it .i64 0,.it .i64 0,.it .i64 0,.it .i64 0]⟩:=by kernel_rfl
theorem ty106 : tyq Try.prog 106 = some ⟨.arr 2 1 false,2,true,[.it .u8 0,.it .u8 0]⟩:=by kernel_rfl
theorem ty107 : tyq Try.prog 107 = some ⟨.slice 215 3 24 [.it .i64 0,.it .i64 0,.it .i64 0],1,false,[.ns]⟩:=by kernel_rfl
theorem ty109 : tyq Try.prog 109 = some ⟨.struct [(0,1,false),(1,1,false),(2,1,false),(3,1,false)],4,true,[.it .i64 0,.ns,.it .i64 0,.it .i64 0]⟩:=by kernel_rfl
theorem ty110 : tyq Try.prog 110 = some ⟨.slice 114 4 32 [.it .i64 0,.it .i64 0,.it .i64 0,.it .i64 0],1,false,[.ns]⟩:=by kernel_rfl
theorem ty114 : tyq Try.prog 114 = some ⟨.struct [(0,1,false),(1,1,false),(2,1,false),(3,1,false)],4,true,[.it .i64 0,.it .i64 0,.it .i64 0,.it .i64 0]⟩:=by kernel_rfl
theorem ty116 : tyq Try.prog 116 = some ⟨.struct [(0,2,true),(2,2,true),(4,2,true),(6,1,false),(7,1,false)],8,true,[.it .i64 0,.it .i64 0,.it .i64 0,.it .i64 0,.it .i64 0,.it .i64 0,.ns,.it .i64 0]⟩:=by kernel_rfl
theorem ty120 : tyq Try.prog 120 = some ⟨.struct [(0,1,false),(1,1,false),(2,1,false),(3,1,false),(4,1,false)],5,true,[.it .i64 0,.it .i64 0,.bo false,.it .i64 0,.it .i64 0]⟩:=by kernel_rfl
theorem ty121 : tyq Try.prog 121 = some ⟨.slice 125 8 64 [.it .i64 0,.it .i64 0,.it .i64 0,.it .i64 0,.it .i64 0,.it .i64 0,.it .i64 0,.it .i64 0],1,false,[.ns]⟩:=by kernel_rfl
theorem ty125 : tyq Try.prog 125 = some ⟨.struct [(0,1,false),(1,1,false),(2,1,false),(3,1,false),(4,1,false),(5,1,false),(6,1,false),(7,1,false)],8,true,[.it .i64 0,.it .i64 0,.it .i64 0,.it .i64 0,.it .i64 0,.it .i64 0,.it .i64 0,.it .i64 0]⟩:=by kernel_rfl
theorem ty215 : tyq Try.prog 215 = some ⟨.struct [(0,1,false),(1,1,false),(2,1,false)],3,true,[.it .i64 0,.it .i64 0,.it .i64 0]⟩:=by kernel_rfl
theorem ty217 : tyq Try.prog 217 = some ⟨.ptr 222,1,false,[.np]⟩:=by kernel_rfl
theorem ty219 : tyq Try.prog 219 = some ⟨.struct [(0,4,true)],4,true,[.it .i64 0,.ns,.it .i64 0,.it .i64 0]⟩:=by kernel_rfl
theorem ty220 : tyq Try.prog 220 = some ⟨.map 3 114,1,false,[.un]⟩:=by kernel_rfl
theorem ty222 : tyq Try.prog 222 = some ⟨.struct [(0,4,true),(4,8,true),(12,1,false)],13,true,[.it .i64 0,.ns,.it .i64 0,.it .i64 0,.it .i64 0,.it .i64 0,.it .i64 0,.it .i64 0,.it .i64 0,.it .i64 0,.ns,.it .i64 0,.un]⟩:=by kernel_rfl
theorem ty227 : tyq Try.prog 227 = some ⟨.struct [(0,7,true),(7,1,false)],8,true,[.it .i64 0,.it .i64 0,.it .i64 0,.it .i64 0,.ns,.it .i64 0,.it .i64 0,.ns]⟩:=by kernel_rfl
theorem ty230 : tyq Try.prog 230 = some ⟨.func,1,false,[.nf]⟩:=by kernel_rfl
theorem ty240 : tyq Try.prog 240 = some ⟨.func,1,false,[.nf]⟩:=by kernel_rfl
theorem ty294 : tyq Try.prog 294 = some ⟨.arr 10 1 false,10,true,[.it .i64 0,.it .i64 0,.it .i64 0,.it .i64 0,.it .i64 0,.it .i64 0,.it .i64 0,.it .i64 0,.it .i64 0,.it .i64 0]⟩:=by kernel_rfl
theorem ty299 : tyq Try.prog 299 = some ⟨.func,1,false,[.nf]⟩:=by kernel_rfl
theorem ty303 : tyq Try.prog 303 = some ⟨.struct [(0,1,false),(1,1,false)],2,true,[.it .i64 0,.it .i64 0]⟩:=by kernel_rfl
theorem ty309 : tyq Try.prog 309 = some ⟨.func,1,false,[.nf]⟩:=by kernel_rfl
theorem ty312 : tyq Try.prog 312 = some ⟨.int .i64,1,false,[.it .i64 0]⟩:=by kernel_rfl
theorem ty315 : tyq Try.prog 315 = some ⟨.ptr 125,1,false,[.np]⟩:=by kernel_rfl
theorem ty318 : tyq Try.prog 318 = some ⟨.int .u64,1,false,[.it .u64 0]⟩:=by kernel_rfl
theorem ty324 : tyq Try.prog 324 = some ⟨.struct [(0,1,false),(1,10,true),(11,10,true)],21,true,[.ns,.it .i64 0,.it .i64 0,.it .i64 0,.it .i64 0,.it .i64 0,.it .i64 0,.it .i64 0,.it .i64 0,.it .i64 0,.it .i64 0,.it .i64 0,.it .i64 0,.it .i64 0,.it .i64 0,.it .i64 0,.it .i64 0,.it .i64 0,.it .i64 0,.it .i64 0,.it .i64 0]⟩:=by kernel_rfl
theorem ty328 : tyq Try.prog 328 = some ⟨.map 3 4,1,false,[.un]⟩:=by kernel_rfl
theorem ty355 : tyq Try.prog 355 = some ⟨.arr 3 1 false,3,true,[.it .i64 0,.it .i64 0,.it .i64 0]⟩:=by kernel_rfl
theorem ty358 : tyq Try.prog 358 = some ⟨.int .i64,1,false,[.it .i64 0]⟩:=by kernel_rfl
theorem ty365 : tyq Try.prog 365 = some ⟨.int .u32,1,false,[.it .u32 0]⟩:=by kernel_rfl
theorem ty367 : tyq Try.prog 367 = some ⟨.int .u64,1,false,[.it .u64 0]⟩:=by kernel_rfl
theorem ty370 : tyq Try.prog 370 = some ⟨.func,1,false,[.nf]⟩:=by kernel_rfl
theorem ty388 : tyq Try.prog 388 = some ⟨.arr 3 2 true,6,true,[.it .i64 0,.it .i64 0,.it .i64 0,.it .i64 0,.it .i64 0,.it .i64 0]⟩:=by kernel_rfl
theorem ty398 : tyq Try.prog 398 = some ⟨.ptr 294,1,false,[.np]⟩:=by kernel_rfl
theorem ty399 : tyq Try.prog 399 = some ⟨.slice 398 1 8 [.np],1,false,[.ns]⟩:=by kernel_rfl
theorem follows : Try.prog.follows .mixedOrders = true:=by kernel_rfl
theorem eqN7 : eqN Try.prog 7 = none:=by kernel_rfl
theorem eqB7 : eqB Try.prog 7 = some [false,false,true,false]:=by kernel_rfl
theorem eqN8 : eqN Try.prog 8 = none:=by kernel_rfl
theorem eqB8 : eqB Try.prog 8 = some [false,false,true,false]:=by kernel_rfl
theorem eqT30 : eqT Try.prog 30 = some 2:=by kernel_rfl
theorem eqT40 : eqT Try.prog 40 = some 2:=by kernel_rfl
theorem eqT105 : eqT Try.prog 105 = some 4:=by kernel_rfl
theorem eqT106 : eqT Try.prog 106 = some 2:=by kernel_rfl
theorem eqT114 : eqT Try.prog 114 = some 4:=by kernel_rfl
theorem eqN119 : eqN Try.prog 119 = none:=by kernel_rfl
theorem eqB119 : eqB Try.prog 119 = some [false,false,true,false,false]:=by kernel_rfl
theorem eqN120 : eqN Try.prog 120 = none:=by kernel_rfl
theorem eqB120 : eqB Try.prog 120 = some [false,false,true,false,false]:=by kernel_rfl
theorem eqT125 : eqT Try.prog 125 = some 8:=by kernel_rfl
theorem eqN179 : eqN Try.prog 179 = none:=by kernel_rfl
theorem eqB179 : eqB Try.prog 179 = some [false,true]:=by kernel_rfl
theorem eqN180 : eqN Try.prog 180 = none:=by kernel_rfl
theorem eqB180 : eqB Try.prog 180 = some [false,true]:=by kernel_rfl
theorem eqN181 : eqN Try.prog 181 = none:=by kernel_rfl
theorem eqB181 : eqB Try.prog 181 = some [false,true]:=by kernel_rfl
theorem eqN182 : eqN Try.prog 182 = none:=by kernel_rfl
theorem eqB182 : eqB Try.prog 182 = some [false,true]:=by kernel_rfl
theorem eqT215 : eqT Try.prog 215 = some 3:=by kernel_rfl
theorem mapT220 : mapT Try.prog 220 = some (3,114,none):=by kernel_rfl
theorem zv114 : zv Try.prog 114 = some (.ag [.it .i64 0,.it .i64 0,.it .i64 0,.it .i64 0]):=by kernel_rfl
theorem mapT246 : mapT Try.prog 246 = some (248,3,some 2):=by kernel_rfl
theorem zv3 : zv Try.prog 3 = some (.it .i64 0):=by kernel_rfl
theorem mapT279 : mapT Try.prog 279 = some (198,3,some 2):=by kernel_rfl
theorem eqT294 : eqT Try.prog 294 = some 10:=by kernel_rfl
theorem eqT303 : eqT Try.prog 303 = some 2:=by kernel_rfl
theorem mapT328 : mapT Try.prog 328 = some (3,4,none):=by kernel_rfl
theorem zv4 : zv Try.prog 4 = some (.bo false):=by kernel_rfl
theorem eqT355 : eqT Try.prog 355 = some 3:=by kernel_rfl
attribute [go_sem] ty3 ty4 ty5 ty9 ty30 ty33 ty37 ty40 ty41 ty47 ty99 ty101 ty103 ty104 ty105 ty106 ty107 ty109 ty110 ty114 ty116 ty120 ty121 ty125 ty215 ty217 ty219 ty220 ty222 ty227 ty230 ty240 ty294 ty299 ty303 ty309 ty312 ty315 ty318 ty324 ty328 ty355 ty358 ty365 ty367 ty370 ty388 ty398 ty399 eqN7 eqB7 eqN8 eqB8 eqT30 eqT40 eqT105 eqT106 eqT114 eqN119 eqB119 eqN120 eqB120 eqT125 eqN179 eqB179 eqN180 eqB180 eqN181 eqB181 eqN182 eqB182 eqT215 mapT220 zv114 mapT246 zv3 mapT279 eqT294 eqT303 mapT328 zv4 eqT355
end Go.Proofs.Ytlljkgiomkmjbaa

namespace Go.Oc
open Go Go.RowKit
def aR (s : AS) (d : Option Nat) (r : Res) (K : AS → Prop) : Prop:=r.pre ∧ (r.ass → K (s.app d r.y))
def aF (D : Bool) (s : AS) (d : Option Nat) (r : Res) (K : AS → Prop) : Prop:=(D = true → (s.rows (d.getD 0)).c = .dead ∧ d.isSome = true) ∧ aR s d r K
section
variable {P : Program} {D : Bool} {s : AS} {K : AS → Prop} {d : Option Nat} {ty : TypeId} {pos : String} {af : Array Edge} {g : Option (Nat × Bool)}
theorem aR_when {c : Prop} {v : AV} : aR s d (.when c v) K ↔ c ∧ K (s.put d v):=by
 constructor
 · rintro ⟨h1,h2⟩; exact ⟨h1,h2 trivial⟩
 · rintro ⟨h1,h2⟩; exact ⟨h1,fun _=>h2⟩
theorem aR_val {v : AV} : aR s d (.val v) K ↔ K (s.put d v):=by
 constructor
 · rintro ⟨_,h2⟩; exact h2 trivial
 · intro h; exact ⟨trivial,fun _=>h⟩
theorem aR_bad : aR s d .bad K ↔ False:=⟨fun h=>h.1.elim,fun h=>h.elim⟩
theorem aR_mk {c e : Prop} {v : AV} {eff : List (Nat × Row)} : aR s d ⟨c,e,⟨v,eff⟩⟩ K ↔ c ∧ (e → K (s.app d ⟨v,eff⟩)):=Iff.rfl
theorem aF_false {r : Res} : aF false s d r K ↔ aR s d r K:=by simp [aF]
theorem aF_true {r : Res} : aF true s d r K ↔ ((s.rows (d.getD 0)).c = .dead ∧ d.isSome = true) ∧ aR s d r K:=by simp [aF]
theorem xop_aop {o : Op} (h1 : ∀ f args ts,o ≠ .call ⟨.value f,args,ts⟩) (h3 : ∀ x,o ≠ .next x false) : xop P D ⟨d,o,ty,pos,af,g⟩ K s ↔ aop P D ⟨d,o,ty,pos,af,g⟩ K s:=by
 unfold xop
 cases D
 · rw [if_neg (by simp)]
   split
   · rename_i f args ts e; exact absurd e (h1 f args ts)
   · rename_i x e; exact absurd e (h3 x)
   · exact Iff.rfl
 · rw [if_pos rfl]
theorem aop_plain {o : Op} (h1 : ∀ f args ts,o ≠ .call ⟨.value f,args,ts⟩) (h2 : cls ⟨d,o,ty,pos,af,g⟩ ≠ 2) (h3 : ∀ x,o ≠ .next x false:=by simp) : xop P D ⟨d,o,ty,pos,af,g⟩ K s ↔ aR s d (step P ⟨d,o,ty,pos,af,g⟩ s) K:=by
 rw [xop_aop h1 h3]
 unfold aop
 split
 · rename_i f args ts e; exact absurd e (h1 f args ts)
 · rename_i x e; exact absurd e (h3 x)
 · constructor
   · rintro ⟨a,_,b⟩; exact ⟨a,b⟩
   · rintro ⟨a,b⟩; exact ⟨a,fun _ e=>absurd e h2,b⟩
theorem aop_new {o : Op} (h1 : ∀ f args ts,o ≠ .call ⟨.value f,args,ts⟩) (h2 : cls ⟨d,o,ty,pos,af,g⟩ = 2) (h3 : ∀ x,o ≠ .next x false:=by simp) : xop P D ⟨d,o,ty,pos,af,g⟩ K s ↔ aF D s d (step P ⟨d,o,ty,pos,af,g⟩ s) K:=by
 rw [xop_aop h1 h3]
 unfold aop
 split
 · rename_i f args ts e; exact absurd e (h1 f args ts)
 · rename_i x e; exact absurd e (h3 x)
 · constructor
   · rintro ⟨a,c,b⟩; exact ⟨fun hD=>c hD h2,a,b⟩
   · rintro ⟨c,a,b⟩; exact ⟨a,fun hD _=>c hD,b⟩
theorem aop_move {x : Operand} : xop P D ⟨d,.move x,ty,pos,af,g⟩ K s ↔ K (s.put d (s.ev x)):=(aop_plain (by simp) (by simp [cls])).trans aR_val
theorem aop_assign {x : Operand} : xop P D ⟨d,.assign x,ty,pos,af,g⟩ K s ↔ K (s.put d (s.ev x)):=(aop_plain (by simp) (by simp [cls])).trans aR_val
theorem aop_pick {a b c : Operand} : xop P D ⟨d,.pick a b c,ty,pos,af,g⟩ K s ↔ aR s d (sPick (s.ev a) (s.ev b) (s.ev c)) K:=aop_plain (by simp) (by simp [cls])
theorem aop_bin {op : BinOp} {t t' : TypeId} {x y : Operand} : xop P D ⟨d,.binOp op t x y t',ty,pos,af,g⟩ K s ↔ aR s d (sBin P op t (s.ev x) (s.ev y)) K:=aop_plain (by simp) (by simp [cls])
theorem aop_un {op : UnOp} {t : TypeId} {x : Operand} : xop P D ⟨d,.unOp op t x,ty,pos,af,g⟩ K s ↔ aR s d (sUn op (s.ev x)) K:=aop_plain (by simp) (by simp [cls])
theorem aop_conv {t t' : TypeId} {x : Operand} : xop P D ⟨d,.convert t t' x,ty,pos,af,g⟩ K s ↔ aR s d (sConv P t t' (s.ev x)) K:=aop_plain (by simp) (by simp [cls])
theorem aop_load {t : TypeId} {x : Operand} : xop P D ⟨d,.load t x,ty,pos,af,g⟩ K s ↔ aR s d (sLoad P s t (s.ev x)) K:=aop_plain (by simp) (by simp [cls])
theorem aop_store {t : TypeId} {x y : Operand} : xop P D ⟨d,.store t x y,ty,pos,af,g⟩ K s ↔ aR s d (sStore P s t (s.ev x) (s.ev y)) K:=aop_plain (by simp) (by simp [cls])
theorem aop_box {t : TypeId} {x : Operand} : xop P D ⟨d,.box t x,ty,pos,af,g⟩ K s ↔ aF D s d (sBox s (d.getD 0) (s.ev x)) K:=aop_new (by simp) (by simp [cls])
theorem aop_alloc {t : TypeId} : xop P D ⟨d,.alloc t,ty,pos,af,g⟩ K s ↔ aF D s d (sAlloc P s (d.getD 0) t) K:=aop_new (by simp) (by simp [cls])
theorem aop_fieldAddr {t : TypeId} {x : Operand} {f : Nat} : xop P D ⟨d,.fieldAddr t x f,ty,pos,af,g⟩ K s ↔ aR s d (sField P s t (s.ev x) f) K:=aop_plain (by simp) (by simp [cls])
theorem aop_field {t : TypeId} {x : Operand} {f : Nat} : xop P D ⟨d,.field t x f,ty,pos,af,g⟩ K s ↔ aR s d (sFieldV P t (s.ev x) f) K:=aop_plain (by simp) (by simp [cls])
theorem aop_indexAddr {t : TypeId} {x i : Operand} : xop P D ⟨d,.indexAddr t x i,ty,pos,af,g⟩ K s ↔ aR s d (sIndex P s t (s.ev x) (s.ev i)) K:=aop_plain (by simp) (by simp [cls])
theorem aop_index {t : TypeId} {x i : Operand} : xop P D ⟨d,.index t x i,ty,pos,af,g⟩ K s ↔ aR s d (sIndexV P t (s.ev x) (s.ev i)) K:=aop_plain (by simp) (by simp [cls])
theorem aop_slice {t : TypeId} {x : Operand} {lo hi mx : Option Operand} : xop P D ⟨d,.slice t x lo hi mx,ty,pos,af,g⟩ K s ↔ aR s d (sSlice P s t (s.ev x) (lo.map s.ev) (hi.map s.ev) (mx.map s.ev)) K:=aop_plain (by simp) (by simp [cls])
def evs (s : AS) : List Operand → List AV
 | []=>[]
 | x :: l=>s.ev x :: evs s l
def evp (s : AS) : List (Nat × Operand) → List (Nat × AV)
 | []=>[]
 | x :: l=>(x.1,s.ev x.2) :: evp s l
theorem evs_eq : ∀ l : List Operand,l.map s.ev = evs s l
 | []=>rfl
 | x :: l=>by simp only [List.map_cons,evs,evs_eq l]
theorem evp_eq : ∀ l : List (Nat × Operand),l.map (fun x=>(x.1,s.ev x.2)) = evp s l
 | []=>rfl
 | x :: l=>by simp only [List.map_cons,evp,evp_eq l]
theorem aop_build {t : TypeId} {ps : List (Nat × Operand)} : xop P D ⟨d,.build t ps.toArray,ty,pos,af,g⟩ K s ↔ aR s d (sBuild P s t (evp s ps)) K:=by
 rw [← evp_eq]; exact aop_plain (by simp) (by simp [cls])
theorem aop_buildSlice {t : TypeId} {n : Nat} {ps : List (Nat × Operand)} : xop P D ⟨d,.buildSlice t n ps.toArray,ty,pos,af,g⟩ K s ↔ aR s d (sBuildSlice P s t n (evp s ps)) K:=by
 rw [← evp_eq]; exact aop_plain (by simp) (by simp [cls])
theorem aop_makeSlice {t : TypeId} {l c : Operand} : xop P D ⟨d,.makeSlice t l c,ty,pos,af,g⟩ K s ↔ aF D s d (sMakeSlice P s (d.getD 0) t (s.ev l) (s.ev c)) K:=aop_new (by simp) (by simp [cls])
theorem aop_makeFunc {f : FuncId} {caps : List Operand} : xop P D ⟨d,.makeFunc (.func f) #[] caps.toArray,ty,pos,af,g⟩ K s ↔ K (s.put d (.fn f (evs s caps))):=by
 rw [← evs_eq]
 refine (aop_plain (by simp) (by simp [cls])).trans ?_
 exact aR_val
theorem aop_extract {x : Operand} {i : Nat} : xop P D ⟨d,.extract x i,ty,pos,af,g⟩ K s ↔ aR s d (sExtract (s.ev x) i) K:=aop_plain (by simp) (by simp [cls])
theorem aop_nil {x : Operand} : xop P D ⟨d,.nilCheck x,ty,pos,af,g⟩ K s ↔ aR s d (sNil s (s.ev x)) K:=aop_plain (by simp) (by simp [cls])
theorem aop_len {x : Operand} {t : TypeId} : xop P D ⟨d,.call ⟨.builtin .len,#[x],#[t]⟩,ty,pos,af,g⟩ K s ↔ aR s d (sLen P s t (s.ev x)) K:=aop_plain (by simp) (by simp [cls])
theorem aop_min {xs : List Operand} {ts : Array TypeId} : xop P D ⟨d,.call ⟨.builtin .min,xs.toArray,ts⟩,ty,pos,af,g⟩ K s ↔ aR s d (sMinMax (minA (evs s xs))) K:=by
 rw [← evs_eq]
 refine (aop_plain (by simp) (by simp [cls])).trans ?_
 exact Iff.of_eq (by simp only [step,sBuiltin])
theorem aop_max {xs : List Operand} {ts : Array TypeId} : xop P D ⟨d,.call ⟨.builtin .max,xs.toArray,ts⟩,ty,pos,af,g⟩ K s ↔ aR s d (sMinMax (maxA (evs s xs))) K:=by
 rw [← evs_eq]
 refine (aop_plain (by simp) (by simp [cls])).trans ?_
 exact Iff.of_eq (by simp only [step,sBuiltin])
theorem aop_append {x y : Operand} {t t' : TypeId} : xop P D ⟨d,.call ⟨.builtin .append,#[x,y],#[t,t']⟩,ty,pos,af,g⟩ K s ↔ aR s d (if t = t' then sAppend P s (d.getD 0) t t' (s.ev x) (s.ev y) else sAppendZ P s (d.getD 0) t t' (s.ev x) (s.ev y)) K:=aop_plain (by simp) (by simp [cls])
theorem aop_cap {x : Operand} {t : TypeId} : xop P D ⟨d,.call ⟨.builtin .cap,#[x],#[t]⟩,ty,pos,af,g⟩ K s ↔ aR s d (sCap P t (s.ev x)) K:=aop_plain (by simp) (by simp [cls])
theorem aop_clear {x : Operand} {t : TypeId} : xop P D ⟨d,.call ⟨.builtin .clear,#[x],#[t]⟩,ty,pos,af,g⟩ K s ↔ aR s d (sClear P s t (s.ev x)) K:=aop_plain (by simp) (by simp [cls])
def xcall (P : Program) (D : Bool) (s : AS) (d : Option Nat) (f : AV) (xs : List AV) (K : AS → Prop) : Prop:=acall P s f xs (fun r=>K (s.put d (.r r))) ∨ (D = false ∧ (mcall P s d f xs K ∨ ocall P s d f xs K ∨ ycall P s d f xs K ∨ ncall P s d f xs K)) ∨ (D = true ∧ (s.rows (d.getD 0)).c = .dead ∧ ocall P s d f xs K)
theorem aop_call {f : Operand} {xs : List Operand} {ts : Array TypeId} : xop P D ⟨d,.call ⟨.value f,xs.toArray,ts⟩,ty,pos,af,g⟩ K s ↔ xcall P D s d (s.ev f) (evs s xs) K:=by
 rw [← evs_eq]
 unfold xop xcall
 cases D
 · rw [if_neg (by simp)]; simp
 · rw [if_pos rfl]; simp [aop]
theorem aop_next {x : Operand} : xop P false ⟨d,.next x false,ty,pos,af,g⟩ K s ↔ sNext s d (s.ev x) K:=Iff.rfl
theorem aop_makeMap {t : TypeId} : xop P D ⟨d,.makeMap t none,ty,pos,af,g⟩ K s ↔ aF D s d (sMakeMap P s (d.getD 0) t) K:=aop_new (by simp) (by simp [cls])
theorem aop_lookup {t : TypeId} {x i : Operand} {ok : Bool} : xop P D ⟨d,.lookup t x i ok,ty,pos,af,g⟩ K s ↔ aR s d (sLookup P s t (s.ev x) (s.ev i) ok) K:=aop_plain (by simp) (by simp [cls])
theorem aop_mapUpdate {t : TypeId} {x i y : Operand} : xop P D ⟨d,.mapUpdate t x i y,ty,pos,af,g⟩ K s ↔ aR s d (sMapUpdate P s t (s.ev x) (s.ev i) (s.ev y)) K:=aop_plain (by simp) (by simp [cls])
theorem aop_mapEntry {t : TypeId} {x i : Operand} : xop P D ⟨d,.mapEntry t x i,ty,pos,af,g⟩ K s ↔ aR s d (sMapEntry P s t (s.ev x) (s.ev i)) K:=aop_plain (by simp) (by simp [cls])
theorem aop_entryStore {t : TypeId} {x i y : Operand} : xop P D ⟨d,.entryStore t x i y,ty,pos,af,g⟩ K s ↔ aR s d (sEntryStore s (s.ev x) (s.ev i) (s.ev y)) K:=aop_plain (by simp) (by simp [cls])
theorem aop_range {t : TypeId} {x : Operand} : xop P D ⟨d,.range t x,ty,pos,af,g⟩ K s ↔ aR s d (sRange P s (d.getD 0) t (s.ev x)) K:=aop_plain (by simp) (by simp [cls])
theorem aop_entry {x : Operand} : xop P D ⟨d,.entry x,ty,pos,af,g⟩ K s ↔ aR s d (sEntry s (s.ev x)) K:=aop_plain (by simp) (by simp [cls])
theorem aops_nil {ops : Array Oper} : aops P D ops [] K s ↔ K s:=Iff.rfl
theorem aops_cons {ops : Array Oper} {o : Op} {rest : List Oper} : aops P D ops (⟨d,o,ty,pos,af,none⟩ :: rest) K s ↔ xop P D ⟨d,o,ty,pos,af,none⟩ (aops P D ops rest K) s:=Iff.rfl
def gslot (ops : Array Oper) (j : Nat) : Option Nat:=(ops[j]?).bind (·.dst)
theorem gslot_zero {o : Oper} {l : List Oper} : gslot (o :: l).toArray 0 = o.dst:=rfl
theorem gslot_succ {o : Oper} {l : List Oper} {j : Nat} : gslot (o :: l).toArray (j + 1) = gslot l.toArray j:=by
 unfold gslot
 simp only [List.getElem?_toArray,List.getElem?_cons_succ]
def gB (P : Program) (D : Bool) (ops : Array Oper) (o : Oper) (rest : List Oper) (K : AS → Prop) (t : Nat) (want : Bool) (v : AV) (s : AS) : Prop :=
 match v with
 | .r (.bo b)=>(b = want → xop P D o (aops P D ops rest K) (s.put (some t) (.r (.bo want)))) ∧ (b = !want → aops P D ops rest K ((s.put (some t) (.r (.bo (!want)))).put o.dst (.r .ud)))
 | .r .ud=>aops P D ops rest K (s.put o.dst (.r .ud))
 | _=>False
def gA (P : Program) (D : Bool) (ops : Array Oper) (o : Oper) (rest : List Oper) (K : AS → Prop) (x : Option Nat) (want : Bool) (s : AS) : Prop :=
 match x with
 | none=>aops P D ops rest K (s.put o.dst (.r .ud))
 | some t=>gB P D ops o rest K t want (s.tm t) s
theorem gA_some {ops : Array Oper} {o : Oper} {rest : List Oper} {t : Nat} {want : Bool} : gA P D ops o rest K (some t) want s = gB P D ops o rest K t want (s.tm t) s:=rfl
theorem gB_tt {ops : Array Oper} {o : Oper} {rest : List Oper} {t : Nat} : gB P D ops o rest K t true (.r (.bo true)) s ↔ xop P D o (aops P D ops rest K) (s.put (some t) (.r (.bo true))):=by simp [gB]
theorem gB_ff {ops : Array Oper} {o : Oper} {rest : List Oper} {t : Nat} : gB P D ops o rest K t false (.r (.bo false)) s ↔ xop P D o (aops P D ops rest K) (s.put (some t) (.r (.bo false))):=by simp [gB]
theorem gB_tf {ops : Array Oper} {o : Op} {rest : List Oper} {t : Nat} : gB P D ops ⟨d,o,ty,pos,af,g⟩ rest K t true (.r (.bo false)) s ↔ aops P D ops rest K ((s.put (some t) (.r (.bo false))).put d (.r .ud)):=by simp [gB]
theorem gB_ft {ops : Array Oper} {o : Op} {rest : List Oper} {t : Nat} : gB P D ops ⟨d,o,ty,pos,af,g⟩ rest K t false (.r (.bo true)) s ↔ aops P D ops rest K ((s.put (some t) (.r (.bo true))).put d (.r .ud)):=by simp [gB]
theorem gB_ud {ops : Array Oper} {o : Op} {rest : List Oper} {t : Nat} {want : Bool} : gB P D ops ⟨d,o,ty,pos,af,g⟩ rest K t want (.r .ud) s ↔ aops P D ops rest K (s.put d (.r .ud)):=Iff.rfl
theorem gB_bo {ops : Array Oper} {o : Op} {rest : List Oper} {t : Nat} {want b : Bool} : gB P D ops ⟨d,o,ty,pos,af,g⟩ rest K t want (.r (.bo b)) s ↔
 (b = want → xop P D ⟨d,o,ty,pos,af,g⟩ (aops P D ops rest K) (s.put (some t) (.r (.bo want)))) ∧ (b = (!want) → aops P D ops rest K ((s.put (some t) (.r (.bo (!want)))).put d (.r .ud))):=Iff.rfl
theorem aops_guard {ops : Array Oper} {o : Op} {rest : List Oper} {j : Nat} {want : Bool} :
 aops P D ops (⟨d,o,ty,pos,af,some (j,want)⟩ :: rest) K s ↔ gA P D ops ⟨d,o,ty,pos,af,some (j,want)⟩ rest K (gslot ops j) want s:=by
 simp only [aops]
 unfold gA gslot gB
 exact Iff.rfl
theorem upd_app {α : Type} (f : Nat → α) (k : Nat) (v : α) (j : Nat) : upd f k v j = if j = k then v else f j:=rfl
theorem put_none {v : AV} : AS.put s none v = s:=rfl
theorem app_val {v : AV} : AS.app s d ⟨v,[]⟩ = AS.put s d v:=by cases d <;> rfl
theorem ev_const {v : Value} : AS.ev s (.const v) = .r (RV.ofV v):=rfl
theorem ev_func {f : FuncId} : AS.ev s (.func f) = .r (.fn f []):=rfl
theorem zb {C : Ctx} {Q : Exit → AS → Prop} {id : Nat} {l : List Oper} (h : ∀ K : AS → Prop,(∀ s,Q .normal s → K s) → aops P false l.toArray l K s) (hd : dstOk l.toArray s.n = true:=by kernel_rfl) : awp P C (.region id l.toArray false) Q s :=
 awp_region hd (h _ fun _ h=>h)
theorem zg {C : Ctx} {Q : Exit → AS → Prop} {id : Nat} {l : List Oper} (hm : P.follows .mixedOrders = true) (hB : lexOk l.toArray = true) (hd : dstOk l.toArray s.n = true)
 (h : ∀ K : AS → Prop,(∀ s,Q .normal s → K s) → aops P true l.toArray l K s) : awp P C (.region id l.toArray true) Q s:=awp_draw hm hB hd (h _ fun _ h=>h)
theorem acall_of {f : AV} {F : FuncId} {cs xs : List AV} {args : List RV} {r : RV} {K : RV → Prop} (h : ACalls P F args r) (hf : callee? f = some (F,cs)) (hs : snapPL s.rows (xs ++ cs)) (hle : RV.leL (snapVL s.rows (xs ++ cs)) args)
 (hfl : r.flatB = true ∨ AV.pureL (xs ++ cs) = true) (hK : K r) : acall P s f xs K:=⟨r,.inl ⟨F,cs,args,hf,hs,hle,h,hfl⟩,hK⟩
theorem leL_refl : ∀ xs : List RV,RV.leL xs xs
 | []=>trivial
 | x :: xs=>by simp only [RV.leL]; exact ⟨le_refl x,leL_refl xs⟩
 where le_refl : ∀ x : RV,RV.le x x
 | .un=>by simp [RV.le]
 | .bo _=>by simp [RV.le]
 | .it _ _=>by simp [RV.le]
 | .ns=>by simp [RV.le]
 | .sl _ _=>by simp [RV.le]
 | .np=>by simp [RV.le]
 | .rp cs=>by simp only [RV.le]; exact leL_refl cs
 | .ag cs=>by simp only [RV.le]; exact leL_refl cs
 | .fn f cs=>by simp only [RV.le]; exact ⟨trivial,leL_refl cs⟩
 | .nf=>by simp [RV.le]
 | .tu cs=>by simp [RV.le]
 | .st _=>by simp [RV.le]
 | .ud=>by simp [RV.le]
 | .yl _=>by simp [RV.le]
 | .sx _ _=>by simp [RV.le]
 | .vl _=>by simp [RV.le]
 | .bf _ _=>by simp [RV.le]
theorem zh {f : AV} {F : FuncId} {cs xs : List AV} {args : List RV} {r : RV} {d : Option Nat} (h : ACalls P F args r) (hf : callee? f = some (F,cs)) (hs : snapPL s.rows (xs ++ cs)) (he : snapVL s.rows (xs ++ cs) = args)
 (hfl : r.flatB = true ∨ AV.pureL (xs ++ cs) = true) (hK : K (s.put d (.r r))) : xcall P D s d f xs K:=.inl (acall_of h hf hs (he ▸ leL_refl _) hfl hK)
end
end Go.Oc

namespace Go.Oc
open Go Go.RowKit
def ins : List (Nat × AV) → Nat → AV → List (Nat × AV)
 | [],k,v=>[(k,v)]
 | (j,u) :: l,k,v=>if k = j then (k,v) :: l else if k < j then (k,v) :: (j,u) :: l else (j,u) :: ins l k v
def insc : List (Nat × RowC) → Nat → RowC → List (Nat × RowC)
 | [],k,v=>[(k,v)]
 | (j,u) :: l,k,v=>if k = j then (k,v) :: l else if k < j then (k,v) :: (j,u) :: l else (j,u) :: insc l k v
def delc : List (Nat × RowC) → Nat → List (Nat × RowC)
 | [],_=>[]
 | (j,u) :: l,k=>if k = j then delc l k else (j,u) :: delc l k
def st (n : Nat) (l : List (Nat × AV)) (vs : Nat → Nat) (cs : List (Nat × RowC)) : AS:=⟨n,look l,fun k=>⟨vs k,lookc cs k⟩⟩
section
variable {n : Nat} {l : List (Nat × AV)} {vs : Nat → Nat} {cs : List (Nat × RowC)}
theorem look_nil {j : Nat} : look [] j = .r .un:=rfl
theorem look_cons {k j : Nat} {v : AV} : look ((k,v) :: l) j = if j = k then v else look l j:=rfl
theorem look_ins (k : Nat) (v : AV) (j : Nat) : look (ins l k v) j = if j = k then v else look l j:=by
 induction l with
 | nil=>rfl
 | cons p l ih =>
   obtain ⟨i,u⟩:=p
   unfold ins
   split
   · rename_i e; subst e
     simp only [look_cons]
     split <;> rfl
   · split
     · simp only [look_cons]
     · rename_i h1 h2
       simp only [look_cons,ih]
       by_cases e1 : j = i
       · have : ¬ j = k:=by omega
         simp [e1]; omega
       · simp [e1]
theorem lookc_insc (k : Nat) (v : RowC) (j : Nat) : lookc (insc cs k v) j = if j = k then v else lookc cs j:=by
 induction cs with
 | nil=>rfl
 | cons p l ih =>
   obtain ⟨i,u⟩:=p
   unfold insc
   split
   · rename_i e; subst e
     simp only [lookc_cons]
     split <;> rfl
   · split
     · simp only [lookc_cons]
     · rename_i h1 h2
       simp only [lookc_cons,ih]
       by_cases e1 : j = i
       · have : ¬ j = k:=by omega
         simp [e1]; omega
       · simp [e1]
theorem lookc_delc (k : Nat) (j : Nat) : lookc (delc cs k) j = if j = k then .dead else lookc cs j:=by
 induction cs with
 | nil=>simp [delc,lookc_nil]
 | cons p l ih =>
   obtain ⟨i,u⟩:=p
   unfold delc
   split
   · rename_i e; subst e
     rw [ih,lookc_cons]
     split <;> rfl
   · rename_i h1
     simp only [lookc_cons,ih]
     by_cases e1 : j = i
     · have : ¬ j = k:=by omega
       simp [e1]; omega
     · simp [e1]
theorem put_st {k : Nat} {v : AV} : AS.put (st n l vs cs) (some k) v = st n ((k,v) :: l) vs cs:=rfl
theorem tm_st {t : Nat} : (st n l vs cs).tm t = look l t:=rfl
theorem n_st : (st n l vs cs).n = n:=rfl
theorem evt_st {t : Nat} : AS.ev (st n l vs cs) (.tmp t) = look l t:=rfl
theorem rows_st {k : Nat} : (st n l vs cs).rows k = ⟨vs k,lookc cs k⟩:=rfl
theorem ver_st {k : Nat} : (st n l vs cs).ver k = vs k:=rfl
theorem app_st {d : Option Nat} {v : AV} {k m : Nat} {c : RowC} {e : List (Nat × Row)} : AS.app (st n l vs cs) d ⟨v,(k,⟨m,c⟩) :: e⟩ = AS.app (st n l (upd vs k m) (insc cs k c)) d ⟨v,e⟩:=by
 have : (⟨n,look l,upd (fun k=>⟨vs k,lookc cs k⟩) k ⟨m,c⟩⟩ : AS) = st n l (upd vs k m) (insc cs k c):=by
  simp only [st,AS.mk.injEq,true_and]
  funext j
  rw [lookc_insc]
  unfold upd
  split <;> rfl
 rw [← this]
 cases d <;> rfl
theorem row_st {k m : Nat} {c : RowC} : AS.row (st n l vs cs) k ⟨m,c⟩ = st n l (upd vs k m) (insc cs k c):=by
 simp only [AS.row,st,AS.mk.injEq,true_and]
 funext j
 rw [lookc_insc]
 unfold upd
 split <;> rfl
theorem verf_st : (st n l vs cs).ver = vs:=rfl
def backCs (ρ : List (Nat × Nat)) (ver : Nat → Nat) (L' : List (Nat × RowC)) : List (Nat × Nat) → List (Nat × RowC) → List (Nat × RowC)
 | [],cs=>cs
 | (pk,ck) :: l,cs=>backCs ρ ver L' l (insc cs ck (backC ρ ver (lookc L' pk)))
theorem backs_st {ρ : List (Nat × Nat)} {L' : List (Nat × RowC)} : (st n l vs cs).backs ρ L' = st n l vs (backCs ρ vs L' ρ cs):=by
 have : ∀ (q : List (Nat × Nat)) (cs : List (Nat × RowC)),backRows ρ vs L' q (fun k=>⟨vs k,lookc cs k⟩) = fun k=>⟨vs k,lookc (backCs ρ vs L' q cs) k⟩:=by
  intro q
  induction q with
  | nil=>intro cs; rfl
  | cons x q ih =>
    intro cs
    obtain ⟨pk,ck⟩:=x
    simp only [backRows,backCs];rw [← ih]
    congr 1
    funext j
    rw [lookc_insc]
    unfold upd
    split
    · rename_i e; subst e; rfl
    · rfl
 show (⟨n,look l,backRows ρ vs L' ρ fun k=>⟨vs k,lookc cs k⟩⟩ : AS) = _
 rw [this]
 rfl
theorem xcall_mut {P : Program} {F : FuncId} {L L' : List (Nat × RowC)} {args caps : List AV} {r : AV} {d : Option Nat} {f : AV} {xs : List AV} {K : AS → Prop} (h : MCalls P F L L' args r) (ρ : List (Nat × Nat)) (hf : callee? f = some (F,caps))
 (hx : lendL ρ vs (xs ++ caps) = some args) (hl : lendOk ρ (st n l vs cs) ρ L) (ha : apart ρ = true) (hs : sameKeys ρ L' = true) (hK : K (AS.put (st n l vs (backCs ρ vs L' ρ cs)) d (backA ρ vs r))) : xcall P false (st n l vs cs) d f xs K:=by
 refine .inr (.inl ⟨rfl,.inl ⟨F,caps,ρ,L,L',args,r,hf,hx,hl,ha,hs,h,?_⟩⟩)
 rw [backs_st]
 exact hK
theorem xcall_own {P : Program} {D : Bool} {F : FuncId} {args : List RV} {caps : List AV} {t sz m dd : Nat} {es : List (List RV)} {f : AV} {xs : List AV} {K : AS → Prop} (h : OCalls P F args t sz es m) (hf : callee? f = some (F,caps))
 (hs : snapPL (st n l vs cs).rows (xs ++ caps)) (he : snapVL (st n l vs cs).rows (xs ++ caps) = args) (hd : dd < 1000) (hD : D = true → lookc cs dd = .dead) (hK : K (st n ((dd,.os dd (vs dd + 1) sz 0 m) :: l) (upd vs dd (vs dd + 1)) (insc cs dd (.arr t sz es)))) : xcall P D (st n l vs cs) (some dd) f xs K:=by
 have ho : ocall P (st n l vs cs) (some dd) f xs K:=by
  refine ⟨F,caps,args,t,sz,es,m,dd,hf,hs,he ▸ leL_refl _,h,rfl,hd,?_⟩
  rw [row_st,put_st]
  exact hK
 cases D
 · exact .inr (.inl ⟨rfl,.inr (.inl ho)⟩)
 · exact .inr (.inr ⟨rfl,hD rfl,ho⟩)
def keepL (tm : Nat → AV) : List Nat → List (Nat × AV)
 | []=>[]
 | k :: l=>(k,tm k) :: keepL tm l
theorem keepL_mem {tm : Nat → AV} : ∀ {ks : List Nat},∀ p ∈ keepL tm ks,tm p.1 = p.2
 | [],p,h=>by simp [keepL] at h
 | k :: ks, p, h => by
   simp only [keepL,List.mem_cons] at h
   rcases h with rfl | h
   · rfl
   · exact keepL_mem p h
theorem zk (ks : List Nat) : Sub (st n l vs cs) (st n (keepL (look l) ks) vs cs):=sub_look _ keepL_mem
theorem sub_killc (k : Nat) (hk0 : k < 1000) : Sub (st n l vs cs) (st n l (upd vs k (vs k + 1)) (delc cs k)):=by
 have:=sub_kill (st n l vs cs) k hk0
 have e : ({ st n l vs cs with rows:=upd (st n l vs cs).rows k ⟨((st n l vs cs).rows k).ver + 1,.dead⟩ } : AS) = st n l (upd vs k (vs k + 1)) (delc cs k):=by
  simp only [st,AS.mk.injEq,true_and]
  funext j
  rw [lookc_delc]
  unfold upd
  split <;> rfl
 rwa [e] at this
def killV (vs : Nat → Nat) : List Nat → Nat → Nat
 | []=>vs
 | k :: ks=>killV (upd vs k (vs k + 1)) ks
def killC (cs : List (Nat × RowC)) : List Nat → List (Nat × RowC)
 | []=>cs
 | k :: ks=>killC (delc cs k) ks
def small : List Nat → Bool
 | []=>true
 | k :: ks=>decide (k < 1000) && small ks
theorem sub_kills : ∀ (ks : List Nat) (vs : Nat → Nat) (cs : List (Nat × RowC)),small ks = true → Sub (st n l vs cs) (st n l (killV vs ks) (killC cs ks))
 | [],_,_,_=>Sub.refl _
 | k :: ks, _, _, h => by
   simp only [small,Bool.and_eq_true,decide_eq_true_eq] at h
   exact (sub_killc k h.1).trans (sub_kills ks _ _ h.2)
theorem sub_own (t k e sz : Nat) (hk0 : k < 1000) (h : look l t = .r .ns) : Sub (st n l vs cs) (st n (ins l t (.os k (vs k + 1) sz 0 0)) (upd vs k (vs k + 1)) (insc cs k (.arr e sz []))):=by
 have:=sub_adopt (st n l vs cs) t k e sz hk0 h
 have e : ({ st n l vs cs with tm:=upd (st n l vs cs).tm t (.os k (((st n l vs cs).rows k).ver + 1) sz 0 0),rows:=upd (st n l vs cs).rows k ⟨((st n l vs cs).rows k).ver + 1,.arr e sz []⟩ } : AS)
  = st n (ins l t (.os k (vs k + 1) sz 0 0)) (upd vs k (vs k + 1)) (insc cs k (.arr e sz [])):=by
  simp only [st,AS.mk.injEq,true_and]
  constructor
  · funext j; rw [look_ins]; rfl
  · funext j
    rw [lookc_insc]
    unfold upd
    split <;> rfl
 rwa [e] at this
def allEq (l : List (Nat × AV)) : List (Nat × AV) → Prop
 | []=>True
 | (k,v) :: r=>look l k = v ∧ allEq l r
theorem allEq_mem : ∀ {r : List (Nat × AV)},allEq l r → ∀ p ∈ r,look l p.1 = p.2
 | [],_,p,h=>by simp at h
 | q :: r, h, p, hp => by
   simp only [List.mem_cons] at hp
   rcases hp with rfl | hp
   · exact h.1
   · exact allEq_mem h.2 p hp
def Fit (n : Nat) (F : (Nat → Nat) → List (Nat × AV)) (R : List (Nat × RowC)) (s : AS) : Prop:=∃ vs,Sub s (st n (F vs) vs R)
theorem fit_of (ks : List Nat) {F : (Nat → Nat) → List (Nat × AV)} {R : List (Nat × RowC)} (h1 : allEq l (F (killV vs ks))) (h2 : killC cs ks = R) (h3 : small ks = true:=by rfl) : Fit n F R (st n l vs cs):=by
 refine ⟨killV vs ks,(sub_kills ks vs cs h3).trans ?_⟩
 subst h2
 exact sub_look _ (allEq_mem h1)
theorem awp_fit {P : Program} {C : Ctx} {c : Code} {Q : Exit → AS → Prop} {s : AS} {F : (Nat → Nat) → List (Nat × AV)} {R : List (Nat × RowC)} (h : Fit n F R s) (k : ∀ vs,awp P C c Q (st n (F vs) vs R)) : awp P C c Q s:=by
 obtain ⟨vs,h⟩:=h
 exact zw h (k vs)
theorem awp_join {P : Program} {C : Ctx} {c d : Code} {Q Q1 : Exit → AS → Prop} {s : AS} {α : Type} (F : α → (Nat → Nat) → List (Nat × AV)) (R : α → List (Nat × RowC)) (I : α → Prop)
 (h0 : ∀ s,awp P C d Q1 s → Q .normal s) (h1 : awp P C c (andThen (fun s'=>∃ z,I z ∧ Fit n (F z) (R z) s') Q) s) (h2 : ∀ z vs,I z → awp P C d Q1 (st n (F z vs) vs (R z))) : awp P C c Q s:=by
 refine awp_mono ?_ h1
 intro e s' hq
 cases e with
 | normal =>
   obtain ⟨z,hz,hf⟩:=hq
   exact h0 s' (awp_fit hf fun vs=>h2 z vs hz)
 | _=>exact hq
theorem awp_while {P : Program} {C : Ctx} {c : Code} {Q : Exit → AS → Prop} {s : AS} {α : Type} (F : α → (Nat → Nat) → List (Nat × AV)) (R : α → List (Nat × RowC)) (I : α → Prop) (m : α → Nat) (x0 : α)
 (h0 : Fit n (F x0) (R x0) s) (hI : I x0)
 (round : ∀ x vs,I x → awp P C c (andThen (fun s'=>∃ y,I y ∧ m y < m x ∧ Fit n (F y) (R y) s') Q) (st n (F x vs) vs (R x))) : awp P C (.loop c) Q s:=by
 refine awp_loop (fun k s=>∃ x,I x ∧ m x = k ∧ Fit n (F x) (R x) s) (m x0) ⟨x0,hI,rfl,h0⟩ ?_
 rintro k s ⟨x,hx,rfl,vs,hs⟩
 refine zw hs (awp_mono ?_ (round x vs hx))
 intro e s' hq
 cases e with
 | normal =>
   obtain ⟨y,hy,hlt,hf⟩:=hq
   exact ⟨m y,hlt,y,hy,rfl,hf⟩
 | _=>exact hq
theorem awp_upto {P : Program} {C : Ctx} {c : Code} {Q : Exit → AS → Prop} {s : AS} (N : Nat) (F : Nat → (Nat → Nat) → List (Nat × AV)) (R : Nat → List (Nat × RowC)) (I : Nat → Prop) (i0 : Nat)
 (h0 : Fit n (F i0) (R i0) s) (hi : i0 ≤ N) (hI : I i0)
 (round : ∀ i vs,i ≤ N → I i → awp P C c (andThen (fun s'=>i < N ∧ I (i + 1) ∧ Fit n (F (i + 1)) (R (i + 1)) s') Q) (st n (F i vs) vs (R i))) : awp P C (.loop c) Q s:=by
 refine awp_while F R (fun i=>i ≤ N ∧ I i) (fun i=>N - i) i0 h0 ⟨hi,hI⟩ ?_
 rintro i vs ⟨hi,hI⟩
 refine awp_mono ?_ (round i vs hi hI)
 intro e s' hq
 cases e with
 | normal =>
   obtain ⟨h1,h2,h3⟩:=hq
   exact ⟨i + 1,⟨h1,h2⟩,by omega,h3⟩
 | _=>exact hq
def argL : Nat → List RV → List (Nat × AV)
 | _,[]=>[]
 | k,x :: xs=>(k,.r x) :: argL (k + 1) xs
theorem argL_mem : ∀ {k : Nat} {xs : List RV},∀ p ∈ argL k xs,∃ i x,p = (k + i,.r x) ∧ xs[i]? = some x
 | k,[],p,h=>by simp [argL] at h
 | k, x :: xs, p, h => by
   simp only [argL,List.mem_cons] at h
   rcases h with rfl | h
   · exact ⟨0,x,rfl,rfl⟩
   · obtain ⟨i,y,rfl,e⟩:=argL_mem p h
     exact ⟨i + 1,y,by rw [Nat.add_right_comm,Nat.add_assoc],by simpa using e⟩
def fpostL (P : Program) (res : List ResultVar) (rs : List RV) : Exit → AS → Prop
 | .normal,s=>resOk P s res rs
 | .ret,s=>resOk P s res rs
 | _,_=>False
theorem argL_look : ∀ {k : Nat} {xs : List RV} {j : Nat} {x : RV},xs[j]? = some x → look (argL k xs) (k + j) = .r x
 | k,[],j,x,h=>by simp at h
 | k, y :: xs, j, x, h => by
   simp only [argL,look_cons]
   cases j with
   | zero=>simp at h; subst h; simp
   | succ j =>
     have : ¬ k + (j + 1) = k:=by omega
     simp only [this,if_false];rw [show k + (j + 1) = k + 1 + j from by omega]
     exact argL_look (by simpa using h)
theorem look_none {l : List (Nat × AV)} {t : Nat} (h : ¬ ∃ x,(t,x) ∈ l) : look l t = .r .un:=by
 induction l with
 | nil=>rfl
 | cons q l ih =>
   obtain ⟨k,v⟩:=q
   simp only [look_cons]
   by_cases e : t = k
   · subst e; exact absurd ⟨v,by simp⟩ h
   · simp only [e,if_false];exact ih (fun ⟨x,hx⟩=>h ⟨x,by simp [hx]⟩)
theorem acalls_stR {P : Program} {f : FuncId} {fn : Func} {c : Code} {n : Nat} {args rs : List RV} {r : RV} (res : List ResultVar) (hf : P.funcs[f]? = some fn) (hb : fn.body = some c) (hc : callable P f = true) (hn : fn.ntmps = n) (hres : fn.results.toList = res) (hargs : args.length ≤ n) (hr : resV rs = r)
 (h : ∀ C : Ctx,C.rd = none ∧ C.X = XS.none → ∀ vs,awp P C c (fpostL P res rs) (st n (argL 0 args) vs [])) : ACalls P f args r :=
 acalls_ofR hf hb hc hn hargs hr fun C hC=>zw (sub_look _ fun p hp=>by
  obtain ⟨i,x,rfl,e⟩:=argL_mem p hp
  simp only [argTm,Nat.zero_add,e]) (awp_mono (fun e s h=>by subst hres; cases e <;> exact h) (h C hC fun _=>0))
def keyIn : List (Nat × RowC) → Nat → Bool
 | [],_=>false
 | (k,_) :: L,j=>if j = k then true else keyIn L j
theorem acalls_st {P : Program} {f : FuncId} {fn : Func} {c : Code} {n : Nat} {args rs : List RV} {r : RV} (res : List ResultVar) (hf : P.funcs[f]? = some fn) (hb : fn.body = some c) (hc : callable P f = true) (hn : fn.ntmps = n) (hres : fn.results.toList = res) (hargs : args.length ≤ n) (hr : resV rs = r)
 (h : ∀ C vs,awp P C c (fpostL P res rs) (st n (argL 0 args) vs [])) : ACalls P f args r:=acalls_stR res hf hb hc hn hres hargs hr fun C _=>h C
def frz1 (ks : List (Nat × RowC)) (rows : Nat → Row) : AV → AV
 | .r v=>.r v
 | .os j n sz off m=>if keyIn ks j then .os j n sz off m else .r (snap1V rows (.os j n sz off m))
 | .pt j n off=>if keyIn ks j then .pt j n off else .r .un
 | .pe j n sz idx off=>if keyIn ks j then .pe j n sz idx off else .r .un
 | .mp j n=>if keyIn ks j then .mp j n else .r .un
 | .pu j n u=>if keyIn ks j then .pu j n u else .r .un
 | _=>.r .un
def frzP1 (ks : List (Nat × RowC)) (rows : Nat → Row) : AV → Prop
 | .os j n sz off m=>if keyIn ks j then True else (j < 1000 ∧ snap1P rows (.os j n sz off m))
 | _=>True
def frzL (ks : List (Nat × RowC)) (rows : Nat → Row) : List AV → List AV
 | []=>[]
 | x :: xs=>frz1 ks rows x :: frzL ks rows xs
def frzPL (ks : List (Nat × RowC)) (rows : Nat → Row) : List AV → Prop
 | []=>True
 | x :: xs=>frzP1 ks rows x ∧ frzPL ks rows xs
def frzC (ks : List (Nat × RowC)) (rows : Nat → Row) : RowC → RowC
 | .box cs=>.box (frzL ks rows cs)
 | .arr t sz es=>.arr t sz es
 | .mp m=>.mp m
 | .mem Φ=>.mem Φ
 | _=>.dead
def frzPC (ks : List (Nat × RowC)) (rows : Nat → Row) : RowC → Prop
 | .box cs=>frzPL ks rows cs
 | _=>True
def mfin (ks : List (Nat × RowC)) (rows : Nat → Row) : List (Nat × RowC) → List (Nat × RowC) → Prop
 | [],[]=>True
 | (k,_) :: L,(k',c') :: L'=>k' = k ∧ okC (rows k).c = true ∧ frzPC ks rows (rows k).c ∧ frzC ks rows (rows k).c = c' ∧ mfin ks rows L L'
 | _,_=>False
def pinned : List (Nat × RowC) → Bool
 | []=>true
 | (k,c) :: L=>decide (1000 ≤ k) && okC c && !keyIn L k && pinned L
def resM (P : Program) (ks : List (Nat × RowC)) (s : AS) : List ResultVar → List AV → Prop
 | [],rs=>rs = []
 | v :: vs,rs=>(resA P s v).pre ∧ frzP1 ks s.rows (resA P s v).y.av ∧ ∃ rs',rs = frz1 ks s.rows (resA P s v).y.av :: rs' ∧ resM P ks s vs rs'
def resMV : List AV → AV
 | [r]=>r
 | rs=>.tu rs
def mpostL (P : Program) (res : List ResultVar) (rs : List AV) (L L' : List (Nat × RowC)) : Exit → AS → Prop
 | .normal,s=>resM P L s res rs ∧ mfin L s.rows L L'
 | .ret,s=>resM P L s res rs ∧ mfin L s.rows L L'
 | _,_=>False
theorem mpostL_normal {P : Program} {s : AS} {us : List ResultVar} {rs : List AV} {L L' : List (Nat × RowC)} : mpostL P us rs L L' .normal s = (resM P L s us rs ∧ mfin L s.rows L L'):=rfl
theorem mpostL_ret {P : Program} {s : AS} {us : List ResultVar} {rs : List AV} {L L' : List (Nat × RowC)} : mpostL P us rs L L' .ret s = (resM P L s us rs ∧ mfin L s.rows L L'):=rfl
def argA : Nat → List AV → List (Nat × AV)
 | _,[]=>[]
 | k,x :: xs=>(k,x) :: argA (k + 1) xs
theorem argA_look : ∀ {k : Nat} {xs : List AV} {j : Nat},look (argA k xs) j = if k ≤ j then (xs[j - k]?).getD (.r .un) else .r .un
 | k,[],j=>by simp [argA,look_nil]
 | k, x :: xs, j => by
   simp only [argA,look_cons,argA_look]
   by_cases e : j = k
   · subst e; simp
   · by_cases e2 : k ≤ j
     · have h1 : k + 1 ≤ j:=by omega
       simp only [e,if_false,h1,e2,if_true];rw [show j - k = (j - (k + 1)) + 1 from by omega]
       simp
     · have h1 : ¬ k + 1 ≤ j:=by omega
       simp [e,h1,e2]
theorem lookc_not {L : List (Nat × RowC)} {k : Nat} (h : keyIn L k = false) : lookc L k = .dead:=by
 induction L with
 | nil=>rfl
 | cons x L ih =>
   obtain ⟨j,c⟩:=x
   simp only [keyIn] at h
   simp only [lookc_cons]
   split at h
   · cases h
   · rename_i e; simp only [e,if_false]; exact ih h
theorem pinned_ge {L : List (Nat × RowC)} (h : pinned L = true) {k : Nat} (hk : keyIn L k = true) : 1000 ≤ k ∧ okC (lookc L k) = true:=by
 induction L with
 | nil=>simp [keyIn] at hk
 | cons x L ih =>
   obtain ⟨j,c⟩:=x
   simp only [pinned,Bool.and_eq_true,decide_eq_true_eq] at h
   simp only [keyIn] at hk
   simp only [lookc_cons]
   split at hk
   · rename_i e; subst e; simp only [if_true]; exact ⟨h.1.1.1,h.1.1.2⟩
   · rename_i e; simp only [e,if_false]; exact ih h.2 hk
theorem mfin_get {ks : List (Nat × RowC)} {rows : Nat → Row} : ∀ {L L' : List (Nat × RowC)},mfin ks rows L L' → (∀ k,keyIn L k = true → okC (rows k).c = true ∧ frzPC ks rows (rows k).c ∧ lookc L' k = frzC ks rows (rows k).c) ∧ ∀ k,keyIn L k = false → lookc L' k = .dead
 | [],[],_=>⟨fun _ h=>by simp [keyIn] at h,fun _ _=>rfl⟩
 | [],_ :: _,h=>by simp [mfin] at h
 | _ :: _,[],h=>by simp [mfin] at h
 | (k, c) :: L, (k', c') :: L', h => by
   simp only [mfin] at h
   obtain ⟨rfl,h1,h2,h3,h4⟩:=h
   obtain ⟨g1,g2⟩:=mfin_get h4
   refine ⟨fun j hj=>?_,fun j hj=>?_⟩
   · simp only [keyIn] at hj
     simp only [lookc_cons]
     by_cases e : j = k'
     · subst e; simp only [if_true]; exact ⟨h1,h2,h3.symm⟩
     · simp only [e,if_false] at hj ⊢; exact g1 j hj
   · simp only [keyIn] at hj
     simp only [lookc_cons]
     by_cases e : j = k'
     · simp [e] at hj
     · simp only [e,if_false] at hj ⊢; exact g2 j hj
section
variable {P : Program} {C : Ctx} {p p0 : Plan} {s : AS} {a : Act} {w : World}
theorem frz_rel (h : SR C p s a w) {L : List (Nat × RowC)} (hpin : ∀ k,keyIn L k = true → p.β k = p0.β k ∧ p.γ k = p0.γ k ∧ s.ver k = 0) {R' : Nat → Prop} (hR : ∀ b,p.R b → R' b) (hR2 : ∀ j b,j < 1000 → p.β j = some b → R' b)
 {x : AV} {v : Value} (hp : frzP1 L s.rows x) (hv : x.rel w p s.ver v) : (frz1 L s.rows x).rel w { p0 with R:=R' } (fun _=>0) v:=by
 have un : ∀ {x : AV},x = .r .un → x.rel w { p0 with R:=R' } (fun _=>0) v:=fun e=>by rw [e]; exact AV.rel_un _ _ _ _
 cases x with
 | r x =>
   simp only [AV.rel] at hv
   simp only [frz1,AV.rel];exact RV.rel_mono hR (fun _ _=>rfl) _ _ hv
 | os j n sz off m =>
   simp only [frz1]
   simp only [frzP1] at hp
   split
   · rename_i hk
     obtain ⟨h1,h2,h3⟩:=hpin j hk
     simp only [AV.rel] at hv ⊢
     rw [h1,h2,h3] at hv
     exact hv
   · rename_i hk
     rw [if_neg hk] at hp
     simp only [AV.rel];exact snap_os h hp.2.1 hp.2.2 hv hR (fun b hb=>hR2 j b hp.1 hb)
 | pt j n off =>
   simp only [frz1]
   split
   · rename_i hk
     obtain ⟨h1,h2,h3⟩:=hpin j hk
     simp only [AV.rel] at hv ⊢
     rw [h1,h3] at hv
     exact hv
   · exact AV.rel_un _ _ _ _
 | pu j n u =>
   simp only [frz1]
   split
   · rename_i hk
     obtain ⟨h1,h2,h3⟩:=hpin j hk
     simp only [AV.rel] at hv ⊢
     rw [h1,h3] at hv
     exact hv
   · exact AV.rel_un _ _ _ _
 | pe j n sz idx off =>
   simp only [frz1]
   split
   · rename_i hk
     obtain ⟨h1,h2,h3⟩:=hpin j hk
     simp only [AV.rel] at hv ⊢
     rw [h1,h3] at hv
     exact hv
   · exact AV.rel_un _ _ _ _
 | mp j n =>
   simp only [frz1]
   split
   · rename_i hk
     obtain ⟨h1,h2,h3⟩:=hpin j hk
     simp only [AV.rel] at hv ⊢
     rw [h1,h3] at hv
     exact hv
   · exact AV.rel_un _ _ _ _
 | _=>exact AV.rel_un _ _ _ _
theorem frz_relV (h : SR C p s a w) {L : List (Nat × RowC)} (hpin : ∀ k,keyIn L k = true → p.β k = p0.β k ∧ p.γ k = p0.γ k ∧ s.ver k = 0) {R' : Nat → Prop} (hR : ∀ b,p.R b → R' b) (hR2 : ∀ j b,j < 1000 → p.β j = some b → R' b) :
 ∀ {xs : List AV} {vs : List Value},frzPL L s.rows xs → AV.relV w p s.ver xs vs → AV.relV w { p0 with R:=R' } (fun _=>0) (frzL L s.rows xs) vs
 | [],_,_,hV=>by simp only [AV.relV] at hV; simp only [frzL,AV.relV]; exact hV
 | x :: xs, _, hp, hV => by
   simp only [frzPL] at hp
   simp only [AV.relV] at hV
   obtain ⟨u,us,e,h1,h2⟩:=hV
   simp only [frzL,AV.relV];exact ⟨u,us,e,frz_rel h hpin hR hR2 hp.1 h1,frz_relV h hpin hR hR2 hp.2 h2⟩
theorem run_resML (h : SR C p s a w) {L : List (Nat × RowC)} (hpin : ∀ k,keyIn L k = true → p.β k = p0.β k ∧ p.γ k = p0.γ k ∧ s.ver k = 0) {R' : Nat → Prop} (hR : ∀ b,p.R b → R' b) (hR2 : ∀ j b,j < 1000 → p.β j = some b → R' b) :
 ∀ (vs : List ResultVar) (rs : List AV),resM P L s vs rs → ∃ us,(vs.mapM (resOp a.tmps)).run P w = .ok us w ∧ AV.relV w { p0 with R:=R' } (fun _=>0) rs us
 | [],rs,hm=>by simp only [resM] at hm; subst hm; exact ⟨[],rfl,by simp [AV.relV]⟩
 | v :: vs, rs, hm => by
   obtain ⟨hp,hf,rs',rfl,hrest⟩:=hm
   obtain ⟨u,hu,hrel⟩:=run_result h v hp
   obtain ⟨us,hus,hV⟩:=run_resML h hpin hR hR2 vs rs' hrest
   refine ⟨u :: us,?_,by simp only [AV.relV]; exact ⟨u,us,rfl,frz_rel h hpin hR hR2 hf hrel,hV⟩⟩
   simp only [List.mapM_cons,Sem.run_bind,hu,Result.andThen_ok,hus,Sem.run_pure]
theorem run_resM (h : SR C p s a w) {L : List (Nat × RowC)} (hpin : ∀ k,keyIn L k = true → p.β k = p0.β k ∧ p.γ k = p0.γ k ∧ s.ver k = 0) {R' : Nat → Prop} (hR : ∀ b,p.R b → R' b) (hR2 : ∀ j b,j < 1000 → p.β j = some b → R' b)
 {fn : Func} {rs : List AV} (hm : resM P L s fn.results.toList rs) : ∃ v,(results fn a.tmps).run P w = .ok v w ∧ (resMV rs).rel w { p0 with R:=R' } (fun _=>0) v:=by
 obtain ⟨us,hus,hV⟩:=run_resML h hpin hR hR2 _ _ hm
 have hm : (fn.results.mapM (resOp a.tmps)).run P w = .ok us.toArray w:=by
  rw [Array.mapM_eq_mapM_toList]
  simp only [Sem.run_map,hus,Result.andThen_ok]
 have hl:=AV.relV_length hV
 refine ⟨if h : us.toArray.size = 1 then us.toArray[0] else .tuple us.toArray,?_,?_⟩
 · rw [results_eq,Sem.run_bind,hm]
   simp only [Result.andThen_ok,Sem.run_pure]
 · match rs,us,hl,hV with
   | [r], [u], _, hV =>
     simp only [AV.relV] at hV
     obtain ⟨u',us',e,h1,_⟩:=hV
     injection e with e1 e2
     subst e1
     simpa [resMV] using h1
   | [], us, hl, hV =>
     have : us = []:=List.eq_nil_of_length_eq_zero (by simpa using hl)
     subst this
     simp only [resMV,AV.rel];exact ⟨#[],rfl,hV⟩
   | r1 :: r2 :: rs, us, hl, hV =>
     have : ¬ us.toArray.size = 1:=by simp at hl ⊢; omega
     rw [dif_neg this]
     simp only [resMV,AV.rel];exact ⟨us.toArray,rfl,hV⟩
theorem mcalls_stO {f : FuncId} {fn : Func} {c : Code} {n : Nat} {rs : List AV} {r : AV} {args : List AV} (L L' : List (Nat × RowC)) (res : List ResultVar) (hf : P.funcs[f]? = some fn) (hb : fn.body = some c) (hc : callable P f = true) (hn : fn.ntmps = n) (hres : fn.results.toList = res)
 (hargs : args.length ≤ n) (hr : resMV rs = r) (hL : pinned L = true) (h : ∀ C : Ctx,(C.rd = none ∧ C.X = XS.none) ∧ (∀ b,¬ C.own b) ∧ (∀ k,keyIn L k = true → ∃ x,C.pin k = some x ∧ ∀ b,x.1 = some b → C.bor b) → awp P C c (mpostL P res rs L L') (st n (argA 0 args) (fun _=>0) L)) : MCalls P f L L' args r:=by
 refine ⟨hc,fun w p vs hpl hR hβ hij hγ hrows hV=>?_⟩
 have hlen:=AV.relV_length hV
 simp only [Array.length_toList] at hlen
 let C : Ctx:={ w0:=w,R0:=p.R,bor:=fun b=>∃ k,p.β k = some b,pin:=fun k=>if keyIn L k then some (p.β k,p.γ k) else none }
 have hs : SR C p (st n (argA 0 args) (fun _=>0) L) { tmps:=vs ++ Array.replicate (fn.ntmps - vs.size) undef,defers:=[] } w:={
  base:=⟨rfl,rfl,rfl,Nat.le_refl _,fun _ _ _ _=>rfl⟩
  r0:=fun _ h=>h
  rn:=fun _ h=>.inl h
  rb:=hR
  tm:=fun t=>by
   show (look (argA 0 args) t).rel _ _ _ _
   rw [argA_look,if_pos (Nat.zero_le _),Nat.sub_zero]
   cases e : args[t]? with
   | none=>exact AV.rel_un _ _ _ _
   | some x =>
     obtain ⟨u,hu,hx⟩:=AV.relV_get hV e
     have : (vs ++ Array.replicate (fn.ntmps - vs.size) undef).getD t undef = u:=by
      have ht : t < vs.size:=by have:=(List.getElem?_eq_some_iff.1 hu).1; simpa using this
      rw [Array.getD_eq_getD_getElem?,Array.getElem?_append_left ht]
      simp only [Array.getElem?_toList] at hu
      rw [hu]; rfl
     rw [this]
     exact hx
  sz:=by simp only [Array.size_append,Array.size_replicate,st]; omega
  ex:=ext_start (fun b h=>h.elim (fun ⟨k,hk⟩=>(hβ k b hk).1) (fun h=>h.elim)) hpl.1 rfl hpl.2.1 hpl.2.2
  rw:=hrows
  bl:=fun k b h=>⟨(hβ k b h).1,(hβ k b h).2,.inr (.inl ⟨by
   cases hk : keyIn L k with
   | true=>exact (pinned_ge hL hk).1
   | false =>
     have hr:=hrows k
     rw [lookc_not hk] at hr
     simp only [rowRel] at hr
     exact absurd (hr.1.symm.trans h) (by simp),k,h⟩)⟩
  ij:=hij
  cap:=hγ
  pn:=fun k x hx=>by
   have hx' : (if keyIn L k then some (p.β k,p.γ k) else none) = some x:=hx
   split at hx'
   · rename_i hk
     injection hx' with hx'
     subst hx'
     exact ⟨rfl,rfl,rfl,(pinned_ge hL hk).1⟩
   · cases hx'
  lk:=fun j km n l cur hj _=>by
   have hj' : lookc L j = .mi km n l cur:=hj
   cases hk : keyIn L j with
   | true=>have:=(pinned_ge hL hk).2; rw [hj'] at this; simp [okC] at this
   | false=>rw [lookc_not hk] at hj'; cases hj' }
 refine callsIn_wide.1 (callsIn_of_wp_marks (n:=0) hf hb trivial (wpIn_mono (h C ⟨⟨rfl,rfl⟩,fun _ h=>h,fun k hk=>⟨_,by show (if keyIn L k then some (p.β k,p.γ k) else none) = _; rw [if_pos hk],fun b hb=>⟨k,hb⟩⟩⟩ _ w ⟨p,hs⟩) ?_))
 rintro e a' w' ⟨s',⟨p',hs'⟩,hq⟩
 have fin : ∀ (a' : Act) (w' : World) (_ : SR C p' s' a' w'),resM P L s' fn.results.toList rs ∧ mfin L s'.rows L L' → ∃ v,(results fn a'.tmps).run P w' = .ok v w' ∧ ∃ v' R',Ending.returned v = .returned v' ∧ (w'.os = w.os ∧ w'.tape = w.tape ∧ w'.output = w.output ∧ w.heap.size ≤ w'.heap.size) ∧
  (∀ k,k < w.heap.size → (∀ j,p.β j ≠ some k) → w'.heap[k]? = w.heap[k]?) ∧ (∀ b,p.R b → R' b) ∧ (∀ b,R' b → p.R b ∨ w.heap.size ≤ b) ∧ (∀ b,R' b → b < w'.heap.size) ∧
  (∀ k,rowRel w' { p with R:=R' } (fun _=>0) k (lookc L' k)) ∧ r.rel w' { p with R:=R' } (fun _=>0) v':=fun a' w' hs' ⟨hres,hm⟩=>by
  have hpin : ∀ k,keyIn L k = true → p'.β k = p.β k ∧ p'.γ k = p.γ k ∧ s'.ver k = 0:=fun k hk=>by
   obtain ⟨h1,h2,h3,_⟩:=hs'.pn k (p.β k,p.γ k) (by show (if keyIn L k then some (p.β k,p.γ k) else none) = _; rw [if_pos hk])
   exact ⟨h1,h2,h3⟩
  have hnew : ∀ j b,j < 1000 → p'.β j = some b → w.heap.size ≤ b:=fun j b hj hb=>by
   rcases (hs'.bl j b hb).2.2.imp id (fun h=>h.resolve_right fun h=>h) with h1 | ⟨_,k,hk⟩
   · exact h1
   · exfalso
     cases hkk : keyIn L k with
     | true =>
       have h2:=(hpin k hkk).1.trans hk
       have:=hs'.ij j k b hb h2
       have:=(pinned_ge hL hkk).1
       omega
     | false =>
       have h2:=hrows k
       rw [lookc_not hkk] at h2
       simp only [rowRel] at h2
       rw [h2.1] at hk; cases hk
  obtain ⟨v,hv,hrel⟩:=run_resM (p0:=p) hs' hpin (R':=fun b=>p'.R b ∨ ∃ j,j < 1000 ∧ p'.β j = some b) (fun _ h=>.inl h) (fun j b hj hb=>.inr ⟨j,hj,hb⟩) hres
  rw [hr] at hrel
  refine ⟨v,hv,v,fun b=>p'.R b ∨ ∃ j,j < 1000 ∧ p'.β j = some b,rfl,⟨hs'.base.os,hs'.base.tape,hs'.base.output,hs'.base.size⟩,fun k hk hn=>hs'.base.block k hk (fun ⟨j,hj⟩=>hn j hj) (fun h=>h),fun b hb=>.inl (hs'.r0 b hb),fun b hb=>?_,fun b hb=>?_,fun k=>?_,hrel⟩
  · rcases hb with hb | ⟨j,hj,hb⟩
    · exact (hs'.rn b hb).imp id (fun h=>h.resolve_right fun h=>h)
    · exact .inr (hnew j b hj hb)
  · rcases hb with hb | ⟨j,hj,hb⟩
    · exact hs'.rb b hb
    · exact (hs'.bl j b hb).1
  · obtain ⟨g1,g2⟩:=mfin_get hm
    cases hk : keyIn L k with
    | false =>
      rw [g2 k hk]
      have h2:=hrows k
      rw [lookc_not hk] at h2
      simp only [rowRel] at h2 ⊢
      exact h2
    | true =>
      obtain ⟨q1,q2,q3⟩:=g1 k hk
      obtain ⟨h1,h2,h3⟩:=hpin k hk
      rw [q3]
      have hr:=hs'.rw k
      have hR1 : ∀ b,p'.R b → (p'.R b ∨ ∃ j,j < 1000 ∧ p'.β j = some b):=fun _ h=>.inl h
      cases hcc : (s'.rows k).c with
      | box cs =>
        rw [hcc] at hr q2
        simp only [rowRel] at hr
        simp only [frzC,rowRel]
        obtain ⟨b,cells,t,e1,e2,e3,e4⟩:=hr
        exact ⟨b,cells,t,h1.symm.trans e1,e2,frz_relV (p0:=p) hs' hpin hR1 (fun j b hj hb=>.inr ⟨j,hj,hb⟩) q2 e3,e4⟩
      | arr t sz es =>
        rw [hcc] at hr
        simp only [rowRel] at hr
        simp only [frzC,rowRel]
        rw [h1,h2] at hr
        refine hr.imp id ?_
        rintro ⟨b,cells,e1,e2,e3,e4,e5⟩
        exact ⟨b,cells,e1,e2,e3,e4,RV.relE_mono hR1 (fun _ _=>rfl) _ _ _ _ (fun _=>rfl) e5⟩
      | mp m =>
        rw [hcc] at hr
        simp only [rowRel] at hr
        simp only [frzC,rowRel]
        rw [h1] at hr
        obtain ⟨b,e1,e2⟩:=hr
        exact ⟨b,e1,mapRel_mono hR1 (fun _ _=>rfl) rfl e2⟩
      | mem Φ =>
        rw [hcc] at hr
        simp only [rowRel] at hr
        simp only [frzC,rowRel]
        rw [h1] at hr
        obtain ⟨m,b,e0,e1,e2⟩:=hr
        exact ⟨m,b,e0,e1,mapRel_mono hR1 (fun _ _=>rfl) rfl e2⟩
      | _=>rw [hcc] at q1; simp [okC] at q1
 subst hres
 cases e with
 | normal=>exact hs'.leave fun a'' w'' _ hs''=>fin a'' w'' hs'' hq
 | ret=>exact hs'.leave fun a'' w'' _ hs''=>fin a'' w'' hs'' hq
 | _=>exact hq.elim
theorem mcalls_stR {f : FuncId} {fn : Func} {c : Code} {n : Nat} {rs : List AV} {r : AV} {args : List AV} (L L' : List (Nat × RowC)) (res : List ResultVar) (hf : P.funcs[f]? = some fn) (hb : fn.body = some c) (hc : callable P f = true) (hn : fn.ntmps = n) (hres : fn.results.toList = res)
 (hargs : args.length ≤ n) (hr : resMV rs = r) (hL : pinned L = true) (h : ∀ C : Ctx,C.rd = none ∧ C.X = XS.none → awp P C c (mpostL P res rs L L') (st n (argA 0 args) (fun _=>0) L)) : MCalls P f L L' args r:=mcalls_stO L L' res hf hb hc hn hres hargs hr hL fun C hC=>h C hC.1
theorem mcalls_st {f : FuncId} {fn : Func} {c : Code} {n : Nat} {rs : List AV} {r : AV} {args : List AV} (L L' : List (Nat × RowC)) (res : List ResultVar) (hf : P.funcs[f]? = some fn) (hb : fn.body = some c) (hc : callable P f = true) (hn : fn.ntmps = n) (hres : fn.results.toList = res)
 (hargs : args.length ≤ n) (hr : resMV rs = r) (hL : pinned L = true) (h : ∀ C,awp P C c (mpostL P res rs L L') (st n (argA 0 args) (fun _=>0) L)) : MCalls P f L L' args r:=mcalls_stR L L' res hf hb hc hn hres hargs hr hL fun C _=>h C
end
def resC (r : Res) (K : AV → Prop) : Prop:=r.pre ∧ K r.y.av
def opostL (P : Program) (rv : ResultVar) (t sz : Nat) (es : List (List RV)) (m : Nat) : Exit → AS → Prop
 | .normal,s=>resC (resA P s rv) fun v=>∃ j n,v = .os j n sz 0 m ∧ s.rows j = ⟨n,.arr t sz es⟩
 | .ret,s=>resC (resA P s rv) fun v=>∃ j n,v = .os j n sz 0 m ∧ s.rows j = ⟨n,.arr t sz es⟩
 | _,_=>False
theorem opostL_ret {P : Program} {rv : ResultVar} {t sz m : Nat} {es : List (List RV)} {s : AS} : opostL P rv t sz es m .ret s = resC (resA P s rv) fun v=>∃ j n,v = .os j n sz 0 m ∧ s.rows j = ⟨n,.arr t sz es⟩:=rfl
theorem opostL_normal {P : Program} {rv : ResultVar} {t sz m : Nat} {es : List (List RV)} {s : AS} : opostL P rv t sz es m .normal s = resC (resA P s rv) fun v=>∃ j n,v = .os j n sz 0 m ∧ s.rows j = ⟨n,.arr t sz es⟩:=rfl
theorem resA_tmp {P : Program} {t : Nat} {s : AS} : resA P s (.tmp t) = .val (s.tm t):=rfl
theorem resA_cell {P : Program} {t a : Nat} {s : AS} : resA P s (.cell a t) = sLoad P s t (s.tm a):=rfl
theorem flat_relC {w : World} {R R' : Nat → Prop} : ∀ (xs : List RV) (ad : Addr) (j : Nat),RV.flatL xs = true → RV.relC w R xs ad j → RV.relC w R' xs ad j
 | [],_,_,_,_=>by simp [RV.relC]
 | x :: xs, ad, j, hf, h => by
   simp only [RV.flatL,Bool.and_eq_true] at hf
   simp only [RV.relC] at h ⊢
   obtain ⟨⟨u,h1,h2,h3⟩,h4⟩:=h
   exact ⟨⟨u,h1,h2,flat_rel x u hf.1 h3⟩,flat_relC xs ad (j + 1) hf.2 h4⟩
theorem flat_relE {w : World} {R R' : Nat → Prop} {sz : Nat} : ∀ (es : List (List RV)) (ad : Addr) (j : Nat),(∀ e ∈ es,RV.flatL e = true) → RV.relE w R sz es ad j → RV.relE w R' sz es ad j
 | [],_,_,_,_=>by simp [RV.relE]
 | e :: es, ad, j, hf, h => by
   simp only [RV.relE] at h ⊢
   exact ⟨h.1,flat_relC e ad j (hf e (by simp)) h.2.1,flat_relE es ad (j + sz) (fun x hx=>hf x (by simp [hx])) h.2.2⟩
theorem ocalls_0R {P : Program} {f : FuncId} {fn : Func} {c : Code} {n : Nat} {args : List RV} {t sz m : Nat} {es : List (List RV)} (rv : ResultVar) (hf : P.funcs[f]? = some fn) (hb : fn.body = some c) (hc : callable P f = true) (hn : fn.ntmps = n) (hres : fn.results.toList = [rv]) (hargs : args.length ≤ n)
 (hfl : ∀ e ∈ es,RV.flatL e = true) (h : ∀ C : Ctx,C.rd = none ∧ C.X = XS.none → awp P C c (opostL P rv t sz es m) (st n (argL 0 args) (fun _=>0) [])) : OCalls P f args t sz es m:=by
 refine ⟨hc,fun w R vs hR hV=>?_⟩
 have hlen:=RV.relV_length hV
 simp only [Array.length_toList] at hlen
 let C : Ctx:={ w0:=w,R0:=R,bor:=fun _=>False,pin:=fun _=>none }
 let p : Plan:={ R:=R,β:=fun _=>none,γ:=fun _=>1 }
 have hs : SR C p (st n (argL 0 args) (fun _=>0) []) { tmps:=vs ++ Array.replicate (fn.ntmps - vs.size) undef,defers:=[] } w:={
  base:=⟨rfl,rfl,rfl,Nat.le_refl _,fun _ _ _ _=>rfl⟩
  r0:=fun _ h=>h
  rn:=fun _ h=>.inl h
  rb:=hR
  tm:=fun t=>by
   show (look (argL 0 args) t).rel _ _ _ _
   by_cases hmem : ∃ x,(t,x) ∈ argL 0 args
   · cases e : args[t]? with
     | none =>
       obtain ⟨x,hx⟩:=hmem
       obtain ⟨i,y,h1,h2⟩:=argL_mem _ hx
       simp only [Nat.zero_add,Prod.mk.injEq] at h1
       rw [← h1.1,e] at h2; cases h2
     | some x =>
       obtain ⟨u,hu,hx⟩:=RV.relV_get hV e
       have : (vs ++ Array.replicate (fn.ntmps - vs.size) undef).getD t undef = u:=by
        have ht : t < vs.size:=by have:=(List.getElem?_eq_some_iff.1 hu).1; simpa using this
        rw [Array.getD_eq_getD_getElem?,Array.getElem?_append_left ht]
        simp only [Array.getElem?_toList] at hu
        rw [hu]; rfl
       have e2:=argL_look (k:=0) e
       rw [Nat.zero_add] at e2
       rw [this,e2]
       simpa only [AV.rel] using hx
   · rw [look_none hmem]
     exact AV.rel_un _ _ _ _
  sz:=by simp only [Array.size_append,Array.size_replicate,st]; omega
  ex:=ext_start (fun _ h=>h.elim (fun h=>h.elim) (fun h=>h.elim))
  rw:=fun k=>by simp [st,lookc_nil,rowRel,p]
  bl:=fun k b h=>by simp [p] at h
  ij:=fun k k' b h=>by simp [p] at h
  cap:=fun k=>by simp [p,maxLen]
  pn:=fun k x h=>by cases h
  lk:=fun j km n l cur h _=>by cases h }
 refine callsIn_wide.1 (callsIn_of_wp_marks (n:=0) hf hb trivial (wpIn_mono (h C ⟨rfl,rfl⟩ _ w ⟨p,hs⟩) ?_))
 rintro e a' w' ⟨s',⟨p',hs'⟩,hq⟩
 have fin : ∀ (a' : Act) (w' : World) (_ : SR C p' s' a' w'),(resC (resA P s' rv) fun v=>∃ j n,v = .os j n sz 0 m ∧ s'.rows j = ⟨n,.arr t sz es⟩) → ∃ v,(results fn a'.tmps).run P w' = .ok v w' ∧ ∃ v' β g,Ending.returned v = .returned v' ∧ Below w.heap.size w w' ∧ g ≤ maxLen ∧ (∀ b,β = some b → w.heap.size ≤ b ∧ b < w'.heap.size) ∧
  ((β = none ∧ es = [] ∧ g = 0 ∧ m = 0 ∧ ∃ A, v' = .slice A 0 0) ∨
    ∃ b cells A,β = some b ∧ w'.heap[b]? = some (.cells cells t (0,0)) ∧ cells.size = g * sz ∧ es.length ≤ g ∧ RV.relE w' (fun _=>False) sz es ⟨b,0,none⟩ 0 ∧ v' = .slice A m g ∧ m ≤ g ∧ A = some ⟨b,0,none⟩):=fun a' w' hs' ⟨hp,j,n',hv,hj⟩=>by
  obtain ⟨u,hu,hrel⟩:=run_result hs' rv hp
  rw [hv] at hrel
  have hm : (fn.results.mapM (resOp a'.tmps)).run P w' = .ok #[u] w':=by
   rw [Array.mapM_eq_mapM_toList,hres]
   simp only [Sem.run_map,List.mapM_cons,List.mapM_nil,Sem.run_bind,hu,Result.andThen_ok,Sem.run_pure]
  refine ⟨u,by rw [results_eq,Sem.run_bind,hm]; simp,u,p'.β j,p'.γ j,rfl,⟨hs'.base.os,hs'.base.tape,hs'.base.output,hs'.base.size,fun k hk=>hs'.base.block k hk (fun h=>h) (fun h=>h)⟩,hs'.cap j,fun b hb=>⟨(hs'.bl j b hb).2.2.resolve_right (fun h=>h.elim (fun h=>h.2) fun h=>h),(hs'.bl j b hb).1⟩,?_⟩
  have hrow:=hs'.rw j
  rw [hj] at hrow
  simp only [rowRel] at hrow
  simp only [AV.rel] at hrel
  rcases hrel.2 (by show n' = (s'.rows j).ver; rw [hj]) with ⟨h1,h2,_,h3,A,h4⟩ | ⟨b,A,h1,h2,h3,h4⟩
  · refine .inl ⟨h1,?_,h2,h3,A,h4⟩
    rcases hrow with ⟨_,h5,_⟩ | ⟨b,_,h5,_⟩
    · exact h5
    · rw [h1] at h5; cases h5
  · rcases hrow with ⟨h5,_⟩ | ⟨b',cells,h5,h6,h7,h8,h9⟩
    · rw [h1] at h5; cases h5
    · rw [h1] at h5
      injection h5 with h5
      subst h5
      exact .inr ⟨b,cells,A,h1,h6,h7,h8,flat_relE es _ 0 hfl h9,by simpa using h2,by omega,by simpa using h4 (.inr trivial)⟩
 cases e with
 | normal=>exact hs'.leave fun a'' w'' _ hs''=>fin a'' w'' hs'' hq
 | ret=>exact hs'.leave fun a'' w'' _ hs''=>fin a'' w'' hs'' hq
 | _=>exact hq.elim
theorem ocalls_0 {P : Program} {f : FuncId} {fn : Func} {c : Code} {n : Nat} {args : List RV} {t sz m : Nat} {es : List (List RV)} (rv : ResultVar) (hf : P.funcs[f]? = some fn) (hb : fn.body = some c) (hc : callable P f = true) (hn : fn.ntmps = n) (hres : fn.results.toList = [rv]) (hargs : args.length ≤ n)
 (hfl : ∀ e ∈ es,RV.flatL e = true) (h : ∀ C,awp P C c (opostL P rv t sz es m) (st n (argL 0 args) (fun _=>0) [])) : OCalls P f args t sz es m:=ocalls_0R rv hf hb hc hn hres hargs hfl fun C _=>h C
theorem ocalls_st {P : Program} {f : FuncId} {fn : Func} {c : Code} {n : Nat} {args : List RV} {t sz m : Nat} {es : List (List RV)} (rv : ResultVar) (hf : P.funcs[f]? = some fn) (hb : fn.body = some c) (hc : callable P f = true) (hn : fn.ntmps = n) (hres : fn.results.toList = [rv]) (hargs : args.length ≤ n)
 (hfl : ∀ e ∈ es,RV.flatL e = true) (h : ∀ C vs,awp P C c (opostL P rv t sz es m) (st n (argL 0 args) vs [])) : OCalls P f args t sz es m :=
 ocalls_0 rv hf hb hc hn hres hargs hfl fun C=>h C _
theorem resC_when {c : Prop} {v : AV} {K : AV → Prop} : resC (.when c v) K ↔ c ∧ K v:=Iff.rfl
theorem resM_nil {P : Program} {ks : List (Nat × RowC)} {s : AS} : resM P ks s [] [] ↔ True:=by simp [resM]
theorem resM_tmp {P : Program} {ks : List (Nat × RowC)} {s : AS} {t : Nat} {us : List ResultVar} {r : AV} {rs : List AV} : resM P ks s (.tmp t :: us) (r :: rs) ↔ frzP1 ks s.rows (s.tm t) ∧ frz1 ks s.rows (s.tm t) = r ∧ resM P ks s us rs:=by
 simp only [resM,resA,Res.val,List.cons.injEq]
 constructor
 · rintro ⟨_,h1,_,⟨rfl,rfl⟩,h3⟩; exact ⟨h1,rfl,h3⟩
 · rintro ⟨h1,rfl,h3⟩; exact ⟨trivial,h1,_,⟨rfl,rfl⟩,h3⟩
theorem resM_cell {P : Program} {ks : List (Nat × RowC)} {s : AS} {t a : Nat} {us : List ResultVar} {r : AV} {rs : List AV} : resM P ks s (.cell a t :: us) (r :: rs) ↔ resC (sLoad P s t (s.tm a)) (fun v=>frzP1 ks s.rows v ∧ frz1 ks s.rows v = r) ∧ resM P ks s us rs:=by
 simp only [resM,resA,resC,List.cons.injEq]
 constructor
 · rintro ⟨h0,h1,_,⟨rfl,rfl⟩,h3⟩; exact ⟨⟨h0,h1,rfl⟩,h3⟩
 · rintro ⟨⟨h0,h1,rfl⟩,h3⟩; exact ⟨h0,h1,_,⟨rfl,rfl⟩,h3⟩
theorem resC_val {v : AV} {K : AV → Prop} : resC (.val v) K ↔ K v:=by simp [resC,Res.val]
theorem resOk_nil {P : Program} {s : AS} : resOk P s [] [] ↔ True:=by simp [resOk]
theorem resOk_tmp {P : Program} {s : AS} {t : Nat} {us : List ResultVar} {r : RV} {rs : List RV} : resOk P s (.tmp t :: us) (r :: rs) ↔ snapP s.rows (s.tm t) ∧ RV.le (snapV s.rows (s.tm t)) r ∧ resOk P s us rs:=by
 simp only [resOk,resA,Res.val,List.cons.injEq]
 constructor
 · rintro ⟨_,h1,_,_,⟨rfl,rfl⟩,h2,h3⟩; exact ⟨h1,h2,h3⟩
 · rintro ⟨h1,h2,h3⟩; exact ⟨trivial,h1,_,_,⟨rfl,rfl⟩,h2,h3⟩
theorem resOk_cell {P : Program} {s : AS} {t a : Nat} {us : List ResultVar} {r : RV} {rs : List RV} : resOk P s (.cell a t :: us) (r :: rs) ↔ resC (sLoad P s t (s.tm a)) (fun v=>snapP s.rows v ∧ RV.le (snapV s.rows v) r) ∧ resOk P s us rs:=by
 simp only [resOk,resA,resC,List.cons.injEq]
 constructor
 · rintro ⟨h0,h1,_,_,⟨rfl,rfl⟩,h2,h3⟩; exact ⟨⟨h0,h1,h2⟩,h3⟩
 · rintro ⟨⟨h0,h1,h2⟩,h3⟩; exact ⟨h0,h1,_,_,⟨rfl,rfl⟩,h2,h3⟩
theorem fpostL_normal {P : Program} {s : AS} {us : List ResultVar} {rs : List RV} : fpostL P us rs .normal s = resOk P s us rs:=rfl
theorem fpostL_ret {P : Program} {s : AS} {us : List ResultVar} {rs : List RV} : fpostL P us rs .ret s = resOk P s us rs:=rfl
theorem andThen_normal {K : AS → Prop} {Q : Exit → AS → Prop} {s : AS} : andThen K Q .normal s = K s:=rfl
theorem andThen_ret {K : AS → Prop} {Q : Exit → AS → Prop} {s : AS} : andThen K Q .ret s = Q .ret s:=rfl
theorem andThen_exit {K : AS → Prop} {Q : Exit → AS → Prop} {s : AS} {i : Nat} : andThen K Q (.exit i) s = Q (.exit i) s:=rfl
theorem inBlk_normal {Q : Exit → AS → Prop} {s : AS} {i : Nat} : inBlk i Q .normal s = Q .normal s:=rfl
theorem inBlk_ret {Q : Exit → AS → Prop} {s : AS} {i : Nat} : inBlk i Q .ret s = Q .ret s:=rfl
theorem inBlk_exit {Q : Exit → AS → Prop} {s : AS} {i j : Nat} : inBlk i Q (.exit j) s = if j = i then Q .normal s else Q (.exit j) s:=rfl
theorem le_bo {a b : Bool} : RV.le (.bo a) (.bo b) ↔ a = b:=by simp [RV.le]
theorem le_it {k : IntKind} {a b : Int} : RV.le (.it k a) (.it k b) ↔ a = b:=by simp [RV.le]
theorem le_ns {sz : Nat} {es : List (List RV)} : RV.le .ns (.sl sz es) ↔ es = []:=by simp [RV.le]
theorem le_sls {sz : Nat} {es es' : List (List RV)} : RV.le (.sl sz es) (.sl sz es') ↔ es = es':=by simp [RV.le]
theorem le_ag {xs ys : List RV} : RV.le (.ag xs) (.ag ys) ↔ RV.leL xs ys:=by simp [RV.le]
theorem leL_nil : RV.leL [] [] ↔ True:=by simp [RV.leL]
theorem leL_cons {x y : RV} {xs ys : List RV} : RV.leL (x :: xs) (y :: ys) ↔ RV.le x y ∧ RV.leL xs ys:=by simp [RV.leL]
theorem le_nsns : RV.le .ns .ns ↔ True:=by simp [RV.le]
theorem le_np : RV.le .np .np ↔ True:=by simp [RV.le]
theorem le_of_eq {x y : RV} (h : x = y) : RV.le x y:=h ▸ leL_refl.le_refl x
end
end Go.Oc

namespace Go.Oc
open Go Go.RowKit
theorem zI {n : Int} (h1 : -9223372036854775808 ≤ n) (h2 : n ≤ 9223372036854775807) : IntKind.i64.wrap n = n:=by
 unfold IntKind.wrap
 simp only [IntKind.bits,IntKind.signed,Bool.true_and]
 split <;> rename_i h <;> simp only [ge_iff_le,decide_eq_true_eq] at h <;> omega
theorem getD_map_opt {α : Type} {f : α → List RV} {l : List α} {i : Nat} : (l.map f).getD i [] = match l[i]? with | some x=>f x | none=>[]:=by
 rw [List.getD_eq_getElem?_getD,List.getElem?_map]
 cases l[i]? <;> rfl
abbrev i64 (n : Int) : RV:=.it .i64 n
abbrev ints (l : List Int) : RV:=.sl 1 (l.map fun x=>[.it .i64 x])
theorem mem_of_opt {α : Type} {l : List α} {i : Nat} {x : α} (h : l[i]? = some x) : x ∈ l:=List.mem_of_getElem? h
theorem drop_of_opt {α : Type} {l : List α} {i : Nat} {x : α} (h : l[i]? = some x) : l.drop i = x :: l.drop (i + 1):=by
 obtain ⟨hi,rfl⟩:=List.getElem?_eq_some_iff.1 h
 exact List.drop_eq_getElem_cons hi
theorem take_of_opt {α : Type} {l : List α} {i : Nat} {x : α} (h : l[i]? = some x) : l.take (i + 1) = l.take i ++ [x]:=by
 obtain ⟨hi,rfl⟩:=List.getElem?_eq_some_iff.1 h
 exact List.take_succ_eq_append_getElem hi
theorem opt_of_lt {α : Type} {l : List α} {i : Nat} (h : i < l.length) : ∃ x,l[i]? = some x:=⟨l[i],List.getElem?_eq_getElem h⟩
theorem snapVL_ro {rows : Nat → Row} : ∀ l : List RV,snapVL rows (l.map .r) = l
 | []=>by simp only [List.map_nil,snapVL]
 | x :: l=>by simp only [List.map_cons,snapVL,snapV,snapVL_ro l]
theorem snapPL_ro {rows : Nat → Row} : ∀ l : List RV,snapPL rows (l.map .r) ↔ True
 | []=>by simp only [List.map_nil,snapPL]
 | x :: l=>by simp only [List.map_cons,snapPL,snapP,snapPL_ro l,true_and]
theorem take_map_len {α β : Type} {f : α → β} {l : List α} : (l.map f).take l.length = l.map f:=List.take_of_length_le (by simp)
theorem toNat_add1 {n : Nat} : ((n : Int) + 1).toNat = n + 1:=rfl
def indexF {α : Type} (p : α → Bool) : List α → Int
 | []=>-1
 | x :: l=>if p x then 0 else if indexF p l < 0 then -1 else indexF p l + 1
theorem indexF_any {α : Type} (p : α → Bool) : ∀ l : List α,decide (indexF p l ≥ 0) = l.any p
 | []=>rfl
 | x :: l => by
   have ih:=indexF_any p l
   unfold indexF
   cases h : p x
   · simp only [Bool.false_eq_true,if_false,List.any_cons,h,Bool.false_or,← ih]
     split
     · rename_i h1
       have : ¬ indexF p l ≥ 0:=by omega
       simp [this]
     · rename_i h1
       have : indexF p l ≥ 0:=by omega
       have h2 : indexF p l + 1 ≥ 0:=by omega
       simp only [this,h2]
   · simp [h]
theorem indexF_ge {α : Type} (p : α → Bool) : ∀ l : List α,-1 ≤ indexF p l
 | []=>by simp [indexF]
 | x :: l => by
   have:=indexF_ge p l
   unfold indexF
   split
   · omega
   · split <;> omega
open Go
attribute [go_sem] reduceIte reduceCtorEq Nat.reduceEqDiff Nat.reduceAdd Nat.reduceSub Nat.reduceMul Nat.reduceLeDiff Nat.reduceLT Int.reduceToNat Int.reduceLE Int.reduceLT Int.reduceMul Int.reduceAdd Int.reduceSub Int.reduceNeg Int.reduceEq Int.reduceNe
attribute [go_sem] aops_nil aops_cons aops_guard gslot_zero gslot_succ gA_some gB_tt gB_ff gB_tf gB_ft gB_ud gB_bo aop_move aop_assign aop_pick aop_bin aop_un aop_conv aop_load aop_store aop_box aop_alloc aop_fieldAddr aop_field aop_indexAddr aop_index aop_slice aop_build aop_buildSlice aop_makeSlice aop_makeFunc aop_extract aop_nil aop_len aop_min aop_max aop_append aop_cap aop_clear sAppendZ sCap sClear sSlice3 lenA rowLen aop_call aop_next aop_makeMap aop_lookup aop_mapUpdate aop_mapEntry aop_entryStore sMapEntry sEntryStore bornAt aop_range aop_entry sNext sMakeMap sLookup sMapUpdate sRange sEntry mapOf valR agR sEq cmpL cmpB sameK findK keyOk allIt List.length_cons List.length_nil row_st verf_st lendA lendL lendC lendOk lendKey backA backL backC backCs pinOf aR_when aR_val aR_bad aR_mk aF_false aF_true evs evp upd_app put_st put_none app_val app_st evt_st tm_st rows_st ver_st n_st ins insc delc look_nil look_cons lookc_nil lookc_cons keepL killV killC argL allEq cond_true cond_false ev_const ev_func sPick pickA sBin sUn sConv sLoad sStore sBox sAlloc sField sFieldV sPart sIndex sIndexV sSlice sSliceA chunk bound sBuild lay sBuildSlice layE sMakeSlice news? sAppend sLen minA minF maxA maxF sMinMax sExtract sNil RV.flat1 AV.cells? roL cutR cutA need RV.ofV RV.ofV1
attribute [go_sem] opostL_normal opostL_ret resA_tmp resA_cell mpostL_normal mpostL_ret resM_nil resM_tmp resM_cell mfin frzC frzPC frzL frzPL frz1 frzP1 keyIn okC argA resC_when resC_val resOk_nil resOk_tmp resOk_cell fpostL_normal fpostL_ret andThen_normal andThen_ret andThen_exit inBlk_normal inBlk_ret inBlk_exit le_bo le_it le_ns le_sls le_ag leL_nil leL_cons le_nsns le_np snapV snapVL snapP snapPL snap1V snap1P snap1PL
attribute [go_sem] Bool.false_eq_true Bool.not_false Bool.not_true Bool.true_eq_false Int.le_refl List.append_nil List.cons_append List.drop_succ_cons List.drop_zero List.getElem?_cons_succ List.getElem?_cons_zero List.headD_cons List.length_cons List.length_nil List.map_cons List.map_nil List.nil_append List.replicate_succ List.replicate_zero List.set_cons_succ List.set_cons_zero List.take_succ_cons List.take_zero Nat.add_zero Nat.le_refl Nat.zero_add Nat.zero_le Option.bind_some Option.getD_none Option.getD_some Option.isSome_some Option.map_none Option.map_some Option.some.injEq and_false and_true decide_false decide_true eq_self false_and false_imp_iff forall_const ite_false ite_true true_and true_imp_iff
attribute [go_sem] not_false_eq_true not_true_eq_false toNat_add1 Nat.sub_zero beq_iff_eq beq_eq_false_iff_ne List.length_drop List.length_take upd_self List.drop_replicate Nat.add_sub_cancel_left take_map_len List.getD_cons_zero List.getD_cons_succ true_or or_true false_or or_false List.length_replicate Int.sub_zero Int.add_zero Int.zero_add getD_map_opt snapVL_ro snapPL_ro Int.ofNat_lt Int.ofNat_le Int.toNat_natCast Int.natCast_nonneg Int.natCast_add Int.cast_ofNat_Int Int.natCast_zero Int.natCast_one List.length_map List.mem_cons ge_iff_le gt_iff_lt decide_eq_true_eq decide_eq_false_iff_not AV.r.injEq RV.it.injEq RV.bo.injEq RV.sl.injEq
end Go.Oc

namespace Go.Proofs.Ytlljkgiomkmjbaa.Tm
open Go Go.Oc
set_option linter.unusedSimpArgs false
set_option linter.unusedVariables false
set_option maxRecDepth 8000
theorem within1_ok (n a b : Int) : ACalls Try.prog 193 [i64 n,.rp [i64 a],.rp [i64 b]] (.bo (decide (n < a) || decide (b < n))):=by
 refine acalls_st (rs:=[.bo (decide (n < a) || decide (b < n))]) [.tmp 4] Try.func193 rfl (by kernel_rfl) Try.ntmps193 rfl (by simp) rfl fun C vs=>?_
 repeat refine zq ?_
 refine zb fun K hK=>?_;simp only [go_sem];(try simp (disch:=omega) only [zI]);repeat first | intro _ | refine ⟨by omega,?_⟩
 refine hK _ ?_;clear hK K
 repeat refine zq ?_
 refine zb fun K hK=>?_;simp only [go_sem];(try simp (disch:=omega) only [zI])
 refine ⟨fun h=>?_,fun h=>?_⟩ <;>
 · repeat first | intro _ | refine ⟨by omega,?_⟩
   refine hK _ ?_;clear hK K;refine ze ?_;simp only [go_sem]
   try simp [h]
theorem index_ok (p : Int → Bool) (f : Nat) (caps : List RV) (l : List Int) (h : ∀ x ∈ l,ACalls Try.prog f (i64 x :: caps) (.bo (p x))) : ACalls Try.prog 160 [ints l,.fn f caps] (i64 (indexF p l)):=by
 refine acalls_st (rs:=[i64 (indexF p l)]) [.tmp 4] Try.func160 rfl (by kernel_rfl) Try.ntmps160 rfl (by simp) rfl fun C vs=>?_
 repeat refine zq ?_
 refine zb fun K hK=>?_;simp only [go_sem];(try simp (disch:=omega) only [zI]);repeat first | intro _ | refine ⟨by omega,?_⟩
 refine hK _ ?_;clear hK K
 repeat refine zq ?_
 refine zb fun K hK=>?_;simp only [go_sem];(try simp (disch:=omega) only [zI])
 intro hl
 repeat first | intro _ | refine ⟨by omega,?_⟩
 refine hK _ ?_;clear hK K
 repeat refine zq ?_
 refine zd ?_
 refine awp_upto (n:=19) l.length (fun i vs=>[(0,.r (ints l)),(1,.r (.fn f caps)),(7,.r (i64 l.length)),(8,.r (i64 i))]) (fun _=>[])
  (fun i=>indexF p l = if indexF p (l.drop i) < 0 then -1 else i + indexF p (l.drop i)) 0 (fit_of [] ?_ rfl) (Nat.zero_le _) ?_ ?_
 · try simp only [go_sem]
 · simp only [List.drop_zero]
   have:=indexF_ge p l
   split
   · omega
   · simp
 · intro i vs hi hI
   repeat refine zq ?_
   refine zb fun K hK=>?_;simp only [go_sem];(try simp (disch:=omega) only [zI]);repeat first | intro _ | refine ⟨by omega,?_⟩
   refine hK _ ?_;clear hK K
   repeat refine zq ?_
   refine zc rfl (fun hc=>?_) (fun hc=>?_) <;> (try simp only [go_sem] at hc)
   · obtain ⟨x,hx⟩:=opt_of_lt hc
     rw [drop_of_opt hx] at hI
     refine zx ?_
     repeat refine zq ?_
     refine zd ?_
     repeat refine zq ?_
     refine zb fun K hK=>?_;simp only [go_sem];(try simp (disch:=omega) only [zI]);repeat first | intro _ | refine ⟨by omega,?_⟩
     refine hK _ ?_;clear hK K
     repeat refine zq ?_
     refine zb fun K hK=>?_;simp only [go_sem,hx,hc];(try simp (disch:=omega) only [zI])
     refine zh (h x (mem_of_opt hx)) rfl (by simp only [go_sem,i64,ints]) (by simp only [go_sem,i64,ints]) (by first | exact .inl rfl | exact .inr rfl) ?_
     (try simp only [go_sem]);(try simp (disch:=omega) only [zI]);repeat first | intro _ | refine ⟨by omega,?_⟩
     refine hK _ ?_;clear hK K
     repeat refine zq ?_
     refine zc rfl (fun hc=>?_) (fun hc=>?_) <;> (try simp only [go_sem] at hc)
     · repeat refine zq ?_
       refine zb fun K hK=>?_;simp only [go_sem];(try simp (disch:=omega) only [zI]);repeat first | intro _ | refine ⟨by omega,?_⟩
       refine hK _ ?_;clear hK K;refine ze ?_;simp only [go_sem]
       simp [hI,indexF,hc]
     · refine zx ?_
       try simp only [go_sem]
       repeat refine zq ?_
       refine zb fun K hK=>?_;simp only [go_sem];(try simp (disch:=omega) only [zI]);repeat first | intro _ | refine ⟨by omega,?_⟩
       refine hK _ ?_;clear hK K
       try simp only [go_sem]
       refine ⟨‹_›,?_,fit_of [] ?_ rfl⟩
       · rw [hI]
         simp only [indexF,hc,Bool.false_eq_true,if_false]
         have:=indexF_ge p (l.drop (i + 1))
         (repeat' split) <;> omega
       · try simp only [go_sem]
   · refine zf ?_;simp only [go_sem]
     repeat refine zq ?_
     refine zb fun K hK=>?_;simp only [go_sem];(try simp (disch:=omega) only [zI]);repeat first | intro _ | refine ⟨by omega,?_⟩
     refine hK _ ?_;clear hK K;refine ze ?_;simp only [go_sem]
     have : l.drop i = []:=List.drop_eq_nil_of_le (by omega)
     simp [hI,this,indexF]
theorem contains_ok (p : Int → Bool) (f : Nat) (caps : List RV) (l : List Int) (h : ∀ x ∈ l,ACalls Try.prog f (i64 x :: caps) (.bo (p x))) : ACalls Try.prog 92 [ints l,.fn f caps] (.bo (l.any p)):=by
 refine acalls_st (rs:=[.bo (l.any p)]) [.tmp 4] Try.func92 rfl (by kernel_rfl) Try.ntmps92 rfl (by simp) rfl fun C vs=>?_
 repeat refine zq ?_
 refine zb fun K hK=>?_;simp only [go_sem];(try simp (disch:=omega) only [zI]);repeat first | intro _ | refine ⟨by omega,?_⟩
 refine hK _ ?_;clear hK K
 repeat refine zq ?_
 refine zb fun K hK=>?_;simp only [go_sem];(try simp (disch:=omega) only [zI])
 refine zh (index_ok p f caps l h) rfl (by simp only [go_sem,i64,ints]) (by simp only [go_sem,i64,ints]) (by first | exact .inl rfl | exact .inr rfl) ?_
 (try simp only [go_sem]);(try simp (disch:=omega) only [zI]);repeat first | intro _ | refine ⟨by omega,?_⟩
 refine hK _ ?_;clear hK K;refine ze ?_;simp only [go_sem];rw [← indexF_any]
def withinL (a b : Int) (l : List Int) : Bool:=l.all fun n=>decide (a ≤ n) && decide (n ≤ b)
theorem withinL_not (a b : Int) (l : List Int) : (!(l.any fun n=>decide (n < a) || decide (b < n))) = withinL a b l:=by
 unfold withinL
 rw [List.not_any_eq_all_not]
 congr 1
 funext n
 by_cases h1 : n < a <;> by_cases h2 : b < n <;> simp [h1,h2] <;> omega
theorem within_ok (a b : Int) (l : List Int) : ACalls Try.prog 134 [i64 a,i64 b,ints l] (.bo (withinL a b l)):=by
 refine acalls_st (rs:=[.bo (withinL a b l)]) [.tmp 6] Try.func134 rfl (by kernel_rfl) Try.ntmps134 rfl (by simp) rfl fun C vs=>?_
 repeat refine zq ?_
 refine zb fun K hK=>?_;simp only [go_sem];(try simp (disch:=omega) only [zI]);repeat first | intro _ | refine ⟨by omega,?_⟩
 refine hK _ ?_;clear hK K
 repeat refine zq ?_
 refine zb fun K hK=>?_;simp only [go_sem];(try simp (disch:=omega) only [zI])
 refine zh (contains_ok (fun n=>decide (n < a) || decide (b < n)) 193 [.rp [i64 a],.rp [i64 b]] l fun x _=>within1_ok x a b) rfl (by simp only [go_sem,i64,ints]) (by simp only [go_sem,i64,ints]) (by first | exact .inl rfl | exact .inr rfl) ?_
 (try simp only [go_sem]);(try simp (disch:=omega) only [zI]);repeat first | intro _ | refine ⟨by omega,?_⟩
 refine hK _ ?_;clear hK K;refine ze ?_;simp only [go_sem];rw [← withinL_not]
theorem nan_ok (n : Int) : ACalls Try.prog 207 [i64 n] (.bo false):=by
 refine acalls_st (rs:=[.bo false]) [.tmp 2] Try.func207 rfl (by kernel_rfl) Try.ntmps207 rfl (by simp) rfl fun C vs=>?_
 repeat refine zq ?_
 refine zb fun K hK=>?_;simp only [go_sem];(try simp (disch:=omega) only [zI]);repeat first | intro _ | refine ⟨by omega,?_⟩
 refine hK _ ?_;clear hK K
 repeat refine zq ?_
 refine zb fun K hK=>?_;simp only [go_sem];(try simp (disch:=omega) only [zI]);repeat first | intro _ | refine ⟨by omega,?_⟩
 refine hK _ ?_;clear hK K;refine ze ?_;simp only [go_sem]
 simp
def tmul (a b : Int) : Int:=a * b % 2147483647
def tpow (a : Int) (n : Nat) : Int:=a ^ n % 2147483647
def tover (a b : Int) : Int:=tmul a (tpow b 2147483645)
def codeL : List Int → Int
 | []=>1
 | p :: q=>1 + p + 16 * q.sum
theorem sum_le (b : Int) : ∀ l : List Int,(∀ x ∈ l,0 ≤ x ∧ x ≤ b) → 0 ≤ l.sum ∧ l.sum ≤ b * l.length
 | [],_=>by simp
 | x :: l, h => by
   have h1:=h x (by simp)
   have h2:=sum_le b l fun y hy=>h y (by simp [hy])
   simp only [List.sum_cons,List.length_cons,Int.natCast_add,Int.mul_add]
   omega
def startV (s p l w : Int) : Int:=max l (s - p * max 0 w)
def startsL (s p l : Int) (a b : List Int) : Int × Int × Int :=
 if (withinL 2 1001 [s] && withinL 0 1001 [p] && withinL 2 s [l]) = false then (0,0,2)
 else if (decide (a.length = b.length) && withinL 1 2 [(a.length : Int)]) = false then (0,0,4)
 else if (withinL 0 99 a && withinL 0 99 b) = false then (0,0,2)
 else (startV s p l (b.sum - a.sum),startV s p l (a.sum - b.sum),0)
abbrev res3 (x : Int × Int × Int) : List RV:=[i64 x.1,i64 x.2.1,i64 x.2.2]
theorem withinL_one {a b n : Int} (h : withinL a b [n] = true) : a ≤ n ∧ n ≤ b:=by simpa [withinL] using h
theorem withinL_mem {a b : Int} {l : List Int} (h : withinL a b l = true) : ∀ x ∈ l,a ≤ x ∧ x ≤ b:=fun x hx=>by
 have:=List.all_eq_true.1 h x hx
 simpa using this
structure Game where
 pl : Int
 lg : Int
 pt : Int
abbrev gameC (g : Game) : List RV:=[i64 g.pl,i64 g.lg,i64 g.pt]
abbrev games (l : List Game) : RV:=.sl 3 (l.map gameC)
structure Rules where
 squad : Int
 gs : List Game
 most : Int
 bonus : Int
abbrev rulesC (r : Rules) : List RV:=[i64 r.squad,games r.gs,i64 r.most,i64 r.bonus]
def isGameB (squad : Int) (g : Game) : Bool:=withinL 1 (min 2 squad) [g.pl] && withinL 1 15 [g.lg] && withinL 0 99 [g.pt]
theorem isGame_ok (r : Rules) (g : Game) : ACalls Try.prog 133 [.ag (rulesC r),.ag (gameC g)] (.bo (isGameB r.squad g)):=by
 refine acalls_st (rs:=[.bo (isGameB r.squad g)]) [.tmp 4] Try.func133 rfl (by kernel_rfl) Try.ntmps133 rfl (by simp) rfl fun C vs=>?_
 repeat refine zq ?_
 refine zb fun K hK=>?_;simp only [go_sem];(try simp (disch:=omega) only [zI]);repeat first | intro _ | refine ⟨by omega,?_⟩
 refine hK _ ?_;clear hK K
 repeat refine zq ?_
 refine zb fun K hK=>?_;simp only [go_sem];(try simp (disch:=omega) only [zI])
 refine zh (within_ok 1 (min 2 r.squad) [g.pl]) rfl (by simp only [go_sem,i64,ints]) (by simp only [go_sem,i64,ints]) (by first | exact .inl rfl | exact .inr rfl) ?_
 (try simp only [go_sem]);(try simp (disch:=omega) only [zI])
 refine ⟨fun h1=>?_,fun h1=>?_⟩
 · refine zh (within_ok 1 15 [g.lg]) rfl (by simp only [go_sem,i64,ints]) (by simp only [go_sem,i64,ints]) (by first | exact .inl rfl | exact .inr rfl) ?_
   (try simp only [go_sem]);(try simp (disch:=omega) only [zI])
   refine ⟨fun h2=>?_,fun h2=>?_⟩
   · refine zh (within_ok 0 99 [g.pt]) rfl (by simp only [go_sem,i64,ints]) (by simp only [go_sem,i64,ints]) (by first | exact .inl rfl | exact .inr rfl) ?_
     (try simp only [go_sem]);(try simp (disch:=omega) only [zI]);repeat first | intro _ | refine ⟨by omega,?_⟩
     refine hK _ ?_;clear hK K;refine ze ?_;simp only [go_sem]
     simp [isGameB,h1,h2]
   · repeat first | intro _ | refine ⟨by omega,?_⟩
     refine hK _ ?_;clear hK K;refine ze ?_;simp only [go_sem]
     simp [isGameB,h1,h2]
 · repeat first | intro _ | refine ⟨by omega,?_⟩
   refine hK _ ?_;clear hK K;refine ze ?_;simp only [go_sem]
   simp [isGameB,h1]
theorem check1_ok (r : Rules) (g : Game) : ACalls Try.prog 132 [.ag (gameC g),.rp (rulesC r)] (.bo (!isGameB r.squad g)):=by
 refine acalls_st (rs:=[.bo (!isGameB r.squad g)]) [.tmp 3] Try.func132 rfl (by kernel_rfl) Try.ntmps132 rfl (by simp) rfl fun C vs=>?_
 repeat refine zq ?_
 refine zb fun K hK=>?_;simp only [go_sem];(try simp (disch:=omega) only [zI]);repeat first | intro _ | refine ⟨by omega,?_⟩
 refine hK _ ?_;clear hK K
 repeat refine zq ?_
 refine zb fun K hK=>?_;simp only [go_sem];(try simp (disch:=omega) only [zI])
 refine zh (isGame_ok r g) rfl (by simp only [go_sem,i64,ints]) (by simp only [go_sem,i64,ints]) (by first | exact .inl rfl | exact .inr rfl) ?_
 (try simp only [go_sem]);(try simp (disch:=omega) only [zI]);repeat first | intro _ | refine ⟨by omega,?_⟩
 refine hK _ ?_;clear hK K;refine ze ?_;simp only [go_sem]
theorem indexG_ok (p : Game → Bool) (f : Nat) (caps : List RV) (l : List Game) (h : ∀ x ∈ l,ACalls Try.prog f (.ag (gameC x) :: caps) (.bo (p x))) : ACalls Try.prog 194 [games l,.fn f caps] (i64 (indexF p l)):=by
 refine acalls_st (rs:=[i64 (indexF p l)]) [.tmp 4] Try.func194 rfl (by kernel_rfl) Try.ntmps194 rfl (by simp) rfl fun C vs=>?_
 repeat refine zq ?_
 refine zb fun K hK=>?_;simp only [go_sem];(try simp (disch:=omega) only [zI]);repeat first | intro _ | refine ⟨by omega,?_⟩
 refine hK _ ?_;clear hK K
 repeat refine zq ?_
 refine zb fun K hK=>?_;simp only [go_sem];(try simp (disch:=omega) only [zI])
 intro hl
 repeat first | intro _ | refine ⟨by omega,?_⟩
 refine hK _ ?_;clear hK K
 repeat refine zq ?_
 refine zd ?_
 refine awp_upto (n:=19) l.length (fun i vs=>[(0,.r (games l)),(1,.r (.fn f caps)),(7,.r (i64 l.length)),(8,.r (i64 i))]) (fun _=>[])
  (fun i=>indexF p l = if indexF p (l.drop i) < 0 then -1 else i + indexF p (l.drop i)) 0 (fit_of [] ?_ rfl) (Nat.zero_le _) ?_ ?_
 · try simp only [go_sem]
 · simp only [List.drop_zero]
   have:=indexF_ge p l
   split
   · omega
   · simp
 · intro i vs hi hI
   repeat refine zq ?_
   refine zb fun K hK=>?_;simp only [go_sem];(try simp (disch:=omega) only [zI]);repeat first | intro _ | refine ⟨by omega,?_⟩
   refine hK _ ?_;clear hK K
   repeat refine zq ?_
   refine zc rfl (fun hc=>?_) (fun hc=>?_) <;> (try simp only [go_sem] at hc)
   · obtain ⟨x,hx⟩:=opt_of_lt hc
     rw [drop_of_opt hx] at hI
     refine zx ?_
     repeat refine zq ?_
     refine zd ?_
     repeat refine zq ?_
     refine zb fun K hK=>?_;simp only [go_sem];(try simp (disch:=omega) only [zI]);repeat first | intro _ | refine ⟨by omega,?_⟩
     refine hK _ ?_;clear hK K
     repeat refine zq ?_
     refine zb fun K hK=>?_;simp only [go_sem,hx,hc];(try simp (disch:=omega) only [zI])
     refine zh (h x (mem_of_opt hx)) rfl (by simp only [go_sem,i64,ints]) (by simp only [go_sem,i64,ints]) (by first | exact .inl rfl | exact .inr rfl) ?_
     (try simp only [go_sem]);(try simp (disch:=omega) only [zI]);repeat first | intro _ | refine ⟨by omega,?_⟩
     refine hK _ ?_;clear hK K
     repeat refine zq ?_
     refine zc rfl (fun hc=>?_) (fun hc=>?_) <;> (try simp only [go_sem] at hc)
     · repeat refine zq ?_
       refine zb fun K hK=>?_;simp only [go_sem];(try simp (disch:=omega) only [zI]);repeat first | intro _ | refine ⟨by omega,?_⟩
       refine hK _ ?_;clear hK K;refine ze ?_;simp only [go_sem]
       simp [hI,indexF,hc]
     · refine zx ?_
       try simp only [go_sem]
       repeat refine zq ?_
       refine zb fun K hK=>?_;simp only [go_sem];(try simp (disch:=omega) only [zI]);repeat first | intro _ | refine ⟨by omega,?_⟩
       refine hK _ ?_;clear hK K
       try simp only [go_sem]
       refine ⟨‹_›,?_,fit_of [] ?_ rfl⟩
       · rw [hI]
         simp only [indexF,hc,Bool.false_eq_true,if_false]
         have:=indexF_ge p (l.drop (i + 1))
         (repeat' split) <;> omega
       · try simp only [go_sem]
   · refine zf ?_;simp only [go_sem]
     repeat refine zq ?_
     refine zb fun K hK=>?_;simp only [go_sem];(try simp (disch:=omega) only [zI]);repeat first | intro _ | refine ⟨by omega,?_⟩
     refine hK _ ?_;clear hK K;refine ze ?_;simp only [go_sem]
     have : l.drop i = []:=List.drop_eq_nil_of_le (by omega)
     simp [hI,this,indexF]
theorem containsG_ok (p : Game → Bool) (f : Nat) (caps : List RV) (l : List Game) (h : ∀ x ∈ l,ACalls Try.prog f (.ag (gameC x) :: caps) (.bo (p x))) : ACalls Try.prog 135 [games l,.fn f caps] (.bo (l.any p)):=by
 refine acalls_st (rs:=[.bo (l.any p)]) [.tmp 4] Try.func135 rfl (by kernel_rfl) Try.ntmps135 rfl (by simp) rfl fun C vs=>?_
 repeat refine zq ?_
 refine zb fun K hK=>?_;simp only [go_sem];(try simp (disch:=omega) only [zI]);repeat first | intro _ | refine ⟨by omega,?_⟩
 refine hK _ ?_;clear hK K
 repeat refine zq ?_
 refine zb fun K hK=>?_;simp only [go_sem];(try simp (disch:=omega) only [zI])
 refine zh (indexG_ok p f caps l h) rfl (by simp only [go_sem,i64,ints]) (by simp only [go_sem,i64,ints]) (by first | exact .inl rfl | exact .inr rfl) ?_
 (try simp only [go_sem]);(try simp (disch:=omega) only [zI]);repeat first | intro _ | refine ⟨by omega,?_⟩
 refine hK _ ?_;clear hK K;refine ze ?_;simp only [go_sem];rw [← indexF_any]
def rulesB (r : Rules) : Bool:=withinL 1 16 [r.squad] && withinL 1 20 [(r.gs.length : Int),r.most] && r.gs.all (isGameB r.squad) && withinL 0 99 [r.bonus]
def errC (b : Bool) : Int:=if b then 0 else 2
theorem check_ok (r : Rules) : ACalls Try.prog 76 [.ag (rulesC r)] (i64 (errC (rulesB r))):=by
 refine acalls_st (rs:=[i64 (errC (rulesB r))]) [.tmp 2] Try.func76 rfl (by kernel_rfl) Try.ntmps76 rfl (by simp) rfl fun C vs=>?_
 repeat refine zq ?_
 refine zb fun K hK=>?_;simp only [go_sem];(try simp (disch:=omega) only [zI]);repeat first | intro _ | refine ⟨by omega,?_⟩
 refine hK _ ?_;clear hK K
 repeat refine zq ?_
 refine zb fun K hK=>?_;simp only [go_sem];(try simp (disch:=omega) only [zI]);repeat first | intro _ | refine ⟨by omega,?_⟩
 refine hK _ ?_;clear hK K
 repeat refine zq ?_
 refine zb fun K hK=>?_;simp only [go_sem];(try simp (disch:=omega) only [zI])
 refine zh (within_ok 1 16 [r.squad]) rfl (by simp only [go_sem,i64,ints]) (by simp only [go_sem,i64,ints]) (by first | exact .inl rfl | exact .inr rfl) ?_
 (try simp only [go_sem]);(try simp (disch:=omega) only [zI])
 cases h1 : withinL 1 16 [r.squad]
 · try simp only [go_sem]
   repeat first | intro _ | refine ⟨by omega,?_⟩
   refine hK _ ?_;clear hK K
   repeat refine zq ?_
   refine zc rfl (fun hc=>?_) (fun hc=>?_) <;> (try simp only [go_sem] at hc)
   repeat refine zq ?_
   refine zb fun K hK=>?_;simp only [go_sem];(try simp (disch:=omega) only [zI]);repeat first | intro _ | refine ⟨by omega,?_⟩
   refine hK _ ?_;clear hK K;refine ze ?_;simp only [go_sem]
   simp [rulesB,errC,h1]
 try simp only [go_sem]
 intro hlen
 refine zh (within_ok 1 20 [(r.gs.length : Int),r.most]) rfl (by simp only [go_sem,i64,ints]) (by simp only [go_sem,i64,ints]) (by first | exact .inl rfl | exact .inr rfl) ?_
 (try simp only [go_sem]);(try simp (disch:=omega) only [zI])
 cases h2 : withinL 1 20 [(r.gs.length : Int),r.most]
 · try simp only [go_sem]
   repeat first | intro _ | refine ⟨by omega,?_⟩
   refine hK _ ?_;clear hK K
   repeat refine zq ?_
   refine zc rfl (fun hc=>?_) (fun hc=>?_) <;> (try simp only [go_sem] at hc)
   repeat refine zq ?_
   refine zb fun K hK=>?_;simp only [go_sem];(try simp (disch:=omega) only [zI]);repeat first | intro _ | refine ⟨by omega,?_⟩
   refine hK _ ?_;clear hK K;refine ze ?_;simp only [go_sem]
   simp [rulesB,errC,h1,h2]
 try simp only [go_sem]
 refine zh (containsG_ok (fun g=>!isGameB r.squad g) 132 [.rp (rulesC r)] r.gs fun g _=>check1_ok r g) rfl (by simp only [go_sem,i64,ints]) (by simp only [go_sem,i64,ints]) (by first | exact .inl rfl | exact .inr rfl) ?_
 (try simp only [go_sem]);(try simp (disch:=omega) only [zI])
 have e3 : (r.gs.any fun g=>!isGameB r.squad g) = !(r.gs.all (isGameB r.squad)):=by simp [List.any_eq_not_all_not]
 rw [e3]
 cases h3 : r.gs.all (isGameB r.squad)
 · try simp only [go_sem]
   repeat first | intro _ | refine ⟨by omega,?_⟩
   refine hK _ ?_;clear hK K
   repeat refine zq ?_
   refine zc rfl (fun hc=>?_) (fun hc=>?_) <;> (try simp only [go_sem] at hc)
   repeat refine zq ?_
   refine zb fun K hK=>?_;simp only [go_sem];(try simp (disch:=omega) only [zI]);repeat first | intro _ | refine ⟨by omega,?_⟩
   refine hK _ ?_;clear hK K;refine ze ?_;simp only [go_sem]
   simp [rulesB,errC,h1,h2,h3]
 try simp only [go_sem]
 refine zh (within_ok 0 99 [r.bonus]) rfl (by simp only [go_sem,i64,ints]) (by simp only [go_sem,i64,ints]) (by first | exact .inl rfl | exact .inr rfl) ?_
 (try simp only [go_sem]);(try simp (disch:=omega) only [zI])
 cases h4 : withinL 0 99 [r.bonus]
 · try simp only [go_sem]
   repeat first | intro _ | refine ⟨by omega,?_⟩
   refine hK _ ?_;clear hK K
   repeat refine zq ?_
   refine zc rfl (fun hc=>?_) (fun hc=>?_) <;> (try simp only [go_sem] at hc)
   repeat refine zq ?_
   refine zb fun K hK=>?_;simp only [go_sem];(try simp (disch:=omega) only [zI]);repeat first | intro _ | refine ⟨by omega,?_⟩
   refine hK _ ?_;clear hK K;refine ze ?_;simp only [go_sem]
   simp [rulesB,errC,h1,h2,h3,h4]
 try simp only [go_sem]
 repeat first | intro _ | refine ⟨by omega,?_⟩
 refine hK _ ?_;clear hK K
 repeat refine zq ?_
 refine zc rfl (fun hc=>?_) (fun hc=>?_) <;> (try simp only [go_sem] at hc)
 refine zx ?_
 try simp only [go_sem]
 repeat refine zq ?_
 refine zb fun K hK=>?_;simp only [go_sem];(try simp (disch:=omega) only [zI]);repeat first | intro _ | refine ⟨by omega,?_⟩
 refine hK _ ?_;clear hK K;refine ze ?_;simp only [go_sem]
 simp [rulesB,errC,h1,h2,h3,h4]
theorem min2 {s : Int} {g : Game} : isGameB s g = (withinL 1 2 [g.pl] && !decide (g.pl > s) && withinL 1 15 [g.lg] && withinL 0 99 [g.pt]):=by
 unfold isGameB
 congr 2
 simp only [withinL,List.all_cons,List.all_nil,Bool.and_true];rw [Bool.eq_iff_iff]
 simp only [Bool.and_eq_true,decide_eq_true_eq,Bool.not_eq_true',decide_eq_false_iff_not]
 omega
end Go.Proofs.Ytlljkgiomkmjbaa.Tm

namespace Go.Oc
open Go Go.RowKit
theorem sub_freeze (s : AS) (t k v sz off m : Nat) (hk0 : k < 1000) (ht : s.tm t = .os k v sz off m) (hv : v = s.ver k) (hc : match (s.rows k).c with | .arr _ sz' es=>sz = sz' ∧ off + m ≤ es.length | .arc _ sz' es _=>sz = sz' ∧ off + m ≤ es.length | _=>False) :
 Sub s { s with tm:=upd s.tm t (.r (match (s.rows k).c with | .arr _ _ es=>RV.sl sz ((es.drop off).take m) | .arc _ _ es _=>RV.sl sz ((es.drop off).take m) | _=>.un)),rows:=upd s.rows k ⟨(s.rows k).ver + 1,.dead⟩ }:=fun _ _ _ ⟨_,hp⟩=>hp.freeze t k v sz off m hk0 ht hv hc
section
variable {n : Nat} {l : List (Nat × AV)} {vs : Nat → Nat} {cs : List (Nat × RowC)}
theorem sub_frz (t k : Nat) {sz off m ty : Nat} {es : List (List RV)} (hk0 : k < 1000) (ht : look l t = .os k (vs k) sz off m) (hc : lookc cs k = .arr ty sz es) (hle : off + m ≤ es.length) :
 Sub (st n l vs cs) (st n ((t,.r (.sl sz ((es.drop off).take m))) :: l) (upd vs k (vs k + 1)) (delc cs k)):=by
 have:=sub_freeze (st n l vs cs) t k (vs k) sz off m hk0 ht rfl (by show match lookc cs k with | .arr _ sz' es=>sz = sz' ∧ off + m ≤ es.length | .arc _ sz' es _=>sz = sz' ∧ off + m ≤ es.length | _=>False; rw [hc]; exact ⟨rfl,hle⟩)
 have e : ({ st n l vs cs with tm:=upd (st n l vs cs).tm t (.r (match ((st n l vs cs).rows k).c with | .arr _ _ es=>RV.sl sz ((es.drop off).take m) | .arc _ _ es _=>RV.sl sz ((es.drop off).take m) | _=>.un)),rows:=upd (st n l vs cs).rows k ⟨((st n l vs cs).rows k).ver + 1,.dead⟩ } : AS)
  = st n ((t,.r (.sl sz ((es.drop off).take m))) :: l) (upd vs k (vs k + 1)) (delc cs k):=by
  simp only [st,AS.mk.injEq,true_and]
  constructor
  · funext j
    show upd (look l) t (.r (match lookc cs k with | .arr _ _ es=>RV.sl sz ((es.drop off).take m) | .arc _ _ es _=>RV.sl sz ((es.drop off).take m) | _=>.un)) j = look ((t,.r (.sl sz ((es.drop off).take m))) :: l) j
    rw [hc]; rfl
  · funext j
    rw [lookc_delc]
    unfold upd
    split <;> rfl
 rwa [e] at this
def FitV (n : Nat) (F : (Nat → Nat) → List (Nat × AV)) (R : (Nat → Nat) → List (Nat × RowC)) (s : AS) : Prop:=∃ vs,Sub s (st n (F vs) vs (R vs))
theorem zj (ks : List Nat) {F : (Nat → Nat) → List (Nat × AV)} {R : (Nat → Nat) → List (Nat × RowC)} (h1 : allEq l (F (killV vs ks))) (h2 : killC cs ks = R (killV vs ks)) (h3 : small ks = true:=by rfl) : FitV n F R (st n l vs cs):=by
 refine ⟨killV vs ks,(sub_kills ks vs cs h3).trans ?_⟩
 rw [← h2]
 exact sub_look _ (allEq_mem h1)
theorem awp_whileV {P : Program} {C : Ctx} {c : Code} {Q : Exit → AS → Prop} {s : AS} {α : Type} (F : α → (Nat → Nat) → List (Nat × AV)) (R : α → (Nat → Nat) → List (Nat × RowC)) (I : α → Prop) (m : α → Nat) (x0 : α)
 (h0 : FitV n (F x0) (R x0) s) (hI : I x0)
 (round : ∀ x vs,I x → awp P C c (andThen (fun s'=>∃ y,I y ∧ m y < m x ∧ FitV n (F y) (R y) s') Q) (st n (F x vs) vs (R x vs))) : awp P C (.loop c) Q s:=by
 refine awp_loop (fun k s=>∃ x,I x ∧ m x = k ∧ FitV n (F x) (R x) s) (m x0) ⟨x0,hI,rfl,h0⟩ ?_
 rintro k s ⟨x,hx,rfl,vs,hs⟩
 refine zw hs (awp_mono ?_ (round x vs hx))
 intro e s' hq
 cases e with
 | normal =>
   obtain ⟨y,hy,hlt,hf⟩:=hq
   exact ⟨m y,hlt,y,hy,rfl,hf⟩
 | _=>exact hq
end
end Go.Oc

namespace Go.Proofs.Ytlljkgiomkmjbaa.Tm
open Go Go.Oc
set_option linter.unusedSimpArgs false
set_option linter.unusedVariables false
set_option maxRecDepth 8000
abbrev encI (e : Int × Int) : RV × RV:=(i64 e.1,i64 e.2)
def findI (p : Int) : List (Int × Int) → Nat → Option (Nat × Int)
 | [],_=>none
 | e :: l,i=>if p = e.1 then some (i,e.2) else findI p l (i + 1)
def CntOk (M : List (Int × Int)) (q : List Int) : Prop:=(∀ e ∈ M,e.2 = (q.count e.1 : Int)) ∧ (∀ p ∈ q,∃ e ∈ M,e.1 = p) ∧ (M.map (·.1)).Nodup
abbrev listsR (l : List (List Int)) : RV:=.sl 1 (l.map fun x=>[ints x])
def ascB : List Int → Bool
 | x :: y :: _=>decide (x < y)
 | _=>true
def playB (r : Rules) (l : List Int) (g : Game) : Bool:=decide ((l.length : Int) = g.pl) && withinL 0 (r.squad - 1) l && ascB l
def orderB (r : Rules) (l : List (List Int)) : Bool :=
 decide (l.length = r.gs.length) && (l.zip r.gs).all (fun p=>playB r p.1 p.2) && l.flatten.all (fun p=>decide ((l.flatten.count p : Int) ≤ r.most))
theorem rulesB_facts {r : Rules} (h : rulesB r = true) : (1 ≤ r.squad ∧ r.squad ≤ 16) ∧ (1 ≤ r.gs.length ∧ r.gs.length ≤ 20) ∧ (1 ≤ r.most ∧ r.most ≤ 20) ∧ (∀ g ∈ r.gs,(1 ≤ g.pl ∧ g.pl ≤ 2 ∧ g.pl ≤ r.squad) ∧ (1 ≤ g.lg ∧ g.lg ≤ 15) ∧ 0 ≤ g.pt ∧ g.pt ≤ 99) ∧ 0 ≤ r.bonus ∧ r.bonus ≤ 99:=by
 simp only [rulesB,Bool.and_eq_true] at h
 obtain ⟨⟨⟨h1,h2⟩,h3⟩,h4⟩:=h
 have g2:=withinL_mem h2
 have ga:=g2 (r.gs.length : Int) (by simp)
 have gb:=g2 r.most (by simp)
 refine ⟨withinL_one h1,⟨by omega,by omega⟩,gb,fun g hg=>?_,withinL_one h4⟩
 have:=List.all_eq_true.1 h3 g hg
 simp only [isGameB,Bool.and_eq_true] at this
 obtain ⟨⟨a1,a2⟩,a3⟩:=this
 have b1:=withinL_one a1
 exact ⟨⟨b1.1,by omega,by omega⟩,withinL_one a2,withinL_one a3⟩
theorem erase_map {α β : Type} (f : α → β) (L : List α) (j : Nat) : (L.map f).eraseIdx j = (L.eraseIdx j).map f:=by
 rw [List.eraseIdx_eq_take_drop_succ,List.eraseIdx_eq_take_drop_succ,List.map_append,List.map_take,List.map_drop]
def tally (q : List Int) : List (List RV):=(List.range 16).map fun (p : Nat)=>[i64 ((q.count (p : Int) : Nat) : Int)]
def fewB (r : Rules) (q : List Int) : Bool:=q.all fun p=>decide ((q.count p : Int) ≤ r.most)
def largeB (r : Rules) (l : List (List Int)) : Bool:=l.any (fun x=>decide (5 < x.length)) || decide (25 < r.gs.length) || decide (25 < l.length)
end Go.Proofs.Ytlljkgiomkmjbaa.Tm

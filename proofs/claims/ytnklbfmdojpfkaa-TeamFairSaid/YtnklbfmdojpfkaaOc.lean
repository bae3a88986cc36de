/- What each operation does to an abstract state: a function that can be reckoned. -/
import Derived.Test.YtnklbfmdojpfkaaOb
namespace Go.Oc
open Go Go.RowKit

/-! ### Types, as far as the operations ask of them -/
inductive TK where
  | int (k : IntKind)
  | bool
  | str
  | struct (fs : List (Nat × Nat × Bool))
  | arr (n esz : Nat) (eagg : Bool)
  | slice (e esz eb : Nat) (ez : List RV)
  | map (k e : Nat)
  | ptr (e : Nat)
  | func
  | other
structure TI where
  k : TK
  sz : Nat
  agg : Bool
  zero : List RV

def aggOf (P : Program) (t : TypeId) : Bool := match P.underlying t with | some (.struct _) | some (.array ..) => true | _ => false
def okT (P : Program) (t : TypeId) : Bool := (P.info? t).isSome && (P.underlying t).isSome
def zeroOf (P : Program) (t : TypeId) : Option (List Value) :=
  match ((P.info? t).bind (·.zero) : Option Value) with
  | some v => if v.cells.toList.all Value.oneCell' && v.cells.size == P.cellsOf t then some v.cells.toList else none
  | none => none
/-- 'none': a type that these walks do not know. -/
def tyq (P : Program) (t : TypeId) : Option TI :=
  if okT P t then
    match zeroOf P t with
    | none => none
    | some z =>
      let mk (k : TK) : Option TI := some ⟨k, P.cellsOf t, aggOf P t, z.map RV.ofV1⟩
      match P.underlying t with
      | some (.int k) => mk (.int k)
      | some .bool => mk .bool
      | some .string => mk .str
      | some (.struct fs) => if fs.toList.all (fun f => okT P f.type && P.cellsOf f.type != 0) then mk (.struct (fs.toList.map fun f => (f.offset, P.cellsOf f.type, aggOf P f.type))) else none
      | some (.array n e) => if okT P e then mk (.arr n (P.cellsOf e) (aggOf P e)) else none
      | some (.slice e) => if okT P e then match zeroOf P e with | some ez => mk (.slice e (P.cellsOf e) (P.bytesOf e) (ez.map RV.ofV1)) | none => none else none
      | some (.map k e) => mk (.map k e)
      | some (.pointer e) => mk (.ptr e)
      | some (.func ..) => mk .func
      | _ => none
  else none

/-! ### Values -/
def RV.flat1 : RV → Bool
  | .un | .ud | .ag _ | .tu _ => false
  | _ => true
/-- The cells of a value; of a reference, if its row is as it was. -/
def AV.cells? (ver : Nat → Nat) : AV → Option (List AV)
  | .r (.ag cs) => some (cs.map .r)
  | .r v => if v.flat1 then some [.r v] else none
  | .ag cs => some cs
  | .tu _ => none
  | .fn f cs => some [.fn f cs]
  | .pt k n off => if n = ver k then some [.pt k n off] else none
  | .pe k n sz idx off => if n = ver k then some [.pe k n sz idx off] else none
  | .os k n sz off m => if n = ver k then some [.os k n sz off m] else none
  | .mp k n => if n = ver k then some [.mp k n] else none
  | .mi k n => if n = ver k then some [.mi k n] else none
def AV.ro? : AV → Option RV
  | .r v => some v
  | _ => none
def roL : List AV → Option (List RV)
  | [] => some []
  | .r v :: l => match roL l with | some xs => some (v :: xs) | none => none
  | _ :: _ => none
def cutR (cs : List RV) (t : TI) : RV := if t.agg then .ag (cs.take t.sz) else cs.headD .un
def cutA (cs : List AV) (t : TI) : AV := if t.agg then .ag (cs.take t.sz) else cs.headD (.r .un)
def need (t : TI) : Nat := if t.agg then t.sz else 1

structure Yi where
  av : AV
  eff : List (Nat × Row)
structure Res where
  pre : Prop
  ass : Prop
  y : Yi
def Res.bad : Res := ⟨False, True, ⟨.r .un, []⟩⟩
def Res.val (v : AV) : Res := ⟨True, True, ⟨v, []⟩⟩
def Res.when (c : Prop) (v : AV) : Res := ⟨c, True, ⟨v, []⟩⟩

def pickA (t : Bool) (a b : AV) : AV :=
  match a, b with
  | .r (.bo x), .r (.bo y) => .r (.bo (bif t then x else y))
  | a, b => bif t then a else b

def sPick (c a b : AV) : Res :=
  match c with
  | .r (.bo t) => .val (pickA t a b)
  | _ => .bad

/-- Types of which '==' compares so many cells, integers all, one after another. -/
def eqT (P : Program) (t : TypeId) : Option Nat :=
  match P.underlying t with
  | some (.struct fs) =>
    if fs.toList.all (fun f => f.name != "_" && (match P.underlying f.type with | some (.int _) => true | _ => false)) && (fs.toList.map (·.offset) == List.range fs.size) && !P.stoodInHeld t && !P.eqGuardType P.depth t then some fs.size else none
  | some (.array n e) =>
    if (match P.underlying e with | some (.int _) => true | _ => false) && P.cellsOf e == 1 && (P.info? e).isSome && !P.eqGuardType P.depth t then some n else none
  | _ => none
def agR : AV → Option (List RV)
  | .r (.ag cs) => some cs
  | .ag cs => roL cs
  | _ => none
def valR : AV → Option RV
  | .r v => some v
  | .ag cs => match roL cs with | some xs => some (.ag xs) | none => none
  | _ => none
def mapOf : RowC → Option (List (RV × RV))
  | .mp m => some m
  | .mpi m => some m
  | _ => none
def cmpL : List RV → List RV → Option Bool
  | [], [] => some true
  | .it k a :: as, .it k' b :: bs => if k = k' then match cmpL as bs with | some r => some ((a == b) && r) | none => none else none
  | _, _ => none
def sEq (P : Program) (op : BinOp) (t : TypeId) (x y : AV) : Res :=
  match op, eqT P t, agR x, agR y with
  | .eql, some n, some as, some bs => match cmpL as bs with | some r => .when (as.length = n) (.r (.bo r)) | none => .bad
  | .neq, some n, some as, some bs => match cmpL as bs with | some r => .when (as.length = n) (.r (.bo (!r))) | none => .bad
  | _, _, _, _ => .bad

def bitAnd (k : IntKind) (a b : Int) : Int := k.wrap ((BitVec.ofInt k.bits a &&& BitVec.ofInt k.bits b).toNat)
def bitOr (k : IntKind) (a b : Int) : Int := k.wrap ((BitVec.ofInt k.bits a ||| BitVec.ofInt k.bits b).toNat)
def shrI (k : IntKind) (a b : Int) : Int := a.fdiv (2 ^ (min b.toNat k.bits))
def shlI (k : IntKind) (a b : Int) : Int := k.wrap (a * 2 ^ (min b.toNat k.bits))
def sBin (P : Program) (op : BinOp) (t : TypeId) (x y : AV) : Res :=
  match x, y with
  | .r (.it k a), .r (.it k' b) =>
    match op with
    | .add => .when (k = k') (.r (.it k (k.wrap (a + b))))
    | .sub => .when (k = k') (.r (.it k (k.wrap (a - b))))
    | .mul => .when (k = k') (.r (.it k (k.wrap (a * b))))
    | .quo => .when (k = k' ∧ b ≠ 0) (.r (.it k (k.wrap (a.tdiv b))))
    | .rem => .when (k = k' ∧ b ≠ 0) (.r (.it k (a.tmod b)))
    | .eql => .when (k = k') (.r (.bo (a == b)))
    | .neq => .when (k = k') (.r (.bo (a != b)))
    | .lss => .when (k = k') (.r (.bo (decide (a < b))))
    | .leq => .when (k = k') (.r (.bo (decide (a ≤ b))))
    | .gtr => .when (k = k') (.r (.bo (decide (a > b))))
    | .geq => .when (k = k') (.r (.bo (decide (a ≥ b))))
    | .and => .when (k = k') (.r (.it k (bitAnd k a b)))
    | .or => .when (k = k') (.r (.it k (bitOr k a b)))
    | .shr => .when (0 ≤ b) (.r (.it k (shrI k a b)))
    | .shl => .when (0 ≤ b) (.r (.it k (shlI k a b)))
    | _ => .bad
  | .r (.bo a), .r (.bo b) =>
    match op, ((tyq P t).map (·.k) : Option TK) with
    | .eql, some .bool => .val (.r (.bo (a == b)))
    | .neq, some .bool => .val (.r (.bo (!(a == b))))
    | _, _ => .bad
  | x, y => sEq P op t x y

def sUn (op : UnOp) (x : AV) : Res :=
  match op, x with
  | .not, .r (.bo b) => .val (.r (.bo (!b)))
  | .neg, .r (.it k n) => .val (.r (.it k (k.wrap (0 - n))))
  | _, _ => .bad

def sConv (P : Program) (src dst : TypeId) (x : AV) : Res :=
  match tyq P src, tyq P dst, x with
  | some _, some ⟨.int k, _, _, _⟩, .r (.it _ n) => .val (.r (.it k (k.wrap n)))
  | _, _, _ => .bad

def sLoad (P : Program) (s : AS) (t : TypeId) (a : AV) : Res :=
  match tyq P t, a with
  | some T, .r (.rp cs) => .when (need T ≤ cs.length) (.r (cutR cs T))
  | some T, .pt k n off =>
    match s.rows k with
    | ⟨n', .box cs⟩ => .when (n = n' ∧ need T ≤ (cs.drop off).length) (cutA (cs.drop off) T)
    | _ => .bad
  | some T, .pe k n sz idx off =>
    match s.rows k with
    | ⟨n', .arr _ sz' es⟩ => .when (n = n' ∧ sz = sz' ∧ 0 < need T ∧ need T ≤ ((es.getD idx []).drop off).length) (.r (cutR ((es.getD idx []).drop off) T))
    | _ => .bad
  | _, _ => .bad

def sStore (P : Program) (s : AS) (t : TypeId) (a x : AV) : Res :=
  match tyq P t, a, x.cells? s.ver with
  | some T, .pt k n off, some xs =>
    match s.rows k with
    | ⟨n', .box cs⟩ => ⟨n = n' ∧ xs.length = T.sz ∧ off + T.sz ≤ cs.length, True, ⟨.r .ud, [(k, ⟨n', .box (cs.take off ++ (xs ++ cs.drop (off + T.sz)))⟩)]⟩⟩
    | _ => .bad
  | some T, .pe k n sz idx off, some xs =>
    match s.rows k, roL xs with
    | ⟨n', .arr t' sz' es⟩, some xs => ⟨n = n' ∧ sz = sz' ∧ idx < es.length ∧ xs.length = T.sz ∧ off + T.sz ≤ sz, True,
        ⟨.r .ud, [(k, ⟨n', .arr t' sz' (es.set idx ((es.getD idx []).take off ++ (xs ++ (es.getD idx []).drop (off + T.sz))))⟩)]⟩⟩
    | _, _ => .bad
  | _, _, _ => .bad

def sBox (s : AS) (d : Nat) (x : AV) : Res :=
  match x.cells? s.ver with
  | some cs => ⟨d < 1000, True, ⟨.pt d ((s.rows d).ver + 1) 0, [(d, ⟨(s.rows d).ver + 1, .box cs⟩)]⟩⟩
  | none => .bad
def sAlloc (P : Program) (s : AS) (d : Nat) (t : TypeId) : Res :=
  match tyq P t with
  | some T => ⟨d < 1000, True, ⟨.pt d ((s.rows d).ver + 1) 0, [(d, ⟨(s.rows d).ver + 1, .box (T.zero.map .r)⟩)]⟩⟩
  | none => .bad

def sField (P : Program) (s : AS) (t : TypeId) (a : AV) (f : Nat) : Res :=
  match tyq P t with
  | some ⟨.struct fs, _, _, _⟩ =>
    match fs[f]? with
    | some (o, _, _) =>
      match a with
      | .r (.rp cs) => .val (.r (.rp (cs.drop o)))
      | .pt k n off => .when (n = s.ver k) (.pt k n (off + o))
      | .pe k n sz idx off => .when (n = s.ver k) (.pe k n sz idx (off + o))
      | _ => .bad
    | none => .bad
  | _ => .bad

/-- A part of a value of several cells. -/
def sPart (cs : AV) (o sz : Nat) (agg : Bool) (c : Prop) : Res :=
  match cs with
  | .r (.ag cs) => .when (c ∧ o + (if agg then sz else 1) ≤ cs.length) (.r (if agg then .ag ((cs.drop o).take sz) else (cs.drop o).headD .un))
  | .ag cs => .when (c ∧ o + (if agg then sz else 1) ≤ cs.length) (if agg then .ag ((cs.drop o).take sz) else (cs.drop o).headD (.r .un))
  | _ => .bad
def sFieldV (P : Program) (t : TypeId) (x : AV) (f : Nat) : Res :=
  match tyq P t with
  | some ⟨.struct fs, _, _, _⟩ =>
    match fs[f]? with
    | some (o, sz, agg) => sPart x o sz agg True
    | none => .bad
  | _ => .bad
def sIndexV (P : Program) (t : TypeId) (x i : AV) : Res :=
  match tyq P t, i with
  | some ⟨.arr n esz eagg, _, _, _⟩, .r (.it _ i) => sPart x (i.toNat * esz) esz eagg (0 ≤ i ∧ i < (n : Int))
  | _, _ => .bad

def sIndex (P : Program) (s : AS) (t : TypeId) (x i : AV) : Res :=
  match tyq P t, i with
  | some ⟨.slice _ esz _ _, _, _, _⟩, .r (.it _ i) =>
    match x with
    | .r (.sl sz es) => .when (sz = esz ∧ 0 ≤ i ∧ i < (es.length : Int)) (.r (.rp (es.getD i.toNat [])))
    | .os k n sz off m => .when (n = s.ver k ∧ sz = esz ∧ 0 ≤ i ∧ i < (m : Int)) (.pe k n sz (off + i.toNat) 0)
    | _ => .bad
  | some ⟨.arr n esz _, _, _, _⟩, .r (.it _ i) =>
    match x with
    | .r (.rp cs) => .when (0 ≤ i ∧ i < (n : Int)) (.r (.rp (cs.drop (i.toNat * esz))))
    | .pt k v off => .when (v = s.ver k ∧ 0 ≤ i ∧ i < (n : Int)) (.pt k v (off + i.toNat * esz))
    | .pe k v sz idx off => .when (v = s.ver k ∧ 0 ≤ i ∧ i < (n : Int)) (.pe k v sz idx (off + i.toNat * esz))
    | _ => .bad
  | _, _ => .bad

def bound (x : Option AV) (d : Int) : Option Int :=
  match x with
  | none => some d
  | some (.r (.it _ i)) => some i
  | _ => none
def lenA (s : AS) : AV → Option (Prop × Nat)
  | .r (.sl _ es) => some (True, es.length)
  | .r .ns => some (True, 0)
  | .os k n _ _ m => some (n = s.ver k, m)
  | _ => none
def rowLen : RowC → Int
  | .arr _ _ es => es.length
  | _ => 0
/-- A slice with three indices, whose value nobody uses. -/
def sSlice3 (s : AS) (x : AV) (lo hi : Option AV) (mx : AV) : Res :=
  match lenA s x, bound lo 0, bound hi (-1), mx with
  | some (c, m), some l, some h, .r (.it _ q) => .when (c ∧ 0 ≤ l ∧ l ≤ h ∧ h ≤ q ∧ q ≤ (m : Int)) (.r .un)
  | _, _, _, _ => .bad
def sSlice (P : Program) (s : AS) (t : TypeId) (x : AV) (lo hi mx : Option AV) : Res :=
  match tyq P t, mx with
  | some ⟨.slice _ esz _ _, _, _, _⟩, none =>
    match x with
    | .r (.sl sz es) =>
      match bound lo 0, bound hi es.length with
      | some l, some h => .when (sz = esz ∧ 0 ≤ l ∧ l ≤ h ∧ h ≤ (es.length : Int)) (.r (.sl sz ((es.take h.toNat).drop l.toNat)))
      | _, _ => .bad
    | .os k n sz off m =>
      match bound lo 0, bound hi m with
      | some l, some h => .when (n = s.ver k ∧ sz = esz ∧ 0 ≤ l ∧ l ≤ h ∧ (h ≤ (m : Int) ∨ (off = 0 ∧ h + off ≤ rowLen (s.rows k).c))) (.os k n sz (off + l.toNat) (h.toNat - l.toNat))
      | _, _ => .bad
    | .r .ns =>
      match bound lo 0, bound hi 0 with
      | some l, some h => .when (l = 0 ∧ h = 0) (.r .ns)
      | _, _ => .bad
    | _ => .bad
  | some ⟨.slice _ _ _ _, _, _, _⟩, some mx => sSlice3 s x lo hi mx
  | _, _ => .bad

/-- Parts laid over cells. -/
def lay (ver : Nat → Nat) (place : Nat → Option (Nat × Nat)) : List AV → List (Nat × AV) → Option (List AV)
  | cs, [] => some cs
  | cs, (i, x) :: rest =>
    match place i, x.cells? ver with
    | some (o, sz), some xs => if xs.length = sz ∧ o + sz ≤ cs.length then lay ver place (cs.take o ++ (xs ++ cs.drop (o + sz))) rest else none
    | _, _ => none
def sBuild (P : Program) (s : AS) (t : TypeId) (parts : List (Nat × AV)) : Res :=
  match tyq P t with
  | some ⟨.struct fs, _, _, z⟩ =>
    match lay s.ver (fun i => (fs[i]?).map fun f => (f.1, f.2.1)) (z.map .r) parts with
    | some cs => .val (.ag cs)
    | none => .bad
  | some ⟨.arr _ esz _, _, _, z⟩ =>
    match lay s.ver (fun i => some (i * esz, esz)) (z.map .r) parts with
    | some cs => .val (.ag cs)
    | none => .bad
  | _ => .bad

def layE (ver : Nat → Nat) (esz : Nat) : List (List RV) → List (Nat × AV) → Option (List (List RV))
  | es, [] => some es
  | es, (i, x) :: rest =>
    match (x.cells? ver).bind roL with
    | some xs => if xs.length = esz ∧ i < es.length then layE ver esz (es.set i xs) rest else none
    | _ => none
def sBuildSlice (P : Program) (s : AS) (t : TypeId) (len : Nat) (parts : List (Nat × AV)) : Res :=
  match tyq P t with
  | some ⟨.slice _ esz _ ez, _, _, _⟩ =>
    if len = 0 then .when (parts = []) (.r .ns) else
    match layE s.ver esz (List.replicate len ez) parts with
    | some es => .when (0 < esz ∧ len * esz ≤ 16777216) (.r (.sl esz es))
    | none => .bad
  | _ => .bad

def sMakeSlice (P : Program) (s : AS) (d : Nat) (t : TypeId) (l c : AV) : Res :=
  match tyq P t, l, c with
  | some ⟨.slice e esz eb ez, _, _, _⟩, .r (.it _ l), .r (.it _ c) =>
    ⟨0 ≤ l ∧ l ≤ c ∧ (eb : Int) * c ≤ 281474976710656 ∧ c ≤ 9223372036854775807 ∧ 0 < esz ∧ d < 1000, True,
      ⟨.os d ((s.rows d).ver + 1) esz 0 l.toNat, [(d, ⟨(s.rows d).ver + 1, .arr e esz (List.replicate l.toNat ez)⟩)]⟩⟩
  | _, _, _ => .bad

/-- The elements that are appended. -/
def news? (s : AS) : AV → Option (Prop × Nat × List (List RV))
  | .r .ns => some (True, 0, [])
  | .r (.sl sz es) => some (True, sz, es)
  | .os k n sz off m =>
    match s.rows k with
    | ⟨n', .arr _ sz' es⟩ => some (n = n' ∧ sz = sz' ∧ off + m ≤ es.length, sz, (es.drop off).take m)
    | _ => none
  | _ => none
def sAppend (P : Program) (s : AS) (d : Nat) (t t' : TypeId) (x y : AV) : Res :=
  match tyq P t, decide (t = t'), x, news? s y with
  | some ⟨.slice e esz eb _, _, _, _⟩, true, .r .ns, some (c, sz, ns) =>
    ⟨c ∧ (sz = esz ∨ ns = []) ∧ 0 < esz ∧ ns.length * eb ≤ 140737488355328 ∧ ns.length ≤ 9223372036854775807 ∧ d < 1000, True,
      ⟨.os d ((s.rows d).ver + 1) esz 0 ns.length, [(d, ⟨(s.rows d).ver + 1, .arr e esz ns⟩)]⟩⟩
  | some ⟨.slice e esz eb _, _, _, _⟩, true, .os k n sz0 off m, some (c, sz, ns) =>
    match s.rows k with
    | ⟨n', .arr e' sz' es⟩ =>
      if off = 0 ∧ m = es.length then
      ⟨c ∧ n = n' ∧ e' = e ∧ sz0 = esz ∧ sz' = esz ∧ off = 0 ∧ m = es.length ∧ (sz = esz ∨ ns = []) ∧ 0 < esz ∧ (m + ns.length) * eb ≤ 140737488355328 ∧ m + ns.length ≤ 9223372036854775807 ∧ k < 1000, True,
        ⟨.os k (n' + 1) esz 0 (m + ns.length), [(k, ⟨n' + 1, .arr e esz (es ++ ns)⟩)]⟩⟩
      else
      ⟨c ∧ n = n' ∧ e' = e ∧ sz0 = esz ∧ sz' = esz ∧ off = 0 ∧ (sz = esz ∨ ns = []) ∧ 0 < esz ∧ m + ns.length ≤ es.length, True,
        ⟨.os k n' esz 0 (m + ns.length), [(k, ⟨n', .arr e esz (es.take m ++ (ns ++ es.drop (m + ns.length)))⟩)]⟩⟩
    | _ => .bad
  | _, _, _, _ => .bad

/-- append of so many zeros onto nothing. -/
def sAppendZ (P : Program) (s : AS) (d : Nat) (t t' : TypeId) (x y : AV) : Res :=
  match tyq P t, tyq P t', x, y with
  | some ⟨.slice e esz eb ez, _, _, _⟩, some ⟨.int _, _, _, _⟩, .r .ns, .r (.it k n) =>
    ⟨k = .i64 ∧ 0 < n ∧ 0 < esz ∧ n.toNat * eb ≤ 140737488355328 ∧ n ≤ 9223372036854775807 ∧ d < 1000, True, ⟨.os d ((s.rows d).ver + 1) esz 0 n.toNat, [(d, ⟨(s.rows d).ver + 1, .arr e esz (List.replicate n.toNat ez)⟩)]⟩⟩
  | _, _, _, _ => .bad
def sCap (P : Program) (t : TypeId) (x : AV) : Res :=
  match tyq P t, x with
  | some ⟨.slice _ _ _ _, _, _, _⟩, .r .ns => .val (.r (.it .i64 0))
  | _, _ => .bad
/-- clear, of elements of one cell each. -/
def sClear (P : Program) (s : AS) (t : TypeId) (x : AV) : Res :=
  match tyq P t, x with
  | some ⟨.slice e esz _ [z], _, _, _⟩, .os k n sz off m =>
    match s.rows k with
    | ⟨n', .arr e' sz' es⟩ => ⟨n = n' ∧ esz = 1 ∧ sz = 1 ∧ sz' = 1 ∧ e' = e ∧ 0 < m ∧ off + m ≤ es.length, True, ⟨.r .un, [(k, ⟨n', .arr e 1 (es.take off ++ (List.replicate m [z] ++ es.drop (off + m)))⟩)]⟩⟩
    | _ => .bad
  | _, _ => .bad

def sLen (P : Program) (s : AS) (t : TypeId) (x : AV) : Res :=
  match tyq P t, x with
  | some ⟨.slice _ _ _ _, _, _, _⟩, .r (.sl _ es) => ⟨True, (es.length : Int) ≤ 9223372036854775807, ⟨.r (.it .i64 es.length), []⟩⟩
  | some ⟨.slice _ _ _ _, _, _, _⟩, .r .ns => .val (.r (.it .i64 0))
  | some ⟨.slice _ _ _ _, _, _, _⟩, .os k n _ _ m => ⟨n = s.ver k, (m : Int) ≤ 9223372036854775807, ⟨.r (.it .i64 m), []⟩⟩
  | some ⟨.map _ _, _, _, _⟩, .mp k n => match mapOf (s.rows k).c with | some m => .when (n = (s.rows k).ver) (.r (.it .i64 m.length)) | none => .bad
  | some ⟨.arr n _ _, _, _, _⟩, .r (.ag _) => .val (.r (.it .i64 n))
  | some ⟨.arr n _ _, _, _, _⟩, .ag _ => .val (.r (.it .i64 n))
  | _, _ => .bad

def minF (k : IntKind) : Int → List AV → Option RV
  | a, [] => some (.it k a)
  | a, .r (.it k' b) :: rest => if k = k' then minF k (min a b) rest else none
  | _, _ => none
def maxF (k : IntKind) : Int → List AV → Option RV
  | a, [] => some (.it k a)
  | a, .r (.it k' b) :: rest => if k = k' then maxF k (max a b) rest else none
  | _, _ => none
def minA : List AV → Option RV
  | .r (.it k n) :: rest => minF k n rest
  | _ => none
def maxA : List AV → Option RV
  | .r (.it k n) :: rest => maxF k n rest
  | _ => none
def sMinMax (r : Option RV) : Res :=
  match r with
  | some v => .val (.r v)
  | none => .bad

def sExtract (x : AV) (i : Nat) : Res :=
  match x with
  | .r (.tu vs) => match vs[i]? with | some v => .val (.r v) | none => .bad
  | .tu vs => match vs[i]? with | some v => .val v | none => .bad
  | _ => .bad

def sNil (s : AS) (x : AV) : Res :=
  match x with
  | .r (.rp cs) => .val (.r (.rp cs))
  | .pt k n off => .when (n = s.ver k) (.pt k n off)
  | .pe k n sz idx off => .when (n = s.ver k) (.pe k n sz idx off)
  | .r (.fn f cs) => .val (.r (.fn f cs))
  | .fn f cs => .val (.fn f cs)
  | _ => .bad

/-! ### Maps -/
def zv (P : Program) (t : TypeId) : Option RV := ((P.info? t).bind (·.zero)).map RV.ofV
def isIntT (P : Program) (t : TypeId) : Bool := match P.underlying t with | some (.int _) => true | _ => false
def keyN (P : Program) (k : TypeId) : Option (Option Nat) := if isIntT P k then some none else match eqT P k with | some n => some (some n) | none => none
/-- The types of a map's keys and values; for keys that are structs or arrays how many numbers they have. -/
def mapT (P : Program) (t : TypeId) : Option (Nat × Nat × Option Nat) :=
  match P.underlying t with
  | some (.map k e) => match keyN P k with | some kn => some (k, e, kn) | none => none
  | _ => none
def sameK : RV → RV → Option Bool
  | .it k a, .it k' b => if k = k' then some (a == b) else none
  | .ag as, .ag bs => cmpL as bs
  | _, _ => none
/-- Where a key stands, and what is there. -/
def findK (key : RV) : List (RV × RV) → Nat → Option (Option (Nat × RV))
  | [], _ => some none
  | e :: es, i =>
    match sameK key e.1 with
    | some true => some (some (i, e.2))
    | some false => findK key es (i + 1)
    | none => none
def allIt : List RV → Bool
  | [] => true
  | .it _ _ :: xs => allIt xs
  | _ => false
def keyOk : Option Nat → RV → Bool
  | none, .it _ _ => true
  | some n, .ag xs => decide (xs.length = n) && allIt xs
  | _, _ => false
def sMakeMap (P : Program) (s : AS) (d : Nat) (t : TypeId) : Res :=
  match mapT P t with
  | some _ => ⟨d < 1000, True, ⟨.mp d ((s.rows d).ver + 1), [(d, ⟨(s.rows d).ver + 1, .mp []⟩)]⟩⟩
  | none => .bad
def sLookup (P : Program) (s : AS) (t : TypeId) (x key : AV) (ok : Bool) : Res :=
  match mapT P t, x, valR key with
  | some (_, e, kn), .mp k n, some key =>
    match mapOf (s.rows k).c, zv P e with
    | some m, some z =>
      match findK key m 0 with
      | some (some (_, v)) => .when (n = (s.rows k).ver ∧ keyOk kn key = true) (if ok then .r (.tu [v, .bo true]) else .r v)
      | some none => .when (n = (s.rows k).ver ∧ keyOk kn key = true) (if ok then .r (.tu [z, .bo false]) else .r z)
      | none => .bad
    | _, _ => .bad
  | _, _, _ => .bad
def sMapUpdate (P : Program) (s : AS) (t : TypeId) (x key v : AV) : Res :=
  match mapT P t, x, valR key, valR v with
  | some (_, _, kn), .mp k n, some key, some v =>
    match s.rows k with
    | ⟨n', .mp m⟩ =>
      match findK key m 0 with
      | some (some (i, _)) => ⟨n = n' ∧ keyOk kn key = true, True, ⟨.r .ud, [(k, ⟨n', .mp (m.set i (key, v))⟩)]⟩⟩
      | some none => ⟨n = n' ∧ keyOk kn key = true, True, ⟨.r .ud, [(k, ⟨n', .mp (m ++ [(key, v)])⟩)]⟩⟩
      | none => .bad
    | _ => .bad
  | _, _, _, _ => .bad
def sRange (P : Program) (s : AS) (d : Nat) (t : TypeId) (x : AV) : Res :=
  match mapT P t, x with
  | some _, .mp k n =>
    match s.rows k with
    | ⟨n', .mp m⟩ => ⟨n = n' ∧ d < 1000 ∧ d ≠ k, True, ⟨.mi d ((s.rows d).ver + 1), [(k, ⟨n', .mpi m⟩), (d, ⟨(s.rows d).ver + 1, .mi k n' m none⟩)]⟩⟩
    | _ => .bad
  | _, _ => .bad
def sEntry (s : AS) (x : AV) : Res :=
  match x with
  | .mi k n =>
    match s.rows k with
    | ⟨n', .mi km nm _ (some e)⟩ => .when (n = n' ∧ nm = (s.rows km).ver) (.r (.tu [e.1, e.2]))
    | _ => .bad
  | _ => .bad
def AS.row (s : AS) (k : Nat) (r : Row) : AS := { s with rows := upd s.rows k r }
/-- One step of a range: whichever entry comes. -/
def sNext (s : AS) (d : Option Nat) (x : AV) (K : AS → Prop) : Prop :=
  match x with
  | .mi k n =>
    match s.rows k with
    | ⟨n', .mi km nm left _⟩ => n = n' ∧ nm = (s.rows km).ver ∧ k ≠ km ∧ (left = [] → K (s.put d (.r (.tu [.bo false])))) ∧
        ∀ i e, left[i]? = some e → K (AS.put (s.row k ⟨n', .mi km nm (left.eraseIdx i) (some e)⟩) d (.r (.tu [.bo true, e.1, e.2])))
    | _ => False
  | _ => False

def sBuiltin (P : Program) (s : AS) (d : Nat) (b : Builtin) (ts : List TypeId) (xs : List AV) : Res :=
  match b, ts, xs with
  | .len, [t], [x] => sLen P s t x
  | .min, _, xs => sMinMax (minA xs)
  | .max, _, xs => sMinMax (maxA xs)
  | .append, [t, t'], [x, y] => if t = t' then sAppend P s d t t' x y else sAppendZ P s d t t' x y
  | .cap, [t], [x] => sCap P t x
  | .clear, [t], [x] => sClear P s t x
  | _, _, _ => .bad

/-- An operation that calls no Go function. -/
def step (P : Program) (o : Oper) (s : AS) : Res :=
  match o.op with
  | .move x => .val (s.ev x)
  | .assign x => .val (s.ev x)
  | .pick c a b => sPick (s.ev c) (s.ev a) (s.ev b)
  | .binOp op t x y _ => sBin P op t (s.ev x) (s.ev y)
  | .unOp op _ x => sUn op (s.ev x)
  | .convert a b x => sConv P a b (s.ev x)
  | .load t a => sLoad P s t (s.ev a)
  | .store t a x => sStore P s t (s.ev a) (s.ev x)
  | .box _ x => sBox s (o.dst.getD 0) (s.ev x)
  | .alloc t => sAlloc P s (o.dst.getD 0) t
  | .fieldAddr t x f => sField P s t (s.ev x) f
  | .field t x f => sFieldV P t (s.ev x) f
  | .indexAddr t x i => sIndex P s t (s.ev x) (s.ev i)
  | .index t x i => sIndexV P t (s.ev x) (s.ev i)
  | .slice t x lo hi mx => sSlice P s t (s.ev x) (lo.map s.ev) (hi.map s.ev) (mx.map s.ev)
  | .build t ps => sBuild P s t (ps.toList.map fun (i, x) => (i, s.ev x))
  | .buildSlice t n ps => sBuildSlice P s t n (ps.toList.map fun (i, x) => (i, s.ev x))
  | .makeSlice t l c => sMakeSlice P s (o.dst.getD 0) t (s.ev l) (s.ev c)
  | .makeFunc (.func f) first caps => if first.isEmpty then .val (.fn f (caps.toList.map s.ev)) else .bad
  | .extract x i => sExtract (s.ev x) i
  | .nilCheck x => sNil s (s.ev x)
  | .makeMap t none => sMakeMap P s (o.dst.getD 0) t
  | .lookup t x i ok => sLookup P s t (s.ev x) (s.ev i) ok
  | .mapUpdate t m i x => sMapUpdate P s t (s.ev m) (s.ev i) (s.ev x)
  | .range t x => sRange P s (o.dst.getD 0) t (s.ev x)
  | .entry x => sEntry s (s.ev x)
  | .call ⟨.builtin b, args, ts⟩ => sBuiltin P s (o.dst.getD 0) b ts.toList (args.toList.map s.ev)
  | _ => .bad

def Yi.rows (y : Yi) (rows : Nat → Row) : Nat → Row := y.eff.foldl (fun f p => upd f p.1 p.2) rows
/-- The state behind an operation. -/
def AS.app (s : AS) (d : Option Nat) (y : Yi) : AS := AS.put { s with rows := y.rows s.rows } d y.av
end Go.Oc

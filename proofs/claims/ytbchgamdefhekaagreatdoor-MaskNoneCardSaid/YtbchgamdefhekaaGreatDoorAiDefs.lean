/- A computable interpreter of the model's code over values by value: the definitions. -/
import Derived.Calls
import Derived.Orders
import Derived.LoopN
import Derived.Defers
namespace Go.Ai
open Go

/-- An immutable value of one cell: a plain value, or a slice by its elements (each by its cells). -/
inductive IV where
  | lit (v : Value)
  | sl (es : List (List IV))
  deriving Inhabited

/-- A value; it may name rows of the state. -/
inductive AV where
  | i (x : IV)
  | ptr (id ei off : Nat)
  | ipt (c : List IV) (off : Nat)
  | rs (id off len cmin : Nat)
  | e0
  | nn
  | map (id : Nat)
  | fn (f : Nat) (caps : List AV)
  | agg (cs : List AV)
  | tup (vs : List AV)
  | junk
  deriving Inhabited

inductive Row where
  | dead
  | cells (sz : Nat) (es : List (List AV))
  | map (es : List (Value × AV))
  deriving Inhabited

abbrev St := List Row
abbrev Fr := List (Nat × AV)

inductive Kd where
  | other | string | int | ptr | func | map (key elem : Nat) (kd : TypeDesc)
  | struct (fs : List (Nat × Nat × Bool))
  | array (n elem esz : Nat)
  | slice (elem esz : Nat)
  deriving Inhabited

structure TI where
  size : Nat
  bytes : Nat
  agg : Bool
  zero : List Value
  kd : Kd
  deriving Inhabited

structure FI where
  body : Code
  ntmps : Nat
  results : List ResultVar
  locs : List Nat
  deriving Inhabited

/-- How a function is called: from an empty state; on the state, its own rows dropped behind it; on the state, all kept; as 'slices.Clone' is (a list that may be nil is looked at both ways). -/
inductive CMode where
  | pure | rw | keep | new (slots : Nat) | clone
  deriving DecidableEq, Inhabited

structure Ctx where
  P : Program
  ty : Nat → Option TI
  fn : Nat → Option FI
  mode : Nat → CMode
  glob : Nat → Option (List IV)

/-- A table by numbers. -/
inductive Tr (α : Type) where
  | lf
  | nd (l : Tr α) (k : Nat) (v : α) (r : Tr α)

def Tr.get {α : Type} : Tr α → Nat → Option α
  | .lf, _ => none
  | .nd l k v r, n => bif Nat.blt n k then l.get n else bif Nat.beq n k then some v else r.get n

def peek {α : Type} (P : Program) : Sem α → Option α
  | .pure a => some a
  | .program k => peek P (k P)
  | .mark _ k => peek P k
  | _ => none

def look : Fr → Nat → AV
  | [], _ => .junk
  | (u, v) :: r, t => bif Nat.beq t u then v else look r t

def ofVal1 : Value → AV
  | .agg cs => .agg (cs.toList.map fun c => .i (.lit c))
  | v => .i (.lit v)

def ofVal : Value → AV
  | .tuple vs => .tup (vs.toList.map ofVal1)
  | v => ofVal1 v

def litOf : AV → Option Value
  | .i (.lit v) => some v
  | _ => none

def toVal : AV → Option Value
  | .i (.lit v) => some v
  | .agg cs => (cs.mapM litOf).map fun l => .agg l.toArray
  | .fn f [] => some (.func (.func f) #[] #[])
  | _ => none

def oneC : Value → Bool
  | .agg _ | .tuple _ => false
  | _ => true

/-- Whether a value is certainly of one cell, and no aggregate. -/
def one : AV → Bool
  | .i (.lit v) => oneC v
  | .i (.sl _) | .ptr .. | .ipt .. | .rs .. | .e0 | .nn | .map _ | .fn .. => true
  | _ => false

def cellsOf : AV → Option (List AV)
  | .agg cs => bif cs.all one then some cs else none
  | v => bif one v then some [v] else none

def getRow (σ : St) (id : Nat) : Row := σ.getD id .dead

def setRow (σ : St) (id : Nat) (r : Row) : St :=
  bif Nat.blt id σ.length then σ.set id r else σ ++ List.replicate (id - σ.length) .dead ++ [r]

def over {α : Type} (e : List α) (off : Nat) (vs : List α) : List α := e.take off ++ vs ++ e.drop (off + vs.length)

def intOf : AV → Option Int
  | .i (.lit (.int _ n)) => some n
  | _ => none

def natOf : AV → Option Nat
  | .i (.lit (.int _ n)) => match n with | .ofNat k => some k | .negSucc _ => none
  | _ => none

/-- What an operation yields, and the rows that it lays anew. -/
abbrev Eff := AV × List (Nat × Row)

/-- The elements of a slice. -/
def elems (get : Nat → Row) : AV → Option (List (List AV))
  | .i (.sl es) => some (es.map (·.map .i))
  | .i (.lit (.slice none 0 0)) => some []
  | .e0 => some []
  | .nn => some []
  | .rs id off len _ => match get id with
    | .cells _ es => bif Nat.ble (off + len) es.length then some ((es.drop off).take len) else none
    | _ => none
  | .i (.lit (.string s)) => some (s.data.toList.map fun b => [.i (.lit (.int .u8 b.toNat))])
  | _ => none

def findA (kd : TypeDesc) (k : Value) : List (Value × AV) → Nat → Option (Option (Nat × AV))
  | [], _ => some none
  | (q, v) :: r, i => match Instr.sameNow kd k q with
    | some true => some (some (i, v))
    | some false => findA kd k r (i + 1)
    | none => none

def keyKind : TypeDesc → Value → Bool
  | .int _, .int _ _ | .string, .string _ | .bool, .bool _ => true
  | _, _ => false

def zeroAV (i : TI) : AV := bif i.agg then .agg (i.zero.map fun c => .i (.lit c)) else .i (.lit (i.zero.headD (.tuple #[])))

def lkVal (r : Option (Nat × AV)) (ie : TI) : AV := match r with | some (_, v) => v | none => zeroAV ie

def mapPut (r : Option (Nat × AV)) (es : List (Value × AV)) (q : Value) (v : AV) : List (Value × AV) := match r with | some (j, _) => es.set j (q, v) | none => es ++ [(q, v)]

def fillA (places : Nat → Option (Nat × Nat)) (cells : List AV) : List (Nat × AV) → Option (List AV)
  | [] => some cells
  | (i, v) :: rest => match places i, cellsOf v with
    | some (off, size), some cs =>
      bif cs.length == size && Nat.ble (off + size) cells.length then fillA places (over cells off cs) rest else none
    | _, _ => none

/-- A read of n cells from a place of a list of cells. -/
def readCells (agg : Bool) (size off : Nat) (e : List AV) : Option AV :=
  bif agg then (bif Nat.ble (off + size) e.length then some (.agg ((e.drop off).take size)) else none) else e[off]?

def roomOk (n bytes : Nat) : Bool := Nat.ble ((2 * n + 192) * bytes) (2 ^ 46) && Nat.ble n (2 ^ 40)

def nilEq (k : Kd) (x y : AV) : Option Bool :=
  match k, x, y with
  | .ptr, .ptr .., .i (.lit (.pointer none)) | .ptr, .ipt .., .i (.lit (.pointer none)) => some false
  | .slice .., .rs .., .i (.lit (.slice none 0 0)) => some false
  | .slice .., .nn, .i (.lit (.slice none 0 0)) => some false
  | .slice .., .i (.sl (_ :: _)), .i (.lit (.slice none 0 0)) => some false
  | .map .., .map _, .i (.lit (.map none)) => some false
  | .func, .fn .., .i (.lit .nilFunc) => some false
  | _, _, _ => none

def mapEnts (get : Nat → Row) : AV → Option (List (Value × AV))
  | .map id => match get id with
    | .map es => some es
    | _ => none
  | .i (.lit (.map none)) => some []
  | _ => none

def headLen (n : Nat) : List (List IV) → Bool
  | [] => true
  | e :: _ => Nat.beq e.length n

def sliceHi (h : Option AV) (d : Nat) : Option Nat := match h with | none => some d | some v => natOf v

def sliceLike : Kd → Bool
  | .slice .. | .string => true
  | _ => false

/-- A slice without room: nil, or of capacity 0. -/
def isNilSl : AV → Bool
  | .i (.lit (.slice none 0 0)) | .e0 => true
  | _ => false

def isSl : AV → Bool
  | .i (.lit (.slice none 0 0)) | .e0 | .i (.sl _) | .rs .. => true
  | _ => false

def execLen (C : Ctx) (get : Nat → Row) (t : Nat) (x : AV) : Option Eff := do
  let i ← C.ty t
  match i.kd, x with
  | .string, .i (.lit (.string s)) => some (.i (.lit (.int .i64 s.size)), [])
  | .array n .., _ => some (.i (.lit (.int .i64 n)), [])
  | .slice .., .i (.sl es) => some (.i (.lit (.int .i64 es.length)), [])
  | .slice .., .rs _ _ len _ => some (.i (.lit (.int .i64 len)), [])
  | .slice .., .e0 | .slice .., .nn => some (.i (.lit (.int .i64 0)), [])
  | .slice .., .i (.lit (.slice none 0 0)) => some (.i (.lit (.int .i64 0)), [])
  | .map .., .map id => match get id with
    | .map es => some (.i (.lit (.int .i64 es.length)), [])
    | _ => none
  | _, _ => none

def execAppend (C : Ctx) (get : Nat → Row) (fresh : Nat) (t u : Nat) (s x : AV) : Option Eff := do
  let i ← C.ty t
  let iu ← C.ty u
  let .slice elem esz := i.kd | none
  let ie ← C.ty elem
  let new ← elems get x
  bif sliceLike iu.kd then
    match new with
    | [] => bif isSl s then some (s, []) else none
    | _ :: _ =>
      bif new.all (fun e => Nat.beq e.length esz && e.all one) && Nat.blt 0 esz && Nat.beq ie.zero.length esz then
        bif isNilSl s then
          (bif roomOk new.length ie.bytes then some (.rs fresh 0 new.length new.length, [(fresh, .cells esz new)]) else none)
        else match s with
        | .rs id off len _ => match get id with
          | .cells sz es =>
            bif Nat.beq sz esz && Nat.ble (off + len) es.length && roomOk (len + new.length) ie.bytes then
              some (.rs fresh 0 (len + new.length) (len + new.length), [(id, .dead), (fresh, .cells esz ((es.drop off).take len ++ new))])
            else none
          | _ => none
        | _ => none
      else none
  else none

def execClear (C : Ctx) (get : Nat → Row) (t : Nat) (s : AV) : Option Eff := do
  let i ← C.ty t
  let .slice elem esz := i.kd | none
  let ie ← C.ty elem
  match s with
  | .rs id off len _ => match get id with
    | .cells sz es =>
      bif Nat.beq sz esz && Nat.beq ie.zero.length esz && Nat.ble (off + len) es.length then
        some (.tup [], [(id, .cells sz (over es off (List.replicate len (ie.zero.map fun c => .i (.lit c)))))])
      else none
    | _ => none
  | _ => none

def execB (C : Ctx) (get : Nat → Row) (fresh : Nat) (b : Builtin) (tys : Array TypeId) (xs : List AV) : Option Eff :=
  match b with
  | .len => match xs with
    | [x] => do
      let t ← tys[0]?
      execLen C get t x
    | _ => none
  | .append => match xs with
    | [s, x] => do
      let t ← tys[0]?
      let u ← tys[1]?
      execAppend C get fresh t u s x
    | _ => none
  | .clear => match xs with
    | [s] => do
      let t ← tys[0]?
      execClear C get t s
    | _ => none
  | .min => do
    let vs ← xs.mapM litOf
    let r ← peek C.P (Builtin.min_ tys 0 vs.toArray)
    some (.i (.lit r), [])
  | .max => do
    let vs ← xs.mapM litOf
    let r ← peek C.P (Builtin.max_ tys 0 vs.toArray)
    some (.i (.lit r), [])
  | _ => none

def exec (C : Ctx) (get : Nat → Row) (fresh : Nat) (ρ : Operand → AV) (op : Op) : Option Eff :=
  match op with
  | .move x | .assign x => some (ρ x, [])
  | .pick c a b => match ρ c with
    | .i (.lit (.bool t)) => some (bif t then ρ a else ρ b, [])
    | _ => none
  | .alloc t => do
    let i ← C.ty t
    bif Nat.blt 0 i.zero.length then some (.ptr fresh 0 0, [(fresh, .cells i.zero.length [i.zero.map fun c => .i (.lit c)])]) else none
  | .box _ x => do
    let cs ← cellsOf (ρ x)
    bif Nat.blt 0 cs.length then some (.ptr fresh 0 0, [(fresh, .cells cs.length [cs])]) else none
  | .build t parts => do
    let i ← C.ty t
    let ps := parts.toList.map fun p => (p.1, ρ p.2)
    let z := i.zero.map fun c => AV.i (.lit c)
    match i.kd with
    | .struct fs => do
      let cs ← fillA (fun k => (fs[k]?).map fun f => (f.1, f.2.1)) z ps
      some (.agg cs, [])
    | .array _ _ esz => do
      let cs ← fillA (fun k => some (k * esz, esz)) z ps
      some (.agg cs, [])
    | _ => none
  | .buildSlice t len parts => do
    let i ← C.ty t
    let .slice elem esz := i.kd | none
    let ie ← C.ty elem
    let ps := parts.toList.map fun p => (p.1, ρ p.2)
    let z := ie.zero.map fun c => AV.i (.lit c)
    bif Nat.beq len 0 then (bif parts.isEmpty then some (.e0, []) else none) else
    bif Nat.beq z.length esz && Nat.ble (len * esz) (2 ^ 20) && Nat.blt 0 esz then do
      let es ← ps.foldlM (init := List.replicate len z) fun (es : List (List AV)) p => do
        let cs ← cellsOf p.2
        bif Nat.beq cs.length esz && Nat.blt p.1 len then some (es.set p.1 cs) else none
      some (.rs fresh 0 len len, [(fresh, .cells esz es)])
    else none
  | .load t a => do
    let i ← C.ty t
    match ρ a with
    | .ptr id ei off => match get id with
      | .cells _ es => do
        let e ← es[ei]?
        let v ← readCells i.agg i.size off e
        some (v, [])
      | _ => none
    | .ipt c off => do
      let v ← readCells i.agg i.size off (c.map .i)
      some (v, [])
    | _ => none
  | .store t a x => do
    let i ← C.ty t
    let vs ← cellsOf (ρ x)
    match ρ a with
    | .ptr id ei off => match get id with
      | .cells sz es => do
        let e ← es[ei]?
        bif Nat.beq vs.length i.size && Nat.ble (off + i.size) e.length then some (.tup [], [(id, .cells sz (es.set ei (over e off vs)))]) else none
      | _ => none
    | _ => none
  | .nilCheck x => match ρ x with
    | .ptr id ei off => some (.ptr id ei off, [])
    | .ipt c off => some (.ipt c off, [])
    | _ => none
  | .binOp b t x y _ =>
    match toVal (ρ x), toVal (ρ y) with
    | some u, some v => do
      let r ← peek C.P (do eqGuard b t x y u v; binOp b t u v)
      some (.i (.lit r), [])
    | _, _ => do
      let i ← C.ty t
      let q ← nilEq i.kd (ρ x) (ρ y)
      match b with
      | .eql => some (.i (.lit (.bool q)), [])
      | .neq => some (.i (.lit (.bool !q)), [])
      | _ => none
  | .unOp b _ x => do
    let v ← toVal (ρ x)
    let r ← peek C.P (Op.unary b v)
    some (.i (.lit r), [])
  | .convert s d x => do
    let v ← litOf (ρ x)
    let r ← peek C.P (convert s d v)
    some (.i (.lit r), [])
  | .makeFunc fn first caps => match fn with
    | .func f => bif first.isEmpty then some (.fn f (caps.toList.map ρ), []) else none
    | _ => none
  | .makeMap _ r => match r with
    | none => some (.map fresh, [(fresh, .map [])])
    | some _ => none
  | .makeSlice t l c => do
    let i ← C.ty t
    let .slice elem esz := i.kd | none
    let ie ← C.ty elem
    let n ← natOf (ρ l)
    let m ← natOf (ρ c)
    bif Nat.ble n m && roomOk m ie.bytes && Nat.beq ie.zero.length esz && Nat.blt 0 esz && Nat.ble m (2 ^ 40) then
      some (.rs fresh 0 n m, [(fresh, .cells esz (List.replicate n (ie.zero.map fun c => .i (.lit c))))])
    else none
  | .slice t x lo hi mx => do
    let i ← C.ty t
    let l ← sliceHi (lo.map ρ) 0
    bif mx.isNone || hi.isSome then
    match i.kd, ρ x with
    | .string, .i (.lit (.string s)) => do
      let h ← sliceHi (hi.map ρ) s.size
      bif Nat.ble l h && Nat.ble h s.size && mx.isNone then some (.i (.lit (.string (s.extract l h))), []) else none
    | .slice _ esz, .i (.sl es) => do
      let h ← sliceHi (hi.map ρ) es.length
      let m ← sliceHi (mx.map ρ) l
      bif Nat.ble l h && Nat.ble h es.length && headLen esz es then
        (bif mx.isNone then some (.i (.sl ((es.drop l).take (h - l))), []) else
        bif Nat.beq m l && Nat.beq h l then some (.e0, []) else none)
      else none
    | .slice _ esz, .rs id off len cmin => do
      let h ← sliceHi (hi.map ρ) len
      let m ← sliceHi (mx.map ρ) cmin
      match get id with
      | .cells sz _ =>
        bif Nat.ble l h && Nat.ble h len && Nat.ble h m && Nat.ble m cmin && Nat.beq sz esz then
          (bif mx.isNone then some (.rs id (off + l) (h - l) (m - l), []) else
          bif Nat.beq m l then some (.e0, []) else some (.rs id (off + l) (h - l) (m - l), []))
        else none
      | _ => none
    | .slice .., .i (.lit (.slice none 0 0)) => do
      let h ← sliceHi (hi.map ρ) 0
      let m ← sliceHi (mx.map ρ) 0
      bif Nat.beq l 0 && Nat.beq h 0 && Nat.beq m 0 then some (.i (.lit (.slice none 0 0)), []) else none
    | _, _ => none
    else none
  | .fieldAddr t x f => do
    let i ← C.ty t
    let .struct fs := i.kd | none
    let (fo, fz, _) ← fs[f]?
    bif Nat.beq fz 0 then none else
    match ρ x with
    | .ptr id ei off => some (.ptr id ei (off + fo), [])
    | .ipt c off => some (.ipt c (off + fo), [])
    | _ => none
  | .field t x f => do
    let i ← C.ty t
    let .struct fs := i.kd | none
    let (fo, fz, fa) ← fs[f]?
    match ρ x with
    | .agg cs => do
      let v ← readCells fa fz fo cs
      some (v, [])
    | _ => none
  | .indexAddr t x ix => do
    let i ← C.ty t
    let n ← natOf (ρ ix)
    match i.kd, ρ x with
    | .slice _ esz, .rs id off len _ => match get id with
      | .cells sz _ => bif Nat.blt n len && Nat.beq sz esz then some (.ptr id (off + n) 0, []) else none
      | _ => none
    | .slice _ esz, .i (.sl es) => do
      let e ← es[n]?
      bif Nat.beq e.length esz then some (.ipt e 0, []) else none
    | .array m _ esz, .ptr id ei off => bif Nat.blt n m then some (.ptr id ei (off + n * esz), []) else none
    | .array m _ esz, .ipt c off => bif Nat.blt n m then some (.ipt c (off + n * esz), []) else none
    | _, _ => none
  | .index t x ix => do
    let i ← C.ty t
    let n ← natOf (ρ ix)
    match i.kd, ρ x with
    | .string, .i (.lit (.string s)) => do
      let b ← s.data.toList[n]?
      some (.i (.lit (.int .u8 b.toNat)), [])
    | .array m elem esz, .agg cs => do
      let ie ← C.ty elem
      bif Nat.blt n m then do
        let v ← readCells ie.agg esz (n * esz) cs
        some (v, [])
      else none
    | _, _ => none
  | .lookup t x k ok => do
    let i ← C.ty t
    let .map _ elem kd := i.kd | none
    let ie ← C.ty elem
    let q ← litOf (ρ k)
    bif keyKind kd q then do
      let es ← mapEnts get (ρ x)
      let r ← findA kd q es 0
      some (bif ok then .tup [lkVal r ie, .i (.lit (.bool r.isSome))] else lkVal r ie, [])
    else none
  | .mapUpdate t x k v => do
    let i ← C.ty t
    let .map _ _ kd := i.kd | none
    let q ← litOf (ρ k)
    bif keyKind kd q then
      match ρ x with
      | .map id => match get id with
        | .map es => do
          let r ← findA kd q es 0
          some (.tup [], [(id, .map (mapPut r es q (ρ v)))])
        | _ => none
      | _ => none
    else none
  | .extract t ix => match ρ t with
    | .tup vs => (vs[ix]?).map fun v => (v, [])
    | _ => none
  | .makeInterface t x => do
    let i ← C.ty t
    match i.kd with
    | .int | .string => do
      let v ← litOf (ρ x)
      some (.i (.lit (.iface t v)), [])
    | _ => none
  | .call c => match c.callee with
    | .builtin b => execB C get fresh b c.argTypes (c.args.toList.map ρ)
    | _ => none
  | _ => none

/-- The ids that an operation reads. -/
def idsTop : AV → List Nat
  | .ptr id _ _ | .rs id _ _ _ | .map id => [id]
  | _ => []

def touch (ρ : Operand → AV) (op : Op) : List Nat :=
  match op with
  | .load _ a => idsTop (ρ a)
  | .store _ a _ => idsTop (ρ a)
  | .indexAddr _ x _ | .lookup _ x _ _ | .slice _ x _ _ _ => idsTop (ρ x)
  | .mapUpdate _ x _ _ => idsTop (ρ x)
  | .call c => c.args.toList.flatMap fun x => idsTop (ρ x)
  | _ => []

/-- A value that leaves a call: its own rows are turned into values. -/
def frzI (get : Nat → Row) (n0 : Nat) : Nat → AV → Option IV
  | 0, _ => none
  | n + 1, v => match v with
    | .i (.lit (.slice none 0 0)) => some (.sl [])
    | .i x => some x
    | .e0 => some (.sl [])
    | .nn => some (.sl [])
    | .rs id off len _ => bif Nat.blt id n0 then none else match get id with
      | .cells _ es =>
        bif Nat.ble (off + len) es.length then
          (((es.drop off).take len).mapM (fun (e : List AV) => e.mapM (frzI get n0 n))).map .sl
        else none
      | _ => none
    | .fn f [] => some (.lit (.func (.func f) #[] #[]))
    | _ => none

def frz1 (get : Nat → Row) (n0 n : Nat) (v : AV) : Option AV :=
  match v with
  | .ptr id ei off => bif Nat.blt id n0 then some (.ptr id ei off) else none
  | .map id => bif Nat.blt id n0 then some (.map id) else none
  | .ipt c off => some (.ipt c off)
  | .rs id off len m => bif Nat.blt id n0 then some (.rs id off len m) else (frzI get n0 n v).map .i
  | v => (frzI get n0 n v).map .i

def frz2 (get : Nat → Row) (n0 n : Nat) (v : AV) : Option AV :=
  match v with
  | .agg cs => (cs.mapM (frz1 get n0 n)).map .agg
  | v => frz1 get n0 n v

def frz (get : Nat → Row) (n0 n : Nat) (v : AV) : Option AV :=
  match v with
  | .tup vs => (vs.mapM (frz2 get n0 n)).map .tup
  | v => frz2 get n0 n v

/-- Whether a cell names no row from n0 on. -/
def below (n0 : Nat) : AV → Bool
  | .i _ | .ipt .. | .e0 | .nn => true
  | .ptr id _ _ | .rs id _ _ _ | .map id => Nat.blt id n0
  | .fn _ [] => true
  | _ => false

def rowBelow (n0 : Nat) : Row → Bool
  | .dead => true
  | .cells _ es => es.all fun e => e.all (below n0)
  | .map es => es.all fun e => below n0 e.2

inductive Out where
  | ret (v : AV)
  | panic (v : AV)

abbrev Call := Nat → List AV → St → Option (Out × St)

/-- Which rows an operation has read and written; none: it may be any. -/
structure Acc where
  rd : Option (List Nat)
  wr : Option (List Nat)

def meets : Option (List Nat) → Option (List Nat) → Bool
  | some a, some b => a.any fun x => b.any (Nat.beq x)
  | some [], none | none, some [] => false
  | _, _ => true

def clash (a b : Acc) : Bool := meets a.wr b.rd || meets a.wr b.wr || meets a.rd b.wr

inductive OpR where
  | val (v : AV) (σ : St) (acc : Acc)
  | panic (v : AV) (σ : St)

def applyUpd (σ : St) (u : List (Nat × Row)) : St := u.foldl (fun s p => setRow s p.1 p.2) σ

def evalA (C : Ctx) (fr : Fr) : Operand → AV
  | .tmp t => look fr t
  | .const v => ofVal v
  | .global g => match C.glob g with | some c => .ipt c 0 | none => .junk
  | .func f => .fn f []

def noId : AV → Bool
  | .i _ | .ipt .. | .e0 | .nn | .junk => true
  | .agg cs => cs.all (below 0)
  | .fn _ [] => true
  | _ => false

/-- Other names; what has none is forgotten. -/
def ren (f : Nat → Option Nat) : AV → AV
  | .ptr id ei off => match f id with | some k => .ptr k ei off | none => .junk
  | .rs id off len m => match f id with | some k => .rs k off len m | none => .junk
  | .map id => match f id with | some k => .map k | none => .junk
  | .fn k caps => .fn k (renL f caps)
  | .agg cs => .agg (renL f cs)
  | .tup vs => .tup (renL f vs)
  | v => v
  where renL (f : Nat → Option Nat) : List AV → List AV
  | [] => []
  | x :: r => ren f x :: renL f r

def renRow (f : Nat → Option Nat) : Row → Row
  | .dead => .dead
  | .cells sz es => .cells sz (es.map fun e => e.map (ren f))
  | .map es => .map (es.map fun e => (e.1, ren f e.2))

def idsIn : AV → List Nat
  | .ptr id _ _ | .rs id _ _ _ | .map id => [id]
  | .fn _ vs | .agg vs | .tup vs => idsL vs
  | _ => []
  where idsL : List AV → List Nat
  | [] => []
  | x :: r => idsIn x ++ idsL r

def idsRow : Row → List Nat
  | .dead => []
  | .cells _ es => es.flatMap fun e => e.flatMap idsIn
  | .map es => es.flatMap fun e => idsIn e.2

def isDead : Row → Bool
  | .dead => true
  | _ => false

/-- The rows from n0 on that are reached, in the order in which they are met. -/
def mark (σ : St) (n0 : Nat) : Nat → List Nat → List Nat → List Nat
  | 0, _, seen => seen.reverse
  | _ + 1, [], seen => seen.reverse
  | n + 1, id :: r, seen =>
    bif Nat.blt id n0 || seen.any (Nat.beq id) then mark σ n0 n r seen else
    match getRow σ id with
    | .dead => mark σ n0 n r seen
    | row => mark σ n0 n (idsRow row ++ r) (id :: seen)

def idxIn (id : Nat) : List Nat → Nat → Option Nat
  | [], _ => none
  | x :: r, k => bif Nat.beq x id then some k else idxIn id r (k + 1)

/-- Rows that are not reached are dropped, the others moved up. -/
def compact (n0 fuel : Nat) (fr : Fr) (σ : St) : Fr × St :=
  bif Nat.beq σ.length n0 then (fr, σ) else
  let l := mark σ n0 fuel (fr.flatMap (fun p => idsIn p.2) ++ (σ.take n0).flatMap idsRow) []
  let f := fun id => bif Nat.blt id n0 then some id else idxIn id l n0
  (fr.map fun p => (p.1, ren f p.2), (σ.take n0).map (renRow f) ++ l.map fun id => renRow f (getRow σ id))

/-- Rows laid from an id on. -/
def adopt (k : Nat) : List Row → List (Nat × Row)
  | [] => []
  | r :: rest => (k, r) :: adopt (k + 1) rest

def isE0 : AV → Bool
  | .e0 | .i (.lit (.slice none 0 0)) => true
  | _ => false

/-- How many rows an operation may lay. -/
def slots (C : Ctx) : Op → Nat
  | .alloc _ | .box .. | .buildSlice .. | .makeMap .. | .makeSlice .. => 1
  | .call c => match c.callee with
    | .builtin .append => 1
    | .value (.func k) => match C.mode k with
      | .new s => s
      | .clone => 2
      | _ => 0
    | _ => 0
  | _ => 0

def callNew (call : Call) (k s fresh : Nat) (vs : List AV) (σ : St) : Option OpR :=
  match call k vs [] with
  | some (.ret v, σ1) =>
    bif Nat.ble σ1.length s then
      let f := fun id => some (id + fresh)
      let u := adopt fresh (σ1.map (renRow f))
      some (.val (ren f v) (applyUpd σ u) ⟨some [], some (u.map (·.1))⟩)
    else none
  | _ => none

/-- The one list that may be nil or not: an empty one of which nothing is known. -/
def isNilKnown : List AV → Bool
  | [.i (.sl [])] => true
  | _ => false

/-- A call of a function value. -/
def callOp (C : Ctx) (call : Call) (fresh sl : Nat) (f : AV) (args : List AV) (σ : St) : Option OpR :=
  match f with
  | .fn k caps =>
    let vs := args ++ caps
    match C.mode k with
    | .pure =>
      bif vs.all noId then
        match call k vs [] with
        | some (.ret v, []) => some (.val v σ ⟨some [], some []⟩)
        | some (.panic v, []) => some (.panic v σ)
        | _ => none
      else none
    | .new s => bif vs.all noId && Nat.ble s sl then callNew call k s fresh vs σ else none
    | .clone =>
      bif isNilKnown vs then
        match call k [.i (.lit (.slice none 0 0))] [], call k [.nn] [] with
        | some (.ret a, _), some (.ret b, _) => bif isE0 a && isE0 b then some (.val .e0 σ ⟨some [], some []⟩) else none
        | _, _ => none
      else bif vs.all noId && Nat.ble 2 sl then callNew call k 2 fresh vs σ
      else match call k vs σ with
        | some (.ret v, σ') => bif Nat.ble σ.length σ'.length then some (.val v σ' ⟨none, none⟩) else none
        | some (.panic v, σ') => some (.panic v σ')
        | none => none
    | _ =>
      match call k vs σ with
      | some (.ret v, σ') => bif Nat.ble σ.length σ'.length then some (.val v σ' ⟨none, none⟩) else none
      | some (.panic v, σ') => some (.panic v σ')
      | none => none
  | _ => none

def stepEx (C : Ctx) (ρ : Operand → AV) (fresh : Nat) (op : Op) (σ : St) : Option OpR :=
  match exec C (getRow σ) fresh ρ op with
  | some (v, u) => some (.val v (applyUpd σ u) ⟨some (touch ρ op), some (u.map (·.1))⟩)
  | none => none

def stepOp (C : Ctx) (call : Call) (ρ : Operand → AV) (fresh : Nat) (op : Op) (σ : St) : Option OpR :=
  match op with
  | .call c => match c.callee with
    | .value f => callOp C call fresh (slots C op) (ρ f) (c.args.toList.map ρ) σ
    | _ => stepEx C ρ fresh op σ
  | .panic x => match ρ x with
    | .i (.lit (.iface t v)) => some (.panic (.i (.lit (.iface t v))) σ)
    | _ => none
  | op => stepEx C ρ fresh op σ

inductive RegR where
  | norm (fr : Fr) (σ : St) (accs : List Acc)
  | panic (v : AV) (fr : Fr) (σ : St)

def wantedA (ops : List Oper) (fr : Fr) (o : Oper) : Option Bool :=
  match o.guard with
  | none => some true
  | some (j, want) => match (ops[j]?).bind (·.dst) with
    | some t => match look fr t with
      | .i (.lit (.bool b)) => some (b == want)
      | .tup _ => some false
      | _ => none
    | none => none

def putA (n : Nat) (fr : Fr) (dst : Option Nat) (v : AV) : Option Fr :=
  match dst with
  | none => some fr
  | some t => bif Nat.blt t n then some ((t, v) :: fr) else none

def runOps (C : Ctx) (call : Call) (n : Nat) (all : List Oper) : List Oper → Nat → Fr → St → List Acc → Option RegR
  | [], _, fr, σ, acc => some (.norm fr σ acc.reverse)
  | o :: rest, fresh, fr, σ, acc => do
    let w ← wantedA all fr o
    bif w then
      match stepOp C call (evalA C fr) fresh o.op σ with
      | some (.val v σ' a) => do
        let fr' ← putA n fr o.dst v
        runOps C call n all rest (fresh + slots C o.op) fr' σ' (a :: acc)
      | some (.panic v σ') => some (.panic v fr σ')
      | none => none
    else do
      let fr' ← putA n fr o.dst (.tup [])
      runOps C call n all rest (fresh + slots C o.op) fr' σ (⟨some [], some []⟩ :: acc)

/-- The operations that surely come before each. -/
def masks (ops : List Oper) : List Nat := (Region.before ops.toArray).toList

def opTmps (ops : List Oper) (o : Oper) : List Nat :=
  (o.op.operands.toList.filterMap fun | .tmp t => some t | _ => none) ++
  (match o.guard with | some (g, _) => ((ops[g]?).bind (·.dst)).toList | none => [])

/-- The part of the check of a region that does not hang on the run. -/
def staticOk (ops : List Oper) (ms : List Nat) : Bool :=
  let all := ops.zip ms |>.zipIdx
  all.all fun ((o, m), j) =>
    (o.after.all fun e => !Region.binds .any e || Nat.blt e.on j) &&
    (match o.op with | .select .. | .go _ | .defer _ | .panic _ => false | _ => true) &&
    all.all fun ((p, _), i) => !(Nat.blt i j) || m.testBit i ||
      (match p.dst with | some d => !((opTmps ops o).contains d) && !(o.dst == some d) | none => true) &&
      (match o.dst with | some d => !((opTmps ops p).contains d) | none => true)

def dynOk (ms : List Nat) (accs : List Acc) : Bool :=
  let all := accs.zip ms |>.zipIdx
  all.all fun ((a, m), j) => all.all fun ((b, _), i) => !(Nat.blt i j) || m.testBit i || !clash a b

def prune (locs : List Nat) (fr : Fr) : Fr := locs.map fun t => (t, look fr t)

inductive Ex where
  | norm
  | exit (id : Nat)
  | ret
  | panic (v : AV)

def runRegion (C : Ctx) (call : Call) (fi : FI) (ops : List Oper) (draw : Bool) (fr : Fr) (σ : St) : Option (Ex × Fr × St) :=
  let fr := prune fi.locs fr
  let m := ops.foldl (fun n o => n + slots C o.op) 0
  let σ1 := bif Nat.beq m 0 then σ else σ ++ List.replicate m .dead
  match runOps C call fi.ntmps ops ops σ.length fr σ1 [] with
  | some (.norm fr' σ' accs) =>
    bif draw then
      let ms := masks ops
      bif staticOk ops ms && dynOk ms accs && Nat.beq σ'.length σ1.length then some (.norm, fr', σ') else none
    else some (.norm, fr', σ')
  | some (.panic v fr' σ') => bif draw then none else some (.panic v, fr', σ')
  | none => none

def iter (f : Fr → St → Option (Ex × Fr × St)) : Nat → Fr → St → Option (Ex × Fr × St)
  | 0, _, _ => none
  | n + 1, fr, σ => match f fr σ with
    | some (.norm, fr', σ') => iter f n fr' σ'
    | r => r

def run (C : Ctx) (call : Call) (fi : FI) (fuel n0 : Nat) : Code → Fr → St → Option (Ex × Fr × St)
  | .skip, fr, σ => some (.norm, fr, σ)
  | .region _ ops draw, fr, σ => runRegion C call fi ops.toList draw fr σ
  | .seq a b, fr, σ => match run C call fi fuel n0 a fr σ with
    | some (.norm, fr', σ') => run C call fi fuel n0 b fr' σ'
    | r => r
  | .cond c a b, fr, σ => match evalA C fr c with
    | .i (.lit (.bool t)) => bif t then run C call fi fuel n0 a fr σ else run C call fi fuel n0 b fr σ
    | _ => none
  | .block id b, fr, σ => match run C call fi fuel n0 b fr σ with
    | some (.exit id', fr', σ') => bif Nat.beq id' id then some (.norm, fr', σ') else some (.exit id', fr', σ')
    | r => r
  | .loop b, fr, σ => iter (fun fr σ => match compact n0 fuel (prune fi.locs fr) σ with | (fr, σ) => run C call fi fuel n0 b fr σ) fuel fr σ
  | .exit id, fr, σ => some (.exit id, fr, σ)
  | .ret, fr, σ => some (.ret, fr, σ)
  | _, _, _ => none

def resA (C : Ctx) (fr : Fr) (σ : St) : ResultVar → Option AV
  | .tmp t => some (look fr t)
  | .cell a t => match exec C (getRow σ) 0 (evalA C fr) (.load t (.tmp a)) with
    | some (v, _) => some v
    | none => none

def finish (keep : Bool) (σ : St) (n0 fuel : Nat) (mk : AV → Out) (v : AV) : Option (Out × St) :=
  bif keep then some (mk v, σ) else bif (σ.take n0).all (rowBelow n0) then
    match frz (getRow σ) n0 fuel v with
    | some v' => some (mk v', σ.take n0)
    | none => some (mk v, σ)
  else some (mk v, σ)

def keeps : CMode → Bool
  | .keep | .clone | .new _ => true
  | _ => false

def F (C : Ctx) : Nat → Call
  | 0, _, _, _ => none
  | n + 1, f, args, σ => do
    let fi ← C.fn f
    let fr : Fr := args.zipIdx.map fun p => (p.2, p.1)
    bif Nat.ble args.length fi.ntmps then
      match run C (F C n) fi n σ.length fi.body fr σ with
      | some (.norm, fr', σ') | some (.ret, fr', σ') => do
        let vs ← fi.results.mapM (resA C fr' σ')
        let v := match vs with | [v] => v | vs => .tup vs
        finish (keeps (C.mode f)) σ' σ.length n .ret v
      | some (.panic v, _, σ') => finish (keeps (C.mode f)) σ' σ.length n .panic v
      | _ => none
    else none

end Go.Ai

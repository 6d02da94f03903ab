/-
  The evaluation of the model's code over abstract values. Own work; definitions alone.
  What is proved: nothing here; no condition.
-/
import Derived.Test.YtpbfmaodnihpeaaAvBase
namespace Go.Av

/-! ### types, read once -/
inductive TD where
  | int (k : IntKind)
  | bool
  | str
  | ptr (e : TypeId)
  | slice (e : TypeId)
  | struct (fs : List (Nat × TypeId))
  | array (n : Nat) (e : TypeId)
  | map (k e : TypeId)
  | func
  | other

structure TI where
  d : TD
  sz : Nat
  bytes : Nat
  zero : List AV

def TD.agg : TD → Bool
  | .struct _ | .array _ _ => true
  | _ => false

def ofValue1 : Value → AV
  | .bool b => .bool b
  | .int k n => .int k n
  | .string s => .str s.data.toList
  | .slice none 0 0 => .nilS
  | .pointer none => .nilP
  | .map none => .nilM
  | .nilFunc => .nilF
  | .nilIface => .nilI
  | _ => .junk

def ofValue : Value → AV
  | .agg cs => .agg (cs.toList.map ofValue1)
  | v => ofValue1 v

def tdOf : TypeDesc → TD
  | .int k => .int k
  | .bool => .bool
  | .string => .str
  | .pointer e => .ptr e
  | .slice e => .slice e
  | .struct fs => .struct (fs.toList.map fun f => (f.offset, f.type))
  | .array n e => .array n e
  | .map k e => .map k e
  | .func _ _ _ => .func
  | _ => .other

def tiOf (P : Program) (t : TypeId) : Option TI :=
  match P.info? t, P.underlying t with
  | some i, some u =>
    match i.zero with
    | some z => some { d := tdOf u, sz := i.size, bytes := i.bytes, zero := z.cells.toList.map ofValue1 }
    | none => none
  | _, _ => none

/-! ### modes of calls -/
inductive CMode where
  | scal | pfrz | pown | imp | ifrz
  deriving DecidableEq

inductive Tgt where
  | f (f : FuncId)
  | y (id : Nat)

abbrev Orac := Tgt → List AV → AH → Option (AV × AH)

structure Cfg where
  P : Program
  ty : TypeId → Option TI
  mode : FuncId → CMode
  /-- the operations whose slices are frozen ahead of them: function, region, place -/
  frz : FuncId → Nat → Nat → Bool
  /-- which slots are kept at a loop's head and behind it, the others being forgotten: function, the loop body's first region -/
  mask : FuncId → Nat → Option (List Tmp × List Tmp)
  ext : FuncId → Option (List AV → AH → Option (AV × AH))
  /-- the functions that may be entered -/
  known : FuncId → Bool
  /-- the types of data: whether a slice in them is nil is forgotten -/
  dat : TypeId → Bool

def Cfg.sz (c : Cfg) (t : TypeId) : Option Nat := match c.ty t with | some i => some i.sz | none => none

def Cfg.td (c : Cfg) (t : TypeId) : Option TD := match c.ty t with | some i => some i.d | none => none

def AV.scalar1 : AV → Bool
  | .int _ _ | .bool _ | .str _ | .nilS | .nilP => true
  | _ => false

def scalarL : List AV → Bool
  | [] => true
  | a :: l => a.scalar1 && scalarL l

def AV.scalar : AV → Bool
  | .agg cs | .tup cs => scalarL cs
  | a => a.scalar1

/-! ### rows -/
def rowsOk (n : Nat) : List (List AV) → Bool
  | [] => true
  | r :: _ => r.length == n

def byteRows (s : List UInt8) : List (List AV) := s.map fun b => [AV.int .u8 b.toNat]

def blkRows (H : AH) (id : Nat) : Option (Nat × List (List AV)) :=
  match H[id]? with
  | some (.rows _ sz rs) => some (sz, rs)
  | some (.froz _ sz rs) => some (sz, rs)
  | _ => none

/-- the block's rows refer to no block -/
def blkFree (H : AH) (id : Nat) : Bool :=
  match H[id]? with
  | some (.rows d _ _) => d
  | some (.froz d _ _) => d
  | _ => false

def srcFree (H : AH) : AV → Bool
  | .sl _ | .str _ | .nilS => true
  | .ms id _ _ => blkFree H id
  | _ => false

/-- the rows of a slice whose rows have n cells -/
def rowsOf (H : AH) (n : Nat) : AV → Option (List (List AV))
  | .nilS => some []
  | .sl rows => if rowsOk n rows then some rows else none
  | .ms id off len =>
    match blkRows H id with
    | some (sz, rs) => if sz == n && Nat.ble (off + len) rs.length then some ((rs.drop off).take len) else none
    | none => none
  | _ => none

def allCells : List AV → Bool
  | [] => true
  | a :: l => a.isCell && allCells l

def AV.cells : AV → Option (List AV)
  | .agg cs => if allCells cs then some cs else none
  | .tup _ | .junk => none
  | v => some [v]

def aLoad (agg : Bool) (n : Nat) (H : AH) : AV → Option AV
  | .ptr id r off =>
    match blkRows H id with
    | some (_, rs) =>
      match rs[r]? with
      | some row => if agg then (if Nat.ble (off + n) row.length then some (.agg ((row.drop off).take n)) else none) else row[off]?
      | none => none
    | none => none
  | .cptr cs off => if agg then (if Nat.ble (off + n) cs.length then some (.agg ((cs.drop off).take n)) else none) else cs[off]?
  | _ => none

def aStore (n : Nat) (H : AH) (p v : AV) : Option AH :=
  match p, v.cells with
  | .ptr id r off, some cs =>
    match H[id]? with
    | some (.rows d sz rs) =>
      match rs[r]? with
      | some row => if cs.length == n && Nat.ble (off + n) row.length then some (H.set id (.rows (d && refsLtL 0 cs) sz (rs.set r (row.take off ++ cs ++ row.drop (off + n))))) else none
      | none => none
    | _ => none
  | _, _ => none

/-- a new block: at the end, or at a place that was kept for it -/
def aNew (nid : Option Nat) (H : AH) (b : ABlk) : Option (Nat × AH) :=
  match nid with
  | none => some (H.length, H ++ [b])
  | some k =>
    match H[k]? with
    | some .res => some (k, H.set k b)
    | _ => none

/-! ### freezing -/
def hasId (id : Nat) : List Nat → Bool
  | [] => false
  | a :: l => Nat.beq a id || hasId id l

def AV.frz1 (ids : List Nat) (H : AH) : AV → AV
  | .ms id off len =>
    match blkRows H id with
    | some (_, rs) => if hasId id ids && Nat.ble (off + len) rs.length && (blkFree H id || refsLtR 0 ((rs.drop off).take len)) then .sl ((rs.drop off).take len) else .ms id off len
    | none => .ms id off len
  | a => a

def AV.frz (ids : List Nat) (H : AH) : AV → AV
  | .agg cs => .agg (cs.map (AV.frz1 ids H))
  | .tup cs => .tup (cs.map (AV.frz1 ids H))
  | a => a.frz1 ids H

def AV.msId : AV → List Nat
  | .ms id _ _ => [id]
  | _ => []

def AV.msIds : AV → List Nat
  | .agg cs => cs.flatMap AV.msId
  | .tup cs => cs.flatMap AV.msId
  | a => a.msId

/-- whether a slice is nil is forgotten -/
def AV.fg1 : AV → AV
  | .nilS => .sl []
  | a => a

def AV.fg : AV → AV
  | .agg cs => .agg (cs.map AV.fg1)
  | .tup cs => .tup (cs.map AV.fg1)
  | a => a.fg1

def Cfg.fgs (c : Cfg) (t : TypeId) (cs : List AV) : List AV := if c.dat t then cs.map AV.fg1 else cs

def frzBlk (H : AH) (id : Nat) : AH :=
  match H[id]? with
  | some (.rows d sz rs) => H.set id (.froz d sz rs)
  | _ => H

def frzBlks (ids : List Nat) (H : AH) : AH := ids.foldl frzBlk H

/-- a reading that lasts as long as nobody writes: slices by their rows, addresses by their row -/
def AV.snap1 (H : AH) : AV → AV
  | .ms id off len => AV.frz1 [id] H (.ms id off len)
  | .ptr id r off =>
    match blkRows H id with
    | some (_, rs) =>
      match rs[r]? with
      | some row => .cptr row off
      | none => .ptr id r off
    | none => .ptr id r off
  | a => a

def AV.snap (H : AH) : AV → AV
  | .agg cs => .agg (cs.map (AV.snap1 H))
  | .fn f a b => .fn f (a.map (AV.snap1 H)) (b.map (AV.snap1 H))
  | a => a.snap1 H

/-! ### scalars -/
def fromSem : Sem Value → Option AV
  | .pure (.int k n) => some (.int k n)
  | .pure (.bool b) => some (.bool b)
  | _ => none

def aStr (op : BinOp) (a b : List UInt8) : Option AV :=
  match op with
  | .add => if a.length + b.length ≤ 9223372036854775807 then some (.str (a ++ b)) else none
  | .eql => some (.bool (a == b))
  | .neq => some (.bool (!(a == b)))
  | .lss => some (.bool (Op.bytesLess a b))
  | .leq => some (.bool (Op.bytesLess a b || a == b))
  | .gtr => some (.bool (!(Op.bytesLess a b || a == b)))
  | .geq => some (.bool (!(Op.bytesLess a b)))
  | _ => none

/-- is it nil? of slices, addresses, maps and functions -/
def AV.isNil : TD → AV → Option Bool
  | .slice _, .nilS => some true
  | .slice _, .sl (_ :: _) => some false
  | .slice _, .ms _ _ _ => some false
  | .ptr _, .nilP => some true
  | .ptr _, .ptr _ _ _ => some false
  | .ptr _, .cptr _ _ => some false
  | .map _ _, .nilM => some true
  | .map _ _, .mp _ => some false
  | .func, .nilF => some true
  | .func, .fn _ _ _ => some false
  | .func, .yld _ => some false
  | _, _ => none

def aNilEq (d : TD) (x y : AV) : Option Bool :=
  match x.isNil d, y.isNil d with
  | some true, some b => some b
  | some false, some true => some false
  | _, _ => none

def aBin (cfg : Cfg) (op : BinOp) (t : TypeId) (x y : AV) : Option AV :=
  match x, y with
  | .int k a, .int k' b => fromSem (binOp op t (.int k a) (.int k' b))
  | .str a, .str b => aStr op a b
  | .bool a, .bool b =>
    match op, cfg.td t with
    | .eql, some .bool => some (.bool (a == b))
    | .neq, some .bool => some (.bool (!(a == b)))
    | _, _ => none
  | x, y =>
    match op, cfg.td t with
    | .eql, some d => (aNilEq d x y).map .bool
    | .neq, some d => (aNilEq d x y).map fun b => .bool (!b)
    | _, _ => none

def aUn (op : UnOp) : AV → Option AV
  | .int k n => fromSem (Op.unary op (.int k n))
  | .bool b => fromSem (Op.unary op (.bool b))
  | _ => none

/-! ### operations -/
/-- parts put into cells -/
def aFill (place : Nat → Option (Nat × Nat)) (cells : List AV) : List (Nat × AV) → Option (List AV)
  | [] => some cells
  | (i, v) :: rest =>
    match place i, v.cells with
    | some (off, size), some cs =>
      if cs.length == size && Nat.ble (off + size) cells.length then aFill place (cells.take off ++ cs ++ cells.drop (off + size)) rest else none
    | _, _ => none

/-- the fields' places and sizes -/
def placesOf (cfg : Cfg) : List (Nat × TypeId) → Option (List (Nat × Nat))
  | [] => some []
  | (off, t) :: l =>
    match cfg.sz t, placesOf cfg l with
    | some n, some ps => some ((off, n) :: ps)
    | _, _ => none

/-- rows put into rows -/
def aRows (n : Nat) (rows : List (List AV)) : List (Nat × AV) → Option (List (List AV))
  | [] => some rows
  | (i, v) :: rest =>
    match v.cells with
    | some cs => if cs.length == n && Nat.blt i rows.length then aRows n (rows.set i cs) rest else none
    | none => none

def bound? (lo hi : Nat) (x : Option AV) (dflt : Nat) : Option Nat :=
  match x with
  | none => some dflt
  | some (.int _ i) => if (lo : Int) ≤ i ∧ i ≤ hi then some i.toNat else none
  | _ => none

/-- x[lo:hi:mx] of a slice of n rows -/
def sliceBd (n : Nat) (lo hi mx : Option AV) : Option (Nat × Nat) :=
  if hi.isNone && mx.isSome then none else
  match bound? 0 n hi n with
  | some h =>
    match bound? h n mx h with
    | some _ =>
      match bound? 0 h lo 0 with
      | some l => some (l, h)
      | none => none
    | none => none
  | none => none

def aSlice (cfg : Cfg) (t : TypeId) (H : AH) (x : AV) (lo hi mx : Option AV) : Option AV :=
  match cfg.td t, x with
  | some .str, .str s =>
    match mx, sliceBd s.length lo hi none with
    | none, some (l, h) => some (.str ((s.drop l).take (h - l)))
    | _, _ => none
  | some (.slice e), .nilS =>
    match cfg.sz e, sliceBd 0 lo hi mx with
    | some _, some _ => some .nilS
    | _, _ => none
  | some (.slice e), .sl rows =>
    match cfg.sz e, sliceBd rows.length lo hi mx with
    | some n, some (l, h) => if rowsOk n rows then some (.sl ((rows.drop l).take (h - l))) else none
    | _, _ => none
  | some (.slice e), .ms id off len =>
    match cfg.sz e, sliceBd len lo hi mx, blkRows H id with
    | some n, some (l, h), some (sz, _) => if sz == n then some (.ms id (off + l) (h - l)) else none
    | _, _, _ => none
  | _, _ => none

def aIndexAddr (cfg : Cfg) (t : TypeId) (H : AH) (x i : AV) : Option AV :=
  match cfg.td t, x, i with
  | some (.slice e), .ms id off len, .int _ i =>
    match cfg.sz e, blkRows H id with
    | some n, some (sz, _) => if sz == n ∧ 0 ≤ i ∧ i < len then some (.ptr id (off + i.toNat) 0) else none
    | _, _ => none
  | some (.slice e), .sl rows, .int _ i =>
    match cfg.sz e with
    | some n =>
      if 0 ≤ i ∧ i < rows.length then
        match rows[i.toNat]? with
        | some row => if row.length == n then some (.cptr row 0) else none
        | none => none
      else none
    | none => none
  | some (.array n e), .ptr id r off, .int _ i =>
    match cfg.sz e with
    | some sz => if 0 ≤ i ∧ i < n then some (.ptr id r (off + i.toNat * sz)) else none
    | none => none
  | some (.array n e), .cptr cs off, .int _ i =>
    match cfg.sz e with
    | some sz => if 0 ≤ i ∧ i < n then some (.cptr cs (off + i.toNat * sz)) else none
    | none => none
  | _, _, _ => none

def aPart (cfg : Cfg) (t : TypeId) (cs : List AV) (off : Nat) : Option AV :=
  match cfg.ty t with
  | some ti => if ti.d.agg then (if Nat.ble (off + ti.sz) cs.length then some (.agg ((cs.drop off).take ti.sz)) else none) else cs[off]?
  | none => none

def aIndex (cfg : Cfg) (t : TypeId) (x i : AV) : Option AV :=
  match cfg.td t, x, i with
  | some (.array n e), .agg cs, .int _ i =>
    match cfg.sz e with
    | some sz => if 0 ≤ i ∧ i < n then aPart cfg e cs (i.toNat * sz) else none
    | none => none
  | some .str, .str s, .int _ i =>
    if 0 ≤ i then
      match s[i.toNat]? with
      | some b => some (.int .u8 b.toNat)
      | none => none
    else none
  | _, _, _ => none

def aField (cfg : Cfg) (t : TypeId) (x : AV) (f : Nat) : Option AV :=
  match cfg.td t, x with
  | some (.struct fs), .agg cs =>
    match fs[f]? with
    | some (off, ft) => aPart cfg ft cs off
    | none => none
  | _, _ => none

def aFieldAddr (cfg : Cfg) (t : TypeId) (x : AV) (f : Nat) : Option AV :=
  match cfg.td t with
  | some (.struct fs) =>
    match fs[f]? with
    | some (o, ft) =>
      match cfg.sz ft, x with
      | some (_ + 1), .ptr id r off => some (.ptr id r (off + o))
      | some (_ + 1), .cptr cs off => some (.cptr cs (off + o))
      | _, _ => none
    | none => none
  | _ => none

def bytesOfRows : List (List AV) → Option (List UInt8)
  | [] => some []
  | [.int .u8 n] :: l =>
    if 0 ≤ n ∧ n < 256 then
      match bytesOfRows l with
      | some bs => some (UInt8.ofNat n.toNat :: bs)
      | none => none
    else none
  | _ => none

def aConvert (cfg : Cfg) (nid : Option Nat) (src dst : TypeId) (x : AV) (H : AH) : Option (AV × AH) :=
  match cfg.td src, cfg.td dst, x with
  | some _, some (.int k), .int _ n => some (.int k (k.wrap n), H)
  | some _, some .str, .str s => some (.str s, H)
  | some _, some (.slice e), .str s =>
    match cfg.td e with
    | some (.int .u8) =>
      match aNew nid H (.rows true 1 (byteRows s)) with
      | some (k, H') => some (.ms k 0 s.length, H')
      | none => none
    | _ => none
  | some (.slice e), some .str, x =>
    match cfg.td e, rowsOf H 1 x with
    | some (.int .u8), some rows =>
      match bytesOfRows rows with
      | some bs => some (.str bs, H)
      | none => none
    | _, _ => none
  | _, _, _ => none

def TD.notInt : TD → Bool
  | .int _ => false
  | _ => true

/-- the rows of what is appended, or copied: a slice's, or a text's bytes -/
def srcRows (H : AH) (sz : Nat) : AV → Option (List (List AV))
  | .str b => if Nat.beq sz 1 then some (byteRows b) else none
  | x => rowsOf H sz x

def fitsIn (n bytes : Nat) : Bool := Nat.ble (n * bytes) 140737488355328 && Nat.ble n 9223372036854775807

def aAppend (cfg : Cfg) (nid : Option Nat) (t xt : TypeId) (s x : AV) (H : AH) : Option (AV × AH) :=
  match cfg.td t, cfg.td xt with
  | some (.slice e), some xd =>
    match cfg.ty e with
    | some ei =>
      if xd.notInt && Nat.blt 0 ei.sz && Nat.beq ei.zero.length ei.sz then
        match srcRows H ei.sz x with
        | some news =>
          match s with
          | .nilS =>
            if news.isEmpty then some (.nilS, H)
            else if fitsIn news.length ei.bytes then
              match aNew nid H (.rows (srcFree H x) ei.sz news) with
              | some (k, H') => some (.ms k 0 news.length, H')
              | none => none
            else none
          | .ms id off len =>
            match H[id]? with
            | some (.rows d sz rs) =>
              if Nat.beq sz ei.sz && Nat.ble (off + len) rs.length && fitsIn (len + news.length) ei.bytes then
                match aNew nid (H.set id .dead) (.rows (d && srcFree H x) sz ((rs.drop off).take len ++ news)) with
                | some (k, H') => some (.ms k 0 (len + news.length), H')
                | none => none
              else none
            | _ => none
          | _ => none
        | none => none
      else none
    | none => none
  | _, _ => none

def aLen (cfg : Cfg) (t : TypeId) (x : AV) (H : AH) : Option AV :=
  match cfg.td t, x with
  | some .str, .str s => some (.int .i64 s.length)
  | some (.slice _), .nilS => some (.int .i64 0)
  | some (.slice _), .sl rows => some (.int .i64 rows.length)
  | some (.slice _), .ms _ _ len => some (.int .i64 len)
  | some (.array n _), _ => some (.int .i64 n)
  | some (.map _ _), .nilM => some (.int .i64 0)
  | some (.map _ _), .mp id =>
    match H[id]? with
    | some (.mp es) => some (.int .i64 es.length)
    | _ => none
  | _, _ => none

def aMin (lt : Int → Int → Bool) : List AV → Option AV
  | [.int k a, .int k' b] => if k = k' then some (.int k (if lt b a then b else a)) else none
  | _ => none

def rowZero (ti : TI) : Bool := Nat.blt 0 ti.sz && Nat.beq ti.zero.length ti.sz && allCells ti.zero

def aMake (cfg : Cfg) (nid : Option Nat) (t : TypeId) (len cap : AV) (H : AH) : Option (AV × AH) :=
  match cfg.td t, len, cap with
  | some (.slice e), .int .i64 n, .int .i64 c =>
    match cfg.ty e with
    | some ei =>
      if rowZero ei then
        if 0 ≤ n ∧ n ≤ c ∧ c * ei.bytes ≤ 140737488355328 ∧ c ≤ 9223372036854775807 then
          match aNew nid H (.rows true ei.sz (List.replicate n.toNat ei.zero)) with
          | some (k, H') => some (.ms k 0 n.toNat, H')
          | none => none
        else none
      else none
    | none => none
  | _, _, _ => none

def aClear (cfg : Cfg) (t : TypeId) (x : AV) (H : AH) : Option AH :=
  match cfg.td t, x with
  | some (.slice _), .nilS => some H
  | some (.slice e), .ms id off len =>
    match cfg.ty e, H[id]? with
    | some ei, some (.rows d sz rs) =>
      if rowZero ei && Nat.beq sz ei.sz && Nat.ble (off + len) rs.length then
        some (H.set id (.rows d sz (rs.take off ++ List.replicate len ei.zero ++ rs.drop (off + len))))
      else none
    | _, _ => none
  | _, _ => none

def aCopy (cfg : Cfg) (t : TypeId) (d s : AV) (H : AH) : Option (AV × AH) :=
  match cfg.td t, d with
  | some (.slice e), .ms id off len =>
    match cfg.sz e, H[id]? with
    | some n, some (.rows d sz rs) =>
      match srcRows H n s with
      | some news =>
        if Nat.beq sz n && Nat.ble (off + len) rs.length && Nat.blt 0 sz then
          some (.int .i64 (Nat.min news.length len), H.set id (.rows (d && srcFree H s) sz (rs.take off ++ news.take len ++ rs.drop (off + (news.take len).length))))
        else none
      | none => none
    | _, _ => none
  | _, _ => none

/-- an operation that calls nobody; for one that yields nothing: 'junk' -/
def evOp (cfg : Cfg) (nid : Option Nat) (o : Op) (ty : TypeId) (x : Operand → AV) (H : AH) : Option (AV × AH) :=
  match o with
  | .move a | .assign a => some (x a, H)
  | .pick c a b =>
    match x c with
    | .bool t => some (if t then x a else x b, H)
    | _ => none
  | .alloc t =>
    match cfg.ty t with
    | some ti =>
      if allCells ti.zero then
        match aNew nid H (.rows false ti.zero.length [cfg.fgs t ti.zero]) with
        | some (k, H') => some (.ptr k 0 0, H')
        | none => none
      else none
    | none => none
  | .box _ a =>
    match (x a).cells with
    | some cs =>
      match aNew nid H (.rows false cs.length [cs]) with
      | some (k, H') => some (.ptr k 0 0, H')
      | none => none
    | none => none
  | .build t parts =>
    match cfg.ty t with
    | some ti =>
      if allCells ti.zero then
        match ti.d with
        | .struct fs =>
          match placesOf cfg fs with
          | some ps => (aFill (fun i => ps[i]?) ti.zero (parts.toList.map fun p => (p.1, x p.2))).map fun cs => (.agg (cfg.fgs t cs), H)
          | none => none
        | .array _ e =>
          match cfg.sz e with
          | some n => (aFill (fun i => some (i * n, n)) ti.zero (parts.toList.map fun p => (p.1, x p.2))).map fun cs => (.agg cs, H)
          | none => none
        | _ => none
      else none
    | none => none
  | .buildSlice t len parts =>
    match cfg.td t with
    | some (.slice e) =>
      match cfg.ty e with
      | some ei =>
        if rowZero ei && Nat.ble (len * ei.sz) 16777216 then
          match aRows ei.sz (List.replicate len ei.zero) (parts.toList.map fun p => (p.1, x p.2)) with
          | some rows =>
            match aNew nid H (.rows (refsLtR 0 rows) ei.sz rows) with
            | some (k, H') => some (.ms k 0 len, H')
            | none => none
          | none => none
        else none
      | none => none
    | _ => none
  | .load t a =>
    match cfg.ty t with
    | some ti => (aLoad ti.d.agg ti.sz H (x a)).map fun v => (v, H)
    | none => none
  | .store t a v =>
    match cfg.sz t with
    | some n => (aStore n H (x a) (x v)).map fun H' => (.junk, H')
    | none => none
  | .nilCheck a =>
    match x a with
    | .ptr id r off => some (.ptr id r off, H)
    | .cptr cs off => some (.cptr cs off, H)
    | .fn (.func f) a b => some (.fn (.func f) a b, H)
    | .mp id => some (.mp id, H)
    | .yld id => some (.yld id, H)
    | _ => none
  | .binOp op t a b _ => (aBin cfg op t (x a) (x b)).map fun v => (v, H)
  | .unOp op _ a => (aUn op (x a)).map fun v => (v, H)
  | .convert s d a => aConvert cfg nid s d (x a) H
  | .makeFunc f first caps => some (.fn f (first.toList.map x) (caps.toList.map x), H)
  | .makeSlice t l c => aMake cfg nid t (x l) (x c) H
  | .slice t a lo hi mx => (aSlice cfg t H (x a) (lo.map x) (hi.map x) (mx.map x)).map fun v => (v, H)
  | .fieldAddr t a f => (aFieldAddr cfg t (x a) f).map fun v => (v, H)
  | .field t a f => (aField cfg t (x a) f).map fun v => (v, H)
  | .indexAddr t a i => (aIndexAddr cfg t H (x a) (x i)).map fun v => (v, H)
  | .index t a i => (aIndex cfg t (x a) (x i)).map fun v => (v, H)
  | .extract t i =>
    match x t with
    | .tup vs => (vs[i]?).map fun v => (v, H)
    | _ => none
  | .call c =>
    match c.callee, c.args.toList, c.argTypes.toList with
    | .builtin .len, [a], [t] => (aLen cfg t (x a) H).map fun v => (v, H)
    | .builtin .append, [s, a], [t, xt] => aAppend cfg nid t xt (x s) (x a) H
    | .builtin .copy, [d, s], [t, _] => aCopy cfg t (x d) (x s) H
    | .builtin .clear, [a], [t] => (aClear cfg t (x a) H).map fun H' => (.tup [], H')
    | .builtin .min, [a, b], _ => (aMin (fun b a => decide (b < a)) [x a, x b]).map fun v => (v, H)
    | .builtin .max, [a, b], _ => (aMin (fun b a => decide (a < b)) [x a, x b]).map fun v => (v, H)
    | _, _, _ => none
  | _ => none

/-! ### new numbers for blocks from k on that are still reached -/
mutual
def AV.idsGe (k : Nat) : AV → List Nat
  | .agg cs => idsGeL k cs
  | .tup cs => idsGeL k cs
  | .sl _ => []
  | .ms id _ _ => if Nat.blt id k then [] else [id]
  | .ptr id _ _ => if Nat.blt id k then [] else [id]
  | .cptr cs _ => idsGeL k cs
  | .fn _ a b => idsGeL k a ++ idsGeL k b
  | .yld id => if Nat.blt id k then [] else [id]
  | .mp id => if Nat.blt id k then [] else [id]
  | .ifc _ v => v.idsGe k
  | _ => []
def idsGeL (k : Nat) : List AV → List Nat
  | [] => []
  | a :: l => a.idsGe k ++ idsGeL k l
def idsGeR (k : Nat) : List (List AV) → List Nat
  | [] => []
  | a :: l => idsGeL k a ++ idsGeR k l
end

mutual
def AV.ren (ρ : Nat → Nat) : AV → AV
  | .agg cs => .agg (renL ρ cs)
  | .tup cs => .tup (renL ρ cs)
  | .ms id a b => .ms (ρ id) a b
  | .ptr id a b => .ptr (ρ id) a b
  | .cptr cs o => .cptr (renL ρ cs) o
  | .fn f a b => .fn f (renL ρ a) (renL ρ b)
  | .yld id => .yld (ρ id)
  | .mp id => .mp (ρ id)
  | .ifc t v => .ifc t (v.ren ρ)
  | v => v
def renL (ρ : Nat → Nat) : List AV → List AV
  | [] => []
  | a :: l => a.ren ρ :: renL ρ l
def renR (ρ : Nat → Nat) : List (List AV) → List (List AV)
  | [] => []
  | a :: l => renL ρ a :: renR ρ l
end

def ABlk.idsGe (k : Nat) : ABlk → List Nat
  | .rows d _ rs | .froz d _ rs => if d then [] else idsGeR k rs
  | .mp es => es.flatMap fun e => e.1.idsGe k ++ e.2.idsGe k
  | .loop _ fr _ _ _ _ _ => idsGeL k fr
  | .dead | .res => []

def ABlk.ren (ρ : Nat → Nat) : ABlk → ABlk
  | .rows d n rs => .rows d n (if d then rs else renR ρ rs)
  | .froz d n rs => .froz d n (if d then rs else renR ρ rs)
  | .mp es => .mp (es.map fun e => (e.1.ren ρ, e.2.ren ρ))
  | .loop f fr ps a b p s => .loop f (renL ρ fr) ps a b p s
  | .dead => .dead
  | .res => .res

def idsGeH (k : Nat) : AH → List Nat
  | [] => []
  | b :: l => b.idsGe k ++ idsGeH k l

def renH (ρ : Nat → Nat) : AH → AH
  | [] => []
  | b :: l => b.ren ρ :: renH ρ l

def idsAt (k : Nat) (H : AH) (id : Nat) : List Nat :=
  match H[id]? with
  | some b => b.idsGe k
  | none => []

def reach (k : Nat) (H : AH) : Nat → List Nat → List Nat → List Nat
  | 0, found, _ => found
  | _ + 1, found, [] => found
  | n + 1, found, id :: todo => if hasId id found then reach k H n found todo else reach k H n (found ++ [id]) (todo ++ idsAt k H id)

def allIn (L : List Nat) : List Nat → Bool
  | [] => true
  | a :: l => hasId a L && allIn L l

def placeIn (id : Nat) : Nat → List Nat → Option Nat
  | _, [] => none
  | j, a :: l => if Nat.beq a id then some j else placeIn id (j + 1) l

def renTo (k : Nat) (L : List Nat) (id : Nat) : Nat :=
  if Nat.blt id k then id else
  match placeIn id k L with
  | some j => j
  | none => id

def blksOf (H : AH) : List Nat → Option AH
  | [] => some []
  | id :: l =>
    match H[id]?, blksOf H l with
    | some b, some bs => some (b :: bs)
    | _, _ => none

/-- of the blocks from k on, just those that are reached are left, in the order in which they are come to -/
def gcAll (k : Nat) (fr : List AV) (H : AH) : List AV × AH :=
  let L := reach k H (2 * H.length + 16) [] (idsGeL k fr ++ idsGeH k (H.take k))
  match blksOf H L with
  | some bs =>
    if allIn L (idsGeL k fr) && allIn L (idsGeH k (H.take k)) && allIn L (idsGeH k bs) && Nat.ble k H.length then
      (renL (renTo k L) fr, renH (renTo k L) (H.take k) ++ renH (renTo k L) bs)
    else (fr, H)
  | none => (fr, H)

def gc (k : Nat) (fr : List AV) (H : AH) : List AV × AH := if Nat.ble H.length k then (fr, H) else gcAll k fr H

/-! ### calls -/
/-- a result whose one slice is the caller's own from now on -/
def ownRes (nid : Option Nat) (G : AH) (r : AV) (H : AH) : Option (AV × AH) :=
  match r with
  | .ms id off len =>
    match G[id]? with
    | some (.rows d sz rs) =>
      if d || refsLtR 0 rs then
        match aNew nid H (.rows true sz rs) with
        | some (k, H') => some (.ms k off len, H')
        | none => none
      else none
    | _ => none
  | r => if r.refsLt 0 then some (r, H) else none

/-- behind a call that worked on the caller's blocks: what it has left is cleared away; in a region that draws nothing new may be left -/
def impRes (nid : Option Nat) (k : Nat) (r : AV) (H : AH) : Option (AV × AH) :=
  match gc k [r] H with
  | ([r'], H') =>
    match nid with
    | none => some (r', H')
    | some _ => if Nat.beq H'.length k then some (r', H') else none
  | _ => none

def callT (cfg : Cfg) (cf : Orac) (nid : Option Nat) (t : Tgt) (args : List AV) (H : AH) : Option (AV × AH) :=
  match t with
  | .y id => (cf (.y id) args H).bind fun r => impRes nid H.length r.1 r.2
  | .f f =>
    match cfg.mode f with
    | .scal =>
      if refsLtL 0 (args.map fun a => (a.snap H).fg) then
        (cf (.f f) (args.map fun a => (a.snap H).fg) []).bind fun r => if r.1.scalar then some (r.1, H) else none
      else none
    | .pfrz =>
      if refsLtL 0 (args.map AV.fg) then
        (cf (.f f) (args.map AV.fg) []).bind fun r => if (r.1.frz r.1.msIds r.2).fg.refsLt 0 then some ((r.1.frz r.1.msIds r.2).fg, H) else none
      else none
    | .pown => if refsLtL 0 (args.map AV.fg) then (cf (.f f) (args.map AV.fg) []).bind fun r => ownRes nid r.2 r.1 H else none
    | .imp => (cf (.f f) args H).bind fun r => impRes nid H.length r.1 r.2
    | .ifrz => (cf (.f f) args H).bind fun r => impRes nid H.length (r.1.frz r.1.msIds r.2) (frzBlks r.1.msIds r.2)

/-- what is called: the function that the value is, its arguments -/
def tgtOf (f : AV) (args : List AV) : Option (Tgt × List AV) :=
  match f with
  | .fn (.func g) first caps => some (.f g, first ++ args ++ caps)
  | .yld id => some (.y id, args)
  | _ => none

def put (fr : List AV) (dst : Option Tmp) (v : AV) : List AV :=
  match dst with
  | some d => fr.set d v
  | none => fr

def opd (fr : List AV) : Operand → AV
  | .tmp t => fr.getD t .junk
  | .const v => ofValue v
  | .global _ => .junk
  | .func f => .fn (.func f) [] []

/-- one operation, its operands' slices frozen if that is asked -/
def evOper (cfg : Cfg) (cf : Orac) (frz : Bool) (nid : Option Nat) (o : Oper) (x : Operand → AV) (H : AH) : Option (AV × AH) :=
  if frz then
    let ids := o.op.operands.toList.flatMap fun a => (x a).msIds
    let x' := fun a => (x a).frz ids H
    let H' := frzBlks ids H
    match o.op with
    | .call c =>
      match c.callee with
      | .value f => (tgtOf (x' f) (c.args.toList.map x')).bind fun t => callT cfg cf nid t.1 t.2 H'
      | _ => evOp cfg nid o.op o.type x' H'
    | _ => evOp cfg nid o.op o.type x' H'
  else
    match o.op with
    | .call c =>
      match c.callee with
      | .value f => (tgtOf (x f) (c.args.toList.map x)).bind fun t => callT cfg cf nid t.1 t.2 H
      | _ => evOp cfg nid o.op o.type x H
    | _ => evOp cfg nid o.op o.type x H

/-- is the operation carried out? -/
def wantedA (ops : Array Oper) (fr : List AV) (o : Oper) : Option Bool :=
  match o.guard with
  | none => some true
  | some (j, want) =>
    match (ops[j]?).bind (·.dst) with
    | some d =>
      match fr[d]? with
      | some (.bool b) => some (b == want)
      | _ => none
    | none => none

/-- operations one behind the other; 'base': the first place kept for new blocks (in a region that draws) -/
def evOps (cfg : Cfg) (cf : Orac) (f rid : Nat) (ops : Array Oper) : Nat → List Oper → List AV → AH → Option (List AV × AH)
  | _, [], fr, H => some (fr, H)
  | k, o :: rest, fr, H =>
    (wantedA ops fr o).bind fun b =>
      if b then
        (evOper cfg cf (cfg.frz f rid k) none o (opd fr) H).bind fun r => evOps cfg cf f rid ops (k + 1) rest (put fr o.dst r.1) r.2
      else evOps cfg cf f rid ops (k + 1) rest (put fr o.dst .junk) H

/-! ### a region that draws its order -/
structure FP where
  rd : List Nat
  wr : List Nat
  wall : Bool

def FP.none : FP := ⟨[], [], false⟩

def AV.hid : AV → List Nat
  | .ms id _ _ | .ptr id _ _ | .mp id => [id]
  | _ => []

def AV.hids : AV → List Nat
  | .agg cs => cs.flatMap AV.hid
  | .fn _ a b => a.flatMap AV.hid ++ b.flatMap AV.hid
  | v => v.hid

/-- what a call touches -/
def fpCall (cfg : Cfg) (nid : Nat) (t : Tgt) (args : List AV) : FP :=
  match t with
  | .y _ => ⟨[], [], true⟩
  | .f f =>
    match cfg.mode f with
    | .scal => ⟨args.flatMap AV.hids, [], false⟩
    | .pfrz => .none
    | .pown => ⟨[], [nid], false⟩
    | _ => ⟨[], [], true⟩

/-- what an operation touches of the abstract blocks -/
def fpOper (cfg : Cfg) (frz : Bool) (nid : Nat) (o : Oper) (x : Operand → AV) : FP :=
  if frz then ⟨[], [], true⟩ else
  match o.op with
  | .alloc _ | .box _ _ | .buildSlice _ _ _ => ⟨[], [nid], false⟩
  | .load _ a => ⟨(x a).hid, [], false⟩
  | .store _ a _ => ⟨[], (x a).hid, false⟩
  | .indexAddr _ a _ => ⟨(x a).hid, [], false⟩
  | .slice _ a _ _ _ => ⟨(x a).hid, [], false⟩
  | .convert _ _ a => ⟨(x a).hid, [nid], false⟩
  | .makeSlice _ _ _ => ⟨[], [nid], false⟩
  | .call c =>
    match c.callee, c.args.toList with
    | .builtin .len, [a] => ⟨(x a).hid, [], false⟩
    | .builtin .append, [s, a] => ⟨(x a).hid, nid :: (x s).hid, false⟩
    | .builtin .min, _ | .builtin .max, _ => .none
    | .builtin _, _ => ⟨[], [], true⟩
    | .value f, _ =>
      match tgtOf (x f) (c.args.toList.map x) with
      | some t => fpCall cfg nid t.1 t.2
      | none => ⟨[], [], true⟩
    | _, _ => ⟨[], [], true⟩
  | _ => .none

def FP.touches (a : FP) : Bool := a.wall || !a.rd.isEmpty || !a.wr.isEmpty

def noneIn (L : List Nat) : List Nat → Bool
  | [] => true
  | a :: l => !(hasId a L) && noneIn L l

def FP.indep (a b : FP) : Bool :=
  !(a.wall && b.touches) && !(b.wall && a.touches) && noneIn a.wr b.rd && noneIn a.wr b.wr && noneIn a.rd b.wr

def tmpsOf : List Operand → List Tmp
  | [] => []
  | .tmp t :: l => t :: tmpsOf l
  | _ :: l => tmpsOf l

/-- the slots that an operation reads, its guard's too -/
def usesOf (ops : Array Oper) (o : Oper) : List Tmp :=
  tmpsOf o.op.operands.toList ++ (match o.guard with | some (j, _) => ((ops[j]?).bind (·.dst)).toList | none => [])

/-- the operations ahead of the k-th one by the edges, as bits -/
def ancOf (acc : List Nat) (o : Oper) : Nat :=
  o.after.toList.foldl (fun s e => if Region.binds .any e then s ||| 2 ^ e.on ||| acc.getD e.on 0 else s) 0

def ancs (acc : List Nat) : List Oper → List Nat
  | [] => acc
  | o :: l => ancs (acc ++ [ancOf acc o]) l

def backward : Nat → List Oper → Bool
  | _, [] => true
  | k, o :: l => (o.after.toList.all fun e => !Region.binds .any e || Nat.blt e.on k) && backward (k + 1) l

def dstApart (ops : Array Oper) (a b : Oper) : Bool :=
  (match a.dst with | some d => !(hasId d (usesOf ops b)) | none => true) && (match b.dst with | some d => !(hasId d (usesOf ops a)) | none => true)

def dstOther (a b : Oper) : Bool :=
  match a.dst, b.dst with
  | some d, some e => !(Nat.beq d e)
  | _, _ => true

/-- of operation i, beside all later ones: their slots differ; where no edge orders two, neither reads what the other writes -/
def statRow (ops : Array Oper) (A : List Nat) (i : Nat) (a : Oper) : Nat → List Oper → Bool
  | _, [] => true
  | j, b :: l => dstOther a b && ((A.getD j 0).testBit i || dstApart ops a b) && statRow ops A i a (j + 1) l

def statAll (ops : Array Oper) (A : List Nat) : Nat → List Oper → Bool
  | _, [] => true
  | i, a :: l => statRow ops A i a (i + 1) l && statAll ops A (i + 1) l

def drawStat (ops : Array Oper) : Bool := backward 0 ops.toList && statAll ops (ancs [] ops.toList) 0 ops.toList

def dynRow (A : List Nat) (i : Nat) (a : FP) : Nat → List FP → Bool
  | _, [] => true
  | j, b :: l => ((A.getD j 0).testBit i || a.indep b) && dynRow A i a (j + 1) l

def dynAll (A : List Nat) : Nat → List FP → Bool
  | _, [] => true
  | i, a :: l => dynRow A i a (i + 1) l && dynAll A (i + 1) l

/-- may the operation make a block? -/
def makes (cfg : Cfg) (o : Oper) : Bool :=
  match o.op with
  | .alloc _ | .box _ _ | .buildSlice _ _ _ | .convert _ _ _ | .makeSlice _ _ _ => true
  | .call c =>
    match c.callee with
    | .builtin .append => true
    | .value (.func f) => (match cfg.mode f with | .pown => true | _ => false)
    | _ => false
  | _ => false

def places (cfg : Cfg) : List Oper → Nat
  | [] => 0
  | o :: l => if makes cfg o then places cfg l + 1 else places cfg l

/-- the text's order; every operation that makes a block has a place of its own for it -/
def evDraw (cfg : Cfg) (cf : Orac) (f rid : Nat) (ops : Array Oper) : Nat → Nat → List Oper → List AV → AH → Option (List FP × List AV × AH)
  | _, _, [], fr, H => some ([], fr, H)
  | k, at_, o :: rest, fr, H =>
    (wantedA ops fr o).bind fun b =>
      if b then
        (evOper cfg cf (cfg.frz f rid k) (some at_) o (opd fr) H).bind fun r =>
          (evDraw cfg cf f rid ops (k + 1) (if makes cfg o then at_ + 1 else at_) rest (put fr o.dst r.1) r.2).map fun q => (fpOper cfg (cfg.frz f rid k) at_ o (opd fr) :: q.1, q.2)
      else (evDraw cfg cf f rid ops (k + 1) (if makes cfg o then at_ + 1 else at_) rest (put fr o.dst .junk) H).map fun q => (.none :: q.1, q.2)

/-! ### code -/
inductive Ex where
  | normal
  | exit (id : Nat)
  | goto (l : Nat)
  | ret

def keepGo : Nat → List Tmp → List AV → List AV
  | _, _, [] => []
  | i, [], _ :: fr => .junk :: keepGo i [] fr
  | i, k :: ks, a :: fr => if Nat.beq i k then a :: keepGo (i + 1) ks fr else .junk :: keepGo (i + 1) (k :: ks) fr

def maskFr (ts : Option (List Tmp)) (fr : List AV) : List AV :=
  match ts with
  | none => fr
  | some ks => keepGo 0 ks fr

def Cfg.keepIn (c : Cfg) (f r : Nat) : Option (List Tmp) := match c.mask f r with | some p => some p.1 | none => none
def Cfg.keepOut (c : Cfg) (f r : Nat) : Option (List Tmp) := match c.mask f r with | some p => some p.2 | none => none

def firstRid : Code → Nat
  | .region id _ _ => id
  | .seq a _ => firstRid a
  | .block _ a => firstRid a
  | .loop a => firstRid a
  | .scope a => firstRid a
  | _ => 0

open Classical in
noncomputable def lim {α : Type} (g : Nat → Option α) : Option α :=
  if h : ∃ (n : Nat) (r : α), g n = some r then some (Classical.choose (Classical.choose_spec h)) else none

abbrev Den := List AV → AH → Option (Ex × List AV × AH)

def loopN (k : Nat) (ts : Option (List Tmp)) (body : Den) : Nat → List AV × AH → Option (Ex × List AV × AH)
  | 0, _ => none
  | n + 1, p =>
    (body p.1 p.2).bind fun r =>
      match r.1 with
      | .normal => loopN k ts body n (gc k (maskFr ts r.2.1) r.2.2)
      | e => some (e, r.2)

/-- a loop, from a frame that is masked and blocks that are collected -/
noncomputable def LOOP (k : Nat) (ts : Option (List Tmp)) (body : Den) (p : List AV × AH) : Option (Ex × List AV × AH) := lim fun n => loopN k ts body n p

/-- the enclosing loop over a function is still there -/
def rdLive (rd : Option Nat) (H : AH) : Bool :=
  match rd with
  | none => true
  | some l => (match H[l]? with | some (.loop _ _ _ _ _ _ _) => true | _ => false)

noncomputable def evC (cfg : Cfg) (cf : Orac) (f : Nat) (rd : Option Nat) : Code → List AV → AH → Option (Ex × List AV × AH)
  | .skip, fr, H => some (.normal, fr, H)
  | .label _, fr, H => some (.normal, fr, H)
  | .region id ops draw, fr, H =>
    if draw then
      if drawStat ops then
        (evDraw cfg cf f id ops 0 H.length ops.toList fr (H ++ List.replicate (places cfg ops.toList) .res)).bind fun q =>
          if dynAll (ancs [] ops.toList) 0 q.1 then some (.normal, q.2) else none
      else none
    else (evOps cfg cf f id ops 0 ops.toList fr H).map fun q => (.normal, q)
  | .seq a b, fr, H =>
    (evC cfg cf f rd a fr H).bind fun r =>
      match r.1 with
      | .normal => evC cfg cf f rd b r.2.1 r.2.2
      | e => some (e, r.2)
  | .cond c a b, fr, H =>
    match opd fr c with
    | .bool t => if t then evC cfg cf f rd a fr H else evC cfg cf f rd b fr H
    | _ => none
  | .block id a, fr, H =>
    (evC cfg cf f rd a fr H).bind fun r =>
      match r.1 with
      | .exit id' => some (if Nat.beq id' id then (.normal, r.2) else r)
      | _ => some r
  | .loop a, fr, H => (LOOP H.length (cfg.keepIn f (firstRid a)) (evC cfg cf f rd a) (gc H.length (maskFr (cfg.keepIn f (firstRid a)) fr) H)).map fun r => (r.1, maskFr (cfg.keepOut f (firstRid a)) r.2.1, r.2.2)
  | .scope a, fr, H =>
    (evC cfg cf f rd a fr H).bind fun r =>
      match r.1 with
      | .goto _ => none
      | _ => some r
  | .exit id, fr, H => some (.exit id, fr, H)
  | .goto _, _, _ => none
  | .ret, fr, H => some (.ret, fr, H)
  | .rangeFunc g ps assign body, fr, H =>
    if rdLive rd H then
      match opd fr g with
      | .fn (.func h) first caps =>
        if (cfg.ext h).isSome then none else
        (cf (.f h) (first ++ [.yld H.length] ++ caps) (H ++ [.loop f (maskFr (cfg.keepIn f (firstRid body)) fr) ps.toList assign body none .ready])).bind fun r =>
          match r.2[H.length]? with
          | some (.loop _ _ _ _ _ pend st) =>
            match st with
            | .busy => none
            | _ =>
              match gc H.length (maskFr (cfg.keepOut f (firstRid body)) fr) (r.2.set H.length .dead), pend with
              | q, none => some (.normal, q)
              | q, some .ret => some (.ret, q)
              | q, some (.exit id) => some (.exit id, q)
              | _, _ => none
          | _ => none
      | _ => none
    else none
  | .refuse _, _, _ => none

def resVals (rs : List ResultVar) (ty : TypeId → Option TI) (fr : List AV) (H : AH) : Option (List AV) :=
  match rs with
  | [] => some []
  | .tmp t :: l => (resVals l ty fr H).map fun vs => fr.getD t .junk :: vs
  | .cell a t :: l =>
    match ty t with
    | some ti => (aLoad ti.d.agg ti.sz H (fr.getD a .junk)).bind fun v => (resVals l ty fr H).map fun vs => v :: vs
    | none => none

def result1 : List AV → AV
  | [v] => v
  | vs => .tup vs

def finish (cfg : Cfg) (rs : List ResultVar) (r : Ex × List AV × AH) : Option (AV × AH) :=
  match r.1 with
  | .normal | .ret => (resVals rs cfg.ty r.2.1 r.2.2).map fun vs => (result1 vs, r.2.2)
  | _ => none

def setParams (fr : List AV) : List Tmp → List AV → List AV
  | t :: ts, a :: as => setParams (fr.set t a) ts as
  | _, _ => fr

/-- a call, or one round of a range over a function -/
noncomputable def evBody (cfg : Cfg) (cf : Orac) : Orac
  | .f f, args, H =>
    match cfg.ext f with
    | some s => s args H
    | none =>
      if cfg.known f then
        match cfg.P.funcs[f]? with
        | some fn =>
          match fn.body with
          | some c => (evC cfg cf f none c (args ++ List.replicate (fn.ntmps - args.length) .junk) H).bind (finish cfg fn.results.toList)
          | none => none
        | none => none
      else none
  | .y id, args, H =>
    match H[id]? with
    | some (.loop f fr ps assign body _ .ready) =>
      if args.length = ps.length then
        (evC cfg cf f (some id) assign (setParams fr ps args) H).bind fun r =>
          match r.1, r.2.2[id]? with
          | .normal, some (.loop f' fr' ps' assign' body' pend' .ready) =>
            (evC cfg cf f (some id) body r.2.1 (r.2.2.set id (.loop f' fr' ps' assign' body' pend' .busy))).bind fun q =>
              match q.2.2[id]? with
              | some (.loop f' fr' ps' assign' body' _ _) =>
                match q.1 with
                | .normal => some (.bool true, q.2.2.set id (.loop f' fr' ps' assign' body' none .ready))
                | .ret => some (.bool false, q.2.2.set id (.loop f' fr' ps' assign' body' (some .ret) .done))
                | .exit x => some (.bool false, q.2.2.set id (.loop f' fr' ps' assign' body' (some (.exit x)) .done))
                | .goto _ => none
              | _ => none
          | _, _ => none
      else none
    | _ => none

noncomputable def evF (cfg : Cfg) : Nat → Orac
  | 0, _, _, _ => none
  | n + 1, t, args, H => evBody cfg (evF cfg n) t args H

noncomputable def EV (cfg : Cfg) : Orac := fun t args H => lim fun n => evF cfg n t args H
end Go.Av

/-
  The abstract evaluation once more, what follows handed along: so that a condition that is not known stands outside. Own work; definitions alone.
  What is proved: nothing here; no condition.
-/
import Derived.Test.YtpbfmaodnihpeaaAvFix
namespace Go.Av
variable {α : Type}

abbrev KV (α : Type) := AV → Option α
abbrev KH (α : Type) := AV → AH → Option α
abbrev KE (α : Type) := Ex → List AV → AH → Option α

/-! ### shapes -/
inductive FK where
  | int (k : IntKind)
  | bool
  | str
  | sl
  | any

def kindEq (a b : IntKind) : Bool := decide (a = b)

def kInt (kd : IntKind) (v : AV) (k : Int → Option α) : Option α :=
  match v with
  | .int k' n => cond (kindEq k' kd) (k n) none
  | _ => none
def kBool (v : AV) (k : Bool → Option α) : Option α :=
  match v with
  | .bool b => k b
  | _ => none
def kStr (v : AV) (k : List UInt8 → Option α) : Option α :=
  match v with
  | .str s => k s
  | _ => none
def kSl (v : AV) (k : List (List AV) → Option α) : Option α :=
  match v with
  | .sl rows => k rows
  | _ => none
def kAgg (v : AV) (k : List AV → Option α) : Option α :=
  match v with
  | .agg cs => k cs
  | _ => none
def kOpt {β : Type} (o : Option β) (k : β → Option α) : Option α :=
  match o with
  | some b => k b
  | none => none
def kCons (l : List AV) (k : AV → List AV → Option α) : Option α :=
  match l with
  | c :: cs => k c cs
  | [] => none
def kNil (l : List AV) (x : Option α) : Option α :=
  match l with
  | [] => x
  | _ => none

def kForce (s : FK) (v : AV) (k : KV α) : Option α :=
  match s with
  | .int kd => kInt kd v fun n => k (.int kd n)
  | .bool => kBool v fun b => k (.bool b)
  | .str => kStr v fun s => k (.str s)
  | .sl => kSl v fun rows => k (.sl rows)
  | .any => k v

def kCells : List FK → List AV → (List AV → Option α) → Option α
  | [], l, k => kNil l (k [])
  | s :: ss, l, k => kCons l fun c cs => kForce s c fun v => kCells ss cs fun vs => k (v :: vs)

def leafOf (sl : Bool) : TD → FK
  | .int k => .int k
  | .bool => .bool
  | .str => .str
  | .slice _ => if sl then .sl else .any
  | _ => .any

/-- the cells' shapes of a type; 'p': the slices that nobody writes -/
def leaves (cfg : Cfg) (p : TypeId → Bool) : Nat → TypeId → Option (List FK)
  | 0, _ => none
  | n + 1, t =>
    match cfg.td t with
    | some (.struct fs) => (fs.foldr (fun f acc => match leaves cfg p n f.2, acc with | some l, some a => some (l ++ a) | _, _ => none) (some []))
    | some (.array m e) => (match leaves cfg p n e with | some l => some ((List.replicate m l).flatten) | none => none)
    | some d => some [leafOf (p t) d]
    | none => none

/-- a value of a type, in its shape -/
def kTy (p : TypeId → Bool) (cfg : Cfg) (t : TypeId) (v : AV) (k : KV α) : Option α :=
  match cfg.td t with
  | some d =>
    match d with
    | .struct _ => (match leaves cfg p 6 t with | some ss => kAgg v fun cs => kCells ss cs fun vs => k (.agg vs) | none => k v)
    | .array _ _ => (match leaves cfg p 6 t with | some ss => kAgg v fun cs => kCells ss cs fun vs => k (.agg vs) | none => k v)
    | d => kForce (leafOf (p t) d) v k
  | none => k v

def noTy : TypeId → Bool := fun _ => false
def allTy : TypeId → Bool := fun _ => true
/-- of what lies behind an address -/
def ptrTy (cfg : Cfg) (a : AV) : TypeId → Bool :=
  match a with
  | .cptr _ _ => cfg.dat
  | _ => noTy

/-! ### operations -/
def kNew (nid : Option Nat) (H : AH) (b : ABlk) (k : Nat → AH → Option α) : Option α :=
  match nid with
  | none => k H.length (H ++ [b])
  | some i => kOpt H[i]? fun x => match x with | .res => k i (H.set i b) | _ => none

def aggOf (cfg : Cfg) (t : TypeId) : Bool := match cfg.td t with | some d => d.agg | none => false

/-- the cells of a value; 'agg': of many -/
def kCellsOf (agg : Bool) (v : AV) (k : List AV → Option α) : Option α :=
  cond agg (kAgg v fun cs => cond (allCells cs) (k cs) none) (cond v.isCell (k [v]) none)

def kPick (t : Bool) (a b : AV) (k : KV α) : Option α :=
  match a, b with
  | .bool p, .bool q => k (.bool (cond t p q))
  | .int k1 p, .int k2 q => cond (kindEq k1 k2) (k (.int k1 (cond t p q))) (cond t (k a) (k b))
  | a, b => cond t (k a) (k b)

def kFill (place : Nat → Option (Nat × Nat × Bool)) (cells : List AV) : List (Nat × AV) → (List AV → Option α) → Option α
  | [], k => k cells
  | (i, v) :: rest, k =>
    match place i with
    | some (off, size, agg) => kCellsOf agg v fun cs => cond (Nat.beq cs.length size && Nat.ble (off + size) cells.length) (kFill place (cells.take off ++ cs ++ cells.drop (off + size)) rest k) none
    | none => none

def placesK (cfg : Cfg) : List (Nat × TypeId) → Option (List (Nat × Nat × Bool))
  | [] => some []
  | (off, t) :: l =>
    match cfg.sz t, placesK cfg l with
    | some n, some ps => some ((off, n, aggOf cfg t) :: ps)
    | _, _ => none

def kRows (agg : Bool) (n : Nat) (rows : List (List AV)) : List (Nat × AV) → (List (List AV) → Option α) → Option α
  | [], k => k rows
  | (i, v) :: rest, k => kCellsOf agg v fun cs => cond (Nat.beq cs.length n && Nat.blt i rows.length) (kRows agg n (rows.set i cs) rest k) none

/-- the rows of a block -/
def kBlk (H : AH) (id : Nat) (k : Nat → List (List AV) → Option α) : Option α :=
  kOpt H[id]? fun b => match b with | .rows _ sz rs => k sz rs | .froz _ sz rs => k sz rs | _ => none
/-- the rows of a block that may be written -/
def kBlkW (H : AH) (id : Nat) (k : Bool → Nat → List (List AV) → Option α) : Option α :=
  kOpt H[id]? fun b => match b with | .rows d sz rs => k d sz rs | _ => none

def kPart (agg : Bool) (n : Nat) (cells : List AV) (off : Nat) (k : KV α) : Option α :=
  cond agg (cond (Nat.ble (off + n) cells.length) (k (.agg ((cells.drop off).take n))) none) (kOpt cells[off]? k)

def kLoad (agg : Bool) (n : Nat) (H : AH) (p : AV) (k : KV α) : Option α :=
  match p with
  | .ptr id r off => kBlk H id fun _ rs => kOpt rs[r]? fun row => kPart agg n row off k
  | .cptr cs off => kPart agg n cs off k
  | _ => none

def kStore (agg : Bool) (n : Nat) (H : AH) (p v : AV) (k : AH → Option α) : Option α :=
  match p with
  | .ptr id r off => kCellsOf agg v fun cs => kBlkW H id fun d sz rs => kOpt rs[r]? fun row => cond (Nat.beq cs.length n && Nat.ble (off + n) row.length) (k (H.set id (.rows (d && refsLtL 0 cs) sz (rs.set r (row.take off ++ cs ++ row.drop (off + n)))))) none
  | _ => none

def kNilCheck (v : AV) (k : KV α) : Option α :=
  match v with
  | .ptr id r off => k (.ptr id r off)
  | .cptr cs off => k (.cptr cs off)
  | .fn (.func f) a b => k (.fn (.func f) a b)
  | .mp id => k (.mp id)
  | .yld id => k (.yld id)
  | _ => none

def leInt (a b : Int) : Bool := decide (a ≤ b)
def ltInt (a b : Int) : Bool := decide (a < b)

/-- a number within bounds -/
def kBound (lo hi : Nat) (x : Option AV) (dflt : Nat) (k : Nat → Option α) : Option α :=
  match x with
  | none => k dflt
  | some v => match v with | .int _ i => cond (leInt lo i && leInt i hi) (k i.toNat) none | _ => none

def kSliceBd (n : Nat) (lo hi mx : Option AV) (k : Nat → Nat → Option α) : Option α :=
  cond (hi.isNone && mx.isSome) none (kBound 0 n hi n fun h => kBound h n mx h fun _ => kBound 0 h lo 0 fun l => k l h)

def kSlice (cfg : Cfg) (t : TypeId) (H : AH) (x : AV) (lo hi mx : Option AV) (k : KV α) : Option α :=
  match cfg.td t with
  | some .str => (match mx with | none => (match x with | .str s => kSliceBd s.length lo hi none fun l h => k (.str ((s.drop l).take (h - l))) | _ => none) | _ => none)
  | some (.slice e) =>
    match cfg.sz e with
    | some n =>
      match x with
      | .nilS => kSliceBd 0 lo hi mx fun _ _ => k .nilS
      | .sl rows => kSliceBd rows.length lo hi mx fun l h => cond (rowsOk n rows) (k (.sl ((rows.drop l).take (h - l)))) none
      | .ms id off len => kSliceBd len lo hi mx fun l h => kBlk H id fun sz _ => cond (Nat.beq sz n) (k (.ms id (off + l) (h - l))) none
      | _ => none
    | none => none
  | _ => none

def kIndexAddr (cfg : Cfg) (t : TypeId) (H : AH) (x i : AV) (k : KV α) : Option α :=
  match i with
  | .int _ i =>
    match cfg.td t with
    | some (.slice e) =>
      match cfg.sz e with
      | some n =>
        match x with
        | .ms id off len => kBlk H id fun sz _ => cond (Nat.beq sz n && leInt 0 i && ltInt i len) (k (.ptr id (off + i.toNat) 0)) none
        | .sl rows => cond (leInt 0 i && ltInt i rows.length) (kOpt rows[i.toNat]? fun row => cond (Nat.beq row.length n) (k (.cptr row 0)) none) none
        | _ => none
      | none => none
    | some (.array n e) =>
      match cfg.sz e with
      | some sz =>
        match x with
        | .ptr id r off => cond (leInt 0 i && ltInt i n) (k (.ptr id r (off + i.toNat * sz))) none
        | .cptr cs off => cond (leInt 0 i && ltInt i n) (k (.cptr cs (off + i.toNat * sz))) none
        | _ => none
      | none => none
    | _ => none
  | _ => none

def szOf (cfg : Cfg) (t : TypeId) : Nat := match cfg.sz t with | some n => n | none => 0

def kIndex (cfg : Cfg) (t : TypeId) (x i : AV) (k : KV α) : Option α :=
  match i with
  | .int _ i =>
    match cfg.td t with
    | some (.array n e) =>
      match cfg.ty e with
      | some ti => kAgg x fun cs => cond (leInt 0 i && ltInt i n) (kPart ti.d.agg ti.sz cs (i.toNat * ti.sz) k) none
      | none => none
    | some .str => kStr x fun s => cond (leInt 0 i) (kOpt s[i.toNat]? fun b => k (.int .u8 b.toNat)) none
    | _ => none
  | _ => none

def kField (cfg : Cfg) (t : TypeId) (x : AV) (f : Nat) (k : KV α) : Option α :=
  match cfg.td t with
  | some (.struct fs) =>
    match fs[f]? with
    | some (off, ft) => (match cfg.ty ft with | some ti => kAgg x fun cs => kPart ti.d.agg ti.sz cs off k | none => none)
    | none => none
  | _ => none

def kFieldAddr (cfg : Cfg) (t : TypeId) (x : AV) (f : Nat) (k : KV α) : Option α :=
  match cfg.td t with
  | some (.struct fs) =>
    match fs[f]? with
    | some (o, ft) =>
      match cfg.sz ft with
      | some (_ + 1) => (match x with | .ptr id r off => k (.ptr id r (off + o)) | .cptr cs off => k (.cptr cs (off + o)) | _ => none)
      | _ => none
    | none => none
  | _ => none

def kConvert (cfg : Cfg) (nid : Option Nat) (src dst : TypeId) (x : AV) (H : AH) (k : KH α) : Option α :=
  match cfg.td src, cfg.td dst with
  | some (.int _), some (.int kd) => (match x with | .int _ n => k (.int kd (kd.wrap n)) H | _ => none)
  | some .str, some .str => kStr x fun s => k (.str s) H
  | some .str, some (.slice e) =>
    match cfg.td e with
    | some (.int .u8) => kStr x fun s => kNew nid H (.rows true 1 (byteRows s)) fun i H' => k (.ms i 0 s.length) H'
    | _ => none
  | some (.slice e), some .str =>
    match cfg.td e with
    | some (.int .u8) => kOpt (rowsOf H 1 x) fun rows => kOpt (bytesOfRows rows) fun bs => k (.str bs) H
    | _ => none
  | _, _ => none

/-- a slice's rows, whatever slice it is -/
def kRowsOf (H : AH) (n : Nat) (x : AV) (k : List (List AV) → Option α) : Option α :=
  match x with
  | .nilS => k []
  | .sl rows => cond (rowsOk n rows) (k rows) none
  | .ms id off len => kBlk H id fun sz rs => cond (Nat.beq sz n && Nat.ble (off + len) rs.length) (k ((rs.drop off).take len)) none
  | _ => none

def kSrc (isStr : Bool) (H : AH) (n : Nat) (x : AV) (k : List (List AV) → Option α) : Option α :=
  cond isStr (kStr x fun b => cond (Nat.beq n 1) (k (byteRows b)) none) (kRowsOf H n x k)

def isStrTy (cfg : Cfg) (t : TypeId) : Bool := match cfg.td t with | some .str => true | _ => false

def kAppend (cfg : Cfg) (nid : Option Nat) (t xt : TypeId) (s x : AV) (H : AH) (k : KH α) : Option α :=
  match cfg.td t, cfg.td xt with
  | some (.slice e), some xd =>
    match cfg.ty e with
    | some ei =>
      cond (xd.notInt && Nat.blt 0 ei.sz && Nat.beq ei.zero.length ei.sz)
        (kSrc (isStrTy cfg xt) H ei.sz x fun news =>
          match s with
          | .nilS => cond news.isEmpty (k .nilS H) (cond (fitsIn news.length ei.bytes) (kNew nid H (.rows (srcFree H x) ei.sz news) fun i H' => k (.ms i 0 news.length) H') none)
          | .ms id off len => kBlkW H id fun d sz rs => cond (Nat.beq sz ei.sz && Nat.ble (off + len) rs.length && fitsIn (len + news.length) ei.bytes)
              (kNew nid (H.set id .dead) (.rows (d && srcFree H x) sz ((rs.drop off).take len ++ news)) fun i H' => k (.ms i 0 (len + news.length)) H') none
          | _ => none) none
    | none => none
  | _, _ => none

def kLen (cfg : Cfg) (t : TypeId) (x : AV) (H : AH) (k : KV α) : Option α :=
  match cfg.td t with
  | some .str => kStr x fun s => k (.int .i64 s.length)
  | some (.slice _) => (match x with | .nilS => k (.int .i64 0) | .sl rows => k (.int .i64 rows.length) | .ms _ _ len => k (.int .i64 len) | _ => none)
  | some (.array n _) => k (.int .i64 n)
  | some (.map _ _) => (match x with | .nilM => k (.int .i64 0) | .mp id => (kOpt H[id]? fun b => match b with | .mp es => k (.int .i64 es.length) | _ => none) | _ => none)
  | _ => none

def kMake (cfg : Cfg) (nid : Option Nat) (t : TypeId) (len cap : AV) (H : AH) (k : KH α) : Option α :=
  match cfg.td t with
  | some (.slice e) =>
    match cfg.ty e with
    | some ei =>
      cond (rowZero ei) (kInt .i64 len fun n => kInt .i64 cap fun c =>
        cond (leInt 0 n && leInt n c && leInt (c * ei.bytes) 140737488355328 && leInt c 9223372036854775807) (kNew nid H (.rows true ei.sz (List.replicate n.toNat ei.zero)) fun i H' => k (.ms i 0 n.toNat) H') none) none
    | none => none
  | _ => none

def kOp (cfg : Cfg) (nid : Option Nat) (o : Op) (ty : TypeId) (x : Operand → AV) (H : AH) (k : KH α) : Option α :=
  match o with
  | .move a | .assign a => k (x a) H
  | .pick c a b => kBool (x c) fun t => kPick t (x a) (x b) fun v => k v H
  | .alloc t =>
    match cfg.ty t with
    | some ti => cond (allCells ti.zero) (kNew nid H (.rows false ti.zero.length [cfg.fgs t ti.zero]) fun i H' => k (.ptr i 0 0) H') none
    | none => none
  | .box t a => kCellsOf (aggOf cfg t) (x a) fun cs => kNew nid H (.rows false cs.length [cs]) fun i H' => k (.ptr i 0 0) H'
  | .build t parts =>
    match cfg.ty t with
    | some ti =>
      cond (allCells ti.zero)
        (match ti.d with
        | .struct fs =>
          match placesK cfg fs with
          | some ps => kFill (fun i => ps[i]?) ti.zero (parts.toList.map fun p => (p.1, x p.2)) fun cs => k (.agg (cfg.fgs t cs)) H
          | none => none
        | .array _ e =>
          match cfg.sz e with
          | some n => kFill (fun i => some (i * n, n, aggOf cfg e)) ti.zero (parts.toList.map fun p => (p.1, x p.2)) fun cs => k (.agg cs) H
          | none => none
        | _ => none) none
    | none => none
  | .buildSlice t len parts =>
    match cfg.td t with
    | some (.slice e) =>
      match cfg.ty e with
      | some ei =>
        cond (rowZero ei && Nat.ble (len * ei.sz) 16777216)
          (kRows ei.d.agg ei.sz (List.replicate len ei.zero) (parts.toList.map fun p => (p.1, x p.2)) fun rows => kNew nid H (.rows (refsLtR 0 rows) ei.sz rows) fun i H' => k (.ms i 0 len) H') none
      | none => none
    | _ => none
  | .load t a =>
    match cfg.ty t with
    | some ti => kLoad ti.d.agg ti.sz H (x a) fun v => kTy (ptrTy cfg (x a)) cfg t v fun v => k v H
    | none => none
  | .store t a v =>
    match cfg.ty t with
    | some ti => kStore ti.d.agg ti.sz H (x a) (x v) fun H' => k .junk H'
    | none => none
  | .nilCheck a => kNilCheck (x a) fun v => k v H
  | .binOp op t a b _ => kOpt (aBin cfg op t (x a) (x b)) fun v => kTy noTy cfg ty v fun v => k v H
  | .unOp op _ a => kOpt (aUn op (x a)) fun v => kTy noTy cfg ty v fun v => k v H
  | .convert s d a => kConvert cfg nid s d (x a) H k
  | .makeFunc f first caps => k (.fn f (first.toList.map x) (caps.toList.map x)) H
  | .makeSlice t l c => kMake cfg nid t (x l) (x c) H k
  | .slice t a lo hi mx => kSlice cfg t H (x a) (lo.map x) (hi.map x) (mx.map x) fun v => k v H
  | .fieldAddr t a f => kFieldAddr cfg t (x a) f fun v => k v H
  | .field t a f => kField cfg t (x a) f fun v => kTy noTy cfg ty v fun v => k v H
  | .indexAddr t a i => kIndexAddr cfg t H (x a) (x i) fun v => k v H
  | .index t a i => kIndex cfg t (x a) (x i) fun v => kTy noTy cfg ty v fun v => k v H
  | .extract t i => (match x t with | .tup vs => kOpt vs[i]? fun v => kTy noTy cfg ty v fun v => k v H | _ => none)
  | .call c =>
    match c.callee with
    | .builtin b =>
      match b, c.args.toList, c.argTypes.toList with
      | .len, [a], [t] => kLen cfg t (x a) H fun v => k v H
      | .append, [s, a], [t, xt] => kAppend cfg nid t xt (x s) (x a) H k
      | .copy, [d, s], [t, _] => kOpt (aCopy cfg t (x d) (x s) H) fun r => kTy noTy cfg ty r.1 fun v => k v r.2
      | .clear, [a], [t] => kOpt (aClear cfg t (x a) H) fun H' => k (.tup []) H'
      | .min, [a, b], _ => kOpt (aMin (fun b a => decide (b < a)) [x a, x b]) fun v => kTy noTy cfg ty v fun v => k v H
      | .max, [a, b], _ => kOpt (aMin (fun b a => decide (a < b)) [x a, x b]) fun v => kTy noTy cfg ty v fun v => k v H
      | _, _, _ => none
    | _ => none
  | _ => none

/-! ### readings that last -/
/-- a cell frozen: a slice by its rows; 'g': whether a slice is nil is forgotten; 's': an address by its row -/
def kFrz1 (g s : Bool) (H : AH) (v : AV) (k : KV α) : Option α :=
  match v with
  | .ms id off len => kBlk H id fun _ rs => cond (Nat.ble (off + len) rs.length && (blkFree H id || refsLtR 0 ((rs.drop off).take len))) (k (.sl ((rs.drop off).take len))) none
  | .nilS => k (cond g (.sl []) .nilS)
  | .ptr id r off => cond s (kBlk H id fun _ rs => kOpt rs[r]? fun row => k (.cptr row off)) (k (.ptr id r off))
  | a => k a

def kFrzL (g s : Bool) (H : AH) : List AV → (List AV → Option α) → Option α
  | [], k => k []
  | a :: l, k => kFrz1 g s H a fun a => kFrzL g s H l fun l => k (a :: l)

/-- a value frozen, for a call that reads; or a result -/
def kFrzA (s : Bool) (H : AH) (v : AV) (k : KV α) : Option α :=
  match v with
  | .agg cs => kFrzL true s H cs fun cs => k (.agg cs)
  | .tup cs => cond s (k ((AV.tup cs).fg)) (kFrzL true s H cs fun cs => k (.tup cs))
  | .fn f a b => cond s (kFrzL false s H a fun a => kFrzL false s H b fun b => k (.fn f a b)) (k (.fn f a b))
  | a => kFrz1 true s H a k

def kArgs (H : AH) : List AV → (List AV → Option α) → Option α
  | [], k => k []
  | a :: l, k => kFrzA true H a fun a => kArgs H l fun l => k (a :: l)

/-! ### calls -/
/-- what a call leaves that was handed no blocks: a slice that is the caller's own from now on, or none -/
inductive OV where
  | nil
  | own (sz : Nat) (rs : List (List AV)) (off len : Nat)

def ovOf (r : AV × AH) : Option OV :=
  match r.1 with
  | .nilS => some .nil
  | .ms id off len =>
    match r.2[id]? with
    | some (.rows d sz rs) => if d || refsLtR 0 rs then some (.own sz rs off len) else none
    | _ => none
  | _ => none

/-- the value that a call hands back that was handed no blocks -/
def EVs (cf : Orac) (f : Nat) (args : List AV) : Option AV := (cf (.f f) args []).map fun r => r.1
/-- .. its slices by their rows -/
def EVf (cf : Orac) (f : Nat) (args : List AV) : Option AV := (cf (.f f) args []).map fun r => (r.1.frz r.1.msIds r.2).fg
/-- .. its slice, the caller's own -/
def EVo (cf : Orac) (f : Nat) (args : List AV) : Option OV := (cf (.f f) args []).bind ovOf

def kOwn (o : OV) (x : Option α) (k : Nat → List (List AV) → Nat → Nat → Option α) : Option α :=
  match o with
  | .nil => x
  | .own sz rs off len => k sz rs off len

def kCall (cfg : Cfg) (cf : Orac) (nid : Option Nat) (ty : TypeId) (t : Tgt) (args : List AV) (H : AH) (k : KH α) : Option α :=
  match t with
  | .y id => kOpt (cf (.y id) args H) fun r => kOpt (impRes nid H.length r.1 r.2) fun r => kTy noTy cfg ty r.1 fun v => k v r.2
  | .f f =>
    match cfg.mode f with
    | .scal => kArgs H args fun as => cond (refsLtL 0 as) (kOpt (EVs cf f as) fun v => kTy noTy cfg ty v fun v => cond v.scalar (k v H) none) none
    | .pfrz => cond (refsLtL 0 (args.map AV.fg)) (kOpt (EVf cf f (args.map AV.fg)) fun v => kTy allTy cfg ty v fun v => cond (v.refsLt 0) (k v H) none) none
    | .pown => cond (refsLtL 0 (args.map AV.fg)) (kOpt (EVo cf f (args.map AV.fg)) fun o => kOwn o (k .nilS H) fun sz rs off len => kNew nid H (.rows true sz rs) fun i H' => k (.ms i off len) H') none
    | .imp => kOpt (cf (.f f) args H) fun r => kOpt (impRes nid H.length r.1 r.2) fun r => kTy noTy cfg ty r.1 fun v => k v r.2
    | .ifrz => kOpt (cf (.f f) args H) fun r => kOpt (impRes nid H.length (r.1.frz r.1.msIds r.2) (frzBlks r.1.msIds r.2)) fun r => kTy noTy cfg ty r.1 fun v => k v r.2

def kTgt (f : AV) (args : List AV) (k : Tgt → List AV → Option α) : Option α :=
  match f with
  | .fn (.func g) first caps => k (.f g) (first ++ args ++ caps)
  | .yld id => k (.y id) args
  | _ => none

def kOper (cfg : Cfg) (cf : Orac) (frz : Bool) (nid : Option Nat) (o : Oper) (x : Operand → AV) (H : AH) (k : KH α) : Option α :=
  cond frz
    (match o.op with
      | .call c =>
        match c.callee with
        | .value f => kTgt ((x f).frz (o.op.operands.toList.flatMap fun a => (x a).msIds) H) (c.args.toList.map fun a => (x a).frz (o.op.operands.toList.flatMap fun a => (x a).msIds) H) fun t as =>
            kCall cfg cf nid o.type t as (frzBlks (o.op.operands.toList.flatMap fun a => (x a).msIds) H) k
        | _ => kOp cfg nid o.op o.type (fun a => (x a).frz (o.op.operands.toList.flatMap fun a => (x a).msIds) H) (frzBlks (o.op.operands.toList.flatMap fun a => (x a).msIds) H) k
      | _ => kOp cfg nid o.op o.type (fun a => (x a).frz (o.op.operands.toList.flatMap fun a => (x a).msIds) H) (frzBlks (o.op.operands.toList.flatMap fun a => (x a).msIds) H) k)
    (match o.op with
      | .call c =>
        match c.callee with
        | .value f => kTgt (x f) (c.args.toList.map x) fun t as => kCall cfg cf nid o.type t as H k
        | _ => kOp cfg nid o.op o.type x H k
      | _ => kOp cfg nid o.op o.type x H k)

/-- is the operation carried out? what was unknown of its guard is known from there on -/
def kWanted (ops : Array Oper) (fr : List AV) (o : Oper) (k : Bool → List AV → Option α) : Option α :=
  match o.guard with
  | none => k true fr
  | some (j, want) =>
    match (ops[j]?).bind (·.dst) with
    | some d => kOpt fr[d]? fun v => kBool v fun b => cond b (k want (fr.set d (.bool true))) (k (!want) (fr.set d (.bool false)))
    | none => none

def kOps (cfg : Cfg) (cf : Orac) (f rid : Nat) (ops : Array Oper) : Nat → List Oper → List AV → AH → (List AV → AH → Option α) → Option α
  | _, [], fr, H, k => k fr H
  | n, o :: rest, fr, H, k => kWanted ops fr o fun b fr =>
      cond b (kOper cfg cf (cfg.frz f rid n) none o (opd fr) H fun v H' => kOps cfg cf f rid ops (n + 1) rest (put fr o.dst v) H' k) (kOps cfg cf f rid ops (n + 1) rest (put fr o.dst .junk) H k)

def kDraw (cfg : Cfg) (cf : Orac) (f rid : Nat) (ops : Array Oper) : Nat → Nat → List Oper → List AV → AH → (List FP → List AV → AH → Option α) → Option α
  | _, _, [], fr, H, k => k [] fr H
  | n, at_, o :: rest, fr, H, k => kWanted ops fr o fun b fr =>
      cond b
        (kOper cfg cf (cfg.frz f rid n) (some at_) o (opd fr) H fun v H' =>
          kDraw cfg cf f rid ops (n + 1) (cond (makes cfg o) (at_ + 1) at_) rest (put fr o.dst v) H' fun fps fr' H'' => k (fpOper cfg (cfg.frz f rid n) at_ o (opd fr) :: fps) fr' H'')
        (kDraw cfg cf f rid ops (n + 1) (cond (makes cfg o) (at_ + 1) at_) rest (put fr o.dst .junk) H fun fps fr' H'' => k (.none :: fps) fr' H'')

/-! ### code -/
def kSeq (nx : List AV → AH → Option α) (k : KE α) : KE α := fun e fr H =>
  match e with
  | .normal => nx fr H
  | e => k e fr H
def kBlock (id : Nat) (k : KE α) : KE α := fun e fr H =>
  match e with
  | .exit id' => cond (Nat.beq id' id) (k .normal fr H) (k (.exit id') fr H)
  | e => k e fr H
def kScope (k : KE α) : KE α := fun e fr H =>
  match e with
  | .goto _ => none
  | e => k e fr H
/-- what follows a loop -/
def kAft (ts : Option (List Tmp)) (k : KE α) (r : Ex × List AV × AH) : Option α := k r.1 (maskFr ts r.2.1) r.2.2

/-- a slot whose truth is known from there on -/
def known (fr : List AV) (c : Operand) (b : Bool) : List AV :=
  match c with
  | .tmp d => fr.set d (.bool b)
  | _ => fr

noncomputable def kCode (cfg : Cfg) (cf : Orac) (f : Nat) (rd : Option Nat) : Code → List AV → AH → KE α → Option α
  | .skip, fr, H, k => k .normal fr H
  | .label _, fr, H, k => k .normal fr H
  | .region id ops draw, fr, H, k =>
    cond draw
      (cond (drawStat ops)
        (kDraw cfg cf f id ops 0 H.length ops.toList fr (H ++ List.replicate (places cfg ops.toList) .res) fun fps fr' H' => cond (dynAll (ancs [] ops.toList) 0 fps) (k .normal fr' H') none) none)
      (kOps cfg cf f id ops 0 ops.toList fr H fun fr' H' => k .normal fr' H')
  | .seq a b, fr, H, k => kCode cfg cf f rd a fr H (kSeq (fun fr H => kCode cfg cf f rd b fr H k) k)
  | .cond c a b, fr, H, k => kBool (opd fr c) fun t => cond t (kCode cfg cf f rd a (known fr c true) H k) (kCode cfg cf f rd b (known fr c false) H k)
  | .block id a, fr, H, k => kCode cfg cf f rd a fr H (kBlock id k)
  | .loop a, fr, H, k => kOpt (LOOP H.length (cfg.keepIn f (firstRid a)) (evC cfg cf f rd a) (gc H.length (maskFr (cfg.keepIn f (firstRid a)) fr) H)) (kAft (cfg.keepOut f (firstRid a)) k)
  | .scope a, fr, H, k => kCode cfg cf f rd a fr H (kScope k)
  | .exit id, fr, H, k => k (.exit id) fr H
  | .goto _, _, _, _ => none
  | .ret, fr, H, k => k .ret fr H
  | .rangeFunc g ps assign body, fr, H, k => kOpt (evC cfg cf f rd (.rangeFunc g ps assign body) fr H) fun r => k r.1 r.2.1 r.2.2
  | .refuse _, _, _, _ => none

/-- what is still to be done, as data -/
inductive Ko where
  | seq (c : Code)
  | block (id : Nat)
  | scope

noncomputable def kRun (cfg : Cfg) (cf : Orac) (f : Nat) (rd : Option Nat) (k : KE α) : List Ko → KE α
  | [] => k
  | .seq c :: s => kSeq (fun fr H => kCode cfg cf f rd c fr H (kRun cfg cf f rd k s)) (kRun cfg cf f rd k s)
  | .block id :: s => kBlock id (kRun cfg cf f rd k s)
  | .scope :: s => kScope (kRun cfg cf f rd k s)

def kRes (cfg : Cfg) (fr : List AV) (H : AH) : List ResultVar → (List AV → Option α) → Option α
  | [], k => k []
  | .tmp t :: l, k => kRes cfg fr H l fun vs => k (fr.getD t .junk :: vs)
  | .cell a t :: l, k =>
    match cfg.ty t with
    | some ti => kLoad ti.d.agg ti.sz H (fr.getD a .junk) fun v => kTy noTy cfg t v fun v => kRes cfg fr H l fun vs => k (v :: vs)
    | none => none

/-- a function's end -/
def kFin (cfg : Cfg) (rs : List ResultVar) : KE (AV × AH) := fun e fr H =>
  match e with
  | .normal => kRes cfg fr H rs fun vs => some (result1 vs, H)
  | .ret => kRes cfg fr H rs fun vs => some (result1 vs, H)
  | _ => none

noncomputable def kFun (cfg : Cfg) (cf : Orac) (f : Nat) (fn : Func) (c : Code) (args : List AV) (H : AH) : Option (AV × AH) :=
  kCode cfg cf f none c (args ++ List.replicate (fn.ntmps - args.length) .junk) H (kFin cfg fn.results.toList)

/-- a loop's body by itself -/
def kEnd : KE (Ex × List AV × AH) := fun e fr H => some (e, fr, H)
end Go.Av

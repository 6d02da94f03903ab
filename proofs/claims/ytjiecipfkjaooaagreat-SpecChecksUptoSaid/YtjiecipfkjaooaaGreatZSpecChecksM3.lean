/-
  Parts of the proof of SpecChecksUptoSaid, put together: the abstract evaluation and its contracts. Own work.
  What is proved: each lemma as it stands; no condition.
-/
import Derived.KernelRfl
import Derived.Test.YtjiecipfkjaooaaGreatProg
import Derived.Lib.Bytealg
import Derived.Test.YtjiecipfkjaooaaGreatRows
import Derived.ProofKit
import Derived.OpenShut
import Derived.JoinedCond
import Derived.ChangeArms
import Derived.RowKit
import Derived.WalkKit
import Derived.Test.YtjiecipfkjaooaaGreatZSpecChecksM2
open List renaming get?Internal → qsg, getElem?_eq_getElem → qsh, getElem?_eq_some_iff → qsi, length → qsk, take_of_length_le → qsp, getElem?_append_left → qsq, take → qsr, mem_of_getElem? → qss, getElem?_append_right → qst, getElem?_set → qsu, length_append → qsz, append → qsD, replicate → qsG, mem_cons → qsI, mem_append → qsK, range → qsM
open Option renaming bind_eq_some_iff → qsj, map_eq_some_iff → qsl, bind_some → qsv, map_some → qsB
open Bool renaming and_eq_true → qsm, false_eq_true → qsx, and_self → qsH, true_and → qsL
open Nat renaming eq_of_beq_eq_true → qsn, le_refl → qso, ble → qsw, beq → qsy, mul_le_mul_right → qsA, ble_eq → qsF, beq_refl → qsJ
open Int renaming toNat → qsC, toNat_natCast → qsE
set_option maxRecDepth 1000000
set_option maxHeartbeats 0
section
namespace Go.Av
variable {α : Type}
abbrev KV (α : Type) := AV → Option α
abbrev KH (α : Type) := AV → AH → Option α
abbrev KE (α : Type) := Ex → List AV → AH → Option α
abbrev KF (α : Type) := Tgt → List AV → AH → (AV × AH → Option α) → Option α
inductive FK where
 | int (k : IntKind)
 | bool
 | str
 | sl
 | any
def zx (a b : IntKind) : Bool := decide (a = b)
def kInt (kd : IntKind) (v : AV) (k : Int → Option α) : Option α :=
 match v with
 | .int k' n => cond (zx k' kd) (k n) none
 | _ => none
def qv (v : AV) (k : Bool → Option α) : Option α :=
 match v with
 | .bool b => k b
 | _ => none
def kStr (v : AV) (k : List UInt8 → Option α) : Option α :=
 match v with
 | .str s => k s
 | _ => none
def kSl (v : AV) (k : List (List AV) → Option α) : Option α :=
 match v with
 | .sl rows => k rows
 | _ => none
def kAgg (v : AV) (k : List AV → Option α) : Option α :=
 match v with
 | .agg cs => k cs
 | _ => none
def kOpt {β : Type} (o : Option β) (k : β → Option α) : Option α :=
 match o with
 | some b => k b
 | none => none
def qn (l : List AV) (k : AV → List AV → Option α) : Option α :=
 match l with
 | c :: cs => k c cs
 | [] => none
def kNil (l : List AV) (x : Option α) : Option α :=
 match l with
 | [] => x
 | _ => none
def zA (s : FK) (v : AV) (k : KV α) : Option α :=
 match s with
 | .int kd => kInt kd v fun n => k (.int kd n)
 | .bool => qv v fun b => k (.bool b)
 | .str => kStr v fun s => k (.str s)
 | .sl => kSl v fun rows => k (.sl rows)
 | .any => k v
def zB : List FK → List AV → (List AV → Option α) → Option α
 | [], l, k => kNil l (k [])
 | s :: ss, l, k => qn l fun c cs => zA s c fun v => zB ss cs fun vs => k (v :: vs)
def qnW (sl : Bool) : TD → FK
 | .int k => .int k
 | .bool => .bool
 | .str => .str
 | .slice _ => if sl then .sl else .any
 | _ => .any
def qgg (cfg : Cfg) (p : TypeId → Bool) : Nat → TypeId → Option (List FK)
 | 0, _ => none
 | n + 1, t =>
  match cfg.td t with
  | some (.struct fs) => (fs.foldr (fun f acc => match qgg cfg p n f.2, acc with | some l, some a => some (l ++ a) | _, _ => none) (some []))
  | some (.array m e) => (match qgg cfg p n e with | some l => some ((qsG m l).flatten) | none => none)
  | some d => some [qnW (p t) d]
  | none => none
def kTy1 (p : TypeId → Bool) (cfg : Cfg) (t : TypeId) (v : AV) (k : KV α) : Option α :=
 match cfg.td t with
 | some d =>
  match d with
  | .struct _ => (match qgg cfg p 6 t with | some ss => kAgg v fun cs => zB ss cs fun vs => k (.agg vs) | none => k v)
  | .array _ _ => (match qgg cfg p 6 t with | some ss => kAgg v fun cs => zB ss cs fun vs => k (.agg vs) | none => k v)
  | d => zA (qnW (p t) d) v k
 | none => k v
def kTup (v : AV) (k : List AV → Option α) : Option α :=
 match v with
 | .tup cs => k cs
 | _ => none
def kTys (p : TypeId → Bool) (cfg : Cfg) : List TypeId → List AV → (List AV → Option α) → Option α
 | [], l, k => kNil l (k [])
 | t :: ts, l, k => qn l fun c cs => kTy1 p cfg t c fun v => kTys p cfg ts cs fun vs => k (v :: vs)
def kTy (p : TypeId → Bool) (cfg : Cfg) (t : TypeId) (v : AV) (k : KV α) : Option α :=
 match cfg.tup t with
 | some ts => kTup v fun cs => kTys p cfg ts cs fun vs => k (.tup vs)
 | none => kTy1 p cfg t v k
def AV.regA (i : Nat) : AV → AV
 | .agg cs => .agg (cs.map (AV.regn i))
 | a => a
def noTy : TypeId → Bool := fun _ => false
def qcF : TypeId → Bool := fun _ => true
def qr3 (cfg : Cfg) (H : AH) (a : AV) : TypeId → Bool :=
 match a with
 | .cptr _ _ => cfg.dat
 | .ptr id _ _ => if vJ H id then cfg.dat else noTy
 | _ => noTy
def kNew (nid : Option Nat) (H : AH) (b : ABlk) (k : Nat → AH → Option α) : Option α :=
 match nid with
 | none => k H.length (H ++ [b])
 | some i => kOpt H[i]? fun x => match x with | .res => k i (H.set i b) | _ => none
def qm5 (cfg : Cfg) (t : TypeId) : Bool := match cfg.td t with | some d => d.agg | none => false
def zN (agg : Bool) (v : AV) (k : List AV → Option α) : Option α :=
 cond agg (kAgg v fun cs => cond (vw cs) (k cs) none) (cond v.isCell (k [v]) none)
def qmE (t : Bool) (a b : AV) (k : KV α) : Option α :=
 match a, b with
 | .bool p, .bool q => k (.bool (cond t p q))
 | .int k1 p, .int k2 q => cond (zx k1 k2) (k (.int k1 (cond t p q))) (cond t (k a) (k b))
 | a, b => cond t (k a) (k b)
def qgs (place : Nat → Option (Nat × Nat × Bool)) (cells : List AV) : List (Nat × AV) → (List AV → Option α) → Option α
 | [], k => k cells
 | (i, v) :: rest, k =>
  match place i with
  | some (off, size, agg) => zN agg v fun cs => cond (qsy cs.length size && qsw (off + size) cells.length) (qgs place (cells.take off ++ cs ++ cells.drop (off + size)) rest k) none
  | none => none
def qd7 (cfg : Cfg) : List (Nat × TypeId) → Option (List (Nat × Nat × Bool))
 | [] => some []
 | (off, t) :: l =>
  match cfg.sz t, qd7 cfg l with
  | some n, some ps => some ((off, n, qm5 cfg t) :: ps)
  | _, _ => none
def qiR (agg : Bool) (n : Nat) (rows : List (List AV)) : List (Nat × AV) → (List (List AV) → Option α) → Option α
 | [], k => k rows
 | (i, v) :: rest, k => zN agg v fun cs => cond (qsy cs.length n && Nat.blt i rows.length) (qiR agg n (rows.set i cs) rest k) none
def kBlk (H : AH) (id : Nat) (k : Nat → List (List AV) → Option α) : Option α :=
 kOpt H[id]? fun b => match b with | .rows _ sz rs => k sz rs | .froz _ sz rs => k sz rs | _ => none
def qcw (H : AH) (id : Nat) (k : Bool → Nat → List (List AV) → Option α) : Option α :=
 kOpt H[id]? fun b => match b with | .rows d sz rs => k d sz rs | _ => none
def zU (agg : Bool) (n : Nat) (cells : List AV) (off : Nat) (k : KV α) : Option α :=
 cond agg (cond (qsw (off + n) cells.length) (k (.agg ((cells.drop off).take n))) none) (kOpt cells[off]? k)
def qgo (agg : Bool) (n : Nat) (H : AH) (p : AV) (k : KV α) : Option α :=
 match p with
 | .ptr id r off => kBlk H id fun _ rs => kOpt rs[r]? fun row => zU agg n row off k
 | .cptr cs off => zU agg n cs off k
 | .lpt cs off => zU agg n (cs.map AV.lend) off k
 | .rpt id cs off => kOpt H[id]? fun b => match b with
  | .reg => zU agg n (cs.map (AV.regn id)) off k
  | .spl => cond agg (cond (qsy n 4) (zB [.int .i64, .int .i64, .str, .sl] ((cs.drop off).take 4) fun vs => k (.alt [.agg (vs.map (AV.regn id)), .agg qd5, .agg row0])) none) (kOpt (qhh cs off) fun rows => k (.rsl id rows))
  | _ => none
 | _ => none
def qjE (agg : Bool) (n : Nat) (H : AH) (p v : AV) (k : AH → Option α) : Option α :=
 match p with
 | .ptr id r off => zN agg v fun cs => qcw H id fun d sz rs => kOpt rs[r]? fun row => cond (qsy cs.length n && qsw (off + n) row.length) (k (H.set id (.rows (d && qp 0 cs) sz (rs.set r (row.take off ++ cs ++ row.drop (off + n)))))) none
 | .rpt id cs off => kOpt H[id]? fun b => match b with | .spl => cond (qsy n 4) (cond (yT ((cs.drop off).take 4) && is77 v) (k H) none) (cond (qsy n 7 && qgy (cs.drop off) && qaM v) (k H) none) | _ => none
 | _ => none
def qdy (v : AV) (k : KV α) : Option α :=
 match v with
 | .ptr id r off => k (.ptr id r off)
 | .cptr cs off => k (.cptr cs off)
 | .fn (.func f) a b => k (.fn (.func f) a b)
 | .mp id => k (.mp id)
 | .yld id => k (.yld id)
 | _ => none
def qh (a b : Int) : Bool := decide (a ≤ b)
def qo (a b : Int) : Bool := decide (a < b)
def qdB (lo hi : Nat) (x : Option AV) (dflt : Nat) (k : Nat → Option α) : Option α :=
 match x with
 | none => k dflt
 | some v => match v with | .int _ i => cond (qh lo i && qh i hi) (k i.toNat) none | _ => none
def zM (n : Nat) (lo hi mx : Option AV) (k : Nat → Nat → Option α) : Option α :=
 cond (hi.isNone && mx.isSome) none (qdB 0 n hi n fun h => qdB h n mx h fun _ => qdB 0 h lo 0 fun l => k l h)
def qjF (cfg : Cfg) (t : TypeId) (H : AH) (x : AV) (lo hi mx : Option AV) (k : KV α) : Option α :=
 match cfg.td t with
 | some .str => (match mx with | none => (match x with | .str s => zM s.length lo hi none fun l h => k (.str ((s.drop l).take (h - l))) | _ => none) | _ => none)
 | some (.slice e) =>
  match cfg.sz e with
  | some n =>
   match x with
   | .nilS => zM 0 lo hi mx fun _ _ => k .nilS
   | .sl rows => zM rows.length lo hi mx fun l h => cond (vE n rows) (match cfg.ems t with | false => k (.sl ((rows.drop l).take (h - l))) | true => k (slE true rows l h)) none
   | .ms id off len => zM len lo hi mx fun l h => kBlk H id fun sz _ => cond (qsy sz n) (k (.ms id (off + l) (h - l))) none
   | _ => none
  | none => none
 | _ => none
def qcr (cfg : Cfg) (t : TypeId) (H : AH) (x i : AV) (k : KV α) : Option α :=
 match i with
 | .int _ i =>
  match cfg.td t with
  | some (.slice e) =>
   match cfg.sz e with
   | some n =>
    match x with
    | .ms id off len => kBlk H id fun sz _ => cond (qsy sz n && qh 0 i && qo i len) (k (.ptr id (off + i.toNat) 0)) none
    | .sl rows => cond (qh 0 i && qo i rows.length) (kOpt rows[i.toNat]? fun row => cond (qsy row.length n) (k (.cptr row 0)) none) none
    | .lsl rows => cond (qh 0 i && qo i rows.length) (kOpt rows[i.toNat]? fun row => cond (qsy row.length n) (k (.lpt row 0)) none) none
    | .rsl id rows => cond (qh 0 i && qo i rows.length) (kOpt rows[i.toNat]? fun row => cond (qsy row.length n) (k (.rpt id row 0)) none) none
    | _ => none
   | none => none
  | some (.array n e) =>
   match cfg.sz e with
   | some sz =>
    match x with
    | .ptr id r off => cond (qh 0 i && qo i n) (k (.ptr id r (off + i.toNat * sz))) none
    | .cptr cs off => cond (qh 0 i && qo i n) (k (.cptr cs (off + i.toNat * sz))) none
    | _ => none
   | none => none
  | _ => none
 | _ => none
def qjM (cfg : Cfg) (t : TypeId) (x i : AV) (k : KV α) : Option α :=
 match i with
 | .int _ i =>
  match cfg.td t with
  | some (.array n e) =>
   match cfg.ty e with
   | some ti => kAgg x fun cs => cond (qh 0 i && qo i n) (zU ti.d.agg ti.sz cs (i.toNat * ti.sz) k) none
   | none => none
  | some .str => kStr x fun s => cond (qh 0 i) (kOpt s[i.toNat]? fun b => k (.int .u8 b.toNat)) none
  | _ => none
 | _ => none
def qjN (cfg : Cfg) (t : TypeId) (x : AV) (f : Nat) (k : KV α) : Option α :=
 match cfg.td t with
 | some (.struct fs) =>
  match fs[f]? with
  | some (off, ft) => (match cfg.ty ft with | some ti => kAgg x fun cs => zU ti.d.agg ti.sz cs off k | none => none)
  | none => none
 | _ => none
def qcu (cfg : Cfg) (t : TypeId) (x : AV) (f : Nat) (k : KV α) : Option α :=
 match cfg.td t with
 | some (.struct fs) =>
  match fs[f]? with
  | some (o, ft) =>
   match cfg.sz ft with
   | some (_ + 1) => (match x with | .ptr id r off => k (.ptr id r (off + o)) | .cptr cs off => k (.cptr cs (off + o)) | .rpt id cs off => k (.rpt id cs (off + o)) | _ => none)
   | _ => none
  | none => none
 | _ => none
def qfd (cfg : Cfg) (nid : Option Nat) (src dst : TypeId) (x : AV) (H : AH) (k : KH α) : Option α :=
 match cfg.td src, cfg.td dst with
 | some (.int _), some (.int kd) => (match x with | .int _ n => k (.int kd (kd.wrap n)) H | _ => none)
 | some .str, some .str => kStr x fun s => k (.str s) H
 | some .str, some (.slice e) =>
  match cfg.td e with
  | some (.int .u8) => kStr x fun s => kNew nid H (.rows true 1 (yh s)) fun i H' => k (.ms i 0 s.length) H'
  | _ => none
 | some (.slice e), some .str =>
  match cfg.td e with
  | some (.int .u8) => kOpt (xc H 1 x) fun rows => kOpt (vV rows) fun bs => k (.str bs) H
  | _ => none
 | _, _ => none
def qhr (H : AH) (n : Nat) (x : AV) (k : List (List AV) → Option α) : Option α :=
 match x with
 | .nilS => k []
 | .em => k []
 | .sl rows => cond (vE n rows) (k rows) none
 | .ms id off len => kBlk H id fun sz rs => cond (qsy sz n && qsw (off + len) rs.length) (k ((rs.drop off).take len)) none
 | _ => none
def kSrc (isStr : Bool) (H : AH) (n : Nat) (x : AV) (k : List (List AV) → Option α) : Option α :=
 cond isStr (kStr x fun b => cond (qsy n 1) (k (yh b)) none) (qhr H n x k)
def qlB (cfg : Cfg) (t : TypeId) : Bool := match cfg.td t with | some .str => true | _ => false
def qht (cfg : Cfg) (nid : Option Nat) (t xt : TypeId) (s x : AV) (H : AH) (k : KH α) : Option α :=
 match cfg.td t, cfg.td xt with
 | some (.slice e), some xd =>
  match cfg.ty e with
  | some ei =>
   cond (xd.notInt && Nat.blt 0 ei.sz && qsy ei.zero.length ei.sz)
    (kSrc (qlB cfg xt) H ei.sz x fun news =>
     match s with
     | .nilS => cond news.isEmpty (k .nilS H) (cond (qO news.length ei.bytes) (kNew nid H (.rows (vL H x) ei.sz news) fun i H' => k (.ms i 0 news.length) H') none)
     | .ms id off len => qcw H id fun d sz rs => cond (qsy sz ei.sz && qsw (off + len) rs.length && qO (len + news.length) ei.bytes)
       (kNew nid (H.set id .dead) (.rows (d && vL H x) sz ((rs.drop off).take len ++ news)) fun i H' => k (.ms i 0 (len + news.length)) H') none
     | _ => none) none
  | none => none
 | _, _ => none
def kLen (cfg : Cfg) (t : TypeId) (x : AV) (H : AH) (k : KV α) : Option α :=
 match cfg.td t with
 | some .str => kStr x fun s => k (.int .i64 s.length)
 | some (.slice _) => (match x with | .nilS => k (.int .i64 0) | .em => k (.int .i64 0) | .sl rows => k (.int .i64 rows.length) | .ms _ _ len => k (.int .i64 len) | .lsl rows => k (.int .i64 rows.length) | .rsl _ rows => k (.int .i64 rows.length) | _ => none)
 | some (.array n _) => k (.int .i64 n)
 | some (.map _ _) => (match x with | .nilM => k (.int .i64 0) | .mp id => (kOpt H[id]? fun b => match b with | .mp es => k (.int .i64 es.length) | _ => none) | _ => none)
 | _ => none
def qmG (cfg : Cfg) (nid : Option Nat) (t : TypeId) (len cap : AV) (H : AH) (k : KH α) : Option α :=
 match cfg.td t with
 | some (.slice e) =>
  match cfg.ty e with
  | some ei =>
   cond (xW ei) (kInt .i64 len fun n => kInt .i64 cap fun c =>
    cond (qh 0 n && qh n c && qh (c * ei.bytes) 140737488355328 && qh c 9223372036854775807) (kNew nid H (.rows true ei.sz (qsG n.toNat ei.zero)) fun i H' => k (.ms i 0 n.toNat) H') none) none
  | none => none
 | _ => none
def qjO (cfg : Cfg) (t : TypeId) (x : AV) (H : AH) (k : AH → Option α) : Option α :=
 match cfg.td t with
 | some (.slice e) =>
  match x with
  | .nilS => k H
  | .ms id off len =>
   match cfg.ty e with
   | some ei => qcw H id fun d sz rs => cond (xW ei && qsy sz ei.sz && qsw (off + len) rs.length) (k (H.set id (.rows d sz (rs.take off ++ qsG len ei.zero ++ rs.drop (off + len))))) none
   | none => none
  | _ => none
 | _ => none
def qmL (cfg : Cfg) (t xt : TypeId) (d s : AV) (H : AH) (k : KH α) : Option α :=
 match cfg.td t with
 | some (.slice e) =>
  match d with
  | .ms id off len =>
   match cfg.sz e with
   | some n => qcw H id fun d sz rs => kSrc (qlB cfg xt) H n s fun news => cond (qsy sz n && qsw (off + len) rs.length && Nat.blt 0 sz)
     (k (.int .i64 (Nat.min news.length len)) (H.set id (.rows (d && vL H s) sz (rs.take off ++ news.take len ++ rs.drop (off + (news.take len).length))))) none
   | none => none
  | _ => none
 | _ => none
def kOp (cfg : Cfg) (nid : Option Nat) (o : Op) (ty : TypeId) (x : Operand → AV) (H : AH) (k : KH α) : Option α :=
 match o with
 | .move a | .assign a => k (x a) H
 | .pick c a b => qv (x c) fun t => qmE t (x a) (x b) fun v => k v H
 | .alloc t =>
  match cfg.ty t with
  | some ti => cond (vw ti.zero) (kNew nid H (.rows (bigZ (cfg.fga t ti.zero)) ti.zero.length [cfg.fga t ti.zero]) fun i H' => k (.ptr i 0 0) H') none
  | none => none
 | .box t a => zN (qm5 cfg t) (x a) fun cs => kNew nid H (.rows (bigZ cs) cs.length [cs]) fun i H' => k (.ptr i 0 0) H'
 | .build t parts =>
  match cfg.ty t with
  | some ti =>
   cond (vw ti.zero)
    (match ti.d with
    | .struct fs =>
     match qd7 cfg fs with
     | some ps => qgs (fun i => ps[i]?) ti.zero (parts.toList.map fun p => (p.1, x p.2)) fun cs => k (.agg (cfg.fga t cs)) H
     | none => none
    | .array _ e =>
     match cfg.sz e with
     | some n => qgs (fun i => some (i * n, n, qm5 cfg e)) ti.zero (parts.toList.map fun p => (p.1, x p.2)) fun cs => k (.agg cs) H
     | none => none
    | _ => none) none
  | none => none
 | .buildSlice t len parts =>
  match cfg.td t with
  | some (.slice e) =>
   match cfg.ty e with
   | some ei =>
    cond (xW ei && qsw (len * ei.sz) 16777216)
     (qiR ei.d.agg ei.sz (qsG len ei.zero) (parts.toList.map fun p => (p.1, x p.2)) fun rows => kNew nid H (.rows (qw 0 rows) ei.sz rows) fun i H' => k (.ms i 0 len) H') none
   | none => none
  | _ => none
 | .load t a =>
  match cfg.ty t with
  | some ti => match x a with
   | .lpt cs off => zU ti.d.agg ti.sz cs off fun v => kTy cfg.dat cfg t v fun v => cond ti.d.agg (k v.lendA H) (k v.lend H)
   | .rpt id cs off => kOpt H[id]? fun b => match b with
    | .reg => zU ti.d.agg ti.sz cs off fun v => kTy cfg.dat cfg t v fun v => cond ti.d.agg (k (v.regA id) H) (k (v.regn id) H)
    | _ => qgo ti.d.agg ti.sz H (.rpt id cs off) fun v => k v H
   | p => qgo ti.d.agg ti.sz H p fun v => kTy (qr3 cfg H p) cfg t v fun v => k v H
  | none => none
 | .store t a v =>
  match cfg.ty t with
  | some ti => qjE ti.d.agg ti.sz H (x a) (x v) fun H' => k .junk H'
  | none => none
 | .nilCheck a => qdy (x a) fun v => k v H
 | .binOp op t a b _ => kOpt (aBin cfg (litN a b) op t (x a) (x b)) fun v => kTy noTy cfg ty v fun v => k v H
 | .unOp op _ a => kOpt (aUn op (x a)) fun v => kTy noTy cfg ty v fun v => k v H
 | .convert s d a => qfd cfg nid s d (x a) H k
 | .makeFunc f first caps => k (.fn f (first.toList.map x) (caps.toList.map x)) H
 | .makeSlice t l c => qmG cfg nid t (x l) (x c) H k
 | .slice t a lo hi mx => qjF cfg t H (x a) (lo.map x) (hi.map x) (mx.map x) fun v => k v H
 | .fieldAddr t a f => qcu cfg t (x a) f fun v => k v H
 | .field t a f => qjN cfg t (x a) f fun v => kTy noTy cfg ty v fun v => k v H
 | .indexAddr t a i => qcr cfg t H (x a) (x i) fun v => k v H
 | .index t a i => qjM cfg t (x a) (x i) fun v => kTy noTy cfg ty v fun v => k v H
 | .extract t i => (match x t with | .tup vs => kOpt vs[i]? fun v => kTy noTy cfg ty v fun v => k v H | _ => none)
 | .call c =>
  match c.callee with
  | .builtin b =>
   match b, c.args.toList, c.argTypes.toList with
   | .len, [a], [t] => kLen cfg t (x a) H fun v => k v H
   | .append, [s, a], [t, xt] => qht cfg nid t xt (x s) (x a) H k
   | .copy, [d, s], [t, xt] => qmL cfg t xt (x d) (x s) H k
   | .clear, [a], [t] => qjO cfg t (x a) H fun H' => k (.tup []) H'
   | .min, [a, b], _ => kOpt (aMin (fun b a => decide (b < a)) [x a, x b]) fun v => kTy noTy cfg ty v fun v => k v H
   | .max, [a, b], _ => kOpt (aMin (fun b a => decide (a < b)) [x a, x b]) fun v => kTy noTy cfg ty v fun v => k v H
   | _, _, _ => none
  | _ => none
 | _ => none
def qgr (g s : Bool) (H : AH) (v : AV) (k : KV α) : Option α :=
 match v with
 | .ms id off len => kBlk H id fun _ rs => cond (qsw (off + len) rs.length && (vJ H id || qw 0 ((rs.drop off).take len))) (k (.sl ((rs.drop off).take len))) none
 | .nilS => k (cond g (.sl []) .nilS)
 | .em => k (cond g (.sl []) .em)
 | .ptr id r off => cond s (kBlk H id fun _ rs => kOpt rs[r]? fun row => cond (qp 0 row) (k (.cptr row off)) none) (k (.ptr id r off))
 | .rsl id rows => cond s (kOpt H[id]? fun b => match b with | .reg => k (.sl rows) | _ => none) (k (.rsl id rows))
 | a => k a
def zc (g s : Bool) (H : AH) : List AV → (List AV → Option α) → Option α
 | [], k => k []
 | a :: l, k => qgr g s H a fun a => zc g s H l fun l => k (a :: l)
def qbm (s : Bool) (H : AH) (v : AV) (k : KV α) : Option α :=
 match v with
 | .agg cs => zc true s H cs fun cs => k (.agg cs)
 | .tup cs => cond s (k ((AV.tup cs).fg)) (zc true s H cs fun cs => k (.tup cs))
 | .fn f a b => cond s (zc false s H a fun a => zc false s H b fun b => k (.fn f a b)) (k (.fn f a b))
 | a => qgr true s H a k
def qmH (H : AH) (v : AV) (k : KV α) : Option α :=
 match v with
 | .agg cs => zc false false H cs fun cs => k (.agg cs)
 | .tup cs => zc false false H cs fun cs => k (.tup cs)
 | a => qgr false false H a k
def qdz (H : AH) : List AV → (List AV → Option α) → Option α
 | [], k => k []
 | a :: l, k => qmH H a fun a => qdz H l fun l => k (a :: l)
def qiW (H : AH) : List AV → (List AV → Option α) → Option α
 | [], k => k []
 | a :: l, k => qbm true H a fun a => qiW H l fun l => k (a :: l)
inductive OV where
 | nil
 | own (sz : Nat) (rs : List (List AV)) (off len : Nat)
def ovOf (r : AV × AH) : Option OV :=
 match r.1 with
 | .nilS => some .nil
 | .ms id off len =>
  match r.2[id]? with
  | some (.rows d sz rs) => if d || qw 0 rs then some (.own sz rs off len) else none
  | _ => none
 | _ => none
def qmr (r : AV × AH) : Option (OV × AV) :=
 match r.1 with
 | .tup [a, s] => cond s.scalar1 (match ovOf (a, r.2) with | some o => some (o, s) | none => none) none
 | _ => none
def EVd (cf : Orac) (f : Nat) (args : List AV) (sz : Nat) (rs : List (List AV)) : Option (AV × List (List AV)) := (cf (.f f) args [.rows true sz rs]).bind (qjV sz)
def EVx (cf : Orac) (f : Nat) (args : List AV) (sz : Nat) (rs : List (List AV)) : Option (AV × List (List AV)) := (cf (.f f) args [.rows false sz rs]).bind (qfQ sz)
open Classical in
noncomputable def EVk (cf : Orac) (f : Nat) (args : List AV) (sz : Nat) (rs : List (List AV)) : Option AV := (EVx cf f args sz rs).bind fun q => if q.2 = rs then some q.1 else none
theorem qou {cf : Orac} {f : Nat} {args : List AV} {sz : Nat} {rs : List (List AV)} {v : AV} (h : EVx cf f args sz rs = some (v, rs)) : EVk cf f args sz rs = some v := by
 unfold EVk; rw [h]; exact if_pos rfl
theorem qpq {cf : Orac} {f : Nat} {args : List AV} {sz : Nat} {rs : List (List AV)} {v : AV} (h : EVk cf f args sz rs = some v) : EVx cf f args sz rs = some (v, rs) := by
 unfold EVk at h
 obtain ⟨q, h1, h2⟩ := qsj.1 h
 split at h2
 ·rename_i e
  rw [h1, ← Option.some.inj h2, ← e]
 ·cases h2
def EVs (cf : Orac) (f : Nat) (args : List AV) : Option AV := (cf (.f f) args []).map fun r => r.1
def EVf (cf : Orac) (f : Nat) (args : List AV) : Option AV := (cf (.f f) args []).map fun r => (r.1.frz r.1.msIds r.2).fg
def EVo (cf : Orac) (f : Nat) (args : List AV) : Option OV := (cf (.f f) args []).bind ovOf
def EVn (cf : Orac) (f : Nat) (args : List AV) : Option AV := (cf (.f f) args []).bind fun r => qck r.2 r.1
def EVg (cf : Orac) (f : Nat) (args : List AV) : Option AV := (cf (.f f) args []).bind fun r => qdb r.2 r.1
def EVz (cf : Orac) (f : Nat) (a : AV) : Option Unit := (cf (.f f) [a] [.spl]).bind qd8
def qgw (cf : Orac) (f : Nat) : List AV → Option α → Option α
 | [], k => k
 | a :: l, k => kOpt (EVz cf f a) fun _ => qgw cf f l k
def EVq (cf : Orac) (f : Nat) (args : List AV) : Option (OV × AV) := (cf (.f f) args []).bind qmr
def kOwn (o : OV) (x : Option α) (k : Nat → List (List AV) → Nat → Nat → Option α) : Option α :=
 match o with
 | .nil => x
 | .own sz rs off len => k sz rs off len
inductive MV where
 | unit
 | nil
 | sl (off len : Nat)
 | int (k : IntKind) (n : Int)
 | bool (b : Bool)
def mvOf : AV → Option MV
 | .tup [] => some .unit
 | .nilS => some .nil
 | .ms id off len => if qsy id 0 then some (.sl off len) else none
 | .int k n => some (.int k n)
 | .bool b => some (.bool b)
 | _ => none
def MV.av (id : Nat) : MV → AV
 | .unit => .tup []
 | .nil => .nilS
 | .sl off len => .ms id off len
 | .int k n => .int k n
 | .bool b => .bool b
def EVm (cf : Orac) (f : Nat) (args : List AV) (sz : Nat) (rs : List (List AV)) : Option (MV × List (List AV)) :=
 (cf (.f f) args [.rows true sz rs]).bind fun r => (qga sz r).bind fun q => (mvOf q.1).map fun v => (v, q.2)
def EVu (cf : Orac) (f : Nat) (args : List AV) : Option MV := (cf (.f f) args []).bind fun r => if r.1.refsLt 0 then mvOf r.1 else none
def kMSl (v : MV) (x : Option α) (k : Nat → Nat → Option α) : Option α :=
 match v with
 | .nil => x
 | .sl off len => k off len
 | _ => none
def qa5 (v : MV) (x : Option α) : Option α :=
 match v with
 | .unit => x
 | _ => none
def qiU (kd : IntKind) (v : MV) (k : Int → Option α) : Option α :=
 match v with
 | .int q n => cond (zx q kd) (k n) none
 | _ => none
def qjL (v : MV) (k : Bool → Option α) : Option α :=
 match v with
 | .bool b => k b
 | _ => none
def qnU (cfg : Cfg) (ty : TypeId) : Nat :=
 match cfg.td ty with
 | some (.slice _) => 1
 | some (.int _) => 2
 | some .bool => 3
 | _ => 0
def qpu (cfg : Cfg) (ty : TypeId) : IntKind :=
 match cfg.td ty with
 | some (.int k) => k
 | _ => .i64
def qiT (kd : Nat) (ik : IntKind) (id : Nat) (v : MV) (k : KV α) : Option α :=
 match kd with
 | 0 => qa5 v (k (.tup []))
 | 1 => kMSl v (k .nilS) fun off len => k (.ms id off len)
 | 2 => qiU ik v fun n => k (.int ik n)
 | _ => qjL v fun b => k (.bool b)
noncomputable def qed (cfg : Cfg) (cf : Orac) (kf : KF α) (nid : Option Nat) (ty : TypeId) (t : Tgt) (args : List AV) (H : AH) (k : KH α) : Option α :=
 match t with
 | .y id => kf (.y id) args H fun r => kOpt (y5 nid H.length r.1 r.2) fun r => kTy noTy cfg ty r.1 fun v => k v r.2
 | .f f =>
  match cfg.mode f with
  | .scal => qiW H args fun al => cond (qp 0 al) (match cfg.inl f with
   | some _ => kf (.f f) al [] fun r => kTy noTy cfg ty r.1 fun v => cond v.scalar (k v H) none
   | none => kOpt (EVs cf f al) fun v => kTy noTy cfg ty v fun v => cond v.scalar (k v H) none) none
  | .pfrz => cond (qp 0 (args.map AV.fg)) (match cfg.inl f with
   | some _ => kf (.f f) (args.map AV.fg) [] fun r => qbm false r.2 r.1 fun v => kTy qcF cfg ty v fun v => cond (v.refsLt 0) (k v H) none
   | none => kOpt (EVf cf f (args.map AV.fg)) fun v => kTy qcF cfg ty v fun v => cond (v.refsLt 0) (k v H) none) none
  | .nfrz => cond (qp 0 (args.map AV.fg)) (kOpt (EVn cf f (args.map AV.fg)) fun V => kTy qcF cfg ty V fun V => k V.lendT H) none
  | .pown => match cfg.tup ty with
   | some [_, t2] => cond (qp 0 args) (kOpt (EVq cf f args) fun q => kTy1 noTy cfg t2 q.2 fun s => kOwn q.1 (k (.tup [.nilS, s]) H) fun sz rs off len => kNew nid H (.rows true sz rs) fun i H' => k (.tup [.ms i off len, s]) H') none
   | _ => cond (qp 0 args) (match cfg.inl f with
   | some _ => kf (.f f) args [] fun r => kOpt (ovOf r) fun o => kOwn o (k .nilS H) fun sz rs off len => kNew nid H (.rows true sz rs) fun i H' => k (.ms i off len) H'
   | none => kOpt (EVo cf f args) fun o => kOwn o (k .nilS H) fun sz rs off len => kNew nid H (.rows true sz rs) fun i H' => k (.ms i off len) H') none
  | .inpl =>
   match qL 0 args with
   | id :: l => cond (vO [id] l) (kOpt H[id]? fun b => match b with
     | .rows d sz rs => cond (d || qw 0 rs) (kOpt (EVm cf f (renL (fun _ => 0) args) sz rs) fun q => qiT (qnU cfg ty) (qpu cfg ty) id q.1 fun v => k v (H.set id (.rows true sz q.2))) none
     | _ => none) none
   | [] => cond (qp 0 args) (kOpt (EVu cf f args) fun v => qiT (qnU cfg ty) (qpu cfg ty) 0 v fun v => k v H) none
  | .imp => kf (.f f) args H fun r => kOpt (y5 nid H.length r.1 r.2) fun r => kTy noTy cfg ty r.1 fun v => k v r.2
  | .ifrz => kf (.f f) args H fun r => kOpt (y5 nid H.length (r.1.frz r.1.msIds r.2) (qJ r.1.msIds r.2)) fun r => kTy noTy cfg ty r.1 fun v => k v r.2
  | .inpf =>
   match qL 0 args with
   | id :: l => cond (vO [id] l) (kOpt H[id]? fun b => match b with
     | .rows d sz rs => cond (d || qw 0 rs) (kOpt (EVd cf f (renL (fun _ => 0) args) sz rs) fun q => kTy qcF cfg ty q.1 fun v => k v (H.set id (.rows true sz q.2))) none
     | _ => none) none
   | [] => none
  | .slf =>
   match qL 0 args with
   | id :: l => cond (vO [id] l) (kOpt H[id]? fun b => match b with
     | .rows _ sz rs => cond (vO [id] (xp 0 rs)) (kOpt (EVk cf f (renL (fun _ => 0) args) sz (renR (fun _ => 0) rs)) fun q => kTy qcF cfg ty q fun v => k v (H.set id (.rows false sz (renR (fun _ => id) (renR (fun _ => 0) rs))))) none
     | _ => none) none
   | [] => none
  | .rgn => cond (qp 0 (args.map AV.fg)) (kOpt (EVg cf f (args.map AV.fg)) fun V => kTy qcF cfg ty V fun V => kNew nid H .reg fun i H' => k (rgIn i V) H') none
  | .over =>
   match args with
   | [a] =>
    (match qL 0 a.alts with
    | id :: l => cond (vO [id] l) (kOpt H[id]? fun b => match b with
      | .reg => qgw cf f (renL (fun _ => 0) a.alts) (k (.tup []) (H.set id .spl))
      | .spl => qgw cf f (renL (fun _ => 0) a.alts) (k (.tup []) H)
      | _ => none) none
    | [] => none)
   | _ => none
def kTgt (f : AV) (args : List AV) (k : Tgt → List AV → Option α) : Option α :=
 match f with
 | .fn (.func g) first caps => k (.f g) (first ++ args ++ caps)
 | .yld id => k (.y id) args
 | _ => none
def opEq : Operand → Operand → Bool
 | .tmp a, .tmp b => qsy a b
 | _, _ => false
def frzX : List Operand → List AV → (Operand → AV) → Operand → AV
 | b :: l, v :: al, x, a => cond (opEq b a) v (frzX l al x a)
 | _, _, x, a => x a
noncomputable def qiV (cfg : Cfg) (nid : Option Nat) (o : Oper) (x : Operand → AV) (H : AH) (k : KH α) : Option α :=
 qdz H (o.op.operands.toList.map x) fun al =>
  kOp cfg nid o.op o.type (frzX o.op.operands.toList al fun a => (x a).frz (o.op.operands.toList.flatMap fun a => (x a).msIds) H) (qJ (o.op.operands.toList.flatMap fun a => (x a).msIds) H) k
noncomputable def qiS (cfg : Cfg) (cf : Orac) (kf : KF α) (frz : Bool) (nid : Option Nat) (o : Oper) (x : Operand → AV) (H : AH) (k : KH α) : Option α :=
 cond frz
  (match o.op with
   | .call c =>
    match c.callee with
    | .value f => qdz H (c.args.toList.map x) fun al => kTgt ((x f).frz (o.op.operands.toList.flatMap fun a => (x a).msIds) H) al fun t al =>
      qed cfg cf kf nid o.type t al (qJ (o.op.operands.toList.flatMap fun a => (x a).msIds) H) k
    | _ => qiV cfg nid o x H k
   | _ => qiV cfg nid o x H k)
  (match o.op with
   | .call c =>
    match c.callee with
    | .value f => kTgt (x f) (c.args.toList.map x) fun t al => qed cfg cf kf nid o.type t al H k
    | _ => kOp cfg nid o.op o.type x H k
   | _ => kOp cfg nid o.op o.type x H k)
def qd9 (ops : Array Oper) (fr : List AV) (o : Oper) (k : Bool → List AV → Option α) : Option α :=
 match o.guard with
 | none => k true fr
 | some (j, want) =>
  match (ops[j]?).bind (·.dst) with
  | some d => kOpt fr[d]? fun v => match v with
   | .tup l => (match l with | [] => k false fr | _ => none)
   | v => qv v fun b => cond b (k want (fr.set d (.bool true))) (k (!want) (fr.set d (.bool false)))
  | none => none
noncomputable def kOps (cfg : Cfg) (cf : Orac) (kf : KF α) (f rid : Nat) (ops : Array Oper) : Nat → List Oper → List AV → AH → (List AV → AH → Option α) → Option α
 | _, [], fr, H, k => k fr H
 | n, o :: rest, fr, H, k => qd9 ops fr o fun b fr =>
   cond b (qiS cfg cf kf (cfg.frz f rid n) none o (opd fr) H fun v H' => kOps cfg cf kf f rid ops (n + 1) rest (put fr o.dst v) H' k) (kOps cfg cf kf f rid ops (n + 1) rest (put fr o.dst (.tup [])) H k)
noncomputable def qgu (cfg : Cfg) (cf : Orac) (kf : KF α) (f rid : Nat) (ops : Array Oper) : Nat → Nat → List Oper → List AV → AH → (List FP → List AV → AH → Option α) → Option α
 | _, _, [], fr, H, k => k [] fr H
 | n, at_, o :: rest, fr, H, k => qd9 ops fr o fun b fr =>
   cond b
    (qiS cfg cf kf (cfg.frz f rid n) (some at_) o (opd fr) H fun v H' =>
     qgu cfg cf kf f rid ops (n + 1) (cond (qcn cfg o) (at_ + 1) at_) rest (put fr o.dst v) H' fun fps fr' H'' => k (x7 cfg (cfg.frz f rid n) at_ o (opd fr) :: fps) fr' H'')
    (qgu cfg cf kf f rid ops (n + 1) (cond (qcn cfg o) (at_ + 1) at_) rest (put fr o.dst (.tup [])) H fun fps fr' H'' => k (.none :: fps) fr' H'')
open Classical in
noncomputable def CUT {β : Type} (p : β) : Option β := if ∃ q : β, some q = some p then some p else none
theorem qov {β : Type} (p : β) : CUT p = some p := if_pos ⟨p, rfl⟩
noncomputable def yO (ts : Option (List Tmp)) (fr : List AV) (H : AH) (g : List AV → AH → Option α) : Option α :=
 match ts with
 | none => g fr H
 | some ks => kOpt (CUT (vp (some ks) fr, H)) fun p => g p.1 p.2
theorem qj4 {β : Type} {p : β} {K : β → Option α} {r : α} (h : K p = some r) : kOpt (CUT p) K = some r := by rw [qov]; exact h
theorem qk2 {ts : Option (List Tmp)} {fr : List AV} {H : AH} {g : List AV → AH → Option α} {r : α} (h : yO ts fr H g = some r) : g (vp ts fr) H = some r := by
 cases ts with
 | none => exact h
 | some ks =>
  have h : kOpt (CUT (vp (some ks) fr, H)) (fun p => g p.1 p.2) = some r := h
  rw [qov] at h
  exact h
def kSeq (nx : List AV → AH → Option α) (k : KE α) : KE α := fun e fr H =>
 match e with
 | .normal => nx fr H
 | e => k e fr H
def xe (id : Nat) (k : KE α) : KE α := fun e fr H =>
 match e with
 | .exit id' => cond (qsy id' id) (k .normal fr H) (k (.exit id') fr H)
 | e => k e fr H
def qgl (k : KE α) : KE α := fun e fr H =>
 match e with
 | .goto _ => none
 | e => k e fr H
def kAft (ts : Option (List Tmp)) (k : KE α) (r : Ex × List AV × AH) : Option α := k r.1 (vp ts r.2.1) r.2.2
def known (fr : List AV) (c : Operand) (b : Bool) : List AV :=
 match c with
 | .tmp d => fr.set d (.bool b)
 | _ => fr
def qpv (b : ABlk) (k : Option Code → Option α) : Option α :=
 match b with
 | .loop _ _ _ _ _ pend st => (match st with | .busy => none | _ => k pend)
 | _ => none
def qjH (pend : Option Code) (k : KE α) (fr : List AV) (H : AH) : Option α :=
 match pend with
 | none => k .normal fr H
 | some c => (match c with | .ret => k .ret fr H | .exit id => k (.exit id) fr H | _ => none)
def xA (bs n : Nat) (fr : List AV) (k : KE α) (H : AH) : Option α :=
 kOpt H[n]? fun b => qpv b fun pend => qjH pend k (gc bs fr (H.set n .dead)).1 (gc bs fr (H.set n .dead)).2
def qnY (cfg : Cfg) (_cf : Orac) (kf : KF α) (f : Nat) (rd : Option Nat) (bs : Nat) (g : AV) (ps : List Tmp) (assign body : Code) (fr : List AV) (H : AH) (k : KE α) : Option α :=
 cond (qjp rd H)
  (match g with
   | .fn (.func h) first caps => cond (cfg.ext h).isNone
     (kf (.f h) (first ++ [.yld H.length] ++ caps) (H ++ [.loop f (vp (cfg.keepIn f (qj body)) fr) ps assign body none .ready]) fun r =>
      xA bs H.length (vp (cfg.keepOut f (qj body)) fr) k r.2) none
   | _ => none) none
noncomputable def q5 (cfg : Cfg) (cf : Orac) (kf : KF α) (f : Nat) (rd : Option Nat) (bs : Nat) : Code → List AV → AH → KE α → Option α
 | .skip, fr, H, k => k .normal fr H
 | .label _, fr, H, k => k .normal fr H
 | .region id ops draw, fr, H, k =>
  cond draw
   (cond (qba ops)
    (qgu cfg cf kf f id ops 0 H.length ops.toList fr (H ++ qsG (places cfg ops.toList) .res) fun fps fr' H' => cond (qa9 (ancs [] ops.toList) 0 fps) (k .normal fr' H') none) none)
   (kOps cfg cf kf f id ops 0 ops.toList fr H fun fr' H' => k .normal fr' H')
 | .seq a b, fr, H, k => q5 cfg cf kf f rd bs a fr H (kSeq (fun fr H => yO (cfg.cut f (qj b)) fr H fun fr H => q5 cfg cf kf f rd bs b fr H k) k)
 | .cond c a b, fr, H, k => qv (opd fr c) fun t => cond t (q5 cfg cf kf f rd bs a (known fr c true) H k) (q5 cfg cf kf f rd bs b (known fr c false) H k)
 | .block id a, fr, H, k => q5 cfg cf kf f rd bs a fr H (xe id k)
 | .loop a, fr, H, k => kOpt (LOOP bs (cfg.keepIn f (qj a)) (cfg.lift f (qj a)) (evC cfg cf f rd bs a) (yP bs (cfg.keepIn f (qj a)) (cfg.lift f (qj a)) fr H)) (kAft (cfg.keepOut f (qj a)) k)
 | .scope a, fr, H, k => q5 cfg cf kf f rd bs a fr H (qgl k)
 | .exit id, fr, H, k => k (.exit id) fr H
 | .goto _, _, _, _ => none
 | .ret, fr, H, k => k .ret fr H
 | .rangeFunc g ps assign body, fr, H, k => qnY cfg cf kf f rd bs (opd (qZ (cfg.lift f (qj body)) fr H).1 g) ps.toList assign body (qZ (cfg.lift f (qj body)) fr H).1 (qZ (cfg.lift f (qj body)) fr H).2 k
 | .refuse _, _, _, _ => none
inductive Ko where
 | seq (c : Code)
 | block (id : Nat)
 | scope
noncomputable def kRun (cfg : Cfg) (cf : Orac) (kf : KF α) (f : Nat) (rd : Option Nat) (bs : Nat) (k : KE α) : List Ko → KE α
 | [] => k
 | .seq c :: s => kSeq (fun fr H => yO (cfg.cut f (qj c)) fr H fun fr H => q5 cfg cf kf f rd bs c fr H (kRun cfg cf kf f rd bs k s)) (kRun cfg cf kf f rd bs k s)
 | .block id :: s => xe id (kRun cfg cf kf f rd bs k s)
 | .scope :: s => qgl (kRun cfg cf kf f rd bs k s)
def kRes (cfg : Cfg) (fr : List AV) (H : AH) : List ResultVar → (List AV → Option α) → Option α
 | [], k => k []
 | .tmp t :: l, k => kRes cfg fr H l fun vs => k (fr.getD t .junk :: vs)
 | .cell a t :: l, k =>
  match cfg.ty t with
  | some ti => qgo ti.d.agg ti.sz H (fr.getD a .junk) fun v => kTy noTy cfg t v fun v => kRes cfg fr H l fun vs => k (v :: vs)
  | none => none
variable {α : Type} {r : α} {H : AH}
theorem qd {b : Bool} {x : Option α} (h : cond b x none = some r) : b = true ∧ x = some r := by cases b <;> simp_all
theorem qm3 {b : Bool} {x : Option α} (h : cond b none x = some r) : b = false ∧ x = some r := by cases b <;> simp_all
theorem vZ {b : Bool} {x y : Option α} (h : cond b x y = some r) : (b = true ∧ x = some r) ∨ (b = false ∧ y = some r) := by cases b <;> simp_all
theorem qdq {a b : IntKind} (h : zx a b = true) : a = b := by simpa [zx] using h
theorem vD {a b : Int} : qh a b = true ↔ a ≤ b := by simp [qh]
theorem yM {a b : Int} : qo a b = true ↔ a < b := by simp [qo]
theorem z6 {kd : IntKind} {v : AV} {k : Int → Option α} (h : kInt kd v k = some r) : ∃ n, v = .int kd n ∧ k n = some r := by
 unfold kInt at h
 split at h
 ·obtain ⟨h1, h2⟩ := qd h
  rw [qdq h1]; exact ⟨_, rfl, h2⟩
 ·cases h
theorem qaD {v : AV} {k : Bool → Option α} (h : qv v k = some r) : ∃ b, v = .bool b ∧ k b = some r := by
 unfold qv at h; split at h
 ·exact ⟨_, rfl, h⟩
 ·cases h
theorem yN {v : AV} {k : List UInt8 → Option α} (h : kStr v k = some r) : ∃ b, v = .str b ∧ k b = some r := by
 unfold kStr at h; split at h
 ·exact ⟨_, rfl, h⟩
 ·cases h
theorem qbn {v : AV} {k : List AV → Option α} (h : kAgg v k = some r) : ∃ b, v = .agg b ∧ k b = some r := by
 unfold kAgg at h; split at h
 ·exact ⟨_, rfl, h⟩
 ·cases h
theorem ql {β : Type} {o : Option β} {k : β → Option α} (h : kOpt o k = some r) : ∃ b, o = some b ∧ k b = some r := by
 unfold kOpt at h; split at h
 ·exact ⟨_, rfl, h⟩
 ·cases h
theorem yV {l : List AV} {k : AV → List AV → Option α} (h : qn l k = some r) : ∃ a b, l = a :: b ∧ k a b = some r := by
 unfold qn at h; split at h
 ·exact ⟨_, _, rfl, h⟩
 ·cases h
theorem qdx {l : List AV} {x : Option α} (h : kNil l x = some r) : l = [] ∧ x = some r := by
 unfold kNil at h; split at h
 ·exact ⟨rfl, h⟩
 ·cases h
theorem qeT {s : FK} {v : AV} {k : KV α} (h : zA s v k = some r) : k v = some r := by
 cases s with
 | int kd => obtain ⟨n, rfl, h1⟩ := z6 h; exact h1
 | bool => obtain ⟨n, rfl, h1⟩ := qaD h; exact h1
 | str => obtain ⟨n, rfl, h1⟩ := yN h; exact h1
 | sl =>
  have h : kSl v (fun rows => k (.sl rows)) = some r := h
  unfold kSl at h
  split at h
  ·exact h
  ·cases h
 | any => exact h
theorem qbB : ∀ {ss : List FK} {l : List AV} {k : List AV → Option α}, zB ss l k = some r → k l = some r
 | [], l, k, h => by
  obtain ⟨rfl, h1⟩ := qdx h
  exact h1
 | s :: ss, l, k, h => by
  obtain ⟨a, b, rfl, h1⟩ := yV h
  exact qbB (k := fun vs => k (a :: vs)) (qeT (k := fun v => zB ss b fun vs => k (v :: vs)) h1)
theorem qmM {l0 : List AV} {k : List AV → Option α} (h0 : zB [.int .i64, .int .i64, .str, .sl] l0 k = some r) : yT l0 = true ∧ k l0 = some r := by
 refine ⟨?_, qbB h0⟩
 simp only [zB] at h0
 obtain ⟨a, l1, rfl, h1⟩ := yV h0
 obtain ⟨n, rfl, h2⟩ := z6 (k := fun n => qn l1 fun c cs => zA (.int .i64) c fun v => qn cs fun c cs => zA .str c fun v1 => qn cs fun c cs => zA .sl c fun v2 => kNil cs (k [.int .i64 n, v, v1, v2])) h1
 obtain ⟨a, l2, rfl, h3⟩ := yV h2
 obtain ⟨m, rfl, h4⟩ := z6 (k := fun m => qn l2 fun c cs => zA .str c fun v1 => qn cs fun c cs => zA .sl c fun v2 => kNil cs (k [.int .i64 n, .int .i64 m, v1, v2])) h3
 obtain ⟨a, l3, rfl, h5⟩ := yV h4
 obtain ⟨s, rfl, h6⟩ := yN (k := fun s => qn l3 fun c cs => zA .sl c fun v2 => kNil cs (k [.int .i64 n, .int .i64 m, .str s, v2])) h5
 obtain ⟨a, l4, rfl, h7⟩ := yV h6
 have h8 : kSl a (fun rows => kNil l4 (k [.int .i64 n, .int .i64 m, .str s, .sl rows])) = some r := h7
 unfold kSl at h8
 split at h8
 ·obtain ⟨rfl, _⟩ := qdx h8
  rfl
 ·cases h8
theorem qds {p : TypeId → Bool} {cfg : Cfg} {t : TypeId} {v : AV} {k : KV α} (h : kTy1 p cfg t v k = some r) : k v = some r := by
 unfold kTy1 at h
 have agg : ∀ {ss : List FK}, (kAgg v fun cs => zB ss cs fun vs => k (.agg vs)) = some r → k v = some r := by
  intro ss h
  obtain ⟨cs, rfl, h⟩ := qbn h
  exact qbB (k := fun vs => k (.agg vs)) h
 split at h
 ·split at h
  ·split at h
   ·exact agg h
   ·exact h
  ·split at h
   ·exact agg h
   ·exact h
  ·exact qeT h
 ·exact h
theorem qhX {p : TypeId → Bool} {cfg : Cfg} : ∀ {ts : List TypeId} {l : List AV} {k : List AV → Option α}, kTys p cfg ts l k = some r → k l = some r
 | [], l, k, h => by
  rw [kTys] at h
  obtain ⟨h1, h2⟩ := qdx h
  rw [h1]; exact h2
 | t :: ts, l, k, h => by
  rw [kTys] at h
  obtain ⟨a, b, rfl, h⟩ := yV h
  have h1 := qds (k := fun v => kTys p cfg ts b fun vs => k (v :: vs)) h
  exact qhX (k := fun vs => k (a :: vs)) h1
theorem q7 {p : TypeId → Bool} {cfg : Cfg} {t : TypeId} {v : AV} {k : KV α} (h : kTy p cfg t v k = some r) : k v = some r := by
 unfold kTy at h
 split at h
 ·unfold kTup at h
  split at h
  ·exact qhX (k := fun vs => k (.tup vs)) h
  ·cases h
 ·exact qds h
theorem xm {nid : Option Nat} {b : ABlk} {k : Nat → AH → Option α} (h : kNew nid H b k = some r) : ∃ i H', aNew nid H b = some (i, H') ∧ k i H' = some r := by
 unfold kNew at h
 unfold aNew
 cases nid with
 | none => exact ⟨_, _, rfl, h⟩
 | some i =>
  simp only at h ⊢
  obtain ⟨x, hx, h⟩ := ql h
  rw [hx]
  split at h
  ·exact ⟨_, _, rfl, h⟩
  ·cases h
theorem qjR {v : AV} (h : v.isCell = true) : v.cells = some [v] := by cases v <;> simp_all [AV.isCell, AV.cells]
theorem zd {agg : Bool} {v : AV} {k : List AV → Option α} (h : zN agg v k = some r) : ∃ cs, v.cells = some cs ∧ k cs = some r := by
 unfold zN at h
 rcases vZ h with ⟨_, h⟩ | ⟨_, h⟩
 ·obtain ⟨cs, rfl, h⟩ := qbn h
  obtain ⟨h1, h2⟩ := qd h
  exact ⟨cs, by simp [AV.cells, h1], h2⟩
 ·obtain ⟨h1, h2⟩ := qd h
  exact ⟨_, qjR h1, h2⟩
theorem qmD {t : Bool} {a b : AV} {k : KV α} (h : qmE t a b k = some r) : k (if t then a else b) = some r := by
 have sp : ∀ {a b : AV}, cond t (k a) (k b) = some r → k (if t then a else b) = some r := by
  intro a b h
  cases t <;> simpa using h
 unfold qmE at h
 split at h
 ·cases t <;> simpa using h
 ·rcases vZ h with ⟨h1, h⟩ | ⟨_, h⟩
  ·have := qdq h1; subst this
   cases t <;> simpa using h
  ·exact sp h
 ·exact sp h
theorem qct {place : Nat → Option (Nat × Nat × Bool)} {place' : Nat → Option (Nat × Nat)} (hp : ∀ i off n g, place i = some (off, n, g) → place' i = some (off, n)) : ∀ {parts : List (Nat × AV)} {cells : List AV} {k : List AV → Option α},
  qgs place cells parts k = some r → ∃ cs, z1 place' cells parts = some cs ∧ k cs = some r
 | [], cells, k, h => ⟨cells, rfl, h⟩
 | (i, v) :: rest, cells, k, h => by
  rw [qgs] at h
  split at h
  ·rename_i off n g hi
   obtain ⟨cs, h1, h⟩ := zd h
   obtain ⟨h2, h⟩ := qd h
   obtain ⟨cs', h3, h4⟩ := qct hp h
   refine ⟨cs', ?_, h4⟩
   rw [qsm] at h2
   rw [z1, hp _ _ _ _ hi, h1]
   simp only
   rw [if_pos]
   ·exact h3
   ·rw [qsm, beq_iff_eq]
    exact ⟨qsn h2.1, h2.2⟩
  ·cases h
theorem qf4 {cfg : Cfg} : ∀ {fs : List (Nat × TypeId)} {ps : List (Nat × Nat × Bool)}, qd7 cfg fs = some ps → ∃ qs, yK cfg fs = some qs ∧ ∀ (i off n : Nat) (g : Bool), ps[i]? = some (off, n, g) → qs[i]? = some (off, n)
 | [], ps, h => by cases h; exact ⟨[], rfl, fun i off n g h => by simp at h⟩
 | (off, t) :: l, ps, h => by
  rw [qd7] at h
  split at h
  ·rename_i n ps' h1 h2
   cases h
   obtain ⟨qs, h3, h4⟩ := qf4 h2
   refine ⟨(off, n) :: qs, by rw [yK, h1, h3], fun i o m g hi => ?_⟩
   cases i with
   | zero => simp at hi ⊢; exact ⟨hi.1, hi.2.1⟩
   | succ i => simpa using h4 i o m g (by simpa using hi)
  ·cases h
theorem qgm {agg : Bool} {n : Nat} : ∀ {parts : List (Nat × AV)} {rows : List (List AV)} {k : List (List AV) → Option α}, qiR agg n rows parts k = some r → ∃ rs, zH n rows parts = some rs ∧ k rs = some r
 | [], rows, k, h => ⟨rows, rfl, h⟩
 | (i, v) :: rest, rows, k, h => by
  rw [qiR] at h
  obtain ⟨cs, h1, h⟩ := zd h
  obtain ⟨h2, h⟩ := qd h
  obtain ⟨rs, h3, h4⟩ := qgm h
  refine ⟨rs, ?_, h4⟩
  rw [qsm] at h2
  rw [zH, h1]
  simp only
  rw [if_pos]
  ·exact h3
  ·rw [qsm, beq_iff_eq]
   exact ⟨qsn h2.1, h2.2⟩
theorem zj {id : Nat} {k : Nat → List (List AV) → Option α} (h : kBlk H id k = some r) : ∃ sz rs, qK H id = some (sz, rs) ∧ k sz rs = some r := by
 unfold kBlk at h
 obtain ⟨b, hb, h⟩ := ql h
 unfold qK
 rw [hb]
 split at h
 ·exact ⟨_, _, rfl, h⟩
 ·exact ⟨_, _, rfl, h⟩
 ·cases h
theorem zz {g s : Bool} {v : AV} {k : KV α} (h : qgr g s H v k = some r) : (∀ ids, (∀ id off len, v = .ms id off len → id ∈ ids) → s = false → k (cond g (v.frz1 ids H).fg1 (v.frz1 ids H)) = some r) ∧ (s = true → k (cond g (v.snap1 H).fg1 (v.snap1 H)) = some r) := by
 unfold qgr at h
 split at h
 ·rename_i id off len
  obtain ⟨sz, rs, h1, h⟩ := zj h
  rcases hc : (qsw (off + len) rs.length && (vJ H id || qw 0 ((rs.drop off).take len))) with _ | _
  ·rw [hc] at h; cases h
  ·rw [hc] at h
   have h : k (.sl ((rs.drop off).take len)) = some r := h
   have aux : ∀ ids : List Nat, id ∈ ids → (AV.ms id off len).frz1 ids H = .sl ((rs.drop off).take len) := by
    intro ids hi
    simp only [AV.frz1, h1]
    rw [if_pos]
    rw [Bool.and_assoc, hc, Bool.and_true]
    exact qY.2 hi
   refine ⟨fun ids hi _ => ?_, fun _ => ?_⟩
   ·rw [aux ids (hi _ _ _ rfl)]; cases g <;> exact h
   ·simp only [AV.snap1]; rw [aux [id] (by simp)]; cases g <;> exact h
 ·refine ⟨fun ids _ _ => ?_, fun _ => ?_⟩ <;> (cases g <;> exact h)
 ·refine ⟨fun ids _ _ => ?_, fun _ => ?_⟩ <;> (cases g <;> exact h)
 ·rename_i id r' off
  cases s with
  | false => exact ⟨fun ids _ _ => by cases g <;> exact h, fun h => by cases h⟩
  | true =>
   refine ⟨fun _ _ h => by (cases h), fun _ => ?_⟩
   obtain ⟨sz, rs, h1, h⟩ := zj h
   obtain ⟨row, h2, h⟩ := ql h
   obtain ⟨h3, h⟩ := qd h
   simp only [AV.snap1, h1, h2, qgR, h3, if_true]
   cases g <;> exact h
 ·rename_i id rows
  cases s with
  | false => exact ⟨fun ids _ _ => by cases g <;> exact h, fun h => by cases h⟩
  | true =>
   refine ⟨fun _ _ h => by (cases h), fun _ => ?_⟩
   obtain ⟨b, h1, h⟩ := ql h
   split at h
   ·simp only [AV.snap1, h1]
    cases rows <;> cases g <;> exact h
   ·cases h
 ·rename_i hn1 hn2 hn4 hn3 hn5
  refine ⟨fun ids _ _ => ?_, fun _ => ?_⟩
  ·have : v.frz1 ids H = v := by
    cases v <;> first | rfl | exact absurd rfl (hn1 _ _ _)
   rw [this]
   have : v.fg1 = v := by
    cases v <;> first | rfl | exact absurd rfl hn2 | exact absurd rfl hn4
   rw [this]; cases g <;> exact h
  ·have : v.snap1 H = v := by
    cases v <;> first | rfl | exact absurd rfl (hn1 _ _ _) | exact absurd rfl (hn3 _ _ _) | exact absurd rfl (hn5 _ _)
   rw [this]
   have : v.fg1 = v := by
    cases v <;> first | rfl | exact absurd rfl hn2 | exact absurd rfl hn4
   rw [this]; cases g <;> exact h
theorem z7 {g : Bool} {ids : List Nat} : ∀ {l : List AV} {k : List AV → Option α}, (∀ v ∈ l, ∀ id off len, v = .ms id off len → id ∈ ids) → zc g false H l k = some r → k (l.map fun v => cond g (v.frz1 ids H).fg1 (v.frz1 ids H)) = some r
 | [], k, _, h => h
 | a :: l, k, hi, h => by
  rw [zc] at h
  have h1 := (zz h).1 ids (hi a (by simp)) rfl
  exact z7 (k := fun l => k (cond g (a.frz1 ids H).fg1 (a.frz1 ids H) :: l)) (fun v hv => hi v (by simp [hv])) h1
theorem qaB {g : Bool} : ∀ {l : List AV} {k : List AV → Option α}, zc g true H l k = some r → k (l.map fun v => cond g (v.snap1 H).fg1 (v.snap1 H)) = some r
 | [], k, h => h
 | a :: l, k, h => by
  rw [zc] at h
  have h1 := (zz h).2 rfl
  exact qaB (k := fun l => k (cond g (a.snap1 H).fg1 (a.snap1 H) :: l)) h1
theorem qbj {l : List AV} {v : AV} (hv : v ∈ l) {id off len : Nat} (h : v = .ms id off len) : id ∈ l.flatMap AV.msId := by
 subst h
 exact List.mem_flatMap.2 ⟨_, hv, by simp [AV.msId]⟩
theorem qdA {v : AV} {k : KV α} (h : qbm false H v k = some r) : k (v.frz v.msIds H).fg = some r := by
 unfold qbm at h
 split at h
 ·rename_i cs
  have := z7 (ids := cs.flatMap AV.msId) (fun v hv id off len e => qbj hv e) h
  simpa [AV.frz, AV.fg, AV.msIds, Function.comp_def] using this
 ·rename_i cs
  have := z7 (k := fun cs => k (.tup cs)) (ids := cs.flatMap AV.msId) (fun v hv id off len e => qbj hv e) h
  simpa [AV.frz, AV.fg, AV.msIds, Function.comp_def] using this
 ·exact h
 ·rename_i h1 h2 h3
  have h4 := (zz h).1 v.msIds (fun id off len e => by subst e; simp [AV.msIds, AV.msId]) rfl
  have e1 : v.frz v.msIds H = v.frz1 v.msIds H := by
   cases v <;> first | rfl | exact absurd rfl (h1 _) | exact absurd rfl (h2 _)
  have e2 : (v.frz1 v.msIds H).fg = (v.frz1 v.msIds H).fg1 := by
   cases v <;> first | rfl | exact absurd rfl (h1 _) | exact absurd rfl (h2 _) | skip
   simp only [AV.frz1]
   split
   ·split <;> rfl
   ·rfl
  rw [e1, e2]; exact h4
theorem qmI {v : AV} {k : KV α} (h : qbm true H v k = some r) : k (v.snap H).fg = some r := by
 unfold qbm at h
 split at h
 ·rename_i cs
  have := qaB h
  simpa [AV.snap, AV.fg, Function.comp_def] using this
 ·exact h
 ·rename_i f a b
  have h2 := qaB (k := fun a => zc false true H b fun b => k (.fn f a b)) h
  have h3 := qaB (k := fun b => k (.fn f (a.map (AV.snap1 H)) b)) h2
  exact h3
 ·rename_i h1 h2 h3
  have h4 := (zz h).2 rfl
  have e1 : v.snap H = v.snap1 H := by
   cases v <;> first | rfl | exact absurd rfl (h1 _) | exact absurd rfl (h3 _ _ _)
  have e2 : (v.snap1 H).fg = (v.snap1 H).fg1 := by
   cases v <;> first | rfl | exact absurd rfl (h1 _) | exact absurd rfl (h2 _) | skip
   ·simp only [AV.snap1, AV.frz1]
    split
    ·split <;> rfl
    ·rfl
   ·simp only [AV.snap1]
    split
    ·split <;> rfl
    ·rfl
   ·simp only [AV.snap1]
    split <;> rfl
  rw [e1, e2]; exact h4
theorem qgv : ∀ {l : List AV} {k : List AV → Option α}, qiW H l k = some r → k (l.map fun a => (a.snap H).fg) = some r
 | [], k, h => h
 | a :: l, k, h => by
  rw [qiW] at h
  have h1 := qmI h
  exact qgv (k := fun l => k ((a.snap H).fg :: l)) h1
theorem zC {id : Nat} {k : Bool → Nat → List (List AV) → Option α} (h : qcw H id k = some r) : ∃ d sz rs, H[id]? = some (.rows d sz rs) ∧ k d sz rs = some r := by
 unfold qcw at h
 obtain ⟨b, hb, h⟩ := ql h
 split at h
 ·exact ⟨_, _, _, hb, h⟩
 ·cases h
theorem xB {agg : Bool} {n off : Nat} {cells : List AV} {k : KV α} (h : zU agg n cells off k = some r) :
  ∃ v, (if agg then (if qsw (off + n) cells.length then some (AV.agg ((cells.drop off).take n)) else none) else cells[off]?) = some v ∧ k v = some r := by
 unfold zU at h
 rcases vZ h with ⟨rfl, h⟩ | ⟨rfl, h⟩
 ·obtain ⟨h1, h2⟩ := qd h
  exact ⟨_, by simp [h1], h2⟩
 ·obtain ⟨v, h1, h2⟩ := ql h
  exact ⟨v, by simp [h1], h2⟩
theorem qcq {agg : Bool} {n : Nat} {p : AV} {k : KV α} (h : qgo agg n H p k = some r) : ∃ v, yi agg n H p = some v ∧ k v = some r := by
 unfold qgo at h
 unfold yi
 split at h
 ·obtain ⟨sz, rs, h1, h⟩ := zj h
  obtain ⟨row, h2, h⟩ := ql h
  obtain ⟨v, h3, h4⟩ := xB h
  exact ⟨v, by simp only [h1, h2]; exact h3, h4⟩
 ·obtain ⟨v, h3, h4⟩ := xB h
  exact ⟨v, h3, h4⟩
 ·obtain ⟨v, h3, h4⟩ := xB h
  refine ⟨v, ?_, h4⟩
  rw [← h3]
  simp only [List.length_map, List.map_take, List.map_drop, List.getElem?_map]
 ·obtain ⟨b, h1, h⟩ := ql h
  split at h
  ·obtain ⟨v, h3, h4⟩ := xB h
   refine ⟨v, ?_, h4⟩
   simp only [h1]
   rw [← h3]
   simp only [List.length_map, List.map_take, List.map_drop, List.getElem?_map]
  ·simp only [h1]
   rcases vZ h with ⟨ha, h⟩ | ⟨ha, h⟩
   ·obtain ⟨h2, h⟩ := qd h
    obtain ⟨h3, h⟩ := qmM h
    exact ⟨_, by rw [if_pos ha, if_pos (by rw [h2, h3]; rfl)], h⟩
   ·obtain ⟨rows, h2, h⟩ := ql h
    exact ⟨_, by rw [if_neg (by rw [ha]; simp)]; unfold qhi; rw [h2]; rfl, h⟩
  ·cases h
 ·cases h
theorem qkX {agg : Bool} {n : Nat} {p v : AV} {k : AH → Option α} (h : qjE agg n H p v k = some r) : ∃ H', x9 n H p v = some H' ∧ k H' = some r := by
 unfold qjE at h
 unfold x9
 split at h
 ·obtain ⟨cs, h1, h⟩ := zd h
  obtain ⟨d, sz, rs, h2, h⟩ := zC h
  obtain ⟨row, h3, h⟩ := ql h
  obtain ⟨h4, h⟩ := qd h
  rw [qsm] at h4
  refine ⟨_, ?_, h⟩
  simp only [h1, h2, h3]
  rw [if_pos]
  rw [qsm, beq_iff_eq]
  exact ⟨qsn h4.1, h4.2⟩
 ·obtain ⟨b, h1, h⟩ := ql h
  split at h
  ·rcases vZ h with ⟨h4, h⟩ | ⟨h4, h⟩
   ·obtain ⟨h2, h⟩ := qd h
    refine ⟨H, ?_, h⟩
    have h77 : is77 v = true := by rw [qsm] at h2; exact h2.2
    have hv : ∃ cs, v.cells = some cs := by
     rcases qlE h77 with rfl | rfl
     ·exact ⟨_, rfl⟩
     ·exact ⟨_, rfl⟩
    obtain ⟨cs, hv⟩ := hv
    simp only [hv, h1]
    rw [if_pos (by rw [h4, qsL]; exact h2)]
   ·obtain ⟨h2, h⟩ := qd h
    refine ⟨H, ?_, h⟩
    have h99 : qaM v = true := by rw [qsm] at h2; exact h2.2
    have hv : ∃ cs, v.cells = some cs := by
     unfold qaM at h99
     split at h99
     ·exact ⟨_, rfl⟩
     ·exact ⟨_, rfl⟩
     ·cases h99
    obtain ⟨cs, hv⟩ := hv
    simp only [hv, h1]
    rw [if_neg (by rw [h4]; simp), if_pos h2]
  ·cases h
 ·cases h
theorem qbC {lo hi d : Nat} {x : Option AV} {k : Nat → Option α} (h : qdB lo hi x d k = some r) : ∃ n, qbb lo hi x d = some n ∧ k n = some r := by
 unfold qdB at h
 unfold qbb
 split at h
 ·exact ⟨_, rfl, h⟩
 ·split at h
  ·obtain ⟨h1, h⟩ := qd h
   rw [qsm, vD, vD] at h1
   exact ⟨_, by simp only; rw [if_pos h1], h⟩
  ·cases h
theorem za {n : Nat} {lo hi mx : Option AV} {k : Nat → Nat → Option α} (h : zM n lo hi mx k = some r) : ∃ l h', zi n lo hi mx = some (l, h') ∧ k l h' = some r := by
 unfold zM at h
 obtain ⟨h0, h⟩ := qm3 h
 obtain ⟨a, h1, h⟩ := qbC h
 obtain ⟨b, h2, h⟩ := qbC h
 obtain ⟨c, h3, h⟩ := qbC h
 refine ⟨c, a, ?_, h⟩
 unfold zi
 rw [if_neg (by rw [h0]; simp), h1]
 simp only [h2, h3]
theorem qkY {cfg : Cfg} {t : TypeId} {x : AV} {lo hi mx : Option AV} {k : KV α} (h : qjF cfg t H x lo hi mx k = some r) : ∃ v, zG cfg t H x lo hi mx = some v ∧ k v = some r := by
 unfold qjF at h
 unfold zG
 split at h
 ·rename_i ht
  rw [ht]
  split at h
  ·split at h
   ·obtain ⟨l, h', h1, h⟩ := za h
    exact ⟨_, by simp only [h1], h⟩
   ·cases h
  ·cases h
 ·rename_i e ht
  rw [ht]
  split at h
  ·rename_i n hn
   split at h
   ·obtain ⟨l, h', h1, h⟩ := za h
    exact ⟨_, by simp only [hn, h1], h⟩
   ·rename_i rows
    obtain ⟨l, h', h1, h⟩ := za h
    obtain ⟨h2, h⟩ := qd h
    refine ⟨slE (cfg.ems t) rows l h', by simp only [hn, h1, h2, if_true], ?_⟩
    split at h
    ·rename_i he; rw [he]; exact h
    ·rename_i he; rw [he]; exact h
   ·obtain ⟨l, h', h1, h⟩ := za h
    obtain ⟨sz, rs, h2, h⟩ := zj h
    obtain ⟨h3, hz⟩ := qd h
    have := qsn h3
    subst this
    exact ⟨_, by simp [hn, h1, h2], hz⟩
   ·cases h
  ·cases h
 ·cases h
theorem qgp {cfg : Cfg} {t : TypeId} {x i : AV} {k : KV α} (h : qcr cfg t H x i k = some r) : ∃ v, xj cfg t H x i = some v ∧ k v = some r := by
 unfold qcr at h
 unfold xj
 split at h
 case h_2 => cases h
 rename_i kk i
 split at h
 ·rename_i e ht
  rw [ht]
  split at h
  case h_2 => cases h
  rename_i n hn
  split at h
  ·obtain ⟨sz, rs, h1, h⟩ := zj h
   obtain ⟨h2, hz⟩ := qd h
   rw [qsm, qsm, vD, yM] at h2
   have := qsn h2.1.1
   subst this
   exact ⟨_, by simp [hn, h1, h2.1.2, h2.2], hz⟩
  ·obtain ⟨h2, h⟩ := qd h
   rw [qsm, vD, yM] at h2
   obtain ⟨row, h3, h⟩ := ql h
   obtain ⟨h4, hz⟩ := qd h
   refine ⟨.cptr row 0, ?_, hz⟩
   have h5 := qsn h4
   simp only [hn, if_pos h2, h3]
   rw [if_pos (by rw [h5]; exact beq_self_eq_true n)]
  ·obtain ⟨h2, h⟩ := qd h
   rw [qsm, vD, yM] at h2
   obtain ⟨row, h3, h⟩ := ql h
   obtain ⟨h4, hz⟩ := qd h
   refine ⟨.lpt row 0, ?_, hz⟩
   have h5 := qsn h4
   simp only [hn, if_pos h2, h3]
   rw [if_pos (by rw [h5]; exact beq_self_eq_true n)]
  ·rename_i id rows
   obtain ⟨h2, h⟩ := qd h
   rw [qsm, vD, yM] at h2
   obtain ⟨row, h3, h⟩ := ql h
   obtain ⟨h4, hz⟩ := qd h
   refine ⟨.rpt id row 0, ?_, hz⟩
   have h5 := qsn h4
   simp only [hn, if_pos h2, h3]
   rw [if_pos (by rw [h5]; exact beq_self_eq_true n)]
  ·cases h
 ·rename_i m e ht
  rw [ht]
  split at h
  case h_2 => cases h
  rename_i n hn
  split at h
  ·obtain ⟨h2, h⟩ := qd h
   rw [qsm, vD, yM] at h2
   exact ⟨_, by simp [hn, h2.1, h2.2], h⟩
  ·obtain ⟨h2, h⟩ := qd h
   rw [qsm, vD, yM] at h2
   exact ⟨_, by simp [hn, h2.1, h2.2], h⟩
  ·cases h
 ·cases h
theorem qpt {cfg : Cfg} {t : TypeId} {ti : TI} (h : cfg.ty t = some ti) : cfg.sz t = some ti.sz ∧ cfg.td t = some ti.d := by
 unfold Cfg.sz Cfg.td; rw [h]; exact ⟨rfl, rfl⟩
theorem qk0 {cfg : Cfg} {t : TypeId} {x i : AV} {k : KV α} (h : qjM cfg t x i k = some r) : ∃ v, qb1 cfg t x i = some v ∧ k v = some r := by
 unfold qjM at h
 unfold qb1
 split at h
 case h_2 => cases h
 rename_i kk i
 split at h
 ·rename_i n e ht
  rw [ht]
  split at h
  case h_2 => cases h
  rename_i ti hti
  obtain ⟨cs, rfl, h⟩ := qbn h
  obtain ⟨h2, h⟩ := qd h
  rw [qsm, vD, yM] at h2
  obtain ⟨v, h3, h⟩ := xB h
  refine ⟨v, ?_, h⟩
  simp only [(qpt hti).1]
  rw [if_pos h2]
  unfold qeg
  rw [hti]
  exact h3
 ·rename_i ht
  rw [ht]
  obtain ⟨s, rfl, h⟩ := yN h
  obtain ⟨h2, h⟩ := qd h
  rw [vD] at h2
  obtain ⟨b, h3, h⟩ := ql h
  exact ⟨_, by simp [h2, h3], h⟩
 ·cases h
theorem qk1 {cfg : Cfg} {t : TypeId} {x : AV} {f : Nat} {k : KV α} (h : qjN cfg t x f k = some r) : ∃ v, qb2 cfg t x f = some v ∧ k v = some r := by
 unfold qjN at h
 unfold qb2
 split at h
 case h_2 => cases h
 rename_i fs ht
 rw [ht]
 split at h
 case h_2 => cases h
 rename_i off ft hf
 split at h
 case h_2 => cases h
 rename_i ti hti
 obtain ⟨cs, rfl, h⟩ := qbn h
 obtain ⟨v, h3, h⟩ := xB h
 refine ⟨v, ?_, h⟩
 simp only [hf]
 unfold qeg
 rw [hti]
 exact h3
theorem qgt {cfg : Cfg} {t : TypeId} {x : AV} {f : Nat} {k : KV α} (h : qcu cfg t x f k = some r) : ∃ v, yY cfg t x f = some v ∧ k v = some r := by
 unfold qcu at h
 unfold yY
 split at h
 case h_2 => cases h
 rename_i fs ht
 rw [ht]
 simp only
 split at h
 case h_2 => cases h
 rename_i off ft hf
 simp only [hf]
 split at h
 case h_2 => cases h
 rename_i n hn
 split at h
 ·exact ⟨_, by simp only [hn], h⟩
 ·exact ⟨_, by simp only [hn], h⟩
 ·exact ⟨_, by simp only [hn], h⟩
 ·cases h
variable {α : Type} {r : α} {H : AH}
theorem qjG {n : Nat} {x : AV} {k : List (List AV) → Option α} (h : qhr H n x k = some r) : ∃ rows, xc H n x = some rows ∧ k rows = some r := by
 unfold qhr at h
 unfold xc
 split at h
 ·exact ⟨_, rfl, h⟩
 ·exact ⟨_, rfl, h⟩
 ·obtain ⟨h1, hz⟩ := qd h
  exact ⟨_, by simp only [h1, if_true], hz⟩
 ·obtain ⟨sz, rs, h1, h⟩ := zj h
  obtain ⟨h2, hz⟩ := qd h
  rw [qsm] at h2
  refine ⟨_, ?_, hz⟩
  simp only [h1]
  rw [if_pos]
  rw [qsm, beq_iff_eq]
  exact ⟨qsn h2.1, h2.2⟩
 ·cases h
theorem qhY {b : Bool} {n : Nat} {x : AV} {k : List (List AV) → Option α} (h : kSrc b H n x k = some r) : ∃ rows, vY H n x = some rows ∧ k rows = some r := by
 unfold kSrc at h
 rcases vZ h with ⟨_, h⟩ | ⟨_, h⟩
 ·obtain ⟨s, rfl, h⟩ := yN h
  obtain ⟨h1, hz⟩ := qd h
  exact ⟨_, by simp only [vY, h1, if_true], hz⟩
 ·obtain ⟨rows, h1, hz⟩ := qjG h
  refine ⟨rows, ?_, hz⟩
  unfold vY
  split
  ·simp [xc] at h1
  ·exact h1
theorem qiz {cfg : Cfg} {nid : Option Nat} {s d : TypeId} {x : AV} {k : KH α} (h : qfd cfg nid s d x H k = some r) : ∃ v H', xP cfg nid s d x H = some (v, H') ∧ k v H' = some r := by
 unfold qfd at h
 unfold xP
 split at h
 ·rename_i hs hd
  split at h
  ·exact ⟨_, _, by simp only [hs, hd], h⟩
  ·cases h
 ·rename_i hs hd
  obtain ⟨b, rfl, hz⟩ := yN h
  exact ⟨_, _, by simp only [hs, hd], hz⟩
 ·rename_i e hs hd
  split at h
  ·rename_i hte
   obtain ⟨b, rfl, h0⟩ := yN h
   obtain ⟨i, H', h1, hz⟩ := xm h0
   exact ⟨_, _, by simp only [hs, hd, hte, h1], hz⟩
  ·cases h
 ·rename_i e hs hd
  split at h
  ·rename_i hte
   obtain ⟨rows, h1, h⟩ := ql h
   obtain ⟨bs, h2, hz⟩ := ql h
   refine ⟨.str bs, H, ?_, hz⟩
   simp only [hs, hd]
   cases x <;> first | (simp only [hte, h1, h2]; done) | (simp [xc] at h1)
  ·cases h
 ·cases h
theorem qjP {cfg : Cfg} {nid : Option Nat} {t xt : TypeId} {s x : AV} {k : KH α} (h : qht cfg nid t xt s x H k = some r) : ∃ v H', zm cfg nid t xt s x H = some (v, H') ∧ k v H' = some r := by
 unfold qht at h
 unfold zm
 split at h
 case h_2 => cases h
 rename_i e xd ht hxt
 split at h
 case h_2 => cases h
 rename_i ei hei
 obtain ⟨h1, h⟩ := qd h
 obtain ⟨news, h2, h⟩ := qhY h
 simp only [ht, hxt, hei, h1, if_true, h2]
 split at h
 ·rcases vZ h with ⟨h3, hz⟩ | ⟨h3, h⟩
  ·exact ⟨_, _, by simp only [h3, if_true], hz⟩
  ·obtain ⟨h4, h⟩ := qd h
   obtain ⟨i, H', h5, hz⟩ := xm h
   exact ⟨_, _, by simp only [h3, qsx, if_false, h4, if_true, h5], hz⟩
 ·obtain ⟨d, sz, rs, h3, h⟩ := zC h
  obtain ⟨h4, h⟩ := qd h
  obtain ⟨i, H', h5, hz⟩ := xm h
  exact ⟨_, _, by simp only [h3, h4, if_true, h5], hz⟩
 ·cases h
theorem qnZ {cfg : Cfg} {t : TypeId} {x : AV} {k : KV α} (h : kLen cfg t x H k = some r) : ∃ v, aLen cfg t x H = some v ∧ k v = some r := by
 unfold kLen at h
 unfold aLen
 split at h
 ·rename_i ht
  obtain ⟨s, rfl, hz⟩ := yN h
  exact ⟨_, by simp only [ht], hz⟩
 ·rename_i e ht
  split at h
  ·exact ⟨_, by simp only [ht], h⟩
  ·exact ⟨_, by simp only [ht], h⟩
  ·exact ⟨_, by simp only [ht], h⟩
  ·exact ⟨_, by simp only [ht], h⟩
  ·exact ⟨_, by simp only [ht], h⟩
  ·exact ⟨_, by simp only [ht], h⟩
  ·cases h
 ·rename_i n e ht
  exact ⟨_, by simp only [ht], h⟩
 ·rename_i a b ht
  split at h
  ·exact ⟨_, by simp only [ht], h⟩
  ·obtain ⟨b, h1, h⟩ := ql h
   split at h
   ·exact ⟨_, by simp only [ht, h1], h⟩
   ·cases h
  ·cases h
 ·cases h
theorem qmF {cfg : Cfg} {nid : Option Nat} {t : TypeId} {l c : AV} {k : KH α} (h : qmG cfg nid t l c H k = some r) : ∃ v H', zZ cfg nid t l c H = some (v, H') ∧ k v H' = some r := by
 unfold qmG at h
 unfold zZ
 split at h
 case h_2 => cases h
 rename_i e ht
 split at h
 case h_2 => cases h
 rename_i ei hei
 obtain ⟨h1, h⟩ := qd h
 obtain ⟨n, rfl, ha⟩ := z6 h
 obtain ⟨m, rfl, hb⟩ := z6 ha
 obtain ⟨h2, hd⟩ := qd hb
 obtain ⟨i, H', h3, hz⟩ := xm hd
 rw [qsm, qsm, qsm, vD, vD, vD, vD] at h2
 exact ⟨_, _, by simp only [ht, hei, h1, if_true]; rw [if_pos ⟨h2.1.1.1, h2.1.1.2, h2.1.2, h2.2⟩]; simp only [h3], hz⟩
theorem qhs {v : AV} {k : KV α} {cfg : Cfg} {nid : Option Nat} {a : Operand} {ty : TypeId} {x : Operand → AV} (hx : x a = v) (h : qdy v k = some r) : evOp cfg nid (.nilCheck a) ty x H = some (v, H) ∧ k v = some r := by
 unfold qdy at h
 simp only [evOp, hx]
 split at h <;> first | exact ⟨rfl, h⟩ | cases h
theorem qk3 {cfg : Cfg} {t : TypeId} {x : AV} {k : AH → Option α} (h : qjO cfg t x H k = some r) : ∃ H', qb3 cfg t x H = some H' ∧ k H' = some r := by
 unfold qjO at h
 unfold qb3
 split at h
 case h_2 => cases h
 rename_i e he
 rw [he]
 split at h
 ·exact ⟨H, rfl, h⟩
 ·rename_i id off len
  split at h
  case h_2 => cases h
  rename_i ei hei
  obtain ⟨d, sz, rs, h1, h⟩ := zC h
  obtain ⟨h2, hz⟩ := qd h
  exact ⟨_, by simp only [hei, h1, h2, if_true], hz⟩
 ·cases h
theorem qmK {cfg : Cfg} {t xt : TypeId} {d s : AV} {k : KH α} (h : qmL cfg t xt d s H k = some r) : ∃ v H', qeh cfg t d s H = some (v, H') ∧ k v H' = some r := by
 unfold qmL at h
 unfold qeh
 split at h
 case h_2 => cases h
 rename_i e he
 rw [he]
 split at h
 case h_2 => cases h
 rename_i id off len
 split at h
 case h_2 => cases h
 rename_i n hn
 obtain ⟨db, sz, rs, h1, h⟩ := zC h
 obtain ⟨news, h2, h⟩ := qhY h
 obtain ⟨h3, hz⟩ := qd h
 exact ⟨_, _, by simp only [hn, h1, h2, h3, if_true], hz⟩
theorem qjJ {cfg : Cfg} {nid : Option Nat} {o : Op} {ty : TypeId} {x : Operand → AV} {k : KH α} (h : kOp cfg nid o ty x H k = some r) : ∃ v H', evOp cfg nid o ty x H = some (v, H') ∧ k v H' = some r := by
 cases o with
 | move a => exact ⟨_, _, rfl, h⟩
 | assign a => exact ⟨_, _, rfl, h⟩
 | pick c a b =>
  simp only [kOp] at h
  obtain ⟨t, h1, h⟩ := qaD h
  have := qmD (k := fun v => k v H) h
  exact ⟨_, _, by simp only [evOp, h1], this⟩
 | alloc t =>
  simp only [kOp] at h
  split at h
  ·rename_i ti hti
   obtain ⟨h1, h⟩ := qd h
   obtain ⟨i, H', h2, hz⟩ := xm h
   exact ⟨_, _, by simp only [evOp, hti, h1, if_true, h2], hz⟩
  ·cases h
 | box t a =>
  simp only [kOp] at h
  obtain ⟨cs, h1, h⟩ := zd h
  obtain ⟨i, H', h2, hz⟩ := xm h
  exact ⟨_, _, by simp only [evOp, h1, h2], hz⟩
 | build t parts =>
  simp only [kOp] at h
  split at h
  case h_2 => cases h
  rename_i ti hti
  obtain ⟨h1, h⟩ := qd h
  split at h
  ·rename_i fs hfs
   split at h
   case h_2 => cases h
   rename_i ps hps
   obtain ⟨qs, h2, h3⟩ := qf4 hps
   obtain ⟨cs, h4, hz⟩ := qct (place' := fun i => qs[i]?) (fun i off n g hi => h3 i off n g hi) h
   exact ⟨_, _, by simp only [evOp, hti, h1, if_true, hfs, h2, h4, qsB], hz⟩
  ·rename_i m e hfs
   split at h
   case h_2 => cases h
   rename_i n hn
   obtain ⟨cs, h4, hz⟩ := qct (place' := fun i => some (i * n, n)) (fun i off m g hi => by cases hi; rfl) h
   exact ⟨_, _, by simp only [evOp, hti, h1, if_true, hfs, hn, h4, qsB], hz⟩
  ·cases h
 | buildSlice t len parts =>
  simp only [kOp] at h
  split at h
  case h_2 => cases h
  rename_i e ht
  split at h
  case h_2 => cases h
  rename_i ei hei
  obtain ⟨h1, h⟩ := qd h
  obtain ⟨rows, h2, h⟩ := qgm h
  obtain ⟨i, H', h3, hz⟩ := xm h
  exact ⟨_, _, by simp only [evOp, ht, hei, h1, if_true, h2, h3], hz⟩
 | load t a =>
  simp only [kOp] at h
  split at h
  case h_2 => cases h
  rename_i ti hti
  split at h
  ·rename_i cs off hx
   obtain ⟨v, h1, h⟩ := xB h
   have h2 := q7 (k := fun v => cond ti.d.agg (k v.lendA H) (k v.lend H)) h
   rcases vZ h2 with ⟨ha, h2⟩ | ⟨ha, h2⟩
   ·rw [ha] at h1
    simp only [if_true] at h1
    split at h1
    ·rename_i hb
     cases h1
     refine ⟨_, _, ?_, h2⟩
     simp only [evOp, hti, hx, yi, ha, if_true, hb, qsB, AV.lendA]
    ·cases h1
   ·rw [ha] at h1
    simp only [qsx, if_false] at h1
    refine ⟨_, _, ?_, h2⟩
    simp only [evOp, hti, hx, yi, ha, qsx, if_false, h1, qsB]
  ·rename_i id cs off hx
   obtain ⟨b, hb0, h⟩ := ql h
   split at h
   ·obtain ⟨v, h1, h⟩ := xB h
    have h2 := q7 (k := fun v => cond ti.d.agg (k (v.regA id) H) (k (v.regn id) H)) h
    rcases vZ h2 with ⟨ha, h2⟩ | ⟨ha, h2⟩
    ·rw [ha] at h1
     simp only [if_true] at h1
     split at h1
     ·rename_i hb
      cases h1
      refine ⟨_, _, ?_, h2⟩
      simp only [evOp, hti, hx, yi, hb0, ha, if_true, hb, qsB, AV.regA]
     ·cases h1
    ·rw [ha] at h1
     simp only [qsx, if_false] at h1
     refine ⟨_, _, ?_, h2⟩
     simp only [evOp, hti, hx, yi, hb0, ha, qsx, if_false, h1, qsB]
   ·obtain ⟨v, h1, h⟩ := qcq h
    exact ⟨_, _, by simp only [evOp, hti, hx, h1, qsB], h⟩
  ·obtain ⟨v, h1, h⟩ := qcq h
   exact ⟨_, _, by simp only [evOp, hti, h1, qsB], q7 (k := fun v => k v H) h⟩
 | store t a v =>
  simp only [kOp] at h
  split at h
  case h_2 => cases h
  rename_i ti hti
  obtain ⟨H', h1, hz⟩ := qkX h
  exact ⟨_, _, by simp only [evOp, (qpt hti).1, h1, qsB], hz⟩
 | nilCheck a =>
  obtain ⟨h1, h2⟩ := qhs (cfg := cfg) (nid := nid) (ty := ty) (H := H) (x := x) (a := a) (k := fun v => k v H) rfl h
  exact ⟨_, _, h1, h2⟩
 | binOp op t a b yt =>
  simp only [kOp] at h
  obtain ⟨v, h1, h⟩ := ql h
  exact ⟨_, _, by simp only [evOp, h1, qsB], q7 (k := fun v => k v H) h⟩
 | unOp op t a =>
  simp only [kOp] at h
  obtain ⟨v, h1, h⟩ := ql h
  exact ⟨_, _, by simp only [evOp, h1, qsB], q7 (k := fun v => k v H) h⟩
 | convert s d a => exact qiz h
 | makeFunc f first caps => exact ⟨_, _, rfl, h⟩
 | makeSlice t l c => exact qmF h
 | slice t a lo hi mx =>
  simp only [kOp] at h
  obtain ⟨v, h1, hz⟩ := qkY h
  exact ⟨_, _, by simp only [evOp, h1, qsB], hz⟩
 | fieldAddr t a f =>
  simp only [kOp] at h
  obtain ⟨v, h1, hz⟩ := qgt h
  exact ⟨_, _, by simp only [evOp, h1, qsB], hz⟩
 | field t a f =>
  simp only [kOp] at h
  obtain ⟨v, h1, h⟩ := qk1 h
  exact ⟨_, _, by simp only [evOp, h1, qsB], q7 (k := fun v => k v H) h⟩
 | indexAddr t a i =>
  simp only [kOp] at h
  obtain ⟨v, h1, hz⟩ := qgp h
  exact ⟨_, _, by simp only [evOp, h1, qsB], hz⟩
 | index t a i =>
  simp only [kOp] at h
  obtain ⟨v, h1, h⟩ := qk0 h
  exact ⟨_, _, by simp only [evOp, h1, qsB], q7 (k := fun v => k v H) h⟩
 | extract t i =>
  simp only [kOp] at h
  split at h
  ·rename_i vs hvs
   obtain ⟨v, h1, h⟩ := ql h
   exact ⟨_, _, by simp only [evOp, hvs, h1, qsB], q7 (k := fun v => k v H) h⟩
  ·cases h
 | call c =>
  simp only [kOp] at h
  obtain ⟨callee, args, argTypes⟩ := c
  simp only at h
  simp only [evOp]
  split at h
  case h_2 => cases h
  generalize args.toList = al at *
  generalize argTypes.toList = tl at *
  split at h
  ·obtain ⟨v, h1, hz⟩ := qnZ h
   exact ⟨_, _, by simp only [h1, qsB], hz⟩
  ·exact qjP h
  ·rename_i d s t xt
   obtain ⟨v, H', h1, hz⟩ := qmK h
   exact ⟨_, _, h1, hz⟩
  ·obtain ⟨v, h1, hz⟩ := qk3 h
   exact ⟨_, _, by simp only [h1, qsB], hz⟩
  ·obtain ⟨v, h1, h⟩ := ql h
   exact ⟨_, _, by simp only [h1, qsB], q7 (k := fun v => k v H) h⟩
  ·obtain ⟨v, h1, h⟩ := ql h
   exact ⟨_, _, by simp only [h1, qsB], q7 (k := fun v => k v H) h⟩
  ·cases h
 | _ => simp only [kOp] at h; cases h
def KfOk (cf : Orac) (kf : KF α) : Prop := ∀ t a H k r, kf t a H k = some r → ∃ q, cf t a H = some q ∧ k q = some r
theorem qcx {cf : Orac} {f : Nat} : ∀ {l : List AV} {k : Option α}, qgw cf f l k = some r → yu cf f l = some () ∧ k = some r
 | [], _, h => ⟨rfl, h⟩
 | a :: l, k, h => by
  rw [qgw] at h
  obtain ⟨u, h1, h⟩ := ql h
  obtain ⟨h2, hz⟩ := qcx h
  refine ⟨?_, hz⟩
  unfold EVz at h1
  obtain ⟨q, h3, h4⟩ := qsj.1 h1
  rw [yu, h3]
  simp only [qsv, h4, h2]
theorem qmN {cfg : Cfg} {cf : Orac} {kf : KF α} (hkf : KfOk cf kf) {nid : Option Nat} {ty : TypeId} {t : Tgt} {args : List AV} {k : KH α} (h : qed cfg cf kf nid ty t args H k = some r) : ∃ v H', qP cfg cf nid t args H = some (v, H') ∧ k v H' = some r := by
 cases t with
 | y id =>
  simp only [qed] at h
  obtain ⟨q, h1, h⟩ := hkf _ _ _ _ _ h
  obtain ⟨p, h2, h⟩ := ql h
  exact ⟨_, _, by simp only [qP, h1, qsv]; exact h2, q7 (k := fun v => k v p.2) h⟩
 | f f =>
  simp only [qed] at h
  cases hm : cfg.mode f with
  | scal =>
   simp only [hm] at h
   obtain ⟨h1, h⟩ := qd (qgv h)
   split at h
   ·obtain ⟨q, h5, h⟩ := hkf _ _ _ _ _ h
    have h3 := q7 (k := fun v => cond v.scalar (k v H) none) h
    obtain ⟨h4, hz⟩ := qd h3
    exact ⟨q.1, H, by simp only [qP, hm, h1, if_true, h5, qsv, h4], hz⟩
   obtain ⟨v, h2, h⟩ := ql h
   have h3 := q7 (k := fun v => cond v.scalar (k v H) none) h
   obtain ⟨h4, hz⟩ := qd h3
   unfold EVs at h2
   obtain ⟨q, h5, h6⟩ := qsl.1 h2
   exact ⟨v, H, by simp only [qP, hm, h1, if_true, h5, qsv, h6, h4], hz⟩
  | pfrz =>
   simp only [hm] at h
   obtain ⟨h1, h⟩ := qd h
   split at h
   ·obtain ⟨q, h5, h⟩ := hkf _ _ _ _ _ h
    have h2 := qdA (k := fun v => kTy qcF cfg ty v fun v => cond (v.refsLt 0) (k v H) none) h
    have h3 := q7 (k := fun v => cond (v.refsLt 0) (k v H) none) h2
    obtain ⟨h4, hz⟩ := qd h3
    exact ⟨_, H, by simp only [qP, hm, h1, if_true, h5, qsv, h4], hz⟩
   obtain ⟨v, h2, h⟩ := ql h
   have h3 := q7 (k := fun v => cond (v.refsLt 0) (k v H) none) h
   obtain ⟨h4, hz⟩ := qd h3
   unfold EVf at h2
   obtain ⟨q, h5, h6⟩ := qsl.1 h2
   exact ⟨v, H, by simp only [qP, hm, h1, if_true, h5, qsv, h6, h4], hz⟩
  | pown =>
   simp only [hm] at h
   split at h
   ·rename_i t1 t2 _
    obtain ⟨h1, h⟩ := qd h
    obtain ⟨q, h2, h⟩ := ql h
    obtain ⟨p, h5, h6⟩ := qsj.1 h2
    unfold qmr at h6
    split at h6
    case h_2 => cases h6
    rename_i a sc hp
    obtain ⟨h7, h6⟩ := qd h6
    split at h6
    case h_2 => cases h6
    rename_i o ho
    cases h6
    have h := qds (k := fun s => kOwn o (k (.tup [.nilS, s]) H) fun sz rs off len => kNew nid H (.rows true sz rs) fun i H' => k (.tup [.ms i off len, s]) H') h
    unfold ovOf at ho
    split at ho
    ·rename_i hq
     cases ho
     refine ⟨.tup [.nilS, sc], H, ?_, h⟩
     have hq : a = .nilS := hq
     simp only [qP, hm, h1, if_true, h5, qsv, qa0, hp, h7, hq, xZ, AV.refsLt, qsB]
    ·rename_i id off len hq
     split at ho
     case h_2 => cases ho
     rename_i sz rs hid
     split at ho
     case isFalse => cases ho
     rename_i hr
     cases ho
     simp only [kOwn] at h
     obtain ⟨i, H', h8, hz⟩ := xm h
     have hq : a = .ms id off len := hq
     refine ⟨_, _, ?_, hz⟩
     simp only [qP, hm, h1, if_true, h5, qsv, qa0, hp, h7, hq, xZ, hid, hr, h8, qsB]
    ·cases ho
   ·obtain ⟨h1, h⟩ := qd h
    have key : ∃ q o, cf (.f f) args [] = some q ∧ ovOf q = some o ∧ (kOwn o (k .nilS H) fun sz rs off len => kNew nid H (.rows true sz rs) fun i H' => k (.ms i off len) H') = some r := by
     split at h
     ·obtain ⟨q, h5, h⟩ := hkf _ _ _ _ _ h
      obtain ⟨o, h6, h⟩ := ql h
      exact ⟨q, o, h5, h6, h⟩
     ·obtain ⟨o, h2, h⟩ := ql h
      unfold EVo at h2
      obtain ⟨q, h5, h6⟩ := qsj.1 h2
      exact ⟨q, o, h5, h6, h⟩
    obtain ⟨q, o, h5, h6, h⟩ := key
    unfold ovOf at h6
    split at h6
    ·rename_i hq
     cases h6
     exact ⟨.nilS, H, by simp only [qP, hm, h1, if_true, h5, qsv, qa0, xZ, hq, AV.refsLt], h⟩
    ·rename_i id off len hq
     split at h6
     case h_2 => cases h6
     rename_i sz rs hid
     split at h6
     case isFalse => cases h6
     rename_i hr
     cases h6
     simp only [kOwn] at h
     obtain ⟨i, H', h7, hz⟩ := xm h
     exact ⟨_, _, by simp only [qP, hm, h1, if_true, h5, qsv, qa0, xZ, hq, hid, hr, h7], hz⟩
    ·cases h6
  | inpl =>
   simp only [hm] at h
   have res : ∀ (kd : Nat) (ik : IntKind) (id : Nat) (v : MV) (k : KV α), qiT kd ik id v k = some r → k (v.av id) = some r := by
    intro kd ik id v k h
    unfold qiT at h
    split at h
    ·cases v <;> first | exact h | exact absurd h (by simp [qa5])
    ·cases v <;> first | exact h | exact absurd h (by simp [kMSl])
    ·cases v with
     | int q n =>
      obtain ⟨h1, h2⟩ := qd h
      rw [← qdq h1] at h2
      exact h2
     | _ => exact absurd h (by simp [qiU])
    ·cases v <;> first | exact h | exact absurd h (by simp [qjL])
   split at h
   case h_2 =>
    rename_i hids
    obtain ⟨h1, h⟩ := qd h
    obtain ⟨v1, h2, h⟩ := ql h
    unfold EVu at h2
    obtain ⟨r1, h5, h6⟩ := qsj.1 h2
    split at h6
    case isFalse => cases h6
    rename_i hrf
    have hav : r1.1 = v1.av 0 := by
     unfold mvOf at h6
     split at h6
     ·rename_i e; cases h6; rw [e]; rfl
     ·rename_i e; cases h6; rw [e]; rfl
     ·rename_i i off len e
      rw [e] at hrf
      simp [AV.refsLt, Nat.blt_eq] at hrf
     ·rename_i e; cases h6; rw [e]; rfl
     ·rename_i e; cases h6; rw [e]; rfl
     ·cases h6
    refine ⟨v1.av 0, H, ?_, res _ _ _ _ (fun v => k v H) h⟩
    simp only [qP, hm, hids, h1, if_true, h5, qsv, hrf]
    rw [hav]
   rename_i id l hids
   obtain ⟨h1, h⟩ := qd h
   obtain ⟨b, h2, h⟩ := ql h
   split at h
   case h_2 => cases h
   rename_i d sz rs
   obtain ⟨h3, h⟩ := qd h
   obtain ⟨q, h4, h⟩ := ql h
   unfold EVm at h4
   obtain ⟨r1, h5, h6⟩ := qsj.1 h4
   obtain ⟨q1, h7, h8⟩ := qsj.1 h6
   obtain ⟨v1, h9, h10⟩ := qsl.1 h8
   cases h10
   have hav : q1.1.ren (fun _ => id) = v1.av id := by
    unfold mvOf at h9
    split at h9
    ·rename_i e; cases h9; rw [e]; simp [AV.ren, renL, MV.av]
    ·rename_i e; cases h9; rw [e]; simp [AV.ren, MV.av]
    ·rename_i i off len e
     split at h9
     ·cases h9; rw [e]; simp [AV.ren, MV.av]
     ·cases h9
    ·rename_i e; cases h9; rw [e]; simp [AV.ren, MV.av]
    ·rename_i e; cases h9; rw [e]; simp [AV.ren, MV.av]
    ·cases h9
   have hk : k (v1.av id) (H.set id (.rows true sz q1.2)) = some r := res _ _ _ _ (fun v => k v (H.set id (.rows true sz q1.2))) h
   refine ⟨v1.av id, _, ?_, hk⟩
   simp only [qP, hm, hids, h1, if_true, h2, h3, h5, qsv, h7, qsB, hav]
  | inpf =>
   simp only [hm] at h
   split at h
   case h_2 => cases h
   rename_i id l hids
   obtain ⟨h1, h⟩ := qd h
   obtain ⟨b, h2, h⟩ := ql h
   split at h
   case h_2 => cases h
   rename_i d sz rs
   obtain ⟨h3, h⟩ := qd h
   obtain ⟨q, h4, h⟩ := ql h
   unfold EVd at h4
   obtain ⟨r1, h5, h6⟩ := qsj.1 h4
   have hk := q7 (k := fun v => k v (H.set id (.rows true sz q.2))) h
   refine ⟨q.1, _, ?_, hk⟩
   simp only [qP, hm, hids, h1, if_true, h2, h3, h5, qsv, h6, qsB]
  | slf =>
   simp only [hm] at h
   split at h
   case h_2 => cases h
   rename_i id l hids
   obtain ⟨h1, h⟩ := qd h
   obtain ⟨b, h2, h⟩ := ql h
   split at h
   case h_2 => cases h
   rename_i d sz rs
   obtain ⟨h3, h⟩ := qd h
   obtain ⟨q, h4, h⟩ := ql h
   have h4 := qpq h4
   unfold EVx at h4
   obtain ⟨r1, h5, h6⟩ := qsj.1 h4
   have hk := q7 (k := fun v => k v (H.set id (.rows false sz (renR (fun _ => id) (renR (fun _ => 0) rs))))) h
   refine ⟨q, _, ?_, hk⟩
   simp only [qP, hm, hids, h1, if_true, h2, h3, h5, qsv, h6, qsB]
  | nfrz =>
   simp only [hm] at h
   obtain ⟨h1, h⟩ := qd h
   obtain ⟨V, h2, h⟩ := ql h
   have h3 := q7 (k := fun V => k V.lendT H) h
   unfold EVn at h2
   obtain ⟨q, h5, h6⟩ := qsj.1 h2
   exact ⟨_, _, by simp only [qP, hm, h1, if_true, h5, qsv, h6, qsB], h3⟩
  | rgn =>
   simp only [hm] at h
   obtain ⟨h1, h⟩ := qd h
   obtain ⟨V, h2, h⟩ := ql h
   have h3 := q7 (k := fun V => kNew nid H .reg fun i H' => k (rgIn i V) H') h
   obtain ⟨i, H', h4, hz⟩ := xm h3
   unfold EVg at h2
   obtain ⟨q, h5, h6⟩ := qsj.1 h2
   exact ⟨_, _, by simp only [qP, hm, h1, if_true, h5, qsv, h6, h4, qsB], hz⟩
  | over =>
   simp only [hm] at h
   split at h
   case h_2 => cases h
   rename_i a
   split at h
   case h_2 => cases h
   rename_i id l hids
   obtain ⟨h1, h⟩ := qd h
   obtain ⟨b, h2, h⟩ := ql h
   split at h
   ·obtain ⟨h3, hz⟩ := qcx h
    exact ⟨_, _, by simp only [qP, hm, hids, h1, if_true, h2, h3, qsB], hz⟩
   ·obtain ⟨h3, hz⟩ := qcx h
    exact ⟨_, _, by simp only [qP, hm, hids, h1, if_true, h2, h3, qsB], hz⟩
   ·cases h
  | imp =>
   simp only [hm] at h
   obtain ⟨q, h1, h⟩ := hkf _ _ _ _ _ h
   obtain ⟨p, h2, h⟩ := ql h
   exact ⟨_, _, by simp only [qP, hm, h1, qsv]; exact h2, q7 (k := fun v => k v p.2) h⟩
  | ifrz =>
   simp only [hm] at h
   obtain ⟨q, h1, h⟩ := hkf _ _ _ _ _ h
   obtain ⟨p, h2, h⟩ := ql h
   exact ⟨_, _, by simp only [qP, hm, h1, qsv]; exact h2, q7 (k := fun v => k v p.2) h⟩
theorem qnX {f : AV} {args : List AV} {k : Tgt → List AV → Option α} (h : kTgt f args k = some r) : ∃ t, xQ f args = some t ∧ k t.1 t.2 = some r := by
 unfold kTgt at h
 unfold xQ
 split at h
 ·exact ⟨_, rfl, h⟩
 ·exact ⟨_, rfl, h⟩
 ·cases h
theorem qn0 {ids : List Nat} {v : AV} {k : KV α} (hi : ∀ id ∈ v.msIds, id ∈ ids) (h : qmH H v k = some r) : k (v.frz ids H) = some r := by
 unfold qmH at h
 split at h
 ·rename_i cs
  have := z7 (ids := ids) (fun v hv id off len e => hi id (qbj hv e)) h
  simpa [AV.frz, Function.comp_def] using this
 ·rename_i cs
  have := z7 (k := fun cs => k (.tup cs)) (ids := ids) (fun v hv id off len e => hi id (qbj hv e)) h
  simpa [AV.frz, Function.comp_def] using this
 ·rename_i h1 h2
  have h4 := (zz h).1 ids (fun id off len e => hi id (by subst e; simp [AV.msIds, AV.msId])) rfl
  have e1 : v.frz ids H = v.frz1 ids H := by
   cases v <;> first | rfl | exact absurd rfl (h1 _) | exact absurd rfl (h2 _)
  rw [e1]; exact h4
theorem qcs {ids : List Nat} : ∀ {l : List AV} {k : List AV → Option α}, (∀ v ∈ l, ∀ id ∈ v.msIds, id ∈ ids) → qdz H l k = some r → k (l.map fun v => v.frz ids H) = some r
 | [], k, _, h => h
 | a :: l, k, hi, h => by
  rw [qdz] at h
  have h1 := qn0 (ids := ids) (hi a (by simp)) h
  exact qcs (k := fun l => k (a.frz ids H :: l)) (fun v hv => hi v (by simp [hv])) h1
theorem qpX {a b : Operand} (h : opEq a b = true) : a = b := by
 cases a <;> cases b <;> simp_all [opEq]
theorem qlF {y : Operand → AV} (a : Operand) : ∀ l : List Operand, frzX l (l.map y) y a = y a
 | [] => rfl
 | b :: l => by
  rw [List.map_cons, frzX]
  cases hb : opEq b a with
  | true => rw [cond_true, qpX hb]
  | false => rw [cond_false]; exact qlF a l
theorem qgq {cfg : Cfg} {nid : Option Nat} {o : Oper} {x : Operand → AV} {k : KH α} (h : qiV cfg nid o x H k = some r) :
  kOp cfg nid o.op o.type (fun a => (x a).frz (o.op.operands.toList.flatMap fun a => (x a).msIds) H) (qJ (o.op.operands.toList.flatMap fun a => (x a).msIds) H) k = some r := by
 unfold qiV at h
 have h1 := qcs (ids := o.op.operands.toList.flatMap fun a => (x a).msIds) (fun v hv id hid => by
  obtain ⟨a, ha, rfl⟩ := List.mem_map.1 hv
  exact List.mem_flatMap.2 ⟨a, ha, hid⟩) h
 rw [List.map_map] at h1
 have e : frzX o.op.operands.toList (o.op.operands.toList.map ((fun v => v.frz (o.op.operands.toList.flatMap fun a => (x a).msIds) H) ∘ x)) (fun a => (x a).frz (o.op.operands.toList.flatMap fun a => (x a).msIds) H) = fun a => (x a).frz (o.op.operands.toList.flatMap fun a => (x a).msIds) H := funext fun a => qlF a _
 rw [e] at h1
 exact h1
theorem qgn {cfg : Cfg} {cf : Orac} {kf : KF α} (hkf : KfOk cf kf) {frz : Bool} {nid : Option Nat} {o : Oper} {x : Operand → AV} {k : KH α} (h : qiS cfg cf kf frz nid o x H k = some r) : ∃ v H', vg cfg cf frz nid o x H = some (v, H') ∧ k v H' = some r := by
 have core : ∀ {x : Operand → AV} {H : AH}, (match o.op with
   | .call c =>
    match c.callee with
    | .value f => kTgt (x f) (c.args.toList.map x) fun t al => qed cfg cf kf nid o.type t al H k
    | _ => kOp cfg nid o.op o.type x H k
   | _ => kOp cfg nid o.op o.type x H k) = some r → ∃ v H', (match o.op with
    | .call c =>
     match c.callee with
     | .value f => (xQ (x f) (c.args.toList.map x)).bind fun t => qP cfg cf nid t.1 t.2 H
     | _ => evOp cfg nid o.op o.type x H
    | _ => evOp cfg nid o.op o.type x H) = some (v, H') ∧ k v H' = some r := by
  intro x H h
  cases ho : o.op with
  | call c =>
   simp only [ho] at h ⊢
   cases hc : c.callee with
   | value f =>
    simp only [hc] at h ⊢
    obtain ⟨t, h1, h⟩ := qnX h
    obtain ⟨v, H', h2, hz⟩ := qmN hkf h
    exact ⟨v, H', by rw [h1]; exact h2, hz⟩
   | _ => simp only [hc] at h ⊢; exact qjJ h
  | _ => simp only [ho] at h ⊢; exact qjJ h
 unfold qiS at h
 unfold vg
 cases frz with
 | true =>
  simp only [cond_true] at h
  simp only [if_true]
  refine core (x := fun a => (x a).frz (o.op.operands.toList.flatMap fun a => (x a).msIds) H) (H := qJ (o.op.operands.toList.flatMap fun a => (x a).msIds) H) ?_
  cases ho : o.op with
  | call c =>
   simp only [ho] at h ⊢
   cases hc : c.callee with
   | value f =>
    simp only [hc] at h ⊢
    have h1 := qcs (ids := (Op.call c).operands.toList.flatMap fun a => (x a).msIds) (fun v hv id hid => by
     obtain ⟨a, ha, rfl⟩ := List.mem_map.1 hv
     refine List.mem_flatMap.2 ⟨a, ?_, hid⟩
     simp [Op.operands, Call.operands, hc, Array.mem_toList_iff.1 ha]) h
    rw [List.map_map] at h1
    exact h1
   | _ => simp only [hc] at h ⊢; have h := qgq h; rw [ho] at h; exact h
  | _ => simp only [ho] at h ⊢; have h := qgq h; rw [ho] at h; exact h
 | false => simp only [cond_false] at h; simp only [qsx, if_false]; exact core h
theorem qe3 {fr : List AV} {d : Nat} {v : AV} (h : fr[d]? = some v) : fr.set d v = fr := by
 obtain ⟨hl, e⟩ := qsi.1 h
 rw [← e]; exact List.set_getElem_self hl
theorem qdr {ops : Array Oper} {fr : List AV} {o : Oper} {k : Bool → List AV → Option α} (h : qd9 ops fr o k = some r) : ∃ b, xo ops fr o = some b ∧ k b fr = some r := by
 unfold qd9 at h
 unfold xo
 split at h
 ·rename_i hg; rw [hg]; exact ⟨true, rfl, h⟩
 ·rename_i j want hg
  rw [hg]
  simp only
  split at h
  ·rename_i d hd
   rw [hd]
   simp only
   obtain ⟨v, h1, h⟩ := ql h
   rw [h1]
   split at h
   ·split at h
    ·exact ⟨false, rfl, h⟩
    ·cases h
   ·obtain ⟨b, rfl, h⟩ := qaD h
    simp only
    refine ⟨_, rfl, ?_⟩
    rcases vZ h with ⟨rfl, h⟩ | ⟨rfl, h⟩
    ·rw [qe3 h1] at h
     cases want <;> exact h
    ·rw [qe3 h1] at h
     cases want <;> exact h
  ·cases h
theorem qdt {cfg : Cfg} {cf : Orac} {kf : KF α} (hkf : KfOk cf kf) {f rid : Nat} {ops : Array Oper} : ∀ {l : List Oper} {n : Nat} {fr : List AV} {H : AH} {k : List AV → AH → Option α}, kOps cfg cf kf f rid ops n l fr H k = some r → ∃ q, ze cfg cf f rid ops n l fr H = some q ∧ k q.1 q.2 = some r
 | [], n, fr, H, k, h => ⟨(fr, H), rfl, h⟩
 | o :: l, n, fr, H, k, h => by
  rw [kOps] at h
  obtain ⟨b, h1, h⟩ := qdr h
  rw [ze, h1]
  simp only [qsv]
  rcases vZ h with ⟨rfl, h⟩ | ⟨rfl, h⟩
  ·obtain ⟨v, H', h2, h⟩ := qgn hkf h
   simp only [if_true, h2, qsv]
   exact qdt hkf h
  ·simp only [qsx, if_false]
   exact qdt hkf h
theorem qlI {β : Type} (b : Bool) (x y : β) : cond b x y = if b then x else y := by cases b <;> rfl
theorem qcv {cfg : Cfg} {cf : Orac} {kf : KF α} (hkf : KfOk cf kf) {f rid : Nat} {ops : Array Oper} : ∀ {l : List Oper} {n at_ : Nat} {fr : List AV} {H : AH} {k : List FP → List AV → AH → Option α}, qgu cfg cf kf f rid ops n at_ l fr H k = some r →
  ∃ q, xG cfg cf f rid ops n at_ l fr H = some q ∧ k q.1 q.2.1 q.2.2 = some r
 | [], n, at_, fr, H, k, h => ⟨([], fr, H), rfl, h⟩
 | o :: l, n, at_, fr, H, k, h => by
  rw [qgu] at h
  obtain ⟨b, h1, h⟩ := qdr h
  rw [xG, h1]
  simp only [qsv]
  rcases vZ h with ⟨rfl, h9⟩ | ⟨rfl, h9⟩
  ·obtain ⟨v, H', h2, h8⟩ := qgn hkf h9
   simp only [if_true, h2, qsv]
   rw [qlI] at h8
   obtain ⟨q, h3, hz⟩ := qcv hkf h8
   exact ⟨_, by rw [h3]; rfl, hz⟩
  ·simp only [qsx, if_false]
   rw [qlI] at h9
   obtain ⟨q, h3, hz⟩ := qcv hkf h9
   exact ⟨_, by rw [h3]; rfl, hz⟩
theorem qgj {fr : List AV} {c : Operand} {b : Bool} (h : opd fr c = .bool b) : known fr c b = fr := by
 cases c with
 | tmp d =>
  simp only [known]
  have hg : fr[d]? = some (.bool b) := by
   have h' : fr.getD d .junk = .bool b := h
   rw [List.getD_eq_getElem?_getD] at h'
   cases hd : fr[d]? with
   | none => rw [hd] at h'; cases h'
   | some v => rw [hd] at h'; simp at h'; rw [h']
  exact qe3 hg
 | _ => rfl
theorem qaC {cfg : Cfg} {cf : Orac} {kf : KF α} (hkf : KfOk cf kf) {f : Nat} {rd : Option Nat} {bs : Nat} : ∀ (c : Code) {fr : List AV} {H : AH} {k : KE α}, q5 cfg cf kf f rd bs c fr H k = some r → ∃ q, evC cfg cf f rd bs c fr H = some q ∧ k q.1 q.2.1 q.2.2 = some r := by
 intro c
 induction c with
 | skip => intro fr H k h; exact ⟨(.normal, fr, H), by simp only [evC], by simpa only [q5] using h⟩
 | label l => intro fr H k h; exact ⟨(.normal, fr, H), by simp only [evC], by simpa only [q5] using h⟩
 | exit id => intro fr H k h; exact ⟨(.exit id, fr, H), by simp only [evC], by simpa only [q5] using h⟩
 | ret => intro fr H k h; exact ⟨(.ret, fr, H), by simp only [evC], by simpa only [q5] using h⟩
 | goto l => intro fr H k h; simp only [q5] at h; cases h
 | refuse s => intro fr H k h; simp only [q5] at h; cases h
 | region id ops draw =>
  intro fr H k h
  simp only [q5] at h
  simp only [evC]
  cases draw with
  | true =>
   simp only [cond_true] at h
   simp only [if_true]
   obtain ⟨h1, h⟩ := qd h
   obtain ⟨q, h2, h⟩ := qcv hkf h
   obtain ⟨h3, hz⟩ := qd h
   exact ⟨(.normal, q.2), by simp only [h1, if_true, h2, qsv, h3], hz⟩
  | false =>
   simp only [cond_false] at h
   simp only [qsx, if_false]
   obtain ⟨q, h2, hz⟩ := qdt hkf h
   exact ⟨(.normal, q), by simp only [h2, qsB], hz⟩
 | seq x y ihx ihy =>
  intro fr H k h
  simp only [q5] at h
  simp only [evC]
  obtain ⟨q, h1, h⟩ := ihx h
  rw [h1]
  simp only [qsv]
  unfold kSeq at h
  cases hq : q.1 with
  | normal => simp only [hq] at h ⊢; exact ihy (qk2 h)
  | exit id => simp only [hq] at h ⊢; exact ⟨_, rfl, h⟩
  | goto l => simp only [hq] at h ⊢; exact ⟨_, rfl, h⟩
  | ret => simp only [hq] at h ⊢; exact ⟨_, rfl, h⟩
 | cond cnd x y ihx ihy =>
  intro fr H k h
  simp only [q5] at h
  simp only [evC]
  obtain ⟨b, h1, h⟩ := qaD h
  rw [h1]
  simp only
  rcases vZ h with ⟨rfl, h⟩ | ⟨rfl, h⟩
  ·rw [qgj h1] at h
   simp only [if_true]; exact ihx h
  ·rw [qgj h1] at h
   simp only [qsx, if_false]; exact ihy h
 | block id x ih =>
  intro fr H k h
  simp only [q5] at h
  simp only [evC]
  obtain ⟨q, h1, h⟩ := ih h
  rw [h1]
  simp only [qsv]
  unfold xe at h
  cases hq : q.1 with
  | normal => simp only [hq] at h ⊢; exact ⟨_, rfl, by rw [hq]; exact h⟩
  | exit id' =>
   simp only [hq] at h ⊢
   rcases vZ h with ⟨h2, hz⟩ | ⟨h2, hz⟩
   ·exact ⟨_, by simp only [h2, if_true]; rfl, hz⟩
   ·exact ⟨q, by simp only [h2, qsx, if_false], by rw [hq]; exact hz⟩
  | goto l => simp only [hq] at h ⊢; exact ⟨_, rfl, by rw [hq]; exact h⟩
  | ret => simp only [hq] at h ⊢; exact ⟨_, rfl, by rw [hq]; exact h⟩
 | loop x ih =>
  intro fr H k h
  simp only [q5] at h
  simp only [evC]
  obtain ⟨q, h1, hz⟩ := ql h
  exact ⟨(q.1, vp (cfg.keepOut f (qj x)) q.2.1, q.2.2), by rw [h1]; rfl, hz⟩
 | scope x ih =>
  intro fr H k h
  simp only [q5] at h
  simp only [evC]
  obtain ⟨q, h1, h⟩ := ih h
  rw [h1]
  simp only [qsv]
  unfold qgl at h
  cases hq : q.1 with
  | goto l => simp only [hq] at h; cases h
  | normal => simp only [hq] at h ⊢; exact ⟨_, rfl, by rw [hq]; exact h⟩
  | exit id => simp only [hq] at h ⊢; exact ⟨_, rfl, by rw [hq]; exact h⟩
  | ret => simp only [hq] at h ⊢; exact ⟨_, rfl, by rw [hq]; exact h⟩
 | rangeFunc g ps assign body =>
  intro fr H k h
  simp only [q5] at h
  simp only [evC]
  generalize (qZ (cfg.lift f (qj body)) fr H).1 = fr at h ⊢
  generalize (qZ (cfg.lift f (qj body)) _ H).2 = H at h ⊢
  unfold qnY at h
  obtain ⟨h1, h⟩ := qd h
  split at h
  case h_2 => cases h
  rename_i g' first caps hg
  obtain ⟨h2, h⟩ := qd h
  obtain ⟨q, h3, h⟩ := hkf _ _ _ _ _ h
  unfold xA at h
  obtain ⟨b, h4, h⟩ := ql h
  unfold qpv at h
  split at h
  case h_2 => cases h
  rename_i pend st
  have hx : ¬ (cfg.ext g').isSome = true := by
   cases he : cfg.ext g' with
   | none => simp
   | some s => rw [he] at h2; cases h2
  have hst : st ≠ .busy := by
   intro e; subst e; simp at h
  have hpk : qjH pend k (gc bs (vp (cfg.keepOut f (qj body)) fr) (q.2.set H.length .dead)).1 (gc bs (vp (cfg.keepOut f (qj body)) fr) (q.2.set H.length .dead)).2 = some r := by
   cases st with
   | busy => exact absurd rfl hst
   | _ => exact h
  unfold zl
  rw [if_pos h1, hg]
  simp only [hx, h3, qsv, h4]
  unfold qjH at hpk
  cases st with
  | busy => exact absurd rfl hst
  | _ =>
   cases pend with
   | none => exact ⟨_, rfl, hpk⟩
   | some c =>
    cases c <;> first | exact ⟨_, rfl, hpk⟩ | cases hpk
theorem qbl {cfg : Cfg} {fr : List AV} : ∀ {rs : List ResultVar} {k : List AV → Option α}, kRes cfg fr H rs k = some r → ∃ vs, vM rs cfg.ty fr H = some vs ∧ k vs = some r
 | [], k, h => ⟨[], rfl, h⟩
 | .tmp t :: l, k, h => by
  rw [kRes] at h
  obtain ⟨vs, h1, hz⟩ := qbl h
  exact ⟨_, by simp only [vM, h1, qsB], hz⟩
 | .cell a t :: l, k, h => by
  rw [kRes] at h
  split at h
  ·rename_i ti hti
   obtain ⟨v, h1, h⟩ := qcq h
   have h2 := q7 (k := fun v => kRes cfg fr H l fun vs => k (v :: vs)) h
   obtain ⟨vs, h3, hz⟩ := qbl h2
   exact ⟨_, by simp only [vM, hti, h1, qsv, h3, qsB], hz⟩
  ·cases h
variable {α : Type}
def fxGo (i : Nat) (l : List (Nat × AV)) : Nat → List AV
 | 0 => []
 | n + 1 => match l with
  | [] => .junk :: fxGo (i + 1) [] n
  | p :: l' => if qsy p.1 i then p.2 :: fxGo (i + 1) l' n else .junk :: fxGo (i + 1) (p :: l') n
def fx (n : Nat) (l : List (Nat × AV)) : List AV := fxGo 0 l n
def qe (fn : Func) : Code := match fn.body with | some c => c | none => .skip
def sub : Code → List Nat → Code
 | c, [] => c
 | .seq a b, i :: l => match i with | 0 => sub a l | _ => sub b l
 | .cond _ a b, i :: l => match i with | 0 => sub a l | _ => sub b l
 | .block _ a, _ :: l => sub a l
 | .loop a, _ :: l => sub a l
 | .scope a, _ :: l => sub a l
 | .rangeFunc _ _ a b, i :: l => match i with | 0 => sub a l | _ => sub b l
 | c, _ => c
def rngB (fn : Func) (f : Nat) (p : List Nat) (fr : List AV) (pend : Option Code) (st : LoopState) : ABlk :=
 match sub (qe fn) p with
 | .rangeFunc _ ps a b => .loop f fr ps.toList a b pend st
 | _ => .dead
noncomputable def kLp (k : Nat) (ts : Option (List Tmp)) (ls : List (Tmp × Nat)) (L : Den) (A : Ex × List AV × AH → Option α) : KE α := fun e fr H =>
 match e with
 | .normal => kOpt (LOOP k ts ls L (yP k ts ls fr H)) A
 | e => A (e, fr, H)
theorem qmw {cfg : Cfg} {kf : KF α} (hkf : KfOk (EV cfg) kf) {f : Nat} {rd : Option Nat} {bs : Nat} {c : Code} {k : Nat} {ts : Option (List Tmp)} {ls : List (Tmp × Nat)} {A : Ex × List AV × AH → Option α} {fr : List AV} {H : AH} {r : α}
  (h : q5 cfg (EV cfg) kf f rd bs c fr H (kLp k ts ls (evC cfg (EV cfg) f rd bs c) A) = some r) : kOpt (LOOP k ts ls (evC cfg (EV cfg) f rd bs c) (fr, H)) A = some r := by
 obtain ⟨⟨e, fr1, H1⟩, h1, h2⟩ := qaC hkf c h
 cases e with
 | normal =>
  simp only [kLp] at h2
  cases hl : LOOP k ts ls (evC cfg (EV cfg) f rd bs c) (yP k ts ls fr1 H1) with
  | none => rw [hl] at h2; cases h2
  | some q =>
   rw [hl] at h2
   rw [qos (p := (fr, H)) h1 hl]
   exact h2
 | exit id => rw [qdP (p := (fr, H)) h1 (fun x => by intro h; cases h)]; exact h2
 | goto l => rw [qdP (p := (fr, H)) h1 (fun x => by intro h; cases h)]; exact h2
 | ret => rw [qdP (p := (fr, H)) h1 (fun x => by intro h; cases h)]; exact h2
def xg (cfg : Cfg) (ls : List (Tmp × Nat)) (g : AV → AH → Option α) (rs : List ResultVar) : KE α := fun e fr H =>
 match e with
 | .normal => kRes cfg (qZ ls fr H).1 (qZ ls fr H).2 rs fun vs => g (xX vs) (qZ ls fr H).2
 | .ret => kRes cfg (qZ ls fr H).1 (qZ ls fr H).2 rs fun vs => g (xX vs) (qZ ls fr H).2
 | _ => none
def xu (cfg : Cfg) (ls : List (Tmp × Nat)) (rs : List ResultVar) : KE AV := xg cfg ls (fun v _ => some v) rs
def xD (cfg : Cfg) (ls : List (Tmp × Nat)) (rs : List ResultVar) : KE AV := xg cfg ls (fun v H => qbm false H v some) rs
def qpy (cfg : Cfg) (ls : List (Tmp × Nat)) (rs : List ResultVar) : KE OV := xg cfg ls (fun v H => ovOf (v, H)) rs
def qec (cfg : Cfg) (ls : List (Tmp × Nat)) (rs : List ResultVar) : KE (OV × AV) := xg cfg ls (fun v H => qmr (v, H)) rs
def qr6 (cfg : Cfg) (sz : Nat) (ls : List (Tmp × Nat)) (rs : List ResultVar) : KE (MV × List (List AV)) := xg cfg ls (fun v H => (qga sz (v, H)).bind fun q => (mvOf q.1).map fun v => (v, q.2)) rs
noncomputable def zb (cfg : Cfg) (cf : Orac) (kf : KF α) (f : Nat) (fn : Func) (c : Code) (args : List AV) (H : AH) (fin : KE α) : Option α :=
 q5 cfg cf kf f none H.length c (args ++ qsG (fn.ntmps - args.length) .junk) H fin
theorem qeU {cfg : Cfg} {kf : KF α} (hkf : KfOk (EV cfg) kf) {g : AV → AH → Option α} {f : Nat} {fn : Func} {args : List AV} {H : AH} {r : α} (hx : cfg.ext f = none) (hk : cfg.known f = true) (hf : cfg.P.funcs[f]? = some fn) (hb : fn.body = some (qe fn))
  (h : zb cfg (EV cfg) kf f fn (qe fn) args H (xg cfg (cfg.lift f 0) g fn.results.toList) = some r) : ∃ v H', EV cfg (.f f) args H = some (v, H') ∧ g v H' = some r := by
 unfold zb at h
 obtain ⟨q, h1, h⟩ := qaC hkf _ h
 have key : ∀ (vs : List AV), vM fn.results.toList cfg.ty (qZ (cfg.lift f 0) q.2.1 q.2.2).1 (qZ (cfg.lift f 0) q.2.1 q.2.2).2 = some vs → (q.1 = .normal ∨ q.1 = .ret) → EV cfg (.f f) args H = some (xX vs, (qZ (cfg.lift f 0) q.2.1 q.2.2).2) := by
  intro vs h2 hq
  refine qg6 ?_
  unfold vq
  simp only [hx, hk, if_true, hf, hb, h1, qsv]
  unfold qaa
  rcases hq with hq | hq <;> simp only [hq, h2, qsB]
 unfold xg at h
 split at h
 ·rename_i hq
  obtain ⟨vs, h2, h⟩ := qbl h
  exact ⟨_, _, key vs h2 (.inl hq), h⟩
 ·rename_i hq
  obtain ⟨vs, h2, h⟩ := qbl h
  exact ⟨_, _, key vs h2 (.inr hq), h⟩
 ·cases h
def kY2 (id : Nat) (K : AV × AH → Option α) : KE α := fun e _ H =>
 kOpt H[id]? fun b => match b with
  | .loop f fr ps a b _ _ => (match e with
   | .normal => K (.bool true, H.set id (.loop f fr ps a b none .ready))
   | .ret => K (.bool false, H.set id (.loop f fr ps a b (some .ret) .done))
   | .exit x => K (.bool false, H.set id (.loop f fr ps a b (some (.exit x)) .done))
   | .goto _ => none)
  | _ => none
noncomputable def kY1 (cfg : Cfg) (cf : Orac) (kf : KF α) (bs f id : Nat) (body : Code) (K : AV × AH → Option α) : KE α := fun e fr H =>
 match e with
 | .normal => kOpt H[id]? fun b => match b with
  | .loop f' fr' ps' a' b' p' st => (match st with
   | .ready => q5 cfg cf kf f (some id) bs body fr (H.set id (.loop f' fr' ps' a' b' p' .busy)) (kY2 id K)
   | _ => none)
  | _ => none
 | _ => none
noncomputable def kY (cfg : Cfg) (cf : Orac) (kf : KF α) (id : Nat) (args : List AV) (H : AH) (K : AV × AH → Option α) : Option α :=
 kOpt H[id]? fun b => match b with
  | .loop f fr ps assign body _ st => (match st with
   | .ready => cond (qsy args.length ps.length) (q5 cfg cf kf f (some id) H.length assign (xk fr ps args) H (kY1 cfg cf kf H.length f id body K)) none
   | _ => none)
  | _ => none
theorem qoY {cfg : Cfg} {kf : KF α} (hkf : KfOk (EV cfg) kf) {id : Nat} {args : List AV} {H : AH} {K : AV × AH → Option α} {r : α} (h : kY cfg (EV cfg) kf id args H K = some r) : ∃ q, EV cfg (.y id) args H = some q ∧ K q = some r := by
 unfold kY at h
 obtain ⟨b, h1, h⟩ := ql h
 cases b with
 | loop f fr ps assign body pend st =>
  simp only at h
  cases st with
  | ready =>
   simp only at h
   obtain ⟨h2, h⟩ := qd h
   obtain ⟨q, h3, h⟩ := qaC hkf _ h
   unfold kY1 at h
   cases hq : q.1 with
   | normal =>
    rw [hq] at h
    simp only at h
    obtain ⟨b, h4, h⟩ := ql h
    cases b with
    | loop f' fr' ps' a' b' p' st' =>
     simp only at h
     cases st' with
     | ready =>
      simp only at h
      obtain ⟨q2, h5, h⟩ := qaC hkf _ h
      unfold kY2 at h
      obtain ⟨b, h6, h⟩ := ql h
      cases b with
      | loop f2 fr2 ps2 a2 b2 p2 st2 =>
       have key : ∀ q', vq cfg (EV cfg) (.y id) args H = some q' → K q' = some r → ∃ q, EV cfg (.y id) args H = some q ∧ K q = some r := fun q' h8 h9 => ⟨q', qg6 h8, h9⟩
       cases hq2 : q2.1 with
       | normal =>
        rw [hq2] at h
        refine key _ ?_ h
        unfold vq
        simp only [h1, if_pos (qsn h2), h3, qsv, hq, h4, h5, h6, hq2]
       | ret =>
        rw [hq2] at h
        refine key _ ?_ h
        unfold vq
        simp only [h1, if_pos (qsn h2), h3, qsv, hq, h4, h5, h6, hq2]
       | exit x =>
        rw [hq2] at h
        refine key _ ?_ h
        unfold vq
        simp only [h1, if_pos (qsn h2), h3, qsv, hq, h4, h5, h6, hq2]
       | goto x => rw [hq2] at h; cases h
      | _ => cases h
     | _ => cases h
    | _ => cases h
   | _ => rw [hq] at h; cases h
  | _ => cases h
 | _ => cases h
class InlOk (cfg : Cfg) : Prop where
 ok : ∀ f fn, cfg.inl f = some fn → cfg.ext f = none ∧ cfg.known f = true ∧ cfg.P.funcs[f]? = some fn ∧ fn.body = some (qe fn)
def yv (f : Nat) : List (Nat × Func) → Option Func
 | [] => none
 | p :: l => if qsy p.1 f then some p.2 else yv f l
def qot (cfg : Cfg) : List (Nat × Func) → Prop
 | [] => True
 | p :: l => (cfg.ext p.1 = none ∧ cfg.known p.1 = true ∧ cfg.P.funcs[p.1]? = some p.2 ∧ p.2.body = some (qe p.2)) ∧ qot cfg l
theorem InlOk.of {cfg : Cfg} (tab : List (Nat × Func)) (h : ∀ f, cfg.inl f = yv f tab) (ha : qot cfg tab) : InlOk cfg where
 ok := by
  intro f fn hf
  rw [h] at hf
  clear h
  induction tab with
  | nil => cases hf
  | cons p l ih =>
   rw [yv] at hf
   split at hf
   ·rename_i e
    have e := qsn e
    cases hf
    rw [← e]
    exact ha.1
   ·exact ih ha.2 hf
noncomputable def kfN (cfg : Cfg) : Nat → KF α
 | 0 => fun t a H k => kOpt (EV cfg t a H) k
 | n + 1 => fun t a H k => match t with
  | .f f => (match cfg.inl f with
   | some fn => zb cfg (EV cfg) (kfN cfg n) f fn (qe fn) a H (xg cfg (cfg.lift f 0) (fun v H => k (v, H)) fn.results.toList)
   | none => kOpt (EV cfg (.f f) a H) k)
  | .y id => kY cfg (EV cfg) (kfN cfg n) id a H k
theorem qgk {cfg : Cfg} [InlOk cfg] : ∀ n, KfOk (α := α) (EV cfg) (kfN cfg n)
 | 0 => fun t a H k r h => ql h
 | n + 1 => fun t a H k r h => by
  unfold kfN at h
  cases t with
  | f f =>
   simp only at h
   split at h
   ·rename_i fn hf
    obtain ⟨o1, o2, o3, o4⟩ := InlOk.ok f fn hf
    obtain ⟨v, H', h1, h2⟩ := qeU (qgk n) o1 o2 o3 o4 h
    exact ⟨_, h1, h2⟩
   ·exact ql h
  | y id => exact qoY (qgk n) h
theorem qt {cfg : Cfg} [InlOk cfg] {f : Nat} {rd : Option Nat} {bs : Nat} {c : Code} {k : Nat} {ts : Option (List Tmp)} {ls : List (Tmp × Nat)} {A : Ex × List AV × AH → Option α} {fr : List AV} {H : AH} {r : α}
  (h : q5 cfg (EV cfg) (kfN cfg 6) f rd bs c fr H (kLp k ts ls (evC cfg (EV cfg) f rd bs c) A) = some r) : kOpt (LOOP k ts ls (evC cfg (EV cfg) f rd bs c) (fr, H)) A = some r := qmw (qgk 6) h
theorem xC {cfg : Cfg} [InlOk cfg] {g : AV → AH → Option α} {f : Nat} {fn : Func} {args : List AV} {H : AH} {r : α} (hx : cfg.ext f = none) (hk : cfg.known f = true) (hf : cfg.P.funcs[f]? = some fn) (hb : fn.body = some (qe fn))
  (h : zb cfg (EV cfg) (kfN cfg 6) f fn (qe fn) args H (xg cfg (cfg.lift f 0) g fn.results.toList) = some r) : ∃ v H', EV cfg (.f f) args H = some (v, H') ∧ g v H' = some r := qeU (qgk 6) hx hk hf hb h
def Gets {β : Type} (o : Option β) (P : β → Prop) : Prop := ∃ r, o = some r ∧ P r
theorem Gets.ev {β : Type} {o o' : Option β} {P : β → Prop} (h : ∀ r, o = some r → o' = some r) (hy : Gets o P) : Gets o' P := by
 obtain ⟨r, h1, h2⟩ := hy
 exact ⟨r, h r h1, h2⟩
theorem Gets.eq {β : Type} {o o' : Option β} {P : β → Prop} (h : o' = o) (hy : Gets o P) : Gets o' P := h ▸ hy
theorem gE {β : Type} {o o' x : Option β} {P : β → Prop} (f : ∀ r, o = some r → o' = some r) (e : o = x) (h : Gets x P) : Gets o' P := Gets.ev f (Gets.eq e h)
theorem Gets.mono {β : Type} {o : Option β} {P Q : β → Prop} (h : Gets o P) (hq : ∀ b, P b → Q b) : Gets o Q := by
 obtain ⟨r, h1, h2⟩ := h
 exact ⟨r, h1, hq r h2⟩
theorem Gets.bind {β γ : Type} {o : Option β} {k : β → Option γ} {Q : β → Prop} {P : γ → Prop} (h : Gets o Q) (hk : ∀ b, Q b → Gets (k b) P) : Gets (kOpt o k) P := by
 obtain ⟨r, h1, h2⟩ := h
 subst h1
 exact hk r h2
@[simp] theorem gets_some {β : Type} {a : β} {P : β → Prop} : Gets (some a) P ↔ P a := ⟨fun ⟨r, h1, h2⟩ => by cases h1; exact h2, fun h => ⟨a, rfl, h⟩⟩
theorem Gets.get {β : Type} {o : Option β} {a : β} (h : Gets o (· = a)) : o = some a := by
 obtain ⟨r, h1, h2⟩ := h
 rw [h1, h2]
theorem qrB {cfg : Cfg} {f : Nat} {args : List AV} {v : AV} {H : AH} (h : EV cfg (.f f) args [] = some (v, H)) : EVs (EV cfg) f args = some v := by unfold EVs; rw [h]; rfl
theorem qrD {cfg : Cfg} {f : Nat} {args : List AV} {v v' : AV} {H : AH} (h : EV cfg (.f f) args [] = some (v', H)) (e : (v'.frz v'.msIds H).fg = v) : EVf (EV cfg) f args = some v := by unfold EVf; rw [h]; exact congrArg some e
theorem qrC {cfg : Cfg} {f : Nat} {args : List AV} {v : OV} {r : AV × AH} (h : EV cfg (.f f) args [] = some r) (e : ovOf r = some v) : EVo (EV cfg) f args = some v := by unfold EVo; rw [h]; exact e
theorem funS {cfg : Cfg} [InlOk cfg] {f : Nat} {fn : Func} {args : List AV} {r : AV} (hx : cfg.ext f = none) (hk : cfg.known f = true) (hf : cfg.P.funcs[f]? = some fn) (hb : fn.body = some (qe fn))
  (h : zb cfg (EV cfg) (kfN cfg 6) f fn (qe fn) args [] (xu cfg (cfg.lift f 0) fn.results.toList) = some r) : EVs (EV cfg) f args = some r := by
 obtain ⟨v, H', h1, h2⟩ := xC hx hk hf hb h
 cases h2
 exact qrB h1
theorem funF {cfg : Cfg} [InlOk cfg] {f : Nat} {fn : Func} {args : List AV} {r : AV} (hx : cfg.ext f = none) (hk : cfg.known f = true) (hf : cfg.P.funcs[f]? = some fn) (hb : fn.body = some (qe fn))
  (h : zb cfg (EV cfg) (kfN cfg 6) f fn (qe fn) args [] (xD cfg (cfg.lift f 0) fn.results.toList) = some r) : EVf (EV cfg) f args = some r := by
 obtain ⟨v, H', h1, h2⟩ := xC hx hk hf hb h
 exact qrD h1 (Option.some.inj (qdA h2))
theorem funO {cfg : Cfg} [InlOk cfg] {f : Nat} {fn : Func} {args : List AV} {r : OV} (hx : cfg.ext f = none) (hk : cfg.known f = true) (hf : cfg.P.funcs[f]? = some fn) (hb : fn.body = some (qe fn))
  (h : zb cfg (EV cfg) (kfN cfg 6) f fn (qe fn) args [] (qpy cfg (cfg.lift f 0) fn.results.toList) = some r) : EVo (EV cfg) f args = some r := by
 obtain ⟨v, H', h1, h2⟩ := xC hx hk hf hb h
 exact qrC h1 h2
theorem funQ {cfg : Cfg} [InlOk cfg] {f : Nat} {fn : Func} {args : List AV} {r : OV × AV} (hx : cfg.ext f = none) (hk : cfg.known f = true) (hf : cfg.P.funcs[f]? = some fn) (hb : fn.body = some (qe fn))
  (h : zb cfg (EV cfg) (kfN cfg 6) f fn (qe fn) args [] (qec cfg (cfg.lift f 0) fn.results.toList) = some r) : EVq (EV cfg) f args = some r := by
 obtain ⟨v, H', h1, h2⟩ := xC hx hk hf hb h
 unfold EVq; rw [h1]; exact h2
theorem funM {cfg : Cfg} [InlOk cfg] {f sz : Nat} {fn : Func} {args : List AV} {rows : List (List AV)} {r : MV × List (List AV)} (hx : cfg.ext f = none) (hk : cfg.known f = true) (hf : cfg.P.funcs[f]? = some fn) (hb : fn.body = some (qe fn))
  (h : zb cfg (EV cfg) (kfN cfg 6) f fn (qe fn) args [.rows true sz rows] (qr6 cfg sz (cfg.lift f 0) fn.results.toList) = some r) : EVm (EV cfg) f args sz rows = some r := by
 obtain ⟨v, H', h1, h2⟩ := xC hx hk hf hb h
 unfold EVm
 rw [h1]
 exact h2
def qpx (cfg : Cfg) (sz : Nat) (ls : List (Tmp × Nat)) (rs : List ResultVar) : KE (AV × List (List AV)) := xg cfg ls (fun v H => qcw H 0 fun d sz' rows =>
 cond (!d && qsy sz' sz && qaL v.msIds && vO [0] (xp 0 rows)) (qbm false H v fun v' => cond (v'.refsLt 0) (some (v', rows)) none) none) rs
theorem funX {cfg : Cfg} [InlOk cfg] {f sz : Nat} {fn : Func} {args : List AV} {rows : List (List AV)} {r : AV × List (List AV)} (hx : cfg.ext f = none) (hk : cfg.known f = true) (hf : cfg.P.funcs[f]? = some fn) (hb : fn.body = some (qe fn))
  (h : zb cfg (EV cfg) (kfN cfg 6) f fn (qe fn) args [.rows false sz rows] (qpx cfg sz (cfg.lift f 0) fn.results.toList) = some r) : EVx (EV cfg) f args sz rows = some r := by
 obtain ⟨v, H', h1, h2⟩ := xC hx hk hf hb h
 unfold EVx
 rw [h1]
 obtain ⟨d, sz', rs', h3, h4⟩ := zC h2
 obtain ⟨h5, h6⟩ := qd h4
 have h7 := qdA (k := fun v' => cond (v'.refsLt 0) (some (v', rs')) none) h6
 obtain ⟨h8, h9⟩ := qd h7
 simp only [qsm, Bool.not_eq_true'] at h5
 obtain ⟨⟨⟨hd, hs⟩, hn⟩, ha⟩ := h5
 subst hd
 cases H' with
 | nil => simp at h3
 | cons b l =>
  simp only [List.getElem?_cons_zero, Option.some.injEq] at h3
  subst h3
  simp only [qsv, qfQ, hs, hn, h8, ha, qsH, if_true]
  exact h9
def qeb {α : Type} (G : AH) (a : AV) (k : AV → Option α) : Option α :=
 match a with
 | .ms id off len => kOpt G[id]? fun b => match b with
  | .rows _ _ rs => cond (qsw (off + len) rs.length) (kOpt (unlR ((rs.drop off).take len)) fun rows => k (.sl rows)) none
  | _ => none
 | .sl rows => cond rows.isEmpty (k (.sl [])) none
 | .lsl rows => k (.sl rows)
 | .nilS => k (.sl [])
 | .em => k (.sl [])
 | .int x n => k (.int x n)
 | .bool b => k (.bool b)
 | .str s => k (.str s)
 | _ => none
def kNwL {α : Type} (g : AV → (AV → Option α) → Option α) : List AV → (List AV → Option α) → Option α
 | [], k => k []
 | a :: l, k => g a fun a => kNwL g l fun l => k (a :: l)
def qea {α : Type} (G : AH) (a : AV) (k : AV → Option α) : Option α :=
 match a with
 | .agg cs => kNwL (qeb G) cs fun cs => k (.agg cs)
 | a => qeb G a k
def qjK {α : Type} (G : AH) (a : AV) (k : AV → Option α) : Option α :=
 match a with
 | .tup cs => kNwL (qea G) cs fun cs => k (.tup cs)
 | a => qea G a k
theorem qdw {α : Type} {G : AH} {a : AV} {k : AV → Option α} {r : α} (h : qeb G a k = some r) : ∃ V, yL G a = some V ∧ k V = some r := by
 unfold qeb at h
 split at h
 ·obtain ⟨b, h1, h⟩ := ql h
  split at h
  ·obtain ⟨h2, h⟩ := qd h
   obtain ⟨rows, h3, h⟩ := ql h
   exact ⟨_, by simp only [yL, h1, h2, if_true, h3, qsB], h⟩
  ·cases h
 ·rename_i rows
  obtain ⟨h1, h⟩ := qd h
  cases rows with
  | nil => exact ⟨_, rfl, h⟩
  | cons => cases h1
 all_goals first | exact ⟨_, rfl, h⟩ | cases h
theorem qdv {α : Type} {g : AV → (AV → Option α) → Option α} {g' : AV → Option AV} (hg : ∀ (a : AV) (k : AV → Option α) (r : α), g a k = some r → ∃ V, g' a = some V ∧ k V = some r) : ∀ {l : List AV} {k : List AV → Option α} {r : α}, kNwL g l k = some r → ∃ q, datL g' l = some q ∧ k q = some r
 | [], _, _, h => ⟨[], rfl, h⟩
 | a :: l, k, r, h => by
  rw [kNwL] at h
  obtain ⟨V, h1, h⟩ := hg _ _ _ h
  obtain ⟨q, h2, h⟩ := qdv hg h
  exact ⟨V :: q, by rw [datL, h1, h2], h⟩
theorem qdu {α : Type} {G : AH} {a : AV} {k : AV → Option α} {r : α} (h : qea G a k = some r) : ∃ V, zs G a = some V ∧ k V = some r := by
 unfold qea at h
 split at h
 ·obtain ⟨q, h1, h2⟩ := qdv (fun _ _ _ h => qdw h) h
  exact ⟨_, by simp only [zs, h1, qsB], h2⟩
 ·rename_i hn
  obtain ⟨V, h1, h2⟩ := qdw h
  refine ⟨V, ?_, h2⟩
  rw [← h1]
  cases a <;> first | rfl | exact absurd rfl (hn _)
theorem qkZ {α : Type} {G : AH} {a : AV} {k : AV → Option α} {r : α} (h : qjK G a k = some r) : ∃ V, qck G a = some V ∧ k V = some r := by
 unfold qjK at h
 split at h
 ·obtain ⟨q, h1, h2⟩ := qdv (fun _ _ _ h => qdu h) h
  exact ⟨_, by simp only [qck, h1, qsB], h2⟩
 ·rename_i hn
  obtain ⟨V, h1, h2⟩ := qdu h
  refine ⟨V, ?_, h2⟩
  rw [← h1]
  cases a <;> first | rfl | exact absurd rfl (hn _)
def qmJ (cfg : Cfg) (ls : List (Tmp × Nat)) (rs : List ResultVar) : KE AV := xg cfg ls (fun v H => qjK H v some) rs
theorem funN {cfg : Cfg} [InlOk cfg] {f : Nat} {fn : Func} {args : List AV} {r : AV} (hx : cfg.ext f = none) (hk : cfg.known f = true) (hf : cfg.P.funcs[f]? = some fn) (hb : fn.body = some (qe fn))
  (h : zb cfg (EV cfg) (kfN cfg 6) f fn (qe fn) args [] (qmJ cfg (cfg.lift f 0) fn.results.toList) = some r) : EVn (EV cfg) f args = some r := by
 obtain ⟨v, H', h1, h2⟩ := xC hx hk hf hb h
 obtain ⟨V, h3, h4⟩ := qkZ h2
 cases h4
 unfold EVn; rw [h1]; exact h3
def qpw (cfg : Cfg) (ls : List (Tmp × Nat)) (rs : List ResultVar) : KE Unit := xg cfg ls (fun v H => qd8 (v, H)) rs
theorem funZ {cfg : Cfg} [InlOk cfg] {f : Nat} {fn : Func} {a : AV} {r : Unit} (hx : cfg.ext f = none) (hk : cfg.known f = true) (hf : cfg.P.funcs[f]? = some fn) (hb : fn.body = some (qe fn))
  (h : zb cfg (EV cfg) (kfN cfg 6) f fn (qe fn) [a] [.spl] (qpw cfg (cfg.lift f 0) fn.results.toList) = some r) : EVz (EV cfg) f a = some r := by
 obtain ⟨v, H', h1, h2⟩ := xC hx hk hf hb h
 unfold EVz; rw [h1]; exact h2
@[simp] theorem nble (a b : Nat) : qsw a b = decide (a ≤ b) := by
 rcases h : qsw a b with _ | _
 ·rw [eq_comm, decide_eq_false_iff_not]; intro h'; rw [Nat.ble_eq_true_of_le h'] at h; cases h
 ·rw [eq_comm, decide_eq_true_eq]; exact Nat.le_of_ble_eq_true h
@[simp] theorem nbeq (a b : Nat) : qsy a b = decide (a = b) := by
 rcases h : qsy a b with _ | _
 ·rw [eq_comm, decide_eq_false_iff_not]; intro h'; rw [h', qsJ] at h; cases h
 ·rw [eq_comm, decide_eq_true_eq]; exact qsn h
@[simp] theorem leInt_eq (a b : Int) : qh a b = decide (a ≤ b) := rfl
@[simp] theorem ltInt_eq (a b : Int) : qo a b = decide (a < b) := rfl
theorem beqD {β : Type} [BEq β] [LawfulBEq β] [DecidableEq β] (a b : β) : (a == b) = decide (a = b) := by
 by_cases h : a = b
 ·subst h; simp
 ·simp [h]
theorem bneD {β : Type} [BEq β] [LawfulBEq β] [DecidableEq β] (a b : β) : (a != b) = !decide (a = b) := by rw [bne, beqD]
def AV.IsInt (v : AV) : Prop := ∃ n, v = .int .i64 n
def AV.IsBool (v : AV) : Prop := ∃ b, v = .bool b
@[simp] theorem isInt_int (n : Int) : (AV.int .i64 n).IsInt := ⟨n, rfl⟩
@[simp] theorem isBool_bool (b : Bool) : (AV.bool b).IsBool := ⟨b, rfl⟩
@[simp] theorem qf {β : Type} (b : β) (k : β → Option α) : kOpt (some b) k = k b := rfl
@[simp] theorem kOptNone {β : Type} (k : β → Option α) : kOpt none k = none := rfl
@[simp] theorem kMInt_int (kd : IntKind) (n : Int) (k : Int → Option α) : qiU kd (.int kd n) k = k n := by simp [qiU, zx]
@[simp] theorem qy (kd : IntKind) (n : Int) (k : Int → Option α) : kInt kd (.int kd n) k = k n := by simp [kInt, zx]
@[simp] theorem qu (b : Bool) (k : Bool → Option α) : qv (.bool b) k = k b := rfl
@[simp] theorem qfc (s : List UInt8) (k : List UInt8 → Option α) : kStr (.str s) k = k s := rfl
@[simp] theorem kAgg_agg (cs : List AV) (k : List AV → Option α) : kAgg (.agg cs) k = k cs := rfl
@[simp] theorem kCons_cons (c : AV) (cs : List AV) (k : AV → List AV → Option α) : qn (c :: cs) k = k c cs := rfl
@[simp] theorem kNil_nil (x : Option α) : kNil [] x = x := rfl
@[simp] theorem kMSl_nil (x : Option α) (k : Nat → Nat → Option α) : kMSl .nil x k = x := rfl
@[simp] theorem kMSl_sl (off len : Nat) (x : Option α) (k : Nat → Nat → Option α) : kMSl (.sl off len) x k = k off len := rfl
@[simp] theorem kMUnit_unit (x : Option α) : qa5 .unit x = x := rfl
@[simp] theorem kMBool_bool (b : Bool) (k : Bool → Option α) : qjL (.bool b) k = k b := rfl
@[simp] theorem kOwn_nil (x : Option α) (k : Nat → List (List AV) → Nat → Nat → Option α) : kOwn .nil x k = x := rfl
@[simp] theorem qjI (sz : Nat) (rs : List (List AV)) (off len : Nat) (x : Option α) (k : Nat → List (List AV) → Nat → Nat → Option α) : kOwn (.own sz rs off len) x k = k sz rs off len := rfl
@[simp] theorem yn (rs : List (List AV)) (k : List (List AV) → Option α) : kSl (.sl rs) k = k rs := rfl
@[simp] theorem qq {β : Type} (l : List β) (i : Nat) : qsg l i = l[i]? := rfl
variable {α β : Type}
def qgJ (b : Bool) (k : Bool → α) : α := match b with | true => k true | false => k false
def fNat (n : Nat) (k : Nat → α) : α := match n with | 0 => k 0 | m + 1 => k (m + 1)
def fInt (n : Int) (k : Int → α) : α := match n with | .ofNat m => fNat m fun m => k (.ofNat m) | .negSucc m => fNat m fun m => k (.negSucc m)
def fL (g : β → (β → α) → α) : List β → (List β → α) → α
 | [], k => k []
 | a :: l, k => g a fun a' => fL g l fun l' => k (a' :: l')
def qpD (kd : IntKind) (k : IntKind → α) : α := match kd with
 | .i64 => k .i64
 | .u64 => k .u64
 | .u8 => k .u8
 | .i32 => k .i32
 | .u32 => k .u32
 | x => k x
def qmW (b : UInt8) (k : UInt8 → α) : α := fNat b.toNat fun n => k (UInt8.ofNat n)
theorem qpC {g : β → (β → α) → α} (hg : ∀ b k, g b k = k b) : ∀ (l : List β) (k : List β → α), fL g l k = k l
 | [], _ => rfl
 | a :: l, k => by rw [fL, hg, qpC hg l]
theorem qfg (b : Bool) (k : Bool → α) : qgJ b k = k b := by cases b <;> rfl
theorem xy (b : Nat) (k : Nat → α) : fNat b k = k b := by cases b <;> rfl
theorem qp4 (b : Int) (k : Int → α) : fInt b k = k b := by cases b <;> simp only [fInt, xy]
theorem qo8 (b : IntKind) (k : IntKind → α) : qpD b k = k b := by cases b <;> rfl
theorem qo9 (b : UInt8) (k : UInt8 → α) : qmW b k = k b := by simp [qmW, xy]
def qrY (c a b : AV) (H : AH) : Option (AV × AH) :=
 match c with
 | .bool t => some (if t then a else b, H)
 | _ => none
def qqJ (cfg : Cfg) (nid : Option Nat) (t : TypeId) (H : AH) : Option (AV × AH) :=
 match cfg.ty t with
 | some ti =>
  if vw ti.zero then
   match aNew nid H (.rows (bigZ (cfg.fga t ti.zero)) ti.zero.length [cfg.fga t ti.zero]) with
   | some (k, H') => some (.ptr k 0 0, H')
   | none => none
  else none
 | none => none
def xBox (nid : Option Nat) (a : AV) (H : AH) : Option (AV × AH) :=
 match a.cells with
 | some cs =>
  match aNew nid H (.rows (bigZ cs) cs.length [cs]) with
  | some (k, H') => some (.ptr k 0 0, H')
  | none => none
 | none => none
def qqI (cfg : Cfg) (t : TypeId) (parts : List (Nat × AV)) (H : AH) : Option (AV × AH) :=
 match cfg.ty t with
 | some ti =>
  if vw ti.zero then
   match ti.d with
   | .struct fs =>
    match yK cfg fs with
    | some ps => (z1 (fun i => ps[i]?) ti.zero parts).map fun cs => (.agg (cfg.fga t cs), H)
    | none => none
   | .array _ e =>
    match cfg.sz e with
    | some n => (z1 (fun i => some (i * n, n)) ti.zero parts).map fun cs => (.agg cs, H)
    | none => none
   | _ => none
  else none
 | none => none
def qem (cfg : Cfg) (nid : Option Nat) (t : TypeId) (len : Nat) (parts : List (Nat × AV)) (H : AH) : Option (AV × AH) :=
 match cfg.td t with
 | some (.slice e) =>
  match cfg.ty e with
  | some ei =>
   if xW ei && qsw (len * ei.sz) 16777216 then
    match zH ei.sz (qsG len ei.zero) parts with
    | some rows =>
     match aNew nid H (.rows (qw 0 rows) ei.sz rows) with
     | some (k, H') => some (.ms k 0 len, H')
     | none => none
    | none => none
   else none
  | none => none
 | _ => none
def qrZ (cfg : Cfg) (t : TypeId) (a : AV) (H : AH) : Option (AV × AH) :=
 match cfg.ty t with
 | some ti => (yi ti.d.agg ti.sz H a).map fun v => (v, H)
 | none => none
def qqG (cfg : Cfg) (t : TypeId) (a v : AV) (H : AH) : Option (AV × AH) :=
 match cfg.sz t with
 | some n => (x9 n H a v).map fun H' => (.junk, H')
 | none => none
def xNil (a : AV) (H : AH) : Option (AV × AH) :=
 match a with
 | .ptr id r off => some (.ptr id r off, H)
 | .cptr cs off => some (.cptr cs off, H)
 | .fn (.func f) a b => some (.fn (.func f) a b, H)
 | .mp id => some (.mp id, H)
 | .yld id => some (.yld id, H)
 | _ => none
def qoz (t : AV) (i : Nat) (H : AH) : Option (AV × AH) :=
 match t with
 | .tup vs => (vs[i]?).map fun v => (v, H)
 | _ => none
def xOp (cfg : Cfg) (nid : Option Nat) (o : Op) (ty : TypeId) (x : Operand → AV) (H : AH) : Option (AV × AH) :=
 match o with
 | .move a | .assign a => some (x a, H)
 | .pick c a b => qrY (x c) (x a) (x b) H
 | .alloc t => qqJ cfg nid t H
 | .box _ a => xBox nid (x a) H
 | .build t parts => qqI cfg t (parts.toList.map fun p => (p.1, x p.2)) H
 | .buildSlice t len parts => qem cfg nid t len (parts.toList.map fun p => (p.1, x p.2)) H
 | .load t a => qrZ cfg t (x a) H
 | .store t a v => qqG cfg t (x a) (x v) H
 | .nilCheck a => xNil (x a) H
 | .binOp op t a b _ => (aBin cfg (litN a b) op t (x a) (x b)).map fun v => (v, H)
 | .unOp op _ a => (aUn op (x a)).map fun v => (v, H)
 | .convert s d a => xP cfg nid s d (x a) H
 | .makeFunc f first caps => some (.fn f (first.toList.map x) (caps.toList.map x), H)
 | .makeSlice t l c => zZ cfg nid t (x l) (x c) H
 | .slice t a lo hi mx => (zG cfg t H (x a) (lo.map x) (hi.map x) (mx.map x)).map fun v => (v, H)
 | .fieldAddr t a f => (yY cfg t (x a) f).map fun v => (v, H)
 | .field t a f => (qb2 cfg t (x a) f).map fun v => (v, H)
 | .indexAddr t a i => (xj cfg t H (x a) (x i)).map fun v => (v, H)
 | .index t a i => (qb1 cfg t (x a) (x i)).map fun v => (v, H)
 | .extract t i => qoz (x t) i H
 | o => evOp cfg nid o ty x H
theorem qqH (cfg : Cfg) (nid : Option Nat) (o : Op) (ty : TypeId) (x : Operand → AV) (H : AH) : xOp cfg nid o ty x H = evOp cfg nid o ty x H := by cases o <;> rfl
variable {α β : Type}
noncomputable def gL (g : β → (β → α) → α) (l : List β) : (List β → α) → α :=
 List.rec (motive := fun _ => (List β → α) → α) (fun k => k []) (fun a _ ih k => g a fun a' => ih fun l' => k (a' :: l')) l
noncomputable def gS (l : List β) : (List β → α) → α :=
 List.rec (motive := fun _ => (List β → α) → α) (fun k => k []) (fun a _ ih k => ih fun l' => k (a :: l')) l
theorem yD {g : β → (β → α) → α} (hg : ∀ b k, g b k = k b) : ∀ (l : List β) (k : List β → α), gL g l k = k l
 | [], _ => rfl
 | a :: l, k => by
  have : gL g (a :: l) k = g a fun a' => gL g l fun l' => k (a' :: l') := rfl
  rw [this, hg, yD hg l]
theorem xR : ∀ (l : List β) (k : List β → α), gS l k = k l
 | [], _ => rfl
 | a :: l, k => by
  have : gS (a :: l) k = gS l fun l' => k (a :: l') := rfl
  rw [this, xR l]
def gA1 (v : AV) (k : AV → α) : α := match v with
 | .int kd m => qpD kd fun kd => fInt m fun m => k (.int kd m)
 | .bool b => qgJ b fun b => k (.bool b)
 | .str s => fL qmW s fun s => k (.str s)
 | .ms a b c => fNat a fun a => fNat b fun b => fNat c fun c => k (.ms a b c)
 | .ptr a b c => fNat a fun a => fNat b fun b => fNat c fun c => k (.ptr a b c)
 | v => k v
theorem qgD (v : AV) (k : AV → α) : gA1 v k = k v := by
 cases v <;> simp only [gA1, qo8, qp4, qfg, xy, qpC qo9]
noncomputable def gA2 (v : AV) (k : AV → α) : α := match v with
 | .agg cs => gL gA1 cs fun cs => k (.agg cs)
 | .sl rows => gL (gL gA1) rows fun rows => k (.sl rows)
 | .cptr cs o => gL gA1 cs fun cs => fNat o fun o => k (.cptr cs o)
 | .fn f a b => gL gA1 a fun a => gL gA1 b fun b => k (.fn f a b)
 | v => gA1 v k
theorem qn4 (v : AV) (k : AV → α) : gA2 v k = k v := by
 have e1 : ∀ (l : List AV) (k : List AV → α), gL gA1 l k = k l := yD qgD
 cases v <;> simp only [gA2, qgD, e1, xy, yD e1]
noncomputable def gA (v : AV) (k : AV → α) : α := match v with
 | .tup cs => gL gA2 cs fun cs => k (.tup cs)
 | .ifc t v => gA2 v fun v => k (.ifc t v)
 | v => gA2 v k
theorem zW (v : AV) (k : AV → α) : gA v k = k v := by
 cases v <;> simp only [gA, qn4, yD qn4]
def gW (v : AV) (k : AV → α) : α := match v with
 | .int a b => k (.int a b)
 | .bool a => k (.bool a)
 | .str a => k (.str a)
 | .agg a => k (.agg a)
 | .tup a => k (.tup a)
 | .nilS => k .nilS
 | .sl a => k (.sl a)
 | .em => k .em
 | .ms a b c => k (.ms a b c)
 | .nilP => k .nilP
 | .ptr a b c => k (.ptr a b c)
 | .cptr a b => k (.cptr a b)
 | .fn a b c => k (.fn a b c)
 | .yld a => k (.yld a)
 | .nilF => k .nilF
 | .nilM => k .nilM
 | .mp a => k (.mp a)
 | .nilI => k .nilI
 | .ifc a b => k (.ifc a b)
 | .junk => k .junk
 | .lsl r => k (.lsl r)
 | .lpt c o => k (.lpt c o)
 | .rsl i r => k (.rsl i r)
 | .rpt i c o => k (.rpt i c o)
 | .alt l => k (.alt l)
theorem qgC (v : AV) (k : AV → α) : gW v k = k v := by cases v <;> rfl
noncomputable def gB (b : ABlk) (k : ABlk → α) : α := match b with
 | .rows d sz rs => qgJ d fun d => fNat sz fun sz => gL (gL gA1) rs fun rs => k (.rows d sz rs)
 | .froz d sz rs => qgJ d fun d => fNat sz fun sz => gL (gL gA1) rs fun rs => k (.froz d sz rs)
 | .mp es => gS es fun es => k (.mp es)
 | .loop f fr ps a b p s => gL gA1 fr fun fr => k (.loop f fr ps a b p s)
 | .dead => k .dead
 | .res => k .res
 | .reg => k .reg
 | .spl => k .spl
theorem qr9 (b : ABlk) (k : ABlk → α) : gB b k = k b := by
 have e1 : ∀ (l : List AV) (k : List AV → α), gL gA1 l k = k l := yD qgD
 cases b <;> simp only [gB, qfg, xy, e1, yD e1, xR]
noncomputable def gP (p : Nat × AV) (k : Nat × AV → α) : α := gA p.2 fun v => k (p.1, v)
theorem qpA (p : Nat × AV) (k : Nat × AV → α) : gP p k = k p := by unfold gP; rw [zW]
noncomputable def gH (H : AH) (k : AH → α) : α := gL gB H k
theorem qef (H : AH) (k : AH → α) : gH H k = k H := yD qr9 H k
abbrev Ov := List (Nat × AV)
def den (n : Nat) (ov : Ov) : List AV := ov.foldr (fun p fr => fr.set p.1 p.2) (qsG n .junk)
noncomputable def vG (t : Nat) (ov : Ov) : AV := List.rec (motive := fun _ => AV) .junk (fun p _ ih => cond (qsy p.1 t) p.2 ih) ov
theorem qdj (t : Nat) : vG t [] = .junk := rfl
theorem zr (t : Nat) (p : Nat × AV) (ov : Ov) : vG t (p :: ov) = cond (qsy p.1 t) p.2 (vG t ov) := rfl
def OvOk (n : Nat) (ov : Ov) : Prop := ∀ p ∈ ov, p.1 < n
theorem qbX (n : Nat) (ov : Ov) : (den n ov).length = n := by
 induction ov with
 | nil => simp [den]
 | cons p l ih => simp only [den, List.foldr_cons, List.length_set]; exact ih
theorem qbY {n : Nat} {ov : Ov} (h : OvOk n ov) (t : Nat) : (den n ov)[t]? = if t < n then some (vG t ov) else none := by
 induction ov with
 | nil =>
  simp only [den, List.foldr_nil, qdj, List.getElem?_replicate]
 | cons p l ih =>
  have hl : OvOk n l := fun q hq => h q (List.mem_cons_of_mem _ hq)
  have hp : p.1 < n := h p (List.mem_cons_self ..)
  have : (den n (p :: l))[t]? = ((den n l).set p.1 p.2)[t]? := rfl
  rw [this, qsu, ih hl, qbX, zr]
  by_cases e : p.1 = t
  ·subst e; simp [hp]
  ·have : qsy p.1 t = false := by rw [← Bool.not_eq_true]; intro h'; exact e (qsn h')
   rw [if_neg e, this]; rfl
theorem qdk {n : Nat} {ov : Ov} (h : OvOk n ov) {t : Nat} (ht : ¬ t < n) : vG t ov = .junk := by
 induction ov with
 | nil => rfl
 | cons p l ih =>
  have hp : p.1 < n := h p (List.mem_cons_self ..)
  have : qsy p.1 t = false := by rw [← Bool.not_eq_true]; intro h'; have := qsn h'; omega
  rw [zr, this]
  exact ih fun q hq => h q (List.mem_cons_of_mem _ hq)
theorem qhy {n : Nat} {ov : Ov} (h : OvOk n ov) {fr : List AV} (hl : fr.length = n) (hg : ∀ t, t < n → fr[t]? = some (vG t ov)) : den n ov = fr := by
 apply List.ext_getElem?
 intro t
 rw [qbY h]
 split
 ·rename_i ht; exact (hg t ht).symm
 ·rename_i ht; exact (List.getElem?_eq_none (by omega)).symm
noncomputable def opdO (ov : Ov) : Operand → AV
 | .tmp t => vG t ov
 | .const v => ofValue v
 | .global _ => .junk
 | .func f => .fn (.func f) [] []
theorem qbT {n : Nat} {ov : Ov} (h : OvOk n ov) : opd (den n ov) = opdO ov := by
 funext o
 cases o with
 | tmp t =>
  show (den n ov).getD t .junk = vG t ov
  rw [List.getD_eq_getElem?_getD, qbY h]
  split
  ·rfl
  ·rename_i ht; exact (qdk h ht).symm
 | _ => rfl
def putO (n : Nat) (ov : Ov) (dst : Option Tmp) (v : AV) : Ov :=
 match dst with
 | some d => cond (Nat.blt d n) ((d, v) :: ov) ov
 | none => ov
theorem qd6 {n : Nat} {ov : Ov} (h : OvOk n ov) (dst : Option Tmp) (v : AV) : OvOk n (putO n ov dst v) := by
 cases dst with
 | none => exact h
 | some d =>
  simp only [putO]
  cases hd : Nat.blt d n with
  | false => exact h
  | true =>
   intro p hp
   rw [cond_true] at hp
   rcases qsI.1 hp with rfl | hp
   ·simpa [Nat.blt_eq] using hd
   ·exact h p hp
theorem qci {n : Nat} {ov : Ov} (dst : Option Tmp) (v : AV) : den n (putO n ov dst v) = put (den n ov) dst v := by
 cases dst with
 | none => rfl
 | some d =>
  simp only [putO, put]
  cases hd : Nat.blt d n with
  | true => rfl
  | false =>
   have hd : ¬ d < n := by rw [← Bool.not_eq_true, Nat.blt_eq] at hd; exact hd
   show den n ov = _
   rw [List.set_eq_of_length_le (by rw [qbX]; exact Nat.le_of_not_lt hd)]
noncomputable def qaJ (ops : Array Oper) (ov : Ov) (o : Oper) : Option Bool :=
 match o.guard with
 | none => some true
 | some (j, want) =>
  match (ops[j]?).bind (·.dst) with
  | some d =>
   match vG d ov with
   | .bool b => some (b == want)
   | .tup [] => some false
   | _ => none
  | none => none
theorem qfK {n : Nat} {ov : Ov} (h : OvOk n ov) (ops : Array Oper) (o : Oper) : xo ops (den n ov) o = qaJ ops ov o := by
 unfold xo qaJ
 cases o.guard with
 | none => rfl
 | some p =>
  obtain ⟨j, want⟩ := p
  simp only
  cases (ops[j]?).bind (·.dst) with
  | none => rfl
  | some d =>
   simp only
   rw [qbY h]
   by_cases hd : d < n
   ·rw [if_pos hd]
    cases vG d ov <;> try rfl
    rename_i vs; cases vs <;> rfl
   ·rw [if_neg hd, qdk h hd]
noncomputable def qiY (n : Nat) (H : AH) (p v : AV) (k : AH → Option β) : Option β :=
 match p with
 | .ptr id r off =>
  match v.cells with
  | some cs =>
   match H[id]? with
   | some (.rows d sz rs) =>
    match rs[r]? with
    | some row => if cs.length == n && qsw (off + n) row.length then
      gS (row.take off ++ cs ++ row.drop (off + n)) fun row' => gS (rs.set r row') fun rs' => qgJ (d && qp 0 cs) fun d' => gS (H.set id (.rows d' sz rs')) k
     else none
    | none => none
   | _ => none
  | none => none
 | .rpt id cs o => (x9 n H (.rpt id cs o) v).bind k
 | _ => none
theorem qna (n : Nat) (H : AH) (p v : AV) (k : AH → Option β) : qiY n H p v k = (x9 n H p v).bind k := by
 unfold qiY x9
 cases p with
 | ptr id r off =>
  simp only
  cases hv : v.cells with
  | none => simp
  | some cs =>
   simp only
   cases hH : H[id]? with
   | none => simp
   | some b =>
    cases b <;> simp only [Option.bind_none]
    rename_i d sz rs
    cases hr : rs[r]? with
    | none => simp
    | some row =>
     simp only
     split <;> simp [xR, qfg]
 | rpt id cs o => rfl
 | _ => simp
noncomputable def yNew (nid : Option Nat) (H : AH) (b : ABlk) (k : Nat → AH → Option β) : Option β :=
 match nid with
 | none => fNat H.length fun i => gS (H ++ [b]) fun H' => k i H'
 | some i =>
  match H[i]? with
  | some .res => gS (H.set i b) fun H' => k i H'
  | _ => none
theorem qlr (nid : Option Nat) (H : AH) (b : ABlk) (k : Nat → AH → Option β) : yNew nid H b k = (aNew nid H b).bind fun r => k r.1 r.2 := by
 cases nid with
 | none => simp [yNew, aNew, xy, xR]
 | some i =>
  simp only [yNew, aNew]
  cases H[i]? with
  | none => rfl
  | some b => cases b <;> simp [xR]
noncomputable def qnf (cfg : Cfg) (nid : Option Nat) (t : TypeId) (H : AH) (k : AV → AH → Option β) : Option β :=
 match cfg.ty t with
 | some ti => if vw ti.zero then gL gA1 (cfg.fga t ti.zero) fun row => fNat ti.zero.length fun sz => yNew nid H (.rows (bigZ row) sz [row]) fun i H' => k (.ptr i 0 0) H' else none
 | none => none
noncomputable def yBox (nid : Option Nat) (a : AV) (H : AH) (k : AV → AH → Option β) : Option β :=
 match a.cells with
 | some cs => gS cs fun cs => fNat cs.length fun sz => yNew nid H (.rows (bigZ cs) sz [cs]) fun i H' => k (.ptr i 0 0) H'
 | none => none
noncomputable def yOp (cfg : Cfg) (nid : Option Nat) (o : Op) (ty : TypeId) (x : Operand → AV) (H : AH) (k : AV → AH → Option β) : Option β :=
 match o with
 | .move a | .assign a => gW (x a) fun v => k v H
 | .alloc t => qnf cfg nid t H k
 | .box _ a => yBox nid (x a) H k
 | .store t a v =>
  match cfg.sz t with
  | some n => qiY n H (x a) (x v) fun H' => k .junk H'
  | none => none
 | .buildSlice t len parts => (match qem cfg nid t len (parts.toList.map fun p => (p.1, x p.2)) H with | some r => gA r.1 fun v => gH r.2 fun H' => k v H' | none => none)
 | .convert s d a => (match xP cfg nid s d (x a) H with | some r => gA r.1 fun v => gH r.2 fun H' => k v H' | none => none)
 | .makeSlice t l c => (match zZ cfg nid t (x l) (x c) H with | some r => gA r.1 fun v => gH r.2 fun H' => k v H' | none => none)
 | .call c => (match evOp cfg nid (.call c) ty x H with | some r => gA r.1 fun v => gH r.2 fun H' => k v H' | none => none)
 | o => (match xOp cfg nid o ty x H with | some r => gA r.1 fun v => k v r.2 | none => none)
theorem qqF (cfg : Cfg) (nid : Option Nat) (o : Op) (ty : TypeId) (x : Operand → AV) (H : AH) (k : AV → AH → Option β) : yOp cfg nid o ty x H k = (evOp cfg nid o ty x H).bind fun r => k r.1 r.2 := by
 have em : ∀ (q : Option (AV × AH)), (match q with | some r => gA r.1 fun v => gH r.2 fun H' => k v H' | none => none) = q.bind fun r => k r.1 r.2 := fun q => by cases q <;> simp [zW, qef]
 have em' : ∀ (q : Option (AV × AH)), (match q with | some r => gA r.1 fun v => k v r.2 | none => none) = q.bind fun r => k r.1 r.2 := fun q => by cases q <;> simp [zW]
 cases o with
 | move a => simp [yOp, evOp, qgC]
 | assign a => simp [yOp, evOp, qgC]
 | alloc t =>
  simp only [yOp, evOp, qnf]
  cases cfg.ty t with
  | none => rfl
  | some ti =>
   simp only
   split
   ·simp only [yD qgD, xy, qlr]
    cases aNew nid H (.rows (bigZ (cfg.fga t ti.zero)) ti.zero.length [cfg.fga t ti.zero]) <;> rfl
   ·rfl
 | box t a =>
  simp only [yOp, evOp, yBox]
  cases (x a).cells with
  | none => rfl
  | some cs =>
   simp only [xR, xy, qlr]
   cases aNew nid H (.rows (bigZ cs) cs.length [cs]) <;> rfl
 | store t a v =>
  simp only [yOp, evOp]
  cases cfg.sz t with
  | none => rfl
  | some n =>
   simp only [qna]
   cases x9 n H (x a) (x v) <;> rfl
 | buildSlice t len parts => simp only [yOp]; rw [em]; rfl
 | convert s d a => simp only [yOp]; rw [em]; rfl
 | makeSlice t l c => simp only [yOp]; rw [em]; rfl
 | call c => simp only [yOp]; rw [em]
 | _ => simp only [yOp]; rw [em', qqH]
mutual
def AV.same : AV → AV → Bool
 | .int a b, .int c d => zx a c && decide (b = d)
 | .bool a, .bool b => a == b
 | .str a, .str b => a == b
 | .agg a, .agg b => yz a b
 | .tup a, .tup b => yz a b
 | .nilS, .nilS => true
 | .sl a, .sl b => qav a b
 | .em, .em => true
 | .nilP, .nilP => true
 | .nilF, .nilF => true
 | .nilM, .nilM => true
 | .nilI, .nilI => true
 | .junk, .junk => true
 | .fn (.func f) a b, .fn (.func g) c d => qsy f g && (yz a c && yz b d)
 | .cptr a i, .cptr b j => qsy i j && yz a b
 | _, _ => false
def yz : List AV → List AV → Bool
 | [], [] => true
 | a :: l, b :: m => a.same b && yz l m
 | _, _ => false
def qav : List (List AV) → List (List AV) → Bool
 | [], [] => true
 | a :: l, b :: m => yz a b && qav l m
 | _, _ => false
end
mutual
theorem AV.same_eq : ∀ {a b : AV}, a.same b = true → a = b
 | .int a b, y, h => by
  cases y <;> simp [AV.same, zx] at h
  rw [h.1, h.2]
 | .bool a, y, h => by cases y <;> simp [AV.same] at h; rw [h]
 | .str a, y, h => by cases y <;> simp [AV.same] at h; rw [h]
 | .agg a, y, h => by cases y <;> simp [AV.same] at h; rw [yH h]
 | .tup a, y, h => by cases y <;> simp [AV.same] at h; rw [yH h]
 | .nilS, y, h => by cases y <;> simp [AV.same] at h; rfl
 | .sl a, y, h => by cases y <;> simp [AV.same] at h; rw [qjk h]
 | .em, y, h => by cases y <;> simp [AV.same] at h; rfl
 | .nilP, y, h => by cases y <;> simp [AV.same] at h; rfl
 | .nilF, y, h => by cases y <;> simp [AV.same] at h; rfl
 | .nilM, y, h => by cases y <;> simp [AV.same] at h; rfl
 | .nilI, y, h => by cases y <;> simp [AV.same] at h; rfl
 | .junk, y, h => by cases y <;> simp [AV.same] at h; rfl
 | .fn f a b, y, h => by
  cases f <;> cases y <;> first | (rename_i g c d; cases g <;> simp [AV.same] at h; rw [h.1, yH h.2.1, yH h.2.2]) | simp [AV.same] at h
 | .cptr a i, y, h => by
  cases y <;> simp [AV.same] at h
  rw [h.1, yH h.2]
 | .ms _ _ _, y, h => by cases y <;> simp [AV.same] at h
 | .ptr _ _ _, y, h => by cases y <;> simp [AV.same] at h
 | .yld _, y, h => by cases y <;> simp [AV.same] at h
 | .mp _, y, h => by cases y <;> simp [AV.same] at h
 | .ifc _ _, y, h => by cases y <;> simp [AV.same] at h
theorem yH : ∀ {a b : List AV}, yz a b = true → a = b
 | [], [], _ => rfl
 | a :: l, b :: m, h => by
  simp only [yz, qsm] at h
  rw [AV.same_eq h.1, yH h.2]
 | [], _ :: _, h => by simp [yz] at h
 | _ :: _, [], h => by simp [yz] at h
theorem qjk : ∀ {a b : List (List AV)}, qav a b = true → a = b
 | [], [], _ => rfl
 | a :: l, b :: m, h => by
  simp only [qav, qsm] at h
  rw [yH h.1, qjk h.2]
 | [], _ :: _, h => by simp [qav] at h
 | _ :: _, [], h => by simp [qav] at h
end
structure Fact where
 frz : Bool
 f : Nat
 args : List AV
 v : AV
def Fact.Ok (cfg : Cfg) (e : Fact) : Prop := (if e.frz then EVf (EV cfg) e.f e.args else EVs (EV cfg) e.f e.args) = some e.v
def vo (cfg : Cfg) : List Fact → Prop
 | [] => True
 | e :: l => e.Ok cfg ∧ vo cfg l
theorem vo.nil {cfg : Cfg} : vo cfg [] := trivial
theorem vo.consS {cfg : Cfg} {f : Nat} {args : List AV} {v : AV} {l : List Fact} (h : EVs (EV cfg) f args = some v) (t : vo cfg l) : vo cfg (⟨false, f, args, v⟩ :: l) := ⟨h, t⟩
theorem vo.consF {cfg : Cfg} {f : Nat} {args : List AV} {v : AV} {l : List Fact} (h : EVf (EV cfg) f args = some v) (t : vo cfg l) : vo cfg (⟨true, f, args, v⟩ :: l) := ⟨h, t⟩
noncomputable def qa7 (frz : Bool) (f : Nat) (args : List AV) (fs : List Fact) : Option AV :=
 List.rec (motive := fun _ => Option AV) none (fun e _ ih => cond (qsy e.f f && (e.frz == frz && yz e.args args)) (some e.v) ih) fs
theorem qbF {cfg : Cfg} {frz : Bool} {f : Nat} {args : List AV} {v : AV} : ∀ {fs : List Fact}, vo cfg fs → qa7 frz f args fs = some v → (if frz then EVf (EV cfg) f args else EVs (EV cfg) f args) = some v
 | [], _, h => by cases h
 | e :: l, hok, h => by
  have hd : qa7 frz f args (e :: l) = cond (qsy e.f f && (e.frz == frz && yz e.args args)) (some e.v) (qa7 frz f args l) := rfl
  rw [hd] at h
  cases hc : (qsy e.f f && (e.frz == frz && yz e.args args)) with
  | true =>
   rw [hc] at h
   simp only [qsm, beq_iff_eq] at hc
   cases h
   have := hok.1
   unfold Fact.Ok at this
   rw [← qsn hc.1, ← hc.2.1, ← yH hc.2.2]
   exact this
  | false =>
   rw [hc] at h
   exact qbF hok.2 h
noncomputable def qfv (cfg : Cfg) (cf : Orac) (nid : Option Nat) (t : Tgt) (args : List AV) (H : AH) (k : AV → AH → Option β) : Option β :=
 match qP cfg cf nid t args H with
 | some r => gA r.1 fun v => gH r.2 fun H' => k v H'
 | none => none
noncomputable def qnd (_cfg : Cfg) (cf : Orac) (fs : List Fact) (f : Nat) (al : List AV) (k : AV → Option β) : Option β :=
 cond (qp 0 al)
  (match qa7 false f al fs with
  | some v => cond v.scalar (k v) none
  | none => (match cf (.f f) al [] with | some r => gA r.1 fun v => cond v.scalar (k v) none | none => none)) none
noncomputable def qne (_cfg : Cfg) (cf : Orac) (fs : List Fact) (f : Nat) (al : List AV) (k : AV → Option β) : Option β :=
 cond (qp 0 al)
  (match qa7 true f al fs with
  | some v => cond (v.refsLt 0) (k v) none
  | none => (match cf (.f f) al [] with | some r => gA (r.1.frz r.1.msIds r.2).fg fun v => cond (v.refsLt 0) (k v) none | none => none)) none
noncomputable def qiZ (cfg : Cfg) (cf : Orac) (fs : List Fact) (nid : Option Nat) (t : Tgt) (args : List AV) (H : AH) (k : AV → AH → Option β) : Option β :=
 match t with
 | .y id => qfv cfg cf nid (.y id) args H k
 | .f f =>
  match cfg.mode f with
  | .scal => gL gA (args.map fun a => (a.snap H).fg) fun al => qnd cfg cf fs f al fun v => k v H
  | .pfrz => gL gA (args.map AV.fg) fun al => qne cfg cf fs f al fun v => k v H
  | _ => qfv cfg cf nid (.f f) args H k
noncomputable def qnc (cfg : Cfg) (cf : Orac) (fs : List Fact) (nid : Option Nat) (f : AV) (args : List AV) (H : AH) (k : AV → AH → Option β) : Option β :=
 match xQ f args with
 | some t => qiZ cfg cf fs nid t.1 t.2 H k
 | none => none
def Le (cf cf' : Orac) : Prop := ∀ t a H r, cf t a H = some r → cf' t a H = some r
theorem qko {cfg : Cfg} {cf : Orac} (hcf : Le cf (EV cfg)) {fs : List Fact} (hfs : vo cfg fs) {nid : Option Nat} {t : Tgt} {args : List AV} {H : AH} {k : AV → AH → Option β} {r : β}
  (h : qiZ cfg cf fs nid t args H k = some r) : ∃ q, qP cfg (EV cfg) nid t args H = some q ∧ k q.1 q.2 = some r := by
 have hev : Ev (fun _ => EV cfg) cf := fun t a H r h => ⟨0, fun _ _ => hcf t a H r h⟩
 have gen : ∀ (t : Tgt), qfv cfg cf nid t args H k = some r → ∃ q, qP cfg (EV cfg) nid t args H = some q ∧ k q.1 q.2 = some r := by
  intro t h
  unfold qfv at h
  split at h
  ·rename_i q hq
   rw [zW, qef] at h
   obtain ⟨n, hn⟩ := qkd hev cfg nid t args H q hq
   exact ⟨q, hn n (qso _), h⟩
  ·cases h
 cases t with
 | y id => exact gen _ h
 | f f =>
  simp only [qiZ] at h
  cases hm : cfg.mode f with
  | scal =>
   simp only [hm, yD zW] at h
   unfold qnd at h
   obtain ⟨h1, h⟩ := qd h
   simp only [qP, hm, h1, if_true]
   split at h
   ·rename_i v hv
    obtain ⟨h2, h⟩ := qd h
    have := qbF hfs hv
    simp only [qsx, if_false] at this
    unfold EVs at this
    obtain ⟨q, hq, rfl⟩ := qsl.1 this
    rw [hq]
    exact ⟨(q.1, H), by simp only [qsv, h2, if_true], h⟩
   ·split at h
    ·rename_i q hq
     rw [zW] at h
     obtain ⟨h2, h⟩ := qd h
     rw [hcf _ _ _ _ hq]
     exact ⟨(q.1, H), by simp only [qsv, h2, if_true], h⟩
    ·cases h
  | pfrz =>
   simp only [hm, yD zW] at h
   unfold qne at h
   obtain ⟨h1, h⟩ := qd h
   simp only [qP, hm, h1, if_true]
   split at h
   ·rename_i v hv
    obtain ⟨h2, h⟩ := qd h
    have := qbF hfs hv
    simp only [if_true] at this
    unfold EVf at this
    obtain ⟨q, hq, rfl⟩ := qsl.1 this
    rw [hq]
    exact ⟨((q.1.frz q.1.msIds q.2).fg, H), by simp only [qsv, h2, if_true], h⟩
   ·split at h
    ·rename_i q hq
     rw [zW] at h
     obtain ⟨h2, h⟩ := qd h
     rw [hcf _ _ _ _ hq]
     exact ⟨((q.1.frz q.1.msIds q.2).fg, H), by simp only [qsv, h2, if_true], h⟩
    ·cases h
  | _ => simp only [hm] at h; exact gen _ h
noncomputable def qaO (cfg : Cfg) (cf : Orac) (fs : List Fact) (nid : Option Nat) (o : Op) (ty : TypeId) (x : Operand → AV) (H : AH) (k : AV → AH → Option β) : Option β :=
 match o with
 | .call c =>
  (match c.callee with
  | .value f => gL gW (c.args.toList.map x) fun args => qnc cfg cf fs nid (x f) args H k
  | _ => yOp cfg nid (.call c) ty x H k)
 | o => yOp cfg nid o ty x H k
noncomputable def qiK (cfg : Cfg) (cf : Orac) (fs : List Fact) (frz : Bool) (nid : Option Nat) (o : Oper) (x : Operand → AV) (H : AH) (k : AV → AH → Option β) : Option β :=
 match frz with
 | false => qaO cfg cf fs nid o.op o.type x H k
 | true => gS (o.op.operands.toList.flatMap fun a => (x a).msIds) fun ids => gH (qJ ids H) fun H' => qaO cfg cf fs nid o.op o.type (fun a => (x a).frz ids H) H' k
theorem qel {cfg : Cfg} {cf : Orac} (hcf : Le cf (EV cfg)) {fs : List Fact} (hfs : vo cfg fs) {nid : Option Nat} {o : Oper} {x : Operand → AV} {H : AH} {k : AV → AH → Option β} {r : β}
  (h : qaO cfg cf fs nid o.op o.type x H k = some r) : ∃ q, vg cfg (EV cfg) false nid o x H = some q ∧ k q.1 q.2 = some r := by
 obtain ⟨dst, op, ty, pos, after, guard⟩ := o
 unfold vg
 simp only [qsx, if_false] at h ⊢
 have plain : ∀ (op : Op), yOp cfg nid op ty x H k = some r → ∃ q, evOp cfg nid op ty x H = some q ∧ k q.1 q.2 = some r := by
  intro op h
  rw [qqF] at h
  exact qsj.1 h
 cases op with
 | call c =>
  obtain ⟨callee, args, argTypes⟩ := c
  cases callee with
  | value f =>
   simp only [qaO, yD qgC] at h ⊢
   unfold qnc at h
   split at h
   ·rename_i t ht
    rw [ht]
    exact qko hcf hfs h
   ·cases h
  | builtin b => simp only [qaO] at h ⊢; exact plain _ h
  | invoke rv nm => simp only [qaO] at h ⊢; exact plain _ h
 | _ => simp only [qaO] at h ⊢; exact plain _ h
theorem qfq {cfg : Cfg} {cf : Orac} (hcf : Le cf (EV cfg)) {fs : List Fact} (hfs : vo cfg fs) {frz : Bool} {nid : Option Nat} {o : Oper} {x : Operand → AV} {H : AH} {k : AV → AH → Option β} {r : β}
  (h : qiK cfg cf fs frz nid o x H k = some r) : ∃ q, vg cfg (EV cfg) frz nid o x H = some q ∧ k q.1 q.2 = some r := by
 cases frz with
 | false => exact qel hcf hfs h
 | true =>
  simp only [qiK, xR, qef] at h
  obtain ⟨q, h1, h2⟩ := qel hcf hfs h
  refine ⟨q, ?_, h2⟩
  unfold vg at h1 ⊢
  simpa using h1
noncomputable def yOps (cfg : Cfg) (cf : Orac) (fs : List Fact) (f rid : Nat) (ops : Array Oper) (n : Nat) : Nat → List Oper → Ov → AH → (Ov → AH → Option β) → Option β
 | _, [], ov, H, K => K ov H
 | i, o :: rest, ov, H, K =>
  match qaJ ops ov o with
  | none => none
  | some b =>
   cond b (qiK cfg cf fs (cfg.frz f rid i) none o (opdO ov) H fun v H' => yOps cfg cf fs f rid ops n (i + 1) rest (putO n ov o.dst v) H' K)
    (yOps cfg cf fs f rid ops n (i + 1) rest (putO n ov o.dst (.tup [])) H K)
theorem qcR {cfg : Cfg} {cf : Orac} (hcf : Le cf (EV cfg)) {fs : List Fact} (hfs : vo cfg fs) {f rid n : Nat} {ops : Array Oper} {r : β} : ∀ {l : List Oper} {i : Nat} {ov : Ov} {H : AH} {K : Ov → AH → Option β}, OvOk n ov → yOps cfg cf fs f rid ops n i l ov H K = some r →
  ∃ ov' H', OvOk n ov' ∧ ze cfg (EV cfg) f rid ops i l (den n ov) H = some (den n ov', H') ∧ K ov' H' = some r
 | [], i, ov, H, K, hok, h => ⟨ov, H, hok, rfl, h⟩
 | o :: l, i, ov, H, K, hok, h => by
  rw [yOps] at h
  rw [ze, qfK hok]
  cases hw : qaJ ops ov o with
  | none => rw [hw] at h; cases h
  | some b =>
   rw [hw] at h
   simp only [qsv]
   cases b with
   | true =>
    simp only [cond_true] at h
    obtain ⟨q, h1, h2⟩ := qfq hcf hfs h
    simp only [if_true, qbT hok, h1, qsv]
    obtain ⟨ov', H', h3, h4, h5⟩ := qcR hcf hfs (qd6 hok _ _) h2
    rw [qci] at h4
    exact ⟨ov', H', h3, h4, h5⟩
   | false =>
    simp only [cond_false] at h
    simp only [qsx, if_false]
    obtain ⟨ov', H', h3, h4, h5⟩ := qcR hcf hfs (qd6 hok _ _) h
    rw [qci] at h4
    exact ⟨ov', H', h3, h4, h5⟩
noncomputable def qfu (cfg : Cfg) (cf : Orac) (fs : List Fact) (f rid : Nat) (ops : Array Oper) (n : Nat) : Nat → Nat → List Oper → Ov → AH → (List FP → Ov → AH → Option β) → Option β
 | _, _, [], ov, H, K => K [] ov H
 | i, at_, o :: rest, ov, H, K =>
  match qaJ ops ov o with
  | none => none
  | some b =>
   fNat (if qcn cfg o then at_ + 1 else at_) fun at' =>
   cond b (qiK cfg cf fs (cfg.frz f rid i) (some at_) o (opdO ov) H fun v H' => qfu cfg cf fs f rid ops n (i + 1) at' rest (putO n ov o.dst v) H' fun fps ov' H'' => K (x7 cfg (cfg.frz f rid i) at_ o (opdO ov) :: fps) ov' H'')
    (qfu cfg cf fs f rid ops n (i + 1) at' rest (putO n ov o.dst (.tup [])) H fun fps ov' H'' => K (.none :: fps) ov' H'')
theorem qb9 {cfg : Cfg} {cf : Orac} (hcf : Le cf (EV cfg)) {fs : List Fact} (hfs : vo cfg fs) {f rid n : Nat} {ops : Array Oper} {r : β} : ∀ {l : List Oper} {i at_ : Nat} {ov : Ov} {H : AH} {K : List FP → Ov → AH → Option β}, OvOk n ov → qfu cfg cf fs f rid ops n i at_ l ov H K = some r →
  ∃ fps ov' H', OvOk n ov' ∧ xG cfg (EV cfg) f rid ops i at_ l (den n ov) H = some (fps, den n ov', H') ∧ K fps ov' H' = some r
 | [], i, at_, ov, H, K, hok, h => ⟨[], ov, H, hok, rfl, h⟩
 | o :: l, i, at_, ov, H, K, hok, h => by
  rw [qfu] at h
  rw [xG, qfK hok]
  cases hw : qaJ ops ov o with
  | none => rw [hw] at h; cases h
  | some b =>
   rw [hw] at h
   simp only [qsv]
   simp only [xy] at h
   cases b with
   | true =>
    simp only [cond_true] at h
    obtain ⟨q, h1, h2⟩ := qfq hcf hfs h
    simp only [if_true, qbT hok, h1, qsv]
    obtain ⟨fps, ov', H', h3, h4, h5⟩ := qb9 hcf hfs (qd6 hok _ _) h2
    rw [qci] at h4
    exact ⟨_, ov', H', h3, by rw [h4]; rfl, h5⟩
   | false =>
    simp only [cond_false] at h
    simp only [qsx, if_false]
    obtain ⟨fps, ov', H', h3, h4, h5⟩ := qb9 hcf hfs (qd6 hok _ _) h
    rw [qci] at h4
    exact ⟨_, ov', H', h3, by rw [h4]; rfl, h5⟩
def z5 : Nat → List Nat → Bool
 | _, [] => true
 | i, k :: ks => qsw i k && z5 (k + 1) ks
noncomputable def qiP (ks : List Nat) (ov : Ov) : (Ov → α) → α :=
 List.rec (motive := fun _ => (Ov → α) → α) (fun K => K []) (fun t _ ih K => gW (vG t ov) fun v => ih fun l => K ((t, v) :: l)) ks
theorem qoV (ks : List Nat) (ov : Ov) : ∀ (K : Ov → α), qiP ks ov K = K (ks.map fun t => (t, vG t ov)) := by
 induction ks with
 | nil => intro K; rfl
 | cons t l ih =>
  intro K
  have : qiP (t :: l) ov K = gW (vG t ov) fun v => qiP l ov fun l => K ((t, v) :: l) := rfl
  rw [this, qgC, ih, List.map_cons]
theorem qaA : ∀ (ks : List Nat) (fr : List AV) (i t : Nat), z5 i ks = true → (vQ i ks fr)[t]? = if t < fr.length then some (if i + t ∈ ks then (fr[t]?).getD .junk else .junk) else none
 | ks, [], i, t, _ => by cases ks <;> simp [vQ]
 | [], a :: fr, i, t, h => by
  rw [vQ]
  cases t with
  | zero => simp
  | succ t =>
   simp only [List.getElem?_cons_succ]
   rw [qaA [] fr i t rfl]
   simp
 | k :: ks, a :: fr, i, t, h => by
  rw [z5, qsm, qsF] at h
  rw [vQ]
  have hge : ∀ (l : List Nat) (j : Nat), z5 j l = true → ∀ x ∈ l, j ≤ x := by
   intro l
   induction l with
   | nil => intro j _ x hx; cases hx
   | cons y l ih =>
    intro j hj x hx
    rw [z5, qsm, qsF] at hj
    rcases qsI.1 hx with rfl | hx
    ·exact hj.1
    ·have := ih _ hj.2 x hx; omega
  split
  ·rename_i e
   have e := qsn e
   subst e
   cases t with
   | zero => simp
   | succ t =>
    simp only [List.getElem?_cons_succ]
    rw [qaA ks fr (i + 1) t h.2]
    have e1 : i + (t + 1) = i + 1 + t := by omega
    have e2 : ¬ i + 1 + t = i := by omega
    simp only [List.length_cons, Nat.add_lt_add_iff_right, e1, qsI, e2, false_or]
  ·rename_i e
   have hne : i ≠ k := fun h' => e (by rw [h']; exact qsJ _)
   cases t with
   | zero =>
    have : i ∉ k :: ks := by
     intro hm
     rcases qsI.1 hm with rfl | hm
     ·exact hne rfl
     ·have := hge _ _ h.2 i hm; omega
    simp [this]
   | succ t =>
    simp only [List.getElem?_cons_succ]
    rw [qaA (k :: ks) fr (i + 1) t (by rw [z5, qsm, qsF]; exact ⟨by omega, h.2⟩)]
    have e1 : i + (t + 1) = i + 1 + t := by omega
    simp only [List.length_cons, Nat.add_lt_add_iff_right, e1]
theorem qnO (ks : List Nat) (g : Nat → AV) (t : Nat) : vG t (ks.map fun t => (t, g t)) = if t ∈ ks then g t else .junk := by
 induction ks with
 | nil => rfl
 | cons k l ih =>
  rw [List.map_cons, zr, ih]
  by_cases e : k = t
  ·subst e; simp
  ·have h1 : qsy k t = false := by rw [← Bool.not_eq_true]; intro h'; exact e (qsn h')
   have h2 : ¬ t = k := fun h => e h.symm
   rw [h1, cond_false]
   simp only [qsI, h2, false_or]
noncomputable def qfr (n : Nat) (ts : Option (List Nat)) (ov : Ov) (K : Ov → Option β) : Option β :=
 match ts with
 | none => K ov
 | some ks => cond (z5 0 ks && ks.all fun t => Nat.blt t n) (qiP ks ov K) none
theorem qb8 {n : Nat} {ts : Option (List Nat)} {ov : Ov} {K : Ov → Option β} {r : β} (hok : OvOk n ov) (h : qfr n ts ov K = some r) : ∃ ov', OvOk n ov' ∧ vp ts (den n ov) = den n ov' ∧ K ov' = some r := by
 cases ts with
 | none => exact ⟨ov, hok, rfl, h⟩
 | some ks =>
  simp only [qfr, qoV] at h
  cases hc : (z5 0 ks && ks.all fun t => Nat.blt t n) with
  | false => rw [hc] at h; cases h
  | true =>
   rw [hc] at h
   rw [qsm, List.all_eq_true] at hc
   have hok' : OvOk n (ks.map fun t => (t, vG t ov)) := by
    intro p hp
    obtain ⟨t, ht, rfl⟩ := List.mem_map.1 hp
    have := hc.2 t ht
    simpa [Nat.blt_eq] using this
   refine ⟨_, hok', (qhy hok' ?_ fun t ht => ?_).symm, h⟩
   ·show (vQ 0 ks (den n ov)).length = n
    rw [(zy (ts := ks) (fr := den n ov) (k := 0)).1, qbX]
   ·show (vQ 0 ks (den n ov))[t]? = _
    rw [qaA _ _ _ _ hc.1, qbX, if_pos ht, Nat.zero_add, qnO, qbY hok, if_pos ht]
    rfl
noncomputable def qau (n : Nat) : List (Tmp × Nat) → Ov → AH → (Ov → AH → Option β) → Option β
 | [], ov, H, K => K ov H
 | p :: l, ov, H, K =>
  match vG p.1 ov with
  | .nilS => fNat H.length fun i => cond (Nat.blt p.1 n) (gS (H ++ [.rows true p.2 []]) fun H' => qau n l ((p.1, .ms i 0 0) :: ov) H' K) none
  | .ptr _ _ _ => (match yB p.1 p.2 (den n ov) H with | q => gH q.2 fun H' => qau n l ov H' K)
  | _ => qau n l ov H K
theorem qnV {t sz : Nat} {fr : List AV} {H : AH} {id r off : Nat} (h : fr[t]? = some (.ptr id r off)) : (yB t sz fr H).1 = fr := by
 unfold yB
 rw [h]
 simp only
 split
 ·split
  ·split <;> rfl
  ·rfl
 ·rfl
theorem yS {n : Nat} {r : β} : ∀ {ls : List (Tmp × Nat)} {ov : Ov} {H : AH} {K : Ov → AH → Option β}, OvOk n ov → qau n ls ov H K = some r → ∃ ov' H', OvOk n ov' ∧ qZ ls (den n ov) H = (den n ov', H') ∧ K ov' H' = some r
 | [], ov, H, K, hok, h => ⟨ov, H, hok, rfl, h⟩
 | p :: l, ov, H, K, hok, h => by
  rw [qau] at h
  rw [qZ]
  have hget : (den n ov)[p.1]? = if p.1 < n then some (vG p.1 ov) else none := qbY hok p.1
  split at h
  ·rename_i hv
   simp only [xy] at h
   cases hb : Nat.blt p.1 n with
   | false => rw [hb] at h; cases h
   | true =>
    rw [hb] at h
    simp only [cond_true, xR] at h
    have hlt : p.1 < n := by simpa [Nat.blt_eq] using hb
    have hl1 : yB p.1 p.2 (den n ov) H = (den n ((p.1, .ms H.length 0 0) :: ov), H ++ [.rows true p.2 []]) := by
     unfold yB
     rw [hget, if_pos hlt, hv]; rfl
    rw [hl1]
    exact yS (fun q hq => (qsI.1 hq).elim (fun e => by subst e; exact hlt) (hok q)) h
  ·rename_i id r' off hv
   simp only [qef] at h
   by_cases hlt : p.1 < n
   ·rw [qnV (by rw [hget, if_pos hlt, hv])]
    exact yS hok h
   ·rw [qdk hok hlt] at hv; cases hv
  ·rename_i h1 h2
   have hl1 : yB p.1 p.2 (den n ov) H = (den n ov, H) := by
    unfold yB
    rw [hget]
    by_cases hlt : p.1 < n
    ·rw [if_pos hlt]
     split
     ·rename_i e; exact absurd (Option.some.inj e) h1
     ·rename_i a b c e; exact absurd (Option.some.inj e) (h2 a b c)
     ·rfl
    ·rw [if_neg hlt]
   rw [hl1]
   exact yS hok h
def spGo : Nat → List AV → Ov
 | _, [] => []
 | i, .junk :: l => spGo (i + 1) l
 | i, v :: l => (i, v) :: spGo (i + 1) l
theorem qjf : ∀ (l : List AV) (i t : Nat), vG t (spGo i l) = if i ≤ t then (l[t - i]?).getD .junk else .junk
 | [], i, t => by simp [spGo, qdj]
 | a :: l, i, t => by
  have ih := qjf l (i + 1) t
  have key : ∀ (ov : Ov), ov = (i, a) :: spGo (i + 1) l → vG t ov = if i ≤ t then ((a :: l)[t - i]?).getD .junk else .junk := by
   intro ov e
   rw [e, zr, ih]
   by_cases e2 : i = t
   ·subst e2; simp
   ·have h1 : qsy i t = false := by rw [← Bool.not_eq_true]; intro h'; exact e2 (qsn h')
    simp only [h1, cond_false]
    by_cases h3 : i + 1 ≤ t
    ·have h4 : t - i = (t - (i + 1)) + 1 := by omega
     rw [if_pos h3, if_pos (by omega), h4, List.getElem?_cons_succ]
    ·rw [if_neg h3, if_neg (by omega)]
  cases a with
  | junk =>
   show vG t (spGo (i + 1) l) = _
   rw [ih]
   by_cases h3 : i + 1 ≤ t
   ·have h4 : t - i = (t - (i + 1)) + 1 := by omega
    rw [if_pos h3, if_pos (by omega), h4, List.getElem?_cons_succ]
   ·rw [if_neg h3]
    by_cases e2 : i = t
    ·subst e2; simp
    ·rw [if_neg (by omega)]
  | _ => exact key _ rfl
theorem qbN : ∀ (l : List AV) (i n : Nat), i + l.length ≤ n → OvOk n (spGo i l)
 | [], i, n, _ => fun p hp => by cases hp
 | a :: l, i, n, h => by
  simp only [List.length_cons] at h
  have ih := qbN l (i + 1) n (by omega)
  have key : OvOk n ((i, a) :: spGo (i + 1) l) := fun p hp => by
   rcases qsI.1 hp with rfl | hp
   ·show i < n; omega
   ·exact ih p hp
  cases a <;> first | exact key | exact ih
theorem qj3 (l : List AV) : den l.length (spGo 0 l) = l := by
 have hok := qbN l 0 l.length (by omega)
 refine qhy hok rfl fun t ht => ?_
 rw [qjf, if_pos (Nat.zero_le _), Nat.sub_zero, qsh ht]; rfl
noncomputable def yGc (n k : Nat) (ov : Ov) (H : AH) (K : Ov → AH → Option β) : Option β :=
 cond (qsw H.length k) (K ov H) (match zF k (den n ov) H with | q => gS (spGo 0 q.1) fun ov' => gL gP ov' fun ov' => gH q.2 fun H' => K ov' H')
theorem qoL (ρ : Nat → Nat) (l : List AV) : (renL ρ l).length = l.length := by rw [xJ]; simp
theorem qn3 (k : Nat) (fr : List AV) (H : AH) : (zF k fr H).1.length = fr.length := by
 unfold zF
 simp only
 cases qbc H (qaw k H (2 * H.length + 16) [] (qL k fr ++ yo k (H.take k))) with
 | none => rfl
 | some bs =>
  simp only
  split
  ·exact qoL _ _
  ·rfl
theorem qoy {n k : Nat} {ov : Ov} {H : AH} {K : Ov → AH → Option β} {r : β} (hok : OvOk n ov) (h : yGc n k ov H K = some r) : ∃ ov' H', OvOk n ov' ∧ gc k (den n ov) H = (den n ov', H') ∧ K ov' H' = some r := by
 unfold yGc at h
 unfold gc
 cases hb : qsw H.length k with
 | true => rw [hb] at h; exact ⟨ov, H, hok, by simp, h⟩
 | false =>
  rw [hb] at h
  simp only [cond_false] at h
  rw [xR, yD qpA, qef] at h
  have hl : (zF k (den n ov) H).1.length = n := by rw [qn3, qbX]
  have := qj3 (zF k (den n ov) H).1
  rw [hl] at this
  refine ⟨_, _, ?_, ?_, h⟩
  ·exact qbN _ _ _ (by omega)
  ·simp only [qsx, if_false, this]
noncomputable def qlN (n k : Nat) (ts : Option (List Tmp)) (ls : List (Tmp × Nat)) (ov : Ov) (H : AH) (K : Ov → AH → Option β) : Option β :=
 qfr n ts ov fun ov => qau n ls ov H fun ov H => yGc n k ov H K
theorem qft {n k : Nat} {ts : Option (List Tmp)} {ls : List (Tmp × Nat)} {ov : Ov} {H : AH} {K : Ov → AH → Option β} {r : β} (hok : OvOk n ov) (h : qlN n k ts ls ov H K = some r) :
  ∃ ov' H', OvOk n ov' ∧ yP k ts ls (den n ov) H = (den n ov', H') ∧ K ov' H' = some r := by
 obtain ⟨ov1, h1, h2, h⟩ := qb8 hok h
 obtain ⟨ov2, H2, h3, h4, h⟩ := yS h1 h
 obtain ⟨ov3, H3, h5, h6, h⟩ := qoy h3 h
 refine ⟨ov3, H3, h5, ?_, h⟩
 unfold yP
 rw [h2, h4]
 exact h6
abbrev YE (β : Type) := Ex → Ov → AH → Option β
noncomputable def qiL (n k : Nat) (ts : Option (List Tmp)) (ls : List (Tmp × Nat)) (body : Ov → AH → YE β → Option β) : Nat → Ov → AH → YE β → Option β
 | 0, _, _, _ => none
 | m + 1, ov, H, K => body ov H fun e ov' H' =>
  match e with
  | .normal => qlN n k ts ls ov' H' fun ov2 H2 => qiL n k ts ls body m ov2 H2 K
  | e => K e ov' H'
noncomputable def qnb (cfg : Cfg) (cf : Orac) (f : Nat) (rd : Option Nat) (n bs : Nat) (g : Operand) (ps : Array Tmp) (assign body : Code) (ov : Ov) (H : AH) (K : YE β) : Option β :=
 gL gW (den n ov) fun fr =>
 match zl cfg cf f rd bs g ps assign body fr H with
 | none => none
 | some q => gS (spGo 0 q.2.1) fun ov' => gL gP ov' fun ov' => gH q.2.2 fun H' => cond (qsy q.2.1.length n) (K q.1 ov' H') none
noncomputable def yC (cfg : Cfg) (cf : Orac) (fs : List Fact) (m f : Nat) (rd : Option Nat) (n bs : Nat) : Code → Ov → AH → YE β → Option β
 | .skip, ov, H, K => K .normal ov H
 | .label _, ov, H, K => K .normal ov H
 | .region id ops draw, ov, H, K =>
  match draw with
  | true => cond (qba ops) (gS (H ++ qsG (places cfg ops.toList) .res) fun H1 => qfu cfg cf fs f id ops n 0 H.length ops.toList ov H1 fun fps ov' H' => cond (qa9 (ancs [] ops.toList) 0 fps) (K .normal ov' H') none) none
  | false => yOps cfg cf fs f id ops n 0 ops.toList ov H fun ov' H' => K .normal ov' H'
 | .seq a b, ov, H, K => yC cfg cf fs m f rd n bs a ov H fun e ov' H' =>
  match e with
  | .normal => qfr n (cfg.cut f (qj b)) ov' fun ov2 => yC cfg cf fs m f rd n bs b ov2 H' K
  | e => K e ov' H'
 | .cond c a b, ov, H, K =>
  match opdO ov c with
  | .bool t => (match t with | true => yC cfg cf fs m f rd n bs a ov H K | false => yC cfg cf fs m f rd n bs b ov H K)
  | _ => none
 | .block id a, ov, H, K => yC cfg cf fs m f rd n bs a ov H fun e ov' H' =>
  match e with
  | .exit id' => cond (qsy id' id) (K .normal ov' H') (K (.exit id') ov' H')
  | e => K e ov' H'
 | .loop a, ov, H, K => qlN n bs (cfg.keepIn f (qj a)) (cfg.lift f (qj a)) ov H fun ov H =>
   qiL n bs (cfg.keepIn f (qj a)) (cfg.lift f (qj a)) (yC cfg cf fs m f rd n bs a) m ov H fun e ov H => qfr n (cfg.keepOut f (qj a)) ov fun ov => K e ov H
 | .scope a, ov, H, K => yC cfg cf fs m f rd n bs a ov H fun e ov' H' =>
  match e with
  | .goto _ => none
  | e => K e ov' H'
 | .exit id, ov, H, K => K (.exit id) ov H
 | .goto _, _, _, _ => none
 | .ret, ov, H, K => K .ret ov H
 | .rangeFunc g ps assign body, ov, H, K => qau n (cfg.lift f (qj body)) ov H fun ov H => qnb cfg cf f rd n bs g ps assign body ov H K
 | .refuse _, _, _, _ => none
theorem qfs {n k : Nat} {ts : Option (List Tmp)} {ls : List (Tmp × Nat)} {body : Ov → AH → YE β → Option β} {den' : Den} {r : β}
  (hb : ∀ {ov H K}, OvOk n ov → body ov H K = some r → ∃ e ov' H', OvOk n ov' ∧ den' (den n ov) H = some (e, den n ov', H') ∧ K e ov' H' = some r) :
  ∀ (m : Nat) {ov : Ov} {H : AH} {K : YE β}, OvOk n ov → qiL n k ts ls body m ov H K = some r → ∃ e ov' H', OvOk n ov' ∧ ye k ts ls den' m (den n ov, H) = some (e, den n ov', H') ∧ K e ov' H' = some r
 | 0, ov, H, K, _, h => by cases h
 | m + 1, ov, H, K, hok, h => by
  rw [qiL] at h
  obtain ⟨e, ov1, H1, h1, h2, h3⟩ := hb hok h
  rw [ye]
  simp only [h2, qsv]
  cases e with
  | normal =>
   simp only at h3 ⊢
   obtain ⟨ov2, H2, h4, h5, h6⟩ := qft h1 h3
   rw [h5]
   exact qfs hb m h4 h6
  | exit id => exact ⟨_, ov1, H1, h1, rfl, h3⟩
  | goto l => exact ⟨_, ov1, H1, h1, rfl, h3⟩
  | ret => exact ⟨_, ov1, H1, h1, rfl, h3⟩
theorem qg8 {cfg : Cfg} {cf : Orac} (hcf : Le cf (EV cfg)) {fs : List Fact} (hfs : vo cfg fs) {m f : Nat} {rd : Option Nat} {n bs : Nat} {r : β} : ∀ (c : Code) {ov : Ov} {H : AH} {K : YE β}, OvOk n ov → yC cfg cf fs m f rd n bs c ov H K = some r →
  ∃ e ov' H', OvOk n ov' ∧ evC cfg (EV cfg) f rd bs c (den n ov) H = some (e, den n ov', H') ∧ K e ov' H' = some r := by
 intro c
 induction c with
 | skip => intro ov H K hok h; exact ⟨_, ov, H, hok, by simp only [evC], h⟩
 | label l => intro ov H K hok h; exact ⟨_, ov, H, hok, by simp only [evC], h⟩
 | exit id => intro ov H K hok h; exact ⟨_, ov, H, hok, by simp only [evC], h⟩
 | ret => intro ov H K hok h; exact ⟨_, ov, H, hok, by simp only [evC], h⟩
 | goto l => intro ov H K hok h; cases h
 | refuse s => intro ov H K hok h; cases h
 | region id ops draw =>
  intro ov H K hok h
  simp only [yC] at h
  simp only [evC]
  cases draw with
  | true =>
   simp only at h
   obtain ⟨h1, h⟩ := qd h
   rw [xR] at h
   obtain ⟨fps, ov', H', h2, h3, h⟩ := qb9 hcf hfs hok h
   obtain ⟨h4, h⟩ := qd h
   exact ⟨_, ov', H', h2, by simp only [if_true, h1, h3, qsv, h4], h⟩
  | false =>
   simp only at h
   obtain ⟨ov', H', h2, h3, h⟩ := qcR hcf hfs hok h
   exact ⟨_, ov', H', h2, by simp only [qsx, if_false, h3, qsB], h⟩
 | seq x y ihx ihy =>
  intro ov H K hok h
  simp only [yC] at h
  simp only [evC]
  obtain ⟨e, ov1, H1, h1, h2, h⟩ := ihx hok h
  rw [h2]
  simp only [qsv]
  cases e with
  | normal =>
   simp only at h ⊢
   obtain ⟨ov2, h3, h4, h⟩ := qb8 h1 h
   rw [h4]
   exact ihy h3 h
  | exit id => exact ⟨_, ov1, H1, h1, rfl, h⟩
  | goto l => exact ⟨_, ov1, H1, h1, rfl, h⟩
  | ret => exact ⟨_, ov1, H1, h1, rfl, h⟩
 | cond c x y ihx ihy =>
  intro ov H K hok h
  simp only [yC] at h
  simp only [evC, qbT hok]
  split at h
  ·rename_i t ht
   rw [ht]
   cases t with
   | true => exact ihx hok h
   | false => exact ihy hok h
  ·cases h
 | block id x ih =>
  intro ov H K hok h
  simp only [yC] at h
  simp only [evC]
  obtain ⟨e, ov1, H1, h1, h2, h⟩ := ih hok h
  rw [h2]
  simp only [qsv]
  cases e with
  | normal => exact ⟨_, ov1, H1, h1, rfl, h⟩
  | exit id' =>
   simp only at h ⊢
   cases hb : qsy id' id with
   | true => rw [hb] at h; exact ⟨_, ov1, H1, h1, by simp, h⟩
   | false => rw [hb] at h; exact ⟨_, ov1, H1, h1, by simp, h⟩
  | goto l => exact ⟨_, ov1, H1, h1, rfl, h⟩
  | ret => exact ⟨_, ov1, H1, h1, rfl, h⟩
 | loop x ih =>
  intro ov H K hok h
  simp only [yC] at h
  simp only [evC]
  obtain ⟨ov1, H1, h1, h2, h⟩ := qft hok h
  rw [h2]
  obtain ⟨e, ov2, H2, h3, h4, h⟩ := qfs (den' := evC cfg (EV cfg) f rd bs x) (fun hok h => ih hok h) m h1 h
  obtain ⟨ov3, h5, h6, h⟩ := qb8 h3 h
  rw [qej h4]
  exact ⟨e, ov3, H2, h5, by simp only [qsB, h6], h⟩
 | scope x ih =>
  intro ov H K hok h
  simp only [yC] at h
  simp only [evC]
  obtain ⟨e, ov1, H1, h1, h2, h⟩ := ih hok h
  rw [h2]
  simp only [qsv]
  cases e with
  | goto l => cases h
  | normal => exact ⟨_, ov1, H1, h1, rfl, h⟩
  | exit id => exact ⟨_, ov1, H1, h1, rfl, h⟩
  | ret => exact ⟨_, ov1, H1, h1, rfl, h⟩
 | rangeFunc g ps assign body =>
  intro ov H K hok h
  simp only [yC] at h
  simp only [evC]
  obtain ⟨ov1, H1, h1, h2, h⟩ := yS hok h
  rw [h2]
  simp only
  unfold qnb at h
  rw [yD qgC] at h
  split at h
  ·cases h
  ·rename_i q hq
   have hq : zl cfg (EV cfg) f rd bs g ps assign body (den n ov1) H1 = some q := by
    unfold zl at hq ⊢
    split at hq
    ·rename_i hl
     rw [if_pos hl]
     split at hq
     ·split at hq
      ·cases hq
      ·rename_i hx
       rw [if_neg hx]
       obtain ⟨q2, hq2, hq⟩ := qsj.1 hq
       rw [hcf _ _ _ _ hq2]
       exact hq
     ·cases hq
    ·cases hq
   rw [xR, yD qpA, qef] at h
   obtain ⟨hl, h⟩ := qd h
   have hl := qsn hl
   have hd := qj3 q.2.1
   rw [hl] at hd
   refine ⟨q.1, _, q.2.2, ?_, ?_, h⟩
   ·exact qbN _ _ _ (by omega)
   ·rw [hq, hd]
noncomputable def resO (rs : List ResultVar) (ty : TypeId → Option TI) (ov : Ov) (H : AH) : Option (List AV) :=
 match rs with
 | [] => some []
 | .tmp t :: l => (resO l ty ov H).map fun vs => vG t ov :: vs
 | .cell a t :: l =>
  match ty t with
  | some ti => (yi ti.d.agg ti.sz H (vG a ov)).bind fun v => (resO l ty ov H).map fun vs => v :: vs
  | none => none
theorem qhl {n : Nat} {ov : Ov} (hok : OvOk n ov) (ty : TypeId → Option TI) (H : AH) : ∀ rs : List ResultVar, vM rs ty (den n ov) H = resO rs ty ov H
 | [] => rfl
 | .tmp t :: l => by
  have : (den n ov).getD t .junk = vG t ov := congrFun (qbT hok) (.tmp t)
  simp only [vM, resO, qhl hok ty H l, this]
 | .cell a t :: l => by
  have : (den n ov).getD a .junk = vG a ov := congrFun (qbT hok) (.tmp a)
  simp only [vM, resO, qhl hok ty H l, this]
  cases ty t <;> rfl
noncomputable def yEnd (cfg : Cfg) (f n : Nat) (rs : List ResultVar) : YE (AV × AH) := fun e ov H =>
 match e with
 | .normal | .ret => qau n (cfg.lift f 0) ov H fun ov H => (match resO rs cfg.ty ov H with | some vs => gA (xX vs) fun v => some (v, H) | none => none)
 | _ => none
def qcD : Nat → List AV → Ov
 | _, [] => []
 | i, a :: l => (i, a) :: qcD (i + 1) l
theorem qfk : ∀ (l : List AV) (i n : Nat), i + l.length ≤ n → OvOk n (qcD i l)
 | [], i, n, _ => fun p hp => by cases hp
 | a :: l, i, n, h => by
  simp only [List.length_cons] at h
  intro p hp
  rcases qsI.1 hp with rfl | hp
  ·show i < n; omega
  ·exact qfk l (i + 1) n (by omega) p hp
theorem qia : ∀ (l : List AV) (i t : Nat), vG t (qcD i l) = if i ≤ t then (l[t - i]?).getD .junk else .junk
 | [], i, t => by simp [qcD, qdj]
 | a :: l, i, t => by
  rw [qcD, zr, qia l (i + 1) t]
  by_cases e2 : i = t
  ·subst e2; simp
  ·have h1 : qsy i t = false := by rw [← Bool.not_eq_true]; intro h'; exact e2 (qsn h')
   simp only [h1, cond_false]
   by_cases h3 : i + 1 ≤ t
   ·have h4 : t - i = (t - (i + 1)) + 1 := by omega
    rw [if_pos h3, if_pos (by omega), h4, List.getElem?_cons_succ]
   ·rw [if_neg h3, if_neg (by omega)]
theorem qpd {l : List AV} {n : Nat} (h : l.length ≤ n) : den n (qcD 0 l) = l ++ qsG (n - l.length) .junk := by
 refine qhy (qfk l 0 n (by omega)) (by simp; omega) fun t ht => ?_
 rw [qia, if_pos (Nat.zero_le _), Nat.sub_zero]
 by_cases hl : t < l.length
 ·rw [qsq hl, qsh hl]; rfl
 ·rw [qst (by omega), List.getElem?_replicate, if_pos (by omega), List.getElem?_eq_none (by omega)]; rfl
noncomputable def yY2 (id : Nat) : YE (AV × AH) := fun e _ H =>
 match H[id]? with
 | some (.loop f' fr' ps' assign' body' _ _) =>
  match e with
  | .normal => gS (H.set id (.loop f' fr' ps' assign' body' none .ready)) fun H' => some (.bool true, H')
  | .ret => gS (H.set id (.loop f' fr' ps' assign' body' (some .ret) .done)) fun H' => some (.bool false, H')
  | .exit x => gS (H.set id (.loop f' fr' ps' assign' body' (some (.exit x)) .done)) fun H' => some (.bool false, H')
  | .goto _ => none
 | _ => none
noncomputable def yF (cfg : Cfg) (look : Nat → Option Func) (fs : List Fact) (m : Nat) : Nat → Orac
 | 0, _, _, _ => none
 | d + 1, .f f, args, H =>
  match cfg.ext f with
  | some s => s args H
  | none =>
   if cfg.known f then
    match look f with
    | some fn =>
     match fn.body with
     | some c => cond (qsw args.length fn.ntmps) (fNat H.length fun bs => fNat fn.ntmps fun n => gS (qcD 0 args) fun ov => yC cfg (yF cfg look fs m d) fs m f none n bs c ov H (yEnd cfg f n fn.results.toList)) none
     | none => none
    | none => none
   else none
 | d + 1, .y id, args, H =>
  match H[id]? with
  | some (.loop f fr ps assign body _ .ready) =>
   cond (qsy args.length ps.length)
    (fNat H.length fun bs => fNat (xk fr ps args).length fun n => gS (spGo 0 (xk fr ps args)) fun ov => yC cfg (yF cfg look fs m d) fs m f (some id) n bs assign ov H fun e ov H =>
     match e with
     | .normal =>
      (match H[id]? with
      | some (.loop f' fr' ps' assign' body' pend' .ready) => gS (H.set id (.loop f' fr' ps' assign' body' pend' .busy)) fun H' => yC cfg (yF cfg look fs m d) fs m f (some id) n bs body ov H' (yY2 id)
      | _ => none)
     | _ => none) none
  | _ => none
theorem qlO (cfg : Cfg) {look : Nat → Option Func} (hl : ∀ f fn, look f = some fn → cfg.P.funcs[f]? = some fn) {fs : List Fact} (hfs : vo cfg fs) (m : Nat) : ∀ (d : Nat) (t : Tgt) (a : List AV) (H : AH) (r), yF cfg look fs m d t a H = some r → EV cfg t a H = some r
 | 0, _, _, _, _, h => by cases h
 | d + 1, t, a, H, r, h => by
  have ih := qlO cfg hl hfs m d
  refine qg6 ?_
  cases t with
  | f f =>
   simp only [yF] at h
   unfold vq
   split at h
   ·rename_i s hs
    simp only [hs]
    exact h
   ·rename_i hs
    simp only [hs]
    split at h
    ·rename_i hk
     rw [if_pos hk]
     split at h
     ·rename_i fn hf
      simp only [hl f fn hf]
      split at h
      ·rename_i c hb
       simp only [hb]
       obtain ⟨hle, h⟩ := qd h
       rw [qsF] at hle
       simp only [xy, xR] at h
       obtain ⟨e, ov', H', h1, h2, h3⟩ := qg8 ih hfs c (qfk a 0 fn.ntmps (by omega)) h
       rw [qpd hle] at h2
       rw [h2]
       simp only [qsv]
       unfold yEnd at h3
       have fin : ∀ (e : Ex), (e = .normal ∨ e = .ret) → (qau fn.ntmps (cfg.lift f 0) ov' H' fun ov H => (match resO fn.results.toList cfg.ty ov H with | some vs => gA (xX vs) fun v => some (v, H) | none => none)) = some r →
         qaa cfg fn.results.toList (e, qZ (cfg.lift f 0) (den fn.ntmps ov') H') = some r := by
        intro e he h3
        obtain ⟨ov2, H2, h4, h5, h6⟩ := yS h1 h3
        rw [h5]
        unfold qaa
        rcases he with rfl | rfl <;>
        ·simp only [qhl h4]
         split at h6
         ·rename_i vs hv
          rw [zW] at h6
          rw [hv]
          exact h6
         ·cases h6
       cases e with
       | normal => exact fin _ (.inl rfl) h3
       | ret => exact fin _ (.inr rfl) h3
       | exit x => cases h3
       | goto l => cases h3
      ·cases h
     ·cases h
    ·cases h
  | y id =>
   simp only [yF] at h
   unfold vq
   split at h
   ·rename_i f fr ps assign body p hlp
    simp only [hlp]
    obtain ⟨hlen, h⟩ := qd h
    rw [if_pos (qsn hlen)]
    simp only [xy, xR] at h
    obtain ⟨e, ov1, H1, h1, h2, h3⟩ := qg8 ih hfs assign (qbN _ 0 _ (by omega)) h
    rw [qj3] at h2
    rw [h2]
    simp only [qsv]
    cases e with
    | normal =>
     simp only at h3 ⊢
     split at h3
     ·rename_i f' fr' ps' assign' body' pend' hl1
      simp only [hl1]
      obtain ⟨e2, ov2, H2, h4, h5, h6⟩ := qg8 ih hfs body h1 h3
      rw [h5]
      simp only [qsv]
      unfold yY2 at h6
      split at h6
      ·rename_i hl2
       simp only [hl2]
       cases e2 with
       | normal => simp only [xR] at h6; exact h6
       | ret => simp only [xR] at h6; exact h6
       | exit x => simp only [xR] at h6; exact h6
       | goto l => cases h6
      ·cases h6
     ·cases h3
    | exit x => cases h3
    | goto l => cases h3
    | ret => cases h3
   ·cases h
theorem qqU {cfg : Cfg} {look : Nat → Option Func} (hl : ∀ f fn, look f = some fn → cfg.P.funcs[f]? = some fn) {fs : List Fact} (hfs : vo cfg fs) {f : Nat} {args : List AV} {v : AV} (m d : Nat)
  (h : (match yF cfg look fs m d (.f f) args [] with | some r => some r.1 | none => none) = some v) : EVs (EV cfg) f args = some v := by
 unfold EVs
 cases hx : yF cfg look fs m d (.f f) args [] with
 | none => rw [hx] at h; cases h
 | some r => rw [hx] at h; rw [qlO cfg hl hfs m d _ _ _ _ hx]; exact h
theorem qqV {cfg : Cfg} {look : Nat → Option Func} (hl : ∀ f fn, look f = some fn → cfg.P.funcs[f]? = some fn) {fs : List Fact} (hfs : vo cfg fs) {f : Nat} {args : List AV} {v : AV} (m d : Nat)
  (h : (match yF cfg look fs m d (.f f) args [] with | some r => gA (r.1.frz r.1.msIds r.2).fg some | none => none) = some v) : EVf (EV cfg) f args = some v := by
 unfold EVf
 cases hx : yF cfg look fs m d (.f f) args [] with
 | none => rw [hx] at h; cases h
 | some r => rw [hx] at h; rw [qlO cfg hl hfs m d _ _ _ _ hx]; simp only [zW] at h; exact h
def qgL : List AV → AH → Option (AV × AH)
 | [.str a, .str b], H => some (.int .i64 (if a == b then 0 else if Op.bytesLess a b then -1 else 1), H)
 | _, _ => none
end Go.Av
end
section
namespace Go.Proofs.YtjiecipfkjaooaaGreat
open Go.Av
def zr0 : List AV := [.int .u64 0, .int .u64 0, .int .u32 0, .int .u8 0, .int .u8 0, .int .u8 0, .int .u8 0, .nilF, .nilP, .int .i32 0, .int .i32 0]
def qiO : BT TI := .node 115 ⟨.struct [(0, 24), (4, 3), (5, 22), (6, 22), (7, 114), (8, 4)], 9, 144, [.int .i64 0, .int .i64 0, .str [], .nilS, .int .i64 0, .nilS, .nilS, .nilS, .bool false]⟩ (.node 59 ⟨.func, 1, 8, [.nilF]⟩ (.node 31 ⟨.func, 1, 8, [.nilF]⟩ (.node 17 ⟨.ptr 263, 1, 8, [.nilP]⟩ (.node 7 ⟨.struct [(0, 2), (1, 3), (2, 4), (3, 6)], 4, 24, [.int .i64 0, .int .i64 0, .bool false, .int .u8 0]⟩ (.node 4 ⟨.bool, 1, 1, [.bool false]⟩ (.node 2 ⟨.int .i64, 1, 8, [.int .i64 0]⟩ (.node 1 ⟨.func, 1, 8, [.nilF]⟩ .leaf .leaf) (.node 3 ⟨.int .i64, 1, 8, [.int .i64 0]⟩ .leaf .leaf)) (.node 6 ⟨.int .u8, 1, 1, [.int .u8 0]⟩ (.node 5 ⟨.int .u8, 1, 1, [.int .u8 0]⟩ .leaf .leaf) .leaf)) (.node 13 ⟨.struct [(0, 9), (1, 12)], 2, 24, [.str [], .int .u64 0]⟩ (.node 12 ⟨.int .u64, 1, 8, [.int .u64 0]⟩ (.node 9 ⟨.str, 1, 16, [.str []]⟩ .leaf .leaf) .leaf) (.node 16 ⟨.ptr 254, 1, 8, [.nilP]⟩ (.node 15 ⟨.ptr 251, 1, 8, [.nilP]⟩ .leaf .leaf) .leaf))) (.node 24 ⟨.struct [(0, 3), (1, 3), (2, 9), (3, 22)], 4, 56, [.int .i64 0, .int .i64 0, .str [], .nilS]⟩ (.node 21 ⟨.int .i32, 1, 4, [.int .i32 0]⟩ (.node 19 ⟨.struct [(0, 17)], 1, 8, [.nilP]⟩ (.node 18 ⟨.struct [(0, 17)], 1, 8, [.nilP]⟩ .leaf .leaf) (.node 20 ⟨.iface, 1, 16, [.nilI]⟩ .leaf .leaf)) (.node 23 ⟨.struct [(0, 3), (1, 3), (2, 9), (3, 22)], 4, 56, [.int .i64 0, .int .i64 0, .str [], .nilS]⟩ (.node 22 ⟨.slice 24, 1, 24, [.nilS]⟩ .leaf .leaf) .leaf)) (.node 27 ⟨.slice 36, 1, 24, [.nilS]⟩ (.node 26 ⟨.func, 1, 8, [.nilF]⟩ (.node 25 ⟨.func, 1, 8, [.nilF]⟩ .leaf .leaf) .leaf) (.node 30 ⟨.func, 1, 8, [.nilF]⟩ (.node 28 ⟨.int .i64, 1, 8, [.int .i64 0]⟩ .leaf .leaf) .leaf)))) (.node 45 ⟨.struct [(0, 3), (1, 22)], 2, 32, [.int .i64 0, .nilS]⟩ (.node 38 ⟨.func, 1, 8, [.nilF]⟩ (.node 35 ⟨.struct [(0, 24), (4, 22), (5, 22)], 6, 104, [.int .i64 0, .int .i64 0, .str [], .nilS, .nilS, .nilS]⟩ (.node 33 ⟨.func, 1, 8, [.nilF]⟩ (.node 32 ⟨.func, 1, 8, [.nilF]⟩ .leaf .leaf) (.node 34 ⟨.func, 1, 8, [.nilF]⟩ .leaf .leaf)) (.node 37 ⟨.func, 1, 8, [.nilF]⟩ (.node 36 ⟨.struct [(0, 24), (4, 22), (5, 22)], 6, 104, [.int .i64 0, .int .i64 0, .str [], .nilS, .nilS, .nilS]⟩ .leaf .leaf) .leaf)) (.node 41 ⟨.struct [(0, 4), (1, 22), (2, 39)], 3, 56, [.bool false, .nilS, .nilS]⟩ (.node 40 ⟨.struct [(0, 4), (1, 22), (2, 39)], 3, 56, [.bool false, .nilS, .nilS]⟩ (.node 39 ⟨.slice 46, 1, 24, [.nilS]⟩ .leaf .leaf) .leaf) (.node 44 ⟨.func, 1, 8, [.nilF]⟩ (.node 43 ⟨.func, 1, 8, [.nilF]⟩ .leaf .leaf) .leaf))) (.node 52 ⟨.slice 3, 1, 24, [.nilS]⟩ (.node 49 ⟨.func, 1, 8, [.nilF]⟩ (.node 47 ⟨.func, 1, 8, [.nilF]⟩ (.node 46 ⟨.struct [(0, 3), (1, 22)], 2, 32, [.int .i64 0, .nilS]⟩ .leaf .leaf) .leaf) (.node 51 ⟨.func, 1, 8, [.nilF]⟩ (.node 50 ⟨.func, 1, 8, [.nilF]⟩ .leaf .leaf) .leaf)) (.node 56 ⟨.func, 1, 8, [.nilF]⟩ (.node 54 ⟨.slice 63, 1, 24, [.nilS]⟩ (.node 53 ⟨.func, 1, 8, [.nilF]⟩ .leaf .leaf) .leaf) (.node 58 ⟨.func, 1, 8, [.nilF]⟩ (.node 57 ⟨.func, 1, 8, [.nilF]⟩ .leaf .leaf) .leaf))))) (.node 88 ⟨.struct [(0, 4), (1, 4), (2, 4), (3, 24), (7, 46)], 9, 96, [.bool false, .bool false, .bool false, .int .i64 0, .int .i64 0, .str [], .nilS, .int .i64 0, .nilS]⟩ (.node 75 ⟨.func, 1, 8, [.nilF]⟩ (.node 67 ⟨.func, 1, 8, [.nilF]⟩ (.node 63 ⟨.struct [(0, 3), (1, 3), (2, 3), (3, 24)], 7, 80, [.int .i64 0, .int .i64 0, .int .i64 0, .int .i64 0, .int .i64 0, .str [], .nilS]⟩ (.node 61 ⟨.func, 1, 8, [.nilF]⟩ (.node 60 ⟨.func, 1, 8, [.nilF]⟩ .leaf .leaf) (.node 62 ⟨.struct [(0, 3), (1, 3), (2, 3), (3, 24)], 7, 80, [.int .i64 0, .int .i64 0, .int .i64 0, .int .i64 0, .int .i64 0, .str [], .nilS]⟩ .leaf .leaf)) (.node 66 ⟨.func, 1, 8, [.nilF]⟩ (.node 64 ⟨.func, 1, 8, [.nilF]⟩ .leaf .leaf) .leaf)) (.node 72 ⟨.func, 1, 8, [.nilF]⟩ (.node 70 ⟨.func, 1, 8, [.nilF]⟩ (.node 69 ⟨.func, 1, 8, [.nilF]⟩ .leaf .leaf) .leaf) (.node 74 ⟨.func, 1, 8, [.nilF]⟩ (.node 73 ⟨.func, 1, 8, [.nilF]⟩ .leaf .leaf) .leaf))) (.node 82 ⟨.func, 1, 8, [.nilF]⟩ (.node 79 ⟨.func, 1, 8, [.nilF]⟩ (.node 77 ⟨.func, 1, 8, [.nilF]⟩ (.node 76 ⟨.func, 1, 8, [.nilF]⟩ .leaf .leaf) (.node 78 ⟨.func, 1, 8, [.nilF]⟩ .leaf .leaf)) (.node 81 ⟨.func, 1, 8, [.nilF]⟩ (.node 80 ⟨.func, 1, 8, [.nilF]⟩ .leaf .leaf) .leaf)) (.node 85 ⟨.func, 1, 8, [.nilF]⟩ (.node 84 ⟨.func, 1, 8, [.nilF]⟩ (.node 83 ⟨.func, 1, 8, [.nilF]⟩ .leaf .leaf) .leaf) (.node 87 ⟨.func, 1, 8, [.nilF]⟩ (.node 86 ⟨.func, 1, 8, [.nilF]⟩ .leaf .leaf) .leaf)))) (.node 103 ⟨.func, 1, 8, [.nilF]⟩ (.node 97 ⟨.func, 1, 8, [.nilF]⟩ (.node 93 ⟨.func, 1, 8, [.nilF]⟩ (.node 90 ⟨.func, 1, 8, [.nilF]⟩ (.node 89 ⟨.struct [(0, 4), (1, 4), (2, 4), (3, 24), (7, 46)], 9, 96, [.bool false, .bool false, .bool false, .int .i64 0, .int .i64 0, .str [], .nilS, .int .i64 0, .nilS]⟩ .leaf .leaf) (.node 91 ⟨.func, 1, 8, [.nilF]⟩ .leaf .leaf)) (.node 96 ⟨.func, 1, 8, [.nilF]⟩ (.node 94 ⟨.func, 1, 8, [.nilF]⟩ .leaf .leaf) .leaf)) (.node 100 ⟨.struct [(0, 54)], 1, 24, [.nilS]⟩ (.node 99 ⟨.struct [(0, 54)], 1, 24, [.nilS]⟩ (.node 98 ⟨.ptr 100, 1, 8, [.nilP]⟩ .leaf .leaf) .leaf) (.node 102 ⟨.func, 1, 8, [.nilF]⟩ (.node 101 ⟨.func, 1, 8, [.nilF]⟩ .leaf .leaf) .leaf))) (.node 109 ⟨.struct [(0, 24), (4, 3), (5, 22), (6, 22), (7, 107), (8, 4)], 9, 128, [.int .i64 0, .int .i64 0, .str [], .nilS, .int .i64 0, .nilS, .nilS, .nilM, .bool false]⟩ (.node 106 ⟨.ptr 109, 1, 8, [.nilP]⟩ (.node 105 ⟨.func, 1, 8, [.nilF]⟩ (.node 104 ⟨.func, 1, 8, [.nilF]⟩ .leaf .leaf) .leaf) (.node 108 ⟨.struct [(0, 24), (4, 3), (5, 22), (6, 22), (7, 107), (8, 4)], 9, 128, [.int .i64 0, .int .i64 0, .str [], .nilS, .int .i64 0, .nilS, .nilS, .nilM, .bool false]⟩ (.node 107 ⟨.map 3 24, 1, 8, [.nilM]⟩ .leaf .leaf) .leaf)) (.node 112 ⟨.func, 1, 8, [.nilF]⟩ (.node 111 ⟨.func, 1, 8, [.nilF]⟩ (.node 110 ⟨.int .i64, 1, 8, [.int .i64 0]⟩ .leaf .leaf) .leaf) (.node 114 ⟨.slice 196, 1, 24, [.nilS]⟩ (.node 113 ⟨.ptr 116, 1, 8, [.nilP]⟩ .leaf .leaf) .leaf)))))) (.node 184 ⟨.func, 1, 8, [.nilF]⟩ (.node 144 ⟨.struct [(0, 24), (4, 24)], 8, 112, [.int .i64 0, .int .i64 0, .str [], .nilS, .int .i64 0, .int .i64 0, .str [], .nilS]⟩ (.node 130 ⟨.func, 1, 8, [.nilF]⟩ (.node 122 ⟨.func, 1, 8, [.nilF]⟩ (.node 119 ⟨.func, 1, 8, [.nilF]⟩ (.node 117 ⟨.func, 1, 8, [.nilF]⟩ (.node 116 ⟨.struct [(0, 24), (4, 3), (5, 22), (6, 22), (7, 114), (8, 4)], 9, 144, [.int .i64 0, .int .i64 0, .str [], .nilS, .int .i64 0, .nilS, .nilS, .nilS, .bool false]⟩ .leaf .leaf) (.node 118 ⟨.func, 1, 8, [.nilF]⟩ .leaf .leaf)) (.node 121 ⟨.func, 1, 8, [.nilF]⟩ (.node 120 ⟨.func, 1, 8, [.nilF]⟩ .leaf .leaf) .leaf)) (.node 127 ⟨.func, 1, 8, [.nilF]⟩ (.node 125 ⟨.func, 1, 8, [.nilF]⟩ (.node 123 ⟨.ptr 4, 1, 8, [.nilP]⟩ .leaf .leaf) .leaf) (.node 129 ⟨.func, 1, 8, [.nilF]⟩ (.node 128 ⟨.func, 1, 8, [.nilF]⟩ .leaf .leaf) .leaf))) (.node 138 ⟨.func, 1, 8, [.nilF]⟩ (.node 135 ⟨.func, 1, 8, [.nilF]⟩ (.node 133 ⟨.func, 1, 8, [.nilF]⟩ (.node 132 ⟨.func, 1, 8, [.nilF]⟩ .leaf .leaf) (.node 134 ⟨.func, 1, 8, [.nilF]⟩ .leaf .leaf)) (.node 137 ⟨.func, 1, 8, [.nilF]⟩ (.node 136 ⟨.func, 1, 8, [.nilF]⟩ .leaf .leaf) .leaf)) (.node 141 ⟨.func, 1, 8, [.nilF]⟩ (.node 140 ⟨.func, 1, 8, [.nilF]⟩ (.node 139 ⟨.int .u64, 1, 8, [.int .u64 0]⟩ .leaf .leaf) .leaf) (.node 143 ⟨.func, 1, 8, [.nilF]⟩ (.node 142 ⟨.func, 1, 8, [.nilF]⟩ .leaf .leaf) .leaf)))) (.node 167 ⟨.func, 1, 8, [.nilF]⟩ (.node 152 ⟨.func, 1, 8, [.nilF]⟩ (.node 148 ⟨.func, 1, 8, [.nilF]⟩ (.node 146 ⟨.slice 145, 1, 24, [.nilS]⟩ (.node 145 ⟨.struct [(0, 24), (4, 24)], 8, 112, [.int .i64 0, .int .i64 0, .str [], .nilS, .int .i64 0, .int .i64 0, .str [], .nilS]⟩ .leaf .leaf) (.node 147 ⟨.slice 5, 1, 24, [.nilS]⟩ .leaf .leaf)) (.node 150 ⟨.func, 1, 8, [.nilF]⟩ (.node 149 ⟨.func, 1, 8, [.nilF]⟩ .leaf .leaf) .leaf)) (.node 164 ⟨.array 2 22, 2, 48, [.nilS, .nilS]⟩ (.node 161 ⟨.func, 1, 8, [.nilF]⟩ (.node 160 ⟨.func, 1, 8, [.nilF]⟩ .leaf .leaf) .leaf) (.node 166 ⟨.func, 1, 8, [.nilF]⟩ (.node 165 ⟨.func, 1, 8, [.nilF]⟩ .leaf .leaf) .leaf))) (.node 174 ⟨.func, 1, 8, [.nilF]⟩ (.node 171 ⟨.func, 1, 8, [.nilF]⟩ (.node 169 ⟨.int .i64, 1, 8, [.int .i64 0]⟩ (.node 168 ⟨.func, 1, 8, [.nilF]⟩ .leaf .leaf) .leaf) (.node 173 ⟨.func, 1, 8, [.nilF]⟩ (.node 172 ⟨.func, 1, 8, [.nilF]⟩ .leaf .leaf) .leaf)) (.node 181 ⟨.func, 1, 8, [.nilF]⟩ (.node 178 ⟨.int .u64, 1, 8, [.int .u64 0]⟩ (.node 176 ⟨.int .u32, 1, 4, [.int .u32 0]⟩ .leaf .leaf) .leaf) (.node 183 ⟨.struct [(0, 24), (4, 114), (5, 3)], 6, 88, [.int .i64 0, .int .i64 0, .str [], .nilS, .nilS, .int .i64 0]⟩ (.node 182 ⟨.struct [(0, 24), (4, 114), (5, 3)], 6, 88, [.int .i64 0, .int .i64 0, .str [], .nilS, .nilS, .int .i64 0]⟩ .leaf .leaf) .leaf))))) (.node 232 ⟨.func, 1, 8, [.nilF]⟩ (.node 204 ⟨.func, 1, 8, [.nilF]⟩ (.node 197 ⟨.func, 1, 8, [.nilF]⟩ (.node 193 ⟨.func, 1, 8, [.nilF]⟩ (.node 188 ⟨.func, 1, 8, [.nilF]⟩ (.node 187 ⟨.func, 1, 8, [.nilF]⟩ .leaf .leaf) (.node 189 ⟨.func, 1, 8, [.nilF]⟩ .leaf .leaf)) (.node 196 ⟨.struct [(0, 3), (1, 24)], 5, 64, [.int .i64 0, .int .i64 0, .int .i64 0, .str [], .nilS]⟩ (.node 195 ⟨.struct [(0, 3), (1, 24)], 5, 64, [.int .i64 0, .int .i64 0, .int .i64 0, .str [], .nilS]⟩ .leaf .leaf) .leaf)) (.node 201 ⟨.struct [(0, 178), (1, 178)], 2, 16, [.int .u64 0, .int .u64 0]⟩ (.node 200 ⟨.func, 1, 8, [.nilF]⟩ (.node 199 ⟨.func, 1, 8, [.nilF]⟩ .leaf .leaf) .leaf) (.node 203 ⟨.func, 1, 8, [.nilF]⟩ (.node 202 ⟨.struct [(0, 178), (1, 178)], 2, 16, [.int .u64 0, .int .u64 0]⟩ .leaf .leaf) .leaf))) (.node 221 ⟨.func, 1, 8, [.nilF]⟩ (.node 218 ⟨.struct [(0, 183), (6, 4)], 7, 96, [.int .i64 0, .int .i64 0, .str [], .nilS, .nilS, .int .i64 0, .bool false]⟩ (.node 206 ⟨.int .u64, 1, 8, [.int .u64 0]⟩ (.node 205 ⟨.func, 1, 8, [.nilF]⟩ .leaf .leaf) (.node 217 ⟨.ptr 219, 1, 8, [.nilP]⟩ .leaf .leaf)) (.node 220 ⟨.func, 1, 8, [.nilF]⟩ (.node 219 ⟨.struct [(0, 183), (6, 4)], 7, 96, [.int .i64 0, .int .i64 0, .str [], .nilS, .nilS, .int .i64 0, .bool false]⟩ .leaf .leaf) .leaf)) (.node 227 ⟨.ptr 237, 1, 8, [.nilP]⟩ (.node 223 ⟨.ptr 202, 1, 8, [.nilP]⟩ (.node 222 ⟨.func, 1, 8, [.nilF]⟩ .leaf .leaf) .leaf) (.node 231 ⟨.func, 1, 8, [.nilF]⟩ (.node 230 ⟨.func, 1, 8, [.nilF]⟩ .leaf .leaf) .leaf)))) (.node 249 ⟨.func, 1, 8, [.nilF]⟩ (.node 239 ⟨.func, 1, 8, [.nilF]⟩ (.node 236 ⟨.struct [(0, 202), (2, 235)], 402, 5616, [.int .u64 0, .int .u64 0, .int .i64 0, .int .i64 0, .str [], .nilS, .int .i64 0, .int .i64 0, .str [], .nilS, .int .i64 0, .int .i64 0, .str [], .nilS, .int .i64 0, .int .i64 0, .str [], .nilS, .int .i64 0, .int .i64 0, .str [], .nilS, .int .i64 0, .int .i64 0, .str [], .nilS, .int .i64 0, .int .i64 0, .str [], .nilS, .int .i64 0, .int .i64 0, .str [], .nilS, .int .i64 0, .int .i64 0, .str [], .nilS, .int .i64 0, .int .i64 0, .str [], .nilS, .int .i64 0, .int .i64 0, .str [], .nilS, .int .i64 0, .int .i64 0, .str [], .nilS, .int .i64 0, .int .i64 0, .str [], .nilS, .int .i64 0, .int .i64 0, .str [], .nilS, .int .i64 0, .int .i64 0, .str [], .nilS, .int .i64 0, .int .i64 0, .str [], .nilS, .int .i64 0, .int .i64 0, .str [], .nilS, .int .i64 0, .int .i64 0, .str [], .nilS, .int .i64 0, .int .i64 0, .str [], .nilS, .int .i64 0, .int .i64 0, .str [], .nilS, .int .i64 0, .int .i64 0, .str [], .nilS, .int .i64 0, .int .i64 0, .str [], .nilS, .int .i64 0, .int .i64 0, .str [], .nilS, .int .i64 0, .int .i64 0, .str [], .nilS, .int .i64 0, .int .i64 0, .str [], .nilS, .int .i64 0, .int .i64 0, .str [], .nilS, .int .i64 0, .int .i64 0, .str [], .nilS, .int .i64 0, .int .i64 0, .str [], .nilS, .int .i64 0, .int .i64 0, .str [], .nilS, .int .i64 0, .int .i64 0, .str [], .nilS, .int .i64 0, .int .i64 0, .str [], .nilS, .int .i64 0, .int .i64 0, .str [], .nilS, .int .i64 0, .int .i64 0, .str [], .nilS, .int .i64 0, .int .i64 0, .str [], .nilS, .int .i64 0, .int .i64 0, .str [], .nilS, .int .i64 0, .int .i64 0, .str [], .nilS, .int .i64 0, .int .i64 0, .str [], .nilS, .int .i64 0, .int .i64 0, .str [], .nilS, .int .i64 0, .int .i64 0, .str [], .nilS, .int .i64 0, .int .i64 0, .str [], .nilS, .int .i64 0, .int .i64 0, .str [], .nilS, .int .i64 0, .int .i64 0, .str [], .nilS, .int .i64 0, .int .i64 0, .str [], .nilS, .int .i64 0, .int .i64 0, .str [], .nilS, .int .i64 0, .int .i64 0, .str [], .nilS, .int .i64 0, .int .i64 0, .str [], .nilS, .int .i64 0, .int .i64 0, .str [], .nilS, .int .i64 0, .int .i64 0, .str [], .nilS, .int .i64 0, .int .i64 0, .str [], .nilS, .int .i64 0, .int .i64 0, .str [], .nilS, .int .i64 0, .int .i64 0, .str [], .nilS, .int .i64 0, .int .i64 0, .str [], .nilS, .int .i64 0, .int .i64 0, .str [], .nilS, .int .i64 0, .int .i64 0, .str [], .nilS, .int .i64 0, .int .i64 0, .str [], .nilS, .int .i64 0, .int .i64 0, .str [], .nilS, .int .i64 0, .int .i64 0, .str [], .nilS, .int .i64 0, .int .i64 0, .str [], .nilS, .int .i64 0, .int .i64 0, .str [], .nilS, .int .i64 0, .int .i64 0, .str [], .nilS, .int .i64 0, .int .i64 0, .str [], .nilS, .int .i64 0, .int .i64 0, .str [], .nilS, .int .i64 0, .int .i64 0, .str [], .nilS, .int .i64 0, .int .i64 0, .str [], .nilS, .int .i64 0, .int .i64 0, .str [], .nilS, .int .i64 0, .int .i64 0, .str [], .nilS, .int .i64 0, .int .i64 0, .str [], .nilS, .int .i64 0, .int .i64 0, .str [], .nilS, .int .i64 0, .int .i64 0, .str [], .nilS, .int .i64 0, .int .i64 0, .str [], .nilS, .int .i64 0, .int .i64 0, .str [], .nilS, .int .i64 0, .int .i64 0, .str [], .nilS, .int .i64 0, .int .i64 0, .str [], .nilS, .int .i64 0, .int .i64 0, .str [], .nilS, .int .i64 0, .int .i64 0, .str [], .nilS, .int .i64 0, .int .i64 0, .str [], .nilS, .int .i64 0, .int .i64 0, .str [], .nilS, .int .i64 0, .int .i64 0, .str [], .nilS, .int .i64 0, .int .i64 0, .str [], .nilS, .int .i64 0, .int .i64 0, .str [], .nilS, .int .i64 0, .int .i64 0, .str [], .nilS, .int .i64 0, .int .i64 0, .str [], .nilS, .int .i64 0, .int .i64 0, .str [], .nilS, .int .i64 0, .int .i64 0, .str [], .nilS, .int .i64 0, .int .i64 0, .str [], .nilS, .int .i64 0, .int .i64 0, .str [], .nilS, .int .i64 0, .int .i64 0, .str [], .nilS, .int .i64 0, .int .i64 0, .str [], .nilS, .int .i64 0, .int .i64 0, .str [], .nilS, .int .i64 0, .int .i64 0, .str [], .nilS, .int .i64 0, .int .i64 0, .str [], .nilS, .int .i64 0, .int .i64 0, .str [], .nilS, .int .i64 0, .int .i64 0, .str [], .nilS, .int .i64 0, .int .i64 0, .str [], .nilS, .int .i64 0, .int .i64 0, .str [], .nilS, .int .i64 0, .int .i64 0, .str [], .nilS, .int .i64 0, .int .i64 0, .str [], .nilS, .int .i64 0, .int .i64 0, .str [], .nilS, .int .i64 0, .int .i64 0, .str [], .nilS, .int .i64 0, .int .i64 0, .str [], .nilS]⟩ (.node 234 ⟨.func, 1, 8, [.nilF]⟩ (.node 233 ⟨.func, 1, 8, [.nilF]⟩ .leaf .leaf) (.node 235 ⟨.array 100 24, 400, 5600, [.int .i64 0, .int .i64 0, .str [], .nilS, .int .i64 0, .int .i64 0, .str [], .nilS, .int .i64 0, .int .i64 0, .str [], .nilS, .int .i64 0, .int .i64 0, .str [], .nilS, .int .i64 0, .int .i64 0, .str [], .nilS, .int .i64 0, .int .i64 0, .str [], .nilS, .int .i64 0, .int .i64 0, .str [], .nilS, .int .i64 0, .int .i64 0, .str [], .nilS, .int .i64 0, .int .i64 0, .str [], .nilS, .int .i64 0, .int .i64 0, .str [], .nilS, .int .i64 0, .int .i64 0, .str [], .nilS, .int .i64 0, .int .i64 0, .str [], .nilS, .int .i64 0, .int .i64 0, .str [], .nilS, .int .i64 0, .int .i64 0, .str [], .nilS, .int .i64 0, .int .i64 0, .str [], .nilS, .int .i64 0, .int .i64 0, .str [], .nilS, .int .i64 0, .int .i64 0, .str [], .nilS, .int .i64 0, .int .i64 0, .str [], .nilS, .int .i64 0, .int .i64 0, .str [], .nilS, .int .i64 0, .int .i64 0, .str [], .nilS, .int .i64 0, .int .i64 0, .str [], .nilS, .int .i64 0, .int .i64 0, .str [], .nilS, .int .i64 0, .int .i64 0, .str [], .nilS, .int .i64 0, .int .i64 0, .str [], .nilS, .int .i64 0, .int .i64 0, .str [], .nilS, .int .i64 0, .int .i64 0, .str [], .nilS, .int .i64 0, .int .i64 0, .str [], .nilS, .int .i64 0, .int .i64 0, .str [], .nilS, .int .i64 0, .int .i64 0, .str [], .nilS, .int .i64 0, .int .i64 0, .str [], .nilS, .int .i64 0, .int .i64 0, .str [], .nilS, .int .i64 0, .int .i64 0, .str [], .nilS, .int .i64 0, .int .i64 0, .str [], .nilS, .int .i64 0, .int .i64 0, .str [], .nilS, .int .i64 0, .int .i64 0, .str [], .nilS, .int .i64 0, .int .i64 0, .str [], .nilS, .int .i64 0, .int .i64 0, .str [], .nilS, .int .i64 0, .int .i64 0, .str [], .nilS, .int .i64 0, .int .i64 0, .str [], .nilS, .int .i64 0, .int .i64 0, .str [], .nilS, .int .i64 0, .int .i64 0, .str [], .nilS, .int .i64 0, .int .i64 0, .str [], .nilS, .int .i64 0, .int .i64 0, .str [], .nilS, .int .i64 0, .int .i64 0, .str [], .nilS, .int .i64 0, .int .i64 0, .str [], .nilS, .int .i64 0, .int .i64 0, .str [], .nilS, .int .i64 0, .int .i64 0, .str [], .nilS, .int .i64 0, .int .i64 0, .str [], .nilS, .int .i64 0, .int .i64 0, .str [], .nilS, .int .i64 0, .int .i64 0, .str [], .nilS, .int .i64 0, .int .i64 0, .str [], .nilS, .int .i64 0, .int .i64 0, .str [], .nilS, .int .i64 0, .int .i64 0, .str [], .nilS, .int .i64 0, .int .i64 0, .str [], .nilS, .int .i64 0, .int .i64 0, .str [], .nilS, .int .i64 0, .int .i64 0, .str [], .nilS, .int .i64 0, .int .i64 0, .str [], .nilS, .int .i64 0, .int .i64 0, .str [], .nilS, .int .i64 0, .int .i64 0, .str [], .nilS, .int .i64 0, .int .i64 0, .str [], .nilS, .int .i64 0, .int .i64 0, .str [], .nilS, .int .i64 0, .int .i64 0, .str [], .nilS, .int .i64 0, .int .i64 0, .str [], .nilS, .int .i64 0, .int .i64 0, .str [], .nilS, .int .i64 0, .int .i64 0, .str [], .nilS, .int .i64 0, .int .i64 0, .str [], .nilS, .int .i64 0, .int .i64 0, .str [], .nilS, .int .i64 0, .int .i64 0, .str [], .nilS, .int .i64 0, .int .i64 0, .str [], .nilS, .int .i64 0, .int .i64 0, .str [], .nilS, .int .i64 0, .int .i64 0, .str [], .nilS, .int .i64 0, .int .i64 0, .str [], .nilS, .int .i64 0, .int .i64 0, .str [], .nilS, .int .i64 0, .int .i64 0, .str [], .nilS, .int .i64 0, .int .i64 0, .str [], .nilS, .int .i64 0, .int .i64 0, .str [], .nilS, .int .i64 0, .int .i64 0, .str [], .nilS, .int .i64 0, .int .i64 0, .str [], .nilS, .int .i64 0, .int .i64 0, .str [], .nilS, .int .i64 0, .int .i64 0, .str [], .nilS, .int .i64 0, .int .i64 0, .str [], .nilS, .int .i64 0, .int .i64 0, .str [], .nilS, .int .i64 0, .int .i64 0, .str [], .nilS, .int .i64 0, .int .i64 0, .str [], .nilS, .int .i64 0, .int .i64 0, .str [], .nilS, .int .i64 0, .int .i64 0, .str [], .nilS, .int .i64 0, .int .i64 0, .str [], .nilS, .int .i64 0, .int .i64 0, .str [], .nilS, .int .i64 0, .int .i64 0, .str [], .nilS, .int .i64 0, .int .i64 0, .str [], .nilS, .int .i64 0, .int .i64 0, .str [], .nilS, .int .i64 0, .int .i64 0, .str [], .nilS, .int .i64 0, .int .i64 0, .str [], .nilS, .int .i64 0, .int .i64 0, .str [], .nilS, .int .i64 0, .int .i64 0, .str [], .nilS, .int .i64 0, .int .i64 0, .str [], .nilS, .int .i64 0, .int .i64 0, .str [], .nilS, .int .i64 0, .int .i64 0, .str [], .nilS, .int .i64 0, .int .i64 0, .str [], .nilS, .int .i64 0, .int .i64 0, .str [], .nilS]⟩ .leaf .leaf)) (.node 238 ⟨.func, 1, 8, [.nilF]⟩ (.node 237 ⟨.struct [(0, 202), (2, 235)], 402, 5616, [.int .u64 0, .int .u64 0, .int .i64 0, .int .i64 0, .str [], .nilS, .int .i64 0, .int .i64 0, .str [], .nilS, .int .i64 0, .int .i64 0, .str [], .nilS, .int .i64 0, .int .i64 0, .str [], .nilS, .int .i64 0, .int .i64 0, .str [], .nilS, .int .i64 0, .int .i64 0, .str [], .nilS, .int .i64 0, .int .i64 0, .str [], .nilS, .int .i64 0, .int .i64 0, .str [], .nilS, .int .i64 0, .int .i64 0, .str [], .nilS, .int .i64 0, .int .i64 0, .str [], .nilS, .int .i64 0, .int .i64 0, .str [], .nilS, .int .i64 0, .int .i64 0, .str [], .nilS, .int .i64 0, .int .i64 0, .str [], .nilS, .int .i64 0, .int .i64 0, .str [], .nilS, .int .i64 0, .int .i64 0, .str [], .nilS, .int .i64 0, .int .i64 0, .str [], .nilS, .int .i64 0, .int .i64 0, .str [], .nilS, .int .i64 0, .int .i64 0, .str [], .nilS, .int .i64 0, .int .i64 0, .str [], .nilS, .int .i64 0, .int .i64 0, .str [], .nilS, .int .i64 0, .int .i64 0, .str [], .nilS, .int .i64 0, .int .i64 0, .str [], .nilS, .int .i64 0, .int .i64 0, .str [], .nilS, .int .i64 0, .int .i64 0, .str [], .nilS, .int .i64 0, .int .i64 0, .str [], .nilS, .int .i64 0, .int .i64 0, .str [], .nilS, .int .i64 0, .int .i64 0, .str [], .nilS, .int .i64 0, .int .i64 0, .str [], .nilS, .int .i64 0, .int .i64 0, .str [], .nilS, .int .i64 0, .int .i64 0, .str [], .nilS, .int .i64 0, .int .i64 0, .str [], .nilS, .int .i64 0, .int .i64 0, .str [], .nilS, .int .i64 0, .int .i64 0, .str [], .nilS, .int .i64 0, .int .i64 0, .str [], .nilS, .int .i64 0, .int .i64 0, .str [], .nilS, .int .i64 0, .int .i64 0, .str [], .nilS, .int .i64 0, .int .i64 0, .str [], .nilS, .int .i64 0, .int .i64 0, .str [], .nilS, .int .i64 0, .int .i64 0, .str [], .nilS, .int .i64 0, .int .i64 0, .str [], .nilS, .int .i64 0, .int .i64 0, .str [], .nilS, .int .i64 0, .int .i64 0, .str [], .nilS, .int .i64 0, .int .i64 0, .str [], .nilS, .int .i64 0, .int .i64 0, .str [], .nilS, .int .i64 0, .int .i64 0, .str [], .nilS, .int .i64 0, .int .i64 0, .str [], .nilS, .int .i64 0, .int .i64 0, .str [], .nilS, .int .i64 0, .int .i64 0, .str [], .nilS, .int .i64 0, .int .i64 0, .str [], .nilS, .int .i64 0, .int .i64 0, .str [], .nilS, .int .i64 0, .int .i64 0, .str [], .nilS, .int .i64 0, .int .i64 0, .str [], .nilS, .int .i64 0, .int .i64 0, .str [], .nilS, .int .i64 0, .int .i64 0, .str [], .nilS, .int .i64 0, .int .i64 0, .str [], .nilS, .int .i64 0, .int .i64 0, .str [], .nilS, .int .i64 0, .int .i64 0, .str [], .nilS, .int .i64 0, .int .i64 0, .str [], .nilS, .int .i64 0, .int .i64 0, .str [], .nilS, .int .i64 0, .int .i64 0, .str [], .nilS, .int .i64 0, .int .i64 0, .str [], .nilS, .int .i64 0, .int .i64 0, .str [], .nilS, .int .i64 0, .int .i64 0, .str [], .nilS, .int .i64 0, .int .i64 0, .str [], .nilS, .int .i64 0, .int .i64 0, .str [], .nilS, .int .i64 0, .int .i64 0, .str [], .nilS, .int .i64 0, .int .i64 0, .str [], .nilS, .int .i64 0, .int .i64 0, .str [], .nilS, .int .i64 0, .int .i64 0, .str [], .nilS, .int .i64 0, .int .i64 0, .str [], .nilS, .int .i64 0, .int .i64 0, .str [], .nilS, .int .i64 0, .int .i64 0, .str [], .nilS, .int .i64 0, .int .i64 0, .str [], .nilS, .int .i64 0, .int .i64 0, .str [], .nilS, .int .i64 0, .int .i64 0, .str [], .nilS, .int .i64 0, .int .i64 0, .str [], .nilS, .int .i64 0, .int .i64 0, .str [], .nilS, .int .i64 0, .int .i64 0, .str [], .nilS, .int .i64 0, .int .i64 0, .str [], .nilS, .int .i64 0, .int .i64 0, .str [], .nilS, .int .i64 0, .int .i64 0, .str [], .nilS, .int .i64 0, .int .i64 0, .str [], .nilS, .int .i64 0, .int .i64 0, .str [], .nilS, .int .i64 0, .int .i64 0, .str [], .nilS, .int .i64 0, .int .i64 0, .str [], .nilS, .int .i64 0, .int .i64 0, .str [], .nilS, .int .i64 0, .int .i64 0, .str [], .nilS, .int .i64 0, .int .i64 0, .str [], .nilS, .int .i64 0, .int .i64 0, .str [], .nilS, .int .i64 0, .int .i64 0, .str [], .nilS, .int .i64 0, .int .i64 0, .str [], .nilS, .int .i64 0, .int .i64 0, .str [], .nilS, .int .i64 0, .int .i64 0, .str [], .nilS, .int .i64 0, .int .i64 0, .str [], .nilS, .int .i64 0, .int .i64 0, .str [], .nilS, .int .i64 0, .int .i64 0, .str [], .nilS, .int .i64 0, .int .i64 0, .str [], .nilS, .int .i64 0, .int .i64 0, .str [], .nilS, .int .i64 0, .int .i64 0, .str [], .nilS, .int .i64 0, .int .i64 0, .str [], .nilS]⟩ .leaf .leaf) .leaf)) (.node 245 ⟨.func, 1, 8, [.nilF]⟩ (.node 244 ⟨.ptr 24, 1, 8, [.nilP]⟩ (.node 240 ⟨.func, 1, 8, [.nilF]⟩ .leaf .leaf) .leaf) (.node 248 ⟨.func, 1, 8, [.nilF]⟩ (.node 246 ⟨.func, 1, 8, [.nilF]⟩ .leaf .leaf) .leaf))) (.node 258 ⟨.func, 1, 8, [.nilF]⟩ (.node 253 ⟨.struct [(0, 252)], 0, 0, []⟩ (.node 252 ⟨.array 0 16, 0, 0, []⟩ (.node 250 ⟨.struct [(0, 17), (1, 17), (2, 17), (3, 9)], 4, 40, [.nilP, .nilP, .nilP, .str []]⟩ .leaf .leaf) .leaf) (.node 257 ⟨.int .u8, 1, 1, [.int .u8 0]⟩ (.node 256 ⟨.int .u8, 1, 1, [.int .u8 0]⟩ .leaf .leaf) .leaf)) (.node 261 ⟨.int .i32, 1, 4, [.int .i32 0]⟩ (.node 260 ⟨.int .i32, 1, 4, [.int .i32 0]⟩ (.node 259 ⟨.ptr 5, 1, 8, [.nilP]⟩ .leaf .leaf) .leaf) (.node 263 ⟨.struct [(0, 12), (1, 12), (2, 176), (3, 256), (4, 5), (5, 5), (6, 257), (7, 258), (8, 259), (9, 260), (10, 261)], 11, 48, zr0⟩ (.node 262 ⟨.struct [(0, 12), (1, 12), (2, 176), (3, 256), (4, 5), (5, 5), (6, 257), (7, 258), (8, 259), (9, 260), (10, 261)], 11, 48, zr0⟩ .leaf .leaf) .leaf))))))
def qpZ : BT CMode := .node 147 (.scal) (.node 58 (.scal) (.node 44 (.pown) (.node 16 (.scal) (.node 12 (.pfrz) (.node 10 (.scal) (.node 3 (.scal) .leaf .leaf) (.node 11 (.pfrz) .leaf .leaf)) (.node 14 (.scal) (.node 13 (.pfrz) .leaf .leaf) (.node 15 (.scal) .leaf .leaf))) (.node 21 (.scal) (.node 18 (.scal) (.node 17 (.scal) .leaf .leaf) (.node 20 (.scal) .leaf .leaf)) (.node 39 (.scal) (.node 27 (.pfrz) .leaf .leaf) .leaf))) (.node 51 (.scal) (.node 48 (.pown) (.node 46 (.pfrz) (.node 45 (.pown) .leaf .leaf) (.node 47 (.pfrz) .leaf .leaf)) (.node 50 (.pfrz) (.node 49 (.pfrz) .leaf .leaf) .leaf)) (.node 55 (.pfrz) (.node 53 (.scal) (.node 52 (.scal) .leaf .leaf) (.node 54 (.pfrz) .leaf .leaf)) (.node 57 (.pfrz) (.node 56 (.pfrz) .leaf .leaf) .leaf)))) (.node 111 (.scal) (.node 92 (.scal) (.node 73 (.scal) (.node 61 (.scal) (.node 59 (.pfrz) .leaf .leaf) (.node 71 (.scal) .leaf .leaf)) (.node 83 (.scal) (.node 81 (.pfrz) .leaf .leaf) (.node 90 (.scal) .leaf .leaf))) (.node 108 (.slf) (.node 105 (.pfrz) (.node 96 (.scal) .leaf .leaf) (.node 107 (.pfrz) .leaf .leaf)) (.node 110 (.pfrz) (.node 109 (.pfrz) .leaf .leaf) .leaf))) (.node 120 (.scal) (.node 116 (.pfrz) (.node 114 (.scal) (.node 112 (.scal) .leaf .leaf) (.node 115 (.scal) .leaf .leaf)) (.node 118 (.scal) (.node 117 (.pfrz) .leaf .leaf) .leaf)) (.node 131 (.scal) (.node 129 (.scal) (.node 128 (.scal) .leaf .leaf) (.node 130 (.scal) .leaf .leaf)) (.node 139 (.pfrz) (.node 138 (.scal) .leaf .leaf) .leaf))))) (.node 231 (.pfrz) (.node 196 (.scal) (.node 170 (.pfrz) (.node 166 (.scal) (.node 151 (.scal) (.node 148 (.scal) .leaf .leaf) (.node 152 (.scal) .leaf .leaf)) (.node 168 (.pfrz) (.node 167 (.pfrz) .leaf .leaf) (.node 169 (.scal) .leaf .leaf))) (.node 188 (.scal) (.node 172 (.scal) (.node 171 (.scal) .leaf .leaf) (.node 187 (.scal) .leaf .leaf)) (.node 195 (.pfrz) (.node 189 (.pfrz) .leaf .leaf) .leaf))) (.node 205 (.scal) (.node 202 (.scal) (.node 199 (.scal) (.node 197 (.pfrz) .leaf .leaf) (.node 201 (.scal) .leaf .leaf)) (.node 204 (.scal) (.node 203 (.pfrz) .leaf .leaf) .leaf)) (.node 221 (.scal) (.node 219 (.inpl) (.node 206 (.scal) .leaf .leaf) (.node 220 (.scal) .leaf .leaf)) (.node 230 (.scal) (.node 222 (.scal) .leaf .leaf) .leaf)))) (.node 249 (.inpf) (.node 238 (.pfrz) (.node 235 (.inpf) (.node 233 (.pfrz) (.node 232 (.pfrz) .leaf .leaf) (.node 234 (.pfrz) .leaf .leaf)) (.node 237 (.scal) (.node 236 (.scal) .leaf .leaf) .leaf)) (.node 246 (.inpf) (.node 240 (.inpf) (.node 239 (.scal) .leaf .leaf) (.node 245 (.inpl) .leaf .leaf)) (.node 248 (.inpf) (.node 247 (.pfrz) .leaf .leaf) .leaf))) (.node 259 (.inpf) (.node 253 (.inpf) (.node 251 (.inpl) (.node 250 (.inpf) .leaf .leaf) (.node 252 (.inpf) .leaf .leaf)) (.node 258 (.pfrz) (.node 257 (.inpf) .leaf .leaf) .leaf)) (.node 271 (.pfrz) (.node 261 (.inpf) (.node 260 (.inpl) .leaf .leaf) (.node 262 (.inpf) .leaf .leaf)) (.node 276 (.scal) (.node 273 (.inpf) .leaf .leaf) .leaf)))))
def qqT : BT (BT (List Nat)) := .node 105 (.node 3 ([3]) .leaf .leaf) (.node 55 (.node 1 ([3, 8, 12]) .leaf .leaf) (.node 21 (.node 3 ([8]) (.node 2 ([4]) .leaf .leaf) .leaf) .leaf .leaf) (.node 59 (.node 5 ([6]) .leaf .leaf) .leaf .leaf)) (.node 249 (.node 7 ([2]) .leaf .leaf) (.node 116 (.node 1 ([6, 8]) .leaf .leaf) .leaf .leaf) .leaf)
noncomputable def qiQ {α : Type} (a b : Nat) (t : BT (BT α)) : Option α := match t.look a with | some u => u.look b | none => none
noncomputable def qp3 (f r k : Nat) : Bool := match qiQ f r qqT with | some l => xi k l | none => false
def qp0 : BT (BT (List Tmp × List Tmp)) := .node 120 (.node 5 ([4, 32, 33, 34], [2, 3, 4]) .leaf .leaf) (.node 53 (.node 4 ([2, 3], [2, 3]) .leaf .leaf) (.node 44 (.node 3 ([0, 3, 4], [3]) .leaf .leaf) (.node 13 (.node 6 ([5, 7], [5]) .leaf .leaf) (.node 10 (.node 2 ([0, 3], [2]) .leaf .leaf) (.node 3 (.node 9 ([1, 3, 4, 8], [1, 3]) .leaf .leaf) .leaf .leaf) (.node 12 (.node 5 ([4, 16, 17, 18], [4]) .leaf .leaf) .leaf .leaf)) (.node 19 (.node 2 ([1, 2], []) .leaf .leaf) (.node 14 (.node 4 ([0, 1, 5], [4]) .leaf .leaf) .leaf .leaf) .leaf)) (.node 49 (.node 3 ([1, 2, 3, 4], [1, 2, 3]) .leaf .leaf) (.node 47 (.node 3 ([3, 6, 7, 8], [3]) .leaf .leaf) (.node 45 (.node 7 ([2, 3, 4], [2, 3, 4, 5]) .leaf .leaf) .leaf .leaf) (.node 48 (.node 6 ([4, 6, 7], [2, 3, 6]) .leaf .leaf) .leaf .leaf)) (.node 51 (.node 4 ([0, 1, 5], [4]) .leaf .leaf) (.node 50 (.node 3 ([0, 3, 4], [3]) .leaf .leaf) .leaf .leaf) .leaf))) (.node 105 (.node 3 ([3], [3, 4]) .leaf .leaf) (.node 73 (.node 9 ([5, 6, 70, 71], [5]) (.node 2 ([5], [4]) .leaf .leaf) .leaf) (.node 61 (.node 2 ([0, 1, 7, 8], [4]) .leaf .leaf) (.node 59 (.node 3 ([0, 2, 3, 4], [2, 3]) .leaf .leaf) .leaf .leaf) (.node 71 (.node 1 ([2, 3], [4]) .leaf .leaf) .leaf .leaf)) (.node 96 (.node 5 ([1, 2, 5, 6], [5]) .leaf .leaf) (.node 81 (.node 7 ([2, 4, 7, 43, 44, 45], [6, 7, 8]) .leaf .leaf) .leaf .leaf) .leaf)) (.node 109 (.node 2 ([1, 4], [1, 4]) .leaf .leaf) (.node 108 (.node 6 ([1, 2, 3, 4, 18, 19, 20], [2, 3, 4]) .leaf .leaf) (.node 107 (.node 14 ([2, 4, 5, 73, 74, 77, 78, 79], [2, 3, 4, 5, 73, 74]) (.node 11 ([2, 4, 5, 73, 74], [2, 3, 4]) .leaf .leaf) .leaf) .leaf .leaf) .leaf) (.node 112 (.node 6 ([1, 3, 4], [3]) .leaf .leaf) (.node 111 (.node 4 ([1, 3], [2]) .leaf .leaf) .leaf .leaf) .leaf)))) (.node 205 (.node 2 ([0, 1, 5], [4]) .leaf .leaf) (.node 168 (.node 5 ([4], [4, 5]) .leaf .leaf) (.node 152 (.node 5 ([1, 4, 5], [2, 3, 4]) .leaf .leaf) (.node 138 (.node 2 ([0, 1, 2, 11, 12, 13], [0, 1, 6]) .leaf .leaf) (.node 130 (.node 3 ([3, 6, 7, 8], [2, 3]) .leaf .leaf) .leaf .leaf) (.node 139 (.node 7 ([6, 10, 11, 38, 39, 40], [6, 7, 11]) .leaf .leaf) .leaf .leaf)) (.node 167 (.node 11 ([3, 7, 29], [7]) (.node 6 ([3], [3]) .leaf .leaf) .leaf) (.node 165 (.node 0 ([0, 1, 2], [1, 2]) .leaf .leaf) .leaf .leaf) .leaf)) (.node 189 (.node 6 ([1, 7, 8], [1]) .leaf .leaf) (.node 173 (.node 7 ([3], [0, 3]) (.node 1 ([0, 3], []) .leaf .leaf) .leaf) (.node 171 (.node 2 ([0, 1, 5], [4]) .leaf .leaf) .leaf .leaf) (.node 174 (.node 1 ([0, 3], []) .leaf .leaf) .leaf .leaf)) (.node 204 (.node 2 ([0, 1, 5], [4]) .leaf .leaf) (.node 196 (.node 3 ([3, 6, 16, 17, 18], [4, 6]) .leaf .leaf) .leaf .leaf) .leaf))) (.node 245 (.node 17 ([0, 4, 5, 70, 71], [6]) .leaf .leaf) (.node 234 (.node 4 ([1, 4, 5, 9, 10, 11], [1, 2, 3, 4]) .leaf .leaf) (.node 218 (.node 1 ([0, 1, 3], []) .leaf .leaf) (.node 206 (.node 3 ([1, 5, 6], [4]) .leaf .leaf) .leaf .leaf) (.node 231 (.node 2 ([0, 1, 5], [0, 1, 5]) .leaf .leaf) .leaf .leaf)) (.node 244 (.node 4 ([3, 4, 9, 10, 11], [2, 3]) .leaf .leaf) (.node 236 (.node 2 ([0, 1, 7, 8], [4]) .leaf .leaf) .leaf .leaf) .leaf)) (.node 250 (.node 3 ([0, 5, 8, 9, 10], [4, 5]) .leaf .leaf) (.node 249 (.node 3 ([2, 3, 10, 11, 12], [2, 3]) .leaf .leaf) (.node 246 (.node 3 ([0, 3, 5], [3]) .leaf .leaf) .leaf .leaf) .leaf) (.node 275 (.node 0 ([0, 1], []) .leaf .leaf) (.node 261 (.node 4 ([7], [0, 5, 6, 7]) .leaf .leaf) .leaf .leaf) .leaf))))
def qqY : BT (BT (List Tmp)) := .node 231 (.node 6 ([0, 1, 5]) (.node 4 ([0, 1, 5]) .leaf .leaf) .leaf) .leaf .leaf
def qp1 : BT (BT (List (Tmp × Nat))) := .node 167 (.node 11 ([(7, 1)]) .leaf .leaf) (.node 49 (.node 3 ([(3, 4)]) .leaf .leaf) (.node 47 (.node 3 ([(3, 4)]) .leaf .leaf) (.node 45 (.node 7 ([(2, 6), (4, 6)]) (.node 0 ([(2, 6)]) .leaf .leaf) .leaf) (.node 44 (.node 3 ([(3, 4)]) (.node 0 ([(2, 4)]) .leaf .leaf) .leaf) .leaf .leaf) .leaf) (.node 48 (.node 6 ([(6, 6)]) (.node 0 ([(2, 6)]) .leaf .leaf) .leaf) .leaf .leaf)) (.node 73 (.node 9 ([(5, 8)]) (.node 2 ([(5, 8)]) .leaf .leaf) .leaf) (.node 50 (.node 3 ([(3, 4)]) .leaf .leaf) .leaf .leaf) (.node 109 (.node 2 ([(4, 4)]) .leaf .leaf) .leaf .leaf))) (.node 234 (.node 4 ([(4, 1)]) .leaf .leaf) (.node 173 (.node 7 ([(3, 4)]) (.node 1 ([(3, 4)]) .leaf .leaf) .leaf) (.node 168 (.node 5 ([(4, 4)]) .leaf .leaf) .leaf .leaf) (.node 174 (.node 1 ([(3, 4)]) .leaf .leaf) .leaf .leaf)) (.node 249 (.node 3 ([(3, 4)]) .leaf .leaf) (.node 246 (.node 3 ([(3, 5)]) .leaf .leaf) .leaf .leaf) (.node 250 (.node 3 ([(5, 4)]) .leaf .leaf) .leaf .leaf)))
def yw (f : Nat) : List (Nat × (List AV → AH → Option (AV × AH))) → Option (List AV → AH → Option (AV × AH))
 | [] => none
 | p :: l => if qsy p.1 f then some p.2 else yw f l
noncomputable def qlG : List (Nat × (List AV → AH → Option (AV × AH))) := []
noncomputable def qdG : List (Nat × (List AV → AH → Option (AV × AH))) := (230, qgL) :: qlG
theorem qgK : qlG = [] := rfl
def qoX : BT Unit := .node 148 (()) (.node 61 (()) (.node 44 (()) (.node 16 (()) (.node 12 (()) (.node 10 (()) (.node 3 (()) .leaf .leaf) (.node 11 (()) .leaf .leaf)) (.node 14 (()) (.node 13 (()) .leaf .leaf) (.node 15 (()) .leaf .leaf))) (.node 20 (()) (.node 18 (()) (.node 17 (()) .leaf .leaf) (.node 19 (()) .leaf .leaf)) (.node 27 (()) (.node 21 (()) .leaf .leaf) (.node 39 (()) .leaf .leaf)))) (.node 52 (()) (.node 48 (()) (.node 46 (()) (.node 45 (()) .leaf .leaf) (.node 47 (()) .leaf .leaf)) (.node 50 (()) (.node 49 (()) .leaf .leaf) (.node 51 (()) .leaf .leaf))) (.node 56 (()) (.node 54 (()) (.node 53 (()) .leaf .leaf) (.node 55 (()) .leaf .leaf)) (.node 58 (()) (.node 57 (()) .leaf .leaf) (.node 59 (()) .leaf .leaf))))) (.node 113 (()) (.node 105 (()) (.node 83 (()) (.node 73 (()) (.node 71 (()) .leaf .leaf) (.node 81 (()) .leaf .leaf)) (.node 92 (()) (.node 90 (()) .leaf .leaf) (.node 96 (()) .leaf .leaf))) (.node 109 (()) (.node 107 (()) (.node 106 (()) .leaf .leaf) (.node 108 (()) .leaf .leaf)) (.node 111 (()) (.node 110 (()) .leaf .leaf) (.node 112 (()) .leaf .leaf)))) (.node 128 (()) (.node 117 (()) (.node 115 (()) (.node 114 (()) .leaf .leaf) (.node 116 (()) .leaf .leaf)) (.node 119 (()) (.node 118 (()) .leaf .leaf) (.node 120 (()) .leaf .leaf))) (.node 138 (()) (.node 130 (()) (.node 129 (()) .leaf .leaf) (.node 131 (()) .leaf .leaf)) (.node 147 (()) (.node 139 (()) .leaf .leaf) .leaf))))) (.node 231 (()) (.node 189 (()) (.node 169 (()) (.node 165 (()) (.node 152 (()) (.node 151 (()) .leaf .leaf) (.node 164 (()) .leaf .leaf)) (.node 167 (()) (.node 166 (()) .leaf .leaf) (.node 168 (()) .leaf .leaf))) (.node 173 (()) (.node 171 (()) (.node 170 (()) .leaf .leaf) (.node 172 (()) .leaf .leaf)) (.node 187 (()) (.node 174 (()) .leaf .leaf) (.node 188 (()) .leaf .leaf)))) (.node 204 (()) (.node 199 (()) (.node 196 (()) (.node 195 (()) .leaf .leaf) (.node 197 (()) .leaf .leaf)) (.node 202 (()) (.node 201 (()) .leaf .leaf) (.node 203 (()) .leaf .leaf))) (.node 219 (()) (.node 206 (()) (.node 205 (()) .leaf .leaf) (.node 218 (()) .leaf .leaf)) (.node 221 (()) (.node 220 (()) .leaf .leaf) (.node 222 (()) .leaf .leaf))))) (.node 250 (()) (.node 239 (()) (.node 235 (()) (.node 233 (()) (.node 232 (()) .leaf .leaf) (.node 234 (()) .leaf .leaf)) (.node 237 (()) (.node 236 (()) .leaf .leaf) (.node 238 (()) .leaf .leaf))) (.node 246 (()) (.node 244 (()) (.node 240 (()) .leaf .leaf) (.node 245 (()) .leaf .leaf)) (.node 248 (()) (.node 247 (()) .leaf .leaf) (.node 249 (()) .leaf .leaf)))) (.node 261 (()) (.node 257 (()) (.node 252 (()) (.node 251 (()) .leaf .leaf) (.node 253 (()) .leaf .leaf)) (.node 259 (()) (.node 258 (()) .leaf .leaf) (.node 260 (()) .leaf .leaf))) (.node 273 (()) (.node 271 (()) (.node 262 (()) .leaf .leaf) (.node 272 (()) .leaf .leaf)) (.node 276 (()) (.node 275 (()) .leaf .leaf) .leaf)))))
def qqX : BT Unit := .node 41 (()) (.node 27 (()) (.node 24 (()) (.node 22 (()) .leaf .leaf) .leaf) (.node 39 (()) (.node 36 (()) .leaf .leaf) .leaf)) (.node 183 (()) (.node 114 (()) (.node 46 (()) .leaf .leaf) .leaf) (.node 219 (()) (.node 196 (()) .leaf .leaf) .leaf))
def qq1 : BT Unit := .node 183 (()) (.node 41 (()) .leaf .leaf) .leaf
def qqW : BT Unit := .leaf
def qqL : BT (List Nat) := .node 124 ([36, 4]) (.node 65 ([24, 4, 3, 28]) (.node 48 ([24, 4, 28]) (.node 42 ([41, 28]) (.node 29 ([27, 28]) .leaf .leaf) .leaf) (.node 55 ([54, 28]) .leaf .leaf)) (.node 92 ([24, 4]) (.node 71 ([27, 4]) (.node 68 ([24, 28]) .leaf .leaf) .leaf) (.node 95 ([3, 24, 28]) .leaf .leaf))) (.node 180 ([114, 4]) (.node 151 ([54, 52]) (.node 131 ([3, 4]) (.node 126 ([22, 4]) .leaf .leaf) .leaf) (.node 170 ([3, 169]) .leaf .leaf)) (.node 225 ([3, 3]) (.node 215 ([52, 4]) (.node 198 ([4, 4]) .leaf .leaf) .leaf) (.node 247 ([178, 178]) .leaf .leaf)))
noncomputable def qbW : List (Nat × Func) := [(106, Tryz.f106), (113, Tryz.f113), (119, Tryz.f119), (164, Tryz.f164), (165, Tryz.f165), (173, Tryz.f173), (174, Tryz.f174), (218, Tryz.f218), (244, Tryz.f244), (272, Tryz.f272), (275, Tryz.f275)]
noncomputable def qmU : BT Func := .node 148 (Tryz.f148) (.node 61 (Tryz.f61) (.node 44 (Tryz.f44) (.node 16 (Tryz.f16) (.node 12 (Tryz.f12) (.node 10 (Tryz.f10) (.node 3 (Tryz.f3) .leaf .leaf) (.node 11 (Tryz.f11) .leaf .leaf)) (.node 14 (Tryz.f14) (.node 13 (Tryz.f13) .leaf .leaf) (.node 15 (Tryz.f15) .leaf .leaf))) (.node 20 (Tryz.f20) (.node 18 (Tryz.f18) (.node 17 (Tryz.f17) .leaf .leaf) (.node 19 (Tryz.f19) .leaf .leaf)) (.node 27 (Tryz.f27) (.node 21 (Tryz.f21) .leaf .leaf) (.node 39 (Tryz.f39) .leaf .leaf)))) (.node 52 (Tryz.f52) (.node 48 (Tryz.f48) (.node 46 (Tryz.f46) (.node 45 (Tryz.f45) .leaf .leaf) (.node 47 (Tryz.f47) .leaf .leaf)) (.node 50 (Tryz.f50) (.node 49 (Tryz.f49) .leaf .leaf) (.node 51 (Tryz.f51) .leaf .leaf))) (.node 56 (Tryz.f56) (.node 54 (Tryz.f54) (.node 53 (Tryz.f53) .leaf .leaf) (.node 55 (Tryz.f55) .leaf .leaf)) (.node 58 (Tryz.f58) (.node 57 (Tryz.f57) .leaf .leaf) (.node 59 (Tryz.f59) .leaf .leaf))))) (.node 113 (Tryz.f113) (.node 105 (Tryz.f105) (.node 83 (Tryz.f83) (.node 73 (Tryz.f73) (.node 71 (Tryz.f71) .leaf .leaf) (.node 81 (Tryz.f81) .leaf .leaf)) (.node 92 (Tryz.f92) (.node 90 (Tryz.f90) .leaf .leaf) (.node 96 (Tryz.f96) .leaf .leaf))) (.node 109 (Tryz.f109) (.node 107 (Tryz.f107) (.node 106 (Tryz.f106) .leaf .leaf) (.node 108 (Tryz.f108) .leaf .leaf)) (.node 111 (Tryz.f111) (.node 110 (Tryz.f110) .leaf .leaf) (.node 112 (Tryz.f112) .leaf .leaf)))) (.node 128 (Tryz.f128) (.node 117 (Tryz.f117) (.node 115 (Tryz.f115) (.node 114 (Tryz.f114) .leaf .leaf) (.node 116 (Tryz.f116) .leaf .leaf)) (.node 119 (Tryz.f119) (.node 118 (Tryz.f118) .leaf .leaf) (.node 120 (Tryz.f120) .leaf .leaf))) (.node 138 (Tryz.f138) (.node 130 (Tryz.f130) (.node 129 (Tryz.f129) .leaf .leaf) (.node 131 (Tryz.f131) .leaf .leaf)) (.node 147 (Tryz.f147) (.node 139 (Tryz.f139) .leaf .leaf) .leaf))))) (.node 231 (Tryz.f231) (.node 189 (Tryz.f189) (.node 169 (Tryz.f169) (.node 165 (Tryz.f165) (.node 152 (Tryz.f152) (.node 151 (Tryz.f151) .leaf .leaf) (.node 164 (Tryz.f164) .leaf .leaf)) (.node 167 (Tryz.f167) (.node 166 (Tryz.f166) .leaf .leaf) (.node 168 (Tryz.f168) .leaf .leaf))) (.node 173 (Tryz.f173) (.node 171 (Tryz.f171) (.node 170 (Tryz.f170) .leaf .leaf) (.node 172 (Tryz.f172) .leaf .leaf)) (.node 187 (Tryz.f187) (.node 174 (Tryz.f174) .leaf .leaf) (.node 188 (Tryz.f188) .leaf .leaf)))) (.node 204 (Tryz.f204) (.node 199 (Tryz.f199) (.node 196 (Tryz.f196) (.node 195 (Tryz.f195) .leaf .leaf) (.node 197 (Tryz.f197) .leaf .leaf)) (.node 202 (Tryz.f202) (.node 201 (Tryz.f201) .leaf .leaf) (.node 203 (Tryz.f203) .leaf .leaf))) (.node 219 (Tryz.f219) (.node 206 (Tryz.f206) (.node 205 (Tryz.f205) .leaf .leaf) (.node 218 (Tryz.f218) .leaf .leaf)) (.node 221 (Tryz.f221) (.node 220 (Tryz.f220) .leaf .leaf) (.node 222 (Tryz.f222) .leaf .leaf))))) (.node 250 (Tryz.f250) (.node 239 (Tryz.f239) (.node 235 (Tryz.f235) (.node 233 (Tryz.f233) (.node 232 (Tryz.f232) .leaf .leaf) (.node 234 (Tryz.f234) .leaf .leaf)) (.node 237 (Tryz.f237) (.node 236 (Tryz.f236) .leaf .leaf) (.node 238 (Tryz.f238) .leaf .leaf))) (.node 246 (Tryz.f246) (.node 244 (Tryz.f244) (.node 240 (Tryz.f240) .leaf .leaf) (.node 245 (Tryz.f245) .leaf .leaf)) (.node 248 (Tryz.f248) (.node 247 (Tryz.f247) .leaf .leaf) (.node 249 (Tryz.f249) .leaf .leaf)))) (.node 261 (Tryz.f261) (.node 257 (Tryz.f257) (.node 252 (Tryz.f252) (.node 251 (Tryz.f251) .leaf .leaf) (.node 253 (Tryz.f253) .leaf .leaf)) (.node 259 (Tryz.f259) (.node 258 (Tryz.f258) .leaf .leaf) (.node 260 (Tryz.f260) .leaf .leaf))) (.node 273 (Tryz.f273) (.node 271 (Tryz.f271) (.node 262 (Tryz.f262) .leaf .leaf) (.node 272 (Tryz.f272) .leaf .leaf)) (.node 276 (Tryz.f276) (.node 275 (Tryz.f275) .leaf .leaf) .leaf)))))
theorem qpB : qmU.All fun f fn => Tryz.prog.funcs[f]? = some fn := (BT.all_node Tryz.func148 (BT.all_node Tryz.func61 (BT.all_node Tryz.func44 (BT.all_node Tryz.func16 (BT.all_node Tryz.func12 (BT.all_node Tryz.func10 (BT.all_node Tryz.func3 trivial trivial) (BT.all_node Tryz.func11 trivial trivial)) (BT.all_node Tryz.func14 (BT.all_node Tryz.func13 trivial trivial) (BT.all_node Tryz.func15 trivial trivial))) (BT.all_node Tryz.func20 (BT.all_node Tryz.func18 (BT.all_node Tryz.func17 trivial trivial) (BT.all_node Tryz.func19 trivial trivial)) (BT.all_node Tryz.func27 (BT.all_node Tryz.func21 trivial trivial) (BT.all_node Tryz.func39 trivial trivial)))) (BT.all_node Tryz.func52 (BT.all_node Tryz.func48 (BT.all_node Tryz.func46 (BT.all_node Tryz.func45 trivial trivial) (BT.all_node Tryz.func47 trivial trivial)) (BT.all_node Tryz.func50 (BT.all_node Tryz.func49 trivial trivial) (BT.all_node Tryz.func51 trivial trivial))) (BT.all_node Tryz.func56 (BT.all_node Tryz.func54 (BT.all_node Tryz.func53 trivial trivial) (BT.all_node Tryz.func55 trivial trivial)) (BT.all_node Tryz.func58 (BT.all_node Tryz.func57 trivial trivial) (BT.all_node Tryz.func59 trivial trivial))))) (BT.all_node Tryz.func113 (BT.all_node Tryz.func105 (BT.all_node Tryz.func83 (BT.all_node Tryz.func73 (BT.all_node Tryz.func71 trivial trivial) (BT.all_node Tryz.func81 trivial trivial)) (BT.all_node Tryz.func92 (BT.all_node Tryz.func90 trivial trivial) (BT.all_node Tryz.func96 trivial trivial))) (BT.all_node Tryz.func109 (BT.all_node Tryz.func107 (BT.all_node Tryz.func106 trivial trivial) (BT.all_node Tryz.func108 trivial trivial)) (BT.all_node Tryz.func111 (BT.all_node Tryz.func110 trivial trivial) (BT.all_node Tryz.func112 trivial trivial)))) (BT.all_node Tryz.func128 (BT.all_node Tryz.func117 (BT.all_node Tryz.func115 (BT.all_node Tryz.func114 trivial trivial) (BT.all_node Tryz.func116 trivial trivial)) (BT.all_node Tryz.func119 (BT.all_node Tryz.func118 trivial trivial) (BT.all_node Tryz.func120 trivial trivial))) (BT.all_node Tryz.func138 (BT.all_node Tryz.func130 (BT.all_node Tryz.func129 trivial trivial) (BT.all_node Tryz.func131 trivial trivial)) (BT.all_node Tryz.func147 (BT.all_node Tryz.func139 trivial trivial) trivial))))) (BT.all_node Tryz.func231 (BT.all_node Tryz.func189 (BT.all_node Tryz.func169 (BT.all_node Tryz.func165 (BT.all_node Tryz.func152 (BT.all_node Tryz.func151 trivial trivial) (BT.all_node Tryz.func164 trivial trivial)) (BT.all_node Tryz.func167 (BT.all_node Tryz.func166 trivial trivial) (BT.all_node Tryz.func168 trivial trivial))) (BT.all_node Tryz.func173 (BT.all_node Tryz.func171 (BT.all_node Tryz.func170 trivial trivial) (BT.all_node Tryz.func172 trivial trivial)) (BT.all_node Tryz.func187 (BT.all_node Tryz.func174 trivial trivial) (BT.all_node Tryz.func188 trivial trivial)))) (BT.all_node Tryz.func204 (BT.all_node Tryz.func199 (BT.all_node Tryz.func196 (BT.all_node Tryz.func195 trivial trivial) (BT.all_node Tryz.func197 trivial trivial)) (BT.all_node Tryz.func202 (BT.all_node Tryz.func201 trivial trivial) (BT.all_node Tryz.func203 trivial trivial))) (BT.all_node Tryz.func219 (BT.all_node Tryz.func206 (BT.all_node Tryz.func205 trivial trivial) (BT.all_node Tryz.func218 trivial trivial)) (BT.all_node Tryz.func221 (BT.all_node Tryz.func220 trivial trivial) (BT.all_node Tryz.func222 trivial trivial))))) (BT.all_node Tryz.func250 (BT.all_node Tryz.func239 (BT.all_node Tryz.func235 (BT.all_node Tryz.func233 (BT.all_node Tryz.func232 trivial trivial) (BT.all_node Tryz.func234 trivial trivial)) (BT.all_node Tryz.func237 (BT.all_node Tryz.func236 trivial trivial) (BT.all_node Tryz.func238 trivial trivial))) (BT.all_node Tryz.func246 (BT.all_node Tryz.func244 (BT.all_node Tryz.func240 trivial trivial) (BT.all_node Tryz.func245 trivial trivial)) (BT.all_node Tryz.func248 (BT.all_node Tryz.func247 trivial trivial) (BT.all_node Tryz.func249 trivial trivial)))) (BT.all_node Tryz.func261 (BT.all_node Tryz.func257 (BT.all_node Tryz.func252 (BT.all_node Tryz.func251 trivial trivial) (BT.all_node Tryz.func253 trivial trivial)) (BT.all_node Tryz.func259 (BT.all_node Tryz.func258 trivial trivial) (BT.all_node Tryz.func260 trivial trivial))) (BT.all_node Tryz.func273 (BT.all_node Tryz.func271 (BT.all_node Tryz.func262 trivial trivial) (BT.all_node Tryz.func272 trivial trivial)) (BT.all_node Tryz.func276 (BT.all_node Tryz.func275 trivial trivial) trivial))))))
noncomputable def cfg : Cfg := { P := Tryz.prog, ty := fun t => qiO.look t, mode := fun f => match qpZ.look f with | some m => m | none => .imp, frz := fun f r k => qp3 f r k, mask := fun f r => qiQ f r qp0, cut := fun f r => qiQ f r qqY, tup := fun t => qqL.look t, ext := fun f => yw f qdG, known := fun f => (qoX.look f).isSome, dat := fun t => (qqX.look t).isSome, inl := fun f => yv f qbW, lift := fun f r => match qiQ f r qp1 with | some l => l | none => [], ems := fun t => (qqW.look t).isSome, ali := fun t => (qq1.look t).isSome }
theorem qaG {fs : List Fact} (hfs : vo cfg fs) {f : Nat} {args : List AV} {v : AV} (m d : Nat) (h : (match yF cfg (fun f => qmU.look f) fs m d (.f f) args [] with | some r => some r.1 | none => none) = some v) : EVs (EV cfg) f args = some v := qqU (fun _ _ h => BT.all_look qpB h) hfs m d h
theorem yg {fs : List Fact} (hfs : vo cfg fs) {f : Nat} {args : List AV} {v : AV} (m d : Nat) (h : (match yF cfg (fun f => qmU.look f) fs m d (.f f) args [] with | some r => gA (r.1.frz r.1.msIds r.2).fg some | none => none) = some v) : EVf (EV cfg) f args = some v := qqV (fun _ _ h => BT.all_look qpB h) hfs m d h
instance inl_ok : InlOk cfg := InlOk.of qbW (fun _ => rfl) ⟨⟨rfl, rfl, Tryz.func106, rfl⟩, ⟨⟨rfl, rfl, Tryz.func113, rfl⟩, ⟨⟨rfl, rfl, Tryz.func119, rfl⟩, ⟨⟨rfl, rfl, Tryz.func164, rfl⟩, ⟨⟨rfl, rfl, Tryz.func165, rfl⟩, ⟨⟨rfl, rfl, Tryz.func173, rfl⟩, ⟨⟨rfl, rfl, Tryz.func174, rfl⟩, ⟨⟨rfl, rfl, Tryz.func218, rfl⟩, ⟨⟨rfl, rfl, Tryz.func244, rfl⟩, ⟨⟨rfl, rfl, Tryz.func272, rfl⟩, ⟨⟨rfl, rfl, Tryz.func275, rfl⟩, trivial⟩⟩⟩⟩⟩⟩⟩⟩⟩⟩⟩
end Go.Proofs.YtjiecipfkjaooaaGreat
end
section
namespace Go.Av
def cmpS (a b : List UInt8) : Int := if a == b then 0 else if Op.bytesLess a b then -1 else 1
theorem qbo : ∀ a b : List UInt8, Lib.compareBytes a b = cmpS a b
 | [], [] => rfl
 | [], _ :: _ => by simp [Lib.compareBytes, cmpS, Op.bytesLess]
 | _ :: _, [] => by simp [Lib.compareBytes, cmpS, Op.bytesLess]
 | a :: l, b :: m => by
  rw [Lib.compareBytes, qbo l m]
  unfold cmpS
  by_cases h : a = b
  ·subst h
   have : ¬ a < a := by simp
   by_cases h2 : l = m
   ·subst h2; simp
   ·simp [Op.bytesLess, h2]
  ·have h' : (a :: l == b :: m) = false := by simp [h]
   rw [h']
   simp only [qsx, if_false, Op.bytesLess]
   by_cases hlt : a < b
   ·simp [hlt]
   ·have : b < a := by
     have h1 : ¬ a.toNat < b.toNat := hlt
     have h2 : a.toNat ≠ b.toNat := fun e => h (UInt8.toNat.inj e)
     show b.toNat < a.toNat
     omega
    simp [hlt, this, h]
theorem qjZ [Lent] {P : Program} {f : FuncId} {fn : Func} (hf : P.funcs[f]? = some fn) (hn : (fn.name == "runtime.NumGoroutine") = false) (hb : fn.body.isNone = true) (hx : Extern.findNext fn = none)
  (he : Extern.find fn = some Extern.BytealgCompare.compare) {args : List AV} {H H' : AH} {r : AV} (hr : qgL args H = some (r, H')) {C : qc} {μ : MMap} {w : World} {vs : Array Value} (ha : qi C μ args vs) (hw : Wld C μ H w) :
  qQ P (callFunc f vs) w (ve C μ H w r H') := by
 unfold qgL at hr
 split at hr
 ·rename_i H0 a b
  cases hr
  obtain ⟨hl, hv⟩ := ha
  obtain ⟨x, y, rfl⟩ : ∃ x y, vs = #[x, y] := by
   obtain ⟨l⟩ := vs
   match l, hl with
   | [x, y], _ => exact ⟨x, y, rfl⟩
  have h0 := hv 0 _ _ rfl rfl
  have h1 := hv 1 _ _ rfl rfl
  cases h0
  cases h1
  have hrun : (callFunc f #[.string ⟨a.toArray⟩, .string ⟨b.toArray⟩]).run P w = .ok (.value (.int .i64 (cmpS a b))) w := by
   unfold callFunc
   simp only [Sem.run_bind, run_program, Result.andThen_ok, hf, hn, hb, qsx, if_false, if_true, run_mark, hx, he, Lib.run_compareString, Sem.run_pure]
   rw [qbo]
  unfold qQ
  rw [hrun]
  exact ⟨C, μ, .int _ _, hw, Ext.refl (qso _)⟩
 ·cases hr
end Go.Av
namespace Go.Proofs.YtjiecipfkjaooaaGreat
open Go.Av
theorem qfN : qiO.All fun t ti => tiOf Tryz.prog t = some ti := by
 unfold qiO
 repeat (first | exact trivial | refine BT.all_node (by show tiOf Tryz.prog _ = _; kernel_rfl) ?_ ?_)
theorem qoU : Tryz.prog.funcs.toList.all (fun fn => !(fn.name == "runtime.NumGoroutine")) = true := by kernel_rfl
theorem qcm : Tryz.prog.follows .mixedOrders = true := by kernel_rfl
end Go.Proofs.YtjiecipfkjaooaaGreat
end
section
namespace Go.Av
abbrev Rz := List (List AV)
abbrev Bz := List UInt8
inductive Tm where
 | mk (k n : Int) (s : List UInt8) (l : List Tm)
 deriving Inhabited
namespace Tm
def kind : Tm → Int | mk k _ _ _ => k
def num : Tm → Int | mk _ n _ _ => n
def str : Tm → List UInt8 | mk _ _ s _ => s
def subs : Tm → List Tm | mk _ _ _ l => l
end Tm
mutual
def Tm.cells : Tm → List AV
 | .mk k n s l => [.int .i64 k, .int .i64 n, .str s, .sl (qa l)]
def qa : List Tm → List (List AV)
 | [] => []
 | t :: l => t.cells :: qa l
end
def Tm.av (t : Tm) : AV := .agg t.cells
theorem Tm.cells_mk (k n : Int) (s : List UInt8) (l : List Tm) : (Tm.mk k n s l).cells = [.int .i64 k, .int .i64 n, .str s, .sl (qa l)] := by rw [Tm.cells]
theorem Tm.av_mk (k n : Int) (s : List UInt8) (l : List Tm) : (Tm.mk k n s l).av = .agg [.int .i64 k, .int .i64 n, .str s, .sl (qa l)] := by rw [Tm.av, Tm.cells_mk]
theorem yI : ∀ l : List Tm, qa l = l.map Tm.cells
 | [] => by rw [qa]; rfl
 | t :: l => by rw [qa, yI l]; rfl
@[simp] theorem qb (l : List Tm) : (qa l).length = l.length := by rw [yI]; simp
@[simp] theorem qT : qa [] = [] := by rw [qa]
theorem qD (t : Tm) (l : List Tm) : qa (t :: l) = t.cells :: qa l := by rw [qa]
theorem q8 (a b : List Tm) : qa (a ++ b) = qa a ++ qa b := by simp [yI]
theorem ql4 (n : Nat) (a : List Tm) : (qa a).take n = qa (a.take n) := by simp [yI, List.map_take]
theorem ql5 (n : Nat) (a : List Tm) : (qa a).drop n = qa (a.drop n) := by simp [yI, List.map_drop]
theorem xl (l : List Tm) (i : Nat) : (qa l)[i]? = (l[i]?).map Tm.cells := by rw [yI]; simp
theorem qnu (l : List Tm) (i : Nat) (t : Tm) : (qa l).set i t.cells = qa (l.set i t) := by simp [yI, List.map_set]
theorem qgW (t : Tm) : qp 0 t.cells = true := by
 obtain ⟨k, n, s, l⟩ := t
 rw [Tm.cells_mk]; rfl
theorem qfT (l : List Tm) : qw 0 (qa l) = true := by
 induction l with
 | nil => rw [qa]; rfl
 | cons t l ih => rw [qa, qw, ih, qgW]; rfl
mutual
/-- no list is longer than is counted here, no text -/
def Tm.Ok : Tm → Prop
 | .mk _ _ s l => s.length < 1099511627776 ∧ l.length < 1099511627776 ∧ OkL l
def OkL : List Tm → Prop
 | [] => True
 | t :: l => t.Ok ∧ OkL l
end
theorem qb4 {l : List Tm} : OkL l ↔ ∀ t ∈ l, t.Ok := by
 induction l with
 | nil => simp [OkL]
 | cons t l ih => simp [OkL, ih]
theorem Tm.Ok.str {k n : Int} {s : List UInt8} {l : List Tm} (h : (Tm.mk k n s l).Ok) : s.length < 1099511627776 := by rw [Tm.Ok] at h; exact h.1
theorem Tm.Ok.len {k n : Int} {s : List UInt8} {l : List Tm} (h : (Tm.mk k n s l).Ok) : l.length < 1099511627776 := by rw [Tm.Ok] at h; exact h.2.1
theorem Tm.Ok.sub {k n : Int} {s : List UInt8} {l : List Tm} (h : (Tm.mk k n s l).Ok) {t : Tm} (ht : t ∈ l) : t.Ok := by rw [Tm.Ok] at h; exact qb4.1 h.2.2 t ht
theorem OkL.get {l : List Tm} (h : OkL l) {t : Tm} (ht : t ∈ l) : t.Ok := qb4.1 h t ht
theorem Tm.ind {P : Tm → Prop} (h : ∀ k n s l, (∀ t ∈ l, P t) → P (.mk k n s l)) : ∀ t, P t
 | .mk k n s l => h k n s l (fun t _ => Tm.ind h t)
theorem vm {x : Int} (h1 : -9223372036854775808 ≤ x) (h2 : x < 9223372036854775808) : IntKind.wrap .i64 x = x := by
 simp [IntKind.wrap, IntKind.bits, IntKind.signed]; omega
theorem qI {i n : Nat} (h : i < n) (hn : n < 1099511627776) : IntKind.wrap .i64 ((i : Int) + 1) = ((i + 1 : Nat) : Int) := by
 rw [vm (by omega) (by omega)]; rfl
theorem qA (i : Nat) : qh 0 (i : Int) = true := by simp [qh]
theorem qN (i n : Nat) : qo (i : Int) (n : Int) = decide (i < n) := by simp [qo]
def kTmC {α : Type} (l : List AV) (k : Int → Int → List UInt8 → List (List AV) → Option α) : Option α :=
 qn l fun c cs => kInt .i64 c fun n => qn cs fun c cs => kInt .i64 c fun m => qn cs fun c cs => kStr c fun s => qn cs fun c cs => kSl c fun A => kNil cs (k n m s A)
def kTmV {α : Type} (v : AV) (k : Int → Int → List UInt8 → List (List AV) → Option α) : Option α := kAgg v fun cs => kTmC cs k
theorem vS {α : Type} {l : List Tm} {i : Nat} {t : Tm} (h : l[i]? = some t) (k : List AV → Option α) : kOpt (qsg (qa l) (qsC (i : Int))) k = k t.cells := by
 rw [qq, qsE, xl, h]; rfl
mutual
def Tm.w : Tm → Nat
 | .mk _ _ s l => 1 + s.length + wL l
def wL : List Tm → Nat
 | [] => 0
 | t :: l => t.w + wL l
end
theorem Tm.w_mk (k n : Int) (s : List UInt8) (l : List Tm) : (Tm.mk k n s l).w = 1 + s.length + wL l := by rw [Tm.w]
theorem Tm.w_eq (t : Tm) : t.w = 1 + t.str.length + wL t.subs := by cases t; rw [Tm.w_mk]; rfl
@[simp] theorem vP : wL [] = 0 := by rw [wL]
@[simp] theorem qW (t : Tm) (l : List Tm) : wL (t :: l) = t.w + wL l := by rw [wL]
@[simp] theorem ya (a b : List Tm) : wL (a ++ b) = wL a + wL b := by
 induction a with
 | nil => simp
 | cons t l ih => simp [ih]; omega
theorem xf (t : Tm) : 1 ≤ t.w := by rw [Tm.w_eq]; omega
theorem xS {t : Tm} {l : List Tm} (h : t ∈ l) : t.w ≤ wL l := by
 induction l with
 | nil => cases h
 | cons x l ih =>
  rw [qW]
  rcases qsI.1 h with rfl | h
  ·omega
  ·have := ih h; omega
theorem xT (l : List Tm) : l.length ≤ wL l := by
 induction l with
 | nil => simp
 | cons x l ih => have := xf x; simp; omega
theorem qhp (t : Tm) : t.w < 1099511627776 → t.Ok := by
 induction t using Tm.ind with
 | _ k n s l ih =>
  intro h
  rw [Tm.w_mk] at h
  rw [Tm.Ok]
  have := xT l
  exact ⟨by omega, by omega, qb4.2 fun t ht => ih t ht (by have := xS ht; omega)⟩
theorem qoR {l : List Tm} (h : wL l < 1099511627776) : OkL l := qb4.2 fun t ht => qhp t (by have := xS ht; omega)
theorem qnh (l : List Tm) : wL l.reverse = wL l := by
 induction l with
 | nil => rfl
 | cons x l ih => simp [ih]; omega
end Go.Av
end
section
namespace Go.Proofs.YtjiecipfkjaooaaGreat
open Go.Av
def C0 (W : World) : qc := fun b o => W.cell? ⟨b, o, none⟩
def M0 : MMap := fun _ => none
theorem wld0 (W : World) : Wld (C0 W) M0 [] W where
 cl := fun _ _ _ h => h
 dom := fun id m h => by cases h
 res := fun id h => by simp at h
 live := fun id b h => by simp at h
 froz := fun id d sz rs h => by simp at h
 inj := fun i i' b b' m m' h => by simp at h
 free := xI.nil
 lnt := ⟨fun _ _ _ h => (by cases h), fun h => h.elim, fun _ _ => trivial⟩
structure TermTys (P : Program) (tT tL tI tS : TypeId) : Prop where
 uT : ∃ f0 f1 f2 f3 : Field, P.underlying tT = some (.struct #[f0, f1, f2, f3]) ∧ f0.type = tI ∧ f0.offset = 0 ∧ f1.type = tI ∧ f1.offset = 1 ∧ f2.type = tS ∧ f2.offset = 2 ∧ f3.type = tL ∧ f3.offset = 3
 uL : P.underlying tL = some (.slice tT)
 uI : P.underlying tI = some (.int .i64)
 uS : P.underlying tS = some .string
 cT : P.cellsOf tT = 4
 cL : P.cellsOf tL = 1
 cI : P.cellsOf tI = 1
 cS : P.cellsOf tS = 1
section
variable {H : Type} {enc : TypeId × Value → H} {P : Program} {W : World} {tT tL tI tS : TypeId}
def qfp (W : World) (cs : List Value) (t : Tm) : Prop := cs.length = 4 ∧ ∀ (j : Nat) a v, t.cells[j]? = some a → cs[j]? = some v → a.isCell = true ∧ Rep (C0 W) M0 a v
theorem qbH {base : Nat} {a : Addr} {n : Nat} {cs : List Value} (h : W.cells? base a n = some cs) (hn : 0 < n) : a.spot = none ∧ cs.length = n ∧ ∀ (j : Nat) v, cs[j]? = some v → W.cell? ⟨a.block, a.off + j, none⟩ = some v := by
 unfold World.cells? at h
 split at h
 ·have hl : cs.length = n := by simpa using mapM_some_length h
  have hg : ∀ (j : Nat), j < n → W.cell? (a.add j) = cs[j]? := fun j hj => mapM_some_get h j j (by simp [hj])
  have hsp : a.spot = none := by
   have h0 := hg 0 hn
   rw [qsh (by omega)] at h0
   cases hs : a.spot with
   | none => rfl
   | some s =>
    simp only [World.cell?, Addr.add, if_pos, hs] at h0
    split at h0
    ·simp at h0
    ·cases h0
  refine ⟨hsp, hl, fun j v hv => ?_⟩
  have hj : j < n := by rw [← hl]; exact (qsi.1 hv).1
  have := hg j hj
  rw [hv] at this
  rw [yb _ _ hsp] at this
  exact this
 ·cases h
theorem qoc {H : Type} {d : DataW H} {l : List (DataW H)} (h : d ∈ l) : Rows.uptoBulk d ≤ Rows.uptoBulkAll l := by
 induction l with
 | nil => cases h
 | cons x r ih =>
  simp only [Rows.uptoBulkAll]
  cases qsI.1 h with
  | inl e => subst e; omega
  | inr e => have := ih e; omega
theorem qgX {H : Type} : ∀ (l : List Tm) (ds : List (DataW H)), l.length = ds.length → (∀ (i : Nat) t d, l[i]? = some t → ds[i]? = some d → t.w ≤ Rows.uptoBulk d) → wL l ≤ Rows.uptoBulkAll ds
 | [], [], _, _ => by simp [Rows.uptoBulkAll]
 | t :: l, d :: ds, hl, h => by
  have h0 := h 0 t d rfl rfl
  have := qgX l ds (by simpa using hl) (fun i t d ht hd => h (i + 1) t d (by simpa using ht) (by simpa using hd))
  simp only [qW, Rows.uptoBulkAll]
  omega
theorem qnQ (T : TermTys P tT tL tI tS) : ∀ (n : Nat),
  (∀ cs x, DataW.trod enc P W 0 (fun _ => true) true n tT cs = some x → ∃ t : Tm, qfp W cs t ∧ t.w ≤ Rows.uptoBulk x.1 ∧
   ∀ (W' : World) (sp : Nat → Bool), (∀ p ∈ x.2, W.sameAt W' p) → (∀ p ∈ x.2, sp p.block = true) → DataW.trod enc P W' 0 sp true n tT cs = some x) ∧
  (∀ cs x, DataW.trod enc P W 0 (fun _ => true) true n tL cs = some x → ∃ (l : List Tm) (v : Value), cs = [v] ∧ Rep (C0 W) M0 (.sl (qa l)) v ∧ wL l ≤ Rows.uptoBulk x.1 ∧
   ∀ (W' : World) (sp : Nat → Bool), (∀ p ∈ x.2, W.sameAt W' p) → (∀ p ∈ x.2, sp p.block = true) → DataW.trod enc P W' 0 sp true n tL cs = some x) := by
 intro n
 induction n with
 | zero => exact ⟨fun cs x h => by simp [DataW.trod] at h, fun cs x h => by simp [DataW.trod] at h⟩
 | succ n ih =>
  obtain ⟨ihT, ihL⟩ := ih
  refine ⟨fun cs x h => ?_, fun cs x h => ?_⟩
  ·obtain ⟨f0, f1, f2, f3, hu, t0, o0, t1, o1, t2, o2, t3, o3⟩ := T.uT
   obtain ⟨xs, n', e, rfl, hl, hxl, hx⟩ := DataW.trod_struct hu h
   obtain rfl : n' = n := by omega
   rw [T.cT] at hl
   obtain ⟨c0, c1, c2, c3, rfl⟩ : ∃ c0 c1 c2 c3, cs = [c0, c1, c2, c3] := by
    match cs, hl with
    | [a, b, c, d], _ => exact ⟨a, b, c, d, rfl⟩
   obtain ⟨x0, x1, x2, x3, rfl⟩ : ∃ c0 c1 c2 c3, xs = [c0, c1, c2, c3] := by
    match xs, hxl with
    | [a, b, c, d], _ => exact ⟨a, b, c, d, rfl⟩
   have h0 := hx 0 f0 rfl
   have h1 := hx 1 f1 rfl
   have h2 := hx 2 f2 rfl
   have h3 := hx 3 f3 rfl
   rw [t0, o0, T.cI] at h0
   rw [t1, o1, T.cI] at h1
   rw [t2, o2, T.cS] at h2
   rw [t3, o3, T.cL] at h3
   simp at h0 h1 h2 h3
   obtain ⟨k, e0, rfl, w0⟩ := DataW.trod_int T.uI h0
   obtain ⟨m, e1, rfl, w1⟩ := DataW.trod_int T.uI h1
   obtain ⟨s, e2, rfl, w2⟩ := DataW.trod_string T.uS h2
   obtain ⟨l, v, e3, hr, hb, hback⟩ := ihL _ _ h3
   simp at e0 e1 e2 e3
   subst e0 e1 e2 e3
   refine ⟨.mk k m s.data.toList l, ⟨rfl, fun j a u ha hu => ?_⟩, ?_, fun W' sp hs hp => ?_⟩
   ·rw [Tm.cells_mk] at ha
    match j, ha, hu with
    | 0, ha, hu => simp at ha hu; subst ha hu; exact ⟨rfl, .int _ _⟩
    | 1, ha, hu => simp at ha hu; subst ha hu; exact ⟨rfl, .int _ _⟩
    | 2, ha, hu =>
     simp at ha hu; subst ha hu
     refine ⟨rfl, ?_⟩
     have := Rep.str (C := C0 W) (μ := M0) s.data.toList
     simpa using this
    | 3, ha, hu => simp at ha hu; subst ha hu; exact ⟨rfl, hr⟩
    | (j + 4), ha, hu => simp at ha
   ·simp only [List.map_cons, List.map_nil, Rows.uptoBulk, Rows.uptoBulkAll]
    rw [Tm.w_mk]
    omega
   ·have hs3 : ∀ p ∈ x3.2, W.sameAt W' p := fun p hp => hs p (by simp [hp])
    have hp3 : ∀ p ∈ x3.2, sp p.block = true := fun p hpp => hp p (by simp [hpp])
    have b3 := hback W' sp hs3 hp3
    have b0 : DataW.trod enc P W' 0 sp true n' tI [Value.int .i64 k] = some (.lit (.int .i64 k), []) := by
     cases n' with
     | zero => simp [DataW.trod] at h0
     | succ q => simp [DataW.trod, T.uI, w0]
    have b1 : DataW.trod enc P W' 0 sp true n' tI [Value.int .i64 m] = some (.lit (.int .i64 m), []) := by
     cases n' with
     | zero => simp [DataW.trod] at h0
     | succ q => simp [DataW.trod, T.uI, w1]
    have b2 : DataW.trod enc P W' 0 sp true n' tS [Value.string s] = some (.lit (.string s.data.toList), []) := by
     cases n' with
     | zero => simp [DataW.trod] at h0
     | succ q => simp [DataW.trod, T.uS, w2]
    unfold DataW.trod
    rw [hu]
    simp [T.cT, t0, o0, t1, o1, t2, o2, t3, o3, T.cI, T.cS, T.cL, b0, b1, b2, b3]
  ·rcases DataW.trod_slice T.uL h with ⟨rfl, rfl⟩ | ⟨a, len, cap, elems, rest, n', e, rfl, rfl, hb, hlc, hmx, hel, hg, hsp, _⟩
   ·refine ⟨[], _, rfl, by rw [qT]; exact .slNil, by simp, fun W' sp _ _ => ?_⟩
    simp [DataW.trod, T.uL]
   ·obtain rfl : n' = n := by omega
    obtain ⟨hrl, hrg⟩ := hsp rfl
    have one : ∀ (i : Nat) (y : DataW H × List MemPlace), (W.cells? 0 (a.add (i * P.cellsOf tT)) (P.cellsOf tT)).bind (DataW.trod enc P W 0 (fun _ => true) true n' tT) = some y →
      ∃ cs', W.cells? 0 (a.add (i * 4)) 4 = some cs' ∧ DataW.trod enc P W 0 (fun _ => true) true n' tT cs' = some y := by
     intro i y hy
     rw [T.cT] at hy
     exact qsj.1 hy
    -- the terms
    have tms : ∃ f : Nat → Tm, ∀ (i : Nat) y, elems[i]? = some y → ∃ cs', W.cells? 0 (a.add (i * 4)) 4 = some cs' ∧ qfp W cs' (f i) ∧ (f i).w ≤ Rows.uptoBulk y.1 := by
     have : ∀ i : Nat, ∃ t : Tm, ∀ y, elems[i]? = some y → ∃ cs', W.cells? 0 (a.add (i * 4)) 4 = some cs' ∧ qfp W cs' t ∧ t.w ≤ Rows.uptoBulk y.1 := by
      intro i
      cases hy : elems[i]? with
      | none => exact ⟨default, fun y h => by cases h⟩
      | some y =>
       have hi : i < len := by rw [← hel]; exact (qsi.1 hy).1
       obtain ⟨cs', h1, h2⟩ := one i y ((hg i hi).trans hy)
       obtain ⟨t, h3, h4, _⟩ := ihT _ _ h2
       exact ⟨t, fun y' hy' => by cases hy'; exact ⟨cs', h1, h3, h4⟩⟩
     exact ⟨fun i => Classical.choose (this i), fun i => Classical.choose_spec (this i)⟩
    obtain ⟨f, hf⟩ := tms
    have hget : ∀ (i : Nat) (row : List AV), (qa ((qsM len).map f))[i]? = some row → i < len ∧ row = (f i).cells := by
     intro i row hi
     have hil : i < len := by have := (qsi.1 hi).1; simpa using this
     refine ⟨hil, ?_⟩
     rw [xl, List.getElem?_map, List.getElem?_range hil] at hi
     simpa using hi.symm
    have hcell : ∀ (i j : Nat) (row : List AV) x, (qa ((qsM len).map f))[i]? = some row → row[j]? = some x → a.spot = none ∧ x.isCell = true ∧ ∃ v, W.cell? ⟨a.block, a.off + i * 4 + j, none⟩ = some v ∧ Rep (C0 W) M0 x v := by
     intro i j row x hi hj
     obtain ⟨hil, rfl⟩ := hget i row hi
     obtain ⟨cs', h1, h2, _⟩ := hf i _ (qsh (by omega))
     obtain ⟨s1, s2, s3⟩ := qbH h1 (by omega)
     have hspot : a.spot = none := by
      obtain ⟨cs0, q1, _⟩ := hf 0 _ (qsh (by omega))
      have := (qbH q1 (by omega)).1
      simpa [Addr.add] using this
     have hjl : j < cs'.length := by
      rw [h2.1]
      have := (qsi.1 hj).1
      cases hfi : f i with
      | mk k n s l => rw [hfi, Tm.cells_mk] at this; simpa using this
     have h4 := h2.2 j x _ hj (qsh hjl)
     refine ⟨hspot, h4.1, _, ?_, h4.2⟩
     have := s3 j _ (qsh hjl)
     rw [yb _ _ hspot] at this
     exact this
    refine ⟨(qsM len).map f, _, rfl, ?_, ?_, fun W' sp hs hp => ?_⟩
    ·have := Rep.sl (C := C0 W) (μ := M0) (qa ((qsM len).map f)) a cap 4 (fun i j => (W.cell? ⟨a.block, a.off + i * 4 + j, none⟩).getD undef) (fun hne => ?_) (fun i row hi => ?_) (fun i j row x hi hj => ?_) (fun i j row x hi hj => ?_) (fun i j row x hi hj => ?_) (by simpa using hlc) (qfT _)
     ·simpa using this
     ·have hl0 : 0 < len := by
       rcases Nat.eq_zero_or_pos len with h0 | h0
       ·subst h0; exact absurd (by simp) hne
       ·exact h0
      obtain ⟨cs0, q1, _⟩ := hf 0 _ (qsh (by omega))
      have := (qbH q1 (by omega)).1
      simpa [Addr.add] using this
     ·obtain ⟨_, rfl⟩ := hget i row hi
      cases hfi : f i with
      | mk k n s l => rw [Tm.cells_mk]; rfl
     ·obtain ⟨_, _, v, h1, _⟩ := hcell i j row x hi hj
      show W.cell? _ = _
      rw [h1]; rfl
     ·obtain ⟨_, _, v, h1, h2⟩ := hcell i j row x hi hj
      rw [h1]; exact h2
     ·exact (hcell i j row x hi hj).2.1
    ·simp only [Rows.uptoBulk]
     have := qgX ((qsM len).map f) (elems.map (·.1)) (by simp [hel]) (fun i t d ht hd => by
      rw [List.getElem?_map] at ht hd
      obtain ⟨j, hj, rfl⟩ := qsl.1 ht
      obtain ⟨y, hy, rfl⟩ := qsl.1 hd
      have hil : i < len := by have := (qsi.1 hj).1; simpa using this
      rw [List.getElem?_range hil] at hj
      cases hj
      obtain ⟨_, _, _, h4⟩ := hf i y hy
      exact h4)
     omega
    ·have hrow : 0 < (elems.length + rest.length) → sp a.block = true := fun hpos => hp (.cell a.block (a.off + 0)) (by
      rw [qsK]
      exact .inl (MemPlace.mem_row.2 ⟨0, Nat.mul_pos hpos (by rw [T.cT]; omega), rfl⟩))
     unfold DataW.trod at h ⊢
     rw [T.uL] at h ⊢
     simp only [if_true] at h ⊢
     rw [if_pos ⟨hb, hlc, hmx⟩] at h ⊢
     simp only [qsl, qsj] at h ⊢
     obtain ⟨elems', he, rest', hr, hx⟩ := h
     have hlen : elems'.length = len := by simpa using mapM_some_length he
     have hrl' : rest'.length = cap - len := by simpa using mapM_some_length hr
     simp only [Prod.mk.injEq, DataW.slice.injEq] at hx
     have one' : ∀ (i : Nat) (y : DataW H × List MemPlace), i < elems'.length + rest'.length → y ∈ elems' ++ rest' →
       (W.cells? 0 (a.add (i * P.cellsOf tT)) (P.cellsOf tT)).bind (DataW.trod enc P W 0 (fun _ => true) true n' tT) = some y → (W'.cells? 0 (a.add (i * P.cellsOf tT)) (P.cellsOf tT)).bind (DataW.trod enc P W' 0 sp true n' tT) = some y := by
      intro i y hi hy hv
      simp only [qsj] at hv ⊢
      obtain ⟨cs', hc', hy'⟩ := hv
      obtain ⟨_, _, _, hbk⟩ := ihT _ _ hy'
      refine ⟨cs', World.cells?_carry hc' (fun p hpp => hs p ?_), hbk W' sp (fun p hpp => hs p ?_) (fun p hpp => hp p ?_)⟩
      ·rw [← hx.2]
       obtain ⟨j, hj, rfl⟩ := MemPlace.mem_row.1 hpp
       simp only [qsK]
       left
       refine MemPlace.mem_row.2 ⟨i * P.cellsOf tT + j, ?_, ?_⟩
       ·calc i * P.cellsOf tT + j < i * P.cellsOf tT + P.cellsOf tT := by omega
         _ = (i + 1) * P.cellsOf tT := by rw [Nat.add_mul, Nat.one_mul]
         _ ≤ (elems'.length + rest'.length) * P.cellsOf tT := qsA _ hi
       ·unfold Addr.add
        split
        ·rename_i h0
         simp [h0]
        ·simp [Nat.add_assoc]
      ·rw [← hx.2]
       simp only [qsK, List.mem_flatMap]
       right
       exact ⟨y, by simpa using hy, hpp⟩
      ·rw [← hx.2]
       simp only [qsK, List.mem_flatMap]
       right
       exact ⟨y, by simpa using hy, hpp⟩
     refine ⟨elems', mapM_carry he (fun i y hi hy => one' i y (by have : i < len := (by simpa using hi); omega) (by simp [hy])), rest', ?_, by simp only [Prod.mk.injEq, DataW.slice.injEq]; exact hx⟩
     by_cases h0 : 0 < elems.length + rest.length
     ·rw [if_pos (hrow h0)]
      exact mapM_carry hr (fun j y hj hy => one' (len + j) y (by have : j < cap - len := (by simpa using hj); omega) (by simp [hy]))
     ·have hc0 : cap - len = 0 := by omega
      rw [hc0] at hr ⊢
      simp at hr
      subst hr
      split <;> rfl
end
end Go.Proofs.YtjiecipfkjaooaaGreat
end
section
namespace Go.Proofs.YtjiecipfkjaooaaGreat
open Go.Av Go.ChangeShapes Go.WideShapes Go.ChangeAt Go.RowKit
theorem qoP : ownKnob Tryz.prog.godebug = none := by kernel_rfl
theorem qoD : TermTys Tryz.prog 24 22 3 9 where
 uT := ⟨_, _, _, _, Tryz.underlying24, rfl, rfl, rfl, rfl, rfl, rfl, rfl, rfl⟩
 uL := Tryz.underlying22
 uI := Tryz.underlying3
 uS := Tryz.underlying9
 cT := by kernel_rfl
 cL := by kernel_rfl
 cI := by kernel_rfl
 cS := by kernel_rfl
theorem qcl (f : FuncId) (fn : Func) (h : Tryz.prog.funcs[f]? = some fn) : (fn.name == "runtime.NumGoroutine") = false := by
 have h1 := List.all_eq_true.1 qoU fn (by
  rw [← Array.getElem?_toList] at h
  exact qss h)
 simpa using h1
theorem qn8 [Lent] {args : List AV} {H H' : AH} {r : AV} {C : qc} {μ : MMap} {w : World} {vs : Array Value} (hr : qgL args H = some (r, H')) (ha : qi C μ args vs) (hw : Wld C μ H w) :
  qQ Tryz.prog (callFunc 230 vs) w (ve C μ H w r H') :=
 qjZ (P := Tryz.prog) Tryz.func230 (by rfl) (by rfl) (by kernel_rfl) (by kernel_rfl) hr ha hw
theorem y7 [Lent] : CfgOk cfg where
  ty := ⟨fun t ti h => BT.all_look qfN h⟩
  mixed := qcm
  named := fun f fn _ h => qcl f fn h
  ext := fun f s h args H r H' hr C μ w vs ha hw => by
    have h : yw f qdG = some s := h
    unfold qdG at h
    rw [yw] at h
    split at h
    · rename_i e
      have e := qsn e
      subst e
      cases h
      exact qn8 hr ha hw
    · rw [qgK] at h
      first
        | (rw [yw] at h; cases h; done)
        | (have okK : CfgOk K.cfg := {
             ty := ⟨fun t ti h => BT.all_look (show K.qiO.All _ from qfN) h⟩
             mixed := qcm
             named := fun f fn _ h => qcl f fn h
             ext := fun f s h args H r H' hr C μ w vs ha hw => by
               have h : K.yw f K.qdG = some s := h
               unfold K.qdG at h
               rw [K.yw] at h
               split at h
               · rename_i e
                 have e := qsn e
                 subst e
                 cases h
                 exact qn8 hr ha hw
               · rw [K.qgK, K.yw] at h
                 cases h }
           rw [yw] at h
           split at h
           · rename_i e
             have e := qsn e
             subst e
             cases h
             exact (zS okK).calls _ _ _ _ _ hr C μ w vs _ ha hw rfl
           · rw [yw] at h
             cases h)
theorem qhP {f : FuncId} {args : List AV} {vs : Array Value} {W : World} (hx : cfg.ext f = none) (he : EVs (EV cfg) f args = some (.bool true)) (ha : qi (C0 W) M0 args vs) :
  Calls Tryz.prog f vs W fun e W' => e = .returned (.bool true) ∧ (∀ b, b < W.heap.size → W'.heap[b]? = W.heap[b]?) ∧ W.heap.size ≤ W'.heap.size ∧ W'.os = W.os ∧ W'.output = W.output := by
 unfold EVs at he
 obtain ⟨q, h1, h2⟩ := qsl.1 he
 have := qkm y7 hx (r := q.1) (H' := q.2) h1 ha (wld0 W)
 refine this.mono fun e W' ⟨v, hv, C', μ', p1, p2, p3⟩ => ?_
 rw [h2] at p1
 cases p1
 refine ⟨hv, fun b hb => (p3.fr b hb qR).1, p3.size, p3.os, p3.output⟩
section
variable {H : Type} {enc : TypeId × Value → H} {P : Program} {W W' : World}
theorem qnJ {f : Func} {s : ChangeSpec} {apart fresh handsOn again : Bool} {args : Array Value} {v : Value} {ds gs : List (DataW H)} {before pa pv : List MemPlace}
  (hW : DataW.Whole enc P f.params.toList s.vars apart W args.toList ds gs before)
  (hres : ∀ (b : Nat) (sp : Nat → Bool) (hd : Bool), DataW.TrodAll enc P W' b sp hd f.resultTypes.toList (v.resultList f.resultTypes.size) (s.fn H (ds ++ gs)).results [])
  (hargs : ∀ sp : Nat → Bool, (∀ p ∈ before, sp p.block = true) → DataW.TrodAll enc P W' 0 sp true f.params.toList args.toList (s.fn H (ds ++ gs)).args pa)
  (hvars : ∀ sp : Nat → Bool, (∀ p ∈ before, sp p.block = true) → DataW.TrodVars enc P W' sp s.vars (s.fn H (ds ++ gs)).vars pv)
  (hps : before = pa ++ pv) (hk : W.keptBut W' (· ∈ before)) (hfz : ∀ b o, b < W.heap.size → W'.frozen? ⟨b, o, none⟩ = W.frozen? ⟨b, o, none⟩)
  (hok : ∀ (j : Nat) (t : TypeId) (r : Value), f.resultTypes[j]? = some t → (v.resultList f.resultTypes.size)[j]? = some r → Value.okWide P W' .any 0 t r) :
  s.post enc P f apart fresh handsOn again W args v W' := by
 have hlt := hW.lt
 have hold : ∀ p ∈ before, (fun b => decide (b < W.heap.size)) p.block = true := fun p hp => by simpa using hlt p hp
 refine ⟨ds, gs, before, [], pa, pv, hW, hres _ _ _, hargs _ hold, hvars _ hold, World.keptBut_mono (fun p hp => ⟨hp, ?_⟩) hk, fun _ => ?_⟩
 ·rw [hps, qsK] at hp
  exact Or.inr hp
 ·obtain ⟨_, _, _, _, _, hz, hn⟩ := hW
  refine ⟨hok, _, _, ([] ++ pa) ++ pv, ⟨[] ++ pa, pv, trodAll_append (hargs _ (fun _ _ => rfl)) (hres _ _ _), hvars _ (fun _ _ => rfl), rfl, ?_, ?_⟩, ?_⟩
  ·intro b off hp
   have hp' : MemPlace.cell b off ∈ before := by rw [hps]; simpa using hp
   rw [hfz b off (hlt _ hp')]
   exact hz b off hp'
  ·intro ha
   have := hn ha
   rw [hps] at this
   simpa using this
  ·intro p hp _
   rw [hps]
   simpa using hp
theorem qjD (h : ∀ b, b < W.heap.size → W'.heap[b]? = W.heap[b]?) (ho : W'.os = W.os) (hu : W'.output = W.output) (may : MemPlace → Prop) : W.keptBut W' may := by
 refine ⟨ho, hu, fun i hi => ?_⟩
 rw [h i hi]
 cases W.heap[i]? with
 | none => rfl
 | some o => cases o <;> simp
theorem qji (h : ∀ b, b < W.heap.size → W'.heap[b]? = W.heap[b]?) {p : MemPlace} (hp : p.block < W.heap.size) : W.sameAt W' p := by
 cases p with
 | cell b o => simp only [World.sameAt, World.cell?]; rw [h b hp]
 | map b => exact h b hp
theorem qhw (h : ∀ b, b < W.heap.size → W'.heap[b]? = W.heap[b]?) (b o : Nat) (hb : b < W.heap.size) : W'.frozen? ⟨b, o, none⟩ = W.frozen? ⟨b, o, none⟩ := by
 simp only [World.frozen?]; rw [h b hb]
structure Opened (enc : TypeId × Value → H) (P : Program) (W : World) (t : TypeId) (v : Value) (d : DataW H) (ps : List MemPlace) (a : AV) : Prop where
 rep : Rep (C0 W) M0 a v
 back : ∀ (W' : World) (sp : Nat → Bool), (∀ p ∈ ps, W.sameAt W' p) → (∀ p ∈ ps, sp p.block = true) → DataW.Trod enc P W' 0 sp true t v d ps
theorem qnP {tT tL tI tS : TypeId} (T : TermTys P tT tL tI tS) {r : Reach} {b0 : Nat} {v : Value} {d : DataW H} {ps : List MemPlace} (hval : Value.okWide P W r b0 tT v) (hd : DataW.Trod enc P W 0 (fun _ => true) true tT v d ps) :
  ∃ t : Tm, Opened enc P W tT v d ps t.av ∧ t.w ≤ Rows.uptoBulk d := by
 obtain ⟨f0, f1, f2, f3, hu, _⟩ := T.uT
 obtain ⟨cs, rfl, hsz⟩ := okWide_struct hu hval
 obtain ⟨n, hn⟩ := hd
 obtain ⟨t, h1, h2, h3⟩ := (qnQ T n).1 _ _ hn
 refine ⟨t, ⟨?_, fun W' sp hs hp => ⟨n, h3 W' sp hs hp⟩⟩, h2⟩
 have := Rep.agg (C := C0 W) (μ := M0) t.cells cs.toList (by
  have := h1.1
  cases t with
  | mk k n s l => rw [Tm.cells_mk]; simpa [Value.cells] using this.symm) (fun i a v ha hv => (h1.2 i a v ha (by simpa [Value.cells] using hv)).2)
 simpa [Tm.av] using this
end
theorem qpT {C : qc} {a : AV} {x : Value} (h1 : Rep C M0 a x) : qi C M0 [a] #[x] := ⟨rfl, fun i c v hc hv => by
 match i, hc, hv with
 | 0, hc, hv => simp at hc hv; subst hc hv; exact h1
 | (i + 1), hc, hv => simp at hc⟩
noncomputable def qqj : Den := evC cfg (EV cfg) 109 none 0 (sub (qe Tryz.f109) [1, 1, 0, 0, 0])
noncomputable def qqw : Ex × List AV × AH → Option AV := kAft (Cfg.keepOut cfg 109 2) (kRun cfg (EV cfg) (kfN cfg 6) 109 none 0 (xD cfg (Cfg.lift cfg 109 0) Tryz.f109.results.toList) ([.block 0, .seq (sub (qe Tryz.f109) [1, 1, 1])]))
noncomputable def qqa : List AV × AH → Option AV := fun p => kOpt (LOOP 0 (some [1, 4]) ([(4, 4)]) qqj p) qqw
noncomputable def qqi : Den := evC cfg (EV cfg) 171 none 0 (sub (qe Tryz.f171) [1, 0, 1, 0, 0])
noncomputable def qqv : Ex × List AV × AH → Option AV := kAft (Cfg.keepOut cfg 171 2) (kRun cfg (EV cfg) (kfN cfg 6) 171 none 0 (xu cfg (Cfg.lift cfg 171 0) Tryz.f171.results.toList) ([.block 0, .seq (sub (qe Tryz.f171) [1, 1])]))
noncomputable def qp9 : List AV × AH → Option AV := fun p => kOpt (LOOP 0 (some [0, 1, 5]) ([]) qqi p) qqv
noncomputable def qql : Den := evC cfg (EV cfg) 48 none 0 (sub (qe Tryz.f48) [1, 1, 1, 1, 0, 1, 0, 0])
noncomputable def qqy : Ex × List AV × AH → Option (OV × AV) := kAft (Cfg.keepOut cfg 48 6) (kRun cfg (EV cfg) (kfN cfg 6) 48 none 0 (qec cfg (Cfg.lift cfg 48 0) Tryz.f48.results.toList) ([.block 0, .seq (sub (qe Tryz.f48) [1, 1, 1, 1, 1])]))
noncomputable def qqc : List AV × AH → Option (OV × AV) := fun p => kOpt (LOOP 0 (some [4, 6, 7]) ([(6, 6)]) qql p) qqy
noncomputable def qqk : Den := evC cfg (EV cfg) 50 none 0 (sub (qe Tryz.f50) [1, 1, 0, 1, 0, 0])
noncomputable def qqx : Ex × List AV × AH → Option AV := kAft (Cfg.keepOut cfg 50 3) (kRun cfg (EV cfg) (kfN cfg 6) 50 none 0 (xD cfg (Cfg.lift cfg 50 0) Tryz.f50.results.toList) ([.block 0, .seq (sub (qe Tryz.f50) [1, 1, 1])]))
noncomputable def qqb : List AV × AH → Option AV := fun p => kOpt (LOOP 0 (some [0, 3, 4]) ([(3, 4)]) qqk p) qqx
noncomputable def qqm : Den := evC cfg (EV cfg) 13 none 0 (sub (qe Tryz.f13) [1, 1, 1, 1, 0, 1, 0, 0])
noncomputable def qqz : Ex × List AV × AH → Option AV := kAft (Cfg.keepOut cfg 13 6) (kRun cfg (EV cfg) (kfN cfg 6) 13 none 0 (xD cfg (Cfg.lift cfg 13 0) Tryz.f13.results.toList) ([.block 0, .seq (sub (qe Tryz.f13) [1, 1, 1, 1, 1])]))
noncomputable def qlK : List AV × AH → Option AV := fun p => kOpt (LOOP 0 (some [5, 7]) ([]) qqm p) qqz
noncomputable def qqh : Den := evC cfg (EV cfg) 189 none 0 (sub (qe Tryz.f189) [1, 1, 1, 1, 0, 1, 0, 0])
noncomputable def qqu : Ex × List AV × AH → Option AV := kAft (Cfg.keepOut cfg 189 6) (kRun cfg (EV cfg) (kfN cfg 6) 189 none 0 (xD cfg (Cfg.lift cfg 189 0) Tryz.f189.results.toList) ([.block 0, .seq (sub (qe Tryz.f189) [1, 1, 1, 1, 1])]))
noncomputable def qp8 : List AV × AH → Option AV := fun p => kOpt (LOOP 0 (some [1, 7, 8]) ([]) qqh p) qqu
noncomputable def qpn : Den := evC cfg (EV cfg) 231 none 0 (sub (qe Tryz.f231) [1, 1, 0, 0, 0])
noncomputable def qpr : Ex × List AV × AH → Option AV := kAft (Cfg.keepOut cfg 231 2) (kRun cfg (EV cfg) (kfN cfg 6) 231 none 0 (xD cfg (Cfg.lift cfg 231 0) Tryz.f231.results.toList) ([.block 0, .seq (sub (qe Tryz.f231) [1, 1, 1])]))
noncomputable def qpm : List AV × AH → Option AV := fun p => kOpt (LOOP 0 (some [0, 1, 5]) ([]) qpn p) qpr
noncomputable def qpp : List AV × AH → Option AV := fun p => kOpt (CUT p) fun p => q5 cfg (EV cfg) (kfN cfg 6) 231 none 0 (sub (qe Tryz.f231) [1, 1, 1]) p.1 p.2 (kRun cfg (EV cfg) (kfN cfg 6) 231 none 0 (xD cfg (Cfg.lift cfg 231 0) Tryz.f231.results.toList) ([]))
noncomputable def qpo : List AV × AH → Option AV := fun p => kOpt (CUT p) fun p => q5 cfg (EV cfg) (kfN cfg 6) 231 none 0 (sub (qe Tryz.f231) [1, 1, 1, 1]) p.1 p.2 (kRun cfg (EV cfg) (kfN cfg 6) 231 none 0 (xD cfg (Cfg.lift cfg 231 0) Tryz.f231.results.toList) ([]))
noncomputable abbrev qdS (nv4 : Nat) (c0_0 c0_1 : Int) (c0_2 : Bz) (c0_3 h1 : Rz) : Option (AV) := qqa  (((fx 23 [(1, .ptr 0 0 0), (4, .ms 1 0 nv4)]) : List AV), ([.rows false 4 [[.int .i64 c0_0, .int .i64 c0_1, .str c0_2, .sl c0_3]], .rows true 4 h1] : AH))
noncomputable abbrev qdR (L V : Rz) (v5 : Int) : Option (AV) := qp9  (((fx 19 [(0, .sl L), (1, .sl V), (5, .int .i64 v5)]) : List AV), ([] : AH))
noncomputable abbrev qdU (rows : Rz) (nv6 : Nat) (v7 : Int) (h0 : Rz) : Option (OV × AV) := qqc  (((fx 43 [(4, .sl rows), (6, .ms 0 0 nv6), (7, .int .i64 v7)]) : List AV), ([.rows true 6 h0] : AH))
noncomputable abbrev qdT (L : Rz) (nv3 : Nat) (v4 : Int) (h0 : Rz) : Option (AV) := qqb  (((fx 20 [(0, .sl L), (3, .ms 0 0 nv3), (4, .int .i64 v4)]) : List AV), ([.rows true 4 h0] : AH))
noncomputable abbrev qpM (v7 : Int) : Option (AV) := qlK  (((fx 47 [(5, .nilS), (7, .int .i64 v7)]) : List AV), ([] : AH))
noncomputable abbrev qca (sz off len : Nat) (v7 : Int) (h0 : Rz) : Option (AV) := qlK  (((fx 47 [(5, .ms 0 off len), (7, .int .i64 v7)]) : List AV), ([.rows true sz h0] : AH))
noncomputable abbrev qdQ (rows v1 : Rz) (v8 : Int) : Option (AV) := qp8  (((fx 33 [(1, .sl v1), (7, .sl rows), (8, .int .i64 v8)]) : List AV), ([] : AH))
noncomputable abbrev qcb (L : Rz) (n v5 : Int) : Option (AV) := qpm  (((fx 48 [(0, .sl L), (1, .int .i64 n), (5, .int .i64 v5)]) : List AV), ([] : AH))
noncomputable abbrev qcz (v0 : Rz) (v1 : Int) (v5 : Int) : Option (AV) := qpp  (((fx 48 [(0, AV.sl v0), (1, AV.int IntKind.i64 v1), (5, AV.int IntKind.i64 v5)]) : List AV), ([] : AH))
noncomputable abbrev qcy (v0 : Rz) (v1 : Int) (v5 : Int) : Option (AV) := qpo  (((fx 48 [(0, AV.sl v0), (1, AV.int IntKind.i64 v1), (5, AV.int IntKind.i64 v5)]) : List AV), ([] : AH))
theorem qjq (kt nt : Int) (st : Bz) (lt : Rz) {P : AV → Prop} (h : Gets (qdS 0 kt nt st lt []) P) : Gets (EVf (EV cfg) 109 [.agg [.int .i64 kt, .int .i64 nt, .str st, .sl lt]]) P :=
  gE (fun _ => funF rfl rfl Tryz.func109 rfl) (by kernel_rfl) h
theorem qkK (kt nt : Int) (st : Bz) (lt : Rz) {P : AV → Prop} (h : Gets (kOpt (EVs (EV cfg) 152 [.agg [.int .i64 kt, .int .i64 nt, .str st, .sl lt]]) fun v => kTup v fun cs => qn cs fun c cs => kInt .i64 c fun n => qn cs fun c cs => qv c fun b => kNil cs (bif b then some (.bool true) else kOpt (EVs (EV cfg) 221 [.agg [.int .i64 kt, .int .i64 nt, .str st, .sl lt]]) fun v => qv v fun b => bif b then some (.bool true) else some (.bool (kt == 7)))) P) : Gets (EVs (EV cfg) 169 [.agg [.int .i64 kt, .int .i64 nt, .str st, .sl lt]]) P :=
  gE (fun _ => funS rfl rfl Tryz.func169 rfl) (by kernel_rfl) h
theorem qjr (L V : Rz) {P : AV → Prop} (h : Gets (qdR L V 0) P) : Gets (EVs (EV cfg) 171 [.sl L, .sl V]) P :=
  gE (fun _ => funS rfl rfl Tryz.func171 rfl) (by kernel_rfl) h
noncomputable abbrev za0  : Option (AV) := some (AV.tup [.agg [.int .i64 0, .int .i64 0, .str [], .sl [], .sl [], .sl []], .bool false])
theorem qiw (kt nt : Int) (st : Bz) (lt : Rz) {P : AV → Prop} (h : Gets (bif kt != 7 then za0 else bif (lt.length : Int) != 3 then za0 else bif qo 0 (lt.length : Int) then kOpt (qsg lt 0) fun row => bif qsy (qsk row) 4 then bif qsw 4 (qsk row) then kTmC (qsr 4 row) fun n n_1 s rows => (kOpt (EVs (EV cfg) 169 [.agg [.int .i64 n, .int .i64 n_1, .str s, .sl rows]]) fun v => qv v fun b => bif ! b then some (AV.tup [.agg [.int .i64 0, .int .i64 0, .str [], .sl [], .sl [], .sl []], .bool false]) else bif qo 1 (lt.length : Int) then kOpt (qsg lt 1) fun row => bif qsy (qsk row) 4 then bif qsw 4 (qsk row) then kTmC (qsr 4 row) fun n n_2 s rows => (kOpt (EVf (EV cfg) 109 [.agg [.int .i64 n, .int .i64 n_2, .str s, .sl rows]]) fun v => kTup v fun cs => qn cs fun c cs => kSl c fun rows => qn cs fun c cs => qv c fun b => kNil cs (bif qo 2 (lt.length : Int) then kOpt (qsg lt 2) fun row => bif qsy (qsk row) 4 then bif qsw 4 (qsk row) then kTmC (qsr 4 row) fun n n_3 s rows_1 => (kOpt (EVf (EV cfg) 109 [.agg [.int .i64 n, .int .i64 n_3, .str s, .sl rows_1]]) fun v => kTup v fun cs => qn cs fun c cs => kSl c fun rows_2 => qn cs fun c cs => qv c fun b_1 => kNil cs (bif qo 0 (lt.length : Int) then kOpt (qsg lt 0) fun row => bif qsy (qsk row) 4 then bif qsw 4 (qsk row) then kTmC (qsr 4 row) fun n n_4 s rows_3 => (kOpt (EVf (EV cfg) 170 [AV.agg [.int .i64 n, .int .i64 n_4, .str s, .sl rows_3]]) fun v => kSl v fun rows_4 => bif ! b then some (AV.tup [AV.agg [.int .i64 0, .int .i64 0, .str [], .sl [], .sl [], .sl []], .bool false]) else bif ! b_1 then some (AV.tup [AV.agg [.int .i64 0, .int .i64 0, .str [], .sl [], .sl [], .sl []], .bool false]) else bif (↑ (qsk rows_2) : Int) == 0 then some (AV.tup [AV.agg [.int .i64 0, .int .i64 0, .str [], .sl [], .sl [], .sl []], .bool false]) else kOpt (EVs (EV cfg) 171 [.sl rows, .sl rows_4]) fun v => qv v fun b => bif ! b then some (AV.tup [AV.agg [.int .i64 0, .int .i64 0, .str [], .sl [], .sl [], .sl []], .bool false]) else kOpt (EVs (EV cfg) 171 [.sl rows_2, .sl rows_4]) fun v => qv v fun b => bif ! b then some (AV.tup [AV.agg [.int .i64 0, .int .i64 0, .str [], .sl [], .sl [], .sl []], .bool false]) else bif qo 0 (lt.length : Int) then kOpt (qsg lt 0) fun row => bif qsy (qsk row) 4 then bif qsw 4 (qsk row) then kTmC (qsr 4 row) fun n n_5 s rows_5 => (some (AV.tup [AV.agg [.int .i64 n, AV.int .i64 n_5, AV.str s, AV.sl rows_5, AV.sl rows, AV.sl rows_2], AV.bool true])) else none else none else none) else none else none else none)) else none else none else none)) else none else none else none) else none else none else none) P) : Gets (EVf (EV cfg) 110 [.agg [.int .i64 kt, .int .i64 nt, .str st, .sl lt]]) P :=
  gE (fun _ => funF rfl rfl Tryz.func110 rfl) (by kernel_rfl) h
theorem qfZ (kt nt : Int) (st : Bz) (lt : Rz) {P : OV × AV → Prop} (h : Gets (kOpt (EVf (EV cfg) 109 [.agg [.int .i64 kt, .int .i64 nt, .str st, .sl lt]]) fun v => kTup v fun cs => qn cs fun c cs => kSl c fun rows => qn cs fun c cs => qv c fun b => kNil cs (bif ! b then some (OV.own 6 [] 0 0, .bool false) else bif (rows.length : Int) == (0 : Int) then some (OV.own 6 [] 0 0, .bool false) else qdU rows 0 0 [])) P) : Gets (EVq (EV cfg) 48 [.agg [.int .i64 kt, .int .i64 nt, .str st, .sl lt]]) P :=
  gE (fun _ => funQ rfl rfl Tryz.func48 rfl) (by kernel_rfl) h
theorem qdf (kt nt : Int) (st : Bz) (lt : Rz) {P : AV → Prop} (h : Gets (kOpt (EVs (EV cfg) 52 [.agg [.int .i64 kt, .int .i64 nt, .str st, .sl lt]]) fun v => kInt .i64 v fun n => bif n != 0 then some (.int .i64 2) else kOpt (EVq (EV cfg) 48 [.agg [.int .i64 kt, .int .i64 nt, .str st, .sl lt]]) fun q => qv q.2 fun b => kOwn q.1 (bif ! b then some (.int .i64 10) else some (.int .i64 0)) fun sz rs off len => bif ! b then some (.int .i64 10) else some (.int .i64 0)) P) : Gets (EVs (EV cfg) 16 [.agg [.int .i64 kt, .int .i64 nt, .str st, .sl lt]]) P :=
  gE (fun _ => funS rfl rfl Tryz.func16 rfl) (by kernel_rfl) h
theorem qiu (L : Rz) {P : AV → Prop} (h : Gets (qdT L 0 0 []) P) : Gets (EVf (EV cfg) 50 [.sl L]) P :=
  gE (fun _ => funF rfl rfl Tryz.func50 rfl) (by kernel_rfl) h
theorem qbP (kt nt : Int) (st : Bz) (lt : Rz) {P : AV → Prop} (h : Gets (kOpt (EVs (EV cfg) 16 [.agg [.int .i64 kt, .int .i64 nt, .str st, .sl lt]]) fun v => kInt .i64 v fun n => bif n != 0 then some (AV.tup [.sl [], .int .i64 n]) else kOpt (EVq (EV cfg) 48 [.agg [.int .i64 kt, .int .i64 nt, .str st, .sl lt]]) fun q => qv q.2 fun b => kOwn q.1 (qpM 0) fun sz rs off len => qca sz off len 0 rs) P) : Gets (EVf (EV cfg) 13 [.agg [.int .i64 kt, .int .i64 nt, .str st, .sl lt]]) P :=
  gE (fun _ => funF rfl rfl Tryz.func13 rfl) (by kernel_rfl) h
theorem qkJ (kt nt : Int) (st : Bz) (lt : Rz) {P : AV → Prop} (h : Gets (kOpt (EVs (EV cfg) 52 [.agg [.int .i64 kt, .int .i64 nt, .str st, .sl lt]]) fun v => kInt .i64 v fun n => bif n == 0 then bif kt == 2 then some (.bool (st == [(116 : UInt8), (114 : UInt8), (117 : UInt8), (101 : UInt8)])) else some (.bool false) else some (.bool false)) P) : Gets (EVs (EV cfg) 18 [.agg [.int .i64 kt, .int .i64 nt, .str st, .sl lt]]) P :=
  gE (fun _ => funS rfl rfl Tryz.func18 rfl) (by kernel_rfl) h
theorem qmj (kt nt : Int) (st : Bz) (lt : Rz) {P : AV → Prop} (h : Gets (kOpt (EVs (EV cfg) 52 [.agg [.int .i64 kt, .int .i64 nt, .str st, .sl lt]]) fun v => kInt .i64 v fun n => bif n == 0 then bif kt == 2 then some (.bool (st == [(95 : UInt8)])) else some (.bool false) else some (.bool false)) P) : Gets (EVs (EV cfg) 221 [.agg [.int .i64 kt, .int .i64 nt, .str st, .sl lt]]) P :=
  gE (fun _ => funS rfl rfl Tryz.func221 rfl) (by kernel_rfl) h
theorem qju (kt nt : Int) (st : Bz) (lt : Rz) {P : AV → Prop} (h : Gets (bif kt == 7 then some (.sl lt) else bif kt == 9 then some (.sl lt) else some (.sl [])) P) : Gets (EVf (EV cfg) 232 [.agg [.int .i64 kt, .int .i64 nt, .str st, .sl lt]]) P :=
  gE (fun _ => funF rfl rfl Tryz.func232 rfl) (by kernel_rfl) h
theorem qeL (kp np : Int) (sp : Bz) (lp L : Rz) {P : AV → Prop} (h : Gets (kOpt (EVs (EV cfg) 152 [.agg [.int .i64 kp, .int .i64 np, .str sp, .sl lp]]) fun v => kTup v fun cs => qn cs fun c cs => kInt .i64 c fun n => qn cs fun c cs => qv c fun b => kNil cs (bif b then kOpt (EVf (EV cfg) 231 [.sl L, .int .i64 n]) fun v => kSl v fun rows => some (.sl rows) else kOpt (EVf (EV cfg) 232 [.agg [.int .i64 kp, .int .i64 np, .str sp, .sl lp]]) fun v => kSl v fun rows => qdQ rows L 0)) P) : Gets (EVf (EV cfg) 189 [.agg [.int .i64 kp, .int .i64 np, .str sp, .sl lp], .sl L]) P :=
  gE (fun _ => funF rfl rfl Tryz.func189 rfl) (by kernel_rfl) h
theorem qkM (L : Rz) (n : Int) {P : AV → Prop} (h : Gets (qcb L n 0) P) : Gets (EVf (EV cfg) 231 [.sl L, .int .i64 n]) P :=
  gE (fun _ => funF rfl rfl Tryz.func231 rfl) (by kernel_rfl) h
theorem qeM (kt nt : Int) (st : Bz) (lt : Rz) {P : AV → Prop} (h : Gets (kOpt (EVs (EV cfg) 52 [.agg [.int .i64 kt, .int .i64 nt, .str st, .sl lt]]) fun v => kInt .i64 v fun n => bif n != 0 then some (.sl []) else kOpt (EVf (EV cfg) 189 [.agg [.int .i64 kt, .int .i64 nt, .str st, .sl lt], .sl []]) fun v => kSl v fun rows => some (.sl rows)) P) : Gets (EVf (EV cfg) 170 [.agg [.int .i64 kt, .int .i64 nt, .str st, .sl lt]]) P :=
  gE (fun _ => funF rfl rfl Tryz.func170 rfl) (by kernel_rfl) h
theorem qi0 (nv4 : Nat) (c0_0 c0_1 : Int) (c0_2 : Bz) (c0_3 h1 : Rz) {P : AV → Prop} (h : Gets (bif c0_0 == 9 then bif qo 0 (c0_3.length : Int) then kOpt (qsg c0_3 0) fun row => bif qsy (qsk row) 4 then bif qsw 4 (qsk row) then kTmC (qsr 4 row) fun n n_1 s rows => (bif qsw (0 + nv4) (qsk h1) && qO (nv4 + 1) 56 then bif qo 1 (c0_3.length : Int) then kOpt (qsg c0_3 1) fun row => bif qsy (qsk row) 4 then bif qsw 4 (qsk row) then kTmC (qsr 4 row) fun n_2 n_3 s_1 rows_1 => (qdS (nv4 + 1) n_2 n_3 s_1 rows_1 (qsD (qsr nv4 h1) [[AV.int .i64 n, .int .i64 n_1, .str s, .sl rows]])) else none else none else none else none) else none else none else none else bif qsw (0 + nv4) (qsk h1) && true then some (AV.tup [.sl (qsr nv4 h1), .bool (c0_0 == 8)]) else none) P) : Gets (qdS nv4 c0_0 c0_1 c0_2 c0_3 h1) P :=
  gE (fun _ => qt (cfg := cfg) (f := 109) (rd := none) (bs := 0)) (by kernel_rfl) h
theorem qcT (L V : Rz) (v5 : Int) {P : AV → Prop} (h : Gets (bif decide (v5 < (L.length : Int)) then bif qh 0 v5 && qo v5 (L.length : Int) then kOpt (qsg L (v5.toNat)) fun row => bif qsy (qsk row) 4 then bif qsw 4 (qsk row) then kTmC (qsr 4 row) fun n n_1 s rows => (kOpt (EVs (EV cfg) 92 [.agg [.int .i64 n, .int .i64 n_1, .str s, .sl rows], .sl V]) fun v => kInt .i64 v fun n => bif n != 0 then some (.bool false) else qdR L V (IntKind.wrap .i64 (v5 + 1))) else none else none else none else some (.bool true)) P) : Gets (qdR L V v5) P :=
  gE (fun _ => qt (cfg := cfg) (f := 171) (rd := none) (bs := 0)) (by kernel_rfl) h
theorem qcV (rows : Rz) (nv6 : Nat) (v7 : Int) (h0 : Rz) {P : OV × AV → Prop} (h : Gets (bif decide (v7 < (rows.length : Int)) then bif qh 0 v7 && qo v7 (rows.length : Int) then kOpt (qsg rows (v7.toNat)) fun row => bif qsy (qsk row) 4 then bif qsw 4 (qsk row) then kTmC (qsr 4 row) fun n n_1 s rows_1 => (kOpt (EVf (EV cfg) 110 [.agg [.int .i64 n, .int .i64 n_1, .str s, .sl rows_1]]) fun v => kTup v fun cs => qn cs fun c cs => kAgg c fun cs_1 => qn cs_1 fun c cs_2 => kInt .i64 c fun n => qn cs_2 fun c cs_3 => kInt .i64 c fun n_2 => qn cs_3 fun c cs_4 => kStr c fun s => qn cs_4 fun c cs_5 => kSl c fun rows_2 => qn cs_5 fun c cs_6 => kSl c fun rows_3 => qn cs_6 fun c cs_7 => kSl c fun rows_4 => kNil cs_7 (qn cs fun c cs => qv c fun b => kNil cs (bif ! b then some (OV.own 6 [] 0 0, .bool false) else bif qsw (0 + nv6) (qsk h0) && qO (nv6 + 1) 104 then qdU rows (nv6 + 1) (IntKind.wrap .i64 (v7 + 1)) (qsD (qsr nv6 h0) [[AV.int .i64 n, .int .i64 n_2, .str s, .sl rows_2, .sl rows_3, .sl rows_4]]) else none))) else none else none else none else some (OV.own 6 h0 0 nv6, .bool true)) P) : Gets (qdU rows nv6 v7 h0) P :=
  gE (fun _ => qt (cfg := cfg) (f := 48) (rd := none) (bs := 0)) (by kernel_rfl) h
theorem qcU (L : Rz) (nv3 : Nat) (v4 : Int) (h0 : Rz) {P : AV → Prop} (h : Gets (bif decide (v4 < (L.length : Int)) then bif qh 0 v4 && qo v4 (L.length : Int) then kOpt (qsg L (v4.toNat)) fun row => bif qsy (qsk row) 4 then bif qsw 4 (qsk row) then kTmC (qsr 4 row) fun n n_1 s rows => (kOpt (EVf (EV cfg) 49 [.agg [.int .i64 n, .int .i64 n_1, .str s, .sl rows]]) fun v => kTmV v fun n n_2 s rows => (bif qsw (0 + nv3) (qsk h0) && qO (nv3 + 1) 56 then qdT L (nv3 + 1) (IntKind.wrap .i64 (v4 + 1)) (qsD (qsr nv3 h0) [[AV.int .i64 n, .int .i64 n_2, .str s, .sl rows]]) else none)) else none else none else none else bif qsw (0 + nv3) (qsk h0) && true then some (.sl (qsr nv3 h0)) else none) P) : Gets (qdT L nv3 v4 h0) P :=
  gE (fun _ => qt (cfg := cfg) (f := 50) (rd := none) (bs := 0)) (by kernel_rfl) h
theorem qcG (sz off len : Nat) (v7 : Int) (h0 : Rz) {P : AV → Prop} (h : Gets (bif decide (v7 < (↑ len : Int)) then bif qsy sz 6 && qh 0 v7 && qo v7 (↑ len : Int) then kOpt (qsg h0 (off + v7.toNat)) fun row => bif qsw 4 (qsk row) then kTmC (qsr 4 row) fun n n_1 s rows => (kOpt (EVf (EV cfg) 49 [.agg [.int .i64 n, .int .i64 n_1, .str s, .sl rows]]) fun v => kTmV v fun n n_2 s rows => (bif qsy sz 6 && qh 0 v7 && qo v7 (↑ len : Int) then kOpt (qsg h0 (off + v7.toNat)) fun row => kOpt (qsg row 4) fun v => kSl v fun rows_1 => kOpt (EVf (EV cfg) 50 [.sl rows_1]) fun v => kSl v fun rows_2 => bif qsy sz 6 && qh 0 v7 && qo v7 (↑ len : Int) then kOpt (qsg h0 (off + v7.toNat)) fun row => kOpt (qsg row 5) fun v => kSl v fun rows_3 => kOpt (EVf (EV cfg) 50 [.sl rows_3]) fun v => kSl v fun rows_4 => bif qsy sz 6 && qh 0 v7 && qo v7 (↑ len : Int) then kOpt (qsg h0 (off + v7.toNat)) fun row => bif qsw 6 (qsk row) then qca sz off len (IntKind.wrap .i64 (v7 + 1)) (List.set h0 (off + v7.toNat) (.int .i64 n :: .int .i64 n_2 :: .str s :: .sl rows :: .sl rows_2 :: .sl rows_4 :: List.drop 6 row)) else none else none else none else none)) else none else none else bif qsw (off + len) (qsk h0) && true then some (AV.tup [.sl (qsr len (List.drop off h0)), .int .i64 0]) else none) P) : Gets (qca sz off len v7 h0) P :=
  gE (fun _ => qt (cfg := cfg) (f := 13) (rd := none) (bs := 0)) (by kernel_rfl) h
theorem qcS (rows v1 : Rz) (v8 : Int) {P : AV → Prop} (h : Gets (bif decide (v8 < (rows.length : Int)) then bif qh 0 v8 && qo v8 (rows.length : Int) then kOpt (qsg rows (v8.toNat)) fun row => bif qsy (qsk row) 4 then bif qsw 4 (qsk row) then kTmC (qsr 4 row) fun n n_1 s rows_1 => (kOpt (EVf (EV cfg) 189 [.agg [.int .i64 n, .int .i64 n_1, .str s, .sl rows_1], .sl v1]) fun v => kSl v fun rows_2 => qdQ rows rows_2 (IntKind.wrap .i64 (v8 + 1))) else none else none else none else some (.sl v1)) P) : Gets (qdQ rows v1 v8) P :=
  gE (fun _ => qt (cfg := cfg) (f := 189) (rd := none) (bs := 0)) (by kernel_rfl) h
theorem qcH (L : Rz) (n v5 : Int) {P : AV → Prop} (h : Gets (bif decide (v5 < (L.length : Int)) then bif qh 0 v5 && qo v5 (L.length : Int) then kOpt (qsg L (v5.toNat)) fun row => bif qsy (qsk row) 1 then kOpt (qsg row 0) fun v => kInt .i64 v fun n_1 => bif decide (n_1 < n) then qcb L n (IntKind.wrap .i64 (v5 + 1)) else qcz L n v5 else none else none else qcz L n v5) P) : Gets (qcb L n v5) P :=
  gE (fun _ => qt (cfg := cfg) (f := 231) (rd := none) (bs := 0)) (by kernel_rfl) h
theorem qiB (v0 : Rz) (v1 v5 : Int) {P : AV → Prop} (h : Gets (bif decide (v5 < (v0.length : Int)) then bif qh 0 v5 && qo v5 (v0.length : Int) then kOpt (qsg v0 (v5.toNat)) fun row => bif qsy (qsk row) 1 then kOpt (qsg row 0) fun v => kInt .i64 v fun n => bif n == v1 then some (.sl v0) else qcy v0 v1 v5 else none else none else qcy v0 v1 v5) P) : Gets (qcz v0 v1 v5) P :=
  gE (fun _ => qj4) (by kernel_rfl) h
theorem qiA (v0 : Rz) (v1 v5 : Int) {P : AV → Prop} (h : Gets (bif qh 0 v5 && qh v5 (v0.length : Int) then bif vE 1 v0 then bif vE 1 (qsr (qsC v5 - 0) v0) then bif qO (0 + qsk (qsr (qsC v5 - 0) v0)) 8 then bif qsw (0 + (0 + qsk (qsr (qsC v5 - 0) v0))) (qsk (qsr (qsC v5 - 0) v0)) && qO (0 + qsk (qsr (qsC v5 - 0) v0) + 1) 8 then bif qh 0 v5 && qh v5 (v0.length : Int) then bif vE 1 v0 then bif vE 1 (qsr (qsk v0 - v5.toNat) (List.drop (qsC v5) v0)) then bif qsw (0 + (0 + qsk (qsr (qsC v5 - 0) v0) + 1)) (qsk (qsD (qsr (0 + qsk (qsr (qsC v5 - 0) v0)) (qsr (qsC v5 - 0) v0)) [[AV.int .i64 v1]])) && qO (0 + qsk (qsr (qsC v5 - 0) v0) + 1 + qsk (qsr (qsk v0 - v5.toNat) (List.drop (qsC v5) v0))) 8 then bif qsw (0 + (0 + qsk (qsr (qsC v5 - 0) v0) + 1 + qsk (qsr (qsk v0 - v5.toNat) (List.drop (v5.toNat) v0)))) (qsk (qsD (qsr (0 + qsk (qsr (qsC v5 - 0) v0) + 1) (qsD (qsr (0 + qsk (qsr (qsC v5 - 0) v0)) (qsr (qsC v5 - 0) v0)) [[AV.int .i64 v1]])) (qsr (qsk v0 - v5.toNat) (List.drop (v5.toNat) v0)))) && true then some (AV.sl (qsr (0 + qsk (qsr (qsC v5 - 0) v0) + 1 + qsk (qsr (qsk v0 - v5.toNat) (List.drop (v5.toNat) v0))) (qsD (qsr (0 + qsk (qsr (qsC v5 - 0) v0) + 1) (qsD (qsr (0 + qsk (qsr (qsC v5 - 0) v0)) (qsr (qsC v5 - 0) v0)) [[AV.int .i64 v1]])) (qsr (qsk v0 - v5.toNat) (List.drop (v5.toNat) v0))))) else none else none else none else none else none else none else none else none else none else none) P) : Gets (qcy v0 v1 v5) P :=
  gE (fun _ => qj4) (by kernel_rfl) h
end Go.Proofs.YtjiecipfkjaooaaGreat
end

/-
  Parts of the proof of GuardChecksUptoSaid, put together: the abstract evaluation and its contracts. Own work.
  What is proved: each lemma as it stands; no condition.
-/
import Derived.KernelRfl
import Derived.Test.YtjiecipfkjaooaaProg
import Derived.Lib.Bytealg
import Derived.Test.YtjiecipfkjaooaaRows
import Derived.ProofKit
import Derived.OpenShut
import Derived.JoinedCond
import Derived.ChangeArms
import Derived.RowKit
import Derived.WalkKit
import Derived.Test.YtjiecipfkjaooaaZGuardChecksM2
open List renaming getElem?_eq_some_iff → qnj, getElem?_eq_getElem → qnm, getElem?_append_left → qnq, getElem?_set → qnr, getElem?_append_right → qns, get?Internal → qnv, length → qnw, replicate → qnz, mem_of_getElem? → qnA, mem_append → qnC, mem_cons → qnE, take → qnH
open Option renaming bind_eq_some_iff → qnk, map_eq_some_iff → qnl, bind_some → qnt, map_some → qny
open Bool renaming and_eq_true → qnn, false_eq_true → qnu
open Nat renaming eq_of_beq_eq_true → qno, le_refl → qnp, mul_le_mul_right → qnx, beq → qnB, add_assoc → qnD, ble → qnF, add_mul → qnG
set_option maxRecDepth 1000000
set_option maxHeartbeats 0
section
namespace Go.Av
variable {α : Type}
abbrev KV (α : Type) := AV → Option α
abbrev KH (α : Type) := AV → AH → Option α
abbrev KE (α : Type) := Ex → List AV → AH → Option α
abbrev KF (α : Type) := Tgt → List AV → AH → (AV × AH → Option α) → Option α
inductive FK where
 | int (k : IntKind)
 | bool
 | str
 | sl
 | any
def yL (a b : IntKind) : Bool := decide (a = b)
def kInt (kd : IntKind) (v : AV) (k : Int → Option α) : Option α :=
 match v with
 | .int k' n => cond (yL k' kd) (k n) none
 | _ => none
def qq (v : AV) (k : Bool → Option α) : Option α :=
 match v with
 | .bool b => k b
 | _ => none
def kStr (v : AV) (k : List UInt8 → Option α) : Option α :=
 match v with
 | .str s => k s
 | _ => none
def kSl (v : AV) (k : List (List AV) → Option α) : Option α :=
 match v with
 | .sl rows => k rows
 | _ => none
def kAgg (v : AV) (k : List AV → Option α) : Option α :=
 match v with
 | .agg cs => k cs
 | _ => none
def kOpt {β : Type} (o : Option β) (k : β → Option α) : Option α :=
 match o with
 | some b => k b
 | none => none
def qM (l : List AV) (k : AV → List AV → Option α) : Option α :=
 match l with
 | c :: cs => k c cs
 | [] => none
def kNil (l : List AV) (x : Option α) : Option α :=
 match l with
 | [] => x
 | _ => none
def yN (s : FK) (v : AV) (k : KV α) : Option α :=
 match s with
 | .int kd => kInt kd v fun n => k (.int kd n)
 | .bool => qq v fun b => k (.bool b)
 | .str => kStr v fun s => k (.str s)
 | .sl => kSl v fun rows => k (.sl rows)
 | .any => k v
def yO : List FK → List AV → (List AV → Option α) → Option α
 | [], l, k => kNil l (k [])
 | s :: ss, l, k => qM l fun c cs => yN s c fun v => yO ss cs fun vs => k (v :: vs)
def qkc (sl : Bool) : TD → FK
 | .int k => .int k
 | .bool => .bool
 | .str => .str
 | .slice _ => if sl then .sl else .any
 | _ => .any
def qd6 (cfg : Cfg) (p : TypeId → Bool) : Nat → TypeId → Option (List FK)
 | 0, _ => none
 | n + 1, t =>
  match cfg.td t with
  | some (.struct fs) => (fs.foldr (fun f acc => match qd6 cfg p n f.2, acc with | some l, some a => some (l ++ a) | _, _ => none) (some []))
  | some (.array m e) => (match qd6 cfg p n e with | some l => some ((qnz m l).flatten) | none => none)
  | some d => some [qkc (p t) d]
  | none => none
def kTy1 (p : TypeId → Bool) (cfg : Cfg) (t : TypeId) (v : AV) (k : KV α) : Option α :=
 match cfg.td t with
 | some d =>
  match d with
  | .struct _ => (match qd6 cfg p 6 t with | some ss => kAgg v fun cs => yO ss cs fun vs => k (.agg vs) | none => k v)
  | .array _ _ => (match qd6 cfg p 6 t with | some ss => kAgg v fun cs => yO ss cs fun vs => k (.agg vs) | none => k v)
  | d => yN (qkc (p t) d) v k
 | none => k v
def kTup (v : AV) (k : List AV → Option α) : Option α :=
 match v with
 | .tup cs => k cs
 | _ => none
def kTys (p : TypeId → Bool) (cfg : Cfg) : List TypeId → List AV → (List AV → Option α) → Option α
 | [], l, k => kNil l (k [])
 | t :: ts, l, k => qM l fun c cs => kTy1 p cfg t c fun v => kTys p cfg ts cs fun vs => k (v :: vs)
def kTy (p : TypeId → Bool) (cfg : Cfg) (t : TypeId) (v : AV) (k : KV α) : Option α :=
 match cfg.tup t with
 | some ts => kTup v fun cs => kTys p cfg ts cs fun vs => k (.tup vs)
 | none => kTy1 p cfg t v k
def AV.regA (i : Nat) : AV → AV
 | .agg cs => .agg (cs.map (AV.regn i))
 | a => a
def noTy : TypeId → Bool := fun _ => false
def qbf : TypeId → Bool := fun _ => true
def qm7 (cfg : Cfg) (H : AH) (a : AV) : TypeId → Bool :=
 match a with
 | .cptr _ _ => cfg.dat
 | .ptr id _ _ => if q6 H id then cfg.dat else noTy
 | _ => noTy
def kNew (nid : Option Nat) (H : AH) (b : ABlk) (k : Nat → AH → Option α) : Option α :=
 match nid with
 | none => k H.length (H ++ [b])
 | some i => kOpt H[i]? fun x => match x with | .res => k i (H.set i b) | _ => none
def qjr (cfg : Cfg) (t : TypeId) : Bool := match cfg.td t with | some d => d.agg | none => false
def yZ (agg : Bool) (v : AV) (k : List AV → Option α) : Option α :=
 cond agg (kAgg v fun cs => cond (qV cs) (k cs) none) (cond v.isCell (k [v]) none)
def qi5 (t : Bool) (a b : AV) (k : KV α) : Option α :=
 match a, b with
 | .bool p, .bool q => k (.bool (cond t p q))
 | .int k1 p, .int k2 q => cond (yL k1 k2) (k (.int k1 (cond t p q))) (cond t (k a) (k b))
 | a, b => cond t (k a) (k b)
def qeg (place : Nat → Option (Nat × Nat × Bool)) (cells : List AV) : List (Nat × AV) → (List AV → Option α) → Option α
 | [], k => k cells
 | (i, v) :: rest, k =>
  match place i with
  | some (off, size, agg) => yZ agg v fun cs => cond (qnB cs.length size && qnF (off + size) cells.length) (qeg place (cells.take off ++ cs ++ cells.drop (off + size)) rest k) none
  | none => none
def qcc (cfg : Cfg) : List (Nat × TypeId) → Option (List (Nat × Nat × Bool))
 | [] => some []
 | (off, t) :: l =>
  match cfg.sz t, qcc cfg l with
  | some n, some ps => some ((off, n, qjr cfg t) :: ps)
  | _, _ => none
def qgc (agg : Bool) (n : Nat) (rows : List (List AV)) : List (Nat × AV) → (List (List AV) → Option α) → Option α
 | [], k => k rows
 | (i, v) :: rest, k => yZ agg v fun cs => cond (qnB cs.length n && Nat.blt i rows.length) (qgc agg n (rows.set i cs) rest k) none
def kBlk (H : AH) (id : Nat) (k : Nat → List (List AV) → Option α) : Option α :=
 kOpt H[id]? fun b => match b with | .rows _ sz rs => k sz rs | .froz _ sz rs => k sz rs | _ => none
def qch (H : AH) (id : Nat) (k : Bool → Nat → List (List AV) → Option α) : Option α :=
 kOpt H[id]? fun b => match b with | .rows d sz rs => k d sz rs | _ => none
def y4 (agg : Bool) (n : Nat) (cells : List AV) (off : Nat) (k : KV α) : Option α :=
 cond agg (cond (qnF (off + n) cells.length) (k (.agg ((cells.drop off).take n))) none) (kOpt cells[off]? k)
def qed (agg : Bool) (n : Nat) (H : AH) (p : AV) (k : KV α) : Option α :=
 match p with
 | .ptr id r off => kBlk H id fun _ rs => kOpt rs[r]? fun row => y4 agg n row off k
 | .cptr cs off => y4 agg n cs off k
 | .lpt cs off => y4 agg n (cs.map AV.lend) off k
 | .rpt id cs off => kOpt H[id]? fun b => match b with
  | .reg => y4 agg n (cs.map (AV.regn id)) off k
  | .spl => cond agg (cond (qnB n 4) (yO [.int .i64, .int .i64, .str, .sl] ((cs.drop off).take 4) fun vs => k (.alt [.agg (vs.map (AV.regn id)), .agg qca, .agg row0])) none) (kOpt (qeX cs off) fun rows => k (.rsl id rows))
  | _ => none
 | _ => none
def qgM (agg : Bool) (n : Nat) (H : AH) (p v : AV) (k : AH → Option α) : Option α :=
 match p with
 | .ptr id r off => yZ agg v fun cs => qch H id fun d sz rs => kOpt rs[r]? fun row => cond (qnB cs.length n && qnF (off + n) row.length) (k (H.set id (.rows (d && qe 0 cs) sz (rs.set r (row.take off ++ cs ++ row.drop (off + n)))))) none
 | .rpt id cs off => kOpt H[id]? fun b => match b with | .spl => cond (qnB n 4) (cond (yU ((cs.drop off).take 4) && is77 v) (k H) none) (cond (qnB n 7 && qem (cs.drop off) && zI v) (k H) none) | _ => none
 | _ => none
def qbM (v : AV) (k : KV α) : Option α :=
 match v with
 | .ptr id r off => k (.ptr id r off)
 | .cptr cs off => k (.cptr cs off)
 | .fn (.func f) a b => k (.fn (.func f) a b)
 | .mp id => k (.mp id)
 | .yld id => k (.yld id)
 | _ => none
def ql (a b : Int) : Bool := decide (a ≤ b)
def qA (a b : Int) : Bool := decide (a < b)
def qbO (lo hi : Nat) (x : Option AV) (dflt : Nat) (k : Nat → Option α) : Option α :=
 match x with
 | none => k dflt
 | some v => match v with | .int _ i => cond (ql lo i && ql i hi) (k i.toNat) none | _ => none
def yY (n : Nat) (lo hi mx : Option AV) (k : Nat → Nat → Option α) : Option α :=
 cond (hi.isNone && mx.isSome) none (qbO 0 n hi n fun h => qbO h n mx h fun _ => qbO 0 h lo 0 fun l => k l h)
def qgN (cfg : Cfg) (t : TypeId) (H : AH) (x : AV) (lo hi mx : Option AV) (k : KV α) : Option α :=
 match cfg.td t with
 | some .str => (match mx with | none => (match x with | .str s => yY s.length lo hi none fun l h => k (.str ((s.drop l).take (h - l))) | _ => none) | _ => none)
 | some (.slice e) =>
  match cfg.sz e with
  | some n =>
   match x with
   | .nilS => yY 0 lo hi mx fun _ _ => k .nilS
   | .sl rows => yY rows.length lo hi mx fun l h => cond (xj n rows) (match cfg.ems t with | false => k (.sl ((rows.drop l).take (h - l))) | true => k (slE true rows l h)) none
   | .ms id off len => yY len lo hi mx fun l h => kBlk H id fun sz _ => cond (qnB sz n) (k (.ms id (off + l) (h - l))) none
   | .wr _ v => (match lo, hi, mx with
    | none, some hv, none => (match hv with
     | .int _ h => (match v with
      | .sl rows => cond (ql 0 h && ql h rows.length) (k (.wr h.toNat (.sl rows))) none
      | .ms id off len => cond (ql 0 h && ql h len) (k (.wr h.toNat (.ms id off len))) none
      | _ => none)
     | _ => none)
    | _, _, _ => none)
   | _ => none
  | none => none
 | _ => none
def qa3 (cfg : Cfg) (t : TypeId) (H : AH) (x i : AV) (k : KV α) : Option α :=
 match i with
 | .int _ i =>
  match cfg.td t with
  | some (.slice e) =>
   match cfg.sz e with
   | some n =>
    match x with
    | .ms id off len => kBlk H id fun sz _ => cond (qnB sz n && ql 0 i && qA i len) (k (.ptr id (off + i.toNat) 0)) none
    | .sl rows => cond (ql 0 i && qA i rows.length) (kOpt rows[i.toNat]? fun row => cond (qnB row.length n) (k (.cptr row 0)) none) none
    | .lsl rows => cond (ql 0 i && qA i rows.length) (kOpt rows[i.toNat]? fun row => cond (qnB row.length n) (k (.lpt row 0)) none) none
    | .rsl id rows => cond (ql 0 i && qA i rows.length) (kOpt rows[i.toNat]? fun row => cond (qnB row.length n) (k (.rpt id row 0)) none) none
    | _ => none
   | none => none
  | some (.array n e) =>
   match cfg.sz e with
   | some sz =>
    match x with
    | .ptr id r off => cond (ql 0 i && qA i n) (k (.ptr id r (off + i.toNat * sz))) none
    | .cptr cs off => cond (ql 0 i && qA i n) (k (.cptr cs (off + i.toNat * sz))) none
    | _ => none
   | none => none
  | _ => none
 | _ => none
def qgV (cfg : Cfg) (t : TypeId) (x i : AV) (k : KV α) : Option α :=
 match i with
 | .int _ i =>
  match cfg.td t with
  | some (.array n e) =>
   match cfg.ty e with
   | some ti => kAgg x fun cs => cond (ql 0 i && qA i n) (y4 ti.d.agg ti.sz cs (i.toNat * ti.sz) k) none
   | none => none
  | some .str => kStr x fun s => cond (ql 0 i) (kOpt s[i.toNat]? fun b => k (.int .u8 b.toNat)) none
  | _ => none
 | _ => none
def qgW (cfg : Cfg) (t : TypeId) (x : AV) (f : Nat) (k : KV α) : Option α :=
 match cfg.td t with
 | some (.struct fs) =>
  match fs[f]? with
  | some (off, ft) => (match cfg.ty ft with | some ti => kAgg x fun cs => y4 ti.d.agg ti.sz cs off k | none => none)
  | none => none
 | _ => none
def qa7 (cfg : Cfg) (t : TypeId) (x : AV) (f : Nat) (k : KV α) : Option α :=
 match cfg.td t with
 | some (.struct fs) =>
  match fs[f]? with
  | some (o, ft) =>
   match cfg.sz ft with
   | some (_ + 1) => (match x with | .ptr id r off => k (.ptr id r (off + o)) | .cptr cs off => k (.cptr cs (off + o)) | .rpt id cs off => k (.rpt id cs (off + o)) | _ => none)
   | _ => none
  | none => none
 | _ => none
def qdc (cfg : Cfg) (nid : Option Nat) (src dst : TypeId) (x : AV) (H : AH) (k : KH α) : Option α :=
 match cfg.td src, cfg.td dst with
 | some (.int _), some (.int kd) => (match x with | .int _ n => k (.int kd (kd.wrap n)) H | _ => none)
 | some .str, some .str => kStr x fun s => k (.str s) H
 | some .str, some (.slice e) =>
  match cfg.td e with
  | some (.int .u8) => kStr x fun s => kNew nid H (.rows true 1 (xu s)) fun i H' => k (.ms i 0 s.length) H'
  | _ => none
 | some (.slice e), some .str =>
  match cfg.td e with
  | some (.int .u8) => kOpt (vB H 1 x) fun rows => kOpt (vq rows) fun bs => k (.str bs) H
  | _ => none
 | _, _ => none
def qe5 (H : AH) (n : Nat) (x : AV) (k : List (List AV) → Option α) : Option α :=
 match x with
 | .nilS => k []
 | .em => k []
 | .sl rows => cond (xj n rows) (k rows) none
 | .ms id off len => kBlk H id fun sz rs => cond (qnB sz n && qnF (off + len) rs.length) (k ((rs.drop off).take len)) none
 | _ => none
def kSrc (isStr : Bool) (H : AH) (n : Nat) (x : AV) (k : List (List AV) → Option α) : Option α :=
 cond isStr (kStr x fun b => cond (qnB n 1) (k (xu b)) none) (qe5 H n x k)
def qin (cfg : Cfg) (t : TypeId) : Bool := match cfg.td t with | some .str => true | _ => false
def qe7 (cfg : Cfg) (nid : Option Nat) (t xt : TypeId) (s x : AV) (H : AH) (k : KH α) : Option α :=
 match cfg.td t, cfg.td xt with
 | some (.slice e), some xd =>
  match cfg.ty e with
  | some ei =>
   cond (xd.notInt && Nat.blt 0 ei.sz && qnB ei.zero.length ei.sz)
    (kSrc (qin cfg xt) H ei.sz x fun news =>
     match s with
     | .nilS => cond news.isEmpty (k .nilS H) (cond (xT news.length ei.bytes) (kNew nid H (.rows (q8 H x) ei.sz news) fun i H' => k (.ms i 0 news.length) H') none)
     | .ms id off len => qch H id fun d sz rs => cond (qnB sz ei.sz && qnF (off + len) rs.length && xT (len + news.length) ei.bytes)
       (kNew nid (H.set id .dead) (.rows (d && q8 H x) sz ((rs.drop off).take len ++ news)) fun i H' => k (.ms i 0 (len + news.length)) H') none
     | _ => none) none
  | none => none
 | _, _ => none
def kLen (cfg : Cfg) (t : TypeId) (x : AV) (H : AH) (k : KV α) : Option α :=
 match cfg.td t with
 | some .str => kStr x fun s => k (.int .i64 s.length)
 | some (.slice _) => (match x with | .nilS => k (.int .i64 0) | .em => k (.int .i64 0) | .sl rows => k (.int .i64 rows.length) | .ms _ _ len => k (.int .i64 len) | .lsl rows => k (.int .i64 rows.length) | .rsl _ rows => k (.int .i64 rows.length) | _ => none)
 | some (.array n _) => k (.int .i64 n)
 | some (.map _ _) => (match x with | .nilM => k (.int .i64 0) | .mp id => (kOpt H[id]? fun b => match b with | .mp es => k (.int .i64 es.length) | _ => none) | _ => none)
 | _ => none
def qge (cfg : Cfg) (nid : Option Nat) (t : TypeId) (len cap : AV) (H : AH) (k : KH α) : Option α :=
 match cfg.td t with
 | some (.slice e) =>
  match cfg.ty e with
  | some ei =>
   cond (xk ei) (kInt .i64 len fun n => kInt .i64 cap fun c =>
    cond (ql 0 n && ql n c && ql (c * ei.bytes) 140737488355328 && ql c 9223372036854775807) (kNew nid H (.rows true ei.sz (qnz n.toNat ei.zero)) fun i H' => k (.ms i 0 n.toNat) H') none) none
  | none => none
 | _ => none
def qgS (cfg : Cfg) (nid : Option Nat) (t : TypeId) (len cap : AV) (H : AH) (k : KH α) : Option α :=
 match cfg.wrt t with
 | false => qge cfg nid t len cap H k
 | true =>
  match len, cap with
  | .int _ n, .int _ c => cond (decide (n = c)) (qge cfg nid t len cap H fun v H' => match v with | .ms id off l => k (.wr l (.ms id off l)) H' | _ => none) none
  | _, _ => none
def kCap (cfg : Cfg) (t : TypeId) (x : AV) (k : KV α) : Option α :=
 match cfg.td t with
 | some (.slice _) => (match x with | .wr _ v => (match v with | .sl rows => k (.int .i64 rows.length) | .ms _ _ len => k (.int .i64 len) | _ => none) | _ => none)
 | _ => none
def qgX (cfg : Cfg) (t : TypeId) (x : AV) (H : AH) (k : AH → Option α) : Option α :=
 match cfg.td t with
 | some (.slice e) =>
  match x with
  | .nilS => k H
  | .ms id off len =>
   match cfg.ty e with
   | some ei => qch H id fun d sz rs => cond (xk ei && qnB sz ei.sz && qnF (off + len) rs.length) (k (H.set id (.rows d sz (rs.take off ++ qnz len ei.zero ++ rs.drop (off + len))))) none
   | none => none
  | _ => none
 | _ => none
def qi9 (cfg : Cfg) (t xt : TypeId) (d s : AV) (H : AH) (k : KH α) : Option α :=
 match cfg.td t with
 | some (.slice e) =>
  match d with
  | .ms id off len =>
   match cfg.sz e with
   | some n => qch H id fun d sz rs => kSrc (qin cfg xt) H n s fun news => cond (qnB sz n && qnF (off + len) rs.length && Nat.blt 0 sz)
     (k (.int .i64 (Nat.min news.length len)) (H.set id (.rows (d && q8 H s) sz (rs.take off ++ news.take len ++ rs.drop (off + (news.take len).length))))) none
   | none => none
  | _ => none
 | _ => none
def kOp (cfg : Cfg) (nid : Option Nat) (o : Op) (ty : TypeId) (x : Operand → AV) (H : AH) (k : KH α) : Option α :=
 match o with
 | .move a | .assign a => k (x a) H
 | .pick c a b => qq (x c) fun t => qi5 t (x a) (x b) fun v => k v H
 | .alloc t =>
  match cfg.ty t with
  | some ti => cond (qV ti.zero) (kNew nid H (.rows (bigZ (cfg.fga t ti.zero)) ti.zero.length [cfg.fga t ti.zero]) fun i H' => k (.ptr i 0 0) H') none
  | none => none
 | .box t a => yZ (qjr cfg t) (x a) fun cs => kNew nid H (.rows (bigZ cs) cs.length [cs]) fun i H' => k (.ptr i 0 0) H'
 | .build t parts =>
  match cfg.ty t with
  | some ti =>
   cond (qV ti.zero)
    (match ti.d with
    | .struct fs =>
     match qcc cfg fs with
     | some ps => qeg (fun i => ps[i]?) ti.zero (parts.toList.map fun p => (p.1, x p.2)) fun cs => k (.agg (cfg.fga t cs)) H
     | none => none
    | .array _ e =>
     match cfg.sz e with
     | some n => qeg (fun i => some (i * n, n, qjr cfg e)) ti.zero (parts.toList.map fun p => (p.1, x p.2)) fun cs => k (.agg cs) H
     | none => none
    | _ => none) none
  | none => none
 | .buildSlice t len parts =>
  match cfg.td t with
  | some (.slice e) =>
   match cfg.ty e with
   | some ei =>
    cond (xk ei && qnF (len * ei.sz) 16777216)
     (qgc ei.d.agg ei.sz (qnz len ei.zero) (parts.toList.map fun p => (p.1, x p.2)) fun rows => kNew nid H (.rows (qi 0 rows) ei.sz rows) fun i H' => k (.ms i 0 len) H') none
   | none => none
  | _ => none
 | .load t a =>
  match cfg.ty t with
  | some ti => match x a with
   | .lpt cs off => y4 ti.d.agg ti.sz cs off fun v => kTy cfg.dat cfg t v fun v => cond ti.d.agg (k v.lendA H) (k v.lend H)
   | .rpt id cs off => kOpt H[id]? fun b => match b with
    | .reg => y4 ti.d.agg ti.sz cs off fun v => kTy cfg.dat cfg t v fun v => cond ti.d.agg (k (v.regA id) H) (k (v.regn id) H)
    | _ => qed ti.d.agg ti.sz H (.rpt id cs off) fun v => k v H
   | p => qed ti.d.agg ti.sz H p fun v => kTy (qm7 cfg H p) cfg t v fun v => k v H
  | none => none
 | .store t a v =>
  match cfg.ty t with
  | some ti => qgM ti.d.agg ti.sz H (x a) (x v) fun H' => k .junk H'
  | none => none
 | .nilCheck a => qbM (x a) fun v => k v H
 | .binOp op t a b _ => kOpt (aBin cfg (litN a b) op t (x a) (x b)) fun v => kTy noTy cfg ty v fun v => k v H
 | .unOp op _ a => kOpt (aUn op (x a)) fun v => kTy noTy cfg ty v fun v => k v H
 | .convert s d a => qdc cfg nid s d (x a) H k
 | .makeFunc f first caps => k (.fn f (first.toList.map x) (caps.toList.map x)) H
 | .makeSlice t l c => qgS cfg nid t (x l) (x c) H k
 | .slice t a lo hi mx => qgN cfg t H (x a) (lo.map x) (hi.map x) (mx.map x) fun v => k v H
 | .fieldAddr t a f => qa7 cfg t (x a) f fun v => k v H
 | .field t a f => qgW cfg t (x a) f fun v => kTy noTy cfg ty v fun v => k v H
 | .indexAddr t a i => qa3 cfg t H (x a).unwr (x i) fun v => k v H
 | .index t a i => qgV cfg t (x a) (x i) fun v => kTy noTy cfg ty v fun v => k v H
 | .extract t i => (match x t with | .tup vs => kOpt vs[i]? fun v => kTy noTy cfg ty v fun v => k v H | _ => none)
 | .call c =>
  match c.callee with
  | .builtin b =>
   match b, c.args.toList, c.argTypes.toList with
   | .len, [a], [t] => kLen cfg t (x a).unwr H fun v => k v H
   | .cap, [a], [t] => kCap cfg t (x a) fun v => k v H
   | .append, [s, a], [t, xt] => qe7 cfg nid t xt (x s) (x a) H k
   | .copy, [d, s], [t, xt] => qi9 cfg t xt (x d).unwr (x s) H k
   | .clear, [a], [t] => qgX cfg t (x a) H fun H' => k (.tup []) H'
   | .min, [a, b], _ => kOpt (aMin (fun b a => decide (b < a)) [x a, x b]) fun v => kTy noTy cfg ty v fun v => k v H
   | .max, [a, b], _ => kOpt (aMin (fun b a => decide (a < b)) [x a, x b]) fun v => kTy noTy cfg ty v fun v => k v H
   | _, _, _ => none
  | _ => none
 | _ => none
def qcf (g s : Bool) (H : AH) (v : AV) (k : KV α) : Option α :=
 match v with
 | .ms id off len => kBlk H id fun _ rs => cond (qnF (off + len) rs.length && (q6 H id || qi 0 ((rs.drop off).take len))) (k (.sl ((rs.drop off).take len))) none
 | .nilS => k (cond g (.sl []) .nilS)
 | .em => k (cond g (.sl []) .em)
 | .wr n v => (match v with | .sl rows => k (cond g (.sl (rows.take n)) (.wr n (.sl rows))) | _ => none)
 | .ptr id r off => cond s (kBlk H id fun _ rs => kOpt rs[r]? fun row => cond (qe 0 row) (k (.cptr row off)) none) (k (.ptr id r off))
 | .rsl id rows => cond s (kOpt H[id]? fun b => match b with | .reg => k (.sl rows) | _ => none) (k (.rsl id rows))
 | a => k a
def yo (g s : Bool) (H : AH) : List AV → (List AV → Option α) → Option α
 | [], k => k []
 | a :: l, k => qcf g s H a fun a => yo g s H l fun l => k (a :: l)
def qa5 (s : Bool) (H : AH) (v : AV) (k : KV α) : Option α :=
 match v with
 | .agg cs => yo true s H cs fun cs => k (.agg cs)
 | .tup cs => cond s (k ((AV.tup cs).fg)) (yo true s H cs fun cs => k (.tup cs))
 | .fn f a b => cond s (yo false s H a fun a => yo false s H b fun b => k (.fn f a b)) (k (.fn f a b))
 | a => qcf true s H a k
def qi6 (H : AH) (v : AV) (k : KV α) : Option α :=
 match v with
 | .agg cs => yo false false H cs fun cs => k (.agg cs)
 | .tup cs => yo false false H cs fun cs => k (.tup cs)
 | a => qcf false false H a k
def qbN (H : AH) : List AV → (List AV → Option α) → Option α
 | [], k => k []
 | a :: l, k => qi6 H a fun a => qbN H l fun l => k (a :: l)
def qgi (H : AH) : List AV → (List AV → Option α) → Option α
 | [], k => k []
 | a :: l, k => qa5 true H a fun a => qgi H l fun l => k (a :: l)
inductive OV where
 | nil
 | own (sz : Nat) (rs : List (List AV)) (off len : Nat)
def ovOf (r : AV × AH) : Option OV :=
 match r.1 with
 | .nilS => some .nil
 | .ms id off len =>
  match r.2[id]? with
  | some (.rows d sz rs) => if d || qi 0 rs then some (.own sz rs off len) else none
  | _ => none
 | _ => none
def qlp (r : AV × AH) : Option (OV × AV) :=
 match r.1 with
 | .tup [a, s] => cond s.scalar1 (match ovOf (a, r.2) with | some o => some (o, s) | none => none) none
 | _ => none
def EVd (cf : Orac) (f : Nat) (args : List AV) (sz : Nat) (rs : List (List AV)) : Option (AV × List (List AV)) := (cf (.f f) args [.rows true sz rs]).bind (qg5 sz)
def EVx (cf : Orac) (f : Nat) (args : List AV) (sz : Nat) (rs : List (List AV)) : Option (AV × List (List AV)) := (cf (.f f) args [.rows false sz rs]).bind (qgr sz)
open Classical in
noncomputable def EVk (cf : Orac) (f : Nat) (args : List AV) (sz : Nat) (rs : List (List AV)) : Option AV := (EVx cf f args sz rs).bind fun q => if q.2 = rs then some q.1 else none
theorem qlm {cf : Orac} {f : Nat} {args : List AV} {sz : Nat} {rs : List (List AV)} {v : AV} (h : EVk cf f args sz rs = some v) : EVx cf f args sz rs = some (v, rs) := by
 unfold EVk at h
 obtain ⟨q, h1, h2⟩ := qnk.1 h
 split at h2
 ·rename_i e
  rw [h1, ← Option.some.inj h2, ← e]
 ·cases h2
def EVs (cf : Orac) (f : Nat) (args : List AV) : Option AV := (cf (.f f) args []).map fun r => r.1
def EVf (cf : Orac) (f : Nat) (args : List AV) : Option AV := (cf (.f f) args []).map fun r => (r.1.frz r.1.msIds r.2).fg
def EVo (cf : Orac) (f : Nat) (args : List AV) : Option OV := (cf (.f f) args []).bind ovOf
def EVw (cf : Orac) (f : Nat) (args : List AV) : Option AV := (cf (.f f) args []).map fun r => r.1.frzW r.1.msIdsW r.2
def kWr (v : AV) (k : Nat → List (List AV) → Option α) : Option α :=
 match v with
 | .wr n (.sl rows) => k n rows
 | _ => none
def EVn (cf : Orac) (f : Nat) (args : List AV) : Option AV := (cf (.f f) args []).bind fun r => qf8 r.2 r.1
def EVg (cf : Orac) (f : Nat) (args : List AV) : Option AV := (cf (.f f) args []).bind fun r => qdP r.2 r.1
def EVz (cf : Orac) (f : Nat) (a : AV) : Option Unit := (cf (.f f) [a] [.spl]).bind qe1
def qel (cf : Orac) (f : Nat) : List AV → Option α → Option α
 | [], k => k
 | a :: l, k => kOpt (EVz cf f a) fun _ => qel cf f l k
def EVq (cf : Orac) (f : Nat) (args : List AV) : Option (OV × AV) := (cf (.f f) args []).bind qlp
def kOwn (o : OV) (x : Option α) (k : Nat → List (List AV) → Nat → Nat → Option α) : Option α :=
 match o with
 | .nil => x
 | .own sz rs off len => k sz rs off len
inductive MV where
 | unit
 | nil
 | sl (off len : Nat)
 | int (k : IntKind) (n : Int)
 | bool (b : Bool)
def mvOf : AV → Option MV
 | .tup [] => some .unit
 | .nilS => some .nil
 | .ms id off len => if qnB id 0 then some (.sl off len) else none
 | .int k n => some (.int k n)
 | .bool b => some (.bool b)
 | _ => none
def MV.av (id : Nat) : MV → AV
 | .unit => .tup []
 | .nil => .nilS
 | .sl off len => .ms id off len
 | .int k n => .int k n
 | .bool b => .bool b
def EVm (cf : Orac) (f : Nat) (args : List AV) (sz : Nat) (rs : List (List AV)) : Option (MV × List (List AV)) :=
 (cf (.f f) args [.rows true sz rs]).bind fun r => (qgF sz r).bind fun q => (mvOf q.1).map fun v => (v, q.2)
def EVu (cf : Orac) (f : Nat) (args : List AV) : Option MV := (cf (.f f) args []).bind fun r => if r.1.refsLt 0 then mvOf r.1 else none
def kMSl (v : MV) (x : Option α) (k : Nat → Nat → Option α) : Option α :=
 match v with
 | .nil => x
 | .sl off len => k off len
 | _ => none
def qgT (v : MV) (x : Option α) : Option α :=
 match v with
 | .unit => x
 | _ => none
def qgg (kd : IntKind) (v : MV) (k : Int → Option α) : Option α :=
 match v with
 | .int q n => cond (yL q kd) (k n) none
 | _ => none
def qgU (v : MV) (k : Bool → Option α) : Option α :=
 match v with
 | .bool b => k b
 | _ => none
def qj9 (cfg : Cfg) (ty : TypeId) : Nat :=
 match cfg.td ty with
 | some (.slice _) => 1
 | some (.int _) => 2
 | some .bool => 3
 | _ => 0
def qlq (cfg : Cfg) (ty : TypeId) : IntKind :=
 match cfg.td ty with
 | some (.int k) => k
 | _ => .i64
def qgf (kd : Nat) (ik : IntKind) (id : Nat) (v : MV) (k : KV α) : Option α :=
 match kd with
 | 0 => qgT v (k (.tup []))
 | 1 => kMSl v (k .nilS) fun off len => k (.ms id off len)
 | 2 => qgg ik v fun n => k (.int ik n)
 | _ => qgU v fun b => k (.bool b)
noncomputable def qcg (cfg : Cfg) (cf : Orac) (kf : KF α) (nid : Option Nat) (ty : TypeId) (t : Tgt) (args : List AV) (H : AH) (k : KH α) : Option α :=
 match t with
 | .y id => kf (.y id) args H fun r => kOpt (yg nid H.length r.1 r.2) fun r => kTy noTy cfg ty r.1 fun v => k v r.2
 | .f f =>
  match cfg.mode f with
  | .scal => qgi H args fun al => cond (qe 0 al) (match cfg.inl f with
   | some _ => kf (.f f) al [] fun r => kTy noTy cfg ty r.1 fun v => cond v.scalar (k v H) none
   | none => kOpt (EVs cf f al) fun v => kTy noTy cfg ty v fun v => cond v.scalar (k v H) none) none
  | .pfrz => cond (qe 0 (args.map AV.fg)) (match cfg.inl f with
   | some _ => kf (.f f) (args.map AV.fg) [] fun r => qa5 false r.2 r.1 fun v => kTy qbf cfg ty v fun v => cond (v.refsLt 0) (k v H) none
   | none => kOpt (EVf cf f (args.map AV.fg)) fun v => kTy qbf cfg ty v fun v => cond (v.refsLt 0) (k v H) none) none
  | .wfrz => cond (qe 0 args) (kOpt (EVw cf f args) fun v => match cfg.td ty with
    | some (.slice _) => kWr v fun n rows => k (.wr n (.sl rows)) H
    | _ => kTy noTy cfg ty v fun v => cond (v.refsLt 0) (k v H) none) none
  | .nfrz => cond (qe 0 (args.map AV.fg)) (kOpt (EVn cf f (args.map AV.fg)) fun V => kTy qbf cfg ty V fun V => k V.lendT H) none
  | .pown => match cfg.tup ty with
   | some [_, t2] => cond (qe 0 args) (kOpt (EVq cf f args) fun q => kTy1 noTy cfg t2 q.2 fun s => kOwn q.1 (k (.tup [.nilS, s]) H) fun sz rs off len => kNew nid H (.rows true sz rs) fun i H' => k (.tup [.ms i off len, s]) H') none
   | _ => cond (qe 0 args) (match cfg.inl f with
   | some _ => kf (.f f) args [] fun r => kOpt (ovOf r) fun o => kOwn o (k .nilS H) fun sz rs off len => kNew nid H (.rows true sz rs) fun i H' => k (.ms i off len) H'
   | none => kOpt (EVo cf f args) fun o => kOwn o (k .nilS H) fun sz rs off len => kNew nid H (.rows true sz rs) fun i H' => k (.ms i off len) H') none
  | .inpl =>
   match qt 0 args with
   | id :: l => cond (vr [id] l) (kOpt H[id]? fun b => match b with
     | .rows d sz rs => cond (d || qi 0 rs) (kOpt (EVm cf f (renL (fun _ => 0) args) sz rs) fun q => qgf (qj9 cfg ty) (qlq cfg ty) id q.1 fun v => k v (H.set id (.rows true sz q.2))) none
     | _ => none) none
   | [] => cond (qe 0 args) (kOpt (EVu cf f args) fun v => qgf (qj9 cfg ty) (qlq cfg ty) 0 v fun v => k v H) none
  | .imp => kf (.f f) args H fun r => kOpt (yg nid H.length r.1 r.2) fun r => kTy noTy cfg ty r.1 fun v => k v r.2
  | .ifrz => kf (.f f) args H fun r => kOpt (yg nid H.length (r.1.frz r.1.msIds r.2) (qp r.1.msIds r.2)) fun r => kTy noTy cfg ty r.1 fun v => k v r.2
  | .inpf =>
   match qt 0 args with
   | id :: l => cond (vr [id] l) (kOpt H[id]? fun b => match b with
     | .rows d sz rs => cond (d || qi 0 rs) (kOpt (EVd cf f (renL (fun _ => 0) args) sz rs) fun q => kTy qbf cfg ty q.1 fun v => k v (H.set id (.rows true sz q.2))) none
     | _ => none) none
   | [] => none
  | .slf =>
   match qt 0 args with
   | id :: l => cond (vr [id] l) (kOpt H[id]? fun b => match b with
     | .rows _ sz rs => cond (vr [id] (vX 0 rs)) (kOpt (EVk cf f (renL (fun _ => 0) args) sz (renR (fun _ => 0) rs)) fun q => kTy qbf cfg ty q fun v => k v (H.set id (.rows false sz (renR (fun _ => id) (renR (fun _ => 0) rs))))) none
     | _ => none) none
   | [] => none
  | .rgn => cond (qe 0 (args.map AV.fg)) (kOpt (EVg cf f (args.map AV.fg)) fun V => kTy qbf cfg ty V fun V => kNew nid H .reg fun i H' => k (rgIn i V) H') none
  | .over =>
   match args with
   | [a] =>
    (match qt 0 a.alts with
    | id :: l => cond (vr [id] l) (kOpt H[id]? fun b => match b with
      | .reg => qel cf f (renL (fun _ => 0) a.alts) (k (.tup []) (H.set id .spl))
      | .spl => qel cf f (renL (fun _ => 0) a.alts) (k (.tup []) H)
      | _ => none) none
    | [] => none)
   | _ => none
def kTgt (f : AV) (args : List AV) (k : Tgt → List AV → Option α) : Option α :=
 match f with
 | .fn (.func g) first caps => k (.f g) (first ++ args ++ caps)
 | .yld id => k (.y id) args
 | _ => none
def opEq : Operand → Operand → Bool
 | .tmp a, .tmp b => qnB a b
 | _, _ => false
def frzX : List Operand → List AV → (Operand → AV) → Operand → AV
 | b :: l, v :: al, x, a => cond (opEq b a) v (frzX l al x a)
 | _, _, x, a => x a
noncomputable def qgh (cfg : Cfg) (nid : Option Nat) (o : Oper) (x : Operand → AV) (H : AH) (k : KH α) : Option α :=
 qbN H (o.op.operands.toList.map x) fun al =>
  kOp cfg nid o.op o.type (frzX o.op.operands.toList al fun a => (x a).frz (o.op.operands.toList.flatMap fun a => (x a).msIds) H) (qp (o.op.operands.toList.flatMap fun a => (x a).msIds) H) k
noncomputable def qgd (cfg : Cfg) (cf : Orac) (kf : KF α) (frz : Bool) (nid : Option Nat) (o : Oper) (x : Operand → AV) (H : AH) (k : KH α) : Option α :=
 cond frz
  (match o.op with
   | .call c =>
    match c.callee with
    | .value f => qbN H (c.args.toList.map x) fun al => kTgt ((x f).frz (o.op.operands.toList.flatMap fun a => (x a).msIds) H) al fun t al =>
      qcg cfg cf kf nid o.type t al (qp (o.op.operands.toList.flatMap fun a => (x a).msIds) H) k
    | _ => qgh cfg nid o x H k
   | _ => qgh cfg nid o x H k)
  (match o.op with
   | .call c =>
    match c.callee with
    | .value f => kTgt (x f) (c.args.toList.map x) fun t al => qcg cfg cf kf nid o.type t al H k
    | _ => kOp cfg nid o.op o.type x H k
   | _ => kOp cfg nid o.op o.type x H k)
def qce (ops : Array Oper) (fr : List AV) (o : Oper) (k : Bool → List AV → Option α) : Option α :=
 match o.guard with
 | none => k true fr
 | some (j, want) =>
  match (ops[j]?).bind (·.dst) with
  | some d => kOpt fr[d]? fun v => match v with
   | .tup l => (match l with | [] => k false fr | _ => none)
   | v => qq v fun b => cond b (k want (fr.set d (.bool true))) (k (!want) (fr.set d (.bool false)))
  | none => none
noncomputable def kOps (cfg : Cfg) (cf : Orac) (kf : KF α) (f rid : Nat) (ops : Array Oper) : Nat → List Oper → List AV → AH → (List AV → AH → Option α) → Option α
 | _, [], fr, H, k => k fr H
 | n, o :: rest, fr, H, k => qce ops fr o fun b fr =>
   cond b (qgd cfg cf kf (cfg.frz f rid n) none o (opd fr) H fun v H' => kOps cfg cf kf f rid ops (n + 1) rest (put fr o.dst v) H' k) (kOps cfg cf kf f rid ops (n + 1) rest (put fr o.dst (.tup [])) H k)
noncomputable def qei (cfg : Cfg) (cf : Orac) (kf : KF α) (f rid : Nat) (ops : Array Oper) : Nat → Nat → List Oper → List AV → AH → (List FP → List AV → AH → Option α) → Option α
 | _, _, [], fr, H, k => k [] fr H
 | n, at_, o :: rest, fr, H, k => qce ops fr o fun b fr =>
   cond b
    (qgd cfg cf kf (cfg.frz f rid n) (some at_) o (opd fr) H fun v H' =>
     qei cfg cf kf f rid ops (n + 1) (cond (qaZ cfg o) (at_ + 1) at_) rest (put fr o.dst v) H' fun fps fr' H'' => k (xn cfg (cfg.frz f rid n) at_ o (opd fr) :: fps) fr' H'')
    (qei cfg cf kf f rid ops (n + 1) (cond (qaZ cfg o) (at_ + 1) at_) rest (put fr o.dst (.tup [])) H fun fps fr' H'' => k (.none :: fps) fr' H'')
open Classical in
noncomputable def CUT {β : Type} (p : β) : Option β := if ∃ q : β, some q = some p then some p else none
theorem qmM {β : Type} (p : β) : CUT p = some p := if_pos ⟨p, rfl⟩
noncomputable def qej (ts : Option (List Tmp)) (fr : List AV) (H : AH) (g : List AV → AH → Option α) : Option α :=
 match ts with
 | none => g fr H
 | some ks => kOpt (CUT (qR (some ks) fr, H)) fun p => g p.1 p.2
theorem qh0 {ts : Option (List Tmp)} {fr : List AV} {H : AH} {g : List AV → AH → Option α} {r : α} (h : qej ts fr H g = some r) : g (qR ts fr) H = some r := by
 cases ts with
 | none => exact h
 | some ks =>
  have h : kOpt (CUT (qR (some ks) fr, H)) (fun p => g p.1 p.2) = some r := h
  rw [qmM] at h
  exact h
def kSeq (nx : List AV → AH → Option α) (k : KE α) : KE α := fun e fr H =>
 match e with
 | .normal => nx fr H
 | e => k e fr H
def zi (id : Nat) (k : KE α) : KE α := fun e fr H =>
 match e with
 | .exit id' => cond (qnB id' id) (k .normal fr H) (k (.exit id') fr H)
 | e => k e fr H
def qgO (k : KE α) : KE α := fun e fr H =>
 match e with
 | .goto _ => none
 | e => k e fr H
def kAft (ts : Option (List Tmp)) (k : KE α) (r : Ex × List AV × AH) : Option α := k r.1 (qR ts r.2.1) r.2.2
def known (fr : List AV) (c : Operand) (b : Bool) : List AV :=
 match c with
 | .tmp d => fr.set d (.bool b)
 | _ => fr
def qlr (b : ABlk) (k : Option Code → Option α) : Option α :=
 match b with
 | .loop _ _ _ _ _ pend st => (match st with | .busy => none | _ => k pend)
 | _ => none
def qgQ (pend : Option Code) (k : KE α) (fr : List AV) (H : AH) : Option α :=
 match pend with
 | none => k .normal fr H
 | some c => (match c with | .ret => k .ret fr H | .exit id => k (.exit id) fr H | _ => none)
def qad (bs n : Nat) (fr : List AV) (k : KE α) (H : AH) : Option α :=
 kOpt H[n]? fun b => qlr b fun pend => qgQ pend k (gc bs fr (H.set n .dead)).1 (gc bs fr (H.set n .dead)).2
def qkg (cfg : Cfg) (_cf : Orac) (kf : KF α) (f : Nat) (rd : Option Nat) (bs : Nat) (g : AV) (ps : List Tmp) (assign body : Code) (fr : List AV) (H : AH) (k : KE α) : Option α :=
 cond (qgx rd H)
  (match g with
   | .fn (.func h) first caps => cond (cfg.ext h).isNone
     (kf (.f h) (first ++ [.yld H.length] ++ caps) (H ++ [.loop f (qR (cfg.keepIn f (qh body)) fr) ps assign body none .ready]) fun r =>
      qad bs H.length (qR (cfg.keepOut f (qh body)) fr) k r.2) none
   | _ => none) none
noncomputable def qX (cfg : Cfg) (cf : Orac) (kf : KF α) (f : Nat) (rd : Option Nat) (bs : Nat) : Code → List AV → AH → KE α → Option α
 | .skip, fr, H, k => k .normal fr H
 | .label _, fr, H, k => k .normal fr H
 | .region id ops draw, fr, H, k =>
  cond draw
   (cond (z4 ops)
    (qei cfg cf kf f id ops 0 H.length ops.toList fr (H ++ qnz (places cfg ops.toList) .res) fun fps fr' H' => cond (z3 (ancs [] ops.toList) 0 fps) (k .normal fr' H') none) none)
   (kOps cfg cf kf f id ops 0 ops.toList fr H fun fr' H' => k .normal fr' H')
 | .seq a b, fr, H, k => qX cfg cf kf f rd bs a fr H (kSeq (fun fr H => qej (cfg.cut f (qh b)) fr H fun fr H => qX cfg cf kf f rd bs b fr H k) k)
 | .cond c a b, fr, H, k => qq (opd fr c) fun t => cond t (qX cfg cf kf f rd bs a (known fr c true) H k) (qX cfg cf kf f rd bs b (known fr c false) H k)
 | .block id a, fr, H, k => qX cfg cf kf f rd bs a fr H (zi id k)
 | .loop a, fr, H, k => kOpt (LOOP bs (cfg.keepIn f (qh a)) (cfg.lift f (qh a)) (evC cfg cf f rd bs a) (xS bs (cfg.keepIn f (qh a)) (cfg.lift f (qh a)) fr H)) (kAft (cfg.keepOut f (qh a)) k)
 | .scope a, fr, H, k => qX cfg cf kf f rd bs a fr H (qgO k)
 | .exit id, fr, H, k => k (.exit id) fr H
 | .goto _, _, _, _ => none
 | .ret, fr, H, k => k .ret fr H
 | .rangeFunc g ps assign body, fr, H, k => qkg cfg cf kf f rd bs (opd (qF (cfg.lift f (qh body)) fr H).1 g) ps.toList assign body (qF (cfg.lift f (qh body)) fr H).1 (qF (cfg.lift f (qh body)) fr H).2 k
 | .refuse _, _, _, _ => none
inductive Ko where
 | seq (c : Code)
 | block (id : Nat)
 | scope
noncomputable def kRun (cfg : Cfg) (cf : Orac) (kf : KF α) (f : Nat) (rd : Option Nat) (bs : Nat) (k : KE α) : List Ko → KE α
 | [] => k
 | .seq c :: s => kSeq (fun fr H => qej (cfg.cut f (qh c)) fr H fun fr H => qX cfg cf kf f rd bs c fr H (kRun cfg cf kf f rd bs k s)) (kRun cfg cf kf f rd bs k s)
 | .block id :: s => zi id (kRun cfg cf kf f rd bs k s)
 | .scope :: s => qgO (kRun cfg cf kf f rd bs k s)
def kRes (cfg : Cfg) (fr : List AV) (H : AH) : List ResultVar → (List AV → Option α) → Option α
 | [], k => k []
 | .tmp t :: l, k => kRes cfg fr H l fun vs => k (fr.getD t .junk :: vs)
 | .cell a t :: l, k =>
  match cfg.ty t with
  | some ti => qed ti.d.agg ti.sz H (fr.getD a .junk) fun v => kTy noTy cfg t v fun v => kRes cfg fr H l fun vs => k (v :: vs)
  | none => none
variable {α : Type} {r : α} {H : AH}
theorem qb {b : Bool} {x : Option α} (h : cond b x none = some r) : b = true ∧ x = some r := by cases b <;> simp_all
theorem qjp {b : Bool} {x : Option α} (h : cond b none x = some r) : b = false ∧ x = some r := by cases b <;> simp_all
theorem vw {b : Bool} {x y : Option α} (h : cond b x y = some r) : (b = true ∧ x = some r) ∨ (b = false ∧ y = some r) := by cases b <;> simp_all
theorem qbH {a b : IntKind} (h : yL a b = true) : a = b := by simpa [yL] using h
theorem qK {a b : Int} : ql a b = true ↔ a ≤ b := by simp [ql]
theorem xQ {a b : Int} : qA a b = true ↔ a < b := by simp [qA]
theorem zg {kd : IntKind} {v : AV} {k : Int → Option α} (h : kInt kd v k = some r) : ∃ n, v = .int kd n ∧ k n = some r := by
 unfold kInt at h
 split at h
 ·obtain ⟨h1, h2⟩ := qb h
  rw [qbH h1]; exact ⟨_, rfl, h2⟩
 ·cases h
theorem zA {v : AV} {k : Bool → Option α} (h : qq v k = some r) : ∃ b, v = .bool b ∧ k b = some r := by
 unfold qq at h; split at h
 ·exact ⟨_, rfl, h⟩
 ·cases h
theorem xR {v : AV} {k : List UInt8 → Option α} (h : kStr v k = some r) : ∃ b, v = .str b ∧ k b = some r := by
 unfold kStr at h; split at h
 ·exact ⟨_, rfl, h⟩
 ·cases h
theorem qaf {v : AV} {k : List AV → Option α} (h : kAgg v k = some r) : ∃ b, v = .agg b ∧ k b = some r := by
 unfold kAgg at h; split at h
 ·exact ⟨_, rfl, h⟩
 ·cases h
theorem qf {β : Type} {o : Option β} {k : β → Option α} (h : kOpt o k = some r) : ∃ b, o = some b ∧ k b = some r := by
 unfold kOpt at h; split at h
 ·exact ⟨_, rfl, h⟩
 ·cases h
theorem x7 {l : List AV} {k : AV → List AV → Option α} (h : qM l k = some r) : ∃ a b, l = a :: b ∧ k a b = some r := by
 unfold qM at h; split at h
 ·exact ⟨_, _, rfl, h⟩
 ·cases h
theorem qbL {l : List AV} {x : Option α} (h : kNil l x = some r) : l = [] ∧ x = some r := by
 unfold kNil at h; split at h
 ·exact ⟨rfl, h⟩
 ·cases h
theorem qcU {s : FK} {v : AV} {k : KV α} (h : yN s v k = some r) : k v = some r := by
 cases s with
 | int kd => obtain ⟨n, rfl, h1⟩ := zg h; exact h1
 | bool => obtain ⟨n, rfl, h1⟩ := zA h; exact h1
 | str => obtain ⟨n, rfl, h1⟩ := xR h; exact h1
 | sl =>
  have h : kSl v (fun rows => k (.sl rows)) = some r := h
  unfold kSl at h
  split at h
  ·exact h
  ·cases h
 | any => exact h
theorem qap : ∀ {ss : List FK} {l : List AV} {k : List AV → Option α}, yO ss l k = some r → k l = some r
 | [], l, k, h => by
  obtain ⟨rfl, h1⟩ := qbL h
  exact h1
 | s :: ss, l, k, h => by
  obtain ⟨a, b, rfl, h1⟩ := x7 h
  exact qap (k := fun vs => k (a :: vs)) (qcU (k := fun v => yO ss b fun vs => k (v :: vs)) h1)
theorem qja {l0 : List AV} {k : List AV → Option α} (h0 : yO [.int .i64, .int .i64, .str, .sl] l0 k = some r) : yU l0 = true ∧ k l0 = some r := by
 refine ⟨?_, qap h0⟩
 simp only [yO] at h0
 obtain ⟨a, l1, rfl, h1⟩ := x7 h0
 obtain ⟨n, rfl, h2⟩ := zg (k := fun n => qM l1 fun c cs => yN (.int .i64) c fun v => qM cs fun c cs => yN .str c fun v1 => qM cs fun c cs => yN .sl c fun v2 => kNil cs (k [.int .i64 n, v, v1, v2])) h1
 obtain ⟨a, l2, rfl, h3⟩ := x7 h2
 obtain ⟨m, rfl, h4⟩ := zg (k := fun m => qM l2 fun c cs => yN .str c fun v1 => qM cs fun c cs => yN .sl c fun v2 => kNil cs (k [.int .i64 n, .int .i64 m, v1, v2])) h3
 obtain ⟨a, l3, rfl, h5⟩ := x7 h4
 obtain ⟨s, rfl, h6⟩ := xR (k := fun s => qM l3 fun c cs => yN .sl c fun v2 => kNil cs (k [.int .i64 n, .int .i64 m, .str s, v2])) h5
 obtain ⟨a, l4, rfl, h7⟩ := x7 h6
 have h8 : kSl a (fun rows => kNil l4 (k [.int .i64 n, .int .i64 m, .str s, .sl rows])) = some r := h7
 unfold kSl at h8
 split at h8
 ·obtain ⟨rfl, _⟩ := qbL h8
  rfl
 ·cases h8
theorem qbJ {p : TypeId → Bool} {cfg : Cfg} {t : TypeId} {v : AV} {k : KV α} (h : kTy1 p cfg t v k = some r) : k v = some r := by
 unfold kTy1 at h
 have agg : ∀ {ss : List FK}, (kAgg v fun cs => yO ss cs fun vs => k (.agg vs)) = some r → k v = some r := by
  intro ss h
  obtain ⟨cs, rfl, h⟩ := qaf h
  exact qap (k := fun vs => k (.agg vs)) h
 split at h
 ·split at h
  ·split at h
   ·exact agg h
   ·exact h
  ·split at h
   ·exact agg h
   ·exact h
  ·exact qcU h
 ·exact h
theorem qfA {p : TypeId → Bool} {cfg : Cfg} : ∀ {ts : List TypeId} {l : List AV} {k : List AV → Option α}, kTys p cfg ts l k = some r → k l = some r
 | [], l, k, h => by
  rw [kTys] at h
  obtain ⟨h1, h2⟩ := qbL h
  rw [h1]; exact h2
 | t :: ts, l, k, h => by
  rw [kTys] at h
  obtain ⟨a, b, rfl, h⟩ := x7 h
  have h1 := qbJ (k := fun v => kTys p cfg ts b fun vs => k (v :: vs)) h
  exact qfA (k := fun vs => k (a :: vs)) h1
theorem qC {p : TypeId → Bool} {cfg : Cfg} {t : TypeId} {v : AV} {k : KV α} (h : kTy p cfg t v k = some r) : k v = some r := by
 unfold kTy at h
 split at h
 ·unfold kTup at h
  split at h
  ·exact qfA (k := fun vs => k (.tup vs)) h
  ·cases h
 ·exact qbJ h
theorem vI {nid : Option Nat} {b : ABlk} {k : Nat → AH → Option α} (h : kNew nid H b k = some r) : ∃ i H', aNew nid H b = some (i, H') ∧ k i H' = some r := by
 unfold kNew at h
 unfold aNew
 cases nid with
 | none => exact ⟨_, _, rfl, h⟩
 | some i =>
  simp only at h ⊢
  obtain ⟨x, hx, h⟩ := qf h
  rw [hx]
  split at h
  ·exact ⟨_, _, rfl, h⟩
  ·cases h
theorem qg0 {v : AV} (h : v.isCell = true) : v.cells = some [v] := by cases v <;> simp_all [AV.isCell, AV.cells]
theorem yp {agg : Bool} {v : AV} {k : List AV → Option α} (h : yZ agg v k = some r) : ∃ cs, v.cells = some cs ∧ k cs = some r := by
 unfold yZ at h
 rcases vw h with ⟨_, h⟩ | ⟨_, h⟩
 ·obtain ⟨cs, rfl, h⟩ := qaf h
  obtain ⟨h1, h2⟩ := qb h
  exact ⟨cs, by simp [AV.cells, h1], h2⟩
 ·obtain ⟨h1, h2⟩ := qb h
  exact ⟨_, qg0 h1, h2⟩
theorem qi4 {t : Bool} {a b : AV} {k : KV α} (h : qi5 t a b k = some r) : k (if t then a else b) = some r := by
 have sp : ∀ {a b : AV}, cond t (k a) (k b) = some r → k (if t then a else b) = some r := by
  intro a b h
  cases t <;> simpa using h
 unfold qi5 at h
 split at h
 ·cases t <;> simpa using h
 ·rcases vw h with ⟨h1, h⟩ | ⟨_, h⟩
  ·have := qbH h1; subst this
   cases t <;> simpa using h
  ·exact sp h
 ·exact sp h
theorem qa6 {place : Nat → Option (Nat × Nat × Bool)} {place' : Nat → Option (Nat × Nat)} (hp : ∀ i off n g, place i = some (off, n, g) → place' i = some (off, n)) : ∀ {parts : List (Nat × AV)} {cells : List AV} {k : List AV → Option α},
  qeg place cells parts k = some r → ∃ cs, za place' cells parts = some cs ∧ k cs = some r
 | [], cells, k, h => ⟨cells, rfl, h⟩
 | (i, v) :: rest, cells, k, h => by
  rw [qeg] at h
  split at h
  ·rename_i off n g hi
   obtain ⟨cs, h1, h⟩ := yp h
   obtain ⟨h2, h⟩ := qb h
   obtain ⟨cs', h3, h4⟩ := qa6 hp h
   refine ⟨cs', ?_, h4⟩
   rw [qnn] at h2
   rw [za, hp _ _ _ _ hi, h1]
   simp only
   rw [if_pos]
   ·exact h3
   ·rw [qnn, beq_iff_eq]
    exact ⟨qno h2.1, h2.2⟩
  ·cases h
theorem qdV {cfg : Cfg} : ∀ {fs : List (Nat × TypeId)} {ps : List (Nat × Nat × Bool)}, qcc cfg fs = some ps → ∃ qs, xP cfg fs = some qs ∧ ∀ (i off n : Nat) (g : Bool), ps[i]? = some (off, n, g) → qs[i]? = some (off, n)
 | [], ps, h => by cases h; exact ⟨[], rfl, fun i off n g h => by simp at h⟩
 | (off, t) :: l, ps, h => by
  rw [qcc] at h
  split at h
  ·rename_i n ps' h1 h2
   cases h
   obtain ⟨qs, h3, h4⟩ := qdV h2
   refine ⟨(off, n) :: qs, by rw [xP, h1, h3], fun i o m g hi => ?_⟩
   cases i with
   | zero => simp at hi ⊢; exact ⟨hi.1, hi.2.1⟩
   | succ i => simpa using h4 i o m g (by simpa using hi)
  ·cases h
theorem qea {agg : Bool} {n : Nat} : ∀ {parts : List (Nat × AV)} {rows : List (List AV)} {k : List (List AV) → Option α}, qgc agg n rows parts k = some r → ∃ rs, yS n rows parts = some rs ∧ k rs = some r
 | [], rows, k, h => ⟨rows, rfl, h⟩
 | (i, v) :: rest, rows, k, h => by
  rw [qgc] at h
  obtain ⟨cs, h1, h⟩ := yp h
  obtain ⟨h2, h⟩ := qb h
  obtain ⟨rs, h3, h4⟩ := qea h
  refine ⟨rs, ?_, h4⟩
  rw [qnn] at h2
  rw [yS, h1]
  simp only
  rw [if_pos]
  ·exact h3
  ·rw [qnn, beq_iff_eq]
   exact ⟨qno h2.1, h2.2⟩
theorem yw {id : Nat} {k : Nat → List (List AV) → Option α} (h : kBlk H id k = some r) : ∃ sz rs, qr H id = some (sz, rs) ∧ k sz rs = some r := by
 unfold kBlk at h
 obtain ⟨b, hb, h⟩ := qf h
 unfold qr
 rw [hb]
 split at h
 ·exact ⟨_, _, rfl, h⟩
 ·exact ⟨_, _, rfl, h⟩
 ·cases h
theorem xZ {g s : Bool} {v : AV} {k : KV α} (h : qcf g s H v k = some r) : (∀ ids, (∀ id off len, v = .ms id off len → id ∈ ids) → s = false → k (cond g (v.frz1 ids H).fg1 (v.frz1 ids H)) = some r) ∧ (s = true → k (cond g (v.snap1 H).fg1 (v.snap1 H)) = some r) := by
 unfold qcf at h
 split at h
 ·rename_i id off len
  obtain ⟨sz, rs, h1, h⟩ := yw h
  rcases hc : (qnF (off + len) rs.length && (q6 H id || qi 0 ((rs.drop off).take len))) with _ | _
  ·rw [hc] at h; cases h
  ·rw [hc] at h
   have h : k (.sl ((rs.drop off).take len)) = some r := h
   have aux : ∀ ids : List Nat, id ∈ ids → (AV.ms id off len).frz1 ids H = .sl ((rs.drop off).take len) := by
    intro ids hi
    simp only [AV.frz1, h1]
    rw [if_pos]
    rw [Bool.and_assoc, hc, Bool.and_true]
    exact qD.2 hi
   refine ⟨fun ids hi _ => ?_, fun _ => ?_⟩
   ·rw [aux ids (hi _ _ _ rfl)]; cases g <;> exact h
   ·simp only [AV.snap1]; rw [aux [id] (by simp)]; cases g <;> exact h
 ·refine ⟨fun ids _ _ => ?_, fun _ => ?_⟩ <;> (cases g <;> exact h)
 ·refine ⟨fun ids _ _ => ?_, fun _ => ?_⟩ <;> (cases g <;> exact h)
 ·split at h
  ·refine ⟨fun ids _ _ => ?_, fun _ => ?_⟩ <;> (cases g <;> exact h)
  ·cases h
 ·rename_i id r' off
  cases s with
  | false => exact ⟨fun ids _ _ => by cases g <;> exact h, fun h => by cases h⟩
  | true =>
   refine ⟨fun _ _ h => by (cases h), fun _ => ?_⟩
   obtain ⟨sz, rs, h1, h⟩ := yw h
   obtain ⟨row, h2, h⟩ := qf h
   obtain ⟨h3, h⟩ := qb h
   simp only [AV.snap1, h1, h2, qeC, h3, if_true]
   cases g <;> exact h
 ·rename_i id rows
  cases s with
  | false => exact ⟨fun ids _ _ => by cases g <;> exact h, fun h => by cases h⟩
  | true =>
   refine ⟨fun _ _ h => by (cases h), fun _ => ?_⟩
   obtain ⟨b, h1, h⟩ := qf h
   split at h
   ·simp only [AV.snap1, h1]
    cases rows <;> cases g <;> exact h
   ·cases h
 ·rename_i hn1 hn2 hn4 hn6 hn3 hn5
  refine ⟨fun ids _ _ => ?_, fun _ => ?_⟩
  ·have : v.frz1 ids H = v := by
    cases v <;> first | rfl | exact absurd rfl (hn1 _ _ _)
   rw [this]
   have : v.fg1 = v := by
    cases v <;> first | rfl | exact absurd rfl hn2 | exact absurd rfl hn4 | exact absurd rfl (hn6 _ _)
   rw [this]; cases g <;> exact h
  ·have : v.snap1 H = v := by
    cases v <;> first | rfl | exact absurd rfl (hn1 _ _ _) | exact absurd rfl (hn3 _ _ _) | exact absurd rfl (hn5 _ _)
   rw [this]
   have : v.fg1 = v := by
    cases v <;> first | rfl | exact absurd rfl hn2 | exact absurd rfl hn4 | exact absurd rfl (hn6 _ _)
   rw [this]; cases g <;> exact h
theorem zh {g : Bool} {ids : List Nat} : ∀ {l : List AV} {k : List AV → Option α}, (∀ v ∈ l, ∀ id off len, v = .ms id off len → id ∈ ids) → yo g false H l k = some r → k (l.map fun v => cond g (v.frz1 ids H).fg1 (v.frz1 ids H)) = some r
 | [], k, _, h => h
 | a :: l, k, hi, h => by
  rw [yo] at h
  have h1 := (xZ h).1 ids (hi a (by simp)) rfl
  exact zh (k := fun l => k (cond g (a.frz1 ids H).fg1 (a.frz1 ids H) :: l)) (fun v hv => hi v (by simp [hv])) h1
theorem zx {g : Bool} : ∀ {l : List AV} {k : List AV → Option α}, yo g true H l k = some r → k (l.map fun v => cond g (v.snap1 H).fg1 (v.snap1 H)) = some r
 | [], k, h => h
 | a :: l, k, h => by
  rw [yo] at h
  have h1 := (xZ h).2 rfl
  exact zx (k := fun l => k (cond g (a.snap1 H).fg1 (a.snap1 H) :: l)) h1
theorem qab {l : List AV} {v : AV} (hv : v ∈ l) {id off len : Nat} (h : v = .ms id off len) : id ∈ l.flatMap AV.msId := by
 subst h
 exact List.mem_flatMap.2 ⟨_, hv, by simp [AV.msId]⟩
theorem qfC {v : AV} {k : KV α} (h : qa5 false H v k = some r) : k (v.frz v.msIds H).fg = some r := by
 unfold qa5 at h
 split at h
 ·rename_i cs
  have := zh (ids := cs.flatMap AV.msId) (fun v hv id off len e => qab hv e) h
  simpa [AV.frz, AV.fg, AV.msIds, Function.comp_def] using this
 ·rename_i cs
  have := zh (k := fun cs => k (.tup cs)) (ids := cs.flatMap AV.msId) (fun v hv id off len e => qab hv e) h
  simpa [AV.frz, AV.fg, AV.msIds, Function.comp_def] using this
 ·exact h
 ·rename_i h1 h2 h3
  have h4 := (xZ h).1 v.msIds (fun id off len e => by subst e; simp [AV.msIds, AV.msId]) rfl
  have e1 : v.frz v.msIds H = v.frz1 v.msIds H := by
   cases v <;> first | rfl | exact absurd rfl (h1 _) | exact absurd rfl (h2 _)
  have e2 : (v.frz1 v.msIds H).fg = (v.frz1 v.msIds H).fg1 := by
   cases v <;> first | rfl | exact absurd rfl (h1 _) | exact absurd rfl (h2 _) | skip
   simp only [AV.frz1]
   split
   ·split <;> rfl
   ·rfl
  rw [e1, e2]; exact h4
theorem qi7 {v : AV} {k : KV α} (h : qa5 true H v k = some r) : k (v.snap H).fg = some r := by
 unfold qa5 at h
 split at h
 ·rename_i cs
  have := zx h
  simpa [AV.snap, AV.fg, Function.comp_def] using this
 ·exact h
 ·rename_i f a b
  have h2 := zx (k := fun a => yo false true H b fun b => k (.fn f a b)) h
  have h3 := zx (k := fun b => k (.fn f (a.map (AV.snap1 H)) b)) h2
  exact h3
 ·rename_i h1 h2 h3
  have h4 := (xZ h).2 rfl
  have e1 : v.snap H = v.snap1 H := by
   cases v <;> first | rfl | exact absurd rfl (h1 _) | exact absurd rfl (h3 _ _ _)
  have e2 : (v.snap1 H).fg = (v.snap1 H).fg1 := by
   cases v <;> first | rfl | exact absurd rfl (h1 _) | exact absurd rfl (h2 _) | skip
   ·simp only [AV.snap1, AV.frz1]
    split
    ·split <;> rfl
    ·rfl
   ·simp only [AV.snap1]
    split
    ·split <;> rfl
    ·rfl
   ·simp only [AV.snap1]
    split <;> rfl
  rw [e1, e2]; exact h4
theorem qek : ∀ {l : List AV} {k : List AV → Option α}, qgi H l k = some r → k (l.map fun a => (a.snap H).fg) = some r
 | [], k, h => h
 | a :: l, k, h => by
  rw [qgi] at h
  have h1 := qi7 h
  exact qek (k := fun l => k ((a.snap H).fg :: l)) h1
theorem zB {id : Nat} {k : Bool → Nat → List (List AV) → Option α} (h : qch H id k = some r) : ∃ d sz rs, H[id]? = some (.rows d sz rs) ∧ k d sz rs = some r := by
 unfold qch at h
 obtain ⟨b, hb, h⟩ := qf h
 split at h
 ·exact ⟨_, _, _, hb, h⟩
 ·cases h
theorem vU {agg : Bool} {n off : Nat} {cells : List AV} {k : KV α} (h : y4 agg n cells off k = some r) :
  ∃ v, (if agg then (if qnF (off + n) cells.length then some (AV.agg ((cells.drop off).take n)) else none) else cells[off]?) = some v ∧ k v = some r := by
 unfold y4 at h
 rcases vw h with ⟨rfl, h⟩ | ⟨rfl, h⟩
 ·obtain ⟨h1, h2⟩ := qb h
  exact ⟨_, by simp [h1], h2⟩
 ·obtain ⟨v, h1, h2⟩ := qf h
  exact ⟨v, by simp [h1], h2⟩
theorem qa2 {agg : Bool} {n : Nat} {p : AV} {k : KV α} (h : qed agg n H p k = some r) : ∃ v, xw agg n H p = some v ∧ k v = some r := by
 unfold qed at h
 unfold xw
 split at h
 ·obtain ⟨sz, rs, h1, h⟩ := yw h
  obtain ⟨row, h2, h⟩ := qf h
  obtain ⟨v, h3, h4⟩ := vU h
  exact ⟨v, by simp only [h1, h2]; exact h3, h4⟩
 ·obtain ⟨v, h3, h4⟩ := vU h
  exact ⟨v, h3, h4⟩
 ·obtain ⟨v, h3, h4⟩ := vU h
  refine ⟨v, ?_, h4⟩
  rw [← h3]
  simp only [List.length_map, List.map_take, List.map_drop, List.getElem?_map]
 ·obtain ⟨b, h1, h⟩ := qf h
  split at h
  ·obtain ⟨v, h3, h4⟩ := vU h
   refine ⟨v, ?_, h4⟩
   simp only [h1]
   rw [← h3]
   simp only [List.length_map, List.map_take, List.map_drop, List.getElem?_map]
  ·simp only [h1]
   rcases vw h with ⟨ha, h⟩ | ⟨ha, h⟩
   ·obtain ⟨h2, h⟩ := qb h
    obtain ⟨h3, h⟩ := qja h
    exact ⟨_, by rw [if_pos ha, if_pos (by rw [h2, h3]; rfl)], h⟩
   ·obtain ⟨rows, h2, h⟩ := qf h
    exact ⟨_, by rw [if_neg (by rw [ha]; simp)]; unfold qeY; rw [h2]; rfl, h⟩
  ·cases h
 ·cases h
theorem qhV {agg : Bool} {n : Nat} {p v : AV} {k : AH → Option α} (h : qgM agg n H p v k = some r) : ∃ H', xo n H p v = some H' ∧ k H' = some r := by
 unfold qgM at h
 unfold xo
 split at h
 ·obtain ⟨cs, h1, h⟩ := yp h
  obtain ⟨d, sz, rs, h2, h⟩ := zB h
  obtain ⟨row, h3, h⟩ := qf h
  obtain ⟨h4, h⟩ := qb h
  rw [qnn] at h4
  refine ⟨_, ?_, h⟩
  simp only [h1, h2, h3]
  rw [if_pos]
  rw [qnn, beq_iff_eq]
  exact ⟨qno h4.1, h4.2⟩
 ·obtain ⟨b, h1, h⟩ := qf h
  split at h
  ·rcases vw h with ⟨h4, h⟩ | ⟨h4, h⟩
   ·obtain ⟨h2, h⟩ := qb h
    refine ⟨H, ?_, h⟩
    have h77 : is77 v = true := by rw [qnn] at h2; exact h2.2
    have hv : ∃ cs, v.cells = some cs := by
     rcases qiq h77 with rfl | rfl
     ·exact ⟨_, rfl⟩
     ·exact ⟨_, rfl⟩
    obtain ⟨cs, hv⟩ := hv
    simp only [hv, h1]
    rw [if_pos (by rw [h4, Bool.true_and]; exact h2)]
   ·obtain ⟨h2, h⟩ := qb h
    refine ⟨H, ?_, h⟩
    have h99 : zI v = true := by rw [qnn] at h2; exact h2.2
    have hv : ∃ cs, v.cells = some cs := by
     unfold zI at h99
     split at h99
     ·exact ⟨_, rfl⟩
     ·exact ⟨_, rfl⟩
     ·cases h99
    obtain ⟨cs, hv⟩ := hv
    simp only [hv, h1]
    rw [if_neg (by rw [h4]; simp), if_pos h2]
  ·cases h
 ·cases h
theorem qaq {lo hi d : Nat} {x : Option AV} {k : Nat → Option α} (h : qbO lo hi x d k = some r) : ∃ n, yQ lo hi x d = some n ∧ k n = some r := by
 unfold qbO at h
 unfold yQ
 split at h
 ·exact ⟨_, rfl, h⟩
 ·split at h
  ·obtain ⟨h1, h⟩ := qb h
   rw [qnn, qK, qK] at h1
   exact ⟨_, by simp only; rw [if_pos h1], h⟩
  ·cases h
theorem yn {n : Nat} {lo hi mx : Option AV} {k : Nat → Nat → Option α} (h : yY n lo hi mx k = some r) : ∃ l h', yv n lo hi mx = some (l, h') ∧ k l h' = some r := by
 unfold yY at h
 obtain ⟨h0, h⟩ := qjp h
 obtain ⟨a, h1, h⟩ := qaq h
 obtain ⟨b, h2, h⟩ := qaq h
 obtain ⟨c, h3, h⟩ := qaq h
 refine ⟨c, a, ?_, h⟩
 unfold yv
 rw [if_neg (by rw [h0]; simp), h1]
 simp only [h2, h3]
theorem qhW {cfg : Cfg} {t : TypeId} {x : AV} {lo hi mx : Option AV} {k : KV α} (h : qgN cfg t H x lo hi mx k = some r) : ∃ v, yR cfg t H x lo hi mx = some v ∧ k v = some r := by
 unfold qgN at h
 unfold yR
 split at h
 ·rename_i ht
  rw [ht]
  split at h
  ·split at h
   ·obtain ⟨l, h', h1, h⟩ := yn h
    exact ⟨_, by simp only [h1], h⟩
   ·cases h
  ·cases h
 ·rename_i e ht
  rw [ht]
  split at h
  ·rename_i n hn
   split at h
   ·obtain ⟨l, h', h1, h⟩ := yn h
    exact ⟨_, by simp only [hn, h1], h⟩
   ·rename_i rows
    obtain ⟨l, h', h1, h⟩ := yn h
    obtain ⟨h2, h⟩ := qb h
    refine ⟨slE (cfg.ems t) rows l h', by simp only [hn, h1, h2, if_true], ?_⟩
    split at h
    ·rename_i he; rw [he]; exact h
    ·rename_i he; rw [he]; exact h
   ·obtain ⟨l, h', h1, h⟩ := yn h
    obtain ⟨sz, rs, h2, h⟩ := yw h
    obtain ⟨h3, hz⟩ := qb h
    have := qno h3
    subst this
    exact ⟨_, by simp [hn, h1, h2], hz⟩
   ·split at h
    ·split at h
     ·rename_i kd hh _
      split at h
      ·obtain ⟨h2, hz⟩ := qb h
       rw [qnn, qK, qK] at h2
       exact ⟨_, by simp only [hn, AV.lenW]; rw [if_pos h2], hz⟩
      ·obtain ⟨h2, hz⟩ := qb h
       rw [qnn, qK, qK] at h2
       exact ⟨_, by simp only [hn, AV.lenW]; rw [if_pos h2], hz⟩
      ·cases h
     ·cases h
    ·cases h
   ·cases h
  ·cases h
 ·cases h
theorem qee {cfg : Cfg} {t : TypeId} {x i : AV} {k : KV α} (h : qa3 cfg t H x i k = some r) : ∃ v, vG cfg t H x i = some v ∧ k v = some r := by
 unfold qa3 at h
 unfold vG
 split at h
 case h_2 => cases h
 rename_i kk i
 split at h
 ·rename_i e ht
  rw [ht]
  split at h
  case h_2 => cases h
  rename_i n hn
  split at h
  ·obtain ⟨sz, rs, h1, h⟩ := yw h
   obtain ⟨h2, hz⟩ := qb h
   rw [qnn, qnn, qK, xQ] at h2
   have := qno h2.1.1
   subst this
   exact ⟨_, by simp [hn, h1, h2.1.2, h2.2], hz⟩
  ·obtain ⟨h2, h⟩ := qb h
   rw [qnn, qK, xQ] at h2
   obtain ⟨row, h3, h⟩ := qf h
   obtain ⟨h4, hz⟩ := qb h
   refine ⟨.cptr row 0, ?_, hz⟩
   have h5 := qno h4
   simp only [hn, if_pos h2, h3]
   rw [if_pos (by rw [h5]; exact beq_self_eq_true n)]
  ·obtain ⟨h2, h⟩ := qb h
   rw [qnn, qK, xQ] at h2
   obtain ⟨row, h3, h⟩ := qf h
   obtain ⟨h4, hz⟩ := qb h
   refine ⟨.lpt row 0, ?_, hz⟩
   have h5 := qno h4
   simp only [hn, if_pos h2, h3]
   rw [if_pos (by rw [h5]; exact beq_self_eq_true n)]
  ·rename_i id rows
   obtain ⟨h2, h⟩ := qb h
   rw [qnn, qK, xQ] at h2
   obtain ⟨row, h3, h⟩ := qf h
   obtain ⟨h4, hz⟩ := qb h
   refine ⟨.rpt id row 0, ?_, hz⟩
   have h5 := qno h4
   simp only [hn, if_pos h2, h3]
   rw [if_pos (by rw [h5]; exact beq_self_eq_true n)]
  ·cases h
 ·rename_i m e ht
  rw [ht]
  split at h
  case h_2 => cases h
  rename_i n hn
  split at h
  ·obtain ⟨h2, h⟩ := qb h
   rw [qnn, qK, xQ] at h2
   exact ⟨_, by simp [hn, h2.1, h2.2], h⟩
  ·obtain ⟨h2, h⟩ := qb h
   rw [qnn, qK, xQ] at h2
   exact ⟨_, by simp [hn, h2.1, h2.2], h⟩
  ·cases h
 ·cases h
theorem qlo {cfg : Cfg} {t : TypeId} {ti : TI} (h : cfg.ty t = some ti) : cfg.sz t = some ti.sz ∧ cfg.td t = some ti.d := by
 unfold Cfg.sz Cfg.td; rw [h]; exact ⟨rfl, rfl⟩
theorem qhY {cfg : Cfg} {t : TypeId} {x i : AV} {k : KV α} (h : qgV cfg t x i k = some r) : ∃ v, qaN cfg t x i = some v ∧ k v = some r := by
 unfold qgV at h
 unfold qaN
 split at h
 case h_2 => cases h
 rename_i kk i
 split at h
 ·rename_i n e ht
  rw [ht]
  split at h
  case h_2 => cases h
  rename_i ti hti
  obtain ⟨cs, rfl, h⟩ := qaf h
  obtain ⟨h2, h⟩ := qb h
  rw [qnn, qK, xQ] at h2
  obtain ⟨v, h3, h⟩ := vU h
  refine ⟨v, ?_, h⟩
  simp only [(qlo hti).1]
  rw [if_pos h2]
  unfold qcm
  rw [hti]
  exact h3
 ·rename_i ht
  rw [ht]
  obtain ⟨s, rfl, h⟩ := xR h
  obtain ⟨h2, h⟩ := qb h
  rw [qK] at h2
  obtain ⟨b, h3, h⟩ := qf h
  exact ⟨_, by simp [h2, h3], h⟩
 ·cases h
theorem qhZ {cfg : Cfg} {t : TypeId} {x : AV} {f : Nat} {k : KV α} (h : qgW cfg t x f k = some r) : ∃ v, qaO cfg t x f = some v ∧ k v = some r := by
 unfold qgW at h
 unfold qaO
 split at h
 case h_2 => cases h
 rename_i fs ht
 rw [ht]
 split at h
 case h_2 => cases h
 rename_i off ft hf
 split at h
 case h_2 => cases h
 rename_i ti hti
 obtain ⟨cs, rfl, h⟩ := qaf h
 obtain ⟨v, h3, h⟩ := vU h
 refine ⟨v, ?_, h⟩
 simp only [hf]
 unfold qcm
 rw [hti]
 exact h3
theorem qeh {cfg : Cfg} {t : TypeId} {x : AV} {f : Nat} {k : KV α} (h : qa7 cfg t x f k = some r) : ∃ v, ya cfg t x f = some v ∧ k v = some r := by
 unfold qa7 at h
 unfold ya
 split at h
 case h_2 => cases h
 rename_i fs ht
 rw [ht]
 simp only
 split at h
 case h_2 => cases h
 rename_i off ft hf
 simp only [hf]
 split at h
 case h_2 => cases h
 rename_i n hn
 split at h
 ·exact ⟨_, by simp only [hn], h⟩
 ·exact ⟨_, by simp only [hn], h⟩
 ·exact ⟨_, by simp only [hn], h⟩
 ·cases h
variable {α : Type} {r : α} {H : AH}
theorem qgP {n : Nat} {x : AV} {k : List (List AV) → Option α} (h : qe5 H n x k = some r) : ∃ rows, vB H n x = some rows ∧ k rows = some r := by
 unfold qe5 at h
 unfold vB
 split at h
 ·exact ⟨_, rfl, h⟩
 ·exact ⟨_, rfl, h⟩
 ·obtain ⟨h1, hz⟩ := qb h
  exact ⟨_, by simp only [h1, if_true], hz⟩
 ·obtain ⟨sz, rs, h1, h⟩ := yw h
  obtain ⟨h2, hz⟩ := qb h
  rw [qnn] at h2
  refine ⟨_, ?_, hz⟩
  simp only [h1]
  rw [if_pos]
  rw [qnn, beq_iff_eq]
  exact ⟨qno h2.1, h2.2⟩
 ·cases h
theorem qfB {b : Bool} {n : Nat} {x : AV} {k : List (List AV) → Option α} (h : kSrc b H n x k = some r) : ∃ rows, vt H n x = some rows ∧ k rows = some r := by
 unfold kSrc at h
 rcases vw h with ⟨_, h⟩ | ⟨_, h⟩
 ·obtain ⟨s, rfl, h⟩ := xR h
  obtain ⟨h1, hz⟩ := qb h
  exact ⟨_, by simp only [vt, h1, if_true], hz⟩
 ·obtain ⟨rows, h1, hz⟩ := qgP h
  refine ⟨rows, ?_, hz⟩
  unfold vt
  split
  ·simp [vB] at h1
  ·exact h1
theorem qfR {cfg : Cfg} {nid : Option Nat} {s d : TypeId} {x : AV} {k : KH α} (h : qdc cfg nid s d x H k = some r) : ∃ v H', xe cfg nid s d x H = some (v, H') ∧ k v H' = some r := by
 unfold qdc at h
 unfold xe
 split at h
 ·rename_i hs hd
  split at h
  ·exact ⟨_, _, by simp only [hs, hd], h⟩
  ·cases h
 ·rename_i hs hd
  obtain ⟨b, rfl, hz⟩ := xR h
  exact ⟨_, _, by simp only [hs, hd], hz⟩
 ·rename_i e hs hd
  split at h
  ·rename_i hte
   obtain ⟨b, rfl, h0⟩ := xR h
   obtain ⟨i, H', h1, hz⟩ := vI h0
   exact ⟨_, _, by simp only [hs, hd, hte, h1], hz⟩
  ·cases h
 ·rename_i e hs hd
  split at h
  ·rename_i hte
   obtain ⟨rows, h1, h⟩ := qf h
   obtain ⟨bs, h2, hz⟩ := qf h
   refine ⟨.str bs, H, ?_, hz⟩
   simp only [hs, hd]
   cases x <;> first | (simp only [hte, h1, h2]; done) | (simp [vB] at h1)
  ·cases h
 ·cases h
theorem qgY {cfg : Cfg} {nid : Option Nat} {t xt : TypeId} {s x : AV} {k : KH α} (h : qe7 cfg nid t xt s x H k = some r) : ∃ v H', yz cfg nid t xt s x H = some (v, H') ∧ k v H' = some r := by
 unfold qe7 at h
 unfold yz
 split at h
 case h_2 => cases h
 rename_i e xd ht hxt
 split at h
 case h_2 => cases h
 rename_i ei hei
 obtain ⟨h1, h⟩ := qb h
 obtain ⟨news, h2, h⟩ := qfB h
 simp only [ht, hxt, hei, h1, if_true, h2]
 split at h
 ·rcases vw h with ⟨h3, hz⟩ | ⟨h3, h⟩
  ·exact ⟨_, _, by simp only [h3, if_true], hz⟩
  ·obtain ⟨h4, h⟩ := qb h
   obtain ⟨i, H', h5, hz⟩ := vI h
   exact ⟨_, _, by simp only [h3, qnu, if_false, h4, if_true, h5], hz⟩
 ·obtain ⟨d, sz, rs, h3, h⟩ := zB h
  obtain ⟨h4, h⟩ := qb h
  obtain ⟨i, H', h5, hz⟩ := vI h
  exact ⟨_, _, by simp only [h3, h4, if_true, h5], hz⟩
 ·cases h
theorem qkh {cfg : Cfg} {t : TypeId} {x : AV} {k : KV α} (h : kLen cfg t x H k = some r) : ∃ v, aLen cfg t x H = some v ∧ k v = some r := by
 unfold kLen at h
 unfold aLen
 split at h
 ·rename_i ht
  obtain ⟨s, rfl, hz⟩ := xR h
  exact ⟨_, by simp only [ht], hz⟩
 ·rename_i e ht
  split at h
  ·exact ⟨_, by simp only [ht], h⟩
  ·exact ⟨_, by simp only [ht], h⟩
  ·exact ⟨_, by simp only [ht], h⟩
  ·exact ⟨_, by simp only [ht], h⟩
  ·exact ⟨_, by simp only [ht], h⟩
  ·exact ⟨_, by simp only [ht], h⟩
  ·cases h
 ·rename_i n e ht
  exact ⟨_, by simp only [ht], h⟩
 ·rename_i a b ht
  split at h
  ·exact ⟨_, by simp only [ht], h⟩
  ·obtain ⟨b, h1, h⟩ := qf h
   split at h
   ·exact ⟨_, by simp only [ht, h1], h⟩
   ·cases h
  ·cases h
 ·cases h
theorem qec {cfg : Cfg} {nid : Option Nat} {t : TypeId} {l c : AV} {k : KH α} (h : qge cfg nid t l c H k = some r) : ∃ v H', y9 cfg nid t l c H = some (v, H') ∧ k v H' = some r := by
 unfold qge at h
 unfold y9
 split at h
 case h_2 => cases h
 rename_i e ht
 split at h
 case h_2 => cases h
 rename_i ei hei
 obtain ⟨h1, h⟩ := qb h
 obtain ⟨n, rfl, ha⟩ := zg h
 obtain ⟨m, rfl, hb⟩ := zg ha
 obtain ⟨h2, hd⟩ := qb hb
 obtain ⟨i, H', h3, hz⟩ := vI hd
 rw [qnn, qnn, qnn, qK, qK, qK, qK] at h2
 exact ⟨_, _, by simp only [ht, hei, h1, if_true]; rw [if_pos ⟨h2.1.1.1, h2.1.1.2, h2.1.2, h2.2⟩]; simp only [h3], hz⟩
theorem qhX {cfg : Cfg} {nid : Option Nat} {t : TypeId} {l c : AV} {k : KH α} (h : qgS cfg nid t l c H k = some r) : ∃ v H', yj cfg nid t l c H = some (v, H') ∧ k v H' = some r := by
 unfold qgS at h
 unfold yj
 split at h
 ·rename_i hw
  rw [hw]
  exact qec h
 ·rename_i hw
  rw [hw]
  split at h
  ·obtain ⟨h1, h⟩ := qb h
   obtain ⟨v, H', h2, h⟩ := qec h
   split at h
   ·refine ⟨_, _, ?_, h⟩
    simp only
    rw [if_pos h1, h2]; rfl
   ·cases h
  ·cases h
theorem qkj {cfg : Cfg} {t : TypeId} {x : AV} {k : KV α} (h : kCap cfg t x k = some r) : ∃ v, aCap cfg t x = some v ∧ k v = some r := by
 unfold kCap at h
 unfold aCap
 split at h
 ·rename_i e ht
  split at h
  ·split at h
   ·exact ⟨_, by simp only [ht, AV.lenW, qny], h⟩
   ·exact ⟨_, by simp only [ht, AV.lenW, qny], h⟩
   ·cases h
  ·cases h
 ·cases h
theorem qk4 {v : AV} {k : Nat → List (List AV) → Option α} (h : kWr v k = some r) : ∃ n rows, v = .wr n (.sl rows) ∧ k n rows = some r := by
 unfold kWr at h
 split at h
 ·exact ⟨_, _, rfl, h⟩
 ·cases h
theorem qe6 {v : AV} {k : KV α} {cfg : Cfg} {nid : Option Nat} {a : Operand} {ty : TypeId} {x : Operand → AV} (hx : x a = v) (h : qbM v k = some r) : evOp cfg nid (.nilCheck a) ty x H = some (v, H) ∧ k v = some r := by
 unfold qbM at h
 simp only [evOp, hx]
 split at h <;> first | exact ⟨rfl, h⟩ | cases h
theorem qh1 {cfg : Cfg} {t : TypeId} {x : AV} {k : AH → Option α} (h : qgX cfg t x H k = some r) : ∃ H', qaP cfg t x H = some H' ∧ k H' = some r := by
 unfold qgX at h
 unfold qaP
 split at h
 case h_2 => cases h
 rename_i e he
 rw [he]
 split at h
 ·exact ⟨H, rfl, h⟩
 ·rename_i id off len
  split at h
  case h_2 => cases h
  rename_i ei hei
  obtain ⟨d, sz, rs, h1, h⟩ := zB h
  obtain ⟨h2, hz⟩ := qb h
  exact ⟨_, by simp only [hei, h1, h2, if_true], hz⟩
 ·cases h
theorem qi8 {cfg : Cfg} {t xt : TypeId} {d s : AV} {k : KH α} (h : qi9 cfg t xt d s H k = some r) : ∃ v H', qcn cfg t d s H = some (v, H') ∧ k v H' = some r := by
 unfold qi9 at h
 unfold qcn
 split at h
 case h_2 => cases h
 rename_i e he
 rw [he]
 split at h
 case h_2 => cases h
 rename_i id off len
 split at h
 case h_2 => cases h
 rename_i n hn
 obtain ⟨db, sz, rs, h1, h⟩ := zB h
 obtain ⟨news, h2, h⟩ := qfB h
 obtain ⟨h3, hz⟩ := qb h
 exact ⟨_, _, by simp only [hn, h1, h2, h3, if_true], hz⟩
theorem qgR {cfg : Cfg} {nid : Option Nat} {o : Op} {ty : TypeId} {x : Operand → AV} {k : KH α} (h : kOp cfg nid o ty x H k = some r) : ∃ v H', evOp cfg nid o ty x H = some (v, H') ∧ k v H' = some r := by
 cases o with
 | move a => exact ⟨_, _, rfl, h⟩
 | assign a => exact ⟨_, _, rfl, h⟩
 | pick c a b =>
  simp only [kOp] at h
  obtain ⟨t, h1, h⟩ := zA h
  have := qi4 (k := fun v => k v H) h
  exact ⟨_, _, by simp only [evOp, h1], this⟩
 | alloc t =>
  simp only [kOp] at h
  split at h
  ·rename_i ti hti
   obtain ⟨h1, h⟩ := qb h
   obtain ⟨i, H', h2, hz⟩ := vI h
   exact ⟨_, _, by simp only [evOp, hti, h1, if_true, h2], hz⟩
  ·cases h
 | box t a =>
  simp only [kOp] at h
  obtain ⟨cs, h1, h⟩ := yp h
  obtain ⟨i, H', h2, hz⟩ := vI h
  exact ⟨_, _, by simp only [evOp, h1, h2], hz⟩
 | build t parts =>
  simp only [kOp] at h
  split at h
  case h_2 => cases h
  rename_i ti hti
  obtain ⟨h1, h⟩ := qb h
  split at h
  ·rename_i fs hfs
   split at h
   case h_2 => cases h
   rename_i ps hps
   obtain ⟨qs, h2, h3⟩ := qdV hps
   obtain ⟨cs, h4, hz⟩ := qa6 (place' := fun i => qs[i]?) (fun i off n g hi => h3 i off n g hi) h
   exact ⟨_, _, by simp only [evOp, hti, h1, if_true, hfs, h2, h4, qny], hz⟩
  ·rename_i m e hfs
   split at h
   case h_2 => cases h
   rename_i n hn
   obtain ⟨cs, h4, hz⟩ := qa6 (place' := fun i => some (i * n, n)) (fun i off m g hi => by cases hi; rfl) h
   exact ⟨_, _, by simp only [evOp, hti, h1, if_true, hfs, hn, h4, qny], hz⟩
  ·cases h
 | buildSlice t len parts =>
  simp only [kOp] at h
  split at h
  case h_2 => cases h
  rename_i e ht
  split at h
  case h_2 => cases h
  rename_i ei hei
  obtain ⟨h1, h⟩ := qb h
  obtain ⟨rows, h2, h⟩ := qea h
  obtain ⟨i, H', h3, hz⟩ := vI h
  exact ⟨_, _, by simp only [evOp, ht, hei, h1, if_true, h2, h3], hz⟩
 | load t a =>
  simp only [kOp] at h
  split at h
  case h_2 => cases h
  rename_i ti hti
  split at h
  ·rename_i cs off hx
   obtain ⟨v, h1, h⟩ := vU h
   have h2 := qC (k := fun v => cond ti.d.agg (k v.lendA H) (k v.lend H)) h
   rcases vw h2 with ⟨ha, h2⟩ | ⟨ha, h2⟩
   ·rw [ha] at h1
    simp only [if_true] at h1
    split at h1
    ·rename_i hb
     cases h1
     refine ⟨_, _, ?_, h2⟩
     simp only [evOp, hti, hx, xw, ha, if_true, hb, qny, AV.lendA]
    ·cases h1
   ·rw [ha] at h1
    simp only [qnu, if_false] at h1
    refine ⟨_, _, ?_, h2⟩
    simp only [evOp, hti, hx, xw, ha, qnu, if_false, h1, qny]
  ·rename_i id cs off hx
   obtain ⟨b, hb0, h⟩ := qf h
   split at h
   ·obtain ⟨v, h1, h⟩ := vU h
    have h2 := qC (k := fun v => cond ti.d.agg (k (v.regA id) H) (k (v.regn id) H)) h
    rcases vw h2 with ⟨ha, h2⟩ | ⟨ha, h2⟩
    ·rw [ha] at h1
     simp only [if_true] at h1
     split at h1
     ·rename_i hb
      cases h1
      refine ⟨_, _, ?_, h2⟩
      simp only [evOp, hti, hx, xw, hb0, ha, if_true, hb, qny, AV.regA]
     ·cases h1
    ·rw [ha] at h1
     simp only [qnu, if_false] at h1
     refine ⟨_, _, ?_, h2⟩
     simp only [evOp, hti, hx, xw, hb0, ha, qnu, if_false, h1, qny]
   ·obtain ⟨v, h1, h⟩ := qa2 h
    exact ⟨_, _, by simp only [evOp, hti, hx, h1, qny], h⟩
  ·obtain ⟨v, h1, h⟩ := qa2 h
   exact ⟨_, _, by simp only [evOp, hti, h1, qny], qC (k := fun v => k v H) h⟩
 | store t a v =>
  simp only [kOp] at h
  split at h
  case h_2 => cases h
  rename_i ti hti
  obtain ⟨H', h1, hz⟩ := qhV h
  exact ⟨_, _, by simp only [evOp, (qlo hti).1, h1, qny], hz⟩
 | nilCheck a =>
  obtain ⟨h1, h2⟩ := qe6 (cfg := cfg) (nid := nid) (ty := ty) (H := H) (x := x) (a := a) (k := fun v => k v H) rfl h
  exact ⟨_, _, h1, h2⟩
 | binOp op t a b yt =>
  simp only [kOp] at h
  obtain ⟨v, h1, h⟩ := qf h
  exact ⟨_, _, by simp only [evOp, h1, qny], qC (k := fun v => k v H) h⟩
 | unOp op t a =>
  simp only [kOp] at h
  obtain ⟨v, h1, h⟩ := qf h
  exact ⟨_, _, by simp only [evOp, h1, qny], qC (k := fun v => k v H) h⟩
 | convert s d a => exact qfR h
 | makeFunc f first caps => exact ⟨_, _, rfl, h⟩
 | makeSlice t l c => exact qhX h
 | slice t a lo hi mx =>
  simp only [kOp] at h
  obtain ⟨v, h1, hz⟩ := qhW h
  exact ⟨_, _, by simp only [evOp, h1, qny], hz⟩
 | fieldAddr t a f =>
  simp only [kOp] at h
  obtain ⟨v, h1, hz⟩ := qeh h
  exact ⟨_, _, by simp only [evOp, h1, qny], hz⟩
 | field t a f =>
  simp only [kOp] at h
  obtain ⟨v, h1, h⟩ := qhZ h
  exact ⟨_, _, by simp only [evOp, h1, qny], qC (k := fun v => k v H) h⟩
 | indexAddr t a i =>
  simp only [kOp] at h
  obtain ⟨v, h1, hz⟩ := qee h
  exact ⟨_, _, by simp only [evOp, h1, qny], hz⟩
 | index t a i =>
  simp only [kOp] at h
  obtain ⟨v, h1, h⟩ := qhY h
  exact ⟨_, _, by simp only [evOp, h1, qny], qC (k := fun v => k v H) h⟩
 | extract t i =>
  simp only [kOp] at h
  split at h
  ·rename_i vs hvs
   obtain ⟨v, h1, h⟩ := qf h
   exact ⟨_, _, by simp only [evOp, hvs, h1, qny], qC (k := fun v => k v H) h⟩
  ·cases h
 | call c =>
  simp only [kOp] at h
  obtain ⟨callee, args, argTypes⟩ := c
  simp only at h
  simp only [evOp]
  split at h
  case h_2 => cases h
  generalize args.toList = al at *
  generalize argTypes.toList = tl at *
  split at h
  ·obtain ⟨v, h1, hz⟩ := qkh h
   exact ⟨_, _, by simp only [h1, qny], hz⟩
  ·obtain ⟨v, h1, hz⟩ := qkj h
   exact ⟨_, _, by simp only [h1, qny], hz⟩
  ·exact qgY h
  ·rename_i d s t xt
   obtain ⟨v, H', h1, hz⟩ := qi8 h
   exact ⟨_, _, h1, hz⟩
  ·obtain ⟨v, h1, hz⟩ := qh1 h
   exact ⟨_, _, by simp only [h1, qny], hz⟩
  ·obtain ⟨v, h1, h⟩ := qf h
   exact ⟨_, _, by simp only [h1, qny], qC (k := fun v => k v H) h⟩
  ·obtain ⟨v, h1, h⟩ := qf h
   exact ⟨_, _, by simp only [h1, qny], qC (k := fun v => k v H) h⟩
  ·cases h
 | _ => simp only [kOp] at h; cases h
def KfOk (cf : Orac) (kf : KF α) : Prop := ∀ t a H k r, kf t a H k = some r → ∃ q, cf t a H = some q ∧ k q = some r
theorem qa9 {cf : Orac} {f : Nat} : ∀ {l : List AV} {k : Option α}, qel cf f l k = some r → xF cf f l = some () ∧ k = some r
 | [], _, h => ⟨rfl, h⟩
 | a :: l, k, h => by
  rw [qel] at h
  obtain ⟨u, h1, h⟩ := qf h
  obtain ⟨h2, hz⟩ := qa9 h
  refine ⟨?_, hz⟩
  unfold EVz at h1
  obtain ⟨q, h3, h4⟩ := qnk.1 h1
  rw [xF, h3]
  simp only [qnt, h4, h2]
theorem qjb {cfg : Cfg} {cf : Orac} {kf : KF α} (hkf : KfOk cf kf) {nid : Option Nat} {ty : TypeId} {t : Tgt} {args : List AV} {k : KH α} (h : qcg cfg cf kf nid ty t args H k = some r) : ∃ v H', qv cfg cf nid t args H = some (v, H') ∧ k v H' = some r := by
 cases t with
 | y id =>
  simp only [qcg] at h
  obtain ⟨q, h1, h⟩ := hkf _ _ _ _ _ h
  obtain ⟨p, h2, h⟩ := qf h
  exact ⟨_, _, by simp only [qv, h1, qnt]; exact h2, qC (k := fun v => k v p.2) h⟩
 | f f =>
  simp only [qcg] at h
  cases hm : cfg.mode f with
  | scal =>
   simp only [hm] at h
   obtain ⟨h1, h⟩ := qb (qek h)
   split at h
   ·obtain ⟨q, h5, h⟩ := hkf _ _ _ _ _ h
    have h3 := qC (k := fun v => cond v.scalar (k v H) none) h
    obtain ⟨h4, hz⟩ := qb h3
    exact ⟨q.1, H, by simp only [qv, hm, h1, if_true, h5, qnt, h4], hz⟩
   obtain ⟨v, h2, h⟩ := qf h
   have h3 := qC (k := fun v => cond v.scalar (k v H) none) h
   obtain ⟨h4, hz⟩ := qb h3
   unfold EVs at h2
   obtain ⟨q, h5, h6⟩ := qnl.1 h2
   exact ⟨v, H, by simp only [qv, hm, h1, if_true, h5, qnt, h6, h4], hz⟩
  | pfrz =>
   simp only [hm] at h
   obtain ⟨h1, h⟩ := qb h
   split at h
   ·obtain ⟨q, h5, h⟩ := hkf _ _ _ _ _ h
    have h2 := qfC (k := fun v => kTy qbf cfg ty v fun v => cond (v.refsLt 0) (k v H) none) h
    have h3 := qC (k := fun v => cond (v.refsLt 0) (k v H) none) h2
    obtain ⟨h4, hz⟩ := qb h3
    exact ⟨_, H, by simp only [qv, hm, h1, if_true, h5, qnt, h4], hz⟩
   obtain ⟨v, h2, h⟩ := qf h
   have h3 := qC (k := fun v => cond (v.refsLt 0) (k v H) none) h
   obtain ⟨h4, hz⟩ := qb h3
   unfold EVf at h2
   obtain ⟨q, h5, h6⟩ := qnl.1 h2
   exact ⟨v, H, by simp only [qv, hm, h1, if_true, h5, qnt, h6, h4], hz⟩
  | pown =>
   simp only [hm] at h
   split at h
   ·rename_i t1 t2 _
    obtain ⟨h1, h⟩ := qb h
    obtain ⟨q, h2, h⟩ := qf h
    obtain ⟨p, h5, h6⟩ := qnk.1 h2
    unfold qlp at h6
    split at h6
    case h_2 => cases h6
    rename_i a sc hp
    obtain ⟨h7, h6⟩ := qb h6
    split at h6
    case h_2 => cases h6
    rename_i o ho
    cases h6
    have h := qbJ (k := fun s => kOwn o (k (.tup [.nilS, s]) H) fun sz rs off len => kNew nid H (.rows true sz rs) fun i H' => k (.tup [.ms i off len, s]) H') h
    unfold ovOf at ho
    split at ho
    ·rename_i hq
     cases ho
     refine ⟨.tup [.nilS, sc], H, ?_, h⟩
     have hq : a = .nilS := hq
     simp only [qv, hm, h1, if_true, h5, qnt, zU, hp, h7, hq, xm, AV.refsLt, qny]
    ·rename_i id off len hq
     split at ho
     case h_2 => cases ho
     rename_i sz rs hid
     split at ho
     case isFalse => cases ho
     rename_i hr
     cases ho
     simp only [kOwn] at h
     obtain ⟨i, H', h8, hz⟩ := vI h
     have hq : a = .ms id off len := hq
     refine ⟨_, _, ?_, hz⟩
     simp only [qv, hm, h1, if_true, h5, qnt, zU, hp, h7, hq, xm, hid, hr, h8, qny]
    ·cases ho
   ·obtain ⟨h1, h⟩ := qb h
    have key : ∃ q o, cf (.f f) args [] = some q ∧ ovOf q = some o ∧ (kOwn o (k .nilS H) fun sz rs off len => kNew nid H (.rows true sz rs) fun i H' => k (.ms i off len) H') = some r := by
     split at h
     ·obtain ⟨q, h5, h⟩ := hkf _ _ _ _ _ h
      obtain ⟨o, h6, h⟩ := qf h
      exact ⟨q, o, h5, h6, h⟩
     ·obtain ⟨o, h2, h⟩ := qf h
      unfold EVo at h2
      obtain ⟨q, h5, h6⟩ := qnk.1 h2
      exact ⟨q, o, h5, h6, h⟩
    obtain ⟨q, o, h5, h6, h⟩ := key
    unfold ovOf at h6
    split at h6
    ·rename_i hq
     cases h6
     exact ⟨.nilS, H, by simp only [qv, hm, h1, if_true, h5, qnt, zU, xm, hq, AV.refsLt], h⟩
    ·rename_i id off len hq
     split at h6
     case h_2 => cases h6
     rename_i sz rs hid
     split at h6
     case isFalse => cases h6
     rename_i hr
     cases h6
     simp only [kOwn] at h
     obtain ⟨i, H', h7, hz⟩ := vI h
     exact ⟨_, _, by simp only [qv, hm, h1, if_true, h5, qnt, zU, xm, hq, hid, hr, h7], hz⟩
    ·cases h6
  | inpl =>
   simp only [hm] at h
   have res : ∀ (kd : Nat) (ik : IntKind) (id : Nat) (v : MV) (k : KV α), qgf kd ik id v k = some r → k (v.av id) = some r := by
    intro kd ik id v k h
    unfold qgf at h
    split at h
    ·cases v <;> first | exact h | exact absurd h (by simp [qgT])
    ·cases v <;> first | exact h | exact absurd h (by simp [kMSl])
    ·cases v with
     | int q n =>
      obtain ⟨h1, h2⟩ := qb h
      rw [← qbH h1] at h2
      exact h2
     | _ => exact absurd h (by simp [qgg])
    ·cases v <;> first | exact h | exact absurd h (by simp [qgU])
   split at h
   case h_2 =>
    rename_i hids
    obtain ⟨h1, h⟩ := qb h
    obtain ⟨v1, h2, h⟩ := qf h
    unfold EVu at h2
    obtain ⟨r1, h5, h6⟩ := qnk.1 h2
    split at h6
    case isFalse => cases h6
    rename_i hrf
    have hav : r1.1 = v1.av 0 := by
     unfold mvOf at h6
     split at h6
     ·rename_i e; cases h6; rw [e]; rfl
     ·rename_i e; cases h6; rw [e]; rfl
     ·rename_i i off len e
      rw [e] at hrf
      simp [AV.refsLt, Nat.blt_eq] at hrf
     ·rename_i e; cases h6; rw [e]; rfl
     ·rename_i e; cases h6; rw [e]; rfl
     ·cases h6
    refine ⟨v1.av 0, H, ?_, res _ _ _ _ (fun v => k v H) h⟩
    simp only [qv, hm, hids, h1, if_true, h5, qnt, hrf]
    rw [hav]
   rename_i id l hids
   obtain ⟨h1, h⟩ := qb h
   obtain ⟨b, h2, h⟩ := qf h
   split at h
   case h_2 => cases h
   rename_i d sz rs
   obtain ⟨h3, h⟩ := qb h
   obtain ⟨q, h4, h⟩ := qf h
   unfold EVm at h4
   obtain ⟨r1, h5, h6⟩ := qnk.1 h4
   obtain ⟨q1, h7, h8⟩ := qnk.1 h6
   obtain ⟨v1, h9, h10⟩ := qnl.1 h8
   cases h10
   have hav : q1.1.ren (fun _ => id) = v1.av id := by
    unfold mvOf at h9
    split at h9
    ·rename_i e; cases h9; rw [e]; simp [AV.ren, renL, MV.av]
    ·rename_i e; cases h9; rw [e]; simp [AV.ren, MV.av]
    ·rename_i i off len e
     split at h9
     ·cases h9; rw [e]; simp [AV.ren, MV.av]
     ·cases h9
    ·rename_i e; cases h9; rw [e]; simp [AV.ren, MV.av]
    ·rename_i e; cases h9; rw [e]; simp [AV.ren, MV.av]
    ·cases h9
   have hk : k (v1.av id) (H.set id (.rows true sz q1.2)) = some r := res _ _ _ _ (fun v => k v (H.set id (.rows true sz q1.2))) h
   refine ⟨v1.av id, _, ?_, hk⟩
   simp only [qv, hm, hids, h1, if_true, h2, h3, h5, qnt, h7, qny, hav]
  | inpf =>
   simp only [hm] at h
   split at h
   case h_2 => cases h
   rename_i id l hids
   obtain ⟨h1, h⟩ := qb h
   obtain ⟨b, h2, h⟩ := qf h
   split at h
   case h_2 => cases h
   rename_i d sz rs
   obtain ⟨h3, h⟩ := qb h
   obtain ⟨q, h4, h⟩ := qf h
   unfold EVd at h4
   obtain ⟨r1, h5, h6⟩ := qnk.1 h4
   have hk := qC (k := fun v => k v (H.set id (.rows true sz q.2))) h
   refine ⟨q.1, _, ?_, hk⟩
   simp only [qv, hm, hids, h1, if_true, h2, h3, h5, qnt, h6, qny]
  | slf =>
   simp only [hm] at h
   split at h
   case h_2 => cases h
   rename_i id l hids
   obtain ⟨h1, h⟩ := qb h
   obtain ⟨b, h2, h⟩ := qf h
   split at h
   case h_2 => cases h
   rename_i d sz rs
   obtain ⟨h3, h⟩ := qb h
   obtain ⟨q, h4, h⟩ := qf h
   have h4 := qlm h4
   unfold EVx at h4
   obtain ⟨r1, h5, h6⟩ := qnk.1 h4
   have hk := qC (k := fun v => k v (H.set id (.rows false sz (renR (fun _ => id) (renR (fun _ => 0) rs))))) h
   refine ⟨q, _, ?_, hk⟩
   simp only [qv, hm, hids, h1, if_true, h2, h3, h5, qnt, h6, qny]
  | wfrz =>
   simp only [hm] at h
   obtain ⟨h1, h⟩ := qb h
   obtain ⟨v, h2, h⟩ := qf h
   unfold EVw at h2
   obtain ⟨q, h5, h6⟩ := qnl.1 h2
   split at h
   ·obtain ⟨n, rows, rfl, hz⟩ := qk4 h
    exact ⟨_, H, by simp only [qv, hm, h1, if_true, h5, qnt, h6]; rfl, hz⟩
   ·have h3 := qC (k := fun v => cond (v.refsLt 0) (k v H) none) h
    obtain ⟨h4, hz⟩ := qb h3
    exact ⟨v, H, by simp only [qv, hm, h1, if_true, h5, qnt, h6, h4], hz⟩
  | nfrz =>
   simp only [hm] at h
   obtain ⟨h1, h⟩ := qb h
   obtain ⟨V, h2, h⟩ := qf h
   have h3 := qC (k := fun V => k V.lendT H) h
   unfold EVn at h2
   obtain ⟨q, h5, h6⟩ := qnk.1 h2
   exact ⟨_, _, by simp only [qv, hm, h1, if_true, h5, qnt, h6, qny], h3⟩
  | rgn =>
   simp only [hm] at h
   obtain ⟨h1, h⟩ := qb h
   obtain ⟨V, h2, h⟩ := qf h
   have h3 := qC (k := fun V => kNew nid H .reg fun i H' => k (rgIn i V) H') h
   obtain ⟨i, H', h4, hz⟩ := vI h3
   unfold EVg at h2
   obtain ⟨q, h5, h6⟩ := qnk.1 h2
   exact ⟨_, _, by simp only [qv, hm, h1, if_true, h5, qnt, h6, h4, qny], hz⟩
  | over =>
   simp only [hm] at h
   split at h
   case h_2 => cases h
   rename_i a
   split at h
   case h_2 => cases h
   rename_i id l hids
   obtain ⟨h1, h⟩ := qb h
   obtain ⟨b, h2, h⟩ := qf h
   split at h
   ·obtain ⟨h3, hz⟩ := qa9 h
    exact ⟨_, _, by simp only [qv, hm, hids, h1, if_true, h2, h3, qny], hz⟩
   ·obtain ⟨h3, hz⟩ := qa9 h
    exact ⟨_, _, by simp only [qv, hm, hids, h1, if_true, h2, h3, qny], hz⟩
   ·cases h
  | imp =>
   simp only [hm] at h
   obtain ⟨q, h1, h⟩ := hkf _ _ _ _ _ h
   obtain ⟨p, h2, h⟩ := qf h
   exact ⟨_, _, by simp only [qv, hm, h1, qnt]; exact h2, qC (k := fun v => k v p.2) h⟩
  | ifrz =>
   simp only [hm] at h
   obtain ⟨q, h1, h⟩ := hkf _ _ _ _ _ h
   obtain ⟨p, h2, h⟩ := qf h
   exact ⟨_, _, by simp only [qv, hm, h1, qnt]; exact h2, qC (k := fun v => k v p.2) h⟩
theorem qke {f : AV} {args : List AV} {k : Tgt → List AV → Option α} (h : kTgt f args k = some r) : ∃ t, xf f args = some t ∧ k t.1 t.2 = some r := by
 unfold kTgt at h
 unfold xf
 split at h
 ·exact ⟨_, rfl, h⟩
 ·exact ⟨_, rfl, h⟩
 ·cases h
theorem qki {ids : List Nat} {v : AV} {k : KV α} (hi : ∀ id ∈ v.msIds, id ∈ ids) (h : qi6 H v k = some r) : k (v.frz ids H) = some r := by
 unfold qi6 at h
 split at h
 ·rename_i cs
  have := zh (ids := ids) (fun v hv id off len e => hi id (qab hv e)) h
  simpa [AV.frz, Function.comp_def] using this
 ·rename_i cs
  have := zh (k := fun cs => k (.tup cs)) (ids := ids) (fun v hv id off len e => hi id (qab hv e)) h
  simpa [AV.frz, Function.comp_def] using this
 ·rename_i h1 h2
  have h4 := (xZ h).1 ids (fun id off len e => hi id (by subst e; simp [AV.msIds, AV.msId])) rfl
  have e1 : v.frz ids H = v.frz1 ids H := by
   cases v <;> first | rfl | exact absurd rfl (h1 _) | exact absurd rfl (h2 _)
  rw [e1]; exact h4
theorem qa4 {ids : List Nat} : ∀ {l : List AV} {k : List AV → Option α}, (∀ v ∈ l, ∀ id ∈ v.msIds, id ∈ ids) → qbN H l k = some r → k (l.map fun v => v.frz ids H) = some r
 | [], k, _, h => h
 | a :: l, k, hi, h => by
  rw [qbN] at h
  have h1 := qki (ids := ids) (hi a (by simp)) h
  exact qa4 (k := fun l => k (a.frz ids H :: l)) (fun v hv => hi v (by simp [hv])) h1
theorem qlJ {a b : Operand} (h : opEq a b = true) : a = b := by
 cases a <;> cases b <;> simp_all [opEq]
theorem qir {y : Operand → AV} (a : Operand) : ∀ l : List Operand, frzX l (l.map y) y a = y a
 | [] => rfl
 | b :: l => by
  rw [List.map_cons, frzX]
  cases hb : opEq b a with
  | true => rw [cond_true, qlJ hb]
  | false => rw [cond_false]; exact qir a l
theorem qef {cfg : Cfg} {nid : Option Nat} {o : Oper} {x : Operand → AV} {k : KH α} (h : qgh cfg nid o x H k = some r) :
  kOp cfg nid o.op o.type (fun a => (x a).frz (o.op.operands.toList.flatMap fun a => (x a).msIds) H) (qp (o.op.operands.toList.flatMap fun a => (x a).msIds) H) k = some r := by
 unfold qgh at h
 have h1 := qa4 (ids := o.op.operands.toList.flatMap fun a => (x a).msIds) (fun v hv id hid => by
  obtain ⟨a, ha, rfl⟩ := List.mem_map.1 hv
  exact List.mem_flatMap.2 ⟨a, ha, hid⟩) h
 rw [List.map_map] at h1
 have e : frzX o.op.operands.toList (o.op.operands.toList.map ((fun v => v.frz (o.op.operands.toList.flatMap fun a => (x a).msIds) H) ∘ x)) (fun a => (x a).frz (o.op.operands.toList.flatMap fun a => (x a).msIds) H) = fun a => (x a).frz (o.op.operands.toList.flatMap fun a => (x a).msIds) H := funext fun a => qir a _
 rw [e] at h1
 exact h1
theorem qeb {cfg : Cfg} {cf : Orac} {kf : KF α} (hkf : KfOk cf kf) {frz : Bool} {nid : Option Nat} {o : Oper} {x : Operand → AV} {k : KH α} (h : qgd cfg cf kf frz nid o x H k = some r) : ∃ v H', qL cfg cf frz nid o x H = some (v, H') ∧ k v H' = some r := by
 have core : ∀ {x : Operand → AV} {H : AH}, (match o.op with
   | .call c =>
    match c.callee with
    | .value f => kTgt (x f) (c.args.toList.map x) fun t al => qcg cfg cf kf nid o.type t al H k
    | _ => kOp cfg nid o.op o.type x H k
   | _ => kOp cfg nid o.op o.type x H k) = some r → ∃ v H', (match o.op with
    | .call c =>
     match c.callee with
     | .value f => (xf (x f) (c.args.toList.map x)).bind fun t => qv cfg cf nid t.1 t.2 H
     | _ => evOp cfg nid o.op o.type x H
    | _ => evOp cfg nid o.op o.type x H) = some (v, H') ∧ k v H' = some r := by
  intro x H h
  cases ho : o.op with
  | call c =>
   simp only [ho] at h ⊢
   cases hc : c.callee with
   | value f =>
    simp only [hc] at h ⊢
    obtain ⟨t, h1, h⟩ := qke h
    obtain ⟨v, H', h2, hz⟩ := qjb hkf h
    exact ⟨v, H', by rw [h1]; exact h2, hz⟩
   | _ => simp only [hc] at h ⊢; exact qgR h
  | _ => simp only [ho] at h ⊢; exact qgR h
 unfold qgd at h
 unfold qL
 cases frz with
 | true =>
  simp only [cond_true] at h
  simp only [if_true]
  refine core (x := fun a => (x a).frz (o.op.operands.toList.flatMap fun a => (x a).msIds) H) (H := qp (o.op.operands.toList.flatMap fun a => (x a).msIds) H) ?_
  cases ho : o.op with
  | call c =>
   simp only [ho] at h ⊢
   cases hc : c.callee with
   | value f =>
    simp only [hc] at h ⊢
    have h1 := qa4 (ids := (Op.call c).operands.toList.flatMap fun a => (x a).msIds) (fun v hv id hid => by
     obtain ⟨a, ha, rfl⟩ := List.mem_map.1 hv
     refine List.mem_flatMap.2 ⟨a, ?_, hid⟩
     simp [Op.operands, Call.operands, hc, Array.mem_toList_iff.1 ha]) h
    rw [List.map_map] at h1
    exact h1
   | _ => simp only [hc] at h ⊢; have h := qef h; rw [ho] at h; exact h
  | _ => simp only [ho] at h ⊢; have h := qef h; rw [ho] at h; exact h
 | false => simp only [cond_false] at h; simp only [qnu, if_false]; exact core h
theorem qc5 {fr : List AV} {d : Nat} {v : AV} (h : fr[d]? = some v) : fr.set d v = fr := by
 obtain ⟨hl, e⟩ := qnj.1 h
 rw [← e]; exact List.set_getElem_self hl
theorem qbI {ops : Array Oper} {fr : List AV} {o : Oper} {k : Bool → List AV → Option α} (h : qce ops fr o k = some r) : ∃ b, vL ops fr o = some b ∧ k b fr = some r := by
 unfold qce at h
 unfold vL
 split at h
 ·rename_i hg; rw [hg]; exact ⟨true, rfl, h⟩
 ·rename_i j want hg
  rw [hg]
  simp only
  split at h
  ·rename_i d hd
   rw [hd]
   simp only
   obtain ⟨v, h1, h⟩ := qf h
   rw [h1]
   split at h
   ·split at h
    ·exact ⟨false, rfl, h⟩
    ·cases h
   ·obtain ⟨b, rfl, h⟩ := zA h
    simp only
    refine ⟨_, rfl, ?_⟩
    rcases vw h with ⟨rfl, h⟩ | ⟨rfl, h⟩
    ·rw [qc5 h1] at h
     cases want <;> exact h
    ·rw [qc5 h1] at h
     cases want <;> exact h
  ·cases h
theorem qbK {cfg : Cfg} {cf : Orac} {kf : KF α} (hkf : KfOk cf kf) {f rid : Nat} {ops : Array Oper} : ∀ {l : List Oper} {n : Nat} {fr : List AV} {H : AH} {k : List AV → AH → Option α}, kOps cfg cf kf f rid ops n l fr H k = some r → ∃ q, yr cfg cf f rid ops n l fr H = some q ∧ k q.1 q.2 = some r
 | [], n, fr, H, k, h => ⟨(fr, H), rfl, h⟩
 | o :: l, n, fr, H, k, h => by
  rw [kOps] at h
  obtain ⟨b, h1, h⟩ := qbI h
  rw [yr, h1]
  simp only [qnt]
  rcases vw h with ⟨rfl, h⟩ | ⟨rfl, h⟩
  ·obtain ⟨v, H', h2, h⟩ := qeb hkf h
   simp only [if_true, h2, qnt]
   exact qbK hkf h
  ·simp only [qnu, if_false]
   exact qbK hkf h
theorem qit {β : Type} (b : Bool) (x y : β) : cond b x y = if b then x else y := by cases b <;> rfl
theorem qa8 {cfg : Cfg} {cf : Orac} {kf : KF α} (hkf : KfOk cf kf) {f rid : Nat} {ops : Array Oper} : ∀ {l : List Oper} {n at_ : Nat} {fr : List AV} {H : AH} {k : List FP → List AV → AH → Option α}, qei cfg cf kf f rid ops n at_ l fr H k = some r →
  ∃ q, vY cfg cf f rid ops n at_ l fr H = some q ∧ k q.1 q.2.1 q.2.2 = some r
 | [], n, at_, fr, H, k, h => ⟨([], fr, H), rfl, h⟩
 | o :: l, n, at_, fr, H, k, h => by
  rw [qei] at h
  obtain ⟨b, h1, h⟩ := qbI h
  rw [vY, h1]
  simp only [qnt]
  rcases vw h with ⟨rfl, h9⟩ | ⟨rfl, h9⟩
  ·obtain ⟨v, H', h2, h8⟩ := qeb hkf h9
   simp only [if_true, h2, qnt]
   rw [qit] at h8
   obtain ⟨q, h3, hz⟩ := qa8 hkf h8
   exact ⟨_, by rw [h3]; rfl, hz⟩
  ·simp only [qnu, if_false]
   rw [qit] at h9
   obtain ⟨q, h3, hz⟩ := qa8 hkf h9
   exact ⟨_, by rw [h3]; rfl, hz⟩
theorem qd8 {fr : List AV} {c : Operand} {b : Bool} (h : opd fr c = .bool b) : known fr c b = fr := by
 cases c with
 | tmp d =>
  simp only [known]
  have hg : fr[d]? = some (.bool b) := by
   have h' : fr.getD d .junk = .bool b := h
   rw [List.getD_eq_getElem?_getD] at h'
   cases hd : fr[d]? with
   | none => rw [hd] at h'; cases h'
   | some v => rw [hd] at h'; simp at h'; rw [h']
  exact qc5 hg
 | _ => rfl
theorem zz {cfg : Cfg} {cf : Orac} {kf : KF α} (hkf : KfOk cf kf) {f : Nat} {rd : Option Nat} {bs : Nat} : ∀ (c : Code) {fr : List AV} {H : AH} {k : KE α}, qX cfg cf kf f rd bs c fr H k = some r → ∃ q, evC cfg cf f rd bs c fr H = some q ∧ k q.1 q.2.1 q.2.2 = some r := by
 intro c
 induction c with
 | skip => intro fr H k h; exact ⟨(.normal, fr, H), by simp only [evC], by simpa only [qX] using h⟩
 | label l => intro fr H k h; exact ⟨(.normal, fr, H), by simp only [evC], by simpa only [qX] using h⟩
 | exit id => intro fr H k h; exact ⟨(.exit id, fr, H), by simp only [evC], by simpa only [qX] using h⟩
 | ret => intro fr H k h; exact ⟨(.ret, fr, H), by simp only [evC], by simpa only [qX] using h⟩
 | goto l => intro fr H k h; simp only [qX] at h; cases h
 | refuse s => intro fr H k h; simp only [qX] at h; cases h
 | region id ops draw =>
  intro fr H k h
  simp only [qX] at h
  simp only [evC]
  cases draw with
  | true =>
   simp only [cond_true] at h
   simp only [if_true]
   obtain ⟨h1, h⟩ := qb h
   obtain ⟨q, h2, h⟩ := qa8 hkf h
   obtain ⟨h3, hz⟩ := qb h
   exact ⟨(.normal, q.2), by simp only [h1, if_true, h2, qnt, h3], hz⟩
  | false =>
   simp only [cond_false] at h
   simp only [qnu, if_false]
   obtain ⟨q, h2, hz⟩ := qbK hkf h
   exact ⟨(.normal, q), by simp only [h2, qny], hz⟩
 | seq x y ihx ihy =>
  intro fr H k h
  simp only [qX] at h
  simp only [evC]
  obtain ⟨q, h1, h⟩ := ihx h
  rw [h1]
  simp only [qnt]
  unfold kSeq at h
  cases hq : q.1 with
  | normal => simp only [hq] at h ⊢; exact ihy (qh0 h)
  | exit id => simp only [hq] at h ⊢; exact ⟨_, rfl, h⟩
  | goto l => simp only [hq] at h ⊢; exact ⟨_, rfl, h⟩
  | ret => simp only [hq] at h ⊢; exact ⟨_, rfl, h⟩
 | cond cnd x y ihx ihy =>
  intro fr H k h
  simp only [qX] at h
  simp only [evC]
  obtain ⟨b, h1, h⟩ := zA h
  rw [h1]
  simp only
  rcases vw h with ⟨rfl, h⟩ | ⟨rfl, h⟩
  ·rw [qd8 h1] at h
   simp only [if_true]; exact ihx h
  ·rw [qd8 h1] at h
   simp only [qnu, if_false]; exact ihy h
 | block id x ih =>
  intro fr H k h
  simp only [qX] at h
  simp only [evC]
  obtain ⟨q, h1, h⟩ := ih h
  rw [h1]
  simp only [qnt]
  unfold zi at h
  cases hq : q.1 with
  | normal => simp only [hq] at h ⊢; exact ⟨_, rfl, by rw [hq]; exact h⟩
  | exit id' =>
   simp only [hq] at h ⊢
   rcases vw h with ⟨h2, hz⟩ | ⟨h2, hz⟩
   ·exact ⟨_, by simp only [h2, if_true]; rfl, hz⟩
   ·exact ⟨q, by simp only [h2, qnu, if_false], by rw [hq]; exact hz⟩
  | goto l => simp only [hq] at h ⊢; exact ⟨_, rfl, by rw [hq]; exact h⟩
  | ret => simp only [hq] at h ⊢; exact ⟨_, rfl, by rw [hq]; exact h⟩
 | loop x ih =>
  intro fr H k h
  simp only [qX] at h
  simp only [evC]
  obtain ⟨q, h1, hz⟩ := qf h
  exact ⟨(q.1, qR (cfg.keepOut f (qh x)) q.2.1, q.2.2), by rw [h1]; rfl, hz⟩
 | scope x ih =>
  intro fr H k h
  simp only [qX] at h
  simp only [evC]
  obtain ⟨q, h1, h⟩ := ih h
  rw [h1]
  simp only [qnt]
  unfold qgO at h
  cases hq : q.1 with
  | goto l => simp only [hq] at h; cases h
  | normal => simp only [hq] at h ⊢; exact ⟨_, rfl, by rw [hq]; exact h⟩
  | exit id => simp only [hq] at h ⊢; exact ⟨_, rfl, by rw [hq]; exact h⟩
  | ret => simp only [hq] at h ⊢; exact ⟨_, rfl, by rw [hq]; exact h⟩
 | rangeFunc g ps assign body =>
  intro fr H k h
  simp only [qX] at h
  simp only [evC]
  generalize (qF (cfg.lift f (qh body)) fr H).1 = fr at h ⊢
  generalize (qF (cfg.lift f (qh body)) _ H).2 = H at h ⊢
  unfold qkg at h
  obtain ⟨h1, h⟩ := qb h
  split at h
  case h_2 => cases h
  rename_i g' first caps hg
  obtain ⟨h2, h⟩ := qb h
  obtain ⟨q, h3, h⟩ := hkf _ _ _ _ _ h
  unfold qad at h
  obtain ⟨b, h4, h⟩ := qf h
  unfold qlr at h
  split at h
  case h_2 => cases h
  rename_i pend st
  have hx : ¬ (cfg.ext g').isSome = true := by
   cases he : cfg.ext g' with
   | none => simp
   | some s => rw [he] at h2; cases h2
  have hst : st ≠ .busy := by
   intro e; subst e; simp at h
  have hpk : qgQ pend k (gc bs (qR (cfg.keepOut f (qh body)) fr) (q.2.set H.length .dead)).1 (gc bs (qR (cfg.keepOut f (qh body)) fr) (q.2.set H.length .dead)).2 = some r := by
   cases st with
   | busy => exact absurd rfl hst
   | _ => exact h
  unfold yy
  rw [if_pos h1, hg]
  simp only [hx, h3, qnt, h4]
  unfold qgQ at hpk
  cases st with
  | busy => exact absurd rfl hst
  | _ =>
   cases pend with
   | none => exact ⟨_, rfl, hpk⟩
   | some c =>
    cases c <;> first | exact ⟨_, rfl, hpk⟩ | cases hpk
theorem qac {cfg : Cfg} {fr : List AV} : ∀ {rs : List ResultVar} {k : List AV → Option α}, kRes cfg fr H rs k = some r → ∃ vs, q9 rs cfg.ty fr H = some vs ∧ k vs = some r
 | [], k, h => ⟨[], rfl, h⟩
 | .tmp t :: l, k, h => by
  rw [kRes] at h
  obtain ⟨vs, h1, hz⟩ := qac h
  exact ⟨_, by simp only [q9, h1, qny], hz⟩
 | .cell a t :: l, k, h => by
  rw [kRes] at h
  split at h
  ·rename_i ti hti
   obtain ⟨v, h1, h⟩ := qa2 h
   have h2 := qC (k := fun v => kRes cfg fr H l fun vs => k (v :: vs)) h
   obtain ⟨vs, h3, hz⟩ := qac h2
   exact ⟨_, by simp only [q9, hti, h1, qnt, h3, qny], hz⟩
  ·cases h
variable {α : Type}
def fxGo (i : Nat) (l : List (Nat × AV)) : Nat → List AV
 | 0 => []
 | n + 1 => match l with
  | [] => .junk :: fxGo (i + 1) [] n
  | p :: l' => if qnB p.1 i then p.2 :: fxGo (i + 1) l' n else .junk :: fxGo (i + 1) (p :: l') n
def fx (n : Nat) (l : List (Nat × AV)) : List AV := fxGo 0 l n
def qm (fn : Func) : Code := match fn.body with | some c => c | none => .skip
def sub : Code → List Nat → Code
 | c, [] => c
 | .seq a b, i :: l => match i with | 0 => sub a l | _ => sub b l
 | .cond _ a b, i :: l => match i with | 0 => sub a l | _ => sub b l
 | .block _ a, _ :: l => sub a l
 | .loop a, _ :: l => sub a l
 | .scope a, _ :: l => sub a l
 | .rangeFunc _ _ a b, i :: l => match i with | 0 => sub a l | _ => sub b l
 | c, _ => c
def rngB (fn : Func) (f : Nat) (p : List Nat) (fr : List AV) (pend : Option Code) (st : LoopState) : ABlk :=
 match sub (qm fn) p with
 | .rangeFunc _ ps a b => .loop f fr ps.toList a b pend st
 | _ => .dead
noncomputable def kLp (k : Nat) (ts : Option (List Tmp)) (ls : List (Tmp × Nat)) (L : Den) (A : Ex × List AV × AH → Option α) : KE α := fun e fr H =>
 match e with
 | .normal => kOpt (LOOP k ts ls L (xS k ts ls fr H)) A
 | e => A (e, fr, H)
theorem qiZ {cfg : Cfg} {kf : KF α} (hkf : KfOk (EV cfg) kf) {f : Nat} {rd : Option Nat} {bs : Nat} {c : Code} {k : Nat} {ts : Option (List Tmp)} {ls : List (Tmp × Nat)} {A : Ex × List AV × AH → Option α} {fr : List AV} {H : AH} {r : α}
  (h : qX cfg (EV cfg) kf f rd bs c fr H (kLp k ts ls (evC cfg (EV cfg) f rd bs c) A) = some r) : kOpt (LOOP k ts ls (evC cfg (EV cfg) f rd bs c) (fr, H)) A = some r := by
 obtain ⟨⟨e, fr1, H1⟩, h1, h2⟩ := zz hkf c h
 cases e with
 | normal =>
  simp only [kLp] at h2
  cases hl : LOOP k ts ls (evC cfg (EV cfg) f rd bs c) (xS k ts ls fr1 H1) with
  | none => rw [hl] at h2; cases h2
  | some q =>
   rw [hl] at h2
   rw [qkC (p := (fr, H)) h1 hl]
   exact h2
 | exit id => rw [qb4 (p := (fr, H)) h1 (fun x => by intro h; cases h)]; exact h2
 | goto l => rw [qb4 (p := (fr, H)) h1 (fun x => by intro h; cases h)]; exact h2
 | ret => rw [qb4 (p := (fr, H)) h1 (fun x => by intro h; cases h)]; exact h2
def y5 (cfg : Cfg) (ls : List (Tmp × Nat)) (g : AV → AH → Option α) (rs : List ResultVar) : KE α := fun e fr H =>
 match e with
 | .normal => kRes cfg (qF ls fr H).1 (qF ls fr H).2 rs fun vs => g (xl vs) (qF ls fr H).2
 | .ret => kRes cfg (qF ls fr H).1 (qF ls fr H).2 rs fun vs => g (xl vs) (qF ls fr H).2
 | _ => none
def vV (cfg : Cfg) (ls : List (Tmp × Nat)) (rs : List ResultVar) : KE AV := y5 cfg ls (fun v _ => some v) rs
def qm8 (cfg : Cfg) (ls : List (Tmp × Nat)) (rs : List ResultVar) : KE AV := y5 cfg ls (fun v H => qa5 false H v some) rs
def qlt (cfg : Cfg) (ls : List (Tmp × Nat)) (rs : List ResultVar) : KE OV := y5 cfg ls (fun v H => ovOf (v, H)) rs
noncomputable def qae (cfg : Cfg) (cf : Orac) (kf : KF α) (f : Nat) (fn : Func) (c : Code) (args : List AV) (H : AH) (fin : KE α) : Option α :=
 qX cfg cf kf f none H.length c (args ++ qnz (fn.ntmps - args.length) .junk) H fin
theorem qcV {cfg : Cfg} {kf : KF α} (hkf : KfOk (EV cfg) kf) {g : AV → AH → Option α} {f : Nat} {fn : Func} {args : List AV} {H : AH} {r : α} (hx : cfg.ext f = none) (hk : cfg.known f = true) (hf : cfg.P.funcs[f]? = some fn) (hb : fn.body = some (qm fn))
  (h : qae cfg (EV cfg) kf f fn (qm fn) args H (y5 cfg (cfg.lift f 0) g fn.results.toList) = some r) : ∃ v H', EV cfg (.f f) args H = some (v, H') ∧ g v H' = some r := by
 unfold qae at h
 obtain ⟨q, h1, h⟩ := zz hkf _ h
 have key : ∀ (vs : List AV), q9 fn.results.toList cfg.ty (qF (cfg.lift f 0) q.2.1 q.2.2).1 (qF (cfg.lift f 0) q.2.1 q.2.2).2 = some vs → (q.1 = .normal ∨ q.1 = .ret) → EV cfg (.f f) args H = some (xl vs, (qF (cfg.lift f 0) q.2.1 q.2.2).2) := by
  intro vs h2 hq
  refine qjx ?_
  unfold vg
  simp only [hx, hk, if_true, hf, hb, h1, qnt]
  unfold zl
  rcases hq with hq | hq <;> simp only [hq, h2, qny]
 unfold y5 at h
 split at h
 ·rename_i hq
  obtain ⟨vs, h2, h⟩ := qac h
  exact ⟨_, _, key vs h2 (.inl hq), h⟩
 ·rename_i hq
  obtain ⟨vs, h2, h⟩ := qac h
  exact ⟨_, _, key vs h2 (.inr hq), h⟩
 ·cases h
def kY2 (id : Nat) (K : AV × AH → Option α) : KE α := fun e _ H =>
 kOpt H[id]? fun b => match b with
  | .loop f fr ps a b _ _ => (match e with
   | .normal => K (.bool true, H.set id (.loop f fr ps a b none .ready))
   | .ret => K (.bool false, H.set id (.loop f fr ps a b (some .ret) .done))
   | .exit x => K (.bool false, H.set id (.loop f fr ps a b (some (.exit x)) .done))
   | .goto _ => none)
  | _ => none
noncomputable def kY1 (cfg : Cfg) (cf : Orac) (kf : KF α) (bs f id : Nat) (body : Code) (K : AV × AH → Option α) : KE α := fun e fr H =>
 match e with
 | .normal => kOpt H[id]? fun b => match b with
  | .loop f' fr' ps' a' b' p' st => (match st with
   | .ready => qX cfg cf kf f (some id) bs body fr (H.set id (.loop f' fr' ps' a' b' p' .busy)) (kY2 id K)
   | _ => none)
  | _ => none
 | _ => none
noncomputable def kY (cfg : Cfg) (cf : Orac) (kf : KF α) (id : Nat) (args : List AV) (H : AH) (K : AV × AH → Option α) : Option α :=
 kOpt H[id]? fun b => match b with
  | .loop f fr ps assign body _ st => (match st with
   | .ready => cond (qnB args.length ps.length) (qX cfg cf kf f (some id) H.length assign (vH fr ps args) H (kY1 cfg cf kf H.length f id body K)) none
   | _ => none)
  | _ => none
theorem qk3 {cfg : Cfg} {kf : KF α} (hkf : KfOk (EV cfg) kf) {id : Nat} {args : List AV} {H : AH} {K : AV × AH → Option α} {r : α} (h : kY cfg (EV cfg) kf id args H K = some r) : ∃ q, EV cfg (.y id) args H = some q ∧ K q = some r := by
 unfold kY at h
 obtain ⟨b, h1, h⟩ := qf h
 cases b with
 | loop f fr ps assign body pend st =>
  simp only at h
  cases st with
  | ready =>
   simp only at h
   obtain ⟨h2, h⟩ := qb h
   obtain ⟨q, h3, h⟩ := zz hkf _ h
   unfold kY1 at h
   cases hq : q.1 with
   | normal =>
    rw [hq] at h
    simp only at h
    obtain ⟨b, h4, h⟩ := qf h
    cases b with
    | loop f' fr' ps' a' b' p' st' =>
     simp only at h
     cases st' with
     | ready =>
      simp only at h
      obtain ⟨q2, h5, h⟩ := zz hkf _ h
      unfold kY2 at h
      obtain ⟨b, h6, h⟩ := qf h
      cases b with
      | loop f2 fr2 ps2 a2 b2 p2 st2 =>
       have key : ∀ q', vg cfg (EV cfg) (.y id) args H = some q' → K q' = some r → ∃ q, EV cfg (.y id) args H = some q ∧ K q = some r := fun q' h8 h9 => ⟨q', qjx h8, h9⟩
       cases hq2 : q2.1 with
       | normal =>
        rw [hq2] at h
        refine key _ ?_ h
        unfold vg
        simp only [h1, if_pos (qno h2), h3, qnt, hq, h4, h5, h6, hq2]
       | ret =>
        rw [hq2] at h
        refine key _ ?_ h
        unfold vg
        simp only [h1, if_pos (qno h2), h3, qnt, hq, h4, h5, h6, hq2]
       | exit x =>
        rw [hq2] at h
        refine key _ ?_ h
        unfold vg
        simp only [h1, if_pos (qno h2), h3, qnt, hq, h4, h5, h6, hq2]
       | goto x => rw [hq2] at h; cases h
      | _ => cases h
     | _ => cases h
    | _ => cases h
   | _ => rw [hq] at h; cases h
  | _ => cases h
 | _ => cases h
class InlOk (cfg : Cfg) : Prop where
 ok : ∀ f fn, cfg.inl f = some fn → cfg.ext f = none ∧ cfg.known f = true ∧ cfg.P.funcs[f]? = some fn ∧ fn.body = some (qm fn)
def qci (f : Nat) : List (Nat × Func) → Option Func
 | [] => none
 | p :: l => if qnB p.1 f then some p.2 else qci f l
def qkD (cfg : Cfg) : List (Nat × Func) → Prop
 | [] => True
 | p :: l => (cfg.ext p.1 = none ∧ cfg.known p.1 = true ∧ cfg.P.funcs[p.1]? = some p.2 ∧ p.2.body = some (qm p.2)) ∧ qkD cfg l
theorem InlOk.of {cfg : Cfg} (tab : List (Nat × Func)) (h : ∀ f, cfg.inl f = qci f tab) (ha : qkD cfg tab) : InlOk cfg where
 ok := by
  intro f fn hf
  rw [h] at hf
  clear h
  induction tab with
  | nil => cases hf
  | cons p l ih =>
   rw [qci] at hf
   split at hf
   ·rename_i e
    have e := qno e
    cases hf
    rw [← e]
    exact ha.1
   ·exact ih ha.2 hf
noncomputable def kfN (cfg : Cfg) : Nat → KF α
 | 0 => fun t a H k => kOpt (EV cfg t a H) k
 | n + 1 => fun t a H k => match t with
  | .f f => (match cfg.inl f with
   | some fn => qae cfg (EV cfg) (kfN cfg n) f fn (qm fn) a H (y5 cfg (cfg.lift f 0) (fun v H => k (v, H)) fn.results.toList)
   | none => kOpt (EV cfg (.f f) a H) k)
  | .y id => kY cfg (EV cfg) (kfN cfg n) id a H k
theorem qd9 {cfg : Cfg} [InlOk cfg] : ∀ n, KfOk (α := α) (EV cfg) (kfN cfg n)
 | 0 => fun t a H k r h => qf h
 | n + 1 => fun t a H k r h => by
  unfold kfN at h
  cases t with
  | f f =>
   simp only at h
   split at h
   ·rename_i fn hf
    obtain ⟨o1, o2, o3, o4⟩ := InlOk.ok f fn hf
    obtain ⟨v, H', h1, h2⟩ := qcV (qd9 n) o1 o2 o3 o4 h
    exact ⟨_, h1, h2⟩
   ·exact qf h
  | y id => exact qk3 (qd9 n) h
theorem qG {cfg : Cfg} [InlOk cfg] {f : Nat} {rd : Option Nat} {bs : Nat} {c : Code} {k : Nat} {ts : Option (List Tmp)} {ls : List (Tmp × Nat)} {A : Ex × List AV × AH → Option α} {fr : List AV} {H : AH} {r : α}
  (h : qX cfg (EV cfg) (kfN cfg 6) f rd bs c fr H (kLp k ts ls (evC cfg (EV cfg) f rd bs c) A) = some r) : kOpt (LOOP k ts ls (evC cfg (EV cfg) f rd bs c) (fr, H)) A = some r := qiZ (qd9 6) h
theorem zy {cfg : Cfg} [InlOk cfg] {g : AV → AH → Option α} {f : Nat} {fn : Func} {args : List AV} {H : AH} {r : α} (hx : cfg.ext f = none) (hk : cfg.known f = true) (hf : cfg.P.funcs[f]? = some fn) (hb : fn.body = some (qm fn))
  (h : qae cfg (EV cfg) (kfN cfg 6) f fn (qm fn) args H (y5 cfg (cfg.lift f 0) g fn.results.toList) = some r) : ∃ v H', EV cfg (.f f) args H = some (v, H') ∧ g v H' = some r := qcV (qd9 6) hx hk hf hb h
def Gets {β : Type} (o : Option β) (P : β → Prop) : Prop := ∃ r, o = some r ∧ P r
theorem Gets.ev {β : Type} {o o' : Option β} {P : β → Prop} (h : ∀ r, o = some r → o' = some r) (hy : Gets o P) : Gets o' P := by
 obtain ⟨r, h1, h2⟩ := hy
 exact ⟨r, h r h1, h2⟩
theorem Gets.eq {β : Type} {o o' : Option β} {P : β → Prop} (h : o' = o) (hy : Gets o P) : Gets o' P := h ▸ hy
theorem gE {β : Type} {o o' x : Option β} {P : β → Prop} (f : ∀ r, o = some r → o' = some r) (e : o = x) (h : Gets x P) : Gets o' P := Gets.ev f (Gets.eq e h)
theorem Gets.mono {β : Type} {o : Option β} {P Q : β → Prop} (h : Gets o P) (hq : ∀ b, P b → Q b) : Gets o Q := by
 obtain ⟨r, h1, h2⟩ := h
 exact ⟨r, h1, hq r h2⟩
theorem Gets.bind {β γ : Type} {o : Option β} {k : β → Option γ} {Q : β → Prop} {P : γ → Prop} (h : Gets o Q) (hk : ∀ b, Q b → Gets (k b) P) : Gets (kOpt o k) P := by
 obtain ⟨r, h1, h2⟩ := h
 subst h1
 exact hk r h2
@[simp] theorem gets_some {β : Type} {a : β} {P : β → Prop} : Gets (some a) P ↔ P a := ⟨fun ⟨r, h1, h2⟩ => by cases h1; exact h2, fun h => ⟨a, rfl, h⟩⟩
theorem Gets.get {β : Type} {o : Option β} {a : β} (h : Gets o (· = a)) : o = some a := by
 obtain ⟨r, h1, h2⟩ := h
 rw [h1, h2]
theorem qmJ {cfg : Cfg} {f : Nat} {args : List AV} {v : AV} {H : AH} (h : EV cfg (.f f) args [] = some (v, H)) : EVs (EV cfg) f args = some v := by unfold EVs; rw [h]; rfl
theorem qmL {cfg : Cfg} {f : Nat} {args : List AV} {v v' : AV} {H : AH} (h : EV cfg (.f f) args [] = some (v', H)) (e : (v'.frz v'.msIds H).fg = v) : EVf (EV cfg) f args = some v := by unfold EVf; rw [h]; exact congrArg some e
theorem qmK {cfg : Cfg} {f : Nat} {args : List AV} {v : OV} {r : AV × AH} (h : EV cfg (.f f) args [] = some r) (e : ovOf r = some v) : EVo (EV cfg) f args = some v := by unfold EVo; rw [h]; exact e
theorem funS {cfg : Cfg} [InlOk cfg] {f : Nat} {fn : Func} {args : List AV} {r : AV} (hx : cfg.ext f = none) (hk : cfg.known f = true) (hf : cfg.P.funcs[f]? = some fn) (hb : fn.body = some (qm fn))
  (h : qae cfg (EV cfg) (kfN cfg 6) f fn (qm fn) args [] (vV cfg (cfg.lift f 0) fn.results.toList) = some r) : EVs (EV cfg) f args = some r := by
 obtain ⟨v, H', h1, h2⟩ := zy hx hk hf hb h
 cases h2
 exact qmJ h1
theorem funF {cfg : Cfg} [InlOk cfg] {f : Nat} {fn : Func} {args : List AV} {r : AV} (hx : cfg.ext f = none) (hk : cfg.known f = true) (hf : cfg.P.funcs[f]? = some fn) (hb : fn.body = some (qm fn))
  (h : qae cfg (EV cfg) (kfN cfg 6) f fn (qm fn) args [] (qm8 cfg (cfg.lift f 0) fn.results.toList) = some r) : EVf (EV cfg) f args = some r := by
 obtain ⟨v, H', h1, h2⟩ := zy hx hk hf hb h
 exact qmL h1 (Option.some.inj (qfC h2))
theorem funO {cfg : Cfg} [InlOk cfg] {f : Nat} {fn : Func} {args : List AV} {r : OV} (hx : cfg.ext f = none) (hk : cfg.known f = true) (hf : cfg.P.funcs[f]? = some fn) (hb : fn.body = some (qm fn))
  (h : qae cfg (EV cfg) (kfN cfg 6) f fn (qm fn) args [] (qlt cfg (cfg.lift f 0) fn.results.toList) = some r) : EVo (EV cfg) f args = some r := by
 obtain ⟨v, H', h1, h2⟩ := zy hx hk hf hb h
 exact qmK h1 h2
def qls (cfg : Cfg) (ls : List (Tmp × Nat)) (rs : List ResultVar) : KE AV := y5 cfg ls (fun v H => match v with
 | .wr n u => (match u with
  | .ms id off len => qcf false false H (.ms id off len) fun x => some (.wr n x)
  | _ => none)
 | .int k n => some (.int k n)
 | .bool b => some (.bool b)
 | _ => none) rs
theorem funW {cfg : Cfg} [InlOk cfg] {f : Nat} {fn : Func} {args : List AV} {r : AV} (hx : cfg.ext f = none) (hk : cfg.known f = true) (hf : cfg.P.funcs[f]? = some fn) (hb : fn.body = some (qm fn))
  (h : qae cfg (EV cfg) (kfN cfg 6) f fn (qm fn) args [] (qls cfg (cfg.lift f 0) fn.results.toList) = some r) : EVw (EV cfg) f args = some r := by
 obtain ⟨v, H', h1, h2⟩ := zy hx hk hf hb h
 unfold EVw; rw [h1]
 split at h2
 ·rename_i n u
  split at h2
  ·rename_i id off len
   exact (xZ (k := fun x => some (AV.wr n x)) h2).1 [id] (fun i o l e => by cases e; simp) rfl
  ·cases h2
 ·exact h2
 ·exact h2
 ·cases h2
@[simp] theorem nble (a b : Nat) : qnF a b = decide (a ≤ b) := by
 rcases h : qnF a b with _ | _
 ·rw [eq_comm, decide_eq_false_iff_not]; intro h'; rw [Nat.ble_eq_true_of_le h'] at h; cases h
 ·rw [eq_comm, decide_eq_true_eq]; exact Nat.le_of_ble_eq_true h
@[simp] theorem nbeq (a b : Nat) : qnB a b = decide (a = b) := by
 rcases h : qnB a b with _ | _
 ·rw [eq_comm, decide_eq_false_iff_not]; intro h'; rw [h', Nat.beq_refl] at h; cases h
 ·rw [eq_comm, decide_eq_true_eq]; exact qno h
@[simp] theorem leInt_eq (a b : Int) : ql a b = decide (a ≤ b) := rfl
@[simp] theorem ltInt_eq (a b : Int) : qA a b = decide (a < b) := rfl
theorem beqD {β : Type} [BEq β] [LawfulBEq β] [DecidableEq β] (a b : β) : (a == b) = decide (a = b) := by
 by_cases h : a = b
 ·subst h; simp
 ·simp [h]
theorem bneD {β : Type} [BEq β] [LawfulBEq β] [DecidableEq β] (a b : β) : (a != b) = !decide (a = b) := by rw [bne, beqD]
def AV.IsInt (v : AV) : Prop := ∃ n, v = .int .i64 n
def AV.IsBool (v : AV) : Prop := ∃ b, v = .bool b
@[simp] theorem isInt_int (n : Int) : (AV.int .i64 n).IsInt := ⟨n, rfl⟩
@[simp] theorem isBool_bool (b : Bool) : (AV.bool b).IsBool := ⟨b, rfl⟩
@[simp] theorem qz {β : Type} (b : β) (k : β → Option α) : kOpt (some b) k = k b := rfl
@[simp] theorem kOptNone {β : Type} (k : β → Option α) : kOpt none k = none := rfl
@[simp] theorem kMInt_int (kd : IntKind) (n : Int) (k : Int → Option α) : qgg kd (.int kd n) k = k n := by simp [qgg, yL]
@[simp] theorem xr (kd : IntKind) (n : Int) (k : Int → Option α) : kInt kd (.int kd n) k = k n := by simp [kInt, yL]
@[simp] theorem qI (b : Bool) (k : Bool → Option α) : qq (.bool b) k = k b := rfl
@[simp] theorem kStr_str (s : List UInt8) (k : List UInt8 → Option α) : kStr (.str s) k = k s := rfl
@[simp] theorem kAgg_agg (cs : List AV) (k : List AV → Option α) : kAgg (.agg cs) k = k cs := rfl
@[simp] theorem kCons_cons (c : AV) (cs : List AV) (k : AV → List AV → Option α) : qM (c :: cs) k = k c cs := rfl
@[simp] theorem kNil_nil (x : Option α) : kNil [] x = x := rfl
@[simp] theorem kMSl_nil (x : Option α) (k : Nat → Nat → Option α) : kMSl .nil x k = x := rfl
@[simp] theorem kMSl_sl (off len : Nat) (x : Option α) (k : Nat → Nat → Option α) : kMSl (.sl off len) x k = k off len := rfl
@[simp] theorem kMUnit_unit (x : Option α) : qgT .unit x = x := rfl
@[simp] theorem kMBool_bool (b : Bool) (k : Bool → Option α) : qgU (.bool b) k = k b := rfl
@[simp] theorem kOwn_nil (x : Option α) (k : Nat → List (List AV) → Nat → Nat → Option α) : kOwn .nil x k = x := rfl
@[simp] theorem kOwn_own (sz : Nat) (rs : List (List AV)) (off len : Nat) (x : Option α) (k : Nat → List (List AV) → Nat → Nat → Option α) : kOwn (.own sz rs off len) x k = k sz rs off len := rfl
@[simp] theorem qkf (rs : List (List AV)) (k : List (List AV) → Option α) : kSl (.sl rs) k = k rs := rfl
@[simp] theorem qB {β : Type} (l : List β) (i : Nat) : qnv l i = l[i]? := rfl
variable {α β : Type}
def qeu (b : Bool) (k : Bool → α) : α := match b with | true => k true | false => k false
def fNat (n : Nat) (k : Nat → α) : α := match n with | 0 => k 0 | m + 1 => k (m + 1)
def fInt (n : Int) (k : Int → α) : α := match n with | .ofNat m => fNat m fun m => k (.ofNat m) | .negSucc m => fNat m fun m => k (.negSucc m)
def fL (g : β → (β → α) → α) : List β → (List β → α) → α
 | [], k => k []
 | a :: l, k => g a fun a' => fL g l fun l' => k (a' :: l')
def qly (kd : IntKind) (k : IntKind → α) : α := match kd with
 | .i64 => k .i64
 | .u64 => k .u64
 | .u8 => k .u8
 | .i32 => k .i32
 | .u32 => k .u32
 | x => k x
def qjj (b : UInt8) (k : UInt8 → α) : α := fNat b.toNat fun n => k (UInt8.ofNat n)
theorem qlx {g : β → (β → α) → α} (hg : ∀ b k, g b k = k b) : ∀ (l : List β) (k : List β → α), fL g l k = k l
 | [], _ => rfl
 | a :: l, k => by rw [fL, hg, qlx hg l]
theorem qde (b : Bool) (k : Bool → α) : qeu b k = k b := by cases b <;> rfl
theorem vR (b : Nat) (k : Nat → α) : fNat b k = k b := by cases b <;> rfl
theorem qlR (b : Int) (k : Int → α) : fInt b k = k b := by cases b <;> simp only [fInt, vR]
theorem qla (b : IntKind) (k : IntKind → α) : qly b k = k b := by cases b <;> rfl
theorem qlb (b : UInt8) (k : UInt8 → α) : qjj b k = k b := by simp [qjj, vR]
def qm2 (c a b : AV) (H : AH) : Option (AV × AH) :=
 match c with
 | .bool t => some (if t then a else b, H)
 | _ => none
def ql0 (cfg : Cfg) (nid : Option Nat) (t : TypeId) (H : AH) : Option (AV × AH) :=
 match cfg.ty t with
 | some ti =>
  if qV ti.zero then
   match aNew nid H (.rows (bigZ (cfg.fga t ti.zero)) ti.zero.length [cfg.fga t ti.zero]) with
   | some (k, H') => some (.ptr k 0 0, H')
   | none => none
  else none
 | none => none
def xBox (nid : Option Nat) (a : AV) (H : AH) : Option (AV × AH) :=
 match a.cells with
 | some cs =>
  match aNew nid H (.rows (bigZ cs) cs.length [cs]) with
  | some (k, H') => some (.ptr k 0 0, H')
  | none => none
 | none => none
def qlZ (cfg : Cfg) (t : TypeId) (parts : List (Nat × AV)) (H : AH) : Option (AV × AH) :=
 match cfg.ty t with
 | some ti =>
  if qV ti.zero then
   match ti.d with
   | .struct fs =>
    match xP cfg fs with
    | some ps => (za (fun i => ps[i]?) ti.zero parts).map fun cs => (.agg (cfg.fga t cs), H)
    | none => none
   | .array _ e =>
    match cfg.sz e with
    | some n => (za (fun i => some (i * n, n)) ti.zero parts).map fun cs => (.agg cs, H)
    | none => none
   | _ => none
  else none
 | none => none
def qcs (cfg : Cfg) (nid : Option Nat) (t : TypeId) (len : Nat) (parts : List (Nat × AV)) (H : AH) : Option (AV × AH) :=
 match cfg.td t with
 | some (.slice e) =>
  match cfg.ty e with
  | some ei =>
   if xk ei && qnF (len * ei.sz) 16777216 then
    match yS ei.sz (qnz len ei.zero) parts with
    | some rows =>
     match aNew nid H (.rows (qi 0 rows) ei.sz rows) with
     | some (k, H') => some (.ms k 0 len, H')
     | none => none
    | none => none
   else none
  | none => none
 | _ => none
def qm3 (cfg : Cfg) (t : TypeId) (a : AV) (H : AH) : Option (AV × AH) :=
 match cfg.ty t with
 | some ti => (xw ti.d.agg ti.sz H a).map fun v => (v, H)
 | none => none
def qlX (cfg : Cfg) (t : TypeId) (a v : AV) (H : AH) : Option (AV × AH) :=
 match cfg.sz t with
 | some n => (xo n H a v).map fun H' => (.junk, H')
 | none => none
def xNil (a : AV) (H : AH) : Option (AV × AH) :=
 match a with
 | .ptr id r off => some (.ptr id r off, H)
 | .cptr cs off => some (.cptr cs off, H)
 | .fn (.func f) a b => some (.fn (.func f) a b, H)
 | .mp id => some (.mp id, H)
 | .yld id => some (.yld id, H)
 | _ => none
def qkG (t : AV) (i : Nat) (H : AH) : Option (AV × AH) :=
 match t with
 | .tup vs => (vs[i]?).map fun v => (v, H)
 | _ => none
def xOp (cfg : Cfg) (nid : Option Nat) (o : Op) (ty : TypeId) (x : Operand → AV) (H : AH) : Option (AV × AH) :=
 match o with
 | .move a | .assign a => some (x a, H)
 | .pick c a b => qm2 (x c) (x a) (x b) H
 | .alloc t => ql0 cfg nid t H
 | .box _ a => xBox nid (x a) H
 | .build t parts => qlZ cfg t (parts.toList.map fun p => (p.1, x p.2)) H
 | .buildSlice t len parts => qcs cfg nid t len (parts.toList.map fun p => (p.1, x p.2)) H
 | .load t a => qm3 cfg t (x a) H
 | .store t a v => qlX cfg t (x a) (x v) H
 | .nilCheck a => xNil (x a) H
 | .binOp op t a b _ => (aBin cfg (litN a b) op t (x a) (x b)).map fun v => (v, H)
 | .unOp op _ a => (aUn op (x a)).map fun v => (v, H)
 | .convert s d a => xe cfg nid s d (x a) H
 | .makeFunc f first caps => some (.fn f (first.toList.map x) (caps.toList.map x), H)
 | .makeSlice t l c => yj cfg nid t (x l) (x c) H
 | .slice t a lo hi mx => (yR cfg t H (x a) (lo.map x) (hi.map x) (mx.map x)).map fun v => (v, H)
 | .fieldAddr t a f => (ya cfg t (x a) f).map fun v => (v, H)
 | .field t a f => (qaO cfg t (x a) f).map fun v => (v, H)
 | .indexAddr t a i => (vG cfg t H (x a).unwr (x i)).map fun v => (v, H)
 | .index t a i => (qaN cfg t (x a) (x i)).map fun v => (v, H)
 | .extract t i => qkG (x t) i H
 | o => evOp cfg nid o ty x H
theorem qlY (cfg : Cfg) (nid : Option Nat) (o : Op) (ty : TypeId) (x : Operand → AV) (H : AH) : xOp cfg nid o ty x H = evOp cfg nid o ty x H := by cases o <;> rfl
variable {α β : Type}
noncomputable def gL (g : β → (β → α) → α) (l : List β) : (List β → α) → α :=
 List.rec (motive := fun _ => (List β → α) → α) (fun k => k []) (fun a _ ih k => g a fun a' => ih fun l' => k (a' :: l')) l
noncomputable def gS (l : List β) : (List β → α) → α :=
 List.rec (motive := fun _ => (List β → α) → α) (fun k => k []) (fun a _ ih k => ih fun l' => k (a :: l')) l
theorem xK {g : β → (β → α) → α} (hg : ∀ b k, g b k = k b) : ∀ (l : List β) (k : List β → α), gL g l k = k l
 | [], _ => rfl
 | a :: l, k => by
  have : gL g (a :: l) k = g a fun a' => gL g l fun l' => k (a' :: l') := rfl
  rw [this, hg, xK hg l]
theorem xg : ∀ (l : List β) (k : List β → α), gS l k = k l
 | [], _ => rfl
 | a :: l, k => by
  have : gS (a :: l) k = gS l fun l' => k (a :: l') := rfl
  rw [this, xg l]
def gA1 (v : AV) (k : AV → α) : α := match v with
 | .int kd m => qly kd fun kd => fInt m fun m => k (.int kd m)
 | .bool b => qeu b fun b => k (.bool b)
 | .str s => fL qjj s fun s => k (.str s)
 | .ms a b c => fNat a fun a => fNat b fun b => fNat c fun c => k (.ms a b c)
 | .ptr a b c => fNat a fun a => fNat b fun b => fNat c fun c => k (.ptr a b c)
 | v => k v
theorem qeq (v : AV) (k : AV → α) : gA1 v k = k v := by
 cases v <;> simp only [gA1, qla, qlR, qde, vR, qlx qlb]
noncomputable def gA2 (v : AV) (k : AV → α) : α := match v with
 | .agg cs => gL gA1 cs fun cs => k (.agg cs)
 | .sl rows => gL (gL gA1) rows fun rows => k (.sl rows)
 | .cptr cs o => gL gA1 cs fun cs => fNat o fun o => k (.cptr cs o)
 | .fn f a b => gL gA1 a fun a => gL gA1 b fun b => k (.fn f a b)
 | v => gA1 v k
theorem qkp (v : AV) (k : AV → α) : gA2 v k = k v := by
 have e1 : ∀ (l : List AV) (k : List AV → α), gL gA1 l k = k l := xK qeq
 cases v <;> simp only [gA2, qeq, e1, vR, xK e1]
noncomputable def gA (v : AV) (k : AV → α) : α := match v with
 | .tup cs => gL gA2 cs fun cs => k (.tup cs)
 | .ifc t v => gA2 v fun v => k (.ifc t v)
 | v => gA2 v k
theorem y7 (v : AV) (k : AV → α) : gA v k = k v := by
 cases v <;> simp only [gA, qkp, xK qkp]
def gW (v : AV) (k : AV → α) : α := match v with
 | .int a b => k (.int a b)
 | .bool a => k (.bool a)
 | .str a => k (.str a)
 | .agg a => k (.agg a)
 | .tup a => k (.tup a)
 | .nilS => k .nilS
 | .sl a => k (.sl a)
 | .em => k .em
 | .ms a b c => k (.ms a b c)
 | .nilP => k .nilP
 | .ptr a b c => k (.ptr a b c)
 | .cptr a b => k (.cptr a b)
 | .fn a b c => k (.fn a b c)
 | .yld a => k (.yld a)
 | .nilF => k .nilF
 | .nilM => k .nilM
 | .mp a => k (.mp a)
 | .nilI => k .nilI
 | .ifc a b => k (.ifc a b)
 | .junk => k .junk
 | .lsl r => k (.lsl r)
 | .lpt c o => k (.lpt c o)
 | .rsl i r => k (.rsl i r)
 | .rpt i c o => k (.rpt i c o)
 | .alt l => k (.alt l)
 | .wr a b => k (.wr a b)
theorem qep (v : AV) (k : AV → α) : gW v k = k v := by cases v <;> rfl
noncomputable def gB (b : ABlk) (k : ABlk → α) : α := match b with
 | .rows d sz rs => qeu d fun d => fNat sz fun sz => gL (gL gA1) rs fun rs => k (.rows d sz rs)
 | .froz d sz rs => qeu d fun d => fNat sz fun sz => gL (gL gA1) rs fun rs => k (.froz d sz rs)
 | .mp es => gS es fun es => k (.mp es)
 | .loop f fr ps a b p s => gL gA1 fr fun fr => k (.loop f fr ps a b p s)
 | .dead => k .dead
 | .res => k .res
 | .reg => k .reg
 | .spl => k .spl
theorem qna (b : ABlk) (k : ABlk → α) : gB b k = k b := by
 have e1 : ∀ (l : List AV) (k : List AV → α), gL gA1 l k = k l := xK qeq
 cases b <;> simp only [gB, qde, vR, e1, xK e1, xg]
noncomputable def gP (p : Nat × AV) (k : Nat × AV → α) : α := gA p.2 fun v => k (p.1, v)
theorem qlv (p : Nat × AV) (k : Nat × AV → α) : gP p k = k p := by unfold gP; rw [y7]
noncomputable def gH (H : AH) (k : AH → α) : α := gL gB H k
theorem qck (H : AH) (k : AH → α) : gH H k = k H := xK qna H k
abbrev Ov := List (Nat × AV)
def den (n : Nat) (ov : Ov) : List AV := ov.foldr (fun p fr => fr.set p.1 p.2) (qnz n .junk)
noncomputable def qZ (t : Nat) (ov : Ov) : AV := List.rec (motive := fun _ => AV) .junk (fun p _ ih => cond (qnB p.1 t) p.2 ih) ov
theorem qbz (t : Nat) : qZ t [] = .junk := rfl
theorem yG (t : Nat) (p : Nat × AV) (ov : Ov) : qZ t (p :: ov) = cond (qnB p.1 t) p.2 (qZ t ov) := rfl
def OvOk (n : Nat) (ov : Ov) : Prop := ∀ p ∈ ov, p.1 < n
theorem qaJ (n : Nat) (ov : Ov) : (den n ov).length = n := by
 induction ov with
 | nil => simp [den]
 | cons p l ih => simp only [den, List.foldr_cons, List.length_set]; exact ih
theorem qaK {n : Nat} {ov : Ov} (h : OvOk n ov) (t : Nat) : (den n ov)[t]? = if t < n then some (qZ t ov) else none := by
 induction ov with
 | nil =>
  simp only [den, List.foldr_nil, qbz, List.getElem?_replicate]
 | cons p l ih =>
  have hl : OvOk n l := fun q hq => h q (List.mem_cons_of_mem _ hq)
  have hp : p.1 < n := h p (List.mem_cons_self ..)
  have : (den n (p :: l))[t]? = ((den n l).set p.1 p.2)[t]? := rfl
  rw [this, qnr, ih hl, qaJ, yG]
  by_cases e : p.1 = t
  ·subst e; simp [hp]
  ·have : qnB p.1 t = false := by rw [← Bool.not_eq_true]; intro h'; exact e (qno h')
   rw [if_neg e, this]; rfl
theorem qbA {n : Nat} {ov : Ov} (h : OvOk n ov) {t : Nat} (ht : ¬ t < n) : qZ t ov = .junk := by
 induction ov with
 | nil => rfl
 | cons p l ih =>
  have hp : p.1 < n := h p (List.mem_cons_self ..)
  have : qnB p.1 t = false := by rw [← Bool.not_eq_true]; intro h'; have := qno h'; omega
  rw [yG, this]
  exact ih fun q hq => h q (List.mem_cons_of_mem _ hq)
theorem qfl {n : Nat} {ov : Ov} (h : OvOk n ov) {fr : List AV} (hl : fr.length = n) (hg : ∀ t, t < n → fr[t]? = some (qZ t ov)) : den n ov = fr := by
 apply List.ext_getElem?
 intro t
 rw [qaK h]
 split
 ·rename_i ht; exact (hg t ht).symm
 ·rename_i ht; exact (List.getElem?_eq_none (by omega)).symm
noncomputable def opdO (ov : Ov) : Operand → AV
 | .tmp t => qZ t ov
 | .const v => ofValue v
 | .global _ => .junk
 | .func f => .fn (.func f) [] []
theorem qaF {n : Nat} {ov : Ov} (h : OvOk n ov) : opd (den n ov) = opdO ov := by
 funext o
 cases o with
 | tmp t =>
  show (den n ov).getD t .junk = qZ t ov
  rw [List.getD_eq_getElem?_getD, qaK h]
  split
  ·rfl
  ·rename_i ht; exact (qbA h ht).symm
 | _ => rfl
def putO (n : Nat) (ov : Ov) (dst : Option Tmp) (v : AV) : Ov :=
 match dst with
 | some d => cond (Nat.blt d n) ((d, v) :: ov) ov
 | none => ov
theorem qcb {n : Nat} {ov : Ov} (h : OvOk n ov) (dst : Option Tmp) (v : AV) : OvOk n (putO n ov dst v) := by
 cases dst with
 | none => exact h
 | some d =>
  simp only [putO]
  cases hd : Nat.blt d n with
  | false => exact h
  | true =>
   intro p hp
   rw [cond_true] at hp
   rcases qnE.1 hp with rfl | hp
   ·simpa [Nat.blt_eq] using hd
   ·exact h p hp
theorem qaX {n : Nat} {ov : Ov} (dst : Option Tmp) (v : AV) : den n (putO n ov dst v) = put (den n ov) dst v := by
 cases dst with
 | none => rfl
 | some d =>
  simp only [putO, put]
  cases hd : Nat.blt d n with
  | true => rfl
  | false =>
   have hd : ¬ d < n := by rw [← Bool.not_eq_true, Nat.blt_eq] at hd; exact hd
   show den n ov = _
   rw [List.set_eq_of_length_le (by rw [qaJ]; exact Nat.le_of_not_lt hd)]
noncomputable def zF (ops : Array Oper) (ov : Ov) (o : Oper) : Option Bool :=
 match o.guard with
 | none => some true
 | some (j, want) =>
  match (ops[j]?).bind (·.dst) with
  | some d =>
   match qZ d ov with
   | .bool b => some (b == want)
   | .tup [] => some false
   | _ => none
  | none => none
theorem qdI {n : Nat} {ov : Ov} (h : OvOk n ov) (ops : Array Oper) (o : Oper) : vL ops (den n ov) o = zF ops ov o := by
 unfold vL zF
 cases o.guard with
 | none => rfl
 | some p =>
  obtain ⟨j, want⟩ := p
  simp only
  cases (ops[j]?).bind (·.dst) with
  | none => rfl
  | some d =>
   simp only
   rw [qaK h]
   by_cases hd : d < n
   ·rw [if_pos hd]
    cases qZ d ov <;> try rfl
    rename_i vs; cases vs <;> rfl
   ·rw [if_neg hd, qbA h hd]
noncomputable def qgk (n : Nat) (H : AH) (p v : AV) (k : AH → Option β) : Option β :=
 match p with
 | .ptr id r off =>
  match v.cells with
  | some cs =>
   match H[id]? with
   | some (.rows d sz rs) =>
    match rs[r]? with
    | some row => if cs.length == n && qnF (off + n) row.length then
      gS (row.take off ++ cs ++ row.drop (off + n)) fun row' => gS (rs.set r row') fun rs' => qeu (d && qe 0 cs) fun d' => gS (H.set id (.rows d' sz rs')) k
     else none
    | none => none
   | _ => none
  | none => none
 | .rpt id cs o => (xo n H (.rpt id cs o) v).bind k
 | _ => none
theorem qjy (n : Nat) (H : AH) (p v : AV) (k : AH → Option β) : qgk n H p v k = (xo n H p v).bind k := by
 unfold qgk xo
 cases p with
 | ptr id r off =>
  simp only
  cases hv : v.cells with
  | none => simp
  | some cs =>
   simp only
   cases hH : H[id]? with
   | none => simp
   | some b =>
    cases b <;> simp only [Option.bind_none]
    rename_i d sz rs
    cases hr : rs[r]? with
    | none => simp
    | some row =>
     simp only
     split <;> simp [xg, qde]
 | rpt id cs o => rfl
 | _ => simp
noncomputable def yNew (nid : Option Nat) (H : AH) (b : ABlk) (k : Nat → AH → Option β) : Option β :=
 match nid with
 | none => fNat H.length fun i => gS (H ++ [b]) fun H' => k i H'
 | some i =>
  match H[i]? with
  | some .res => gS (H.set i b) fun H' => k i H'
  | _ => none
theorem qij (nid : Option Nat) (H : AH) (b : ABlk) (k : Nat → AH → Option β) : yNew nid H b k = (aNew nid H b).bind fun r => k r.1 r.2 := by
 cases nid with
 | none => simp [yNew, aNew, vR, xg]
 | some i =>
  simp only [yNew, aNew]
  cases H[i]? with
  | none => rfl
  | some b => cases b <;> simp [xg]
noncomputable def qjD (cfg : Cfg) (nid : Option Nat) (t : TypeId) (H : AH) (k : AV → AH → Option β) : Option β :=
 match cfg.ty t with
 | some ti => if qV ti.zero then gL gA1 (cfg.fga t ti.zero) fun row => fNat ti.zero.length fun sz => yNew nid H (.rows (bigZ row) sz [row]) fun i H' => k (.ptr i 0 0) H' else none
 | none => none
noncomputable def yBox (nid : Option Nat) (a : AV) (H : AH) (k : AV → AH → Option β) : Option β :=
 match a.cells with
 | some cs => gS cs fun cs => fNat cs.length fun sz => yNew nid H (.rows (bigZ cs) sz [cs]) fun i H' => k (.ptr i 0 0) H'
 | none => none
noncomputable def yOp (cfg : Cfg) (nid : Option Nat) (o : Op) (ty : TypeId) (x : Operand → AV) (H : AH) (k : AV → AH → Option β) : Option β :=
 match o with
 | .move a | .assign a => gW (x a) fun v => k v H
 | .alloc t => qjD cfg nid t H k
 | .box _ a => yBox nid (x a) H k
 | .store t a v =>
  match cfg.sz t with
  | some n => qgk n H (x a) (x v) fun H' => k .junk H'
  | none => none
 | .buildSlice t len parts => (match qcs cfg nid t len (parts.toList.map fun p => (p.1, x p.2)) H with | some r => gA r.1 fun v => gH r.2 fun H' => k v H' | none => none)
 | .convert s d a => (match xe cfg nid s d (x a) H with | some r => gA r.1 fun v => gH r.2 fun H' => k v H' | none => none)
 | .makeSlice t l c => (match yj cfg nid t (x l) (x c) H with | some r => gA r.1 fun v => gH r.2 fun H' => k v H' | none => none)
 | .call c => (match evOp cfg nid (.call c) ty x H with | some r => gA r.1 fun v => gH r.2 fun H' => k v H' | none => none)
 | o => (match xOp cfg nid o ty x H with | some r => gA r.1 fun v => k v r.2 | none => none)
theorem qlW (cfg : Cfg) (nid : Option Nat) (o : Op) (ty : TypeId) (x : Operand → AV) (H : AH) (k : AV → AH → Option β) : yOp cfg nid o ty x H k = (evOp cfg nid o ty x H).bind fun r => k r.1 r.2 := by
 have em : ∀ (q : Option (AV × AH)), (match q with | some r => gA r.1 fun v => gH r.2 fun H' => k v H' | none => none) = q.bind fun r => k r.1 r.2 := fun q => by cases q <;> simp [y7, qck]
 have em' : ∀ (q : Option (AV × AH)), (match q with | some r => gA r.1 fun v => k v r.2 | none => none) = q.bind fun r => k r.1 r.2 := fun q => by cases q <;> simp [y7]
 cases o with
 | move a => simp [yOp, evOp, qep]
 | assign a => simp [yOp, evOp, qep]
 | alloc t =>
  simp only [yOp, evOp, qjD]
  cases cfg.ty t with
  | none => rfl
  | some ti =>
   simp only
   split
   ·simp only [xK qeq, vR, qij]
    cases aNew nid H (.rows (bigZ (cfg.fga t ti.zero)) ti.zero.length [cfg.fga t ti.zero]) <;> rfl
   ·rfl
 | box t a =>
  simp only [yOp, evOp, yBox]
  cases (x a).cells with
  | none => rfl
  | some cs =>
   simp only [xg, vR, qij]
   cases aNew nid H (.rows (bigZ cs) cs.length [cs]) <;> rfl
 | store t a v =>
  simp only [yOp, evOp]
  cases cfg.sz t with
  | none => rfl
  | some n =>
   simp only [qjy]
   cases xo n H (x a) (x v) <;> rfl
 | buildSlice t len parts => simp only [yOp]; rw [em]; rfl
 | convert s d a => simp only [yOp]; rw [em]; rfl
 | makeSlice t l c => simp only [yOp]; rw [em]; rfl
 | call c => simp only [yOp]; rw [em]
 | _ => simp only [yOp]; rw [em', qlY]
mutual
def AV.same : AV → AV → Bool
 | .int a b, .int c d => yL a c && decide (b = d)
 | .bool a, .bool b => a == b
 | .str a, .str b => a == b
 | .agg a, .agg b => xH a b
 | .tup a, .tup b => xH a b
 | .nilS, .nilS => true
 | .sl a, .sl b => qb9 a b
 | .em, .em => true
 | .nilP, .nilP => true
 | .nilF, .nilF => true
 | .nilM, .nilM => true
 | .nilI, .nilI => true
 | .junk, .junk => true
 | .fn (.func f) a b, .fn (.func g) c d => qnB f g && (xH a c && xH b d)
 | .cptr a i, .cptr b j => qnB i j && xH a b
 | _, _ => false
def xH : List AV → List AV → Bool
 | [], [] => true
 | a :: l, b :: m => a.same b && xH l m
 | _, _ => false
def qb9 : List (List AV) → List (List AV) → Bool
 | [], [] => true
 | a :: l, b :: m => xH a b && qb9 l m
 | _, _ => false
end
mutual
theorem AV.same_eq : ∀ {a b : AV}, a.same b = true → a = b
 | .int a b, y, h => by
  cases y <;> simp [AV.same, yL] at h
  rw [h.1, h.2]
 | .bool a, y, h => by cases y <;> simp [AV.same] at h; rw [h]
 | .str a, y, h => by cases y <;> simp [AV.same] at h; rw [h]
 | .agg a, y, h => by cases y <;> simp [AV.same] at h; rw [xM h]
 | .tup a, y, h => by cases y <;> simp [AV.same] at h; rw [xM h]
 | .nilS, y, h => by cases y <;> simp [AV.same] at h; rfl
 | .sl a, y, h => by cases y <;> simp [AV.same] at h; rw [qgs h]
 | .em, y, h => by cases y <;> simp [AV.same] at h; rfl
 | .nilP, y, h => by cases y <;> simp [AV.same] at h; rfl
 | .nilF, y, h => by cases y <;> simp [AV.same] at h; rfl
 | .nilM, y, h => by cases y <;> simp [AV.same] at h; rfl
 | .nilI, y, h => by cases y <;> simp [AV.same] at h; rfl
 | .junk, y, h => by cases y <;> simp [AV.same] at h; rfl
 | .fn f a b, y, h => by
  cases f <;> cases y <;> first | (rename_i g c d; cases g <;> simp [AV.same] at h; rw [h.1, xM h.2.1, xM h.2.2]) | simp [AV.same] at h
 | .cptr a i, y, h => by
  cases y <;> simp [AV.same] at h
  rw [h.1, xM h.2]
 | .ms _ _ _, y, h => by cases y <;> simp [AV.same] at h
 | .ptr _ _ _, y, h => by cases y <;> simp [AV.same] at h
 | .yld _, y, h => by cases y <;> simp [AV.same] at h
 | .mp _, y, h => by cases y <;> simp [AV.same] at h
 | .ifc _ _, y, h => by cases y <;> simp [AV.same] at h
theorem xM : ∀ {a b : List AV}, xH a b = true → a = b
 | [], [], _ => rfl
 | a :: l, b :: m, h => by
  simp only [xH, qnn] at h
  rw [AV.same_eq h.1, xM h.2]
 | [], _ :: _, h => by simp [xH] at h
 | _ :: _, [], h => by simp [xH] at h
theorem qgs : ∀ {a b : List (List AV)}, qb9 a b = true → a = b
 | [], [], _ => rfl
 | a :: l, b :: m, h => by
  simp only [qb9, qnn] at h
  rw [xM h.1, qgs h.2]
 | [], _ :: _, h => by simp [qb9] at h
 | _ :: _, [], h => by simp [qb9] at h
end
structure Fact where
 frz : Bool
 f : Nat
 args : List AV
 v : AV
def Fact.Ok (cfg : Cfg) (e : Fact) : Prop := (if e.frz then EVf (EV cfg) e.f e.args else EVs (EV cfg) e.f e.args) = some e.v
def qQ (cfg : Cfg) : List Fact → Prop
 | [] => True
 | e :: l => e.Ok cfg ∧ qQ cfg l
theorem qQ.nil {cfg : Cfg} : qQ cfg [] := trivial
theorem qQ.consS {cfg : Cfg} {f : Nat} {args : List AV} {v : AV} {l : List Fact} (h : EVs (EV cfg) f args = some v) (t : qQ cfg l) : qQ cfg (⟨false, f, args, v⟩ :: l) := ⟨h, t⟩
theorem qQ.consF {cfg : Cfg} {f : Nat} {args : List AV} {v : AV} {l : List Fact} (h : EVf (EV cfg) f args = some v) (t : qQ cfg l) : qQ cfg (⟨true, f, args, v⟩ :: l) := ⟨h, t⟩
noncomputable def z2 (frz : Bool) (f : Nat) (args : List AV) (fs : List Fact) : Option AV :=
 List.rec (motive := fun _ => Option AV) none (fun e _ ih => cond (qnB e.f f && (e.frz == frz && xH e.args args)) (some e.v) ih) fs
theorem qat {cfg : Cfg} {frz : Bool} {f : Nat} {args : List AV} {v : AV} : ∀ {fs : List Fact}, qQ cfg fs → z2 frz f args fs = some v → (if frz then EVf (EV cfg) f args else EVs (EV cfg) f args) = some v
 | [], _, h => by cases h
 | e :: l, hok, h => by
  have hd : z2 frz f args (e :: l) = cond (qnB e.f f && (e.frz == frz && xH e.args args)) (some e.v) (z2 frz f args l) := rfl
  rw [hd] at h
  cases hc : (qnB e.f f && (e.frz == frz && xH e.args args)) with
  | true =>
   rw [hc] at h
   simp only [qnn, beq_iff_eq] at hc
   cases h
   have := hok.1
   unfold Fact.Ok at this
   rw [← qno hc.1, ← hc.2.1, ← xM hc.2.2]
   exact this
  | false =>
   rw [hc] at h
   exact qat hok.2 h
noncomputable def qds (cfg : Cfg) (cf : Orac) (nid : Option Nat) (t : Tgt) (args : List AV) (H : AH) (k : AV → AH → Option β) : Option β :=
 match qv cfg cf nid t args H with
 | some r => gA r.1 fun v => gH r.2 fun H' => k v H'
 | none => none
noncomputable def qjB (_cfg : Cfg) (cf : Orac) (fs : List Fact) (f : Nat) (al : List AV) (k : AV → Option β) : Option β :=
 cond (qe 0 al)
  (match z2 false f al fs with
  | some v => cond v.scalar (k v) none
  | none => (match cf (.f f) al [] with | some r => gA r.1 fun v => cond v.scalar (k v) none | none => none)) none
noncomputable def qjC (_cfg : Cfg) (cf : Orac) (fs : List Fact) (f : Nat) (al : List AV) (k : AV → Option β) : Option β :=
 cond (qe 0 al)
  (match z2 true f al fs with
  | some v => cond (v.refsLt 0) (k v) none
  | none => (match cf (.f f) al [] with | some r => gA (r.1.frz r.1.msIds r.2).fg fun v => cond (v.refsLt 0) (k v) none | none => none)) none
noncomputable def qgl (cfg : Cfg) (cf : Orac) (fs : List Fact) (nid : Option Nat) (t : Tgt) (args : List AV) (H : AH) (k : AV → AH → Option β) : Option β :=
 match t with
 | .y id => qds cfg cf nid (.y id) args H k
 | .f f =>
  match cfg.mode f with
  | .scal => gL gA (args.map fun a => (a.snap H).fg) fun al => qjB cfg cf fs f al fun v => k v H
  | .pfrz => gL gA (args.map AV.fg) fun al => qjC cfg cf fs f al fun v => k v H
  | _ => qds cfg cf nid (.f f) args H k
noncomputable def qjA (cfg : Cfg) (cf : Orac) (fs : List Fact) (nid : Option Nat) (f : AV) (args : List AV) (H : AH) (k : AV → AH → Option β) : Option β :=
 match xf f args with
 | some t => qgl cfg cf fs nid t.1 t.2 H k
 | none => none
def Le (cf cf' : Orac) : Prop := ∀ t a H r, cf t a H = some r → cf' t a H = some r
theorem qhv {cfg : Cfg} {cf : Orac} (hcf : Le cf (EV cfg)) {fs : List Fact} (hfs : qQ cfg fs) {nid : Option Nat} {t : Tgt} {args : List AV} {H : AH} {k : AV → AH → Option β} {r : β}
  (h : qgl cfg cf fs nid t args H k = some r) : ∃ q, qv cfg (EV cfg) nid t args H = some q ∧ k q.1 q.2 = some r := by
 have hev : Ev (fun _ => EV cfg) cf := fun t a H r h => ⟨0, fun _ _ => hcf t a H r h⟩
 have gen : ∀ (t : Tgt), qds cfg cf nid t args H k = some r → ∃ q, qv cfg (EV cfg) nid t args H = some q ∧ k q.1 q.2 = some r := by
  intro t h
  unfold qds at h
  split at h
  ·rename_i q hq
   rw [y7, qck] at h
   obtain ⟨n, hn⟩ := qhi hev cfg nid t args H q hq
   exact ⟨q, hn n (qnp _), h⟩
  ·cases h
 cases t with
 | y id => exact gen _ h
 | f f =>
  simp only [qgl] at h
  cases hm : cfg.mode f with
  | scal =>
   simp only [hm, xK y7] at h
   unfold qjB at h
   obtain ⟨h1, h⟩ := qb h
   simp only [qv, hm, h1, if_true]
   split at h
   ·rename_i v hv
    obtain ⟨h2, h⟩ := qb h
    have := qat hfs hv
    simp only [qnu, if_false] at this
    unfold EVs at this
    obtain ⟨q, hq, rfl⟩ := qnl.1 this
    rw [hq]
    exact ⟨(q.1, H), by simp only [qnt, h2, if_true], h⟩
   ·split at h
    ·rename_i q hq
     rw [y7] at h
     obtain ⟨h2, h⟩ := qb h
     rw [hcf _ _ _ _ hq]
     exact ⟨(q.1, H), by simp only [qnt, h2, if_true], h⟩
    ·cases h
  | pfrz =>
   simp only [hm, xK y7] at h
   unfold qjC at h
   obtain ⟨h1, h⟩ := qb h
   simp only [qv, hm, h1, if_true]
   split at h
   ·rename_i v hv
    obtain ⟨h2, h⟩ := qb h
    have := qat hfs hv
    simp only [if_true] at this
    unfold EVf at this
    obtain ⟨q, hq, rfl⟩ := qnl.1 this
    rw [hq]
    exact ⟨((q.1.frz q.1.msIds q.2).fg, H), by simp only [qnt, h2, if_true], h⟩
   ·split at h
    ·rename_i q hq
     rw [y7] at h
     obtain ⟨h2, h⟩ := qb h
     rw [hcf _ _ _ _ hq]
     exact ⟨((q.1.frz q.1.msIds q.2).fg, H), by simp only [qnt, h2, if_true], h⟩
    ·cases h
  | _ => simp only [hm] at h; exact gen _ h
noncomputable def zK (cfg : Cfg) (cf : Orac) (fs : List Fact) (nid : Option Nat) (o : Op) (ty : TypeId) (x : Operand → AV) (H : AH) (k : AV → AH → Option β) : Option β :=
 match o with
 | .call c =>
  (match c.callee with
  | .value f => gL gW (c.args.toList.map x) fun args => qjA cfg cf fs nid (x f) args H k
  | _ => yOp cfg nid (.call c) ty x H k)
 | o => yOp cfg nid o ty x H k
noncomputable def qf3 (cfg : Cfg) (cf : Orac) (fs : List Fact) (frz : Bool) (nid : Option Nat) (o : Oper) (x : Operand → AV) (H : AH) (k : AV → AH → Option β) : Option β :=
 match frz with
 | false => zK cfg cf fs nid o.op o.type x H k
 | true => gS (o.op.operands.toList.flatMap fun a => (x a).msIds) fun ids => gH (qp ids H) fun H' => zK cfg cf fs nid o.op o.type (fun a => (x a).frz ids H) H' k
theorem qcr {cfg : Cfg} {cf : Orac} (hcf : Le cf (EV cfg)) {fs : List Fact} (hfs : qQ cfg fs) {nid : Option Nat} {o : Oper} {x : Operand → AV} {H : AH} {k : AV → AH → Option β} {r : β}
  (h : zK cfg cf fs nid o.op o.type x H k = some r) : ∃ q, qL cfg (EV cfg) false nid o x H = some q ∧ k q.1 q.2 = some r := by
 obtain ⟨dst, op, ty, pos, after, guard⟩ := o
 unfold qL
 simp only [qnu, if_false] at h ⊢
 have plain : ∀ (op : Op), yOp cfg nid op ty x H k = some r → ∃ q, evOp cfg nid op ty x H = some q ∧ k q.1 q.2 = some r := by
  intro op h
  rw [qlW] at h
  exact qnk.1 h
 cases op with
 | call c =>
  obtain ⟨callee, args, argTypes⟩ := c
  cases callee with
  | value f =>
   simp only [zK, xK qep] at h ⊢
   unfold qjA at h
   split at h
   ·rename_i t ht
    rw [ht]
    exact qhv hcf hfs h
   ·cases h
  | builtin b => simp only [zK] at h ⊢; exact plain _ h
  | invoke rv nm => simp only [zK] at h ⊢; exact plain _ h
 | _ => simp only [zK] at h ⊢; exact plain _ h
theorem qdn {cfg : Cfg} {cf : Orac} (hcf : Le cf (EV cfg)) {fs : List Fact} (hfs : qQ cfg fs) {frz : Bool} {nid : Option Nat} {o : Oper} {x : Operand → AV} {H : AH} {k : AV → AH → Option β} {r : β}
  (h : qf3 cfg cf fs frz nid o x H k = some r) : ∃ q, qL cfg (EV cfg) frz nid o x H = some q ∧ k q.1 q.2 = some r := by
 cases frz with
 | false => exact qcr hcf hfs h
 | true =>
  simp only [qf3, xg, qck] at h
  obtain ⟨q, h1, h2⟩ := qcr hcf hfs h
  refine ⟨q, ?_, h2⟩
  unfold qL at h1 ⊢
  simpa using h1
noncomputable def yOps (cfg : Cfg) (cf : Orac) (fs : List Fact) (f rid : Nat) (ops : Array Oper) (n : Nat) : Nat → List Oper → Ov → AH → (Ov → AH → Option β) → Option β
 | _, [], ov, H, K => K ov H
 | i, o :: rest, ov, H, K =>
  match zF ops ov o with
  | none => none
  | some b =>
   cond b (qf3 cfg cf fs (cfg.frz f rid i) none o (opdO ov) H fun v H' => yOps cfg cf fs f rid ops n (i + 1) rest (putO n ov o.dst v) H' K)
    (yOps cfg cf fs f rid ops n (i + 1) rest (putO n ov o.dst (.tup [])) H K)
theorem qbp {cfg : Cfg} {cf : Orac} (hcf : Le cf (EV cfg)) {fs : List Fact} (hfs : qQ cfg fs) {f rid n : Nat} {ops : Array Oper} {r : β} : ∀ {l : List Oper} {i : Nat} {ov : Ov} {H : AH} {K : Ov → AH → Option β}, OvOk n ov → yOps cfg cf fs f rid ops n i l ov H K = some r →
  ∃ ov' H', OvOk n ov' ∧ yr cfg (EV cfg) f rid ops i l (den n ov) H = some (den n ov', H') ∧ K ov' H' = some r
 | [], i, ov, H, K, hok, h => ⟨ov, H, hok, rfl, h⟩
 | o :: l, i, ov, H, K, hok, h => by
  rw [yOps] at h
  rw [yr, qdI hok]
  cases hw : zF ops ov o with
  | none => rw [hw] at h; cases h
  | some b =>
   rw [hw] at h
   simp only [qnt]
   cases b with
   | true =>
    simp only [cond_true] at h
    obtain ⟨q, h1, h2⟩ := qdn hcf hfs h
    simp only [if_true, qaF hok, h1, qnt]
    obtain ⟨ov', H', h3, h4, h5⟩ := qbp hcf hfs (qcb hok _ _) h2
    rw [qaX] at h4
    exact ⟨ov', H', h3, h4, h5⟩
   | false =>
    simp only [cond_false] at h
    simp only [qnu, if_false]
    obtain ⟨ov', H', h3, h4, h5⟩ := qbp hcf hfs (qcb hok _ _) h
    rw [qaX] at h4
    exact ⟨ov', H', h3, h4, h5⟩
noncomputable def qdr (cfg : Cfg) (cf : Orac) (fs : List Fact) (f rid : Nat) (ops : Array Oper) (n : Nat) : Nat → Nat → List Oper → Ov → AH → (List FP → Ov → AH → Option β) → Option β
 | _, _, [], ov, H, K => K [] ov H
 | i, at_, o :: rest, ov, H, K =>
  match zF ops ov o with
  | none => none
  | some b =>
   fNat (if qaZ cfg o then at_ + 1 else at_) fun at' =>
   cond b (qf3 cfg cf fs (cfg.frz f rid i) (some at_) o (opdO ov) H fun v H' => qdr cfg cf fs f rid ops n (i + 1) at' rest (putO n ov o.dst v) H' fun fps ov' H'' => K (xn cfg (cfg.frz f rid i) at_ o (opdO ov) :: fps) ov' H'')
    (qdr cfg cf fs f rid ops n (i + 1) at' rest (putO n ov o.dst (.tup [])) H fun fps ov' H'' => K (.none :: fps) ov' H'')
theorem qaT {cfg : Cfg} {cf : Orac} (hcf : Le cf (EV cfg)) {fs : List Fact} (hfs : qQ cfg fs) {f rid n : Nat} {ops : Array Oper} {r : β} : ∀ {l : List Oper} {i at_ : Nat} {ov : Ov} {H : AH} {K : List FP → Ov → AH → Option β}, OvOk n ov → qdr cfg cf fs f rid ops n i at_ l ov H K = some r →
  ∃ fps ov' H', OvOk n ov' ∧ vY cfg (EV cfg) f rid ops i at_ l (den n ov) H = some (fps, den n ov', H') ∧ K fps ov' H' = some r
 | [], i, at_, ov, H, K, hok, h => ⟨[], ov, H, hok, rfl, h⟩
 | o :: l, i, at_, ov, H, K, hok, h => by
  rw [qdr] at h
  rw [vY, qdI hok]
  cases hw : zF ops ov o with
  | none => rw [hw] at h; cases h
  | some b =>
   rw [hw] at h
   simp only [qnt]
   simp only [vR] at h
   cases b with
   | true =>
    simp only [cond_true] at h
    obtain ⟨q, h1, h2⟩ := qdn hcf hfs h
    simp only [if_true, qaF hok, h1, qnt]
    obtain ⟨fps, ov', H', h3, h4, h5⟩ := qaT hcf hfs (qcb hok _ _) h2
    rw [qaX] at h4
    exact ⟨_, ov', H', h3, by rw [h4]; rfl, h5⟩
   | false =>
    simp only [cond_false] at h
    simp only [qnu, if_false]
    obtain ⟨fps, ov', H', h3, h4, h5⟩ := qaT hcf hfs (qcb hok _ _) h
    rw [qaX] at h4
    exact ⟨_, ov', H', h3, by rw [h4]; rfl, h5⟩
def zf : Nat → List Nat → Bool
 | _, [] => true
 | i, k :: ks => qnF i k && zf (k + 1) ks
noncomputable def qf9 (ks : List Nat) (ov : Ov) : (Ov → α) → α :=
 List.rec (motive := fun _ => (Ov → α) → α) (fun K => K []) (fun t _ ih K => gW (qZ t ov) fun v => ih fun l => K ((t, v) :: l)) ks
theorem qkZ (ks : List Nat) (ov : Ov) : ∀ (K : Ov → α), qf9 ks ov K = K (ks.map fun t => (t, qZ t ov)) := by
 induction ks with
 | nil => intro K; rfl
 | cons t l ih =>
  intro K
  have : qf9 (t :: l) ov K = gW (qZ t ov) fun v => qf9 l ov fun l => K ((t, v) :: l) := rfl
  rw [this, qep, ih, List.map_cons]
theorem zw : ∀ (ks : List Nat) (fr : List AV) (i t : Nat), zf i ks = true → (ve i ks fr)[t]? = if t < fr.length then some (if i + t ∈ ks then (fr[t]?).getD .junk else .junk) else none
 | ks, [], i, t, _ => by cases ks <;> simp [ve]
 | [], a :: fr, i, t, h => by
  rw [ve]
  cases t with
  | zero => simp
  | succ t =>
   simp only [List.getElem?_cons_succ]
   rw [zw [] fr i t rfl]
   simp
 | k :: ks, a :: fr, i, t, h => by
  rw [zf, qnn, Nat.ble_eq] at h
  rw [ve]
  have hge : ∀ (l : List Nat) (j : Nat), zf j l = true → ∀ x ∈ l, j ≤ x := by
   intro l
   induction l with
   | nil => intro j _ x hx; cases hx
   | cons y l ih =>
    intro j hj x hx
    rw [zf, qnn, Nat.ble_eq] at hj
    rcases qnE.1 hx with rfl | hx
    ·exact hj.1
    ·have := ih _ hj.2 x hx; omega
  split
  ·rename_i e
   have e := qno e
   subst e
   cases t with
   | zero => simp
   | succ t =>
    simp only [List.getElem?_cons_succ]
    rw [zw ks fr (i + 1) t h.2]
    have e1 : i + (t + 1) = i + 1 + t := by omega
    have e2 : ¬ i + 1 + t = i := by omega
    simp only [List.length_cons, Nat.add_lt_add_iff_right, e1, qnE, e2, false_or]
  ·rename_i e
   have hne : i ≠ k := fun h' => e (by rw [h']; exact Nat.beq_refl _)
   cases t with
   | zero =>
    have : i ∉ k :: ks := by
     intro hm
     rcases qnE.1 hm with rfl | hm
     ·exact hne rfl
     ·have := hge _ _ h.2 i hm; omega
    simp [this]
   | succ t =>
    simp only [List.getElem?_cons_succ]
    rw [zw (k :: ks) fr (i + 1) t (by rw [zf, qnn, Nat.ble_eq]; exact ⟨by omega, h.2⟩)]
    have e1 : i + (t + 1) = i + 1 + t := by omega
    simp only [List.length_cons, Nat.add_lt_add_iff_right, e1]
theorem qj4 (ks : List Nat) (g : Nat → AV) (t : Nat) : qZ t (ks.map fun t => (t, g t)) = if t ∈ ks then g t else .junk := by
 induction ks with
 | nil => rfl
 | cons k l ih =>
  rw [List.map_cons, yG, ih]
  by_cases e : k = t
  ·subst e; simp
  ·have h1 : qnB k t = false := by rw [← Bool.not_eq_true]; intro h'; exact e (qno h')
   have h2 : ¬ t = k := fun h => e h.symm
   rw [h1, cond_false]
   simp only [qnE, h2, false_or]
noncomputable def qdo (n : Nat) (ts : Option (List Nat)) (ov : Ov) (K : Ov → Option β) : Option β :=
 match ts with
 | none => K ov
 | some ks => cond (zf 0 ks && ks.all fun t => Nat.blt t n) (qf9 ks ov K) none
theorem qaS {n : Nat} {ts : Option (List Nat)} {ov : Ov} {K : Ov → Option β} {r : β} (hok : OvOk n ov) (h : qdo n ts ov K = some r) : ∃ ov', OvOk n ov' ∧ qR ts (den n ov) = den n ov' ∧ K ov' = some r := by
 cases ts with
 | none => exact ⟨ov, hok, rfl, h⟩
 | some ks =>
  simp only [qdo, qkZ] at h
  cases hc : (zf 0 ks && ks.all fun t => Nat.blt t n) with
  | false => rw [hc] at h; cases h
  | true =>
   rw [hc] at h
   rw [qnn, List.all_eq_true] at hc
   have hok' : OvOk n (ks.map fun t => (t, qZ t ov)) := by
    intro p hp
    obtain ⟨t, ht, rfl⟩ := List.mem_map.1 hp
    have := hc.2 t ht
    simpa [Nat.blt_eq] using this
   refine ⟨_, hok', (qfl hok' ?_ fun t ht => ?_).symm, h⟩
   ·show (ve 0 ks (den n ov)).length = n
    rw [(yM (ts := ks) (fr := den n ov) (k := 0)).1, qaJ]
   ·show (ve 0 ks (den n ov))[t]? = _
    rw [zw _ _ _ _ hc.1, qaJ, if_pos ht, Nat.zero_add, qj4, qaK hok, if_pos ht]
    rfl
noncomputable def zs (n : Nat) : List (Tmp × Nat) → Ov → AH → (Ov → AH → Option β) → Option β
 | [], ov, H, K => K ov H
 | p :: l, ov, H, K =>
  match qZ p.1 ov with
  | .nilS => fNat H.length fun i => cond (Nat.blt p.1 n) (gS (H ++ [.rows true p.2 []]) fun H' => zs n l ((p.1, .ms i 0 0) :: ov) H' K) none
  | .ptr _ _ _ => (match xJ p.1 p.2 (den n ov) H with | q => gH q.2 fun H' => zs n l ov H' K)
  | _ => zs n l ov H K
theorem qkb {t sz : Nat} {fr : List AV} {H : AH} {id r off : Nat} (h : fr[t]? = some (.ptr id r off)) : (xJ t sz fr H).1 = fr := by
 unfold xJ
 rw [h]
 simp only
 split
 ·split
  ·split <;> rfl
  ·rfl
 ·rfl
theorem xX {n : Nat} {r : β} : ∀ {ls : List (Tmp × Nat)} {ov : Ov} {H : AH} {K : Ov → AH → Option β}, OvOk n ov → zs n ls ov H K = some r → ∃ ov' H', OvOk n ov' ∧ qF ls (den n ov) H = (den n ov', H') ∧ K ov' H' = some r
 | [], ov, H, K, hok, h => ⟨ov, H, hok, rfl, h⟩
 | p :: l, ov, H, K, hok, h => by
  rw [zs] at h
  rw [qF]
  have hget : (den n ov)[p.1]? = if p.1 < n then some (qZ p.1 ov) else none := qaK hok p.1
  split at h
  ·rename_i hv
   simp only [vR] at h
   cases hb : Nat.blt p.1 n with
   | false => rw [hb] at h; cases h
   | true =>
    rw [hb] at h
    simp only [cond_true, xg] at h
    have hlt : p.1 < n := by simpa [Nat.blt_eq] using hb
    have hl1 : xJ p.1 p.2 (den n ov) H = (den n ((p.1, .ms H.length 0 0) :: ov), H ++ [.rows true p.2 []]) := by
     unfold xJ
     rw [hget, if_pos hlt, hv]; rfl
    rw [hl1]
    exact xX (fun q hq => (qnE.1 hq).elim (fun e => by subst e; exact hlt) (hok q)) h
  ·rename_i id r' off hv
   simp only [qck] at h
   by_cases hlt : p.1 < n
   ·rw [qkb (by rw [hget, if_pos hlt, hv])]
    exact xX hok h
   ·rw [qbA hok hlt] at hv; cases hv
  ·rename_i h1 h2
   have hl1 : xJ p.1 p.2 (den n ov) H = (den n ov, H) := by
    unfold xJ
    rw [hget]
    by_cases hlt : p.1 < n
    ·rw [if_pos hlt]
     split
     ·rename_i e; exact absurd (Option.some.inj e) h1
     ·rename_i a b c e; exact absurd (Option.some.inj e) (h2 a b c)
     ·rfl
    ·rw [if_neg hlt]
   rw [hl1]
   exact xX hok h
def spGo : Nat → List AV → Ov
 | _, [] => []
 | i, .junk :: l => spGo (i + 1) l
 | i, v :: l => (i, v) :: spGo (i + 1) l
theorem qgq : ∀ (l : List AV) (i t : Nat), qZ t (spGo i l) = if i ≤ t then (l[t - i]?).getD .junk else .junk
 | [], i, t => by simp [spGo, qbz]
 | a :: l, i, t => by
  have ih := qgq l (i + 1) t
  have key : ∀ (ov : Ov), ov = (i, a) :: spGo (i + 1) l → qZ t ov = if i ≤ t then ((a :: l)[t - i]?).getD .junk else .junk := by
   intro ov e
   rw [e, yG, ih]
   by_cases e2 : i = t
   ·subst e2; simp
   ·have h1 : qnB i t = false := by rw [← Bool.not_eq_true]; intro h'; exact e2 (qno h')
    simp only [h1, cond_false]
    by_cases h3 : i + 1 ≤ t
    ·have h4 : t - i = (t - (i + 1)) + 1 := by omega
     rw [if_pos h3, if_pos (by omega), h4, List.getElem?_cons_succ]
    ·rw [if_neg h3, if_neg (by omega)]
  cases a with
  | junk =>
   show qZ t (spGo (i + 1) l) = _
   rw [ih]
   by_cases h3 : i + 1 ≤ t
   ·have h4 : t - i = (t - (i + 1)) + 1 := by omega
    rw [if_pos h3, if_pos (by omega), h4, List.getElem?_cons_succ]
   ·rw [if_neg h3]
    by_cases e2 : i = t
    ·subst e2; simp
    ·rw [if_neg (by omega)]
  | _ => exact key _ rfl
theorem qaA : ∀ (l : List AV) (i n : Nat), i + l.length ≤ n → OvOk n (spGo i l)
 | [], i, n, _ => fun p hp => by cases hp
 | a :: l, i, n, h => by
  simp only [List.length_cons] at h
  have ih := qaA l (i + 1) n (by omega)
  have key : OvOk n ((i, a) :: spGo (i + 1) l) := fun p hp => by
   rcases qnE.1 hp with rfl | hp
   ·show i < n; omega
   ·exact ih p hp
  cases a <;> first | exact key | exact ih
theorem qhe (l : List AV) : den l.length (spGo 0 l) = l := by
 have hok := qaA l 0 l.length (by omega)
 refine qfl hok rfl fun t ht => ?_
 rw [qgq, if_pos (Nat.zero_le _), Nat.sub_zero, qnm ht]; rfl
noncomputable def yGc (n k : Nat) (ov : Ov) (H : AH) (K : Ov → AH → Option β) : Option β :=
 cond (qnF H.length k) (K ov H) (match yP k (den n ov) H with | q => gS (spGo 0 q.1) fun ov' => gL gP ov' fun ov' => gH q.2 fun H' => K ov' H')
theorem qkR (ρ : Nat → Nat) (l : List AV) : (renL ρ l).length = l.length := by rw [v7]; simp
theorem qko (k : Nat) (fr : List AV) (H : AH) : (yP k fr H).1.length = fr.length := by
 unfold yP
 simp only
 cases z5 H (zt k H (2 * H.length + 16) [] (qt k fr ++ xB k (H.take k))) with
 | none => rfl
 | some bs =>
  simp only
  split
  ·exact qkR _ _
  ·rfl
theorem qkF {n k : Nat} {ov : Ov} {H : AH} {K : Ov → AH → Option β} {r : β} (hok : OvOk n ov) (h : yGc n k ov H K = some r) : ∃ ov' H', OvOk n ov' ∧ gc k (den n ov) H = (den n ov', H') ∧ K ov' H' = some r := by
 unfold yGc at h
 unfold gc
 cases hb : qnF H.length k with
 | true => rw [hb] at h; exact ⟨ov, H, hok, by simp, h⟩
 | false =>
  rw [hb] at h
  simp only [cond_false] at h
  rw [xg, xK qlv, qck] at h
  have hl : (yP k (den n ov) H).1.length = n := by rw [qko, qaJ]
  have := qhe (yP k (den n ov) H).1
  rw [hl] at this
  refine ⟨_, _, ?_, ?_, h⟩
  ·exact qaA _ _ _ (by omega)
  ·simp only [qnu, if_false, this]
noncomputable def qiw (n k : Nat) (ts : Option (List Tmp)) (ls : List (Tmp × Nat)) (ov : Ov) (H : AH) (K : Ov → AH → Option β) : Option β :=
 qdo n ts ov fun ov => zs n ls ov H fun ov H => yGc n k ov H K
theorem qdq {n k : Nat} {ts : Option (List Tmp)} {ls : List (Tmp × Nat)} {ov : Ov} {H : AH} {K : Ov → AH → Option β} {r : β} (hok : OvOk n ov) (h : qiw n k ts ls ov H K = some r) :
  ∃ ov' H', OvOk n ov' ∧ xS k ts ls (den n ov) H = (den n ov', H') ∧ K ov' H' = some r := by
 obtain ⟨ov1, h1, h2, h⟩ := qaS hok h
 obtain ⟨ov2, H2, h3, h4, h⟩ := xX h1 h
 obtain ⟨ov3, H3, h5, h6, h⟩ := qkF h3 h
 refine ⟨ov3, H3, h5, ?_, h⟩
 unfold xS
 rw [h2, h4]
 exact h6
abbrev YE (β : Type) := Ex → Ov → AH → Option β
noncomputable def qf4 (n k : Nat) (ts : Option (List Tmp)) (ls : List (Tmp × Nat)) (body : Ov → AH → YE β → Option β) : Nat → Ov → AH → YE β → Option β
 | 0, _, _, _ => none
 | m + 1, ov, H, K => body ov H fun e ov' H' =>
  match e with
  | .normal => qiw n k ts ls ov' H' fun ov2 H2 => qf4 n k ts ls body m ov2 H2 K
  | e => K e ov' H'
noncomputable def qjz (cfg : Cfg) (cf : Orac) (f : Nat) (rd : Option Nat) (n bs : Nat) (g : Operand) (ps : Array Tmp) (assign body : Code) (ov : Ov) (H : AH) (K : YE β) : Option β :=
 gL gW (den n ov) fun fr =>
 match yy cfg cf f rd bs g ps assign body fr H with
 | none => none
 | some q => gS (spGo 0 q.2.1) fun ov' => gL gP ov' fun ov' => gH q.2.2 fun H' => cond (qnB q.2.1.length n) (K q.1 ov' H') none
noncomputable def yC (cfg : Cfg) (cf : Orac) (fs : List Fact) (m f : Nat) (rd : Option Nat) (n bs : Nat) : Code → Ov → AH → YE β → Option β
 | .skip, ov, H, K => K .normal ov H
 | .label _, ov, H, K => K .normal ov H
 | .region id ops draw, ov, H, K =>
  match draw with
  | true => cond (z4 ops) (gS (H ++ qnz (places cfg ops.toList) .res) fun H1 => qdr cfg cf fs f id ops n 0 H.length ops.toList ov H1 fun fps ov' H' => cond (z3 (ancs [] ops.toList) 0 fps) (K .normal ov' H') none) none
  | false => yOps cfg cf fs f id ops n 0 ops.toList ov H fun ov' H' => K .normal ov' H'
 | .seq a b, ov, H, K => yC cfg cf fs m f rd n bs a ov H fun e ov' H' =>
  match e with
  | .normal => qdo n (cfg.cut f (qh b)) ov' fun ov2 => yC cfg cf fs m f rd n bs b ov2 H' K
  | e => K e ov' H'
 | .cond c a b, ov, H, K =>
  match opdO ov c with
  | .bool t => (match t with | true => yC cfg cf fs m f rd n bs a ov H K | false => yC cfg cf fs m f rd n bs b ov H K)
  | _ => none
 | .block id a, ov, H, K => yC cfg cf fs m f rd n bs a ov H fun e ov' H' =>
  match e with
  | .exit id' => cond (qnB id' id) (K .normal ov' H') (K (.exit id') ov' H')
  | e => K e ov' H'
 | .loop a, ov, H, K => qiw n bs (cfg.keepIn f (qh a)) (cfg.lift f (qh a)) ov H fun ov H =>
   qf4 n bs (cfg.keepIn f (qh a)) (cfg.lift f (qh a)) (yC cfg cf fs m f rd n bs a) m ov H fun e ov H => qdo n (cfg.keepOut f (qh a)) ov fun ov => K e ov H
 | .scope a, ov, H, K => yC cfg cf fs m f rd n bs a ov H fun e ov' H' =>
  match e with
  | .goto _ => none
  | e => K e ov' H'
 | .exit id, ov, H, K => K (.exit id) ov H
 | .goto _, _, _, _ => none
 | .ret, ov, H, K => K .ret ov H
 | .rangeFunc g ps assign body, ov, H, K => zs n (cfg.lift f (qh body)) ov H fun ov H => qjz cfg cf f rd n bs g ps assign body ov H K
 | .refuse _, _, _, _ => none
theorem qdp {n k : Nat} {ts : Option (List Tmp)} {ls : List (Tmp × Nat)} {body : Ov → AH → YE β → Option β} {den' : Den} {r : β}
  (hb : ∀ {ov H K}, OvOk n ov → body ov H K = some r → ∃ e ov' H', OvOk n ov' ∧ den' (den n ov) H = some (e, den n ov', H') ∧ K e ov' H' = some r) :
  ∀ (m : Nat) {ov : Ov} {H : AH} {K : YE β}, OvOk n ov → qf4 n k ts ls body m ov H K = some r → ∃ e ov' H', OvOk n ov' ∧ xq k ts ls den' m (den n ov, H) = some (e, den n ov', H') ∧ K e ov' H' = some r
 | 0, ov, H, K, _, h => by cases h
 | m + 1, ov, H, K, hok, h => by
  rw [qf4] at h
  obtain ⟨e, ov1, H1, h1, h2, h3⟩ := hb hok h
  rw [xq]
  simp only [h2, qnt]
  cases e with
  | normal =>
   simp only at h3 ⊢
   obtain ⟨ov2, H2, h4, h5, h6⟩ := qdq h1 h3
   rw [h5]
   exact qdp hb m h4 h6
  | exit id => exact ⟨_, ov1, H1, h1, rfl, h3⟩
  | goto l => exact ⟨_, ov1, H1, h1, rfl, h3⟩
  | ret => exact ⟨_, ov1, H1, h1, rfl, h3⟩
theorem qeS {cfg : Cfg} {cf : Orac} (hcf : Le cf (EV cfg)) {fs : List Fact} (hfs : qQ cfg fs) {m f : Nat} {rd : Option Nat} {n bs : Nat} {r : β} : ∀ (c : Code) {ov : Ov} {H : AH} {K : YE β}, OvOk n ov → yC cfg cf fs m f rd n bs c ov H K = some r →
  ∃ e ov' H', OvOk n ov' ∧ evC cfg (EV cfg) f rd bs c (den n ov) H = some (e, den n ov', H') ∧ K e ov' H' = some r := by
 intro c
 induction c with
 | skip => intro ov H K hok h; exact ⟨_, ov, H, hok, by simp only [evC], h⟩
 | label l => intro ov H K hok h; exact ⟨_, ov, H, hok, by simp only [evC], h⟩
 | exit id => intro ov H K hok h; exact ⟨_, ov, H, hok, by simp only [evC], h⟩
 | ret => intro ov H K hok h; exact ⟨_, ov, H, hok, by simp only [evC], h⟩
 | goto l => intro ov H K hok h; cases h
 | refuse s => intro ov H K hok h; cases h
 | region id ops draw =>
  intro ov H K hok h
  simp only [yC] at h
  simp only [evC]
  cases draw with
  | true =>
   simp only at h
   obtain ⟨h1, h⟩ := qb h
   rw [xg] at h
   obtain ⟨fps, ov', H', h2, h3, h⟩ := qaT hcf hfs hok h
   obtain ⟨h4, h⟩ := qb h
   exact ⟨_, ov', H', h2, by simp only [if_true, h1, h3, qnt, h4], h⟩
  | false =>
   simp only at h
   obtain ⟨ov', H', h2, h3, h⟩ := qbp hcf hfs hok h
   exact ⟨_, ov', H', h2, by simp only [qnu, if_false, h3, qny], h⟩
 | seq x y ihx ihy =>
  intro ov H K hok h
  simp only [yC] at h
  simp only [evC]
  obtain ⟨e, ov1, H1, h1, h2, h⟩ := ihx hok h
  rw [h2]
  simp only [qnt]
  cases e with
  | normal =>
   simp only at h ⊢
   obtain ⟨ov2, h3, h4, h⟩ := qaS h1 h
   rw [h4]
   exact ihy h3 h
  | exit id => exact ⟨_, ov1, H1, h1, rfl, h⟩
  | goto l => exact ⟨_, ov1, H1, h1, rfl, h⟩
  | ret => exact ⟨_, ov1, H1, h1, rfl, h⟩
 | cond c x y ihx ihy =>
  intro ov H K hok h
  simp only [yC] at h
  simp only [evC, qaF hok]
  split at h
  ·rename_i t ht
   rw [ht]
   cases t with
   | true => exact ihx hok h
   | false => exact ihy hok h
  ·cases h
 | block id x ih =>
  intro ov H K hok h
  simp only [yC] at h
  simp only [evC]
  obtain ⟨e, ov1, H1, h1, h2, h⟩ := ih hok h
  rw [h2]
  simp only [qnt]
  cases e with
  | normal => exact ⟨_, ov1, H1, h1, rfl, h⟩
  | exit id' =>
   simp only at h ⊢
   cases hb : qnB id' id with
   | true => rw [hb] at h; exact ⟨_, ov1, H1, h1, by simp, h⟩
   | false => rw [hb] at h; exact ⟨_, ov1, H1, h1, by simp, h⟩
  | goto l => exact ⟨_, ov1, H1, h1, rfl, h⟩
  | ret => exact ⟨_, ov1, H1, h1, rfl, h⟩
 | loop x ih =>
  intro ov H K hok h
  simp only [yC] at h
  simp only [evC]
  obtain ⟨ov1, H1, h1, h2, h⟩ := qdq hok h
  rw [h2]
  obtain ⟨e, ov2, H2, h3, h4, h⟩ := qdp (den' := evC cfg (EV cfg) f rd bs x) (fun hok h => ih hok h) m h1 h
  obtain ⟨ov3, h5, h6, h⟩ := qaS h3 h
  rw [qcp h4]
  exact ⟨e, ov3, H2, h5, by simp only [qny, h6], h⟩
 | scope x ih =>
  intro ov H K hok h
  simp only [yC] at h
  simp only [evC]
  obtain ⟨e, ov1, H1, h1, h2, h⟩ := ih hok h
  rw [h2]
  simp only [qnt]
  cases e with
  | goto l => cases h
  | normal => exact ⟨_, ov1, H1, h1, rfl, h⟩
  | exit id => exact ⟨_, ov1, H1, h1, rfl, h⟩
  | ret => exact ⟨_, ov1, H1, h1, rfl, h⟩
 | rangeFunc g ps assign body =>
  intro ov H K hok h
  simp only [yC] at h
  simp only [evC]
  obtain ⟨ov1, H1, h1, h2, h⟩ := xX hok h
  rw [h2]
  simp only
  unfold qjz at h
  rw [xK qep] at h
  split at h
  ·cases h
  ·rename_i q hq
   have hq : yy cfg (EV cfg) f rd bs g ps assign body (den n ov1) H1 = some q := by
    unfold yy at hq ⊢
    split at hq
    ·rename_i hl
     rw [if_pos hl]
     split at hq
     ·split at hq
      ·cases hq
      ·rename_i hx
       rw [if_neg hx]
       obtain ⟨q2, hq2, hq⟩ := qnk.1 hq
       rw [hcf _ _ _ _ hq2]
       exact hq
     ·cases hq
    ·cases hq
   rw [xg, xK qlv, qck] at h
   obtain ⟨hl, h⟩ := qb h
   have hl := qno hl
   have hd := qhe q.2.1
   rw [hl] at hd
   refine ⟨q.1, _, q.2.2, ?_, ?_, h⟩
   ·exact qaA _ _ _ (by omega)
   ·rw [hq, hd]
noncomputable def resO (rs : List ResultVar) (ty : TypeId → Option TI) (ov : Ov) (H : AH) : Option (List AV) :=
 match rs with
 | [] => some []
 | .tmp t :: l => (resO l ty ov H).map fun vs => qZ t ov :: vs
 | .cell a t :: l =>
  match ty t with
  | some ti => (xw ti.d.agg ti.sz H (qZ a ov)).bind fun v => (resO l ty ov H).map fun vs => v :: vs
  | none => none
theorem qeZ {n : Nat} {ov : Ov} (hok : OvOk n ov) (ty : TypeId → Option TI) (H : AH) : ∀ rs : List ResultVar, q9 rs ty (den n ov) H = resO rs ty ov H
 | [] => rfl
 | .tmp t :: l => by
  have : (den n ov).getD t .junk = qZ t ov := congrFun (qaF hok) (.tmp t)
  simp only [q9, resO, qeZ hok ty H l, this]
 | .cell a t :: l => by
  have : (den n ov).getD a .junk = qZ a ov := congrFun (qaF hok) (.tmp a)
  simp only [q9, resO, qeZ hok ty H l, this]
  cases ty t <;> rfl
noncomputable def yEnd (cfg : Cfg) (f n : Nat) (rs : List ResultVar) : YE (AV × AH) := fun e ov H =>
 match e with
 | .normal | .ret => zs n (cfg.lift f 0) ov H fun ov H => (match resO rs cfg.ty ov H with | some vs => gA (xl vs) fun v => some (v, H) | none => none)
 | _ => none
def qbd : Nat → List AV → Ov
 | _, [] => []
 | i, a :: l => (i, a) :: qbd (i + 1) l
theorem qdj : ∀ (l : List AV) (i n : Nat), i + l.length ≤ n → OvOk n (qbd i l)
 | [], i, n, _ => fun p hp => by cases hp
 | a :: l, i, n, h => by
  simp only [List.length_cons] at h
  intro p hp
  rcases qnE.1 hp with rfl | hp
  ·show i < n; omega
  ·exact qdj l (i + 1) n (by omega) p hp
theorem qfN : ∀ (l : List AV) (i t : Nat), qZ t (qbd i l) = if i ≤ t then (l[t - i]?).getD .junk else .junk
 | [], i, t => by simp [qbd, qbz]
 | a :: l, i, t => by
  rw [qbd, yG, qfN l (i + 1) t]
  by_cases e2 : i = t
  ·subst e2; simp
  ·have h1 : qnB i t = false := by rw [← Bool.not_eq_true]; intro h'; exact e2 (qno h')
   simp only [h1, cond_false]
   by_cases h3 : i + 1 ≤ t
   ·have h4 : t - i = (t - (i + 1)) + 1 := by omega
    rw [if_pos h3, if_pos (by omega), h4, List.getElem?_cons_succ]
   ·rw [if_neg h3, if_neg (by omega)]
theorem qlf {l : List AV} {n : Nat} (h : l.length ≤ n) : den n (qbd 0 l) = l ++ qnz (n - l.length) .junk := by
 refine qfl (qdj l 0 n (by omega)) (by simp; omega) fun t ht => ?_
 rw [qfN, if_pos (Nat.zero_le _), Nat.sub_zero]
 by_cases hl : t < l.length
 ·rw [qnq hl, qnm hl]; rfl
 ·rw [qns (by omega), List.getElem?_replicate, if_pos (by omega), List.getElem?_eq_none (by omega)]; rfl
noncomputable def yY2 (id : Nat) : YE (AV × AH) := fun e _ H =>
 match H[id]? with
 | some (.loop f' fr' ps' assign' body' _ _) =>
  match e with
  | .normal => gS (H.set id (.loop f' fr' ps' assign' body' none .ready)) fun H' => some (.bool true, H')
  | .ret => gS (H.set id (.loop f' fr' ps' assign' body' (some .ret) .done)) fun H' => some (.bool false, H')
  | .exit x => gS (H.set id (.loop f' fr' ps' assign' body' (some (.exit x)) .done)) fun H' => some (.bool false, H')
  | .goto _ => none
 | _ => none
noncomputable def yF (cfg : Cfg) (look : Nat → Option Func) (fs : List Fact) (m : Nat) : Nat → Orac
 | 0, _, _, _ => none
 | d + 1, .f f, args, H =>
  match cfg.ext f with
  | some s => s args H
  | none =>
   if cfg.known f then
    match look f with
    | some fn =>
     match fn.body with
     | some c => cond (qnF args.length fn.ntmps) (fNat H.length fun bs => fNat fn.ntmps fun n => gS (qbd 0 args) fun ov => yC cfg (yF cfg look fs m d) fs m f none n bs c ov H (yEnd cfg f n fn.results.toList)) none
     | none => none
    | none => none
   else none
 | d + 1, .y id, args, H =>
  match H[id]? with
  | some (.loop f fr ps assign body _ .ready) =>
   cond (qnB args.length ps.length)
    (fNat H.length fun bs => fNat (vH fr ps args).length fun n => gS (spGo 0 (vH fr ps args)) fun ov => yC cfg (yF cfg look fs m d) fs m f (some id) n bs assign ov H fun e ov H =>
     match e with
     | .normal =>
      (match H[id]? with
      | some (.loop f' fr' ps' assign' body' pend' .ready) => gS (H.set id (.loop f' fr' ps' assign' body' pend' .busy)) fun H' => yC cfg (yF cfg look fs m d) fs m f (some id) n bs body ov H' (yY2 id)
      | _ => none)
     | _ => none) none
  | _ => none
theorem qix (cfg : Cfg) {look : Nat → Option Func} (hl : ∀ f fn, look f = some fn → cfg.P.funcs[f]? = some fn) {fs : List Fact} (hfs : qQ cfg fs) (m : Nat) : ∀ (d : Nat) (t : Tgt) (a : List AV) (H : AH) (r), yF cfg look fs m d t a H = some r → EV cfg t a H = some r
 | 0, _, _, _, _, h => by cases h
 | d + 1, t, a, H, r, h => by
  have ih := qix cfg hl hfs m d
  refine qjx ?_
  cases t with
  | f f =>
   simp only [yF] at h
   unfold vg
   split at h
   ·rename_i s hs
    simp only [hs]
    exact h
   ·rename_i hs
    simp only [hs]
    split at h
    ·rename_i hk
     rw [if_pos hk]
     split at h
     ·rename_i fn hf
      simp only [hl f fn hf]
      split at h
      ·rename_i c hb
       simp only [hb]
       obtain ⟨hle, h⟩ := qb h
       rw [Nat.ble_eq] at hle
       simp only [vR, xg] at h
       obtain ⟨e, ov', H', h1, h2, h3⟩ := qeS ih hfs c (qdj a 0 fn.ntmps (by omega)) h
       rw [qlf hle] at h2
       rw [h2]
       simp only [qnt]
       unfold yEnd at h3
       have fin : ∀ (e : Ex), (e = .normal ∨ e = .ret) → (zs fn.ntmps (cfg.lift f 0) ov' H' fun ov H => (match resO fn.results.toList cfg.ty ov H with | some vs => gA (xl vs) fun v => some (v, H) | none => none)) = some r →
         zl cfg fn.results.toList (e, qF (cfg.lift f 0) (den fn.ntmps ov') H') = some r := by
        intro e he h3
        obtain ⟨ov2, H2, h4, h5, h6⟩ := xX h1 h3
        rw [h5]
        unfold zl
        rcases he with rfl | rfl <;>
        ·simp only [qeZ h4]
         split at h6
         ·rename_i vs hv
          rw [y7] at h6
          rw [hv]
          exact h6
         ·cases h6
       cases e with
       | normal => exact fin _ (.inl rfl) h3
       | ret => exact fin _ (.inr rfl) h3
       | exit x => cases h3
       | goto l => cases h3
      ·cases h
     ·cases h
    ·cases h
  | y id =>
   simp only [yF] at h
   unfold vg
   split at h
   ·rename_i f fr ps assign body p hlp
    simp only [hlp]
    obtain ⟨hlen, h⟩ := qb h
    rw [if_pos (qno hlen)]
    simp only [vR, xg] at h
    obtain ⟨e, ov1, H1, h1, h2, h3⟩ := qeS ih hfs assign (qaA _ 0 _ (by omega)) h
    rw [qhe] at h2
    rw [h2]
    simp only [qnt]
    cases e with
    | normal =>
     simp only at h3 ⊢
     split at h3
     ·rename_i f' fr' ps' assign' body' pend' hl1
      simp only [hl1]
      obtain ⟨e2, ov2, H2, h4, h5, h6⟩ := qeS ih hfs body h1 h3
      rw [h5]
      simp only [qnt]
      unfold yY2 at h6
      split at h6
      ·rename_i hl2
       simp only [hl2]
       cases e2 with
       | normal => simp only [xg] at h6; exact h6
       | ret => simp only [xg] at h6; exact h6
       | exit x => simp only [xg] at h6; exact h6
       | goto l => cases h6
      ·cases h6
     ·cases h3
    | exit x => cases h3
    | goto l => cases h3
    | ret => cases h3
   ·cases h
theorem ql7 {cfg : Cfg} {look : Nat → Option Func} (hl : ∀ f fn, look f = some fn → cfg.P.funcs[f]? = some fn) {fs : List Fact} (hfs : qQ cfg fs) {f : Nat} {args : List AV} {v : AV} (m d : Nat)
  (h : (match yF cfg look fs m d (.f f) args [] with | some r => some r.1 | none => none) = some v) : EVs (EV cfg) f args = some v := by
 unfold EVs
 cases hx : yF cfg look fs m d (.f f) args [] with
 | none => rw [hx] at h; cases h
 | some r => rw [hx] at h; rw [qix cfg hl hfs m d _ _ _ _ hx]; exact h
theorem ql8 {cfg : Cfg} {look : Nat → Option Func} (hl : ∀ f fn, look f = some fn → cfg.P.funcs[f]? = some fn) {fs : List Fact} (hfs : qQ cfg fs) {f : Nat} {args : List AV} {v : AV} (m d : Nat)
  (h : (match yF cfg look fs m d (.f f) args [] with | some r => gA (r.1.frz r.1.msIds r.2).fg some | none => none) = some v) : EVf (EV cfg) f args = some v := by
 unfold EVf
 cases hx : yF cfg look fs m d (.f f) args [] with
 | none => rw [hx] at h; cases h
 | some r => rw [hx] at h; rw [qix cfg hl hfs m d _ _ _ _ hx]; simp only [y7] at h; exact h
def qew : List AV → AH → Option (AV × AH)
 | [.str a, .str b], H => some (.int .i64 (if a == b then 0 else if Op.bytesLess a b then -1 else 1), H)
 | _, _ => none
end Go.Av
end
section
namespace Go.Proofs.Ytjiecipfkjaooaa
open Go.Av
def zr0 : List AV := [.int .u64 0, .int .u64 0, .int .u32 0, .int .u8 0, .int .u8 0, .int .u8 0, .int .u8 0, .nilF, .nilP, .int .i32 0, .int .i32 0]
def qf7 : BT TI := .node 65 ⟨.func, 1, 8, [.nilF]⟩ (.node 34 ⟨.func, 1, 8, [.nilF]⟩ (.node 19 ⟨.struct [(0, 17)], 1, 8, [.nilP]⟩ (.node 9 ⟨.str, 1, 16, [.str []]⟩ (.node 4 ⟨.bool, 1, 1, [.bool false]⟩ (.node 2 ⟨.int .i64, 1, 8, [.int .i64 0]⟩ (.node 1 ⟨.func, 1, 8, [.nilF]⟩ .leaf .leaf) (.node 3 ⟨.int .i64, 1, 8, [.int .i64 0]⟩ .leaf .leaf)) (.node 6 ⟨.int .u8, 1, 1, [.int .u8 0]⟩ (.node 5 ⟨.int .u8, 1, 1, [.int .u8 0]⟩ .leaf .leaf) (.node 7 ⟨.struct [(0, 2), (1, 3), (2, 4), (3, 6)], 4, 24, [.int .i64 0, .int .i64 0, .bool false, .int .u8 0]⟩ .leaf .leaf))) (.node 16 ⟨.ptr 117, 1, 8, [.nilP]⟩ (.node 13 ⟨.struct [(0, 9), (1, 12)], 2, 24, [.str [], .int .u64 0]⟩ (.node 12 ⟨.int .u64, 1, 8, [.int .u64 0]⟩ .leaf .leaf) (.node 15 ⟨.ptr 114, 1, 8, [.nilP]⟩ .leaf .leaf)) (.node 18 ⟨.struct [(0, 17)], 1, 8, [.nilP]⟩ (.node 17 ⟨.ptr 127, 1, 8, [.nilP]⟩ .leaf .leaf) .leaf))) (.node 27 ⟨.slice 41, 1, 24, [.nilS]⟩ (.node 23 ⟨.struct [(0, 3), (1, 3), (2, 9), (3, 22)], 4, 56, [.int .i64 0, .int .i64 0, .str [], .nilS]⟩ (.node 21 ⟨.int .i32, 1, 4, [.int .i32 0]⟩ (.node 20 ⟨.iface, 1, 16, [.nilI]⟩ .leaf .leaf) (.node 22 ⟨.slice 24, 1, 24, [.nilS]⟩ .leaf .leaf)) (.node 25 ⟨.slice 3, 1, 24, [.nilS]⟩ (.node 24 ⟨.struct [(0, 3), (1, 3), (2, 9), (3, 22)], 4, 56, [.int .i64 0, .int .i64 0, .str [], .nilS]⟩ .leaf .leaf) (.node 26 ⟨.func, 1, 8, [.nilF]⟩ .leaf .leaf))) (.node 31 ⟨.func, 1, 8, [.nilF]⟩ (.node 29 ⟨.struct [(0, 24), (4, 27), (5, 3)], 6, 88, [.int .i64 0, .int .i64 0, .str [], .nilS, .nilS, .int .i64 0]⟩ (.node 28 ⟨.struct [(0, 24), (4, 27), (5, 3)], 6, 88, [.int .i64 0, .int .i64 0, .str [], .nilS, .nilS, .int .i64 0]⟩ .leaf .leaf) (.node 30 ⟨.func, 1, 8, [.nilF]⟩ .leaf .leaf)) (.node 33 ⟨.func, 1, 8, [.nilF]⟩ (.node 32 ⟨.int .i64, 1, 8, [.int .i64 0]⟩ .leaf .leaf) .leaf)))) (.node 49 ⟨.func, 1, 8, [.nilF]⟩ (.node 42 ⟨.func, 1, 8, [.nilF]⟩ (.node 38 ⟨.func, 1, 8, [.nilF]⟩ (.node 36 ⟨.func, 1, 8, [.nilF]⟩ (.node 35 ⟨.func, 1, 8, [.nilF]⟩ .leaf .leaf) (.node 37 ⟨.func, 1, 8, [.nilF]⟩ .leaf .leaf)) (.node 40 ⟨.struct [(0, 3), (1, 24)], 5, 64, [.int .i64 0, .int .i64 0, .int .i64 0, .str [], .nilS]⟩ (.node 39 ⟨.func, 1, 8, [.nilF]⟩ .leaf .leaf) (.node 41 ⟨.struct [(0, 3), (1, 24)], 5, 64, [.int .i64 0, .int .i64 0, .int .i64 0, .str [], .nilS]⟩ .leaf .leaf))) (.node 46 ⟨.func, 1, 8, [.nilF]⟩ (.node 44 ⟨.func, 1, 8, [.nilF]⟩ (.node 43 ⟨.func, 1, 8, [.nilF]⟩ .leaf .leaf) (.node 45 ⟨.func, 1, 8, [.nilF]⟩ .leaf .leaf)) (.node 48 ⟨.func, 1, 8, [.nilF]⟩ (.node 47 ⟨.func, 1, 8, [.nilF]⟩ .leaf .leaf) .leaf))) (.node 56 ⟨.func, 1, 8, [.nilF]⟩ (.node 53 ⟨.func, 1, 8, [.nilF]⟩ (.node 51 ⟨.func, 1, 8, [.nilF]⟩ (.node 50 ⟨.func, 1, 8, [.nilF]⟩ .leaf .leaf) (.node 52 ⟨.func, 1, 8, [.nilF]⟩ .leaf .leaf)) (.node 55 ⟨.func, 1, 8, [.nilF]⟩ (.node 54 ⟨.func, 1, 8, [.nilF]⟩ .leaf .leaf) .leaf)) (.node 61 ⟨.func, 1, 8, [.nilF]⟩ (.node 58 ⟨.func, 1, 8, [.nilF]⟩ (.node 57 ⟨.func, 1, 8, [.nilF]⟩ .leaf .leaf) (.node 60 ⟨.func, 1, 8, [.nilF]⟩ .leaf .leaf)) (.node 63 ⟨.func, 1, 8, [.nilF]⟩ (.node 62 ⟨.func, 1, 8, [.nilF]⟩ .leaf .leaf) .leaf))))) (.node 97 ⟨.ptr 89, 1, 8, [.nilP]⟩ (.node 82 ⟨.func, 1, 8, [.nilF]⟩ (.node 74 ⟨.func, 1, 8, [.nilF]⟩ (.node 70 ⟨.func, 1, 8, [.nilF]⟩ (.node 68 ⟨.func, 1, 8, [.nilF]⟩ (.node 66 ⟨.slice 5, 1, 24, [.nilS]⟩ .leaf .leaf) (.node 69 ⟨.func, 1, 8, [.nilF]⟩ .leaf .leaf)) (.node 72 ⟨.func, 1, 8, [.nilF]⟩ (.node 71 ⟨.func, 1, 8, [.nilF]⟩ .leaf .leaf) (.node 73 ⟨.func, 1, 8, [.nilF]⟩ .leaf .leaf))) (.node 78 ⟨.func, 1, 8, [.nilF]⟩ (.node 76 ⟨.struct [(0, 29), (6, 4)], 7, 96, [.int .i64 0, .int .i64 0, .str [], .nilS, .nilS, .int .i64 0, .bool false]⟩ (.node 75 ⟨.ptr 77, 1, 8, [.nilP]⟩ .leaf .leaf) (.node 77 ⟨.struct [(0, 29), (6, 4)], 7, 96, [.int .i64 0, .int .i64 0, .str [], .nilS, .nilS, .int .i64 0, .bool false]⟩ .leaf .leaf)) (.node 80 ⟨.func, 1, 8, [.nilF]⟩ (.node 79 ⟨.func, 1, 8, [.nilF]⟩ .leaf .leaf) .leaf))) (.node 90 ⟨.array 100 24, 400, 5600, [.int .i64 0, .int .i64 0, .str [], .nilS, .int .i64 0, .int .i64 0, .str [], .nilS, .int .i64 0, .int .i64 0, .str [], .nilS, .int .i64 0, .int .i64 0, .str [], .nilS, .int .i64 0, .int .i64 0, .str [], .nilS, .int .i64 0, .int .i64 0, .str [], .nilS, .int .i64 0, .int .i64 0, .str [], .nilS, .int .i64 0, .int .i64 0, .str [], .nilS, .int .i64 0, .int .i64 0, .str [], .nilS, .int .i64 0, .int .i64 0, .str [], .nilS, .int .i64 0, .int .i64 0, .str [], .nilS, .int .i64 0, .int .i64 0, .str [], .nilS, .int .i64 0, .int .i64 0, .str [], .nilS, .int .i64 0, .int .i64 0, .str [], .nilS, .int .i64 0, .int .i64 0, .str [], .nilS, .int .i64 0, .int .i64 0, .str [], .nilS, .int .i64 0, .int .i64 0, .str [], .nilS, .int .i64 0, .int .i64 0, .str [], .nilS, .int .i64 0, .int .i64 0, .str [], .nilS, .int .i64 0, .int .i64 0, .str [], .nilS, .int .i64 0, .int .i64 0, .str [], .nilS, .int .i64 0, .int .i64 0, .str [], .nilS, .int .i64 0, .int .i64 0, .str [], .nilS, .int .i64 0, .int .i64 0, .str [], .nilS, .int .i64 0, .int .i64 0, .str [], .nilS, .int .i64 0, .int .i64 0, .str [], .nilS, .int .i64 0, .int .i64 0, .str [], .nilS, .int .i64 0, .int .i64 0, .str [], .nilS, .int .i64 0, .int .i64 0, .str [], .nilS, .int .i64 0, .int .i64 0, .str [], .nilS, .int .i64 0, .int .i64 0, .str [], .nilS, .int .i64 0, .int .i64 0, .str [], .nilS, .int .i64 0, .int .i64 0, .str [], .nilS, .int .i64 0, .int .i64 0, .str [], .nilS, .int .i64 0, .int .i64 0, .str [], .nilS, .int .i64 0, .int .i64 0, .str [], .nilS, .int .i64 0, .int .i64 0, .str [], .nilS, .int .i64 0, .int .i64 0, .str [], .nilS, .int .i64 0, .int .i64 0, .str [], .nilS, .int .i64 0, .int .i64 0, .str [], .nilS, .int .i64 0, .int .i64 0, .str [], .nilS, .int .i64 0, .int .i64 0, .str [], .nilS, .int .i64 0, .int .i64 0, .str [], .nilS, .int .i64 0, .int .i64 0, .str [], .nilS, .int .i64 0, .int .i64 0, .str [], .nilS, .int .i64 0, .int .i64 0, .str [], .nilS, .int .i64 0, .int .i64 0, .str [], .nilS, .int .i64 0, .int .i64 0, .str [], .nilS, .int .i64 0, .int .i64 0, .str [], .nilS, .int .i64 0, .int .i64 0, .str [], .nilS, .int .i64 0, .int .i64 0, .str [], .nilS, .int .i64 0, .int .i64 0, .str [], .nilS, .int .i64 0, .int .i64 0, .str [], .nilS, .int .i64 0, .int .i64 0, .str [], .nilS, .int .i64 0, .int .i64 0, .str [], .nilS, .int .i64 0, .int .i64 0, .str [], .nilS, .int .i64 0, .int .i64 0, .str [], .nilS, .int .i64 0, .int .i64 0, .str [], .nilS, .int .i64 0, .int .i64 0, .str [], .nilS, .int .i64 0, .int .i64 0, .str [], .nilS, .int .i64 0, .int .i64 0, .str [], .nilS, .int .i64 0, .int .i64 0, .str [], .nilS, .int .i64 0, .int .i64 0, .str [], .nilS, .int .i64 0, .int .i64 0, .str [], .nilS, .int .i64 0, .int .i64 0, .str [], .nilS, .int .i64 0, .int .i64 0, .str [], .nilS, .int .i64 0, .int .i64 0, .str [], .nilS, .int .i64 0, .int .i64 0, .str [], .nilS, .int .i64 0, .int .i64 0, .str [], .nilS, .int .i64 0, .int .i64 0, .str [], .nilS, .int .i64 0, .int .i64 0, .str [], .nilS, .int .i64 0, .int .i64 0, .str [], .nilS, .int .i64 0, .int .i64 0, .str [], .nilS, .int .i64 0, .int .i64 0, .str [], .nilS, .int .i64 0, .int .i64 0, .str [], .nilS, .int .i64 0, .int .i64 0, .str [], .nilS, .int .i64 0, .int .i64 0, .str [], .nilS, .int .i64 0, .int .i64 0, .str [], .nilS, .int .i64 0, .int .i64 0, .str [], .nilS, .int .i64 0, .int .i64 0, .str [], .nilS, .int .i64 0, .int .i64 0, .str [], .nilS, .int .i64 0, .int .i64 0, .str [], .nilS, .int .i64 0, .int .i64 0, .str [], .nilS, .int .i64 0, .int .i64 0, .str [], .nilS, .int .i64 0, .int .i64 0, .str [], .nilS, .int .i64 0, .int .i64 0, .str [], .nilS, .int .i64 0, .int .i64 0, .str [], .nilS, .int .i64 0, .int .i64 0, .str [], .nilS, .int .i64 0, .int .i64 0, .str [], .nilS, .int .i64 0, .int .i64 0, .str [], .nilS, .int .i64 0, .int .i64 0, .str [], .nilS, .int .i64 0, .int .i64 0, .str [], .nilS, .int .i64 0, .int .i64 0, .str [], .nilS, .int .i64 0, .int .i64 0, .str [], .nilS, .int .i64 0, .int .i64 0, .str [], .nilS, .int .i64 0, .int .i64 0, .str [], .nilS, .int .i64 0, .int .i64 0, .str [], .nilS, .int .i64 0, .int .i64 0, .str [], .nilS, .int .i64 0, .int .i64 0, .str [], .nilS, .int .i64 0, .int .i64 0, .str [], .nilS]⟩ (.node 86 ⟨.func, 1, 8, [.nilF]⟩ (.node 84 ⟨.func, 1, 8, [.nilF]⟩ (.node 83 ⟨.func, 1, 8, [.nilF]⟩ .leaf .leaf) (.node 85 ⟨.ptr 92, 1, 8, [.nilP]⟩ .leaf .leaf)) (.node 88 ⟨.struct [(0, 87), (1, 87)], 2, 16, [.int .u64 0, .int .u64 0]⟩ (.node 87 ⟨.int .u64, 1, 8, [.int .u64 0]⟩ .leaf .leaf) (.node 89 ⟨.struct [(0, 87), (1, 87)], 2, 16, [.int .u64 0, .int .u64 0]⟩ .leaf .leaf))) (.node 94 ⟨.func, 1, 8, [.nilF]⟩ (.node 92 ⟨.struct [(0, 89), (2, 90)], 402, 5616, [.int .u64 0, .int .u64 0, .int .i64 0, .int .i64 0, .str [], .nilS, .int .i64 0, .int .i64 0, .str [], .nilS, .int .i64 0, .int .i64 0, .str [], .nilS, .int .i64 0, .int .i64 0, .str [], .nilS, .int .i64 0, .int .i64 0, .str [], .nilS, .int .i64 0, .int .i64 0, .str [], .nilS, .int .i64 0, .int .i64 0, .str [], .nilS, .int .i64 0, .int .i64 0, .str [], .nilS, .int .i64 0, .int .i64 0, .str [], .nilS, .int .i64 0, .int .i64 0, .str [], .nilS, .int .i64 0, .int .i64 0, .str [], .nilS, .int .i64 0, .int .i64 0, .str [], .nilS, .int .i64 0, .int .i64 0, .str [], .nilS, .int .i64 0, .int .i64 0, .str [], .nilS, .int .i64 0, .int .i64 0, .str [], .nilS, .int .i64 0, .int .i64 0, .str [], .nilS, .int .i64 0, .int .i64 0, .str [], .nilS, .int .i64 0, .int .i64 0, .str [], .nilS, .int .i64 0, .int .i64 0, .str [], .nilS, .int .i64 0, .int .i64 0, .str [], .nilS, .int .i64 0, .int .i64 0, .str [], .nilS, .int .i64 0, .int .i64 0, .str [], .nilS, .int .i64 0, .int .i64 0, .str [], .nilS, .int .i64 0, .int .i64 0, .str [], .nilS, .int .i64 0, .int .i64 0, .str [], .nilS, .int .i64 0, .int .i64 0, .str [], .nilS, .int .i64 0, .int .i64 0, .str [], .nilS, .int .i64 0, .int .i64 0, .str [], .nilS, .int .i64 0, .int .i64 0, .str [], .nilS, .int .i64 0, .int .i64 0, .str [], .nilS, .int .i64 0, .int .i64 0, .str [], .nilS, .int .i64 0, .int .i64 0, .str [], .nilS, .int .i64 0, .int .i64 0, .str [], .nilS, .int .i64 0, .int .i64 0, .str [], .nilS, .int .i64 0, .int .i64 0, .str [], .nilS, .int .i64 0, .int .i64 0, .str [], .nilS, .int .i64 0, .int .i64 0, .str [], .nilS, .int .i64 0, .int .i64 0, .str [], .nilS, .int .i64 0, .int .i64 0, .str [], .nilS, .int .i64 0, .int .i64 0, .str [], .nilS, .int .i64 0, .int .i64 0, .str [], .nilS, .int .i64 0, .int .i64 0, .str [], .nilS, .int .i64 0, .int .i64 0, .str [], .nilS, .int .i64 0, .int .i64 0, .str [], .nilS, .int .i64 0, .int .i64 0, .str [], .nilS, .int .i64 0, .int .i64 0, .str [], .nilS, .int .i64 0, .int .i64 0, .str [], .nilS, .int .i64 0, .int .i64 0, .str [], .nilS, .int .i64 0, .int .i64 0, .str [], .nilS, .int .i64 0, .int .i64 0, .str [], .nilS, .int .i64 0, .int .i64 0, .str [], .nilS, .int .i64 0, .int .i64 0, .str [], .nilS, .int .i64 0, .int .i64 0, .str [], .nilS, .int .i64 0, .int .i64 0, .str [], .nilS, .int .i64 0, .int .i64 0, .str [], .nilS, .int .i64 0, .int .i64 0, .str [], .nilS, .int .i64 0, .int .i64 0, .str [], .nilS, .int .i64 0, .int .i64 0, .str [], .nilS, .int .i64 0, .int .i64 0, .str [], .nilS, .int .i64 0, .int .i64 0, .str [], .nilS, .int .i64 0, .int .i64 0, .str [], .nilS, .int .i64 0, .int .i64 0, .str [], .nilS, .int .i64 0, .int .i64 0, .str [], .nilS, .int .i64 0, .int .i64 0, .str [], .nilS, .int .i64 0, .int .i64 0, .str [], .nilS, .int .i64 0, .int .i64 0, .str [], .nilS, .int .i64 0, .int .i64 0, .str [], .nilS, .int .i64 0, .int .i64 0, .str [], .nilS, .int .i64 0, .int .i64 0, .str [], .nilS, .int .i64 0, .int .i64 0, .str [], .nilS, .int .i64 0, .int .i64 0, .str [], .nilS, .int .i64 0, .int .i64 0, .str [], .nilS, .int .i64 0, .int .i64 0, .str [], .nilS, .int .i64 0, .int .i64 0, .str [], .nilS, .int .i64 0, .int .i64 0, .str [], .nilS, .int .i64 0, .int .i64 0, .str [], .nilS, .int .i64 0, .int .i64 0, .str [], .nilS, .int .i64 0, .int .i64 0, .str [], .nilS, .int .i64 0, .int .i64 0, .str [], .nilS, .int .i64 0, .int .i64 0, .str [], .nilS, .int .i64 0, .int .i64 0, .str [], .nilS, .int .i64 0, .int .i64 0, .str [], .nilS, .int .i64 0, .int .i64 0, .str [], .nilS, .int .i64 0, .int .i64 0, .str [], .nilS, .int .i64 0, .int .i64 0, .str [], .nilS, .int .i64 0, .int .i64 0, .str [], .nilS, .int .i64 0, .int .i64 0, .str [], .nilS, .int .i64 0, .int .i64 0, .str [], .nilS, .int .i64 0, .int .i64 0, .str [], .nilS, .int .i64 0, .int .i64 0, .str [], .nilS, .int .i64 0, .int .i64 0, .str [], .nilS, .int .i64 0, .int .i64 0, .str [], .nilS, .int .i64 0, .int .i64 0, .str [], .nilS, .int .i64 0, .int .i64 0, .str [], .nilS, .int .i64 0, .int .i64 0, .str [], .nilS, .int .i64 0, .int .i64 0, .str [], .nilS, .int .i64 0, .int .i64 0, .str [], .nilS, .int .i64 0, .int .i64 0, .str [], .nilS, .int .i64 0, .int .i64 0, .str [], .nilS, .int .i64 0, .int .i64 0, .str [], .nilS]⟩ (.node 91 ⟨.struct [(0, 89), (2, 90)], 402, 5616, [.int .u64 0, .int .u64 0, .int .i64 0, .int .i64 0, .str [], .nilS, .int .i64 0, .int .i64 0, .str [], .nilS, .int .i64 0, .int .i64 0, .str [], .nilS, .int .i64 0, .int .i64 0, .str [], .nilS, .int .i64 0, .int .i64 0, .str [], .nilS, .int .i64 0, .int .i64 0, .str [], .nilS, .int .i64 0, .int .i64 0, .str [], .nilS, .int .i64 0, .int .i64 0, .str [], .nilS, .int .i64 0, .int .i64 0, .str [], .nilS, .int .i64 0, .int .i64 0, .str [], .nilS, .int .i64 0, .int .i64 0, .str [], .nilS, .int .i64 0, .int .i64 0, .str [], .nilS, .int .i64 0, .int .i64 0, .str [], .nilS, .int .i64 0, .int .i64 0, .str [], .nilS, .int .i64 0, .int .i64 0, .str [], .nilS, .int .i64 0, .int .i64 0, .str [], .nilS, .int .i64 0, .int .i64 0, .str [], .nilS, .int .i64 0, .int .i64 0, .str [], .nilS, .int .i64 0, .int .i64 0, .str [], .nilS, .int .i64 0, .int .i64 0, .str [], .nilS, .int .i64 0, .int .i64 0, .str [], .nilS, .int .i64 0, .int .i64 0, .str [], .nilS, .int .i64 0, .int .i64 0, .str [], .nilS, .int .i64 0, .int .i64 0, .str [], .nilS, .int .i64 0, .int .i64 0, .str [], .nilS, .int .i64 0, .int .i64 0, .str [], .nilS, .int .i64 0, .int .i64 0, .str [], .nilS, .int .i64 0, .int .i64 0, .str [], .nilS, .int .i64 0, .int .i64 0, .str [], .nilS, .int .i64 0, .int .i64 0, .str [], .nilS, .int .i64 0, .int .i64 0, .str [], .nilS, .int .i64 0, .int .i64 0, .str [], .nilS, .int .i64 0, .int .i64 0, .str [], .nilS, .int .i64 0, .int .i64 0, .str [], .nilS, .int .i64 0, .int .i64 0, .str [], .nilS, .int .i64 0, .int .i64 0, .str [], .nilS, .int .i64 0, .int .i64 0, .str [], .nilS, .int .i64 0, .int .i64 0, .str [], .nilS, .int .i64 0, .int .i64 0, .str [], .nilS, .int .i64 0, .int .i64 0, .str [], .nilS, .int .i64 0, .int .i64 0, .str [], .nilS, .int .i64 0, .int .i64 0, .str [], .nilS, .int .i64 0, .int .i64 0, .str [], .nilS, .int .i64 0, .int .i64 0, .str [], .nilS, .int .i64 0, .int .i64 0, .str [], .nilS, .int .i64 0, .int .i64 0, .str [], .nilS, .int .i64 0, .int .i64 0, .str [], .nilS, .int .i64 0, .int .i64 0, .str [], .nilS, .int .i64 0, .int .i64 0, .str [], .nilS, .int .i64 0, .int .i64 0, .str [], .nilS, .int .i64 0, .int .i64 0, .str [], .nilS, .int .i64 0, .int .i64 0, .str [], .nilS, .int .i64 0, .int .i64 0, .str [], .nilS, .int .i64 0, .int .i64 0, .str [], .nilS, .int .i64 0, .int .i64 0, .str [], .nilS, .int .i64 0, .int .i64 0, .str [], .nilS, .int .i64 0, .int .i64 0, .str [], .nilS, .int .i64 0, .int .i64 0, .str [], .nilS, .int .i64 0, .int .i64 0, .str [], .nilS, .int .i64 0, .int .i64 0, .str [], .nilS, .int .i64 0, .int .i64 0, .str [], .nilS, .int .i64 0, .int .i64 0, .str [], .nilS, .int .i64 0, .int .i64 0, .str [], .nilS, .int .i64 0, .int .i64 0, .str [], .nilS, .int .i64 0, .int .i64 0, .str [], .nilS, .int .i64 0, .int .i64 0, .str [], .nilS, .int .i64 0, .int .i64 0, .str [], .nilS, .int .i64 0, .int .i64 0, .str [], .nilS, .int .i64 0, .int .i64 0, .str [], .nilS, .int .i64 0, .int .i64 0, .str [], .nilS, .int .i64 0, .int .i64 0, .str [], .nilS, .int .i64 0, .int .i64 0, .str [], .nilS, .int .i64 0, .int .i64 0, .str [], .nilS, .int .i64 0, .int .i64 0, .str [], .nilS, .int .i64 0, .int .i64 0, .str [], .nilS, .int .i64 0, .int .i64 0, .str [], .nilS, .int .i64 0, .int .i64 0, .str [], .nilS, .int .i64 0, .int .i64 0, .str [], .nilS, .int .i64 0, .int .i64 0, .str [], .nilS, .int .i64 0, .int .i64 0, .str [], .nilS, .int .i64 0, .int .i64 0, .str [], .nilS, .int .i64 0, .int .i64 0, .str [], .nilS, .int .i64 0, .int .i64 0, .str [], .nilS, .int .i64 0, .int .i64 0, .str [], .nilS, .int .i64 0, .int .i64 0, .str [], .nilS, .int .i64 0, .int .i64 0, .str [], .nilS, .int .i64 0, .int .i64 0, .str [], .nilS, .int .i64 0, .int .i64 0, .str [], .nilS, .int .i64 0, .int .i64 0, .str [], .nilS, .int .i64 0, .int .i64 0, .str [], .nilS, .int .i64 0, .int .i64 0, .str [], .nilS, .int .i64 0, .int .i64 0, .str [], .nilS, .int .i64 0, .int .i64 0, .str [], .nilS, .int .i64 0, .int .i64 0, .str [], .nilS, .int .i64 0, .int .i64 0, .str [], .nilS, .int .i64 0, .int .i64 0, .str [], .nilS, .int .i64 0, .int .i64 0, .str [], .nilS, .int .i64 0, .int .i64 0, .str [], .nilS, .int .i64 0, .int .i64 0, .str [], .nilS, .int .i64 0, .int .i64 0, .str [], .nilS]⟩ .leaf .leaf) (.node 93 ⟨.func, 1, 8, [.nilF]⟩ .leaf .leaf)) (.node 96 ⟨.func, 1, 8, [.nilF]⟩ (.node 95 ⟨.func, 1, 8, [.nilF]⟩ .leaf .leaf) .leaf)))) (.node 113 ⟨.struct [(0, 17), (1, 17), (2, 17), (3, 9)], 4, 40, [.nilP, .nilP, .nilP, .str []]⟩ (.node 105 ⟨.func, 1, 8, [.nilF]⟩ (.node 101 ⟨.func, 1, 8, [.nilF]⟩ (.node 99 ⟨.func, 1, 8, [.nilF]⟩ (.node 98 ⟨.func, 1, 8, [.nilF]⟩ .leaf .leaf) (.node 100 ⟨.func, 1, 8, [.nilF]⟩ .leaf .leaf)) (.node 103 ⟨.func, 1, 8, [.nilF]⟩ (.node 102 ⟨.ptr 24, 1, 8, [.nilP]⟩ .leaf .leaf) (.node 104 ⟨.func, 1, 8, [.nilF]⟩ .leaf .leaf))) (.node 110 ⟨.func, 1, 8, [.nilF]⟩ (.node 107 ⟨.func, 1, 8, [.nilF]⟩ (.node 106 ⟨.func, 1, 8, [.nilF]⟩ .leaf .leaf) (.node 108 ⟨.func, 1, 8, [.nilF]⟩ .leaf .leaf)) (.node 112 ⟨.func, 1, 8, [.nilF]⟩ (.node 111 ⟨.int .u64, 1, 8, [.int .u64 0]⟩ .leaf .leaf) .leaf))) (.node 122 ⟨.func, 1, 8, [.nilF]⟩ (.node 119 ⟨.int .u32, 1, 4, [.int .u32 0]⟩ (.node 116 ⟨.struct [(0, 115)], 0, 0, []⟩ (.node 115 ⟨.array 0 16, 0, 0, []⟩ .leaf .leaf) (.node 118 ⟨.func, 1, 8, [.nilF]⟩ .leaf .leaf)) (.node 121 ⟨.int .u8, 1, 1, [.int .u8 0]⟩ (.node 120 ⟨.int .u8, 1, 1, [.int .u8 0]⟩ .leaf .leaf) .leaf)) (.node 126 ⟨.struct [(0, 12), (1, 12), (2, 119), (3, 120), (4, 5), (5, 5), (6, 121), (7, 122), (8, 123), (9, 124), (10, 125)], 11, 48, zr0⟩ (.node 124 ⟨.int .i32, 1, 4, [.int .i32 0]⟩ (.node 123 ⟨.ptr 5, 1, 8, [.nilP]⟩ .leaf .leaf) (.node 125 ⟨.int .i32, 1, 4, [.int .i32 0]⟩ .leaf .leaf)) (.node 128 ⟨.func, 1, 8, [.nilF]⟩ (.node 127 ⟨.struct [(0, 12), (1, 12), (2, 119), (3, 120), (4, 5), (5, 5), (6, 121), (7, 122), (8, 123), (9, 124), (10, 125)], 11, 48, zr0⟩ .leaf .leaf) .leaf)))))
def qlK : BT CMode := .node 46 (.pfrz) (.node 24 (.pfrz) (.node 13 (.wfrz) (.node 8 (.scal) (.node 5 (.pfrz) (.node 4 (.scal) (.node 3 (.scal) .leaf .leaf) .leaf) (.node 7 (.scal) (.node 6 (.wfrz) .leaf .leaf) .leaf)) (.node 11 (.pfrz) (.node 10 (.pfrz) (.node 9 (.scal) .leaf .leaf) .leaf) (.node 12 (.scal) .leaf .leaf))) (.node 19 (.scal) (.node 16 (.pown) (.node 15 (.scal) (.node 14 (.scal) .leaf .leaf) .leaf) (.node 18 (.scal) (.node 17 (.scal) .leaf .leaf) .leaf)) (.node 22 (.scal) (.node 21 (.scal) (.node 20 (.scal) .leaf .leaf) .leaf) (.node 23 (.pfrz) .leaf .leaf)))) (.node 36 (.scal) (.node 30 (.scal) (.node 27 (.scal) (.node 26 (.pfrz) (.node 25 (.pfrz) .leaf .leaf) .leaf) (.node 29 (.pfrz) (.node 28 (.pfrz) .leaf .leaf) .leaf)) (.node 34 (.scal) (.node 32 (.scal) (.node 31 (.pfrz) .leaf .leaf) .leaf) (.node 35 (.scal) .leaf .leaf))) (.node 41 (.scal) (.node 39 (.scal) (.node 38 (.scal) (.node 37 (.scal) .leaf .leaf) .leaf) (.node 40 (.scal) .leaf .leaf)) (.node 44 (.scal) (.node 43 (.scal) (.node 42 (.scal) .leaf .leaf) .leaf) (.node 45 (.pfrz) .leaf .leaf))))) (.node 71 (.pfrz) (.node 60 (.scal) (.node 54 (.scal) (.node 51 (.scal) (.node 50 (.scal) (.node 49 (.scal) .leaf .leaf) .leaf) (.node 53 (.scal) (.node 52 (.scal) .leaf .leaf) .leaf)) (.node 57 (.scal) (.node 56 (.pfrz) (.node 55 (.inpf) .leaf .leaf) .leaf) (.node 59 (.scal) .leaf .leaf))) (.node 65 (.inpl) (.node 63 (.inpf) (.node 62 (.inpf) (.node 61 (.pfrz) .leaf .leaf) .leaf) (.node 64 (.inpf) .leaf .leaf)) (.node 69 (.scal) (.node 67 (.slf) (.node 66 (.inpf) .leaf .leaf) .leaf) (.node 70 (.inpf) .leaf .leaf)))) (.node 83 (.scal) (.node 77 (.inpl) (.node 74 (.inpl) (.node 73 (.inpf) (.node 72 (.inpf) .leaf .leaf) .leaf) (.node 76 (.inpf) (.node 75 (.pfrz) .leaf .leaf) .leaf)) (.node 80 (.inpf) (.node 79 (.scal) (.node 78 (.inpf) .leaf .leaf) .leaf) (.node 81 (.pfrz) .leaf .leaf))) (.node 89 (.scal) (.node 86 (.scal) (.node 85 (.scal) (.node 84 (.scal) .leaf .leaf) .leaf) (.node 87 (.inpf) .leaf .leaf)) (.node 92 (.scal) (.node 91 (.scal) (.node 90 (.scal) .leaf .leaf) .leaf) (.node 93 (.scal) .leaf .leaf)))))
def ql6 : BT (BT (List Nat)) := .node 28 (.node 5 ([6]) .leaf .leaf) (.node 23 (.node 1 ([5]) .leaf .leaf) (.node 14 (.node 1 ([3, 10, 23]) .leaf .leaf) .leaf .leaf) (.node 26 (.node 2 ([3, 9]) .leaf .leaf) .leaf .leaf)) (.node 71 (.node 3 ([3]) .leaf .leaf) (.node 63 (.node 7 ([2]) .leaf .leaf) .leaf .leaf) .leaf)
noncomputable def qga {α : Type} (a b : Nat) (t : BT (BT α)) : Option α := match t.look a with | some u => u.look b | none => none
noncomputable def qlQ (f r k : Nat) : Bool := match qga f r ql6 with | some l => vF k l | none => false
def qlL : BT (BT (List Tmp × List Tmp)) := .node 46 (.node 4 ([1, 4, 5, 9, 10, 11], [1, 2, 3, 4]) .leaf .leaf) (.node 30 (.node 3 ([3, 6, 16, 17, 18], [4, 6]) .leaf .leaf) (.node 16 (.node 3 ([0, 3, 4], [3]) .leaf .leaf) (.node 6 (.node 4 ([0, 3, 4], [0, 3]) .leaf .leaf) (.node 4 (.node 7 ([0, 3, 6], [0, 3, 4]) (.node 2 ([0, 3, 5], [0, 3, 4]) .leaf .leaf) .leaf) .leaf .leaf) (.node 9 (.node 4 ([0, 1, 5], [4]) .leaf .leaf) .leaf .leaf)) (.node 21 (.node 4 ([0, 1, 5], [4]) .leaf .leaf) (.node 17 (.node 4 ([2, 3], [2, 3]) .leaf .leaf) .leaf .leaf) (.node 28 (.node 3 ([0, 2, 3, 4], [2, 3]) .leaf .leaf) .leaf .leaf))) (.node 41 (.node 5 ([1, 4, 5], [2, 3, 4]) .leaf .leaf) (.node 39 (.node 4 ([1, 3], [2]) .leaf .leaf) (.node 32 (.node 5 ([1, 2, 5, 6], [5]) .leaf .leaf) .leaf .leaf) (.node 40 (.node 6 ([1, 3, 4], [3]) .leaf .leaf) .leaf .leaf)) (.node 43 (.node 2 ([0, 1, 5], [4]) .leaf .leaf) (.node 42 (.node 2 ([0, 1, 5], [4]) .leaf .leaf) .leaf .leaf) (.node 44 (.node 3 ([1, 5, 6], [4]) .leaf .leaf) .leaf .leaf)))) (.node 67 (.node 6 ([1, 2, 3, 4, 18, 19, 20], [2, 3, 4]) .leaf .leaf) (.node 58 (.node 1 ([0, 1, 3], []) .leaf .leaf) (.node 50 (.node 5 ([4, 32, 33, 34], [2, 3, 4]) .leaf .leaf) (.node 47 (.node 7 ([3], [0, 3]) (.node 1 ([0, 3], []) .leaf .leaf) .leaf) .leaf .leaf) (.node 51 (.node 2 ([0, 1, 7, 8], [4]) .leaf .leaf) .leaf .leaf)) (.node 63 (.node 3 ([2, 3, 10, 11, 12], [2, 3]) .leaf .leaf) (.node 59 (.node 2 ([0, 1, 7, 8], [4]) .leaf .leaf) .leaf .leaf) (.node 64 (.node 3 ([0, 5, 8, 9, 10], [4, 5]) .leaf .leaf) .leaf .leaf))) (.node 79 (.node 1 ([2, 3], [4]) .leaf .leaf) (.node 71 (.node 3 ([3], [3, 4]) .leaf .leaf) (.node 68 (.node 4 ([3, 4, 9, 10, 11], [2, 3]) .leaf .leaf) .leaf .leaf) (.node 78 (.node 4 ([7], [0, 5, 6, 7]) .leaf .leaf) .leaf .leaf)) (.node 88 (.node 0 ([0, 1], []) .leaf .leaf) (.node 85 (.node 3 ([3, 6, 7, 8], [2, 3]) .leaf .leaf) .leaf .leaf) (.node 91 (.node 2 ([0, 1, 2, 11, 12, 13], [0, 1, 6]) .leaf .leaf) .leaf .leaf))))
def qmb : BT (BT (List Tmp)) := .leaf
def qlM : BT (BT (List (Tmp × Nat))) := .node 47 (.node 7 ([(3, 4)]) (.node 1 ([(3, 4)]) .leaf .leaf) .leaf) (.node 46 (.node 4 ([(4, 1)]) .leaf .leaf) (.node 16 (.node 3 ([(3, 4)]) (.node 0 ([(2, 4)]) .leaf .leaf) .leaf) .leaf .leaf) .leaf) (.node 64 (.node 3 ([(5, 4)]) .leaf .leaf) (.node 63 (.node 3 ([(3, 4)]) .leaf .leaf) .leaf .leaf) .leaf)
def xG (f : Nat) : List (Nat × (List AV → AH → Option (AV × AH))) → Option (List AV → AH → Option (AV × AH))
 | [] => none
 | p :: l => if qnB p.1 f then some p.2 else xG f l
noncomputable def qis : List (Nat × (List AV → AH → Option (AV × AH))) := []
noncomputable def qbU : List (Nat × (List AV → AH → Option (AV × AH))) := (93, qew) :: qis
theorem qev : qis = [] := rfl
def qk2 : BT Unit := .node 48 (()) (.node 25 (()) (.node 14 (()) (.node 8 (()) (.node 5 (()) (.node 4 (()) (.node 3 (()) .leaf .leaf) .leaf) (.node 7 (()) (.node 6 (()) .leaf .leaf) .leaf)) (.node 11 (()) (.node 10 (()) (.node 9 (()) .leaf .leaf) .leaf) (.node 13 (()) (.node 12 (()) .leaf .leaf) .leaf))) (.node 20 (()) (.node 17 (()) (.node 16 (()) (.node 15 (()) .leaf .leaf) .leaf) (.node 19 (()) (.node 18 (()) .leaf .leaf) .leaf)) (.node 23 (()) (.node 22 (()) (.node 21 (()) .leaf .leaf) .leaf) (.node 24 (()) .leaf .leaf)))) (.node 37 (()) (.node 31 (()) (.node 28 (()) (.node 27 (()) (.node 26 (()) .leaf .leaf) .leaf) (.node 30 (()) (.node 29 (()) .leaf .leaf) .leaf)) (.node 34 (()) (.node 33 (()) (.node 32 (()) .leaf .leaf) .leaf) (.node 36 (()) (.node 35 (()) .leaf .leaf) .leaf))) (.node 43 (()) (.node 40 (()) (.node 39 (()) (.node 38 (()) .leaf .leaf) .leaf) (.node 42 (()) (.node 41 (()) .leaf .leaf) .leaf)) (.node 46 (()) (.node 45 (()) (.node 44 (()) .leaf .leaf) .leaf) (.node 47 (()) .leaf .leaf))))) (.node 71 (()) (.node 60 (()) (.node 54 (()) (.node 51 (()) (.node 50 (()) (.node 49 (()) .leaf .leaf) .leaf) (.node 53 (()) (.node 52 (()) .leaf .leaf) .leaf)) (.node 57 (()) (.node 56 (()) (.node 55 (()) .leaf .leaf) .leaf) (.node 59 (()) (.node 58 (()) .leaf .leaf) .leaf))) (.node 66 (()) (.node 63 (()) (.node 62 (()) (.node 61 (()) .leaf .leaf) .leaf) (.node 65 (()) (.node 64 (()) .leaf .leaf) .leaf)) (.node 69 (()) (.node 68 (()) (.node 67 (()) .leaf .leaf) .leaf) (.node 70 (()) .leaf .leaf)))) (.node 82 (()) (.node 77 (()) (.node 74 (()) (.node 73 (()) (.node 72 (()) .leaf .leaf) .leaf) (.node 76 (()) (.node 75 (()) .leaf .leaf) .leaf)) (.node 80 (()) (.node 79 (()) (.node 78 (()) .leaf .leaf) .leaf) (.node 81 (()) .leaf .leaf))) (.node 88 (()) (.node 85 (()) (.node 84 (()) (.node 83 (()) .leaf .leaf) .leaf) (.node 87 (()) (.node 86 (()) .leaf .leaf) .leaf)) (.node 91 (()) (.node 90 (()) (.node 89 (()) .leaf .leaf) .leaf) (.node 92 (()) .leaf .leaf)))))
def qma : BT Unit := .node 29 (()) (.node 24 (()) (.node 22 (()) .leaf .leaf) (.node 27 (()) .leaf .leaf)) (.node 77 (()) (.node 41 (()) .leaf .leaf) .leaf)
def qme : BT Unit := .node 29 (()) .leaf .leaf
def ql1 : BT Unit := .node 25 (()) .leaf .leaf
def ql9 : BT Unit := .leaf
def ql2 : BT (List Nat) := .node 67 ([25, 4]) (.node 64 ([24, 32]) (.node 59 ([3, 4]) .leaf .leaf) .leaf) (.node 109 ([87, 87]) (.node 81 ([24, 4]) .leaf .leaf) .leaf)
noncomputable def qkm : List (Nat × Func) := [(33, Try.f33), (47, Try.f47), (48, Try.f48), (58, Try.f58), (68, Try.f68), (82, Try.f82), (88, Try.f88)]
noncomputable def qjh : BT Func := .node 48 (Try.f48) (.node 25 (Try.f25) (.node 14 (Try.f14) (.node 8 (Try.f8) (.node 5 (Try.f5) (.node 4 (Try.f4) (.node 3 (Try.f3) .leaf .leaf) .leaf) (.node 7 (Try.f7) (.node 6 (Try.f6) .leaf .leaf) .leaf)) (.node 11 (Try.f11) (.node 10 (Try.f10) (.node 9 (Try.f9) .leaf .leaf) .leaf) (.node 13 (Try.f13) (.node 12 (Try.f12) .leaf .leaf) .leaf))) (.node 20 (Try.f20) (.node 17 (Try.f17) (.node 16 (Try.f16) (.node 15 (Try.f15) .leaf .leaf) .leaf) (.node 19 (Try.f19) (.node 18 (Try.f18) .leaf .leaf) .leaf)) (.node 23 (Try.f23) (.node 22 (Try.f22) (.node 21 (Try.f21) .leaf .leaf) .leaf) (.node 24 (Try.f24) .leaf .leaf)))) (.node 37 (Try.f37) (.node 31 (Try.f31) (.node 28 (Try.f28) (.node 27 (Try.f27) (.node 26 (Try.f26) .leaf .leaf) .leaf) (.node 30 (Try.f30) (.node 29 (Try.f29) .leaf .leaf) .leaf)) (.node 34 (Try.f34) (.node 33 (Try.f33) (.node 32 (Try.f32) .leaf .leaf) .leaf) (.node 36 (Try.f36) (.node 35 (Try.f35) .leaf .leaf) .leaf))) (.node 43 (Try.f43) (.node 40 (Try.f40) (.node 39 (Try.f39) (.node 38 (Try.f38) .leaf .leaf) .leaf) (.node 42 (Try.f42) (.node 41 (Try.f41) .leaf .leaf) .leaf)) (.node 46 (Try.f46) (.node 45 (Try.f45) (.node 44 (Try.f44) .leaf .leaf) .leaf) (.node 47 (Try.f47) .leaf .leaf))))) (.node 71 (Try.f71) (.node 60 (Try.f60) (.node 54 (Try.f54) (.node 51 (Try.f51) (.node 50 (Try.f50) (.node 49 (Try.f49) .leaf .leaf) .leaf) (.node 53 (Try.f53) (.node 52 (Try.f52) .leaf .leaf) .leaf)) (.node 57 (Try.f57) (.node 56 (Try.f56) (.node 55 (Try.f55) .leaf .leaf) .leaf) (.node 59 (Try.f59) (.node 58 (Try.f58) .leaf .leaf) .leaf))) (.node 66 (Try.f66) (.node 63 (Try.f63) (.node 62 (Try.f62) (.node 61 (Try.f61) .leaf .leaf) .leaf) (.node 65 (Try.f65) (.node 64 (Try.f64) .leaf .leaf) .leaf)) (.node 69 (Try.f69) (.node 68 (Try.f68) (.node 67 (Try.f67) .leaf .leaf) .leaf) (.node 70 (Try.f70) .leaf .leaf)))) (.node 82 (Try.f82) (.node 77 (Try.f77) (.node 74 (Try.f74) (.node 73 (Try.f73) (.node 72 (Try.f72) .leaf .leaf) .leaf) (.node 76 (Try.f76) (.node 75 (Try.f75) .leaf .leaf) .leaf)) (.node 80 (Try.f80) (.node 79 (Try.f79) (.node 78 (Try.f78) .leaf .leaf) .leaf) (.node 81 (Try.f81) .leaf .leaf))) (.node 88 (Try.f88) (.node 85 (Try.f85) (.node 84 (Try.f84) (.node 83 (Try.f83) .leaf .leaf) .leaf) (.node 87 (Try.f87) (.node 86 (Try.f86) .leaf .leaf) .leaf)) (.node 91 (Try.f91) (.node 90 (Try.f90) (.node 89 (Try.f89) .leaf .leaf) .leaf) (.node 92 (Try.f92) .leaf .leaf)))))
theorem qlw : qjh.All fun f fn => Try.prog.funcs[f]? = some fn := (BT.all_node Try.func48 (BT.all_node Try.func25 (BT.all_node Try.func14 (BT.all_node Try.func8 (BT.all_node Try.func5 (BT.all_node Try.func4 (BT.all_node Try.func3 trivial trivial) trivial) (BT.all_node Try.func7 (BT.all_node Try.func6 trivial trivial) trivial)) (BT.all_node Try.func11 (BT.all_node Try.func10 (BT.all_node Try.func9 trivial trivial) trivial) (BT.all_node Try.func13 (BT.all_node Try.func12 trivial trivial) trivial))) (BT.all_node Try.func20 (BT.all_node Try.func17 (BT.all_node Try.func16 (BT.all_node Try.func15 trivial trivial) trivial) (BT.all_node Try.func19 (BT.all_node Try.func18 trivial trivial) trivial)) (BT.all_node Try.func23 (BT.all_node Try.func22 (BT.all_node Try.func21 trivial trivial) trivial) (BT.all_node Try.func24 trivial trivial)))) (BT.all_node Try.func37 (BT.all_node Try.func31 (BT.all_node Try.func28 (BT.all_node Try.func27 (BT.all_node Try.func26 trivial trivial) trivial) (BT.all_node Try.func30 (BT.all_node Try.func29 trivial trivial) trivial)) (BT.all_node Try.func34 (BT.all_node Try.func33 (BT.all_node Try.func32 trivial trivial) trivial) (BT.all_node Try.func36 (BT.all_node Try.func35 trivial trivial) trivial))) (BT.all_node Try.func43 (BT.all_node Try.func40 (BT.all_node Try.func39 (BT.all_node Try.func38 trivial trivial) trivial) (BT.all_node Try.func42 (BT.all_node Try.func41 trivial trivial) trivial)) (BT.all_node Try.func46 (BT.all_node Try.func45 (BT.all_node Try.func44 trivial trivial) trivial) (BT.all_node Try.func47 trivial trivial))))) (BT.all_node Try.func71 (BT.all_node Try.func60 (BT.all_node Try.func54 (BT.all_node Try.func51 (BT.all_node Try.func50 (BT.all_node Try.func49 trivial trivial) trivial) (BT.all_node Try.func53 (BT.all_node Try.func52 trivial trivial) trivial)) (BT.all_node Try.func57 (BT.all_node Try.func56 (BT.all_node Try.func55 trivial trivial) trivial) (BT.all_node Try.func59 (BT.all_node Try.func58 trivial trivial) trivial))) (BT.all_node Try.func66 (BT.all_node Try.func63 (BT.all_node Try.func62 (BT.all_node Try.func61 trivial trivial) trivial) (BT.all_node Try.func65 (BT.all_node Try.func64 trivial trivial) trivial)) (BT.all_node Try.func69 (BT.all_node Try.func68 (BT.all_node Try.func67 trivial trivial) trivial) (BT.all_node Try.func70 trivial trivial)))) (BT.all_node Try.func82 (BT.all_node Try.func77 (BT.all_node Try.func74 (BT.all_node Try.func73 (BT.all_node Try.func72 trivial trivial) trivial) (BT.all_node Try.func76 (BT.all_node Try.func75 trivial trivial) trivial)) (BT.all_node Try.func80 (BT.all_node Try.func79 (BT.all_node Try.func78 trivial trivial) trivial) (BT.all_node Try.func81 trivial trivial))) (BT.all_node Try.func88 (BT.all_node Try.func85 (BT.all_node Try.func84 (BT.all_node Try.func83 trivial trivial) trivial) (BT.all_node Try.func87 (BT.all_node Try.func86 trivial trivial) trivial)) (BT.all_node Try.func91 (BT.all_node Try.func90 (BT.all_node Try.func89 trivial trivial) trivial) (BT.all_node Try.func92 trivial trivial))))))
noncomputable def cfg : Cfg := { P := Try.prog, ty := fun t => qf7.look t, mode := fun f => match qlK.look f with | some m => m | none => .imp, frz := fun f r k => qlQ f r k, mask := fun f r => qga f r qlL, cut := fun f r => qga f r qmb, tup := fun t => ql2.look t, ext := fun f => xG f qbU, known := fun f => (qk2.look f).isSome, dat := fun t => (qma.look t).isSome, inl := fun f => qci f qkm, lift := fun f r => match qga f r qlM with | some l => l | none => [], ems := fun t => (ql9.look t).isSome, ali := fun t => (qme.look t).isSome, wrt := fun t => (ql1.look t).isSome }
theorem zD {fs : List Fact} (hfs : qQ cfg fs) {f : Nat} {args : List AV} {v : AV} (m d : Nat) (h : (match yF cfg (fun f => qjh.look f) fs m d (.f f) args [] with | some r => some r.1 | none => none) = some v) : EVs (EV cfg) f args = some v := ql7 (fun _ _ h => BT.all_look qlw h) hfs m d h
theorem qcl {fs : List Fact} (hfs : qQ cfg fs) {f : Nat} {args : List AV} {v : AV} (m d : Nat) (h : (match yF cfg (fun f => qjh.look f) fs m d (.f f) args [] with | some r => gA (r.1.frz r.1.msIds r.2).fg some | none => none) = some v) : EVf (EV cfg) f args = some v := ql8 (fun _ _ h => BT.all_look qlw h) hfs m d h
instance inl_ok : InlOk cfg := InlOk.of qkm (fun _ => rfl) ⟨⟨rfl, rfl, Try.func33, rfl⟩, ⟨⟨rfl, rfl, Try.func47, rfl⟩, ⟨⟨rfl, rfl, Try.func48, rfl⟩, ⟨⟨rfl, rfl, Try.func58, rfl⟩, ⟨⟨rfl, rfl, Try.func68, rfl⟩, ⟨⟨rfl, rfl, Try.func82, rfl⟩, ⟨⟨rfl, rfl, Try.func88, rfl⟩, trivial⟩⟩⟩⟩⟩⟩⟩
end Go.Proofs.Ytjiecipfkjaooaa
end
section
namespace Go.Av
def cmpS (a b : List UInt8) : Int := if a == b then 0 else if Op.bytesLess a b then -1 else 1
theorem qag : ∀ a b : List UInt8, Lib.compareBytes a b = cmpS a b
 | [], [] => rfl
 | [], _ :: _ => by simp [Lib.compareBytes, cmpS, Op.bytesLess]
 | _ :: _, [] => by simp [Lib.compareBytes, cmpS, Op.bytesLess]
 | a :: l, b :: m => by
  rw [Lib.compareBytes, qag l m]
  unfold cmpS
  by_cases h : a = b
  ·subst h
   have : ¬ a < a := by simp
   by_cases h2 : l = m
   ·subst h2; simp
   ·simp [Op.bytesLess, h2]
  ·have h' : (a :: l == b :: m) = false := by simp [h]
   rw [h']
   simp only [qnu, if_false, Op.bytesLess]
   by_cases hlt : a < b
   ·simp [hlt]
   ·have : b < a := by
     have h1 : ¬ a.toNat < b.toNat := hlt
     have h2 : a.toNat ≠ b.toNat := fun e => h (UInt8.toNat.inj e)
     show b.toNat < a.toNat
     omega
    simp [hlt, this, h]
theorem qha [Lent] {P : Program} {f : FuncId} {fn : Func} (hf : P.funcs[f]? = some fn) (hn : (fn.name == "runtime.NumGoroutine") = false) (hb : fn.body.isNone = true) (hx : Extern.findNext fn = none)
  (he : Extern.find fn = some Extern.BytealgCompare.compare) {args : List AV} {H H' : AH} {r : AV} (hr : qew args H = some (r, H')) {C : qc} {μ : MMap} {w : World} {vs : Array Value} (ha : qg C μ args vs) (hw : Wld C μ H w) :
  qP P (callFunc f vs) w (q7 C μ H w r H') := by
 unfold qew at hr
 split at hr
 ·rename_i H0 a b
  cases hr
  obtain ⟨hl, hv⟩ := ha
  obtain ⟨x, y, rfl⟩ : ∃ x y, vs = #[x, y] := by
   obtain ⟨l⟩ := vs
   match l, hl with
   | [x, y], _ => exact ⟨x, y, rfl⟩
  have h0 := hv 0 _ _ rfl rfl
  have h1 := hv 1 _ _ rfl rfl
  cases h0
  cases h1
  have hrun : (callFunc f #[.string ⟨a.toArray⟩, .string ⟨b.toArray⟩]).run P w = .ok (.value (.int .i64 (cmpS a b))) w := by
   unfold callFunc
   simp only [Sem.run_bind, run_program, Result.andThen_ok, hf, hn, hb, qnu, if_false, if_true, run_mark, hx, he, Lib.run_compareString, Sem.run_pure]
   rw [qag]
  unfold qP
  rw [hrun]
  exact ⟨C, μ, .int _ _, hw, Ext.refl (qnp _)⟩
 ·cases hr
end Go.Av
namespace Go.Proofs.Ytjiecipfkjaooaa
open Go.Av
theorem qjG : qf7.All fun t ti => tiOf Try.prog t = some ti := by
 unfold qf7
 repeat (first | exact trivial | refine BT.all_node (by show tiOf Try.prog _ = _; kernel_rfl) ?_ ?_)
theorem qkY : Try.prog.funcs.toList.all (fun fn => !(fn.name == "runtime.NumGoroutine")) = true := by kernel_rfl
theorem qgG : Try.prog.follows .mixedOrders = true := by kernel_rfl
end Go.Proofs.Ytjiecipfkjaooaa
end
section
namespace Go.Av
abbrev Rz := List (List AV)
abbrev Bz := List UInt8
inductive Tm where
 | mk (k n : Int) (s : List UInt8) (l : List Tm)
 deriving Inhabited
namespace Tm
def kind : Tm → Int | mk k _ _ _ => k
def num : Tm → Int | mk _ n _ _ => n
def str : Tm → List UInt8 | mk _ _ s _ => s
def subs : Tm → List Tm | mk _ _ _ l => l
end Tm
mutual
def Tm.cells : Tm → List AV
 | .mk k n s l => [.int .i64 k, .int .i64 n, .str s, .sl (qa l)]
def qa : List Tm → List (List AV)
 | [] => []
 | t :: l => t.cells :: qa l
end
def Tm.av (t : Tm) : AV := .agg t.cells
theorem Tm.cells_mk (k n : Int) (s : List UInt8) (l : List Tm) : (Tm.mk k n s l).cells = [.int .i64 k, .int .i64 n, .str s, .sl (qa l)] := by rw [Tm.cells]
theorem Tm.av_mk (k n : Int) (s : List UInt8) (l : List Tm) : (Tm.mk k n s l).av = .agg [.int .i64 k, .int .i64 n, .str s, .sl (qa l)] := by rw [Tm.av, Tm.cells_mk]
theorem xN : ∀ l : List Tm, qa l = l.map Tm.cells
 | [] => by rw [qa]; rfl
 | t :: l => by rw [qa, xN l]; rfl
@[simp] theorem qj (l : List Tm) : (qa l).length = l.length := by rw [xN]; simp
@[simp] theorem vT : qa [] = [] := by rw [qa]
theorem vp (t : Tm) (l : List Tm) : qa (t :: l) = t.cells :: qa l := by rw [qa]
theorem yD (a b : List Tm) : qa (a ++ b) = qa a ++ qa b := by simp [xN]
theorem qiI (n : Nat) (a : List Tm) : (qa a).take n = qa (a.take n) := by simp [xN, List.map_take]
theorem qiJ (n : Nat) (a : List Tm) : (qa a).drop n = qa (a.drop n) := by simp [xN, List.map_drop]
theorem ze (l : List Tm) (i : Nat) : (qa l)[i]? = (l[i]?).map Tm.cells := by rw [xN]; simp
theorem qjO (l : List Tm) (i : Nat) (t : Tm) : (qa l).set i t.cells = qa (l.set i t) := by simp [xN, List.map_set]
theorem qeH (t : Tm) : qe 0 t.cells = true := by
 obtain ⟨k, n, s, l⟩ := t
 rw [Tm.cells_mk]; rfl
theorem qdL (l : List Tm) : qi 0 (qa l) = true := by
 induction l with
 | nil => rw [qa]; rfl
 | cons t l ih => rw [qa, qi, ih, qeH]; rfl
mutual
/-- no list is longer than is counted here, no text -/
def Tm.Ok : Tm → Prop
 | .mk _ _ s l => s.length < 1099511627776 ∧ l.length < 1099511627776 ∧ OkL l
def OkL : List Tm → Prop
 | [] => True
 | t :: l => t.Ok ∧ OkL l
end
theorem qco {l : List Tm} : OkL l ↔ ∀ t ∈ l, t.Ok := by
 induction l with
 | nil => simp [OkL]
 | cons t l ih => simp [OkL, ih]
theorem Tm.Ok.str {k n : Int} {s : List UInt8} {l : List Tm} (h : (Tm.mk k n s l).Ok) : s.length < 1099511627776 := by rw [Tm.Ok] at h; exact h.1
theorem Tm.Ok.len {k n : Int} {s : List UInt8} {l : List Tm} (h : (Tm.mk k n s l).Ok) : l.length < 1099511627776 := by rw [Tm.Ok] at h; exact h.2.1
theorem Tm.Ok.sub {k n : Int} {s : List UInt8} {l : List Tm} (h : (Tm.mk k n s l).Ok) {t : Tm} (ht : t ∈ l) : t.Ok := by rw [Tm.Ok] at h; exact qco.1 h.2.2 t ht
theorem OkL.get {l : List Tm} (h : OkL l) {t : Tm} (ht : t ∈ l) : t.Ok := qco.1 h t ht
theorem Tm.ind {P : Tm → Prop} (h : ∀ k n s l, (∀ t ∈ l, P t) → P (.mk k n s l)) : ∀ t, P t
 | .mk k n s l => h k n s l (fun t _ => Tm.ind h t)
theorem vS {x : Int} (h1 : -9223372036854775808 ≤ x) (h2 : x < 9223372036854775808) : IntKind.wrap .i64 x = x := by
 simp [IntKind.wrap, IntKind.bits, IntKind.signed]; omega
theorem qS {i n : Nat} (h : i < n) (hn : n < 1099511627776) : IntKind.wrap .i64 ((i : Int) + 1) = ((i + 1 : Nat) : Int) := by
 rw [vS (by omega) (by omega)]; rfl
theorem qH (i : Nat) : ql 0 (i : Int) = true := by simp [ql]
theorem q5 (i n : Nat) : qA (i : Int) (n : Int) = decide (i < n) := by simp [qA]
def kTmC {α : Type} (l : List AV) (k : Int → Int → List UInt8 → List (List AV) → Option α) : Option α :=
 qM l fun c cs => kInt .i64 c fun n => qM cs fun c cs => kInt .i64 c fun m => qM cs fun c cs => kStr c fun s => qM cs fun c cs => kSl c fun A => kNil cs (k n m s A)
def kTmV {α : Type} (v : AV) (k : Int → Int → List UInt8 → List (List AV) → Option α) : Option α := kAgg v fun cs => kTmC cs k
theorem yV {α : Type} {l : List Tm} {i : Nat} {t : Tm} (h : l[i]? = some t) (k : List AV → Option α) : kOpt (qnv (qa l) (Int.toNat (i : Int))) k = k t.cells := by
 rw [qB, Int.toNat_natCast, ze, h]; rfl
mutual
def Tm.w : Tm → Nat
 | .mk _ _ s l => 1 + s.length + wL l
def wL : List Tm → Nat
 | [] => 0
 | t :: l => t.w + wL l
end
theorem Tm.w_mk (k n : Int) (s : List UInt8) (l : List Tm) : (Tm.mk k n s l).w = 1 + s.length + wL l := by rw [Tm.w]
theorem Tm.w_eq (t : Tm) : t.w = 1 + t.str.length + wL t.subs := by cases t; rw [Tm.w_mk]; rfl
@[simp] theorem qjF : wL [] = 0 := by rw [wL]
@[simp] theorem zG (t : Tm) (l : List Tm) : wL (t :: l) = t.w + wL l := by rw [wL]
@[simp] theorem qbs (a b : List Tm) : wL (a ++ b) = wL a + wL b := by
 induction a with
 | nil => simp
 | cons t l ih => simp [ih]; omega
theorem qiB (t : Tm) : 1 ≤ t.w := by rw [Tm.w_eq]; omega
theorem zN {t : Tm} {l : List Tm} (h : t ∈ l) : t.w ≤ wL l := by
 induction l with
 | nil => cases h
 | cons x l ih =>
  rw [zG]
  rcases qnE.1 h with rfl | h
  ·omega
  ·have := ih h; omega
theorem xy (l : List Tm) : l.length ≤ wL l := by
 induction l with
 | nil => simp
 | cons x l ih => have := qiB x; simp; omega
theorem qcd (t : Tm) : t.w < 1099511627776 → t.Ok := by
 induction t using Tm.ind with
 | _ k n s l ih =>
  intro h
  rw [Tm.w_mk] at h
  rw [Tm.Ok]
  have := xy l
  exact ⟨by omega, by omega, qco.2 fun t ht => ih t ht (by have := zN ht; omega)⟩
theorem qkX {l : List Tm} (h : wL l < 1099511627776) : OkL l := qco.2 fun t ht => qcd t (by have := zN ht; omega)
theorem qjE (l : List Tm) : wL l.reverse = wL l := by
 induction l with
 | nil => rfl
 | cons x l ih => simp [ih]; omega
end Go.Av
end
section
namespace Go.Proofs.Ytjiecipfkjaooaa
open Go.Av
def C0 (W : World) : qc := fun b o => W.cell? ⟨b, o, none⟩
def M0 : MMap := fun _ => none
theorem wld0 (W : World) : Wld (C0 W) M0 [] W where
 cl := fun _ _ _ h => h
 dom := fun id m h => by cases h
 res := fun id h => by simp at h
 live := fun id b h => by simp at h
 froz := fun id d sz rs h => by simp at h
 inj := fun i i' b b' m m' h => by simp at h
 free := yc.nil
 lnt := ⟨fun _ _ _ h => (by cases h), fun h => h.elim, fun _ _ => trivial⟩
structure TermTys (P : Program) (tT tL tI tS : TypeId) : Prop where
 uT : ∃ f0 f1 f2 f3 : Field, P.underlying tT = some (.struct #[f0, f1, f2, f3]) ∧ f0.type = tI ∧ f0.offset = 0 ∧ f1.type = tI ∧ f1.offset = 1 ∧ f2.type = tS ∧ f2.offset = 2 ∧ f3.type = tL ∧ f3.offset = 3
 uL : P.underlying tL = some (.slice tT)
 uI : P.underlying tI = some (.int .i64)
 uS : P.underlying tS = some .string
 cT : P.cellsOf tT = 4
 cL : P.cellsOf tL = 1
 cI : P.cellsOf tI = 1
 cS : P.cellsOf tS = 1
section
variable {H : Type} {enc : TypeId × Value → H} {P : Program} {W : World} {tT tL tI tS : TypeId}
def qdm (W : World) (cs : List Value) (t : Tm) : Prop := cs.length = 4 ∧ ∀ (j : Nat) a v, t.cells[j]? = some a → cs[j]? = some v → a.isCell = true ∧ Rep (C0 W) M0 a v
theorem yh {base : Nat} {a : Addr} {n : Nat} {cs : List Value} (h : W.cells? base a n = some cs) (hn : 0 < n) : a.spot = none ∧ cs.length = n ∧ ∀ (j : Nat) v, cs[j]? = some v → W.cell? ⟨a.block, a.off + j, none⟩ = some v := by
 unfold World.cells? at h
 split at h
 ·have hl : cs.length = n := by simpa using mapM_some_length h
  have hg : ∀ (j : Nat), j < n → W.cell? (a.add j) = cs[j]? := fun j hj => mapM_some_get h j j (by simp [hj])
  have hsp : a.spot = none := by
   have h0 := hg 0 hn
   rw [qnm (by omega)] at h0
   cases hs : a.spot with
   | none => rfl
   | some s =>
    simp only [World.cell?, Addr.add, if_pos, hs] at h0
    split at h0
    ·simp at h0
    ·cases h0
  refine ⟨hsp, hl, fun j v hv => ?_⟩
  have hj : j < n := by rw [← hl]; exact (qnj.1 hv).1
  have := hg j hj
  rw [hv] at this
  rw [vK _ _ hsp] at this
  exact this
 ·cases h
theorem qfM {H : Type} {d : DataW H} {l : List (DataW H)} (h : d ∈ l) : Rows.uptoBulk d ≤ Rows.uptoBulkAll l := by
 induction l with
 | nil => cases h
 | cons x r ih =>
  simp only [Rows.uptoBulkAll]
  cases qnE.1 h with
  | inl e => subst e; omega
  | inr e => have := ih e; omega
theorem qeI {H : Type} : ∀ (l : List Tm) (ds : List (DataW H)), l.length = ds.length → (∀ (i : Nat) t d, l[i]? = some t → ds[i]? = some d → t.w ≤ Rows.uptoBulk d) → wL l ≤ Rows.uptoBulkAll ds
 | [], [], _, _ => by simp [Rows.uptoBulkAll]
 | t :: l, d :: ds, hl, h => by
  have h0 := h 0 t d rfl rfl
  have := qeI l ds (by simpa using hl) (fun i t d ht hd => h (i + 1) t d (by simpa using ht) (by simpa using hd))
  simp only [zG, Rows.uptoBulkAll]
  omega
theorem qj8 (T : TermTys P tT tL tI tS) : ∀ (n : Nat),
  (∀ cs x, DataW.trod enc P W 0 (fun _ => true) true n tT cs = some x → ∃ t : Tm, qdm W cs t ∧ t.w ≤ Rows.uptoBulk x.1 ∧
   ∀ (W' : World) (sp : Nat → Bool), (∀ p ∈ x.2, W.sameAt W' p) → (∀ p ∈ x.2, sp p.block = true) → DataW.trod enc P W' 0 sp true n tT cs = some x) ∧
  (∀ cs x, DataW.trod enc P W 0 (fun _ => true) true n tL cs = some x → ∃ (l : List Tm) (v : Value), cs = [v] ∧ Rep (C0 W) M0 (.sl (qa l)) v ∧ wL l ≤ Rows.uptoBulk x.1 ∧
   ∀ (W' : World) (sp : Nat → Bool), (∀ p ∈ x.2, W.sameAt W' p) → (∀ p ∈ x.2, sp p.block = true) → DataW.trod enc P W' 0 sp true n tL cs = some x) := by
 intro n
 induction n with
 | zero => exact ⟨fun cs x h => by simp [DataW.trod] at h, fun cs x h => by simp [DataW.trod] at h⟩
 | succ n ih =>
  obtain ⟨ihT, ihL⟩ := ih
  refine ⟨fun cs x h => ?_, fun cs x h => ?_⟩
  ·obtain ⟨f0, f1, f2, f3, hu, t0, o0, t1, o1, t2, o2, t3, o3⟩ := T.uT
   obtain ⟨xs, n', e, rfl, hl, hxl, hx⟩ := DataW.trod_struct hu h
   obtain rfl : n' = n := by omega
   rw [T.cT] at hl
   obtain ⟨c0, c1, c2, c3, rfl⟩ : ∃ c0 c1 c2 c3, cs = [c0, c1, c2, c3] := by
    match cs, hl with
    | [a, b, c, d], _ => exact ⟨a, b, c, d, rfl⟩
   obtain ⟨x0, x1, x2, x3, rfl⟩ : ∃ c0 c1 c2 c3, xs = [c0, c1, c2, c3] := by
    match xs, hxl with
    | [a, b, c, d], _ => exact ⟨a, b, c, d, rfl⟩
   have h0 := hx 0 f0 rfl
   have h1 := hx 1 f1 rfl
   have h2 := hx 2 f2 rfl
   have h3 := hx 3 f3 rfl
   rw [t0, o0, T.cI] at h0
   rw [t1, o1, T.cI] at h1
   rw [t2, o2, T.cS] at h2
   rw [t3, o3, T.cL] at h3
   simp at h0 h1 h2 h3
   obtain ⟨k, e0, rfl, w0⟩ := DataW.trod_int T.uI h0
   obtain ⟨m, e1, rfl, w1⟩ := DataW.trod_int T.uI h1
   obtain ⟨s, e2, rfl, w2⟩ := DataW.trod_string T.uS h2
   obtain ⟨l, v, e3, hr, hb, hback⟩ := ihL _ _ h3
   simp at e0 e1 e2 e3
   subst e0 e1 e2 e3
   refine ⟨.mk k m s.data.toList l, ⟨rfl, fun j a u ha hu => ?_⟩, ?_, fun W' sp hs hp => ?_⟩
   ·rw [Tm.cells_mk] at ha
    match j, ha, hu with
    | 0, ha, hu => simp at ha hu; subst ha hu; exact ⟨rfl, .int _ _⟩
    | 1, ha, hu => simp at ha hu; subst ha hu; exact ⟨rfl, .int _ _⟩
    | 2, ha, hu =>
     simp at ha hu; subst ha hu
     refine ⟨rfl, ?_⟩
     have := Rep.str (C := C0 W) (μ := M0) s.data.toList
     simpa using this
    | 3, ha, hu => simp at ha hu; subst ha hu; exact ⟨rfl, hr⟩
    | (j + 4), ha, hu => simp at ha
   ·simp only [List.map_cons, List.map_nil, Rows.uptoBulk, Rows.uptoBulkAll]
    rw [Tm.w_mk]
    omega
   ·have hs3 : ∀ p ∈ x3.2, W.sameAt W' p := fun p hp => hs p (by simp [hp])
    have hp3 : ∀ p ∈ x3.2, sp p.block = true := fun p hpp => hp p (by simp [hpp])
    have b3 := hback W' sp hs3 hp3
    have b0 : DataW.trod enc P W' 0 sp true n' tI [Value.int .i64 k] = some (.lit (.int .i64 k), []) := by
     cases n' with
     | zero => simp [DataW.trod] at h0
     | succ q => simp [DataW.trod, T.uI, w0]
    have b1 : DataW.trod enc P W' 0 sp true n' tI [Value.int .i64 m] = some (.lit (.int .i64 m), []) := by
     cases n' with
     | zero => simp [DataW.trod] at h0
     | succ q => simp [DataW.trod, T.uI, w1]
    have b2 : DataW.trod enc P W' 0 sp true n' tS [Value.string s] = some (.lit (.string s.data.toList), []) := by
     cases n' with
     | zero => simp [DataW.trod] at h0
     | succ q => simp [DataW.trod, T.uS, w2]
    unfold DataW.trod
    rw [hu]
    simp [T.cT, t0, o0, t1, o1, t2, o2, t3, o3, T.cI, T.cS, T.cL, b0, b1, b2, b3]
  ·rcases DataW.trod_slice T.uL h with ⟨rfl, rfl⟩ | ⟨a, len, cap, elems, rest, n', e, rfl, rfl, hb, hlc, hmx, hel, hg, hsp, _⟩
   ·refine ⟨[], _, rfl, by rw [vT]; exact .slNil, by simp, fun W' sp _ _ => ?_⟩
    simp [DataW.trod, T.uL]
   ·obtain rfl : n' = n := by omega
    obtain ⟨hrl, hrg⟩ := hsp rfl
    have one : ∀ (i : Nat) (y : DataW H × List MemPlace), (W.cells? 0 (a.add (i * P.cellsOf tT)) (P.cellsOf tT)).bind (DataW.trod enc P W 0 (fun _ => true) true n' tT) = some y →
      ∃ cs', W.cells? 0 (a.add (i * 4)) 4 = some cs' ∧ DataW.trod enc P W 0 (fun _ => true) true n' tT cs' = some y := by
     intro i y hy
     rw [T.cT] at hy
     exact qnk.1 hy
    -- the terms
    have tms : ∃ f : Nat → Tm, ∀ (i : Nat) y, elems[i]? = some y → ∃ cs', W.cells? 0 (a.add (i * 4)) 4 = some cs' ∧ qdm W cs' (f i) ∧ (f i).w ≤ Rows.uptoBulk y.1 := by
     have : ∀ i : Nat, ∃ t : Tm, ∀ y, elems[i]? = some y → ∃ cs', W.cells? 0 (a.add (i * 4)) 4 = some cs' ∧ qdm W cs' t ∧ t.w ≤ Rows.uptoBulk y.1 := by
      intro i
      cases hy : elems[i]? with
      | none => exact ⟨default, fun y h => by cases h⟩
      | some y =>
       have hi : i < len := by rw [← hel]; exact (qnj.1 hy).1
       obtain ⟨cs', h1, h2⟩ := one i y ((hg i hi).trans hy)
       obtain ⟨t, h3, h4, _⟩ := ihT _ _ h2
       exact ⟨t, fun y' hy' => by cases hy'; exact ⟨cs', h1, h3, h4⟩⟩
     exact ⟨fun i => Classical.choose (this i), fun i => Classical.choose_spec (this i)⟩
    obtain ⟨f, hf⟩ := tms
    have hget : ∀ (i : Nat) (row : List AV), (qa ((List.range len).map f))[i]? = some row → i < len ∧ row = (f i).cells := by
     intro i row hi
     have hil : i < len := by have := (qnj.1 hi).1; simpa using this
     refine ⟨hil, ?_⟩
     rw [ze, List.getElem?_map, List.getElem?_range hil] at hi
     simpa using hi.symm
    have hcell : ∀ (i j : Nat) (row : List AV) x, (qa ((List.range len).map f))[i]? = some row → row[j]? = some x → a.spot = none ∧ x.isCell = true ∧ ∃ v, W.cell? ⟨a.block, a.off + i * 4 + j, none⟩ = some v ∧ Rep (C0 W) M0 x v := by
     intro i j row x hi hj
     obtain ⟨hil, rfl⟩ := hget i row hi
     obtain ⟨cs', h1, h2, _⟩ := hf i _ (qnm (by omega))
     obtain ⟨s1, s2, s3⟩ := yh h1 (by omega)
     have hspot : a.spot = none := by
      obtain ⟨cs0, q1, _⟩ := hf 0 _ (qnm (by omega))
      have := (yh q1 (by omega)).1
      simpa [Addr.add] using this
     have hjl : j < cs'.length := by
      rw [h2.1]
      have := (qnj.1 hj).1
      cases hfi : f i with
      | mk k n s l => rw [hfi, Tm.cells_mk] at this; simpa using this
     have h4 := h2.2 j x _ hj (qnm hjl)
     refine ⟨hspot, h4.1, _, ?_, h4.2⟩
     have := s3 j _ (qnm hjl)
     rw [vK _ _ hspot] at this
     exact this
    refine ⟨(List.range len).map f, _, rfl, ?_, ?_, fun W' sp hs hp => ?_⟩
    ·have := Rep.sl (C := C0 W) (μ := M0) (qa ((List.range len).map f)) a cap 4 (fun i j => (W.cell? ⟨a.block, a.off + i * 4 + j, none⟩).getD undef) (fun hne => ?_) (fun i row hi => ?_) (fun i j row x hi hj => ?_) (fun i j row x hi hj => ?_) (fun i j row x hi hj => ?_) (by simpa using hlc) (qdL _)
     ·simpa using this
     ·have hl0 : 0 < len := by
       rcases Nat.eq_zero_or_pos len with h0 | h0
       ·subst h0; exact absurd (by simp) hne
       ·exact h0
      obtain ⟨cs0, q1, _⟩ := hf 0 _ (qnm (by omega))
      have := (yh q1 (by omega)).1
      simpa [Addr.add] using this
     ·obtain ⟨_, rfl⟩ := hget i row hi
      cases hfi : f i with
      | mk k n s l => rw [Tm.cells_mk]; rfl
     ·obtain ⟨_, _, v, h1, _⟩ := hcell i j row x hi hj
      show W.cell? _ = _
      rw [h1]; rfl
     ·obtain ⟨_, _, v, h1, h2⟩ := hcell i j row x hi hj
      rw [h1]; exact h2
     ·exact (hcell i j row x hi hj).2.1
    ·simp only [Rows.uptoBulk]
     have := qeI ((List.range len).map f) (elems.map (·.1)) (by simp [hel]) (fun i t d ht hd => by
      rw [List.getElem?_map] at ht hd
      obtain ⟨j, hj, rfl⟩ := qnl.1 ht
      obtain ⟨y, hy, rfl⟩ := qnl.1 hd
      have hil : i < len := by have := (qnj.1 hj).1; simpa using this
      rw [List.getElem?_range hil] at hj
      cases hj
      obtain ⟨_, _, _, h4⟩ := hf i y hy
      exact h4)
     omega
    ·have hrow : 0 < (elems.length + rest.length) → sp a.block = true := fun hpos => hp (.cell a.block (a.off + 0)) (by
      rw [qnC]
      exact .inl (MemPlace.mem_row.2 ⟨0, Nat.mul_pos hpos (by rw [T.cT]; omega), rfl⟩))
     unfold DataW.trod at h ⊢
     rw [T.uL] at h ⊢
     simp only [if_true] at h ⊢
     rw [if_pos ⟨hb, hlc, hmx⟩] at h ⊢
     simp only [qnl, qnk] at h ⊢
     obtain ⟨elems', he, rest', hr, hx⟩ := h
     have hlen : elems'.length = len := by simpa using mapM_some_length he
     have hrl' : rest'.length = cap - len := by simpa using mapM_some_length hr
     simp only [Prod.mk.injEq, DataW.slice.injEq] at hx
     have one' : ∀ (i : Nat) (y : DataW H × List MemPlace), i < elems'.length + rest'.length → y ∈ elems' ++ rest' →
       (W.cells? 0 (a.add (i * P.cellsOf tT)) (P.cellsOf tT)).bind (DataW.trod enc P W 0 (fun _ => true) true n' tT) = some y → (W'.cells? 0 (a.add (i * P.cellsOf tT)) (P.cellsOf tT)).bind (DataW.trod enc P W' 0 sp true n' tT) = some y := by
      intro i y hi hy hv
      simp only [qnk] at hv ⊢
      obtain ⟨cs', hc', hy'⟩ := hv
      obtain ⟨_, _, _, hbk⟩ := ihT _ _ hy'
      refine ⟨cs', World.cells?_carry hc' (fun p hpp => hs p ?_), hbk W' sp (fun p hpp => hs p ?_) (fun p hpp => hp p ?_)⟩
      ·rw [← hx.2]
       obtain ⟨j, hj, rfl⟩ := MemPlace.mem_row.1 hpp
       simp only [qnC]
       left
       refine MemPlace.mem_row.2 ⟨i * P.cellsOf tT + j, ?_, ?_⟩
       ·calc i * P.cellsOf tT + j < i * P.cellsOf tT + P.cellsOf tT := by omega
         _ = (i + 1) * P.cellsOf tT := by rw [qnG, Nat.one_mul]
         _ ≤ (elems'.length + rest'.length) * P.cellsOf tT := qnx _ hi
       ·unfold Addr.add
        split
        ·rename_i h0
         simp [h0]
        ·simp [qnD]
      ·rw [← hx.2]
       simp only [qnC, List.mem_flatMap]
       right
       exact ⟨y, by simpa using hy, hpp⟩
      ·rw [← hx.2]
       simp only [qnC, List.mem_flatMap]
       right
       exact ⟨y, by simpa using hy, hpp⟩
     refine ⟨elems', mapM_carry he (fun i y hi hy => one' i y (by have : i < len := (by simpa using hi); omega) (by simp [hy])), rest', ?_, by simp only [Prod.mk.injEq, DataW.slice.injEq]; exact hx⟩
     by_cases h0 : 0 < elems.length + rest.length
     ·rw [if_pos (hrow h0)]
      exact mapM_carry hr (fun j y hj hy => one' (len + j) y (by have : j < cap - len := (by simpa using hj); omega) (by simp [hy]))
     ·have hc0 : cap - len = 0 := by omega
      rw [hc0] at hr ⊢
      simp at hr
      subst hr
      split <;> rfl
end
end Go.Proofs.Ytjiecipfkjaooaa
end
section
namespace Go.Proofs.Ytjiecipfkjaooaa
open Go.Av Go.ChangeShapes Go.WideShapes Go.ChangeAt Go.RowKit
theorem qkU : ownKnob Try.prog.godebug = none := by kernel_rfl
theorem qkL : TermTys Try.prog 24 22 3 9 where
 uT := ⟨_, _, _, _, Try.underlying24, rfl, rfl, rfl, rfl, rfl, rfl, rfl, rfl⟩
 uL := Try.underlying22
 uI := Try.underlying3
 uS := Try.underlying9
 cT := by kernel_rfl
 cL := by kernel_rfl
 cI := by kernel_rfl
 cS := by kernel_rfl
theorem qgE (f : FuncId) (fn : Func) (h : Try.prog.funcs[f]? = some fn) : (fn.name == "runtime.NumGoroutine") = false := by
 have h1 := List.all_eq_true.1 qkY fn (by
  rw [← Array.getElem?_toList] at h
  exact qnA h)
 simpa using h1
theorem qkt [Lent] {args : List AV} {H H' : AH} {r : AV} {C : qc} {μ : MMap} {w : World} {vs : Array Value} (hr : qew args H = some (r, H')) (ha : qg C μ args vs) (hw : Wld C μ H w) :
  qP Try.prog (callFunc 93 vs) w (q7 C μ H w r H') :=
 qha (P := Try.prog) Try.func93 (by rfl) (by rfl) (by kernel_rfl) (by kernel_rfl) hr ha hw
theorem qmc [Lent] : CfgOk cfg where
  ty := ⟨fun t ti h => BT.all_look qjG h⟩
  mixed := qgG
  named := fun f fn _ h => qgE f fn h
  ext := fun f s h args H r H' hr C μ w vs ha hw => by
    have h : xG f qbU = some s := h
    unfold qbU at h
    rw [xG] at h
    split at h
    · rename_i e
      have e := qno e
      subst e
      cases h
      exact qkt hr ha hw
    · rw [qev] at h
      first
        | (rw [xG] at h; cases h; done)
        | (have okK : CfgOk K.cfg := {
             ty := ⟨fun t ti h => BT.all_look (show K.qf7.All _ from qjG) h⟩
             mixed := qgG
             named := fun f fn _ h => qgE f fn h
             ext := fun f s h args H r H' hr C μ w vs ha hw => by
               have h : K.xG f K.qbU = some s := h
               unfold K.qbU at h
               rw [K.xG] at h
               split at h
               · rename_i e
                 have e := qno e
                 subst e
                 cases h
                 exact qkt hr ha hw
               · rw [K.qev, K.xG] at h
                 cases h }
           rw [xG] at h
           split at h
           · rename_i e
             have e := qno e
             subst e
             cases h
             exact (qht okK).calls _ _ _ _ _ hr C μ w vs _ ha hw rfl
           · rw [xG] at h
             cases h)
theorem qjQ {f : FuncId} {args : List AV} {vs : Array Value} {W : World} (hx : cfg.ext f = none) (he : EVs (EV cfg) f args = some (.bool true)) (ha : qg (C0 W) M0 args vs) :
  Calls Try.prog f vs W fun e W' => e = .returned (.bool true) ∧ (∀ b, b < W.heap.size → W'.heap[b]? = W.heap[b]?) ∧ W.heap.size ≤ W'.heap.size ∧ W'.os = W.os ∧ W'.output = W.output := by
 unfold EVs at he
 obtain ⟨q, h1, h2⟩ := qnl.1 he
 have := qln qmc hx (r := q.1) (H' := q.2) h1 ha (wld0 W)
 refine this.mono fun e W' ⟨v, hv, C', μ', p1, p2, p3⟩ => ?_
 rw [h2] at p1
 cases p1
 refine ⟨hv, fun b hb => (p3.fr b hb vN).1, p3.size, p3.os, p3.output⟩
section
variable {H : Type} {enc : TypeId × Value → H} {P : Program} {W W' : World}
theorem qj1 {f : Func} {s : ChangeSpec} {apart fresh handsOn again : Bool} {args : Array Value} {v : Value} {ds gs : List (DataW H)} {before pa pv : List MemPlace}
  (hW : DataW.Whole enc P f.params.toList s.vars apart W args.toList ds gs before)
  (hres : ∀ (b : Nat) (sp : Nat → Bool) (hd : Bool), DataW.TrodAll enc P W' b sp hd f.resultTypes.toList (v.resultList f.resultTypes.size) (s.fn H (ds ++ gs)).results [])
  (hargs : ∀ sp : Nat → Bool, (∀ p ∈ before, sp p.block = true) → DataW.TrodAll enc P W' 0 sp true f.params.toList args.toList (s.fn H (ds ++ gs)).args pa)
  (hvars : ∀ sp : Nat → Bool, (∀ p ∈ before, sp p.block = true) → DataW.TrodVars enc P W' sp s.vars (s.fn H (ds ++ gs)).vars pv)
  (hps : before = pa ++ pv) (hk : W.keptBut W' (· ∈ before)) (hfz : ∀ b o, b < W.heap.size → W'.frozen? ⟨b, o, none⟩ = W.frozen? ⟨b, o, none⟩)
  (hok : ∀ (j : Nat) (t : TypeId) (r : Value), f.resultTypes[j]? = some t → (v.resultList f.resultTypes.size)[j]? = some r → Value.okWide P W' .any 0 t r) :
  s.post enc P f apart fresh handsOn again W args v W' := by
 have hlt := hW.lt
 have hold : ∀ p ∈ before, (fun b => decide (b < W.heap.size)) p.block = true := fun p hp => by simpa using hlt p hp
 refine ⟨ds, gs, before, [], pa, pv, hW, hres _ _ _, hargs _ hold, hvars _ hold, World.keptBut_mono (fun p hp => ⟨hp, ?_⟩) hk, fun _ => ?_⟩
 ·rw [hps, qnC] at hp
  exact Or.inr hp
 ·obtain ⟨_, _, _, _, _, hz, hn⟩ := hW
  refine ⟨hok, _, _, ([] ++ pa) ++ pv, ⟨[] ++ pa, pv, trodAll_append (hargs _ (fun _ _ => rfl)) (hres _ _ _), hvars _ (fun _ _ => rfl), rfl, ?_, ?_⟩, ?_⟩
  ·intro b off hp
   have hp' : MemPlace.cell b off ∈ before := by rw [hps]; simpa using hp
   rw [hfz b off (hlt _ hp')]
   exact hz b off hp'
  ·intro ha
   have := hn ha
   rw [hps] at this
   simpa using this
  ·intro p hp _
   rw [hps]
   simpa using hp
theorem qgK (h : ∀ b, b < W.heap.size → W'.heap[b]? = W.heap[b]?) (ho : W'.os = W.os) (hu : W'.output = W.output) (may : MemPlace → Prop) : W.keptBut W' may := by
 refine ⟨ho, hu, fun i hi => ?_⟩
 rw [h i hi]
 cases W.heap[i]? with
 | none => rfl
 | some o => cases o <;> simp
theorem zP (h : ∀ b, b < W.heap.size → W'.heap[b]? = W.heap[b]?) {p : MemPlace} (hp : p.block < W.heap.size) : W.sameAt W' p := by
 cases p with
 | cell b o => simp only [World.sameAt, World.cell?]; rw [h b hp]
 | map b => exact h b hp
theorem qfk (h : ∀ b, b < W.heap.size → W'.heap[b]? = W.heap[b]?) (b o : Nat) (hb : b < W.heap.size) : W'.frozen? ⟨b, o, none⟩ = W.frozen? ⟨b, o, none⟩ := by
 simp only [World.frozen?]; rw [h b hb]
structure Opened (enc : TypeId × Value → H) (P : Program) (W : World) (t : TypeId) (v : Value) (d : DataW H) (ps : List MemPlace) (a : AV) : Prop where
 rep : Rep (C0 W) M0 a v
 back : ∀ (W' : World) (sp : Nat → Bool), (∀ p ∈ ps, W.sameAt W' p) → (∀ p ∈ ps, sp p.block = true) → DataW.Trod enc P W' 0 sp true t v d ps
theorem qj6 {tT tL tI tS : TypeId} (T : TermTys P tT tL tI tS) {r : Reach} {b0 : Nat} {v : Value} {d : DataW H} {ps : List MemPlace} (hval : Value.okWide P W r b0 tT v) (hd : DataW.Trod enc P W 0 (fun _ => true) true tT v d ps) :
  ∃ t : Tm, Opened enc P W tT v d ps t.av ∧ t.w ≤ Rows.uptoBulk d := by
 obtain ⟨f0, f1, f2, f3, hu, _⟩ := T.uT
 obtain ⟨cs, rfl, hsz⟩ := okWide_struct hu hval
 obtain ⟨n, hn⟩ := hd
 obtain ⟨t, h1, h2, h3⟩ := (qj8 T n).1 _ _ hn
 refine ⟨t, ⟨?_, fun W' sp hs hp => ⟨n, h3 W' sp hs hp⟩⟩, h2⟩
 have := Rep.agg (C := C0 W) (μ := M0) t.cells cs.toList (by
  have := h1.1
  cases t with
  | mk k n s l => rw [Tm.cells_mk]; simpa [Value.cells] using this.symm) (fun i a v ha hv => (h1.2 i a v ha (by simpa [Value.cells] using hv)).2)
 simpa [Tm.av] using this
theorem qkV {tS : TypeId} (hu : P.underlying tS = some .string) {r : Reach} {b0 : Nat} {v : Value} {d : DataW H} {ps : List MemPlace} (hval : Value.okWide P W r b0 tS v) (hd : DataW.Trod enc P W 0 (fun _ => true) true tS v d ps) :
  ∃ s : List UInt8, Opened enc P W tS v d ps (.str s) ∧ s.length ≤ Rows.uptoBulk d := by
 obtain ⟨s, rfl⟩ := okWide_string hu hval
 obtain ⟨n, hn⟩ := hd
 obtain ⟨s', e0, ex, w0⟩ := DataW.trod_string hu hn
 have e0 : [Value.string s] = [Value.string s'] := by simpa [Value.cells] using e0
 cases e0
 cases ex
 refine ⟨s.data.toList, ⟨by simpa using Rep.str (C := C0 W) (μ := M0) s.data.toList, fun W' sp _ _ => ⟨n, ?_⟩⟩, by simp [Rows.uptoBulk]⟩
 cases n with
 | zero => simp [DataW.trod] at hn
 | succ q => simp [DataW.trod, hu, w0, Value.cells]
end
theorem qlT {H : Type} {l : List (DataW H)} (hk : Rows.uptoSmall H l = true) {d : DataW H} (hd : d ∈ l) : Rows.uptoBulk d < 1099511627776 := by
 have h : Rows.uptoBulkAll l ≤ 1048576 := of_decide_eq_true hk
 have := qfM hd
 omega
theorem qjR {C : qc} {a b c : AV} {x y z : Value} (h1 : Rep C M0 a x) (h2 : Rep C M0 b y) (h3 : Rep C M0 c z) : qg C M0 [a, b, c] #[x, y, z] := ⟨rfl, fun i c v hc hv => by
 match i, hc, hv with
 | 0, hc, hv => simp at hc hv; subst hc hv; exact h1
 | 1, hc, hv => simp at hc hv; subst hc hv; exact h2
 | 2, hc, hv => simp at hc hv; subst hc hv; exact h3
 | (i + 3), hc, hv => simp at hc⟩
noncomputable def qmv : Den := evC cfg (EV cfg) 43 none 0 (sub (qm Try.f43) [1, 0, 1, 0, 0])
noncomputable def qmO : Ex × List AV × AH → Option AV := kAft (Cfg.keepOut cfg 43 2) (kRun cfg (EV cfg) (kfN cfg 6) 43 none 0 (vV cfg (Cfg.lift cfg 43 0) Try.f43.results.toList) ([.block 0, .seq (sub (qm Try.f43) [1, 1])]))
noncomputable def qmg : List AV × AH → Option AV := fun p => kOpt (LOOP 0 (some [0, 1, 5]) ([]) qmv p) qmO
noncomputable def qmu : Den := evC cfg (EV cfg) 44 none 0 (sub (qm Try.f44) [1, 1, 0, 1, 0, 0])
noncomputable def qmN : Ex × List AV × AH → Option AV := kAft (Cfg.keepOut cfg 44 3) (kRun cfg (EV cfg) (kfN cfg 6) 44 none 0 (vV cfg (Cfg.lift cfg 44 0) Try.f44.results.toList) ([.block 0, .seq (sub (qm Try.f44) [1, 1, 1])]))
noncomputable def qmf : List AV × AH → Option AV := fun p => kOpt (LOOP 0 (some [1, 5, 6]) ([]) qmu p) qmN
noncomputable def qmw : Den := evC cfg (EV cfg) 42 none 0 (sub (qm Try.f42) [1, 0, 1, 0, 0])
noncomputable def qmP : Ex × List AV × AH → Option AV := kAft (Cfg.keepOut cfg 42 2) (kRun cfg (EV cfg) (kfN cfg 6) 42 none 0 (vV cfg (Cfg.lift cfg 42 0) Try.f42.results.toList) ([.block 0, .seq (sub (qm Try.f42) [1, 1])]))
noncomputable def qmh : List AV × AH → Option AV := fun p => kOpt (LOOP 0 (some [0, 1, 5]) ([]) qmw p) qmP
noncomputable def qmx : Den := evC cfg (EV cfg) 41 none 0 (sub (qm Try.f41) [1, 1, 1, 0, 1, 0, 0])
noncomputable def qmQ : Ex × List AV × AH → Option AV := kAft (Cfg.keepOut cfg 41 5) (kRun cfg (EV cfg) (kfN cfg 6) 41 none 0 (vV cfg (Cfg.lift cfg 41 0) Try.f41.results.toList) ([.block 0, .seq (sub (qm Try.f41) [1, 1, 1, 1])]))
noncomputable def qmi : List AV × AH → Option AV := fun p => kOpt (LOOP 0 (some [1, 4, 5]) ([]) qmx p) qmQ
noncomputable def qmz : Den := evC cfg (EV cfg) 39 none 0 (sub (qm Try.f39) [1, 1, 0, 1, 0, 0])
noncomputable def qmS : Ex × List AV × AH → Option AV := kAft (Cfg.keepOut cfg 39 4) (kRun cfg (EV cfg) (kfN cfg 6) 39 none 0 (vV cfg (Cfg.lift cfg 39 0) Try.f39.results.toList) ([.block 0, .seq (sub (qm Try.f39) [1, 1, 1])]))
noncomputable def qmk : List AV × AH → Option AV := fun p => kOpt (LOOP 0 (some [1, 3]) ([]) qmz p) qmS
noncomputable def qmy : Den := evC cfg (EV cfg) 40 none 0 (sub (qm Try.f40) [1, 1, 1, 0, 1, 0, 1, 0, 0])
noncomputable def qmR : Ex × List AV × AH → Option AV := kAft (Cfg.keepOut cfg 40 6) (kRun cfg (EV cfg) (kfN cfg 6) 40 none 0 (vV cfg (Cfg.lift cfg 40 0) Try.f40.results.toList) ([.block 0, .seq (sub (qm Try.f40) [1, 1, 1, 1])]))
noncomputable def qmj : List AV × AH → Option AV := fun p => kOpt (LOOP 0 (some [1, 3, 4]) ([]) qmy p) qmR
noncomputable abbrev qdx (L V : Rz) (v5 : Int) : Option (AV) := qmg  (((fx 19 [(0, .sl L), (1, .sl V), (5, .int .i64 v5)]) : List AV), ([] : AH))
noncomputable abbrev qdw (n : Int) (rows : Rz) (v6 : Int) : Option (AV) := qmf  (((fx 21 [(1, .int .i64 n), (5, .sl rows), (6, .int .i64 v6)]) : List AV), ([] : AH))
noncomputable abbrev qdy (L : Rz) (n v5 : Int) : Option (AV) := qmh  (((fx 18 [(0, .sl L), (1, .int .i64 n), (5, .int .i64 v5)]) : List AV), ([] : AH))
noncomputable abbrev zb (v4 v5 c0_0 c0_1 : Int) (c0_2 : Bz) (c0_3 : Rz) : Option (AV) := qmi  (((fx 73 [(1, .ptr 0 0 0), (4, .int .i64 v4), (5, .int .i64 v5)]) : List AV), ([.rows false 4 [[.int .i64 c0_0, .int .i64 c0_1, .str c0_2, .sl c0_3]]] : AH))
noncomputable abbrev qdz (v3 c0_0 c0_1 : Int) (c0_2 : Bz) (c0_3 : Rz) : Option (AV) := qmk  (((fx 21 [(1, .ptr 0 0 0), (3, .int .i64 v3)]) : List AV), ([.rows false 4 [[.int .i64 c0_0, .int .i64 c0_1, .str c0_2, .sl c0_3]]] : AH))
noncomputable abbrev xx (v3 v4 c0_0 c0_1 : Int) (c0_2 : Bz) (c0_3 : Rz) : Option (AV) := qmj  (((fx 42 [(1, .ptr 0 0 0), (3, .int .i64 v3), (4, .int .i64 v4)]) : List AV), ([.rows false 4 [[.int .i64 c0_0, .int .i64 c0_1, .str c0_2, .sl c0_3]]] : AH))
theorem qgy (kt nt : Int) (st : Bz) (lt V : Rz) {P : AV → Prop} (h : Gets (kOpt (EVs (EV cfg) 19 [.agg [.int .i64 kt, .int .i64 nt, .str st, .sl lt]]) fun v => kInt .i64 v fun n => bif n != 0 then some (.int .i64 2) else kOpt (EVs (EV cfg) 20 [.agg [.int .i64 kt, .int .i64 nt, .str st, .sl lt], .sl V]) fun v => qq v fun b => bif ! b then some (.int .i64 10) else some (.int .i64 0)) P) : Gets (EVs (EV cfg) 8 [.agg [.int .i64 kt, .int .i64 nt, .str st, .sl lt], .sl V]) P :=
  gE (fun _ => funS rfl rfl Try.func8 rfl) (by kernel_rfl) h
theorem qjU (kt nt : Int) (st : Bz) (lt V : Rz) {P : AV → Prop} (h : Gets (kOpt (EVs (EV cfg) 41 [.agg [.int .i64 kt, .int .i64 nt, .str st, .sl lt]]) fun v => kTup v fun cs => qM cs fun c cs => kInt .i64 c fun n => qM cs fun c cs => qq c fun b => kNil cs (bif b then kOpt (EVs (EV cfg) 42 [.sl V, .int .i64 n]) fun v => qq v fun b => some (.bool b) else bif kt == 9 then kOpt (EVs (EV cfg) 43 [.sl lt, .sl V]) fun v => qq v fun b => some (.bool b) else bif kt != 7 then some (.bool true) else bif (lt.length : Int) == 0 then some (.bool false) else bif qA 0 (lt.length : Int) then kOpt (qnv lt 0) fun row => bif qnB (qnw row) 4 then bif qnF 4 (qnw row) then kTmC (qnH 4 row) fun n n_1 s rows => (bif (↑ (qnw lt) : Int) == 1 then bif n == 7 then kOpt (EVs (EV cfg) 43 [.sl rows, .sl V]) fun v => qq v fun b => some (.bool b) else bif n != 2 then some (.bool false) else bif s == [(99 : UInt8), (111 : UInt8), (110 : UInt8), (115 : UInt8), (116 : UInt8)] then some (.bool ((lt.length : Int) == 2)) else kOpt (EVs (EV cfg) 44 [.str s, .int .i64 (IntKind.wrap .i64 ((lt.length : Int) - 1))]) fun v => qq v fun b => bif b then bif ql 1 (↑ (qnw lt) : Int) then bif xj 4 lt then kOpt (EVs (EV cfg) 43 [.sl (qnH (qnw lt - 1) (List.drop 1 lt)), .sl V]) fun v => qq v fun b => some (.bool b) else none else none else some (.bool false) else bif n != 2 then some (.bool false) else bif s == [(99 : UInt8), (111 : UInt8), (110 : UInt8), (115 : UInt8), (116 : UInt8)] then some (.bool ((lt.length : Int) == 2)) else kOpt (EVs (EV cfg) 44 [.str s, .int .i64 (IntKind.wrap .i64 ((lt.length : Int) - 1))]) fun v => qq v fun b => bif b then bif ql 1 (lt.length : Int) then bif xj 4 lt then kOpt (EVs (EV cfg) 43 [.sl (qnH (qnw lt - 1) (List.drop 1 lt)), .sl V]) fun v => qq v fun b => some (.bool b) else none else none else some (.bool false)) else none else none else none)) P) : Gets (EVs (EV cfg) 20 [.agg [.int .i64 kt, .int .i64 nt, .str st, .sl lt], .sl V]) P :=
  gE (fun _ => funS rfl rfl Try.func20 rfl) (by kernel_rfl) h
theorem qiO (L V : Rz) {P : AV → Prop} (h : Gets (qdx L V 0) P) : Gets (EVs (EV cfg) 43 [.sl L, .sl V]) P :=
  gE (fun _ => funS rfl rfl Try.func43 rfl) (by kernel_rfl) h
theorem qiN (op : Bz) (n : Int) {P : AV → Prop} (h : Gets (kOpt (EVf (EV cfg) 11 [.str op]) fun v => kSl v fun rows => qdw n rows 0) P) : Gets (EVs (EV cfg) 44 [.str op, .int .i64 n]) P :=
  gE (fun _ => funS rfl rfl Try.func44 rfl) (by kernel_rfl) h
theorem qjV (L : Rz) (n : Int) {P : AV → Prop} (h : Gets (qdy L n 0) P) : Gets (EVs (EV cfg) 42 [.sl L, .int .i64 n]) P :=
  gE (fun _ => funS rfl rfl Try.func42 rfl) (by kernel_rfl) h
theorem qiM (op : Bz) {P : AV → Prop} (h : Gets (bif op == [(115 : UInt8), (101 : UInt8), (108 : UInt8), (102 : UInt8)] then some (.sl [[.int .i64 0]]) else bif op == [(105 : UInt8), (115 : UInt8), (95 : UInt8), (97 : UInt8), (116 : UInt8), (111 : UInt8), (109 : UInt8)] then some (.sl [[.int .i64 1]]) else bif op == [(105 : UInt8), (115 : UInt8), (95 : UInt8), (105 : UInt8), (110 : UInt8), (116 : UInt8), (101 : UInt8), (103 : UInt8), (101 : UInt8), (114 : UInt8)] then some (.sl [[.int .i64 1]]) else bif op == [(105 : UInt8), (115 : UInt8), (95 : UInt8), (108 : UInt8), (105 : UInt8), (115 : UInt8), (116 : UInt8)] then some (.sl [[.int .i64 1]]) else bif op == [(105 : UInt8), (115 : UInt8), (95 : UInt8), (116 : UInt8), (117 : UInt8), (112 : UInt8), (108 : UInt8), (101 : UInt8)] then some (.sl [[.int .i64 1]]) else bif op == [(105 : UInt8), (115 : UInt8), (95 : UInt8), (112 : UInt8), (105 : UInt8), (100 : UInt8)] then some (.sl [[.int .i64 1]]) else bif op == [(105 : UInt8), (115 : UInt8), (95 : UInt8), (102 : UInt8), (117 : UInt8), (110 : UInt8), (99 : UInt8), (116 : UInt8), (105 : UInt8), (111 : UInt8), (110 : UInt8)] then some (.sl [[.int .i64 1]]) else bif op == [(105 : UInt8), (115 : UInt8), (95 : UInt8), (114 : UInt8), (101 : UInt8), (102 : UInt8), (101 : UInt8), (114 : UInt8), (101 : UInt8), (110 : UInt8), (99 : UInt8), (101 : UInt8)] then some (.sl [[.int .i64 1]]) else bif op == [(110 : UInt8), (111 : UInt8), (116 : UInt8)] then some (.sl [[.int .i64 1]]) else bif op == [(98 : UInt8), (110 : UInt8), (111 : UInt8), (116 : UInt8)] then some (.sl [[.int .i64 1]]) else bif op == [(97 : UInt8), (98 : UInt8), (115 : UInt8)] then some (.sl [[.int .i64 1]]) else bif op == [(116 : UInt8), (117 : UInt8), (112 : UInt8), (108 : UInt8), (101 : UInt8), (95 : UInt8), (115 : UInt8), (105 : UInt8), (122 : UInt8), (101 : UInt8)] then some (.sl [[.int .i64 1]]) else bif op == [(115 : UInt8), (105 : UInt8), (122 : UInt8), (101 : UInt8)] then some (.sl [[.int .i64 1]]) else bif op == [(104 : UInt8), (100 : UInt8)] then some (.sl [[.int .i64 1]]) else bif op == [(116 : UInt8), (108 : UInt8)] then some (.sl [[.int .i64 1]]) else bif op == [(108 : UInt8), (101 : UInt8), (110 : UInt8), (103 : UInt8), (116 : UInt8), (104 : UInt8)] then some (.sl [[.int .i64 1]]) else bif op == [(43 : UInt8)] then some (.sl [[.int .i64 1], [.int .i64 2]]) else bif op == [(45 : UInt8)] then some (.sl [[.int .i64 1], [.int .i64 2]]) else bif op == [(61 : UInt8), (61 : UInt8)] then some (.sl [[.int .i64 2]]) else bif op == [(61 : UInt8), (58 : UInt8), (61 : UInt8)] then some (.sl [[.int .i64 2]]) else bif op == [(47 : UInt8), (61 : UInt8)] then some (.sl [[.int .i64 2]]) else bif op == [(61 : UInt8), (47 : UInt8), (61 : UInt8)] then some (.sl [[.int .i64 2]]) else bif op == [(60 : UInt8)] then some (.sl [[.int .i64 2]]) else bif op == [(61 : UInt8), (60 : UInt8)] then some (.sl [[.int .i64 2]]) else bif op == [(62 : UInt8)] then some (.sl [[.int .i64 2]]) else bif op == [(62 : UInt8), (61 : UInt8)] then some (.sl [[.int .i64 2]]) else bif op == [(97 : UInt8), (110 : UInt8), (100 : UInt8)] then some (.sl [[.int .i64 2]]) else bif op == [(111 : UInt8), (114 : UInt8)] then some (.sl [[.int .i64 2]]) else bif op == [(120 : UInt8), (111 : UInt8), (114 : UInt8)] then some (.sl [[.int .i64 2]]) else bif op == [(97 : UInt8), (110 : UInt8), (100 : UInt8), (97 : UInt8), (108 : UInt8), (115 : UInt8), (111 : UInt8)] then some (.sl [[.int .i64 2]]) else bif op == [(111 : UInt8), (114 : UInt8), (101 : UInt8), (108 : UInt8), (115 : UInt8), (101 : UInt8)] then some (.sl [[.int .i64 2]]) else bif op == [(42 : UInt8)] then some (.sl [[.int .i64 2]]) else bif op == [(100 : UInt8), (105 : UInt8), (118 : UInt8)] then some (.sl [[.int .i64 2]]) else bif op == [(114 : UInt8), (101 : UInt8), (109 : UInt8)] then some (.sl [[.int .i64 2]]) else bif op == [(98 : UInt8), (97 : UInt8), (110 : UInt8), (100 : UInt8)] then some (.sl [[.int .i64 2]]) else bif op == [(98 : UInt8), (111 : UInt8), (114 : UInt8)] then some (.sl [[.int .i64 2]]) else bif op == [(98 : UInt8), (120 : UInt8), (111 : UInt8), (114 : UInt8)] then some (.sl [[.int .i64 2]]) else bif op == [(101 : UInt8), (108 : UInt8), (101 : UInt8), (109 : UInt8), (101 : UInt8), (110 : UInt8), (116 : UInt8)] then some (.sl [[.int .i64 2]]) else some (.sl [])) P) : Gets (EVf (EV cfg) 11 [.str op]) P :=
  gE (fun _ => funF rfl rfl Try.func11 rfl) (by kernel_rfl) h
theorem qiP (kt nt : Int) (st : Bz) (lt : Rz) {P : AV → Prop} (h : Gets (kOpt (EVs (EV cfg) 19 [.agg [.int .i64 kt, .int .i64 nt, .str st, .sl lt]]) fun v => kInt .i64 v fun n => bif n != 0 then some (AV.tup [.int .i64 0, .bool false]) else bif kt != 2 then some (AV.tup [.int .i64 0, .bool false]) else bif decide ((st.length : Int) < 2) then some (AV.tup [.int .i64 0, .bool false]) else bif decide ((st.length : Int) > 3) then some (AV.tup [.int .i64 0, .bool false]) else kOpt (qnv st 0) fun b => bif (↑ (UInt8.toNat b) : Int) != 36 then some (AV.tup [.int .i64 0, .bool false]) else bif (st.length : Int) == 3 then kOpt (qnv st 1) fun b => bif (↑ (UInt8.toNat b) : Int) == 48 then some (AV.tup [.int .i64 0, .bool false]) else zb 0 1 kt nt st lt else zb 0 1 kt nt st lt) P) : Gets (EVs (EV cfg) 41 [.agg [.int .i64 kt, .int .i64 nt, .str st, .sl lt]]) P :=
  gE (fun _ => funS rfl rfl Try.func41 rfl) (by kernel_rfl) h
theorem qgB (kt nt : Int) (st : Bz) (lt : Rz) {P : AV → Prop} (h : Gets (kOpt (EVs (EV cfg) 39 [.agg [.int .i64 kt, .int .i64 nt, .str st, .sl lt]]) fun v => qq v fun b => bif ! b then some (.int .i64 2) else kOpt (EVs (EV cfg) 40 [.agg [.int .i64 kt, .int .i64 nt, .str st, .sl lt]]) fun v => kInt .i64 v fun n => bif decide (n > 65536) then some (.int .i64 3) else some (.int .i64 0)) P) : Gets (EVs (EV cfg) 19 [.agg [.int .i64 kt, .int .i64 nt, .str st, .sl lt]]) P :=
  gE (fun _ => funS rfl rfl Try.func19 rfl) (by kernel_rfl) h
noncomputable abbrev za0 (st : Bz) (lt : Rz) : Option (AV) := bif st == [] then some (.bool ((lt.length : Int) == 0)) else some (.bool false)
noncomputable abbrev za1 (nt : Int) (st : Bz) (lt : Rz) : Option (AV) := kOpt (EVs (EV cfg) 60 [.int .i64 nt]) fun v => qq v fun b => bif b then za0 st lt else some (.bool false)
theorem qiQ (kt nt : Int) (st : Bz) (lt : Rz) {P : AV → Prop} (h : Gets (bif kt == 1 then bif decide (nt ≥ (- 576460752303423488)) then bif decide (nt ≤ 576460752303423487) then za0 st lt else some (.bool false) else some (.bool false) else bif kt == 2 then bif nt == 0 then bif decide ((st.length : Int) ≤ 64) then some (.bool ((lt.length : Int) == 0)) else some (.bool false) else some (.bool false) else bif kt == 3 then za1 nt st lt else bif kt == 4 then kOpt (EVs (EV cfg) 60 [.int .i64 nt]) fun v => qq v fun b => bif b then bif st == [] then some (.bool ((lt.length : Int) == (0 : Int))) else some (.bool false) else some (.bool false) else bif kt == 6 then za1 nt st lt else bif kt == 5 then kOpt (EVs (EV cfg) 60 [.int .i64 nt]) fun v => qq v fun b => bif b then bif st == [] then some (.bool (decide ((lt.length : Int) ≤ 64))) else some (.bool false) else some (.bool false) else bif kt == 7 then bif nt == 0 then bif st == [] then some (.bool (decide ((lt.length : Int) ≤ 64))) else some (.bool false) else some (.bool false) else bif kt == 8 then bif nt == 0 then za0 st lt else some (.bool false) else bif kt == 9 then bif nt == 0 then bif st == [] then some (.bool ((lt.length : Int) == 2)) else some (.bool false) else some (.bool false) else some (.bool false)) P) : Gets (EVs (EV cfg) 54 [.agg [.int .i64 kt, .int .i64 nt, .str st, .sl lt]]) P :=
  gE (fun _ => funS rfl rfl Try.func54 rfl) (by kernel_rfl) h
theorem qgA (kt nt : Int) (st : Bz) (lt : Rz) {P : AV → Prop} (h : Gets (kOpt (EVs (EV cfg) 54 [.agg [.int .i64 kt, .int .i64 nt, .str st, .sl lt]]) fun v => qq v fun b => bif ! b then some (.bool false) else qdz 0 kt nt st lt) P) : Gets (EVs (EV cfg) 39 [.agg [.int .i64 kt, .int .i64 nt, .str st, .sl lt]]) P :=
  gE (fun _ => funS rfl rfl Try.func39 rfl) (by kernel_rfl) h
theorem qgz (kt nt : Int) (st : Bz) (lt : Rz) {P : AV → Prop} (h : Gets (bif kt == 5 then bif kt == 5 then xx 2 0 kt nt st lt else bif kt == 7 then xx 2 0 kt nt st lt else bif kt == 9 then xx 2 0 kt nt st lt else some (.int .i64 2) else bif kt == 7 then bif kt == 5 then xx 2 0 kt nt st lt else bif kt == 7 then xx 2 0 kt nt st lt else bif kt == 9 then xx 2 0 kt nt st lt else some (.int .i64 2) else bif kt == 5 then xx 1 0 kt nt st lt else bif kt == 7 then xx 1 0 kt nt st lt else bif kt == 9 then xx 1 0 kt nt st lt else some (.int .i64 1)) P) : Gets (EVs (EV cfg) 40 [.agg [.int .i64 kt, .int .i64 nt, .str st, .sl lt]]) P :=
  gE (fun _ => funS rfl rfl Try.func40 rfl) (by kernel_rfl) h
theorem qcu (L V : Rz) (v5 : Int) {P : AV → Prop} (h : Gets (bif decide (v5 < (L.length : Int)) then bif ql 0 v5 && qA v5 (L.length : Int) then kOpt (qnv L (v5.toNat)) fun row => bif qnB (qnw row) 4 then bif qnF 4 (qnw row) then kTmC (qnH 4 row) fun n n_1 s rows => (kOpt (EVs (EV cfg) 20 [.agg [.int .i64 n, .int .i64 n_1, .str s, .sl rows], .sl V]) fun v => qq v fun b => bif ! b then some (.bool false) else qdx L V (IntKind.wrap .i64 (v5 + 1))) else none else none else none else some (.bool true)) P) : Gets (qdx L V v5) P :=
  gE (fun _ => qG (cfg := cfg) (f := 43) (rd := none) (bs := 0)) (by kernel_rfl) h
theorem qct (n : Int) (rows : Rz) (v6 : Int) {P : AV → Prop} (h : Gets (bif decide (v6 < (rows.length : Int)) then bif ql 0 v6 && qA v6 (rows.length : Int) then kOpt (qnv rows (v6.toNat)) fun row => bif qnB (qnw row) 1 then kOpt (qnv row 0) fun v => kInt .i64 v fun n_1 => bif n_1 == n then some (.bool true) else qdw n rows (IntKind.wrap .i64 (v6 + 1)) else none else none else some (.bool false)) P) : Gets (qdw n rows v6) P :=
  gE (fun _ => qG (cfg := cfg) (f := 44) (rd := none) (bs := 0)) (by kernel_rfl) h
theorem qcv (L : Rz) (n v5 : Int) {P : AV → Prop} (h : Gets (bif decide (v5 < (L.length : Int)) then bif ql 0 v5 && qA v5 (L.length : Int) then kOpt (qnv L (v5.toNat)) fun row => bif qnB (qnw row) 1 then kOpt (qnv row 0) fun v => kInt .i64 v fun n_1 => bif n_1 == n then some (.bool true) else qdy L n (IntKind.wrap .i64 (v5 + 1)) else none else none else some (.bool false)) P) : Gets (qdy L n v5) P :=
  gE (fun _ => qG (cfg := cfg) (f := 42) (rd := none) (bs := 0)) (by kernel_rfl) h
theorem qcw (v4 v5 c0_0 c0_1 : Int) (c0_2 : Bz) (c0_3 : Rz) {P : AV → Prop} (h : Gets (bif decide (v5 < (c0_2.length : Int)) then bif ql 0 v5 then kOpt (qnv c0_2 (v5.toNat)) fun b => bif decide ((↑ (UInt8.toNat b) : Int) < 48) then some (AV.tup [.int .i64 0, .bool false]) else bif ql 0 v5 then kOpt (qnv c0_2 (v5.toNat)) fun b => bif decide ((↑ (UInt8.toNat b) : Int) > 57) then some (AV.tup [.int .i64 0, .bool false]) else bif ql 0 v5 then kOpt (qnv c0_2 (v5.toNat)) fun b => zb (IntKind.wrap .i64 (IntKind.wrap .i64 (10 * v4) + IntKind.wrap .i64 (IntKind.wrap .u8 ((↑ (UInt8.toNat b) : Int) - 48)))) (IntKind.wrap .i64 (v5 + 1)) c0_0 c0_1 c0_2 c0_3 else none else none else none else some (AV.tup [.int .i64 v4, .bool true])) P) : Gets (zb v4 v5 c0_0 c0_1 c0_2 c0_3) P :=
  gE (fun _ => qG (cfg := cfg) (f := 41) (rd := none) (bs := 0)) (by kernel_rfl) h
theorem qcy (v3 c0_0 c0_1 : Int) (c0_2 : Bz) (c0_3 : Rz) {P : AV → Prop} (h : Gets (bif decide (v3 < (c0_3.length : Int)) then bif ql 0 v3 && qA v3 (c0_3.length : Int) then kOpt (qnv c0_3 (v3.toNat)) fun row => bif qnB (qnw row) 4 then bif qnF 4 (qnw row) then kTmC (qnH 4 row) fun n n_1 s rows => (kOpt (EVs (EV cfg) 39 [.agg [.int .i64 n, .int .i64 n_1, .str s, .sl rows]]) fun v => qq v fun b => bif ! b then some (.bool false) else qdz (IntKind.wrap .i64 (v3 + 1)) c0_0 c0_1 c0_2 c0_3) else none else none else none else some (.bool true)) P) : Gets (qdz v3 c0_0 c0_1 c0_2 c0_3) P :=
  gE (fun _ => qG (cfg := cfg) (f := 39) (rd := none) (bs := 0)) (by kernel_rfl) h
theorem qcx (v3 v4 c0_0 c0_1 : Int) (c0_2 : Bz) (c0_3 : Rz) {P : AV → Prop} (h : Gets (bif decide (v4 < (c0_3.length : Int)) then bif ql 0 v4 && qA v4 (c0_3.length : Int) then kOpt (qnv c0_3 (v4.toNat)) fun row => bif qnB (qnw row) 4 then bif qnF 4 (qnw row) then kTmC (qnH 4 row) fun n n_1 s rows => (kOpt (EVs (EV cfg) 40 [.agg [.int .i64 n, .int .i64 n_1, .str s, .sl rows]]) fun v => kInt .i64 v fun n => xx (IntKind.wrap .i64 (v3 + n)) (IntKind.wrap .i64 (v4 + 1)) c0_0 c0_1 c0_2 c0_3) else none else none else none else some (.int .i64 v3)) P) : Gets (xx v3 v4 c0_0 c0_1 c0_2 c0_3) P :=
  gE (fun _ => qG (cfg := cfg) (f := 40) (rd := none) (bs := 0)) (by kernel_rfl) h
theorem qdS (n : Int) {P : AV → Prop} (h : Gets (bif decide (n ≥ 0) then some (.bool (decide (n ≤ 1073741824))) else some (.bool false)) P) : Gets (EVs (EV cfg) 60 [.int .i64 n]) P :=
  gE (fun _ => funS rfl rfl Try.func60 rfl) (by kernel_rfl) h
noncomputable def qmF : Den := evC cfg (EV cfg) 50 none 0 (sub (qm Try.f50) [1, 1, 1, 0, 1, 0, 0])
noncomputable def qmY : Ex × List AV × AH → Option AV := kAft (Cfg.keepOut cfg 50 5) (kRun cfg (EV cfg) (kfN cfg 6) 50 none 0 (vV cfg (Cfg.lift cfg 50 0) Try.f50.results.toList) ([.block 0, .seq (sub (qm Try.f50) [1, 1, 1, 1])]))
noncomputable def qmq : List AV × AH → Option AV := fun p => kOpt (LOOP 0 (some [4, 32, 33, 34]) ([]) qmF p) qmY
noncomputable abbrev zM (s : Bz) (v4 v34 : Int) (h0 : Rz) : Option (AV) := qmq  (((fx 52 [(4, .int .i64 v4), (32, .ms 0 0 (qnw (qnH (qnw s - 1) (List.drop 1 s)))), (33, .int .i64 (↑(qnw (qnH (qnw s - 1) (List.drop 1 s))) : Int)), (34, .int .i64 v34)]) : List AV), ([.rows true 1 h0] : AH))
noncomputable abbrev zc1 (s : Bz) : Option (AV) := zM s 0 0 (List.map (fun b => [.int .u8 (↑ (UInt8.toNat b) : Int)]) (qnH (qnw s - 1) (List.drop 1 s)))
noncomputable abbrev zc0 (s : Bz) : Option (AV) := bif ql 1 (s.length : Int) then zc1 s else none
theorem qfP (s : Bz) {P : AV → Prop} (h : Gets (bif decide ((s.length : Int) < 2) then some (AV.tup [.int .i64 0, .bool false]) else bif decide ((s.length : Int) > 3) then some (AV.tup [.int .i64 0, .bool false]) else kOpt (qnv s 0) fun b => bif (↑ (UInt8.toNat b) : Int) != 36 then some (AV.tup [.int .i64 0, .bool false]) else bif (s.length : Int) == 3 then kOpt (qnv s 1) fun b => bif (↑ (UInt8.toNat b) : Int) == 48 then some (AV.tup [.int .i64 0, .bool false]) else zc0 s else zc0 s) P) : Gets (EVs (EV cfg) 50 [.str s]) P :=
  gE (fun _ => funS rfl rfl Try.func50 rfl) (by kernel_rfl) h
theorem qiT (kt nt : Int) (st : Bz) (lt : Rz) {P : AV → Prop} (h : Gets (kOpt (EVs (EV cfg) 17 [.agg [.int .i64 kt, .int .i64 nt, .str st, .sl lt]]) fun v => kInt .i64 v fun n => some (.bool (n == 0))) P) : Gets (EVs (EV cfg) 49 [.agg [.int .i64 kt, .int .i64 nt, .str st, .sl lt]]) P :=
  gE (fun _ => funS rfl rfl Try.func49 rfl) (by kernel_rfl) h
theorem qiS (kt nt : Int) (st : Bz) (lt : Rz) {P : AV → Prop} (h : Gets (bif kt != 2 then some (AV.tup [.int .i64 0, .bool false]) else kOpt (EVs (EV cfg) 49 [.agg [.int .i64 kt, .int .i64 nt, .str st, .sl lt]]) fun v => qq v fun b => bif ! b then some (AV.tup [.int .i64 0, .bool false]) else kOpt (EVs (EV cfg) 50 [.str st]) fun v => kTup v fun cs => qM cs fun c cs => kInt .i64 c fun n => qM cs fun c cs => qq c fun b => kNil cs (some (AV.tup [.int .i64 n, .bool b]))) P) : Gets (EVs (EV cfg) 36 [.agg [.int .i64 kt, .int .i64 nt, .str st, .sl lt]]) P :=
  gE (fun _ => funS rfl rfl Try.func36 rfl) (by kernel_rfl) h
theorem qcD (s : Bz) (v4 v34 : Int) (h0 : Rz) {P : AV → Prop} (h : Gets (bif decide (v34 < (↑ (qnw (qnH (qnw s - 1) (List.drop 1 s))) : Int)) then bif ql 0 v34 && qA v34 (↑ (qnw (qnH (qnw s - 1) (List.drop 1 s))) : Int) then kOpt (qnv h0 (0 + v34.toNat)) fun row => kOpt (qnv row 0) fun v => kInt .u8 v fun n => bif decide (n < 48) then some (AV.tup [.int .i64 0, .bool false]) else bif decide (n > 57) then some (AV.tup [.int .i64 0, .bool false]) else zM s (IntKind.wrap .i64 (IntKind.wrap .i64 (v4 * 10) + IntKind.wrap .i64 (IntKind.wrap .u8 (n - 48)))) (IntKind.wrap .i64 (v34 + 1)) h0 else none else some (AV.tup [.int .i64 v4, .bool true])) P) : Gets (zM s v4 v34 h0) P :=
  gE (fun _ => qG (cfg := cfg) (f := 50) (rd := none) (bs := 0)) (by kernel_rfl) h
end Go.Proofs.Ytjiecipfkjaooaa
end
section
namespace Go.Av
@[simp] theorem Tm.kind_mk (k n : Int) (s : List UInt8) (l : List Tm) : (Tm.mk k n s l).kind = k := rfl
@[simp] theorem Tm.num_mk (k n : Int) (s : List UInt8) (l : List Tm) : (Tm.mk k n s l).num = n := rfl
@[simp] theorem Tm.str_mk (k n : Int) (s : List UInt8) (l : List Tm) : (Tm.mk k n s l).str = s := rfl
@[simp] theorem Tm.subs_mk (k n : Int) (s : List UInt8) (l : List Tm) : (Tm.mk k n s l).subs = l := rfl
@[simp] theorem Tm.eta (t : Tm) : Tm.mk t.kind t.num t.str t.subs = t := by cases t; rfl
theorem Tm.cells_eq (t : Tm) : t.cells = [.int .i64 t.kind, .int .i64 t.num, .str t.str, .sl (qa t.subs)] := by cases t; rw [Tm.cells_mk]; rfl
@[simp] theorem cells_fold (k n : Int) (s : List UInt8) (l : List Tm) : [AV.int .i64 k, AV.int .i64 n, AV.str s, AV.sl (qa l)] = (Tm.mk k n s l).cells := (Tm.cells_mk k n s l).symm
@[simp] theorem cells_fold0 (k n : Int) (s : List UInt8) : [AV.int .i64 k, AV.int .i64 n, AV.str s, AV.sl []] = (Tm.mk k n s []).cells := by rw [Tm.cells_mk, vT]
@[simp] theorem agg_cells (t : Tm) : AV.agg t.cells = t.av := rfl
@[simp] theorem qjP (t : Tm) : [t.cells] = qa [t] := by rw [vp, vT]
@[simp] theorem rowsT_cons' (t : Tm) (l : List Tm) : t.cells :: qa l = qa (t :: l) := (vp t l).symm
@[simp] theorem rowsT_append' (a b : List Tm) : qa a ++ qa b = qa (a ++ b) := (yD a b).symm
@[simp] theorem rowsT_app (a b : List Tm) : List.append (qa a) (qa b) = qa (a ++ b) := (yD a b).symm
@[simp] theorem rowsT_take' (n : Nat) (a : List Tm) : (qa a).take n = qa (a.take n) := qiI n a
@[simp] theorem rowsT_drop' (n : Nat) (a : List Tm) : (qa a).drop n = qa (a.drop n) := qiJ n a
@[simp] theorem rowsT_set' (l : List Tm) (i : Nat) (t : Tm) : (qa l).set i t.cells = qa (l.set i t) := qjO l i t
@[simp] theorem rowsT_get' (l : List Tm) (i : Nat) : (qa l)[i]? = (l[i]?).map Tm.cells := ze l i
@[simp] theorem rowsT_getElem (l : List Tm) (i : Nat) (h : i < (qa l).length) : (qa l)[i] = (l[i]'(by simpa using h)).cells := by
 have h1 := ze l i
 rw [qnm h, qnm (by simpa using h)] at h1
 exact Option.some.inj h1
@[simp] theorem kOpt_map {α β γ : Type} (o : Option β) (g : β → γ) (k : γ → Option α) : kOpt (o.map g) k = kOpt o fun x => k (g x) := by cases o <;> rfl
@[simp] theorem qU (t : Tm) : t.cells.length = 4 := by rw [Tm.cells_eq]; rfl
@[simp] theorem vC (t : Tm) : t.cells.take 4 = t.cells := by rw [Tm.cells_eq]; rfl
@[simp] theorem drop_cells (t : Tm) : t.cells.drop 4 = [] := by rw [Tm.cells_eq]; rfl
@[simp] theorem cells_0 (t : Tm) : t.cells[0]? = some (.int .i64 t.kind) := by rw [Tm.cells_eq]; rfl
@[simp] theorem cells_1 (t : Tm) : t.cells[1]? = some (.int .i64 t.num) := by rw [Tm.cells_eq]; rfl
@[simp] theorem cells_2 (t : Tm) : t.cells[2]? = some (.str t.str) := by rw [Tm.cells_eq]; rfl
@[simp] theorem cells_3 (t : Tm) : t.cells[3]? = some (.sl (qa t.subs)) := by rw [Tm.cells_eq]; rfl
@[simp] theorem refs_cells (n : Nat) (t : Tm) : qe n t.cells = true := by rw [Tm.cells_eq]; rfl
@[simp] theorem allCells_cells (t : Tm) : qV t.cells = true := by rw [Tm.cells_eq]; rfl
@[simp] theorem rowsT_free' (l : List Tm) : qi 0 (qa l) = true := qdL l
@[simp] theorem qbv (l : List Tm) : xj 4 (qa l) = true := by
 cases l with
 | nil => rw [vT]; rfl
 | cons t l => rw [vp, xj, qU]; rfl
@[simp] theorem vD {α : Type} (t : Tm) (k : Int → Int → List UInt8 → List (List AV) → Option α) : kTmC t.cells k = k t.kind t.num t.str (qa t.subs) := by rw [Tm.cells_eq]; rfl
@[simp] theorem qim {α : Type} (t : Tm) (k : Int → Int → List UInt8 → List (List AV) → Option α) : kTmV t.av k = k t.kind t.num t.str (qa t.subs) := by rw [Tm.av, Tm.cells_eq]; rfl
@[simp] theorem cast_nn (q : Nat) : (0 ≤ (q : Int) + 1) = True := eq_true (by omega)
@[simp] theorem cast_le1 (q n : Nat) : ((q : Int) + 1 ≤ (n : Int)) = (q + 1 ≤ n) := propext (by omega)
@[simp] theorem cast_lt1 (q n : Nat) : ((q : Int) + 1 < (n : Int)) = (q + 1 < n) := propext (by omega)
@[simp] theorem cast_nn' (q : Nat) : (0 < (q : Int) + 1) = True := eq_true (by omega)
@[simp] theorem cast_ne0 (q : Nat) : ((q : Int) + 1 == 0) = false := by rw [beqD]; exact decide_eq_false (by omega)
@[simp] theorem cast_lt_s (q : Nat) : ((q : Int) < (q : Int) + 1) = True := eq_true (by omega)
@[simp] theorem cast_le_s (q : Nat) : ((q : Int) ≤ (q : Int) + 1) = True := eq_true (by omega)
theorem qm5 {n : Nat} (hn : n < 4398046511104) : IntKind.wrap .i64 (n : Int) = n := vS (by omega) (by omega)
def C3 (p q r : Int) : Prop := (p ≤ 0 → q ≤ 0 → r ≤ 0) ∧ (p < 0 → q ≤ 0 → r < 0) ∧ (p ≤ 0 → q < 0 → r < 0) ∧ (0 ≤ p → 0 ≤ q → 0 ≤ r) ∧ (0 < p → 0 ≤ q → 0 < r) ∧ (0 ≤ p → 0 < q → 0 < r)
def qaB (k n : Int) (s : List UInt8) (m : Nat) : Bool :=
 if k = 1 then decide (-576460752303423488 ≤ n) && (decide (n ≤ 576460752303423487) && (decide (s = []) && decide (m = 0)))
 else if k = 2 then decide (n = 0) && (decide (s.length ≤ 64) && decide (m = 0))
 else if k = 3 then decide (0 ≤ n) && (decide (n ≤ 1073741824) && (decide (s = []) && decide (m = 0)))
 else if k = 4 then decide (0 ≤ n) && (decide (n ≤ 1073741824) && (decide (s = []) && decide (m = 0)))
 else if k = 6 then decide (0 ≤ n) && (decide (n ≤ 1073741824) && (decide (s = []) && decide (m = 0)))
 else if k = 5 then decide (0 ≤ n) && (decide (n ≤ 1073741824) && (decide (s = []) && decide (m ≤ 64)))
 else if k = 7 then decide (n = 0) && (decide (s = []) && decide (m ≤ 64))
 else if k = 8 then decide (n = 0) && (decide (s = []) && decide (m = 0))
 else if k = 9 then decide (n = 0) && (decide (s = []) && decide (m = 2))
 else false
def Tm.sound (t : Tm) : Bool := qaB t.kind t.num t.str t.subs.length
def Tm.own (t : Tm) : Nat := if t.kind = 7 ∨ t.kind = 5 then 2 else 1
theorem qJ (a b : Bool) : (bif a then some (AV.bool b) else some (AV.bool false)) = some (.bool (a && b)) := by cases a <;> rfl
theorem qkv (s : List UInt8) : (s == []) = decide (s = []) := by cases s <;> simp
theorem beqI (a b : Int) : (a == b) = decide (a = b) := by simp [beqD]
mutual
/-- may all parts of a term be? -/
def Tm.parts : Tm → Bool
 | .mk k n s l => qaB k n s l.length && qO l
def qO : List Tm → Bool
 | [] => true
 | t :: l => t.parts && qO l
end
mutual
/-- how many words all parts have -/
def Tm.words : Tm → Nat
 | .mk k n s l => (Tm.mk k n s l).own + qE l
def qE : List Tm → Nat
 | [] => 0
 | t :: l => t.words + qE l
end
theorem Tm.parts_eq (t : Tm) : t.parts = (t.sound && qO t.subs) := by cases t; rw [Tm.parts]; rfl
theorem Tm.words_eq (t : Tm) : t.words = t.own + qE t.subs := by cases t; rw [Tm.words]; rfl
theorem zp (a b : List Tm) : qO (a ++ b) = (qO a && qO b) := by
 induction a with
 | nil => simp [qO]
 | cons x l ih => simp [qO, ih, Bool.and_assoc]
theorem qbg (a b : List Tm) : qE (a ++ b) = qE a + qE b := by
 induction a with
 | nil => simp [qE]
 | cons x l ih => simp [qE, ih]; omega
theorem qiU (a : List Tm) : qO a.reverse = qO a := by
 induction a with
 | nil => rfl
 | cons x l ih => simp [zp, qO, ih, Bool.and_comm]
theorem qiA (a : List Tm) : qE a.reverse = qE a := by
 induction a with
 | nil => rfl
 | cons x l ih => simp [qbg, qE, ih]; omega
theorem Tm.own_le (t : Tm) : t.own ≤ 2 ∧ 1 ≤ t.own := by unfold Tm.own; split <;> omega
theorem qkJ (t : Tm) : t.words ≤ 2 * t.w := by
 induction t using Tm.ind with
 | _ k n s l ih =>
  have h1 : qE l ≤ 2 * wL l := by
   clear n s
   induction l with
   | nil => simp [qE]
   | cons x l ih2 =>
    have := ih x (by simp)
    have := ih2 (fun t ht => ih t (by simp [ht]))
    simp [qE]; omega
  have := (Tm.mk k n s l).own_le
  rw [Tm.words, Tm.w_mk]; omega
def chkS (R : List Tm) (wd : Nat) : Int := if qO R then (if 65536 < wd + qE R then 3 else 0) else 2
def Tm.chk (t : Tm) : Int := chkS [t] 0
theorem qlh {R : List Tm} {x : Tm} {wd : Nat} (h : x.sound = false) : chkS (R ++ [x]) wd = 2 := by
 unfold chkS
 rw [zp]
 simp [qO, Tm.parts_eq, h]
theorem qfJ {R : List Tm} {x : Tm} {wd : Nat} (h : x.sound = true) : chkS (R ++ x.subs.reverse) (wd + x.own) = chkS (R ++ [x]) wd := by
 unfold chkS
 simp only [zp, qiU, qbg, qiA, qO, qE, Tm.parts_eq, Tm.words_eq, h, Bool.true_and, Bool.and_true]
 have : wd + x.own + (qE R + qE x.subs) = wd + (qE R + (x.own + qE x.subs + 0)) := by omega
 rw [this]
def qiv : Tm := .mk 0 0 [] []
def InB (a : Int) : Prop := -576460752303423488 ≤ a ∧ a ≤ 576460752303423487
instance (a : Int) : Decidable (InB a) := inferInstanceAs (Decidable (_ ∧ _))
theorem beqS (a b : List UInt8) : (a == b) = decide (a = b) := by by_cases h : a = b <;> simp [h]
structure Env where
 obj : Tm
 binds : List (Int × Tm)
 self : Int
def xC (l : List (Int × Tm)) : List (List AV) := l.map fun p => .int .i64 p.1 :: p.2.cells
theorem qbc (l : List (Int × Tm)) : (xC l).length = l.length := by simp [xC]
theorem qjq (l : List (Int × Tm)) (i : Nat) : (xC l)[i]? = (l[i]?).map fun p => .int .i64 p.1 :: p.2.cells := by simp [xC]
def qaE : List (List UInt8 × List Int) := [
 ([115, 101, 108, 102], [0]),
 ([105, 115, 95, 97, 116, 111, 109], [1]),
 ([105, 115, 95, 105, 110, 116, 101, 103, 101, 114], [1]),
 ([105, 115, 95, 108, 105, 115, 116], [1]),
 ([105, 115, 95, 116, 117, 112, 108, 101], [1]),
 ([105, 115, 95, 112, 105, 100], [1]),
 ([105, 115, 95, 102, 117, 110, 99, 116, 105, 111, 110], [1]),
 ([105, 115, 95, 114, 101, 102, 101, 114, 101, 110, 99, 101], [1]),
 ([110, 111, 116], [1]),
 ([98, 110, 111, 116], [1]),
 ([97, 98, 115], [1]),
 ([116, 117, 112, 108, 101, 95, 115, 105, 122, 101], [1]),
 ([115, 105, 122, 101], [1]),
 ([104, 100], [1]),
 ([116, 108], [1]),
 ([108, 101, 110, 103, 116, 104], [1]),
 ([43], [1, 2]),
 ([45], [1, 2]),
 ([61, 61], [2]),
 ([61, 58, 61], [2]),
 ([47, 61], [2]),
 ([61, 47, 61], [2]),
 ([60], [2]),
 ([61, 60], [2]),
 ([62], [2]),
 ([62, 61], [2]),
 ([97, 110, 100], [2]),
 ([111, 114], [2]),
 ([120, 111, 114], [2]),
 ([97, 110, 100, 97, 108, 115, 111], [2]),
 ([111, 114, 101, 108, 115, 101], [2]),
 ([42], [2]),
 ([100, 105, 118], [2]),
 ([114, 101, 109], [2]),
 ([98, 97, 110, 100], [2]),
 ([98, 111, 114], [2]),
 ([98, 120, 111, 114], [2]),
 ([101, 108, 101, 109, 101, 110, 116], [2])]
def yJ {β : Type} (op : List UInt8) (d : β) : List (List UInt8 × β) → β
 | [] => d
 | p :: l => bif op == p.1 then p.2 else yJ op d l
theorem qbE {β γ : Type} (g : β → γ) (op : List UInt8) (d : β) : ∀ l : List (List UInt8 × β), yJ op (g d) (l.map fun p => (p.1, g p.2)) = g (yJ op d l)
 | [] => rfl
 | p :: l => by
  rw [List.map_cons, yJ, yJ, qbE g op d l]
  cases op == p.1 <;> rfl
def opsG (op : List UInt8) : List Int := yJ op [] qaE
def qk (l : List Int) : List (List AV) := l.map fun n => [.int .i64 n]
theorem qw (l : List Int) : (qk l).length = l.length := by simp [qk]
theorem zj (l : List Int) (i : Nat) : (qk l)[i]? = (l[i]?).map fun n => [AV.int .i64 n] := by simp [qk]
def qm6 (n : Int) : Bool := decide (1 ≤ n) && decide (n ≤ 1073741824)
theorem Tm.Ok.subs {t : Tm} (h : t.Ok) {x : Tm} (hx : x ∈ t.subs) : x.Ok := by
 obtain ⟨k, n, s, l⟩ := t
 exact h.sub hx
def vh (b : UInt8) : Option Int := if b.toNat < 48 then none else if b.toNat > 57 then none else some ((b.toNat : Int) - 48)
def varG : List UInt8 → Option Int
 | [a, b] => if a.toNat = 36 then vh b else none
 | [a, b, c] => if a.toNat = 36 ∧ b.toNat ≠ 48 then (vh b).bind fun x => (vh c).map fun y => x * 10 + y else none
 | _ => none
theorem qfH {b : UInt8} {x : Int} (h : vh b = some x) : 0 ≤ x ∧ x ≤ 9 := by
 unfold vh at h
 split at h
 ·cases h
 ·split at h
  ·cases h
  ·cases h; omega
theorem qf6 (a b : UInt8) : varG [a, b] = if a.toNat = 36 then vh b else none := rfl
theorem qb5 (a b c : UInt8) : varG [a, b, c] = if a.toNat = 36 ∧ b.toNat ≠ 48 then (vh b).bind fun x => (vh c).map fun y => x * 10 + y else none := rfl
def varT (t : Tm) : Option Int := if t.kind = 2 ∧ t.chk = 0 then varG t.str else none
def qkA (p : Nat → Bool) (r : List AV) : Prop := ∃ (lo hi : Nat) (l : List AV), r = .int .u64 lo :: .int .u64 hi :: l ∧ lo < 18446744073709551616 ∧ hi < 18446744073709551616 ∧ (∀ n, n < 64 → lo.testBit n = p n) ∧ ∀ n, n < 64 → hi.testBit n = p (n + 64)
theorem qjJ {r cs : List AV} {o k : Nat} (hc : cs.length = 4) (h : o + 4 ≤ r.length) (hk : k < o ∨ o + 4 ≤ k) : (List.append (List.append (r.take o) cs) (r.drop (o + 4)))[k]? = r[k]? := by
 show ((r.take o ++ cs) ++ r.drop (o + 4))[k]? = r[k]?
 have hl : (r.take o).length = o := by simp; omega
 rcases hk with hk | hk
 ·rw [qnq (by simp; omega), qnq (by omega), List.getElem?_take, if_pos hk]
 ·rw [qns (by simp; omega), List.getElem?_drop]
  congr 1
  simp [hc]
  omega
theorem qjI {r cs : List AV} {o : Nat} (hc : cs.length = 4) (h : o + 4 ≤ r.length) : (List.append (List.append (r.take o) cs) (r.drop (o + 4))).length = r.length := by
 show ((r.take o ++ cs) ++ r.drop (o + 4)).length = r.length
 simp [hc]; omega
theorem qiD {r cs : List AV} {o : Nat} (hc : cs.length = 4) (h : o + 4 ≤ r.length) : ((List.append (List.append (r.take o) cs) (r.drop (o + 4))).drop o).take 4 = cs := by
 show (((r.take o ++ cs) ++ r.drop (o + 4)).drop o).take 4 = cs
 have hl : (r.take o).length = o := by simp; omega
 rw [List.append_assoc, List.drop_append_of_le_length (by omega), List.drop_of_length_le (by omega), List.nil_append, List.take_append_of_le_length (by omega), List.take_of_length_le (by omega)]
theorem qhC {r cs : List AV} {o o' : Nat} (hc : cs.length = 4) (h : o + 4 ≤ r.length) (hd : o' + 4 ≤ o ∨ o + 4 ≤ o') : ((List.append (List.append (r.take o) cs) (r.drop (o + 4))).drop o').take 4 = (r.drop o').take 4 := by
 apply List.ext_getElem?
 intro j
 by_cases hj : j < 4
 ·rw [List.getElem?_take, List.getElem?_take, if_pos hj, if_pos hj, List.getElem?_drop, List.getElem?_drop, qjJ hc h (by omega)]
 ·rw [List.getElem?_take, List.getElem?_take, if_neg hj, if_neg hj]
def mayB : Int → List (Int × Tm) → Bool
 | _, [] => true
 | last, p :: l => decide (last < p.1) && (decide (p.1 ≤ 99) && (decide (p.2.chk = 0) && mayB p.1 l))
def xI (n : Int) : List (Int × Tm) → Option Tm
 | [] => none
 | p :: l => if p.1 = n then some p.2 else xI n l
structure BRow (m : List (Int × Tm)) (r : List AV) : Prop where
 len : r.length = 402
 set : qkA (fun i => (xI i m).isSome) r
 cells : ∀ i : Nat, i < 100 → ∀ t, xI i m = some t → (r.drop (2 + i * 4)).take 4 = t.cells
 free : qe 0 r = true
theorem qa0 (n : Int) (p : Int × Tm) : ∀ m : List (Int × Tm), xI n (m ++ [p]) = match xI n m with | some t => some t | none => if p.1 = n then some p.2 else none
 | [] => by simp [xI]
 | q :: m => by
  rw [List.cons_append, xI, xI]
  by_cases h : q.1 = n
  ·rw [if_pos h, if_pos h]
  ·rw [if_neg h, if_neg h]; exact qa0 n p m
theorem BRow.add {m : List (Int × Tm)} {r r' : List AV} {n : Nat} {t : Tm} (h : BRow m r) (hn : n < 100) (hnew : xI n m = none)
  (h1 : qkA (fun i => (fun i : Nat => (xI i m).isSome) i || decide (i = n)) r') (h2 : r'.drop 2 = r.drop 2) (h3 : r'.length = r.length) (h4 : qe 0 r = true → qe 0 r' = true) :
  BRow (m ++ [((n : Int), t)]) (List.append (List.append (r'.take (2 + n * 4)) t.cells) (r'.drop (2 + n * 4 + 4))) := by
 have hl : r'.length = 402 := by rw [h3, h.len]
 have hc : t.cells.length = 4 := qU t
 have ho : 2 + n * 4 + 4 ≤ r'.length := by omega
 have hd : ∀ j, (r'.drop (2 + j)) = r.drop (2 + j) := by
  intro j
  rw [← List.drop_drop, ← List.drop_drop, h2]
 refine ⟨by rw [qjI hc ho, hl], ?_, fun i hi t' ht' => ?_, ?_⟩
 ·obtain ⟨lo, hi, l, rfl, a1, a2, a3, a4⟩ := h1
  obtain ⟨o, ho'⟩ : ∃ o, 2 + n * 4 = o + 2 := ⟨n * 4, by omega⟩
  have lk : ∀ i : Nat, (xI i (m ++ [((n : Int), t)])).isSome = ((xI i m).isSome || decide (i = n)) := by
   intro i
   rw [qa0]
   cases hx : xI (i : Int) m with
   | some x => rfl
   | none =>
    by_cases hi : i = n
    ·subst hi; simp
    ·have : ¬ ((n : Int) = (i : Int)) := by omega
     simp [this, hi]
  refine ⟨lo, hi, (l.take o ++ t.cells) ++ l.drop (o + 4), ?_, a1, a2, fun i hi => ?_, fun i hi => ?_⟩
  ·rw [ho']; rfl
  ·exact (a3 i hi).trans (lk i).symm
  ·exact (a4 i hi).trans (lk (i + 64)).symm
 ·rw [qa0] at ht'
  by_cases hin : i = n
  ·subst hin
   rw [hnew] at ht'
   simp at ht'
   subst ht'
   exact qiD hc ho
  ·cases hx : xI (i : Int) m with
   | none =>
    rw [hx] at ht'
    have : ¬ ((n : Int) = (i : Int)) := by omega
    simp [this] at ht'
   | some x =>
    rw [hx] at ht'
    cases ht'
    rw [qhC hc ho (by omega), hd]
    exact h.cells i hi _ hx
 ·show qe 0 ((r'.take (2 + n * 4) ++ t.cells) ++ r'.drop (2 + n * 4 + 4)) = true
  have hf := h4 h.free
  exact ye (ye (qbw hf) (qeH t)) (qbx hf)
end Go.Av
end

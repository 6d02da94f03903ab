/-
  Abstract values: a plain reading of the model's values and memory. Own work; imports the kit's model and library alone.
  What is proved: lemmas on how abstract values stand for the model's values; no condition.
-/
import Derived.RangeFuncNested
import Derived.OrdersIn
import Derived.Laws.Sem
import Derived.Laws.World
namespace Go.Av

/-- Abstract values. 'sl': a slice that nobody writes any more, row by row ('sl []' may be nil, too); 'ms': a slice over an abstract block (rows from 'off' on); 'ptr': an address in an abstract block; 'cptr': an address in memory that nobody writes any more. -/
inductive AV where
  | int (k : IntKind) (n : Int)
  | bool (b : Bool)
  | str (s : List UInt8)
  | agg (cs : List AV)
  | tup (vs : List AV)
  | nilS
  | sl (rows : List (List AV))
  | ms (id off len : Nat)
  | nilP
  | ptr (id row off : Nat)
  | cptr (cells : List AV) (off : Nat)
  | fn (f : Fn) (first caps : List AV)
  | yld (id : Nat)
  | nilF
  | nilM
  | mp (id : Nat)
  | nilI
  | ifc (t : TypeId) (v : AV)
  | junk
  deriving Inhabited

/-- Abstract blocks. 'd' of rows: they refer to no block (the contents of an 'sl' never do). 'dead': nobody may touch it any more; 'res': a place kept for a new one. -/
inductive ABlk where
  | rows (d : Bool) (sz : Nat) (rs : List (List AV))
  | froz (d : Bool) (sz : Nat) (rs : List (List AV))
  | mp (es : List (AV × AV))
  | loop (f : Nat) (fr : List AV) (ps : List Tmp) (assign body : Code) (pend : Option Code) (st : LoopState)
  | dead
  | res
  deriving Inhabited

abbrev AH := List ABlk

def ABlk.live : ABlk → Bool
  | .dead | .res | .froz _ _ _ => false
  | _ => true

/-- Where an abstract block lies: the block, the cell at which its rows begin, how many cells it may use, how many cells a row has. -/
structure MI where
  block : Nat
  base : Nat
  size : Nat
  sz : Nat

abbrev Claims := Nat → Nat → Option Value
abbrev MMap := Nat → Option MI

def AV.isCell : AV → Bool
  | .agg _ | .tup _ | .junk => false
  | _ => true

/-! ### what a value refers to -/
mutual
def AV.refsLt (k : Nat) : AV → Bool
  | .agg cs => refsLtL k cs
  | .tup cs => refsLtL k cs
  | .sl _ => true
  | .ms id _ _ => Nat.blt id k
  | .ptr id _ _ => Nat.blt id k
  | .cptr cs _ => refsLtL k cs
  | .fn _ a b => refsLtL k a && refsLtL k b
  | .yld id => Nat.blt id k
  | .mp id => Nat.blt id k
  | .ifc _ v => v.refsLt k
  | _ => true
def refsLtL (k : Nat) : List AV → Bool
  | [] => true
  | a :: l => a.refsLt k && refsLtL k l
def refsLtR (k : Nat) : List (List AV) → Bool
  | [] => true
  | a :: l => refsLtL k a && refsLtR k l
end

inductive Rep (C : Claims) (μ : MMap) : AV → Value → Prop
  | int (k : IntKind) (n : Int) : Rep C μ (.int k n) (.int k n)
  | bool (b : Bool) : Rep C μ (.bool b) (.bool b)
  | str (s : List UInt8) : Rep C μ (.str s) (.string ⟨s.toArray⟩)
  | agg (cs : List AV) (vs : List Value) (hl : cs.length = vs.length) (h : ∀ (i : Nat) a v, cs[i]? = some a → vs[i]? = some v → Rep C μ a v) : Rep C μ (.agg cs) (.agg vs.toArray)
  | tup (cs : List AV) (vs : List Value) (hl : cs.length = vs.length) (h : ∀ (i : Nat) a v, cs[i]? = some a → vs[i]? = some v → Rep C μ a v) : Rep C μ (.tup cs) (.tuple vs.toArray)
  | nilS : Rep C μ .nilS (.slice none 0 0)
  | sl (rows : List (List AV)) (a : Addr) (cap sz : Nat) (vals : Nat → Nat → Value)
      (hs : rows ≠ [] → a.spot = none)
      (hsz : ∀ (i : Nat) row, rows[i]? = some row → row.length = sz)
      (hc : ∀ (i j : Nat) row x, rows[i]? = some row → row[j]? = some x → C a.block (a.off + i * sz + j) = some (vals i j))
      (hr : ∀ (i j : Nat) row x, rows[i]? = some row → row[j]? = some x → Rep C μ x (vals i j))
      (hcell : ∀ (i j : Nat) row x, rows[i]? = some row → row[j]? = some x → x.isCell = true)
      (hcap : rows.length ≤ cap) (hfree : refsLtR 0 rows = true) : Rep C μ (.sl rows) (.slice (some a) rows.length cap)
  | slNil : Rep C μ (.sl []) (.slice none 0 0)
  | ms (id off len cap : Nat) (a : Addr) (m : MI) (hm : μ id = some m) (hl : len ≤ cap)
      (ha : cap ≠ 0 → a = ⟨m.block, m.base + off * m.sz, none⟩ ∧ (off + cap) * m.sz ≤ m.size) : Rep C μ (.ms id off len) (.slice (some a) len cap)
  | nilP : Rep C μ .nilP (.pointer none)
  | ptr (id row off : Nat) (m : MI) (hm : μ id = some m) : Rep C μ (.ptr id row off) (.pointer (some ⟨m.block, m.base + row * m.sz + off, none⟩))
  | cptr (cells : List AV) (off b o : Nat) (vals : Nat → Value)
      (hc : ∀ (j : Nat) x, cells[j]? = some x → C b (o + j) = some (vals j)) (hr : ∀ (j : Nat) x, cells[j]? = some x → Rep C μ x (vals j)) :
      Rep C μ (.cptr cells off) (.pointer (some ⟨b, o + off, none⟩))
  | fn (f : Fn) (first caps : List AV) (vf vc : List Value) (hl1 : first.length = vf.length) (hl2 : caps.length = vc.length)
      (h1 : ∀ (i : Nat) a v, first[i]? = some a → vf[i]? = some v → Rep C μ a v) (h2 : ∀ (i : Nat) a v, caps[i]? = some a → vc[i]? = some v → Rep C μ a v) :
      Rep C μ (.fn f first caps) (.func f vf.toArray vc.toArray)
  | yld (id : Nat) (m : MI) (hm : μ id = some m) : Rep C μ (.yld id) (.func (.yield m.block) #[] #[])
  | nilF : Rep C μ .nilF .nilFunc
  | nilM : Rep C μ .nilM (.map none)
  | mp (id : Nat) (m : MI) (hm : μ id = some m) : Rep C μ (.mp id) (.map (some m.block))
  | nilI : Rep C μ .nilI .nilIface
  | ifc (t : TypeId) (a : AV) (v : Value) (h : Rep C μ a v) : Rep C μ (.ifc t a) (.iface t v)
  | junk (v : Value) : Rep C μ .junk v
end Go.Av

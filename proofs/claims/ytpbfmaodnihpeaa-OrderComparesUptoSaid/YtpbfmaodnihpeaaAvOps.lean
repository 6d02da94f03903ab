/-
  The operations that only compute. Own work.
  What is proved: each runs as the abstract evaluation says; no condition.
-/
import Derived.Test.YtpbfmaodnihpeaaAvMem
import Derived.Laws.Strings
import Derived.Laws.Small
namespace Go.Av
variable {C C' : Claims} {μ μ' : MMap} {H H' : AH} {w w' : World} {P : Program}

structure CfgTy (cfg : Cfg) : Prop where
  ty : ∀ t ti, cfg.ty t = some ti → tiOf cfg.P t = some ti

theorem CfgTy.sz {cfg : Cfg} (h : CfgTy cfg) {t : TypeId} {n : Nat} (hs : cfg.sz t = some n) : ∃ ti, tiOf cfg.P t = some ti ∧ ti.sz = n := by
  unfold Cfg.sz at hs
  split at hs
  · rename_i ti hti
    cases hs
    exact ⟨ti, h.ty _ _ hti, rfl⟩
  · cases hs
theorem CfgTy.td {cfg : Cfg} (h : CfgTy cfg) {t : TypeId} {d : TD} (hs : cfg.td t = some d) : ∃ ti u, tiOf cfg.P t = some ti ∧ ti.d = d ∧ cfg.P.underlying t = some u ∧ tdOf u = d := by
  unfold Cfg.td at hs
  split at hs
  · rename_i ti hti
    cases hs
    have h1 := h.ty _ _ hti
    obtain ⟨i, u, z, e1, e2, e3, e4⟩ := tiOf_spec h1
    exact ⟨ti, u, h1, rfl, e2, by rw [e4]⟩
  · cases hs

/-! ### scalars -/
theorem fromSem_sound {s : Sem Value} {a : AV} (h : fromSem s = some a) : ∃ v, s = .pure v ∧ Rep C μ a v := by
  unfold fromSem at h
  split at h
  · cases h; exact ⟨_, rfl, .int _ _⟩
  · cases h; exact ⟨_, rfl, .bool _⟩
  · cases h

theorem aStr_sound {op : BinOp} {a b : List UInt8} {r : AV} (h : aStr op a b = some r) (t : TypeId) : ∃ v, (binOp op t (.string ⟨a.toArray⟩) (.string ⟨b.toArray⟩)).run P w = .ok v w ∧ Rep C μ r v := by
  have ta : (⟨a.toArray⟩ : ByteArray).toList = a := by rw [ByteArray.toList_eq]
  have tb : (⟨b.toArray⟩ : ByteArray).toList = b := by rw [ByteArray.toList_eq]
  unfold aStr at h
  split at h
  · split at h
    · rename_i hle
      cases h
      refine ⟨.string (⟨a.toArray⟩ ++ ⟨b.toArray⟩), ?_, ?_⟩
      · have : ¬ (((⟨a.toArray⟩ : ByteArray).size + (⟨b.toArray⟩ : ByteArray).size : Nat) : Int) > IntKind.i64.max := by
          simp [ByteArray.size]; omega
        simp only [binOp, Op.stringOp]
        rw [if_neg this]
        rfl
      · have e : (⟨a.toArray⟩ ++ ⟨b.toArray⟩ : ByteArray) = ⟨(a ++ b).toArray⟩ := by
          apply ByteArray.ext
          simp [ByteArray.data_append]
        rw [e]; exact .str _
    · cases h
  all_goals first
    | (cases h; refine ⟨_, ?_, .bool _⟩; simp [binOp, Op.stringOp, ta, tb])
    | cases h

theorem isNil_some {d : TD} {x : AV} {b : Bool} {vx : Value} (h : x.isNil d = some b) (hx : Rep C μ x vx) :
    (∃ e, d = .slice e ∧ ∃ a n c, vx = .slice a n c ∧ a.isNone = b) ∨ (∃ e, d = .ptr e ∧ ∃ a, vx = .pointer a ∧ a.isNone = b) ∨ (∃ k e, d = .map k e ∧ ∃ a, vx = .map a ∧ a.isNone = b) ∨
    (d = .func ∧ ((b = true ∧ vx = .nilFunc) ∨ (b = false ∧ ∃ f x y, vx = .func f x y))) := by
  unfold AV.isNil at h
  split at h <;> first
    | cases h
    | skip
  all_goals cases hx
  all_goals first
    | exact .inl ⟨_, rfl, _, _, _, rfl, rfl⟩
    | exact .inr (.inl ⟨_, rfl, _, rfl, rfl⟩)
    | exact .inr (.inr (.inl ⟨_, _, rfl, _, rfl, rfl⟩))
    | exact .inr (.inr (.inr ⟨rfl, .inl ⟨rfl, rfl⟩⟩))
    | exact .inr (.inr (.inr ⟨rfl, .inr ⟨rfl, _, _, _, rfl⟩⟩))

theorem eqIn_slice {t e : TypeId} (hu : P.underlying t = some (.slice e)) (d : Nat) (a b : Option Addr) (n c n' c' : Nat) (h : a.isNone = true ∨ b.isNone = true) (w : World) :
    (Op.equalIn (d + 1) t (.slice a n c) (.slice b n' c')).run P w = .ok (a.isNone && b.isNone) w := by
  cases a <;> cases b <;> simp at h <;> simp [Op.equalIn, run_underlying hu]
theorem eqIn_ptr {t e : TypeId} (hu : P.underlying t = some (.pointer e)) (d : Nat) (a b : Option Addr) (h : a.isNone = true ∨ b.isNone = true) (w : World) :
    (Op.equalIn (d + 1) t (.pointer a) (.pointer b)).run P w = .ok (a.isNone && b.isNone) w := by
  cases a <;> cases b <;> simp at h <;> simp [Op.equalIn, run_underlying hu]
theorem eqIn_map {t k e : TypeId} (hu : P.underlying t = some (.map k e)) (d : Nat) (a b : Option Nat) (h : a.isNone = true ∨ b.isNone = true) (w : World) :
    (Op.equalIn (d + 1) t (.map a) (.map b)).run P w = .ok (a.isNone && b.isNone) w := by
  cases a <;> cases b <;> simp at h <;> simp [Op.equalIn, run_underlying hu]
theorem eqIn_func {t : TypeId} {x y : Array TypeId} {z : Bool} (hu : P.underlying t = some (.func x y z)) (d : Nat) (w : World) :
    (Op.equalIn (d + 1) t .nilFunc .nilFunc).run P w = .ok true w ∧ (∀ f a b, (Op.equalIn (d + 1) t .nilFunc (.func f a b)).run P w = .ok false w) ∧ (∀ f a b, (Op.equalIn (d + 1) t (.func f a b) .nilFunc).run P w = .ok false w) :=
  ⟨by simp [Op.equalIn, run_underlying hu], fun f a b => by simp [Op.equalIn, run_underlying hu], fun f a b => by simp [Op.equalIn, run_underlying hu]⟩

theorem aNilEq_sound {d : TD} {x y : AV} {b : Bool} {vx vy : Value} {t : TypeId} {u : TypeDesc} (hu : P.underlying t = some u) (hd : tdOf u = d) (h : aNilEq d x y = some b) (hx : Rep C μ x vx) (hy : Rep C μ y vy) (o1 o2 : Operand) (op : BinOp) :
    (Op.equal t vx vy).run P w = .ok b w ∧ eqGuard op t o1 o2 vx vy = pure () ∧ (op = .eql → binOp op t vx vy = (do pure (.bool (← Op.equal t vx vy)))) ∧ (op = .neq → binOp op t vx vy = (do pure (.bool (!(← Op.equal t vx vy))))) := by
  unfold aNilEq at h
  have key : ∃ bx by', x.isNil d = some bx ∧ y.isNil d = some by' ∧ b = (bx && by') ∧ (bx = true ∨ by' = true) := by
    split at h
    · rename_i b' h1 h2
      cases h
      exact ⟨_, _, h1, h2, by simp, .inl rfl⟩
    · rename_i h1 h2
      cases h
      exact ⟨_, _, h1, h2, rfl, .inr rfl⟩
    · cases h
  obtain ⟨bx, by', h1, h2, rfl, hb⟩ := key
  subst hd
  have he : ∀ x y, Op.equal t x y = Op.equalIn (9999 + 1) t x y := fun _ _ => rfl
  rcases isNil_some h1 hx with ⟨e, hd, a, n, c, rfl, ha⟩ | ⟨e, hd, a, rfl, ha⟩ | ⟨k, e, hd, a, rfl, ha⟩ | ⟨hd, ha⟩
  · rcases isNil_some h2 hy with ⟨e', hd', a', n', c', rfl, ha'⟩ | ⟨e', hd', a', rfl, ha'⟩ | ⟨k', e', hd', a', rfl, ha'⟩ | ⟨hd', ha'⟩
    · have hu' := td_slice hd; subst hu'
      refine ⟨?_, by cases op <;> rfl, fun h => by subst h; rfl, fun h => by subst h; rfl⟩
      rw [he, eqIn_slice hu _ _ _ _ _ _ _ (by rw [ha, ha']; exact hb), ha, ha']
    all_goals (rw [hd] at hd'; cases hd')
  · rcases isNil_some h2 hy with ⟨e', hd', a', n', c', rfl, ha'⟩ | ⟨e', hd', a', rfl, ha'⟩ | ⟨k', e', hd', a', rfl, ha'⟩ | ⟨hd', ha'⟩
    · rw [hd] at hd'; cases hd'
    · have hu' := td_ptr hd; subst hu'
      refine ⟨?_, by cases op <;> rfl, fun h => by subst h; rfl, fun h => by subst h; rfl⟩
      rw [he, eqIn_ptr hu _ _ _ (by rw [ha, ha']; exact hb), ha, ha']
    all_goals (rw [hd] at hd'; cases hd')
  · rcases isNil_some h2 hy with ⟨e', hd', a', n', c', rfl, ha'⟩ | ⟨e', hd', a', rfl, ha'⟩ | ⟨k', e', hd', a', rfl, ha'⟩ | ⟨hd', ha'⟩
    · rw [hd] at hd'; cases hd'
    · rw [hd] at hd'; cases hd'
    · have hu' := td_map hd; subst hu'
      refine ⟨?_, by cases op <;> rfl, fun h => by subst h; rfl, fun h => by subst h; rfl⟩
      rw [he, eqIn_map hu _ _ _ (by rw [ha, ha']; exact hb), ha, ha']
    · rw [hd] at hd'; cases hd'
  · rcases isNil_some h2 hy with ⟨e', hd', a', n', c', rfl, ha'⟩ | ⟨e', hd', a', rfl, ha'⟩ | ⟨k', e', hd', a', rfl, ha'⟩ | ⟨hd', ha'⟩
    · rw [hd] at hd'; cases hd'
    · rw [hd] at hd'; cases hd'
    · rw [hd] at hd'; cases hd'
    · obtain ⟨a, b', c, rfl⟩ := td_func hd
      obtain ⟨f1, f2, f3⟩ := eqIn_func hu 9999 w
      rcases ha with ⟨rfl, rfl⟩ | ⟨rfl, f, x1, y1, rfl⟩ <;> rcases ha' with ⟨rfl, rfl⟩ | ⟨rfl, f', x2, y2, rfl⟩
      · exact ⟨by rw [he]; exact f1, by cases op <;> cases o1 <;> cases o2 <;> rfl, fun h => by subst h; rfl, fun h => by subst h; rfl⟩
      · exact ⟨by rw [he]; exact f2 _ _ _, by cases op <;> rfl, fun h => by subst h; rfl, fun h => by subst h; rfl⟩
      · exact ⟨by rw [he]; exact f3 _ _ _, by cases op <;> rfl, fun h => by subst h; rfl, fun h => by subst h; rfl⟩
      · simp at hb

theorem aBin_sound {cfg : Cfg} (hc : CfgTy cfg) {op : BinOp} {t : TypeId} {x y r : AV} {vx vy : Value} (h : aBin cfg op t x y = some r) (hx : Rep C μ x vx) (hy : Rep C μ y vy) (o1 o2 : Operand) :
    ∃ v, (do eqGuard op t o1 o2 vx vy; binOp op t vx vy : Sem Value).run cfg.P w = .ok v w ∧ Rep C μ r v := by
  unfold aBin at h
  split at h
  · cases hx; cases hy
    obtain ⟨v, e1, e2⟩ := fromSem_sound (C := C) (μ := μ) h
    refine ⟨v, ?_, e2⟩
    rw [eqGuard_at_int, e1]
    rfl
  · cases hx; cases hy
    obtain ⟨v, e1, e2⟩ := aStr_sound (P := cfg.P) (w := w) (C := C) (μ := μ) h t
    refine ⟨v, ?_, e2⟩
    rw [eqGuard_at_string]
    simpa using e1
  · cases hx; cases hy
    rename_i a b
    split at h
    · rename_i ht
      cases h
      obtain ⟨ti, u, _, _, hu, hd⟩ := hc.td ht
      have := td_bool hd; subst this
      exact ⟨_, by rw [eqGuard_at_bool]; simp [run_eql_bool w t a b hu], .bool _⟩
    · rename_i ht
      cases h
      obtain ⟨ti, u, _, _, hu, hd⟩ := hc.td ht
      have := td_bool hd; subst this
      exact ⟨_, by rw [eqGuard_at_bool]; simp [run_neq_bool w t a b hu], .bool _⟩
    · cases h
  · split at h
    · rename_i d ht
      obtain ⟨b, hb, rfl⟩ := Option.map_eq_some_iff.1 h
      obtain ⟨ti, u, _, _, hu, hd⟩ := hc.td ht
      obtain ⟨e1, e2, e3, _⟩ := aNilEq_sound (w := w) hu hd hb hx hy o1 o2 .eql
      exact ⟨.bool b, by rw [e2, e3 rfl]; simp [e1], .bool _⟩
    · rename_i d ht
      obtain ⟨b, hb, rfl⟩ := Option.map_eq_some_iff.1 h
      obtain ⟨ti, u, _, _, hu, hd⟩ := hc.td ht
      obtain ⟨e1, e2, _, e3⟩ := aNilEq_sound (w := w) hu hd hb hx hy o1 o2 .neq
      exact ⟨.bool (!b), by rw [e2, e3 rfl]; simp [e1], .bool _⟩
    · cases h

theorem aUn_sound {op : UnOp} {x r : AV} {vx : Value} (h : aUn op x = some r) (hx : Rep C μ x vx) : ∃ v, (Op.unary op vx).run P w = .ok v w ∧ Rep C μ r v := by
  unfold aUn at h
  split at h
  · cases hx
    obtain ⟨v, e1, e2⟩ := fromSem_sound (C := C) (μ := μ) h
    exact ⟨v, by rw [e1]; rfl, e2⟩
  · cases hx
    obtain ⟨v, e1, e2⟩ := fromSem_sound (C := C) (μ := μ) h
    exact ⟨v, by rw [e1]; rfl, e2⟩
  · cases h

/-! ### parts of values -/
theorem aPart_sound {cfg : Cfg} (hc : CfgTy cfg) {t : TypeId} {cs : List AV} {off : Nat} {r : AV} {vs : List Value} (h : aPart cfg t cs off = some r) (hl : cs.length = vs.length)
    (hr : ∀ (i : Nat) a v, cs[i]? = some a → vs[i]? = some v → Rep C μ a v) : ∃ v, (part t vs.toArray off).run cfg.P w = .ok v w ∧ Rep C μ r v := by
  unfold aPart at h
  split at h
  · rename_i ti hti
    have ht := hc.ty _ _ hti
    simp only [part, Sem.run_bind, run_isAgg ht, Result.andThen_ok]
    cases hagg : ti.d.agg with
    | true =>
      rw [hagg] at h
      simp only [if_true] at h
      split at h
      · rename_i hle
        rw [Nat.ble_eq] at hle
        cases h
        refine ⟨.agg ((vs.drop off).take ti.sz).toArray, ?_, .agg _ _ (by simp [hl]) (fun i a v h1 h2 => ?_)⟩
        · simp [run_sizeOf ht]
        · obtain ⟨_, h1⟩ := drop_take_get h1
          obtain ⟨_, h2⟩ := drop_take_get h2
          exact hr _ a v h1 h2
      · cases h
    | false =>
      rw [hagg] at h
      simp only [Bool.false_eq_true, if_false] at h
      have hlt : off < vs.length := by rw [← hl]; exact (List.getElem?_eq_some_iff.1 h).1
      refine ⟨vs[off], by simp [hlt], hr off r _ h (List.getElem?_eq_getElem hlt)⟩
  · cases h

theorem aField_sound {cfg : Cfg} (hc : CfgTy cfg) {t : TypeId} {x : AV} {f : Nat} {r : AV} {vx : Value} (h : aField cfg t x f = some r) (hx : Rep C μ x vx) : ∃ v, (Instr.field t vx f).run cfg.P w = .ok v w ∧ Rep C μ r v := by
  unfold aField at h
  split at h
  · rename_i fs cs ht
    split at h
    · rename_i off ft hf
      cases hx with
      | agg _ vs hl hr =>
        obtain ⟨ti, u, _, _, hu, hd⟩ := hc.td ht
        obtain ⟨flds, rfl, rfl⟩ := td_struct hd
        obtain ⟨fl, hfl, he⟩ := getElem?_map' hf
        cases he
        obtain ⟨v, e1, e2⟩ := aPart_sound hc (w := w) h hl hr
        have hfl' : flds[f]? = some fl := by simpa using hfl
        exact ⟨v, by simp [Instr.field, run_underlying hu, hfl', asAgg, e1], e2⟩
    · cases h
  · cases h

theorem aIndex_sound {cfg : Cfg} (hc : CfgTy cfg) {t : TypeId} {x i : AV} {r : AV} {vx vi : Value} (h : aIndex cfg t x i = some r) (hx : Rep C μ x vx) (hi : Rep C μ i vi) : ∃ v, (Instr.index t vx vi).run cfg.P w = .ok v w ∧ Rep C μ r v := by
  unfold aIndex at h
  split at h
  · rename_i n e cs k i ht
    split at h
    · rename_i sz hsz
      split at h
      · rename_i hb
        cases hi
        cases hx with
        | agg _ vs hl hr =>
          obtain ⟨ti, u, _, _, hu, hd⟩ := hc.td ht
          have := td_array hd; subst this
          obtain ⟨te, hte, rfl⟩ := hc.sz hsz
          obtain ⟨v, e1, e2⟩ := aPart_sound hc (w := w) h hl hr
          exact ⟨v, by simp [Instr.index, asIntOf, run_underlying hu, hb, run_sizeOf hte, e1], e2⟩
      · cases h
    · cases h
  · rename_i s k i ht
    split at h
    · rename_i hb
      split at h
      · rename_i b hs
        cases h; cases hi; cases hx
        obtain ⟨ti, u, _, _, hu, hd⟩ := hc.td ht
        have := td_str hd; subst this
        refine ⟨.int .u8 b.toNat, ?_, .int _ _⟩
        have hlt : i.toNat < s.length := (List.getElem?_eq_some_iff.1 hs).1
        have hg : (⟨s.toArray⟩ : ByteArray)[i.toNat]? = some b := by
          rw [getElem?_pos _ _ (by simpa [ByteArray.size] using hlt)]
          rw [List.getElem?_eq_getElem hlt] at hs
          simpa [ByteArray.getElem_eq_getElem_data] using hs
        simp [Instr.index, asIntOf, run_underlying hu, hb, hg]
      · cases h
    · cases h
  · cases h

theorem aFieldAddr_sound {cfg : Cfg} (hc : CfgTy cfg) {t : TypeId} {x : AV} {f : Nat} {r : AV} {vx : Value} (h : aFieldAddr cfg t x f = some r) (hx : Rep C μ x vx) : ∃ v, (Instr.fieldAt t vx f).run cfg.P w = .ok v w ∧ Rep C μ r v := by
  unfold aFieldAddr at h
  split at h
  · rename_i fs ht
    split at h
    · rename_i o ft hf
      obtain ⟨ti, u, _, _, hu, hd⟩ := hc.td ht
      obtain ⟨flds, rfl, rfl⟩ := td_struct hd
      obtain ⟨fl, hfl, he⟩ := getElem?_map' hf
      cases he
      have hfl' : flds[f]? = some fl := by simpa using hfl
      split at h
      · rename_i n id r' off hsz
        cases h
        cases hx with
        | ptr _ _ _ m hm =>
          obtain ⟨te, hte, he⟩ := hc.sz hsz
          have hne : ¬ te.sz = 0 := by omega
          refine ⟨.pointer (some ⟨m.block, m.base + r' * m.sz + (off + fl.offset), none⟩), ?_, .ptr id r' _ m hm⟩
          simp [Instr.fieldAt, run_underlying hu, hfl', Instr.sureAddr, fieldPlace, run_sizeOf hte, hne, addr_add, Nat.add_assoc]
      · rename_i n cs off hsz
        cases h
        cases hx with
        | cptr _ _ b o' vals h1 h2 =>
          obtain ⟨te, hte, he⟩ := hc.sz hsz
          have hne : ¬ te.sz = 0 := by omega
          refine ⟨.pointer (some ⟨b, o' + (off + fl.offset), none⟩), ?_, .cptr cs _ b o' vals h1 h2⟩
          simp [Instr.fieldAt, run_underlying hu, hfl', Instr.sureAddr, fieldPlace, run_sizeOf hte, hne, addr_add, Nat.add_assoc]
      · cases h
    · cases h
  · cases h

theorem aIndexAddr_sound {cfg : Cfg} (hc : CfgTy cfg) (h : Wld C μ H w) {t : TypeId} {x i : AV} {r : AV} {vx vi : Value} (he : aIndexAddr cfg t H x i = some r) (hx : Rep C μ x vx) (hi : Rep C μ i vi) :
    ∃ v, (Instr.indexAt t vx vi).run cfg.P w = .ok v w ∧ Rep C μ r v := by
  unfold aIndexAddr at he
  split at he
  · -- an owned slice
    rename_i e id off len k i ht
    split at he
    · rename_i n sz rs hsz hb
      split at he
      · rename_i hcond
        cases he; cases hi
        obtain ⟨hsn, h0, h1⟩ := hcond
        obtain ⟨ti, u, _, _, hu, hd⟩ := hc.td ht
        have := td_slice hd; subst this
        obtain ⟨te, hte, rfl⟩ := hc.sz hsz
        cases hx with
        | ms _ _ _ cap a m hm hl ha =>
          have hcap : cap ≠ 0 := by omega
          obtain ⟨rfl, hfit⟩ := ha hcap
          have hmsz : sz = m.sz := by
            unfold blkRows at hb
            split at hb
            · rename_i hh; cases hb; obtain ⟨m', e1, _, _, e2, _⟩ := h.live id _ hh rfl; rw [hm] at e1; cases e1; exact e2
            · rename_i hh; cases hb; obtain ⟨m', e1, e2, _⟩ := h.froz id _ _ _ hh; rw [hm] at e1; cases e1; exact e2
            · cases hb
          refine ⟨.pointer (some ⟨m.block, m.base + (off + i.toNat) * m.sz + 0, none⟩), ?_, .ptr id _ 0 m hm⟩
          have hszz : te.sz = m.sz := by simp at hsn; omega
          simp [Instr.indexAt, asIntOf, run_underlying hu, h0, h1, run_sizeOf hte, addr_add, hszz, Nat.add_mul, Nat.add_assoc]
      · cases he
    · cases he
  · -- a slice that stays
    rename_i e rows k i ht
    split at he
    · rename_i n hsz
      split at he
      · rename_i hb
        split at he
        · rename_i row hrow
          split at he
          · rename_i hlen
            cases he; cases hi
            obtain ⟨ti, u, _, _, hu, hd⟩ := hc.td ht
            have := td_slice hd; subst this
            obtain ⟨te, hte, rfl⟩ := hc.sz hsz
            cases hx with
            | slNil => simp at hb; omega
            | sl _ a cap sz vals hs hsz' hcl hr hcell hcap hfree =>
              have hne : rows ≠ [] := by rintro rfl; simp at hb; omega
              have hspot := hs hne
              have hsz2 : sz = te.sz := by
                have := hsz' _ row hrow
                simp at hlen
                omega
              refine ⟨.pointer (some ⟨a.block, a.off + i.toNat * sz + 0, none⟩), ?_, .cptr row 0 a.block (a.off + i.toNat * sz) (fun j => vals i.toNat j) (fun j x hj => hcl _ _ row x hrow hj) (fun j x hj => hr _ _ row x hrow hj)⟩
              simp [Instr.indexAt, asIntOf, run_underlying hu, hb, run_sizeOf hte, addr_add' _ _ hspot, hsz2]
          · cases he
        · cases he
      · cases he
    · cases he
  · rename_i n e id r' off k i ht
    split at he
    · rename_i sz hsz
      split at he
      · rename_i hb
        cases he; cases hi
        obtain ⟨ti, u, _, _, hu, hd⟩ := hc.td ht
        have := td_array hd; subst this
        obtain ⟨te, hte, rfl⟩ := hc.sz hsz
        cases hx with
        | ptr _ _ _ m hm =>
          refine ⟨.pointer (some ⟨m.block, m.base + r' * m.sz + (off + i.toNat * te.sz), none⟩), ?_, .ptr id r' _ m hm⟩
          simp [Instr.indexAt, asIntOf, run_underlying hu, Instr.sureAddr, hb, run_sizeOf hte, addr_add, Nat.add_assoc]
      · cases he
    · cases he
  · rename_i n e cs off k i ht
    split at he
    · rename_i sz hsz
      split at he
      · rename_i hb
        cases he; cases hi
        obtain ⟨ti, u, _, _, hu, hd⟩ := hc.td ht
        have := td_array hd; subst this
        obtain ⟨te, hte, rfl⟩ := hc.sz hsz
        cases hx with
        | cptr _ _ b o' vals h1 h2 =>
          refine ⟨.pointer (some ⟨b, o' + (off + i.toNat * te.sz), none⟩), ?_, .cptr cs _ b o' vals h1 h2⟩
          simp [Instr.indexAt, asIntOf, run_underlying hu, Instr.sureAddr, hb, run_sizeOf hte, addr_add, Nat.add_assoc]
      · cases he
    · cases he
  · cases he
end Go.Av

/-
  Conversions, new variables, lists of values, lengths. Own work.
  What is proved: each runs as the abstract evaluation says; no condition.
-/
import Derived.Test.YtpbfmaodnihpeaaAvOps5
namespace Go.Av
variable {C C' : Claims} {μ μ' : MMap} {H H' : AH} {w w' : World} {P : Program}

theorem Grew.bytes (w : World) (e : TypeId) (s : ByteArray) : Grew w (Lib.bytesWorld w e s) (Lib.bytesCells w e s) e :=
  ⟨rfl, rfl, rfl, Lib.bytesWorld_size w e s, fun b hb => Lib.bytesWorld_at_old w e s b hb, ⟨_, Lib.bytesWorld_at_new w e s, fun o ho h => by simp at h; omega⟩⟩

theorem bytesOfRows_cons {r : List AV} {l : List (List AV)} {bs : List UInt8} (h : bytesOfRows (r :: l) = some bs) :
    ∃ n bs', r = [.int .u8 n] ∧ 0 ≤ n ∧ n < 256 ∧ bytesOfRows l = some bs' ∧ bs = UInt8.ofNat n.toNat :: bs' := by
  unfold bytesOfRows at h
  split at h
  · rename_i hh; cases hh
  · rename_i n l' hh
    cases hh
    split at h
    · rename_i hb
      split at h
      · rename_i bs' hbs
        cases h
        exact ⟨n, bs', rfl, hb.1, hb.2, hbs, rfl⟩
      · cases h
    · cases h
  · cases h

theorem flat_bytes : ∀ {rows : List (List AV)} {bs : List UInt8} {vs : List Value}, bytesOfRows rows = some bs → FlatRep C μ 1 rows vs →
    ∃ ns : List Int, vs = ns.map (Value.int .u8) ∧ ∀ r : ByteArray, ns.foldl (fun r n => r.push (UInt8.ofNat n.toNat)) r = ⟨r.data ++ bs.toArray⟩
  | [], bs, vs, h, hf => by
    simp [bytesOfRows] at h; subst h
    have : vs = [] := List.eq_nil_of_length_eq_zero (by simpa using hf.1)
    subst this
    exact ⟨[], rfl, fun r => by simp⟩
  | r :: l, bs, vs, h, hf => by
    obtain ⟨n, bs', rfl, h0, h1, h2, rfl⟩ := bytesOfRows_cons h
    obtain ⟨_, hr⟩ := hf.2 0 _ rfl
    obtain ⟨_, v, hv, hrep⟩ := hr 0 _ rfl
    cases hrep
    cases vs with
    | nil => simp at hv
    | cons v vs =>
      simp at hv; subst hv
      have hd := hf.drop 1
      simp at hd
      obtain ⟨ns, e1, e2⟩ := flat_bytes h2 hd
      refine ⟨n :: ns, by simp [e1], fun r => ?_⟩
      simp only [List.foldl_cons, e2]
      simp [ByteArray.push]

theorem aConvert_sound {cfg : Cfg} (hc : CfgTy cfg) (h : Wld C μ H w) {nid : Option Nat} {src dst : TypeId} {x r : AV} {vx : Value} (he : aConvert cfg nid src dst x H = some (r, H')) (hx : Rep C μ x vx) :
    Runs cfg.P (convert src dst vx) C μ H w r H' := by
  unfold aConvert at he
  split at he
  · rename_i sd k k' n hs hd
    cases he; cases hx
    obtain ⟨_, us, _, _, hus, _⟩ := hc.td hs
    obtain ⟨_, ud, _, _, hud, hd'⟩ := hc.td hd
    have := td_int hd'; subst this
    exact Runs.pure' h ⟨.int k (k.wrap n), by simp [convert, run_underlying hus, run_underlying hud, Conv.intToInt], .int _ _⟩
  · rename_i sd s hs hd
    cases he; cases hx
    obtain ⟨_, us, _, _, hus, _⟩ := hc.td hs
    obtain ⟨_, ud, _, _, hud, hd'⟩ := hc.td hd
    have := td_str hd'; subst this
    exact Runs.pure' h ⟨_, by simp [convert, run_underlying hus, run_underlying hud], .str _⟩
  · rename_i sd e s hs hd
    obtain ⟨_, us, _, _, hus, _⟩ := hc.td hs
    obtain ⟨_, ud, _, _, hud, hd'⟩ := hc.td hd
    have := td_slice hd'; subst this
    split at he
    case h_2 => cases he
    rename_i hte
    obtain ⟨_, ue, _, _, hue, he'⟩ := hc.td hte
    have := td_int he'; subst this
    split at he
    case h_2 => cases he
    rename_i k H1 hnew
    cases he; cases hx
    have hrun := Lib.run_convert_string_bytes w src dst e ⟨s.toArray⟩ hus hud hue
    have hsz : (⟨s.toArray⟩ : ByteArray).size = s.length := by simp [ByteArray.size]
    have hge : s.length ≤ grownCap w s.length 0 e := by unfold grownCap Question.cut; exact Nat.le_add_right _ _
    have hcs : (Lib.bytesCells w e ⟨s.toArray⟩).size = grownCap w s.length 0 e := by
      simp [Lib.bytesCells, hsz]; omega
    have hfl := byteRows_flat (C := C) (μ := μ) s
    obtain ⟨g1, g2, g3⟩ := new_rows h (Grew.bytes w e ⟨s.toArray⟩) hnew (by rw [hcs, byteRows_len]; omega) (fun i row hi' => ⟨(hfl.2 i row hi').1, fun j y hj => by
      obtain ⟨c1, v, c2, c3⟩ := (hfl.2 i row hi').2 j y hj
      refine ⟨c1, v, ?_, c3⟩
      have hlt := (List.getElem?_eq_some_iff.1 c2).1
      unfold Lib.bytesCells
      rw [Array.getElem?_append_left (by simpa using hlt)]
      simpa using c2⟩) (fun _ => refsLtR_bytes s)
    rw [hsz] at hrun
    refine ⟨_, _, C, _, hrun, .ms k 0 s.length _ _ _ (by unfold upd; rw [if_pos rfl]) hge (fun _ => ⟨by simp, ?_⟩), g1, g2 _ (Nat.le_refl _)⟩
    show (0 + grownCap w s.length 0 e) * 1 ≤ (Lib.bytesCells w e ⟨s.toArray⟩).size
    rw [hcs]; omega
  · rename_i e hs hd _
    split at he
    case h_2 => cases he
    rename_i rows hte hrows
    split at he
    case h_2 => cases he
    rename_i bs hbs
    cases he
    obtain ⟨_, us, _, _, hus, hs'⟩ := hc.td hs
    have := td_slice hs'; subst this
    obtain ⟨_, ud, _, _, hud, hd'⟩ := hc.td hd
    have := td_str hd'; subst this
    obtain ⟨_, ue, _, _, hue, he'⟩ := hc.td hte
    have := td_int he'; subst this
    obtain ⟨a, cap, vs, rfl, e2, e3, e4, _, e6⟩ := rows_read (P := cfg.P) h (n := 1) (by omega) hx hrows
    obtain ⟨ns, f1, f2⟩ := flat_bytes hbs e3
    refine Runs.pure' h ⟨.string ⟨bs.toArray⟩, ?_, .str _⟩
    rw [run_convert_bytes_string w src dst e a rows.length cap hus hue hud]
    have hfc := e4 w rfl
    cases a with
    | none =>
      have : rows = [] := e6 rfl
      subst this
      simp [bytesOfRows] at hbs; subst hbs
      simp [Conv.bytesToString]; rfl
    | some a =>
      have hl : (loadCells a rows.length).run cfg.P w = .ok (ns.map (Value.int .u8)).toArray w := by
        simp [Builtin.firstCells] at hfc
        rw [← f1]; exact hfc
      rw [run_bytesToString w a rows.length cap ns hl, f2]
      have he0 : ByteArray.empty.data = #[] := rfl
      rw [he0]; simp
  · cases he

/-! ### new variables -/
theorem newVar_sound (h : Wld C μ H w) {nid : Option Nat} {k : Nat} {t : TypeId} {v : Value} {cs : List AV} {vs : List Value} (hv : v.cells = vs.toArray) (hcs : CellsRep C μ cs vs)
    (hn : aNew nid H (.rows false cs.length [cs]) = some (k, H')) : Runs P (do pure (.pointer (some (← newVar t v)))) C μ H w (.ptr k 0 0) H' := by
  have hfl := FlatRep.one_row rfl hcs
  have hg : Grew w (w.alloc (.cells vs.toArray t)) vs.toArray t := Grew.alloc _ _ _
  obtain ⟨g1, g2, g3⟩ := new_rows h hg hn (by simp [hcs.1]) (fun i row hi' => ⟨(hfl.2 i row hi').1, fun j y hj => by
    obtain ⟨c1, v, c2, c3⟩ := (hfl.2 i row hi').2 j y hj
    exact ⟨c1, v, by simpa using c2, c3⟩⟩) (fun h => by cases h)
  refine ⟨_, _, C, _, ?_, .ptr k 0 0 ⟨w.heap.size, 0, vs.toArray.size, cs.length⟩ (by unfold upd; rw [if_pos rfl]), g1, g2 _ (Nat.le_refl _)⟩
  simp [newVar, newRow, hv]

theorem alloc_sound {cfg : Cfg} (hc : CfgTy cfg) (h : Wld C μ H w) {nid : Option Nat} {t ty : TypeId} {x : Operand → AV} {r : AV} (he : evOp cfg nid (.alloc t) ty x H = some (r, H')) :
    Runs cfg.P (Instr.alloc t true (.tuple #[])) C μ H w r H' := by
  simp only [evOp] at he
  split at he
  case h_2 => cases he
  rename_i ti hti
  split at he
  case isFalse => cases he
  rename_i hall
  split at he
  case h_2 => cases he
  rename_i k H1 hnew
  cases he
  obtain ⟨z, hz1, hz2⟩ := run_zeroValue (hc.ty _ _ hti) w
  obtain ⟨v, w', C', μ', e1, e2, e3, e4⟩ := newVar_sound (P := cfg.P) (t := t) (v := z) (vs := z.cells.toList) h (by simp) ((zero_cells hz2 hall).fgs cfg t) (by rw [fgs_length]; exact hnew)
  refine ⟨v, w', C', μ', ?_, e2, e3, e4⟩
  simp only [Instr.alloc, Sem.run_bind, hz1, Result.andThen_ok]
  exact e1

theorem box_sound {cfg : Cfg} (h : Wld C μ H w) {nid : Option Nat} {t ty : TypeId} {a : Operand} {x : Operand → AV} {va : Value} {r : AV} (ha : Rep C μ (x a) va) (he : evOp cfg nid (.box t a) ty x H = some (r, H')) :
    Runs cfg.P (Instr.box t va) C μ H w r H' := by
  simp only [evOp] at he
  split at he
  case h_2 => cases he
  rename_i cs hcs
  split at he
  case h_2 => cases he
  rename_i k H1 hnew
  cases he
  obtain ⟨vs, e1, e2, e3, e4⟩ := ha.cells hcs
  exact newVar_sound (P := cfg.P) (t := t) (v := va) (vs := vs) h e1 ⟨e2, e4⟩ hnew

theorem buildSlice_sound {cfg : Cfg} (hc : CfgTy cfg) (h : Wld C μ H w) {nid : Option Nat} {t ty : TypeId} {len : Nat} {parts : Array (Nat × Operand)} {x : Operand → AV} {ρ : Operand → Value} (hx : ∀ a, Rep C μ (x a) (ρ a)) {r : AV}
    (he : evOp cfg nid (.buildSlice t len parts) ty x H = some (r, H')) : Runs cfg.P (Instr.buildSlice t len (parts.map fun (i, x) => (i, ρ x))) C μ H w r H' := by
  simp only [evOp] at he
  split at he
  case h_2 => cases he
  rename_i e ht
  split at he
  case h_2 => cases he
  rename_i ei hei
  split at he
  case isFalse => cases he
  rename_i hcn
  simp only [Bool.and_eq_true, Nat.ble_eq] at hcn
  obtain ⟨hrz, hle⟩ := hcn
  split at he
  case h_2 => cases he
  rename_i rows hrows
  split at he
  case h_2 => cases he
  rename_i k H1 hnew
  cases he
  obtain ⟨_, u, _, _, hu, hd⟩ := hc.td ht
  have := td_slice hd; subst this
  have hte := hc.ty _ _ hei
  obtain ⟨h0, hzl, hza⟩ := rowZero_spec hrz
  obtain ⟨z, hz1, hz2⟩ := run_zeroValue hte w
  obtain ⟨p1, p2⟩ := parts_rep hx parts
  obtain ⟨vs', g1, g2⟩ := aRows_sound hrows (zeros_flat (C := C) (μ := μ) hz2 hrz len) p1 p2
  have hrl : ∀ (parts : List (Nat × AV)) (r0 r1 : List (List AV)), aRows ei.sz r0 parts = some r1 → r1.length = r0.length := by
    intro parts
    induction parts with
    | nil => intro r0 r1 hh; simp [aRows] at hh; rw [hh]
    | cons p l ih =>
      intro r0 r1 hh
      rw [aRows] at hh
      split at hh
      · split at hh
        · rw [ih _ _ hh]; simp
        · cases hh
      · cases hh
  have hrl := hrl _ _ _ hrows
  simp only [List.length_replicate] at hrl
  have hg : Grew w (w.alloc (.cells vs' e)) vs' e := Grew.alloc _ _ _
  have hvs : vs'.size = rows.length * ei.sz := by simpa using g2.1
  obtain ⟨f1, f2, f3⟩ := new_rows h hg hnew (by omega) (fun i row hi' => ⟨(g2.2 i row hi').1, fun j y hj => by
    obtain ⟨c1, v, c2, c3⟩ := (g2.2 i row hi').2 j y hj
    exact ⟨c1, v, by rw [← Array.getElem?_toList]; exact c2, c3⟩⟩) (fun h => h)
  refine ⟨_, _, C, _, ?_, .ms k 0 len len _ ⟨w.heap.size, 0, vs'.size, ei.sz⟩ (by unfold upd; rw [if_pos rfl]) (Nat.le_refl _) (fun _ => ⟨rfl, ?_⟩), f1, f2 _ (Nat.le_refl _)⟩
  · simp only [Instr.buildSlice, Sem.run_bind, run_underlying hu, Result.andThen_ok, run_sizeOf hte]
    rw [if_neg (by omega)]
    rw [Array.toArray_toList] at g1
    by_cases hl0 : len * ei.sz = 0
    · simp only [if_pos hl0, Sem.run_bind, Sem.run_pure, Result.andThen_ok]
      have hr0 : ∀ f : Nat → Value, (Array.range (len * ei.sz)).map f = #[] := fun f => by rw [hl0]; simp
      rw [hr0] at g1 ⊢
      rw [g1]
      simp [newRow]
    · simp only [if_neg hl0, Sem.run_bind, Result.andThen_ok, hz1, Sem.run_pure]
      rw [g1]
      simp [newRow]
  · show (0 + len) * ei.sz ≤ vs'.size
    rw [hvs, hrl]; simp

/-! ### lengths, the smaller, the greater -/
theorem aLen_sound {cfg : Cfg} (hc : CfgTy cfg) (h : Wld C μ H w) {t ty : TypeId} {x r : AV} {vx : Value} (he : aLen cfg t x H = some r) (hx : Rep C μ x vx) : ∃ v, (Builtin.len_ #[t] ty #[vx]).run cfg.P w = .ok v w ∧ Rep C μ r v := by
  unfold aLen at he
  split at he
  · rename_i s ht
    cases he; cases hx
    obtain ⟨_, u, _, _, hu, hd⟩ := hc.td ht
    have := td_str hd; subst this
    exact ⟨_, by simp [Builtin.len_, run_underlying hu]; rfl, by simpa [goInt, ByteArray.size] using Rep.int (C := C) (μ := μ) .i64 s.length⟩
  · rename_i e ht
    cases he; cases hx
    obtain ⟨_, u, _, _, hu, hd⟩ := hc.td ht
    have := td_slice hd; subst this
    exact ⟨goInt 0, by simp [Builtin.len_, run_underlying hu], .int _ _⟩
  · rename_i e rows ht
    obtain ⟨_, u, _, _, hu, hd⟩ := hc.td ht
    have := td_slice hd; subst this
    cases he; cases hx
    · exact ⟨goInt rows.length, by simp [Builtin.len_, run_underlying hu], .int _ _⟩
    · exact ⟨goInt 0, by simp [Builtin.len_, run_underlying hu], .int _ _⟩
  · rename_i e id off len ht
    cases he; cases hx
    obtain ⟨_, u, _, _, hu, hd⟩ := hc.td ht
    have := td_slice hd; subst this
    exact ⟨goInt len, by simp [Builtin.len_, run_underlying hu], .int _ _⟩
  · rename_i n e ht
    cases he
    obtain ⟨_, u, _, _, hu, hd⟩ := hc.td ht
    have := td_array hd; subst this
    exact ⟨goInt n, by cases vx <;> simp [Builtin.len_, run_underlying hu], .int _ _⟩
  · rename_i k e ht
    cases he; cases hx
    obtain ⟨_, u, _, _, hu, hd⟩ := hc.td ht
    have := td_map hd; subst this
    exact ⟨goInt 0, by simp [Builtin.len_, run_underlying hu], .int _ _⟩
  · rename_i k e id ht
    split at he
    case h_2 => cases he
    rename_i es hid
    cases he
    cases hx with
    | mp _ m hm =>
      obtain ⟨_, u, _, _, hu, hd⟩ := hc.td ht
      have := td_map hd; subst this
      obtain ⟨m', h1, _, _, arr, clock, h2, h3, _⟩ := h.live id _ hid rfl
      rw [hm] at h1; cases h1
      refine ⟨goInt arr.size, ?_, by rw [h3]; exact .int _ _⟩
      simp [Builtin.len_, run_underlying hu, getObj, Sem.run, h2]
  · cases he

theorem aMin_sound {lt : Int → Int → Bool} {f : Value → Value → Sem Value} (hf : ∀ (k k' : IntKind) (a b : Int), (f (.int k a) (.int k' b)).run P w = .ok (.int k (if lt b a then b else a)) w) {x y r : AV} {vx vy : Value}
    (he : aMin lt [x, y] = some r) (hx : Rep C μ x vx) (hy : Rep C μ y vy) : ∃ v, ([vy].foldlM f vx).run P w = .ok v w ∧ Rep C μ r v := by
  unfold aMin at he
  split at he
  · rename_i k a k' b heq
    cases heq
    split at he
    · cases he; cases hx; cases hy
      exact ⟨_, by simp [hf], .int _ _⟩
    · cases he
  · cases he
end Go.Av

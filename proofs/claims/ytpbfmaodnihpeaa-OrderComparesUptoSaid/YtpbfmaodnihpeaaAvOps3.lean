/-
  append, make, copy, clear, conversions, composite values. Own work.
  What is proved: each runs as the abstract evaluation says; no condition.
-/
import Derived.Test.YtpbfmaodnihpeaaAvOps2
namespace Go.Av
variable {C C' : Claims} {μ μ' : MMap} {H H' : AH} {w w' : World} {P : Program}

theorem notInt (xd : TypeDesc) : (∀ k, xd ≠ .int k) → (xd matches .int _) = false := by
  intro h
  cases xd <;> first | rfl | exact absurd rfl (h _)
theorem td_notInt {u : TypeDesc} (h : (tdOf u).notInt = true) : ∀ k, u ≠ .int k := by
  intro k e
  subst e
  simp [tdOf, TD.notInt] at h

theorem run_append_fits {t xt e ty : TypeId} {ti : TI} {xd : TypeDesc} {base : Option Addr} {sLen sCap n : Nat} {x : Value} {news : Array Value} (ht : P.underlying t = some (.slice e)) (hxt : P.underlying xt = some xd)
    (hni : ∀ k, xd ≠ .int k) (hti : tiOf P e = some ti) (hl : (Builtin.lenOf x).run P w = .ok n w) (hf : sLen + n ≤ sCap) (hn : (Builtin.firstCells ti.sz n x).run P w = .ok news w) :
    (Builtin.append_ #[t, xt] ty #[.slice base sLen sCap, x]).run P w =
      match base with
      | some a => ((storeCells (a.add (sLen * ti.sz)) news.toList).run P w).andThen fun _ w' => .ok (.slice base (sLen + n) sCap) w'
      | none => .ok (.slice base (sLen + n) sCap) w := by
  have hz := notInt xd hni
  unfold Builtin.append_
  simp only [List.getElem?_toArray, List.getElem?_cons_zero, List.getElem?_cons_succ, Sem.run_bind, run_underlying ht, run_underlying hxt, Result.andThen_ok, run_sizeOf hti, Sem.run_pure, hz, hl, if_pos hf,
    Bool.false_eq_true, if_false, Bool.not_false, if_true, hn]
  cases base <;> simp

theorem run_append_grows {t xt e ty : TypeId} {ti : TI} {i : TypeInfo} {z : Value} {xd : TypeDesc} {base : Option Addr} {sLen sCap n : Nat} {x : Value} {news olds : Array Value} (ht : P.underlying t = some (.slice e))
    (hxt : P.underlying xt = some xd) (hni : ∀ k, xd ≠ .int k) (hti : tiOf P e = some ti) (hi : P.info? e = some i) (hz : i.zero = some z) (hl : (Builtin.lenOf x).run P w = .ok n w)
    (hf : ¬ sLen + n ≤ sCap) (hmax : sLen + n ≤ 9223372036854775807) (hb : (sLen + n) * i.bytes ≤ 140737488355328)
    (hn : (Builtin.firstCells ti.sz n x).run P w.drew = .ok news w.drew) (ho : (Builtin.firstCells ti.sz sLen (.slice base sLen sCap)).run P w.drew = .ok olds w.drew) :
    ∃ c, sLen + n ≤ c ∧ (Builtin.append_ #[t, xt] ty #[.slice base sLen sCap, x]).run P w =
      .ok (.slice (some ⟨w.heap.size, 0, none⟩) (sLen + n) c) (w.drew.alloc (.cells (olds ++ news ++ Builtin.zeroCells z.cells (c - (sLen + n))) e)) := by
  have hzz := notInt xd hni
  have h63 : ¬ (((sLen + n : Nat) : Int) > IntKind.i64.max ∧ (false = true ∨ i.bytes = 0)) := by simp; omega
  have h48 : ¬ (Builtin.nextslicecap (sLen + n) sCap * i.bytes > 2 ^ 48) := by
    have := growslice_fits (need := sLen + n) (old := sCap) (bytes := i.bytes) (by omega) hb
    omega
  refine ⟨grownCap w (sLen + n) sCap e, ?_, ?_⟩
  · unfold grownCap Question.cut
    exact Nat.le_add_right _ _
  · unfold Builtin.append_
    simp only [List.getElem?_toArray, List.getElem?_cons_zero, List.getElem?_cons_succ, Sem.run_bind, run_underlying ht, run_underlying hxt, Result.andThen_ok, run_sizeOf hti, Sem.run_pure, hzz, hl, if_neg hf,
      Bool.false_eq_true, if_false, Bool.not_false, if_true, run_typeInfo hi, h63, h48, run_choose, Question.forced, Sem.run_ite]
    simp only [World.drew_eq, run_askRoom, Result.andThen_ok, ho, hn, zeroValue, Sem.run_bind, run_typeInfo hi, hz, Sem.run_pure, newRow, run_newObj, World.alloc_eq]
    rw [if_neg (by simp; omega)]
    rfl

theorem lenOf_slice (a : Option Addr) (n c : Nat) (w : World) : (Builtin.lenOf (.slice a n c)).run P w = .ok n w := rfl

theorem rows_free (h : Wld C μ H w) {n : Nat} {x : AV} {v : Value} {rows : List (List AV)} (hx : Rep C μ x v) (hr : rowsOf H n x = some rows) (hf : srcFree H x = true) : refsLtR 0 rows = true := by
  unfold rowsOf at hr
  split at hr
  · cases hr; rfl
  · split at hr
    · cases hr
      cases hx with
      | slNil => rfl
      | sl _ a cap sz vals h1 h2 h3 h4 h5 h6 h7 => exact h7
    · cases hr
  · split at hr
    · rename_i hb
      split at hr
      · cases hr
        exact refsLtR_take (refsLtR_drop (h.free.blk hb hf))
      · cases hr
    · cases hr
  · cases hr
theorem src_free (h : Wld C μ H w) {n : Nat} {x : AV} {v : Value} {rows : List (List AV)} (hx : Rep C μ x v) (hr : srcRows H n x = some rows) (hf : srcFree H x = true) : refsLtR 0 rows = true := by
  unfold srcRows at hr
  split at hr
  · split at hr
    · cases hr; exact refsLtR_bytes _
    · cases hr
  · exact rows_free h hx hr hf

/-- the source of an append -/
theorem append_src (h : Wld C μ H w) {x : AV} {vx : Value} {sz : Nat} {news : List (List AV)} (hn : 0 < sz) (hx : Rep C μ x vx) (hs : srcRows H sz x = some news) :
    ∃ vs : List Value, FlatRep C μ sz news vs ∧ (∀ w' : World, w'.heap = w.heap → (Builtin.lenOf vx).run P w' = .ok news.length w' ∧ (Builtin.firstCells sz news.length vx).run P w' = .ok vs.toArray w') := by
  unfold srcRows at hs
  split at hs
  · rename_i b
    split at hs
    · rename_i h1
      have h1' := Nat.eq_of_beq_eq_true h1
      subst h1'
      cases hs; cases hx
      refine ⟨_, byteRows_flat b, fun w' _ => ⟨?_, ?_⟩⟩
      · simp [Builtin.lenOf, byteRows_len, ByteArray.size]
      · have : (⟨b.toArray⟩ : ByteArray).extract 0 b.length = ⟨b.toArray⟩ := by
          apply ByteArray.ext
          apply Array.ext'
          rw [Lib.extract_data]; simp
        simp [Builtin.firstCells, byteRows_len, this]
    · cases hs
  · obtain ⟨a, cap, vs, rfl, e2, e3, e4, _, _⟩ := rows_read (P := P) h hn hx hs
    exact ⟨vs, e3, fun w' hw => ⟨lenOf_slice _ _ _ _, e4 w' hw⟩⟩

theorem fitsIn_spec {n b : Nat} (h : fitsIn n b = true) : n * b ≤ 140737488355328 ∧ n ≤ 9223372036854775807 := by
  simp only [fitsIn, Bool.and_eq_true, Nat.ble_eq] at h
  exact h

theorem zeroCells_size (z : Array Value) (n : Nat) : (Builtin.zeroCells z n).size = n * z.size := by simp [Builtin.zeroCells]

set_option maxHeartbeats 800000 in
theorem aAppend_sound {cfg : Cfg} (hc : CfgTy cfg) (h : Wld C μ H w) {nid : Option Nat} {t xt ty : TypeId} {s x r : AV} {vs vx : Value} (he : aAppend cfg nid t xt s x H = some (r, H')) (hs : Rep C μ s vs) (hx : Rep C μ x vx) :
    Runs cfg.P (Builtin.append_ #[t, xt] ty #[vs, vx]) C μ H w r H' := by
  unfold aAppend at he
  split at he
  case h_2 => cases he
  rename_i e xd ht hxt
  split at he
  case h_2 => cases he
  rename_i ei hei
  split at he
  case isFalse => cases he
  rename_i hcnd
  rw [Bool.and_eq_true, Bool.and_eq_true, Nat.blt_eq] at hcnd
  obtain ⟨⟨hni, h0⟩, hzl⟩ := hcnd
  have hzl := Nat.eq_of_beq_eq_true hzl
  obtain ⟨tt, u, _, _, hu, hd⟩ := hc.td ht
  have := td_slice hd; subst this
  obtain ⟨tx, ux, _, _, hux, hdx⟩ := hc.td hxt
  have hni' := td_notInt (u := ux) (by rw [hdx]; exact hni)
  have hti := hc.ty _ _ hei
  obtain ⟨i, ue, z, hi, _, hz, hie⟩ := tiOf_spec hti
  have hsz : ei.sz = i.size := by rw [hie]
  have hby : ei.bytes = i.bytes := by rw [hie]
  have hzs : z.cells.size = ei.sz := by
    have : ei.zero = z.cells.toList.map ofValue1 := by rw [hie]
    rw [this] at hzl
    simpa using hzl
  split at he
  case h_2 => cases he
  rename_i news hsrc
  obtain ⟨nv, f1, f2⟩ := append_src (P := cfg.P) h h0 hx hsrc
  -- a new row that holds old rows and the new ones
  have grow : ∀ {d : Bool} {H0 H1 : AH} {k len cap : Nat} {base : Option Addr} {olds : List (List AV)} {ov : List Value} (_ : Wld C μ H0 w) (_ : H.length = H0.length) (_ : FlatRep C μ ei.sz olds ov) (_ : olds.length = len)
      (_ : (Builtin.firstCells ei.sz len (.slice base len cap)).run cfg.P w.drew = .ok ov.toArray w.drew) (_ : fitsIn (len + news.length) ei.bytes = true) (_ : ¬ len + news.length ≤ cap)
      (_ : aNew nid H0 (.rows d ei.sz (olds ++ news)) = some (k, H1)) (_ : ∀ j, j ≤ H.length → Ext j C μ H w C μ H0 w) (_ : d = true → refsLtR 0 (olds ++ news) = true), Runs cfg.P (Builtin.append_ #[t, xt] ty #[.slice base len cap, vx]) C μ H w (.ms k 0 (len + news.length)) H1 := by
    intro d H0 H1 k len cap base olds ov hw0 hlen0 hol hol' hfirst hfit hcap hnew hext hfr
    obtain ⟨hb1, hb2⟩ := fitsIn_spec hfit
    obtain ⟨c, hc1, hrun⟩ := run_append_grows (P := cfg.P) (w := w) (ty := ty) (base := base) (sLen := len) (sCap := cap) hu hux hni' hti hi hz (f2 w rfl).1 hcap hb2 (by rw [← hby]; exact hb1) (f2 w.drew rfl).2 hfirst
    have hfl := hol.append f1
    have hg : Grew w (w.drew.alloc (.cells (ov.toArray ++ nv.toArray ++ Builtin.zeroCells z.cells (c - (len + news.length))) e)) (ov.toArray ++ nv.toArray ++ Builtin.zeroCells z.cells (c - (len + news.length))) e := (Grew.alloc w.drew _ _).drew
    obtain ⟨g1, g2, g3⟩ := new_rows hw0 hg hnew (by have := hfl.1; simp only [List.length_append] at this ⊢; simp; omega) (fun i row hi' => ⟨(hfl.2 i row hi').1, fun j x hj => by
      obtain ⟨c1, v, c2, c3⟩ := (hfl.2 i row hi').2 j x hj
      refine ⟨c1, v, ?_, c3⟩
      rw [Array.getElem?_append_left (by simpa using (List.getElem?_eq_some_iff.1 c2).1)]
      simpa using c2⟩) hfr
    refine ⟨_, _, C, _, hrun, ?_, g1, (hext _ (Nat.le_refl _)).trans (g2 H.length (by omega)) (Nat.le_refl _)⟩
    refine .ms k 0 _ c _ _ (by unfold upd; rw [if_pos rfl]) hc1 (fun _ => ⟨by simp, ?_⟩)
    have hfl1 := hfl.1
    simp only [List.length_append] at hfl1
    have hov : ov.length + nv.length = (len + news.length) * ei.sz := by rw [hfl1, hol']
    show (0 + c) * ei.sz ≤ (ov.toArray ++ nv.toArray ++ Builtin.zeroCells z.cells (c - (len + news.length))).size
    rw [Array.size_append, Array.size_append, zeroCells_size, hzs, Nat.zero_add]
    simp only [List.size_toArray]
    rw [hov, ← Nat.add_mul]
    exact Nat.mul_le_mul_right _ (by omega)
  split at he
  · -- a nil slice
    cases hs
    split at he
    · rename_i hemp
      cases he
      have hnil : news = [] := by simpa using hemp
      subst hnil
      have hrun := run_append_fits (P := cfg.P) (w := w) (ty := ty) (base := none) (sLen := 0) (sCap := 0) hu hux hni' hti (f2 w rfl).1 (by simp) (f2 w rfl).2
      exact Runs.pure' h ⟨.slice none 0 0, by simpa using hrun, .nilS⟩
    · rename_i hemp
      split at he
      · rename_i hfit
        split at he
        · rename_i k H1 hnew
          cases he
          have hpos : 0 < news.length := by cases news <;> simp_all
          have := grow (olds := []) (ov := []) (base := none) (len := 0) (cap := 0) h rfl (.nil _) rfl (by simp [Builtin.firstCells]) (by simpa using hfit) (by omega) (by simpa using hnew) (fun j hj => Ext.refl hj) (fun hd => by simpa using src_free h hx hsrc hd)
          simpa using this
        · cases he
      · cases he
  · rename_i id off len
    split at he
    case h_2 => cases he
    rename_i d sz rs hid
    split at he
    case isFalse => cases he
    rename_i hcn
    simp only [Bool.and_eq_true, Nat.ble_eq] at hcn
    obtain ⟨⟨hsze, hle⟩, hfit⟩ := hcn
    have hsze := Nat.eq_of_beq_eq_true hsze
    subst hsze
    split at he
    case h_2 => cases he
    rename_i k H1 hnew
    cases he
    cases hs with
    | ms _ _ _ cap a m hm hl ha =>
      have hkill := h.kill id (by rw [hid]; simp)
      have hfree : (d && srcFree H x) = true → refsLtR 0 ((rs.drop off).take len ++ news) = true := fun hd => by
        rw [Bool.and_eq_true] at hd
        exact refsLtR_app (refsLtR_take (refsLtR_drop (h.free.get hid hd.1))) (src_free h hx hsrc hd.2)
      have hroff : rowsOf H ei.sz (.ms id off len) = some ((rs.drop off).take len) := by
        simp [rowsOf, blkRows, hid, hle]
      have hlen : ((rs.drop off).take len).length = len := by simp; omega
      obtain ⟨_, _, ov, e1, e2, o1, o2, o3, _⟩ := rows_read (P := cfg.P) h h0 (Rep.ms (C := C) (μ := μ) id off len cap a m hm hl ha) hroff
      rw [hlen] at o2
      by_cases hcap : len + news.length ≤ cap
      · -- it fits
        obtain ⟨m', g1, hlt, hcl, hsz', hle', hrows, hcells⟩ := h.live id _ hid rfl
        rw [hm] at g1; cases g1
        have hrun := run_append_fits (P := cfg.P) (w := w) (ty := ty) (base := some a) (sLen := len) (sCap := cap) hu hux hni' hti (f2 w rfl).1 hcap (f2 w rfl).2
        simp only at hrun
        -- the block, by its new number
        have core : ∀ w', w'.heap.size = w.heap.size → (∀ b, b ≠ m.block → w'.heap[b]? = w.heap[b]?) → w'.os = w.os → w'.tape = w.tape → w'.output = w.output →
            (∀ o, o < m.size → (cellOf w' m o).isSome = true ∧ w'.frozen? ⟨m.block, m.base + o, none⟩ = false) →
            (∀ o v, o < (off + len) * ei.sz → cellOf w m o = some v → cellOf w' m o = some v) →
            (∀ (j : Nat) v, nv[j]? = some v → cellOf w' m ((off + len) * ei.sz + j) = some v) →
            Wld C (upd μ k ⟨m.block, m.base + off * ei.sz, m.size - off * ei.sz, ei.sz⟩) H' w' ∧ Ext H.length C μ H w C (upd μ k ⟨m.block, m.base + off * ei.sz, m.size - off * ei.sz, ei.sz⟩) H' w' := by
          intro w' hs' hb' hos hta hou hc1 hc2 hc3
          have hnl : ¬ Live (H.set id .dead) μ m.block := fun hl' => (hl'.of_kill).2 m hm (fun id' b' m'' e1 e2 e3 hne heq => hne (h.inj id' id b' _ m'' m e1 hid e2 rfl e3 hm heq)) rfl
          have hw' : Wld C μ (H.set id .dead) w' := hkill.world (by omega) (fun b hb hlc => hb' b (fun e => by
            subst e
            rcases hlc with hlc | ⟨o, ho⟩
            · exact hnl hlc
            · exact ho (hcl o)))
          have hfitrows : ((rs.drop off).take len ++ news).length * ei.sz ≤ m.size - off * ei.sz := by
            rw [List.length_append, hlen]
            rcases Nat.eq_zero_or_pos cap with hz0 | hz0
            · have : len + news.length = 0 := by omega
              rw [this]; simp
            · have h1 := (ha (by omega)).2
              rw [← hsz'] at h1
              have h2 : (off + (len + news.length)) * ei.sz ≤ (off + cap) * ei.sz := Nat.mul_le_mul_right _ (by omega)
              rw [Nat.add_mul] at h2
              omega
          have hoff : off * ei.sz ≤ m.size := Nat.le_trans (Nat.mul_le_mul_right _ (by omega)) hle'
          have hmu := aNew_fresh hkill hnew
          have hmu' : ∀ (M : MI) id' m'', μ id' = some m'' → upd μ k M id' = some m'' := by
            intro M id' m'' hid'
            unfold upd
            split
            · rename_i e; subst e; rw [hmu] at hid'; cases hid'
            · exact hid'
          have hblk : BlkRep C (upd μ k ⟨m.block, m.base + off * ei.sz, m.size - off * ei.sz, ei.sz⟩) w' ⟨m.block, m.base + off * ei.sz, m.size - off * ei.sz, ei.sz⟩ (.rows (d && srcFree H x) ei.sz ((rs.drop off).take len ++ news)) := by
            refine ⟨rfl, hfitrows, fun i row hi => ?_, fun o ho => ?_⟩
            · rw [List.getElem?_append] at hi
              split at hi
              · rename_i hil
                rw [hlen] at hil
                obtain ⟨_, hi'⟩ := drop_take_get hi
                refine ⟨(hrows _ row hi').1, fun j x hj => ?_⟩
                obtain ⟨c1, v, c2, c3⟩ := (hrows _ row hi').2 j x hj
                refine ⟨c1, v, ?_, c3.mono (fun _ _ _ h => h) (hmu' _)⟩
                have hj' : j < ei.sz := by rw [← (hrows _ row hi').1]; exact (List.getElem?_eq_some_iff.1 hj).1
                have h3 : (off + i + 1) * ei.sz ≤ (off + len) * ei.sz := Nat.mul_le_mul_right _ (by omega)
                have := hc2 ((off + i) * ei.sz + j) v (by rw [Nat.add_mul] at h3; omega) c2
                unfold cellOf at this ⊢
                rw [Nat.add_mul] at this
                rw [← this]
                simp only []
                congr 2; omega
              · rename_i hil
                rw [hlen] at hi hil
                refine ⟨(f1.2 _ row hi).1, fun j x hj => ?_⟩
                obtain ⟨c1, v, c2, c3⟩ := (f1.2 _ row hi).2 j x hj
                refine ⟨c1, v, ?_, c3.mono (fun _ _ _ h => h) (hmu' _)⟩
                have := hc3 _ v c2
                have h3 : len * ei.sz ≤ i * ei.sz := Nat.mul_le_mul_right _ (by omega)
                unfold cellOf at this ⊢
                rw [Nat.add_mul, Nat.sub_mul] at this
                rw [← this]
                simp only []
                congr 2; omega
            · have hlt2 : off * ei.sz + o < m.size := by
                have : o < m.size - off * ei.sz := ho
                omega
              have := hc1 (off * ei.sz + o) hlt2
              unfold cellOf at this ⊢
              simp only [Nat.add_assoc] at this ⊢
              exact this
          obtain ⟨n1, n2, n3, n4, n5⟩ := hw'.new (m := ⟨m.block, m.base + off * ei.sz, m.size - off * ei.sz, ei.sz⟩) hnew hnl (by rw [hs']; exact hlt) hcl rfl hblk hfree
          refine ⟨n1, ⟨hos, hta, hou, by omega, fun _ _ _ h => h, fun id' m'' _ hm'' => n2 id' m'' hm'', fun b hb hnlb => ⟨hb' b (fun e => hnlb ⟨id, _, m, hid, rfl, hm, e.symm⟩), fun hl' => ?_, rfl⟩, by simpa using n3⟩⟩
          rcases n4 b hl' with hl'' | hl''
          · exact hnlb hl''.of_kill.1
          · exact hnlb ⟨id, _, m, hid, rfl, hm, hl''.symm⟩
        by_cases hcap0 : cap = 0
        · -- nothing at all
          have hl0 : len = 0 := by omega
          have hn0 : news.length = 0 := by omega
          have hnv : nv = [] := by have := f1.1; rw [hn0] at this; simpa using this
          have hnew0 : news = [] := List.eq_nil_of_length_eq_zero hn0
          have hst : (storeCells (a.add (len * ei.sz)) nv.toArray.toList).run cfg.P w = .ok () w := by rw [hnv]; rfl
          rw [hst, Result.andThen_ok] at hrun
          obtain ⟨n1, n2⟩ := core w rfl (fun _ _ => rfl) rfl rfl rfl hcells (fun o v _ hv => hv) (fun j v hv => by rw [hnv] at hv; simp at hv)
          refine ⟨_, _, C, _, hrun, .ms k 0 _ _ a _ (by unfold upd; rw [if_pos rfl]) hcap (fun hne => absurd hcap0 hne), n1, n2⟩
        · obtain ⟨rfl, hfitc⟩ := ha hcap0
          rw [← hsz'] at hfitc hrun ⊢
          have hin : ∀ j, j < nv.length → (off + len) * ei.sz + j < m.size := by
            intro j hj
            have h1 := f1.1
            have h2 : (off + (len + news.length)) * ei.sz ≤ (off + cap) * ei.sz := Nat.mul_le_mul_right _ (by omega)
            rw [← Nat.add_assoc, Nat.add_mul (off + len)] at h2
            omega
          have hst := run_storeCells_cells (P := cfg.P) m.block (m.base + (off + len) * ei.sz) nv 0 w (fun j hj => by
            have := (hcells _ (hin j hj)).1
            unfold cellOf at this
            rwa [← Nat.add_assoc] at this) (fun j hj => by
            have := (hcells _ (hin j hj)).2
            rwa [← Nat.add_assoc] at this) f1.one
          have hadr : (Addr.add ⟨m.block, m.base + off * ei.sz, none⟩ (len * ei.sz)) = ⟨m.block, m.base + (off + len) * ei.sz, none⟩ := by
            rw [addr_add]; simp only [Nat.add_mul]; congr 1; omega
          simp only [hadr, Nat.add_zero] at hrun hst
          rw [hst, Result.andThen_ok] at hrun
          obtain ⟨s1, s2, s3, s4, s5⟩ := setCells_heap m.block nv (m.base + (off + len) * ei.sz) w
          have hsome : ∀ j, j < nv.length → (w.cell? ⟨m.block, m.base + (off + len) * ei.sz + j, none⟩).isSome = true := by
            intro j hj
            have := (hcells _ (hin j hj)).1
            unfold cellOf at this
            rwa [← Nat.add_assoc] at this
          obtain ⟨n1, n2⟩ := core (w.setCells m.block (m.base + (off + len) * ei.sz) nv) s1 s2 s3 s4 s5 (fun o ho => by
              refine ⟨?_, by rw [World.frozen?_setCells]; exact (hcells o ho).2⟩
              unfold cellOf
              by_cases hr' : (off + len) * ei.sz ≤ o ∧ o < (off + len) * ei.sz + nv.length
              · have := World.cell?_setCells_in m.block nv (m.base + (off + len) * ei.sz) w hsome (o - (off + len) * ei.sz) (by omega)
                rw [show m.base + (off + len) * ei.sz + (o - (off + len) * ei.sz) = m.base + o by omega] at this
                rw [this]; rfl
              · rw [World.cell?_setCells_out]
                · exact (hcells o ho).1
                · intro _ _; simp; omega) (fun o v ho hv => by
              unfold cellOf at hv ⊢
              rw [World.cell?_setCells_out]
              · exact hv
              · intro _ _; left; simp; omega) (fun j v hv => by
              have hjl : j < nv.length := (List.getElem?_eq_some_iff.1 hv).1
              have := World.cell?_setCells_in m.block nv (m.base + (off + len) * ei.sz) w hsome j hjl
              unfold cellOf
              rw [← Nat.add_assoc, this, ← hv, List.getElem?_eq_getElem hjl])
          refine ⟨_, _, C, _, hrun, .ms k 0 _ _ _ _ (by unfold upd; rw [if_pos rfl]) hcap (fun _ => ⟨by simp, ?_⟩), n1, n2⟩
          show (0 + cap) * ei.sz ≤ m.size - off * ei.sz
          rw [Nat.add_mul] at hfitc
          rw [Nat.zero_add]; omega
      · exact grow hkill (by simp) o1 hlen (o2 _ rfl) hfit hcap hnew (fun j hj => Ext.kill j hj id) hfree
  · cases he
end Go.Av

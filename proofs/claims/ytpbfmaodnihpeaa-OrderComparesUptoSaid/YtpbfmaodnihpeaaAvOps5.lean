/-
  make, copy, clear, conversions, lengths; all operations together. Own work.
  What is proved: each operation runs as the abstract evaluation says; no condition.
-/
import Derived.Test.YtpbfmaodnihpeaaAvOps4
namespace Go.Av
variable {C C' : Claims} {μ μ' : MMap} {H H' : AH} {w w' : World} {P : Program}

theorem rowZero_spec {ti : TI} (h : rowZero ti = true) : 0 < ti.sz ∧ ti.zero.length = ti.sz ∧ allCells ti.zero = true := by
  simp only [rowZero, Bool.and_eq_true, Nat.blt_eq] at h
  exact ⟨h.1.1, Nat.eq_of_beq_eq_true h.1.2, h.2⟩

/-- rows of a live block written over, from row 'off' on -/
theorem rows_over (h : Wld C μ H w) {d : Bool} (d' : Bool) {id off : Nat} {sz : Nat} {rs news : List (List AV)} {vs : List Value} {m : MI} (hid : H[id]? = some (.rows d sz rs)) (hm : μ id = some m) (hf : FlatRep C μ sz news vs) (hfit : off + news.length ≤ rs.length) (hfr : d' = true → d = true ∧ refsLtR 0 news = true) :
    (storeCells ⟨m.block, m.base + off * sz, none⟩ vs).run P w = .ok () (w.setCells m.block (m.base + off * sz) vs) ∧
      Wld C μ (H.set id (.rows d' sz (rs.take off ++ news ++ rs.drop (off + news.length)))) (w.setCells m.block (m.base + off * sz) vs) ∧
      (∀ k, k ≤ H.length → Ext k C μ H w C μ (H.set id (.rows d' sz (rs.take off ++ news ++ rs.drop (off + news.length)))) (w.setCells m.block (m.base + off * sz) vs)) := by
  obtain ⟨m', g1, hlt, hcl, hsz, hle, hrows, hcells⟩ := h.live id _ hid rfl
  rw [hm] at g1; cases g1
  have hmul : off * sz + news.length * sz ≤ rs.length * sz := by rw [← Nat.add_mul]; exact Nat.mul_le_mul_right _ hfit
  have hvl := hf.1
  have hc0 : ∀ j, j < vs.length → (w.cell? ⟨m.block, m.base + off * sz + 0 + j, none⟩).isSome = true ∧ w.frozen? ⟨m.block, m.base + off * sz + 0 + j, none⟩ = false := by
    intro j hj
    have := hcells (off * sz + j) (by omega)
    unfold cellOf at this
    rwa [show m.base + (off * sz + j) = m.base + off * sz + 0 + j by omega] at this
  have hrun := run_storeCells_cells (P := P) m.block (m.base + off * sz) vs 0 w (fun j hj => (hc0 j hj).1) (fun j hj => (hc0 j hj).2) hf.one
  simp only [Nat.add_zero] at hrun hc0
  obtain ⟨s1, s2, s3, s4, s5⟩ := setCells_heap m.block vs (m.base + off * sz) w
  have hb : BlkRep C μ (w.setCells m.block (m.base + off * sz) vs) m (.rows d' sz (rs.take off ++ news ++ rs.drop (off + news.length))) := by
    refine ⟨hsz, ?_, fun i row hi => ?_, fun o ho => ?_⟩
    · have : (rs.take off ++ news ++ rs.drop (off + news.length)).length = rs.length := by simp; omega
      rw [this]; exact hle
    · by_cases h1 : i < off
      · rw [List.getElem?_append_left (by simp; omega), List.getElem?_append_left (by simp; omega), List.getElem?_take, if_pos h1] at hi
        refine ⟨(hrows i row hi).1, fun j x hj => ?_⟩
        obtain ⟨c1, v, c2, c3⟩ := (hrows i row hi).2 j x hj
        refine ⟨c1, v, ?_, c3⟩
        have hj' : j < sz := by rw [← (hrows i row hi).1]; exact (List.getElem?_eq_some_iff.1 hj).1
        have h2 : (i + 1) * sz ≤ off * sz := Nat.mul_le_mul_right _ h1
        rw [Nat.add_mul] at h2
        unfold cellOf at c2 ⊢
        rw [World.cell?_setCells_out]
        · exact c2
        · intro _ _; left; simp; omega
      · by_cases h2 : i < off + news.length
        · rw [List.getElem?_append_left (by simp; omega), List.getElem?_append_right (by simp; omega)] at hi
          simp only [List.length_take] at hi
          rw [show i - min off rs.length = i - off by omega] at hi
          refine ⟨(hf.2 _ row hi).1, fun j x hj => ?_⟩
          obtain ⟨c1, v, c2, c3⟩ := (hf.2 _ row hi).2 j x hj
          refine ⟨c1, v, ?_, c3⟩
          have hjl : (i - off) * sz + j < vs.length := (List.getElem?_eq_some_iff.1 c2).1
          have := World.cell?_setCells_in m.block vs (m.base + off * sz) w (fun j hj => (hc0 j hj).1) _ hjl
          unfold cellOf
          have h3 : off * sz ≤ i * sz := Nat.mul_le_mul_right _ (by omega)
          have e1 : some vs[(i - off) * sz + j] = some v := by rw [← List.getElem?_eq_getElem hjl]; exact c2
          have e2 : m.base + off * sz + ((i - off) * sz + j) = m.base + (i * sz + j) := by rw [Nat.sub_mul]; omega
          rw [e2, e1] at this
          exact this
        · rw [List.getElem?_append_right (by simp; omega)] at hi
          simp only [List.length_append, List.length_take] at hi
          rw [List.getElem?_drop, show off + news.length + (i - (min off rs.length + news.length)) = i by omega] at hi
          refine ⟨(hrows i row hi).1, fun j x hj => ?_⟩
          obtain ⟨c1, v, c2, c3⟩ := (hrows i row hi).2 j x hj
          refine ⟨c1, v, ?_, c3⟩
          have h3 : (off + news.length) * sz ≤ i * sz := Nat.mul_le_mul_right _ (by omega)
          rw [Nat.add_mul] at h3
          unfold cellOf at c2 ⊢
          rw [World.cell?_setCells_out]
          · exact c2
          · intro _ _; right; simp; omega
    · refine ⟨?_, by rw [World.frozen?_setCells]; exact (hcells o ho).2⟩
      unfold cellOf
      by_cases hr' : off * sz ≤ o ∧ o < off * sz + vs.length
      · have := World.cell?_setCells_in m.block vs (m.base + off * sz) w (fun j hj => (hc0 j hj).1) (o - off * sz) (by omega)
        rw [show m.base + off * sz + (o - off * sz) = m.base + o by omega] at this
        rw [this]; rfl
      · rw [World.cell?_setCells_out]
        · exact (hcells o ho).1
        · intro _ _; simp; omega
  exact ⟨hrun, h.setBlk hid rfl rfl hm s1 s2 hb (fun hd => refsLtR_app (refsLtR_app (refsLtR_take (h.free.get hid (hfr hd).1)) (hfr hd).2) (refsLtR_drop (h.free.get hid (hfr hd).1))), fun k hk => Ext.setBlk h hid rfl hm s1 s2 s3 s4 s5 hk⟩

theorem aCopy_sound {cfg : Cfg} (hc : CfgTy cfg) (h : Wld C μ H w) {t xt ty : TypeId} {d s r : AV} {vd vs : Value} (he : aCopy cfg t d s H = some (r, H')) (hd : Rep C μ d vd) (hs : Rep C μ s vs) :
    Runs cfg.P (Builtin.copy_ #[t, xt] ty #[vd, vs]) C μ H w r H' := by
  unfold aCopy at he
  split at he
  case h_2 => cases he
  rename_i e id off len ht
  split at he
  case h_2 => cases he
  rename_i n d sz rs hn hid
  split at he
  case h_2 => cases he
  rename_i news hsrc
  split at he
  case isFalse => cases he
  rename_i hcn
  simp only [Bool.and_eq_true, Nat.ble_eq, Nat.blt_eq] at hcn
  obtain ⟨⟨hsz, hle⟩, h0⟩ := hcn
  have hsz := Nat.eq_of_beq_eq_true hsz
  subst hsz
  cases he
  obtain ⟨tt, u, _, _, hu, hdd⟩ := hc.td ht
  have := td_slice hdd; subst this
  obtain ⟨te, hte, rfl⟩ := hc.sz hn
  cases hd with
  | ms _ _ _ cap a m hm hl ha =>
    -- what is copied, read whole; of it the part that goes over
    have hread : ∃ nv : List Value, FlatRep C μ te.sz (news.take len) nv ∧ (Builtin.lenOf vs).run cfg.P w = .ok news.length w ∧ (Builtin.firstCells te.sz (Nat.min news.length len) vs).run cfg.P w = .ok nv.toArray w := by
      unfold srcRows at hsrc
      split at hsrc
      · rename_i b
        split at hsrc
        · rename_i h1
          have h1' := Nat.eq_of_beq_eq_true h1
          cases hsrc; cases hs
          refine ⟨(b.map fun b => Value.int .u8 b.toNat).take len, ?_, by simp [Builtin.lenOf, byteRows_len, ByteArray.size], ?_⟩
          · rw [h1']
            have := (byteRows_flat (C := C) (μ := μ) b).take len
            simpa using this
          · simp only [Builtin.firstCells, byteRows_len]
            have hx : ((⟨b.toArray⟩ : ByteArray).extract 0 (Nat.min b.length len)).data.toList = b.take len := by
              rw [Lib.extract_data]
              show List.take (Nat.min b.length len - 0) (List.drop 0 b) = _
              rw [List.drop_zero, Nat.sub_zero]
              rcases Nat.le_total b.length len with hh | hh
              · rw [show Nat.min b.length len = b.length from Nat.min_eq_left hh, List.take_of_length_le (Nat.le_refl _), List.take_of_length_le hh]
              · rw [show Nat.min b.length len = len from Nat.min_eq_right hh]
            simp only [Sem.run_pure]
            congr 1
            apply Array.ext'
            rw [Array.toList_map, hx, List.map_take]
        · cases hsrc
      · obtain ⟨a', cap', sv, rfl, e2, e3, e4, e5, e6⟩ := rows_read (P := cfg.P) h h0 hs hsrc
        refine ⟨sv.take (len * te.sz), e3.take len, rfl, ?_⟩
        cases a' with
        | none =>
          have := e6 rfl
          subst this
          have hsv : sv = [] := by have := e3.1; simpa using this
          subst hsv
          simp [Builtin.firstCells]
        | some b =>
          have hmin : (sv.take (len * te.sz)).length = Nat.min news.length len * te.sz := by
            rw [List.length_take, e3.1, Nat.mul_min_mul_right, Nat.min_comm]
          have := run_loadCells_list (P := cfg.P) w b (sv.take (len * te.sz)) (fun k v hk => by
            rw [List.getElem?_take] at hk
            split at hk
            · exact e5 b rfl k v hk
            · cases hk)
          rw [hmin] at this
          simpa [Builtin.firstCells] using this
    obtain ⟨nv, f1, f2, f3⟩ := hread
    have hfit : off + (news.take len).length ≤ rs.length := by simp; omega
    obtain ⟨r1, r2, r3⟩ := rows_over (P := cfg.P) h (d && srcFree H s) hid hm f1 hfit (fun hd => by rw [Bool.and_eq_true] at hd; exact ⟨hd.1, refsLtR_take (src_free h hs hsrc hd.2)⟩)
    have hlen : (Builtin.lenOf vs).run cfg.P w = .ok news.length w := f2
    have base : (Builtin.copy_ #[t, xt] ty #[.slice (some a) len cap, vs]).run cfg.P w = ((storeCells a nv).run cfg.P w).andThen fun _ w' => .ok (goInt (Nat.min news.length len)) w' := by
      unfold Builtin.copy_
      simp only [List.getElem?_toArray, List.getElem?_cons_zero, List.getElem?_cons_succ, Sem.run_bind, run_underlying hu, Result.andThen_ok, hlen, run_sizeOf hte, f3, Sem.run_pure]
    by_cases hz : cap = 0
    · have hl0 : len = 0 := by omega
      subst hl0
      have hnv : nv = [] := by have := f1.1; simpa using this
      subst hnv
      refine ⟨goInt (Nat.min news.length 0), w, C, μ, by rw [base]; rfl, .int _ _, ?_, ?_⟩
      · have := r2; simpa [World.setCells] using this
      · have := r3 _ (Nat.le_refl _); simpa [World.setCells] using this
    · obtain ⟨rfl, _⟩ := ha hz
      have hms := blk_sz (id := id) (sz := te.sz) (rs := rs) h (by simp [blkRows, hid]) hm
      rw [← hms, r1, Result.andThen_ok] at base
      rw [← hms]
      exact ⟨goInt (Nat.min news.length len), _, C, μ, base, .int _ _, r2, r3 _ (Nat.le_refl _)⟩

theorem zeroCells_eq (z : Array Value) (n : Nat) : Builtin.zeroCells z n = (Array.range (n * z.size)).map (z[· % z.size]!) := rfl

theorem aClear_sound {cfg : Cfg} (hc : CfgTy cfg) (h : Wld C μ H w) {t ty : TypeId} {x : AV} {vx : Value} (he : aClear cfg t x H = some H') (hx : Rep C μ x vx) :
    Runs cfg.P (Builtin.clear_ #[t] ty #[vx]) C μ H w (.tup []) H' := by
  have hres : Rep C μ (.tup []) (.tuple #[]) := .tup [] [] rfl (fun i a v h => by simp at h)
  unfold aClear at he
  split at he
  · rename_i e ht
    cases he; cases hx
    obtain ⟨tt, u, _, _, hu, hdd⟩ := hc.td ht
    have := td_slice hdd; subst this
    exact Runs.pure' h ⟨.tuple #[], by simp [Builtin.clear_, run_underlying hu], hres⟩
  · rename_i e id off len ht
    split at he
    case h_2 => cases he
    rename_i ei d sz rs hei hid
    split at he
    case isFalse => cases he
    rename_i hcn
    simp only [Bool.and_eq_true, Nat.ble_eq] at hcn
    obtain ⟨⟨hrz, hsz⟩, hle⟩ := hcn
    have hsz := Nat.eq_of_beq_eq_true hsz
    subst hsz
    cases he
    obtain ⟨tt, u, _, _, hu, hdd⟩ := hc.td ht
    have := td_slice hdd; subst this
    have hte := hc.ty _ _ hei
    obtain ⟨z, hz1, hz2⟩ := run_zeroValue hte w
    obtain ⟨h0, hzl, hza⟩ := rowZero_spec hrz
    cases hx with
    | ms _ _ _ cap a m hm hl ha =>
      have hzf := zeros_flat (C := C) (μ := μ) hz2 hrz len
      obtain ⟨r1, r2, r3⟩ := rows_over (P := cfg.P) (off := off) h d hid hm hzf (by simpa using hle) (fun hd => ⟨hd, refsLtR_rep (by rw [hz2]; exact refsLtL_ofValue1 0 _)⟩)
      simp only [List.length_replicate] at r2 r3
      have hzs : z.cells.size = ei.sz := by rw [hz2] at hzl; simpa using hzl
      by_cases hl0 : len = 0
      · subst hl0
        refine ⟨.tuple #[], w, C, μ, by simp [Builtin.clear_, run_underlying hu], hres, ?_, ?_⟩
        · simpa [World.setCells] using r2
        · have := r3 _ (Nat.le_refl _); simpa [World.setCells] using this
      · obtain ⟨rfl, _⟩ := ha (by omega)
        have hms := blk_sz (id := id) (sz := ei.sz) (rs := rs) h (by simp [blkRows, hid]) hm
        rw [← hms]
        refine ⟨.tuple #[], _, C, μ, ?_, hres, r2, r3 _ (Nat.le_refl _)⟩
        have hst : (storeCells ⟨m.block, m.base + off * ei.sz, none⟩ (Builtin.zeroCells z.cells len).toList).run cfg.P w = .ok () (w.setCells m.block (m.base + off * ei.sz) ((Array.range (len * ei.sz)).map (z.cells[· % z.cells.size]!)).toList) := by
          rw [zeroCells_eq, hzs]
          rw [hzs] at r1
          exact r1
        obtain ⟨l', rfl⟩ := Nat.exists_eq_succ_of_ne_zero hl0
        unfold Builtin.clear_
        simp [Sem.run_bind, run_underlying hu, Result.andThen_ok, hz1, hst, -Array.toList_map]
  · cases he

theorem aMake_sound {cfg : Cfg} (hc : CfgTy cfg) (h : Wld C μ H w) {nid : Option Nat} {t : TypeId} {l c r : AV} {vl vc : Value} (he : aMake cfg nid t l c H = some (r, H')) (hl : Rep C μ l vl) (hcv : Rep C μ c vc) :
    Runs cfg.P (Instr.makeSlice t vl vc) C μ H w r H' := by
  unfold aMake at he
  split at he
  case h_2 => cases he
  rename_i e n cc ht
  split at he
  case h_2 => cases he
  rename_i ei hei
  split at he
  case isFalse => cases he
  rename_i hrz
  split at he
  case isFalse => cases he
  rename_i hb
  split at he
  case h_2 => cases he
  rename_i k H1 hnew
  cases he; cases hl; cases hcv
  obtain ⟨tt, u, _, _, hu, hdd⟩ := hc.td ht
  have := td_slice hdd; subst this
  have hte := hc.ty _ _ hei
  obtain ⟨i, ue, z, hi, _, hz, hie⟩ := tiOf_spec hte
  have hby : ei.bytes = i.bytes := by rw [hie]
  have hz2 : ei.zero = z.cells.toList.map ofValue1 := by rw [hie]
  obtain ⟨h0, hzl, hza⟩ := rowZero_spec hrz
  have hzf := zeros_flat (C := C) (μ := μ) hz2 hrz cc.toNat
  have hg : Grew w (w.alloc (.cells ((Array.range (cc.toNat * ei.sz)).map (z.cells[· % z.cells.size]!)) e)) ((Array.range (cc.toNat * ei.sz)).map (z.cells[· % z.cells.size]!)) e := Grew.alloc _ _ _
  have hle : n.toNat * ei.sz ≤ cc.toNat * ei.sz := Nat.mul_le_mul_right _ (by omega)
  obtain ⟨g1, g2, g3⟩ := new_rows h hg hnew (by simpa using hle) (fun j row hj => by
    have hjl : j < n.toNat := by simpa using (List.getElem?_eq_some_iff.1 hj).1
    rw [List.getElem?_replicate, if_pos hjl] at hj
    have hj' : (List.replicate cc.toNat ei.zero)[j]? = some row := by rw [List.getElem?_replicate, if_pos (by omega)]; exact hj
    refine ⟨(hzf.2 j row hj').1, fun q x hq => ?_⟩
    obtain ⟨c1, v, c2, c3⟩ := (hzf.2 j row hj').2 q x hq
    exact ⟨c1, v, by rw [← Array.getElem?_toList]; exact c2, c3⟩) (fun _ => refsLtR_rep (by rw [hz2]; exact refsLtL_ofValue1 0 _))
  refine ⟨_, _, C, _, ?_, .ms k 0 n.toNat cc.toNat ⟨w.heap.size, 0, none⟩ _ (by unfold upd; rw [if_pos rfl]) (by omega) (fun _ => ⟨by simp, by simp⟩), g1, g2 _ (Nat.le_refl _)⟩
  have w1 : IntKind.i64.wrap n = n := by
    simp [IntKind.wrap, IntKind.bits, IntKind.signed]; omega
  have w2 : IntKind.i64.wrap cc = cc := by
    simp [IntKind.wrap, IntKind.bits, IntKind.signed]; omega
  have hb1 : ¬ ((decide (cc < 0) || decide ((i.bytes : Int) * cc > 2 ^ 48)) = true) := by
    have := hb.2.2.1
    rw [hby, Int.mul_comm] at this
    simp; omega
  have hb2 : ¬ (n < 0) := by omega
  have hb3 : ¬ (n > cc) := by omega
  have hno : ¬ ((decide (cc < 0) || decide ((i.bytes : Int) * cc > 2 ^ 48) || decide (n < 0) || decide (n > cc)) = true) := by
    simp at hb1 ⊢; omega
  unfold Instr.makeSlice
  simp only [Sem.run_bind, run_underlying hu, Result.andThen_ok, asInt, asIntOf, Sem.run_pure, run_typeInfo hi, w1, w2]
  rw [if_neg hno]
  have harr : (Array.range (cc.toNat * ei.sz)).map (fun x => (if cc.toNat * ei.sz = 0 then #[] else z.cells)[x % (if cc.toNat * ei.sz = 0 then (#[] : Array Value) else z.cells).size]!) = (Array.range (cc.toNat * ei.sz)).map (z.cells[· % z.cells.size]!) := by
    by_cases hc0 : cc.toNat * ei.sz = 0
    · rw [hc0]; simp
    · simp only [if_neg hc0]
  by_cases hc0 : cc.toNat * ei.sz = 0
  · simp only [if_pos hc0] at harr
    simp only [Sem.run_bind, Sem.run_pure, Result.andThen_ok, run_askRoom, run_sizeOf hte, if_pos hc0, newRow, run_newObj, World.alloc_eq, harr]
  · simp only [Sem.run_bind, Sem.run_pure, Result.andThen_ok, run_askRoom, run_sizeOf hte, if_neg hc0, zeroValue, run_typeInfo hi, hz, newRow, run_newObj, World.alloc_eq]
end Go.Av

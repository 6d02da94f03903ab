/-
  Parts of the proof of GuardConstUptoSaid, put together: the abstract evaluation and its contracts. Own work.
  What is proved: each lemma as it stands; no condition.
-/
import Derived.Test.YtogebohommickaaZGuardConstM4

section
namespace Go.Av
theorem drec_pos {α : Type} {p : Prop} {x : ¬p → α} {y : p → α} (i : Decidable p) (h : p) : (Decidable.rec (motive := fun _ => α) x y i : α) = y h := by
  cases i with
  | isFalse g => exact absurd h g
  | isTrue g => rfl
def conS : List UInt8 := [99, 111, 110, 115, 116]
def nameG (n : Int) : List UInt8 := if n > 9 then [36, UInt8.ofNat (48 + n / 10).toNat, UInt8.ofNat (48 + n % 10).toNat] else [36, UInt8.ofNat (48 + n % 10).toNat]
theorem nameG_var {n : Int} (h0 : 0 ≤ n) (h9 : n ≤ 99) : varG (nameG n) = some n := by
  have : ∀ k : Fin 100, varG (nameG (k.val : Int)) = some (k.val : Int) := by decide
  have h := this ⟨n.toNat, by omega⟩
  have e : ((n.toNat : Nat) : Int) = n := by omega
  simp only [e] at h
  exact h
theorem nameG_len (n : Int) : (nameG n).length ≤ 3 := by unfold nameG; split <;> simp
theorem symT_chk {s : List UInt8} (h : s.length ≤ 64) : (symT s).chk = 0 := by
  have h1 : (symT s).sound = true := by
    show soundB 2 0 s 0 = true
    unfold soundB
    rw [if_neg (by omega), if_pos rfl]
    simp [h]
  refine chk_zero.2 ⟨?_, ?_⟩
  · rw [Tm.parts_eq, h1]; rfl
  · rw [Tm.words_eq]
    show Tm.own (symT s) + wordsL [] ≤ 65536
    have := (symT s).own_le
    simp [wordsL]; omega
theorem symT_var {s : List UInt8} (h : s.length ≤ 64) : varT (symT s) = varG s := by
  unfold varT
  rw [if_pos ⟨rfl, symT_chk h⟩]; rfl
theorem lookB_uniq : ∀ {L : List (Int × Tm)} {last : Int}, mayB last L = true → ∀ p ∈ L, lookB p.1 L = some p.2
  | [], _, _, p, hp => by cases hp
  | q :: L, last, h, p, hp => by
    simp only [mayB, Bool.and_eq_true] at h
    rw [lookB]
    rcases List.mem_cons.1 hp with rfl | hp
    · rw [if_pos rfl]
    · have h1 := (mayB_range h.2.2.2 p hp).1
      rw [if_neg (by omega)]
      exact lookB_uniq h.2.2.2 p hp
theorem evalG_var {e : Env} (he : EnvOk e) {p : Int × Tm} (hp : p ∈ e.binds) : evalG e (symT (nameG p.1)) = (p.2, 0) := by
  obtain ⟨h1, h2⟩ := mayB_range he.may p hp
  have hl := nameG_len p.1
  have hv : varT (symT (nameG p.1)) = some p.1 := by rw [symT_var (by omega), nameG_var (by omega) h2]
  have hc : checkG (namesG e) (symT (nameG p.1)) = 0 := by
    unfold checkG
    rw [if_pos (symT_chk (by omega)), isG_atom rfl, hv]
    simp only []
    rw [if_pos (decide_eq_true (show p.1 ∈ namesG e from List.mem_map_of_mem hp))]
  unfold evalG
  rw [if_pos (by rw [envG_ok.2 he, hc]; rfl), valG_atom rfl, hv]
  simp only []
  rw [lookB_uniq he.may p hp]; rfl
theorem evalG_obj {e : Env} (he : EnvOk e) : evalG e (symT [36, 95]) = (e.obj, 0) := by
  have hv : varT (symT [36, 95]) = none := by rw [symT_var (by simp)]; rfl
  have hc : checkG (namesG e) (symT [36, 95]) = 0 := by
    unfold checkG
    rw [if_pos (symT_chk (by simp)), isG_atom rfl, hv]
    rfl
  unfold evalG
  rw [if_pos (by rw [envG_ok.2 he, hc]; rfl), valG_atom rfl, hv]
  rfl
theorem evalG_const {e : Env} (he : EnvOk e) {t : Tm} (h : (tupT [symT conS, t]).chk = 0) : evalG e (tupT [symT conS, t]) = (t, 0) := by
  have hc : checkG (namesG e) (tupT [symT conS, t]) = 0 := by
    unfold checkG
    rw [if_pos h, isG_tup (f := symT conS) (r := [t]) rfl rfl]
    rfl
  unfold evalG
  rw [if_pos (by rw [envG_ok.2 he, hc]; rfl), valG_tup (f := symT conS) (r := [t]) rfl rfl]
  rfl
theorem evalG_zero {e : Env} {t : Tm} (h : (evalG e t).2 = 0) : EnvOk e := by
  unfold evalG at h
  split at h
  · rename_i hc
    rw [Bool.and_eq_true] at hc
    exact envG_ok.1 hc.1
  · cases h
theorem bytes1 {x : Int} (h : 0 ≤ x ∧ x < 256) : bytesOfRows [[AV.int .u8 x]] = some [UInt8.ofNat x.toNat] := by
  simp [bytesOfRows, h]
theorem bytes2 {x y : Int} (h : 0 ≤ x ∧ x < 256) (h' : 0 ≤ y ∧ y < 256) : bytesOfRows [[AV.int .u8 x], [AV.int .u8 y]] = some [UInt8.ofNat x.toNat, UInt8.ofNat y.toNat] := by
  simp [bytesOfRows, h, h']
theorem wrap8 {x : Int} (h : 0 ≤ x ∧ x < 256) : IntKind.wrap .u8 x = x := by
  simp [IntKind.wrap, IntKind.bits, IntKind.signed]; omega
end Go.Av
namespace Go.Proofs.Ytogebohommickaa
open Go.Av
theorem tells17_ev {e : Env} (he : EnvW e) {t w : Tm} (ht : t.w < 1099511627776) (h : evalG e t = (w, 0)) (hw : w.Ok) : EVs (EV cfg) 23 [t.av, envR e.obj e.binds e.self, w.av] = some (.bool true) := by
  have h1 := eval_ev product_ok he ht
  have hs := sameT_dec hw (b := w) (c := true) (by simp)
  apply Gets.get
  unfold envR at *
  rw [Tm.av, Tm.av, Tm.cells_eq, Tm.cells_eq]
  refine law17Tells_run _ _ _ _ _ _ _ _ _ _ _ _ _ _ ?_
  simp only [av_unf, h1, h, kOptSome, evalR]
  rw [kEvalR]
  simp only [av_unf, hs, kOptSome, kBool_bool]
  exact ⟨_, rfl, rfl⟩
theorem kitT_ev (l : List Tm) : EVf (EV cfg) 28 [.sl (rowsT l)] = some (tupT l).av := by
  apply Gets.get
  refine kitT_run _ ?_
  rw [tupT, Tm.av_mk]
  exact ⟨_, rfl, rfl⟩
theorem op17_ev (s : List UInt8) (t : Tm) : EVf (EV cfg) 22 [.str s, .sl [[AV.int .i64 t.kind, .int .i64 t.num, .str t.str, .sl (rowsT t.subs)]]] = some (tupT [symT s, t]).av := by
  apply Gets.get
  refine law17Op_run _ _ _ _ _ ?_
  have e1 : ([[AV.int .i64 (symT s).kind, .int .i64 (symT s).num, .str (symT s).str, .sl (rowsT (symT s).subs)], [AV.int .i64 t.kind, .int .i64 t.num, .str t.str, .sl (rowsT t.subs)]]) = rowsT [symT s, t] := by
    rw [rowsT_cons, rowsT_cons, rowsT_nil, Tm.cells_eq, Tm.cells_eq]
  rw [kitA_ev]
  simp only [kOptSome, kTmV_av, e1, kitT_ev, av_unf]
  exact ⟨_, rfl, rfl⟩
theorem const_loop {e : Env} (he : EnvW e) (ho : EnvOk e) {t b : Tm} (hf : Gets (jb4_2 true t.kind t.num t.str (rowsT t.subs) e.obj.kind e.obj.num e.obj.str (rowsT e.obj.subs) (bindsR e.binds) e.self b.kind b.num b.str (rowsT b.subs)) (· = .bool true)) :
    ∀ (d i : Nat), i + d = e.binds.length → Gets (wb4_0 true i t.kind t.num t.str (rowsT t.subs) e.obj.kind e.obj.num e.obj.str (rowsT e.obj.subs) (bindsR e.binds) e.self b.kind b.num b.str (rowsT b.subs)) (· = .bool true) := by
  intro d
  induction d with
  | zero =>
    intro i hi
    refine wb4_0_step _ _ _ _ _ _ _ _ _ _ _ _ _ _ _ _ ?_
    rw [bindsR_len, decide_eq_false (by omega)]
    exact hf
  | succ d ih =>
    intro i hi
    have hil : i < e.binds.length := by omega
    have h := ih (i + 1) (by omega)
    have hm : e.binds[i] ∈ e.binds := List.getElem_mem hil
    obtain ⟨n0, n9⟩ := mayB_range ho.may _ hm
    have row : ∀ (k : List AV → Option AV), kOpt (bindsR e.binds)[Int.toNat (i : Int)]? k = k (.int .i64 e.binds[i].1 :: e.binds[i].2.cells) := fun k => by
      rw [Int.toNat_natCast, bindsR_get, List.getElem?_eq_getElem hil]; rfl
    have hl := nameG_len e.binds[i].1
    have ht := tells17_ev he (t := symT (nameG e.binds[i].1)) (by rw [symT, Tm.w_mk, wL_nil]; omega) (evalG_var ho hm) (ok_of_w _ (he.binds _ hm))
    unfold envR at ht
    obtain ⟨n, hn⟩ : ∃ n, e.binds[i].1 = n := ⟨_, rfl⟩
    rw [hn] at ht hl n0 n9
    have r1 : fromSem (Op.intDiv .rem .i64 n 10) = some (.int .i64 (n % 10)) := by rw [intDiv_rem (by omega), Int.tmod_eq_emod_of_nonneg (by omega)]
    have r2 : fromSem (Op.intDiv .quo .i64 n 10) = some (.int .i64 (n / 10)) := by rw [intDiv_quo (by omega), Int.tdiv_eq_ediv_of_nonneg (by omega), wrap64 (by omega) (by omega)]
    have w1 : IntKind.wrap .i64 (48 + n % 10) = 48 + n % 10 := wrap64 (by omega) (by omega)
    have w2 : IntKind.wrap .i64 (48 + n / 10) = 48 + n / 10 := wrap64 (by omega) (by omega)
    have w3 : IntKind.wrap .u8 (48 + n % 10) = 48 + n % 10 := wrap8 (by omega)
    have w4 : IntKind.wrap .u8 (48 + n / 10) = 48 + n / 10 := wrap8 (by omega)
    have fin : ∀ s : List UInt8, s = nameG n → Gets (kOpt (EVf (EV cfg) 21 [.str s]) fun (v : AV) => kTmV v fun (m m_1 : Int) (s : List UInt8) (rows : List (List AV)) => (bif true && true then kOpt (bindsR e.binds)[Int.toNat (i : Int)]? fun (row : List AV) => bif Nat.beq (List.length row) 5 then bif Nat.ble 5 (List.length row) then kCons (List.take 4 (List.drop 1 row)) fun (c : AV) (cs : List AV) => kInt .i64 c fun (n_2 : Int) => kCons cs fun (c : AV) (cs : List AV) => kInt .i64 c fun (n_3 : Int) => kCons cs fun (c : AV) (cs : List AV) => kStr c fun (s_1 : List UInt8) => kCons cs fun (c : AV) (cs : List AV) => kSl c fun (rows_1 : List (List AV)) => kNil cs (kOpt (EVs (EV cfg) 23 [.agg [AV.int .i64 m, .int .i64 m_1, .str s, .sl rows], .agg [AV.int .i64 e.obj.kind, .int .i64 e.obj.num, .str e.obj.str, .sl (rowsT e.obj.subs), .sl (bindsR e.binds), .int .i64 e.self], .agg [AV.int .i64 n_2, .int .i64 n_3, .str s_1, .sl rows_1]]) fun (v : AV) => kBool v fun (b_1 : Bool) => bif !b_1 then some (.bool false) else wb4_0 true ((i + 1 : Nat) : Int) t.kind t.num t.str (rowsT t.subs) e.obj.kind e.obj.num e.obj.str (rowsT e.obj.subs) (bindsR e.binds) e.self b.kind b.num b.str (rowsT b.subs)) else none else none else none)) (· = .bool true) := by
      rintro s rfl
      rw [kitA_ev]
      simp only [kOptSome, kTmV_av, Bool.and_self, cond_true, row, List.length_cons, length_cells, show Nat.beq (4 + 1) 5 = true from rfl, show Nat.ble 5 (4 + 1) = true from rfl, List.drop_succ_cons, List.drop_zero, take_cells, kChainL, av_unf, ht, kBool_bool, Bool.not_true, cond_false]
      exact h
    refine wb4_0_step _ _ _ _ _ _ _ _ _ _ _ _ _ _ _ _ ?_
    rw [bindsR_len, decide_eq_true (show (i : Int) < (e.binds.length : Int) by omega), leInt_zero, ltInt_nat, decide_eq_true hil, wrap_succ hil he.len]
    simp only [get?Internal_eq, cond_true, Bool.and_self, row, hn, List.length_cons, length_cells, show Nat.beq (4 + 1) 5 = true from rfl, List.getElem?_cons_zero, kOptSome, kInt_int, r1, r2, w1, w2, w3, w4]
    rw [drec_pos _ (by rfl)]
    simp only [kOptSome, List.drop_zero, show List.take 1 [[AV.int .u8 (48 + n % 10)]] = [[AV.int .u8 (48 + n % 10)]] from rfl, bytes1 (show 0 ≤ 48 + n % 10 ∧ 48 + n % 10 < 256 by omega)]
    rw [drec_pos _ (by simp)]
    simp only [kOptSome, kStr_str]
    by_cases h9 : n > 9
    · rw [decide_eq_true h9, cond_true, drec_pos _ (by rfl)]
      simp only [kOptSome, List.drop_zero, show List.take 2 [[AV.int .u8 (48 + n / 10)], [AV.int .u8 (48 + n % 10)]] = [[AV.int .u8 (48 + n / 10)], [AV.int .u8 (48 + n % 10)]] from rfl, bytes2 (show 0 ≤ 48 + n / 10 ∧ 48 + n / 10 < 256 by omega) (show 0 ≤ 48 + n % 10 ∧ 48 + n % 10 < 256 by omega)]
      rw [drec_pos _ (by simp)]
      simp only [kOptSome, kStr_str]
      have := fin ([36] ++ [UInt8.ofNat (48 + n / 10).toNat, UInt8.ofNat (48 + n % 10).toNat]) (by unfold nameG; rw [if_pos h9]; rfl)
      simp only [Bool.and_self, cond_true, row, hn, List.length_cons, length_cells, show Nat.beq (4 + 1) 5 = true from rfl] at this
      exact this
    · rw [decide_eq_false h9, cond_false]
      have := fin ([36] ++ [UInt8.ofNat (48 + n % 10).toNat]) (by unfold nameG; rw [if_neg h9]; rfl)
      simp only [Bool.and_self, cond_true, row, hn, List.length_cons, length_cells, show Nat.beq (4 + 1) 5 = true from rfl] at this
      exact this
theorem guardConst_ev {e : Env} (he : EnvW e) {t : Tm} (ht' : t.w ≤ 1048576) : EVs (EV cfg) 4 [t.av, envR e.obj e.binds e.self] = some (.bool true) := by
  have ht : t.w < 1099511627776 := by omega
  have hl := largeE_ev (l := [t]) (OkL_iff.2 fun x hx => by simp at hx; subst hx; exact ok_of_w _ ht) (by simp) he
  have h1 := eval_ev product_ok he (t := symT [97]) (by rw [symT, Tm.w_mk]; simp)
  have e2 : [[AV.int .i64 t.kind, .int .i64 t.num, .str t.str, .sl (rowsT t.subs)]] = rowsT [t] := by
    rw [rowsT_cons, rowsT_nil, Tm.cells_eq]
  apply Gets.get
  unfold envR at *
  rw [Tm.av, Tm.cells_eq]
  refine law17Const_run _ _ _ _ _ _ _ _ _ _ ?_
  rw [guardKnown_k47, e2]
  simp only [kOptSome, kBool_bool]
  refine Gets.bind hl ?_
  rintro _ ⟨b, rfl⟩
  cases b with
  | true => exact ⟨_, rfl, rfl⟩
  | false =>
    simp only [kBool_bool, cond_false, kitA_ev, kOptSome, kTmV_av, av_unf, h1, evalR]
    rw [kEvalR]
    refine jb4_0_step _ _ _ _ _ _ _ _ _ _ _ _ _ _ _ _ _ ?_
    have ho := op17_ev conS t
    rw [show ([99, 111, 110, 115, 116] : List UInt8) = conS from rfl, ho]
    have hck := guardCheck_ev (V := []) (by simp) (t := tupT [symT conS, t]) (by rw [tupT, Tm.w_mk, symT]; simp [Tm.w_mk, conS]; omega)
    have bneI : ∀ z : Int, (z != 0) = !decide (z = 0) := fun z => by rw [bne, beqI]
    simp only [kOptSome, kTmV_av, av_unf, bneI]
    by_cases hx : (evalG e (symT [97])).2 = 0
    · rw [decide_eq_true hx]
      have hok := evalG_zero hx
      have hr : refsLtL 0 [(tupT [symT conS, t]).av, .sl []] = true := by
        rw [tupT, Tm.av_mk]; rfl
      have hck' : EVs (EV cfg) 12 [(tupT [symT conS, t]).av, .sl []] = some (.int .i64 (checkG [] (tupT [symT conS, t]))) := hck
      simp only [Bool.not_true, cond_false, hr, cond_true, hck', kOptSome, kInt_int, bneI]
      by_cases hc : checkG [] (tupT [symT conS, t]) = 0
      · rw [decide_eq_true hc]
        have hc0 := (checkG_zero hc).1
        refine jb4_1_step _ _ _ _ _ _ _ _ _ _ _ _ _ _ _ _ _ _ _ _ _ _ _ _ ?_
        refine const_loop he hok ?_ e.binds.length 0 (by omega)
        refine jb4_2_step _ _ _ _ _ _ _ _ _ _ _ _ _ _ _ ?_
        have t1 := tells17_ev he (t := tupT [symT conS, t]) (by rw [tupT, Tm.w_mk, symT]; simp [Tm.w_mk, conS]; omega) (evalG_const hok hc0) (ok_of_w _ ht)
        have t2 := tells17_ev he (t := symT [36, 95]) (by rw [symT, Tm.w_mk]; simp) (evalG_obj hok) (ok_of_w _ he.obj)
        unfold envR at t1 t2
        simp only [cond_true, av_unf, t1, kOptSome, kBool_bool, kitA_ev, kTmV_av, t2]
        exact ⟨_, rfl, rfl⟩
      · rw [decide_eq_false hc]; exact ⟨_, rfl, rfl⟩
    · rw [decide_eq_false hx]; exact ⟨_, rfl, rfl⟩
end Go.Proofs.Ytogebohommickaa
end

section
namespace Go.Av
mutual
def AV.wt : AV → Nat
  | .str s => s.length + 1
  | .sl rows => wtR rows + 1
  | _ => 1
def wtL : List AV → Nat
  | [] => 0
  | a :: l => a.wt + wtL l
def wtR : List (List AV) → Nat
  | [] => 0
  | a :: l => wtL a + wtR l
end
@[simp] theorem wtL_nil : wtL [] = 0 := by rw [wtL]
@[simp] theorem wtL_cons (a : AV) (l : List AV) : wtL (a :: l) = a.wt + wtL l := by rw [wtL]
@[simp] theorem wtR_nil : wtR [] = 0 := by rw [wtR]
@[simp] theorem wtR_cons (a : List AV) (l : List (List AV)) : wtR (a :: l) = wtL a + wtR l := by rw [wtR]
@[simp] theorem wt_int (k : IntKind) (n : Int) : (AV.int k n).wt = 1 := by rw [AV.wt] <;> simp
@[simp] theorem wt_bool (b : Bool) : (AV.bool b).wt = 1 := by rw [AV.wt] <;> simp
@[simp] theorem wt_str (s : List UInt8) : (AV.str s).wt = s.length + 1 := by rw [AV.wt]
@[simp] theorem wt_sl (r : List (List AV)) : (AV.sl r).wt = wtR r + 1 := by rw [AV.wt]
theorem wtL_append (a b : List AV) : wtL (a ++ b) = wtL a + wtL b := by
  induction a with
  | nil => simp
  | cons x l ih => simp [ih]; omega
end Go.Av
namespace Go.Proofs.Ytogebohommickaa
open Go.Av Go.WideShapes
def tiled (P : Program) : Nat → List Field → Option Nat
  | off, [] => some off
  | off, f :: fs => if f.offset = off then tiled P (off + P.cellsOf f.type) fs else none
def goodTy (P : Program) (ts : List TypeId) (t : TypeId) : Bool :=
  match P.underlying t with
  | some (.int _) | some .bool | some .string => decide (P.cellsOf t = 1)
  | some (.struct fs) => decide (tiled P 0 fs.toList = some (P.cellsOf t)) && fs.toList.all (fun f => decide (f.type ∈ ts))
  | some (.slice e) => decide (P.cellsOf t = 1) && (decide (e ∈ ts) && decide (0 < P.cellsOf e))
  | _ => false
def Lay (P : Program) : Nat → TypeId → List AV → Prop
  | 0, _, _ => False
  | n + 1, t, cz =>
    match P.underlying t with
    | some (.int k) => ∃ m, cz = [.int k m] ∧ (Lit.int k m).wf = true
    | some .bool => ∃ b, cz = [.bool b]
    | some .string => ∃ s, cz = [.str s]
    | some (.struct fs) => cz.length = P.cellsOf t ∧ ∀ (i : Nat) f, fs[i]? = some f → Lay P n f.type ((cz.drop f.offset).take (P.cellsOf f.type))
    | some (.slice e) => ∃ rows, cz = [.sl rows] ∧ ∀ row ∈ rows, row.length = P.cellsOf e ∧ Lay P n e row
    | _ => False
def CellsR (W : World) (cs : List Value) (cz : List AV) : Prop := cz.length = cs.length ∧ ∀ (j : Nat) a v, cz[j]? = some a → cs[j]? = some v → a.isCell = true ∧ Rep (C0 W) M0 a v
theorem CellsR.nil {W : World} : CellsR W [] [] := ⟨rfl, fun j a v h => by simp at h⟩
theorem CellsR.one {W : World} {a : AV} {v : Value} (h1 : a.isCell = true) (h2 : Rep (C0 W) M0 a v) : CellsR W [v] [a] := ⟨rfl, fun j a' v' ha hv => by
  match j, ha, hv with
  | 0, ha, hv => simp at ha hv; subst ha hv; exact ⟨h1, h2⟩
  | j + 1, ha, hv => simp at ha⟩
theorem CellsR.append {W : World} {cs cs' : List Value} {cz cz' : List AV} (h : CellsR W cs cz) (h' : CellsR W cs' cz') : CellsR W (cs ++ cs') (cz ++ cz') := by
  refine ⟨by simp [h.1, h'.1], fun j a v ha hv => ?_⟩
  by_cases hj : j < cz.length
  · rw [List.getElem?_append_left hj] at ha
    rw [List.getElem?_append_left (by rw [← h.1]; exact hj)] at hv
    exact h.2 j a v ha hv
  · rw [List.getElem?_append_right (by omega)] at ha
    rw [List.getElem?_append_right (by rw [← h.1]; omega), ← h.1] at hv
    exact h'.2 _ a v ha hv
section
variable {H : Type} {enc : TypeId × Value → H} {P : Program} {W : World}
def Opens (enc : TypeId × Value → H) (P : Program) (W : World) (n : Nat) (t : TypeId) : Prop :=
  ∀ cs x, DataW.trod enc P W 0 (fun _ => true) true n t cs = some x → ∃ cz, CellsR W cs cz ∧ cs.length = P.cellsOf t ∧ Lay P n t cz ∧ wtL cz ≤ Rows.uptoBulk x.1 ∧ refsLtL 0 cz = true ∧
    ∀ (W' : World) (sp : Nat → Bool), (∀ p ∈ x.2, W.sameAt W' p) → (∀ p ∈ x.2, sp p.block = true) → DataW.trod enc P W' 0 sp true n t cs = some x
theorem open_fields {n : Nat} {ts : List TypeId} (ih : ∀ t ∈ ts, Opens enc P W n t) {cs : List Value} : ∀ (fs : List Field) (off : Nat), tiled P off fs = some cs.length → (∀ f ∈ fs, f.type ∈ ts) →
    ∀ xs, (fs.mapM fun f => DataW.trod enc P W 0 (fun _ => true) true n f.type ((cs.drop f.offset).take (P.cellsOf f.type))) = some xs →
    ∃ cz, CellsR W (cs.drop off) cz ∧ (∀ f ∈ fs, off ≤ f.offset ∧ Lay P n f.type ((cz.drop (f.offset - off)).take (P.cellsOf f.type))) ∧ wtL cz ≤ Rows.uptoBulkAll (xs.map (·.1)) ∧ refsLtL 0 cz = true ∧
      ∀ (W' : World) (sp : Nat → Bool), (∀ p ∈ xs.flatMap (·.2), W.sameAt W' p) → (∀ p ∈ xs.flatMap (·.2), sp p.block = true) →
        (fs.mapM fun f => DataW.trod enc P W' 0 sp true n f.type ((cs.drop f.offset).take (P.cellsOf f.type))) = some xs := by
  intro fs
  induction fs with
  | nil =>
    intro off ht _ xs hx
    rw [tiled] at ht
    cases ht
    simp at hx
    subst hx
    refine ⟨[], ?_, fun f hf => by simp at hf, by simp, rfl, fun W' sp _ _ => by simp⟩
    rw [List.drop_length]; exact CellsR.nil
  | cons f fs ihf =>
    intro off ht hin xs hx
    rw [tiled] at ht
    split at ht
    · rename_i ho
      rw [List.mapM_cons] at hx
      obtain ⟨x, h1, hx⟩ := Option.bind_eq_some_iff.1 hx
      obtain ⟨ys, h2, hx⟩ := Option.bind_eq_some_iff.1 hx
      cases hx
      obtain ⟨a1, c1, l1, y1, w1, r1, b1⟩ := ih f.type (hin f (by simp)) _ _ h1
      obtain ⟨a2, c2, y2, w2, r2, b2⟩ := ihf (off + P.cellsOf f.type) ht (fun g hg => hin g (by simp [hg])) ys h2
      have hlen : a1.length = P.cellsOf f.type := by rw [c1.1, l1]
      refine ⟨a1 ++ a2, ?_, fun g hg => ?_, ?_, refsLtL_app r1 r2, fun W' sp hs hp => ?_⟩
      · have := c1.append c2
        rw [ho, ← List.drop_drop, List.take_append_drop] at this
        exact this
      · rcases List.mem_cons.1 hg with rfl | hg
        · refine ⟨by omega, ?_⟩
          rw [ho, Nat.sub_self, List.drop_zero, ← hlen, List.take_append_of_le_length (Nat.le_refl _), List.take_length]
          exact y1
        · obtain ⟨g1, g2⟩ := y2 g hg
          refine ⟨by omega, ?_⟩
          have : List.drop (g.offset - off) (a1 ++ a2) = List.drop (g.offset - (off + P.cellsOf f.type)) a2 := by
            have e : g.offset - off = a1.length + (g.offset - (off + P.cellsOf f.type)) := by omega
            rw [e, ← List.drop_drop, List.drop_left]
          rw [this]
          exact g2
      · rw [wtL_append]
        simp only [List.map_cons, Rows.uptoBulkAll]
        omega
      · rw [List.mapM_cons, b1 W' sp (fun p hpp => hs p (by simp [hpp])) (fun p hpp => hp p (by simp [hpp]))]
        have b3 := b2 W' sp (fun p hpp => hs p (by rw [List.flatMap_cons]; exact List.mem_append_right _ hpp)) (fun p hpp => hp p (by rw [List.flatMap_cons]; exact List.mem_append_right _ hpp))
        show Option.bind _ _ = _
        rw [Option.bind_some]
        show Option.bind _ _ = _
        rw [b3]; rfl
    · cases ht
theorem bulk_rows {e : Nat} : ∀ (rows : List (List AV)) (ds : List (DataW H)), rows.length = ds.length → (∀ (i : Nat) row d, rows[i]? = some row → ds[i]? = some d → wtL row ≤ Rows.uptoBulk d) → wtR rows ≤ Rows.uptoBulkAll ds
  | [], [], _, _ => by simp [Rows.uptoBulkAll]
  | t :: l, d :: ds, hl, h => by
    have h0 := h 0 t d rfl rfl
    have := bulk_rows (e := e) l ds (by simpa using hl) (fun i t d ht hd => h (i + 1) t d (by simpa using ht) (by simpa using hd))
    simp only [wtR_cons, Rows.uptoBulkAll]
    omega
theorem open_gen {ts : List TypeId} (hts : ∀ t ∈ ts, goodTy P ts t = true) : ∀ (n : Nat), ∀ t ∈ ts, Opens enc P W n t := by
  intro n
  induction n with
  | zero => intro t _ cs x h; simp [DataW.trod] at h
  | succ n ih =>
    intro t ht cs x h
    have hg := hts t ht
    unfold goodTy at hg
    split at hg
    · rename_i k hu
      obtain ⟨m, rfl, rfl, hw⟩ := DataW.trod_int hu h
      refine ⟨[.int k m], CellsR.one rfl (.int _ _), (of_decide_eq_true hg).symm, by unfold Lay; rw [hu]; exact ⟨m, rfl, hw⟩, by simp [Rows.uptoBulk], rfl, fun W' sp _ _ => ?_⟩
      simp [DataW.trod, hu, hw]
    · rename_i hu
      obtain ⟨b, rfl, rfl⟩ := DataW.trod_bool hu h
      refine ⟨[.bool b], CellsR.one rfl (.bool _), (of_decide_eq_true hg).symm, by unfold Lay; rw [hu]; exact ⟨b, rfl⟩, by simp [Rows.uptoBulk], rfl, fun W' sp _ _ => ?_⟩
      simp [DataW.trod, hu]
    · rename_i hu
      obtain ⟨s, rfl, rfl, hw⟩ := DataW.trod_string hu h
      refine ⟨[.str s.data.toList], CellsR.one rfl ?_, (of_decide_eq_true hg).symm, by unfold Lay; rw [hu]; exact ⟨_, rfl⟩, by simp [Rows.uptoBulk], rfl, fun W' sp _ _ => ?_⟩
      · have := Rep.str (C := C0 W) (μ := M0) s.data.toList
        simpa using this
      · simp [DataW.trod, hu, hw]
    · rename_i fs hu
      rw [Bool.and_eq_true, decide_eq_true_eq, List.all_eq_true] at hg
      have h' := h
      unfold DataW.trod at h'
      rw [hu] at h'
      simp only [] at h'
      split at h'
      · rename_i hl
        obtain ⟨xs, hx, rfl⟩ := Option.map_eq_some_iff.1 h'
        rw [← hl] at hg
        obtain ⟨cz, c, y, w, r, b⟩ := open_fields ih fs.toList 0 hg.1 (fun f hf => of_decide_eq_true (hg.2 f hf)) xs hx
        rw [List.drop_zero] at c
        refine ⟨cz, c, hl, ?_, ?_, r, fun W' sp hs hp => ?_⟩
        · unfold Lay
          rw [hu]
          refine ⟨by rw [c.1, hl], fun i f hf => ?_⟩
          have := y f (by rw [← Array.getElem?_toList] at hf; exact List.mem_of_getElem? hf)
          rw [Nat.sub_zero] at this
          exact this.2
        · simp only [Rows.uptoBulk]; omega
        · unfold DataW.trod
          rw [hu]
          simp only []
          rw [if_pos hl, b W' sp hs hp]; rfl
      · cases h'
    · rename_i e hu
      rw [Bool.and_eq_true, Bool.and_eq_true, decide_eq_true_eq, decide_eq_true_eq, decide_eq_true_eq] at hg
      obtain ⟨hc1, he, hpos⟩ := hg
      rcases DataW.trod_slice hu h with ⟨rfl, rfl⟩ | ⟨a, len, cap, elems, rest, n', e', rfl, rfl, hb, hlc, hmx, hel, hg, hsp, _⟩
      · refine ⟨[.sl []], CellsR.one rfl .slNil, hc1.symm, by unfold Lay; rw [hu]; exact ⟨[], rfl, fun r hr => by simp at hr⟩, by simp [Rows.uptoBulk], rfl, fun W' sp _ _ => ?_⟩
        simp [DataW.trod, hu]
      · obtain rfl : n' = n := by omega
        obtain ⟨hrl, hrg⟩ := hsp rfl
        have ihe := ih e he
        have tms : ∃ f : Nat → List AV, ∀ (i : Nat) y, elems[i]? = some y → ∃ cs', W.cells? 0 (a.add (i * P.cellsOf e)) (P.cellsOf e) = some cs' ∧ CellsR W cs' (f i) ∧ cs'.length = P.cellsOf e ∧ Lay P n' e (f i) ∧ wtL (f i) ≤ Rows.uptoBulk y.1 ∧ refsLtL 0 (f i) = true := by
          have : ∀ i : Nat, ∃ t : List AV, ∀ y, elems[i]? = some y → ∃ cs', W.cells? 0 (a.add (i * P.cellsOf e)) (P.cellsOf e) = some cs' ∧ CellsR W cs' t ∧ cs'.length = P.cellsOf e ∧ Lay P n' e t ∧ wtL t ≤ Rows.uptoBulk y.1 ∧ refsLtL 0 t = true := by
            intro i
            cases hy : elems[i]? with
            | none => exact ⟨default, fun y h => by cases h⟩
            | some y =>
              have hi : i < len := by rw [← hel]; exact (List.getElem?_eq_some_iff.1 hy).1
              obtain ⟨cs', h1, h2⟩ := Option.bind_eq_some_iff.1 ((hg i hi).trans hy)
              obtain ⟨t, h3, h4, h5, h6, h7, _⟩ := ihe _ _ h2
              exact ⟨t, fun y' hy' => by cases hy'; exact ⟨cs', h1, h3, h4, h5, h6, h7⟩⟩
          exact ⟨fun i => Classical.choose (this i), fun i => Classical.choose_spec (this i)⟩
        obtain ⟨f, hf⟩ := tms
        have hget : ∀ (i : Nat) (row : List AV), ((List.range len).map f)[i]? = some row → i < len ∧ row = f i := by
          intro i row hi
          have hil : i < len := by have := (List.getElem?_eq_some_iff.1 hi).1; simpa using this
          refine ⟨hil, ?_⟩
          rw [List.getElem?_map, List.getElem?_range hil] at hi
          simpa using hi.symm
        have hrow : ∀ (i : Nat) (row : List AV), ((List.range len).map f)[i]? = some row → row.length = P.cellsOf e ∧ Lay P n' e row ∧ refsLtL 0 row = true := by
          intro i row hi
          obtain ⟨hil, rfl⟩ := hget i row hi
          obtain ⟨cs', h1, h2, h3, h4, h5, h6⟩ := hf i _ (List.getElem?_eq_getElem (by omega))
          exact ⟨by rw [h2.1, h3], h4, h6⟩
        have hspot : ((List.range len).map f) ≠ [] → a.spot = none := by
          intro hne
          have hl0 : 0 < len := by
            rcases Nat.eq_zero_or_pos len with h0 | h0
            · subst h0; exact absurd (by simp) hne
            · exact h0
          obtain ⟨cs0, q1, _⟩ := hf 0 _ (List.getElem?_eq_getElem (by omega))
          have := (cells?_some q1 (by omega)).1
          simpa [Addr.add] using this
        have hcell : ∀ (i j : Nat) (row : List AV) x, ((List.range len).map f)[i]? = some row → row[j]? = some x → x.isCell = true ∧ ∃ v, W.cell? ⟨a.block, a.off + i * P.cellsOf e + j, none⟩ = some v ∧ Rep (C0 W) M0 x v := by
          intro i j row x hi hj
          have hs := hspot (by intro h0; rw [h0] at hi; simp at hi)
          obtain ⟨hil, rfl⟩ := hget i row hi
          obtain ⟨cs', h1, h2, h3, _⟩ := hf i _ (List.getElem?_eq_getElem (by omega))
          obtain ⟨s1, s2, s3⟩ := cells?_some h1 (by omega)
          have hjl : j < cs'.length := by
            rw [← h2.1]
            exact (List.getElem?_eq_some_iff.1 hj).1
          have h4 := h2.2 j x _ hj (List.getElem?_eq_getElem hjl)
          refine ⟨h4.1, _, ?_, h4.2⟩
          have := s3 j _ (List.getElem?_eq_getElem hjl)
          rw [addr_add' _ _ hs] at this
          exact this
        have hfree : refsLtR 0 ((List.range len).map f) = true := by
          have : ∀ l : List (List AV), (∀ r ∈ l, refsLtL 0 r = true) → refsLtR 0 l = true := by
            intro l
            induction l with
            | nil => intro _; rfl
            | cons r l ih => intro h; rw [refsLtR, h r (by simp), ih fun q hq => h q (by simp [hq])]; rfl
          refine this _ fun r hr => ?_
          obtain ⟨i, hi⟩ := List.getElem?_of_mem hr
          exact (hrow i r hi).2.2
        refine ⟨[.sl ((List.range len).map f)], CellsR.one rfl ?_, hc1.symm, ?_, ?_, rfl, fun W' sp hs hp => ?_⟩
        · have := Rep.sl (C := C0 W) (μ := M0) ((List.range len).map f) a cap (P.cellsOf e) (fun i j => (W.cell? ⟨a.block, a.off + i * P.cellsOf e + j, none⟩).getD undef) hspot (fun i row hi => (hrow i row hi).1) (fun i j row x hi hj => ?_) (fun i j row x hi hj => ?_) (fun i j row x hi hj => ?_) (by simpa using hlc) hfree
          · simpa using this
          · obtain ⟨_, v, h1, _⟩ := hcell i j row x hi hj
            show W.cell? _ = _
            rw [h1]; rfl
          · obtain ⟨_, v, h1, h2⟩ := hcell i j row x hi hj
            rw [h1]; exact h2
          · exact (hcell i j row x hi hj).1
        · unfold Lay
          rw [hu]
          refine ⟨_, rfl, fun row hr => ?_⟩
          obtain ⟨i, hi⟩ := List.getElem?_of_mem hr
          exact ⟨(hrow i row hi).1, (hrow i row hi).2.1⟩
        · simp only [Rows.uptoBulk, wtL_cons, wtL_nil, wt_sl]
          have := bulk_rows (e := 0) ((List.range len).map f) (elems.map (·.1)) (by simp [hel]) (fun i t d ht hd => by
            rw [List.getElem?_map] at ht hd
            obtain ⟨j, hj, rfl⟩ := Option.map_eq_some_iff.1 ht
            obtain ⟨y, hy, rfl⟩ := Option.map_eq_some_iff.1 hd
            have hil : i < len := by have := (List.getElem?_eq_some_iff.1 hj).1; simpa using this
            rw [List.getElem?_range hil] at hj
            cases hj
            obtain ⟨_, _, _, _, _, h5, _⟩ := hf i y hy
            exact h5)
          omega
        · have hrow' : 0 < (elems.length + rest.length) → sp a.block = true := fun hps => hp (.cell a.block (a.off + 0)) (by
            rw [List.mem_append]
            exact .inl (MemPlace.mem_row.2 ⟨0, Nat.mul_pos hps hpos, rfl⟩))
          unfold DataW.trod at h ⊢
          rw [hu] at h ⊢
          simp only [if_true] at h ⊢
          rw [if_pos ⟨hb, hlc, hmx⟩] at h ⊢
          simp only [Option.map_eq_some_iff, Option.bind_eq_some_iff] at h ⊢
          obtain ⟨elems', he, rest', hr, hx⟩ := h
          have hlen : elems'.length = len := by simpa using mapM_some_length he
          have hrl' : rest'.length = cap - len := by simpa using mapM_some_length hr
          simp only [Prod.mk.injEq, DataW.slice.injEq] at hx
          have one' : ∀ (i : Nat) (y : DataW H × List MemPlace), i < elems'.length + rest'.length → y ∈ elems' ++ rest' →
              (W.cells? 0 (a.add (i * P.cellsOf e)) (P.cellsOf e)).bind (DataW.trod enc P W 0 (fun _ => true) true n' e) = some y → (W'.cells? 0 (a.add (i * P.cellsOf e)) (P.cellsOf e)).bind (DataW.trod enc P W' 0 sp true n' e) = some y := by
            intro i y hi hy hv
            simp only [Option.bind_eq_some_iff] at hv ⊢
            obtain ⟨cs', hc', hy'⟩ := hv
            obtain ⟨_, _, _, _, _, _, hbk⟩ := ihe _ _ hy'
            refine ⟨cs', World.cells?_carry hc' (fun p hpp => hs p ?_), hbk W' sp (fun p hpp => hs p ?_) (fun p hpp => hp p ?_)⟩
            · rw [← hx.2]
              obtain ⟨j, hj, rfl⟩ := MemPlace.mem_row.1 hpp
              simp only [List.mem_append]
              left
              refine MemPlace.mem_row.2 ⟨i * P.cellsOf e + j, ?_, ?_⟩
              · calc i * P.cellsOf e + j < i * P.cellsOf e + P.cellsOf e := by omega
                  _ = (i + 1) * P.cellsOf e := by rw [Nat.add_mul, Nat.one_mul]
                  _ ≤ (elems'.length + rest'.length) * P.cellsOf e := Nat.mul_le_mul_right _ hi
              · unfold Addr.add
                split
                · rename_i h0
                  simp [h0]
                · simp [Nat.add_assoc]
            · rw [← hx.2]
              simp only [List.mem_append, List.mem_flatMap]
              right
              exact ⟨y, by simpa using hy, hpp⟩
            · rw [← hx.2]
              simp only [List.mem_append, List.mem_flatMap]
              right
              exact ⟨y, by simpa using hy, hpp⟩
          refine ⟨elems', mapM_carry he (fun i y hi hy => one' i y (by have : i < len := (by simpa using hi); omega) (by simp [hy])), rest', ?_, by simp only [Prod.mk.injEq, DataW.slice.injEq]; exact hx⟩
          by_cases h0 : 0 < elems.length + rest.length
          · rw [if_pos (hrow' h0)]
            exact mapM_carry hr (fun j y hj hy => one' (len + j) y (by have : j < cap - len := (by simpa using hj); omega) (by simp [hy]))
          · have hc0 : cap - len = 0 := by omega
            rw [hc0] at hr ⊢
            simp at hr
            subst hr
            split <;> rfl
    · cases hg
theorem open_struct {ts : List TypeId} (hts : ∀ t ∈ ts, goodTy P ts t = true) {t : TypeId} (ht : t ∈ ts) {fs : Array Field} (hu : P.underlying t = some (.struct fs)) {r : Reach} {b0 : Nat} {v : Value} {d : DataW H} {ps : List MemPlace}
    (hval : Value.okWide P W r b0 t v) (hd : DataW.Trod enc P W 0 (fun _ => true) true t v d ps) :
    ∃ (cz : List AV) (n : Nat), Opened enc P W t v d ps (.agg cz) ∧ Lay P n t cz ∧ wtL cz ≤ Rows.uptoBulk d := by
  obtain ⟨cs, rfl, hsz⟩ := okWide_struct hu hval
  obtain ⟨n, hn⟩ := hd
  obtain ⟨cz, h1, h2, h3, h4, h5, h6⟩ := open_gen hts n t ht _ _ hn
  refine ⟨cz, n, ⟨?_, fun W' sp hs hp => ⟨n, h6 W' sp hs hp⟩⟩, h3, h4⟩
  have := Rep.agg (C := C0 W) (μ := M0) cz cs.toList (by
    have := h1.1
    simpa [Value.cells] using this) (fun i a v ha hv => (h1.2 i a v ha (by simpa [Value.cells] using hv)).2)
  simpa using this
end
theorem lay_terms {P : Program} {tT tL tI tS : TypeId} (T : TermTys P tT tL tI tS) : ∀ (n : Nat),
    (∀ cz, Lay P n tT cz → ∃ t : Tm, cz = t.cells ∧ t.w < wtL cz) ∧ (∀ cz, Lay P n tL cz → ∃ l : List Tm, cz = [.sl (rowsT l)] ∧ wL l < wtL cz) := by
  intro n
  induction n with
  | zero => exact ⟨fun cz h => absurd h (by unfold Lay; exact id), fun cz h => absurd h (by unfold Lay; exact id)⟩
  | succ n ih =>
    refine ⟨fun cz h => ?_, fun cz h => ?_⟩
    · obtain ⟨f0, f1, f2, f3, hu, t0, o0, t1, o1, t2, o2, t3, o3⟩ := T.uT
      unfold Lay at h
      rw [hu] at h
      obtain ⟨hl, hf⟩ := h
      rw [T.cT] at hl
      obtain ⟨c0, c1, c2, c3, rfl⟩ : ∃ c0 c1 c2 c3, cz = [c0, c1, c2, c3] := by
        match cz, hl with
        | [a, b, c, d], _ => exact ⟨a, b, c, d, rfl⟩
      have h0 := hf 0 f0 rfl
      have h1 := hf 1 f1 rfl
      have h2 := hf 2 f2 rfl
      have h3 := hf 3 f3 rfl
      rw [t0, o0, T.cI] at h0
      rw [t1, o1, T.cI] at h1
      rw [t2, o2, T.cS] at h2
      rw [t3, o3, T.cL] at h3
      simp at h0 h1 h2 h3
      cases n with
      | zero => exact absurd h0 (by unfold Lay; exact id)
      | succ n =>
        obtain ⟨l, e3, w3⟩ := ih.2 _ h3
        unfold Lay at h0 h1 h2
        rw [T.uI] at h0 h1
        rw [T.uS] at h2
        obtain ⟨k, e0, _⟩ := h0
        obtain ⟨m, e1, _⟩ := h1
        obtain ⟨s, e2⟩ := h2
        simp at e0 e1 e2 e3
        subst e0 e1 e2 e3
        refine ⟨.mk k m s l, by rw [Tm.cells_mk], ?_⟩
        rw [Tm.w_mk]
        simp only [wtL_cons, wtL_nil, wt_int, wt_str, wt_sl] at w3 ⊢
        omega
    · unfold Lay at h
      rw [T.uL] at h
      obtain ⟨rows, rfl, hr⟩ := h
      have : ∀ rows : List (List AV), (∀ row ∈ rows, row.length = P.cellsOf tT ∧ Lay P n tT row) → ∃ l : List Tm, rows = rowsT l ∧ wL l ≤ wtR rows := by
        intro rows
        induction rows with
        | nil => intro _; exact ⟨[], by rw [rowsT_nil], by simp⟩
        | cons r rows ihr =>
          intro h
          obtain ⟨t, e1, w1⟩ := ih.1 r (h r (by simp)).2
          obtain ⟨l, e2, w2⟩ := ihr fun q hq => h q (by simp [hq])
          refine ⟨t :: l, by rw [rowsT_cons, ← e1, ← e2], ?_⟩
          simp; omega
      obtain ⟨l, rfl, w⟩ := this rows hr
      exact ⟨l, rfl, by simp; omega⟩
theorem lay_rows {α : Type} {P : Program} {n : Nat} {e : TypeId} {f : α → List AV} {w : α → Nat} (h : ∀ cz, Lay P n e cz → ∃ x : α, cz = f x ∧ w x < wtL cz) : ∀ rows : List (List AV), (∀ row ∈ rows, row.length = P.cellsOf e ∧ Lay P n e row) →
    ∃ l : List α, rows = l.map f ∧ (∀ x ∈ l, w x < wtR rows) ∧ l.length ≤ wtR rows := by
  intro rows
  induction rows with
  | nil => intro _; exact ⟨[], rfl, fun x hx => by simp at hx, by simp⟩
  | cons r rows ih =>
    intro hr
    obtain ⟨x, e1, w1⟩ := h r (hr r (by simp)).2
    obtain ⟨l, e2, w2, w3⟩ := ih fun q hq => hr q (by simp [hq])
    refine ⟨x :: l, by rw [List.map_cons, ← e1, ← e2], fun y hy => ?_, by simp; omega⟩
    rcases List.mem_cons.1 hy with rfl | hy
    · simp; omega
    · have := w2 y hy; simp; omega
theorem bulk_le {H : Type} {l : List (DataW H)} (hk : Rows.uptoSmall H l = true) {d : DataW H} (hd : d ∈ l) : Rows.uptoBulk d ≤ 1048576 := by
  have h : Rows.uptoBulkAll l ≤ 1048576 := of_decide_eq_true hk
  have := bulk_part hd
  omega
end Go.Proofs.Ytogebohommickaa
end

section
namespace Go.Proofs.Ytogebohommickaa
open Go.Av
set_option maxRecDepth 100000
def envTys : List TypeId := [29, 24, 22, 27, 44, 3, 9]
theorem envTys_good : ∀ t ∈ envTys, goodTy Try.prog envTys t = true := by
  have : envTys.all (goodTy Try.prog envTys) = true := by kernel_rfl
  exact List.all_eq_true.1 this
theorem lay_int {n : Nat} {cz : List AV} (h : Lay Try.prog n 3 cz) : ∃ m, cz = [.int .i64 m] := by
  cases n with
  | zero => exact absurd h (by unfold Lay; exact id)
  | succ n =>
    unfold Lay at h
    rw [Try.underlying3] at h
    obtain ⟨m, h, _⟩ := h
    exact ⟨m, h⟩
theorem lay_term {n : Nat} {cz : List AV} (h : Lay Try.prog n 24 cz) : ∃ t : Tm, cz = t.cells ∧ t.w < wtL cz := (lay_terms term_tys n).1 cz h
theorem lay_bind {n : Nat} {cz : List AV} (h : Lay Try.prog n 44 cz) : ∃ p : Int × Tm, cz = .int .i64 p.1 :: p.2.cells ∧ p.2.w < wtL cz := by
  cases n with
  | zero => exact absurd h (by unfold Lay; exact id)
  | succ n =>
    unfold Lay at h
    rw [Try.underlying44] at h
    obtain ⟨hl, hf⟩ := h
    have hl : cz.length = 5 := by rw [hl]; kernel_rfl
    match cz, hl with
    | [a, b, c, d, e], _ =>
      have h0 : Lay Try.prog n 3 ((([a, b, c, d, e] : List AV).drop 0).take (Try.prog.cellsOf 3)) := hf 0 _ rfl
      have h1 : Lay Try.prog n 24 ((([a, b, c, d, e] : List AV).drop 1).take (Try.prog.cellsOf 24)) := hf 1 _ rfl
      rw [show Try.prog.cellsOf 3 = 1 by kernel_rfl] at h0
      rw [show Try.prog.cellsOf 24 = 4 by kernel_rfl] at h1
      obtain ⟨m, e0⟩ := lay_int h0
      obtain ⟨t, e1, w1⟩ := lay_term h1
      simp at e0 e1 w1
      subst e0
      refine ⟨(m, t), by rw [← e1], ?_⟩
      simp
      omega
theorem lay_binds {n : Nat} {cz : List AV} (h : Lay Try.prog n 27 cz) : ∃ L : List (Int × Tm), cz = [.sl (bindsR L)] ∧ (∀ p ∈ L, p.2.w < wtL cz) ∧ L.length < wtL cz := by
  cases n with
  | zero => exact absurd h (by unfold Lay; exact id)
  | succ n =>
    unfold Lay at h
    rw [Try.underlying27] at h
    obtain ⟨rows, rfl, hr⟩ := h
    obtain ⟨L, rfl, w1, w2⟩ := lay_rows (w := fun p : Int × Tm => p.2.w) (fun cz h => lay_bind h) rows hr
    refine ⟨L, rfl, fun p hp => ?_, ?_⟩
    · have := w1 p hp; simp; omega
    · simp; omega
theorem lay_env {n : Nat} {cz : List AV} (h : Lay Try.prog n 29 cz) : ∃ e : Env, .agg cz = envR e.obj e.binds e.self ∧ e.obj.w < wtL cz ∧ (∀ p ∈ e.binds, p.2.w < wtL cz) ∧ e.binds.length < wtL cz := by
  cases n with
  | zero => exact absurd h (by unfold Lay; exact id)
  | succ n =>
    unfold Lay at h
    rw [Try.underlying29] at h
    obtain ⟨hl, hf⟩ := h
    have hl : cz.length = 6 := by rw [hl]; kernel_rfl
    match cz, hl with
    | [a, b, c, d, e, f], _ =>
      have h0 : Lay Try.prog n 24 ((([a, b, c, d, e, f] : List AV).drop 0).take (Try.prog.cellsOf 24)) := hf 0 _ rfl
      have h1 : Lay Try.prog n 27 ((([a, b, c, d, e, f] : List AV).drop 4).take (Try.prog.cellsOf 27)) := hf 1 _ rfl
      have h2 : Lay Try.prog n 3 ((([a, b, c, d, e, f] : List AV).drop 5).take (Try.prog.cellsOf 3)) := hf 2 _ rfl
      rw [show Try.prog.cellsOf 24 = 4 by kernel_rfl] at h0
      rw [show Try.prog.cellsOf 27 = 1 by kernel_rfl] at h1
      rw [show Try.prog.cellsOf 3 = 1 by kernel_rfl] at h2
      obtain ⟨t, e0, w0⟩ := lay_term h0
      obtain ⟨L, e1, w1, w2⟩ := lay_binds h1
      obtain ⟨m, e2⟩ := lay_int h2
      simp at e0 e1 e2 w0
      subst e1 e2
      simp at w1 w2
      obtain ⟨k, q, s, l⟩ := t
      rw [Tm.cells_mk] at e0
      cases e0
      refine ⟨⟨.mk k q s l, L, m⟩, rfl, ?_, fun p hp => ?_, ?_⟩
      · simp at w0 ⊢; omega
      · have := w1 p.1 p.2 hp; simp; omega
      · simp; omega
theorem open_env {H : Type} {enc : TypeId × Value → H} {W : World} {r : Reach} {b0 : Nat} {v : Value} {d : DataW H} {ps : List MemPlace} (hval : Value.okWide Try.prog W r b0 29 v) (hd : DataW.Trod enc Try.prog W 0 (fun _ => true) true 29 v d ps) :
    ∃ e : Env, Opened enc Try.prog W 29 v d ps (envR e.obj e.binds e.self) ∧ (Rows.uptoBulk d < 1099511627776 → EnvW e) := by
  obtain ⟨cz, n, h1, h2, h3⟩ := open_struct envTys_good (by simp [envTys]) Try.underlying29 hval hd
  obtain ⟨e, he, w0, w1, w2⟩ := lay_env h2
  rw [he] at h1
  exact ⟨e, h1, fun hb => ⟨by omega, by omega, fun p hp => by have := w1 p hp; omega⟩⟩
end Go.Proofs.Ytogebohommickaa
end

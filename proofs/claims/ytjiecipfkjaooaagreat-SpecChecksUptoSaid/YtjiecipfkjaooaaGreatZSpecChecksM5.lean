/-
  Parts of the proof of SpecChecksUptoSaid, put together: the abstract evaluation and its contracts. Own work.
  What is proved: each lemma as it stands; no condition.
-/
import Derived.Test.YtjiecipfkjaooaaGreatZSpecChecksM4
open List renaming get?Internal → qsg, getElem?_eq_getElem → qsh, getElem?_eq_some_iff → qsi, length → qsk, take_of_length_le → qsp, getElem?_append_left → qsq, take → qsr, mem_of_getElem? → qss, getElem?_append_right → qst, getElem?_set → qsu, length_append → qsz, append → qsD, replicate → qsG, mem_cons → qsI, mem_append → qsK, range → qsM
open Option renaming bind_eq_some_iff → qsj, map_eq_some_iff → qsl, bind_some → qsv, map_some → qsB
open Bool renaming and_eq_true → qsm, false_eq_true → qsx, and_self → qsH, true_and → qsL
open Nat renaming eq_of_beq_eq_true → qsn, le_refl → qso, ble → qsw, beq → qsy, mul_le_mul_right → qsA, ble_eq → qsF, beq_refl → qsJ
open Int renaming toNat → qsC, toNat_natCast → qsE
set_option maxRecDepth 1000000
set_option maxHeartbeats 0
section
namespace Go.Proofs.YtjiecipfkjaooaaGreat.R
open Go.Av
def q4 {α : Type} (f : Nat) : List (Nat × α) → Option α
 | [] => none
 | p :: l => if qsy p.1 f then some p.2 else q4 f l
theorem qbk {α : Type} {p : Nat → α → Prop} {f : Nat} {x : α} : ∀ {l : List (Nat × α)}, (∀ q ∈ l, p q.1 q.2) → q4 f l = some x → p f x
 | [], _, h => by cases h
 | q :: l, ha, h => by
  rw [q4] at h
  split at h
  ·rename_i e
   cases h
   rw [← qsn e]
   exact ha q (by simp)
  ·exact qbk (fun q hq => ha q (by simp [hq])) h
theorem y4 {f : Nat} {fn : Func} : ∀ {l : List (Nat × Func)}, yv f l = some fn → ∃ p ∈ l, p.1 = f
 | [], h => by cases h
 | q :: l, h => by
  rw [yv] at h
  split at h
  ·rename_i e
   exact ⟨q, by simp, qsn e⟩
  ·obtain ⟨p, h1, h2⟩ := y4 h
   exact ⟨p, by simp [h1], h2⟩
def qmu : List (Nat × CMode) := [(46, .rgn), (19, .over), (197, .rgn), (27, .rgn), (81, .rgn), (139, .rgn), (12, .rgn)]
def kL : List (Nat × Unit) := [(11, ()), (20, ()), (39, ()), (44, ()), (51, ()), (54, ()), (56, ()), (57, ()), (59, ()), (90, ()), (203, ()), (234, ()), (239, ()), (235, ()), (240, ()), (201, ()), (53, ()), (10, ()), (45, ()), (195, ()), (15, ()), (17, ()), (14, ()), (13, ()), (16, ()), (18, ()), (21, ())]
open Classical in
noncomputable def extN (f : Nat) (args : List AV) (H : AH) : Option (AV × AH) :=
 match H with
 | [] => (EVn (EV N.cfg) f args).bind fun V => if (∀ a ∈ args, yj a) ∧ V.neT = true then some (rgIn 0 V, [.reg]) else none
 | _ => none
open Classical in
noncomputable def yx (args : List AV) (H : AH) : Option (AV × AH) :=
 match args, H with
 | [.agg [a, b, c, .sl rows]], [] => if ∃ t : Tm, t.Ok ∧ t.av = .agg [a, b, c, .sl rows] then some (.agg [a, b, c, .rsl 0 rows], [.reg]) else none
 | _, _ => none
noncomputable def xL : List (Nat × (List AV → AH → Option (AV × AH))) := [(46, yx), (12, extN 12)]
def frzL : List (Nat × Nat × Nat) := []
def qgE (f r k : Nat) : List (Nat × Nat × Nat) → Bool
 | [] => false
 | p :: l => (qsy p.1 f && (qsy p.2.1 r && qsy p.2.2 k)) || qgE f r k l
noncomputable def ext (f : Nat) : Option (List AV → AH → Option (AV × AH)) :=
 match q4 f xL with
 | some s => some s
 | none => match q4 f kL with
  | some _ => some (EV Go.Proofs.YtjiecipfkjaooaaGreat.cfg (.f f))
  | none => Go.Proofs.YtjiecipfkjaooaaGreat.cfg.ext f
noncomputable def cfg : Cfg := { Go.Proofs.YtjiecipfkjaooaaGreat.cfg with mode := fun f => match q4 f qmu with | some m => m | none => Go.Proofs.YtjiecipfkjaooaaGreat.cfg.mode f, frz := fun f r k => qgE f r k frzL || Go.Proofs.YtjiecipfkjaooaaGreat.cfg.frz f r k, ext := ext }
theorem qff : qbW.all (fun p => (q4 p.1 xL).isNone && (q4 p.1 kL).isNone) = true := rfl
instance inl_ok : InlOk cfg where
 ok f fn h := by
  have h : yv f qbW = some fn := h
  obtain ⟨h1, h2, h3, h4⟩ := Go.Proofs.YtjiecipfkjaooaaGreat.inl_ok.ok f fn h
  refine ⟨?_, h2, h3, h4⟩
  obtain ⟨p, hp, rfl⟩ := y4 h
  have := List.all_eq_true.1 qff p hp
  rw [qsm, Option.isNone_iff_eq_none, Option.isNone_iff_eq_none] at this
  show ext p.1 = none
  unfold ext
  rw [this.1, this.2]
  exact h1
theorem ev_k {f : Nat} (hx : (q4 f xL).isNone = true) (hk : (q4 f kL).isSome = true) (args : List AV) (H : AH) : EV cfg (.f f) args H = EV Go.Proofs.YtjiecipfkjaooaaGreat.cfg (.f f) args H := by
 have he : cfg.ext f = some (EV Go.Proofs.YtjiecipfkjaooaaGreat.cfg (.f f)) := by
  show ext f = _
  unfold ext
  rw [Option.isNone_iff_eq_none] at hx
  obtain ⟨u, hu⟩ := Option.isSome_iff_exists.1 hk
  rw [hx, hu]
 have h1 : ∀ n, evF cfg (n + 1) (.f f) args H = EV Go.Proofs.YtjiecipfkjaooaaGreat.cfg (.f f) args H := fun n => by
  show vq cfg (evF cfg n) (.f f) args H = _
  unfold vq
  simp only [he]
 have h0 : evF cfg 0 (.f f) args H = none := rfl
 cases h : EV Go.Proofs.YtjiecipfkjaooaaGreat.cfg (.f f) args H with
 | some r => exact qgf (g := fun n => evF cfg n (.f f) args H) (fun n r h => qa8 cfg n (.f f) args H r h) (n := 1) ((h1 0).trans h)
 | none =>
  have : ¬ ∃ (n : Nat) (r : AV × AH), evF cfg n (.f f) args H = some r := by
   rintro ⟨n, r, hr⟩
   cases n with
   | zero => rw [h0] at hr; cases hr
   | succ n => rw [h1, h] at hr; cases hr
  exact dif_neg this
theorem qpE {f : Nat} (args : List AV) (hx : (q4 f xL).isNone = true) (hk : (q4 f kL).isSome = true) : EVs (EV cfg) f args = EVs (EV Go.Proofs.YtjiecipfkjaooaaGreat.cfg) f args := by unfold EVs; rw [ev_k hx hk]
theorem qpG {f : Nat} (args : List AV) (hx : (q4 f xL).isNone = true) (hk : (q4 f kL).isSome = true) : EVf (EV cfg) f args = EVf (EV Go.Proofs.YtjiecipfkjaooaaGreat.cfg) f args := by unfold EVf; rw [ev_k hx hk]
theorem qpF {f : Nat} (args : List AV) (hx : (q4 f xL).isNone = true) (hk : (q4 f kL).isSome = true) : EVq (EV cfg) f args = EVq (EV Go.Proofs.YtjiecipfkjaooaaGreat.cfg) f args := by unfold EVq; rw [ev_k hx hk]
noncomputable def qqo : Den := evC cfg (EV cfg) 19 none 1 (sub (qe Tryz.f19) [1, 1, 0, 0])
noncomputable def qqB : Ex × List AV × AH → Option Unit := kAft (Cfg.keepOut cfg 19 2) (kRun cfg (EV cfg) (kfN cfg 6) 19 none 1 (qpw cfg (Cfg.lift cfg 19 0) Tryz.f19.results.toList) ([.block 0]))
noncomputable def qlL : List AV × AH → Option Unit := fun p => kOpt (LOOP 1 (some [1, 2]) ([]) qqo p) qqB
noncomputable abbrev qdY (l : Rz) (v2 c1_0 c1_1 : Int) (c1_2 : Bz) : Option (Unit) := qlL  (((fx 21 [(1, .ptr 1 0 0), (2, .int .i64 v2)]) : List AV), ([.spl, .rows false 4 [[.int .i64 c1_0, .int .i64 c1_1, .str c1_2, .rsl 0 l]]] : AH))
noncomputable abbrev qja (v2 c1_0 c1_1 : Int) (c1_2 : Bz) (c1_3 : Rz) : Option (Unit) := qlL  (((fx 21 [(1, .ptr 1 0 0), (2, .int .i64 v2)]) : List AV), ([.spl, .rows false 4 [[.int .i64 c1_0, .int .i64 c1_1, .str c1_2, .sl c1_3]]] : AH))
theorem qnL (k n : Int) (s : Bz) (l : Rz) {P : Unit → Prop} (h : Gets (qdY l 0 k n s) P) : Gets (EVz (EV cfg) 19 (AV.agg [AV.int IntKind.i64 k, AV.int IntKind.i64 n, AV.str s, AV.rsl (0 : Nat) l])) P :=
  gE (fun _ => funZ rfl rfl Tryz.func19 rfl) (by kernel_rfl) h
theorem qnM (k n : Int) (s : Bz) {P : Unit → Prop} (h : Gets (qja 0 k n s []) P) : Gets (EVz (EV cfg) 19 (AV.agg [AV.int IntKind.i64 k, AV.int IntKind.i64 n, AV.str s, AV.sl []])) P :=
  gE (fun _ => funZ rfl rfl Tryz.func19 rfl) (by kernel_rfl) h
theorem qc1 (l : Rz) (v2 c1_0 c1_1 : Int) (c1_2 : Bz) {P : Unit → Prop} (h : Gets (bif decide (v2 < (l.length : Int)) then bif qh 0 v2 && qo v2 (l.length : Int) then kOpt (qsg l (v2.toNat)) fun row => bif qsy (qsk row) 4 then kTmC (qsr 4 row) fun n n_1 s rows => (kOpt (EVz (EV cfg) 19 (.agg [.int .i64 n, .int .i64 n_1, .str s, AV.rsl 0 rows])) fun x => kOpt (EVz (EV cfg) 19 (.agg [.int .i64 77, .int .i64 0, .str [], .sl []])) fun x => kOpt (EVz (EV cfg) 19 (.agg [.int .i64 0, .int .i64 0, .str [], .sl []])) fun x => bif qh 0 v2 && qo v2 (l.length : Int) then kOpt (qsg l (v2.toNat)) fun row => bif qsy (qsk row) 4 then bif yT (qsr 4 row) && true then qdY l (IntKind.wrap .i64 (v2 + 1)) c1_0 c1_1 c1_2 else none else none else none) else none else none else some PUnit.unit) P) : Gets (qdY l v2 c1_0 c1_1 c1_2) P :=
  gE (fun _ => qt (cfg := cfg) (f := 19) (rd := none) (bs := 1)) (by kernel_rfl) h
theorem qib (v2 c1_0 c1_1 : Int) (c1_2 : Bz) (c1_3 : Rz) {P : Unit → Prop} (h : Gets (bif decide (v2 < (c1_3.length : Int)) then bif qh 0 v2 && qo v2 (c1_3.length : Int) then kOpt (qsg c1_3 (v2.toNat)) fun row => bif qsy (qsk row) 4 then bif qsw 4 (qsk row) then kTmC (qsr 4 row) fun n n s rows => none else none else none else none else some PUnit.unit) P) : Gets (qja v2 c1_0 c1_1 c1_2 c1_3) P :=
  gE (fun _ => qt (cfg := cfg) (f := 19) (rd := none) (bs := 1)) (by kernel_rfl) h
end Go.Proofs.YtjiecipfkjaooaaGreat.R
end
section
namespace Go.Proofs.YtjiecipfkjaooaaGreat
open Go.Av
noncomputable def qqn : Den := evC cfg (EV cfg) 108 none 1 (sub (qe Tryz.f108) [1, 1, 1, 0, 1, 0, 0])
noncomputable def qqA : Ex × List AV × AH → Option (AV × List (List AV)) := kAft (Cfg.keepOut cfg 108 6) (kRun cfg (EV cfg) (kfN cfg 6) 108 none 1 (qpx cfg 1 (Cfg.lift cfg 108 0) Tryz.f108.results.toList) ([.block 0, .seq (sub (qe Tryz.f108) [1, 1, 1, 1])]))
noncomputable def qqd : List AV × AH → Option (AV × List (List AV)) := fun p => kOpt (LOOP 1 (some [1, 2, 3, 4, 18, 19, 20]) ([]) qqn p) qqA
noncomputable abbrev qdV (lt : Rz) (v20 c1_0 c1_1 : Int) (c1_2 : Bz) (c2_0 c2_1 : Int) (c2_2 : Bz) (c2_3 h3 : Rz) : Option (AV × List (List AV)) := qqd  (((fx 35 [(1, .ptr 0 0 0), (2, .ptr 1 0 0), (3, .ptr 2 0 0), (4, .ms 3 0 (qsC (lt.length : Int))), (18, .lsl lt), (19, .int .i64 (lt.length : Int)), (20, .int .i64 v20)]) : List AV), ([.rows false 1 [[.fn (Fn.func 108) [] [.ptr 0 0 0]]], .rows false 4 [[.int .i64 c1_0, .int .i64 c1_1, .str c1_2, .lsl lt]], .rows false 4 [[.int .i64 c2_0, .int .i64 c2_1, .str c2_2, .sl c2_3]], .rows true 4 h3] : AH))
theorem qhe (kt : Int) (nt : Int) (st : Bz) (lt : Rz) {P : AV → Prop} (h : Gets (kOpt (EVk (EV cfg) 108 [.agg [AV.int .i64 kt, .int .i64 nt, .str st, AV.lsl lt], .ptr 0 0 0] 1 [[AV.fn (Fn.func 108) [] [.ptr 0 0 0]]]) fun (q : AV) => kTmV q fun (n n_1 : Int) (s : List 
  UInt8) (rows : Rz) => (some (.agg [AV.int .i64 n, .int .i64 n_1, .str s, .sl rows]))) P) : Gets (EVf (EV cfg) 46 ([AV.agg [AV.int IntKind.i64 kt, AV.int IntKind.i64 nt, AV.str st, AV.lsl lt]] : List AV)) P :=
  Gets.ev (fun _ h => funF rfl rfl Tryz.func46 rfl h) (Gets.eq (by kernel_rfl) h)
theorem qlh (kt nt : Int) (st : Bz) (lt : Rz) {P : AV × List (List AV) → Prop} (h : Gets (bif (lt.length : Int) == 0 then bif AV.refsLt 0 (.agg [.int .i64 kt, .int .i64 nt, .str st, .sl []]) then some (.agg [.int .i64 kt, .int .i64 nt, .str st, .sl []], [[AV.fn (Fn.func 108) [] [.ptr 0 0 0]]]) else none else bif qh 0 (lt.length : Int) && qh (lt.length : Int) (lt.length : Int) && qh ((↑ (qsk lt) : Int) * 56) 140737488355328 && qh (lt.length : Int) 9223372036854775807 then qdV lt 0 kt nt st 0 0 [] [] (qsG (qsC (lt.length : Int)) [AV.int .i64 0, .int .i64 0, .str [], .nilS]) else none) P) : Gets (EVx (EV cfg) 108 [.agg [.int .i64 kt, .int .i64 nt, .str st, .lsl lt], .ptr 0 0 0] 1 [[(AV.fn (Fn.func 108) [] [AV.ptr 0 0 0])]]) P :=
  gE (fun _ => funX rfl rfl Tryz.func108 rfl) (by kernel_rfl) h
theorem qcY (lt : Rz) (v20 c1_0 c1_1 : Int) (c1_2 : Bz) (c2_0 c2_1 : Int) (c2_2 : Bz) (c2_3 h3 : Rz) {P : AV × List (List AV) → Prop} (h : Gets (bif decide (v20 < (lt.length : Int)) then bif qh 0 v20 && qo v20 (lt.length : Int) then kOpt (qsg lt (v20.toNat)) fun row => bif qsy (qsk row) 4 then bif qsw 4 (qsk row) then kTmC (qsr 4 row) fun n n_1 s rows => (kOpt (EVk (EV cfg) 108 [.agg [.int .i64 n, .int .i64 n_1, .str s, AV.lsl rows], .ptr 0 0 0] 1 [[AV.fn (Fn.func 108) [] [.ptr 0 0 0]]]) fun q => kTmV q fun n n_2 s rows => (bif qh 0 v20 && qo v20 (↑ (qsC (lt.length : Int)) : Int) then kOpt (qsg h3 (0 + v20.toNat)) fun row => bif qsw 4 (qsk row) then qdV lt (IntKind.wrap .i64 (v20 + 1)) c1_0 c1_1 c1_2 c2_0 c2_1 c2_2 c2_3 (List.set h3 (0 + v20.toNat) (.int .i64 n :: .int .i64 n_2 :: .str s :: .sl rows :: List.drop 4 row)) else none else none)) else none else none else none else bif qsw (0 + qsC (lt.length : Int)) (qsk h3) && true then some (.agg [.int .i64 c1_0, .int .i64 c1_1, .str c1_2, .sl (qsr (qsC (lt.length : Int)) h3)], [[AV.fn (Fn.func 108) [] [.ptr 0 0 0]]]) else none) P) : Gets (qdV lt v20 c1_0 c1_1 c1_2 c2_0 c2_1 c2_2 c2_3 h3) P :=
  gE (fun _ => qt (cfg := cfg) (f := 108) (rd := none) (bs := 1)) (by kernel_rfl) h
def avL (t : Tm) : AV := .agg [.int .i64 t.kind, .int .i64 t.num, .str t.str, .lsl (qa t.subs)]
theorem qg0 (k n : Int) (s : List UInt8) (l : List Tm) : avL (Tm.mk k n s l) = .agg [.int .i64 k, .int .i64 n, .str s, .lsl (qa l)] := rfl
theorem qm2 (t : Tm) : t.Ok → EVx (EV cfg) 108 [avL t, .ptr 0 0 0] 1 zQ = some (t.av, zQ) := by
 induction t using Tm.ind with
 | _ k n s l ih =>
  intro hok
  have hlen := hok.len
  have loop : ∀ (d i : Nat), i + d = l.length → Gets (qdV (qa l) i k n s 0 0 [] [] (qa (l.take i) ++ qsG d [.int .i64 0, .int .i64 0, .str [], .nilS])) (· = ((Tm.mk k n s l).av, zQ)) := by
   intro d
   induction d with
   | zero =>
    intro i hi
    refine qcY _ _ _ _ _ _ _ _ _ _ ?_
    obtain rfl : i = l.length := by omega
    have e : l.take l.length = l := qsp (qso _)
    rw [e]
    simp
    rfl
   | succ d ihd =>
    intro i hi
    refine qcY _ _ _ _ _ _ _ _ _ _ ?_
    have hil : i < l.length := by omega
    have hx : l[i]? = some l[i] := qsh hil
    have hxl := qss hx
    have hix := qou (ih l[i] hxl (hok.sub hxl))
    have hih := ihd (i + 1) (by omega)
    have hw := qqK hil hlen
    have e1 : l.take (i + 1) = l.take i ++ [l[i]] := by rw [List.take_add_one, hx]; rfl
    have ht : (qa (l.take i)).length = i := by rw [qb, List.length_take]; omega
    have g : (qa (l.take i) ++ qsG (d + 1) [AV.int .i64 0, .int .i64 0, .str [], .nilS])[i]? = some [AV.int .i64 0, .int .i64 0, .str [], .nilS] := by
     rw [qst (by omega), ht, Nat.sub_self]; rfl
    have g2 : (qa (l.take i) ++ qsG (d + 1) [AV.int .i64 0, .int .i64 0, .str [], .nilS]).set i l[i].cells = qa (l.take (i + 1)) ++ qsG d [AV.int .i64 0, .int .i64 0, .str [], .nilS] := by
     rw [List.set_append_right _ _ (by omega), e1, q8, qD, qT]
     have e3 : i - (qa (l.take i)).length = 0 := by omega
     rw [e3, List.replicate_succ, List.set_cons_zero, List.append_assoc]; rfl
    simp only [zQ, avL] at hix
    simp [hil, hx, hix, g, hw]
    rw [g2]
    simpa using hih
  apply Gets.get
  rw [Tm.av_mk, qg0]
  refine qlh _ _ _ _ ?_
  rw [qb]
  by_cases hl : l.length = 0
  ·have : l = [] := List.length_eq_zero_iff.1 hl
   subst this
   simp [zQ, AV.refsLt, qp]
  ·have hl' : ((l.length : Int) == 0) = false := by rw [beqD]; exact decide_eq_false (by omega)
   have h56 : qh ((l.length : Int) * 56) 140737488355328 = true := by simp [qh]; omega
   have hm : qh (l.length : Int) 9223372036854775807 = true := by simp [qh]; omega
   have hz : qh 0 (l.length : Int) = true := qA _
   have hs : qh (l.length : Int) (l.length : Int) = true := by simp [qh]
   rw [hl', h56, hm, hz, hs]
   have := loop l.length 0 (by omega)
   rw [Tm.av_mk] at this
   simpa using this
theorem qj7 {t : Tm} (h : t.Ok) : EVf (EV cfg) 46 [avL t] = some t.av := by
 have h1 := qou (qm2 t h)
 obtain ⟨k, n, s, l⟩ := t
 rw [Tm.av_mk, qg0] at h1 ⊢
 apply Gets.get
 refine qhe _ _ _ _ ?_
 simp only [zQ] at h1
 rw [h1]
 simp [← Tm.av_mk]
def avR (id : Nat) (t : Tm) : AV := .agg [.int .i64 t.kind, .int .i64 t.num, .str t.str, .rsl id (qa t.subs)]
theorem qny {L : Lent} {C : qc} {μ : MMap} (l : List Tm) (ih : ∀ t ∈ l, ∀ v, @Rep L C μ (.sl (qa t.subs)) v → Rep0 C (.sl (qa t.subs)) v) {v : Value} (h : @Rep L C μ (.sl (qa l)) v) : Rep0 C (.sl (qa l)) v := by
 generalize hR : qa l = R at h
 cases h with
 | slNil => exact .slNil
 | sl _ a cap sz vals hs hsz hc hr hcell hcap hfree =>
  refine .sl R a cap sz vals hs hsz hc (fun i j row x h1 h2 => ?_) hcell hcap hfree
  have hrep := hr i j row x h1 h2
  rw [← hR, xl] at h1
  cases hl : l[i]? with
  | none => rw [hl] at h1; cases h1
  | some t =>
   rw [hl] at h1
   cases h1
   obtain ⟨k, n, s, l'⟩ := t
   rw [Tm.cells_mk] at h2
   match j, h2 with
   | 0, h2 => cases h2; generalize vals i 0 = u at hrep ⊢; cases hrep; exact .int _ _
   | 1, h2 => cases h2; generalize vals i 1 = u at hrep ⊢; cases hrep; exact .int _ _
   | 2, h2 => cases h2; generalize vals i 2 = u at hrep ⊢; cases hrep; exact .str _
   | 3, h2 => cases h2; exact ih _ (qss hl) _ hrep
   | j + 4, h2 => simp at h2
theorem qhm {L : Lent} {C : qc} {μ : MMap} (t : Tm) : ∀ v, @Rep L C μ (.sl (qa t.subs)) v → Rep0 C (.sl (qa t.subs)) v := by
 induction t using Tm.ind with
 | _ k n s l ih => exact fun v h => qny l ih h
theorem Rep0.claims {D D' : qc} {a : AV} {v : Value} (hD : ∀ b o v, D b o = some v → D' b o = some v) (h : Rep0 D a v) : Rep0 D' a v := by
 induction h with
 | int k n => exact .int k n
 | bool b => exact .bool b
 | str s => exact .str s
 | nilS => exact .nilS
 | slNil => exact .slNil
 | em a cap => exact .em a cap
 | sl rows a cap sz vals hs hsz hc _ hcell hcap hfree ih => exact .sl rows a cap sz vals hs hsz (fun i j row x h1 h2 => hD _ _ _ (hc i j row x h1 h2)) ih hcell hcap hfree
@[reducible] def vI (L : Lent) (C : qc) (w : World) : Lent := ⟨fun b o => match C b o with | some v => some v | none => L.l b o, True, fun b => w.heap.size ≤ b⟩
theorem qqS {L : Lent} {C : qc} {w : World} {b o : Nat} {v : Value} (h : C b o = some v) (hb : b < w.heap.size) : @LC (vI L C w) (fun _ _ => none) b o = some v := by
 unfold LC
 refine (if_neg (Nat.not_le.2 hb)).trans ?_
 show (match C b o with | some v => some v | none => L.l b o) = some v
 rw [h]
theorem ql3 {D : qc} {l : List Tm} {v : Value} (h : Rep0 D (.sl (qa l)) v) (hl : qa l ≠ []) : ∃ b o, D b o ≠ none := by
 generalize hR : qa l = R at h
 cases h with
 | slNil => exact absurd hR hl
 | sl _ a cap sz vals hs hsz hc hr hcell hcap hfree =>
  cases l with
  | nil => exact absurd (by rw [qa]) hl
  | cons t l =>
   obtain ⟨k, n, s, l'⟩ := t
   have h1 : R[0]? = some [.int .i64 k, .int .i64 n, .str s, .sl (qa l')] := by rw [← hR, xl]; exact congrArg some (Tm.cells_mk k n s l')
   exact ⟨_, _, by rw [hc 0 0 _ _ h1 rfl]; simp⟩
theorem qqt {cf : Orac} {f : Nat} {al : List AV} {v : AV} (h : EVf cf f al = some v) : ∃ r H, cf (.f f) al [] = some (r, H) ∧ (r.frz r.msIds H).fg = v := by
 unfold EVf at h
 cases hc : cf (.f f) al [] with
 | none => rw [hc] at h; cases h
 | some q => rw [hc] at h; exact ⟨q.1, q.2, rfl, Option.some.inj h⟩
theorem qhW [Lent] (hu : Lent.u) {f : FuncId} {al : List AV} {k n : Int} {s : List UInt8} {l : List Tm} (he : EVf (EV cfg) f al = some (Tm.mk k n s l).av) {w : World} {vs : Array Value} (hw : Wld (fun _ => fun _ => none) (fun _ => none) [] w) (ha : qi (fun _ => fun _ => none) (fun _ => none) al vs) :
  qQ Tryz.prog (callFunc f vs) w (fun v w1 => ∃ (D : qc) (v3 : Value), v = .agg [.int .i64 k, .int .i64 n, .string ⟨s.toArray⟩, v3].toArray ∧ Rep0 D (.sl (qa l)) v3 ∧ (∀ b o u, D b o = some u → w1.cell? ⟨b, o, none⟩ = some u ∧ w1.frozen? ⟨b, o, none⟩ = false ∧ w.heap.size ≤ b) ∧
   (∀ b, b < w.heap.size → w1.heap[b]? = w.heap[b]?) ∧ w.heap.size ≤ w1.heap.size ∧ w1.os = w.os ∧ w1.tape = w.tape ∧ w1.output = w.output) := by
 have he2 := qqt he
 clear he
 obtain ⟨qr, qH, hq, hqe⟩ := he2
 have hO := zS y7
 have hcall := hO.calls _ _ _ _ _ hq (fun _ => fun _ => none) (fun _ => none) w vs _ ha hw rfl
 refine hcall.mono fun v w1 ⟨C2, μ2, e1, e2, e3⟩ => ?_
 obtain ⟨C3, a1, a2, a3⟩ := vH qr.msIds e2
 have x := e3.trans (a3 0 (Nat.zero_le _)) (qso _)
 have r1 : Rep C3 μ2 (Tm.mk k n s l).av v := by
  rw [← hqe]
  exact ((e1.mono a1 (fun _ _ h => h)).frzA (vX.of a2)).fgA
 rw [Tm.av_mk] at r1
 cases r1 with
 | agg _ us hl hh =>
 match us, hl, hh with
 | [u0, u1, u2, u3], _, hh =>
 have h0 : Rep0 C3 (.sl (qa l)) u3 := qhm (.mk k n s l) u3 (hh 3 _ _ rfl rfl)
 have q0 := hh 0 _ _ rfl rfl
 have q1 := hh 1 _ _ rfl rfl
 have q2 := hh 2 _ _ rfl rfl
 cases q0; cases q1; cases q2
 have hge : ∀ b o u, C3 b o = some u → w.heap.size ≤ b := fun b o u h => by
  rcases Nat.lt_or_ge b w.heap.size with hb | hb
  ·have h5 := (x.fr b hb qR).2.2
   rw [h5] at h; cases h
  ·exact hb
 exact ⟨C3, u3, rfl, h0, fun b o u h => ⟨a2.cl b o u h, a2.lnt.2.1 hu b o u (hw.lnt.2.2 b (hge b o u h)) h, hge b o u h⟩, fun b hb => (x.fr b hb qR).1, x.size, x.os, x.tape, x.output⟩
theorem qoM [L : Lent] {f : FuncId} {al : List AV} {t : Tm} (he : EVf (EV cfg) f al = some t.av) {C : qc} {w : World} {vs : Array Value} (hw : Wld C (fun _ => none) [] w) (ha' : @qi (vI L C w) (fun _ => fun _ => none) (fun _ => none) al vs) :
  qQ Tryz.prog (callFunc f vs) w (ve C (fun _ => none) [] w (avR 0 t) [.reg]) := by
 have hlent : ∀ b o v, (vI L C w).l b o = some v → w.cell? ⟨b, o, none⟩ = some v := fun b o v h => by
  have h : (match C b o with | some v => some v | none => L.l b o) = some v := h
  split at h
  ·rename_i u hu; cases h; exact hw.cl _ _ _ hu
  ·exact hw.lnt.1 _ _ _ h
 have hw' : @Wld (vI L C w) (fun _ => fun _ => none) (fun _ => none) [] w :=
  @Wld.mk (vI L C w) _ _ _ _ (fun b o v h => (nomatch h)) (fun id m hm => (nomatch hm)) (fun id hi => rfl) (fun id blk h1 => (by simp at h1)) (fun id d sz rs h1 => (by simp at h1)) (fun i i' b b' m m' h1 => (by simp at h1)) xI.nil ⟨hlent, fun _ b o v _ h => (nomatch h), fun b hb => hb⟩
 obtain ⟨k, n, s, l⟩ := t
 refine (@qhW (vI L C w) trivial _ _ _ _ _ _ he _ _ hw' ha').mono fun v w1 ⟨C3, u3, hv, h0, hD, old, hsz, hos, htp, hou⟩ => ?_
 subst hv
 have hw1 : Wld C (fun _ => none) [] w1 := hw.world hsz old
 have fin : ∀ μ' : MMap, (qa l ≠ [] → ∃ m, μ' 0 = some m ∧ m.D = C3) → Rep C μ' (avR 0 (.mk k n s l)) (.agg [.int .i64 k, .int .i64 n, .string ⟨s.toArray⟩, u3].toArray) := by
  intro μ' hm
  refine Rep.agg _ [.int .i64 k, .int .i64 n, .string ⟨s.toArray⟩, u3] rfl (fun i a v h1 h2 => ?_)
  match i, h1, h2 with
  | 0, h1, h2 => cases h1; cases h2; exact .int _ _
  | 1, h1, h2 => cases h1; cases h2; exact .int _ _
  | 2, h1, h2 => cases h1; cases h2; exact .str _
  | 3, h1, h2 => cases h1; cases h2; exact .rsl 0 _ _ C3 hm h0
  | i + 4, h1, h2 => simp at h1
 by_cases hex : ∃ b o, C3 b o ≠ none
 ·obtain ⟨b0, o0, hb0⟩ := hex
  have hhas : ∀ b, (MI.mk b0 0 0 0 C3).has b → ∃ o u, C3 b o = some u := by
   rintro b (h | ⟨o, h⟩)
   ·have : b0 = b := h
    subst this
    cases hc : C3 b0 o0 with
    | none => exact absurd hc hb0
    | some u => exact ⟨o0, u, hc⟩
   ·cases hc : C3 b o with
    | none => exact absurd hc h
    | some u => exact ⟨o, u, hc⟩
  have hge : ∀ b, (MI.mk b0 0 0 0 C3).has b → w.heap.size ≤ b := fun b hb => by
   obtain ⟨o, u, hc⟩ := hhas b hb
   exact (hD b o u hc).2.2
  have hlt : ∀ b, (MI.mk b0 0 0 0 C3).has b → b < w1.heap.size := fun b hb => by
   obtain ⟨o, u, hc⟩ := hhas b hb
   exact World.block_lt_of_cell? w1 ⟨b, o, none⟩ ((hD b o u hc).1)
  obtain ⟨n1, n2, n3, n4, n5⟩ := hw1.new (nid := none) (k := 0) (H' := [.reg]) (blk := .reg) (m := MI.mk b0 0 0 0 C3) rfl (fun b hb => qR) hlt
   (fun b hb o => by
    cases hc : C b o with
    | none => rfl
    | some u => have h5 := hw.block_lt hc; have h6 := hge b hb; omega)
   (fun b hb => hw.lent_none (hge b hb)) rfl (fun b o u hd => ⟨(hD b o u hd).1, (hD b o u hd).2.1⟩)
  refine ⟨C, _, fin _ (fun _ => ⟨_, by unfold upd; rw [if_pos rfl], rfl⟩), n1, ⟨hos, htp, hou, hsz, fun _ _ _ h => h, fun id m _ hm => (nomatch hm), fun b hb hnl => ⟨old b hb, fun hl => ?_, rfl⟩, Nat.zero_le _⟩⟩
  rcases n4 b hl with h | h
  ·exact qR h
  ·have := hge b h; omega
 ·obtain ⟨n1, n2⟩ := hw1.newV (nid := none) (k := 0) (H' := [.reg]) (blk := .reg) rfl rfl rfl trivial
  have n3 := n2 0 (Nat.zero_le _)
  refine ⟨C, _, fin (fun _ => none) (fun hne => absurd (ql3 h0 hne) hex), n1, ⟨hos, htp, hou, hsz, fun _ _ _ h => h, fun id m _ hm => (nomatch hm), fun b hb hnl => ⟨old b hb, fun hl => ?_, rfl⟩, Nat.zero_le _⟩⟩
  obtain ⟨i, bi, mi, h1, h2, h3, h4⟩ := hl
  cases h3
theorem qh5 [L : Lent] {t : Tm} {C : qc} {w : World} {vs : Array Value} (hw : Wld C (fun _ => none) [] w) (ha : qi C (fun _ => none) [t.av] vs) : @qi (vI L C w) (fun _ => fun _ => none) (fun _ => none) [avL t] vs := by
 obtain ⟨h1, h2⟩ := ha
 refine ⟨by simpa using h1, fun i a v hi hv => ?_⟩
 match i, hi with
 | 0, hi =>
  cases hi
  have h3 := h2 0 t.av v rfl hv
  obtain ⟨k, n, s, l⟩ := t
  rw [Tm.av_mk] at h3
  rw [qg0]
  cases h3 with
  | agg _ us hl hh =>
   refine @Rep.agg (vI L C w) _ _ _ us hl (fun i a v h1 h2 => ?_)
   match i, h1 with
   | 0, h1 => cases h1; have h4 := hh 0 _ v rfl h2; cases h4; exact @Rep.int (vI L C w) _ _ _ _
   | 1, h1 => cases h1; have h4 := hh 1 _ v rfl h2; cases h4; exact @Rep.int (vI L C w) _ _ _ _
   | 2, h1 => cases h1; have h4 := hh 2 _ v rfl h2; cases h4; exact @Rep.str (vI L C w) _ _ _
   | 3, h1 =>
    cases h1
    have h4 := hh 3 _ v rfl h2
    exact @Rep.lsl (vI L C w) _ _ _ _ (Rep0.claims (fun b o v h => qqS h (hw.block_lt h)) (qhm (.mk k n s l) v h4))
   | i + 4, h1 => simp at h1
 | i + 1, hi => simp at hi
theorem qpf [L : Lent] {t : Tm} (hok : t.Ok) {C : qc} {w : World} {vs : Array Value} (hw : Wld C (fun _ => none) [] w) (ha : qi C (fun _ => none) [t.av] vs) :
  qQ Tryz.prog (callFunc 46 vs) w (ve C (fun _ => none) [] w (avR 0 t) [.reg]) := by
 exact qoM (f := 46) (al := [avL t]) (qj7 hok) hw (qh5 hw ha)
end Go.Proofs.YtjiecipfkjaooaaGreat
end
section
namespace Go.Proofs.YtjiecipfkjaooaaGreat.N
open Go.Av Go.ChangeShapes Go.WideShapes Go.ChangeAt Go.RowKit
theorem qoS [L : Lent] {f : FuncId} {al : List AV} {t : Tm} (he : EVf (EV Go.Proofs.YtjiecipfkjaooaaGreat.cfg) f al = some t.av) {C : qc} {w : World} {vs : Array Value} (hw : Wld C (fun _ => none) [] w) (ha' : @qi (vI L C w) (fun _ => fun _ => none) (fun _ => none) al vs) :
  qQ Tryz.prog (callFunc f vs) w (ve C (fun _ => none) [] w (avL t) []) := by
 have hlent : ∀ b o v, (vI L C w).l b o = some v → w.cell? ⟨b, o, none⟩ = some v := fun b o v h => by
  have h : (match C b o with | some v => some v | none => L.l b o) = some v := h
  split at h
  ·rename_i u hu; cases h; exact hw.cl _ _ _ hu
  ·exact hw.lnt.1 _ _ _ h
 have hw' : @Wld (vI L C w) (fun _ => fun _ => none) (fun _ => none) [] w :=
  @Wld.mk (vI L C w) _ _ _ _ (fun b o v h => (nomatch h)) (fun id m hm => (nomatch hm)) (fun id hi => rfl) (fun id blk h1 => (by simp at h1)) (fun id d sz rs h1 => (by simp at h1)) (fun i i' b b' m m' h1 => (by simp at h1)) xI.nil ⟨hlent, fun _ b o v _ h => (nomatch h), fun b hb => hb⟩
 obtain ⟨k, n, s, l⟩ := t
 refine (@qhW (vI L C w) trivial _ _ _ _ _ _ he _ _ hw' ha').mono fun v w1 ⟨D, u3, hv, h0, hD, old, hsz, hos, htp, hou⟩ => ?_
 subst hv
 have hw1 : Wld C (fun _ => none) [] w1 := hw.world hsz old
 have hC : ∀ b o v, C b o = some v → b < w.heap.size := fun b o v h => hw.block_lt h
 let C' : qc := fun b o => match C b o with | some v => some v | none => D b o
 have cC : ∀ b o v, C b o = some v → C' b o = some v := fun b o v h => by show (match C b o with | some v => some v | none => D b o) = some v; rw [h]
 have cD : ∀ b o v, D b o = some v → C' b o = some v := fun b o v h => by
  show (match C b o with | some v => some v | none => D b o) = some v
  cases hc : C b o with
  | none => exact h
  | some u => have := hC _ _ _ hc; have := (hD b o v h).2.2; omega
 have split : ∀ b o v, C' b o = some v → C b o = some v ∨ D b o = some v := fun b o v h => by
  have h : (match C b o with | some v => some v | none => D b o) = some v := h
  cases hc : C b o with
  | none => rw [hc] at h; exact .inr h
  | some u => rw [hc] at h; exact .inl h
 have hnw : ∀ b, w.heap.size ≤ b → Lent.nw b := hw.lnt.2.2
 refine ⟨C', fun _ => none, ?_, ⟨fun b o v h => ?_, fun id m hm => (nomatch hm), fun id hi => rfl, fun id blk h1 => (by simp at h1), fun id d sz rs h1 => (by simp at h1), fun i i' b b' m m' h1 => (by simp at h1), xI.nil, hw1.lnt.1, fun hu b o v hn h => ?_, hw1.lnt.2.2⟩, ⟨hos, htp, hou, hsz, cC, fun id m _ hm => (nomatch hm), fun b hb hnl => ⟨old b hb, qR, ?_⟩, qso _⟩⟩
 ·rw [qg0]
  refine Rep.agg _ [.int .i64 k, .int .i64 n, .string ⟨s.toArray⟩, u3] rfl (fun i a v h1 h2 => ?_)
  match i, h1, h2 with
  | 0, h1, h2 => cases h1; cases h2; exact .int _ _
  | 1, h1, h2 => cases h1; cases h2; exact .int _ _
  | 2, h1, h2 => cases h1; cases h2; exact .str _
  | 3, h1, h2 =>
   cases h1; cases h2
   refine .lsl _ _ (h0.monoD fun b o v h => ?_)
   unfold LC
   rw [if_pos (hnw b (hD b o v h).2.2)]
   exact cD b o v h
  | i + 4, h1, h2 => simp at h1
 ·rcases split b o v h with h | h
  ·exact hw1.cl _ _ _ h
  ·exact (hD b o v h).1
 ·rcases split b o v h with h | h
  ·exact hw1.lnt.2.1 hu b o v hn h
  ·exact (hD b o v h).2.1
 ·funext o
  show (match C b o with | some v => some v | none => D b o) = C b o
  cases hc : C b o with
  | some u => rfl
  | none =>
   cases hd : D b o with
   | none => rfl
   | some u => have := (hD b o u hd).2.2; omega
theorem qhz [L : Lent] {args : List AV} {H H' : AH} {r : AV} {C : qc} {μ : MMap} {w : World} {vs : Array Value} (hr : yx args H = some (r, H')) (ha : qi C μ args vs) (hw : Wld C μ H w) :
  qQ Tryz.prog (callFunc 46 vs) w (ve C μ H w r H') := by
 unfold yx at hr
 split at hr
 case h_2 => cases hr
 rename_i a b c rows
 split at hr
 case isFalse => cases hr
 rename_i hx
 obtain ⟨t, hok, ht⟩ := hx
 cases hr
 have hμ : μ = fun _ => none := by
  funext id
  cases hm : μ id with
  | none => rfl
  | some m => have := hw.dom id m hm; simp at this
 subst hμ
 have e2 : avL t = .agg [a, b, c, .lsl rows] := by
  obtain ⟨k, n, s, l⟩ := t
  rw [Tm.av_mk] at ht
  simp only [AV.agg.injEq, List.cons.injEq, AV.sl.injEq, and_true] at ht
  obtain ⟨rfl, rfl, rfl, rfl⟩ := ht
  rfl
 rw [← ht] at ha
 have h := qoS (f := 46) (al := [avL t]) (qj7 hok) hw (qh5 hw ha)
 rw [e2] at h
 exact h
theorem y7 [Lent] : CfgOk cfg where
 ty := ⟨fun t ti h => BT.all_look qfN h⟩
 mixed := qcm
 named := fun f fn _ h => qcl f fn h
 ext := fun f s h args H r H' hr C μ w vs ha hw => by
  have h : ext f = some s := h
  unfold ext at h
  split at h
  ·rename_i s' hs
   cases h
   unfold xL at hs
   rw [q4] at hs
   split at hs
   ·rename_i e
    have e := qsn e
    subst e
    cases hs
    exact qhz hr ha hw
   ·rw [q4] at hs; cases hs
  ·split at h
   ·cases h
    exact (zS Go.Proofs.YtjiecipfkjaooaaGreat.y7).calls _ _ _ _ _ hr C μ w vs _ ha hw rfl
   ·exact Go.Proofs.YtjiecipfkjaooaaGreat.y7.ext f s h args H r H' hr C μ w vs ha hw
theorem qj6 {t : Tm} (h : t.Ok) : EVn (EV cfg) 46 [t.av] = some t.av := by
 obtain ⟨k, n, s, l⟩ := t
 have e : EV cfg (.f 46) [(Tm.mk k n s l).av] [] = some (avL (.mk k n s l), []) := by
  refine qg6 ?_
  unfold vq
  have hx : cfg.ext 46 = some yx := rfl
  simp only [hx]
  rw [Tm.av_mk]
  show yx [.agg [.int .i64 k, .int .i64 n, .str s, .sl (qa l)]] [] = _
  exact if_pos ⟨_, h, Tm.av_mk k n s l⟩
 unfold EVn
 rw [e, Tm.av_mk]
 rfl
theorem qqN [L : Lent] {f : FuncId} {args : List AV} {V : AV} (he : EVn (EV cfg) f args = some V) (hi : ∀ a ∈ args, yj a) (hne : V.neT = true) {C : qc} {w : World} {vs : Array Value} (hw : Wld C (fun _ => none) [] w) (ha : qi C (fun _ => none) args vs) :
  qQ Tryz.prog (callFunc f vs) w (ve C (fun _ => none) [] w (rgIn 0 V) [.reg]) := by
 unfold EVn at he
 obtain ⟨q, hq, hV⟩ := qsj.1 he
 have ha' : @qi (qV w) C (fun _ => none) args vs := ⟨ha.1, fun i a v h1 h2 => hi a (qss h1) L _ _ _ _ (ha.2 i a v h1 h2)⟩
 exact qnR hw (@OracOk2.calls (qV w) _ _ (@zS (qV w) _ (@y7 (qV w))) _ _ _ _ _ hq C _ w vs _ ha' (qqR hw) rfl) hV hne
theorem qo4 (t : Tm) : yj t.av := by
 obtain ⟨k, n, s, l⟩ := t
 rw [Tm.av_mk]
 refine .agg fun a ha => ?_
 simp only [qsI, List.not_mem_nil, or_false] at ha
 rcases ha with rfl | rfl | rfl | rfl
 ·exact .int _ _
 ·exact .int _ _
 ·exact .str _
 ·exact .sl fun L C μ v h => @qhm L C μ (.mk 0 0 [] l) v h
end Go.Proofs.YtjiecipfkjaooaaGreat.N
end
section
namespace Go.Proofs.YtjiecipfkjaooaaGreat.R
open Go.Av Go.ChangeShapes Go.WideShapes Go.ChangeAt Go.RowKit
theorem qhz [Lent] {args : List AV} {H H' : AH} {r : AV} {C : qc} {μ : MMap} {w : World} {vs : Array Value} (hr : yx args H = some (r, H')) (ha : qi C μ args vs) (hw : Wld C μ H w) :
  qQ Tryz.prog (callFunc 46 vs) w (ve C μ H w r H') := by
 unfold yx at hr
 split at hr
 case h_2 => cases hr
 rename_i a b c rows
 split at hr
 case isFalse => cases hr
 rename_i hx
 obtain ⟨t, hok, ht⟩ := hx
 cases hr
 have hμ : μ = fun _ => none := by
  funext id
  cases hm : μ id with
  | none => rfl
  | some m => have := hw.dom id m hm; simp at this
 subst hμ
 have e2 : avR 0 t = .agg [a, b, c, .rsl 0 rows] := by
  obtain ⟨k, n, s, l⟩ := t
  rw [Tm.av_mk] at ht
  simp only [AV.agg.injEq, List.cons.injEq, AV.sl.injEq, and_true] at ht
  obtain ⟨rfl, rfl, rfl, rfl⟩ := ht
  rfl
 have h := qpf hok hw (by rw [ht]; exact ha)
 rw [e2] at h
 exact h
def OkX [Lent] (f : Nat) (s : List AV → AH → Option (AV × AH)) : Prop := ∀ args H r H', s args H = some (r, H') → ∀ C μ w vs, qi C μ args vs → Wld C μ H w → qQ Tryz.prog (callFunc f vs) w (ve C μ H w r H')
theorem qqZ [Lent] {f : Nat} {s : List AV → AH → Option (AV × AH)} {l : List (Nat × (List AV → AH → Option (AV × AH)))} (h : OkX f s) (hl : ∀ q ∈ l, OkX q.1 q.2) : ∀ q ∈ (f, s) :: l, OkX q.1 q.2 := fun q hq => by
 rcases qsI.1 hq with rfl | hq
 ·exact h
 ·exact hl q hq
theorem qr4 [Lent] : ∀ q ∈ ([] : List (Nat × (List AV → AH → Option (AV × AH)))), OkX q.1 q.2 := fun q hq => by cases hq
theorem qsb [Lent] : OkX 46 yx := fun _ _ _ _ hr _ _ _ _ ha hw => qhz hr ha hw
theorem newX [L : Lent] (f : Nat) : OkX f (extN f) := fun args H r H' hr C μ w vs ha hw => by
 unfold extN at hr
 split at hr
 case h_2 => cases hr
 obtain ⟨V, hV, hr⟩ := qsj.1 hr
 split at hr
 case isFalse => cases hr
 rename_i hc
 cases hr
 have hμ : μ = fun _ => none := by
  funext id
  cases hm : μ id with
  | none => rfl
  | some m => have := hw.dom id m hm; simp at this
 subst hμ
 exact N.qqN hV hc.1 hc.2 hw ha
theorem qr0 [Lent] : ∀ q ∈ xL, OkX q.1 q.2 := by
 unfold xL
 repeat' first | exact qr4 | exact qsb | exact newX _ | refine qqZ ?_ ?_
theorem y7 [Lent] : CfgOk cfg where
 ty := ⟨fun t ti h => BT.all_look qfN h⟩
 mixed := qcm
 named := fun f fn _ h => qcl f fn h
 ext := fun f s h args H r H' hr C μ w vs ha hw => by
  have h : ext f = some s := h
  unfold ext at h
  split at h
  ·rename_i s' hs
   cases h
   exact qbk (p := OkX) qr0 hs args H r H' hr C μ w vs ha hw
  ·split at h
   ·cases h
    exact (zS Go.Proofs.YtjiecipfkjaooaaGreat.y7).calls _ _ _ _ _ hr C μ w vs _ ha hw rfl
   ·exact Go.Proofs.YtjiecipfkjaooaaGreat.y7.ext f s h args H r H' hr C μ w vs ha hw
theorem qsa {f : Nat} {args : List AV} {V : AV} (hx : q4 f xL = some (extN f)) (he : EVn (EV N.cfg) f args = some V) (hi : ∀ a ∈ args, yj a) (hne : V.neT = true) (hd : qdb [.reg] (rgIn 0 V) = some V) : EVg (EV cfg) f args = some V := by
 have e : EV cfg (.f f) args [] = some (rgIn 0 V, [.reg]) := by
  refine qg6 ?_
  unfold vq
  have hx : cfg.ext f = some (extN f) := by show ext f = _; unfold ext; rw [hx]
  simp only [hx]
  unfold extN
  rw [he]
  exact if_pos ⟨hi, hne⟩
 unfold EVg
 rw [e]
 exact hd
theorem qhP {f : FuncId} {args : List AV} {vs : Array Value} {W : World} (hx : cfg.ext f = none) (he : EVs (EV cfg) f args = some (.bool true)) (ha : qi (C0 W) M0 args vs) :
  Calls Tryz.prog f vs W fun e W' => e = .returned (.bool true) ∧ (∀ b, b < W.heap.size → W'.heap[b]? = W.heap[b]?) ∧ W.heap.size ≤ W'.heap.size ∧ W'.os = W.os ∧ W'.output = W.output := by
 unfold EVs at he
 obtain ⟨q, h1, h2⟩ := qsl.1 he
 have := qkm y7 hx (r := q.1) (H' := q.2) h1 ha (wld0 W)
 refine this.mono fun e W' ⟨v, hv, C', μ', p1, p2, p3⟩ => ?_
 rw [h2] at p1
 cases p1
 refine ⟨hv, fun b hb => (p3.fr b hb qR).1, p3.size, p3.os, p3.output⟩
end Go.Proofs.YtjiecipfkjaooaaGreat.R
end
section
namespace Go.Av
theorem qic (t : Tm) : yT t.cells = true := by obtain ⟨k, n, s, l⟩ := t; rw [Tm.cells_mk]; rfl
end Go.Av
namespace Go.Proofs.YtjiecipfkjaooaaGreat.R
open Go.Av
theorem qjy (k n : Int) (s : List UInt8) : EVz (EV cfg) 19 (.agg [.int .i64 k, .int .i64 n, .str s, .sl []]) = some () := by
 apply Gets.get
 refine qnM k n s ?_
 refine qib _ _ _ _ _ ?_
 exact ⟨_, rfl, rfl⟩
theorem qoQ (t : Tm) : t.Ok → EVz (EV cfg) 19 (avR 0 t) = some () := by
 induction t using Tm.ind with
 | _ k n s l ih =>
  intro hok
  have hlen := hok.len
  have loop : ∀ (d i : Nat), i + d = l.length → Gets (qdY (qa l) i k n s) (· = ()) := by
   intro d
   induction d with
   | zero =>
    intro i hi
    refine qc1 _ _ _ _ _ ?_
    rw [qb, decide_eq_false (by omega)]
    exact ⟨_, rfl, rfl⟩
   | succ d ihd =>
    intro i hi
    refine qc1 _ _ _ _ _ ?_
    have hil : i < l.length := by omega
    have hx : l[i]? = some l[i] := qsh hil
    have h1 := ih l[i] (qss hx) (hok.sub (qss hx))
    unfold avR at h1
    have h := ihd (i + 1) (by omega)
    rw [qb, decide_eq_true (show (i : Int) < (l.length : Int) by omega), qA, qN, decide_eq_true hil, vS hx, qI hil hlen]
    simp only [cond_true, qsH, qx, qsJ, qG, qB, h1, qjy, qf, vS hx, qic, Bool.and_true]
    exact h.mono fun _ _ => trivial
  apply Gets.get
  unfold avR
  exact qnL k n s (qa l) (loop l.length 0 (by omega))
theorem qnN {t : Tm} (h : t.Ok) : EVz (EV cfg) 19 (.agg [.int .i64 t.kind, .int .i64 t.num, .str t.str, .rsl 0 (qa t.subs)]) = some () := qoQ t h
end Go.Proofs.YtjiecipfkjaooaaGreat.R
end
section
namespace Go.Proofs.YtjiecipfkjaooaaGreat.N
open Go.Av
noncomputable def qqq : Den := evC cfg (EV cfg) 47 none 0 (sub (qe Tryz.f47) [1, 1, 0, 1, 0, 0])
noncomputable def qqD : Ex × List AV × AH → Option AV := kAft (Cfg.keepOut cfg 47 3) (kRun cfg (EV cfg) (kfN cfg 6) 47 none 0 (qmJ cfg (Cfg.lift cfg 47 0) Tryz.f47.results.toList) ([.block 0, .seq (sub (qe Tryz.f47) [1, 1, 1])]))
noncomputable def qqf : List AV × AH → Option AV := fun p => kOpt (LOOP 0 (some [3, 6, 7, 8]) ([(3, 4)]) qqq p) qqD
noncomputable def qqr : Den := evC cfg (EV cfg) 12 none 0 (sub (qe Tryz.f12) [1, 1, 1, 0, 1, 0, 0])
noncomputable def qqE : Ex × List AV × AH → Option AV := kAft (Cfg.keepOut cfg 12 5) (kRun cfg (EV cfg) (kfN cfg 6) 12 none 0 (qmJ cfg (Cfg.lift cfg 12 0) Tryz.f12.results.toList) ([.block 0, .seq (sub (qe Tryz.f12) [1, 1, 1, 1])]))
noncomputable def qlM : List AV × AH → Option AV := fun p => kOpt (LOOP 0 (some [4, 16, 17, 18]) ([]) qqr p) qqE
noncomputable abbrev qd0 (A : Rz) (nv3 : Nat) (v8 : Int) (h0 : Rz) : Option (AV) := qqf  (((fx 19 [(3, .ms 0 0 nv3), (6, .sl A), (7, .int .i64 (A.length : Int)), (8, .int .i64 v8)]) : List AV), ([.rows true 4 h0] : AH))
noncomputable abbrev qpN (v18 : Int) : Option (AV) := qlM  (((fx 38 [(4, .nilS), (16, .nilS), (17, .int .i64 (0 : Int)), (18, .int .i64 v18)]) : List AV), ([] : AH))
noncomputable abbrev qcc (sz off len : Nat) (v18 : Int) (h0 : Rz) : Option (AV) := qlM  (((fx 38 [(4, .ms 0 off len), (16, .ms 0 off len), (17, .int .i64 (↑len : Int)), (18, .int .i64 v18)]) : List AV), ([.rows true sz h0] : AH))
theorem qir (A : Rz) {P : AV → Prop} (h : Gets (qd0 A 0 0 []) P) : Gets (EVn (EV cfg) 47 [.sl A]) P :=
  gE (fun _ => funN rfl rfl Tryz.func47 rfl) (by kernel_rfl) h
theorem qhj (kt nt : Int) (st : Bz) (lt : Rz) {P : AV → Prop} (h : Gets (kOpt (EVq (EV cfg) 45 [.agg [.int .i64 kt, .int .i64 nt, .str st, .sl lt]]) fun q => kInt .i64 q.2 fun n => kOwn q.1 (bif n != 0 then some (AV.tup [.sl [], .int .i64 n]) else qpN 0) fun sz rs off len => bif n != 0 then some (AV.tup [.sl [], .int .i64 n]) else qcc sz off len (0 : Int) rs) P) : Gets (EVn (EV cfg) 12 [.agg [.int .i64 kt, .int .i64 nt, .str st, .sl lt]]) P :=
  gE (fun _ => funN rfl rfl Tryz.func12 rfl) (by kernel_rfl) h
theorem qc3 (A : Rz) (nv3 : Nat) (v8 : Int) (h0 : Rz) {P : AV → Prop} (h : Gets (bif decide (v8 < (A.length : Int)) then bif qh 0 v8 && qo v8 (A.length : Int) then kOpt (qsg A (v8.toNat)) fun row => bif qsy (qsk row) 4 then bif qsw 4 (qsk row) then kTmC (qsr 4 row) fun n n_1 s rows => (kOpt (EVn (EV cfg) 46 [.agg [.int .i64 n, .int .i64 n_1, .str s, .sl rows]]) fun V => kTmV V fun n n_2 s rows => (bif qsw (0 + nv3) (qsk h0) && qO (nv3 + 1) 56 then qd0 A (nv3 + 1) (IntKind.wrap .i64 (v8 + 1)) (qsD (qsr nv3 h0) [[AV.int .i64 n, .int .i64 n_2, .str s, AV.lsl rows]]) else none)) else none else none else none else bif qsw (0 + nv3) (qsk h0) then kOpt (unlR (qsr nv3 h0)) fun rows => some (.sl rows) else none) P) : Gets (qd0 A nv3 v8 h0) P :=
  gE (fun _ => qt (cfg := cfg) (f := 47) (rd := none) (bs := 0)) (by kernel_rfl) h
theorem qcI (sz off len : Nat) (v18 : Int) (h0 : Rz) {P : AV → Prop} (h : Gets (bif decide (v18 < (↑ len : Int)) then bif qsy sz 6 && qh 0 v18 && qo v18 (↑ len : Int) then kOpt (qsg h0 (off + v18.toNat)) fun row => bif qsw 6 (qsk row) then qn (qsr 6 row) fun c cs => kInt .i64 c fun n => qn cs fun c cs => kInt .i64 c fun n_1 => qn cs fun c cs => kStr c fun s => qn cs fun c cs => kSl c fun rows => qn cs fun c cs => kSl c fun rows_1 => qn cs fun c cs => kSl c fun rows_2 => kNil cs (kOpt (EVn (EV cfg) 46 [.agg [.int .i64 n, .int .i64 n_1, .str s, .sl rows]]) fun V => kTmV V fun n n_2 s rows => (kOpt (EVn (EV cfg) 47 [.sl rows_1]) fun V => kSl V fun rows_3 => kOpt (EVn (EV cfg) 47 [.sl rows_2]) fun V => kSl V fun rows_4 => bif qsy sz 6 && qh 0 v18 && qo v18 (↑ len : Int) then kOpt (qsg h0 (off + v18.toNat)) fun row => bif qsw 6 (qsk row) then qcc sz off len (IntKind.wrap .i64 (v18 + 1)) (List.set h0 (off + v18.toNat) (.int .i64 n :: .int .i64 n_2 :: .str s :: AV.lsl rows :: AV.lsl rows_3 :: AV.lsl rows_4 :: List.drop 6 row)) else none else none)) else none else none else bif qsw (off + len) (qsk h0) then kOpt (unlR (qsr len (List.drop off h0))) fun rows => some (AV.tup [.sl rows, .int .i64 0]) else none) P) : Gets (qcc sz off len v18 h0) P :=
  gE (fun _ => qt (cfg := cfg) (f := 12) (rd := none) (bs := 0)) (by kernel_rfl) h
end Go.Proofs.YtjiecipfkjaooaaGreat.N
end
section
namespace Go.Av
def Tm.cellsN (t : Tm) : List AV := [.int .i64 t.kind, .int .i64 t.num, .str t.str, .lsl (qa t.subs)]
def xb (l : List Tm) : List (List AV) := l.map Tm.cellsN
theorem qcg (l : List Tm) : (xb l).length = l.length := by simp [xb]
theorem ql6 (a b : List Tm) : xb (a ++ b) = xb a ++ xb b := by simp [xb]
theorem qnk : ∀ l : List Tm, unlR (xb l) = some (qa l)
 | [] => by rw [qa]; rfl
 | t :: l => by
  have h := qnk l
  obtain ⟨k, n, s, r⟩ := t
  rw [qD, Tm.cells_mk]
  show unlR (Tm.cellsN (.mk k n s r) :: xb l) = _
  rw [unlR, h]; rfl
def Cl.cellsN (c : Cl) : List AV := [.int .i64 c.head.kind, .int .i64 c.head.num, .str c.head.str, .lsl (qa c.head.subs), .lsl (qa c.gs), .lsl (qa c.bs)]
def vW (l : List Cl) : List (List AV) := l.map Cl.cellsN
theorem qch (l : List Cl) : (vW l).length = l.length := by simp [vW]
theorem ql7 (a b : List Cl) : vW (a ++ b) = vW a ++ vW b := by simp [vW]
theorem qnl : ∀ l : List Cl, unlR (vW l) = some (qz l)
 | [] => rfl
 | c :: l => by
  have h := qnl l
  show unlR (Cl.cellsN c :: vW l) = some (Cl.cells c :: qz l)
  rw [unlR, h]; rfl
end Go.Av
namespace Go.Proofs.YtjiecipfkjaooaaGreat.N
open Go.Av
theorem qc8 {l : List Tm} (hlen : l.length < 1099511627776) (hc : ∀ x ∈ l, x.Ok) : EVn (EV cfg) 47 [.sl (qa l)] = some (.sl (qa l)) := by
 have loop : ∀ d i : Nat, i + d = l.length → Gets (qd0 (qa l) i i (xb (l.take i))) (· = .sl (qa l)) := by
  intro d
  induction d with
  | zero =>
   intro i hi
   refine qc3 _ _ _ _ ?_
   obtain rfl : i = l.length := by omega
   have hb : qsw (0 + l.length) (xb l).length = true := by rw [qsF, qcg]; omega
   have ht : qsr l.length (xb l) = xb l := qsp (by rw [qcg]; exact qso _)
   rw [List.take_length, hb, ht, qnk, qb, decide_eq_false (by omega)]
   exact ⟨_, rfl, rfl⟩
  | succ d ihd =>
   intro i hi
   have hil : i < l.length := by omega
   refine qc3 _ _ _ _ ?_
   have hx : l[i]? = some l[i] := qsh hil
   have h1 := qj6 (hc l[i] (qss hx))
   have h2 := ihd (i + 1) (by omega)
   have e1 : l.take (i + 1) = l.take i ++ [l[i]] := by rw [List.take_add_one, hx]; rfl
   have ht : (xb (l.take i)).length = i := by rw [qcg, List.length_take]; omega
   have e2 : qsD (qsr i (xb (l.take i))) [l[i].cellsN] = xb (l.take (i + 1)) := by
    rw [qsp (by omega), e1, ql6]; rfl
   have e3 : qsw (0 + i) (xb (l.take i)).length = true := by rw [ht, qsF]; omega
   rw [qb, decide_eq_true (show (i : Int) < (l.length : Int) by omega), qA, qN, decide_eq_true hil, vS hx, qI hil hlen, e3, x8 (by omega)]
   simp only [cond_true, qsH, qx, qsJ, qG, qB, zf, vr, h1, qf, zL]
   unfold Tm.cellsN at e2
   rw [e2]
   exact h2
 apply Gets.get
 refine qir _ ?_
 exact loop l.length 0 (by omega)
theorem qis {t : Tm} (hw : t.w < 1099511627776) : EVn (EV cfg) 12 [t.av] = some (.tup [.sl (qz (clsG t).1), .int .i64 (clsG t).2]) := by
 have hk := qgV hw
 rw [← qpF _ rfl rfl] at hk
 obtain ⟨ho, hn⟩ := qhA t
 apply Gets.get
 rw [Tm.av, Tm.cells_eq] at hk ⊢
 refine qhj _ _ _ _ ?_
 rw [hk]
 simp only [clsQ, qf, qy, qjI, bneD]
 have hz : (clsG t).2 ≠ 0 → (clsG t).1 = [] := by
  unfold clsG
  by_cases hc : t.chk = 0
  ·rw [if_pos hc]
   cases seqC (qm t).1 with
   | none => intro _; rfl
   | some l =>
    simp only []
    split
    ·intro h; exact absurd rfl h
    ·intro _; rfl
  ·rw [if_neg hc]; intro _; rfl
 generalize hl : (clsG t).1 = l at *
 generalize he : (clsG t).2 = e at *
 by_cases h0 : e = 0
 ·subst h0
  rw [decide_eq_true rfl]
  simp only [Bool.not_true, cond_false]
  have loop : ∀ d i : Nat, i + d = l.length → Gets (qcc 6 0 l.length i (vW (l.take i) ++ qz (l.drop i))) (· = .tup [.sl (qz l), .int .i64 0]) := by
   intro d
   induction d with
   | zero =>
    intro i hi
    obtain rfl : i = l.length := by omega
    refine qcI _ _ _ _ _ ?_
    rw [List.take_length, List.drop_length, show qz [] = [] from rfl, List.append_nil]
    have hb : qsw (0 + l.length) (vW l).length = true := by rw [qsF, qch]; omega
    have ht : qsr l.length (List.drop 0 (vW l)) = vW l := qsp (by rw [List.drop_zero, qch]; exact qso _)
    rw [decide_eq_false (by omega), hb, ht, qnl]
    exact ⟨_, rfl, rfl⟩
   | succ d ih =>
    intro i hi
    have hil : i < l.length := by omega
    have hx : l[i]? = some l[i] := qsh hil
    obtain ⟨c1, c2, c3, c4, c5⟩ := ho _ (qss hx)
    have k1 := qj6 (qbU c1)
    have k2 := qc8 (l := l[i].gs) (by omega) (fun x hx => qbU (c2 x hx))
    have k3 := qc8 (l := l[i].bs) (by omega) (fun x hx => qbU (c3 x hx))
    have hlen : (vW (l.take i)).length = i := by rw [qch, List.length_take]; omega
    have hd : l.drop i = l[i] :: l.drop (i + 1) := List.drop_eq_getElem_cons hil
    have gx : qsg (vW (l.take i) ++ qz (l.drop i)) (0 + qsC (i : Int)) = some l[i].cells := by
     rw [Nat.zero_add, qq, qsE, qst (by omega), hlen, Nat.sub_self, hd]; rfl
    have gs : List.set (vW (l.take i) ++ qz (l.drop i)) (0 + qsC (i : Int)) l[i].cellsN = vW (l.take (i + 1)) ++ qz (l.drop (i + 1)) := by
     rw [Nat.zero_add, qsE, List.set_append_right _ _ (by omega), hlen, Nat.sub_self, hd]
     show vW (l.take i) ++ (l[i].cellsN :: qz (l.drop (i + 1))) = _
     rw [List.take_add_one, hx, ql7, List.append_assoc]; rfl
    have h1 := ih (i + 1) (by omega)
    refine qcI _ _ _ _ _ ?_
    rw [decide_eq_true (show (i : Int) < (l.length : Int) by omega), qA, qN, decide_eq_true hil, gx, qI hil (show l.length < 1099511627776 by omega)]
    have b6 : qsw 6 l[i].cells.length = true := rfl
    have t6 : qsr 6 l[i].cells = l[i].cells := rfl
    have d6 : List.drop 6 l[i].cells = [] := rfl
    simp only [show qsy 6 6 = true from rfl, cond_true, qsH, qf, b6, t6, d6]
    unfold Cl.cellsN at gs
    unfold Cl.cells
    simp only [qn, qy, qfc, yn, kNil, vr, k1, k2, k3, qf, zL, gs]
    exact h1
  exact loop l.length 0 (by omega)
 ·rw [decide_eq_false h0, hz h0]
  exact ⟨_, rfl, rfl⟩
end Go.Proofs.YtjiecipfkjaooaaGreat.N
end
section
namespace Go.Proofs.YtjiecipfkjaooaaGreat.R
open Go.Av
noncomputable def qrA : Den := evC cfg (EV cfg) 3 none 0 (sub (qe Tryz.f3) [1, 1, 1, 1, 1, 1, 0, 1, 0, 0])
noncomputable def qrX : Ex × List AV × AH → Option AV := kAft (Cfg.keepOut cfg 3 9) (kRun cfg (EV cfg) (kfN cfg 6) 3 none 0 (xu cfg (Cfg.lift cfg 3 0) Tryz.f3.results.toList) ([.block 0, .seq (sub (qe Tryz.f3) [1, 1, 1, 1, 1, 1, 1])]))
noncomputable def qoo : List AV × AH → Option AV := fun p => kOpt (LOOP 0 (some [1, 3, 4, 8]) ([]) qrA p) qrX
noncomputable abbrev qi9 (rows : Rz) (v8 c0_0 c0_1 : Int) (c0_2 : Bz) (c0_3 : Rz) (c1_0 c1_1 : Int) (c1_2 : Bz) (c1_3 : Rz) : Option (AV) := qoo  (((fx 65 [(1, .ptr 0 0 0), (3, .ptr 1 0 0), (4, .rsl 2 rows), (8, .int .i64 v8)]) : List AV), ([.rows false 4 [[.int .i64 c0_0, .int .i64 c0_1, .str c0_2, .sl c0_3]], .rows false 4 [[.int .i64 c1_0, .int .i64 c1_1, .str c1_2, .sl c1_3]], .reg] : AH))
noncomputable abbrev qdX (rows : Rz) (v8 c0_0 c0_1 : Int) (c0_2 : Bz) (c0_3 : Rz) (c1_0 c1_1 : Int) (c1_2 : Bz) (c1_3 : Rz) : Option (AV) := qoo  (((fx 65 [(1, .ptr 0 0 0), (3, .ptr 1 0 0), (4, .rsl 2 rows), (8, .int .i64 v8)]) : List AV), ([.rows false 4 [[.int .i64 c0_0, .int .i64 c0_1, .str c0_2, .sl c0_3]], .rows false 4 [[.int .i64 c1_0, .int .i64 c1_1, .str c1_2, .sl c1_3]], .spl] : AH))
theorem qgi (kt nt : Int) (st : Bz) (lt : Rz) {P : AV → Prop} (h : Gets (kOpt (EVs (EV cfg) 10 [.sl [[AV.int .i64 kt, .int .i64 nt, .str st, .sl lt]]]) fun v => qv v fun b => bif b then some (.bool true) else kOpt (EVf (EV cfg) 11 [.agg [.int .i64 kt, .int .i64 nt, .str st, .sl lt]]) fun v => kTmV v fun n n_1 s rows => (kOpt (EVg (EV cfg) 12 [.agg [.int .i64 n, .int .i64 n_1, .str s, .sl rows]]) fun V => kTup V fun cs => qn cs fun c cs => kSl c fun rows_1 => qn cs fun c cs => kInt .i64 c fun n_2 => kNil cs (kOpt (EVf (EV cfg) 13 [.agg [.int .i64 kt, .int .i64 nt, .str st, .sl lt]]) fun v => kTup v fun cs => qn cs fun c cs => kSl c fun rows_2 => qn cs fun c cs => kInt .i64 c fun n_3 => kNil cs (bif n_2 != n_3 then some (.bool false) else kOpt (EVs (EV cfg) 14 [.sl rows_1, .sl rows_2]) fun v => qv v fun b => bif ! b then some (.bool false) else kOpt (EVs (EV cfg) 15 [.agg [.int .i64 n, .int .i64 n_1, .str s, .sl rows]]) fun v => kInt .i64 v fun n_4 => kOpt (EVs (EV cfg) 16 [.agg [.int .i64 kt, .int .i64 nt, .str st, .sl lt]]) fun v => kInt .i64 v fun n_5 => bif n_4 != n_5 then some (.bool false) else kOpt (EVs (EV cfg) 17 [.agg [.int .i64 n, .int .i64 n_1, .str s, .sl rows]]) fun v => qv v fun b => kOpt (EVs (EV cfg) 18 [.agg [.int .i64 kt, .int .i64 nt, .str st, .sl lt]]) fun v => qv v fun b_1 => bif ! b == b_1 then some (.bool false) else qi9 rows_1 (0 : Int) kt nt st lt n n_1 s rows)))) P) : Gets (EVs (EV cfg) 3 [.agg [.int .i64 kt, .int .i64 nt, .str st, .sl lt]]) P :=
  gE (fun _ => funS rfl rfl Tryz.func3 rfl) (by kernel_rfl) h
noncomputable abbrev zC1 (b : Bool) : Option (AV) := bif b then kOpt (EVs (EV cfg) 21 []) fun v => qv v fun b => some (.bool b) else some (.bool false)
noncomputable abbrev zC0 (v : AV) : Option (AV) := qv v fun b => zC1 b
theorem qkw (rows : Rz) (v8 c0_0 c0_1 : Int) (c0_2 : Bz) (c0_3 : Rz) (c1_0 c1_1 : Int) (c1_2 : Bz) (c1_3 : Rz) {P : AV → Prop} (h : Gets (bif decide (v8 < (rows.length : Int)) then bif qh 0 v8 && qo v8 (rows.length : Int) then kOpt (qsg rows (v8.toNat)) fun row => bif qsy (qsk row) 6 then bif qsw 4 (qsk row) then kTmC (qsr 4 row) fun n n_1 s rows_1 => (kOpt (EVz (EV cfg) 19 (.agg [.int .i64 n, .int .i64 n_1, .str s, AV.rsl 0 rows_1])) fun x => qdX rows (IntKind.wrap .i64 (v8 + 1)) c0_0 c0_1 c0_2 c0_3 c1_0 c1_1 c1_2 c1_3) else none else none else none else kOpt (EVs (EV cfg) 20 [.agg [.int .i64 c1_0, .int .i64 c1_1, .str c1_2, .sl c1_3], .agg [.int .i64 c0_0, .int .i64 c0_1, .str c0_2, .sl c0_3]]) fun v => zC0 v) P) : Gets (qi9 rows v8 c0_0 c0_1 c0_2 c0_3 c1_0 c1_1 c1_2 c1_3) P :=
  gE (fun _ => qt (cfg := cfg) (f := 3) (rd := none) (bs := 0)) (by kernel_rfl) h
theorem qc0 (rows : Rz) (v8 c0_0 c0_1 : Int) (c0_2 : Bz) (c0_3 : Rz) (c1_0 c1_1 : Int) (c1_2 : Bz) (c1_3 : Rz) {P : AV → Prop} (h : Gets (bif decide (v8 < (rows.length : Int)) then bif qh 0 v8 && qo v8 (rows.length : Int) then kOpt (qsg rows (v8.toNat)) fun row => bif qsy (qsk row) 6 then kTmC (qsr 4 row) fun n n_1 s rows_1 => (kOpt (EVz (EV cfg) 19 (.agg [.int .i64 n, .int .i64 n_1, .str s, AV.rsl 0 rows_1])) fun x => kOpt (EVz (EV cfg) 19 (.agg [.int .i64 77, .int .i64 0, .str [], .sl []])) fun x => kOpt (EVz (EV cfg) 19 (.agg [.int .i64 0, .int .i64 0, .str [], .sl []])) fun x => qdX rows (IntKind.wrap .i64 (v8 + 1)) c0_0 c0_1 c0_2 c0_3 c1_0 c1_1 c1_2 c1_3) else none else none else kOpt (EVs (EV cfg) 20 [.agg [.int .i64 c1_0, .int .i64 c1_1, .str c1_2, .sl c1_3], .agg [.int .i64 c0_0, .int .i64 c0_1, .str c0_2, .sl c0_3]]) fun v => zC0 v) P) : Gets (qdX rows v8 c0_0 c0_1 c0_2 c0_3 c1_0 c1_1 c1_2 c1_3) P :=
  gE (fun _ => qt (cfg := cfg) (f := 3) (rd := none) (bs := 0)) (by kernel_rfl) h
end Go.Proofs.YtjiecipfkjaooaaGreat.R
end
section
namespace Go.Proofs.YtjiecipfkjaooaaGreat
open Go.Av
theorem qj5 {l : List Tm} (hlen : l.length < 1099511627776) (ih : ∀ x ∈ l, EVf (EV cfg) 11 [x.av] = some x.av) :
  EVo (EV cfg) 44 [.sl (qa l)] = some (OV.own 4 (qa l) 0 l.length) := by
 have loop : ∀ d i : Nat, i + d = l.length → Gets (qfD (qa l) i i (qa (l.take i))) (· = OV.own 4 (qa l) 0 l.length) := by
  intro d
  induction d with
  | zero =>
   intro i hi
   refine qew _ _ _ _ ?_
   obtain rfl : i = l.length := by omega
   rw [qb, decide_eq_false (by omega), List.take_length]
   exact ⟨_, rfl, rfl⟩
  | succ d ihd =>
   intro i hi
   have hil : i < l.length := by omega
   refine qew _ _ _ _ ?_
   have hx : l[i]? = some l[i] := qsh hil
   have h1 := ih l[i] (qss hx)
   have h2 := ihd (i + 1) (by omega)
   have e1 : l.take (i + 1) = l.take i ++ [l[i]] := by rw [List.take_add_one, hx]; rfl
   have ht : (qa (l.take i)).length = i := by rw [qb, List.length_take]; omega
   have e2 : qsD (qsr i (qa (l.take i))) [l[i].cells] = qa (l.take (i + 1)) := by
    rw [qsp (by omega), e1, q8, qD, qT]; rfl
   have e3 : qsw (0 + i) (qa (l.take i)).length = true := by rw [ht, qsF]; omega
   rw [qb, decide_eq_true (show (i : Int) < (l.length : Int) by omega), qA, qN, decide_eq_true hil, vS hx, qI hil hlen, e3, x8 (by omega)]
   simp only [cond_true, qsH, qx, qsJ, qG, qB, show qsw 4 4 = true from rfl, vr, h1, qf, zL]
   rw [← Tm.cells_eq, e2]
   exact h2
 apply Gets.get
 exact qbe _ (by simpa [qT] using loop l.length 0 (by omega))
theorem qlg (t : Tm) : t.w < 1099511627776 → EVf (EV cfg) 11 [t.av] = some t.av := by
 induction t using Tm.ind with
 | _ k n s l ih =>
  intro hw
  rw [Tm.w_mk] at hw
  have hlen := xT l
  have h := qj5 (l := l) (by omega) fun x hx => ih x hx (by have := xS hx; omega)
  apply Gets.get
  rw [Tm.av_mk]
  refine qbu _ _ _ _ ?_
  rw [h]
  have e : (qsw (0 + l.length) (qa l).length && true) = true := by rw [Bool.and_true, qsF, qb]; omega
  have e2 : qsr l.length (List.drop 0 (qa l)) = qa l := qsp (by simp)
  show Gets (bif (qsw (0 + l.length) (qa l).length && true) then some (AV.agg [.int .i64 k, .int .i64 n, .str s, .sl (qsr l.length (List.drop 0 (qa l)))]) else none) _
  rw [e, e2]
  exact ⟨_, rfl, rfl⟩
theorem qc7 : EVs (EV cfg) 148 [.agg [.int .i64 2, .int .i64 0, .str [36, 49], .sl []]] = some (.tup [.int .i64 1, .bool true]) := qaG (.nil) 1000 1000 (by kernel_rfl)
theorem qiq : EVf (EV cfg) 55 [] = some (.agg [.int .i64 9, .int .i64 0, .str [], .sl [[.int .i64 7, .int .i64 0, .str [], .sl [[.int .i64 7, .int .i64 0, .str [], .sl [[.int .i64 2, .int .i64 0, .str [36, 49], .sl []], [.int .i64 2, .int .i64 0, .str [36, 50], .sl []]]], [.int .i64 9, .int .i64 0, .str [], .sl [[.int .i64 7, .int .i64 0, .str [], .sl [[.int .i64 2, .int .i64 0, .str [62], .sl []], [.int .i64 2, .int .i64 0, .str [36, 50], .sl []], [.int .i64 1, .int .i64 1, .str [], .sl []]]], [.int .i64 8, .int .i64 0, .str [], .sl []]]], [.int .i64 9, .int .i64 0, .str [], .sl [[.int .i64 2, .int .i64 0, .str [36, 49], .sl []], [.int .i64 8, .int .i64 0, .str [], .sl []]]]]], [.int .i64 8, .int .i64 0, .str [], .sl []]]]) := yg (.nil) 1000 1000 (by kernel_rfl)
theorem qap : EVs (EV cfg) 53 [.agg [.int .i64 9, .int .i64 0, .str [], .sl [[.int .i64 7, .int .i64 0, .str [], .sl [[.int .i64 7, .int .i64 0, .str [], .sl [[.int .i64 2, .int .i64 0, .str [36, 49], .sl []], [.int .i64 2, .int .i64 0, .str [36, 50], .sl []]]], [.int .i64 9, .int .i64 0, .str [], .sl [[.int .i64 7, .int .i64 0, .str [], .sl [[.int .i64 2, .int .i64 0, .str [62], .sl []], [.int .i64 2, .int .i64 0, .str [36, 50], .sl []], [.int .i64 1, .int .i64 1, .str [], .sl []]]], [.int .i64 8, .int .i64 0, .str [], .sl []]]], [.int .i64 9, .int .i64 0, .str [], .sl [[.int .i64 2, .int .i64 0, .str [36, 49], .sl []], [.int .i64 8, .int .i64 0, .str [], .sl []]]]]], [.int .i64 8, .int .i64 0, .str [], .sl []]]]] = some (.int .i64 0) := qaG (.nil) 1000 1000 (by kernel_rfl)
theorem qao : EVs (EV cfg) 53 [.agg [.int .i64 7, .int .i64 0, .str [], .sl [[.int .i64 2, .int .i64 0, .str [36, 49], .sl []], [.int .i64 2, .int .i64 0, .str [36, 50], .sl []]]]] = some (.int .i64 0) := qaG (.nil) 1000 1000 (by kernel_rfl)
theorem qip : EVf (EV cfg) 167 [.agg [.int .i64 7, .int .i64 0, .str [], .sl [[.int .i64 2, .int .i64 0, .str [36, 49], .sl []], [.int .i64 2, .int .i64 0, .str [36, 50], .sl []]]]] = some (.sl [[.int .i64 1], [.int .i64 2]]) := yg (.consS qao (.nil)) 1000 1000 (by kernel_rfl)
theorem qan : EVs (EV cfg) 53 [.agg [.int .i64 7, .int .i64 0, .str [], .sl [[.int .i64 2, .int .i64 0, .str [62], .sl []], [.int .i64 2, .int .i64 0, .str [36, 50], .sl []], [.int .i64 1, .int .i64 1, .str [], .sl []]]]] = some (.int .i64 0) := qaG (.nil) 1000 1000 (by kernel_rfl)
theorem qam : EVs (EV cfg) 148 [.agg [.int .i64 2, .int .i64 0, .str [36, 50], .sl []]] = some (.tup [.int .i64 2, .bool true]) := qaG (.nil) 1000 1000 (by kernel_rfl)
theorem qal : EVs (EV cfg) 147 [.agg [.int .i64 7, .int .i64 0, .str [], .sl [[.int .i64 2, .int .i64 0, .str [62], .sl []], [.int .i64 2, .int .i64 0, .str [36, 50], .sl []], [.int .i64 1, .int .i64 1, .str [], .sl []]]], .sl [[.int .i64 1], [.int .i64 2]]] = some (.bool true) := qaG (.consS qam (.nil)) 1000 1000 (by kernel_rfl)
theorem qak : EVf (EV cfg) 107 [.agg [.int .i64 7, .int .i64 0, .str [], .sl [[.int .i64 7, .int .i64 0, .str [], .sl [[.int .i64 2, .int .i64 0, .str [36, 49], .sl []], [.int .i64 2, .int .i64 0, .str [36, 50], .sl []]]], [.int .i64 9, .int .i64 0, .str [], .sl [[.int .i64 7, .int .i64 0, .str [], .sl [[.int .i64 2, .int .i64 0, .str [62], .sl []], [.int .i64 2, .int .i64 0, .str [36, 50], .sl []], [.int .i64 1, .int .i64 1, .str [], .sl []]]], [.int .i64 8, .int .i64 0, .str [], .sl []]]], [.int .i64 9, .int .i64 0, .str [], .sl [[.int .i64 2, .int .i64 0, .str [36, 49], .sl []], [.int .i64 8, .int .i64 0, .str [], .sl []]]]]]] = some (.tup [.agg [.int .i64 7, .int .i64 0, .str [], .sl [[.int .i64 2, .int .i64 0, .str [36, 49], .sl []], [.int .i64 2, .int .i64 0, .str [36, 50], .sl []]], .sl [[.int .i64 7, .int .i64 0, .str [], .sl [[.int .i64 2, .int .i64 0, .str [62], .sl []], [.int .i64 2, .int .i64 0, .str [36, 50], .sl []], [.int .i64 1, .int .i64 1, .str [], .sl []]]]], .sl [[.int .i64 2, .int .i64 0, .str [36, 49], .sl []]]], .bool true]) := yg (.consF qip (.consS qan (.consS qal (.consS qc7 (.nil))))) 1000 1000 (by kernel_rfl)
theorem qaj : EVs (EV cfg) 53 [.agg [.int .i64 7, .int .i64 0, .str [], .sl [[.int .i64 2, .int .i64 0, .str [107], .sl []], [.int .i64 1, .int .i64 1, .str [], .sl []]]]] = some (.int .i64 0) := qaG (.nil) 1000 1000 (by kernel_rfl)
theorem qio : EVf (EV cfg) 233 [.agg [.int .i64 7, .int .i64 0, .str [], .sl [[.int .i64 2, .int .i64 0, .str [36, 49], .sl []], [.int .i64 2, .int .i64 0, .str [36, 50], .sl []]]], .agg [.int .i64 7, .int .i64 0, .str [], .sl [[.int .i64 2, .int .i64 0, .str [107], .sl []], [.int .i64 1, .int .i64 1, .str [], .sl []]]], .sl []] = some (.tup [.sl [[.int .i64 1, .int .i64 2, .int .i64 0, .str [107], .sl []], [.int .i64 2, .int .i64 1, .int .i64 1, .str [], .sl []]], .bool true]) := yg (.consS qao (.consS qaj (.nil))) 1000 1000 (by kernel_rfl)
theorem qcK : EVf (EV cfg) 234 [.agg [.int .i64 7, .int .i64 0, .str [], .sl [[.int .i64 2, .int .i64 0, .str [107], .sl []], [.int .i64 1, .int .i64 1, .str [], .sl []]], .sl [[.int .i64 1, .int .i64 2, .int .i64 0, .str [107], .sl []], [.int .i64 2, .int .i64 1, .int .i64 1, .str [], .sl []]], .int .i64 1]] = some (.tup [.sl [[.int .i64 1], [.int .i64 2]], .bool true]) := yg (.consS qaj (.nil)) 1000 1000 (by kernel_rfl)
theorem qin : EVf (EV cfg) 247 [.sl [[.int .i64 1, .int .i64 2, .int .i64 0, .str [107], .sl []], [.int .i64 2, .int .i64 1, .int .i64 1, .str [], .sl []]], .int .i64 2] = some (.tup [.agg [.int .i64 1, .int .i64 1, .str [], .sl []], .bool true]) := yg (.nil) 1000 1000 (by kernel_rfl)
theorem qim : EVf (EV cfg) 197 [.agg [.int .i64 7, .int .i64 0, .str [], .sl [[.int .i64 2, .int .i64 0, .str [62], .sl []], [.int .i64 2, .int .i64 0, .str [36, 50], .sl []], [.int .i64 1, .int .i64 1, .str [], .sl []]]], .agg [.int .i64 7, .int .i64 0, .str [], .sl [[.int .i64 2, .int .i64 0, .str [107], .sl []], [.int .i64 1, .int .i64 1, .str [], .sl []]], .sl [[.int .i64 1, .int .i64 2, .int .i64 0, .str [107], .sl []], [.int .i64 2, .int .i64 1, .int .i64 1, .str [], .sl []]], .int .i64 1]] = some (.tup [.agg [.int .i64 2, .int .i64 0, .str [102, 97, 108, 115, 101], .sl []], .int .i64 0]) := yg (.consF qcK (.consS qan (.consS qal (.consS qam (.consF qin (.nil)))))) 1000 1000 (by kernel_rfl)
theorem qil : EVf (EV cfg) 27 [.agg [.int .i64 9, .int .i64 0, .str [], .sl [[.int .i64 7, .int .i64 0, .str [], .sl [[.int .i64 7, .int .i64 0, .str [], .sl [[.int .i64 2, .int .i64 0, .str [36, 49], .sl []], [.int .i64 2, .int .i64 0, .str [36, 50], .sl []]]], [.int .i64 9, .int .i64 0, .str [], .sl [[.int .i64 7, .int .i64 0, .str [], .sl [[.int .i64 2, .int .i64 0, .str [62], .sl []], [.int .i64 2, .int .i64 0, .str [36, 50], .sl []], [.int .i64 1, .int .i64 1, .str [], .sl []]]], [.int .i64 8, .int .i64 0, .str [], .sl []]]], [.int .i64 9, .int .i64 0, .str [], .sl [[.int .i64 2, .int .i64 0, .str [36, 49], .sl []], [.int .i64 8, .int .i64 0, .str [], .sl []]]]]], [.int .i64 8, .int .i64 0, .str [], .sl []]]], .agg [.int .i64 7, .int .i64 0, .str [], .sl [[.int .i64 2, .int .i64 0, .str [107], .sl []], [.int .i64 1, .int .i64 1, .str [], .sl []]]], .int .i64 1] = some (.tup [.agg [.int .i64 0, .int .i64 0, .str [], .sl []], .bool false, .int .i64 0]) := yg (.consS qap (.consF qak (.consS qaj (.consF qio (.consF qcK (.consF qim (.nil))))))) 1000 1000 (by kernel_rfl)
theorem qai : EVs (EV cfg) 53 [.agg [.int .i64 7, .int .i64 0, .str [], .sl [[.int .i64 2, .int .i64 0, .str [107], .sl []], [.int .i64 1, .int .i64 3, .str [], .sl []]]]] = some (.int .i64 0) := qaG (.nil) 1000 1000 (by kernel_rfl)
theorem qik : EVf (EV cfg) 233 [.agg [.int .i64 7, .int .i64 0, .str [], .sl [[.int .i64 2, .int .i64 0, .str [36, 49], .sl []], [.int .i64 2, .int .i64 0, .str [36, 50], .sl []]]], .agg [.int .i64 7, .int .i64 0, .str [], .sl [[.int .i64 2, .int .i64 0, .str [107], .sl []], [.int .i64 1, .int .i64 3, .str [], .sl []]]], .sl []] = some (.tup [.sl [[.int .i64 1, .int .i64 2, .int .i64 0, .str [107], .sl []], [.int .i64 2, .int .i64 1, .int .i64 3, .str [], .sl []]], .bool true]) := yg (.consS qao (.consS qai (.nil))) 1000 1000 (by kernel_rfl)
theorem qah : EVf (EV cfg) 234 [.agg [.int .i64 7, .int .i64 0, .str [], .sl [[.int .i64 2, .int .i64 0, .str [107], .sl []], [.int .i64 1, .int .i64 3, .str [], .sl []]], .sl [[.int .i64 1, .int .i64 2, .int .i64 0, .str [107], .sl []], [.int .i64 2, .int .i64 1, .int .i64 3, .str [], .sl []]], .int .i64 1]] = some (.tup [.sl [[.int .i64 1], [.int .i64 2]], .bool true]) := yg (.consS qai (.nil)) 1000 1000 (by kernel_rfl)
theorem qij : EVf (EV cfg) 247 [.sl [[.int .i64 1, .int .i64 2, .int .i64 0, .str [107], .sl []], [.int .i64 2, .int .i64 1, .int .i64 3, .str [], .sl []]], .int .i64 2] = some (.tup [.agg [.int .i64 1, .int .i64 3, .str [], .sl []], .bool true]) := yg (.nil) 1000 1000 (by kernel_rfl)
theorem qii : EVf (EV cfg) 197 [.agg [.int .i64 7, .int .i64 0, .str [], .sl [[.int .i64 2, .int .i64 0, .str [62], .sl []], [.int .i64 2, .int .i64 0, .str [36, 50], .sl []], [.int .i64 1, .int .i64 1, .str [], .sl []]]], .agg [.int .i64 7, .int .i64 0, .str [], .sl [[.int .i64 2, .int .i64 0, .str [107], .sl []], [.int .i64 1, .int .i64 3, .str [], .sl []]], .sl [[.int .i64 1, .int .i64 2, .int .i64 0, .str [107], .sl []], [.int .i64 2, .int .i64 1, .int .i64 3, .str [], .sl []]], .int .i64 1]] = some (.tup [.agg [.int .i64 2, .int .i64 0, .str [116, 114, 117, 101], .sl []], .int .i64 0]) := yg (.consF qah (.consS qan (.consS qal (.consS qam (.consF qij (.nil)))))) 1000 1000 (by kernel_rfl)
theorem qih : EVf (EV cfg) 247 [.sl [[.int .i64 1, .int .i64 2, .int .i64 0, .str [107], .sl []], [.int .i64 2, .int .i64 1, .int .i64 3, .str [], .sl []]], .int .i64 1] = some (.tup [.agg [.int .i64 2, .int .i64 0, .str [107], .sl []], .bool true]) := yg (.nil) 1000 1000 (by kernel_rfl)
theorem qig : EVf (EV cfg) 197 [.agg [.int .i64 2, .int .i64 0, .str [36, 49], .sl []], .agg [.int .i64 7, .int .i64 0, .str [], .sl [[.int .i64 2, .int .i64 0, .str [107], .sl []], [.int .i64 1, .int .i64 3, .str [], .sl []]], .sl [[.int .i64 1, .int .i64 2, .int .i64 0, .str [107], .sl []], [.int .i64 2, .int .i64 1, .int .i64 3, .str [], .sl []]], .int .i64 1]] = some (.tup [.agg [.int .i64 2, .int .i64 0, .str [107], .sl []], .int .i64 0]) := yg (.consF qah (.consS qc7 (.consF qih (.nil)))) 1000 1000 (by kernel_rfl)
theorem qif : EVf (EV cfg) 81 [.agg [.int .i64 9, .int .i64 0, .str [], .sl [[.int .i64 7, .int .i64 0, .str [], .sl [[.int .i64 7, .int .i64 0, .str [], .sl [[.int .i64 2, .int .i64 0, .str [36, 49], .sl []], [.int .i64 2, .int .i64 0, .str [36, 50], .sl []]]], [.int .i64 9, .int .i64 0, .str [], .sl [[.int .i64 7, .int .i64 0, .str [], .sl [[.int .i64 2, .int .i64 0, .str [62], .sl []], [.int .i64 2, .int .i64 0, .str [36, 50], .sl []], [.int .i64 1, .int .i64 1, .str [], .sl []]]], [.int .i64 8, .int .i64 0, .str [], .sl []]]], [.int .i64 9, .int .i64 0, .str [], .sl [[.int .i64 2, .int .i64 0, .str [36, 49], .sl []], [.int .i64 8, .int .i64 0, .str [], .sl []]]]]], [.int .i64 8, .int .i64 0, .str [], .sl []]]], .agg [.int .i64 7, .int .i64 0, .str [], .sl [[.int .i64 2, .int .i64 0, .str [107], .sl []], [.int .i64 1, .int .i64 3, .str [], .sl []]]], .int .i64 1] = some (.tup [.int .i64 1, .agg [.int .i64 2, .int .i64 0, .str [107], .sl []], .int .i64 0]) := yg (.consS qap (.consF qak (.consS qai (.consF qik (.consF qah (.consF qii (.consF qig (.nil)))))))) 1000 1000 (by kernel_rfl)
theorem qie : EVs (EV cfg) 21 [] = some (.bool true) := qaG (.consF qiq (.consF qil (.consS qap (.consF qak (.consF qif (.nil)))))) 1000 1000 (by kernel_rfl)
end Go.Proofs.YtjiecipfkjaooaaGreat
end
section
namespace Go.Av
theorem qr5 (l : List Cl) : neR (qz l) = true := by cases l <;> rfl
theorem qr7 {α : Type} (rs : List (List AV)) (e : Int) (K : List (List AV) → Int → Option α) : (kTup (.tup [.sl rs, .int .i64 e]) fun cs => qn cs fun c cs => kSl c fun rows => qn cs fun c cs => kInt .i64 c fun n => kNil cs (K rows n)) = K rs e := rfl
end Go.Av
namespace Go.Proofs.YtjiecipfkjaooaaGreat.R
open Go.Av
theorem qpY (l : List Cl) (e : Int) : (AV.tup [.sl (qz l), .int .i64 e]).neT = true := by
 show ([AV.sl (qz l), .int .i64 e]).all AV.neT1 = true
 simp [AV.neT1, AV.neT0, qr5]
theorem qli {t : Tm} (hw : t.w < 1099511627776) : EVg (EV cfg) 12 [t.av] = some (.tup [.sl (qz (clsG t).1), .int .i64 (clsG t).2]) :=
 qsa rfl (N.qis hw) (fun a ha => by rw [List.mem_singleton] at ha; subst ha; exact N.qo4 t)
  (qpY _ _) rfl
theorem qid {t : Tm} (ht : t.w ≤ 1048576) : EVs (EV cfg) 3 [t.av] = some (.bool true) := by
 have wt : t.w < 1099511627776 := by omega
 have h1 := qmz (l := [t]) (qoR (by rw [qW, vP]; omega)) (by simp)
 have h2 := qlg t wt
 have h3 := qli wt
 have h4 := qiv wt
 have h5 := qlZ wt
 have h6 := qeK wt
 have h7 := qnp wt
 have h8 := qma wt
 have h9 : EVs (EV Go.Proofs.YtjiecipfkjaooaaGreat.cfg) 20 [t.av, t.av] = some (.bool true) := qhL (qhp _ wt) (by simp)
 obtain ⟨ho, hn⟩ := qhA t
 have h10 := qgh ho (by omega)
 have h11 := qie
 rw [← qpE _ rfl rfl] at h1 h5 h6 h7 h8 h9 h10 h11
 rw [← qpG _ rfl rfl] at h2 h4
 have hr : qa [t] = [[AV.int .i64 t.kind, .int .i64 t.num, .str t.str, .sl (qa t.subs)]] := by rw [qD, qT, Tm.cells_eq]
 rw [hr] at h1
 generalize (clsG t).1 = l at *
 generalize (clsG t).2 = e at *
 have gx : ∀ (i : Nat) (h : i < l.length), qsg (qz l) (qsC (i : Int)) = some l[i].cells := fun i h => by
  rw [qq, qsE, qda, qsh h]; rfl
 have over : ∀ (i : Nat) (h : i < l.length), EVz (EV cfg) 19 (.agg [.int .i64 l[i].head.kind, .int .i64 l[i].head.num, .str l[i].head.str, .rsl 0 (qa l[i].head.subs)]) = some () := fun i h => qnN (qbU (ho _ (List.getElem_mem h)).1)
 have loopA : ∀ d i : Nat, i + d = l.length → Gets (qdX (qz l) i t.kind t.num t.str (qa t.subs) t.kind t.num t.str (qa t.subs)) (· = .bool true) := by
  intro d
  induction d with
  | zero =>
   intro i hi
   refine qc0 _ _ _ _ _ _ _ _ _ _ ?_
   unfold zC0 zC1
   rw [vC, decide_eq_false (by omega)]
   simp only [cond_false, vr, h9, h11, qf, qu, cond_true]
   exact ⟨_, rfl, rfl⟩
  | succ d ih =>
   intro i hi
   have hil : i < l.length := by omega
   have hv := ih (i + 1) (by omega)
   refine qc0 _ _ _ _ _ _ _ _ _ _ ?_
   unfold zC0 zC1
   have l6 : qsy l[i].cells.length 6 = true := rfl
   have t4 : qsr 4 l[i].cells = l[i].head.cells := by rw [Tm.cells_eq]; rfl
   rw [vC, decide_eq_true (show (i : Int) < (l.length : Int) by omega), qA, qN, decide_eq_true hil, gx i hil, qI hil (show l.length < 1099511627776 by omega)]
   simp only [cond_true, qsH, qf, l6, t4, qB, over i hil, qjy]
   exact hv
 have loop : Gets (qi9 (qz l) 0 t.kind t.num t.str (qa t.subs) t.kind t.num t.str (qa t.subs)) (· = .bool true) := by
  refine qkw _ _ _ _ _ _ _ _ _ _ ?_
  unfold zC0 zC1
  by_cases h0 : 0 < l.length
  ·have hv := loopA (l.length - 1) 1 (by omega)
   have l6 : qsy l[0].cells.length 6 = true := rfl
   have b4 : qsw 4 l[0].cells.length = true := rfl
   have t4 : qsr 4 l[0].cells = l[0].head.cells := by rw [Tm.cells_eq]; rfl
   have g0 := gx 0 h0
   have w1 : IntKind.wrap .i64 (0 + 1) = ((1 : Nat) : Int) := vm (by omega) (by omega)
   rw [show qsC ((0 : Nat) : Int) = qsC 0 from rfl] at g0
   rw [vC, decide_eq_true (show (0 : Int) < (l.length : Int) by omega), show qh 0 0 = true from rfl, show qo 0 (l.length : Int) = true from decide_eq_true (by omega), g0, w1]
   simp only [cond_true, qsH, qf, l6, b4, t4, qB, over 0 h0]
   exact hv
  ·rw [vC, decide_eq_false (by omega)]
   simp only [cond_false, vr, h9, h11, qf, qu, cond_true]
   exact ⟨_, rfl, rfl⟩
 apply Gets.get
 rw [qq2 t]
 refine qgi _ _ _ _ ?_
 refine Gets.bind h1 ?_
 rintro _ ⟨b, rfl, _⟩
 cases b with
 | true => exact ⟨_, rfl, rfl⟩
 | false =>
  simp only [qu, cond_false, vr]
  rw [h2]
  simp only [qf, zL, vr]
  rw [h3, h4]
  simp only [qf, qr7, bneD, decide_true, Bool.not_true, cond_false, h10, h5, h6, h7, h8, qu, qy]
  cases qfO t
  ·simpa using loop
  ·simpa using loop
end Go.Proofs.YtjiecipfkjaooaaGreat.R
end
section
namespace Go.Av
mutual
def AV.wt : AV → Nat
 | .str s => s.length + 1
 | .sl rows => wtR rows + 1
 | _ => 1
def wtL : List AV → Nat
 | [] => 0
 | a :: l => a.wt + wtL l
def wtR : List (List AV) → Nat
 | [] => 0
 | a :: l => wtL a + wtR l
end
@[simp] theorem wtL_nil : wtL [] = 0 := by rw [wtL]
@[simp] theorem wtL_cons (a : AV) (l : List AV) : wtL (a :: l) = a.wt + wtL l := by rw [wtL]
@[simp] theorem wtR_nil : wtR [] = 0 := by rw [wtR]
@[simp] theorem wtR_cons (a : List AV) (l : List (List AV)) : wtR (a :: l) = wtL a + wtR l := by rw [wtR]
@[simp] theorem wt_int (k : IntKind) (n : Int) : (AV.int k n).wt = 1 := by rw [AV.wt] <;> simp
@[simp] theorem wt_bool (b : Bool) : (AV.bool b).wt = 1 := by rw [AV.wt] <;> simp
@[simp] theorem wt_str (s : List UInt8) : (AV.str s).wt = s.length + 1 := by rw [AV.wt]
@[simp] theorem wt_sl (r : List (List AV)) : (AV.sl r).wt = wtR r + 1 := by rw [AV.wt]
end Go.Av
namespace Go.Proofs.YtjiecipfkjaooaaGreat
open Go.Av Go.WideShapes
def qaf (W : World) (cs : List Value) (cz : List AV) : Prop := cz.length = cs.length ∧ ∀ (j : Nat) a v, cz[j]? = some a → cs[j]? = some v → a.isCell = true ∧ Rep (C0 W) M0 a v
theorem qaf.nil {W : World} : qaf W [] [] := ⟨rfl, fun j a v h => by simp at h⟩
theorem qaf.one {W : World} {a : AV} {v : Value} (h1 : a.isCell = true) (h2 : Rep (C0 W) M0 a v) : qaf W [v] [a] := ⟨rfl, fun j a' v' ha hv => by
 match j, ha, hv with
 | 0, ha, hv => simp at ha hv; subst ha hv; exact ⟨h1, h2⟩
 | j + 1, ha, hv => simp at ha⟩
theorem qaf.append {W : World} {cs cs' : List Value} {cz cz' : List AV} (h : qaf W cs cz) (h' : qaf W cs' cz') : qaf W (cs ++ cs') (cz ++ cz') := by
 refine ⟨by simp [h.1, h'.1], fun j a v ha hv => ?_⟩
 by_cases hj : j < cz.length
 ·rw [qsq hj] at ha
  rw [qsq (by rw [← h.1]; exact hj)] at hv
  exact h.2 j a v ha hv
 ·rw [qst (by omega)] at ha
  rw [qst (by rw [← h.1]; omega), ← h.1] at hv
  exact h'.2 _ a v ha hv
section
variable {H : Type} {enc : TypeId × Value → H} {P : Program} {W : World}
end
theorem qp6 {H : Type} {l : List (DataW H)} (hk : Rows.uptoSmall H l = true) {d : DataW H} (hd : d ∈ l) : Rows.uptoBulk d ≤ 1048576 := by
 have h : Rows.uptoBulkAll l ≤ 1048576 := of_decide_eq_true hk
 have := qoc hd
 omega
end Go.Proofs.YtjiecipfkjaooaaGreat
end

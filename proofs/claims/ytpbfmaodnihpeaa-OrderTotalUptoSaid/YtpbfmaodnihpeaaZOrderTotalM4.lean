/-
  Parts of the proof of OrderTotalUptoSaid, put together: the abstract evaluation and its contracts. Own work.
  What is proved: each lemma as it stands; no condition.
-/
import Derived.Test.YtpbfmaodnihpeaaZOrderTotalM3

section
/-
  What is left of the functions' evaluation at arguments with variables, printed by a program of ours (resid2.py) and checked by the kernel.
  What is proved: each equation as it stands; no condition.
-/
namespace Go.Proofs.Ytpbfmaodnihpeaa
open Go.Av
set_option maxRecDepth 100000
set_option maxHeartbeats 0

noncomputable def Lq62_0 : Den := evC cfg (EV cfg) 62 none 0 (sub (bodyOf Try.f62) [1, 1, 0, 1, 0, 0])
noncomputable def Aq62_0 : Ex × List AV × AH → Option AV := kAft (Cfg.keepOut cfg 62 3) (kRun cfg (EV cfg) (kfN cfg 6) 62 none 0 (kFinS cfg (Cfg.lift cfg 62 0) Try.f62.results.toList) ([.block 0, .seq (sub (bodyOf Try.f62) [1, 1, 1])]))
noncomputable def Wq62_0 : List AV × AH → Option AV := fun p => kOpt (LOOP 0 (some [3, 6, 7, 8]) ([]) Lq62_0 p) Aq62_0
noncomputable def Lq97_0 : Den := evC cfg (EV cfg) 97 none 0 (sub (bodyOf Try.f97) [1, 0, 1, 0, 0])
noncomputable def Aq97_0 : Ex × List AV × AH → Option AV := kAft (Cfg.keepOut cfg 97 2) (kRun cfg (EV cfg) (kfN cfg 6) 97 none 0 (kFinS cfg (Cfg.lift cfg 97 0) Try.f97.results.toList) ([.block 0, .seq (sub (bodyOf Try.f97) [1, 1])]))
noncomputable def Wq97_0 : List AV × AH → Option AV := fun p => kOpt (LOOP 0 (some [0, 1, 2, 11, 12, 13]) ([]) Lq97_0 p) Aq97_0
noncomputable def Lq67_0 : Den := evC cfg (EV cfg) 67 none 0 (sub (bodyOf Try.f67) [1, 1, 0, 1, 0, 0])
noncomputable def Aq67_0 : Ex × List AV × AH → Option AV := kAft (Cfg.keepOut cfg 67 4) (kRun cfg (EV cfg) (kfN cfg 6) 67 none 0 (kFinS cfg (Cfg.lift cfg 67 0) Try.f67.results.toList) ([.block 0, .seq (sub (bodyOf Try.f67) [1, 1, 1])]))
noncomputable def Wq67_0 : List AV × AH → Option AV := fun p => kOpt (LOOP 0 (some [0, 1, 5]) ([]) Lq67_0 p) Aq67_0
noncomputable def Lq59_0 : Den := evC cfg (EV cfg) 59 none 0 (sub (bodyOf Try.f59) [1, 1, 0, 1, 0, 0])
noncomputable def Aq59_0 : Ex × List AV × AH → Option OV := kAft (Cfg.keepOut cfg 59 3) (kRun cfg (EV cfg) (kfN cfg 6) 59 none 0 (kFinO cfg (Cfg.lift cfg 59 0) Try.f59.results.toList) ([.block 0, .seq (sub (bodyOf Try.f59) [1, 1, 1])]))
noncomputable def Wq59_0 : List AV × AH → Option OV := fun p => kOpt (LOOP 0 (some [0, 3, 4]) ([(3, 4)]) Lq59_0 p) Aq59_0
noncomputable abbrev wq62_0 (a : Int) (b : Int) (c : Int) (v8 : Int) : Option (AV) := Wq62_0  (((fx 18 [(3, AV.int IntKind.i64 (0 : Int)), (6, AV.sl [[AV.int IntKind.i64 a], [AV.int IntKind.i64 b], [AV.int IntKind.i64 c]]), (7, AV.int IntKind.i64 (3 : Int)), (8, AV.int IntKind.i64 v8)]) : List AV), ([] : AH))
noncomputable abbrev wq62_0a (a : Int) (b : Int) (v8 : Int) : Option (AV) := Wq62_0  (((fx 18 [(3, AV.int IntKind.i64 (0 : Int)), (6, AV.sl [[AV.int IntKind.i64 a], [AV.int IntKind.i64 b]]), (7, AV.int IntKind.i64 (2 : Int)), (8, AV.int IntKind.i64 v8)]) : List AV), ([] : AH))
noncomputable abbrev wq97_0 (A : List (List AV)) (B : List (List AV)) (v13 : Int) : Option (AV) := Wq97_0  (((fx 39 [(0, AV.sl A), (1, AV.sl B), (2, AV.fn (Fn.func (15 : Nat)) [] []), (11, AV.sl A), (12, AV.int IntKind.i64 (↑(List.length A) : Int)), (13, AV.int IntKind.i64 v13)]) : List AV), ([] : AH))
noncomputable abbrev wq67_0 (A : List (List AV)) (B : List (List AV)) (v5 : Int) : Option (AV) := Wq67_0  (((fx 27 [(0, AV.sl A), (1, AV.sl B), (5, AV.int IntKind.i64 v5)]) : List AV), ([] : AH))
noncomputable abbrev wq59_0 (A : List (List AV)) (nv3 : Nat) (v4 : Int) (h0 : List (List AV)) : Option (OV) := Wq59_0  (((fx 20 [(0, AV.sl A), (3, AV.ms (0 : Nat) (0 : Nat) nv3), (4, AV.int IntKind.i64 v4)]) : List AV), ([ABlk.rows true (4 : Nat) h0] : AH))
theorem cmpI_run (a : Int) (b : Int) {P : AV → Prop} (h : Gets (kOpt (EVs (EV cfg) 95 [.int .i64 a]) fun (v : AV) => kBool v fun (b_1 : Bool) => kOpt (EVs (EV cfg) 95 [.int .i64 b]) fun (v : AV) => kBool v fun (b_2 : Bool) => bif b_1 then bif b_2 
  then some (.int .i64 (0 : Int)) else some (.int .i64 (-1 : Int)) else bif b_2 then some (.int .i64 (1 : Int)) else bif decide (a < b) then some (.int .i64 (-1 : Int)) else bif decide 
  (a > b) then some (.int .i64 (1 : Int)) else some (.int .i64 (0 : Int))) P) : Gets (EVs (EV cfg) 60 ([AV.int IntKind.i64 a, AV.int IntKind.i64 b] : List AV)) P :=
  Gets.ev (fun _ h => funS rfl rfl Try.func60 rfl h) (Gets.eq (by kernel_rfl) h)
theorem cmpSt_run (a : List UInt8) (b : List UInt8) {P : AV → Prop} (h : Gets (kOpt (EVs (EV cfg) 96 [.str a, .str b]) fun (v : AV) => kInt .i64 v fun (n : Int) => some (.int .i64 n)) P) : Gets (EVs (EV cfg) 61 ([AV.str a, AV.str b] : List AV)) P :=
  Gets.ev (fun _ h => funS rfl rfl Try.func61 rfl h) (Gets.eq (by kernel_rfl) h)
theorem or3_run (a : Int) (b : Int) (c : Int) {P : AV → Prop} (h : Gets (wq62_0 a b c (0 : Int)) P) : Gets (EVs (EV cfg) 62 ([AV.sl [[AV.int IntKind.i64 a], [AV.int IntKind.i64 b], [AV.int IntKind.i64 c]]] : List AV)) P :=
  Gets.ev (fun _ h => funS rfl rfl Try.func62 rfl h) (Gets.eq (by kernel_rfl) h)
theorem or2_run (a : Int) (b : Int) {P : AV → Prop} (h : Gets (wq62_0a a b (0 : Int)) P) : Gets (EVs (EV cfg) 62 ([AV.sl [[AV.int IntKind.i64 a], [AV.int IntKind.i64 b]]] : List AV)) P :=
  Gets.ev (fun _ h => funS rfl rfl Try.func62 rfl h) (Gets.eq (by kernel_rfl) h)
theorem cmpFunc_run (A : List (List AV)) (B : List (List AV)) {P : AV → Prop} (h : Gets (wq97_0 A B (0 : Int)) P) : Gets (EVs (EV cfg) 97 ([AV.sl A, AV.sl B, AV.fn (Fn.func (15 : Nat)) [] []] : List AV)) P :=
  Gets.ev (fun _ h => funS rfl rfl Try.func97 rfl h) (Gets.eq (by kernel_rfl) h)
theorem tenurekit_SameTerm_run (ka : Int) (na : Int) (sa : List UInt8) (la : List (List AV)) (kb : Int) (nb : Int) (sb : List UInt8) (lb : List (List AV)) {P : AV → Prop} (h : Gets (bif ka == kb then bif na == nb then bif sa == sb then kOpt (EVs (EV cfg) 67 [.sl la, .sl lb]) fun (v : AV) => kBool v fun (b : Bool) => some (.bool b) else some (.bool false) else some 
  (.bool false) else some (.bool false)) P) : Gets (EVs (EV cfg) 17 ([AV.agg [AV.int IntKind.i64 ka, AV.int IntKind.i64 na, AV.str sa, AV.sl la], AV.agg [AV.int IntKind.i64 kb, AV.int IntKind.i64 nb, AV.str sb, AV.sl lb]] : List AV)) P :=
  Gets.ev (fun _ h => funS rfl rfl Try.func17 rfl h) (Gets.eq (by kernel_rfl) h)
theorem tenurekit_SameTerms_run (A : List (List AV)) (B : List (List AV)) {P : AV → Prop} (h : Gets (bif (↑(List.length A) : Int) != (↑(List.length B) : Int) then some (.bool false) else wq67_0 A B (0 : Int)) P) : Gets (EVs (EV cfg) 67 ([AV.sl A, AV.sl B] : List AV)) P :=
  Gets.ev (fun _ h => funS rfl rfl Try.func67 rfl h) (Gets.eq (by kernel_rfl) h)
theorem tenurekit_CopyTerm_run (kt : Int) (nt : Int) (st : List UInt8) (lt : List (List AV)) {P : AV → Prop} (h : Gets (kOpt (EVo (EV cfg) 59 [.sl lt]) fun (o : OV) => kOwn o (some (.agg [.int .i64 kt, .int .i64 nt, .str st, .sl []])) fun (sz : Nat) (rs : List (List AV)) (off len : Nat) => bif Nat.ble 
  (off + len) (List.length rs) && true then some (.agg [.int .i64 kt, .int .i64 nt, .str st, .sl (List.take len (List.drop off rs))]) else none) P) : Gets (EVf (EV cfg) 14 ([AV.agg [AV.int IntKind.i64 kt, AV.int IntKind.i64 nt, AV.str st, AV.sl lt]] : List AV)) P :=
  Gets.ev (fun _ h => funF rfl rfl Try.func14 rfl h) (Gets.eq (by kernel_rfl) h)
theorem tenurekit_CopyTerms_run (A : List (List AV)) {P : OV → Prop} (h : Gets (wq59_0 A 0 (0 : Int) []) P) : Gets (EVo (EV cfg) 59 ([AV.sl A] : List AV)) P :=
  Gets.ev (fun _ h => funO rfl rfl Try.func59 rfl h) (Gets.eq (by kernel_rfl) h)
theorem isNaNI_run (a : Int) {P : AV → Prop} (h : Gets (some (.bool (a != a))) P) : Gets (EVs (EV cfg) 95 ([AV.int IntKind.i64 a] : List AV)) P :=
  Gets.ev (fun _ h => funS rfl rfl Try.func95 rfl h) (Gets.eq (by kernel_rfl) h)
theorem cmpStr_run (a : List UInt8) (b : List UInt8) {P : AV → Prop} (h : Gets (kOpt (EVs (EV cfg) 107 [.str a, .str b]) fun (v : AV) => kInt .i64 v fun (n : Int) => some (.int .i64 n)) P) : Gets (EVs (EV cfg) 96 ([AV.str a, AV.str b] : List AV)) P :=
  Gets.ev (fun _ h => funS rfl rfl Try.func96 rfl h) (Gets.eq (by kernel_rfl) h)
theorem wq62_0_step (a : Int) (b : Int) (c : Int) (v8 : Int) {P : AV → Prop} (h : Gets (bif decide (v8 < (3 : Int)) then bif leInt (0 : Int) v8 && ltInt v8 (↑3 : Int) then kOpt (List.get?Internal [[.int .i64 a], [.int .i64 b], [.int .i64 c]] (Int.toNat v8)) fun (row : 
  List AV) => bif Nat.beq (List.length row) 1 then kOpt (List.get?Internal row 0) fun (v : AV) => kInt .i64 v fun (n : Int) => bif n != (0 : Int) then some (.int .i64 n) else wq62_0 a 
  b c (IntKind.wrap .i64 (v8 + (1 : Int))) else none else none else some (.int .i64 (0 : Int))) P) : Gets (wq62_0 a b c v8) P :=
  Gets.ev (fun _ h => loop_step (cfg := cfg) (f := 62) (rd := none) (bs := 0) h) (Gets.eq (by kernel_rfl) h)
theorem wq62_0a_step (a : Int) (b : Int) (v8 : Int) {P : AV → Prop} (h : Gets (bif decide (v8 < (2 : Int)) then bif leInt (0 : Int) v8 && ltInt v8 (↑2 : Int) then kOpt (List.get?Internal [[.int .i64 a], [.int .i64 b]] (Int.toNat v8)) fun (row : List AV) => bif 
  Nat.beq (List.length row) 1 then kOpt (List.get?Internal row 0) fun (v : AV) => kInt .i64 v fun (n : Int) => bif n != (0 : Int) then some (.int .i64 n) else wq62_0a a b (IntKind.wrap 
  .i64 (v8 + (1 : Int))) else none else none else some (.int .i64 (0 : Int))) P) : Gets (wq62_0a a b v8) P :=
  Gets.ev (fun _ h => loop_step (cfg := cfg) (f := 62) (rd := none) (bs := 0) h) (Gets.eq (by kernel_rfl) h)
theorem wq97_0_step (A : List (List AV)) (B : List (List AV)) (v13 : Int) {P : AV → Prop} (h : Gets (bif decide (v13 < (↑(List.length A) : Int)) then bif leInt (0 : Int) v13 && ltInt v13 (↑(List.length A) : Int) then kOpt (List.get?Internal A (Int.toNat v13)) fun (row : List AV) => 
  bif Nat.beq (List.length row) 4 then bif Nat.ble 4 (List.length row) then kTmC (List.take 4 row) fun (n n_1 : Int) (s : List UInt8) (rows : List (List AV)) => (bif decide (v13 ≥ (↑(List.length 
  B) : Int)) then some (.int .i64 (1 : Int)) else bif leInt (0 : Int) v13 && ltInt v13 (↑(List.length B) : Int) then kOpt (List.get?Internal B (Int.toNat v13)) fun (row : List AV) => 
  bif Nat.beq (List.length row) 4 then bif Nat.ble 4 (List.length row) then kTmC (List.take 4 row) fun (n_2 n_3 : Int) (s_1 : List UInt8) (rows_1 : List (List AV)) => (kOpt (EVs (EV cfg) 
  15 [.agg [.int .i64 n, .int .i64 n_1, .str s, .sl rows], .agg [.int .i64 n_2, .int .i64 n_3, .str s_1, .sl rows_1]]) fun (v : AV) => kInt .i64 v fun (n : Int) => bif n != (0 : Int) 
  then some (.int .i64 n) else wq97_0 A B (IntKind.wrap .i64 (v13 + (1 : Int)))) else none else none else none) else none else none else none else bif decide ((↑(List.length A) : Int) 
  < (↑(List.length B) : Int)) then some (.int .i64 (-1 : Int)) else some (.int .i64 (0 : Int))) P) : Gets (wq97_0 A B v13) P :=
  Gets.ev (fun _ h => loop_step (cfg := cfg) (f := 97) (rd := none) (bs := 0) h) (Gets.eq (by kernel_rfl) h)
theorem wq67_0_step (A : List (List AV)) (B : List (List AV)) (v5 : Int) {P : AV → Prop} (h : Gets (bif decide (v5 < (↑(List.length A) : Int)) then bif leInt (0 : Int) v5 && ltInt v5 (↑(List.length A) : Int) then kOpt (List.get?Internal A (Int.toNat v5)) fun (row : List AV) => bif 
  Nat.beq (List.length row) 4 then bif Nat.ble 4 (List.length row) then kTmC (List.take 4 row) fun (n n_1 : Int) (s : List UInt8) (rows : List (List AV)) => (bif leInt (0 : Int) v5 && 
  ltInt v5 (↑(List.length B) : Int) then kOpt (List.get?Internal B (Int.toNat v5)) fun (row : List AV) => bif Nat.beq (List.length row) 4 then bif Nat.ble 4 (List.length row) then kTmC 
  (List.take 4 row) fun (n_2 n_3 : Int) (s_1 : List UInt8) (rows_1 : List (List AV)) => (kOpt (EVs (EV cfg) 17 [.agg [.int .i64 n, .int .i64 n_1, .str s, .sl rows], .agg [.int .i64 n_2, 
  .int .i64 n_3, .str s_1, .sl rows_1]]) fun (v : AV) => kBool v fun (b : Bool) => bif !b then some (.bool false) else wq67_0 A B (IntKind.wrap .i64 (v5 + (1 : Int)))) else none else 
  none else none) else none else none else none else some (.bool true)) P) : Gets (wq67_0 A B v5) P :=
  Gets.ev (fun _ h => loop_step (cfg := cfg) (f := 67) (rd := none) (bs := 0) h) (Gets.eq (by kernel_rfl) h)
theorem wq59_0_step (A : List (List AV)) (nv3 : Nat) (v4 : Int) (h0 : List (List AV)) {P : OV → Prop} (h : Gets (bif decide (v4 < (↑(List.length A) : Int)) then bif leInt (0 : Int) v4 && ltInt v4 (↑(List.length A) : Int) then kOpt (List.get?Internal A (Int.toNat v4)) fun (row : List AV) => bif 
  Nat.beq (List.length row) 4 then bif Nat.ble 4 (List.length row) then kTmC (List.take 4 row) fun (n n_1 : Int) (s : List UInt8) (rows : List (List AV)) => (kOpt (EVf (EV cfg) 14 [.agg 
  [.int .i64 n, .int .i64 n_1, .str s, .sl rows]]) fun (v : AV) => kTmV v fun (n n_2 : Int) (s : List UInt8) (rows : List (List AV)) => (bif Nat.ble (0 + nv3) (List.length h0) && fitsIn 
  (nv3 + 1) 56 then wq59_0 A (nv3 + 1) (IntKind.wrap .i64 (v4 + (1 : Int))) (List.append (List.take nv3 h0) [[.int .i64 n, .int .i64 n_2, .str s, .sl rows]]) else none)) else none else 
  none else none else some (OV.own 4 h0 0 nv3)) P) : Gets (wq59_0 A nv3 v4 h0) P :=
  Gets.ev (fun _ h => loop_step (cfg := cfg) (f := 59) (rd := none) (bs := 0) h) (Gets.eq (by kernel_rfl) h)
end Go.Proofs.Ytpbfmaodnihpeaa
end

section
/-
  The order of terms: order.Compare tells cmpT. Own work.
  What is proved: contracts of the abstract evaluation; no condition but on a term's size.
-/
namespace Go.Proofs.Ytpbfmaodnihpeaa
open Go.Av
set_option maxRecDepth 100000

theorem isNaN_ev (a : Int) : EVs (EV cfg) 95 [.int .i64 a] = some (.bool false) := by
  apply Gets.get
  refine isNaNI_run _ ?_
  simp
theorem cmp_ev (a b : Int) : EVs (EV cfg) 60 [.int .i64 a, .int .i64 b] = some (.int .i64 (numC a b)) := by
  apply Gets.get
  refine cmpI_run _ _ ?_
  rw [isNaN_ev, isNaN_ev]
  unfold numC
  by_cases h1 : a < b
  · simp [h1]
  · by_cases h2 : b < a
    · simp [h1, h2]
    · simp [h1, h2]
theorem cmpstr_ev (a b : List UInt8) : EVs (EV cfg) 107 [.str a, .str b] = some (.int .i64 (strC a b)) := by
  refine EVs_of (H := []) (EV_of ?_)
  have hx : cfg.ext 107 = some extCmp := rfl
  unfold evBody
  simp only [hx]
  unfold extCmp strC
  by_cases h : a = b
  · simp [h]
  · simp [h]
theorem strCmp_ev (a b : List UInt8) : EVs (EV cfg) 61 [.str a, .str b] = some (.int .i64 (strC a b)) := by
  have h96 : EVs (EV cfg) 96 [.str a, .str b] = some (.int .i64 (strC a b)) := by
    apply Gets.get
    refine cmpStr_run _ _ ?_
    rw [cmpstr_ev]; simp
  apply Gets.get
  refine cmpSt_run _ _ ?_
  rw [h96]; simp
theorem or3_ev (a b c : Int) : EVs (EV cfg) 62 [.sl [[.int .i64 a], [.int .i64 b], [.int .i64 c]]] = some (.int .i64 (if a ≠ 0 then a else if b ≠ 0 then b else c)) := by
  apply Gets.get
  refine or3_run _ _ _ ?_
  have w1 : IntKind.wrap .i64 (0 + 1) = 1 := wrap64 (by omega) (by omega)
  have w2 : IntKind.wrap .i64 (1 + 1) = 2 := wrap64 (by omega) (by omega)
  have w3 : IntKind.wrap .i64 (2 + 1) = 3 := wrap64 (by omega) (by omega)
  have s3 : Gets (wq62_0 a b c 3) (· = .int .i64 0) := by
    refine wq62_0_step _ _ _ _ ?_
    simp
  have s2 : Gets (wq62_0 a b c 2) (· = .int .i64 c) := by
    refine wq62_0_step _ _ _ _ ?_
    rw [w3]
    by_cases h : c = 0
    · subst h; simp; exact s3
    · simp [bneD, h]
  have s1 : Gets (wq62_0 a b c 1) (· = .int .i64 (if b ≠ 0 then b else c)) := by
    refine wq62_0_step _ _ _ _ ?_
    rw [w2]
    by_cases h : b = 0
    · subst h; simp; exact s2
    · simp [bneD, h]
  refine wq62_0_step _ _ _ _ ?_
  rw [w1]
  by_cases h : a = 0
  · subst h; simp only [ne_eq, ite_not] at s1; simp; exact s1
  · simp [bneD, h]
theorem or2_ev (a b : Int) : EVs (EV cfg) 62 [.sl [[.int .i64 a], [.int .i64 b]]] = some (.int .i64 (if a ≠ 0 then a else b)) := by
  apply Gets.get
  refine or2_run _ _ ?_
  have w1 : IntKind.wrap .i64 (0 + 1) = 1 := wrap64 (by omega) (by omega)
  have w2 : IntKind.wrap .i64 (1 + 1) = 2 := wrap64 (by omega) (by omega)
  have s2 : Gets (wq62_0a a b 2) (· = .int .i64 0) := by
    refine wq62_0a_step _ _ _ ?_
    simp
  have s1 : Gets (wq62_0a a b 1) (· = .int .i64 b) := by
    refine wq62_0a_step _ _ _ ?_
    rw [w2]
    by_cases h : b = 0
    · subst h; simp; exact s2
    · simp [bneD, h]
  refine wq62_0a_step _ _ _ ?_
  rw [w1]
  by_cases h : a = 0
  · subst h; simp; exact s1
  · simp [bneD, h]
theorem drop_get {β : Type} {l : List β} {i : Nat} {x : β} (h : l[i]? = some x) : l.drop i = x :: l.drop (i + 1) := by
  obtain ⟨h1, h2⟩ := List.getElem?_eq_some_iff.1 h
  rw [← h2]; exact List.drop_eq_getElem_cons h1

theorem dropNil {β : Type} {l : List β} {i : Nat} (h : l.length ≤ i) : l.drop i = [] := List.drop_eq_nil_of_le h

theorem listsE_of (la lb : List Tm) (hlen : la.length < 1099511627776) (ih : ∀ a ∈ la, ∀ b ∈ lb, EVs (EV cfg) 15 [a.av, b.av] = some (.int .i64 (cmpT a b))) :
    EVs (EV cfg) 97 [.sl (rowsT la), .sl (rowsT lb), .fn (.func 15) [] []] = some (.int .i64 (cmpE la lb)) := by
  have loop : ∀ (d i : Nat), i + d = la.length → Gets (wq97_0 (rowsT la) (rowsT lb) i) (· = .int .i64 (cmpE (la.drop i) (lb.drop i))) := by
    intro d
    induction d with
    | zero =>
      intro i hi
      refine wq97_0_step _ _ _ ?_
      rw [dropNil (l := la) (by omega)]
      by_cases h : i < lb.length
      · obtain ⟨y, hy⟩ : ∃ y, lb[i]? = some y := ⟨_, List.getElem?_eq_getElem h⟩
        rw [drop_get hy, cmpE_nil_cons]
        simp [show ¬ i < la.length by omega, show la.length < lb.length by omega]
      · rw [dropNil (l := lb) (by omega), cmpE_nil]
        simp [show ¬ i < la.length by omega, show ¬ la.length < lb.length by omega]
    | succ d ihd =>
      intro i hi
      refine wq97_0_step _ _ _ ?_
      obtain ⟨x, hx⟩ : ∃ x, la[i]? = some x := ⟨_, List.getElem?_eq_getElem (by omega)⟩
      rw [drop_get hx]
      by_cases h : i < lb.length
      · obtain ⟨y, hy⟩ : ∃ y, lb[i]? = some y := ⟨_, List.getElem?_eq_getElem h⟩
        have hix := ih x (List.mem_of_getElem? hx) y (List.mem_of_getElem? hy)
        have hih := ihd (i + 1) (by omega)
        rw [drop_get hy, cmpE_cons]
        obtain ⟨k, n, s, l⟩ := x
        obtain ⟨k', n', s', l'⟩ := y
        simp only [get?Internal_eq, Int.toNat_natCast, rowsT_some hx, rowsT_some hy]
        simp [show i < la.length by omega, h, show ¬ lb.length ≤ i by omega, hix, bneD]
        by_cases hc : cmpT (.mk k n s l) (.mk k' n' s' l') = 0
        · simp [hc]; rw [wrap_succ (n := la.length) (by omega) hlen]; exact hih
        · simp [hc]
      · rw [dropNil (l := lb) (by omega), cmpE_cons_nil]
        obtain ⟨k, n, s, l⟩ := x
        simp only [get?Internal_eq, Int.toNat_natCast, rowsT_some hx]
        simp [show i < la.length by omega, show lb.length ≤ i by omega]
  apply Gets.get
  refine cmpFunc_run _ _ ?_
  exact loop la.length 0 (by omega)

theorem lists_of (la lb : List Tm) (hlen : la.length < 1099511627776) (ih : ∀ a ∈ la, ∀ b ∈ lb, EVs (EV cfg) 15 [a.av, b.av] = some (.int .i64 (cmpT a b))) :
    EVs (EV cfg) 63 [.sl (rowsT la), .sl (rowsT lb)] = some (.int .i64 (cmpE la lb)) := by
  apply Gets.get
  refine order_lists_run _ _ ?_
  rw [listsE_of la lb hlen ih]
  simp

theorem compare_loop (a : Tm) : a.Ok → ∀ (kb nb : Int) (sb : List UInt8) (lb : List Tm), (Tm.mk kb nb sb lb).Ok → Gets (wq15_0 a.kind a.num a.str (rowsT a.subs) kb nb sb (rowsT lb)) (· = .int .i64 (cmpT a (.mk kb nb sb lb))) := by
  induction a using Tm.ind with
  | _ k n s l ih =>
    intro hok kb nb sb lb hokb
    have ihe : ∀ a ∈ l, ∀ b ∈ lb, EVs (EV cfg) 15 [a.av, b.av] = some (.int .i64 (cmpT a b)) := by
      intro a ha b hb
      have := ih a ha (hok.sub ha)
      have hob := hokb.sub hb
      obtain ⟨k1, n1, s1, l1⟩ := a
      obtain ⟨k2, n2, s2, l2⟩ := b
      rw [Tm.av_mk, Tm.av_mk]
      apply Gets.get
      exact oCompare_run _ _ _ _ _ _ _ _ (this k2 n2 s2 l2 hob)
    have hlists := lists_of l lb hok.len ihe
    rw [cmpT_eq]
    refine wq15_0_step _ _ _ _ _ _ _ _ ?_
    simp only [Tm.kind, Tm.num, Tm.str, Tm.subs, cmp_ev, strCmp_ev, hlists, or2_ev, or3_ev, rowsT_length, kOptSome, kInt_int, bneD, beqD]
    by_cases h0 : ¬ numC k kb = 0
    · simp [h0]
    have h0 : numC k kb = 0 := Classical.not_not.1 h0
    simp [h0]
    by_cases h1 : k = 1
    · simp [h1]
    by_cases h3 : k = 3
    · simp [h3]
    by_cases h4 : k = 4
    · simp [h4]
    by_cases h6 : k = 6
    · simp [h6]
    by_cases h2 : k = 2
    · simp [h2]
    by_cases h5 : k = 5
    · simp [h5, cmpL]
    by_cases h9 : k = 9
    · subst h9
      by_cases hl : l.length = 2
      · by_cases hl' : lb.length = 2
        · obtain ⟨x, y, rfl⟩ : ∃ x y, l = [x, y] := by
            match l, hl with
            | [x, y], _ => exact ⟨x, y, rfl⟩
          obtain ⟨x', y', rfl⟩ : ∃ x y, lb = [x, y] := by
            match lb, hl' with
            | [x, y], _ => exact ⟨x, y, rfl⟩
          have hx := ihe x (by simp) x' (by simp)
          have hy := ih y (by simp) (hok.sub (by simp))
          have hoy := hokb.sub (t := y') (by simp)
          have hcl : cmpL [x, y] [x', y'] = if cmpT x x' ≠ 0 then cmpT x x' else cmpT y y' := by
            unfold cmpL
            rw [cmpE_cons, cmpE_cons, cmpE_nil]
            by_cases e1 : cmpT x x' = 0 <;> by_cases e2 : cmpT y y' = 0 <;> simp [numC_self, e1, e2]
          obtain ⟨k1, n1, s1, l1⟩ := x
          obtain ⟨k2, n2, s2, l2⟩ := y
          obtain ⟨k1', n1', s1', l1'⟩ := x'
          obtain ⟨k2', n2', s2', l2'⟩ := y'
          have hyy := hy k2' n2' s2' l2' hoy
          simp only [rowsT_cons, rowsT_nil, Tm.cells_mk]
          simp [hcl, hx]
          by_cases hc : cmpT (.mk k1 n1 s1 l1) (.mk k1' n1' s1' l1') = 0
          · simp [hc]; exact hyy
          · simp [hc]
        · have : ¬ ((lb.length : Int) = 2) := by omega
          simp [hl, this, cmpL]
      · have : ¬ ((l.length : Int) = 2) := by omega
        simp [this, cmpL]
    by_cases h7 : k = 7
    · simp [h7, cmpL]
    simp [h1, h2, h3, h4, h5, h6, h7, h9]

theorem compare_ev {a b : Tm} (ha : a.Ok) (hb : b.Ok) : EVs (EV cfg) 15 [a.av, b.av] = some (.int .i64 (cmpT a b)) := by
  have := compare_loop a ha
  obtain ⟨k1, n1, s1, l1⟩ := a
  obtain ⟨k2, n2, s2, l2⟩ := b
  rw [Tm.av_mk, Tm.av_mk]
  apply Gets.get
  exact oCompare_run _ _ _ _ _ _ _ _ (this k2 n2 s2 l2 hb)

/-! ### by the document -/
end Go.Proofs.Ytpbfmaodnihpeaa
end

section
/-
  term.sound, term.own. Own work.
  What is proved: contracts of the abstract evaluation; no condition.
-/
namespace Go.Proofs.Ytpbfmaodnihpeaa
open Go.Av

theorem sound_ev (t : Tm) : EVs (EV cfg) 77 [t.av] = some (.bool t.sound) := by
  obtain ⟨k, n, s, l⟩ := t
  apply Gets.get
  rw [Tm.av_mk]
  refine term_sound_run _ _ _ _ ?_
  simp only [Tm.sound, Tm.kind_mk, Tm.num_mk, Tm.str_mk, Tm.subs_mk, rowsT_length, beqI, beqNil, soundB]
  by_cases h1 : k = 1
  · subst h1; simp [bif_some'] <;> (try rw [Bool.eq_iff_iff]) <;> (try simp) <;> first | omega | grind
  by_cases h2 : k = 2
  · subst h2; simp [bif_some'] <;> (try rw [Bool.eq_iff_iff]) <;> (try simp) <;> first | omega | grind
  by_cases h3 : k = 3
  · subst h3; simp [bif_some'] <;> (try rw [Bool.eq_iff_iff]) <;> (try simp) <;> first | omega | grind
  by_cases h4 : k = 4
  · subst h4; simp [bif_some'] <;> (try rw [Bool.eq_iff_iff]) <;> (try simp) <;> first | omega | grind
  by_cases h6 : k = 6
  · subst h6; simp [bif_some'] <;> (try rw [Bool.eq_iff_iff]) <;> (try simp) <;> first | omega | grind
  by_cases h5 : k = 5
  · subst h5
    cases l with
    | nil => simp [bif_some'] <;> (try rw [Bool.eq_iff_iff]) <;> (try simp) <;> first | omega | grind
    | cons x l =>
      have hx : ¬ ((l.length : Int) + 1 = 0) := by omega
      simp [hx, bif_some'] <;> (try rw [Bool.eq_iff_iff]) <;> (try simp) <;> first | omega | grind
  by_cases h7 : k = 7
  · subst h7; simp [bif_some'] <;> (try rw [Bool.eq_iff_iff]) <;> (try simp) <;> first | omega | grind
  by_cases h8 : k = 8
  · subst h8; simp [bif_some'] <;> (try rw [Bool.eq_iff_iff]) <;> (try simp) <;> first | omega | grind
  by_cases h9 : k = 9
  · subst h9; simp [bif_some'] <;> (try rw [Bool.eq_iff_iff]) <;> (try simp) <;> first | omega | grind
  simp [h1, h2, h3, h4, h5, h6, h7, h8, h9]
theorem own_ev (t : Tm) : EVs (EV cfg) 78 [t.av] = some (.int .i64 t.own) := by
  obtain ⟨k, n, s, l⟩ := t
  apply Gets.get
  rw [Tm.av_mk]
  refine term_own_run _ _ _ _ ?_
  simp only [Tm.own, Tm.kind_mk, beqI]
  by_cases h7 : k = 7
  · simp [h7]
  · by_cases h5 : k = 5
    · simp [h5]
    · simp [h7, h5]
end Go.Proofs.Ytpbfmaodnihpeaa
end

section
/-
  term.Check tells why a term may not be. Own work.
  What is proved: contracts of the abstract evaluation; no condition but on a term's weight.
-/
namespace Go.Proofs.Ytpbfmaodnihpeaa
open Go.Av

theorem app_get0 (l : List (List AV)) (z : List AV) : (l ++ [z])[l.length]? = some z := by simp
theorem app_set0 (l : List (List AV)) (z c : List AV) : (l ++ [z]).set l.length c = l ++ [c] := by simp

theorem push_a {t x : Tm} (hx : x.subs.length < 1099511627776) {wd : Int} {P : AV → Prop} : ∀ (j : Nat) (R : List Tm), j ≤ x.subs.length → R.length + j < 1099511627776 →
    Gets (wq33_0 t.kind t.num t.str (rowsT t.subs) 0 wd t.kind t.num t.str (rowsT t.subs) (R.length + j) (rowsT (R ++ (x.subs.take j).reverse))) P →
    Gets (wq33_1a ((j : Int) - 1) t.kind t.num t.str (rowsT t.subs) 0 wd t.kind t.num t.str (rowsT t.subs) R.length x.kind x.num x.str (rowsT x.subs) (rowsT x.subs) (rowsT R)) P
  | 0, R, _, _, h => by
    refine wq33_1a_step _ _ _ _ _ _ _ _ _ _ _ _ _ _ _ _ _ _ ?_
    simpa using h
  | j + 1, R, hj, hR, h => by
    have ih := push_a (t := t) hx (wd := wd) (P := P) j (R ++ [x.subs[j]]) (by omega) (by simp; omega)
    have e1 : x.subs.take (j + 1) = x.subs.take j ++ [x.subs[j]] := by rw [List.take_add_one, List.getElem?_eq_getElem (by omega)]; rfl
    have e4 : R ++ (x.subs.take j ++ [x.subs[j]]).reverse = R ++ x.subs[j] :: (x.subs.take j).reverse := by rw [List.reverse_append]; rfl
    rw [e1, e4, show R.length + (j + 1) = R.length + 1 + j by omega] at h
    refine wq33_1a_step _ _ _ _ _ _ _ _ _ _ _ _ _ _ _ _ _ _ ?_
    have hw : IntKind.wrap .i64 ((j : Int) - 1) = (j : Int) - 1 := wrap64 (by omega) (by omega)
    have hjl : j < x.subs.length := by omega
    have e2 : ((j + 1 : Nat) : Int) - 1 = j := by omega
    rw [e2]
    have ht : List.take R.length (rowsT R) = rowsT R := List.take_of_length_le (by simp)
    have g0 := app_get0 (rowsT R) [.int .i64 0, .int .i64 0, .str [], .nilS]
    have s0 := app_set0 (rowsT R) [.int .i64 0, .int .i64 0, .str [], .nilS] x.subs[j].cells
    rw [rowsT_length] at g0 s0
    simp [hjl, hw, fits56 (show R.length + 1 ≤ 1099511627776 by omega), ht] at ih ⊢
    exact ih h

/-- the same from rows of which the last ones are not read any more -/
theorem push_m {t x : Tm} (hx : x.subs.length < 1099511627776) {wd : Int} {P : AV → Prop} {R : List Tm} {Z : List (List AV)} (hR : R.length + x.subs.length < 1099511627776)
    (h0 : x.subs = [] → Gets (wq33_0 t.kind t.num t.str (rowsT t.subs) 0 wd t.kind t.num t.str (rowsT t.subs) R.length (rowsT R ++ Z)) P)
    (h : x.subs ≠ [] → Gets (wq33_0 t.kind t.num t.str (rowsT t.subs) 0 wd t.kind t.num t.str (rowsT t.subs) (R ++ x.subs.reverse).length (rowsT (R ++ x.subs.reverse))) P) :
    Gets (wq33_1 ((x.subs.length : Int) - 1) t.kind t.num t.str (rowsT t.subs) 0 wd t.kind t.num t.str (rowsT t.subs) R.length (rowsT R ++ Z) x.kind x.num x.str (rowsT x.subs) (rowsT x.subs)) P := by
  refine wq33_1_step _ _ _ _ _ _ _ _ _ _ _ _ _ _ _ _ _ _ ?_
  rcases Nat.eq_zero_or_pos x.subs.length with hz | hp
  · have hz' : x.subs = [] := List.length_eq_zero_iff.1 hz
    have := h0 hz'
    simpa [hz'] using this
  · obtain ⟨j, hj⟩ : ∃ j, x.subs.length = j + 1 := ⟨x.subs.length - 1, by omega⟩
    have hne : x.subs ≠ [] := by intro e; rw [e] at hp; simp at hp
    have hjl : j < x.subs.length := by omega
    have e2 : (x.subs.length : Int) - 1 = j := by omega
    have hw : IntKind.wrap .i64 ((j : Int) - 1) = (j : Int) - 1 := wrap64 (by omega) (by omega)
    have ht : List.take R.length (rowsT R ++ Z) = rowsT R := by rw [List.take_append_of_le_length (by simp), List.take_of_length_le (by simp)]
    have e5 : x.subs = x.subs.take j ++ [x.subs[j]] := by
      have : x.subs.take (j + 1) = x.subs := List.take_of_length_le (by omega)
      rw [List.take_add_one, List.getElem?_eq_getElem hjl] at this
      exact this.symm
    have e6 : R ++ x.subs.reverse = R ++ [x.subs[j]] ++ (x.subs.take j).reverse := by
      conv => lhs; rw [e5]
      rw [List.reverse_append, List.append_assoc]; rfl
    have := push_a (t := t) hx (wd := wd) (P := P) j (R ++ [x.subs[j]]) (by omega) (by simp; omega) (by
      have h := h hne
      rw [e6] at h
      have e7 : (R ++ [x.subs[j]] ++ (x.subs.take j).reverse).length = (R ++ [x.subs[j]]).length + j := by
        rw [List.length_append, List.length_reverse, List.length_take]; omega
      rw [e7] at h
      exact h)
    rw [e2]
    simp at this
    simp [hjl, hw, fits56 (show R.length + 1 ≤ 1099511627776 by omega), ht]
    exact this

theorem check_m {t : Tm} : ∀ (n : Nat) (R : List Tm) (Z : List (List AV)) (wd : Nat), wL R ≤ n → n < 1099511627776 → wd + 2 * wL R < 9007199254740992 →
    Gets (wq33_0 t.kind t.num t.str (rowsT t.subs) 0 (wd : Int) t.kind t.num t.str (rowsT t.subs) R.length (rowsT R ++ Z)) (· = .int .i64 (chkS R wd)) := by
  intro n
  induction n with
  | zero =>
    intro R Z wd hn _ _
    have : R = [] := by
      have := wL_len R
      exact List.length_eq_zero_iff.1 (by omega)
    subst this
    refine wq33_0_step _ _ _ _ _ _ _ _ _ _ _ _ ?_
    by_cases h : 65536 < wd
    · have h' : (65536 : Int) < wd := by omega
      simp [h, h', chkS, partsL, wordsL]
    · have h' : ¬ (65536 : Int) < wd := by omega
      simp [h, h', chkS, partsL, wordsL]
  | succ n ih =>
    intro R Z wd hn hN hw
    rcases List.eq_nil_or_concat R with rfl | ⟨R0, x, rfl⟩
    · refine wq33_0_step _ _ _ _ _ _ _ _ _ _ _ _ ?_
      by_cases h : 65536 < wd
      · have h' : (65536 : Int) < wd := by omega
        simp [h, h', chkS, partsL, wordsL]
      · have h' : ¬ (65536 : Int) < wd := by omega
        simp [h, h', chkS, partsL, wordsL]
    · rw [List.concat_eq_append] at *
      have hwx := x.w_eq
      have ho := x.own_le
      simp only [wL_append, wL_cons, wL_nil] at hn hw
      have hl0 := wL_len R0
      have hls := wL_len x.subs
      have hsd := sound_ev x
      have how := own_ev x
      refine wq33_0_step _ _ _ _ _ _ _ _ _ _ _ _ ?_
      have e1 : (R0 ++ [x]).length = R0.length + 1 := by simp
      have hw1 : IntKind.wrap .i64 (R0.length : Int) = R0.length := wrapN (by omega)
      have hw2 : IntKind.wrap .i64 ((wd : Int) + x.own) = ((wd + x.own : Nat) : Int) := by rw [wrap64 (by omega) (by omega)]; omega
      have hw3 : IntKind.wrap .i64 ((x.subs.length : Int) - 1) = (x.subs.length : Int) - 1 := wrap64 (by omega) (by omega)
      have g : (rowsT (R0 ++ [x]) ++ Z)[R0.length]? = some x.cells := by
        rw [List.getElem?_append_left (by simp), rowsT_get]; simp
      cases hs : x.sound with
      | false =>
        rw [hs] at hsd
        simp [e1, hw1, g, hsd, chkS_bad hs]
      | true =>
        rw [hs] at hsd
        have e3 : rowsT (R0 ++ [x]) ++ Z = rowsT R0 ++ (x.cells :: Z) := by rw [rowsT_append, List.append_assoc, rowsT_cons, rowsT_nil]; rfl
        have := push_m (t := t) (x := x) (R := R0) (Z := x.cells :: Z) (wd := ((wd + x.own : Nat) : Int)) (P := (· = .int .i64 (chkS (R0 ++ [x]) wd))) (by omega) (by omega)
          (fun hz => by
            have := ih R0 (x.cells :: Z) (wd + x.own) (by omega) (by omega) (by omega)
            rw [← chkS_step hs, hz, List.reverse_nil, List.append_nil]
            exact this)
          (fun hz => by
            have := ih (R0 ++ x.subs.reverse) [] (wd + x.own) (by rw [wL_append, wL_rev]; omega) (by omega) (by rw [wL_append, wL_rev]; omega)
            rw [← chkS_step hs]
            rw [List.append_nil] at this
            exact this)
        simp only [e1, e3] at g ⊢
        simp only [Int.natCast_add] at hw2 this
        simp [hw1, g, hsd, how, hw2, hw3]
        exact this

theorem check_ev {t : Tm} (h : t.w < 1099511627776) : EVs (EV cfg) 33 [t.av] = some (.int .i64 t.chk) := by
  have := check_m (t := t) _ [t] [] 0 (Nat.le_refl _) (by simpa using h) (by simp; omega)
  apply Gets.get
  rw [Tm.av, Tm.cells_eq]
  refine term_Check_run _ _ _ _ ?_
  rw [← Tm.cells_eq, rowsT_one, Tm.chk]
  simpa using this
end Go.Proofs.Ytpbfmaodnihpeaa
end

section
/-
  term.Same tells whether two terms are the same. Own work.
  What is proved: contracts of the abstract evaluation; no condition but on a term's weight.
-/
namespace Go.Av
/-- the value tells whether that is so -/
def Tells (p : Prop) (v : AV) : Prop := ∃ b : Bool, v = .bool b ∧ (b = true ↔ p)
theorem tells_bool {p : Prop} {b : Bool} : Tells p (.bool b) ↔ (b = true ↔ p) := ⟨fun ⟨_, h1, h2⟩ => by cases h1; exact h2, fun h => ⟨b, rfl, h⟩⟩
/-- pairs of terms as rows -/
def pairsR (R : List (Tm × Tm)) : List (List AV) := R.map fun p => p.1.cells ++ p.2.cells
theorem pairsR_len (R : List (Tm × Tm)) : (pairsR R).length = R.length := by simp [pairsR]
theorem pairsR_append (R S : List (Tm × Tm)) : pairsR (R ++ S) = pairsR R ++ pairsR S := by simp [pairsR]
theorem pairsR_get (R : List (Tm × Tm)) (i : Nat) : (pairsR R)[i]? = (R[i]?).map fun p => p.1.cells ++ p.2.cells := by simp [pairsR]
theorem zip_eq : ∀ (a b : List Tm), a.length = b.length → ((∀ p ∈ a.zip b, p.1 = p.2) ↔ a = b)
  | [], [], _ => by simp
  | x :: a, y :: b, h => by
    have := zip_eq a b (by simpa using h)
    simp only [List.zip_cons_cons, List.mem_cons, forall_eq_or_imp, List.cons.injEq, this]
  | [], _ :: _, h => by simp at h
  | _ :: _, [], h => by simp at h
end Go.Av
namespace Go.Proofs.Ytpbfmaodnihpeaa
open Go.Av

theorem fits112 {n : Nat} (h : n ≤ 1099511627776) : fitsIn n 112 = true := by
  unfold fitsIn
  rw [Bool.and_eq_true, Nat.ble_eq, Nat.ble_eq]
  omega

theorem same_push {x y : Tm} (hxy : x.subs.length = y.subs.length) (hx : x.subs.length < 1099511627776) {P : AV → Prop} : ∀ (d i : Nat) (R : List (Tm × Tm)) (Z : List (List AV)), i + d = x.subs.length → R.length + d < 1099511627776 → (d = 0 → Z = []) →
    Gets (wq34_0 (R ++ (x.subs.zip y.subs).drop i).length (pairsR (R ++ (x.subs.zip y.subs).drop i))) P →
    Gets (wq34_1 (rowsT x.subs) R.length i (pairsR R ++ Z) x.kind x.num x.str (rowsT x.subs) y.kind y.num y.str (rowsT y.subs)) P
  | 0, i, R, Z, hi, _, hz, h => by
    refine wq34_1_step _ _ _ _ _ _ _ _ _ _ _ _ ?_
    obtain rfl := hz rfl
    rw [List.drop_eq_nil_of_le (by simp; omega)] at h
    simp at h
    have : ¬ i < x.subs.length := by omega
    simpa [this] using h
  | d + 1, i, R, Z, hi, hR, _, h => by
    refine wq34_1_step _ _ _ _ _ _ _ _ _ _ _ _ ?_
    have h1 : i < x.subs.length := by omega
    have h2 : i < y.subs.length := by omega
    have hzl : i < (x.subs.zip y.subs).length := by simp; omega
    have hd : (x.subs.zip y.subs).drop i = (x.subs[i], y.subs[i]) :: (x.subs.zip y.subs).drop (i + 1) := by
      rw [List.drop_eq_getElem_cons hzl, List.getElem_zip]
    have ih := same_push hxy hx (P := P) d (i + 1) (R ++ [(x.subs[i], y.subs[i])]) [] (by omega) (by simp; omega) (fun _ => rfl) (by
      rw [hd] at h
      simpa using h)
    have ht : List.take R.length (pairsR R ++ Z) = pairsR R := by rw [List.take_append_of_le_length (by rw [pairsR_len]; exact Nat.le_refl _), List.take_of_length_le (by rw [pairsR_len]; exact Nat.le_refl _)]
    have hp : pairsR (R ++ [(x.subs[i], y.subs[i])]) = pairsR R ++ [x.subs[i].cells ++ y.subs[i].cells] := by rw [pairsR_append]; rfl
    have hw := wrap_s h1 hx
    rw [List.append_nil, hp] at ih
    simp [h1, h2, hw, fits112 (show R.length + 1 ≤ 1099511627776 by omega), ht, pairsR_len] at ih ⊢
    rw [Tm.cells_eq x.subs[i]] at ih
    exact ih

theorem same_m : ∀ (n : Nat) (R : List (Tm × Tm)) (Z : List (List AV)), wL (R.map Prod.fst) ≤ n → n < 1099511627776 →
    Gets (wq34_0 R.length (pairsR R ++ Z)) (Tells (∀ p ∈ R, p.1 = p.2)) := by
  intro n
  induction n with
  | zero =>
    intro R Z hn _
    have : R = [] := by
      have := wL_len (R.map Prod.fst)
      exact List.length_eq_zero_iff.1 (by simp at this; omega)
    subst this
    refine wq34_0_step _ _ ?_
    simp [tells_bool]
  | succ n ih =>
    intro R Z hn hN
    rcases List.eq_nil_or_concat R with rfl | ⟨R0, p, rfl⟩
    · refine wq34_0_step _ _ ?_
      simp [tells_bool]
    · rw [List.concat_eq_append] at *
      obtain ⟨x, y⟩ := p
      have hwx := x.w_eq
      simp only [List.map_append, List.map_cons, List.map_nil, wL_append, wL_cons, wL_nil] at hn
      have hl0 := wL_len (R0.map Prod.fst)
      rw [List.length_map] at hl0
      have hls := wL_len x.subs
      refine wq34_0_step _ _ ?_
      have e1 : (R0 ++ [(x, y)]).length = R0.length + 1 := by simp
      have hw1 : IntKind.wrap .i64 (R0.length : Int) = R0.length := wrapN (by omega)
      have g : (pairsR (R0 ++ [(x, y)]) ++ Z)[R0.length]? = some (.int .i64 x.kind :: .int .i64 x.num :: .str x.str :: .sl (rowsT x.subs) :: y.cells) := by
        rw [List.getElem?_append_left (by rw [pairsR_len]; simp), pairsR_get]; simp; rw [Tm.cells_eq x]; rfl
      have e3 : pairsR (R0 ++ [(x, y)]) ++ Z = pairsR R0 ++ ((x.cells ++ y.cells) :: Z) := by rw [pairsR_append, List.append_assoc]; rfl
      have hq : (∀ p ∈ R0 ++ [(x, y)], p.1 = p.2) ↔ ((∀ p ∈ R0, p.1 = p.2) ∧ x = y) := by simp [or_imp, forall_and]
      have hxy : x = y ↔ (x.kind = y.kind ∧ x.num = y.num ∧ x.str = y.str ∧ x.subs = y.subs) := by
        constructor
        · rintro rfl; exact ⟨rfl, rfl, rfl, rfl⟩
        · rintro ⟨h1, h2, h3, h4⟩; rw [← Tm.eta x, ← Tm.eta y, h1, h2, h3, h4]
      rw [propext hq]
      have hno : ¬ (x.kind = y.kind ∧ x.num = y.num ∧ x.str = y.str ∧ x.subs = y.subs) → Tells ((∀ p ∈ R0, p.1 = p.2) ∧ x = y) (.bool false) := fun h => tells_bool.2 ⟨fun e => (by cases e), fun h' => absurd (hxy.1 h'.2) h⟩
      simp only [e3] at g ⊢
      simp [e1, hw1, g]
      by_cases h1 : x.kind = y.kind
      · by_cases h2 : x.num = y.num
        · by_cases h3 : x.str = y.str
          · by_cases h4 : x.subs.length = y.subs.length
            · have hsub : (∀ p ∈ x.subs.zip y.subs, p.1 = p.2) ↔ x = y := by
                rw [zip_eq _ _ h4, hxy]; simp [h1, h2, h3]
              have c1 : (x.kind != y.kind) = false := by simp [h1]
              have c2 : (x.num != y.num) = false := by simp [h2]
              have c3 : (x.str == y.str) = true := by simp [h3]
              have c4 : ((x.subs.length : Int) != (y.subs.length : Int)) = false := by simp [h4]
              have eall : (∀ (a b : Tm), (a, b) ∈ R0 → a = b) ↔ (∀ p ∈ R0, p.1 = p.2) := ⟨fun h p hp => h p.1 p.2 hp, fun h a b hp => h (a, b) hp⟩
              rw [c1, c2, c3, c4]
              simp only [cond_false, cond_true]
              rcases Nat.eq_zero_or_pos x.subs.length with hz | hp
              · have hr := ih R0 ((x.cells ++ y.cells) :: Z) (by omega) (by omega)
                have hx0 : x.subs = [] := List.length_eq_zero_iff.1 hz
                have hxy' : x = y := hsub.1 (by rw [hx0]; simp)
                have c5 : ((x.subs.length : Int) == 0) = true := by simp [hz]
                rw [c5, propext (show ((∀ (a b : Tm), (a, b) ∈ R0 → a = b) ∧ x = y) ↔ (∀ p ∈ R0, p.1 = p.2) from ⟨fun h => eall.1 h.1, fun h => ⟨eall.2 h, hxy'⟩⟩)]
                exact hr
              · have c5 : ((x.subs.length : Int) == 0) = false := by rw [beqD]; exact decide_eq_false (by omega)
                rw [c5]
                simp only [cond_false]
                have hm : (R0 ++ x.subs.zip y.subs).map Prod.fst = R0.map Prod.fst ++ x.subs := by rw [List.map_append, List.map_fst_zip (by omega)]
                have hr := ih (R0 ++ x.subs.zip y.subs) [] (by rw [hm, wL_append]; omega) (by omega)
                rw [List.append_nil] at hr
                have hP : (∀ p ∈ R0 ++ x.subs.zip y.subs, p.1 = p.2) ↔ ((∀ (a b : Tm), (a, b) ∈ R0 → a = b) ∧ x = y) := by
                  rw [← hsub, eall]; simp only [List.mem_append, or_imp, forall_and]
                rw [propext hP] at hr
                exact same_push h4 (by omega) x.subs.length 0 R0 _ (by omega) (by omega) (fun h => by omega) (by rw [List.drop_zero]; exact hr)
            · have h4' : ¬ ((x.subs.length : Int) = (y.subs.length : Int)) := by omega
              simp [h1, h2, h3, h4', bneD]
              simpa using hno fun h => h4 (by rw [h.2.2.2])
          · have h3' : (x.str == y.str) = false := by simpa using h3
            simp [h1, h2, h3', bneD]
            simpa using hno fun h => h3 h.2.2.1
        · simp [h1, h2, bneD]
          simpa using hno fun h => h2 h.2.1
      · simp [h1, bneD]
        simpa using hno fun h => h1 h.1

theorem same_ev {a : Tm} (h : a.w < 1099511627776) (b : Tm) : Gets (EVs (EV cfg) 34 [a.av, b.av]) (Tells (a = b)) := by
  have := same_m _ [(a, b)] [] (Nat.le_refl _) (by simpa using h)
  rw [List.append_nil] at this
  rw [Tm.av, Tm.av, Tm.cells_eq a, Tm.cells_eq b]
  refine term_Same_run _ _ _ _ _ _ _ _ ?_
  have e : pairsR [(a, b)] = [[AV.int .i64 a.kind, .int .i64 a.num, .str a.str, .sl (rowsT a.subs), .int .i64 b.kind, .int .i64 b.num, .str b.str, .sl (rowsT b.subs)]] := by
    simp only [pairsR, List.map_cons, List.map_nil, Tm.cells_eq]; rfl
  have e2 : (∀ p ∈ [(a, b)], p.1 = p.2) ↔ a = b := by simp
  rw [e, propext e2] at this
  exact this
end Go.Proofs.Ytpbfmaodnihpeaa
end

section
/-
  tenurelaw03.OrderKnown, worked out by the kernel, call by call; printed by a program of ours. Own work.
  What is proved: calls with known arguments, their values; no condition.
-/
namespace Go.Proofs.Ytpbfmaodnihpeaa
open Go.Av
set_option maxRecDepth 1000000
/- 702 operations -/
theorem orderKnown_k0 : EVs (EV cfg) 18 [] = some (.bool true) := factS (.nil) 1000 1000 (by kernel_rfl)
/- 394 operations -/
theorem orderKnown_k1 : EVs (EV cfg) 15 [.agg [.int .i64 9, .int .i64 0, .str [], .sl [[.int .i64 1, .int .i64 1, .str [], .sl []], [.int .i64 9, .int .i64 0, .str [], .sl [[.int .i64 1, .int .i64 2, .str [], .sl []], [.int .i64 8, .int .i64 0, .str [], .sl []]]]]], .agg [.int .i64 9, .int .i64 0, .str [], .sl [[.int .i64 1, .int .i64 1, .str [], .sl []], [.int .i64 9, .int .i64 0, .str [], .sl [[.int .i64 1, .int .i64 3, .str [], .sl []], [.int .i64 8, .int .i64 0, .str [], .sl []]]]]]] = some (.int .i64 (-1)) := factS (.nil) 1000 1000 (by kernel_rfl)
/- 378 operations -/
theorem orderKnown_k2 : EVs (EV cfg) 26 [.sl [[.int .i64 1, .int .i64 1, .str [], .sl []], [.int .i64 1, .int .i64 3, .str [], .sl []], [.int .i64 1, .int .i64 5, .str [], .sl []]], .agg [.int .i64 1, .int .i64 4, .str [], .sl []]] = some (.tup [.int .i64 2, .bool false]) := factS (.nil) 1000 1000 (by kernel_rfl)
/- 344 operations -/
theorem orderKnown_k3 : EVs (EV cfg) 67 [.sl [[.int .i64 1, .int .i64 1, .str [], .sl []], [.int .i64 2, .int .i64 0, .str [97], .sl []], [.int .i64 2, .int .i64 0, .str [98], .sl []], [.int .i64 7, .int .i64 0, .str [], .sl []]], .sl [[.int .i64 1, .int .i64 1, .str [], .sl []], [.int .i64 2, .int .i64 0, .str [97], .sl []], [.int .i64 2, .int .i64 0, .str [98], .sl []], [.int .i64 7, .int .i64 0, .str [], .sl []]]] = some (.bool true) := factS (.nil) 1000 1000 (by kernel_rfl)
/- 3884 operations -/
theorem orderKnown_ev : EVs (EV cfg) 5 [] = some (.bool true) := factS (.consS orderKnown_k0 (.consS orderKnown_k1 (.consS orderKnown_k2 (.consS orderKnown_k3 (.nil))))) 1000 1000 (by kernel_rfl)
end Go.Proofs.Ytpbfmaodnihpeaa
end

section
/-
  OrderTotal answers true. Own work.
  What is proved: a contract of the abstract evaluation; no condition but on a term's weight.
-/
namespace Go.Av
theorem numC_rng (a b : Int) : -1 ≤ numC a b ∧ numC a b ≤ 1 := by unfold numC; split <;> (try split) <;> omega
theorem strC_rng (a b : List UInt8) : -1 ≤ strC a b ∧ strC a b ≤ 1 := by unfold strC; split <;> (try split) <;> omega
theorem cmpE_rng : ∀ (l l' : List Tm), (∀ a ∈ l, ∀ b, -1 ≤ cmpT a b ∧ cmpT a b ≤ 1) → -1 ≤ cmpE l l' ∧ cmpE l l' ≤ 1
  | [], [], _ => by rw [cmpE_nil]; omega
  | [], _ :: _, _ => by rw [cmpE_nil_cons]; omega
  | _ :: _, [], _ => by rw [cmpE_cons_nil]; omega
  | a :: l, b :: l', h => by
    rw [cmpE_cons]
    split
    · exact h a (by simp) b
    · exact cmpE_rng l l' fun x hx => h x (by simp [hx])
theorem cmpT_rng (a : Tm) : ∀ b, -1 ≤ cmpT a b ∧ cmpT a b ≤ 1 := by
  induction a using Tm.ind with
  | _ k n s l ih =>
    intro b
    obtain ⟨k', n', s', l'⟩ := b
    have hL : -1 ≤ cmpL l l' ∧ cmpL l l' ≤ 1 := by
      unfold cmpL
      split
      · exact numC_rng _ _
      · exact cmpE_rng l l' ih
    rw [cmpT_eq]
    repeat' split
    all_goals first | exact numC_rng _ _ | exact strC_rng _ _ | exact hL | omega
theorem chk_parts {t : Tm} (h : t.chk = 0) : t.parts = true := by
  unfold Tm.chk chkS at h
  split at h
  · rename_i hp; simpa [partsL] using hp
  · cases h
end Go.Av
namespace Go.Proofs.Ytpbfmaodnihpeaa
open Go.Av

theorem orderTotal_ev {a b c : Tm} (ha : a.w < 1099511627776) (hb : b.w < 1099511627776) (hc : c.w < 1099511627776) : EVs (EV cfg) 7 [a.av, b.av, c.av] = some (.bool true) := by
  have oa := ok_of_w a ha
  have ob := ok_of_w b hb
  have oc := ok_of_w c hc
  obtain ⟨_, l1, b1, rfl⟩ := large_ev a oa 300
  obtain ⟨_, l2, b2, rfl⟩ := large_ev b ob 300
  obtain ⟨_, l3, b3, rfl⟩ := large_ev c oc 300
  have x := compare_ev oa ob
  have y := compare_ev ob oc
  have z := compare_ev oa oc
  have x' := compare_ev ob oa
  have aa := compare_ev oa oa
  have ca := check_ev ha
  have cb := check_ev hb
  obtain ⟨_, sm, sb, rfl, hsb⟩ := same_ev ha b
  have kn := orderKnown_ev
  rw [cmpT_neg a b] at x'
  rw [cmpT_self] at aa
  have r := cmpT_rng a b
  have C := cmpT_C3 a b c
  have hw : IntKind.wrap .i64 (0 - -cmpT a b) = cmpT a b := by rw [wrap64 (by omega) (by omega)]; omega
  have hs : a.chk = 0 → b.chk = 0 → (cmpT a b = 0 ↔ sb = true) := fun h1 h2 => by
    rw [hsb]
    exact ⟨cmpT_alike a (chk_parts h1) b (chk_parts h2), fun h => by rw [h, cmpT_self]⟩
  generalize cmpT a b = X at *
  generalize cmpT b c = Y at *
  generalize cmpT a c = Z at *
  apply Gets.get
  rw [Tm.av, Tm.av, Tm.av, Tm.cells_eq a, Tm.cells_eq b, Tm.cells_eq c]
  refine tenurelaw03_OrderTotal_run _ _ _ _ _ _ _ _ _ _ _ _ ?_
  simp only [← Tm.cells_eq, agg_cells, kn, l1, l2, l3, x, y, z, x', aa, ca, cb, sm, kOptSome, kBool_bool, kInt_int]
  simp only [hw]
  obtain ⟨C1, C2, C3, -, -, -⟩ := C
  have r1 := r.1
  have r2 := r.2
  cases b1
  case true => simp
  cases b2
  case true => simp
  cases b3
  case true => simp
  have k1 : decide (X ≥ -1) = true := decide_eq_true r1
  have k2 : decide (X ≤ 1) = true := decide_eq_true r2
  have e0 : (X != X) = false := by simp
  have e1 : ((0 : Int) != 0) = false := rfl
  simp only [cond_false, cond_true, e0, e1, k1, k2]
  have fin : Gets (bif a.chk == 0 then bif b.chk == 0 then bif !((X == 0) == sb) then some (AV.bool false) else some (AV.bool true) else some (AV.bool true) else some (AV.bool true)) (· = AV.bool true) := by
    by_cases h1 : a.chk = 0
    · by_cases h2 : b.chk = 0
      · have := hs h1 h2
        by_cases h3 : X = 0
        · have : sb = true := this.1 h3
          simp [h1, h2, h3, this]
        · have : sb = false := by cases sb with | true => exact absurd (this.2 rfl) h3 | false => rfl
          have h3' : (X == 0) = false := by rw [beqD]; exact decide_eq_false h3
          simp [h1, h2, h3', this]
      · simp [h1, h2, beqD]
    · simp [h1, beqD]
  by_cases h1 : X ≤ 0
  · by_cases h2 : Y ≤ 0
    · have z2 : ¬ Z > 0 := by have := C1 h1 h2; omega
      by_cases h3 : Z = 0
      · have x3 : ¬ X < 0 := fun h => by have := C2 h h2; omega
        have y3 : ¬ Y < 0 := fun h => by have := C3 h1 h; omega
        have h3' : (Z == 0) = true := by rw [h3]; rfl
        simp only [decide_eq_true h1, decide_eq_true h2, decide_eq_false z2, h3', decide_eq_false x3, decide_eq_false y3, cond_true, cond_false]
        exact fin
      · have h3' : (Z == 0) = false := by rw [beqD]; exact decide_eq_false h3
        simp only [decide_eq_true h1, decide_eq_true h2, decide_eq_false z2, h3', cond_true, cond_false]
        exact fin
    · simp only [decide_eq_true h1, decide_eq_false h2, cond_true, cond_false]
      exact fin
  · simp only [decide_eq_false h1, cond_true, cond_false]
    exact fin
end Go.Proofs.Ytpbfmaodnihpeaa
end

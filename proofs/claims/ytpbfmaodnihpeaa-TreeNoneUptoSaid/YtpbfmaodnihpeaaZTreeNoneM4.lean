/-
  Parts of the proof of TreeNoneUptoSaid, put together: the abstract evaluation and its contracts. Own work.
  What is proved: each lemma as it stands; no condition.
-/
import Derived.Test.YtpbfmaodnihpeaaZTreeNoneM3

section
/-
  What is left of the functions' evaluation at arguments with variables, printed by a program of ours (resid2.py) and checked by the kernel.
  What is proved: each equation as it stands; no condition.
-/
namespace Go.Proofs.Ytpbfmaodnihpeaa
open Go.Av
set_option maxRecDepth 100000
set_option maxHeartbeats 0

noncomputable def Lq10_0 : Den := evC cfg (EV cfg) 10 none 0 (sub (bodyOf Try.f10) [1, 1, 0, 1, 0, 0])
noncomputable def Aq10_0 : Ex × List AV × AH → Option AV := kAft (Cfg.keepOut cfg 10 3) (kRun cfg (EV cfg) (kfN cfg 6) 10 none 0 (kFinS cfg (Cfg.lift cfg 10 0) Try.f10.results.toList) ([.block 0, .seq (sub (bodyOf Try.f10) [1, 1, 1])]))
noncomputable def Wq10_0 : List AV × AH → Option AV := fun p => kOpt (LOOP 0 (some [1, 3, 4]) ([]) Lq10_0 p) Aq10_0
noncomputable abbrev wq10_0 (kk : Int) (nk : Int) (sk : List UInt8) (lk : List (List AV)) : Option (AV) := Wq10_0  (((fx 131 [(1, AV.ptr (0 : Nat) (0 : Nat) (0 : Nat)), (3, AV.ms (1 : Nat) (0 : Nat) (2 : Nat)), (4, AV.int IntKind.i64 (0 : Int))]) : List AV), ([ABlk.rows false (4 : Nat) [[AV.int IntKind.i64 kk, AV.int IntKind.i64 nk, AV.str sk, AV.sl lk]], ABlk.rows false (1 : Nat) [[AV.nilP], [AV.ptr (2 : Nat) (0 : Nat) (0 : Nat)]], ABlk.rows false (4 : Nat) [[AV.bool false, AV.nilP, AV.int IntKind.i64 (0 : Int), AV.int IntKind.i64 (0 : Int)]]] : AH))
noncomputable abbrev wq10_0a (kk : Int) (nk : Int) (sk : List UInt8) (lk : List (List AV)) : Option (AV) := Wq10_0  (((fx 131 [(1, AV.ptr (0 : Nat) (0 : Nat) (0 : Nat)), (3, AV.ms (1 : Nat) (0 : Nat) (2 : Nat)), (4, AV.int IntKind.i64 (1 : Int))]) : List AV), ([ABlk.rows false (4 : Nat) [[AV.int IntKind.i64 kk, AV.int IntKind.i64 nk, AV.str sk, AV.sl lk]], ABlk.rows false (1 : Nat) [[AV.nilP], [AV.ptr (2 : Nat) (0 : Nat) (0 : Nat)]], ABlk.rows false (4 : Nat) [[AV.bool false, AV.nilP, AV.int IntKind.i64 (0 : Int), AV.int IntKind.i64 (0 : Int)]]] : AH))
noncomputable abbrev wq10_0b (kk : Int) (nk : Int) (sk : List UInt8) (lk : List (List AV)) : Option (AV) := Wq10_0  (((fx 131 [(1, AV.ptr (0 : Nat) (0 : Nat) (0 : Nat)), (3, AV.ms (1 : Nat) (0 : Nat) (2 : Nat)), (4, AV.int IntKind.i64 (2 : Int))]) : List AV), ([ABlk.rows false (4 : Nat) [[AV.int IntKind.i64 kk, AV.int IntKind.i64 nk, AV.str sk, AV.sl lk]], ABlk.rows false (1 : Nat) [[AV.nilP], [AV.ptr (2 : Nat) (0 : Nat) (0 : Nat)]], ABlk.rows false (4 : Nat) [[AV.bool false, AV.nilP, AV.int IntKind.i64 (0 : Int), AV.int IntKind.i64 (0 : Int)]]] : AH))
theorem tenurelaw11_TreeNone_run (kk : Int) (nk : Int) (sk : List UInt8) (lk : List (List AV)) {P : AV → Prop} (h : Gets (wq10_0 kk nk sk lk) P) : Gets (EVs (EV cfg) 10 ([AV.agg [AV.int IntKind.i64 kk, AV.int IntKind.i64 nk, AV.str sk, AV.sl lk]] : List AV)) P :=
  Gets.ev (fun _ h => funS rfl rfl Try.func10 rfl h) (Gets.eq (by kernel_rfl) h)
theorem wq10_0_step (kk : Int) (nk : Int) (sk : List UInt8) (lk : List (List AV)) {P : AV → Prop} (h : Gets (kOpt (EVs (EV cfg) 13 [.agg [.int .i64 kk, .int .i64 nk, .str sk, .sl lk], .int .i64 (100 : Int)]) fun (v : AV) => kBool v fun (b : Bool) => bif !b then wq10_0a kk nk sk lk else kOpt 
  (EVs (EV cfg) 36 []) fun (v : AV) => kBool v fun (b : Bool) => some (.bool b)) P) : Gets (wq10_0 kk nk sk lk) P :=
  Gets.ev (fun _ h => loop_step (cfg := cfg) (f := 10) (rd := none) (bs := 0) h) (Gets.eq (by kernel_rfl) h)
theorem wq10_0a_step (kk : Int) (nk : Int) (sk : List UInt8) (lk : List (List AV)) {P : AV → Prop} (h : Gets (kOpt (EVs (EV cfg) 13 [.agg [.int .i64 kk, .int .i64 nk, .str sk, .sl lk], .int .i64 (100 : Int)]) fun (v : AV) => kBool v fun (b : Bool) => bif !b then wq10_0b kk nk sk lk else kOpt 
  (EVs (EV cfg) 36 []) fun (v : AV) => kBool v fun (b : Bool) => some (.bool b)) P) : Gets (wq10_0a kk nk sk lk) P :=
  Gets.ev (fun _ h => loop_step (cfg := cfg) (f := 10) (rd := none) (bs := 0) h) (Gets.eq (by kernel_rfl) h)
theorem wq10_0b_step (kk : Int) (nk : Int) (sk : List UInt8) (lk : List (List AV)) {P : AV → Prop} (h : Gets (kOpt (EVs (EV cfg) 36 []) fun (v : AV) => kBool v fun (b : Bool) => some (.bool b)) P) : Gets (wq10_0b kk nk sk lk) P :=
  Gets.ev (fun _ h => loop_step (cfg := cfg) (f := 10) (rd := none) (bs := 0) h) (Gets.eq (by kernel_rfl) h)
end Go.Proofs.Ytpbfmaodnihpeaa
end

section
/-
  TreeNone answers true. Own work.
  What is proved: a contract of the abstract evaluation; no condition but on a term's weight.
-/
namespace Go.Proofs.Ytpbfmaodnihpeaa
open Go.Av
set_option maxRecDepth 1000000
theorem treeAwake_ev : EVs (EV cfg) 36 [] = some (.bool true) := factS (.nil) 1000 1000 (by kernel_rfl)
theorem treeNone_ev {k : Tm} (h : k.w < 1099511627776) : EVs (EV cfg) 10 [k.av] = some (.bool true) := by
  obtain ⟨_, l1, b1, rfl⟩ := large_ev k (ok_of_w k h) 100
  obtain ⟨kk, nk, sk, lk⟩ := k
  rw [Tm.av_mk] at l1 ⊢
  apply Gets.get
  refine tenurelaw11_TreeNone_run _ _ _ _ ?_
  refine wq10_0_step _ _ _ _ ?_
  rw [l1, treeAwake_ev]
  cases b1 with
  | true => simp
  | false =>
    simp
    refine wq10_0a_step _ _ _ _ ?_
    rw [l1]
    simp
    refine wq10_0b_step _ _ _ _ ?_
    rw [treeAwake_ev]
    simp
end Go.Proofs.Ytpbfmaodnihpeaa
end

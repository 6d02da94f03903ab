/-
  A region that draws its order. Own work.
  What is proved: whatever order is drawn, it ends as the abstract evaluation in the text's order says, if the calls do; no condition.
-/
import Derived.Test.YtpbfmaodnihpeaaAvLoc2
namespace Go.Av
variable {C C' C1 C2 : Claims} {μ μ' μ1 : MMap} {H H' H1 H2 : AH} {w w' w1 : World} {P : Program}

/-! ### lengths -/
theorem impRes_len {at_ k : Nat} {r r' : AV} (h : impRes (some at_) k r H = some (r', H')) : H'.length = k := by
  unfold impRes at h
  split at h
  · simp only at h
    split at h
    · rename_i hb
      cases h
      exact Nat.eq_of_beq_eq_true hb
    · cases h
  · cases h

theorem evOper_len {cfg : Cfg} {cf : Orac} {frz : Bool} {at_ : Nat} {o : Oper} {x : Operand → AV} {r : AV} (he : evOper cfg cf frz (some at_) o x H = some (r, H')) : H'.length = H.length := by
  have core : ∀ {x : Operand → AV} {H : AH}, evOper cfg cf false (some at_) o x H = some (r, H') → H'.length = H.length := by
    intro x H he
    cases hw : (fpOper cfg false at_ o x).wall with
    | false =>
      obtain ⟨H2', e1, e2⟩ := evOper_local (H2 := H) he hw rfl (fun _ _ => rfl) (fun _ _ => rfl)
      rw [he] at e1
      cases e1
      exact e2.1
    | true =>
      obtain ⟨dst, op, ty, pos, after, guard⟩ := o
      unfold evOper at he
      simp only [Bool.false_eq_true, if_false] at he
      unfold fpOper at hw
      simp only [Bool.false_eq_true, if_false] at hw
      cases op with
      | call c =>
        obtain ⟨callee, args, argTypes⟩ := c
        cases callee with
        | value f =>
          simp only at *
          obtain ⟨t, ht, he⟩ := Option.bind_eq_some_iff.1 he
          simp only [ht] at hw
          cases ht1 : t.1 with
          | y id =>
            rw [ht1] at he
            simp only [callT] at he
            obtain ⟨q, _, he⟩ := Option.bind_eq_some_iff.1 he
            exact impRes_len he
          | f g =>
            rw [ht1] at he hw
            simp only [callT, fpCall] at he hw
            cases hm : cfg.mode g with
            | scal => simp [hm] at hw
            | pfrz => simp [hm, FP.none] at hw
            | pown => simp [hm] at hw
            | imp =>
              simp only [hm] at he
              obtain ⟨q, _, he⟩ := Option.bind_eq_some_iff.1 he
              exact impRes_len he
            | ifrz =>
              simp only [hm] at he
              obtain ⟨q, _, he⟩ := Option.bind_eq_some_iff.1 he
              exact impRes_len he
        | invoke rv nm => simp only [evOp] at he; cases he
        | builtin b =>
          simp only [evOp] at he
          simp only at hw
          generalize args.toList = al at *
          generalize argTypes.toList = tl at *
          split at he
          · rename_i hb; cases hb; simp at hw
          · rename_i hb; cases hb; simp at hw
          · unfold aCopy at he
            split at he
            · split at he
              · split at he
                · split at he
                  · cases he; simp
                  · cases he
                · cases he
              · cases he
            · cases he
          · obtain ⟨H1, h1, e⟩ := Option.map_eq_some_iff.1 he
            cases e
            unfold aClear at h1
            split at h1
            · cases h1; rfl
            · split at h1
              · split at h1
                · cases h1; simp
                · cases h1
              · cases h1
            · cases h1
          · rename_i hb; cases hb; simp [FP.none] at hw
          · rename_i hb; cases hb; simp [FP.none] at hw
          · cases he
      | _ => simp [FP.none] at hw
  cases frz with
  | false => exact core he
  | true =>
    have he' : evOper cfg cf false (some at_) o (fun a => (x a).frz (o.op.operands.toList.flatMap fun a => (x a).msIds) H) (frzBlks (o.op.operands.toList.flatMap fun a => (x a).msIds) H) = some (r, H') := by
      unfold evOper at he ⊢
      simpa using he
    rw [core he', frzBlks_len]

/-! ### the last one that does something -/
def lastW (p : Nat → Bool) : Nat → Option Nat
  | 0 => none
  | n + 1 => if p n then some n else lastW p n

theorem lastW_congr {p q : Nat → Bool} : ∀ {n : Nat}, (∀ j, j < n → p j = q j) → lastW p n = lastW q n
  | 0, _ => rfl
  | n + 1, h => by rw [lastW, lastW, h n (Nat.lt_succ_self n), lastW_congr fun j hj => h j (Nat.lt_succ_of_lt hj)]
theorem lastW_none {p : Nat → Bool} : ∀ {n : Nat}, (∀ j, j < n → p j = false) → lastW p n = none
  | 0, _ => rfl
  | n + 1, h => by rw [lastW, h n (Nat.lt_succ_self n), if_neg (by simp), lastW_none fun j hj => h j (Nat.lt_succ_of_lt hj)]
theorem lastW_at {p : Nat → Bool} {i : Nat} (hi : p i = true) : ∀ {n : Nat}, i < n → (∀ j, j < n → i < j → p j = false) → lastW p n = some i
  | 0, h, _ => by omega
  | n + 1, h, hj => by
    rw [lastW]
    by_cases e : i = n
    · subst e; rw [if_pos hi]
    · rw [hj n (Nat.lt_succ_self n) (by omega), if_neg (by simp), lastW_at hi (by omega) fun j h1 h2 => hj j (Nat.lt_succ_of_lt h1) h2]

/-! ### what comes ahead of what -/
def binds (o : Oper) (m : Nat) : Prop := ∃ e ∈ o.after.toList, Region.binds .any e = true ∧ e.on = m

theorem fold_anc (acc : List Nat) : ∀ (l : List Edge) (s i : Nat), (l.foldl (fun s e => if Region.binds .any e then s ||| 2 ^ e.on ||| acc.getD e.on 0 else s) s).testBit i = true →
    s.testBit i = true ∨ ∃ e ∈ l, Region.binds .any e = true ∧ (e.on = i ∨ (acc.getD e.on 0).testBit i = true)
  | [], s, i, h => .inl h
  | e :: l, s, i, h => by
    rw [List.foldl_cons] at h
    rcases fold_anc acc l _ i h with h | ⟨e', he', hb⟩
    · split at h
      · rename_i hb
        rw [Nat.testBit_or, Nat.testBit_or, Bool.or_eq_true, Bool.or_eq_true] at h
        rcases h with (h | h) | h
        · exact .inl h
        · rw [Nat.testBit_two_pow] at h
          exact .inr ⟨e, List.mem_cons_self .., hb, .inl (by simpa using h)⟩
        · exact .inr ⟨e, List.mem_cons_self .., hb, .inr h⟩
      · exact .inl h
    · exact .inr ⟨e', List.mem_cons_of_mem _ he', hb⟩

theorem ancs_prefix : ∀ (l : List Oper) (acc : List Nat), ∃ t, ancs acc l = acc ++ t ∧ t.length = l.length
  | [], acc => ⟨[], by simp [ancs], rfl⟩
  | o :: l, acc => by
    obtain ⟨t, h1, h2⟩ := ancs_prefix l (acc ++ [ancOf acc o])
    exact ⟨ancOf acc o :: t, by rw [ancs, h1]; simp, by simp [h2]⟩

theorem ancs_get : ∀ (l : List Oper) (acc : List Nat) (j : Nat) (o : Oper), l[j]? = some o → (ancs acc l).getD (acc.length + j) 0 = ancOf ((ancs acc l).take (acc.length + j)) o
  | [], acc, j, o, h => by simp at h
  | o' :: l, acc, j, o, h => by
    cases j with
    | zero =>
      simp at h; subst h
      obtain ⟨t, h1, h2⟩ := ancs_prefix l (acc ++ [ancOf acc o'])
      rw [ancs, h1]
      simp
    | succ j =>
      have := ancs_get l (acc ++ [ancOf acc o']) j o (by simpa using h)
      rw [ancs]
      simp only [List.length_append, List.length_cons, List.length_nil] at this
      rw [show acc.length + (j + 1) = acc.length + (0 + 1) + j by omega]
      exact this

theorem anc_spec {ops : Array Oper} (hb : backward 0 ops.toList = true) {j i : Nat} {o : Oper} (ho : ops[j]? = some o) (h : ((ancs [] ops.toList).getD j 0).testBit i = true) : ∃ m, binds o m ∧ m < j ∧ (m = i ∨ ((ancs [] ops.toList).getD m 0).testBit i = true) := by
  have hback : ∀ (l : List Oper) (k j : Nat) (o : Oper), backward k l = true → l[j]? = some o → ∀ e ∈ o.after.toList, Region.binds .any e = true → e.on < k + j := by
    intro l
    induction l with
    | nil => intro k j o _ h; simp at h
    | cons o' l ih =>
      intro k j o hb hj e he hbe
      rw [backward, Bool.and_eq_true] at hb
      cases j with
      | zero =>
        simp at hj; subst hj
        have := List.all_eq_true.1 hb.1 e he
        rw [hbe] at this
        simpa [Nat.blt_eq] using this
      | succ j =>
        have := ih (k + 1) j o hb.2 (by simpa using hj) e he hbe
        omega
  have ho' : ops.toList[j]? = some o := by rw [Array.getElem?_toList]; exact ho
  have hg := ancs_get ops.toList [] j o ho'
  simp only [List.length_nil, Nat.zero_add] at hg
  rw [hg] at h
  unfold ancOf at h
  rcases fold_anc _ _ _ _ h with h | ⟨e, he, hbe, h⟩
  · simp at h
  · have hlt : e.on < j := by have := hback ops.toList 0 j o hb ho' e he hbe; omega
    refine ⟨e.on, ⟨e, he, hbe, rfl⟩, hlt, ?_⟩
    rcases h with h | h
    · exact .inl h
    · right
      rw [List.getD_eq_getElem?_getD, List.getElem?_take_of_lt hlt, ← List.getD_eq_getElem?_getD] at h
      exact h
end Go.Av

/- Contracts of functions that the laws of this seat call: what each answers, for every input that its hypotheses name. -/
import Derived.Test.YthfnijlgmjkedaaGreatG3
import Derived.Test.YthfnijlgmjkedaaGreatG2
import Derived.Test.YthfnijlgmjkedaaGreatG5
import Derived.Test.YthfnijlgmjkedaaGreatG7
namespace Go.Proofs.YthfnijlgmjkedaaGreat
set_option maxRecDepth 100000
set_option maxHeartbeats 1000000
set_option linter.unusedVariables false
set_option linter.unusedSimpArgs false
open Go Go.Fx Go.Proofs.YthfnijlgmjkedaaGreat.Tab
section
variable {n a b : Int} {w : World}
theorem fleuronref27_coord_c : Ret Go.Proofs.Tryz.prog 66 #[iV n] w fun v w' => v = .bool (coordB n) ∧ w' = w := by
  refine enter Go.Proofs.Tryz.func66 rfl rfl rfl ?_
  refine W_sr rfl (s_as rfl (s_nil ?_))
  by_cases h0 : -268435455 ≤ n
  · refine W_sr rfl (s_mv rfl (s_cmp (c := true) rfl rfl (decide_eq_true h0) (s_mv rfl (s_g1 rfl (s_mv rfl (s_g1 rfl (s_leq rfl rfl (s_pk rfl (s_as rfl (s_nil ?_))))))))))
    exact W_ret ⟨_, rfl, by simp only [coordB, h0, decide_true, Bool.true_and]; rfl, rfl⟩
  · refine W_sr rfl (s_mv rfl (s_cmp (c := false) rfl rfl (decide_eq_false h0) (s_mv rfl (s_g0 rfl (s_g0 rfl (s_pk rfl (s_as rfl (s_nil ?_))))))))
    exact W_ret ⟨_, rfl, by simp only [coordB, h0, decide_false, Bool.false_and]; rfl, rfl⟩
theorem fleuronref27_code_c : Ret Go.Proofs.Tryz.prog 88 #[iV n] w fun v w' => v = .bool (codeB n) ∧ w' = w := by
  refine enter Go.Proofs.Tryz.func88 rfl rfl rfl ?_
  refine W_sr rfl (s_as rfl (s_nil ?_))
  by_cases h0 : 0 ≤ n
  · refine W_sr rfl (s_mv rfl (s_cmp (c := true) rfl rfl (decide_eq_true h0) (s_mv rfl (s_g1 rfl (s_mv rfl (s_g1 rfl (s_leq rfl rfl (s_pk rfl (s_as rfl (s_nil ?_))))))))))
    exact W_ret ⟨_, rfl, by simp only [codeB, h0, decide_true, Bool.true_and]; rfl, rfl⟩
  · refine W_sr rfl (s_mv rfl (s_cmp (c := false) rfl rfl (decide_eq_false h0) (s_mv rfl (s_g0 rfl (s_g0 rfl (s_pk rfl (s_as rfl (s_nil ?_))))))))
    exact W_ret ⟨_, rfl, by simp only [codeB, h0, decide_false, Bool.false_and]; rfl, rfl⟩
theorem fleuronref27_Size_c : Ret Go.Proofs.Tryz.prog 39 #[iV n] w fun v w' => v = .bool (sizeB n) ∧ w' = w := by
  refine enter Go.Proofs.Tryz.func39 rfl rfl rfl ?_
  refine W_sr rfl (s_as rfl (s_nil ?_))
  by_cases h0 : 1 ≤ n
  · refine W_sr rfl (s_mv rfl (s_cmp (c := true) rfl rfl (decide_eq_true h0) (s_mv rfl (s_g1 rfl (s_mv rfl (s_g1 rfl (s_leq rfl rfl (s_pk rfl (s_as rfl (s_nil ?_))))))))))
    exact W_ret ⟨_, rfl, by simp only [sizeB, h0, decide_true, Bool.true_and]; rfl, rfl⟩
  · refine W_sr rfl (s_mv rfl (s_cmp (c := false) rfl rfl (decide_eq_false h0) (s_mv rfl (s_g0 rfl (s_g0 rfl (s_pk rfl (s_as rfl (s_nil ?_))))))))
    exact W_ret ⟨_, rfl, by simp only [sizeB, h0, decide_false, Bool.false_and]; rfl, rfl⟩
theorem fleuronref27_char_c {x : Ch} : Ret Go.Proofs.Tryz.prog 38 #[chV x] w fun v w' => v = .bool (charB x) ∧ Ext w w' := by
  refine enter Go.Proofs.Tryz.func38 rfl rfl rfl ?_
  refine W_sr rfl (s_bx rfl (s_as rfl (s_nil ?_)))
  cases h0 : codeB x.code
  · refine W_sr rfl (s_fa E rfl rfl (s_ld E rfl rfl (bc0 rfl) (s_callp rfl rfl (Ret.eqv (fleuronref27_code_c) (congrArg Value.bool h0)) (s_mv rfl (s_g0 rfl (s_g0 rfl (s_g0 rfl (s_pk rfl (s_mv rfl (s_g0 rfl (s_g0 rfl (s_g0 rfl (s_pk rfl (s_mv rfl (s_g0 rfl (s_g0 rfl (s_g0 rfl (s_pk rfl (s_as rfl (s_nil ?_))))))))))))))))))))
    exact W_ret ⟨_, rfl, by simp only [charB, h0, Bool.false_and]; rfl, e1⟩
  cases h1 : coordB x.width
  · refine W_sr rfl (s_fa E rfl rfl (s_ld E rfl rfl (bc0 rfl) (s_callp rfl rfl (Ret.eqv (fleuronref27_code_c) (congrArg Value.bool h0)) (s_mv rfl (s_g1 rfl (s_fa E rfl rfl (s_g1 rfl (s_ld E rfl rfl (bc0 rfl) (s_g1 rfl (s_callp rfl rfl (Ret.eqv (fleuronref27_coord_c) (congrArg Value.bool h1)) (s_pk rfl (s_mv rfl (s_g0 rfl (s_g0 rfl (s_g0 rfl (s_pk rfl (s_mv rfl (s_g0 rfl (s_g0 rfl (s_g0 rfl (s_pk rfl (s_as rfl (s_nil ?_)))))))))))))))))))))))
    exact W_ret ⟨_, rfl, by simp only [charB, h0, h1, Bool.false_and, Bool.true_and]; rfl, e1⟩
  cases h2 : coordB x.height
  · refine W_sr rfl (s_fa E rfl rfl (s_ld E rfl rfl (bc0 rfl) (s_callp rfl rfl (Ret.eqv (fleuronref27_code_c) (congrArg Value.bool h0)) (s_mv rfl (s_g1 rfl (s_fa E rfl rfl (s_g1 rfl (s_ld E rfl rfl (bc0 rfl) (s_g1 rfl (s_callp rfl rfl (Ret.eqv (fleuronref27_coord_c) (congrArg Value.bool h1)) (s_pk rfl (s_mv rfl (s_g1 rfl (s_fa E rfl rfl (s_g1 rfl (s_ld E rfl rfl (bc0 rfl) (s_g1 rfl (s_callp rfl rfl (Ret.eqv (fleuronref27_coord_c) (congrArg Value.bool h2)) (s_pk rfl (s_mv rfl (s_g0 rfl (s_g0 rfl (s_g0 rfl (s_pk rfl (s_as rfl (s_nil ?_))))))))))))))))))))))))))
    exact W_ret ⟨_, rfl, by simp only [charB, h0, h1, h2, Bool.false_and, Bool.true_and]; rfl, e1⟩
  refine W_sr rfl (s_fa E rfl rfl (s_ld E rfl rfl (bc0 rfl) (s_callp rfl rfl (Ret.eqv (fleuronref27_code_c) (congrArg Value.bool h0)) (s_mv rfl (s_g1 rfl (s_fa E rfl rfl (s_g1 rfl (s_ld E rfl rfl (bc0 rfl) (s_g1 rfl (s_callp rfl rfl (Ret.eqv (fleuronref27_coord_c) (congrArg Value.bool h1)) (s_pk rfl (s_mv rfl (s_g1 rfl (s_fa E rfl rfl (s_g1 rfl (s_ld E rfl rfl (bc0 rfl) (s_g1 rfl (s_callp rfl rfl (Ret.eqv (fleuronref27_coord_c) (congrArg Value.bool h2)) (s_pk rfl (s_mv rfl (s_g1 rfl (s_fa E rfl rfl (s_g1 rfl (s_ld E rfl rfl (bc0 rfl) (s_g1 rfl (s_callp rfl rfl (fleuronref27_coord_c) (s_pk rfl (s_as rfl (s_nil ?_)))))))))))))))))))))))))))))
  exact W_ret ⟨_, rfl, by simp only [charB, h0, h1, h2, Bool.true_and]; rfl, e1⟩
theorem ruleB_no {x : Ru} (h : ¬ (codeB x.first = true ∧ codeB x.next = true ∧ 0 ≤ x.op ∧ x.op ≤ 4)) : ruleB x = false := by
  rw [Bool.eq_false_iff]; intro h2; apply h
  simp only [ruleB, Bool.and_eq_true, decide_eq_true_eq] at h2
  exact ⟨h2.1, h2.2.1, h2.2.2.1, h2.2.2.2.1⟩
theorem fleuronref27_rule_c {x : Ru} : Ret Go.Proofs.Tryz.prog 56 #[ruV x] w fun v w' => v = .bool (ruleB x) ∧ Ext w w' := by
  refine enter Go.Proofs.Tryz.func56 rfl rfl rfl ?_
  refine W_sr rfl (s_bx rfl (s_as rfl (s_nil ?_)))
  refine W_seq ?_
  by_cases h0 : x.op < 0
  · refine W_sr rfl (s_fa E rfl rfl (s_ld E rfl rfl (bc0 rfl) (s_cmp (c := true) rfl rfl (decide_eq_true h0) (s_mv rfl (s_g0 rfl (s_g0 rfl (s_g0 rfl (s_pk rfl (s_mv rfl (s_g0 rfl (s_g0 rfl (s_g0 rfl (s_g0 rfl (s_pk rfl (s_mv rfl (s_g0 rfl (s_g0 rfl (s_g0 rfl (s_g0 rfl (s_pk rfl (s_nil ?_)))))))))))))))))))))
    refine W_if rfl (fun _ => ?_) (fun h => by cases h)
    refine W_sr rfl (s_as rfl (s_nil ?_))
    exact W_ret ⟨_, rfl, by rw [ruleB_no (by omega)]; rfl, e1⟩
  by_cases h1 : 4 < x.op
  · refine W_sr rfl (s_fa E rfl rfl (s_ld E rfl rfl (bc0 rfl) (s_cmp (c := false) rfl rfl (decide_eq_false h0) (s_mv rfl (s_g1 rfl (s_fa E rfl rfl (s_g1 rfl (s_ld E rfl rfl (bc0 rfl) (s_g1 rfl (s_cmp (c := true) rfl rfl (decide_eq_true h1) (s_pk rfl (s_mv rfl (s_g0 rfl (s_g0 rfl (s_g0 rfl (s_g0 rfl (s_pk rfl (s_mv rfl (s_g0 rfl (s_g0 rfl (s_g0 rfl (s_g0 rfl (s_pk rfl (s_nil ?_))))))))))))))))))))))))
    refine W_if rfl (fun _ => ?_) (fun h => by cases h)
    refine W_sr rfl (s_as rfl (s_nil ?_))
    exact W_ret ⟨_, rfl, by rw [ruleB_no (by omega)]; rfl, e1⟩
  cases h2 : codeB x.first
  · refine W_sr rfl (s_fa E rfl rfl (s_ld E rfl rfl (bc0 rfl) (s_cmp (c := false) rfl rfl (decide_eq_false h0) (s_mv rfl (s_g1 rfl (s_fa E rfl rfl (s_g1 rfl (s_ld E rfl rfl (bc0 rfl) (s_g1 rfl (s_cmp (c := false) rfl rfl (decide_eq_false h1) (s_pk rfl (s_mv rfl (s_g1 rfl (s_fa E rfl rfl (s_g1 rfl (s_ld E rfl rfl (bc0 rfl) (s_g1 rfl (s_callp rfl rfl (Ret.eqv (fleuronref27_code_c) (congrArg Value.bool h2)) (s_g1 rfl (s_not rfl (s_pk rfl (s_mv rfl (s_g0 rfl (s_g0 rfl (s_g0 rfl (s_g0 rfl (s_pk rfl (s_nil ?_))))))))))))))))))))))))))))
    refine W_if rfl (fun _ => ?_) (fun h => by cases h)
    refine W_sr rfl (s_as rfl (s_nil ?_))
    exact W_ret ⟨_, rfl, by rw [ruleB_no (by simp [h2])]; rfl, e1⟩
  cases h3 : codeB x.next
  · refine W_sr rfl (s_fa E rfl rfl (s_ld E rfl rfl (bc0 rfl) (s_cmp (c := false) rfl rfl (decide_eq_false h0) (s_mv rfl (s_g1 rfl (s_fa E rfl rfl (s_g1 rfl (s_ld E rfl rfl (bc0 rfl) (s_g1 rfl (s_cmp (c := false) rfl rfl (decide_eq_false h1) (s_pk rfl (s_mv rfl (s_g1 rfl (s_fa E rfl rfl (s_g1 rfl (s_ld E rfl rfl (bc0 rfl) (s_g1 rfl (s_callp rfl rfl (Ret.eqv (fleuronref27_code_c) (congrArg Value.bool h2)) (s_g1 rfl (s_not rfl (s_pk rfl (s_mv rfl (s_g1 rfl (s_fa E rfl rfl (s_g1 rfl (s_ld E rfl rfl (bc0 rfl) (s_g1 rfl (s_callp rfl rfl (Ret.eqv fleuronref27_code_c (congrArg Value.bool h3)) (s_g1 rfl (s_not rfl (s_pk rfl (s_nil ?_))))))))))))))))))))))))))))))))
    refine W_if rfl (fun _ => ?_) (fun h => by cases h)
    refine W_sr rfl (s_as rfl (s_nil ?_))
    exact W_ret ⟨_, rfl, by rw [ruleB_no (by simp [h3])]; rfl, e1⟩
  refine W_sr rfl (s_fa E rfl rfl (s_ld E rfl rfl (bc0 rfl) (s_cmp (c := false) rfl rfl (decide_eq_false h0) (s_mv rfl (s_g1 rfl (s_fa E rfl rfl (s_g1 rfl (s_ld E rfl rfl (bc0 rfl) (s_g1 rfl (s_cmp (c := false) rfl rfl (decide_eq_false h1) (s_pk rfl (s_mv rfl (s_g1 rfl (s_fa E rfl rfl (s_g1 rfl (s_ld E rfl rfl (bc0 rfl) (s_g1 rfl (s_callp rfl rfl (Ret.eqv (fleuronref27_code_c) (congrArg Value.bool h2)) (s_g1 rfl (s_not rfl (s_pk rfl (s_mv rfl (s_g1 rfl (s_fa E rfl rfl (s_g1 rfl (s_ld E rfl rfl (bc0 rfl) (s_g1 rfl (s_callp rfl rfl (Ret.eqv fleuronref27_code_c (congrArg Value.bool h3)) (s_g1 rfl (s_not rfl (s_pk rfl (s_nil ?_))))))))))))))))))))))))))))))))
  refine W_if rfl (fun h => by cases h) (fun _ => W_skip ?_)
  have e : ruleB x = (if x.op = 0 then coordB x.value else codeB x.value) := by
    simp only [ruleB, h2, h3, show 0 ≤ x.op by omega, show x.op ≤ 4 by omega, decide_true, Bool.true_and]
  rw [e]
  by_cases h0 : x.op = 0
  · rw [if_pos h0]
    cases h1 : coordB x.value
    · refine W_sr rfl (s_fa E rfl rfl (s_ld E rfl rfl (bc0 rfl) (s_cmp (c := true) rfl rfl (decide_eq_true h0) (s_mv rfl (s_g1 rfl (s_fa E rfl rfl (s_g1 rfl (s_ld E rfl rfl (bc0 rfl) (s_g1 rfl (s_callp rfl rfl (Ret.eqv fleuronref27_coord_c (congrArg Value.bool h1)) (s_pk rfl (s_mv rfl (s_g1 rfl (s_fa E rfl rfl (s_g1 rfl (s_ld E rfl rfl (bc0 rfl) (s_g1 rfl (s_cmp (c := false) rfl rfl (by simp [h0]) (s_g1 rfl (s_mv rfl (s_g0 rfl (s_g0 rfl (s_g0 rfl (s_g1 rfl (s_pk rfl (s_pk rfl (s_as rfl (s_nil ?_))))))))))))))))))))))))))))
      exact W_ret ⟨_, rfl, rfl, e1⟩
    · refine W_sr rfl (s_fa E rfl rfl (s_ld E rfl rfl (bc0 rfl) (s_cmp (c := true) rfl rfl (decide_eq_true h0) (s_mv rfl (s_g1 rfl (s_fa E rfl rfl (s_g1 rfl (s_ld E rfl rfl (bc0 rfl) (s_g1 rfl (s_callp rfl rfl (Ret.eqv fleuronref27_coord_c (congrArg Value.bool h1)) (s_pk rfl (s_mv rfl (s_g0 rfl (s_g0 rfl (s_g0 rfl (s_g0 rfl (s_g0 rfl (s_g0 rfl (s_g0 rfl (s_g0 rfl (s_pk rfl (s_as rfl (s_nil ?_)))))))))))))))))))))))
      exact W_ret ⟨_, rfl, rfl, e1⟩
  · rw [if_neg h0]
    refine W_sr rfl (s_fa E rfl rfl (s_ld E rfl rfl (bc0 rfl) (s_cmp (c := false) rfl rfl (decide_eq_false h0) (s_mv rfl (s_g0 rfl (s_g0 rfl (s_g0 rfl (s_pk rfl (s_mv rfl (s_g1 rfl (s_fa E rfl rfl (s_g1 rfl (s_ld E rfl rfl (bc0 rfl) (s_g1 rfl (s_cmp (c := true) rfl rfl (decide_eq_true h0) (s_g1 rfl (s_mv rfl (s_g1 rfl (s_fa E rfl rfl (s_g1 rfl (s_ld E rfl rfl (bc0 rfl) (s_g1 rfl (s_callp rfl rfl (fleuronref27_code_c) (s_g1 rfl (s_pk rfl (s_pk rfl (s_as rfl (s_nil ?_))))))))))))))))))))))))))))
    exact W_ret ⟨_, rfl, rfl, e1⟩
theorem pair_in {x : Ru} (h : ruleB x = true) : 0 ≤ x.first ∧ x.first ≤ 255 ∧ 0 ≤ x.next ∧ x.next ≤ 255 := by
  simp only [ruleB, codeB, Bool.and_eq_true, decide_eq_true_eq] at h; omega
def pairI (r : Ru) : Int := IntKind.i64.wrap (IntKind.i64.wrap (256 * r.first) + r.next)
theorem pairI_in {x : Ru} (h : ruleB x = true) : pairI x = 256 * x.first + x.next := by
  have := pair_in h
  unfold pairI
  rw [wrap64_in (n := 256 * x.first) (by omega) (by omega)]
  exact wrap64_in (by omega) (by omega)
theorem fleuronref27_pair_c {x : Ru} : Ret Go.Proofs.Tryz.prog 57 #[ruV x] w fun v w' => v = iV (pairI x) ∧ Ext w w' := by
  refine enter Go.Proofs.Tryz.func57 rfl rfl rfl ?_
  refine W_sr rfl (s_bx rfl (s_as rfl (s_nil ?_)))
  refine W_sr rfl (s_fa E rfl rfl (s_ld E rfl rfl (bc0 rfl) (s_mulw rfl rfl (s_fa E rfl rfl (s_ld E rfl rfl (bc0 rfl) (s_addw rfl rfl (s_as rfl (s_nil ?_))))))))
  exact W_ret ⟨_, rfl, rfl, e1⟩
end
/-! ### Rules, Valid -/
def okG {α : Type} (ok : α → Bool) (lt : α → α → Bool) (l : List α) (i : Nat) : Bool := match l[i]? with
  | some r => ok r && (decide (i = 0) || match l[i - 1]? with | some q => lt q r | none => false)
  | none => true
theorem pairI_lt {q r : Ru} (hq : ruleB q = true) (hr : ruleB r = true) : pairI q < pairI r ↔ pairCmp q r < 0 := by
  rw [pairI_in hq, pairI_in hr]
  have h1 := pair_in hq
  have h2 := pair_in hr
  unfold pairCmp cmpI
  split <;> (try split) <;> (try split) <;> omega
theorem okG_all {α : Type} {ok : α → Bool} {lt : α → α → Bool} {cmp : α → α → Int} (hc : ∀ q r, ok q = true → ok r = true → (lt q r = true ↔ cmp q r < 0)) (l : List α) :
    (∀ i, i < l.length → okG ok lt l i = true) ↔ (l.all ok && risingB cmp l) = true := by
  rw [Bool.and_eq_true, List.all_eq_true, risingB_iff]
  constructor
  · intro h
    have hr : ∀ i (hi : i < l.length), ok l[i] = true := fun i hi => by
      have := h i hi
      unfold okG at this
      rw [List.getElem?_eq_getElem hi] at this
      simp only [Bool.and_eq_true] at this
      exact this.1
    refine ⟨fun x hx => ?_, fun i hi => ?_⟩
    · obtain ⟨i, hi, rfl⟩ := List.getElem_of_mem hx
      exact hr i hi
    · have := h (i + 1) hi
      unfold okG at this
      rw [List.getElem?_eq_getElem hi, Nat.add_sub_cancel, List.getElem?_eq_getElem (show i < l.length by omega)] at this
      simp only [Bool.and_eq_true, Bool.or_eq_true, decide_eq_true_eq] at this
      rcases this.2 with h2 | h2
      · omega
      · exact (hc _ _ (hr i (by omega)) (hr (i + 1) hi)).1 h2
  · rintro ⟨h1, h2⟩ i hi
    unfold okG
    rw [List.getElem?_eq_getElem hi]
    simp only [Bool.and_eq_true, Bool.or_eq_true, decide_eq_true_eq]
    refine ⟨h1 _ (List.getElem_mem hi), ?_⟩
    by_cases h0 : i = 0
    · exact .inl h0
    · right
      rw [List.getElem?_eq_getElem (show i - 1 < l.length by omega)]
      have := h2 (i - 1) (by omega)
      simp only [show i - 1 + 1 = i by omega] at this
      exact (hc _ _ (h1 _ (List.getElem_mem _)) (h1 _ (List.getElem_mem _))).2 this
theorem okG_false {α : Type} {ok : α → Bool} {lt : α → α → Bool} {cmp : α → α → Int} (hc : ∀ q r, ok q = true → ok r = true → (lt q r = true ↔ cmp q r < 0)) {l : List α} {i : Nat} (hi : i < l.length) (h : okG ok lt l i = false) : (l.all ok && risingB cmp l) = false := by
  rw [Bool.eq_false_iff]; intro h2
  have := (okG_all hc l).2 h2 i hi
  rw [h] at this; cases this
def pairLt (q r : Ru) : Bool := decide (pairI q < pairI r)
def codeLt (q r : Ch) : Bool := decide (q.code < r.code)
theorem pairLt_c (q r : Ru) (hq : ruleB q = true) (hr : ruleB r = true) : pairLt q r = true ↔ pairCmp q r < 0 := by unfold pairLt; rw [decide_eq_true_eq]; exact pairI_lt hq hr
theorem codeLt_c (q r : Ch) (_ : charB q = true) (_ : charB r = true) : codeLt q r = true ↔ codeCmp q r < 0 := by
  unfold codeLt codeCmp cmpI; rw [decide_eq_true_eq]; split <;> (try split) <;> omega
theorem okG_1 {α : Type} {ok : α → Bool} {lt : α → α → Bool} {l : List α} {i : Nat} (hi : i < l.length) (h : ok l[i] = false) : okG ok lt l i = false := by
  unfold okG; rw [List.getElem?_eq_getElem hi]; simp [h]
theorem okG_0 {α : Type} {ok : α → Bool} {lt : α → α → Bool} {l : List α} (hi : 0 < l.length) (h : ok l[0] = true) : okG ok lt l 0 = true := by
  unfold okG; rw [List.getElem?_eq_getElem hi]; simp [h]
theorem okG_2 {α : Type} {ok : α → Bool} {lt : α → α → Bool} {l : List α} {i : Nat} (hi : i < l.length) (h : ok l[i] = true) (h0 : i ≠ 0) : okG ok lt l i = lt (l[i - 1]'(by omega)) l[i] := by
  unfold okG; rw [List.getElem?_eq_getElem hi, List.getElem?_eq_getElem (show i - 1 < l.length by omega)]; simp [h, h0]
end Go.Proofs.YthfnijlgmjkedaaGreat
namespace Go.Proofs.YthfnijlgmjkedaaGreat
set_option maxRecDepth 100000
set_option maxHeartbeats 1000000
set_option linter.unusedVariables false
set_option linter.unusedSimpArgs false
open Go Go.Fx Go.Proofs.YthfnijlgmjkedaaGreat.Tab
section
variable {w : World}
theorem fleuronref27_Rules_c {p : Option Addr} {n c : Nat} {l : List Ru} (hn : n = l.length) (hm : n ≤ 1000000) (hp : SlR w p (l.flatMap ruC)) :
    Ret Go.Proofs.Tryz.prog 40 #[.slice p n c] w fun v w' => v = .bool (validRules l) ∧ Ext w w' := by
  refine enter Go.Proofs.Tryz.func40 rfl rfl rfl ?_
  refine W_sr rfl (s_as rfl (s_nil ?_))
  refine W_seq ?_
  refine W_sr rfl (s_mv rfl (s_len E rfl rfl (s_mv rfl (s_nil ?_))))
  refine W_block ?_
  refine W_loop (fun m ρ w' => ∃ ρ' i, ρ = upd (upd (upd (upd ρ' 0 (.slice p n c)) 5 (.slice p n c)) 6 (iV n)) 7 (iV (i : Nat)) ∧ Ext w w' ∧ i ≤ n ∧ m = n - i ∧ ∀ j, j < i → okG ruleB pairLt l j = true) n
    ⟨_, 0, u4 rfl rfl rfl rfl, Mod.refl, by omega, by omega, fun j h => by omega⟩ ?_
  rintro m _ w1 ⟨ρ, i, rfl, hE1, hi, rfl, ho⟩
  refine W_sr rfl (s_lss rfl rfl (s_nil ?_))
  refine W_seq ?_
  refine W_if rfl (fun hc => W_skip ?_) (fun hc => W_exit ?_)
  · have hc := of_decide_eq_true hc
    have hil : i < l.length := by omega
    obtain ⟨a, rfl, hrow⟩ := hp.some (by intro h0; have := flat_length ruC 4 ruC_len l; rw [h0] at this; simp at this; omega)
    have hS := Sep.start (w := w1)
    refine W_seq (W_block ?_)
    refine W_sr rfl (s_mv rfl (s_ia E rfl rfl rfl rfl (by omega) (s_lda E rfl rfl (Ext.row hE1 (hrow.at ruC_len hil)) rfl (s_alS hS E rfl rfl fun w2 g hS => (s_as rfl (s_stS hS 0 E (us := ruC l[i]) rfl rfl rfl rfl rfl rfl rfl rfl rfl rfl fun w3 hS => (s_nil ?_)))))))
    have hg : Row w3 ⟨g, 0, none⟩ (ruC l[i]) := hS.row 0 rfl
    have hE3 := hE1.trans hS.ext
    have okS : ∀ b : Bool, okG ruleB pairLt l i = b → (b = true → ∀ j, j < i + 1 → okG ruleB pairLt l j = true) ∧ (b = false → validRules l = false) := by
      intro b hb
      refine ⟨fun h j hj => ?_, fun h => ?_⟩
      · by_cases e : j = i
        · subst e; rw [hb, h]
        · exact ho j (by omega)
      · subst h
        unfold validRules
        rw [okG_false pairLt_c hil hb, Bool.and_false]
    cases h0 : ruleB l[i]
    · refine W_qr (Ext w3) orders rfl (by kernel_rfl) (Ext.drew0) (q_lda E rfl rfl (fun w' h => Ext.row h hg) rfl (q_callE rfl rfl (fun w' h => Ret.eqv (fleuronref27_rule_c (x := l[i])) (congrArg Value.bool h0)) (q_not rfl (q_mv rfl (q_g0 rfl (q_g0 rfl (q_g0 rfl (q_g0 rfl (q_g0 rfl (q_g0 rfl (q_g0 rfl (q_g0 rfl (q_g0 rfl (q_g0 rfl (q_g0 rfl (q_g0 rfl (q_g0 rfl (q_pk rfl (q_nil ?_)))))))))))))))))))
      intro w4 hE4
      refine W_if rfl (fun _ => ?_) (fun h => by cases h)
      refine W_sr rfl (s_as rfl (s_nil ?_))
      exact W_ret ⟨_, rfl, by rw [(okS false (okG_1 hil h0)).2 rfl]; rfl, hE3.trans hE4⟩
    by_cases h1 : i = 0
    · refine W_qr (Ext w3) orders rfl (by kernel_rfl) (Ext.drew0) (q_lda E rfl rfl (fun w' h => Ext.row h hg) rfl (q_callE rfl rfl (fun w' h => Ret.eqv (fleuronref27_rule_c (x := l[i])) (congrArg Value.bool h0)) (q_not rfl (q_mv rfl (q_g1 rfl (q_mv rfl (q_g1 rfl (q_cmp (c := false) rfl rfl (decide_eq_false (by omega)) (q_g1 rfl (q_mv rfl (q_g0 rfl (q_g0 rfl (q_g0 rfl (q_g0 rfl (q_g0 rfl (q_g0 rfl (q_g0 rfl (q_g0 rfl (q_g0 rfl (q_g1 rfl (q_pk rfl (q_pk rfl (q_nil ?_)))))))))))))))))))))))
      intro w4 hE4
      refine W_if rfl (fun h => by cases h) (fun _ => W_skip ?_)
      refine W_reg rfl (s_add rfl rfl (by omega) (s_mv rfl (s_nil ?_)))
      exact ⟨n - (i + 1), by omega, _, i + 1, u4 rfl rfl rfl rfl, hE3.trans hE4, by omega, rfl, (okS true (by subst h1; exact okG_0 hil h0)).1 rfl⟩
    · have hrq : Row w3 (a.add ((i - 1) * 4)) (ruC (l[i - 1]'(by omega))) := Ext.row hE3 (hrow.at ruC_len (by omega))
      have h2 := okG_2 (lt := pairLt) hil h0 h1
      obtain ⟨q, hq⟩ : ∃ q, q = l[i - 1]'(by omega) := ⟨_, rfl⟩
      rw [← hq] at hrq h2
      obtain ⟨r, hr⟩ : ∃ r, r = l[i] := ⟨_, rfl⟩
      rw [← hr] at h0 hg h2
      by_cases h3 : pairI r ≤ pairI q
      · refine W_qr (Ext w3) orders rfl (by kernel_rfl) (Ext.drew0) (q_lda E rfl rfl (fun w' h => Ext.row h hg) rfl (q_callE rfl rfl (fun w' h => Ret.eqv (fleuronref27_rule_c (x := r)) (congrArg Value.bool h0)) (q_not rfl (q_mv rfl (q_g1 rfl (q_mv rfl (q_g1 rfl (q_cmp (c := true) rfl rfl (decide_eq_true (by omega)) (q_g1 rfl (q_mv rfl (q_g1 rfl (q_mv rfl (q_g1 rfl (q_mv rfl (q_g1 rfl (q_sub rfl rfl (by omega) (q_g1 rfl (q_ia E rfl rfl rfl (show (i : Int) - 1 = ((i - 1 : Nat) : Int) by omega) (by omega) (q_g1 rfl (q_lda E rfl rfl (fun w' h => Ext.row h hrq) rfl (q_g1 rfl (q_callE rfl rfl (fun w' h => fleuronref27_pair_c (x := q)) (q_g1 rfl (q_lda E rfl rfl (fun w' h => Ext.row h hg) rfl (q_g1 rfl (q_callE rfl rfl (fun w' h => fleuronref27_pair_c (x := r)) (q_g1 rfl (q_cmp (c := true) rfl rfl (decide_eq_true h3) (q_g1 rfl (q_pk rfl (q_pk rfl (q_nil ?_))))))))))))))))))))))))))))))))
        intro w4 hE4
        refine W_if rfl (fun _ => ?_) (fun h => by cases h)
        refine W_sr rfl (s_as rfl (s_nil ?_))
        exact W_ret ⟨_, rfl, by rw [(okS false (by rw [h2]; exact decide_eq_false (by omega))).2 rfl]; rfl, hE3.trans hE4⟩
      · refine W_qr (Ext w3) orders rfl (by kernel_rfl) (Ext.drew0) (q_lda E rfl rfl (fun w' h => Ext.row h hg) rfl (q_callE rfl rfl (fun w' h => Ret.eqv (fleuronref27_rule_c (x := r)) (congrArg Value.bool h0)) (q_not rfl (q_mv rfl (q_g1 rfl (q_mv rfl (q_g1 rfl (q_cmp (c := true) rfl rfl (decide_eq_true (by omega)) (q_g1 rfl (q_mv rfl (q_g1 rfl (q_mv rfl (q_g1 rfl (q_mv rfl (q_g1 rfl (q_sub rfl rfl (by omega) (q_g1 rfl (q_ia E rfl rfl rfl (show (i : Int) - 1 = ((i - 1 : Nat) : Int) by omega) (by omega) (q_g1 rfl (q_lda E rfl rfl (fun w' h => Ext.row h hrq) rfl (q_g1 rfl (q_callE rfl rfl (fun w' h => fleuronref27_pair_c (x := q)) (q_g1 rfl (q_lda E rfl rfl (fun w' h => Ext.row h hg) rfl (q_g1 rfl (q_callE rfl rfl (fun w' h => fleuronref27_pair_c (x := r)) (q_g1 rfl (q_cmp (c := false) rfl rfl (decide_eq_false h3) (q_g1 rfl (q_pk rfl (q_pk rfl (q_nil ?_))))))))))))))))))))))))))))))))
        intro w4 hE4
        refine W_if rfl (fun h => by cases h) (fun _ => W_skip ?_)
        refine W_reg rfl (s_add rfl rfl (by omega) (s_mv rfl (s_nil ?_)))
        exact ⟨n - (i + 1), by omega, _, i + 1, u4 rfl rfl rfl rfl, hE3.trans hE4, by omega, rfl, (okS true (by rw [h2]; exact decide_eq_true (by omega))).1 rfl⟩
  · have hc := of_decide_eq_false hc
    refine W_sr rfl (s_mv rfl (s_len E rfl rfl (s_leq rfl rfl (s_as rfl (s_nil ?_)))))
    refine W_ret ⟨_, rfl, ?_, hE1⟩
    have : (l.all ruleB && risingB pairCmp l) = true := (okG_all pairLt_c l).1 fun i hi => ho i (by omega)
    unfold validRules
    rw [this, Bool.and_true]
    exact congrArg Value.bool (decide_eq_decide.2 (by omega))
theorem fleuronref27_Valid_c {m : Me} {p q : Option Addr} {c d : Nat} (hm : MeR w m p q) : Ret Go.Proofs.Tryz.prog 14 #[meV m p q c d] w fun v w' => v = .bool (validM m) ∧ Ext w w' := by
  refine enter Go.Proofs.Tryz.func14 rfl rfl rfl ?_
  have hS := Sep.start (w := w)
  refine W_sr rfl (s_bxS hS (vs := meC m p q c d) rfl rfl fun w1 gm hS => (s_as rfl (s_nil ?_)))
  have hE1 := hS.ext
  have hr1 : Row w1 ⟨gm, 0, none⟩ (meC m p q c d) := hS.row 0 rfl
  clear hS
  refine W_seq ?_
  obtain ⟨l, hl⟩ : ∃ l, l = m.chars := ⟨_, rfl⟩
  obtain ⟨n, hn⟩ : ∃ n, n = m.chars.length := ⟨_, rfl⟩
  have hp := hm.ch
  have hnl := hm.nch
  refine W_sr rfl (s_fa E rfl rfl (s_ld E rfl rfl (hr1 1 _ rfl) (s_len E rfl rfl (s_mv rfl (s_nil ?_)))))
  rw [← hl] at hp
  rw [← hn] at hnl
  refine W_block ?_
  refine W_loop (fun r ρ w' => ∃ ρ' i, ρ = upd (upd (upd (upd ρ' 1 (.pointer (some ⟨gm, 0, none⟩))) 6 (.slice p n c)) 7 (iV n)) 8 (iV (i : Nat)) ∧ Ext w1 w' ∧ i ≤ n ∧ r = n - i ∧ ∀ j, j < i → okG charB codeLt l j = true) n
    ⟨_, 0, u4 rfl (by rw [hn]; rfl) (by rw [hn]; rfl) rfl, Mod.refl, by omega, by omega, fun j h => by omega⟩ ?_
  rintro _ _ w2 ⟨ρ, i, rfl, hE2, hi, rfl, ho⟩
  have hnl' : n = l.length := by rw [hn, hl]
  refine W_sr rfl (s_lss rfl rfl (s_nil ?_))
  refine W_seq ?_
  refine W_if rfl (fun hc => W_skip ?_) (fun hc => W_exit ?_)
  · have hc := of_decide_eq_true hc
    have hil : i < l.length := by omega
    obtain ⟨a, rfl, hrow⟩ := hp.some (by intro h0; have := flat_length chC 4 chC_len l; rw [h0] at this; simp at this; omega)
    have hS := Sep.start (w := w2)
    refine W_seq (W_block ?_)
    obtain ⟨r, hr⟩ : ∃ r, r = l[i] := ⟨_, rfl⟩
    have hrr := Ext.row (hE1.trans hE2) (hrow.at chC_len hil)
    rw [← hr] at hrr
    refine W_sr rfl (s_mv rfl (s_ia E rfl rfl rfl rfl (by omega) (s_lda E rfl rfl hrr rfl (s_alS hS E rfl rfl fun w3 g hS => (s_as rfl (s_stS hS 0 E (us := chC r) rfl rfl rfl rfl rfl rfl rfl rfl rfl rfl fun w4 hS => (s_nil ?_)))))))
    have hg : Row w4 ⟨g, 0, none⟩ (chC r) := hS.row 0 rfl
    have hE4 := hE2.trans hS.ext
    have hr4 := Ext.row hE4 hr1
    have okS : ∀ b : Bool, okG charB codeLt l i = b → (b = true → ∀ j, j < i + 1 → okG charB codeLt l j = true) ∧ (b = false → validM m = false) := by
      intro b hb
      refine ⟨fun h j hj => ?_, fun h => ?_⟩
      · by_cases e : j = i
        · subst e; rw [hb, h]
        · exact ho j (by omega)
      · subst h
        unfold validM
        have := okG_false codeLt_c hil hb
        rw [hl] at this
        rw [← Bool.and_assoc (m.chars.all charB), this, Bool.false_and, Bool.and_false, Bool.and_false]
    have okf : charB r = false → okG charB codeLt l i = false := fun h => okG_1 hil (by rw [← hr]; exact h)
    have ok0 : charB r = true → i = 0 → okG charB codeLt l i = true := fun h h0 => by subst h0; exact okG_0 hil (by rw [← hr]; exact h)
    cases h0 : charB r
    · refine W_qr (Ext w4) orders rfl (by kernel_rfl) (Ext.drew0) (q_lda E rfl rfl (fun w' h => Ext.row h hg) rfl (q_callE rfl rfl (fun w' h => Ret.eqv (fleuronref27_char_c (x := r)) (congrArg Value.bool h0)) (q_not rfl (q_mv rfl (q_g0 rfl (q_g0 rfl (q_g0 rfl (q_g0 rfl (q_g0 rfl (q_g0 rfl (q_g0 rfl (q_g0 rfl (q_g0 rfl (q_g0 rfl (q_g0 rfl (q_g0 rfl (q_g0 rfl (q_g0 rfl (q_pk rfl (q_nil ?_))))))))))))))))))))
      intro w5 hE5
      refine W_if rfl (fun _ => ?_) (fun h => by cases h)
      refine W_sr rfl (s_as rfl (s_nil ?_))
      exact W_ret ⟨_, rfl, by rw [(okS false (okf h0)).2 rfl]; rfl, hE1.trans (hE4.trans hE5)⟩
    by_cases h1 : i = 0
    · refine W_qr (Ext w4) orders rfl (by kernel_rfl) (Ext.drew0) (q_lda E rfl rfl (fun w' h => Ext.row h hg) rfl (q_callE rfl rfl (fun w' h => Ret.eqv (fleuronref27_char_c (x := r)) (congrArg Value.bool h0)) (q_not rfl (q_mv rfl (q_g1 rfl (q_mv rfl (q_g1 rfl (q_cmp (c := false) rfl rfl (decide_eq_false (by omega)) (q_g1 rfl (q_mv rfl (q_g0 rfl (q_g0 rfl (q_g0 rfl (q_g0 rfl (q_g0 rfl (q_g0 rfl (q_g0 rfl (q_g0 rfl (q_g0 rfl (q_g0 rfl (q_g1 rfl (q_pk rfl (q_pk rfl (q_nil ?_))))))))))))))))))))))))
      intro w5 hE5
      refine W_if rfl (fun h => by cases h) (fun _ => W_skip ?_)
      refine W_reg rfl (s_add rfl rfl (by omega) (s_mv rfl (s_nil ?_)))
      exact ⟨n - (i + 1), by omega, _, i + 1, u4 rfl rfl rfl rfl, hE4.trans hE5, by omega, rfl, (okS true (ok0 h0 h1)).1 rfl⟩
    · have hrq : Row w4 (a.add ((i - 1) * 4)) (chC (l[i - 1]'(by omega))) := Ext.row (hE1.trans hE4) (hrow.at chC_len (by omega))
      have h2 := okG_2 (lt := codeLt) (ok := charB) hil (by rw [← hr]; exact h0) h1
      obtain ⟨q', hq⟩ : ∃ q, q = l[i - 1]'(by omega) := ⟨_, rfl⟩
      rw [← hq] at hrq h2
      rw [← hr] at h2
      by_cases h3 : r.code ≤ q'.code
      · refine W_qr (Ext w4) orders rfl (by kernel_rfl) (Ext.drew0) (q_lda E rfl rfl (fun w' h => Ext.row h hg) rfl (q_callE rfl rfl (fun w' h => Ret.eqv (fleuronref27_char_c (x := r)) (congrArg Value.bool h0)) (q_not rfl (q_mv rfl (q_g1 rfl (q_mv rfl (q_g1 rfl (q_cmp (c := true) rfl rfl (decide_eq_true (by omega)) (q_g1 rfl (q_mv rfl (q_g1 rfl (q_fa E rfl rfl (q_g1 rfl (q_ld E rfl rfl (fun w' h => Ext.row h hr4 1 _ rfl) (q_g1 rfl (q_mv rfl (q_g1 rfl (q_sub rfl rfl (by omega) (q_g1 rfl (q_ia E rfl rfl rfl (show (i : Int) - 1 = ((i - 1 : Nat) : Int) by omega) (by omega) (q_g1 rfl (q_fa E rfl rfl (q_g1 rfl (q_ld E rfl rfl (fun w' h => Ext.row h hrq 0 _ rfl) (q_g1 rfl (q_fa E rfl rfl (q_g1 rfl (q_ld E rfl rfl (fun w' h => Ext.row h hg 0 _ rfl) (q_g1 rfl (q_cmp (c := true) rfl rfl (decide_eq_true h3) (q_g1 rfl (q_pk rfl (q_pk rfl (q_nil ?_))))))))))))))))))))))))))))))))))
        intro w5 hE5
        refine W_if rfl (fun _ => ?_) (fun h => by cases h)
        refine W_sr rfl (s_as rfl (s_nil ?_))
        exact W_ret ⟨_, rfl, by rw [(okS false (by rw [h2]; exact decide_eq_false (by omega))).2 rfl]; rfl, hE1.trans (hE4.trans hE5)⟩
      · refine W_qr (Ext w4) orders rfl (by kernel_rfl) (Ext.drew0) (q_lda E rfl rfl (fun w' h => Ext.row h hg) rfl (q_callE rfl rfl (fun w' h => Ret.eqv (fleuronref27_char_c (x := r)) (congrArg Value.bool h0)) (q_not rfl (q_mv rfl (q_g1 rfl (q_mv rfl (q_g1 rfl (q_cmp (c := true) rfl rfl (decide_eq_true (by omega)) (q_g1 rfl (q_mv rfl (q_g1 rfl (q_fa E rfl rfl (q_g1 rfl (q_ld E rfl rfl (fun w' h => Ext.row h hr4 1 _ rfl) (q_g1 rfl (q_mv rfl (q_g1 rfl (q_sub rfl rfl (by omega) (q_g1 rfl (q_ia E rfl rfl rfl (show (i : Int) - 1 = ((i - 1 : Nat) : Int) by omega) (by omega) (q_g1 rfl (q_fa E rfl rfl (q_g1 rfl (q_ld E rfl rfl (fun w' h => Ext.row h hrq 0 _ rfl) (q_g1 rfl (q_fa E rfl rfl (q_g1 rfl (q_ld E rfl rfl (fun w' h => Ext.row h hg 0 _ rfl) (q_g1 rfl (q_cmp (c := false) rfl rfl (decide_eq_false h3) (q_g1 rfl (q_pk rfl (q_pk rfl (q_nil ?_))))))))))))))))))))))))))))))))))
        intro w5 hE5
        refine W_if rfl (fun h => by cases h) (fun _ => W_skip ?_)
        refine W_reg rfl (s_add rfl rfl (by omega) (s_mv rfl (s_nil ?_)))
        exact ⟨n - (i + 1), by omega, _, i + 1, u4 rfl rfl rfl rfl, hE4.trans hE5, by omega, rfl, (okS true (by rw [h2]; exact decide_eq_true (by omega))).1 rfl⟩
  · have hc := of_decide_eq_false hc
    have hr2 := Ext.row hE2 hr1
    have hall : (m.chars.all charB && risingB codeCmp m.chars) = true := by rw [← hl]; exact (okG_all codeLt_c l).1 fun i hi => ho i (by omega)
    have e : validM m = (sizeB m.size && (decide (m.chars.length ≤ 256) && validRules m.rules)) := by
      unfold validM
      rw [← Bool.and_assoc (m.chars.all charB), hall, Bool.true_and]
    rw [e]
    cases h0 : sizeB m.size
    · refine W_sr rfl (s_fa E rfl rfl (s_ld E rfl rfl (hr2 0 _ rfl) (s_callp rfl rfl (Ret.eqv (fleuronref27_Size_c) (congrArg Value.bool h0)) (s_mv rfl (s_g0 rfl (s_g0 rfl (s_g0 rfl (s_g0 rfl (s_pk rfl (s_mv rfl (s_g0 rfl (s_g0 rfl (s_g0 rfl (s_pk rfl (s_as rfl (s_nil ?_))))))))))))))))
      exact W_ret ⟨_, rfl, rfl, hE1.trans hE2⟩
    by_cases h1 : ((m.chars.length : Nat) : Int) ≤ 256
    case neg =>
      refine W_sr rfl (s_fa E rfl rfl (s_ld E rfl rfl (hr2 0 _ rfl) (s_callp rfl rfl (Ret.eqv (fleuronref27_Size_c) (congrArg Value.bool h0)) (s_mv rfl (s_g1 rfl (s_fa E rfl rfl (s_g1 rfl (s_ld E rfl rfl (hr2 1 _ rfl) (s_g1 rfl (s_len E rfl rfl (s_g1 rfl (s_cmp (c := false) rfl rfl (decide_eq_false h1) (s_pk rfl (s_mv rfl (s_g0 rfl (s_g0 rfl (s_g0 rfl (s_pk rfl (s_as rfl (s_nil ?_))))))))))))))))))))
      rw [decide_eq_false (show ¬ m.chars.length ≤ 256 by omega)]
      exact W_ret ⟨_, rfl, rfl, hE1.trans hE2⟩
    rw [decide_eq_true (show m.chars.length ≤ 256 by omega)]
    have hq := Ext.sl (hE1.trans hE2) hm.ru
    refine W_sr rfl (s_fa E rfl rfl (s_ld E rfl rfl (hr2 0 _ rfl) (s_callp rfl rfl (Ret.eqv (fleuronref27_Size_c) (congrArg Value.bool h0)) (s_mv rfl (s_g1 rfl (s_fa E rfl rfl (s_g1 rfl (s_ld E rfl rfl (hr2 1 _ rfl) (s_g1 rfl (s_len E rfl rfl (s_g1 rfl (s_cmp (c := true) rfl rfl (decide_eq_true h1) (s_pk rfl (s_mv rfl (s_g1 rfl (s_fa E rfl rfl (s_g1 rfl (s_ld E rfl rfl (hr2 2 _ rfl) (s_g1 rfl (s_callx rfl rfl (fleuronref27_Rules_c rfl hm.nru hq) fun w3 hE3 => (s_pk rfl (s_as rfl (s_nil ?_)))))))))))))))))))))))
    exact W_ret ⟨_, rfl, rfl, (hE1.trans hE2).trans hE3⟩
end
end Go.Proofs.YthfnijlgmjkedaaGreat
namespace Go.Proofs.YthfnijlgmjkedaaGreat
set_option maxRecDepth 100000
set_option maxHeartbeats 2000000
set_option linter.unusedVariables false
set_option linter.unusedSimpArgs false
open Go Go.Fx Go.Proofs.YthfnijlgmjkedaaGreat.Tab
def chP2 (x y : Ch) : List (IntKind × Int × Int) := [(.i64, x.code, y.code), (.i64, x.width, y.width), (.i64, x.height, y.height), (.i64, x.depth, y.depth)]
def ruP2 (x y : Ru) : List (IntKind × Int × Int) := [(.i64, x.first, y.first), (.i64, x.next, y.next), (.i64, x.op, y.op), (.i64, x.value, y.value)]
theorem chP2_eq (x y : Ch) : sameI (chP2 x y) = decide (x = y) := by
  cases x; cases y
  simp only [sameI, chP2, Bool.and_true]
  rw [Bool.eq_iff_iff]
  simp
theorem ruP2_eq (x y : Ru) : sameI (ruP2 x y) = decide (x = y) := by
  cases x; cases y
  simp only [sameI, ruP2, Bool.and_true]
  rw [Bool.eq_iff_iff]
  simp
theorem eqS_ch : eqS Go.Proofs.Tryz.prog 50 [.i64, .i64, .i64, .i64] = true := by kernel_rfl
theorem eqS_ru : eqS Go.Proofs.Tryz.prog 45 [.i64, .i64, .i64, .i64] = true := by kernel_rfl
section
variable {w : World}
theorem fleuronref27_Same_c {a b : Me} {p q p' q' : Option Addr} {c d c' d' : Nat} (ha : MeR w a p q) (hb : MeR w b p' q') :
    Ret Go.Proofs.Tryz.prog 17 #[meV a p q c d, meV b p' q' c' d'] w fun v w' => v = .bool (decide (a = b)) ∧ Ext w w' := by
  refine enter Go.Proofs.Tryz.func17 rfl rfl rfl ?_
  have hS := Sep.start (w := w)
  refine W_sr rfl (s_bxS hS (vs := meC a p q c d) rfl rfl fun w1 ga hS => (s_bxS hS (vs := meC b p' q' c' d') rfl rfl fun w2 gb hS => (s_as rfl (s_nil ?_))))
  have hE2 := hS.ext
  have hra : ∀ w', Ext w2 w' → Row w' ⟨ga, 0, none⟩ (meC a p q c d) := fun w' h => Ext.row h (hS.row 0 rfl)
  have hrb : ∀ w', Ext w2 w' → Row w' ⟨gb, 0, none⟩ (meC b p' q' c' d') := fun w' h => Ext.row h (hS.row 1 rfl)
  have l2 := Mod.refl (M := fun _ => False) (w := w2)
  have no : ∀ {ρ : Fr} {w'}, ¬ a = b → Ext w2 w' → ρ 4 = .bool false → ∃ v, resV Go.Proofs.Tryz.f17 ρ = some v ∧ v = .bool (decide (a = b)) ∧ Ext w w' := fun h hE h4 => ⟨_, rfl, by rw [decide_eq_false h]; exact h4, hE2.trans hE⟩
  refine W_seq ?_
  by_cases h0 : a.size = b.size
  case neg =>
    refine W_sr rfl (s_fa E rfl rfl (s_ld E rfl rfl (hra _ l2 0 _ rfl) (s_fa E rfl rfl (s_ld E rfl rfl (hrb _ l2 0 _ rfl) (s_cmp (c := true) rfl rfl (decide_eq_true h0) (s_mv rfl (s_g0 rfl (s_g0 rfl (s_g0 rfl (s_g0 rfl (s_g0 rfl (s_g0 rfl (s_g0 rfl (s_pk rfl (s_mv rfl (s_g0 rfl (s_g0 rfl (s_g0 rfl (s_g0 rfl (s_g0 rfl (s_g0 rfl (s_g0 rfl (s_pk rfl (s_nil ?_))))))))))))))))))))))))
    refine W_if rfl (fun _ => ?_) (fun h => by cases h)
    refine W_sr rfl (s_as rfl (s_nil ?_))
    exact W_ret (no (fun h => h0 (by rw [h])) l2 rfl)
  by_cases h1 : a.chars.length = b.chars.length
  case neg =>
    refine W_sr rfl (s_fa E rfl rfl (s_ld E rfl rfl (hra _ l2 0 _ rfl) (s_fa E rfl rfl (s_ld E rfl rfl (hrb _ l2 0 _ rfl) (s_cmp (c := false) rfl rfl (decide_eq_false (fun h => h h0)) (s_mv rfl (s_g1 rfl (s_fa E rfl rfl (s_g1 rfl (s_ld E rfl rfl (hra _ l2 1 _ rfl) (s_g1 rfl (s_len E rfl rfl (s_g1 rfl (s_fa E rfl rfl (s_g1 rfl (s_ld E rfl rfl (hrb _ l2 1 _ rfl) (s_g1 rfl (s_len E rfl rfl (s_g1 rfl (s_cmp (c := true) rfl rfl (decide_eq_true (by omega)) (s_pk rfl (s_mv rfl (s_g0 rfl (s_g0 rfl (s_g0 rfl (s_g0 rfl (s_g0 rfl (s_g0 rfl (s_g0 rfl (s_pk rfl (s_nil ?_)))))))))))))))))))))))))))))))
    refine W_if rfl (fun _ => ?_) (fun h => by cases h)
    refine W_sr rfl (s_as rfl (s_nil ?_))
    exact W_ret (no (fun h => h1 (by rw [h])) l2 rfl)
  by_cases h2 : a.rules.length = b.rules.length
  case neg =>
    refine W_sr rfl (s_fa E rfl rfl (s_ld E rfl rfl (hra _ l2 0 _ rfl) (s_fa E rfl rfl (s_ld E rfl rfl (hrb _ l2 0 _ rfl) (s_cmp (c := false) rfl rfl (decide_eq_false (fun h => h h0)) (s_mv rfl (s_g1 rfl (s_fa E rfl rfl (s_g1 rfl (s_ld E rfl rfl (hra _ l2 1 _ rfl) (s_g1 rfl (s_len E rfl rfl (s_g1 rfl (s_fa E rfl rfl (s_g1 rfl (s_ld E rfl rfl (hrb _ l2 1 _ rfl) (s_g1 rfl (s_len E rfl rfl (s_g1 rfl (s_cmp (c := false) rfl rfl (decide_eq_false (by omega)) (s_pk rfl (s_mv rfl (s_g1 rfl (s_fa E rfl rfl (s_g1 rfl (s_ld E rfl rfl (hra _ l2 2 _ rfl) (s_g1 rfl (s_len E rfl rfl (s_g1 rfl (s_fa E rfl rfl (s_g1 rfl (s_ld E rfl rfl (hrb _ l2 2 _ rfl) (s_g1 rfl (s_len E rfl rfl (s_g1 rfl (s_cmp (c := true) rfl rfl (decide_eq_true (by omega)) (s_pk rfl (s_nil ?_))))))))))))))))))))))))))))))))))))))
    refine W_if rfl (fun _ => ?_) (fun h => by cases h)
    refine W_sr rfl (s_as rfl (s_nil ?_))
    exact W_ret (no (fun h => h2 (by rw [h])) l2 rfl)
  refine W_sr rfl (s_fa E rfl rfl (s_ld E rfl rfl (hra _ l2 0 _ rfl) (s_fa E rfl rfl (s_ld E rfl rfl (hrb _ l2 0 _ rfl) (s_cmp (c := false) rfl rfl (decide_eq_false (fun h => h h0)) (s_mv rfl (s_g1 rfl (s_fa E rfl rfl (s_g1 rfl (s_ld E rfl rfl (hra _ l2 1 _ rfl) (s_g1 rfl (s_len E rfl rfl (s_g1 rfl (s_fa E rfl rfl (s_g1 rfl (s_ld E rfl rfl (hrb _ l2 1 _ rfl) (s_g1 rfl (s_len E rfl rfl (s_g1 rfl (s_cmp (c := false) rfl rfl (decide_eq_false (by omega)) (s_pk rfl (s_mv rfl (s_g1 rfl (s_fa E rfl rfl (s_g1 rfl (s_ld E rfl rfl (hra _ l2 2 _ rfl) (s_g1 rfl (s_len E rfl rfl (s_g1 rfl (s_fa E rfl rfl (s_g1 rfl (s_ld E rfl rfl (hrb _ l2 2 _ rfl) (s_g1 rfl (s_len E rfl rfl (s_g1 rfl (s_cmp (c := false) rfl rfl (decide_eq_false (by omega)) (s_pk rfl (s_nil ?_))))))))))))))))))))))))))))))))))))))
  refine W_if rfl (fun h => by cases h) (fun _ => W_skip ?_)
  obtain ⟨l, hl⟩ : ∃ l, l = a.chars := ⟨_, rfl⟩
  obtain ⟨l', hl'⟩ : ∃ l, l = b.chars := ⟨_, rfl⟩
  obtain ⟨k, hk⟩ : ∃ l, l = a.rules := ⟨_, rfl⟩
  obtain ⟨k', hk'⟩ : ∃ l, l = b.rules := ⟨_, rfl⟩
  obtain ⟨n, hn⟩ : ∃ n, n = a.chars.length := ⟨_, rfl⟩
  obtain ⟨m, hm⟩ : ∃ n, n = a.rules.length := ⟨_, rfl⟩
  have hap := ha.ch; have haq := ha.ru; have hbp := hb.ch; have hbq := hb.ru
  have hnl := ha.nch; have hml := ha.nru
  rw [← hl] at hap; rw [← hl'] at hbp; rw [← hk] at haq; rw [← hk'] at hbq
  rw [← hn] at hnl; rw [← hm] at hml
  have en : n = l.length := by rw [hn, hl]
  have en' : n = l'.length := by rw [hn, hl', h1]
  have em : m = k.length := by rw [hm, hk]
  have em' : m = k'.length := by rw [hm, hk', h2]
  refine W_n2 2 3 (.pointer (some ⟨ga, 0, none⟩)) (.pointer (some ⟨gb, 0, none⟩)) rfl rfl fun ρ => ?_
  refine W_sk fun K hK => ?_
  have H : ∀ (ρ : Fr) w', l = l' → Ext w2 w' → ρ 2 = .pointer (some ⟨ga, 0, none⟩) → ρ 3 = .pointer (some ⟨gb, 0, none⟩) → K ρ w' := by
    intro ρ w3 hll hE3 q2 q3
    rw [u2 q2 q3]
    refine hK _ _ ?_
    refine W_seq ?_
    refine W_sr rfl (s_fa E rfl rfl (s_ld E rfl rfl (hra _ hE3 2 _ rfl) (s_len E rfl rfl (s_mv rfl (s_nil ?_)))))
    refine W_block ?_
    refine W_loop (fun r ρ w' => ∃ ρ' j, ρ = upd (upd (upd (upd ρ' 2 (.pointer (some ⟨ga, 0, none⟩))) 3 (.pointer (some ⟨gb, 0, none⟩))) 50 (iV m)) 51 (iV (j : Nat)) ∧ j ≤ m ∧ r = m - j ∧ Ext w2 w' ∧ ∀ t (h : t < k.length) (h' : t < k'.length), t < j → k[t] = k'[t]) m
      ⟨_, 0, u4 rfl rfl (by rw [hm]; rfl) rfl, by omega, rfl, hE3, fun _ _ _ h => by omega⟩ ?_
    rintro r _ w4 ⟨ρ, j, rfl, hj, rfl, hE4, hs⟩
    refine W_sr rfl (s_lss rfl rfl (s_nil ?_))
    refine W_seq ?_
    refine W_if rfl (fun hd => W_skip ?_) (fun hd => W_exit ?_)
    · have hd := of_decide_eq_true hd
      have h1 : j < k.length := by omega
      have h1' : j < k'.length := by omega
      obtain ⟨x, hx⟩ : ∃ x, x = k[j] := ⟨_, rfl⟩
      obtain ⟨y, hy⟩ : ∃ x, x = k'[j] := ⟨_, rfl⟩
      obtain ⟨aa, hqa, hra1⟩ := haq.some (by intro h0; have := flat_length ruC 4 ruC_len k; rw [h0] at this; simp at this; omega)
      obtain ⟨ab, hqb, hrb1⟩ := hbq.some (by intro h0; have := flat_length ruC 4 ruC_len k'; rw [h0] at this; simp at this; omega)
      have r1 := Ext.row (hE2.trans hE4) (hra1.at ruC_len h1)
      have r2 := Ext.row (hE2.trans hE4) (hrb1.at ruC_len h1')
      rw [← hx] at r1; rw [← hy] at r2
      refine W_seq (W_block ?_)
      refine W_sr rfl (s_mv rfl (s_as rfl (s_nil ?_)))
      refine W_qr (Ext w4) orders rfl (by kernel_rfl) (Ext.drew0) (q_fa E rfl rfl (q_ld E rfl rfl (fun w' h => hra w' (hE4.trans h) 2 _ rfl) (q_mv rfl (q_ia (i := j) E rfl (congrArg (fun z => Value.slice z a.rules.length d) hqa) rfl rfl (by omega) (q_lda (xs := ruC x) E rfl rfl (fun w' h => Ext.row h r1) rfl (q_fa E rfl rfl (q_ld E rfl rfl (fun w' h => hrb w' (hE4.trans h) 2 _ rfl) (q_mv rfl (q_ia (i := j) E rfl (congrArg (fun z => Value.slice z b.rules.length d') hqb) rfl rfl (by omega) (q_lda (xs := ruC y) E rfl rfl (fun w' h => Ext.row h r2) rfl (q_neS (l := ruP2 x y) eqS_ru rfl rfl (q_nil ?_))))))))))))
      intro w5 hE5
      rw [ruP2_eq]
      refine W_if rfl (fun he => ?_) (fun he => W_skip ?_)
      · have he : x ≠ y := by simpa using he
        refine W_sr rfl (s_as rfl (s_nil ?_))
        exact W_ret (no (fun h => he (by subst h; rw [hx, hy]; simp only [hk, hk'])) (hE4.trans hE5) rfl)
      · have he : x = y := by simpa using he
        refine W_reg rfl (s_add rfl rfl (by omega) (s_mv rfl (s_nil ?_)))
        refine ⟨m - (j + 1), by omega, _, j + 1, u4 rfl rfl rfl rfl, by omega, rfl, hE4.trans hE5, fun t ht ht' htj => ?_⟩
        by_cases e : t = j
        · subst e; rw [← hx, ← hy]; exact he
        · exact hs t ht ht' (by omega)
    · have hd := of_decide_eq_false hd
      refine W_sr rfl (s_as rfl (s_nil ?_))
      have hkk : k = k' := List.ext_getElem (by omega) fun t h1 h2 => hs t h1 h2 (by omega)
      have hab : a = b := by
        cases a; cases b
        simp only at h0 hl hl' hk hk'
        rw [h0, ← hl, ← hl', ← hk, ← hk', hll, hkk]
      exact W_ret ⟨_, rfl, by rw [decide_eq_true hab]; rfl, hE2.trans hE4⟩
  refine W_sr rfl (s_fa E rfl rfl (s_ld E rfl rfl (hra _ l2 1 _ rfl) (s_len E rfl rfl (s_mv rfl (s_nil ?_)))))
  refine W_block ?_
  refine W_loop (fun r ρ w' => ∃ ρ' j, ρ = upd (upd (upd (upd ρ' 2 (.pointer (some ⟨ga, 0, none⟩))) 3 (.pointer (some ⟨gb, 0, none⟩))) 32 (iV n)) 33 (iV (j : Nat)) ∧ j ≤ n ∧ r = n - j ∧ Ext w2 w' ∧ ∀ t (h : t < l.length) (h' : t < l'.length), t < j → l[t] = l'[t]) n
    ⟨_, 0, u4 rfl rfl (by rw [hn]; rfl) rfl, by omega, rfl, l2, fun _ _ _ h => by omega⟩ ?_
  rintro r _ w4 ⟨ρ, j, rfl, hj, rfl, hE4, hs⟩
  refine W_sr rfl (s_lss rfl rfl (s_nil ?_))
  refine W_seq ?_
  refine W_if rfl (fun hd => W_skip ?_) (fun hd => W_exit ?_)
  · have hd := of_decide_eq_true hd
    have h1 : j < l.length := by omega
    have h1' : j < l'.length := by omega
    obtain ⟨x, hx⟩ : ∃ x, x = l[j] := ⟨_, rfl⟩
    obtain ⟨y, hy⟩ : ∃ x, x = l'[j] := ⟨_, rfl⟩
    obtain ⟨aa, hqa, hra1⟩ := hap.some (by intro h0; have := flat_length chC 4 chC_len l; rw [h0] at this; simp at this; omega)
    obtain ⟨ab, hqb, hrb1⟩ := hbp.some (by intro h0; have := flat_length chC 4 chC_len l'; rw [h0] at this; simp at this; omega)
    have r1 := Ext.row (hE2.trans hE4) (hra1.at chC_len h1)
    have r2 := Ext.row (hE2.trans hE4) (hrb1.at chC_len h1')
    rw [← hx] at r1; rw [← hy] at r2
    refine W_seq (W_block ?_)
    refine W_sr rfl (s_mv rfl (s_as rfl (s_nil ?_)))
    refine W_qr (Ext w4) orders rfl (by kernel_rfl) (Ext.drew0) (q_fa E rfl rfl (q_ld E rfl rfl (fun w' h => hra w' (hE4.trans h) 1 _ rfl) (q_mv rfl (q_ia (i := j) E rfl (congrArg (fun z => Value.slice z a.chars.length c) hqa) rfl rfl (by omega) (q_lda (xs := chC x) E rfl rfl (fun w' h => Ext.row h r1) rfl (q_fa E rfl rfl (q_ld E rfl rfl (fun w' h => hrb w' (hE4.trans h) 1 _ rfl) (q_mv rfl (q_ia (i := j) E rfl (congrArg (fun z => Value.slice z b.chars.length c') hqb) rfl rfl (by omega) (q_lda (xs := chC y) E rfl rfl (fun w' h => Ext.row h r2) rfl (q_neS (l := chP2 x y) eqS_ch rfl rfl (q_nil ?_))))))))))))
    intro w5 hE5
    rw [chP2_eq]
    refine W_if rfl (fun he => ?_) (fun he => W_skip ?_)
    · have he : x ≠ y := by simpa using he
      refine W_sr rfl (s_as rfl (s_nil ?_))
      exact W_ret (no (fun h => he (by subst h; rw [hx, hy]; simp only [hl, hl'])) (hE4.trans hE5) rfl)
    · have he : x = y := by simpa using he
      refine W_reg rfl (s_add rfl rfl (by omega) (s_mv rfl (s_nil ?_)))
      refine ⟨n - (j + 1), by omega, _, j + 1, u4 rfl rfl rfl rfl, by omega, rfl, hE4.trans hE5, fun t ht ht' htj => ?_⟩
      by_cases e : t = j
      · subst e; rw [← hx, ← hy]; exact he
      · exact hs t ht ht' (by omega)
  · have hd := of_decide_eq_false hd
    exact H _ _ (List.ext_getElem (by omega) fun t h1 h2 => hs t h1 h2 (by omega)) hE4 rfl rfl
end
end Go.Proofs.YthfnijlgmjkedaaGreat
namespace Go.Proofs.YthfnijlgmjkedaaGreat
set_option maxRecDepth 100000
set_option maxHeartbeats 2000000
set_option linter.unusedVariables false
set_option linter.unusedSimpArgs false
open Go Go.Fx Go.Proofs.YthfnijlgmjkedaaGreat.Tab
/-! ## few -/
structure MeD where
  m : Me
  p : Option Addr
  q : Option Addr
  c : Nat
  d : Nat
def MeD.C (x : MeD) : List Value := meC x.m x.p x.q x.c x.d
def fewB (m : Me) : Bool := decide (m.chars.length ≤ 300) && decide (m.rules.length ≤ 600)
section
variable {w : World}
theorem fleuronlaw27_few_c {a : Addr} {n c : Nat} {ms : List MeD} (hn : n = ms.length) (hm : n ≤ 1000) (hp : Row w a (ms.flatMap MeD.C)) :
    Ret Go.Proofs.Tryz.prog 9 #[.slice (some a) n c] w fun v w' => v = .bool (ms.all fun x => fewB x.m) ∧ Ext w w' := by
  refine enter Go.Proofs.Tryz.func9 rfl rfl rfl ?_
  refine W_sr rfl (s_as rfl (s_nil ?_))
  refine W_seq ?_
  refine W_sr rfl (s_mv rfl (s_len E rfl rfl (s_mv rfl (s_nil ?_))))
  refine W_block ?_
  refine W_loop (fun m ρ w' => ∃ ρ' i, ρ = upd (upd (upd ρ' 5 (.slice (some a) n c)) 6 (iV n)) 7 (iV (i : Nat)) ∧ i ≤ n ∧ m = n - i ∧ Ext w w' ∧ ∀ j (h : j < ms.length), j < i → fewB ms[j].m = true) n ⟨_, 0, u3 rfl rfl rfl, by omega, by omega, Mod.refl, fun _ _ h => by omega⟩ ?_
  rintro m _ w1 ⟨ρ, i, rfl, hi, rfl, hE1, ho⟩
  refine W_sr rfl (s_lss rfl rfl (s_nil ?_))
  refine W_seq ?_
  refine W_if rfl (fun hc => W_skip ?_) (fun hc => W_exit ?_)
  · have hc := of_decide_eq_true hc
    have hil : i < ms.length := by omega
    obtain ⟨x, hx⟩ : ∃ x, x = ms[i] := ⟨_, rfl⟩
    have hrr := Ext.row hE1 (hp.at (f := MeD.C) (n := 3) (fun _ => rfl) hil)
    rw [← hx] at hrr
    have hS := Sep.start (w := w1)
    refine W_seq (W_block ?_)
    refine W_sr rfl (s_ia E rfl rfl rfl rfl (by omega) (s_lda (xs := MeD.C x) E rfl rfl hrr rfl (s_alS hS E rfl rfl fun w2 g hS => (s_stS hS 0 E (us := MeD.C x) rfl rfl rfl rfl rfl rfl rfl rfl rfl rfl fun w3 hS => (s_nil ?_)))))
    have hr3 : Row w3 ⟨g, 0, none⟩ (MeD.C x) := hS.row 0 rfl
    have hE3 := hE1.trans hS.ext
    have allF : fewB x.m = false → (ms.all fun x => fewB x.m) = false := fun h => by
      rw [Bool.eq_false_iff]; intro h2
      rw [List.all_eq_true] at h2
      have := h2 x (by rw [hx]; exact List.getElem_mem hil)
      rw [h] at this; cases this
    by_cases h0 : (300 : Int) < (x.m.chars.length : Nat)
    · refine W_sr rfl (s_fa E rfl rfl (s_ld E rfl rfl (hr3 1 _ rfl) (s_len E rfl rfl (s_cmp (c := true) rfl rfl (decide_eq_true h0) (s_mv rfl (s_g0 rfl (s_g0 rfl (s_g0 rfl (s_g0 rfl (s_pk rfl (s_nil ?_)))))))))))
      refine W_if rfl (fun _ => ?_) (fun h => by cases h)
      refine W_sr rfl (s_as rfl (s_nil ?_))
      exact W_ret ⟨_, rfl, by rw [allF (by unfold fewB; rw [decide_eq_false (by omega)]; rfl)]; rfl, hE3⟩
    by_cases h1 : (600 : Int) < (x.m.rules.length : Nat)
    · refine W_sr rfl (s_fa E rfl rfl (s_ld E rfl rfl (hr3 1 _ rfl) (s_len E rfl rfl (s_cmp (c := false) rfl rfl (decide_eq_false h0) (s_mv rfl (s_g1 rfl (s_fa E rfl rfl (s_g1 rfl (s_ld E rfl rfl (hr3 2 _ rfl) (s_g1 rfl (s_len E rfl rfl (s_g1 rfl (s_cmp (c := true) rfl rfl (decide_eq_true h1) (s_pk rfl (s_nil ?_)))))))))))))))
      refine W_if rfl (fun _ => ?_) (fun h => by cases h)
      refine W_sr rfl (s_as rfl (s_nil ?_))
      exact W_ret ⟨_, rfl, by rw [allF (by unfold fewB; rw [decide_eq_false (show ¬ x.m.rules.length ≤ 600 by omega), Bool.and_false])]; rfl, hE3⟩
    · refine W_sr rfl (s_fa E rfl rfl (s_ld E rfl rfl (hr3 1 _ rfl) (s_len E rfl rfl (s_cmp (c := false) rfl rfl (decide_eq_false h0) (s_mv rfl (s_g1 rfl (s_fa E rfl rfl (s_g1 rfl (s_ld E rfl rfl (hr3 2 _ rfl) (s_g1 rfl (s_len E rfl rfl (s_g1 rfl (s_cmp (c := false) rfl rfl (decide_eq_false h1) (s_pk rfl (s_nil ?_)))))))))))))))
      refine W_if rfl (fun h => by cases h) (fun _ => W_skip ?_)
      refine W_reg rfl (s_add rfl rfl (by omega) (s_mv rfl (s_nil ?_)))
      refine ⟨n - (i + 1), by omega, _, i + 1, u3 rfl rfl rfl, by omega, rfl, hE3, fun j h hj => ?_⟩
      by_cases e : j = i
      · subst e; rw [← hx]; unfold fewB; rw [decide_eq_true (by omega), decide_eq_true (by omega)]; rfl
      · exact ho j h (by omega)
  · have hc := of_decide_eq_false hc
    refine W_sr rfl (s_as rfl (s_nil ?_))
    refine W_ret ⟨_, rfl, ?_, hE1⟩
    have : (ms.all fun x => fewB x.m) = true := by
      rw [List.all_eq_true]
      intro x hx
      obtain ⟨i, hi, rfl⟩ := List.getElem_of_mem hx
      exact ho i hi (by omega)
    rw [this]; rfl
/-! ## what awake looks at -/
def wm : Me := ⟨65536, [], []⟩
def wx : Me := ⟨10, [⟨1, 5, -3, 1⟩], [⟨1, 1, 0, -4⟩]⟩
def wb : List Int := [70, 77, 69, 84, 0, 1, 0, 0, 0, 0, 0, 0, 0, 0, 0, 0, 0, 0, 0, 0, 3, 5]
theorem compact_nil : Lib.compact ([] : List Int) = [] := by
  have := (compact_sub []).length_le
  exact List.eq_nil_of_length_eq_zero (by simpa using this)
theorem tabs_wm (j : Nat) : tabs wm j = [] := by
  unfold tabs tabL wm
  simp only [List.map_nil, List.mergeSort_nil, compact_nil]
theorem pack_wm : packM wm = wb := by
  have h : bodyM wm = [70, 77, 69, 84, 0, 1, 0, 0, 0, 0, 0, 0, 0, 0, 0, 0, 0, 0] := by
    unfold bodyM tabsB
    simp only [tabs_wm]
    rfl
  unfold packM
  rw [h]; rfl
theorem valid_wm : validM wm = true := by decide
theorem valid_wx : validM wx = true := by decide
theorem read_wb : readM wb = (wm, false) := by decide +kernel
theorem read_wb0 : readM (wb ++ [0]) = (wm, false) := by decide +kernel
theorem open_wb : openE wb = 0 := by unfold openE; rw [read_wb, pack_wm]; rfl
theorem open_wb0 : openE (wb ++ [0]) = 30 := by unfold openE; rw [read_wb0, pack_wm]; rfl
theorem scale_wx : scaleE wx 5 = 0 ∧ scaleM wx 5 = ⟨5, [⟨1, 3, -1, 1⟩], [⟨1, 1, 0, -2⟩]⟩ := by decide
theorem find_wx : findM wx 1 = (⟨1, 5, -3, 1⟩, 0) ∧ findM wx 2 = (default, 4) ∧ ruleM wx 1 1 = (⟨1, 1, 0, -4⟩, 0) ∧ boxM wx [1, 1] = ((10, -3, 1), 0) := by decide
theorem merge_wx {me : Me} (h : Made wx.size (wx.chars ++ wx.chars) (wx.rules ++ wx.rules) me) : mergeE me = 14 := by
  have h1 := h.pc
  have h2 : me.chars = List.replicate 2 ⟨1, 5, -3, 1⟩ := by
    rw [List.eq_replicate_iff]
    exact ⟨by rw [h1.length_eq]; rfl, fun b hb => by have := h1.mem_iff.1 hb; simpa [wx] using this⟩
  unfold mergeE
  rw [h2]; rfl
theorem of_w {me : Me} (h : Made 10 (([⟨⟨2, 0, 0, 0⟩, none, 0, 0⟩, ⟨⟨1, 0, 0, 0⟩, none, 0, 0⟩] : List Gl).map Gl.ch) [] me) : me = ⟨10, [⟨1, 0, 0, 0⟩, ⟨2, 0, 0, 0⟩], []⟩ ∧ ofE 10 (([⟨⟨2, 0, 0, 0⟩, none, 0, 0⟩, ⟨⟨1, 0, 0, 0⟩, none, 0, 0⟩] : List Gl).map Gl.ch) [] me = 0 := by
  have hr : me.rules = [] := h.pr.eq_nil
  have hl : me.chars.length = 2 := by rw [h.pc.length_eq]; rfl
  have key : me.chars = [⟨1, 0, 0, 0⟩, ⟨2, 0, 0, 0⟩] := by
    have hs := h.sc
    have hp := h.pc
    match hc : me.chars, hl with
    | [a, b], _ =>
      rw [hc] at hs hp
      have ha := hp.mem_iff.1 (List.mem_cons_self (a := a))
      have hb := hp.mem_iff.1 (List.mem_cons_of_mem a (List.mem_cons_self (a := b)))
      have h1 := hp.symm.mem_iff.1 (show (⟨1, 0, 0, 0⟩ : Ch) ∈ _ by simp)
      have h2 := hp.symm.mem_iff.1 (show (⟨2, 0, 0, 0⟩ : Ch) ∈ _ by simp)
      simp only [List.map_cons, List.map_nil, List.mem_cons, List.not_mem_nil, or_false] at ha hb h1 h2
      rcases ha with rfl | rfl <;> rcases hb with rfl | rfl
      · simp at h1
      · exfalso
        have := List.rel_of_pairwise_cons hs (List.mem_cons_self)
        revert this; decide
      · rfl
      · simp at h2
  have e : me = ⟨10, [⟨1, 0, 0, 0⟩, ⟨2, 0, 0, 0⟩], []⟩ := by
    have h1 := h.size
    cases me
    simp only at h1 hr key
    rw [h1, hr, key]
  exact ⟨e, by rw [e]; decide⟩
end
end Go.Proofs.YthfnijlgmjkedaaGreat
namespace Go.Proofs.YthfnijlgmjkedaaGreat
set_option maxRecDepth 100000
set_option maxHeartbeats 4000000
set_option linter.unusedVariables false
set_option linter.unusedSimpArgs false
open Go Go.Fx Go.Proofs.YthfnijlgmjkedaaGreat.Tab
theorem wb_byt : byt wb := by intro x hx; simp [wb] at hx; omega
theorem wb0_byt : byt (wb ++ [0]) := by intro x hx; simp [wb] at hx; omega
theorem MeR.triv {w : World} {p q : Option Addr} : (∀ w', MeR w wm p q → MeR w' wm p q) := fun w' h => ⟨by cases p with | none => rfl | some a => exact Row.nil _ _, by cases q with | none => rfl | some a => exact Row.nil _ _, by decide, by decide⟩
theorem str_of {l : List Int} {b : ByteArray} (h : strOfNums l = b) : ((strOfNums l).toList == b.toList) = true := by rw [h]; exact beq_self_eq_true _
section
variable {w : World}
theorem fleuronlaw27_awake_c : Ret Go.Proofs.Tryz.prog 10 #[] w fun v w' => v = .bool true ∧ Ext w w' := by
  refine enter Go.Proofs.Tryz.func10 rfl rfl rfl ?_
  refine W_sr rfl (s_as rfl (s_nil ?_))
  refine W_sr rfl (s_bld rfl (cells := #[iV 65536, .slice none 0 0, .slice none 0 0]) (by kernel_rfl) (s_call rfl rfl (metric_Pack_c (m := wm) (p := none) (q := none) (c := 0) (d := 0) ⟨rfl, rfl, by decide, by decide⟩ (by decide) (by decide)) ?_))
  rintro v1 w1 ⟨h1, hE1⟩
  rw [if_pos valid_wm, pack_wm] at h1
  obtain ⟨pb, cb, rfl, hcb, hsb, hob, hfb⟩ := h1
  refine (s_mv rfl (s_ex rfl rfl (s_ex rfl rfl (s_as rfl (s_as rfl (s_nil ?_))))))
  have hE0 := hE1
  have hbb : ∀ k, (Value.slice pb wb.length cb).ownBlock = some k → k < w1.heap.size := by
    intro k hk
    rcases hob with h | ⟨_, a, ha, h⟩
    · exact Own.lt h hk
    · rw [ha] at hk; cases hk
      exact World.block_lt_of_cell? w1 a (Row.get0 (x := bV 70) h)
  refine W_n2 1 2 (.slice pb wb.length cb) (iV 0) rfl rfl fun ρ => ?_
  refine W_sr rfl (s_mv rfl (s_call rfl rfl (metric_Open_c (b := wb) rfl (by decide) wb_byt hcb hsb) ?_))
  rintro v2 w2 ⟨h2, hE2⟩
  rw [read_wb, open_wb] at h2
  obtain ⟨pm, qm, cm, dm, rfl, hm⟩ := h2
  refine (s_mv rfl (s_ex rfl rfl (s_ex rfl rfl (s_alst E rfl rfl rfl rfl rfl fun w3 hE3 hs3 hh3 => (s_as rfl (s_nil ?_))))))
  obtain ⟨g3, hg3⟩ : ∃ g, g = w2.heap.size := ⟨_, rfl⟩
  have r3 : Row w3 ⟨g3, 0, none⟩ (meC wm pm qm cm dm) := by rw [hg3]; exact row_heap hh3
  have hEx := hE2.trans hE3
  have hsb := Ext.sl hEx hsb
  have hob := OwnF.mod hEx hob (fun _ _ h => h)
  have hE0 := hE0.trans hEx
  have b3 : w1.heap.size ≤ g3 := by rw [hg3]; exact hE2.size
  refine W_n4 1 2 3 4 (.slice pb wb.length cb) (iV 0) (.pointer (some ⟨g3, 0, none⟩)) (iV 0) rfl rfl (by rw [hg3]; rfl) rfl fun ρ => ?_
  refine W_sr rfl (s_bld rfl (cells := (chC ⟨1, 5, -3, 1⟩).toArray) (by kernel_rfl) (s_bsA E rfl rfl rfl rfl rfl (cells := (chC ⟨1, 5, -3, 1⟩).toArray) (by kernel_rfl) fun w4 hE4 hh4 hs4 => (s_bld rfl (cells := (ruC ⟨1, 1, 0, -4⟩).toArray) (by kernel_rfl) (s_bsA E rfl rfl rfl rfl rfl (cells := (ruC ⟨1, 1, 0, -4⟩).toArray) (by kernel_rfl) fun w5 hE5 hh5 hs5 => (s_bld rfl (cells := #[iV 10, .slice (some ⟨w3.heap.size, 0, none⟩) 1 1, .slice (some ⟨w4.heap.size, 0, none⟩) 1 1]) (by kernel_rfl) (s_alst E rfl rfl rfl rfl rfl fun w6 hE6 hs6 hh6 => (s_nil ?_)))))))
  obtain ⟨g5, hg5⟩ : ∃ g, g = w5.heap.size := ⟨_, rfl⟩
  have r5 : Row w6 ⟨g5, 0, none⟩ (meC wx (some ⟨w3.heap.size, 0, none⟩) (some ⟨w4.heap.size, 0, none⟩) 1 1) := by rw [hg5]; exact row_heap hh6
  have hx : MeR w6 wx (some ⟨w3.heap.size, 0, none⟩) (some ⟨w4.heap.size, 0, none⟩) := ⟨by have := row_heap (Ext.heap (hE5.trans hE6) hh4); exact this, by have := row_heap (Ext.heap hE6 hh5); exact this, by decide, by decide⟩
  have hEx := hE4.trans (hE5.trans hE6)
  have bx : w1.heap.size ≤ w3.heap.size ∧ w3.heap.size < w4.heap.size ∧ w4.heap.size < w5.heap.size := by have := hEx.size; have := hE2.size; have := hE3.size; omega
  obtain ⟨xp, hxp⟩ : ∃ a : Addr, a = ⟨w3.heap.size, 0, none⟩ := ⟨_, rfl⟩
  obtain ⟨xq, hxq⟩ : ∃ a : Addr, a = ⟨w4.heap.size, 0, none⟩ := ⟨_, rfl⟩
  rw [← hxp, ← hxq] at hx r5
  have r3 := Ext.row hEx r3
  have hsb := Ext.sl hEx hsb
  have hob := OwnF.mod hEx hob (fun _ _ h => h)
  have hE0 := hE0.trans hEx
  refine W_n5 1 2 3 4 5 (.slice pb wb.length cb) (iV 0) (.pointer (some ⟨g3, 0, none⟩)) (iV 0) (.pointer (some ⟨g5, 0, none⟩)) rfl rfl rfl rfl (by rw [hg5]; rfl) fun ρ => ?_
  refine W_sr rfl (s_lda (xs := meC wx (some xp) (some xq) 1 1) E rfl rfl r5 rfl (s_call rfl rfl (metric_Scale_c (m := wx) (size := 5) (p := some xp) (q := some xq) (c := 1) (d := 1) hx) ?_))
  rintro v7 w7 ⟨h7, hf7, hE7⟩
  rw [scale_wx.1, scale_wx.2] at h7
  obtain ⟨ps, qs, cs, ds, rfl, hs⟩ := h7
  have hf7 := hf7.get
  refine (s_mv rfl (s_ex rfl rfl (s_ex rfl rfl (s_alst E rfl rfl rfl rfl rfl fun w8 hE8 hs8 hh8 => (s_as rfl (s_nil ?_))))))
  obtain ⟨g6, hg6⟩ : ∃ g, g = w7.heap.size := ⟨_, rfl⟩
  obtain ⟨sm, hsm⟩ : ∃ s : Me, s = ⟨5, [⟨1, 3, -1, 1⟩], [⟨1, 1, 0, -2⟩]⟩ := ⟨_, rfl⟩
  have hs : MeR w7 sm ps qs := by rw [hsm]; exact hs
  have r6 : Row w8 ⟨g6, 0, none⟩ (meC sm ps qs cs ds) := by rw [hg6, hsm]; exact row_heap hh8
  have hEx := hE7.trans hE8
  have b6 : w1.heap.size ≤ g6 := by rw [hg6]; have := hE2.size; have := hE3.size; have := hE4.size; have := hE5.size; have := hE6.size; have := hE7.size; omega
  have fs : (∀ a, ps = some a → w1.heap.size ≤ a.block) ∧ ∀ a, qs = some a → w1.heap.size ≤ a.block := by
    have := hE2.size; have := hE3.size; have := hE4.size; have := hE5.size; have := hE6.size
    exact ⟨fun a ha => by have := hf7.1 a ha; omega, fun a ha => by have := hf7.2 a ha; omega⟩
  have hs := hs.ext hE8
  have r3 := Ext.row hEx r3
  have r5 := Ext.row hEx r5
  have hx := MeR.ext hx hEx
  have hsb := Ext.sl hEx hsb
  have hob := OwnF.mod hEx hob (fun _ _ h => h)
  have hE0 := hE0.trans hEx
  refine W_n7 1 2 3 4 5 6 7 (.slice pb wb.length cb) (iV 0) (.pointer (some ⟨g3, 0, none⟩)) (iV 0) (.pointer (some ⟨g5, 0, none⟩)) (.pointer (some ⟨g6, 0, none⟩)) (iV 0) rfl rfl rfl rfl rfl (by rw [hg6]; rfl) rfl fun ρ => ?_
  have sz1 : w1.heap.size ≤ w8.heap.size := by have := hE2.size; have := hE3.size; have := hE4.size; have := hE5.size; have := hE6.size; have := hEx.size; omega
  have hcall := metric_Find_c (m := wx) (code := 1) (p := some xp) (q := some xq) (c := 1) (d := 1) hx
  rw [find_wx.1] at hcall
  refine W_sr rfl (s_lda (xs := meC wx (some xp) (some xq) 1 1) E rfl rfl r5 rfl (s_callx rfl rfl hcall fun w9 hEw9 => (s_mv rfl (s_ex rfl rfl (s_ex rfl rfl (s_alst E rfl rfl rfl rfl rfl fun w10 hEw10 hsw10 hhw10 => (s_as rfl (s_nil ?_))))))))
  obtain ⟨g8, hg8⟩ : ∃ g, g = w9.heap.size := ⟨_, rfl⟩
  have r8 : Row w10 ⟨g8, 0, none⟩ (chC ⟨1, 5, -3, 1⟩) := by rw [hg8]; exact row_heap hhw10
  have hEx := hEw9.trans hEw10
  have bg8 : w1.heap.size ≤ g8 := by rw [hg8]; have := sz1; have := hEw9.size; omega
  have sz1 : w1.heap.size ≤ w10.heap.size := by have := sz1; have := hEx.size; omega
  have r3 := Ext.row hEx r3
  have r5 := Ext.row hEx r5
  have hx := MeR.ext hx hEx
  have r6 := Ext.row hEx r6
  have hs := MeR.ext hs hEx
  have hsb := Ext.sl hEx hsb
  have hob := OwnF.mod hEx hob (fun _ _ h => h)
  have hE0 := hE0.trans hEx
  refine W_n9 1 2 3 4 5 6 7 8 9 (.slice pb wb.length cb) (iV 0) (.pointer (some ⟨g3, 0, none⟩)) (iV 0) (.pointer (some ⟨g5, 0, none⟩)) (.pointer (some ⟨g6, 0, none⟩)) (iV 0) (.pointer (some ⟨g8, 0, none⟩)) (iV 0) rfl rfl rfl rfl rfl rfl rfl (by rw [hg8]; rfl) rfl fun ρ => ?_
  have hcall := metric_Find_c (m := wx) (code := 2) (p := some xp) (q := some xq) (c := 1) (d := 1) hx
  rw [find_wx.2.1] at hcall
  refine W_sr rfl (s_lda (xs := meC wx (some xp) (some xq) 1 1) E rfl rfl r5 rfl (s_callx rfl rfl hcall fun w11 hEw11 => (s_mv rfl (s_ex rfl rfl (s_ex rfl rfl (s_alst E rfl rfl rfl rfl rfl fun w12 hEw12 hsw12 hhw12 => (s_as rfl (s_nil ?_))))))))
  have hEx := hEw11.trans hEw12
  have sz1 : w1.heap.size ≤ w12.heap.size := by have := sz1; have := hEx.size; omega
  have r3 := Ext.row hEx r3
  have r5 := Ext.row hEx r5
  have hx := MeR.ext hx hEx
  have r6 := Ext.row hEx r6
  have hs := MeR.ext hs hEx
  have hsb := Ext.sl hEx hsb
  have hob := OwnF.mod hEx hob (fun _ _ h => h)
  have r8 := Ext.row hEx r8
  have hE0 := hE0.trans hEx
  refine W_n10 1 2 3 4 5 6 7 8 9 11 (.slice pb wb.length cb) (iV 0) (.pointer (some ⟨g3, 0, none⟩)) (iV 0) (.pointer (some ⟨g5, 0, none⟩)) (.pointer (some ⟨g6, 0, none⟩)) (iV 0) (.pointer (some ⟨g8, 0, none⟩)) (iV 0) (iV 4) rfl rfl rfl rfl rfl rfl rfl rfl rfl rfl fun ρ => ?_
  have hcall := metric_Rule_c (m := wx) (first := 1) (next := 1) (p := some xp) (q := some xq) (c := 1) (d := 1) hx
  rw [find_wx.2.2.1] at hcall
  refine W_sr rfl (s_lda (xs := meC wx (some xp) (some xq) 1 1) E rfl rfl r5 rfl (s_callx rfl rfl hcall fun w13 hEw13 => (s_mv rfl (s_ex rfl rfl (s_ex rfl rfl (s_alst E rfl rfl rfl rfl rfl fun w14 hEw14 hsw14 hhw14 => (s_as rfl (s_nil ?_))))))))
  obtain ⟨g12, hg12⟩ : ∃ g, g = w13.heap.size := ⟨_, rfl⟩
  have r12 : Row w14 ⟨g12, 0, none⟩ (ruC ⟨1, 1, 0, -4⟩) := by rw [hg12]; exact row_heap hhw14
  have hEx := hEw13.trans hEw14
  have bg12 : w1.heap.size ≤ g12 := by rw [hg12]; have := sz1; have := hEw13.size; omega
  have sz1 : w1.heap.size ≤ w14.heap.size := by have := sz1; have := hEx.size; omega
  have r3 := Ext.row hEx r3
  have r5 := Ext.row hEx r5
  have hx := MeR.ext hx hEx
  have r6 := Ext.row hEx r6
  have hs := MeR.ext hs hEx
  have hsb := Ext.sl hEx hsb
  have hob := OwnF.mod hEx hob (fun _ _ h => h)
  have r8 := Ext.row hEx r8
  have hE0 := hE0.trans hEx
  refine W_n12 1 2 3 4 5 6 7 8 9 11 12 13 (.slice pb wb.length cb) (iV 0) (.pointer (some ⟨g3, 0, none⟩)) (iV 0) (.pointer (some ⟨g5, 0, none⟩)) (.pointer (some ⟨g6, 0, none⟩)) (iV 0) (.pointer (some ⟨g8, 0, none⟩)) (iV 0) (iV 4) (.pointer (some ⟨g12, 0, none⟩)) (iV 0) rfl rfl rfl rfl rfl rfl rfl rfl rfl rfl (by rw [hg12]; rfl) rfl fun ρ => ?_
  refine W_sr rfl (s_lda (xs := meC wx (some xp) (some xq) 1 1) E rfl rfl r5 rfl (s_bsA E rfl rfl rfl rfl rfl (cells := #[iV 1, iV 1]) (by kernel_rfl) fun w15 hE15 hh15 hs15 => (s_callx rfl rfl (Ret.eqv (metric_Box_c (m := wx) (codes := [1, 1]) (MeR.ext hx hE15) rfl (by decide) (by have := row_heap hh15; exact this)) (by rw [find_wx.2.2.2])) fun w16 hE16 => (s_mv rfl (s_ex rfl rfl (s_ex rfl rfl (s_alst E rfl rfl rfl rfl rfl fun w17 hE17 hs17 hh17 => (s_as rfl (s_nil ?_)))))))))
  obtain ⟨g14, hg14⟩ : ∃ g, g = w16.heap.size := ⟨_, rfl⟩
  have r14 : Row w17 ⟨g14, 0, none⟩ (bxC (10, -3, 1)) := by rw [hg14]; exact row_heap hh17
  have hEx := hE15.trans (hE16.trans hE17)
  have bg14 : w1.heap.size ≤ g14 := by rw [hg14]; have := sz1; have := hE15.size; have := hE16.size; omega
  have sz1 : w1.heap.size ≤ w17.heap.size := by have := sz1; have := hEx.size; omega
  have r3 := Ext.row hEx r3
  have r5 := Ext.row hEx r5
  have hx := MeR.ext hx hEx
  have r6 := Ext.row hEx r6
  have hs := MeR.ext hs hEx
  have hsb := Ext.sl hEx hsb
  have hob := OwnF.mod hEx hob (fun _ _ h => h)
  have r8 := Ext.row hEx r8
  have r12 := Ext.row hEx r12
  have hE0 := hE0.trans hEx
  refine W_n14 1 2 3 4 5 6 7 8 9 11 12 13 14 15 (.slice pb wb.length cb) (iV 0) (.pointer (some ⟨g3, 0, none⟩)) (iV 0) (.pointer (some ⟨g5, 0, none⟩)) (.pointer (some ⟨g6, 0, none⟩)) (iV 0) (.pointer (some ⟨g8, 0, none⟩)) (iV 0) (iV 4) (.pointer (some ⟨g12, 0, none⟩)) (iV 0) (.pointer (some ⟨g14, 0, none⟩)) (iV 0) rfl rfl rfl rfl rfl rfl rfl rfl rfl rfl rfl rfl (by rw [hg14]; rfl) rfl fun ρ => ?_
  refine W_sr rfl (s_lda (xs := meC wx (some xp) (some xq) 1 1) E rfl rfl r5 rfl (s_lda (xs := meC wx (some xp) (some xq) 1 1) E rfl rfl r5 rfl (s_call rfl rfl (metric_Merge_c (a := wx) (b := wx) (p := some xp) (q := some xq) (p' := some xp) (q' := some xq) (c := 1) (d := 1) (c' := 1) (d' := 1) hx hx (by decide) (by decide) (by simp)) ?_)))
  rintro v18 w18 ⟨h18, hE18⟩
  rw [if_pos (by rw [valid_wx]; rfl), if_pos rfl] at h18
  obtain ⟨me, hme, h18⟩ := h18
  rw [merge_wx hme] at h18
  obtain ⟨pg, qg, cg, dg, rfl, _⟩ := h18
  refine (s_mv rfl (s_ex rfl rfl (s_ex rfl rfl (s_alst E rfl rfl rfl rfl rfl fun w19 hE19 hs19 hh19 => (s_as rfl (s_nil ?_))))))
  have hEx := hE18.trans hE19
  have sz1 : w1.heap.size ≤ w19.heap.size := by have := sz1; have := hEx.size; omega
  have r3 := Ext.row hEx r3
  have r5 := Ext.row hEx r5
  have hx := MeR.ext hx hEx
  have r6 := Ext.row hEx r6
  have hs := MeR.ext hs hEx
  have hsb := Ext.sl hEx hsb
  have hob := OwnF.mod hEx hob (fun _ _ h => h)
  have r8 := Ext.row hEx r8
  have r12 := Ext.row hEx r12
  have r14 := Ext.row hEx r14
  have hE0 := hE0.trans hEx
  refine W_n15 1 2 3 4 5 6 7 8 9 11 12 13 14 15 17 (.slice pb wb.length cb) (iV 0) (.pointer (some ⟨g3, 0, none⟩)) (iV 0) (.pointer (some ⟨g5, 0, none⟩)) (.pointer (some ⟨g6, 0, none⟩)) (iV 0) (.pointer (some ⟨g8, 0, none⟩)) (iV 0) (iV 4) (.pointer (some ⟨g12, 0, none⟩)) (iV 0) (.pointer (some ⟨g14, 0, none⟩)) (iV 0) (iV 14) rfl rfl rfl rfl rfl rfl rfl rfl rfl rfl rfl rfl rfl rfl rfl fun ρ => ?_
  refine W_sr rfl (s_bld rfl (cells := (glC ⟨⟨2, 0, 0, 0⟩, none, 0, 0⟩).toArray) (by kernel_rfl) (s_bld rfl (cells := (glC ⟨⟨1, 0, 0, 0⟩, none, 0, 0⟩).toArray) (by kernel_rfl) (s_bsA E rfl rfl rfl rfl rfl (cells := (glC ⟨⟨2, 0, 0, 0⟩, none, 0, 0⟩ ++ glC ⟨⟨1, 0, 0, 0⟩, none, 0, 0⟩).toArray) (by kernel_rfl) fun w20 hE20 hh20 hs20 => (s_call rfl rfl (metric_Of_c (size := 10) (gs := [⟨⟨2, 0, 0, 0⟩, none, 0, 0⟩, ⟨⟨1, 0, 0, 0⟩, none, 0, 0⟩]) (k := []) (q := none) rfl rfl (by decide) (by decide) (by have := row_heap hh20; exact this) rfl) ?_))))
  rintro v21 w21 ⟨⟨mo, hmo, h21, hf21⟩, hE21⟩
  obtain ⟨hmo1, hmo2⟩ := of_w hmo
  rw [hmo2] at h21
  obtain ⟨pn, qn, cn, dn, rfl, hn⟩ := h21
  have hf21 := hf21.get
  refine (s_mv rfl (s_ex rfl rfl (s_ex rfl rfl (s_alst E rfl rfl rfl rfl rfl fun w22 hE22 hs22 hh22 => (s_as rfl (s_nil ?_))))))
  obtain ⟨g18, hg18⟩ : ∃ g, g = w21.heap.size := ⟨_, rfl⟩
  have hn : MeR w21 mo pn qn := hn
  have r18 : Row w22 ⟨g18, 0, none⟩ (meC mo pn qn cn dn) := by rw [hg18]; exact row_heap hh22
  have hEx := hE20.trans (hE21.trans hE22)
  have bg18 : w1.heap.size ≤ g18 := by rw [hg18]; have := sz1; have := hE20.size; have := hE21.size; omega
  have fn : (∀ a, pn = some a → w1.heap.size ≤ a.block) ∧ ∀ a, qn = some a → w1.heap.size ≤ a.block := by
    have := sz1; have := hE20.size
    exact ⟨fun a ha => by have := hf21.1 a ha; omega, fun a ha => by have := hf21.2 a ha; omega⟩
  have sz1 : w1.heap.size ≤ w22.heap.size := by have := sz1; have := hEx.size; omega
  have hn := hn.ext hE22
  have r3 := Ext.row hEx r3
  have r5 := Ext.row hEx r5
  have hx := MeR.ext hx hEx
  have r6 := Ext.row hEx r6
  have hs := MeR.ext hs hEx
  have hsb := Ext.sl hEx hsb
  have hob := OwnF.mod hEx hob (fun _ _ h => h)
  have r8 := Ext.row hEx r8
  have r12 := Ext.row hEx r12
  have r14 := Ext.row hEx r14
  have hE0 := hE0.trans hEx
  refine W_n17 1 2 3 4 5 6 7 8 9 11 12 13 14 15 17 18 19 (.slice pb wb.length cb) (iV 0) (.pointer (some ⟨g3, 0, none⟩)) (iV 0) (.pointer (some ⟨g5, 0, none⟩)) (.pointer (some ⟨g6, 0, none⟩)) (iV 0) (.pointer (some ⟨g8, 0, none⟩)) (iV 0) (iV 4) (.pointer (some ⟨g12, 0, none⟩)) (iV 0) (.pointer (some ⟨g14, 0, none⟩)) (iV 0) (iV 14) (.pointer (some ⟨g18, 0, none⟩)) (iV 0) rfl rfl rfl rfl rfl rfl rfl rfl rfl rfl rfl rfl rfl rfl rfl (by rw [hg18]; rfl) rfl fun ρ => ?_
  refine W_sr rfl (s_mv rfl (s_bsA E rfl rfl rfl rfl rfl (cells := #[bV 0]) (by kernel_rfl) fun w23 hE23 hh23 hs23 => (s_apK E rfl rfl rfl rfl (OwnF.mod hE23 hob (fun _ _ h => h)) rfl rfl (row_heap hh23) rfl rfl rfl (by decide) fun v24 w24 ho24 hM24 hs24 => ?_)))
  obtain ⟨pa, ca, rfl, hpa, hca, _⟩ := ho24.form
  refine (s_call rfl rfl (metric_Open_c (b := wb ++ [0]) rfl (by decide) wb0_byt hca (by have := hpa; exact this)) ?_)
  rintro v25 w25 ⟨h25, hE25⟩
  rw [read_wb0, open_wb0] at h25
  obtain ⟨pz, qz, cz, dz, rfl, _⟩ := h25
  refine (s_mv rfl (s_ex rfl rfl (s_ex rfl rfl (s_alst E rfl rfl rfl rfl rfl fun w26 hE26 hs26 hh26 => (s_as rfl (s_nil ?_))))))
  have hEz := hE25.trans hE26
  have hlow : ∀ {a : Addr}, w1.heap.size ≤ a.block → ¬ (Value.slice pb wb.length cb).ownBlock = some a.block := fun h h2 => by have := hbb _ h2; omega
  have rowB : ∀ {a : Addr} {xs : List Value}, w1.heap.size ≤ a.block → Row w22 a xs → Row w26 a xs := fun h hr => Ext.row hEz (hM24.row (Ext.row hE23 hr) (hlow h))
  have slB : ∀ {p : Option Addr} {xs : List Value}, (∀ a, p = some a → w1.heap.size ≤ a.block) → SlR w22 p xs → SlR w26 p xs := fun {p xs} h hr => by
    cases p with
    | none => exact hr
    | some a => exact rowB (h a rfl) hr
  have r3 := rowB (a := ⟨g3, 0, none⟩) b3 r3
  have r5 := rowB (a := ⟨g5, 0, none⟩) (by show w1.heap.size ≤ g5; omega) r5
  have r6 := rowB (a := ⟨g6, 0, none⟩) b6 r6
  have r8 := rowB (a := ⟨g8, 0, none⟩) bg8 r8
  have r12 := rowB (a := ⟨g12, 0, none⟩) bg12 r12
  have r14 := rowB (a := ⟨g14, 0, none⟩) bg14 r14
  have r18 := rowB (a := ⟨g18, 0, none⟩) bg18 r18
  have hx : MeR w26 wx (some xp) (some xq) := ⟨slB (fun a ha => by cases ha; rw [hxp]; exact bx.1) hx.ch, slB (fun a ha => by cases ha; rw [hxq]; show w1.heap.size ≤ w4.heap.size; omega) hx.ru, hx.nch, hx.nru⟩
  have hs : MeR w26 sm ps qs := ⟨slB fs.1 hs.ch, slB fs.2 hs.ru, hs.nch, hs.nru⟩
  have hn : MeR w26 mo pn qn := ⟨slB fn.1 hn.ch, slB fn.2 hn.ru, hn.nch, hn.nru⟩
  have hm26 : MeR w26 wm pm qm := MeR.triv w26 hm
  have hsb : SlR w26 pb (wb.map bV) := Ext.sl hEz hs24
  have hE26 : Ext w w26 := (Ext.thenMod (hE0.trans hE23) hM24 (fun k hk h => by have := hfb k h; omega)).trans hEz
  have hc8 : 8 ≤ cb := by have : wb.length = 22 := rfl; omega
  have hs8 : SlR w26 (slP pb 0 cb 1) ((wb.take 8).map (Value.int .u8)) := SlR.part (l := 0) (h := 8) (m := cb) (s := 1) hsb (by decide) hc8 (by decide)
  refine W_n18 1 2 3 4 5 6 7 8 9 11 12 13 14 15 17 18 19 21 (.slice pb wb.length cb) (iV 0) (.pointer (some ⟨g3, 0, none⟩)) (iV 0) (.pointer (some ⟨g5, 0, none⟩)) (.pointer (some ⟨g6, 0, none⟩)) (iV 0) (.pointer (some ⟨g8, 0, none⟩)) (iV 0) (iV 4) (.pointer (some ⟨g12, 0, none⟩)) (iV 0) (.pointer (some ⟨g14, 0, none⟩)) (iV 0) (iV 14) (.pointer (some ⟨g18, 0, none⟩)) (iV 0) (iV 30) rfl rfl rfl rfl rfl rfl rfl rfl rfl rfl rfl rfl rfl rfl rfl rfl rfl rfl fun ρ => ?_
  refine W_seq ?_
  refine W_sr rfl (s_mv rfl (s_len E rfl rfl (s_cmp (c := false) rfl rfl (by decide) (s_mv rfl (s_g1 rfl (s_fa E rfl rfl (s_g1 rfl (s_ld E rfl rfl (r6 1 _ rfl) (s_g1 rfl (s_len E rfl rfl (s_g1 rfl (s_cmp (c := false) rfl rfl (by rw [hsm]; decide) (s_pk rfl (s_mv rfl (s_g1 rfl (s_fa E rfl rfl (s_g1 rfl (s_ld E rfl rfl (r18 1 _ rfl) (s_g1 rfl (s_len E rfl rfl (s_g1 rfl (s_cmp (c := false) rfl rfl (by rw [hmo1]; decide) (s_pk rfl (s_nil ?_))))))))))))))))))))))))
  refine W_if rfl (fun h => by cases h) (fun _ => W_skip ?_)
  refine W_n18 1 2 3 4 5 6 7 8 9 11 12 13 14 15 17 18 19 21 (.slice pb wb.length cb) (iV 0) (.pointer (some ⟨g3, 0, none⟩)) (iV 0) (.pointer (some ⟨g5, 0, none⟩)) (.pointer (some ⟨g6, 0, none⟩)) (iV 0) (.pointer (some ⟨g8, 0, none⟩)) (iV 0) (iV 4) (.pointer (some ⟨g12, 0, none⟩)) (iV 0) (.pointer (some ⟨g14, 0, none⟩)) (iV 0) (iV 14) (.pointer (some ⟨g18, 0, none⟩)) (iV 0) (iV 30) rfl rfl rfl rfl rfl rfl rfl rfl rfl rfl rfl rfl rfl rfl rfl rfl rfl rfl fun ρ => ?_
  obtain ⟨asl, hps, hsr⟩ := hs.ch.some (by rw [hsm]; simp [chC])
  obtain ⟨bs, hqs, hsq⟩ := hs.ru.some (by rw [hsm]; simp [ruC])
  obtain ⟨an, hpn, hnr⟩ := hn.ch.some (by rw [hmo1]; simp [chC])
  have c1 : ∀ w', Ext w26 w' → w'.cell? ((asl.add (0 * 4)).add 1) = some (iV 3) := fun w' h => by rw [add_add]; exact Ext.row h hsr 1 _ (by rw [hsm]; rfl)
  have c2 : ∀ w', Ext w26 w' → w'.cell? ((asl.add (0 * 4)).add 2) = some (iV (-1)) := fun w' h => by rw [add_add]; exact Ext.row h hsr 2 _ (by rw [hsm]; rfl)
  have c3 : ∀ w', Ext w26 w' → w'.cell? ((bs.add (0 * 4)).add 3) = some (iV (-2)) := fun w' h => by rw [add_add]; exact Ext.row h hsq 3 _ (by rw [hsm]; rfl)
  have c4 : ∀ w', Ext w26 w' → w'.cell? ((an.add (0 * 4)).add 0) = some (iV 1) := fun w' h => by rw [add_add]; exact Ext.row h hnr 0 _ (by rw [hmo1]; rfl)
  have l1 : 0 < sm.chars.length := by rw [hsm]; decide
  have l2 : 0 < sm.rules.length := by rw [hsm]; decide
  have l3 : 0 < mo.chars.length := by rw [hmo1]; decide
  refine W_sr rfl (s_mv rfl (s_slc E rfl rfl (sb_h (h := 8) rfl hc8) (s_str (l := wb.take 8) E rfl rfl (by kernel_rfl) rfl rfl hs8 (s_eqsc rfl rfl (str_of rfl) (s_mv rfl (s_g1 rfl (s_mv rfl (s_g1 rfl (s_cmp (c := true) rfl rfl (by decide) (s_pk rfl (s_mv rfl (s_g1 rfl (s_lda (xs := meC wm pm qm cm dm) E rfl rfl r3 rfl (s_g1 rfl (s_bld rfl (cells := #[iV 65536, .slice none 0 0, .slice none 0 0]) (by kernel_rfl) (s_g1 rfl (s_callx rfl rfl (Ret.eqv (fleuronref27_Same_c (a := wm) (b := wm) (p := pm) (q := qm) (c := cm) (d := dm) (p' := none) (q' := none) (c' := 0) (d' := 0) hm26 ⟨rfl, rfl, by decide, by decide⟩) (congrArg Value.bool (decide_eq_true rfl))) fun w27 hE27 => (s_pk rfl (s_mv rfl (s_g1 rfl (s_mv rfl (s_g1 rfl (s_cmp (c := true) rfl rfl (by decide) (s_pk rfl (s_mv rfl (s_g1 rfl (s_fa E rfl rfl (s_g1 rfl (s_ld E rfl rfl (Ext.row hE27 r6 1 _ rfl) (s_g1 rfl (s_ia (i := 0) E rfl (congrArg (fun z => Value.slice z sm.chars.length cs) hps) rfl rfl l1 (s_g1 rfl (s_fa E rfl rfl (s_g1 rfl (s_ld E rfl rfl (c1 _ hE27) (s_g1 rfl (s_cmp (c := true) rfl rfl (by decide) (s_pk rfl (s_mv rfl (s_g1 rfl (s_fa E rfl rfl (s_g1 rfl (s_ld E rfl rfl (Ext.row hE27 r6 1 _ rfl) (s_g1 rfl (s_ia (i := 0) E rfl (congrArg (fun z => Value.slice z sm.chars.length cs) hps) rfl rfl l1 (s_g1 rfl (s_fa E rfl rfl (s_g1 rfl (s_ld E rfl rfl (c2 _ hE27) (s_g1 rfl (s_cmp (c := true) rfl rfl (by decide) (s_pk rfl (s_mv rfl (s_g1 rfl (s_fa E rfl rfl (s_g1 rfl (s_ld E rfl rfl (Ext.row hE27 r6 2 _ rfl) (s_g1 rfl (s_ia (i := 0) E rfl (congrArg (fun z => Value.slice z sm.rules.length ds) hqs) rfl rfl l2 (s_g1 rfl (s_fa E rfl rfl (s_g1 rfl (s_ld E rfl rfl (c3 _ hE27) (s_g1 rfl (s_cmp (c := true) rfl rfl (by decide) (s_pk rfl (s_mv rfl (s_g1 rfl (s_mv rfl (s_g1 rfl (s_cmp (c := true) rfl rfl (by decide) (s_pk rfl (s_mv rfl (s_g1 rfl (s_fa E rfl rfl (s_g1 rfl (s_ld E rfl rfl (Ext.row hE27 r8 1 _ rfl) (s_g1 rfl (s_cmp (c := true) rfl rfl (by decide) (s_pk rfl (s_mv rfl (s_g1 rfl (s_mv rfl (s_g1 rfl (s_cmp (c := true) rfl rfl (by decide) (s_pk rfl (s_mv rfl (s_g1 rfl (s_mv rfl (s_g1 rfl (s_cmp (c := true) rfl rfl (by decide) (s_pk rfl (s_mv rfl (s_g1 rfl (s_fa E rfl rfl (s_g1 rfl (s_ld E rfl rfl (Ext.row hE27 r12 3 _ rfl) (s_g1 rfl (s_cmp (c := true) rfl rfl (by decide) (s_pk rfl (s_mv rfl (s_g1 rfl (s_mv rfl (s_g1 rfl (s_cmp (c := true) rfl rfl (by decide) (s_pk rfl (s_mv rfl (s_g1 rfl (s_lda (xs := bxC (10, -3, 1)) E rfl rfl (Ext.row hE27 r14) rfl (s_g1 rfl (s_bld rfl (cells := (bxC (10, -3, 1)).toArray) (by kernel_rfl) (s_g1 rfl (s_eqA3 E rfl rfl (by kernel_rfl) rfl rfl (c := true) (by decide) (s_pk rfl (s_mv rfl (s_g1 rfl (s_mv rfl (s_g1 rfl (s_cmp (c := true) rfl rfl (by decide) (s_pk rfl (s_mv rfl (s_g1 rfl (s_mv rfl (s_g1 rfl (s_cmp (c := true) rfl rfl (by decide) (s_pk rfl (s_mv rfl (s_g1 rfl (s_fa E rfl rfl (s_g1 rfl (s_ld E rfl rfl (Ext.row hE27 r18 1 _ rfl) (s_g1 rfl (s_ia (i := 0) E rfl (congrArg (fun z => Value.slice z mo.chars.length cn) hpn) rfl rfl l3 (s_g1 rfl (s_fa E rfl rfl (s_g1 rfl (s_ld E rfl rfl (c4 _ hE27) (s_g1 rfl (s_cmp (c := true) rfl rfl (by decide) (s_pk rfl (s_mv rfl (s_g1 rfl (s_mv rfl (s_g1 rfl (s_cmp (c := true) rfl rfl (by decide) (s_pk rfl (s_mv rfl (s_g1 rfl (s_mv rfl (s_g1 rfl (s_cmp (c := true) rfl rfl (by decide) (s_pk rfl (s_mv rfl (s_g1 rfl (s_lda (xs := meC wx (some xp) (some xq) 1 1) E rfl rfl (Ext.row hE27 r5) rfl (s_g1 rfl (s_callx rfl rfl (Ret.eqv (metric_Valid_c (m := wx) (p := some xp) (q := some xq) (c := 1) (d := 1) (MeR.ext hx hE27)) (congrArg Value.bool valid_wx)) fun w28 hE28 => (s_pk rfl (s_mv rfl (s_g1 rfl (s_bld rfl (cells := (meC me0 none none 0 0).toArray) (by kernel_rfl) (s_g1 rfl (s_callx rfl rfl (Ret.eqv (metric_Valid_c (m := me0) (p := none) (q := none) (c := 0) (d := 0) (meR_zero _)) (congrArg Value.bool (show validM me0 = false by decide))) fun w29 hE29 => (s_g1 rfl (s_not rfl (s_pk rfl (s_as rfl (s_nil ?_))))))))))))))))))))))))))))))))))))))))))))))))))))))))))))))))))))))))))))))))))))))))))))))))))))))))))))))))))))))))))))))))))))))))))))))))))))))))))))))))))))))))
  exact W_ret ⟨_, rfl, rfl, hE26.trans (hE27.trans (hE28.trans hE29))⟩
end
end Go.Proofs.YthfnijlgmjkedaaGreat
namespace Go.Proofs.YthfnijlgmjkedaaGreat
set_option maxRecDepth 100000
set_option maxHeartbeats 1000000
set_option linter.unusedVariables false
set_option linter.unusedSimpArgs false
open Go Go.Fx Go.Proofs.YthfnijlgmjkedaaGreat.Tab
theorem find_at {α : Type} {p : α → Bool} {l : List α} {i : Nat} (hi : i < l.length) (h : ∀ j (hj : j < i), p l[j] = false) (hp : p l[i] = true) : l.find? p = some l[i] := by
  induction l generalizing i with
  | nil => simp at hi
  | cons a l ih =>
    cases i with
    | zero => simp only [List.getElem_cons_zero] at hp ⊢; simp [hp]
    | succ i =>
      have h0 := h 0 (by omega)
      simp only [List.getElem_cons_zero] at h0
      simp only [List.getElem_cons_succ] at hp ⊢
      rw [List.find?_cons_of_neg (by simp [h0])]
      exact ih (by simpa using hi) (fun j hj => by have := h (j + 1) (by omega); simpa using this) hp
theorem find_no {α : Type} {p : α → Bool} {l : List α} (h : ∀ j (hj : j < l.length), p l[j] = false) : l.find? p = none := by
  rw [List.find?_eq_none]
  intro x hx
  obtain ⟨j, hj, rfl⟩ := List.getElem_of_mem hx
  simp [h j hj]
def fndM (m : Me) (code : Int) : Ch × Int := if validM m then (match m.chars.find? (fun c => decide (c.code = code)) with | some c => (c, 0) | none => (default, 4)) else (default, 2)
def forM (l : List Ru) (first next : Int) : Ru × Bool := match l.find? (fun r => decide (r.first = first) && decide (r.next = next)) with | some r => (r, true) | none => (default, false)
def rulM (m : Me) (first next : Int) : Ru × Int := if validM m then (if (forM m.rules first next).2 then ((forM m.rules first next).1, 0) else (default, 4)) else (default, 2)
def atL (l : List Int) (i : Int) : Int := if i < l.length then l.getD i.toNat 0 else 0
def fidx (l : List Int) (n : Int) : Nat := match l.findIdx? (fun x => decide (x = n)) with | some i => i | none => 0
theorem fidx_at {l : List Int} {n : Int} {i : Nat} (hi : i < l.length) (h : ∀ j (hj : j < i), l[j] ≠ n) (hp : l[i] = n) : fidx l n = i := by
  unfold fidx
  have : l.findIdx? (fun x => decide (x = n)) = some i := by
    rw [List.findIdx?_eq_some_iff_getElem]
    exact ⟨hi, by simpa using hp, fun j hj => by simpa using h j hj⟩
  rw [this]
theorem fidx_no {l : List Int} {n : Int} (h : ∀ j (hj : j < l.length), l[j] ≠ n) : fidx l n = 0 := by
  unfold fidx
  have : l.findIdx? (fun x => decide (x = n)) = none := by
    rw [List.findIdx?_eq_none_iff]
    intro x hx
    obtain ⟨j, hj, rfl⟩ := List.getElem_of_mem hx
    simpa using h j hj
  rw [this]
section
variable {w : World}
theorem fleuronref16_Floor_c {a b : Int} (hb : 0 < b) (ha : -4611686018427387904 ≤ a ∧ a ≤ 4611686018427387904) : Ret Go.Proofs.Tryz.prog 64 #[iV a, iV b] w fun v w' => v = iV (a / b) ∧ w' = w := by
  refine enter Go.Proofs.Tryz.func64 rfl rfl rfl ?_
  refine W_sr rfl (s_as rfl (s_nil ?_))
  have hft := floor_trunc a b hb
  have hqd : -4611686018427387904 ≤ a.tdiv b ∧ a.tdiv b ≤ 4611686018427387904 := by
    have h1 := Int.natAbs_tdiv_le_natAbs a b
    omega
  have eq : IntKind.i64.wrap (a.tdiv b) = a.tdiv b := wrap64_in (by omega) (by omega)
  refine W_sr rfl (s_mv rfl (s_mv rfl (s_quow rfl rfl (by omega) (s_as rfl (s_nil ?_)))))
  refine W_n3 0 1 5 (iV a) (iV b) (iV (a.tdiv b)) rfl rfl (congrArg iV eq) fun ρ => ?_
  refine W_seq ?_
  refine W_sr rfl (s_mv rfl (s_mv rfl (s_rem rfl rfl (by omega) (s_lss rfl rfl (s_nil ?_)))))
  refine W_if rfl (fun hd => ?_) (fun hd => W_skip ?_)
  · have hd := of_decide_eq_true hd
    rw [if_pos hd] at hft
    refine W_reg rfl (s_mv rfl (s_sub rfl rfl (by omega) (s_as rfl (s_nil ?_))))
    refine W_sr rfl (s_mv rfl (s_as rfl (s_nil ?_)))
    exact W_ret ⟨_, rfl, congrArg iV hft, rfl⟩
  · have hd := of_decide_eq_false hd
    rw [if_neg hd] at hft
    refine W_sr rfl (s_mv rfl (s_as rfl (s_nil ?_)))
    exact W_ret ⟨_, rfl, congrArg iV hft, rfl⟩
theorem dimF_cell (c : Ch) {k : Nat} (hk : k < 3) : (#[iV c.width, iV c.height, iV c.depth] : Array Value)[k]? = some (iV (dimF k c)) := by
  have : k = 0 ∨ k = 1 ∨ k = 2 := by omega
  rcases this with rfl | rfl | rfl <;> rfl
theorem fleuronref27_dimension_c {c : Ch} {k : Nat} (hk : k < 3) : Ret Go.Proofs.Tryz.prog 65 #[chV c, iV k] w fun v w' => v = iV (dimF k c) ∧ Ext w w' := by
  refine enter Go.Proofs.Tryz.func65 rfl rfl rfl ?_
  refine W_sr rfl (s_bx rfl (s_as rfl (s_nil ?_)))
  refine W_sr rfl (s_fa E rfl rfl (s_ld E rfl rfl (bc0 rfl) (s_fa E rfl rfl (s_ld E rfl rfl (bc0 rfl) (s_fa E rfl rfl (s_ld E rfl rfl (bc0 rfl) (s_bld rfl (cells := #[iV c.width, iV c.height, iV c.depth]) (by kernel_rfl) (s_mv rfl (s_ix (i := k) E rfl rfl rfl rfl rfl hk (dimF_cell c hk) (s_as rfl (s_nil ?_)))))))))))
  exact W_ret ⟨_, rfl, rfl, e1⟩
theorem fleuronref27_at_c {p : Option Addr} {n c : Nat} {l : List Int} {i : Int} (hn : n = l.length) (hi : 0 ≤ i) (hp : SlR w p (l.map iV)) : Ret Go.Proofs.Tryz.prog 49 #[.slice p n c, iV i] w fun v w' => v = iV (atL l i) ∧ w' = w := by
  refine enter Go.Proofs.Tryz.func49 rfl rfl rfl ?_
  refine W_sr rfl (s_as rfl (s_nil ?_))
  refine W_seq ?_
  refine W_sr rfl (s_mv rfl (s_mv rfl (s_len E rfl rfl (s_lss rfl rfl (s_nil ?_)))))
  refine W_if rfl (fun hd => ?_) (fun hd => W_skip ?_)
  · have hd := of_decide_eq_true hd
    obtain ⟨k, rfl⟩ := Int.eq_ofNat_of_zero_le hi
    have hk : k < l.length := by omega
    obtain ⟨a, rfl, hcell⟩ := sl_map hp hk
    refine W_sr rfl (s_mv rfl (s_mv rfl (s_ia E rfl rfl rfl rfl (by omega) (s_ld E rfl rfl hcell (s_as rfl (s_nil ?_))))))
    refine W_ret ⟨_, rfl, ?_, rfl⟩
    unfold atL
    rw [if_pos (by omega)]
    simp [hk]; rfl
  · have hd := of_decide_eq_false hd
    refine W_sr rfl (s_as rfl (s_nil ?_))
    refine W_ret ⟨_, rfl, ?_, rfl⟩
    unfold atL
    rw [if_neg (by omega)]; rfl
theorem fleuronref27_index_c {p : Option Addr} {n c : Nat} {l : List Int} {x : Int} (hn : n = l.length) (hm : n ≤ 1000000) (hp : SlR w p (l.map iV)) : Ret Go.Proofs.Tryz.prog 80 #[.slice p n c, iV x] w fun v w' => v = iV (fidx l x) ∧ w' = w := by
  refine enter Go.Proofs.Tryz.func80 rfl rfl rfl ?_
  refine W_sr rfl (s_as rfl (s_nil ?_))
  refine W_seq ?_
  refine W_sr rfl (s_mv rfl (s_len E rfl rfl (s_mv rfl (s_nil ?_))))
  refine W_block ?_
  refine W_loop (fun m ρ w' => ∃ ρ' i, ρ = upd (upd (upd (upd ρ' 1 (iV x)) 7 (.slice p n c)) 8 (iV n)) 9 (iV (i : Nat)) ∧ w' = w ∧ i ≤ n ∧ m = n - i ∧ ∀ j (h : j < l.length), j < i → l[j] ≠ x) n ⟨_, 0, u4 rfl rfl rfl rfl, rfl, by omega, by omega, fun j _ h => by omega⟩ ?_
  rintro m _ _ ⟨ρ, i, rfl, rfl, hi, rfl, ho⟩
  refine W_sr rfl (s_lss rfl rfl (s_nil ?_))
  refine W_seq ?_
  refine W_if rfl (fun hc => W_skip ?_) (fun hc => W_exit ?_)
  · have hc := of_decide_eq_true hc
    have hil : i < l.length := by omega
    obtain ⟨a, rfl, hcell⟩ := sl_map hp hil
    obtain ⟨y, hy⟩ : ∃ y, y = l[i] := ⟨_, rfl⟩
    rw [← hy] at hcell
    refine W_seq (W_block ?_)
    refine W_sr rfl (s_mv rfl (s_ia E rfl rfl rfl rfl (by omega) (s_ld E rfl rfl hcell (s_as rfl (s_as rfl (s_nil ?_))))))
    refine W_sr rfl (s_mv rfl (s_mv rfl (s_eql rfl rfl (s_nil ?_))))
    refine W_if rfl (fun hd => ?_) (fun hd => W_skip ?_)
    · have hd := of_decide_eq_true hd
      refine W_sr rfl (s_mv rfl (s_as rfl (s_nil ?_)))
      exact W_ret ⟨_, rfl, by rw [fidx_at hil (fun j hj => ho j (by omega) hj) (by rw [← hy]; exact hd)]; rfl, rfl⟩
    · have hd := of_decide_eq_false hd
      refine W_reg rfl (s_add rfl rfl (by omega) (s_mv rfl (s_nil ?_)))
      refine ⟨n - (i + 1), by omega, _, i + 1, u4 rfl rfl rfl rfl, rfl, by omega, rfl, fun j h hj => ?_⟩
      by_cases e : j = i
      · subst e; rw [← hy]; exact hd
      · exact ho j h (by omega)
  · have hc := of_decide_eq_false hc
    refine W_sr rfl (s_as rfl (s_nil ?_))
    exact W_ret ⟨_, rfl, by rw [fidx_no fun j hj => ho j hj (by omega)]; rfl, rfl⟩
theorem fleuronref27_Find_c {m : Me} {p q : Option Addr} {c d : Nat} {code : Int} (hm : MeR w m p q) :
    Ret Go.Proofs.Tryz.prog 21 #[meV m p q c d, iV code] w fun v w' => v = .tuple #[chV (fndM m code).1, iV (fndM m code).2] ∧ Ext w w' := by
  refine enterC Go.Proofs.Tryz.func21 rfl rfl rfl ?_
  have hS := Sep.start (w := w)
  refine W_sr rfl (s_bxS hS (vs := meC m p q c d) rfl rfl fun w1 gm hS => (s_alS hS E rfl rfl fun w2 g0 hS => (s_as rfl (s_nil ?_))))
  refine W_seq ?_
  cases hv : validM m
  · refine W_sr rfl (s_lda (xs := meC m p q c d) E rfl rfl (hS.row 0 rfl) rfl (s_callE hS rfl rfl (Ret.eqv (fleuronref27_Valid_c (hm.ext hS.ext)) (congrArg Value.bool hv)) fun w3 hS => (s_not rfl (s_nil ?_))))
    refine W_if rfl (fun _ => ?_) (fun h => by cases h)
    refine W_sr rfl (s_bld rfl (cells := (chC default).toArray) (by kernel_rfl) (s_stS hS 1 E (us := chC default) rfl rfl rfl rfl rfl rfl rfl rfl rfl rfl fun w4 hS => (s_as rfl (s_nil ?_))))
    exact W_ret ⟨_, resC2 E rfl rfl rfl (hS.row 1 rfl) rfl rfl, by unfold fndM; rw [hv]; rfl, hS.ext⟩
  refine W_sr rfl (s_lda (xs := meC m p q c d) E rfl rfl (hS.row 0 rfl) rfl (s_callE hS rfl rfl (Ret.eqv (fleuronref27_Valid_c (hm.ext hS.ext)) (congrArg Value.bool hv)) fun w3 hS => (s_not rfl (s_nil ?_))))
  refine W_if rfl (fun h => by cases h) (fun _ => W_skip ?_)
  have efind : fndM m code = (match m.chars.find? (fun c => decide (c.code = code)) with | some c => (c, 0) | none => (default, 4)) := by unfold fndM; rw [hv]; rfl
  rw [efind]
  obtain ⟨l, hl⟩ : ∃ l, l = m.chars := ⟨_, rfl⟩
  obtain ⟨n, hn⟩ : ∃ n, n = m.chars.length := ⟨_, rfl⟩
  have hp := hm.ch
  have hnl := hm.nch
  have hnl' : n = l.length := by rw [hn, hl]
  refine W_seq ?_
  refine W_sr rfl (s_fa E rfl rfl (s_ld E rfl rfl (hS.cell 0 rfl rfl) (s_len E rfl rfl (s_mv rfl (s_nil ?_)))))
  rw [← hl] at hp ⊢
  rw [← hn] at hnl
  refine W_block ?_
  refine W_loop (fun r ρ w' => ∃ ρ' i, ρ = upd (upd (upd (upd (upd ρ' 1 (iV code)) 4 (.pointer (some ⟨g0, 0, none⟩))) 13 (.slice p n c)) 14 (iV n)) 15 (iV (i : Nat)) ∧ i ≤ n ∧ r = n - i ∧ Sep w w' [cl gm (meC m p q c d) 25, cl g0 [iV 0, iV 0, iV 0, iV 0] 50] ∧ ∀ j (h : j < l.length), j < i → decide (l[j].code = code) = false) n
    ⟨_, 0, u5 rfl rfl (by rw [hnl']; rfl) (by rw [hnl']; rfl) rfl, by omega, by omega, hS, fun j _ h => by omega⟩ ?_
  clear hS
  rintro _ _ w4 ⟨ρ, i, rfl, hi, rfl, hS, ho⟩
  refine W_sr rfl (s_lss rfl rfl (s_nil ?_))
  refine W_seq ?_
  refine W_if rfl (fun hc => W_skip ?_) (fun hc => W_exit ?_)
  · have hc := of_decide_eq_true hc
    have hil : i < l.length := by omega
    obtain ⟨a, rfl, hrow⟩ := hp.some (by intro h0; have := flat_length chC 4 chC_len l; rw [h0] at this; simp at this; omega)
    obtain ⟨r, hr⟩ : ∃ r, r = l[i] := ⟨_, rfl⟩
    have hrr := Ext.row hS.ext (hrow.at chC_len hil)
    rw [← hr] at hrr
    refine W_seq (W_block ?_)
    refine W_sr rfl (s_ia E rfl rfl rfl rfl (by omega) (s_lda E rfl rfl hrr rfl (s_alS hS E rfl rfl fun w5 g hS => (s_stS hS 2 E (us := chC r) rfl rfl rfl rfl rfl rfl rfl rfl rfl rfl fun w6 hS => (s_nil ?_)))))
    by_cases hd : r.code = code
    · refine W_sr rfl (s_fa E rfl rfl (s_ld E rfl rfl (hS.cell 2 rfl rfl) (s_mv rfl (s_cmp (c := true) rfl rfl (decide_eq_true hd) (s_nil ?_)))))
      refine W_if rfl (fun _ => ?_) (fun h => by cases h)
      refine W_sr rfl (s_lda (xs := chC r) E rfl rfl (hS.row 2 rfl) rfl (s_stS hS 1 E (us := chC r) rfl rfl rfl rfl rfl rfl rfl rfl rfl rfl fun w7 hS => (s_as rfl (s_nil ?_))))
      exact W_ret ⟨_, resC2 E rfl rfl rfl (hS.row 1 rfl) rfl rfl, by rw [find_at (l := l) hil (fun j hj => ho j (by omega) hj) (by rw [← hr]; exact decide_eq_true hd), ← hr]; rfl, hS.ext⟩
    · refine W_sr rfl (s_fa E rfl rfl (s_ld E rfl rfl (hS.cell 2 rfl rfl) (s_mv rfl (s_cmp (c := false) rfl rfl (decide_eq_false hd) (s_nil ?_)))))
      refine W_if rfl (fun h => by cases h) (fun _ => W_skip ?_)
      refine W_reg rfl (s_add rfl rfl (by omega) (s_mv rfl (s_nil ?_)))
      refine ⟨n - (i + 1), by omega, _, i + 1, u5 rfl rfl rfl rfl rfl, by omega, rfl, hS.take 2, fun j h hj => ?_⟩
      by_cases e : j = i
      · subst e; rw [← hr]; exact decide_eq_false hd
      · exact ho j h (by omega)
  · have hc := of_decide_eq_false hc
    refine W_sr rfl (s_bld rfl (cells := (chC default).toArray) (by kernel_rfl) (s_stS hS 1 E (us := chC default) rfl rfl rfl rfl rfl rfl rfl rfl rfl rfl fun w7 hS => (s_as rfl (s_nil ?_))))
    exact W_ret ⟨_, resC2 E rfl rfl rfl (hS.row 1 rfl) rfl rfl, by rw [find_no fun j hj => ho j hj (by omega)]; rfl, hS.ext⟩
theorem fleuronref27_For_c {p : Option Addr} {n c : Nat} {l : List Ru} {first next : Int} (hn : n = l.length) (hm : n ≤ 1000000) (hp : SlR w p (l.flatMap ruC)) :
    Ret Go.Proofs.Tryz.prog 60 #[.slice p n c, iV first, iV next] w fun v w' => v = .tuple #[ruV (forM l first next).1, .bool (forM l first next).2] ∧ Ext w w' := by
  refine enterC Go.Proofs.Tryz.func60 rfl rfl rfl ?_
  have hS := Sep.start (w := w)
  refine W_sr rfl (s_alS hS E rfl rfl fun w2 g0 hS => (s_as rfl (s_nil ?_)))
  refine W_seq ?_
  refine W_sr rfl (s_mv rfl (s_len E rfl rfl (s_mv rfl (s_nil ?_))))
  refine W_block ?_
  refine W_loop (fun r ρ w' => ∃ ρ' i, ρ = upd (upd (upd (upd (upd (upd ρ' 1 (iV first)) 2 (iV next)) 6 (.pointer (some ⟨g0, 0, none⟩))) 10 (.slice p n c)) 11 (iV n)) 12 (iV (i : Nat)) ∧ i ≤ n ∧ r = n - i ∧ Sep w w' [cl g0 [iV 0, iV 0, iV 0, iV 0] 45] ∧ ∀ j (h : j < l.length), j < i → (decide (l[j].first = first) && decide (l[j].next = next)) = false) n
    ⟨_, 0, u6 rfl rfl rfl rfl rfl rfl, by omega, by omega, hS, fun j _ h => by omega⟩ ?_
  clear hS
  rintro _ _ w4 ⟨ρ, i, rfl, hi, rfl, hS, ho⟩
  refine W_sr rfl (s_lss rfl rfl (s_nil ?_))
  refine W_seq ?_
  refine W_if rfl (fun hc => W_skip ?_) (fun hc => W_exit ?_)
  · have hc := of_decide_eq_true hc
    have hil : i < l.length := by omega
    obtain ⟨a, rfl, hrow⟩ := hp.some (by intro h0; have := flat_length ruC 4 ruC_len l; rw [h0] at this; simp at this; omega)
    obtain ⟨r, hr⟩ : ∃ r, r = l[i] := ⟨_, rfl⟩
    have hrr := Ext.row hS.ext (hrow.at ruC_len hil)
    rw [← hr] at hrr
    refine W_seq (W_block ?_)
    refine W_sr rfl (s_ia E rfl rfl rfl rfl (by omega) (s_lda E rfl rfl hrr rfl (s_alS hS E rfl rfl fun w5 g hS => (s_stS hS 1 E (us := ruC r) rfl rfl rfl rfl rfl rfl rfl rfl rfl rfl fun w6 hS => (s_nil ?_)))))
    have goOn : (decide (r.first = first) && decide (r.next = next)) = false → ∀ j (h : j < l.length), j < i + 1 → (decide (l[j].first = first) && decide (l[j].next = next)) = false := by
      intro hx j h hj
      by_cases e : j = i
      · subst e; rw [← hr]; exact hx
      · exact ho j h (by omega)
    by_cases h0 : r.first = first
    case neg =>
      refine W_sr rfl (s_fa E rfl rfl (s_ld E rfl rfl (hS.cell 1 rfl rfl) (s_mv rfl (s_cmp (c := false) rfl rfl (decide_eq_false h0) (s_mv rfl (s_g0 rfl (s_g0 rfl (s_g0 rfl (s_g0 rfl (s_pk rfl (s_nil ?_)))))))))))
      refine W_if rfl (fun h => by cases h) (fun _ => W_skip ?_)
      refine W_reg rfl (s_add rfl rfl (by omega) (s_mv rfl (s_nil ?_)))
      exact ⟨n - (i + 1), by omega, _, i + 1, u6 rfl rfl rfl rfl rfl rfl, by omega, rfl, hS.take 1, goOn (by simp [h0])⟩
    by_cases h1 : r.next = next
    · refine W_sr rfl (s_fa E rfl rfl (s_ld E rfl rfl (hS.cell 1 rfl rfl) (s_mv rfl (s_cmp (c := true) rfl rfl (decide_eq_true h0) (s_mv rfl (s_g1 rfl (s_fa E rfl rfl (s_g1 rfl (s_ld E rfl rfl (hS.cell 1 rfl rfl) (s_g1 rfl (s_mv rfl (s_g1 rfl (s_cmp (c := true) rfl rfl (decide_eq_true h1) (s_pk rfl (s_nil ?_)))))))))))))))
      refine W_if rfl (fun _ => ?_) (fun h => by cases h)
      refine W_sr rfl (s_lda (xs := ruC r) E rfl rfl (hS.row 1 rfl) rfl (s_stS hS 0 E (us := ruC r) rfl rfl rfl rfl rfl rfl rfl rfl rfl rfl fun w7 hS => (s_as rfl (s_nil ?_))))
      exact W_ret ⟨_, resC2 E rfl rfl rfl (hS.row 0 rfl) rfl rfl, by unfold forM; rw [find_at (l := l) hil (fun j hj => ho j (by omega) hj) (by rw [← hr]; simp [h0, h1]), ← hr]; rfl, hS.ext⟩
    · refine W_sr rfl (s_fa E rfl rfl (s_ld E rfl rfl (hS.cell 1 rfl rfl) (s_mv rfl (s_cmp (c := true) rfl rfl (decide_eq_true h0) (s_mv rfl (s_g1 rfl (s_fa E rfl rfl (s_g1 rfl (s_ld E rfl rfl (hS.cell 1 rfl rfl) (s_g1 rfl (s_mv rfl (s_g1 rfl (s_cmp (c := false) rfl rfl (decide_eq_false h1) (s_pk rfl (s_nil ?_)))))))))))))))
      refine W_if rfl (fun h => by cases h) (fun _ => W_skip ?_)
      refine W_reg rfl (s_add rfl rfl (by omega) (s_mv rfl (s_nil ?_)))
      exact ⟨n - (i + 1), by omega, _, i + 1, u6 rfl rfl rfl rfl rfl rfl, by omega, rfl, hS.take 1, goOn (by simp [h0, h1])⟩
  · have hc := of_decide_eq_false hc
    refine W_sr rfl (s_bld rfl (cells := (ruC default).toArray) (by kernel_rfl) (s_stS hS 0 E (us := ruC default) rfl rfl rfl rfl rfl rfl rfl rfl rfl rfl fun w7 hS => (s_as rfl (s_nil ?_))))
    exact W_ret ⟨_, resC2 E rfl rfl rfl (hS.row 0 rfl) rfl rfl, by unfold forM; rw [find_no fun j hj => ho j hj (by omega)]; rfl, hS.ext⟩
theorem fleuronref27_Rule_c {m : Me} {p q : Option Addr} {c d : Nat} {first next : Int} (hm : MeR w m p q) :
    Ret Go.Proofs.Tryz.prog 23 #[meV m p q c d, iV first, iV next] w fun v w' => v = .tuple #[ruV (rulM m first next).1, iV (rulM m first next).2] ∧ Ext w w' := by
  refine enterC Go.Proofs.Tryz.func23 rfl rfl rfl ?_
  have hS := Sep.start (w := w)
  refine W_sr rfl (s_bxS hS (vs := meC m p q c d) rfl rfl fun w1 gm hS => (s_alS hS E rfl rfl fun w2 g0 hS => (s_as rfl (s_nil ?_))))
  refine W_seq ?_
  cases hv : validM m
  · refine W_sr rfl (s_lda (xs := meC m p q c d) E rfl rfl (hS.row 0 rfl) rfl (s_callE hS rfl rfl (Ret.eqv (fleuronref27_Valid_c (hm.ext hS.ext)) (congrArg Value.bool hv)) fun w3 hS => (s_not rfl (s_nil ?_))))
    refine W_if rfl (fun _ => ?_) (fun h => by cases h)
    refine W_sr rfl (s_bld rfl (cells := (ruC default).toArray) (by kernel_rfl) (s_stS hS 1 E (us := ruC default) rfl rfl rfl rfl rfl rfl rfl rfl rfl rfl fun w4 hS => (s_as rfl (s_nil ?_))))
    exact W_ret ⟨_, resC2 E rfl rfl rfl (hS.row 1 rfl) rfl rfl, by unfold rulM; rw [hv]; rfl, hS.ext⟩
  refine W_sr rfl (s_lda (xs := meC m p q c d) E rfl rfl (hS.row 0 rfl) rfl (s_callE hS rfl rfl (Ret.eqv (fleuronref27_Valid_c (hm.ext hS.ext)) (congrArg Value.bool hv)) fun w3 hS => (s_not rfl (s_nil ?_))))
  refine W_if rfl (fun h => by cases h) (fun _ => W_skip ?_)
  obtain ⟨⟨r, ok⟩, hf⟩ : ∃ x, forM m.rules first next = x := ⟨_, rfl⟩
  have call := fleuronref27_For_c (w := w3) (c := d) (first := first) (next := next) rfl hm.nru (Ext.sl hS.ext hm.ru)
  rw [hf] at call
  refine W_sr rfl (s_fa E rfl rfl (s_ld E rfl rfl (hS.cell 0 rfl rfl) (s_mv rfl (s_mv rfl (s_callE hS rfl rfl call fun w4 hS => (s_mv rfl (s_ex rfl rfl (s_ex rfl rfl (s_alS hS E rfl rfl fun w5 gr hS => (s_stS hS 2 E (us := ruC r) rfl rfl rfl rfl rfl rfl rfl rfl rfl rfl fun w6 hS => (s_as rfl (s_nil ?_))))))))))))
  have e : rulM m first next = if ok then (r, 0) else (default, 4) := by unfold rulM; rw [hv, hf]; rfl
  rw [e]
  refine W_seq ?_
  cases ok
  · refine W_sr rfl (s_mv rfl (s_not rfl (s_nil ?_)))
    refine W_if rfl (fun _ => ?_) (fun h => by cases h)
    refine W_sr rfl (s_bld rfl (cells := (ruC default).toArray) (by kernel_rfl) (s_stS hS 1 E (us := ruC default) rfl rfl rfl rfl rfl rfl rfl rfl rfl rfl fun w7 hS => (s_as rfl (s_nil ?_))))
    exact W_ret ⟨_, resC2 E rfl rfl rfl (hS.row 1 rfl) rfl rfl, rfl, hS.ext⟩
  · refine W_sr rfl (s_mv rfl (s_not rfl (s_nil ?_)))
    refine W_if rfl (fun h => by cases h) (fun _ => W_skip ?_)
    refine W_sr rfl (s_lda (xs := ruC r) E rfl rfl (hS.row 2 rfl) rfl (s_stS hS 1 E (us := ruC r) rfl rfl rfl rfl rfl rfl rfl rfl rfl rfl fun w7 hS => (s_as rfl (s_nil ?_))))
    exact W_ret ⟨_, resC2 E rfl rfl rfl (hS.row 1 rfl) rfl rfl, rfl, hS.ext⟩
end
end Go.Proofs.YthfnijlgmjkedaaGreat
namespace Go.Proofs.YthfnijlgmjkedaaGreat
set_option maxRecDepth 100000
set_option maxHeartbeats 1000000
set_option linter.unusedVariables false
set_option linter.unusedSimpArgs false
open Go Go.Fx Go.Proofs.YthfnijlgmjkedaaGreat.Tab
/-! ## numbers as bytes -/
def bytesK (n : Int) : Nat → List Int
  | 0 => []
  | r + 1 => n / 256 ^ r % 256 :: bytesK n r
theorem bytesK_len (n : Int) : ∀ r, (bytesK n r).length = r
  | 0 => rfl
  | r + 1 => by simp [bytesK, bytesK_len n r]
theorem bytesK2 (n : Int) : bytesK n 2 = bytes2 n := by simp [bytesK, bytes2]
theorem bytesK4 (n : Int) : bytesK n 4 = bytes4 n := by simp [bytesK, bytes4]
section
variable {w : World}
theorem fleuronref27_Bytes_c {v : Value} {n : Nat} {xs : List Int} {x : Int} {many : Nat} (ho : OwnF w 5 1 v n (xs.map bV)) (hn : n = xs.length) (hl : n ≤ 1000100) (hm : 1 ≤ many ∧ many ≤ 7) :
    Ret Go.Proofs.Tryz.prog 78 #[v, iV x, iV many] w fun v' w' => Own w' 5 1 v' (n + many) ((xs ++ bytesK x many).map bV) ∧ Mod (fun k => v.ownBlock = some k) w w' ∧ OldOrNew w v v' := by
  refine enter Go.Proofs.Tryz.func78 rfl rfl rfl ?_
  refine W_sr rfl (s_as rfl (s_nil ?_))
  refine W_seq ?_
  refine W_sr rfl (s_mv rfl (s_sub rfl rfl (by omega) (s_as rfl (s_nil ?_))))
  refine W_block ?_
  refine W_loop (fun m ρ w' => ∃ ρ' r v' done, ρ = upd (upd (upd ρ' 0 v') 1 (iV x)) 7 (iV ((r : Nat) - 1 : Int)) ∧ r ≤ many ∧ m = 0 + r ∧ bytesK x many = done ++ bytesK x r ∧ done.length = many - r ∧ OwnF w' 5 1 v' (n + (many - r)) ((xs ++ done).map bV) ∧ (r < many → Own w' 5 1 v' (n + (many - r)) ((xs ++ done).map bV)) ∧ Mod (fun k => v.ownBlock = some k) w w' ∧ OldOrNew w v v') many
    ⟨_, many, v, [], u3 rfl rfl rfl, Nat.le_refl _, by omega, rfl, by simp, by simpa using ho, fun h => absurd h (Nat.lt_irrefl _), Mod.refl, .inl rfl⟩ ?_
  rintro m _ w1 ⟨ρ, r, v1, done, rfl, hr, rfl, hd, hdl, ho1, ho1', hM1, hon1⟩
  refine W_seq ?_
  refine W_sr rfl (s_mv rfl (s_geq rfl rfl (s_nil ?_)))
  refine W_if rfl (fun hc => W_skip ?_) (fun hc => W_exit ?_)
  · have hc := of_decide_eq_true hc
    obtain ⟨k, rfl⟩ : ∃ k, r = k + 1 := ⟨r - 1, by omega⟩
    have h7 : k ≤ 6 := by omega
    have e8 : IntKind.u64.wrap (8 * ((((k + 1 : Nat) : Int)) - 1)) = 8 * (k : Int) := by
      rw [show 8 * ((((k + 1 : Nat) : Int)) - 1) = 8 * (k : Int) by omega]
      exact wrapu_in (by omega) (by omega)
    have ep : (2 : Int) ^ min (8 * (k : Int)).toNat IntKind.i64.bits = 256 ^ k := by
      have : k = 0 ∨ k = 1 ∨ k = 2 ∨ k = 3 ∨ k = 4 ∨ k = 5 ∨ k = 6 := by omega
      rcases this with rfl | rfl | rfl | rfl | rfl | rfl | rfl <;> decide
    refine W_seq (W_block ?_)
    have hS : Sep w1 w1 [] := Sep.start
    refine W_reg rfl (s_mv rfl (s_mv rfl (s_mv rfl (s_mul (a := 8) (b := ((k + 1 : Nat) : Int) - 1) rfl rfl (by omega) (s_cvx E rfl rfl rfl e8 (s_shk rfl rfl (by omega) ep (Int.pow_nonneg (by decide)) (s_cvb E rfl rfl rfl (s_bsA E rfl rfl rfl rfl rfl (cells := #[bV (x / 256 ^ k % 256)]) (by kernel_rfl) fun w2 hE2 hh2 hs2 => (s_apF E rfl rfl rfl rfl (OwnF.mod hE2 ho1 (fun _ _ h => h)) rfl rfl (row_heap hh2) rfl rfl rfl (by omega) fun v3 w3 ho3 hM3 hon3 => (s_as rfl (s_nil ?_)))))))))))
    refine W_reg rfl (s_mv rfl (s_sub rfl rfl (by omega) (s_as rfl (s_nil ?_))))
    have hM13 : Mod (fun j => v.ownBlock = some j) w w3 := by
      refine ⟨hM3.os.trans (hE2.os.trans hM1.os), hM3.tape.trans (hE2.tape.trans hM1.tape), hM3.output.trans (hE2.output.trans hM1.output), by have := hM1.size; have := hE2.size; have := hM3.size; omega, fun j hj hnj => ?_⟩
      have h1 := hM1.block j hj hnj
      have h2 := hE2.block j (by have := hM1.size; omega) (fun h => h)
      have h3 := hM3.block j (by have := hM1.size; have := hE2.size; omega) (fun hk => by
        rcases hon1 with h | ⟨j', h, hlt⟩
        · rw [h] at hk; exact hnj hk
        · rw [h] at hk; cases hk; omega)
      rw [h3, h2, h1]
    have ho3' : Own w3 5 1 v3 (n + (many - k)) ((xs ++ (done ++ [x / 256 ^ k % 256])).map bV) := by
      rw [show n + (many - k) = n + (many - (k + 1)) + 1 by omega, ← List.append_assoc, List.map_append]
      exact ho3
    refine ⟨0 + k, by omega, _, k, v3, done ++ [x / 256 ^ k % 256], u3 rfl rfl (congrArg iV (by omega)), by omega, rfl, by rw [hd, List.append_assoc]; rfl, by simp; omega, .inl ho3', fun _ => ho3', hM13, ?_⟩
    · rcases hon3 with h | ⟨j, h, hlt⟩
      · rcases hon1 with h1 | ⟨j, h1, hlt⟩
        · exact .inl (h.trans h1)
        · exact .inr ⟨j, h.trans h1, hlt⟩
      · exact .inr ⟨j, h, by have := hM1.size; have := hE2.size; omega⟩
  · have hc := of_decide_eq_false hc
    obtain rfl : r = 0 := by omega
    refine W_sr rfl (s_mv rfl (s_as rfl (s_nil ?_)))
    refine W_ret ⟨_, rfl, ?_, hM1, hon1⟩
    have : bytesK x many = done := by rw [hd]; simp [bytesK]
    rw [this]
    exact ho1' (by omega)
/-- as a step -/
theorem s_bytes {P : Program} {L os : List Oper} {K : Fr → World → Prop} {ρ : Fr} {w0 : World} {d : Option Tmp} {T : TypeId} {pos : String} {af : Array Edge} {C : List Chunk} (hS : Sep w0 w C) (i : Nat) {n : Nat} {v : Value} {xs : List Value}
    (hi : C[i]? = some (owF 5 1 v n xs)) {f : Operand} {ys : Array Operand} {ts : Array TypeId} {g : FuncId} {vs cs : Array Value} {args : List Value} {n' : Nat} {xs' : List Value}
    (hf : ev ρ f = .func (.func g) vs cs) (ha : vs.toList ++ (ys.toList.map (ev ρ) ++ cs.toList) = args) (hR : Ret P g args.toArray w fun v' w' => Own w' 5 1 v' n' xs' ∧ Mod (fun k => v.ownBlock = some k) w w' ∧ OldOrNew w v v')
    (h : ∀ v' w', Sep w0 w' (C.set i (owF 5 1 v' n' xs')) → vcs P L K os (put ρ d v') w') : vcs P L K (⟨d, .call { callee := .value f, args := ys, argTypes := ts }, T, pos, af, none⟩ :: os) ρ w :=
  s_call hf ha hR fun v' w' ⟨h1, h2, h3⟩ => h v' w' (hS.upd i hi h2 (owF 5 1 v' n' xs') (.inl h1) (fun k hk => by
    have hk' : v'.ownBlock = some k := hk
    rcases h3 with h4 | ⟨j, h4, h5⟩
    · left; show v.ownBlock = some k; rw [← h4]; exact hk'
    · right; rw [h4] at hk'; cases hk'
      exact ⟨h5, Own.lt h1 h4⟩) (Nat.zero_le _))
theorem wrapi_in {n : Int} (h1 : -9223372036854775808 ≤ n) (h2 : n ≤ 9223372036854775807) : IntKind.i64.wrap n = n := wrap64_in h1 h2
theorem sumB_bd' : ∀ (l : List Int) (i : Nat) (s : Int), 0 ≤ s ∧ s < 4294967296 → 0 ≤ sumFrom i s l ∧ sumFrom i s l < 4294967296
  | [], i, s, h => h
  | c :: l, i, s, h => by
    unfold sumFrom
    exact sumB_bd' l (i + 1) _ (by omega)
end
end Go.Proofs.YthfnijlgmjkedaaGreat

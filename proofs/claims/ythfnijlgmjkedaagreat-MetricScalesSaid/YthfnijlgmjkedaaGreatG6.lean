/- Contracts of functions that the laws of this seat call: what each answers, for every input that its hypotheses name. -/
import Derived.Test.YthfnijlgmjkedaaGreatG5
import Derived.Lib.AppendZeros
import Derived.Test.YthfnijlgmjkedaaGreatG2
namespace Go.Proofs.YthfnijlgmjkedaaGreat
set_option maxRecDepth 100000
set_option maxHeartbeats 1000000
set_option linter.unusedVariables false
set_option linter.unusedSimpArgs false
open Go Go.Fx Go.Proofs.YthfnijlgmjkedaaGreat.Tab
theorem cmpI_lt {a b : Int} : cmpI a b < 0 ↔ a < b := by unfold cmpI; split <;> (try split) <;> omega
theorem cmpI_ge {a b : Int} : 0 ≤ cmpI a b ↔ b ≤ a := by unfold cmpI; split <;> (try split) <;> omega
theorem cmpI_eq {a b : Int} : cmpI a b = 0 ↔ a = b := by unfold cmpI; split <;> (try split) <;> omega
theorem pairCmp_lt {a b : Ru} : pairCmp a b < 0 ↔ a.first < b.first ∨ (a.first = b.first ∧ a.next < b.next) := by
  unfold pairCmp cmpI; split <;> (try split) <;> (try split) <;> omega
theorem pairCmp_ge {a b : Ru} : 0 ≤ pairCmp a b ↔ b.first < a.first ∨ (a.first = b.first ∧ b.next ≤ a.next) := by
  unfold pairCmp cmpI; split <;> (try split) <;> (try split) <;> omega
theorem pairCmp_eq {a b : Ru} : pairCmp a b = 0 ↔ a.first = b.first ∧ a.next = b.next := by
  unfold pairCmp cmpI; split <;> (try split) <;> (try split) <;> omega
theorem ord_code : Ordr codeCmp := ⟨fun x y h => by unfold codeCmp at *; rw [cmpI_lt] at h; rw [cmpI_ge]; omega, fun x y z h k => by unfold codeCmp at *; rw [cmpI_ge] at *; omega⟩
theorem ord_pair : Ordr pairCmp := ⟨fun x y h => by rw [pairCmp_lt] at h; rw [pairCmp_ge]; omega, fun x y z h k => by rw [pairCmp_ge] at *; omega⟩
theorem rising_srt {α : Type} {cmp : α → α → Int} (ho : Ordr cmp) (l : List α) (h : risingB cmp l = true) : SrtL cmp l := by
  have h1 := (risingB_iff cmp l).1 h
  unfold SrtL
  rw [List.pairwise_iff_getElem]
  intro i j hi hj hij
  obtain ⟨d, rfl⟩ := Nat.exists_eq_add_of_lt hij
  clear hij
  induction d with
  | zero => exact ho.asym _ _ (h1 i (by omega))
  | succ d ih => exact ho.tr _ _ _ (ih (by omega)) (ho.asym _ _ (h1 (i + d + 1) (by omega)))
theorem fin_cell {w w' : World} {g : Nat} {cs : Array Value} {ty : TypeId} {vs : List Value} (hE : Ext w w') (hg : w.heap.size ≤ g) (hh : w'.heap[g]? = some (.cells cs ty (0, 0))) (hs : cs.size = vs.length) :
    Row (w'.setRow g (splice cs 0 vs)) ⟨g, 0, none⟩ vs ∧ Ext w (w'.setRow g (splice cs 0 vs)) := by
  rw [splice_all _ _ hs]
  refine ⟨?_, Ext.thenMod hE (setRow_mod (M := fun k => k = g) rfl) (fun k hk he => by omega)⟩
  have := row_heap (setRow_heap w' g cs vs.toArray ty (0, 0) hh)
  simpa using this
def findM (m : Me) (code : Int) : Ch × Int := if validM m then (if hitL codeCmp m.chars ⟨code, 0, 0, 0⟩ then (m.chars.getD (posL codeCmp m.chars ⟨code, 0, 0, 0⟩) default, 0) else (default, 4)) else (default, 2)
def ruleOfM (l : List Ru) (first next : Int) : Ru × Bool := if hitL pairCmp l ⟨first, next, 0, 0⟩ then (l.getD (posL pairCmp l ⟨first, next, 0, 0⟩) default, true) else (default, false)
def ruleM (m : Me) (first next : Int) : Ru × Int := if validM m then (if (ruleOfM m.rules first next).2 then ((ruleOfM m.rules first next).1, 0) else (default, 4)) else (default, 2)
theorem hit_lt {α : Type} {cmp : α → α → Int} {l : List α} {x : α} (h : hitL cmp l x = true) : posL cmp l x < l.length := by
  unfold hitL at h
  cases hx : l[posL cmp l x]? with
  | none => rw [hx] at h; cases h
  | some y => exact (List.getElem?_eq_some_iff.1 hx).1
theorem valid_parts {m : Me} (h : validM m = true) : sizeB m.size = true ∧ m.chars.length ≤ 256 ∧ m.chars.all charB = true ∧ risingB codeCmp m.chars = true ∧ m.rules.length ≤ 500 ∧ m.rules.all ruleB = true ∧ risingB pairCmp m.rules = true := by
  simp only [validM, validRules, Bool.and_eq_true, decide_eq_true_eq] at h
  obtain ⟨h1, h2, h3, h4, h5, h6, h7⟩ := h
  exact ⟨h1, h2, h3, h4, h5, h6, h7⟩
section
variable {w : World}
theorem metric_made_c {size : Int} {p q : Option Addr} {n m c d : Nat} {l : List Ch} {k : List Ru} (hn : n = l.length) (hm : m = k.length) (hln : n ≤ 1000000) (hlm : m ≤ 1000000) (hp : SlR w p (l.flatMap chC)) (hq : SlR w q (k.flatMap ruC)) :
    Ret Go.Proofs.Tryz.prog 50 #[iV size, .slice p n c, .slice q m d] w fun v w' => (∃ me p q c d, v = meV me p q c d ∧ MeR w' me p q ∧ me.size = size ∧ me.chars.Perm l ∧ me.rules.Perm k ∧ SrtL codeCmp me.chars ∧ SrtL pairCmp me.rules ∧ (∀ a, p = some a → w.heap.size < a.block) ∧ ∀ a, q = some a → w.heap.size < a.block) ∧ Ext w w' := by
  refine enterC Go.Proofs.Tryz.func50 rfl rfl rfl ?_
  refine W_sr rfl (s_alA E rfl fun w1 hE1 hh1 hs1 => (s_nil ?_))
  refine W_sr rfl (s_mv rfl (s_mv rfl (s_call rfl rfl (slices_Clone_CharMetric_c hn hln (Ext.sl hE1 hp)) ?_)))
  rintro v2 w2 ⟨ho2, hf2, hE2⟩
  refine (s_mv rfl (s_call rfl rfl (slices_Clone_LigRule_c hm hlm (Ext.sl (hE1.trans hE2) hq)) ?_))
  rintro v3 w3 ⟨ho3, hf3, hE3⟩
  obtain ⟨p2, c2, rfl, hsl2, _, _⟩ := ho2.form
  obtain ⟨p3, c3, rfl, hsl3, _, _⟩ := ho3.form
  refine (s_bld rfl (cells := #[iV size, .slice p2 n c2, .slice p3 m c3]) (by kernel_rfl) (s_alst E rfl rfl rfl rfl rfl fun w4 hE4 hs4 hh4 => (s_nil ?_)))
  have ho2' := Ext.owns hE4 (Ext.owns hE3 ho2)
  have ho3' := Ext.owns hE4 ho3
  have hrow4 := row_heap hh4
  have b4 : ∀ k, (Value.slice p2 n c2).ownBlock = some k → k < w3.heap.size := fun k hk => Own.lt (Ext.owns hE3 ho2) hk
  have b4' : ∀ k, (Value.slice p3 m c3).ownBlock = some k → k < w3.heap.size := fun k hk => Own.lt ho3 hk
  refine W_sr rfl (s_fa E rfl rfl (s_ld E rfl rfl (hrow4 1 _ rfl) (s_callx rfl rfl (slices_SortL_CharMetric_c ord_code (fun _ _ _ => metric_compareCodes_c) hn hln ho2') fun w5 h5 => (s_nil ?_))))
  obtain ⟨⟨p5, c5, l5, he5, hsl5, hp5, hs5⟩, hM5⟩ := h5
  cases he5
  have hrow5 := hM5.row hrow4 (fun hk => by have := b4 _ hk; simp only at this; omega)
  have hdis : ∀ k, (Value.slice p3 m c3).ownBlock = some k → ¬ (Value.slice p2 n c2).ownBlock = some k := fun k hk hk2 => by
    have h1 := Own.lt ho2 hk2
    have h2 := hf3 k hk
    omega
  have ho3'' := hM5.owns ho3' hdis
  refine W_sr rfl (s_fa E rfl rfl (s_ld E rfl rfl (hrow5 2 _ rfl) (s_callx rfl rfl (slices_SortL_LigRule_c ord_pair (fun _ _ _ => metric_ComparePairs_c) hm hlm ho3'') fun w6 h6 => (s_nil ?_))))
  obtain ⟨⟨p6, c6, l6, he6, hsl6, hp6, hs6⟩, hM6⟩ := h6
  cases he6
  have hrow6 := hM6.row hrow5 (fun hk => by have := b4' _ hk; simp only at this; omega)
  have hE6 : Ext w w6 := by
    refine Ext.thenMod (Ext.thenMod (hE1.trans (hE2.trans (hE3.trans hE4))) hM5 ?_) hM6 ?_
    · intro k hk hk2; have := hf2 k hk2; have := hE1.size; omega
    · intro k hk hk2; have := hf3 k hk2; have := hE1.size; have := hE2.size; omega
  have hh6 : w6.heap[w.heap.size]? = some (.cells (Value.agg #[iV 0, .slice none 0 0, .slice none 0 0]).cells 25 (0, 0)) := by
    refine hM6.heap (hM5.heap (Ext.heap (hE2.trans (hE3.trans hE4)) hh1) ?_) ?_
    · intro hk; have := hf2 _ hk; omega
    · intro hk; have := hf3 _ hk; have := hE2.size; omega
  have fin := fin_cell (vs := [iV size, .slice p2 n c2, .slice p3 m c3]) hE6 (Nat.le_refl _) hh6 rfl
  refine W_sr rfl (s_lda E rfl rfl hrow6 rfl (s_st E (vs := [iV size, .slice p2 n c2, .slice p3 m c3]) rfl rfl rfl rfl hh6 rfl rfl rfl (Nat.le_refl _) (s_nil ?_)))
  refine W_ret ⟨_, resC1 E rfl rfl rfl fin.1 rfl, ?_⟩
  have hln5 : n = l5.length := by rw [hn]; exact hp5.length_eq.symm
  have hln6 : m = l6.length := by rw [hm]; exact hp6.length_eq.symm
  refine ⟨⟨⟨size, l5, l6⟩, p2, p3, c2, c3, by unfold meV; rw [hln5, hln6], ⟨?_, ?_, by show l5.length ≤ _; omega, by show l6.length ≤ _; omega⟩, rfl, hp5, hp6, hs5, hs6, fun a ha => by subst ha; have := hf2 a.block rfl; omega, fun a ha => by subst ha; have := hf3 a.block rfl; have := hE2.size; omega⟩, fin.2⟩
  · refine SlR.mod (setRow_mod (M := fun k => k = w.heap.size) rfl) (SlR.mod hM6 hsl5 ?_) ?_
    · intro a ha hk
      subst ha
      exact hdis _ hk rfl
    · intro a ha he
      subst ha
      have := hf2 a.block rfl
      omega
  · refine SlR.mod (setRow_mod (M := fun k => k = w.heap.size) rfl) hsl6 ?_
    intro a ha he
    subst ha
    have := hf3 a.block rfl
    have := hE2.size
    omega
theorem metric_Find_c {m : Me} {p q : Option Addr} {c d : Nat} {code : Int} (hm : MeR w m p q) :
    Ret Go.Proofs.Tryz.prog 20 #[meV m p q c d, iV code] w fun v w' => v = .tuple #[chV (findM m code).1, iV (findM m code).2] ∧ Ext w w' := by
  refine enterC Go.Proofs.Tryz.func20 rfl rfl rfl ?_
  refine W_sr rfl (s_bxA rfl fun w1 hE1 hh1 hs1 => (s_alA E rfl fun w2 hE2 hh2 hs2 => (s_as rfl (s_nil ?_))))
  have hE12 := hE1.trans hE2
  have hrow1 := row_heap hh1
  refine W_seq ?_
  refine W_sr rfl (s_lda E rfl rfl (Ext.row hE2 hrow1) rfl (s_callx rfl rfl (metric_Valid_c (hm.ext hE12)) fun w3 hE3 => (s_not rfl (s_nil ?_))))
  have hE13 := hE12.trans hE3
  have hh3 := Ext.heap hE3 hh2
  cases hv : validM m
  · refine W_if rfl (fun _ => ?_) (fun h => by cases h)
    refine W_sr rfl (s_bld rfl (cells := #[iV 0, iV 0, iV 0, iV 0]) (by kernel_rfl) (s_st E (vs := chC default) rfl rfl rfl rfl hh3 rfl rfl rfl (Nat.le_refl _) (s_as rfl (s_nil ?_))))
    have fin := fin_cell (vs := chC default) hE13 (by have := hE1.size; omega) hh3 rfl
    exact W_ret ⟨_, resC2 E rfl rfl rfl fin.1 rfl rfl, ⟨by unfold findM; rw [hv]; rfl, fin.2⟩⟩
  · refine W_if rfl (fun h => by cases h) (fun _ => W_skip ?_)
    have hvp := valid_parts hv
    have hsr := rising_srt ord_code _ hvp.2.2.2.1
    refine W_sr rfl (s_fa E rfl rfl (s_ld E rfl rfl (Ext.row (hE2.trans hE3) hrow1 1 _ rfl) (s_mv rfl (s_bld rfl (cells := #[iV code, iV 0, iV 0, iV 0]) (by kernel_rfl) (s_callx rfl rfl (slices_BinarySearchFunc_CharMetric_c (x := ⟨code, 0, 0, 0⟩) ord_code hsr rfl hm.nch (hm.ext hE13).ch (fun _ _ _ => metric_compareCodes_c)) fun w4 hE4 => (s_mv rfl (s_ex rfl rfl (s_ex rfl rfl (s_as rfl (s_as rfl (s_nil ?_)))))))))))
    have hE14 := hE13.trans hE4
    have hh4 := Ext.heap hE4 hh3
    refine W_seq ?_
    refine W_sr rfl (s_mv rfl (s_not rfl (s_nil ?_)))
    cases hb : hitL codeCmp m.chars ⟨code, 0, 0, 0⟩
    · refine W_if rfl (fun _ => ?_) (fun h => by cases h)
      refine W_sr rfl (s_bld rfl (cells := #[iV 0, iV 0, iV 0, iV 0]) (by kernel_rfl) (s_st E (vs := chC default) rfl rfl rfl rfl hh4 rfl rfl rfl (Nat.le_refl _) (s_as rfl (s_nil ?_))))
      have fin := fin_cell (vs := chC default) hE14 (by have := hE1.size; omega) hh4 rfl
      exact W_ret ⟨_, resC2 E rfl rfl rfl fin.1 rfl rfl, ⟨by unfold findM; rw [hv, hb]; rfl, fin.2⟩⟩
    · refine W_if rfl (fun h => by cases h) (fun _ => W_skip ?_)
      have hpl := hit_lt hb
      obtain ⟨a, rfl, hrow⟩ := hm.ch.some (by intro h0; have := flat_length chC 4 chC_len m.chars; rw [h0] at this; simp at this; omega)
      refine W_sr rfl (s_fa E rfl rfl (s_ld E rfl rfl (Ext.row (hE2.trans (hE3.trans hE4)) hrow1 1 _ rfl) (s_mv rfl (s_ia E rfl rfl rfl rfl hpl (s_lda E rfl rfl (Ext.row hE14 (hrow.at chC_len hpl)) rfl (s_st E (vs := chC m.chars[posL codeCmp m.chars ⟨code, 0, 0, 0⟩]) rfl rfl rfl rfl hh4 rfl rfl rfl (Nat.le_refl _) (s_as rfl (s_nil ?_))))))))
      have fin := fin_cell (vs := chC m.chars[posL codeCmp m.chars ⟨code, 0, 0, 0⟩]) hE14 (by have := hE1.size; omega) hh4 rfl
      exact W_ret ⟨_, resC2 E rfl rfl rfl fin.1 rfl rfl, ⟨by rw [show findM m code = (m.chars[posL codeCmp m.chars ⟨code, 0, 0, 0⟩], 0) by unfold findM; rw [hv, hb]; simp [hpl]]; rfl, fin.2⟩⟩
theorem metric_RuleOf_c {p : Option Addr} {n c : Nat} {l : List Ru} {first next : Int} (hs : SrtL pairCmp l) (hn : n = l.length) (hm : n ≤ 1000000) (hp : SlR w p (l.flatMap ruC)) :
    Ret Go.Proofs.Tryz.prog 59 #[.slice p n c, iV first, iV next] w fun v w' => v = .tuple #[ruV (ruleOfM l first next).1, .bool (ruleOfM l first next).2] ∧ Ext w w' := by
  refine enterC Go.Proofs.Tryz.func59 rfl rfl rfl ?_
  refine W_sr rfl (s_alA E rfl fun w1 hE1 hh1 hs1 => (s_as rfl (s_nil ?_)))
  refine W_sr rfl (s_mv rfl (s_mv rfl (s_mv rfl (s_bld rfl (cells := #[iV first, iV next, iV 0, iV 0]) (by kernel_rfl) (s_callx rfl rfl (slices_BinarySearchFunc_LigRule_c (x := ⟨first, next, 0, 0⟩) ord_pair hs hn hm (Ext.sl hE1 hp) (fun _ _ _ => metric_ComparePairs_c)) fun w2 hE2 => (s_mv rfl (s_ex rfl rfl (s_ex rfl rfl (s_as rfl (s_as rfl (s_nil ?_)))))))))))
  have hE12 := hE1.trans hE2
  have hh2 := Ext.heap hE2 hh1
  refine W_seq ?_
  refine W_sr rfl (s_mv rfl (s_not rfl (s_nil ?_)))
  cases hb : hitL pairCmp l ⟨first, next, 0, 0⟩
  · refine W_if rfl (fun _ => ?_) (fun h => by cases h)
    refine W_sr rfl (s_lda (xs := ruC default) E rfl rfl (row_heap hh2) rfl (s_st E (vs := ruC default) rfl rfl rfl rfl hh2 rfl rfl rfl (Nat.le_refl _) (s_as rfl (s_nil ?_))))
    have fin := fin_cell (vs := ruC default) hE12 (Nat.le_refl _) hh2 rfl
    exact W_ret ⟨_, resC2 E rfl rfl rfl fin.1 rfl rfl, ⟨by unfold ruleOfM; rw [hb]; rfl, fin.2⟩⟩
  · refine W_if rfl (fun h => by cases h) (fun _ => W_skip ?_)
    have hpl := hit_lt hb
    obtain ⟨a, rfl, hrow⟩ := hp.some (by intro h0; have := flat_length ruC 4 ruC_len l; rw [h0] at this; simp at this; omega)
    refine W_sr rfl (s_mv rfl (s_mv rfl (s_ia E rfl rfl rfl rfl (by omega) (s_lda E rfl rfl (Ext.row hE12 (hrow.at ruC_len hpl)) rfl (s_st E (vs := ruC l[posL pairCmp l ⟨first, next, 0, 0⟩]) rfl rfl rfl rfl hh2 rfl rfl rfl (Nat.le_refl _) (s_as rfl (s_nil ?_)))))))
    have fin := fin_cell (vs := ruC l[posL pairCmp l ⟨first, next, 0, 0⟩]) hE12 (Nat.le_refl _) hh2 rfl
    exact W_ret ⟨_, resC2 E rfl rfl rfl fin.1 rfl rfl, ⟨by rw [show ruleOfM l first next = (l[posL pairCmp l ⟨first, next, 0, 0⟩], true) by unfold ruleOfM; rw [hb]; simp [hpl]]; rfl, fin.2⟩⟩
theorem metric_Rule_c {m : Me} {p q : Option Addr} {c d : Nat} {first next : Int} (hm : MeR w m p q) :
    Ret Go.Proofs.Tryz.prog 22 #[meV m p q c d, iV first, iV next] w fun v w' => v = .tuple #[ruV (ruleM m first next).1, iV (ruleM m first next).2] ∧ Ext w w' := by
  refine enterC Go.Proofs.Tryz.func22 rfl rfl rfl ?_
  refine W_sr rfl (s_bxA rfl fun w1 hE1 hh1 hs1 => (s_alA E rfl fun w2 hE2 hh2 hs2 => (s_as rfl (s_nil ?_))))
  have hE12 := hE1.trans hE2
  have hrow1 := row_heap hh1
  refine W_seq ?_
  refine W_sr rfl (s_lda E rfl rfl (Ext.row hE2 hrow1) rfl (s_callx rfl rfl (metric_Valid_c (hm.ext hE12)) fun w3 hE3 => (s_not rfl (s_nil ?_))))
  have hE13 := hE12.trans hE3
  have hh3 := Ext.heap hE3 hh2
  cases hv : validM m
  · refine W_if rfl (fun _ => ?_) (fun h => by cases h)
    refine W_sr rfl (s_bld rfl (cells := #[iV 0, iV 0, iV 0, iV 0]) (by kernel_rfl) (s_st E (vs := ruC default) rfl rfl rfl rfl hh3 rfl rfl rfl (Nat.le_refl _) (s_as rfl (s_nil ?_))))
    have fin := fin_cell (vs := ruC default) hE13 (by have := hE1.size; omega) hh3 rfl
    exact W_ret ⟨_, resC2 E rfl rfl rfl fin.1 rfl rfl, ⟨by unfold ruleM; rw [hv]; rfl, fin.2⟩⟩
  · refine W_if rfl (fun h => by cases h) (fun _ => W_skip ?_)
    have hvp := valid_parts hv
    have hsr := rising_srt ord_pair _ hvp.2.2.2.2.2.2
    refine W_sr rfl (s_fa E rfl rfl (s_ld E rfl rfl (Ext.row (hE2.trans hE3) hrow1 2 _ rfl) (s_mv rfl (s_mv rfl (s_callx rfl rfl (metric_RuleOf_c (first := first) (next := next) hsr rfl hm.nru (hm.ext hE13).ru) fun w4 hE4 => (s_mv rfl (s_ex rfl rfl (s_ex rfl rfl (s_alst E rfl rfl rfl rfl rfl fun w5 hE5 hs5 hh5 => (s_as rfl (s_nil ?_)))))))))))
    have hE15 := hE13.trans (hE4.trans hE5)
    have hh4 := Ext.heap (hE4.trans hE5) hh3
    refine W_seq ?_
    refine W_sr rfl (s_mv rfl (s_not rfl (s_nil ?_)))
    cases hb : (ruleOfM m.rules first next).2
    · refine W_if rfl (fun _ => ?_) (fun h => by cases h)
      refine W_sr rfl (s_bld rfl (cells := #[iV 0, iV 0, iV 0, iV 0]) (by kernel_rfl) (s_st E (vs := ruC default) rfl rfl rfl rfl hh4 rfl rfl rfl (Nat.le_refl _) (s_as rfl (s_nil ?_))))
      have fin := fin_cell (vs := ruC default) hE15 (by have := hE1.size; omega) hh4 rfl
      exact W_ret ⟨_, resC2 E rfl rfl rfl fin.1 rfl rfl, ⟨by unfold ruleM; rw [hv, hb]; rfl, fin.2⟩⟩
    · refine W_if rfl (fun h => by cases h) (fun _ => W_skip ?_)
      refine W_sr rfl (s_lda E rfl rfl (row_heap hh5) rfl (s_st E (vs := ruC (ruleOfM m.rules first next).1) rfl rfl rfl rfl hh4 rfl rfl rfl (Nat.le_refl _) (s_as rfl (s_nil ?_))))
      have fin := fin_cell (vs := ruC (ruleOfM m.rules first next).1) hE15 (by have := hE1.size; omega) hh4 rfl
      exact W_ret ⟨_, resC2 E rfl rfl rfl fin.1 rfl rfl, ⟨by unfold ruleM; rw [hv, hb]; rfl, fin.2⟩⟩
end
end Go.Proofs.YthfnijlgmjkedaaGreat
namespace Go.Proofs.YthfnijlgmjkedaaGreat
set_option maxRecDepth 100000
set_option maxHeartbeats 1000000
set_option linter.unusedVariables false
set_option linter.unusedSimpArgs false
open Go Go.Fx Go.Proofs.YthfnijlgmjkedaaGreat.Tab
structure Gl where
  ch : Ch
  pp : Option Addr
  pn : Nat
  pc : Nat
def glC (g : Gl) : List Value := chC g.ch ++ [.slice g.pp g.pn g.pc]
theorem glC_len (g : Gl) : (glC g).length = 5 := rfl
def me0 : Me := ⟨0, [], []⟩
/-- what Of answers -/
def ofE (size : Int) (chars : List Ch) (rules : List Ru) (me : Me) : Int :=
  if sizeB size && (chars.all charB && rules.all ruleB) then (if decide (256 < chars.length) || decide (500 < rules.length) then 3 else if twiceB codeCmp me.chars || twiceB pairCmp me.rules then 14 else 0) else 2
/-- a metric of these, sorted -/
structure Made (size : Int) (chars : List Ch) (rules : List Ru) (me : Me) : Prop where
  size : me.size = size
  pc : me.chars.Perm chars
  pr : me.rules.Perm rules
  sc : SrtL codeCmp me.chars
  sr : SrtL pairCmp me.rules
def OkOr (m : Me) (e : Int) : Me := if e = 0 then m else me0
theorem meR_zero (w : World) : MeR w me0 none none := ⟨rfl, rfl, by decide, by decide⟩
/-- the answer lies in the result's variable -/
def Ans (w' : World) (v : Value) (m : Me) (e : Int) : Prop := ∃ p q c d, v = .tuple #[meV (OkOr m e) p q c d, iV e] ∧ MeR w' (OkOr m e) p q
/-- the answer's slices are new -/
def FrA (N : Nat) (v : Value) : Prop := ∃ m p q c d e, v = .tuple #[meV m p q c d, iV e] ∧ (∀ a, p = some a → N ≤ a.block) ∧ ∀ a, q = some a → N ≤ a.block
theorem fr_err {N : Nat} {e : Int} : FrA N (.tuple #[.agg #[iV 0, .slice none 0 0, .slice none 0 0], iV e]) := ⟨me0, none, none, 0, 0, e, rfl, (fun a h => by cases h), (fun a h => by cases h)⟩
theorem FrA.get {N : Nat} {m : Me} {p q : Option Addr} {c d : Nat} {e : Int} (h : FrA N (.tuple #[meV m p q c d, iV e])) : (∀ a, p = some a → N ≤ a.block) ∧ ∀ a, q = some a → N ≤ a.block := by
  obtain ⟨m', p', q', c', d', e', h1, h2, h3⟩ := h
  unfold meV at h1
  simp only [Value.tuple.injEq, Value.agg.injEq, Array.mk.injEq, List.cons.injEq, Value.slice.injEq] at h1
  obtain ⟨⟨_, ⟨rfl, _⟩, ⟨rfl, _⟩, _⟩, _⟩ := h1
  exact ⟨h2, h3⟩
theorem ans_err {w : World} {m : Me} {e : Int} (h : e ≠ 0) : Ans w (.tuple #[.agg #[iV 0, .slice none 0 0, .slice none 0 0], iV e]) m e :=
  ⟨none, none, 0, 0, by unfold OkOr; rw [if_neg h]; rfl, by unfold OkOr; rw [if_neg h]; exact meR_zero w⟩
section
variable {w : World}
theorem metric_Of_c {size : Int} {pg q : Option Addr} {ng cg m d : Nat} {gs : List Gl} {k : List Ru} (hn : ng = gs.length) (hm : m = k.length) (hln : ng ≤ 1000000) (hlm : m ≤ 1000000) (hp : SlR w pg (gs.flatMap glC)) (hq : SlR w q (k.flatMap ruC)) :
    Ret Go.Proofs.Tryz.prog 18 #[iV size, .slice pg ng cg, .slice q m d] w fun v w' => (∃ me, Made size (gs.map Gl.ch) k me ∧ Ans w' v me (ofE size (gs.map Gl.ch) k me) ∧ FrA w.heap.size v) ∧ Ext w w' := by
  refine enterC Go.Proofs.Tryz.func18 rfl rfl rfl ?_
  refine W_sr rfl (s_alA E rfl fun w1 hE1 hh1 hs1 => (s_as rfl (s_nil ?_)))
  refine W_sr rfl (s_as rfl (s_nil ?_))
  refine W_seq ?_
  refine W_sr rfl (s_mv rfl (s_len E rfl rfl (s_mv rfl (s_nil ?_))))
  refine W_block ?_
  refine W_loop (fun r ρ w' => ∃ ρ' i v, ρ = upd (upd (upd (upd (upd (upd (upd ρ' 0 (iV size)) 2 (.slice q m d)) 6 (.pointer (some ⟨w.heap.size, 0, none⟩))) 8 v) 12 (.slice pg ng cg)) 13 (iV ng)) 14 (iV (i : Nat)) ∧ Ext w1 w' ∧ i ≤ ng ∧ r = ng - i ∧
      Own w' 50 4 v i (((gs.take i).map Gl.ch).flatMap chC) ∧ ∀ k, v.ownBlock = some k → w1.heap.size ≤ k) ng
    ⟨_, 0, .slice none 0 0, u7 rfl rfl rfl rfl rfl rfl rfl, Mod.refl, by omega, by omega, Own.nil _ _ _, by simp [Value.ownBlock]⟩ ?_
  rintro r _ w2 ⟨ρ, i, v, rfl, hE2, hi, rfl, hown, hfr⟩
  refine W_sr rfl (s_lss rfl rfl (s_nil ?_))
  refine W_seq ?_
  refine W_if rfl (fun hc => W_skip ?_) (fun hc => W_exit ?_)
  · have hc := of_decide_eq_true hc
    have hil : i < gs.length := by omega
    obtain ⟨a, rfl, hrow⟩ := hp.some (by intro h0; have := flat_length glC 5 glC_len gs; rw [h0] at this; simp at this; omega)
    refine W_seq (W_block ?_)
    refine W_sr rfl (s_ia E rfl rfl rfl rfl (by omega) (s_lda E rfl rfl (Ext.row (hE1.trans hE2) (hrow.at glC_len hil)) rfl (s_alst E rfl rfl rfl rfl rfl fun w3 hE3 hs3 hh3 => (s_nil ?_))))
    have hr3 := row_heap hh3
    refine W_reg rfl (s_mv rfl (s_fa E rfl rfl (s_ld E rfl rfl (hr3 0 _ rfl) (s_fa E rfl rfl (s_ld E rfl rfl (hr3 1 _ rfl) (s_fa E rfl rfl (s_ld E rfl rfl (hr3 2 _ rfl) (s_fa E rfl rfl (s_ld E rfl rfl (hr3 3 _ rfl) (s_bld rfl (cells := (chC gs[i].ch).toArray) (by kernel_rfl) (s_bs E rfl rfl rfl rfl rfl (cells := (chC gs[i].ch).toArray) (by kernel_rfl) (s_ap (news := chC gs[i].ch) E rfl rfl rfl rfl (Ext.owns e1 (Ext.owns hE3 hown)) rfl rfl bcr rfl rfl (by omega) fun v' w4 hown' hmod hon => (s_as rfl (s_nil ?_))))))))))))))
    refine W_reg rfl (s_add rfl rfl (by omega) (s_mv rfl (s_nil ?_)))
    refine ⟨ng - (i + 1), by omega, _, i + 1, v', u7 rfl rfl rfl rfl rfl rfl rfl, Ext.thenMod (hE2.trans (hE3.trans e1)) hmod (fun k hk he => by have := hfr k he; omega), by omega, rfl, ?_, ?_⟩
    · rw [List.take_succ_eq_append_getElem hil, List.map_append, List.flatMap_append]
      simpa using hown'
    · intro k hk
      rcases hon with h | ⟨j, hj, hle⟩
      · exact hfr k (by rw [← h]; exact hk)
      · rw [hj] at hk; cases hk
        have h2 := hE2.size; have h3 := hE3.size
        simp at hle
        omega
  · have hc := of_decide_eq_false hc
    have hie : i = ng := by omega
    subst hie
    rw [List.take_of_length_le (by omega)] at hown
    obtain ⟨p2, c2, rfl, hsl2, _, _⟩ := hown.form
    have hlc : i = (gs.map Gl.ch).length := by simp [hn]
    generalize gs.map Gl.ch = cs at hown hsl2 hlc ⊢
    have hE02 := hE1.trans hE2
    have hh2 := Ext.heap hE2 hh1
    refine W_sr rfl (s_mv rfl (s_mv rfl (s_mv rfl (s_call rfl rfl (metric_made_c hlc hm hln hlm hsl2 (Ext.sl hE02 hq)) ?_))))
    rintro _ w3 ⟨⟨me, p3, q3, c3, d3, rfl, hR3, hsz, hpc, hpr, hsc, hsr, hfp, hfq⟩, hE3⟩
    have hmade : Made size cs k me := ⟨hsz, hpc, hpr, hsc, hsr⟩
    refine (s_alst E rfl rfl rfl rfl rfl fun w4 hE4 hs4 hh4 => (s_nil ?_))
    have hr4 := row_heap hh4
    have hE04 := hE02.trans (hE3.trans hE4)
    have hh4' := Ext.heap (hE3.trans hE4) hh2
    have callA : ∀ w', Ext w4 w' → Ret Go.Proofs.Tryz.prog 33 #[.slice p2 i c2, .func (.func 34) #[] #[]] w' _ := fun w' h => metric_all_CharMetric_c hlc hln (Ext.sl ((hE3.trans hE4).trans h) hsl2) (fun _ _ => metric_isChar_c)
    have callB : ∀ w', Ext w4 w' → Ret Go.Proofs.Tryz.prog 51 #[.slice q m d, .func (.func 52) #[] #[]] w' _ := fun w' h => metric_all_LigRule_c hm hlm (Ext.sl (hE04.trans h) hq) (fun _ _ => metric_isRule_c)
    have err : ∀ (e : Int) (w' : World), e ≠ 0 → Ext w4 w' → ofE size cs k me = e → Row (w'.setRow w.heap.size (splice (Value.agg #[iV 0, .slice none 0 0, .slice none 0 0]).cells 0 (meC me0 none none 0 0))) ⟨w.heap.size, 0, none⟩ (meC me0 none none 0 0) ∧
        (∃ me, Made size cs k me ∧ Ans (w'.setRow w.heap.size (splice (Value.agg #[iV 0, .slice none 0 0, .slice none 0 0]).cells 0 (meC me0 none none 0 0))) (.tuple #[.agg (meC me0 none none 0 0).toArray, iV e]) me (ofE size cs k me) ∧ FrA w.heap.size (.tuple #[.agg (meC me0 none none 0 0).toArray, iV e])) ∧ Ext w (w'.setRow w.heap.size (splice (Value.agg #[iV 0, .slice none 0 0, .slice none 0 0]).cells 0 (meC me0 none none 0 0))) := by
      intro e w' he hE' hof
      have fin := fin_cell (vs := meC me0 none none 0 0) (hE04.trans hE') (Nat.le_refl _) (Ext.heap hE' hh4') rfl
      exact ⟨fin.1, ⟨me, hmade, by rw [hof]; exact ans_err he, fr_err⟩, fin.2⟩
    refine W_n5 0 2 6 8 11 (iV size) (.slice q m d) (.pointer (some ⟨w.heap.size, 0, none⟩)) (.slice p2 i c2) (.pointer (some ⟨w3.heap.size, 0, none⟩)) rfl rfl rfl rfl rfl fun ρ => ?_
    refine W_sk fun K hK => ?_
    refine W_block ?_
    cases h0 : sizeB size
    · refine W_sr rfl (s_mv rfl (s_callp rfl rfl (Ret.eqv metric_IsSize_c (congrArg Value.bool h0)) (s_not rfl (s_mv rfl (s_g0 rfl (s_g0 rfl (s_g0 rfl (s_pk rfl (s_mv rfl (s_g0 rfl (s_g0 rfl (s_g0 rfl (s_pk rfl (s_as rfl (s_nil ?_)))))))))))))))
      refine W_if rfl (fun _ => ?_) (fun h => by cases h)
      refine W_sr rfl (s_bld rfl (cells := (meC me0 none none 0 0).toArray) (by kernel_rfl) (s_st E (vs := meC me0 none none 0 0) rfl rfl rfl rfl hh4' rfl rfl rfl (Nat.le_refl _) (s_as rfl (s_nil ?_))))
      obtain ⟨g1, g2⟩ := err 2 w4 (by decide) Mod.refl (by unfold ofE; rw [h0]; rfl)
      exact W_ret ⟨_, resC2 E rfl rfl rfl g1 rfl rfl, g2⟩
    cases h1 : cs.all charB
    · refine W_sr rfl (s_mv rfl (s_callp rfl rfl (Ret.eqv metric_IsSize_c (congrArg Value.bool h0)) (s_not rfl (s_mv rfl (s_g1 rfl (s_mv rfl (s_g1 rfl (s_callx rfl rfl (Ret.eqv (callA _ Mod.refl) (congrArg Value.bool h1)) fun w5 hE5 => (s_g1 rfl (s_not rfl (s_pk rfl (s_mv rfl (s_g0 rfl (s_g0 rfl (s_g0 rfl (s_pk rfl (s_as rfl (s_nil ?_))))))))))))))))))
      refine W_if rfl (fun _ => ?_) (fun h => by cases h)
      refine W_sr rfl (s_bld rfl (cells := (meC me0 none none 0 0).toArray) (by kernel_rfl) (s_st E (vs := meC me0 none none 0 0) rfl rfl rfl rfl (Ext.heap hE5 hh4') rfl rfl rfl (Nat.le_refl _) (s_as rfl (s_nil ?_))))
      obtain ⟨g1, g2⟩ := err 2 w5 (by decide) hE5 (by unfold ofE; rw [h0, h1]; rfl)
      exact W_ret ⟨_, resC2 E rfl rfl rfl g1 rfl rfl, g2⟩
    cases h2 : k.all ruleB
    · refine W_sr rfl (s_mv rfl (s_callp rfl rfl (Ret.eqv metric_IsSize_c (congrArg Value.bool h0)) (s_not rfl (s_mv rfl (s_g1 rfl (s_mv rfl (s_g1 rfl (s_callx rfl rfl (Ret.eqv (callA _ Mod.refl) (congrArg Value.bool h1)) fun w5 hE5 => (s_g1 rfl (s_not rfl (s_pk rfl (s_mv rfl (s_g1 rfl (s_mv rfl (s_g1 rfl (s_callx rfl rfl (Ret.eqv (callB _ hE5) (congrArg Value.bool h2)) fun w6 hE6 => (s_g1 rfl (s_not rfl (s_pk rfl (s_as rfl (s_nil ?_)))))))))))))))))))))
      refine W_if rfl (fun _ => ?_) (fun h => by cases h)
      refine W_sr rfl (s_bld rfl (cells := (meC me0 none none 0 0).toArray) (by kernel_rfl) (s_st E (vs := meC me0 none none 0 0) rfl rfl rfl rfl (Ext.heap (hE5.trans hE6) hh4') rfl rfl rfl (Nat.le_refl _) (s_as rfl (s_nil ?_))))
      obtain ⟨g1, g2⟩ := err 2 w6 (by decide) (hE5.trans hE6) (by unfold ofE; rw [h0, h1, h2]; rfl)
      exact W_ret ⟨_, resC2 E rfl rfl rfl g1 rfl rfl, g2⟩
    refine W_sr rfl (s_mv rfl (s_callp rfl rfl (Ret.eqv metric_IsSize_c (congrArg Value.bool h0)) (s_not rfl (s_mv rfl (s_g1 rfl (s_mv rfl (s_g1 rfl (s_callx rfl rfl (Ret.eqv (callA _ Mod.refl) (congrArg Value.bool h1)) fun w5 hE5 => (s_g1 rfl (s_not rfl (s_pk rfl (s_mv rfl (s_g1 rfl (s_mv rfl (s_g1 rfl (s_callx rfl rfl (Ret.eqv (callB _ hE5) (congrArg Value.bool h2)) fun w6 hE6 => (s_g1 rfl (s_not rfl (s_pk rfl (s_as rfl (s_nil ?_)))))))))))))))))))))
    refine W_if rfl (fun h => by cases h) (fun _ => ?_)
    refine W_n5 0 2 6 8 11 (iV size) (.slice q m d) (.pointer (some ⟨w.heap.size, 0, none⟩)) (.slice p2 i c2) (.pointer (some ⟨w3.heap.size, 0, none⟩)) rfl rfl rfl rfl rfl fun ρ => ?_
    have hE46 := hE5.trans hE6
    have hh6 := Ext.heap hE46 hh4'
    have lim : ∀ b, (decide (256 < cs.length) || decide (500 < k.length)) = b → ofE size cs k me = if b then 3 else if twiceB codeCmp me.chars || twiceB pairCmp me.rules then 14 else 0 := fun b hb => by
      unfold ofE; rw [h0, h1, h2, hb]; rfl
    by_cases h3 : (256 : Int) < i
    · have hl := lim true (by rw [decide_eq_true (show 256 < cs.length by omega)]; rfl)
      refine W_sr rfl (s_mv rfl (s_len E rfl rfl (s_cmp (c := true) rfl rfl (decide_eq_true h3) (s_mv rfl (s_g0 rfl (s_g0 rfl (s_g0 rfl (s_pk rfl (s_as rfl (s_nil ?_))))))))))
      refine W_if rfl (fun _ => ?_) (fun h => by cases h)
      refine W_sr rfl (s_bld rfl (cells := (meC me0 none none 0 0).toArray) (by kernel_rfl) (s_st E (vs := meC me0 none none 0 0) rfl rfl rfl rfl hh6 rfl rfl rfl (Nat.le_refl _) (s_as rfl (s_nil ?_))))
      obtain ⟨g1, g2⟩ := err 3 w6 (by decide) hE46 hl
      exact W_ret ⟨_, resC2 E rfl rfl rfl g1 rfl rfl, g2⟩
    by_cases h4 : (500 : Int) < m
    · have hl := lim true (by rw [decide_eq_true (show 500 < k.length by omega), Bool.or_true])
      refine W_sr rfl (s_mv rfl (s_len E rfl rfl (s_cmp (c := false) rfl rfl (decide_eq_false h3) (s_mv rfl (s_g1 rfl (s_mv rfl (s_g1 rfl (s_len E rfl rfl (s_g1 rfl (s_cmp (c := true) rfl rfl (decide_eq_true h4) (s_pk rfl (s_as rfl (s_nil ?_)))))))))))))
      refine W_if rfl (fun _ => ?_) (fun h => by cases h)
      refine W_sr rfl (s_bld rfl (cells := (meC me0 none none 0 0).toArray) (by kernel_rfl) (s_st E (vs := meC me0 none none 0 0) rfl rfl rfl rfl hh6 rfl rfl rfl (Nat.le_refl _) (s_as rfl (s_nil ?_))))
      obtain ⟨g1, g2⟩ := err 3 w6 (by decide) hE46 hl
      exact W_ret ⟨_, resC2 E rfl rfl rfl g1 rfl rfl, g2⟩
    have hl := lim false (by rw [decide_eq_false (show ¬ 256 < cs.length by omega), decide_eq_false (show ¬ 500 < k.length by omega)]; rfl)
    refine W_sr rfl (s_mv rfl (s_len E rfl rfl (s_cmp (c := false) rfl rfl (decide_eq_false h3) (s_mv rfl (s_g1 rfl (s_mv rfl (s_g1 rfl (s_len E rfl rfl (s_g1 rfl (s_cmp (c := false) rfl rfl (decide_eq_false h4) (s_pk rfl (s_as rfl (s_nil ?_)))))))))))))
    refine W_if rfl (fun h => by cases h) (fun _ => ?_)
    refine W_n5 0 2 6 8 11 (iV size) (.slice q m d) (.pointer (some ⟨w.heap.size, 0, none⟩)) (.slice p2 i c2) (.pointer (some ⟨w3.heap.size, 0, none⟩)) rfl rfl rfl rfl rfl fun ρ => ?_
    have hR6 : MeR w6 me p3 q3 := hR3.ext (hE4.trans hE46)
    have hr6 : Row w6 _ _ := Ext.row hE46 hr4
    cases h5 : twiceB codeCmp me.chars
    case true =>
      refine W_sr rfl (s_fa E rfl rfl (s_ld E rfl rfl (hr6 1 _ rfl) (s_callx rfl rfl (Ret.eqv (metric_twice_CharMetric_c rfl hR6.nch hR6.ch (fun _ _ _ => metric_compareCodes_c)) (congrArg Value.bool h5)) fun w7 hE7 => (s_mv rfl (s_g0 rfl (s_g0 rfl (s_g0 rfl (s_pk rfl (s_as rfl (s_nil ?_))))))))))
      refine W_if rfl (fun _ => ?_) (fun h => by cases h)
      refine W_sr rfl (s_bld rfl (cells := (meC me0 none none 0 0).toArray) (by kernel_rfl) (s_st E (vs := meC me0 none none 0 0) rfl rfl rfl rfl (Ext.heap hE7 hh6) rfl rfl rfl (Nat.le_refl _) (s_as rfl (s_nil ?_))))
      obtain ⟨g1, g2⟩ := err 14 w7 (by decide) (hE46.trans hE7) (by rw [hl, h5]; rfl)
      exact W_ret ⟨_, resC2 E rfl rfl rfl g1 rfl rfl, g2⟩
    cases h6 : twiceB pairCmp me.rules
    case true =>
      refine W_sr rfl (s_fa E rfl rfl (s_ld E rfl rfl (hr6 1 _ rfl) (s_callx rfl rfl (Ret.eqv (metric_twice_CharMetric_c rfl hR6.nch hR6.ch (fun _ _ _ => metric_compareCodes_c)) (congrArg Value.bool h5)) fun w7 hE7 => (s_mv rfl (s_g1 rfl (s_fa E rfl rfl (s_g1 rfl (s_ld E rfl rfl (Ext.row hE7 hr6 2 _ rfl) (s_g1 rfl (s_callx rfl rfl (Ret.eqv (metric_twice_LigRule_c rfl hR6.nru (hR6.ext hE7).ru (fun _ _ _ => metric_ComparePairs_c)) (congrArg Value.bool h6)) fun w8 hE8 => (s_pk rfl (s_as rfl (s_nil ?_)))))))))))))
      refine W_if rfl (fun _ => ?_) (fun h => by cases h)
      refine W_sr rfl (s_bld rfl (cells := (meC me0 none none 0 0).toArray) (by kernel_rfl) (s_st E (vs := meC me0 none none 0 0) rfl rfl rfl rfl (Ext.heap (hE7.trans hE8) hh6) rfl rfl rfl (Nat.le_refl _) (s_as rfl (s_nil ?_))))
      obtain ⟨g1, g2⟩ := err 14 w8 (by decide) (hE46.trans (hE7.trans hE8)) (by rw [hl, h5, h6]; rfl)
      exact W_ret ⟨_, resC2 E rfl rfl rfl g1 rfl rfl, g2⟩
    refine W_sr rfl (s_fa E rfl rfl (s_ld E rfl rfl (hr6 1 _ rfl) (s_callx rfl rfl (Ret.eqv (metric_twice_CharMetric_c rfl hR6.nch hR6.ch (fun _ _ _ => metric_compareCodes_c)) (congrArg Value.bool h5)) fun w7 hE7 => (s_mv rfl (s_g1 rfl (s_fa E rfl rfl (s_g1 rfl (s_ld E rfl rfl (Ext.row hE7 hr6 2 _ rfl) (s_g1 rfl (s_callx rfl rfl (Ret.eqv (metric_twice_LigRule_c rfl hR6.nru (hR6.ext hE7).ru (fun _ _ _ => metric_ComparePairs_c)) (congrArg Value.bool h6)) fun w8 hE8 => (s_pk rfl (s_as rfl (s_nil ?_)))))))))))))
    refine W_if rfl (fun h => by cases h) (fun _ => W_skip ?_)
    refine hK _ _ ?_
    have hE68 := hE7.trans hE8
    have fin := fin_cell (vs := meC me p3 q3 c3 d3) (hE04.trans (hE46.trans hE68)) (Nat.le_refl _) (Ext.heap hE68 hh6) rfl
    have hR8 : MeR (w8.setRow w.heap.size (splice (Value.agg #[iV 0, .slice none 0 0, .slice none 0 0]).cells 0 (meC me p3 q3 c3 d3))) me p3 q3 := by
      refine ⟨SlR.mod (setRow_mod (M := fun k => k = w.heap.size) rfl) (hR6.ext hE68).ch ?_, SlR.mod (setRow_mod (M := fun k => k = w.heap.size) rfl) (hR6.ext hE68).ru ?_, hR6.nch, hR6.nru⟩
      · intro a ha he; have := hfp a ha; have := hE1.size; have := hE2.size; omega
      · intro a ha he; have := hfq a ha; have := hE1.size; have := hE2.size; omega
    refine W_sr rfl (s_lda (xs := meC me p3 q3 c3 d3) E rfl rfl (Ext.row hE68 hr6) rfl (s_st E (vs := meC me p3 q3 c3 d3) rfl rfl rfl rfl (Ext.heap hE68 hh6) rfl rfl rfl (Nat.le_refl _) (s_as rfl (s_nil ?_))))
    have hof : ofE size cs k me = 0 := by rw [hl, h5, h6]; rfl
    refine W_ret ⟨_, resC2 E rfl rfl rfl fin.1 rfl rfl, ⟨me, hmade, ?_, ⟨me, p3, q3, c3, d3, 0, rfl, fun a ha => by have := hfp a ha; have := hE1.size; have := hE2.size; omega, fun a ha => by have := hfq a ha; have := hE1.size; have := hE2.size; omega⟩⟩, fin.2⟩
    rw [hof]
    exact ⟨p3, q3, c3, d3, rfl, hR8⟩
end
end Go.Proofs.YthfnijlgmjkedaaGreat
namespace Go.Proofs.YthfnijlgmjkedaaGreat
set_option maxRecDepth 100000
set_option maxHeartbeats 1000000
set_option linter.unusedVariables false
set_option linter.unusedSimpArgs false
open Go Go.Fx Go.Proofs.YthfnijlgmjkedaaGreat.Tab Go.RowKit
theorem slP_zero (a : Addr) (m s : Nat) : slP (some a) 0 m s = some a := by
  unfold slP; split
  · rfl
  · simp [add_zero]
section
variable {w : World}
theorem slices_Grow_CharMetric_c {n : Nat} (hn : n ≤ 2000000) : Ret Go.Proofs.Tryz.prog 96 #[.slice none 0 0, iV n] w fun v w' => Own w' 50 4 v 0 [] ∧ (∀ k, v.ownBlock = some k → w.heap.size ≤ k) ∧ Ext w w' := by
  refine enter Go.Proofs.Tryz.func96 rfl rfl rfl ?_
  refine W_sr rfl (s_as rfl (s_nil ?_))
  refine W_seq ?_
  refine W_sr rfl (s_mv rfl (s_cmp (c := false) rfl rfl (decide_eq_false (by omega)) (s_nil ?_)))
  refine W_if rfl (fun h => by cases h) (fun _ => W_skip ?_)
  refine W_seq ?_
  refine W_sr rfl (s_mv rfl (s_mv rfl (s_cap E rfl rfl (s_mv rfl (s_len E rfl rfl (s_sub rfl rfl (by omega) (s_sub rfl rfl (by omega) (s_as rfl (s_nil ?_)))))))))
  refine W_sr rfl (s_mv rfl (s_gtr rfl rfl (s_nil ?_)))
  refine W_if rfl (fun hc => ?_) (fun hc => W_skip ?_)
  · have hc := of_decide_eq_true hc
    have e0 : ((n : Int) - (0 - 0)) = n := by omega
    obtain ⟨hu, i, hi, hs⟩ := E.h_sl _ _ _ (show E.sl 22 = some (50, 4) from rfl)
    obtain ⟨i', hi', hz⟩ := E.h_zr _ _ (show E.zr 50 = some (.agg #[iV 0, iV 0, iV 0, iV 0]) from rfl)
    rw [hi] at hi'; cases hi'
    obtain ⟨i', hi', hb⟩ := E.h_bt _ _ (show E.bt 50 = some 32 from rfl)
    rw [hi] at hi'; cases hi'
    have hint := E.h_kd _ _ (show E.kd 3 = some .i64 from rfl)
    have hr := Go.Lib.run_append_nil_zeros (P := Go.Proofs.Tryz.prog) w 22 3 22 50 i _ .i64 .i64 hu hint hi hz n (by omega) (by omega) (by omega) (by rw [hb]; omega)
    have hcm := grownCap_le_maxLen w n 0 50 (by simp only [maxLen]; omega)
    refine W_reg rfl (s_mv rfl (s_mv rfl (s_cap E rfl rfl (s_slc E rfl rfl (sb_h rfl (Nat.le_refl 0)) (s_mv rfl (s_val (v := .slice (some ⟨w.heap.size, 0, none⟩) n (grownCap w n 0 50)) (w' := w.drew.alloc (.cells (Builtin.zeroCells (Value.agg #[iV 0, iV 0, iV 0, iV 0]).cells n ++ Builtin.zeroCells (Value.agg #[iV 0, iV 0, iV 0, iV 0]).cells (grownCap w n 0 50 - n)) 50)) ?_ (s_mv rfl (s_len E rfl rfl (s_slc (h := 0) E rfl rfl (sb_h rfl (Nat.zero_le _)) (s_as rfl (s_nil ?_)))))))))))
    · have e1 : ((n : Int) - ((0 : Nat) - (0 : Nat))) = n := by omega
      simp only [execOp, resolve, invoke, builtin, Sem.run_bind, Sem.run_pure, Result.andThen_ok, List.map_toArray, List.map_cons, List.map_nil]
      show Result.andThen ((Builtin.append_ #[22, 3] 22 #[.slice none 0 0, .int .i64 ((n : Int) - ((0 : Nat) - (0 : Nat)))]).run _ w) _ = _
      rw [e1, hr]
      rfl
    refine W_sr rfl (s_mv rfl (s_as rfl (s_nil ?_)))
    have hge := grownCap_ge w n 0 50
    refine W_ret ⟨_, rfl, ?_, ?_, ?_⟩
    · show Own _ _ 4 (.slice (slP (some ⟨w.heap.size, 0, none⟩) 0 _ 4) (0 - 0) (grownCap w n 0 50 - 0)) 0 []
      rw [slP_zero]
      refine ⟨rfl, .inr ⟨w.heap.size, grownCap w n 0 50, _, rfl, Nat.zero_le _, heap_alloc_new w.drew _, Nat.zero_le _, hcm, ?_, rfl⟩⟩
      simp only [Array.size_append, size_zeroCells]
      have : (Value.agg #[iV 0, iV 0, iV 0, iV 0]).cells.size = 4 := rfl
      rw [this, ← Nat.add_mul]
      congr 1
      omega
    · show ∀ k, (Value.slice (slP (some ⟨w.heap.size, 0, none⟩) 0 _ 4) (0 - 0) (grownCap w n 0 50 - 0)).ownBlock = some k → w.heap.size ≤ k
      rw [slP_zero]
      intro k hk
      have h1 : w.heap.size = k := Option.some.inj hk
      omega
    · exact Mod.alloc Ext.drew0 _
  · have hc := of_decide_eq_false hc
    refine W_sr rfl (s_mv rfl (s_as rfl (s_nil ?_)))
    exact W_ret ⟨_, rfl, Own.nil _ _ _, (show ∀ k, (Value.slice none 0 0).ownBlock = some k → w.heap.size ≤ k from fun k hk => by simp [Value.ownBlock] at hk), Mod.refl⟩
theorem slices_Grow_LigRule_c {n : Nat} (hn : n ≤ 2000000) : Ret Go.Proofs.Tryz.prog 97 #[.slice none 0 0, iV n] w fun v w' => Own w' 45 4 v 0 [] ∧ (∀ k, v.ownBlock = some k → w.heap.size ≤ k) ∧ Ext w w' := by
  refine enter Go.Proofs.Tryz.func97 rfl rfl rfl ?_
  refine W_sr rfl (s_as rfl (s_nil ?_))
  refine W_seq ?_
  refine W_sr rfl (s_mv rfl (s_cmp (c := false) rfl rfl (decide_eq_false (by omega)) (s_nil ?_)))
  refine W_if rfl (fun h => by cases h) (fun _ => W_skip ?_)
  refine W_seq ?_
  refine W_sr rfl (s_mv rfl (s_mv rfl (s_cap E rfl rfl (s_mv rfl (s_len E rfl rfl (s_sub rfl rfl (by omega) (s_sub rfl rfl (by omega) (s_as rfl (s_nil ?_)))))))))
  refine W_sr rfl (s_mv rfl (s_gtr rfl rfl (s_nil ?_)))
  refine W_if rfl (fun hc => ?_) (fun hc => W_skip ?_)
  · have hc := of_decide_eq_true hc
    have e0 : ((n : Int) - (0 - 0)) = n := by omega
    obtain ⟨hu, i, hi, hs⟩ := E.h_sl _ _ _ (show E.sl 23 = some (45, 4) from rfl)
    obtain ⟨i', hi', hz⟩ := E.h_zr _ _ (show E.zr 45 = some (.agg #[iV 0, iV 0, iV 0, iV 0]) from rfl)
    rw [hi] at hi'; cases hi'
    obtain ⟨i', hi', hb⟩ := E.h_bt _ _ (show E.bt 45 = some 32 from rfl)
    rw [hi] at hi'; cases hi'
    have hint := E.h_kd _ _ (show E.kd 3 = some .i64 from rfl)
    have hr := Go.Lib.run_append_nil_zeros (P := Go.Proofs.Tryz.prog) w 23 3 23 45 i _ .i64 .i64 hu hint hi hz n (by omega) (by omega) (by omega) (by rw [hb]; omega)
    have hcm := grownCap_le_maxLen w n 0 45 (by simp only [maxLen]; omega)
    refine W_reg rfl (s_mv rfl (s_mv rfl (s_cap E rfl rfl (s_slc E rfl rfl (sb_h rfl (Nat.le_refl 0)) (s_mv rfl (s_val (v := .slice (some ⟨w.heap.size, 0, none⟩) n (grownCap w n 0 45)) (w' := w.drew.alloc (.cells (Builtin.zeroCells (Value.agg #[iV 0, iV 0, iV 0, iV 0]).cells n ++ Builtin.zeroCells (Value.agg #[iV 0, iV 0, iV 0, iV 0]).cells (grownCap w n 0 45 - n)) 45)) ?_ (s_mv rfl (s_len E rfl rfl (s_slc (h := 0) E rfl rfl (sb_h rfl (Nat.zero_le _)) (s_as rfl (s_nil ?_)))))))))))
    · have e1 : ((n : Int) - ((0 : Nat) - (0 : Nat))) = n := by omega
      simp only [execOp, resolve, invoke, builtin, Sem.run_bind, Sem.run_pure, Result.andThen_ok, List.map_toArray, List.map_cons, List.map_nil]
      show Result.andThen ((Builtin.append_ #[23, 3] 23 #[.slice none 0 0, .int .i64 ((n : Int) - ((0 : Nat) - (0 : Nat)))]).run _ w) _ = _
      rw [e1, hr]
      rfl
    refine W_sr rfl (s_mv rfl (s_as rfl (s_nil ?_)))
    have hge := grownCap_ge w n 0 45
    refine W_ret ⟨_, rfl, ?_, ?_, ?_⟩
    · show Own _ _ 4 (.slice (slP (some ⟨w.heap.size, 0, none⟩) 0 _ 4) (0 - 0) (grownCap w n 0 45 - 0)) 0 []
      rw [slP_zero]
      refine ⟨rfl, .inr ⟨w.heap.size, grownCap w n 0 45, _, rfl, Nat.zero_le _, heap_alloc_new w.drew _, Nat.zero_le _, hcm, ?_, rfl⟩⟩
      simp only [Array.size_append, size_zeroCells]
      have : (Value.agg #[iV 0, iV 0, iV 0, iV 0]).cells.size = 4 := rfl
      rw [this, ← Nat.add_mul]
      congr 1
      omega
    · show ∀ k, (Value.slice (slP (some ⟨w.heap.size, 0, none⟩) 0 _ 4) (0 - 0) (grownCap w n 0 45 - 0)).ownBlock = some k → w.heap.size ≤ k
      rw [slP_zero]
      intro k hk
      have h1 : w.heap.size = k := Option.some.inj hk
      omega
    · exact Mod.alloc Ext.drew0 _
  · have hc := of_decide_eq_false hc
    refine W_sr rfl (s_mv rfl (s_as rfl (s_nil ?_)))
    exact W_ret ⟨_, rfl, Own.nil _ _ _, (show ∀ k, (Value.slice none 0 0).ownBlock = some k → w.heap.size ≤ k from fun k hk => by simp [Value.ownBlock] at hk), Mod.refl⟩
/-- a slice and its elements -/
structure Sl (α : Type) where
  p : Option Addr
  c : Nat
  l : List α
def slV {α : Type} (s : Sl α) : Value := .slice s.p s.l.length s.c
theorem take_flat {α : Type} (ps : List (Sl α)) (i : Nat) (h : i < ps.length) : (ps.take (i + 1)).flatMap Sl.l = (ps.take i).flatMap Sl.l ++ ps[i].l := by
  rw [List.take_succ_eq_append_getElem h]
  simp only [List.flatMap_append, List.flatMap_cons, List.flatMap_nil, List.append_nil]
theorem take_flat_le {α : Type} (ps : List (Sl α)) (i : Nat) : ((ps.take i).flatMap Sl.l).length ≤ (ps.flatMap Sl.l).length := by
  conv => rhs; rw [← List.take_append_drop i ps, List.flatMap_append, List.length_append]
  omega
theorem slices_Concat_CharMetric_c {a : Addr} {n cc : Nat} {ps : List (Sl Ch)} (hn : n = ps.length) (hs : n ≤ 1000) (hr : Row w a (ps.map slV)) (hp : ∀ s ∈ ps, SlR w s.p (s.l.flatMap chC)) (hz : ∀ s ∈ ps, s.p = none → s.c = 0) (hm : (ps.flatMap Sl.l).length ≤ 1000000) :
    Ret Go.Proofs.Tryz.prog 67 #[.slice (some a) n cc] w fun v w' => Own w' 50 4 v (ps.flatMap Sl.l).length ((ps.flatMap Sl.l).flatMap chC) ∧ (∀ k, v.ownBlock = some k → w.heap.size ≤ k) ∧ Ext w w' := by
  have cell : ∀ i (h : i < ps.length), w.cell? (a.add (i * 1)) = some (slV ps[i]) := fun i h => by rw [Nat.mul_one]; exact hr i _ (by simp [h])
  refine enter Go.Proofs.Tryz.func67 rfl rfl rfl ?_
  refine W_sr rfl (s_as rfl (s_nil ?_))
  refine W_sr rfl (s_as rfl (s_nil ?_))
  refine W_seq ?_
  refine W_sr rfl (s_mv rfl (s_len E rfl rfl (s_mv rfl (s_nil ?_))))
  refine W_block ?_
  refine W_loop (fun q ρ w' => ∃ ρ' i, ρ = upd (upd (upd (upd (upd ρ' 0 (.slice (some a) n cc)) 3 (iV ((ps.take i).flatMap Sl.l).length)) 9 (.slice (some a) n cc)) 10 (iV n)) 11 (iV (i : Nat)) ∧ i ≤ n ∧ q = n - i ∧ Ext w w') n
    ⟨_, 0, u5 rfl rfl rfl rfl rfl, by omega, by omega, Mod.refl⟩ ?_
  rintro q _ w1 ⟨ρ, i, rfl, hi, rfl, hE⟩
  refine W_sr rfl (s_lss rfl rfl (s_nil ?_))
  refine W_seq ?_
  refine W_if rfl (fun hd => W_skip ?_) (fun hd => W_exit ?_)
  · have hd := of_decide_eq_true hd
    have hil : i < ps.length := by omega
    have hle := take_flat_le ps i
    have hle1 := take_flat_le ps (i + 1)
    have ht := congrArg List.length (take_flat ps i hil)
    rw [List.length_append] at ht
    refine W_seq (W_block ?_)
    refine W_sr rfl (s_ia E rfl rfl rfl rfl (by omega) (s_ld E rfl rfl (Ext.cell hE (cell i hil)) (s_as rfl (s_nil ?_))))
    refine W_sr rfl (s_mv rfl (s_mv rfl (s_len E rfl rfl (s_add (a := (((ps.take i).flatMap Sl.l).length : Int)) (b := (ps[i].l.length : Int)) rfl rfl (by omega) (s_as rfl (s_nil ?_))))))
    refine W_sr rfl (s_mv rfl (s_cmp (c := false) rfl rfl (decide_eq_false (by omega)) (s_nil ?_)))
    refine W_if rfl (fun h => by cases h) (fun _ => W_skip ?_)
    refine W_reg rfl (s_add rfl rfl (by omega) (s_mv rfl (s_nil ?_)))
    exact ⟨n - (i + 1), by omega, _, i + 1, u5 rfl (congrArg iV (by rw [ht]; omega)) rfl rfl rfl, by omega, rfl, hE⟩
  have hd := of_decide_eq_false hd
  have hie : i = ps.length := by omega
  rw [hie, List.take_length]
  refine W_sr rfl (s_mv rfl (s_call rfl rfl (slices_Grow_CharMetric_c (n := (ps.flatMap Sl.l).length) (by omega)) ?_))
  rintro v2 w2 ⟨ho2, hf2, hE2⟩
  refine (s_as rfl (s_nil ?_))
  refine W_seq ?_
  refine W_sr rfl (s_mv rfl (s_len E rfl rfl (s_mv rfl (s_nil ?_))))
  refine W_block ?_
  refine W_loop (fun q ρ w' => ∃ ρ' i v, ρ = upd (upd (upd (upd ρ' 6 v) 25 (.slice (some a) n cc)) 26 (iV n)) 27 (iV (i : Nat)) ∧ i ≤ n ∧ q = n - i ∧ Ext w w' ∧ Own w' 50 4 v ((ps.take i).flatMap Sl.l).length (((ps.take i).flatMap Sl.l).flatMap chC) ∧ ∀ k, v.ownBlock = some k → w.heap.size ≤ k) n
    ⟨_, 0, v2, u4 rfl rfl rfl rfl, by omega, by omega, hE.trans hE2, ho2, fun k hk => by have := hf2 k hk; have := hE.size; omega⟩ ?_
  clear hE hie hd hi ho2 hf2 hE2
  rintro q _ w3 ⟨ρ, i, v, rfl, hi, rfl, hE, hown, hfr⟩
  refine W_sr rfl (s_lss rfl rfl (s_nil ?_))
  refine W_seq ?_
  refine W_if rfl (fun hd => W_skip ?_) (fun hd => W_exit ?_)
  · have hd := of_decide_eq_true hd
    have hil : i < ps.length := by omega
    have hle := take_flat_le ps i
    have hle1 := take_flat_le ps (i + 1)
    have ht := take_flat ps i hil
    have htl := congrArg List.length ht
    rw [List.length_append] at htl
    have hps := hp ps[i] (List.getElem_mem hil)
    have hz := hz ps[i] (List.getElem_mem hil)
    refine W_seq (W_block ?_)
    refine W_sr rfl (s_ia E rfl rfl rfl rfl (by omega) (s_ld E rfl rfl (Ext.cell hE (cell i hil)) (s_as rfl (s_nil ?_))))
    have hall : ∀ l : List Ch, (l.flatMap chC).all (·.oneCell') = true := fun l => by
      rw [List.all_eq_true]; intro x hx; rw [List.mem_flatMap] at hx; obtain ⟨y, _, hy⟩ := hx
      simp only [chC, List.mem_cons, List.not_mem_nil, or_false] at hy
      rcases hy with rfl | rfl | rfl | rfl <;> rfl
    obtain ⟨⟨p, c, l⟩, hsi⟩ : ∃ s, ps[i] = s := ⟨_, rfl⟩
    rw [hsi] at hps hz ht htl ⊢
    have hc : p = none → l = [] ∧ True := fun h0 => by
      subst h0
      have h1 : l.flatMap chC = [] := hps
      have h2 := flat_length chC 4 chC_len l
      rw [h1] at h2
      exact ⟨List.eq_nil_of_length_eq_zero (by simp at h2; omega), trivial⟩
    cases p with
    | none =>
      obtain ⟨rfl, _⟩ := hc rfl
      have hz : c = 0 := hz rfl
      subst hz
      refine W_reg rfl (s_mv rfl (s_mv rfl (s_ap0 E rfl hown rfl rfl (s_as rfl (s_nil ?_)))))
      refine W_reg rfl (s_add rfl rfl (by omega) (s_mv rfl (s_nil ?_)))
      refine ⟨n - (i + 1), by omega, _, i + 1, v, u4 rfl rfl rfl rfl, by omega, rfl, hE, ?_, hfr⟩
      rw [ht]
      show Own w3 _ 4 v ((ps.take i).flatMap Sl.l ++ []).length _
      rw [List.append_nil]
      exact hown
    | some b =>
      have hb9 : (((ps.take i).flatMap Sl.l).length + (Sl.mk (some b) c l).l.length) * 32 ≤ 140737488355328 ∧ ((ps.take i).flatMap Sl.l).length + (Sl.mk (some b) c l).l.length ≤ 9223372036854775807 := by omega
      refine W_reg rfl (s_mv rfl (s_mv rfl (s_ap (news := l.flatMap chC) E rfl rfl rfl rfl hown rfl rfl (Ext.row hE hps) (flat_length chC 4 chC_len l) (hall l) (hb9) fun v' w4 hown' hmod hon => (s_as rfl (s_nil ?_)))))
      refine W_reg rfl (s_add rfl rfl (by omega) (s_mv rfl (s_nil ?_)))
      refine ⟨n - (i + 1), by omega, _, i + 1, v', u4 rfl rfl rfl rfl, by omega, rfl, Ext.thenMod hE hmod (fun k hk he => by have := hfr k he; omega), ?_, ?_⟩
      · rw [ht, List.length_append, List.flatMap_append]; exact hown'
      · intro k hk
        rcases hon with h | ⟨j, hj, hle⟩
        · exact hfr k (by rw [← h]; exact hk)
        · rw [hj] at hk; cases hk
          have := hE.size
          omega
  · have hd := of_decide_eq_false hd
    have hie : i = ps.length := by omega
    subst hie
    rw [List.take_length] at hown
    refine W_sr rfl (s_mv rfl (s_as rfl (s_nil ?_)))
    exact W_ret ⟨_, rfl, hown, hfr, hE⟩
theorem slices_Concat_LigRule_c {a : Addr} {n cc : Nat} {ps : List (Sl Ru)} (hn : n = ps.length) (hs : n ≤ 1000) (hr : Row w a (ps.map slV)) (hp : ∀ s ∈ ps, SlR w s.p (s.l.flatMap ruC)) (hz : ∀ s ∈ ps, s.p = none → s.c = 0) (hm : (ps.flatMap Sl.l).length ≤ 1000000) :
    Ret Go.Proofs.Tryz.prog 68 #[.slice (some a) n cc] w fun v w' => Own w' 45 4 v (ps.flatMap Sl.l).length ((ps.flatMap Sl.l).flatMap ruC) ∧ (∀ k, v.ownBlock = some k → w.heap.size ≤ k) ∧ Ext w w' := by
  have cell : ∀ i (h : i < ps.length), w.cell? (a.add (i * 1)) = some (slV ps[i]) := fun i h => by rw [Nat.mul_one]; exact hr i _ (by simp [h])
  refine enter Go.Proofs.Tryz.func68 rfl rfl rfl ?_
  refine W_sr rfl (s_as rfl (s_nil ?_))
  refine W_sr rfl (s_as rfl (s_nil ?_))
  refine W_seq ?_
  refine W_sr rfl (s_mv rfl (s_len E rfl rfl (s_mv rfl (s_nil ?_))))
  refine W_block ?_
  refine W_loop (fun q ρ w' => ∃ ρ' i, ρ = upd (upd (upd (upd (upd ρ' 0 (.slice (some a) n cc)) 3 (iV ((ps.take i).flatMap Sl.l).length)) 9 (.slice (some a) n cc)) 10 (iV n)) 11 (iV (i : Nat)) ∧ i ≤ n ∧ q = n - i ∧ Ext w w') n
    ⟨_, 0, u5 rfl rfl rfl rfl rfl, by omega, by omega, Mod.refl⟩ ?_
  rintro q _ w1 ⟨ρ, i, rfl, hi, rfl, hE⟩
  refine W_sr rfl (s_lss rfl rfl (s_nil ?_))
  refine W_seq ?_
  refine W_if rfl (fun hd => W_skip ?_) (fun hd => W_exit ?_)
  · have hd := of_decide_eq_true hd
    have hil : i < ps.length := by omega
    have hle := take_flat_le ps i
    have hle1 := take_flat_le ps (i + 1)
    have ht := congrArg List.length (take_flat ps i hil)
    rw [List.length_append] at ht
    refine W_seq (W_block ?_)
    refine W_sr rfl (s_ia E rfl rfl rfl rfl (by omega) (s_ld E rfl rfl (Ext.cell hE (cell i hil)) (s_as rfl (s_nil ?_))))
    refine W_sr rfl (s_mv rfl (s_mv rfl (s_len E rfl rfl (s_add (a := (((ps.take i).flatMap Sl.l).length : Int)) (b := (ps[i].l.length : Int)) rfl rfl (by omega) (s_as rfl (s_nil ?_))))))
    refine W_sr rfl (s_mv rfl (s_cmp (c := false) rfl rfl (decide_eq_false (by omega)) (s_nil ?_)))
    refine W_if rfl (fun h => by cases h) (fun _ => W_skip ?_)
    refine W_reg rfl (s_add rfl rfl (by omega) (s_mv rfl (s_nil ?_)))
    exact ⟨n - (i + 1), by omega, _, i + 1, u5 rfl (congrArg iV (by rw [ht]; omega)) rfl rfl rfl, by omega, rfl, hE⟩
  have hd := of_decide_eq_false hd
  have hie : i = ps.length := by omega
  rw [hie, List.take_length]
  refine W_sr rfl (s_mv rfl (s_call rfl rfl (slices_Grow_LigRule_c (n := (ps.flatMap Sl.l).length) (by omega)) ?_))
  rintro v2 w2 ⟨ho2, hf2, hE2⟩
  refine (s_as rfl (s_nil ?_))
  refine W_seq ?_
  refine W_sr rfl (s_mv rfl (s_len E rfl rfl (s_mv rfl (s_nil ?_))))
  refine W_block ?_
  refine W_loop (fun q ρ w' => ∃ ρ' i v, ρ = upd (upd (upd (upd ρ' 6 v) 25 (.slice (some a) n cc)) 26 (iV n)) 27 (iV (i : Nat)) ∧ i ≤ n ∧ q = n - i ∧ Ext w w' ∧ Own w' 45 4 v ((ps.take i).flatMap Sl.l).length (((ps.take i).flatMap Sl.l).flatMap ruC) ∧ ∀ k, v.ownBlock = some k → w.heap.size ≤ k) n
    ⟨_, 0, v2, u4 rfl rfl rfl rfl, by omega, by omega, hE.trans hE2, ho2, fun k hk => by have := hf2 k hk; have := hE.size; omega⟩ ?_
  clear hE hie hd hi ho2 hf2 hE2
  rintro q _ w3 ⟨ρ, i, v, rfl, hi, rfl, hE, hown, hfr⟩
  refine W_sr rfl (s_lss rfl rfl (s_nil ?_))
  refine W_seq ?_
  refine W_if rfl (fun hd => W_skip ?_) (fun hd => W_exit ?_)
  · have hd := of_decide_eq_true hd
    have hil : i < ps.length := by omega
    have hle := take_flat_le ps i
    have hle1 := take_flat_le ps (i + 1)
    have ht := take_flat ps i hil
    have htl := congrArg List.length ht
    rw [List.length_append] at htl
    have hps := hp ps[i] (List.getElem_mem hil)
    have hz := hz ps[i] (List.getElem_mem hil)
    refine W_seq (W_block ?_)
    refine W_sr rfl (s_ia E rfl rfl rfl rfl (by omega) (s_ld E rfl rfl (Ext.cell hE (cell i hil)) (s_as rfl (s_nil ?_))))
    have hall : ∀ l : List Ru, (l.flatMap ruC).all (·.oneCell') = true := fun l => by
      rw [List.all_eq_true]; intro x hx; rw [List.mem_flatMap] at hx; obtain ⟨y, _, hy⟩ := hx
      simp only [ruC, List.mem_cons, List.not_mem_nil, or_false] at hy
      rcases hy with rfl | rfl | rfl | rfl <;> rfl
    obtain ⟨⟨p, c, l⟩, hsi⟩ : ∃ s, ps[i] = s := ⟨_, rfl⟩
    rw [hsi] at hps hz ht htl ⊢
    have hc : p = none → l = [] ∧ True := fun h0 => by
      subst h0
      have h1 : l.flatMap ruC = [] := hps
      have h2 := flat_length ruC 4 ruC_len l
      rw [h1] at h2
      exact ⟨List.eq_nil_of_length_eq_zero (by simp at h2; omega), trivial⟩
    cases p with
    | none =>
      obtain ⟨rfl, _⟩ := hc rfl
      have hz : c = 0 := hz rfl
      subst hz
      refine W_reg rfl (s_mv rfl (s_mv rfl (s_ap0 E rfl hown rfl rfl (s_as rfl (s_nil ?_)))))
      refine W_reg rfl (s_add rfl rfl (by omega) (s_mv rfl (s_nil ?_)))
      refine ⟨n - (i + 1), by omega, _, i + 1, v, u4 rfl rfl rfl rfl, by omega, rfl, hE, ?_, hfr⟩
      rw [ht]
      show Own w3 _ 4 v ((ps.take i).flatMap Sl.l ++ []).length _
      rw [List.append_nil]
      exact hown
    | some b =>
      have hb9 : (((ps.take i).flatMap Sl.l).length + (Sl.mk (some b) c l).l.length) * 32 ≤ 140737488355328 ∧ ((ps.take i).flatMap Sl.l).length + (Sl.mk (some b) c l).l.length ≤ 9223372036854775807 := by omega
      refine W_reg rfl (s_mv rfl (s_mv rfl (s_ap (news := l.flatMap ruC) E rfl rfl rfl rfl hown rfl rfl (Ext.row hE hps) (flat_length ruC 4 ruC_len l) (hall l) (hb9) fun v' w4 hown' hmod hon => (s_as rfl (s_nil ?_)))))
      refine W_reg rfl (s_add rfl rfl (by omega) (s_mv rfl (s_nil ?_)))
      refine ⟨n - (i + 1), by omega, _, i + 1, v', u4 rfl rfl rfl rfl, by omega, rfl, Ext.thenMod hE hmod (fun k hk he => by have := hfr k he; omega), ?_, ?_⟩
      · rw [ht, List.length_append, List.flatMap_append]; exact hown'
      · intro k hk
        rcases hon with h | ⟨j, hj, hle⟩
        · exact hfr k (by rw [← h]; exact hk)
        · rw [hj] at hk; cases hk
          have := hE.size
          omega
  · have hd := of_decide_eq_false hd
    have hie : i = ps.length := by omega
    subst hie
    rw [List.take_length] at hown
    refine W_sr rfl (s_mv rfl (s_as rfl (s_nil ?_)))
    exact W_ret ⟨_, rfl, hown, hfr, hE⟩
end
end Go.Proofs.YthfnijlgmjkedaaGreat
namespace Go.Proofs.YthfnijlgmjkedaaGreat
set_option maxRecDepth 100000
set_option maxHeartbeats 1000000
set_option linter.unusedVariables false
set_option linter.unusedSimpArgs false
open Go Go.Fx Go.Proofs.YthfnijlgmjkedaaGreat.Tab Go.RowKit
theorem row_long {w : World} {a : Addr} {xs : List Value} {g : Nat} {cs : Array Value} {ty : TypeId} {f : Nat × Nat} (hr : Row w a xs) (hh : w.heap[g]? = some (.cells cs ty f)) (hl : cs.size < xs.length) : a.block ≠ g := by
  intro h
  have h1 := hr cs.size (xs[cs.size]) (by simp [hl])
  unfold Addr.add at h1
  split at h1
  · rename_i h0
    have hx := h1
    simp only [World.cell?, h, hh] at hx
    have : (xs.length ≠ 0) := by omega
    simp [h0] at hx
  · simp only [World.cell?, h, hh] at h1
    have := (Array.getElem?_eq_some_iff.1 h1).1
    omega
/-- a store into a block of three cells does not touch a metric's slices -/
theorem meR_store {w : World} {m : Me} {p q : Option Addr} {g : Nat} {cs cs' : Array Value} {ty : TypeId} {f : Nat × Nat} (h : MeR w m p q) (hh : w.heap[g]? = some (.cells cs ty f)) (hs : cs.size = 3) : MeR (w.setRow g cs') m p q := by
  have key : ∀ (p : Option Addr) (xs : List Value), SlR w p xs → (xs = [] ∨ 4 ≤ xs.length) → SlR (w.setRow g cs') p xs := by
    intro p xs hp hx
    cases p with
    | none => exact hp
    | some a =>
      rcases hx with rfl | hx
      · exact Row.nil _ _
      · exact (setRow_mod (M := fun k => k = g) rfl).row hp (row_long hp hh (by omega))
  have len : ∀ {α : Type} (C : α → List Value) (hC : ∀ x, (C x).length = 4) (l : List α), l.flatMap C = [] ∨ 4 ≤ (l.flatMap C).length := by
    intro α C hC l
    rw [flat_length C 4 hC]
    cases l with
    | nil => exact .inl rfl
    | cons x l => right; simp; omega
  exact ⟨key p _ h.ch (len chC chC_len _), key q _ h.ru (len ruC ruC_len _), h.nch, h.nru⟩
def mergeE (me : Me) : Int := if twiceB codeCmp me.chars || twiceB pairCmp me.rules then 14 else if validM me then 0 else 3
section
variable {w : World}
theorem metric_Merge_c {a b : Me} {p q p' q' : Option Addr} {c d c' d' : Nat} (ha : MeR w a p q) (hb : MeR w b p' q') (hla : a.chars.length ≤ 400000 ∧ a.rules.length ≤ 400000) (hlb : b.chars.length ≤ 400000 ∧ b.rules.length ≤ 400000)
    (hz : (p = none → c = 0) ∧ (q = none → d = 0) ∧ (p' = none → c' = 0) ∧ (q' = none → d' = 0)) :
    Ret Go.Proofs.Tryz.prog 28 #[meV a p q c d, meV b p' q' c' d'] w fun v w' => (if validM a && validM b then (if a.size = b.size then ∃ me, Made a.size (a.chars ++ b.chars) (a.rules ++ b.rules) me ∧ Ans w' v me (mergeE me) else Ans w' v me0 5) else Ans w' v me0 2) ∧ Ext w w' := by
  refine enterC Go.Proofs.Tryz.func28 rfl rfl rfl ?_
  refine W_sr rfl (s_bxA rfl fun w1 hE1 hh1 hs1 => (s_bxA rfl fun w2 hE2 hh2 hs2 => (s_alA E rfl fun w3 hE3 hh3 hs3 => (s_as rfl (s_nil ?_)))))
  have hE03 := hE1.trans (hE2.trans hE3)
  have hrA : Row w3 ⟨w.heap.size, 0, none⟩ (meC a p q c d) := row_heap (Ext.heap (hE2.trans hE3) hh1)
  have hrB : Row w3 ⟨w1.heap.size, 0, none⟩ (meC b p' q' c' d') := row_heap (Ext.heap hE3 hh2)
  have err : ∀ (m : Me) (e : Int) (w' : World), e ≠ 0 → Ext w3 w' → Row (w'.setRow w2.heap.size (splice (Value.agg #[iV 0, .slice none 0 0, .slice none 0 0]).cells 0 (meC me0 none none 0 0))) ⟨w2.heap.size, 0, none⟩ (meC me0 none none 0 0) ∧
      Ans (w'.setRow w2.heap.size (splice (Value.agg #[iV 0, .slice none 0 0, .slice none 0 0]).cells 0 (meC me0 none none 0 0))) (.tuple #[.agg (meC me0 none none 0 0).toArray, iV e]) m e ∧ Ext w (w'.setRow w2.heap.size (splice (Value.agg #[iV 0, .slice none 0 0, .slice none 0 0]).cells 0 (meC me0 none none 0 0))) := by
    intro m e w' he hE'
    have fin := fin_cell (vs := meC me0 none none 0 0) (hE03.trans hE') (show w.heap.size ≤ w2.heap.size by have := hE1.size; have := hE2.size; omega) (Ext.heap hE' hh3) rfl
    exact ⟨fin.1, ans_err he, fin.2⟩
  refine W_sk fun K hK => ?_
  refine W_block ?_
  have call : ∀ {m p q c d} w', MeR w3 m p q → Ext w3 w' → Ret Go.Proofs.Tryz.prog 13 #[meV m p q c d] w' _ := fun w' hm h => metric_Valid_c (hm.ext h)
  cases h0 : validM a
  · refine W_sr rfl (s_lda (xs := meC a p q c d) E rfl rfl hrA rfl (s_callx rfl rfl (Ret.eqv (call w3 (ha.ext hE03) Mod.refl) (congrArg Value.bool h0)) fun w4 hE4 => (s_not rfl (s_mv rfl (s_g0 rfl (s_g0 rfl (s_g0 rfl (s_pk rfl (s_as rfl (s_nil ?_))))))))))
    refine W_if rfl (fun _ => ?_) (fun h => by cases h)
    refine W_sr rfl (s_bld rfl (cells := (meC me0 none none 0 0).toArray) (by kernel_rfl) (s_st E (vs := meC me0 none none 0 0) rfl rfl rfl rfl (Ext.heap hE4 hh3) rfl rfl rfl (Nat.le_refl _) (s_as rfl (s_nil ?_))))
    obtain ⟨g1, g2, g3⟩ := err me0 2 w4 (by decide) hE4
    exact W_ret ⟨_, resC2 E rfl rfl rfl g1 rfl rfl, g2, g3⟩
  cases h1 : validM b
  · refine W_sr rfl (s_lda (xs := meC a p q c d) E rfl rfl hrA rfl (s_callx rfl rfl (Ret.eqv (call w3 (ha.ext hE03) Mod.refl) (congrArg Value.bool h0)) fun w4 hE4 => (s_not rfl (s_mv rfl (s_g1 rfl (s_lda (xs := meC b p' q' c' d') E rfl rfl (Ext.row hE4 hrB) rfl (s_g1 rfl (s_callx rfl rfl (Ret.eqv (call w4 (hb.ext hE03) hE4) (congrArg Value.bool h1)) fun w5 hE5 => (s_g1 rfl (s_not rfl (s_pk rfl (s_as rfl (s_nil ?_)))))))))))))
    refine W_if rfl (fun _ => ?_) (fun h => by cases h)
    refine W_sr rfl (s_bld rfl (cells := (meC me0 none none 0 0).toArray) (by kernel_rfl) (s_st E (vs := meC me0 none none 0 0) rfl rfl rfl rfl (Ext.heap (hE4.trans hE5) hh3) rfl rfl rfl (Nat.le_refl _) (s_as rfl (s_nil ?_))))
    obtain ⟨g1, g2, g3⟩ := err me0 2 w5 (by decide) (hE4.trans hE5)
    exact W_ret ⟨_, resC2 E rfl rfl rfl g1 rfl rfl, g2, g3⟩
  refine W_sr rfl (s_lda (xs := meC a p q c d) E rfl rfl hrA rfl (s_callx rfl rfl (Ret.eqv (call w3 (ha.ext hE03) Mod.refl) (congrArg Value.bool h0)) fun w4 hE4 => (s_not rfl (s_mv rfl (s_g1 rfl (s_lda (xs := meC b p' q' c' d') E rfl rfl (Ext.row hE4 hrB) rfl (s_g1 rfl (s_callx rfl rfl (Ret.eqv (call w4 (hb.ext hE03) hE4) (congrArg Value.bool h1)) fun w5 hE5 => (s_g1 rfl (s_not rfl (s_pk rfl (s_as rfl (s_nil ?_)))))))))))))
  refine W_if rfl (fun h => by cases h) (fun _ => ?_)
  have hE35 := hE4.trans hE5
  have hrA5 := Ext.row hE35 hrA
  have hrB5 := Ext.row hE35 hrB
  by_cases h2 : a.size = b.size
  case neg =>
    refine W_sr rfl (s_fa E rfl rfl (s_ld E rfl rfl (hrA5 0 _ rfl) (s_fa E rfl rfl (s_ld E rfl rfl (hrB5 0 _ rfl) (s_cmp (c := true) rfl rfl (decide_eq_true h2) (s_as rfl (s_nil ?_)))))))
    refine W_if rfl (fun _ => ?_) (fun h => by cases h)
    refine W_sr rfl (s_bld rfl (cells := (meC me0 none none 0 0).toArray) (by kernel_rfl) (s_st E (vs := meC me0 none none 0 0) rfl rfl rfl rfl (Ext.heap hE35 hh3) rfl rfl rfl (Nat.le_refl _) (s_as rfl (s_nil ?_))))
    obtain ⟨g1, g2, g3⟩ := err me0 5 w5 (by decide) hE35
    exact W_ret ⟨_, resC2 E rfl rfl rfl g1 rfl rfl, by rw [if_pos (by rfl), if_neg h2]; exact g2, g3⟩
  refine W_sr rfl (s_fa E rfl rfl (s_ld E rfl rfl (hrA5 0 _ rfl) (s_fa E rfl rfl (s_ld E rfl rfl (hrB5 0 _ rfl) (s_cmp (c := false) rfl rfl (decide_eq_false (fun h => h h2)) (s_as rfl (s_nil ?_)))))))
  refine W_if rfl (fun h => by cases h) (fun _ => W_skip ?_)
  refine hK _ _ ?_
  clear hK
  refine W_n3 2 3 4 (.pointer (some ⟨w.heap.size, 0, none⟩)) (.pointer (some ⟨w1.heap.size, 0, none⟩)) (.pointer (some ⟨w2.heap.size, 0, none⟩)) rfl rfl rfl fun ρ => ?_
  refine W_dr (Ext w5) [] orders (D_pure 0 rfl rfl (by kernel_rfl) rfl (fun _ => r_fa E rfl rfl) (fun _ => Ext.drew0) (D_take 1 rfl rfl (by kernel_rfl) rfl (fun _ hs => r_ld E rfl rfl (Ext.row hs hrA5 0 _ rfl)) Ext.drew0 (D_pure 2 rfl rfl (by kernel_rfl) rfl (fun _ => r_fa E rfl rfl) (fun _ => Ext.drew0) (D_take 3 rfl rfl (by kernel_rfl) rfl (fun _ hs => r_ld E rfl rfl (Ext.row hs hrA5 1 _ rfl)) Ext.drew0 (D_pure 4 rfl rfl (by kernel_rfl) rfl (fun _ => r_fa E rfl rfl) (fun _ => Ext.drew0) (D_take 5 rfl rfl (by kernel_rfl) rfl (fun _ hs => r_ld E rfl rfl (Ext.row hs hrB5 1 _ rfl)) Ext.drew0 (D_pure 8 rfl rfl (by kernel_rfl) rfl (fun _ => r_fa E rfl rfl) (fun _ => Ext.drew0) (D_take 9 rfl rfl (by kernel_rfl) rfl (fun _ hs => r_ld E rfl rfl (Ext.row hs hrA5 2 _ rfl)) Ext.drew0 (D_pure 10 rfl rfl (by kernel_rfl) rfl (fun _ => r_fa E rfl rfl) (fun _ => Ext.drew0) (D_take 11 rfl rfl (by kernel_rfl) rfl (fun _ hs => r_ld E rfl rfl (Ext.row hs hrB5 2 _ rfl)) Ext.drew0 ?_))))))))))
  have eC : ([⟨p, c, a.chars⟩, ⟨p', c', b.chars⟩] : List (Sl Ch)).flatMap Sl.l = a.chars ++ b.chars := by simp
  have eR : ([⟨q, d, a.rules⟩, ⟨q', d', b.rules⟩] : List (Sl Ru)).flatMap Sl.l = a.rules ++ b.rules := by simp
  have hlC : (a.chars ++ b.chars).length ≤ 1000000 := by rw [List.length_append]; omega
  have hlR : (a.rules ++ b.rules).length ≤ 1000000 := by rw [List.length_append]; omega
  have hE05 := hE03.trans hE35
  refine D_set [6, 7, 12, 13, 14, 15] (fun j v w => match j with
    | 6 => ∃ g, v = .slice (some ⟨g, 0, none⟩) 2 2 ∧ Row w ⟨g, 0, none⟩ [.slice p a.chars.length c, .slice p' b.chars.length c']
    | 7 => Own w 50 4 v (a.chars ++ b.chars).length ((a.chars ++ b.chars).flatMap chC)
    | 12 => ∃ g, v = .slice (some ⟨g, 0, none⟩) 2 2 ∧ Row w ⟨g, 0, none⟩ [.slice q a.rules.length d, .slice q' b.rules.length d']
    | 13 => Own w 45 4 v (a.rules ++ b.rules).length ((a.rules ++ b.rules).flatMap ruC)
    | 14 => ∃ me p q c d, v = meV me p q c d ∧ MeR w me p q ∧ Made a.size (a.chars ++ b.chars) (a.rules ++ b.rules) me
    | 15 => ∃ g, v = .pointer (some ⟨g, 0, none⟩) ∧ w.heap[g]? = some (.cells (Value.agg #[iV 0, .slice none 0 0, .slice none 0 0]).cells 25 (0, 0)) ∧ w5.heap.size ≤ g
    | _ => True) (fuel' := 1) rfl (by kernel_rfl) (by kernel_rfl) (fun _ h => Ext.drew0.trans h) ?_ ?_ ?_
  · intro j v w1 w2 hE h
    split at h
    · obtain ⟨g, h1, h2⟩ := h; exact ⟨g, h1, Ext.row hE h2⟩
    · exact Ext.owns hE h
    · obtain ⟨g, h1, h2⟩ := h; exact ⟨g, h1, Ext.row hE h2⟩
    · exact Ext.owns hE h
    · obtain ⟨me, p, q, c, d, h1, h2, h3⟩ := h; exact ⟨me, p, q, c, d, h1, h2.ext hE, h3⟩
    · obtain ⟨g, h1, h2, h3⟩ := h; exact ⟨g, h1, Ext.heap hE h2, h3⟩
    · exact trivial
  · refine List.forall_mem_cons.2 ⟨?_, List.forall_mem_cons.2 ⟨?_, List.forall_mem_cons.2 ⟨?_, List.forall_mem_cons.2 ⟨?_, List.forall_mem_cons.2 ⟨?_, List.forall_mem_cons.2 ⟨?_, by simp⟩⟩⟩⟩⟩⟩
    · intro o ho ρ' w' hE hag hd
      obtain rfl := Option.some.inj ho
      have f27 : ρ' 27 = .slice p a.chars.length c := hag 27 (by kernel_rfl)
      have f29 : ρ' 29 = .slice p' b.chars.length c' := hag 29 (by kernel_rfl)
      rw [u2 f27 f29]
      exact s_bsA E rfl rfl rfl rfl rfl (cells := #[.slice p a.chars.length c, .slice p' b.chars.length c']) (by kernel_rfl) fun w2 hE2 hh2 hs2 => s_nil ⟨hE2, _, rfl, _, rfl, row_heap hh2⟩
    · intro o ho ρ' w' hE hag hd
      obtain rfl := Option.some.inj ho
      obtain ⟨g, hv, hrow⟩ := hd 6 (by decide) (by kernel_rfl)
      have hv : ρ' 30 = .slice (some ⟨g, 0, none⟩) 2 2 := hv
      have hE' := hE05.trans (Ext.drew0.trans hE)
      rw [u1 hv]
      refine s_call rfl rfl (slices_Concat_CharMetric_c (ps := [⟨p, c, a.chars⟩, ⟨p', c', b.chars⟩]) rfl (by decide) hrow ?_ ?_ (by rw [eC]; exact hlC)) fun v w2 h => s_nil ⟨h.2.2, _, rfl, ?_⟩
      · intro s hs
        simp only [List.mem_cons, List.not_mem_nil, or_false] at hs
        rcases hs with rfl | rfl
        · exact (ha.ext hE').ch
        · exact (hb.ext hE').ch
      · intro s hs
        simp only [List.mem_cons, List.not_mem_nil, or_false] at hs
        rcases hs with rfl | rfl
        · exact hz.1
        · exact hz.2.2.1
      · have := h.1; rw [eC] at this; exact this
    · intro o ho ρ' w' hE hag hd
      obtain rfl := Option.some.inj ho
      have f27 : ρ' 33 = .slice q a.rules.length d := hag 33 (by kernel_rfl)
      have f29 : ρ' 35 = .slice q' b.rules.length d' := hag 35 (by kernel_rfl)
      rw [u2 f27 f29]
      exact s_bsA E rfl rfl rfl rfl rfl (cells := #[.slice q a.rules.length d, .slice q' b.rules.length d']) (by kernel_rfl) fun w2 hE2 hh2 hs2 => s_nil ⟨hE2, _, rfl, _, rfl, row_heap hh2⟩
    · intro o ho ρ' w' hE hag hd
      obtain rfl := Option.some.inj ho
      obtain ⟨g, hv, hrow⟩ := hd 12 (by decide) (by kernel_rfl)
      have hv : ρ' 36 = .slice (some ⟨g, 0, none⟩) 2 2 := hv
      have hE' := hE05.trans (Ext.drew0.trans hE)
      rw [u1 hv]
      refine s_call rfl rfl (slices_Concat_LigRule_c (ps := [⟨q, d, a.rules⟩, ⟨q', d', b.rules⟩]) rfl (by decide) hrow ?_ ?_ (by rw [eR]; exact hlR)) fun v w2 h => s_nil ⟨h.2.2, _, rfl, ?_⟩
      · intro s hs
        simp only [List.mem_cons, List.not_mem_nil, or_false] at hs
        rcases hs with rfl | rfl
        · exact (ha.ext hE').ru
        · exact (hb.ext hE').ru
      · intro s hs
        simp only [List.mem_cons, List.not_mem_nil, or_false] at hs
        rcases hs with rfl | rfl
        · exact hz.2.1
        · exact hz.2.2.2
      · have := h.1; rw [eR] at this; exact this
    · intro o ho ρ' w' hE hag hd
      obtain rfl := Option.some.inj ho
      have f25 : ρ' 25 = iV a.size := hag 25 (by kernel_rfl)
      have o7 : Own w' 50 4 (ρ' 31) (a.chars ++ b.chars).length ((a.chars ++ b.chars).flatMap chC) := hd 7 (by decide) (by kernel_rfl)
      have o13 : Own w' 45 4 (ρ' 37) (a.rules ++ b.rules).length ((a.rules ++ b.rules).flatMap ruC) := hd 13 (by decide) (by kernel_rfl)
      obtain ⟨p7, c7, h7, hsl7, _, _⟩ := o7.form
      obtain ⟨p13, c13, h13, hsl13, _, _⟩ := o13.form
      rw [u3 f25 h7 h13]
      refine s_call rfl rfl (metric_made_c rfl rfl hlC hlR hsl7 hsl13) fun v w2 h => s_nil ⟨h.2, _, rfl, ?_⟩
      obtain ⟨⟨me, p3, q3, c3, d3, rfl, hR3, hsz, hpc, hpr, hsc, hsr, _, _⟩, _⟩ := h
      exact ⟨me, p3, q3, c3, d3, rfl, hR3, ⟨hsz, hpc, hpr, hsc, hsr⟩⟩
    · intro o ho ρ' w' hE hag hd
      obtain rfl := Option.some.inj ho
      exact s_alA E rfl fun w2 hE2 hh2 hs2 => s_nil ⟨hE2, _, rfl, _, rfl, hh2, (Ext.drew0.trans hE).size⟩
  · intro ρ' w6 hE6 hag hG
    obtain ⟨me, p3, q3, c3, d3, hv14, hR3, hmade⟩ := hG 14 (by decide)
    obtain ⟨g, hv15, hhg, hgl⟩ := hG 15 (by decide)
    have hv14 : ρ' 38 = meV me p3 q3 c3 d3 := hv14
    have hv15 : ρ' 6 = .pointer (some ⟨g, 0, none⟩) := hv15
    have f4 : ρ' 4 = .pointer (some ⟨w2.heap.size, 0, none⟩) := hag 4 (by kernel_rfl)
    have hE56 := Ext.drew0.trans hE6
    rw [u3 f4 hv15 hv14]
    have fin6 := fin_cell (vs := meC me p3 q3 c3 d3) hE56 hgl hhg rfl
    have hR6 := meR_store (cs' := splice (Value.agg #[iV 0, .slice none 0 0, .slice none 0 0]).cells 0 (meC me p3 q3 c3 d3)) hR3 hhg rfl
    have hE57 := fin6.2
    have hr7 := fin6.1
    refine (D_one 16 rfl (by kernel_rfl) rfl (s_st E (vs := meC me p3 q3 c3 d3) rfl rfl rfl rfl hhg rfl rfl rfl (Nat.le_refl _) (s_nil ⟨hE57, (D_done (by kernel_rfl) ?_)⟩)))
    generalize w6.setRow g (splice (Value.agg #[iV 0, .slice none 0 0, .slice none 0 0]).cells 0 (meC me p3 q3 c3 d3)) = w7 at hE57 hr7 hR6 ⊢
    clear fin6 hhg hE6 hag hG hE56 hR3
    have hE37 := hE35.trans hE57
    refine W_n2 4 6 (.pointer (some ⟨w2.heap.size, 0, none⟩)) (.pointer (some ⟨g, 0, none⟩)) rfl rfl fun ρ => ?_
    refine W_sk fun K hK => ?_
    refine W_block ?_
    have goal : ∀ {e : Int} {v : Value} {w' : World}, mergeE me = e → Ans w' v me e → (if validM a && validM b then (if a.size = b.size then ∃ me, Made a.size (a.chars ++ b.chars) (a.rules ++ b.rules) me ∧ Ans w' v me (mergeE me) else Ans w' v me0 5) else Ans w' v me0 2) := by
      intro e v w' he h
      rw [if_pos (by rw [h0, h1]; rfl), if_pos h2]
      exact ⟨me, hmade, by rw [he]; exact h⟩
    cases h5 : twiceB codeCmp me.chars
    case true =>
      refine W_sr rfl (s_fa E rfl rfl (s_ld E rfl rfl (hr7 1 _ rfl) (s_callx rfl rfl (Ret.eqv (metric_twice_CharMetric_c rfl hR6.nch hR6.ch (fun _ _ _ => metric_compareCodes_c)) (congrArg Value.bool h5)) fun w8 hE8 => (s_mv rfl (s_g0 rfl (s_g0 rfl (s_g0 rfl (s_pk rfl (s_as rfl (s_nil ?_))))))))))
      refine W_if rfl (fun _ => ?_) (fun h => by cases h)
      refine W_sr rfl (s_bld rfl (cells := (meC me0 none none 0 0).toArray) (by kernel_rfl) (s_st E (vs := meC me0 none none 0 0) rfl rfl rfl rfl (Ext.heap (hE37.trans hE8) hh3) rfl rfl rfl (Nat.le_refl _) (s_as rfl (s_nil ?_))))
      obtain ⟨g1, g2, g3⟩ := err me 14 w8 (by decide) (hE37.trans hE8)
      exact W_ret ⟨_, resC2 E rfl rfl rfl g1 rfl rfl, goal (by unfold mergeE; rw [h5]; rfl) g2, g3⟩
    cases h6 : twiceB pairCmp me.rules
    case true =>
      refine W_sr rfl (s_fa E rfl rfl (s_ld E rfl rfl (hr7 1 _ rfl) (s_callx rfl rfl (Ret.eqv (metric_twice_CharMetric_c rfl hR6.nch hR6.ch (fun _ _ _ => metric_compareCodes_c)) (congrArg Value.bool h5)) fun w8 hE8 => (s_mv rfl (s_g1 rfl (s_fa E rfl rfl (s_g1 rfl (s_ld E rfl rfl (Ext.row hE8 hr7 2 _ rfl) (s_g1 rfl (s_callx rfl rfl (Ret.eqv (metric_twice_LigRule_c rfl hR6.nru (hR6.ext hE8).ru (fun _ _ _ => metric_ComparePairs_c)) (congrArg Value.bool h6)) fun w9 hE9 => (s_pk rfl (s_as rfl (s_nil ?_)))))))))))))
      refine W_if rfl (fun _ => ?_) (fun h => by cases h)
      refine W_sr rfl (s_bld rfl (cells := (meC me0 none none 0 0).toArray) (by kernel_rfl) (s_st E (vs := meC me0 none none 0 0) rfl rfl rfl rfl (Ext.heap (hE37.trans (hE8.trans hE9)) hh3) rfl rfl rfl (Nat.le_refl _) (s_as rfl (s_nil ?_))))
      obtain ⟨g1, g2, g3⟩ := err me 14 w9 (by decide) (hE37.trans (hE8.trans hE9))
      exact W_ret ⟨_, resC2 E rfl rfl rfl g1 rfl rfl, goal (by unfold mergeE; rw [h5, h6]; rfl) g2, g3⟩
    refine W_sr rfl (s_fa E rfl rfl (s_ld E rfl rfl (hr7 1 _ rfl) (s_callx rfl rfl (Ret.eqv (metric_twice_CharMetric_c rfl hR6.nch hR6.ch (fun _ _ _ => metric_compareCodes_c)) (congrArg Value.bool h5)) fun w8 hE8 => (s_mv rfl (s_g1 rfl (s_fa E rfl rfl (s_g1 rfl (s_ld E rfl rfl (Ext.row hE8 hr7 2 _ rfl) (s_g1 rfl (s_callx rfl rfl (Ret.eqv (metric_twice_LigRule_c rfl hR6.nru (hR6.ext hE8).ru (fun _ _ _ => metric_ComparePairs_c)) (congrArg Value.bool h6)) fun w9 hE9 => (s_pk rfl (s_as rfl (s_nil ?_)))))))))))))
    refine W_if rfl (fun h => by cases h) (fun _ => ?_)
    have hE79 := hE8.trans hE9
    cases h7 : validM me
    · refine W_sr rfl (s_lda (xs := meC me p3 q3 c3 d3) E rfl rfl (Ext.row hE79 hr7) rfl (s_callx rfl rfl (Ret.eqv (metric_Valid_c (hR6.ext hE79)) (congrArg Value.bool h7)) fun w10 hE10 => (s_not rfl (s_as rfl (s_nil ?_)))))
      refine W_if rfl (fun _ => ?_) (fun h => by cases h)
      refine W_sr rfl (s_bld rfl (cells := (meC me0 none none 0 0).toArray) (by kernel_rfl) (s_st E (vs := meC me0 none none 0 0) rfl rfl rfl rfl (Ext.heap (hE37.trans (hE79.trans hE10)) hh3) rfl rfl rfl (Nat.le_refl _) (s_as rfl (s_nil ?_))))
      obtain ⟨g1, g2, g3⟩ := err me 3 w10 (by decide) (hE37.trans (hE79.trans hE10))
      exact W_ret ⟨_, resC2 E rfl rfl rfl g1 rfl rfl, goal (by unfold mergeE; rw [h5, h6, h7]; rfl) g2, g3⟩
    · refine W_sr rfl (s_lda (xs := meC me p3 q3 c3 d3) E rfl rfl (Ext.row hE79 hr7) rfl (s_callx rfl rfl (Ret.eqv (metric_Valid_c (hR6.ext hE79)) (congrArg Value.bool h7)) fun w10 hE10 => (s_not rfl (s_as rfl (s_nil ?_)))))
      refine W_if rfl (fun h => by cases h) (fun _ => W_skip ?_)
      refine hK _ _ ?_
      have hE3x := hE37.trans (hE79.trans hE10)
      have fin := fin_cell (vs := meC me p3 q3 c3 d3) (hE03.trans hE3x) (show w.heap.size ≤ w2.heap.size by have := hE1.size; have := hE2.size; omega) (Ext.heap hE3x hh3) rfl
      refine W_sr rfl (s_lda (xs := meC me p3 q3 c3 d3) E rfl rfl (Ext.row (hE79.trans hE10) hr7) rfl (s_st E (vs := meC me p3 q3 c3 d3) rfl rfl rfl rfl (Ext.heap hE3x hh3) rfl rfl rfl (Nat.le_refl _) (s_as rfl (s_nil ?_))))
      refine W_ret ⟨_, resC2 E rfl rfl rfl fin.1 rfl rfl, goal (show mergeE me = 0 by unfold mergeE; rw [h5, h6, h7]; rfl) ⟨p3, q3, c3, d3, rfl, ?_⟩, fin.2⟩
      exact meR_store (hR6.ext (hE79.trans hE10)) (Ext.heap hE3x hh3) rfl
end
end Go.Proofs.YthfnijlgmjkedaaGreat
namespace Go.Proofs.YthfnijlgmjkedaaGreat
set_option maxRecDepth 100000
set_option maxHeartbeats 1000000
set_option linter.unusedVariables false
set_option linter.unusedSimpArgs false
open Go Go.Fx Go.Proofs.YthfnijlgmjkedaaGreat.Tab Go.RowKit
/-! ## Box -/
def boxGo (m : Me) : Bool → Int × Int × Int → List Int → (Int × Int × Int) × Int
  | _, acc, [] => (acc, 0)
  | first, acc, code :: l =>
    let r := findM m code
    if r.2 = 0 then
      let y := if first then r.1.height else acc.2.1
      let z := if first then r.1.depth else acc.2.2
      boxGo m false (acc.1 + r.1.width, (if r.1.height > y then r.1.height else y), (if r.1.depth > z then r.1.depth else z)) l
    else ((0, 0, 0), r.2)
def boxM (m : Me) (codes : List Int) : (Int × Int × Int) × Int := if validM m && decide (codes.length ≤ 2000) then boxGo m true (0, 0, 0) codes else ((0, 0, 0), 2)
def bxC (t : Int × Int × Int) : List Value := [iV t.1, iV t.2.1, iV t.2.2]
theorem find_char {m : Me} {code : Int} (hv : validM m = true) (h : (findM m code).2 = 0) : charB (findM m code).1 = true := by
  unfold findM at *
  rw [if_pos hv] at *
  cases hb : hitL codeCmp m.chars ⟨code, 0, 0, 0⟩ with
  | false => rw [hb] at h; cases h
  | true =>
    have hl := hit_lt hb
    have := (valid_parts hv).2.2.1
    rw [List.all_eq_true] at this
    simp only [if_true]
    simpa [hl] using this _ (List.getElem_mem hl)
theorem char_width {c : Ch} (h : charB c = true) : -268435455 ≤ c.width ∧ c.width ≤ 268435455 := by
  simp only [charB, coordB, Bool.and_eq_true, decide_eq_true_eq] at h; omega
section
variable {w : World}
theorem metric_Box_c {m : Me} {p q pc : Option Addr} {c d n k : Nat} {codes : List Int} (hm : MeR w m p q) (hn : n = codes.length) (hl : n ≤ 1000000) (hp : SlR w pc (codes.map iV)) :
    Ret Go.Proofs.Tryz.prog 26 #[meV m p q c d, .slice pc n k] w fun v w' => v = .tuple #[.agg (bxC (boxM m codes).1).toArray, iV (boxM m codes).2] ∧ Ext w w' := by
  refine enterC Go.Proofs.Tryz.func26 rfl rfl rfl ?_
  refine W_sr rfl (s_bxA rfl fun w1 hE1 hh1 hs1 => (s_alA E rfl fun w2 hE2 hh2 hs2 => (s_as rfl (s_nil ?_))))
  have hE02 := hE1.trans hE2
  have hr2 : Row w2 ⟨w.heap.size, 0, none⟩ (meC m p q c d) := row_heap (Ext.heap hE2 hh1)
  have fin : ∀ (t : Int × Int × Int) {w' : World}, Ext w2 w' → Row (w'.setRow w1.heap.size (splice (Value.agg #[iV 0, iV 0, iV 0]).cells 0 (bxC t))) ⟨w1.heap.size, 0, none⟩ (bxC t) ∧ Ext w (w'.setRow w1.heap.size (splice (Value.agg #[iV 0, iV 0, iV 0]).cells 0 (bxC t))) := fun t w' hE =>
    fin_cell (vs := bxC t) (hE02.trans hE) hE1.size (Ext.heap hE hh2) rfl
  refine W_seq ?_
  cases h0 : validM m
  · refine W_sr rfl (s_lda (xs := meC m p q c d) E rfl rfl hr2 rfl (s_callx rfl rfl (Ret.eqv (metric_Valid_c (hm.ext hE02)) (congrArg Value.bool h0)) fun w3 hE3 => (s_not rfl (s_mv rfl (s_g0 rfl (s_g0 rfl (s_g0 rfl (s_pk rfl (s_nil ?_)))))))))
    refine W_if rfl (fun _ => ?_) (fun h => by cases h)
    refine W_sr rfl (s_bld rfl (cells := (bxC (0, 0, 0)).toArray) (by kernel_rfl) (s_st E (vs := bxC (0, 0, 0)) rfl rfl rfl rfl (Ext.heap hE3 hh2) rfl rfl rfl (Nat.le_refl _) (s_as rfl (s_nil ?_))))
    have f := fin (0, 0, 0) hE3
    have e : boxM m codes = ((0, 0, 0), 2) := by unfold boxM; rw [h0]; rfl
    exact W_ret ⟨_, resC2 E rfl rfl rfl f.1 rfl rfl, by rw [e]; rfl, f.2⟩
  by_cases h1 : (2000 : Int) < n
  · refine W_sr rfl (s_lda (xs := meC m p q c d) E rfl rfl hr2 rfl (s_callx rfl rfl (Ret.eqv (metric_Valid_c (hm.ext hE02)) (congrArg Value.bool h0)) fun w3 hE3 => (s_not rfl (s_mv rfl (s_g1 rfl (s_mv rfl (s_g1 rfl (s_len E rfl rfl (s_g1 rfl (s_cmp (c := true) rfl rfl (decide_eq_true h1) (s_pk rfl (s_nil ?_))))))))))))
    refine W_if rfl (fun _ => ?_) (fun h => by cases h)
    refine W_sr rfl (s_bld rfl (cells := (bxC (0, 0, 0)).toArray) (by kernel_rfl) (s_st E (vs := bxC (0, 0, 0)) rfl rfl rfl rfl (Ext.heap hE3 hh2) rfl rfl rfl (Nat.le_refl _) (s_as rfl (s_nil ?_))))
    have f := fin (0, 0, 0) hE3
    have e : boxM m codes = ((0, 0, 0), 2) := by unfold boxM; rw [h0, decide_eq_false (show ¬ codes.length ≤ 2000 by omega)]; rfl
    exact W_ret ⟨_, resC2 E rfl rfl rfl f.1 rfl rfl, by rw [e]; rfl, f.2⟩
  have hv2 : n ≤ 2000 := by omega
  have e : boxM m codes = boxGo m true (0, 0, 0) codes := by unfold boxM; rw [h0, decide_eq_true (show codes.length ≤ 2000 by omega)]; rfl
  rw [e]
  refine W_sr rfl (s_lda (xs := meC m p q c d) E rfl rfl hr2 rfl (s_callx rfl rfl (Ret.eqv (metric_Valid_c (hm.ext hE02)) (congrArg Value.bool h0)) fun w3 hE3 => (s_not rfl (s_mv rfl (s_g1 rfl (s_mv rfl (s_g1 rfl (s_len E rfl rfl (s_g1 rfl (s_cmp (c := false) rfl rfl (decide_eq_false h1) (s_pk rfl (s_nil ?_))))))))))))
  refine W_if rfl (fun h => by cases h) (fun _ => W_skip ?_)
  refine W_sr rfl (s_alA E rfl fun w4 hE4 hh4 hs4 => (s_nil ?_))
  refine W_seq ?_
  refine W_sr rfl (s_mv rfl (s_len E rfl rfl (s_mv rfl (s_nil ?_))))
  have hE24 := hE3.trans hE4
  have hsz : w2.heap.size ≤ w3.heap.size := hE3.size
  have hs1' := hE1.size
  refine W_block ?_
  refine W_loop (fun r ρ w' => ∃ ρ' i t, ρ = upd (upd (upd (upd (upd (upd ρ' 2 (.pointer (some ⟨w.heap.size, 0, none⟩))) 4 (.pointer (some ⟨w1.heap.size, 0, none⟩))) 6 (.pointer (some ⟨w3.heap.size, 0, none⟩))) 20 (.slice pc n k)) 21 (iV n)) 22 (iV (i : Nat)) ∧ i ≤ n ∧ r = n - i ∧
      Mod (fun b => b = w3.heap.size) w4 w' ∧ w'.heap[w3.heap.size]? = some (.cells (bxC t).toArray 47 (0, 0)) ∧ -(i * 268435455 : Int) ≤ t.1 ∧ t.1 ≤ i * 268435455 ∧ boxGo m true (0, 0, 0) codes = boxGo m (decide (i = 0)) t (codes.drop i)) n
    ⟨_, 0, (0, 0, 0), u6 rfl rfl rfl rfl rfl rfl, by omega, by omega, Mod.refl, hh4, by decide, by decide, rfl⟩ ?_
  rintro r _ w5 ⟨ρ, i, t, rfl, hi, rfl, hM5, hh5, ht1, ht2, hgo⟩
  have hE25 : Ext w2 w5 := Ext.thenMod hE24 hM5 (fun b hb he => by omega)
  refine W_sr rfl (s_lss rfl rfl (s_nil ?_))
  refine W_seq ?_
  refine W_if rfl (fun hc => W_skip ?_) (fun hc => W_exit ?_)
  · have hc := of_decide_eq_true hc
    have hil : i < codes.length := by omega
    obtain ⟨a, rfl, hcell⟩ := sl_map hp hil
    refine W_seq (W_block ?_)
    refine W_sr rfl (s_mv rfl (s_ia E rfl rfl rfl rfl (by omega) (s_ld E rfl rfl (Ext.cell (hE02.trans hE25) hcell) (s_as rfl (s_as rfl (s_nil ?_))))))
    refine W_sr rfl (s_lda (xs := meC m p q c d) E rfl rfl (Ext.row hE25 hr2) rfl (s_mv rfl (s_callx rfl rfl (metric_Find_c (code := codes[i]) (hm.ext (hE02.trans hE25))) fun w6 hE6 => (s_mv rfl (s_ex rfl rfl (s_ex rfl rfl (s_alst E rfl rfl rfl rfl rfl fun w7 hE7 hs7 hh7 => (s_as rfl (s_nil ?_)))))))))
    have hdrop : codes.drop i = codes[i] :: codes.drop (i + 1) := List.drop_eq_getElem_cons hil
    have hfc := find_char (m := m) (code := codes[i]) h0
    rw [hdrop, boxGo] at hgo
    have hrc : Row w7 ⟨w6.heap.size, 0, none⟩ (chC (findM m codes[i]).1) := row_heap hh7
    obtain ⟨⟨ch, er⟩, hr⟩ : ∃ r, findM m codes[i] = r := ⟨_, rfl⟩
    rw [hr] at hfc hgo hrc ⊢
    simp only at hrc
    simp only at hfc hgo
    have hE57 := hE6.trans hE7
    have hh7' := Ext.heap hE57 hh5
    have hM7 := hM5.trans (Mod.of_ext hE57)
    have keepc : ∀ {w' cs}, Row w' ⟨w6.heap.size, 0, none⟩ (chC ch) → Row (w'.setRow w3.heap.size cs) ⟨w6.heap.size, 0, none⟩ (chC ch) := fun h => (setRow_mod (M := fun b => b = w3.heap.size) rfl).row h (fun (h : w6.heap.size = w3.heap.size) => by have := hE6.size; have := hM5.size; omega)
    have hE27 := hE25.trans hE57
    have hs5 := hM5.size
    refine W_n9 2 4 6 7 9 10 20 21 22 (.pointer (some ⟨w.heap.size, 0, none⟩)) (.pointer (some ⟨w1.heap.size, 0, none⟩)) (.pointer (some ⟨w3.heap.size, 0, none⟩)) (iV i) (.pointer (some ⟨w6.heap.size, 0, none⟩)) (iV er) (.slice (some a) n k) (iV n) (iV i) rfl rfl rfl rfl rfl rfl rfl rfl rfl fun ρ' => ?_
    refine W_seq ?_
    by_cases he : er = 0
    case neg =>
      refine W_sr rfl (s_mv rfl (s_cmp (c := true) rfl rfl (decide_eq_true he) (s_nil ?_)))
      refine W_if rfl (fun _ => ?_) (fun h => by cases h)
      refine W_sr rfl (s_bld rfl (cells := (bxC (0, 0, 0)).toArray) (by kernel_rfl) (s_mv rfl (s_st E (vs := bxC (0, 0, 0)) rfl rfl rfl rfl (Ext.heap hE27 hh2) rfl rfl rfl (Nat.le_refl _) (s_as rfl (s_nil ?_)))))
      have f := fin (0, 0, 0) hE27
      rw [if_neg he] at hgo
      exact W_ret ⟨_, resC2 E rfl rfl rfl f.1 rfl rfl, by rw [hgo]; rfl, f.2⟩
    subst he
    have hw := char_width (hfc rfl)
    rw [if_pos rfl] at hgo
    refine W_sr rfl (s_mv rfl (s_cmp (c := false) rfl rfl (by decide) (s_nil ?_)))
    refine W_if rfl (fun h => by cases h) (fun _ => W_skip ?_)
    refine W_sk fun K hK => ?_
    obtain ⟨y, hy⟩ : ∃ y, y = if i = 0 then ch.height else t.2.1 := ⟨_, rfl⟩
    obtain ⟨z, hz⟩ : ∃ z, z = if i = 0 then ch.depth else t.2.2 := ⟨_, rfl⟩
    have H : ∀ (ρ : Fr) w', Mod (fun b => b = w3.heap.size) w4 w' → w'.heap.size = w7.heap.size → Row w' ⟨w6.heap.size, 0, none⟩ (chC ch) → w'.heap[w3.heap.size]? = some (.cells (bxC (t.1, y, z)).toArray 47 (0, 0)) → ρ 2 = .pointer (some ⟨w.heap.size, 0, none⟩) → ρ 4 = .pointer (some ⟨w1.heap.size, 0, none⟩) → ρ 6 = .pointer (some ⟨w3.heap.size, 0, none⟩) → ρ 9 = .pointer (some ⟨w6.heap.size, 0, none⟩) → ρ 20 = .slice (some a) n k → ρ 21 = iV n → ρ 22 = iV i → K ρ w' := by
      intro ρ w8 hM8 hs8 hrc8 hh8 q2 q4 q6 q9 q20 q21 q22
      rw [u7 q2 q4 q6 q9 q20 q21 q22]
      refine hK _ _ ?_
      have hr8 := row_heap hh8
      refine W_reg rfl (s_iaA (i := 0) E rfl rfl rfl rfl (by decide) (s_ld E rfl rfl (hr8 0 _ rfl) (s_fa E rfl rfl (s_ld E rfl rfl (hrc8 1 _ rfl) (s_add (a := t.1) (b := ch.width) rfl rfl (by omega) (s_iaA (i := 1) E rfl rfl rfl rfl (by decide) (s_ld E rfl rfl (hr8 1 _ rfl) (s_fa E rfl rfl (s_ld E rfl rfl (hrc8 2 _ rfl) (s_max rfl rfl (s_iaA (i := 2) E rfl rfl rfl rfl (by decide) (s_ld E rfl rfl (hr8 2 _ rfl) (s_fa E rfl rfl (s_ld E rfl rfl (hrc8 3 _ rfl) (s_max rfl rfl (s_bld rfl (cells := (bxC (t.1 + ch.width, (if ch.height > y then ch.height else y), (if ch.depth > z then ch.depth else z))).toArray) (by kernel_rfl) (s_st E (vs := bxC (t.1 + ch.width, (if ch.height > y then ch.height else y), (if ch.depth > z then ch.depth else z))) rfl rfl rfl rfl hh8 rfl rfl rfl (Nat.le_refl _) (s_nil ?_))))))))))))))))))
      refine W_reg rfl (s_add rfl rfl (by omega) (s_mv rfl (s_nil ?_)))
      refine ⟨n - (i + 1), by omega, _, i + 1, _, u6 rfl rfl rfl rfl rfl rfl, by omega, rfl, hM8.trans (setRow_mod rfl), setRow_heap _ _ _ _ _ _ hh8, ?_, ?_, ?_⟩
      · show -(((i + 1 : Nat) : Int) * 268435455) ≤ t.1 + ch.width; omega
      · show t.1 + ch.width ≤ ((i + 1 : Nat) : Int) * 268435455; omega
      · rw [hgo, hy, hz]
        simp
    by_cases hi0 : i = 0
    · refine W_sr rfl (s_mv rfl (s_cmp (c := true) rfl rfl (decide_eq_true (show ((i : Nat) : Int) = 0 by omega)) (s_nil ?_)))
      refine W_if rfl (fun _ => ?_) (fun h => by cases h)
      rw [if_pos hi0] at hy hz
      subst hy; subst hz
      refine W_d (fun w' => Row w' ⟨w6.heap.size, 0, none⟩ (chC ch)) [] orders (D_pure 0 rfl rfl (by kernel_rfl) rfl (fun _ => r_fa E rfl rfl) (fun _ => hrc) (D_take 1 rfl rfl (by kernel_rfl) rfl (fun _ hs => r_ld E rfl rfl (hs 2 _ rfl)) hrc (D_pure 2 rfl rfl (by kernel_rfl) rfl (fun _ => r_fa E rfl rfl) (fun _ => hrc) (D_take 3 rfl rfl (by kernel_rfl) rfl (fun _ hs => r_ld E rfl rfl (hs 3 _ rfl)) hrc (D_pure 4 rfl rfl (by kernel_rfl) rfl (fun _ => r_iaA (i := 1) E rfl rfl rfl rfl (by decide)) (fun _ => hrc) (D_one 5 rfl (by kernel_rfl) rfl (s_st1 E rfl rfl (ad0 _ 1) rfl rfl hh7' (show 1 < 3 by decide) (s_nil ⟨(keepc hrc), (D_pure 6 rfl rfl (by kernel_rfl) rfl (fun _ => r_iaA (i := 2) E rfl rfl rfl rfl (by decide)) (fun _ => (keepc hrc)) (D_one 7 rfl (by kernel_rfl) rfl (s_st1 E rfl rfl (ad0 _ 2) rfl rfl (setRow_heap _ _ _ _ _ (0, 0) hh7') (show 2 < 3 by decide) (s_nil ⟨(keepc (keepc hrc)), (D_done (by kernel_rfl) ?_)⟩))))⟩))))))))
      refine H _ _ (hM7.trans ((Mod.of_ext Ext.drew0).trans ((setRow_mod (M := fun b => b = w3.heap.size) rfl).trans (setRow_mod (M := fun b => b = w3.heap.size) rfl)))) (by simp) ?_ (setRow_heap _ _ _ _ _ _ (setRow_heap _ _ _ _ _ (0, 0) hh7')) rfl rfl rfl rfl rfl rfl rfl
      exact keepc (keepc hrc)
    · refine W_sr rfl (s_mv rfl (s_cmp (c := false) rfl rfl (decide_eq_false (show ¬ ((i : Nat) : Int) = 0 by omega)) (s_nil ?_)))
      refine W_if rfl (fun h => by cases h) (fun _ => W_skip ?_)
      rw [if_neg hi0] at hy hz
      subst hy; subst hz
      exact H _ _ hM7 rfl hrc hh7' rfl rfl rfl rfl rfl rfl rfl
  · have hc := of_decide_eq_false hc
    have hie : i = codes.length := by omega
    rw [hie, List.drop_of_length_le (Nat.le_refl _)] at hgo
    have f := fin t hE25
    refine W_sr rfl (s_lda (xs := bxC t) E rfl rfl (row_heap hh5) rfl (s_st E (vs := bxC t) rfl rfl rfl rfl (Ext.heap hE25 hh2) rfl rfl rfl (Nat.le_refl _) (s_as rfl (s_nil ?_))))
    exact W_ret ⟨_, resC2 E rfl rfl rfl f.1 rfl rfl, by rw [hgo]; rfl, f.2⟩
end
end Go.Proofs.YthfnijlgmjkedaaGreat

/- Contracts of functions that the laws of this seat call: what each answers, for every input that its hypotheses name. -/
import Derived.Test.YthfnijlgmjkedaaGreatG6
import Derived.Test.YthfnijlgmjkedaaGreatG2
namespace Go.Proofs.YthfnijlgmjkedaaGreat
set_option maxRecDepth 100000
set_option maxHeartbeats 1000000
set_option linter.unusedVariables false
set_option linter.unusedSimpArgs false
open Go Go.Fx Go.Proofs.YthfnijlgmjkedaaGreat.Tab Go.RowKit
theorem floor_trunc (a b : Int) (hb : 0 < b) : (if a.tmod b < 0 then a.tdiv b - 1 else a.tdiv b) = a / b := by
  by_cases ha : 0 ≤ a
  · have h1 : a.tmod b = a % b := Int.tmod_eq_emod_of_nonneg ha
    have h2 : a.tdiv b = a / b := Int.tdiv_eq_ediv_of_nonneg ha
    rw [h1, h2, if_neg (by have := Int.emod_nonneg a (show b ≠ 0 by omega); omega)]
  · obtain ⟨n, rfl⟩ : ∃ n, a = -n := ⟨-a, by omega⟩
    have h1 : (-n).tmod b = -(n % b) := by rw [Int.neg_tmod, Int.tmod_eq_emod_of_nonneg (by omega)]
    have h2 : (-n).tdiv b = -(n / b) := by rw [Int.neg_tdiv, Int.tdiv_eq_ediv_of_nonneg (by omega)]
    rw [h1, h2]
    have h3 := Int.emod_nonneg n (show b ≠ 0 by omega)
    have h4 := Int.emod_lt_of_pos n hb
    have h5 := Int.mul_ediv_add_emod n b
    by_cases h : n % b = 0
    · rw [if_neg (by omega)]
      refine ((Int.ediv_emod_unique hb (r := 0) (q := -(n / b))).2 ⟨?_, by omega, hb⟩).1.symm
      rw [Int.mul_neg]; omega
    · rw [if_pos (by omega)]
      refine ((Int.ediv_emod_unique hb (r := b - n % b) (q := -(n / b) - 1)).2 ⟨?_, by omega, by omega⟩).1.symm
      rw [Int.mul_sub, Int.mul_neg, Int.mul_one]; omega
def scaledI (msize size v : Int) : Int := (2 * v * size + msize) / (2 * msize)
theorem mul_bd {a b A B : Int} (ha : -A ≤ a ∧ a ≤ A) (hb : 0 ≤ b ∧ b ≤ B) (hA : 0 ≤ A) : -(A * B) ≤ a * b ∧ a * b ≤ A * B := by
  constructor
  · have h1 : -A * b ≤ a * b := Int.mul_le_mul_of_nonneg_right ha.1 hb.1
    have h2 : A * b ≤ A * B := Int.mul_le_mul_of_nonneg_left hb.2 hA
    rw [Int.neg_mul] at h1
    omega
  · have h1 : a * b ≤ A * b := Int.mul_le_mul_of_nonneg_right ha.2 hb.1
    have h2 : A * b ≤ A * B := Int.mul_le_mul_of_nonneg_left hb.2 hA
    omega
section
variable {w : World}
theorem metric_Scale_1_c {v size msize : Int} {s b : Addr} {xs : List Value} (hv : -268435455 ≤ v ∧ v ≤ 268435455) (hs : 1 ≤ size ∧ size ≤ 268435455) (hm : 1 ≤ msize ∧ msize ≤ 268435455) (hcs : w.cell? s = some (iV size)) (hcb : Row w b (iV msize :: xs)) :
    Ret Go.Proofs.Tryz.prog 61 #[iV v, .pointer (some s), .pointer (some b)] w fun r w' => r = iV (scaledI msize size v) ∧ Ext w w' := by
  have h2 := mul_bd (a := 2 * v) (b := size) (A := 536870910) (B := 268435455) ⟨by omega, by omega⟩ ⟨by omega, by omega⟩ (by decide)
  rw [show (536870910 : Int) * 268435455 = 144115187002114050 by decide] at h2
  refine enter Go.Proofs.Tryz.func61 rfl rfl rfl ?_
  refine W_sr rfl (s_as rfl (s_nil ?_))
  have hs0 : ∀ w', Ext w w' → w'.cell? s = some (iV size) := fun w' h => Ext.cell h hcs
  have hb0 : ∀ w', Ext w w' → w'.cell? (b.add 0) = some (iV msize) := fun w' h => Ext.row h hcb 0 _ rfl
  refine W_qr (Ext w) orders rfl (by kernel_rfl) (Ext.drew0) (q_mv rfl (q_mul (a := 2) (b := v) rfl rfl (by omega) (q_ld E rfl rfl hs0 (q_mul (a := 2 * v) (b := size) rfl rfl (by omega) (q_fa E rfl rfl (q_ld E rfl rfl hb0 (q_add (a := 2 * v * size) (b := msize) rfl rfl (by omega) (q_fa E rfl rfl (q_ld E rfl rfl hb0 (q_mul (a := 2) (b := msize) rfl rfl (by omega) (q_as rfl (q_as rfl (q_nil ?_)))))))))))))
  intro w2 hE2
  obtain ⟨a, ha⟩ : ∃ a, a = 2 * v * size + msize := ⟨_, rfl⟩
  obtain ⟨c, hc⟩ : ∃ c, c = 2 * msize := ⟨_, rfl⟩
  have hft := floor_trunc a c (by omega)
  have hqd : -(144115187002114050 + 268435455) ≤ a.tdiv c ∧ a.tdiv c ≤ 144115187002114050 + 268435455 := by
    have h1 := Int.natAbs_tdiv_le_natAbs a c
    omega
  have eq : IntKind.i64.wrap (a.tdiv c) = a.tdiv c := wrap64_in (by omega) (by omega)
  refine W_n2 5 6 (iV a) (iV c) (by rw [ha]; rfl) (by rw [hc]; rfl) fun ρ => ?_
  refine W_sr rfl (s_mv rfl (s_mv rfl (s_quow rfl rfl (by omega) (s_as rfl (s_nil ?_)))))
  refine W_n3 5 6 7 (iV a) (iV c) (iV (a.tdiv c)) rfl rfl (congrArg iV eq) fun ρ => ?_
  refine W_sk fun K hK => ?_
  have H : ∀ (ρ : Fr), ρ 7 = iV (a / c) → K ρ w2 := by
    intro ρ q7
    rw [u1 q7]
    refine hK _ _ ?_
    refine W_sr rfl (s_mv rfl (s_as rfl (s_nil ?_)))
    exact W_ret ⟨_, rfl, by unfold scaledI; rw [← ha, ← hc]; rfl, hE2⟩
  refine W_sr rfl (s_mv rfl (s_mv rfl (s_rem rfl rfl (by omega) (s_lss rfl rfl (s_nil ?_)))))
  refine W_if rfl (fun hd => ?_) (fun hd => W_skip ?_)
  · have hd := of_decide_eq_true hd
    refine W_reg rfl (s_mv rfl (s_sub rfl rfl (by omega) (s_as rfl (s_nil ?_))))
    rw [if_pos hd] at hft
    exact H _ (congrArg iV hft)
  · have hd := of_decide_eq_false hd
    rw [if_neg hd] at hft
    exact H _ (congrArg iV hft)
end
end Go.Proofs.YthfnijlgmjkedaaGreat
namespace Go.Proofs.YthfnijlgmjkedaaGreat
set_option maxRecDepth 100000
set_option maxHeartbeats 1000000
set_option linter.unusedVariables false
set_option linter.unusedSimpArgs false
open Go Go.Fx Go.Proofs.YthfnijlgmjkedaaGreat.Tab Go.RowKit
def scCh (m size : Int) (c : Ch) : Ch := ⟨c.code, scaledI m size c.width, scaledI m size c.height, scaledI m size c.depth⟩
def scRu (m size : Int) (r : Ru) : Ru := if r.op = 0 then ⟨r.first, r.next, r.op, scaledI m size r.value⟩ else r
def scaleM (m : Me) (size : Int) : Me := ⟨size, m.chars.map (scCh m.size size), m.rules.map (scRu m.size size)⟩
def scaleE (m : Me) (size : Int) : Int := if validM m && sizeB size then (if validM (scaleM m size) then 0 else 17) else 2
def mixF {α : Type} (g : α → α) (l : Nat → α) (i : Nat) : Nat → α := fun j => if j < i then g (l j) else l j
theorem mixF_succ {α : Type} (g : α → α) (l : Nat → α) (i : Nat) : mixF g l (i + 1) = updF (mixF g l i) i (g (l i)) := by
  funext j
  by_cases h : j = i
  · subst h; simp [mixF, updF]
  · simp only [mixF, updF, if_neg h]
    by_cases h2 : j < i
    · rw [if_pos h2, if_pos (by omega)]
    · rw [if_neg h2, if_neg (by omega)]
theorem own_ne {w : World} {e e' : TypeId} {v v' : Value} {n n' : Nat} {xs xs' : List Value} {sz sz' : Nat} (h : Own w e sz v n xs) (h' : Own w e' sz' v' n' xs') (he : e ≠ e') : ∀ k, v.ownBlock = some k → ¬ v'.ownBlock = some k := by
  intro k hk hk'
  rcases h.2 with ⟨rfl, _⟩ | ⟨g, cap, cur, rfl, hb, hg, _⟩
  · cases hk
  · rcases h'.2 with ⟨rfl, _⟩ | ⟨g', cap', cur', rfl, hb', hg', _⟩
    · cases hk'
    · have h1 : g = k := Option.some.inj hk
      have h2 : g' = k := Option.some.inj hk'
      subst h1; subst h2
      rw [hg] at hg'
      exact he (Obj.cells.inj (Option.some.inj hg')).2.1
theorem mixF_zero {α : Type} (g : α → α) (l : Nat → α) : mixF g l 0 = l := by funext j; unfold mixF; simp
theorem mix_map {α : Type} [Inhabited α] (g : α → α) (l : List α) : (List.range l.length).map (mixF g (fun i => l.getD i default) l.length) = l.map g := by
  apply List.ext_getElem (by simp)
  intro i h1 h2
  simp at h1
  simp [mixF, h1]
theorem own_off {w : World} {e ty : TypeId} {v : Value} {n : Nat} {xs : List Value} {sz g : Nat} {cs : Array Value} {f : Nat × Nat} (h : Own w e sz v n xs) (hh : w.heap[g]? = some (.cells cs ty f)) (he : e ≠ ty) : ∀ k, v.ownBlock = some k → k ≠ g := by
  intro k hk hk'
  subst hk'
  rcases h.2 with ⟨rfl, _⟩ | ⟨g', cap, cur, rfl, hb, hg, _⟩
  · cases hk
  · have h1 : g' = k := Option.some.inj hk
    subst h1
    rw [hg] at hh
    exact he (Obj.cells.inj (Option.some.inj hh)).2.1
theorem arr_mix {α : Type} [Inhabited α] {C : α → List Value} (hC : ∀ x, (C x).length = 4) {g : α → α} {w0 w' : World} {e : TypeId} {l : List α} {p : Option Addr} {c : Nat} (o : Own w0 e 4 (.slice p l.length c) l.length (l.flatMap C))
    (hA : ∀ b, p = some ⟨b, 0, none⟩ → ArrR C w' b l.length (mixF g (fun i => l.getD i default) l.length)) : SlR w' p ((l.map g).flatMap C) := by
  obtain ⟨p', c', he, hsl, _, hb⟩ := Own.form o
  cases he
  cases p with
  | none =>
    have h0 : l.flatMap C = [] := hsl
    have hl : l = [] := by
      have := flat_length C 4 hC l
      rw [h0] at this
      exact List.eq_nil_of_length_eq_zero (by simp at this; omega)
    subst hl; rfl
  | some a =>
    obtain ⟨b, rfl⟩ : ∃ b, a = ⟨b, 0, none⟩ := ⟨_, (hb a rfl).2⟩
    have := arr_sl hC (hA b rfl)
    rwa [mix_map] at this
theorem arr_val {n : Nat} {f : Nat → Ru} {cs : Array Value} (hs : n * 4 ≤ cs.size) (hc : ∀ i, i < n → ∀ j v, (ruC (f i))[j]? = some v → cs[i * 4 + j]? = some v) {k : Nat} (hk : k < n) (x : Int) :
    ∀ i, i < n → ∀ j v, (ruC (updF f k ⟨(f k).first, (f k).next, (f k).op, x⟩ i))[j]? = some v → (cs.setIfInBounds (k * 4 + 3) (iV x))[i * 4 + j]? = some v := by
  intro i hi j v hv
  have hj : j < 4 := by
    have := (List.getElem?_eq_some_iff.1 hv).1
    rwa [ruC_len] at this
  unfold updF at hv
  by_cases he : i = k
  · subst he
    rw [if_pos rfl] at hv
    by_cases h3 : j = 3
    · subst h3
      rw [Array.getElem?_setIfInBounds_self_of_lt (by omega)]
      exact hv
    · rw [Array.getElem?_setIfInBounds_ne (by omega)]
      refine hc i hi j v ?_
      have : j = 0 ∨ j = 1 ∨ j = 2 := by omega
      rcases this with h | h | h <;> subst h <;> exact hv
  · rw [if_neg he] at hv
    rw [Array.getElem?_setIfInBounds_ne (by omega)]
    exact hc i hi j v hv
theorem ArrR.mod {α : Type} {C : α → List Value} {w w' : World} {M : Nat → Prop} {g n : Nat} {f : Nat → α} (h : ArrR C w g n f) (hM : Mod M w w') (hg : ¬ M g) : ArrR C w' g n f := by
  obtain ⟨cs, ty, hh, h2⟩ := h
  exact ⟨cs, ty, hM.heap hh hg, h2⟩
section
variable {w : World}
theorem metric_Scale_c {m : Me} {p q : Option Addr} {c d : Nat} {size : Int} (hm : MeR w m p q) :
    Ret Go.Proofs.Tryz.prog 24 #[meV m p q c d, iV size] w fun v w' => Ans w' v (scaleM m size) (scaleE m size) ∧ FrA w.heap.size v ∧ Ext w w' := by
  refine enterC Go.Proofs.Tryz.func24 rfl rfl rfl ?_
  refine W_sr rfl (s_bxA rfl fun w1 hE1 hh1 hs1 => (s_bxA rfl fun w2 hE2 hh2 hs2 => (s_alA E rfl fun w3 hE3 hh3 hs3 => (s_as rfl (s_nil ?_)))))
  have hE03 := hE1.trans (hE2.trans hE3)
  have hr1 : Row w3 ⟨w.heap.size, 0, none⟩ (meC m p q c d) := row_heap (Ext.heap (hE2.trans hE3) hh1)
  have hc2 : Row w3 ⟨w1.heap.size, 0, none⟩ [iV size] := row_heap (Ext.heap hE3 hh2)
  have err : ∀ (m : Me) (e : Int) (w' : World), e ≠ 0 → Ext w3 w' → Row (w'.setRow w2.heap.size (splice (Value.agg #[iV 0, .slice none 0 0, .slice none 0 0]).cells 0 (meC me0 none none 0 0))) ⟨w2.heap.size, 0, none⟩ (meC me0 none none 0 0) ∧
      Ans (w'.setRow w2.heap.size (splice (Value.agg #[iV 0, .slice none 0 0, .slice none 0 0]).cells 0 (meC me0 none none 0 0))) (.tuple #[.agg (meC me0 none none 0 0).toArray, iV e]) m e ∧ FrA w.heap.size (.tuple #[.agg (meC me0 none none 0 0).toArray, iV e]) ∧ Ext w (w'.setRow w2.heap.size (splice (Value.agg #[iV 0, .slice none 0 0, .slice none 0 0]).cells 0 (meC me0 none none 0 0))) := by
    intro m e w' he hE'
    have fin := fin_cell (vs := meC me0 none none 0 0) (hE03.trans hE') (show w.heap.size ≤ w2.heap.size by have := hE1.size; have := hE2.size; omega) (Ext.heap hE' hh3) rfl
    exact ⟨fin.1, ans_err he, fr_err, fin.2⟩
  refine W_seq ?_
  cases h0 : validM m
  · refine W_sr rfl (s_lda (xs := meC m p q c d) E rfl rfl hr1 rfl (s_callx rfl rfl (Ret.eqv (metric_Valid_c (hm.ext hE03)) (congrArg Value.bool h0)) fun w4 hE4 => (s_not rfl (s_mv rfl (s_g0 rfl (s_g0 rfl (s_g0 rfl (s_pk rfl (s_nil ?_)))))))))
    refine W_if rfl (fun _ => ?_) (fun h => by cases h)
    refine W_sr rfl (s_bld rfl (cells := (meC me0 none none 0 0).toArray) (by kernel_rfl) (s_st E (vs := meC me0 none none 0 0) rfl rfl rfl rfl (Ext.heap hE4 hh3) rfl rfl rfl (Nat.le_refl _) (s_as rfl (s_nil ?_))))
    obtain ⟨g1, g2, g3⟩ := err (scaleM m size) 2 w4 (by decide) hE4
    have e : scaleE m size = 2 := by unfold scaleE; rw [h0]; rfl
    exact W_ret ⟨_, resC2 E rfl rfl rfl g1 rfl rfl, by rw [e]; exact g2, g3⟩
  cases h1 : sizeB size
  · refine W_sr rfl (s_lda (xs := meC m p q c d) E rfl rfl hr1 rfl (s_callx rfl rfl (Ret.eqv (metric_Valid_c (hm.ext hE03)) (congrArg Value.bool h0)) fun w4 hE4 => (s_not rfl (s_mv rfl (s_g1 rfl (s_ld E rfl rfl (Row.get0 (Ext.row hE4 hc2)) (s_g1 rfl (s_callp rfl rfl (Ret.eqv metric_IsSize_c (congrArg Value.bool h1)) (s_g1 rfl (s_not rfl (s_pk rfl (s_nil ?_))))))))))))
    refine W_if rfl (fun _ => ?_) (fun h => by cases h)
    refine W_sr rfl (s_bld rfl (cells := (meC me0 none none 0 0).toArray) (by kernel_rfl) (s_st E (vs := meC me0 none none 0 0) rfl rfl rfl rfl (Ext.heap hE4 hh3) rfl rfl rfl (Nat.le_refl _) (s_as rfl (s_nil ?_))))
    obtain ⟨g1, g2, g3⟩ := err (scaleM m size) 2 w4 (by decide) hE4
    have e : scaleE m size = 2 := by unfold scaleE; rw [h0, h1]; rfl
    exact W_ret ⟨_, resC2 E rfl rfl rfl g1 rfl rfl, by rw [e]; exact g2, g3⟩
  refine W_sr rfl (s_lda (xs := meC m p q c d) E rfl rfl hr1 rfl (s_callx rfl rfl (Ret.eqv (metric_Valid_c (hm.ext hE03)) (congrArg Value.bool h0)) fun w4 hE4 => (s_not rfl (s_mv rfl (s_g1 rfl (s_ld E rfl rfl (Row.get0 (Ext.row hE4 hc2)) (s_g1 rfl (s_callp rfl rfl (Ret.eqv metric_IsSize_c (congrArg Value.bool h1)) (s_g1 rfl (s_not rfl (s_pk rfl (s_nil ?_))))))))))))
  refine W_if rfl (fun h => by cases h) (fun _ => W_skip ?_)
  have hvp := valid_parts h0
  refine W_sr rfl (s_mf (vs := []) (us := [.pointer (some ⟨w1.heap.size, 0, none⟩), .pointer (some ⟨w.heap.size, 0, none⟩)]) rfl rfl (s_as rfl (s_nil ?_)))
  refine W_n4 2 3 4 6 (.pointer (some ⟨w.heap.size, 0, none⟩)) (.pointer (some ⟨w1.heap.size, 0, none⟩)) (.pointer (some ⟨w2.heap.size, 0, none⟩)) (.func (.func 61) #[] #[.pointer (some ⟨w1.heap.size, 0, none⟩), .pointer (some ⟨w.heap.size, 0, none⟩)]) rfl rfl rfl rfl fun ρ => ?_
  have hr4 := Ext.row hE4 hr1
  have hc4 := Ext.row hE4 hc2
  refine W_dr (Ext w4) [] orders (D_take 0 rfl rfl (by kernel_rfl) rfl (fun _ hs => r_ld E rfl rfl (Row.get0 (Ext.row hs hc4))) Ext.drew0 (D_pure 1 rfl rfl (by kernel_rfl) rfl (fun _ => r_fa E rfl rfl) (fun _ => Ext.drew0) (D_take 2 rfl rfl (by kernel_rfl) rfl (fun _ hs => r_ld E rfl rfl (Ext.row hs hr4 1 _ rfl)) Ext.drew0 (D_pure 4 rfl rfl (by kernel_rfl) rfl (fun _ => r_fa E rfl rfl) (fun _ => Ext.drew0) (D_take 5 rfl rfl (by kernel_rfl) rfl (fun _ hs => r_ld E rfl rfl (Ext.row hs hr4 2 _ rfl)) Ext.drew0 ?_)))))
  refine D_set [3, 6, 7, 8] (fun j v w => match j with
    | 3 => Own w 50 4 v m.chars.length (m.chars.flatMap chC) ∧ ∀ k, v.ownBlock = some k → w4.heap.size ≤ k
    | 6 => Own w 45 4 v m.rules.length (m.rules.flatMap ruC) ∧ ∀ k, v.ownBlock = some k → w4.heap.size ≤ k
    | 7 => ∃ v3 v6, v = .agg #[iV size, v3, v6] ∧ (Own w 50 4 v3 m.chars.length (m.chars.flatMap chC) ∧ ∀ k, v3.ownBlock = some k → w4.heap.size ≤ k) ∧ Own w 45 4 v6 m.rules.length (m.rules.flatMap ruC) ∧ ∀ k, v6.ownBlock = some k → w4.heap.size ≤ k
    | 8 => ∃ g, v = .pointer (some ⟨g, 0, none⟩) ∧ w.heap[g]? = some (.cells (Value.agg #[iV 0, .slice none 0 0, .slice none 0 0]).cells 25 (0, 0)) ∧ w4.heap.size ≤ g
    | _ => True) (fuel' := 1) rfl (by kernel_rfl) (by kernel_rfl) (fun _ h => Ext.drew0.trans h) ?_ ?_ ?_
  · intro j v w1 w2 hE h
    split at h
    · exact ⟨Ext.owns hE h.1, h.2⟩
    · exact ⟨Ext.owns hE h.1, h.2⟩
    · obtain ⟨v3, v6, h1, ⟨h2, h3⟩, h4, h5⟩ := h; exact ⟨v3, v6, h1, ⟨Ext.owns hE h2, h3⟩, Ext.owns hE h4, h5⟩
    · obtain ⟨g, h1, h2, h3⟩ := h; exact ⟨g, h1, Ext.heap hE h2, h3⟩
    · exact trivial
  · refine List.forall_mem_cons.2 ⟨?_, List.forall_mem_cons.2 ⟨?_, List.forall_mem_cons.2 ⟨?_, List.forall_mem_cons.2 ⟨?_, by simp⟩⟩⟩⟩
    · intro o ho ρ' w' hE hag hd
      obtain rfl := Option.some.inj ho
      have f : ρ' 24 = .slice p m.chars.length c := hag 24 (by kernel_rfl)
      have hE' := Ext.drew0.trans hE
      rw [u1 f]
      refine s_call rfl rfl (slices_Clone_CharMetric_c rfl hm.nch (hm.ext (hE03.trans (hE4.trans hE'))).ch) fun v w2 h => s_nil ⟨h.2.2, _, rfl, h.1, fun k hk => by have := h.2.1 k hk; have := hE'.size; omega⟩
    · intro o ho ρ' w' hE hag hd
      obtain rfl := Option.some.inj ho
      have f : ρ' 27 = .slice q m.rules.length d := hag 27 (by kernel_rfl)
      have hE' := Ext.drew0.trans hE
      rw [u1 f]
      refine s_call rfl rfl (slices_Clone_LigRule_c rfl hm.nru (hm.ext (hE03.trans (hE4.trans hE'))).ru) fun v w2 h => s_nil ⟨h.2.2, _, rfl, h.1, fun k hk => by have := h.2.1 k hk; have := hE'.size; omega⟩
    · intro o ho ρ' w' hE hag hd
      obtain rfl := Option.some.inj ho
      have f : ρ' 22 = iV size := hag 22 (by kernel_rfl)
      have g3 := hd 3 (by decide) (by kernel_rfl)
      have g6 := hd 6 (by decide) (by kernel_rfl)
      obtain ⟨p3, c3, e3, _⟩ := Own.form g3.1
      obtain ⟨p6, c6, e6, _⟩ := Own.form g6.1
      have e3 : ρ' 25 = .slice p3 m.chars.length c3 := e3
      have e6 : ρ' 28 = .slice p6 m.rules.length c6 := e6
      have g3 : Own w' 50 4 (ρ' 25) m.chars.length (m.chars.flatMap chC) ∧ ∀ k, (ρ' 25).ownBlock = some k → w4.heap.size ≤ k := g3
      have g6 : Own w' 45 4 (ρ' 28) m.rules.length (m.rules.flatMap ruC) ∧ ∀ k, (ρ' 28).ownBlock = some k → w4.heap.size ≤ k := g6
      rw [e3] at g3
      rw [e6] at g6
      rw [u3 f e3 e6]
      exact s_bld rfl (cells := #[iV size, .slice p3 m.chars.length c3, .slice p6 m.rules.length c6]) (by kernel_rfl) (s_nil ⟨Mod.refl, _, rfl, _, _, rfl, g3, g6⟩)
    · intro o ho ρ' w' hE hag hd
      obtain rfl := Option.some.inj ho
      exact s_alA E rfl fun w2 hE2 hh2 hs2 => s_nil ⟨hE2, _, rfl, _, rfl, hh2, (Ext.drew0.trans hE).size⟩
  · intro ρ' w6 hE6 hag hG
    obtain ⟨v3, v6, hv7, ⟨o3, hf3⟩, o6, hf6⟩ := hG 7 (by decide)
    obtain ⟨g, hv8, hhg, hgl⟩ := hG 8 (by decide)
    obtain ⟨p3, c3, rfl, _⟩ := o3.form
    obtain ⟨p6, c6, rfl, _⟩ := o6.form
    have hv7 : ρ' 29 = .agg #[iV size, .slice p3 m.chars.length c3, .slice p6 m.rules.length c6] := hv7
    have hv8 : ρ' 7 = .pointer (some ⟨g, 0, none⟩) := hv8
    have f2 : ρ' 2 = .pointer (some ⟨w.heap.size, 0, none⟩) := hag 2 (by kernel_rfl)
    have f3 : ρ' 3 = .pointer (some ⟨w1.heap.size, 0, none⟩) := hag 3 (by kernel_rfl)
    have f4 : ρ' 4 = .pointer (some ⟨w2.heap.size, 0, none⟩) := hag 4 (by kernel_rfl)
    have f6 : ρ' 6 = .func (.func 61) #[] #[.pointer (some ⟨w1.heap.size, 0, none⟩), .pointer (some ⟨w.heap.size, 0, none⟩)] := hag 6 (by kernel_rfl)
    have hE46 := Ext.drew0.trans hE6
    rw [u6 f2 f3 f4 f6 hv8 hv7]
    have fin6 := fin_cell (vs := [iV size, .slice p3 m.chars.length c3, .slice p6 m.rules.length c6]) hE46 hgl hhg rfl
    have o3' := Mod.owns (setRow_mod (w := w6) (cs := splice (Value.agg #[iV 0, .slice none 0 0, .slice none 0 0]).cells 0 [iV size, .slice p3 m.chars.length c3, .slice p6 m.rules.length c6]) (M := fun k => k = g) rfl) o3 (own_off o3 hhg (by decide))
    have o6' := Mod.owns (setRow_mod (w := w6) (cs := splice (Value.agg #[iV 0, .slice none 0 0, .slice none 0 0]).cells 0 [iV size, .slice p3 m.chars.length c3, .slice p6 m.rules.length c6]) (M := fun k => k = g) rfl) o6 (own_off o6 hhg (by decide))
    have hg3 := own_off o3 hhg (by decide)
    have hg6 := own_off o6 hhg (by decide)
    have h36 := own_ne o3 o6 (by decide)
    have hE47 := fin6.2
    have hr7 := fin6.1
    refine (D_one 9 rfl (by kernel_rfl) rfl (s_st E (vs := [iV size, .slice p3 m.chars.length c3, .slice p6 m.rules.length c6]) rfl rfl rfl rfl hhg rfl rfl rfl (Nat.le_refl _) (s_nil ⟨hE47, (D_done (by kernel_rfl) ?_)⟩)))
    generalize w6.setRow g (splice (Value.agg #[iV 0, .slice none 0 0, .slice none 0 0]).cells 0 [iV size, .slice p3 m.chars.length c3, .slice p6 m.rules.length c6]) = w7 at hE47 hr7 o3' o6' ⊢
    clear fin6 hhg hE6 hag hG hE46 o3 o6
    have keep : ∀ {w'}, Mod (fun k => (Value.slice p3 m.chars.length c3).ownBlock = some k ∨ (Value.slice p6 m.rules.length c6).ownBlock = some k) w7 w' → Row w' ⟨w.heap.size, 0, none⟩ (meC m p q c d) ∧ Row w' ⟨w1.heap.size, 0, none⟩ [iV size] ∧ Row w' ⟨g, 0, none⟩ [iV size, .slice p3 m.chars.length c3, .slice p6 m.rules.length c6] := by
      intro w' hM
      have b1 := hE1.size; have b2 := hE2.size; have b3 := hE3.size; have b4 := hE4.size
      refine ⟨hM.row (Ext.row hE47 hr4) ?_, hM.row (Ext.row hE47 hc4) ?_, hM.row hr7 ?_⟩
      · rintro (h | h)
        · have := hf3 _ h; simp only at this; omega
        · have := hf6 _ h; simp only at this; omega
      · rintro (h | h)
        · have := hf3 _ h; simp only at this; omega
        · have := hf6 _ h; simp only at this; omega
      · rintro (h | h)
        · exact hg3 _ h rfl
        · exact hg6 _ h rfl
    have hsb : 1 ≤ size ∧ size ≤ 268435455 := by simp only [sizeB, Bool.and_eq_true, decide_eq_true_eq] at h1; omega
    have hmb : 1 ≤ m.size ∧ m.size ≤ 268435455 := by have := hvp.1; simp only [sizeB, Bool.and_eq_true, decide_eq_true_eq] at this; omega
    have call : ∀ {v : Int} {w'}, (-268435455 ≤ v ∧ v ≤ 268435455) → Row w' ⟨w.heap.size, 0, none⟩ (meC m p q c d) → Row w' ⟨w1.heap.size, 0, none⟩ [iV size] → Ret Go.Proofs.Tryz.prog 61 #[iV v, .pointer (some ⟨w1.heap.size, 0, none⟩), .pointer (some ⟨w.heap.size, 0, none⟩)] w' fun r w'' => r = iV (scaledI m.size size v) ∧ Ext w' w'' := fun hv ha hb => metric_Scale_1_c hv hsb hmb (Row.get0 hb) ha
    have hsz7 : w4.heap.size ≤ w7.heap.size := hE47.size
    refine W_seq ?_
    refine W_sr rfl (s_fa E rfl rfl (s_ld E rfl rfl (hr7 1 _ rfl) (s_len E rfl rfl (s_mv rfl (s_nil ?_)))))
    refine W_block ?_
    refine W_loop (fun r ρ w' => ∃ ρ' i, ρ = upd (upd (upd (upd (upd (upd (upd (upd ρ' 2 (.pointer (some ⟨w.heap.size, 0, none⟩))) 3 (.pointer (some ⟨w1.heap.size, 0, none⟩))) 4 (.pointer (some ⟨w2.heap.size, 0, none⟩))) 6 (.func (.func 61) #[] #[.pointer (some ⟨w1.heap.size, 0, none⟩), .pointer (some ⟨w.heap.size, 0, none⟩)])) 7 (.pointer (some ⟨g, 0, none⟩))) 31 (.slice p3 m.chars.length c3)) 32 (iV m.chars.length)) 33 (iV (i : Nat)) ∧ i ≤ m.chars.length ∧ r = m.chars.length - i ∧
        Mod (fun k => (Value.slice p3 m.chars.length c3).ownBlock = some k) w7 w' ∧ ∀ b, p3 = some ⟨b, 0, none⟩ → ArrR chC w' b m.chars.length (mixF (scCh m.size size) (fun i => m.chars.getD i default) i)) m.chars.length
      ⟨_, 0, u8 rfl rfl rfl rfl rfl rfl rfl rfl, by omega, by omega, Mod.refl, fun b hb => by subst hb; rw [mixF_zero]; exact own_arr chC_len rfl o3'⟩ ?_
    rintro r _ w8 ⟨ρ, i, rfl, hi, rfl, hM8, hA8⟩
    refine W_sr rfl (s_lss rfl rfl (s_nil ?_))
    refine W_seq ?_
    refine W_if rfl (fun hd => W_skip ?_) (fun hd => W_exit ?_)
    · have hd := of_decide_eq_true hd
      have hil : i < m.chars.length := by omega
      obtain ⟨pp, cp, hpp, hslp, _, hbp⟩ := Own.form o3'
      cases hpp
      obtain ⟨ab, rfl, _⟩ := hslp.some (by intro h0; have := flat_length chC 4 chC_len m.chars; rw [h0] at this; simp at this; omega)
      obtain ⟨b, rfl⟩ : ∃ b, ab = ⟨b, 0, none⟩ := ⟨_, (hbp ab rfl).2⟩
      obtain ⟨cs, ty, hh, hsz, hc⟩ := hA8 b rfl
      have hxi : mixF (scCh m.size size) (fun i => m.chars.getD i default) i i = m.chars[i] := by simp [mixF, hil]
      have hrow := arr_row hh hc hil
      rw [hxi] at hrow
      have hcb : charB m.chars[i] = true := by have := hvp.2.2.1; rw [List.all_eq_true] at this; exact this _ (List.getElem_mem hil)
      simp only [charB, coordB, Bool.and_eq_true, decide_eq_true_eq] at hcb
      have hli : m.chars.getD i default = m.chars[i] := by simp [hil]
      generalize m.chars[i] = x at hrow hcb hxi hli ⊢
      refine W_seq (W_block ?_)
      refine W_sr rfl (s_mv rfl (s_ia E rfl rfl rfl rfl hil (s_lda E rfl rfl hrow rfl (s_alA E rfl fun w9 hE9 hh9 hs9 => (s_as rfl (s_st E (vs := chC x) rfl rfl rfl rfl hh9 rfl rfl rfl (Nat.le_refl _) (s_nil ?_)))))))
      have fin9 := fin_cell (vs := chC x) hE9 (Nat.le_refl _) hh9 rfl
      have hE8x := fin9.2
      have hrx := fin9.1
      generalize w9.setRow w8.heap.size (splice (Value.agg #[iV 0, iV 0, iV 0, iV 0]).cells 0 (chC x)) = w10 at hE8x hrx ⊢
      have hM10 := hM8.trans (Mod.of_ext hE8x)
      obtain ⟨k1, k2, k3⟩ := keep (hM10.mono (fun k _ h => .inl h))
      have hh10 := Ext.heap hE8x hh
      have set1 := arr_set chC_len hsz hc hil (scCh m.size size x)
      refine W_n10 2 3 4 6 7 8 9 31 32 33 (.pointer (some ⟨w.heap.size, 0, none⟩)) (.pointer (some ⟨w1.heap.size, 0, none⟩)) (.pointer (some ⟨w2.heap.size, 0, none⟩)) (.func (.func 61) #[] #[.pointer (some ⟨w1.heap.size, 0, none⟩), .pointer (some ⟨w.heap.size, 0, none⟩)]) (.pointer (some ⟨g, 0, none⟩)) (iV i) (.pointer (some ⟨w8.heap.size, 0, none⟩)) (.slice (some ⟨b, 0, none⟩) m.chars.length c3) (iV m.chars.length) (iV i) rfl rfl rfl rfl rfl rfl rfl rfl rfl rfl fun ρ => ?_
      refine W_d (Ext w10) [19] orders (D_pure 0 rfl rfl (by kernel_rfl) rfl (fun _ => r_fa E rfl rfl) (fun _ => Ext.drew0) (D_take 1 rfl rfl (by kernel_rfl) rfl (fun _ hs => r_ld E rfl rfl (Ext.row hs k3 1 _ rfl)) Ext.drew0 (D_pure 2 rfl rfl (by kernel_rfl) rfl (fun _ => r_mv rfl) (fun _ => Ext.drew0) (D_pure 3 rfl rfl (by kernel_rfl) rfl (fun _ => r_fa E rfl rfl) (fun _ => Ext.drew0) (D_take 4 rfl rfl (by kernel_rfl) rfl (fun _ hs => r_ld E rfl rfl (Ext.row hs hrx 0 _ rfl)) Ext.drew0 (D_pure 5 rfl rfl (by kernel_rfl) rfl (fun _ => r_mv rfl) (fun _ => Ext.drew0) (D_pure 6 rfl rfl (by kernel_rfl) rfl (fun _ => r_fa E rfl rfl) (fun _ => Ext.drew0) (D_take 7 rfl rfl (by kernel_rfl) rfl (fun _ hs => r_ld E rfl rfl (Ext.row hs hrx 1 _ rfl)) Ext.drew0 (D_pure 9 rfl rfl (by kernel_rfl) rfl (fun _ => r_mv rfl) (fun _ => Ext.drew0) (D_pure 10 rfl rfl (by kernel_rfl) rfl (fun _ => r_fa E rfl rfl) (fun _ => Ext.drew0) (D_take 11 rfl rfl (by kernel_rfl) rfl (fun _ hs => r_ld E rfl rfl (Ext.row hs hrx 2 _ rfl)) Ext.drew0 (D_pure 13 rfl rfl (by kernel_rfl) rfl (fun _ => r_mv rfl) (fun _ => Ext.drew0) (D_pure 14 rfl rfl (by kernel_rfl) rfl (fun _ => r_fa E rfl rfl) (fun _ => Ext.drew0) (D_take 15 rfl rfl (by kernel_rfl) rfl (fun _ hs => r_ld E rfl rfl (Ext.row hs hrx 3 _ rfl)) Ext.drew0 (D_one 8 rfl (by kernel_rfl) rfl (s_callx rfl rfl (call hcb.2.1 k1 k2) fun w11 hE11 => (s_nil ⟨(Ext.drew0.trans hE11), (D_one 12 rfl (by kernel_rfl) rfl (s_callx rfl rfl (call hcb.2.2.1 (Ext.row hE11 k1) (Ext.row hE11 k2)) fun w12 hE12 => (s_nil ⟨(Ext.drew0.trans (hE11.trans hE12)), (D_one 16 rfl (by kernel_rfl) rfl (s_callx rfl rfl (call hcb.2.2.2 (Ext.row (hE11.trans hE12) k1) (Ext.row (hE11.trans hE12) k2)) fun w13 hE13 => (s_nil ⟨(Ext.drew0.trans (hE11.trans (hE12.trans hE13))), (D_pure 17 rfl rfl (by kernel_rfl) rfl (fun _ => r_bld rfl (cells := (chC (scCh m.size size x)).toArray) (by kernel_rfl)) (fun _ => (Ext.drew0.trans (hE11.trans (hE12.trans hE13)))) (D_pure 18 rfl rfl (by kernel_rfl) rfl (fun _ => r_ia E rfl rfl rfl rfl hil) (fun _ => (Ext.drew0.trans (hE11.trans (hE12.trans hE13)))) (D_oneM 19 rfl (by kernel_rfl) rfl (by kernel_rfl) (s_st E (vs := chC (scCh m.size size x)) rfl rfl (ad0 b _) rfl (Ext.heap (hE11.trans (hE12.trans hE13)) hh10) rfl rfl rfl (by rw [chC_len]; omega) (s_nil (D_done (by kernel_rfl) ?_))))))⟩)))⟩)))⟩)))))))))))))))))
      refine W_reg rfl (s_add rfl rfl (by omega) (s_mv rfl (s_nil ?_)))
      refine ⟨m.chars.length - (i + 1), by omega, _, i + 1, u8 rfl rfl rfl rfl rfl rfl rfl rfl, by omega, rfl, hM10.trans ((Mod.of_ext (Ext.drew0.trans (hE11.trans (hE12.trans hE13)))).trans (setRow_mod rfl)), fun b' hb' => ?_⟩
      cases hb'
      refine ⟨_, ty, setRow_heap _ _ _ _ ty (0, 0) (Ext.heap (hE11.trans (hE12.trans hE13)) hh10), set1.1, ?_⟩
      rw [mixF_succ, hli]
      exact set1.2
    · have hd := of_decide_eq_false hd
      have hie : i = m.chars.length := by omega
      rw [hie] at hA8
      have o6'' := hM8.owns o6' (fun k hk h => h36 k h hk)
      obtain ⟨k1, k2, k3⟩ := keep (hM8.mono (fun k _ h => .inl h))
      refine W_n5 2 3 4 6 7 (.pointer (some ⟨w.heap.size, 0, none⟩)) (.pointer (some ⟨w1.heap.size, 0, none⟩)) (.pointer (some ⟨w2.heap.size, 0, none⟩)) (.func (.func 61) #[] #[.pointer (some ⟨w1.heap.size, 0, none⟩), .pointer (some ⟨w.heap.size, 0, none⟩)]) (.pointer (some ⟨g, 0, none⟩)) rfl rfl rfl rfl rfl fun ρ => ?_
      clear hd hie hi
      refine W_seq ?_
      refine W_sr rfl (s_fa E rfl rfl (s_ld E rfl rfl (k3 2 _ rfl) (s_len E rfl rfl (s_mv rfl (s_nil ?_)))))
      refine W_block ?_
      refine W_loop (fun r ρ w' => ∃ ρ' i, ρ = upd (upd (upd (upd (upd (upd (upd (upd ρ' 2 (.pointer (some ⟨w.heap.size, 0, none⟩))) 3 (.pointer (some ⟨w1.heap.size, 0, none⟩))) 4 (.pointer (some ⟨w2.heap.size, 0, none⟩))) 6 (.func (.func 61) #[] #[.pointer (some ⟨w1.heap.size, 0, none⟩), .pointer (some ⟨w.heap.size, 0, none⟩)])) 7 (.pointer (some ⟨g, 0, none⟩))) 59 (.slice p6 m.rules.length c6)) 60 (iV m.rules.length)) 61 (iV (i : Nat)) ∧ i ≤ m.rules.length ∧ r = m.rules.length - i ∧
          Mod (fun k => (Value.slice p6 m.rules.length c6).ownBlock = some k) w8 w' ∧ ∀ b, p6 = some ⟨b, 0, none⟩ → ArrR ruC w' b m.rules.length (mixF (scRu m.size size) (fun i => m.rules.getD i default) i)) m.rules.length
        ⟨_, 0, u8 rfl rfl rfl rfl rfl rfl rfl rfl, by omega, by omega, Mod.refl, fun b hb => by subst hb; rw [mixF_zero]; exact own_arr ruC_len rfl o6''⟩ ?_
      clear k1 k2 k3
      rintro r _ w9 ⟨ρ, i, rfl, hi, rfl, hM9, hA9⟩
      have hM79 : Mod (fun k => (Value.slice p3 m.chars.length c3).ownBlock = some k ∨ (Value.slice p6 m.rules.length c6).ownBlock = some k) w7 w9 := (hM8.mono (fun k _ h => .inl h)).trans (hM9.mono (fun k _ h => .inr h))
      obtain ⟨k1, k2, k3⟩ := keep hM79
      refine W_sr rfl (s_lss rfl rfl (s_nil ?_))
      refine W_seq ?_
      refine W_if rfl (fun hd => W_skip ?_) (fun hd => W_exit ?_)
      · have hd := of_decide_eq_true hd
        have hil : i < m.rules.length := by omega
        obtain ⟨pp, cp, hpp, hslp, _, hbp⟩ := Own.form o6''
        cases hpp
        obtain ⟨ab, rfl, _⟩ := hslp.some (by intro h0; have := flat_length ruC 4 ruC_len m.rules; rw [h0] at this; simp at this; omega)
        obtain ⟨b, rfl⟩ : ∃ b, ab = ⟨b, 0, none⟩ := ⟨_, (hbp ab rfl).2⟩
        obtain ⟨cs, ty, hh, hsz, hc⟩ := hA9 b rfl
        have hxi : mixF (scRu m.size size) (fun i => m.rules.getD i default) i i = m.rules[i] := by simp [mixF, hil]
        have hrow := arr_row hh hc hil
        rw [hxi] at hrow
        have hrb : ruleB m.rules[i] = true := by have := hvp.2.2.2.2.2.1; rw [List.all_eq_true] at this; exact this _ (List.getElem_mem hil)
        have hli : m.rules.getD i default = m.rules[i] := by simp [hil]
        generalize m.rules[i] = x at hrow hrb hxi hli ⊢
        refine W_seq (W_block ?_)
        refine W_sr rfl (s_mv rfl (s_ia E rfl rfl rfl rfl hil (s_lda E rfl rfl hrow rfl (s_alA E rfl fun w10 hE10 hh10 hs10 => (s_as rfl (s_st E (vs := ruC x) rfl rfl rfl rfl hh10 rfl rfl rfl (Nat.le_refl _) (s_nil ?_)))))))
        have fin10 := fin_cell (vs := ruC x) hE10 (Nat.le_refl _) hh10 rfl
        have hE9x := fin10.2
        have hrx := fin10.1
        generalize w10.setRow w9.heap.size (splice (Value.agg #[iV 0, iV 0, iV 0, iV 0]).cells 0 (ruC x)) = w11 at hE9x hrx ⊢
        have hM11 := hM9.trans (Mod.of_ext hE9x)
        have hh11 := Ext.heap hE9x hh
        refine W_n10 2 3 4 6 7 10 11 59 60 61 (.pointer (some ⟨w.heap.size, 0, none⟩)) (.pointer (some ⟨w1.heap.size, 0, none⟩)) (.pointer (some ⟨w2.heap.size, 0, none⟩)) (.func (.func 61) #[] #[.pointer (some ⟨w1.heap.size, 0, none⟩), .pointer (some ⟨w.heap.size, 0, none⟩)]) (.pointer (some ⟨g, 0, none⟩)) (iV i) (.pointer (some ⟨w9.heap.size, 0, none⟩)) (.slice (some ⟨b, 0, none⟩) m.rules.length c6) (iV m.rules.length) (iV i) rfl rfl rfl rfl rfl rfl rfl rfl rfl rfl fun ρ => ?_
        by_cases hop : x.op = 0
        · refine W_sr rfl (s_fa E rfl rfl (s_ld E rfl rfl (hrx 2 _ rfl) (s_cmp (c := true) rfl rfl (decide_eq_true hop) (s_nil ?_))))
          refine W_if rfl (fun _ => ?_) (fun h => by cases h)
          have hvb : -268435455 ≤ x.value ∧ x.value ≤ 268435455 := by
            simp only [ruleB, hop, if_true, coordB, Bool.and_eq_true, decide_eq_true_eq] at hrb
            omega
          have set1 := arr_val hsz hc hil (scaledI m.size size x.value)
          refine W_d (Ext w11) [9] orders (D_pure 0 rfl rfl (by kernel_rfl) rfl (fun _ => r_fa E rfl rfl) (fun _ => Ext.drew0) (D_take 1 rfl rfl (by kernel_rfl) rfl (fun _ hs => r_ld E rfl rfl (Ext.row hs (Ext.row hE9x k3) 2 _ rfl)) Ext.drew0 (D_pure 2 rfl rfl (by kernel_rfl) rfl (fun _ => r_mv rfl) (fun _ => Ext.drew0) (D_pure 3 rfl rfl (by kernel_rfl) rfl (fun _ => r_mv rfl) (fun _ => Ext.drew0) (D_pure 4 rfl rfl (by kernel_rfl) rfl (fun _ => r_fa E rfl rfl) (fun _ => Ext.drew0) (D_take 5 rfl rfl (by kernel_rfl) rfl (fun _ hs => r_ld E rfl rfl (Ext.row hs hrx 3 _ rfl)) Ext.drew0 (D_one 6 rfl (by kernel_rfl) rfl (s_callx rfl rfl (call hvb (Ext.row hE9x k1) (Ext.row hE9x k2)) fun w12 hE12 => (s_nil ⟨(Ext.drew0.trans hE12), (D_pure 7 rfl rfl (by kernel_rfl) rfl (fun _ => r_ia E rfl rfl rfl rfl hil) (fun _ => (Ext.drew0.trans hE12)) (D_pure 8 rfl rfl (by kernel_rfl) rfl (fun _ => r_fa E rfl rfl) (fun _ => (Ext.drew0.trans hE12)) (D_oneM 9 rfl (by kernel_rfl) rfl (by kernel_rfl) (s_st1 E rfl rfl (by rw [add_add, ad0]) rfl rfl (Ext.heap hE12 hh11) (by omega) (s_nil (D_done (by kernel_rfl) ?_))))))⟩)))))))))
          refine W_reg rfl (s_add rfl rfl (by omega) (s_mv rfl (s_nil ?_)))
          refine ⟨m.rules.length - (i + 1), by omega, _, i + 1, u8 rfl rfl rfl rfl rfl rfl rfl rfl, by omega, rfl, hM11.trans ((Mod.of_ext (Ext.drew0.trans hE12)).trans (setRow_mod rfl)), fun b' hb' => ?_⟩
          cases hb'
          refine ⟨_, ty, setRow_heap _ _ _ _ ty (0, 0) (Ext.heap hE12 hh11), by simpa using hsz, ?_⟩
          rw [mixF_succ, hli]
          rw [hxi] at set1
          have : scRu m.size size x = ⟨x.first, x.next, x.op, scaledI m.size size x.value⟩ := by unfold scRu; rw [if_pos hop]
          rw [this]
          exact set1
        · refine W_sr rfl (s_fa E rfl rfl (s_ld E rfl rfl (hrx 2 _ rfl) (s_cmp (c := false) rfl rfl (decide_eq_false hop) (s_nil ?_))))
          refine W_if rfl (fun h => by cases h) (fun _ => W_skip ?_)
          refine W_reg rfl (s_add rfl rfl (by omega) (s_mv rfl (s_nil ?_)))
          refine ⟨m.rules.length - (i + 1), by omega, _, i + 1, u8 rfl rfl rfl rfl rfl rfl rfl rfl, by omega, rfl, hM11, fun b' hb' => ?_⟩
          cases hb'
          refine ⟨cs, ty, hh11, hsz, ?_⟩
          have : scRu m.size size x = x := by unfold scRu; rw [if_neg hop]
          rw [mixF_succ, hli, this]
          have e : updF (mixF (scRu m.size size) (fun i => m.rules.getD i default) i) i x = mixF (scRu m.size size) (fun i => m.rules.getD i default) i := by
            funext j; unfold updF; split
            · rename_i h; subst h; exact hxi.symm
            · rfl
          rw [e]; exact hc
      · have hd := of_decide_eq_false hd
        have hie : i = m.rules.length := by omega
        rw [hie] at hA9
        have em : ∀ e1 e2, (Value.agg #[iV size, .slice p3 m.chars.length e1, .slice p6 m.rules.length e2]) = meV (scaleM m size) p3 p6 e1 e2 := by intro e1 e2; simp [meV, scaleM]
        have hR9 : MeR w9 (scaleM m size) p3 p6 := by
          refine ⟨arr_mix chC_len o3' (fun b hb => (hA8 b hb).mod hM9 (fun h => ?_)), arr_mix ruC_len o6'' hA9, by simp [scaleM]; exact hm.nch, by simp [scaleM]; exact hm.nru⟩
          subst hb
          exact h36 b rfl h
        have callV : ∀ w', Ext w9 w' → Ret Go.Proofs.Tryz.prog 13 #[.agg #[iV size, .slice p3 m.chars.length c3, .slice p6 m.rules.length c6]] w' fun v w'' => v = .bool (validM (scaleM m size)) ∧ Ext w' w'' := fun w' hE => by rw [em]; exact metric_Valid_c (hR9.ext hE)
        have hE49 : Ext w4 w9 := Ext.thenMod hE47 hM79 (by
          rintro k hk (h | h)
          · have := hf3 _ h; omega
          · have := hf6 _ h; omega)
        refine W_n2 4 7 (.pointer (some ⟨w2.heap.size, 0, none⟩)) (.pointer (some ⟨g, 0, none⟩)) rfl rfl fun ρ => ?_
        refine W_seq ?_
        cases h7 : validM (scaleM m size)
        · refine W_sr rfl (s_lda E rfl rfl k3 rfl (s_callx rfl rfl (Ret.eqv (callV _ Mod.refl) (congrArg Value.bool h7)) fun w10 hE10 => (s_not rfl (s_nil ?_))))
          refine W_if rfl (fun _ => ?_) (fun h => by cases h)
          refine W_sr rfl (s_bld rfl (cells := (meC me0 none none 0 0).toArray) (by kernel_rfl) (s_st E (vs := meC me0 none none 0 0) rfl rfl rfl rfl (Ext.heap (hE4.trans (hE49.trans hE10)) hh3) rfl rfl rfl (Nat.le_refl _) (s_as rfl (s_nil ?_))))
          obtain ⟨g1, g2, g3⟩ := err (scaleM m size) 17 w10 (by decide) (hE4.trans (hE49.trans hE10))
          have e : scaleE m size = 17 := by unfold scaleE; rw [h0, h1, h7]; rfl
          exact W_ret ⟨_, resC2 E rfl rfl rfl g1 rfl rfl, by rw [e]; exact g2, g3⟩
        · refine W_sr rfl (s_lda E rfl rfl k3 rfl (s_callx rfl rfl (Ret.eqv (callV _ Mod.refl) (congrArg Value.bool h7)) fun w10 hE10 => (s_not rfl (s_nil ?_))))
          refine W_if rfl (fun h => by cases h) (fun _ => W_skip ?_)
          have hE3x := hE4.trans (hE49.trans hE10)
          have fin := fin_cell (vs := [iV size, .slice p3 m.chars.length c3, .slice p6 m.rules.length c6]) (hE03.trans hE3x) (show w.heap.size ≤ w2.heap.size by have := hE1.size; have := hE2.size; omega) (Ext.heap hE3x hh3) rfl
          refine W_sr rfl (s_lda E rfl rfl (Ext.row hE10 k3) rfl (s_st E (vs := [iV size, .slice p3 m.chars.length c3, .slice p6 m.rules.length c6]) rfl rfl rfl rfl (Ext.heap hE3x hh3) rfl rfl rfl (Nat.le_refl _) (s_as rfl (s_nil ?_))))
          have e : scaleE m size = 0 := by unfold scaleE; rw [h0, h1, h7]; rfl
          refine W_ret ⟨_, resC2 E rfl rfl rfl fin.1 rfl rfl, ?_, ⟨scaleM m size, p3, p6, c3, c6, 0, by show Value.tuple #[.agg #[iV size, .slice p3 m.chars.length c3, .slice p6 m.rules.length c6], iV 0] = .tuple #[meV (scaleM m size) p3 p6 c3 c6, iV 0]; rw [em], ?_, ?_⟩, fin.2⟩
          rotate_left
          · intro a ha; subst ha; have := hf3 a.block rfl; have := hE03.size; have := hE4.size; omega
          · intro a ha; subst ha; have := hf6 a.block rfl; have := hE03.size; have := hE4.size; omega
          rw [e]
          refine ⟨p3, p6, c3, c6, ?_, meR_store (hR9.ext hE10) (Ext.heap hE3x hh3) rfl⟩
          show Value.tuple #[.agg #[iV size, .slice p3 m.chars.length c3, .slice p6 m.rules.length c6], iV 0] = .tuple #[meV (scaleM m size) p3 p6 c3 c6, iV 0]
          rw [em]
end
end Go.Proofs.YthfnijlgmjkedaaGreat
namespace Go.Proofs.YthfnijlgmjkedaaGreat
set_option maxRecDepth 100000
set_option maxHeartbeats 1000000
set_option linter.unusedVariables false
set_option linter.unusedSimpArgs false
open Go Go.Fx Go.Proofs.YthfnijlgmjkedaaGreat.Tab Go.RowKit
/-! ## what Open reads -/
def rd4 (bs : List Int) : Int := s32 (nB (tkB 4 bs))
def tabGo : Nat → List Int → Bool → List Int → List Int × Bool × List Int
  | 0, bs, s, acc => (bs, s, acc)
  | n + 1, bs, s, acc => if s then (bs, s, acc) else tabGo n (rsB 4 bs) (shB 4 bs s) (acc ++ [rd4 bs])
def tabP (bs : List Int) (s : Bool) : List Int × Bool × List Int := tabGo (nB (tkB 2 bs)).toNat (rsB 2 bs) (shB 2 bs s) []
def updT (T : Nat → List Int) (i : Nat) (t : List Int) : Nat → List Int := fun j => if j = i then t else T j
def tabsP : Nat → List Int → Bool → List Int × Bool × (Nat → List Int)
  | 0, bs, s => (bs, s, fun _ => [])
  | i + 1, bs, s => let x := tabsP i bs s; let r := tabP x.1 x.2.1; (r.1, r.2.1, updT x.2.2 i r.2.2)
def atP (t : List Int) (bs : List Int) (s : Bool) : Int × List Int × Bool :=
  if nB (tkB 2 bs) < t.length then (t.getD (nB (tkB 2 bs)).toNat 0, rsB 2 bs, shB 2 bs s) else (0, rsB 2 bs, true)
def chP (T : Nat → List Int) (bs : List Int) (s : Bool) : Ch × List Int × Bool :=
  let a := atP (T 0) (rsB 1 bs) (shB 1 bs s)
  let b := atP (T 1) a.2.1 a.2.2
  let c := atP (T 2) b.2.1 b.2.2
  (⟨nB (tkB 1 bs), a.1, b.1, c.1⟩, c.2.1, c.2.2)
def chGo (T : Nat → List Int) : Nat → List Int → Bool → List Ch → List Int × Bool × List Ch
  | 0, bs, s, acc => (bs, s, acc)
  | n + 1, bs, s, acc => if s then (bs, s, acc) else chGo T n (chP T bs s).2.1 (chP T bs s).2.2 (acc ++ [(chP T bs s).1])
def ruP (bs : List Int) (s : Bool) : Ru × List Int × Bool :=
  let b1 := rsB 1 bs; let s1 := shB 1 bs s
  let b2 := rsB 1 b1; let s2 := shB 1 b1 s1
  let b3 := rsB 1 b2; let s3 := shB 1 b2 s2
  (⟨nB (tkB 1 bs), nB (tkB 1 b1), nB (tkB 1 b2), rd4 b3⟩, rsB 4 b3, shB 4 b3 s3)
def ruGo : Nat → List Int → Bool → List Ru → List Int × Bool × List Ru
  | 0, bs, s, acc => (bs, s, acc)
  | n + 1, bs, s, acc => if s then (bs, s, acc) else ruGo n (ruP bs s).2.1 (ruP bs s).2.2 (acc ++ [(ruP bs s).1])
def headP (b : List Int) : Int × List Int × Bool := (rd4 (rsB 4 b), rsB 4 (rsB 4 b), shB 4 (rsB 4 b) (shB 4 b false))
/-- the metric that is read, and whether there were too few bytes -/
def readM (b : List Int) : Me × Bool :=
  let h := headP b
  let t := tabsP 3 h.2.1 h.2.2
  let c := chGo t.2.2 (nB (tkB 2 t.1)).toNat (rsB 2 t.1) (shB 2 t.1 t.2.1) []
  let r := ruGo (nB (tkB 2 c.1)).toNat (rsB 2 c.1) (shB 2 c.1 c.2.1) []
  (⟨h.1, c.2.2, r.2.2⟩, r.2.1)
def openE (b : List Int) : Int := if !(readM b).2 && (validM (readM b).1 && decide (packM (readM b).1 = b)) then 0 else 30
/-! ## the reader as a chunk -/
theorem RdR.loc {w w' : World} {N r : Nat} {bs : List Int} {s : Bool} (h : ∀ k, k = r ∨ k < N → w'.heap[k]? = w.heap[k]?) (hp : RdR w N r bs s) : RdR w' N r bs s := by
  obtain ⟨⟨p, c, ty, hh, hsl, hle, hne⟩, hN⟩ := hp
  refine ⟨⟨p, c, ty, by rw [h r (.inl rfl)]; exact hh, ?_, hle, hne⟩, hN⟩
  cases p with
  | none => exact hsl
  | some a =>
    intro i x hx
    by_cases h0 : bs = []
    · subst h0; simp at hx
    · have := hne h0 a rfl
      have hb : w'.heap[(a.add i).block]? = w.heap[(a.add i).block]? := h _ (.inr (by rw [add_block]; exact this))
      rw [World.cell?_of_block hb]
      exact hsl i x hx
def rdk (N r : Nat) (bs : List Int) (s : Bool) : Chunk := ⟨fun k => k = r, N, fun w => RdR w N r bs s, fun _ _ h hp => hp.loc h⟩
theorem _root_.Go.Fx.Sep.rd {w0 w : World} {L : List Chunk} (h : Sep w0 w L) {N r : Nat} {bs : List Int} {s : Bool} (i : Nat) (hi : L[i]? = some (rdk N r bs s)) : RdR w N r bs s := h.get i hi
section
variable {P : Program} {L os : List Oper} {K : Fr → World → Prop} {ρ : Fr} {w w0 : World} {d : Option Tmp} {T : TypeId} {pos : String} {af : Array Edge} {C : List Chunk}
/-- a call that reads -/
theorem s_rd (hS : Sep w0 w C) (i : Nat) {N r : Nat} {bs bs' : List Int} {s s' : Bool} (hi : C[i]? = some (rdk N r bs s)) {f : Operand} {xs : Array Operand} {ts : Array TypeId} {g : FuncId} {vs cs : Array Value} {args : List Value} {v : Value}
    (hf : ev ρ f = .func (.func g) vs cs) (ha : vs.toList ++ (xs.toList.map (ev ρ) ++ cs.toList) = args) (hR : Ret P g args.toArray w fun v' w' => v' = v ∧ RdR w' N r bs' s' ∧ Mod (fun b => b = r) w w')
    (h : ∀ w', Sep w0 w' (C.set i (rdk N r bs' s')) → vcs P L K os (put ρ d v) w') : vcs P L K (⟨d, .call { callee := .value f, args := xs, argTypes := ts }, T, pos, af, none⟩ :: os) ρ w :=
  s_callx hf ha hR fun w' ⟨h1, h2⟩ => h w' (hS.upd i hi h2 (rdk N r bs' s') h1 (fun k hk => .inl hk) (show N ≤ w0.heap.size from hS.inp (rdk N r bs s) (List.mem_of_getElem? hi)))
theorem s_rdv (hS : Sep w0 w C) (i : Nat) {N r : Nat} {bs bs' : List Int} {s s' : Bool} (hi : C[i]? = some (rdk N r bs s)) {f : Operand} {xs : Array Operand} {ts : Array TypeId} {g : FuncId} {vs cs : Array Value} {args : List Value} {X : Value → World → Prop}
    (hf : ev ρ f = .func (.func g) vs cs) (ha : vs.toList ++ (xs.toList.map (ev ρ) ++ cs.toList) = args) (hR : Ret P g args.toArray w fun v' w' => X v' w' ∧ RdR w' N r bs' s' ∧ Mod (fun b => b = r) w w')
    (h : ∀ v w', X v w' → Sep w0 w' (C.set i (rdk N r bs' s')) → vcs P L K os (put ρ d v) w') : vcs P L K (⟨d, .call { callee := .value f, args := xs, argTypes := ts }, T, pos, af, none⟩ :: os) ρ w :=
  s_call hf ha hR fun v w' ⟨hX, h1, h2⟩ => h v w' hX (hS.upd i hi h2 (rdk N r bs' s') h1 (fun k hk => .inl hk) (show N ≤ w0.heap.size from hS.inp (rdk N r bs s) (List.mem_of_getElem? hi)))
end
theorem rsB_len (k : Nat) (bs : List Int) : (rsB k bs).length ≤ bs.length := by unfold rsB; split <;> simp
/-! ## the closure -/
theorem RdR.flag {w : World} {N r : Nat} {bs : List Int} {s : Bool} (h : RdR w N r bs s) : w.cell? (Addr.add ⟨r, 0, none⟩ 1) = some (.bool s) := by
  obtain ⟨⟨p, c, ty, hh, _⟩, _⟩ := h
  rw [ad0]; simp [World.cell?, hh]
theorem nB2_bd {bs : List Int} (hb : byt bs) : 0 ≤ nB (tkB 2 bs) ∧ nB (tkB 2 bs) < 65536 := by
  have := nB_bd 2 (tkB 2 bs) (tkB_len 2 bs) (tkB_byt hb)
  rw [show (256 : Int) ^ 2 = 65536 from by decide] at this
  exact this
theorem metric_Open_1_c {w : World} {N r rp gt : Nat} {bs : List Int} {s : Bool} {j : Nat} {v : Value} {t : List Int} (hrp : w.cell? ⟨rp, 0, none⟩ = some (.pointer (some ⟨r, 0, none⟩))) (h : RdR w N r bs s) (hl : bs.length ≤ 1000000) (hb : byt bs)
    (hj : j < 3) (ht : w.cell? (Addr.add ⟨gt, 0, none⟩ j) = some v) (ho : Own w 3 1 v t.length (t.map iV)) (hgr : ¬ gt = r) (hpr : ¬ v.ownBlock = some r) :
    Ret Go.Proofs.Tryz.prog 44 #[iV j, .pointer (some ⟨rp, 0, none⟩), .pointer (some ⟨gt, 0, none⟩)] w fun v w' => v = iV (atP t bs s).1 ∧ RdR w' N r (atP t bs s).2.1 (atP t bs s).2.2 ∧ Mod (fun b => b = r) w w' := by
  obtain ⟨p, cap, rfl, hp, _, hbk⟩ := ho.form
  obtain ⟨len, hlen⟩ : ∃ len, len = t.length := ⟨_, rfl⟩
  rw [← hlen] at ht
  have hpr : ∀ a, p = some a → a.block ≠ r := fun a ha he => hpr (by rw [(hbk a ha).1, he])
  refine enter Go.Proofs.Tryz.func44 rfl rfl rfl ?_
  refine W_sr rfl (s_as rfl (s_nil ?_))
  refine W_seq ?_
  refine W_sr rfl (s_ld E rfl rfl hrp (s_call rfl rfl (metric_Two_c h hl hb) ?_))
  rintro _ w1 ⟨rfl, hR1, hM1⟩
  refine (s_as rfl (s_nil ?_))
  have hbd := nB2_bd hb
  have ht1 : w1.cell? (Addr.add ⟨gt, 0, none⟩ j) = some (.slice p len cap) := hM1.cell ht (by rw [add_block]; exact hgr)
  have ht1' : w1.cell? (Addr.add ⟨gt, 0, none⟩ (j * 1)) = some (.slice p len cap) := by rw [Nat.mul_one]; exact ht1
  have hp1 : SlR w1 p (t.map iV) := SlR.mod hM1 hp hpr
  by_cases hk : nB (tkB 2 bs) < (len : Int)
  · refine W_sr rfl (s_mv rfl (s_mv rfl (s_iaA (i := j) E rfl rfl rfl rfl hj (s_ld E rfl rfl ht1' (s_len E rfl rfl (s_cmp (c := true) rfl rfl (decide_eq_true hk) (s_nil ?_)))))))
    refine W_if rfl (fun _ => ?_) (fun h => by cases h)
    obtain ⟨k, hk0⟩ := Int.eq_ofNat_of_zero_le hbd.1
    have hkl : k < t.length := by omega
    obtain ⟨a, rfl, hcell⟩ := sl_map hp1 hkl
    refine W_sr rfl (s_mv rfl (s_iaA (i := j) E rfl rfl rfl rfl hj (s_ld E rfl rfl ht1' (s_mv rfl (s_ia (i := k) E rfl rfl rfl hk0 (by omega) (s_ld E rfl rfl hcell (s_as rfl (s_nil ?_))))))))
    have e : atP t bs s = (t[k], rsB 2 bs, shB 2 bs s) := by
      unfold atP
      rw [if_pos (by omega), hk0]
      simp [hkl]
    rw [e]
    exact W_ret ⟨_, rfl, rfl, hR1, hM1⟩
  · refine W_sr rfl (s_mv rfl (s_mv rfl (s_iaA (i := j) E rfl rfl rfl rfl hj (s_ld E rfl rfl ht1' (s_len E rfl rfl (s_cmp (c := false) rfl rfl (decide_eq_false hk) (s_nil ?_)))))))
    refine W_if rfl (fun h => by cases h) (fun _ => W_skip ?_)
    have e : atP t bs s = (0, rsB 2 bs, true) := by unfold atP; rw [if_neg (by omega)]
    rw [e]
    obtain ⟨⟨q, c, ty, hh, hsl, hle, hne⟩, hN⟩ := hR1
    have hrp1 : w1.cell? ⟨rp, 0, none⟩ = some (.pointer (some ⟨r, 0, none⟩)) := by
      refine hM1.cell hrp (fun he => ?_)
      have he : rp = r := he
      subst he
      obtain ⟨⟨q', c', ty', hh', _⟩, _⟩ := h
      simp [World.cell?, hh'] at hrp
    refine W_sr rfl (s_ld E rfl rfl hrp1 (s_nc rfl (s_fa E rfl rfl (s_st1 E rfl rfl (ad0 r 1) rfl rfl hh (by simp) (s_nil ?_)))))
    have hM2 : Mod (fun b => b = r) w1 (w1.setRow r #[.slice q (rsB 2 bs).length c, .bool true]) := setRow_mod rfl
    refine W_sr rfl (s_as rfl (s_nil ?_))
    refine W_ret ⟨_, rfl, rfl, ⟨⟨q, c, ty, setRow_heap w1 r _ _ ty (0, 0) hh, ?_, hle, hne⟩, hN⟩, hM1.trans hM2⟩
    refine SlR.keep hM2 hsl (fun hx a ha he => ?_)
    have := hne (fun h0 => hx (by rw [h0]; rfl)) a ha
    omega
end Go.Proofs.YthfnijlgmjkedaaGreat
namespace Go.Proofs.YthfnijlgmjkedaaGreat
set_option maxRecDepth 100000
set_option maxHeartbeats 2000000
set_option linter.unusedVariables false
set_option linter.unusedSimpArgs false
open Go Go.Fx Go.Proofs.YthfnijlgmjkedaaGreat.Tab Go.RowKit
theorem tabGo_ok : ∀ (n : Nat) (bs : List Int) (s : Bool) (acc : List Int), byt bs → byt (tabGo n bs s acc).1 ∧ (tabGo n bs s acc).1.length ≤ bs.length
  | 0, bs, s, acc, h => ⟨h, Nat.le_refl _⟩
  | n + 1, bs, s, acc, h => by
    unfold tabGo
    cases s with
    | true => exact ⟨h, Nat.le_refl _⟩
    | false =>
      have := tabGo_ok n (rsB 4 bs) (shB 4 bs false) (acc ++ [rd4 bs]) (rsB_byt h)
      have h2 := rsB_len 4 bs
      simp only [Bool.false_eq_true, if_false]
      exact ⟨this.1, by have := this.2; omega⟩
theorem tabP_ok {bs : List Int} {s : Bool} (h : byt bs) : byt (tabP bs s).1 ∧ (tabP bs s).1.length ≤ bs.length := by
  have := tabGo_ok (nB (tkB 2 bs)).toNat (rsB 2 bs) (shB 2 bs s) [] (rsB_byt h)
  have h2 := rsB_len 2 bs
  exact ⟨this.1, by have := this.2; unfold tabP; omega⟩
theorem tabsP_ok {bs : List Int} {s : Bool} (h : byt bs) : ∀ i, byt (tabsP i bs s).1 ∧ (tabsP i bs s).1.length ≤ bs.length
  | 0 => ⟨h, Nat.le_refl _⟩
  | i + 1 => by
    have h1 := tabsP_ok (s := s) h i
    have h2 := tabP_ok (s := (tabsP i bs s).2.1) h1.1
    exact ⟨h2.1, Nat.le_trans h2.2 h1.2⟩
theorem tabsP_hi (bs : List Int) (s : Bool) : ∀ i j, i ≤ j → (tabsP i bs s).2.2 j = []
  | 0, j, _ => rfl
  | i + 1, j, h => by
    show updT _ i _ j = []
    unfold updT
    rw [if_neg (by omega)]
    exact tabsP_hi bs s i j (by omega)
theorem updT_same (T : Nat → List Int) (i : Nat) (t : List Int) (h : T i = t) : updT T i t = T := by
  funext j; unfold updT; split
  · rename_i e; rw [e, h]
  · rfl
theorem updT_updT (T : Nat → List Int) (i : Nat) (t u : List Int) : updT (updT T i t) i u = updT T i u := by
  funext j; unfold updT; split <;> rfl
theorem atP_ok {t bs : List Int} {s : Bool} (h : byt bs) : byt (atP t bs s).2.1 ∧ (atP t bs s).2.1.length ≤ bs.length := by
  have h2 := rsB_len 2 bs
  unfold atP
  split
  · exact ⟨rsB_byt h, h2⟩
  · exact ⟨rsB_byt h, h2⟩
theorem chP_ok {T : Nat → List Int} {bs : List Int} {s : Bool} (h : byt bs) : byt (chP T bs s).2.1 ∧ (chP T bs s).2.1.length ≤ bs.length := by
  have h1 := rsB_len 1 bs
  have ha := atP_ok (t := T 0) (s := shB 1 bs s) (rsB_byt (k := 1) h)
  have hb := atP_ok (t := T 1) (s := (atP (T 0) (rsB 1 bs) (shB 1 bs s)).2.2) ha.1
  have hc := atP_ok (t := T 2) (s := (atP (T 1) (atP (T 0) (rsB 1 bs) (shB 1 bs s)).2.1 (atP (T 0) (rsB 1 bs) (shB 1 bs s)).2.2).2.2) hb.1
  simp only [chP]
  exact ⟨hc.1, by have := hc.2; have := hb.2; have := ha.2; omega⟩
theorem chGo_ok (T : Nat → List Int) : ∀ (n : Nat) (bs : List Int) (s : Bool) (acc : List Ch), byt bs → byt (chGo T n bs s acc).1 ∧ (chGo T n bs s acc).1.length ≤ bs.length
  | 0, bs, s, acc, h => ⟨h, Nat.le_refl _⟩
  | n + 1, bs, s, acc, h => by
    unfold chGo
    cases s with
    | true => exact ⟨h, Nat.le_refl _⟩
    | false =>
      have h2 := chP_ok (T := T) (s := false) h
      have := chGo_ok T n _ (chP T bs false).2.2 (acc ++ [(chP T bs false).1]) h2.1
      simp only [Bool.false_eq_true, if_false]
      exact ⟨this.1, by have := this.2; have := h2.2; omega⟩
theorem ruP_ok {bs : List Int} {s : Bool} (h : byt bs) : byt (ruP bs s).2.1 ∧ (ruP bs s).2.1.length ≤ bs.length := by
  have h1 := rsB_len 1 bs
  have h2 := rsB_len 1 (rsB 1 bs)
  have h3 := rsB_len 1 (rsB 1 (rsB 1 bs))
  have h4 := rsB_len 4 (rsB 1 (rsB 1 (rsB 1 bs)))
  have e : (ruP bs s).2.1 = rsB 4 (rsB 1 (rsB 1 (rsB 1 bs))) := rfl
  rw [e]
  exact ⟨rsB_byt (k := 4) (rsB_byt (k := 1) (rsB_byt (k := 1) (rsB_byt (k := 1) h))), by omega⟩
/-- the blocks of Open -/
def opL (g0 r rp gm gt N : Nat) (size : Int) (bs : List Int) (s : Bool) (vc vr : Value) (cs : List Ch) (rs : List Ru) (u v : Nat → Value) (T : Nat → List Int) : List Chunk :=
  [cl g0 [iV 0, .slice none 0 0, .slice none 0 0] 25, rdk N r bs s, cl rp [.pointer (some ⟨r, 0, none⟩)] 68, cl gm [iV size, vc, vr] 25, cl gt [u 0, u 1, u 2] 73,
   ow 3 1 (v 0) (T 0).length ((T 0).map iV), ow 3 1 (v 1) (T 1).length ((T 1).map iV), ow 3 1 (v 2) (T 2).length ((T 2).map iV), ow 50 4 vc cs.length (cs.flatMap chC), ow 45 4 vr rs.length (rs.flatMap ruC)]
def updV (v : Nat → Value) (i : Nat) (x : Value) : Nat → Value := fun j => if j = i then x else v j
section
variable {g0 r rp gm gt N : Nat} {size : Int} {bs : List Int} {s : Bool} {vc vr : Value} {cs : List Ch} {rs : List Ru} {u v : Nat → Value} {T : Nat → List Int} {i : Nat}
theorem opL_own (hi : i < 3) : (opL g0 r rp gm gt N size bs s vc vr cs rs u v T)[5 + i]? = some (ow 3 1 (v i) (T i).length ((T i).map iV)) := by
  have : i = 0 ∨ i = 1 ∨ i = 2 := by omega
  rcases this with rfl | rfl | rfl <;> rfl
theorem opL_cell (hi : i < 3) : ([u 0, u 1, u 2] : List Value)[i * 1]? = some (u i) := by
  have : i = 0 ∨ i = 1 ∨ i = 2 := by omega
  rcases this with rfl | rfl | rfl <;> rfl
theorem opL_app (hi : i < 3) (v' : Value) (x : Int) : (opL g0 r rp gm gt N size bs s vc vr cs rs u v T).set (5 + i) (ow 3 1 v' ((T i).length + 1) ((T i).map iV ++ [iV x])) = opL g0 r rp gm gt N size bs s vc vr cs rs u (updV v i v') (updT T i (T i ++ [x])) := by
  have : i = 0 ∨ i = 1 ∨ i = 2 := by omega
  rcases this with rfl | rfl | rfl <;> simp [opL, updV, updT]
theorem opL_app2 {w0 w : World} {bs' : List Int} {s' : Bool} {acc : List Int} {v' : Value} {x : Int} (hi : i < 3)
    (hS : Sep w0 w (((opL g0 r rp gm gt N size bs s vc vr cs rs u v (updT T i acc)).set 1 (rdk N r bs' s')).set (5 + i) (ow 3 1 v' ((updT T i acc i).length + 1) ((updT T i acc i).map iV ++ [iV x])))) :
    Sep w0 w (opL g0 r rp gm gt N size bs' s' vc vr cs rs u (updV v i v') (updT T i (acc ++ [x]))) ∧ v'.oneCell' = true := by
  have h1 : updT T i acc i = acc := by simp [updT]
  have e := opL_app (g0 := g0) (r := r) (rp := rp) (gm := gm) (gt := gt) (N := N) (size := size) (bs := bs') (s := s') (vc := vc) (vr := vr) (cs := cs) (rs := rs) (u := u) (v := v) (T := updT T i acc) hi v' x
  rw [h1, updT_updT] at e
  rw [h1] at hS
  have hS : Sep w0 w (opL g0 r rp gm gt N size bs' s' vc vr cs rs u (updV v i v') (updT T i (acc ++ [x]))) := by rw [← e]; exact hS
  refine ⟨hS, ?_⟩
  have := (hS.own (5 + i) (opL_own hi)).one
  simpa [updV] using this
theorem opL_st (hi : i < 3) (v' : Value) : ([u 0, u 1, u 2] : List Value).set (i * 1) v' = [updV u i v' 0, updV u i v' 1, updV u i v' 2] := by
  have : i = 0 ∨ i = 1 ∨ i = 2 := by omega
  rcases this with rfl | rfl | rfl <;> rfl
theorem opL_me {w0 w : World} (hS : Sep w0 w (opL g0 r rp gm gt N size bs s vc vr cs rs u v T)) : ∃ p q c d, vc = .slice p cs.length c ∧ vr = .slice q rs.length d ∧ SlR w p (cs.flatMap chC) ∧ SlR w q (rs.flatMap ruC) := by
  obtain ⟨p, c, h1, h2, _⟩ := (hS.own 8 rfl).form
  obtain ⟨q, d, h3, h4, _⟩ := (hS.own 9 rfl).form
  exact ⟨p, q, c, d, h1, h3, h2, h4⟩
end
theorem sl_below {w : World} {p : Option Addr} {l : List Int} (hp : SlR w p (l.map bV)) (h : l ≠ []) : ∀ a, p = some a → a.block < w.heap.size := by
  intro a ha
  subst ha
  cases l with
  | nil => exact absurd rfl h
  | cons x l => exact World.block_lt_of_cell? w a (Row.get0 hp)
end Go.Proofs.YthfnijlgmjkedaaGreat
namespace Go.Proofs.YthfnijlgmjkedaaGreat
set_option maxRecDepth 100000
set_option maxHeartbeats 2000000
set_option linter.unusedVariables false
set_option linter.unusedSimpArgs false
open Go Go.Fx Go.Proofs.YthfnijlgmjkedaaGreat.Tab Go.RowKit
noncomputable def openRest2 : Code := match Go.Proofs.Tryz.f15.body with
  | some (.seq _ (.seq _ (.seq _ (.seq _ (.seq _ (.seq _ (.seq _ (.seq _ y)))))))) => y
  | _ => .skip
noncomputable def openErr : Code := match openRest2 with
  | .seq _ (.seq (.seq _ (.cond _ y _)) _) => y
  | _ => .skip
section
variable {w : World}
theorem packM_len {m : Me} (h : validM m = true) : (packM m).length ≤ 1000100 := by
  have hv := valid_parts h
  have h1 := tabsB_len m 3 (by omega)
  have h2 := flat_len_le (chBytes m) 7 (chBytes_len m) m.chars
  have h3 := flat_len_le ruBytes 7 (fun r => ruBytes_len r) m.rules
  simp only [packM, bodyM, headB, List.length_append]
  have e1 : magicB.length = 4 := rfl
  have e2 : ∀ x, (bytes4 x).length = 4 := fun _ => rfl
  have e3 : ∀ x, (bytes2 x).length = 2 := fun _ => rfl
  rw [e1, e2, e2, e3, e3]
  omega
theorem open_rest2 {p : Option Addr} {n c : Nat} {b : List Int} {g0 r rp gm gt : Nat} {size : Int} {vc : Value} {cs : List Ch} {v : Nat → Value} {T : Nat → List Int} {bs0 : List Int} {s0 : Bool} {ρ : Fr} {w1 : World} (hn : n = b.length) (hl : n ≤ 1000000) (hp : SlR w p (b.map bV))
    (hread : readM b = (⟨size, cs, (ruGo (nB (tkB 2 bs0)).toNat (rsB 2 bs0) (shB 2 bs0 s0) []).2.2⟩, (ruGo (nB (tkB 2 bs0)).toNat (rsB 2 bs0) (shB 2 bs0 s0) []).2.1)) (htb : byt bs0) (htl : bs0.length ≤ 1000000) (hcs : cs.length ≤ 65536)
    (hS : Sep w w1 (opL g0 r rp gm gt w.heap.size size bs0 s0 vc (.slice none 0 0) cs [] v v T))
    (q0 : ρ 0 = .slice p n c) (q2 : ρ 2 = .pointer (some ⟨g0, 0, none⟩)) (q4 : ρ 4 = .pointer (some ⟨rp, 0, none⟩)) (q5 : ρ 5 = .pointer (some ⟨gm, 0, none⟩)) (q6 : ρ 6 = .pointer (some ⟨gt, 0, none⟩)) :
    W Go.Proofs.Tryz.prog Go.Proofs.Tryz.f15.ntmps openRest2 (FinC Go.Proofs.Tryz.prog Go.Proofs.Tryz.f15 fun v w' => Ans w' v (readM b).1 (openE b) ∧ Ext w w') ρ w1 := by
  rw [u5 q0 q2 q4 q5 q6]
  unfold openRest2
  refine W_sk fun K hK => ?_
  have hbd := nB2_bd htb
  obtain ⟨cnt, hcnt⟩ := Int.eq_ofNat_of_zero_le hbd.1
  have hl2 := rsB_len 2 bs0
  have H : ∀ (ρ : Fr) w' bs s vr rs, ruGo cnt (rsB 2 bs0) (shB 2 bs0 s0) [] = (bs, s, rs) → rs.length ≤ 65536 → Sep w w' (opL g0 r rp gm gt w.heap.size size bs s vc vr cs rs v v T) → ρ 0 = .slice p n c → ρ 2 = .pointer (some ⟨g0, 0, none⟩) → ρ 4 = .pointer (some ⟨rp, 0, none⟩) → ρ 5 = .pointer (some ⟨gm, 0, none⟩) → K ρ w' := by
    intro ρ w2 bs s vr rs hru hrl hS q0 q2 q4 q5
    rw [u4 q0 q2 q4 q5]
    refine hK _ _ ?_
    have hrd : readM b = (⟨size, cs, rs⟩, s) := by rw [hread, hcnt, Int.toNat_natCast, hru]
    obtain ⟨m, hm⟩ : ∃ m : Me, m = ⟨size, cs, rs⟩ := ⟨_, rfl⟩
    obtain ⟨pc, pr, cc, cr, rfl, rfl, hsc, hsr⟩ := opL_me hS
    have hmr : ∀ w', Ext w2 w' → MeR w' m pc pr := fun w' h => by subst hm; exact ⟨Ext.sl h hsc, Ext.sl h hsr, by show cs.length ≤ _; omega, by show rs.length ≤ _; omega⟩
    have hrow : ∀ w', Ext w2 w' → Row w' ⟨gm, 0, none⟩ (meC m pc pr cc cr) := fun w' h => by subst hm; exact Ext.row h (hS.row 3 rfl)
    have err : ∀ w3 (Q : Post), (∀ ρ w3, FinC Go.Proofs.Tryz.prog Go.Proofs.Tryz.f15 (fun v w' => Ans w' v (readM b).1 (openE b) ∧ Ext w w') .ret ρ w3 → Q .ret ρ w3) → openE b = 30 → Ext w2 w3 → ∀ ρ : Fr, ρ 2 = .pointer (some ⟨g0, 0, none⟩) → W Go.Proofs.Tryz.prog Go.Proofs.Tryz.f15.ntmps openErr Q ρ w3 := by
      intro w3 Q hQ he hE ρ q2
      rw [u1 q2]
      unfold openErr
      have hS := hS.ext_ hE
      refine W_sr rfl (s_bld rfl (cells := (meC me0 none none 0 0).toArray) (by kernel_rfl) (s_stS hS 0 E (us := meC me0 none none 0 0) rfl rfl rfl rfl rfl rfl rfl rfl rfl rfl fun w4 hS => (s_as rfl (s_nil ?_))))
      exact W_ret (hQ _ _ ⟨_, resC2 E rfl rfl rfl (hS.row 0 rfl) rfl rfl, by rw [he]; exact ans_err (e := 30) (by decide), hS.ext⟩)
    have eE : openE b = if !s && (validM m && decide (packM m = b)) then 0 else 30 := by unfold openE; rw [hrd, ← hm]
    refine W_seq ?_
    cases hs : s
    case true =>
      subst hs
      refine W_sr rfl (s_ld E rfl rfl (hS.cell0 2 rfl rfl) (s_nc rfl (s_fa E rfl rfl (s_ld E rfl rfl (hS.rd 1 rfl).flag (s_mv rfl (s_g0 rfl (s_g0 rfl (s_g0 rfl (s_pk rfl (s_mv rfl (s_g0 rfl (s_g0 rfl (s_g0 rfl (s_g0 rfl (s_g0 rfl (s_pk rfl (s_nil ?_)))))))))))))))))
      refine W_if rfl (fun _ => ?_) (fun h => by cases h)
      refine err _ ?_ ?_ eE Mod.refl ?_ ?_
      · exact fun _ _ h => h
      · rfl
    subst hs
    cases hv : validM m
    · refine W_sr rfl (s_ld E rfl rfl (hS.cell0 2 rfl rfl) (s_nc rfl (s_fa E rfl rfl (s_ld E rfl rfl (hS.rd 1 rfl).flag (s_mv rfl (s_g1 rfl (s_lda (xs := meC m pc pr cc cr) E rfl rfl (hrow _ Mod.refl) rfl (s_g1 rfl (s_callx rfl rfl (Ret.eqv (metric_Valid_c (hmr _ Mod.refl)) (congrArg Value.bool hv)) fun w3 hE3 => (s_g1 rfl (s_not rfl (s_pk rfl (s_mv rfl (s_g0 rfl (s_g0 rfl (s_g0 rfl (s_g0 rfl (s_g0 rfl (s_pk rfl (s_nil ?_))))))))))))))))))))
      refine W_if rfl (fun _ => ?_) (fun h => by cases h)
      have e15 : openE b = 30 := by rw [eE, hv]; rfl
      refine err _ ?_ ?_ e15 hE3 ?_ ?_
      · exact fun _ _ h => h
      · rfl
    have hvp := valid_parts hv
    refine W_sr rfl (s_ld E rfl rfl (hS.cell0 2 rfl rfl) (s_nc rfl (s_fa E rfl rfl (s_ld E rfl rfl (hS.rd 1 rfl).flag (s_mv rfl (s_g1 rfl (s_lda (xs := meC m pc pr cc cr) E rfl rfl (hrow _ Mod.refl) rfl (s_g1 rfl (s_callx rfl rfl (Ret.eqv (metric_Valid_c (hmr _ Mod.refl)) (congrArg Value.bool hv)) fun w3 hE3 => (s_g1 rfl (s_not rfl (s_pk rfl (s_mv rfl (s_g1 rfl (s_lda (xs := meC m pc pr cc cr) E rfl rfl (hrow _ hE3) rfl (s_g1 rfl (s_call rfl rfl (metric_pack_c (hmr _ hE3) (by omega) (by omega)) ?_)))))))))))))))))
    rintro _ w4 ⟨⟨pp, pcc, rfl, hpl, hpp, _, _⟩, hE4⟩
    have hE24 := hE3.trans hE4
    have hpk : (packM m).length ≤ 1000100 := packM_len hv
    have hdec : decide (packM m = b) = decide (packM m = b) := rfl
    cases hq : decide (packM m = b)
    · refine (s_g1 rfl (s_mv rfl (s_g1 rfl (s_callx rfl rfl (Ret.eqv (slices_Equal_byte_c rfl hn (by omega) (by omega) hpp (Ext.sl (hS.ext.trans hE24) hp)) (congrArg Value.bool hq)) fun w5 hE5 => (s_g1 rfl (s_not rfl (s_pk rfl (s_nil ?_))))))))
      refine W_if rfl (fun _ => ?_) (fun h => by cases h)
      have e15 : openE b = 30 := by rw [eE, hv, hq]; rfl
      refine err _ ?_ ?_ e15 (hE24.trans hE5) ?_ ?_
      · exact fun _ _ h => h
      · rfl
    · refine (s_g1 rfl (s_mv rfl (s_g1 rfl (s_callx rfl rfl (Ret.eqv (slices_Equal_byte_c rfl hn (by omega) (by omega) hpp (Ext.sl (hS.ext.trans hE24) hp)) (congrArg Value.bool hq)) fun w5 hE5 => (s_g1 rfl (s_not rfl (s_pk rfl (s_nil ?_))))))))
      refine W_if rfl (fun h => by cases h) (fun _ => W_skip ?_)
      have e0 : openE b = 0 := by rw [eE, hv, hq]; rfl
      have hE25 := hE24.trans hE5
      have hS := hS.ext_ hE25
      refine W_sr rfl (s_lda (xs := meC m pc pr cc cr) E rfl rfl (hrow _ hE25) rfl (s_stS hS 0 E (us := meC m pc pr cc cr) rfl rfl rfl rfl rfl rfl rfl rfl rfl rfl fun w6 hS => (s_as rfl (s_nil ?_))))
      have hfin : MeR w6 m pc pr := by
        subst hm
        exact ⟨Own.slr (hS.own 8 rfl), Own.slr (hS.own 9 rfl), by show cs.length ≤ _; omega, by show rs.length ≤ _; omega⟩
      exact W_ret ⟨_, resC2 E rfl rfl rfl (hS.row 0 rfl) rfl rfl, by rw [e0, hrd]; exact ⟨pc, pr, cc, cr, by subst hm; rfl, by subst hm; exact hfin⟩, hS.ext⟩
  refine W_sr rfl (s_ld E rfl rfl (hS.cell0 2 rfl rfl) (s_rd hS 1 rfl rfl rfl (metric_Two_c (hS.rd 1 rfl) (by omega) htb) fun w2 hS => (s_mv rfl (s_nil ?_))))
  refine W_block ?_
  refine W_loop (fun m ρ w' => ∃ ρ' j bs s acc vr, ρ = upd (upd (upd (upd (upd (upd (upd ρ' 0 (.slice p n c)) 2 (.pointer (some ⟨g0, 0, none⟩))) 4 (.pointer (some ⟨rp, 0, none⟩))) 5 (.pointer (some ⟨gm, 0, none⟩))) 6 (.pointer (some ⟨gt, 0, none⟩))) 70 (iV (cnt : Nat))) 71 (iV (j : Nat)) ∧ j ≤ cnt ∧ m = cnt - j ∧
      byt bs ∧ bs.length ≤ 1000000 ∧ acc.length ≤ j ∧ ruGo (cnt - j) bs s acc = ruGo cnt (rsB 2 bs0) (shB 2 bs0 s0) [] ∧ Sep w w' (opL g0 r rp gm gt w.heap.size size bs s vc vr cs acc v v T)) cnt
    ⟨_, 0, rsB 2 bs0, shB 2 bs0 s0, [], .slice none 0 0, u7 rfl rfl rfl rfl rfl (congrArg iV hcnt) rfl, by omega, rfl, rsB_byt htb, by omega, by simp, rfl, hS⟩ ?_
  clear hS
  rintro m _ w3 ⟨ρ, j, bs, s, acc, vr, rfl, hj, rfl, hbs, hbl, hacc, hgo, hS⟩
  refine W_sr rfl (s_lss rfl rfl (s_nil ?_))
  refine W_seq ?_
  refine W_if rfl (fun hd => W_skip ?_) (fun hd => W_exit ?_)
  · have hd := of_decide_eq_true hd
    refine W_seq ?_
    refine W_block ?_
    refine W_seq ?_
    refine W_sr rfl (s_ld E rfl rfl (hS.cell0 2 rfl rfl) (s_nc rfl (s_fa E rfl rfl (s_ld E rfl rfl (hS.rd 1 rfl).flag (s_nil ?_)))))
    refine W_if rfl (fun he => W_exit ?_) (fun he => W_skip ?_)
    · subst he
      refine H _ _ bs true vr acc ?_ (by omega) hS rfl rfl rfl rfl
      obtain ⟨k, hk⟩ : ∃ k, cnt - j = k + 1 := ⟨cnt - j - 1, by omega⟩
      rw [← hgo, hk]; rfl
    · subst he
      obtain ⟨b1, hb1e⟩ : ∃ x, x = rsB 1 bs := ⟨_, rfl⟩
      obtain ⟨b2, hb2e⟩ : ∃ x, x = rsB 1 b1 := ⟨_, rfl⟩
      obtain ⟨b3, hb3e⟩ : ∃ x, x = rsB 1 b2 := ⟨_, rfl⟩
      obtain ⟨b4, hb4e⟩ : ∃ x, x = rsB 4 b3 := ⟨_, rfl⟩
      have hb1 : byt b1 := by rw [hb1e]; exact rsB_byt hbs
      have hb2 : byt b2 := by rw [hb2e]; exact rsB_byt hb1
      have hb3 : byt b3 := by rw [hb3e]; exact rsB_byt hb2
      have hb4 : byt b4 := by rw [hb4e]; exact rsB_byt hb3
      have l1 := rsB_len 1 bs
      have l2 := rsB_len 1 b1
      have hl1 : (rsB 1 bs).length ≤ 1000000 := by omega
      have l3 := rsB_len 1 b2
      have l4 := rsB_len 4 b3
      rw [← hb1e] at l1; rw [← hb2e] at l2; rw [← hb3e] at l3; rw [← hb4e] at l4
      refine W_sk fun K2 hK2 => ?_
      have H2 : ∀ (ρ : Fr) w' gx, Sep w w' (opL g0 r rp gm gt w.heap.size size b2 (shB 1 b1 (shB 1 bs false)) vc vr cs acc v v T ++ [cl gx [iV (nB (tkB 1 bs)), iV (nB (tkB 1 b1)), iV 0, iV 0] 45]) → ρ 0 = .slice p n c → ρ 2 = .pointer (some ⟨g0, 0, none⟩) → ρ 4 = .pointer (some ⟨rp, 0, none⟩) → ρ 5 = .pointer (some ⟨gm, 0, none⟩) → ρ 6 = .pointer (some ⟨gt, 0, none⟩) → ρ 10 = .pointer (some ⟨gx, 0, none⟩) → ρ 70 = iV cnt → ρ 71 = iV j → K2 ρ w' := by
        intro ρ w4 gx hS q0 q2 q4 q5 q6 q10 q70 q71
        rw [u8 q0 q2 q4 q5 q6 q10 q70 q71]
        refine hK2 _ _ ?_
        refine W_sr rfl (s_ld E rfl rfl (hS.cell0 2 rfl rfl) (s_rd hS 1 rfl rfl rfl (metric_One_c (hS.rd 1 rfl) (by omega) hb2) fun w5 hS => (s_fa E rfl rfl (s_st1S hS 10 E rfl rfl rfl (ad0 gx 2) rfl rfl (show 2 < 4 by decide) rfl fun w6 hS => (s_nil ?_)))))
        rw [← hb3e] at hS
        refine W_sr rfl (s_ld E rfl rfl (hS.cell0 2 rfl rfl) (s_rd hS 1 rfl rfl rfl (metric_Four_c (hS.rd 1 rfl) (by omega) hb3) fun w7 hS => (s_fa E rfl rfl (s_st1S hS 10 E rfl rfl rfl (ad0 gx 3) rfl rfl (show 3 < 4 by decide) rfl fun w8 hS => (s_nil ?_)))))
        rw [← hb4e] at hS
        obtain ⟨x, hx⟩ : ∃ x : Ru, x = ⟨nB (tkB 1 bs), nB (tkB 1 b1), nB (tkB 1 b2), rd4 b3⟩ := ⟨_, rfl⟩
        have hS : Sep w w8 (opL g0 r rp gm gt w.heap.size size b4 (shB 4 b3 (shB 1 b2 (shB 1 b1 (shB 1 bs false)))) vc vr cs acc v v T ++ [cl gx (ruC x) 45]) := by subst hx; exact hS
        refine W_n8 0 2 4 5 6 10 70 71 (.slice p n c) (.pointer (some ⟨g0, 0, none⟩)) (.pointer (some ⟨rp, 0, none⟩)) (.pointer (some ⟨gm, 0, none⟩)) (.pointer (some ⟨gt, 0, none⟩)) (.pointer (some ⟨gx, 0, none⟩)) (iV cnt) (iV j) rfl rfl rfl rfl rfl rfl rfl rfl fun ρ => ?_
        refine W_reg rfl (s_fa E rfl rfl (s_ld E rfl rfl (hS.cell 3 rfl rfl) (s_lda (xs := ruC x) E rfl rfl (hS.row 10 rfl) rfl (s_bsA E rfl rfl rfl rfl rfl (cells := (ruC x).toArray) (by kernel_rfl) fun w13 hE13 hh13 hs13 => have hS := hS.ext_ hE13; (s_apS hS 9 E rfl rfl rfl rfl rfl rfl rfl (row_heap hh13) rfl rfl (by omega) fun v14 w14 hS => have ho := (hS.own 9 rfl).one; (s_fa E rfl rfl (s_st1S hS 3 E rfl rfl rfl (ad0 gm 2) rfl ho (show 2 < 3 by decide) rfl fun w15 hS => (s_nil ?_))))))))
        have hS : Sep w w15 (opL g0 r rp gm gt w.heap.size size b4 (shB 4 b3 (shB 1 b2 (shB 1 b1 (shB 1 bs false)))) vc v14 cs (acc ++ [x]) v v T) := by
          have := hS.take 10
          unfold opL
          rw [List.length_append, List.flatMap_append]
          exact this
        refine W_reg rfl (s_add rfl rfl (by omega) (s_mv rfl (s_nil ?_)))
        refine ⟨cnt - (j + 1), by omega, _, j + 1, b4, _, acc ++ [x], v14, u7 rfl rfl rfl rfl rfl rfl rfl, by omega, rfl, hb4, by omega, by rw [List.length_append]; simp; omega, ?_, hS⟩
        rw [← hgo, show cnt - j = cnt - (j + 1) + 1 by omega]
        subst hx
        simp only [ruGo, ruP, ← hb1e, ← hb2e, ← hb3e, ← hb4e, Bool.false_eq_true, if_false]
      have hS := hS.drew
      refine W_d (fun w' => w'.cell? ⟨rp, 0, none⟩ = some (.pointer (some ⟨r, 0, none⟩))) [] orders (D_take 0 rfl rfl (by kernel_rfl) rfl (fun _ hs => r_ld E rfl rfl hs) (hS.cell0 2 rfl rfl) (D_take 2 rfl rfl (by kernel_rfl) rfl (fun _ hs => r_ld E rfl rfl hs) (hS.cell0 2 rfl rfl) (D_two 1 5 rfl (by kernel_rfl) rfl rfl (s_rd hS 1 rfl rfl rfl (metric_One_c (hS.rd 1 rfl) hbl hbs) fun w4 hS => have hS : Sep _ _ _ := hS; (s_nil ⟨(hS.cell0 2 rfl rfl), (D_two 3 5 rfl (by kernel_rfl) rfl rfl (s_rd hS 1 rfl rfl rfl (metric_One_c (hS.rd 1 rfl) hl1 (hb1e ▸ hb1)) fun w5 hS => (s_nil ⟨(hS.cell0 2 rfl rfl), (D_pure 4 rfl rfl (by kernel_rfl) rfl (fun _ => r_bld rfl (cells := #[iV (nB (tkB 1 bs)), iV (nB (tkB 1 (rsB 1 bs))), iV 0, iV 0]) (by kernel_rfl)) (fun _ => (hS.cell0 2 rfl rfl)) (D_one 5 rfl (by kernel_rfl) rfl (s_alS hS E rfl rfl fun w6 gx hS => (s_nil ⟨(hS.cell0 2 rfl rfl), (D_one 6 rfl (by kernel_rfl) rfl (s_stS hS 10 E (us := [iV (nB (tkB 1 bs)), iV (nB (tkB 1 (rsB 1 bs))), iV 0, iV 0]) rfl rfl rfl rfl rfl rfl rfl rfl rfl rfl fun w7 hS => (s_nil ⟨(hS.cell0 2 rfl rfl), (D_done (by kernel_rfl) ?_)⟩)))⟩))))⟩)) (s_alS hS E rfl rfl fun w6 gx hS => (s_nil ⟨(hS.cell0 2 rfl rfl), (D_one 3 rfl (by kernel_rfl) rfl (s_rd hS 1 rfl rfl rfl (metric_One_c (hS.rd 1 rfl) hl1 (hb1e ▸ hb1)) fun w5 hS => (s_nil ⟨(hS.cell0 2 rfl rfl), (D_pure 4 rfl rfl (by kernel_rfl) rfl (fun _ => r_bld rfl (cells := #[iV (nB (tkB 1 bs)), iV (nB (tkB 1 (rsB 1 bs))), iV 0, iV 0]) (by kernel_rfl)) (fun _ => (hS.cell0 2 rfl rfl)) (D_one 6 rfl (by kernel_rfl) rfl (s_stS hS 10 E (us := [iV (nB (tkB 1 bs)), iV (nB (tkB 1 (rsB 1 bs))), iV 0, iV 0]) rfl rfl rfl rfl rfl rfl rfl rfl rfl rfl fun w7 hS => (s_nil ⟨(hS.cell0 2 rfl rfl), (D_done (by kernel_rfl) ?_)⟩))))⟩)))⟩)))⟩)) (s_alS hS E rfl rfl fun w6 gx hS => (s_nil ⟨(hS.cell0 2 rfl rfl), (D_one 1 rfl (by kernel_rfl) rfl (s_rd hS 1 rfl rfl rfl (metric_One_c (hS.rd 1 rfl) hbl hbs) fun w4 hS => have hS : Sep _ _ _ := hS; (s_nil ⟨(hS.cell0 2 rfl rfl), (D_one 3 rfl (by kernel_rfl) rfl (s_rd hS 1 rfl rfl rfl (metric_One_c (hS.rd 1 rfl) hl1 (hb1e ▸ hb1)) fun w5 hS => (s_nil ⟨(hS.cell0 2 rfl rfl), (D_pure 4 rfl rfl (by kernel_rfl) rfl (fun _ => r_bld rfl (cells := #[iV (nB (tkB 1 bs)), iV (nB (tkB 1 (rsB 1 bs))), iV 0, iV 0]) (by kernel_rfl)) (fun _ => (hS.cell0 2 rfl rfl)) (D_one 6 rfl (by kernel_rfl) rfl (s_stS hS 10 E (us := [iV (nB (tkB 1 bs)), iV (nB (tkB 1 (rsB 1 bs))), iV 0, iV 0]) rfl rfl rfl rfl rfl rfl rfl rfl rfl rfl fun w7 hS => (s_nil ⟨(hS.cell0 2 rfl rfl), (D_done (by kernel_rfl) ?_)⟩))))⟩)))⟩)))⟩)))))
      all_goals
        rw [← hb1e, ← hb2e] at hS
        exact H2 _ _ _ hS rfl rfl rfl rfl rfl rfl rfl rfl
  · have hd := of_decide_eq_false hd
    refine H _ _ bs s vr acc ?_ (by omega) hS rfl rfl rfl rfl
    rw [← hgo, show cnt - j = 0 by omega]; rfl
end
end Go.Proofs.YthfnijlgmjkedaaGreat
namespace Go.Proofs.YthfnijlgmjkedaaGreat
set_option maxRecDepth 100000
set_option maxHeartbeats 2000000
set_option linter.unusedVariables false
set_option linter.unusedSimpArgs false
open Go Go.Fx Go.Proofs.YthfnijlgmjkedaaGreat.Tab Go.RowKit
noncomputable def openRest : Code := match Go.Proofs.Tryz.f15.body with
  | some (.seq _ (.seq _ (.seq _ (.seq _ (.seq _ (.seq _ y)))))) => y
  | _ => .skip
section
variable {w : World}
theorem open_rest {p : Option Addr} {n c : Nat} {b : List Int} {g0 r rp gm gt : Nat} {v : Nat → Value} {h t : Int × List Int × Bool} {T : Nat → List Int} {ρ : Fr} {w1 : World} (hn : n = b.length) (hl : n ≤ 1000000) (hp : SlR w p (b.map bV))
    (ht : tabsP 3 h.2.1 h.2.2 = (t.2.1, t.2.2, T)) (hh : h = headP b) (htb : byt t.2.1) (htl : t.2.1.length ≤ 1000000) (hS : Sep w w1 (opL g0 r rp gm gt w.heap.size h.1 t.2.1 t.2.2 (.slice none 0 0) (.slice none 0 0) [] [] v v T))
    (q0 : ρ 0 = .slice p n c) (q2 : ρ 2 = .pointer (some ⟨g0, 0, none⟩)) (q4 : ρ 4 = .pointer (some ⟨rp, 0, none⟩)) (q5 : ρ 5 = .pointer (some ⟨gm, 0, none⟩)) (q6 : ρ 6 = .pointer (some ⟨gt, 0, none⟩)) :
    W Go.Proofs.Tryz.prog Go.Proofs.Tryz.f15.ntmps openRest (FinC Go.Proofs.Tryz.prog Go.Proofs.Tryz.f15 fun v w' => Ans w' v (readM b).1 (openE b) ∧ Ext w w') ρ w1 := by
  obtain ⟨bs0, hbs0⟩ : ∃ x, x = t.2.1 := ⟨_, rfl⟩
  obtain ⟨s0, hs0⟩ : ∃ x, x = t.2.2 := ⟨_, rfl⟩
  rw [← hbs0] at htb htl
  rw [← hbs0, ← hs0] at ht hS
  have hread : readM b = (let c := chGo T (nB (tkB 2 bs0)).toNat (rsB 2 bs0) (shB 2 bs0 s0) []
      let r := ruGo (nB (tkB 2 c.1)).toNat (rsB 2 c.1) (shB 2 c.1 c.2.1) []
      (⟨h.1, c.2.2, r.2.2⟩, r.2.1)) := by
    unfold readM
    rw [← hh]
    simp only [ht]
  rw [u5 q0 q2 q4 q5 q6]
  unfold openRest
  refine W_sr rfl (s_mf (vs := []) (us := [.pointer (some ⟨rp, 0, none⟩), .pointer (some ⟨gt, 0, none⟩)]) rfl rfl (s_as rfl (s_nil ?_)))
  refine W_n6 0 2 4 5 6 8 (.slice p n c) (.pointer (some ⟨g0, 0, none⟩)) (.pointer (some ⟨rp, 0, none⟩)) (.pointer (some ⟨gm, 0, none⟩)) (.pointer (some ⟨gt, 0, none⟩)) (.func (.func 44) #[] #[.pointer (some ⟨rp, 0, none⟩), .pointer (some ⟨gt, 0, none⟩)]) rfl rfl rfl rfl rfl rfl fun ρ => ?_
  refine W_sk fun K hK => ?_
  have hbd := nB2_bd htb
  obtain ⟨cnt, hcnt⟩ := Int.eq_ofNat_of_zero_le hbd.1
  have hl2 := rsB_len 2 bs0
  have H : ∀ (ρ : Fr) w' bs s vc cs, chGo T cnt (rsB 2 bs0) (shB 2 bs0 s0) [] = (bs, s, cs) → byt bs → bs.length ≤ 1000000 → cs.length ≤ 65536 → Sep w w' (opL g0 r rp gm gt w.heap.size h.1 bs s vc (.slice none 0 0) cs [] v v T) → ρ 0 = .slice p n c → ρ 2 = .pointer (some ⟨g0, 0, none⟩) → ρ 4 = .pointer (some ⟨rp, 0, none⟩) → ρ 5 = .pointer (some ⟨gm, 0, none⟩) → ρ 6 = .pointer (some ⟨gt, 0, none⟩) → K ρ w' := by
    intro ρ w' bs s vc cs hch hbs hbl hcl hS q0 q2 q4 q5 q6
    refine hK _ _ (open_rest2 hn hl hp ?_ hbs hbl hcl hS q0 q2 q4 q5 q6)
    rw [hread, hcnt, Int.toNat_natCast]
    simp only [hch]
  refine W_sr rfl (s_ld E rfl rfl (hS.cell0 2 rfl rfl) (s_rd hS 1 rfl rfl rfl (metric_Two_c (hS.rd 1 rfl) (by omega) htb) fun w2 hS => (s_mv rfl (s_nil ?_))))
  refine W_block ?_
  refine W_loop (fun m ρ w' => ∃ ρ' j bs s acc vc, ρ = upd (upd (upd (upd (upd (upd (upd (upd ρ' 0 (.slice p n c)) 2 (.pointer (some ⟨g0, 0, none⟩))) 4 (.pointer (some ⟨rp, 0, none⟩))) 5 (.pointer (some ⟨gm, 0, none⟩))) 6 (.pointer (some ⟨gt, 0, none⟩))) 8 (.func (.func 44) #[] #[.pointer (some ⟨rp, 0, none⟩), .pointer (some ⟨gt, 0, none⟩)])) 43 (iV (cnt : Nat))) 44 (iV (j : Nat)) ∧ j ≤ cnt ∧ m = cnt - j ∧
      byt bs ∧ bs.length ≤ 1000000 ∧ acc.length ≤ j ∧ chGo T (cnt - j) bs s acc = chGo T cnt (rsB 2 bs0) (shB 2 bs0 s0) [] ∧ Sep w w' (opL g0 r rp gm gt w.heap.size h.1 bs s vc (.slice none 0 0) acc [] v v T)) cnt
    ⟨_, 0, rsB 2 bs0, shB 2 bs0 s0, [], .slice none 0 0, u8 rfl rfl rfl rfl rfl rfl (congrArg iV hcnt) rfl, by omega, rfl, rsB_byt htb, by omega, by simp, rfl, hS⟩ ?_
  clear hS
  rintro m _ w3 ⟨ρ, j, bs, s, acc, vc, rfl, hj, rfl, hbs, hbl, hacc, hgo, hS⟩
  refine W_sr rfl (s_lss rfl rfl (s_nil ?_))
  refine W_seq ?_
  refine W_if rfl (fun hd => W_skip ?_) (fun hd => W_exit ?_)
  · have hd := of_decide_eq_true hd
    refine W_seq ?_
    refine W_block ?_
    refine W_seq ?_
    refine W_sr rfl (s_ld E rfl rfl (hS.cell0 2 rfl rfl) (s_nc rfl (s_fa E rfl rfl (s_ld E rfl rfl (hS.rd 1 rfl).flag (s_nil ?_)))))
    refine W_if rfl (fun he => W_exit ?_) (fun he => W_skip ?_)
    · subst he
      refine H _ _ bs true vc acc ?_ hbs hbl (by omega) hS rfl rfl rfl rfl rfl
      obtain ⟨k, hk⟩ : ∃ k, cnt - j = k + 1 := ⟨cnt - j - 1, by omega⟩
      rw [← hgo, hk]; rfl
    · subst he
      obtain ⟨x, hx⟩ : ∃ x, chP T bs false = x := ⟨_, rfl⟩
      have hxok := chP_ok (T := T) (s := false) hbs
      have hl1 := rsB_len 1 bs
      have hb1 : byt (rsB 1 bs) := rsB_byt hbs
      obtain ⟨A, hA⟩ : ∃ A, A = atP (T 0) (rsB 1 bs) (shB 1 bs false) := ⟨_, rfl⟩
      obtain ⟨B, hB⟩ : ∃ B, B = atP (T 1) A.2.1 A.2.2 := ⟨_, rfl⟩
      obtain ⟨D, hD⟩ : ∃ D, D = atP (T 2) B.2.1 B.2.2 := ⟨_, rfl⟩
      have okA := atP_ok (t := T 0) (s := shB 1 bs false) hb1
      rw [← hA] at okA
      have okB := atP_ok (t := T 1) (s := A.2.2) okA.1
      rw [← hB] at okB
      have okD := atP_ok (t := T 2) (s := B.2.2) okB.1
      rw [← hD] at okD
      have hxe : chP T bs false = (⟨nB (tkB 1 bs), A.1, B.1, D.1⟩, D.2.1, D.2.2) := by unfold chP; rw [hD, hB, hA]
      refine W_sr rfl (s_ld E rfl rfl (hS.cell0 2 rfl rfl) (s_rd hS 1 rfl rfl rfl (metric_One_c (hS.rd 1 rfl) hbl hbs) fun w4 hS => (s_bld rfl (cells := #[iV (nB (tkB 1 bs)), iV 0, iV 0, iV 0]) (by kernel_rfl) (s_alS hS E rfl rfl fun w5 gc hS => (s_stS hS 10 E (us := [iV (nB (tkB 1 bs)), iV 0, iV 0, iV 0]) rfl rfl rfl rfl rfl rfl rfl rfl rfl rfl fun w6 hS => (s_nil ?_))))))
      have e0 := metric_Open_1_c (j := 0) (hS.cell0 2 rfl rfl) (hS.rd 1 rfl) (by omega) hb1 (by decide) (hS.cell 4 rfl rfl) (hS.own 5 rfl) (hS.ne 4 1 rfl rfl (by decide) (k := gt) rfl) (fun h => hS.ne 5 1 rfl rfl (by decide) (k := r) h rfl)
      rw [← hA] at e0
      refine W_sr rfl (s_mv rfl (s_rd hS 1 rfl rfl rfl e0 fun w7 hS => ?_))
      have e1 := metric_Open_1_c (j := 1) (hS.cell0 2 rfl rfl) (hS.rd 1 rfl) (by omega) okA.1 (by decide) (hS.cell 4 rfl rfl) (hS.own 6 rfl) (hS.ne 4 1 rfl rfl (by decide) (k := gt) rfl) (fun h => hS.ne 6 1 rfl rfl (by decide) (k := r) h rfl)
      rw [← hB] at e1
      refine (s_mv rfl (s_rd hS 1 rfl rfl rfl e1 fun w8 hS => ?_))
      have e2 := metric_Open_1_c (j := 2) (hS.cell0 2 rfl rfl) (hS.rd 1 rfl) (by omega) okB.1 (by decide) (hS.cell 4 rfl rfl) (hS.own 7 rfl) (hS.ne 4 1 rfl rfl (by decide) (k := gt) rfl) (fun h => hS.ne 7 1 rfl rfl (by decide) (k := r) h rfl)
      rw [← hD] at e2
      refine (s_mv rfl (s_rd hS 1 rfl rfl rfl e2 fun w9 hS => (s_fa E rfl rfl (s_st1S hS 10 E rfl rfl rfl (ad0 gc 1) rfl rfl (show 1 < 4 by decide) rfl fun w10 hS => (s_fa E rfl rfl (s_st1S hS 10 E rfl rfl rfl (ad0 gc 2) rfl rfl (show 2 < 4 by decide) rfl fun w11 hS => (s_fa E rfl rfl (s_st1S hS 10 E rfl rfl rfl (ad0 gc 3) rfl rfl (show 3 < 4 by decide) rfl fun w12 hS => (s_nil ?_)))))))))
      have hS : Sep w w12 (opL g0 r rp gm gt w.heap.size h.1 D.2.1 D.2.2 vc (.slice none 0 0) acc [] v v T ++ [cl gc (chC ⟨nB (tkB 1 bs), A.1, B.1, D.1⟩) 50]) := hS
      obtain ⟨ch, hch⟩ : ∃ x : Ch, x = ⟨nB (tkB 1 bs), A.1, B.1, D.1⟩ := ⟨_, rfl⟩
      rw [← hch] at hS
      refine W_n9 0 2 4 5 6 8 9 43 44 (.slice p n c) (.pointer (some ⟨g0, 0, none⟩)) (.pointer (some ⟨rp, 0, none⟩)) (.pointer (some ⟨gm, 0, none⟩)) (.pointer (some ⟨gt, 0, none⟩)) (.func (.func 44) #[] #[.pointer (some ⟨rp, 0, none⟩), .pointer (some ⟨gt, 0, none⟩)]) (.pointer (some ⟨gc, 0, none⟩)) (iV cnt) (iV j) rfl rfl rfl rfl rfl rfl rfl rfl rfl fun ρ => ?_
      refine W_reg rfl (s_fa E rfl rfl (s_ld E rfl rfl (hS.cell 3 rfl rfl) (s_lda (xs := chC ch) E rfl rfl (hS.row 10 rfl) rfl (s_bsA E rfl rfl rfl rfl rfl (cells := (chC ch).toArray) (by kernel_rfl) fun w13 hE13 hh13 hs13 => have hS := hS.ext_ hE13; (s_apS hS 8 E rfl rfl rfl rfl rfl rfl rfl (row_heap hh13) rfl rfl (by omega) fun v14 w14 hS => have ho := (hS.own 8 rfl).one; (s_fa E rfl rfl (s_st1S hS 3 E rfl rfl rfl (ad0 gm 1) rfl ho (show 1 < 3 by decide) rfl fun w15 hS => (s_nil ?_))))))))
      have hS : Sep w w15 (opL g0 r rp gm gt w.heap.size h.1 D.2.1 D.2.2 v14 (.slice none 0 0) (acc ++ [ch]) [] v v T) := by
        have := hS.take 10
        unfold opL
        rw [List.length_append, List.flatMap_append]
        exact this
      refine W_reg rfl (s_add rfl rfl (by omega) (s_mv rfl (s_nil ?_)))
      refine ⟨cnt - (j + 1), by omega, _, j + 1, D.2.1, D.2.2, acc ++ [ch], v14, u8 rfl rfl rfl rfl rfl rfl rfl rfl, by omega, rfl, okD.1, by have := okD.2; have := okB.2; have := okA.2; omega, by rw [List.length_append]; simp; omega, ?_, hS⟩
      rw [← hgo, show cnt - j = cnt - (j + 1) + 1 by omega]
      simp only [chGo, hxe, ← hch, Bool.false_eq_true, if_false]
  · have hd := of_decide_eq_false hd
    refine H _ _ bs s vc acc ?_ hbs hbl (by omega) hS rfl rfl rfl rfl rfl
    rw [← hgo, show cnt - j = 0 by omega]; rfl
end
end Go.Proofs.YthfnijlgmjkedaaGreat
namespace Go.Proofs.YthfnijlgmjkedaaGreat
set_option maxRecDepth 100000
set_option maxHeartbeats 2000000
set_option linter.unusedVariables false
set_option linter.unusedSimpArgs false
open Go Go.Fx Go.Proofs.YthfnijlgmjkedaaGreat.Tab Go.RowKit
section
variable {w : World}
theorem metric_Open_c {p : Option Addr} {n c : Nat} {b : List Int} (hn : n = b.length) (hl : n ≤ 1000000) (hb : byt b) (hc : n ≤ c) (hp : SlR w p (b.map bV)) :
    Ret Go.Proofs.Tryz.prog 15 #[.slice p n c] w fun v w' => Ans w' v (readM b).1 (openE b) ∧ Ext w w' := by
  refine enterC Go.Proofs.Tryz.func15 rfl rfl rfl ?_
  have hS := Sep.start (w := w)
  refine W_sr rfl (s_alS hS E rfl rfl fun w1 g0 hS => (s_as rfl (s_nil ?_)))
  refine W_sr rfl (s_mv rfl (s_bld rfl (cells := #[.slice p n c, .bool false]) (by kernel_rfl) (s_bxS hS rfl rfl fun w2 r hS => (s_alS hS E rfl rfl fun w3 rp hS => (s_stS hS 2 E rfl rfl rfl rfl rfl rfl rfl rfl rfl rfl fun w4 hS => (s_nil ?_))))))
  have hR : RdR w4 w.heap.size r b false := ⟨⟨p, c, _, by subst hn; exact hS.heap 1 rfl, Ext.sl hS.ext hp, by omega, sl_below hp⟩, (hS.getL 1 rfl (k := r) rfl).1⟩
  have hS := hS.upd 1 rfl Mod.refl (rdk w.heap.size r b false) hR (fun k hk => .inl hk) (Nat.le_refl _)
  clear hR
  have hl4 := rsB_len 4 b
  have hl44 := rsB_len 4 (rsB 4 b)
  have hb4 : byt (rsB 4 b) := rsB_byt hb
  refine W_sr rfl (s_ld E rfl rfl (hS.cell0 2 rfl rfl) (s_rdv hS 1 rfl rfl rfl (metric_take_c (k := 4) (by decide) (hS.rd 1 rfl) (by omega)) fun v5 w5 hX hS => (s_nil ?_)))
  clear hX
  refine W_sr rfl (s_ld E rfl rfl (hS.cell0 2 rfl rfl) (s_rd hS 1 rfl rfl rfl (metric_Four_c (hS.rd 1 rfl) (by omega) hb4) fun w6 hS => (s_bld rfl (cells := #[iV (headP b).1, .slice none 0 0, .slice none 0 0]) (by kernel_rfl) (s_alS hS E rfl rfl fun w7 gm hS => (s_stS hS 3 E rfl rfl rfl rfl rfl rfl rfl rfl rfl rfl fun w8 hS => (s_nil ?_))))))
  refine W_sr rfl (s_alS hS E rfl rfl fun w9 gt hS => (s_nil ?_))
  have hS := ((((hS.nil 3 1).nil 3 1).nil 3 1).nil 50 4).nil 45 4
  obtain ⟨h, hh⟩ : ∃ h, h = headP b := ⟨_, rfl⟩
  have hhb : byt h.2.1 := by rw [hh]; exact rsB_byt hb4
  have hhl : h.2.1.length ≤ 1000000 := by rw [hh]; show (rsB 4 (rsB 4 b)).length ≤ _; omega
  have hS : Sep w w9 (opL g0 r rp gm gt w.heap.size h.1 h.2.1 h.2.2 (.slice none 0 0) (.slice none 0 0) [] [] (fun _ => .slice none 0 0) (fun _ => .slice none 0 0) (tabsP 0 h.2.1 h.2.2).2.2) := by subst hh; exact hS
  have hX := fun i => tabsP_ok (s := h.2.2) hhb i
  refine W_n5 0 2 4 5 6 (.slice p n c) (.pointer (some ⟨g0, 0, none⟩)) (.pointer (some ⟨rp, 0, none⟩)) (.pointer (some ⟨gm, 0, none⟩)) (.pointer (some ⟨gt, 0, none⟩)) rfl rfl rfl rfl rfl fun ρ => ?_
  refine W_sk fun K hK => ?_
  have H : ∀ (ρ : Fr) w' v, Sep w w' (opL g0 r rp gm gt w.heap.size h.1 (tabsP 3 h.2.1 h.2.2).1 (tabsP 3 h.2.1 h.2.2).2.1 (.slice none 0 0) (.slice none 0 0) [] [] v v (tabsP 3 h.2.1 h.2.2).2.2) → ρ 0 = .slice p n c → ρ 2 = .pointer (some ⟨g0, 0, none⟩) → ρ 4 = .pointer (some ⟨rp, 0, none⟩) → ρ 5 = .pointer (some ⟨gm, 0, none⟩) → ρ 6 = .pointer (some ⟨gt, 0, none⟩) → K ρ w' := by
    intro ρ w' v hS q0 q2 q4 q5 q6
    obtain ⟨x, hx⟩ : ∃ x, tabsP 3 h.2.1 h.2.2 = x := ⟨_, rfl⟩
    have h3 := hX 3
    rw [hx] at hS h3
    exact hK _ _ (open_rest (t := (0, x.1, x.2.1)) (T := x.2.2) hn hl hp hx hh h3.1 (Nat.le_trans h3.2 hhl) hS q0 q2 q4 q5 q6)
  refine W_sr rfl (s_mv rfl (s_nil ?_))
  refine W_block ?_
  refine W_loop (fun m ρ w' => ∃ ρ' i v, ρ = upd (upd (upd (upd (upd (upd ρ' 0 (.slice p n c)) 2 (.pointer (some ⟨g0, 0, none⟩))) 4 (.pointer (some ⟨rp, 0, none⟩))) 5 (.pointer (some ⟨gm, 0, none⟩))) 6 (.pointer (some ⟨gt, 0, none⟩))) 19 (iV (i : Nat)) ∧ i ≤ 3 ∧ m = 3 - i ∧
      Sep w w' (opL g0 r rp gm gt w.heap.size h.1 (tabsP i h.2.1 h.2.2).1 (tabsP i h.2.1 h.2.2).2.1 (.slice none 0 0) (.slice none 0 0) [] [] v v (tabsP i h.2.1 h.2.2).2.2)) 3 ⟨_, 0, _, u6 rfl rfl rfl rfl rfl rfl, by omega, rfl, hS⟩ ?_
  rintro m _ w10 ⟨ρ, i, v, rfl, hi, rfl, hS⟩
  refine W_sr rfl (s_lss rfl rfl (s_nil ?_))
  refine W_seq ?_
  refine W_if rfl (fun hc => W_skip ?_) (fun hc => W_exit ?_)
  · have hc := of_decide_eq_true hc
    have hi3 : i < 3 := by omega
    refine W_sk fun K2 hK2 => ?_
    have H2 : ∀ (ρ : Fr) w' v, Sep w w' (opL g0 r rp gm gt w.heap.size h.1 (tabsP (i + 1) h.2.1 h.2.2).1 (tabsP (i + 1) h.2.1 h.2.2).2.1 (.slice none 0 0) (.slice none 0 0) [] [] v v (tabsP (i + 1) h.2.1 h.2.2).2.2) → ρ 0 = .slice p n c → ρ 2 = .pointer (some ⟨g0, 0, none⟩) → ρ 4 = .pointer (some ⟨rp, 0, none⟩) → ρ 5 = .pointer (some ⟨gm, 0, none⟩) → ρ 6 = .pointer (some ⟨gt, 0, none⟩) → ρ 19 = iV i → K2 ρ w' := by
      intro ρ w' v hS q0 q2 q4 q5 q6 q19
      rw [u6 q0 q2 q4 q5 q6 q19]
      refine hK2 _ _ ?_
      refine W_reg rfl (s_add rfl rfl (by omega) (s_mv rfl (s_nil ?_)))
      exact ⟨3 - (i + 1), by omega, _, i + 1, v, u6 rfl rfl rfl rfl rfl rfl, by omega, rfl, hS⟩
    refine W_block ?_
    refine W_sr rfl (s_mv rfl (s_as rfl (s_nil ?_)))
    have hbi := (hX i).1
    have hli := (hX i).2
    have hbd := nB2_bd hbi
    obtain ⟨cnt, hcnt⟩ := Int.eq_ofNat_of_zero_le hbd.1
    have hl2 := rsB_len 2 (tabsP i h.2.1 h.2.2).1
    refine W_sr rfl (s_ld E rfl rfl (hS.cell0 2 rfl rfl) (s_rd hS 1 rfl rfl rfl (metric_Two_c (hS.rd 1 rfl) (by omega) hbi) fun w11 hS => (s_mv rfl (s_nil ?_))))
    refine W_block ?_
    refine W_loop (fun m ρ w' => ∃ ρ' j bs s acc v, ρ = upd (upd (upd (upd (upd (upd (upd (upd (upd ρ' 0 (.slice p n c)) 2 (.pointer (some ⟨g0, 0, none⟩))) 4 (.pointer (some ⟨rp, 0, none⟩))) 5 (.pointer (some ⟨gm, 0, none⟩))) 6 (.pointer (some ⟨gt, 0, none⟩))) 7 (iV i)) 19 (iV i)) 23 (iV (cnt : Nat))) 24 (iV (j : Nat)) ∧ j ≤ cnt ∧ m = cnt - j ∧
        byt bs ∧ bs.length ≤ 1000000 ∧ acc.length ≤ j ∧ tabGo (cnt - j) bs s acc = tabP (tabsP i h.2.1 h.2.2).1 (tabsP i h.2.1 h.2.2).2.1 ∧
        Sep w w' (opL g0 r rp gm gt w.heap.size h.1 bs s (.slice none 0 0) (.slice none 0 0) [] [] v v (updT (tabsP i h.2.1 h.2.2).2.2 i acc))) cnt ?_ ?_
    · refine ⟨_, 0, rsB 2 (tabsP i h.2.1 h.2.2).1, shB 2 (tabsP i h.2.1 h.2.2).1 (tabsP i h.2.1 h.2.2).2.1, [], v, u9 rfl rfl rfl rfl rfl rfl rfl (congrArg iV hcnt) rfl, by omega, rfl, rsB_byt hbi, by omega, by simp, ?_, ?_⟩
      · unfold tabP; rw [hcnt]; rfl
      · rw [updT_same _ _ _ (tabsP_hi _ _ i i (Nat.le_refl _))]; exact hS
    clear hS
    rintro m _ w12 ⟨ρ, j, bs, s, acc, v, rfl, hj, rfl, hbs, hbl, hacc, hgo, hS⟩
    have fin : ∀ (x : List Int × Bool × List Int), x = (bs, s, acc) → x = tabP (tabsP i h.2.1 h.2.2).1 (tabsP i h.2.1 h.2.2).2.1 → Sep w w12 (opL g0 r rp gm gt w.heap.size h.1 (tabsP (i + 1) h.2.1 h.2.2).1 (tabsP (i + 1) h.2.1 h.2.2).2.1 (.slice none 0 0) (.slice none 0 0) [] [] v v (tabsP (i + 1) h.2.1 h.2.2).2.2) := by
      intro x e1 e2
      simp only [tabsP]
      rw [← e2, e1]
      exact hS
    refine W_sr rfl (s_lss rfl rfl (s_nil ?_))
    refine W_seq ?_
    refine W_if rfl (fun hd => W_skip ?_) (fun hd => W_exit ?_)
    · have hd := of_decide_eq_true hd
      refine W_seq ?_
      refine W_block ?_
      refine W_seq ?_
      refine W_sr rfl (s_ld E rfl rfl (hS.cell0 2 rfl rfl) (s_nc rfl (s_fa E rfl rfl (s_ld E rfl rfl (hS.rd 1 rfl).flag (s_nil ?_)))))
      refine W_if rfl (fun he => W_exit ?_) (fun he => W_skip ?_)
      · subst he
        refine H2 _ _ v (fin _ ?_ hgo) rfl rfl rfl rfl rfl rfl
        obtain ⟨k, hk⟩ : ∃ k, cnt - j = k + 1 := ⟨cnt - j - 1, by omega⟩
        rw [hk]; rfl
      · subst he
        have hl4 := rsB_len 4 bs
        have hS := hS.drew
        refine W_d (fun w' => w'.cell? (Addr.add ⟨gt, 0, none⟩ (i * 1)) = some (v i) ∧ w'.cell? ⟨rp, 0, none⟩ = some (.pointer (some ⟨r, 0, none⟩))) [9] orders (D_pure 0 rfl rfl (by kernel_rfl) rfl (fun _ => r_mv rfl) (fun _ => ⟨hS.cell 4 rfl (opL_cell hi3), hS.cell0 2 rfl rfl⟩) (D_pure 1 rfl rfl (by kernel_rfl) rfl (fun _ => r_mv rfl) (fun _ => ⟨hS.cell 4 rfl (opL_cell hi3), hS.cell0 2 rfl rfl⟩) (D_pure 2 rfl rfl (by kernel_rfl) rfl (fun _ => r_iaA (i := i) E rfl rfl rfl rfl hi3) (fun _ => ⟨hS.cell 4 rfl (opL_cell hi3), hS.cell0 2 rfl rfl⟩) (D_take 3 rfl rfl (by kernel_rfl) rfl (fun _ hs => r_ld E rfl rfl hs.1) ⟨hS.cell 4 rfl (opL_cell hi3), hS.cell0 2 rfl rfl⟩ (D_take 4 rfl rfl (by kernel_rfl) rfl (fun _ hs => r_ld E rfl rfl hs.2) ⟨hS.cell 4 rfl (opL_cell hi3), hS.cell0 2 rfl rfl⟩ (D_one 5 rfl (by kernel_rfl) rfl (s_rd hS 1 rfl rfl rfl (metric_Four_c (hS.rd 1 rfl) (by omega) hbs) fun w13 hS => (s_nil ⟨⟨hS.cell 4 rfl (opL_cell hi3), hS.cell0 2 rfl rfl⟩, (D_one 6 rfl (by kernel_rfl) rfl (s_bsA E rfl rfl rfl rfl rfl (cells := #[iV (rd4 bs)]) (by kernel_rfl) fun w14 hE14 hh14 hs14 => have hS := hS.ext_ hE14; (s_nil ⟨⟨hS.cell 4 rfl (opL_cell hi3), hS.cell0 2 rfl rfl⟩, (D_one 7 rfl (by kernel_rfl) rfl (s_apS hS (5 + i) E (opL_own hi3) rfl rfl rfl rfl rfl rfl (row_heap hh14) rfl rfl (by simp only [updT, if_pos]; omega) fun v15 w15 hS => have hx := opL_app2 hi3 hS; have hS := hx.1; (s_nil ⟨⟨hS.cell 4 rfl (opL_cell hi3), hS.cell0 2 rfl rfl⟩, (D_pure 8 rfl rfl (by kernel_rfl) rfl (fun _ => r_iaA (i := i) E rfl rfl rfl rfl hi3) (fun _ => ⟨hS.cell 4 rfl (opL_cell hi3), hS.cell0 2 rfl rfl⟩) (D_oneM 9 rfl (by kernel_rfl) rfl (by kernel_rfl) (s_st1S hS 4 E rfl rfl rfl (ad0 gt (i * 1)) rfl hx.2 (by simp; omega) (opL_st hi3 v15) fun w16 hS => (s_nil (D_done (by kernel_rfl) ?_)))))⟩)))⟩)))⟩))))))))
        have hS : Sep w w16 (opL g0 r rp gm gt w.heap.size h.1 (rsB 4 bs) (shB 4 bs false) (.slice none 0 0) (.slice none 0 0) [] [] (updV v i v15) (updV v i v15) (updT (tabsP i h.2.1 h.2.2).2.2 i (acc ++ [rd4 bs]))) := hS
        refine W_reg rfl (s_add rfl rfl (by omega) (s_mv rfl (s_nil ?_)))
        refine ⟨cnt - (j + 1), by omega, _, j + 1, rsB 4 bs, shB 4 bs false, acc ++ [rd4 bs], updV v i v15, u9 rfl rfl rfl rfl rfl rfl rfl rfl rfl, by omega, rfl, rsB_byt hbs, by omega, by rw [List.length_append]; simp; omega, ?_, hS⟩
        rw [← hgo, show cnt - j = cnt - (j + 1) + 1 by omega]; rfl
    · have hd := of_decide_eq_false hd
      refine H2 _ _ v (fin _ ?_ hgo) rfl rfl rfl rfl rfl rfl
      rw [show cnt - j = 0 by omega]; rfl
  · have hc := of_decide_eq_false hc
    have h3 : i = 3 := by omega
    subst h3
    exact H _ _ v hS rfl rfl rfl rfl rfl
end
end Go.Proofs.YthfnijlgmjkedaaGreat

/- fleuronlaw27.MetricFiles returns true for every metric, and the metric reads behind the call as it read before; conditions: none beside the given row's own. Part 6 of 9 of the proof. -/
import Derived.Test.YthfnijlgmjkedaaGreatJCFiles5
namespace Go.Proofs.YthfnijlgmjkedaaGreat
set_option maxRecDepth 100000
set_option maxHeartbeats 1000000
set_option linter.unusedVariables false
set_option linter.unusedSimpArgs false
open Go Go.Fx Go.Proofs.YthfnijlgmjkedaaGreat.Tab Go.RowKit
theorem row_long {w : World} {a : Addr} {xs : List Value} {g : Nat} {cs : Array Value} {ty : TypeId} {f : Nat × Nat} (hr : Row w a xs) (hh : w.heap[g]? = some (.cells cs ty f)) (hl : cs.size < xs.length) : a.block ≠ g := by
  intro h
  have h1 := hr cs.size (xs[cs.size]) (by simp [hl])
  unfold Addr.add at h1
  split at h1
  · rename_i h0
    have hx := h1
    simp only [World.cell?, h, hh] at hx
    have : (xs.length ≠ 0) := by omega
    simp [h0] at hx
  · simp only [World.cell?, h, hh] at h1
    have := (Array.getElem?_eq_some_iff.1 h1).1
    omega
/-- a store into a block of three cells does not touch a metric's slices -/
theorem meR_store {w : World} {m : Me} {p q : Option Addr} {g : Nat} {cs cs' : Array Value} {ty : TypeId} {f : Nat × Nat} (h : MeR w m p q) (hh : w.heap[g]? = some (.cells cs ty f)) (hs : cs.size = 3) : MeR (w.setRow g cs') m p q := by
  have key : ∀ (p : Option Addr) (xs : List Value), SlR w p xs → (xs = [] ∨ 4 ≤ xs.length) → SlR (w.setRow g cs') p xs := by
    intro p xs hp hx
    cases p with
    | none => exact hp
    | some a =>
      rcases hx with rfl | hx
      · exact Row.nil _ _
      · exact (setRow_mod (M := fun k => k = g) rfl).row hp (row_long hp hh (by omega))
  have len : ∀ {α : Type} (C : α → List Value) (hC : ∀ x, (C x).length = 4) (l : List α), l.flatMap C = [] ∨ 4 ≤ (l.flatMap C).length := by
    intro α C hC l
    rw [flat_length C 4 hC]
    cases l with
    | nil => exact .inl rfl
    | cons x l => right; simp; omega
  exact ⟨key p _ h.ch (len chC chC_len _), key q _ h.ru (len ruC ruC_len _), h.nch, h.nru⟩
def mergeE (me : Me) : Int := if twiceB codeCmp me.chars || twiceB pairCmp me.rules then 14 else if validM me then 0 else 3
section
variable {w : World}
theorem metric_Merge_c {a b : Me} {p q p' q' : Option Addr} {c d c' d' : Nat} (ha : MeR w a p q) (hb : MeR w b p' q') (hla : a.chars.length ≤ 400000 ∧ a.rules.length ≤ 400000) (hlb : b.chars.length ≤ 400000 ∧ b.rules.length ≤ 400000)
    (hz : (p = none → c = 0) ∧ (q = none → d = 0) ∧ (p' = none → c' = 0) ∧ (q' = none → d' = 0)) :
    Ret Go.Proofs.Tryz.prog 28 #[meV a p q c d, meV b p' q' c' d'] w fun v w' => (if validM a && validM b then (if a.size = b.size then ∃ me, Made a.size (a.chars ++ b.chars) (a.rules ++ b.rules) me ∧ Ans w' v me (mergeE me) else Ans w' v me0 5) else Ans w' v me0 2) ∧ Ext w w' := by
  refine enterC Go.Proofs.Tryz.func28 rfl rfl rfl ?_
  refine W_sr rfl (s_bxA rfl fun w1 hE1 hh1 hs1 => (s_bxA rfl fun w2 hE2 hh2 hs2 => (s_alA E rfl fun w3 hE3 hh3 hs3 => (s_as rfl (s_nil ?_)))))
  have hE03 := hE1.trans (hE2.trans hE3)
  have hrA : Row w3 ⟨w.heap.size, 0, none⟩ (meC a p q c d) := row_heap (Ext.heap (hE2.trans hE3) hh1)
  have hrB : Row w3 ⟨w1.heap.size, 0, none⟩ (meC b p' q' c' d') := row_heap (Ext.heap hE3 hh2)
  have err : ∀ (m : Me) (e : Int) (w' : World), e ≠ 0 → Ext w3 w' → Row (w'.setRow w2.heap.size (splice (Value.agg #[iV 0, .slice none 0 0, .slice none 0 0]).cells 0 (meC me0 none none 0 0))) ⟨w2.heap.size, 0, none⟩ (meC me0 none none 0 0) ∧
      Ans (w'.setRow w2.heap.size (splice (Value.agg #[iV 0, .slice none 0 0, .slice none 0 0]).cells 0 (meC me0 none none 0 0))) (.tuple #[.agg (meC me0 none none 0 0).toArray, iV e]) m e ∧ Ext w (w'.setRow w2.heap.size (splice (Value.agg #[iV 0, .slice none 0 0, .slice none 0 0]).cells 0 (meC me0 none none 0 0))) := by
    intro m e w' he hE'
    have fin := fin_cell (vs := meC me0 none none 0 0) (hE03.trans hE') (show w.heap.size ≤ w2.heap.size by have := hE1.size; have := hE2.size; omega) (Ext.heap hE' hh3) rfl
    exact ⟨fin.1, ans_err he, fin.2⟩
  refine W_sk fun K hK => ?_
  refine W_block ?_
  have call : ∀ {m p q c d} w', MeR w3 m p q → Ext w3 w' → Ret Go.Proofs.Tryz.prog 13 #[meV m p q c d] w' _ := fun w' hm h => metric_Valid_c (hm.ext h)
  cases h0 : validM a
  · refine W_sr rfl (s_lda (xs := meC a p q c d) E rfl rfl hrA rfl (s_callx rfl rfl (Ret.eqv (call w3 (ha.ext hE03) Mod.refl) (congrArg Value.bool h0)) fun w4 hE4 => (s_not rfl (s_mv rfl (s_g0 rfl (s_g0 rfl (s_g0 rfl (s_pk rfl (s_as rfl (s_nil ?_))))))))))
    refine W_if rfl (fun _ => ?_) (fun h => by cases h)
    refine W_sr rfl (s_bld rfl (cells := (meC me0 none none 0 0).toArray) (by kernel_rfl) (s_st E (vs := meC me0 none none 0 0) rfl rfl rfl rfl (Ext.heap hE4 hh3) rfl rfl rfl (Nat.le_refl _) (s_as rfl (s_nil ?_))))
    obtain ⟨g1, g2, g3⟩ := err me0 2 w4 (by decide) hE4
    exact W_ret ⟨_, resC2 E rfl rfl rfl g1 rfl rfl, g2, g3⟩
  cases h1 : validM b
  · refine W_sr rfl (s_lda (xs := meC a p q c d) E rfl rfl hrA rfl (s_callx rfl rfl (Ret.eqv (call w3 (ha.ext hE03) Mod.refl) (congrArg Value.bool h0)) fun w4 hE4 => (s_not rfl (s_mv rfl (s_g1 rfl (s_lda (xs := meC b p' q' c' d') E rfl rfl (Ext.row hE4 hrB) rfl (s_g1 rfl (s_callx rfl rfl (Ret.eqv (call w4 (hb.ext hE03) hE4) (congrArg Value.bool h1)) fun w5 hE5 => (s_g1 rfl (s_not rfl (s_pk rfl (s_as rfl (s_nil ?_)))))))))))))
    refine W_if rfl (fun _ => ?_) (fun h => by cases h)
    refine W_sr rfl (s_bld rfl (cells := (meC me0 none none 0 0).toArray) (by kernel_rfl) (s_st E (vs := meC me0 none none 0 0) rfl rfl rfl rfl (Ext.heap (hE4.trans hE5) hh3) rfl rfl rfl (Nat.le_refl _) (s_as rfl (s_nil ?_))))
    obtain ⟨g1, g2, g3⟩ := err me0 2 w5 (by decide) (hE4.trans hE5)
    exact W_ret ⟨_, resC2 E rfl rfl rfl g1 rfl rfl, g2, g3⟩
  refine W_sr rfl (s_lda (xs := meC a p q c d) E rfl rfl hrA rfl (s_callx rfl rfl (Ret.eqv (call w3 (ha.ext hE03) Mod.refl) (congrArg Value.bool h0)) fun w4 hE4 => (s_not rfl (s_mv rfl (s_g1 rfl (s_lda (xs := meC b p' q' c' d') E rfl rfl (Ext.row hE4 hrB) rfl (s_g1 rfl (s_callx rfl rfl (Ret.eqv (call w4 (hb.ext hE03) hE4) (congrArg Value.bool h1)) fun w5 hE5 => (s_g1 rfl (s_not rfl (s_pk rfl (s_as rfl (s_nil ?_)))))))))))))
  refine W_if rfl (fun h => by cases h) (fun _ => ?_)
  have hE35 := hE4.trans hE5
  have hrA5 := Ext.row hE35 hrA
  have hrB5 := Ext.row hE35 hrB
  by_cases h2 : a.size = b.size
  case neg =>
    refine W_sr rfl (s_fa E rfl rfl (s_ld E rfl rfl (hrA5 0 _ rfl) (s_fa E rfl rfl (s_ld E rfl rfl (hrB5 0 _ rfl) (s_cmp (c := true) rfl rfl (decide_eq_true h2) (s_as rfl (s_nil ?_)))))))
    refine W_if rfl (fun _ => ?_) (fun h => by cases h)
    refine W_sr rfl (s_bld rfl (cells := (meC me0 none none 0 0).toArray) (by kernel_rfl) (s_st E (vs := meC me0 none none 0 0) rfl rfl rfl rfl (Ext.heap hE35 hh3) rfl rfl rfl (Nat.le_refl _) (s_as rfl (s_nil ?_))))
    obtain ⟨g1, g2, g3⟩ := err me0 5 w5 (by decide) hE35
    exact W_ret ⟨_, resC2 E rfl rfl rfl g1 rfl rfl, by rw [if_pos (by rfl), if_neg h2]; exact g2, g3⟩
  refine W_sr rfl (s_fa E rfl rfl (s_ld E rfl rfl (hrA5 0 _ rfl) (s_fa E rfl rfl (s_ld E rfl rfl (hrB5 0 _ rfl) (s_cmp (c := false) rfl rfl (decide_eq_false (fun h => h h2)) (s_as rfl (s_nil ?_)))))))
  refine W_if rfl (fun h => by cases h) (fun _ => W_skip ?_)
  refine hK _ _ ?_
  clear hK
  refine W_n3 2 3 4 (.pointer (some ⟨w.heap.size, 0, none⟩)) (.pointer (some ⟨w1.heap.size, 0, none⟩)) (.pointer (some ⟨w2.heap.size, 0, none⟩)) rfl rfl rfl fun ρ => ?_
  refine W_dr (Ext w5) [] orders (D_pure 0 rfl rfl (by kernel_rfl) rfl (fun _ => r_fa E rfl rfl) (fun _ => Ext.drew0) (D_take 1 rfl rfl (by kernel_rfl) rfl (fun _ hs => r_ld E rfl rfl (Ext.row hs hrA5 0 _ rfl)) Ext.drew0 (D_pure 2 rfl rfl (by kernel_rfl) rfl (fun _ => r_fa E rfl rfl) (fun _ => Ext.drew0) (D_take 3 rfl rfl (by kernel_rfl) rfl (fun _ hs => r_ld E rfl rfl (Ext.row hs hrA5 1 _ rfl)) Ext.drew0 (D_pure 4 rfl rfl (by kernel_rfl) rfl (fun _ => r_fa E rfl rfl) (fun _ => Ext.drew0) (D_take 5 rfl rfl (by kernel_rfl) rfl (fun _ hs => r_ld E rfl rfl (Ext.row hs hrB5 1 _ rfl)) Ext.drew0 (D_pure 8 rfl rfl (by kernel_rfl) rfl (fun _ => r_fa E rfl rfl) (fun _ => Ext.drew0) (D_take 9 rfl rfl (by kernel_rfl) rfl (fun _ hs => r_ld E rfl rfl (Ext.row hs hrA5 2 _ rfl)) Ext.drew0 (D_pure 10 rfl rfl (by kernel_rfl) rfl (fun _ => r_fa E rfl rfl) (fun _ => Ext.drew0) (D_take 11 rfl rfl (by kernel_rfl) rfl (fun _ hs => r_ld E rfl rfl (Ext.row hs hrB5 2 _ rfl)) Ext.drew0 ?_))))))))))
  have eC : ([⟨p, c, a.chars⟩, ⟨p', c', b.chars⟩] : List (Sl Ch)).flatMap Sl.l = a.chars ++ b.chars := by simp
  have eR : ([⟨q, d, a.rules⟩, ⟨q', d', b.rules⟩] : List (Sl Ru)).flatMap Sl.l = a.rules ++ b.rules := by simp
  have hlC : (a.chars ++ b.chars).length ≤ 1000000 := by rw [List.length_append]; omega
  have hlR : (a.rules ++ b.rules).length ≤ 1000000 := by rw [List.length_append]; omega
  have hE05 := hE03.trans hE35
  refine D_set [6, 7, 12, 13, 14, 15] (fun j v w => match j with
    | 6 => ∃ g, v = .slice (some ⟨g, 0, none⟩) 2 2 ∧ Row w ⟨g, 0, none⟩ [.slice p a.chars.length c, .slice p' b.chars.length c']
    | 7 => Own w 50 4 v (a.chars ++ b.chars).length ((a.chars ++ b.chars).flatMap chC)
    | 12 => ∃ g, v = .slice (some ⟨g, 0, none⟩) 2 2 ∧ Row w ⟨g, 0, none⟩ [.slice q a.rules.length d, .slice q' b.rules.length d']
    | 13 => Own w 45 4 v (a.rules ++ b.rules).length ((a.rules ++ b.rules).flatMap ruC)
    | 14 => ∃ me p q c d, v = meV me p q c d ∧ MeR w me p q ∧ Made a.size (a.chars ++ b.chars) (a.rules ++ b.rules) me
    | 15 => ∃ g, v = .pointer (some ⟨g, 0, none⟩) ∧ w.heap[g]? = some (.cells (Value.agg #[iV 0, .slice none 0 0, .slice none 0 0]).cells 25 (0, 0)) ∧ w5.heap.size ≤ g
    | _ => True) (fuel' := 1) rfl (by kernel_rfl) (by kernel_rfl) (fun _ h => Ext.drew0.trans h) ?_ ?_ ?_
  · intro j v w1 w2 hE h
    split at h
    · obtain ⟨g, h1, h2⟩ := h; exact ⟨g, h1, Ext.row hE h2⟩
    · exact Ext.owns hE h
    · obtain ⟨g, h1, h2⟩ := h; exact ⟨g, h1, Ext.row hE h2⟩
    · exact Ext.owns hE h
    · obtain ⟨me, p, q, c, d, h1, h2, h3⟩ := h; exact ⟨me, p, q, c, d, h1, h2.ext hE, h3⟩
    · obtain ⟨g, h1, h2, h3⟩ := h; exact ⟨g, h1, Ext.heap hE h2, h3⟩
    · exact trivial
  · refine List.forall_mem_cons.2 ⟨?_, List.forall_mem_cons.2 ⟨?_, List.forall_mem_cons.2 ⟨?_, List.forall_mem_cons.2 ⟨?_, List.forall_mem_cons.2 ⟨?_, List.forall_mem_cons.2 ⟨?_, by simp⟩⟩⟩⟩⟩⟩
    · intro o ho ρ' w' hE hag hd
      obtain rfl := Option.some.inj ho
      have f27 : ρ' 27 = .slice p a.chars.length c := hag 27 (by kernel_rfl)
      have f29 : ρ' 29 = .slice p' b.chars.length c' := hag 29 (by kernel_rfl)
      rw [u2 f27 f29]
      exact s_bsA E rfl rfl rfl rfl rfl (cells := #[.slice p a.chars.length c, .slice p' b.chars.length c']) (by kernel_rfl) fun w2 hE2 hh2 hs2 => s_nil ⟨hE2, _, rfl, _, rfl, row_heap hh2⟩
    · intro o ho ρ' w' hE hag hd
      obtain rfl := Option.some.inj ho
      obtain ⟨g, hv, hrow⟩ := hd 6 (by decide) (by kernel_rfl)
      have hv : ρ' 30 = .slice (some ⟨g, 0, none⟩) 2 2 := hv
      have hE' := hE05.trans (Ext.drew0.trans hE)
      rw [u1 hv]
      refine s_call rfl rfl (slices_Concat_CharMetric_c (ps := [⟨p, c, a.chars⟩, ⟨p', c', b.chars⟩]) rfl (by decide) hrow ?_ ?_ (by rw [eC]; exact hlC)) fun v w2 h => s_nil ⟨h.2.2, _, rfl, ?_⟩
      · intro s hs
        simp only [List.mem_cons, List.not_mem_nil, or_false] at hs
        rcases hs with rfl | rfl
        · exact (ha.ext hE').ch
        · exact (hb.ext hE').ch
      · intro s hs
        simp only [List.mem_cons, List.not_mem_nil, or_false] at hs
        rcases hs with rfl | rfl
        · exact hz.1
        · exact hz.2.2.1
      · have := h.1; rw [eC] at this; exact this
    · intro o ho ρ' w' hE hag hd
      obtain rfl := Option.some.inj ho
      have f27 : ρ' 33 = .slice q a.rules.length d := hag 33 (by kernel_rfl)
      have f29 : ρ' 35 = .slice q' b.rules.length d' := hag 35 (by kernel_rfl)
      rw [u2 f27 f29]
      exact s_bsA E rfl rfl rfl rfl rfl (cells := #[.slice q a.rules.length d, .slice q' b.rules.length d']) (by kernel_rfl) fun w2 hE2 hh2 hs2 => s_nil ⟨hE2, _, rfl, _, rfl, row_heap hh2⟩
    · intro o ho ρ' w' hE hag hd
      obtain rfl := Option.some.inj ho
      obtain ⟨g, hv, hrow⟩ := hd 12 (by decide) (by kernel_rfl)
      have hv : ρ' 36 = .slice (some ⟨g, 0, none⟩) 2 2 := hv
      have hE' := hE05.trans (Ext.drew0.trans hE)
      rw [u1 hv]
      refine s_call rfl rfl (slices_Concat_LigRule_c (ps := [⟨q, d, a.rules⟩, ⟨q', d', b.rules⟩]) rfl (by decide) hrow ?_ ?_ (by rw [eR]; exact hlR)) fun v w2 h => s_nil ⟨h.2.2, _, rfl, ?_⟩
      · intro s hs
        simp only [List.mem_cons, List.not_mem_nil, or_false] at hs
        rcases hs with rfl | rfl
        · exact (ha.ext hE').ru
        · exact (hb.ext hE').ru
      · intro s hs
        simp only [List.mem_cons, List.not_mem_nil, or_false] at hs
        rcases hs with rfl | rfl
        · exact hz.2.1
        · exact hz.2.2.2
      · have := h.1; rw [eR] at this; exact this
    · intro o ho ρ' w' hE hag hd
      obtain rfl := Option.some.inj ho
      have f25 : ρ' 25 = iV a.size := hag 25 (by kernel_rfl)
      have o7 : Own w' 50 4 (ρ' 31) (a.chars ++ b.chars).length ((a.chars ++ b.chars).flatMap chC) := hd 7 (by decide) (by kernel_rfl)
      have o13 : Own w' 45 4 (ρ' 37) (a.rules ++ b.rules).length ((a.rules ++ b.rules).flatMap ruC) := hd 13 (by decide) (by kernel_rfl)
      obtain ⟨p7, c7, h7, hsl7, _, _⟩ := o7.form
      obtain ⟨p13, c13, h13, hsl13, _, _⟩ := o13.form
      rw [u3 f25 h7 h13]
      refine s_call rfl rfl (metric_made_c rfl rfl hlC hlR hsl7 hsl13) fun v w2 h => s_nil ⟨h.2, _, rfl, ?_⟩
      obtain ⟨⟨me, p3, q3, c3, d3, rfl, hR3, hsz, hpc, hpr, hsc, hsr, _, _⟩, _⟩ := h
      exact ⟨me, p3, q3, c3, d3, rfl, hR3, ⟨hsz, hpc, hpr, hsc, hsr⟩⟩
    · intro o ho ρ' w' hE hag hd
      obtain rfl := Option.some.inj ho
      exact s_alA E rfl fun w2 hE2 hh2 hs2 => s_nil ⟨hE2, _, rfl, _, rfl, hh2, (Ext.drew0.trans hE).size⟩
  · intro ρ' w6 hE6 hag hG
    obtain ⟨me, p3, q3, c3, d3, hv14, hR3, hmade⟩ := hG 14 (by decide)
    obtain ⟨g, hv15, hhg, hgl⟩ := hG 15 (by decide)
    have hv14 : ρ' 38 = meV me p3 q3 c3 d3 := hv14
    have hv15 : ρ' 6 = .pointer (some ⟨g, 0, none⟩) := hv15
    have f4 : ρ' 4 = .pointer (some ⟨w2.heap.size, 0, none⟩) := hag 4 (by kernel_rfl)
    have hE56 := Ext.drew0.trans hE6
    rw [u3 f4 hv15 hv14]
    have fin6 := fin_cell (vs := meC me p3 q3 c3 d3) hE56 hgl hhg rfl
    have hR6 := meR_store (cs' := splice (Value.agg #[iV 0, .slice none 0 0, .slice none 0 0]).cells 0 (meC me p3 q3 c3 d3)) hR3 hhg rfl
    have hE57 := fin6.2
    have hr7 := fin6.1
    refine (D_one 16 rfl (by kernel_rfl) rfl (s_st E (vs := meC me p3 q3 c3 d3) rfl rfl rfl rfl hhg rfl rfl rfl (Nat.le_refl _) (s_nil ⟨hE57, (D_done (by kernel_rfl) ?_)⟩)))
    generalize w6.setRow g (splice (Value.agg #[iV 0, .slice none 0 0, .slice none 0 0]).cells 0 (meC me p3 q3 c3 d3)) = w7 at hE57 hr7 hR6 ⊢
    clear fin6 hhg hE6 hag hG hE56 hR3
    have hE37 := hE35.trans hE57
    refine W_n2 4 6 (.pointer (some ⟨w2.heap.size, 0, none⟩)) (.pointer (some ⟨g, 0, none⟩)) rfl rfl fun ρ => ?_
    refine W_sk fun K hK => ?_
    refine W_block ?_
    have goal : ∀ {e : Int} {v : Value} {w' : World}, mergeE me = e → Ans w' v me e → (if validM a && validM b then (if a.size = b.size then ∃ me, Made a.size (a.chars ++ b.chars) (a.rules ++ b.rules) me ∧ Ans w' v me (mergeE me) else Ans w' v me0 5) else Ans w' v me0 2) := by
      intro e v w' he h
      rw [if_pos (by rw [h0, h1]; rfl), if_pos h2]
      exact ⟨me, hmade, by rw [he]; exact h⟩
    cases h5 : twiceB codeCmp me.chars
    case true =>
      refine W_sr rfl (s_fa E rfl rfl (s_ld E rfl rfl (hr7 1 _ rfl) (s_callx rfl rfl (Ret.eqv (metric_twice_CharMetric_c rfl hR6.nch hR6.ch (fun _ _ _ => metric_compareCodes_c)) (congrArg Value.bool h5)) fun w8 hE8 => (s_mv rfl (s_g0 rfl (s_g0 rfl (s_g0 rfl (s_pk rfl (s_as rfl (s_nil ?_))))))))))
      refine W_if rfl (fun _ => ?_) (fun h => by cases h)
      refine W_sr rfl (s_bld rfl (cells := (meC me0 none none 0 0).toArray) (by kernel_rfl) (s_st E (vs := meC me0 none none 0 0) rfl rfl rfl rfl (Ext.heap (hE37.trans hE8) hh3) rfl rfl rfl (Nat.le_refl _) (s_as rfl (s_nil ?_))))
      obtain ⟨g1, g2, g3⟩ := err me 14 w8 (by decide) (hE37.trans hE8)
      exact W_ret ⟨_, resC2 E rfl rfl rfl g1 rfl rfl, goal (by unfold mergeE; rw [h5]; rfl) g2, g3⟩
    cases h6 : twiceB pairCmp me.rules
    case true =>
      refine W_sr rfl (s_fa E rfl rfl (s_ld E rfl rfl (hr7 1 _ rfl) (s_callx rfl rfl (Ret.eqv (metric_twice_CharMetric_c rfl hR6.nch hR6.ch (fun _ _ _ => metric_compareCodes_c)) (congrArg Value.bool h5)) fun w8 hE8 => (s_mv rfl (s_g1 rfl (s_fa E rfl rfl (s_g1 rfl (s_ld E rfl rfl (Ext.row hE8 hr7 2 _ rfl) (s_g1 rfl (s_callx rfl rfl (Ret.eqv (metric_twice_LigRule_c rfl hR6.nru (hR6.ext hE8).ru (fun _ _ _ => metric_ComparePairs_c)) (congrArg Value.bool h6)) fun w9 hE9 => (s_pk rfl (s_as rfl (s_nil ?_)))))))))))))
      refine W_if rfl (fun _ => ?_) (fun h => by cases h)
      refine W_sr rfl (s_bld rfl (cells := (meC me0 none none 0 0).toArray) (by kernel_rfl) (s_st E (vs := meC me0 none none 0 0) rfl rfl rfl rfl (Ext.heap (hE37.trans (hE8.trans hE9)) hh3) rfl rfl rfl (Nat.le_refl _) (s_as rfl (s_nil ?_))))
      obtain ⟨g1, g2, g3⟩ := err me 14 w9 (by decide) (hE37.trans (hE8.trans hE9))
      exact W_ret ⟨_, resC2 E rfl rfl rfl g1 rfl rfl, goal (by unfold mergeE; rw [h5, h6]; rfl) g2, g3⟩
    refine W_sr rfl (s_fa E rfl rfl (s_ld E rfl rfl (hr7 1 _ rfl) (s_callx rfl rfl (Ret.eqv (metric_twice_CharMetric_c rfl hR6.nch hR6.ch (fun _ _ _ => metric_compareCodes_c)) (congrArg Value.bool h5)) fun w8 hE8 => (s_mv rfl (s_g1 rfl (s_fa E rfl rfl (s_g1 rfl (s_ld E rfl rfl (Ext.row hE8 hr7 2 _ rfl) (s_g1 rfl (s_callx rfl rfl (Ret.eqv (metric_twice_LigRule_c rfl hR6.nru (hR6.ext hE8).ru (fun _ _ _ => metric_ComparePairs_c)) (congrArg Value.bool h6)) fun w9 hE9 => (s_pk rfl (s_as rfl (s_nil ?_)))))))))))))
    refine W_if rfl (fun h => by cases h) (fun _ => ?_)
    have hE79 := hE8.trans hE9
    cases h7 : validM me
    · refine W_sr rfl (s_lda (xs := meC me p3 q3 c3 d3) E rfl rfl (Ext.row hE79 hr7) rfl (s_callx rfl rfl (Ret.eqv (metric_Valid_c (hR6.ext hE79)) (congrArg Value.bool h7)) fun w10 hE10 => (s_not rfl (s_as rfl (s_nil ?_)))))
      refine W_if rfl (fun _ => ?_) (fun h => by cases h)
      refine W_sr rfl (s_bld rfl (cells := (meC me0 none none 0 0).toArray) (by kernel_rfl) (s_st E (vs := meC me0 none none 0 0) rfl rfl rfl rfl (Ext.heap (hE37.trans (hE79.trans hE10)) hh3) rfl rfl rfl (Nat.le_refl _) (s_as rfl (s_nil ?_))))
      obtain ⟨g1, g2, g3⟩ := err me 3 w10 (by decide) (hE37.trans (hE79.trans hE10))
      exact W_ret ⟨_, resC2 E rfl rfl rfl g1 rfl rfl, goal (by unfold mergeE; rw [h5, h6, h7]; rfl) g2, g3⟩
    · refine W_sr rfl (s_lda (xs := meC me p3 q3 c3 d3) E rfl rfl (Ext.row hE79 hr7) rfl (s_callx rfl rfl (Ret.eqv (metric_Valid_c (hR6.ext hE79)) (congrArg Value.bool h7)) fun w10 hE10 => (s_not rfl (s_as rfl (s_nil ?_)))))
      refine W_if rfl (fun h => by cases h) (fun _ => W_skip ?_)
      refine hK _ _ ?_
      have hE3x := hE37.trans (hE79.trans hE10)
      have fin := fin_cell (vs := meC me p3 q3 c3 d3) (hE03.trans hE3x) (show w.heap.size ≤ w2.heap.size by have := hE1.size; have := hE2.size; omega) (Ext.heap hE3x hh3) rfl
      refine W_sr rfl (s_lda (xs := meC me p3 q3 c3 d3) E rfl rfl (Ext.row (hE79.trans hE10) hr7) rfl (s_st E (vs := meC me p3 q3 c3 d3) rfl rfl rfl rfl (Ext.heap hE3x hh3) rfl rfl rfl (Nat.le_refl _) (s_as rfl (s_nil ?_))))
      refine W_ret ⟨_, resC2 E rfl rfl rfl fin.1 rfl rfl, goal (show mergeE me = 0 by unfold mergeE; rw [h5, h6, h7]; rfl) ⟨p3, q3, c3, d3, rfl, ?_⟩, fin.2⟩
      exact meR_store (hR6.ext (hE79.trans hE10)) (Ext.heap hE3x hh3) rfl
end
end Go.Proofs.YthfnijlgmjkedaaGreat
namespace Go.Proofs.YthfnijlgmjkedaaGreat
set_option maxRecDepth 100000
set_option maxHeartbeats 1000000
set_option linter.unusedVariables false
set_option linter.unusedSimpArgs false
open Go Go.Fx Go.Proofs.YthfnijlgmjkedaaGreat.Tab Go.RowKit
/-! ## Box -/
def boxGo (m : Me) : Bool → Int × Int × Int → List Int → (Int × Int × Int) × Int
  | _, acc, [] => (acc, 0)
  | first, acc, code :: l =>
    let r := findM m code
    if r.2 = 0 then
      let y := if first then r.1.height else acc.2.1
      let z := if first then r.1.depth else acc.2.2
      boxGo m false (acc.1 + r.1.width, (if r.1.height > y then r.1.height else y), (if r.1.depth > z then r.1.depth else z)) l
    else ((0, 0, 0), r.2)
def boxM (m : Me) (codes : List Int) : (Int × Int × Int) × Int := if validM m && decide (codes.length ≤ 2000) then boxGo m true (0, 0, 0) codes else ((0, 0, 0), 2)
def bxC (t : Int × Int × Int) : List Value := [iV t.1, iV t.2.1, iV t.2.2]
theorem find_char {m : Me} {code : Int} (hv : validM m = true) (h : (findM m code).2 = 0) : charB (findM m code).1 = true := by
  unfold findM at *
  rw [if_pos hv] at *
  cases hb : hitL codeCmp m.chars ⟨code, 0, 0, 0⟩ with
  | false => rw [hb] at h; cases h
  | true =>
    have hl := hit_lt hb
    have := (valid_parts hv).2.2.1
    rw [List.all_eq_true] at this
    simp only [if_true]
    simpa [hl] using this _ (List.getElem_mem hl)
theorem char_width {c : Ch} (h : charB c = true) : -268435455 ≤ c.width ∧ c.width ≤ 268435455 := by
  simp only [charB, coordB, Bool.and_eq_true, decide_eq_true_eq] at h; omega
section
variable {w : World}
theorem metric_Box_c {m : Me} {p q pc : Option Addr} {c d n k : Nat} {codes : List Int} (hm : MeR w m p q) (hn : n = codes.length) (hl : n ≤ 1000000) (hp : SlR w pc (codes.map iV)) :
    Ret Go.Proofs.Tryz.prog 26 #[meV m p q c d, .slice pc n k] w fun v w' => v = .tuple #[.agg (bxC (boxM m codes).1).toArray, iV (boxM m codes).2] ∧ Ext w w' := by
  refine enterC Go.Proofs.Tryz.func26 rfl rfl rfl ?_
  refine W_sr rfl (s_bxA rfl fun w1 hE1 hh1 hs1 => (s_alA E rfl fun w2 hE2 hh2 hs2 => (s_as rfl (s_nil ?_))))
  have hE02 := hE1.trans hE2
  have hr2 : Row w2 ⟨w.heap.size, 0, none⟩ (meC m p q c d) := row_heap (Ext.heap hE2 hh1)
  have fin : ∀ (t : Int × Int × Int) {w' : World}, Ext w2 w' → Row (w'.setRow w1.heap.size (splice (Value.agg #[iV 0, iV 0, iV 0]).cells 0 (bxC t))) ⟨w1.heap.size, 0, none⟩ (bxC t) ∧ Ext w (w'.setRow w1.heap.size (splice (Value.agg #[iV 0, iV 0, iV 0]).cells 0 (bxC t))) := fun t w' hE =>
    fin_cell (vs := bxC t) (hE02.trans hE) hE1.size (Ext.heap hE hh2) rfl
  refine W_seq ?_
  cases h0 : validM m
  · refine W_sr rfl (s_lda (xs := meC m p q c d) E rfl rfl hr2 rfl (s_callx rfl rfl (Ret.eqv (metric_Valid_c (hm.ext hE02)) (congrArg Value.bool h0)) fun w3 hE3 => (s_not rfl (s_mv rfl (s_g0 rfl (s_g0 rfl (s_g0 rfl (s_pk rfl (s_nil ?_)))))))))
    refine W_if rfl (fun _ => ?_) (fun h => by cases h)
    refine W_sr rfl (s_bld rfl (cells := (bxC (0, 0, 0)).toArray) (by kernel_rfl) (s_st E (vs := bxC (0, 0, 0)) rfl rfl rfl rfl (Ext.heap hE3 hh2) rfl rfl rfl (Nat.le_refl _) (s_as rfl (s_nil ?_))))
    have f := fin (0, 0, 0) hE3
    have e : boxM m codes = ((0, 0, 0), 2) := by unfold boxM; rw [h0]; rfl
    exact W_ret ⟨_, resC2 E rfl rfl rfl f.1 rfl rfl, by rw [e]; rfl, f.2⟩
  by_cases h1 : (2000 : Int) < n
  · refine W_sr rfl (s_lda (xs := meC m p q c d) E rfl rfl hr2 rfl (s_callx rfl rfl (Ret.eqv (metric_Valid_c (hm.ext hE02)) (congrArg Value.bool h0)) fun w3 hE3 => (s_not rfl (s_mv rfl (s_g1 rfl (s_mv rfl (s_g1 rfl (s_len E rfl rfl (s_g1 rfl (s_cmp (c := true) rfl rfl (decide_eq_true h1) (s_pk rfl (s_nil ?_))))))))))))
    refine W_if rfl (fun _ => ?_) (fun h => by cases h)
    refine W_sr rfl (s_bld rfl (cells := (bxC (0, 0, 0)).toArray) (by kernel_rfl) (s_st E (vs := bxC (0, 0, 0)) rfl rfl rfl rfl (Ext.heap hE3 hh2) rfl rfl rfl (Nat.le_refl _) (s_as rfl (s_nil ?_))))
    have f := fin (0, 0, 0) hE3
    have e : boxM m codes = ((0, 0, 0), 2) := by unfold boxM; rw [h0, decide_eq_false (show ¬ codes.length ≤ 2000 by omega)]; rfl
    exact W_ret ⟨_, resC2 E rfl rfl rfl f.1 rfl rfl, by rw [e]; rfl, f.2⟩
  have hv2 : n ≤ 2000 := by omega
  have e : boxM m codes = boxGo m true (0, 0, 0) codes := by unfold boxM; rw [h0, decide_eq_true (show codes.length ≤ 2000 by omega)]; rfl
  rw [e]
  refine W_sr rfl (s_lda (xs := meC m p q c d) E rfl rfl hr2 rfl (s_callx rfl rfl (Ret.eqv (metric_Valid_c (hm.ext hE02)) (congrArg Value.bool h0)) fun w3 hE3 => (s_not rfl (s_mv rfl (s_g1 rfl (s_mv rfl (s_g1 rfl (s_len E rfl rfl (s_g1 rfl (s_cmp (c := false) rfl rfl (decide_eq_false h1) (s_pk rfl (s_nil ?_))))))))))))
  refine W_if rfl (fun h => by cases h) (fun _ => W_skip ?_)
  refine W_sr rfl (s_alA E rfl fun w4 hE4 hh4 hs4 => (s_nil ?_))
  refine W_seq ?_
  refine W_sr rfl (s_mv rfl (s_len E rfl rfl (s_mv rfl (s_nil ?_))))
  have hE24 := hE3.trans hE4
  have hsz : w2.heap.size ≤ w3.heap.size := hE3.size
  have hs1' := hE1.size
  refine W_block ?_
  refine W_loop (fun r ρ w' => ∃ ρ' i t, ρ = upd (upd (upd (upd (upd (upd ρ' 2 (.pointer (some ⟨w.heap.size, 0, none⟩))) 4 (.pointer (some ⟨w1.heap.size, 0, none⟩))) 6 (.pointer (some ⟨w3.heap.size, 0, none⟩))) 20 (.slice pc n k)) 21 (iV n)) 22 (iV (i : Nat)) ∧ i ≤ n ∧ r = n - i ∧
      Mod (fun b => b = w3.heap.size) w4 w' ∧ w'.heap[w3.heap.size]? = some (.cells (bxC t).toArray 47 (0, 0)) ∧ -(i * 268435455 : Int) ≤ t.1 ∧ t.1 ≤ i * 268435455 ∧ boxGo m true (0, 0, 0) codes = boxGo m (decide (i = 0)) t (codes.drop i)) n
    ⟨_, 0, (0, 0, 0), u6 rfl rfl rfl rfl rfl rfl, by omega, by omega, Mod.refl, hh4, by decide, by decide, rfl⟩ ?_
  rintro r _ w5 ⟨ρ, i, t, rfl, hi, rfl, hM5, hh5, ht1, ht2, hgo⟩
  have hE25 : Ext w2 w5 := Ext.thenMod hE24 hM5 (fun b hb he => by omega)
  refine W_sr rfl (s_lss rfl rfl (s_nil ?_))
  refine W_seq ?_
  refine W_if rfl (fun hc => W_skip ?_) (fun hc => W_exit ?_)
  · have hc := of_decide_eq_true hc
    have hil : i < codes.length := by omega
    obtain ⟨a, rfl, hcell⟩ := sl_map hp hil
    refine W_seq (W_block ?_)
    refine W_sr rfl (s_mv rfl (s_ia E rfl rfl rfl rfl (by omega) (s_ld E rfl rfl (Ext.cell (hE02.trans hE25) hcell) (s_as rfl (s_as rfl (s_nil ?_))))))
    refine W_sr rfl (s_lda (xs := meC m p q c d) E rfl rfl (Ext.row hE25 hr2) rfl (s_mv rfl (s_callx rfl rfl (metric_Find_c (code := codes[i]) (hm.ext (hE02.trans hE25))) fun w6 hE6 => (s_mv rfl (s_ex rfl rfl (s_ex rfl rfl (s_alst E rfl rfl rfl rfl rfl fun w7 hE7 hs7 hh7 => (s_as rfl (s_nil ?_)))))))))
    have hdrop : codes.drop i = codes[i] :: codes.drop (i + 1) := List.drop_eq_getElem_cons hil
    have hfc := find_char (m := m) (code := codes[i]) h0
    rw [hdrop, boxGo] at hgo
    have hrc : Row w7 ⟨w6.heap.size, 0, none⟩ (chC (findM m codes[i]).1) := row_heap hh7
    obtain ⟨⟨ch, er⟩, hr⟩ : ∃ r, findM m codes[i] = r := ⟨_, rfl⟩
    rw [hr] at hfc hgo hrc ⊢
    simp only at hrc
    simp only at hfc hgo
    have hE57 := hE6.trans hE7
    have hh7' := Ext.heap hE57 hh5
    have hM7 := hM5.trans (Mod.of_ext hE57)
    have keepc : ∀ {w' cs}, Row w' ⟨w6.heap.size, 0, none⟩ (chC ch) → Row (w'.setRow w3.heap.size cs) ⟨w6.heap.size, 0, none⟩ (chC ch) := fun h => (setRow_mod (M := fun b => b = w3.heap.size) rfl).row h (fun (h : w6.heap.size = w3.heap.size) => by have := hE6.size; have := hM5.size; omega)
    have hE27 := hE25.trans hE57
    have hs5 := hM5.size
    refine W_n9 2 4 6 7 9 10 20 21 22 (.pointer (some ⟨w.heap.size, 0, none⟩)) (.pointer (some ⟨w1.heap.size, 0, none⟩)) (.pointer (some ⟨w3.heap.size, 0, none⟩)) (iV i) (.pointer (some ⟨w6.heap.size, 0, none⟩)) (iV er) (.slice (some a) n k) (iV n) (iV i) rfl rfl rfl rfl rfl rfl rfl rfl rfl fun ρ' => ?_
    refine W_seq ?_
    by_cases he : er = 0
    case neg =>
      refine W_sr rfl (s_mv rfl (s_cmp (c := true) rfl rfl (decide_eq_true he) (s_nil ?_)))
      refine W_if rfl (fun _ => ?_) (fun h => by cases h)
      refine W_sr rfl (s_bld rfl (cells := (bxC (0, 0, 0)).toArray) (by kernel_rfl) (s_mv rfl (s_st E (vs := bxC (0, 0, 0)) rfl rfl rfl rfl (Ext.heap hE27 hh2) rfl rfl rfl (Nat.le_refl _) (s_as rfl (s_nil ?_)))))
      have f := fin (0, 0, 0) hE27
      rw [if_neg he] at hgo
      exact W_ret ⟨_, resC2 E rfl rfl rfl f.1 rfl rfl, by rw [hgo]; rfl, f.2⟩
    subst he
    have hw := char_width (hfc rfl)
    rw [if_pos rfl] at hgo
    refine W_sr rfl (s_mv rfl (s_cmp (c := false) rfl rfl (by decide) (s_nil ?_)))
    refine W_if rfl (fun h => by cases h) (fun _ => W_skip ?_)
    refine W_sk fun K hK => ?_
    obtain ⟨y, hy⟩ : ∃ y, y = if i = 0 then ch.height else t.2.1 := ⟨_, rfl⟩
    obtain ⟨z, hz⟩ : ∃ z, z = if i = 0 then ch.depth else t.2.2 := ⟨_, rfl⟩
    have H : ∀ (ρ : Fr) w', Mod (fun b => b = w3.heap.size) w4 w' → w'.heap.size = w7.heap.size → Row w' ⟨w6.heap.size, 0, none⟩ (chC ch) → w'.heap[w3.heap.size]? = some (.cells (bxC (t.1, y, z)).toArray 47 (0, 0)) → ρ 2 = .pointer (some ⟨w.heap.size, 0, none⟩) → ρ 4 = .pointer (some ⟨w1.heap.size, 0, none⟩) → ρ 6 = .pointer (some ⟨w3.heap.size, 0, none⟩) → ρ 9 = .pointer (some ⟨w6.heap.size, 0, none⟩) → ρ 20 = .slice (some a) n k → ρ 21 = iV n → ρ 22 = iV i → K ρ w' := by
      intro ρ w8 hM8 hs8 hrc8 hh8 q2 q4 q6 q9 q20 q21 q22
      rw [u7 q2 q4 q6 q9 q20 q21 q22]
      refine hK _ _ ?_
      have hr8 := row_heap hh8
      refine W_reg rfl (s_iaA (i := 0) E rfl rfl rfl rfl (by decide) (s_ld E rfl rfl (hr8 0 _ rfl) (s_fa E rfl rfl (s_ld E rfl rfl (hrc8 1 _ rfl) (s_add (a := t.1) (b := ch.width) rfl rfl (by omega) (s_iaA (i := 1) E rfl rfl rfl rfl (by decide) (s_ld E rfl rfl (hr8 1 _ rfl) (s_fa E rfl rfl (s_ld E rfl rfl (hrc8 2 _ rfl) (s_max rfl rfl (s_iaA (i := 2) E rfl rfl rfl rfl (by decide) (s_ld E rfl rfl (hr8 2 _ rfl) (s_fa E rfl rfl (s_ld E rfl rfl (hrc8 3 _ rfl) (s_max rfl rfl (s_bld rfl (cells := (bxC (t.1 + ch.width, (if ch.height > y then ch.height else y), (if ch.depth > z then ch.depth else z))).toArray) (by kernel_rfl) (s_st E (vs := bxC (t.1 + ch.width, (if ch.height > y then ch.height else y), (if ch.depth > z then ch.depth else z))) rfl rfl rfl rfl hh8 rfl rfl rfl (Nat.le_refl _) (s_nil ?_))))))))))))))))))
      refine W_reg rfl (s_add rfl rfl (by omega) (s_mv rfl (s_nil ?_)))
      refine ⟨n - (i + 1), by omega, _, i + 1, _, u6 rfl rfl rfl rfl rfl rfl, by omega, rfl, hM8.trans (setRow_mod rfl), setRow_heap _ _ _ _ _ _ hh8, ?_, ?_, ?_⟩
      · show -(((i + 1 : Nat) : Int) * 268435455) ≤ t.1 + ch.width; omega
      · show t.1 + ch.width ≤ ((i + 1 : Nat) : Int) * 268435455; omega
      · rw [hgo, hy, hz]
        simp
    by_cases hi0 : i = 0
    · refine W_sr rfl (s_mv rfl (s_cmp (c := true) rfl rfl (decide_eq_true (show ((i : Nat) : Int) = 0 by omega)) (s_nil ?_)))
      refine W_if rfl (fun _ => ?_) (fun h => by cases h)
      rw [if_pos hi0] at hy hz
      subst hy; subst hz
      refine W_d (fun w' => Row w' ⟨w6.heap.size, 0, none⟩ (chC ch)) [] orders (D_pure 0 rfl rfl (by kernel_rfl) rfl (fun _ => r_fa E rfl rfl) (fun _ => hrc) (D_take 1 rfl rfl (by kernel_rfl) rfl (fun _ hs => r_ld E rfl rfl (hs 2 _ rfl)) hrc (D_pure 2 rfl rfl (by kernel_rfl) rfl (fun _ => r_fa E rfl rfl) (fun _ => hrc) (D_take 3 rfl rfl (by kernel_rfl) rfl (fun _ hs => r_ld E rfl rfl (hs 3 _ rfl)) hrc (D_pure 4 rfl rfl (by kernel_rfl) rfl (fun _ => r_iaA (i := 1) E rfl rfl rfl rfl (by decide)) (fun _ => hrc) (D_one 5 rfl (by kernel_rfl) rfl (s_st1 E rfl rfl (ad0 _ 1) rfl rfl hh7' (show 1 < 3 by decide) (s_nil ⟨(keepc hrc), (D_pure 6 rfl rfl (by kernel_rfl) rfl (fun _ => r_iaA (i := 2) E rfl rfl rfl rfl (by decide)) (fun _ => (keepc hrc)) (D_one 7 rfl (by kernel_rfl) rfl (s_st1 E rfl rfl (ad0 _ 2) rfl rfl (setRow_heap _ _ _ _ _ (0, 0) hh7') (show 2 < 3 by decide) (s_nil ⟨(keepc (keepc hrc)), (D_done (by kernel_rfl) ?_)⟩))))⟩))))))))
      refine H _ _ (hM7.trans ((Mod.of_ext Ext.drew0).trans ((setRow_mod (M := fun b => b = w3.heap.size) rfl).trans (setRow_mod (M := fun b => b = w3.heap.size) rfl)))) (by simp) ?_ (setRow_heap _ _ _ _ _ _ (setRow_heap _ _ _ _ _ (0, 0) hh7')) rfl rfl rfl rfl rfl rfl rfl
      exact keepc (keepc hrc)
    · refine W_sr rfl (s_mv rfl (s_cmp (c := false) rfl rfl (decide_eq_false (show ¬ ((i : Nat) : Int) = 0 by omega)) (s_nil ?_)))
      refine W_if rfl (fun h => by cases h) (fun _ => W_skip ?_)
      rw [if_neg hi0] at hy hz
      subst hy; subst hz
      exact H _ _ hM7 rfl hrc hh7' rfl rfl rfl rfl rfl rfl rfl
  · have hc := of_decide_eq_false hc
    have hie : i = codes.length := by omega
    rw [hie, List.drop_of_length_le (Nat.le_refl _)] at hgo
    have f := fin t hE25
    refine W_sr rfl (s_lda (xs := bxC t) E rfl rfl (row_heap hh5) rfl (s_st E (vs := bxC t) rfl rfl rfl rfl (Ext.heap hE25 hh2) rfl rfl rfl (Nat.le_refl _) (s_as rfl (s_nil ?_))))
    exact W_ret ⟨_, resC2 E rfl rfl rfl f.1 rfl rfl, by rw [hgo]; rfl, f.2⟩
end
end Go.Proofs.YthfnijlgmjkedaaGreat
namespace Go.Proofs.YthfnijlgmjkedaaGreat
set_option maxRecDepth 100000
set_option maxHeartbeats 1000000
set_option linter.unusedVariables false
set_option linter.unusedSimpArgs false
open Go Go.Fx Go.Proofs.YthfnijlgmjkedaaGreat.Tab Go.RowKit
theorem floor_trunc (a b : Int) (hb : 0 < b) : (if a.tmod b < 0 then a.tdiv b - 1 else a.tdiv b) = a / b := by
  by_cases ha : 0 ≤ a
  · have h1 : a.tmod b = a % b := Int.tmod_eq_emod_of_nonneg ha
    have h2 : a.tdiv b = a / b := Int.tdiv_eq_ediv_of_nonneg ha
    rw [h1, h2, if_neg (by have := Int.emod_nonneg a (show b ≠ 0 by omega); omega)]
  · obtain ⟨n, rfl⟩ : ∃ n, a = -n := ⟨-a, by omega⟩
    have h1 : (-n).tmod b = -(n % b) := by rw [Int.neg_tmod, Int.tmod_eq_emod_of_nonneg (by omega)]
    have h2 : (-n).tdiv b = -(n / b) := by rw [Int.neg_tdiv, Int.tdiv_eq_ediv_of_nonneg (by omega)]
    rw [h1, h2]
    have h3 := Int.emod_nonneg n (show b ≠ 0 by omega)
    have h4 := Int.emod_lt_of_pos n hb
    have h5 := Int.mul_ediv_add_emod n b
    by_cases h : n % b = 0
    · rw [if_neg (by omega)]
      refine ((Int.ediv_emod_unique hb (r := 0) (q := -(n / b))).2 ⟨?_, by omega, hb⟩).1.symm
      rw [Int.mul_neg]; omega
    · rw [if_pos (by omega)]
      refine ((Int.ediv_emod_unique hb (r := b - n % b) (q := -(n / b) - 1)).2 ⟨?_, by omega, by omega⟩).1.symm
      rw [Int.mul_sub, Int.mul_neg, Int.mul_one]; omega
def scaledI (msize size v : Int) : Int := (2 * v * size + msize) / (2 * msize)
theorem mul_bd {a b A B : Int} (ha : -A ≤ a ∧ a ≤ A) (hb : 0 ≤ b ∧ b ≤ B) (hA : 0 ≤ A) : -(A * B) ≤ a * b ∧ a * b ≤ A * B := by
  constructor
  · have h1 : -A * b ≤ a * b := Int.mul_le_mul_of_nonneg_right ha.1 hb.1
    have h2 : A * b ≤ A * B := Int.mul_le_mul_of_nonneg_left hb.2 hA
    rw [Int.neg_mul] at h1
    omega
  · have h1 : a * b ≤ A * b := Int.mul_le_mul_of_nonneg_right ha.2 hb.1
    have h2 : A * b ≤ A * B := Int.mul_le_mul_of_nonneg_left hb.2 hA
    omega
section
variable {w : World}
theorem metric_Scale_1_c {v size msize : Int} {s b : Addr} {xs : List Value} (hv : -268435455 ≤ v ∧ v ≤ 268435455) (hs : 1 ≤ size ∧ size ≤ 268435455) (hm : 1 ≤ msize ∧ msize ≤ 268435455) (hcs : w.cell? s = some (iV size)) (hcb : Row w b (iV msize :: xs)) :
    Ret Go.Proofs.Tryz.prog 61 #[iV v, .pointer (some s), .pointer (some b)] w fun r w' => r = iV (scaledI msize size v) ∧ Ext w w' := by
  have h2 := mul_bd (a := 2 * v) (b := size) (A := 536870910) (B := 268435455) ⟨by omega, by omega⟩ ⟨by omega, by omega⟩ (by decide)
  rw [show (536870910 : Int) * 268435455 = 144115187002114050 by decide] at h2
  refine enter Go.Proofs.Tryz.func61 rfl rfl rfl ?_
  refine W_sr rfl (s_as rfl (s_nil ?_))
  have hs0 : ∀ w', Ext w w' → w'.cell? s = some (iV size) := fun w' h => Ext.cell h hcs
  have hb0 : ∀ w', Ext w w' → w'.cell? (b.add 0) = some (iV msize) := fun w' h => Ext.row h hcb 0 _ rfl
  refine W_qr (Ext w) orders rfl (by kernel_rfl) (Ext.drew0) (q_mv rfl (q_mul (a := 2) (b := v) rfl rfl (by omega) (q_ld E rfl rfl hs0 (q_mul (a := 2 * v) (b := size) rfl rfl (by omega) (q_fa E rfl rfl (q_ld E rfl rfl hb0 (q_add (a := 2 * v * size) (b := msize) rfl rfl (by omega) (q_fa E rfl rfl (q_ld E rfl rfl hb0 (q_mul (a := 2) (b := msize) rfl rfl (by omega) (q_as rfl (q_as rfl (q_nil ?_)))))))))))))
  intro w2 hE2
  obtain ⟨a, ha⟩ : ∃ a, a = 2 * v * size + msize := ⟨_, rfl⟩
  obtain ⟨c, hc⟩ : ∃ c, c = 2 * msize := ⟨_, rfl⟩
  have hft := floor_trunc a c (by omega)
  have hqd : -(144115187002114050 + 268435455) ≤ a.tdiv c ∧ a.tdiv c ≤ 144115187002114050 + 268435455 := by
    have h1 := Int.natAbs_tdiv_le_natAbs a c
    omega
  have eq : IntKind.i64.wrap (a.tdiv c) = a.tdiv c := wrap64_in (by omega) (by omega)
  refine W_n2 5 6 (iV a) (iV c) (by rw [ha]; rfl) (by rw [hc]; rfl) fun ρ => ?_
  refine W_sr rfl (s_mv rfl (s_mv rfl (s_quow rfl rfl (by omega) (s_as rfl (s_nil ?_)))))
  refine W_n3 5 6 7 (iV a) (iV c) (iV (a.tdiv c)) rfl rfl (congrArg iV eq) fun ρ => ?_
  refine W_sk fun K hK => ?_
  have H : ∀ (ρ : Fr), ρ 7 = iV (a / c) → K ρ w2 := by
    intro ρ q7
    rw [u1 q7]
    refine hK _ _ ?_
    refine W_sr rfl (s_mv rfl (s_as rfl (s_nil ?_)))
    exact W_ret ⟨_, rfl, by unfold scaledI; rw [← ha, ← hc]; rfl, hE2⟩
  refine W_sr rfl (s_mv rfl (s_mv rfl (s_rem rfl rfl (by omega) (s_lss rfl rfl (s_nil ?_)))))
  refine W_if rfl (fun hd => ?_) (fun hd => W_skip ?_)
  · have hd := of_decide_eq_true hd
    refine W_reg rfl (s_mv rfl (s_sub rfl rfl (by omega) (s_as rfl (s_nil ?_))))
    rw [if_pos hd] at hft
    exact H _ (congrArg iV hft)
  · have hd := of_decide_eq_false hd
    rw [if_neg hd] at hft
    exact H _ (congrArg iV hft)
end
end Go.Proofs.YthfnijlgmjkedaaGreat
namespace Go.Proofs.YthfnijlgmjkedaaGreat
set_option maxRecDepth 100000
set_option maxHeartbeats 1000000
set_option linter.unusedVariables false
set_option linter.unusedSimpArgs false
open Go Go.Fx Go.Proofs.YthfnijlgmjkedaaGreat.Tab Go.RowKit
def scCh (m size : Int) (c : Ch) : Ch := ⟨c.code, scaledI m size c.width, scaledI m size c.height, scaledI m size c.depth⟩
def scRu (m size : Int) (r : Ru) : Ru := if r.op = 0 then ⟨r.first, r.next, r.op, scaledI m size r.value⟩ else r
def scaleM (m : Me) (size : Int) : Me := ⟨size, m.chars.map (scCh m.size size), m.rules.map (scRu m.size size)⟩
def scaleE (m : Me) (size : Int) : Int := if validM m && sizeB size then (if validM (scaleM m size) then 0 else 17) else 2
def mixF {α : Type} (g : α → α) (l : Nat → α) (i : Nat) : Nat → α := fun j => if j < i then g (l j) else l j
theorem mixF_succ {α : Type} (g : α → α) (l : Nat → α) (i : Nat) : mixF g l (i + 1) = updF (mixF g l i) i (g (l i)) := by
  funext j
  by_cases h : j = i
  · subst h; simp [mixF, updF]
  · simp only [mixF, updF, if_neg h]
    by_cases h2 : j < i
    · rw [if_pos h2, if_pos (by omega)]
    · rw [if_neg h2, if_neg (by omega)]
theorem own_ne {w : World} {e e' : TypeId} {v v' : Value} {n n' : Nat} {xs xs' : List Value} {sz sz' : Nat} (h : Own w e sz v n xs) (h' : Own w e' sz' v' n' xs') (he : e ≠ e') : ∀ k, v.ownBlock = some k → ¬ v'.ownBlock = some k := by
  intro k hk hk'
  rcases h.2 with ⟨rfl, _⟩ | ⟨g, cap, cur, rfl, hb, hg, _⟩
  · cases hk
  · rcases h'.2 with ⟨rfl, _⟩ | ⟨g', cap', cur', rfl, hb', hg', _⟩
    · cases hk'
    · have h1 : g = k := Option.some.inj hk
      have h2 : g' = k := Option.some.inj hk'
      subst h1; subst h2
      rw [hg] at hg'
      exact he (Obj.cells.inj (Option.some.inj hg')).2.1
theorem mixF_zero {α : Type} (g : α → α) (l : Nat → α) : mixF g l 0 = l := by funext j; unfold mixF; simp
theorem mix_map {α : Type} [Inhabited α] (g : α → α) (l : List α) : (List.range l.length).map (mixF g (fun i => l.getD i default) l.length) = l.map g := by
  apply List.ext_getElem (by simp)
  intro i h1 h2
  simp at h1
  simp [mixF, h1]
theorem own_off {w : World} {e ty : TypeId} {v : Value} {n : Nat} {xs : List Value} {sz g : Nat} {cs : Array Value} {f : Nat × Nat} (h : Own w e sz v n xs) (hh : w.heap[g]? = some (.cells cs ty f)) (he : e ≠ ty) : ∀ k, v.ownBlock = some k → k ≠ g := by
  intro k hk hk'
  subst hk'
  rcases h.2 with ⟨rfl, _⟩ | ⟨g', cap, cur, rfl, hb, hg, _⟩
  · cases hk
  · have h1 : g' = k := Option.some.inj hk
    subst h1
    rw [hg] at hh
    exact he (Obj.cells.inj (Option.some.inj hh)).2.1
theorem arr_mix {α : Type} [Inhabited α] {C : α → List Value} (hC : ∀ x, (C x).length = 4) {g : α → α} {w0 w' : World} {e : TypeId} {l : List α} {p : Option Addr} {c : Nat} (o : Own w0 e 4 (.slice p l.length c) l.length (l.flatMap C))
    (hA : ∀ b, p = some ⟨b, 0, none⟩ → ArrR C w' b l.length (mixF g (fun i => l.getD i default) l.length)) : SlR w' p ((l.map g).flatMap C) := by
  obtain ⟨p', c', he, hsl, _, hb⟩ := Own.form o
  cases he
  cases p with
  | none =>
    have h0 : l.flatMap C = [] := hsl
    have hl : l = [] := by
      have := flat_length C 4 hC l
      rw [h0] at this
      exact List.eq_nil_of_length_eq_zero (by simp at this; omega)
    subst hl; rfl
  | some a =>
    obtain ⟨b, rfl⟩ : ∃ b, a = ⟨b, 0, none⟩ := ⟨_, (hb a rfl).2⟩
    have := arr_sl hC (hA b rfl)
    rwa [mix_map] at this
theorem arr_val {n : Nat} {f : Nat → Ru} {cs : Array Value} (hs : n * 4 ≤ cs.size) (hc : ∀ i, i < n → ∀ j v, (ruC (f i))[j]? = some v → cs[i * 4 + j]? = some v) {k : Nat} (hk : k < n) (x : Int) :
    ∀ i, i < n → ∀ j v, (ruC (updF f k ⟨(f k).first, (f k).next, (f k).op, x⟩ i))[j]? = some v → (cs.setIfInBounds (k * 4 + 3) (iV x))[i * 4 + j]? = some v := by
  intro i hi j v hv
  have hj : j < 4 := by
    have := (List.getElem?_eq_some_iff.1 hv).1
    rwa [ruC_len] at this
  unfold updF at hv
  by_cases he : i = k
  · subst he
    rw [if_pos rfl] at hv
    by_cases h3 : j = 3
    · subst h3
      rw [Array.getElem?_setIfInBounds_self_of_lt (by omega)]
      exact hv
    · rw [Array.getElem?_setIfInBounds_ne (by omega)]
      refine hc i hi j v ?_
      have : j = 0 ∨ j = 1 ∨ j = 2 := by omega
      rcases this with h | h | h <;> subst h <;> exact hv
  · rw [if_neg he] at hv
    rw [Array.getElem?_setIfInBounds_ne (by omega)]
    exact hc i hi j v hv
theorem ArrR.mod {α : Type} {C : α → List Value} {w w' : World} {M : Nat → Prop} {g n : Nat} {f : Nat → α} (h : ArrR C w g n f) (hM : Mod M w w') (hg : ¬ M g) : ArrR C w' g n f := by
  obtain ⟨cs, ty, hh, h2⟩ := h
  exact ⟨cs, ty, hM.heap hh hg, h2⟩
section
variable {w : World}
theorem metric_Scale_c {m : Me} {p q : Option Addr} {c d : Nat} {size : Int} (hm : MeR w m p q) :
    Ret Go.Proofs.Tryz.prog 24 #[meV m p q c d, iV size] w fun v w' => Ans w' v (scaleM m size) (scaleE m size) ∧ FrA w.heap.size v ∧ Ext w w' := by
  refine enterC Go.Proofs.Tryz.func24 rfl rfl rfl ?_
  refine W_sr rfl (s_bxA rfl fun w1 hE1 hh1 hs1 => (s_bxA rfl fun w2 hE2 hh2 hs2 => (s_alA E rfl fun w3 hE3 hh3 hs3 => (s_as rfl (s_nil ?_)))))
  have hE03 := hE1.trans (hE2.trans hE3)
  have hr1 : Row w3 ⟨w.heap.size, 0, none⟩ (meC m p q c d) := row_heap (Ext.heap (hE2.trans hE3) hh1)
  have hc2 : Row w3 ⟨w1.heap.size, 0, none⟩ [iV size] := row_heap (Ext.heap hE3 hh2)
  have err : ∀ (m : Me) (e : Int) (w' : World), e ≠ 0 → Ext w3 w' → Row (w'.setRow w2.heap.size (splice (Value.agg #[iV 0, .slice none 0 0, .slice none 0 0]).cells 0 (meC me0 none none 0 0))) ⟨w2.heap.size, 0, none⟩ (meC me0 none none 0 0) ∧
      Ans (w'.setRow w2.heap.size (splice (Value.agg #[iV 0, .slice none 0 0, .slice none 0 0]).cells 0 (meC me0 none none 0 0))) (.tuple #[.agg (meC me0 none none 0 0).toArray, iV e]) m e ∧ FrA w.heap.size (.tuple #[.agg (meC me0 none none 0 0).toArray, iV e]) ∧ Ext w (w'.setRow w2.heap.size (splice (Value.agg #[iV 0, .slice none 0 0, .slice none 0 0]).cells 0 (meC me0 none none 0 0))) := by
    intro m e w' he hE'
    have fin := fin_cell (vs := meC me0 none none 0 0) (hE03.trans hE') (show w.heap.size ≤ w2.heap.size by have := hE1.size; have := hE2.size; omega) (Ext.heap hE' hh3) rfl
    exact ⟨fin.1, ans_err he, fr_err, fin.2⟩
  refine W_seq ?_
  cases h0 : validM m
  · refine W_sr rfl (s_lda (xs := meC m p q c d) E rfl rfl hr1 rfl (s_callx rfl rfl (Ret.eqv (metric_Valid_c (hm.ext hE03)) (congrArg Value.bool h0)) fun w4 hE4 => (s_not rfl (s_mv rfl (s_g0 rfl (s_g0 rfl (s_g0 rfl (s_pk rfl (s_nil ?_)))))))))
    refine W_if rfl (fun _ => ?_) (fun h => by cases h)
    refine W_sr rfl (s_bld rfl (cells := (meC me0 none none 0 0).toArray) (by kernel_rfl) (s_st E (vs := meC me0 none none 0 0) rfl rfl rfl rfl (Ext.heap hE4 hh3) rfl rfl rfl (Nat.le_refl _) (s_as rfl (s_nil ?_))))
    obtain ⟨g1, g2, g3⟩ := err (scaleM m size) 2 w4 (by decide) hE4
    have e : scaleE m size = 2 := by unfold scaleE; rw [h0]; rfl
    exact W_ret ⟨_, resC2 E rfl rfl rfl g1 rfl rfl, by rw [e]; exact g2, g3⟩
  cases h1 : sizeB size
  · refine W_sr rfl (s_lda (xs := meC m p q c d) E rfl rfl hr1 rfl (s_callx rfl rfl (Ret.eqv (metric_Valid_c (hm.ext hE03)) (congrArg Value.bool h0)) fun w4 hE4 => (s_not rfl (s_mv rfl (s_g1 rfl (s_ld E rfl rfl (Row.get0 (Ext.row hE4 hc2)) (s_g1 rfl (s_callp rfl rfl (Ret.eqv metric_IsSize_c (congrArg Value.bool h1)) (s_g1 rfl (s_not rfl (s_pk rfl (s_nil ?_))))))))))))
    refine W_if rfl (fun _ => ?_) (fun h => by cases h)
    refine W_sr rfl (s_bld rfl (cells := (meC me0 none none 0 0).toArray) (by kernel_rfl) (s_st E (vs := meC me0 none none 0 0) rfl rfl rfl rfl (Ext.heap hE4 hh3) rfl rfl rfl (Nat.le_refl _) (s_as rfl (s_nil ?_))))
    obtain ⟨g1, g2, g3⟩ := err (scaleM m size) 2 w4 (by decide) hE4
    have e : scaleE m size = 2 := by unfold scaleE; rw [h0, h1]; rfl
    exact W_ret ⟨_, resC2 E rfl rfl rfl g1 rfl rfl, by rw [e]; exact g2, g3⟩
  refine W_sr rfl (s_lda (xs := meC m p q c d) E rfl rfl hr1 rfl (s_callx rfl rfl (Ret.eqv (metric_Valid_c (hm.ext hE03)) (congrArg Value.bool h0)) fun w4 hE4 => (s_not rfl (s_mv rfl (s_g1 rfl (s_ld E rfl rfl (Row.get0 (Ext.row hE4 hc2)) (s_g1 rfl (s_callp rfl rfl (Ret.eqv metric_IsSize_c (congrArg Value.bool h1)) (s_g1 rfl (s_not rfl (s_pk rfl (s_nil ?_))))))))))))
  refine W_if rfl (fun h => by cases h) (fun _ => W_skip ?_)
  have hvp := valid_parts h0
  refine W_sr rfl (s_mf (vs := []) (us := [.pointer (some ⟨w1.heap.size, 0, none⟩), .pointer (some ⟨w.heap.size, 0, none⟩)]) rfl rfl (s_as rfl (s_nil ?_)))
  refine W_n4 2 3 4 6 (.pointer (some ⟨w.heap.size, 0, none⟩)) (.pointer (some ⟨w1.heap.size, 0, none⟩)) (.pointer (some ⟨w2.heap.size, 0, none⟩)) (.func (.func 61) #[] #[.pointer (some ⟨w1.heap.size, 0, none⟩), .pointer (some ⟨w.heap.size, 0, none⟩)]) rfl rfl rfl rfl fun ρ => ?_
  have hr4 := Ext.row hE4 hr1
  have hc4 := Ext.row hE4 hc2
  refine W_dr (Ext w4) [] orders (D_take 0 rfl rfl (by kernel_rfl) rfl (fun _ hs => r_ld E rfl rfl (Row.get0 (Ext.row hs hc4))) Ext.drew0 (D_pure 1 rfl rfl (by kernel_rfl) rfl (fun _ => r_fa E rfl rfl) (fun _ => Ext.drew0) (D_take 2 rfl rfl (by kernel_rfl) rfl (fun _ hs => r_ld E rfl rfl (Ext.row hs hr4 1 _ rfl)) Ext.drew0 (D_pure 4 rfl rfl (by kernel_rfl) rfl (fun _ => r_fa E rfl rfl) (fun _ => Ext.drew0) (D_take 5 rfl rfl (by kernel_rfl) rfl (fun _ hs => r_ld E rfl rfl (Ext.row hs hr4 2 _ rfl)) Ext.drew0 ?_)))))
  refine D_set [3, 6, 7, 8] (fun j v w => match j with
    | 3 => Own w 50 4 v m.chars.length (m.chars.flatMap chC) ∧ ∀ k, v.ownBlock = some k → w4.heap.size ≤ k
    | 6 => Own w 45 4 v m.rules.length (m.rules.flatMap ruC) ∧ ∀ k, v.ownBlock = some k → w4.heap.size ≤ k
    | 7 => ∃ v3 v6, v = .agg #[iV size, v3, v6] ∧ (Own w 50 4 v3 m.chars.length (m.chars.flatMap chC) ∧ ∀ k, v3.ownBlock = some k → w4.heap.size ≤ k) ∧ Own w 45 4 v6 m.rules.length (m.rules.flatMap ruC) ∧ ∀ k, v6.ownBlock = some k → w4.heap.size ≤ k
    | 8 => ∃ g, v = .pointer (some ⟨g, 0, none⟩) ∧ w.heap[g]? = some (.cells (Value.agg #[iV 0, .slice none 0 0, .slice none 0 0]).cells 25 (0, 0)) ∧ w4.heap.size ≤ g
    | _ => True) (fuel' := 1) rfl (by kernel_rfl) (by kernel_rfl) (fun _ h => Ext.drew0.trans h) ?_ ?_ ?_
  · intro j v w1 w2 hE h
    split at h
    · exact ⟨Ext.owns hE h.1, h.2⟩
    · exact ⟨Ext.owns hE h.1, h.2⟩
    · obtain ⟨v3, v6, h1, ⟨h2, h3⟩, h4, h5⟩ := h; exact ⟨v3, v6, h1, ⟨Ext.owns hE h2, h3⟩, Ext.owns hE h4, h5⟩
    · obtain ⟨g, h1, h2, h3⟩ := h; exact ⟨g, h1, Ext.heap hE h2, h3⟩
    · exact trivial
  · refine List.forall_mem_cons.2 ⟨?_, List.forall_mem_cons.2 ⟨?_, List.forall_mem_cons.2 ⟨?_, List.forall_mem_cons.2 ⟨?_, by simp⟩⟩⟩⟩
    · intro o ho ρ' w' hE hag hd
      obtain rfl := Option.some.inj ho
      have f : ρ' 24 = .slice p m.chars.length c := hag 24 (by kernel_rfl)
      have hE' := Ext.drew0.trans hE
      rw [u1 f]
      refine s_call rfl rfl (slices_Clone_CharMetric_c rfl hm.nch (hm.ext (hE03.trans (hE4.trans hE'))).ch) fun v w2 h => s_nil ⟨h.2.2, _, rfl, h.1, fun k hk => by have := h.2.1 k hk; have := hE'.size; omega⟩
    · intro o ho ρ' w' hE hag hd
      obtain rfl := Option.some.inj ho
      have f : ρ' 27 = .slice q m.rules.length d := hag 27 (by kernel_rfl)
      have hE' := Ext.drew0.trans hE
      rw [u1 f]
      refine s_call rfl rfl (slices_Clone_LigRule_c rfl hm.nru (hm.ext (hE03.trans (hE4.trans hE'))).ru) fun v w2 h => s_nil ⟨h.2.2, _, rfl, h.1, fun k hk => by have := h.2.1 k hk; have := hE'.size; omega⟩
    · intro o ho ρ' w' hE hag hd
      obtain rfl := Option.some.inj ho
      have f : ρ' 22 = iV size := hag 22 (by kernel_rfl)
      have g3 := hd 3 (by decide) (by kernel_rfl)
      have g6 := hd 6 (by decide) (by kernel_rfl)
      obtain ⟨p3, c3, e3, _⟩ := Own.form g3.1
      obtain ⟨p6, c6, e6, _⟩ := Own.form g6.1
      have e3 : ρ' 25 = .slice p3 m.chars.length c3 := e3
      have e6 : ρ' 28 = .slice p6 m.rules.length c6 := e6
      have g3 : Own w' 50 4 (ρ' 25) m.chars.length (m.chars.flatMap chC) ∧ ∀ k, (ρ' 25).ownBlock = some k → w4.heap.size ≤ k := g3
      have g6 : Own w' 45 4 (ρ' 28) m.rules.length (m.rules.flatMap ruC) ∧ ∀ k, (ρ' 28).ownBlock = some k → w4.heap.size ≤ k := g6
      rw [e3] at g3
      rw [e6] at g6
      rw [u3 f e3 e6]
      exact s_bld rfl (cells := #[iV size, .slice p3 m.chars.length c3, .slice p6 m.rules.length c6]) (by kernel_rfl) (s_nil ⟨Mod.refl, _, rfl, _, _, rfl, g3, g6⟩)
    · intro o ho ρ' w' hE hag hd
      obtain rfl := Option.some.inj ho
      exact s_alA E rfl fun w2 hE2 hh2 hs2 => s_nil ⟨hE2, _, rfl, _, rfl, hh2, (Ext.drew0.trans hE).size⟩
  · intro ρ' w6 hE6 hag hG
    obtain ⟨v3, v6, hv7, ⟨o3, hf3⟩, o6, hf6⟩ := hG 7 (by decide)
    obtain ⟨g, hv8, hhg, hgl⟩ := hG 8 (by decide)
    obtain ⟨p3, c3, rfl, _⟩ := o3.form
    obtain ⟨p6, c6, rfl, _⟩ := o6.form
    have hv7 : ρ' 29 = .agg #[iV size, .slice p3 m.chars.length c3, .slice p6 m.rules.length c6] := hv7
    have hv8 : ρ' 7 = .pointer (some ⟨g, 0, none⟩) := hv8
    have f2 : ρ' 2 = .pointer (some ⟨w.heap.size, 0, none⟩) := hag 2 (by kernel_rfl)
    have f3 : ρ' 3 = .pointer (some ⟨w1.heap.size, 0, none⟩) := hag 3 (by kernel_rfl)
    have f4 : ρ' 4 = .pointer (some ⟨w2.heap.size, 0, none⟩) := hag 4 (by kernel_rfl)
    have f6 : ρ' 6 = .func (.func 61) #[] #[.pointer (some ⟨w1.heap.size, 0, none⟩), .pointer (some ⟨w.heap.size, 0, none⟩)] := hag 6 (by kernel_rfl)
    have hE46 := Ext.drew0.trans hE6
    rw [u6 f2 f3 f4 f6 hv8 hv7]
    have fin6 := fin_cell (vs := [iV size, .slice p3 m.chars.length c3, .slice p6 m.rules.length c6]) hE46 hgl hhg rfl
    have o3' := Mod.owns (setRow_mod (w := w6) (cs := splice (Value.agg #[iV 0, .slice none 0 0, .slice none 0 0]).cells 0 [iV size, .slice p3 m.chars.length c3, .slice p6 m.rules.length c6]) (M := fun k => k = g) rfl) o3 (own_off o3 hhg (by decide))
    have o6' := Mod.owns (setRow_mod (w := w6) (cs := splice (Value.agg #[iV 0, .slice none 0 0, .slice none 0 0]).cells 0 [iV size, .slice p3 m.chars.length c3, .slice p6 m.rules.length c6]) (M := fun k => k = g) rfl) o6 (own_off o6 hhg (by decide))
    have hg3 := own_off o3 hhg (by decide)
    have hg6 := own_off o6 hhg (by decide)
    have h36 := own_ne o3 o6 (by decide)
    have hE47 := fin6.2
    have hr7 := fin6.1
    refine (D_one 9 rfl (by kernel_rfl) rfl (s_st E (vs := [iV size, .slice p3 m.chars.length c3, .slice p6 m.rules.length c6]) rfl rfl rfl rfl hhg rfl rfl rfl (Nat.le_refl _) (s_nil ⟨hE47, (D_done (by kernel_rfl) ?_)⟩)))
    generalize w6.setRow g (splice (Value.agg #[iV 0, .slice none 0 0, .slice none 0 0]).cells 0 [iV size, .slice p3 m.chars.length c3, .slice p6 m.rules.length c6]) = w7 at hE47 hr7 o3' o6' ⊢
    clear fin6 hhg hE6 hag hG hE46 o3 o6
    have keep : ∀ {w'}, Mod (fun k => (Value.slice p3 m.chars.length c3).ownBlock = some k ∨ (Value.slice p6 m.rules.length c6).ownBlock = some k) w7 w' → Row w' ⟨w.heap.size, 0, none⟩ (meC m p q c d) ∧ Row w' ⟨w1.heap.size, 0, none⟩ [iV size] ∧ Row w' ⟨g, 0, none⟩ [iV size, .slice p3 m.chars.length c3, .slice p6 m.rules.length c6] := by
      intro w' hM
      have b1 := hE1.size; have b2 := hE2.size; have b3 := hE3.size; have b4 := hE4.size
      refine ⟨hM.row (Ext.row hE47 hr4) ?_, hM.row (Ext.row hE47 hc4) ?_, hM.row hr7 ?_⟩
      · rintro (h | h)
        · have := hf3 _ h; simp only at this; omega
        · have := hf6 _ h; simp only at this; omega
      · rintro (h | h)
        · have := hf3 _ h; simp only at this; omega
        · have := hf6 _ h; simp only at this; omega
      · rintro (h | h)
        · exact hg3 _ h rfl
        · exact hg6 _ h rfl
    have hsb : 1 ≤ size ∧ size ≤ 268435455 := by simp only [sizeB, Bool.and_eq_true, decide_eq_true_eq] at h1; omega
    have hmb : 1 ≤ m.size ∧ m.size ≤ 268435455 := by have := hvp.1; simp only [sizeB, Bool.and_eq_true, decide_eq_true_eq] at this; omega
    have call : ∀ {v : Int} {w'}, (-268435455 ≤ v ∧ v ≤ 268435455) → Row w' ⟨w.heap.size, 0, none⟩ (meC m p q c d) → Row w' ⟨w1.heap.size, 0, none⟩ [iV size] → Ret Go.Proofs.Tryz.prog 61 #[iV v, .pointer (some ⟨w1.heap.size, 0, none⟩), .pointer (some ⟨w.heap.size, 0, none⟩)] w' fun r w'' => r = iV (scaledI m.size size v) ∧ Ext w' w'' := fun hv ha hb => metric_Scale_1_c hv hsb hmb (Row.get0 hb) ha
    have hsz7 : w4.heap.size ≤ w7.heap.size := hE47.size
    refine W_seq ?_
    refine W_sr rfl (s_fa E rfl rfl (s_ld E rfl rfl (hr7 1 _ rfl) (s_len E rfl rfl (s_mv rfl (s_nil ?_)))))
    refine W_block ?_
    refine W_loop (fun r ρ w' => ∃ ρ' i, ρ = upd (upd (upd (upd (upd (upd (upd (upd ρ' 2 (.pointer (some ⟨w.heap.size, 0, none⟩))) 3 (.pointer (some ⟨w1.heap.size, 0, none⟩))) 4 (.pointer (some ⟨w2.heap.size, 0, none⟩))) 6 (.func (.func 61) #[] #[.pointer (some ⟨w1.heap.size, 0, none⟩), .pointer (some ⟨w.heap.size, 0, none⟩)])) 7 (.pointer (some ⟨g, 0, none⟩))) 31 (.slice p3 m.chars.length c3)) 32 (iV m.chars.length)) 33 (iV (i : Nat)) ∧ i ≤ m.chars.length ∧ r = m.chars.length - i ∧
        Mod (fun k => (Value.slice p3 m.chars.length c3).ownBlock = some k) w7 w' ∧ ∀ b, p3 = some ⟨b, 0, none⟩ → ArrR chC w' b m.chars.length (mixF (scCh m.size size) (fun i => m.chars.getD i default) i)) m.chars.length
      ⟨_, 0, u8 rfl rfl rfl rfl rfl rfl rfl rfl, by omega, by omega, Mod.refl, fun b hb => by subst hb; rw [mixF_zero]; exact own_arr chC_len rfl o3'⟩ ?_
    rintro r _ w8 ⟨ρ, i, rfl, hi, rfl, hM8, hA8⟩
    refine W_sr rfl (s_lss rfl rfl (s_nil ?_))
    refine W_seq ?_
    refine W_if rfl (fun hd => W_skip ?_) (fun hd => W_exit ?_)
    · have hd := of_decide_eq_true hd
      have hil : i < m.chars.length := by omega
      obtain ⟨pp, cp, hpp, hslp, _, hbp⟩ := Own.form o3'
      cases hpp
      obtain ⟨ab, rfl, _⟩ := hslp.some (by intro h0; have := flat_length chC 4 chC_len m.chars; rw [h0] at this; simp at this; omega)
      obtain ⟨b, rfl⟩ : ∃ b, ab = ⟨b, 0, none⟩ := ⟨_, (hbp ab rfl).2⟩
      obtain ⟨cs, ty, hh, hsz, hc⟩ := hA8 b rfl
      have hxi : mixF (scCh m.size size) (fun i => m.chars.getD i default) i i = m.chars[i] := by simp [mixF, hil]
      have hrow := arr_row hh hc hil
      rw [hxi] at hrow
      have hcb : charB m.chars[i] = true := by have := hvp.2.2.1; rw [List.all_eq_true] at this; exact this _ (List.getElem_mem hil)
      simp only [charB, coordB, Bool.and_eq_true, decide_eq_true_eq] at hcb
      have hli : m.chars.getD i default = m.chars[i] := by simp [hil]
      generalize m.chars[i] = x at hrow hcb hxi hli ⊢
      refine W_seq (W_block ?_)
      refine W_sr rfl (s_mv rfl (s_ia E rfl rfl rfl rfl hil (s_lda E rfl rfl hrow rfl (s_alA E rfl fun w9 hE9 hh9 hs9 => (s_as rfl (s_st E (vs := chC x) rfl rfl rfl rfl hh9 rfl rfl rfl (Nat.le_refl _) (s_nil ?_)))))))
      have fin9 := fin_cell (vs := chC x) hE9 (Nat.le_refl _) hh9 rfl
      have hE8x := fin9.2
      have hrx := fin9.1
      generalize w9.setRow w8.heap.size (splice (Value.agg #[iV 0, iV 0, iV 0, iV 0]).cells 0 (chC x)) = w10 at hE8x hrx ⊢
      have hM10 := hM8.trans (Mod.of_ext hE8x)
      obtain ⟨k1, k2, k3⟩ := keep (hM10.mono (fun k _ h => .inl h))
      have hh10 := Ext.heap hE8x hh
      have set1 := arr_set chC_len hsz hc hil (scCh m.size size x)
      refine W_n10 2 3 4 6 7 8 9 31 32 33 (.pointer (some ⟨w.heap.size, 0, none⟩)) (.pointer (some ⟨w1.heap.size, 0, none⟩)) (.pointer (some ⟨w2.heap.size, 0, none⟩)) (.func (.func 61) #[] #[.pointer (some ⟨w1.heap.size, 0, none⟩), .pointer (some ⟨w.heap.size, 0, none⟩)]) (.pointer (some ⟨g, 0, none⟩)) (iV i) (.pointer (some ⟨w8.heap.size, 0, none⟩)) (.slice (some ⟨b, 0, none⟩) m.chars.length c3) (iV m.chars.length) (iV i) rfl rfl rfl rfl rfl rfl rfl rfl rfl rfl fun ρ => ?_
      refine W_d (Ext w10) [19] orders (D_pure 0 rfl rfl (by kernel_rfl) rfl (fun _ => r_fa E rfl rfl) (fun _ => Ext.drew0) (D_take 1 rfl rfl (by kernel_rfl) rfl (fun _ hs => r_ld E rfl rfl (Ext.row hs k3 1 _ rfl)) Ext.drew0 (D_pure 2 rfl rfl (by kernel_rfl) rfl (fun _ => r_mv rfl) (fun _ => Ext.drew0) (D_pure 3 rfl rfl (by kernel_rfl) rfl (fun _ => r_fa E rfl rfl) (fun _ => Ext.drew0) (D_take 4 rfl rfl (by kernel_rfl) rfl (fun _ hs => r_ld E rfl rfl (Ext.row hs hrx 0 _ rfl)) Ext.drew0 (D_pure 5 rfl rfl (by kernel_rfl) rfl (fun _ => r_mv rfl) (fun _ => Ext.drew0) (D_pure 6 rfl rfl (by kernel_rfl) rfl (fun _ => r_fa E rfl rfl) (fun _ => Ext.drew0) (D_take 7 rfl rfl (by kernel_rfl) rfl (fun _ hs => r_ld E rfl rfl (Ext.row hs hrx 1 _ rfl)) Ext.drew0 (D_pure 9 rfl rfl (by kernel_rfl) rfl (fun _ => r_mv rfl) (fun _ => Ext.drew0) (D_pure 10 rfl rfl (by kernel_rfl) rfl (fun _ => r_fa E rfl rfl) (fun _ => Ext.drew0) (D_take 11 rfl rfl (by kernel_rfl) rfl (fun _ hs => r_ld E rfl rfl (Ext.row hs hrx 2 _ rfl)) Ext.drew0 (D_pure 13 rfl rfl (by kernel_rfl) rfl (fun _ => r_mv rfl) (fun _ => Ext.drew0) (D_pure 14 rfl rfl (by kernel_rfl) rfl (fun _ => r_fa E rfl rfl) (fun _ => Ext.drew0) (D_take 15 rfl rfl (by kernel_rfl) rfl (fun _ hs => r_ld E rfl rfl (Ext.row hs hrx 3 _ rfl)) Ext.drew0 (D_one 8 rfl (by kernel_rfl) rfl (s_callx rfl rfl (call hcb.2.1 k1 k2) fun w11 hE11 => (s_nil ⟨(Ext.drew0.trans hE11), (D_one 12 rfl (by kernel_rfl) rfl (s_callx rfl rfl (call hcb.2.2.1 (Ext.row hE11 k1) (Ext.row hE11 k2)) fun w12 hE12 => (s_nil ⟨(Ext.drew0.trans (hE11.trans hE12)), (D_one 16 rfl (by kernel_rfl) rfl (s_callx rfl rfl (call hcb.2.2.2 (Ext.row (hE11.trans hE12) k1) (Ext.row (hE11.trans hE12) k2)) fun w13 hE13 => (s_nil ⟨(Ext.drew0.trans (hE11.trans (hE12.trans hE13))), (D_pure 17 rfl rfl (by kernel_rfl) rfl (fun _ => r_bld rfl (cells := (chC (scCh m.size size x)).toArray) (by kernel_rfl)) (fun _ => (Ext.drew0.trans (hE11.trans (hE12.trans hE13)))) (D_pure 18 rfl rfl (by kernel_rfl) rfl (fun _ => r_ia E rfl rfl rfl rfl hil) (fun _ => (Ext.drew0.trans (hE11.trans (hE12.trans hE13)))) (D_oneM 19 rfl (by kernel_rfl) rfl (by kernel_rfl) (s_st E (vs := chC (scCh m.size size x)) rfl rfl (ad0 b _) rfl (Ext.heap (hE11.trans (hE12.trans hE13)) hh10) rfl rfl rfl (by rw [chC_len]; omega) (s_nil (D_done (by kernel_rfl) ?_))))))⟩)))⟩)))⟩)))))))))))))))))
      refine W_reg rfl (s_add rfl rfl (by omega) (s_mv rfl (s_nil ?_)))
      refine ⟨m.chars.length - (i + 1), by omega, _, i + 1, u8 rfl rfl rfl rfl rfl rfl rfl rfl, by omega, rfl, hM10.trans ((Mod.of_ext (Ext.drew0.trans (hE11.trans (hE12.trans hE13)))).trans (setRow_mod rfl)), fun b' hb' => ?_⟩
      cases hb'
      refine ⟨_, ty, setRow_heap _ _ _ _ ty (0, 0) (Ext.heap (hE11.trans (hE12.trans hE13)) hh10), set1.1, ?_⟩
      rw [mixF_succ, hli]
      exact set1.2
    · have hd := of_decide_eq_false hd
      have hie : i = m.chars.length := by omega
      rw [hie] at hA8
      have o6'' := hM8.owns o6' (fun k hk h => h36 k h hk)
      obtain ⟨k1, k2, k3⟩ := keep (hM8.mono (fun k _ h => .inl h))
      refine W_n5 2 3 4 6 7 (.pointer (some ⟨w.heap.size, 0, none⟩)) (.pointer (some ⟨w1.heap.size, 0, none⟩)) (.pointer (some ⟨w2.heap.size, 0, none⟩)) (.func (.func 61) #[] #[.pointer (some ⟨w1.heap.size, 0, none⟩), .pointer (some ⟨w.heap.size, 0, none⟩)]) (.pointer (some ⟨g, 0, none⟩)) rfl rfl rfl rfl rfl fun ρ => ?_
      clear hd hie hi
      refine W_seq ?_
      refine W_sr rfl (s_fa E rfl rfl (s_ld E rfl rfl (k3 2 _ rfl) (s_len E rfl rfl (s_mv rfl (s_nil ?_)))))
      refine W_block ?_
      refine W_loop (fun r ρ w' => ∃ ρ' i, ρ = upd (upd (upd (upd (upd (upd (upd (upd ρ' 2 (.pointer (some ⟨w.heap.size, 0, none⟩))) 3 (.pointer (some ⟨w1.heap.size, 0, none⟩))) 4 (.pointer (some ⟨w2.heap.size, 0, none⟩))) 6 (.func (.func 61) #[] #[.pointer (some ⟨w1.heap.size, 0, none⟩), .pointer (some ⟨w.heap.size, 0, none⟩)])) 7 (.pointer (some ⟨g, 0, none⟩))) 59 (.slice p6 m.rules.length c6)) 60 (iV m.rules.length)) 61 (iV (i : Nat)) ∧ i ≤ m.rules.length ∧ r = m.rules.length - i ∧
          Mod (fun k => (Value.slice p6 m.rules.length c6).ownBlock = some k) w8 w' ∧ ∀ b, p6 = some ⟨b, 0, none⟩ → ArrR ruC w' b m.rules.length (mixF (scRu m.size size) (fun i => m.rules.getD i default) i)) m.rules.length
        ⟨_, 0, u8 rfl rfl rfl rfl rfl rfl rfl rfl, by omega, by omega, Mod.refl, fun b hb => by subst hb; rw [mixF_zero]; exact own_arr ruC_len rfl o6''⟩ ?_
      clear k1 k2 k3
      rintro r _ w9 ⟨ρ, i, rfl, hi, rfl, hM9, hA9⟩
      have hM79 : Mod (fun k => (Value.slice p3 m.chars.length c3).ownBlock = some k ∨ (Value.slice p6 m.rules.length c6).ownBlock = some k) w7 w9 := (hM8.mono (fun k _ h => .inl h)).trans (hM9.mono (fun k _ h => .inr h))
      obtain ⟨k1, k2, k3⟩ := keep hM79
      refine W_sr rfl (s_lss rfl rfl (s_nil ?_))
      refine W_seq ?_
      refine W_if rfl (fun hd => W_skip ?_) (fun hd => W_exit ?_)
      · have hd := of_decide_eq_true hd
        have hil : i < m.rules.length := by omega
        obtain ⟨pp, cp, hpp, hslp, _, hbp⟩ := Own.form o6''
        cases hpp
        obtain ⟨ab, rfl, _⟩ := hslp.some (by intro h0; have := flat_length ruC 4 ruC_len m.rules; rw [h0] at this; simp at this; omega)
        obtain ⟨b, rfl⟩ : ∃ b, ab = ⟨b, 0, none⟩ := ⟨_, (hbp ab rfl).2⟩
        obtain ⟨cs, ty, hh, hsz, hc⟩ := hA9 b rfl
        have hxi : mixF (scRu m.size size) (fun i => m.rules.getD i default) i i = m.rules[i] := by simp [mixF, hil]
        have hrow := arr_row hh hc hil
        rw [hxi] at hrow
        have hrb : ruleB m.rules[i] = true := by have := hvp.2.2.2.2.2.1; rw [List.all_eq_true] at this; exact this _ (List.getElem_mem hil)
        have hli : m.rules.getD i default = m.rules[i] := by simp [hil]
        generalize m.rules[i] = x at hrow hrb hxi hli ⊢
        refine W_seq (W_block ?_)
        refine W_sr rfl (s_mv rfl (s_ia E rfl rfl rfl rfl hil (s_lda E rfl rfl hrow rfl (s_alA E rfl fun w10 hE10 hh10 hs10 => (s_as rfl (s_st E (vs := ruC x) rfl rfl rfl rfl hh10 rfl rfl rfl (Nat.le_refl _) (s_nil ?_)))))))
        have fin10 := fin_cell (vs := ruC x) hE10 (Nat.le_refl _) hh10 rfl
        have hE9x := fin10.2
        have hrx := fin10.1
        generalize w10.setRow w9.heap.size (splice (Value.agg #[iV 0, iV 0, iV 0, iV 0]).cells 0 (ruC x)) = w11 at hE9x hrx ⊢
        have hM11 := hM9.trans (Mod.of_ext hE9x)
        have hh11 := Ext.heap hE9x hh
        refine W_n10 2 3 4 6 7 10 11 59 60 61 (.pointer (some ⟨w.heap.size, 0, none⟩)) (.pointer (some ⟨w1.heap.size, 0, none⟩)) (.pointer (some ⟨w2.heap.size, 0, none⟩)) (.func (.func 61) #[] #[.pointer (some ⟨w1.heap.size, 0, none⟩), .pointer (some ⟨w.heap.size, 0, none⟩)]) (.pointer (some ⟨g, 0, none⟩)) (iV i) (.pointer (some ⟨w9.heap.size, 0, none⟩)) (.slice (some ⟨b, 0, none⟩) m.rules.length c6) (iV m.rules.length) (iV i) rfl rfl rfl rfl rfl rfl rfl rfl rfl rfl fun ρ => ?_
        by_cases hop : x.op = 0
        · refine W_sr rfl (s_fa E rfl rfl (s_ld E rfl rfl (hrx 2 _ rfl) (s_cmp (c := true) rfl rfl (decide_eq_true hop) (s_nil ?_))))
          refine W_if rfl (fun _ => ?_) (fun h => by cases h)
          have hvb : -268435455 ≤ x.value ∧ x.value ≤ 268435455 := by
            simp only [ruleB, hop, if_true, coordB, Bool.and_eq_true, decide_eq_true_eq] at hrb
            omega
          have set1 := arr_val hsz hc hil (scaledI m.size size x.value)
          refine W_d (Ext w11) [9] orders (D_pure 0 rfl rfl (by kernel_rfl) rfl (fun _ => r_fa E rfl rfl) (fun _ => Ext.drew0) (D_take 1 rfl rfl (by kernel_rfl) rfl (fun _ hs => r_ld E rfl rfl (Ext.row hs (Ext.row hE9x k3) 2 _ rfl)) Ext.drew0 (D_pure 2 rfl rfl (by kernel_rfl) rfl (fun _ => r_mv rfl) (fun _ => Ext.drew0) (D_pure 3 rfl rfl (by kernel_rfl) rfl (fun _ => r_mv rfl) (fun _ => Ext.drew0) (D_pure 4 rfl rfl (by kernel_rfl) rfl (fun _ => r_fa E rfl rfl) (fun _ => Ext.drew0) (D_take 5 rfl rfl (by kernel_rfl) rfl (fun _ hs => r_ld E rfl rfl (Ext.row hs hrx 3 _ rfl)) Ext.drew0 (D_one 6 rfl (by kernel_rfl) rfl (s_callx rfl rfl (call hvb (Ext.row hE9x k1) (Ext.row hE9x k2)) fun w12 hE12 => (s_nil ⟨(Ext.drew0.trans hE12), (D_pure 7 rfl rfl (by kernel_rfl) rfl (fun _ => r_ia E rfl rfl rfl rfl hil) (fun _ => (Ext.drew0.trans hE12)) (D_pure 8 rfl rfl (by kernel_rfl) rfl (fun _ => r_fa E rfl rfl) (fun _ => (Ext.drew0.trans hE12)) (D_oneM 9 rfl (by kernel_rfl) rfl (by kernel_rfl) (s_st1 E rfl rfl (by rw [add_add, ad0]) rfl rfl (Ext.heap hE12 hh11) (by omega) (s_nil (D_done (by kernel_rfl) ?_))))))⟩)))))))))
          refine W_reg rfl (s_add rfl rfl (by omega) (s_mv rfl (s_nil ?_)))
          refine ⟨m.rules.length - (i + 1), by omega, _, i + 1, u8 rfl rfl rfl rfl rfl rfl rfl rfl, by omega, rfl, hM11.trans ((Mod.of_ext (Ext.drew0.trans hE12)).trans (setRow_mod rfl)), fun b' hb' => ?_⟩
          cases hb'
          refine ⟨_, ty, setRow_heap _ _ _ _ ty (0, 0) (Ext.heap hE12 hh11), by simpa using hsz, ?_⟩
          rw [mixF_succ, hli]
          rw [hxi] at set1
          have : scRu m.size size x = ⟨x.first, x.next, x.op, scaledI m.size size x.value⟩ := by unfold scRu; rw [if_pos hop]
          rw [this]
          exact set1
        · refine W_sr rfl (s_fa E rfl rfl (s_ld E rfl rfl (hrx 2 _ rfl) (s_cmp (c := false) rfl rfl (decide_eq_false hop) (s_nil ?_))))
          refine W_if rfl (fun h => by cases h) (fun _ => W_skip ?_)
          refine W_reg rfl (s_add rfl rfl (by omega) (s_mv rfl (s_nil ?_)))
          refine ⟨m.rules.length - (i + 1), by omega, _, i + 1, u8 rfl rfl rfl rfl rfl rfl rfl rfl, by omega, rfl, hM11, fun b' hb' => ?_⟩
          cases hb'
          refine ⟨cs, ty, hh11, hsz, ?_⟩
          have : scRu m.size size x = x := by unfold scRu; rw [if_neg hop]
          rw [mixF_succ, hli, this]
          have e : updF (mixF (scRu m.size size) (fun i => m.rules.getD i default) i) i x = mixF (scRu m.size size) (fun i => m.rules.getD i default) i := by
            funext j; unfold updF; split
            · rename_i h; subst h; exact hxi.symm
            · rfl
          rw [e]; exact hc
      · have hd := of_decide_eq_false hd
        have hie : i = m.rules.length := by omega
        rw [hie] at hA9
        have em : ∀ e1 e2, (Value.agg #[iV size, .slice p3 m.chars.length e1, .slice p6 m.rules.length e2]) = meV (scaleM m size) p3 p6 e1 e2 := by intro e1 e2; simp [meV, scaleM]
        have hR9 : MeR w9 (scaleM m size) p3 p6 := by
          refine ⟨arr_mix chC_len o3' (fun b hb => (hA8 b hb).mod hM9 (fun h => ?_)), arr_mix ruC_len o6'' hA9, by simp [scaleM]; exact hm.nch, by simp [scaleM]; exact hm.nru⟩
          subst hb
          exact h36 b rfl h
        have callV : ∀ w', Ext w9 w' → Ret Go.Proofs.Tryz.prog 13 #[.agg #[iV size, .slice p3 m.chars.length c3, .slice p6 m.rules.length c6]] w' fun v w'' => v = .bool (validM (scaleM m size)) ∧ Ext w' w'' := fun w' hE => by rw [em]; exact metric_Valid_c (hR9.ext hE)
        have hE49 : Ext w4 w9 := Ext.thenMod hE47 hM79 (by
          rintro k hk (h | h)
          · have := hf3 _ h; omega
          · have := hf6 _ h; omega)
        refine W_n2 4 7 (.pointer (some ⟨w2.heap.size, 0, none⟩)) (.pointer (some ⟨g, 0, none⟩)) rfl rfl fun ρ => ?_
        refine W_seq ?_
        cases h7 : validM (scaleM m size)
        · refine W_sr rfl (s_lda E rfl rfl k3 rfl (s_callx rfl rfl (Ret.eqv (callV _ Mod.refl) (congrArg Value.bool h7)) fun w10 hE10 => (s_not rfl (s_nil ?_))))
          refine W_if rfl (fun _ => ?_) (fun h => by cases h)
          refine W_sr rfl (s_bld rfl (cells := (meC me0 none none 0 0).toArray) (by kernel_rfl) (s_st E (vs := meC me0 none none 0 0) rfl rfl rfl rfl (Ext.heap (hE4.trans (hE49.trans hE10)) hh3) rfl rfl rfl (Nat.le_refl _) (s_as rfl (s_nil ?_))))
          obtain ⟨g1, g2, g3⟩ := err (scaleM m size) 17 w10 (by decide) (hE4.trans (hE49.trans hE10))
          have e : scaleE m size = 17 := by unfold scaleE; rw [h0, h1, h7]; rfl
          exact W_ret ⟨_, resC2 E rfl rfl rfl g1 rfl rfl, by rw [e]; exact g2, g3⟩
        · refine W_sr rfl (s_lda E rfl rfl k3 rfl (s_callx rfl rfl (Ret.eqv (callV _ Mod.refl) (congrArg Value.bool h7)) fun w10 hE10 => (s_not rfl (s_nil ?_))))
          refine W_if rfl (fun h => by cases h) (fun _ => W_skip ?_)
          have hE3x := hE4.trans (hE49.trans hE10)
          have fin := fin_cell (vs := [iV size, .slice p3 m.chars.length c3, .slice p6 m.rules.length c6]) (hE03.trans hE3x) (show w.heap.size ≤ w2.heap.size by have := hE1.size; have := hE2.size; omega) (Ext.heap hE3x hh3) rfl
          refine W_sr rfl (s_lda E rfl rfl (Ext.row hE10 k3) rfl (s_st E (vs := [iV size, .slice p3 m.chars.length c3, .slice p6 m.rules.length c6]) rfl rfl rfl rfl (Ext.heap hE3x hh3) rfl rfl rfl (Nat.le_refl _) (s_as rfl (s_nil ?_))))
          have e : scaleE m size = 0 := by unfold scaleE; rw [h0, h1, h7]; rfl
          refine W_ret ⟨_, resC2 E rfl rfl rfl fin.1 rfl rfl, ?_, ⟨scaleM m size, p3, p6, c3, c6, 0, by show Value.tuple #[.agg #[iV size, .slice p3 m.chars.length c3, .slice p6 m.rules.length c6], iV 0] = .tuple #[meV (scaleM m size) p3 p6 c3 c6, iV 0]; rw [em], ?_, ?_⟩, fin.2⟩
          rotate_left
          · intro a ha; subst ha; have := hf3 a.block rfl; have := hE03.size; have := hE4.size; omega
          · intro a ha; subst ha; have := hf6 a.block rfl; have := hE03.size; have := hE4.size; omega
          rw [e]
          refine ⟨p3, p6, c3, c6, ?_, meR_store (hR9.ext hE10) (Ext.heap hE3x hh3) rfl⟩
          show Value.tuple #[.agg #[iV size, .slice p3 m.chars.length c3, .slice p6 m.rules.length c6], iV 0] = .tuple #[meV (scaleM m size) p3 p6 c3 c6, iV 0]
          rw [em]
end
end Go.Proofs.YthfnijlgmjkedaaGreat
namespace Go.Fx
open Go.RowKit
theorem hp_old (w : World) (o : Obj) (i : Nat) (h : i < w.heap.size) : (w.alloc o).heap[i]? = w.heap[i]? := by
  show (w.heap.push o)[i]? = w.heap[i]?
  rw [Array.getElem?_push, if_neg (Nat.ne_of_lt h)]
set_option linter.unusedVariables false
set_option linter.unusedSimpArgs false
/-! ## the blocks that a call has for itself, as a list of chunks that lie apart -/
structure Chunk where
  F : Nat → Prop
  N : Nat
  P : World → Prop
  loc : ∀ w w' : World, (∀ k, F k ∨ k < N → w'.heap[k]? = w.heap[k]?) → P w → P w'
/-- a block whose cells are known -/
def cl (g : Nat) (vs : List Value) (ty : TypeId) : Chunk := ⟨fun k => k = g, 0, fun w => w.heap[g]? = some (.cells vs.toArray ty (0, 0)), fun w w' h hp => by rw [h g (.inl rfl)]; exact hp⟩
theorem owns_loc {w w' : World} {e : TypeId} {sz : Nat} {v : Value} {n : Nat} {xs : List Value} (h : ∀ k, v.ownBlock = some k → w'.heap[k]? = w.heap[k]?) (ho : Own w e sz v n xs) : Own w' e sz v n xs := by
  refine ⟨ho.1, ?_⟩
  rcases ho.2 with hn | ⟨g, cap, cur, rfl, hb, hgg, rest⟩
  · exact .inl hn
  · exact .inr ⟨g, cap, cur, rfl, hb, by rw [h g rfl]; exact hgg, rest⟩
/-- a slice of the call's own -/
def ow (e : TypeId) (sz : Nat) (v : Value) (n : Nat) (xs : List Value) : Chunk := ⟨fun k => v.ownBlock = some k, 0, fun w => Own w e sz v n xs, fun w w' h hp => owns_loc (fun k hk => h k (.inl hk)) hp⟩
structure Sep (w0 w : World) (L : List Chunk) : Prop where
  ext : Ext w0 w
  apart : L.Pairwise fun a b => ∀ k, a.F k → ¬ b.F k
  holds : ∀ c ∈ L, c.P w
  low : ∀ c ∈ L, ∀ k, c.F k → w0.heap.size ≤ k ∧ k < w.heap.size
  inp : ∀ c ∈ L, c.N ≤ w0.heap.size
section
variable {w0 w w' : World} {L : List Chunk}
theorem Sep.start : Sep w w [] := ⟨Mod.refl, List.Pairwise.nil, (fun c h => by cases h), (fun c h => by cases h), (fun c h => by cases h)⟩
theorem Sep.ext_ (h : Sep w0 w L) (hE : Ext w w') : Sep w0 w' L :=
  ⟨h.ext.trans hE, h.apart, fun c hc => c.loc w w' (fun k hk => hE.block k (by
    rcases hk with hk | hk
    · exact (h.low c hc k hk).2
    · have := h.inp c hc; have := h.ext.size; omega) (fun h => h)) (h.holds c hc), fun c hc k hk => ⟨(h.low c hc k hk).1, Nat.lt_of_lt_of_le (h.low c hc k hk).2 hE.size⟩, h.inp⟩
theorem Sep.get (h : Sep w0 w L) {c : Chunk} (i : Nat) (hi : L[i]? = some c) : c.P w := h.holds c (List.mem_of_getElem? hi)
theorem Sep.getL (h : Sep w0 w L) {c : Chunk} (i : Nat) (hi : L[i]? = some c) {k : Nat} (hk : c.F k) : w0.heap.size ≤ k ∧ k < w.heap.size := h.low c (List.mem_of_getElem? hi) k hk
theorem Sep.heap (h : Sep w0 w L) {g : Nat} {vs : List Value} {ty : TypeId} (i : Nat) (hi : L[i]? = some (cl g vs ty)) : w.heap[g]? = some (.cells vs.toArray ty (0, 0)) := h.get i hi
theorem Sep.row (h : Sep w0 w L) {g : Nat} {vs : List Value} {ty : TypeId} (i : Nat) (hi : L[i]? = some (cl g vs ty)) : Row w ⟨g, 0, none⟩ vs := by
  have := row_heap (h.heap i hi); simpa using this
theorem Sep.cell (h : Sep w0 w L) {g j : Nat} {vs : List Value} {ty : TypeId} {v : Value} (i : Nat) (hi : L[i]? = some (cl g vs ty)) (hj : vs[j]? = some v) : w.cell? (Addr.add ⟨g, 0, none⟩ j) = some v := h.row i hi j v hj
theorem Sep.cell0 (h : Sep w0 w L) {g : Nat} {vs : List Value} {ty : TypeId} {v : Value} (i : Nat) (hi : L[i]? = some (cl g vs ty)) (hj : vs[0]? = some v) : w.cell? ⟨g, 0, none⟩ = some v := by
  have := h.row i hi 0 v hj; rwa [add_zero] at this
theorem Sep.own (h : Sep w0 w L) {e : TypeId} {sz n : Nat} {v : Value} {xs : List Value} (i : Nat) (hi : L[i]? = some (ow e sz v n xs)) : Own w e sz v n xs := h.get i hi
/-- two chunks lie apart -/
theorem Sep.ne (h : Sep w0 w L) {c d : Chunk} (i j : Nat) (hi : L[i]? = some c) (hj : L[j]? = some d) (hij : i ≠ j) {k : Nat} (hk : c.F k) : ¬ d.F k := by
  obtain ⟨h1, e1⟩ := List.getElem?_eq_some_iff.1 hi
  obtain ⟨h2, e2⟩ := List.getElem?_eq_some_iff.1 hj
  have hp := List.pairwise_iff_getElem.1 h.apart
  rcases Nat.lt_or_gt_of_ne hij with hlt | hlt
  · have := hp i j h1 h2 hlt k
    rw [e1, e2] at this; exact this hk
  · intro hd
    have := hp j i h2 h1 hlt k
    rw [e1, e2] at this; exact this hd hk
/-- a chunk more -/
theorem Sep.push (h : Sep w0 w L) (hE : Ext w w') (c : Chunk) (hc : c.P w') (hF : ∀ k, c.F k → w.heap.size ≤ k ∧ k < w'.heap.size) (hN : c.N ≤ w0.heap.size) : Sep w0 w' (L ++ [c]) := by
  have h' := h.ext_ hE
  refine ⟨h'.ext, ?_, ?_, ?_, ?_⟩
  · rw [List.pairwise_append]
    refine ⟨h.apart, List.pairwise_singleton _ _, fun a ha b hb k hk hk2 => ?_⟩
    rw [List.mem_singleton] at hb; subst hb
    have := (h.low a ha k hk).2
    have := (hF k hk2).1
    omega
  · intro d hd
    rcases List.mem_append.1 hd with hd | hd
    · exact h'.holds d hd
    · rw [List.mem_singleton] at hd; subst hd; exact hc
  · intro d hd k hk
    rcases List.mem_append.1 hd with hd | hd
    · exact h'.low d hd k hk
    · rw [List.mem_singleton] at hd; subst hd
      have := h.ext.size
      have := hF k hk
      exact ⟨by omega, by omega⟩
  · intro d hd
    rcases List.mem_append.1 hd with hd | hd
    · exact h.inp d hd
    · rw [List.mem_singleton] at hd; subst hd; exact hN
/-- a chunk's blocks have changed, and new ones may have come -/
theorem Sep.upd (h : Sep w0 w L) {c : Chunk} (i : Nat) (hi : L[i]? = some c) (hM : Mod c.F w w') (c' : Chunk) (hc : c'.P w') (hF : ∀ k, c'.F k → c.F k ∨ (w.heap.size ≤ k ∧ k < w'.heap.size)) (hN : c'.N ≤ w0.heap.size) : Sep w0 w' (L.set i c') := by
  obtain ⟨h1, e1⟩ := List.getElem?_eq_some_iff.1 hi
  have hlow : ∀ k, c.F k → w0.heap.size ≤ k ∧ k < w.heap.size := fun k hk => h.getL i hi hk
  have key : ∀ j d, L[j]? = some d → j ≠ i → d.P w' := fun j d hj hne => d.loc w w' (fun k hk => by
    rcases hk with hk | hk
    · exact hM.block k (h.getL j hj hk).2 (h.ne j i hj hi hne hk)
    · have := h.inp d (List.mem_of_getElem? hj)
      have := h.ext.size
      exact hM.block k (by omega) (fun hc => by have := (hlow k hc).1; omega)) (h.get j hj)
  refine ⟨?_, ?_, ?_, ?_, ?_⟩
  · exact Ext.thenMod h.ext hM (fun k hk hck => by have := (hlow k hck).1; omega)
  · rw [List.pairwise_iff_getElem]
    intro a b ha hb hab k hka hkb
    rw [List.length_set] at ha hb
    have ga : L[a]? = some L[a] := List.getElem?_eq_getElem ha
    have gb : L[b]? = some L[b] := List.getElem?_eq_getElem hb
    rw [List.getElem_set] at hka hkb
    by_cases hia : i = a
    · rw [if_pos hia] at hka
      rw [if_neg (by omega)] at hkb
      rcases hF k hka with h2 | h2
      · exact h.ne i b hi gb (by omega) h2 hkb
      · have := (h.getL b gb hkb).2; omega
    · rw [if_neg hia] at hka
      by_cases hib : i = b
      · rw [if_pos hib] at hkb
        rcases hF k hkb with h2 | h2
        · exact h.ne a i ga hi (by omega) hka h2
        · have := (h.getL a ga hka).2; omega
      · rw [if_neg hib] at hkb
        exact h.ne a b ga gb (by omega) hka hkb
  · intro d hd
    obtain ⟨j, hj⟩ := List.getElem?_of_mem hd
    rw [List.getElem?_set] at hj
    by_cases hij : i = j
    · subst hij
      rw [if_pos rfl, if_pos h1] at hj
      cases hj; exact hc
    · rw [if_neg hij] at hj
      exact key j d hj (fun e => hij e.symm)
  · intro d hd k hk
    obtain ⟨j, hj⟩ := List.getElem?_of_mem hd
    rw [List.getElem?_set] at hj
    have hs := h.ext.size
    have hs' := hM.size
    by_cases hij : i = j
    · subst hij
      rw [if_pos rfl, if_pos h1] at hj
      cases hj
      rcases hF k hk with h2 | h2
      · have := hlow k h2; exact ⟨by omega, by omega⟩
      · exact ⟨by omega, by omega⟩
    · rw [if_neg hij] at hj
      have := h.getL j hj hk
      exact ⟨by omega, by omega⟩
  · intro d hd
    obtain ⟨j, hj⟩ := List.getElem?_of_mem hd
    rw [List.getElem?_set] at hj
    by_cases hij : i = j
    · subst hij
      rw [if_pos rfl, if_pos h1] at hj
      cases hj; exact hN
    · rw [if_neg hij] at hj
      exact h.inp d (List.mem_of_getElem? hj)
theorem Sep.setRow (h : Sep w0 w L) {g : Nat} {vs : List Value} {ty : TypeId} (i : Nat) (hi : L[i]? = some (cl g vs ty)) (us : List Value) : Sep w0 (w.setRow g us.toArray) (L.set i (cl g us ty)) :=
  h.upd i hi (setRow_mod (M := fun k => k = g) rfl) (cl g us ty) (setRow_heap w g _ us.toArray ty (0, 0) (h.heap i hi)) (fun k hk => .inl hk) (Nat.zero_le _)
/-- a chunk is let go -/
theorem Sep.drop (h : Sep w0 w L) {L' : List Chunk} (hL : List.Sublist L' L) : Sep w0 w L' := ⟨h.ext, h.apart.sublist hL, fun c hc => h.holds c (hL.subset hc), fun c hc => h.low c (hL.subset hc), fun c hc => h.inp c (hL.subset hc)⟩
theorem Sep.take (h : Sep w0 w L) (k : Nat) : Sep w0 w (L.take k) := h.drop (List.take_sublist k L)
theorem Sep.drew (h : Sep w0 w L) : Sep w0 { w with drawn := w.drawn + 1 } L := h.ext_ Ext.drew0
end
/-! ### steps -/
section
variable {P : Program} {L os : List Oper} {K : Fr → World → Prop} {ρ : Fr} {w w0 : World} {d : Option Tmp} {T : TypeId} {pos : String} {af : Array Edge} {C : List Chunk}
theorem s_bxS (hS : Sep w0 w C) {e : TypeId} {x : Operand} {v : Value} {vs : List Value} (hx : ev ρ x = v) (hv : v.cells.toList = vs) (h : ∀ (w' : World) (g : Nat), Sep w0 w' (C ++ [cl g vs e]) → vcs P L K os (put ρ d (.pointer (some ⟨g, 0, none⟩))) w') :
    vcs P L K (⟨d, .box e x, T, pos, af, none⟩ :: os) ρ w :=
  s_bxA hx fun w' hE hh hs => h w' _ (hS.push hE (cl w.heap.size vs e) (by show _ = _; rw [hh, ← hv]) (fun k hk => by have hk : k = w.heap.size := hk; omega) (Nat.zero_le _))
theorem s_alS (hS : Sep w0 w C) (E : Env P) {e : TypeId} {v : Value} {vs : List Value} (hz : E.zr e = some v) (hv : v.cells.toList = vs) (h : ∀ (w' : World) (g : Nat), Sep w0 w' (C ++ [cl g vs e]) → vcs P L K os (put ρ d (.pointer (some ⟨g, 0, none⟩))) w') :
    vcs P L K (⟨d, .alloc e, T, pos, af, none⟩ :: os) ρ w :=
  s_alA E hz fun w' hE hh hs => h w' _ (hS.push hE (cl w.heap.size vs e) (by show _ = _; rw [hh, ← hv]) (fun k hk => by have hk : k = w.heap.size := hk; omega) (Nat.zero_le _))
theorem s_bsS (hS : Sep w0 w C) (E : Env P) {t e : TypeId} {n len : Nat} {z : Value} {ps : Array (Nat × Operand)} {qs : List (Nat × Value)} {cells : Array Value} {vs : List Value} (hs : E.sl t = some (e, n)) (hz : E.zr e = some z) (hle : Nat.ble (len * n) 16777216 = true) (hne : Nat.blt 0 (len * n) = true)
    (hq : ps.toList.map (fun p => (p.1, ev ρ p.2)) = qs) (hf : Instr.fill (fun i => some (i * n, n)) ((Array.range (len * n)).map (z.cells[· % z.cells.size]!)) qs = some cells) (hv : cells.toList = vs)
    (h : ∀ (w' : World) (g : Nat), Sep w0 w' (C ++ [cl g vs e]) → vcs P L K os (put ρ d (.slice (some ⟨g, 0, none⟩) len len)) w') :
    vcs P L K (⟨d, .buildSlice t len ps, T, pos, af, none⟩ :: os) ρ w :=
  s_bsA E hs hz hle hne hq hf fun w' hE hh hs => h w' _ (hS.push hE (cl w.heap.size vs e) (by show _ = _; rw [hh, ← hv]) (fun k hk => by have hk : k = w.heap.size := hk; omega) (Nat.zero_le _))
/-- the cells of a chunk with some of them stored anew -/
def spl (cs : List Value) (o : Nat) (vs : List Value) : List Value := cs.take o ++ vs ++ cs.drop (o + vs.length)
theorem s_stS (hS : Sep w0 w C) (i : Nat) (E : Env P) {x y : Operand} {t : TypeId} {m : Option Nat} {p : Addr} {g o : Nat} {cs : List Value} {ty : TypeId} {v : Value} {vs us : List Value} (hi : C[i]? = some (cl g cs ty)) (hl : E.ld t = some m) (hx : ev ρ x = .pointer (some p)) (hp : p = ⟨g, o, none⟩)
    (hy : ev ρ y = v) (hvs : v.cells.toList = vs) (hm : m.getD 1 = vs.length) (h1 : vs.all (·.oneCell') = true) (hsz : Nat.ble (o + vs.length) cs.length = true) (hus : spl cs o vs = us)
    (h : ∀ w', Sep w0 w' (C.set i (cl g us ty)) → vcs P L K os (put ρ d undef) w') :
    vcs P L K (⟨d, .store t x y, T, pos, af, none⟩ :: os) ρ w :=
  s_st E hl hx hp hy (hS.heap i hi) hvs hm h1 (by simpa using Nat.le_of_ble_eq_true hsz) (by
    have : splice cs.toArray o vs = us.toArray := by rw [← hus]; rfl
    rw [this]; exact h _ (hS.setRow i hi us))
theorem s_st1S (hS : Sep w0 w C) (i : Nat) (E : Env P) {x y : Operand} {t : TypeId} {p : Addr} {g o : Nat} {cs us : List Value} {ty : TypeId} {v : Value} (hi : C[i]? = some (cl g cs ty)) (hl : E.ld t = some none) (hx : ev ρ x = .pointer (some p)) (hp : p = ⟨g, o, none⟩)
    (hy : ev ρ y = v) (hv : v.oneCell' = true) (hsz : o < cs.length) (hus : cs.set o v = us)
    (h : ∀ w', Sep w0 w' (C.set i (cl g us ty)) → vcs P L K os (put ρ d undef) w') :
    vcs P L K (⟨d, .store t x y, T, pos, af, none⟩ :: os) ρ w :=
  s_st1 E hl hx hp hy hv (hS.heap i hi) (by simpa using hsz) (by
    have : cs.toArray.setIfInBounds o v = us.toArray := by rw [← hus]; simp
    rw [this]; exact h _ (hS.setRow i hi us))
theorem Sep.nil (hS : Sep w0 w C) (e : TypeId) (sz : Nat) : Sep w0 w (C ++ [ow e sz (.slice none 0 0) 0 []]) := hS.push Mod.refl _ (Own.nil w e sz) (fun k hk => by cases hk) (Nat.zero_le _)
/-- append onto a slice of the call's own -/
theorem s_apS (hS : Sep w0 w C) (i : Nat) (E : Env P) {x y : Operand} {t e : TypeId} {sz m c n by_ : Nat} {z v : Value} {a : Addr} {xs news : List Value}
    (hi : C[i]? = some (ow e sz v n xs)) (hs : E.sl t = some (e, sz)) (hz : E.zr e = some z) (hb : E.bt e = some by_) (hzs : (Nat.beq z.cells.size sz && Nat.blt 0 sz) = true) (hx : ev ρ x = v)
    (hy : ev ρ y = .slice (some a) m c) (hr : Row w a news) (hl : news.length = m * sz) (h1 : news.all (·.oneCell') = true) (hle : (n + m) * by_ ≤ 140737488355328 ∧ n + m ≤ 9223372036854775807)
    (h : ∀ (v' : Value) (w' : World), Sep w0 w' (C.set i (ow e sz v' (n + m) (xs ++ news))) → vcs P L K os (put ρ d v') w') :
    vcs P L K (⟨d, .call { callee := .builtin .append, args := #[x, y], argTypes := #[t, t] }, T, pos, af, none⟩ :: os) ρ w :=
  s_ap E hs hz hb hzs (hS.own i hi) hx hy hr hl h1 hle fun v' w' ho hM hon => h v' w' (hS.upd i hi hM (ow e sz v' (n + m) (xs ++ news)) ho (fun k hk => by
    have hk' : v'.ownBlock = some k := hk
    rcases hon with h2 | ⟨j, h2, h3⟩
    · left; show v.ownBlock = some k; rw [← h2]; exact hk'
    · right; rw [h2] at hk'; cases hk'
      exact ⟨h3, Own.lt ho h2⟩) (Nat.zero_le _))
/-- a slice of the call's own, or one that is full -/
def owF (e : TypeId) (sz : Nat) (v : Value) (n : Nat) (xs : List Value) : Chunk := ⟨fun k => v.ownBlock = some k, 0, fun w => OwnF w e sz v n xs, fun w w' h hp => by
  rcases hp with hp | ⟨h1, a, rfl, h2⟩
  · exact .inl (owns_loc (fun k hk => h k (.inl hk)) hp)
  · refine .inr ⟨h1, a, rfl, fun i x hx => ?_⟩
    have hb : w'.heap[(a.add i).block]? = w.heap[(a.add i).block]? := h _ (.inl (by rw [add_block]; rfl))
    rw [World.cell?_of_block hb]
    exact h2 i x hx⟩
theorem Sep.ownF (h : Sep w0 w C) {e : TypeId} {sz n : Nat} {v : Value} {xs : List Value} (i : Nat) (hi : C[i]? = some (owF e sz v n xs)) : OwnF w e sz v n xs := h.get i hi
/-- append onto such a slice -/
theorem s_apFS (hS : Sep w0 w C) (i : Nat) (E : Env P) {x y : Operand} {t e : TypeId} {sz m c n by_ : Nat} {z v : Value} {a : Addr} {xs news : List Value}
    (hi : C[i]? = some (owF e sz v n xs)) (hs : E.sl t = some (e, sz)) (hz : E.zr e = some z) (hb : E.bt e = some by_) (hzs : (Nat.beq z.cells.size sz && Nat.blt 0 sz) = true) (hx : ev ρ x = v)
    (hy : ev ρ y = .slice (some a) m c) (hr : Row w a news) (hl : news.length = m * sz) (hm : Nat.blt 0 m = true) (h1 : news.all (·.oneCell') = true) (hle : (n + m) * by_ ≤ 140737488355328 ∧ n + m ≤ 9223372036854775807)
    (h : ∀ (v' : Value) (w' : World), Sep w0 w' (C.set i (owF e sz v' (n + m) (xs ++ news))) → vcs P L K os (put ρ d v') w') :
    vcs P L K (⟨d, .call { callee := .builtin .append, args := #[x, y], argTypes := #[t, t] }, T, pos, af, none⟩ :: os) ρ w :=
  s_apF E hs hz hb hzs (hS.ownF i hi) hx hy hr hl hm h1 hle fun v' w' ho hM hon => h v' w' (hS.upd i hi hM (owF e sz v' (n + m) (xs ++ news)) (.inl ho) (fun k hk => by
    have hk' : v'.ownBlock = some k := hk
    rcases hon with h2 | ⟨j, h2, h3⟩
    · left; show v.ownBlock = some k; rw [← h2]; exact hk'
    · right; rw [h2] at hk'; cases hk'
      exact ⟨h3, Own.lt ho h2⟩) (Nat.zero_le _))
/-- an append keeps its block, or leaves all blocks as they were -/
theorem run_apx (w : World) (t ty e : TypeId) (i : TypeInfo) (z : Value) (ht : P.underlying t = some (.slice e)) (hi : P.info? e = some i) (hz : i.zero = some z) (hzs : z.cells.size = i.size) (hsz : 0 < i.size)
    (v : Value) (n : Nat) (xs : List Value) (hown : Own w e i.size v n xs) (a : Addr) (m c : Nat) (hm : 0 < m) (news : List Value) (hl : news.length = m * i.size) (hnews : Row w a news) (h1 : news.all (·.oneCell') = true)
    (hbytes : (n + m) * i.bytes ≤ 140737488355328) (h63 : n + m ≤ maxLen) :
    ∃ v' w', (Builtin.append_ #[t, t] ty #[v, .slice (some a) m c]).run P w = .ok v' w' ∧ Own w' e i.size v' (n + m) (xs ++ news) ∧ Mod (fun k => v.ownBlock = some k) w w' ∧ OldOrNew w v v' ∧ (v'.ownBlock = v.ownBlock ∨ Ext w w') := by
  obtain ⟨v', w', hr, h2, h3, h4⟩ := run_ap (P := P) w t ty e i z ht hi hz hzs hsz v n xs hown a m c news hl hnews h1 hbytes h63
  refine ⟨v', w', hr, h2, h3, h4, ?_⟩
  rcases hown.2 with ⟨rfl, rfl⟩ | ⟨g, cap, cur, rfl, hbg, hg, hnc, hcm, hcs, htake⟩
  · right
    exact h3.ext (fun k hk h => by cases h)
  · by_cases hroom : n + m ≤ cap
    · left
      have hfit : n * i.size + news.length ≤ cur.size := by rw [hl, hcs, ← Nat.add_mul]; exact Nat.mul_le_mul_right _ hroom
      have hr' := run_append_room (P := P) w t ty e i ht hi g n cap cur hg a m c news hl hnews (by simpa using h1) hroom hfit
      rw [hr'] at hr
      cases hr
      rfl
    · right
      have holds : ∀ j u, xs[j]? = some u → w.cell? ((⟨g, 0, none⟩ : Addr).add j) = some u := World.ownsRow.cells hown (g := g) rfl
      have hr' := run_append_grow (P := P) w t ty e i z ht hi hz ⟨g, 0, none⟩ n cap xs hown.1 holds a m c news hl hnews (by omega) (by simp only [maxLen] at h63; omega) (growslice_fits (by omega) hbytes)
      rw [hr'] at hr
      cases hr
      exact ⟨rfl, rfl, rfl, by simp, fun k hk _ => hp_old w.drew _ k hk⟩
/-- append onto a slice that is looked at again: its cells are as they were -/
theorem s_apK (E : Env P) {x y : Operand} {t e : TypeId} {sz m c n by_ : Nat} {z : Value} {p : Option Addr} {cp : Nat} {a : Addr} {xs news : List Value}
    (hs : E.sl t = some (e, sz)) (hz : E.zr e = some z) (hb : E.bt e = some by_) (hzs : (Nat.beq z.cells.size sz && Nat.blt 0 sz) = true) (hown : OwnF w e sz (.slice p n cp) n xs) (hx : ev ρ x = .slice p n cp)
    (hy : ev ρ y = .slice (some a) m c) (hr : Row w a news) (hl : news.length = m * sz) (hm : Nat.blt 0 m = true) (h1 : news.all (·.oneCell') = true) (hle : (n + m) * by_ ≤ 140737488355328 ∧ n + m ≤ 9223372036854775807)
    (h : ∀ v' w', Own w' e sz v' (n + m) (xs ++ news) → Mod (fun k => (Value.slice p n cp).ownBlock = some k) w w' → SlR w' p xs → vcs P L K os (put ρ d v') w') :
    vcs P L K (⟨d, .call { callee := .builtin .append, args := #[x, y], argTypes := #[t, t] }, T, pos, af, none⟩ :: os) ρ w := by
  obtain ⟨hu, i, hi, hn⟩ := E.h_sl _ _ _ hs
  obtain ⟨i', hi', hv⟩ := E.h_zr _ _ hz
  rw [hi] at hi'; cases hi'
  obtain ⟨i', hi', hbb⟩ := E.h_bt _ _ hb
  rw [hi] at hi'; cases hi'
  subst hn; subst hbb
  simp only [Bool.and_eq_true, Nat.beq_eq, Nat.blt_eq] at hzs hm
  have hsl : SlR w p xs := by obtain ⟨p', c', h1, h2, _⟩ := hown.form; cases h1; exact h2
  rcases hown with hown | ⟨hlx, b, hvb, hrow⟩
  · obtain ⟨v', w', hrun, h2, h3, h4, h5⟩ := run_apx (P := P) w t T e i z hu hi hv hzs.1 hzs.2 _ n xs hown a m c hm news hl hr h1 hle.1 (by simp only [maxLen]; omega)
    refine s_val (v := v') (w' := w') ?_ (h v' w' h2 h3 ?_)
    · simp [execOp, resolve, invoke, builtin, hx, hy, hrun]
    · rcases h5 with h5 | h5
      · obtain ⟨p', c', e1, s1, _, k1⟩ := h2.form
        obtain ⟨p2, c2, e2, _, _, k2⟩ := hown.form
        cases e2
        cases p with
        | none => exact hsl
        | some a0 =>
          have hk2 := k2 a0 rfl
          subst e1
          cases p' with
          | none => rw [hk2.1] at h5; cases h5
          | some a1 =>
            have hk1 := k1 a1 rfl
            rw [hk1.1, hk2.1] at h5
            have : a0 = a1 := by rw [hk1.2, hk2.2]; rw [Option.some.inj h5]
            subst this
            have hs1 : Row w' a0 (xs ++ news) := s1
            intro j x hj
            exact hs1 j x (by rw [List.getElem?_append_left (List.getElem?_eq_some_iff.1 hj).1]; exact hj)
      · exact Ext.sl h5 hsl
  · cases hvb
    have hrun := run_append_grow (P := P) w t T e i z hu hi hv b n n xs hlx hrow a m c news hl hr (by omega) (by omega) (growslice_fits (by omega) hle.1)
    refine s_val (v := _) (w' := _) (by simp only [execOp, resolve, invoke, builtin, List.map_toArray, List.map_cons, List.map_nil, hx, hy, Sem.run_bind, Sem.run_pure, Result.andThen_ok, hrun]; rfl) (h _ _ ?_ ?_ ?_)
    · have hge := grownCap_ge w (n + m) n e
      refine ⟨by rw [List.length_append, hlx, hl, Nat.add_mul], .inr ⟨w.heap.size, _, _, rfl, Nat.zero_le _, heap_alloc_new w.drew _, hge, grownCap_le_maxLen w (n + m) n e (by simp only [maxLen]; omega), ?_, ?_⟩⟩
      · simp only [Array.size_append, List.size_toArray, size_zeroCells, hzs.1, hlx, hl, ← Nat.add_mul]
        congr 1
        omega
      · simp only [Array.toList_append, List.append_assoc]
        rw [← List.append_assoc, show (n + m) * i.size = (xs ++ news).length by rw [List.length_append, hlx, hl, Nat.add_mul]]
        exact List.take_left
    · exact ⟨rfl, rfl, rfl, by simp, fun k hk _ => hp_old w.drew _ k hk⟩
    · refine Ext.sl (w := w) ?_ hsl
      exact ⟨rfl, rfl, rfl, by simp, fun k hk _ => hp_old w.drew _ k hk⟩
theorem own_lit {e : TypeId} {sz n g : Nat} {vs : List Value} (hh : w.heap[g]? = some (.cells vs.toArray e (0, 0))) (hl : vs.length = n * sz) (hn : n ≤ 9223372036854775807) : Own w e sz (.slice (some ⟨g, 0, none⟩) n n) n vs :=
  ⟨hl, .inr ⟨g, n, vs.toArray, rfl, Nat.zero_le _, hh, Nat.le_refl _, by simp only [maxLen]; omega, by simpa using hl, by simp [← hl]⟩⟩
/-- append of a slice, nil too, onto a slice of the call's own -/
theorem s_apP (E : Env P) {x y : Operand} {t e : TypeId} {sz m c n by_ : Nat} {z v : Value} {p : Option Addr} {xs news : List Value}
    (hs : E.sl t = some (e, sz)) (hz : E.zr e = some z) (hb : E.bt e = some by_) (hzs : (Nat.beq z.cells.size sz && Nat.blt 0 sz) = true) (hown : Own w e sz v n xs) (hx : ev ρ x = v)
    (hy : ev ρ y = .slice p m c) (hn : p = none → m = 0 ∧ c = 0) (hr : SlR w p news) (hl : news.length = m * sz) (h1 : news.all (·.oneCell') = true) (hle : (n + m) * by_ ≤ 140737488355328 ∧ n + m ≤ 9223372036854775807)
    (h : ∀ v' w', Own w' e sz v' (n + m) (xs ++ news) → Mod (fun k => v.ownBlock = some k) w w' → OldOrNew w v v' → vcs P L K os (put ρ d v') w') :
    vcs P L K (⟨d, .call { callee := .builtin .append, args := #[x, y], argTypes := #[t, t] }, T, pos, af, none⟩ :: os) ρ w := by
  cases p with
  | some a => exact s_ap E hs hz hb hzs hown hx hy hr hl h1 hle h
  | none =>
    obtain ⟨rfl, rfl⟩ := hn rfl
    have hr : news = [] := hr
    subst hr
    exact s_ap0 E hs hown hx hy (h v w (by simpa using hown) Mod.refl (.inl rfl))
/-- append of a slice of one's own that is not empty onto one that is full -/
theorem s_apFO (E : Env P) {x y : Operand} {t e : TypeId} {sz m n by_ : Nat} {z v u : Value} {xs news : List Value}
    (hs : E.sl t = some (e, sz)) (hz : E.zr e = some z) (hb : E.bt e = some by_) (hzs : (Nat.beq z.cells.size sz && Nat.blt 0 sz) = true) (hown : OwnF w e sz v n xs) (hx : ev ρ x = v)
    (hy : ev ρ y = u) (hu : Own w e sz u m news) (hm : 0 < m) (h1 : news.all (·.oneCell') = true) (hle : (n + m) * by_ ≤ 140737488355328 ∧ n + m ≤ 9223372036854775807)
    (h : ∀ v' w', Own w' e sz v' (n + m) (xs ++ news) → Mod (fun k => v.ownBlock = some k) w w' → OldOrNew w v v' → vcs P L K os (put ρ d v') w') :
    vcs P L K (⟨d, .call { callee := .builtin .append, args := #[x, y], argTypes := #[t, t] }, T, pos, af, none⟩ :: os) ρ w := by
  obtain ⟨p, c, rfl, hp, _, _⟩ := hu.form
  have hl := hu.len
  have hsz : 0 < sz := by simp only [Bool.and_eq_true, Nat.blt_eq] at hzs; exact hzs.2
  have hne : news ≠ [] := by
    intro h0; rw [h0] at hl; have := Nat.mul_pos hm hsz; simp at hl; omega
  obtain ⟨a, rfl, hr⟩ := hp.some hne
  exact s_apF E hs hz hb hzs hown hx hy hr hl (by rw [Nat.blt_eq]; exact hm) h1 hle h
theorem r_slc (E : Env P) {x : Operand} {lo hi mx : Option Operand} {t e : TypeId} {sz len cap l h m : Nat} {a : Option Addr} (hs : E.sl t = some (e, sz)) (hx : ev ρ x = .slice a len cap)
    (hb : ∀ w : World, (Instr.sliceBounds true len cap (lo.map (ev ρ)) (hi.map (ev ρ)) (mx.map (ev ρ))).run P w = .ok (l, h, m) w) :
    (execOp (ev ρ) ⟨d, .slice t x lo hi mx, T, pos, af, none⟩).run P w = .ok (.value (.slice (slP a l m sz) (h - l) (m - l))) w := by
  obtain ⟨hu, i, hi', hn⟩ := E.h_sl _ _ _ hs
  have hu' : P.underlying t = some (.slice (P.elem t)) := by rw [elem_of hu]; exact hu
  simp only [execOp, hx, Sem.run_bind, run_sliceAt_slice w t _ _ _ _ hu', run_slice_any w t a len cap hu', hb, Result.andThen_ok, run_sz E hs, Sem.run_pure]
  rfl
/-- a call that leaves all as it was but for new blocks -/
theorem s_callE (hS : Sep w0 w C) {f : Operand} {xs : Array Operand} {ts : Array TypeId} {g : FuncId} {vs cs : Array Value} {args : List Value} {v : Value}
    (hf : ev ρ f = .func (.func g) vs cs) (ha : vs.toList ++ (xs.toList.map (ev ρ) ++ cs.toList) = args) (hR : Ret P g args.toArray w fun v' w' => v' = v ∧ Ext w w')
    (h : ∀ w', Sep w0 w' C → vcs P L K os (put ρ d v) w') : vcs P L K (⟨d, .call { callee := .value f, args := xs, argTypes := ts }, T, pos, af, none⟩ :: os) ρ w :=
  s_callx hf ha hR fun w' hE => h w' (hS.ext_ hE)
/-- a call that writes a chunk whose cells are known -/
theorem s_clx (hS : Sep w0 w C) (i : Nat) {gb : Nat} {bs us : List Value} {ty : TypeId} (hi : C[i]? = some (cl gb bs ty)) {f : Operand} {xs : Array Operand} {ts : Array TypeId} {g : FuncId} {vs cs : Array Value} {args : List Value} {v : Value}
    (hf : ev ρ f = .func (.func g) vs cs) (ha : vs.toList ++ (xs.toList.map (ev ρ) ++ cs.toList) = args) (hR : Ret P g args.toArray w fun v' w' => v' = v ∧ w'.heap[gb]? = some (.cells us.toArray ty (0, 0)) ∧ Mod (fun k => k = gb) w w')
    (h : ∀ w', Sep w0 w' (C.set i (cl gb us ty)) → vcs P L K os (put ρ d v) w') : vcs P L K (⟨d, .call { callee := .value f, args := xs, argTypes := ts }, T, pos, af, none⟩ :: os) ρ w :=
  s_callx hf ha hR fun w' ⟨h1, h2⟩ => h w' (hS.upd i hi h2 (cl gb us ty) h1 (fun k hk => .inl hk) (Nat.zero_le _))
theorem q_callE {Kq : Fr → Prop} {f : Operand} {xs : Array Operand} {ts : Array TypeId} {g : FuncId} {vs cs : Array Value} {args : List Value} {v : Value}
    (hf : ev ρ f = .func (.func g) vs cs) (ha : vs.toList ++ (xs.toList.map (ev ρ) ++ cs.toList) = args) (hR : ∀ w, Ext w0 w → Ret P g args.toArray w fun v' w' => v' = v ∧ Ext w w')
    (h : vq P L (Ext w0) Kq os (put ρ d v)) : vq P L (Ext w0) Kq (⟨d, .call { callee := .value f, args := xs, argTypes := ts }, T, pos, af, none⟩ :: os) ρ :=
  q_call hf ha (hR w0 Mod.refl).1 (fun w hw => (hR w hw).mono fun v' w' hx => ⟨hx.1, hw.trans hx.2⟩) h
end
end Go.Fx
namespace Go.Proofs.YthfnijlgmjkedaaGreat
set_option maxRecDepth 100000
set_option maxHeartbeats 1000000
set_option linter.unusedVariables false
set_option linter.unusedSimpArgs false
open Go Go.Fx Go.Proofs.YthfnijlgmjkedaaGreat.Tab Go.RowKit
/-! ## what Open reads -/
def rd4 (bs : List Int) : Int := s32 (nB (tkB 4 bs))
def tabGo : Nat → List Int → Bool → List Int → List Int × Bool × List Int
  | 0, bs, s, acc => (bs, s, acc)
  | n + 1, bs, s, acc => if s then (bs, s, acc) else tabGo n (rsB 4 bs) (shB 4 bs s) (acc ++ [rd4 bs])
def tabP (bs : List Int) (s : Bool) : List Int × Bool × List Int := tabGo (nB (tkB 2 bs)).toNat (rsB 2 bs) (shB 2 bs s) []
def updT (T : Nat → List Int) (i : Nat) (t : List Int) : Nat → List Int := fun j => if j = i then t else T j
def tabsP : Nat → List Int → Bool → List Int × Bool × (Nat → List Int)
  | 0, bs, s => (bs, s, fun _ => [])
  | i + 1, bs, s => let x := tabsP i bs s; let r := tabP x.1 x.2.1; (r.1, r.2.1, updT x.2.2 i r.2.2)
def atP (t : List Int) (bs : List Int) (s : Bool) : Int × List Int × Bool :=
  if nB (tkB 2 bs) < t.length then (t.getD (nB (tkB 2 bs)).toNat 0, rsB 2 bs, shB 2 bs s) else (0, rsB 2 bs, true)
def chP (T : Nat → List Int) (bs : List Int) (s : Bool) : Ch × List Int × Bool :=
  let a := atP (T 0) (rsB 1 bs) (shB 1 bs s)
  let b := atP (T 1) a.2.1 a.2.2
  let c := atP (T 2) b.2.1 b.2.2
  (⟨nB (tkB 1 bs), a.1, b.1, c.1⟩, c.2.1, c.2.2)
def chGo (T : Nat → List Int) : Nat → List Int → Bool → List Ch → List Int × Bool × List Ch
  | 0, bs, s, acc => (bs, s, acc)
  | n + 1, bs, s, acc => if s then (bs, s, acc) else chGo T n (chP T bs s).2.1 (chP T bs s).2.2 (acc ++ [(chP T bs s).1])
def ruP (bs : List Int) (s : Bool) : Ru × List Int × Bool :=
  let b1 := rsB 1 bs; let s1 := shB 1 bs s
  let b2 := rsB 1 b1; let s2 := shB 1 b1 s1
  let b3 := rsB 1 b2; let s3 := shB 1 b2 s2
  (⟨nB (tkB 1 bs), nB (tkB 1 b1), nB (tkB 1 b2), rd4 b3⟩, rsB 4 b3, shB 4 b3 s3)
def ruGo : Nat → List Int → Bool → List Ru → List Int × Bool × List Ru
  | 0, bs, s, acc => (bs, s, acc)
  | n + 1, bs, s, acc => if s then (bs, s, acc) else ruGo n (ruP bs s).2.1 (ruP bs s).2.2 (acc ++ [(ruP bs s).1])
def headP (b : List Int) : Int × List Int × Bool := (rd4 (rsB 4 b), rsB 4 (rsB 4 b), shB 4 (rsB 4 b) (shB 4 b false))
/-- the metric that is read, and whether there were too few bytes -/
def readM (b : List Int) : Me × Bool :=
  let h := headP b
  let t := tabsP 3 h.2.1 h.2.2
  let c := chGo t.2.2 (nB (tkB 2 t.1)).toNat (rsB 2 t.1) (shB 2 t.1 t.2.1) []
  let r := ruGo (nB (tkB 2 c.1)).toNat (rsB 2 c.1) (shB 2 c.1 c.2.1) []
  (⟨h.1, c.2.2, r.2.2⟩, r.2.1)
def openE (b : List Int) : Int := if !(readM b).2 && (validM (readM b).1 && decide (packM (readM b).1 = b)) then 0 else 30
/-! ## the reader as a chunk -/
theorem RdR.loc {w w' : World} {N r : Nat} {bs : List Int} {s : Bool} (h : ∀ k, k = r ∨ k < N → w'.heap[k]? = w.heap[k]?) (hp : RdR w N r bs s) : RdR w' N r bs s := by
  obtain ⟨⟨p, c, ty, hh, hsl, hle, hne⟩, hN⟩ := hp
  refine ⟨⟨p, c, ty, by rw [h r (.inl rfl)]; exact hh, ?_, hle, hne⟩, hN⟩
  cases p with
  | none => exact hsl
  | some a =>
    intro i x hx
    by_cases h0 : bs = []
    · subst h0; simp at hx
    · have := hne h0 a rfl
      have hb : w'.heap[(a.add i).block]? = w.heap[(a.add i).block]? := h _ (.inr (by rw [add_block]; exact this))
      rw [World.cell?_of_block hb]
      exact hsl i x hx
def rdk (N r : Nat) (bs : List Int) (s : Bool) : Chunk := ⟨fun k => k = r, N, fun w => RdR w N r bs s, fun _ _ h hp => hp.loc h⟩
theorem _root_.Go.Fx.Sep.rd {w0 w : World} {L : List Chunk} (h : Sep w0 w L) {N r : Nat} {bs : List Int} {s : Bool} (i : Nat) (hi : L[i]? = some (rdk N r bs s)) : RdR w N r bs s := h.get i hi
section
variable {P : Program} {L os : List Oper} {K : Fr → World → Prop} {ρ : Fr} {w w0 : World} {d : Option Tmp} {T : TypeId} {pos : String} {af : Array Edge} {C : List Chunk}
/-- a call that reads -/
theorem s_rd (hS : Sep w0 w C) (i : Nat) {N r : Nat} {bs bs' : List Int} {s s' : Bool} (hi : C[i]? = some (rdk N r bs s)) {f : Operand} {xs : Array Operand} {ts : Array TypeId} {g : FuncId} {vs cs : Array Value} {args : List Value} {v : Value}
    (hf : ev ρ f = .func (.func g) vs cs) (ha : vs.toList ++ (xs.toList.map (ev ρ) ++ cs.toList) = args) (hR : Ret P g args.toArray w fun v' w' => v' = v ∧ RdR w' N r bs' s' ∧ Mod (fun b => b = r) w w')
    (h : ∀ w', Sep w0 w' (C.set i (rdk N r bs' s')) → vcs P L K os (put ρ d v) w') : vcs P L K (⟨d, .call { callee := .value f, args := xs, argTypes := ts }, T, pos, af, none⟩ :: os) ρ w :=
  s_callx hf ha hR fun w' ⟨h1, h2⟩ => h w' (hS.upd i hi h2 (rdk N r bs' s') h1 (fun k hk => .inl hk) (show N ≤ w0.heap.size from hS.inp (rdk N r bs s) (List.mem_of_getElem? hi)))
theorem s_rdv (hS : Sep w0 w C) (i : Nat) {N r : Nat} {bs bs' : List Int} {s s' : Bool} (hi : C[i]? = some (rdk N r bs s)) {f : Operand} {xs : Array Operand} {ts : Array TypeId} {g : FuncId} {vs cs : Array Value} {args : List Value} {X : Value → World → Prop}
    (hf : ev ρ f = .func (.func g) vs cs) (ha : vs.toList ++ (xs.toList.map (ev ρ) ++ cs.toList) = args) (hR : Ret P g args.toArray w fun v' w' => X v' w' ∧ RdR w' N r bs' s' ∧ Mod (fun b => b = r) w w')
    (h : ∀ v w', X v w' → Sep w0 w' (C.set i (rdk N r bs' s')) → vcs P L K os (put ρ d v) w') : vcs P L K (⟨d, .call { callee := .value f, args := xs, argTypes := ts }, T, pos, af, none⟩ :: os) ρ w :=
  s_call hf ha hR fun v w' ⟨hX, h1, h2⟩ => h v w' hX (hS.upd i hi h2 (rdk N r bs' s') h1 (fun k hk => .inl hk) (show N ≤ w0.heap.size from hS.inp (rdk N r bs s) (List.mem_of_getElem? hi)))
end
theorem rsB_len (k : Nat) (bs : List Int) : (rsB k bs).length ≤ bs.length := by unfold rsB; split <;> simp
/-! ## the closure -/
theorem RdR.flag {w : World} {N r : Nat} {bs : List Int} {s : Bool} (h : RdR w N r bs s) : w.cell? (Addr.add ⟨r, 0, none⟩ 1) = some (.bool s) := by
  obtain ⟨⟨p, c, ty, hh, _⟩, _⟩ := h
  rw [ad0]; simp [World.cell?, hh]
theorem nB2_bd {bs : List Int} (hb : byt bs) : 0 ≤ nB (tkB 2 bs) ∧ nB (tkB 2 bs) < 65536 := by
  have := nB_bd 2 (tkB 2 bs) (tkB_len 2 bs) (tkB_byt hb)
  rw [show (256 : Int) ^ 2 = 65536 from by decide] at this
  exact this
theorem metric_Open_1_c {w : World} {N r rp gt : Nat} {bs : List Int} {s : Bool} {j : Nat} {v : Value} {t : List Int} (hrp : w.cell? ⟨rp, 0, none⟩ = some (.pointer (some ⟨r, 0, none⟩))) (h : RdR w N r bs s) (hl : bs.length ≤ 1000000) (hb : byt bs)
    (hj : j < 3) (ht : w.cell? (Addr.add ⟨gt, 0, none⟩ j) = some v) (ho : Own w 3 1 v t.length (t.map iV)) (hgr : ¬ gt = r) (hpr : ¬ v.ownBlock = some r) :
    Ret Go.Proofs.Tryz.prog 44 #[iV j, .pointer (some ⟨rp, 0, none⟩), .pointer (some ⟨gt, 0, none⟩)] w fun v w' => v = iV (atP t bs s).1 ∧ RdR w' N r (atP t bs s).2.1 (atP t bs s).2.2 ∧ Mod (fun b => b = r) w w' := by
  obtain ⟨p, cap, rfl, hp, _, hbk⟩ := ho.form
  obtain ⟨len, hlen⟩ : ∃ len, len = t.length := ⟨_, rfl⟩
  rw [← hlen] at ht
  have hpr : ∀ a, p = some a → a.block ≠ r := fun a ha he => hpr (by rw [(hbk a ha).1, he])
  refine enter Go.Proofs.Tryz.func44 rfl rfl rfl ?_
  refine W_sr rfl (s_as rfl (s_nil ?_))
  refine W_seq ?_
  refine W_sr rfl (s_ld E rfl rfl hrp (s_call rfl rfl (metric_Two_c h hl hb) ?_))
  rintro _ w1 ⟨rfl, hR1, hM1⟩
  refine (s_as rfl (s_nil ?_))
  have hbd := nB2_bd hb
  have ht1 : w1.cell? (Addr.add ⟨gt, 0, none⟩ j) = some (.slice p len cap) := hM1.cell ht (by rw [add_block]; exact hgr)
  have ht1' : w1.cell? (Addr.add ⟨gt, 0, none⟩ (j * 1)) = some (.slice p len cap) := by rw [Nat.mul_one]; exact ht1
  have hp1 : SlR w1 p (t.map iV) := SlR.mod hM1 hp hpr
  by_cases hk : nB (tkB 2 bs) < (len : Int)
  · refine W_sr rfl (s_mv rfl (s_mv rfl (s_iaA (i := j) E rfl rfl rfl rfl hj (s_ld E rfl rfl ht1' (s_len E rfl rfl (s_cmp (c := true) rfl rfl (decide_eq_true hk) (s_nil ?_)))))))
    refine W_if rfl (fun _ => ?_) (fun h => by cases h)
    obtain ⟨k, hk0⟩ := Int.eq_ofNat_of_zero_le hbd.1
    have hkl : k < t.length := by omega
    obtain ⟨a, rfl, hcell⟩ := sl_map hp1 hkl
    refine W_sr rfl (s_mv rfl (s_iaA (i := j) E rfl rfl rfl rfl hj (s_ld E rfl rfl ht1' (s_mv rfl (s_ia (i := k) E rfl rfl rfl hk0 (by omega) (s_ld E rfl rfl hcell (s_as rfl (s_nil ?_))))))))
    have e : atP t bs s = (t[k], rsB 2 bs, shB 2 bs s) := by
      unfold atP
      rw [if_pos (by omega), hk0]
      simp [hkl]
    rw [e]
    exact W_ret ⟨_, rfl, rfl, hR1, hM1⟩
  · refine W_sr rfl (s_mv rfl (s_mv rfl (s_iaA (i := j) E rfl rfl rfl rfl hj (s_ld E rfl rfl ht1' (s_len E rfl rfl (s_cmp (c := false) rfl rfl (decide_eq_false hk) (s_nil ?_)))))))
    refine W_if rfl (fun h => by cases h) (fun _ => W_skip ?_)
    have e : atP t bs s = (0, rsB 2 bs, true) := by unfold atP; rw [if_neg (by omega)]
    rw [e]
    obtain ⟨⟨q, c, ty, hh, hsl, hle, hne⟩, hN⟩ := hR1
    have hrp1 : w1.cell? ⟨rp, 0, none⟩ = some (.pointer (some ⟨r, 0, none⟩)) := by
      refine hM1.cell hrp (fun he => ?_)
      have he : rp = r := he
      subst he
      obtain ⟨⟨q', c', ty', hh', _⟩, _⟩ := h
      simp [World.cell?, hh'] at hrp
    refine W_sr rfl (s_ld E rfl rfl hrp1 (s_nc rfl (s_fa E rfl rfl (s_st1 E rfl rfl (ad0 r 1) rfl rfl hh (by simp) (s_nil ?_)))))
    have hM2 : Mod (fun b => b = r) w1 (w1.setRow r #[.slice q (rsB 2 bs).length c, .bool true]) := setRow_mod rfl
    refine W_sr rfl (s_as rfl (s_nil ?_))
    refine W_ret ⟨_, rfl, rfl, ⟨⟨q, c, ty, setRow_heap w1 r _ _ ty (0, 0) hh, ?_, hle, hne⟩, hN⟩, hM1.trans hM2⟩
    refine SlR.keep hM2 hsl (fun hx a ha he => ?_)
    have := hne (fun h0 => hx (by rw [h0]; rfl)) a ha
    omega
end Go.Proofs.YthfnijlgmjkedaaGreat
namespace Go.Proofs.YthfnijlgmjkedaaGreat
set_option maxRecDepth 100000
set_option maxHeartbeats 2000000
set_option linter.unusedVariables false
set_option linter.unusedSimpArgs false
open Go Go.Fx Go.Proofs.YthfnijlgmjkedaaGreat.Tab Go.RowKit
theorem tabGo_ok : ∀ (n : Nat) (bs : List Int) (s : Bool) (acc : List Int), byt bs → byt (tabGo n bs s acc).1 ∧ (tabGo n bs s acc).1.length ≤ bs.length
  | 0, bs, s, acc, h => ⟨h, Nat.le_refl _⟩
  | n + 1, bs, s, acc, h => by
    unfold tabGo
    cases s with
    | true => exact ⟨h, Nat.le_refl _⟩
    | false =>
      have := tabGo_ok n (rsB 4 bs) (shB 4 bs false) (acc ++ [rd4 bs]) (rsB_byt h)
      have h2 := rsB_len 4 bs
      simp only [Bool.false_eq_true, if_false]
      exact ⟨this.1, by have := this.2; omega⟩
theorem tabP_ok {bs : List Int} {s : Bool} (h : byt bs) : byt (tabP bs s).1 ∧ (tabP bs s).1.length ≤ bs.length := by
  have := tabGo_ok (nB (tkB 2 bs)).toNat (rsB 2 bs) (shB 2 bs s) [] (rsB_byt h)
  have h2 := rsB_len 2 bs
  exact ⟨this.1, by have := this.2; unfold tabP; omega⟩
theorem tabsP_ok {bs : List Int} {s : Bool} (h : byt bs) : ∀ i, byt (tabsP i bs s).1 ∧ (tabsP i bs s).1.length ≤ bs.length
  | 0 => ⟨h, Nat.le_refl _⟩
  | i + 1 => by
    have h1 := tabsP_ok (s := s) h i
    have h2 := tabP_ok (s := (tabsP i bs s).2.1) h1.1
    exact ⟨h2.1, Nat.le_trans h2.2 h1.2⟩
theorem tabsP_hi (bs : List Int) (s : Bool) : ∀ i j, i ≤ j → (tabsP i bs s).2.2 j = []
  | 0, j, _ => rfl
  | i + 1, j, h => by
    show updT _ i _ j = []
    unfold updT
    rw [if_neg (by omega)]
    exact tabsP_hi bs s i j (by omega)
theorem updT_same (T : Nat → List Int) (i : Nat) (t : List Int) (h : T i = t) : updT T i t = T := by
  funext j; unfold updT; split
  · rename_i e; rw [e, h]
  · rfl
theorem updT_updT (T : Nat → List Int) (i : Nat) (t u : List Int) : updT (updT T i t) i u = updT T i u := by
  funext j; unfold updT; split <;> rfl
theorem atP_ok {t bs : List Int} {s : Bool} (h : byt bs) : byt (atP t bs s).2.1 ∧ (atP t bs s).2.1.length ≤ bs.length := by
  have h2 := rsB_len 2 bs
  unfold atP
  split
  · exact ⟨rsB_byt h, h2⟩
  · exact ⟨rsB_byt h, h2⟩
theorem chP_ok {T : Nat → List Int} {bs : List Int} {s : Bool} (h : byt bs) : byt (chP T bs s).2.1 ∧ (chP T bs s).2.1.length ≤ bs.length := by
  have h1 := rsB_len 1 bs
  have ha := atP_ok (t := T 0) (s := shB 1 bs s) (rsB_byt (k := 1) h)
  have hb := atP_ok (t := T 1) (s := (atP (T 0) (rsB 1 bs) (shB 1 bs s)).2.2) ha.1
  have hc := atP_ok (t := T 2) (s := (atP (T 1) (atP (T 0) (rsB 1 bs) (shB 1 bs s)).2.1 (atP (T 0) (rsB 1 bs) (shB 1 bs s)).2.2).2.2) hb.1
  simp only [chP]
  exact ⟨hc.1, by have := hc.2; have := hb.2; have := ha.2; omega⟩
theorem chGo_ok (T : Nat → List Int) : ∀ (n : Nat) (bs : List Int) (s : Bool) (acc : List Ch), byt bs → byt (chGo T n bs s acc).1 ∧ (chGo T n bs s acc).1.length ≤ bs.length
  | 0, bs, s, acc, h => ⟨h, Nat.le_refl _⟩
  | n + 1, bs, s, acc, h => by
    unfold chGo
    cases s with
    | true => exact ⟨h, Nat.le_refl _⟩
    | false =>
      have h2 := chP_ok (T := T) (s := false) h
      have := chGo_ok T n _ (chP T bs false).2.2 (acc ++ [(chP T bs false).1]) h2.1
      simp only [Bool.false_eq_true, if_false]
      exact ⟨this.1, by have := this.2; have := h2.2; omega⟩
theorem ruP_ok {bs : List Int} {s : Bool} (h : byt bs) : byt (ruP bs s).2.1 ∧ (ruP bs s).2.1.length ≤ bs.length := by
  have h1 := rsB_len 1 bs
  have h2 := rsB_len 1 (rsB 1 bs)
  have h3 := rsB_len 1 (rsB 1 (rsB 1 bs))
  have h4 := rsB_len 4 (rsB 1 (rsB 1 (rsB 1 bs)))
  have e : (ruP bs s).2.1 = rsB 4 (rsB 1 (rsB 1 (rsB 1 bs))) := rfl
  rw [e]
  exact ⟨rsB_byt (k := 4) (rsB_byt (k := 1) (rsB_byt (k := 1) (rsB_byt (k := 1) h))), by omega⟩
/-- the blocks of Open -/
def opL (g0 r rp gm gt N : Nat) (size : Int) (bs : List Int) (s : Bool) (vc vr : Value) (cs : List Ch) (rs : List Ru) (u v : Nat → Value) (T : Nat → List Int) : List Chunk :=
  [cl g0 [iV 0, .slice none 0 0, .slice none 0 0] 25, rdk N r bs s, cl rp [.pointer (some ⟨r, 0, none⟩)] 68, cl gm [iV size, vc, vr] 25, cl gt [u 0, u 1, u 2] 73,
   ow 3 1 (v 0) (T 0).length ((T 0).map iV), ow 3 1 (v 1) (T 1).length ((T 1).map iV), ow 3 1 (v 2) (T 2).length ((T 2).map iV), ow 50 4 vc cs.length (cs.flatMap chC), ow 45 4 vr rs.length (rs.flatMap ruC)]
def updV (v : Nat → Value) (i : Nat) (x : Value) : Nat → Value := fun j => if j = i then x else v j
section
variable {g0 r rp gm gt N : Nat} {size : Int} {bs : List Int} {s : Bool} {vc vr : Value} {cs : List Ch} {rs : List Ru} {u v : Nat → Value} {T : Nat → List Int} {i : Nat}
theorem opL_own (hi : i < 3) : (opL g0 r rp gm gt N size bs s vc vr cs rs u v T)[5 + i]? = some (ow 3 1 (v i) (T i).length ((T i).map iV)) := by
  have : i = 0 ∨ i = 1 ∨ i = 2 := by omega
  rcases this with rfl | rfl | rfl <;> rfl
theorem opL_cell (hi : i < 3) : ([u 0, u 1, u 2] : List Value)[i * 1]? = some (u i) := by
  have : i = 0 ∨ i = 1 ∨ i = 2 := by omega
  rcases this with rfl | rfl | rfl <;> rfl
theorem opL_app (hi : i < 3) (v' : Value) (x : Int) : (opL g0 r rp gm gt N size bs s vc vr cs rs u v T).set (5 + i) (ow 3 1 v' ((T i).length + 1) ((T i).map iV ++ [iV x])) = opL g0 r rp gm gt N size bs s vc vr cs rs u (updV v i v') (updT T i (T i ++ [x])) := by
  have : i = 0 ∨ i = 1 ∨ i = 2 := by omega
  rcases this with rfl | rfl | rfl <;> simp [opL, updV, updT]
theorem opL_app2 {w0 w : World} {bs' : List Int} {s' : Bool} {acc : List Int} {v' : Value} {x : Int} (hi : i < 3)
    (hS : Sep w0 w (((opL g0 r rp gm gt N size bs s vc vr cs rs u v (updT T i acc)).set 1 (rdk N r bs' s')).set (5 + i) (ow 3 1 v' ((updT T i acc i).length + 1) ((updT T i acc i).map iV ++ [iV x])))) :
    Sep w0 w (opL g0 r rp gm gt N size bs' s' vc vr cs rs u (updV v i v') (updT T i (acc ++ [x]))) ∧ v'.oneCell' = true := by
  have h1 : updT T i acc i = acc := by simp [updT]
  have e := opL_app (g0 := g0) (r := r) (rp := rp) (gm := gm) (gt := gt) (N := N) (size := size) (bs := bs') (s := s') (vc := vc) (vr := vr) (cs := cs) (rs := rs) (u := u) (v := v) (T := updT T i acc) hi v' x
  rw [h1, updT_updT] at e
  rw [h1] at hS
  have hS : Sep w0 w (opL g0 r rp gm gt N size bs' s' vc vr cs rs u (updV v i v') (updT T i (acc ++ [x]))) := by rw [← e]; exact hS
  refine ⟨hS, ?_⟩
  have := (hS.own (5 + i) (opL_own hi)).one
  simpa [updV] using this
theorem opL_st (hi : i < 3) (v' : Value) : ([u 0, u 1, u 2] : List Value).set (i * 1) v' = [updV u i v' 0, updV u i v' 1, updV u i v' 2] := by
  have : i = 0 ∨ i = 1 ∨ i = 2 := by omega
  rcases this with rfl | rfl | rfl <;> rfl
theorem opL_me {w0 w : World} (hS : Sep w0 w (opL g0 r rp gm gt N size bs s vc vr cs rs u v T)) : ∃ p q c d, vc = .slice p cs.length c ∧ vr = .slice q rs.length d ∧ SlR w p (cs.flatMap chC) ∧ SlR w q (rs.flatMap ruC) := by
  obtain ⟨p, c, h1, h2, _⟩ := (hS.own 8 rfl).form
  obtain ⟨q, d, h3, h4, _⟩ := (hS.own 9 rfl).form
  exact ⟨p, q, c, d, h1, h3, h2, h4⟩
end
theorem sl_below {w : World} {p : Option Addr} {l : List Int} (hp : SlR w p (l.map bV)) (h : l ≠ []) : ∀ a, p = some a → a.block < w.heap.size := by
  intro a ha
  subst ha
  cases l with
  | nil => exact absurd rfl h
  | cons x l => exact World.block_lt_of_cell? w a (Row.get0 hp)
end Go.Proofs.YthfnijlgmjkedaaGreat

/- fleuronlaw27.MetricScales returns true for every metric, and the metric reads behind the call as it read before; conditions: none beside the given row's own. -/
import Derived.Test.YthfnijlgmjkedaaGreatG7
import Derived.Test.YthfnijlgmjkedaaGreatG8
import Derived.Test.YthfnijlgmjkedaaGreatG9
import Derived.Test.YthfnijlgmjkedaaGreatRows
import Derived.OpenShut
namespace Go.Proofs.YthfnijlgmjkedaaGreat
open Go Go.Fx
/-! ## scaled by its own size; scaled by twice its size -/
theorem scaled_self {m v : Int} (h : 1 ≤ m) : scaledI m m v = v := by
  unfold scaledI
  have e : 2 * v * m + m = m + v * (2 * m) := by
    rw [Int.mul_comm 2 v, Int.mul_assoc, Int.add_comm]
  rw [e, Int.add_mul_ediv_right _ _ (by omega), Int.ediv_eq_zero_of_lt (by omega) (by omega)]
  omega
theorem scaled_dbl {m v : Int} (h : 1 ≤ m) : scaledI m (2 * m) v = 2 * v := by
  unfold scaledI
  rw [Int.add_comm, Int.add_mul_ediv_right _ _ (by omega), Int.ediv_eq_zero_of_lt (by omega) (by omega)]
  omega
theorem sc_ch_self {m : Int} (h : 1 ≤ m) (c : Ch) : scCh m m c = c := by
  cases c; simp only [scCh, scaled_self h]
theorem sc_ru_self {m : Int} (h : 1 ≤ m) (r : Ru) : scRu m m r = r := by
  cases r; simp only [scRu, scaled_self h]; split <;> rfl
theorem scale_self {m : Me} (h : 1 ≤ m.size) : scaleM m m.size = m := by
  cases m
  simp only [scaleM]
  have h1 : ∀ l : List Ch, l.map (scCh ‹Int› ‹Int›) = l := fun l => by
    rw [List.map_congr_left (g := id) (fun c _ => sc_ch_self h c), List.map_id]
  have h2 : ∀ l : List Ru, l.map (scRu ‹Int› ‹Int›) = l := fun l => by
    rw [List.map_congr_left (g := id) (fun c _ => sc_ru_self h c), List.map_id]
  rw [h1, h2]
def dbCh (c : Ch) : Ch := ⟨c.code, 2 * c.width, 2 * c.height, 2 * c.depth⟩
def dbRu (r : Ru) : Ru := if r.op = 0 then ⟨r.first, r.next, r.op, r.value * 2⟩ else r
theorem scale_dbl {m : Me} (h : 1 ≤ m.size) : scaleM m (2 * m.size) = ⟨2 * m.size, m.chars.map dbCh, m.rules.map dbRu⟩ := by
  simp only [scaleM]
  rw [List.map_congr_left (g := dbCh) (fun c _ => by simp only [scCh, dbCh, scaled_dbl h]), List.map_congr_left (g := dbRu) (fun c _ => by simp only [scRu, dbRu, scaled_dbl h, Int.mul_comm c.value])]
end Go.Proofs.YthfnijlgmjkedaaGreat
namespace Go.Proofs.YthfnijlgmjkedaaGreat
set_option maxRecDepth 100000
set_option maxHeartbeats 4000000
set_option linter.unusedVariables false
set_option linter.unusedSimpArgs false
open Go Go.Fx Go.Proofs.YthfnijlgmjkedaaGreat.Tab
theorem val_sz {m : Me} (h : validM m = true) : 1 ≤ m.size ∧ m.size ≤ 268435455 := by
  simp only [validM, sizeB, Bool.and_eq_true, decide_eq_true_eq] at h
  exact h.1
theorem scE_self {m : Me} (h : validM m = true) : scaleE m m.size = 0 := by
  have h1 := val_sz h
  have h2 : sizeB m.size = true := by simp only [sizeB, Bool.and_eq_true, decide_eq_true_eq]; exact h1
  simp only [scaleE, scale_self h1.1, h, h2, Bool.and_self, if_true]
theorem scE_cases {m : Me} {s : Int} (h : validM m = true) (hs : 1 ≤ s) : scaleE m s = 0 ∨ (scaleE m s = 2 ∧ 268435455 < s) ∨ scaleE m s = 17 := by
  unfold scaleE
  rw [h, Bool.true_and]
  cases hb : sizeB s
  · right; left
    refine ⟨rfl, ?_⟩
    simp only [sizeB, Bool.and_eq_false_iff, decide_eq_false_iff_not] at hb
    omega
  · rw [if_pos rfl]
    split
    · exact .inl rfl
    · exact .inr (.inr rfl)
theorem val_ch {m : Me} (h : validM m = true) {x : Ch} (hx : x ∈ m.chars) : (-268435455 ≤ x.width ∧ x.width ≤ 268435455) ∧ (-268435455 ≤ x.height ∧ x.height ≤ 268435455) ∧ (-268435455 ≤ x.depth ∧ x.depth ≤ 268435455) := by
  simp only [validM, Bool.and_eq_true] at h
  have := List.all_eq_true.1 h.2.2.1 x hx
  simp only [charB, coordB, Bool.and_eq_true, decide_eq_true_eq] at this
  exact this.2
theorem val_ru {m : Me} (h : validM m = true) {x : Ru} (hx : x ∈ m.rules) (hop : x.op = 0) : -268435455 ≤ x.value ∧ x.value ≤ 268435455 := by
  simp only [validM, validRules, Bool.and_eq_true] at h
  have := List.all_eq_true.1 h.2.2.2.2.2.1 x hx
  simp only [ruleB, Bool.and_eq_true, if_pos hop, coordB, decide_eq_true_eq] at this
  exact this.2.2.2.2
section
variable {w : World}
theorem MetricScales_c {m : Me} {p q : Option Addr} {c d : Nat} (hp : SlR w p (m.chars.flatMap chC)) (hq : SlR w q (m.rules.flatMap ruC)) :
    Ret Go.Proofs.Tryz.prog 8 #[meV m p q c d] w fun v w' => v = .bool true ∧ Ext w w' := by
  refine enter Go.Proofs.Tryz.func8 rfl rfl rfl ?_
  have hS := Sep.start (w := w)
  refine W_sr rfl (s_bxS hS (vs := meC m p q c d) rfl rfl fun w1 gm hS => (s_as rfl (s_nil ?_)))
  have hE1 := hS.ext
  have r1 : Row w1 ⟨gm, 0, none⟩ (meC m p q c d) := hS.row 0 rfl
  clear hS
  refine W_seq ?_
  cases hf : fewB m
  · refine W_sr rfl (s_lda (xs := meC m p q c d) E rfl rfl r1 rfl (s_bsA E rfl rfl rfl rfl rfl (cells := (meC m p q c d).toArray) (by kernel_rfl) fun w2 hE2 hh2 hs2 => (s_callx rfl rfl (Ret.eqv (few1 (m := m) (p := p) (q := q) (c := c) (d := d) (row_heap hh2)) (congrArg Value.bool hf)) fun w3 hE3 => (s_not rfl (s_mv rfl (s_g0 rfl (s_g0 rfl (s_g0 rfl (s_pk rfl (s_nil ?_))))))))))
    refine W_if rfl (fun _ => ?_) (fun h => by cases h)
    refine W_sr rfl (s_callx rfl rfl fleuronlaw27_awake_c fun w4 hE4 => (s_as rfl (s_nil ?_)))
    exact W_ret ⟨_, rfl, rfl, hE1.trans (hE2.trans (hE3.trans hE4))⟩
  have hb := few_bd hf
  have hm1 : MeR w1 m p q := ⟨Ext.sl hE1 hp, Ext.sl hE1 hq, by omega, by omega⟩
  cases hv : validM m
  · refine W_sr rfl (s_lda (xs := meC m p q c d) E rfl rfl r1 rfl (s_bsA E rfl rfl rfl rfl rfl (cells := (meC m p q c d).toArray) (by kernel_rfl) fun w2 hE2 hh2 hs2 => (s_callx rfl rfl (Ret.eqv (few1 (m := m) (p := p) (q := q) (c := c) (d := d) (row_heap hh2)) (congrArg Value.bool hf)) fun w3 hE3 => (s_not rfl (s_mv rfl (s_g1 rfl (s_lda (xs := meC m p q c d) E rfl rfl (Ext.row (hE2.trans hE3) r1) rfl (s_g1 rfl (s_callx rfl rfl (Ret.eqv (fleuronref27_Valid_c (m := m) (p := p) (q := q) (c := c) (d := d) (hm1.ext (hE2.trans hE3))) (congrArg Value.bool hv)) fun w4 hE4 => (s_g1 rfl (s_not rfl (s_pk rfl (s_nil ?_)))))))))))))
    refine W_if rfl (fun _ => ?_) (fun h => by cases h)
    refine W_sr rfl (s_callx rfl rfl fleuronlaw27_awake_c fun w5 hE5 => (s_as rfl (s_nil ?_)))
    exact W_ret ⟨_, rfl, rfl, hE1.trans (hE2.trans (hE3.trans (hE4.trans hE5)))⟩
  refine W_sr rfl (s_lda (xs := meC m p q c d) E rfl rfl r1 rfl (s_bsA E rfl rfl rfl rfl rfl (cells := (meC m p q c d).toArray) (by kernel_rfl) fun w2 hE2 hh2 hs2 => (s_callx rfl rfl (Ret.eqv (few1 (m := m) (p := p) (q := q) (c := c) (d := d) (row_heap hh2)) (congrArg Value.bool hf)) fun w3 hE3 => (s_not rfl (s_mv rfl (s_g1 rfl (s_lda (xs := meC m p q c d) E rfl rfl (Ext.row (hE2.trans hE3) r1) rfl (s_g1 rfl (s_callx rfl rfl (Ret.eqv (fleuronref27_Valid_c (m := m) (p := p) (q := q) (c := c) (d := d) (hm1.ext (hE2.trans hE3))) (congrArg Value.bool hv)) fun w4 hE4 => (s_g1 rfl (s_not rfl (s_pk rfl (s_nil ?_)))))))))))))
  refine W_if rfl (fun h => by cases h) (fun _ => W_skip ?_)
  have hE14 := hE2.trans (hE3.trans hE4)
  have hm4 := hm1.ext hE14
  have r4 := Ext.row hE14 r1
  have hsz := val_sz hv
  have hE04 := hE1.trans hE14
  clear hm1 hE14 r1
  refine W_sr rfl (s_lda (xs := meC m p q c d) E rfl rfl r4 rfl (s_fa E rfl rfl (s_ld E rfl rfl (r4 0 _ rfl) (s_call rfl rfl (metric_Scale_c (m := m) (p := p) (q := q) (c := c) (d := d) (size := m.size) hm4) ?_))))
  rintro _ w5 ⟨hA, _, hE5⟩
  rw [scE_self hv, scale_self hsz.1] at hA
  have ho : OkOr m 0 = m := if_pos rfl
  unfold Ans at hA
  rw [ho] at hA
  obtain ⟨pa, qa, ca, da, rfl, hma⟩ := hA
  have hS := Sep.start (w := w5)
  refine (s_mv rfl (s_ex rfl rfl (s_ex rfl rfl (s_alS hS E rfl rfl fun w6 ga hS => (s_stS hS 0 E (us := meC m pa qa ca da) rfl rfl rfl rfl rfl rfl rfl rfl rfl rfl fun w7 hS => (s_as rfl (s_nil ?_)))))))
  have hE57 := hS.ext
  have ra := hS.row 0 rfl
  clear hS
  have r7 := Ext.row (hE5.trans hE57) r4
  have hm7 := hm4.ext (hE5.trans hE57)
  refine W_seq ?_
  refine W_sr rfl (s_mv rfl (s_cmp (c := false) rfl rfl rfl (s_mv rfl (s_g1 rfl (s_lda (xs := meC m pa qa ca da) E rfl rfl ra rfl (s_g1 rfl (s_lda (xs := meC m p q c d) E rfl rfl r7 rfl (s_g1 rfl (s_callx rfl rfl (Ret.eqv (fleuronref27_Same_c (hma.ext hE57) hm7) (congrArg Value.bool (decide_eq_true rfl))) fun w8 hE8 => (s_g1 rfl (s_not rfl (s_pk rfl (s_nil ?_)))))))))))))
  refine W_if rfl (fun h => by cases h) (fun _ => W_skip ?_)
  have r8 := Ext.row hE8 r7
  have hm8 := hm7.ext hE8
  have hE08 := hE04.trans (hE5.trans (hE57.trans hE8))
  refine W_n1 1 (.pointer (some ⟨gm, 0, none⟩)) rfl fun ρ => ?_
  clear ra r7 hm7 hma r4 hm4
  refine W_sr rfl (s_lda (xs := meC m p q c d) E rfl rfl r8 rfl (s_fa E rfl rfl (s_ld E rfl rfl (r8 0 _ rfl) (s_mul rfl rfl (by omega) (s_call rfl rfl (metric_Scale_c (m := m) (p := p) (q := q) (c := c) (d := d) (size := 2 * m.size) hm8) ?_)))))
  rintro _ w9 ⟨hA, _, hE9⟩
  obtain ⟨e, he⟩ : ∃ e, e = scaleE m (2 * m.size) := ⟨_, rfl⟩
  have hec := scE_cases hv (s := 2 * m.size) (by omega)
  rw [← he] at hA hec
  unfold Ans at hA
  obtain ⟨M, hM⟩ : ∃ M, M = OkOr (scaleM m (2 * m.size)) e := ⟨_, rfl⟩
  rw [← hM] at hA
  obtain ⟨pb, qb, cb, db, rfl, hmb⟩ := hA
  have hS := Sep.start (w := w9)
  refine (s_mv rfl (s_ex rfl rfl (s_ex rfl rfl (s_alS hS E rfl rfl fun w10 gb hS => (s_stS hS 0 E (us := meC M pb qb cb db) rfl rfl rfl rfl rfl rfl rfl rfl rfl rfl fun w11 hS => (s_as rfl (s_nil ?_)))))))
  have hE11 := hS.ext
  have rb := hS.row 0 rfl
  clear hS
  have r11 := Ext.row (hE9.trans hE11) r8
  have hm11 := hm8.ext (hE9.trans hE11)
  have hmb11 := hmb.ext hE11
  have hEl := hE08.trans (hE9.trans hE11)
  clear r8 hm8 hmb
  refine W_seq ?_
  by_cases he0 : e = 0
  case neg =>
    refine W_sr rfl (s_mv rfl (s_cmp (c := true) rfl rfl (decide_eq_true he0) (s_nil ?_)))
    refine W_if rfl (fun _ => ?_) (fun h => by cases h)
    by_cases he2 : e = 2
    · have hg : 268435455 < 2 * m.size := by omega
      refine W_sr rfl (s_mv rfl (s_cmp (c := true) rfl rfl (decide_eq_true he2) (s_mv rfl (s_g1 rfl (s_fa E rfl rfl (s_g1 rfl (s_ld E rfl rfl (r11 0 _ rfl) (s_g1 rfl (s_mul rfl rfl (by omega) (s_g1 rfl (s_cmp (c := true) rfl rfl (decide_eq_true hg) (s_pk rfl (s_mv rfl (s_g0 rfl (s_g0 rfl (s_pk rfl (s_mv rfl (s_g1 rfl (s_callx rfl rfl fleuronlaw27_awake_c fun w12 hE12 => (s_pk rfl (s_as rfl (s_nil ?_))))))))))))))))))))))
      exact W_ret ⟨_, rfl, rfl, hEl.trans hE12⟩
    · have he17 : e = 17 := by omega
      refine W_sr rfl (s_mv rfl (s_cmp (c := false) rfl rfl (decide_eq_false he2) (s_mv rfl (s_g0 rfl (s_g0 rfl (s_g0 rfl (s_g0 rfl (s_pk rfl (s_mv rfl (s_g1 rfl (s_mv rfl (s_g1 rfl (s_cmp (c := true) rfl rfl (decide_eq_true he17) (s_pk rfl (s_mv rfl (s_g1 rfl (s_callx rfl rfl fleuronlaw27_awake_c fun w12 hE12 => (s_pk rfl (s_as rfl (s_nil ?_))))))))))))))))))))
      exact W_ret ⟨_, rfl, rfl, hEl.trans hE12⟩
  refine W_sr rfl (s_mv rfl (s_cmp (c := false) rfl rfl (decide_eq_false (fun h => h he0)) (s_nil ?_)))
  refine W_if rfl (fun h => by cases h) (fun _ => W_skip ?_)
  have hM2 : M = ⟨2 * m.size, m.chars.map dbCh, m.rules.map dbRu⟩ := by rw [hM, he0, ← scale_dbl hsz.1]; exact if_pos rfl
  have z1 : M.size = 2 * m.size := by rw [hM2]
  have z2 : M.chars.length = m.chars.length := by rw [hM2]; simp
  have z3 : M.rules.length = m.rules.length := by rw [hM2]; simp
  refine W_seq ?_
  refine W_sr rfl (s_fa E rfl rfl (s_ld E rfl rfl (rb 0 _ rfl) (s_fa E rfl rfl (s_ld E rfl rfl (r11 0 _ rfl) (s_mul rfl rfl (by omega) (s_cmp (c := false) rfl rfl (decide_eq_false (fun h => h z1)) (s_mv rfl (s_g1 rfl (s_fa E rfl rfl (s_g1 rfl (s_ld E rfl rfl (rb 1 _ rfl) (s_g1 rfl (s_len E rfl rfl (s_g1 rfl (s_fa E rfl rfl (s_g1 rfl (s_ld E rfl rfl (r11 1 _ rfl) (s_g1 rfl (s_len E rfl rfl (s_g1 rfl (s_cmp (c := false) rfl rfl (decide_eq_false (by omega)) (s_pk rfl (s_mv rfl (s_g1 rfl (s_fa E rfl rfl (s_g1 rfl (s_ld E rfl rfl (rb 2 _ rfl) (s_g1 rfl (s_len E rfl rfl (s_g1 rfl (s_fa E rfl rfl (s_g1 rfl (s_ld E rfl rfl (r11 2 _ rfl) (s_g1 rfl (s_len E rfl rfl (s_g1 rfl (s_cmp (c := false) rfl rfl (decide_eq_false (by omega)) (s_pk rfl (s_nil ?_)))))))))))))))))))))))))))))))))))))))
  refine W_if rfl (fun h => by cases h) (fun _ => W_skip ?_)
  have hap := hm11.ch; have haq := hm11.ru; have hbp := hmb11.ch; have hbq := hmb11.ru
  have hnl := hm11.nch; have hml := hm11.nru
  refine W_n2 1 5 (.pointer (some ⟨gm, 0, none⟩)) (.pointer (some ⟨gb, 0, none⟩)) rfl rfl fun ρ => ?_
  refine W_sk fun K hK => ?_
  have H : ∀ (ρ : Fr) w', Ext w11 w' → ρ 1 = .pointer (some ⟨gm, 0, none⟩) → ρ 5 = .pointer (some ⟨gb, 0, none⟩) → K ρ w' := by
    intro ρ w12 hE12 q2 q3
    rw [u2 q2 q3]
    refine hK _ _ ?_
    refine W_seq ?_
    refine W_sr rfl (s_fa E rfl rfl (s_ld E rfl rfl (Ext.row hE12 r11 2 _ rfl) (s_len E rfl rfl (s_mv rfl (s_nil ?_)))))
    refine W_block ?_
    refine W_loop (fun r ρ w' => ∃ ρ' j, ρ = upd (upd (upd (upd (upd ρ' 1 (.pointer (some ⟨gm, 0, none⟩))) 5 (.pointer (some ⟨gb, 0, none⟩))) 113 (.slice q m.rules.length d)) 114 (iV m.rules.length)) 115 (iV (j : Nat)) ∧ j ≤ m.rules.length ∧ r = m.rules.length - j ∧ Ext w11 w') m.rules.length
      ⟨_, 0, u5 rfl rfl rfl rfl rfl, by omega, rfl, hE12⟩ ?_
    rintro r _ w13 ⟨ρ, j, rfl, hj, rfl, hE13⟩
    refine W_sr rfl (s_lss rfl rfl (s_nil ?_))
    refine W_seq ?_
    refine W_if rfl (fun hd => W_skip ?_) (fun hd => W_exit ?_)
    · have hd := of_decide_eq_true hd
      have h1 : j < m.rules.length := by omega
      have h1' : j < M.rules.length := by omega
      obtain ⟨x, hx⟩ : ∃ x, x = m.rules[j] := ⟨_, rfl⟩
      have hy : M.rules[j] = dbRu x := by simp only [hM2, List.getElem_map, hx]
      have hbd := fun h => val_ru hv (x := x) (by rw [hx]; exact List.getElem_mem _) h
      obtain ⟨aa, hqa, hra1⟩ := haq.some (by intro h0; have := flat_length ruC 4 ruC_len m.rules; rw [h0] at this; simp at this; omega)
      obtain ⟨ab, hqb, hrb1⟩ := hbq.some (by intro h0; have := flat_length ruC 4 ruC_len M.rules; rw [h0] at this; simp at this; omega)
      have r1 := Ext.row hE13 (hra1.at ruC_len h1)
      have r2 := Ext.row hE13 (hrb1.at ruC_len h1')
      rw [← hx] at r1; rw [hy] at r2
      refine W_seq (W_block ?_)
      have hS := Sep.start (w := w13)
      refine W_sr rfl (s_mv rfl (s_ia (i := j) E rfl (congrArg (fun z => Value.slice z m.rules.length d) hqa) rfl rfl (by omega) (s_lda (xs := ruC x) E rfl rfl r1 rfl (s_alS hS E rfl rfl fun w14 g hS => (s_as rfl (s_stS hS 0 E (us := ruC x) rfl rfl rfl rfl rfl rfl rfl rfl rfl rfl fun w15 hS => (s_nil ?_)))))))
      refine W_n7 1 5 113 114 115 9 10 (.pointer (some ⟨gm, 0, none⟩)) (.pointer (some ⟨gb, 0, none⟩)) (.slice q m.rules.length d) (iV m.rules.length) (iV j) (iV j) (.pointer (some ⟨g, 0, none⟩)) rfl rfl rfl rfl rfl rfl rfl fun ρ => ?_
      have hE15 := hS.ext
      have rb15 := Ext.row (hE13.trans hE15) rb
      have r215 := Ext.row hE15 r2
      refine W_sk fun K2 hK2 => ?_
      have fin : ∀ (ρ : Fr) w', Ext w13 w' → Row w' ⟨g, 0, none⟩ (ruC (dbRu x)) → ρ 1 = .pointer (some ⟨gm, 0, none⟩) → ρ 5 = .pointer (some ⟨gb, 0, none⟩) → ρ 113 = .slice q m.rules.length d → ρ 114 = iV m.rules.length → ρ 115 = iV j → ρ 9 = iV j → ρ 10 = .pointer (some ⟨g, 0, none⟩) → K2 ρ w' := by
        intro ρ w16 hE16 rx q1 q5 q113 q114 q115 q9 q10
        rw [u7 q1 q5 q113 q114 q115 q9 q10]
        refine hK2 _ _ ?_
        have rb16 := Ext.row (hE13.trans hE16) rb
        have r216 := Ext.row hE16 r2
        refine W_qr (Ext w16) orders rfl (by kernel_rfl) (Ext.drew0) (q_fa E rfl rfl (q_ld E rfl rfl (fun w' h => Ext.row h rb16 2 _ rfl) (q_mv rfl (q_ia (i := j) E rfl (congrArg (fun z => Value.slice z M.rules.length db) hqb) rfl rfl (by omega) (q_lda (xs := ruC (dbRu x)) E rfl rfl (fun w' h => Ext.row h r216) rfl (q_lda (xs := ruC (dbRu x)) E rfl rfl (fun w' h => Ext.row h rx) rfl (q_neS (l := ruP2 (dbRu x) (dbRu x)) eqS_ru rfl rfl (q_nil ?_))))))))
        intro w17 hE17
        rw [ruP2_eq, decide_eq_true rfl]
        refine W_if rfl (fun h => by cases h) (fun _ => W_skip ?_)
        refine W_reg rfl (s_add rfl rfl (by omega) (s_mv rfl (s_nil ?_)))
        exact ⟨m.rules.length - (j + 1), by omega, _, j + 1, u5 rfl rfl rfl rfl rfl, by omega, rfl, hE13.trans (hE16.trans hE17)⟩
      by_cases hop : x.op = 0
      · have hbd := hbd hop
        have hdb : dbRu x = ⟨x.first, x.next, x.op, x.value * 2⟩ := if_pos hop
        refine W_sr rfl (s_fa E rfl rfl (s_ld E rfl rfl (hS.row 0 rfl 2 _ rfl) (s_cmp (c := true) rfl rfl (decide_eq_true hop) (s_nil ?_))))
        refine W_if rfl (fun _ => ?_) (fun h => by cases h)
        refine W_reg rfl (s_fa E rfl rfl (s_ld E rfl rfl (hS.row 0 rfl 3 _ rfl) (s_mul rfl rfl (by omega) (s_fa E rfl rfl (s_st1S hS 0 E (us := ruC (dbRu x)) rfl rfl rfl rfl rfl rfl (show 3 < 4 by decide) (by rw [hdb]; rfl) fun w16 hS => (s_nil ?_))))))
        exact fin _ _ hS.ext (hS.row 0 rfl) rfl rfl rfl rfl rfl rfl rfl
      · have hdb : dbRu x = x := if_neg hop
        refine W_sr rfl (s_fa E rfl rfl (s_ld E rfl rfl (hS.row 0 rfl 2 _ rfl) (s_cmp (c := false) rfl rfl (decide_eq_false hop) (s_nil ?_))))
        refine W_if rfl (fun h => by cases h) (fun _ => W_skip ?_)
        exact fin _ _ hS.ext (by rw [hdb]; exact hS.row 0 rfl) rfl rfl rfl rfl rfl rfl rfl
    · refine W_sr rfl (s_callx rfl rfl fleuronlaw27_awake_c fun w14 hE14 => (s_as rfl (s_nil ?_)))
      exact W_ret ⟨_, rfl, rfl, hEl.trans (hE13.trans hE14)⟩
  refine W_sr rfl (s_fa E rfl rfl (s_ld E rfl rfl (r11 1 _ rfl) (s_len E rfl rfl (s_mv rfl (s_nil ?_)))))
  refine W_block ?_
  refine W_loop (fun r ρ w' => ∃ ρ' j, ρ = upd (upd (upd (upd (upd ρ' 1 (.pointer (some ⟨gm, 0, none⟩))) 5 (.pointer (some ⟨gb, 0, none⟩))) 86 (.slice p m.chars.length c)) 87 (iV m.chars.length)) 88 (iV (j : Nat)) ∧ j ≤ m.chars.length ∧ r = m.chars.length - j ∧ Ext w11 w') m.chars.length
    ⟨_, 0, u5 rfl rfl rfl rfl rfl, by omega, rfl, Mod.refl⟩ ?_
  rintro r _ w13 ⟨ρ, j, rfl, hj, rfl, hE13⟩
  refine W_sr rfl (s_lss rfl rfl (s_nil ?_))
  refine W_seq ?_
  refine W_if rfl (fun hd => W_skip ?_) (fun hd => W_exit ?_)
  · have hd := of_decide_eq_true hd
    have h1 : j < m.chars.length := by omega
    have h1' : j < M.chars.length := by omega
    obtain ⟨x, hx⟩ : ∃ x, x = m.chars[j] := ⟨_, rfl⟩
    have hy : M.chars[j] = dbCh x := by simp only [hM2, List.getElem_map, hx]
    obtain ⟨⟨b1, b2⟩, ⟨b3, b4⟩, b5, b6⟩ := val_ch hv (x := x) (by rw [hx]; exact List.getElem_mem _)
    obtain ⟨aa, hqa, hra1⟩ := hap.some (by intro h0; have := flat_length chC 4 chC_len m.chars; rw [h0] at this; simp at this; omega)
    obtain ⟨ab, hqb, hrb1⟩ := hbp.some (by intro h0; have := flat_length chC 4 chC_len M.chars; rw [h0] at this; simp at this; omega)
    have r1 := Ext.row hE13 (hra1.at chC_len h1)
    have r2 := Ext.row hE13 (hrb1.at chC_len h1')
    rw [← hx] at r1; rw [hy] at r2
    refine W_seq (W_block ?_)
    have hS := Sep.start (w := w13)
    refine W_sr rfl (s_mv rfl (s_ia (i := j) E rfl (congrArg (fun z => Value.slice z m.chars.length c) hqa) rfl rfl (by omega) (s_lda (xs := chC x) E rfl rfl r1 rfl (s_alS hS E rfl rfl fun w14 g hS => (s_as rfl (s_stS hS 0 E (us := chC x) rfl rfl rfl rfl rfl rfl rfl rfl rfl rfl fun w15 hS => (s_nil ?_)))))))
    have hE15 := hS.ext
    have rx := hS.row 0 rfl
    have rb15 := Ext.row (hE13.trans hE15) rb
    have r215 := Ext.row hE15 r2
    clear hS
    refine W_qr (Ext w15) orders rfl (by kernel_rfl) (Ext.drew0) (q_fa E rfl rfl (q_ld E rfl rfl (fun w' h => Ext.row h rb15 1 _ rfl) (q_mv rfl (q_ia (i := j) E rfl (congrArg (fun z => Value.slice z M.chars.length cb) hqb) rfl rfl (by omega) (q_lda (xs := chC (dbCh x)) E rfl rfl (fun w' h => Ext.row h r215) rfl (q_fa E rfl rfl (q_ld E rfl rfl (fun w' h => Ext.row h rx 0 _ rfl) (q_fa E rfl rfl (q_ld E rfl rfl (fun w' h => Ext.row h rx 1 _ rfl) (q_mul rfl rfl (by omega) (q_fa E rfl rfl (q_ld E rfl rfl (fun w' h => Ext.row h rx 2 _ rfl) (q_mul rfl rfl (by omega) (q_fa E rfl rfl (q_ld E rfl rfl (fun w' h => Ext.row h rx 3 _ rfl) (q_mul rfl rfl (by omega) (q_bld rfl (cells := (chC (dbCh x)).toArray) (by kernel_rfl) (q_neS (l := chP2 (dbCh x) (dbCh x)) eqS_ch rfl rfl (q_nil ?_)))))))))))))))))))
    intro w16 hE16
    rw [chP2_eq, decide_eq_true rfl]
    refine W_if rfl (fun h => by cases h) (fun _ => W_skip ?_)
    refine W_reg rfl (s_add rfl rfl (by omega) (s_mv rfl (s_nil ?_)))
    exact ⟨m.chars.length - (j + 1), by omega, _, j + 1, u5 rfl rfl rfl rfl rfl, by omega, rfl, hE13.trans (hE15.trans hE16)⟩
  · exact H _ _ hE13 rfl rfl
end
end Go.Proofs.YthfnijlgmjkedaaGreat
namespace Go.Proofs.YthfnijlgmjkedaaGreat.cScales
open Go Go.Fx Go.ChangeShapes Go.WideShapes Go.ChangeAt Go.RowKit
set_option linter.unusedVariables false
theorem own : ownKnob Go.Proofs.Tryz.prog.godebug = none := by kernel_rfl
set_option maxRecDepth 100000 in
theorem lifted (os : Os) (started : os.Started) (H : Type) (enc : TypeId × Value → H) :
    ReturnsInHanded {} Go.Proofs.Tryz.checked os 8 .any (Rows.metricScalesSpec.pre6 enc Go.Proofs.Tryz.prog Go.Proofs.Tryz.f8 Rows.metricScalesRow.domain false) (Rows.metricScalesSpec.post enc Go.Proofs.Tryz.prog Go.Proofs.Tryz.f8 false true false false) := by
  refine returnsInHanded_of_change (C := Go.Proofs.Tryz.checked) own started (by kernel_rfl) Go.Proofs.Tryz.func8
    (ChangeSpec.witness6 (enc := enc) (C := Go.Proofs.Tryz.checked) false ⟨#[], #[.agg #[.int .i64 0, .slice none 0 0, .slice none 0 0]], []⟩ 8 (by kernel_rfl) (by kernel_rfl) (by kernel_rfl) (by kernel_rfl)) ?_
  intro W base args ds gs before hval0 hW hcnd _
  have hval : ∀ (j : Nat) t v, Go.Proofs.Tryz.f8.params[j]? = some t → args[j]? = some v → Value.okWide Go.Proofs.Tryz.prog W .any base t v := hval0
  have hW' := hW
  obtain ⟨p, q, hA0, hV, rfl, hfz, hnd⟩ := hW
  have hA : DataW.TrodAll enc Go.Proofs.Tryz.prog W 0 (fun _ => true) true Go.Proofs.Tryz.f8.params.toList args.toList ds p := hA0
  rw [Go.Proofs.Tryz.params8] at hA hval
  obtain ⟨v0, vs0, d0, ds0, p0, q0, hargs, rfl, rfl, h0, r0⟩ := trodAll_cons hA
  obtain ⟨rfl, rfl, rfl⟩ := trodAll_nil r0
  obtain rfl : args = #[v0] := by cases args; simp_all
  obtain ⟨rfl, rfl⟩ := trodVars_none hV
  obtain ⟨m, a, b, c, d, rfl, hp, hq, _, _⟩ := op_meV (hval 0 _ v0 rfl rfl) h0
  clear hA0 hval0
  refine (MetricScales_c (w := W) hp hq).2.mono fun e W' ⟨v, he, hv, hE⟩ => ?_
  subst hv
  exact ⟨_, he, law_post (by kernel_rfl) (by kernel_rfl) (by kernel_rfl) Go.Proofs.Tryz.underlying4 rfl hW' rfl hE.below⟩
set_option maxRecDepth 100000 in
theorem over : Rows.metricScalesRow.holds Tryz.pinned (OpenSpec.ofChange Rows.metricScalesSpec) :=
  OpenClaim.holds_of_wide 8 Go.Proofs.Tryz.f8 rfl rfl rfl rfl rfl rfl rfl ⟨rfl, rfl, rfl, rfl, rfl⟩ rfl rfl rfl rfl rfl (by kernel_rfl) Go.Proofs.Tryz.func8 (by kernel_rfl)
    (of_decide_eq_true (by kernel_rfl)) (by unfold Func.isWrapper; first | (rw [if_pos (by decide +kernel)]; kernel_rfl) | (rw [if_neg (by decide +kernel)]; exact ⟨rfl, rfl⟩))
    (fun os started H enc _ => lifted os started H enc)
theorem proved : Rows.MetricScalesSaid :=
  over
end Go.Proofs.YthfnijlgmjkedaaGreat.cScales

/- Contracts of functions that the laws of this seat call: what each answers, for every input that its hypotheses name. -/
import Derived.Test.YthfnijlgmjkedaaGreatG4
import Derived.Test.YthfnijlgmjkedaaGreatG3
namespace Go.Proofs.YthfnijlgmjkedaaGreat
set_option maxRecDepth 100000
set_option maxHeartbeats 1000000
set_option linter.unusedVariables false
set_option linter.unusedSimpArgs false
open Go Go.Fx Go.Proofs.YthfnijlgmjkedaaGreat.Tab
section
variable {α : Type} {cmp : α → α → Int} {f f' : Nat → α} {a n bs t : Nat}
def Dn (cmp : α → α → Int) (f : Nat → α) (bs a : Nat) : Prop := ∀ u, (u + 1) * bs ≤ a → Srt cmp f (u * bs) ((u + 1) * bs)
def Bl (cmp : α → α → Int) (f : Nat → α) (bs n : Nat) : Prop := ∀ u, Srt cmp f (u * bs) (min ((u + 1) * bs) n)
theorem Dn.zero (hb : 0 < bs) : Dn cmp f bs 0 := fun u h => by
  have := Nat.mul_le_mul_right bs (show 1 ≤ u + 1 by omega)
  omega
theorem Dn.step (h : Dn cmp f bs a) (ha : a = t * bs) (hb : 0 < bs) (hp : Pm a (a + bs) f f') (hs : Srt cmp f' a (a + bs)) : Dn cmp f' bs (a + bs) := by
  intro u hu
  by_cases e : u = t
  · subst e
    rw [Nat.succ_mul, ← ha]; exact hs
  · have hut : u < t := by
      by_cases hx : u < t
      · exact hx
      · have h1 := Nat.mul_le_mul_right bs (show t + 2 ≤ u + 1 by omega)
        rw [Nat.add_mul] at h1
        omega
    have h1 := Nat.mul_le_mul_right bs (show u + 1 ≤ t by omega)
    intro p q h2 h3 h4
    rw [hp.out (.inl (by omega)), hp.out (.inl (by omega))]
    exact h u (by omega) p q h2 h3 h4
theorem Dn.bl (h : Dn cmp f bs a) (ha : a = t * bs) (hs : Srt cmp f a n) (han : a ≤ n) (hn : n < a + bs) : Bl cmp f bs n := by
  intro u
  by_cases e : u = t
  · subst e
    rw [← ha]; exact hs.sub (by omega) (by omega)
  · by_cases hut : u < t
    · have h1 := Nat.mul_le_mul_right bs (show u + 1 ≤ t by omega)
      exact (h u (by omega)).sub (by omega) (by omega)
    · have h1 := Nat.mul_le_mul_right bs (show t + 1 ≤ u by omega)
      rw [Nat.succ_mul] at h1
      intro p q h2 h3 h4
      omega
theorem Bl.two (h : Bl cmp f bs n) (ha : a = t * (2 * bs)) : Srt cmp f a (min (a + bs) n) ∧ Srt cmp f (a + bs) (min (a + 2 * bs) n) := by
  have e : 2 * t * bs = a := by rw [ha, Nat.mul_comm 2 t, Nat.mul_assoc]
  have h1 := h (2 * t)
  have h2 := h (2 * t + 1)
  have e1 : (2 * t + 1) * bs = a + bs := by rw [Nat.add_mul, e, Nat.one_mul]
  have e2 : (2 * t + 1 + 1) * bs = a + 2 * bs := by rw [Nat.add_mul, e1, Nat.one_mul]; omega
  rw [e, e1] at h1
  rw [e1, e2] at h2
  exact ⟨h1, h2.sub (by omega) (by omega)⟩
end
section
variable {w : World} {g n c : Nat}
theorem slices_stable_CharMetric_c {f : Nat → Ch} {gc : FuncId} {cmp : Ch → Ch → Int} (ho : Ordr cmp) (hg : ∀ x y w, Ret Go.Proofs.Tryz.prog gc #[chV x, chV y] w fun v w' => v = iV (cmp x y) ∧ Ext w w') (hn : n ≤ 1000000) (h : ArrR chC w g n f) :
    Ret Go.Proofs.Tryz.prog 105 #[.slice (some ⟨g, 0, none⟩) n c, iV n, .func (.func gc) #[] #[]] w fun v w' => v = .tuple #[] ∧ ∃ f', ArrR chC w' g n f' ∧ Pm 0 n f f' ∧ Srt cmp f' 0 n ∧ Mod (fun k => k = g) w w' := by
  refine enter Go.Proofs.Tryz.func105 rfl rfl rfl ?_
  refine W_sr rfl (s_as rfl (s_nil ?_))
  refine W_sr rfl (s_mv rfl (s_as rfl (s_as rfl (s_nil ?_))))
  refine W_seq ?_
  refine W_block ?_
  refine W_loop (fun q ρ w' => ∃ ρ' a f' t, ρ = upd (upd (upd (upd (upd (upd ρ' 0 (.slice (some ⟨g, 0, none⟩) n c)) 1 (iV n)) 2 (.func (.func gc) #[] #[])) 6 (iV 20)) 7 (iV (a : Nat))) 8 (iV ((a + 20 : Nat) : Int)) ∧ a ≤ n ∧ q = n - a ∧ a = t * 20 ∧ ArrR chC w' g n f' ∧ Pm 0 n f f' ∧ Dn cmp f' 20 a ∧ Mod (fun k => k = g) w w') n
    ⟨_, 0, f, 0, u6 rfl rfl rfl rfl rfl rfl, by omega, by omega, rfl, h, .refl, Dn.zero (by omega), Mod.refl⟩ ?_
  rintro q _ w1 ⟨ρ, a, f1, t, rfl, han, rfl, hat, hA, hP, hD, hM⟩
  refine W_seq ?_
  refine W_sr rfl (s_mv rfl (s_mv rfl (s_leq rfl rfl (s_nil ?_))))
  refine W_if rfl (fun hd => W_skip ?_) (fun hd => W_exit ?_)
  · have hd := of_decide_eq_true hd
    refine W_block ?_
    refine W_sr rfl (s_mv rfl (s_mv rfl (s_mv rfl (s_mv rfl (s_callx rfl rfl (slices_insertionSort_CharMetric_c ho hg hA (show a ≤ a + 20 by omega) (by omega) hn) fun w2 h2 => (s_nil ?_))))))
    obtain ⟨f2, hA2, hP2, hS2, hM2⟩ := h2
    refine W_sr rfl (s_mv rfl (s_as rfl (s_nil ?_)))
    refine W_reg rfl (s_mv rfl (s_mv rfl (s_add rfl rfl (by omega) (s_as rfl (s_nil ?_)))))
    refine ⟨n - (a + 20), by omega, _, a + 20, f2, t + 1, u6 rfl rfl rfl rfl rfl rfl, by omega, rfl, by rw [Nat.succ_mul, hat], hA2, hP.trans (hP2.mono (by omega) (by omega)), hD.step hat (by omega) hP2 hS2, hM.trans hM2⟩
  have hd := of_decide_eq_false hd
  refine W_sr rfl (s_mv rfl (s_mv rfl (s_mv rfl (s_mv rfl (s_callx rfl rfl (slices_insertionSort_CharMetric_c ho hg hA han (Nat.le_refl n) hn) fun w2 h2 => (s_nil ?_))))))
  obtain ⟨f2, hA2, hP2, hS2, hM2⟩ := h2
  have hB : Bl cmp f2 20 n := by
    refine Dn.bl (t := t) (a := a) (fun u hu => ?_) hat hS2 han (by omega)
    intro p q h1 h2 h3
    rw [hP2.out (.inl (by omega)), hP2.out (.inl (by omega))]
    exact hD u hu p q h1 h2 h3
  refine W_block ?_
  refine W_loop (fun q ρ w' => ∃ ρ' bs f', ρ = upd (upd (upd (upd ρ' 0 (.slice (some ⟨g, 0, none⟩) n c)) 1 (iV n)) 2 (.func (.func gc) #[] #[])) 6 (iV (bs : Nat)) ∧ 0 < bs ∧ bs ≤ 2000000 ∧ q = 2000000 - bs ∧ ArrR chC w' g n f' ∧ Pm 0 n f f' ∧ Bl cmp f' bs n ∧ Mod (fun k => k = g) w w') (2000000 - 20)
    ⟨_, 20, f2, u4 rfl rfl rfl rfl, by omega, by omega, rfl, hA2, hP.trans (hP2.mono (by omega) (by omega)), hB, hM.trans hM2⟩ ?_
  clear hA hP hD hM hA2 hP2 hS2 hM2 hB
  rintro q _ w3 ⟨ρ, bs, f3, rfl, hb0, hbs, rfl, hA, hP, hB, hM⟩
  refine W_seq ?_
  refine W_sr rfl (s_mv rfl (s_mv rfl (s_lss rfl rfl (s_nil ?_))))
  refine W_if rfl (fun hd => W_skip ?_) (fun hd => W_exit ?_)
  · have hd := of_decide_eq_true hd
    have hbn : bs < n := by omega
    refine W_block ?_
    refine W_sr rfl (s_mv rfl (s_mul rfl rfl (by omega) (s_as rfl (s_as rfl (s_nil ?_)))))
    refine W_seq ?_
    refine W_block ?_
    refine W_loop (fun q ρ w' => ∃ ρ' a f' t, ρ = upd (upd (upd (upd (upd (upd ρ' 0 (.slice (some ⟨g, 0, none⟩) n c)) 1 (iV n)) 2 (.func (.func gc) #[] #[])) 6 (iV (bs : Nat))) 7 (iV (a : Nat))) 8 (iV ((a : Int) + 2 * bs)) ∧ a ≤ n ∧ q = n - a ∧ a = t * (2 * bs) ∧ ArrR chC w' g n f' ∧ Pm 0 a f3 f' ∧ Dn cmp f' (2 * bs) a ∧ Mod (fun k => k = g) w w') n
      ⟨_, 0, f3, 0, u6 rfl rfl rfl rfl rfl (congrArg iV (show (2 : Int) * bs = ((0 : Nat) : Int) + 2 * bs by omega)), by omega, rfl, (Nat.zero_mul _).symm, hA, .refl, Dn.zero (by omega), hM⟩ ?_
    clear hA hM
    rintro q _ w4 ⟨ρ, a, f4, t, rfl, han, rfl, hat, hA, hP4, hD, hM⟩
    refine W_seq ?_
    refine W_sr rfl (s_mv rfl (s_mv rfl (s_leq rfl rfl (s_nil ?_))))
    have two := hB.two hat
    have same : ∀ u v, a ≤ u → Srt cmp f3 u v → Srt cmp f4 u v := fun u v hu hs p q h1 h2 h3 => by
      rw [hP4.out (.inr (by omega)), hP4.out (.inr (by omega))]; exact hs p q h1 h2 h3
    refine W_if rfl (fun he => W_skip ?_) (fun he => W_exit ?_)
    · have he := of_decide_eq_true he
      refine W_block ?_
      have call := slices_symMerge_CharMetric_c (g := g) (c := c) ho hg hn (2 * bs) (w := w4) (f := f4) (a := a) (m := a + bs) (b := a + 2 * bs) (by omega) (by omega) (by omega) (by omega) hA (same _ _ (by omega) (two.1.sub (by omega) (by omega))) (same _ _ (by omega) (two.2.sub (by omega) (by omega)))
      rw [show ((a + bs : Nat) : Int) = (a : Int) + bs by omega, show ((a + 2 * bs : Nat) : Int) = (a : Int) + 2 * bs by omega] at call
      refine W_sr rfl (s_mv rfl (s_mv rfl (s_mv rfl (s_mv rfl (s_add rfl rfl (by omega) (s_mv rfl (s_mv rfl (s_callx rfl rfl call fun w5 h5 => (s_nil ?_)))))))))
      obtain ⟨f5, hA5, hP5, hS5, hM5⟩ := h5
      refine W_sr rfl (s_mv rfl (s_as rfl (s_nil ?_)))
      refine W_reg rfl (s_mv rfl (s_mv rfl (s_mul rfl rfl (by omega) (s_add rfl rfl (by omega) (s_as rfl (s_nil ?_))))))
      refine ⟨n - (a + 2 * bs), by omega, _, a + 2 * bs, f5, t + 1, u6 rfl rfl rfl rfl (congrArg iV (show (a : Int) + 2 * bs = ((a + 2 * bs : Nat) : Int) by omega)) (congrArg iV (show (a : Int) + 2 * bs + 2 * bs = ((a + 2 * bs : Nat) : Int) + 2 * bs by omega)), by omega, rfl, (by rw [hat]; exact (Nat.succ_mul t (2 * bs)).symm), hA5, (hP4.mono (by omega) (by omega)).trans (hP5.mono (by omega) (by omega)), hD.step hat (by omega) hP5 hS5, hM.trans hM5⟩
    · have he := of_decide_eq_false he
      have last : ∀ (ρ : Fr) w' f5, ρ 0 = .slice (some ⟨g, 0, none⟩) n c → ρ 1 = iV n → ρ 2 = .func (.func gc) #[] #[] → ρ 6 = iV bs → ArrR chC w' g n f5 → Pm a n f4 f5 → Srt cmp f5 a n → Mod (fun k => k = g) w w' →
          ∃ m', m' < 2000000 - bs ∧ ∃ ρ' bs' f', upd (upd (upd ρ 61 (iV bs)) 62 (iV ((bs : Int) * 2))) 6 (iV ((bs : Int) * 2)) = upd (upd (upd (upd ρ' 0 (.slice (some ⟨g, 0, none⟩) n c)) 1 (iV n)) 2 (.func (.func gc) #[] #[])) 6 (iV (bs' : Nat)) ∧ 0 < bs' ∧ bs' ≤ 2000000 ∧ m' = 2000000 - bs' ∧ ArrR chC w' g n f' ∧ Pm 0 n f f' ∧ Bl cmp f' bs' n ∧ Mod (fun k => k = g) w w' := by
        intro ρ w' f5 q0 q1 q2 q6 hA5 hP5 hS5 hM5
        refine ⟨2000000 - 2 * bs, by omega, _, 2 * bs, f5, u4 q0 q1 q2 (congrArg iV (show (bs : Int) * 2 = ((2 * bs : Nat) : Int) by omega)), by omega, by omega, rfl, hA5, hP.trans ((hP4.mono (by omega) (by omega)).trans (hP5.mono (by omega) (by omega))), ?_, hM5⟩
        refine Dn.bl (t := t) (a := a) (fun u hu p q h1 h2 h3 => ?_) hat hS5 han (by omega)
        rw [hP5.out (.inl (by omega)), hP5.out (.inl (by omega))]
        exact hD u hu p q h1 h2 h3
      refine W_seq ?_
      refine W_sr rfl (s_mv rfl (s_mv rfl (s_add rfl rfl (by omega) (s_as rfl (s_nil ?_)))))
      refine W_sr rfl (s_mv rfl (s_mv rfl (s_lss rfl rfl (s_nil ?_))))
      refine W_if rfl (fun hf => ?_) (fun hf => W_skip ?_)
      · have hf := of_decide_eq_true hf
        have call := slices_symMerge_CharMetric_c (g := g) (c := c) ho hg hn n (w := w4) (f := f4) (a := a) (m := a + bs) (b := n) (by omega) (by omega) (by omega) (by omega) hA (same _ _ (by omega) (two.1.sub (by omega) (by omega))) (same _ _ (by omega) (two.2.sub (by omega) (by omega)))
        rw [show ((a + bs : Nat) : Int) = (a : Int) + bs by omega] at call
        refine W_reg rfl (s_mv rfl (s_mv rfl (s_mv rfl (s_mv rfl (s_mv rfl (s_callx rfl rfl call fun w5 h5 => (s_nil ?_)))))))
        obtain ⟨f5, hA5, hP5, hS5, hM5⟩ := h5
        refine W_reg rfl (s_mv rfl (s_mul rfl rfl (by omega) (s_as rfl (s_nil ?_))))
        exact last _ _ f5 rfl rfl rfl rfl hA5 hP5 hS5 (hM.trans hM5)
      · have hf := of_decide_eq_false hf
        refine W_reg rfl (s_mv rfl (s_mul rfl rfl (by omega) (s_as rfl (s_nil ?_))))
        exact last _ _ f4 rfl rfl rfl rfl hA .refl (same _ _ (by omega) (two.1.sub (by omega) (by omega))) hM
  · have hd := of_decide_eq_false hd
    have h0 := hB 0
    refine ⟨_, rfl, rfl, f3, hA, hP, h0.sub (by omega) (by omega), hM⟩
theorem slices_SortStable_CharMetric_c {f : Nat → Ch} {gc : FuncId} {cmp : Ch → Ch → Int} (ho : Ordr cmp) (hg : ∀ x y w, Ret Go.Proofs.Tryz.prog gc #[chV x, chV y] w fun v w' => v = iV (cmp x y) ∧ Ext w w') (hn : n ≤ 1000000) (h : ArrR chC w g n f) :
    Ret Go.Proofs.Tryz.prog 90 #[.slice (some ⟨g, 0, none⟩) n c, .func (.func gc) #[] #[]] w fun v w' => v = .tuple #[] ∧ ∃ f', ArrR chC w' g n f' ∧ Pm 0 n f f' ∧ Srt cmp f' 0 n ∧ Mod (fun k => k = g) w w' := by
  refine enter Go.Proofs.Tryz.func90 rfl rfl rfl ?_
  refine W_reg rfl (s_mv rfl (s_mv rfl (s_len E rfl rfl (s_mv rfl (s_callx rfl rfl (slices_stable_CharMetric_c ho hg hn h) fun w2 h2 => (s_nil ?_))))))
  exact ⟨_, rfl, rfl, h2⟩
theorem slices_stable_LigRule_c {f : Nat → Ru} {gc : FuncId} {cmp : Ru → Ru → Int} (ho : Ordr cmp) (hg : ∀ x y w, Ret Go.Proofs.Tryz.prog gc #[ruV x, ruV y] w fun v w' => v = iV (cmp x y) ∧ Ext w w') (hn : n ≤ 1000000) (h : ArrR ruC w g n f) :
    Ret Go.Proofs.Tryz.prog 106 #[.slice (some ⟨g, 0, none⟩) n c, iV n, .func (.func gc) #[] #[]] w fun v w' => v = .tuple #[] ∧ ∃ f', ArrR ruC w' g n f' ∧ Pm 0 n f f' ∧ Srt cmp f' 0 n ∧ Mod (fun k => k = g) w w' := by
  refine enter Go.Proofs.Tryz.func106 rfl rfl rfl ?_
  refine W_sr rfl (s_as rfl (s_nil ?_))
  refine W_sr rfl (s_mv rfl (s_as rfl (s_as rfl (s_nil ?_))))
  refine W_seq ?_
  refine W_block ?_
  refine W_loop (fun q ρ w' => ∃ ρ' a f' t, ρ = upd (upd (upd (upd (upd (upd ρ' 0 (.slice (some ⟨g, 0, none⟩) n c)) 1 (iV n)) 2 (.func (.func gc) #[] #[])) 6 (iV 20)) 7 (iV (a : Nat))) 8 (iV ((a + 20 : Nat) : Int)) ∧ a ≤ n ∧ q = n - a ∧ a = t * 20 ∧ ArrR ruC w' g n f' ∧ Pm 0 n f f' ∧ Dn cmp f' 20 a ∧ Mod (fun k => k = g) w w') n
    ⟨_, 0, f, 0, u6 rfl rfl rfl rfl rfl rfl, by omega, by omega, rfl, h, .refl, Dn.zero (by omega), Mod.refl⟩ ?_
  rintro q _ w1 ⟨ρ, a, f1, t, rfl, han, rfl, hat, hA, hP, hD, hM⟩
  refine W_seq ?_
  refine W_sr rfl (s_mv rfl (s_mv rfl (s_leq rfl rfl (s_nil ?_))))
  refine W_if rfl (fun hd => W_skip ?_) (fun hd => W_exit ?_)
  · have hd := of_decide_eq_true hd
    refine W_block ?_
    refine W_sr rfl (s_mv rfl (s_mv rfl (s_mv rfl (s_mv rfl (s_callx rfl rfl (slices_insertionSort_LigRule_c ho hg hA (show a ≤ a + 20 by omega) (by omega) hn) fun w2 h2 => (s_nil ?_))))))
    obtain ⟨f2, hA2, hP2, hS2, hM2⟩ := h2
    refine W_sr rfl (s_mv rfl (s_as rfl (s_nil ?_)))
    refine W_reg rfl (s_mv rfl (s_mv rfl (s_add rfl rfl (by omega) (s_as rfl (s_nil ?_)))))
    refine ⟨n - (a + 20), by omega, _, a + 20, f2, t + 1, u6 rfl rfl rfl rfl rfl rfl, by omega, rfl, by rw [Nat.succ_mul, hat], hA2, hP.trans (hP2.mono (by omega) (by omega)), hD.step hat (by omega) hP2 hS2, hM.trans hM2⟩
  have hd := of_decide_eq_false hd
  refine W_sr rfl (s_mv rfl (s_mv rfl (s_mv rfl (s_mv rfl (s_callx rfl rfl (slices_insertionSort_LigRule_c ho hg hA han (Nat.le_refl n) hn) fun w2 h2 => (s_nil ?_))))))
  obtain ⟨f2, hA2, hP2, hS2, hM2⟩ := h2
  have hB : Bl cmp f2 20 n := by
    refine Dn.bl (t := t) (a := a) (fun u hu => ?_) hat hS2 han (by omega)
    intro p q h1 h2 h3
    rw [hP2.out (.inl (by omega)), hP2.out (.inl (by omega))]
    exact hD u hu p q h1 h2 h3
  refine W_block ?_
  refine W_loop (fun q ρ w' => ∃ ρ' bs f', ρ = upd (upd (upd (upd ρ' 0 (.slice (some ⟨g, 0, none⟩) n c)) 1 (iV n)) 2 (.func (.func gc) #[] #[])) 6 (iV (bs : Nat)) ∧ 0 < bs ∧ bs ≤ 2000000 ∧ q = 2000000 - bs ∧ ArrR ruC w' g n f' ∧ Pm 0 n f f' ∧ Bl cmp f' bs n ∧ Mod (fun k => k = g) w w') (2000000 - 20)
    ⟨_, 20, f2, u4 rfl rfl rfl rfl, by omega, by omega, rfl, hA2, hP.trans (hP2.mono (by omega) (by omega)), hB, hM.trans hM2⟩ ?_
  clear hA hP hD hM hA2 hP2 hS2 hM2 hB
  rintro q _ w3 ⟨ρ, bs, f3, rfl, hb0, hbs, rfl, hA, hP, hB, hM⟩
  refine W_seq ?_
  refine W_sr rfl (s_mv rfl (s_mv rfl (s_lss rfl rfl (s_nil ?_))))
  refine W_if rfl (fun hd => W_skip ?_) (fun hd => W_exit ?_)
  · have hd := of_decide_eq_true hd
    have hbn : bs < n := by omega
    refine W_block ?_
    refine W_sr rfl (s_mv rfl (s_mul rfl rfl (by omega) (s_as rfl (s_as rfl (s_nil ?_)))))
    refine W_seq ?_
    refine W_block ?_
    refine W_loop (fun q ρ w' => ∃ ρ' a f' t, ρ = upd (upd (upd (upd (upd (upd ρ' 0 (.slice (some ⟨g, 0, none⟩) n c)) 1 (iV n)) 2 (.func (.func gc) #[] #[])) 6 (iV (bs : Nat))) 7 (iV (a : Nat))) 8 (iV ((a : Int) + 2 * bs)) ∧ a ≤ n ∧ q = n - a ∧ a = t * (2 * bs) ∧ ArrR ruC w' g n f' ∧ Pm 0 a f3 f' ∧ Dn cmp f' (2 * bs) a ∧ Mod (fun k => k = g) w w') n
      ⟨_, 0, f3, 0, u6 rfl rfl rfl rfl rfl (congrArg iV (show (2 : Int) * bs = ((0 : Nat) : Int) + 2 * bs by omega)), by omega, rfl, (Nat.zero_mul _).symm, hA, .refl, Dn.zero (by omega), hM⟩ ?_
    clear hA hM
    rintro q _ w4 ⟨ρ, a, f4, t, rfl, han, rfl, hat, hA, hP4, hD, hM⟩
    refine W_seq ?_
    refine W_sr rfl (s_mv rfl (s_mv rfl (s_leq rfl rfl (s_nil ?_))))
    have two := hB.two hat
    have same : ∀ u v, a ≤ u → Srt cmp f3 u v → Srt cmp f4 u v := fun u v hu hs p q h1 h2 h3 => by
      rw [hP4.out (.inr (by omega)), hP4.out (.inr (by omega))]; exact hs p q h1 h2 h3
    refine W_if rfl (fun he => W_skip ?_) (fun he => W_exit ?_)
    · have he := of_decide_eq_true he
      refine W_block ?_
      have call := slices_symMerge_LigRule_c (g := g) (c := c) ho hg hn (2 * bs) (w := w4) (f := f4) (a := a) (m := a + bs) (b := a + 2 * bs) (by omega) (by omega) (by omega) (by omega) hA (same _ _ (by omega) (two.1.sub (by omega) (by omega))) (same _ _ (by omega) (two.2.sub (by omega) (by omega)))
      rw [show ((a + bs : Nat) : Int) = (a : Int) + bs by omega, show ((a + 2 * bs : Nat) : Int) = (a : Int) + 2 * bs by omega] at call
      refine W_sr rfl (s_mv rfl (s_mv rfl (s_mv rfl (s_mv rfl (s_add rfl rfl (by omega) (s_mv rfl (s_mv rfl (s_callx rfl rfl call fun w5 h5 => (s_nil ?_)))))))))
      obtain ⟨f5, hA5, hP5, hS5, hM5⟩ := h5
      refine W_sr rfl (s_mv rfl (s_as rfl (s_nil ?_)))
      refine W_reg rfl (s_mv rfl (s_mv rfl (s_mul rfl rfl (by omega) (s_add rfl rfl (by omega) (s_as rfl (s_nil ?_))))))
      refine ⟨n - (a + 2 * bs), by omega, _, a + 2 * bs, f5, t + 1, u6 rfl rfl rfl rfl (congrArg iV (show (a : Int) + 2 * bs = ((a + 2 * bs : Nat) : Int) by omega)) (congrArg iV (show (a : Int) + 2 * bs + 2 * bs = ((a + 2 * bs : Nat) : Int) + 2 * bs by omega)), by omega, rfl, (by rw [hat]; exact (Nat.succ_mul t (2 * bs)).symm), hA5, (hP4.mono (by omega) (by omega)).trans (hP5.mono (by omega) (by omega)), hD.step hat (by omega) hP5 hS5, hM.trans hM5⟩
    · have he := of_decide_eq_false he
      have last : ∀ (ρ : Fr) w' f5, ρ 0 = .slice (some ⟨g, 0, none⟩) n c → ρ 1 = iV n → ρ 2 = .func (.func gc) #[] #[] → ρ 6 = iV bs → ArrR ruC w' g n f5 → Pm a n f4 f5 → Srt cmp f5 a n → Mod (fun k => k = g) w w' →
          ∃ m', m' < 2000000 - bs ∧ ∃ ρ' bs' f', upd (upd (upd ρ 61 (iV bs)) 62 (iV ((bs : Int) * 2))) 6 (iV ((bs : Int) * 2)) = upd (upd (upd (upd ρ' 0 (.slice (some ⟨g, 0, none⟩) n c)) 1 (iV n)) 2 (.func (.func gc) #[] #[])) 6 (iV (bs' : Nat)) ∧ 0 < bs' ∧ bs' ≤ 2000000 ∧ m' = 2000000 - bs' ∧ ArrR ruC w' g n f' ∧ Pm 0 n f f' ∧ Bl cmp f' bs' n ∧ Mod (fun k => k = g) w w' := by
        intro ρ w' f5 q0 q1 q2 q6 hA5 hP5 hS5 hM5
        refine ⟨2000000 - 2 * bs, by omega, _, 2 * bs, f5, u4 q0 q1 q2 (congrArg iV (show (bs : Int) * 2 = ((2 * bs : Nat) : Int) by omega)), by omega, by omega, rfl, hA5, hP.trans ((hP4.mono (by omega) (by omega)).trans (hP5.mono (by omega) (by omega))), ?_, hM5⟩
        refine Dn.bl (t := t) (a := a) (fun u hu p q h1 h2 h3 => ?_) hat hS5 han (by omega)
        rw [hP5.out (.inl (by omega)), hP5.out (.inl (by omega))]
        exact hD u hu p q h1 h2 h3
      refine W_seq ?_
      refine W_sr rfl (s_mv rfl (s_mv rfl (s_add rfl rfl (by omega) (s_as rfl (s_nil ?_)))))
      refine W_sr rfl (s_mv rfl (s_mv rfl (s_lss rfl rfl (s_nil ?_))))
      refine W_if rfl (fun hf => ?_) (fun hf => W_skip ?_)
      · have hf := of_decide_eq_true hf
        have call := slices_symMerge_LigRule_c (g := g) (c := c) ho hg hn n (w := w4) (f := f4) (a := a) (m := a + bs) (b := n) (by omega) (by omega) (by omega) (by omega) hA (same _ _ (by omega) (two.1.sub (by omega) (by omega))) (same _ _ (by omega) (two.2.sub (by omega) (by omega)))
        rw [show ((a + bs : Nat) : Int) = (a : Int) + bs by omega] at call
        refine W_reg rfl (s_mv rfl (s_mv rfl (s_mv rfl (s_mv rfl (s_mv rfl (s_callx rfl rfl call fun w5 h5 => (s_nil ?_)))))))
        obtain ⟨f5, hA5, hP5, hS5, hM5⟩ := h5
        refine W_reg rfl (s_mv rfl (s_mul rfl rfl (by omega) (s_as rfl (s_nil ?_))))
        exact last _ _ f5 rfl rfl rfl rfl hA5 hP5 hS5 (hM.trans hM5)
      · have hf := of_decide_eq_false hf
        refine W_reg rfl (s_mv rfl (s_mul rfl rfl (by omega) (s_as rfl (s_nil ?_))))
        exact last _ _ f4 rfl rfl rfl rfl hA .refl (same _ _ (by omega) (two.1.sub (by omega) (by omega))) hM
  · have hd := of_decide_eq_false hd
    have h0 := hB 0
    refine ⟨_, rfl, rfl, f3, hA, hP, h0.sub (by omega) (by omega), hM⟩
theorem slices_SortStable_LigRule_c {f : Nat → Ru} {gc : FuncId} {cmp : Ru → Ru → Int} (ho : Ordr cmp) (hg : ∀ x y w, Ret Go.Proofs.Tryz.prog gc #[ruV x, ruV y] w fun v w' => v = iV (cmp x y) ∧ Ext w w') (hn : n ≤ 1000000) (h : ArrR ruC w g n f) :
    Ret Go.Proofs.Tryz.prog 91 #[.slice (some ⟨g, 0, none⟩) n c, .func (.func gc) #[] #[]] w fun v w' => v = .tuple #[] ∧ ∃ f', ArrR ruC w' g n f' ∧ Pm 0 n f f' ∧ Srt cmp f' 0 n ∧ Mod (fun k => k = g) w w' := by
  refine enter Go.Proofs.Tryz.func91 rfl rfl rfl ?_
  refine W_reg rfl (s_mv rfl (s_mv rfl (s_len E rfl rfl (s_mv rfl (s_callx rfl rfl (slices_stable_LigRule_c ho hg hn h) fun w2 h2 => (s_nil ?_))))))
  exact ⟨_, rfl, rfl, h2⟩
end
end Go.Proofs.YthfnijlgmjkedaaGreat
namespace Go.Proofs.YthfnijlgmjkedaaGreat
set_option maxRecDepth 100000
set_option maxHeartbeats 1000000
set_option linter.unusedVariables false
set_option linter.unusedSimpArgs false
open Go Go.Fx Go.Proofs.YthfnijlgmjkedaaGreat.Tab
theorem flat_inv {α : Type} (f : α → List Value) (hf : ∀ x, (f x).length = 4) : ∀ (l : List α) (k : Nat) (v : Value), (l.flatMap f)[k]? = some v → ∃ i j, ∃ hi : i < l.length, k = i * 4 + j ∧ (f l[i])[j]? = some v := by
  intro l
  induction l with
  | nil => intro k v h; simp at h
  | cons a l ih =>
    intro k v h
    rw [List.flatMap_cons] at h
    by_cases hk : k < 4
    · rw [List.getElem?_append_left (by rw [hf]; exact hk)] at h
      exact ⟨0, k, by simp, by omega, h⟩
    · rw [List.getElem?_append_right (by rw [hf]; omega), hf] at h
      obtain ⟨i, j, hi, he, hv⟩ := ih _ _ h
      exact ⟨i + 1, j, by simpa using hi, by omega, hv⟩
theorem sw_map {α : Type} (f : Nat → α) (n i j : Nat) (hi : i < n) (hj : j < n) : ((List.range n).map (swF f i j)).Perm ((List.range n).map f) := by
  have e : swF f i j = f ∘ (fun k => if k = j then i else if k = i then j else k) := by
    funext k; simp only [swF, Function.comp]; split
    · rfl
    · split <;> rfl
  rw [e, ← List.map_map]
  refine List.Perm.map f ?_
  refine (List.perm_ext_iff_of_nodup ?_ List.nodup_range).2 fun x => ?_
  · rw [List.nodup_iff_pairwise_ne, List.pairwise_map]
    refine List.Pairwise.imp (fun {a b} hab => ?_) (List.nodup_iff_pairwise_ne.1 (List.nodup_range (n := n)))
    intro h
    apply hab
    by_cases h1 : a = j <;> by_cases h2 : b = j <;> by_cases h3 : a = i <;> by_cases h4 : b = i <;> simp_all
  · simp only [List.mem_map, List.mem_range]
    constructor
    · rintro ⟨y, hy, rfl⟩
      split
      · exact hi
      · split
        · exact hj
        · exact hy
    · intro hx
      by_cases h1 : x = j
      · subst h1; exact ⟨i, hi, by by_cases h2 : i = x <;> simp [h2]⟩
      · by_cases h2 : x = i
        · subst h2; exact ⟨j, hj, by simp⟩
        · exact ⟨x, hx, by simp [h1, h2]⟩
theorem pm_perm {α : Type} {f f' : Nat → α} {n : Nat} (h : Pm 0 n f f') : ((List.range n).map f').Perm ((List.range n).map f) := by
  induction h with
  | refl => exact List.Perm.refl _
  | sw _ hi hj ih => exact (sw_map _ n _ _ hi.2 hj.2).trans ih
theorem map_range {α : Type} [Inhabited α] (l : List α) : (List.range l.length).map (fun i => l.getD i default) = l := by
  apply List.ext_getElem (by simp)
  intro i h1 h2
  simp [h2]
def SrtL {α : Type} (cmp : α → α → Int) (l : List α) : Prop := l.Pairwise fun x y => 0 ≤ cmp y x
theorem srt_map {α : Type} {cmp : α → α → Int} {f : Nat → α} {n : Nat} (h : Srt cmp f 0 n) : SrtL cmp ((List.range n).map f) := by
  unfold SrtL
  rw [List.pairwise_iff_getElem]
  intro i j hi hj hij
  simp only [List.length_map, List.length_range] at hi hj
  simp only [List.getElem_map, List.getElem_range]
  exact h i j (by omega) hij hj
instance : Inhabited Ch := ⟨⟨0, 0, 0, 0⟩⟩
instance : Inhabited Ru := ⟨⟨0, 0, 0, 0⟩⟩
theorem own_arr {α : Type} [Inhabited α] {C : α → List Value} (hC : ∀ x, (C x).length = 4) {w : World} {e : TypeId} {g n c : Nat} {l : List α} (hn : n = l.length) (h : Own w e 4 (.slice (some ⟨g, 0, none⟩) n c) n (l.flatMap C)) : ArrR C w g n (fun i => l.getD i default) := by
  obtain ⟨hl, h⟩ := h
  rcases h with ⟨h0, _⟩ | ⟨g', cap, cur, he, hb, hg, hnc, hcm, hcs, ht⟩
  · cases h0
  · cases he
    refine ⟨cur, e, hg, by rw [hcs]; exact Nat.mul_le_mul_right 4 hnc, fun i hi j v hv => ?_⟩
    have hi' : i < l.length := by omega
    have hv' : (C l[i])[j]? = some v := by simpa [hi'] using hv
    have hj : j < 4 := by have := (List.getElem?_eq_some_iff.1 hv').1; rwa [hC] at this
    have h1 := flat_get C 4 hC l i hi' j v hv'
    rw [← ht, List.getElem?_take_of_lt (by omega)] at h1
    simpa using h1
theorem arr_sl {α : Type} {C : α → List Value} (hC : ∀ x, (C x).length = 4) {w : World} {g n : Nat} {f : Nat → α} (h : ArrR C w g n f) : SlR w (some ⟨g, 0, none⟩) (((List.range n).map f).flatMap C) := by
  obtain ⟨cs, ty, hh, hsz, hc⟩ := h
  intro k v hv
  obtain ⟨i, j, hi, he, hj⟩ := flat_inv C hC _ _ _ hv
  simp only [List.length_map, List.length_range] at hi
  simp only [List.getElem_map, List.getElem_range] at hj
  have := arr_row hh hc hi j v hj
  rwa [add_add, ← he] at this
section
variable {w : World}
theorem slices_Clone_CharMetric_c {p : Option Addr} {n c : Nat} {l : List Ch} (hn : n = l.length) (hm : n ≤ 1000000) (hp : SlR w p (l.flatMap chC)) :
    Ret Go.Proofs.Tryz.prog 62 #[.slice p n c] w fun v w' => Own w' 50 4 v n (l.flatMap chC) ∧ (∀ k, v.ownBlock = some k → w.heap.size ≤ k) ∧ Ext w w' := by
  refine enter Go.Proofs.Tryz.func62 rfl rfl rfl ?_
  refine W_sr rfl (s_as rfl (s_nil ?_))
  refine W_seq ?_
  cases p with
  | none =>
    have h0 : l.flatMap chC = [] := hp
    have hl : l = [] := by
      have := flat_length chC 4 chC_len l
      rw [h0] at this
      exact List.eq_nil_of_length_eq_zero (by simp at this; omega)
    subst hl
    subst hn
    refine W_sr rfl (s_mv rfl (s_nil_eq (E.h_sl _ _ _ (show E.sl 22 = some (50, 4) from rfl)).1 rfl rfl (s_nil ?_)))
    refine W_if rfl (fun _ => ?_) (fun h => by cases h)
    refine W_sr rfl (s_as rfl (s_nil ?_))
    exact W_ret ⟨_, rfl, Own.nil _ _ _, (show ∀ k, (Value.slice none 0 0).ownBlock = some k → w.heap.size ≤ k from fun k hk => by simp [Value.ownBlock] at hk), Mod.refl⟩
  | some a =>
    refine W_sr rfl (s_mv rfl (s_nil_eq (E.h_sl _ _ _ (show E.sl 22 = some (50, 4) from rfl)).1 rfl rfl (s_nil ?_)))
    refine W_if rfl (fun h => by cases h) (fun _ => W_skip ?_)
    have hown : Own (w.alloc (.cells #[] 50)) 50 4 (.slice (some ⟨w.heap.size, 0, none⟩) 0 0) 0 [] := ⟨rfl, .inr ⟨_, 0, #[], rfl, Nat.zero_le _, al_heap, Nat.le_refl _, Nat.zero_le _, rfl, rfl⟩⟩
    have hall : (l.flatMap chC).all (·.oneCell') = true := by
      rw [List.all_eq_true]; intro x hx; rw [List.mem_flatMap] at hx; obtain ⟨y, _, hy⟩ := hx
      simp only [chC, List.mem_cons, List.not_mem_nil, or_false] at hy
      rcases hy with rfl | rfl | rfl | rfl <;> rfl
    refine W_sr rfl (s_bs0 E rfl (s_mv rfl (s_ap E rfl rfl rfl rfl hown rfl rfl (Ext.row e1 hp) (by rw [flat_length chC 4 chC_len l, hn]) hall (by omega) fun v' w2 hown' hmod hon => (s_as rfl (s_nil ?_)))))
    rw [Nat.zero_add, List.nil_append] at hown'
    refine W_ret ⟨_, rfl, hown', fun k hk => ?_, Ext.thenMod e1 hmod (fun k hk he => by have h1 : w.heap.size = k := Option.some.inj he; omega)⟩
    rcases hon with h | ⟨j, hj, hle⟩
    · have h1 : some w.heap.size = some k := by
        have : v'.ownBlock = some w.heap.size := h
        rw [← this]; exact hk
      cases h1; exact Nat.le_refl _
    · have h1 : some j = some k := by rw [← hj]; exact hk
      cases h1
      simp at hle; omega
theorem slices_SortL_CharMetric_c {v : Value} {n : Nat} {l : List Ch} {gc : FuncId} {cmp : Ch → Ch → Int} (ho : Ordr cmp) (hg : ∀ x y w, Ret Go.Proofs.Tryz.prog gc #[chV x, chV y] w fun v w' => v = iV (cmp x y) ∧ Ext w w') (hn : n = l.length) (hm : n ≤ 1000000) (h : Own w 50 4 v n (l.flatMap chC)) :
    Ret Go.Proofs.Tryz.prog 90 #[v, .func (.func gc) #[] #[]] w fun r w' => r = .tuple #[] ∧ (∃ p c l', v = .slice p n c ∧ SlR w' p (l'.flatMap chC) ∧ l'.Perm l ∧ SrtL cmp l') ∧ Mod (fun k => v.ownBlock = some k) w w' := by
  obtain ⟨p, c, rfl, hsl, hnc, hb⟩ := h.form
  cases p with
  | some a =>
    obtain ⟨_, ha⟩ := hb a rfl
    obtain ⟨g, rfl⟩ : ∃ g, a = ⟨g, 0, none⟩ := ⟨_, ha⟩
    refine (slices_SortStable_CharMetric_c (c := c) ho hg hm (own_arr chC_len hn h)).mono fun r w' h => ?_
    obtain ⟨rfl, f', hA, hP, hS, hM⟩ := h
    refine ⟨rfl, ⟨_, c, (List.range n).map f', rfl, arr_sl chC_len hA, ?_, srt_map hS⟩, hM.mono fun k _ hk => by rw [hk]; rfl⟩
    have := pm_perm hP
    subst hn
    rwa [map_range] at this
  | none =>
    have h0 : l.flatMap chC = [] := hsl
    have hl : l = [] := by
      have := flat_length chC 4 chC_len l
      rw [h0] at this
      exact List.eq_nil_of_length_eq_zero (by simp at this; omega)
    subst hl
    subst hn
    have ins : ∀ w, Ret Go.Proofs.Tryz.prog 110 #[.slice none 0 c, iV 0, iV 0, .func (.func gc) #[] #[]] w fun v w' => v = .tuple #[] ∧ w' = w := by
      intro w
      refine enter Go.Proofs.Tryz.func110 rfl rfl rfl ?_
      refine W_sr rfl (s_mv rfl (s_add rfl rfl (by omega) (s_as rfl (s_nil ?_))))
      refine W_block ?_
      refine W_loop (fun q ρ w' => (∃ ρ', ρ = upd (upd ρ' 2 (iV 0)) 8 (iV 1)) ∧ w' = w) 0 ⟨⟨_, u2 rfl rfl⟩, rfl⟩ ?_
      rintro q _ w9 ⟨⟨ρ, rfl⟩, hw⟩
      have hw := hw.symm
      subst hw
      refine W_seq ?_
      refine W_sr rfl (s_mv rfl (s_mv rfl (s_cmp (c := false) rfl rfl (by decide) (s_nil ?_))))
      refine W_if rfl (fun h => by cases h) (fun _ => W_exit ?_)
      exact ⟨_, rfl, rfl, rfl⟩
    have stb : Ret Go.Proofs.Tryz.prog 105 #[.slice none 0 c, iV 0, .func (.func gc) #[] #[]] w fun v w' => v = .tuple #[] ∧ w' = w := by
      refine enter Go.Proofs.Tryz.func105 rfl rfl rfl ?_
      refine W_sr rfl (s_as rfl (s_nil ?_))
      refine W_sr rfl (s_mv rfl (s_as rfl (s_as rfl (s_nil ?_))))
      refine W_seq ?_
      refine W_block ?_
      refine W_loop (fun q ρ w' => (∃ ρ', ρ = upd (upd (upd (upd (upd (upd ρ' 0 (.slice none 0 c)) 1 (iV 0)) 2 (.func (.func gc) #[] #[])) 6 (iV 20)) 7 (iV 0)) 8 (iV 20)) ∧ w' = w) 0 ⟨⟨_, u6 rfl rfl rfl rfl rfl rfl⟩, rfl⟩ ?_
      rintro q _ w9 ⟨⟨ρ, rfl⟩, hw⟩
      have hw := hw.symm
      subst hw
      refine W_seq ?_
      refine W_sr rfl (s_mv rfl (s_mv rfl (s_cmp (c := false) rfl rfl (by decide) (s_nil ?_))))
      refine W_if rfl (fun h => by cases h) (fun _ => W_exit ?_)
      refine W_sr rfl (s_mv rfl (s_mv rfl (s_mv rfl (s_mv rfl (s_callp rfl rfl (ins _) (s_nil ?_))))))
      refine W_block ?_
      refine W_loop (fun q ρ w' => (∃ ρ', ρ = upd (upd ρ' 1 (iV 0)) 6 (iV 20)) ∧ w' = w) 0 ⟨⟨_, u2 rfl rfl⟩, rfl⟩ ?_
      rintro q _ w9 ⟨⟨ρ, rfl⟩, hw⟩
      have hw := hw.symm
      subst hw
      refine W_seq ?_
      refine W_sr rfl (s_mv rfl (s_mv rfl (s_cmp (c := false) rfl rfl (by decide) (s_nil ?_))))
      refine W_if rfl (fun h => by cases h) (fun _ => W_exit ?_)
      exact ⟨_, rfl, rfl, rfl⟩
    refine enter Go.Proofs.Tryz.func90 rfl rfl rfl ?_
    refine W_reg rfl (s_mv rfl (s_mv rfl (s_len E rfl rfl (s_mv rfl (s_callp rfl rfl stb (s_nil ?_))))))
    exact ⟨_, rfl, rfl, ⟨none, c, [], rfl, rfl, List.Perm.refl _, List.Pairwise.nil⟩, Mod.refl⟩
theorem slices_Clone_LigRule_c {p : Option Addr} {n c : Nat} {l : List Ru} (hn : n = l.length) (hm : n ≤ 1000000) (hp : SlR w p (l.flatMap ruC)) :
    Ret Go.Proofs.Tryz.prog 63 #[.slice p n c] w fun v w' => Own w' 45 4 v n (l.flatMap ruC) ∧ (∀ k, v.ownBlock = some k → w.heap.size ≤ k) ∧ Ext w w' := by
  refine enter Go.Proofs.Tryz.func63 rfl rfl rfl ?_
  refine W_sr rfl (s_as rfl (s_nil ?_))
  refine W_seq ?_
  cases p with
  | none =>
    have h0 : l.flatMap ruC = [] := hp
    have hl : l = [] := by
      have := flat_length ruC 4 ruC_len l
      rw [h0] at this
      exact List.eq_nil_of_length_eq_zero (by simp at this; omega)
    subst hl
    subst hn
    refine W_sr rfl (s_mv rfl (s_nil_eq (E.h_sl _ _ _ (show E.sl 23 = some (45, 4) from rfl)).1 rfl rfl (s_nil ?_)))
    refine W_if rfl (fun _ => ?_) (fun h => by cases h)
    refine W_sr rfl (s_as rfl (s_nil ?_))
    exact W_ret ⟨_, rfl, Own.nil _ _ _, (show ∀ k, (Value.slice none 0 0).ownBlock = some k → w.heap.size ≤ k from fun k hk => by simp [Value.ownBlock] at hk), Mod.refl⟩
  | some a =>
    refine W_sr rfl (s_mv rfl (s_nil_eq (E.h_sl _ _ _ (show E.sl 23 = some (45, 4) from rfl)).1 rfl rfl (s_nil ?_)))
    refine W_if rfl (fun h => by cases h) (fun _ => W_skip ?_)
    have hown : Own (w.alloc (.cells #[] 45)) 45 4 (.slice (some ⟨w.heap.size, 0, none⟩) 0 0) 0 [] := ⟨rfl, .inr ⟨_, 0, #[], rfl, Nat.zero_le _, al_heap, Nat.le_refl _, Nat.zero_le _, rfl, rfl⟩⟩
    have hall : (l.flatMap ruC).all (·.oneCell') = true := by
      rw [List.all_eq_true]; intro x hx; rw [List.mem_flatMap] at hx; obtain ⟨y, _, hy⟩ := hx
      simp only [ruC, List.mem_cons, List.not_mem_nil, or_false] at hy
      rcases hy with rfl | rfl | rfl | rfl <;> rfl
    refine W_sr rfl (s_bs0 E rfl (s_mv rfl (s_ap E rfl rfl rfl rfl hown rfl rfl (Ext.row e1 hp) (by rw [flat_length ruC 4 ruC_len l, hn]) hall (by omega) fun v' w2 hown' hmod hon => (s_as rfl (s_nil ?_)))))
    rw [Nat.zero_add, List.nil_append] at hown'
    refine W_ret ⟨_, rfl, hown', fun k hk => ?_, Ext.thenMod e1 hmod (fun k hk he => by have h1 : w.heap.size = k := Option.some.inj he; omega)⟩
    rcases hon with h | ⟨j, hj, hle⟩
    · have h1 : some w.heap.size = some k := by
        have : v'.ownBlock = some w.heap.size := h
        rw [← this]; exact hk
      cases h1; exact Nat.le_refl _
    · have h1 : some j = some k := by rw [← hj]; exact hk
      cases h1
      simp at hle; omega
theorem slices_SortL_LigRule_c {v : Value} {n : Nat} {l : List Ru} {gc : FuncId} {cmp : Ru → Ru → Int} (ho : Ordr cmp) (hg : ∀ x y w, Ret Go.Proofs.Tryz.prog gc #[ruV x, ruV y] w fun v w' => v = iV (cmp x y) ∧ Ext w w') (hn : n = l.length) (hm : n ≤ 1000000) (h : Own w 45 4 v n (l.flatMap ruC)) :
    Ret Go.Proofs.Tryz.prog 91 #[v, .func (.func gc) #[] #[]] w fun r w' => r = .tuple #[] ∧ (∃ p c l', v = .slice p n c ∧ SlR w' p (l'.flatMap ruC) ∧ l'.Perm l ∧ SrtL cmp l') ∧ Mod (fun k => v.ownBlock = some k) w w' := by
  obtain ⟨p, c, rfl, hsl, hnc, hb⟩ := h.form
  cases p with
  | some a =>
    obtain ⟨_, ha⟩ := hb a rfl
    obtain ⟨g, rfl⟩ : ∃ g, a = ⟨g, 0, none⟩ := ⟨_, ha⟩
    refine (slices_SortStable_LigRule_c (c := c) ho hg hm (own_arr ruC_len hn h)).mono fun r w' h => ?_
    obtain ⟨rfl, f', hA, hP, hS, hM⟩ := h
    refine ⟨rfl, ⟨_, c, (List.range n).map f', rfl, arr_sl ruC_len hA, ?_, srt_map hS⟩, hM.mono fun k _ hk => by rw [hk]; rfl⟩
    have := pm_perm hP
    subst hn
    rwa [map_range] at this
  | none =>
    have h0 : l.flatMap ruC = [] := hsl
    have hl : l = [] := by
      have := flat_length ruC 4 ruC_len l
      rw [h0] at this
      exact List.eq_nil_of_length_eq_zero (by simp at this; omega)
    subst hl
    subst hn
    have ins : ∀ w, Ret Go.Proofs.Tryz.prog 112 #[.slice none 0 c, iV 0, iV 0, .func (.func gc) #[] #[]] w fun v w' => v = .tuple #[] ∧ w' = w := by
      intro w
      refine enter Go.Proofs.Tryz.func112 rfl rfl rfl ?_
      refine W_sr rfl (s_mv rfl (s_add rfl rfl (by omega) (s_as rfl (s_nil ?_))))
      refine W_block ?_
      refine W_loop (fun q ρ w' => (∃ ρ', ρ = upd (upd ρ' 2 (iV 0)) 8 (iV 1)) ∧ w' = w) 0 ⟨⟨_, u2 rfl rfl⟩, rfl⟩ ?_
      rintro q _ w9 ⟨⟨ρ, rfl⟩, hw⟩
      have hw := hw.symm
      subst hw
      refine W_seq ?_
      refine W_sr rfl (s_mv rfl (s_mv rfl (s_cmp (c := false) rfl rfl (by decide) (s_nil ?_))))
      refine W_if rfl (fun h => by cases h) (fun _ => W_exit ?_)
      exact ⟨_, rfl, rfl, rfl⟩
    have stb : Ret Go.Proofs.Tryz.prog 106 #[.slice none 0 c, iV 0, .func (.func gc) #[] #[]] w fun v w' => v = .tuple #[] ∧ w' = w := by
      refine enter Go.Proofs.Tryz.func106 rfl rfl rfl ?_
      refine W_sr rfl (s_as rfl (s_nil ?_))
      refine W_sr rfl (s_mv rfl (s_as rfl (s_as rfl (s_nil ?_))))
      refine W_seq ?_
      refine W_block ?_
      refine W_loop (fun q ρ w' => (∃ ρ', ρ = upd (upd (upd (upd (upd (upd ρ' 0 (.slice none 0 c)) 1 (iV 0)) 2 (.func (.func gc) #[] #[])) 6 (iV 20)) 7 (iV 0)) 8 (iV 20)) ∧ w' = w) 0 ⟨⟨_, u6 rfl rfl rfl rfl rfl rfl⟩, rfl⟩ ?_
      rintro q _ w9 ⟨⟨ρ, rfl⟩, hw⟩
      have hw := hw.symm
      subst hw
      refine W_seq ?_
      refine W_sr rfl (s_mv rfl (s_mv rfl (s_cmp (c := false) rfl rfl (by decide) (s_nil ?_))))
      refine W_if rfl (fun h => by cases h) (fun _ => W_exit ?_)
      refine W_sr rfl (s_mv rfl (s_mv rfl (s_mv rfl (s_mv rfl (s_callp rfl rfl (ins _) (s_nil ?_))))))
      refine W_block ?_
      refine W_loop (fun q ρ w' => (∃ ρ', ρ = upd (upd ρ' 1 (iV 0)) 6 (iV 20)) ∧ w' = w) 0 ⟨⟨_, u2 rfl rfl⟩, rfl⟩ ?_
      rintro q _ w9 ⟨⟨ρ, rfl⟩, hw⟩
      have hw := hw.symm
      subst hw
      refine W_seq ?_
      refine W_sr rfl (s_mv rfl (s_mv rfl (s_cmp (c := false) rfl rfl (by decide) (s_nil ?_))))
      refine W_if rfl (fun h => by cases h) (fun _ => W_exit ?_)
      exact ⟨_, rfl, rfl, rfl⟩
    refine enter Go.Proofs.Tryz.func91 rfl rfl rfl ?_
    refine W_reg rfl (s_mv rfl (s_mv rfl (s_len E rfl rfl (s_mv rfl (s_callp rfl rfl stb (s_nil ?_))))))
    exact ⟨_, rfl, rfl, ⟨none, c, [], rfl, rfl, List.Perm.refl _, List.Pairwise.nil⟩, Mod.refl⟩
end
end Go.Proofs.YthfnijlgmjkedaaGreat
namespace Go.Proofs.YthfnijlgmjkedaaGreat
set_option maxRecDepth 100000
set_option maxHeartbeats 1000000
set_option linter.unusedVariables false
set_option linter.unusedSimpArgs false
open Go Go.Fx Go.Proofs.YthfnijlgmjkedaaGreat.Tab
def nB (l : List Int) : Int := l.foldl (fun n c => n * 256 + c) 0
theorem nB_snoc (l : List Int) (c : Int) : nB (l ++ [c]) = nB l * 256 + c := by simp [nB]
def byt (l : List Int) : Prop := ∀ x ∈ l, 0 ≤ x ∧ x < 256
theorem nB_bd : ∀ (k : Nat) (l : List Int), l.length = k → byt l → 0 ≤ nB l ∧ nB l < 256 ^ k := by
  intro k
  induction k with
  | zero => intro l h _; have : l = [] := List.eq_nil_of_length_eq_zero h; subst this; exact ⟨by decide, by decide⟩
  | succ k ih =>
    intro l h hb
    have hne : l ≠ [] := by intro h0; subst h0; simp at h
    rw [← List.dropLast_concat_getLast hne] at hb ⊢
    rw [nB_snoc]
    have h1 := ih l.dropLast (by simp [h]) (fun x hx => hb x (List.mem_append_left _ hx))
    have h2 := hb (l.getLast hne) (by simp)
    have : (256 : Int) ^ (k + 1) = 256 ^ k * 256 := Int.pow_succ _ _
    omega
theorem or_add (a c : Int) (ha : 0 ≤ a ∧ a < 16777216) (hc : 0 ≤ c ∧ c < 256) : IntKind.i64.wrap ((BitVec.ofInt IntKind.i64.bits (a * 256) ||| BitVec.ofInt IntKind.i64.bits c).toNat : Nat) = a * 256 + c := by
  obtain ⟨x, rfl⟩ := Int.eq_ofNat_of_zero_le ha.1
  obtain ⟨y, rfl⟩ := Int.eq_ofNat_of_zero_le hc.1
  have e : (BitVec.ofInt IntKind.i64.bits ((x : Int) * 256) ||| BitVec.ofInt IntKind.i64.bits (y : Int)).toNat = x * 256 + y := by
    rw [BitVec.toNat_or]
    have e1 : (BitVec.ofInt IntKind.i64.bits ((x : Int) * 256)).toNat = x * 256 := by
      rw [show (x : Int) * 256 = ((x * 256 : Nat) : Int) by omega, BitVec.ofInt_natCast, BitVec.toNat_ofNat]
      exact Nat.mod_eq_of_lt (by show x * 256 < 18446744073709551616; omega)
    have e2 : (BitVec.ofInt IntKind.i64.bits (y : Int)).toNat = y := by
      rw [BitVec.ofInt_natCast, BitVec.toNat_ofNat]
      exact Nat.mod_eq_of_lt (by show y < 18446744073709551616; omega)
    rw [e1, e2]
    have := Nat.shiftLeft_add_eq_or_of_lt (b := y) (i := 8) (by omega) x
    rw [Nat.shiftLeft_eq] at this
    exact this.symm
  rw [e]
  exact (wrap64_in (by omega) (by omega)).trans (by omega)
theorem metric_number_c {p : Option Addr} {n c : Nat} {l : List Int} {w : World} (hn : n = l.length) (hm : n ≤ 4) (hb : byt l) (hp : SlR w p (l.map bV)) :
    Ret Go.Proofs.Tryz.prog 89 #[.slice p n c] w fun v w' => v = iV (nB l) ∧ w' = w := by
  refine enter Go.Proofs.Tryz.func89 rfl rfl rfl ?_
  refine W_sr rfl (s_as rfl (s_nil ?_))
  refine W_sr rfl (s_as rfl (s_nil ?_))
  refine W_seq ?_
  refine W_sr rfl (s_mv rfl (s_len E rfl rfl (s_mv rfl (s_nil ?_))))
  refine W_block ?_
  refine W_loop (fun m ρ w' => ∃ ρ' i, ρ = upd (upd (upd (upd ρ' 3 (iV (nB (l.take i)))) 6 (.slice p n c)) 7 (iV n)) 8 (iV (i : Nat)) ∧ w' = w ∧ i ≤ n ∧ m = n - i) n ⟨_, 0, u4 rfl rfl rfl rfl, rfl, by omega, by omega⟩ ?_
  rintro m _ _ ⟨ρ, i, rfl, rfl, hi, rfl⟩
  refine W_sr rfl (s_lss rfl rfl (s_nil ?_))
  refine W_seq ?_
  refine W_if rfl (fun hc => W_skip ?_) (fun hc => W_exit ?_)
  · have hc := of_decide_eq_true hc
    have hil : i < l.length := by omega
    obtain ⟨a, rfl, hcell⟩ := sl_bytes hp hil
    have hbd := nB_bd i (l.take i) (by simp; omega) (fun x hx => hb x (List.mem_of_mem_take hx))
    have hlt : nB (l.take i) < 16777216 := by
      have : (256 : Int) ^ i ≤ 256 ^ 3 := by
        have h3 : i = 0 ∨ i = 1 ∨ i = 2 ∨ i = 3 := by omega
        rcases h3 with h | h | h | h <;> subst h <;> decide
      have e : (256 : Int) ^ 3 = 16777216 := by decide
      omega
    have hx := hb l[i] (List.getElem_mem hil)
    have e1 : IntKind.i64.wrap (nB (l.take i) * 2 ^ min (8 : Int).toNat IntKind.i64.bits) = nB (l.take i) * 256 := by
      rw [show (2 : Int) ^ min (8 : Int).toNat IntKind.i64.bits = 256 from by decide]
      exact wrap64_in (by omega) (by omega)
    have e2 : IntKind.i64.wrap l[i] = l[i] := wrap64_in (by omega) (by omega)
    refine W_seq (W_block ?_)
    refine W_sr rfl (s_ia E rfl rfl rfl rfl (by omega) (s_ld E rfl rfl hcell (s_as rfl (s_nil ?_))))
    refine W_reg rfl (s_mv rfl (s_shl rfl rfl (by decide) (s_mv rfl (s_cvx E rfl rfl rfl e2 (s_or (a := nB (l.take i) * 256) (b := l[i]) (congrArg iV e1) rfl (s_as rfl (s_nil ?_)))))))
    refine W_reg rfl (s_add rfl rfl (by omega) (s_mv rfl (s_nil ?_)))
    refine ⟨n - (i + 1), by omega, _, i + 1, u4 (congrArg iV ?_) rfl rfl rfl, rfl, by omega, rfl⟩
    rw [List.take_succ_eq_append_getElem hil, nB_snoc]
    exact or_add _ _ ⟨hbd.1, hlt⟩ hx
  · have hc := of_decide_eq_false hc
    refine W_sr rfl (s_mv rfl (s_as rfl (s_nil ?_)))
    refine W_ret ⟨_, rfl, ?_, rfl⟩
    rw [List.take_of_length_le (by omega)]; rfl
/-! ## the reader -/
structure RdR (w : World) (N r : Nat) (bs : List Int) (s : Bool) : Prop where
  ex : ∃ p c ty, w.heap[r]? = some (.cells #[.slice p bs.length c, .bool s] ty (0, 0)) ∧ SlR w p (bs.map bV) ∧ bs.length ≤ c ∧ (bs ≠ [] → ∀ a, p = some a → a.block < N)
  le : N ≤ r
theorem SlR.keep {M : Nat → Prop} {w w' : World} {p : Option Addr} {xs : List Value} (h : Mod M w w') (hp : SlR w p xs) (hm : xs ≠ [] → ∀ a, p = some a → ¬ M a.block) : SlR w' p xs := by
  cases p with
  | none => exact hp
  | some a =>
    by_cases hx : xs = []
    · subst hx; exact Row.nil _ _
    · exact h.row hp (hm hx a rfl)
theorem RdR.mod {M : Nat → Prop} {w w' : World} {N r : Nat} {bs : List Int} {s : Bool} (h : RdR w N r bs s) (hM : Mod M w w') (hr : ¬ M r) (hN : ∀ k, M k → N ≤ k) : RdR w' N r bs s := by
  obtain ⟨p, c, ty, hh, hp, hle, hne⟩ := h.ex
  refine ⟨⟨p, c, ty, hM.heap hh hr, SlR.keep hM hp (fun hx a ha hk => ?_), hle, hne⟩, h.le⟩
  have h1 := hne (fun h0 => hx (by rw [h0]; rfl)) a ha
  have h2 := hN _ hk
  omega
def tkB (k : Nat) (bs : List Int) : List Int := if bs.length < k then List.replicate k 0 else bs.take k
def rsB (k : Nat) (bs : List Int) : List Int := if bs.length < k then [] else bs.drop k
def shB (k : Nat) (bs : List Int) (s : Bool) : Bool := s || decide (bs.length < k)
theorem tkB_len (k : Nat) (bs : List Int) : (tkB k bs).length = k := by unfold tkB; split <;> simp; omega
theorem tkB_byt {k : Nat} {bs : List Int} (h : byt bs) : byt (tkB k bs) := by
  unfold tkB; split
  · intro x hx; have := List.eq_of_mem_replicate hx; subst this; decide
  · intro x hx; exact h x (List.mem_of_mem_take hx)
theorem rsB_byt {k : Nat} {bs : List Int} (h : byt bs) : byt (rsB k bs) := by
  unfold rsB; split
  · intro x hx; cases hx
  · intro x hx; exact h x (List.mem_of_mem_drop hx)
theorem SlR.mod {M : Nat → Prop} {w w' : World} {p : Option Addr} {xs : List Value} (h : Mod M w w') (hp : SlR w p xs) (hm : ∀ a, p = some a → ¬ M a.block) : SlR w' p xs := by
  cases p with
  | none => exact hp
  | some a => exact h.row hp (hm a rfl)
theorem slP_block {p : Option Addr} {l m s : Nat} {a : Addr} (h : slP p l m s = some a) : ∃ b, p = some b ∧ a.block = b.block := by
  unfold slP at h
  split at h
  · exact ⟨a, h, rfl⟩
  · cases p with
    | none => cases h
    | some b => cases h; exact ⟨b, rfl, add_block _ _⟩
section
variable {w : World} {N r : Nat} {bs : List Int} {s : Bool}
theorem metric_take_c {k : Nat} (hk : k ≤ 4) (h : RdR w N r bs s) (hl : bs.length ≤ 1000000) :
    Ret Go.Proofs.Tryz.prog 41 #[.pointer (some ⟨r, 0, none⟩), iV k] w fun v w' => (∃ p c, v = .slice p k c ∧ SlR w' p ((tkB k bs).map bV)) ∧ RdR w' N r (rsB k bs) (shB k bs s) ∧ Mod (fun b => b = r) w w' := by
  obtain ⟨p, c, ty, hh, hp, hle, hne⟩ := h.ex
  have c0 : w.cell? (Addr.add ⟨r, 0, none⟩ 0) = some (.slice p bs.length c) := by rw [ad0]; simp [World.cell?, hh]
  refine enter Go.Proofs.Tryz.func41 rfl rfl rfl ?_
  refine W_sr rfl (s_as rfl (s_nil ?_))
  refine W_seq ?_
  refine W_sr rfl (s_mv rfl (s_nc rfl (s_fa E rfl rfl (s_ld E rfl rfl c0 (s_len E rfl rfl (s_mv rfl (s_lss rfl rfl (s_nil ?_))))))))
  refine W_if rfl (fun hc => ?_) (fun hc => W_skip ?_)
  · have hc : bs.length < k := by have := of_decide_eq_true hc; omega
    refine W_sr rfl (s_mv rfl (s_nc rfl (s_fa E rfl rfl (s_st1 E rfl rfl (ad0 r 1) rfl rfl hh (by simp) (s_nil ?_)))))
    have hh1 := setRow_heap w r _ #[.slice p bs.length c, .bool true] ty (0, 0) hh
    refine W_sr rfl (s_mv rfl (s_nc rfl (s_fa E rfl rfl (s_st1 E rfl rfl (ad0 r 0) rfl rfl hh1 (by simp) (s_nil ?_)))))
    have hh2 := setRow_heap _ r _ #[.slice none 0 0, .bool true] ty (0, 0) hh1
    refine W_sr rfl (s_mv rfl (s_mk E rfl rfl rfl rfl rfl (by omega) fun w3 hE3 h3 hs3 => (s_as rfl (s_nil ?_))))
    have hM : Mod (fun b => b = r) w w3 := ((setRow_mod (M := fun b => b = r) rfl).trans (setRow_mod (M := fun b => b = r) rfl)).trans (Mod.of_ext hE3)
    refine W_ret ⟨_, rfl, ⟨_, k, rfl, ?_⟩, ⟨⟨none, 0, ty, ?_, ?_, ?_, ?_⟩, h.le⟩, hM⟩
    · show Row _ _ _
      have : tkB k bs = List.replicate k 0 := by unfold tkB; rw [if_pos hc]
      rw [this]
      intro i x hx
      rw [ad0]
      have hik : i < k := by have := (List.getElem?_eq_some_iff.1 hx).1; simpa using this
      have hx' : x = bV 0 := by
        rw [List.getElem?_map, List.getElem?_replicate, if_pos hik] at hx
        simpa using hx.symm
      subst hx'
      simp only [World.cell?]
      rw [h3]
      simp [madeCells, hik, Value.cells, Nat.mod_one]
    · have h4 : rsB k bs = [] := by unfold rsB; rw [if_pos hc]
      have h5 : shB k bs s = true := by unfold shB; rw [decide_eq_true hc, Bool.or_true]
      rw [h4, h5]
      exact Ext.heap hE3 hh2
    · have h4 : rsB k bs = [] := by unfold rsB; rw [if_pos hc]
      rw [h4]; rfl
    · have h4 : rsB k bs = [] := by unfold rsB; rw [if_pos hc]
      rw [h4]; exact Nat.le_refl _
    · intro _ a ha; cases ha
  · have hc : k ≤ bs.length := by have := of_decide_eq_false hc; omega
    refine W_sr rfl (s_mv rfl (s_nc rfl (s_fa E rfl rfl (s_ld E rfl rfl c0 (s_mv rfl (s_slc E rfl rfl (sb_h rfl (by omega)) (s_as rfl (s_nil ?_))))))))
    refine W_sr rfl (s_mv rfl (s_mv rfl (s_nc rfl (s_fa E rfl rfl (s_ld E rfl rfl c0 (s_mv rfl (s_slc E rfl rfl (sb_l rfl hc) (s_nc rfl (s_fa E rfl rfl (s_st1 E rfl rfl (ad0 r 0) rfl rfl hh (by simp) (s_nil ?_)))))))))))
    have hlm : (bs.map bV).length = bs.length := List.length_map _
    have p1 := SlR.part (l := 0) (h := k) (m := c) (s := 1) hp (by omega) (by omega) (by omega)
    have p2 := SlR.part (l := k) (h := bs.length) (m := c) (s := 1) hp hc (by omega) (by omega)
    have e1 : tkB k bs = bs.take k := by unfold tkB; rw [if_neg (by omega)]
    have e2 : rsB k bs = bs.drop k := by unfold rsB; rw [if_neg (by omega)]
    have e3 : shB k bs s = s := by unfold shB; rw [decide_eq_false (by omega), Bool.or_false]
    have hM : Mod (fun b => b = r) w (w.setRow r #[.slice (slP p k c 1) (bs.length - k) (c - k), .bool s]) := setRow_mod rfl
    have nb : bs ≠ [] → ∀ l m a, slP p l m 1 = some a → a.block < N := fun h0 l m a ha => by
      obtain ⟨b, hb, he⟩ := slP_block ha
      rw [he]; exact hne h0 b hb
    refine W_sr rfl (s_mv rfl (s_as rfl (s_nil ?_)))
    refine W_ret ⟨_, rfl, ⟨_, _, rfl, ?_⟩, ⟨⟨slP p k c 1, c - k, ty, ?_, ?_, ?_, ?_⟩, h.le⟩, hM⟩
    · refine SlR.keep hM ?_ (fun hx a ha he => by have := nb (fun h0 => hx (by rw [h0]; unfold tkB; split <;> simp_all)) 0 c a ha; have := h.le; omega)
      rw [e1, List.map_take]
      rw [show k * 1 = k from Nat.mul_one k] at p1
      exact p1
    · rw [e2, e3, List.length_drop]
      exact setRow_heap w r _ _ ty (0, 0) hh
    · refine SlR.keep hM ?_ (fun hx a ha he => by have := nb (fun h0 => hx (by rw [h0]; unfold rsB; split <;> simp)) k c a ha; have := h.le; omega)
      rw [e2, List.map_drop]
      rw [Nat.mul_one, Nat.mul_one, List.take_of_length_le (by omega)] at p2
      exact p2
    · rw [e2, List.length_drop]; omega
    · exact fun hx => nb (fun h0 => hx (by rw [h0]; unfold rsB; split <;> simp)) k c
def s32 (n : Int) : Int := if n < 2147483648 then n else n - 4294967296
theorem metric_One_c (h : RdR w N r bs s) (hl : bs.length ≤ 1000000) (hb : byt bs) :
    Ret Go.Proofs.Tryz.prog 45 #[.pointer (some ⟨r, 0, none⟩)] w fun v w' => v = iV (nB (tkB 1 bs)) ∧ RdR w' N r (rsB 1 bs) (shB 1 bs s) ∧ Mod (fun b => b = r) w w' := by
  refine enter Go.Proofs.Tryz.func45 rfl rfl rfl ?_
  refine W_sr rfl (s_as rfl (s_nil ?_))
  have call := metric_take_c (k := 1) (by decide) h hl
  refine W_sr rfl (s_mv rfl (s_call rfl rfl call ?_))
  rintro _ w2 ⟨⟨p, c, rfl, hp⟩, hR, hM⟩
  obtain ⟨x, hx⟩ : ∃ x, tkB 1 bs = [x] := List.length_eq_one_iff.1 (tkB_len 1 bs)
  rw [hx] at hp
  obtain ⟨a, rfl, hcell⟩ := sl_bytes hp (i := 0) (by simp)
  have hbx := tkB_byt (k := 1) hb x (by rw [hx]; simp)
  refine (s_ia E rfl rfl rfl rfl (by decide) (s_ld E rfl rfl hcell (s_cvx E rfl rfl rfl (wrap64_in (by show _ ≤ x; omega) (by show x ≤ _; omega)) (s_as rfl (s_nil ?_)))))
  exact W_ret ⟨_, rfl, by rw [hx]; simp [nB]; rfl, hR, hM⟩
theorem metric_Two_c (h : RdR w N r bs s) (hl : bs.length ≤ 1000000) (hb : byt bs) :
    Ret Go.Proofs.Tryz.prog 43 #[.pointer (some ⟨r, 0, none⟩)] w fun v w' => v = iV (nB (tkB 2 bs)) ∧ RdR w' N r (rsB 2 bs) (shB 2 bs s) ∧ Mod (fun b => b = r) w w' := by
  refine enter Go.Proofs.Tryz.func43 rfl rfl rfl ?_
  refine W_sr rfl (s_as rfl (s_nil ?_))
  have call := metric_take_c (k := 2) (by decide) h hl
  refine W_sr rfl (s_mv rfl (s_call rfl rfl call ?_))
  rintro _ w2 ⟨⟨p, c, rfl, hp⟩, hR, hM⟩
  refine (s_callp rfl rfl (metric_number_c (tkB_len 2 bs).symm (by decide) (tkB_byt hb) hp) (s_as rfl (s_nil ?_)))
  exact W_ret ⟨_, rfl, rfl, hR, hM⟩
theorem metric_Four_c (h : RdR w N r bs s) (hl : bs.length ≤ 1000000) (hb : byt bs) :
    Ret Go.Proofs.Tryz.prog 42 #[.pointer (some ⟨r, 0, none⟩)] w fun v w' => v = iV (s32 (nB (tkB 4 bs))) ∧ RdR w' N r (rsB 4 bs) (shB 4 bs s) ∧ Mod (fun b => b = r) w w' := by
  refine enter Go.Proofs.Tryz.func42 rfl rfl rfl ?_
  refine W_sr rfl (s_as rfl (s_nil ?_))
  have call := metric_take_c (k := 4) (by decide) h hl
  have hbd := nB_bd 4 (tkB 4 bs) (tkB_len 4 bs) (tkB_byt hb)
  rw [show (256 : Int) ^ 4 = 4294967296 from by decide] at hbd
  have e1 : IntKind.i32.wrap (nB (tkB 4 bs)) = s32 (nB (tkB 4 bs)) := by
    unfold s32
    simp only [IntKind.wrap, IntKind.bits, IntKind.signed]
    simp
    omega
  have e2 : IntKind.i64.wrap (s32 (nB (tkB 4 bs))) = s32 (nB (tkB 4 bs)) := by
    refine wrap64_in ?_ ?_ <;> unfold s32 <;> split <;> omega
  refine W_sr rfl (s_mv rfl (s_call rfl rfl call ?_))
  rintro _ w2 ⟨⟨p, c, rfl, hp⟩, hR, hM⟩
  refine (s_callp rfl rfl (metric_number_c (tkB_len 4 bs).symm (by decide) (tkB_byt hb) hp) (s_cvx E rfl rfl rfl e1 (s_cvx E rfl rfl rfl e2 (s_as rfl (s_nil ?_)))))
  exact W_ret ⟨_, rfl, rfl, hR, hM⟩
end
end Go.Proofs.YthfnijlgmjkedaaGreat
namespace Go.Proofs.YthfnijlgmjkedaaGreat
set_option maxRecDepth 100000
set_option linter.unusedVariables false
set_option linter.unusedSimpArgs false
open Go Go.Fx Go.Proofs.YthfnijlgmjkedaaGreat.Tab Go.RowKit
def dimG : Nat → FuncId
  | 0 => 70
  | 1 => 71
  | _ => 72
theorem dim_c (j : Nat) (x : Ch) (w : World) : Ret Go.Proofs.Tryz.prog (dimG j) #[chV x] w fun v w' => v = iV (dimF j x) ∧ Ext w w' := by
  match j with
  | 0 => exact metric_width_c
  | 1 => exact metric_height_c
  | _ + 2 => exact metric_depth_c
def dimC : List Value := [.func (.func (dimG 0)) #[] #[], .func (.func (dimG 1)) #[] #[], .func (.func (dimG 2)) #[] #[]]
theorem dimC_get (j : Nat) (h : j < 3) : dimC[j]? = some (.func (.func (dimG j)) #[] #[]) := by
  match j, h with
  | 0, _ => rfl
  | 1, _ => rfl
  | 2, _ => rfl
def Tn (m : Me) (i : Nat) : Nat → List Int := fun j => if j < i then tabs m j else []
theorem Tn_succ (m : Me) (i : Nat) : Tn m (i + 1) = updF (Tn m i) i (tabs m i) := by
  funext j
  by_cases h : j = i
  · subst h; simp [Tn, updF]
  · by_cases h2 : j < i
    · simp [Tn, updF, h, h2, show j < i + 1 by omega]
    · simp [Tn, updF, h, h2, show ¬ j < i + 1 by omega]
def meC (m : Me) (p q : Option Addr) (c d : Nat) : List Value := [iV m.size, .slice p m.chars.length c, .slice q m.rules.length d]
theorem metric_pack_c {m : Me} {p q : Option Addr} {c d : Nat} {w : World} (hm : MeR w m p q) (hb1 : m.chars.length ≤ 1000) (hb2 : m.rules.length ≤ 1000) :
    Ret Go.Proofs.Tryz.prog 30 #[meV m p q c d] w fun v w' => (∃ pp cc, v = .slice pp (packM m).length cc ∧ (packM m).length ≤ cc ∧ SlR w' pp ((packM m).map bV) ∧ OwnF w' 5 1 v (packM m).length ((packM m).map bV) ∧ ∀ k, v.ownBlock = some k → w.heap.size ≤ k) ∧ Ext w w' := by
  refine enter Go.Proofs.Tryz.func30 rfl rfl rfl ?_
  refine W_sr rfl (s_bxA rfl fun w1 hE1 hh1 hs1 => (s_as rfl (s_nil ?_)))
  refine W_sr rfl (s_bsA E rfl rfl rfl rfl rfl (cells := #[bV 70, bV 77, bV 69, bV 84]) (by kernel_rfl) fun w2 hE2 hh2 hs2 => (s_cvs E rfl rfl rfl fun w3 hmod3 hc3 => (s_bld rfl (cells := #[.slice (some ⟨w1.heap.size, 0, none⟩) 4 4]) (by kernel_rfl) (s_bxA rfl fun w4 hE4 hh4 hs4 => (s_as rfl (s_nil ?_))))))
  have hrow4 : Row w4 ⟨w1.heap.size, 0, none⟩ (magicB.map bV) := Ext.row hE4 (fun i x hx => by rw [hc3]; exact row_heap hh2 i x hx)
  have hs3 := hmod3.size
  have hf4 : FileR w4 (fun k => k = w3.heap.size ∨ k = w1.heap.size) w3.heap.size magicB :=
    ⟨_, _, hh4, .inr ⟨rfl, _, rfl, hrow4⟩, .inl rfl, fun k hk => by cases hk; exact ⟨.inr rfl, by show w1.heap.size ≠ w3.heap.size; omega⟩⟩
  have hbox3 : w3.heap[w.heap.size]? = some (.cells (meC m p q c d).toArray 25 (0, 0)) := hmod3.heap (Ext.heap hE2 hh1) (by show ¬ _ = w1.heap.size; omega)
  refine W_sr rfl (s_mv rfl (s_fa E rfl rfl (s_ld E rfl rfl (Ext.row hE4 (row_heap hbox3) 0 _ rfl) (s_callx rfl rfl (metric_File_Four_c hf4 (by decide)) fun w5 h5 => (s_nil ?_)))))
  obtain ⟨hf5, hmod5⟩ := h5
  refine W_sr rfl (s_alA E rfl fun w6 hE6 hh6 hs6 => (s_nil ?_))
  refine W_sr rfl (s_bsA E rfl rfl rfl rfl rfl (cells := dimC.toArray) (by kernel_rfl) fun w7 hE7 hh7 hs7 => (s_as rfl (s_nil ?_)))
  have hs5 := hmod5.size
  have hs4' := hE4.size
  have hE05 : Ext w w5 := Ext.thenMod (Mod.trans (Ext.thenMod (hE1.trans hE2) hmod3 (fun k hk h => by have h : k = w1.heap.size := h; omega)) hE4) hmod5 (fun k hk h => by rcases h with h | h <;> omega)
  have hbox7 : w7.heap[w.heap.size]? = some (.cells (meC m p q c d).toArray 25 (0, 0)) := Ext.heap hE7 (Ext.heap hE6 (hmod5.heap (Ext.heap hE4 hbox3) (by rintro (h | h) <;> omega)))
  have pk : PK w w7 (fun k => (k = w3.heap.size ∨ k = w1.heap.size) ∨ w4.heap.size ≤ k ∧ k < w5.heap.size) w3.heap.size w5.heap.size [(⟨w.heap.size, 0, none⟩, meC m p q c d), (⟨w6.heap.size, 0, none⟩, dimC)] (headB m ++ tabsB m 0) (Tn m 0) (fun _ => .slice none 0 0) := by
    refine ⟨hE05.trans (hE6.trans hE7), ?_, ?_, ?_, ⟨_, Ext.heap hE7 hh6⟩, fun j hj => ⟨?_, by simp [Value.ownBlock]⟩, ⟨by rintro ((h | h) | h) <;> omega, by omega⟩, ?_⟩
    · rw [show tabsB m 0 = [] from rfl, List.append_nil]
      exact hf5.mod (hE6.trans hE7) (fun _ _ h => h)
    · rintro k ((h | h) | h) <;> omega
    · rintro k ((h | h) | h) <;> omega
    · simp only [Tn, Nat.not_lt_zero, if_false]; exact Own.nil _ _ _
    · intro x hx
      simp only [List.mem_cons, List.not_mem_nil, or_false] at hx
      rcases hx with rfl | rfl
      · exact ⟨row_heap hbox7, by rintro ((h | h) | h) <;> simp only at h <;> omega, by show _ ≠ _; simp only; omega, by simp only; omega⟩
      · exact ⟨row_heap hh7, by rintro ((h | h) | h) <;> simp only at h <;> omega, by show _ ≠ _; simp only; omega, by simp only; omega⟩
  generalize (fun k => (k = w3.heap.size ∨ k = w1.heap.size) ∨ w4.heap.size ≤ k ∧ k < w5.heap.size) = S at pk
  generalize hKR : [((⟨w.heap.size, 0, none⟩ : Addr), meC m p q c d), (⟨w6.heap.size, 0, none⟩, dimC)] = KR at pk
  generalize w3.heap.size = A at pk ⊢
  generalize w5.heap.size = B at pk ⊢
  generalize w6.heap.size = DB at hKR ⊢
  generalize hMB : w.heap.size = MB at hKR ⊢
  have kM : (⟨MB, 0, none⟩, meC m p q c d) ∈ KR := by rw [← hKR]; simp
  have kD : (⟨DB, 0, none⟩, dimC) ∈ KR := by rw [← hKR]; simp
  refine W_n4 1 3 4 5 (.pointer (some ⟨MB, 0, none⟩)) (.pointer (some ⟨A, 0, none⟩)) (.pointer (some ⟨B, 0, none⟩)) (.slice (some ⟨DB, 0, none⟩) 3 3) rfl rfl rfl rfl fun ρ => ?_
  clear hKR hh1 hh2 hh4 hrow4 hf4 hbox3 hf5 hmod5 hh6 hh7 hbox7 hmod3 hc3 hE1 hE2 hE4 hE6 hE7 hE05 hs1 hs2 hs3 hs4 hs4' hs5 hs6 hs7
  have hhd : (headB m).length = 8 := rfl
  refine W_seq ?_
  refine W_sr rfl (s_mv rfl (s_len E rfl rfl (s_mv rfl (s_nil ?_))))
  refine W_block ?_
  refine W_loop (fun n ρ w' => ∃ ρ' i S vs, ρ = upd (upd (upd (upd (upd (upd (upd ρ' 1 (.pointer (some ⟨MB, 0, none⟩))) 3 (.pointer (some ⟨A, 0, none⟩))) 4 (.pointer (some ⟨B, 0, none⟩))) 5 (.slice (some ⟨DB, 0, none⟩) 3 3)) 27 (.slice (some ⟨DB, 0, none⟩) 3 3)) 28 (iV 3)) 29 (iV (i : Nat)) ∧
      PK w w' S A B KR (headB m ++ tabsB m i) (Tn m i) vs ∧ i ≤ 3 ∧ n = 3 - i) 3 ⟨_, 0, S, _, u7 rfl rfl rfl rfl rfl rfl rfl, pk, by omega, rfl⟩ ?_
  clear pk
  rintro n _ wa ⟨ρ, i, S, vs, rfl, pk, hi, rfl⟩
  refine W_sr rfl (s_lss rfl rfl (s_nil ?_))
  refine W_seq ?_
  refine W_if rfl (fun hc => W_skip ?_) (fun hc => W_exit ?_)
  · have hc := of_decide_eq_true hc
    have hi3 : i < 3 := by omega
    have htl := tabsB_len m i hb1
    refine W_seq (W_block ?_)
    refine W_sr rfl (s_mv rfl (s_ia E rfl rfl rfl rfl (by omega) (s_ld E rfl rfl (by rw [Nat.mul_one]; exact (pk.kept _ kD).1 i _ (dimC_get i hi3)) (s_as rfl (s_as rfl (s_nil ?_))))))
    have hcall := metric_table_c (p := p) (q := q) (c := c) (d := d) (hm.ext pk.ext) hb1 (dim_c i)
    refine W_sr rfl (s_mv rfl (s_lda E rfl rfl (pk.kept _ kM).1 rfl (s_mv rfl (s_call rfl rfl hcall ?_))))
    rintro v wb ⟨ho, hfr, hEb⟩
    obtain ⟨pt, ct, rfl, _, _, _⟩ := ho.form
    have pkb := pk.step hEb
    obtain ⟨ty, htb⟩ := pkb.tab
    have htbs := pk.hS2
    have pkc := pkb.store hi3 ho (fun k hk => ⟨fun hs => by have := htbs k hs; have := hfr k hk; omega, fun he => by have := hfr k hk; have := (Array.getElem?_eq_some_iff.1 pk.tab.choose_spec).1; omega, Nat.le_trans pk.ext.size (hfr k hk)⟩)
    refine (s_iaA E rfl rfl rfl rfl hi3 (s_st1 (v := .slice pt (tabL (dimF i) m.chars).length ct) E rfl rfl (by rw [ad0, Nat.mul_one]) rfl rfl htb hi3 (s_nil ?_)))
    have hvi : updF vs i (Value.slice pt (tabL (dimF i) m.chars).length ct) i = .slice pt (tabs m i).length ct := if_pos rfl
    have hti : updF (Tn m i) i (tabL (dimF i) m.chars) i = tabs m i := if_pos rfl
    generalize hvs : updF vs i (Value.slice pt (tabL (dimF i) m.chars).length ct) = vs2 at pkc hvi
    generalize hts : updF (Tn m i) i (tabL (dimF i) m.chars) = T2 at pkc hti
    have hlen1 : (headB m ++ tabsB m i).length ≤ 1000000 := by rw [List.length_append]; omega
    have htl1 := tabs_len m i
    refine W_sr rfl (s_mv rfl (s_mv rfl (s_iaA E rfl rfl rfl rfl hi3 (s_ld E rfl rfl (by rw [pkc.tcell hi3, hvi]) (s_len E rfl rfl (s_callx rfl rfl (metric_File_Two_c pkc.file hlen1) fun wd hd => (s_nil ?_)))))))
    have pkd := pkc.write hd.1 hd.2
    clear hd pkc pkb hcall hEb ho hfr htb
    refine W_sr rfl (s_mv rfl (s_iaA E rfl rfl rfl rfl hi3 (s_ld E rfl rfl (by rw [pkd.tcell hi3, hvi]) (s_len E rfl rfl (s_mv rfl (s_nil ?_))))))
    refine W_block ?_
    refine W_loop (fun n ρ w' => ∃ ρ' k S, ρ = upd (upd (upd (upd (upd (upd (upd (upd (upd (upd ρ' 1 (.pointer (some ⟨MB, 0, none⟩))) 3 (.pointer (some ⟨A, 0, none⟩))) 4 (.pointer (some ⟨B, 0, none⟩))) 5 (.slice (some ⟨DB, 0, none⟩) 3 3)) 27 (.slice (some ⟨DB, 0, none⟩) 3 3)) 28 (iV 3)) 29 (iV (i : Nat))) 47 (.slice pt (tabs m i).length ct)) 48 (iV (tabs m i).length)) 49 (iV (k : Nat)) ∧
        PK w w' S A B KR (headB m ++ tabsB m i ++ bytes2 (tabs m i).length ++ ((tabs m i).take k).flatMap bytes4) T2 vs2 ∧ k ≤ (tabs m i).length ∧ n = (tabs m i).length - k) (tabs m i).length
      ⟨_, 0, _, u10 rfl rfl rfl rfl rfl rfl rfl rfl rfl rfl, by simpa using pkd, by omega, by omega⟩ ?_
    clear pkd
    rintro n _ we ⟨ρ, k, S, rfl, pk, hk, rfl⟩
    refine W_sr rfl (s_lss rfl rfl (s_nil ?_))
    refine W_seq ?_
    refine W_if rfl (fun hd => W_skip ?_) (fun hd => W_exit ?_)
    · have hd := of_decide_eq_true hd
      have hkl : k < (tabs m i).length := by omega
      have hot := (pk.own i hi3).1
      rw [hvi, hti] at hot
      obtain ⟨a, rfl, hcell⟩ := sl_map (Own.slr hot) hkl
      have hfl := flat_len_le bytes4 4 (fun _ => by simp [bytes4]) ((tabs m i).take k)
      rw [List.length_take] at hfl
      have hlen2 : (headB m ++ tabsB m i ++ bytes2 (tabs m i).length ++ ((tabs m i).take k).flatMap bytes4).length ≤ 1000000 := by
        rw [List.length_append, List.length_append]
        have : (bytes2 ((tabs m i).length : Int)).length = 2 := rfl
        rw [List.length_append] at hlen1 ⊢
        omega
      refine W_seq (W_block ?_)
      refine W_sr rfl (s_ia E rfl rfl rfl rfl hkl (s_ld E rfl rfl hcell (s_as rfl (s_nil ?_))))
      refine W_reg rfl (s_mv rfl (s_mv rfl (s_callx rfl rfl (metric_File_Four_c pk.file hlen2) fun wf hf => (s_nil ?_))))
      refine W_reg rfl (s_add rfl rfl (by omega) (s_mv rfl (s_nil ?_)))
      have pk' := pk.write hf.1 hf.2
      rw [List.append_assoc _ _ (bytes4 _), ← flat_take bytes4 _ _ hkl] at pk'
      exact ⟨(tabs m i).length - (k + 1), by omega, _, k + 1, _, u10 rfl rfl rfl rfl rfl rfl rfl rfl rfl rfl, pk', by omega, rfl⟩
    · have hd := of_decide_eq_false hd
      have hke : k = (tabs m i).length := by omega
      subst hke
      rw [List.take_length] at pk
      refine W_reg rfl (s_add rfl rfl (by omega) (s_mv rfl (s_nil ?_)))
      refine ⟨3 - (i + 1), by omega, _, i + 1, S, vs2, u7 rfl rfl rfl rfl rfl rfl rfl, ?_, by omega, rfl⟩
      rw [Tn_succ]
      have e : headB m ++ tabsB m (i + 1) = headB m ++ tabsB m i ++ bytes2 (tabs m i).length ++ (tabs m i).flatMap bytes4 := by
        unfold tabsB
        rw [range_flat]
        simp only [tabBytes, List.append_assoc]
      rw [e]
      rw [← hts] at pk
      exact pk
  · have hc := of_decide_eq_false hc
    have hi3 : i = 3 := by omega
    subst hi3
    have hl3 := tabsB_len m 3 hb1
    have hlen3 : (headB m ++ tabsB m 3).length ≤ 1000000 := by rw [List.length_append]; omega
    refine W_sr rfl (s_mv rfl (s_fa E rfl rfl (s_ld E rfl rfl ((pk.kept _ kM).1 1 _ rfl) (s_len E rfl rfl (s_callx rfl rfl (metric_File_Two_c pk.file hlen3) fun wb hb => (s_nil ?_))))))
    have pkb := pk.write hb.1 hb.2
    clear pk hb
    have hpre : (headB m ++ tabsB m 3 ++ bytes2 m.chars.length).length ≤ 13000 := by
      rw [List.length_append, List.length_append]
      have : (bytes2 (m.chars.length : Int)).length = 2 := rfl
      omega
    generalize hpr : headB m ++ tabsB m 3 ++ bytes2 m.chars.length = pre at pkb hpre
    refine W_seq ?_
    refine W_sr rfl (s_fa E rfl rfl (s_ld E rfl rfl ((pkb.kept _ kM).1 1 _ rfl) (s_len E rfl rfl (s_mv rfl (s_nil ?_)))))
    refine W_block ?_
    refine W_loop (fun n ρ w' => ∃ ρ' i S, ρ = upd (upd (upd (upd (upd (upd (upd ρ' 1 (.pointer (some ⟨MB, 0, none⟩))) 3 (.pointer (some ⟨A, 0, none⟩))) 4 (.pointer (some ⟨B, 0, none⟩))) 5 (.slice (some ⟨DB, 0, none⟩) 3 3)) 64 (.slice p m.chars.length c)) 65 (iV m.chars.length)) 66 (iV (i : Nat)) ∧
        PK w w' S A B KR (pre ++ (m.chars.take i).flatMap (chBytes m)) (Tn m 3) vs ∧ i ≤ m.chars.length ∧ n = m.chars.length - i) m.chars.length
      ⟨_, 0, _, u7 rfl rfl rfl rfl rfl rfl rfl, by simpa using pkb, by omega, by omega⟩ ?_
    clear pkb
    rintro n _ wc ⟨ρ, i, S, rfl, pk, hi, rfl⟩
    refine W_sr rfl (s_lss rfl rfl (s_nil ?_))
    refine W_seq ?_
    refine W_if rfl (fun hd => W_skip ?_) (fun hd => W_exit ?_)
    · have hd := of_decide_eq_true hd
      have hil : i < m.chars.length := by omega
      have hfl := flat_len_le (chBytes m) 7 (chBytes_len m) (m.chars.take i)
      rw [List.length_take] at hfl
      have hlen4 : (pre ++ (m.chars.take i).flatMap (chBytes m)).length ≤ 900000 := by rw [List.length_append]; omega
      obtain ⟨a, rfl, hrow⟩ := hm.ch.some (by intro h0; have := flat_length chC 4 chC_len m.chars; rw [h0] at this; simp at this; omega)
      refine W_seq (W_block ?_)
      refine W_sr rfl (s_ia E rfl rfl rfl rfl hil (s_lda E rfl rfl (Ext.row pk.ext (hrow.at chC_len hil)) rfl (s_alst E rfl rfl rfl rfl rfl fun wd hEd hsd hhd => (s_nil ?_))))
      have pkd := (pk.step hEd).add (p := ⟨wc.heap.size, 0, none⟩) (xs := chC m.chars[i]) (row_heap hhd) (fun h => by have := pk.hS2 _ h; simp only at this; omega) (by have := (Array.getElem?_eq_some_iff.1 pk.tab.choose_spec).1; show wc.heap.size ≠ B; omega) (by show wc.heap.size < _; omega)
      clear pk
      generalize wc.heap.size = CB at pkd ⊢
      have kC : ((⟨CB, 0, none⟩, chC m.chars[i]) : Addr × List Value) ∈ (⟨CB, 0, none⟩, chC m.chars[i]) :: KR := by simp
      refine W_sr rfl (s_mv rfl (s_fa E rfl rfl (s_ld E rfl rfl ((pkd.kept _ kC).1 0 _ rfl) (s_callx rfl rfl (metric_File_One_c pkd.file (by omega)) fun we he => (s_nil ?_)))))
      have pke := pkd.write he.1 he.2
      clear pkd he
      refine W_sr rfl (s_mv rfl (s_len E rfl rfl (s_mv rfl (s_nil ?_))))
      refine W_block ?_
      refine W_loop (fun n ρ w' => ∃ ρ' k S, ρ = upd (upd (upd (upd (upd (upd (upd (upd (upd (upd (upd ρ' 1 (.pointer (some ⟨MB, 0, none⟩))) 3 (.pointer (some ⟨A, 0, none⟩))) 4 (.pointer (some ⟨B, 0, none⟩))) 5 (.slice (some ⟨DB, 0, none⟩) 3 3)) 64 (.slice (some a) m.chars.length c)) 65 (iV m.chars.length)) 66 (iV (i : Nat))) 11 (.pointer (some ⟨CB, 0, none⟩))) 74 (.slice (some ⟨DB, 0, none⟩) 3 3)) 75 (iV 3)) 76 (iV (k : Nat)) ∧
          PK w w' S A B ((⟨CB, 0, none⟩, chC m.chars[i]) :: KR) (pre ++ (m.chars.take i).flatMap (chBytes m) ++ [m.chars[i].code % 256] ++ (List.range k).flatMap (dimB m m.chars[i])) (Tn m 3) vs ∧ k ≤ 3 ∧ n = 3 - k) 3
        ⟨_, 0, _, u11 rfl rfl rfl rfl rfl rfl rfl rfl rfl rfl rfl, by simpa using pke, by omega, by omega⟩ ?_
      clear pke
      rintro n _ wf ⟨ρ, k, S, rfl, pk, hk, rfl⟩
      refine W_sr rfl (s_lss rfl rfl (s_nil ?_))
      refine W_seq ?_
      refine W_if rfl (fun he => W_skip ?_) (fun he => W_exit ?_)
      · have he := of_decide_eq_true he
        have hk3 : k < 3 := by omega
        have hot := (pk.own k hk3).1
        have hTk : Tn m 3 k = tabs m k := if_pos hk3
        rw [hTk] at hot
        have htk := tabs_len m k
        have hfl2 := flat_len_le (dimB m m.chars[i]) 2 (fun j => by simp [dimB, bytes2]) (List.range k)
        rw [List.length_range] at hfl2
        have hlen5 : (pre ++ (m.chars.take i).flatMap (chBytes m) ++ [m.chars[i].code % 256] ++ (List.range k).flatMap (dimB m m.chars[i])).length ≤ 1000000 := by
          rw [List.length_append, List.length_append, List.length_singleton]; omega
        refine W_seq (W_block ?_)
        refine W_sr rfl (s_mv rfl (s_ia E rfl rfl rfl rfl hk3 (s_ld E rfl rfl (by rw [Nat.mul_one]; exact (pk.kept _ (List.mem_cons_of_mem _ kD)).1 k _ (dimC_get k hk3)) (s_as rfl (s_as rfl (s_nil ?_))))))
        refine W_dr (Ext wf) [] orders (D_pure 0 rfl rfl (by kernel_rfl) rfl (fun _ => r_mv rfl) (fun _ => Ext.drew0) (D_pure 1 rfl rfl (by kernel_rfl) rfl (fun _ => r_iaA E rfl rfl rfl rfl hk3) (fun _ => Ext.drew0) (D_take 2 rfl rfl (by kernel_rfl) rfl (fun _ hs => r_ld E rfl rfl (Ext.cell hs (pk.tcell hk3))) Ext.drew0 (D_pure 3 rfl rfl (by kernel_rfl) rfl (fun _ => r_mv rfl) (fun _ => Ext.drew0) (D_take 4 rfl rfl (by kernel_rfl) rfl (fun _ hs => r_lda E rfl rfl (Ext.row hs (pk.kept _ kC).1) rfl) Ext.drew0 (D_one 5 rfl (by kernel_rfl) rfl (s_callx rfl rfl (dim_c k m.chars[i] _) fun wg hg => (s_nil ⟨(Ext.drew0.trans hg), (D_one 6 rfl (by kernel_rfl) rfl (s_callx rfl rfl (slices_BinarySearch_int_c (Ext.owns (Ext.drew0.trans hg) hot) rfl (by omega) (tabs_sorted m k)) fun wh hh => (s_nil ⟨(Ext.drew0.trans (hg.trans hh)), (D_pure 7 rfl rfl (by kernel_rfl) rfl (fun _ => r_mv rfl) (fun _ => (Ext.drew0.trans (hg.trans hh))) (D_pure 8 rfl rfl (by kernel_rfl) rfl (fun _ => r_ex rfl rfl) (fun _ => (Ext.drew0.trans (hg.trans hh))) (D_pure 9 rfl rfl (by kernel_rfl) rfl (fun _ => r_ex rfl rfl) (fun _ => (Ext.drew0.trans (hg.trans hh))) (D_one 10 rfl (by kernel_rfl) rfl (s_as rfl (s_nil ⟨(Ext.drew0.trans (hg.trans hh)), (D_one 11 rfl (by kernel_rfl) rfl (s_as rfl (s_nil ⟨(Ext.drew0.trans (hg.trans hh)), (D_done (by kernel_rfl) ?_)⟩)))⟩))))))⟩)))⟩))))))))
        have pkh := pk.step (Ext.drew0.trans (hg.trans hh))
        refine W_reg rfl (s_mv rfl (s_mv rfl (s_callx rfl rfl (metric_File_Two_c pkh.file hlen5) fun wi hi' => (s_nil ?_))))
        have pki := pkh.write hi'.1 hi'.2
        refine W_reg rfl (s_add rfl rfl (by omega) (s_mv rfl (s_nil ?_)))
        rw [List.append_assoc _ _ (bytes2 _), show (List.range k).flatMap (dimB m m.chars[i]) ++ bytes2 (idxT (tabs m k) (dimF k m.chars[i])) = (List.range (k + 1)).flatMap (dimB m m.chars[i]) from (range_flat _ k).symm] at pki
        exact ⟨3 - (k + 1), by omega, _, k + 1, _, u11 rfl rfl rfl rfl rfl rfl rfl rfl rfl rfl rfl, pki, by omega, rfl⟩
      · have he := of_decide_eq_false he
        have hk3 : k = 3 := by omega
        subst hk3
        have pk' := pk.drop
        rw [List.append_assoc _ [_], List.append_assoc, show [m.chars[i].code % 256] ++ (List.range 3).flatMap (dimB m m.chars[i]) = chBytes m m.chars[i] from rfl, ← flat_take (chBytes m) _ _ hil] at pk'
        refine W_reg rfl (s_add rfl rfl (by omega) (s_mv rfl (s_nil ?_)))
        exact ⟨m.chars.length - (i + 1), by omega, _, i + 1, _, u7 rfl rfl rfl rfl rfl rfl rfl, pk', by omega, rfl⟩
    · have hd := of_decide_eq_false hd
      have hie : i = m.chars.length := by omega
      subst hie
      rw [List.take_length] at pk
      have hfl := flat_len_le (chBytes m) 7 (chBytes_len m) m.chars
      have hlen4 : (pre ++ m.chars.flatMap (chBytes m)).length ≤ 900000 := by rw [List.length_append]; omega
      refine W_sr rfl (s_mv rfl (s_fa E rfl rfl (s_ld E rfl rfl ((pk.kept _ kM).1 2 _ rfl) (s_len E rfl rfl (s_callx rfl rfl (metric_File_Two_c pk.file (by omega)) fun wd hd => (s_nil ?_))))))
      have pkd := pk.write hd.1 hd.2
      clear pk hd
      have hpre2 : (pre ++ m.chars.flatMap (chBytes m) ++ bytes2 m.rules.length).length ≤ 900010 := by
        rw [List.length_append]
        have : (bytes2 (m.rules.length : Int)).length = 2 := rfl
        omega
      generalize hpr2 : pre ++ m.chars.flatMap (chBytes m) ++ bytes2 m.rules.length = pre2 at pkd hpre2
      refine W_seq ?_
      refine W_sr rfl (s_fa E rfl rfl (s_ld E rfl rfl ((pkd.kept _ kM).1 2 _ rfl) (s_len E rfl rfl (s_mv rfl (s_nil ?_)))))
      refine W_block ?_
      refine W_loop (fun n ρ w' => ∃ ρ' i S, ρ = upd (upd (upd (upd ρ' 3 (.pointer (some ⟨A, 0, none⟩))) 102 (.slice q m.rules.length d)) 103 (iV m.rules.length)) 104 (iV (i : Nat)) ∧
          PK w w' S A B KR (pre2 ++ (m.rules.take i).flatMap ruBytes) (Tn m 3) vs ∧ i ≤ m.rules.length ∧ n = m.rules.length - i) m.rules.length
        ⟨_, 0, _, u4 rfl rfl rfl rfl, by simpa using pkd, by omega, by omega⟩ ?_
      clear pkd
      rintro n _ wc ⟨ρ, i, S, rfl, pk, hi, rfl⟩
      refine W_sr rfl (s_lss rfl rfl (s_nil ?_))
      refine W_seq ?_
      refine W_if rfl (fun hd => W_skip ?_) (fun hd => W_exit ?_)
      · have hd := of_decide_eq_true hd
        have hil : i < m.rules.length := by omega
        have hfl := flat_len_le ruBytes 7 ruBytes_len (m.rules.take i)
        rw [List.length_take] at hfl
        have hlen6 : (pre2 ++ (m.rules.take i).flatMap ruBytes).length ≤ 990000 := by rw [List.length_append]; omega
        obtain ⟨a, rfl, hrow⟩ := hm.ru.some (by intro h0; have := flat_length ruC 4 ruC_len m.rules; rw [h0] at this; simp at this; omega)
        refine W_seq (W_block ?_)
        refine W_sr rfl (s_ia E rfl rfl rfl rfl hil (s_lda E rfl rfl (Ext.row pk.ext (hrow.at ruC_len hil)) rfl (s_alst E rfl rfl rfl rfl rfl fun wd hEd hsd hhd => (s_nil ?_))))
        have pkd := (pk.step hEd).add (p := ⟨wc.heap.size, 0, none⟩) (xs := ruC m.rules[i]) (row_heap hhd) (fun h => by have := pk.hS2 _ h; simp only at this; omega) (by have := (Array.getElem?_eq_some_iff.1 pk.tab.choose_spec).1; show wc.heap.size ≠ B; omega) (by show wc.heap.size < _; omega)
        clear pk
        generalize wc.heap.size = CB at pkd ⊢
        have kC : ((⟨CB, 0, none⟩, ruC m.rules[i]) : Addr × List Value) ∈ (⟨CB, 0, none⟩, ruC m.rules[i]) :: KR := by simp
        refine W_sr rfl (s_mv rfl (s_fa E rfl rfl (s_ld E rfl rfl ((pkd.kept _ kC).1 0 _ rfl) (s_callx rfl rfl (metric_File_One_c pkd.file (by omega)) fun we he => (s_nil ?_)))))
        have pke := pkd.write he.1 he.2
        clear pkd he
        refine W_sr rfl (s_mv rfl (s_fa E rfl rfl (s_ld E rfl rfl ((pke.kept _ kC).1 1 _ rfl) (s_callx rfl rfl (metric_File_One_c pke.file (by rw [List.length_append, List.length_singleton]; omega)) fun wf hf => (s_nil ?_)))))
        have pkf := pke.write hf.1 hf.2
        clear pke hf
        refine W_sr rfl (s_mv rfl (s_fa E rfl rfl (s_ld E rfl rfl ((pkf.kept _ kC).1 2 _ rfl) (s_callx rfl rfl (metric_File_One_c pkf.file (by rw [List.length_append, List.length_append, List.length_singleton, List.length_singleton]; omega)) fun wg hg => (s_nil ?_)))))
        have pkg := pkf.write hg.1 hg.2
        clear pkf hg
        refine W_reg rfl (s_mv rfl (s_fa E rfl rfl (s_ld E rfl rfl ((pkg.kept _ kC).1 3 _ rfl) (s_callx rfl rfl (metric_File_Four_c pkg.file (by rw [List.length_append, List.length_append, List.length_append, List.length_singleton, List.length_singleton, List.length_singleton]; omega)) fun wh hh => (s_nil ?_)))))
        have pkh := (pkg.write hh.1 hh.2).drop
        clear pkg hh
        have e : pre2 ++ (m.rules.take i).flatMap ruBytes ++ [m.rules[i].first % 256] ++ [m.rules[i].next % 256] ++ [m.rules[i].op % 256] ++ bytes4 m.rules[i].value = pre2 ++ (m.rules.take (i + 1)).flatMap ruBytes := by
          rw [flat_take ruBytes _ _ hil]; simp only [ruBytes, List.append_assoc]
        rw [e] at pkh
        refine W_reg rfl (s_add rfl rfl (by omega) (s_mv rfl (s_nil ?_)))
        exact ⟨m.rules.length - (i + 1), by omega, _, i + 1, _, u4 rfl rfl rfl rfl, pkh, by omega, rfl⟩
      · have hd := of_decide_eq_false hd
        have hie : i = m.rules.length := by omega
        subst hie
        rw [List.take_length] at pk
        have hfl := flat_len_le ruBytes 7 ruBytes_len m.rules
        have hlen6 : (pre2 ++ m.rules.flatMap ruBytes).length ≤ 990000 := by rw [List.length_append]; omega
        have e : pre2 ++ m.rules.flatMap ruBytes = bodyM m := by rw [← hpr2, ← hpr]; rfl
        rw [e] at pk hlen6
        refine W_sr rfl (s_mv rfl (s_call rfl rfl (metric_File_Finish_c pk.file (by omega)) ?_))
        rintro v wz ⟨⟨pp, cc, rfl, hle, hsl, hof, hfr⟩, hmod⟩
        refine (s_as rfl (s_nil ?_))
        have hpl : (packM m).length = (bodyM m).length + 4 := by simp [packM, bytes4]
        rw [← hpl] at hle hof hfr ⊢
        exact W_ret ⟨_, rfl, ⟨pp, cc, rfl, hle, hsl, hof, fun k hk => by rw [← hMB]; rcases hfr k hk with h | h; exact pk.hS k h; have := pk.ext.size; omega⟩, Ext.thenMod pk.ext hmod (fun k hk h => by have := pk.hS k h; omega)⟩
end Go.Proofs.YthfnijlgmjkedaaGreat
namespace Go.Proofs.YthfnijlgmjkedaaGreat
set_option maxRecDepth 100000
set_option maxHeartbeats 1000000
set_option linter.unusedVariables false
set_option linter.unusedSimpArgs false
open Go Go.Fx Go.Proofs.YthfnijlgmjkedaaGreat.Tab
def twiceB {α : Type} (cmp : α → α → Int) : List α → Bool
  | [] => false
  | [_] => false
  | a :: b :: l => decide (cmp a b = 0) || twiceB cmp (b :: l)
theorem twiceB_iff {α : Type} (cmp : α → α → Int) (l : List α) : twiceB cmp l = true ↔ ∃ i, ∃ h : i + 1 < l.length, cmp l[i] l[i+1] = 0 := by
  induction l with
  | nil => simp [twiceB]
  | cons a l ih => cases l with
    | nil => simp [twiceB]
    | cons b l =>
      simp only [twiceB, Bool.or_eq_true, decide_eq_true_eq, ih]
      constructor
      · rintro (h | ⟨i, h, k⟩)
        · exact ⟨0, by simp, h⟩
        · exact ⟨i + 1, by simpa using h, k⟩
      · rintro ⟨i, h, k⟩
        cases i with
        | zero => exact .inl k
        | succ i => exact .inr ⟨i, by simpa using h, k⟩
/-- where x stands, or would stand, in a sorted list -/
def posL {α : Type} (cmp : α → α → Int) (l : List α) (x : α) : Nat := l.countP fun y => decide (cmp y x < 0)
theorem posL_eq {α : Type} {cmp : α → α → Int} {l : List α} {x : α} {i : Nat} (hi : i ≤ l.length) (h1 : ∀ p (h : p < l.length), p < i → cmp l[p] x < 0) (h2 : ∀ p (h : p < l.length), i ≤ p → 0 ≤ cmp l[p] x) : posL cmp l x = i := by
  unfold posL
  have e : l = l.take i ++ l.drop i := (List.take_append_drop i l).symm
  rw [e, List.countP_append]
  have a1 : (l.take i).countP (fun y => decide (cmp y x < 0)) = (l.take i).length := by
    rw [List.countP_eq_length]
    intro y hy
    obtain ⟨p, hp, rfl⟩ := List.getElem_of_mem hy
    have hp' : p < i := by rw [List.length_take] at hp; omega
    simpa using h1 p (by omega) hp'
  have a2 : (l.drop i).countP (fun y => decide (cmp y x < 0)) = 0 := by
    rw [List.countP_eq_zero]
    intro y hy
    obtain ⟨p, hp, rfl⟩ := List.getElem_of_mem hy
    rw [List.length_drop] at hp
    have := h2 (i + p) (by omega) (by omega)
    simp; exact this
  rw [a1, a2, List.length_take]
  omega
def hitL {α : Type} (cmp : α → α → Int) (l : List α) (x : α) : Bool := match l[posL cmp l x]? with
  | some y => decide (cmp y x = 0)
  | none => false
section
variable {w : World}
theorem metric_Pack_c {m : Me} {p q : Option Addr} {c d : Nat} (hm : MeR w m p q) (hb : m.chars.length ≤ 1000) (hr : m.rules.length ≤ 1000) :
    Ret Go.Proofs.Tryz.prog 11 #[meV m p q c d] w fun v w' => (if validM m then ∃ p c, v = .tuple #[.slice p (packM m).length c, iV 0] ∧ (packM m).length ≤ c ∧ SlR w' p ((packM m).map bV) ∧ OwnF w' 5 1 (.slice p (packM m).length c) (packM m).length ((packM m).map bV) ∧ ∀ k, (Value.slice p (packM m).length c).ownBlock = some k → w.heap.size ≤ k else v = .tuple #[.slice none 0 0, iV 2]) ∧ Ext w w' := by
  refine enter Go.Proofs.Tryz.func11 rfl rfl rfl ?_
  refine W_sr rfl (s_bx rfl (s_as rfl (s_as rfl (s_nil ?_))))
  refine W_seq ?_
  refine W_sr rfl (s_lda E rfl rfl bcr rfl (s_callx rfl rfl (metric_Valid_c (hm.ext e1)) fun w1 hE1 => (s_not rfl (s_nil ?_))))
  cases hv : validM m
  · refine W_if rfl (fun _ => ?_) (fun h => by cases h)
    refine W_sr rfl (s_as rfl (s_as rfl (s_nil ?_)))
    exact W_ret ⟨_, rfl, rfl, e1.trans hE1⟩
  · refine W_if rfl (fun h => by cases h) (fun _ => W_skip ?_)
    refine W_sr rfl (s_lda E rfl rfl (Ext.row hE1 bcr) rfl (s_call rfl rfl (metric_pack_c ((hm.ext e1).ext hE1) hb hr) ?_))
    rintro _ w2 ⟨⟨p', c', rfl, hle, hsl, hof, hfr⟩, hE2⟩
    refine (s_as rfl (s_as rfl (s_nil ?_)))
    exact W_ret ⟨_, rfl, ⟨p', c', rfl, hle, hsl, hof, fun k hk => by have := hfr k hk; have := (e1.trans hE1).size; omega⟩, (e1.trans hE1).trans hE2⟩
theorem slices_Equal_byte_c {p q : Option Addr} {n m c d : Nat} {l k : List Int} (hn : n = l.length) (hm : m = k.length) (hle : n ≤ 1000100) (hlk : m ≤ 1000100) (hp : SlR w p (l.map bV)) (hq : SlR w q (k.map bV)) :
    Ret Go.Proofs.Tryz.prog 46 #[.slice p n c, .slice q m d] w fun v w' => v = .bool (decide (l = k)) ∧ Ext w w' := by
  refine enter Go.Proofs.Tryz.func46 rfl rfl rfl ?_
  refine W_sr rfl (s_as rfl (s_nil ?_))
  refine W_seq ?_
  refine W_sr rfl (s_mv rfl (s_len E rfl rfl (s_mv rfl (s_len E rfl rfl (s_neq rfl rfl (s_nil ?_))))))
  refine W_if rfl (fun hc => ?_) (fun hc => W_skip ?_)
  · have hc := of_decide_eq_true hc
    refine W_sr rfl (s_as rfl (s_nil ?_))
    exact W_ret ⟨_, rfl, by rw [show decide (l = k) = false from decide_eq_false (fun h => by subst h; omega)]; rfl, Mod.refl⟩
  have hc : n = m := by have := of_decide_eq_false hc; omega
  refine W_seq ?_
  refine W_sr rfl (s_mv rfl (s_len E rfl rfl (s_mv rfl (s_nil ?_))))
  refine W_block ?_
  refine W_loop (fun q' ρ w' => ∃ ρ' i, ρ = upd (upd (upd (upd ρ' 0 (.slice p n c)) 1 (.slice q m d)) 12 (iV n)) 13 (iV (i : Nat)) ∧ i ≤ n ∧ q' = n - i ∧ Ext w w' ∧ ∀ j (h : j < l.length) (h' : j < k.length), j < i → l[j] = k[j]) n
    ⟨_, 0, u4 rfl rfl rfl rfl, by omega, by omega, Mod.refl, fun j _ _ h => by omega⟩ ?_
  rintro q' _ w1 ⟨ρ, i, rfl, hi, rfl, hE, heq⟩
  refine W_sr rfl (s_lss rfl rfl (s_nil ?_))
  refine W_seq ?_
  refine W_if rfl (fun hd => W_skip ?_) (fun hd => W_exit ?_)
  · have hd := of_decide_eq_true hd
    have hil : i < l.length := by omega
    have hik : i < k.length := by omega
    obtain ⟨a, rfl, hcell⟩ := sl_bytes hp hil
    obtain ⟨b, rfl, hcell2⟩ := sl_bytes hq hik
    refine W_seq (W_block ?_)
    refine W_sr rfl (s_mv rfl (s_as rfl (s_nil ?_)))
    refine W_qr (Ext w) orders rfl (by kernel_rfl) (Mod.drew hE) (q_mv rfl (q_mv rfl (q_ia E rfl rfl rfl rfl (by omega) (q_ld E rfl rfl (fun w' h => Ext.cell h hcell) (q_mv rfl (q_mv rfl (q_ia E rfl rfl rfl rfl (by omega) (q_ld E rfl rfl (fun w' h => Ext.cell h hcell2) (q_neq rfl rfl (q_nil ?_))))))))))
    intro w2 hE2
    refine W_if rfl (fun he => ?_) (fun he => W_skip ?_)
    · have he := of_decide_eq_true he
      refine W_sr rfl (s_as rfl (s_nil ?_))
      exact W_ret ⟨_, rfl, by rw [show decide (l = k) = false from decide_eq_false (fun h => by subst h; exact he rfl)]; rfl, hE2⟩
    · have he : l[i] = k[i] := by have := of_decide_eq_false he; omega
      refine W_reg rfl (s_add rfl rfl (by omega) (s_mv rfl (s_nil ?_)))
      refine ⟨n - (i + 1), by omega, _, i + 1, u4 rfl rfl rfl rfl, by omega, rfl, hE2, fun j h h' hj => ?_⟩
      by_cases e : j = i
      · subst e; exact he
      · exact heq j h h' (by omega)
  · have hd := of_decide_eq_false hd
    refine W_sr rfl (s_as rfl (s_nil ?_))
    exact W_ret ⟨_, rfl, by rw [show decide (l = k) = true from decide_eq_true (List.ext_getElem (by omega) fun j h h' => heq j h h' (by omega))]; rfl, hE⟩
theorem metric_twice_CharMetric_c {p : Option Addr} {n c : Nat} {l : List Ch} {g : FuncId} {cmp : Ch → Ch → Int} {w : World} (hn : n = l.length) (hm : n ≤ 1000000) (hp : SlR w p (l.flatMap chC))
    (hg : ∀ x y w, Ret Go.Proofs.Tryz.prog g #[chV x, chV y] w fun v w' => v = iV (cmp x y) ∧ Ext w w') :
    Ret Go.Proofs.Tryz.prog 53 #[.slice p n c, .func (.func g) #[] #[]] w fun v w' => v = .bool (twiceB cmp l) ∧ Ext w w' := by
  refine enter Go.Proofs.Tryz.func53 rfl rfl rfl ?_
  refine W_sr rfl (s_as rfl (s_nil ?_))
  refine W_seq ?_
  refine W_sr rfl (s_as rfl (s_nil ?_))
  refine W_block ?_
  refine W_loop (fun m ρ w' => ∃ ρ' i, ρ = upd (upd (upd ρ' 0 (.slice p n c)) 1 (.func (.func g) #[] #[])) 5 (iV (i : Nat)) ∧ 1 ≤ i ∧ (1 ≤ n → i ≤ n) ∧ m = n - i ∧ Ext w w' ∧ ∀ j (h : j + 1 < l.length), j + 1 < i → cmp l[j] l[j+1] ≠ 0) (n - 1)
    ⟨_, 1, u3 rfl rfl rfl, by omega, by omega, rfl, Mod.refl, fun j _ hj => by omega⟩ ?_
  rintro m _ w1 ⟨ρ, i, rfl, hi1, hin, rfl, hE1, hlt⟩
  refine W_seq ?_
  refine W_sr rfl (s_mv rfl (s_mv rfl (s_len E rfl rfl (s_lss rfl rfl (s_nil ?_)))))
  refine W_if rfl (fun hc => W_skip ?_) (fun hc => W_exit ?_)
  · have hc := of_decide_eq_true hc
    have hil : i < l.length := by omega
    obtain ⟨a, rfl, hrow⟩ := hp.some (by intro h0; have := flat_length chC 4 chC_len l; rw [h0] at this; simp at this; omega)
    refine W_seq (W_block ?_)
    have hr1 : ∀ w', Ext w w' → Row w' (a.add ((i - 1) * 4)) (chC l[i - 1]) := fun w' h => Ext.row h (hrow.at chC_len (by omega))
    have hr2 : ∀ w', Ext w w' → Row w' (a.add (i * 4)) (chC l[i]) := fun w' h => Ext.row h (hrow.at chC_len hil)
    refine W_qr (Ext w) orders rfl (by kernel_rfl) (Mod.drew hE1) (q_mv rfl (q_mv rfl (q_mv rfl (q_sub rfl rfl (by omega) (q_ia E rfl rfl rfl (show (i : Int) - 1 = ((i - 1 : Nat) : Int) by omega) (by omega) (q_lda E rfl rfl hr1 rfl (q_mv rfl (q_mv rfl (q_ia E rfl rfl rfl rfl (by omega) (q_lda E rfl rfl hr2 rfl (q_call rfl rfl (hg l[i] l[i] w).1 (fun w' hw' => (hg _ _ w').mono fun v w'' h => ⟨h.1, hw'.trans h.2⟩) (q_eql rfl rfl (q_nil ?_)))))))))))))
    intro w2 hE2
    refine W_if rfl (fun hd => ?_) (fun hd => W_skip ?_)
    · have hd := of_decide_eq_true hd
      refine W_sr rfl (s_as rfl (s_nil ?_))
      refine W_ret ⟨_, rfl, ?_, hE2⟩
      rw [(twiceB_iff cmp l).2 ⟨i - 1, by omega, by simp only [show i - 1 + 1 = i by omega]; exact hd⟩]; rfl
    · have hd := of_decide_eq_false hd
      refine W_reg rfl (s_mv rfl (s_add rfl rfl (by omega) (s_as rfl (s_nil ?_))))
      refine ⟨n - (i + 1), by omega, _, i + 1, u3 rfl rfl rfl, by omega, by omega, rfl, hE2, ?_⟩
      intro j h hj
      by_cases e : j + 1 = i
      · subst e; simp only [Nat.add_sub_cancel] at hd; exact hd
      · exact hlt j h (by omega)
  · have hc := of_decide_eq_false hc
    refine W_sr rfl (s_as rfl (s_nil ?_))
    refine W_ret ⟨_, rfl, ?_, hE1⟩
    have : twiceB cmp l = false := by
      rw [Bool.eq_false_iff]; intro h
      obtain ⟨i, h, k⟩ := (twiceB_iff cmp l).1 h
      exact hlt i h (by omega) k
    rw [this]; rfl
theorem slices_BinarySearchFunc_CharMetric_c {p : Option Addr} {n c : Nat} {l : List Ch} {x : Ch} {g : FuncId} {cmp : Ch → Ch → Int} {w : World} (ho : Ordr cmp) (hs : SrtL cmp l) (hn : n = l.length) (hm : n ≤ 1000000) (hp : SlR w p (l.flatMap chC))
    (hg : ∀ x y w, Ret Go.Proofs.Tryz.prog g #[chV x, chV y] w fun v w' => v = iV (cmp x y) ∧ Ext w w') :
    Ret Go.Proofs.Tryz.prog 58 #[.slice p n c, chV x, .func (.func g) #[] #[]] w fun v w' => v = .tuple #[iV (posL cmp l x : Nat), .bool (hitL cmp l x)] ∧ Ext w w' := by
  refine enter Go.Proofs.Tryz.func58 rfl rfl rfl ?_
  have mono : ∀ p q (h1 : p < l.length) (h2 : q < l.length), p ≤ q → p = q ∨ 0 ≤ cmp l[q] l[p] := fun p q h1 h2 h => by
    by_cases e : p = q
    · exact .inl e
    · exact .inr (List.pairwise_iff_getElem.1 hs p q h1 h2 (by omega))
  have tgt : ∀ w', Ext (w.alloc (.cells (chV x).cells 50)) w' → Row w' ⟨w.heap.size, 0, none⟩ (chC x) := fun w' h => Ext.row h bcr
  refine W_sr rfl (s_bx rfl (s_as rfl (s_as rfl (s_nil ?_))))
  refine W_sr rfl (s_mv rfl (s_len E rfl rfl (s_as rfl (s_nil ?_))))
  refine W_sr rfl (s_mv rfl (s_as rfl (s_as rfl (s_nil ?_))))
  refine W_seq ?_
  refine W_block ?_
  refine W_loop (fun q ρ w' => ∃ ρ' i j, ρ = upd (upd (upd (upd (upd (upd ρ' 0 (.slice p n c)) 2 (.func (.func g) #[] #[])) 4 (.pointer (some ⟨w.heap.size, 0, none⟩))) 8 (iV n)) 9 (iV (i : Nat))) 10 (iV (j : Nat)) ∧ i ≤ j ∧ j ≤ n ∧ q = j - i ∧ Ext (w.alloc (.cells (chV x).cells 50)) w' ∧
      (∀ p (h : p < l.length), p < i → cmp l[p] x < 0) ∧ ∀ p (h : p < l.length), j ≤ p → 0 ≤ cmp l[p] x) n
    ⟨_, 0, n, u6 rfl rfl rfl rfl rfl rfl, by omega, by omega, by omega, Mod.refl, fun p _ h => by omega, fun p _ h => by omega⟩ ?_
  rintro q _ w1 ⟨ρ, i, j, rfl, hij, hjn, rfl, hE, hlo, hhi⟩
  refine W_seq ?_
  refine W_sr rfl (s_mv rfl (s_mv rfl (s_lss rfl rfl (s_nil ?_))))
  refine W_if rfl (fun hd => W_skip ?_) (fun hd => W_exit ?_)
  · have hd := of_decide_eq_true hd
    refine W_block ?_
    obtain ⟨h, hh0⟩ : ∃ h, h = (i + j) / 2 := ⟨_, rfl⟩
    have hhl : h < l.length := by omega
    obtain ⟨a, rfl, hrow⟩ := hp.some (by intro h0; have := flat_length chC 4 chC_len l; rw [h0] at this; simp at this; omega)
    refine W_sr rfl (s_mv rfl (s_mv rfl (s_add rfl rfl (by omega) (s_cvx E rfl rfl rfl (wrapu_in (by omega) (by omega)) (s_half rfl rfl rfl (show ((i : Int) + j) / 2 = (h : Int) by omega) (s_cvx E rfl rfl rfl (wrap64_in (by omega) (by omega)) (s_as rfl (s_nil ?_))))))))
    refine W_qr (Ext (w.alloc (.cells (chV x).cells 50))) orders rfl (by kernel_rfl) (Mod.drew hE) (q_mv rfl (q_mv rfl (q_mv rfl (q_ia E rfl rfl rfl rfl (by omega) (q_lda E rfl rfl (fun w' hE => Ext.row (e1.trans hE) (hrow.at chC_len hhl)) rfl (q_lda E rfl rfl tgt rfl (q_call rfl rfl (hg l[h] x w).1 (fun w' hw' => (hg _ _ w').mono fun v w'' h => ⟨h.1, hw'.trans h.2⟩) (q_lss rfl rfl (q_nil ?_)))))))))
    intro w2 hE2
    refine W_if rfl (fun he => ?_) (fun he => ?_)
    · have he := of_decide_eq_true he
      refine W_reg rfl (s_mv rfl (s_add rfl rfl (by omega) (s_as rfl (s_nil ?_))))
      refine ⟨j - (h + 1), by omega, _, h + 1, j, u6 rfl rfl rfl rfl rfl rfl, by omega, hjn, rfl, hE2, fun p hp h2 => ?_, hhi⟩
      rcases mono p h hp hhl (by omega) with e | e
      · subst e; exact he
      · by_cases hx : cmp l[p] x < 0
        · exact hx
        · exact absurd (ho.tr x l[p] l[h] (by omega) e) (by omega)
    · have he := of_decide_eq_false he
      refine W_reg rfl (s_mv rfl (s_as rfl (s_nil ?_)))
      refine ⟨h - i, by omega, _, i, h, u6 rfl rfl rfl rfl rfl rfl, by omega, by omega, rfl, hE2, hlo, fun p hp h2 => ?_⟩
      rcases mono h p hhl hp (by omega) with e | e
      · subst e; omega
      · exact ho.tr _ _ _ (by omega) e
  · have hd := of_decide_eq_false hd
    have hij : j = i := by omega
    subst hij
    have hpos := posL_eq (cmp := cmp) (l := l) (x := x) (by omega) hlo hhi
    by_cases h0 : (j : Int) < n
    · have hjl : j < l.length := by omega
      obtain ⟨a, rfl, hrow⟩ := hp.some (by intro h0; have := flat_length chC 4 chC_len l; rw [h0] at this; simp at this; omega)
      refine W_qr (Ext (w.alloc (.cells (chV x).cells 50))) orders rfl (by kernel_rfl) (Mod.drew hE) (q_mv rfl (q_mv rfl (q_mv rfl (q_cmp (c := true) rfl rfl (decide_eq_true h0) (q_mv rfl (q_g1 rfl (q_mv rfl (q_g1 rfl (q_mv rfl (q_g1 rfl (q_mv rfl (q_g1 rfl (q_ia E rfl rfl rfl rfl (by omega) (q_g1 rfl (q_lda E rfl rfl (fun w' hE => Ext.row (e1.trans hE) (hrow.at chC_len hjl)) rfl (q_g1 rfl (q_lda E rfl rfl tgt rfl (q_g1 rfl (q_call rfl rfl (hg l[j] x w).1 (fun w' hw' => (hg _ _ w').mono fun v w'' h => ⟨h.1, hw'.trans h.2⟩) (q_g1 rfl (q_eql rfl rfl (q_pk rfl (q_as rfl (q_as rfl (q_nil ?_)))))))))))))))))))))))))
      intro w2 hE2
      refine W_ret ⟨_, rfl, ?_, e1.trans hE2⟩
      unfold hitL
      rw [hpos, List.getElem?_eq_getElem hjl]
      rfl
    · refine W_qr (Ext (w.alloc (.cells (chV x).cells 50))) orders rfl (by kernel_rfl) (Mod.drew hE) (q_mv rfl (q_mv rfl (q_mv rfl (q_cmp (c := false) rfl rfl (decide_eq_false h0) (q_mv rfl (q_g0 rfl (q_g0 rfl (q_g0 rfl (q_g0 rfl (q_g0 rfl (q_g0 rfl (q_g0 rfl (q_g0 rfl (q_pk rfl (q_as rfl (q_as rfl (q_nil ?_)))))))))))))))))
      intro w2 hE2
      refine W_ret ⟨_, rfl, ?_, e1.trans hE2⟩
      unfold hitL
      rw [hpos, List.getElem?_eq_none (by omega)]
      rfl
theorem metric_twice_LigRule_c {p : Option Addr} {n c : Nat} {l : List Ru} {g : FuncId} {cmp : Ru → Ru → Int} {w : World} (hn : n = l.length) (hm : n ≤ 1000000) (hp : SlR w p (l.flatMap ruC))
    (hg : ∀ x y w, Ret Go.Proofs.Tryz.prog g #[ruV x, ruV y] w fun v w' => v = iV (cmp x y) ∧ Ext w w') :
    Ret Go.Proofs.Tryz.prog 54 #[.slice p n c, .func (.func g) #[] #[]] w fun v w' => v = .bool (twiceB cmp l) ∧ Ext w w' := by
  refine enter Go.Proofs.Tryz.func54 rfl rfl rfl ?_
  refine W_sr rfl (s_as rfl (s_nil ?_))
  refine W_seq ?_
  refine W_sr rfl (s_as rfl (s_nil ?_))
  refine W_block ?_
  refine W_loop (fun m ρ w' => ∃ ρ' i, ρ = upd (upd (upd ρ' 0 (.slice p n c)) 1 (.func (.func g) #[] #[])) 5 (iV (i : Nat)) ∧ 1 ≤ i ∧ (1 ≤ n → i ≤ n) ∧ m = n - i ∧ Ext w w' ∧ ∀ j (h : j + 1 < l.length), j + 1 < i → cmp l[j] l[j+1] ≠ 0) (n - 1)
    ⟨_, 1, u3 rfl rfl rfl, by omega, by omega, rfl, Mod.refl, fun j _ hj => by omega⟩ ?_
  rintro m _ w1 ⟨ρ, i, rfl, hi1, hin, rfl, hE1, hlt⟩
  refine W_seq ?_
  refine W_sr rfl (s_mv rfl (s_mv rfl (s_len E rfl rfl (s_lss rfl rfl (s_nil ?_)))))
  refine W_if rfl (fun hc => W_skip ?_) (fun hc => W_exit ?_)
  · have hc := of_decide_eq_true hc
    have hil : i < l.length := by omega
    obtain ⟨a, rfl, hrow⟩ := hp.some (by intro h0; have := flat_length ruC 4 ruC_len l; rw [h0] at this; simp at this; omega)
    refine W_seq (W_block ?_)
    have hr1 : ∀ w', Ext w w' → Row w' (a.add ((i - 1) * 4)) (ruC l[i - 1]) := fun w' h => Ext.row h (hrow.at ruC_len (by omega))
    have hr2 : ∀ w', Ext w w' → Row w' (a.add (i * 4)) (ruC l[i]) := fun w' h => Ext.row h (hrow.at ruC_len hil)
    refine W_qr (Ext w) orders rfl (by kernel_rfl) (Mod.drew hE1) (q_mv rfl (q_mv rfl (q_mv rfl (q_sub rfl rfl (by omega) (q_ia E rfl rfl rfl (show (i : Int) - 1 = ((i - 1 : Nat) : Int) by omega) (by omega) (q_lda E rfl rfl hr1 rfl (q_mv rfl (q_mv rfl (q_ia E rfl rfl rfl rfl (by omega) (q_lda E rfl rfl hr2 rfl (q_call rfl rfl (hg l[i] l[i] w).1 (fun w' hw' => (hg _ _ w').mono fun v w'' h => ⟨h.1, hw'.trans h.2⟩) (q_eql rfl rfl (q_nil ?_)))))))))))))
    intro w2 hE2
    refine W_if rfl (fun hd => ?_) (fun hd => W_skip ?_)
    · have hd := of_decide_eq_true hd
      refine W_sr rfl (s_as rfl (s_nil ?_))
      refine W_ret ⟨_, rfl, ?_, hE2⟩
      rw [(twiceB_iff cmp l).2 ⟨i - 1, by omega, by simp only [show i - 1 + 1 = i by omega]; exact hd⟩]; rfl
    · have hd := of_decide_eq_false hd
      refine W_reg rfl (s_mv rfl (s_add rfl rfl (by omega) (s_as rfl (s_nil ?_))))
      refine ⟨n - (i + 1), by omega, _, i + 1, u3 rfl rfl rfl, by omega, by omega, rfl, hE2, ?_⟩
      intro j h hj
      by_cases e : j + 1 = i
      · subst e; simp only [Nat.add_sub_cancel] at hd; exact hd
      · exact hlt j h (by omega)
  · have hc := of_decide_eq_false hc
    refine W_sr rfl (s_as rfl (s_nil ?_))
    refine W_ret ⟨_, rfl, ?_, hE1⟩
    have : twiceB cmp l = false := by
      rw [Bool.eq_false_iff]; intro h
      obtain ⟨i, h, k⟩ := (twiceB_iff cmp l).1 h
      exact hlt i h (by omega) k
    rw [this]; rfl
theorem slices_BinarySearchFunc_LigRule_c {p : Option Addr} {n c : Nat} {l : List Ru} {x : Ru} {g : FuncId} {cmp : Ru → Ru → Int} {w : World} (ho : Ordr cmp) (hs : SrtL cmp l) (hn : n = l.length) (hm : n ≤ 1000000) (hp : SlR w p (l.flatMap ruC))
    (hg : ∀ x y w, Ret Go.Proofs.Tryz.prog g #[ruV x, ruV y] w fun v w' => v = iV (cmp x y) ∧ Ext w w') :
    Ret Go.Proofs.Tryz.prog 95 #[.slice p n c, ruV x, .func (.func g) #[] #[]] w fun v w' => v = .tuple #[iV (posL cmp l x : Nat), .bool (hitL cmp l x)] ∧ Ext w w' := by
  refine enter Go.Proofs.Tryz.func95 rfl rfl rfl ?_
  have mono : ∀ p q (h1 : p < l.length) (h2 : q < l.length), p ≤ q → p = q ∨ 0 ≤ cmp l[q] l[p] := fun p q h1 h2 h => by
    by_cases e : p = q
    · exact .inl e
    · exact .inr (List.pairwise_iff_getElem.1 hs p q h1 h2 (by omega))
  have tgt : ∀ w', Ext (w.alloc (.cells (ruV x).cells 45)) w' → Row w' ⟨w.heap.size, 0, none⟩ (ruC x) := fun w' h => Ext.row h bcr
  refine W_sr rfl (s_bx rfl (s_as rfl (s_as rfl (s_nil ?_))))
  refine W_sr rfl (s_mv rfl (s_len E rfl rfl (s_as rfl (s_nil ?_))))
  refine W_sr rfl (s_mv rfl (s_as rfl (s_as rfl (s_nil ?_))))
  refine W_seq ?_
  refine W_block ?_
  refine W_loop (fun q ρ w' => ∃ ρ' i j, ρ = upd (upd (upd (upd (upd (upd ρ' 0 (.slice p n c)) 2 (.func (.func g) #[] #[])) 4 (.pointer (some ⟨w.heap.size, 0, none⟩))) 8 (iV n)) 9 (iV (i : Nat))) 10 (iV (j : Nat)) ∧ i ≤ j ∧ j ≤ n ∧ q = j - i ∧ Ext (w.alloc (.cells (ruV x).cells 45)) w' ∧
      (∀ p (h : p < l.length), p < i → cmp l[p] x < 0) ∧ ∀ p (h : p < l.length), j ≤ p → 0 ≤ cmp l[p] x) n
    ⟨_, 0, n, u6 rfl rfl rfl rfl rfl rfl, by omega, by omega, by omega, Mod.refl, fun p _ h => by omega, fun p _ h => by omega⟩ ?_
  rintro q _ w1 ⟨ρ, i, j, rfl, hij, hjn, rfl, hE, hlo, hhi⟩
  refine W_seq ?_
  refine W_sr rfl (s_mv rfl (s_mv rfl (s_lss rfl rfl (s_nil ?_))))
  refine W_if rfl (fun hd => W_skip ?_) (fun hd => W_exit ?_)
  · have hd := of_decide_eq_true hd
    refine W_block ?_
    obtain ⟨h, hh0⟩ : ∃ h, h = (i + j) / 2 := ⟨_, rfl⟩
    have hhl : h < l.length := by omega
    obtain ⟨a, rfl, hrow⟩ := hp.some (by intro h0; have := flat_length ruC 4 ruC_len l; rw [h0] at this; simp at this; omega)
    refine W_sr rfl (s_mv rfl (s_mv rfl (s_add rfl rfl (by omega) (s_cvx E rfl rfl rfl (wrapu_in (by omega) (by omega)) (s_half rfl rfl rfl (show ((i : Int) + j) / 2 = (h : Int) by omega) (s_cvx E rfl rfl rfl (wrap64_in (by omega) (by omega)) (s_as rfl (s_nil ?_))))))))
    refine W_qr (Ext (w.alloc (.cells (ruV x).cells 45))) orders rfl (by kernel_rfl) (Mod.drew hE) (q_mv rfl (q_mv rfl (q_mv rfl (q_ia E rfl rfl rfl rfl (by omega) (q_lda E rfl rfl (fun w' hE => Ext.row (e1.trans hE) (hrow.at ruC_len hhl)) rfl (q_lda E rfl rfl tgt rfl (q_call rfl rfl (hg l[h] x w).1 (fun w' hw' => (hg _ _ w').mono fun v w'' h => ⟨h.1, hw'.trans h.2⟩) (q_lss rfl rfl (q_nil ?_)))))))))
    intro w2 hE2
    refine W_if rfl (fun he => ?_) (fun he => ?_)
    · have he := of_decide_eq_true he
      refine W_reg rfl (s_mv rfl (s_add rfl rfl (by omega) (s_as rfl (s_nil ?_))))
      refine ⟨j - (h + 1), by omega, _, h + 1, j, u6 rfl rfl rfl rfl rfl rfl, by omega, hjn, rfl, hE2, fun p hp h2 => ?_, hhi⟩
      rcases mono p h hp hhl (by omega) with e | e
      · subst e; exact he
      · by_cases hx : cmp l[p] x < 0
        · exact hx
        · exact absurd (ho.tr x l[p] l[h] (by omega) e) (by omega)
    · have he := of_decide_eq_false he
      refine W_reg rfl (s_mv rfl (s_as rfl (s_nil ?_)))
      refine ⟨h - i, by omega, _, i, h, u6 rfl rfl rfl rfl rfl rfl, by omega, by omega, rfl, hE2, hlo, fun p hp h2 => ?_⟩
      rcases mono h p hhl hp (by omega) with e | e
      · subst e; omega
      · exact ho.tr _ _ _ (by omega) e
  · have hd := of_decide_eq_false hd
    have hij : j = i := by omega
    subst hij
    have hpos := posL_eq (cmp := cmp) (l := l) (x := x) (by omega) hlo hhi
    by_cases h0 : (j : Int) < n
    · have hjl : j < l.length := by omega
      obtain ⟨a, rfl, hrow⟩ := hp.some (by intro h0; have := flat_length ruC 4 ruC_len l; rw [h0] at this; simp at this; omega)
      refine W_qr (Ext (w.alloc (.cells (ruV x).cells 45))) orders rfl (by kernel_rfl) (Mod.drew hE) (q_mv rfl (q_mv rfl (q_mv rfl (q_cmp (c := true) rfl rfl (decide_eq_true h0) (q_mv rfl (q_g1 rfl (q_mv rfl (q_g1 rfl (q_mv rfl (q_g1 rfl (q_mv rfl (q_g1 rfl (q_ia E rfl rfl rfl rfl (by omega) (q_g1 rfl (q_lda E rfl rfl (fun w' hE => Ext.row (e1.trans hE) (hrow.at ruC_len hjl)) rfl (q_g1 rfl (q_lda E rfl rfl tgt rfl (q_g1 rfl (q_call rfl rfl (hg l[j] x w).1 (fun w' hw' => (hg _ _ w').mono fun v w'' h => ⟨h.1, hw'.trans h.2⟩) (q_g1 rfl (q_eql rfl rfl (q_pk rfl (q_as rfl (q_as rfl (q_nil ?_)))))))))))))))))))))))))
      intro w2 hE2
      refine W_ret ⟨_, rfl, ?_, e1.trans hE2⟩
      unfold hitL
      rw [hpos, List.getElem?_eq_getElem hjl]
      rfl
    · refine W_qr (Ext (w.alloc (.cells (ruV x).cells 45))) orders rfl (by kernel_rfl) (Mod.drew hE) (q_mv rfl (q_mv rfl (q_mv rfl (q_cmp (c := false) rfl rfl (decide_eq_false h0) (q_mv rfl (q_g0 rfl (q_g0 rfl (q_g0 rfl (q_g0 rfl (q_g0 rfl (q_g0 rfl (q_g0 rfl (q_g0 rfl (q_pk rfl (q_as rfl (q_as rfl (q_nil ?_)))))))))))))))))
      intro w2 hE2
      refine W_ret ⟨_, rfl, ?_, e1.trans hE2⟩
      unfold hitL
      rw [hpos, List.getElem?_eq_none (by omega)]
      rfl
end
end Go.Proofs.YthfnijlgmjkedaaGreat

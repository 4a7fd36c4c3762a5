/- fleuronlaw27.MetricFiles returns true for every metric, and the metric reads behind the call as it read before; conditions: none beside the given row's own. Part 4 of 9 of the proof. -/
import Derived.Test.YthfnijlgmjkedaaGreatJCFiles3
namespace Go.Proofs.YthfnijlgmjkedaaGreat
set_option maxRecDepth 100000
set_option maxHeartbeats 2000000
set_option linter.unusedVariables false
set_option linter.unusedSimpArgs false
open Go Go.Fx Go.Proofs.YthfnijlgmjkedaaGreat.Tab
section
variable {g n c : Nat}
theorem half_val {i j : Nat} (h : i + j ≤ 4000000) : IntKind.i64.wrap (((i + j) / 2 : Nat) : Int) = (((i + j) / 2 : Nat) : Int) := wrap64_in (by omega) (by omega)
theorem slices_symMerge_CharMetric_c {gc : FuncId} {cmp : Ch → Ch → Int} (ho : Ordr cmp) (hg : ∀ x y w, Ret Go.Proofs.Tryz.prog gc #[chV x, chV y] w fun v w' => v = iV (cmp x y) ∧ Ext w w') (hn : n ≤ 1000000) : ∀ (k : Nat) {w : World} {f : Nat → Ch} {a m b : Nat},
    b - a ≤ k → a < m → m < b → b ≤ n → ArrR chC w g n f → Srt cmp f a m → Srt cmp f m b →
    Ret Go.Proofs.Tryz.prog 111 #[.slice (some ⟨g, 0, none⟩) n c, iV a, iV m, iV b, .func (.func gc) #[] #[]] w fun v w' => v = .tuple #[] ∧ ∃ f', ArrR chC w' g n f' ∧ Pm a b f f' ∧ Srt cmp f' a b ∧ Mod (fun k => k = g) w w' := by
  intro k
  induction k with
  | zero => intro w f a m b h1 h2 h3; omega
  | succ k ih =>
  intro w f a m b hk ham hmb hb hA hL hR
  refine enter Go.Proofs.Tryz.func111 rfl rfl rfl ?_
  refine W_seq ?_
  refine W_sr rfl (s_mv rfl (s_mv rfl (s_sub rfl rfl (by omega) (s_eql rfl rfl (s_nil ?_)))))
  refine W_if rfl (fun hc1 => ?_) (fun hc1 => W_skip ?_)
  · -- the first one alone
    have hc1 : m = a + 1 := by have := of_decide_eq_true hc1; omega
    subst hc1
    obtain ⟨cs, ty, hh, hsz, hc⟩ := id hA
    refine W_sr rfl (s_mv rfl (s_as rfl (s_nil ?_)))
    refine W_sr rfl (s_mv rfl (s_as rfl (s_nil ?_)))
    refine W_seq ?_
    refine W_block ?_
    refine W_loop (fun q ρ w' => ∃ ρ' i j, ρ = upd (upd (upd (upd (upd (upd (upd ρ' 0 (.slice (some ⟨g, 0, none⟩) n c)) 1 (iV a)) 2 (iV ((a + 1 : Nat) : Int))) 3 (iV b)) 4 (.func (.func gc) #[] #[])) 10 (iV (i : Nat))) 11 (iV (j : Nat)) ∧ a + 1 ≤ i ∧ i ≤ j ∧ j ≤ b ∧ q = j - i ∧ Ext w w' ∧ (∀ p, a + 1 ≤ p → p < i → cmp (f p) (f a) < 0) ∧ ∀ p, j ≤ p → p < b → 0 ≤ cmp (f p) (f a)) (b - (a + 1))
      ⟨_, a + 1, b, u7 rfl rfl rfl rfl rfl rfl rfl, by omega, by omega, by omega, rfl, Mod.refl, fun p _ _ => by omega, fun p _ _ => by omega⟩ ?_
    rintro q _ w1 ⟨ρ, i, j, rfl, hi, hij, hj, rfl, hE, hlo, hhi⟩
    refine W_seq ?_
    refine W_sr rfl (s_mv rfl (s_mv rfl (s_lss rfl rfl (s_nil ?_))))
    refine W_if rfl (fun hd => W_skip ?_) (fun hd => W_exit ?_)
    · have hd := of_decide_eq_true hd
      have hij : i < j := by omega
      refine W_block ?_
      refine W_sr rfl (s_mv rfl (s_mv rfl (s_add rfl rfl (by omega) (s_cvx E rfl rfl rfl (wrapu_in (by omega) (by omega)) (s_half rfl rfl rfl (show ((i : Int) + j) / 2 = (((i + j) / 2 : Nat) : Int) by omega) (s_cvx E rfl rfl rfl (half_val (by omega)) (s_as rfl (s_nil ?_))))))))
      have hh1 := Ext.heap hE hh
      refine W_qr (Ext w1) orders rfl (by kernel_rfl) (Ext.drew0) (q_mv rfl (q_mv rfl (q_mv rfl (q_ia E rfl rfl rfl rfl (by omega) (q_lda E rfl rfl (fun w' hE => cell_row hh1 hc (show (i + j) / 2 < n by omega) hE) rfl (q_mv rfl (q_mv rfl (q_ia E rfl rfl rfl rfl (by omega) (q_lda E rfl rfl (fun w' hE => cell_row hh1 hc (show a < n by omega) hE) rfl (q_call rfl rfl (hg (f ((i + j) / 2)) (f a) w).1 (fun w' hw' => (hg _ _ w').mono fun v w'' h => ⟨h.1, hw'.trans h.2⟩) (q_lss rfl rfl (q_nil ?_))))))))))))
      intro w2 hE2
      have mono : ∀ p q, a + 1 ≤ p → p ≤ q → q < b → p = q ∨ 0 ≤ cmp (f q) (f p) := fun p q h1 h2 h3 => by
        by_cases h : p = q
        · exact .inl h
        · exact .inr (hR p q h1 (by omega) h3)
      refine W_if rfl (fun he => ?_) (fun he => ?_)
      · have he := of_decide_eq_true he
        refine W_reg rfl (s_mv rfl (s_add rfl rfl (by omega) (s_as rfl (s_nil ?_))))
        refine ⟨j - ((i + j) / 2 + 1), by omega, _, (i + j) / 2 + 1, j, u7 rfl rfl rfl rfl rfl rfl rfl, by omega, by omega, hj, rfl, hE.trans hE2, fun p h1 h2 => ?_, hhi⟩
        rcases mono p ((i + j) / 2) h1 (by omega) (by omega) with h | h
        · rw [h]; exact he
        · by_cases hx : cmp (f p) (f a) < 0
          · exact hx
          · exact absurd (ho.tr (f a) (f p) (f ((i + j) / 2)) (by omega) h) (by omega)
      · have he := of_decide_eq_false he
        refine W_reg rfl (s_mv rfl (s_as rfl (s_nil ?_)))
        refine ⟨(i + j) / 2 - i, by omega, _, i, (i + j) / 2, u7 rfl rfl rfl rfl rfl rfl rfl, hi, by omega, by omega, rfl, hE.trans hE2, hlo, fun p h1 h2 => ?_⟩
        rcases mono ((i + j) / 2) p (by omega) h1 (by omega) with h | h
        · rw [← h]; omega
        · exact ho.tr _ _ _ (by omega) h
    · have hd := of_decide_eq_false hd
      have hij : j = i := by omega
      subst hij
      have fin := up_srt ho hR hi hj hlo hhi
      refine W_seq ?_
      refine W_sr rfl (s_mv rfl (s_as rfl (s_nil ?_)))
      refine W_block ?_
      refine W_loop (fun q ρ w' => ∃ ρ' t, ρ = upd (upd (upd ρ' 0 (.slice (some ⟨g, 0, none⟩) n c)) 10 (iV (j : Nat))) 13 (iV (t : Nat)) ∧ a ≤ t ∧ t ≤ j - 1 ∧ q = j - t ∧ ArrR chC w' g n (upF f a t) ∧ Mod (fun k => k = g) w w') (j - a)
        ⟨_, a, u3 rfl rfl rfl, by omega, by omega, rfl, by rw [upF_zero]; exact ⟨cs, ty, Ext.heap hE hh, hsz, hc⟩, Mod.of_ext hE⟩ ?_
      clear hA hh hsz hc
      rintro q _ w2 ⟨ρ, t, rfl, hat, htj, rfl, ⟨cs, ty, hh, hsz, hc⟩, hM⟩
      refine W_seq ?_
      refine W_sr rfl (s_mv rfl (s_mv rfl (s_sub rfl rfl (by omega) (s_lss rfl rfl (s_nil ?_)))))
      refine W_if rfl (fun he => W_skip ?_) (fun he => W_exit ?_)
      · have he := of_decide_eq_true he
        have h1 : t < n := by omega
        have h2 : t + 1 < n := by omega
        have set1 := arr_set chC_len hsz hc h1 (upF f a t (t + 1))
        have set2 := arr_set chC_len set1.1 set1.2 h2 (upF f a t t)
        refine W_seq (W_block ?_)
        refine W_d (fun w' => w'.heap[g]? = some (.cells cs ty (0, 0))) [15, 16, 17] orders (D_pure 0 rfl rfl (by kernel_rfl) rfl (fun _ => r_mv rfl) (fun _ => hh) (D_pure 1 rfl rfl (by kernel_rfl) rfl (fun _ => r_mv rfl) (fun _ => hh) (D_pure 2 rfl rfl (by kernel_rfl) rfl (fun _ => r_mv rfl) (fun _ => hh) (D_pure 3 rfl rfl (by kernel_rfl) rfl (fun _ => r_mv rfl) (fun _ => hh) (D_pure 4 rfl rfl (by kernel_rfl) rfl (fun _ => r_add rfl rfl (by omega)) (fun _ => hh) (D_pure 5 rfl rfl (by kernel_rfl) rfl (fun _ => r_mv rfl) (fun _ => hh) (D_pure 6 rfl rfl (by kernel_rfl) rfl (fun _ => r_mv rfl) (fun _ => hh) (D_pure 7 rfl rfl (by kernel_rfl) rfl (fun _ => r_add rfl rfl (by omega)) (fun _ => hh) (D_pure 8 rfl rfl (by kernel_rfl) rfl (fun _ => r_ia E rfl rfl rfl (show (t : Int) + 1 = ((t + 1 : Nat) : Int) by omega) h2) (fun _ => hh) (D_take 9 rfl rfl (by kernel_rfl) rfl (fun _ hs => r_lda E rfl rfl (arr_row hs hc h2) rfl) hh (D_pure 10 rfl rfl (by kernel_rfl) rfl (fun _ => r_mv rfl) (fun _ => hh) (D_pure 11 rfl rfl (by kernel_rfl) rfl (fun _ => r_mv rfl) (fun _ => hh) (D_pure 12 rfl rfl (by kernel_rfl) rfl (fun _ => r_ia E rfl rfl rfl rfl h1) (fun _ => hh) (D_take 13 rfl rfl (by kernel_rfl) rfl (fun _ hs => r_lda E rfl rfl (arr_row hs hc h1) rfl) hh (D_pure 14 rfl rfl (by kernel_rfl) rfl (fun _ => r_ia E rfl rfl rfl rfl h1) (fun _ => hh) (D_oneM 15 rfl (by kernel_rfl) rfl (by kernel_rfl) (s_st E (vs := chC (upF f a t (t + 1))) rfl rfl (ad0 g _) rfl hh rfl rfl rfl (by rw [chC_len]; omega) (s_nil (D_oneM 16 rfl (by kernel_rfl) rfl (by kernel_rfl) (s_ia E rfl rfl rfl (show (t : Int) + 1 = ((t + 1 : Nat) : Int) by omega) h2 (s_nil (D_oneM 17 rfl (by kernel_rfl) rfl (by kernel_rfl) (s_st E (vs := chC (upF f a t t)) rfl rfl (ad0 g _) rfl (setRow_heap _ _ _ _ ty (0, 0) hh) rfl rfl rfl (by have := set1.1; rw [chC_len]; omega) (s_nil (D_done (by kernel_rfl) ?_)))))))))))))))))))))))))
        refine W_reg rfl (s_mv rfl (s_add rfl rfl (by omega) (s_as rfl (s_nil ?_))))
        refine ⟨j - (t + 1), by omega, _, t + 1, u3 rfl rfl rfl, by omega, by omega, rfl, ⟨_, ty, setRow_heap _ _ _ _ ty (0, 0) (setRow_heap _ _ _ _ ty (0, 0) hh), set2.1, ?_⟩, hM.trans ((Mod.of_ext Ext.drew0).trans mod_two)⟩
        rw [upF_succ hat, ← sw_upd]
        exact set2.2
      · have he := of_decide_eq_false he
        have : t = j - 1 := by omega
        subst this
        exact W_ret ⟨_, rfl, rfl, _, ⟨cs, ty, hh, hsz, hc⟩, upF_pm (by omega) (by omega), fin, hM⟩
  have hc1 : m ≠ a + 1 := by have := of_decide_eq_false hc1; omega
  refine W_seq ?_
  refine W_sr rfl (s_mv rfl (s_mv rfl (s_sub rfl rfl (by omega) (s_eql rfl rfl (s_nil ?_)))))
  refine W_if rfl (fun hc2 => ?_) (fun hc2 => W_skip ?_)
  · -- the last one alone
    have hc2 : b = m + 1 := by have := of_decide_eq_true hc2; omega
    subst hc2
    obtain ⟨cs, ty, hh, hsz, hc⟩ := id hA
    refine W_sr rfl (s_mv rfl (s_as rfl (s_nil ?_)))
    refine W_sr rfl (s_mv rfl (s_as rfl (s_nil ?_)))
    refine W_seq ?_
    refine W_block ?_
    refine W_loop (fun q ρ w' => ∃ ρ' i j, ρ = upd (upd (upd (upd (upd (upd ρ' 0 (.slice (some ⟨g, 0, none⟩) n c)) 1 (iV a)) 2 (iV m)) 4 (.func (.func gc) #[] #[])) 14 (iV (i : Nat))) 15 (iV (j : Nat)) ∧ a ≤ i ∧ i ≤ j ∧ j ≤ m ∧ q = j - i ∧ Ext w w' ∧ (∀ p, a ≤ p → p < i → 0 ≤ cmp (f m) (f p)) ∧ ∀ p, j ≤ p → p < m → cmp (f m) (f p) < 0) (m - a)
      ⟨_, a, m, u6 rfl rfl rfl rfl rfl rfl, by omega, by omega, by omega, rfl, Mod.refl, fun p _ _ => by omega, fun p _ _ => by omega⟩ ?_
    rintro q _ w1 ⟨ρ, i, j, rfl, hi, hij, hj, rfl, hE, hlo, hhi⟩
    refine W_seq ?_
    refine W_sr rfl (s_mv rfl (s_mv rfl (s_lss rfl rfl (s_nil ?_))))
    refine W_if rfl (fun hd => W_skip ?_) (fun hd => W_exit ?_)
    · have hd := of_decide_eq_true hd
      have hij : i < j := by omega
      refine W_block ?_
      refine W_sr rfl (s_mv rfl (s_mv rfl (s_add rfl rfl (by omega) (s_cvx E rfl rfl rfl (wrapu_in (by omega) (by omega)) (s_half rfl rfl rfl (show ((i : Int) + j) / 2 = (((i + j) / 2 : Nat) : Int) by omega) (s_cvx E rfl rfl rfl (half_val (by omega)) (s_as rfl (s_nil ?_))))))))
      have hh1 := Ext.heap hE hh
      refine W_qr (Ext w1) orders rfl (by kernel_rfl) (Ext.drew0) (q_mv rfl (q_mv rfl (q_mv rfl (q_ia E rfl rfl rfl rfl (by omega) (q_lda E rfl rfl (fun w' hE => cell_row hh1 hc (show m < n by omega) hE) rfl (q_mv rfl (q_mv rfl (q_ia E rfl rfl rfl rfl (by omega) (q_lda E rfl rfl (fun w' hE => cell_row hh1 hc (show (i + j) / 2 < n by omega) hE) rfl (q_call rfl rfl (hg (f m) (f ((i + j) / 2)) w).1 (fun w' hw' => (hg _ _ w').mono fun v w'' h => ⟨h.1, hw'.trans h.2⟩) (q_lss rfl rfl (q_not rfl (q_nil ?_)))))))))))))
      intro w2 hE2
      have mono : ∀ p q, a ≤ p → p ≤ q → q < m → p = q ∨ 0 ≤ cmp (f q) (f p) := fun p q h1 h2 h3 => by
        by_cases h : p = q
        · exact .inl h
        · exact .inr (hL p q h1 (by omega) h3)
      refine W_if rfl (fun he => ?_) (fun he => ?_)
      · have he : 0 ≤ cmp (f m) (f ((i + j) / 2)) := by simpa using he
        refine W_reg rfl (s_mv rfl (s_add rfl rfl (by omega) (s_as rfl (s_nil ?_))))
        refine ⟨j - ((i + j) / 2 + 1), by omega, _, (i + j) / 2 + 1, j, u6 rfl rfl rfl rfl rfl rfl, by omega, by omega, hj, rfl, hE.trans hE2, fun p h1 h2 => ?_, hhi⟩
        rcases mono p ((i + j) / 2) h1 (by omega) (by omega) with h | h
        · rw [h]; exact he
        · exact ho.tr _ _ _ h he
      · have he : cmp (f m) (f ((i + j) / 2)) < 0 := by simpa using he
        refine W_reg rfl (s_mv rfl (s_as rfl (s_nil ?_)))
        refine ⟨(i + j) / 2 - i, by omega, _, i, (i + j) / 2, u6 rfl rfl rfl rfl rfl rfl, hi, by omega, by omega, rfl, hE.trans hE2, hlo, fun p h1 h2 => ?_⟩
        rcases mono ((i + j) / 2) p (by omega) h1 (by omega) with h | h
        · rw [← h]; exact he
        · by_cases hx : cmp (f m) (f p) < 0
          · exact hx
          · exact absurd (ho.tr (f ((i + j) / 2)) (f p) (f m) h (by omega)) (by omega)
    · have hd := of_decide_eq_false hd
      have hij : j = i := by omega
      subst hij
      have fin := dn_srt ho hL hi hj hlo hhi
      refine W_seq ?_
      refine W_sr rfl (s_mv rfl (s_as rfl (s_nil ?_)))
      refine W_block ?_
      refine W_loop (fun q ρ w' => ∃ ρ' t, ρ = upd (upd (upd ρ' 0 (.slice (some ⟨g, 0, none⟩) n c)) 14 (iV (j : Nat))) 17 (iV (t : Nat)) ∧ j ≤ t ∧ t ≤ m ∧ q = 0 + t ∧ ArrR chC w' g n (dnF f m t) ∧ Mod (fun k => k = g) w w') (0 + m)
        ⟨_, m, u3 rfl rfl rfl, by omega, by omega, rfl, by rw [dnF_zero]; exact ⟨cs, ty, Ext.heap hE hh, hsz, hc⟩, Mod.of_ext hE⟩ ?_
      clear hA hh hsz hc
      rintro q _ w2 ⟨ρ, t, rfl, hat, htj, rfl, ⟨cs, ty, hh, hsz, hc⟩, hM⟩
      refine W_seq ?_
      refine W_sr rfl (s_mv rfl (s_mv rfl (s_gtr rfl rfl (s_nil ?_))))
      refine W_if rfl (fun he => W_skip ?_) (fun he => W_exit ?_)
      · have he := of_decide_eq_true he
        obtain ⟨u, rfl⟩ : ∃ u, t = u + 1 := ⟨t - 1, by omega⟩
        have h1 : u + 1 < n := by omega
        have h2 : u < n := by omega
        have set1 := arr_set chC_len hsz hc h1 (dnF f m (u + 1) u)
        have set2 := arr_set chC_len set1.1 set1.2 h2 (dnF f m (u + 1) (u + 1))
        refine W_seq (W_block ?_)
        refine W_d (fun w' => w'.heap[g]? = some (.cells cs ty (0, 0))) [15, 16, 17] orders (D_pure 0 rfl rfl (by kernel_rfl) rfl (fun _ => r_mv rfl) (fun _ => hh) (D_pure 1 rfl rfl (by kernel_rfl) rfl (fun _ => r_mv rfl) (fun _ => hh) (D_pure 2 rfl rfl (by kernel_rfl) rfl (fun _ => r_mv rfl) (fun _ => hh) (D_pure 3 rfl rfl (by kernel_rfl) rfl (fun _ => r_mv rfl) (fun _ => hh) (D_pure 4 rfl rfl (by kernel_rfl) rfl (fun _ => r_sub rfl rfl (by omega)) (fun _ => hh) (D_pure 5 rfl rfl (by kernel_rfl) rfl (fun _ => r_mv rfl) (fun _ => hh) (D_pure 6 rfl rfl (by kernel_rfl) rfl (fun _ => r_mv rfl) (fun _ => hh) (D_pure 7 rfl rfl (by kernel_rfl) rfl (fun _ => r_sub rfl rfl (by omega)) (fun _ => hh) (D_pure 8 rfl rfl (by kernel_rfl) rfl (fun _ => r_ia E rfl rfl rfl (show ((u + 1 : Nat) : Int) - 1 = ((u : Nat) : Int) by omega) h2) (fun _ => hh) (D_take 9 rfl rfl (by kernel_rfl) rfl (fun _ hs => r_lda E rfl rfl (arr_row hs hc h2) rfl) hh (D_pure 10 rfl rfl (by kernel_rfl) rfl (fun _ => r_mv rfl) (fun _ => hh) (D_pure 11 rfl rfl (by kernel_rfl) rfl (fun _ => r_mv rfl) (fun _ => hh) (D_pure 12 rfl rfl (by kernel_rfl) rfl (fun _ => r_ia E rfl rfl rfl rfl h1) (fun _ => hh) (D_take 13 rfl rfl (by kernel_rfl) rfl (fun _ hs => r_lda E rfl rfl (arr_row hs hc h1) rfl) hh (D_pure 14 rfl rfl (by kernel_rfl) rfl (fun _ => r_ia E rfl rfl rfl rfl h1) (fun _ => hh) (D_oneM 15 rfl (by kernel_rfl) rfl (by kernel_rfl) (s_st E (vs := chC (dnF f m (u + 1) u)) rfl rfl (ad0 g _) rfl hh rfl rfl rfl (by rw [chC_len]; omega) (s_nil (D_oneM 16 rfl (by kernel_rfl) rfl (by kernel_rfl) (s_ia E rfl rfl rfl (show ((u + 1 : Nat) : Int) - 1 = ((u : Nat) : Int) by omega) h2 (s_nil (D_oneM 17 rfl (by kernel_rfl) rfl (by kernel_rfl) (s_st E (vs := chC (dnF f m (u + 1) (u + 1))) rfl rfl (ad0 g _) rfl (setRow_heap _ _ _ _ ty (0, 0) hh) rfl rfl rfl (by have := set1.1; rw [chC_len]; omega) (s_nil (D_done (by kernel_rfl) ?_)))))))))))))))))))))))))
        refine W_reg rfl (s_mv rfl (s_sub rfl rfl (by omega) (s_as rfl (s_nil ?_))))
        refine ⟨0 + u, by omega, _, u, u3 rfl rfl (congrArg iV (show ((u + 1 : Nat) : Int) - 1 = ((u : Nat) : Int) by omega)), by omega, by omega, rfl, ⟨_, ty, setRow_heap _ _ _ _ ty (0, 0) (setRow_heap _ _ _ _ ty (0, 0) hh), set2.1, ?_⟩, hM.trans ((Mod.of_ext Ext.drew0).trans mod_two)⟩
        rw [dnF_succ (by omega), ← sw_upd]
        exact set2.2
      · have he := of_decide_eq_false he
        have : t = j := by omega
        subst this
        exact W_ret ⟨_, rfl, rfl, _, ⟨cs, ty, hh, hsz, hc⟩, dnF_pm (by omega) (by omega), fin, hM⟩
  have hc2 : b ≠ m + 1 := by have := of_decide_eq_false hc2; omega
  obtain ⟨mid, hmid⟩ : ∃ mid, mid = (a + b) / 2 := ⟨_, rfl⟩
  refine W_sr rfl (s_mv rfl (s_mv rfl (s_add rfl rfl (by omega) (s_cvx E rfl rfl rfl (wrapu_in (by omega) (by omega)) (s_half rfl rfl rfl (show ((a : Int) + b) / 2 = (mid : Int) by omega) (s_cvx E rfl rfl rfl (wrap64_in (by omega) (by omega)) (s_as rfl (s_nil ?_))))))))
  refine W_sr rfl (s_mv rfl (s_mv rfl (s_add rfl rfl (by omega) (s_as rfl (s_nil ?_)))))
  refine W_sr rfl (s_as rfl (s_as rfl (s_nil ?_)))
  refine W_sk fun K hK => ?_
  refine W_sr rfl (s_mv rfl (s_mv rfl (s_gtr rfl rfl (s_nil ?_))))
  have H : ∀ (ρ : Fr) (s0 r0 : Nat), a ≤ s0 → s0 ≤ r0 → r0 ≤ mid → r0 ≤ m → mid + m ≤ s0 + b → (a < s0 → s0 + b = mid + m) → (r0 = mid ∨ r0 = m) → ρ 0 = .slice (some ⟨g, 0, none⟩) n c → ρ 1 = iV a → ρ 2 = iV m → ρ 3 = iV b → ρ 4 = .func (.func gc) #[] #[] → ρ 18 = iV mid → ρ 19 = iV ((mid : Int) + m) →
      ρ 20 = iV (s0 : Nat) → ρ 21 = iV (r0 : Nat) → K ρ w := by
    intro ρ s0 r0 p1 p2 p3 p4 p5 p6 p7 q0 q1 q2 q3 q4 q18 q19 q20 q21
    rw [u9 q0 q1 q2 q3 q4 q18 q19 q20 q21]
    refine hK _ _ ?_
    refine W_sr rfl (s_mv rfl (s_sub rfl rfl (by omega) (s_as rfl (s_nil ?_))))
    obtain ⟨cs, ty, hh, hsz, hc⟩ := id hA
    refine W_seq ?_
    refine W_block ?_
    refine W_loop (fun q ρ w' => ∃ ρ' s r, ρ = upd (upd (upd (upd (upd (upd (upd (upd (upd (upd ρ' 0 (.slice (some ⟨g, 0, none⟩) n c)) 1 (iV a)) 2 (iV m)) 3 (iV b)) 4 (.func (.func gc) #[] #[])) 18 (iV mid)) 19 (iV ((mid : Int) + m))) 20 (iV (s : Nat))) 21 (iV (r : Nat))) 22 (iV ((mid : Int) + m - 1)) ∧ s0 ≤ s ∧ s ≤ r ∧ r ≤ r0 ∧ q = r - s ∧ Ext w w' ∧
        (∀ p, s0 ≤ p → p < s → 0 ≤ cmp (f (mid + m - 1 - p)) (f p)) ∧ ∀ p, r ≤ p → p < r0 → cmp (f (mid + m - 1 - p)) (f p) < 0) (r0 - s0)
      ⟨_, s0, r0, u10 rfl rfl rfl rfl rfl rfl rfl rfl rfl rfl, by omega, by omega, by omega, rfl, Mod.refl, fun p _ _ => by omega, fun p _ _ => by omega⟩ ?_
    rintro q _ w1 ⟨ρ, s, r, rfl, hs0, hsr, hr0, rfl, hE, hlo, hhi⟩
    refine W_seq ?_
    refine W_sr rfl (s_mv rfl (s_mv rfl (s_lss rfl rfl (s_nil ?_))))
    refine W_if rfl (fun hd => W_skip ?_) (fun hd => W_exit ?_)
    · have hd := of_decide_eq_true hd
      have hsr : s < r := by omega
      refine W_block ?_
      obtain ⟨h, hh0⟩ : ∃ h, h = (s + r) / 2 := ⟨_, rfl⟩
      refine W_sr rfl (s_mv rfl (s_mv rfl (s_add rfl rfl (by omega) (s_cvx E rfl rfl rfl (wrapu_in (by omega) (by omega)) (s_half rfl rfl rfl (show ((s : Int) + r) / 2 = (h : Int) by omega) (s_cvx E rfl rfl rfl (wrap64_in (by omega) (by omega)) (s_as rfl (s_nil ?_))))))))
      have hh1 := Ext.heap hE hh
      refine W_qr (Ext w1) orders rfl (by kernel_rfl) (Ext.drew0) (q_mv rfl (q_mv rfl (q_mv rfl (q_mv rfl (q_sub rfl rfl (by omega) (q_ia E rfl rfl rfl (show (mid : Int) + m - 1 - h = ((mid + m - 1 - h : Nat) : Int) by omega) (by omega) (q_lda E rfl rfl (fun w' hE => cell_row hh1 hc (show mid + m - 1 - h < n by omega) hE) rfl (q_mv rfl (q_mv rfl (q_ia E rfl rfl rfl rfl (by omega) (q_lda E rfl rfl (fun w' hE => cell_row hh1 hc (show h < n by omega) hE) rfl (q_call rfl rfl (hg (f (mid + m - 1 - h)) (f h) w).1 (fun w' hw' => (hg _ _ w').mono fun v w'' h => ⟨h.1, hw'.trans h.2⟩) (q_lss rfl rfl (q_not rfl (q_nil ?_)))))))))))))))
      intro w2 hE2
      refine W_if rfl (fun he => ?_) (fun he => ?_)
      · have he : 0 ≤ cmp (f (mid + m - 1 - h)) (f h) := by simpa using he
        refine W_reg rfl (s_mv rfl (s_add rfl rfl (by omega) (s_as rfl (s_nil ?_))))
        refine ⟨r - (h + 1), by omega, _, h + 1, r, u10 rfl rfl rfl rfl rfl rfl rfl rfl rfl rfl, by omega, by omega, hr0, rfl, hE.trans hE2, fun p h1 h2 => ?_, hhi⟩
        by_cases e : p = h
        · subst e; exact he
        · have k1 := hL p h (by omega) (by omega) (by omega)
          have k2 := hR (mid + m - 1 - h) (mid + m - 1 - p) (by omega) (by omega) (by omega)
          exact ho.tr _ _ _ (ho.tr _ _ _ k1 he) k2
      · have he : cmp (f (mid + m - 1 - h)) (f h) < 0 := by simpa using he
        refine W_reg rfl (s_mv rfl (s_as rfl (s_nil ?_)))
        refine ⟨h - s, by omega, _, s, h, u10 rfl rfl rfl rfl rfl rfl rfl rfl rfl rfl, hs0, by omega, by omega, rfl, hE.trans hE2, hlo, fun p h1 h2 => ?_⟩
        by_cases e : p = h
        · subst e; exact he
        · have k1 := hL h p (by omega) (by omega) (by omega)
          have k2 := hR (mid + m - 1 - p) (mid + m - 1 - h) (by omega) (by omega) (by omega)
          by_cases hx : cmp (f (mid + m - 1 - p)) (f p) < 0
          · exact hx
          · exact absurd (ho.tr _ _ _ k1 (ho.tr _ _ _ (show 0 ≤ cmp (f (mid + m - 1 - p)) (f p) by omega) k2)) (by omega)
    · have hd := of_decide_eq_false hd
      have hsr : r = s := by omega
      subst hsr
      obtain ⟨e, he⟩ : ∃ e, e = mid + m - r := ⟨_, rfl⟩
      have hH : Halves cmp (rotF f r m e) a r mid e b := by
        refine sym_halves ho hL hR (by omega) (by omega) (by omega) (by omega) (by omega) (by omega) (fun h1 h2 => ?_) (fun h1 h2 => ?_)
        · have h3 : s0 < r := by
            by_cases h3 : s0 < r
            · exact h3
            · have : s0 = r := by omega
              subst this
              have := p6 h1
              omega
          have := hlo (r - 1) (by omega) (by omega)
          rwa [show mid + m - 1 - (r - 1) = e by omega] at this
        · have := hhi r (by omega) (by omega)
          rwa [show mid + m - 1 - r = e - 1 by omega] at this
      have hA1 : ArrR chC w1 g n f := ⟨cs, ty, Ext.heap hE hh, hsz, hc⟩
      refine W_sr rfl (s_mv rfl (s_mv rfl (s_sub rfl rfl (by omega) (s_as rfl (s_nil ?_)))))
      clear hlo hhi hK
      refine W_sk fun K hK => ?_
      have H1 : ∀ (ρ : Fr) w', ρ 0 = .slice (some ⟨g, 0, none⟩) n c → ρ 1 = iV a → ρ 3 = iV b → ρ 4 = .func (.func gc) #[] #[] → ρ 18 = iV mid → ρ 20 = iV r → ρ 24 = iV e → ArrR chC w' g n (rotF f r m e) → Pm a b f (rotF f r m e) → Mod (fun k => k = g) w w' → K ρ w' := by
        intro ρ w2 q0 q1 q3 q4 q18 q20 q24 hA2 hP2 hM2
        rw [u7 q0 q1 q3 q4 q18 q20 q24]
        refine hK _ _ ?_
        clear hK
        refine W_sk fun K hK => ?_
        have H2 : ∀ (ρ : Fr) w' f3, ρ 0 = .slice (some ⟨g, 0, none⟩) n c → ρ 3 = iV b → ρ 4 = .func (.func gc) #[] #[] → ρ 18 = iV mid → ρ 24 = iV e → ArrR chC w' g n f3 → Pm a mid (rotF f r m e) f3 → Srt cmp f3 a mid → Mod (fun k => k = g) w w' → K ρ w' := by
          intro ρ w3 f3 q0 q3 q4 q18 q24 hA3 hP3 hS3 hM3
          rw [u5 q0 q3 q4 q18 q24]
          refine hK _ _ ?_
          have R1 : Srt cmp f3 mid e := fun p q h1 h2 h3 => by rw [hP3.out (.inr (by omega)), hP3.out (.inr h1)]; exact hH.r1 p q h1 h2 h3
          have R2 : Srt cmp f3 e b := fun p q h1 h2 h3 => by rw [hP3.out (.inr (by omega)), hP3.out (.inr (by omega))]; exact hH.r2 p q h1 h2 h3
          have stay : ¬ (mid < e ∧ e < b) → Srt cmp f3 mid b := fun h => by
            by_cases h1 : mid < e
            · exact R1.sub (by omega) (by omega)
            · exact R2.sub (by omega) (by omega)
          have done : ∀ f4 w4, ArrR chC w4 g n f4 → Pm mid b f3 f4 → Srt cmp f4 mid b → Mod (fun k => k = g) w w4 → ∃ v, v = Value.tuple #[] ∧ (v = .tuple #[] ∧ ∃ f', ArrR chC w4 g n f' ∧ Pm a b f f' ∧ Srt cmp f' a b ∧ Mod (fun k => k = g) w w4) := fun f4 w4 h1 h2 h3 h4 =>
            ⟨_, rfl, rfl, f4, h1, (hP2.trans (hP3.mono (by omega) (by omega))).trans (h2.mono (by omega) (by omega)),
              srt_join (fun p q g1 g2 g3 => by rw [h2.out (.inl (by omega)), h2.out (.inl (by omega))]; exact hS3 p q g1 g2 g3) h3 (cross_pm hP3 h2 hH.cross), h4⟩
          by_cases h0 : (mid : Int) < e
          · by_cases h1 : (e : Int) < b
            · refine W_sr rfl (s_mv rfl (s_mv rfl (s_cmp (c := true) rfl rfl (decide_eq_true h0) (s_mv rfl (s_g1 rfl (s_mv rfl (s_g1 rfl (s_mv rfl (s_g1 rfl (s_cmp (c := true) rfl rfl (decide_eq_true h1) (s_pk rfl (s_nil ?_))))))))))))
              refine W_if rfl (fun _ => ?_) (fun h => by cases h)
              refine W_reg rfl (s_mv rfl (s_mv rfl (s_mv rfl (s_mv rfl (s_mv rfl (s_callx rfl rfl (ih (w := w3) (f := f3) (a := mid) (m := e) (b := b) (by omega) (by omega) (by omega) hb hA3 R1 R2) fun w4 h4 => (s_nil ?_)))))))
              obtain ⟨f4, h4, h5, h6, h7⟩ := h4
              obtain ⟨_, rfl, h8⟩ := done f4 w4 h4 h5 h6 (hM3.trans h7)
              exact ⟨_, rfl, h8⟩
            · refine W_sr rfl (s_mv rfl (s_mv rfl (s_cmp (c := true) rfl rfl (decide_eq_true h0) (s_mv rfl (s_g1 rfl (s_mv rfl (s_g1 rfl (s_mv rfl (s_g1 rfl (s_cmp (c := false) rfl rfl (decide_eq_false h1) (s_pk rfl (s_nil ?_))))))))))))
              refine W_if rfl (fun h => by cases h) (fun _ => W_skip ?_)
              obtain ⟨_, rfl, h8⟩ := done f3 w3 hA3 .refl (stay (by omega)) hM3
              exact ⟨_, rfl, h8⟩
          · refine W_sr rfl (s_mv rfl (s_mv rfl (s_cmp (c := false) rfl rfl (decide_eq_false h0) (s_mv rfl (s_g0 rfl (s_g0 rfl (s_g0 rfl (s_pk rfl (s_nil ?_)))))))))
            refine W_if rfl (fun h => by cases h) (fun _ => W_skip ?_)
            obtain ⟨_, rfl, h8⟩ := done f3 w3 hA3 .refl (stay (by omega)) hM3
            exact ⟨_, rfl, h8⟩
        have stay : ¬ (a < r ∧ r < mid) → Srt cmp (rotF f r m e) a mid := fun h => by
          by_cases h1 : a < r
          · exact hH.l1.sub (by omega) (by omega)
          · exact hH.l2.sub (by omega) (by omega)
        by_cases h0 : (a : Int) < r
        · by_cases h1 : (r : Int) < mid
          · refine W_sr rfl (s_mv rfl (s_mv rfl (s_cmp (c := true) rfl rfl (decide_eq_true h0) (s_mv rfl (s_g1 rfl (s_mv rfl (s_g1 rfl (s_mv rfl (s_g1 rfl (s_cmp (c := true) rfl rfl (decide_eq_true h1) (s_pk rfl (s_nil ?_))))))))))))
            refine W_if rfl (fun _ => ?_) (fun h => by cases h)
            refine W_reg rfl (s_mv rfl (s_mv rfl (s_mv rfl (s_mv rfl (s_mv rfl (s_callx rfl rfl (ih (w := w2) (f := rotF f r m e) (a := a) (m := r) (b := mid) (by omega) (by omega) (by omega) (by omega) hA2 hH.l1 hH.l2) fun w4 h4 => (s_nil ?_)))))))
            obtain ⟨f4, h4, h5, h6, h7⟩ := h4
            exact H2 _ _ f4 rfl rfl rfl rfl rfl h4 h5 h6 (hM2.trans h7)
          · refine W_sr rfl (s_mv rfl (s_mv rfl (s_cmp (c := true) rfl rfl (decide_eq_true h0) (s_mv rfl (s_g1 rfl (s_mv rfl (s_g1 rfl (s_mv rfl (s_g1 rfl (s_cmp (c := false) rfl rfl (decide_eq_false h1) (s_pk rfl (s_nil ?_))))))))))))
            refine W_if rfl (fun h => by cases h) (fun _ => W_skip ?_)
            exact H2 _ _ _ rfl rfl rfl rfl rfl hA2 .refl (stay (by omega)) hM2
        · refine W_sr rfl (s_mv rfl (s_mv rfl (s_cmp (c := false) rfl rfl (decide_eq_false h0) (s_mv rfl (s_g0 rfl (s_g0 rfl (s_g0 rfl (s_pk rfl (s_nil ?_)))))))))
          refine W_if rfl (fun h => by cases h) (fun _ => W_skip ?_)
          exact H2 _ _ _ rfl rfl rfl rfl rfl hA2 .refl (stay (by omega)) hM2
      have ee : (mid : Int) + m - r = e := by omega
      by_cases h0 : (r : Int) < m
      · by_cases h1 : (m : Int) < e
        · refine W_sr rfl (s_mv rfl (s_mv rfl (s_cmp (c := true) rfl rfl (decide_eq_true h0) (s_mv rfl (s_g1 rfl (s_mv rfl (s_g1 rfl (s_mv rfl (s_g1 rfl (s_cmp (c := true) rfl rfl (decide_eq_true (by rw [ee]; exact h1)) (s_pk rfl (s_nil ?_))))))))))))
          refine W_if rfl (fun _ => ?_) (fun h => by cases h)
          have call := slices_rotate_CharMetric_c (c := c) (cv := .func (.func gc) #[] #[]) (a := r) (m := m) (b := e) hA1 (by omega) (by omega) (by omega) hn
          rw [← ee] at call
          refine W_reg rfl (s_mv rfl (s_mv rfl (s_mv rfl (s_mv rfl (s_mv rfl (s_callx rfl rfl call fun w4 h4 => (s_nil ?_)))))))
          exact H1 _ _ rfl rfl rfl rfl rfl rfl (congrArg iV ee) h4.1 (h4.2.1.mono (by omega) (by omega)) ((Mod.of_ext hE).trans h4.2.2)
        · refine W_sr rfl (s_mv rfl (s_mv rfl (s_cmp (c := true) rfl rfl (decide_eq_true h0) (s_mv rfl (s_g1 rfl (s_mv rfl (s_g1 rfl (s_mv rfl (s_g1 rfl (s_cmp (c := false) rfl rfl (decide_eq_false (by rw [ee]; exact h1)) (s_pk rfl (s_nil ?_))))))))))))
          refine W_if rfl (fun h => by cases h) (fun _ => W_skip ?_)
          have e0 := rot_none (f := f) (s := r) (m := m) (e := e) (.inr (by omega)) (by omega) (by omega)
          exact H1 _ _ rfl rfl rfl rfl rfl rfl (congrArg iV ee) (by rw [e0]; exact hA1) (by rw [e0]; exact .refl) (Mod.of_ext hE)
      · refine W_sr rfl (s_mv rfl (s_mv rfl (s_cmp (c := false) rfl rfl (decide_eq_false h0) (s_mv rfl (s_g0 rfl (s_g0 rfl (s_g0 rfl (s_pk rfl (s_nil ?_)))))))))
        refine W_if rfl (fun h => by cases h) (fun _ => W_skip ?_)
        have e0 := rot_none (f := f) (s := r) (m := m) (e := e) (.inl (by omega)) (by omega) (by omega)
        exact H1 _ _ rfl rfl rfl rfl rfl rfl (congrArg iV ee) (by rw [e0]; exact hA1) (by rw [e0]; exact .refl) (Mod.of_ext hE)
  refine W_if rfl (fun hd => ?_) (fun hd => ?_)
  · have hd := of_decide_eq_true hd
    refine W_sr rfl (s_mv rfl (s_mv rfl (s_sub rfl rfl (by omega) (s_as rfl (s_nil ?_)))))
    refine W_reg rfl (s_mv rfl (s_as rfl (s_nil ?_)))
    exact H _ (mid + m - b) mid (by omega) (by omega) (by omega) (by omega) (by omega) (by omega) (.inl rfl) rfl rfl rfl rfl rfl rfl rfl (congrArg iV (show (mid : Int) + m - b = ((mid + m - b : Nat) : Int) by omega)) rfl
  · have hd := of_decide_eq_false hd
    refine W_sr rfl (s_mv rfl (s_as rfl (s_nil ?_)))
    refine W_reg rfl (s_mv rfl (s_as rfl (s_nil ?_)))
    exact H _ a m (by omega) (by omega) (by omega) (by omega) (by omega) (by omega) (.inr rfl) rfl rfl rfl rfl rfl rfl rfl rfl rfl
theorem slices_symMerge_LigRule_c {gc : FuncId} {cmp : Ru → Ru → Int} (ho : Ordr cmp) (hg : ∀ x y w, Ret Go.Proofs.Tryz.prog gc #[ruV x, ruV y] w fun v w' => v = iV (cmp x y) ∧ Ext w w') (hn : n ≤ 1000000) : ∀ (k : Nat) {w : World} {f : Nat → Ru} {a m b : Nat},
    b - a ≤ k → a < m → m < b → b ≤ n → ArrR ruC w g n f → Srt cmp f a m → Srt cmp f m b →
    Ret Go.Proofs.Tryz.prog 113 #[.slice (some ⟨g, 0, none⟩) n c, iV a, iV m, iV b, .func (.func gc) #[] #[]] w fun v w' => v = .tuple #[] ∧ ∃ f', ArrR ruC w' g n f' ∧ Pm a b f f' ∧ Srt cmp f' a b ∧ Mod (fun k => k = g) w w' := by
  intro k
  induction k with
  | zero => intro w f a m b h1 h2 h3; omega
  | succ k ih =>
  intro w f a m b hk ham hmb hb hA hL hR
  refine enter Go.Proofs.Tryz.func113 rfl rfl rfl ?_
  refine W_seq ?_
  refine W_sr rfl (s_mv rfl (s_mv rfl (s_sub rfl rfl (by omega) (s_eql rfl rfl (s_nil ?_)))))
  refine W_if rfl (fun hc1 => ?_) (fun hc1 => W_skip ?_)
  · -- the first one alone
    have hc1 : m = a + 1 := by have := of_decide_eq_true hc1; omega
    subst hc1
    obtain ⟨cs, ty, hh, hsz, hc⟩ := id hA
    refine W_sr rfl (s_mv rfl (s_as rfl (s_nil ?_)))
    refine W_sr rfl (s_mv rfl (s_as rfl (s_nil ?_)))
    refine W_seq ?_
    refine W_block ?_
    refine W_loop (fun q ρ w' => ∃ ρ' i j, ρ = upd (upd (upd (upd (upd (upd (upd ρ' 0 (.slice (some ⟨g, 0, none⟩) n c)) 1 (iV a)) 2 (iV ((a + 1 : Nat) : Int))) 3 (iV b)) 4 (.func (.func gc) #[] #[])) 10 (iV (i : Nat))) 11 (iV (j : Nat)) ∧ a + 1 ≤ i ∧ i ≤ j ∧ j ≤ b ∧ q = j - i ∧ Ext w w' ∧ (∀ p, a + 1 ≤ p → p < i → cmp (f p) (f a) < 0) ∧ ∀ p, j ≤ p → p < b → 0 ≤ cmp (f p) (f a)) (b - (a + 1))
      ⟨_, a + 1, b, u7 rfl rfl rfl rfl rfl rfl rfl, by omega, by omega, by omega, rfl, Mod.refl, fun p _ _ => by omega, fun p _ _ => by omega⟩ ?_
    rintro q _ w1 ⟨ρ, i, j, rfl, hi, hij, hj, rfl, hE, hlo, hhi⟩
    refine W_seq ?_
    refine W_sr rfl (s_mv rfl (s_mv rfl (s_lss rfl rfl (s_nil ?_))))
    refine W_if rfl (fun hd => W_skip ?_) (fun hd => W_exit ?_)
    · have hd := of_decide_eq_true hd
      have hij : i < j := by omega
      refine W_block ?_
      refine W_sr rfl (s_mv rfl (s_mv rfl (s_add rfl rfl (by omega) (s_cvx E rfl rfl rfl (wrapu_in (by omega) (by omega)) (s_half rfl rfl rfl (show ((i : Int) + j) / 2 = (((i + j) / 2 : Nat) : Int) by omega) (s_cvx E rfl rfl rfl (half_val (by omega)) (s_as rfl (s_nil ?_))))))))
      have hh1 := Ext.heap hE hh
      refine W_qr (Ext w1) orders rfl (by kernel_rfl) (Ext.drew0) (q_mv rfl (q_mv rfl (q_mv rfl (q_ia E rfl rfl rfl rfl (by omega) (q_lda E rfl rfl (fun w' hE => cell_row hh1 hc (show (i + j) / 2 < n by omega) hE) rfl (q_mv rfl (q_mv rfl (q_ia E rfl rfl rfl rfl (by omega) (q_lda E rfl rfl (fun w' hE => cell_row hh1 hc (show a < n by omega) hE) rfl (q_call rfl rfl (hg (f ((i + j) / 2)) (f a) w).1 (fun w' hw' => (hg _ _ w').mono fun v w'' h => ⟨h.1, hw'.trans h.2⟩) (q_lss rfl rfl (q_nil ?_))))))))))))
      intro w2 hE2
      have mono : ∀ p q, a + 1 ≤ p → p ≤ q → q < b → p = q ∨ 0 ≤ cmp (f q) (f p) := fun p q h1 h2 h3 => by
        by_cases h : p = q
        · exact .inl h
        · exact .inr (hR p q h1 (by omega) h3)
      refine W_if rfl (fun he => ?_) (fun he => ?_)
      · have he := of_decide_eq_true he
        refine W_reg rfl (s_mv rfl (s_add rfl rfl (by omega) (s_as rfl (s_nil ?_))))
        refine ⟨j - ((i + j) / 2 + 1), by omega, _, (i + j) / 2 + 1, j, u7 rfl rfl rfl rfl rfl rfl rfl, by omega, by omega, hj, rfl, hE.trans hE2, fun p h1 h2 => ?_, hhi⟩
        rcases mono p ((i + j) / 2) h1 (by omega) (by omega) with h | h
        · rw [h]; exact he
        · by_cases hx : cmp (f p) (f a) < 0
          · exact hx
          · exact absurd (ho.tr (f a) (f p) (f ((i + j) / 2)) (by omega) h) (by omega)
      · have he := of_decide_eq_false he
        refine W_reg rfl (s_mv rfl (s_as rfl (s_nil ?_)))
        refine ⟨(i + j) / 2 - i, by omega, _, i, (i + j) / 2, u7 rfl rfl rfl rfl rfl rfl rfl, hi, by omega, by omega, rfl, hE.trans hE2, hlo, fun p h1 h2 => ?_⟩
        rcases mono ((i + j) / 2) p (by omega) h1 (by omega) with h | h
        · rw [← h]; omega
        · exact ho.tr _ _ _ (by omega) h
    · have hd := of_decide_eq_false hd
      have hij : j = i := by omega
      subst hij
      have fin := up_srt ho hR hi hj hlo hhi
      refine W_seq ?_
      refine W_sr rfl (s_mv rfl (s_as rfl (s_nil ?_)))
      refine W_block ?_
      refine W_loop (fun q ρ w' => ∃ ρ' t, ρ = upd (upd (upd ρ' 0 (.slice (some ⟨g, 0, none⟩) n c)) 10 (iV (j : Nat))) 13 (iV (t : Nat)) ∧ a ≤ t ∧ t ≤ j - 1 ∧ q = j - t ∧ ArrR ruC w' g n (upF f a t) ∧ Mod (fun k => k = g) w w') (j - a)
        ⟨_, a, u3 rfl rfl rfl, by omega, by omega, rfl, by rw [upF_zero]; exact ⟨cs, ty, Ext.heap hE hh, hsz, hc⟩, Mod.of_ext hE⟩ ?_
      clear hA hh hsz hc
      rintro q _ w2 ⟨ρ, t, rfl, hat, htj, rfl, ⟨cs, ty, hh, hsz, hc⟩, hM⟩
      refine W_seq ?_
      refine W_sr rfl (s_mv rfl (s_mv rfl (s_sub rfl rfl (by omega) (s_lss rfl rfl (s_nil ?_)))))
      refine W_if rfl (fun he => W_skip ?_) (fun he => W_exit ?_)
      · have he := of_decide_eq_true he
        have h1 : t < n := by omega
        have h2 : t + 1 < n := by omega
        have set1 := arr_set ruC_len hsz hc h1 (upF f a t (t + 1))
        have set2 := arr_set ruC_len set1.1 set1.2 h2 (upF f a t t)
        refine W_seq (W_block ?_)
        refine W_d (fun w' => w'.heap[g]? = some (.cells cs ty (0, 0))) [15, 16, 17] orders (D_pure 0 rfl rfl (by kernel_rfl) rfl (fun _ => r_mv rfl) (fun _ => hh) (D_pure 1 rfl rfl (by kernel_rfl) rfl (fun _ => r_mv rfl) (fun _ => hh) (D_pure 2 rfl rfl (by kernel_rfl) rfl (fun _ => r_mv rfl) (fun _ => hh) (D_pure 3 rfl rfl (by kernel_rfl) rfl (fun _ => r_mv rfl) (fun _ => hh) (D_pure 4 rfl rfl (by kernel_rfl) rfl (fun _ => r_add rfl rfl (by omega)) (fun _ => hh) (D_pure 5 rfl rfl (by kernel_rfl) rfl (fun _ => r_mv rfl) (fun _ => hh) (D_pure 6 rfl rfl (by kernel_rfl) rfl (fun _ => r_mv rfl) (fun _ => hh) (D_pure 7 rfl rfl (by kernel_rfl) rfl (fun _ => r_add rfl rfl (by omega)) (fun _ => hh) (D_pure 8 rfl rfl (by kernel_rfl) rfl (fun _ => r_ia E rfl rfl rfl (show (t : Int) + 1 = ((t + 1 : Nat) : Int) by omega) h2) (fun _ => hh) (D_take 9 rfl rfl (by kernel_rfl) rfl (fun _ hs => r_lda E rfl rfl (arr_row hs hc h2) rfl) hh (D_pure 10 rfl rfl (by kernel_rfl) rfl (fun _ => r_mv rfl) (fun _ => hh) (D_pure 11 rfl rfl (by kernel_rfl) rfl (fun _ => r_mv rfl) (fun _ => hh) (D_pure 12 rfl rfl (by kernel_rfl) rfl (fun _ => r_ia E rfl rfl rfl rfl h1) (fun _ => hh) (D_take 13 rfl rfl (by kernel_rfl) rfl (fun _ hs => r_lda E rfl rfl (arr_row hs hc h1) rfl) hh (D_pure 14 rfl rfl (by kernel_rfl) rfl (fun _ => r_ia E rfl rfl rfl rfl h1) (fun _ => hh) (D_oneM 15 rfl (by kernel_rfl) rfl (by kernel_rfl) (s_st E (vs := ruC (upF f a t (t + 1))) rfl rfl (ad0 g _) rfl hh rfl rfl rfl (by rw [ruC_len]; omega) (s_nil (D_oneM 16 rfl (by kernel_rfl) rfl (by kernel_rfl) (s_ia E rfl rfl rfl (show (t : Int) + 1 = ((t + 1 : Nat) : Int) by omega) h2 (s_nil (D_oneM 17 rfl (by kernel_rfl) rfl (by kernel_rfl) (s_st E (vs := ruC (upF f a t t)) rfl rfl (ad0 g _) rfl (setRow_heap _ _ _ _ ty (0, 0) hh) rfl rfl rfl (by have := set1.1; rw [ruC_len]; omega) (s_nil (D_done (by kernel_rfl) ?_)))))))))))))))))))))))))
        refine W_reg rfl (s_mv rfl (s_add rfl rfl (by omega) (s_as rfl (s_nil ?_))))
        refine ⟨j - (t + 1), by omega, _, t + 1, u3 rfl rfl rfl, by omega, by omega, rfl, ⟨_, ty, setRow_heap _ _ _ _ ty (0, 0) (setRow_heap _ _ _ _ ty (0, 0) hh), set2.1, ?_⟩, hM.trans ((Mod.of_ext Ext.drew0).trans mod_two)⟩
        rw [upF_succ hat, ← sw_upd]
        exact set2.2
      · have he := of_decide_eq_false he
        have : t = j - 1 := by omega
        subst this
        exact W_ret ⟨_, rfl, rfl, _, ⟨cs, ty, hh, hsz, hc⟩, upF_pm (by omega) (by omega), fin, hM⟩
  have hc1 : m ≠ a + 1 := by have := of_decide_eq_false hc1; omega
  refine W_seq ?_
  refine W_sr rfl (s_mv rfl (s_mv rfl (s_sub rfl rfl (by omega) (s_eql rfl rfl (s_nil ?_)))))
  refine W_if rfl (fun hc2 => ?_) (fun hc2 => W_skip ?_)
  · -- the last one alone
    have hc2 : b = m + 1 := by have := of_decide_eq_true hc2; omega
    subst hc2
    obtain ⟨cs, ty, hh, hsz, hc⟩ := id hA
    refine W_sr rfl (s_mv rfl (s_as rfl (s_nil ?_)))
    refine W_sr rfl (s_mv rfl (s_as rfl (s_nil ?_)))
    refine W_seq ?_
    refine W_block ?_
    refine W_loop (fun q ρ w' => ∃ ρ' i j, ρ = upd (upd (upd (upd (upd (upd ρ' 0 (.slice (some ⟨g, 0, none⟩) n c)) 1 (iV a)) 2 (iV m)) 4 (.func (.func gc) #[] #[])) 14 (iV (i : Nat))) 15 (iV (j : Nat)) ∧ a ≤ i ∧ i ≤ j ∧ j ≤ m ∧ q = j - i ∧ Ext w w' ∧ (∀ p, a ≤ p → p < i → 0 ≤ cmp (f m) (f p)) ∧ ∀ p, j ≤ p → p < m → cmp (f m) (f p) < 0) (m - a)
      ⟨_, a, m, u6 rfl rfl rfl rfl rfl rfl, by omega, by omega, by omega, rfl, Mod.refl, fun p _ _ => by omega, fun p _ _ => by omega⟩ ?_
    rintro q _ w1 ⟨ρ, i, j, rfl, hi, hij, hj, rfl, hE, hlo, hhi⟩
    refine W_seq ?_
    refine W_sr rfl (s_mv rfl (s_mv rfl (s_lss rfl rfl (s_nil ?_))))
    refine W_if rfl (fun hd => W_skip ?_) (fun hd => W_exit ?_)
    · have hd := of_decide_eq_true hd
      have hij : i < j := by omega
      refine W_block ?_
      refine W_sr rfl (s_mv rfl (s_mv rfl (s_add rfl rfl (by omega) (s_cvx E rfl rfl rfl (wrapu_in (by omega) (by omega)) (s_half rfl rfl rfl (show ((i : Int) + j) / 2 = (((i + j) / 2 : Nat) : Int) by omega) (s_cvx E rfl rfl rfl (half_val (by omega)) (s_as rfl (s_nil ?_))))))))
      have hh1 := Ext.heap hE hh
      refine W_qr (Ext w1) orders rfl (by kernel_rfl) (Ext.drew0) (q_mv rfl (q_mv rfl (q_mv rfl (q_ia E rfl rfl rfl rfl (by omega) (q_lda E rfl rfl (fun w' hE => cell_row hh1 hc (show m < n by omega) hE) rfl (q_mv rfl (q_mv rfl (q_ia E rfl rfl rfl rfl (by omega) (q_lda E rfl rfl (fun w' hE => cell_row hh1 hc (show (i + j) / 2 < n by omega) hE) rfl (q_call rfl rfl (hg (f m) (f ((i + j) / 2)) w).1 (fun w' hw' => (hg _ _ w').mono fun v w'' h => ⟨h.1, hw'.trans h.2⟩) (q_lss rfl rfl (q_not rfl (q_nil ?_)))))))))))))
      intro w2 hE2
      have mono : ∀ p q, a ≤ p → p ≤ q → q < m → p = q ∨ 0 ≤ cmp (f q) (f p) := fun p q h1 h2 h3 => by
        by_cases h : p = q
        · exact .inl h
        · exact .inr (hL p q h1 (by omega) h3)
      refine W_if rfl (fun he => ?_) (fun he => ?_)
      · have he : 0 ≤ cmp (f m) (f ((i + j) / 2)) := by simpa using he
        refine W_reg rfl (s_mv rfl (s_add rfl rfl (by omega) (s_as rfl (s_nil ?_))))
        refine ⟨j - ((i + j) / 2 + 1), by omega, _, (i + j) / 2 + 1, j, u6 rfl rfl rfl rfl rfl rfl, by omega, by omega, hj, rfl, hE.trans hE2, fun p h1 h2 => ?_, hhi⟩
        rcases mono p ((i + j) / 2) h1 (by omega) (by omega) with h | h
        · rw [h]; exact he
        · exact ho.tr _ _ _ h he
      · have he : cmp (f m) (f ((i + j) / 2)) < 0 := by simpa using he
        refine W_reg rfl (s_mv rfl (s_as rfl (s_nil ?_)))
        refine ⟨(i + j) / 2 - i, by omega, _, i, (i + j) / 2, u6 rfl rfl rfl rfl rfl rfl, hi, by omega, by omega, rfl, hE.trans hE2, hlo, fun p h1 h2 => ?_⟩
        rcases mono ((i + j) / 2) p (by omega) h1 (by omega) with h | h
        · rw [← h]; exact he
        · by_cases hx : cmp (f m) (f p) < 0
          · exact hx
          · exact absurd (ho.tr (f ((i + j) / 2)) (f p) (f m) h (by omega)) (by omega)
    · have hd := of_decide_eq_false hd
      have hij : j = i := by omega
      subst hij
      have fin := dn_srt ho hL hi hj hlo hhi
      refine W_seq ?_
      refine W_sr rfl (s_mv rfl (s_as rfl (s_nil ?_)))
      refine W_block ?_
      refine W_loop (fun q ρ w' => ∃ ρ' t, ρ = upd (upd (upd ρ' 0 (.slice (some ⟨g, 0, none⟩) n c)) 14 (iV (j : Nat))) 17 (iV (t : Nat)) ∧ j ≤ t ∧ t ≤ m ∧ q = 0 + t ∧ ArrR ruC w' g n (dnF f m t) ∧ Mod (fun k => k = g) w w') (0 + m)
        ⟨_, m, u3 rfl rfl rfl, by omega, by omega, rfl, by rw [dnF_zero]; exact ⟨cs, ty, Ext.heap hE hh, hsz, hc⟩, Mod.of_ext hE⟩ ?_
      clear hA hh hsz hc
      rintro q _ w2 ⟨ρ, t, rfl, hat, htj, rfl, ⟨cs, ty, hh, hsz, hc⟩, hM⟩
      refine W_seq ?_
      refine W_sr rfl (s_mv rfl (s_mv rfl (s_gtr rfl rfl (s_nil ?_))))
      refine W_if rfl (fun he => W_skip ?_) (fun he => W_exit ?_)
      · have he := of_decide_eq_true he
        obtain ⟨u, rfl⟩ : ∃ u, t = u + 1 := ⟨t - 1, by omega⟩
        have h1 : u + 1 < n := by omega
        have h2 : u < n := by omega
        have set1 := arr_set ruC_len hsz hc h1 (dnF f m (u + 1) u)
        have set2 := arr_set ruC_len set1.1 set1.2 h2 (dnF f m (u + 1) (u + 1))
        refine W_seq (W_block ?_)
        refine W_d (fun w' => w'.heap[g]? = some (.cells cs ty (0, 0))) [15, 16, 17] orders (D_pure 0 rfl rfl (by kernel_rfl) rfl (fun _ => r_mv rfl) (fun _ => hh) (D_pure 1 rfl rfl (by kernel_rfl) rfl (fun _ => r_mv rfl) (fun _ => hh) (D_pure 2 rfl rfl (by kernel_rfl) rfl (fun _ => r_mv rfl) (fun _ => hh) (D_pure 3 rfl rfl (by kernel_rfl) rfl (fun _ => r_mv rfl) (fun _ => hh) (D_pure 4 rfl rfl (by kernel_rfl) rfl (fun _ => r_sub rfl rfl (by omega)) (fun _ => hh) (D_pure 5 rfl rfl (by kernel_rfl) rfl (fun _ => r_mv rfl) (fun _ => hh) (D_pure 6 rfl rfl (by kernel_rfl) rfl (fun _ => r_mv rfl) (fun _ => hh) (D_pure 7 rfl rfl (by kernel_rfl) rfl (fun _ => r_sub rfl rfl (by omega)) (fun _ => hh) (D_pure 8 rfl rfl (by kernel_rfl) rfl (fun _ => r_ia E rfl rfl rfl (show ((u + 1 : Nat) : Int) - 1 = ((u : Nat) : Int) by omega) h2) (fun _ => hh) (D_take 9 rfl rfl (by kernel_rfl) rfl (fun _ hs => r_lda E rfl rfl (arr_row hs hc h2) rfl) hh (D_pure 10 rfl rfl (by kernel_rfl) rfl (fun _ => r_mv rfl) (fun _ => hh) (D_pure 11 rfl rfl (by kernel_rfl) rfl (fun _ => r_mv rfl) (fun _ => hh) (D_pure 12 rfl rfl (by kernel_rfl) rfl (fun _ => r_ia E rfl rfl rfl rfl h1) (fun _ => hh) (D_take 13 rfl rfl (by kernel_rfl) rfl (fun _ hs => r_lda E rfl rfl (arr_row hs hc h1) rfl) hh (D_pure 14 rfl rfl (by kernel_rfl) rfl (fun _ => r_ia E rfl rfl rfl rfl h1) (fun _ => hh) (D_oneM 15 rfl (by kernel_rfl) rfl (by kernel_rfl) (s_st E (vs := ruC (dnF f m (u + 1) u)) rfl rfl (ad0 g _) rfl hh rfl rfl rfl (by rw [ruC_len]; omega) (s_nil (D_oneM 16 rfl (by kernel_rfl) rfl (by kernel_rfl) (s_ia E rfl rfl rfl (show ((u + 1 : Nat) : Int) - 1 = ((u : Nat) : Int) by omega) h2 (s_nil (D_oneM 17 rfl (by kernel_rfl) rfl (by kernel_rfl) (s_st E (vs := ruC (dnF f m (u + 1) (u + 1))) rfl rfl (ad0 g _) rfl (setRow_heap _ _ _ _ ty (0, 0) hh) rfl rfl rfl (by have := set1.1; rw [ruC_len]; omega) (s_nil (D_done (by kernel_rfl) ?_)))))))))))))))))))))))))
        refine W_reg rfl (s_mv rfl (s_sub rfl rfl (by omega) (s_as rfl (s_nil ?_))))
        refine ⟨0 + u, by omega, _, u, u3 rfl rfl (congrArg iV (show ((u + 1 : Nat) : Int) - 1 = ((u : Nat) : Int) by omega)), by omega, by omega, rfl, ⟨_, ty, setRow_heap _ _ _ _ ty (0, 0) (setRow_heap _ _ _ _ ty (0, 0) hh), set2.1, ?_⟩, hM.trans ((Mod.of_ext Ext.drew0).trans mod_two)⟩
        rw [dnF_succ (by omega), ← sw_upd]
        exact set2.2
      · have he := of_decide_eq_false he
        have : t = j := by omega
        subst this
        exact W_ret ⟨_, rfl, rfl, _, ⟨cs, ty, hh, hsz, hc⟩, dnF_pm (by omega) (by omega), fin, hM⟩
  have hc2 : b ≠ m + 1 := by have := of_decide_eq_false hc2; omega
  obtain ⟨mid, hmid⟩ : ∃ mid, mid = (a + b) / 2 := ⟨_, rfl⟩
  refine W_sr rfl (s_mv rfl (s_mv rfl (s_add rfl rfl (by omega) (s_cvx E rfl rfl rfl (wrapu_in (by omega) (by omega)) (s_half rfl rfl rfl (show ((a : Int) + b) / 2 = (mid : Int) by omega) (s_cvx E rfl rfl rfl (wrap64_in (by omega) (by omega)) (s_as rfl (s_nil ?_))))))))
  refine W_sr rfl (s_mv rfl (s_mv rfl (s_add rfl rfl (by omega) (s_as rfl (s_nil ?_)))))
  refine W_sr rfl (s_as rfl (s_as rfl (s_nil ?_)))
  refine W_sk fun K hK => ?_
  refine W_sr rfl (s_mv rfl (s_mv rfl (s_gtr rfl rfl (s_nil ?_))))
  have H : ∀ (ρ : Fr) (s0 r0 : Nat), a ≤ s0 → s0 ≤ r0 → r0 ≤ mid → r0 ≤ m → mid + m ≤ s0 + b → (a < s0 → s0 + b = mid + m) → (r0 = mid ∨ r0 = m) → ρ 0 = .slice (some ⟨g, 0, none⟩) n c → ρ 1 = iV a → ρ 2 = iV m → ρ 3 = iV b → ρ 4 = .func (.func gc) #[] #[] → ρ 18 = iV mid → ρ 19 = iV ((mid : Int) + m) →
      ρ 20 = iV (s0 : Nat) → ρ 21 = iV (r0 : Nat) → K ρ w := by
    intro ρ s0 r0 p1 p2 p3 p4 p5 p6 p7 q0 q1 q2 q3 q4 q18 q19 q20 q21
    rw [u9 q0 q1 q2 q3 q4 q18 q19 q20 q21]
    refine hK _ _ ?_
    refine W_sr rfl (s_mv rfl (s_sub rfl rfl (by omega) (s_as rfl (s_nil ?_))))
    obtain ⟨cs, ty, hh, hsz, hc⟩ := id hA
    refine W_seq ?_
    refine W_block ?_
    refine W_loop (fun q ρ w' => ∃ ρ' s r, ρ = upd (upd (upd (upd (upd (upd (upd (upd (upd (upd ρ' 0 (.slice (some ⟨g, 0, none⟩) n c)) 1 (iV a)) 2 (iV m)) 3 (iV b)) 4 (.func (.func gc) #[] #[])) 18 (iV mid)) 19 (iV ((mid : Int) + m))) 20 (iV (s : Nat))) 21 (iV (r : Nat))) 22 (iV ((mid : Int) + m - 1)) ∧ s0 ≤ s ∧ s ≤ r ∧ r ≤ r0 ∧ q = r - s ∧ Ext w w' ∧
        (∀ p, s0 ≤ p → p < s → 0 ≤ cmp (f (mid + m - 1 - p)) (f p)) ∧ ∀ p, r ≤ p → p < r0 → cmp (f (mid + m - 1 - p)) (f p) < 0) (r0 - s0)
      ⟨_, s0, r0, u10 rfl rfl rfl rfl rfl rfl rfl rfl rfl rfl, by omega, by omega, by omega, rfl, Mod.refl, fun p _ _ => by omega, fun p _ _ => by omega⟩ ?_
    rintro q _ w1 ⟨ρ, s, r, rfl, hs0, hsr, hr0, rfl, hE, hlo, hhi⟩
    refine W_seq ?_
    refine W_sr rfl (s_mv rfl (s_mv rfl (s_lss rfl rfl (s_nil ?_))))
    refine W_if rfl (fun hd => W_skip ?_) (fun hd => W_exit ?_)
    · have hd := of_decide_eq_true hd
      have hsr : s < r := by omega
      refine W_block ?_
      obtain ⟨h, hh0⟩ : ∃ h, h = (s + r) / 2 := ⟨_, rfl⟩
      refine W_sr rfl (s_mv rfl (s_mv rfl (s_add rfl rfl (by omega) (s_cvx E rfl rfl rfl (wrapu_in (by omega) (by omega)) (s_half rfl rfl rfl (show ((s : Int) + r) / 2 = (h : Int) by omega) (s_cvx E rfl rfl rfl (wrap64_in (by omega) (by omega)) (s_as rfl (s_nil ?_))))))))
      have hh1 := Ext.heap hE hh
      refine W_qr (Ext w1) orders rfl (by kernel_rfl) (Ext.drew0) (q_mv rfl (q_mv rfl (q_mv rfl (q_mv rfl (q_sub rfl rfl (by omega) (q_ia E rfl rfl rfl (show (mid : Int) + m - 1 - h = ((mid + m - 1 - h : Nat) : Int) by omega) (by omega) (q_lda E rfl rfl (fun w' hE => cell_row hh1 hc (show mid + m - 1 - h < n by omega) hE) rfl (q_mv rfl (q_mv rfl (q_ia E rfl rfl rfl rfl (by omega) (q_lda E rfl rfl (fun w' hE => cell_row hh1 hc (show h < n by omega) hE) rfl (q_call rfl rfl (hg (f (mid + m - 1 - h)) (f h) w).1 (fun w' hw' => (hg _ _ w').mono fun v w'' h => ⟨h.1, hw'.trans h.2⟩) (q_lss rfl rfl (q_not rfl (q_nil ?_)))))))))))))))
      intro w2 hE2
      refine W_if rfl (fun he => ?_) (fun he => ?_)
      · have he : 0 ≤ cmp (f (mid + m - 1 - h)) (f h) := by simpa using he
        refine W_reg rfl (s_mv rfl (s_add rfl rfl (by omega) (s_as rfl (s_nil ?_))))
        refine ⟨r - (h + 1), by omega, _, h + 1, r, u10 rfl rfl rfl rfl rfl rfl rfl rfl rfl rfl, by omega, by omega, hr0, rfl, hE.trans hE2, fun p h1 h2 => ?_, hhi⟩
        by_cases e : p = h
        · subst e; exact he
        · have k1 := hL p h (by omega) (by omega) (by omega)
          have k2 := hR (mid + m - 1 - h) (mid + m - 1 - p) (by omega) (by omega) (by omega)
          exact ho.tr _ _ _ (ho.tr _ _ _ k1 he) k2
      · have he : cmp (f (mid + m - 1 - h)) (f h) < 0 := by simpa using he
        refine W_reg rfl (s_mv rfl (s_as rfl (s_nil ?_)))
        refine ⟨h - s, by omega, _, s, h, u10 rfl rfl rfl rfl rfl rfl rfl rfl rfl rfl, hs0, by omega, by omega, rfl, hE.trans hE2, hlo, fun p h1 h2 => ?_⟩
        by_cases e : p = h
        · subst e; exact he
        · have k1 := hL h p (by omega) (by omega) (by omega)
          have k2 := hR (mid + m - 1 - p) (mid + m - 1 - h) (by omega) (by omega) (by omega)
          by_cases hx : cmp (f (mid + m - 1 - p)) (f p) < 0
          · exact hx
          · exact absurd (ho.tr _ _ _ k1 (ho.tr _ _ _ (show 0 ≤ cmp (f (mid + m - 1 - p)) (f p) by omega) k2)) (by omega)
    · have hd := of_decide_eq_false hd
      have hsr : r = s := by omega
      subst hsr
      obtain ⟨e, he⟩ : ∃ e, e = mid + m - r := ⟨_, rfl⟩
      have hH : Halves cmp (rotF f r m e) a r mid e b := by
        refine sym_halves ho hL hR (by omega) (by omega) (by omega) (by omega) (by omega) (by omega) (fun h1 h2 => ?_) (fun h1 h2 => ?_)
        · have h3 : s0 < r := by
            by_cases h3 : s0 < r
            · exact h3
            · have : s0 = r := by omega
              subst this
              have := p6 h1
              omega
          have := hlo (r - 1) (by omega) (by omega)
          rwa [show mid + m - 1 - (r - 1) = e by omega] at this
        · have := hhi r (by omega) (by omega)
          rwa [show mid + m - 1 - r = e - 1 by omega] at this
      have hA1 : ArrR ruC w1 g n f := ⟨cs, ty, Ext.heap hE hh, hsz, hc⟩
      refine W_sr rfl (s_mv rfl (s_mv rfl (s_sub rfl rfl (by omega) (s_as rfl (s_nil ?_)))))
      clear hlo hhi hK
      refine W_sk fun K hK => ?_
      have H1 : ∀ (ρ : Fr) w', ρ 0 = .slice (some ⟨g, 0, none⟩) n c → ρ 1 = iV a → ρ 3 = iV b → ρ 4 = .func (.func gc) #[] #[] → ρ 18 = iV mid → ρ 20 = iV r → ρ 24 = iV e → ArrR ruC w' g n (rotF f r m e) → Pm a b f (rotF f r m e) → Mod (fun k => k = g) w w' → K ρ w' := by
        intro ρ w2 q0 q1 q3 q4 q18 q20 q24 hA2 hP2 hM2
        rw [u7 q0 q1 q3 q4 q18 q20 q24]
        refine hK _ _ ?_
        clear hK
        refine W_sk fun K hK => ?_
        have H2 : ∀ (ρ : Fr) w' f3, ρ 0 = .slice (some ⟨g, 0, none⟩) n c → ρ 3 = iV b → ρ 4 = .func (.func gc) #[] #[] → ρ 18 = iV mid → ρ 24 = iV e → ArrR ruC w' g n f3 → Pm a mid (rotF f r m e) f3 → Srt cmp f3 a mid → Mod (fun k => k = g) w w' → K ρ w' := by
          intro ρ w3 f3 q0 q3 q4 q18 q24 hA3 hP3 hS3 hM3
          rw [u5 q0 q3 q4 q18 q24]
          refine hK _ _ ?_
          have R1 : Srt cmp f3 mid e := fun p q h1 h2 h3 => by rw [hP3.out (.inr (by omega)), hP3.out (.inr h1)]; exact hH.r1 p q h1 h2 h3
          have R2 : Srt cmp f3 e b := fun p q h1 h2 h3 => by rw [hP3.out (.inr (by omega)), hP3.out (.inr (by omega))]; exact hH.r2 p q h1 h2 h3
          have stay : ¬ (mid < e ∧ e < b) → Srt cmp f3 mid b := fun h => by
            by_cases h1 : mid < e
            · exact R1.sub (by omega) (by omega)
            · exact R2.sub (by omega) (by omega)
          have done : ∀ f4 w4, ArrR ruC w4 g n f4 → Pm mid b f3 f4 → Srt cmp f4 mid b → Mod (fun k => k = g) w w4 → ∃ v, v = Value.tuple #[] ∧ (v = .tuple #[] ∧ ∃ f', ArrR ruC w4 g n f' ∧ Pm a b f f' ∧ Srt cmp f' a b ∧ Mod (fun k => k = g) w w4) := fun f4 w4 h1 h2 h3 h4 =>
            ⟨_, rfl, rfl, f4, h1, (hP2.trans (hP3.mono (by omega) (by omega))).trans (h2.mono (by omega) (by omega)),
              srt_join (fun p q g1 g2 g3 => by rw [h2.out (.inl (by omega)), h2.out (.inl (by omega))]; exact hS3 p q g1 g2 g3) h3 (cross_pm hP3 h2 hH.cross), h4⟩
          by_cases h0 : (mid : Int) < e
          · by_cases h1 : (e : Int) < b
            · refine W_sr rfl (s_mv rfl (s_mv rfl (s_cmp (c := true) rfl rfl (decide_eq_true h0) (s_mv rfl (s_g1 rfl (s_mv rfl (s_g1 rfl (s_mv rfl (s_g1 rfl (s_cmp (c := true) rfl rfl (decide_eq_true h1) (s_pk rfl (s_nil ?_))))))))))))
              refine W_if rfl (fun _ => ?_) (fun h => by cases h)
              refine W_reg rfl (s_mv rfl (s_mv rfl (s_mv rfl (s_mv rfl (s_mv rfl (s_callx rfl rfl (ih (w := w3) (f := f3) (a := mid) (m := e) (b := b) (by omega) (by omega) (by omega) hb hA3 R1 R2) fun w4 h4 => (s_nil ?_)))))))
              obtain ⟨f4, h4, h5, h6, h7⟩ := h4
              obtain ⟨_, rfl, h8⟩ := done f4 w4 h4 h5 h6 (hM3.trans h7)
              exact ⟨_, rfl, h8⟩
            · refine W_sr rfl (s_mv rfl (s_mv rfl (s_cmp (c := true) rfl rfl (decide_eq_true h0) (s_mv rfl (s_g1 rfl (s_mv rfl (s_g1 rfl (s_mv rfl (s_g1 rfl (s_cmp (c := false) rfl rfl (decide_eq_false h1) (s_pk rfl (s_nil ?_))))))))))))
              refine W_if rfl (fun h => by cases h) (fun _ => W_skip ?_)
              obtain ⟨_, rfl, h8⟩ := done f3 w3 hA3 .refl (stay (by omega)) hM3
              exact ⟨_, rfl, h8⟩
          · refine W_sr rfl (s_mv rfl (s_mv rfl (s_cmp (c := false) rfl rfl (decide_eq_false h0) (s_mv rfl (s_g0 rfl (s_g0 rfl (s_g0 rfl (s_pk rfl (s_nil ?_)))))))))
            refine W_if rfl (fun h => by cases h) (fun _ => W_skip ?_)
            obtain ⟨_, rfl, h8⟩ := done f3 w3 hA3 .refl (stay (by omega)) hM3
            exact ⟨_, rfl, h8⟩
        have stay : ¬ (a < r ∧ r < mid) → Srt cmp (rotF f r m e) a mid := fun h => by
          by_cases h1 : a < r
          · exact hH.l1.sub (by omega) (by omega)
          · exact hH.l2.sub (by omega) (by omega)
        by_cases h0 : (a : Int) < r
        · by_cases h1 : (r : Int) < mid
          · refine W_sr rfl (s_mv rfl (s_mv rfl (s_cmp (c := true) rfl rfl (decide_eq_true h0) (s_mv rfl (s_g1 rfl (s_mv rfl (s_g1 rfl (s_mv rfl (s_g1 rfl (s_cmp (c := true) rfl rfl (decide_eq_true h1) (s_pk rfl (s_nil ?_))))))))))))
            refine W_if rfl (fun _ => ?_) (fun h => by cases h)
            refine W_reg rfl (s_mv rfl (s_mv rfl (s_mv rfl (s_mv rfl (s_mv rfl (s_callx rfl rfl (ih (w := w2) (f := rotF f r m e) (a := a) (m := r) (b := mid) (by omega) (by omega) (by omega) (by omega) hA2 hH.l1 hH.l2) fun w4 h4 => (s_nil ?_)))))))
            obtain ⟨f4, h4, h5, h6, h7⟩ := h4
            exact H2 _ _ f4 rfl rfl rfl rfl rfl h4 h5 h6 (hM2.trans h7)
          · refine W_sr rfl (s_mv rfl (s_mv rfl (s_cmp (c := true) rfl rfl (decide_eq_true h0) (s_mv rfl (s_g1 rfl (s_mv rfl (s_g1 rfl (s_mv rfl (s_g1 rfl (s_cmp (c := false) rfl rfl (decide_eq_false h1) (s_pk rfl (s_nil ?_))))))))))))
            refine W_if rfl (fun h => by cases h) (fun _ => W_skip ?_)
            exact H2 _ _ _ rfl rfl rfl rfl rfl hA2 .refl (stay (by omega)) hM2
        · refine W_sr rfl (s_mv rfl (s_mv rfl (s_cmp (c := false) rfl rfl (decide_eq_false h0) (s_mv rfl (s_g0 rfl (s_g0 rfl (s_g0 rfl (s_pk rfl (s_nil ?_)))))))))
          refine W_if rfl (fun h => by cases h) (fun _ => W_skip ?_)
          exact H2 _ _ _ rfl rfl rfl rfl rfl hA2 .refl (stay (by omega)) hM2
      have ee : (mid : Int) + m - r = e := by omega
      by_cases h0 : (r : Int) < m
      · by_cases h1 : (m : Int) < e
        · refine W_sr rfl (s_mv rfl (s_mv rfl (s_cmp (c := true) rfl rfl (decide_eq_true h0) (s_mv rfl (s_g1 rfl (s_mv rfl (s_g1 rfl (s_mv rfl (s_g1 rfl (s_cmp (c := true) rfl rfl (decide_eq_true (by rw [ee]; exact h1)) (s_pk rfl (s_nil ?_))))))))))))
          refine W_if rfl (fun _ => ?_) (fun h => by cases h)
          have call := slices_rotate_LigRule_c (c := c) (cv := .func (.func gc) #[] #[]) (a := r) (m := m) (b := e) hA1 (by omega) (by omega) (by omega) hn
          rw [← ee] at call
          refine W_reg rfl (s_mv rfl (s_mv rfl (s_mv rfl (s_mv rfl (s_mv rfl (s_callx rfl rfl call fun w4 h4 => (s_nil ?_)))))))
          exact H1 _ _ rfl rfl rfl rfl rfl rfl (congrArg iV ee) h4.1 (h4.2.1.mono (by omega) (by omega)) ((Mod.of_ext hE).trans h4.2.2)
        · refine W_sr rfl (s_mv rfl (s_mv rfl (s_cmp (c := true) rfl rfl (decide_eq_true h0) (s_mv rfl (s_g1 rfl (s_mv rfl (s_g1 rfl (s_mv rfl (s_g1 rfl (s_cmp (c := false) rfl rfl (decide_eq_false (by rw [ee]; exact h1)) (s_pk rfl (s_nil ?_))))))))))))
          refine W_if rfl (fun h => by cases h) (fun _ => W_skip ?_)
          have e0 := rot_none (f := f) (s := r) (m := m) (e := e) (.inr (by omega)) (by omega) (by omega)
          exact H1 _ _ rfl rfl rfl rfl rfl rfl (congrArg iV ee) (by rw [e0]; exact hA1) (by rw [e0]; exact .refl) (Mod.of_ext hE)
      · refine W_sr rfl (s_mv rfl (s_mv rfl (s_cmp (c := false) rfl rfl (decide_eq_false h0) (s_mv rfl (s_g0 rfl (s_g0 rfl (s_g0 rfl (s_pk rfl (s_nil ?_)))))))))
        refine W_if rfl (fun h => by cases h) (fun _ => W_skip ?_)
        have e0 := rot_none (f := f) (s := r) (m := m) (e := e) (.inl (by omega)) (by omega) (by omega)
        exact H1 _ _ rfl rfl rfl rfl rfl rfl (congrArg iV ee) (by rw [e0]; exact hA1) (by rw [e0]; exact .refl) (Mod.of_ext hE)
  refine W_if rfl (fun hd => ?_) (fun hd => ?_)
  · have hd := of_decide_eq_true hd
    refine W_sr rfl (s_mv rfl (s_mv rfl (s_sub rfl rfl (by omega) (s_as rfl (s_nil ?_)))))
    refine W_reg rfl (s_mv rfl (s_as rfl (s_nil ?_)))
    exact H _ (mid + m - b) mid (by omega) (by omega) (by omega) (by omega) (by omega) (by omega) (.inl rfl) rfl rfl rfl rfl rfl rfl rfl (congrArg iV (show (mid : Int) + m - b = ((mid + m - b : Nat) : Int) by omega)) rfl
  · have hd := of_decide_eq_false hd
    refine W_sr rfl (s_mv rfl (s_as rfl (s_nil ?_)))
    refine W_reg rfl (s_mv rfl (s_as rfl (s_nil ?_)))
    exact H _ a m (by omega) (by omega) (by omega) (by omega) (by omega) (by omega) (.inr rfl) rfl rfl rfl rfl rfl rfl rfl rfl rfl
end
end Go.Proofs.YthfnijlgmjkedaaGreat
namespace Go.Proofs.YthfnijlgmjkedaaGreat
set_option maxRecDepth 100000
set_option maxHeartbeats 1000000
set_option linter.unusedVariables false
set_option linter.unusedSimpArgs false
open Go Go.Fx Go.Proofs.YthfnijlgmjkedaaGreat.Tab
section
variable {α : Type} {cmp : α → α → Int} {f f' : Nat → α} {a n bs t : Nat}
def Dn (cmp : α → α → Int) (f : Nat → α) (bs a : Nat) : Prop := ∀ u, (u + 1) * bs ≤ a → Srt cmp f (u * bs) ((u + 1) * bs)
def Bl (cmp : α → α → Int) (f : Nat → α) (bs n : Nat) : Prop := ∀ u, Srt cmp f (u * bs) (min ((u + 1) * bs) n)
theorem Dn.zero (hb : 0 < bs) : Dn cmp f bs 0 := fun u h => by
  have := Nat.mul_le_mul_right bs (show 1 ≤ u + 1 by omega)
  omega
theorem Dn.step (h : Dn cmp f bs a) (ha : a = t * bs) (hb : 0 < bs) (hp : Pm a (a + bs) f f') (hs : Srt cmp f' a (a + bs)) : Dn cmp f' bs (a + bs) := by
  intro u hu
  by_cases e : u = t
  · subst e
    rw [Nat.succ_mul, ← ha]; exact hs
  · have hut : u < t := by
      by_cases hx : u < t
      · exact hx
      · have h1 := Nat.mul_le_mul_right bs (show t + 2 ≤ u + 1 by omega)
        rw [Nat.add_mul] at h1
        omega
    have h1 := Nat.mul_le_mul_right bs (show u + 1 ≤ t by omega)
    intro p q h2 h3 h4
    rw [hp.out (.inl (by omega)), hp.out (.inl (by omega))]
    exact h u (by omega) p q h2 h3 h4
theorem Dn.bl (h : Dn cmp f bs a) (ha : a = t * bs) (hs : Srt cmp f a n) (han : a ≤ n) (hn : n < a + bs) : Bl cmp f bs n := by
  intro u
  by_cases e : u = t
  · subst e
    rw [← ha]; exact hs.sub (by omega) (by omega)
  · by_cases hut : u < t
    · have h1 := Nat.mul_le_mul_right bs (show u + 1 ≤ t by omega)
      exact (h u (by omega)).sub (by omega) (by omega)
    · have h1 := Nat.mul_le_mul_right bs (show t + 1 ≤ u by omega)
      rw [Nat.succ_mul] at h1
      intro p q h2 h3 h4
      omega
theorem Bl.two (h : Bl cmp f bs n) (ha : a = t * (2 * bs)) : Srt cmp f a (min (a + bs) n) ∧ Srt cmp f (a + bs) (min (a + 2 * bs) n) := by
  have e : 2 * t * bs = a := by rw [ha, Nat.mul_comm 2 t, Nat.mul_assoc]
  have h1 := h (2 * t)
  have h2 := h (2 * t + 1)
  have e1 : (2 * t + 1) * bs = a + bs := by rw [Nat.add_mul, e, Nat.one_mul]
  have e2 : (2 * t + 1 + 1) * bs = a + 2 * bs := by rw [Nat.add_mul, e1, Nat.one_mul]; omega
  rw [e, e1] at h1
  rw [e1, e2] at h2
  exact ⟨h1, h2.sub (by omega) (by omega)⟩
end
section
variable {w : World} {g n c : Nat}
theorem slices_stable_CharMetric_c {f : Nat → Ch} {gc : FuncId} {cmp : Ch → Ch → Int} (ho : Ordr cmp) (hg : ∀ x y w, Ret Go.Proofs.Tryz.prog gc #[chV x, chV y] w fun v w' => v = iV (cmp x y) ∧ Ext w w') (hn : n ≤ 1000000) (h : ArrR chC w g n f) :
    Ret Go.Proofs.Tryz.prog 105 #[.slice (some ⟨g, 0, none⟩) n c, iV n, .func (.func gc) #[] #[]] w fun v w' => v = .tuple #[] ∧ ∃ f', ArrR chC w' g n f' ∧ Pm 0 n f f' ∧ Srt cmp f' 0 n ∧ Mod (fun k => k = g) w w' := by
  refine enter Go.Proofs.Tryz.func105 rfl rfl rfl ?_
  refine W_sr rfl (s_as rfl (s_nil ?_))
  refine W_sr rfl (s_mv rfl (s_as rfl (s_as rfl (s_nil ?_))))
  refine W_seq ?_
  refine W_block ?_
  refine W_loop (fun q ρ w' => ∃ ρ' a f' t, ρ = upd (upd (upd (upd (upd (upd ρ' 0 (.slice (some ⟨g, 0, none⟩) n c)) 1 (iV n)) 2 (.func (.func gc) #[] #[])) 6 (iV 20)) 7 (iV (a : Nat))) 8 (iV ((a + 20 : Nat) : Int)) ∧ a ≤ n ∧ q = n - a ∧ a = t * 20 ∧ ArrR chC w' g n f' ∧ Pm 0 n f f' ∧ Dn cmp f' 20 a ∧ Mod (fun k => k = g) w w') n
    ⟨_, 0, f, 0, u6 rfl rfl rfl rfl rfl rfl, by omega, by omega, rfl, h, .refl, Dn.zero (by omega), Mod.refl⟩ ?_
  rintro q _ w1 ⟨ρ, a, f1, t, rfl, han, rfl, hat, hA, hP, hD, hM⟩
  refine W_seq ?_
  refine W_sr rfl (s_mv rfl (s_mv rfl (s_leq rfl rfl (s_nil ?_))))
  refine W_if rfl (fun hd => W_skip ?_) (fun hd => W_exit ?_)
  · have hd := of_decide_eq_true hd
    refine W_block ?_
    refine W_sr rfl (s_mv rfl (s_mv rfl (s_mv rfl (s_mv rfl (s_callx rfl rfl (slices_insertionSort_CharMetric_c ho hg hA (show a ≤ a + 20 by omega) (by omega) hn) fun w2 h2 => (s_nil ?_))))))
    obtain ⟨f2, hA2, hP2, hS2, hM2⟩ := h2
    refine W_sr rfl (s_mv rfl (s_as rfl (s_nil ?_)))
    refine W_reg rfl (s_mv rfl (s_mv rfl (s_add rfl rfl (by omega) (s_as rfl (s_nil ?_)))))
    refine ⟨n - (a + 20), by omega, _, a + 20, f2, t + 1, u6 rfl rfl rfl rfl rfl rfl, by omega, rfl, by rw [Nat.succ_mul, hat], hA2, hP.trans (hP2.mono (by omega) (by omega)), hD.step hat (by omega) hP2 hS2, hM.trans hM2⟩
  have hd := of_decide_eq_false hd
  refine W_sr rfl (s_mv rfl (s_mv rfl (s_mv rfl (s_mv rfl (s_callx rfl rfl (slices_insertionSort_CharMetric_c ho hg hA han (Nat.le_refl n) hn) fun w2 h2 => (s_nil ?_))))))
  obtain ⟨f2, hA2, hP2, hS2, hM2⟩ := h2
  have hB : Bl cmp f2 20 n := by
    refine Dn.bl (t := t) (a := a) (fun u hu => ?_) hat hS2 han (by omega)
    intro p q h1 h2 h3
    rw [hP2.out (.inl (by omega)), hP2.out (.inl (by omega))]
    exact hD u hu p q h1 h2 h3
  refine W_block ?_
  refine W_loop (fun q ρ w' => ∃ ρ' bs f', ρ = upd (upd (upd (upd ρ' 0 (.slice (some ⟨g, 0, none⟩) n c)) 1 (iV n)) 2 (.func (.func gc) #[] #[])) 6 (iV (bs : Nat)) ∧ 0 < bs ∧ bs ≤ 2000000 ∧ q = 2000000 - bs ∧ ArrR chC w' g n f' ∧ Pm 0 n f f' ∧ Bl cmp f' bs n ∧ Mod (fun k => k = g) w w') (2000000 - 20)
    ⟨_, 20, f2, u4 rfl rfl rfl rfl, by omega, by omega, rfl, hA2, hP.trans (hP2.mono (by omega) (by omega)), hB, hM.trans hM2⟩ ?_
  clear hA hP hD hM hA2 hP2 hS2 hM2 hB
  rintro q _ w3 ⟨ρ, bs, f3, rfl, hb0, hbs, rfl, hA, hP, hB, hM⟩
  refine W_seq ?_
  refine W_sr rfl (s_mv rfl (s_mv rfl (s_lss rfl rfl (s_nil ?_))))
  refine W_if rfl (fun hd => W_skip ?_) (fun hd => W_exit ?_)
  · have hd := of_decide_eq_true hd
    have hbn : bs < n := by omega
    refine W_block ?_
    refine W_sr rfl (s_mv rfl (s_mul rfl rfl (by omega) (s_as rfl (s_as rfl (s_nil ?_)))))
    refine W_seq ?_
    refine W_block ?_
    refine W_loop (fun q ρ w' => ∃ ρ' a f' t, ρ = upd (upd (upd (upd (upd (upd ρ' 0 (.slice (some ⟨g, 0, none⟩) n c)) 1 (iV n)) 2 (.func (.func gc) #[] #[])) 6 (iV (bs : Nat))) 7 (iV (a : Nat))) 8 (iV ((a : Int) + 2 * bs)) ∧ a ≤ n ∧ q = n - a ∧ a = t * (2 * bs) ∧ ArrR chC w' g n f' ∧ Pm 0 a f3 f' ∧ Dn cmp f' (2 * bs) a ∧ Mod (fun k => k = g) w w') n
      ⟨_, 0, f3, 0, u6 rfl rfl rfl rfl rfl (congrArg iV (show (2 : Int) * bs = ((0 : Nat) : Int) + 2 * bs by omega)), by omega, rfl, (Nat.zero_mul _).symm, hA, .refl, Dn.zero (by omega), hM⟩ ?_
    clear hA hM
    rintro q _ w4 ⟨ρ, a, f4, t, rfl, han, rfl, hat, hA, hP4, hD, hM⟩
    refine W_seq ?_
    refine W_sr rfl (s_mv rfl (s_mv rfl (s_leq rfl rfl (s_nil ?_))))
    have two := hB.two hat
    have same : ∀ u v, a ≤ u → Srt cmp f3 u v → Srt cmp f4 u v := fun u v hu hs p q h1 h2 h3 => by
      rw [hP4.out (.inr (by omega)), hP4.out (.inr (by omega))]; exact hs p q h1 h2 h3
    refine W_if rfl (fun he => W_skip ?_) (fun he => W_exit ?_)
    · have he := of_decide_eq_true he
      refine W_block ?_
      have call := slices_symMerge_CharMetric_c (g := g) (c := c) ho hg hn (2 * bs) (w := w4) (f := f4) (a := a) (m := a + bs) (b := a + 2 * bs) (by omega) (by omega) (by omega) (by omega) hA (same _ _ (by omega) (two.1.sub (by omega) (by omega))) (same _ _ (by omega) (two.2.sub (by omega) (by omega)))
      rw [show ((a + bs : Nat) : Int) = (a : Int) + bs by omega, show ((a + 2 * bs : Nat) : Int) = (a : Int) + 2 * bs by omega] at call
      refine W_sr rfl (s_mv rfl (s_mv rfl (s_mv rfl (s_mv rfl (s_add rfl rfl (by omega) (s_mv rfl (s_mv rfl (s_callx rfl rfl call fun w5 h5 => (s_nil ?_)))))))))
      obtain ⟨f5, hA5, hP5, hS5, hM5⟩ := h5
      refine W_sr rfl (s_mv rfl (s_as rfl (s_nil ?_)))
      refine W_reg rfl (s_mv rfl (s_mv rfl (s_mul rfl rfl (by omega) (s_add rfl rfl (by omega) (s_as rfl (s_nil ?_))))))
      refine ⟨n - (a + 2 * bs), by omega, _, a + 2 * bs, f5, t + 1, u6 rfl rfl rfl rfl (congrArg iV (show (a : Int) + 2 * bs = ((a + 2 * bs : Nat) : Int) by omega)) (congrArg iV (show (a : Int) + 2 * bs + 2 * bs = ((a + 2 * bs : Nat) : Int) + 2 * bs by omega)), by omega, rfl, (by rw [hat]; exact (Nat.succ_mul t (2 * bs)).symm), hA5, (hP4.mono (by omega) (by omega)).trans (hP5.mono (by omega) (by omega)), hD.step hat (by omega) hP5 hS5, hM.trans hM5⟩
    · have he := of_decide_eq_false he
      have last : ∀ (ρ : Fr) w' f5, ρ 0 = .slice (some ⟨g, 0, none⟩) n c → ρ 1 = iV n → ρ 2 = .func (.func gc) #[] #[] → ρ 6 = iV bs → ArrR chC w' g n f5 → Pm a n f4 f5 → Srt cmp f5 a n → Mod (fun k => k = g) w w' →
          ∃ m', m' < 2000000 - bs ∧ ∃ ρ' bs' f', upd (upd (upd ρ 61 (iV bs)) 62 (iV ((bs : Int) * 2))) 6 (iV ((bs : Int) * 2)) = upd (upd (upd (upd ρ' 0 (.slice (some ⟨g, 0, none⟩) n c)) 1 (iV n)) 2 (.func (.func gc) #[] #[])) 6 (iV (bs' : Nat)) ∧ 0 < bs' ∧ bs' ≤ 2000000 ∧ m' = 2000000 - bs' ∧ ArrR chC w' g n f' ∧ Pm 0 n f f' ∧ Bl cmp f' bs' n ∧ Mod (fun k => k = g) w w' := by
        intro ρ w' f5 q0 q1 q2 q6 hA5 hP5 hS5 hM5
        refine ⟨2000000 - 2 * bs, by omega, _, 2 * bs, f5, u4 q0 q1 q2 (congrArg iV (show (bs : Int) * 2 = ((2 * bs : Nat) : Int) by omega)), by omega, by omega, rfl, hA5, hP.trans ((hP4.mono (by omega) (by omega)).trans (hP5.mono (by omega) (by omega))), ?_, hM5⟩
        refine Dn.bl (t := t) (a := a) (fun u hu p q h1 h2 h3 => ?_) hat hS5 han (by omega)
        rw [hP5.out (.inl (by omega)), hP5.out (.inl (by omega))]
        exact hD u hu p q h1 h2 h3
      refine W_seq ?_
      refine W_sr rfl (s_mv rfl (s_mv rfl (s_add rfl rfl (by omega) (s_as rfl (s_nil ?_)))))
      refine W_sr rfl (s_mv rfl (s_mv rfl (s_lss rfl rfl (s_nil ?_))))
      refine W_if rfl (fun hf => ?_) (fun hf => W_skip ?_)
      · have hf := of_decide_eq_true hf
        have call := slices_symMerge_CharMetric_c (g := g) (c := c) ho hg hn n (w := w4) (f := f4) (a := a) (m := a + bs) (b := n) (by omega) (by omega) (by omega) (by omega) hA (same _ _ (by omega) (two.1.sub (by omega) (by omega))) (same _ _ (by omega) (two.2.sub (by omega) (by omega)))
        rw [show ((a + bs : Nat) : Int) = (a : Int) + bs by omega] at call
        refine W_reg rfl (s_mv rfl (s_mv rfl (s_mv rfl (s_mv rfl (s_mv rfl (s_callx rfl rfl call fun w5 h5 => (s_nil ?_)))))))
        obtain ⟨f5, hA5, hP5, hS5, hM5⟩ := h5
        refine W_reg rfl (s_mv rfl (s_mul rfl rfl (by omega) (s_as rfl (s_nil ?_))))
        exact last _ _ f5 rfl rfl rfl rfl hA5 hP5 hS5 (hM.trans hM5)
      · have hf := of_decide_eq_false hf
        refine W_reg rfl (s_mv rfl (s_mul rfl rfl (by omega) (s_as rfl (s_nil ?_))))
        exact last _ _ f4 rfl rfl rfl rfl hA .refl (same _ _ (by omega) (two.1.sub (by omega) (by omega))) hM
  · have hd := of_decide_eq_false hd
    have h0 := hB 0
    refine ⟨_, rfl, rfl, f3, hA, hP, h0.sub (by omega) (by omega), hM⟩
theorem slices_SortStable_CharMetric_c {f : Nat → Ch} {gc : FuncId} {cmp : Ch → Ch → Int} (ho : Ordr cmp) (hg : ∀ x y w, Ret Go.Proofs.Tryz.prog gc #[chV x, chV y] w fun v w' => v = iV (cmp x y) ∧ Ext w w') (hn : n ≤ 1000000) (h : ArrR chC w g n f) :
    Ret Go.Proofs.Tryz.prog 90 #[.slice (some ⟨g, 0, none⟩) n c, .func (.func gc) #[] #[]] w fun v w' => v = .tuple #[] ∧ ∃ f', ArrR chC w' g n f' ∧ Pm 0 n f f' ∧ Srt cmp f' 0 n ∧ Mod (fun k => k = g) w w' := by
  refine enter Go.Proofs.Tryz.func90 rfl rfl rfl ?_
  refine W_reg rfl (s_mv rfl (s_mv rfl (s_len E rfl rfl (s_mv rfl (s_callx rfl rfl (slices_stable_CharMetric_c ho hg hn h) fun w2 h2 => (s_nil ?_))))))
  exact ⟨_, rfl, rfl, h2⟩
theorem slices_stable_LigRule_c {f : Nat → Ru} {gc : FuncId} {cmp : Ru → Ru → Int} (ho : Ordr cmp) (hg : ∀ x y w, Ret Go.Proofs.Tryz.prog gc #[ruV x, ruV y] w fun v w' => v = iV (cmp x y) ∧ Ext w w') (hn : n ≤ 1000000) (h : ArrR ruC w g n f) :
    Ret Go.Proofs.Tryz.prog 106 #[.slice (some ⟨g, 0, none⟩) n c, iV n, .func (.func gc) #[] #[]] w fun v w' => v = .tuple #[] ∧ ∃ f', ArrR ruC w' g n f' ∧ Pm 0 n f f' ∧ Srt cmp f' 0 n ∧ Mod (fun k => k = g) w w' := by
  refine enter Go.Proofs.Tryz.func106 rfl rfl rfl ?_
  refine W_sr rfl (s_as rfl (s_nil ?_))
  refine W_sr rfl (s_mv rfl (s_as rfl (s_as rfl (s_nil ?_))))
  refine W_seq ?_
  refine W_block ?_
  refine W_loop (fun q ρ w' => ∃ ρ' a f' t, ρ = upd (upd (upd (upd (upd (upd ρ' 0 (.slice (some ⟨g, 0, none⟩) n c)) 1 (iV n)) 2 (.func (.func gc) #[] #[])) 6 (iV 20)) 7 (iV (a : Nat))) 8 (iV ((a + 20 : Nat) : Int)) ∧ a ≤ n ∧ q = n - a ∧ a = t * 20 ∧ ArrR ruC w' g n f' ∧ Pm 0 n f f' ∧ Dn cmp f' 20 a ∧ Mod (fun k => k = g) w w') n
    ⟨_, 0, f, 0, u6 rfl rfl rfl rfl rfl rfl, by omega, by omega, rfl, h, .refl, Dn.zero (by omega), Mod.refl⟩ ?_
  rintro q _ w1 ⟨ρ, a, f1, t, rfl, han, rfl, hat, hA, hP, hD, hM⟩
  refine W_seq ?_
  refine W_sr rfl (s_mv rfl (s_mv rfl (s_leq rfl rfl (s_nil ?_))))
  refine W_if rfl (fun hd => W_skip ?_) (fun hd => W_exit ?_)
  · have hd := of_decide_eq_true hd
    refine W_block ?_
    refine W_sr rfl (s_mv rfl (s_mv rfl (s_mv rfl (s_mv rfl (s_callx rfl rfl (slices_insertionSort_LigRule_c ho hg hA (show a ≤ a + 20 by omega) (by omega) hn) fun w2 h2 => (s_nil ?_))))))
    obtain ⟨f2, hA2, hP2, hS2, hM2⟩ := h2
    refine W_sr rfl (s_mv rfl (s_as rfl (s_nil ?_)))
    refine W_reg rfl (s_mv rfl (s_mv rfl (s_add rfl rfl (by omega) (s_as rfl (s_nil ?_)))))
    refine ⟨n - (a + 20), by omega, _, a + 20, f2, t + 1, u6 rfl rfl rfl rfl rfl rfl, by omega, rfl, by rw [Nat.succ_mul, hat], hA2, hP.trans (hP2.mono (by omega) (by omega)), hD.step hat (by omega) hP2 hS2, hM.trans hM2⟩
  have hd := of_decide_eq_false hd
  refine W_sr rfl (s_mv rfl (s_mv rfl (s_mv rfl (s_mv rfl (s_callx rfl rfl (slices_insertionSort_LigRule_c ho hg hA han (Nat.le_refl n) hn) fun w2 h2 => (s_nil ?_))))))
  obtain ⟨f2, hA2, hP2, hS2, hM2⟩ := h2
  have hB : Bl cmp f2 20 n := by
    refine Dn.bl (t := t) (a := a) (fun u hu => ?_) hat hS2 han (by omega)
    intro p q h1 h2 h3
    rw [hP2.out (.inl (by omega)), hP2.out (.inl (by omega))]
    exact hD u hu p q h1 h2 h3
  refine W_block ?_
  refine W_loop (fun q ρ w' => ∃ ρ' bs f', ρ = upd (upd (upd (upd ρ' 0 (.slice (some ⟨g, 0, none⟩) n c)) 1 (iV n)) 2 (.func (.func gc) #[] #[])) 6 (iV (bs : Nat)) ∧ 0 < bs ∧ bs ≤ 2000000 ∧ q = 2000000 - bs ∧ ArrR ruC w' g n f' ∧ Pm 0 n f f' ∧ Bl cmp f' bs n ∧ Mod (fun k => k = g) w w') (2000000 - 20)
    ⟨_, 20, f2, u4 rfl rfl rfl rfl, by omega, by omega, rfl, hA2, hP.trans (hP2.mono (by omega) (by omega)), hB, hM.trans hM2⟩ ?_
  clear hA hP hD hM hA2 hP2 hS2 hM2 hB
  rintro q _ w3 ⟨ρ, bs, f3, rfl, hb0, hbs, rfl, hA, hP, hB, hM⟩
  refine W_seq ?_
  refine W_sr rfl (s_mv rfl (s_mv rfl (s_lss rfl rfl (s_nil ?_))))
  refine W_if rfl (fun hd => W_skip ?_) (fun hd => W_exit ?_)
  · have hd := of_decide_eq_true hd
    have hbn : bs < n := by omega
    refine W_block ?_
    refine W_sr rfl (s_mv rfl (s_mul rfl rfl (by omega) (s_as rfl (s_as rfl (s_nil ?_)))))
    refine W_seq ?_
    refine W_block ?_
    refine W_loop (fun q ρ w' => ∃ ρ' a f' t, ρ = upd (upd (upd (upd (upd (upd ρ' 0 (.slice (some ⟨g, 0, none⟩) n c)) 1 (iV n)) 2 (.func (.func gc) #[] #[])) 6 (iV (bs : Nat))) 7 (iV (a : Nat))) 8 (iV ((a : Int) + 2 * bs)) ∧ a ≤ n ∧ q = n - a ∧ a = t * (2 * bs) ∧ ArrR ruC w' g n f' ∧ Pm 0 a f3 f' ∧ Dn cmp f' (2 * bs) a ∧ Mod (fun k => k = g) w w') n
      ⟨_, 0, f3, 0, u6 rfl rfl rfl rfl rfl (congrArg iV (show (2 : Int) * bs = ((0 : Nat) : Int) + 2 * bs by omega)), by omega, rfl, (Nat.zero_mul _).symm, hA, .refl, Dn.zero (by omega), hM⟩ ?_
    clear hA hM
    rintro q _ w4 ⟨ρ, a, f4, t, rfl, han, rfl, hat, hA, hP4, hD, hM⟩
    refine W_seq ?_
    refine W_sr rfl (s_mv rfl (s_mv rfl (s_leq rfl rfl (s_nil ?_))))
    have two := hB.two hat
    have same : ∀ u v, a ≤ u → Srt cmp f3 u v → Srt cmp f4 u v := fun u v hu hs p q h1 h2 h3 => by
      rw [hP4.out (.inr (by omega)), hP4.out (.inr (by omega))]; exact hs p q h1 h2 h3
    refine W_if rfl (fun he => W_skip ?_) (fun he => W_exit ?_)
    · have he := of_decide_eq_true he
      refine W_block ?_
      have call := slices_symMerge_LigRule_c (g := g) (c := c) ho hg hn (2 * bs) (w := w4) (f := f4) (a := a) (m := a + bs) (b := a + 2 * bs) (by omega) (by omega) (by omega) (by omega) hA (same _ _ (by omega) (two.1.sub (by omega) (by omega))) (same _ _ (by omega) (two.2.sub (by omega) (by omega)))
      rw [show ((a + bs : Nat) : Int) = (a : Int) + bs by omega, show ((a + 2 * bs : Nat) : Int) = (a : Int) + 2 * bs by omega] at call
      refine W_sr rfl (s_mv rfl (s_mv rfl (s_mv rfl (s_mv rfl (s_add rfl rfl (by omega) (s_mv rfl (s_mv rfl (s_callx rfl rfl call fun w5 h5 => (s_nil ?_)))))))))
      obtain ⟨f5, hA5, hP5, hS5, hM5⟩ := h5
      refine W_sr rfl (s_mv rfl (s_as rfl (s_nil ?_)))
      refine W_reg rfl (s_mv rfl (s_mv rfl (s_mul rfl rfl (by omega) (s_add rfl rfl (by omega) (s_as rfl (s_nil ?_))))))
      refine ⟨n - (a + 2 * bs), by omega, _, a + 2 * bs, f5, t + 1, u6 rfl rfl rfl rfl (congrArg iV (show (a : Int) + 2 * bs = ((a + 2 * bs : Nat) : Int) by omega)) (congrArg iV (show (a : Int) + 2 * bs + 2 * bs = ((a + 2 * bs : Nat) : Int) + 2 * bs by omega)), by omega, rfl, (by rw [hat]; exact (Nat.succ_mul t (2 * bs)).symm), hA5, (hP4.mono (by omega) (by omega)).trans (hP5.mono (by omega) (by omega)), hD.step hat (by omega) hP5 hS5, hM.trans hM5⟩
    · have he := of_decide_eq_false he
      have last : ∀ (ρ : Fr) w' f5, ρ 0 = .slice (some ⟨g, 0, none⟩) n c → ρ 1 = iV n → ρ 2 = .func (.func gc) #[] #[] → ρ 6 = iV bs → ArrR ruC w' g n f5 → Pm a n f4 f5 → Srt cmp f5 a n → Mod (fun k => k = g) w w' →
          ∃ m', m' < 2000000 - bs ∧ ∃ ρ' bs' f', upd (upd (upd ρ 61 (iV bs)) 62 (iV ((bs : Int) * 2))) 6 (iV ((bs : Int) * 2)) = upd (upd (upd (upd ρ' 0 (.slice (some ⟨g, 0, none⟩) n c)) 1 (iV n)) 2 (.func (.func gc) #[] #[])) 6 (iV (bs' : Nat)) ∧ 0 < bs' ∧ bs' ≤ 2000000 ∧ m' = 2000000 - bs' ∧ ArrR ruC w' g n f' ∧ Pm 0 n f f' ∧ Bl cmp f' bs' n ∧ Mod (fun k => k = g) w w' := by
        intro ρ w' f5 q0 q1 q2 q6 hA5 hP5 hS5 hM5
        refine ⟨2000000 - 2 * bs, by omega, _, 2 * bs, f5, u4 q0 q1 q2 (congrArg iV (show (bs : Int) * 2 = ((2 * bs : Nat) : Int) by omega)), by omega, by omega, rfl, hA5, hP.trans ((hP4.mono (by omega) (by omega)).trans (hP5.mono (by omega) (by omega))), ?_, hM5⟩
        refine Dn.bl (t := t) (a := a) (fun u hu p q h1 h2 h3 => ?_) hat hS5 han (by omega)
        rw [hP5.out (.inl (by omega)), hP5.out (.inl (by omega))]
        exact hD u hu p q h1 h2 h3
      refine W_seq ?_
      refine W_sr rfl (s_mv rfl (s_mv rfl (s_add rfl rfl (by omega) (s_as rfl (s_nil ?_)))))
      refine W_sr rfl (s_mv rfl (s_mv rfl (s_lss rfl rfl (s_nil ?_))))
      refine W_if rfl (fun hf => ?_) (fun hf => W_skip ?_)
      · have hf := of_decide_eq_true hf
        have call := slices_symMerge_LigRule_c (g := g) (c := c) ho hg hn n (w := w4) (f := f4) (a := a) (m := a + bs) (b := n) (by omega) (by omega) (by omega) (by omega) hA (same _ _ (by omega) (two.1.sub (by omega) (by omega))) (same _ _ (by omega) (two.2.sub (by omega) (by omega)))
        rw [show ((a + bs : Nat) : Int) = (a : Int) + bs by omega] at call
        refine W_reg rfl (s_mv rfl (s_mv rfl (s_mv rfl (s_mv rfl (s_mv rfl (s_callx rfl rfl call fun w5 h5 => (s_nil ?_)))))))
        obtain ⟨f5, hA5, hP5, hS5, hM5⟩ := h5
        refine W_reg rfl (s_mv rfl (s_mul rfl rfl (by omega) (s_as rfl (s_nil ?_))))
        exact last _ _ f5 rfl rfl rfl rfl hA5 hP5 hS5 (hM.trans hM5)
      · have hf := of_decide_eq_false hf
        refine W_reg rfl (s_mv rfl (s_mul rfl rfl (by omega) (s_as rfl (s_nil ?_))))
        exact last _ _ f4 rfl rfl rfl rfl hA .refl (same _ _ (by omega) (two.1.sub (by omega) (by omega))) hM
  · have hd := of_decide_eq_false hd
    have h0 := hB 0
    refine ⟨_, rfl, rfl, f3, hA, hP, h0.sub (by omega) (by omega), hM⟩
theorem slices_SortStable_LigRule_c {f : Nat → Ru} {gc : FuncId} {cmp : Ru → Ru → Int} (ho : Ordr cmp) (hg : ∀ x y w, Ret Go.Proofs.Tryz.prog gc #[ruV x, ruV y] w fun v w' => v = iV (cmp x y) ∧ Ext w w') (hn : n ≤ 1000000) (h : ArrR ruC w g n f) :
    Ret Go.Proofs.Tryz.prog 91 #[.slice (some ⟨g, 0, none⟩) n c, .func (.func gc) #[] #[]] w fun v w' => v = .tuple #[] ∧ ∃ f', ArrR ruC w' g n f' ∧ Pm 0 n f f' ∧ Srt cmp f' 0 n ∧ Mod (fun k => k = g) w w' := by
  refine enter Go.Proofs.Tryz.func91 rfl rfl rfl ?_
  refine W_reg rfl (s_mv rfl (s_mv rfl (s_len E rfl rfl (s_mv rfl (s_callx rfl rfl (slices_stable_LigRule_c ho hg hn h) fun w2 h2 => (s_nil ?_))))))
  exact ⟨_, rfl, rfl, h2⟩
end
end Go.Proofs.YthfnijlgmjkedaaGreat
namespace Go.Proofs.YthfnijlgmjkedaaGreat
set_option maxRecDepth 100000
set_option maxHeartbeats 1000000
set_option linter.unusedVariables false
set_option linter.unusedSimpArgs false
open Go Go.Fx Go.Proofs.YthfnijlgmjkedaaGreat.Tab
theorem flat_inv {α : Type} (f : α → List Value) (hf : ∀ x, (f x).length = 4) : ∀ (l : List α) (k : Nat) (v : Value), (l.flatMap f)[k]? = some v → ∃ i j, ∃ hi : i < l.length, k = i * 4 + j ∧ (f l[i])[j]? = some v := by
  intro l
  induction l with
  | nil => intro k v h; simp at h
  | cons a l ih =>
    intro k v h
    rw [List.flatMap_cons] at h
    by_cases hk : k < 4
    · rw [List.getElem?_append_left (by rw [hf]; exact hk)] at h
      exact ⟨0, k, by simp, by omega, h⟩
    · rw [List.getElem?_append_right (by rw [hf]; omega), hf] at h
      obtain ⟨i, j, hi, he, hv⟩ := ih _ _ h
      exact ⟨i + 1, j, by simpa using hi, by omega, hv⟩
theorem sw_map {α : Type} (f : Nat → α) (n i j : Nat) (hi : i < n) (hj : j < n) : ((List.range n).map (swF f i j)).Perm ((List.range n).map f) := by
  have e : swF f i j = f ∘ (fun k => if k = j then i else if k = i then j else k) := by
    funext k; simp only [swF, Function.comp]; split
    · rfl
    · split <;> rfl
  rw [e, ← List.map_map]
  refine List.Perm.map f ?_
  refine (List.perm_ext_iff_of_nodup ?_ List.nodup_range).2 fun x => ?_
  · rw [List.nodup_iff_pairwise_ne, List.pairwise_map]
    refine List.Pairwise.imp (fun {a b} hab => ?_) (List.nodup_iff_pairwise_ne.1 (List.nodup_range (n := n)))
    intro h
    apply hab
    by_cases h1 : a = j <;> by_cases h2 : b = j <;> by_cases h3 : a = i <;> by_cases h4 : b = i <;> simp_all
  · simp only [List.mem_map, List.mem_range]
    constructor
    · rintro ⟨y, hy, rfl⟩
      split
      · exact hi
      · split
        · exact hj
        · exact hy
    · intro hx
      by_cases h1 : x = j
      · subst h1; exact ⟨i, hi, by by_cases h2 : i = x <;> simp [h2]⟩
      · by_cases h2 : x = i
        · subst h2; exact ⟨j, hj, by simp⟩
        · exact ⟨x, hx, by simp [h1, h2]⟩
theorem pm_perm {α : Type} {f f' : Nat → α} {n : Nat} (h : Pm 0 n f f') : ((List.range n).map f').Perm ((List.range n).map f) := by
  induction h with
  | refl => exact List.Perm.refl _
  | sw _ hi hj ih => exact (sw_map _ n _ _ hi.2 hj.2).trans ih
theorem map_range {α : Type} [Inhabited α] (l : List α) : (List.range l.length).map (fun i => l.getD i default) = l := by
  apply List.ext_getElem (by simp)
  intro i h1 h2
  simp [h2]
def SrtL {α : Type} (cmp : α → α → Int) (l : List α) : Prop := l.Pairwise fun x y => 0 ≤ cmp y x
theorem srt_map {α : Type} {cmp : α → α → Int} {f : Nat → α} {n : Nat} (h : Srt cmp f 0 n) : SrtL cmp ((List.range n).map f) := by
  unfold SrtL
  rw [List.pairwise_iff_getElem]
  intro i j hi hj hij
  simp only [List.length_map, List.length_range] at hi hj
  simp only [List.getElem_map, List.getElem_range]
  exact h i j (by omega) hij hj
instance : Inhabited Ch := ⟨⟨0, 0, 0, 0⟩⟩
instance : Inhabited Ru := ⟨⟨0, 0, 0, 0⟩⟩
theorem own_arr {α : Type} [Inhabited α] {C : α → List Value} (hC : ∀ x, (C x).length = 4) {w : World} {e : TypeId} {g n c : Nat} {l : List α} (hn : n = l.length) (h : Own w e 4 (.slice (some ⟨g, 0, none⟩) n c) n (l.flatMap C)) : ArrR C w g n (fun i => l.getD i default) := by
  obtain ⟨hl, h⟩ := h
  rcases h with ⟨h0, _⟩ | ⟨g', cap, cur, he, hb, hg, hnc, hcm, hcs, ht⟩
  · cases h0
  · cases he
    refine ⟨cur, e, hg, by rw [hcs]; exact Nat.mul_le_mul_right 4 hnc, fun i hi j v hv => ?_⟩
    have hi' : i < l.length := by omega
    have hv' : (C l[i])[j]? = some v := by simpa [hi'] using hv
    have hj : j < 4 := by have := (List.getElem?_eq_some_iff.1 hv').1; rwa [hC] at this
    have h1 := flat_get C 4 hC l i hi' j v hv'
    rw [← ht, List.getElem?_take_of_lt (by omega)] at h1
    simpa using h1
theorem arr_sl {α : Type} {C : α → List Value} (hC : ∀ x, (C x).length = 4) {w : World} {g n : Nat} {f : Nat → α} (h : ArrR C w g n f) : SlR w (some ⟨g, 0, none⟩) (((List.range n).map f).flatMap C) := by
  obtain ⟨cs, ty, hh, hsz, hc⟩ := h
  intro k v hv
  obtain ⟨i, j, hi, he, hj⟩ := flat_inv C hC _ _ _ hv
  simp only [List.length_map, List.length_range] at hi
  simp only [List.getElem_map, List.getElem_range] at hj
  have := arr_row hh hc hi j v hj
  rwa [add_add, ← he] at this
section
variable {w : World}
theorem slices_Clone_CharMetric_c {p : Option Addr} {n c : Nat} {l : List Ch} (hn : n = l.length) (hm : n ≤ 1000000) (hp : SlR w p (l.flatMap chC)) :
    Ret Go.Proofs.Tryz.prog 62 #[.slice p n c] w fun v w' => Own w' 50 4 v n (l.flatMap chC) ∧ (∀ k, v.ownBlock = some k → w.heap.size ≤ k) ∧ Ext w w' := by
  refine enter Go.Proofs.Tryz.func62 rfl rfl rfl ?_
  refine W_sr rfl (s_as rfl (s_nil ?_))
  refine W_seq ?_
  cases p with
  | none =>
    have h0 : l.flatMap chC = [] := hp
    have hl : l = [] := by
      have := flat_length chC 4 chC_len l
      rw [h0] at this
      exact List.eq_nil_of_length_eq_zero (by simp at this; omega)
    subst hl
    subst hn
    refine W_sr rfl (s_mv rfl (s_nil_eq (E.h_sl _ _ _ (show E.sl 22 = some (50, 4) from rfl)).1 rfl rfl (s_nil ?_)))
    refine W_if rfl (fun _ => ?_) (fun h => by cases h)
    refine W_sr rfl (s_as rfl (s_nil ?_))
    exact W_ret ⟨_, rfl, Own.nil _ _ _, (show ∀ k, (Value.slice none 0 0).ownBlock = some k → w.heap.size ≤ k from fun k hk => by simp [Value.ownBlock] at hk), Mod.refl⟩
  | some a =>
    refine W_sr rfl (s_mv rfl (s_nil_eq (E.h_sl _ _ _ (show E.sl 22 = some (50, 4) from rfl)).1 rfl rfl (s_nil ?_)))
    refine W_if rfl (fun h => by cases h) (fun _ => W_skip ?_)
    have hown : Own (w.alloc (.cells #[] 50)) 50 4 (.slice (some ⟨w.heap.size, 0, none⟩) 0 0) 0 [] := ⟨rfl, .inr ⟨_, 0, #[], rfl, Nat.zero_le _, al_heap, Nat.le_refl _, Nat.zero_le _, rfl, rfl⟩⟩
    have hall : (l.flatMap chC).all (·.oneCell') = true := by
      rw [List.all_eq_true]; intro x hx; rw [List.mem_flatMap] at hx; obtain ⟨y, _, hy⟩ := hx
      simp only [chC, List.mem_cons, List.not_mem_nil, or_false] at hy
      rcases hy with rfl | rfl | rfl | rfl <;> rfl
    refine W_sr rfl (s_bs0 E rfl (s_mv rfl (s_ap E rfl rfl rfl rfl hown rfl rfl (Ext.row e1 hp) (by rw [flat_length chC 4 chC_len l, hn]) hall (by omega) fun v' w2 hown' hmod hon => (s_as rfl (s_nil ?_)))))
    rw [Nat.zero_add, List.nil_append] at hown'
    refine W_ret ⟨_, rfl, hown', fun k hk => ?_, Ext.thenMod e1 hmod (fun k hk he => by have h1 : w.heap.size = k := Option.some.inj he; omega)⟩
    rcases hon with h | ⟨j, hj, hle⟩
    · have h1 : some w.heap.size = some k := by
        have : v'.ownBlock = some w.heap.size := h
        rw [← this]; exact hk
      cases h1; exact Nat.le_refl _
    · have h1 : some j = some k := by rw [← hj]; exact hk
      cases h1
      simp at hle; omega
theorem slices_SortL_CharMetric_c {v : Value} {n : Nat} {l : List Ch} {gc : FuncId} {cmp : Ch → Ch → Int} (ho : Ordr cmp) (hg : ∀ x y w, Ret Go.Proofs.Tryz.prog gc #[chV x, chV y] w fun v w' => v = iV (cmp x y) ∧ Ext w w') (hn : n = l.length) (hm : n ≤ 1000000) (h : Own w 50 4 v n (l.flatMap chC)) :
    Ret Go.Proofs.Tryz.prog 90 #[v, .func (.func gc) #[] #[]] w fun r w' => r = .tuple #[] ∧ (∃ p c l', v = .slice p n c ∧ SlR w' p (l'.flatMap chC) ∧ l'.Perm l ∧ SrtL cmp l') ∧ Mod (fun k => v.ownBlock = some k) w w' := by
  obtain ⟨p, c, rfl, hsl, hnc, hb⟩ := h.form
  cases p with
  | some a =>
    obtain ⟨_, ha⟩ := hb a rfl
    obtain ⟨g, rfl⟩ : ∃ g, a = ⟨g, 0, none⟩ := ⟨_, ha⟩
    refine (slices_SortStable_CharMetric_c (c := c) ho hg hm (own_arr chC_len hn h)).mono fun r w' h => ?_
    obtain ⟨rfl, f', hA, hP, hS, hM⟩ := h
    refine ⟨rfl, ⟨_, c, (List.range n).map f', rfl, arr_sl chC_len hA, ?_, srt_map hS⟩, hM.mono fun k _ hk => by rw [hk]; rfl⟩
    have := pm_perm hP
    subst hn
    rwa [map_range] at this
  | none =>
    have h0 : l.flatMap chC = [] := hsl
    have hl : l = [] := by
      have := flat_length chC 4 chC_len l
      rw [h0] at this
      exact List.eq_nil_of_length_eq_zero (by simp at this; omega)
    subst hl
    subst hn
    have ins : ∀ w, Ret Go.Proofs.Tryz.prog 110 #[.slice none 0 c, iV 0, iV 0, .func (.func gc) #[] #[]] w fun v w' => v = .tuple #[] ∧ w' = w := by
      intro w
      refine enter Go.Proofs.Tryz.func110 rfl rfl rfl ?_
      refine W_sr rfl (s_mv rfl (s_add rfl rfl (by omega) (s_as rfl (s_nil ?_))))
      refine W_block ?_
      refine W_loop (fun q ρ w' => (∃ ρ', ρ = upd (upd ρ' 2 (iV 0)) 8 (iV 1)) ∧ w' = w) 0 ⟨⟨_, u2 rfl rfl⟩, rfl⟩ ?_
      rintro q _ w9 ⟨⟨ρ, rfl⟩, hw⟩
      have hw := hw.symm
      subst hw
      refine W_seq ?_
      refine W_sr rfl (s_mv rfl (s_mv rfl (s_cmp (c := false) rfl rfl (by decide) (s_nil ?_))))
      refine W_if rfl (fun h => by cases h) (fun _ => W_exit ?_)
      exact ⟨_, rfl, rfl, rfl⟩
    have stb : Ret Go.Proofs.Tryz.prog 105 #[.slice none 0 c, iV 0, .func (.func gc) #[] #[]] w fun v w' => v = .tuple #[] ∧ w' = w := by
      refine enter Go.Proofs.Tryz.func105 rfl rfl rfl ?_
      refine W_sr rfl (s_as rfl (s_nil ?_))
      refine W_sr rfl (s_mv rfl (s_as rfl (s_as rfl (s_nil ?_))))
      refine W_seq ?_
      refine W_block ?_
      refine W_loop (fun q ρ w' => (∃ ρ', ρ = upd (upd (upd (upd (upd (upd ρ' 0 (.slice none 0 c)) 1 (iV 0)) 2 (.func (.func gc) #[] #[])) 6 (iV 20)) 7 (iV 0)) 8 (iV 20)) ∧ w' = w) 0 ⟨⟨_, u6 rfl rfl rfl rfl rfl rfl⟩, rfl⟩ ?_
      rintro q _ w9 ⟨⟨ρ, rfl⟩, hw⟩
      have hw := hw.symm
      subst hw
      refine W_seq ?_
      refine W_sr rfl (s_mv rfl (s_mv rfl (s_cmp (c := false) rfl rfl (by decide) (s_nil ?_))))
      refine W_if rfl (fun h => by cases h) (fun _ => W_exit ?_)
      refine W_sr rfl (s_mv rfl (s_mv rfl (s_mv rfl (s_mv rfl (s_callp rfl rfl (ins _) (s_nil ?_))))))
      refine W_block ?_
      refine W_loop (fun q ρ w' => (∃ ρ', ρ = upd (upd ρ' 1 (iV 0)) 6 (iV 20)) ∧ w' = w) 0 ⟨⟨_, u2 rfl rfl⟩, rfl⟩ ?_
      rintro q _ w9 ⟨⟨ρ, rfl⟩, hw⟩
      have hw := hw.symm
      subst hw
      refine W_seq ?_
      refine W_sr rfl (s_mv rfl (s_mv rfl (s_cmp (c := false) rfl rfl (by decide) (s_nil ?_))))
      refine W_if rfl (fun h => by cases h) (fun _ => W_exit ?_)
      exact ⟨_, rfl, rfl, rfl⟩
    refine enter Go.Proofs.Tryz.func90 rfl rfl rfl ?_
    refine W_reg rfl (s_mv rfl (s_mv rfl (s_len E rfl rfl (s_mv rfl (s_callp rfl rfl stb (s_nil ?_))))))
    exact ⟨_, rfl, rfl, ⟨none, c, [], rfl, rfl, List.Perm.refl _, List.Pairwise.nil⟩, Mod.refl⟩
theorem slices_Clone_LigRule_c {p : Option Addr} {n c : Nat} {l : List Ru} (hn : n = l.length) (hm : n ≤ 1000000) (hp : SlR w p (l.flatMap ruC)) :
    Ret Go.Proofs.Tryz.prog 63 #[.slice p n c] w fun v w' => Own w' 45 4 v n (l.flatMap ruC) ∧ (∀ k, v.ownBlock = some k → w.heap.size ≤ k) ∧ Ext w w' := by
  refine enter Go.Proofs.Tryz.func63 rfl rfl rfl ?_
  refine W_sr rfl (s_as rfl (s_nil ?_))
  refine W_seq ?_
  cases p with
  | none =>
    have h0 : l.flatMap ruC = [] := hp
    have hl : l = [] := by
      have := flat_length ruC 4 ruC_len l
      rw [h0] at this
      exact List.eq_nil_of_length_eq_zero (by simp at this; omega)
    subst hl
    subst hn
    refine W_sr rfl (s_mv rfl (s_nil_eq (E.h_sl _ _ _ (show E.sl 23 = some (45, 4) from rfl)).1 rfl rfl (s_nil ?_)))
    refine W_if rfl (fun _ => ?_) (fun h => by cases h)
    refine W_sr rfl (s_as rfl (s_nil ?_))
    exact W_ret ⟨_, rfl, Own.nil _ _ _, (show ∀ k, (Value.slice none 0 0).ownBlock = some k → w.heap.size ≤ k from fun k hk => by simp [Value.ownBlock] at hk), Mod.refl⟩
  | some a =>
    refine W_sr rfl (s_mv rfl (s_nil_eq (E.h_sl _ _ _ (show E.sl 23 = some (45, 4) from rfl)).1 rfl rfl (s_nil ?_)))
    refine W_if rfl (fun h => by cases h) (fun _ => W_skip ?_)
    have hown : Own (w.alloc (.cells #[] 45)) 45 4 (.slice (some ⟨w.heap.size, 0, none⟩) 0 0) 0 [] := ⟨rfl, .inr ⟨_, 0, #[], rfl, Nat.zero_le _, al_heap, Nat.le_refl _, Nat.zero_le _, rfl, rfl⟩⟩
    have hall : (l.flatMap ruC).all (·.oneCell') = true := by
      rw [List.all_eq_true]; intro x hx; rw [List.mem_flatMap] at hx; obtain ⟨y, _, hy⟩ := hx
      simp only [ruC, List.mem_cons, List.not_mem_nil, or_false] at hy
      rcases hy with rfl | rfl | rfl | rfl <;> rfl
    refine W_sr rfl (s_bs0 E rfl (s_mv rfl (s_ap E rfl rfl rfl rfl hown rfl rfl (Ext.row e1 hp) (by rw [flat_length ruC 4 ruC_len l, hn]) hall (by omega) fun v' w2 hown' hmod hon => (s_as rfl (s_nil ?_)))))
    rw [Nat.zero_add, List.nil_append] at hown'
    refine W_ret ⟨_, rfl, hown', fun k hk => ?_, Ext.thenMod e1 hmod (fun k hk he => by have h1 : w.heap.size = k := Option.some.inj he; omega)⟩
    rcases hon with h | ⟨j, hj, hle⟩
    · have h1 : some w.heap.size = some k := by
        have : v'.ownBlock = some w.heap.size := h
        rw [← this]; exact hk
      cases h1; exact Nat.le_refl _
    · have h1 : some j = some k := by rw [← hj]; exact hk
      cases h1
      simp at hle; omega
theorem slices_SortL_LigRule_c {v : Value} {n : Nat} {l : List Ru} {gc : FuncId} {cmp : Ru → Ru → Int} (ho : Ordr cmp) (hg : ∀ x y w, Ret Go.Proofs.Tryz.prog gc #[ruV x, ruV y] w fun v w' => v = iV (cmp x y) ∧ Ext w w') (hn : n = l.length) (hm : n ≤ 1000000) (h : Own w 45 4 v n (l.flatMap ruC)) :
    Ret Go.Proofs.Tryz.prog 91 #[v, .func (.func gc) #[] #[]] w fun r w' => r = .tuple #[] ∧ (∃ p c l', v = .slice p n c ∧ SlR w' p (l'.flatMap ruC) ∧ l'.Perm l ∧ SrtL cmp l') ∧ Mod (fun k => v.ownBlock = some k) w w' := by
  obtain ⟨p, c, rfl, hsl, hnc, hb⟩ := h.form
  cases p with
  | some a =>
    obtain ⟨_, ha⟩ := hb a rfl
    obtain ⟨g, rfl⟩ : ∃ g, a = ⟨g, 0, none⟩ := ⟨_, ha⟩
    refine (slices_SortStable_LigRule_c (c := c) ho hg hm (own_arr ruC_len hn h)).mono fun r w' h => ?_
    obtain ⟨rfl, f', hA, hP, hS, hM⟩ := h
    refine ⟨rfl, ⟨_, c, (List.range n).map f', rfl, arr_sl ruC_len hA, ?_, srt_map hS⟩, hM.mono fun k _ hk => by rw [hk]; rfl⟩
    have := pm_perm hP
    subst hn
    rwa [map_range] at this
  | none =>
    have h0 : l.flatMap ruC = [] := hsl
    have hl : l = [] := by
      have := flat_length ruC 4 ruC_len l
      rw [h0] at this
      exact List.eq_nil_of_length_eq_zero (by simp at this; omega)
    subst hl
    subst hn
    have ins : ∀ w, Ret Go.Proofs.Tryz.prog 112 #[.slice none 0 c, iV 0, iV 0, .func (.func gc) #[] #[]] w fun v w' => v = .tuple #[] ∧ w' = w := by
      intro w
      refine enter Go.Proofs.Tryz.func112 rfl rfl rfl ?_
      refine W_sr rfl (s_mv rfl (s_add rfl rfl (by omega) (s_as rfl (s_nil ?_))))
      refine W_block ?_
      refine W_loop (fun q ρ w' => (∃ ρ', ρ = upd (upd ρ' 2 (iV 0)) 8 (iV 1)) ∧ w' = w) 0 ⟨⟨_, u2 rfl rfl⟩, rfl⟩ ?_
      rintro q _ w9 ⟨⟨ρ, rfl⟩, hw⟩
      have hw := hw.symm
      subst hw
      refine W_seq ?_
      refine W_sr rfl (s_mv rfl (s_mv rfl (s_cmp (c := false) rfl rfl (by decide) (s_nil ?_))))
      refine W_if rfl (fun h => by cases h) (fun _ => W_exit ?_)
      exact ⟨_, rfl, rfl, rfl⟩
    have stb : Ret Go.Proofs.Tryz.prog 106 #[.slice none 0 c, iV 0, .func (.func gc) #[] #[]] w fun v w' => v = .tuple #[] ∧ w' = w := by
      refine enter Go.Proofs.Tryz.func106 rfl rfl rfl ?_
      refine W_sr rfl (s_as rfl (s_nil ?_))
      refine W_sr rfl (s_mv rfl (s_as rfl (s_as rfl (s_nil ?_))))
      refine W_seq ?_
      refine W_block ?_
      refine W_loop (fun q ρ w' => (∃ ρ', ρ = upd (upd (upd (upd (upd (upd ρ' 0 (.slice none 0 c)) 1 (iV 0)) 2 (.func (.func gc) #[] #[])) 6 (iV 20)) 7 (iV 0)) 8 (iV 20)) ∧ w' = w) 0 ⟨⟨_, u6 rfl rfl rfl rfl rfl rfl⟩, rfl⟩ ?_
      rintro q _ w9 ⟨⟨ρ, rfl⟩, hw⟩
      have hw := hw.symm
      subst hw
      refine W_seq ?_
      refine W_sr rfl (s_mv rfl (s_mv rfl (s_cmp (c := false) rfl rfl (by decide) (s_nil ?_))))
      refine W_if rfl (fun h => by cases h) (fun _ => W_exit ?_)
      refine W_sr rfl (s_mv rfl (s_mv rfl (s_mv rfl (s_mv rfl (s_callp rfl rfl (ins _) (s_nil ?_))))))
      refine W_block ?_
      refine W_loop (fun q ρ w' => (∃ ρ', ρ = upd (upd ρ' 1 (iV 0)) 6 (iV 20)) ∧ w' = w) 0 ⟨⟨_, u2 rfl rfl⟩, rfl⟩ ?_
      rintro q _ w9 ⟨⟨ρ, rfl⟩, hw⟩
      have hw := hw.symm
      subst hw
      refine W_seq ?_
      refine W_sr rfl (s_mv rfl (s_mv rfl (s_cmp (c := false) rfl rfl (by decide) (s_nil ?_))))
      refine W_if rfl (fun h => by cases h) (fun _ => W_exit ?_)
      exact ⟨_, rfl, rfl, rfl⟩
    refine enter Go.Proofs.Tryz.func91 rfl rfl rfl ?_
    refine W_reg rfl (s_mv rfl (s_mv rfl (s_len E rfl rfl (s_mv rfl (s_callp rfl rfl stb (s_nil ?_))))))
    exact ⟨_, rfl, rfl, ⟨none, c, [], rfl, rfl, List.Perm.refl _, List.Pairwise.nil⟩, Mod.refl⟩
end
end Go.Proofs.YthfnijlgmjkedaaGreat
namespace Go.Proofs.YthfnijlgmjkedaaGreat
set_option maxRecDepth 100000
set_option maxHeartbeats 1000000
set_option linter.unusedVariables false
set_option linter.unusedSimpArgs false
open Go Go.Fx Go.Proofs.YthfnijlgmjkedaaGreat.Tab
def nB (l : List Int) : Int := l.foldl (fun n c => n * 256 + c) 0
theorem nB_snoc (l : List Int) (c : Int) : nB (l ++ [c]) = nB l * 256 + c := by simp [nB]
def byt (l : List Int) : Prop := ∀ x ∈ l, 0 ≤ x ∧ x < 256
theorem nB_bd : ∀ (k : Nat) (l : List Int), l.length = k → byt l → 0 ≤ nB l ∧ nB l < 256 ^ k := by
  intro k
  induction k with
  | zero => intro l h _; have : l = [] := List.eq_nil_of_length_eq_zero h; subst this; exact ⟨by decide, by decide⟩
  | succ k ih =>
    intro l h hb
    have hne : l ≠ [] := by intro h0; subst h0; simp at h
    rw [← List.dropLast_concat_getLast hne] at hb ⊢
    rw [nB_snoc]
    have h1 := ih l.dropLast (by simp [h]) (fun x hx => hb x (List.mem_append_left _ hx))
    have h2 := hb (l.getLast hne) (by simp)
    have : (256 : Int) ^ (k + 1) = 256 ^ k * 256 := Int.pow_succ _ _
    omega
theorem or_add (a c : Int) (ha : 0 ≤ a ∧ a < 16777216) (hc : 0 ≤ c ∧ c < 256) : IntKind.i64.wrap ((BitVec.ofInt IntKind.i64.bits (a * 256) ||| BitVec.ofInt IntKind.i64.bits c).toNat : Nat) = a * 256 + c := by
  obtain ⟨x, rfl⟩ := Int.eq_ofNat_of_zero_le ha.1
  obtain ⟨y, rfl⟩ := Int.eq_ofNat_of_zero_le hc.1
  have e : (BitVec.ofInt IntKind.i64.bits ((x : Int) * 256) ||| BitVec.ofInt IntKind.i64.bits (y : Int)).toNat = x * 256 + y := by
    rw [BitVec.toNat_or]
    have e1 : (BitVec.ofInt IntKind.i64.bits ((x : Int) * 256)).toNat = x * 256 := by
      rw [show (x : Int) * 256 = ((x * 256 : Nat) : Int) by omega, BitVec.ofInt_natCast, BitVec.toNat_ofNat]
      exact Nat.mod_eq_of_lt (by show x * 256 < 18446744073709551616; omega)
    have e2 : (BitVec.ofInt IntKind.i64.bits (y : Int)).toNat = y := by
      rw [BitVec.ofInt_natCast, BitVec.toNat_ofNat]
      exact Nat.mod_eq_of_lt (by show y < 18446744073709551616; omega)
    rw [e1, e2]
    have := Nat.shiftLeft_add_eq_or_of_lt (b := y) (i := 8) (by omega) x
    rw [Nat.shiftLeft_eq] at this
    exact this.symm
  rw [e]
  exact (wrap64_in (by omega) (by omega)).trans (by omega)
theorem metric_number_c {p : Option Addr} {n c : Nat} {l : List Int} {w : World} (hn : n = l.length) (hm : n ≤ 4) (hb : byt l) (hp : SlR w p (l.map bV)) :
    Ret Go.Proofs.Tryz.prog 89 #[.slice p n c] w fun v w' => v = iV (nB l) ∧ w' = w := by
  refine enter Go.Proofs.Tryz.func89 rfl rfl rfl ?_
  refine W_sr rfl (s_as rfl (s_nil ?_))
  refine W_sr rfl (s_as rfl (s_nil ?_))
  refine W_seq ?_
  refine W_sr rfl (s_mv rfl (s_len E rfl rfl (s_mv rfl (s_nil ?_))))
  refine W_block ?_
  refine W_loop (fun m ρ w' => ∃ ρ' i, ρ = upd (upd (upd (upd ρ' 3 (iV (nB (l.take i)))) 6 (.slice p n c)) 7 (iV n)) 8 (iV (i : Nat)) ∧ w' = w ∧ i ≤ n ∧ m = n - i) n ⟨_, 0, u4 rfl rfl rfl rfl, rfl, by omega, by omega⟩ ?_
  rintro m _ _ ⟨ρ, i, rfl, rfl, hi, rfl⟩
  refine W_sr rfl (s_lss rfl rfl (s_nil ?_))
  refine W_seq ?_
  refine W_if rfl (fun hc => W_skip ?_) (fun hc => W_exit ?_)
  · have hc := of_decide_eq_true hc
    have hil : i < l.length := by omega
    obtain ⟨a, rfl, hcell⟩ := sl_bytes hp hil
    have hbd := nB_bd i (l.take i) (by simp; omega) (fun x hx => hb x (List.mem_of_mem_take hx))
    have hlt : nB (l.take i) < 16777216 := by
      have : (256 : Int) ^ i ≤ 256 ^ 3 := by
        have h3 : i = 0 ∨ i = 1 ∨ i = 2 ∨ i = 3 := by omega
        rcases h3 with h | h | h | h <;> subst h <;> decide
      have e : (256 : Int) ^ 3 = 16777216 := by decide
      omega
    have hx := hb l[i] (List.getElem_mem hil)
    have e1 : IntKind.i64.wrap (nB (l.take i) * 2 ^ min (8 : Int).toNat IntKind.i64.bits) = nB (l.take i) * 256 := by
      rw [show (2 : Int) ^ min (8 : Int).toNat IntKind.i64.bits = 256 from by decide]
      exact wrap64_in (by omega) (by omega)
    have e2 : IntKind.i64.wrap l[i] = l[i] := wrap64_in (by omega) (by omega)
    refine W_seq (W_block ?_)
    refine W_sr rfl (s_ia E rfl rfl rfl rfl (by omega) (s_ld E rfl rfl hcell (s_as rfl (s_nil ?_))))
    refine W_reg rfl (s_mv rfl (s_shl rfl rfl (by decide) (s_mv rfl (s_cvx E rfl rfl rfl e2 (s_or (a := nB (l.take i) * 256) (b := l[i]) (congrArg iV e1) rfl (s_as rfl (s_nil ?_)))))))
    refine W_reg rfl (s_add rfl rfl (by omega) (s_mv rfl (s_nil ?_)))
    refine ⟨n - (i + 1), by omega, _, i + 1, u4 (congrArg iV ?_) rfl rfl rfl, rfl, by omega, rfl⟩
    rw [List.take_succ_eq_append_getElem hil, nB_snoc]
    exact or_add _ _ ⟨hbd.1, hlt⟩ hx
  · have hc := of_decide_eq_false hc
    refine W_sr rfl (s_mv rfl (s_as rfl (s_nil ?_)))
    refine W_ret ⟨_, rfl, ?_, rfl⟩
    rw [List.take_of_length_le (by omega)]; rfl
/-! ## the reader -/
structure RdR (w : World) (N r : Nat) (bs : List Int) (s : Bool) : Prop where
  ex : ∃ p c ty, w.heap[r]? = some (.cells #[.slice p bs.length c, .bool s] ty (0, 0)) ∧ SlR w p (bs.map bV) ∧ bs.length ≤ c ∧ (bs ≠ [] → ∀ a, p = some a → a.block < N)
  le : N ≤ r
theorem SlR.keep {M : Nat → Prop} {w w' : World} {p : Option Addr} {xs : List Value} (h : Mod M w w') (hp : SlR w p xs) (hm : xs ≠ [] → ∀ a, p = some a → ¬ M a.block) : SlR w' p xs := by
  cases p with
  | none => exact hp
  | some a =>
    by_cases hx : xs = []
    · subst hx; exact Row.nil _ _
    · exact h.row hp (hm hx a rfl)
theorem RdR.mod {M : Nat → Prop} {w w' : World} {N r : Nat} {bs : List Int} {s : Bool} (h : RdR w N r bs s) (hM : Mod M w w') (hr : ¬ M r) (hN : ∀ k, M k → N ≤ k) : RdR w' N r bs s := by
  obtain ⟨p, c, ty, hh, hp, hle, hne⟩ := h.ex
  refine ⟨⟨p, c, ty, hM.heap hh hr, SlR.keep hM hp (fun hx a ha hk => ?_), hle, hne⟩, h.le⟩
  have h1 := hne (fun h0 => hx (by rw [h0]; rfl)) a ha
  have h2 := hN _ hk
  omega
def tkB (k : Nat) (bs : List Int) : List Int := if bs.length < k then List.replicate k 0 else bs.take k
def rsB (k : Nat) (bs : List Int) : List Int := if bs.length < k then [] else bs.drop k
def shB (k : Nat) (bs : List Int) (s : Bool) : Bool := s || decide (bs.length < k)
theorem tkB_len (k : Nat) (bs : List Int) : (tkB k bs).length = k := by unfold tkB; split <;> simp; omega
theorem tkB_byt {k : Nat} {bs : List Int} (h : byt bs) : byt (tkB k bs) := by
  unfold tkB; split
  · intro x hx; have := List.eq_of_mem_replicate hx; subst this; decide
  · intro x hx; exact h x (List.mem_of_mem_take hx)
theorem rsB_byt {k : Nat} {bs : List Int} (h : byt bs) : byt (rsB k bs) := by
  unfold rsB; split
  · intro x hx; cases hx
  · intro x hx; exact h x (List.mem_of_mem_drop hx)
theorem SlR.mod {M : Nat → Prop} {w w' : World} {p : Option Addr} {xs : List Value} (h : Mod M w w') (hp : SlR w p xs) (hm : ∀ a, p = some a → ¬ M a.block) : SlR w' p xs := by
  cases p with
  | none => exact hp
  | some a => exact h.row hp (hm a rfl)
theorem slP_block {p : Option Addr} {l m s : Nat} {a : Addr} (h : slP p l m s = some a) : ∃ b, p = some b ∧ a.block = b.block := by
  unfold slP at h
  split at h
  · exact ⟨a, h, rfl⟩
  · cases p with
    | none => cases h
    | some b => cases h; exact ⟨b, rfl, add_block _ _⟩
section
variable {w : World} {N r : Nat} {bs : List Int} {s : Bool}
theorem metric_take_c {k : Nat} (hk : k ≤ 4) (h : RdR w N r bs s) (hl : bs.length ≤ 1000000) :
    Ret Go.Proofs.Tryz.prog 41 #[.pointer (some ⟨r, 0, none⟩), iV k] w fun v w' => (∃ p c, v = .slice p k c ∧ SlR w' p ((tkB k bs).map bV)) ∧ RdR w' N r (rsB k bs) (shB k bs s) ∧ Mod (fun b => b = r) w w' := by
  obtain ⟨p, c, ty, hh, hp, hle, hne⟩ := h.ex
  have c0 : w.cell? (Addr.add ⟨r, 0, none⟩ 0) = some (.slice p bs.length c) := by rw [ad0]; simp [World.cell?, hh]
  refine enter Go.Proofs.Tryz.func41 rfl rfl rfl ?_
  refine W_sr rfl (s_as rfl (s_nil ?_))
  refine W_seq ?_
  refine W_sr rfl (s_mv rfl (s_nc rfl (s_fa E rfl rfl (s_ld E rfl rfl c0 (s_len E rfl rfl (s_mv rfl (s_lss rfl rfl (s_nil ?_))))))))
  refine W_if rfl (fun hc => ?_) (fun hc => W_skip ?_)
  · have hc : bs.length < k := by have := of_decide_eq_true hc; omega
    refine W_sr rfl (s_mv rfl (s_nc rfl (s_fa E rfl rfl (s_st1 E rfl rfl (ad0 r 1) rfl rfl hh (by simp) (s_nil ?_)))))
    have hh1 := setRow_heap w r _ #[.slice p bs.length c, .bool true] ty (0, 0) hh
    refine W_sr rfl (s_mv rfl (s_nc rfl (s_fa E rfl rfl (s_st1 E rfl rfl (ad0 r 0) rfl rfl hh1 (by simp) (s_nil ?_)))))
    have hh2 := setRow_heap _ r _ #[.slice none 0 0, .bool true] ty (0, 0) hh1
    refine W_sr rfl (s_mv rfl (s_mk E rfl rfl rfl rfl rfl (by omega) fun w3 hE3 h3 hs3 => (s_as rfl (s_nil ?_))))
    have hM : Mod (fun b => b = r) w w3 := ((setRow_mod (M := fun b => b = r) rfl).trans (setRow_mod (M := fun b => b = r) rfl)).trans (Mod.of_ext hE3)
    refine W_ret ⟨_, rfl, ⟨_, k, rfl, ?_⟩, ⟨⟨none, 0, ty, ?_, ?_, ?_, ?_⟩, h.le⟩, hM⟩
    · show Row _ _ _
      have : tkB k bs = List.replicate k 0 := by unfold tkB; rw [if_pos hc]
      rw [this]
      intro i x hx
      rw [ad0]
      have hik : i < k := by have := (List.getElem?_eq_some_iff.1 hx).1; simpa using this
      have hx' : x = bV 0 := by
        rw [List.getElem?_map, List.getElem?_replicate, if_pos hik] at hx
        simpa using hx.symm
      subst hx'
      simp only [World.cell?]
      rw [h3]
      simp [madeCells, hik, Value.cells, Nat.mod_one]
    · have h4 : rsB k bs = [] := by unfold rsB; rw [if_pos hc]
      have h5 : shB k bs s = true := by unfold shB; rw [decide_eq_true hc, Bool.or_true]
      rw [h4, h5]
      exact Ext.heap hE3 hh2
    · have h4 : rsB k bs = [] := by unfold rsB; rw [if_pos hc]
      rw [h4]; rfl
    · have h4 : rsB k bs = [] := by unfold rsB; rw [if_pos hc]
      rw [h4]; exact Nat.le_refl _
    · intro _ a ha; cases ha
  · have hc : k ≤ bs.length := by have := of_decide_eq_false hc; omega
    refine W_sr rfl (s_mv rfl (s_nc rfl (s_fa E rfl rfl (s_ld E rfl rfl c0 (s_mv rfl (s_slc E rfl rfl (sb_h rfl (by omega)) (s_as rfl (s_nil ?_))))))))
    refine W_sr rfl (s_mv rfl (s_mv rfl (s_nc rfl (s_fa E rfl rfl (s_ld E rfl rfl c0 (s_mv rfl (s_slc E rfl rfl (sb_l rfl hc) (s_nc rfl (s_fa E rfl rfl (s_st1 E rfl rfl (ad0 r 0) rfl rfl hh (by simp) (s_nil ?_)))))))))))
    have hlm : (bs.map bV).length = bs.length := List.length_map _
    have p1 := SlR.part (l := 0) (h := k) (m := c) (s := 1) hp (by omega) (by omega) (by omega)
    have p2 := SlR.part (l := k) (h := bs.length) (m := c) (s := 1) hp hc (by omega) (by omega)
    have e1 : tkB k bs = bs.take k := by unfold tkB; rw [if_neg (by omega)]
    have e2 : rsB k bs = bs.drop k := by unfold rsB; rw [if_neg (by omega)]
    have e3 : shB k bs s = s := by unfold shB; rw [decide_eq_false (by omega), Bool.or_false]
    have hM : Mod (fun b => b = r) w (w.setRow r #[.slice (slP p k c 1) (bs.length - k) (c - k), .bool s]) := setRow_mod rfl
    have nb : bs ≠ [] → ∀ l m a, slP p l m 1 = some a → a.block < N := fun h0 l m a ha => by
      obtain ⟨b, hb, he⟩ := slP_block ha
      rw [he]; exact hne h0 b hb
    refine W_sr rfl (s_mv rfl (s_as rfl (s_nil ?_)))
    refine W_ret ⟨_, rfl, ⟨_, _, rfl, ?_⟩, ⟨⟨slP p k c 1, c - k, ty, ?_, ?_, ?_, ?_⟩, h.le⟩, hM⟩
    · refine SlR.keep hM ?_ (fun hx a ha he => by have := nb (fun h0 => hx (by rw [h0]; unfold tkB; split <;> simp_all)) 0 c a ha; have := h.le; omega)
      rw [e1, List.map_take]
      rw [show k * 1 = k from Nat.mul_one k] at p1
      exact p1
    · rw [e2, e3, List.length_drop]
      exact setRow_heap w r _ _ ty (0, 0) hh
    · refine SlR.keep hM ?_ (fun hx a ha he => by have := nb (fun h0 => hx (by rw [h0]; unfold rsB; split <;> simp)) k c a ha; have := h.le; omega)
      rw [e2, List.map_drop]
      rw [Nat.mul_one, Nat.mul_one, List.take_of_length_le (by omega)] at p2
      exact p2
    · rw [e2, List.length_drop]; omega
    · exact fun hx => nb (fun h0 => hx (by rw [h0]; unfold rsB; split <;> simp)) k c
def s32 (n : Int) : Int := if n < 2147483648 then n else n - 4294967296
theorem metric_One_c (h : RdR w N r bs s) (hl : bs.length ≤ 1000000) (hb : byt bs) :
    Ret Go.Proofs.Tryz.prog 45 #[.pointer (some ⟨r, 0, none⟩)] w fun v w' => v = iV (nB (tkB 1 bs)) ∧ RdR w' N r (rsB 1 bs) (shB 1 bs s) ∧ Mod (fun b => b = r) w w' := by
  refine enter Go.Proofs.Tryz.func45 rfl rfl rfl ?_
  refine W_sr rfl (s_as rfl (s_nil ?_))
  have call := metric_take_c (k := 1) (by decide) h hl
  refine W_sr rfl (s_mv rfl (s_call rfl rfl call ?_))
  rintro _ w2 ⟨⟨p, c, rfl, hp⟩, hR, hM⟩
  obtain ⟨x, hx⟩ : ∃ x, tkB 1 bs = [x] := List.length_eq_one_iff.1 (tkB_len 1 bs)
  rw [hx] at hp
  obtain ⟨a, rfl, hcell⟩ := sl_bytes hp (i := 0) (by simp)
  have hbx := tkB_byt (k := 1) hb x (by rw [hx]; simp)
  refine (s_ia E rfl rfl rfl rfl (by decide) (s_ld E rfl rfl hcell (s_cvx E rfl rfl rfl (wrap64_in (by show _ ≤ x; omega) (by show x ≤ _; omega)) (s_as rfl (s_nil ?_)))))
  exact W_ret ⟨_, rfl, by rw [hx]; simp [nB]; rfl, hR, hM⟩
theorem metric_Two_c (h : RdR w N r bs s) (hl : bs.length ≤ 1000000) (hb : byt bs) :
    Ret Go.Proofs.Tryz.prog 43 #[.pointer (some ⟨r, 0, none⟩)] w fun v w' => v = iV (nB (tkB 2 bs)) ∧ RdR w' N r (rsB 2 bs) (shB 2 bs s) ∧ Mod (fun b => b = r) w w' := by
  refine enter Go.Proofs.Tryz.func43 rfl rfl rfl ?_
  refine W_sr rfl (s_as rfl (s_nil ?_))
  have call := metric_take_c (k := 2) (by decide) h hl
  refine W_sr rfl (s_mv rfl (s_call rfl rfl call ?_))
  rintro _ w2 ⟨⟨p, c, rfl, hp⟩, hR, hM⟩
  refine (s_callp rfl rfl (metric_number_c (tkB_len 2 bs).symm (by decide) (tkB_byt hb) hp) (s_as rfl (s_nil ?_)))
  exact W_ret ⟨_, rfl, rfl, hR, hM⟩
theorem metric_Four_c (h : RdR w N r bs s) (hl : bs.length ≤ 1000000) (hb : byt bs) :
    Ret Go.Proofs.Tryz.prog 42 #[.pointer (some ⟨r, 0, none⟩)] w fun v w' => v = iV (s32 (nB (tkB 4 bs))) ∧ RdR w' N r (rsB 4 bs) (shB 4 bs s) ∧ Mod (fun b => b = r) w w' := by
  refine enter Go.Proofs.Tryz.func42 rfl rfl rfl ?_
  refine W_sr rfl (s_as rfl (s_nil ?_))
  have call := metric_take_c (k := 4) (by decide) h hl
  have hbd := nB_bd 4 (tkB 4 bs) (tkB_len 4 bs) (tkB_byt hb)
  rw [show (256 : Int) ^ 4 = 4294967296 from by decide] at hbd
  have e1 : IntKind.i32.wrap (nB (tkB 4 bs)) = s32 (nB (tkB 4 bs)) := by
    unfold s32
    simp only [IntKind.wrap, IntKind.bits, IntKind.signed]
    simp
    omega
  have e2 : IntKind.i64.wrap (s32 (nB (tkB 4 bs))) = s32 (nB (tkB 4 bs)) := by
    refine wrap64_in ?_ ?_ <;> unfold s32 <;> split <;> omega
  refine W_sr rfl (s_mv rfl (s_call rfl rfl call ?_))
  rintro _ w2 ⟨⟨p, c, rfl, hp⟩, hR, hM⟩
  refine (s_callp rfl rfl (metric_number_c (tkB_len 4 bs).symm (by decide) (tkB_byt hb) hp) (s_cvx E rfl rfl rfl e1 (s_cvx E rfl rfl rfl e2 (s_as rfl (s_nil ?_)))))
  exact W_ret ⟨_, rfl, rfl, hR, hM⟩
end
end Go.Proofs.YthfnijlgmjkedaaGreat

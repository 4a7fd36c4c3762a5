/- Contracts of functions that the laws of this seat call: what each answers, for every input that its hypotheses name. -/
import Derived.Test.YthfnijlgmjkedaaGreatG2
import Derived.Test.YthfnijlgmjkedaaGreatG3
namespace Go.Proofs.YthfnijlgmjkedaaGreat
set_option maxRecDepth 100000
set_option linter.unusedVariables false
set_option linter.unusedSimpArgs false
open Go Go.Fx Go.Proofs.YthfnijlgmjkedaaGreat.Tab
/-! ## rows as functions; swaps -/
def swF {α : Type} (f : Nat → α) (i j : Nat) : Nat → α := fun k => if k = j then f i else if k = i then f j else f k
inductive Pm {α : Type} (a b : Nat) (f : Nat → α) : (Nat → α) → Prop
  | refl : Pm a b f f
  | sw {f' : Nat → α} {i j : Nat} (h : Pm a b f f') (hi : a ≤ i ∧ i < b) (hj : a ≤ j ∧ j < b) : Pm a b f (swF f' i j)
section
variable {α : Type} {a b c d : Nat} {f g h : Nat → α}
theorem Pm.trans (h1 : Pm a b f g) (h2 : Pm a b g h) : Pm a b f h := by
  induction h2 with
  | refl => exact h1
  | sw _ hi hj ih => exact .sw ih hi hj
theorem Pm.mono (h1 : Pm a b f g) (hc : c ≤ a) (hd : b ≤ d) : Pm c d f g := by
  induction h1 with
  | refl => exact .refl
  | sw _ hi hj ih => exact .sw ih (by omega) (by omega)
theorem Pm.out (h1 : Pm a b f g) {i : Nat} (hi : i < a ∨ b ≤ i) : g i = f i := by
  induction h1 with
  | refl => rfl
  | sw _ h2 h3 ih => simp only [swF]; rw [if_neg (by omega), if_neg (by omega)]; exact ih
theorem Pm.all (h1 : Pm a b f g) {Q : α → Prop} (hQ : ∀ i, a ≤ i → i < b → Q (f i)) : ∀ i, a ≤ i → i < b → Q (g i) := by
  induction h1 with
  | refl => exact hQ
  | sw _ h2 h3 ih =>
    intro i h4 h5
    simp only [swF]
    split
    · exact ih _ h2.1 h2.2
    · split
      · exact ih _ h3.1 h3.2
      · exact ih _ h4 h5
/-- the segment from a on changes place with the one from b on -/
def swR (f : Nat → α) (a b k : Nat) : Nat → α := fun i => if a ≤ i ∧ i < a + k then f (i - a + b) else if b ≤ i ∧ i < b + k then f (i - b + a) else f i
theorem swR_zero : swR f a b 0 = f := by
  funext i; unfold swR; rw [if_neg (by omega), if_neg (by omega)]
theorem swR_succ (k : Nat) (h : a + k + 1 ≤ b) : swR f a b (k + 1) = swF (swR f a b k) (a + k) (b + k) := by
  funext i
  unfold swF swR
  by_cases h1 : i = b + k
  · subst h1
    rw [if_pos rfl, if_neg (by omega), if_pos (by omega), if_neg (by omega), if_neg (by omega)]
    congr 1; omega
  · rw [if_neg h1]
    by_cases h2 : i = a + k
    · subst h2
      rw [if_pos rfl, if_pos (by omega), if_neg (by omega), if_neg (by omega)]
      congr 1; omega
    · rw [if_neg h2]
      by_cases h3 : a ≤ i ∧ i < a + k
      · rw [if_pos (by omega), if_pos h3]
      · rw [if_neg (by omega), if_neg h3]
        by_cases h4 : b ≤ i ∧ i < b + k
        · rw [if_pos (by omega), if_pos h4]
        · rw [if_neg (by omega), if_neg h4]
theorem swR_pm {lo hi : Nat} (k : Nat) (h : a + k ≤ b) (hlo : lo ≤ a) (hhi : b + k ≤ hi) : Pm lo hi f (swR f a b k) := by
  induction k with
  | zero => rw [swR_zero]; exact .refl
  | succ k ih => rw [swR_succ k (by omega)]; exact .sw (ih (by omega) (by omega)) (by omega) (by omega)
def rotF (f : Nat → α) (a m b : Nat) : Nat → α := fun i => if a ≤ i ∧ i < a + (b - m) then f (i - a + m) else if a + (b - m) ≤ i ∧ i < b then f (i - (b - m)) else f i
theorem rot_gt (i j m : Nat) (hj : 0 < j) (hi : j < i) (hm : i ≤ m) : rotF (swR f (m - i) m j) (m - (i - j)) m (m + j) = rotF f (m - i) m (m + j) := by
  funext t
  unfold rotF swR
  have e : m + j - m = j := by omega
  rw [e]
  by_cases h1 : m - i ≤ t ∧ t < m - i + j
  · rw [if_neg (by omega), if_neg (by omega), if_pos h1, if_pos h1]
  · by_cases h2 : m - (i - j) ≤ t ∧ t < m - (i - j) + j
    · rw [if_pos h2, if_neg (by omega), if_pos (by omega), if_neg h1, if_pos (by omega)]
      congr 1; omega
    · by_cases h3 : m - (i - j) + j ≤ t ∧ t < m + j
      · rw [if_neg h2, if_pos h3, if_neg (by omega), if_neg (by omega), if_neg h1, if_pos (by omega)]
      · rw [if_neg h2, if_neg h3, if_neg h1, if_neg (by omega), if_neg h1, if_neg (by omega)]
theorem rot_lt (i j m : Nat) (hj : 0 < i) (hi : i < j) (hm : i ≤ m) : rotF (swR f (m - i) (m + j - i) i) (m - i) m (m + (j - i)) = rotF f (m - i) m (m + j) := by
  funext t
  unfold rotF swR
  have e : m + (j - i) - m = j - i := by omega
  have e2 : m + j - m = j := by omega
  rw [e, e2]
  by_cases h1 : m - i ≤ t ∧ t < m - i + (j - i)
  · rw [if_pos h1, if_neg (by omega), if_neg (by omega), if_pos (by omega)]
  · by_cases h3 : m - i + (j - i) ≤ t ∧ t < m + (j - i)
    · rw [if_neg h1, if_pos h3, if_pos (by omega), if_pos (by omega)]
      congr 1; omega
    · by_cases h4 : m + j - i ≤ t ∧ t < m + j - i + i
      · rw [if_neg h1, if_neg h3, if_neg (by omega), if_pos h4, if_neg (by omega), if_pos (by omega)]
        congr 1; omega
      · rw [if_neg h1, if_neg h3, if_neg (by omega), if_neg h4, if_neg (by omega), if_neg (by omega)]
theorem rot_eq (i m : Nat) (hm : i ≤ m) : swR f (m - i) m i = rotF f (m - i) m (m + i) := by
  funext t
  unfold rotF swR
  have e : m + i - m = i := by omega
  rw [e]
  by_cases h1 : m - i ≤ t ∧ t < m - i + i
  · rw [if_pos h1, if_pos h1]
  · rw [if_neg h1, if_neg h1]
    by_cases h2 : m ≤ t ∧ t < m + i
    · rw [if_pos h2, if_pos (by omega)]; congr 1; omega
    · rw [if_neg h2, if_neg (by omega)]
end
/-- block g holds the values of f, in rows of four cells -/
def ArrR {α : Type} (C : α → List Value) (w : World) (g n : Nat) (f : Nat → α) : Prop :=
  ∃ cs ty, w.heap[g]? = some (.cells cs ty (0, 0)) ∧ n * 4 ≤ cs.size ∧ ∀ i, i < n → ∀ j v, (C (f i))[j]? = some v → cs[i * 4 + j]? = some v
theorem arr_row {α : Type} {C : α → List Value} {w : World} {g n : Nat} {f : Nat → α} {cs : Array Value} {ty : TypeId} (hh : w.heap[g]? = some (.cells cs ty (0, 0))) (hc : ∀ i, i < n → ∀ j v, (C (f i))[j]? = some v → cs[i * 4 + j]? = some v) {i : Nat} (hi : i < n) :
    Row w ((⟨g, 0, none⟩ : Addr).add (i * 4)) (C (f i)) := fun j v hv => by
  rw [add_add, ad0]
  have := hc i hi j v hv
  simp [World.cell?, hh, this]
theorem splice_size (cs : Array Value) (o : Nat) (vs : List Value) (h : o + vs.length ≤ cs.size) : (splice cs o vs).size = cs.size := by
  simp [splice]; omega
theorem splice_get (cs : Array Value) (o : Nat) (vs : List Value) (h : o + vs.length ≤ cs.size) (k : Nat) : (splice cs o vs)[k]? = if o ≤ k ∧ k < o + vs.length then vs[k - o]? else cs[k]? := by
  simp only [splice, List.getElem?_toArray]
  by_cases h1 : k < o
  · rw [if_neg (by omega), List.append_assoc, List.getElem?_append_left (by simp; omega), List.getElem?_take, if_pos h1]; simp
  · by_cases h2 : k < o + vs.length
    · rw [if_pos (by omega), List.append_assoc, List.getElem?_append_right (by simp; omega), List.getElem?_append_left (by simp; omega)]
      congr 1; simp; omega
    · rw [if_neg (by omega), List.append_assoc, List.getElem?_append_right (by simp; omega), List.getElem?_append_right (by simp; omega), List.getElem?_drop]
      simp; congr 1; omega
theorem arr_set {α : Type} {C : α → List Value} (hC : ∀ x, (C x).length = 4) {n : Nat} {f : Nat → α} {cs : Array Value} (hs : n * 4 ≤ cs.size) (hc : ∀ i, i < n → ∀ j v, (C (f i))[j]? = some v → cs[i * 4 + j]? = some v) {k : Nat} (hk : k < n) (x : α) :
    n * 4 ≤ (splice cs (k * 4) (C x)).size ∧ ∀ i, i < n → ∀ j v, (C (updF f k x i))[j]? = some v → (splice cs (k * 4) (C x))[i * 4 + j]? = some v := by
  have hb : k * 4 + (C x).length ≤ cs.size := by rw [hC]; omega
  refine ⟨by rw [splice_size _ _ _ hb]; exact hs, fun i hi j v hv => ?_⟩
  have hj : j < 4 := by
    have := (List.getElem?_eq_some_iff.1 hv).1
    rwa [hC] at this
  rw [splice_get _ _ _ hb, hC]
  unfold updF at hv
  by_cases he : i = k
  · subst he
    rw [if_pos rfl] at hv
    rw [if_pos (by omega), ← hv]
    congr 1; omega
  · rw [if_neg he] at hv
    rw [if_neg (by omega)]
    exact hc i hi j v hv
theorem sw_upd {α : Type} (f : Nat → α) (i j : Nat) : updF (updF f i (f j)) j (f i) = swF f i j := by
  funext k; unfold updF swF; rfl
section
variable {w : World} {g n c : Nat} {cv : Value}
theorem mod_two {w : World} {g : Nat} {cs cs' : Array Value} : Mod (fun k => k = g) w ((w.setRow g cs).setRow g cs') := (setRow_mod (M := fun k => k = g) rfl).trans (setRow_mod (M := fun k => k = g) rfl)
theorem slices_swapRange_CharMetric_c {f : Nat → Ch} {a b k : Nat} (h : ArrR chC w g n f) (hab : a + k ≤ b) (hb : b + k ≤ n) (hn : n ≤ 1000000) :
    Ret Go.Proofs.Tryz.prog 131 #[.slice (some ⟨g, 0, none⟩) n c, iV a, iV b, iV k, cv] w fun v w' => v = .tuple #[] ∧ ArrR chC w' g n (swR f a b k) ∧ Mod (fun k => k = g) w w' := by
  refine enter Go.Proofs.Tryz.func131 rfl rfl rfl ?_
  refine W_sr rfl (s_as rfl (s_nil ?_))
  refine W_block ?_
  refine W_loop (fun m ρ w' => ∃ ρ' i, ρ = upd (upd (upd (upd (upd ρ' 0 (.slice (some ⟨g, 0, none⟩) n c)) 1 (iV a)) 2 (iV b)) 3 (iV k)) 10 (iV (i : Nat)) ∧ i ≤ k ∧ m = k - i ∧ ArrR chC w' g n (swR f a b i) ∧ Mod (fun k => k = g) w w') k
    ⟨_, 0, u5 rfl rfl rfl rfl rfl, by omega, by omega, by rw [swR_zero]; exact h, Mod.refl⟩ ?_
  rintro m _ w1 ⟨ρ, i, rfl, hi, rfl, ⟨cs, ty, hh, hsz, hc⟩, hM⟩
  refine W_seq ?_
  refine W_sr rfl (s_mv rfl (s_mv rfl (s_lss rfl rfl (s_nil ?_))))
  refine W_if rfl (fun hd => W_skip ?_) (fun hd => W_exit ?_)
  · have hd := of_decide_eq_true hd
    have hik : i < k := by omega
    have hai : a + i < n := by omega
    have hbi : b + i < n := by omega
    have set1 := arr_set chC_len hsz hc hai (swR f a b i (b + i))
    have set2 := arr_set chC_len set1.1 set1.2 hbi (swR f a b i (a + i))
    refine W_seq (W_block ?_)
    refine W_d (fun w' => w'.heap[g]? = some (.cells cs ty (0, 0))) [21, 22, 23] orders (D_pure 0 rfl rfl (by kernel_rfl) rfl (fun _ => r_mv rfl) (fun _ => hh) (D_pure 1 rfl rfl (by kernel_rfl) rfl (fun _ => r_mv rfl) (fun _ => hh) (D_pure 2 rfl rfl (by kernel_rfl) rfl (fun _ => r_mv rfl) (fun _ => hh) (D_pure 3 rfl rfl (by kernel_rfl) rfl (fun _ => r_add rfl rfl (by omega)) (fun _ => hh) (D_pure 4 rfl rfl (by kernel_rfl) rfl (fun _ => r_mv rfl) (fun _ => hh) (D_pure 5 rfl rfl (by kernel_rfl) rfl (fun _ => r_mv rfl) (fun _ => hh) (D_pure 6 rfl rfl (by kernel_rfl) rfl (fun _ => r_mv rfl) (fun _ => hh) (D_pure 7 rfl rfl (by kernel_rfl) rfl (fun _ => r_add rfl rfl (by omega)) (fun _ => hh) (D_pure 8 rfl rfl (by kernel_rfl) rfl (fun _ => r_mv rfl) (fun _ => hh) (D_pure 9 rfl rfl (by kernel_rfl) rfl (fun _ => r_mv rfl) (fun _ => hh) (D_pure 10 rfl rfl (by kernel_rfl) rfl (fun _ => r_mv rfl) (fun _ => hh) (D_pure 11 rfl rfl (by kernel_rfl) rfl (fun _ => r_add rfl rfl (by omega)) (fun _ => hh) (D_pure 12 rfl rfl (by kernel_rfl) rfl (fun _ => r_ia E rfl rfl rfl (show (b : Int) + i = ((b + i : Nat) : Int) by omega) hbi) (fun _ => hh) (D_take 13 rfl rfl (by kernel_rfl) rfl (fun _ hs => r_lda E rfl rfl (arr_row hs hc hbi) rfl) hh (D_pure 14 rfl rfl (by kernel_rfl) rfl (fun _ => r_mv rfl) (fun _ => hh) (D_pure 15 rfl rfl (by kernel_rfl) rfl (fun _ => r_mv rfl) (fun _ => hh) (D_pure 16 rfl rfl (by kernel_rfl) rfl (fun _ => r_mv rfl) (fun _ => hh) (D_pure 17 rfl rfl (by kernel_rfl) rfl (fun _ => r_add rfl rfl (by omega)) (fun _ => hh) (D_pure 18 rfl rfl (by kernel_rfl) rfl (fun _ => r_ia E rfl rfl rfl (show (a : Int) + i = ((a + i : Nat) : Int) by omega) hai) (fun _ => hh) (D_take 19 rfl rfl (by kernel_rfl) rfl (fun _ hs => r_lda E rfl rfl (arr_row hs hc hai) rfl) hh (D_pure 20 rfl rfl (by kernel_rfl) rfl (fun _ => r_ia E rfl rfl rfl (show (a : Int) + i = ((a + i : Nat) : Int) by omega) hai) (fun _ => hh) (D_oneM 21 rfl (by kernel_rfl) rfl (by kernel_rfl) (s_st E (vs := chC (swR f a b i (b + i))) rfl rfl (ad0 g _) rfl hh rfl rfl rfl (by rw [chC_len]; omega) (s_nil (D_oneM 22 rfl (by kernel_rfl) rfl (by kernel_rfl) (s_ia E rfl rfl rfl (show (b : Int) + i = ((b + i : Nat) : Int) by omega) hbi (s_nil (D_oneM 23 rfl (by kernel_rfl) rfl (by kernel_rfl) (s_st E (vs := chC (swR f a b i (a + i))) rfl rfl (ad0 g _) rfl (setRow_heap _ _ _ _ ty (0, 0) hh) rfl rfl rfl (by have := set1.1; rw [chC_len]; omega) (s_nil (D_done (by kernel_rfl) ?_)))))))))))))))))))))))))))))))
    refine W_reg rfl (s_mv rfl (s_add rfl rfl (by omega) (s_as rfl (s_nil ?_))))
    refine ⟨k - (i + 1), by omega, _, i + 1, u5 rfl rfl rfl rfl rfl, by omega, rfl, ⟨_, ty, setRow_heap _ _ _ _ ty (0, 0) (setRow_heap _ _ _ _ ty (0, 0) hh), set2.1, ?_⟩, hM.trans ((Mod.of_ext Ext.drew0).trans mod_two)⟩
    rw [swR_succ i (by omega), ← sw_upd]
    exact set2.2
  · have hd := of_decide_eq_false hd
    have hik : i = k := by omega
    subst hik
    exact ⟨_, rfl, rfl, ⟨cs, ty, hh, hsz, hc⟩, hM⟩
theorem slices_swapRange_LigRule_c {f : Nat → Ru} {a b k : Nat} (h : ArrR ruC w g n f) (hab : a + k ≤ b) (hb : b + k ≤ n) (hn : n ≤ 1000000) :
    Ret Go.Proofs.Tryz.prog 132 #[.slice (some ⟨g, 0, none⟩) n c, iV a, iV b, iV k, cv] w fun v w' => v = .tuple #[] ∧ ArrR ruC w' g n (swR f a b k) ∧ Mod (fun k => k = g) w w' := by
  refine enter Go.Proofs.Tryz.func132 rfl rfl rfl ?_
  refine W_sr rfl (s_as rfl (s_nil ?_))
  refine W_block ?_
  refine W_loop (fun m ρ w' => ∃ ρ' i, ρ = upd (upd (upd (upd (upd ρ' 0 (.slice (some ⟨g, 0, none⟩) n c)) 1 (iV a)) 2 (iV b)) 3 (iV k)) 10 (iV (i : Nat)) ∧ i ≤ k ∧ m = k - i ∧ ArrR ruC w' g n (swR f a b i) ∧ Mod (fun k => k = g) w w') k
    ⟨_, 0, u5 rfl rfl rfl rfl rfl, by omega, by omega, by rw [swR_zero]; exact h, Mod.refl⟩ ?_
  rintro m _ w1 ⟨ρ, i, rfl, hi, rfl, ⟨cs, ty, hh, hsz, hc⟩, hM⟩
  refine W_seq ?_
  refine W_sr rfl (s_mv rfl (s_mv rfl (s_lss rfl rfl (s_nil ?_))))
  refine W_if rfl (fun hd => W_skip ?_) (fun hd => W_exit ?_)
  · have hd := of_decide_eq_true hd
    have hik : i < k := by omega
    have hai : a + i < n := by omega
    have hbi : b + i < n := by omega
    have set1 := arr_set ruC_len hsz hc hai (swR f a b i (b + i))
    have set2 := arr_set ruC_len set1.1 set1.2 hbi (swR f a b i (a + i))
    refine W_seq (W_block ?_)
    refine W_d (fun w' => w'.heap[g]? = some (.cells cs ty (0, 0))) [21, 22, 23] orders (D_pure 0 rfl rfl (by kernel_rfl) rfl (fun _ => r_mv rfl) (fun _ => hh) (D_pure 1 rfl rfl (by kernel_rfl) rfl (fun _ => r_mv rfl) (fun _ => hh) (D_pure 2 rfl rfl (by kernel_rfl) rfl (fun _ => r_mv rfl) (fun _ => hh) (D_pure 3 rfl rfl (by kernel_rfl) rfl (fun _ => r_add rfl rfl (by omega)) (fun _ => hh) (D_pure 4 rfl rfl (by kernel_rfl) rfl (fun _ => r_mv rfl) (fun _ => hh) (D_pure 5 rfl rfl (by kernel_rfl) rfl (fun _ => r_mv rfl) (fun _ => hh) (D_pure 6 rfl rfl (by kernel_rfl) rfl (fun _ => r_mv rfl) (fun _ => hh) (D_pure 7 rfl rfl (by kernel_rfl) rfl (fun _ => r_add rfl rfl (by omega)) (fun _ => hh) (D_pure 8 rfl rfl (by kernel_rfl) rfl (fun _ => r_mv rfl) (fun _ => hh) (D_pure 9 rfl rfl (by kernel_rfl) rfl (fun _ => r_mv rfl) (fun _ => hh) (D_pure 10 rfl rfl (by kernel_rfl) rfl (fun _ => r_mv rfl) (fun _ => hh) (D_pure 11 rfl rfl (by kernel_rfl) rfl (fun _ => r_add rfl rfl (by omega)) (fun _ => hh) (D_pure 12 rfl rfl (by kernel_rfl) rfl (fun _ => r_ia E rfl rfl rfl (show (b : Int) + i = ((b + i : Nat) : Int) by omega) hbi) (fun _ => hh) (D_take 13 rfl rfl (by kernel_rfl) rfl (fun _ hs => r_lda E rfl rfl (arr_row hs hc hbi) rfl) hh (D_pure 14 rfl rfl (by kernel_rfl) rfl (fun _ => r_mv rfl) (fun _ => hh) (D_pure 15 rfl rfl (by kernel_rfl) rfl (fun _ => r_mv rfl) (fun _ => hh) (D_pure 16 rfl rfl (by kernel_rfl) rfl (fun _ => r_mv rfl) (fun _ => hh) (D_pure 17 rfl rfl (by kernel_rfl) rfl (fun _ => r_add rfl rfl (by omega)) (fun _ => hh) (D_pure 18 rfl rfl (by kernel_rfl) rfl (fun _ => r_ia E rfl rfl rfl (show (a : Int) + i = ((a + i : Nat) : Int) by omega) hai) (fun _ => hh) (D_take 19 rfl rfl (by kernel_rfl) rfl (fun _ hs => r_lda E rfl rfl (arr_row hs hc hai) rfl) hh (D_pure 20 rfl rfl (by kernel_rfl) rfl (fun _ => r_ia E rfl rfl rfl (show (a : Int) + i = ((a + i : Nat) : Int) by omega) hai) (fun _ => hh) (D_oneM 21 rfl (by kernel_rfl) rfl (by kernel_rfl) (s_st E (vs := ruC (swR f a b i (b + i))) rfl rfl (ad0 g _) rfl hh rfl rfl rfl (by rw [ruC_len]; omega) (s_nil (D_oneM 22 rfl (by kernel_rfl) rfl (by kernel_rfl) (s_ia E rfl rfl rfl (show (b : Int) + i = ((b + i : Nat) : Int) by omega) hbi (s_nil (D_oneM 23 rfl (by kernel_rfl) rfl (by kernel_rfl) (s_st E (vs := ruC (swR f a b i (a + i))) rfl rfl (ad0 g _) rfl (setRow_heap _ _ _ _ ty (0, 0) hh) rfl rfl rfl (by have := set1.1; rw [ruC_len]; omega) (s_nil (D_done (by kernel_rfl) ?_)))))))))))))))))))))))))))))))
    refine W_reg rfl (s_mv rfl (s_add rfl rfl (by omega) (s_as rfl (s_nil ?_))))
    refine ⟨k - (i + 1), by omega, _, i + 1, u5 rfl rfl rfl rfl rfl, by omega, rfl, ⟨_, ty, setRow_heap _ _ _ _ ty (0, 0) (setRow_heap _ _ _ _ ty (0, 0) hh), set2.1, ?_⟩, hM.trans ((Mod.of_ext Ext.drew0).trans mod_two)⟩
    rw [swR_succ i (by omega), ← sw_upd]
    exact set2.2
  · have hd := of_decide_eq_false hd
    have hik : i = k := by omega
    subst hik
    exact ⟨_, rfl, rfl, ⟨cs, ty, hh, hsz, hc⟩, hM⟩
end
end Go.Proofs.YthfnijlgmjkedaaGreat
namespace Go.Proofs.YthfnijlgmjkedaaGreat
set_option maxRecDepth 100000
set_option linter.unusedVariables false
set_option linter.unusedSimpArgs false
open Go Go.Fx Go.Proofs.YthfnijlgmjkedaaGreat.Tab
/-- cmp is an order up to equal elements -/
structure Ordr {α : Type} (cmp : α → α → Int) : Prop where
  asym : ∀ x y, cmp x y < 0 → 0 ≤ cmp y x
  tr : ∀ x y z, 0 ≤ cmp y x → 0 ≤ cmp z y → 0 ≤ cmp z x
def Srt {α : Type} (cmp : α → α → Int) (f : Nat → α) (a b : Nat) : Prop := ∀ i j, a ≤ i → i < j → j < b → 0 ≤ cmp (f j) (f i)
theorem ins_sw {α : Type} {cmp : α → α → Int} (ho : Ordr cmp) {f : Nat → α} {a i j : Nat} (hj : a < j) (hi : j ≤ i) (h : ∀ p q, a ≤ p → p < q → q ≤ i → q ≠ j → 0 ≤ cmp (f q) (f p)) (hl : cmp (f j) (f (j - 1)) < 0) :
    ∀ p q, a ≤ p → p < q → q ≤ i → q ≠ j - 1 → 0 ≤ cmp (swF f j (j - 1) q) (swF f j (j - 1) p) := by
  intro p q hp hpq hq hne
  unfold swF
  rw [if_neg hne]
  by_cases h1 : q = j
  · rw [if_pos h1]
    by_cases h2 : p = j - 1
    · rw [if_pos h2]; exact ho.asym _ _ hl
    · rw [if_neg h2, if_neg (by omega)]; exact h _ _ hp (by omega) (by omega) (by omega)
  · rw [if_neg h1]
    by_cases h2 : p = j - 1
    · rw [if_pos h2]; exact h _ _ (by omega) (by omega) hq h1
    · rw [if_neg h2]
      by_cases h3 : p = j
      · rw [if_pos h3]; exact h _ _ (by omega) (by omega) hq h1
      · rw [if_neg h3]; exact h _ _ hp hpq hq h1
theorem ins_done {α : Type} {cmp : α → α → Int} (ho : Ordr cmp) {f : Nat → α} {a i j : Nat} (hi : j ≤ i) (h : ∀ p q, a ≤ p → p < q → q ≤ i → q ≠ j → 0 ≤ cmp (f q) (f p)) (hl : j ≤ a ∨ 0 ≤ cmp (f j) (f (j - 1))) : Srt cmp f a (i + 1) := by
  intro p q hp hpq hq
  by_cases e : q = j
  · subst e
    rcases hl with hl | hl
    · omega
    · by_cases e2 : p = q - 1
      · subst e2; exact hl
      · exact ho.tr _ _ _ (h p (q - 1) hp (by omega) (by omega) (by omega)) hl
  · exact h p q hp hpq (by omega) e
section
variable {w : World} {g n c : Nat} {cv : Value}
theorem cell_row {α : Type} {C : α → List Value} {w1 w' : World} {g n : Nat} {f : Nat → α} {cs : Array Value} {ty : TypeId} (hh : w1.heap[g]? = some (.cells cs ty (0, 0))) (hc : ∀ i, i < n → ∀ j v, (C (f i))[j]? = some v → cs[i * 4 + j]? = some v) {i : Nat} (hi : i < n) (hE : Ext w1 w') :
    Row w' ((⟨g, 0, none⟩ : Addr).add (i * 4)) (C (f i)) := arr_row (Ext.heap hE hh) hc hi
theorem slices_rotate_CharMetric_c {f : Nat → Ch} {a m b : Nat} (h : ArrR chC w g n f) (ham : a < m) (hmb : m < b) (hb : b ≤ n) (hn : n ≤ 1000000) :
    Ret Go.Proofs.Tryz.prog 124 #[.slice (some ⟨g, 0, none⟩) n c, iV a, iV m, iV b, cv] w fun v w' => v = .tuple #[] ∧ ArrR chC w' g n (rotF f a m b) ∧ Pm a b f (rotF f a m b) ∧ Mod (fun k => k = g) w w' := by
  refine enter Go.Proofs.Tryz.func124 rfl rfl rfl ?_
  refine W_sr rfl (s_mv rfl (s_mv rfl (s_sub rfl rfl (by omega) (s_as rfl (s_nil ?_)))))
  refine W_sr rfl (s_mv rfl (s_mv rfl (s_sub rfl rfl (by omega) (s_as rfl (s_nil ?_)))))
  refine W_seq ?_
  refine W_block ?_
  refine W_loop (fun q ρ w' => ∃ ρ' i j f', ρ = upd (upd (upd (upd (upd ρ' 0 (.slice (some ⟨g, 0, none⟩) n c)) 2 (iV m)) 4 cv) 10 (iV (i : Nat))) 11 (iV (j : Nat)) ∧ 0 < i ∧ 0 < j ∧ i ≤ m - a ∧ j ≤ b - m ∧ q = i + j ∧
      ArrR chC w' g n f' ∧ Pm a b f f' ∧ rotF f' (m - i) m (m + j) = rotF f a m b ∧ Mod (fun k => k = g) w w') (m - a + (b - m))
    ⟨_, m - a, b - m, f, u5 rfl rfl rfl (congrArg iV (show (m : Int) - a = ((m - a : Nat) : Int) by omega)) (congrArg iV (show (b : Int) - m = ((b - m : Nat) : Int) by omega)), by omega, by omega, by omega, by omega, rfl, h, .refl, by rw [show m - (m - a) = a by omega, show m + (b - m) = b by omega], Mod.refl⟩ ?_
  rintro q _ w1 ⟨ρ, i, j, f1, rfl, hi0, hj0, hi, hj, rfl, hA, hP, hR, hM⟩
  refine W_seq ?_
  refine W_sr rfl (s_mv rfl (s_mv rfl (s_neq rfl rfl (s_nil ?_))))
  refine W_if rfl (fun hd => W_skip ?_) (fun hd => W_exit ?_)
  · have hd : i ≠ j := by have := of_decide_eq_true hd; omega
    refine W_block ?_
    refine W_sr rfl (s_mv rfl (s_mv rfl (s_gtr rfl rfl (s_nil ?_))))
    refine W_if rfl (fun he => ?_) (fun he => ?_)
    · have he := of_decide_eq_true he
      have hji : j < i := by omega
      have call := slices_swapRange_CharMetric_c (c := c) (cv := cv) (a := m - i) (b := m) (k := j) hA (by omega) (by omega) hn
      rw [show ((m - i : Nat) : Int) = (m : Int) - i by omega] at call
      refine W_sr rfl (s_mv rfl (s_mv rfl (s_mv rfl (s_sub rfl rfl (by omega) (s_mv rfl (s_mv rfl (s_mv rfl (s_callx rfl rfl call fun w2 h2 => (s_nil ?_)))))))))
      refine W_reg rfl (s_mv rfl (s_mv rfl (s_sub rfl rfl (by omega) (s_as rfl (s_nil ?_)))))
      refine ⟨i - j + j, by omega, _, i - j, j, _, u5 rfl rfl rfl (congrArg iV (show (i : Int) - j = ((i - j : Nat) : Int) by omega)) rfl, by omega, hj0, by omega, hj, rfl, h2.1, hP.trans (swR_pm j (by omega) (by omega) (by omega)), ?_, hM.trans h2.2⟩
      rw [rot_gt i j m hj0 hji (by omega), hR]
    · have he := of_decide_eq_false he
      have hji : i < j := by omega
      have call := slices_swapRange_CharMetric_c (c := c) (cv := cv) (a := m - i) (b := m + j - i) (k := i) hA (by omega) (by omega) hn
      rw [show ((m - i : Nat) : Int) = (m : Int) - i by omega, show ((m + j - i : Nat) : Int) = (m : Int) + j - i by omega] at call
      refine W_sr rfl (s_mv rfl (s_mv rfl (s_mv rfl (s_sub rfl rfl (by omega) (s_mv rfl (s_mv rfl (s_add rfl rfl (by omega) (s_mv rfl (s_sub rfl rfl (by omega) (s_mv rfl (s_mv rfl (s_callx rfl rfl call fun w2 h2 => (s_nil ?_)))))))))))))
      refine W_reg rfl (s_mv rfl (s_mv rfl (s_sub rfl rfl (by omega) (s_as rfl (s_nil ?_)))))
      refine ⟨i + (j - i), by omega, _, i, j - i, _, u5 rfl rfl rfl rfl (congrArg iV (show (j : Int) - i = ((j - i : Nat) : Int) by omega)), hi0, by omega, hi, by omega, rfl, h2.1, hP.trans (swR_pm i (by omega) (by omega) (by omega)), ?_, hM.trans h2.2⟩
      rw [rot_lt i j m hi0 hji (by omega), hR]
  · have hd : i = j := by have := of_decide_eq_false hd; omega
    subst hd
    have call := slices_swapRange_CharMetric_c (c := c) (cv := cv) (a := m - i) (b := m) (k := i) hA (by omega) (by omega) hn
    rw [show ((m - i : Nat) : Int) = (m : Int) - i by omega] at call
    refine W_reg rfl (s_mv rfl (s_mv rfl (s_mv rfl (s_sub rfl rfl (by omega) (s_mv rfl (s_mv rfl (s_mv rfl (s_callx rfl rfl call fun w2 h2 => (s_nil ?_)))))))))
    have e := rot_eq (f := f1) i m (by omega)
    refine ⟨_, rfl, rfl, ?_, ?_, hM.trans h2.2⟩
    · rw [← hR, ← e]; exact h2.1
    · rw [← hR, ← e]; exact hP.trans (swR_pm i (by omega) (by omega) (by omega))
theorem slices_insertionSort_CharMetric_c {f : Nat → Ch} {a b : Nat} {gc : FuncId} {cmp : Ch → Ch → Int} (ho : Ordr cmp) (hg : ∀ x y w, Ret Go.Proofs.Tryz.prog gc #[chV x, chV y] w fun v w' => v = iV (cmp x y) ∧ Ext w w')
    (h : ArrR chC w g n f) (hab : a ≤ b) (hb : b ≤ n) (hn : n ≤ 1000000) :
    Ret Go.Proofs.Tryz.prog 110 #[.slice (some ⟨g, 0, none⟩) n c, iV a, iV b, .func (.func gc) #[] #[]] w fun v w' => v = .tuple #[] ∧ ∃ f', ArrR chC w' g n f' ∧ Pm a b f f' ∧ Srt cmp f' a b ∧ Mod (fun k => k = g) w w' := by
  refine enter Go.Proofs.Tryz.func110 rfl rfl rfl ?_
  refine W_sr rfl (s_mv rfl (s_add rfl rfl (by omega) (s_as rfl (s_nil ?_))))
  refine W_block ?_
  refine W_loop (fun q ρ w' => ∃ ρ' i f', ρ = upd (upd (upd (upd (upd ρ' 0 (.slice (some ⟨g, 0, none⟩) n c)) 1 (iV a)) 2 (iV b)) 3 (.func (.func gc) #[] #[])) 8 (iV (i : Nat)) ∧ a < i ∧ (a < b → i ≤ b) ∧ q = b - i ∧ ArrR chC w' g n f' ∧ Pm a b f f' ∧ Srt cmp f' a i ∧ Mod (fun k => k = g) w w') (b - (a + 1))
    ⟨_, a + 1, f, u5 rfl rfl rfl rfl rfl, by omega, by omega, rfl, h, .refl, fun i j h1 h2 h3 => by omega, Mod.refl⟩ ?_
  rintro q _ w1 ⟨ρ, i, f1, rfl, hai, hib, rfl, hA, hP, hS, hM⟩
  refine W_seq ?_
  refine W_sr rfl (s_mv rfl (s_mv rfl (s_lss rfl rfl (s_nil ?_))))
  refine W_if rfl (fun hd => W_skip ?_) (fun hd => W_exit ?_)
  · have hd := of_decide_eq_true hd
    have hib : i < b := by omega
    refine W_seq (W_block ?_)
    refine W_sr rfl (s_mv rfl (s_as rfl (s_nil ?_)))
    refine W_block ?_
    refine W_loop (fun q ρ w' => ∃ ρ' j f', ρ = upd (upd (upd (upd (upd (upd ρ' 0 (.slice (some ⟨g, 0, none⟩) n c)) 1 (iV a)) 2 (iV b)) 3 (.func (.func gc) #[] #[])) 8 (iV (i : Nat))) 9 (iV (j : Nat)) ∧ j ≤ i ∧ a ≤ j ∧ q = 0 + j ∧ ArrR chC w' g n f' ∧ Pm a b f f' ∧ (∀ p q, a ≤ p → p < q → q ≤ i → q ≠ j → 0 ≤ cmp (f' q) (f' p)) ∧ Mod (fun k => k = g) w w') (0 + i)
      ⟨_, i, f1, u6 rfl rfl rfl rfl rfl rfl, by omega, by omega, rfl, hA, hP, fun p q h1 h2 h3 h4 => hS p q h1 h2 (by omega), hM⟩ ?_
    clear hA hP hS hM
    rintro q _ w2 ⟨ρ, j, f2, rfl, hj, haj, rfl, ⟨cs, ty, hh, hsz, hc⟩, hP, hS, hM⟩
    refine W_seq ?_
    by_cases h0 : (a : Int) < j
    · have hj1 : j - 1 < n := by omega
      refine W_qr (Ext w2) orders rfl (by kernel_rfl) (Ext.drew0) (q_mv rfl (q_mv rfl (q_cmp (c := true) rfl rfl (decide_eq_true h0) (q_mv rfl (q_g1 rfl (q_mv rfl (q_g1 rfl (q_mv rfl (q_g1 rfl (q_mv rfl (q_g1 rfl (q_ia E rfl rfl rfl rfl (by omega) (q_g1 rfl (q_lda E rfl rfl (fun w' hE => cell_row hh hc (show j < n by omega) hE) rfl (q_g1 rfl (q_mv rfl (q_g1 rfl (q_mv rfl (q_g1 rfl (q_sub rfl rfl (by omega) (q_g1 rfl (q_ia E rfl rfl rfl (show (j : Int) - 1 = ((j - 1 : Nat) : Int) by omega) hj1 (q_g1 rfl (q_lda E rfl rfl (fun w' hE => cell_row hh hc hj1 hE) rfl (q_g1 rfl (q_call rfl rfl (hg (f2 j) (f2 (j - 1)) w).1 (fun w' hw' => (hg _ _ w').mono fun v w'' h => ⟨h.1, hw'.trans h.2⟩) (q_g1 rfl (q_lss rfl rfl (q_pk rfl (q_nil ?_))))))))))))))))))))))))))))))
      intro w3 hE3
      refine W_if rfl (fun he => W_skip ?_) (fun he => W_exit ?_)
      · have he := of_decide_eq_true he
        have hh3 := Ext.heap hE3 hh
        have set1 := arr_set chC_len hsz hc (show j < n by omega) (f2 (j - 1))
        have set2 := arr_set chC_len set1.1 set1.2 hj1 (f2 j)
        refine W_seq (W_block ?_)
        refine W_d (fun w' => w'.heap[g]? = some (.cells cs ty (0, 0))) [15, 16, 17] orders (D_pure 0 rfl rfl (by kernel_rfl) rfl (fun _ => r_mv rfl) (fun _ => hh3) (D_pure 1 rfl rfl (by kernel_rfl) rfl (fun _ => r_mv rfl) (fun _ => hh3) (D_pure 2 rfl rfl (by kernel_rfl) rfl (fun _ => r_mv rfl) (fun _ => hh3) (D_pure 3 rfl rfl (by kernel_rfl) rfl (fun _ => r_mv rfl) (fun _ => hh3) (D_pure 4 rfl rfl (by kernel_rfl) rfl (fun _ => r_sub rfl rfl (by omega)) (fun _ => hh3) (D_pure 5 rfl rfl (by kernel_rfl) rfl (fun _ => r_mv rfl) (fun _ => hh3) (D_pure 6 rfl rfl (by kernel_rfl) rfl (fun _ => r_mv rfl) (fun _ => hh3) (D_pure 7 rfl rfl (by kernel_rfl) rfl (fun _ => r_sub rfl rfl (by omega)) (fun _ => hh3) (D_pure 8 rfl rfl (by kernel_rfl) rfl (fun _ => r_ia E rfl rfl rfl (show (j : Int) - 1 = ((j - 1 : Nat) : Int) by omega) hj1) (fun _ => hh3) (D_take 9 rfl rfl (by kernel_rfl) rfl (fun _ hs => r_lda E rfl rfl (arr_row hs hc hj1) rfl) hh3 (D_pure 10 rfl rfl (by kernel_rfl) rfl (fun _ => r_mv rfl) (fun _ => hh3) (D_pure 11 rfl rfl (by kernel_rfl) rfl (fun _ => r_mv rfl) (fun _ => hh3) (D_pure 12 rfl rfl (by kernel_rfl) rfl (fun _ => r_ia E rfl rfl rfl rfl (by omega)) (fun _ => hh3) (D_take 13 rfl rfl (by kernel_rfl) rfl (fun _ hs => r_lda E rfl rfl (arr_row hs hc (show j < n by omega)) rfl) hh3 (D_pure 14 rfl rfl (by kernel_rfl) rfl (fun _ => r_ia E rfl rfl rfl rfl (by omega)) (fun _ => hh3) (D_oneM 15 rfl (by kernel_rfl) rfl (by kernel_rfl) (s_st E (vs := chC (f2 (j - 1))) rfl rfl (ad0 g _) rfl hh3 rfl rfl rfl (by rw [chC_len]; omega) (s_nil (D_oneM 16 rfl (by kernel_rfl) rfl (by kernel_rfl) (s_ia E rfl rfl rfl (show (j : Int) - 1 = ((j - 1 : Nat) : Int) by omega) hj1 (s_nil (D_oneM 17 rfl (by kernel_rfl) rfl (by kernel_rfl) (s_st E (vs := chC (f2 j)) rfl rfl (ad0 g _) rfl (setRow_heap _ _ _ _ ty (0, 0) hh3) rfl rfl rfl (by have := set1.1; rw [chC_len]; omega) (s_nil (D_done (by kernel_rfl) ?_)))))))))))))))))))))))))
        refine W_reg rfl (s_mv rfl (s_sub rfl rfl (by omega) (s_as rfl (s_nil ?_))))
        refine ⟨0 + (j - 1), by omega, _, j - 1, swF f2 j (j - 1), u6 rfl rfl rfl rfl rfl (congrArg iV (show (j : Int) - 1 = ((j - 1 : Nat) : Int) by omega)), by omega, by omega, rfl, ⟨_, ty, setRow_heap _ _ _ _ ty (0, 0) (setRow_heap _ _ _ _ ty (0, 0) hh3), set2.1, ?_⟩, .sw hP (by omega) (by omega), ins_sw ho (by omega) hj hS he, (hM.trans (Mod.of_ext hE3)).trans ((Mod.of_ext Ext.drew0).trans mod_two)⟩
        rw [← sw_upd]
        exact set2.2
      · have he := of_decide_eq_false he
        refine W_reg rfl (s_mv rfl (s_add rfl rfl (by omega) (s_as rfl (s_nil ?_))))
        exact ⟨b - (i + 1), by omega, _, i + 1, f2, u5 rfl rfl rfl rfl rfl, by omega, by omega, rfl, ⟨cs, ty, Ext.heap hE3 hh, hsz, hc⟩, hP, ins_done ho hj hS (.inr (by omega)), hM.trans (Mod.of_ext hE3)⟩
    · refine W_qr (Ext w2) orders rfl (by kernel_rfl) (Ext.drew0) (q_mv rfl (q_mv rfl (q_cmp (c := false) rfl rfl (decide_eq_false h0) (q_mv rfl (q_g0 rfl (q_g0 rfl (q_g0 rfl (q_g0 rfl (q_g0 rfl (q_g0 rfl (q_g0 rfl (q_g0 rfl (q_g0 rfl (q_g0 rfl (q_g0 rfl (q_g0 rfl (q_pk rfl (q_nil ?_))))))))))))))))))
      intro w3 hE3
      refine W_if rfl (fun he => by cases he) (fun he => W_exit ?_)
      refine W_reg rfl (s_mv rfl (s_add rfl rfl (by omega) (s_as rfl (s_nil ?_))))
      exact ⟨b - (i + 1), by omega, _, i + 1, f2, u5 rfl rfl rfl rfl rfl, by omega, by omega, rfl, ⟨cs, ty, Ext.heap hE3 hh, hsz, hc⟩, hP, ins_done ho hj hS (.inl (by omega)), hM.trans (Mod.of_ext hE3)⟩
  · have hd := of_decide_eq_false hd
    refine ⟨_, rfl, rfl, f1, hA, hP, fun p q h1 h2 h3 => hS p q h1 h2 (by omega), hM⟩
theorem slices_rotate_LigRule_c {f : Nat → Ru} {a m b : Nat} (h : ArrR ruC w g n f) (ham : a < m) (hmb : m < b) (hb : b ≤ n) (hn : n ≤ 1000000) :
    Ret Go.Proofs.Tryz.prog 125 #[.slice (some ⟨g, 0, none⟩) n c, iV a, iV m, iV b, cv] w fun v w' => v = .tuple #[] ∧ ArrR ruC w' g n (rotF f a m b) ∧ Pm a b f (rotF f a m b) ∧ Mod (fun k => k = g) w w' := by
  refine enter Go.Proofs.Tryz.func125 rfl rfl rfl ?_
  refine W_sr rfl (s_mv rfl (s_mv rfl (s_sub rfl rfl (by omega) (s_as rfl (s_nil ?_)))))
  refine W_sr rfl (s_mv rfl (s_mv rfl (s_sub rfl rfl (by omega) (s_as rfl (s_nil ?_)))))
  refine W_seq ?_
  refine W_block ?_
  refine W_loop (fun q ρ w' => ∃ ρ' i j f', ρ = upd (upd (upd (upd (upd ρ' 0 (.slice (some ⟨g, 0, none⟩) n c)) 2 (iV m)) 4 cv) 10 (iV (i : Nat))) 11 (iV (j : Nat)) ∧ 0 < i ∧ 0 < j ∧ i ≤ m - a ∧ j ≤ b - m ∧ q = i + j ∧
      ArrR ruC w' g n f' ∧ Pm a b f f' ∧ rotF f' (m - i) m (m + j) = rotF f a m b ∧ Mod (fun k => k = g) w w') (m - a + (b - m))
    ⟨_, m - a, b - m, f, u5 rfl rfl rfl (congrArg iV (show (m : Int) - a = ((m - a : Nat) : Int) by omega)) (congrArg iV (show (b : Int) - m = ((b - m : Nat) : Int) by omega)), by omega, by omega, by omega, by omega, rfl, h, .refl, by rw [show m - (m - a) = a by omega, show m + (b - m) = b by omega], Mod.refl⟩ ?_
  rintro q _ w1 ⟨ρ, i, j, f1, rfl, hi0, hj0, hi, hj, rfl, hA, hP, hR, hM⟩
  refine W_seq ?_
  refine W_sr rfl (s_mv rfl (s_mv rfl (s_neq rfl rfl (s_nil ?_))))
  refine W_if rfl (fun hd => W_skip ?_) (fun hd => W_exit ?_)
  · have hd : i ≠ j := by have := of_decide_eq_true hd; omega
    refine W_block ?_
    refine W_sr rfl (s_mv rfl (s_mv rfl (s_gtr rfl rfl (s_nil ?_))))
    refine W_if rfl (fun he => ?_) (fun he => ?_)
    · have he := of_decide_eq_true he
      have hji : j < i := by omega
      have call := slices_swapRange_LigRule_c (c := c) (cv := cv) (a := m - i) (b := m) (k := j) hA (by omega) (by omega) hn
      rw [show ((m - i : Nat) : Int) = (m : Int) - i by omega] at call
      refine W_sr rfl (s_mv rfl (s_mv rfl (s_mv rfl (s_sub rfl rfl (by omega) (s_mv rfl (s_mv rfl (s_mv rfl (s_callx rfl rfl call fun w2 h2 => (s_nil ?_)))))))))
      refine W_reg rfl (s_mv rfl (s_mv rfl (s_sub rfl rfl (by omega) (s_as rfl (s_nil ?_)))))
      refine ⟨i - j + j, by omega, _, i - j, j, _, u5 rfl rfl rfl (congrArg iV (show (i : Int) - j = ((i - j : Nat) : Int) by omega)) rfl, by omega, hj0, by omega, hj, rfl, h2.1, hP.trans (swR_pm j (by omega) (by omega) (by omega)), ?_, hM.trans h2.2⟩
      rw [rot_gt i j m hj0 hji (by omega), hR]
    · have he := of_decide_eq_false he
      have hji : i < j := by omega
      have call := slices_swapRange_LigRule_c (c := c) (cv := cv) (a := m - i) (b := m + j - i) (k := i) hA (by omega) (by omega) hn
      rw [show ((m - i : Nat) : Int) = (m : Int) - i by omega, show ((m + j - i : Nat) : Int) = (m : Int) + j - i by omega] at call
      refine W_sr rfl (s_mv rfl (s_mv rfl (s_mv rfl (s_sub rfl rfl (by omega) (s_mv rfl (s_mv rfl (s_add rfl rfl (by omega) (s_mv rfl (s_sub rfl rfl (by omega) (s_mv rfl (s_mv rfl (s_callx rfl rfl call fun w2 h2 => (s_nil ?_)))))))))))))
      refine W_reg rfl (s_mv rfl (s_mv rfl (s_sub rfl rfl (by omega) (s_as rfl (s_nil ?_)))))
      refine ⟨i + (j - i), by omega, _, i, j - i, _, u5 rfl rfl rfl rfl (congrArg iV (show (j : Int) - i = ((j - i : Nat) : Int) by omega)), hi0, by omega, hi, by omega, rfl, h2.1, hP.trans (swR_pm i (by omega) (by omega) (by omega)), ?_, hM.trans h2.2⟩
      rw [rot_lt i j m hi0 hji (by omega), hR]
  · have hd : i = j := by have := of_decide_eq_false hd; omega
    subst hd
    have call := slices_swapRange_LigRule_c (c := c) (cv := cv) (a := m - i) (b := m) (k := i) hA (by omega) (by omega) hn
    rw [show ((m - i : Nat) : Int) = (m : Int) - i by omega] at call
    refine W_reg rfl (s_mv rfl (s_mv rfl (s_mv rfl (s_sub rfl rfl (by omega) (s_mv rfl (s_mv rfl (s_mv rfl (s_callx rfl rfl call fun w2 h2 => (s_nil ?_)))))))))
    have e := rot_eq (f := f1) i m (by omega)
    refine ⟨_, rfl, rfl, ?_, ?_, hM.trans h2.2⟩
    · rw [← hR, ← e]; exact h2.1
    · rw [← hR, ← e]; exact hP.trans (swR_pm i (by omega) (by omega) (by omega))
theorem slices_insertionSort_LigRule_c {f : Nat → Ru} {a b : Nat} {gc : FuncId} {cmp : Ru → Ru → Int} (ho : Ordr cmp) (hg : ∀ x y w, Ret Go.Proofs.Tryz.prog gc #[ruV x, ruV y] w fun v w' => v = iV (cmp x y) ∧ Ext w w')
    (h : ArrR ruC w g n f) (hab : a ≤ b) (hb : b ≤ n) (hn : n ≤ 1000000) :
    Ret Go.Proofs.Tryz.prog 112 #[.slice (some ⟨g, 0, none⟩) n c, iV a, iV b, .func (.func gc) #[] #[]] w fun v w' => v = .tuple #[] ∧ ∃ f', ArrR ruC w' g n f' ∧ Pm a b f f' ∧ Srt cmp f' a b ∧ Mod (fun k => k = g) w w' := by
  refine enter Go.Proofs.Tryz.func112 rfl rfl rfl ?_
  refine W_sr rfl (s_mv rfl (s_add rfl rfl (by omega) (s_as rfl (s_nil ?_))))
  refine W_block ?_
  refine W_loop (fun q ρ w' => ∃ ρ' i f', ρ = upd (upd (upd (upd (upd ρ' 0 (.slice (some ⟨g, 0, none⟩) n c)) 1 (iV a)) 2 (iV b)) 3 (.func (.func gc) #[] #[])) 8 (iV (i : Nat)) ∧ a < i ∧ (a < b → i ≤ b) ∧ q = b - i ∧ ArrR ruC w' g n f' ∧ Pm a b f f' ∧ Srt cmp f' a i ∧ Mod (fun k => k = g) w w') (b - (a + 1))
    ⟨_, a + 1, f, u5 rfl rfl rfl rfl rfl, by omega, by omega, rfl, h, .refl, fun i j h1 h2 h3 => by omega, Mod.refl⟩ ?_
  rintro q _ w1 ⟨ρ, i, f1, rfl, hai, hib, rfl, hA, hP, hS, hM⟩
  refine W_seq ?_
  refine W_sr rfl (s_mv rfl (s_mv rfl (s_lss rfl rfl (s_nil ?_))))
  refine W_if rfl (fun hd => W_skip ?_) (fun hd => W_exit ?_)
  · have hd := of_decide_eq_true hd
    have hib : i < b := by omega
    refine W_seq (W_block ?_)
    refine W_sr rfl (s_mv rfl (s_as rfl (s_nil ?_)))
    refine W_block ?_
    refine W_loop (fun q ρ w' => ∃ ρ' j f', ρ = upd (upd (upd (upd (upd (upd ρ' 0 (.slice (some ⟨g, 0, none⟩) n c)) 1 (iV a)) 2 (iV b)) 3 (.func (.func gc) #[] #[])) 8 (iV (i : Nat))) 9 (iV (j : Nat)) ∧ j ≤ i ∧ a ≤ j ∧ q = 0 + j ∧ ArrR ruC w' g n f' ∧ Pm a b f f' ∧ (∀ p q, a ≤ p → p < q → q ≤ i → q ≠ j → 0 ≤ cmp (f' q) (f' p)) ∧ Mod (fun k => k = g) w w') (0 + i)
      ⟨_, i, f1, u6 rfl rfl rfl rfl rfl rfl, by omega, by omega, rfl, hA, hP, fun p q h1 h2 h3 h4 => hS p q h1 h2 (by omega), hM⟩ ?_
    clear hA hP hS hM
    rintro q _ w2 ⟨ρ, j, f2, rfl, hj, haj, rfl, ⟨cs, ty, hh, hsz, hc⟩, hP, hS, hM⟩
    refine W_seq ?_
    by_cases h0 : (a : Int) < j
    · have hj1 : j - 1 < n := by omega
      refine W_qr (Ext w2) orders rfl (by kernel_rfl) (Ext.drew0) (q_mv rfl (q_mv rfl (q_cmp (c := true) rfl rfl (decide_eq_true h0) (q_mv rfl (q_g1 rfl (q_mv rfl (q_g1 rfl (q_mv rfl (q_g1 rfl (q_mv rfl (q_g1 rfl (q_ia E rfl rfl rfl rfl (by omega) (q_g1 rfl (q_lda E rfl rfl (fun w' hE => cell_row hh hc (show j < n by omega) hE) rfl (q_g1 rfl (q_mv rfl (q_g1 rfl (q_mv rfl (q_g1 rfl (q_sub rfl rfl (by omega) (q_g1 rfl (q_ia E rfl rfl rfl (show (j : Int) - 1 = ((j - 1 : Nat) : Int) by omega) hj1 (q_g1 rfl (q_lda E rfl rfl (fun w' hE => cell_row hh hc hj1 hE) rfl (q_g1 rfl (q_call rfl rfl (hg (f2 j) (f2 (j - 1)) w).1 (fun w' hw' => (hg _ _ w').mono fun v w'' h => ⟨h.1, hw'.trans h.2⟩) (q_g1 rfl (q_lss rfl rfl (q_pk rfl (q_nil ?_))))))))))))))))))))))))))))))
      intro w3 hE3
      refine W_if rfl (fun he => W_skip ?_) (fun he => W_exit ?_)
      · have he := of_decide_eq_true he
        have hh3 := Ext.heap hE3 hh
        have set1 := arr_set ruC_len hsz hc (show j < n by omega) (f2 (j - 1))
        have set2 := arr_set ruC_len set1.1 set1.2 hj1 (f2 j)
        refine W_seq (W_block ?_)
        refine W_d (fun w' => w'.heap[g]? = some (.cells cs ty (0, 0))) [15, 16, 17] orders (D_pure 0 rfl rfl (by kernel_rfl) rfl (fun _ => r_mv rfl) (fun _ => hh3) (D_pure 1 rfl rfl (by kernel_rfl) rfl (fun _ => r_mv rfl) (fun _ => hh3) (D_pure 2 rfl rfl (by kernel_rfl) rfl (fun _ => r_mv rfl) (fun _ => hh3) (D_pure 3 rfl rfl (by kernel_rfl) rfl (fun _ => r_mv rfl) (fun _ => hh3) (D_pure 4 rfl rfl (by kernel_rfl) rfl (fun _ => r_sub rfl rfl (by omega)) (fun _ => hh3) (D_pure 5 rfl rfl (by kernel_rfl) rfl (fun _ => r_mv rfl) (fun _ => hh3) (D_pure 6 rfl rfl (by kernel_rfl) rfl (fun _ => r_mv rfl) (fun _ => hh3) (D_pure 7 rfl rfl (by kernel_rfl) rfl (fun _ => r_sub rfl rfl (by omega)) (fun _ => hh3) (D_pure 8 rfl rfl (by kernel_rfl) rfl (fun _ => r_ia E rfl rfl rfl (show (j : Int) - 1 = ((j - 1 : Nat) : Int) by omega) hj1) (fun _ => hh3) (D_take 9 rfl rfl (by kernel_rfl) rfl (fun _ hs => r_lda E rfl rfl (arr_row hs hc hj1) rfl) hh3 (D_pure 10 rfl rfl (by kernel_rfl) rfl (fun _ => r_mv rfl) (fun _ => hh3) (D_pure 11 rfl rfl (by kernel_rfl) rfl (fun _ => r_mv rfl) (fun _ => hh3) (D_pure 12 rfl rfl (by kernel_rfl) rfl (fun _ => r_ia E rfl rfl rfl rfl (by omega)) (fun _ => hh3) (D_take 13 rfl rfl (by kernel_rfl) rfl (fun _ hs => r_lda E rfl rfl (arr_row hs hc (show j < n by omega)) rfl) hh3 (D_pure 14 rfl rfl (by kernel_rfl) rfl (fun _ => r_ia E rfl rfl rfl rfl (by omega)) (fun _ => hh3) (D_oneM 15 rfl (by kernel_rfl) rfl (by kernel_rfl) (s_st E (vs := ruC (f2 (j - 1))) rfl rfl (ad0 g _) rfl hh3 rfl rfl rfl (by rw [ruC_len]; omega) (s_nil (D_oneM 16 rfl (by kernel_rfl) rfl (by kernel_rfl) (s_ia E rfl rfl rfl (show (j : Int) - 1 = ((j - 1 : Nat) : Int) by omega) hj1 (s_nil (D_oneM 17 rfl (by kernel_rfl) rfl (by kernel_rfl) (s_st E (vs := ruC (f2 j)) rfl rfl (ad0 g _) rfl (setRow_heap _ _ _ _ ty (0, 0) hh3) rfl rfl rfl (by have := set1.1; rw [ruC_len]; omega) (s_nil (D_done (by kernel_rfl) ?_)))))))))))))))))))))))))
        refine W_reg rfl (s_mv rfl (s_sub rfl rfl (by omega) (s_as rfl (s_nil ?_))))
        refine ⟨0 + (j - 1), by omega, _, j - 1, swF f2 j (j - 1), u6 rfl rfl rfl rfl rfl (congrArg iV (show (j : Int) - 1 = ((j - 1 : Nat) : Int) by omega)), by omega, by omega, rfl, ⟨_, ty, setRow_heap _ _ _ _ ty (0, 0) (setRow_heap _ _ _ _ ty (0, 0) hh3), set2.1, ?_⟩, .sw hP (by omega) (by omega), ins_sw ho (by omega) hj hS he, (hM.trans (Mod.of_ext hE3)).trans ((Mod.of_ext Ext.drew0).trans mod_two)⟩
        rw [← sw_upd]
        exact set2.2
      · have he := of_decide_eq_false he
        refine W_reg rfl (s_mv rfl (s_add rfl rfl (by omega) (s_as rfl (s_nil ?_))))
        exact ⟨b - (i + 1), by omega, _, i + 1, f2, u5 rfl rfl rfl rfl rfl, by omega, by omega, rfl, ⟨cs, ty, Ext.heap hE3 hh, hsz, hc⟩, hP, ins_done ho hj hS (.inr (by omega)), hM.trans (Mod.of_ext hE3)⟩
    · refine W_qr (Ext w2) orders rfl (by kernel_rfl) (Ext.drew0) (q_mv rfl (q_mv rfl (q_cmp (c := false) rfl rfl (decide_eq_false h0) (q_mv rfl (q_g0 rfl (q_g0 rfl (q_g0 rfl (q_g0 rfl (q_g0 rfl (q_g0 rfl (q_g0 rfl (q_g0 rfl (q_g0 rfl (q_g0 rfl (q_g0 rfl (q_g0 rfl (q_pk rfl (q_nil ?_))))))))))))))))))
      intro w3 hE3
      refine W_if rfl (fun he => by cases he) (fun he => W_exit ?_)
      refine W_reg rfl (s_mv rfl (s_add rfl rfl (by omega) (s_as rfl (s_nil ?_))))
      exact ⟨b - (i + 1), by omega, _, i + 1, f2, u5 rfl rfl rfl rfl rfl, by omega, by omega, rfl, ⟨cs, ty, Ext.heap hE3 hh, hsz, hc⟩, hP, ins_done ho hj hS (.inl (by omega)), hM.trans (Mod.of_ext hE3)⟩
  · have hd := of_decide_eq_false hd
    refine ⟨_, rfl, rfl, f1, hA, hP, fun p q h1 h2 h3 => hS p q h1 h2 (by omega), hM⟩
end
end Go.Proofs.YthfnijlgmjkedaaGreat
namespace Go.Proofs.YthfnijlgmjkedaaGreat
set_option maxRecDepth 100000
set_option linter.unusedVariables false
set_option linter.unusedSimpArgs false
open Go Go.Fx Go.Proofs.YthfnijlgmjkedaaGreat.Tab
section
variable {α : Type} {cmp : α → α → Int} {f : Nat → α} {a m b i j k s e mid : Nat}
/-- the first one goes up to place k -/
def upF (f : Nat → α) (a k : Nat) : Nat → α := fun t => if a ≤ t ∧ t < k then f (t + 1) else if t = k then f a else f t
theorem upF_zero : upF f a a = f := by
  funext t; unfold upF
  rw [if_neg (by omega)]
  split
  · rename_i h; rw [h]
  · rfl
theorem upF_succ (h : a ≤ k) : upF f a (k + 1) = swF (upF f a k) k (k + 1) := by
  funext t; simp only [upF, swF]
  (repeat' split) <;> first | rfl | (exfalso; omega) | (congr 1; omega) | (exfalso; simp_all; done)
theorem upF_pm {b : Nat} (h : a ≤ k) (hk : k < b) : Pm a b f (upF f a k) := by
  obtain ⟨d, rfl⟩ := Nat.exists_eq_add_of_le h
  clear h
  induction d with
  | zero => rw [Nat.add_zero, upF_zero]; exact .refl
  | succ d ih => rw [← Nat.add_assoc, upF_succ (by omega)]; exact .sw (ih (by omega)) (by omega) (by omega)
/-- the last one goes down to place k -/
def dnF (f : Nat → α) (m k : Nat) : Nat → α := fun t => if k < t ∧ t ≤ m then f (t - 1) else if t = k then f m else f t
theorem dnF_zero : dnF f m m = f := by
  funext t; unfold dnF
  rw [if_neg (by omega)]
  split
  · rename_i h; rw [h]
  · rfl
theorem dnF_succ (h : k < m) : dnF f m k = swF (dnF f m (k + 1)) (k + 1) k := by
  funext t; simp only [dnF, swF]
  (repeat' split) <;> first | rfl | (exfalso; omega) | (congr 1; omega) | (exfalso; simp_all; done)
theorem dnF_pm {lo : Nat} (h : k ≤ m) (hk : lo ≤ k) : Pm lo (m + 1) f (dnF f m k) := by
  obtain ⟨d, hd⟩ := Nat.exists_eq_add_of_le h
  induction d generalizing k with
  | zero => have : k = m := by omega
            subst this; rw [dnF_zero]; exact .refl
  | succ d ih => rw [dnF_succ (by omega)]; exact .sw (ih (k := k + 1) (by omega) (by omega) (by omega)) (by omega) (by omega)
theorem Srt.sub (h : Srt cmp f a b) {c d : Nat} (hc : a ≤ c) (hd : d ≤ b) : Srt cmp f c d := fun p q h1 h2 h3 => h p q (by omega) h2 (by omega)
theorem up_srt (ho : Ordr cmp) (hs : Srt cmp f (a + 1) b) (hi : a + 1 ≤ i) (hib : i ≤ b) (h1 : ∀ p, a + 1 ≤ p → p < i → cmp (f p) (f a) < 0) (h2 : ∀ p, i ≤ p → p < b → 0 ≤ cmp (f p) (f a)) : Srt cmp (upF f a (i - 1)) a b := by
  intro p q hp hpq hq
  unfold upF
  by_cases c1 : a ≤ q ∧ q < i - 1
  · rw [if_pos c1, if_pos (by omega)]; exact hs _ _ (by omega) (by omega) (by omega)
  · rw [if_neg c1]
    by_cases c2 : q = i - 1
    · rw [if_pos c2, if_pos (by omega)]; exact ho.asym _ _ (h1 _ (by omega) (by omega))
    · rw [if_neg c2]
      by_cases c3 : a ≤ p ∧ p < i - 1
      · rw [if_pos c3]; exact hs _ _ (by omega) (by omega) (by omega)
      · rw [if_neg c3]
        by_cases c4 : p = i - 1
        · rw [if_pos c4]; exact h2 _ (by omega) (by omega)
        · rw [if_neg c4]; exact hs _ _ (by omega) (by omega) (by omega)
theorem dn_srt (ho : Ordr cmp) (hs : Srt cmp f a m) (hi : a ≤ i) (hib : i ≤ m) (h1 : ∀ p, a ≤ p → p < i → 0 ≤ cmp (f m) (f p)) (h2 : ∀ p, i ≤ p → p < m → cmp (f m) (f p) < 0) : Srt cmp (dnF f m i) a (m + 1) := by
  intro p q hp hpq hq
  unfold dnF
  by_cases c1 : i < q ∧ q ≤ m
  · rw [if_pos c1]
    by_cases c2 : i < p ∧ p ≤ m
    · rw [if_pos c2]; exact hs _ _ (by omega) (by omega) (by omega)
    · rw [if_neg c2]
      by_cases c3 : p = i
      · rw [if_pos c3]; exact ho.asym _ _ (h2 _ (by omega) (by omega))
      · rw [if_neg c3]; exact hs _ _ (by omega) (by omega) (by omega)
  · rw [if_neg c1, if_neg (show ¬ (i < p ∧ p ≤ m) by omega)]
    rw [if_neg (show ¬ p = i by omega)]
    by_cases c2 : q = i
    · rw [if_pos c2]; exact h1 _ (by omega) (by omega)
    · rw [if_neg c2]; exact hs _ _ (by omega) (by omega) (by omega)
theorem rot_none (h : s = m ∨ e = m) (hs : s ≤ m) (he : m ≤ e) : rotF f s m e = f := by
  funext t; unfold rotF
  rcases h with h | h
  · subst h
    split
    · congr 1; omega
    · rw [if_neg (by omega)]
  · subst h
    rw [if_neg (by omega)]
    split
    · congr 1; omega
    · rfl
/-- the halves of a symmetric merge -/
structure Halves (cmp : α → α → Int) (f : Nat → α) (a s mid e b : Nat) : Prop where
  l1 : Srt cmp f a s
  l2 : Srt cmp f s mid
  r1 : Srt cmp f mid e
  r2 : Srt cmp f e b
  cross : ∀ i j, a ≤ i → i < mid → mid ≤ j → j < b → 0 ≤ cmp (f j) (f i)
theorem sym_halves (ho : Ordr cmp) (hL : Srt cmp f a m) (hR : Srt cmp f m b) (has : a ≤ s) (hsm : s ≤ m) (hme : m ≤ e) (heb : e ≤ b) (hsum : s + e = mid + m) (hsmid : s ≤ mid)
    (hA : a < s → e < b → 0 ≤ cmp (f e) (f (s - 1))) (hB : m < e → s < m → cmp (f (e - 1)) (f s) < 0) : Halves cmp (rotF f s m e) a s mid e b := by
  have lo : ∀ t, t < s → rotF f s m e t = f t := fun t h => by unfold rotF; rw [if_neg (by omega), if_neg (by omega)]
  have li : ∀ t, s ≤ t → t < mid → rotF f s m e t = f (t - s + m) := fun t h h' => by unfold rotF; rw [if_pos (by omega)]
  have ri : ∀ t, mid ≤ t → t < e → rotF f s m e t = f (t - (e - m)) := fun t h h' => by unfold rotF; rw [if_neg (by omega), if_pos (by omega)]
  have hi : ∀ t, e ≤ t → rotF f s m e t = f t := fun t h => by unfold rotF; rw [if_neg (by omega), if_neg (by omega)]
  refine ⟨fun p q h1 h2 h3 => ?_, fun p q h1 h2 h3 => ?_, fun p q h1 h2 h3 => ?_, fun p q h1 h2 h3 => ?_, fun p q h1 h2 h3 h4 => ?_⟩
  · rw [lo p (by omega), lo q h3]; exact hL _ _ h1 h2 (by omega)
  · rw [li p h1 (by omega), li q (by omega) h3]; exact hR _ _ (by omega) (by omega) (by omega)
  · rw [ri p h1 (by omega), ri q (by omega) h3]; exact hL _ _ (by omega) (by omega) (by omega)
  · rw [hi p h1, hi q (by omega)]; exact hR _ _ (by omega) h2 h3
  · have le_of : ∀ {u v}, Srt cmp f u v → ∀ x y, u ≤ x → x ≤ y → y < v → x = y ∨ 0 ≤ cmp (f y) (f x) := fun hs x y g1 g2 g3 => by
      by_cases h : x = y
      · exact .inl h
      · exact .inr (hs x y g1 (by omega) g3)
    by_cases c1 : p < s
    · rw [lo p c1]
      by_cases c2 : q < e
      · rw [ri q h3 c2]; exact hL _ _ h1 (by omega) (by omega)
      · rw [hi q (by omega)]
        have k1 := hA (by omega) (by omega)
        have k2 : 0 ≤ cmp (f q) (f (s - 1)) := by
          rcases le_of hR e q hme (by omega) h4 with h | h
          · rw [← h]; exact k1
          · exact ho.tr _ _ _ k1 h
        rcases le_of hL p (s - 1) h1 (by omega) (by omega) with h | h
        · rw [h]; exact k2
        · exact ho.tr _ _ _ h k2
    · rw [li p (by omega) h2]
      by_cases c2 : q < e
      · rw [ri q h3 c2]
        have k1 := ho.asym _ _ (hB (by omega) (by omega))
        have k2 : 0 ≤ cmp (f (q - (e - m))) (f (e - 1)) := by
          rcases le_of hL s (q - (e - m)) has (by omega) (by omega) with h | h
          · rw [← h]; exact k1
          · exact ho.tr _ _ _ k1 h
        rcases le_of hR (p - s + m) (e - 1) (by omega) (by omega) (by omega) with h | h
        · rw [h]; exact k2
        · exact ho.tr _ _ _ h k2
      · rw [hi q (by omega)]; exact hR _ _ (by omega) (by omega) h4
theorem srt_join {f4 : Nat → α} (h1 : Srt cmp f4 a mid) (h2 : Srt cmp f4 mid b) (h : ∀ i j, a ≤ i → i < mid → mid ≤ j → j < b → 0 ≤ cmp (f4 j) (f4 i)) : Srt cmp f4 a b := by
  intro p q h3 h4 h5
  by_cases c1 : q < mid
  · exact h1 _ _ h3 h4 c1
  · by_cases c2 : p < mid
    · exact h _ _ h3 c2 (by omega) h5
    · exact h2 _ _ (by omega) h4 h5
theorem cross_pm {f3 f4 : Nat → α} (h1 : Pm a mid f f3) (h2 : Pm mid b f3 f4) (h : ∀ i j, a ≤ i → i < mid → mid ≤ j → j < b → 0 ≤ cmp (f j) (f i)) : ∀ i j, a ≤ i → i < mid → mid ≤ j → j < b → 0 ≤ cmp (f4 j) (f4 i) := by
  have g3 : ∀ i j, a ≤ i → i < mid → mid ≤ j → j < b → 0 ≤ cmp (f3 j) (f3 i) := by
    intro i j k1 k2 k3 k4
    rw [h1.out (.inr k3)]
    exact h1.all (Q := fun x => 0 ≤ cmp (f j) x) (fun i k1 k2 => h i j k1 k2 k3 k4) i k1 k2
  intro i j k1 k2 k3 k4
  rw [h2.out (.inl k2)]
  exact h2.all (Q := fun x => 0 ≤ cmp x (f3 i)) (fun j k3 k4 => g3 i j k1 k2 k3 k4) j k3 k4
end
end Go.Proofs.YthfnijlgmjkedaaGreat
namespace Go.Proofs.YthfnijlgmjkedaaGreat
set_option maxRecDepth 100000
set_option maxHeartbeats 2000000
set_option linter.unusedVariables false
set_option linter.unusedSimpArgs false
open Go Go.Fx Go.Proofs.YthfnijlgmjkedaaGreat.Tab
section
variable {g n c : Nat}
theorem half_val {i j : Nat} (h : i + j ≤ 4000000) : IntKind.i64.wrap (((i + j) / 2 : Nat) : Int) = (((i + j) / 2 : Nat) : Int) := wrap64_in (by omega) (by omega)
theorem slices_symMerge_CharMetric_c {gc : FuncId} {cmp : Ch → Ch → Int} (ho : Ordr cmp) (hg : ∀ x y w, Ret Go.Proofs.Tryz.prog gc #[chV x, chV y] w fun v w' => v = iV (cmp x y) ∧ Ext w w') (hn : n ≤ 1000000) : ∀ (k : Nat) {w : World} {f : Nat → Ch} {a m b : Nat},
    b - a ≤ k → a < m → m < b → b ≤ n → ArrR chC w g n f → Srt cmp f a m → Srt cmp f m b →
    Ret Go.Proofs.Tryz.prog 111 #[.slice (some ⟨g, 0, none⟩) n c, iV a, iV m, iV b, .func (.func gc) #[] #[]] w fun v w' => v = .tuple #[] ∧ ∃ f', ArrR chC w' g n f' ∧ Pm a b f f' ∧ Srt cmp f' a b ∧ Mod (fun k => k = g) w w' := by
  intro k
  induction k with
  | zero => intro w f a m b h1 h2 h3; omega
  | succ k ih =>
  intro w f a m b hk ham hmb hb hA hL hR
  refine enter Go.Proofs.Tryz.func111 rfl rfl rfl ?_
  refine W_seq ?_
  refine W_sr rfl (s_mv rfl (s_mv rfl (s_sub rfl rfl (by omega) (s_eql rfl rfl (s_nil ?_)))))
  refine W_if rfl (fun hc1 => ?_) (fun hc1 => W_skip ?_)
  · -- the first one alone
    have hc1 : m = a + 1 := by have := of_decide_eq_true hc1; omega
    subst hc1
    obtain ⟨cs, ty, hh, hsz, hc⟩ := id hA
    refine W_sr rfl (s_mv rfl (s_as rfl (s_nil ?_)))
    refine W_sr rfl (s_mv rfl (s_as rfl (s_nil ?_)))
    refine W_seq ?_
    refine W_block ?_
    refine W_loop (fun q ρ w' => ∃ ρ' i j, ρ = upd (upd (upd (upd (upd (upd (upd ρ' 0 (.slice (some ⟨g, 0, none⟩) n c)) 1 (iV a)) 2 (iV ((a + 1 : Nat) : Int))) 3 (iV b)) 4 (.func (.func gc) #[] #[])) 10 (iV (i : Nat))) 11 (iV (j : Nat)) ∧ a + 1 ≤ i ∧ i ≤ j ∧ j ≤ b ∧ q = j - i ∧ Ext w w' ∧ (∀ p, a + 1 ≤ p → p < i → cmp (f p) (f a) < 0) ∧ ∀ p, j ≤ p → p < b → 0 ≤ cmp (f p) (f a)) (b - (a + 1))
      ⟨_, a + 1, b, u7 rfl rfl rfl rfl rfl rfl rfl, by omega, by omega, by omega, rfl, Mod.refl, fun p _ _ => by omega, fun p _ _ => by omega⟩ ?_
    rintro q _ w1 ⟨ρ, i, j, rfl, hi, hij, hj, rfl, hE, hlo, hhi⟩
    refine W_seq ?_
    refine W_sr rfl (s_mv rfl (s_mv rfl (s_lss rfl rfl (s_nil ?_))))
    refine W_if rfl (fun hd => W_skip ?_) (fun hd => W_exit ?_)
    · have hd := of_decide_eq_true hd
      have hij : i < j := by omega
      refine W_block ?_
      refine W_sr rfl (s_mv rfl (s_mv rfl (s_add rfl rfl (by omega) (s_cvx E rfl rfl rfl (wrapu_in (by omega) (by omega)) (s_half rfl rfl rfl (show ((i : Int) + j) / 2 = (((i + j) / 2 : Nat) : Int) by omega) (s_cvx E rfl rfl rfl (half_val (by omega)) (s_as rfl (s_nil ?_))))))))
      have hh1 := Ext.heap hE hh
      refine W_qr (Ext w1) orders rfl (by kernel_rfl) (Ext.drew0) (q_mv rfl (q_mv rfl (q_mv rfl (q_ia E rfl rfl rfl rfl (by omega) (q_lda E rfl rfl (fun w' hE => cell_row hh1 hc (show (i + j) / 2 < n by omega) hE) rfl (q_mv rfl (q_mv rfl (q_ia E rfl rfl rfl rfl (by omega) (q_lda E rfl rfl (fun w' hE => cell_row hh1 hc (show a < n by omega) hE) rfl (q_call rfl rfl (hg (f ((i + j) / 2)) (f a) w).1 (fun w' hw' => (hg _ _ w').mono fun v w'' h => ⟨h.1, hw'.trans h.2⟩) (q_lss rfl rfl (q_nil ?_))))))))))))
      intro w2 hE2
      have mono : ∀ p q, a + 1 ≤ p → p ≤ q → q < b → p = q ∨ 0 ≤ cmp (f q) (f p) := fun p q h1 h2 h3 => by
        by_cases h : p = q
        · exact .inl h
        · exact .inr (hR p q h1 (by omega) h3)
      refine W_if rfl (fun he => ?_) (fun he => ?_)
      · have he := of_decide_eq_true he
        refine W_reg rfl (s_mv rfl (s_add rfl rfl (by omega) (s_as rfl (s_nil ?_))))
        refine ⟨j - ((i + j) / 2 + 1), by omega, _, (i + j) / 2 + 1, j, u7 rfl rfl rfl rfl rfl rfl rfl, by omega, by omega, hj, rfl, hE.trans hE2, fun p h1 h2 => ?_, hhi⟩
        rcases mono p ((i + j) / 2) h1 (by omega) (by omega) with h | h
        · rw [h]; exact he
        · by_cases hx : cmp (f p) (f a) < 0
          · exact hx
          · exact absurd (ho.tr (f a) (f p) (f ((i + j) / 2)) (by omega) h) (by omega)
      · have he := of_decide_eq_false he
        refine W_reg rfl (s_mv rfl (s_as rfl (s_nil ?_)))
        refine ⟨(i + j) / 2 - i, by omega, _, i, (i + j) / 2, u7 rfl rfl rfl rfl rfl rfl rfl, hi, by omega, by omega, rfl, hE.trans hE2, hlo, fun p h1 h2 => ?_⟩
        rcases mono ((i + j) / 2) p (by omega) h1 (by omega) with h | h
        · rw [← h]; omega
        · exact ho.tr _ _ _ (by omega) h
    · have hd := of_decide_eq_false hd
      have hij : j = i := by omega
      subst hij
      have fin := up_srt ho hR hi hj hlo hhi
      refine W_seq ?_
      refine W_sr rfl (s_mv rfl (s_as rfl (s_nil ?_)))
      refine W_block ?_
      refine W_loop (fun q ρ w' => ∃ ρ' t, ρ = upd (upd (upd ρ' 0 (.slice (some ⟨g, 0, none⟩) n c)) 10 (iV (j : Nat))) 13 (iV (t : Nat)) ∧ a ≤ t ∧ t ≤ j - 1 ∧ q = j - t ∧ ArrR chC w' g n (upF f a t) ∧ Mod (fun k => k = g) w w') (j - a)
        ⟨_, a, u3 rfl rfl rfl, by omega, by omega, rfl, by rw [upF_zero]; exact ⟨cs, ty, Ext.heap hE hh, hsz, hc⟩, Mod.of_ext hE⟩ ?_
      clear hA hh hsz hc
      rintro q _ w2 ⟨ρ, t, rfl, hat, htj, rfl, ⟨cs, ty, hh, hsz, hc⟩, hM⟩
      refine W_seq ?_
      refine W_sr rfl (s_mv rfl (s_mv rfl (s_sub rfl rfl (by omega) (s_lss rfl rfl (s_nil ?_)))))
      refine W_if rfl (fun he => W_skip ?_) (fun he => W_exit ?_)
      · have he := of_decide_eq_true he
        have h1 : t < n := by omega
        have h2 : t + 1 < n := by omega
        have set1 := arr_set chC_len hsz hc h1 (upF f a t (t + 1))
        have set2 := arr_set chC_len set1.1 set1.2 h2 (upF f a t t)
        refine W_seq (W_block ?_)
        refine W_d (fun w' => w'.heap[g]? = some (.cells cs ty (0, 0))) [15, 16, 17] orders (D_pure 0 rfl rfl (by kernel_rfl) rfl (fun _ => r_mv rfl) (fun _ => hh) (D_pure 1 rfl rfl (by kernel_rfl) rfl (fun _ => r_mv rfl) (fun _ => hh) (D_pure 2 rfl rfl (by kernel_rfl) rfl (fun _ => r_mv rfl) (fun _ => hh) (D_pure 3 rfl rfl (by kernel_rfl) rfl (fun _ => r_mv rfl) (fun _ => hh) (D_pure 4 rfl rfl (by kernel_rfl) rfl (fun _ => r_add rfl rfl (by omega)) (fun _ => hh) (D_pure 5 rfl rfl (by kernel_rfl) rfl (fun _ => r_mv rfl) (fun _ => hh) (D_pure 6 rfl rfl (by kernel_rfl) rfl (fun _ => r_mv rfl) (fun _ => hh) (D_pure 7 rfl rfl (by kernel_rfl) rfl (fun _ => r_add rfl rfl (by omega)) (fun _ => hh) (D_pure 8 rfl rfl (by kernel_rfl) rfl (fun _ => r_ia E rfl rfl rfl (show (t : Int) + 1 = ((t + 1 : Nat) : Int) by omega) h2) (fun _ => hh) (D_take 9 rfl rfl (by kernel_rfl) rfl (fun _ hs => r_lda E rfl rfl (arr_row hs hc h2) rfl) hh (D_pure 10 rfl rfl (by kernel_rfl) rfl (fun _ => r_mv rfl) (fun _ => hh) (D_pure 11 rfl rfl (by kernel_rfl) rfl (fun _ => r_mv rfl) (fun _ => hh) (D_pure 12 rfl rfl (by kernel_rfl) rfl (fun _ => r_ia E rfl rfl rfl rfl h1) (fun _ => hh) (D_take 13 rfl rfl (by kernel_rfl) rfl (fun _ hs => r_lda E rfl rfl (arr_row hs hc h1) rfl) hh (D_pure 14 rfl rfl (by kernel_rfl) rfl (fun _ => r_ia E rfl rfl rfl rfl h1) (fun _ => hh) (D_oneM 15 rfl (by kernel_rfl) rfl (by kernel_rfl) (s_st E (vs := chC (upF f a t (t + 1))) rfl rfl (ad0 g _) rfl hh rfl rfl rfl (by rw [chC_len]; omega) (s_nil (D_oneM 16 rfl (by kernel_rfl) rfl (by kernel_rfl) (s_ia E rfl rfl rfl (show (t : Int) + 1 = ((t + 1 : Nat) : Int) by omega) h2 (s_nil (D_oneM 17 rfl (by kernel_rfl) rfl (by kernel_rfl) (s_st E (vs := chC (upF f a t t)) rfl rfl (ad0 g _) rfl (setRow_heap _ _ _ _ ty (0, 0) hh) rfl rfl rfl (by have := set1.1; rw [chC_len]; omega) (s_nil (D_done (by kernel_rfl) ?_)))))))))))))))))))))))))
        refine W_reg rfl (s_mv rfl (s_add rfl rfl (by omega) (s_as rfl (s_nil ?_))))
        refine ⟨j - (t + 1), by omega, _, t + 1, u3 rfl rfl rfl, by omega, by omega, rfl, ⟨_, ty, setRow_heap _ _ _ _ ty (0, 0) (setRow_heap _ _ _ _ ty (0, 0) hh), set2.1, ?_⟩, hM.trans ((Mod.of_ext Ext.drew0).trans mod_two)⟩
        rw [upF_succ hat, ← sw_upd]
        exact set2.2
      · have he := of_decide_eq_false he
        have : t = j - 1 := by omega
        subst this
        exact W_ret ⟨_, rfl, rfl, _, ⟨cs, ty, hh, hsz, hc⟩, upF_pm (by omega) (by omega), fin, hM⟩
  have hc1 : m ≠ a + 1 := by have := of_decide_eq_false hc1; omega
  refine W_seq ?_
  refine W_sr rfl (s_mv rfl (s_mv rfl (s_sub rfl rfl (by omega) (s_eql rfl rfl (s_nil ?_)))))
  refine W_if rfl (fun hc2 => ?_) (fun hc2 => W_skip ?_)
  · -- the last one alone
    have hc2 : b = m + 1 := by have := of_decide_eq_true hc2; omega
    subst hc2
    obtain ⟨cs, ty, hh, hsz, hc⟩ := id hA
    refine W_sr rfl (s_mv rfl (s_as rfl (s_nil ?_)))
    refine W_sr rfl (s_mv rfl (s_as rfl (s_nil ?_)))
    refine W_seq ?_
    refine W_block ?_
    refine W_loop (fun q ρ w' => ∃ ρ' i j, ρ = upd (upd (upd (upd (upd (upd ρ' 0 (.slice (some ⟨g, 0, none⟩) n c)) 1 (iV a)) 2 (iV m)) 4 (.func (.func gc) #[] #[])) 14 (iV (i : Nat))) 15 (iV (j : Nat)) ∧ a ≤ i ∧ i ≤ j ∧ j ≤ m ∧ q = j - i ∧ Ext w w' ∧ (∀ p, a ≤ p → p < i → 0 ≤ cmp (f m) (f p)) ∧ ∀ p, j ≤ p → p < m → cmp (f m) (f p) < 0) (m - a)
      ⟨_, a, m, u6 rfl rfl rfl rfl rfl rfl, by omega, by omega, by omega, rfl, Mod.refl, fun p _ _ => by omega, fun p _ _ => by omega⟩ ?_
    rintro q _ w1 ⟨ρ, i, j, rfl, hi, hij, hj, rfl, hE, hlo, hhi⟩
    refine W_seq ?_
    refine W_sr rfl (s_mv rfl (s_mv rfl (s_lss rfl rfl (s_nil ?_))))
    refine W_if rfl (fun hd => W_skip ?_) (fun hd => W_exit ?_)
    · have hd := of_decide_eq_true hd
      have hij : i < j := by omega
      refine W_block ?_
      refine W_sr rfl (s_mv rfl (s_mv rfl (s_add rfl rfl (by omega) (s_cvx E rfl rfl rfl (wrapu_in (by omega) (by omega)) (s_half rfl rfl rfl (show ((i : Int) + j) / 2 = (((i + j) / 2 : Nat) : Int) by omega) (s_cvx E rfl rfl rfl (half_val (by omega)) (s_as rfl (s_nil ?_))))))))
      have hh1 := Ext.heap hE hh
      refine W_qr (Ext w1) orders rfl (by kernel_rfl) (Ext.drew0) (q_mv rfl (q_mv rfl (q_mv rfl (q_ia E rfl rfl rfl rfl (by omega) (q_lda E rfl rfl (fun w' hE => cell_row hh1 hc (show m < n by omega) hE) rfl (q_mv rfl (q_mv rfl (q_ia E rfl rfl rfl rfl (by omega) (q_lda E rfl rfl (fun w' hE => cell_row hh1 hc (show (i + j) / 2 < n by omega) hE) rfl (q_call rfl rfl (hg (f m) (f ((i + j) / 2)) w).1 (fun w' hw' => (hg _ _ w').mono fun v w'' h => ⟨h.1, hw'.trans h.2⟩) (q_lss rfl rfl (q_not rfl (q_nil ?_)))))))))))))
      intro w2 hE2
      have mono : ∀ p q, a ≤ p → p ≤ q → q < m → p = q ∨ 0 ≤ cmp (f q) (f p) := fun p q h1 h2 h3 => by
        by_cases h : p = q
        · exact .inl h
        · exact .inr (hL p q h1 (by omega) h3)
      refine W_if rfl (fun he => ?_) (fun he => ?_)
      · have he : 0 ≤ cmp (f m) (f ((i + j) / 2)) := by simpa using he
        refine W_reg rfl (s_mv rfl (s_add rfl rfl (by omega) (s_as rfl (s_nil ?_))))
        refine ⟨j - ((i + j) / 2 + 1), by omega, _, (i + j) / 2 + 1, j, u6 rfl rfl rfl rfl rfl rfl, by omega, by omega, hj, rfl, hE.trans hE2, fun p h1 h2 => ?_, hhi⟩
        rcases mono p ((i + j) / 2) h1 (by omega) (by omega) with h | h
        · rw [h]; exact he
        · exact ho.tr _ _ _ h he
      · have he : cmp (f m) (f ((i + j) / 2)) < 0 := by simpa using he
        refine W_reg rfl (s_mv rfl (s_as rfl (s_nil ?_)))
        refine ⟨(i + j) / 2 - i, by omega, _, i, (i + j) / 2, u6 rfl rfl rfl rfl rfl rfl, hi, by omega, by omega, rfl, hE.trans hE2, hlo, fun p h1 h2 => ?_⟩
        rcases mono ((i + j) / 2) p (by omega) h1 (by omega) with h | h
        · rw [← h]; exact he
        · by_cases hx : cmp (f m) (f p) < 0
          · exact hx
          · exact absurd (ho.tr (f ((i + j) / 2)) (f p) (f m) h (by omega)) (by omega)
    · have hd := of_decide_eq_false hd
      have hij : j = i := by omega
      subst hij
      have fin := dn_srt ho hL hi hj hlo hhi
      refine W_seq ?_
      refine W_sr rfl (s_mv rfl (s_as rfl (s_nil ?_)))
      refine W_block ?_
      refine W_loop (fun q ρ w' => ∃ ρ' t, ρ = upd (upd (upd ρ' 0 (.slice (some ⟨g, 0, none⟩) n c)) 14 (iV (j : Nat))) 17 (iV (t : Nat)) ∧ j ≤ t ∧ t ≤ m ∧ q = 0 + t ∧ ArrR chC w' g n (dnF f m t) ∧ Mod (fun k => k = g) w w') (0 + m)
        ⟨_, m, u3 rfl rfl rfl, by omega, by omega, rfl, by rw [dnF_zero]; exact ⟨cs, ty, Ext.heap hE hh, hsz, hc⟩, Mod.of_ext hE⟩ ?_
      clear hA hh hsz hc
      rintro q _ w2 ⟨ρ, t, rfl, hat, htj, rfl, ⟨cs, ty, hh, hsz, hc⟩, hM⟩
      refine W_seq ?_
      refine W_sr rfl (s_mv rfl (s_mv rfl (s_gtr rfl rfl (s_nil ?_))))
      refine W_if rfl (fun he => W_skip ?_) (fun he => W_exit ?_)
      · have he := of_decide_eq_true he
        obtain ⟨u, rfl⟩ : ∃ u, t = u + 1 := ⟨t - 1, by omega⟩
        have h1 : u + 1 < n := by omega
        have h2 : u < n := by omega
        have set1 := arr_set chC_len hsz hc h1 (dnF f m (u + 1) u)
        have set2 := arr_set chC_len set1.1 set1.2 h2 (dnF f m (u + 1) (u + 1))
        refine W_seq (W_block ?_)
        refine W_d (fun w' => w'.heap[g]? = some (.cells cs ty (0, 0))) [15, 16, 17] orders (D_pure 0 rfl rfl (by kernel_rfl) rfl (fun _ => r_mv rfl) (fun _ => hh) (D_pure 1 rfl rfl (by kernel_rfl) rfl (fun _ => r_mv rfl) (fun _ => hh) (D_pure 2 rfl rfl (by kernel_rfl) rfl (fun _ => r_mv rfl) (fun _ => hh) (D_pure 3 rfl rfl (by kernel_rfl) rfl (fun _ => r_mv rfl) (fun _ => hh) (D_pure 4 rfl rfl (by kernel_rfl) rfl (fun _ => r_sub rfl rfl (by omega)) (fun _ => hh) (D_pure 5 rfl rfl (by kernel_rfl) rfl (fun _ => r_mv rfl) (fun _ => hh) (D_pure 6 rfl rfl (by kernel_rfl) rfl (fun _ => r_mv rfl) (fun _ => hh) (D_pure 7 rfl rfl (by kernel_rfl) rfl (fun _ => r_sub rfl rfl (by omega)) (fun _ => hh) (D_pure 8 rfl rfl (by kernel_rfl) rfl (fun _ => r_ia E rfl rfl rfl (show ((u + 1 : Nat) : Int) - 1 = ((u : Nat) : Int) by omega) h2) (fun _ => hh) (D_take 9 rfl rfl (by kernel_rfl) rfl (fun _ hs => r_lda E rfl rfl (arr_row hs hc h2) rfl) hh (D_pure 10 rfl rfl (by kernel_rfl) rfl (fun _ => r_mv rfl) (fun _ => hh) (D_pure 11 rfl rfl (by kernel_rfl) rfl (fun _ => r_mv rfl) (fun _ => hh) (D_pure 12 rfl rfl (by kernel_rfl) rfl (fun _ => r_ia E rfl rfl rfl rfl h1) (fun _ => hh) (D_take 13 rfl rfl (by kernel_rfl) rfl (fun _ hs => r_lda E rfl rfl (arr_row hs hc h1) rfl) hh (D_pure 14 rfl rfl (by kernel_rfl) rfl (fun _ => r_ia E rfl rfl rfl rfl h1) (fun _ => hh) (D_oneM 15 rfl (by kernel_rfl) rfl (by kernel_rfl) (s_st E (vs := chC (dnF f m (u + 1) u)) rfl rfl (ad0 g _) rfl hh rfl rfl rfl (by rw [chC_len]; omega) (s_nil (D_oneM 16 rfl (by kernel_rfl) rfl (by kernel_rfl) (s_ia E rfl rfl rfl (show ((u + 1 : Nat) : Int) - 1 = ((u : Nat) : Int) by omega) h2 (s_nil (D_oneM 17 rfl (by kernel_rfl) rfl (by kernel_rfl) (s_st E (vs := chC (dnF f m (u + 1) (u + 1))) rfl rfl (ad0 g _) rfl (setRow_heap _ _ _ _ ty (0, 0) hh) rfl rfl rfl (by have := set1.1; rw [chC_len]; omega) (s_nil (D_done (by kernel_rfl) ?_)))))))))))))))))))))))))
        refine W_reg rfl (s_mv rfl (s_sub rfl rfl (by omega) (s_as rfl (s_nil ?_))))
        refine ⟨0 + u, by omega, _, u, u3 rfl rfl (congrArg iV (show ((u + 1 : Nat) : Int) - 1 = ((u : Nat) : Int) by omega)), by omega, by omega, rfl, ⟨_, ty, setRow_heap _ _ _ _ ty (0, 0) (setRow_heap _ _ _ _ ty (0, 0) hh), set2.1, ?_⟩, hM.trans ((Mod.of_ext Ext.drew0).trans mod_two)⟩
        rw [dnF_succ (by omega), ← sw_upd]
        exact set2.2
      · have he := of_decide_eq_false he
        have : t = j := by omega
        subst this
        exact W_ret ⟨_, rfl, rfl, _, ⟨cs, ty, hh, hsz, hc⟩, dnF_pm (by omega) (by omega), fin, hM⟩
  have hc2 : b ≠ m + 1 := by have := of_decide_eq_false hc2; omega
  obtain ⟨mid, hmid⟩ : ∃ mid, mid = (a + b) / 2 := ⟨_, rfl⟩
  refine W_sr rfl (s_mv rfl (s_mv rfl (s_add rfl rfl (by omega) (s_cvx E rfl rfl rfl (wrapu_in (by omega) (by omega)) (s_half rfl rfl rfl (show ((a : Int) + b) / 2 = (mid : Int) by omega) (s_cvx E rfl rfl rfl (wrap64_in (by omega) (by omega)) (s_as rfl (s_nil ?_))))))))
  refine W_sr rfl (s_mv rfl (s_mv rfl (s_add rfl rfl (by omega) (s_as rfl (s_nil ?_)))))
  refine W_sr rfl (s_as rfl (s_as rfl (s_nil ?_)))
  refine W_sk fun K hK => ?_
  refine W_sr rfl (s_mv rfl (s_mv rfl (s_gtr rfl rfl (s_nil ?_))))
  have H : ∀ (ρ : Fr) (s0 r0 : Nat), a ≤ s0 → s0 ≤ r0 → r0 ≤ mid → r0 ≤ m → mid + m ≤ s0 + b → (a < s0 → s0 + b = mid + m) → (r0 = mid ∨ r0 = m) → ρ 0 = .slice (some ⟨g, 0, none⟩) n c → ρ 1 = iV a → ρ 2 = iV m → ρ 3 = iV b → ρ 4 = .func (.func gc) #[] #[] → ρ 18 = iV mid → ρ 19 = iV ((mid : Int) + m) →
      ρ 20 = iV (s0 : Nat) → ρ 21 = iV (r0 : Nat) → K ρ w := by
    intro ρ s0 r0 p1 p2 p3 p4 p5 p6 p7 q0 q1 q2 q3 q4 q18 q19 q20 q21
    rw [u9 q0 q1 q2 q3 q4 q18 q19 q20 q21]
    refine hK _ _ ?_
    refine W_sr rfl (s_mv rfl (s_sub rfl rfl (by omega) (s_as rfl (s_nil ?_))))
    obtain ⟨cs, ty, hh, hsz, hc⟩ := id hA
    refine W_seq ?_
    refine W_block ?_
    refine W_loop (fun q ρ w' => ∃ ρ' s r, ρ = upd (upd (upd (upd (upd (upd (upd (upd (upd (upd ρ' 0 (.slice (some ⟨g, 0, none⟩) n c)) 1 (iV a)) 2 (iV m)) 3 (iV b)) 4 (.func (.func gc) #[] #[])) 18 (iV mid)) 19 (iV ((mid : Int) + m))) 20 (iV (s : Nat))) 21 (iV (r : Nat))) 22 (iV ((mid : Int) + m - 1)) ∧ s0 ≤ s ∧ s ≤ r ∧ r ≤ r0 ∧ q = r - s ∧ Ext w w' ∧
        (∀ p, s0 ≤ p → p < s → 0 ≤ cmp (f (mid + m - 1 - p)) (f p)) ∧ ∀ p, r ≤ p → p < r0 → cmp (f (mid + m - 1 - p)) (f p) < 0) (r0 - s0)
      ⟨_, s0, r0, u10 rfl rfl rfl rfl rfl rfl rfl rfl rfl rfl, by omega, by omega, by omega, rfl, Mod.refl, fun p _ _ => by omega, fun p _ _ => by omega⟩ ?_
    rintro q _ w1 ⟨ρ, s, r, rfl, hs0, hsr, hr0, rfl, hE, hlo, hhi⟩
    refine W_seq ?_
    refine W_sr rfl (s_mv rfl (s_mv rfl (s_lss rfl rfl (s_nil ?_))))
    refine W_if rfl (fun hd => W_skip ?_) (fun hd => W_exit ?_)
    · have hd := of_decide_eq_true hd
      have hsr : s < r := by omega
      refine W_block ?_
      obtain ⟨h, hh0⟩ : ∃ h, h = (s + r) / 2 := ⟨_, rfl⟩
      refine W_sr rfl (s_mv rfl (s_mv rfl (s_add rfl rfl (by omega) (s_cvx E rfl rfl rfl (wrapu_in (by omega) (by omega)) (s_half rfl rfl rfl (show ((s : Int) + r) / 2 = (h : Int) by omega) (s_cvx E rfl rfl rfl (wrap64_in (by omega) (by omega)) (s_as rfl (s_nil ?_))))))))
      have hh1 := Ext.heap hE hh
      refine W_qr (Ext w1) orders rfl (by kernel_rfl) (Ext.drew0) (q_mv rfl (q_mv rfl (q_mv rfl (q_mv rfl (q_sub rfl rfl (by omega) (q_ia E rfl rfl rfl (show (mid : Int) + m - 1 - h = ((mid + m - 1 - h : Nat) : Int) by omega) (by omega) (q_lda E rfl rfl (fun w' hE => cell_row hh1 hc (show mid + m - 1 - h < n by omega) hE) rfl (q_mv rfl (q_mv rfl (q_ia E rfl rfl rfl rfl (by omega) (q_lda E rfl rfl (fun w' hE => cell_row hh1 hc (show h < n by omega) hE) rfl (q_call rfl rfl (hg (f (mid + m - 1 - h)) (f h) w).1 (fun w' hw' => (hg _ _ w').mono fun v w'' h => ⟨h.1, hw'.trans h.2⟩) (q_lss rfl rfl (q_not rfl (q_nil ?_)))))))))))))))
      intro w2 hE2
      refine W_if rfl (fun he => ?_) (fun he => ?_)
      · have he : 0 ≤ cmp (f (mid + m - 1 - h)) (f h) := by simpa using he
        refine W_reg rfl (s_mv rfl (s_add rfl rfl (by omega) (s_as rfl (s_nil ?_))))
        refine ⟨r - (h + 1), by omega, _, h + 1, r, u10 rfl rfl rfl rfl rfl rfl rfl rfl rfl rfl, by omega, by omega, hr0, rfl, hE.trans hE2, fun p h1 h2 => ?_, hhi⟩
        by_cases e : p = h
        · subst e; exact he
        · have k1 := hL p h (by omega) (by omega) (by omega)
          have k2 := hR (mid + m - 1 - h) (mid + m - 1 - p) (by omega) (by omega) (by omega)
          exact ho.tr _ _ _ (ho.tr _ _ _ k1 he) k2
      · have he : cmp (f (mid + m - 1 - h)) (f h) < 0 := by simpa using he
        refine W_reg rfl (s_mv rfl (s_as rfl (s_nil ?_)))
        refine ⟨h - s, by omega, _, s, h, u10 rfl rfl rfl rfl rfl rfl rfl rfl rfl rfl, hs0, by omega, by omega, rfl, hE.trans hE2, hlo, fun p h1 h2 => ?_⟩
        by_cases e : p = h
        · subst e; exact he
        · have k1 := hL h p (by omega) (by omega) (by omega)
          have k2 := hR (mid + m - 1 - p) (mid + m - 1 - h) (by omega) (by omega) (by omega)
          by_cases hx : cmp (f (mid + m - 1 - p)) (f p) < 0
          · exact hx
          · exact absurd (ho.tr _ _ _ k1 (ho.tr _ _ _ (show 0 ≤ cmp (f (mid + m - 1 - p)) (f p) by omega) k2)) (by omega)
    · have hd := of_decide_eq_false hd
      have hsr : r = s := by omega
      subst hsr
      obtain ⟨e, he⟩ : ∃ e, e = mid + m - r := ⟨_, rfl⟩
      have hH : Halves cmp (rotF f r m e) a r mid e b := by
        refine sym_halves ho hL hR (by omega) (by omega) (by omega) (by omega) (by omega) (by omega) (fun h1 h2 => ?_) (fun h1 h2 => ?_)
        · have h3 : s0 < r := by
            by_cases h3 : s0 < r
            · exact h3
            · have : s0 = r := by omega
              subst this
              have := p6 h1
              omega
          have := hlo (r - 1) (by omega) (by omega)
          rwa [show mid + m - 1 - (r - 1) = e by omega] at this
        · have := hhi r (by omega) (by omega)
          rwa [show mid + m - 1 - r = e - 1 by omega] at this
      have hA1 : ArrR chC w1 g n f := ⟨cs, ty, Ext.heap hE hh, hsz, hc⟩
      refine W_sr rfl (s_mv rfl (s_mv rfl (s_sub rfl rfl (by omega) (s_as rfl (s_nil ?_)))))
      clear hlo hhi hK
      refine W_sk fun K hK => ?_
      have H1 : ∀ (ρ : Fr) w', ρ 0 = .slice (some ⟨g, 0, none⟩) n c → ρ 1 = iV a → ρ 3 = iV b → ρ 4 = .func (.func gc) #[] #[] → ρ 18 = iV mid → ρ 20 = iV r → ρ 24 = iV e → ArrR chC w' g n (rotF f r m e) → Pm a b f (rotF f r m e) → Mod (fun k => k = g) w w' → K ρ w' := by
        intro ρ w2 q0 q1 q3 q4 q18 q20 q24 hA2 hP2 hM2
        rw [u7 q0 q1 q3 q4 q18 q20 q24]
        refine hK _ _ ?_
        clear hK
        refine W_sk fun K hK => ?_
        have H2 : ∀ (ρ : Fr) w' f3, ρ 0 = .slice (some ⟨g, 0, none⟩) n c → ρ 3 = iV b → ρ 4 = .func (.func gc) #[] #[] → ρ 18 = iV mid → ρ 24 = iV e → ArrR chC w' g n f3 → Pm a mid (rotF f r m e) f3 → Srt cmp f3 a mid → Mod (fun k => k = g) w w' → K ρ w' := by
          intro ρ w3 f3 q0 q3 q4 q18 q24 hA3 hP3 hS3 hM3
          rw [u5 q0 q3 q4 q18 q24]
          refine hK _ _ ?_
          have R1 : Srt cmp f3 mid e := fun p q h1 h2 h3 => by rw [hP3.out (.inr (by omega)), hP3.out (.inr h1)]; exact hH.r1 p q h1 h2 h3
          have R2 : Srt cmp f3 e b := fun p q h1 h2 h3 => by rw [hP3.out (.inr (by omega)), hP3.out (.inr (by omega))]; exact hH.r2 p q h1 h2 h3
          have stay : ¬ (mid < e ∧ e < b) → Srt cmp f3 mid b := fun h => by
            by_cases h1 : mid < e
            · exact R1.sub (by omega) (by omega)
            · exact R2.sub (by omega) (by omega)
          have done : ∀ f4 w4, ArrR chC w4 g n f4 → Pm mid b f3 f4 → Srt cmp f4 mid b → Mod (fun k => k = g) w w4 → ∃ v, v = Value.tuple #[] ∧ (v = .tuple #[] ∧ ∃ f', ArrR chC w4 g n f' ∧ Pm a b f f' ∧ Srt cmp f' a b ∧ Mod (fun k => k = g) w w4) := fun f4 w4 h1 h2 h3 h4 =>
            ⟨_, rfl, rfl, f4, h1, (hP2.trans (hP3.mono (by omega) (by omega))).trans (h2.mono (by omega) (by omega)),
              srt_join (fun p q g1 g2 g3 => by rw [h2.out (.inl (by omega)), h2.out (.inl (by omega))]; exact hS3 p q g1 g2 g3) h3 (cross_pm hP3 h2 hH.cross), h4⟩
          by_cases h0 : (mid : Int) < e
          · by_cases h1 : (e : Int) < b
            · refine W_sr rfl (s_mv rfl (s_mv rfl (s_cmp (c := true) rfl rfl (decide_eq_true h0) (s_mv rfl (s_g1 rfl (s_mv rfl (s_g1 rfl (s_mv rfl (s_g1 rfl (s_cmp (c := true) rfl rfl (decide_eq_true h1) (s_pk rfl (s_nil ?_))))))))))))
              refine W_if rfl (fun _ => ?_) (fun h => by cases h)
              refine W_reg rfl (s_mv rfl (s_mv rfl (s_mv rfl (s_mv rfl (s_mv rfl (s_callx rfl rfl (ih (w := w3) (f := f3) (a := mid) (m := e) (b := b) (by omega) (by omega) (by omega) hb hA3 R1 R2) fun w4 h4 => (s_nil ?_)))))))
              obtain ⟨f4, h4, h5, h6, h7⟩ := h4
              obtain ⟨_, rfl, h8⟩ := done f4 w4 h4 h5 h6 (hM3.trans h7)
              exact ⟨_, rfl, h8⟩
            · refine W_sr rfl (s_mv rfl (s_mv rfl (s_cmp (c := true) rfl rfl (decide_eq_true h0) (s_mv rfl (s_g1 rfl (s_mv rfl (s_g1 rfl (s_mv rfl (s_g1 rfl (s_cmp (c := false) rfl rfl (decide_eq_false h1) (s_pk rfl (s_nil ?_))))))))))))
              refine W_if rfl (fun h => by cases h) (fun _ => W_skip ?_)
              obtain ⟨_, rfl, h8⟩ := done f3 w3 hA3 .refl (stay (by omega)) hM3
              exact ⟨_, rfl, h8⟩
          · refine W_sr rfl (s_mv rfl (s_mv rfl (s_cmp (c := false) rfl rfl (decide_eq_false h0) (s_mv rfl (s_g0 rfl (s_g0 rfl (s_g0 rfl (s_pk rfl (s_nil ?_)))))))))
            refine W_if rfl (fun h => by cases h) (fun _ => W_skip ?_)
            obtain ⟨_, rfl, h8⟩ := done f3 w3 hA3 .refl (stay (by omega)) hM3
            exact ⟨_, rfl, h8⟩
        have stay : ¬ (a < r ∧ r < mid) → Srt cmp (rotF f r m e) a mid := fun h => by
          by_cases h1 : a < r
          · exact hH.l1.sub (by omega) (by omega)
          · exact hH.l2.sub (by omega) (by omega)
        by_cases h0 : (a : Int) < r
        · by_cases h1 : (r : Int) < mid
          · refine W_sr rfl (s_mv rfl (s_mv rfl (s_cmp (c := true) rfl rfl (decide_eq_true h0) (s_mv rfl (s_g1 rfl (s_mv rfl (s_g1 rfl (s_mv rfl (s_g1 rfl (s_cmp (c := true) rfl rfl (decide_eq_true h1) (s_pk rfl (s_nil ?_))))))))))))
            refine W_if rfl (fun _ => ?_) (fun h => by cases h)
            refine W_reg rfl (s_mv rfl (s_mv rfl (s_mv rfl (s_mv rfl (s_mv rfl (s_callx rfl rfl (ih (w := w2) (f := rotF f r m e) (a := a) (m := r) (b := mid) (by omega) (by omega) (by omega) (by omega) hA2 hH.l1 hH.l2) fun w4 h4 => (s_nil ?_)))))))
            obtain ⟨f4, h4, h5, h6, h7⟩ := h4
            exact H2 _ _ f4 rfl rfl rfl rfl rfl h4 h5 h6 (hM2.trans h7)
          · refine W_sr rfl (s_mv rfl (s_mv rfl (s_cmp (c := true) rfl rfl (decide_eq_true h0) (s_mv rfl (s_g1 rfl (s_mv rfl (s_g1 rfl (s_mv rfl (s_g1 rfl (s_cmp (c := false) rfl rfl (decide_eq_false h1) (s_pk rfl (s_nil ?_))))))))))))
            refine W_if rfl (fun h => by cases h) (fun _ => W_skip ?_)
            exact H2 _ _ _ rfl rfl rfl rfl rfl hA2 .refl (stay (by omega)) hM2
        · refine W_sr rfl (s_mv rfl (s_mv rfl (s_cmp (c := false) rfl rfl (decide_eq_false h0) (s_mv rfl (s_g0 rfl (s_g0 rfl (s_g0 rfl (s_pk rfl (s_nil ?_)))))))))
          refine W_if rfl (fun h => by cases h) (fun _ => W_skip ?_)
          exact H2 _ _ _ rfl rfl rfl rfl rfl hA2 .refl (stay (by omega)) hM2
      have ee : (mid : Int) + m - r = e := by omega
      by_cases h0 : (r : Int) < m
      · by_cases h1 : (m : Int) < e
        · refine W_sr rfl (s_mv rfl (s_mv rfl (s_cmp (c := true) rfl rfl (decide_eq_true h0) (s_mv rfl (s_g1 rfl (s_mv rfl (s_g1 rfl (s_mv rfl (s_g1 rfl (s_cmp (c := true) rfl rfl (decide_eq_true (by rw [ee]; exact h1)) (s_pk rfl (s_nil ?_))))))))))))
          refine W_if rfl (fun _ => ?_) (fun h => by cases h)
          have call := slices_rotate_CharMetric_c (c := c) (cv := .func (.func gc) #[] #[]) (a := r) (m := m) (b := e) hA1 (by omega) (by omega) (by omega) hn
          rw [← ee] at call
          refine W_reg rfl (s_mv rfl (s_mv rfl (s_mv rfl (s_mv rfl (s_mv rfl (s_callx rfl rfl call fun w4 h4 => (s_nil ?_)))))))
          exact H1 _ _ rfl rfl rfl rfl rfl rfl (congrArg iV ee) h4.1 (h4.2.1.mono (by omega) (by omega)) ((Mod.of_ext hE).trans h4.2.2)
        · refine W_sr rfl (s_mv rfl (s_mv rfl (s_cmp (c := true) rfl rfl (decide_eq_true h0) (s_mv rfl (s_g1 rfl (s_mv rfl (s_g1 rfl (s_mv rfl (s_g1 rfl (s_cmp (c := false) rfl rfl (decide_eq_false (by rw [ee]; exact h1)) (s_pk rfl (s_nil ?_))))))))))))
          refine W_if rfl (fun h => by cases h) (fun _ => W_skip ?_)
          have e0 := rot_none (f := f) (s := r) (m := m) (e := e) (.inr (by omega)) (by omega) (by omega)
          exact H1 _ _ rfl rfl rfl rfl rfl rfl (congrArg iV ee) (by rw [e0]; exact hA1) (by rw [e0]; exact .refl) (Mod.of_ext hE)
      · refine W_sr rfl (s_mv rfl (s_mv rfl (s_cmp (c := false) rfl rfl (decide_eq_false h0) (s_mv rfl (s_g0 rfl (s_g0 rfl (s_g0 rfl (s_pk rfl (s_nil ?_)))))))))
        refine W_if rfl (fun h => by cases h) (fun _ => W_skip ?_)
        have e0 := rot_none (f := f) (s := r) (m := m) (e := e) (.inl (by omega)) (by omega) (by omega)
        exact H1 _ _ rfl rfl rfl rfl rfl rfl (congrArg iV ee) (by rw [e0]; exact hA1) (by rw [e0]; exact .refl) (Mod.of_ext hE)
  refine W_if rfl (fun hd => ?_) (fun hd => ?_)
  · have hd := of_decide_eq_true hd
    refine W_sr rfl (s_mv rfl (s_mv rfl (s_sub rfl rfl (by omega) (s_as rfl (s_nil ?_)))))
    refine W_reg rfl (s_mv rfl (s_as rfl (s_nil ?_)))
    exact H _ (mid + m - b) mid (by omega) (by omega) (by omega) (by omega) (by omega) (by omega) (.inl rfl) rfl rfl rfl rfl rfl rfl rfl (congrArg iV (show (mid : Int) + m - b = ((mid + m - b : Nat) : Int) by omega)) rfl
  · have hd := of_decide_eq_false hd
    refine W_sr rfl (s_mv rfl (s_as rfl (s_nil ?_)))
    refine W_reg rfl (s_mv rfl (s_as rfl (s_nil ?_)))
    exact H _ a m (by omega) (by omega) (by omega) (by omega) (by omega) (by omega) (.inr rfl) rfl rfl rfl rfl rfl rfl rfl rfl rfl
theorem slices_symMerge_LigRule_c {gc : FuncId} {cmp : Ru → Ru → Int} (ho : Ordr cmp) (hg : ∀ x y w, Ret Go.Proofs.Tryz.prog gc #[ruV x, ruV y] w fun v w' => v = iV (cmp x y) ∧ Ext w w') (hn : n ≤ 1000000) : ∀ (k : Nat) {w : World} {f : Nat → Ru} {a m b : Nat},
    b - a ≤ k → a < m → m < b → b ≤ n → ArrR ruC w g n f → Srt cmp f a m → Srt cmp f m b →
    Ret Go.Proofs.Tryz.prog 113 #[.slice (some ⟨g, 0, none⟩) n c, iV a, iV m, iV b, .func (.func gc) #[] #[]] w fun v w' => v = .tuple #[] ∧ ∃ f', ArrR ruC w' g n f' ∧ Pm a b f f' ∧ Srt cmp f' a b ∧ Mod (fun k => k = g) w w' := by
  intro k
  induction k with
  | zero => intro w f a m b h1 h2 h3; omega
  | succ k ih =>
  intro w f a m b hk ham hmb hb hA hL hR
  refine enter Go.Proofs.Tryz.func113 rfl rfl rfl ?_
  refine W_seq ?_
  refine W_sr rfl (s_mv rfl (s_mv rfl (s_sub rfl rfl (by omega) (s_eql rfl rfl (s_nil ?_)))))
  refine W_if rfl (fun hc1 => ?_) (fun hc1 => W_skip ?_)
  · -- the first one alone
    have hc1 : m = a + 1 := by have := of_decide_eq_true hc1; omega
    subst hc1
    obtain ⟨cs, ty, hh, hsz, hc⟩ := id hA
    refine W_sr rfl (s_mv rfl (s_as rfl (s_nil ?_)))
    refine W_sr rfl (s_mv rfl (s_as rfl (s_nil ?_)))
    refine W_seq ?_
    refine W_block ?_
    refine W_loop (fun q ρ w' => ∃ ρ' i j, ρ = upd (upd (upd (upd (upd (upd (upd ρ' 0 (.slice (some ⟨g, 0, none⟩) n c)) 1 (iV a)) 2 (iV ((a + 1 : Nat) : Int))) 3 (iV b)) 4 (.func (.func gc) #[] #[])) 10 (iV (i : Nat))) 11 (iV (j : Nat)) ∧ a + 1 ≤ i ∧ i ≤ j ∧ j ≤ b ∧ q = j - i ∧ Ext w w' ∧ (∀ p, a + 1 ≤ p → p < i → cmp (f p) (f a) < 0) ∧ ∀ p, j ≤ p → p < b → 0 ≤ cmp (f p) (f a)) (b - (a + 1))
      ⟨_, a + 1, b, u7 rfl rfl rfl rfl rfl rfl rfl, by omega, by omega, by omega, rfl, Mod.refl, fun p _ _ => by omega, fun p _ _ => by omega⟩ ?_
    rintro q _ w1 ⟨ρ, i, j, rfl, hi, hij, hj, rfl, hE, hlo, hhi⟩
    refine W_seq ?_
    refine W_sr rfl (s_mv rfl (s_mv rfl (s_lss rfl rfl (s_nil ?_))))
    refine W_if rfl (fun hd => W_skip ?_) (fun hd => W_exit ?_)
    · have hd := of_decide_eq_true hd
      have hij : i < j := by omega
      refine W_block ?_
      refine W_sr rfl (s_mv rfl (s_mv rfl (s_add rfl rfl (by omega) (s_cvx E rfl rfl rfl (wrapu_in (by omega) (by omega)) (s_half rfl rfl rfl (show ((i : Int) + j) / 2 = (((i + j) / 2 : Nat) : Int) by omega) (s_cvx E rfl rfl rfl (half_val (by omega)) (s_as rfl (s_nil ?_))))))))
      have hh1 := Ext.heap hE hh
      refine W_qr (Ext w1) orders rfl (by kernel_rfl) (Ext.drew0) (q_mv rfl (q_mv rfl (q_mv rfl (q_ia E rfl rfl rfl rfl (by omega) (q_lda E rfl rfl (fun w' hE => cell_row hh1 hc (show (i + j) / 2 < n by omega) hE) rfl (q_mv rfl (q_mv rfl (q_ia E rfl rfl rfl rfl (by omega) (q_lda E rfl rfl (fun w' hE => cell_row hh1 hc (show a < n by omega) hE) rfl (q_call rfl rfl (hg (f ((i + j) / 2)) (f a) w).1 (fun w' hw' => (hg _ _ w').mono fun v w'' h => ⟨h.1, hw'.trans h.2⟩) (q_lss rfl rfl (q_nil ?_))))))))))))
      intro w2 hE2
      have mono : ∀ p q, a + 1 ≤ p → p ≤ q → q < b → p = q ∨ 0 ≤ cmp (f q) (f p) := fun p q h1 h2 h3 => by
        by_cases h : p = q
        · exact .inl h
        · exact .inr (hR p q h1 (by omega) h3)
      refine W_if rfl (fun he => ?_) (fun he => ?_)
      · have he := of_decide_eq_true he
        refine W_reg rfl (s_mv rfl (s_add rfl rfl (by omega) (s_as rfl (s_nil ?_))))
        refine ⟨j - ((i + j) / 2 + 1), by omega, _, (i + j) / 2 + 1, j, u7 rfl rfl rfl rfl rfl rfl rfl, by omega, by omega, hj, rfl, hE.trans hE2, fun p h1 h2 => ?_, hhi⟩
        rcases mono p ((i + j) / 2) h1 (by omega) (by omega) with h | h
        · rw [h]; exact he
        · by_cases hx : cmp (f p) (f a) < 0
          · exact hx
          · exact absurd (ho.tr (f a) (f p) (f ((i + j) / 2)) (by omega) h) (by omega)
      · have he := of_decide_eq_false he
        refine W_reg rfl (s_mv rfl (s_as rfl (s_nil ?_)))
        refine ⟨(i + j) / 2 - i, by omega, _, i, (i + j) / 2, u7 rfl rfl rfl rfl rfl rfl rfl, hi, by omega, by omega, rfl, hE.trans hE2, hlo, fun p h1 h2 => ?_⟩
        rcases mono ((i + j) / 2) p (by omega) h1 (by omega) with h | h
        · rw [← h]; omega
        · exact ho.tr _ _ _ (by omega) h
    · have hd := of_decide_eq_false hd
      have hij : j = i := by omega
      subst hij
      have fin := up_srt ho hR hi hj hlo hhi
      refine W_seq ?_
      refine W_sr rfl (s_mv rfl (s_as rfl (s_nil ?_)))
      refine W_block ?_
      refine W_loop (fun q ρ w' => ∃ ρ' t, ρ = upd (upd (upd ρ' 0 (.slice (some ⟨g, 0, none⟩) n c)) 10 (iV (j : Nat))) 13 (iV (t : Nat)) ∧ a ≤ t ∧ t ≤ j - 1 ∧ q = j - t ∧ ArrR ruC w' g n (upF f a t) ∧ Mod (fun k => k = g) w w') (j - a)
        ⟨_, a, u3 rfl rfl rfl, by omega, by omega, rfl, by rw [upF_zero]; exact ⟨cs, ty, Ext.heap hE hh, hsz, hc⟩, Mod.of_ext hE⟩ ?_
      clear hA hh hsz hc
      rintro q _ w2 ⟨ρ, t, rfl, hat, htj, rfl, ⟨cs, ty, hh, hsz, hc⟩, hM⟩
      refine W_seq ?_
      refine W_sr rfl (s_mv rfl (s_mv rfl (s_sub rfl rfl (by omega) (s_lss rfl rfl (s_nil ?_)))))
      refine W_if rfl (fun he => W_skip ?_) (fun he => W_exit ?_)
      · have he := of_decide_eq_true he
        have h1 : t < n := by omega
        have h2 : t + 1 < n := by omega
        have set1 := arr_set ruC_len hsz hc h1 (upF f a t (t + 1))
        have set2 := arr_set ruC_len set1.1 set1.2 h2 (upF f a t t)
        refine W_seq (W_block ?_)
        refine W_d (fun w' => w'.heap[g]? = some (.cells cs ty (0, 0))) [15, 16, 17] orders (D_pure 0 rfl rfl (by kernel_rfl) rfl (fun _ => r_mv rfl) (fun _ => hh) (D_pure 1 rfl rfl (by kernel_rfl) rfl (fun _ => r_mv rfl) (fun _ => hh) (D_pure 2 rfl rfl (by kernel_rfl) rfl (fun _ => r_mv rfl) (fun _ => hh) (D_pure 3 rfl rfl (by kernel_rfl) rfl (fun _ => r_mv rfl) (fun _ => hh) (D_pure 4 rfl rfl (by kernel_rfl) rfl (fun _ => r_add rfl rfl (by omega)) (fun _ => hh) (D_pure 5 rfl rfl (by kernel_rfl) rfl (fun _ => r_mv rfl) (fun _ => hh) (D_pure 6 rfl rfl (by kernel_rfl) rfl (fun _ => r_mv rfl) (fun _ => hh) (D_pure 7 rfl rfl (by kernel_rfl) rfl (fun _ => r_add rfl rfl (by omega)) (fun _ => hh) (D_pure 8 rfl rfl (by kernel_rfl) rfl (fun _ => r_ia E rfl rfl rfl (show (t : Int) + 1 = ((t + 1 : Nat) : Int) by omega) h2) (fun _ => hh) (D_take 9 rfl rfl (by kernel_rfl) rfl (fun _ hs => r_lda E rfl rfl (arr_row hs hc h2) rfl) hh (D_pure 10 rfl rfl (by kernel_rfl) rfl (fun _ => r_mv rfl) (fun _ => hh) (D_pure 11 rfl rfl (by kernel_rfl) rfl (fun _ => r_mv rfl) (fun _ => hh) (D_pure 12 rfl rfl (by kernel_rfl) rfl (fun _ => r_ia E rfl rfl rfl rfl h1) (fun _ => hh) (D_take 13 rfl rfl (by kernel_rfl) rfl (fun _ hs => r_lda E rfl rfl (arr_row hs hc h1) rfl) hh (D_pure 14 rfl rfl (by kernel_rfl) rfl (fun _ => r_ia E rfl rfl rfl rfl h1) (fun _ => hh) (D_oneM 15 rfl (by kernel_rfl) rfl (by kernel_rfl) (s_st E (vs := ruC (upF f a t (t + 1))) rfl rfl (ad0 g _) rfl hh rfl rfl rfl (by rw [ruC_len]; omega) (s_nil (D_oneM 16 rfl (by kernel_rfl) rfl (by kernel_rfl) (s_ia E rfl rfl rfl (show (t : Int) + 1 = ((t + 1 : Nat) : Int) by omega) h2 (s_nil (D_oneM 17 rfl (by kernel_rfl) rfl (by kernel_rfl) (s_st E (vs := ruC (upF f a t t)) rfl rfl (ad0 g _) rfl (setRow_heap _ _ _ _ ty (0, 0) hh) rfl rfl rfl (by have := set1.1; rw [ruC_len]; omega) (s_nil (D_done (by kernel_rfl) ?_)))))))))))))))))))))))))
        refine W_reg rfl (s_mv rfl (s_add rfl rfl (by omega) (s_as rfl (s_nil ?_))))
        refine ⟨j - (t + 1), by omega, _, t + 1, u3 rfl rfl rfl, by omega, by omega, rfl, ⟨_, ty, setRow_heap _ _ _ _ ty (0, 0) (setRow_heap _ _ _ _ ty (0, 0) hh), set2.1, ?_⟩, hM.trans ((Mod.of_ext Ext.drew0).trans mod_two)⟩
        rw [upF_succ hat, ← sw_upd]
        exact set2.2
      · have he := of_decide_eq_false he
        have : t = j - 1 := by omega
        subst this
        exact W_ret ⟨_, rfl, rfl, _, ⟨cs, ty, hh, hsz, hc⟩, upF_pm (by omega) (by omega), fin, hM⟩
  have hc1 : m ≠ a + 1 := by have := of_decide_eq_false hc1; omega
  refine W_seq ?_
  refine W_sr rfl (s_mv rfl (s_mv rfl (s_sub rfl rfl (by omega) (s_eql rfl rfl (s_nil ?_)))))
  refine W_if rfl (fun hc2 => ?_) (fun hc2 => W_skip ?_)
  · -- the last one alone
    have hc2 : b = m + 1 := by have := of_decide_eq_true hc2; omega
    subst hc2
    obtain ⟨cs, ty, hh, hsz, hc⟩ := id hA
    refine W_sr rfl (s_mv rfl (s_as rfl (s_nil ?_)))
    refine W_sr rfl (s_mv rfl (s_as rfl (s_nil ?_)))
    refine W_seq ?_
    refine W_block ?_
    refine W_loop (fun q ρ w' => ∃ ρ' i j, ρ = upd (upd (upd (upd (upd (upd ρ' 0 (.slice (some ⟨g, 0, none⟩) n c)) 1 (iV a)) 2 (iV m)) 4 (.func (.func gc) #[] #[])) 14 (iV (i : Nat))) 15 (iV (j : Nat)) ∧ a ≤ i ∧ i ≤ j ∧ j ≤ m ∧ q = j - i ∧ Ext w w' ∧ (∀ p, a ≤ p → p < i → 0 ≤ cmp (f m) (f p)) ∧ ∀ p, j ≤ p → p < m → cmp (f m) (f p) < 0) (m - a)
      ⟨_, a, m, u6 rfl rfl rfl rfl rfl rfl, by omega, by omega, by omega, rfl, Mod.refl, fun p _ _ => by omega, fun p _ _ => by omega⟩ ?_
    rintro q _ w1 ⟨ρ, i, j, rfl, hi, hij, hj, rfl, hE, hlo, hhi⟩
    refine W_seq ?_
    refine W_sr rfl (s_mv rfl (s_mv rfl (s_lss rfl rfl (s_nil ?_))))
    refine W_if rfl (fun hd => W_skip ?_) (fun hd => W_exit ?_)
    · have hd := of_decide_eq_true hd
      have hij : i < j := by omega
      refine W_block ?_
      refine W_sr rfl (s_mv rfl (s_mv rfl (s_add rfl rfl (by omega) (s_cvx E rfl rfl rfl (wrapu_in (by omega) (by omega)) (s_half rfl rfl rfl (show ((i : Int) + j) / 2 = (((i + j) / 2 : Nat) : Int) by omega) (s_cvx E rfl rfl rfl (half_val (by omega)) (s_as rfl (s_nil ?_))))))))
      have hh1 := Ext.heap hE hh
      refine W_qr (Ext w1) orders rfl (by kernel_rfl) (Ext.drew0) (q_mv rfl (q_mv rfl (q_mv rfl (q_ia E rfl rfl rfl rfl (by omega) (q_lda E rfl rfl (fun w' hE => cell_row hh1 hc (show m < n by omega) hE) rfl (q_mv rfl (q_mv rfl (q_ia E rfl rfl rfl rfl (by omega) (q_lda E rfl rfl (fun w' hE => cell_row hh1 hc (show (i + j) / 2 < n by omega) hE) rfl (q_call rfl rfl (hg (f m) (f ((i + j) / 2)) w).1 (fun w' hw' => (hg _ _ w').mono fun v w'' h => ⟨h.1, hw'.trans h.2⟩) (q_lss rfl rfl (q_not rfl (q_nil ?_)))))))))))))
      intro w2 hE2
      have mono : ∀ p q, a ≤ p → p ≤ q → q < m → p = q ∨ 0 ≤ cmp (f q) (f p) := fun p q h1 h2 h3 => by
        by_cases h : p = q
        · exact .inl h
        · exact .inr (hL p q h1 (by omega) h3)
      refine W_if rfl (fun he => ?_) (fun he => ?_)
      · have he : 0 ≤ cmp (f m) (f ((i + j) / 2)) := by simpa using he
        refine W_reg rfl (s_mv rfl (s_add rfl rfl (by omega) (s_as rfl (s_nil ?_))))
        refine ⟨j - ((i + j) / 2 + 1), by omega, _, (i + j) / 2 + 1, j, u6 rfl rfl rfl rfl rfl rfl, by omega, by omega, hj, rfl, hE.trans hE2, fun p h1 h2 => ?_, hhi⟩
        rcases mono p ((i + j) / 2) h1 (by omega) (by omega) with h | h
        · rw [h]; exact he
        · exact ho.tr _ _ _ h he
      · have he : cmp (f m) (f ((i + j) / 2)) < 0 := by simpa using he
        refine W_reg rfl (s_mv rfl (s_as rfl (s_nil ?_)))
        refine ⟨(i + j) / 2 - i, by omega, _, i, (i + j) / 2, u6 rfl rfl rfl rfl rfl rfl, hi, by omega, by omega, rfl, hE.trans hE2, hlo, fun p h1 h2 => ?_⟩
        rcases mono ((i + j) / 2) p (by omega) h1 (by omega) with h | h
        · rw [← h]; exact he
        · by_cases hx : cmp (f m) (f p) < 0
          · exact hx
          · exact absurd (ho.tr (f ((i + j) / 2)) (f p) (f m) h (by omega)) (by omega)
    · have hd := of_decide_eq_false hd
      have hij : j = i := by omega
      subst hij
      have fin := dn_srt ho hL hi hj hlo hhi
      refine W_seq ?_
      refine W_sr rfl (s_mv rfl (s_as rfl (s_nil ?_)))
      refine W_block ?_
      refine W_loop (fun q ρ w' => ∃ ρ' t, ρ = upd (upd (upd ρ' 0 (.slice (some ⟨g, 0, none⟩) n c)) 14 (iV (j : Nat))) 17 (iV (t : Nat)) ∧ j ≤ t ∧ t ≤ m ∧ q = 0 + t ∧ ArrR ruC w' g n (dnF f m t) ∧ Mod (fun k => k = g) w w') (0 + m)
        ⟨_, m, u3 rfl rfl rfl, by omega, by omega, rfl, by rw [dnF_zero]; exact ⟨cs, ty, Ext.heap hE hh, hsz, hc⟩, Mod.of_ext hE⟩ ?_
      clear hA hh hsz hc
      rintro q _ w2 ⟨ρ, t, rfl, hat, htj, rfl, ⟨cs, ty, hh, hsz, hc⟩, hM⟩
      refine W_seq ?_
      refine W_sr rfl (s_mv rfl (s_mv rfl (s_gtr rfl rfl (s_nil ?_))))
      refine W_if rfl (fun he => W_skip ?_) (fun he => W_exit ?_)
      · have he := of_decide_eq_true he
        obtain ⟨u, rfl⟩ : ∃ u, t = u + 1 := ⟨t - 1, by omega⟩
        have h1 : u + 1 < n := by omega
        have h2 : u < n := by omega
        have set1 := arr_set ruC_len hsz hc h1 (dnF f m (u + 1) u)
        have set2 := arr_set ruC_len set1.1 set1.2 h2 (dnF f m (u + 1) (u + 1))
        refine W_seq (W_block ?_)
        refine W_d (fun w' => w'.heap[g]? = some (.cells cs ty (0, 0))) [15, 16, 17] orders (D_pure 0 rfl rfl (by kernel_rfl) rfl (fun _ => r_mv rfl) (fun _ => hh) (D_pure 1 rfl rfl (by kernel_rfl) rfl (fun _ => r_mv rfl) (fun _ => hh) (D_pure 2 rfl rfl (by kernel_rfl) rfl (fun _ => r_mv rfl) (fun _ => hh) (D_pure 3 rfl rfl (by kernel_rfl) rfl (fun _ => r_mv rfl) (fun _ => hh) (D_pure 4 rfl rfl (by kernel_rfl) rfl (fun _ => r_sub rfl rfl (by omega)) (fun _ => hh) (D_pure 5 rfl rfl (by kernel_rfl) rfl (fun _ => r_mv rfl) (fun _ => hh) (D_pure 6 rfl rfl (by kernel_rfl) rfl (fun _ => r_mv rfl) (fun _ => hh) (D_pure 7 rfl rfl (by kernel_rfl) rfl (fun _ => r_sub rfl rfl (by omega)) (fun _ => hh) (D_pure 8 rfl rfl (by kernel_rfl) rfl (fun _ => r_ia E rfl rfl rfl (show ((u + 1 : Nat) : Int) - 1 = ((u : Nat) : Int) by omega) h2) (fun _ => hh) (D_take 9 rfl rfl (by kernel_rfl) rfl (fun _ hs => r_lda E rfl rfl (arr_row hs hc h2) rfl) hh (D_pure 10 rfl rfl (by kernel_rfl) rfl (fun _ => r_mv rfl) (fun _ => hh) (D_pure 11 rfl rfl (by kernel_rfl) rfl (fun _ => r_mv rfl) (fun _ => hh) (D_pure 12 rfl rfl (by kernel_rfl) rfl (fun _ => r_ia E rfl rfl rfl rfl h1) (fun _ => hh) (D_take 13 rfl rfl (by kernel_rfl) rfl (fun _ hs => r_lda E rfl rfl (arr_row hs hc h1) rfl) hh (D_pure 14 rfl rfl (by kernel_rfl) rfl (fun _ => r_ia E rfl rfl rfl rfl h1) (fun _ => hh) (D_oneM 15 rfl (by kernel_rfl) rfl (by kernel_rfl) (s_st E (vs := ruC (dnF f m (u + 1) u)) rfl rfl (ad0 g _) rfl hh rfl rfl rfl (by rw [ruC_len]; omega) (s_nil (D_oneM 16 rfl (by kernel_rfl) rfl (by kernel_rfl) (s_ia E rfl rfl rfl (show ((u + 1 : Nat) : Int) - 1 = ((u : Nat) : Int) by omega) h2 (s_nil (D_oneM 17 rfl (by kernel_rfl) rfl (by kernel_rfl) (s_st E (vs := ruC (dnF f m (u + 1) (u + 1))) rfl rfl (ad0 g _) rfl (setRow_heap _ _ _ _ ty (0, 0) hh) rfl rfl rfl (by have := set1.1; rw [ruC_len]; omega) (s_nil (D_done (by kernel_rfl) ?_)))))))))))))))))))))))))
        refine W_reg rfl (s_mv rfl (s_sub rfl rfl (by omega) (s_as rfl (s_nil ?_))))
        refine ⟨0 + u, by omega, _, u, u3 rfl rfl (congrArg iV (show ((u + 1 : Nat) : Int) - 1 = ((u : Nat) : Int) by omega)), by omega, by omega, rfl, ⟨_, ty, setRow_heap _ _ _ _ ty (0, 0) (setRow_heap _ _ _ _ ty (0, 0) hh), set2.1, ?_⟩, hM.trans ((Mod.of_ext Ext.drew0).trans mod_two)⟩
        rw [dnF_succ (by omega), ← sw_upd]
        exact set2.2
      · have he := of_decide_eq_false he
        have : t = j := by omega
        subst this
        exact W_ret ⟨_, rfl, rfl, _, ⟨cs, ty, hh, hsz, hc⟩, dnF_pm (by omega) (by omega), fin, hM⟩
  have hc2 : b ≠ m + 1 := by have := of_decide_eq_false hc2; omega
  obtain ⟨mid, hmid⟩ : ∃ mid, mid = (a + b) / 2 := ⟨_, rfl⟩
  refine W_sr rfl (s_mv rfl (s_mv rfl (s_add rfl rfl (by omega) (s_cvx E rfl rfl rfl (wrapu_in (by omega) (by omega)) (s_half rfl rfl rfl (show ((a : Int) + b) / 2 = (mid : Int) by omega) (s_cvx E rfl rfl rfl (wrap64_in (by omega) (by omega)) (s_as rfl (s_nil ?_))))))))
  refine W_sr rfl (s_mv rfl (s_mv rfl (s_add rfl rfl (by omega) (s_as rfl (s_nil ?_)))))
  refine W_sr rfl (s_as rfl (s_as rfl (s_nil ?_)))
  refine W_sk fun K hK => ?_
  refine W_sr rfl (s_mv rfl (s_mv rfl (s_gtr rfl rfl (s_nil ?_))))
  have H : ∀ (ρ : Fr) (s0 r0 : Nat), a ≤ s0 → s0 ≤ r0 → r0 ≤ mid → r0 ≤ m → mid + m ≤ s0 + b → (a < s0 → s0 + b = mid + m) → (r0 = mid ∨ r0 = m) → ρ 0 = .slice (some ⟨g, 0, none⟩) n c → ρ 1 = iV a → ρ 2 = iV m → ρ 3 = iV b → ρ 4 = .func (.func gc) #[] #[] → ρ 18 = iV mid → ρ 19 = iV ((mid : Int) + m) →
      ρ 20 = iV (s0 : Nat) → ρ 21 = iV (r0 : Nat) → K ρ w := by
    intro ρ s0 r0 p1 p2 p3 p4 p5 p6 p7 q0 q1 q2 q3 q4 q18 q19 q20 q21
    rw [u9 q0 q1 q2 q3 q4 q18 q19 q20 q21]
    refine hK _ _ ?_
    refine W_sr rfl (s_mv rfl (s_sub rfl rfl (by omega) (s_as rfl (s_nil ?_))))
    obtain ⟨cs, ty, hh, hsz, hc⟩ := id hA
    refine W_seq ?_
    refine W_block ?_
    refine W_loop (fun q ρ w' => ∃ ρ' s r, ρ = upd (upd (upd (upd (upd (upd (upd (upd (upd (upd ρ' 0 (.slice (some ⟨g, 0, none⟩) n c)) 1 (iV a)) 2 (iV m)) 3 (iV b)) 4 (.func (.func gc) #[] #[])) 18 (iV mid)) 19 (iV ((mid : Int) + m))) 20 (iV (s : Nat))) 21 (iV (r : Nat))) 22 (iV ((mid : Int) + m - 1)) ∧ s0 ≤ s ∧ s ≤ r ∧ r ≤ r0 ∧ q = r - s ∧ Ext w w' ∧
        (∀ p, s0 ≤ p → p < s → 0 ≤ cmp (f (mid + m - 1 - p)) (f p)) ∧ ∀ p, r ≤ p → p < r0 → cmp (f (mid + m - 1 - p)) (f p) < 0) (r0 - s0)
      ⟨_, s0, r0, u10 rfl rfl rfl rfl rfl rfl rfl rfl rfl rfl, by omega, by omega, by omega, rfl, Mod.refl, fun p _ _ => by omega, fun p _ _ => by omega⟩ ?_
    rintro q _ w1 ⟨ρ, s, r, rfl, hs0, hsr, hr0, rfl, hE, hlo, hhi⟩
    refine W_seq ?_
    refine W_sr rfl (s_mv rfl (s_mv rfl (s_lss rfl rfl (s_nil ?_))))
    refine W_if rfl (fun hd => W_skip ?_) (fun hd => W_exit ?_)
    · have hd := of_decide_eq_true hd
      have hsr : s < r := by omega
      refine W_block ?_
      obtain ⟨h, hh0⟩ : ∃ h, h = (s + r) / 2 := ⟨_, rfl⟩
      refine W_sr rfl (s_mv rfl (s_mv rfl (s_add rfl rfl (by omega) (s_cvx E rfl rfl rfl (wrapu_in (by omega) (by omega)) (s_half rfl rfl rfl (show ((s : Int) + r) / 2 = (h : Int) by omega) (s_cvx E rfl rfl rfl (wrap64_in (by omega) (by omega)) (s_as rfl (s_nil ?_))))))))
      have hh1 := Ext.heap hE hh
      refine W_qr (Ext w1) orders rfl (by kernel_rfl) (Ext.drew0) (q_mv rfl (q_mv rfl (q_mv rfl (q_mv rfl (q_sub rfl rfl (by omega) (q_ia E rfl rfl rfl (show (mid : Int) + m - 1 - h = ((mid + m - 1 - h : Nat) : Int) by omega) (by omega) (q_lda E rfl rfl (fun w' hE => cell_row hh1 hc (show mid + m - 1 - h < n by omega) hE) rfl (q_mv rfl (q_mv rfl (q_ia E rfl rfl rfl rfl (by omega) (q_lda E rfl rfl (fun w' hE => cell_row hh1 hc (show h < n by omega) hE) rfl (q_call rfl rfl (hg (f (mid + m - 1 - h)) (f h) w).1 (fun w' hw' => (hg _ _ w').mono fun v w'' h => ⟨h.1, hw'.trans h.2⟩) (q_lss rfl rfl (q_not rfl (q_nil ?_)))))))))))))))
      intro w2 hE2
      refine W_if rfl (fun he => ?_) (fun he => ?_)
      · have he : 0 ≤ cmp (f (mid + m - 1 - h)) (f h) := by simpa using he
        refine W_reg rfl (s_mv rfl (s_add rfl rfl (by omega) (s_as rfl (s_nil ?_))))
        refine ⟨r - (h + 1), by omega, _, h + 1, r, u10 rfl rfl rfl rfl rfl rfl rfl rfl rfl rfl, by omega, by omega, hr0, rfl, hE.trans hE2, fun p h1 h2 => ?_, hhi⟩
        by_cases e : p = h
        · subst e; exact he
        · have k1 := hL p h (by omega) (by omega) (by omega)
          have k2 := hR (mid + m - 1 - h) (mid + m - 1 - p) (by omega) (by omega) (by omega)
          exact ho.tr _ _ _ (ho.tr _ _ _ k1 he) k2
      · have he : cmp (f (mid + m - 1 - h)) (f h) < 0 := by simpa using he
        refine W_reg rfl (s_mv rfl (s_as rfl (s_nil ?_)))
        refine ⟨h - s, by omega, _, s, h, u10 rfl rfl rfl rfl rfl rfl rfl rfl rfl rfl, hs0, by omega, by omega, rfl, hE.trans hE2, hlo, fun p h1 h2 => ?_⟩
        by_cases e : p = h
        · subst e; exact he
        · have k1 := hL h p (by omega) (by omega) (by omega)
          have k2 := hR (mid + m - 1 - p) (mid + m - 1 - h) (by omega) (by omega) (by omega)
          by_cases hx : cmp (f (mid + m - 1 - p)) (f p) < 0
          · exact hx
          · exact absurd (ho.tr _ _ _ k1 (ho.tr _ _ _ (show 0 ≤ cmp (f (mid + m - 1 - p)) (f p) by omega) k2)) (by omega)
    · have hd := of_decide_eq_false hd
      have hsr : r = s := by omega
      subst hsr
      obtain ⟨e, he⟩ : ∃ e, e = mid + m - r := ⟨_, rfl⟩
      have hH : Halves cmp (rotF f r m e) a r mid e b := by
        refine sym_halves ho hL hR (by omega) (by omega) (by omega) (by omega) (by omega) (by omega) (fun h1 h2 => ?_) (fun h1 h2 => ?_)
        · have h3 : s0 < r := by
            by_cases h3 : s0 < r
            · exact h3
            · have : s0 = r := by omega
              subst this
              have := p6 h1
              omega
          have := hlo (r - 1) (by omega) (by omega)
          rwa [show mid + m - 1 - (r - 1) = e by omega] at this
        · have := hhi r (by omega) (by omega)
          rwa [show mid + m - 1 - r = e - 1 by omega] at this
      have hA1 : ArrR ruC w1 g n f := ⟨cs, ty, Ext.heap hE hh, hsz, hc⟩
      refine W_sr rfl (s_mv rfl (s_mv rfl (s_sub rfl rfl (by omega) (s_as rfl (s_nil ?_)))))
      clear hlo hhi hK
      refine W_sk fun K hK => ?_
      have H1 : ∀ (ρ : Fr) w', ρ 0 = .slice (some ⟨g, 0, none⟩) n c → ρ 1 = iV a → ρ 3 = iV b → ρ 4 = .func (.func gc) #[] #[] → ρ 18 = iV mid → ρ 20 = iV r → ρ 24 = iV e → ArrR ruC w' g n (rotF f r m e) → Pm a b f (rotF f r m e) → Mod (fun k => k = g) w w' → K ρ w' := by
        intro ρ w2 q0 q1 q3 q4 q18 q20 q24 hA2 hP2 hM2
        rw [u7 q0 q1 q3 q4 q18 q20 q24]
        refine hK _ _ ?_
        clear hK
        refine W_sk fun K hK => ?_
        have H2 : ∀ (ρ : Fr) w' f3, ρ 0 = .slice (some ⟨g, 0, none⟩) n c → ρ 3 = iV b → ρ 4 = .func (.func gc) #[] #[] → ρ 18 = iV mid → ρ 24 = iV e → ArrR ruC w' g n f3 → Pm a mid (rotF f r m e) f3 → Srt cmp f3 a mid → Mod (fun k => k = g) w w' → K ρ w' := by
          intro ρ w3 f3 q0 q3 q4 q18 q24 hA3 hP3 hS3 hM3
          rw [u5 q0 q3 q4 q18 q24]
          refine hK _ _ ?_
          have R1 : Srt cmp f3 mid e := fun p q h1 h2 h3 => by rw [hP3.out (.inr (by omega)), hP3.out (.inr h1)]; exact hH.r1 p q h1 h2 h3
          have R2 : Srt cmp f3 e b := fun p q h1 h2 h3 => by rw [hP3.out (.inr (by omega)), hP3.out (.inr (by omega))]; exact hH.r2 p q h1 h2 h3
          have stay : ¬ (mid < e ∧ e < b) → Srt cmp f3 mid b := fun h => by
            by_cases h1 : mid < e
            · exact R1.sub (by omega) (by omega)
            · exact R2.sub (by omega) (by omega)
          have done : ∀ f4 w4, ArrR ruC w4 g n f4 → Pm mid b f3 f4 → Srt cmp f4 mid b → Mod (fun k => k = g) w w4 → ∃ v, v = Value.tuple #[] ∧ (v = .tuple #[] ∧ ∃ f', ArrR ruC w4 g n f' ∧ Pm a b f f' ∧ Srt cmp f' a b ∧ Mod (fun k => k = g) w w4) := fun f4 w4 h1 h2 h3 h4 =>
            ⟨_, rfl, rfl, f4, h1, (hP2.trans (hP3.mono (by omega) (by omega))).trans (h2.mono (by omega) (by omega)),
              srt_join (fun p q g1 g2 g3 => by rw [h2.out (.inl (by omega)), h2.out (.inl (by omega))]; exact hS3 p q g1 g2 g3) h3 (cross_pm hP3 h2 hH.cross), h4⟩
          by_cases h0 : (mid : Int) < e
          · by_cases h1 : (e : Int) < b
            · refine W_sr rfl (s_mv rfl (s_mv rfl (s_cmp (c := true) rfl rfl (decide_eq_true h0) (s_mv rfl (s_g1 rfl (s_mv rfl (s_g1 rfl (s_mv rfl (s_g1 rfl (s_cmp (c := true) rfl rfl (decide_eq_true h1) (s_pk rfl (s_nil ?_))))))))))))
              refine W_if rfl (fun _ => ?_) (fun h => by cases h)
              refine W_reg rfl (s_mv rfl (s_mv rfl (s_mv rfl (s_mv rfl (s_mv rfl (s_callx rfl rfl (ih (w := w3) (f := f3) (a := mid) (m := e) (b := b) (by omega) (by omega) (by omega) hb hA3 R1 R2) fun w4 h4 => (s_nil ?_)))))))
              obtain ⟨f4, h4, h5, h6, h7⟩ := h4
              obtain ⟨_, rfl, h8⟩ := done f4 w4 h4 h5 h6 (hM3.trans h7)
              exact ⟨_, rfl, h8⟩
            · refine W_sr rfl (s_mv rfl (s_mv rfl (s_cmp (c := true) rfl rfl (decide_eq_true h0) (s_mv rfl (s_g1 rfl (s_mv rfl (s_g1 rfl (s_mv rfl (s_g1 rfl (s_cmp (c := false) rfl rfl (decide_eq_false h1) (s_pk rfl (s_nil ?_))))))))))))
              refine W_if rfl (fun h => by cases h) (fun _ => W_skip ?_)
              obtain ⟨_, rfl, h8⟩ := done f3 w3 hA3 .refl (stay (by omega)) hM3
              exact ⟨_, rfl, h8⟩
          · refine W_sr rfl (s_mv rfl (s_mv rfl (s_cmp (c := false) rfl rfl (decide_eq_false h0) (s_mv rfl (s_g0 rfl (s_g0 rfl (s_g0 rfl (s_pk rfl (s_nil ?_)))))))))
            refine W_if rfl (fun h => by cases h) (fun _ => W_skip ?_)
            obtain ⟨_, rfl, h8⟩ := done f3 w3 hA3 .refl (stay (by omega)) hM3
            exact ⟨_, rfl, h8⟩
        have stay : ¬ (a < r ∧ r < mid) → Srt cmp (rotF f r m e) a mid := fun h => by
          by_cases h1 : a < r
          · exact hH.l1.sub (by omega) (by omega)
          · exact hH.l2.sub (by omega) (by omega)
        by_cases h0 : (a : Int) < r
        · by_cases h1 : (r : Int) < mid
          · refine W_sr rfl (s_mv rfl (s_mv rfl (s_cmp (c := true) rfl rfl (decide_eq_true h0) (s_mv rfl (s_g1 rfl (s_mv rfl (s_g1 rfl (s_mv rfl (s_g1 rfl (s_cmp (c := true) rfl rfl (decide_eq_true h1) (s_pk rfl (s_nil ?_))))))))))))
            refine W_if rfl (fun _ => ?_) (fun h => by cases h)
            refine W_reg rfl (s_mv rfl (s_mv rfl (s_mv rfl (s_mv rfl (s_mv rfl (s_callx rfl rfl (ih (w := w2) (f := rotF f r m e) (a := a) (m := r) (b := mid) (by omega) (by omega) (by omega) (by omega) hA2 hH.l1 hH.l2) fun w4 h4 => (s_nil ?_)))))))
            obtain ⟨f4, h4, h5, h6, h7⟩ := h4
            exact H2 _ _ f4 rfl rfl rfl rfl rfl h4 h5 h6 (hM2.trans h7)
          · refine W_sr rfl (s_mv rfl (s_mv rfl (s_cmp (c := true) rfl rfl (decide_eq_true h0) (s_mv rfl (s_g1 rfl (s_mv rfl (s_g1 rfl (s_mv rfl (s_g1 rfl (s_cmp (c := false) rfl rfl (decide_eq_false h1) (s_pk rfl (s_nil ?_))))))))))))
            refine W_if rfl (fun h => by cases h) (fun _ => W_skip ?_)
            exact H2 _ _ _ rfl rfl rfl rfl rfl hA2 .refl (stay (by omega)) hM2
        · refine W_sr rfl (s_mv rfl (s_mv rfl (s_cmp (c := false) rfl rfl (decide_eq_false h0) (s_mv rfl (s_g0 rfl (s_g0 rfl (s_g0 rfl (s_pk rfl (s_nil ?_)))))))))
          refine W_if rfl (fun h => by cases h) (fun _ => W_skip ?_)
          exact H2 _ _ _ rfl rfl rfl rfl rfl hA2 .refl (stay (by omega)) hM2
      have ee : (mid : Int) + m - r = e := by omega
      by_cases h0 : (r : Int) < m
      · by_cases h1 : (m : Int) < e
        · refine W_sr rfl (s_mv rfl (s_mv rfl (s_cmp (c := true) rfl rfl (decide_eq_true h0) (s_mv rfl (s_g1 rfl (s_mv rfl (s_g1 rfl (s_mv rfl (s_g1 rfl (s_cmp (c := true) rfl rfl (decide_eq_true (by rw [ee]; exact h1)) (s_pk rfl (s_nil ?_))))))))))))
          refine W_if rfl (fun _ => ?_) (fun h => by cases h)
          have call := slices_rotate_LigRule_c (c := c) (cv := .func (.func gc) #[] #[]) (a := r) (m := m) (b := e) hA1 (by omega) (by omega) (by omega) hn
          rw [← ee] at call
          refine W_reg rfl (s_mv rfl (s_mv rfl (s_mv rfl (s_mv rfl (s_mv rfl (s_callx rfl rfl call fun w4 h4 => (s_nil ?_)))))))
          exact H1 _ _ rfl rfl rfl rfl rfl rfl (congrArg iV ee) h4.1 (h4.2.1.mono (by omega) (by omega)) ((Mod.of_ext hE).trans h4.2.2)
        · refine W_sr rfl (s_mv rfl (s_mv rfl (s_cmp (c := true) rfl rfl (decide_eq_true h0) (s_mv rfl (s_g1 rfl (s_mv rfl (s_g1 rfl (s_mv rfl (s_g1 rfl (s_cmp (c := false) rfl rfl (decide_eq_false (by rw [ee]; exact h1)) (s_pk rfl (s_nil ?_))))))))))))
          refine W_if rfl (fun h => by cases h) (fun _ => W_skip ?_)
          have e0 := rot_none (f := f) (s := r) (m := m) (e := e) (.inr (by omega)) (by omega) (by omega)
          exact H1 _ _ rfl rfl rfl rfl rfl rfl (congrArg iV ee) (by rw [e0]; exact hA1) (by rw [e0]; exact .refl) (Mod.of_ext hE)
      · refine W_sr rfl (s_mv rfl (s_mv rfl (s_cmp (c := false) rfl rfl (decide_eq_false h0) (s_mv rfl (s_g0 rfl (s_g0 rfl (s_g0 rfl (s_pk rfl (s_nil ?_)))))))))
        refine W_if rfl (fun h => by cases h) (fun _ => W_skip ?_)
        have e0 := rot_none (f := f) (s := r) (m := m) (e := e) (.inl (by omega)) (by omega) (by omega)
        exact H1 _ _ rfl rfl rfl rfl rfl rfl (congrArg iV ee) (by rw [e0]; exact hA1) (by rw [e0]; exact .refl) (Mod.of_ext hE)
  refine W_if rfl (fun hd => ?_) (fun hd => ?_)
  · have hd := of_decide_eq_true hd
    refine W_sr rfl (s_mv rfl (s_mv rfl (s_sub rfl rfl (by omega) (s_as rfl (s_nil ?_)))))
    refine W_reg rfl (s_mv rfl (s_as rfl (s_nil ?_)))
    exact H _ (mid + m - b) mid (by omega) (by omega) (by omega) (by omega) (by omega) (by omega) (.inl rfl) rfl rfl rfl rfl rfl rfl rfl (congrArg iV (show (mid : Int) + m - b = ((mid + m - b : Nat) : Int) by omega)) rfl
  · have hd := of_decide_eq_false hd
    refine W_sr rfl (s_mv rfl (s_as rfl (s_nil ?_)))
    refine W_reg rfl (s_mv rfl (s_as rfl (s_nil ?_)))
    exact H _ a m (by omega) (by omega) (by omega) (by omega) (by omega) (by omega) (.inr rfl) rfl rfl rfl rfl rfl rfl rfl rfl rfl
end
end Go.Proofs.YthfnijlgmjkedaaGreat

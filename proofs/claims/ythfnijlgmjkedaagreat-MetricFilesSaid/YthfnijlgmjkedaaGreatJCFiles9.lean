/- fleuronlaw27.MetricFiles returns true for every metric, and the metric reads behind the call as it read before; conditions: none beside the given row's own. Part 9 of 9 of the proof. -/
import Derived.Test.YthfnijlgmjkedaaGreatJCFiles8
import Derived.Test.YthfnijlgmjkedaaGreatJCFiles1
import Derived.Below
import Derived.ChangeSame
import Derived.Carry
import Derived.Deep.Slices
import Derived.OpenShut
import Derived.Test.YthfnijlgmjkedaaGreatJCFiles7
import Derived.WalkKit
import Derived.ProofKit
import Derived.Test.YthfnijlgmjkedaaGreatRows
namespace Go.Proofs.YthfnijlgmjkedaaGreat
set_option maxRecDepth 100000
set_option linter.unusedVariables false
set_option linter.unusedSimpArgs false
open Go Go.Fx
/-! ## the reference's file is the program's -/
theorem lt_uniq : ∀ (a b : List Int), a.Pairwise (· < ·) → b.Pairwise (· < ·) → (∀ x, x ∈ a ↔ x ∈ b) → a = b
  | [], [], _, _, _ => rfl
  | [], y :: b, _, _, h => absurd ((h y).2 (by simp)) (by simp)
  | x :: a, [], _, _, h => absurd ((h x).1 (by simp)) (by simp)
  | x :: a, y :: b, ha, hb, h => by
    rw [List.pairwise_cons] at ha hb
    have hxy : x = y := by
      have h1 := (h x).1 (by simp)
      have h2 := (h y).2 (by simp)
      rcases List.mem_cons.1 h1 with h1 | h1
      · exact h1
      · rcases List.mem_cons.1 h2 with h2 | h2
        · exact h2.symm
        · have := ha.1 y h2; have := hb.1 x h1; omega
    subst hxy
    rw [lt_uniq a b ha.2 hb.2 fun z => ?_]
    constructor
    · intro hz
      rcases List.mem_cons.1 ((h z).1 (List.mem_cons_of_mem _ hz)) with h1 | h1
      · have := ha.1 z hz; omega
      · exact h1
    · intro hz
      rcases List.mem_cons.1 ((h z).2 (List.mem_cons_of_mem _ hz)) with h1 | h1
      · have := hb.1 z hz; omega
      · exact h1
theorem tw_all {p : Int → Bool} : ∀ (l : List Int) x, x ∈ l.takeWhile p → p x = true
  | [], x, h => by simp at h
  | y :: l, x, h => by
    rw [List.takeWhile_cons] at h
    split at h
    · rename_i hy
      rcases List.mem_cons.1 h with rfl | h
      · exact hy
      · exact tw_all l x h
    · simp at h
theorem flat_congr {α β : Type} {f g : α → List β} : ∀ {l : List α}, (∀ x ∈ l, f x = g x) → l.flatMap f = l.flatMap g
  | [], _ => rfl
  | x :: l, h => by rw [List.flatMap_cons, List.flatMap_cons, h x (by simp), flat_congr fun y hy => h y (by simp [hy])]
theorem insU_eq (l : List Int) (n : Int) : insU l n = (match l.dropWhile (fun y => decide (y < n)) with
    | [] => l ++ [n]
    | y :: r => if y = n then l else l.takeWhile (fun y => decide (y < n)) ++ n :: y :: r) := by
  have h0 := List.takeWhile_append_dropWhile (p := fun y : Int => decide (y < n)) (l := l)
  have ht : l.take (l.takeWhile fun y => decide (y < n)).length = l.takeWhile fun y => decide (y < n) := by
    conv => lhs; arg 2; rw [← h0]
    exact List.take_left
  have hd : l.drop (l.takeWhile fun y => decide (y < n)).length = l.dropWhile fun y => decide (y < n) := by
    conv => lhs; arg 2; rw [← h0]
    exact List.drop_left
  unfold insU
  simp only [ht, hd]
  cases hw : l.dropWhile (fun y => decide (y < n)) with
  | nil =>
    have h1 : (l.takeWhile fun y => decide (y < n)) = l := by rw [hw] at h0; simpa using h0
    rw [h1, if_neg (by omega)]; simp
  | cons y r =>
    have hlt : (l.takeWhile fun y => decide (y < n)).length < l.length := by
      have := congrArg List.length h0
      rw [hw] at this
      simp only [List.length_append, List.length_cons] at this
      omega
    have hg : l.getD (l.takeWhile fun y => decide (y < n)).length 0 = y := by
      have : l[(l.takeWhile fun y => decide (y < n)).length]? = some y := by
        have h2 : (l.drop (l.takeWhile fun y => decide (y < n)).length)[0]? = some y := by rw [hd, hw]; rfl
        rw [List.getElem?_drop] at h2
        simpa using h2
      rw [List.getD_eq_getElem?_getD, this]; rfl
    rw [hg]
    by_cases hy : y = n
    · rw [if_pos ⟨hlt, hy⟩]
      show l = if y = n then l else _
      rw [if_pos hy]
    · rw [if_neg (fun h => hy h.2)]
      show _ = if y = n then l else _
      rw [if_neg hy]; rfl
theorem insU_ok {l : List Int} (n : Int) (h : l.Pairwise (· < ·)) : (insU l n).Pairwise (· < ·) ∧ ∀ x, x ∈ insU l n ↔ x ∈ l ∨ x = n := by
  have h0 := List.takeWhile_append_dropWhile (p := fun y : Int => decide (y < n)) (l := l)
  rw [insU_eq]
  have htw : ∀ x ∈ l.takeWhile (fun y => decide (y < n)), x < n := fun x hx => by simpa using tw_all l x hx
  cases hw : l.dropWhile (fun y => decide (y < n)) with
  | nil =>
    simp only
    have h1 : (l.takeWhile fun y => decide (y < n)) = l := by rw [hw] at h0; simpa using h0
    rw [h1] at htw
    exact ⟨List.pairwise_append.2 ⟨h, List.pairwise_singleton _ _, fun a ha b hb => by rw [List.mem_singleton] at hb; subst hb; exact htw a ha⟩, fun x => by simp⟩
  | cons y r =>
    simp only
    rw [hw] at h0
    have hyn : ¬ y < n := by
      have := List.head_dropWhile_not (fun y : Int => decide (y < n)) (l := l) (by rw [hw]; simp)
      simp only [hw, List.head_cons] at this
      simpa using this
    split
    · rename_i e
      subst e
      refine ⟨h, fun x => ⟨.inl, fun hx => ?_⟩⟩
      rcases hx with hx | rfl
      · exact hx
      · rw [← h0]; simp
    · rename_i e
      have hp := h
      rw [← h0, List.pairwise_append] at hp
      refine ⟨List.pairwise_append.2 ⟨hp.1, List.pairwise_cons.2 ⟨fun z hz => ?_, hp.2.1⟩, fun a ha b hb => ?_⟩, fun x => ?_⟩
      · rcases List.mem_cons.1 hz with rfl | hz
        · omega
        · have := (List.pairwise_cons.1 hp.2.1).1 z hz; omega
      · rcases List.mem_cons.1 hb with rfl | hb
        · exact htw a ha
        · exact hp.2.2 a ha b hb
      · conv => rhs; rw [← h0]
        simp only [List.mem_append, List.mem_cons]
        constructor
        · rintro (h | h | h | h)
          · exact .inl (.inl h)
          · exact .inr h
          · exact .inl (.inr (.inl h))
          · exact .inl (.inr (.inr h))
        · rintro ((h | h | h) | h)
          · exact .inl h
          · exact .inr (.inr (.inl h))
          · exact .inr (.inr (.inr h))
          · exact .inr (.inl h)
theorem foldU_ok : ∀ (l o : List Int), o.Pairwise (· < ·) → (l.foldl insU o).Pairwise (· < ·) ∧ ∀ x, x ∈ l.foldl insU o ↔ x ∈ o ∨ x ∈ l
  | [], o, h => ⟨h, fun x => by simp⟩
  | n :: l, o, h => by
    have h1 := insU_ok n h
    have h2 := foldU_ok l (insU o n) h1.1
    refine ⟨h2.1, fun x => ?_⟩
    rw [List.foldl_cons, h2.2, h1.2, List.mem_cons]
    constructor
    · rintro ((h | h) | h)
      · exact .inl h
      · exact .inr (.inl h)
      · exact .inr (.inr h)
    · rintro (h | h | h)
      · exact .inl (.inl h)
      · exact .inl (.inr h)
      · exact .inr h
theorem compact_ok {l : List Int} (h : l.Pairwise (· ≤ ·)) : (Lib.compact l).Pairwise (· < ·) ∧ ∀ x, x ∈ Lib.compact l ↔ x ∈ l := by
  unfold Lib.compact
  have key : ∀ m, m ≤ l.length → (Lib.compactUpTo l.toArray m).Pairwise (· < ·) ∧ ∀ x, x ∈ Lib.compactUpTo l.toArray m ↔ x ∈ l.take m := by
    intro m
    induction m with
    | zero => intro _; simp [Lib.compactUpTo]
    | succ m ih =>
      intro hm
      have ih := ih (by omega)
      have hml : m < l.length := by omega
      have hget : l.toArray[m]! = l[m] := by rw [getElem!_pos _ _ (by simpa using hml)]; simp
      have hle : ∀ x ∈ l.take m, x ≤ l[m] := by
        intro x hx
        obtain ⟨i, hi, rfl⟩ := List.getElem_of_mem hx
        have hi' : i < m := by simp at hi; omega
        rw [List.getElem_take]
        exact (List.pairwise_iff_getElem.1 h) i m (by omega) hml hi'
      rw [Lib.compactUpTo_succ, List.take_succ_eq_append_getElem hml]
      by_cases h0 : m = 0
      · subst h0
        have : Lib.keeps l.toArray 0 = true := by simp [Lib.keeps]
        rw [if_pos this, hget]
        simp [Lib.compactUpTo]
      · have hm1 : m - 1 < l.length := by omega
        have hget1 : l.toArray[m - 1]! = l[m - 1] := by rw [getElem!_pos _ _ (by simpa using hm1)]; simp
        have hmem1 : l[m - 1] ∈ l.take m := by
          rw [List.mem_take_iff_getElem]
          exact ⟨m - 1, by omega, rfl⟩
        by_cases he : l[m] = l[m - 1]
        · rw [Lib.keeps_neg (by omega) (by rw [hget, hget1]; exact he)]
          simp only [Bool.false_eq_true, if_false, List.append_nil]
          refine ⟨ih.1, fun x => ?_⟩
          rw [ih.2, List.mem_append, List.mem_singleton]
          exact ⟨.inl, fun hx => by
            rcases hx with hx | rfl
            · exact hx
            · rw [he]; exact hmem1⟩
        · rw [Lib.keeps_pos (by rw [hget, hget1]; exact he), hget]
          simp only [if_true]
          refine ⟨List.pairwise_append.2 ⟨ih.1, List.pairwise_singleton _ _, fun a ha b hb => ?_⟩, fun x => by rw [List.mem_append, List.mem_append, ih.2]⟩
          rw [List.mem_singleton] at hb; subst hb
          have ha := (ih.2 a).1 ha
          have h1 := hle a ha
          obtain ⟨i, hi, rfl⟩ := List.getElem_of_mem ha
          have hi' : i < m := by simp at hi; omega
          rw [List.getElem_take] at h1 ⊢
          have h2 : l[i] ≤ l[m - 1] := by
            by_cases e : i = m - 1
            · subst e; exact Int.le_refl _
            · exact (List.pairwise_iff_getElem.1 h) i (m - 1) (by omega) hm1 (by omega)
          have h3 := (List.pairwise_iff_getElem.1 h) (m - 1) m hm1 hml (by omega)
          omega
  have := key l.length (Nat.le_refl _)
  rwa [List.take_length] at this
theorem tabs_ok (m : Me) (j : Nat) : (tabs m j).Pairwise (· < ·) ∧ ∀ x, x ∈ tabs m j ↔ x ∈ m.chars.map (dimF j) := by
  have h1 : ((m.chars.map (dimF j)).mergeSort leI).Pairwise (fun a b => leI a b = true) :=
    List.pairwise_mergeSort (fun a b c h1 h2 => by simp [leI] at *; omega) (fun a b => by simp [leI]; omega) _
  have h2 := compact_ok (h1.imp (fun {a b} h => by simpa [leI] using h))
  exact ⟨h2.1, fun x => by unfold tabs tabL; rw [h2.2]; exact List.mem_mergeSort⟩
theorem rT_tabs (m : Me) (j : Nat) : rT m j = tabs m j := by
  have h1 := foldU_ok (m.chars.map (dimF j)) [] List.Pairwise.nil
  have h2 := tabs_ok m j
  exact lt_uniq _ _ h1.1 h2.1 fun x => by
    rw [h2.2]
    have := h1.2 x
    simpa [rT] using this
theorem fidx_idxT {l : List Int} (h : l.Pairwise (· < ·)) {x : Int} (hx : x ∈ l) : (fidx l x : Int) = idxT l x := by
  obtain ⟨i, hi, rfl⟩ := List.getElem_of_mem hx
  have hp := List.pairwise_iff_getElem.1 h
  have h1 : fidx l l[i] = i := fidx_at hi (fun j hj e => by have := hp j i (by omega) hi hj; omega) rfl
  rw [h1]
  unfold idxT
  have : l.countP (fun y => decide (y < l[i])) = i := by
    have h0 := List.take_append_drop i l
    conv => lhs; arg 2; rw [← h0]
    rw [List.countP_append]
    have e1 : (l.take i).countP (fun y => decide (y < l[i])) = i := by
      rw [List.countP_eq_length.2 (fun y hy => by
        obtain ⟨j, hj, rfl⟩ := List.getElem_of_mem hy
        rw [List.getElem_take]
        have hj' : j < i := by simp at hj; omega
        exact decide_eq_true (hp j i (by omega) hi hj'))]
      simp; omega
    have e2 : (l.drop i).countP (fun y => decide (y < l[i])) = 0 := by
      rw [List.countP_eq_zero]
      intro y hy
      obtain ⟨j, hj, rfl⟩ := List.getElem_of_mem hy
      rw [List.getElem_drop]
      have hj' : i + j < l.length := by simp at hj; omega
      by_cases e : j = 0
      · subst e; simp
      · have := hp i (i + j) hi hj' (by omega)
        simp; omega
    rw [e1, e2]; rfl
  rw [this]
theorem rbody_eq (m : Me) : rbody m = bodyM m := by
  have hT : rTabs m 3 = tabsB m 3 := by unfold rTabs tabsB; simp only [rT_tabs]
  have hC : ∀ c ∈ m.chars, rCh m c = chBytes m c := fun c hc => by
    unfold rCh chBytes rDim dimB
    simp only [rT_tabs]
    congr 1
    refine flat_congr fun j _ => ?_
    rw [fidx_idxT (tabs_ok m j).1 (((tabs_ok m j).2 _).2 (List.mem_map.2 ⟨c, hc, rfl⟩))]
  unfold rbody bodyM
  rw [hT, flat_congr hC]
theorem fileR_eq (m : Me) : fileR m = packM m := by unfold fileR packM; rw [rbody_eq]
end Go.Proofs.YthfnijlgmjkedaaGreat
namespace Go.Proofs.YthfnijlgmjkedaaGreat
set_option maxRecDepth 100000
set_option maxHeartbeats 4000000
set_option linter.unusedVariables false
set_option linter.unusedSimpArgs false
open Go Go.Fx Go.Proofs.YthfnijlgmjkedaaGreat.Tab
theorem q_eqsc {P : Program} {L os : List Oper} {Kq : Fr → Prop} {C : World → Prop} {ρ : Fr} {d : Option Tmp} {T : TypeId} {pos : String} {af : Array Edge} {t yt : TypeId} {x y : Operand} {a b : ByteArray} {c : Bool} (hx : ev ρ x = .string a) (hy : ev ρ y = .string b) (hc : (a.toList == b.toList) = c) (hk : vq P L C Kq os (put ρ d (.bool c))) : vq P L C Kq (⟨d, .binOp .eql t x y yt, T, pos, af, none⟩ :: os) ρ :=
  q_eqs hx hy (by rw [hc]; exact hk)
theorem few1 {m : Me} {p q : Option Addr} {c d : Nat} {w : World} {a : Addr} (h : Row w a (meC m p q c d)) : Ret Go.Proofs.Tryz.prog 9 #[.slice (some a) 1 1] w fun v w' => v = .bool (fewB m) ∧ Ext w w' := by
  refine (fleuronlaw27_few_c (ms := [⟨m, p, q, c, d⟩]) rfl (show 1 ≤ 1000 by decide) h).mono fun v w' hh => ⟨?_, hh.2⟩
  rw [hh.1]; simp
theorem few_bd {m : Me} (h : fewB m = true) : m.chars.length ≤ 300 ∧ m.rules.length ≤ 600 := by
  simpa [fewB] using h
section
variable {w : World}
def packL (m : Me) : List Int := if validM m then packM m else []
def packE (m : Me) : Int := if validM m then 0 else 2
theorem pack_any {m : Me} {p q : Option Addr} {c d : Nat} (hm : MeR w m p q) (h : fewB m = true) : Ret Go.Proofs.Tryz.prog 11 #[meV m p q c d] w fun v w' => (∃ pa ca, v = .tuple #[.slice pa (packL m).length ca, iV (packE m)] ∧ (packL m).length ≤ ca ∧ SlR w' pa ((packL m).map bV) ∧ OwnF w' 5 1 (.slice pa (packL m).length ca) (packL m).length ((packL m).map bV) ∧ ∀ k, (Value.slice pa (packL m).length ca).ownBlock = some k → w.heap.size ≤ k) ∧ Ext w w' := by
  have hb := few_bd h
  refine (metric_Pack_c hm (by omega) (by omega)).mono fun v w' hh => ⟨?_, hh.2⟩
  unfold packL packE
  cases hv : validM m
  · have := hh.1
    rw [hv] at this
    exact ⟨none, 0, this, Nat.le_refl _, rfl, .inl (Own.nil _ _ _), fun k hk => by cases hk⟩
  · have := hh.1
    rw [hv] at this
    obtain ⟨p, c, h1, h2, h3, h4, h5⟩ := this
    exact ⟨p, c, h1, h2, h3, h4, h5⟩
theorem rpack_any {m : Me} {p q : Option Addr} {c d : Nat} (hm : MeR w m p q) (h : fewB m = true) : Ret Go.Proofs.Tryz.prog 12 #[meV m p q c d] w fun v w' => (∃ pa ca, v = .tuple #[.slice pa (packL m).length ca, iV (packE m)] ∧ SlR w' pa ((packL m).map bV)) ∧ Ext w w' := by
  have hb := few_bd h
  refine (fleuronref27_Pack_c hm (by omega) (by omega)).mono fun v w' hh => ⟨?_, hh.2⟩
  unfold packL packE
  rw [fileR_eq] at hh
  cases hv : validM m
  · have := hh.1
    rw [hv] at this
    exact ⟨none, 0, this, rfl⟩
  · have := hh.1
    rw [hv] at this
    obtain ⟨p, c, h1, h2, h3⟩ := this
    exact ⟨p, c, h1, h3⟩
theorem MetricFiles_c {m : Me} {p q : Option Addr} {c d : Nat} (hp : SlR w p (m.chars.flatMap chC)) (hq : SlR w q (m.rules.flatMap ruC)) :
    Ret Go.Proofs.Tryz.prog 3 #[meV m p q c d] w fun v w' => v = .bool true ∧ Ext w w' := by
  refine enter Go.Proofs.Tryz.func3 rfl rfl rfl ?_
  have hS := Sep.start (w := w)
  refine W_sr rfl (s_bxS hS (vs := meC m p q c d) rfl rfl fun w1 gm hS => (s_as rfl (s_nil ?_)))
  have hE1 := hS.ext
  have r1 : Row w1 ⟨gm, 0, none⟩ (meC m p q c d) := hS.row 0 rfl
  clear hS
  refine W_seq ?_
  cases hf : fewB m
  · refine W_sr rfl (s_lda (xs := meC m p q c d) E rfl rfl r1 rfl (s_bsA E rfl rfl rfl rfl rfl (cells := (meC m p q c d).toArray) (by kernel_rfl) fun w2 hE2 hh2 hs2 => (s_callx rfl rfl (Ret.eqv (few1 (m := m) (p := p) (q := q) (c := c) (d := d) (row_heap hh2)) (congrArg Value.bool hf)) fun w3 hE3 => (s_not rfl (s_nil ?_)))))
    refine W_if rfl (fun _ => ?_) (fun h => by cases h)
    refine W_sr rfl (s_callx rfl rfl fleuronlaw27_awake_c fun w4 hE4 => (s_as rfl (s_nil ?_)))
    exact W_ret ⟨_, rfl, rfl, hE1.trans (hE2.trans (hE3.trans hE4))⟩
  refine W_sr rfl (s_lda (xs := meC m p q c d) E rfl rfl r1 rfl (s_bsA E rfl rfl rfl rfl rfl (cells := (meC m p q c d).toArray) (by kernel_rfl) fun w2 hE2 hh2 hs2 => (s_callx rfl rfl (Ret.eqv (few1 (m := m) (p := p) (q := q) (c := c) (d := d) (row_heap hh2)) (congrArg Value.bool hf)) fun w3 hE3 => (s_not rfl (s_nil ?_)))))
  refine W_if rfl (fun h => by cases h) (fun _ => W_skip ?_)
  have hb := few_bd hf
  have hE13 := hE2.trans hE3
  have hm : MeR w3 m p q := ⟨Ext.sl (hE1.trans hE13) hp, Ext.sl (hE1.trans hE13) hq, by omega, by omega⟩
  have r3 := Ext.row hE13 r1
  refine W_sr rfl (s_lda (xs := meC m p q c d) E rfl rfl r3 rfl (s_call rfl rfl (pack_any hm hf) ?_))
  rintro _ w4 ⟨⟨pa, ca, rfl, _, hsa, _, _⟩, hE4⟩
  refine (s_mv rfl (s_ex rfl rfl (s_ex rfl rfl (s_as rfl (s_as rfl (s_nil ?_))))))
  refine W_sr rfl (s_lda (xs := meC m p q c d) E rfl rfl (Ext.row hE4 r3) rfl (s_call rfl rfl (rpack_any (hm.ext hE4) hf) ?_))
  rintro _ w5 ⟨⟨pb, cb, rfl, hsb⟩, hE5⟩
  refine (s_mv rfl (s_ex rfl rfl (s_ex rfl rfl (s_as rfl (s_as rfl (s_nil ?_))))))
  refine W_n5 1 3 4 5 6 (.pointer (some ⟨gm, 0, none⟩)) (.slice pa (packL m).length ca) (iV (packE m)) (.slice pb (packL m).length cb) (iV (packE m)) rfl rfl rfl rfl rfl fun ρ => ?_
  have hE35 := hE4.trans hE5
  have r5 := Ext.row hE35 r3
  have hm5 := hm.ext hE35
  have hsa5 := Ext.sl hE5 hsa
  obtain ⟨bv, hv⟩ : ∃ b, validM m = b := ⟨_, rfl⟩
  cases bv
  all_goals
    refine W_qr (Ext w5) orders rfl (by kernel_rfl) (Ext.drew0) (q_lda (xs := meC m p q c d) E rfl rfl (fun w' h => Ext.row h r5) rfl (q_callE rfl rfl (fun w' h => Ret.eqv (metric_Valid_c (m := m) (p := p) (q := q) (c := c) (d := d) (hm5.ext h)) (congrArg Value.bool hv)) (q_lda (xs := meC m p q c d) E rfl rfl (fun w' h => Ext.row h r5) rfl (q_callE rfl rfl (fun w' h => Ret.eqv (fleuronref27_Valid_c (m := m) (p := p) (q := q) (c := c) (d := d) (hm5.ext h)) (congrArg Value.bool hv)) (q_eqb (by kernel_rfl) rfl rfl (q_mv rfl (q_g1 rfl (q_mv rfl (q_g1 rfl (q_val (fun w' h => r_str (l := packL m) E rfl rfl (by kernel_rfl) rfl rfl (Ext.sl h hsa5)) (q_g1 rfl (q_mv rfl (q_g1 rfl (q_val (fun w' h => r_str (l := packL m) E rfl rfl (by kernel_rfl) rfl rfl (Ext.sl h hsb)) (q_g1 rfl (q_eqsc rfl rfl (str_of rfl) (q_pk rfl (q_mv rfl (q_g1 rfl (q_mv rfl (q_g1 rfl (q_mv rfl (q_g1 rfl (q_cmp (c := true) rfl rfl (decide_eq_true rfl) (q_pk rfl (q_mv rfl (q_g1 rfl (q_callE rfl rfl (fun w' h => fleuronlaw27_awake_c) (q_pk rfl (q_as rfl (q_nil ?_)))))))))))))))))))))))))))))))
    intro w6 hE6
    exact W_ret ⟨_, rfl, rfl, hE1.trans (hE13.trans (hE35.trans hE6))⟩
end
end Go.Proofs.YthfnijlgmjkedaaGreat
namespace Go.Fx
open Go.RowKit Go.WideShapes Go.ChangeShapes
set_option linter.unusedVariables false
set_option linter.unusedSimpArgs false
section
variable {H : Type} {enc : TypeId × Value → H} {P : Program} {w : World} {base : Nat} {spare : Nat → Bool} {held : Bool}
/-! ## arguments opened down to their cells -/
theorem op_int {t : TypeId} {k : IntKind} {fuel : Nat} {cs : List Value} {x : DataW H × List MemPlace} (ht : P.underlying t = some (.int k)) (h : DataW.trod enc P w base spare held fuel t cs = some x) : ∃ n, cs = [.int k n] ∧ (Lit.int k n).wf = true := by
  obtain ⟨n, h1, _, h2⟩ := DataW.trod_int ht h
  exact ⟨n, h1, h2⟩
/-- a struct's fields: place, type, cells -/
def fieldsOf (P : Program) (t : TypeId) : Option (List (Nat × TypeId × Nat)) := match P.underlying t with
  | some (.struct fs) => some (fs.toList.map fun f => (f.offset, f.type, P.cellsOf f.type))
  | _ => none
theorem op_struct {t : TypeId} {l : List (Nat × TypeId × Nat)} {n : Nat} {fuel : Nat} {cs : List Value} {x : DataW H × List MemPlace} (hf : fieldsOf P t = some l) (hC : P.cellsOf t = n) (h : DataW.trod enc P w base spare held fuel t cs = some x) :
    cs.length = n ∧ ∀ (i o : Nat) (e : TypeId) (s : Nat), l[i]? = some (o, e, s) → ∃ m y, DataW.trod enc P w base spare held m e ((cs.drop o).take s) = some y := by
  unfold fieldsOf at hf
  split at hf
  · next fs ht =>
    obtain ⟨xs, m, _, _, hl, hlen, hg⟩ := DataW.trod_struct ht h
    refine ⟨hl.trans hC, fun i o e s hi => ?_⟩
    cases hf
    rw [List.getElem?_map] at hi
    obtain ⟨f, h1, h2⟩ := Option.map_eq_some_iff.1 hi
    cases h2
    have h3 : fs[i]? = some f := by simpa using h1
    have hi2 : i < xs.length := by
      rw [hlen]; exact (Array.getElem?_eq_some_iff.1 h3).1
    exact ⟨m, xs[i], (hg i f h3).trans (List.getElem?_eq_getElem hi2)⟩
  · cases hf
theorem op_agg {t : TypeId} {l : List (Nat × TypeId × Nat)} {v : Value} {r : Reach} (hf : fieldsOf P t = some l) (h : Value.okWide P w r base t v) : ∃ cs, v = .agg cs := by
  unfold fieldsOf at hf
  split at hf
  · next fs ht =>
    obtain ⟨cs, h1, _⟩ := okWide_struct ht h
    exact ⟨cs, h1⟩
  · cases hf
/-- a struct of four numbers -/
theorem op_int4 {t t0 t1 t2 t3 : TypeId} {fuel : Nat} {cs : List Value} {x : DataW H × List MemPlace} (hf : fieldsOf P t = some [(0, t0, 1), (1, t1, 1), (2, t2, 1), (3, t3, 1)]) (hC : P.cellsOf t = 4)
    (u0 : P.underlying t0 = some (.int .i64)) (u1 : P.underlying t1 = some (.int .i64)) (u2 : P.underlying t2 = some (.int .i64)) (u3 : P.underlying t3 = some (.int .i64))
    (h : DataW.trod enc P w base spare held fuel t cs = some x) : ∃ a b c d, cs = [.int .i64 a, .int .i64 b, .int .i64 c, .int .i64 d] := by
  obtain ⟨hl, hg⟩ := op_struct hf hC h
  match cs, hl with
  | [c0, c1, c2, c3], _ =>
    obtain ⟨_, _, g0⟩ := hg 0 _ _ _ rfl
    obtain ⟨_, _, g1⟩ := hg 1 _ _ _ rfl
    obtain ⟨_, _, g2⟩ := hg 2 _ _ _ rfl
    obtain ⟨_, _, g3⟩ := hg 3 _ _ _ rfl
    obtain ⟨a, ha, _⟩ := op_int u0 (cs := [c0]) g0
    obtain ⟨b, hb, _⟩ := op_int u1 (cs := [c1]) g1
    obtain ⟨c, hc, _⟩ := op_int u2 (cs := [c2]) g2
    obtain ⟨d, hd, _⟩ := op_int u3 (cs := [c3]) g3
    cases ha; cases hb; cases hc; cases hd
    exact ⟨a, b, c, d, rfl⟩
/-- a slice whose elements are opened by 'f' -/
theorem op_slice {α : Type} [Inhabited α] {C : α → List Value} {t e : TypeId} {n : Nat} {fuel : Nat} {cs : List Value} {x : DataW H × List MemPlace} (ht : P.underlying t = some (.slice e)) (hC : P.cellsOf e = n) (hn : ∀ a, (C a).length = n)
    (f : ∀ fuel cs x, DataW.trod enc P w base spare held fuel e cs = some x → ∃ a, cs = C a) (h : DataW.trod enc P w base spare held fuel t cs = some x) :
    ∃ (p : Option Addr) (c : Nat) (l : List α), cs = [.slice p l.length c] ∧ SlR w p (l.flatMap C) ∧ l.length ≤ c ∧ c ≤ maxLen ∧ (p = none → c = 0) := by
  rcases Go.Deep.open_slice ht h with ⟨rfl, _⟩ | ⟨a, len, cap, m, k, D, Pl, rfl, hb, hl, hm, hmm, rfl, hi⟩
  · exact ⟨none, 0, [], rfl, rfl, Nat.le_refl _, Nat.zero_le _, fun _ => rfl⟩
  · have hlm : len ≤ m := by rw [hmm]; split <;> omega
    obtain ⟨g, hg⟩ := Go.Deep.choose_lt (α := α) (n := len) (p := fun i y => ∀ j v, (C y)[j]? = some v → w.cell? (a.add (i * n + j)) = some v) (fun i hil => by
      obtain ⟨cs', h1, h2⟩ := hi i (by omega)
      obtain ⟨y, rfl⟩ := f _ _ _ h2
      rw [hC] at h1
      obtain ⟨_, hcl, hat⟩ := World.cells?_some h1
      refine ⟨y, fun j v hj => ?_⟩
      have hjn : j < n := by rw [← hn y]; exact (List.getElem?_eq_some_iff.1 hj).1
      rw [← Go.Deep.add_add, hat j hjn, hj])
    refine ⟨some a, cap, (List.range len).map g, by simp, ?_, by simpa using hl, hm, fun h => by cases h⟩
    intro i v hv
    have hn0 : 0 < n := by
      have hlt := (List.getElem?_eq_some_iff.1 hv).1
      rw [flat_length C n hn] at hlt
      rcases Nat.eq_zero_or_pos n with h0 | h0
      · rw [h0, Nat.mul_zero] at hlt; omega
      · exact h0
    have hlt := (List.getElem?_eq_some_iff.1 hv).1
    rw [flat_length C n hn, List.length_map, List.length_range] at hlt
    have hq : i / n < len := Nat.div_lt_of_lt_mul (by rw [Nat.mul_comm]; exact hlt)
    have hr : i % n < n := Nat.mod_lt _ hn0
    have hir : i = i / n * n + i % n := by rw [Nat.mul_comm]; exact (Nat.div_add_mod i n).symm
    have hl2 : i / n < ((List.range len).map g).length := by simpa using hq
    have hx : (C (((List.range len).map g)[i / n]))[i % n]? = some ((C (((List.range len).map g)[i / n]))[i % n]'(by rw [hn]; exact hr)) := List.getElem?_eq_getElem _
    have h1 := flat_get C n hn ((List.range len).map g) (i / n) hl2 (i % n) _ hx
    rw [← hir] at h1
    rw [hv] at h1
    have h2 : ((List.range len).map g)[i / n] = g (i / n) := by simp
    rw [hir]
    refine hg (i / n) hq (i % n) v ?_
    rw [← h2, hx]; exact h1.symm
/-! ## the row's end -/
theorem below_of_ext {w w' : World} (h : Ext w w') : Below w.heap.size w w' := h.below
theorem trodAll_stays (hl : laidOutB P = true) {W W' : World} (hb : Below W.heap.size W W') {sp : Nat → Bool} : ∀ {ts : List TypeId} {vs : List Value} {ds : List (DataW H)} {ps : List MemPlace}, (∀ t ∈ ts, P.readableRec t = true ∧ t < P.types.size) →
    DataW.TrodAll enc P W 0 (fun _ => true) true ts vs ds ps → (∀ x ∈ ps, x.block < W.heap.size) → (∀ x ∈ ps, sp x.block = true) → DataW.TrodAll enc P W' 0 sp true ts vs ds ps
  | [], _, _, _, _, h, _, _ => by obtain ⟨rfl, rfl, rfl⟩ := trodAll_nil h; rfl
  | t :: ts, _, _, _, ht, h, hlt, hsp => by
    obtain ⟨v, vs', d, ds', p, q, rfl, rfl, rfl, h1, h2⟩ := trodAll_cons h
    have h3 := trodAll_stays hl hb (fun u hu => ht u (List.mem_cons_of_mem _ hu)) h2 (fun x hx => hlt x (List.mem_append_right _ hx)) (fun x hx => hsp x (List.mem_append_right _ hx))
    have h4 := WideElems.Trod_stays hl (ht t (by simp)).1 (ht t (by simp)).2 h1 (fun x hx => hb.same (hlt x (List.mem_append_left _ hx))) (fun x hx => hsp x (List.mem_append_left _ hx))
    exact ⟨p, q, h4, h3, rfl⟩
theorem post_of_below {f : Func} {s : ChangeSpec} {apart fresh handsOn again : Bool} {W W' : World} {args : Array Value} {v : Value} {ds gs : List (DataW H)} {before pa pv : List MemPlace}
    (hW : DataW.Whole enc P f.params.toList s.vars apart W args.toList ds gs before)
    (hres : ∀ (b : Nat) (sp : Nat → Bool) (hd : Bool), DataW.TrodAll enc P W' b sp hd f.resultTypes.toList (v.resultList f.resultTypes.size) (s.fn H (ds ++ gs)).results [])
    (hargs : ∀ sp : Nat → Bool, (∀ p ∈ before, sp p.block = true) → DataW.TrodAll enc P W' 0 sp true f.params.toList args.toList (s.fn H (ds ++ gs)).args pa)
    (hvars : ∀ sp : Nat → Bool, (∀ p ∈ before, sp p.block = true) → DataW.TrodVars enc P W' sp s.vars (s.fn H (ds ++ gs)).vars pv)
    (hps : before = pa ++ pv) (hb : Below W.heap.size W W')
    (hok : ∀ (j : Nat) (t : TypeId) (r : Value), f.resultTypes[j]? = some t → (v.resultList f.resultTypes.size)[j]? = some r → Value.okWide P W' .any 0 t r) :
    s.post enc P f apart fresh handsOn again W args v W' := by
  have hlt : ∀ p ∈ before, p.block < W.heap.size := fun p hp => hW.lt p hp
  have hold : ∀ p ∈ before, (fun b => decide (b < W.heap.size)) p.block = true := fun p hp => by simpa using hlt p hp
  refine ⟨ds, gs, before, [], pa, pv, hW, hres _ _ _, hargs _ hold, hvars _ hold, World.keptBut_mono (fun p hp => ⟨hp, ?_⟩) (hb.frame (· ∈ before)), fun _ => ?_⟩
  · rw [hps, List.mem_append] at hp
    exact Or.inr hp
  · obtain ⟨_, _, _, _, _, hz, hn⟩ := hW
    refine ⟨hok, _, _, ([] ++ pa) ++ pv, ⟨[] ++ pa, pv, trodAll_append (hargs _ (fun _ _ => rfl)) (hres _ _ _), hvars _ (fun _ _ => rfl), rfl, ?_, ?_⟩, ?_⟩
    · intro b off hp
      have hin : MemPlace.cell b off ∈ before := by rw [hps]; simpa using hp
      rw [hb.frozen (hlt _ hin)]
      exact hz b off hin
    · intro ha
      have := hn ha
      rw [hps] at this
      simpa using this
    · intro p hp _
      rw [hps]
      simpa using hp
/-- the end of a law's row: true, and what came in reads as it did -/
theorem law_post {f : Func} {s : ChangeSpec} {apart fresh handsOn again : Bool} {W W' : World} {args : Array Value} {ds gs : List (DataW H)} {before : List MemPlace} {t : TypeId} (hl : laidOutB P = true)
    (hP : (f.params.toList.all fun u => P.readableRec u && decide (u < P.types.size)) = true) (hr : f.resultTypes = #[t]) (ht : P.underlying t = some .bool) (hsv : s.vars = [])
    (hW : DataW.Whole enc P f.params.toList s.vars apart W args.toList ds gs before) (hfn : s.fn H ds = ⟨[.lit (.bool true)], ds, []⟩) (hb : Below W.heap.size W W') : s.post enc P f apart fresh handsOn again W args (.bool true) W' := by
  have hW' := hW
  obtain ⟨p, q, hA, hV, rfl, hfz, hnd⟩ := hW
  rw [hsv] at hV
  obtain ⟨rfl, rfl⟩ := trodVars_none hV
  have hlt : ∀ x ∈ p, x.block < W.heap.size := fun x hx => hW'.lt x (by simpa using hx)
  have hP' : ∀ u ∈ f.params.toList, P.readableRec u = true ∧ u < P.types.size := fun u hu => by
    have := List.all_eq_true.1 hP u hu
    simpa using this
  refine post_of_below (pa := p) (pv := []) hW' (fun b sp hd => ?_) (fun sp hsp => ?_) (fun sp hsp => ?_) rfl hb (ok_one hr rfl (okWide_bool_mk ht true))
  · rw [List.append_nil, hfn, hr]
    exact trodAll_cons_mk (shut_bool ht _) trodAll_mk0
  · rw [List.append_nil, hfn]
    exact trodAll_stays hl hb hP' hA hlt (fun x hx => hsp x (by simpa using hx))
  · rw [List.append_nil, hfn, hsv]
    rfl
end
end Go.Fx
namespace Go.Proofs.YthfnijlgmjkedaaGreat
set_option maxRecDepth 100000
set_option linter.unusedVariables false
open Go Go.Fx Go.RowKit Go.WideShapes Go.ChangeShapes
instance : Inhabited Ch := ⟨⟨0, 0, 0, 0⟩⟩
instance : Inhabited Ru := ⟨⟨0, 0, 0, 0⟩⟩
/-! ## the arguments of the rows, opened -/
section
variable {H : Type} {enc : TypeId × Value → H} {w : World} {base : Nat} {spare : Nat → Bool} {held : Bool}
theorem op_ch (fuel : Nat) (cs : List Value) (x : DataW H × List MemPlace) (h : DataW.trod enc Go.Proofs.Tryz.prog w base spare held fuel 50 cs = some x) : ∃ a, cs = chC a := by
  obtain ⟨a, b, c, d, rfl⟩ := op_int4 (t0 := 3) (t1 := 3) (t2 := 3) (t3 := 3) (by kernel_rfl) (by kernel_rfl) (by kernel_rfl) (by kernel_rfl) (by kernel_rfl) (by kernel_rfl) h
  exact ⟨⟨a, b, c, d⟩, rfl⟩
theorem op_ru (fuel : Nat) (cs : List Value) (x : DataW H × List MemPlace) (h : DataW.trod enc Go.Proofs.Tryz.prog w base spare held fuel 45 cs = some x) : ∃ a, cs = ruC a := by
  obtain ⟨a, b, c, d, rfl⟩ := op_int4 (t0 := 3) (t1 := 3) (t2 := 43) (t3 := 3) (by kernel_rfl) (by kernel_rfl) (by kernel_rfl) (by kernel_rfl) (by kernel_rfl) (by kernel_rfl) h
  exact ⟨⟨a, b, c, d⟩, rfl⟩
theorem op_me (fuel : Nat) (cs : List Value) (x : DataW H × List MemPlace) (h : DataW.trod enc Go.Proofs.Tryz.prog w base spare held fuel 25 cs = some x) :
    ∃ m p q c d, cs = meC m p q c d ∧ SlR w p (m.chars.flatMap chC) ∧ SlR w q (m.rules.flatMap ruC) ∧ m.chars.length ≤ maxLen ∧ m.rules.length ≤ maxLen := by
  obtain ⟨hl, hg⟩ := op_struct (l := [(0, 3, 1), (1, 22, 1), (2, 23, 1)]) (n := 3) (by kernel_rfl) (by kernel_rfl) h
  match cs, hl with
  | [c0, c1, c2], _ =>
    obtain ⟨_, _, g0⟩ := hg 0 _ _ _ rfl
    obtain ⟨_, _, g1⟩ := hg 1 _ _ _ rfl
    obtain ⟨_, _, g2⟩ := hg 2 _ _ _ rfl
    obtain ⟨a, ha, _⟩ := op_int (t := 3) (k := .i64) (by kernel_rfl) (cs := [c0]) g0
    obtain ⟨p, c, l1, hb, h1, h2, h3, _⟩ := op_slice (t := 22) (e := 50) (n := 4) (by kernel_rfl) (by kernel_rfl) chC_len op_ch (cs := [c1]) g1
    obtain ⟨q, d, l2, hc, k1, k2, k3, _⟩ := op_slice (t := 23) (e := 45) (n := 4) (by kernel_rfl) (by kernel_rfl) ruC_len op_ru (cs := [c2]) g2
    cases ha; cases hb; cases hc
    exact ⟨⟨a, l1, l2⟩, p, q, c, d, rfl, h1, k1, Nat.le_trans h2 h3, Nat.le_trans k2 k3⟩
theorem op_meV {v : Value} {d : DataW H} {ps : List MemPlace} {base2 : Nat} (hv : Value.okWide Go.Proofs.Tryz.prog w .any base2 25 v) (h : DataW.Trod enc Go.Proofs.Tryz.prog w base spare held 25 v d ps) :
    ∃ m p q c d, v = meV m p q c d ∧ SlR w p (m.chars.flatMap chC) ∧ SlR w q (m.rules.flatMap ruC) ∧ m.chars.length ≤ maxLen ∧ m.rules.length ≤ maxLen := by
  obtain ⟨fuel, h⟩ := h
  obtain ⟨cs, rfl⟩ := op_agg (l := [(0, 3, 1), (1, 22, 1), (2, 23, 1)]) (by kernel_rfl) hv
  obtain ⟨m, p, q, c, d, h1, h2⟩ := op_me _ _ _ h
  refine ⟨m, p, q, c, d, ?_, h2⟩
  have h3 : cs.toList = meC m p q c d := h1
  show Value.agg cs = .agg (meC m p q c d).toArray
  rw [← h3]
end
end Go.Proofs.YthfnijlgmjkedaaGreat
namespace Go.Proofs.YthfnijlgmjkedaaGreat.cFiles
open Go Go.Fx Go.ChangeShapes Go.WideShapes Go.ChangeAt Go.RowKit
set_option linter.unusedVariables false
theorem own : ownKnob Go.Proofs.Tryz.prog.godebug = none := by kernel_rfl
set_option maxRecDepth 100000 in
theorem lifted (os : Os) (started : os.Started) (H : Type) (enc : TypeId × Value → H) :
    ReturnsInHanded {} Go.Proofs.Tryz.checked os 3 .any (Rows.metricFilesSpec.pre6 enc Go.Proofs.Tryz.prog Go.Proofs.Tryz.f3 Rows.metricFilesRow.domain false) (Rows.metricFilesSpec.post enc Go.Proofs.Tryz.prog Go.Proofs.Tryz.f3 false true false false) := by
  refine returnsInHanded_of_change (C := Go.Proofs.Tryz.checked) own started (by kernel_rfl) Go.Proofs.Tryz.func3
    (ChangeSpec.witness6 (enc := enc) (C := Go.Proofs.Tryz.checked) false ⟨#[], #[.agg #[.int .i64 0, .slice none 0 0, .slice none 0 0]], []⟩ 8 (by kernel_rfl) (by kernel_rfl) (by kernel_rfl) (by kernel_rfl)) ?_
  intro W base args ds gs before hval0 hW hcnd _
  have hval : ∀ (j : Nat) t v, Go.Proofs.Tryz.f3.params[j]? = some t → args[j]? = some v → Value.okWide Go.Proofs.Tryz.prog W .any base t v := hval0
  have hW' := hW
  obtain ⟨p, q, hA0, hV, rfl, hfz, hnd⟩ := hW
  have hA : DataW.TrodAll enc Go.Proofs.Tryz.prog W 0 (fun _ => true) true Go.Proofs.Tryz.f3.params.toList args.toList ds p := hA0
  rw [Go.Proofs.Tryz.params3] at hA hval
  obtain ⟨v0, vs0, d0, ds0, p0, q0, hargs, rfl, rfl, h0, r0⟩ := trodAll_cons hA
  obtain ⟨rfl, rfl, rfl⟩ := trodAll_nil r0
  obtain rfl : args = #[v0] := by cases args; simp_all
  obtain ⟨rfl, rfl⟩ := trodVars_none hV
  obtain ⟨m, a, b, c, d, rfl, hp, hq, _, _⟩ := op_meV (hval 0 _ v0 rfl rfl) h0
  clear hA0 hval0
  refine (MetricFiles_c (w := W) hp hq).2.mono fun e W' ⟨v, he, hv, hE⟩ => ?_
  subst hv
  exact ⟨_, he, law_post (by kernel_rfl) (by kernel_rfl) (by kernel_rfl) Go.Proofs.Tryz.underlying4 rfl hW' rfl hE.below⟩
set_option maxRecDepth 100000 in
theorem over : Rows.metricFilesRow.holds Tryz.pinned (OpenSpec.ofChange Rows.metricFilesSpec) :=
  OpenClaim.holds_of_wide 3 Go.Proofs.Tryz.f3 rfl rfl rfl rfl rfl rfl rfl ⟨rfl, rfl, rfl, rfl, rfl⟩ rfl rfl rfl rfl rfl (by kernel_rfl) Go.Proofs.Tryz.func3 (by kernel_rfl)
    (of_decide_eq_true (by kernel_rfl)) (by unfold Func.isWrapper; first | (rw [if_pos (by decide +kernel)]; kernel_rfl) | (rw [if_neg (by decide +kernel)]; exact ⟨rfl, rfl⟩))
    (fun os started H enc _ => lifted os started H enc)
theorem proved : Rows.MetricFilesSaid :=
  over
end Go.Proofs.YthfnijlgmjkedaaGreat.cFiles

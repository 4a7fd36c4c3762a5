/- fleuronlaw27.MetricFiles returns true for every metric, and the metric reads behind the call as it read before; conditions: none beside the given row's own. Part 8 of 9 of the proof. -/
import Derived.Test.YthfnijlgmjkedaaGreatJCFiles7
import Derived.Test.YthfnijlgmjkedaaGreatJCFiles6
namespace Go.Proofs.YthfnijlgmjkedaaGreat
set_option maxRecDepth 100000
set_option maxHeartbeats 4000000
set_option linter.unusedVariables false
set_option linter.unusedSimpArgs false
open Go Go.Fx Go.Proofs.YthfnijlgmjkedaaGreat.Tab
theorem wb_byt : byt wb := by intro x hx; simp [wb] at hx; omega
theorem wb0_byt : byt (wb ++ [0]) := by intro x hx; simp [wb] at hx; omega
theorem MeR.triv {w : World} {p q : Option Addr} : (∀ w', MeR w wm p q → MeR w' wm p q) := fun w' h => ⟨by cases p with | none => rfl | some a => exact Row.nil _ _, by cases q with | none => rfl | some a => exact Row.nil _ _, by decide, by decide⟩
theorem str_of {l : List Int} {b : ByteArray} (h : strOfNums l = b) : ((strOfNums l).toList == b.toList) = true := by rw [h]; exact beq_self_eq_true _
section
variable {w : World}
theorem fleuronlaw27_awake_c : Ret Go.Proofs.Tryz.prog 10 #[] w fun v w' => v = .bool true ∧ Ext w w' := by
  refine enter Go.Proofs.Tryz.func10 rfl rfl rfl ?_
  refine W_sr rfl (s_as rfl (s_nil ?_))
  refine W_sr rfl (s_bld rfl (cells := #[iV 65536, .slice none 0 0, .slice none 0 0]) (by kernel_rfl) (s_call rfl rfl (metric_Pack_c (m := wm) (p := none) (q := none) (c := 0) (d := 0) ⟨rfl, rfl, by decide, by decide⟩ (by decide) (by decide)) ?_))
  rintro v1 w1 ⟨h1, hE1⟩
  rw [if_pos valid_wm, pack_wm] at h1
  obtain ⟨pb, cb, rfl, hcb, hsb, hob, hfb⟩ := h1
  refine (s_mv rfl (s_ex rfl rfl (s_ex rfl rfl (s_as rfl (s_as rfl (s_nil ?_))))))
  have hE0 := hE1
  have hbb : ∀ k, (Value.slice pb wb.length cb).ownBlock = some k → k < w1.heap.size := by
    intro k hk
    rcases hob with h | ⟨_, a, ha, h⟩
    · exact Own.lt h hk
    · rw [ha] at hk; cases hk
      exact World.block_lt_of_cell? w1 a (Row.get0 (x := bV 70) h)
  refine W_n2 1 2 (.slice pb wb.length cb) (iV 0) rfl rfl fun ρ => ?_
  refine W_sr rfl (s_mv rfl (s_call rfl rfl (metric_Open_c (b := wb) rfl (by decide) wb_byt hcb hsb) ?_))
  rintro v2 w2 ⟨h2, hE2⟩
  rw [read_wb, open_wb] at h2
  obtain ⟨pm, qm, cm, dm, rfl, hm⟩ := h2
  refine (s_mv rfl (s_ex rfl rfl (s_ex rfl rfl (s_alst E rfl rfl rfl rfl rfl fun w3 hE3 hs3 hh3 => (s_as rfl (s_nil ?_))))))
  obtain ⟨g3, hg3⟩ : ∃ g, g = w2.heap.size := ⟨_, rfl⟩
  have r3 : Row w3 ⟨g3, 0, none⟩ (meC wm pm qm cm dm) := by rw [hg3]; exact row_heap hh3
  have hEx := hE2.trans hE3
  have hsb := Ext.sl hEx hsb
  have hob := OwnF.mod hEx hob (fun _ _ h => h)
  have hE0 := hE0.trans hEx
  have b3 : w1.heap.size ≤ g3 := by rw [hg3]; exact hE2.size
  refine W_n4 1 2 3 4 (.slice pb wb.length cb) (iV 0) (.pointer (some ⟨g3, 0, none⟩)) (iV 0) rfl rfl (by rw [hg3]; rfl) rfl fun ρ => ?_
  refine W_sr rfl (s_bld rfl (cells := (chC ⟨1, 5, -3, 1⟩).toArray) (by kernel_rfl) (s_bsA E rfl rfl rfl rfl rfl (cells := (chC ⟨1, 5, -3, 1⟩).toArray) (by kernel_rfl) fun w4 hE4 hh4 hs4 => (s_bld rfl (cells := (ruC ⟨1, 1, 0, -4⟩).toArray) (by kernel_rfl) (s_bsA E rfl rfl rfl rfl rfl (cells := (ruC ⟨1, 1, 0, -4⟩).toArray) (by kernel_rfl) fun w5 hE5 hh5 hs5 => (s_bld rfl (cells := #[iV 10, .slice (some ⟨w3.heap.size, 0, none⟩) 1 1, .slice (some ⟨w4.heap.size, 0, none⟩) 1 1]) (by kernel_rfl) (s_alst E rfl rfl rfl rfl rfl fun w6 hE6 hs6 hh6 => (s_nil ?_)))))))
  obtain ⟨g5, hg5⟩ : ∃ g, g = w5.heap.size := ⟨_, rfl⟩
  have r5 : Row w6 ⟨g5, 0, none⟩ (meC wx (some ⟨w3.heap.size, 0, none⟩) (some ⟨w4.heap.size, 0, none⟩) 1 1) := by rw [hg5]; exact row_heap hh6
  have hx : MeR w6 wx (some ⟨w3.heap.size, 0, none⟩) (some ⟨w4.heap.size, 0, none⟩) := ⟨by have := row_heap (Ext.heap (hE5.trans hE6) hh4); exact this, by have := row_heap (Ext.heap hE6 hh5); exact this, by decide, by decide⟩
  have hEx := hE4.trans (hE5.trans hE6)
  have bx : w1.heap.size ≤ w3.heap.size ∧ w3.heap.size < w4.heap.size ∧ w4.heap.size < w5.heap.size := by have := hEx.size; have := hE2.size; have := hE3.size; omega
  obtain ⟨xp, hxp⟩ : ∃ a : Addr, a = ⟨w3.heap.size, 0, none⟩ := ⟨_, rfl⟩
  obtain ⟨xq, hxq⟩ : ∃ a : Addr, a = ⟨w4.heap.size, 0, none⟩ := ⟨_, rfl⟩
  rw [← hxp, ← hxq] at hx r5
  have r3 := Ext.row hEx r3
  have hsb := Ext.sl hEx hsb
  have hob := OwnF.mod hEx hob (fun _ _ h => h)
  have hE0 := hE0.trans hEx
  refine W_n5 1 2 3 4 5 (.slice pb wb.length cb) (iV 0) (.pointer (some ⟨g3, 0, none⟩)) (iV 0) (.pointer (some ⟨g5, 0, none⟩)) rfl rfl rfl rfl (by rw [hg5]; rfl) fun ρ => ?_
  refine W_sr rfl (s_lda (xs := meC wx (some xp) (some xq) 1 1) E rfl rfl r5 rfl (s_call rfl rfl (metric_Scale_c (m := wx) (size := 5) (p := some xp) (q := some xq) (c := 1) (d := 1) hx) ?_))
  rintro v7 w7 ⟨h7, hf7, hE7⟩
  rw [scale_wx.1, scale_wx.2] at h7
  obtain ⟨ps, qs, cs, ds, rfl, hs⟩ := h7
  have hf7 := hf7.get
  refine (s_mv rfl (s_ex rfl rfl (s_ex rfl rfl (s_alst E rfl rfl rfl rfl rfl fun w8 hE8 hs8 hh8 => (s_as rfl (s_nil ?_))))))
  obtain ⟨g6, hg6⟩ : ∃ g, g = w7.heap.size := ⟨_, rfl⟩
  obtain ⟨sm, hsm⟩ : ∃ s : Me, s = ⟨5, [⟨1, 3, -1, 1⟩], [⟨1, 1, 0, -2⟩]⟩ := ⟨_, rfl⟩
  have hs : MeR w7 sm ps qs := by rw [hsm]; exact hs
  have r6 : Row w8 ⟨g6, 0, none⟩ (meC sm ps qs cs ds) := by rw [hg6, hsm]; exact row_heap hh8
  have hEx := hE7.trans hE8
  have b6 : w1.heap.size ≤ g6 := by rw [hg6]; have := hE2.size; have := hE3.size; have := hE4.size; have := hE5.size; have := hE6.size; have := hE7.size; omega
  have fs : (∀ a, ps = some a → w1.heap.size ≤ a.block) ∧ ∀ a, qs = some a → w1.heap.size ≤ a.block := by
    have := hE2.size; have := hE3.size; have := hE4.size; have := hE5.size; have := hE6.size
    exact ⟨fun a ha => by have := hf7.1 a ha; omega, fun a ha => by have := hf7.2 a ha; omega⟩
  have hs := hs.ext hE8
  have r3 := Ext.row hEx r3
  have r5 := Ext.row hEx r5
  have hx := MeR.ext hx hEx
  have hsb := Ext.sl hEx hsb
  have hob := OwnF.mod hEx hob (fun _ _ h => h)
  have hE0 := hE0.trans hEx
  refine W_n7 1 2 3 4 5 6 7 (.slice pb wb.length cb) (iV 0) (.pointer (some ⟨g3, 0, none⟩)) (iV 0) (.pointer (some ⟨g5, 0, none⟩)) (.pointer (some ⟨g6, 0, none⟩)) (iV 0) rfl rfl rfl rfl rfl (by rw [hg6]; rfl) rfl fun ρ => ?_
  have sz1 : w1.heap.size ≤ w8.heap.size := by have := hE2.size; have := hE3.size; have := hE4.size; have := hE5.size; have := hE6.size; have := hEx.size; omega
  have hcall := metric_Find_c (m := wx) (code := 1) (p := some xp) (q := some xq) (c := 1) (d := 1) hx
  rw [find_wx.1] at hcall
  refine W_sr rfl (s_lda (xs := meC wx (some xp) (some xq) 1 1) E rfl rfl r5 rfl (s_callx rfl rfl hcall fun w9 hEw9 => (s_mv rfl (s_ex rfl rfl (s_ex rfl rfl (s_alst E rfl rfl rfl rfl rfl fun w10 hEw10 hsw10 hhw10 => (s_as rfl (s_nil ?_))))))))
  obtain ⟨g8, hg8⟩ : ∃ g, g = w9.heap.size := ⟨_, rfl⟩
  have r8 : Row w10 ⟨g8, 0, none⟩ (chC ⟨1, 5, -3, 1⟩) := by rw [hg8]; exact row_heap hhw10
  have hEx := hEw9.trans hEw10
  have bg8 : w1.heap.size ≤ g8 := by rw [hg8]; have := sz1; have := hEw9.size; omega
  have sz1 : w1.heap.size ≤ w10.heap.size := by have := sz1; have := hEx.size; omega
  have r3 := Ext.row hEx r3
  have r5 := Ext.row hEx r5
  have hx := MeR.ext hx hEx
  have r6 := Ext.row hEx r6
  have hs := MeR.ext hs hEx
  have hsb := Ext.sl hEx hsb
  have hob := OwnF.mod hEx hob (fun _ _ h => h)
  have hE0 := hE0.trans hEx
  refine W_n9 1 2 3 4 5 6 7 8 9 (.slice pb wb.length cb) (iV 0) (.pointer (some ⟨g3, 0, none⟩)) (iV 0) (.pointer (some ⟨g5, 0, none⟩)) (.pointer (some ⟨g6, 0, none⟩)) (iV 0) (.pointer (some ⟨g8, 0, none⟩)) (iV 0) rfl rfl rfl rfl rfl rfl rfl (by rw [hg8]; rfl) rfl fun ρ => ?_
  have hcall := metric_Find_c (m := wx) (code := 2) (p := some xp) (q := some xq) (c := 1) (d := 1) hx
  rw [find_wx.2.1] at hcall
  refine W_sr rfl (s_lda (xs := meC wx (some xp) (some xq) 1 1) E rfl rfl r5 rfl (s_callx rfl rfl hcall fun w11 hEw11 => (s_mv rfl (s_ex rfl rfl (s_ex rfl rfl (s_alst E rfl rfl rfl rfl rfl fun w12 hEw12 hsw12 hhw12 => (s_as rfl (s_nil ?_))))))))
  have hEx := hEw11.trans hEw12
  have sz1 : w1.heap.size ≤ w12.heap.size := by have := sz1; have := hEx.size; omega
  have r3 := Ext.row hEx r3
  have r5 := Ext.row hEx r5
  have hx := MeR.ext hx hEx
  have r6 := Ext.row hEx r6
  have hs := MeR.ext hs hEx
  have hsb := Ext.sl hEx hsb
  have hob := OwnF.mod hEx hob (fun _ _ h => h)
  have r8 := Ext.row hEx r8
  have hE0 := hE0.trans hEx
  refine W_n10 1 2 3 4 5 6 7 8 9 11 (.slice pb wb.length cb) (iV 0) (.pointer (some ⟨g3, 0, none⟩)) (iV 0) (.pointer (some ⟨g5, 0, none⟩)) (.pointer (some ⟨g6, 0, none⟩)) (iV 0) (.pointer (some ⟨g8, 0, none⟩)) (iV 0) (iV 4) rfl rfl rfl rfl rfl rfl rfl rfl rfl rfl fun ρ => ?_
  have hcall := metric_Rule_c (m := wx) (first := 1) (next := 1) (p := some xp) (q := some xq) (c := 1) (d := 1) hx
  rw [find_wx.2.2.1] at hcall
  refine W_sr rfl (s_lda (xs := meC wx (some xp) (some xq) 1 1) E rfl rfl r5 rfl (s_callx rfl rfl hcall fun w13 hEw13 => (s_mv rfl (s_ex rfl rfl (s_ex rfl rfl (s_alst E rfl rfl rfl rfl rfl fun w14 hEw14 hsw14 hhw14 => (s_as rfl (s_nil ?_))))))))
  obtain ⟨g12, hg12⟩ : ∃ g, g = w13.heap.size := ⟨_, rfl⟩
  have r12 : Row w14 ⟨g12, 0, none⟩ (ruC ⟨1, 1, 0, -4⟩) := by rw [hg12]; exact row_heap hhw14
  have hEx := hEw13.trans hEw14
  have bg12 : w1.heap.size ≤ g12 := by rw [hg12]; have := sz1; have := hEw13.size; omega
  have sz1 : w1.heap.size ≤ w14.heap.size := by have := sz1; have := hEx.size; omega
  have r3 := Ext.row hEx r3
  have r5 := Ext.row hEx r5
  have hx := MeR.ext hx hEx
  have r6 := Ext.row hEx r6
  have hs := MeR.ext hs hEx
  have hsb := Ext.sl hEx hsb
  have hob := OwnF.mod hEx hob (fun _ _ h => h)
  have r8 := Ext.row hEx r8
  have hE0 := hE0.trans hEx
  refine W_n12 1 2 3 4 5 6 7 8 9 11 12 13 (.slice pb wb.length cb) (iV 0) (.pointer (some ⟨g3, 0, none⟩)) (iV 0) (.pointer (some ⟨g5, 0, none⟩)) (.pointer (some ⟨g6, 0, none⟩)) (iV 0) (.pointer (some ⟨g8, 0, none⟩)) (iV 0) (iV 4) (.pointer (some ⟨g12, 0, none⟩)) (iV 0) rfl rfl rfl rfl rfl rfl rfl rfl rfl rfl (by rw [hg12]; rfl) rfl fun ρ => ?_
  refine W_sr rfl (s_lda (xs := meC wx (some xp) (some xq) 1 1) E rfl rfl r5 rfl (s_bsA E rfl rfl rfl rfl rfl (cells := #[iV 1, iV 1]) (by kernel_rfl) fun w15 hE15 hh15 hs15 => (s_callx rfl rfl (Ret.eqv (metric_Box_c (m := wx) (codes := [1, 1]) (MeR.ext hx hE15) rfl (by decide) (by have := row_heap hh15; exact this)) (by rw [find_wx.2.2.2])) fun w16 hE16 => (s_mv rfl (s_ex rfl rfl (s_ex rfl rfl (s_alst E rfl rfl rfl rfl rfl fun w17 hE17 hs17 hh17 => (s_as rfl (s_nil ?_)))))))))
  obtain ⟨g14, hg14⟩ : ∃ g, g = w16.heap.size := ⟨_, rfl⟩
  have r14 : Row w17 ⟨g14, 0, none⟩ (bxC (10, -3, 1)) := by rw [hg14]; exact row_heap hh17
  have hEx := hE15.trans (hE16.trans hE17)
  have bg14 : w1.heap.size ≤ g14 := by rw [hg14]; have := sz1; have := hE15.size; have := hE16.size; omega
  have sz1 : w1.heap.size ≤ w17.heap.size := by have := sz1; have := hEx.size; omega
  have r3 := Ext.row hEx r3
  have r5 := Ext.row hEx r5
  have hx := MeR.ext hx hEx
  have r6 := Ext.row hEx r6
  have hs := MeR.ext hs hEx
  have hsb := Ext.sl hEx hsb
  have hob := OwnF.mod hEx hob (fun _ _ h => h)
  have r8 := Ext.row hEx r8
  have r12 := Ext.row hEx r12
  have hE0 := hE0.trans hEx
  refine W_n14 1 2 3 4 5 6 7 8 9 11 12 13 14 15 (.slice pb wb.length cb) (iV 0) (.pointer (some ⟨g3, 0, none⟩)) (iV 0) (.pointer (some ⟨g5, 0, none⟩)) (.pointer (some ⟨g6, 0, none⟩)) (iV 0) (.pointer (some ⟨g8, 0, none⟩)) (iV 0) (iV 4) (.pointer (some ⟨g12, 0, none⟩)) (iV 0) (.pointer (some ⟨g14, 0, none⟩)) (iV 0) rfl rfl rfl rfl rfl rfl rfl rfl rfl rfl rfl rfl (by rw [hg14]; rfl) rfl fun ρ => ?_
  refine W_sr rfl (s_lda (xs := meC wx (some xp) (some xq) 1 1) E rfl rfl r5 rfl (s_lda (xs := meC wx (some xp) (some xq) 1 1) E rfl rfl r5 rfl (s_call rfl rfl (metric_Merge_c (a := wx) (b := wx) (p := some xp) (q := some xq) (p' := some xp) (q' := some xq) (c := 1) (d := 1) (c' := 1) (d' := 1) hx hx (by decide) (by decide) (by simp)) ?_)))
  rintro v18 w18 ⟨h18, hE18⟩
  rw [if_pos (by rw [valid_wx]; rfl), if_pos rfl] at h18
  obtain ⟨me, hme, h18⟩ := h18
  rw [merge_wx hme] at h18
  obtain ⟨pg, qg, cg, dg, rfl, _⟩ := h18
  refine (s_mv rfl (s_ex rfl rfl (s_ex rfl rfl (s_alst E rfl rfl rfl rfl rfl fun w19 hE19 hs19 hh19 => (s_as rfl (s_nil ?_))))))
  have hEx := hE18.trans hE19
  have sz1 : w1.heap.size ≤ w19.heap.size := by have := sz1; have := hEx.size; omega
  have r3 := Ext.row hEx r3
  have r5 := Ext.row hEx r5
  have hx := MeR.ext hx hEx
  have r6 := Ext.row hEx r6
  have hs := MeR.ext hs hEx
  have hsb := Ext.sl hEx hsb
  have hob := OwnF.mod hEx hob (fun _ _ h => h)
  have r8 := Ext.row hEx r8
  have r12 := Ext.row hEx r12
  have r14 := Ext.row hEx r14
  have hE0 := hE0.trans hEx
  refine W_n15 1 2 3 4 5 6 7 8 9 11 12 13 14 15 17 (.slice pb wb.length cb) (iV 0) (.pointer (some ⟨g3, 0, none⟩)) (iV 0) (.pointer (some ⟨g5, 0, none⟩)) (.pointer (some ⟨g6, 0, none⟩)) (iV 0) (.pointer (some ⟨g8, 0, none⟩)) (iV 0) (iV 4) (.pointer (some ⟨g12, 0, none⟩)) (iV 0) (.pointer (some ⟨g14, 0, none⟩)) (iV 0) (iV 14) rfl rfl rfl rfl rfl rfl rfl rfl rfl rfl rfl rfl rfl rfl rfl fun ρ => ?_
  refine W_sr rfl (s_bld rfl (cells := (glC ⟨⟨2, 0, 0, 0⟩, none, 0, 0⟩).toArray) (by kernel_rfl) (s_bld rfl (cells := (glC ⟨⟨1, 0, 0, 0⟩, none, 0, 0⟩).toArray) (by kernel_rfl) (s_bsA E rfl rfl rfl rfl rfl (cells := (glC ⟨⟨2, 0, 0, 0⟩, none, 0, 0⟩ ++ glC ⟨⟨1, 0, 0, 0⟩, none, 0, 0⟩).toArray) (by kernel_rfl) fun w20 hE20 hh20 hs20 => (s_call rfl rfl (metric_Of_c (size := 10) (gs := [⟨⟨2, 0, 0, 0⟩, none, 0, 0⟩, ⟨⟨1, 0, 0, 0⟩, none, 0, 0⟩]) (k := []) (q := none) rfl rfl (by decide) (by decide) (by have := row_heap hh20; exact this) rfl) ?_))))
  rintro v21 w21 ⟨⟨mo, hmo, h21, hf21⟩, hE21⟩
  obtain ⟨hmo1, hmo2⟩ := of_w hmo
  rw [hmo2] at h21
  obtain ⟨pn, qn, cn, dn, rfl, hn⟩ := h21
  have hf21 := hf21.get
  refine (s_mv rfl (s_ex rfl rfl (s_ex rfl rfl (s_alst E rfl rfl rfl rfl rfl fun w22 hE22 hs22 hh22 => (s_as rfl (s_nil ?_))))))
  obtain ⟨g18, hg18⟩ : ∃ g, g = w21.heap.size := ⟨_, rfl⟩
  have hn : MeR w21 mo pn qn := hn
  have r18 : Row w22 ⟨g18, 0, none⟩ (meC mo pn qn cn dn) := by rw [hg18]; exact row_heap hh22
  have hEx := hE20.trans (hE21.trans hE22)
  have bg18 : w1.heap.size ≤ g18 := by rw [hg18]; have := sz1; have := hE20.size; have := hE21.size; omega
  have fn : (∀ a, pn = some a → w1.heap.size ≤ a.block) ∧ ∀ a, qn = some a → w1.heap.size ≤ a.block := by
    have := sz1; have := hE20.size
    exact ⟨fun a ha => by have := hf21.1 a ha; omega, fun a ha => by have := hf21.2 a ha; omega⟩
  have sz1 : w1.heap.size ≤ w22.heap.size := by have := sz1; have := hEx.size; omega
  have hn := hn.ext hE22
  have r3 := Ext.row hEx r3
  have r5 := Ext.row hEx r5
  have hx := MeR.ext hx hEx
  have r6 := Ext.row hEx r6
  have hs := MeR.ext hs hEx
  have hsb := Ext.sl hEx hsb
  have hob := OwnF.mod hEx hob (fun _ _ h => h)
  have r8 := Ext.row hEx r8
  have r12 := Ext.row hEx r12
  have r14 := Ext.row hEx r14
  have hE0 := hE0.trans hEx
  refine W_n17 1 2 3 4 5 6 7 8 9 11 12 13 14 15 17 18 19 (.slice pb wb.length cb) (iV 0) (.pointer (some ⟨g3, 0, none⟩)) (iV 0) (.pointer (some ⟨g5, 0, none⟩)) (.pointer (some ⟨g6, 0, none⟩)) (iV 0) (.pointer (some ⟨g8, 0, none⟩)) (iV 0) (iV 4) (.pointer (some ⟨g12, 0, none⟩)) (iV 0) (.pointer (some ⟨g14, 0, none⟩)) (iV 0) (iV 14) (.pointer (some ⟨g18, 0, none⟩)) (iV 0) rfl rfl rfl rfl rfl rfl rfl rfl rfl rfl rfl rfl rfl rfl rfl (by rw [hg18]; rfl) rfl fun ρ => ?_
  refine W_sr rfl (s_mv rfl (s_bsA E rfl rfl rfl rfl rfl (cells := #[bV 0]) (by kernel_rfl) fun w23 hE23 hh23 hs23 => (s_apK E rfl rfl rfl rfl (OwnF.mod hE23 hob (fun _ _ h => h)) rfl rfl (row_heap hh23) rfl rfl rfl (by decide) fun v24 w24 ho24 hM24 hs24 => ?_)))
  obtain ⟨pa, ca, rfl, hpa, hca, _⟩ := ho24.form
  refine (s_call rfl rfl (metric_Open_c (b := wb ++ [0]) rfl (by decide) wb0_byt hca (by have := hpa; exact this)) ?_)
  rintro v25 w25 ⟨h25, hE25⟩
  rw [read_wb0, open_wb0] at h25
  obtain ⟨pz, qz, cz, dz, rfl, _⟩ := h25
  refine (s_mv rfl (s_ex rfl rfl (s_ex rfl rfl (s_alst E rfl rfl rfl rfl rfl fun w26 hE26 hs26 hh26 => (s_as rfl (s_nil ?_))))))
  have hEz := hE25.trans hE26
  have hlow : ∀ {a : Addr}, w1.heap.size ≤ a.block → ¬ (Value.slice pb wb.length cb).ownBlock = some a.block := fun h h2 => by have := hbb _ h2; omega
  have rowB : ∀ {a : Addr} {xs : List Value}, w1.heap.size ≤ a.block → Row w22 a xs → Row w26 a xs := fun h hr => Ext.row hEz (hM24.row (Ext.row hE23 hr) (hlow h))
  have slB : ∀ {p : Option Addr} {xs : List Value}, (∀ a, p = some a → w1.heap.size ≤ a.block) → SlR w22 p xs → SlR w26 p xs := fun {p xs} h hr => by
    cases p with
    | none => exact hr
    | some a => exact rowB (h a rfl) hr
  have r3 := rowB (a := ⟨g3, 0, none⟩) b3 r3
  have r5 := rowB (a := ⟨g5, 0, none⟩) (by show w1.heap.size ≤ g5; omega) r5
  have r6 := rowB (a := ⟨g6, 0, none⟩) b6 r6
  have r8 := rowB (a := ⟨g8, 0, none⟩) bg8 r8
  have r12 := rowB (a := ⟨g12, 0, none⟩) bg12 r12
  have r14 := rowB (a := ⟨g14, 0, none⟩) bg14 r14
  have r18 := rowB (a := ⟨g18, 0, none⟩) bg18 r18
  have hx : MeR w26 wx (some xp) (some xq) := ⟨slB (fun a ha => by cases ha; rw [hxp]; exact bx.1) hx.ch, slB (fun a ha => by cases ha; rw [hxq]; show w1.heap.size ≤ w4.heap.size; omega) hx.ru, hx.nch, hx.nru⟩
  have hs : MeR w26 sm ps qs := ⟨slB fs.1 hs.ch, slB fs.2 hs.ru, hs.nch, hs.nru⟩
  have hn : MeR w26 mo pn qn := ⟨slB fn.1 hn.ch, slB fn.2 hn.ru, hn.nch, hn.nru⟩
  have hm26 : MeR w26 wm pm qm := MeR.triv w26 hm
  have hsb : SlR w26 pb (wb.map bV) := Ext.sl hEz hs24
  have hE26 : Ext w w26 := (Ext.thenMod (hE0.trans hE23) hM24 (fun k hk h => by have := hfb k h; omega)).trans hEz
  have hc8 : 8 ≤ cb := by have : wb.length = 22 := rfl; omega
  have hs8 : SlR w26 (slP pb 0 cb 1) ((wb.take 8).map (Value.int .u8)) := SlR.part (l := 0) (h := 8) (m := cb) (s := 1) hsb (by decide) hc8 (by decide)
  refine W_n18 1 2 3 4 5 6 7 8 9 11 12 13 14 15 17 18 19 21 (.slice pb wb.length cb) (iV 0) (.pointer (some ⟨g3, 0, none⟩)) (iV 0) (.pointer (some ⟨g5, 0, none⟩)) (.pointer (some ⟨g6, 0, none⟩)) (iV 0) (.pointer (some ⟨g8, 0, none⟩)) (iV 0) (iV 4) (.pointer (some ⟨g12, 0, none⟩)) (iV 0) (.pointer (some ⟨g14, 0, none⟩)) (iV 0) (iV 14) (.pointer (some ⟨g18, 0, none⟩)) (iV 0) (iV 30) rfl rfl rfl rfl rfl rfl rfl rfl rfl rfl rfl rfl rfl rfl rfl rfl rfl rfl fun ρ => ?_
  refine W_seq ?_
  refine W_sr rfl (s_mv rfl (s_len E rfl rfl (s_cmp (c := false) rfl rfl (by decide) (s_mv rfl (s_g1 rfl (s_fa E rfl rfl (s_g1 rfl (s_ld E rfl rfl (r6 1 _ rfl) (s_g1 rfl (s_len E rfl rfl (s_g1 rfl (s_cmp (c := false) rfl rfl (by rw [hsm]; decide) (s_pk rfl (s_mv rfl (s_g1 rfl (s_fa E rfl rfl (s_g1 rfl (s_ld E rfl rfl (r18 1 _ rfl) (s_g1 rfl (s_len E rfl rfl (s_g1 rfl (s_cmp (c := false) rfl rfl (by rw [hmo1]; decide) (s_pk rfl (s_nil ?_))))))))))))))))))))))))
  refine W_if rfl (fun h => by cases h) (fun _ => W_skip ?_)
  refine W_n18 1 2 3 4 5 6 7 8 9 11 12 13 14 15 17 18 19 21 (.slice pb wb.length cb) (iV 0) (.pointer (some ⟨g3, 0, none⟩)) (iV 0) (.pointer (some ⟨g5, 0, none⟩)) (.pointer (some ⟨g6, 0, none⟩)) (iV 0) (.pointer (some ⟨g8, 0, none⟩)) (iV 0) (iV 4) (.pointer (some ⟨g12, 0, none⟩)) (iV 0) (.pointer (some ⟨g14, 0, none⟩)) (iV 0) (iV 14) (.pointer (some ⟨g18, 0, none⟩)) (iV 0) (iV 30) rfl rfl rfl rfl rfl rfl rfl rfl rfl rfl rfl rfl rfl rfl rfl rfl rfl rfl fun ρ => ?_
  obtain ⟨asl, hps, hsr⟩ := hs.ch.some (by rw [hsm]; simp [chC])
  obtain ⟨bs, hqs, hsq⟩ := hs.ru.some (by rw [hsm]; simp [ruC])
  obtain ⟨an, hpn, hnr⟩ := hn.ch.some (by rw [hmo1]; simp [chC])
  have c1 : ∀ w', Ext w26 w' → w'.cell? ((asl.add (0 * 4)).add 1) = some (iV 3) := fun w' h => by rw [add_add]; exact Ext.row h hsr 1 _ (by rw [hsm]; rfl)
  have c2 : ∀ w', Ext w26 w' → w'.cell? ((asl.add (0 * 4)).add 2) = some (iV (-1)) := fun w' h => by rw [add_add]; exact Ext.row h hsr 2 _ (by rw [hsm]; rfl)
  have c3 : ∀ w', Ext w26 w' → w'.cell? ((bs.add (0 * 4)).add 3) = some (iV (-2)) := fun w' h => by rw [add_add]; exact Ext.row h hsq 3 _ (by rw [hsm]; rfl)
  have c4 : ∀ w', Ext w26 w' → w'.cell? ((an.add (0 * 4)).add 0) = some (iV 1) := fun w' h => by rw [add_add]; exact Ext.row h hnr 0 _ (by rw [hmo1]; rfl)
  have l1 : 0 < sm.chars.length := by rw [hsm]; decide
  have l2 : 0 < sm.rules.length := by rw [hsm]; decide
  have l3 : 0 < mo.chars.length := by rw [hmo1]; decide
  refine W_sr rfl (s_mv rfl (s_slc E rfl rfl (sb_h (h := 8) rfl hc8) (s_str (l := wb.take 8) E rfl rfl (by kernel_rfl) rfl rfl hs8 (s_eqsc rfl rfl (str_of rfl) (s_mv rfl (s_g1 rfl (s_mv rfl (s_g1 rfl (s_cmp (c := true) rfl rfl (by decide) (s_pk rfl (s_mv rfl (s_g1 rfl (s_lda (xs := meC wm pm qm cm dm) E rfl rfl r3 rfl (s_g1 rfl (s_bld rfl (cells := #[iV 65536, .slice none 0 0, .slice none 0 0]) (by kernel_rfl) (s_g1 rfl (s_callx rfl rfl (Ret.eqv (fleuronref27_Same_c (a := wm) (b := wm) (p := pm) (q := qm) (c := cm) (d := dm) (p' := none) (q' := none) (c' := 0) (d' := 0) hm26 ⟨rfl, rfl, by decide, by decide⟩) (congrArg Value.bool (decide_eq_true rfl))) fun w27 hE27 => (s_pk rfl (s_mv rfl (s_g1 rfl (s_mv rfl (s_g1 rfl (s_cmp (c := true) rfl rfl (by decide) (s_pk rfl (s_mv rfl (s_g1 rfl (s_fa E rfl rfl (s_g1 rfl (s_ld E rfl rfl (Ext.row hE27 r6 1 _ rfl) (s_g1 rfl (s_ia (i := 0) E rfl (congrArg (fun z => Value.slice z sm.chars.length cs) hps) rfl rfl l1 (s_g1 rfl (s_fa E rfl rfl (s_g1 rfl (s_ld E rfl rfl (c1 _ hE27) (s_g1 rfl (s_cmp (c := true) rfl rfl (by decide) (s_pk rfl (s_mv rfl (s_g1 rfl (s_fa E rfl rfl (s_g1 rfl (s_ld E rfl rfl (Ext.row hE27 r6 1 _ rfl) (s_g1 rfl (s_ia (i := 0) E rfl (congrArg (fun z => Value.slice z sm.chars.length cs) hps) rfl rfl l1 (s_g1 rfl (s_fa E rfl rfl (s_g1 rfl (s_ld E rfl rfl (c2 _ hE27) (s_g1 rfl (s_cmp (c := true) rfl rfl (by decide) (s_pk rfl (s_mv rfl (s_g1 rfl (s_fa E rfl rfl (s_g1 rfl (s_ld E rfl rfl (Ext.row hE27 r6 2 _ rfl) (s_g1 rfl (s_ia (i := 0) E rfl (congrArg (fun z => Value.slice z sm.rules.length ds) hqs) rfl rfl l2 (s_g1 rfl (s_fa E rfl rfl (s_g1 rfl (s_ld E rfl rfl (c3 _ hE27) (s_g1 rfl (s_cmp (c := true) rfl rfl (by decide) (s_pk rfl (s_mv rfl (s_g1 rfl (s_mv rfl (s_g1 rfl (s_cmp (c := true) rfl rfl (by decide) (s_pk rfl (s_mv rfl (s_g1 rfl (s_fa E rfl rfl (s_g1 rfl (s_ld E rfl rfl (Ext.row hE27 r8 1 _ rfl) (s_g1 rfl (s_cmp (c := true) rfl rfl (by decide) (s_pk rfl (s_mv rfl (s_g1 rfl (s_mv rfl (s_g1 rfl (s_cmp (c := true) rfl rfl (by decide) (s_pk rfl (s_mv rfl (s_g1 rfl (s_mv rfl (s_g1 rfl (s_cmp (c := true) rfl rfl (by decide) (s_pk rfl (s_mv rfl (s_g1 rfl (s_fa E rfl rfl (s_g1 rfl (s_ld E rfl rfl (Ext.row hE27 r12 3 _ rfl) (s_g1 rfl (s_cmp (c := true) rfl rfl (by decide) (s_pk rfl (s_mv rfl (s_g1 rfl (s_mv rfl (s_g1 rfl (s_cmp (c := true) rfl rfl (by decide) (s_pk rfl (s_mv rfl (s_g1 rfl (s_lda (xs := bxC (10, -3, 1)) E rfl rfl (Ext.row hE27 r14) rfl (s_g1 rfl (s_bld rfl (cells := (bxC (10, -3, 1)).toArray) (by kernel_rfl) (s_g1 rfl (s_eqA3 E rfl rfl (by kernel_rfl) rfl rfl (c := true) (by decide) (s_pk rfl (s_mv rfl (s_g1 rfl (s_mv rfl (s_g1 rfl (s_cmp (c := true) rfl rfl (by decide) (s_pk rfl (s_mv rfl (s_g1 rfl (s_mv rfl (s_g1 rfl (s_cmp (c := true) rfl rfl (by decide) (s_pk rfl (s_mv rfl (s_g1 rfl (s_fa E rfl rfl (s_g1 rfl (s_ld E rfl rfl (Ext.row hE27 r18 1 _ rfl) (s_g1 rfl (s_ia (i := 0) E rfl (congrArg (fun z => Value.slice z mo.chars.length cn) hpn) rfl rfl l3 (s_g1 rfl (s_fa E rfl rfl (s_g1 rfl (s_ld E rfl rfl (c4 _ hE27) (s_g1 rfl (s_cmp (c := true) rfl rfl (by decide) (s_pk rfl (s_mv rfl (s_g1 rfl (s_mv rfl (s_g1 rfl (s_cmp (c := true) rfl rfl (by decide) (s_pk rfl (s_mv rfl (s_g1 rfl (s_mv rfl (s_g1 rfl (s_cmp (c := true) rfl rfl (by decide) (s_pk rfl (s_mv rfl (s_g1 rfl (s_lda (xs := meC wx (some xp) (some xq) 1 1) E rfl rfl (Ext.row hE27 r5) rfl (s_g1 rfl (s_callx rfl rfl (Ret.eqv (metric_Valid_c (m := wx) (p := some xp) (q := some xq) (c := 1) (d := 1) (MeR.ext hx hE27)) (congrArg Value.bool valid_wx)) fun w28 hE28 => (s_pk rfl (s_mv rfl (s_g1 rfl (s_bld rfl (cells := (meC me0 none none 0 0).toArray) (by kernel_rfl) (s_g1 rfl (s_callx rfl rfl (Ret.eqv (metric_Valid_c (m := me0) (p := none) (q := none) (c := 0) (d := 0) (meR_zero _)) (congrArg Value.bool (show validM me0 = false by decide))) fun w29 hE29 => (s_g1 rfl (s_not rfl (s_pk rfl (s_as rfl (s_nil ?_))))))))))))))))))))))))))))))))))))))))))))))))))))))))))))))))))))))))))))))))))))))))))))))))))))))))))))))))))))))))))))))))))))))))))))))))))))))))))))))))))))))))
  exact W_ret ⟨_, rfl, rfl, hE26.trans (hE27.trans (hE28.trans hE29))⟩
end
end Go.Proofs.YthfnijlgmjkedaaGreat
namespace Go.Proofs.YthfnijlgmjkedaaGreat
set_option maxRecDepth 100000
set_option maxHeartbeats 1000000
set_option linter.unusedVariables false
set_option linter.unusedSimpArgs false
open Go Go.Fx Go.Proofs.YthfnijlgmjkedaaGreat.Tab
theorem find_at {α : Type} {p : α → Bool} {l : List α} {i : Nat} (hi : i < l.length) (h : ∀ j (hj : j < i), p l[j] = false) (hp : p l[i] = true) : l.find? p = some l[i] := by
  induction l generalizing i with
  | nil => simp at hi
  | cons a l ih =>
    cases i with
    | zero => simp only [List.getElem_cons_zero] at hp ⊢; simp [hp]
    | succ i =>
      have h0 := h 0 (by omega)
      simp only [List.getElem_cons_zero] at h0
      simp only [List.getElem_cons_succ] at hp ⊢
      rw [List.find?_cons_of_neg (by simp [h0])]
      exact ih (by simpa using hi) (fun j hj => by have := h (j + 1) (by omega); simpa using this) hp
theorem find_no {α : Type} {p : α → Bool} {l : List α} (h : ∀ j (hj : j < l.length), p l[j] = false) : l.find? p = none := by
  rw [List.find?_eq_none]
  intro x hx
  obtain ⟨j, hj, rfl⟩ := List.getElem_of_mem hx
  simp [h j hj]
def fndM (m : Me) (code : Int) : Ch × Int := if validM m then (match m.chars.find? (fun c => decide (c.code = code)) with | some c => (c, 0) | none => (default, 4)) else (default, 2)
def forM (l : List Ru) (first next : Int) : Ru × Bool := match l.find? (fun r => decide (r.first = first) && decide (r.next = next)) with | some r => (r, true) | none => (default, false)
def rulM (m : Me) (first next : Int) : Ru × Int := if validM m then (if (forM m.rules first next).2 then ((forM m.rules first next).1, 0) else (default, 4)) else (default, 2)
def atL (l : List Int) (i : Int) : Int := if i < l.length then l.getD i.toNat 0 else 0
def fidx (l : List Int) (n : Int) : Nat := match l.findIdx? (fun x => decide (x = n)) with | some i => i | none => 0
theorem fidx_at {l : List Int} {n : Int} {i : Nat} (hi : i < l.length) (h : ∀ j (hj : j < i), l[j] ≠ n) (hp : l[i] = n) : fidx l n = i := by
  unfold fidx
  have : l.findIdx? (fun x => decide (x = n)) = some i := by
    rw [List.findIdx?_eq_some_iff_getElem]
    exact ⟨hi, by simpa using hp, fun j hj => by simpa using h j hj⟩
  rw [this]
theorem fidx_no {l : List Int} {n : Int} (h : ∀ j (hj : j < l.length), l[j] ≠ n) : fidx l n = 0 := by
  unfold fidx
  have : l.findIdx? (fun x => decide (x = n)) = none := by
    rw [List.findIdx?_eq_none_iff]
    intro x hx
    obtain ⟨j, hj, rfl⟩ := List.getElem_of_mem hx
    simpa using h j hj
  rw [this]
section
variable {w : World}
theorem fleuronref16_Floor_c {a b : Int} (hb : 0 < b) (ha : -4611686018427387904 ≤ a ∧ a ≤ 4611686018427387904) : Ret Go.Proofs.Tryz.prog 64 #[iV a, iV b] w fun v w' => v = iV (a / b) ∧ w' = w := by
  refine enter Go.Proofs.Tryz.func64 rfl rfl rfl ?_
  refine W_sr rfl (s_as rfl (s_nil ?_))
  have hft := floor_trunc a b hb
  have hqd : -4611686018427387904 ≤ a.tdiv b ∧ a.tdiv b ≤ 4611686018427387904 := by
    have h1 := Int.natAbs_tdiv_le_natAbs a b
    omega
  have eq : IntKind.i64.wrap (a.tdiv b) = a.tdiv b := wrap64_in (by omega) (by omega)
  refine W_sr rfl (s_mv rfl (s_mv rfl (s_quow rfl rfl (by omega) (s_as rfl (s_nil ?_)))))
  refine W_n3 0 1 5 (iV a) (iV b) (iV (a.tdiv b)) rfl rfl (congrArg iV eq) fun ρ => ?_
  refine W_seq ?_
  refine W_sr rfl (s_mv rfl (s_mv rfl (s_rem rfl rfl (by omega) (s_lss rfl rfl (s_nil ?_)))))
  refine W_if rfl (fun hd => ?_) (fun hd => W_skip ?_)
  · have hd := of_decide_eq_true hd
    rw [if_pos hd] at hft
    refine W_reg rfl (s_mv rfl (s_sub rfl rfl (by omega) (s_as rfl (s_nil ?_))))
    refine W_sr rfl (s_mv rfl (s_as rfl (s_nil ?_)))
    exact W_ret ⟨_, rfl, congrArg iV hft, rfl⟩
  · have hd := of_decide_eq_false hd
    rw [if_neg hd] at hft
    refine W_sr rfl (s_mv rfl (s_as rfl (s_nil ?_)))
    exact W_ret ⟨_, rfl, congrArg iV hft, rfl⟩
theorem dimF_cell (c : Ch) {k : Nat} (hk : k < 3) : (#[iV c.width, iV c.height, iV c.depth] : Array Value)[k]? = some (iV (dimF k c)) := by
  have : k = 0 ∨ k = 1 ∨ k = 2 := by omega
  rcases this with rfl | rfl | rfl <;> rfl
theorem fleuronref27_dimension_c {c : Ch} {k : Nat} (hk : k < 3) : Ret Go.Proofs.Tryz.prog 65 #[chV c, iV k] w fun v w' => v = iV (dimF k c) ∧ Ext w w' := by
  refine enter Go.Proofs.Tryz.func65 rfl rfl rfl ?_
  refine W_sr rfl (s_bx rfl (s_as rfl (s_nil ?_)))
  refine W_sr rfl (s_fa E rfl rfl (s_ld E rfl rfl (bc0 rfl) (s_fa E rfl rfl (s_ld E rfl rfl (bc0 rfl) (s_fa E rfl rfl (s_ld E rfl rfl (bc0 rfl) (s_bld rfl (cells := #[iV c.width, iV c.height, iV c.depth]) (by kernel_rfl) (s_mv rfl (s_ix (i := k) E rfl rfl rfl rfl rfl hk (dimF_cell c hk) (s_as rfl (s_nil ?_)))))))))))
  exact W_ret ⟨_, rfl, rfl, e1⟩
theorem fleuronref27_at_c {p : Option Addr} {n c : Nat} {l : List Int} {i : Int} (hn : n = l.length) (hi : 0 ≤ i) (hp : SlR w p (l.map iV)) : Ret Go.Proofs.Tryz.prog 49 #[.slice p n c, iV i] w fun v w' => v = iV (atL l i) ∧ w' = w := by
  refine enter Go.Proofs.Tryz.func49 rfl rfl rfl ?_
  refine W_sr rfl (s_as rfl (s_nil ?_))
  refine W_seq ?_
  refine W_sr rfl (s_mv rfl (s_mv rfl (s_len E rfl rfl (s_lss rfl rfl (s_nil ?_)))))
  refine W_if rfl (fun hd => ?_) (fun hd => W_skip ?_)
  · have hd := of_decide_eq_true hd
    obtain ⟨k, rfl⟩ := Int.eq_ofNat_of_zero_le hi
    have hk : k < l.length := by omega
    obtain ⟨a, rfl, hcell⟩ := sl_map hp hk
    refine W_sr rfl (s_mv rfl (s_mv rfl (s_ia E rfl rfl rfl rfl (by omega) (s_ld E rfl rfl hcell (s_as rfl (s_nil ?_))))))
    refine W_ret ⟨_, rfl, ?_, rfl⟩
    unfold atL
    rw [if_pos (by omega)]
    simp [hk]; rfl
  · have hd := of_decide_eq_false hd
    refine W_sr rfl (s_as rfl (s_nil ?_))
    refine W_ret ⟨_, rfl, ?_, rfl⟩
    unfold atL
    rw [if_neg (by omega)]; rfl
theorem fleuronref27_index_c {p : Option Addr} {n c : Nat} {l : List Int} {x : Int} (hn : n = l.length) (hm : n ≤ 1000000) (hp : SlR w p (l.map iV)) : Ret Go.Proofs.Tryz.prog 80 #[.slice p n c, iV x] w fun v w' => v = iV (fidx l x) ∧ w' = w := by
  refine enter Go.Proofs.Tryz.func80 rfl rfl rfl ?_
  refine W_sr rfl (s_as rfl (s_nil ?_))
  refine W_seq ?_
  refine W_sr rfl (s_mv rfl (s_len E rfl rfl (s_mv rfl (s_nil ?_))))
  refine W_block ?_
  refine W_loop (fun m ρ w' => ∃ ρ' i, ρ = upd (upd (upd (upd ρ' 1 (iV x)) 7 (.slice p n c)) 8 (iV n)) 9 (iV (i : Nat)) ∧ w' = w ∧ i ≤ n ∧ m = n - i ∧ ∀ j (h : j < l.length), j < i → l[j] ≠ x) n ⟨_, 0, u4 rfl rfl rfl rfl, rfl, by omega, by omega, fun j _ h => by omega⟩ ?_
  rintro m _ _ ⟨ρ, i, rfl, rfl, hi, rfl, ho⟩
  refine W_sr rfl (s_lss rfl rfl (s_nil ?_))
  refine W_seq ?_
  refine W_if rfl (fun hc => W_skip ?_) (fun hc => W_exit ?_)
  · have hc := of_decide_eq_true hc
    have hil : i < l.length := by omega
    obtain ⟨a, rfl, hcell⟩ := sl_map hp hil
    obtain ⟨y, hy⟩ : ∃ y, y = l[i] := ⟨_, rfl⟩
    rw [← hy] at hcell
    refine W_seq (W_block ?_)
    refine W_sr rfl (s_mv rfl (s_ia E rfl rfl rfl rfl (by omega) (s_ld E rfl rfl hcell (s_as rfl (s_as rfl (s_nil ?_))))))
    refine W_sr rfl (s_mv rfl (s_mv rfl (s_eql rfl rfl (s_nil ?_))))
    refine W_if rfl (fun hd => ?_) (fun hd => W_skip ?_)
    · have hd := of_decide_eq_true hd
      refine W_sr rfl (s_mv rfl (s_as rfl (s_nil ?_)))
      exact W_ret ⟨_, rfl, by rw [fidx_at hil (fun j hj => ho j (by omega) hj) (by rw [← hy]; exact hd)]; rfl, rfl⟩
    · have hd := of_decide_eq_false hd
      refine W_reg rfl (s_add rfl rfl (by omega) (s_mv rfl (s_nil ?_)))
      refine ⟨n - (i + 1), by omega, _, i + 1, u4 rfl rfl rfl rfl, rfl, by omega, rfl, fun j h hj => ?_⟩
      by_cases e : j = i
      · subst e; rw [← hy]; exact hd
      · exact ho j h (by omega)
  · have hc := of_decide_eq_false hc
    refine W_sr rfl (s_as rfl (s_nil ?_))
    exact W_ret ⟨_, rfl, by rw [fidx_no fun j hj => ho j hj (by omega)]; rfl, rfl⟩
theorem fleuronref27_Find_c {m : Me} {p q : Option Addr} {c d : Nat} {code : Int} (hm : MeR w m p q) :
    Ret Go.Proofs.Tryz.prog 21 #[meV m p q c d, iV code] w fun v w' => v = .tuple #[chV (fndM m code).1, iV (fndM m code).2] ∧ Ext w w' := by
  refine enterC Go.Proofs.Tryz.func21 rfl rfl rfl ?_
  have hS := Sep.start (w := w)
  refine W_sr rfl (s_bxS hS (vs := meC m p q c d) rfl rfl fun w1 gm hS => (s_alS hS E rfl rfl fun w2 g0 hS => (s_as rfl (s_nil ?_))))
  refine W_seq ?_
  cases hv : validM m
  · refine W_sr rfl (s_lda (xs := meC m p q c d) E rfl rfl (hS.row 0 rfl) rfl (s_callE hS rfl rfl (Ret.eqv (fleuronref27_Valid_c (hm.ext hS.ext)) (congrArg Value.bool hv)) fun w3 hS => (s_not rfl (s_nil ?_))))
    refine W_if rfl (fun _ => ?_) (fun h => by cases h)
    refine W_sr rfl (s_bld rfl (cells := (chC default).toArray) (by kernel_rfl) (s_stS hS 1 E (us := chC default) rfl rfl rfl rfl rfl rfl rfl rfl rfl rfl fun w4 hS => (s_as rfl (s_nil ?_))))
    exact W_ret ⟨_, resC2 E rfl rfl rfl (hS.row 1 rfl) rfl rfl, by unfold fndM; rw [hv]; rfl, hS.ext⟩
  refine W_sr rfl (s_lda (xs := meC m p q c d) E rfl rfl (hS.row 0 rfl) rfl (s_callE hS rfl rfl (Ret.eqv (fleuronref27_Valid_c (hm.ext hS.ext)) (congrArg Value.bool hv)) fun w3 hS => (s_not rfl (s_nil ?_))))
  refine W_if rfl (fun h => by cases h) (fun _ => W_skip ?_)
  have efind : fndM m code = (match m.chars.find? (fun c => decide (c.code = code)) with | some c => (c, 0) | none => (default, 4)) := by unfold fndM; rw [hv]; rfl
  rw [efind]
  obtain ⟨l, hl⟩ : ∃ l, l = m.chars := ⟨_, rfl⟩
  obtain ⟨n, hn⟩ : ∃ n, n = m.chars.length := ⟨_, rfl⟩
  have hp := hm.ch
  have hnl := hm.nch
  have hnl' : n = l.length := by rw [hn, hl]
  refine W_seq ?_
  refine W_sr rfl (s_fa E rfl rfl (s_ld E rfl rfl (hS.cell 0 rfl rfl) (s_len E rfl rfl (s_mv rfl (s_nil ?_)))))
  rw [← hl] at hp ⊢
  rw [← hn] at hnl
  refine W_block ?_
  refine W_loop (fun r ρ w' => ∃ ρ' i, ρ = upd (upd (upd (upd (upd ρ' 1 (iV code)) 4 (.pointer (some ⟨g0, 0, none⟩))) 13 (.slice p n c)) 14 (iV n)) 15 (iV (i : Nat)) ∧ i ≤ n ∧ r = n - i ∧ Sep w w' [cl gm (meC m p q c d) 25, cl g0 [iV 0, iV 0, iV 0, iV 0] 50] ∧ ∀ j (h : j < l.length), j < i → decide (l[j].code = code) = false) n
    ⟨_, 0, u5 rfl rfl (by rw [hnl']; rfl) (by rw [hnl']; rfl) rfl, by omega, by omega, hS, fun j _ h => by omega⟩ ?_
  clear hS
  rintro _ _ w4 ⟨ρ, i, rfl, hi, rfl, hS, ho⟩
  refine W_sr rfl (s_lss rfl rfl (s_nil ?_))
  refine W_seq ?_
  refine W_if rfl (fun hc => W_skip ?_) (fun hc => W_exit ?_)
  · have hc := of_decide_eq_true hc
    have hil : i < l.length := by omega
    obtain ⟨a, rfl, hrow⟩ := hp.some (by intro h0; have := flat_length chC 4 chC_len l; rw [h0] at this; simp at this; omega)
    obtain ⟨r, hr⟩ : ∃ r, r = l[i] := ⟨_, rfl⟩
    have hrr := Ext.row hS.ext (hrow.at chC_len hil)
    rw [← hr] at hrr
    refine W_seq (W_block ?_)
    refine W_sr rfl (s_ia E rfl rfl rfl rfl (by omega) (s_lda E rfl rfl hrr rfl (s_alS hS E rfl rfl fun w5 g hS => (s_stS hS 2 E (us := chC r) rfl rfl rfl rfl rfl rfl rfl rfl rfl rfl fun w6 hS => (s_nil ?_)))))
    by_cases hd : r.code = code
    · refine W_sr rfl (s_fa E rfl rfl (s_ld E rfl rfl (hS.cell 2 rfl rfl) (s_mv rfl (s_cmp (c := true) rfl rfl (decide_eq_true hd) (s_nil ?_)))))
      refine W_if rfl (fun _ => ?_) (fun h => by cases h)
      refine W_sr rfl (s_lda (xs := chC r) E rfl rfl (hS.row 2 rfl) rfl (s_stS hS 1 E (us := chC r) rfl rfl rfl rfl rfl rfl rfl rfl rfl rfl fun w7 hS => (s_as rfl (s_nil ?_))))
      exact W_ret ⟨_, resC2 E rfl rfl rfl (hS.row 1 rfl) rfl rfl, by rw [find_at (l := l) hil (fun j hj => ho j (by omega) hj) (by rw [← hr]; exact decide_eq_true hd), ← hr]; rfl, hS.ext⟩
    · refine W_sr rfl (s_fa E rfl rfl (s_ld E rfl rfl (hS.cell 2 rfl rfl) (s_mv rfl (s_cmp (c := false) rfl rfl (decide_eq_false hd) (s_nil ?_)))))
      refine W_if rfl (fun h => by cases h) (fun _ => W_skip ?_)
      refine W_reg rfl (s_add rfl rfl (by omega) (s_mv rfl (s_nil ?_)))
      refine ⟨n - (i + 1), by omega, _, i + 1, u5 rfl rfl rfl rfl rfl, by omega, rfl, hS.take 2, fun j h hj => ?_⟩
      by_cases e : j = i
      · subst e; rw [← hr]; exact decide_eq_false hd
      · exact ho j h (by omega)
  · have hc := of_decide_eq_false hc
    refine W_sr rfl (s_bld rfl (cells := (chC default).toArray) (by kernel_rfl) (s_stS hS 1 E (us := chC default) rfl rfl rfl rfl rfl rfl rfl rfl rfl rfl fun w7 hS => (s_as rfl (s_nil ?_))))
    exact W_ret ⟨_, resC2 E rfl rfl rfl (hS.row 1 rfl) rfl rfl, by rw [find_no fun j hj => ho j hj (by omega)]; rfl, hS.ext⟩
theorem fleuronref27_For_c {p : Option Addr} {n c : Nat} {l : List Ru} {first next : Int} (hn : n = l.length) (hm : n ≤ 1000000) (hp : SlR w p (l.flatMap ruC)) :
    Ret Go.Proofs.Tryz.prog 60 #[.slice p n c, iV first, iV next] w fun v w' => v = .tuple #[ruV (forM l first next).1, .bool (forM l first next).2] ∧ Ext w w' := by
  refine enterC Go.Proofs.Tryz.func60 rfl rfl rfl ?_
  have hS := Sep.start (w := w)
  refine W_sr rfl (s_alS hS E rfl rfl fun w2 g0 hS => (s_as rfl (s_nil ?_)))
  refine W_seq ?_
  refine W_sr rfl (s_mv rfl (s_len E rfl rfl (s_mv rfl (s_nil ?_))))
  refine W_block ?_
  refine W_loop (fun r ρ w' => ∃ ρ' i, ρ = upd (upd (upd (upd (upd (upd ρ' 1 (iV first)) 2 (iV next)) 6 (.pointer (some ⟨g0, 0, none⟩))) 10 (.slice p n c)) 11 (iV n)) 12 (iV (i : Nat)) ∧ i ≤ n ∧ r = n - i ∧ Sep w w' [cl g0 [iV 0, iV 0, iV 0, iV 0] 45] ∧ ∀ j (h : j < l.length), j < i → (decide (l[j].first = first) && decide (l[j].next = next)) = false) n
    ⟨_, 0, u6 rfl rfl rfl rfl rfl rfl, by omega, by omega, hS, fun j _ h => by omega⟩ ?_
  clear hS
  rintro _ _ w4 ⟨ρ, i, rfl, hi, rfl, hS, ho⟩
  refine W_sr rfl (s_lss rfl rfl (s_nil ?_))
  refine W_seq ?_
  refine W_if rfl (fun hc => W_skip ?_) (fun hc => W_exit ?_)
  · have hc := of_decide_eq_true hc
    have hil : i < l.length := by omega
    obtain ⟨a, rfl, hrow⟩ := hp.some (by intro h0; have := flat_length ruC 4 ruC_len l; rw [h0] at this; simp at this; omega)
    obtain ⟨r, hr⟩ : ∃ r, r = l[i] := ⟨_, rfl⟩
    have hrr := Ext.row hS.ext (hrow.at ruC_len hil)
    rw [← hr] at hrr
    refine W_seq (W_block ?_)
    refine W_sr rfl (s_ia E rfl rfl rfl rfl (by omega) (s_lda E rfl rfl hrr rfl (s_alS hS E rfl rfl fun w5 g hS => (s_stS hS 1 E (us := ruC r) rfl rfl rfl rfl rfl rfl rfl rfl rfl rfl fun w6 hS => (s_nil ?_)))))
    have goOn : (decide (r.first = first) && decide (r.next = next)) = false → ∀ j (h : j < l.length), j < i + 1 → (decide (l[j].first = first) && decide (l[j].next = next)) = false := by
      intro hx j h hj
      by_cases e : j = i
      · subst e; rw [← hr]; exact hx
      · exact ho j h (by omega)
    by_cases h0 : r.first = first
    case neg =>
      refine W_sr rfl (s_fa E rfl rfl (s_ld E rfl rfl (hS.cell 1 rfl rfl) (s_mv rfl (s_cmp (c := false) rfl rfl (decide_eq_false h0) (s_mv rfl (s_g0 rfl (s_g0 rfl (s_g0 rfl (s_g0 rfl (s_pk rfl (s_nil ?_)))))))))))
      refine W_if rfl (fun h => by cases h) (fun _ => W_skip ?_)
      refine W_reg rfl (s_add rfl rfl (by omega) (s_mv rfl (s_nil ?_)))
      exact ⟨n - (i + 1), by omega, _, i + 1, u6 rfl rfl rfl rfl rfl rfl, by omega, rfl, hS.take 1, goOn (by simp [h0])⟩
    by_cases h1 : r.next = next
    · refine W_sr rfl (s_fa E rfl rfl (s_ld E rfl rfl (hS.cell 1 rfl rfl) (s_mv rfl (s_cmp (c := true) rfl rfl (decide_eq_true h0) (s_mv rfl (s_g1 rfl (s_fa E rfl rfl (s_g1 rfl (s_ld E rfl rfl (hS.cell 1 rfl rfl) (s_g1 rfl (s_mv rfl (s_g1 rfl (s_cmp (c := true) rfl rfl (decide_eq_true h1) (s_pk rfl (s_nil ?_)))))))))))))))
      refine W_if rfl (fun _ => ?_) (fun h => by cases h)
      refine W_sr rfl (s_lda (xs := ruC r) E rfl rfl (hS.row 1 rfl) rfl (s_stS hS 0 E (us := ruC r) rfl rfl rfl rfl rfl rfl rfl rfl rfl rfl fun w7 hS => (s_as rfl (s_nil ?_))))
      exact W_ret ⟨_, resC2 E rfl rfl rfl (hS.row 0 rfl) rfl rfl, by unfold forM; rw [find_at (l := l) hil (fun j hj => ho j (by omega) hj) (by rw [← hr]; simp [h0, h1]), ← hr]; rfl, hS.ext⟩
    · refine W_sr rfl (s_fa E rfl rfl (s_ld E rfl rfl (hS.cell 1 rfl rfl) (s_mv rfl (s_cmp (c := true) rfl rfl (decide_eq_true h0) (s_mv rfl (s_g1 rfl (s_fa E rfl rfl (s_g1 rfl (s_ld E rfl rfl (hS.cell 1 rfl rfl) (s_g1 rfl (s_mv rfl (s_g1 rfl (s_cmp (c := false) rfl rfl (decide_eq_false h1) (s_pk rfl (s_nil ?_)))))))))))))))
      refine W_if rfl (fun h => by cases h) (fun _ => W_skip ?_)
      refine W_reg rfl (s_add rfl rfl (by omega) (s_mv rfl (s_nil ?_)))
      exact ⟨n - (i + 1), by omega, _, i + 1, u6 rfl rfl rfl rfl rfl rfl, by omega, rfl, hS.take 1, goOn (by simp [h0, h1])⟩
  · have hc := of_decide_eq_false hc
    refine W_sr rfl (s_bld rfl (cells := (ruC default).toArray) (by kernel_rfl) (s_stS hS 0 E (us := ruC default) rfl rfl rfl rfl rfl rfl rfl rfl rfl rfl fun w7 hS => (s_as rfl (s_nil ?_))))
    exact W_ret ⟨_, resC2 E rfl rfl rfl (hS.row 0 rfl) rfl rfl, by unfold forM; rw [find_no fun j hj => ho j hj (by omega)]; rfl, hS.ext⟩
theorem fleuronref27_Rule_c {m : Me} {p q : Option Addr} {c d : Nat} {first next : Int} (hm : MeR w m p q) :
    Ret Go.Proofs.Tryz.prog 23 #[meV m p q c d, iV first, iV next] w fun v w' => v = .tuple #[ruV (rulM m first next).1, iV (rulM m first next).2] ∧ Ext w w' := by
  refine enterC Go.Proofs.Tryz.func23 rfl rfl rfl ?_
  have hS := Sep.start (w := w)
  refine W_sr rfl (s_bxS hS (vs := meC m p q c d) rfl rfl fun w1 gm hS => (s_alS hS E rfl rfl fun w2 g0 hS => (s_as rfl (s_nil ?_))))
  refine W_seq ?_
  cases hv : validM m
  · refine W_sr rfl (s_lda (xs := meC m p q c d) E rfl rfl (hS.row 0 rfl) rfl (s_callE hS rfl rfl (Ret.eqv (fleuronref27_Valid_c (hm.ext hS.ext)) (congrArg Value.bool hv)) fun w3 hS => (s_not rfl (s_nil ?_))))
    refine W_if rfl (fun _ => ?_) (fun h => by cases h)
    refine W_sr rfl (s_bld rfl (cells := (ruC default).toArray) (by kernel_rfl) (s_stS hS 1 E (us := ruC default) rfl rfl rfl rfl rfl rfl rfl rfl rfl rfl fun w4 hS => (s_as rfl (s_nil ?_))))
    exact W_ret ⟨_, resC2 E rfl rfl rfl (hS.row 1 rfl) rfl rfl, by unfold rulM; rw [hv]; rfl, hS.ext⟩
  refine W_sr rfl (s_lda (xs := meC m p q c d) E rfl rfl (hS.row 0 rfl) rfl (s_callE hS rfl rfl (Ret.eqv (fleuronref27_Valid_c (hm.ext hS.ext)) (congrArg Value.bool hv)) fun w3 hS => (s_not rfl (s_nil ?_))))
  refine W_if rfl (fun h => by cases h) (fun _ => W_skip ?_)
  obtain ⟨⟨r, ok⟩, hf⟩ : ∃ x, forM m.rules first next = x := ⟨_, rfl⟩
  have call := fleuronref27_For_c (w := w3) (c := d) (first := first) (next := next) rfl hm.nru (Ext.sl hS.ext hm.ru)
  rw [hf] at call
  refine W_sr rfl (s_fa E rfl rfl (s_ld E rfl rfl (hS.cell 0 rfl rfl) (s_mv rfl (s_mv rfl (s_callE hS rfl rfl call fun w4 hS => (s_mv rfl (s_ex rfl rfl (s_ex rfl rfl (s_alS hS E rfl rfl fun w5 gr hS => (s_stS hS 2 E (us := ruC r) rfl rfl rfl rfl rfl rfl rfl rfl rfl rfl fun w6 hS => (s_as rfl (s_nil ?_))))))))))))
  have e : rulM m first next = if ok then (r, 0) else (default, 4) := by unfold rulM; rw [hv, hf]; rfl
  rw [e]
  refine W_seq ?_
  cases ok
  · refine W_sr rfl (s_mv rfl (s_not rfl (s_nil ?_)))
    refine W_if rfl (fun _ => ?_) (fun h => by cases h)
    refine W_sr rfl (s_bld rfl (cells := (ruC default).toArray) (by kernel_rfl) (s_stS hS 1 E (us := ruC default) rfl rfl rfl rfl rfl rfl rfl rfl rfl rfl fun w7 hS => (s_as rfl (s_nil ?_))))
    exact W_ret ⟨_, resC2 E rfl rfl rfl (hS.row 1 rfl) rfl rfl, rfl, hS.ext⟩
  · refine W_sr rfl (s_mv rfl (s_not rfl (s_nil ?_)))
    refine W_if rfl (fun h => by cases h) (fun _ => W_skip ?_)
    refine W_sr rfl (s_lda (xs := ruC r) E rfl rfl (hS.row 2 rfl) rfl (s_stS hS 1 E (us := ruC r) rfl rfl rfl rfl rfl rfl rfl rfl rfl rfl fun w7 hS => (s_as rfl (s_nil ?_))))
    exact W_ret ⟨_, resC2 E rfl rfl rfl (hS.row 1 rfl) rfl rfl, rfl, hS.ext⟩
end
end Go.Proofs.YthfnijlgmjkedaaGreat
namespace Go.Proofs.YthfnijlgmjkedaaGreat
set_option maxRecDepth 100000
set_option maxHeartbeats 1000000
set_option linter.unusedVariables false
set_option linter.unusedSimpArgs false
open Go Go.Fx Go.Proofs.YthfnijlgmjkedaaGreat.Tab
/-! ## numbers as bytes -/
def bytesK (n : Int) : Nat → List Int
  | 0 => []
  | r + 1 => n / 256 ^ r % 256 :: bytesK n r
theorem bytesK_len (n : Int) : ∀ r, (bytesK n r).length = r
  | 0 => rfl
  | r + 1 => by simp [bytesK, bytesK_len n r]
theorem bytesK2 (n : Int) : bytesK n 2 = bytes2 n := by simp [bytesK, bytes2]
theorem bytesK4 (n : Int) : bytesK n 4 = bytes4 n := by simp [bytesK, bytes4]
section
variable {w : World}
theorem fleuronref27_Bytes_c {v : Value} {n : Nat} {xs : List Int} {x : Int} {many : Nat} (ho : OwnF w 5 1 v n (xs.map bV)) (hn : n = xs.length) (hl : n ≤ 1000100) (hm : 1 ≤ many ∧ many ≤ 7) :
    Ret Go.Proofs.Tryz.prog 78 #[v, iV x, iV many] w fun v' w' => Own w' 5 1 v' (n + many) ((xs ++ bytesK x many).map bV) ∧ Mod (fun k => v.ownBlock = some k) w w' ∧ OldOrNew w v v' := by
  refine enter Go.Proofs.Tryz.func78 rfl rfl rfl ?_
  refine W_sr rfl (s_as rfl (s_nil ?_))
  refine W_seq ?_
  refine W_sr rfl (s_mv rfl (s_sub rfl rfl (by omega) (s_as rfl (s_nil ?_))))
  refine W_block ?_
  refine W_loop (fun m ρ w' => ∃ ρ' r v' done, ρ = upd (upd (upd ρ' 0 v') 1 (iV x)) 7 (iV ((r : Nat) - 1 : Int)) ∧ r ≤ many ∧ m = 0 + r ∧ bytesK x many = done ++ bytesK x r ∧ done.length = many - r ∧ OwnF w' 5 1 v' (n + (many - r)) ((xs ++ done).map bV) ∧ (r < many → Own w' 5 1 v' (n + (many - r)) ((xs ++ done).map bV)) ∧ Mod (fun k => v.ownBlock = some k) w w' ∧ OldOrNew w v v') many
    ⟨_, many, v, [], u3 rfl rfl rfl, Nat.le_refl _, by omega, rfl, by simp, by simpa using ho, fun h => absurd h (Nat.lt_irrefl _), Mod.refl, .inl rfl⟩ ?_
  rintro m _ w1 ⟨ρ, r, v1, done, rfl, hr, rfl, hd, hdl, ho1, ho1', hM1, hon1⟩
  refine W_seq ?_
  refine W_sr rfl (s_mv rfl (s_geq rfl rfl (s_nil ?_)))
  refine W_if rfl (fun hc => W_skip ?_) (fun hc => W_exit ?_)
  · have hc := of_decide_eq_true hc
    obtain ⟨k, rfl⟩ : ∃ k, r = k + 1 := ⟨r - 1, by omega⟩
    have h7 : k ≤ 6 := by omega
    have e8 : IntKind.u64.wrap (8 * ((((k + 1 : Nat) : Int)) - 1)) = 8 * (k : Int) := by
      rw [show 8 * ((((k + 1 : Nat) : Int)) - 1) = 8 * (k : Int) by omega]
      exact wrapu_in (by omega) (by omega)
    have ep : (2 : Int) ^ min (8 * (k : Int)).toNat IntKind.i64.bits = 256 ^ k := by
      have : k = 0 ∨ k = 1 ∨ k = 2 ∨ k = 3 ∨ k = 4 ∨ k = 5 ∨ k = 6 := by omega
      rcases this with rfl | rfl | rfl | rfl | rfl | rfl | rfl <;> decide
    refine W_seq (W_block ?_)
    have hS : Sep w1 w1 [] := Sep.start
    refine W_reg rfl (s_mv rfl (s_mv rfl (s_mv rfl (s_mul (a := 8) (b := ((k + 1 : Nat) : Int) - 1) rfl rfl (by omega) (s_cvx E rfl rfl rfl e8 (s_shk rfl rfl (by omega) ep (Int.pow_nonneg (by decide)) (s_cvb E rfl rfl rfl (s_bsA E rfl rfl rfl rfl rfl (cells := #[bV (x / 256 ^ k % 256)]) (by kernel_rfl) fun w2 hE2 hh2 hs2 => (s_apF E rfl rfl rfl rfl (OwnF.mod hE2 ho1 (fun _ _ h => h)) rfl rfl (row_heap hh2) rfl rfl rfl (by omega) fun v3 w3 ho3 hM3 hon3 => (s_as rfl (s_nil ?_)))))))))))
    refine W_reg rfl (s_mv rfl (s_sub rfl rfl (by omega) (s_as rfl (s_nil ?_))))
    have hM13 : Mod (fun j => v.ownBlock = some j) w w3 := by
      refine ⟨hM3.os.trans (hE2.os.trans hM1.os), hM3.tape.trans (hE2.tape.trans hM1.tape), hM3.output.trans (hE2.output.trans hM1.output), by have := hM1.size; have := hE2.size; have := hM3.size; omega, fun j hj hnj => ?_⟩
      have h1 := hM1.block j hj hnj
      have h2 := hE2.block j (by have := hM1.size; omega) (fun h => h)
      have h3 := hM3.block j (by have := hM1.size; have := hE2.size; omega) (fun hk => by
        rcases hon1 with h | ⟨j', h, hlt⟩
        · rw [h] at hk; exact hnj hk
        · rw [h] at hk; cases hk; omega)
      rw [h3, h2, h1]
    have ho3' : Own w3 5 1 v3 (n + (many - k)) ((xs ++ (done ++ [x / 256 ^ k % 256])).map bV) := by
      rw [show n + (many - k) = n + (many - (k + 1)) + 1 by omega, ← List.append_assoc, List.map_append]
      exact ho3
    refine ⟨0 + k, by omega, _, k, v3, done ++ [x / 256 ^ k % 256], u3 rfl rfl (congrArg iV (by omega)), by omega, rfl, by rw [hd, List.append_assoc]; rfl, by simp; omega, .inl ho3', fun _ => ho3', hM13, ?_⟩
    · rcases hon3 with h | ⟨j, h, hlt⟩
      · rcases hon1 with h1 | ⟨j, h1, hlt⟩
        · exact .inl (h.trans h1)
        · exact .inr ⟨j, h.trans h1, hlt⟩
      · exact .inr ⟨j, h, by have := hM1.size; have := hE2.size; omega⟩
  · have hc := of_decide_eq_false hc
    obtain rfl : r = 0 := by omega
    refine W_sr rfl (s_mv rfl (s_as rfl (s_nil ?_)))
    refine W_ret ⟨_, rfl, ?_, hM1, hon1⟩
    have : bytesK x many = done := by rw [hd]; simp [bytesK]
    rw [this]
    exact ho1' (by omega)
/-- as a step -/
theorem s_bytes {P : Program} {L os : List Oper} {K : Fr → World → Prop} {ρ : Fr} {w0 : World} {d : Option Tmp} {T : TypeId} {pos : String} {af : Array Edge} {C : List Chunk} (hS : Sep w0 w C) (i : Nat) {n : Nat} {v : Value} {xs : List Value}
    (hi : C[i]? = some (owF 5 1 v n xs)) {f : Operand} {ys : Array Operand} {ts : Array TypeId} {g : FuncId} {vs cs : Array Value} {args : List Value} {n' : Nat} {xs' : List Value}
    (hf : ev ρ f = .func (.func g) vs cs) (ha : vs.toList ++ (ys.toList.map (ev ρ) ++ cs.toList) = args) (hR : Ret P g args.toArray w fun v' w' => Own w' 5 1 v' n' xs' ∧ Mod (fun k => v.ownBlock = some k) w w' ∧ OldOrNew w v v')
    (h : ∀ v' w', Sep w0 w' (C.set i (owF 5 1 v' n' xs')) → vcs P L K os (put ρ d v') w') : vcs P L K (⟨d, .call { callee := .value f, args := ys, argTypes := ts }, T, pos, af, none⟩ :: os) ρ w :=
  s_call hf ha hR fun v' w' ⟨h1, h2, h3⟩ => h v' w' (hS.upd i hi h2 (owF 5 1 v' n' xs') (.inl h1) (fun k hk => by
    have hk' : v'.ownBlock = some k := hk
    rcases h3 with h4 | ⟨j, h4, h5⟩
    · left; show v.ownBlock = some k; rw [← h4]; exact hk'
    · right; rw [h4] at hk'; cases hk'
      exact ⟨h5, Own.lt h1 h4⟩) (Nat.zero_le _))
theorem wrapi_in {n : Int} (h1 : -9223372036854775808 ≤ n) (h2 : n ≤ 9223372036854775807) : IntKind.i64.wrap n = n := wrap64_in h1 h2
theorem sumB_bd' : ∀ (l : List Int) (i : Nat) (s : Int), 0 ≤ s ∧ s < 4294967296 → 0 ≤ sumFrom i s l ∧ sumFrom i s l < 4294967296
  | [], i, s, h => h
  | c :: l, i, s, h => by
    unfold sumFrom
    exact sumB_bd' l (i + 1) _ (by omega)
end
end Go.Proofs.YthfnijlgmjkedaaGreat
namespace Go.Proofs.YthfnijlgmjkedaaGreat
set_option maxRecDepth 100000
set_option maxHeartbeats 2000000
set_option linter.unusedVariables false
set_option linter.unusedSimpArgs false
open Go Go.Fx Go.Proofs.YthfnijlgmjkedaaGreat.Tab
theorem sumFrom_take (l : List Int) : ∀ (i : Nat) (s : Int) (k : Nat) (h : k < l.length), sumFrom i s (l.take (k + 1)) = (sumFrom i s (l.take k) + (i + k + 1) * l[k]) % 4294967296 := by
  induction l with
  | nil => intro i s k h; simp at h
  | cons c l ih =>
    intro i s k h
    cases k with
    | zero => simp [sumFrom]
    | succ k =>
      simp only [List.take_succ_cons, sumFrom, List.getElem_cons_succ]
      rw [ih (i + 1) _ k (by simpa using h)]
      congr 2
      congr 1
      omega
section
variable {w : World}
theorem fleuronref27_Closed_c {p : Option Addr} {n c : Nat} {l : List Int} (ho : OwnF w 5 1 (.slice p n c) n (l.map bV)) (hn : n = l.length) (hl : n ≤ 1000000) (hb : byt l) :
    Ret Go.Proofs.Tryz.prog 81 #[.slice p n c] w fun v' w' => Own w' 5 1 v' (n + 4) ((l ++ bytes4 (sumB l)).map bV) ∧ Mod (fun k => (Value.slice p n c).ownBlock = some k) w w' ∧ OldOrNew w (.slice p n c) v' := by
  refine enter Go.Proofs.Tryz.func81 rfl rfl rfl ?_
  have hp : SlR w p (l.map bV) := by obtain ⟨p', c', h1, h2, _⟩ := ho.form; cases h1; exact h2
  refine W_sr rfl (s_as rfl (s_nil ?_))
  refine W_sr rfl (s_as rfl (s_nil ?_))
  refine W_seq ?_
  refine W_sr rfl (s_mv rfl (s_len E rfl rfl (s_mv rfl (s_nil ?_))))
  refine W_block ?_
  refine W_loop (fun m ρ w' => ∃ ρ' i, ρ = upd (upd (upd (upd (upd ρ' 0 (.slice p n c)) 3 (iV (sumB (l.take i)))) 6 (.slice p n c)) 7 (iV n)) 8 (iV (i : Nat)) ∧ w' = w ∧ i ≤ n ∧ m = n - i) n ⟨_, 0, u5 rfl rfl rfl rfl rfl, rfl, by omega, by omega⟩ ?_
  rintro m _ _ ⟨ρ, i, rfl, rfl, hi, rfl⟩
  refine W_sr rfl (s_lss rfl rfl (s_nil ?_))
  refine W_seq ?_
  refine W_if rfl (fun hc => W_skip ?_) (fun hc => W_exit ?_)
  · have hc := of_decide_eq_true hc
    have hil : i < l.length := by omega
    obtain ⟨a, rfl, hcell⟩ := sl_bytes hp hil
    have hy := hb l[i] (List.getElem_mem hil)
    have hst := sumFrom_take l 0 0 i hil
    have hbd := sumFrom_bd (l.take i) 0 0 (by decide)
    obtain ⟨y, hye⟩ : ∃ y, y = l[i] := ⟨_, rfl⟩
    rw [← hye] at hcell hy hst
    obtain ⟨s, hs⟩ : ∃ s, s = sumFrom 0 0 (l.take i) := ⟨_, rfl⟩
    rw [← hs] at hst hbd
    have hbd2 := mul_bd (a := y) (b := (i : Int) + 1) (A := 255) (B := 1000001) ⟨by omega, by omega⟩ ⟨by omega, by omega⟩ (by decide)
    have hcm : ((i : Int) + 1) * y = y * ((i : Int) + 1) := Int.mul_comm _ _
    have e2 : IntKind.i64.wrap y = y := wrap64_in (by omega) (by omega)
    refine W_n5 0 3 6 7 8 (.slice (some a) n c) (iV s) (.slice (some a) n c) (iV n) (iV i) rfl (congrArg iV hs.symm) rfl rfl rfl fun ρ => ?_
    refine W_seq (W_block ?_)
    refine W_sr rfl (s_mv rfl (s_ia E rfl rfl rfl rfl (by omega) (s_ld E rfl rfl hcell (s_as rfl (s_as rfl (s_nil ?_))))))
    refine W_reg rfl (s_mv rfl (s_mv rfl (s_add rfl rfl (by omega) (s_mv rfl (s_cvx E rfl rfl rfl e2 (s_mul (a := (i : Int) + 1) (b := y) rfl rfl (by omega) (s_add (a := s) (b := ((i : Int) + 1) * y) rfl rfl (by omega) (s_rem rfl rfl (by decide) (s_as rfl (s_nil ?_))))))))))
    refine W_reg rfl (s_add rfl rfl (by omega) (s_mv rfl (s_nil ?_)))
    refine ⟨n - (i + 1), by omega, _, i + 1, u5 rfl (congrArg iV ?_) rfl rfl rfl, rfl, by omega, rfl⟩
    show (s + ((i : Int) + 1) * y).tmod 4294967296 = sumFrom 0 0 (l.take (i + 1))
    rw [hst, Int.tmod_eq_emod_of_nonneg]
    · have e : ((0 : Nat) : Int) + i + 1 = (i : Int) + 1 := by omega
      rw [e]
    · have := Int.mul_nonneg (show 0 ≤ (i : Int) + 1 by omega) hy.1
      omega
  · have hc := of_decide_eq_false hc
    have e : l.take i = l := List.take_of_length_le (by omega)
    have call := fleuronref27_Bytes_c (x := sumB (l.take i)) (many := 4) ho hn (by omega) (by decide)
    refine W_sr rfl (s_mv rfl (s_mv rfl (s_call rfl rfl call fun v w2 h => (s_as rfl (s_nil ?_)))))
    obtain ⟨h1, h2⟩ := h
    rw [bytesK4, e] at h1
    exact W_ret ⟨_, rfl, h1, h2⟩
/-- what an insertion makes -/
def insU (l : List Int) (n : Int) : List Int :=
  let at_ := (l.takeWhile fun y => decide (y < n)).length
  if at_ < l.length ∧ l.getD at_ 0 = n then l else l.take at_ ++ ([n] ++ l.drop at_)
theorem takeWhile_at {α : Type} {p : α → Bool} {l : List α} {k : Nat} (hk : k ≤ l.length) (h : ∀ j (hj : j < k), p l[j] = true) (hs : ∀ h : k < l.length, p l[k] = false) : (l.takeWhile p).length = k := by
  induction l generalizing k with
  | nil => simp at hk; subst hk; rfl
  | cons a l ih =>
    cases k with
    | zero => have := hs (by simp); simp only [List.getElem_cons_zero] at this; simp [List.takeWhile_cons, this]
    | succ k =>
      have h0 := h 0 (by omega)
      simp only [List.getElem_cons_zero] at h0
      rw [List.takeWhile_cons, if_pos h0, List.length_cons]
      rw [ih (by simpa using hk) (fun j hj => by have := h (j + 1) (by omega); simpa using this) (fun hh => by have := hs (by simpa using hh); simpa using this)]
theorem fleuronref27_table_c {p : Option Addr} {n c : Nat} {l : List Ch} {k : Nat} (hn : n = l.length) (hm : n ≤ 1000) (hk : k < 3) (hp : SlR w p (l.flatMap chC)) :
    Ret Go.Proofs.Tryz.prog 79 #[.slice p n c, iV k] w fun v w' => Own w' 3 1 v ((l.map (dimF k)).foldl insU []).length (((l.map (dimF k)).foldl insU []).map iV) ∧ (∀ j, v.ownBlock = some j → w.heap.size ≤ j) ∧ Ext w w' := by
  refine enter Go.Proofs.Tryz.func79 rfl rfl rfl ?_
  have hS := (Sep.start (w := w)).nil 3 1
  refine W_sr rfl (s_as rfl (s_nil ?_))
  refine W_sr rfl (s_as rfl (s_nil ?_))
  refine W_seq ?_
  refine W_sr rfl (s_mv rfl (s_len E rfl rfl (s_mv rfl (s_nil ?_))))
  refine W_block ?_
  refine W_loop (fun m ρ w' => ∃ ρ' i v o, ρ = upd (upd (upd (upd (upd ρ' 1 (iV k)) 5 v) 10 (.slice p n c)) 11 (iV n)) 12 (iV (i : Nat)) ∧ i ≤ n ∧ m = n - i ∧ o.length ≤ i ∧ ((l.take i).map (dimF k)).foldl insU [] = o ∧ Sep w w' [ow 3 1 v o.length (o.map iV)]) n
    ⟨_, 0, _, [], u5 rfl rfl rfl rfl rfl, by omega, by omega, by simp, rfl, hS⟩ ?_
  clear hS
  rintro m _ w1 ⟨ρ, i, v, o, rfl, hi, rfl, hol, hfo, hS⟩
  refine W_sr rfl (s_lss rfl rfl (s_nil ?_))
  refine W_seq ?_
  refine W_if rfl (fun hc => W_skip ?_) (fun hc => W_exit ?_)
  · have hc := of_decide_eq_true hc
    have hil : i < l.length := by omega
    obtain ⟨a, rfl, hrow⟩ := hp.some (by intro h0; have := flat_length chC 4 chC_len l; rw [h0] at this; simp at this; omega)
    obtain ⟨r, hr⟩ : ∃ r, r = l[i] := ⟨_, rfl⟩
    have hrr := Ext.row hS.ext (hrow.at chC_len hil)
    rw [← hr] at hrr
    have hfo1 : ((l.take (i + 1)).map (dimF k)).foldl insU [] = insU o (dimF k r) := by
      rw [List.take_succ_eq_append_getElem hil, List.map_append, List.foldl_append, hfo, hr]; rfl
    obtain ⟨y, hy⟩ : ∃ y, y = dimF k r := ⟨_, rfl⟩
    rw [← hy] at hfo1
    refine W_sk fun K hK => ?_
    have H : ∀ (ρ : Fr) w' v o', insU o y = o' → o'.length ≤ i + 1 → Sep w w' [ow 3 1 v o'.length (o'.map iV)] → ρ 1 = iV k → ρ 5 = v → ρ 10 = .slice (some a) n c → ρ 11 = iV n → ρ 12 = iV i → K ρ w' := by
      intro ρ w' v o' he hl' hS q1 q5 q10 q11 q12
      rw [u5 q1 q5 q10 q11 q12]
      refine hK _ _ ?_
      refine W_reg rfl (s_add rfl rfl (by omega) (s_mv rfl (s_nil ?_)))
      exact ⟨n - (i + 1), by omega, _, i + 1, v, o', u5 rfl rfl rfl rfl rfl, by omega, rfl, hl', by rw [hfo1, he], hS⟩
    refine W_block ?_
    refine W_sr rfl (s_ia E rfl rfl rfl rfl (by omega) (s_lda E rfl rfl hrr rfl (s_alS hS E rfl rfl fun w2 g hS => (s_stS hS 1 E (us := chC r) rfl rfl rfl rfl rfl rfl rfl rfl rfl rfl fun w3 hS => (s_nil ?_)))))
    refine W_sr rfl (s_lda (xs := chC r) E rfl rfl (hS.row 1 rfl) rfl (s_mv rfl (s_callE hS rfl rfl (Ret.eqv (fleuronref27_dimension_c (c := r) hk) (congrArg iV hy.symm)) fun w4 hS => (s_as rfl (s_nil ?_)))))
    refine W_n6 1 5 8 10 11 12 (iV k) v (iV y) (.slice (some a) n c) (iV n) (iV i) rfl rfl rfl rfl rfl rfl fun ρ => ?_
    have hS : Sep w w4 [ow 3 1 v o.length (o.map iV)] := hS.take 1
    obtain ⟨q, oc, hve, hq, hoc, hqb⟩ := (hS.own 0 rfl).form
    subst hve
    refine W_sr rfl (s_as rfl (s_nil ?_))
    refine W_sk fun K2 hK2 => ?_
    have H2 : ∀ (ρ : Fr) at_, at_ ≤ o.length → (o.takeWhile fun z => decide (z < y)).length = at_ → ρ 1 = iV k → ρ 5 = .slice q o.length oc → ρ 8 = iV y → ρ 9 = iV (at_ : Nat) → ρ 10 = .slice (some a) n c → ρ 11 = iV n → ρ 12 = iV i → K2 ρ w4 := by
      intro ρ at_ hat htw q1 q5 q8 q9 q10 q11 q12
      rw [u7 q1 q5 q8 q9 q10 q11 q12]
      refine hK2 _ _ ?_
      have heq : insU o y = if at_ < o.length ∧ o.getD at_ 0 = y then o else o.take at_ ++ ([y] ++ o.drop at_) := by unfold insU; rw [htw]
      refine W_sk fun K3 hK3 => ?_
      have noC : oc = 0 ∨ q ≠ none := by
        rcases (hS.own 0 rfl).2 with ⟨h1, _⟩ | ⟨g', cap, cur, h1, _⟩
        · left; exact (Value.slice.inj h1).2.2
        · right; rw [(Value.slice.inj h1).1]; simp
      have hqn : q = none → o = [] ∧ oc = 0 := by
        intro h; subst h
        have h1 : o.map iV = [] := hq
        exact ⟨by simpa using h1, by rcases noC with h | h; exact h; exact absurd rfl h⟩
      have hnn : slP q at_ oc 1 = none → o.length - at_ = 0 ∧ oc - at_ = 0 := by
        intro h
        cases q with
        | none => obtain ⟨rfl, rfl⟩ := hqn rfl; simp
        | some b => unfold slP at h; split at h <;> cases h
      have hparts := SlR.part (l := at_) (h := o.length) (m := oc) (s := 1) hq hat hoc (by simp)
      have hpl : (((o.map iV).take (o.length * 1)).drop (at_ * 1)).length = (o.length - at_) * 1 := by rw [List.length_drop, List.length_take, List.length_map]; omega
      have hpo : (((o.map iV).take (o.length * 1)).drop (at_ * 1)).all (·.oneCell') = true := by
        rw [List.all_eq_true]
        intro x hx
        obtain ⟨y, _, rfl⟩ := List.mem_map.1 (List.mem_of_mem_take (List.mem_of_mem_drop hx))
        rfl
      have hpo2 : ([iV y] ++ ((o.map iV).take (o.length * 1)).drop (at_ * 1)).all (·.oneCell') = true := by rw [List.all_append, hpo]; rfl
      have hfull : OwnF w4 3 1 (.slice (slP q 0 at_ 1) (at_ - 0) (at_ - 0)) at_ ((o.take at_).map iV) := by
        cases q with
        | none =>
          obtain ⟨rfl, rfl⟩ := hqn rfl
          obtain rfl : at_ = 0 := by simpa using hat
          exact .inl (Own.nil _ _ _)
        | some b =>
          have h1 := SlR.part (l := 0) (h := at_) (m := at_) (s := 1) hq (Nat.zero_le _) (Nat.le_refl _) (by simp; omega)
          have h2 : ∃ b', slP (some b) 0 at_ 1 = some b' := by unfold slP; split <;> exact ⟨_, rfl⟩
          obtain ⟨b', hb'⟩ := h2
          rw [hb'] at h1 ⊢
          refine .inr ⟨by simp; omega, b', rfl, ?_⟩
          have h1 : Row w4 b' _ := h1
          simpa [List.map_take] using h1
      have hblk : ∀ kk, (Value.slice (slP q 0 at_ 1) (at_ - 0) (at_ - 0)).ownBlock = some kk → (Value.slice q o.length oc).ownBlock = some kk := by
        intro kk hk
        cases q with
        | none => unfold slP at hk; split at hk <;> cases hk
        | some b =>
          unfold slP at hk
          split at hk
          · exact hk
          · rw [← hk]; show some b.block = some (b.add _).block; rw [add_block]
      have ins : ∀ ρ : Fr, insU o y = o.take at_ ++ ([y] ++ o.drop at_) → ρ 1 = iV k → ρ 5 = .slice q o.length oc → ρ 8 = iV y → ρ 9 = iV (at_ : Nat) → ρ 10 = .slice (some a) n c → ρ 11 = iV n → ρ 12 = iV i → ρ 44 = .bool true → K3 ρ w4 := by
        intro ρ hin q1 q5 q8 q9 q10 q11 q12 q44
        rw [u8 q1 q5 q8 q9 q10 q11 q12 q44]
        refine hK3 _ _ ?_
        refine W_if rfl (fun _ => ?_) (fun h => by cases h)
        have hEx : ∀ {w6 w7 : World}, Ext { w4 with drawn := w4.drawn + 1 } w6 → Mod (fun kk => (Value.slice (some ⟨w4.heap.size, 0, none⟩) 1 1).ownBlock = some kk) w6 w7 → Ext w4 w7 := fun h1 h2 => Ext.thenMod (Ext.drew0.trans h1) h2 (fun kk hk he => by cases he; exact Nat.lt_irrefl _ hk)
        refine W_d (fun _ => True) [] orders (D_pure 0 rfl rfl (by kernel_rfl) rfl (fun _ => r_mv rfl) (fun _ => trivial) (D_pure 1 rfl rfl (by kernel_rfl) rfl (fun _ => r_mv rfl) (fun _ => trivial) (D_pure 2 rfl rfl (by kernel_rfl) rfl (fun _ => r_mv rfl) (fun _ => trivial) (D_pure 3 rfl rfl (by kernel_rfl) rfl (fun _ => r_slc E rfl rfl (sb_hm (h := at_) (m := at_) rfl rfl (Nat.le_refl _) (by omega))) (fun _ => trivial) (D_pure 4 rfl rfl (by kernel_rfl) rfl (fun _ => r_mv rfl) (fun _ => trivial) (D_pure 6 rfl rfl (by kernel_rfl) rfl (fun _ => r_mv rfl) (fun _ => trivial) (D_pure 7 rfl rfl (by kernel_rfl) rfl (fun _ => r_mv rfl) (fun _ => trivial) (D_pure 8 rfl rfl (by kernel_rfl) rfl (fun _ => r_slc E rfl rfl (sb_l (l := at_) rfl hat)) (fun _ => trivial) (D_one 5 rfl (by kernel_rfl) rfl (s_bsA E rfl rfl rfl rfl rfl (cells := #[iV y]) (by kernel_rfl) fun w6 hE6 hh6 hs6 => (s_nil ⟨trivial, (D_one 9 rfl (by kernel_rfl) rfl (s_apP E rfl rfl rfl rfl (own_lit (vs := [iV y]) (n := 1) hh6 rfl (by decide)) rfl rfl hnn (Ext.sl (Ext.drew0.trans hE6) hparts) hpl hpo (by omega) fun v7 w7 ho7 hM7 hon7 => (s_nil ⟨trivial, (D_one 10 rfl (by kernel_rfl) rfl (s_apFO E rfl rfl rfl rfl (OwnF.mod (hEx hE6 hM7) hfull (fun _ _ h => h)) rfl rfl ho7 (by omega) hpo2 (by omega) fun v8 w8 ho8 hM8 hon8 => (s_nil ⟨trivial, (D_one 11 rfl (by kernel_rfl) rfl (s_as rfl (s_nil ⟨trivial, (D_done (by kernel_rfl) ?_)⟩)))⟩)))⟩)))⟩)))))))))))
        have hE7 := hEx hE6 hM7
        have hS7 := hS.ext_ hE7
        have hlen : (o.take at_ ++ ([y] ++ o.drop at_)).length = at_ + (1 + (o.length - at_)) := by simp; omega
        have hS8 := hS7.upd 0 rfl (Mod.mono hM8 (fun kk _ h => hblk kk h)) (ow 3 1 v8 (o.take at_ ++ ([y] ++ o.drop at_)).length ((o.take at_ ++ ([y] ++ o.drop at_)).map iV))
          (by
            have : (o.take at_ ++ ([y] ++ o.drop at_)).map iV = (o.take at_).map iV ++ ([iV y] ++ ((o.map iV).take (o.length * 1)).drop (at_ * 1)) := by
              rw [List.map_append, List.map_append, Nat.mul_one, Nat.mul_one, List.take_of_length_le (l := o.map iV) (i := o.length) (by simp), List.map_drop]; rfl
            rw [hlen, this]
            exact ho8) (fun kk hk => by
            have hk' : v8.ownBlock = some kk := hk
            rcases hon8 with h2 | ⟨j, h2, h3⟩
            · left; exact hblk kk (by rw [← h2]; exact hk')
            · right; rw [h2] at hk'; cases hk'
              exact ⟨h3, Own.lt ho8 h2⟩) (Nat.zero_le _)
        exact H _ _ v8 _ hin (by rw [hlen]; omega) hS8 rfl rfl rfl rfl rfl
      have same : ∀ ρ : Fr, insU o y = o → ρ 1 = iV k → ρ 5 = .slice q o.length oc → ρ 8 = iV y → ρ 9 = iV (at_ : Nat) → ρ 10 = .slice (some a) n c → ρ 11 = iV n → ρ 12 = iV i → ρ 44 = .bool false → K3 ρ w4 := by
        intro ρ hin q1 q5 q8 q9 q10 q11 q12 q44
        rw [u8 q1 q5 q8 q9 q10 q11 q12 q44]
        refine hK3 _ _ ?_
        refine W_if rfl (fun h => by cases h) (fun _ => W_skip ?_)
        exact H _ _ (.slice q o.length oc) o hin (by omega) hS rfl rfl rfl rfl rfl
      by_cases h0 : at_ = o.length
      · refine W_reg rfl (s_mv rfl (s_mv rfl (s_len E rfl rfl (s_cmp (c := true) rfl rfl (decide_eq_true (show ((at_ : Nat) : Int) = ((o.length : Nat) : Int) by omega)) (s_mv rfl (s_g0 rfl (s_g0 rfl (s_g0 rfl (s_g0 rfl (s_g0 rfl (s_g0 rfl (s_pk rfl (s_nil ?_)))))))))))))
        exact ins _ (by rw [heq, if_neg (by omega)]) rfl rfl rfl rfl rfl rfl rfl rfl
      have h0' : at_ < o.length := by omega
      obtain ⟨b, rfl, hcell⟩ := sl_map hq h0'
      obtain ⟨z, hz⟩ : ∃ z, z = o[at_] := ⟨_, rfl⟩
      rw [← hz] at hcell
      have hget : o.getD at_ 0 = z := by rw [hz]; simp [h0']
      by_cases h1 : z = y
      · refine W_reg rfl (s_mv rfl (s_mv rfl (s_len E rfl rfl (s_cmp (c := false) rfl rfl (decide_eq_false (show ¬ ((at_ : Nat) : Int) = ((o.length : Nat) : Int) by omega)) (s_mv rfl (s_g1 rfl (s_mv rfl (s_g1 rfl (s_mv rfl (s_g1 rfl (s_ia E rfl rfl rfl rfl h0' (s_g1 rfl (s_ld E rfl rfl hcell (s_g1 rfl (s_mv rfl (s_g1 rfl (s_cmp (c := false) rfl rfl (decide_eq_false (fun h => h h1)) (s_pk rfl (s_nil ?_)))))))))))))))))))
        exact same _ (by rw [heq, hget, if_pos ⟨h0', h1⟩]) rfl rfl rfl rfl rfl rfl rfl rfl
      · refine W_reg rfl (s_mv rfl (s_mv rfl (s_len E rfl rfl (s_cmp (c := false) rfl rfl (decide_eq_false (show ¬ ((at_ : Nat) : Int) = ((o.length : Nat) : Int) by omega)) (s_mv rfl (s_g1 rfl (s_mv rfl (s_g1 rfl (s_mv rfl (s_g1 rfl (s_ia E rfl rfl rfl rfl h0' (s_g1 rfl (s_ld E rfl rfl hcell (s_g1 rfl (s_mv rfl (s_g1 rfl (s_cmp (c := true) rfl rfl (decide_eq_true h1) (s_pk rfl (s_nil ?_)))))))))))))))))))
        exact ins _ (by rw [heq, hget, if_neg (fun h => h1 h.2)]) rfl rfl rfl rfl rfl rfl rfl rfl
    refine W_block ?_
    refine W_loop (fun m ρ w' => ∃ ρ' j, ρ = upd (upd (upd (upd (upd (upd (upd ρ' 1 (iV k)) 5 (.slice q o.length oc)) 8 (iV y)) 9 (iV (j : Nat))) 10 (.slice (some a) n c)) 11 (iV n)) 12 (iV i) ∧ w' = w4 ∧ j ≤ o.length ∧ m = o.length - j ∧ ∀ t (h : t < o.length), t < j → o[t] < y) o.length
      ⟨_, 0, u7 rfl rfl rfl rfl rfl rfl rfl, rfl, by omega, by omega, fun _ _ h => by omega⟩ ?_
    rintro m _ _ ⟨ρ, j, rfl, rfl, hj, rfl, hlt⟩
    refine W_seq ?_
    by_cases h0 : j < o.length
    case neg =>
      have h0 : ¬ ((j : Nat) : Int) < ((o.length : Nat) : Int) := by omega
      refine W_sr rfl (s_mv rfl (s_mv rfl (s_len E rfl rfl (s_cmp (c := false) rfl rfl (decide_eq_false h0) (s_mv rfl (s_g0 rfl (s_g0 rfl (s_g0 rfl (s_g0 rfl (s_g0 rfl (s_g0 rfl (s_pk rfl (s_nil ?_)))))))))))))
      refine W_if rfl (fun h => by cases h) (fun _ => W_exit ?_)
      exact H2 _ j hj (takeWhile_at hj (fun t ht => decide_eq_true (hlt t (by omega) ht)) (fun h => by omega)) rfl rfl rfl rfl rfl rfl rfl
    obtain ⟨b, rfl, hcell⟩ := sl_map hq h0
    obtain ⟨z, hz⟩ : ∃ z, z = o[j] := ⟨_, rfl⟩
    rw [← hz] at hcell
    have h0' : ((j : Nat) : Int) < ((o.length : Nat) : Int) := by omega
    by_cases h1 : z < y
    · refine W_sr rfl (s_mv rfl (s_mv rfl (s_len E rfl rfl (s_cmp (c := true) rfl rfl (decide_eq_true h0') (s_mv rfl (s_g1 rfl (s_mv rfl (s_g1 rfl (s_mv rfl (s_g1 rfl (s_ia E rfl rfl rfl rfl h0 (s_g1 rfl (s_ld E rfl rfl hcell (s_g1 rfl (s_mv rfl (s_g1 rfl (s_cmp (c := true) rfl rfl (decide_eq_true h1) (s_pk rfl (s_nil ?_)))))))))))))))))))
      refine W_if rfl (fun _ => W_skip ?_) (fun h => by cases h)
      refine W_block ?_
      refine W_reg rfl (s_mv rfl (s_add rfl rfl (by omega) (s_as rfl (s_nil ?_))))
      refine ⟨o.length - (j + 1), by omega, _, j + 1, u7 rfl rfl rfl rfl rfl rfl rfl, rfl, by omega, rfl, fun t ht htj => ?_⟩
      by_cases e : t = j
      · subst e; rw [← hz]; exact h1
      · exact hlt t ht (by omega)
    · refine W_sr rfl (s_mv rfl (s_mv rfl (s_len E rfl rfl (s_cmp (c := true) rfl rfl (decide_eq_true h0') (s_mv rfl (s_g1 rfl (s_mv rfl (s_g1 rfl (s_mv rfl (s_g1 rfl (s_ia E rfl rfl rfl rfl h0 (s_g1 rfl (s_ld E rfl rfl hcell (s_g1 rfl (s_mv rfl (s_g1 rfl (s_cmp (c := false) rfl rfl (decide_eq_false h1) (s_pk rfl (s_nil ?_)))))))))))))))))))
      refine W_if rfl (fun h => by cases h) (fun _ => W_exit ?_)
      exact H2 _ j hj (takeWhile_at hj (fun t ht => decide_eq_true (hlt t (by omega) ht)) (fun h => by rw [← hz]; exact decide_eq_false h1)) rfl rfl rfl rfl rfl rfl rfl
  · have hc := of_decide_eq_false hc
    refine W_sr rfl (s_mv rfl (s_as rfl (s_nil ?_)))
    have e : l.take i = l := List.take_of_length_le (by omega)
    rw [e] at hfo
    refine W_ret ⟨_, rfl, ?_, fun j hj => (hS.getL 0 rfl hj).1, hS.ext⟩
    rw [hfo]
    exact hS.own 0 rfl
end
end Go.Proofs.YthfnijlgmjkedaaGreat
namespace Go.Proofs.YthfnijlgmjkedaaGreat
set_option maxRecDepth 100000
set_option maxHeartbeats 2000000
set_option linter.unusedVariables false
set_option linter.unusedSimpArgs false
open Go Go.Fx Go.Proofs.YthfnijlgmjkedaaGreat.Tab
/-! ## the reference's file -/
def rT (m : Me) (k : Nat) : List Int := (m.chars.map (dimF k)).foldl insU []
def rDim (m : Me) (c : Ch) (j : Nat) : List Int := bytes2 (fidx (rT m j) (dimF j c))
def rCh (m : Me) (c : Ch) : List Int := [c.code % 256] ++ (List.range 3).flatMap (rDim m c)
def rTabs (m : Me) (i : Nat) : List Int := (List.range i).flatMap fun j => tabBytes (rT m j)
def rbody (m : Me) : List Int := headB m ++ rTabs m 3 ++ bytes2 m.chars.length ++ m.chars.flatMap (rCh m) ++ bytes2 m.rules.length ++ m.rules.flatMap ruBytes
def fileR (m : Me) : List Int := rbody m ++ bytes4 (sumB (rbody m))
theorem insU_len (l : List Int) (n : Int) : (insU l n).length ≤ l.length + 1 := by
  have h := List.Sublist.length_le (List.takeWhile_sublist (fun y => decide (y < n)) (l := l))
  unfold insU; simp only; split
  · omega
  · simp; omega
theorem foldU_len (l : List Int) : ∀ o : List Int, (l.foldl insU o).length ≤ o.length + l.length := by
  induction l with
  | nil => intro o; simp
  | cons a l ih => intro o; have := ih (insU o a); have := insU_len o a; simp only [List.foldl_cons, List.length_cons]; omega
theorem rT_len (m : Me) (k : Nat) : (rT m k).length ≤ m.chars.length := by have := foldU_len (m.chars.map (dimF k)) []; simpa [rT] using this
theorem byt_app {a b : List Int} (h : byt a) (k : byt b) : byt (a ++ b) := fun x hx => by
  rcases List.mem_append.1 hx with h1 | h1
  · exact h x h1
  · exact k x h1
theorem byt_flat {α : Type} {f : α → List Int} {l : List α} (h : ∀ x, byt (f x)) : byt (l.flatMap f) := fun x hx => by
  obtain ⟨y, _, hy⟩ := List.mem_flatMap.1 hx
  exact h y x hy
theorem byt_mod (x : Int) : byt [x % 256] := fun y hy => by rw [List.mem_singleton] at hy; subst hy; omega
theorem byt_2 (x : Int) : byt (bytes2 x) := fun y hy => by
  simp only [bytes2, List.mem_cons, List.not_mem_nil, or_false] at hy
  rcases hy with rfl | rfl <;> omega
theorem byt_4 (x : Int) : byt (bytes4 x) := fun y hy => by
  simp only [bytes4, List.mem_cons, List.not_mem_nil, or_false] at hy
  rcases hy with rfl | rfl | rfl | rfl <;> omega
theorem byt_ru (r : Ru) : byt (ruBytes r) := byt_app (byt_app (byt_app (byt_mod _) (byt_mod _)) (byt_mod _)) (byt_4 _)
theorem byt_head (m : Me) : byt (headB m) := byt_app (by intro x hx; simp [magicB] at hx; omega) (byt_4 _)
theorem byt_rbody (m : Me) : byt (rbody m) :=
  byt_app (byt_app (byt_app (byt_app (byt_app (byt_head m) (byt_flat fun _ => byt_app (byt_2 _) (byt_flat byt_4))) (byt_2 _)) (byt_flat fun _ => byt_app (byt_mod _) (byt_flat fun _ => byt_2 _))) (byt_2 _)) (byt_flat byt_ru)
section
variable {w : World}
theorem bytes4_c {v : Value} {xs : List Int} {x : Int} (ho : OwnF w 5 1 v xs.length (xs.map bV)) (hl : xs.length ≤ 1000100) :
    Ret Go.Proofs.Tryz.prog 78 #[v, iV x, iV 4] w fun v' w' => Own w' 5 1 v' (xs ++ bytes4 x).length ((xs ++ bytes4 x).map bV) ∧ Mod (fun k => v.ownBlock = some k) w w' ∧ OldOrNew w v v' :=
  (fleuronref27_Bytes_c (many := 4) ho rfl hl (by decide)).mono fun v' w' h => ⟨by rw [List.length_append]; rw [bytesK4] at h; exact h.1, h.2⟩
theorem bytes2_c {v : Value} {xs : List Int} {x : Int} (ho : OwnF w 5 1 v xs.length (xs.map bV)) (hl : xs.length ≤ 1000100) :
    Ret Go.Proofs.Tryz.prog 78 #[v, iV x, iV 2] w fun v' w' => Own w' 5 1 v' (xs ++ bytes2 x).length ((xs ++ bytes2 x).map bV) ∧ Mod (fun k => v.ownBlock = some k) w w' ∧ OldOrNew w v v' :=
  (fleuronref27_Bytes_c (many := 2) ho rfl hl (by decide)).mono fun v' w' h => ⟨by rw [List.length_append]; rw [bytesK2] at h; exact h.1, h.2⟩
theorem lit_push {w0 w1 w2 w3 : World} {C : List Chunk} {e : TypeId} {n : Nat} {vs : List Value} (hS : Sep w0 w1 C) (hE : Ext w1 w2) (hh : w2.heap[w1.heap.size]? = some (.cells vs.toArray e (0, 0))) (hs : w2.heap.size = w1.heap.size + 1)
    (hM : Mod (fun k => k = (⟨w1.heap.size, 0, none⟩ : Addr).block) w2 w3) (hc : ∀ p, w3.cell? p = w2.cell? p) (hn : vs.length = n) : Sep w0 w3 (C ++ [owF e 1 (.slice (some ⟨w1.heap.size, 0, none⟩) n n) n vs]) := by
  refine hS.push (Ext.thenMod hE hM (fun k hk he => ?_)) _ (.inr ⟨by rw [Nat.mul_one]; exact hn, _, rfl, fun i x hx => ?_⟩) (fun k hk => ?_) (Nat.zero_le _)
  · have he : k = w1.heap.size := he
    omega
  · rw [hc]
    have := row_heap hh
    simp only [] at this
    exact this i x hx
  · have hk : some w1.heap.size = some k := hk
    cases hk
    have := hM.size
    omega
def flL (gm gt : Nat) (mc : List Value) (vo : Value) (bs : List Int) (u : Nat → Value) (T : Nat → List Int) : List Chunk :=
  [cl gm mc 25, owF 5 1 vo bs.length (bs.map bV), cl gt [u 0, u 1, u 2] 73, ow 3 1 (u 0) (T 0).length ((T 0).map iV), ow 3 1 (u 1) (T 1).length ((T 1).map iV), ow 3 1 (u 2) (T 2).length ((T 2).map iV)]
theorem flL_set {w0 w w' : World} {gm gt : Nat} {mc : List Value} {vo : Value} {bs : List Int} {u : Nat → Value} {T : Nat → List Int} {k : Nat} (hk : k < 3) {x : Value} {t : List Int} (hS : Sep w0 w (flL gm gt mc vo bs u T)) (hE : Ext w w') (ho : Own w' 3 1 x t.length (t.map iV)) (hn : ∀ j, x.ownBlock = some j → w.heap.size ≤ j) :
    Sep w0 w' ([cl gm mc 25, owF 5 1 vo bs.length (bs.map bV), cl gt [u 0, u 1, u 2] 73, ow 3 1 (updV u k x 0) (updT T k t 0).length ((updT T k t 0).map iV), ow 3 1 (updV u k x 1) (updT T k t 1).length ((updT T k t 1).map iV), ow 3 1 (updV u k x 2) (updT T k t 2).length ((updT T k t 2).map iV)]) := by
  have h3 : k = 0 ∨ k = 1 ∨ k = 2 := by omega
  rcases h3 with rfl | rfl | rfl
  · exact hS.upd 3 rfl (Mod.of_ext hE) (ow 3 1 x t.length (t.map iV)) ho (fun j hj => .inr ⟨hn j hj, Own.lt ho hj⟩) (Nat.zero_le _)
  · exact hS.upd 4 rfl (Mod.of_ext hE) (ow 3 1 x t.length (t.map iV)) ho (fun j hj => .inr ⟨hn j hj, Own.lt ho hj⟩) (Nat.zero_le _)
  · exact hS.upd 5 rfl (Mod.of_ext hE) (ow 3 1 x t.length (t.map iV)) ho (fun j hj => .inr ⟨hn j hj, Own.lt ho hj⟩) (Nat.zero_le _)
theorem flL_own {gm gt : Nat} {mc : List Value} {vo : Value} {bs : List Int} {u : Nat → Value} {T : Nat → List Int} {k : Nat} (hk : k < 3) : (flL gm gt mc vo bs u T)[3 + k]? = some (ow 3 1 (u k) (T k).length ((T k).map iV)) := by
  have h3 : k = 0 ∨ k = 1 ∨ k = 2 := by omega
  rcases h3 with rfl | rfl | rfl <;> rfl
def rTk (m : Me) (k : Nat) : Nat → List Int := fun j => if j < k then rT m j else []
theorem rTk_succ (m : Me) (k : Nat) : updT (rTk m k) k (rT m k) = rTk m (k + 1) := by
  funext j; unfold updT rTk
  by_cases h : j = k
  · subst h; simp
  · rw [if_neg h]
    by_cases h2 : j < k
    · rw [if_pos h2, if_pos (by omega)]
    · rw [if_neg h2, if_neg (by omega)]
theorem fleuronref27_File_c {m : Me} {p q : Option Addr} {c d : Nat} (hm : MeR w m p q) (hb1 : m.chars.length ≤ 1000) (hb2 : m.rules.length ≤ 1000) :
    Ret Go.Proofs.Tryz.prog 31 #[meV m p q c d] w fun v w' => (∃ pp cc, v = .slice pp (fileR m).length cc ∧ (fileR m).length ≤ cc ∧ SlR w' pp ((fileR m).map bV)) ∧ Ext w w' := by
  refine enter Go.Proofs.Tryz.func31 rfl rfl rfl ?_
  have hS := Sep.start (w := w)
  refine W_sr rfl (s_bxS hS (vs := meC m p q c d) rfl rfl fun w1 gm hS => (s_as rfl (s_nil ?_)))
  refine W_sr rfl (s_bsA E rfl rfl rfl rfl rfl (cells := #[bV 70, bV 77, bV 69, bV 84]) (by kernel_rfl) fun w2 hE2 hh2 hs2 => (s_cvs E rfl rfl rfl fun w3 hmod3 hc3 => have hS := lit_push (vs := magicB.map bV) (n := magicB.length) hS hE2 hh2 hs2 hmod3 hc3 rfl; (s_fa E rfl rfl (s_ld E rfl rfl (hS.cell 0 rfl rfl) (s_bytes hS 1 rfl rfl rfl (bytes4_c (x := m.size) (hS.ownF 1 rfl) (by decide)) fun vo w4 hS => (s_as rfl (s_nil ?_)))))))
  refine W_sr rfl (s_alS hS E rfl rfl fun w5 gt hS => (s_nil ?_))
  have hS := ((hS.nil 3 1).nil 3 1).nil 3 1
  obtain ⟨mc, hmc⟩ : ∃ mc, mc = meC m p q c d := ⟨_, rfl⟩
  have hS : Sep w w5 (flL gm gt mc vo (headB m) (fun _ => .slice none 0 0) (rTk m 0)) := by subst hmc; exact hS
  refine W_n3 1 3 4 (.pointer (some ⟨gm, 0, none⟩)) vo (.pointer (some ⟨gt, 0, none⟩)) rfl rfl rfl fun ρ => ?_
  have hlen0 : (headB m).length ≤ 8 := by simp [headB, magicB, bytes4]
  have hmc1 : mc[1]? = some (.slice p m.chars.length c) := by subst hmc; rfl
  have hmc2 : mc[2]? = some (.slice q m.rules.length d) := by subst hmc; rfl
  refine W_sk fun K hK => ?_
  have H : ∀ (ρ : Fr) w' vo u bs, bs = headB m ++ rTabs m 3 → bs.length ≤ 13000 → Sep w w' (flL gm gt mc vo bs u (rTk m 3)) → ρ 1 = .pointer (some ⟨gm, 0, none⟩) → ρ 3 = vo → ρ 4 = .pointer (some ⟨gt, 0, none⟩) → K ρ w' := by
    intro ρ w6 vo u bs hbs hbl hS q1 q3 q4
    rw [u3 q1 q3 q4]
    refine hK _ _ ?_
    clear hK
    refine W_sr rfl (s_mv rfl (s_fa E rfl rfl (s_ld E rfl rfl (hS.cell 0 rfl hmc1) (s_len E rfl rfl (s_bytes hS 1 rfl rfl rfl (bytes2_c (x := (m.chars.length : Nat)) (hS.ownF 1 rfl) (by omega)) fun vo w7 hS => (s_as rfl (s_nil ?_)))))))
    obtain ⟨b1, hb1e⟩ : ∃ b1, b1 = bs ++ bytes2 (m.chars.length : Nat) := ⟨_, rfl⟩
    rw [← hb1e] at hS
    have hS : Sep w w7 (flL gm gt mc vo b1 u (rTk m 3)) := hS
    have hl1 : b1.length ≤ 13002 := by rw [hb1e, List.length_append]; have : (bytes2 (m.chars.length : Nat)).length = 2 := rfl; omega
    obtain ⟨l, hl⟩ : ∃ l, l = m.chars := ⟨_, rfl⟩
    have hpc := hm.ch
    refine W_sk fun K hK => ?_
    have H : ∀ (ρ : Fr) w' vo b2, b2 = b1 ++ m.chars.flatMap (rCh m) → b2.length ≤ 21000 → Sep w w' (flL gm gt mc vo b2 u (rTk m 3)) → ρ 1 = .pointer (some ⟨gm, 0, none⟩) → ρ 3 = vo → K ρ w' := by
      intro ρ w8 vo b2 hb2 hbl2 hS q1 q3
      rw [u2 q1 q3]
      refine hK _ _ ?_
      clear hK
      refine W_sr rfl (s_mv rfl (s_fa E rfl rfl (s_ld E rfl rfl (hS.cell 0 rfl hmc2) (s_len E rfl rfl (s_bytes hS 1 rfl rfl rfl (bytes2_c (x := (m.rules.length : Nat)) (hS.ownF 1 rfl) (by omega)) fun vo w9 hS => (s_as rfl (s_nil ?_)))))))
      obtain ⟨b3, hb3e⟩ : ∃ b3, b3 = b2 ++ bytes2 (m.rules.length : Nat) := ⟨_, rfl⟩
      rw [← hb3e] at hS
      have hS : Sep w w9 (flL gm gt mc vo b3 u (rTk m 3)) := hS
      have hl3 : b3.length ≤ 21002 := by rw [hb3e, List.length_append]; have : (bytes2 (m.rules.length : Nat)).length = 2 := rfl; omega
      have hpr := hm.ru
      obtain ⟨n, hn⟩ : ∃ n, n = m.rules.length := ⟨_, rfl⟩
      obtain ⟨k, hk⟩ : ∃ k, k = m.rules := ⟨_, rfl⟩
      have hnk : n = k.length := by rw [hn, hk]
      refine W_seq ?_
      refine W_sr rfl (s_fa E rfl rfl (s_ld E rfl rfl (hS.cell 0 rfl hmc2) (s_len E rfl rfl (s_mv rfl (s_nil ?_)))))
      refine W_block ?_
      refine W_loop (fun r ρ w' => ∃ ρ' j vo, ρ = upd (upd (upd (upd (upd ρ' 1 (.pointer (some ⟨gm, 0, none⟩))) 3 vo) 84 (.slice q n d)) 85 (iV n)) 86 (iV (j : Nat)) ∧ j ≤ n ∧ r = n - j ∧
          Sep w w' (flL gm gt mc vo (b3 ++ (k.take j).flatMap ruBytes) u (rTk m 3))) n ⟨_, 0, vo, u5 rfl rfl (by rw [hn]; rfl) (by rw [hn]; rfl) rfl, by omega, rfl, by simpa using hS⟩ ?_
      clear hS
      rw [← hk] at hpr
      rintro r _ w10 ⟨ρ, j, vo, rfl, hj, rfl, hS⟩
      have hl10 : (b3 ++ (k.take j).flatMap ruBytes).length ≤ 21002 + 7 * j := by
        have h1 := flat_len_le ruBytes 7 ruBytes_len (k.take j)
        have h2 : (k.take j).length ≤ j := by simp; omega
        rw [List.length_append]; omega
      refine W_sr rfl (s_lss rfl rfl (s_nil ?_))
      refine W_seq ?_
      refine W_if rfl (fun hd => W_skip ?_) (fun hd => W_exit ?_)
      · have hd := of_decide_eq_true hd
        have hjl : j < k.length := by omega
        obtain ⟨a, hqa, hrow⟩ := hpr.some (by intro h0; have := flat_length ruC 4 ruC_len k; rw [h0] at this; simp at this; omega)
        obtain ⟨x, hx⟩ : ∃ x, x = k[j] := ⟨_, rfl⟩
        have hrr := Ext.row hS.ext (hrow.at ruC_len hjl)
        rw [← hx] at hrr
        refine W_seq (W_block ?_)
        refine W_sr rfl (s_ia E rfl (congrArg (fun z => Value.slice z n d) hqa) rfl rfl (by omega) (s_lda E rfl rfl hrr rfl (s_alS hS E rfl rfl fun w11 g hS => (s_stS hS 6 E (us := ruC x) rfl rfl rfl rfl rfl rfl rfl rfl rfl rfl fun w12 hS => (s_nil ?_)))))
        refine W_sr rfl (s_mv rfl (s_fa E rfl rfl (s_ld E rfl rfl (hS.cell 6 rfl rfl) (s_cvb E rfl rfl rfl (s_fa E rfl rfl (s_ld E rfl rfl (hS.cell 6 rfl rfl) (s_cvb E rfl rfl rfl (s_fa E rfl rfl (s_ld E rfl rfl (hS.cell 6 rfl rfl) (s_cvb E rfl rfl rfl (s_bsA E rfl rfl rfl rfl rfl (cells := #[bV (x.first % 256), bV (x.next % 256), bV (x.op % 256)]) (by kernel_rfl) fun w13 hE13 hh13 hs13 => have hS := hS.ext_ hE13; (s_apFS hS 1 E rfl rfl rfl rfl rfl rfl rfl (row_heap hh13) rfl rfl rfl (by omega) fun vo w14 hS => (s_as rfl (s_nil ?_))))))))))))))
        have hS : Sep w w14 (flL gm gt mc vo (b3 ++ (k.take j).flatMap ruBytes ++ [x.first % 256, x.next % 256, x.op % 256]) u (rTk m 3) ++ [cl g (ruC x) 45]) := by
          unfold flL
          rw [List.length_append, List.map_append]
          exact hS
        refine W_reg rfl (s_mv rfl (s_fa E rfl rfl (s_ld E rfl rfl (hS.cell 6 rfl rfl) (s_bytes hS 1 rfl rfl rfl (bytes4_c (x := x.value) (hS.ownF 1 rfl) (by rw [List.length_append]; show _ + 3 ≤ _; omega)) fun vo w15 hS => (s_as rfl (s_nil ?_))))))
        refine W_reg rfl (s_add rfl rfl (by omega) (s_mv rfl (s_nil ?_)))
        refine ⟨n - (j + 1), by omega, _, j + 1, vo, u5 rfl rfl rfl rfl rfl, by omega, rfl, ?_⟩
        have e : b3 ++ (k.take (j + 1)).flatMap ruBytes = b3 ++ (k.take j).flatMap ruBytes ++ [x.first % 256, x.next % 256, x.op % 256] ++ bytes4 x.value := by
          rw [flat_take ruBytes k j hjl, ← hx]; simp [ruBytes]
        rw [e]
        exact hS.take 6
      · have hd := of_decide_eq_false hd
        have e : k.take j = k := List.take_of_length_le (by omega)
        rw [e, hk] at hS hl10
        have e2 : b3 ++ m.rules.flatMap ruBytes = rbody m := by rw [hb3e, hb2, hb1e, hbs]; rfl
        rw [e2] at hS hl10
        have ho := hS.ownF 1 rfl
        obtain ⟨po, co, hvo, _, _⟩ := ho.form
        have call : Ret Go.Proofs.Tryz.prog 81 #[vo] w10 fun v' w' => Own w' 5 1 v' ((rbody m).length + 4) ((rbody m ++ bytes4 (sumB (rbody m))).map bV) ∧ Mod (fun k => vo.ownBlock = some k) w10 w' ∧ OldOrNew w10 vo v' := by
          rw [hvo] at ho ⊢
          exact fleuronref27_Closed_c ho rfl (by omega) (byt_rbody m)
        refine W_sr rfl (s_mv rfl (s_call rfl rfl call fun v11 w11 h11 => (s_as rfl (s_nil ?_))))
        obtain ⟨ho11, hM11, _⟩ := h11
        obtain ⟨pv, cv, rfl, hsv, hcv, _⟩ := ho11.form
        have hfl : (fileR m).length = (rbody m).length + 4 := by unfold fileR; rw [List.length_append]; rfl
        refine W_ret ⟨_, rfl, ⟨pv, cv, ?_, by omega, hsv⟩, Ext.thenMod hS.ext hM11 (fun kk hk hck => by have := (hS.getL 1 rfl hck).1; omega)⟩
        rw [hfl]; rfl
    obtain ⟨n, hn⟩ : ∃ n, n = m.chars.length := ⟨_, rfl⟩
    have hnl : n = l.length := by rw [hn, hl]
    have hlc : l.length ≤ 1000 := by rw [hl]; exact hb1
    refine W_n3 1 3 4 (.pointer (some ⟨gm, 0, none⟩)) vo (.pointer (some ⟨gt, 0, none⟩)) rfl rfl rfl fun ρ => ?_
    refine W_sr rfl (s_fa E rfl rfl (s_ld E rfl rfl (hS.cell 0 rfl hmc1) (s_len E rfl rfl (s_mv rfl (s_nil ?_)))))
    refine W_block ?_
    refine W_loop (fun r ρ w' => ∃ ρ' j vo, ρ = upd (upd (upd (upd (upd (upd ρ' 1 (.pointer (some ⟨gm, 0, none⟩))) 3 vo) 4 (.pointer (some ⟨gt, 0, none⟩))) 52 (.slice p n c)) 53 (iV n)) 54 (iV (j : Nat)) ∧ j ≤ n ∧ r = n - j ∧
        (b1 ++ (l.take j).flatMap (rCh m)).length ≤ 13002 + 7 * j ∧ Sep w w' (flL gm gt mc vo (b1 ++ (l.take j).flatMap (rCh m)) u (rTk m 3))) n
      ⟨_, 0, vo, u6 rfl rfl rfl (by rw [hn]; rfl) (by rw [hn]; rfl) rfl, by omega, rfl, by simpa using hl1, by simpa using hS⟩ ?_
    clear hS
    rw [← hl] at hpc
    rintro r _ w8 ⟨ρ, j, vo, rfl, hj, rfl, hlb, hS⟩
    refine W_sr rfl (s_lss rfl rfl (s_nil ?_))
    refine W_seq ?_
    refine W_if rfl (fun hd => W_skip ?_) (fun hd => W_exit ?_)
    · have hd := of_decide_eq_true hd
      have hjl : j < l.length := by omega
      obtain ⟨a, hpa, hrow⟩ := hpc.some (by intro h0; have := flat_length chC 4 chC_len l; rw [h0] at this; simp at this; omega)
      obtain ⟨x, hx⟩ : ∃ x, x = l[j] := ⟨_, rfl⟩
      have hrr := Ext.row hS.ext (hrow.at chC_len hjl)
      rw [← hx] at hrr
      obtain ⟨bs', hbs'⟩ : ∃ b, b = b1 ++ (l.take j).flatMap (rCh m) := ⟨_, rfl⟩
      have hnext : b1 ++ (l.take (j + 1)).flatMap (rCh m) = bs' ++ [x.code % 256] ++ (List.range 3).flatMap (rDim m x) := by
        rw [flat_take (rCh m) l j hjl, ← hx, hbs']; simp only [rCh, List.append_assoc]
      rw [← hbs'] at hS hlb
      refine W_sk fun K2 hK2 => ?_
      have H2 : ∀ (ρ : Fr) w' vo, Sep w w' (flL gm gt mc vo (bs' ++ [x.code % 256] ++ (List.range 3).flatMap (rDim m x)) u (rTk m 3)) → (bs' ++ [x.code % 256] ++ (List.range 3).flatMap (rDim m x)).length ≤ 13002 + 7 * (j + 1) → ρ 1 = .pointer (some ⟨gm, 0, none⟩) → ρ 3 = vo → ρ 4 = .pointer (some ⟨gt, 0, none⟩) → ρ 52 = .slice p n c → ρ 53 = iV n → ρ 54 = iV j → K2 ρ w' := by
        intro ρ w' vo hS hlen q1 q3 q4 q52 q53 q54
        rw [u6 q1 q3 q4 q52 q53 q54]
        refine hK2 _ _ ?_
        refine W_reg rfl (s_add rfl rfl (by omega) (s_mv rfl (s_nil ?_)))
        exact ⟨n - (j + 1), by omega, _, j + 1, vo, u6 rfl rfl rfl rfl rfl rfl, by omega, rfl, by rw [hnext]; exact hlen, by rw [hnext]; exact hS⟩
      refine W_block ?_
      refine W_sr rfl (s_ia E rfl (congrArg (fun z => Value.slice z n c) hpa) rfl rfl (by omega) (s_lda E rfl rfl hrr rfl (s_alS hS E rfl rfl fun w9 g hS => (s_stS hS 6 E (us := chC x) rfl rfl rfl rfl rfl rfl rfl rfl rfl rfl fun w10 hS => (s_nil ?_)))))
      refine W_sr rfl (s_mv rfl (s_fa E rfl rfl (s_ld E rfl rfl (hS.cell 6 rfl rfl) (s_cvb E rfl rfl rfl (s_bsA E rfl rfl rfl rfl rfl (cells := #[bV (x.code % 256)]) (by kernel_rfl) fun w13 hE13 hh13 hs13 => have hS := hS.ext_ hE13; (s_apFS hS 1 E rfl rfl rfl rfl rfl rfl rfl (row_heap hh13) rfl rfl rfl (by omega) fun vo w14 hS => (s_as rfl (s_nil ?_))))))))
      have hS : Sep w w14 (flL gm gt mc vo (bs' ++ [x.code % 256]) u (rTk m 3) ++ [cl g (chC x) 50]) := by
        unfold flL
        rw [List.length_append, List.map_append]
        exact hS
      have hlb2 : (bs' ++ [x.code % 256]).length ≤ 13002 + 7 * j + 1 := by rw [List.length_append]; show _ + 1 ≤ _; omega
      refine W_sr rfl (s_mv rfl (s_nil ?_))
      refine W_block ?_
      refine W_loop (fun r ρ w' => ∃ ρ' k vo, ρ = upd (upd (upd (upd (upd (upd (upd (upd ρ' 1 (.pointer (some ⟨gm, 0, none⟩))) 3 vo) 4 (.pointer (some ⟨gt, 0, none⟩))) 9 (.pointer (some ⟨g, 0, none⟩))) 52 (.slice p n c)) 53 (iV n)) 54 (iV (j : Nat))) 64 (iV (k : Nat)) ∧ k ≤ 3 ∧ r = 3 - k ∧
          Sep w w' (flL gm gt mc vo (bs' ++ [x.code % 256] ++ (List.range k).flatMap (rDim m x)) u (rTk m 3) ++ [cl g (chC x) 50])) 3
        ⟨_, 0, vo, u8 rfl rfl rfl rfl rfl rfl rfl rfl, by omega, rfl, by simpa using hS⟩ ?_
      clear hS
      rintro r _ w15 ⟨ρ, k, vo, rfl, hk, rfl, hS⟩
      obtain ⟨bk, hbk⟩ : ∃ b, b = bs' ++ [x.code % 256] ++ (List.range k).flatMap (rDim m x) := ⟨_, rfl⟩
      have hlb3 : bk.length ≤ 13002 + 7 * j + 1 + 2 * k := by
        have h1 := flat_len_le (rDim m x) 2 (fun _ => by simp [rDim, bytes2]) (List.range k)
        rw [List.length_range] at h1
        rw [hbk, List.length_append]; omega
      rw [← hbk] at hS
      refine W_sr rfl (s_lss rfl rfl (s_nil ?_))
      refine W_seq ?_
      refine W_if rfl (fun hd => W_skip ?_) (fun hd => W_exit ?_)
      · have hd := of_decide_eq_true hd
        have hk3 : k < 3 := by omega
        have hTk : rTk m 3 k = rT m k := by unfold rTk; rw [if_pos hk3]
        have hTl := rT_len m k
        refine W_seq (W_block ?_)
        refine W_sr rfl (s_mv rfl (s_as rfl (s_nil ?_)))
        have hS := hS.drew
        have h6 : Sep w _ (flL gm gt mc vo bk u (rTk m 3)) := hS.take 6
        obtain ⟨qk, ck, huk, _, _⟩ := (h6.own (3 + k) (flL_own hk3)).form
        have hcell := h6.cell 2 rfl (opL_cell hk3)
        rw [huk] at hcell
        refine W_n9 1 3 4 9 10 52 53 54 64 (.pointer (some ⟨gm, 0, none⟩)) vo (.pointer (some ⟨gt, 0, none⟩)) (.pointer (some ⟨g, 0, none⟩)) (iV k) (.slice p n c) (iV n) (iV j) (iV k) rfl rfl rfl rfl rfl rfl rfl rfl rfl fun ρ => ?_
        refine W_d (fun w' => w'.cell? (Addr.add ⟨gt, 0, none⟩ (k * 1)) = some (.slice qk (rTk m 3 k).length ck) ∧ Row w' ⟨g, 0, none⟩ (chC x)) [] orders (D_pure 0 rfl rfl (by kernel_rfl) rfl (fun _ => r_mv rfl) (fun _ => ⟨by rw [← huk]; exact hS.cell 2 rfl (opL_cell hk3), hS.row 6 rfl⟩) (D_pure 1 rfl rfl (by kernel_rfl) rfl (fun _ => r_mv rfl) (fun _ => ⟨by rw [← huk]; exact hS.cell 2 rfl (opL_cell hk3), hS.row 6 rfl⟩) (D_pure 2 rfl rfl (by kernel_rfl) rfl (fun _ => r_iaA (i := k) E rfl rfl rfl rfl hk3) (fun _ => ⟨by rw [← huk]; exact hS.cell 2 rfl (opL_cell hk3), hS.row 6 rfl⟩) (D_take 3 rfl rfl (by kernel_rfl) rfl (fun _ hs => r_ld E rfl rfl hs.1) ⟨by rw [← huk]; exact hS.cell 2 rfl (opL_cell hk3), hS.row 6 rfl⟩ (D_take 4 rfl rfl (by kernel_rfl) rfl (fun _ hs => r_lda (xs := chC x) E rfl rfl hs.2 rfl) ⟨by rw [← huk]; exact hS.cell 2 rfl (opL_cell hk3), hS.row 6 rfl⟩ (D_pure 5 rfl rfl (by kernel_rfl) rfl (fun _ => r_mv rfl) (fun _ => ⟨by rw [← huk]; exact hS.cell 2 rfl (opL_cell hk3), hS.row 6 rfl⟩) (D_one 6 rfl (by kernel_rfl) rfl (s_callE hS rfl rfl (fleuronref27_dimension_c (c := x) hk3) fun w16 hS => have h6 : Sep w w16 (flL gm gt mc vo bk u (rTk m 3)) := hS.take 6; (s_nil ⟨⟨by rw [← huk]; exact hS.cell 2 rfl (opL_cell hk3), hS.row 6 rfl⟩, (D_one 7 rfl (by kernel_rfl) rfl (s_callp rfl rfl (fleuronref27_index_c (l := rTk m 3 k) (x := dimF k x) rfl (by rw [hTk]; omega) (Own.slr (by rw [← huk]; exact h6.own (3 + k) (flL_own hk3)))) (s_nil ⟨⟨by rw [← huk]; exact hS.cell 2 rfl (opL_cell hk3), hS.row 6 rfl⟩, (D_one 8 rfl (by kernel_rfl) rfl (s_bytes hS 1 rfl rfl rfl (bytes2_c (x := ((fidx (rTk m 3 k) (dimF k x) : Nat) : Int)) (hS.ownF 1 rfl) (by omega)) fun vo w17 hS => (s_nil ⟨⟨by rw [← huk]; exact hS.cell 2 rfl (opL_cell hk3), hS.row 6 rfl⟩, (D_one 9 rfl (by kernel_rfl) rfl (s_as rfl (s_nil ⟨⟨by rw [← huk]; exact hS.cell 2 rfl (opL_cell hk3), hS.row 6 rfl⟩, (D_done (by kernel_rfl) ?_)⟩)))⟩)))⟩)))⟩)))))))))
        refine W_reg rfl (s_add rfl rfl (by omega) (s_mv rfl (s_nil ?_)))
        refine ⟨3 - (k + 1), by omega, _, k + 1, vo, u8 rfl rfl rfl rfl rfl rfl rfl rfl, by omega, rfl, ?_⟩
        have e : bs' ++ [x.code % 256] ++ (List.range (k + 1)).flatMap (rDim m x) = bk ++ bytes2 (fidx (rTk m 3 k) (dimF k x) : Nat) := by
          rw [range_flat, ← List.append_assoc, ← hbk, rDim, hTk]
        rw [e]
        exact hS
      · have hd := of_decide_eq_false hd
        have h3 : k = 3 := by omega
        have hS6 : Sep w w15 (flL gm gt mc vo bk u (rTk m 3)) := hS.take 6
        rw [h3] at hbk
        rw [hbk] at hS6 hlb3
        exact H2 _ _ vo hS6 (by omega) rfl rfl rfl rfl rfl rfl
    · have hd := of_decide_eq_false hd
      have e : l.take j = l := List.take_of_length_le (by omega)
      rw [e, hl] at hS hlb
      exact H _ _ vo _ rfl (by omega) hS rfl rfl
  refine W_sr rfl (s_mv rfl (s_nil ?_))
  refine W_block ?_
  refine W_loop (fun r ρ w' => ∃ ρ' k vo u, ρ = upd (upd (upd (upd ρ' 1 (.pointer (some ⟨gm, 0, none⟩))) 3 vo) 4 (.pointer (some ⟨gt, 0, none⟩))) 18 (iV (k : Nat)) ∧ k ≤ 3 ∧ r = 3 - k ∧ (headB m ++ rTabs m k).length ≤ 8 + k * 4002 ∧ Sep w w' (flL gm gt mc vo (headB m ++ rTabs m k) u (rTk m k))) 3
    ⟨_, 0, vo, _, u4 rfl rfl rfl rfl, by omega, rfl, by simpa [rTabs] using hlen0, by simpa [rTabs] using hS⟩ ?_
  clear hS
  rintro r _ w6 ⟨ρ, k, vo, u, rfl, hk, rfl, hlb, hS⟩
  refine W_sr rfl (s_lss rfl rfl (s_nil ?_))
  refine W_seq ?_
  refine W_if rfl (fun hd => W_skip ?_) (fun hd => W_exit ?_)
  · have hd := of_decide_eq_true hd
    have hk3 : k < 3 := by omega
    refine W_sk fun K2 hK2 => ?_
    have H2 : ∀ (ρ : Fr) w' vo u, (headB m ++ rTabs m (k + 1)).length ≤ 8 + (k + 1) * 4002 → Sep w w' (flL gm gt mc vo (headB m ++ rTabs m (k + 1)) u (rTk m (k + 1))) → ρ 1 = .pointer (some ⟨gm, 0, none⟩) → ρ 3 = vo → ρ 4 = .pointer (some ⟨gt, 0, none⟩) → ρ 18 = iV k → K2 ρ w' := by
      intro ρ w' vo u hl hS q1 q3 q4 q18
      rw [u4 q1 q3 q4 q18]
      refine hK2 _ _ ?_
      refine W_reg rfl (s_add rfl rfl (by omega) (s_mv rfl (s_nil ?_)))
      exact ⟨3 - (k + 1), by omega, _, k + 1, vo, u, u4 rfl rfl rfl rfl, by omega, rfl, hl, hS⟩
    refine W_block ?_
    refine W_sr rfl (s_mv rfl (s_as rfl (s_nil ?_)))
    have call := fleuronref27_table_c (w := w6) (c := c) (k := k) rfl hb1 hk3 (Ext.sl hS.ext hm.ch)
    refine W_sr rfl (s_mv rfl (s_fa E rfl rfl (s_ld E rfl rfl (hS.cell 0 rfl hmc1) (s_mv rfl (s_call rfl rfl call ?_)))))
    rintro x w7 ⟨ho7, hn7, hE7⟩
    have hS := flL_set (t := rT m k) hk3 hS hE7 ho7 hn7
    refine (s_iaA (i := k) E rfl rfl rfl rfl hk3 (s_st1S hS 2 E rfl rfl rfl (ad0 gt (k * 1)) rfl ho7.one (by simp; omega) (opL_st hk3 x) fun w8 hS => (s_nil ?_)))
    have hT : Sep w w8 (flL gm gt mc vo (headB m ++ rTabs m k) (updV u k x) (rTk m (k + 1))) := by rw [← rTk_succ]; exact hS
    obtain ⟨u', hu'⟩ : ∃ u', u' = updV u k x := ⟨_, rfl⟩
    rw [← hu'] at hT
    have hux : u' k = x := by rw [hu']; simp [updV]
    obtain ⟨px, cx, rfl, hpx, hcx, _⟩ := ho7.form
    have hTk : rTk m (k + 1) k = rT m k := by unfold rTk; rw [if_pos (by omega)]
    obtain ⟨t, ht⟩ : ∃ t, t = rT m k := ⟨_, rfl⟩
    have htl := rT_len m k
    change _ = Value.slice px (rT m k).length cx at hux
    rw [← ht] at hTk htl hux
    have ho8 := hT.own (3 + k) (flL_own hk3)
    rw [hTk, hux] at ho8
    clear hpx ho7 hn7 call
    refine W_n5 1 3 4 5 18 (.pointer (some ⟨gm, 0, none⟩)) vo (.pointer (some ⟨gt, 0, none⟩)) (iV k) (iV k) rfl rfl rfl rfl rfl fun ρ => ?_
    refine W_sr rfl (s_mv rfl (s_mv rfl (s_iaA (i := k) E rfl rfl rfl rfl hk3 (s_ld E rfl rfl (by rw [← hux]; exact hT.cell 2 rfl (opL_cell hk3)) (s_len E rfl rfl (s_bytes hT 1 rfl rfl rfl (bytes2_c (x := (t.length : Nat)) (hT.ownF 1 rfl) (by omega)) fun vo w9 hS => (s_as rfl (s_nil ?_))))))))
    have hS : Sep w w9 (flL gm gt mc vo (headB m ++ rTabs m k ++ bytes2 t.length) u' (rTk m (k + 1))) := hS
    refine W_sr rfl (s_mv rfl (s_iaA (i := k) E rfl rfl rfl rfl hk3 (s_ld E rfl rfl (by rw [← hux]; exact hS.cell 2 rfl (opL_cell hk3)) (s_len E rfl rfl (s_mv rfl (s_nil ?_))))))
    refine W_block ?_
    refine W_loop (fun r ρ w' => ∃ ρ' j vo, ρ = upd (upd (upd (upd (upd (upd (upd ρ' 1 (.pointer (some ⟨gm, 0, none⟩))) 3 vo) 4 (.pointer (some ⟨gt, 0, none⟩))) 18 (iV k)) 35 (.slice px t.length cx)) 36 (iV t.length)) 37 (iV (j : Nat)) ∧ j ≤ t.length ∧ r = t.length - j ∧
        Sep w w' (flL gm gt mc vo (headB m ++ rTabs m k ++ bytes2 t.length ++ (t.take j).flatMap bytes4) u' (rTk m (k + 1)))) t.length
      ⟨_, 0, vo, u7 rfl rfl rfl rfl rfl rfl rfl, by omega, rfl, by simpa using hS⟩ ?_
    clear hS ho8
    rintro r _ w10 ⟨ρ, j, vo, rfl, hj, rfl, hS⟩
    have hl10 : (headB m ++ rTabs m k ++ bytes2 (t.length : Nat) ++ (t.take j).flatMap bytes4).length ≤ 8 + k * 4002 + 2 + 4 * j := by
      have h1 := flat_len_le bytes4 4 (fun _ => by simp [bytes4]) (t.take j)
      have h2 : (t.take j).length ≤ j := by simp; omega
      have h3 : (bytes2 (t.length : Nat)).length = 2 := rfl
      rw [List.length_append, List.length_append, h3]
      omega
    refine W_sr rfl (s_lss rfl rfl (s_nil ?_))
    refine W_seq ?_
    refine W_if rfl (fun hd => W_skip ?_) (fun hd => W_exit ?_)
    · have hd := of_decide_eq_true hd
      have hjl : j < t.length := by omega
      have ho := hS.own (3 + k) (flL_own hk3)
      rw [hTk, hux] at ho
      obtain ⟨a, ha, hcell⟩ := sl_map (Own.slr ho) hjl
      obtain ⟨y, hy⟩ : ∃ y, y = t[j] := ⟨_, rfl⟩
      rw [← hy] at hcell
      refine W_seq (W_block ?_)
      refine W_sr rfl (s_ia E rfl (congrArg (fun z => Value.slice z t.length cx) ha) rfl rfl (by omega) (s_ld E rfl rfl hcell (s_as rfl (s_nil ?_))))
      refine W_reg rfl (s_mv rfl (s_mv rfl (s_bytes hS 1 rfl rfl rfl (bytes4_c (x := y) (hS.ownF 1 rfl) (by omega)) fun vo w11 hS => (s_as rfl (s_nil ?_)))))
      refine W_reg rfl (s_add rfl rfl (by omega) (s_mv rfl (s_nil ?_)))
      refine ⟨t.length - (j + 1), by omega, _, j + 1, vo, u7 rfl rfl rfl rfl rfl rfl rfl, by omega, rfl, ?_⟩
      rw [flat_take bytes4 t j hjl, ← hy, ← List.append_assoc]
      exact hS
    · have hd := of_decide_eq_false hd
      have e : t.take j = t := List.take_of_length_le (by omega)
      rw [e] at hS hl10
      have e2 : headB m ++ rTabs m k ++ bytes2 (t.length : Nat) ++ t.flatMap bytes4 = headB m ++ rTabs m (k + 1) := by
        unfold rTabs
        rw [range_flat, ← ht, tabBytes]; simp only [List.append_assoc]
      rw [e2] at hS hl10
      exact H2 _ _ vo u' (by omega) hS rfl rfl rfl rfl
  · have hd := of_decide_eq_false hd
    have h3 : k = 3 := by omega
    subst h3
    exact H _ _ vo u (headB m ++ rTabs m 3) rfl (by omega) hS rfl rfl rfl
end
end Go.Proofs.YthfnijlgmjkedaaGreat
namespace Go.Proofs.YthfnijlgmjkedaaGreat
set_option maxRecDepth 100000
set_option maxHeartbeats 2000000
set_option linter.unusedVariables false
set_option linter.unusedSimpArgs false
open Go Go.Fx Go.Proofs.YthfnijlgmjkedaaGreat.Tab
def rdN (b : List Int) : Nat → Nat → Int → Bool → Int × Bool
  | 0, _, n, s => (n, s)
  | k + 1, at_, n, s => rdN b k (at_ + 1) (n * 256 + b.getD at_ 0) (s || decide (b.length ≤ at_))
section
variable {w : World}
theorem fleuronref27_Pack_c {m : Me} {p q : Option Addr} {c d : Nat} (hm : MeR w m p q) (hb1 : m.chars.length ≤ 1000) (hb2 : m.rules.length ≤ 1000) :
    Ret Go.Proofs.Tryz.prog 12 #[meV m p q c d] w fun v w' => (if validM m then ∃ p c, v = .tuple #[.slice p (fileR m).length c, iV 0] ∧ (fileR m).length ≤ c ∧ SlR w' p ((fileR m).map bV) else v = .tuple #[.slice none 0 0, iV 2]) ∧ Ext w w' := by
  refine enter Go.Proofs.Tryz.func12 rfl rfl rfl ?_
  have hS := Sep.start (w := w)
  refine W_sr rfl (s_bxS hS (vs := meC m p q c d) rfl rfl fun w1 gm hS => (s_as rfl (s_as rfl (s_nil ?_))))
  refine W_seq ?_
  cases hv : validM m
  · refine W_sr rfl (s_lda (xs := meC m p q c d) E rfl rfl (hS.row 0 rfl) rfl (s_callE hS rfl rfl (Ret.eqv (fleuronref27_Valid_c (hm.ext hS.ext)) (congrArg Value.bool hv)) fun w3 hS => (s_not rfl (s_nil ?_))))
    refine W_if rfl (fun _ => ?_) (fun h => by cases h)
    refine W_sr rfl (s_as rfl (s_as rfl (s_nil ?_)))
    exact W_ret ⟨_, rfl, rfl, hS.ext⟩
  refine W_sr rfl (s_lda (xs := meC m p q c d) E rfl rfl (hS.row 0 rfl) rfl (s_callE hS rfl rfl (Ret.eqv (fleuronref27_Valid_c (hm.ext hS.ext)) (congrArg Value.bool hv)) fun w3 hS => (s_not rfl (s_nil ?_))))
  refine W_if rfl (fun h => by cases h) (fun _ => W_skip ?_)
  refine W_sr rfl (s_lda (xs := meC m p q c d) E rfl rfl (hS.row 0 rfl) rfl (s_call rfl rfl (fleuronref27_File_c (hm.ext hS.ext) hb1 hb2) fun v w4 h4 => (s_as rfl (s_as rfl (s_nil ?_)))))
  obtain ⟨⟨pp, cc, rfl, h1, h2⟩, hE4⟩ := h4
  exact W_ret ⟨_, rfl, ⟨pp, cc, rfl, h1, h2⟩, hS.ext.trans hE4⟩
theorem fleuronref27_Bin_Number_c {r n c at_ many : Nat} {p : Option Addr} {b : List Int} {s : Bool} {ty : TypeId} (hh : w.heap[r]? = some (.cells #[.slice p n c, iV at_, .bool s] ty (0, 0))) (hp : SlR w p (b.map bV)) (hn : n = b.length) (hb : byt b) (hne : b ≠ [] → ∀ a, p = some a → a.block ≠ r) (hat : at_ ≤ 100000000) (hm : many ≤ 4) :
    Ret Go.Proofs.Tryz.prog 48 #[.pointer (some ⟨r, 0, none⟩), iV many] w fun v w' => v = iV (rdN b many at_ 0 s).1 ∧ w'.heap[r]? = some (.cells #[.slice p n c, iV (at_ + many : Nat), .bool (rdN b many at_ 0 s).2] ty (0, 0)) ∧ Mod (fun k => k = r) w w' := by
  refine enter Go.Proofs.Tryz.func48 rfl rfl rfl ?_
  refine W_sr rfl (s_as rfl (s_nil ?_))
  refine W_sr rfl (s_as rfl (s_nil ?_))
  refine W_seq ?_
  refine W_sr rfl (s_mv rfl (s_mv rfl (s_nil ?_)))
  refine W_block ?_
  refine W_loop (fun m ρ w' => ∃ ρ' j x t, ρ = upd (upd (upd (upd ρ' 0 (.pointer (some ⟨r, 0, none⟩))) 5 (iV x)) 6 (iV many)) 7 (iV (j : Nat)) ∧ j ≤ many ∧ m = many - j ∧ 0 ≤ x ∧ x < 256 ^ j ∧ rdN b (many - j) (at_ + j) x t = rdN b many at_ 0 s ∧ w'.heap[r]? = some (.cells #[.slice p n c, iV (at_ + j : Nat), .bool t] ty (0, 0)) ∧ Mod (fun k => k = r) w w') many
    ⟨_, 0, 0, s, u4 rfl rfl rfl rfl, by omega, by omega, by decide, by decide, rfl, hh, Mod.refl⟩ ?_
  rintro m _ w1 ⟨ρ, j, x, t, rfl, hj, rfl, hx0, hx1, hgo, hh1, hM1⟩
  refine W_sr rfl (s_lss rfl rfl (s_nil ?_))
  refine W_seq ?_
  refine W_if rfl (fun hc => W_skip ?_) (fun hc => W_exit ?_)
  · have hc := of_decide_eq_true hc
    have hjm : j < many := by omega
    have hx2 : x < 16777216 := by
      have h3 : j = 0 ∨ j = 1 ∨ j = 2 ∨ j = 3 := by omega
      rcases h3 with rfl | rfl | rfl | rfl
      · have e : (256 : Int) ^ 0 = 1 := by decide
        omega
      · have e : (256 : Int) ^ 1 = 256 := by decide
        omega
      · have e : (256 : Int) ^ 2 = 65536 := by decide
        omega
      · have e : (256 : Int) ^ 3 = 16777216 := by decide
        omega
    have hpow : (256 : Int) ^ (j + 1) = 256 ^ j * 256 := Int.pow_succ _ _
    have hgo' : rdN b (many - (j + 1)) (at_ + (j + 1)) (x * 256 + b.getD (at_ + j) 0) (t || decide (b.length ≤ at_ + j)) = rdN b many at_ 0 s := by
      rw [← hgo, show many - j = many - (j + 1) + 1 by omega]; rfl
    refine W_seq (W_block ?_)
    refine W_sr rfl (s_mv rfl (s_mul (a := x) (b := 256) rfl rfl (by omega) (s_as rfl (s_nil ?_))))
    refine W_sk fun K hK => ?_
    have H : ∀ (ρ : Fr) w' y t', 0 ≤ y → y < 256 ^ (j + 1) → rdN b (many - (j + 1)) (at_ + (j + 1)) y t' = rdN b many at_ 0 s → w'.heap[r]? = some (.cells #[.slice p n c, iV (at_ + j : Nat), .bool t'] ty (0, 0)) → Mod (fun k => k = r) w w' → ρ 0 = .pointer (some ⟨r, 0, none⟩) → ρ 5 = iV y → ρ 6 = iV many → ρ 7 = iV j → K ρ w' := by
      intro ρ w2 y t' hy0 hy1 hgo2 hh2 hM2 q0 q5 q6 q7
      rw [u4 q0 q5 q6 q7]
      refine hK _ _ ?_
      have hc1 : w2.cell? (Addr.add ⟨r, 0, none⟩ 1) = some (iV (at_ + j : Nat)) := by rw [ad0]; simp [World.cell?, hh2]
      refine W_reg rfl (s_mv rfl (s_nc rfl (s_fa E rfl rfl (s_ld E rfl rfl hc1 (s_add rfl rfl (by omega) (s_nc rfl (s_fa E rfl rfl (s_st1 E rfl rfl (ad0 r 1) rfl rfl hh2 (by simp) (s_nil ?_)))))))))
      refine W_reg rfl (s_add rfl rfl (by omega) (s_mv rfl (s_nil ?_)))
      refine ⟨many - (j + 1), by omega, _, j + 1, y, t', u4 rfl rfl rfl rfl, by omega, rfl, hy0, hy1, hgo2, ?_, hM2.trans (setRow_mod rfl)⟩
      have := setRow_heap w2 r _ #[.slice p n c, iV (at_ + (j + 1) : Nat), .bool t'] ty (0, 0) hh2
      exact this
    have hc0 : ∀ w', Ext w1 w' → w'.cell? (Addr.add ⟨r, 0, none⟩ 0) = some (.slice p n c) := fun w' h => Ext.cell h (by rw [ad0]; simp [World.cell?, hh1])
    have hc1 : ∀ w', Ext w1 w' → w'.cell? (Addr.add ⟨r, 0, none⟩ 1) = some (iV (at_ + j : Nat)) := fun w' h => Ext.cell h (by rw [ad0]; simp [World.cell?, hh1])
    refine W_n4 0 5 6 7 (.pointer (some ⟨r, 0, none⟩)) (iV (x * 256)) (iV many) (iV j) rfl rfl rfl rfl fun ρ => ?_
    by_cases hin : at_ + j < b.length
    · refine W_qr (Ext w1) orders rfl (by kernel_rfl) (Ext.drew0) (q_mv rfl (q_nc rfl (q_fa E rfl rfl (q_ld E rfl rfl hc1 (q_cmp (c := true) rfl rfl (decide_eq_true (by omega)) (q_mv rfl (q_g1 rfl (q_mv rfl (q_g1 rfl (q_nc rfl (q_g1 rfl (q_fa E rfl rfl (q_g1 rfl (q_ld E rfl rfl hc1 (q_g1 rfl (q_mv rfl (q_g1 rfl (q_nc rfl (q_g1 rfl (q_fa E rfl rfl (q_g1 rfl (q_ld E rfl rfl hc0 (q_g1 rfl (q_len E rfl rfl (q_g1 rfl (q_cmp (c := true) rfl rfl (decide_eq_true (show ((at_ + j : Nat) : Int) < ((n : Nat) : Int) by omega)) (q_pk rfl (q_nil ?_))))))))))))))))))))))))))))
      intro w2 hE2
      refine W_if rfl (fun _ => ?_) (fun h => by cases h)
      have hpw : SlR w2 p (b.map bV) := Ext.sl hE2 (SlR.keep hM1 hp (fun hx a ha => hne (fun h0 => hx (by rw [h0]; rfl)) a ha))
      obtain ⟨a, hpa, hcell⟩ := sl_bytes hpw hin
      have hby := hb b[at_ + j] (List.getElem_mem hin)
      have hget : b.getD (at_ + j) 0 = b[at_ + j] := by simp [hin]
      obtain ⟨y, hy⟩ : ∃ y, y = b[at_ + j] := ⟨_, rfl⟩
      rw [← hy] at hcell hby hget
      rw [hget, decide_eq_false (show ¬ b.length ≤ at_ + j by omega), Bool.or_false] at hgo'
      have e2 : IntKind.i64.wrap y = y := wrap64_in (by omega) (by omega)
      refine W_q (Ext w2) orders rfl (by kernel_rfl) (Ext.drew0) (q_mv rfl (q_mv rfl (q_nc rfl (q_fa E rfl rfl (q_ld E rfl rfl (fun w' h => hc0 w' (hE2.trans h)) (q_mv rfl (q_nc rfl (q_fa E rfl rfl (q_ld E rfl rfl (fun w' h => hc1 w' (hE2.trans h)) (q_ia (i := at_ + j) E rfl (congrArg (fun z => Value.slice z n c) hpa) rfl rfl (by omega) (q_ld E rfl rfl (fun w' h => Ext.cell h hcell) (q_cv E rfl rfl rfl (q_add (a := x * 256) (b := y) rfl (congrArg iV e2) (by omega) (q_as rfl (q_nil ?_)))))))))))))))
      intro w3 hE3
      have hE13 := hE2.trans hE3
      exact H _ _ (x * 256 + y) t (by omega) (by omega) hgo' (Ext.heap hE13 hh1) (hM1.trans (Mod.of_ext hE13)) rfl rfl rfl rfl
    · refine W_qr (Ext w1) orders rfl (by kernel_rfl) (Ext.drew0) (q_mv rfl (q_nc rfl (q_fa E rfl rfl (q_ld E rfl rfl hc1 (q_cmp (c := true) rfl rfl (decide_eq_true (by omega)) (q_mv rfl (q_g1 rfl (q_mv rfl (q_g1 rfl (q_nc rfl (q_g1 rfl (q_fa E rfl rfl (q_g1 rfl (q_ld E rfl rfl hc1 (q_g1 rfl (q_mv rfl (q_g1 rfl (q_nc rfl (q_g1 rfl (q_fa E rfl rfl (q_g1 rfl (q_ld E rfl rfl hc0 (q_g1 rfl (q_len E rfl rfl (q_g1 rfl (q_cmp (c := false) rfl rfl (decide_eq_false (show ¬ ((at_ + j : Nat) : Int) < ((n : Nat) : Int) by omega)) (q_pk rfl (q_nil ?_))))))))))))))))))))))))))))
      intro w2 hE2
      refine W_if rfl (fun h => by cases h) (fun _ => ?_)
      have hget : b.getD (at_ + j) 0 = 0 := by rw [List.getD_eq_getElem?_getD, List.getElem?_eq_none (by omega)]; rfl
      rw [hget, decide_eq_true (show b.length ≤ at_ + j by omega), Bool.or_true, Int.add_zero] at hgo'
      have hh2 := Ext.heap hE2 hh1
      refine W_reg rfl (s_mv rfl (s_nc rfl (s_fa E rfl rfl (s_st1 E rfl rfl (ad0 r 2) rfl rfl hh2 (by simp) (s_nil ?_)))))
      have := setRow_heap w2 r _ #[.slice p n c, iV (at_ + j : Nat), .bool true] ty (0, 0) hh2
      exact H _ _ (x * 256) true (by omega) (by omega) hgo' this ((hM1.trans (Mod.of_ext hE2)).trans (setRow_mod rfl)) rfl rfl rfl rfl
  · have hc := of_decide_eq_false hc
    obtain rfl : j = many := by omega
    refine W_sr rfl (s_mv rfl (s_as rfl (s_nil ?_)))
    rw [Nat.sub_self] at hgo
    exact W_ret ⟨_, rfl, by rw [← hgo]; rfl, by rw [← hgo]; exact hh1, hM1⟩
theorem rdN_bd {b : List Int} (hb : byt b) : ∀ (k at_ : Nat) (n : Int) (s : Bool) (j : Nat), 0 ≤ n ∧ n < 256 ^ j → 0 ≤ (rdN b k at_ n s).1 ∧ (rdN b k at_ n s).1 < 256 ^ (j + k)
  | 0, _, n, s, j, h => h
  | k + 1, at_, n, s, j, h => by
    have hg : 0 ≤ b.getD at_ 0 ∧ b.getD at_ 0 < 256 := by
      rw [List.getD_eq_getElem?_getD]
      cases hx : b[at_]? with
      | none => simp
      | some y => simpa using hb y (List.mem_of_getElem? hx)
    have hp : (256 : Int) ^ (j + 1) = 256 ^ j * 256 := Int.pow_succ _ _
    have := rdN_bd hb k (at_ + 1) (n * 256 + b.getD at_ 0) (s || decide (b.length ≤ at_)) (j + 1) (by omega)
    rw [show j + (k + 1) = j + 1 + k by omega]
    exact this
def rdS (b : List Int) (at_ : Nat) (s : Bool) : Int := s32 (rdN b 4 at_ 0 s).1
theorem fleuronref27_Bin_Signed_c {r n c at_ : Nat} {p : Option Addr} {b : List Int} {s : Bool} {ty : TypeId} (hh : w.heap[r]? = some (.cells #[.slice p n c, iV at_, .bool s] ty (0, 0))) (hp : SlR w p (b.map bV)) (hn : n = b.length) (hb : byt b) (hne : b ≠ [] → ∀ a, p = some a → a.block ≠ r) (hat : at_ ≤ 100000000) :
    Ret Go.Proofs.Tryz.prog 47 #[.pointer (some ⟨r, 0, none⟩)] w fun v w' => v = iV (rdS b at_ s) ∧ w'.heap[r]? = some (.cells #[.slice p n c, iV (at_ + 4 : Nat), .bool (rdN b 4 at_ 0 s).2] ty (0, 0)) ∧ Mod (fun k => k = r) w w' := by
  refine enter Go.Proofs.Tryz.func47 rfl rfl rfl ?_
  refine W_sr rfl (s_as rfl (s_nil ?_))
  refine W_sr rfl (s_mv rfl (s_call rfl rfl (fleuronref27_Bin_Number_c (many := 4) hh hp hn hb hne hat (by decide)) fun v w1 h1 => (s_as rfl (s_nil ?_))))
  obtain ⟨rfl, hh1, hM1⟩ := h1
  have hbd := rdN_bd hb 4 at_ 0 s 0 (by decide)
  rw [show (256 : Int) ^ (0 + 4) = 4294967296 from by decide] at hbd
  unfold rdS
  obtain ⟨x, hx⟩ : ∃ x, x = (rdN b 4 at_ 0 s).1 := ⟨_, rfl⟩
  rw [← hx] at hbd ⊢
  refine W_n1 3 (iV x) (by rw [hx]; rfl) fun ρ => ?_
  refine W_seq ?_
  refine W_sr rfl (s_mv rfl (s_geq rfl rfl (s_nil ?_)))
  refine W_if rfl (fun hd => ?_) (fun hd => W_skip ?_)
  · have hd := of_decide_eq_true hd
    refine W_reg rfl (s_mv rfl (s_sub rfl rfl (by omega) (s_as rfl (s_nil ?_))))
    refine W_sr rfl (s_mv rfl (s_as rfl (s_nil ?_)))
    exact W_ret ⟨_, rfl, by unfold s32; rw [if_neg (by omega)]; rfl, hh1, hM1⟩
  · have hd := of_decide_eq_false hd
    refine W_sr rfl (s_mv rfl (s_as rfl (s_nil ?_)))
    exact W_ret ⟨_, rfl, by unfold s32; rw [if_pos (by omega)]; rfl, hh1, hM1⟩
end
end Go.Proofs.YthfnijlgmjkedaaGreat
